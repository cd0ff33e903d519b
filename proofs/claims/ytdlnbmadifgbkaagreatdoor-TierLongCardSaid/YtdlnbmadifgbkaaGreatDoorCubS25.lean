/- A call that asks nothing but the laid variables, and gives a plain value, may be made anywhere: what lies elsewhere stays. -/
import Derived.Test.YtdlnbmadifgbkaaGreatDoorCubS24
namespace Go.Cub
set_option linter.unusedVariables false
set_option linter.unusedSimpArgs false
open Go
section
variable {P : Program} {gok : Nat → Bool} {G : List (Nat × List Value)} {n : Nat}

theorem VRel.atom_eq {m : AMap} {v v' : Value} (h : VRel m v v') (ha : isAtom v = true) : v' = v := by
  cases h <;> first | rfl | simp [isAtom] at ha
theorem LRel.atoms_eq {m : AMap} {l l' : List Value} (h : LRel m l l') (ha : l.all isAtom = true) : l' = l := by
  apply List.ext_getElem?
  intro i
  rcases Nat.lt_or_ge i l.length with hi | hi
  · have h1 := List.getElem?_eq_getElem hi
    have h2 := List.getElem?_eq_getElem (h.len ▸ hi : i < l'.length)
    have := (h.at_ i _ _ h1 h2).atom_eq (List.all_eq_true.1 ha _ (List.getElem_mem hi))
    rw [h1, h2, this]
  · rw [List.getElem?_eq_none hi, List.getElem?_eq_none (by rw [← h.len]; exact hi)]

theorem conc_frame (hg : ∀ g, gok g = true → g < n) (hG : ∀ i cs, lookG G i = some cs → cs.all isAtom = true) {f : FuncId} {args : List Value} {K0 K : Value → AHeap → Prop} {H : AHeap}
    (hrun : Conc P gok (.call f args) K0 (layG G n)) (ha : args.all isAtom = true) (hK : ∀ v h, K0 v h → isAtom v = true ∧ K v H)
    (hH : ∀ i cs, i < n → lookG G i = some cs → H.get i = some (.cells ⟨cs, none, false, false⟩)) : Conc P gok (.call f args) K H := by
  intro m w args' HR GR LR
  have hm0 : ∃ m0 : AMap, m0 = fun i => if i < n then (match lookG G i with | some _ => m i | none => some none) else none := ⟨_, rfl⟩
  obtain ⟨m0, hm0⟩ := hm0
  have m0some : ∀ i t, m0 i = some (some t) → i < n ∧ (∃ cs, lookG G i = some cs) ∧ m i = some (some t) := by
    intro i t e
    rw [hm0] at e
    by_cases hi : i < n
    · simp only [hi, if_true] at e
      cases hl : lookG G i with
      | none => rw [hl] at e; cases e
      | some cs => rw [hl] at e; exact ⟨hi, ⟨cs, rfl⟩, e⟩
    · simp only [hi, if_false] at e; cases e
  have H0 : HRel m0 (layG G n) w := by
    refine ⟨fun i hi => ?_, fun i t e => ?_, fun i e => ?_, fun i i' t t' e e' ej => ?_⟩
    · rw [layG_next]
      rcases Nat.lt_or_ge i n with g | g
      · exact g
      · exact absurd (by rw [hm0]; simp only [show ¬ i < n by omega, if_false]) hi
    · obtain ⟨hi, ⟨cs, hl⟩, em⟩ := m0some i t e
      obtain ⟨o, o', h1, h2, h3⟩ := HR.live i t em
      rw [hH i cs hi hl] at h1
      cases h1
      refine ⟨_, o', by rw [layG_get, if_pos hi, hl], h2, ?_⟩
      cases o' <;> simp only [ORel] at h3 ⊢
      obtain ⟨a, b, c, d, e, f, g, k⟩ := h3
      refine ⟨a, b, c, d, e, ?_, g, k⟩
      have hat := hG i cs hl
      rw [f.atoms_eq (by simpa using hat)]
      exact LRel.atoms (by simpa using hat)
    · rw [hm0] at e
      by_cases hi : i < n
      · simp only [hi, if_true] at e
        cases hl : lookG G i with
        | none => rw [layG_get, if_pos hi, hl]
        | some cs =>
          rw [hl] at e
          have := HR.dead i e
          rw [hH i cs hi hl] at this
          cases this
      · simp only [hi, if_false] at e; cases e
    · exact HR.inj i i' t t' (m0some i t e).2.2 (m0some i' t' e').2.2 ej
  have G0 : ∀ g, gok g = true → PRel m0 ⟨g, 0, none⟩ ⟨g, 0, none⟩ := by
    intro g hgk
    have hi := hg g hgk
    cases hl : lookG G g with
    | none => exact .inl (by rw [hm0]; simp only [hi, if_true, hl])
    | some cs =>
      have e : m0 g = m g := by rw [hm0]; simp only [hi, if_true, hl]
      have := GR g hgk
      unfold PRel at this ⊢
      rw [show m0 (Addr.mk g 0 none).block = m (Addr.mk g 0 none).block from e]
      exact this
  have hargs := LR.atoms_eq ha
  subst hargs
  refine BodyWp.mono (hrun m0 w args' H0 G0 (LRel.atoms ha)) ?_
  intro v' w' hr
  obtain ⟨v, h', m', hk0, hv, _, E⟩ := hr
  obtain ⟨hva, hk⟩ := hK v h' hk0
  have hv' := hv.atom_eq hva
  subst hv'
  have same : ∀ i t, m i = some (some t) → ∀ o', w.heap[t.j]? = some o' → w'.heap[t.j]? = w.heap[t.j]? := by
    intro i t e o' ho
    by_cases hx : ∃ i0 t0, m0 i0 = some (some t0) ∧ t0.j = t.j
    · obtain ⟨i0, t0, e0, ej⟩ := hx
      obtain ⟨hi, ⟨cs, hl⟩, em⟩ := m0some i0 t0 e0
      have := (E.ro i0 t0 ⟨cs, none, false, false⟩ e0 (by rw [layG_get, if_pos hi, hl]) rfl).2.2
      rw [← ej]; exact this
    · exact E.frC t.j (Array.getElem?_eq_some_iff.1 ho).1 (fun i0 t0 e0 ej => hx ⟨i0, t0, e0, ej⟩)
  refine ⟨_, H, m, hk, .atom hva, ⟨HR.dom, fun i t e => ?_, HR.dead, HR.inj⟩, ?_⟩
  · obtain ⟨o, o', h1, h2, h3⟩ := HR.live i t e
    exact ⟨o, o', h1, by rw [same i t e o' h2, h2], h3⟩
  · refine ⟨.refl m, Nat.le_refl _, E.size, E.os, E.tape, E.output, fun _ _ _ _ => rfl, fun j hj hx => E.frC j hj (fun i t e => hx i t (m0some i t e).2.2), fun i e e' => absurd e e', fun i t e _ => ⟨i, t, e, rfl⟩, fun i t b e e' _ => ⟨e, e', ?_⟩⟩
    obtain ⟨o, o', h1, h2, h3⟩ := HR.live i t e
    exact same i t e o' h2

/-- The law itself, by what is known of its calls. -/
theorem law_conc {w : World} (hg : ∀ g, gok g = true → g < n) (hw : LaidIn G n w) {f : FuncId} {args : List Value} {K : Value → AHeap → Prop} (ha : args.all isAtom = true) (hK : ∀ v h, K v h → v = .bool true) (hc : Conc P gok (.call f args) K (layG G n)) :
    Calls P f args.toArray w fun e w' => e = .returned (.bool true) ∧ w.kept w' := by
  have H := hrel_laid hw
  have hb := hc (mapG G n) w args H (grel_laid hg) (LRel.atoms ha)
  refine ((hb.callsIn none).calls (fun k => room0 none k)).mono fun e w' he => ?_
  cases e with
  | panicked ch => exact he.elim
  | outgrown => exact he.elim
  | returned v' =>
    obtain ⟨v, h', m', hk, hv, H', E⟩ := he
    have := hK v h' hk
    subst this
    refine ⟨by rw [hv.bool], E.os, E.output, fun i hi => ?_⟩
    by_cases hm : ∃ k t, mapG G n k = some (some t) ∧ t.j = i
    · obtain ⟨k, t, hm, rfl⟩ := hm
      have hm0 := hm
      unfold mapG at hm
      split at hm
      · rename_i hlt
        rw [Option.some.injEq] at hm
        cases hgk : lookG G k with
        | none => rw [hgk] at hm; cases hm
        | some cs =>
          rw [hgk] at hm; cases hm
          exact (E.ro k _ ⟨cs, none, false, false⟩ hm0 (by rw [layG_get, if_pos hlt, hgk]) rfl).2.2
      · cases hm
    · exact E.frC i hi (fun k t hk' e => hm ⟨k, t, hk', e⟩)
end
end Go.Cub
