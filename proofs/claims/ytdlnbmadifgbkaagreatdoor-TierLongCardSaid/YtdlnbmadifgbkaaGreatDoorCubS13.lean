/- One operation in the model's walk. -/
import Derived.Test.YtdlnbmadifgbkaaGreatDoorCubS12
namespace Go.Cub
set_option linter.unusedVariables false
set_option linter.unusedSimpArgs false
open Go

/-- The deferred calls, and the marks that loops over functions leave among them. -/
inductive DRel (m : AMap) (w : World) : List (Value × List Value) → List Deferred → List Nat → Prop
  | nil : DRel m w [] [] []
  | mark {ds : List (Value × List Value)} {ds' : List Deferred} {D : Nat} {Ds : List Nat} (hD : w.heap[D]? = some (.deferred (some []))) (hm : ∀ i t, m i = some (some t) → t.j ≠ D) (hn : D ∉ Ds) (h : DRel m w ds ds' Ds) :
      DRel m w ds ({ target := .collected D, args := #[] } :: ds') (D :: Ds)
  | call {f : Value} {args : List Value} {fn : Fn} {first cap : Array Value} {args' : List Value} {ds : List (Value × List Value)} {ds' : List Deferred} {Ds : List Nat}
      (hf : VRel m f (.func fn first cap)) (ha : LRel m args args') (h : DRel m w ds ds' Ds) : DRel m w ((f, args) :: ds) ({ target := .fn fn cap, args := first ++ args'.toArray } :: ds') Ds

theorem DRel.mono {S : Nat → Prop} {m m' : AMap} {h h' : AHeap} {w w' : World} (E : Ext S m h w m' h' w') {ds : List (Value × List Value)} {ds' : List Deferred} {Ds : List Nat} (d : DRel m w ds ds' Ds) : DRel m' w' ds ds' Ds := by
  induction d with
  | nil => exact .nil
  | mark hD hm hn _ ih =>
    have hlt := (Array.getElem?_eq_some_iff.1 hD).1
    refine .mark ((E.frC _ hlt (fun i t e => hm i t e)).trans hD) (fun i t e ej => ?_) hn ih
    obtain ⟨i₀, t₀, e₀, ej₀⟩ := E.ran i t e (by rw [ej]; exact hlt)
    exact hm i₀ t₀ e₀ (ej₀.trans ej)
  | call hf ha _ ih => exact .call (hf.mono E.le) (ha.mono E.le) ih

section
variable {P : Program} {gok : Nat → Bool} {m : AMap} {h : AHeap} {w : World}

theorem about_true (o : Oper) (a : Act) (r : Option Nat) : ∀ f, o.about P w a.eval = some f → (F0 r).fn f := fun _ _ => trivial

theorem run_callFunc {g : FuncId} {fn : Func} {c : Code} {args : Array Value} (hf : P.funcs[g]? = some fn) (hb : fn.body = some c) (hn : (fn.name == "runtime.NumGoroutine") = false) :
    (callFunc g args).run P w = .ok (.enter g args) w := by
  have hn' : ¬ fn.name = "runtime.NumGoroutine" := by simpa using hn
  simp [callFunc, hf, hb, hn']

theorem semAt_call {r : Option Nat} {ρ : Operand → Value} {dst : Option Tmp} {c : Call} {ty : TypeId} {pos : String} {after : Array Edge} {guard : Option (Nat × Bool)} :
    Oper.semAt r ρ ⟨dst, .call c, ty, pos, after, guard⟩ = execOp ρ ⟨dst, .call c, ty, pos, after, guard⟩ := Oper.semAt_eq _ _ _ (by simp)

/-- A call of a function value. -/
theorem callV_sound {fv fv' : Value} {args args' : List Value} {K : Value → AHeap → Prop} (hc : callV (Conc P gok) fv args K h) (H : HRel m h w) (hg : ∀ g, gok g = true → PRel m ⟨g, 0, none⟩ ⟨g, 0, none⟩)
    (hf : VRel m fv fv') (ha : LRel m args args') :
    ∃ fn first cap, fv' = .func fn first cap ∧
      ((∃ g, fn = .func g ∧ BodyWp P g (first ++ args'.toArray ++ cap) w (Rets m h w K)) ∨
       (∃ l L, fn = .yield l ∧ w.heap[l]? = some (.loop L) ∧ (first ++ args'.toArray).size = L.params.size ∧
        RoundIn (F0 none) 0 P l L.fn ((L.params.zip (first ++ args'.toArray)).foldl (fun tmps (t, a) => tmps.setIfInBounds t a) L.tmps) L.assign L.body w (retP (Rets m h w K)))) := by
  unfold callV at hc
  split at hc
  · rename_i g first cap
    obtain ⟨fn', first', cap', rfl, hfn, hfi, hca⟩ := hf.func_inv
    simp only [FnRel] at hfn; subst hfn
    refine ⟨_, first', cap', rfl, .inl ⟨g, rfl, ?_⟩⟩
    have := hc m w (first'.toList ++ args' ++ cap'.toList) H hg ((hfi.append ha).append hca)
    have e : (first'.toList ++ args' ++ cap'.toList).toArray = first' ++ args'.toArray ++ cap' := by apply Array.ext'; simp
    rwa [e] at this
  · rename_i l first cap
    obtain ⟨fn', first', cap', rfl, hfn, hfi, hca⟩ := hf.func_inv
    cases fn' <;> simp only [FnRel] at hfn
    rename_i l'
    obtain ⟨L, a, b, c⟩ := hc m w (first'.toList ++ args') l' H hg (hfi.append ha) hfn
    have e : (first'.toList ++ args').toArray = first' ++ args'.toArray := by apply Array.ext'; simp
    rw [e] at c
    refine ⟨_, first', cap', rfl, .inr ⟨l', L, rfl, a, ?_, c⟩⟩
    rw [← b]; simp
  · exact hc.elim

theorem run_yield' {l : Nat} {L : Loop} {args : Array Value} (hl : w.heap[l]? = some (.loop L)) (hn : args.size = L.params.size) :
    (Instr.yield l args).run P w = .ok (.round l L.fn ((L.params.zip args).foldl (fun tmps (t, a) => tmps.setIfInBounds t a) L.tmps) L.assign L.body) w := by
  simp [Instr.yield, Instr.getLoop, run_getObj hl (by simp), hn]

/-- What is done behind an operation. -/
def NextOk (o : Oper) (id : Nat) (a : AAct) (a' : Act) (m : AMap) (h : AHeap) (w : World) (Ds : List Nat) (K : Value → AAct → AHeap → Prop) (next : Act → World → Prop) : Prop :=
  ∀ v a₁ h₁, K v a₁ h₁ → ∀ m₁ w₁ v' (a₁' : Act), VRel m₁ v v' → HRel m₁ h₁ w₁ → Ext (fun i => i = id ∨ h.next ≤ i) m h w m₁ h₁ w₁ → a₁.env = a.env → a₁'.tmps = a'.tmps → DRel m₁ w₁ a₁.defers a₁'.defers Ds → next (a₁'.put o.dst v') w₁

theorem ESRel.cons_inv {e : MapEntry} {l l' : List MapEntry} (hr : ESRel m (e :: l) l') : ∃ e' r', l' = e' :: r' ∧ ERel m e e' ∧ ESRel m l r' := by
  cases l' with
  | nil => have := hr.len; simp at this
  | cons e' r' => exact ⟨e', r', rfl, hr.at_ 0 e e' rfl rfl, by simpa using hr.len, fun n u u' a b => hr.at_ (n + 1) u u' (by simpa using a) (by simpa using b)⟩
theorem ESRel.cons {e e' : MapEntry} {l l' : List MapEntry} (he : ERel m e e') (hr : ESRel m l l') : ESRel m (e :: l) (e' :: l') :=
  ⟨by simp [hr.len], fun i a b ha hb => by
    cases i with
    | zero => simp at ha hb; subst ha; subst hb; exact he
    | succ i => simp at ha hb; exact hr.at_ i _ _ ha hb⟩
theorem ESRel.filter {p q : MapEntry → Bool} (hp : ∀ e e', ERel m e e' → p e = q e') : ∀ {l l' : List MapEntry}, ESRel m l l' → ESRel m (l.filter p) (l'.filter q) := by
  intro l
  induction l with
  | nil => intro l' hr; have : l' = [] := by have := hr.len; cases l' <;> simp_all
           subst this; exact ⟨rfl, by simp⟩
  | cons e l ih =>
    intro l' hr
    obtain ⟨e', r', rfl, he, ht⟩ := hr.cons_inv
    simp only [List.filter_cons, ← hp e e' he]
    split
    · exact (ih ht).cons he
    · exact ih ht
theorem ESRel.mem {l l' : List MapEntry} (hr : ESRel m l l') {e' : MapEntry} (h : e' ∈ l') : ∃ e ∈ l, ERel m e e' := by
  induction l generalizing l' with
  | nil => have : l' = [] := by have := hr.len; cases l' <;> simp_all
           subst this; simp at h
  | cons a l ih =>
    obtain ⟨a', r', rfl, ha, ht⟩ := hr.cons_inv
    simp only [List.mem_cons] at h
    rcases h with rfl | h
    · exact ⟨a, by simp, ha⟩
    · obtain ⟨e, he, hr⟩ := ih ht h; exact ⟨e, by simp [he], hr⟩
theorem ESRel.all {p q : MapEntry → Bool} (hp : ∀ e e', ERel m e e' → p e = q e') : ∀ {l l' : List MapEntry}, ESRel m l l' → l.all p = l'.all q := by
  intro l
  induction l with
  | nil => intro l' hr; have : l' = [] := by have := hr.len; cases l' <;> simp_all
           subst this; rfl
  | cons e l ih =>
    intro l' hr
    obtain ⟨e', r', rfl, he, ht⟩ := hr.cons_inv
    simp only [List.all_cons, ← hp e e' he, ih ht]

theorem run_mapNext {n : Nat} (hn : 0 < n) : ∃ k d, (choose (.mapNext n)).run P w = .ok k { w with drawn := d } ∧ k < n := by
  by_cases h1 : n ≤ 1
  · exact ⟨0, w.drawn, by simp [Question.forced, h1], hn⟩
  · exact ⟨w.tape w.drawn (.mapNext n) % n, w.drawn + 1, by simp [Question.forced, h1, Question.cut], Nat.mod_lt _ hn⟩

theorem nextA_sound {it it' : Value} {s : Bool} {K : Value → AHeap → Prop} {ty : TypeId} (hn : nextA it s K h) (H : HRel m h w) (hi : VRel m it it') :
    ∃ v v' h' w', (Instr.next it' s ty).run P w = .ok v' w' ∧ K v h' ∧ VRel m v v' ∧ HRel m h' w' ∧ Ext (fun _ => False) m h w m h' w' := by
  unfold nextA at hn
  split at hn
  · rename_i r sp
    obtain ⟨b, rfl, hp⟩ := hi.ptr_inv
    split at hn
    · -- over a string
      rename_i s0 pos hg
      obtain ⟨t, hm, rfl⟩ := H.tgt hp hg (by simp)
      obtain ⟨o, o', ho, ho', hr⟩ := H.live _ t hm
      rw [show ({ block := r, off := 0, spot := sp } : Addr).block = r from rfl] at ho hm
      rw [hg] at ho; cases ho
      cases o' <;> simp only [ORel] at hr
      obtain ⟨hkd, hsh, rfl, rfl⟩ := hr
      split at hn
      · rename_i hlt
        have hlt := le_of_ble hlt
        obtain ⟨hs, H', E⟩ := setObj_sound (P := P) (o := .strIter s0 pos) (o2 := .strIter s0 (pos + (Utf8.decode s0 pos).2)) (o2' := .stringIter s0 (pos + (Utf8.decode s0 pos).2)) H hm ho' (by simp) (show ORel m t _ _ from ⟨hkd, hsh, rfl, rfl⟩) (fun _ => False)
        refine ⟨_, _, _, _, ?_, hn, .tupleL (l := [_, _, _]) (l' := [_, _, _]) (.cons (.atom (v := .bool true) rfl) (.cons (.atom (v := goInt pos) rfl) (.cons (.atom (v := .int .i32 (Utf8.decode s0 pos).1) rfl) .nil))), H', E⟩
        simp only [hsh, Nat.add_zero]
        have hlt' : pos < s0.size := hlt
        simp [Instr.next, run_getObj ho' (by simp), hlt', hs]
      · rename_i hlt
        have hge : ¬ pos < s0.size := fun hh => by rw [Nat.ble_eq_true_of_le (show pos + 1 ≤ s0.size from hh)] at hlt; cases hlt
        refine ⟨_, _, _, _, ?_, hn, .tupleL (l := [_]) (l' := [_]) (.cons (.atom (v := .bool false) rfl) .nil), H, .refl _ _ _ _⟩
        simp only [hsh, Nat.add_zero]
        simp [Instr.next, run_getObj ho' (by simp), hge]
    · -- over nothing
      rename_i a1 a2 a3 hg
      obtain ⟨t, hm, rfl⟩ := H.tgt hp hg (by simp)
      obtain ⟨o, o', ho, ho', hr⟩ := H.live _ t hm
      rw [show ({ block := r, off := 0, spot := sp } : Addr).block = r from rfl] at ho hm
      rw [hg] at ho; cases ho
      cases o' <;> simp only [ORel] at hr
      rename_i mp' _ _ _
      obtain ⟨hkd, hsh, rfl, rfl, rfl, hrr⟩ := hr
      cases mp' with
      | some _ => simp at hrr
      | none =>
        refine ⟨_, _, _, _, ?_, hn, .tupleL (l := [_]) (l' := [_]) (.cons (.atom (v := .bool false) rfl) .nil), H, .refl _ _ _ _⟩
        simp only [hsh, Nat.add_zero]
        simp [Instr.next, run_getObj ho' (by simp)]
    · -- over a map
      rename_i mp since seen last hg
      obtain ⟨t, hm, rfl⟩ := H.tgt hp hg (by simp)
      obtain ⟨o, o', ho, ho', hr⟩ := H.live _ t hm
      rw [show ({ block := r, off := 0, spot := sp } : Addr).block = r from rfl] at ho hm
      rw [hg] at ho; cases ho
      cases o' <;> simp only [ORel] at hr
      rename_i mp' _ _ _
      obtain ⟨hkd, hsh, rfl, rfl, rfl, hrr⟩ := hr
      cases mp' with
      | none => simp at hrr
      | some mp' =>
        simp only at hrr
        split at hn
        · rename_i es clock hgm
          obtain ⟨tm, hmm, rfl⟩ := H.rtgt hrr hgm (by simp)
          obtain ⟨es', hw, hrel, _⟩ := H.mapBlock hmm hgm
          dsimp only at hn
          obtain ⟨h1, h2, h3⟩ := hn
          have hleft : ESRel m (es.filter fun e => !seen.contains e.born) (es'.filter fun e => !seen.contains e.born).toList := by
            rw [Array.toList_filter]; exact hrel.filter fun e e' he => by rw [he.2.2]
          have hold : ESRel m ((es.filter fun e => !seen.contains e.born).filter fun e => decide (e.born < since)) ((es'.filter fun e => !seen.contains e.born).filter fun e => decide (e.born < since)).toList := by
            rw [Array.toList_filter]; exact hleft.filter fun e e' he => by rw [he.2.2]
          have hall : es.all (fun e => decide (e.born ≥ last)) = es'.all (fun e => decide (e.born ≥ last)) := by
            rw [← Array.all_toList]; exact hrel.all fun e e' he => by rw [he.2.2]
          have hemp : es.isEmpty = es'.isEmpty := by
            have hl : es.length = es'.size := by simpa using hrel.len
            rw [Bool.eq_iff_iff]; simp [List.isEmpty_iff, ← List.length_eq_zero_iff, ← Array.size_eq_zero_iff, hl]
          generalize hLeft : (es'.filter fun e => !seen.contains e.born) = left' at hleft hold
          generalize hOld : (left'.filter fun e => decide (e.born < since)) = old' at hold
          generalize hNew : (left'.filter fun e => decide (e.born ≥ since)) = new'
          generalize hC : ((if old'.isEmpty then #[none] else #[]) ++ (old' ++ new').map some : Array (Option MapEntry)) = cands
          have hpos : 0 < cands.size := by
            rw [← hC]
            by_cases he : old'.isEmpty = true
            · simp [he]; omega
            · have : 0 < old'.size := by
                rcases Nat.eq_zero_or_pos old'.size with e0 | e0
                · exact absurd (by simpa [Array.isEmpty] using e0) he
                · exact e0
              simp; omega
          obtain ⟨k, d, hch, hk⟩ := run_mapNext (P := P) (w := w) hpos
          have hcond : ¬ ((!seen.isEmpty && !es'.isEmpty && es'.all (fun e => decide (e.born ≥ last))) = true) := by
            rw [← hall, ← hemp]
            intro hh
            simp only [Bool.and_eq_true, Bool.not_eq_true'] at hh
            exact h1 ⟨hh.1.1, hh.1.2, hh.2⟩
          have hget : cands[k]? = some cands[k] := by simp [hk]
          have hrun0 : ∀ (r : Result Value), (match cands[k] with
              | some e => (do setObj t.j (.mapIter (some tm.j) since (seen.push e.born) clock); pure (.tuple #[.bool true, e.key, e.val]) : Sem Value)
              | none => pure (.tuple #[.bool false])).run P { w with drawn := d } = r → (Instr.next (.pointer (some ⟨t.j, 0, sp⟩)) false ty).run P w = r := by
            intro r hr
            rw [← hr]
            simp only [Instr.next, Sem.run_bind, run_getObj ho' (by simp), Result.andThen_ok, run_getObj hw (by simp), if_neg hcond, hLeft, hOld, hNew, hC, hch]
            rw [hget]
            cases cands[k] <;> rfl
          simp only [hsh, Nat.add_zero]
          have Hd := H.drew d
          cases hce : cands[k] with
          | none =>
            have hmem : (none : Option MapEntry) ∈ cands := by rw [← hce]; exact Array.getElem_mem hk
            have hoe : old'.isEmpty = true := by
              rw [← hC] at hmem
              by_cases he : old'.isEmpty = true
              · exact he
              · simp [he] at hmem
            have : ((es.filter fun e => !seen.contains e.born).filter fun e => decide (e.born < since)) = [] := by
              apply List.eq_nil_of_length_eq_zero
              rw [hold.len]; simpa [Array.isEmpty] using hoe
            refine ⟨_, _, _, { w with drawn := d }, hrun0 _ (by rw [hce]; first | done | rfl), h3 this, .tupleL (l := [_]) (l' := [_]) (.cons (.atom (v := .bool false) rfl) .nil), Hd, .drew d⟩
          | some e' =>
            have hmem : (some e' : Option MapEntry) ∈ cands := by rw [← hce]; exact Array.getElem_mem hk
            have hml : e' ∈ left' := by
              rw [← hC] at hmem
              simp only [Array.mem_append, Array.mem_map] at hmem
              rcases hmem with h0 | ⟨e2, he2, h0⟩
              · split at h0 <;> simp at h0
              · cases h0
                rcases he2 with h0 | h0
                · rw [← hOld] at h0; exact (Array.mem_filter.1 h0).1
                · rw [← hNew] at h0; exact (Array.mem_filter.1 h0).1
            obtain ⟨e, hel, hee⟩ := hleft.mem (by simpa using hml)
            obtain ⟨hs, H', E⟩ := setObj_sound (P := P) (o := .mapIter (some mp) since seen last) (o2 := .mapIter (some mp) since (seen.push e.born) clock) (o2' := .mapIter (some tm.j) since (seen.push e.born) clock) Hd hm (w := { w with drawn := d }) ho' (by simp)
              (show ORel m t _ _ from ⟨hkd, hsh, rfl, rfl, rfl, hrr⟩) (fun _ => False)
            refine ⟨_, _, _, _, hrun0 _ (by rw [hce]; simp only [← hee.2.2]; simp [hs]), h2 e hel, .tupleL (l := [_, _, _]) (l' := [_, _, _]) (.cons (.atom (v := .bool true) rfl) (.cons hee.1 (.cons hee.2.1 .nil))), H', (Ext.drew d).trans E⟩
        · exact hn.elim
    · exact hn.elim
  · exact hn.elim
end
end Go.Cub
