/- Codes. -/
import Derived.Test.YtdlnbmadifgbkaaGreatDoorCubS21
import Derived.RangeFuncRecord
import Derived.RangeFuncNested
namespace Go.Cub
set_option linter.unusedVariables false
set_option linter.unusedSimpArgs false
open Go

section
variable {P : Program} {gok : Nat → Bool}

theorem DRel.lt {m : AMap} {w : World} {ds : List (Value × List Value)} {ds' : List Deferred} {Ds : List Nat} (d : DRel m w ds ds' Ds) : ∀ D ∈ Ds, D < w.heap.size := by
  induction d with
  | nil => intro D hD; cases hD
  | mark hD _ _ _ ih =>
    intro D' hD'
    rcases List.mem_cons.1 hD' with rfl | h
    · exact (Array.getElem?_eq_some_iff.1 hD).1
    · exact ih _ h
  | call _ _ _ ih => exact ih

theorem DRel.marks_ne {m : AMap} {w : World} {ds : List (Value × List Value)} {ds' : List Deferred} {Ds : List Nat} (d : DRel m w ds ds' Ds) : ∀ i t, m i = some (some t) → ∀ D ∈ Ds, t.j ≠ D := by
  induction d with
  | nil => intro i t _ D hD; cases hD
  | mark _ hm _ _ ih =>
    intro i t e D' hD'
    rcases List.mem_cons.1 hD' with rfl | h
    · exact hm i t e
    · exact ih i t e _ h
  | call _ _ _ ih => exact ih

theorem HRel.bnd {m : AMap} {h : AHeap} {w : World} (H : HRel m h w) {i : Nat} {t : Tgt} (hm : m i = some (some t)) : t.j < w.heap.size := by
  obtain ⟨_, _, _, hb, _⟩ := H.live i t hm
  exact (Array.getElem?_eq_some_iff.1 hb).1

/-- A block of the model's alone. -/
theorem HRel.apart {m : AMap} {h : AHeap} {w : World} (H : HRel m h w) (o : Obj) : HRel m h (w.alloc o) :=
  ⟨H.dom, fun i t hm => by
    obtain ⟨a, b, ha, hb, hab⟩ := H.live i t hm
    refine ⟨a, b, ha, ?_, hab⟩
    rw [← hb]
    exact (Grw.push' w o).other _ (H.bnd hm), H.dead, H.inj⟩

theorem Ext.apart {S : Nat → Prop} {m : AMap} {h : AHeap} {w : World} (H : HRel m h w) (o : Obj) : Ext S m h w m h (w.alloc o) :=
  ⟨.refl m, Nat.le_refl _, by have := (Grw.push' w o).size; show w.heap.size ≤ (w.heap.push o).size; simp, rfl, rfl, rfl, fun _ _ _ _ => rfl, fun j hj _ => (Grw.push' w o).other j hj, fun k e e' => absurd e e', fun k u e _ => ⟨k, u, e, rfl⟩, fun k u b e1 e2 _ => ⟨e1, e2, (Grw.push' w o).other _ (H.bnd e1)⟩⟩

/-- The round in which the code runs is one of a loop that lies there. -/
def RoundOk (r : Option Nat) (m : AMap) : Prop := ∀ l, r = some l → ∃ i t, m i = some (some t) ∧ t.j = l ∧ t.kd = .loop

theorem RoundOk.mono {r : Option Nat} {m m' : AMap} (hl : m.le m') (h : RoundOk r m) : RoundOk r m' := fun l hr => by
  obtain ⟨i, t, a, b, c⟩ := h l hr
  rcases hl.live a with h1 | ⟨h1, _⟩
  · exact ⟨i, t, h1, b, c⟩
  · rw [c] at h1; cases h1

theorem HRel.loopAt {m : AMap} {h : AHeap} {w : World} (H : HRel m h w) {i : Nat} {t : Tgt} (hm : m i = some (some t)) (hk : t.kd = .loop) : ∃ L L', h.get i = some (.loop L) ∧ w.heap[t.j]? = some (.loop L') ∧ ORel m t (.loop L) (.loop L') := by
  obtain ⟨a, b, ha, hb, hab⟩ := H.live i t hm
  cases a <;> cases b <;> simp only [ORel] at hab
  case cells.cells => rw [hk] at hab; exact absurd hab.1 (by simp)
  case map.map => rw [hk] at hab; exact absurd hab.1 (by simp)
  case loop.loop => exact ⟨_, _, ha, hb, hab⟩
  case strIter.stringIter => rw [hk] at hab; exact absurd hab.1 (by simp)
  case mapIter.mapIter => rw [hk] at hab; exact absurd hab.1 (by simp)

def CPost (N : Nat) (m₀ : AMap) (h₀ : AHeap) (w₀ : World) (K : ActPost) (Q : Exit → Act → World → Prop) : Prop :=
  ∀ e a₁ h₁ m₁ w₁ (a₁' : Act) Ds₁, K e a₁ h₁ → HRel m₁ h₁ w₁ → EnvRel m₁ a₁.env a₁'.tmps → a₁'.tmps.size = N → DRel m₁ w₁ a₁.defers a₁'.defers Ds₁ → (∀ D ∈ Ds₁, w₀.heap.size ≤ D) → Ext (h₀.next ≤ ·) m₀ h₀ w₀ m₁ h₁ w₁ → Q e a₁' w₁

/-- At the head of a loop, in the machine. -/
def LoopQ (r : Option Nat) (P : Program) (Q : Exit → Act → World → Prop) (c : Code) (a : Act) (w : World) : Prop :=
  ∀ (b : Frame) (k : List Item) (cs : List Frame), b.roundOf = (F0 r).round → (F0 r).fn b.fn → (F0 r).room (cs.length + 1 + 0) →
    ∃ e a' w', Q e a' w' ∧ ArrivesIn (Machine.fenced P (F0 r)) P (lone (b.atR a (.code c :: .inLoop c :: k)) cs w) b k cs e a' w'

theorem loopQ_round {r : Option Nat} {Q : Exit → Act → World → Prop} {c : Code} {a : Act} {w : World} (h : c.wpIn (F0 r) 0 P (Exit.then (LoopQ r P Q c) Q) a w) : LoopQ r P Q c a w := by
  intro b k cs hro hb hr
  obtain ⟨e, a₁, w₁, hq, harr⟩ := h b (.inLoop c :: k) cs hro hb hr
  cases e with
  | normal =>
    obtain ⟨e₂, a₂, w₂, hq₂, harr₂⟩ := hq b k cs hro hb hr
    exact ⟨e₂, a₂, w₂, hq₂, .of_steps (StepsIn.trans harr (.one (fenced_calm hb hr rfl) stepR_inLoop)) harr₂⟩
  | exit id => exact ⟨_, a₁, w₁, hq, .pass (x := .inLoop c) rfl (fun _ _ => .inl (by simp)) harr⟩
  | goto l => exact ⟨_, a₁, w₁, hq, .pass (x := .inLoop c) rfl (fun _ _ => .inl (by simp)) harr⟩
  | ret => exact ⟨_, a₁, w₁, hq, .pass (x := .inLoop c) rfl (fun _ _ => .inl (by simp)) harr⟩
  | panic ch => exact ⟨_, a₁, w₁, hq, .pass (x := .inLoop c) rfl (fun _ _ => .inl (by simp)) harr⟩
  | outgrown => exact ⟨_, a₁, w₁, hq, .pass (x := .inLoop c) rfl (fun _ _ => .inl (by simp)) harr⟩

theorem loopQ_loop {r : Option Nat} {Q : Exit → Act → World → Prop} {c : Code} {a : Act} {w : World} (h : LoopQ r P Q c a w) : (Code.loop c).wpIn (F0 r) 0 P Q a w := by
  intro b k cs hro hb hr
  obtain ⟨e, a', w', hq, harr⟩ := h b k cs hro hb hr
  exact ⟨e, a', w', hq, .of_steps (.one (fenced_calm hb hr rfl) stepR_loop) harr⟩

theorem foldl_set_size (l : List (Tmp × Value)) : ∀ (t : Array Value), (l.foldl (fun tmps (p : Tmp × Value) => tmps.setIfInBounds p.1 p.2) t).size = t.size := by
  induction l with
  | nil => intro t; rfl
  | cons p l ih => intro t; simp [ih]

/-- A range over a function. -/
theorem rangeFunc_sound (hmix : P.follows .mixedOrders = true) {r : Option Nat} {f : Operand} {ps : Array Tmp} {assign body : Code} {N : Nat} {m₀ m : AMap} {h₀ h : AHeap} {w₀ w : World} {a : AAct} {a' : Act} {Ds : List Nat} {K : ActPost} {Q : Exit → Act → World → Prop} {L : Looper}
    (hok : Code.ok gok N (.rangeFunc f ps assign body) = true) (hc : aCode P (Conc P gok) L r.isSome (.rangeFunc f ps assign body) a K h) (H : HRel m h w) (G₀ : GRel gok m₀) (R₀ : RoundOk r m₀) (he : EnvRel m a.env a'.tmps) (hN : a'.tmps.size = N)
    (hD : DRel m w a.defers a'.defers Ds) (hDs : ∀ D ∈ Ds, w₀.heap.size ≤ D) (E : Ext (h₀.next ≤ ·) m₀ h₀ w₀ m h w) (hpost : CPost N m₀ h₀ w₀ K Q) : (Code.rangeFunc f ps assign body).wpIn (F0 r) 0 P Q a' w := by
  have G := G₀.mono E.le
  simp only [Code.ok, Bool.and_eq_true, List.all_eq_true] at hok
  obtain ⟨okf, okp, oka, okb⟩ := hok
  have hfv : VRel m (a.eval f) (a'.eval f) := eval_rel okf G (fun t _ => he t)
  refine wpIn_rangeFunc fun fn _ => ?_
  -- the record is laid, whatever the round
  obtain ⟨w1, l', mark, Lr, Ds1, henter, hg1, hj, Hd, hDd, hDs1, E1⟩ : ∃ (w1 : World) (l' : Nat) (mark : List Deferred) (defers : Nat) (Ds1 : List Nat),
      (Instr.enterLoop fn a'.tmps ps assign body r).run P w = .ok (l', mark) w1 ∧
      (∃ wb, Grw (.loop { state := .ready, pending := none, fn := fn, tmps := a'.tmps, params := ps, assign := assign, body := body, defers := defers }) wb w1 ∧ l' = wb.heap.size ∧ HRel m h wb ∧ Ext (fun _ => False) m h w m h wb ∧
        (∀ D ∈ Ds1, D < wb.heap.size)) ∧ True ∧ True ∧ (∀ m' h' w', HRel m' h' w' → (∀ i t, m' i = some (some t) → ∀ D ∈ Ds1, t.j ≠ D) → (∀ D ∈ Ds1, w'.heap[D]? = some (.deferred (some [])) ∨ D ∈ Ds) → DRel m' w' a.defers a'.defers Ds → DRel m' w' a.defers (mark ++ a'.defers) Ds1) ∧ 
        (∀ D ∈ Ds1, w₀.heap.size ≤ D) ∧ (∀ D ∈ Ds1, D ∈ Ds ∨ (D = w.heap.size ∧ w1.heap[D]? = some (.deferred (some [])))) := by
    cases r with
    | none =>
      refine ⟨_, _, _, _, w.heap.size :: Ds, run_enterLoop_outer fn a'.tmps ps assign body, ⟨w.alloc (.deferred (some [])), Grw.push' _ _, by simp, H.apart _, .apart H _, fun D hDm => ?_⟩, trivial, trivial, fun m' h' w' H' hne hat hd => ?_, fun D hDm => ?_, fun D hDm => ?_⟩
      · rcases List.mem_cons.1 hDm with rfl | hDm
        · simp
        · have := hD.lt D hDm; simp; omega
      · refine .mark ?_ (fun i t e => hne i t e _ (by simp)) (fun hmem => ?_) hd
        · rcases hat w.heap.size (by simp) with h1 | h1
          · exact h1
          · have := hD.lt _ h1; omega
        · have := hD.lt _ hmem; omega
      · rcases List.mem_cons.1 hDm with rfl | hDm
        · exact E.size
        · exact hDs D hDm
      · rcases List.mem_cons.1 hDm with rfl | hDm
        · refine .inr ⟨rfl, ?_⟩
          have := (Grw.push' (w.alloc (.deferred (some []))) (.loop { state := .ready, pending := none, fn := fn, tmps := a'.tmps, params := ps, assign := assign, body := body, defers := w.heap.size })).other w.heap.size (by simp)
          exact this.trans (World.alloc_heap_new w _)
        · exact .inl hDm
    | some l =>
      obtain ⟨i, t, hm, hj, hk⟩ := (R₀.mono E.le) l rfl
      obtain ⟨L, L', _, hw, _⟩ := H.loopAt hm hk
      rw [hj] at hw
      refine ⟨_, _, _, _, Ds, run_enterLoop_inner hw fn a'.tmps ps assign body, ⟨w, Grw.push' _ _, rfl, H, .refl _ _ _ _, hD.lt⟩, trivial, trivial, fun m' h' w' _ _ _ hd => hd, hDs, fun D hDm => .inl hDm⟩
  obtain ⟨wb, hgrw, hl', Hb, Eb, hlt⟩ := hg1
  have hm0 : m h.next = none := Classical.byContradiction fun e => by have := H.dom _ e; omega
  -- the abstract one
  have hset : ((h.bump 1).set h.next (.loop { state := .ready, pending := none, tmps := a.env, params := ps.toList, assign := assign, body := body })).get h.next = some (.loop { state := .ready, pending := none, tmps := a.env, params := ps.toList, assign := assign, body := body }) :=
    AHeap.get_set_same (by simp)
  let t : Tgt := ⟨.loop, wb.heap.size, 0, 0, none, 0⟩
  obtain ⟨H1, Ex1⟩ := ((Hb.bump 1).lay hm0 (.loop { state := .ready, pending := none, tmps := a.env, params := ps.toList, assign := assign, body := body })).grow (t := t) hm0 hset hgrw rfl
    (show ORel (m.put h.next t) t _ _ from ⟨rfl, rfl, rfl, by simp, rfl, rfl, fun k => (he k).mono (AMap.le_put hm0), fun p hp => by rw [hN]; exact le_of_ble (okp p hp), gok, G.mono (AMap.le_put hm0), by rw [hN]; exact oka, by rw [hN]; exact okb⟩)
  have ExL := Ext.lay (m := m) (h := h.bump 1) (w := wb) hm0 (.loop { state := .ready, pending := none, tmps := a.env, params := ps.toList, assign := assign, body := body })
  generalize hh1 : (h.bump 1).set h.next (.loop { state := .ready, pending := none, tmps := a.env, params := ps.toList, assign := assign, body := body }) = h1 at hset H1 Ex1 ExL
  have E2 : Ext (h₀.next ≤ ·) m₀ h₀ w₀ (m.put h.next t) h1 w1 := by
    refine E.trans ((Eb.mono (fun _ x => x.elim)).trans (((Ext.bump 1).trans (ExL.mono fun i hi => ?_)).trans (Ex1.mono fun i hi => ?_)))
    · subst hi; exact E.next
    · subst hi; exact E.next
  have hE12 : Ext (h.next ≤ ·) m h w (m.put h.next t) h1 w1 := by
    refine (Eb.mono (fun _ x => x.elim)).trans (((Ext.bump 1).trans (ExL.mono fun i hi => ?_)).trans (Ex1.mono fun i hi => ?_))
    · subst hi; exact Nat.le_refl _
    · subst hi; exact Nat.le_refl _
  have hD1 : DRel (m.put h.next t) w1 a.defers (mark ++ a'.defers) Ds1 := by
    refine hDd _ h1 _ H1 (fun i u hu D hDm e => ?_) (fun D hDm => ?_) (hD.mono hE12)
    · by_cases ei : i = h.next
      · subst ei; simp [AMap.put] at hu; subst hu
        have := hlt D hDm
        simp only [t] at e; omega
      · simp [AMap.put, ei] at hu
        rcases E1 D hDm with h1 | ⟨h1, _⟩
        · exact hD.marks_ne i u hu D h1 e
        · have := H.bnd hu; omega
    · rcases E1 D hDm with h1 | ⟨_, h1⟩
      · exact .inr h1
      · exact .inl h1
  -- the call
  simp only [aCode] at hc
  rw [hh1] at hc
  unfold callF at hc
  split at hc
  · rename_i g first cap hfe
    rw [hfe] at hfv
    obtain ⟨fn', first', cap', hfv', hfn, hfi, hca⟩ := hfv.func_inv
    simp only [FnRel] at hfn; subst hfn
    have hyl : VRel (m.put h.next t) (.func (.yield h.next) #[] #[]) (.func (.yield l') #[] #[]) := .funcL (show FnRel _ _ _ from .inr ⟨t, by simp [AMap.put], by simp [t, hl']⟩) .nil .nil
    have hcall := hc (m.put h.next t) w1 (first'.toList ++ [Value.func (.yield l') #[] #[]] ++ cap'.toList) H1 (G₀.mono E2.le) (((hfi.mono hE12.le).append (.cons hyl .nil)).append (hca.mono hE12.le))
    have earr : (first'.toList ++ [Value.func (.yield l') #[] #[]] ++ cap'.toList).toArray = first' ++ #[Value.func (.yield l') #[] #[]] ++ cap' := by apply Array.ext'; simp
    rw [earr] at hcall
    obtain ⟨fnn, c, x1, x2, x3, x4⟩ := id hcall
    refine ⟨l', mark, w1, { target := .fn (Fn.func g) cap', args := first' ++ #[Value.func (.yield l') #[] #[]] }, w1, g, first' ++ #[Value.func (.yield l') #[] #[]] ++ cap', w1, henter, ?_, fun _ _ => trivial, ?_, fun hh => by simp [F0] at hh, (hcall.callsIn r).mono fun e w3 hR => ?_⟩
    · have hm1 : #[Operand.const (Value.func (.yield l') #[] #[])].map a'.eval = #[Value.func (.yield l') #[] #[]] := by simp [Act.eval]
      simp only [rangeCall, resolve, hfv', Deferred.ofValue, Sem.run_bind, Sem.run_pure, Result.andThen_ok, hm1]
    · simp only [invoke]; exact run_callFunc x1 x2 x3
    · cases e with
      | panicked ch => exact hR.elim
      | outgrown => exact hR.elim
      | returned v =>
        obtain ⟨v0, h2, m2, hk, _, H2, E3⟩ := hR
        try dsimp only at hk
        have hm2 : m2 h.next = some (some t) := by
          rcases E3.le.live (i := h.next) (t := t) (by simp [AMap.put]) with h0 | ⟨h0, _⟩
          · exact h0
          · simp [t] at h0
        obtain ⟨L, L', hg2, hw2, hor⟩ := H2.loopAt hm2 rfl
        rw [hg2] at hk
        try dsimp only at hk
        have htj : t.j = l' := hl'.symm
        rw [htj] at hw2
        obtain ⟨o1, o2, o3, o4, o5, o6, o7, o8, o9⟩ := hor
        have hnb : L.state ≠ .busy := fun hb => by rw [hb] at hk; exact hk
        have hk' : jumpK a K L.pending (h2.set h.next (.loop { L with state := .exhausted })) := by
          cases hst : L.state <;> rw [hst] at hk <;> first | exact hk | exact absurd hst hnb
        obtain ⟨H3, E4⟩ := H2.upd (o := .loop { L with state := .exhausted }) (o' := .loop { L' with state := .exhausted }) hm2 (w' := w3.putObj l' (.loop { L' with state := .exhausted })) (by
            rw [htj]; exact ⟨rfl, rfl, rfl, by simp, fun k hk => World.putObj_heap_other hk⟩) (by rw [htj]; exact World.putObj_heap_same (Array.getElem?_eq_some_iff.1 hw2).1) ⟨o1, rfl, o3, o4, o5, o6, o7, o8, o9⟩ (h₀.next ≤ ·) (fun b hb => by rw [hg2] at hb; cases hb)
        have hrun := run_endLoop (P := P) hw2 (by rw [← o2]; exact hnb)
        have E5 : Ext (h₀.next ≤ ·) m₀ h₀ w₀ m2 (h2.set h.next (.loop { L with state := .exhausted })) (w3.putObj l' (.loop { L' with state := .exhausted })) := by
          refine (E2.trans (E3.mono fun i hi => ?_)).trans E4
          exact Nat.le_trans (Nat.le_trans E.next (Nat.le_trans (by rw [← hh1]; simp) (Nat.le_refl h1.next))) hi
        have fin : ∀ e, K e a (h2.set h.next (.loop { L with state := .exhausted })) → Q e { a' with defers := mark ++ a'.defers } (w3.putObj l' (.loop { L' with state := .exhausted })) := fun e hke =>
          hpost e a _ m2 _ { a' with defers := mark ++ a'.defers } Ds1 hke H3 (he.mono (hE12.le.trans E3.le)) hN ((hD1.mono E3).mono E4) hDs1 E5
        have hk2 : ∀ jmp, jmp = L.pending → jumpK a K jmp (h2.set h.next (.loop { L with state := .exhausted })) := fun _ e => by rw [e]; exact hk'
        suffices hs : ∀ jmp, jmp = L.pending → (match jmp with
            | none => Q .normal { a' with defers := mark ++ a'.defers } (w3.putObj l' (.loop { L' with state := .exhausted }))
            | some c => c.wpIn (F0 r) 0 P Q { a' with defers := mark ++ a'.defers } (w3.putObj l' (.loop { L' with state := .exhausted }))) from ⟨L'.pending, _, hrun, hs _ o3.symm⟩
        intro jmp hjm
        have hk3 := hk2 jmp hjm
        unfold jumpK at hk3
        cases jmp with
        | none => exact fin _ hk3
        | some j => cases j <;> first | exact hk3.elim | exact wpIn_ret (fin _ hk3) | exact wpIn_exit (fin _ hk3)
  · exact hc.elim

theorem code_sound (hmix : P.follows .mixedOrders = true) {r : Option Nat} {N : Nat} {m₀ : AMap} {h₀ : AHeap} {w₀ : World} (G₀ : GRel gok m₀) (R₀ : RoundOk r m₀) :
    ∀ (c : Code) (a : AAct) (K : ActPost) (h : AHeap) (a' : Act) (m : AMap) (w : World) (Ds : List Nat) (Q : Exit → Act → World → Prop), Code.ok gok N c = true → aCode P (Conc P gok) loopA r.isSome c a K h → HRel m h w → EnvRel m a.env a'.tmps → a'.tmps.size = N →
      DRel m w a.defers a'.defers Ds → (∀ D ∈ Ds, w₀.heap.size ≤ D) → Ext (h₀.next ≤ ·) m₀ h₀ w₀ m h w → CPost N m₀ h₀ w₀ K Q → c.wpIn (F0 r) 0 P Q a' w := by
  intro c
  induction c with
  | skip => intro a K h a' m w Ds Q _ hc H he hN hD hDs E hp; exact wpIn_skip (hp _ _ _ _ _ _ _ hc H he hN hD hDs E)
  | label _ => intro a K h a' m w Ds Q _ hc H he hN hD hDs E hp; exact wpIn_label (hp _ _ _ _ _ _ _ hc H he hN hD hDs E)
  | exit _ => intro a K h a' m w Ds Q _ hc H he hN hD hDs E hp; exact wpIn_exit (hp _ _ _ _ _ _ _ hc H he hN hD hDs E)
  | ret => intro a K h a' m w Ds Q _ hc H he hN hD hDs E hp; exact wpIn_ret (hp _ _ _ _ _ _ _ hc H he hN hD hDs E)
  | region _ ops draw =>
    intro a K h a' m w Ds Q hok hc H he hN hD hDs E hp
    simp only [Code.ok, Bool.and_eq_true, List.all_eq_true, Bool.or_eq_true, Bool.not_eq_true'] at hok
    refine region_sound hmix hc (fun i o ho => hok.1 o (Array.mem_toList_iff.2 (Array.mem_of_getElem? ho))) (fun hd => by rcases hok.2 with h1 | h1 <;> first | (rw [hd] at h1; cases h1) | exact h1) H (G₀.mono E.le) he hN hD ?_
    intro a₁ h₁ m₁ w₁ a₁' hk H1 he1 hN1 hD1 E1
    exact hp _ _ _ _ _ _ _ hk H1 he1 hN1 hD1 hDs (E.trans (E1.mono fun i hi => Nat.le_trans E.next hi))
  | seq x y ihx ihy =>
    intro a K h a' m w Ds Q hok hc H he hN hD hDs E hp
    simp only [Code.ok, Bool.and_eq_true] at hok
    refine wpIn_seq (ihx a _ h a' m w Ds _ hok.1 hc H he hN hD hDs E ?_)
    intro e a₁ h₁ m₁ w₁ a₁' Ds₁ hk H1 he1 hN1 hD1 hDs1 E1
    cases e with
    | normal => exact ihy a₁ K h₁ a₁' m₁ w₁ Ds₁ Q hok.2 hk H1 he1 hN1 hD1 hDs1 E1 hp
    | _ => exact hp _ _ _ _ _ _ _ hk H1 he1 hN1 hD1 hDs1 E1
  | cond c x y ihx ihy =>
    intro a K h a' m w Ds Q hok hc H he hN hD hDs E hp
    simp only [Code.ok, Bool.and_eq_true] at hok
    have hv : VRel m (a.eval c) (a'.eval c) := eval_rel hok.1 (G₀.mono E.le) (fun t _ => he t)
    unfold aCode at hc
    split at hc
    · rename_i hb; rw [hb] at hv; exact wpIn_cond_true hv.bool (ihx a K h a' m w Ds Q hok.2.1 hc H he hN hD hDs E hp)
    · rename_i hb; rw [hb] at hv; exact wpIn_cond_false hv.bool (ihy a K h a' m w Ds Q hok.2.2 hc H he hN hD hDs E hp)
    · exact hc.elim
  | block id c ih =>
    intro a K h a' m w Ds Q hok hc H he hN hD hDs E hp
    refine wpIn_block (ih a _ h a' m w Ds _ hok hc H he hN hD hDs E ?_)
    intro e a₁ h₁ m₁ w₁ a₁' Ds₁ hk H1 he1 hN1 hD1 hDs1 E1
    cases e with
    | exit id' =>
      dsimp only at hk
      simp only [Exit.inBlock]
      split at hk
      · rename_i hb; rw [if_pos (Nat.eq_of_beq_eq_true hb)]; exact hp _ _ _ _ _ _ _ hk H1 he1 hN1 hD1 hDs1 E1
      · rename_i hb; rw [if_neg (fun x => by subst x; simp at hb)]; exact hp _ _ _ _ _ _ _ hk H1 he1 hN1 hD1 hDs1 E1
    | _ => exact hp _ _ _ _ _ _ _ hk H1 he1 hN1 hD1 hDs1 E1
  | loop c ih =>
    intro a K h a' m w Ds Q hok hc H he hN hD hDs E hp
    refine loopQ_loop ?_
    have := hc (fun a h => ∀ (a' : Act) (m : AMap) (w : World) (Ds : List Nat), HRel m h w → EnvRel m a.env a'.tmps → a'.tmps.size = N → DRel m w a.defers a'.defers Ds → (∀ D ∈ Ds, w₀.heap.size ≤ D) → Ext (h₀.next ≤ ·) m₀ h₀ w₀ m h w → LoopQ r P Q c a' w) ?_
    · exact this a' m w Ds H he hN hD hDs E
    · intro a h hb a' m w Ds H he hN hD hDs E
      refine loopQ_round (ih a _ h a' m w Ds _ hok hb H he hN hD hDs E ?_)
      intro e a₁ h₁ m₁ w₁ a₁' Ds₁ hk H1 he1 hN1 hD1 hDs1 E1
      cases e with
      | normal => exact hk a₁' m₁ w₁ Ds₁ H1 he1 hN1 hD1 hDs1 E1
      | _ => exact hp _ _ _ _ _ _ _ hk H1 he1 hN1 hD1 hDs1 E1
  | rangeFunc f ps x y _ _ =>
    intro a K h a' m w Ds Q hok hc H he hN hD hDs E hp
    exact rangeFunc_sound hmix hok hc H G₀ R₀ he hN hD hDs E hp
  | _ => intro a K h a' m w Ds Q hok hc; exact hc.elim
end
end Go.Cub
