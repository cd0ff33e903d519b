/- Functions and rounds: what the abstract machine says of a call, is so of the model's. -/
import Derived.Test.YtdlnbmadifgbkaaGreatDoorCubS22
namespace Go.Cub
set_option linter.unusedVariables false
set_option linter.unusedSimpArgs false
open Go

section
variable {P : Program} {gok : Nat → Bool}

def resOne (tmps : Array Value) : ResultVar → Sem Value
  | .tmp t => pure (tmps.getD t undef)
  | .cell a t => do loadVar t (← asAddr (tmps.getD a undef))

theorem run_mapM {m : AMap} {h : AHeap} {w : World} {a : AAct} {tmps : Array Value} (H : HRel m h w) (he : EnvRel m a.env tmps) : ∀ (rs : List ResultVar) (l : List Value), resultsA P a h rs = some l → ∃ l', (rs.mapM (resOne tmps)).run P w = .ok l' w ∧ LRel m l l' := by
  intro rs
  induction rs with
  | nil => intro l hl; simp only [resultsA, Option.some.injEq] at hl; subst hl; exact ⟨[], by simp, .nil⟩
  | cons r rs ih =>
    intro l hl
    simp only [resultsA] at hl
    split at hl
    · rename_i v l0 hv hl0
      cases hl
      obtain ⟨l', hr, hrel⟩ := ih _ hl0
      obtain ⟨v', hrv, hvr⟩ : ∃ v', (resOne tmps r).run P w = .ok v' w ∧ VRel m v v' := by
        cases r with
        | tmp t => simp only [resultA, Option.some.injEq] at hv; subst hv; exact ⟨_, by simp [resOne], he t⟩
        | cell t ty =>
          simp only [resultA] at hv
          have hat := he t
          obtain ⟨a0, e⟩ := loadA_ptr hv
          rw [e] at hv hat
          obtain ⟨a0', e', hp⟩ := hat.ptr_inv
          obtain ⟨v', hrun, hrel⟩ := loadVar_sound (P := P) H hp hv
          exact ⟨v', by simp [resOne, e', asAddr, hrun], hrel⟩
      refine ⟨v' :: l', ?_, .cons hvr hrel⟩
      rw [List.mapM_cons]
      simp [Sem.run_bind, hrv, hr]
    · cases hl

theorem tupleOf_rel {m : AMap} {l l' : List Value} (h : LRel m l l') : VRel m (tupleOf l) (if h : l'.toArray.size = 1 then l'.toArray[0] else .tuple l'.toArray) := by
  unfold tupleOf
  split
  · rename_i v
    obtain ⟨u', r', rfl, hu, hr⟩ := h.of_cons
    have := hr.of_nil; subst this
    simpa using hu
  · rename_i hne
    have : ¬ l'.toArray.size = 1 := by
      intro e
      have hl := h.len
      simp at e
      rw [e] at hl
      obtain ⟨v, rfl⟩ := List.length_eq_one_iff.1 hl
      exact hne v rfl
    rw [dif_neg this]
    exact .tupleL (by simpa using h)

theorem results_sound {m : AMap} {h : AHeap} {w : World} {a : AAct} {tmps : Array Value} {fn : Func} (H : HRel m h w) (he : EnvRel m a.env tmps) {l : List Value} (hl : resultsA P a h fn.results.toList = some l) :
    ∃ v', (results fn tmps).run P w = .ok v' w ∧ VRel m (tupleOf l) v' := by
  obtain ⟨l', hr, hrel⟩ := run_mapM H he _ _ hl
  refine ⟨_, ?_, tupleOf_rel hrel⟩
  have : results fn tmps = (do let vs ← fn.results.mapM (resOne tmps); pure (if h : vs.size = 1 then vs[0] else .tuple vs)) := by
    unfold results
    congr 2
  rw [this, Array.mapM_eq_mapM_toList]
  simp [Sem.run_bind, hr]

theorem Ext.shut {S : Nat → Prop} {m : AMap} {h : AHeap} {w : World} {D : Nat} (hD : ∀ i t, m i = some (some t) → t.j ≠ D) {m₀ : AMap} {h₀ : AHeap} {w₀ : World} (E : Ext S m₀ h₀ w₀ m h w) (hd : w₀.heap.size ≤ D) (o : Obj) :
    Ext S m₀ h₀ w₀ m h (w.putObj D o) :=
  ⟨E.le, E.next, by simpa using E.size, E.os, E.tape, E.output, E.frA, fun j hj hm => (World.putObj_heap_other (by omega)).trans (E.frC j hj hm), E.new, E.ran, fun i t b e1 e2 ew => by
    obtain ⟨x, y, z⟩ := E.ro i t b e1 e2 ew
    exact ⟨x, y, (World.putObj_heap_other (hD i t x)).trans z⟩⟩

theorem HRel.shut {m : AMap} {h : AHeap} {w : World} {D : Nat} (H : HRel m h w) (hD : ∀ i t, m i = some (some t) → t.j ≠ D) (o : Obj) : HRel m h (w.putObj D o) :=
  ⟨H.dom, fun i t hm => by
    obtain ⟨a, b, ha, hb, hab⟩ := H.live i t hm
    exact ⟨a, b, ha, (World.putObj_heap_other (hD i t hm)).trans hb, hab⟩, H.dead, H.inj⟩

theorem DRel.shut {m : AMap} {w : World} {ds : List (Value × List Value)} {ds' : List Deferred} {Ds : List Nat} (d : DRel m w ds ds' Ds) {D : Nat} (hD : D ∉ Ds) (o : Obj) : DRel m (w.putObj D o) ds ds' Ds := by
  induction d with
  | nil => exact .nil
  | mark h1 h2 h3 _ ih =>
    exact .mark ((World.putObj_heap_other (fun e => hD (by simp [e]))).trans h1) h2 h3 (ih (fun e => hD (by simp [e])))
  | call hf ha _ ih => exact .call hf ha (ih hD)

/-- A function's end. -/
theorem leave_sound {fn : Func} {a : AAct} {tmps : Array Value} {m₀ : AMap} {h₀ : AHeap} {w₀ : World} {K : Value → AHeap → Prop} (G₀ : GRel gok m₀) : ∀ (Ds : List Nat) (ds : List (Value × List Value)) (ds' : List Deferred) (m : AMap) (h : AHeap) (w : World), leaveA P (Conc P gok) fn a K ds h → DRel m w ds ds' Ds →
    HRel m h w → EnvRel m a.env tmps → (∀ D ∈ Ds, w₀.heap.size ≤ D) → Ext (h₀.next ≤ ·) m₀ h₀ w₀ m h w → LeavesInM (F0 none) 0 P fn tmps (retP (Rets m₀ h₀ w₀ K)) ds' .returning w := by
  intro Ds ds ds' m h w hl hd
  induction ds' generalizing Ds ds m h w with
  | nil =>
    intro H he hDs E
    cases hd
    simp only [leaveA] at hl
    split at hl
    · rename_i l hrl
      obtain ⟨v', hr, hv⟩ := results_sound H he hrl
      exact ⟨v', hr, _, h, m, hl, hv, H, E⟩
    · exact hl.elim
  | cons d' ds' ih =>
    intro H he hDs E
    refine ⟨by simp, ?_⟩
    cases hd with
    | mark hD hm hn hd =>
      rename_i D Ds
      refine .inl ⟨D, _, rfl, run_takeDeferred hD, ?_⟩
      exact ih Ds ds m h _ hl (hd.shut hn _) (H.shut hm _) he (fun D' h' => hDs D' (by simp [h'])) (E.shut hm (hDs D (by simp)) _)
    | call hf ha hd =>
      rename_i f args fnn first cap args' ds
      simp only [leaveA] at hl
      unfold callF at hl
      split at hl
      · rename_i g first0 cap0
        obtain ⟨fn', first', cap', hfv', hfn, hfi, hca⟩ := hf.func_inv
        cases hfv'
        simp only [FnRel] at hfn; subst hfn
        have hcall := hl m w (first.toList ++ args' ++ cap.toList) H (G₀.mono E.le) ((hfi.append ha).append hca)
        have earr : (first.toList ++ args' ++ cap.toList).toArray = first ++ args'.toArray ++ cap := by apply Array.ext'; simp
        rw [earr] at hcall
        obtain ⟨fnn, c, x1, x2, x3, x4⟩ := id hcall
        refine .inr ⟨fun hh => by simp [F0] at hh, _, _, g, first ++ args'.toArray ++ cap, rfl, ?_, fun _ _ => trivial, ?_⟩
        · simp only [invoke]; exact run_callFunc x1 x2 x3
        · refine (hcall.callsD (u := .returning) none).mono fun e u' w' he' => ?_
          obtain ⟨rfl, hR⟩ := he'
          cases e with
          | panicked ch => exact hR.elim
          | outgrown => exact hR.elim
          | returned v =>
            obtain ⟨v0, h2, m2, hk, _, H2, E2⟩ := hR
            exact ih Ds ds m2 h2 w' hk (hd.mono E2) H2 (he.mono E2.le) hDs (E.trans (E2.mono fun i hi => Nat.le_trans E.next hi))
      · exact hl.elim

def ProgOk (P : Program) (gok : Nat → Bool) : Prop := P.follows .mixedOrders = true ∧ ∀ (f : Nat) fn, P.funcs[f]? = some fn → Func.ok gok fn = true

theorem opndOk_mono {gok gok' : Nat → Bool} (hg : ∀ g, gok g = true → gok' g = true) {x : Operand} (h : opndOk gok x = true) : opndOk gok' x = true := by
  cases x <;> first | exact hg _ h | exact h

theorem operOk_mono {gok gok' : Nat → Bool} (hg : ∀ g, gok g = true → gok' g = true) {N : Nat} {o : Oper} (h : operOk gok N o = true) : operOk gok' N o = true := by
  unfold operOk at h ⊢
  simp only [Bool.and_eq_true, List.all_eq_true] at h ⊢
  exact ⟨h.1, fun x hx => opndOk_mono hg (h.2 x hx)⟩

theorem codeOk_mono {gok gok' : Nat → Bool} (hg : ∀ g, gok g = true → gok' g = true) {N : Nat} : ∀ c : Code, Code.ok gok N c = true → Code.ok gok' N c = true := by
  intro c
  induction c with
  | region _ ops draw =>
    intro h
    simp only [Code.ok, Bool.and_eq_true, List.all_eq_true] at h ⊢
    exact ⟨fun o ho => operOk_mono hg (h.1 o ho), h.2⟩
  | seq x y ihx ihy => intro h; simp only [Code.ok, Bool.and_eq_true] at h ⊢; exact ⟨ihx h.1, ihy h.2⟩
  | cond c x y ihx ihy => intro h; simp only [Code.ok, Bool.and_eq_true] at h ⊢; exact ⟨opndOk_mono hg h.1, ihx h.2.1, ihy h.2.2⟩
  | block _ c ih => intro h; exact ih h
  | loop c ih => intro h; exact ih h
  | rangeFunc f ps x y ihx ihy => intro h; simp only [Code.ok, Bool.and_eq_true] at h ⊢; exact ⟨opndOk_mono hg h.1, h.2.1, ihx h.2.2.1, ihy h.2.2.2⟩
  | _ => intro h; exact h

theorem conc_gok {gok gok' : Nat → Bool} (hg : ∀ g, gok g = true → gok' g = true) : (Conc P gok).le (Conc P gok') := fun j K h hc => by
  cases j with
  | call f args => exact fun m w args' H G => hc m w args' H (fun g h => G g (hg g h))
  | round l args => exact fun m w args' l' H G => hc m w args' l' H (fun g h => G g (hg g h))

theorem params_env {m : AMap} : ∀ (ps : List Tmp) (args : List Value) (args' : List Value) (e : Nat → Value) (t : Array Value), LRel m args args' → EnvRel m e t → (∀ p ∈ ps, p < t.size) → ps.length = args.length →
    EnvRel m (setParams e ps args) ((ps.zip args').foldl (fun tmps (p : Tmp × Value) => tmps.setIfInBounds p.1 p.2) t) := by
  intro ps
  induction ps with
  | nil => intro args args' e t _ he _ hl; cases args <;> first | exact he | simp at hl
  | cons p ps ih =>
    intro args args' e t ha he hp hl
    cases args with
    | nil => simp at hl
    | cons v args =>
      obtain ⟨v', r', rfl, hv, hr⟩ := ha.of_cons
      simp only [setParams, List.zip_cons_cons, List.foldl_cons]
      have := EnvRel.put (a := ⟨e, []⟩) (a' := ⟨t, []⟩) (dst := some p) he hv (fun d hd => by cases hd; exact hp p (by simp))
      refine ih args r' _ _ hr this (fun q hq => ?_) (by simpa using hl)
      rw [Array.size_setIfInBounds]; exact hp q (by simp [hq])

theorem run_endRoundA {m m₀ : AMap} {h h₀ : AHeap} {w w₀ : World} {i : Nat} {t : Tgt} (H : HRel m h w) (hm : m i = some (some t)) (hk : t.kd = .loop) (E : Ext (h₀.next ≤ ·) m₀ h₀ w₀ m h w) (j : Option Code) {K : Value → AHeap → Prop} (he : endRoundA i j K h) :
    ∃ v w', (Instr.endRound t.j j).run P w = .ok v w' ∧ retP (Rets m₀ h₀ w₀ K) (.returned v) w' := by
  obtain ⟨L, L', hg, hw, o1, o2, o3, o4, o5, o6, o7, o8, o9⟩ := H.loopAt hm hk
  have hr := run_endRound (P := P) j hw
  unfold endRoundA at he
  rw [hg] at he
  dsimp only at he
  cases j with
  | none =>
    obtain ⟨H1, E1⟩ := H.upd (o := .loop { L with state := .ready, pending := none }) (o' := .loop { L' with state := .ready, pending := none }) hm (w' := w.putObj t.j (.loop { L' with state := .ready, pending := none })) ⟨rfl, rfl, rfl, by simp, fun k hk => World.putObj_heap_other hk⟩
      (World.putObj_heap_same (Array.getElem?_eq_some_iff.1 hw).1) ⟨o1, rfl, rfl, o4, o5, o6, o7, o8, o9⟩ (h₀.next ≤ ·) (fun b hb => by rw [hg] at hb; cases hb)
    exact ⟨_, _, hr, _, _, m, he, .atom rfl, H1, E.trans E1⟩
  | some c =>
    obtain ⟨H1, E1⟩ := H.upd (o := .loop { L with state := .done, pending := some c }) (o' := .loop { L' with state := .done, pending := some c }) hm (w' := w.putObj t.j (.loop { L' with state := .done, pending := some c })) ⟨rfl, rfl, rfl, by simp, fun k hk => World.putObj_heap_other hk⟩
      (World.putObj_heap_same (Array.getElem?_eq_some_iff.1 hw).1) ⟨o1, rfl, rfl, o4, o5, o6, o7, o8, o9⟩ (h₀.next ≤ ·) (fun b hb => by rw [hg] at hb; cases hb)
    exact ⟨_, _, hr, _, _, m, he, .atom rfl, H1, E.trans E1⟩

theorem job_sound (hP : ProgOk P gok) : ∀ j K h, aJob P (Conc P gok) loopA j K h → Conc P gok j K h := by
  intro j K h hj
  cases j with
  | call f args =>
    intro m w args' H G hargs
    simp only [aJob] at hj
    split at hj
    · exact hj.elim
    · rename_i fn hf
      split at hj
      · exact hj.elim
      · rename_i c hb
        split at hj
        · exact hj.elim
        · rename_i hn
          have hn := le_of_ble hn
          have hok := hP.2 f fn hf
          simp only [Func.ok, hb, Bool.and_eq_true, Bool.not_eq_true'] at hok
          refine ⟨fn, c, hf, hb, hok.2, ?_⟩
          refine code_sound (r := none) (N := fn.ntmps) (m₀ := m) (h₀ := h) (w₀ := w) hP.1 G (fun l hl => by cases hl) c _ _ h _ m w [] _ hok.1 hj H (fun t => ?_) (by have := hargs.len; simp; omega) .nil (by simp) (.refl _ _ _ _) ?_
          · simp only [argsEnv]
            cases hu : args[t]? with
            | some u =>
              obtain ⟨u', hu', hr⟩ := hargs.get hu
              have hlt : t < args'.length := (List.getElem?_eq_some_iff.1 hu').1
              have e1 : args'[t] = u' := by simpa [hlt] using hu'
              simp [Array.getElem?_append, hlt, hu, e1, hr]
            | none =>
              have hge : args.length ≤ t := List.getElem?_eq_none_iff.1 hu
              have hlen := hargs.len
              have : ((args'.toArray ++ Array.replicate (fn.ntmps - args'.toArray.size) undef).getD t undef) = undef := by
                simp only [Array.getD_eq_getD_getElem?, Array.getElem?_append]
                rw [if_neg (by simp; omega)]
                simp only [Array.getElem?_replicate]
                split <;> rfl
              rw [this]
              simp [hu, VRel.undef]
          · intro e a₁ h₁ m₁ w₁ a₁' Ds₁ hk H1 he1 hN1 hD1 hDs1 E1
            cases e with
            | normal => exact leave_sound G Ds₁ _ _ m₁ h₁ w₁ hk hD1 H1 he1 hDs1 E1
            | ret => exact leave_sound G Ds₁ _ _ m₁ h₁ w₁ hk hD1 H1 he1 hDs1 E1
            | _ => exact hk.elim
  | round l args =>
    intro m w args' l' H G hargs hl
    simp only [aJob] at hj
    split at hj
    · rename_i L hg
      split at hj
      · rename_i hst hlen
        have hlen := eq_of_beqN hlen
        rcases hl with hl | ⟨t, hm, rfl⟩
        · rw [H.dead l hl] at hg; cases hg
        · obtain ⟨o, o', hgo, hw, hor⟩ := H.live l t hm
          rw [hg] at hgo; cases hgo
          cases o' <;> simp only [ORel] at hor
          rename_i L'
          obtain ⟨o1, o2, o3, o4, o5, o6, o7, o8, gok', o9, o10, o11⟩ := hor
          refine ⟨L', hw, by rw [← hargs.len, hlen, o4]; simp, ?_⟩
          -- of both kinds of package variables
          let gk : Nat → Bool := fun g => gok g || gok' g
          have hg1 : ∀ g, gok g = true → gk g = true := fun g h => by simp [gk, h]
          have hg2 : ∀ g, gok' g = true → gk g = true := fun g h => by simp [gk, h]
          have Gk : GRel gk m := fun g h => by
            simp only [gk, Bool.or_eq_true] at h
            rcases h with h | h
            · exact G g h
            · exact o9 g h
          have R₀ : RoundOk (some t.j) m := fun x hx => by cases hx; exact ⟨l, t, hm, rfl, o1⟩
          have live : ∀ {m' : AMap}, m.le m' → m' l = some (some t) := fun hle => by
            rcases hle.live hm with h1 | ⟨h1, _⟩
            · exact h1
            · rw [o1] at h1; cases h1
          refine roundIn_of_wpIn trivial ?_
          show L'.assign.wpIn (F0 (some t.j)) 0 P _ _ w
          have hj2 := aCode_mono (Y := Conc P gk) (Conc.mono gk) (conc_gok hg1) loopA_mono (fun _ _ _ _ x => x) _ _ _ _ _ (fun _ _ _ x => x) hj
          rw [o5] at hj2
          have hsz : ((L'.params.zip args'.toArray).foldl (fun tmps (p : Tmp × Value) => tmps.setIfInBounds p.1 p.2) L'.tmps).size = L'.tmps.size := by
            rw [← Array.foldl_toList]; exact foldl_set_size _ _
          refine code_sound (r := some t.j) (N := L'.tmps.size) (m₀ := m) (h₀ := h) (w₀ := w) hP.1 Gk R₀ _ _ _ h _ m w [] _ (o5 ▸ codeOk_mono hg2 _ o10) hj2 H ?_ hsz .nil (by simp) (.refl _ _ _ _) ?_
          · have := params_env L.params args args' L.tmps L'.tmps hargs o7 o8 hlen.symm
            rw [o4] at this
            have e : (L'.params.zip args'.toArray).foldl (fun tmps (p : Tmp × Value) => tmps.setIfInBounds p.1 p.2) L'.tmps = (L'.params.toList.zip args').foldl (fun tmps (p : Tmp × Value) => tmps.setIfInBounds p.1 p.2) L'.tmps := by
              rw [← Array.foldl_toList]; simp
            rw [e, o4]; exact this
          · intro e a₁ h₁ m₁ w₁ a₁' Ds₁ hk H1 he1 hN1 hD1 hDs1 E1
            cases e with
            | normal =>
              dsimp only at hk
              split at hk
              · rename_i L1 hg1'
                split at hk
                · rename_i hst1
                  obtain ⟨L1b, L1', hg1b, hw1, p1, p2, p3, p4, p5, p6, p7, p8, p9⟩ := H1.loopAt (live E1.le) o1
                  rw [hg1'] at hg1b; cases hg1b
                  refine ⟨_, run_beginRound hw1 (by rw [← p2]; exact hst1), ?_⟩
                  obtain ⟨H2, E2⟩ := H1.upd (o := .loop { L1 with state := .busy }) (o' := .loop { L1' with state := .busy }) (live E1.le) (w' := w₁.putObj t.j (.loop { L1' with state := .busy })) ⟨rfl, rfl, rfl, by simp, fun k hk => World.putObj_heap_other hk⟩
                    (World.putObj_heap_same (Array.getElem?_eq_some_iff.1 hw1).1) ⟨p1, rfl, p3, p4, p5, p6, p7, p8, p9⟩ (h.next ≤ ·) (fun b hb => by rw [hg1'] at hb; cases hb)
                  rw [o6] at hk
                  have hk := aCode_mono (Y := Conc P gk) (Conc.mono gk) (conc_gok hg1) loopA_mono (fun _ _ _ _ x => x) _ _ _ _ _ (fun _ _ _ x => x) hk
                  refine code_sound (r := some t.j) (N := L'.tmps.size) (m₀ := m) (h₀ := h) (w₀ := w) hP.1 Gk R₀ _ _ _ _ _ m₁ _ Ds₁ _ (o6 ▸ codeOk_mono hg2 _ o11) hk H2 he1 hN1 (hD1.mono E2) hDs1 (E1.trans E2) ?_
                  intro e2 a₂ h₂ m₂ w₂ a₂' Ds₂ hk2 H3 he3 hN3 hD3 hDs3 E3
                  cases e2 with
                  | normal => exact run_endRoundA H3 (live E3.le) o1 E3 none hk2
                  | ret => exact run_endRoundA H3 (live E3.le) o1 E3 (some .ret) hk2
                  | exit id => exact run_endRoundA H3 (live E3.le) o1 E3 (some (.exit id)) hk2
                  | _ => exact hk2.elim
                · exact hk.elim
              · exact hk.elim
            | _ => exact hk.elim
      · exact hj.elim
    · exact hj.elim

/-- **What the abstract machine says of a call holds of the model's.** -/
theorem call_sound (hP : ProgOk P gok) : (callA P).le (Conc P gok) := callA_le (Conc.mono gok) (job_sound hP)
end
end Go.Cub
