/- The operations that turn memory: the theorem. -/
import Derived.Test.YtdlnbmadifgbkaaGreatDoorCubS10
namespace Go.Cub
set_option linter.unusedVariables false
set_option linter.unusedSimpArgs false
open Go
section
variable {P : Program} {m : AMap} {h : AHeap} {w : World}

theorem entryStoreA_sound (H : HRel m h w) {t : TypeId} {x st v x' st' v' : Value} {h' : AHeap} (hx : VRel m x x') (hst : VRel m st st') (hv : VRel m v v') (hq : entryStoreA x st v h = some h') (S : Nat → Prop) :
    ∃ w' m', (Instr.entryStore t x' st' v').run P w = .ok () w' ∧ HRel m' h' w' ∧ Ext S m h w m' h' w' := by
  unfold entryStoreA at hq
  split at hq
  · rename_i r j born
    rw [hst.of_atom rfl]
    split at hq
    · rename_i es clock hg
      obtain ⟨t0, es', rfl, hm, hkd, hw, hrel⟩ := mapTarget H hx hg
      split at hq
      · rename_i i hi
        cases hq
        have hi' : es'.toList.findIdx? (fun e => (e.born : Int) == born) = some i := by
          clear hw hg hx
          generalize es'.toList = l' at hrel ⊢
          induction es generalizing l' i with
          | nil => simp at hi
          | cons a es ih =>
            cases l' with
            | nil => have := hrel.len; simp at this
            | cons a' l' =>
              have h0 := hrel.at_ 0 a a' rfl rfl
              have htail : ESRel m es l' := ⟨by simpa using hrel.len, fun n u u' hu hu' => hrel.at_ (n + 1) u u' (by simpa using hu) (by simpa using hu')⟩
              simp only [List.findIdx?_cons] at hi ⊢
              rw [← h0.2.2]
              by_cases hb : ((a.born : Int) == born) = true
              · rw [if_pos hb] at hi ⊢; exact hi
              · rw [if_neg hb] at hi ⊢
                simp only [Option.map_eq_some_iff] at hi ⊢
                obtain ⟨i0, hi0, rfl⟩ := hi
                exact ⟨i0, ih i0 hi0 l' htail, rfl⟩
        have hi'' : Array.findIdx? (fun e : MapEntry => (e.born : Int) == born) es' = some i := by rw [← List.findIdx?_toArray] at hi'; simpa using hi'
        obtain ⟨hs, H', E⟩ := setObj_sound (P := P) (o := .map es clock) (o2 := .map (es.modify i fun e => { e with val := v }) clock) (o2' := .map (es'.modify i fun e => { e with val := v' }) clock) H hm hw (by simp)
          (show ORel m t0 _ _ from ⟨hkd, by
            have := hrel.modify i (fun e => ({ e with val := v } : MapEntry)) (fun e => ({ e with val := v' } : MapEntry)) (fun a b hab => ⟨hab.1, hv, hab.2.2⟩)
            simpa using this, rfl⟩) S
        refine ⟨_, m, ?_, H', E⟩
        simp [Instr.entryStore, run_getObj hw (by simp), asInt, asIntOf, hi'', hs]
      · cases hq
    · cases hq
  · cases hq

theorem copyOp_sound (H : HRel m h w) {ats : Array TypeId} {args args' : List Value} {v : Value} {h' : AHeap} {ty : TypeId} (ha : LRel m args args') (hq : copyOp P ats args h = some (v, h')) (S : Nat → Prop) :
    ∃ v' w' m', (Builtin.copy_ ats ty args'.toArray).run P w = .ok v' w' ∧ VRel m' v v' ∧ HRel m' h' w' ∧ Ext S m h w m' h' w' := by
  unfold copyOp at hq
  split at hq
  · rename_i st tr base dLen cap x ar hats
    obtain ⟨s', r', rfl, hs, hr'⟩ := ha.of_cons
    obtain ⟨x', r2', rfl, hx, hr2⟩ := hr'.of_cons
    have a0 : ats[0]? = some st := by rw [← Array.getElem?_toList, hats]; rfl
    split at hq
    · cases hq
    · rename_i e he
      split at hq
      · rename_i size n hsz hn
        have hmin : Nat.min n dLen ≤ n := Nat.min_le_left _ _
        split at hq
        · rename_i cs a hcs
          obtain ⟨cs', hrun, hrel, hlen⟩ := firstCellsA_sound (P := P) H hx hcs hn hmin
          simp only [Option.map_eq_some_iff, Prod.mk.injEq] at hq
          obtain ⟨h1, hset, rfl, rfl⟩ := hq
          obtain ⟨b, cap', rfl, hsr⟩ := hs.slice_inv
          have hst : ∃ w', (storeCells b cs').run P w = .ok () w' ∧ HRel m h1 w' ∧ Ext S m h w m h1 w' := by
            cases hcl : cs with
            | nil => subst hcl; simp only [setCells, Option.some.injEq] at hset; subst hset; rw [hrel.of_nil]; exact ⟨w, rfl, H, .refl _ _ _ _⟩
            | cons c0 cr =>
              have hpos : 0 < dLen := by
                rcases Nat.eq_zero_or_pos dLen with e0 | e0
                · subst e0
                  rw [hcl] at hlen; simp at hlen
                · exact e0
              exact setCells_sound (P := P) H (hsr.ptrL hpos) hrel hset S
          obtain ⟨w', hr, H', E⟩ := hst
          refine ⟨_, w', m, ?_, .atom rfl, H', E⟩
          simp [Builtin.copy_, a0, ru (elemOfSlice_spec he), lenOfA_sound hx hn, rsize hsz, hrun w rfl, hr, goInt]
        · rename_i hcs
          obtain ⟨cs', hrun, hrel, hlen⟩ := firstCellsA_sound (P := P) H hx hcs hn hmin
          simp only [Option.some.injEq, Prod.mk.injEq] at hq
          obtain ⟨rfl, rfl⟩ := hq
          rw [hs.of_atom rfl]
          refine ⟨_, w, m, ?_, .atom rfl, H, .refl _ _ _ _⟩
          simp [Builtin.copy_, a0, ru (elemOfSlice_spec he), lenOfA_sound hx hn, rsize hsz, hrun w rfl, goInt]
        · cases hq
      · cases hq
  · cases hq

theorem clearOp_sound (H : HRel m h w) {ats : Array TypeId} {args args' : List Value} {v : Value} {h' : AHeap} {ty : TypeId} (ha : LRel m args args') (hq : clearOp P ats args h = some (v, h')) (S : Nat → Prop) :
    ∃ v' w' m', (Builtin.clear_ ats ty args'.toArray).run P w = .ok v' w' ∧ VRel m' v v' ∧ HRel m' h' w' ∧ Ext S m h w m' h' w' := by
  unfold clearOp at hq
  split at hq
  · rename_i st tr base n cap ar hats
    obtain ⟨s', r', rfl, hs, hr'⟩ := ha.of_cons
    have a0 : ats[0]? = some st := by rw [← Array.getElem?_toList, hats]; rfl
    split at hq
    · cases hq
    · rename_i e he
      split at hq
      · simp only [Option.some.injEq, Prod.mk.injEq] at hq
        obtain ⟨rfl, rfl⟩ := hq
        refine ⟨_, w, m, ?_, .undef, H, .refl _ _ _ _⟩
        cases base with
        | none => rw [hs.of_atom rfl]; simp [Builtin.clear_, a0, ru (elemOfSlice_spec he)]; rfl
        | some a => obtain ⟨b, cap', rfl, hsr⟩ := hs.slice_inv; simp [Builtin.clear_, a0, ru (elemOfSlice_spec he)]; rfl
      · rename_i k a
        split at hq
        · rename_i z hz
          simp only [Option.map_eq_some_iff, Prod.mk.injEq] at hq
          obtain ⟨h1, hset, rfl, rfl⟩ := hq
          obtain ⟨b, cap', rfl, hsr⟩ := hs.slice_inv
          obtain ⟨w', hr, H', E⟩ := setCells_sound (P := P) H (hsr.ptrL (by omega)) (repL_rel (zeroT_rel hz) (k + 1)) hset S
          refine ⟨_, w', m, ?_, .undef, H', E⟩
          have hzc := zeroCells_eq (z := z) (n := k + 1) rfl
          simp [Builtin.clear_, a0, ru (elemOfSlice_spec he), rzero hz, hzc, hr]
          rfl
        · cases hq
      · cases hq
  · rename_i st tr r ar hats
    obtain ⟨s', r', rfl, hs, hr'⟩ := ha.of_cons
    have a0 : ats[0]? = some st := by rw [← Array.getElem?_toList, hats]; rfl
    split at hq
    · rename_i d es clock hu hg
      simp only [Option.some.injEq, Prod.mk.injEq] at hq
      obtain ⟨rfl, rfl⟩ := hq
      obtain ⟨t0, es', rfl, hm, hkd, hw, hrel⟩ := mapTarget H hs hg
      obtain ⟨hset, H', E⟩ := setObj_sound (P := P) (o := .map es clock) (o2 := .map [] clock) (o2' := .map #[] clock) H hm hw (by simp)
        (show ORel m t0 (.map [] clock) (.map #[] clock) from ⟨hkd, ⟨rfl, by simp⟩, rfl⟩) S
      refine ⟨_, _, m, ?_, .undef, H', E⟩
      simp [Builtin.clear_, a0, ru hu, run_getObj hw (by simp), hset]
      rfl
    · cases hq
  · cases hq

theorem rangeA_sound (H : HRel m h w) {t : TypeId} {x x' v : Value} {id : Nat} {h' : AHeap} (hx : VRel m x x') (hid : m id = none) (hfr : id < h.next) (hq : rangeA P t x id h = some (v, h')) :
    ∃ v' w' m', (Instr.range t x').run P w = .ok v' w' ∧ VRel m' v v' ∧ HRel m' h' w' ∧ Ext (· = id) m h w m' h' w' := by
  have mk : ∀ (o : AObj) (o' : Obj) (t0 : Tgt), t0.j = w.heap.size → t0.sh = 0 → ORel (m.put id t0) t0 o o' → HRel (m.put id t0) (h.set id o) { w with heap := w.heap.push o' } ∧ Ext (· = id) m h w (m.put id t0) (h.set id o) { w with heap := w.heap.push o' } := by
    intro o o' t0 hj hs ho
    obtain ⟨H', E⟩ := (H.lay hid o).grow hid (AHeap.get_set_same hfr) (Grw.push' w o') hj ho
    exact ⟨H', (Ext.lay hid o).trans E⟩
  unfold rangeA at hq
  dsimp only at hq
  split at hq
  · rename_i s hu
    simp only [Option.some.injEq, Prod.mk.injEq] at hq
    obtain ⟨rfl, rfl⟩ := hq
    rw [hx.of_atom rfl]
    obtain ⟨H', E⟩ := mk (.strIter s 0) (.stringIter s 0) ⟨.str, w.heap.size, 0, 0, none, 0⟩ rfl rfl ⟨rfl, rfl, rfl, rfl⟩
    exact ⟨_, _, _, by simp [Instr.range, ru hu], fresh_ptr rfl rfl, H', E⟩
  · rename_i k e hu
    simp only [Option.some.injEq, Prod.mk.injEq] at hq
    obtain ⟨rfl, rfl⟩ := hq
    rw [hx.of_atom rfl]
    obtain ⟨H', E⟩ := mk (.mapIter none 0 #[] 0) (.mapIter none 0 #[] 0) ⟨.iter, w.heap.size, 0, 0, none, 0⟩ rfl rfl ⟨rfl, rfl, rfl, rfl, rfl, trivial⟩
    exact ⟨_, _, _, by simp [Instr.range, ru hu], fresh_ptr rfl rfl, H', E⟩
  · rename_i k e r hu
    split at hq
    · rename_i es clock hg
      simp only [Option.some.injEq, Prod.mk.injEq] at hq
      obtain ⟨rfl, rfl⟩ := hq
      obtain ⟨t0, es', rfl, hm, hkd, hw, hrel⟩ := mapTarget H hx hg
      obtain ⟨H', E⟩ := mk (.mapIter (some r) clock #[] clock) (.mapIter (some t0.j) clock #[] clock) ⟨.iter, w.heap.size, 0, 0, none, 0⟩ rfl rfl
        ⟨rfl, rfl, rfl, rfl, rfl, RRel.mono (AMap.le_put hid) (.inr ⟨t0, hm, rfl⟩)⟩
      exact ⟨_, _, _, by simp [Instr.range, ru hu, run_getObj hw (by simp)], fresh_ptr rfl rfl, H', E⟩
    · cases hq
  · cases hq

theorem LRel.arr {l l' : List Value} (hl : LRel m l l') : l'.toArray.toList = l' := rfl

/-- An operation that turns memory. -/
theorem eff_sound {o : Oper} {id : Nat} {ρ ρ' : Operand → Value} {h' : AHeap} {v : Value} (hq : aOp P ρ o id h = some (v, h')) (he : isEff o = true) (H : HRel m h w) (hid : m id = none) (hfr : id < h.next)
    (hρ : ∀ x ∈ o.op.operands, VRel m (ρ x) (ρ' x)) : EOut P o ρ' id m h w v h' := by
  obtain ⟨dst, op, ty, pos, after, guard⟩ := o
  cases op with
  | store t a x =>
    simp only [aOp, Option.map_eq_some_iff, Prod.mk.injEq] at hq
    obtain ⟨h1, hs, rfl, rfl⟩ := hq
    obtain ⟨a0, e⟩ := storeA_ptr hs
    have ha := hρ a (by simp [Op.operands])
    rw [e] at ha hs
    obtain ⟨b, e', hp⟩ := ha.ptr_inv
    obtain ⟨w', hr, H', E⟩ := storeVar_sound (P := P) H hp (hρ x (by simp [Op.operands])) hs (· = id)
    refine .unit (s := Instr.storeAt t (ρ' a) (ρ' x)) ⟨w', m, ?_, H', E⟩ rfl
    rw [e']; simpa [Instr.storeAt, Instr.sureAddr] using hr
  | mapUpdate t mp k x =>
    simp only [aOp, Option.map_eq_some_iff, Prod.mk.injEq] at hq
    obtain ⟨h1, hs, rfl, rfl⟩ := hq
    exact .unit (mapPutA_sound H (hρ mp (by simp [Op.operands])) (hρ k (by simp [Op.operands])) (hρ x (by simp [Op.operands])) hs _) rfl
  | mapEntry t mp k =>
    simp only [aOp] at hq
    exact .value (mapEntryA_sound H (hρ mp (by simp [Op.operands])) (hρ k (by simp [Op.operands])) hq _) rfl
  | entryStore t mp s x =>
    simp only [aOp, Option.map_eq_some_iff, Prod.mk.injEq] at hq
    obtain ⟨h1, hs, rfl, rfl⟩ := hq
    exact .unit (entryStoreA_sound H (hρ mp (by simp [Op.operands])) (hρ s (by simp [Op.operands])) (hρ x (by simp [Op.operands])) hs _) rfl
  | range t x =>
    simp only [aOp] at hq
    exact .value (rangeA_sound H (hρ x (by simp [Op.operands])) hid hfr hq) rfl
  | call c =>
    obtain ⟨cal, args, ats⟩ := c
    cases cal with
    | value f => simp [aOp] at hq
    | invoke r n => simp [aOp] at hq
    | builtin b =>
      have hargs : LRel m (args.toList.map ρ) (args.toList.map ρ') := LRel.map _ _ _ fun x hx => hρ x (by simp [Op.operands, Call.operands]; simpa using hx)
      have harr : (args.map ρ') = (args.toList.map ρ').toArray := by apply Array.ext'; simp
      cases b <;> first | (simp [aOp, builtinA] at hq; done) | (simp [isEff] at he; done) | skip
      case append =>
        simp only [aOp, builtinA] at hq
        obtain ⟨v', w', m', hr, x⟩ := appendOp_sound (P := P) (ty := ty) H hargs hid hfr hq
        exact ⟨v', w', m', .value v', by simp only [execOp, resolve, Sem.run_bind, Sem.run_pure, Result.andThen_ok, invoke, builtin, harr, hr], .inl rfl, x⟩
      case copy =>
        simp only [aOp, builtinA] at hq
        obtain ⟨v', w', m', hr, x⟩ := copyOp_sound (P := P) (ty := ty) H hargs hq (· = id)
        exact ⟨v', w', m', .value v', by simp only [execOp, resolve, Sem.run_bind, Sem.run_pure, Result.andThen_ok, invoke, builtin, harr, hr], .inl rfl, x⟩
      case clear =>
        simp only [aOp, builtinA] at hq
        obtain ⟨v', w', m', hr, x⟩ := clearOp_sound (P := P) (ty := ty) H hargs hq (· = id)
        exact ⟨v', w', m', .value v', by simp only [execOp, resolve, Sem.run_bind, Sem.run_pure, Result.andThen_ok, invoke, builtin, harr, hr], .inl rfl, x⟩
      case delete =>
        simp only [aOp, builtinA] at hq
        split at hq
        · rename_i mp k rest t ts hal hts
          rw [hal] at hargs
          obtain ⟨mp', r', e1, hmp, hr'⟩ := hargs.of_cons
          obtain ⟨k', r2', rfl, hk, _⟩ := hr'.of_cons
          have h0 : ats[0]? = some t := by rw [← Array.getElem?_toList, hts]; rfl
          obtain ⟨v', w', m', hr, x⟩ := deleteA_sound (P := P) (ty := ty) (args := args.map ρ') H hmp hk hq h0 (by rw [harr, e1]; rfl) (by rw [harr, e1]; rfl) (· = id)
          exact ⟨v', w', m', .value v', by simp only [execOp, resolve, Sem.run_bind, Sem.run_pure, Result.andThen_ok, invoke, builtin, hr], .inl rfl, x⟩
        · cases hq
  | _ => first | (simp [aOp] at hq; done) | (simp [isEff] at he; done)
end
end Go.Cub
