import Derived.Test.YtdlnbmadifgbkaaGreatDoorCubS9
namespace Go.Cub
set_option linter.unusedVariables false
set_option linter.unusedSimpArgs false
open Go
section
variable {P : Program} {m : AMap} {h : AHeap} {w : World}

theorem EOut.value {o : Oper} {ρ' : Operand → Value} {id : Nat} {v : Value} {h' : AHeap} {s : Sem Value} (hs : ∃ v' w' m', s.run P w = .ok v' w' ∧ VRel m' v v' ∧ HRel m' h' w' ∧ Ext (· = id) m h w m' h' w')
    (he : execOp ρ' o = (do pure (.value (← s)))) : EOut P o ρ' id m h w v h' := by
  obtain ⟨v', w', m', hr, x⟩ := hs
  exact ⟨v', w', m', .value v', by rw [he]; simp [hr], .inl rfl, x⟩

theorem EOut.unit {o : Oper} {ρ' : Operand → Value} {id : Nat} {h' : AHeap} {s : Sem Unit} (hs : ∃ w' m', s.run P w = .ok () w' ∧ HRel m' h' w' ∧ Ext (· = id) m h w m' h' w')
    (he : execOp ρ' o = (do s; pure .skip)) : EOut P o ρ' id m h w undef h' := by
  obtain ⟨w', m', hr, x⟩ := hs
  exact ⟨undef, w', m', .skip, by rw [he]; simp [hr], .inr ⟨rfl, rfl⟩, .undef, x⟩

theorem appendOp_sound (H : HRel m h w) {ats : Array TypeId} {args args' : List Value} {id : Nat} {v : Value} {h' : AHeap} {ty : TypeId} (ha : LRel m args args') (hid : m id = none) (hfr : id < h.next) (hq : appendOp P ats args id h = some (v, h')) :
    ∃ v' w' m', (Builtin.append_ ats ty args'.toArray).run P w = .ok v' w' ∧ VRel m' v v' ∧ HRel m' h' w' ∧ Ext (· = id) m h w m' h' w' := by
  unfold appendOp at hq
  split at hq
  · rename_i st xt tr s x ar hats
    obtain ⟨s', r', rfl, hs, hr'⟩ := ha.of_cons
    obtain ⟨x', r2', rfl, hx, hr2⟩ := hr'.of_cons
    have a0 : ats[0]? = some st := by rw [← Array.getElem?_toList, hats]; rfl
    have a1 : ats[1]? = some xt := by rw [← Array.getElem?_toList, hats]; rfl
    have drop : (Builtin.append_ ats ty (s' :: x' :: r2').toArray) = Builtin.append_ ats ty #[s', x'] := by
      simp [Builtin.append_]
    rw [drop]
    split at hq
    · cases hq
    · rename_i e he
      split at hq
      · rename_i size bytes z hsz hb hz
        split at hq
        · rename_i k hzs hu
          have hzs := eq_of_beqN hzs
          split at hq
          · rename_i n hn
            split at hq
            · rename_i hle
              obtain ⟨j, rfl⟩ := natOf_int hn
              rw [hx.of_atom rfl]
              simp only [Bool.and_eq_true] at hle
              refine appendA_sound H (st := st) (e := e) (z := z) ⟨a0, elemOfSlice_spec he, hsz, hb, hz, hzs, by rw [repL_len]; simp [hzs], .inr ⟨xt, k, j, a1, hu, rfl, le_of_ble hle.1, le_of_ble hle.2, rfl⟩⟩ (repL_rel (zeroT_rel hz) n) hs hid hfr hq
            · cases hq
          · cases hq
        · rename_i d hne hzs hu
          have hzs := eq_of_beqN hzs
          split at hq
          · rename_i n hn
            split at hq
            · rename_i new hnew
              obtain ⟨new', hrun, hrel, hlen⟩ := firstCellsA_sound (P := P) H hx hnew hn (Nat.le_refl _)
              exact appendA_sound H (st := st) (e := e) (z := z) ⟨a0, elemOfSlice_spec he, hsz, hb, hz, hzs, by rw [← hrel.len]; exact hlen, .inl ⟨xt, d, a1, hu, fun k hk => hne k hk, fun w' hw' => ⟨lenOfA_sound hx hn, hrun w' hw'⟩⟩⟩ hrel hs hid hfr hq
            · cases hq
          · cases hq
        · cases hq
      · cases hq
  · cases hq

theorem HRel.heap_eq (H : HRel m h w) {w' : World} (e : w'.heap = w.heap) : HRel m h w' :=
  ⟨H.dom, fun i t hi => by rw [e]; exact H.live i t hi, H.dead, H.inj⟩

/-- One object that is no row is turned. -/
theorem setObj_sound (H : HRel m h w) {i : Nat} {t : Tgt} {o o2 : AObj} {o' o2' : Obj} (hm : m i = some (some t)) (hw : w.heap[t.j]? = some o') (hne : ∀ c e fr, o' ≠ .cells c e fr) (hr : ORel m t o2 o2') (S : Nat → Prop) :
    (setObj t.j o2').run P w = .ok () { w with heap := w.heap.setIfInBounds t.j o2' } ∧ HRel m (h.set i o2) { w with heap := w.heap.setIfInBounds t.j o2' } ∧ Ext S m h w m (h.set i o2) { w with heap := w.heap.setIfInBounds t.j o2' } :=
  ⟨run_setObj hw hne, H.upd hm (Chg.setObj w t.j o2') (get_setObj hw) hr S (fun b hb => by
    obtain ⟨c, e, fr, hw', _⟩ := H.block hm hb
    rw [hw] at hw'; cases hw'; exact absurd rfl (hne c e fr))⟩

theorem ESRel.modify {l l' : List MapEntry} (hr : ESRel m l l') (i : Nat) (f g : MapEntry → MapEntry) (hfg : ∀ e e', ERel m e e' → ERel m (f e) (g e')) : ESRel m (l.modify i f) (l'.modify i g) :=
  ⟨by simp [hr.len], fun k u u' a b => by
    simp only [List.getElem?_modify] at a b
    cases ha : l[k]? with
    | none => simp [ha] at a
    | some e =>
      cases hb : l'[k]? with
      | none => simp [hb] at b
      | some e' =>
        simp only [ha, hb, Option.map_eq_map, Option.map_some, Option.some.injEq] at a b
        have := hr.at_ k e e' ha hb
        subst a; subst b
        split
        · exact hfg _ _ this
        · exact this⟩
theorem ESRel.snoc {l l' : List MapEntry} (hr : ESRel m l l') {e e' : MapEntry} (he : ERel m e e') : ESRel m (l ++ [e]) (l' ++ [e']) :=
  ⟨by simp [hr.len], fun k u u' a b => by
    rw [List.getElem?_append] at a b
    have hl := hr.len
    split at a
    · rw [if_pos (by omega)] at b; exact hr.at_ k u u' a b
    · rw [if_neg (by omega)] at b
      rw [← hl] at b
      cases hk : k - l.length with
      | zero => rw [hk] at a b; simp at a b; subst a; subst b; exact he
      | succ n => rw [hk] at a; simp at a⟩
theorem ESRel.erase {l l' : List MapEntry} (hr : ESRel m l l') (i : Nat) : ESRel m (l.eraseIdx i) (l'.eraseIdx i) :=
  ⟨by simp [List.length_eraseIdx, hr.len], fun k u u' a b => by
    simp only [List.getElem?_eraseIdx] at a b
    split at a
    · rename_i hk; rw [if_pos hk] at b; exact hr.at_ _ _ _ a b
    · rename_i hk; rw [if_neg hk] at b; exact hr.at_ _ _ _ a b⟩

theorem run_keyThatStays {old new : Value} (hs : Instr.sameBits 10000 old new = true) : (Instr.keyThatStays old new).run P w = .ok new w := by
  simp [Instr.keyThatStays, hs]

/-- Where a map's key stands. -/
theorem find_both {es es' : List MapEntry} {kt : TypeId} {k : Value} {r : Option (Nat × Value)} (hrel : ESRel m es es') (hf : findA P kt k es = some r) (hk : isAtom k = true) :
    (∀ e w', (Instr.checkKey e 10000 kt k).run P w' = .ok () w') ∧
    ((r = none ∧ ∀ w', (Instr.findKey kt k es').run P w' = .ok none w') ∨
     ∃ i v v' e e', r = some (i, v) ∧ VRel m v v' ∧ es[i]? = some e ∧ es'[i]? = some e' ∧ (∀ w', (Instr.findKey kt k es').run P w' = .ok (some (i, v')) w') ∧ (∀ w', (Instr.keyThatStays e'.key k).run P w' = .ok k w')) := by
  obtain ⟨d, hud, hfn, hd⟩ := findA_desc hf
  refine ⟨fun e w' => run_checkKey hud hd, ?_⟩
  rcases findNow_rel es es' 0 _ hrel hfn with ⟨rfl, hn⟩ | ⟨j, v, v', e, e', rfl, hn, hv, he, he', hs, hve⟩
  · exact .inl ⟨rfl, fun w' => run_findKey hud hn⟩
  · refine .inr ⟨j, v, v', e, e', by simp, hv, he, he', fun w' => by simpa using run_findKey (w := w') hud hn, fun w' => ?_⟩
    have hke := (hrel.at_ j e e' he he').1.of_atom (sameNow_atom hs)
    rw [hke]; exact run_keyThatStays (sameNow_true hs)

theorem mapTarget (H : HRel m h w) {r : Nat} {x' : Value} {es : List MapEntry} {clock : Nat} (hx : VRel m (.map (some r)) x') (hg : h.get r = some (.map es clock)) :
    ∃ t es', x' = .map (some t.j) ∧ m r = some (some t) ∧ t.kd = .map ∧ w.heap[t.j]? = some (.map es' clock) ∧ ESRel m es es'.toList := by
  obtain ⟨j, rfl, hr⟩ := hx.map_inv
  obtain ⟨t, hm, rfl⟩ := H.rtgt hr hg (by simp)
  obtain ⟨es', hw, hrel, hk⟩ := H.mapBlock hm hg
  exact ⟨t, es', rfl, hm, hk, hw, hrel⟩

theorem mapPutA_sound (H : HRel m h w) {t : TypeId} {x k v x' k' v' : Value} {h' : AHeap} (hx : VRel m x x') (hk : VRel m k k') (hv : VRel m v v') (hq : mapPutA P t x k v h = some h') (S : Nat → Prop) :
    ∃ w' m', (Instr.mapUpdate t x' k' v').run P w = .ok () w' ∧ HRel m' h' w' ∧ Ext S m h w m' h' w' := by
  unfold mapPutA at hq
  split at hq
  · rename_i kt et r hkt hpk
    have hu := keyTypeOf_spec hkt
    have hka := plainKey_atom hpk
    have hke := hk.of_atom hka
    subst hke
    split at hq
    · rename_i es clock hg
      obtain ⟨t0, es', rfl, hm, hkd, hw, hrel⟩ := mapTarget H hx hg
      split at hq
      · rename_i i v0 hf
        cases hq
        obtain ⟨hck, hfr⟩ := find_both (P := P) hrel hf hka
        rcases hfr with ⟨h0, _⟩ | ⟨i2, u, u', e, e', hr, hu', he, he', hfk, hst⟩
        · cases h0
        · cases hr
          have hee : es'[i]? = some e' := by simpa using he'
          obtain ⟨hs, H', E⟩ := setObj_sound (P := P) (o := .map es clock) (o2 := .map (setE es i k' v) clock) (o2' := .map (es'.modify i fun e => { e with key := k', val := v' }) clock) H hm hw (by simp)
            (show ORel m t0 (.map (setE es i k' v) clock) (.map (es'.modify i fun e => { e with key := k', val := v' }) clock) from ⟨hkd, by
              have := hrel.modify i (fun e => ({ e with key := k', val := v } : MapEntry)) (fun e => ({ e with key := k', val := v' } : MapEntry)) (fun a b hab => ⟨hk, hv, hab.2.2⟩)
              simpa [setE] using this, rfl⟩) S
          refine ⟨_, m, ?_, H', E⟩
          simp [Instr.mapUpdate, ru hu, run_getObj hw (by simp), hck, hfk, hee, hst, hs]
      · rename_i hf
        cases hq
        obtain ⟨hck, hfr⟩ := find_both (P := P) hrel hf hka
        rcases hfr with ⟨_, hfk⟩ | ⟨i2, u, u', e, e', hr, _⟩
        · obtain ⟨hs, H', E⟩ := setObj_sound (P := P) (o := .map es clock) (o2 := .map (es ++ [{ key := k', val := v, born := clock }]) (clock + 1)) (o2' := .map (es'.push { key := k', val := v', born := clock }) (clock + 1)) H hm hw (by simp)
            (show ORel m t0 _ _ from ⟨hkd, by simpa using hrel.snoc (e := { key := k', val := v, born := clock }) (e' := { key := k', val := v', born := clock }) ⟨hk, hv, rfl⟩, rfl⟩) S
          refine ⟨_, m, ?_, H', E⟩
          simp [Instr.mapUpdate, ru hu, run_getObj hw (by simp), hck, hfk, hs]
        · cases hr
      · cases hq
    · cases hq
  · cases hq

theorem mapEntryA_sound (H : HRel m h w) {t : TypeId} {x k v x' k' : Value} {h' : AHeap} (hx : VRel m x x') (hk : VRel m k k') (hq : mapEntryA P t x k h = some (v, h')) (S : Nat → Prop) :
    ∃ v' w' m', (Instr.mapEntry t x' k').run P w = .ok v' w' ∧ VRel m' v v' ∧ HRel m' h' w' ∧ Ext S m h w m' h' w' := by
  unfold mapEntryA at hq
  split at hq
  · rename_i kt et r hkt hpk
    have hu := keyTypeOf_spec hkt
    have hka := plainKey_atom hpk
    have hke := hk.of_atom hka
    subst hke
    split at hq
    · rename_i es clock hg
      obtain ⟨t0, es', rfl, hm, hkd, hw, hrel⟩ := mapTarget H hx hg
      split at hq
      · rename_i i v0 hf
        simp only [Option.some.injEq, Prod.mk.injEq] at hq
        obtain ⟨rfl, rfl⟩ := hq
        obtain ⟨hck, hfr⟩ := find_both (P := P) hrel hf hka
        rcases hfr with ⟨h0, _⟩ | ⟨i2, u, u', e, e', hr, hu', he, he', hfk, hst⟩
        · cases h0
        · cases hr
          have hee : es'[i]? = some e' := by simpa using he'
          have hborn := (hrel.at_ i e e' he he').2.2
          obtain ⟨hs, H', E⟩ := setObj_sound (P := P) (o := .map es clock) (o2 := .map (es.modify i fun e => { e with key := k' }) clock) (o2' := .map (es'.modify i fun e => { e with key := k' }) clock) H hm hw (by simp)
            (show ORel m t0 _ _ from ⟨hkd, by simpa using hrel.modify i (fun e => { e with key := k' }) (fun e => { e with key := k' }) (fun a b hab => ⟨hk, hab.2.1, hab.2.2⟩), rfl⟩) S
          refine ⟨.tuple #[u', goInt e.born], _, m, ?_, ?_, H', E⟩
          · simp [Instr.mapEntry, ru hu, run_getObj hw (by simp), hck, hfk, hee, hst, hs, hborn]
          · simpa [he] using VRel.tupleL (.cons hu' (.cons (.atom (v := goInt e.born) rfl) .nil))
      · rename_i hf
        simp only [Option.map_eq_some_iff, Prod.mk.injEq] at hq
        obtain ⟨z, hz, rfl, rfl⟩ := hq
        obtain ⟨hck, hfr⟩ := find_both (P := P) hrel hf hka
        rcases hfr with ⟨_, hfk⟩ | ⟨i2, u, u', e, e', hr, _⟩
        · obtain ⟨hs, H', E⟩ := setObj_sound (P := P) (o := .map es clock) (o2 := .map (es ++ [{ key := k', val := z, born := clock }]) (clock + 1)) (o2' := .map (es'.push { key := k', val := z, born := clock }) (clock + 1)) H hm hw (by simp)
            (show ORel m t0 _ _ from ⟨hkd, by simpa using hrel.snoc (e := { key := k', val := z, born := clock }) (e' := { key := k', val := z, born := clock }) ⟨hk, zeroT_val hz, rfl⟩, rfl⟩) S
          refine ⟨.tuple #[z, goInt clock], _, m, ?_, ?_, H', E⟩
          · simp [Instr.mapEntry, ru hu, run_getObj hw (by simp), hck, hfk, rzero hz, hs]
          · simpa using VRel.tupleL (.cons (zeroT_val hz) (.cons (.atom (v := goInt clock) rfl) .nil))
        · cases hr
      · cases hq
    · cases hq
  · cases hq

theorem deleteA_sound (H : HRel m h w) {t : TypeId} {x k v x' k' : Value} {h' : AHeap} {ats : Array TypeId} {ty : TypeId} {args : Array Value} (hx : VRel m x x') (hk : VRel m k k') (hq : deleteA P t x k h = some (v, h'))
    (h0 : ats[0]? = some t) (h1 : args[0]? = some x') (h2 : args[1]? = some k') (S : Nat → Prop) :
    ∃ v' w' m', (Builtin.delete_ ats ty args).run P w = .ok v' w' ∧ VRel m' v v' ∧ HRel m' h' w' ∧ Ext S m h w m' h' w' := by
  unfold deleteA at hq
  split at hq
  · rename_i kt et r hkt hpk
    have hu := keyTypeOf_spec hkt
    have hka := plainKey_atom hpk
    have hke := hk.of_atom hka
    subst hke
    split at hq
    · rename_i es clock hg
      obtain ⟨t0, es', rfl, hm, hkd, hw, hrel⟩ := mapTarget H hx hg
      split at hq
      · rename_i i v0 hf
        simp only [Option.some.injEq, Prod.mk.injEq] at hq
        obtain ⟨rfl, rfl⟩ := hq
        obtain ⟨hck, hfr⟩ := find_both (P := P) hrel hf hka
        rcases hfr with ⟨h0, _⟩ | ⟨i2, u, u', e, e', hr, hu', he, he', hfk, hst⟩
        · cases h0
        · cases hr
          obtain ⟨hs, H', E⟩ := setObj_sound (P := P) (o := .map es clock) (o2 := .map (es.eraseIdx i) clock) (o2' := .map (es'.eraseIdxIfInBounds i) clock) H hm hw (by simp)
            (show ORel m t0 _ _ from ⟨hkd, by simpa using hrel.erase i, rfl⟩) S
          refine ⟨_, _, m, ?_, .undef, H', E⟩
          simp [Builtin.delete_, h0, h1, h2, ru hu, run_getObj hw (by simp), hck, hfk, hs]
          rfl
      · rename_i hf
        simp only [Option.some.injEq, Prod.mk.injEq] at hq
        obtain ⟨rfl, rfl⟩ := hq
        obtain ⟨hck, hfr⟩ := find_both (P := P) hrel hf hka
        rcases hfr with ⟨_, hfk⟩ | ⟨i2, u, u', e, e', hr, _⟩
        · have hsame : ({ w with heap := w.heap.setIfInBounds t0.j (.map es' clock) } : World) = w := by
            have : w.heap.setIfInBounds t0.j (.map es' clock) = w.heap := by
              apply Array.ext_getElem?
              intro i
              rw [Array.getElem?_setIfInBounds]
              split
              · rename_i e; subst e; rw [hw]; have := (Array.getElem?_eq_some_iff.1 hw).1; simp [this]
              · rfl
            rw [this]
          refine ⟨_, w, m, ?_, .undef, H, .refl _ _ _ _⟩
          simp [Builtin.delete_, h0, h1, h2, ru hu, run_getObj hw (by simp), hck, hfk, run_setObj hw (by simp), hsame]
          rfl
        · cases hr
      · cases hq
    · cases hq
  · rename_i kt et hkt hpk
    have hu := keyTypeOf_spec hkt
    have hka := plainKey_atom hpk
    rw [hx.of_atom rfl] at h1
    have hke := hk.of_atom hka
    subst hke
    split at hq
    · rename_i r hf
      simp only [Option.some.injEq, Prod.mk.injEq] at hq
      obtain ⟨rfl, rfl⟩ := hq
      obtain ⟨d, hud, _, hd⟩ := findA_desc hf
      refine ⟨_, w, m, ?_, .undef, H, .refl _ _ _ _⟩
      simp [Builtin.delete_, h0, h1, h2, ru hu, run_checkKey hud hd]
      rfl
    · cases hq
  · cases hq
end
end Go.Cub
