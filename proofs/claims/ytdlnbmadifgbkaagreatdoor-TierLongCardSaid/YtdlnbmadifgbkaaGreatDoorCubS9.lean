/- The operations that turn memory: append, and the theorem. -/
import Derived.Test.YtdlnbmadifgbkaaGreatDoorCubS8
namespace Go.Cub
set_option linter.unusedVariables false
set_option linter.unusedSimpArgs false
open Go

section
variable {P : Program} {m : AMap} {h : AHeap} {w : World}

theorem putL_window (L new : List Value) (b K : Nat) (hb : b + K + new.length ≤ L.length) : ((putL L (b + K) new).drop b).take (K + new.length) = (L.drop b).take K ++ new := by
  have e1 : (L.take (b + K)).drop b = (L.drop b).take K := by rw [List.drop_take]; congr 1; omega
  have hl : ((L.drop b).take K).length = K := by simp; omega
  unfold putL
  rw [List.append_assoc, List.drop_append, e1]
  have e2 : b - (L.take (b + K)).length = 0 := by simp; omega
  rw [e2, List.drop_zero, ← List.append_assoc, List.take_left']
  simp [hl]

theorem appendA_sound (H : HRel m h w) {st e : TypeId} {size bytes n : Nat} {z s s' x' v : Value} {new new' : List Value} {ats : Array TypeId} {ty : TypeId} {id : Nat} {h' : AHeap}
    (A : AppArg P w st e size bytes z ats n x' new') (hnew : LRel m new new') (hs : VRel m s s') (hid : m id = none) (hfr : id < h.next) (hq : appendA size bytes s n new id h = some (v, h')) :
    ∃ v' w' m', (Builtin.append_ ats ty #[s', x']).run P w = .ok v' w' ∧ VRel m' v v' ∧ HRel m' h' w' ∧ Ext (· = id) m h w m' h' w' := by
  have hl2 : new'.length = n * size := A.len
  have hl1 : new.length = n * size := by rw [hnew.len]; exact hl2
  unfold appendA at hq
  split at hq
  · cases hq
  · -- nil
    rw [hs.of_atom rfl]
    split at hq
    · simp only [Option.some.injEq, Prod.mk.injEq] at hq
      obtain ⟨rfl, rfl⟩ := hq
      exact ⟨_, w, m, run_append_here A (w' := w) (by simp) rfl, .atom rfl, H, .refl _ _ _ _⟩
    · rename_i hn0
      split at hq
      · rename_i hg
        simp only [Option.some.injEq, Prod.mk.injEq] at hq
        obtain ⟨rfl, rfl⟩ := hq
        have hn : 0 < n := Nat.pos_of_ne_zero (fun e => hn0 e)
        have := append_fresh (H.lay hid (.cells ⟨new, some size, true, true⟩)) (base := none) (sLen := 0) (sCap := 0) (ty := ty) (old := []) (old' := []) (pl := true) A hnew .nil (by simp) hid (by omega) (by simpa using hg)
          (fun w' _ => by simp [Builtin.firstCells]) (by simpa using AHeap.get_set_same hfr) (Ext.lay hid _)
        simpa [newBlk] using this
      · cases hq
  · rename_i a len cap hz0
    have hsz : size ≠ 0 := by rintro rfl; cases hz0
    obtain ⟨b, cap', rfl, hsr⟩ := hs.slice_inv
    split at hq
    · rename_i blk hg
      obtain ⟨t, ht, s1, s2, s3, s4, s5, s6, s7, s8⟩ : ∃ t, m a.block = some (some t) ∧ a.spot = none ∧ b.spot = none ∧ b.block = t.j ∧ len ≤ cap ∧ cap ≤ cap' ∧
            t.sh ≤ b.off ∧ (cap = 0 ∨ b.off = t.sh + a.off) ∧ (cap' = cap ∨ ∃ z, t.opn = some z ∧ a.off + cap * z = t.n ∧ b.off + cap' * z ≤ t.csz) := by
          rcases hsr with hd | x
          · rw [H.dead _ hd] at hg; cases hg
          · exact x
      split at hq
      · -- in place
        rename_i hle
        have hle := le_of_ble hle
        simp only [Option.map_eq_some_iff, Prod.mk.injEq] at hq
        obtain ⟨h1, hset, rfl, rfl⟩ := hq
        rcases Nat.eq_zero_or_pos n with h0 | h0
        · subst h0
          have hnil : new = [] := List.eq_nil_of_length_eq_zero (by simp [hl1])
          have hnil' : new' = [] := List.eq_nil_of_length_eq_zero (by simp [hl2])
          subst hnil; subst hnil'
          simp only [setCells, Option.some.injEq] at hset; subst hset
          exact ⟨_, w, m, run_append_here A (w' := w) (by omega) (by simp [storeCells]), .slice (hsr.relen hle), H, .refl _ _ _ _⟩
        · have hp := hsr.ptr (by omega)
          have hp' := addrel (len * size) hp
          obtain ⟨w', hr, H', E⟩ := setCells_sound (P := P) H hp' hnew hset (· = id)
          exact ⟨_, w', m, run_append_here A (by omega) hr, .slice (hsr.relen hle), H', E⟩
      · rename_i hgt
        have hgt : cap < len + n := by
          rcases Nat.lt_or_ge cap (len + n) with g | g
          · exact g
          · rw [Nat.ble_eq_true_of_le g] at hgt; cases hgt
        split at hq
        · rename_i old hold hok
          have hol := getCells_len hold
          obtain ⟨c, ee, fr, hw, hr⟩ := H.block ht hg
          have hr0 := hr
          simp only [ORel] at hr
          obtain ⟨hkd, hn, hopn, hcs, hsz', hrel, hpl, hfz⟩ := hr
          -- what lies in the row
          obtain ⟨old', hoe, hrun, hor⟩ : ∃ old', old' = (c.toList.drop b.off).take (len * size) ∧ (∀ w' : World, w'.heap = w.heap → (Builtin.firstCells size len (.slice (some b) len cap')).run P w' = .ok old'.toArray w') ∧ LRel m old old' := by
            rcases Nat.eq_zero_or_pos len with h0 | h0
            · subst h0
              have : old = [] := List.eq_nil_of_length_eq_zero (by simp [hol])
              subst this
              exact ⟨[], by simp, fun w' _ => by simp [Builtin.firstCells, loadCells, loadCellsFrom], .nil⟩
            · have hp := hsr.ptrL h0
              obtain ⟨c0, e0, f0, hw0, hsp0, hn0, hrel0⟩ := getCells_sound H hp hold
              have hcc : c0 = c := by rw [s3, hw] at hw0; cases hw0; rfl
              subst hcc
              exact ⟨_, rfl, fun w' hw' => by simp only [Builtin.firstCells]; exact run_loadCells (by rw [hw']; exact hw0) hsp0 _ hn0, hrel0⟩
          have realloc : cap' < len + n → v = .slice (some ⟨id, 0, none⟩) (len + n) (len + n) → h' = newBlk h id (old ++ new) (some size) →
              ∃ v' w' m', (Builtin.append_ ats ty #[.slice (some b) len cap', x']).run P w = .ok v' w' ∧ VRel m' v v' ∧ HRel m' h' w' ∧ Ext (· = id) m h w m' h' w' := by
            rintro hlt rfl rfl
            exact append_fresh (H.lay hid _) (pl := true) A hnew hor hol hid hlt hok hrun (AHeap.get_set_same hfr) (Ext.lay hid _)
          dsimp only at hq
          split at hq
          · rename_i ho
            simp only [Option.some.injEq, Prod.mk.injEq] at hq
            refine realloc ?_ hq.1.symm hq.2.symm
            rcases s8 with rfl | ⟨z, hz, _⟩
            · exact hgt
            · rw [hopn, ho] at hz; cases hz
          · rename_i z1 ho
            split at hq
            · rename_i hzs hex
              simp only [Option.some.injEq, Prod.mk.injEq] at hq
              have hzs := eq_of_beqN hzs
              have hex := le_of_ble hex
              refine realloc ?_ hq.1.symm hq.2.symm
              rcases s8 with rfl | ⟨z2, hz, hze, _⟩
              · exact hgt
              · rw [hopn, ho] at hz; cases hz
                rw [hzs] at hze; omega
            · rename_i hzs hex hwo
              simp only [Bool.and_eq_true] at hwo
              have hwr := hwo.1
              simp only [Option.some.injEq, Prod.mk.injEq] at hq
              obtain ⟨rfl, rfl⟩ := hq
              have hzs := eq_of_beqN hzs
              subst hzs
              have hne : id ≠ a.block := fun e => by rw [← e, hid] at ht; cases ht
              rcases Nat.lt_or_ge cap' (len + n) with hlt | hge
              · -- to a new row: the old one is lost here
                obtain ⟨H1, hle1⟩ := H.kill ht hkd
                have hid1 : (fun k => if k = a.block then some none else m k) id = (none : Option (Option Tgt)) := by simp [hne, hid]
                have E0 : Ext (· = id) m h w (fun k => if k = a.block then some none else m k) ((h.set a.block .dead).set id (.cells ⟨old ++ new, some z1, true, blk.plain⟩)) w := by
                  refine ⟨hle1, by simp, Nat.le_refl _, rfl, rfl, rfl, fun k hk hm hS => ?_, fun _ _ _ => rfl, fun k e e' => ?_, fun k u e hj => ?_, fun k u b e1 e2 ew => ?_⟩
                  · have hki : k ≠ a.block := fun e => by subst e; rw [hm] at ht; cases ht
                    exact (AHeap.get_set_ne hS).trans (AHeap.get_set_ne hki)
                  · by_cases ek : k = a.block
                    · subst ek; rw [e] at ht; cases ht
                    · simp [ek, e] at e'
                  · by_cases ek : k = a.block
                    · simp [ek] at e
                    · simp [ek] at e; exact ⟨k, u, e, rfl⟩
                  · have hki : k ≠ a.block := fun e => by subst e; rw [hg] at e2; cases e2; rw [hwr] at ew; cases ew
                    have hkd : k ≠ id := fun e => by subst e; rw [hid] at e1; cases e1
                    exact ⟨by simp [hki, e1], (AHeap.get_set_ne hkd).trans ((AHeap.get_set_ne hki).trans e2), rfl⟩
                exact append_fresh (H1.lay hid1 _) (pl := blk.plain) A (hnew.mono hle1) (hor.mono hle1) hol hid1 hlt hok hrun (AHeap.get_set_same (by simpa using hfr)) E0
              · -- in place: the row goes on under a new number
                rcases s8 with rfl | ⟨z2, hz, hze, hbc⟩
                · omega
                · have hzz : z2 = z1 := by rw [hopn, ho] at hz; cases hz; rfl
                  subst hzz
                  have hbnd : b.off + (len + n) * z2 ≤ t.csz := Nat.le_trans (Nat.add_le_add_left (Nat.mul_le_mul_right _ hge) _) hbc
                  have hmulA : (len + n) * z2 = len * z2 + n * z2 := Nat.add_mul _ _ _
                  have hone' : new'.all Value.oneCell = true := hnew.mem_all _ _ (fun u u' x y => x.oneCell y) hwo.2
                  obtain ⟨w', c', hrs, hchg, hw', hl'⟩ := run_storeCells (P := P) new' w (b.add (len * z2)) 0 c ee fr (by rw [add_block, s3]; exact hw) (add_spot _ s2) (by rw [add_off]; omega) hone'
                    (fun k hk hk' => by rcases hfz hwr with e0 | e0 <;> first | (subst e0; simp) | omega)
                  rw [add_block, s3] at hchg hw'
                  have hcs' : c'.size = c.size := by
                    have := congrArg List.length hl'
                    rw [putL_length (by simp [add_off]; omega)] at this; simpa using this
                  let t2 : Tgt := ⟨.cells, t.j, b.off, (old ++ new).length, some z2, t.csz⟩
                  have hlen2 : (old ++ new).length = (len + n) * z2 := by simp [hol, hl1, hmulA]
                  have hle12 : m.le (AMap.put (fun k => if k = a.block then some none else m k) id t2) := by
                    obtain ⟨_, hle1⟩ := H.kill ht hkd
                    exact hle1.trans (AMap.le_put (by simp [hne, hid]))
                  obtain ⟨H', E⟩ := H.move (t2 := t2) (o := .cells ⟨old ++ new, some z2, true, blk.plain⟩) ht hkd hid hfr hchg hw' rfl (fun b' hb' => by rw [hg] at hb'; cases hb'; exact hwr) (by
                    refine ⟨rfl, rfl, rfl, by simp only [t2]; omega, by simp only [t2, hlen2]; exact hbnd, ?_, hpl, fun _ => hfz hwr⟩
                    refine LRel.mono hle12 ?_
                    have hold'l : old'.length = len * z2 := by rw [← hor.len]; exact hol
                    have : (c'.toList.drop b.off).take (old ++ new).length = old' ++ new' := by
                      rw [hl', hoe]
                      rw [hlen2, hmulA, add_off, Nat.add_zero, ← hl2]
                      exact putL_window _ _ _ _ (by simp only [Array.length_toList]; rw [hl2]; omega)
                    show LRel m (old ++ new) ((c'.toList.drop t2.sh).take t2.n)
                    simp only [t2]
                    rw [this]; exact hor.append hnew)
                  refine ⟨_, w', _, run_append_here A hge hrs, ?_, H', E⟩
                  refine .slice (.inr ⟨t2, put_self .., rfl, s2, s3, Nat.le_refl _, hge, Nat.le_refl _, .inr (by simp [t2]), .inr ⟨z2, rfl, by simp only [t2, hlen2]; omega, hbc⟩⟩)
            · cases hq
        · cases hq
    · cases hq
  · cases hq
end
end Go.Cub
