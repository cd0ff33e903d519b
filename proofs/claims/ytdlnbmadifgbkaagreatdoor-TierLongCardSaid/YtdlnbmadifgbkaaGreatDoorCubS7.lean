/- Quiet operations: slicing, and the theorem. -/
import Derived.Test.YtdlnbmadifgbkaaGreatDoorCubS6
namespace Go.Cub
set_option linter.unusedVariables false
set_option linter.unusedSimpArgs false
open Go

section
variable {P : Program} {m : AMap} {h : AHeap} {w : World}

def Bd (x : Option Value) (d n : Nat) : Prop := (x = none ∧ n = d) ∨ ∃ k, x = some (.int k (n : Int))

theorem bound_bd {x : Option Value} {d most n : Nat} (hb : bound? x d most = some n) : Bd x d n ∧ (x.isSome = true → n ≤ most) := by
  unfold bound? at hb
  split at hb
  · cases hb; exact ⟨.inl ⟨rfl, rfl⟩, by simp⟩
  · rename_i v
    split at hb
    · rename_i k hk
      split at hb
      · rename_i hle; cases hb
        obtain ⟨j, rfl⟩ := natOf_int hk
        exact ⟨.inr ⟨j, rfl⟩, fun _ => le_of_ble hle⟩
      · cases hb
    · cases hb

theorem Bd.opt {x x' : Option Value} {d n : Nat} (hb : Bd x d n) (hr : (x = none ∧ x' = none) ∨ ∃ u u', x = some u ∧ x' = some u' ∧ VRel m u u') : Bd x' d n ∧ x'.isSome = x.isSome := by
  rcases hr with ⟨rfl, rfl⟩ | ⟨u, u', rfl, rfl, hv⟩
  · exact ⟨hb, rfl⟩
  · rcases hb with ⟨h0, _⟩ | ⟨k, hk⟩
    · cases h0
    · cases hk; rw [hv.of_atom rfl]; exact ⟨.inr ⟨k, rfl⟩, rfl⟩

theorem run_sliceBound {k : IntKind} {n y : Nat} {c : BoundsCode} (hn : n ≤ y) : (Instr.sliceBound (.int k (n : Int)) y c).run P w = .ok n w := by
  have : (0 : Int) ≤ (n : Int) ∧ (n : Int) ≤ (y : Int) := by omega
  simp [Instr.sliceBound, asIntOf, this]

theorem run_sliceBounds {b : Bool} {len cap : Nat} {lo hi mx : Option Value} {l hh mm : Nat} (hm : Bd mx cap mm) (hm' : mm ≤ cap) (hh0 : Bd hi len hh) (hh' : hh ≤ mm) (hl : Bd lo 0 l) (hl' : l ≤ hh) (hmh : mx.isSome = true → hi.isSome = true) :
    (Instr.sliceBounds b len cap lo hi mx).run P w = .ok (l, hh, mm) w := by
  rcases hm with ⟨rfl, rfl⟩ | ⟨k, rfl⟩
  · rcases hh0 with ⟨rfl, rfl⟩ | ⟨k2, rfl⟩ <;> rcases hl with ⟨rfl, rfl⟩ | ⟨k3, rfl⟩ <;>
      cases b <;> simp [Instr.sliceBounds, run_sliceBound, hh', hl']
  · rcases hh0 with ⟨rfl, rfl⟩ | ⟨k2, rfl⟩
    · simp at hmh
    · rcases hl with ⟨rfl, rfl⟩ | ⟨k3, rfl⟩ <;> cases b <;> simp [Instr.sliceBounds, run_sliceBound, hm', hh', hl']

theorem openOk_spec {a : Addr} {e : Nat} (ho : openOk h (some a) e = true) : ∃ b, h.get a.block = some (.cells b) ∧ (∀ z, b.opn = some z → z = e) ∧ a.spot = none := by
  unfold openOk at ho
  simp only at ho
  split at ho
  · rename_i b hb
    simp only [Bool.and_eq_true, Option.isNone_iff_eq_none] at ho
    refine ⟨b, hb, fun z hz => ?_, ho.1⟩
    rw [hz] at ho; exact eq_of_beqN ho.2
  · cases ho

/-- What slicing leaves. -/
theorem cut_rel (H : HRel m h w) {a b : Addr} {len cap cap' l hh mm mm' e : Nat} (hs : SRel m a b len cap cap') (ho : openOk h (some a) e = true) (h1 : l ≤ hh) (h2 : hh ≤ mm) (h3 : mm ≤ cap) (hmm : mm' = mm ∨ (mm = cap ∧ mm' = cap')) :
    SRel m (a.add (l * e)) (if mm' = l then b else b.add (l * e)) (hh - l) (mm - l) (mm' - l) := by
  rcases hs with hd | ⟨t, ht, s1, s2, s3, s4, s5, s6, s7, s8⟩
  · exact .inl (by rw [add_block]; exact hd)
  · obtain ⟨blk, hg, hz, _⟩ := openOk_spec ho
    obtain ⟨c, ee, fr, _, hr⟩ := H.block ht hg
    simp only [ORel] at hr
    obtain ⟨_, _, hopn, _⟩ := hr
    have hmle : mm ≤ mm' := by rcases hmm with rfl | ⟨rfl, rfl⟩ <;> omega
    refine .inr ⟨t, by rw [add_block]; exact ht, add_spot _ s1, ?_, ?_, by omega, by omega, ?_, ?_, ?_⟩
    · split
      · exact s2
      · exact add_spot _ s2
    · split
      · exact s3
      · rw [add_block]; exact s3
    · split
      · exact s6
      · rw [add_off]; omega
    · by_cases hc : mm - l = 0
      · exact .inl hc
      · right
        rw [if_neg (by omega), add_off, add_off]
        rcases s7 with s7 | s7
        · omega
        · omega
    · rcases hmm with rfl | ⟨rfl, rfl⟩
      · exact .inl rfl
      · rcases s8 with s8 | ⟨z, hz', hn, hcs⟩
        · exact .inl (by omega)
        · right
          have hze := hz z (hopn ▸ hz')
          subst hze
          refine ⟨z, hz', ?_, ?_⟩
          · rw [add_off, Nat.add_assoc, ← Nat.add_mul]
            rw [show l + (mm - l) = mm by omega]; exact hn
          · split
            · rename_i hcl
              rw [hcl]; simp
              have : b.off ≤ b.off + mm' * z := Nat.le_add_right _ _
              omega
            · rw [add_off, Nat.add_assoc, ← Nat.add_mul]
              rw [show l + (mm' - l) = mm' by omega]; exact hcs

theorem sliceA_sound (H : HRel m h w) {t : TypeId} {x x' v : Value} {lo hi mx lo' hi' mx' : Option Value} (hx : VRel m x x')
    (hlo : (lo = none ∧ lo' = none) ∨ ∃ u u', lo = some u ∧ lo' = some u' ∧ VRel m u u')
    (hhi : (hi = none ∧ hi' = none) ∨ ∃ u u', hi = some u ∧ hi' = some u' ∧ VRel m u u')
    (hmx : (mx = none ∧ mx' = none) ∨ ∃ u u', mx = some u ∧ mx' = some u' ∧ VRel m u u')
    (hq : sliceA P t x lo hi mx h = some v) : ∃ v', (Instr.sliceAt t x' lo' hi' mx').run P w = .ok v' w ∧ VRel m v v' := by
  unfold sliceA at hq
  dsimp only at hq
  split at hq
  · rename_i e a len cap hu
    split at hq
    · rename_i size hs
      split at hq
      · cases hq
      · rename_i ho
        split at hq
        · cases hq
        · rename_i mm hmm
          split at hq
          · cases hq
          · rename_i hh hhh
            split at hq
            · rename_i hmh hle
              split at hq
              · cases hq
              · rename_i l hl
                cases hq
                have hle := le_of_ble hle
                obtain ⟨bm, bm'⟩ := bound_bd hmm
                obtain ⟨bh, bh'⟩ := bound_bd hhh
                obtain ⟨bl, bl'⟩ := bound_bd hl
                obtain ⟨cm, cm'⟩ := bm.opt hmx
                obtain ⟨ch, ch'⟩ := bh.opt hhi
                obtain ⟨cl, cl'⟩ := bl.opt hlo
                have hlh : l ≤ hh := by
                  rcases bl with ⟨_, rfl⟩ | ⟨k, rfl⟩
                  · omega
                  · exact bl' rfl
                have hmcap : mm ≤ cap := by
                  rcases bm with ⟨_, rfl⟩ | ⟨k, rfl⟩
                  · omega
                  · exact bm' rfl
                have hmh' : mx'.isSome = true → hi'.isSome = true := by
                  rw [cm', ch']
                  intro h1
                  rw [h1] at hmh
                  cases hi <;> simp at hmh ⊢
                cases a with
                | none =>
                  rw [hx.of_atom rfl]
                  refine ⟨.slice none (hh - l) (mm - l), ?_, .atom rfl⟩
                  simp [Instr.sliceAt, Instr.slice, ru hu, run_sliceBounds cm hmcap ch hle cl hlh hmh', rsize hs]
                | some a =>
                  obtain ⟨b, cap', rfl, hsr⟩ := hx.slice_inv
                  have hcc : m a.block = some none ∨ cap ≤ cap' := by
                    rcases hsr with hd | ⟨t, _, _, _, _, _, s5, _⟩
                    · exact .inl hd
                    · exact .inr s5
                  rcases hcc with hd | hcc
                  · -- a lost row is not cut
                    have ho' : openOk h (some a) size = true := by simpa using ho
                    obtain ⟨blk, hg, _⟩ := openOk_spec ho'
                    rw [H.dead _ hd] at hg; cases hg
                  · have ho' : openOk h (some a) size = true := by simpa using ho
                    rcases cm with ⟨rfl, rfl⟩ | ⟨k, rfl⟩
                    · have hmn : mx = none := by rcases hmx with ⟨e, _⟩ | ⟨_, _, _, e, _⟩; · exact e
                                                 · cases e
                      refine ⟨_, ?_, .slice (cut_rel H hsr ho' hlh hle hmcap (mm' := cap') (.inr ⟨rfl, rfl⟩))⟩
                      simp only [Instr.sliceAt, Instr.slice, ru hu, Sem.run_bind, Result.andThen_ok, run_sliceBounds (b := true) (cap := cap') (.inl ⟨rfl, rfl⟩) (Nat.le_refl _) ch (by omega) cl hlh hmh', rsize hs, Sem.run_pure]
                      congr 2
                      split <;> rfl
                    · refine ⟨_, ?_, .slice (cut_rel H hsr ho' hlh hle hmcap (mm' := mm) (.inl rfl))⟩
                      simp only [Instr.sliceAt, Instr.slice, ru hu, Sem.run_bind, Result.andThen_ok, run_sliceBounds (b := true) (cap := cap') (.inr ⟨k, rfl⟩) (by omega) ch hle cl hlh hmh', rsize hs, Sem.run_pure]
                      congr 2
                      split <;> rfl
            · cases hq
    · cases hq
  · rename_i n e a hu
    split at hq
    · rename_i size hs
      split at hq
      · cases hq
      · rename_i ho
        split at hq
        · cases hq
        · rename_i mm hmm
          split at hq
          · cases hq
          · rename_i hh hhh
            split at hq
            · rename_i hmh hle
              split at hq
              · cases hq
              · rename_i l hl
                cases hq
                have hle := le_of_ble hle
                obtain ⟨bm, bm'⟩ := bound_bd hmm
                obtain ⟨bh, bh'⟩ := bound_bd hhh
                obtain ⟨bl, bl'⟩ := bound_bd hl
                obtain ⟨cm, cm'⟩ := bm.opt hmx
                obtain ⟨ch, ch'⟩ := bh.opt hhi
                obtain ⟨cl, cl'⟩ := bl.opt hlo
                have hlh : l ≤ hh := by
                  rcases bl with ⟨_, rfl⟩ | ⟨k, rfl⟩
                  · omega
                  · exact bl' rfl
                have hmcap : mm ≤ n := by
                  rcases bm with ⟨_, rfl⟩ | ⟨k, rfl⟩
                  · omega
                  · exact bm' rfl
                have hmh' : mx'.isSome = true → hi'.isSome = true := by
                  rw [cm', ch']
                  intro h1
                  rw [h1] at hmh
                  cases hi <;> simp at hmh ⊢
                obtain ⟨b, rfl, hp⟩ := hx.ptr_inv
                have ho' : openOk h (some a) size = true := by simpa using ho
                obtain ⟨blk, hg, hz, hsp⟩ := openOk_spec ho'
                obtain ⟨t, hm, rfl⟩ := H.tgt hp hg (by simp)
                have hsr : SRel m a ⟨t.j, t.sh + a.off, a.spot⟩ n n n := .inr ⟨t, hm, hsp, hsp, rfl, Nat.le_refl _, Nat.le_refl _, by simp, .inr rfl, .inl rfl⟩
                refine ⟨_, ?_, .slice (cut_rel H (len := n) hsr ho' hlh hle hmcap (mm' := mm) (.inl rfl))⟩
                simp only [Instr.sliceAt, Instr.sureAddr, ru hu, Sem.run_bind, Result.andThen_ok, run_sliceBounds (b := false) (cap := n) cm hmcap ch hle cl hlh hmh', rsize hs, Sem.run_pure]
            · cases hq
    · cases hq
  · cases hq

theorem asStill {o : Oper} {ρ' : Operand → Value} {id : Nat} {v : Value} {s : Sem Value} (H : HRel m h w) (hs : ∃ v', s.run P w = .ok v' w ∧ VRel m v v') (he : execOp ρ' o = (do pure (.value (← s)))) : QOut P o ρ' id m h w v := by
  obtain ⟨v', hr, hv⟩ := hs
  exact .still H (by rw [he]; simp [hr]) hv

theorem optRel {x : Option Operand} {ρ ρ' : Operand → Value} (hx : ∀ y, x = some y → VRel m (ρ y) (ρ' y)) :
    (x.map ρ = none ∧ x.map ρ' = none) ∨ ∃ u u', x.map ρ = some u ∧ x.map ρ' = some u' ∧ VRel m u u' := by
  cases x with
  | none => exact .inl ⟨rfl, rfl⟩
  | some y => exact .inr ⟨_, _, rfl, rfl, hx y rfl⟩

theorem map_snd {α : Type} {x : Option α} {h0 : AHeap} {v : α} {h1 : AHeap} (e : x.map (·, h0) = some (v, h1)) : x = some v ∧ h1 = h0 := by
  cases x with
  | none => simp at e
  | some a => simp at e; exact ⟨by rw [e.1], e.2.symm⟩

theorem HRel.congr {m : AMap} {h h' : AHeap} {w : World} (H : HRel m h w) (hg : ∀ k, h'.get k = h.get k) (hn : h'.next = h.next) : HRel m h' w :=
  ⟨fun i hi => by rw [hn]; exact H.dom i hi, fun i t hm => by rw [hg]; exact H.live i t hm, fun i hm => by rw [hg]; exact H.dead i hm, H.inj⟩

theorem Ext.congr {S : Nat → Prop} {m m' : AMap} {h h1 h2 : AHeap} {w w' : World} (E : Ext S m h w m' h1 w') (hg : ∀ k, h2.get k = h1.get k) (hn : h2.next = h1.next) : Ext S m h w m' h2 w' :=
  ⟨E.le, by rw [hn]; exact E.next, E.size, E.os, E.tape, E.output, fun i a b c => by rw [hg]; exact E.frA i a b c, E.frC, E.new, E.ran, fun i t b x y z => by rw [hg]; exact E.ro i t b x y z⟩

theorem freeze_end {w : World} {j : Nat} {cc : Array Value} {el : TypeId} {fr : Nat × Nat} (hw : w.heap[j]? = some (.cells cc el fr)) :
    Chg j w (w.freeze { block := j, off := cc.size } 1) ∧ (w.freeze { block := j, off := cc.size } 1).heap[j]? = some (.cells cc el (if fr.1 == fr.2 then (cc.size, cc.size + 1) else (min fr.1 cc.size, max fr.2 (cc.size + 1)))) := by
  have hlt := (Array.getElem?_eq_some_iff.1 hw).1
  refine ⟨⟨rfl, rfl, rfl, by simp [World.freeze], fun k hk => by simp [World.freeze, Array.getElem?_modify, Ne.symm hk]⟩, ?_⟩
  simp [World.freeze, Array.getElem?_modify, hw]

theorem convert_sound (H : HRel m h w) {src dt : TypeId} {x x' v : Value} {id : Nat} {h2 : AHeap} (hx : VRel m x x') (hid : m id = none) (hq : convertA P src dt x id h = some (v, h2))
    (hobj : ∀ s : ByteArray, x = .string s → isStr P dt = false → h.get id = some (.cells ⟨s.data.toList.map fun b => .int .u8 b.toNat, some 1, true, false⟩)) :
    ∃ v' w' m', (convert src dt x').run P w = .ok v' w' ∧ VRel m' v v' ∧ HRel m' h w' ∧ Ext (· = id) m h w m' h w' := by
  have plain : ∀ {x : Value}, isAtom x = true → VRel m x x' → (match aPure P (convert src dt x) with
      | some v => match scalar v with | true => some (v, h) | false => none
      | none => none) = some (v, h2) → ∃ v' w' m', (convert src dt x').run P w = .ok v' w' ∧ VRel m' v v' ∧ HRel m' h w' ∧ Ext (· = id) m h w m' h w' := by
    intro x ha hx hq
    rw [hx.of_atom ha]
    split at hq
    · rename_i u hu
      split at hq
      · rename_i hs
        simp only [Option.some.injEq, Prod.mk.injEq] at hq
        rw [← hq.1]
        exact ⟨u, w, m, rpure hu w, .of_scalar_self hs, H, .refl _ _ _ _⟩
      · cases hq
    · cases hq
  unfold convertA at hq
  split at hq
  · exact plain rfl hx hq
  · exact plain rfl hx hq
  · rename_i s
    rw [hx.of_atom rfl]
    split at hq
    · rename_i h1 h2
      simp only [Option.some.injEq, Prod.mk.injEq] at hq
      rw [← hq.1]
      exact ⟨_, w, m, by simp [convert, ru (isStr_spec h1), ru (isStr_spec h2)], .atom rfl, H, .refl _ _ _ _⟩
    · rename_i h1 h2
      split at hq
      · rename_i h3 h4
        simp only [Option.some.injEq, Prod.mk.injEq] at hq
        rw [← hq.1]
        obtain ⟨e, he, hu8⟩ := isU8_spec h3
        have hg := hobj s rfl h2
        have h4 := le_of_ble h4
        obtain ⟨cap, hcap, hge⟩ : ∃ cap, (Question.appendCap s.size 0 e).cut (w.tape w.drawn (.appendCap s.size 0 e)) = cap ∧ s.size ≤ cap := ⟨_, rfl, by simp [Question.cut]⟩
        let arr : Array Value := (s.data.map fun b => Value.int .u8 b.toNat) ++ Array.replicate (cap - s.size) (.int .u8 0)
        have hsz : arr.size = cap := by
          have : s.data.size = s.size := rfl
          simp [arr, this]; omega
        refine ⟨.slice (some ⟨w.heap.size, 0, none⟩) s.size cap, { w with drawn := w.drawn + 1, heap := w.heap.push (.cells arr e (cap, cap + 1)) }, m.put id ⟨.cells, w.heap.size, 0, s.size, some 1, cap⟩, ?_, ?_, ?_⟩
        · simp only [convert, Sem.run_bind, ru (isStr_spec h1), ru he, ru hu8, Result.andThen_ok, Conv.stringToBytes, run_choose, Question.forced, Bool.false_eq_true, if_false, hcap, newRow, run_newObj, Sem.run_pure, markStringish, run_shape]
          have hshape : World.shape? { heap := w.heap.push (Obj.cells arr e), tape := w.tape, drawn := w.drawn + 1, os := w.os, output := w.output } w.heap.size = some (e, cap) := by
            simp [World.shape?, hsz]
          have hshape' : World.shape? { heap := w.heap.push (Obj.cells ((s.data.map fun b => Value.int .u8 b.toNat) ++ Array.replicate (cap - s.size) (.int .u8 0)) e), tape := w.tape, drawn := w.drawn + 1, os := w.os, output := w.output } w.heap.size = some (e, cap) := hshape
          rw [hshape']
          simp only [Result.andThen_ok, run_freeze, Sem.run_bind, Sem.run_pure, World.freeze]
          congr 1
          simp only [Nat.one_ne_zero, if_false]
          congr 1
          apply Array.ext_getElem?
          intro i
          rw [Array.getElem?_modify, Array.getElem?_push, Array.getElem?_push]
          by_cases hi : i = w.heap.size
          · subst hi; simp [arr]
          · rw [if_neg (fun x => hi x.symm)]; simp [hi]
        · refine .slice (.inr ⟨_, put_self .., rfl, rfl, rfl, Nat.le_refl _, hge, by simp, .inr (by simp), .inr ⟨1, rfl, by simp, by simp⟩⟩)
        · have hgr : Grw (.cells arr e (cap, cap + 1)) w { w with drawn := w.drawn + 1, heap := w.heap.push (.cells arr e (cap, cap + 1)) } := Grw.push w _ (w.drawn + 1)
          refine H.grow hid hg hgr rfl ?_
          have hlen : s.data.toList.length = s.size := by simp
          refine ⟨rfl, by simp [hlen], rfl, hsz, by simpa using hge, ?_, by simp, fun _ => .inr (Nat.le_refl _)⟩
          have : (arr.toList.drop 0).take s.size = s.data.toList.map fun b => Value.int .u8 b.toNat := by
            simp only [arr, List.drop_zero, Array.toList_append, Array.toList_map]
            rw [List.take_left' (by simp [hlen])]
          show LRel _ _ ((arr.toList.drop 0).take s.size)
          rw [this]
          exact LRel.map _ _ _ fun b _ => .atom rfl
      · cases hq
    · cases hq
  · rename_i l c
    split at hq
    · rename_i h1 h2
      obtain ⟨e, he, hu8⟩ := isU8_spec h1
      simp only [Option.some.injEq, Prod.mk.injEq] at hq
      rw [← hq.1, hx.of_atom rfl]
      exact ⟨_, w, m, by simp [convert, ru he, ru hu8, ru (isStr_spec h2), Conv.bytesToString], .atom rfl, H, .refl _ _ _ _⟩
    · cases hq
  · rename_i a n c
    split at hq
    · rename_i h1 h2
      obtain ⟨e, he, hu8⟩ := isU8_spec h1
      simp only [Option.map_eq_some_iff, Option.bind_eq_some_iff, Prod.mk.injEq] at hq
      obtain ⟨bs, ⟨l, hl, hbs⟩, rfl, _⟩ := hq
      obtain ⟨b, cap', rfl, hsr⟩ := hx.slice_inv
      have hrun : ∃ l', (loadCells b n).run P w = .ok l'.toArray w ∧ LRel m l l' := by
        rcases Nat.eq_zero_or_pos n with h0 | h0
        · subst h0
          obtain ⟨blk, _, _, _, rfl⟩ := getCells_inv hl
          exact ⟨[], rfl, by simpa using LRel.nil⟩
        · exact run_loadCells_sound H (hsr.ptrL h0) hl
      obtain ⟨l', hr, hrel⟩ := hrun
      have := bytesOfL_sound hrel hbs
      subst this
      refine ⟨_, w, m, ?_, .atom rfl, H, .refl _ _ _ _⟩
      simp only [convert, Sem.run_bind, ru he, ru hu8, ru (isStr_spec h2), Result.andThen_ok, run_bytesToString hr hbs]
    · rename_i h1 h2
      obtain ⟨e, he, hu8⟩ := isU8_spec h1
      split at hq
      · rename_i blk hsd hb
        split at hq
        · rename_i hpl hwr1
          simp only [Option.some.injEq, Prod.mk.injEq] at hq
          have hsd := eq_of_beqN hsd
          subst hsd
          obtain ⟨b, cap', rfl, hsr⟩ := hx.slice_inv
          rcases hsr with hd | ⟨t, hm, hsp, hsp', hbj, hrest⟩
          · rw [H.dead _ hd] at hb; cases hb
          · obtain ⟨cc, el, fr, hw, hr⟩ := H.block hm hb
            simp only [ORel] at hr
            obtain ⟨r1, r2, r3, r4, r5, r6, r7, r8⟩ := hr
            have hfz := freeze_end (w := w) hw
            rw [← hbj] at hfz
            obtain ⟨H1, E1⟩ := H.upd (o := .cells blk) (o' := .cells cc el (if fr.1 == fr.2 then (cc.size, cc.size + 1) else (min fr.1 cc.size, max fr.2 (cc.size + 1)))) hm (w' := w.freeze { block := b.block, off := cc.size } 1) (hbj ▸ hfz.1) (hbj ▸ hfz.2) (by
              refine ⟨r1, r2, r3, r4, r5, r6, fun hp => (by rw [hpl] at hp; cases hp), fun hw => ?_⟩
              rcases r8 hw with e0 | e0
              · subst e0; exact .inr (by simp [r4])
              · refine .inr ?_
                split <;> simp <;> omega) (· = id) (fun b' hb' => by rw [hb] at hb'; cases hb'; exact hwr1)
            have hsame : ∀ k, (h.set a.block (.cells blk)).get k = h.get k := fun k => by
              rw [AHeap.get_set]
              split
              · rename_i hk; rw [hk.1, hb]
              · rfl
            refine ⟨.slice (some b) n cap', _, m, ?_, hq.1 ▸ .slice (.inr ⟨t, hm, hsp, hsp', hbj, hrest⟩), H1.congr (fun k => (hsame k).symm) (by simp), E1.congr (fun k => (hsame k).symm) (by simp)⟩
            have hsh : w.shape? b.block = some (el, cc.size) := by simp [World.shape?, hbj, hw]
            simp only [convert, Sem.run_bind, ru he, ru hu8, Result.andThen_ok, beq_self_eq_true, markStringish, run_shape, hsh, run_freeze, Sem.run_pure]
        · cases hq
      · cases hq
    · cases hq
  · cases hq

theorem fieldA_sound {t : TypeId} {x x' v : Value} {f : Nat} (hx : VRel m x x') (hq : fieldA P t x f = some v) : ∃ v', (Instr.field t x' f).run P w = .ok v' w ∧ VRel m v v' := by
  unfold fieldA at hq
  split at hq
  · rename_i fs cs hu
    simp only [Option.bind_eq_some_iff] at hq
    obtain ⟨fd, hfd, hp⟩ := hq
    obtain ⟨cs', rfl, hc⟩ := hx.agg_inv
    obtain ⟨v', hr, hv⟩ := partA_sound (P := P) (w := w) hc hp
    exact ⟨v', by simp [Instr.field, ru hu, hfd, asAgg, hr], hv⟩
  · cases hq

theorem indexA_sound {t : TypeId} {x x' ix ix' v : Value} (hx : VRel m x x') (hi : VRel m ix ix') (hq : indexA P t x ix = some v) : ∃ v', (Instr.index t x' ix').run P w = .ok v' w ∧ VRel m v v' := by
  unfold indexA at hq
  split at hq
  · rename_i len e cs i hu hn
    obtain ⟨k, rfl⟩ := natOf_int hn
    rw [hi.of_atom rfl]
    obtain ⟨cs', rfl, hc⟩ := hx.agg_inv
    split at hq
    · rename_i n hlt hs
      have hlt := le_of_ble hlt
      obtain ⟨v', hr, hv⟩ := partA_sound (P := P) (w := w) hc hq
      have h1 : (0 : Int) ≤ (i : Int) ∧ (i : Int) < (len : Int) := by omega
      refine ⟨v', ?_, hv⟩
      simp only [Instr.index, Sem.run_bind, asIntOf, Sem.run_pure, Result.andThen_ok, ru hu, h1, and_self, if_true, rsize hs, Int.toNat_natCast, hr]
    · cases hq
  · rename_i s i hu hn
    obtain ⟨k, rfl⟩ := natOf_int hn
    rw [hi.of_atom rfl, hx.of_atom rfl]
    simp only [Option.map_eq_some_iff] at hq
    obtain ⟨b, hb, rfl⟩ := hq
    refine ⟨_, ?_, .atom rfl⟩
    have hb' : s[i]? = some b := by
      obtain ⟨hlt, e⟩ := List.getElem?_eq_some_iff.1 hb
      have hlt' : i < s.size := by simpa using hlt
      rw [getElem?_pos s i hlt']
      simp at e; rw [← e]; rfl
    have h1 : (0 : Int) ≤ (i : Int) := by omega
    simp [Instr.index, asIntOf, ru hu, hb']
  · cases hq

theorem entryA_sound (H : HRel m h w) {x x' v : Value} (hx : VRel m x x') (hq : entryA x h = some v) : ∃ v', (Instr.entry x').run P w = .ok v' w ∧ VRel m v v' := by
  unfold entryA at hq
  split at hq
  · rename_i r sp
    obtain ⟨b, rfl, hp⟩ := hx.ptr_inv
    split at hq
    · rename_i mp since seen stepped hg
      obtain ⟨t, hm, rfl⟩ := H.tgt hp hg (by simp)
      obtain ⟨o, o', ho, ho', hr⟩ := H.live _ t hm
      rw [show ({ block := r, off := 0, spot := sp } : Addr).block = r from rfl] at ho
      rw [hg] at ho; cases ho
      cases o' <;> simp only [ORel] at hr
      rename_i mp' _ _ _
      obtain ⟨_, hsh, rfl, rfl, rfl, hrr⟩ := hr
      cases mp' with
      | none => simp at hrr
      | some mp' =>
        simp only at hrr
        split at hq
        · rename_i stamp es clock hst hgm
          split at hq
          · rename_i hcl
            have hcl := eq_of_beqN hcl
            split at hq
            · rename_i e he
              cases hq
              obtain ⟨tm, hmm, rfl⟩ := H.rtgt hrr hgm (by simp)
              obtain ⟨es', hw, hrel, _⟩ := H.mapBlock hmm hgm
              have hfind : ∃ e', es'.toList.find? (·.born == stamp) = some e' ∧ ERel m e e' := by
                clear hw hgm
                generalize es'.toList = l' at hrel
                induction es generalizing l' with
                | nil => simp at he
                | cons a es ih =>
                  cases l' with
                  | nil => have := hrel.len; simp at this
                  | cons a' l' =>
                    have h0 := hrel.at_ 0 a a' rfl rfl
                    have htail : ESRel m es l' := ⟨by simpa using hrel.len, fun n u u' hu hu' => hrel.at_ (n + 1) u u' (by simpa using hu) (by simpa using hu')⟩
                    simp only [List.find?_cons] at he ⊢
                    rw [← h0.2.2]
                    split at he
                    · cases he; exact ⟨a', rfl, h0⟩
                    · exact ih he l' htail
              obtain ⟨e', hf', hk, hv, _⟩ := hfind
              refine ⟨.tuple #[e'.key, e'.val], ?_, by simpa using VRel.tupleL (.cons hk (.cons hv .nil))⟩
              subst hcl
              have hfa : Array.find? (fun x : MapEntry => x.born == stamp) es' = some e' := by rw [← Array.find?_toList]; exact hf'
              simp only [hsh, Nat.add_zero]
              simp [Instr.entry, run_getObj ho' (by simp), run_getObj hw (by simp), hst, hfa]
            · cases hq
          · cases hq
        · cases hq
    · cases hq
  · cases hq

/-- A quiet operation: whenever it is done, if what it reads reads as it did. -/
theorem quiet_sound {o : Oper} {id : Nat} {ρ ρ' : Operand → Value} {h0 h1 : AHeap} {v : Value} (hq : aOp P ρ o id h0 = some (v, h1)) (he : isEff o = false) (H : HRel m h w) (hid : m id = none) (hfr : id < h0.next)
    (hρ : ∀ x ∈ o.op.operands, VRel m (ρ x) (ρ' x)) (hobj : ∀ ob, h1.get id = some ob → h.get id = some ob) (hread : isRead o = true → ∃ h2, aOp P ρ o id h = some (v, h2)) :
    QOut P o ρ' id m h w v := by
  obtain ⟨dst, op, ty, pos, after, guard⟩ := o
  cases op with
  | move x => simp only [aOp, Option.some.injEq, Prod.mk.injEq] at hq; rw [← hq.1]; exact .still H rfl (hρ x (by simp [Op.operands]))
  | assign x => simp only [aOp, Option.some.injEq, Prod.mk.injEq] at hq; rw [← hq.1]; exact .still H rfl (hρ x (by simp [Op.operands]))
  | pick c a b =>
    have hc := hρ c (by simp [Op.operands])
    simp only [aOp] at hq
    split at hq
    · rename_i e; simp only [Option.some.injEq, Prod.mk.injEq] at hq; rw [← hq.1]
      rw [e] at hc
      exact .still H (by simp [execOp, hc.of_atom rfl, asBool]) (hρ a (by simp [Op.operands]))
    · rename_i e; simp only [Option.some.injEq, Prod.mk.injEq] at hq; rw [← hq.1]
      rw [e] at hc
      exact .still H (by simp [execOp, hc.of_atom rfl, asBool]) (hρ b (by simp [Op.operands]))
    · cases hq
  | alloc e =>
    simp only [aOp, Option.map_eq_some_iff, Prod.mk.injEq] at hq
    obtain ⟨z, hz, rfl, rfl⟩ := hq
    refine .row H hid (hobj _ (get_newBlk hfr)) (zeroT_rel hz) e (fun a => .pointer (some a)) _ ?_ (fun t hj hs => fresh_ptr hj hs)
    simp [execOp, Instr.alloc, rzero hz, newVar, newRow]
  | box e x =>
    simp only [aOp, Option.some.injEq, Prod.mk.injEq] at hq
    obtain ⟨rfl, rfl⟩ := hq
    refine .row H hid (hobj _ (get_newBlk hfr)) (hρ x (by simp [Op.operands])).cells e (fun a => .pointer (some a)) _ ?_ (fun t hj hs => fresh_ptr hj hs)
    simp [execOp, Instr.box, newVar, newRow]
  | build t ps =>
    simp only [aOp] at hq
    have hq := (map_snd hq).1
    refine asStill H (buildA_sound (PsRel.map ps.toList (fun p hp => hρ p.2 (by simp [Op.operands]; exact ⟨p.1, by simpa using hp⟩))) hq) ?_
    simp only [execOp]
    congr 3
    apply Array.ext'; simp
  | buildSlice t len ps =>
    simp only [aOp] at hq
    split at hq
    · cases hq
    · rename_i e he
      split at hq
      · rename_i size z hs hz
        split at hq
        · rename_i h1' h2'
          split at hq
          · rename_i cs hf
            simp only [Option.some.injEq, Prod.mk.injEq] at hq
            obtain ⟨rfl, rfl⟩ := hq
            have h1' := le_of_ble h1'
            have h2' := eq_of_beqN h2'
            obtain ⟨cs', hf', hcs⟩ := fill_rel (m := m) _ _ _ (repL len z.cells.toList).toArray (repL len z.cells.toList).toArray cs
              (PsRel.map ps.toList (ρ' := ρ') (fun p hp => hρ p.2 (by simp [Op.operands]; exact ⟨p.1, by simpa using hp⟩))) (by simpa using repL_rel (zeroT_rel hz) len) hf
            refine .row (cs' := cs'.toList) H hid (hobj _ (get_litRow hfr)) hcs e (fun a => .slice (some a) len len) _ ?_ (fun t hj hs => fresh_slice hj hs (Nat.le_refl _))
            have hu := elemOfSlice_spec he
            simp only [execOp, Instr.buildSlice, Sem.run_bind, ru hu, Result.andThen_ok, rsize hs]
            rw [if_neg (by omega)]
            by_cases h0 : len * size = 0
            · have hnil : repL len z.cells.toList = [] := List.eq_nil_of_length_eq_zero (by rw [repL_len]; simp [h2', h0])
              have e0 : Array.range 0 = (#[] : Array Nat) := by simp
              rw [hnil] at hf'
              simp only [h0, if_true, e0]
              simp only [Sem.run_bind, Sem.run_pure, Result.andThen_ok, Array.map_empty, Array.toList_map]
              rw [hf']
              simp [newRow]
            · rw [if_neg h0]
              simp only [Sem.run_bind, rzero hz, Sem.run_pure, Result.andThen_ok, zeros_eq h2', Array.toList_map]
              rw [hf']
              simp [newRow]
          · cases hq
        · cases hq
      · cases hq
  | load t a =>
    obtain ⟨h2, hr⟩ := hread rfl
    simp only [aOp] at hr
    obtain ⟨hr, _⟩ := map_snd hr
    obtain ⟨a0, e⟩ := loadA_ptr hr
    have ha := hρ a (by simp [Op.operands])
    rw [e] at ha hr
    obtain ⟨b, e', hp⟩ := ha.ptr_inv
    refine asStill (s := Instr.loadAt t (ρ' a)) H ?_ rfl
    rw [e']; simpa [Instr.loadAt, Instr.sureAddr] using loadVar_sound (P := P) H hp hr
  | nilCheck x =>
    have hx := hρ x (by simp [Op.operands])
    simp only [aOp] at hq
    split at hq
    · rename_i a e; simp only [Option.some.injEq, Prod.mk.injEq] at hq; rw [← hq.1]
      rw [e] at hx
      obtain ⟨b, e', hp⟩ := hx.ptr_inv
      exact .still H (v' := .pointer (some b)) (by simp [execOp, e']) (.ptr hp)
    · rename_i f a b e; simp only [Option.some.injEq, Prod.mk.injEq] at hq; rw [← hq.1]
      rw [e] at hx
      obtain ⟨f', a', b', e', hf, ha, hb⟩ := hx.func_inv
      simp only [FnRel] at hf; subst hf
      exact .still H (v' := .func (.func f) a' b') (by simp [execOp, e']) (.funcL rfl ha hb)
    · cases hq
  | binOp op t x y yt =>
    have hx := hρ x (by simp [Op.operands])
    have hy := hρ y (by simp [Op.operands])
    simp only [aOp] at hq
    have hq := (map_snd hq).1
    have : ∃ hh, HRel m hh w ∧ hh = h ∧ binA P ρ ⟨dst, .binOp op t x y yt, ty, pos, after, guard⟩ op t x y hh = some v := by
      by_cases hrd : isRead ⟨dst, .binOp op t x y yt, ty, pos, after, guard⟩ = true
      · obtain ⟨h2, hr⟩ := hread hrd
        simp only [aOp] at hr
        exact ⟨h, H, rfl, (map_snd hr).1⟩
      · refine ⟨h, H, rfl, ?_⟩
        have hne : op ≠ .eql ∧ op ≠ .neq := by constructor <;> (rintro rfl; simp [isRead] at hrd)
        unfold binA at hq ⊢
        split at hq
        · exact hq
        · cases op <;> first | (exact absurd rfl hne.1) | (exact absurd rfl hne.2) | (simp at hq)
    obtain ⟨hh, _, rfl, hb⟩ := this
    obtain ⟨v', hr, hv⟩ := binA_sound H hx hy hb
    exact .still H hr hv
  | unOp op t x =>
    simp only [aOp] at hq
    have hq := (map_snd hq).1
    obtain ⟨hr, hv⟩ := pureOp_sound (m := m) (w := w) hq hρ (by simp)
    exact .still H hr hv
  | convert src dt x =>
    have hx := hρ x (by simp [Op.operands])
    simp only [aOp] at hq
    obtain ⟨h2, hr⟩ := hread rfl
    simp only [aOp] at hr
    obtain ⟨v', w', m', hrun, hv, H', E⟩ := convert_sound (P := P) H hx hid hr (fun s hs hd => by
      rw [hs] at hq
      simp only [convertA, hd] at hq
      split at hq
      · cases ‹false = true›
      · split at hq
        · simp only [Option.some.injEq, Prod.mk.injEq] at hq
          exact hobj _ (by rw [← hq.2]; exact AHeap.get_set_same hfr)
        · cases hq
      · cases hq)
    exact ⟨v', w', m', by simp [execOp, hrun], hv, H', E⟩
  | makeInterface t x =>
    simp only [aOp] at hq
    split at hq
    · cases hq
    · rename_i d hne hu; simp only [Option.some.injEq, Prod.mk.injEq] at hq; rw [← hq.1]
      refine .still H (v' := .iface t (ρ' x)) ?_ (.iface (hρ x (by simp [Op.operands])))
      simp only [execOp, Instr.makeInterface, Sem.run_bind, ru hu, Result.andThen_ok]
      cases d <;> first | rfl | exact absurd rfl (hne _)
    · cases hq
  | makeFunc fn first captured =>
    simp only [aOp] at hq
    split at hq
    · simp only [Option.some.injEq, Prod.mk.injEq] at hq; rw [← hq.1]
      refine .still H (v' := .func (.func _) (first.map ρ') (captured.map ρ')) rfl (.funcL rfl ?_ ?_)
      · simpa using LRel.map first.toList ρ ρ' fun x hx => hρ x (by simp [Op.operands]; exact .inl (by simpa using hx))
      · simpa using LRel.map captured.toList ρ ρ' fun x hx => hρ x (by simp [Op.operands]; exact .inr (by simpa using hx))
    · cases hq
  | makeMap t r =>
    have key : (execOp ρ' ⟨dst, .makeMap t r, ty, pos, after, guard⟩).run P w = .ok (.value (.map (some w.heap.size))) { w with heap := w.heap.push (.map #[] 0) } → h0.set id (.map [] 0) = h1 → v = .map (some id) →
        QOut P ⟨dst, .makeMap t r, ty, pos, after, guard⟩ ρ' id m h w v := by
      rintro hr rfl rfl
      have hg := hobj _ (AHeap.get_set_same (o := .map [] 0) hfr)
      obtain ⟨H', E⟩ := H.grow (t := ⟨.map, w.heap.size, 0, 0, none, 0⟩) hid hg (Grw.push' w (.map #[] 0)) rfl ⟨rfl, ⟨rfl, by simp⟩, rfl⟩
      exact ⟨_, _, _, hr, .map (.inr ⟨_, put_self .., rfl⟩), H', E⟩
    simp only [aOp] at hq
    split at hq
    · simp only [Option.some.injEq, Prod.mk.injEq] at hq
      exact key (by simp [execOp, Instr.makeMap]) hq.2 hq.1.symm
    · rename_i x
      split at hq
      · rename_i k e j n hu hx
        simp only [Option.some.injEq, Prod.mk.injEq] at hq
        have hxr := hρ x (by simp [Op.operands])
        rw [hx] at hxr
        exact key (by simp [execOp, Instr.makeMap, ru hu, hxr.of_atom rfl, asInt, asIntOf]) hq.2 hq.1.symm
      · cases hq
  | makeSlice t l c =>
    simp only [aOp, makeSliceA] at hq
    split at hq
    · rename_i e ln cn he hl hc
      split at hq
      · rename_i size bytes z hs hb hz
        split at hq
        · rename_i h1' h2' h3' h4'
          simp only [Option.some.injEq, Prod.mk.injEq] at hq
          obtain ⟨rfl, rfl⟩ := hq
          obtain ⟨k, hl'⟩ := natOf_int hl
          obtain ⟨k', hc'⟩ := natOf_int hc
          have hlr := hρ l (by simp [Op.operands])
          have hcr := hρ c (by simp [Op.operands])
          rw [hl'] at hlr; rw [hc'] at hcr
          refine .row H hid (hobj _ (get_newBlk hfr)) (repL_rel (zeroT_rel hz) cn) e (fun a => .slice (some a) ln cn) _ ?_ (fun t hj hs => fresh_slice hj hs (le_of_ble h2'))
          simp only [execOp, Sem.run_bind, hlr.of_atom rfl, hcr.of_atom rfl, run_makeSlice (elemOfSlice_spec he) hs hb hz (le_of_ble h1') (le_of_ble h2') (le_of_ble h3') (eq_of_beqN h4'), Result.andThen_ok, Sem.run_pure]
        · cases hq
      · cases hq
    · cases hq
  | slice t x lo hi mx =>
    obtain ⟨h2, hr⟩ := hread rfl
    simp only [aOp] at hr
    have hx := hρ x (by simp [Op.operands])
    split at hr
    · have hr := (map_snd hr).1
      obtain ⟨hr, hv⟩ := pureOp_sound (m := m) (w := w) hr hρ (by simp)
      exact .still H hr hv
    · have hr := (map_snd hr).1
      refine asStill (s := Instr.sliceAt t (ρ' x) (lo.map ρ') (hi.map ρ') (mx.map ρ')) H (sliceA_sound H hx (optRel ?_) (optRel ?_) (optRel ?_) hr) rfl
      · intro y hy; exact hρ y (by subst hy; simp [Op.operands])
      · intro y hy; exact hρ y (by subst hy; simp [Op.operands])
      · intro y hy; exact hρ y (by subst hy; simp [Op.operands])
  | fieldAddr s x f =>
    simp only [aOp] at hq
    exact asStill H (fieldAddrA_sound (hρ x (by simp [Op.operands])) (map_snd hq).1) rfl
  | field t x f =>
    simp only [aOp] at hq
    exact asStill H (fieldA_sound (hρ x (by simp [Op.operands])) (map_snd hq).1) rfl
  | indexAddr t x i =>
    simp only [aOp] at hq
    exact asStill H (indexAddrA_sound (hρ x (by simp [Op.operands])) (hρ i (by simp [Op.operands])) (map_snd hq).1) rfl
  | index t x i =>
    simp only [aOp] at hq
    exact asStill H (indexA_sound (hρ x (by simp [Op.operands])) (hρ i (by simp [Op.operands])) (map_snd hq).1) rfl
  | lookup t mp k ok =>
    obtain ⟨h2, hr⟩ := hread rfl
    simp only [aOp] at hr
    exact asStill H (lookupA_sound H (hρ mp (by simp [Op.operands])) (hρ k (by simp [Op.operands])) (map_snd hr).1) rfl
  | entry it =>
    obtain ⟨h2, hr⟩ := hread rfl
    simp only [aOp] at hr
    exact asStill H (entryA_sound H (hρ it (by simp [Op.operands])) (map_snd hr).1) rfl
  | extract x i =>
    have hx := hρ x (by simp [Op.operands])
    simp only [aOp] at hq
    split at hq
    · rename_i vs e
      have hq := (map_snd hq).1
      rw [e] at hx
      obtain ⟨vs', e', hl⟩ := hx.tuple_inv
      obtain ⟨v', hv', hr⟩ := hl.get hq
      have hv'' : vs'[i]? = some v' := by simpa using hv'
      exact .still H (v' := v') (by simp [execOp, Instr.extract, e', hv'']) hr
    · cases hq
  | call c =>
    obtain ⟨cal, args, ats⟩ := c
    cases cal with
    | builtin b =>
      cases b <;> first | (simp [isEff] at he; done) | skip
      case cap =>
        obtain ⟨h2, hr⟩ := hread rfl
        simp only [aOp, builtinA] at hr
        split at hr
        · rename_i x rest t ts hargs hts
          have hmem : ∃ y ys, args.toList = y :: ys ∧ ρ y = x := by
            cases hl : args.toList with
            | nil => rw [hl] at hargs; simp at hargs
            | cons y ys => rw [hl] at hargs; simp at hargs; exact ⟨y, ys, rfl, hargs.1⟩
          obtain ⟨y, ys, hyl, hyx⟩ := hmem
          have hy := hρ y (by simp [Op.operands, Call.operands]; rw [← Array.mem_toList_iff, hyl]; simp)
          rw [hyx] at hy
          obtain ⟨v', hv, hrun⟩ := capA_sound (P := P) H hy (map_snd hr).1
          have h1 : ats[0]? = some t := by rw [← Array.getElem?_toList, hts]; rfl
          have h2' : (args.map ρ')[0]? = some (ρ' y) := by rw [← Array.getElem?_toList, Array.toList_map, hyl]; rfl
          exact .still H (v' := v') (by simp [execOp, resolve, invoke, builtin, hrun _ _ _ h1 h2']) hv
        · cases hr
      case len =>
        obtain ⟨h2, hr⟩ := hread rfl
        simp only [aOp, builtinA] at hr
        split at hr
        · rename_i x rest t ts hargs hts
          have hmem : ∃ y ys, args.toList = y :: ys ∧ ρ y = x := by
            cases hl : args.toList with
            | nil => rw [hl] at hargs; simp at hargs
            | cons y ys => rw [hl] at hargs; simp at hargs; exact ⟨y, ys, rfl, hargs.1⟩
          obtain ⟨y, ys, hyl, hyx⟩ := hmem
          have hy := hρ y (by simp [Op.operands, Call.operands]; rw [← Array.mem_toList_iff, hyl]; simp)
          rw [hyx] at hy
          split at hr
          · obtain ⟨hr, hv⟩ := pureOp_sound (m := m) (w := w) (map_snd hr).1 hρ (by simp)
            exact .still H hr hv
          · obtain ⟨hr, hv⟩ := pureOp_sound (m := m) (w := w) (map_snd hr).1 hρ (by simp)
            exact .still H hr hv
          · obtain ⟨v', hv, hrun⟩ := lenA_sound (P := P) H hy (map_snd hr).1
            have h1 : ats[0]? = some t := by rw [← Array.getElem?_toList, hts]; rfl
            have h2' : (args.map ρ')[0]? = some (ρ' y) := by rw [← Array.getElem?_toList, Array.toList_map, hyl]; rfl
            exact .still H (v' := v') (by simp [execOp, resolve, invoke, builtin, hrun _ _ _ h1 h2']) hv
        · cases hr
      case max =>
        simp only [aOp, builtinA] at hq
        obtain ⟨hr, hv⟩ := pureOp_sound (m := m) (w := w) (map_snd hq).1 hρ (by simp)
        exact .still H hr hv
      case min =>
        simp only [aOp, builtinA] at hq
        obtain ⟨hr, hv⟩ := pureOp_sound (m := m) (w := w) (map_snd hq).1 hρ (by simp)
        exact .still H hr hv
    | value f => simp [isEff] at he
    | invoke r n => simp [isEff] at he
  | _ => first | (simp [isEff] at he; done) | (simp [aOp] at hq; done)
end
end Go.Cub
