/- The operations that turn memory. -/
import Derived.Test.YtdlnbmadifgbkaaGreatDoorCubS7
namespace Go.Cub
set_option linter.unusedVariables false
set_option linter.unusedSimpArgs false
open Go

def EOut (P : Program) (o : Oper) (ρ' : Operand → Value) (id : Nat) (m : AMap) (h : AHeap) (w : World) (v : Value) (h' : AHeap) : Prop :=
  ∃ v' w' m' nx, (execOp ρ' o).run P w = .ok nx w' ∧ (nx = .value v' ∨ (nx = .skip ∧ v' = undef)) ∧ VRel m' v v' ∧ HRel m' h' w' ∧ Ext (· = id) m h w m' h' w'

section
variable {P : Program} {m : AMap} {h : AHeap} {w : World}

theorem lenOfA_sound {x x' : Value} {n : Nat} (hx : VRel m x x') (hl : lenOfA x = some n) : (Builtin.lenOf x').run P w = .ok n w := by
  unfold lenOfA at hl
  split at hl
  · rename_i a n' c
    cases hl
    cases a with
    | none => rw [hx.of_atom rfl]; rfl
    | some a => obtain ⟨b, c', rfl, _⟩ := hx.slice_inv; rfl
  · cases hl; rw [hx.of_atom rfl]; rfl
  · cases hl

theorem getCells_len' {a : Addr} {n : Nat} {l : List Value} (hg : getCells h a n = some l) : l.length = n := by
  obtain ⟨b, _, _, hn, rfl⟩ := getCells_inv hg
  simp; omega

theorem firstCellsA_sound (H : HRel m h w) {x x' : Value} {size n len : Nat} {l : List Value} (hx : VRel m x x') (hl : firstCellsA h size n x = some l) (hn : lenOfA x = some len) (hle : n ≤ len) :
    ∃ l', (∀ w' : World, w'.heap = w.heap → (Builtin.firstCells size n x').run P w' = .ok l'.toArray w') ∧ LRel m l l' ∧ l.length = n * size := by
  unfold firstCellsA at hl
  split at hl
  · rename_i a n' c
    obtain ⟨b, c', rfl, hs⟩ := hx.slice_inv
    simp only [lenOfA, Option.some.injEq] at hn
    have hlen := getCells_len' hl
    rcases Nat.eq_zero_or_pos n' with h0 | h0
    · have : n = 0 := by omega
      subst this
      obtain ⟨blk, _, _, _, rfl⟩ := getCells_inv hl
      exact ⟨[], fun w' _ => by simp [Builtin.firstCells, loadCells, loadCellsFrom], by simpa using LRel.nil, hlen⟩
    · obtain ⟨c0, e0, f0, hw0, hsp0, hn0, hrel0⟩ := getCells_sound H (hs.ptrL h0) hl
      exact ⟨_, fun w' hw' => by simp only [Builtin.firstCells]; exact run_loadCells (by rw [hw']; exact hw0) hsp0 _ hn0, hrel0, hlen⟩
  · split at hl
    · cases hl; rw [hx.of_atom rfl]; exact ⟨[], fun _ _ => rfl, .nil, by simp⟩
    · cases hl
  · rename_i s
    split at hl
    · rename_i hb
      cases hl
      simp only [Bool.and_eq_true] at hb
      have hs1 := eq_of_beqN hb.2
      have hb := le_of_ble hb.1
      rw [hx.of_atom rfl]
      refine ⟨_, fun w' _ => ?_, LRel.map _ _ _ fun b _ => .atom rfl, by simp [hs1]; omega⟩
      simp only [Builtin.firstCells, Sem.run_pure]
      congr 1
      apply Array.ext'
      simp only [Array.toList_map]
      congr 1
      have : (s.extract 0 n).data = s.data.extract 0 n := by simp [ByteArray.extract, ByteArray.copySlice]
      rw [this]; simp
    · cases hl
  · cases hl

theorem growBy_le (newLen : Nat) : ∀ (r c : Nat), c ≤ newLen → Builtin.growBy newLen r c ≤ 2 * newLen + 192 := by
  intro r
  induction r with
  | zero => intro c hc; simp [Builtin.growBy]; omega
  | succ r ih =>
    intro c hc
    simp only [Builtin.growBy]
    split
    · omega
    · by_cases hh : c + (c + 768) / 4 ≤ newLen
      · exact ih _ hh
      · have : Builtin.growBy newLen r (c + (c + 768) / 4) ≤ c + (c + 768) / 4 := by
          cases r with
          | zero => simp [Builtin.growBy]
          | succ r => simp only [Builtin.growBy]; rw [if_pos (by omega)]; exact Nat.le_refl _
        omega

theorem nextslicecap_le {need cap : Nat} (h : cap < need) : Builtin.nextslicecap need cap ≤ 2 * need + 192 := by
  unfold Builtin.nextslicecap
  split
  · omega
  · split
    · omega
    · exact growBy_le need 4 cap (by omega)

/-- What append asks of its second operand. -/
structure AppArg (P : Program) (w : World) (st e : TypeId) (size bytes : Nat) (z : Value) (ats : Array TypeId) (n : Nat) (x' : Value) (new' : List Value) : Prop where
  a0 : ats[0]? = some st
  us : P.underlying st = some (.slice e)
  hs : sizeT P e = some size
  hb : bytesT P e = some bytes
  hz : zeroT P e = some z
  hzs : z.cells.size = size
  len : new'.length = n * size
  arg : (∃ xt d, ats[1]? = some xt ∧ P.underlying xt = some d ∧ (∀ k, d ≠ .int k) ∧ ∀ w' : World, w'.heap = w.heap → (Builtin.lenOf x').run P w' = .ok n w' ∧ (Builtin.firstCells size n x').run P w' = .ok new'.toArray w') ∨
    (∃ xt k j, ats[1]? = some xt ∧ P.underlying xt = some (.int k) ∧ x' = .int j (n : Int) ∧ n ≤ 2 ^ 40 ∧ n * bytes ≤ 2 ^ 48 ∧ new' = repL n z.cells.toList)

theorem zeroCells_eq {z : Value} {size n : Nat} (hz : z.cells.size = size) : Builtin.zeroCells z.cells n = (repL n z.cells.toList).toArray := by
  have := zeros_eq (n := n) hz
  rw [← hz] at this
  simpa [Builtin.zeroCells] using this

theorem wrap64_id' {n : Nat} (h : n ≤ 2 ^ 40) : IntKind.i64.wrap (n : Int) = n := wrap64_id (by omega)

/-- In place. -/
theorem run_append_here {st e : TypeId} {size bytes n sLen sCap : Nat} {z x' : Value} {new' : List Value} {ats : Array TypeId} {ty : TypeId} {base : Option Addr} {w' : World} (A : AppArg P w st e size bytes z ats n x' new')
    (hle : sLen + n ≤ sCap) (hst : (match base with | some b => (storeCells (b.add (sLen * size)) new').run P w | none => .ok () w) = .ok () w') :
    (Builtin.append_ ats ty #[.slice base sLen sCap, x']).run P w = .ok (.slice base (sLen + n) sCap) w' := by
  obtain ⟨a0, us, hs, hb, hz, hzs, hlen, arg⟩ := A
  obtain ⟨i, hi, hib⟩ := rbytes (w := w) hb
  rcases arg with ⟨xt, d, a1, ud, hd, hf⟩ | ⟨xt, k, j, a1, ud, rfl, hn, hnb, rfl⟩
  · obtain ⟨hl, hf⟩ := hf w rfl
    have hzf : (match d with | .int _ => true | _ => false) = false := by cases d <;> first | rfl | exact absurd rfl (hd _)
    cases base with
    | none =>
      cases hst
      simp only [Builtin.append_, a0, a1]
      simp [ru us, ru ud, rsize hs, hzf, hl, hle, hf]
    | some b =>
      simp only [Builtin.append_, a0, a1]
      simp [ru us, ru ud, rsize hs, hzf, hl, hle, hf]
      simp only at hst
      rw [hst]; rfl
  · have hnw := wrap64_id' hn
    have hneg : ¬ ((n : Int) < 0) := by omega
    have hbig : ¬ ((281474976710656 : Int) < (n : Int) * (bytes : Int)) := by
      have : (n : Int) * (bytes : Int) = ((n * bytes : Nat) : Int) := by push_cast; rfl
      rw [this]; omega
    by_cases h0 : n * size = 0
    · have hnil : repL n z.cells.toList = [] := List.eq_nil_of_length_eq_zero (by rw [repL_len]; simp [hzs, h0])
      rw [hnil] at hst
      simp only [Builtin.append_, a0, a1]
      cases base with
      | none =>
        cases hst
        simp [ru us, ru ud, rsize hs, asInt, asIntOf, hnw, hneg, hi, hib, hbig, hle, h0]
      | some b =>
        simp only [storeCells, Sem.run_pure] at hst
        cases hst
        simp [ru us, ru ud, rsize hs, asInt, asIntOf, hnw, hneg, hi, hib, hbig, hle, h0, storeCells]
    · simp only [Builtin.append_, a0, a1]
      cases base with
      | none =>
        cases hst
        simp [ru us, ru ud, rsize hs, asInt, asIntOf, hnw, hneg, hi, hib, hbig, hle, h0, rzero hz]
      | some b =>
        simp only at hst
        simp [ru us, ru ud, rsize hs, asInt, asIntOf, hnw, hneg, hi, hib, hbig, hle, h0, rzero hz, zeroCells_eq hzs]
        rw [hst]; rfl

/-- To a new row. -/
theorem run_append_new {st e : TypeId} {size bytes n sLen sCap : Nat} {z x' : Value} {new' old' : List Value} {ats : Array TypeId} {ty : TypeId} {base : Option Addr} (A : AppArg P w st e size bytes z ats n x' new')
    (hgt : sCap < sLen + n) (hg : okGrow (sLen + n) bytes = true)
    (hold : ∀ w' : World, w'.heap = w.heap → (Builtin.firstCells size sLen (.slice base sLen sCap)).run P w' = .ok old'.toArray w') :
    ∃ c rest, sLen + n ≤ c ∧ rest.length = (c - (sLen + n)) * size ∧
      (Builtin.append_ ats ty #[.slice base sLen sCap, x']).run P w = .ok (.slice (some ⟨w.heap.size, 0, none⟩) (sLen + n) c)
        { w with drawn := w.drawn + 1, heap := w.heap.push (.cells (old' ++ new' ++ rest).toArray e) } := by
  obtain ⟨a0, us, hs, hb, hz, hzs, hlen, arg⟩ := A
  simp only [okGrow, Bool.and_eq_true] at hg
  have hb0 : 0 < bytes := le_of_ble hg.1
  have hg := le_of_ble hg.2
  have hgrow := nextslicecap_le hgt
  have hmul : Builtin.nextslicecap (sLen + n) sCap * bytes ≤ 2 ^ 48 := Nat.le_trans (Nat.mul_le_mul_right _ hgrow) hg
  have hneed : sLen + n ≤ 2 ^ 48 := by
    have : (sLen + n) * 1 ≤ (2 * (sLen + n) + 192) * bytes := Nat.mul_le_mul (by omega) hb0
    omega
  have hov : ¬ ((9223372036854775807 : Int) < (sLen : Int) + (n : Int) ∧ True) := by omega
  have hnot : ¬ (sLen + n ≤ sCap) := by omega
  have hbn : ¬ (281474976710656 < Builtin.nextslicecap (sLen + n) sCap * bytes) := by omega
  have hmax : IntKind.i64.max = 9223372036854775807 := by decide
  obtain ⟨c, hc, hcn⟩ : ∃ c, (Question.appendCap (sLen + n) sCap e).cut (w.tape w.drawn (.appendCap (sLen + n) sCap e)) = c ∧ sLen + n ≤ c := ⟨_, rfl, by simp [Question.cut]⟩
  let w1 : World := { w with drawn := w.drawn + 1 }
  have hinfo : ∀ w' : World, ∃ i, (typeInfo e).run P w' = .ok i w' ∧ i.bytes = bytes := fun w' => rbytes hb
  obtain ⟨i, hi, hib⟩ := rbytes (w := w) hb
  obtain ⟨i1, hi1, hib1⟩ := rbytes (w := { w with drawn := w.drawn + 1 }) hb
  have ho := hold { w with drawn := w.drawn + 1 } rfl
  refine ⟨c, repL (c - (sLen + n)) z.cells.toList, hcn, by rw [repL_len]; simp [hzs], ?_⟩
  have hzc := zeroCells_eq (n := c - (sLen + n)) hzs
  rcases arg with ⟨xt, d, a1, ud, hd, hf⟩ | ⟨xt, k, j, a1, ud, rfl, hn, hnb, rfl⟩
  · obtain ⟨hl, _⟩ := hf w rfl
    obtain ⟨_, hf⟩ := hf { w with drawn := w.drawn + 1 } rfl
    have hzf : (match d with | .int _ => true | _ => false) = false := by cases d <;> first | rfl | exact absurd rfl (hd _)
    have hb1 : bytes ≠ 0 := by omega
    simp only [Builtin.append_, a0, a1]
    simp [ru us, ru ud, rsize hs, hzf, hl, hnot, hi, hib, hb1, hbn, Question.forced, hc, hi1, hib1, ho, hf, rzero hz, hzc, newRow]
  · have hnw := wrap64_id' hn
    have hneg : ¬ ((n : Int) < 0) := by omega
    have hbig : ¬ ((281474976710656 : Int) < (n : Int) * (bytes : Int)) := by
      have : (n : Int) * (bytes : Int) = ((n * bytes : Nat) : Int) := by push_cast; rfl
      rw [this]; omega
    have hov' : ¬ ((9223372036854775807 : Int) < (sLen : Int) + (n : Int)) := by omega
    by_cases h0 : n * size = 0
    · have hnil : repL n z.cells.toList = [] := List.eq_nil_of_length_eq_zero (by rw [repL_len]; simp [hzs, h0])
      simp only [Builtin.append_, a0, a1, hnil]
      simp [ru us, ru ud, rsize hs, asInt, asIntOf, hnw, hneg, hi, hib, hbig, hnot, h0, hmax, hov', hbn, Question.forced, hc, hi1, hib1, ho, rzero hz, hzc, newRow]
    · simp only [Builtin.append_, a0, a1]
      simp [ru us, ru ud, rsize hs, asInt, asIntOf, hnw, hneg, hi, hib, hbig, hnot, h0, hmax, hov', hbn, Question.forced, hc, hi1, hib1, ho, rzero hz, hzc, zeroCells_eq hzs, newRow]

theorem HRel.kill (H : HRel m h w) {i : Nat} {t : Tgt} (hi : m i = some (some t)) (hk : t.kd = .cells) :
    HRel (fun k => if k = i then some none else m k) (h.set i .dead) w ∧ m.le (fun k => if k = i then some none else m k) := by
  have hlt := H.dom i (by rw [hi]; simp)
  have hle : m.le (fun k => if k = i then some none else m k) := fun k => by
    split
    · trivial
    · rename_i e; by_cases ek : k = i <;> simp [ek, e]
    · rename_i t' e
      by_cases ek : k = i
      · subst ek; rw [hi] at e; cases e; exact .inr ⟨hk, by simp⟩
      · exact .inl (by simp [ek, e])
  refine ⟨⟨fun k hk' => ?_, fun k u hk' => ?_, fun k hk' => ?_, fun k k' u u' e e' ej => ?_⟩, hle⟩
  · by_cases ek : k = i
    · subst ek; simpa using hlt
    · simpa using H.dom k (by simpa [ek] using hk')
  · by_cases ek : k = i
    · simp [ek] at hk'
    · simp [ek] at hk'
      obtain ⟨o, o', ho, ho', hr⟩ := H.live k u hk'
      exact ⟨o, o', (AHeap.get_set_ne ek).trans ho, ho', hr.mono hle⟩
  · by_cases ek : k = i
    · subst ek; exact AHeap.get_set_same hlt
    · simp [ek] at hk'; exact (AHeap.get_set_ne ek).trans (H.dead k hk')
  · by_cases e1 : k = i
    · simp [e1] at e
    · by_cases e2 : k' = i
      · simp [e2] at e'
      · simp [e1] at e; simp [e2] at e'; exact H.inj k k' u u' e e' ej

/-- A row goes on under another number, in the same block of the model. -/
theorem HRel.move (H : HRel m h w) {i id : Nat} {t t2 : Tgt} {o : AObj} {o' : Obj} {w' : World} (hi : m i = some (some t)) (hk : t.kd = .cells) (hid : m id = none) (hfr : id < h.next)
    (hc : Chg t.j w w') (hw : w'.heap[t.j]? = some o') (ht : t2.j = t.j) (hro : ∀ b, h.get i = some (.cells b) → b.wr = true)
    (ho : ORel (AMap.put (fun k => if k = i then some none else m k) id t2) t2 o o') :
    HRel (AMap.put (fun k => if k = i then some none else m k) id t2) ((h.set i .dead).set id o) w' ∧
    Ext (· = id) m h w (AMap.put (fun k => if k = i then some none else m k) id t2) ((h.set i .dead).set id o) w' := by
  obtain ⟨H1, hle1⟩ := H.kill hi hk
  have hne : id ≠ i := fun e => by subst e; rw [hid] at hi; cases hi
  have hid1 : (fun k => if k = i then some none else m k) id = (none : Option (Option Tgt)) := by simp [hne, hid]
  have hle2 := AMap.le_put (m := fun k => if k = i then some none else m k) (t := t2) hid1
  have live1 : ∀ k u, (fun k => if k = i then some none else m k) k = some (some u) → k ≠ i ∧ m k = some (some u) := fun k u hk' => by
    by_cases ek : k = i
    · simp [ek] at hk'
    · simp [ek] at hk'; exact ⟨ek, hk'⟩
  refine ⟨⟨fun k hk' => ?_, fun k u hk' => ?_, fun k hk' => ?_, fun k k' u u' e e' ej => ?_⟩, ⟨hle1.trans hle2, by simp, by rw [hc.size]; exact Nat.le_refl _, hc.os, hc.tape, hc.output, fun k hk' hm hS => ?_, fun j hj hm => ?_, fun k e e' => ?_, fun k u e hj => ?_, fun k u b e1 e2 ew => ?_⟩⟩
  · by_cases ek : k = id
    · subst ek; simpa using hfr
    · simpa using H1.dom k (by simpa [AMap.put, ek] using hk')
  · by_cases ek : k = id
    · subst ek; simp [AMap.put] at hk'; subst hk'
      exact ⟨o, o', AHeap.get_set_same (by simpa using hfr), ht ▸ hw, ho⟩
    · simp only [AMap.put, ek, if_false] at hk'
      obtain ⟨hki, hmk⟩ := live1 k u hk'
      obtain ⟨a, b, ha, hb, hab⟩ := H1.live k u hk'
      refine ⟨a, b, (AHeap.get_set_ne ek).trans ha, ?_, hab.mono hle2⟩
      rw [hc.other u.j (fun ej => hki (H.inj k i u t hmk hi ej))]; exact hb
  · by_cases ek : k = id
    · subst ek; simp [AMap.put] at hk'
    · simp only [AMap.put, ek, if_false] at hk'
      exact (AHeap.get_set_ne ek).trans (H1.dead k hk')
  · by_cases e1 : k = id <;> by_cases e2 : k' = id
    · rw [e1, e2]
    · simp only [AMap.put, e1, e2, if_true, if_false] at e e'
      simp at e; subst e
      obtain ⟨hki, hmk⟩ := live1 k' u' e'
      exact absurd (H.inj k' i u' t hmk hi (by omega)) hki
    · simp only [AMap.put, e1, e2, if_true, if_false] at e e'
      simp at e'; subst e'
      obtain ⟨hki, hmk⟩ := live1 k u e
      exact absurd (H.inj k i u t hmk hi (by omega)) hki
    · simp only [AMap.put, e1, e2, if_false] at e e'
      exact H1.inj k k' u u' e e' ej
  · have hki : k ≠ i := fun e => by subst e; rw [hm] at hi; cases hi
    exact (AHeap.get_set_ne hS).trans (AHeap.get_set_ne hki)
  · exact hc.other j (fun e => hm i t hi e.symm)
  · by_cases e1 : k = id
    · exact e1
    · by_cases e2 : k = i
      · subst e2; rw [e] at hi; cases hi
      · simp [AMap.put, e1, e2, e] at e'
  · by_cases e1 : k = id
    · subst e1; simp [AMap.put] at e; subst e; exact ⟨i, t, hi, ht.symm⟩
    · simp only [AMap.put, e1, if_false] at e
      obtain ⟨_, hmk⟩ := live1 k u e
      exact ⟨k, u, hmk, rfl⟩
  · have hki : k ≠ i := fun e => by subst e; rw [hro b e2] at ew; cases ew
    have hkd : k ≠ id := fun e => by subst e; rw [hid] at e1; cases e1
    exact ⟨by simp [AMap.put, hkd, hki, e1], (AHeap.get_set_ne hkd).trans ((AHeap.get_set_ne hki).trans e2), hc.other _ (fun ej => hki (H.inj k i u t e1 hi ej))⟩

theorem SRel.relen {a b : Addr} {len len2 cap cap' : Nat} (hs : SRel m a b len cap cap') (hl : len2 ≤ cap) : SRel m a b len2 cap cap' := by
  rcases hs with e | ⟨t, e, h1, h2, h3, h4, h5⟩
  · exact .inl e
  · exact .inr ⟨t, e, h1, h2, h3, hl, h5⟩

theorem getCells_len {a : Addr} {n : Nat} {l : List Value} (hg : getCells h a n = some l) : l.length = n := by
  obtain ⟨b, _, _, hn, rfl⟩ := getCells_inv hg
  simp; omega

/-- A new row that is open at its end. -/
theorem append_fresh {m0 : AMap} {h0 : AHeap} (H : HRel m h w) {st e : TypeId} {size bytes n sLen sCap : Nat} {z x' : Value} {new new' old old' : List Value} {ats : Array TypeId} {ty : TypeId} {base : Option Addr} {id : Nat} {pl : Bool}
    (A : AppArg P w st e size bytes z ats n x' new') (hnew : LRel m new new') (hold : LRel m old old') (holdl : old.length = sLen * size) (hid : m id = none)
    (hgt : sCap < sLen + n) (hg : okGrow (sLen + n) bytes = true) (hrun : ∀ w' : World, w'.heap = w.heap → (Builtin.firstCells size sLen (.slice base sLen sCap)).run P w' = .ok old'.toArray w')
    (hgo : h.get id = some (.cells ⟨old ++ new, some size, true, pl⟩)) (E0 : Ext (· = id) m0 h0 w m h w) :
    ∃ v' w' m', (Builtin.append_ ats ty #[.slice base sLen sCap, x']).run P w = .ok v' w' ∧ VRel m' (.slice (some ⟨id, 0, none⟩) (sLen + n) (sLen + n)) v' ∧ HRel m' h w' ∧ Ext (· = id) m0 h0 w m' h w' := by
  obtain ⟨c, rest, hc, hrest, hr⟩ := run_append_new (ty := ty) A hgt hg hrun
  obtain ⟨t, hj, hsh, hn, ho, hcs, hkd, H', E⟩ := fresh_cells H hid hgo (hold.append hnew) rest (by simp) e { w with drawn := w.drawn + 1, heap := w.heap.push (.cells (old' ++ new' ++ rest).toArray e) } (Grw.push w _ _)
  refine ⟨_, _, _, hr, ?_, H', E0.trans E⟩
  have hl1 : old'.length = sLen * size := by rw [← hold.len]; exact holdl
  have hl2 : new'.length = n * size := A.len
  refine .slice (.inr ⟨t, put_self .., rfl, rfl, hj.symm, Nat.le_refl _, hc, by simp [hsh], .inr (by simp [hsh]), .inr ⟨size, ho, ?_, ?_⟩⟩)
  · rw [hn]; simp [holdl, hnew.len, hl2, Nat.add_mul]
  · rw [hcs]; simp only [List.length_append, hl1, hl2, hrest, Nat.zero_add]
    rw [← Nat.add_mul, ← Nat.add_mul]
    exact Nat.le_of_eq (by congr 1; omega)
end
end Go.Cub
