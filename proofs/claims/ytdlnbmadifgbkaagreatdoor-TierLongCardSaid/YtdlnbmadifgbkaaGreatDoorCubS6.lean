/- Quiet operations: the theorem. -/
import Derived.Test.YtdlnbmadifgbkaaGreatDoorCubS5
namespace Go.Cub
set_option linter.unusedVariables false
set_option linter.unusedSimpArgs false
open Go

section
variable {P : Program} {m : AMap} {h : AHeap} {w : World}

theorem QOut.row {o : Oper} {ρ' : Operand → Value} {id : Nat} {cs cs' : List Value} {opn : Option Nat} {pl : Bool} (H : HRel m h w) (hid : m id = none)
    (hg : h.get id = some (.cells ⟨cs, opn, true, pl⟩)) (hl : LRel m cs cs') (e : TypeId) (f : Addr → Value) (v : Value)
    (hr : (execOp ρ' o).run P w = .ok (.value (f ⟨w.heap.size, 0, none⟩)) { w with heap := w.heap.push (.cells cs'.toArray e) })
    (hv : ∀ t : Tgt, t.j = w.heap.size → t.sh = 0 → VRel (m.put id t) v (f ⟨w.heap.size, 0, none⟩)) : QOut P o ρ' id m h w v := by
  obtain ⟨t, hj, hsh, _, _, _, _, H', E⟩ := fresh_cells H hid hg hl [] (fun _ => rfl) e _ (by simpa using Grw.push' w (.cells cs'.toArray e))
  exact ⟨_, _, _, hr, hv t hj hsh, H', E⟩

theorem get_litRow {h0 : AHeap} {id : Nat} {cs : List Value} (hfr : id < h0.next) : (litRow h0 id cs).get id = some (.cells ⟨cs, none, true, false⟩) := AHeap.get_set_same hfr
theorem get_newBlk {h0 : AHeap} {id : Nat} {cs : List Value} {opn : Option Nat} (hfr : id < h0.next) : (newBlk h0 id cs opn).get id = some (.cells ⟨cs, opn, true, true⟩) := AHeap.get_set_same hfr

theorem repL_len {α : Type} (z : List α) : ∀ n, (repL n z).length = n * z.length := by
  intro n; induction n with
  | zero => simp [repL]
  | succ n ih => simp [repL, ih, Nat.succ_mul]; omega
theorem repL_get {α : Type} (z : List α) : ∀ n i, i < n * z.length → (repL n z)[i]? = z[i % z.length]? := by
  intro n; induction n with
  | zero => intro i hi; simp at hi
  | succ n ih =>
    intro i hi
    have : 0 < z.length := by rcases Nat.eq_zero_or_pos z.length with e | e; · rw [e] at hi; simp at hi
                              · exact e
    simp only [repL, List.getElem?_append]
    split
    · rename_i hlt; rw [Nat.mod_eq_of_lt hlt]
    · rename_i hge
      rw [ih (i - z.length) (by rw [Nat.succ_mul] at hi; omega)]
      rw [Nat.mod_eq_sub_mod (by omega : i ≥ z.length)]

/-- The model's row of zeros. -/
theorem zeros_eq {z : Value} {size n : Nat} (hz : z.cells.size = size) : (Array.range (n * size)).map (fun i => z.cells[i % z.cells.size]!) = (repL n z.cells.toList).toArray := by
  apply Array.ext'
  apply List.ext_getElem?
  intro i
  simp only [Array.toList_map, Array.toList_range, List.getElem?_map, List.getElem?_range]
  by_cases hi : i < n * size
  · have hlen : z.cells.toList.length = size := by simpa using hz
    have hpos : 0 < size := by rcases Nat.eq_zero_or_pos size with e | e; · rw [e] at hi; simp at hi
                               · exact e
    rw [List.getElem?_range hi, repL_get _ _ _ (by rw [hlen]; exact hi), hlen]
    have hm : i % size < z.cells.size := by rw [hz]; exact Nat.mod_lt _ hpos
    simp only [Option.map_some, hz]
    rw [getElem!_pos z.cells (i % size) hm]
    simp [hm]
  · rw [List.getElem?_eq_none (by simp; omega), List.getElem?_eq_none (by rw [repL_len]; simp [hz]; omega)]
    rfl

theorem repL_rel {l l' : List Value} (hl : LRel m l l') : ∀ n, LRel m (repL n l) (repL n l') := by
  intro n; induction n with
  | zero => exact .nil
  | succ n ih => exact hl.append ih

theorem le_of_ble {a b : Nat} (h : Nat.ble a b = true) : a ≤ b := Nat.le_of_ble_eq_true h
theorem eq_of_beqN {a b : Nat} (h : Nat.beq a b = true) : a = b := Nat.eq_of_beq_eq_true h

theorem wrap64_id {n : Nat} (h : n ≤ 2 ^ 47) : IntKind.i64.wrap (n : Int) = n := by
  simp [IntKind.wrap, IntKind.bits, IntKind.signed]
  omega

theorem natOf_int {v : Value} {n : Nat} (h : natOf? v = some n) : ∃ k, v = .int k (n : Int) := by
  unfold natOf? at h
  split at h
  · split at h
    · cases h; exact ⟨_, rfl⟩
    · cases h
  · cases h

theorem run_makeSlice {t e : TypeId} {l c size bytes : Nat} {z : Value} {k k' : IntKind} (hu : P.underlying t = some (.slice e)) (hs : sizeT P e = some size) (hb : bytesT P e = some bytes) (hz : zeroT P e = some z)
    (h1 : c * bytes ≤ 2 ^ 47) (h2 : l ≤ c) (h3 : c ≤ 2 ^ 47) (h4 : z.cells.size = size) :
    (Instr.makeSlice t (.int k l) (.int k' c)).run P w = .ok (.slice (some ⟨w.heap.size, 0, none⟩) l c) { w with heap := w.heap.push (.cells (repL c z.cells.toList).toArray e) } := by
  obtain ⟨i, hi, hib⟩ := rbytes (w := w) hb
  have hlw : IntKind.i64.wrap (l : Int) = l := wrap64_id (by omega)
  have hcw : IntKind.i64.wrap (c : Int) = c := wrap64_id h3
  have hcond : ¬ (((decide ((c : Int) < 0) || decide ((bytes : Int) * (c : Int) > 2 ^ 48)) || decide ((l : Int) < 0) || decide ((l : Int) > (c : Int))) = true) := by
    simp only [Bool.or_eq_true, decide_eq_true_eq, not_or]
    refine ⟨⟨⟨by omega, ?_⟩, by omega⟩, by omega⟩
    have : ((bytes : Int) * (c : Int)) = ((c * bytes : Nat) : Int) := by push_cast; exact Int.mul_comm _ _
    rw [this]; omega
  simp only [Instr.makeSlice, Sem.run_bind, ru hu, Result.andThen_ok, asInt, asIntOf, Sem.run_pure, hi, hib, hlw, hcw, hcond, if_false, run_askRoom, rsize hs, Int.toNat_natCast, newRow, Bool.false_eq_true]
  by_cases h0 : c * size = 0
  · have : repL c z.cells.toList = [] := List.eq_nil_of_length_eq_zero (by rw [repL_len]; simp [h4, h0])
    have e0 : Array.range 0 = (#[] : Array Nat) := by simp
    rw [if_pos h0, this, h0, e0]
    simp [newRow]
  · rw [if_neg h0]
    simp only [Sem.run_bind, rzero hz, Result.andThen_ok, Sem.run_pure, run_newObj, zeros_eq h4]

theorem liveStr {s : ByteArray} : scalar (.string s) = true := rfl

theorem binA_sound (H : HRel m h w) {ρ ρ' : Operand → Value} {dst : Option Tmp} {op : BinOp} {t : TypeId} {x y : Operand} {yt ty : TypeId} {pos : String} {after : Array Edge} {guard : Option (Nat × Bool)} {v : Value}
    (hx : VRel m (ρ x) (ρ' x)) (hy : VRel m (ρ y) (ρ' y))
    (hq : binA P ρ ⟨dst, .binOp op t x y yt, ty, pos, after, guard⟩ op t x y h = some v) :
    ∃ v', (execOp ρ' ⟨dst, .binOp op t x y yt, ty, pos, after, guard⟩).run P w = .ok (.value v') w ∧ VRel m v v' := by
  unfold binA at hq
  split at hq
  · obtain ⟨hr, hv⟩ := pureOp_sound (m := m) (w := w) hq (ρ' := ρ') (fun z hz => by
      simp [Op.operands] at hz; rcases hz with rfl | rfl <;> assumption) (by simp)
    exact ⟨v, hr, hv⟩
  · have key : ∀ {r : Bool} {op' : BinOp}, eqA P t (ρ x) (ρ y) h = some r → (op' = .eql ∨ op' = .neq) → (execOp ρ' ⟨dst, .binOp op' t x y yt, ty, pos, after, guard⟩).run P w = .ok (.value (.bool (match op' with | .eql => r | _ => !r))) w := by
      intro r op' hr hop
      obtain ⟨he, hng, had⟩ := eqA_sound (P := P) H hr hx hy
      have hg : (eqGuard op' t x y (ρ' x) (ρ' y)).run P w = .ok () w := by
        generalize ρ' x = a at hng had
        generalize ρ' y = b at hng
        rcases hop with rfl | rfl <;> (cases a <;> cases b <;> first | (simp [noGuard] at hng; done) | (simp [addrish] at had; done) | simp [eqGuard])
      rcases hop with rfl | rfl
      · simp [execOp, hg, binOp_eql t had, he]
      · simp [execOp, hg, binOp_neq t had, he]
    split at hq
    · simp only [Option.map_eq_some_iff] at hq
      obtain ⟨r, hr, rfl⟩ := hq
      exact ⟨_, key hr (.inl rfl), .atom rfl⟩
    · simp only [Option.map_eq_some_iff] at hq
      obtain ⟨r, hr, rfl⟩ := hq
      exact ⟨_, key hr (.inr rfl), .atom rfl⟩
    · cases hq

theorem addrel (n : Nat) {a b : Addr} (hp : PRel m a b) : PRel m (a.add n) (b.add n) := by
  rcases hp with e | ⟨t, e, rfl⟩
  · exact .inl (by rw [add_block]; exact e)
  · refine .inr ⟨t, by rw [add_block]; exact e, ?_⟩
    unfold Addr.add
    split
    · rfl
    · simp; omega

theorem fieldAddrA_sound {s : TypeId} {x x' v : Value} {f : Nat} (hx : VRel m x x') (hq : fieldAddrA P s x f = some v) :
    ∃ v', (Instr.fieldAt s x' f).run P w = .ok v' w ∧ VRel m v v' := by
  unfold fieldAddrA at hq
  split at hq
  · rename_i fs a hu
    obtain ⟨b, rfl, hp⟩ := hx.ptr_inv
    split at hq
    · rename_i fd hfd
      split at hq
      · rename_i n hs
        cases hq
        refine ⟨.pointer (some (b.add fd.offset)), ?_, .ptr (addrel _ hp)⟩
        simp [Instr.fieldAt, ru hu, hfd, Instr.sureAddr, fieldPlace, rsize hs]
      · cases hq
    · cases hq
  · cases hq

theorem SRel.ptr {a b : Addr} {len cap cap' : Nat} (hs : SRel m a b len cap cap') (hc : 0 < cap) : PRel m a b := by
  rcases hs with e | ⟨t, e, h1, h2, h3, h4, h5, h6, h7, _⟩
  · exact .inl e
  · refine .inr ⟨t, e, ?_⟩
    obtain ⟨b1, b2, b3⟩ := b
    simp only at h2 h3 h7
    have := h7.resolve_left (by omega)
    subst this; subst h3; subst h2; rw [h1]

theorem SRel.ptrL {a b : Addr} {len cap cap' : Nat} (hs : SRel m a b len cap cap') (hc : 0 < len) : PRel m a b := by
  have h0 := hs
  rcases hs with e | ⟨t, e, h1, h2, h3, h4, _⟩
  · exact .inl e
  · exact h0.ptr (by omega)

theorem indexAddrA_sound {t : TypeId} {x x' ix ix' v : Value} (hx : VRel m x x') (hi : VRel m ix ix') (hq : indexAddrA P t x ix = some v) :
    ∃ v', (Instr.indexAt t x' ix').run P w = .ok v' w ∧ VRel m v v' := by
  unfold indexAddrA at hq
  split at hq
  · rename_i e a len cap i hu hn
    obtain ⟨b, cap', rfl, hsr⟩ := hx.slice_inv
    obtain ⟨k, rfl⟩ := natOf_int hn
    rw [hi.of_atom rfl]
    split at hq
    · rename_i n hlt hs
      cases hq
      have hlt := le_of_ble hlt
      refine ⟨_, ?_, .ptr (addrel _ (hsr.ptrL (by omega)))⟩
      have h1 : (0 : Int) ≤ (i : Int) ∧ (i : Int) < (len : Int) := by omega
      simp [Instr.indexAt, asIntOf, ru hu, h1, rsize hs]
      intro hh; omega
    · cases hq
  · rename_i len e a i hu hn
    obtain ⟨b, rfl, hp⟩ := hx.ptr_inv
    obtain ⟨k, rfl⟩ := natOf_int hn
    rw [hi.of_atom rfl]
    split at hq
    · rename_i n hlt hs
      cases hq
      have hlt := le_of_ble hlt
      refine ⟨_, ?_, .ptr (addrel _ hp)⟩
      have h1 : (0 : Int) ≤ (i : Int) ∧ (i : Int) < (len : Int) := by omega
      simp [Instr.indexAt, asIntOf, ru hu, h1, rsize hs, Instr.sureAddr]
      intro hh; omega
    · cases hq
  · cases hq
end
end Go.Cub
