/- What the cursors' functions do, by the bits of the word of open cursors. -/
import Derived.Test.YtcoofhpdkgkjcaaGreatDoorCubL
import Derived.Test.YtcoofhpdkgkjcaaGreatDoorCubR
import Derived.Test.YtcoofhpdkgkjcaaGreatDoorF0
import Derived.Test.YtcoofhpdkgkjcaaGreatDoorF1
namespace Go.Proofs.YtcoofhpdkgkjcaaGreatDoor.F
set_option linter.unusedVariables false
set_option linter.unusedSimpArgs false
open Go Go.Cub
theorem u24 : P.underlying 24 = some (.pointer 59) := by kernel_rfl
theorem u23 : P.underlying 23 = some (.pointer 75) := by kernel_rfl
theorem u5 : P.underlying 5 = some (.int .u8) := by kernel_rfl
theorem u3 : P.underlying 3 = some (.int .i64) := by kernel_rfl

/-- The cursors lie at s: their cache, the word of those that are open. -/
def Cur (h : AHeap) (s : Nat) (c : Addr) (op : Nat) : Prop :=
  ∃ places : List Value, places.length = 64 ∧ h.get s = some (.cells ⟨.pointer (some c) :: .int .u64 op :: places, none, true, true⟩)

theorem Cur.bump {h : AHeap} {s : Nat} {c : Addr} {op : Nat} (hc : Cur h s c op) (k : Nat) : Cur (h.bump k) s c op := hc

theorem has_run {X : Caller} {L : Looper} {K : Value → AHeap → Prop} {h : AHeap} {op i : Nat} (ho : op < 2 ^ 64) (hi : i < 2 ^ 60) :
    f39 X L K h (.int .u64 op) (.int .i64 i) = K (.bool (op.testBit i)) (h.bump 15) := by
  have c1 : decide ((0 : Int) ≤ i) = true := by simp
  by_cases h64 : i < 64
  · have c2 : decide ((i : Int) < 64) = true := by simp; omega
    have e1 := binV_shr (P := P) 56 3 .u64 .i64 op i (by omega)
    rw [shr_word (k := .u64) (by simp [IntKind.bits]; omega)] at e1
    have e2 := binC_and (P := P) 56 56 .u64 ((op >>> i : Nat) : Int) 1
    have hs : op >>> i < 2 ^ 64 := Nat.lt_of_le_of_lt (Nat.shiftRight_le op i) ho
    have e3 := and_word (k := .u64) rfl (a := op >>> i) (b := 1) hs (by decide)
    rw [show ((1 : Nat) : Int) = 1 from rfl] at e3
    rw [e3] at e2
    have e4 : (op >>> i &&& 1) = if op.testBit i then 1 else 0 := by
      rw [and_one_eq, Nat.testBit_shiftRight, Nat.add_zero]
    have e5 : decide (((if op.testBit i then 1 else 0 : Nat) : Int) = 1) = op.testBit i := by
      cases op.testBit i <;> rfl
    simp (implicitDefEqProofs := false) only [f39, AHeap.bump_bump, binC_geq, rdK_some, c1, wantV_bool, beq_self_eq_true, gopK_true, opK_some, binC_lss, c2, Option.map_some, pickV_true, e1, e2, e4, binC_eql, e5]
  · have c2 : decide ((i : Int) < 64) = false := by simp; omega
    have e : op.testBit i = false := Nat.testBit_lt_two_pow (Nat.lt_of_lt_of_le ho (Nat.pow_le_pow_right (by omega) (by omega)))
    simp (implicitDefEqProofs := false) only [f39, AHeap.bump_bump, binC_geq, rdK_some, c1, wantV_bool, beq_self_eq_true, gopK_true, opK_some, binC_lss, c2, Option.map_some, pickV_true, show (false == true) = false from rfl, gopK_false, pickV_false, e]

theorem has_call {K : Value → AHeap → Prop} {h : AHeap} {op i : Nat} (ho : op < 2 ^ 64) (hi : i < 2 ^ 60) (hK : K (.bool (op.testBit i)) (h.bump 15)) : callA P (.call 39 [.int .u64 op, .int .i64 i]) K h := by
  refine callA_step ?_
  rw [f39_eq, has_run ho hi]; exact hK

theorem none_call {K : Value → AHeap → Prop} {h : AHeap} {s op : Nat} {c : Addr} (hc : Cur h s c op) (hK : K (.bool false) (h.bump 11)) : callA P (.call 23 [.pointer (some ⟨s, 0, none⟩)]) K h := by
  obtain ⟨pl, hpl, hg⟩ := hc
  refine callA_step ?_
  have hld : ld1 (.pointer (some ⟨s, 0 + 0, none⟩)) (h.bump (1 + 10)) = some (.pointer (some c)) := ld1_of (B := ⟨_, _, _, _⟩) (by rw [AHeap.get_bump]; exact hg) rfl
  rw [f23_eq]
  simp (implicitDefEqProofs := false) only [f23, AHeap.bump_bump, binC_eql_ptr u24, rdK_some, wantV_bool, beq_self_eq_true, gopK_true, opK_some, nilV_ptr, fAddr_of, Option.map_some, hld, binC_eql_ptr u23, pickV_false]
  exact hK

theorem free_call {K : Value → AHeap → Prop} {h : AHeap} {op k : Nat} (ho : op < 2 ^ 64) (hk : k ≤ 64) (hs : ∀ j, j < k → op.testBit j = true) (hn : op.testBit k = false) (hK : ∀ m, K (.int .i64 k) (h.bump m)) : callA P (.call 38 [.int .u64 op]) K h := by
  refine callA_step ?_
  rw [f38_eq]
  have loop : ∀ d i m (a : AAct), i + d = k → a.env 0 = .int .u64 op → a.env 3 = .int .i64 i → a.defers = [] → loopA (f38_l3 (callA P) loopA) a (blkX 0 (seqX (fun a h => f38_j2 (callA P) loopA K h a) (finX P (callA P) Tryz.f38 K))) (h.bump m) := by
    intro d i m a hd h0 h3 hdf Y hY
    induction d generalizing i m a with
    | zero =>
      obtain rfl : i = k := by omega
      refine hY _ _ ?_
      simp only [f38_l3, h0, h3]
      refine has_call ho (by omega) ?_
      rw [hn]
      show f38_j2 (callA P) loopA K _ _
      obtain ⟨env, df⟩ := a
      cases hdf
      have e3 : env 3 = .int .i64 i := h3
      show K (env 3) _
      rw [e3, AHeap.bump_bump, AHeap.bump_bump, AHeap.bump_bump]
      exact hK _
    | succ d ih =>
      refine hY _ _ ?_
      simp only [f38_l3, h0, h3]
      refine has_call ho (by omega) ?_
      rw [hs i (by omega)]
      have e1 : IntKind.i64.wrap ((i : Int) + 1) = ((i + 1 : Nat) : Int) := by
        have := @wrap_i64_of_lt (i + 1) (by omega)
        simpa using this
      simp only [condK_true, binC_add, e1, rdK_some, AHeap.bump_bump]
      exact ih (i + 1) _ _ (by omega) h0 rfl hdf
  simp only [f38, AHeap.bump_bump]
  exact loop k 0 _ _ (by omega) rfl rfl rfl

/-- Nothing but the block s is another one. -/
def Kp (s : Nat) (h h' : AHeap) : Prop := h.next ≤ h'.next ∧ ∀ b, b ≠ s → b < h.next → h'.get b = h.get b
theorem Kp.refl (s : Nat) (h : AHeap) : Kp s h h := ⟨Nat.le_refl _, fun _ _ _ => rfl⟩
theorem Kp.trans {s : Nat} {h h1 h2 : AHeap} (a : Kp s h h1) (b : Kp s h1 h2) : Kp s h h2 := ⟨Nat.le_trans a.1 b.1, fun i hi hl => by rw [b.2 i hi (Nat.lt_of_lt_of_le hl a.1), a.2 i hi hl]⟩
theorem Kp.bump {s : Nat} {h h1 : AHeap} (a : Kp s h h1) (k : Nat) : Kp s h (h1.bump k) := ⟨by have := a.1; simp; omega, fun i hi hl => by rw [AHeap.get_bump]; exact a.2 i hi hl⟩
theorem Kp.unbump {s : Nat} {h h1 : AHeap} {k : Nat} (a : Kp s (h.bump k) h1) : Kp s h h1 := ⟨by have := a.1; simp at this; omega, fun i hi hl => a.2 i hi (by simp; omega)⟩
theorem Kp.set {s : Nat} {h h1 : AHeap} (a : Kp s h h1) (o : AObj) : Kp s h (h1.set s o) := ⟨by simpa using a.1, fun i hi hl => by rw [AHeap.get_set_ne hi]; exact a.2 i hi hl⟩

theorem open_call {K : Value → AHeap → Prop} {h : AHeap} {s op k : Nat} {c : Addr} (hc : Cur h s c op) (ho : op < 2 ^ 64) (hk : k < 64) (hs : ∀ j, j < k → op.testBit j = true) (hn : op.testBit k = false)
    (hK : ∀ h', Cur h' s c (op ||| 2 ^ k) → Kp s h h' → K (.tuple #[.int .i64 k, .int .i64 0]) h') : callA P (.call 21 [.pointer (some ⟨s, 0, none⟩)]) K h := by
  have hc0 := hc
  obtain ⟨pl, hpl, hg⟩ := hc
  refine callA_step ?_
  rw [f21_eq]
  have hld : ∀ k, ld1 (.pointer (some ⟨s, 0 + 1, none⟩)) (h.bump k) = some (.int .u64 op) := fun k => ld1_of (B := ⟨_, _, _, _⟩) (by rw [AHeap.get_bump]; exact hg) rfl
  simp (implicitDefEqProofs := false) only [f21, AHeap.bump_bump]
  refine none_call (hc0.bump _) ?_
  simp (implicitDefEqProofs := false) only [condK_false, AHeap.bump_bump, nilV_ptr, opK_some, fAddr_of, rdK_some, hld]
  refine free_call ho (by omega) hs hn fun m => ?_
  have c1 : decide ((k : Int) = 64) = false := by simp; omega
  have e1 := binD_shl (P := P) 56 3 .u64 .i64 1 k (by omega)
  rw [one_shl (k := .u64) rfl (by simpa [IntKind.bits] using hk)] at e1
  have e2 := binV_or (P := P) 56 56 .u64 op (2 ^ k : Nat)
  have hp : (2 ^ k) < 2 ^ 64 := Nat.pow_lt_pow_right (by omega) hk
  rw [or_word (k := .u64) rfl (by simpa [IntKind.bits] using ho) (by simpa [IntKind.bits] using hp)] at e2
  have e3 := fun k' => stV_of (n := 1) (o := 0 + 1) (v := .int .u64 ((op ||| 2 ^ k : Nat) : Int)) (h := h.bump k') (b := s) (B := ⟨.pointer (some c) :: .int .u64 op :: pl, none, true, true⟩) (by rw [AHeap.get_bump]; exact hg) rfl rfl (by simp) rfl (by omega)
  have hsn := AHeap.lt_of_get hg
  have e4 : putL (.pointer (some c) :: .int .u64 op :: pl) (0 + 1) (Value.int .u64 ((op ||| 2 ^ k : Nat) : Int)).cells.toList = .pointer (some c) :: .int .u64 ((op ||| 2 ^ k : Nat) : Int) :: pl := rfl
  simp only [e4] at e3
  have hbb : ∀ a b o, ((h.bump a).set s o).bump b = (h.bump (a + b)).set s o := fun a b o => by
    rw [AHeap.set_bump _ (by simp; omega), AHeap.bump_bump]
  have e5 := fun a => stV_of (n := 1) (o := 0 + 2 + k * 1) (v := .int .u64 0) (h := (h.bump a).set s (.cells ⟨.pointer (some c) :: .int .u64 ((op ||| 2 ^ k : Nat) : Int) :: pl, none, true, true⟩)) (b := s) (AHeap.get_set_same (by simp; omega)) rfl rfl (by simp; omega) rfl (by omega)
  simp (implicitDefEqProofs := false) only [binC_eql, c1, rdK_some, condK_false, AHeap.bump_bump, nilV_ptr, opK_some, fAddr_of, hld, e1, e2, e3, stK_some, hbb, ixR_of hk, e5, AHeap.set_set]
  refine hK _ ⟨(putL pl k [.int .u64 0]), ?_, ?_⟩ ?_
  · simp [putL]; omega
  · rw [AHeap.get_set_same (by simp; omega)]
    congr 2
    simp only [show 0 + 2 + k * 1 = k + 1 + 1 by omega]
    rfl
  · exact ((Kp.refl s h).bump _).set _

theorem open_full {K : Value → AHeap → Prop} {h : AHeap} {s op : Nat} {c : Addr} (hc : Cur h s c op) (ho : op < 2 ^ 64) (hs : ∀ j, j < 64 → op.testBit j = true)
    (hK : ∀ h', Cur h' s c op → Kp s h h' → K (.tuple #[.int .i64 0, .int .i64 7]) h') : callA P (.call 21 [.pointer (some ⟨s, 0, none⟩)]) K h := by
  have hc0 := hc
  obtain ⟨pl, hpl, hg⟩ := hc
  refine callA_step ?_
  rw [f21_eq]
  have hld : ∀ k, ld1 (.pointer (some ⟨s, 0 + 1, none⟩)) (h.bump k) = some (.int .u64 op) := fun k => ld1_of (B := ⟨_, _, _, _⟩) (by rw [AHeap.get_bump]; exact hg) rfl
  simp (implicitDefEqProofs := false) only [f21, AHeap.bump_bump]
  refine none_call (hc0.bump _) ?_
  simp (implicitDefEqProofs := false) only [condK_false, AHeap.bump_bump, nilV_ptr, opK_some, fAddr_of, rdK_some, hld]
  refine free_call (k := 64) ho (by omega) hs (Nat.testBit_lt_two_pow ho) fun m => ?_
  have c1 : decide (((64 : Nat) : Int) = 64) = true := by simp
  simp (implicitDefEqProofs := false) only [binC_eql, c1, rdK_some, condK_true, AHeap.bump_bump]
  exact hK _ (hc0.bump _) ((Kp.refl s h).bump _)

theorem check_call {K : Value → AHeap → Prop} {h : AHeap} {s op k : Nat} {c : Addr} (hc : Cur h s c op) (ho : op < 2 ^ 64) (hk : k < 2 ^ 60)
    (hK : ∀ m, K (.int .i64 (if op.testBit k then 0 else 9)) (h.bump m)) : callA P (.call 22 [.pointer (some ⟨s, 0, none⟩), .int .i64 k]) K h := by
  have hc0 := hc
  obtain ⟨pl, hpl, hg⟩ := hc
  refine callA_step ?_
  rw [f22_eq]
  have hld : ∀ k, ld1 (.pointer (some ⟨s, 0 + 1, none⟩)) (h.bump k) = some (.int .u64 op) := fun k => ld1_of (B := ⟨_, _, _, _⟩) (by rw [AHeap.get_bump]; exact hg) rfl
  simp (implicitDefEqProofs := false) only [f22, AHeap.bump_bump]
  refine none_call (hc0.bump _) ?_
  simp (implicitDefEqProofs := false) only [condK_false, AHeap.bump_bump, nilV_ptr, opK_some, fAddr_of, rdK_some, hld]
  refine has_call ho hk ?_
  cases hb : op.testBit k
  · simp only [unV_not, rdK_some, Bool.not_false, condK_true, AHeap.bump_bump]
    have := hK
    rw [hb] at this
    exact this _
  · simp only [unV_not, rdK_some, Bool.not_true, condK_false, AHeap.bump_bump]
    have := hK
    rw [hb] at this
    exact this _

theorem close_call {K : Value → AHeap → Prop} {h : AHeap} {s op k : Nat} {c : Addr} (hc : Cur h s c op) (ho : op < 2 ^ 64) (hk : k < 64) (hb : op.testBit k = true)
    (hK : ∀ h', Cur h' s c (andNotN 64 op (2 ^ k)) → Kp s h h' → K (.int .i64 0) h') : callA P (.call 8 [.pointer (some ⟨s, 0, none⟩), .int .i64 k]) K h := by
  have hc0 := hc
  obtain ⟨pl, hpl, hg⟩ := hc
  refine callA_step ?_
  rw [f8_eq]
  have hld : ∀ k, ld1 (.pointer (some ⟨s, 0 + 1, none⟩)) (h.bump k) = some (.int .u64 op) := fun k => ld1_of (B := ⟨_, _, _, _⟩) (by rw [AHeap.get_bump]; exact hg) rfl
  simp (implicitDefEqProofs := false) only [f8, AHeap.bump_bump]
  refine check_call (hc0.bump _) ho (by omega) fun m => ?_
  rw [hb]
  have c1 : decide ((0 : Int) = 0) = true := rfl
  have e1 := binD_shl (P := P) 56 3 .u64 .i64 1 k (by omega)
  rw [one_shl (k := .u64) rfl (by simpa [IntKind.bits] using hk)] at e1
  have e2 := binV_andNot (P := P) 56 56 .u64 op (2 ^ k : Nat)
  have hp : (2 ^ k) < 2 ^ 64 := Nat.pow_lt_pow_right (by omega) hk
  rw [andNot_word (k := .u64) rfl (by simpa [IntKind.bits] using ho) (by simpa [IntKind.bits] using hp)] at e2
  have e3 := fun k' => stV_of (n := 1) (o := 0 + 1) (v := .int .u64 ((andNotN 64 op (2 ^ k) : Nat) : Int)) (h := h.bump k') (b := s) (B := ⟨.pointer (some c) :: .int .u64 op :: pl, none, true, true⟩) (by rw [AHeap.get_bump]; exact hg) rfl rfl (by simp) rfl (by omega)
  have hsn := AHeap.lt_of_get hg
  have e4 : putL (.pointer (some c) :: .int .u64 op :: pl) (0 + 1) (Value.int .u64 ((andNotN 64 op (2 ^ k) : Nat) : Int)).cells.toList = .pointer (some c) :: .int .u64 ((andNotN 64 op (2 ^ k) : Nat) : Int) :: pl := rfl
  simp only [e4] at e3
  have hbb : ∀ a b o, ((h.bump a).set s o).bump b = (h.bump (a + b)).set s o := fun a b o => by
    rw [AHeap.set_bump _ (by simp; omega), AHeap.bump_bump]
  simp (implicitDefEqProofs := false) only [if_true, binC_neq, c1, Bool.not_true, rdK_some, condK_false, AHeap.bump_bump, nilV_ptr, opK_some, fAddr_of, hld, e1, e2, IntKind.bits, e3, stK_some, hbb]
  exact hK _ ⟨pl, hpl, AHeap.get_set_same (by simp; omega)⟩ (((Kp.refl s h).bump _).set _)

theorem close_none {K : Value → AHeap → Prop} {h : AHeap} {s op k : Nat} {c : Addr} (hc : Cur h s c op) (ho : op < 2 ^ 64) (hk : k < 64) (hb : op.testBit k = false)
    (hK : ∀ h', Cur h' s c op → Kp s h h' → K (.int .i64 9) h') : callA P (.call 8 [.pointer (some ⟨s, 0, none⟩), .int .i64 k]) K h := by
  have hc0 := hc
  refine callA_step ?_
  rw [f8_eq]
  simp (implicitDefEqProofs := false) only [f8, AHeap.bump_bump]
  refine check_call (hc0.bump _) ho (by omega) fun m => ?_
  rw [hb]
  have c1 : decide ((9 : Int) = 0) = false := rfl
  simp (implicitDefEqProofs := false) only [show (if false = true then (0:Int) else 9) = 9 from rfl, binC_neq, c1, Bool.not_false, rdK_some, condK_true, AHeap.bump_bump]
  exact hK _ (hc0.bump _) ((Kp.refl s h).bump _)

theorem opens_call {K : Value → AHeap → Prop} {h : AHeap} {s op k : Nat} {c : Addr} (hc : Cur h s c op) (ho : op < 2 ^ 64) (hk : k < 64) (hs : ∀ j, j < k → op.testBit j = true) (hn : op.testBit k = false)
    (hK : ∀ h', Cur h' s c (op ||| 2 ^ k) → Kp s h h' → K (.bool true) h') : callA P (.call 7 [.pointer (some ⟨s, 0, none⟩), .int .i64 k, .int .i64 0]) K h := by
  refine callA_step ?_
  rw [f7_eq]
  simp (implicitDefEqProofs := false) only [f7, AHeap.bump_bump]
  refine open_call (hc.bump _) ho hk hs hn fun h' hc' hkp => ?_
  have x0 : ∀ h, extV 0 (.tuple #[.int .i64 k, .int .i64 0]) h = some (.int .i64 k, h) := fun _ => rfl
  have x1 : ∀ h, extV 1 (.tuple #[.int .i64 k, .int .i64 0]) h = some (.int .i64 0, h) := fun _ => rfl
  simp (implicitDefEqProofs := false) only [x0, x1, opK_some, binV_eql, rdK_some, decide_true, wantV_bool, beq_self_eq_true, gopK_true, Option.map_some, pickV_true]
  exact hK _ (hc'.bump _) (hkp.unbump.bump _)

theorem opens_full {K : Value → AHeap → Prop} {h : AHeap} {s op : Nat} {c : Addr} (hc : Cur h s c op) (ho : op < 2 ^ 64) (hs : ∀ j, j < 64 → op.testBit j = true)
    (hK : ∀ h', Cur h' s c op → Kp s h h' → K (.bool true) h') : callA P (.call 7 [.pointer (some ⟨s, 0, none⟩), .int .i64 0, .int .i64 7]) K h := by
  refine callA_step ?_
  rw [f7_eq]
  simp (implicitDefEqProofs := false) only [f7, AHeap.bump_bump]
  refine open_full (hc.bump _) ho hs fun h' hc' hkp => ?_
  have x0 : ∀ h, extV 0 (.tuple #[.int .i64 0, .int .i64 7]) h = some (.int .i64 0, h) := fun _ => rfl
  have x1 : ∀ h, extV 1 (.tuple #[.int .i64 0, .int .i64 7]) h = some (.int .i64 7, h) := fun _ => rfl
  simp (implicitDefEqProofs := false) only [x0, x1, opK_some, binV_eql, rdK_some, decide_true, wantV_bool, beq_self_eq_true, gopK_true, Option.map_some, pickV_true]
  exact hK _ (hc'.bump _) (hkp.unbump.bump _)
end Go.Proofs.YtcoofhpdkgkjcaaGreatDoor.F
