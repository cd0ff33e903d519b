/- CursorFull returns true. -/
import Derived.Test.YtcoofhpdkgkjcaaGreatDoorMain
namespace Go.Proofs.YtcoofhpdkgkjcaaGreatDoor.F
set_option linter.unusedVariables false
set_option linter.unusedSimpArgs false
open Go Go.Cub
def gk : Nat → Bool := fun g => Nat.ble (g + 1) 1
theorem gk_lt (g : Nat) (h : gk g = true) : g < 1 := Nat.le_of_ble_eq_true h
theorem gvars_atoms (i : Nat) (cs : List Value) (h : lookG gvars i = some cs) : cs.all isAtom = true := by
  have e : lookG gvars i = if i = 0 then some (deBs.map fun z => .int .u8 z) else none := by
    cases i with
    | zero => rfl
    | succ n => rfl
  rw [e] at h
  split at h
  · cases h; rfl
  · cases h
theorem known_any (hP : ProgOk P gk) {K : Value → AHeap → Prop} {H : AHeap} (hg : Glb H) (hK : K (.bool true) H) : Conc P gk (.call 4 []) K H := by
  refine conc_frame gk_lt gvars_atoms (call_sound hP _ _ _ known_call) rfl (fun v h e => ?_) (fun i cs hi hl => ?_)
  · subst e; exact ⟨rfl, hK⟩
  · obtain rfl : i = 0 := by omega
    have : lookG gvars 0 = some (deBs.map fun z => .int .u8 z) := rfl
    rw [this] at hl; cases hl
    exact hg

theorem conv5_3 (n : Nat) (hn : n < 256) (id : Nat) (h : AHeap) : convertA P 5 3 (.int .u8 n) id h = some (.int .i64 n, h) := by
  rw [convertA_int u5 u3, wrap_i64_of_lt (by omega)]

theorem Glb.kp {h h' : AHeap} {s : Nat} (hg : Glb h) (hs : 1 ≤ s) (k : Kp s h h') : Glb h' := by
  unfold Glb
  rw [k.2 0 (by omega) (AHeap.lt_of_get hg)]; exact hg

/-- So many are open, the first ones. -/
structure Opn (h : AHeap) (s : Nat) (c : Addr) (n : Nat) (op : Nat) : Prop where
  cur : Cur h s c op
  lt : op < 2 ^ 64
  bits : ∀ j, op.testBit j = decide (j < n)

theorem Opn.step {h h' : AHeap} {s : Nat} {c : Addr} {n op : Nat} (o : Opn h s c n op) (hn : n < 64) (hc : Cur h' s c (op ||| 2 ^ n)) : Opn h' s c (n + 1) (op ||| 2 ^ n) := by
  have hp : (2 ^ n) < 2 ^ 64 := Nat.pow_lt_pow_right (by omega) hn
  refine ⟨hc, Nat.or_lt_two_pow o.lt hp, fun j => ?_⟩
  rw [Nat.testBit_or, o.bits, Nat.testBit_two_pow]
  by_cases h1 : j < n
  · simp [h1]; omega
  · by_cases h2 : n = j
    · simp [h2]
    · simp [h1, h2]; omega

theorem leave3 {X : Caller} {K : Value → AHeap → Prop} {h : AHeap} {a : AAct} {e : Nat → Value} (hd : a.defers = []) : leaveA P X Tryz.f3 ⟨e, a.defers⟩ K a.defers h = K (e 4) h := by
  rw [hd]; rfl

theorem cnt_bits (op m k : Nat) (hk : k < m) (hb : ∀ j, op.testBit j = (decide (j < m) && !decide (k = j))) : ∀ n, cnt op n + (if k < n then 1 else 0) = min n m := by
  intro n
  induction n with
  | zero => simp [cnt]
  | succ n ih =>
    simp only [cnt, hb n]
    by_cases h1 : n < m
    · by_cases h2 : k = n
      · subst h2
        simp [h1] at ih ⊢
        omega
      · by_cases h3 : k < n
        · simp [h1, h2, h3, show k < n + 1 by omega] at ih ⊢; omega
        · simp [h1, h2, h3, show ¬ k < n + 1 by omega] at ih ⊢; omega
    · by_cases h3 : k < n
      · simp [h1, h3, show k < n + 1 by omega] at ih ⊢; omega
      · omega

set_option maxRecDepth 100000 in
theorem end_run (hP : ProgOk P gk) {K : Value → AHeap → Prop} {h : AHeap} {a : AAct} {s : Nat} {c : Addr} {a0 a1 op : Nat} (h0 : a0 < 256) (h1 : a1 < 256) (hm : 60 ≤ a0) (ho : Opn h s c (min a0 64) op) (hs : 1 ≤ s) (hg : Glb h)
    (e0 : a.env 0 = .int .u8 a0) (e1 : a.env 1 = .int .u8 a1) (e6 : a.env 6 = .pointer (some ⟨s, 0, none⟩)) (hd : a.defers = []) (hK : ∀ h', K (.bool true) h') : f3_j8 (Conc P gk) loopA K h a := by
  have hmin : (if ((64 : Nat) : Int) < (a0 : Int) then ((64 : Nat) : Int) else (a0 : Int)) = ((min a0 64 : Nat) : Int) := by split <;> omega
  have hm64 : 60 ≤ min a0 64 := by omega
  have hk : a1 % min a0 64 < min a0 64 := Nat.mod_lt _ (by omega)
  generalize hkd : a1 % min a0 64 = k at hk
  have hmn : min a0 64 ≤ 64 := by omega
  have hmi : ∀ id h, builtinV P .min [3, 3] [.int .i64 (a0 : Int), .int .i64 64] id h = some (.int .i64 ((min a0 64 : Nat) : Int), h) := fun id h => by
    rw [min_int]; congr 3
  have hrem : ∀ h, binV P .rem 3 3 (.int .i64 (a1 : Int)) (.int .i64 ((min a0 64 : Nat) : Int)) h = some (.int .i64 (k : Int)) := fun h => by
    rw [binV_rem_nat _ _ (by omega), hkd]
  simp (implicitDefEqProofs := false) only [f3_j8, regK, e0, e1, e6, conv5_3 _ h0, conv5_3 _ h1, opK_some, hmi, hrem, rdK_some]
  have hbk : op.testBit k = true := by rw [ho.bits]; simpa using hk
  have ho1 : Cur ((h.bump 7).bump 20) s c op := (ho.cur.bump 7).bump 20
  refine call_sound hP _ _ _ (close_call ho1 ho.lt (by omega) hbk fun h2 hc2 hk2 => ?_)
  have hp : (2 ^ k) < 2 ^ 64 := Nat.pow_lt_pow_right (by omega) (by omega)
  have hb2 : ∀ j, (andNotN 64 op (2 ^ k)).testBit j = (decide (j < min a0 64) && !decide (k = j)) := fun j => by
    rw [testBit_andNotN ho.lt hp, ho.bits, Nat.testBit_two_pow]
  have hl2 : andNotN 64 op (2 ^ k) < 2 ^ 64 := Nat.lt_of_le_of_lt Nat.and_le_left ho.lt
  generalize andNotN 64 op (2 ^ k) = op2 at hc2 hb2 hl2
  have z1 : decide ((0 : Int) = 0) = true := rfl
  simp (implicitDefEqProofs := false) only [binC_neq, decide_true, Bool.not_true, rdK_some, wantV_bool, beq_self_eq_true, gopK_true, opK_some, gcallK_true]
  refine call_sound hP _ _ _ (close_none hc2 hl2 (by omega) (by rw [hb2]; simp) fun h3 hc3 hk3 => ?_)
  have z2 : decide ((9 : Int) = 9) = true := rfl
  simp (implicitDefEqProofs := false) only [binC_neq, decide_true, Bool.not_true, Option.map_some, pickV_false, wantV_bool, beq_self_eq_true, gopK_true, opK_some, gcallK_true]
  refine call_sound hP _ _ _ (opened_call hc3 hl2 fun a' n' h4 hc4 hk4 => ?_)
  have hcnt : cnt op2 64 = min a0 64 - 1 := by
    have := cnt_bits op2 (min a0 64) k hk hb2 64
    simp [show k < 64 by omega] at this; omega
  have hln : ∀ id h, builtinV P .len [34] [.slice a' (cnt op2 64) n'] id h = some (.int .i64 (cnt op2 64 : Nat), h) := fun id h => len_slice (e := 3) (by kernel_rfl) _ _ _ _ _
  have hsub : ∀ h, binC P .sub 3 3 (.int .i64 ((min a0 64 : Nat) : Int)) (.int .i64 1) h = some (.int .i64 ((min a0 64 - 1 : Nat) : Int)) := fun h => by
    rw [binC_sub, show ((min a0 64 : Nat) : Int) - 1 = ((min a0 64 - 1 : Nat) : Int) by omega, wrap_i64_of_lt (by omega)]
  have hne : ∀ h, binV P .neq 3 3 (.int .i64 (cnt op2 64 : Nat)) (.int .i64 ((min a0 64 - 1 : Nat) : Int)) h = some (.bool false) := fun h => by
    rw [binV_neq, hcnt]; simp
  simp (implicitDefEqProofs := false) only [hln, conv5_3 _ h0, hmi, hsub, hne, Option.map_some, opK_some, pickV_false, condK_false]
  refine call_sound hP _ _ _ (opens_call (k := k) (hc4.bump 7) hl2 (by omega) (fun j hj => by rw [hb2]; simp; omega) (by rw [hb2]; simp) fun h5 hc5 hk5 => ?_)
  simp (implicitDefEqProofs := false) only [wantV_bool, beq_self_eq_true, gcallK_true]
  have hgl : Glb h5 := ((((Glb.kp (h' := h2) (s := s) (h := (h.bump 7).bump 20) hg hs hk2).kp hs hk3).kp hs hk4).kp (h := h4) (h' := h4.bump 7) hs ((Kp.refl s h4).bump 7)).kp hs hk5
  refine known_any hP hgl ?_
  simp (implicitDefEqProofs := false) only [pickV_true, opK_some, leave3 hd]
  exact hK _

set_option maxRecDepth 100000 in
theorem loop_run (hP : ProgOk P gk) {K : Value → AHeap → Prop} {s : Nat} {c : Addr} {a0 a1 : Nat} (h0 : a0 < 256) (h1 : a1 < 256) (hm : 60 ≤ a0) (hs : 1 ≤ s) (hK : ∀ h', K (.bool true) h') :
    ∀ d i op h (a : AAct), i + d = a0 → Opn h s c (min i 64) op → Glb h → a.env 0 = .int .u8 a0 → a.env 1 = .int .u8 a1 → a.env 6 = .pointer (some ⟨s, 0, none⟩) → a.env 7 = .int .i64 i → a.defers = [] →
      loopA (f3_l10 (Conc P gk) loopA) a (blkX 0 (seqX (fun a h => f3_j8 (Conc P gk) loopA K h a) (finX P (Conc P gk) Tryz.f3 K))) h := by
  intro d i op h a hd ho hg e0 e1 e6 e7 hdf Y hY
  induction d generalizing i op h a with
  | zero =>
    obtain rfl : i = a0 := by omega
    refine hY _ _ ?_
    have z : decide ((i : Int) < i) = false := by simp
    simp (implicitDefEqProofs := false) only [f3_l10, regK, e0, e7, conv5_3 _ h0, opK_some, binV_lss, z, rdK_some, condK_false]
    show f3_j8 (Conc P gk) loopA K _ _
    exact end_run hP h0 h1 hm ⟨ho.cur.bump 4, ho.lt, ho.bits⟩ hs hg e0 e1 e6 hdf hK
  | succ d ih =>
    refine hY _ _ ?_
    have z : decide ((i : Int) < a0) = true := by simp; omega
    have ei : IntKind.i64.wrap ((i : Int) + 1) = ((i + 1 : Nat) : Int) := by
      have := @wrap_i64_of_lt (i + 1) (by omega)
      simpa using this
    simp (implicitDefEqProofs := false) only [f3_l10, regK, e0, e7, conv5_3 _ h0, opK_some, binV_lss, z, rdK_some, condK_true, binC_geq]
    by_cases hi : i < 64
    · have z2 : decide ((64 : Int) ≤ i) = false := by simp; omega
      simp (implicitDefEqProofs := false) only [z2, condK_false, f3_j15]
      rw [Nat.min_eq_left (by omega)] at ho
      show Conc P gk (.call 7 [a.env 6, .int .i64 i, .int .i64 0]) _ _
      rw [e6]
      refine call_sound hP _ _ _ (opens_call (h := ((((h.bump 4).bump 3).bump 2).bump 5)) ((((ho.cur.bump 4).bump 3).bump 2).bump 5) ho.lt hi (fun j hj => by rw [ho.bits]; simpa using hj) (by rw [ho.bits]; simp) fun h2 hc2 hk2 => ?_)
      simp (implicitDefEqProofs := false) only [unV_not, rdK_some, Bool.not_true, condK_false]
      show rdK (binC P .add 3 3 (a.env 7) (.int .i64 1) (h2.bump 3)) (h2.bump 3) _
      rw [e7, binC_add, ei, rdK_some]
      have ho2 := ho.step hi hc2
      exact ih (i + 1) _ (h2.bump 3) _ (by omega) (by rw [Nat.min_eq_left (by omega)]; exact ⟨ho2.cur.bump 3, ho2.lt, ho2.bits⟩) (hg.kp (h := (((h.bump 4).bump 3).bump 2).bump 5) hs (hk2.bump 3)) e0 e1 e6 rfl hdf
    · have z2 : decide ((64 : Int) ≤ i) = true := by simp; omega
      simp (implicitDefEqProofs := false) only [z2, condK_true, f3_j15]
      rw [show min i 64 = 64 by omega] at ho
      show Conc P gk (.call 7 [a.env 6, .int .i64 0, .int .i64 7]) _ _
      rw [e6]
      refine call_sound hP _ _ _ (opens_full (h := (((((h.bump 4).bump 3).bump 2).bump 2).bump 5)) (((((ho.cur.bump 4).bump 3).bump 2).bump 2).bump 5) ho.lt (fun j hj => by rw [ho.bits]; simpa using hj) fun h2 hc2 hk2 => ?_)
      simp (implicitDefEqProofs := false) only [unV_not, rdK_some, Bool.not_true, condK_false]
      show rdK (binC P .add 3 3 (a.env 7) (.int .i64 1) (h2.bump 3)) (h2.bump 3) _
      rw [e7, binC_add, ei, rdK_some]
      exact ih (i + 1) _ (h2.bump 3) _ (by omega) (by rw [show min (i + 1) 64 = 64 by omega]; exact ⟨hc2.bump 3, ho.lt, ho.bits⟩) (hg.kp (h := ((((h.bump 4).bump 3).bump 2).bump 2).bump 5) hs (hk2.bump 3)) e0 e1 e6 rfl hdf

set_option maxRecDepth 100000 in
theorem law (hP : ProgOk P gk) (a0 a1 : Nat) (h0 : a0 < 256) (h1 : a1 < 256) : Conc P gk (.call 3 [.int .u8 a0, .int .u8 a1]) (fun v _ => v = .bool true) (layG gvars 1) := by
  have hG0 : Glb (layG gvars 1) := by unfold Glb; rw [layG_get]; rfl
  refine job_sound hP _ _ _ ?_
  rw [f3_eq]
  have out : ∀ H, Glb H → Conc P gk (.call 4 []) (fun t17 h => t17 = .bool true) H := fun H hg => known_any hP hg rfl
  by_cases c1 : a0 < 60
  · have d1 : decide ((a0 : Int) < 60) = true := by simp; omega
    simp (implicitDefEqProofs := false) only [f3, binC_lss, d1, rdK_some, wantV_bool, show (true == false) = false from rfl, gopK_false, pickV_true, opK_some, condK_true]
    exact out _ hG0
  by_cases c2 : 70 < a0
  · have d1 : decide ((a0 : Int) < 60) = false := by simp; omega
    have d2 : decide ((70 : Int) < a0) = true := by simp; omega
    simp (implicitDefEqProofs := false) only [f3, binC_lss, d1, rdK_some, wantV_bool, beq_self_eq_true, gopK_true, binC_gtr, d2, Option.map_some, pickV_false, opK_some, condK_true]
    exact out _ hG0
  have d1 : decide ((a0 : Int) < 60) = false := by simp; omega
  have d2 : decide ((70 : Int) < a0) = false := by simp; omega
  simp (implicitDefEqProofs := false) only [f3, binC_lss, d1, rdK_some, wantV_bool, beq_self_eq_true, gopK_true, binC_gtr, d2, Option.map_some, pickV_false, opK_some, condK_false]
  refine Conc.mono gk _ _ _ _ (fun v h hv => ?_) (call_sound hP _ _ _ made_call)
  refine Conc.mono gk _ _ _ _ (fun v h hv => ?_) (call_sound hP _ _ _ hv)
  obtain ⟨c', s, c, rfl, hcur, hs1, hgl⟩ := chk_ok hv
  have x0 : ∀ h, extV 0 (.tuple #[.pointer (some c'), .pointer (some ⟨s, 0, none⟩)]) h = some (.pointer (some c'), h) := fun _ => rfl
  have x1 : ∀ h, extV 1 (.tuple #[.pointer (some c'), .pointer (some ⟨s, 0, none⟩)]) h = some (.pointer (some ⟨s, 0, none⟩), h) := fun _ => rfl
  simp (implicitDefEqProofs := false) only [x0, x1, opK_some, binC_eql_ptr u24, rdK_some, condK_false]
  exact loop_run hP h0 h1 (by omega) hs1 (fun _ => rfl) a0 0 0 _ _ (by omega) ⟨(hcur.bump 2).bump 1 |>.bump 1, by decide, fun j => by simp⟩ hgl rfl rfl rfl rfl rfl
end Go.Proofs.YtcoofhpdkgkjcaaGreatDoor.F
