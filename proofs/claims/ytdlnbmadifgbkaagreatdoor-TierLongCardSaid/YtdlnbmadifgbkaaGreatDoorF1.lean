/- The functions of the program, as shallow texts (printed by a program of this place). -/
import Derived.Test.YtdlnbmadifgbkaaGreatDoorFW
namespace Go.Proofs.YtdlnbmadifgbkaaGreatDoor.F
set_option linter.unusedVariables false
set_option linter.unusedSimpArgs false
open Go Go.Cub
/-- cubbyhole/entrylog.New -/
def f83 (X : Caller) (L : Looper) (K : Value → AHeap → Prop) (h : AHeap) : Prop :=
 regK 3 ((h.bump 1)) fun b h =>
 rdK (buildA P 228 [(0, (.bool true))]) h fun t1 h =>
 opK (boxV t1 (b + 1) h) fun t2 h =>
 K t2 h
theorem f83_eq (X : Caller) (L : Looper) (K : Value → AHeap → Prop) (h : AHeap) : aJob P X L (.call 83 []) K h = f83 X L K h  := by kernel_rfl
def f84_l4 (X : Caller) (L : Looper) (a : AAct) (K : ActPost) (h : AHeap) : Prop :=
 rdK ((fun h : AHeap => binC P .lss 3 3 (a.env 10) (.int .i64 8) h) ((h.bump 1))) ((h.bump 1)) fun t11 h =>
 condK t11
 (opK ((fun h : AHeap => nilV (a.env 3) h) (((h.bump 2).bump 7))) fun t16 h =>
 rdK (fAddr 1 t16) h fun t17 h =>
 X (.call 133 []) (fun t15 h =>
 rdK (ixR 8 1 t17 (a.env 10)) h fun t18 h =>
 stK (stV 1 t18 t15 h) fun h =>
 rdK ((fun h : AHeap => binC P .add 3 3 (a.env 10) (.int .i64 1) h) ((h.bump 2))) ((h.bump 2)) fun t19 h =>
 K .normal ⟨(upds a.env [(11, t11), (12, (a.env 10)), (4, (a.env 10)), (13, (a.env 3)), (14, (a.env 10)), (16, t16), (17, t17), (15, t15), (18, t18), (19, t19), (10, t19)]), a.defers⟩ h) h)
 (K (.exit 0) ⟨(upds a.env [(11, t11)]), a.defers⟩ h)
def f84_j2 (X : Caller) (L : Looper) (K : Value → AHeap → Prop) (h : AHeap) (a : AAct) : Prop :=
 leaveA P X Tryz.f84 ⟨(upds a.env [(20, (a.env 3)), (2, (a.env 3))]), a.defers⟩ K a.defers ((h.bump 2))
/-- cubbyhole/cascade.New -/
def f84 (X : Caller) (L : Looper) (K : Value → AHeap → Prop) (h : AHeap) (t0 : Value) : Prop :=
 regK 6 ((h.bump 1)) fun b h =>
 opK (mapV (b + 1) h) fun t6 h =>
 opK (mapV (b + 2) h) fun t7 h =>
 rdK (buildA P 233 [(0, t0), (2, t6), (3, t7)]) h fun t8 h =>
 opK (boxV t8 (b + 4) h) fun t9 h =>
 L (f84_l4 X L) ⟨(upds (argsEnv [t0]) [(2, (.pointer none)), (5, t0), (6, t6), (7, t7), (8, t8), (9, t9), (3, t9), (10, (.int .i64 0))]), []⟩ (blkX 0 (seqX (fun a h => f84_j2 X L K h a) (finX P X Tryz.f84 K))) ((h.bump 1))
theorem f84_eq (X : Caller) (L : Looper) (K : Value → AHeap → Prop) (h : AHeap) (t0 : Value) : aJob P X L (.call 84 [t0]) K h = f84 X L K h t0 := by kernel_rfl
/-- (*cubbyhole/due.Deadlines).check -/
def f85 (X : Caller) (L : Looper) (K : Value → AHeap → Prop) (h : AHeap) (t0 t1 : Value) : Prop :=
 rdK ((fun h : AHeap => binC P .eql 87 87 t0 (.pointer none) h) (((h.bump 1).bump 10))) (((h.bump 1).bump 10)) fun t7 h =>
 gopK (wantV t7 false) h (some (t0, h)) fun t9 h =>
 gopK (wantV t7 false) h (nilV t9 h) fun t10 h =>
 gopK (wantV t7 false) h ((fAddr 0 t10).map (·, h)) fun t11 h =>
 gopK (wantV t7 false) h ((ld1 t11 h).map (·, h)) fun t12 h =>
 gopK (wantV t7 false) h ((binC P .eql 159 159 t12 (.pointer none) h).map (·, h)) fun t13 h =>
 opK (pickV t7 (.bool true) t13 h) fun t14 h =>
 condK t14
 (K (.int .i64 1) ((h.bump 1)))
 (rdK ((fun h : AHeap => binC P .geq 81 81 t1 (.int .u32 4194304) h) ((h.bump 3))) ((h.bump 3)) fun t17 h =>
  condK t17
  (K (.int .i64 2) ((h.bump 1)))
  (K (.int .i64 0) ((h.bump 1))))
theorem f85_eq (X : Caller) (L : Looper) (K : Value → AHeap → Prop) (h : AHeap) (t0 t1 : Value) : aJob P X L (.call 85 [t0, t1]) K h = f85 X L K h t0 t1 := by kernel_rfl
/-- (*cubbyhole/cascade.Cascade).Now -/
def f86 (X : Caller) (L : Looper) (K : Value → AHeap → Prop) (h : AHeap) (t0 : Value) : Prop :=
 X (.call 134 [t0, (.int .u32 0)]) (fun t4 h =>
 rdK (binC P .neq 24 24 t4 (.int .i64 0) h) h fun t5 h =>
 condK t5
 (K (.int .u64 0) ((h.bump 1)))
 (opK ((fun h : AHeap => nilV t0 h) ((h.bump 5))) fun t7 h =>
 rdK (fAddr 0 t7) h fun t8 h =>
 rdK (ld1 t8 h) h fun t9 h =>
 K t9 h)) (((h.bump 1).bump 3))
theorem f86_eq (X : Caller) (L : Looper) (K : Value → AHeap → Prop) (h : AHeap) (t0 : Value) : aJob P X L (.call 86 [t0]) K h = f86 X L K h t0 := by kernel_rfl
def f87_l7 (X : Caller) (L : Looper) (a : AAct) (K : ActPost) (h : AHeap) : Prop :=
 rdK ((fun h : AHeap => binV P .lss 3 3 (a.env 29) (a.env 28) h) ((h.bump 1))) ((h.bump 1)) fun t30 h =>
 condK t30
 (regK 4 h fun b_1 h =>
 rdK (ixS 3 (a.env 27) (a.env 29)) h fun t31 h =>
 rdK (ldN 3 t31 h) h fun t32 h =>
 opK (newV [.int .u32 0, .int .u64 0, .int .u64 0] (b_1 + 2) h) fun t8 h =>
 stK (stV 3 t8 t32 h) fun h =>
 rdK ((fun h : AHeap => ldN 3 t8 h) ((h.bump 3))) ((h.bump 3)) fun t34 h =>
 X (.call 112 [(a.env 0), t34]) (fun t35 h =>
 rdK ((fun h : AHeap => binC P .add 3 3 (a.env 29) (.int .i64 1) h) ((h.bump 2))) ((h.bump 2)) fun t36 h =>
 K .normal ⟨(upds a.env [(30, t30), (31, t31), (32, t32), (8, t8), (33, (a.env 0)), (34, t34), (35, t35), (36, t36), (29, t36)]), a.defers⟩ h) h)
 (K (.exit 0) ⟨(upds a.env [(30, t30)]), a.defers⟩ h)
def f87_j5 (X : Caller) (L : Looper) (K : Value → AHeap → Prop) (h : AHeap) (a : AAct) : Prop :=
 leaveA P X Tryz.f87 ⟨(upds a.env [(37, (a.env 5)), (4, (a.env 5))]), a.defers⟩ K a.defers ((h.bump 2))
/-- (*cubbyhole/due.Deadlines).Expire -/
def f87 (X : Caller) (L : Looper) (K : Value → AHeap → Prop) (h : AHeap) (t0 t1 : Value) : Prop :=
 X (.call 85 [t0, (.int .u32 0)]) (fun t10 h =>
 rdK (binC P .neq 24 24 t10 (.int .i64 0) h) h fun t11 h =>
 condK t11
 (K (.slice none 0 0) ((h.bump 1)))
 (opK ((fun h : AHeap => nilV t0 h) ((h.bump 17))) fun t14 h =>
 rdK (fAddr 0 t14) h fun t15 h =>
 rdK (ld1 t15 h) h fun t16 h =>
 opK (nilV t0 h) fun t18 h =>
 rdK (fAddr 0 t18) h fun t19 h =>
 rdK (ld1 t19 h) h fun t20 h =>
 X (.call 86 [t20]) (fun t21 h =>
 chkK (chkR ((ld1 t15 h).map (·, h)) t16 true) <|
 X (.call 26 [t21, t1]) (fun t23 h =>
 chkK (chkR ((ld1 t15 h).map (·, h)) t16 true) <|
 X (.call 135 [t16, t23]) (fun t24 h =>
 opK (extV 0 t24 h) fun t25 h =>
 opK (extV 1 t24 h) fun t26 h =>
 regK 3 h fun b h =>
 opK (builtinV P .len [171] [t25] (b + 1) h) fun t28 h =>
 L (f87_l7 X L) ⟨(upds (argsEnv [t0, t1]) [(4, (.slice none 0 0)), (9, t0), (10, t10), (11, t11), (13, t0), (14, t14), (15, t15), (16, t16), (17, t0), (18, t18), (19, t19), (20, t20), (22, t1), (21, t21), (23, t23), (24, t24), (12, t24), (25, t25), (26, t26), (5, t25), (6, t26), (27, t25), (28, t28), (29, (.int .i64 0))]), []⟩ (blkX 0 (seqX (fun a h => f87_j5 X L K h a) (finX P X Tryz.f87 K))) h) h) h) h)) (((h.bump 1).bump 3))
theorem f87_eq (X : Caller) (L : Looper) (K : Value → AHeap → Prop) (h : AHeap) (t0 t1 : Value) : aJob P X L (.call 87 [t0, t1]) K h = f87 X L K h t0 t1 := by kernel_rfl
/-- (*cubbyhole/budget.Budget).Over -/
def f88 (X : Caller) (L : Looper) (K : Value → AHeap → Prop) (h : AHeap) (t0 : Value) : Prop :=
 X (.call 136 [t0]) (fun t6 h =>
 condK t6
 (K (.tuple #[(.int .i64 0), (.int .i64 0)]) h)
 (regK 27 h fun b h =>
 opK (nilV t0 h) fun t8 h =>
 rdK (fAddr 2 t8) h fun t9 h =>
 rdK (ixR 2 2 t9 (.int .i64 0)) h fun t10 h =>
 rdK (ldN 2 t10 h) h fun t11 h =>
 opK (nilV t0 h) fun t13 h =>
 rdK (fAddr 2 t13) h fun t14 h =>
 rdK (ixR 2 2 t14 (.int .i64 1)) h fun t15 h =>
 rdK (ldN 2 t15 h) h fun t16 h =>
 opK (nilV t0 h) fun t19 h =>
 rdK (fAddr 0 t19) h fun t20 h =>
 rdK (fAddr 0 t20) h fun t21 h =>
 rdK (ld1 t21 h) h fun t22 h =>
 rdK (unV P .neg 3 t22) h fun t23 h =>
 opK (nilV t0 h) fun t25 h =>
 rdK (fAddr 0 t25) h fun t26 h =>
 rdK (fAddr 1 t26) h fun t27 h =>
 rdK (ld1 t27 h) h fun t28 h =>
 rdK (unV P .neg 3 t28) h fun t29 h =>
 rdK (buildA P 150 [(0, t23), (1, t29)]) h fun t30 h =>
 opK (newV [.int .i64 0, .int .i64 0] (b + 25) h) fun t4 h =>
 X (.call 111 [t11, t16]) (fun t17 h =>
 chkK (chkR ((ld1 t27 h).map (·, h)) t28 (chkR ((ld1 t21 h).map (·, h)) t22 true)) <|
 X (.call 111 [t17, t30]) (fun t31 h =>
 stK (stV 2 t4 t31 h) fun h =>
 regK 8 h fun b_1 h =>
 rdK (fAddr 0 t4) h fun t32 h =>
 rdK (ld1 t32 h) h fun t33 h =>
 opK (builtinV P .max [3, 3] [(.int .i64 0), t33] (b_1 + 2) h) fun t34 h =>
 rdK (fAddr 1 t4) h fun t35 h =>
 rdK (ld1 t35 h) h fun t36 h =>
 opK (builtinV P .max [3, 3] [(.int .i64 0), t36] (b_1 + 5) h) fun t37 h =>
 K (.tuple #[t34, t37]) h) h) h)) (((h.bump 2).bump 2))
theorem f88_eq (X : Caller) (L : Looper) (K : Value → AHeap → Prop) (h : AHeap) (t0 : Value) : aJob P X L (.call 88 [t0]) K h = f88 X L K h t0 := by kernel_rfl
/-- cubbyhole/victim.Choose -/
def f89 (X : Caller) (L : Looper) (K : Value → AHeap → Prop) (h : AHeap) (t0 t1 t2 t3 t4 : Value) : Prop :=
 regK 10 ((h.bump 2)) fun b h =>
 X (.call 137 [t0, t1, t2]) (fun t18 h =>
 opK (extV 0 t18 h) fun t19 h =>
 opK (extV 1 t18 h) fun t20 h =>
 opK (newV [.slice none 0 0, .int .u32 0] (b + 7) h) fun t12 h =>
 stK (stV 2 t12 t19 h) fun h =>
 rdK ((fun h : AHeap => binC P .neq 24 24 t20 (.int .i64 0) h) ((h.bump 10))) ((h.bump 10)) fun t22 h =>
 gopK (wantV t22 false) h (some (t3, h)) fun t24 h =>
 gopK (wantV t22 false) h ((binC P .lss 3 3 t24 (.int .i64 0) h).map (·, h)) fun t25 h =>
 opK (pickV t22 (.bool true) t25 h) fun t26 h =>
 gopK (wantV t26 false) h (some (t4, h)) fun t28 h =>
 gopK (wantV t26 false) h ((binC P .lss 3 3 t28 (.int .i64 0) h).map (·, h)) fun t29 h =>
 opK (pickV t26 (.bool true) t29 h) fun t30 h =>
 condK t30
 (K (.tuple #[(.slice none 0 0), (.int .i64 2)]) ((h.bump 2)))
 (rdK ((fun h : AHeap => ldN 2 t12 h) ((h.bump 6))) ((h.bump 6)) fun t31 h =>
 X (.call 138 [t31, t3, t4]) (fun t34 h =>
 K (.tuple #[t34, (.int .i64 0)]) h) h)) h
theorem f89_eq (X : Caller) (L : Looper) (K : Value → AHeap → Prop) (h : AHeap) (t0 t1 t2 t3 t4 : Value) : aJob P X L (.call 89 [t0, t1, t2, t3, t4]) K h = f89 X L K h t0 t1 t2 t3 t4 := by kernel_rfl
def f90_a0 (X : Caller) (L : Looper) (a : AAct) (K : ActPost) (h : AHeap) : Prop :=
 K .normal ⟨(upds a.env [(6, (a.env 18))]), a.defers⟩ ((h.bump 1))
def f90_b0 (X : Caller) (L : Looper) (a : AAct) (K : ActPost) (h : AHeap) : Prop :=
 regK 12 h fun b_2 h =>
 rdK (ld1 (a.env 5) h) h fun t19 h =>
 rdK (ld1 (a.env 2) h) h fun t21 h =>
 opK (nilV t21 h) fun t22 h =>
 rdK (fAddr 4 t22) h fun t23 h =>
 rdK (ld1 t23 h) h fun t24 h =>
 rdK (lookupA P 139 t24 (a.env 6) false h) h fun t26 h =>
 rdK (buildA P 247 [(0, (a.env 6)), (1, t26)]) h fun t27 h =>
 opK (bsliceV P 178 1 [(0, t27)] (b_2 + 9) h) fun t28 h =>
 opK (builtinV P .append [178, 178] [t19, t28] (b_2 + 10) h) fun t29 h =>
 stK (stV 1 (a.env 5) t29 h) fun h =>
 K .normal ⟨(upds a.env [(19, t19), (20, (a.env 6)), (21, t21), (22, t22), (23, t23), (24, t24), (25, (a.env 6)), (26, t26), (27, t27), (28, t28), (29, t29)]), a.defers⟩ h
noncomputable def f90_ca0 : Code := (rangesF Tryz.f90 0).1
noncomputable def f90_cb0 : Code := (rangesF Tryz.f90 0).2
theorem f90_a0_eq (X : Caller) (L : Looper) (a : AAct) (K : ActPost) (h : AHeap) : aCode P X L true f90_ca0 a K h = f90_a0 X L a K h := by kernel_rfl
theorem f90_b0_eq (X : Caller) (L : Looper) (a : AAct) (K : ActPost) (h : AHeap) : aCode P X L true f90_cb0 a K h = f90_b0 X L a K h := by kernel_rfl
def f90_j5 (X : Caller) (L : Looper) (K : Value → AHeap → Prop) (h : AHeap) (a : AAct) : Prop :=
 rdK ((fun h : AHeap => ld1 (a.env 5) h) ((h.bump 2))) ((h.bump 2)) fun t30 h =>
 leaveA P X Tryz.f90 ⟨(upds a.env [(30, t30), (4, t30)]), a.defers⟩ K a.defers h
/-- (*cubbyhole/segment.Segments).List -/
def f90 (X : Caller) (L : Looper) (K : Value → AHeap → Prop) (h : AHeap) (t0 t1 : Value) : Prop :=
 regK 2 h fun b h =>
 opK (boxV t0 (b + 0) h) fun t2 h =>
 rdK ((fun h : AHeap => ld1 t2 h) ((h.bump 4))) ((h.bump 4)) fun t7 h =>
 X (.call 139 [t7, t1]) (fun t9 h =>
 rdK (unV P .not 4 t9) h fun t10 h =>
 condK t10
 (K (.slice none 0 0) ((h.bump 1)))
 (regK 1 h fun b_1 h =>
 opK (newV [.slice none 0 0] (b_1 + 0) h) fun t5 h =>
 rdK ((fun h : AHeap => ld1 t2 h) ((h.bump 7))) ((h.bump 7)) fun t11 h =>
 opK (nilV t11 h) fun t13 h =>
 rdK (fAddr 0 t13) h fun t14 h =>
 rdK (ixR 2 1 t14 t1) h fun t15 h =>
 rdK (ld1 t15 h) h fun t16 h =>
 X (.call 140 [t16]) (fun t17 h =>
 rangeK X t17 ⟨(upds (argsEnv [t0, t1]) [(2, t2), (4, (.slice none 0 0)), (7, t7), (8, t1), (9, t9), (10, t10), (5, t5), (11, t11), (12, t1), (13, t13), (14, t14), (15, t15), (16, t16), (17, t17)]), []⟩ [18] f90_ca0 f90_cb0 (blkX 0 (seqX (fun a h => f90_j5 X L K h a) (finX P X Tryz.f90 K))) h) h)) h
theorem f90_eq (X : Caller) (L : Looper) (K : Value → AHeap → Prop) (h : AHeap) (t0 t1 : Value) : aJob P X L (.call 90 [t0, t1]) K h = f90 X L K h t0 t1 := by kernel_rfl
/-- (*cubbyhole/dict.Dict).Sizes -/
def f91 (X : Caller) (L : Looper) (K : Value → AHeap → Prop) (h : AHeap) (t0 : Value) : Prop :=
 X (.call 73 [t0]) (fun t6 h =>
 condK t6
 (K (.tuple #[(.int .i64 0), (.int .i64 0), (.int .i64 0)]) ((h.bump 3)))
 (opK ((fun h : AHeap => nilV t0 h) ((h.bump 19))) fun t8 h =>
 rdK (fAddr 0 t8) h fun t9 h =>
 rdK (fAddr 0 t9) h fun t10 h =>
 rdK (ld1 t10 h) h fun t11 h =>
 opK (nilV t0 h) fun t14 h =>
 rdK (fAddr 3 t14) h fun t15 h =>
 rdK (ld1 t15 h) h fun t16 h =>
 opK (nilV t0 h) fun t19 h =>
 rdK (fAddr 3 t19) h fun t20 h =>
 rdK (ld1 t20 h) h fun t21 h =>
 X (.call 141 [t11]) (fun t12 h =>
 chkK (chkR ((ld1 t20 h).map (·, h)) t21 (chkR ((ld1 t15 h).map (·, h)) t16 true)) <|
 X (.call 118 [t16]) (fun t17 h =>
 chkK (chkR ((ld1 t20 h).map (·, h)) t21 true) <|
 X (.call 120 [t21]) (fun t22 h =>
 K (.tuple #[t12, t17, t22]) h) h) h) h)) (((h.bump 3).bump 2))
theorem f91_eq (X : Caller) (L : Looper) (K : Value → AHeap → Prop) (h : AHeap) (t0 : Value) : aJob P X L (.call 91 [t0]) K h = f91 X L K h t0 := by kernel_rfl
/-- cubbyhole/compact.Due -/
def f92 (X : Caller) (L : Looper) (K : Value → AHeap → Prop) (h : AHeap) (t0 t1 : Value) : Prop :=
 rdK ((fun h : AHeap => binC P .geq 3 3 t1 (.int .i64 0) h) (((h.bump 1).bump 15))) (((h.bump 1).bump 15)) fun t6 h =>
 gopK (wantV t6 true) h (some (t0, h)) fun t8 h =>
 gopK (wantV t6 true) h ((binC P .gtr 3 3 t8 (.int .i64 16) h).map (·, h)) fun t9 h =>
 opK (pickV t6 t9 (.bool false) h) fun t10 h =>
 gopK (wantV t10 true) h (some (t1, h)) fun t12 h =>
 gopK (wantV t10 true) h (some (t0, h)) fun t13 h =>
 gopK (wantV t10 true) h ((binC P .sub 3 3 t13 (.int .i64 16) h).map (·, h)) fun t14 h =>
 gopK (wantV t10 true) h ((binC P .sub 3 3 t14 (.int .i64 1) h).map (·, h)) fun t15 h =>
 gopK (wantV t10 true) h ((binC P .quo 3 3 t15 (.int .i64 2) h).map (·, h)) fun t16 h =>
 gopK (wantV t10 true) h ((binV P .leq 3 3 t12 t16 h).map (·, h)) fun t17 h =>
 opK (pickV t10 t17 (.bool false) h) fun t18 h =>
 K t18 h
theorem f92_eq (X : Caller) (L : Looper) (K : Value → AHeap → Prop) (h : AHeap) (t0 t1 : Value) : aJob P X L (.call 92 [t0, t1]) K h = f92 X L K h t0 t1 := by kernel_rfl
/-- (*cubbyhole/event.Stream).none -/
def f94 (X : Caller) (L : Looper) (K : Value → AHeap → Prop) (h : AHeap) (t0 : Value) : Prop :=
 rdK ((fun h : AHeap => binC P .eql 88 88 t0 (.pointer none) h) (((h.bump 1).bump 10))) (((h.bump 1).bump 10)) fun t4 h =>
 gopK (wantV t4 false) h (some (t0, h)) fun t6 h =>
 gopK (wantV t4 false) h (nilV t6 h) fun t7 h =>
 gopK (wantV t4 false) h ((fAddr 9 t7).map (·, h)) fun t8 h =>
 gopK (wantV t4 false) h ((ld1 t8 h).map (·, h)) fun t9 h =>
 gopK (wantV t4 false) h ((unV P .not 4 t9).map (·, h)) fun t10 h =>
 opK (pickV t4 (.bool true) t10 h) fun t11 h =>
 K t11 h
theorem f94_eq (X : Caller) (L : Looper) (K : Value → AHeap → Prop) (h : AHeap) (t0 : Value) : aJob P X L (.call 94 [t0]) K h = f94 X L K h t0 := by kernel_rfl
/-- cubbyhole/entry.Cost -/
def f95 (X : Caller) (L : Looper) (K : Value → AHeap → Prop) (h : AHeap) (t0 t1 : Value) : Prop :=
 X (.call 147 [t0, t1, (.int .u64 1)]) (fun t9 h =>
 rdK ((fun h : AHeap => binC P .neq 24 24 t9 (.int .i64 0) h) ((h.bump 2))) ((h.bump 2)) fun t11 h =>
 condK t11
 (K (.tuple #[(.int .i64 0), t9]) ((h.bump 3)))
 (regK 8 h fun b h =>
 opK (builtinV P .len [9] [t0] (b + 1) h) fun t14 h =>
 opK (builtinV P .len [34] [t1] (b + 3) h) fun t16 h =>
 rdK (binV P .add 3 3 t14 t16 h) h fun t17 h =>
 rdK (binC P .add 3 3 t17 (.int .i64 48) h) h fun t18 h =>
 K (.tuple #[t18, (.int .i64 0)]) h)) (((h.bump 2).bump 4))
theorem f95_eq (X : Caller) (L : Looper) (K : Value → AHeap → Prop) (h : AHeap) (t0 t1 : Value) : aJob P X L (.call 95 [t0, t1]) K h = f95 X L K h t0 t1 := by kernel_rfl
/-- (*cubbyhole/birth.Counter).Last -/
def f96 (X : Caller) (L : Looper) (K : Value → AHeap → Prop) (h : AHeap) (t0 : Value) : Prop :=
 X (.call 148 [t0]) (fun t4 h =>
 condK t4
 (K (.int .u64 0) ((h.bump 1)))
 (opK ((fun h : AHeap => nilV t0 h) ((h.bump 5))) fun t6 h =>
 rdK (fAddr 1 t6) h fun t7 h =>
 rdK (ld1 t7 h) h fun t8 h =>
 K t8 h)) (((h.bump 1).bump 2))
theorem f96_eq (X : Caller) (L : Looper) (K : Value → AHeap → Prop) (h : AHeap) (t0 : Value) : aJob P X L (.call 96 [t0]) K h = f96 X L K h t0 := by kernel_rfl
/-- (*cubbyhole/cache.Cache).set$1 -/
def f97 (X : Caller) (L : Looper) (K : Value → AHeap → Prop) (h : AHeap) (t0 t1 t2 t3 t4 : Value) : Prop :=
 rdK ((fun h : AHeap => ld1 t0 h) (((h.bump 1).bump 12))) (((h.bump 1).bump 12)) fun t14 h =>
 opK (nilV t14 h) fun t15 h =>
 rdK (fAddr 0 t15) h fun t16 h =>
 rdK (fAddr 0 t16) h fun t17 h =>
 rdK (ld1 t17 h) h fun t18 h =>
 rdK (ld1 t1 h) h fun t19 h =>
 X (.call 66 [t18, t19]) (fun t20 h =>
 opK (extV 0 t20 h) fun t21 h =>
 opK (extV 1 t20 h) fun t22 h =>
 rdK ((fun h : AHeap => ld1 t2 h) ((h.bump 3))) ((h.bump 3)) fun t23 h =>
 callV X t23 [] (fun t24 h =>
 rdK ((fun h : AHeap => binC P .eql 24 24 t22 (.int .i64 0) h) ((h.bump 2))) ((h.bump 2)) fun t26 h =>
 condK t26
 (regK 13 h fun b h =>
  rdK (ld1 t0 h) h fun t28 h =>
  opK (nilV t28 h) fun t29 h =>
  rdK (fAddr 0 t29) h fun t30 h =>
  rdK (fAddr 0 t30) h fun t31 h =>
  rdK (ld1 t31 h) h fun t32 h =>
  X (.call 37 [t32, t21]) (fun t34 h =>
  opK (extV 0 t34 h) fun t35 h =>
  opK (extV 1 t34 h) fun t36 h =>
  opK (newV [.string ⟨#[]⟩, .slice none 0 0, .int .u64 0, .int .u64 0] (b + 10) h) fun t9 h =>
  stK (stV 4 t9 t35 h) fun h =>
  rdK ((fun h : AHeap => ld1 t0 h) ((h.bump 3))) ((h.bump 3)) fun t37 h =>
  rdK (ldN 4 t9 h) h fun t38 h =>
  X (.call 72 [t37, (.int .i64 3), t38]) (fun t39 h =>
  rdK ((fun h : AHeap => ld1 t0 h) ((h.bump 9))) ((h.bump 9)) fun t40 h =>
  opK (nilV t40 h) fun t41 h =>
  rdK (fAddr 0 t41) h fun t42 h =>
  rdK (fAddr 0 t42) h fun t43 h =>
  rdK (ld1 t43 h) h fun t44 h =>
  rdK (ld1 t3 h) h fun t46 h =>
  X (.call 98 [t44, t21, t46, t24]) (fun t48 h =>
  rdK ((fun h : AHeap => ld1 t0 h) ((h.bump 10))) ((h.bump 10)) fun t49 h =>
  opK (nilV t49 h) fun t50 h =>
  rdK (fAddr 0 t50) h fun t51 h =>
  rdK (fAddr 4 t51) h fun t52 h =>
  rdK (ld1 t52 h) h fun t53 h =>
  rdK (fAddr 3 t9) h fun t56 h =>
  rdK (ld1 t56 h) h fun t57 h =>
  X (.call 99 [t53, t21, t24, t57]) (fun t58 h =>
  rdK ((fun h : AHeap => ld1 t0 h) ((h.bump 4))) ((h.bump 4)) fun t59 h =>
  rdK (ld1 t4 h) h fun t61 h =>
  X (.call 39 [t59, t21, t61]) (fun t62 h =>
  K t21 ((h.bump 2))) h) h) h) h) h)
 (rdK ((fun h : AHeap => ld1 t0 h) ((h.bump 11))) ((h.bump 11)) fun t65 h =>
 opK (nilV t65 h) fun t66 h =>
 rdK (fAddr 0 t66) h fun t67 h =>
 rdK (fAddr 1 t67) h fun t68 h =>
 rdK (ld1 t68 h) h fun t69 h =>
 X (.call 100 [t69]) (fun t70 h =>
 opK (extV 0 t70 h) fun t71 h =>
 opK (extV 1 t70 h) fun t72 h =>
 rdK ((fun h : AHeap => ld1 t0 h) ((h.bump 15))) ((h.bump 15)) fun t74 h =>
 opK (nilV t74 h) fun t75 h =>
 rdK (fAddr 0 t75) h fun t76 h =>
 rdK (fAddr 0 t76) h fun t77 h =>
 rdK (ld1 t77 h) h fun t78 h =>
 rdK (ld1 t1 h) h fun t79 h =>
 rdK (ld1 t3 h) h fun t80 h =>
 rdK (buildA P 59 [(0, t79), (1, t80), (2, t24), (3, t71)]) h fun t83 h =>
 X (.call 101 [t78, t83]) (fun t84 h =>
 opK (extV 0 t84 h) fun t85 h =>
 opK (extV 1 t84 h) fun t86 h =>
 rdK ((fun h : AHeap => ld1 t0 h) ((h.bump 9))) ((h.bump 9)) fun t87 h =>
 opK (nilV t87 h) fun t88 h =>
 rdK (fAddr 0 t88) h fun t89 h =>
 rdK (fAddr 4 t89) h fun t90 h =>
 rdK (ld1 t90 h) h fun t91 h =>
 X (.call 99 [t91, t85, t24, t71]) (fun t95 h =>
 rdK ((fun h : AHeap => ld1 t0 h) ((h.bump 8))) ((h.bump 8)) fun t96 h =>
 opK (nilV t96 h) fun t97 h =>
 rdK (fAddr 0 t97) h fun t98 h =>
 rdK (fAddr 2 t98) h fun t99 h =>
 rdK (ld1 t99 h) h fun t100 h =>
 rdK (ld1 t4 h) h fun t102 h =>
 X (.call 102 [t100, t85, t102]) (fun t103 h =>
 rdK ((fun h : AHeap => ld1 t0 h) ((h.bump 7))) ((h.bump 7)) fun t104 h =>
 opK (nilV t104 h) fun t105 h =>
 rdK (fAddr 0 t105) h fun t106 h =>
 rdK (fAddr 3 t106) h fun t107 h =>
 rdK (ld1 t107 h) h fun t108 h =>
 rdK (ld1 t4 h) h fun t109 h =>
 X (.call 78 [t108, (.int .i64 0), t109]) (fun t110 h =>
 K t85 ((h.bump 2))) h) h) h) h) h)) h) h
theorem f97_eq (X : Caller) (L : Looper) (K : Value → AHeap → Prop) (h : AHeap) (t0 t1 t2 t3 t4 : Value) : aJob P X L (.call 97 [t0, t1, t2, t3, t4]) K h = f97 X L K h t0 t1 t2 t3 t4 := by kernel_rfl
/-- (*cubbyhole/dict.Dict).Set -/
def f98 (X : Caller) (L : Looper) (K : Value → AHeap → Prop) (h : AHeap) (t0 t1 t2 t3 : Value) : Prop :=
 X (.call 73 [t0]) (fun t10 h =>
 condK t10
 (K (.int .i64 1) ((h.bump 1)))
 (opK ((fun h : AHeap => nilV t0 h) ((h.bump 10))) fun t12 h =>
 rdK (fAddr 0 t12) h fun t13 h =>
 rdK (fAddr 0 t13) h fun t14 h =>
 rdK (ld1 t14 h) h fun t15 h =>
 X (.call 149 [t15, t1, t2, t3]) (fun t19 h =>
 K t19 h) h)) (((h.bump 1).bump 2))
theorem f98_eq (X : Caller) (L : Looper) (K : Value → AHeap → Prop) (h : AHeap) (t0 t1 t2 t3 : Value) : aJob P X L (.call 98 [t0, t1, t2, t3]) K h = f98 X L K h t0 t1 t2 t3 := by kernel_rfl
def f99_j14 (X : Caller) (L : Looper) (K : Value → AHeap → Prop) (h : AHeap) (t0 t1 t2 t3 t74 t75 t76 t73 t77 t8 : Value) : Prop :=
 rdK ((fun h : AHeap => buildA P 174 [(0, t1), (1, t2), (2, t3)]) ((h.bump 6))) ((h.bump 6)) fun t77_1 h =>
 X (.call 150 [t0, t77_1]) (fun t78 h =>
 K (.int .i64 0) ((h.bump 1))) h
/-- (*cubbyhole/due.Deadlines).Set -/
def f99 (X : Caller) (L : Looper) (K : Value → AHeap → Prop) (h : AHeap) (t0 t1 t2 t3 : Value) : Prop :=
 X (.call 85 [t0, t1]) (fun t16 h =>
 rdK ((fun h : AHeap => binC P .neq 24 24 t16 (.int .i64 0) h) ((h.bump 2))) ((h.bump 2)) fun t18 h =>
 condK t18
 (K t16 ((h.bump 2)))
 (regK 12 h fun b h =>
 opK (nilV t0 h) fun t22 h =>
 rdK (fAddr 2 t22) h fun t23 h =>
 rdK (ld1 t23 h) h fun t24 h =>
 rdK (lookupA P 162 t24 t1 true h) h fun t26 h =>
 opK (extV 0 t26 h) fun t27 h =>
 opK (extV 1 t26 h) fun t28 h =>
 opK (newV [.int .u32 0, .int .u64 0, .int .u64 0] (b + 9) h) fun t10 h =>
 stK (stV 3 t10 t27 h) fun h =>
 opK ((fun h : AHeap => nilV t0 h) ((h.bump 11))) fun t31 h =>
 rdK (fAddr 1 t31) h fun t32 h =>
 rdK (ld1 t32 h) h fun t33 h =>
 rdK (lookupA P 161 t33 t3 true h) h fun t35 h =>
 opK (extV 0 t35 h) fun t36 h =>
 opK (extV 1 t35 h) fun t37 h =>
 rdK ((fun h : AHeap => binC P .eql 27 27 t3 (.int .u64 0) h) ((h.bump 3))) ((h.bump 3)) fun t40 h =>
 condK t40
 (K (.int .i64 2) ((h.bump 1)))
 (rdK ((fun h : AHeap => binC P .neq 33 33 t2 (.int .u64 18446744073709551615) h) ((h.bump 12))) ((h.bump 12)) fun t43 h =>
  gopK (wantV t43 true) h (some (t2, h)) fun t45 h =>
  gopK (wantV t43 true) h (some (t0, h)) fun t46 h =>
  gopK (wantV t43 true) h (nilV t46 h) fun t47 h =>
  gopK (wantV t43 true) h ((fAddr 0 t47).map (·, h)) fun t48 h =>
  gopK (wantV t43 true) h ((ld1 t48 h).map (·, h)) fun t49 h =>
  gcallK (wantV t43 true) X (.call 86 [t49]) h fun t50 h =>
  gopK (wantV t43 true) h ((binV P .leq 33 33 t45 t50 h).map (·, h)) fun t51 h =>
  opK (pickV t43 t51 (.bool false) h) fun t52 h =>
  condK t52
  (K (.int .i64 3) ((h.bump 1)))
  (gopK (wantV t28 true) ((h.bump 16)) (((fun h : AHeap => fAddr 2 t10) ((h.bump 16))).map (·, (h.bump 16))) fun t56 h =>
   gopK (wantV t28 true) h ((ld1 t56 h).map (·, h)) fun t57 h =>
   gopK (wantV t28 true) h (some (t3, h)) fun t58 h =>
   gopK (wantV t28 true) h ((binV P .neq 27 27 t57 t58 h).map (·, h)) fun t59 h =>
   opK (pickV t28 t59 (.bool false) h) fun t60 h =>
   gopK (wantV t60 false) h (some (t37, h)) fun t62 h =>
   gopK (wantV t60 false) h (some (t62, h)) fun t63 h =>
   gopK (wantV t63 true) h (some (t36, h)) fun t64 h =>
   gopK (wantV t63 true) h (some (t1, h)) fun t65 h =>
   gopK (wantV t63 true) h ((binV P .neq 81 81 t64 t65 h).map (·, h)) fun t66 h =>
   gopK (wantV t60 false) h (pickV t63 t66 (.bool false) h) fun t67 h =>
   opK (pickV t60 (.bool true) t67 h) fun t68 h =>
   condK t68
   (K (.int .i64 11) ((h.bump 1)))
   (condK t28
 (rdK ((fun h : AHeap => ldN 3 t10 h) (((h.bump 1).bump 3))) (((h.bump 1).bump 3)) fun t71 h =>
  X (.call 112 [t0, t71]) (fun t72 h =>
  f99_j14 X L K h t0 t1 t2 t3 undef undef undef undef undef ((.int .i64 0))) h)
 (f99_j14 X L K ((h.bump 1)) t0 t1 t2 t3 undef undef undef undef undef ((.int .i64 0)))))))) (((h.bump 1).bump 4))
theorem f99_eq (X : Caller) (L : Looper) (K : Value → AHeap → Prop) (h : AHeap) (t0 t1 t2 t3 : Value) : aJob P X L (.call 99 [t0, t1, t2, t3]) K h = f99 X L K h t0 t1 t2 t3 := by kernel_rfl
/-- (*cubbyhole/birth.Counter).Next -/
def f100 (X : Caller) (L : Looper) (K : Value → AHeap → Prop) (h : AHeap) (t0 : Value) : Prop :=
 X (.call 148 [t0]) (fun t6 h =>
 condK t6
 (K (.tuple #[(.int .u64 0), (.int .i64 1)]) ((h.bump 2)))
 (opK ((fun h : AHeap => nilV t0 h) ((h.bump 6))) fun t9 h =>
  rdK (fAddr 1 t9) h fun t10 h =>
  rdK (ld1 t10 h) h fun t11 h =>
  rdK (binC P .eql 27 27 t11 (.int .u64 18446744073709551615) h) h fun t12 h =>
  condK t12
  (K (.tuple #[(.int .u64 0), (.int .i64 7)]) ((h.bump 2)))
  (opK ((fun h : AHeap => nilV t0 h) ((h.bump 8))) fun t14 h =>
 rdK (fAddr 1 t14) h fun t15 h =>
 rdK (ld1 t15 h) h fun t16 h =>
 rdK (binC P .add 27 27 t16 (.int .u64 1) h) h fun t17 h =>
 opK (nilV t0 h) fun t18 h =>
 rdK (fAddr 1 t18) h fun t19 h =>
 stK (stV 1 t19 t17 h) fun h =>
 opK ((fun h : AHeap => nilV t0 h) ((h.bump 6))) fun t21 h =>
 rdK (fAddr 1 t21) h fun t22 h =>
 rdK (ld1 t22 h) h fun t23 h =>
 K (.tuple #[t23, (.int .i64 0)]) h))) (((h.bump 2).bump 3))
theorem f100_eq (X : Caller) (L : Looper) (K : Value → AHeap → Prop) (h : AHeap) (t0 : Value) : aJob P X L (.call 100 [t0]) K h = f100 X L K h t0 := by kernel_rfl
/-- (*cubbyhole/dict.Dict).Insert -/
def f101 (X : Caller) (L : Looper) (K : Value → AHeap → Prop) (h : AHeap) (t0 t1 : Value) : Prop :=
 regK 3 h fun b h =>
 opK (boxV t1 (b + 0) h) fun t3 h =>
 X (.call 73 [t0]) (fun t14 h =>
 condK t14
 (K (.tuple #[(.int .u32 0), (.int .i64 1)]) ((h.bump 2)))
 (regK 15 h fun b_1 h =>
 rdK (fAddr 0 t3) h fun t16 h =>
 rdK (ld1 t16 h) h fun t17 h =>
 rdK (fAddr 1 t3) h fun t18 h =>
 rdK (ld1 t18 h) h fun t19 h =>
 rdK (fAddr 2 t3) h fun t20 h =>
 rdK (ld1 t20 h) h fun t21 h =>
 rdK (fAddr 3 t3) h fun t22 h =>
 rdK (ld1 t22 h) h fun t23 h =>
 X (.call 151 [t17, t19, t21, t23]) (fun t24 h =>
 opK (extV 0 t24 h) fun t25 h =>
 opK (extV 1 t24 h) fun t26 h =>
 opK (newV [.string ⟨#[]⟩, .slice none 0 0, .int .u64 0, .int .u64 0] (b_1 + 12) h) fun t6 h =>
 stK (stV 4 t6 t25 h) fun h =>
 rdK ((fun h : AHeap => binC P .neq 24 24 t26 (.int .i64 0) h) ((h.bump 2))) ((h.bump 2)) fun t28 h =>
 condK t28
 (K (.tuple #[(.int .u32 0), t26]) ((h.bump 3)))
 (rdK ((fun h : AHeap => fAddr 0 t3) ((h.bump 9))) ((h.bump 9)) fun t32 h =>
 rdK (ld1 t32 h) h fun t33 h =>
 X (.call 66 [t0, t33]) (fun t34 h =>
 opK (extV 0 t34 h) fun t35 h =>
 opK (extV 1 t34 h) fun t36 h =>
 rdK ((fun h : AHeap => binC P .eql 24 24 t36 (.int .i64 0) h) ((h.bump 2))) ((h.bump 2)) fun t38 h =>
 condK t38
 (K (.tuple #[(.int .u32 0), (.int .i64 11)]) ((h.bump 2)))
 (regK 8 h fun b_2 h =>
 X (.call 152 [t0]) (fun t41 h =>
 opK (extV 0 t41 h) fun t42 h =>
 opK (extV 1 t41 h) fun t43 h =>
 opK (newV [.int .i64 0, .bool false] (b_2 + 5) h) fun t10 h =>
 stK (stV 2 t10 t42 h) fun h =>
 rdK ((fun h : AHeap => binC P .neq 24 24 t43 (.int .i64 0) h) ((h.bump 9))) ((h.bump 9)) fun t45 h =>
 gopK (wantV t45 false) h (some (t0, h)) fun t47 h =>
 gopK (wantV t45 false) h (nilV t47 h) fun t48 h =>
 gopK (wantV t45 false) h ((fAddr 0 t48).map (·, h)) fun t49 h =>
 gopK (wantV t45 false) h ((ldN 1 t49 h).map (·, h)) fun t50 h =>
 gcallK (wantV t45 false) X (.call 153 [t50]) h fun t51 h =>
 opK (pickV t45 (.bool true) t51 h) fun t52 h =>
 condK t52
 (K (.tuple #[(.int .u32 0), (.int .i64 7)]) ((h.bump 2)))
 (opK ((fun h : AHeap => nilV t0 h) ((h.bump 12))) fun t55 h =>
 rdK (fAddr 0 t55) h fun t56 h =>
 rdK (fAddr 0 t56) h fun t57 h =>
 rdK (ld1 t57 h) h fun t58 h =>
 rdK (ldN 4 t6 h) h fun t59 h =>
 X (.call 154 [t58, t59]) (fun t60 h =>
 opK (extV 0 t60 h) fun t61 h =>
 opK (extV 1 t60 h) fun t62 h =>
 rdK ((fun h : AHeap => binC P .neq 24 24 t62 (.int .i64 0) h) ((h.bump 2))) ((h.bump 2)) fun t64 h =>
 condK t64
 (K (.tuple #[(.int .u32 0), t62]) ((h.bump 3)))
 (X (.call 155 [t0, t61]) (fun t69 h =>
 K (.tuple #[t61, t69]) h) ((h.bump 6)))) h)) h)) h)) h)) ((h.bump 2))
theorem f101_eq (X : Caller) (L : Looper) (K : Value → AHeap → Prop) (h : AHeap) (t0 t1 : Value) : aJob P X L (.call 101 [t0, t1]) K h = f101 X L K h t0 t1 := by kernel_rfl
/-- (*cubbyhole/segment.Segments).Add -/
def f102 (X : Caller) (L : Looper) (K : Value → AHeap → Prop) (h : AHeap) (t0 t1 t2 : Value) : Prop :=
 X (.call 75 [t0, t1, t2]) (fun t13 h =>
 rdK ((fun h : AHeap => binC P .neq 24 24 t13 (.int .i64 0) h) ((h.bump 2))) ((h.bump 2)) fun t15 h =>
 condK t15
 (K t13 ((h.bump 2)))
 (opK ((fun h : AHeap => nilV t0 h) ((h.bump 11))) fun t19 h =>
 rdK (fAddr 4 t19) h fun t20 h =>
 rdK (ld1 t20 h) h fun t21 h =>
 rdK (lookupA P 139 t21 t1 true h) h fun t23 h =>
 opK (extV 0 t23 h) fun t24 h =>
 opK (extV 1 t23 h) fun t25 h =>
 condK t25
 (K (.int .i64 11) (((h.bump 1).bump 1)))
 (X (.call 126 [t0, (.int .i64 0), t1, t2]) (fun t30 h =>
 K (.int .i64 0) ((h.bump 1))) (((h.bump 1).bump 4))))) (((h.bump 1).bump 5))
theorem f102_eq (X : Caller) (L : Looper) (K : Value → AHeap → Prop) (h : AHeap) (t0 t1 t2 : Value) : aJob P X L (.call 102 [t0, t1, t2]) K h = f102 X L K h t0 t1 t2 := by kernel_rfl
/-- (*cubbyhole/entrylog.Log).Live -/
def f103 (X : Caller) (L : Looper) (K : Value → AHeap → Prop) (h : AHeap) (t0 : Value) : Prop :=
 X (.call 156 [t0]) (fun t4 h =>
 condK t4
 (K (.int .i64 0) ((h.bump 1)))
 (opK ((fun h : AHeap => nilV t0 h) ((h.bump 5))) fun t6 h =>
 rdK (fAddr 2 t6) h fun t7 h =>
 rdK (ld1 t7 h) h fun t8 h =>
 K t8 h)) (((h.bump 1).bump 2))
theorem f103_eq (X : Caller) (L : Looper) (K : Value → AHeap → Prop) (h : AHeap) (t0 : Value) : aJob P X L (.call 103 [t0]) K h = f103 X L K h t0 := by kernel_rfl
/-- (*cubbyhole/swiss.Index).Find -/
def f104 (X : Caller) (L : Looper) (K : Value → AHeap → Prop) (h : AHeap) (t0 t1 t2 : Value) : Prop :=
 X (.call 157 [t0]) (fun t13 h =>
 condK t13
 (K (.tuple #[(.int .u32 0), (.int .i64 1)]) ((h.bump 2)))
 (rdK ((fun h : AHeap => binC P .eql 194 194 t2 .nilFunc h) ((h.bump 3))) ((h.bump 3)) fun t16 h =>
  condK t16
  (K (.tuple #[(.int .u32 0), (.int .i64 2)]) ((h.bump 2)))
  (X (.call 158 [t0, t1, t2]) (fun t21 h =>
 opK (extV 0 t21 h) fun t22 h =>
 opK (extV 1 t21 h) fun t23 h =>
 opK (extV 2 t21 h) fun t24 h =>
 rdK ((fun h : AHeap => binC P .neq 24 24 t24 (.int .i64 0) h) ((h.bump 2))) ((h.bump 2)) fun t26 h =>
 condK t26
 (K (.tuple #[(.int .u32 0), t24]) ((h.bump 3)))
 (opK ((fun h : AHeap => nilV t22 h) ((h.bump 8))) fun t30 h =>
 rdK (fAddr 1 t30) h fun t31 h =>
 rdK (ixR 8 1 t31 t23) h fun t32 h =>
 rdK (ld1 t32 h) h fun t33 h =>
 K (.tuple #[t33, (.int .i64 0)]) h)) ((h.bump 11))))) (((h.bump 2).bump 3))
theorem f104_eq (X : Caller) (L : Looper) (K : Value → AHeap → Prop) (h : AHeap) (t0 t1 t2 : Value) : aJob P X L (.call 104 [t0, t1, t2]) K h = f104 X L K h t0 t1 t2 := by kernel_rfl
def f105_j1 (X : Caller) (L : Looper) (K : Value → AHeap → Prop) (h : AHeap) (t2 t7 t1 t8 t9 t10 t11 t4 : Value) : Prop :=
 rdK ((fun h : AHeap => fAddr 0 t2) ((h.bump 6))) ((h.bump 6)) fun t7_1 h =>
 rdK (ld1 t7_1 h) h fun t8_1 h =>
 X (.call 160 [t8_1, t1]) (fun t10_1 h =>
 X (.call 159 [t10_1]) (fun t11_1 h =>
 K t11_1 h) h) h
/-- (cubbyhole/hash.Hasher).Sum -/
def f105 (X : Caller) (L : Looper) (K : Value → AHeap → Prop) (h : AHeap) (t0 t1 : Value) : Prop :=
 regK 2 h fun b h =>
 opK (boxV t0 (b + 0) h) fun t2 h =>
 rdK ((fun h : AHeap => fAddr 1 t2) ((h.bump 2))) ((h.bump 2)) fun t5 h =>
 rdK (ld1 t5 h) h fun t6 h =>
 condK t6
 (f105_j1 X L K ((h.bump 1)) t2 undef ((.string ⟨#[]⟩)) undef undef undef undef ((.int .u64 0)))
 (f105_j1 X L K h t2 undef t1 undef undef undef undef ((.int .u64 0)))
theorem f105_eq (X : Caller) (L : Looper) (K : Value → AHeap → Prop) (h : AHeap) (t0 t1 : Value) : aJob P X L (.call 105 [t0, t1]) K h = f105 X L K h t0 t1 := by kernel_rfl
/-- (*cubbyhole/dict.Dict).Find$1 -/
def f106 (X : Caller) (L : Looper) (K : Value → AHeap → Prop) (h : AHeap) (t0 t1 t2 : Value) : Prop :=
 rdK ((fun h : AHeap => ld1 t1 h) (((h.bump 1).bump 9))) (((h.bump 1).bump 9)) fun t5 h =>
 opK (nilV t5 h) fun t6 h =>
 rdK (fAddr 0 t6) h fun t7 h =>
 rdK (ldN 1 t7 h) h fun t8 h =>
 rdK (ld1 t2 h) h fun t11 h =>
 X (.call 107 [t8, t0]) (fun t10 h =>
 chkK (chkR ((ld1 t2 h).map (·, h)) t11 true) <|
 rdK (binV P .eql 9 9 t10 t11 h) h fun t12 h =>
 K t12 h) h
theorem f106_eq (X : Caller) (L : Looper) (K : Value → AHeap → Prop) (h : AHeap) (t0 t1 t2 : Value) : aJob P X L (.call 106 [t0, t1, t2]) K h = f106 X L K h t0 t1 t2 := by kernel_rfl
/-- (cubbyhole/dict.store).key -/
def f107 (X : Caller) (L : Looper) (K : Value → AHeap → Prop) (h : AHeap) (t0 t1 : Value) : Prop :=
 regK 2 h fun b h =>
 opK (boxV t0 (b + 0) h) fun t2 h =>
 rdK ((fun h : AHeap => fAddr 0 t2) ((h.bump 9))) ((h.bump 9)) fun t8 h =>
 rdK (ld1 t8 h) h fun t9 h =>
 X (.call 113 [t9, t1]) (fun t11 h =>
 opK (extV 0 t11 h) fun t12 h =>
 opK (extV 1 t11 h) fun t13 h =>
 K t12 ((h.bump 2))) h
theorem f107_eq (X : Caller) (L : Looper) (K : Value → AHeap → Prop) (h : AHeap) (t0 t1 : Value) : aJob P X L (.call 107 [t0, t1]) K h = f107 X L K h t0 t1 := by kernel_rfl
/-- (*cubbyhole/segment.Segments).take -/
def f108 (X : Caller) (L : Looper) (K : Value → AHeap → Prop) (h : AHeap) (t0 t1 : Value) : Prop :=
 opK ((fun h : AHeap => nilV t0 h) (((h.bump 1).bump 11))) fun t10 h =>
 rdK (fAddr 4 t10) h fun t11 h =>
 rdK (ld1 t11 h) h fun t12 h =>
 rdK (lookupA P 139 t12 t1 true h) h fun t14 h =>
 opK (extV 0 t14 h) fun t15 h =>
 opK (extV 1 t14 h) fun t16 h =>
 rdK ((fun h : AHeap => unV P .not 4 t16) ((h.bump 2))) ((h.bump 2)) fun t18 h =>
 condK t18
 (K (.bool false) ((h.bump 1)))
 (X (.call 76 [t0, t1]) (fun t21 h =>
 opK ((fun h : AHeap => nilV t0 h) ((h.bump 8))) fun t24 h =>
 rdK (fAddr 0 t24) h fun t25 h =>
 rdK (ixR 2 1 t25 t21) h fun t26 h =>
 rdK (ld1 t26 h) h fun t27 h =>
 X (.call 161 [t27, t1]) (fun t29 h =>
 opK ((fun h : AHeap => nilV t0 h) ((h.bump 12))) fun t32 h =>
 rdK (fAddr 2 t32) h fun t33 h =>
 rdK (ixR 2 1 t33 t21) h fun t34 h =>
 rdK (ld1 t34 h) h fun t35 h =>
 rdK (binV P .sub 3 3 t35 t15 h) h fun t37 h =>
 opK (nilV t0 h) fun t38 h =>
 rdK (fAddr 2 t38) h fun t39 h =>
 rdK (ixR 2 1 t39 t21) h fun t40 h =>
 stK (stV 1 t40 t37 h) fun h =>
 regK 6 h fun b h =>
 opK (nilV t0 h) fun t42 h =>
 rdK (fAddr 4 t42) h fun t43 h =>
 rdK (ld1 t43 h) h fun t44 h =>
 opK (builtinV P .delete [139, 81] [t44, t1] (b + 5) h) fun _ h =>
 K (.bool true) ((h.bump 1))) h) ((h.bump 4)))
theorem f108_eq (X : Caller) (L : Looper) (K : Value → AHeap → Prop) (h : AHeap) (t0 t1 : Value) : aJob P X L (.call 108 [t0, t1]) K h = f108 X L K h t0 t1 := by kernel_rfl
/-- (*cubbyhole/budget.Budget).check -/
def f109 (X : Caller) (L : Looper) (K : Value → AHeap → Prop) (h : AHeap) (t0 t1 t2 : Value) : Prop :=
 X (.call 136 [t0]) (fun t9 h =>
 condK t9
 (K (.int .i64 1) ((h.bump 1)))
 (rdK ((fun h : AHeap => binC P .neq 94 94 t1 (.int .i64 0) h) ((h.bump 15))) ((h.bump 15)) fun t12 h =>
  gopK (wantV t12 true) h (some (t1, h)) fun t14 h =>
  gopK (wantV t12 true) h ((binC P .neq 94 94 t14 (.int .i64 1) h).map (·, h)) fun t15 h =>
  opK (pickV t12 t15 (.bool false) h) fun t16 h =>
  gopK (wantV t16 false) h (some (t2, h)) fun t18 h =>
  gopK (wantV t16 false) h ((binC P .lss 3 3 t18 (.int .i64 0) h).map (·, h)) fun t19 h =>
  opK (pickV t16 (.bool true) t19 h) fun t20 h =>
  gopK (wantV t20 false) h (some (t2, h)) fun t22 h =>
  gopK (wantV t20 false) h ((binC P .gtr 3 3 t22 (.int .i64 1099511627776) h).map (·, h)) fun t23 h =>
  opK (pickV t20 (.bool true) t23 h) fun t24 h =>
  condK t24
  (K (.int .i64 2) ((h.bump 1)))
  (K (.int .i64 0) ((h.bump 1))))) (((h.bump 1).bump 3))
theorem f109_eq (X : Caller) (L : Looper) (K : Value → AHeap → Prop) (h : AHeap) (t0 t1 t2 : Value) : aJob P X L (.call 109 [t0, t1, t2]) K h = f109 X L K h t0 t1 t2 := by kernel_rfl
/-- (*cubbyhole/budget.Budget).has -/
def f110 (X : Caller) (L : Looper) (K : Value → AHeap → Prop) (h : AHeap) (t0 t1 t2 : Value) : Prop :=
 regK 8 ((h.bump 1)) fun b h =>
 opK (nilV t0 h) fun t10 h =>
 rdK (fAddr 2 t10) h fun t11 h =>
 rdK (ixR 2 2 t11 t1) h fun t12 h =>
 rdK (ldN 2 t12 h) h fun t13 h =>
 opK (newV [.int .i64 0, .int .i64 0] (b + 6) h) fun t7 h =>
 stK (stV 2 t7 t13 h) fun h =>
 rdK ((fun h : AHeap => fAddr 0 t7) ((h.bump 16))) ((h.bump 16)) fun t14 h =>
 rdK (ld1 t14 h) h fun t15 h =>
 rdK (binC P .gtr 3 3 t15 (.int .i64 1) h) h fun t16 h =>
 gopK (wantV t16 true) h ((fAddr 1 t7).map (·, h)) fun t18 h =>
 gopK (wantV t16 true) h ((ld1 t18 h).map (·, h)) fun t19 h =>
 gopK (wantV t16 true) h (some (t2, h)) fun t20 h =>
 gopK (wantV t16 true) h ((binV P .geq 3 3 t19 t20 h).map (·, h)) fun t21 h =>
 opK (pickV t16 t21 (.bool false) h) fun t22 h =>
 gopK (wantV t22 false) h ((ldN 2 t7 h).map (·, h)) fun t24 h =>
 gopK (wantV t22 false) h (some (t2, h)) fun t25 h =>
 gopK (wantV t22 false) h ((buildA P 150 [(0, (.int .i64 1)), (1, t25)]).map (·, h)) fun t26 h =>
 gopK (wantV t22 false) h ((binV P .eql 150 150 t24 t26 h).map (·, h)) fun t27 h =>
 opK (pickV t22 (.bool true) t27 h) fun t28 h =>
 K t28 h
theorem f110_eq (X : Caller) (L : Looper) (K : Value → AHeap → Prop) (h : AHeap) (t0 t1 t2 : Value) : aJob P X L (.call 110 [t0, t1, t2]) K h = f110 X L K h t0 t1 t2 := by kernel_rfl
/-- (cubbyhole/budget.pair).plus -/
def f111 (X : Caller) (L : Looper) (K : Value → AHeap → Prop) (h : AHeap) (t0 t1 : Value) : Prop :=
 regK 3 h fun b h =>
 opK (boxV t0 (b + 0) h) fun t2 h =>
 opK (boxV t1 (b + 1) h) fun t3 h =>
 opK (newV [.int .i64 0, .int .i64 0] (b + 2) h) fun t4 h =>
 rdK ((fun h : AHeap => fAddr 0 t2) ((h.bump 12))) ((h.bump 12)) fun t5 h =>
 rdK (ld1 t5 h) h fun t6 h =>
 rdK (fAddr 0 t3) h fun t7 h =>
 rdK (ld1 t7 h) h fun t8 h =>
 rdK (binV P .add 3 3 t6 t8 h) h fun t9 h =>
 rdK (fAddr 1 t2) h fun t10 h =>
 rdK (ld1 t10 h) h fun t11 h =>
 rdK (fAddr 1 t3) h fun t12 h =>
 rdK (ld1 t12 h) h fun t13 h =>
 rdK (binV P .add 3 3 t11 t13 h) h fun t14 h =>
 rdK (buildA P 150 [(0, t9), (1, t14)]) h fun t15 h =>
 stK (stV 2 t4 t15 h) fun h =>
 retK (consR (ldN 2 t4 h) (some [])) K h
theorem f111_eq (X : Caller) (L : Looper) (K : Value → AHeap → Prop) (h : AHeap) (t0 t1 : Value) : aJob P X L (.call 111 [t0, t1]) K h = f111 X L K h t0 t1 := by kernel_rfl
/-- (*cubbyhole/due.Deadlines).drop -/
def f112 (X : Caller) (L : Looper) (K : Value → AHeap → Prop) (h : AHeap) (t0 t1 : Value) : Prop :=
 regK 1 h fun b h =>
 opK (boxV t1 (b + 0) h) fun t3 h =>
 opK ((fun h : AHeap => nilV t0 h) ((h.bump 7))) fun t5 h =>
 rdK (fAddr 0 t5) h fun t6 h =>
 rdK (ld1 t6 h) h fun t7 h =>
 rdK (fAddr 0 t3) h fun t8 h =>
 rdK (ld1 t8 h) h fun t9 h =>
 X (.call 162 [t7, t9]) (fun t10 h =>
 regK 7 h fun b_1 h =>
 opK (nilV t0 h) fun t12 h =>
 rdK (fAddr 1 t12) h fun t13 h =>
 rdK (ld1 t13 h) h fun t14 h =>
 rdK (fAddr 2 t3) h fun t15 h =>
 rdK (ld1 t15 h) h fun t16 h =>
 opK (builtinV P .delete [161, 27] [t14, t16] (b_1 + 6) h) fun _ h =>
 regK 7 h fun b_2 h =>
 opK (nilV t0 h) fun t18 h =>
 rdK (fAddr 2 t18) h fun t19 h =>
 rdK (ld1 t19 h) h fun t20 h =>
 rdK (fAddr 0 t3) h fun t21 h =>
 rdK (ld1 t21 h) h fun t22 h =>
 opK (builtinV P .delete [162, 81] [t20, t22] (b_2 + 6) h) fun _ h =>
 K (.tuple #[]) h) h
theorem f112_eq (X : Caller) (L : Looper) (K : Value → AHeap → Prop) (h : AHeap) (t0 t1 : Value) : aJob P X L (.call 112 [t0, t1]) K h = f112 X L K h t0 t1 := by kernel_rfl
/-- (*cubbyhole/entrylog.Log).Key -/
def f113 (X : Caller) (L : Looper) (K : Value → AHeap → Prop) (h : AHeap) (t0 t1 : Value) : Prop :=
 X (.call 123 [t0, t1]) (fun t11 h =>
 opK (extV 0 t11 h) fun t12 h =>
 opK (extV 1 t11 h) fun t13 h =>
 rdK ((fun h : AHeap => binC P .neq 24 24 t13 (.int .i64 0) h) ((h.bump 2))) ((h.bump 2)) fun t15 h =>
 condK t15
 (K (.tuple #[(.string ⟨#[]⟩), t13]) ((h.bump 3)))
 (opK ((fun h : AHeap => nilV t12 h) ((h.bump 6))) fun t18 h =>
 rdK (fAddr 0 t18) h fun t19 h =>
 rdK (ld1 t19 h) h fun t20 h =>
 K (.tuple #[t20, (.int .i64 0)]) h)) (((h.bump 2).bump 8))
theorem f113_eq (X : Caller) (L : Looper) (K : Value → AHeap → Prop) (h : AHeap) (t0 t1 : Value) : aJob P X L (.call 113 [t0, t1]) K h = f113 X L K h t0 t1 := by kernel_rfl
def f114_j11 (X : Caller) (L : Looper) (K : Value → AHeap → Prop) (h : AHeap) (t6 : Value) : Prop :=
 K (.int .i64 0) ((h.bump 1))
/-- (*cubbyhole/swiss.Index).Remove -/
def f114 (X : Caller) (L : Looper) (K : Value → AHeap → Prop) (h : AHeap) (t0 t1 t2 : Value) : Prop :=
 regK 2 h fun b h =>
 opK (boxV t2 (b + 0) h) fun t5 h =>
 X (.call 157 [t0]) (fun t11 h =>
 condK t11
 (K (.int .i64 1) ((h.bump 1)))
 (X (.call 158 [t0, t1, (.func (.func 163) #[] #[t5])]) (fun t16 h =>
 opK (extV 0 t16 h) fun t17 h =>
 opK (extV 1 t16 h) fun t18 h =>
 opK (extV 2 t16 h) fun t19 h =>
 rdK ((fun h : AHeap => binC P .neq 24 24 t19 (.int .i64 0) h) ((h.bump 2))) ((h.bump 2)) fun t21 h =>
 condK t21
 (K t19 ((h.bump 2)))
 (opK ((fun h : AHeap => nilV t17 h) ((h.bump 13))) fun t26 h =>
 rdK (fAddr 0 t26) h fun t27 h =>
 rdK (ld1 t27 h) h fun t28 h =>
 X (.call 164 [t28, t18]) (fun t30 h =>
 opK (extV 0 t30 h) fun t31 h =>
 opK (extV 1 t30 h) fun t32 h =>
 opK (nilV t17 h) fun t33 h =>
 rdK (fAddr 0 t33) h fun t34 h =>
 stK (stV 1 t34 t31 h) fun h =>
 opK ((fun h : AHeap => nilV t17 h) ((h.bump 6))) fun t37 h =>
 rdK (fAddr 1 t37) h fun t38 h =>
 rdK (ixR 8 1 t38 t18) h fun t39 h =>
 stK (stV 1 t39 (.int .u32 0) h) fun h =>
 opK ((fun h : AHeap => nilV t0 h) ((h.bump 8))) fun t41 h =>
 rdK (fAddr 1 t41) h fun t42 h =>
 rdK (ld1 t42 h) h fun t43 h =>
 rdK (binC P .sub 3 3 t43 (.int .i64 1) h) h fun t44 h =>
 opK (nilV t0 h) fun t45 h =>
 rdK (fAddr 1 t45) h fun t46 h =>
 stK (stV 1 t46 t44 h) fun h =>
 opK ((fun h : AHeap => nilV t17 h) ((h.bump 6))) fun t48 h =>
 rdK (fAddr 0 t48) h fun t49 h =>
 rdK (ld1 t49 h) h fun t50 h =>
 X (.call 165 [t50]) (fun t51 h =>
 rdK (binC P .eql 5 5 t51 (.int .u8 0) h) h fun t52 h =>
 condK t52
 (opK ((fun h : AHeap => nilV t0 h) ((h.bump 8))) fun t54 h =>
  rdK (fAddr 2 t54) h fun t55 h =>
  rdK (ld1 t55 h) h fun t56 h =>
  rdK (binC P .add 3 3 t56 (.int .i64 1) h) h fun t57 h =>
  opK (nilV t0 h) fun t58 h =>
  rdK (fAddr 2 t58) h fun t59 h =>
  stK (stV 1 t59 t57 h) fun h =>
  f114_j11 X L K h ((.int .i64 0)))
 (f114_j11 X L K h ((.int .i64 0)))) h) h)) ((h.bump 11)))) ((h.bump 2))
theorem f114_eq (X : Caller) (L : Looper) (K : Value → AHeap → Prop) (h : AHeap) (t0 t1 t2 : Value) : aJob P X L (.call 114 [t0, t1, t2]) K h = f114 X L K h t0 t1 t2 := by kernel_rfl
/-- (*cubbyhole/dict.Dict).sum -/
def f115 (X : Caller) (L : Looper) (K : Value → AHeap → Prop) (h : AHeap) (t0 t1 : Value) : Prop :=
 opK ((fun h : AHeap => nilV t0 h) (((h.bump 1).bump 12))) fun t6 h =>
 rdK (fAddr 1 t6) h fun t7 h =>
 rdK (ldN 2 t7 h) h fun t8 h =>
 opK (nilV t0 h) fun t10 h =>
 rdK (fAddr 0 t10) h fun t11 h =>
 rdK (ldN 1 t11 h) h fun t12 h =>
 X (.call 107 [t12, t1]) (fun t14 h =>
 chkK (chkR ((ldN 2 t7 h).map (·, h)) t8 true) <|
 X (.call 105 [t8, t14]) (fun t15 h =>
 K t15 h) h) h
theorem f115_eq (X : Caller) (L : Looper) (K : Value → AHeap → Prop) (h : AHeap) (t0 t1 : Value) : aJob P X L (.call 115 [t0, t1]) K h = f115 X L K h t0 t1 := by kernel_rfl
/-- (*cubbyhole/entrylog.Log).Remove -/
def f116 (X : Caller) (L : Looper) (K : Value → AHeap → Prop) (h : AHeap) (t0 t1 : Value) : Prop :=
 regK 2 h fun b h =>
 opK (newV [.string ⟨#[]⟩, .slice none 0 0, .int .u64 0, .int .u64 0] (b + 0) h) fun t4 h =>
 X (.call 123 [t0, t1]) (fun t12 h =>
 opK (extV 0 t12 h) fun t13 h =>
 opK (extV 1 t12 h) fun t14 h =>
 rdK ((fun h : AHeap => binC P .neq 24 24 t14 (.int .i64 0) h) ((h.bump 2))) ((h.bump 2)) fun t16 h =>
 condK t16
 (rdK ((fun h : AHeap => buildA P 59 []) ((h.bump 4))) ((h.bump 4)) fun t17 h =>
  stK (stV 4 t4 t17 h) fun h =>
  retK (consR (ldN 4 t4 h) (consR (some t14) (some []))) K h)
 (regK 6 h fun b_1 h =>
 opK (nilV t13 h) fun t20 h =>
 rdK (ldN 4 t20 h) h fun t21 h =>
 X (.call 124 [t21]) (fun t22 h =>
 opK (newV [.string ⟨#[]⟩, .slice none 0 0, .int .u64 0, .int .u64 0] (b_1 + 4) h) fun t8 h =>
 stK (stV 4 t8 t22 h) fun h =>
 rdK ((fun h : AHeap => buildA P 59 []) ((h.bump 4))) ((h.bump 4)) fun t24 h =>
 opK (nilV t13 h) fun t25 h =>
 stK (stV 4 t25 t24 h) fun h =>
 opK ((fun h : AHeap => nilV t0 h) ((h.bump 8))) fun t27 h =>
 rdK (fAddr 2 t27) h fun t28 h =>
 rdK (ld1 t28 h) h fun t29 h =>
 rdK (binC P .sub 3 3 t29 (.int .i64 1) h) h fun t30 h =>
 opK (nilV t0 h) fun t31 h =>
 rdK (fAddr 2 t31) h fun t32 h =>
 stK (stV 1 t32 t30 h) fun h =>
 rdK ((fun h : AHeap => ldN 4 t8 h) ((h.bump 3))) ((h.bump 3)) fun t33 h =>
 stK (stV 4 t4 t33 h) fun h =>
 retK (consR (ldN 4 t4 h) (consR (some (.int .i64 0)) (some []))) K h) h)) ((h.bump 8))
theorem f116_eq (X : Caller) (L : Looper) (K : Value → AHeap → Prop) (h : AHeap) (t0 t1 : Value) : aJob P X L (.call 116 [t0, t1]) K h = f116 X L K h t0 t1 := by kernel_rfl
/-- cubbyhole/growth.Remove -/
def f117 (X : Caller) (L : Looper) (K : Value → AHeap → Prop) (h : AHeap) (t0 t1 t2 : Value) : Prop :=
 regK 2 h fun b h =>
 opK (newV [.int .i64 0, .bool false] (b + 0) h) fun t6 h =>
 X (.call 166 [t0, t1, t2]) (fun t12 h =>
 rdK ((fun h : AHeap => binC P .neq 24 24 t12 (.int .i64 0) h) ((h.bump 2))) ((h.bump 2)) fun t14 h =>
 condK t14
 (rdK ((fun h : AHeap => buildA P 204 []) ((h.bump 4))) ((h.bump 4)) fun t15 h =>
  stK (stV 2 t6 t15 h) fun h =>
  retK (consR (ldN 2 t6 h) (consR (some t12) (some []))) K h)
 (rdK ((fun h : AHeap => binC P .leq 3 3 t1 (.int .i64 7340032) h) ((h.bump 9))) ((h.bump 9)) fun t18 h =>
 gopK (wantV t18 true) h (some (t0, h)) fun t20 h =>
 gopK (wantV t18 true) h ((binC P .mul 3 3 t20 (.int .i64 8) h).map (·, h)) fun t21 h =>
 gopK (wantV t18 true) h (some (t1, h)) fun t22 h =>
 gcallK (wantV t18 true) X (.call 167 [t22]) h fun t23 h =>
 gopK (wantV t18 true) h ((binV P .gtr 3 3 t21 t23 h).map (·, h)) fun t24 h =>
 opK (pickV t18 t24 (.bool false) h) fun t25 h =>
 condK t25
 (X (.call 167 [t1]) (fun t27 h =>
  rdK (binC P .quo 3 3 t27 (.int .i64 8) h) h fun t28 h =>
  rdK (buildA P 204 [(0, t28), (1, (.bool true))]) h fun t29 h =>
  stK (stV 2 t6 t29 h) fun h =>
  retK (consR (ldN 2 t6 h) (consR (some (.int .i64 0)) (some []))) K h) ((h.bump 6)))
 (rdK ((fun h : AHeap => buildA P 204 [(0, t0)]) ((h.bump 4))) ((h.bump 4)) fun t31 h =>
 stK (stV 2 t6 t31 h) fun h =>
 retK (consR (ldN 2 t6 h) (consR (some (.int .i64 0)) (some []))) K h))) ((h.bump 5))
theorem f117_eq (X : Caller) (L : Looper) (K : Value → AHeap → Prop) (h : AHeap) (t0 t1 t2 : Value) : aJob P X L (.call 117 [t0, t1, t2]) K h = f117 X L K h t0 t1 t2 := by kernel_rfl
/-- (*cubbyhole/swiss.Index).Groups -/
def f118 (X : Caller) (L : Looper) (K : Value → AHeap → Prop) (h : AHeap) (t0 : Value) : Prop :=
 X (.call 157 [t0]) (fun t4 h =>
 condK t4
 (K (.int .i64 0) ((h.bump 1)))
 (regK 6 h fun b h =>
 opK (nilV t0 h) fun t6 h =>
 rdK (fAddr 0 t6) h fun t7 h =>
 rdK (ld1 t7 h) h fun t8 h =>
 opK (builtinV P .len [220] [t8] (b + 4) h) fun t9 h =>
 K t9 h)) (((h.bump 1).bump 2))
theorem f118_eq (X : Caller) (L : Looper) (K : Value → AHeap → Prop) (h : AHeap) (t0 : Value) : aJob P X L (.call 118 [t0]) K h = f118 X L K h t0 := by kernel_rfl
/-- (*cubbyhole/swiss.Index).Len -/
def f119 (X : Caller) (L : Looper) (K : Value → AHeap → Prop) (h : AHeap) (t0 : Value) : Prop :=
 X (.call 157 [t0]) (fun t4 h =>
 condK t4
 (K (.int .i64 0) ((h.bump 1)))
 (opK ((fun h : AHeap => nilV t0 h) ((h.bump 5))) fun t6 h =>
 rdK (fAddr 1 t6) h fun t7 h =>
 rdK (ld1 t7 h) h fun t8 h =>
 K t8 h)) (((h.bump 1).bump 2))
theorem f119_eq (X : Caller) (L : Looper) (K : Value → AHeap → Prop) (h : AHeap) (t0 : Value) : aJob P X L (.call 119 [t0]) K h = f119 X L K h t0 := by kernel_rfl
/-- (*cubbyhole/swiss.Index).Tombs -/
def f120 (X : Caller) (L : Looper) (K : Value → AHeap → Prop) (h : AHeap) (t0 : Value) : Prop :=
 X (.call 157 [t0]) (fun t4 h =>
 condK t4
 (K (.int .i64 0) ((h.bump 1)))
 (opK ((fun h : AHeap => nilV t0 h) ((h.bump 5))) fun t6 h =>
 rdK (fAddr 2 t6) h fun t7 h =>
 rdK (ld1 t7 h) h fun t8 h =>
 K t8 h)) (((h.bump 1).bump 2))
theorem f120_eq (X : Caller) (L : Looper) (K : Value → AHeap → Prop) (h : AHeap) (t0 : Value) : aJob P X L (.call 120 [t0]) K h = f120 X L K h t0 := by kernel_rfl
/-- (*cubbyhole/dict.Dict).do -/
def f121 (X : Caller) (L : Looper) (K : Value → AHeap → Prop) (h : AHeap) (t0 t1 : Value) : Prop :=
 regK 1 h fun b h =>
 opK (boxV t1 (b + 0) h) fun t3 h =>
 rdK ((fun h : AHeap => fAddr 1 t3) ((h.bump 3))) ((h.bump 3)) fun t7 h =>
 rdK (ld1 t7 h) h fun t8 h =>
 rdK (unV P .not 4 t8) h fun t9 h =>
 condK t9
 (K (.tuple #[]) h)
 (opK ((fun h : AHeap => nilV t0 h) (((h.bump 3).bump 13))) fun t14 h =>
 rdK (fAddr 3 t14) h fun t15 h =>
 rdK (ld1 t15 h) h fun t16 h =>
 rdK (fAddr 0 t3) h fun t17 h =>
 rdK (ld1 t17 h) h fun t18 h =>
 X (.call 168 [t16, t18, (.func (.func 115) #[t0] #[])]) (fun t20 h =>
 opK (extV 0 t20 h) fun t21 h =>
 opK (extV 1 t20 h) fun t22 h =>
 rdK ((fun h : AHeap => binC P .eql 24 24 t22 (.int .i64 0) h) ((h.bump 2))) ((h.bump 2)) fun t24 h =>
 condK t24
 (opK ((fun h : AHeap => nilV t0 h) ((h.bump 5))) fun t27 h =>
  rdK (fAddr 3 t27) h fun t28 h =>
  stK (stV 1 t28 t21 h) fun h =>
  K (.tuple #[]) h)
 (K (.tuple #[]) h)) h)
theorem f121_eq (X : Caller) (L : Looper) (K : Value → AHeap → Prop) (h : AHeap) (t0 t1 : Value) : aJob P X L (.call 121 [t0, t1]) K h = f121 X L K h t0 t1 := by kernel_rfl
/-- (*cubbyhole/event.Stream).Add -/
def f122 (X : Caller) (L : Looper) (K : Value → AHeap → Prop) (h : AHeap) (t0 t1 : Value) : Prop :=
 regK 2 h fun b h =>
 opK (boxV t1 (b + 0) h) fun t3 h =>
 X (.call 94 [t0]) (fun t7 h =>
 condK t7
 (K (.int .i64 1) ((h.bump 1)))
 (rdK ((fun h : AHeap => ldN 6 t3 h) ((h.bump 4))) ((h.bump 4)) fun t9 h =>
  X (.call 169 [t9]) (fun t10 h =>
  rdK (unV P .not 4 t10) h fun t11 h =>
  condK t11
  (K (.int .i64 2) ((h.bump 1)))
  (opK ((fun h : AHeap => nilV t0 h) ((h.bump 7))) fun t14 h =>
   rdK (fAddr 2 t14) h fun t15 h =>
   rdK (fAddr 6 t15) h fun t16 h =>
   rdK (ld1 t16 h) h fun t17 h =>
   rdK (binC P .geq 3 3 t17 (.int .i64 1048576) h) h fun t18 h =>
   condK t18
   (K (.int .i64 7) ((h.bump 1)))
   (rdK ((fun h : AHeap => ldN 6 t3 h) ((h.bump 4))) ((h.bump 4)) fun t20 h =>
 X (.call 171 [t20]) (fun t21 h =>
 X (.call 170 [t0, t21]) (fun t22 h =>
 rdK ((fun h : AHeap => fAddr 0 t3) ((h.bump 14))) ((h.bump 14)) fun t24 h =>
 rdK (ld1 t24 h) h fun t25 h =>
 opK (nilV t0 h) fun t26 h =>
 rdK (fAddr 2 t26) h fun t27 h =>
 rdK (fAddr 0 t27) h fun t28 h =>
 rdK (ixR 6 1 t28 t25) h fun t29 h =>
 rdK (ld1 t29 h) h fun t30 h =>
 rdK (binC P .add 27 27 t30 (.int .u64 1) h) h fun t31 h =>
 opK (nilV t0 h) fun t32 h =>
 rdK (fAddr 2 t32) h fun t33 h =>
 rdK (fAddr 0 t33) h fun t34 h =>
 rdK (ixR 6 1 t34 t25) h fun t35 h =>
 stK (stV 1 t35 t31 h) fun h =>
 opK ((fun h : AHeap => nilV t0 h) ((h.bump 10))) fun t37 h =>
 rdK (fAddr 2 t37) h fun t38 h =>
 rdK (fAddr 6 t38) h fun t39 h =>
 rdK (ld1 t39 h) h fun t40 h =>
 rdK (binC P .add 3 3 t40 (.int .i64 1) h) h fun t41 h =>
 opK (nilV t0 h) fun t42 h =>
 rdK (fAddr 2 t42) h fun t43 h =>
 rdK (fAddr 6 t43) h fun t44 h =>
 stK (stV 1 t44 t41 h) fun h =>
 K (.int .i64 0) ((h.bump 1))) h) h))) h)) ((h.bump 3))
theorem f122_eq (X : Caller) (L : Looper) (K : Value → AHeap → Prop) (h : AHeap) (t0 t1 : Value) : aJob P X L (.call 122 [t0, t1]) K h = f122 X L K h t0 t1 := by kernel_rfl

/-- (*cubbyhole/entrylog.Log).at -/
def f123 (X : Caller) (L : Looper) (K : Value → AHeap → Prop) (h : AHeap) (t0 t1 : Value) : Prop :=
 X (.call 156 [t0]) (fun t8 h =>
 condK t8
 (K (.tuple #[(.pointer none), (.int .i64 1)]) ((h.bump 2)))
 (regK 20 h fun b h =>
  opK (convertA P 81 3 t1 (b + 1) h) fun t11 h =>
  opK (nilV t0 h) fun t13 h =>
  rdK (fAddr 1 t13) h fun t14 h =>
  rdK (ld1 t14 h) h fun t15 h =>
  opK (builtinV P .len [226] [t15] (b + 6) h) fun t16 h =>
  rdK (binV P .geq 3 3 t11 t16 h) h fun t17 h =>
  gopK (wantV t17 false) h (some (t0, h)) fun t19 h =>
  gopK (wantV t17 false) h (nilV t19 h) fun t20 h =>
  gopK (wantV t17 false) h ((fAddr 1 t20).map (·, h)) fun t21 h =>
  gopK (wantV t17 false) h ((ld1 t21 h).map (·, h)) fun t22 h =>
  gopK (wantV t17 false) h (some (t1, h)) fun t23 h =>
  gopK (wantV t17 false) h ((ixS 4 t22 t23).map (·, h)) fun t24 h =>
  gopK (wantV t17 false) h ((fAddr 3 t24).map (·, h)) fun t25 h =>
  gopK (wantV t17 false) h ((ld1 t25 h).map (·, h)) fun t26 h =>
  gopK (wantV t17 false) h ((binC P .eql 27 27 t26 (.int .u64 0) h).map (·, h)) fun t27 h =>
  opK (pickV t17 (.bool true) t27 h) fun t28 h =>
  condK t28
  (K (.tuple #[(.pointer none), (.int .i64 9)]) ((h.bump 2)))
  (opK ((fun h : AHeap => nilV t0 h) ((h.bump 8))) fun t30 h =>
 rdK (fAddr 1 t30) h fun t31 h =>
 rdK (ld1 t31 h) h fun t32 h =>
 rdK (ixS 4 t32 t1) h fun t34 h =>
 K (.tuple #[t34, (.int .i64 0)]) h))) (((h.bump 2).bump 3))
theorem f123_eq (X : Caller) (L : Looper) (K : Value → AHeap → Prop) (h : AHeap) (t0 t1 : Value) : aJob P X L (.call 123 [t0, t1]) K h = f123 X L K h t0 t1 := by kernel_rfl
/-- cubbyhole/entry.Copy -/
def f124 (X : Caller) (L : Looper) (K : Value → AHeap → Prop) (h : AHeap) (t0 : Value) : Prop :=
 regK 2 h fun b h =>
 opK (boxV t0 (b + 0) h) fun t1 h =>
 opK (newV [.string ⟨#[]⟩, .slice none 0 0, .int .u64 0, .int .u64 0] (b + 1) h) fun t2 h =>
 rdK ((fun h : AHeap => fAddr 1 t1) ((h.bump 5))) ((h.bump 5)) fun t3 h =>
 rdK (ld1 t3 h) h fun t4 h =>
 X (.call 20 [t4]) (fun t5 h =>
 rdK (fAddr 1 t1) h fun t6 h =>
 stK (stV 1 t6 t5 h) fun h =>
 rdK ((fun h : AHeap => ldN 4 t1 h) ((h.bump 2))) ((h.bump 2)) fun t7 h =>
 stK (stV 4 t2 t7 h) fun h =>
 retK (consR (ldN 4 t2 h) (some [])) K h) h
theorem f124_eq (X : Caller) (L : Looper) (K : Value → AHeap → Prop) (h : AHeap) (t0 : Value) : aJob P X L (.call 124 [t0]) K h = f124 X L K h t0 := by kernel_rfl
/-- (*cubbyhole/lru.LRU).Has -/
def f125 (X : Caller) (L : Looper) (K : Value → AHeap → Prop) (h : AHeap) (t0 t1 : Value) : Prop :=
 X (.call 172 [t0, t1]) (fun t9 h =>
 rdK (binC P .neq 24 24 t9 (.int .i64 0) h) h fun t10 h =>
 condK t10
 (K (.bool false) ((h.bump 1)))
 (opK ((fun h : AHeap => nilV t0 h) ((h.bump 11))) fun t13 h =>
 rdK (fAddr 0 t13) h fun t14 h =>
 rdK (ld1 t14 h) h fun t15 h =>
 X (.call 173 [t15, t1]) (fun t17 h =>
 opK (extV 0 t17 h) fun t18 h =>
 opK (extV 1 t17 h) fun t19 h =>
 rdK ((fun h : AHeap => binC P .eql 24 24 t19 (.int .i64 0) h) ((h.bump 3))) ((h.bump 3)) fun t21 h =>
 K t21 h) h)) (((h.bump 1).bump 4))
theorem f125_eq (X : Caller) (L : Looper) (K : Value → AHeap → Prop) (h : AHeap) (t0 t1 : Value) : aJob P X L (.call 125 [t0, t1]) K h = f125 X L K h t0 t1 := by kernel_rfl
/-- (*cubbyhole/segment.Segments).put -/
def f126 (X : Caller) (L : Looper) (K : Value → AHeap → Prop) (h : AHeap) (t0 t1 t2 t3 : Value) : Prop :=
 opK ((fun h : AHeap => nilV t0 h) ((h.bump 8))) fun t10 h =>
 rdK (fAddr 0 t10) h fun t11 h =>
 rdK (ixR 2 1 t11 t1) h fun t12 h =>
 rdK (ld1 t12 h) h fun t13 h =>
 X (.call 174 [t13, t2]) (fun t15 h =>
 opK ((fun h : AHeap => nilV t0 h) ((h.bump 12))) fun t18 h =>
 rdK (fAddr 2 t18) h fun t19 h =>
 rdK (ixR 2 1 t19 t1) h fun t20 h =>
 rdK (ld1 t20 h) h fun t21 h =>
 rdK (binV P .add 3 3 t21 t3 h) h fun t23 h =>
 opK (nilV t0 h) fun t24 h =>
 rdK (fAddr 2 t24) h fun t25 h =>
 rdK (ixR 2 1 t25 t1) h fun t26 h =>
 stK (stV 1 t26 t23 h) fun h =>
 opK ((fun h : AHeap => nilV t0 h) ((h.bump 7))) fun t28 h =>
 rdK (fAddr 4 t28) h fun t29 h =>
 rdK (ld1 t29 h) h fun t30 h =>
 stK (mapPutA P 139 t30 t2 t3 h) fun h =>
 K (.tuple #[]) h) h
theorem f126_eq (X : Caller) (L : Looper) (K : Value → AHeap → Prop) (h : AHeap) (t0 t1 t2 t3 : Value) : aJob P X L (.call 126 [t0, t1, t2, t3]) K h = f126 X L K h t0 t1 t2 t3 := by kernel_rfl
def f127_l4 (X : Caller) (L : Looper) (a : AAct) (K : ActPost) (h : AHeap) : Prop :=
 callV X (a.env 3) [] (fun t10 h =>
 condK t10
 (rdK ((fun h : AHeap => ld1 (a.env 1) h) ((h.bump 11))) ((h.bump 11)) fun t12 h =>
 opK (nilV t12 h) fun t13 h =>
 rdK (fAddr 0 t13) h fun t14 h =>
 rdK (ixR 2 1 t14 (.int .i64 1)) h fun t15 h =>
 rdK (ld1 t15 h) h fun t16 h =>
 X (.call 177 [t16]) (fun t17 h =>
 opK (extV 0 t17 h) fun t18 h =>
 opK (extV 1 t17 h) fun t19 h =>
 rdK ((fun h : AHeap => ld1 (a.env 1) h) ((h.bump 7))) ((h.bump 7)) fun t20 h =>
 opK (nilV t20 h) fun t21 h =>
 rdK (fAddr 4 t21) h fun t22 h =>
 rdK (ld1 t22 h) h fun t23 h =>
 rdK (lookupA P 139 t23 t18 false h) h fun t25 h =>
 rdK ((fun h : AHeap => ld1 (a.env 1) h) ((h.bump 3))) ((h.bump 3)) fun t26 h =>
 X (.call 108 [t26, t18]) (fun t28 h =>
 rdK ((fun h : AHeap => ld1 (a.env 1) h) ((h.bump 4))) ((h.bump 4)) fun t29 h =>
 X (.call 126 [t29, (.int .i64 0), t18, t25]) (fun t32 h =>
 regK 5 h fun b_1 h =>
 opK (bsliceV P 143 1 [(0, t18)] (b_1 + 2) h) fun t35 h =>
 opK (builtinV P .append [143, 143] [(a.env 4), t35] (b_1 + 3) h) fun t36 h =>
 K .normal ⟨(upds a.env [(9, (a.env 3)), (10, t10), (12, t12), (13, t13), (14, t14), (15, t15), (16, t16), (17, t17), (11, t17), (18, t18), (19, t19), (5, t18), (6, t19), (20, t20), (21, t21), (22, t22), (23, t23), (24, t18), (25, t25), (7, t25), (26, t26), (27, t18), (28, t28), (29, t29), (30, t18), (31, t25), (32, t32), (33, (a.env 4)), (34, t18), (35, t35), (36, t36), (4, t36)]), a.defers⟩ h) h) h) h)
 (K (.exit 0) ⟨(upds a.env [(9, (a.env 3)), (10, t10)]), a.defers⟩ h)) ((h.bump 2))
def f127_j3 (X : Caller) (L : Looper) (K : Value → AHeap → Prop) (h : AHeap) (a : AAct) : Prop :=
 leaveA P X Tryz.f127 ⟨(upds a.env [(37, (a.env 4)), (2, (a.env 4))]), a.defers⟩ K a.defers ((h.bump 2))
/-- (*cubbyhole/segment.Segments).demote -/
def f127 (X : Caller) (L : Looper) (K : Value → AHeap → Prop) (h : AHeap) (t0 : Value) : Prop :=
 regK 2 h fun b h =>
 opK (boxV t0 (b + 0) h) fun t1 h =>
 L (f127_l4 X L) ⟨(upds (argsEnv [t0]) [(1, t1), (2, (.slice none 0 0)), (8, (.func (.func 175) #[] #[t1])), (3, (.func (.func 175) #[] #[t1])), (4, (.slice none 0 0))]), []⟩ (blkX 0 (seqX (fun a h => f127_j3 X L K h a) (finX P X Tryz.f127 K))) (((h.bump 2).bump 1))
theorem f127_eq (X : Caller) (L : Looper) (K : Value → AHeap → Prop) (h : AHeap) (t0 : Value) : aJob P X L (.call 127 [t0]) K h = f127 X L K h t0 := by kernel_rfl
/-- (cubbyhole/budget.pair).fits -/
def f128 (X : Caller) (L : Looper) (K : Value → AHeap → Prop) (h : AHeap) (t0 : Value) : Prop :=
 regK 2 h fun b h =>
 opK (boxV t0 (b + 0) h) fun t1 h =>
 rdK ((fun h : AHeap => fAddr 0 t1) ((h.bump 9))) ((h.bump 9)) fun t3 h =>
 rdK (ld1 t3 h) h fun t4 h =>
 rdK (binC P .leq 3 3 t4 (.int .i64 2097152) h) h fun t5 h =>
 gopK (wantV t5 true) h ((fAddr 1 t1).map (·, h)) fun t7 h =>
 gopK (wantV t5 true) h ((ld1 t7 h).map (·, h)) fun t8 h =>
 gopK (wantV t5 true) h ((binC P .leq 3 3 t8 (.int .i64 2305843009213693952) h).map (·, h)) fun t9 h =>
 opK (pickV t5 t9 (.bool false) h) fun t10 h =>
 K t10 h
theorem f128_eq (X : Caller) (L : Looper) (K : Value → AHeap → Prop) (h : AHeap) (t0 : Value) : aJob P X L (.call 128 [t0]) K h = f128 X L K h t0 := by kernel_rfl
def f130_l7 (X : Caller) (L : Looper) (a : AAct) (K : ActPost) (h : AHeap) : Prop :=
 rdK ((fun h : AHeap => binV P .lss 3 3 (a.env 33) (a.env 32) h) ((h.bump 1))) ((h.bump 1)) fun t34 h =>
 condK t34
 (X (.call 178 [(a.env 33), (a.env 6)]) (fun t38 h =>
 regK 13 h fun b_1 h =>
 opK (nilV (a.env 6) h) fun t40 h =>
 rdK (fAddr 0 t40) h fun t41 h =>
 rdK (ld1 t41 h) h fun t42 h =>
 rdK (binC P .add 3 3 (a.env 33) (.int .i64 1) h) h fun t47 h =>
 opK (convertA P 3 81 t47 (b_1 + 9) h) fun t48 h =>
 rdK (buildA P 282 [(0, t38), (1, t38), (2, t48)]) h fun t49 h =>
 rdK (ixS 3 t42 t38) h fun t50 h =>
 stK (stV 3 t50 t49 h) fun h =>
 rdK ((fun h : AHeap => binC P .add 3 3 (a.env 33) (.int .i64 1) h) ((h.bump 2))) ((h.bump 2)) fun t51 h =>
 K .normal ⟨(upds a.env [(34, t34), (35, (a.env 33)), (7, (a.env 33)), (36, (a.env 33)), (37, (a.env 6)), (38, t38), (8, t38), (39, (a.env 6)), (40, t40), (41, t41), (42, t42), (43, t38), (44, t38), (45, t38), (46, (a.env 33)), (47, t47), (48, t48), (49, t49), (50, t50), (51, t51), (33, t51)]), a.defers⟩ h) (((h.bump 2).bump 4)))
 (K (.exit 0) ⟨(upds a.env [(34, t34)]), a.defers⟩ h)
def f130_j5 (X : Caller) (L : Looper) (K : Value → AHeap → Prop) (h : AHeap) (a : AAct) : Prop :=
 leaveA P X Tryz.f130 ⟨(upds a.env [(52, (a.env 6)), (4, (a.env 6)), (5, (.int .i64 0))]), a.defers⟩ K a.defers ((h.bump 3))
/-- cubbyhole/links.New -/
def f130 (X : Caller) (L : Looper) (K : Value → AHeap → Prop) (h : AHeap) (t0 t1 : Value) : Prop :=
 rdK ((fun h : AHeap => binC P .lss 3 3 t0 (.int .i64 1) h) (((h.bump 2).bump 14))) (((h.bump 2).bump 14)) fun t10 h =>
 gopK (wantV t10 false) h (some (t0, h)) fun t12 h =>
 gopK (wantV t10 false) h ((binC P .gtr 3 3 t12 (.int .i64 4194304) h).map (·, h)) fun t13 h =>
 opK (pickV t10 (.bool true) t13 h) fun t14 h =>
 gopK (wantV t14 false) h (some (t1, h)) fun t16 h =>
 gopK (wantV t14 false) h ((binC P .lss 3 3 t16 (.int .i64 1) h).map (·, h)) fun t17 h =>
 opK (pickV t14 (.bool true) t17 h) fun t18 h =>
 gopK (wantV t18 false) h (some (t1, h)) fun t20 h =>
 gopK (wantV t18 false) h ((binC P .gtr 3 3 t20 (.int .i64 4096) h).map (·, h)) fun t21 h =>
 opK (pickV t18 (.bool true) t21 h) fun t22 h =>
 condK t22
 (K (.tuple #[(.pointer none), (.int .i64 2)]) ((h.bump 2)))
 (regK 10 h fun b h =>
 rdK (binV P .add 3 3 t0 t1 h) h fun t25 h =>
 opK (makeSliceA P 275 t25 t25 (b + 3) h) fun t26 h =>
 opK (makeSliceA P 276 t1 t1 (b + 6) h) fun t29 h =>
 rdK (buildA P 278 [(0, t26), (1, t0), (2, t29)]) h fun t30 h =>
 opK (boxV t30 (b + 8) h) fun t31 h =>
 L (f130_l7 X L) ⟨(upds (argsEnv [t0, t1]) [(4, (.pointer none)), (5, (.int .i64 0)), (9, t0), (10, t10), (11, t10), (12, t12), (13, t13), (14, t14), (15, t14), (16, t16), (17, t17), (18, t18), (19, t18), (20, t20), (21, t21), (22, t22), (23, t0), (24, t1), (25, t25), (26, t26), (27, t0), (28, t1), (29, t29), (30, t30), (31, t31), (6, t31), (32, t1), (33, (.int .i64 0))]), []⟩ (blkX 0 (seqX (fun a h => f130_j5 X L K h a) (finX P X Tryz.f130 K))) ((h.bump 2)))
theorem f130_eq (X : Caller) (L : Looper) (K : Value → AHeap → Prop) (h : AHeap) (t0 t1 : Value) : aJob P X L (.call 130 [t0, t1]) K h = f130 X L K h t0 t1 := by kernel_rfl
/-- cubbyhole/probe.Valid -/
def f131 (X : Caller) (L : Looper) (K : Value → AHeap → Prop) (h : AHeap) (t0 : Value) : Prop :=
 rdK ((fun h : AHeap => binC P .gtr 3 3 t0 (.int .i64 0) h) (((h.bump 1).bump 14))) (((h.bump 1).bump 14)) fun t4 h =>
 gopK (wantV t4 true) h (some (t0, h)) fun t6 h =>
 gopK (wantV t4 true) h ((binC P .leq 3 3 t6 (.int .i64 1048576) h).map (·, h)) fun t7 h =>
 opK (pickV t4 t7 (.bool false) h) fun t8 h =>
 gopK (wantV t8 true) h (some (t0, h)) fun t10 h =>
 gopK (wantV t8 true) h (some (t0, h)) fun t11 h =>
 gopK (wantV t8 true) h ((binC P .sub 3 3 t11 (.int .i64 1) h).map (·, h)) fun t12 h =>
 gopK (wantV t8 true) h ((binV P .and 3 3 t10 t12 h).map (·, h)) fun t13 h =>
 gopK (wantV t8 true) h ((binC P .eql 3 3 t13 (.int .i64 0) h).map (·, h)) fun t14 h =>
 opK (pickV t8 t14 (.bool false) h) fun t15 h =>
 K t15 h
theorem f131_eq (X : Caller) (L : Looper) (K : Value → AHeap → Prop) (h : AHeap) (t0 : Value) : aJob P X L (.call 131 [t0]) K h = f131 X L K h t0 := by kernel_rfl
/-- cubbyhole/control.Blank -/
def f132 (X : Caller) (L : Looper) (K : Value → AHeap → Prop) (h : AHeap) : Prop :=
 X (.call 179 [(.int .u8 128)]) (fun t1 h =>
 K t1 h) (((h.bump 1).bump 2))
theorem f132_eq (X : Caller) (L : Looper) (K : Value → AHeap → Prop) (h : AHeap) : aJob P X L (.call 132 []) K h = f132 X L K h  := by kernel_rfl
/-- cubbyhole/wheel.New -/
def f133 (X : Caller) (L : Looper) (K : Value → AHeap → Prop) (h : AHeap) : Prop :=
 X (.call 130 [(.int .i64 8), (.int .i64 256)]) (fun t4 h =>
 opK (extV 0 t4 h) fun t5 h =>
 opK (extV 1 t4 h) fun t6 h =>
 regK 4 h fun b h =>
 rdK (buildA P 287 [(0, t5)]) h fun t8 h =>
 opK (boxV t8 (b + 2) h) fun t9 h =>
 K t9 h) (((h.bump 1).bump 6))
theorem f133_eq (X : Caller) (L : Looper) (K : Value → AHeap → Prop) (h : AHeap) : aJob P X L (.call 133 []) K h = f133 X L K h  := by kernel_rfl
/-- (*cubbyhole/cascade.Cascade).check -/
def f134 (X : Caller) (L : Looper) (K : Value → AHeap → Prop) (h : AHeap) (t0 t1 : Value) : Prop :=
 rdK ((fun h : AHeap => binC P .eql 159 159 t0 (.pointer none) h) (((h.bump 1).bump 10))) (((h.bump 1).bump 10)) fun t7 h =>
 gopK (wantV t7 false) h (some (t0, h)) fun t9 h =>
 gopK (wantV t7 false) h (nilV t9 h) fun t10 h =>
 gopK (wantV t7 false) h ((fAddr 9 t10).map (·, h)) fun t11 h =>
 gopK (wantV t7 false) h ((ld1 t11 h).map (·, h)) fun t12 h =>
 gopK (wantV t7 false) h ((binC P .eql 162 162 t12 (.map none) h).map (·, h)) fun t13 h =>
 opK (pickV t7 (.bool true) t13 h) fun t14 h =>
 condK t14
 (K (.int .i64 1) ((h.bump 1)))
 (rdK ((fun h : AHeap => binC P .geq 81 81 t1 (.int .u32 4194304) h) ((h.bump 3))) ((h.bump 3)) fun t17 h =>
  condK t17
  (K (.int .i64 2) ((h.bump 1)))
  (K (.int .i64 0) ((h.bump 1))))
theorem f134_eq (X : Caller) (L : Looper) (K : Value → AHeap → Prop) (h : AHeap) (t0 t1 : Value) : aJob P X L (.call 134 [t0, t1]) K h = f134 X L K h t0 t1 := by kernel_rfl
def f135_l13 (X : Caller) (L : Looper) (a : AAct) (K : ActPost) (h : AHeap) : Prop :=
 rdK ((fun h : AHeap => binV P .lss 3 3 (a.env 43) (a.env 42) h) ((h.bump 1))) ((h.bump 1)) fun t44 h =>
 condK t44
 (regK 6 ((h.bump 2)) fun b h =>
 X (.call 181 [(a.env 0), (a.env 43), (.int .i64 255)]) (fun t49 h =>
 opK (builtinV P .append [143, 143] [(a.env 8), t49] (b + 4) h) fun t50 h =>
 rdK ((fun h : AHeap => binC P .add 3 3 (a.env 43) (.int .i64 1) h) ((h.bump 2))) ((h.bump 2)) fun t51 h =>
 K .normal ⟨(upds a.env [(44, t44), (45, (a.env 43)), (9, (a.env 43)), (46, (a.env 8)), (47, (a.env 0)), (48, (a.env 43)), (49, t49), (50, t50), (8, t50), (51, t51), (43, t51)]), a.defers⟩ h) h)
 (K (.exit 1) ⟨(upds a.env [(44, t44)]), a.defers⟩ h)
def f135_j25 (X : Caller) (L : Looper) (K : ActPost) (h : AHeap) (a : AAct) : Prop :=
 rdK ((fun h : AHeap => binC P .add 3 3 (a.env 60) (.int .i64 1) h) ((h.bump 2))) ((h.bump 2)) fun t85 h =>
 K .normal ⟨(upds a.env [(85, t85), (60, t85)]), a.defers⟩ h
def f135_l22 (X : Caller) (L : Looper) (a : AAct) (K : ActPost) (h : AHeap) : Prop :=
 rdK ((fun h : AHeap => binV P .lss 3 3 (a.env 60) (a.env 59) h) ((h.bump 1))) ((h.bump 1)) fun t61 h =>
 condK t61
 (rdK ((fun h : AHeap => ixS 1 (a.env 58) (a.env 60)) ((h.bump 3))) ((h.bump 3)) fun t62 h =>
 rdK (ld1 t62 h) h fun t63 h =>
 regK 8 h fun b_3 h =>
 opK (nilV (a.env 0) h) fun t65 h =>
 rdK (fAddr 9 t65) h fun t66 h =>
 rdK (ld1 t66 h) h fun t67 h =>
 rdK (lookupA P 162 t67 t63 false h) h fun t69 h =>
 opK (newV [.int .u32 0, .int .u64 0, .int .u64 0] (b_3 + 6) h) fun t13 h =>
 stK (stV 3 t13 t69 h) fun h =>
 rdK ((fun h : AHeap => fAddr 1 t13) ((h.bump 5))) ((h.bump 5)) fun t70 h =>
 rdK (ld1 t70 h) h fun t71 h =>
 X (.call 41 [t71, (a.env 1)]) (fun t73 h =>
 rdK (unV P .not 4 t73) h fun t74 h =>
 condK t74
 (rdK ((fun h : AHeap => ldN 3 t13 h) ((h.bump 3))) ((h.bump 3)) fun t76 h =>
  X (.call 182 [(a.env 0), t76]) (fun t77 h =>
  f135_j25 X L K h ⟨(upds a.env [(61, t61), (62, t62), (63, t63), (12, t63), (64, (a.env 0)), (65, t65), (66, t66), (67, t67), (68, t63), (69, t69), (13, t13), (70, t70), (71, t71), (72, (a.env 1)), (73, t73), (74, t74), (75, (a.env 0)), (76, t76), (77, t77)]), a.defers⟩) h)
 (rdK ((fun h : AHeap => ldN 3 t13 h) ((h.bump 3))) ((h.bump 3)) fun t79 h =>
 X (.call 183 [(a.env 0), t79]) (fun t80 h =>
 regK 5 h fun b_4 h =>
 rdK (ldN 3 t13 h) h fun t82 h =>
 opK (bsliceV P 171 1 [(0, t82)] (b_4 + 2) h) fun t83 h =>
 opK (builtinV P .append [171, 171] [(a.env 10), t83] (b_4 + 3) h) fun t84 h =>
 f135_j25 X L K h ⟨(upds a.env [(61, t61), (62, t62), (63, t63), (12, t63), (64, (a.env 0)), (65, t65), (66, t66), (67, t67), (68, t63), (69, t69), (13, t13), (70, t70), (71, t71), (72, (a.env 1)), (73, t73), (74, t74), (78, (a.env 0)), (79, t79), (80, t80), (81, (a.env 10)), (82, t82), (83, t83), (84, t84), (10, t84)]), a.defers⟩) h)) h)
 (K (.exit 3) ⟨(upds a.env [(61, t61)]), a.defers⟩ h)
def f135_j20 (X : Caller) (L : Looper) (K : Value → AHeap → Prop) (h : AHeap) (a : AAct) : Prop :=
 X (.call 184 [(a.env 10), (.func (.func 185) #[] #[])]) (fun t87 h =>
 leaveA P X Tryz.f135 ⟨(upds a.env [(86, (a.env 10)), (87, t87), (88, (a.env 10)), (4, (a.env 10)), (5, (.int .i64 0))]), a.defers⟩ K a.defers ((h.bump 3))) ((h.bump 2))
def f135_j11 (X : Caller) (L : Looper) (K : Value → AHeap → Prop) (h : AHeap) (a : AAct) : Prop :=
 regK 7 h fun b_1 h =>
 X (.call 181 [(a.env 0), (a.env 6), (a.env 7)]) (fun t56 h =>
 opK (builtinV P .append [143, 143] [(a.env 8), t56] (b_1 + 5) h) fun t57 h =>
 regK 3 ((h.bump 1)) fun b_2 h =>
 opK (builtinV P .len [143] [t57] (b_2 + 1) h) fun t59 h =>
 L (f135_l22 X L) ⟨(upds a.env [(52, (a.env 8)), (53, (a.env 0)), (54, (a.env 6)), (55, (a.env 7)), (56, t56), (57, t57), (8, t57), (10, (.slice none 0 0)), (58, t57), (59, t59), (60, (.int .i64 0))]), a.defers⟩ (blkX 3 (seqX (fun a h => f135_j20 X L K h a) (finX P X Tryz.f135 K))) h) h
/-- (*cubbyhole/cascade.Cascade).Advance -/
def f135 (X : Caller) (L : Looper) (K : Value → AHeap → Prop) (h : AHeap) (t0 t1 : Value) : Prop :=
 X (.call 134 [t0, (.int .u32 0)]) (fun t16 h =>
 rdK (binC P .neq 24 24 t16 (.int .i64 0) h) h fun t17 h =>
 condK t17
 (K (.tuple #[(.slice none 0 0), (.int .i64 1)]) ((h.bump 2)))
 (opK ((fun h : AHeap => nilV t0 h) ((h.bump 7))) fun t21 h =>
  rdK (fAddr 0 t21) h fun t22 h =>
  rdK (ld1 t22 h) h fun t23 h =>
  rdK (binV P .lss 33 33 t1 t23 h) h fun t24 h =>
  condK t24
  (K (.tuple #[(.slice none 0 0), (.int .i64 3)]) ((h.bump 2)))
  (opK ((fun h : AHeap => nilV t0 h) ((h.bump 7))) fun t28 h =>
   rdK (fAddr 0 t28) h fun t29 h =>
   rdK (ld1 t29 h) h fun t30 h =>
   rdK (binV P .eql 33 33 t1 t30 h) h fun t31 h =>
   condK t31
   (K (.tuple #[(.slice none 0 0), (.int .i64 0)]) ((h.bump 2)))
   (X (.call 180 [t0, t1]) (fun t35 h =>
 opK (extV 0 t35 h) fun t36 h =>
 opK (extV 1 t35 h) fun t37 h =>
 opK ((fun h : AHeap => nilV t0 h) ((h.bump 5))) fun t40 h =>
 rdK (fAddr 0 t40) h fun t41 h =>
 stK (stV 1 t41 t1 h) fun h =>
 L (f135_l13 X L) ⟨(upds (argsEnv [t0, t1]) [(4, (.slice none 0 0)), (5, (.int .i64 0)), (15, t0), (16, t16), (17, t17), (14, t17), (19, t1), (20, t0), (21, t21), (22, t22), (23, t23), (24, t24), (18, t24), (26, t1), (27, t0), (28, t28), (29, t29), (30, t30), (31, t31), (25, t31), (33, t0), (34, t1), (35, t35), (32, t35), (36, t36), (37, t37), (6, t36), (7, t37), (38, t0), (39, t1), (40, t40), (41, t41), (8, (.slice none 0 0)), (42, t36), (43, (.int .i64 0))]), []⟩ (blkX 1 (seqX (fun a h => f135_j11 X L K h a) (finX P X Tryz.f135 K))) (((h.bump 1).bump 2))) ((h.bump 8)))))) (((h.bump 2).bump 4))
theorem f135_eq (X : Caller) (L : Looper) (K : Value → AHeap → Prop) (h : AHeap) (t0 t1 : Value) : aJob P X L (.call 135 [t0, t1]) K h = f135 X L K h t0 t1 := by kernel_rfl
/-- (*cubbyhole/budget.Budget).none -/
def f136 (X : Caller) (L : Looper) (K : Value → AHeap → Prop) (h : AHeap) (t0 : Value) : Prop :=
 rdK ((fun h : AHeap => binC P .eql 86 86 t0 (.pointer none) h) (((h.bump 1).bump 11))) (((h.bump 1).bump 11)) fun t4 h =>
 gopK (wantV t4 false) h (some (t0, h)) fun t6 h =>
 gopK (wantV t4 false) h (nilV t6 h) fun t7 h =>
 gopK (wantV t4 false) h ((fAddr 0 t7).map (·, h)) fun t8 h =>
 gopK (wantV t4 false) h ((ldN 2 t8 h).map (·, h)) fun t9 h =>
 gopK (wantV t4 false) h ((buildA P 150 []).map (·, h)) fun t10 h =>
 gopK (wantV t4 false) h ((binV P .eql 150 150 t9 t10 h).map (·, h)) fun t11 h =>
 opK (pickV t4 (.bool true) t11 h) fun t12 h =>
 K t12 h
theorem f136_eq (X : Caller) (L : Looper) (K : Value → AHeap → Prop) (h : AHeap) (t0 : Value) : aJob P X L (.call 136 [t0]) K h = f136 X L K h t0 := by kernel_rfl
def f137_l5 (X : Caller) (L : Looper) (a : AAct) (K : ActPost) (h : AHeap) : Prop :=
 rdK ((fun h : AHeap => binV P .lss 3 3 (a.env 22) (a.env 21) h) ((h.bump 1))) ((h.bump 1)) fun t23 h =>
 condK t23
 (regK 4 h fun b_4 h =>
 rdK (ixS 2 (a.env 20) (a.env 22)) h fun t24 h =>
 rdK (ldN 2 t24 h) h fun t25 h =>
 opK (newV [.int .u32 0, .int .i64 0] (b_4 + 2) h) fun t11 h =>
 stK (stV 2 t11 t25 h) fun h =>
 rdK ((fun h : AHeap => fAddr 0 t11) ((h.bump 13))) ((h.bump 13)) fun t26 h =>
 rdK (ld1 t26 h) h fun t27 h =>
 rdK (binC P .geq 81 81 t27 (.int .u32 4194304) h) h fun t28 h =>
 gopK (wantV t28 false) h ((fAddr 1 t11).map (·, h)) fun t30 h =>
 gopK (wantV t28 false) h ((ld1 t30 h).map (·, h)) fun t31 h =>
 gopK (wantV t28 false) h ((binC P .lss 3 3 t31 (.int .i64 0) h).map (·, h)) fun t32 h =>
 opK (pickV t28 (.bool true) t32 h) fun t33 h =>
 gopK (wantV t33 false) h ((fAddr 1 t11).map (·, h)) fun t35 h =>
 gopK (wantV t33 false) h ((ld1 t35 h).map (·, h)) fun t36 h =>
 gopK (wantV t33 false) h ((binC P .gtr 3 3 t36 (.int .i64 1099511627776) h).map (·, h)) fun t37 h =>
 opK (pickV t33 (.bool true) t37 h) fun t38 h =>
 condK t38
 (rdK ((fun h : AHeap => buildA P 238 []) ((h.bump 3))) ((h.bump 3)) fun t39 h =>
  stK (stV 2 (a.env 6) t39 h) fun h =>
  K .ret ⟨(upds a.env [(23, t23), (24, t24), (25, t25), (11, t11), (26, t26), (27, t27), (28, t28), (29, t28), (30, t30), (31, t31), (32, t32), (33, t33), (34, t33), (35, t35), (36, t36), (37, t37), (38, t38), (39, t39), (7, (.int .i64 2))]), a.defers⟩ h)
 (rdK ((fun h : AHeap => fAddr 0 t11) ((h.bump 5))) ((h.bump 5)) fun t41 h =>
 rdK (ld1 t41 h) h fun t42 h =>
 rdK (buildA P 296 []) h fun t43 h =>
 stK (mapPutA P 295 (a.env 9) t42 t43 h) fun h =>
 rdK ((fun h : AHeap => binC P .add 3 3 (a.env 22) (.int .i64 1) h) ((h.bump 2))) ((h.bump 2)) fun t44 h =>
 K .normal ⟨(upds a.env [(23, t23), (24, t24), (25, t25), (11, t11), (26, t26), (27, t27), (28, t28), (29, t28), (30, t30), (31, t31), (32, t32), (33, t33), (34, t33), (35, t35), (36, t36), (37, t37), (38, t38), (40, (a.env 9)), (41, t41), (42, t42), (43, t43), (44, t44), (22, t44)]), a.defers⟩ h))
 (K (.exit 0) ⟨(upds a.env [(23, t23)]), a.defers⟩ h)
def f137_j3 (X : Caller) (L : Looper) (K : Value → AHeap → Prop) (h : AHeap) (a : AAct) : Prop :=
 regK 11 h fun b_5 h =>
 opK (builtinV P .len [295] [(a.env 9)] (b_5 + 1) h) fun t46 h =>
 rdK (fAddr 0 (a.env 8)) h fun t47 h =>
 rdK (ld1 t47 h) h fun t48 h =>
 opK (builtinV P .len [178] [t48] (b_5 + 4) h) fun t49 h =>
 rdK (binV P .neq 3 3 t46 t49 h) h fun t50 h =>
 gopK (wantV t50 false) h (some ((a.env 9), h)) fun t52 h =>
 gopK (wantV t50 false) h (builtinV P .len [295] [t52] (b_5 + 8) h) fun t53 h =>
 gopK (wantV t50 false) h ((binC P .gtr 3 3 t53 (.int .i64 2097152) h).map (·, h)) fun t54 h =>
 opK (pickV t50 (.bool true) t54 h) fun t55 h =>
 condK t55
 (rdK ((fun h : AHeap => buildA P 238 []) ((h.bump 3))) ((h.bump 3)) fun t56 h =>
  stK (stV 2 (a.env 6) t56 h) fun h =>
  leaveA P X Tryz.f137 ⟨(upds a.env [(45, (a.env 9)), (46, t46), (47, t47), (48, t48), (49, t49), (50, t50), (51, t50), (52, t52), (53, t53), (54, t54), (55, t55), (56, t56), (7, (.int .i64 2))]), a.defers⟩ K a.defers h)
 (rdK ((fun h : AHeap => ldN 2 (a.env 8) h) ((h.bump 3))) ((h.bump 3)) fun t57 h =>
 stK (stV 2 (a.env 6) t57 h) fun h =>
 leaveA P X Tryz.f137 ⟨(upds a.env [(45, (a.env 9)), (46, t46), (47, t47), (48, t48), (49, t49), (50, t50), (51, t50), (52, t52), (53, t53), (54, t54), (55, t55), (57, t57), (7, (.int .i64 0))]), a.defers⟩ K a.defers h)
/-- cubbyhole/victim.of -/
def f137 (X : Caller) (L : Looper) (K : Value → AHeap → Prop) (h : AHeap) (t0 t1 t2 : Value) : Prop :=
 regK 2 h fun b h =>
 opK (newV [.slice none 0 0, .int .u32 0] (b + 0) h) fun t6 h =>
 regK 8 h fun b_1 h =>
 opK (bsliceV P 334 2 [(0, t0), (1, t1)] (b_1 + 2) h) fun t14 h =>
 X (.call 189 [t14]) (fun t15 h =>
 rdK (buildA P 238 [(0, t15), (1, t2)]) h fun t17 h =>
 opK (newV [.slice none 0 0, .int .u32 0] (b_1 + 6) h) fun t8 h =>
 stK (stV 2 t8 t17 h) fun h =>
 regK 2 h fun b_2 h =>
 opK (mapV (b_2 + 0) h) fun t18 h =>
 regK 4 h fun b_3 h =>
 rdK (fAddr 0 t8) h fun t19 h =>
 rdK (ld1 t19 h) h fun t20 h =>
 opK (builtinV P .len [178] [t20] (b_3 + 2) h) fun t21 h =>
 L (f137_l5 X L) ⟨(upds (argsEnv [t0, t1, t2]) [(6, t6), (7, (.int .i64 0)), (12, t0), (13, t1), (14, t14), (15, t15), (16, t2), (17, t17), (8, t8), (18, t18), (9, t18), (19, t19), (20, t20), (21, t21), (22, (.int .i64 0))]), []⟩ (blkX 0 (seqX (fun a h => f137_j3 X L K h a) (finX P X Tryz.f137 K))) h) h
theorem f137_eq (X : Caller) (L : Looper) (K : Value → AHeap → Prop) (h : AHeap) (t0 t1 t2 : Value) : aJob P X L (.call 137 [t0, t1, t2]) K h = f137 X L K h t0 t1 t2 := by kernel_rfl
def f138_l4 (X : Caller) (L : Looper) (a : AAct) (K : ActPost) (h : AHeap) : Prop :=
 rdK ((fun h : AHeap => binV P .lss 3 3 (a.env 19) (a.env 18) h) ((h.bump 1))) ((h.bump 1)) fun t20 h =>
 condK t20
 (regK 4 h fun b_3 h =>
 rdK (ixS 2 (a.env 17) (a.env 19)) h fun t21 h =>
 rdK (ldN 2 t21 h) h fun t22 h =>
 opK (newV [.int .u32 0, .int .i64 0] (b_3 + 2) h) fun t10 h =>
 stK (stV 2 t10 t22 h) fun h =>
 rdK ((fun h : AHeap => fAddr 1 t10) ((h.bump 5))) ((h.bump 5)) fun t24 h =>
 rdK (ld1 t24 h) h fun t25 h =>
 rdK (binV P .add 3 3 (a.env 8) t25 h) h fun t26 h =>
 rdK ((fun h : AHeap => binC P .add 3 3 (a.env 19) (.int .i64 1) h) ((h.bump 2))) ((h.bump 2)) fun t27 h =>
 K .normal ⟨(upds a.env [(20, t20), (21, t21), (22, t22), (10, t10), (23, (a.env 8)), (24, t24), (25, t25), (26, t26), (8, t26), (27, t27), (19, t27)]), a.defers⟩ h)
 (K (.exit 0) ⟨(upds a.env [(20, t20)]), a.defers⟩ h)
def f138_l12 (X : Caller) (L : Looper) (a : AAct) (K : ActPost) (h : AHeap) : Prop :=
 regK 13 h fun b_4 h =>
 opK (builtinV P .len [178] [(a.env 12)] (b_4 + 1) h) fun t31 h =>
 rdK (binC P .gtr 3 3 t31 (.int .i64 0) h) h fun t32 h =>
 gopK (wantV t32 true) h (some ((a.env 7), h)) fun t34 h =>
 gopK (wantV t32 true) h (some ((a.env 1), h)) fun t35 h =>
 gopK (wantV t32 true) h ((binV P .gtr 3 3 t34 t35 h).map (·, h)) fun t36 h =>
 gopK (wantV t32 true) h (some (t36, h)) fun t37 h =>
 gopK (wantV t37 false) h (some ((a.env 8), h)) fun t38 h =>
 gopK (wantV t37 false) h (some ((a.env 2), h)) fun t39 h =>
 gopK (wantV t37 false) h ((binV P .gtr 3 3 t38 t39 h).map (·, h)) fun t40 h =>
 gopK (wantV t32 true) h (pickV t37 (.bool true) t40 h) fun t41 h =>
 opK (pickV t32 t41 (.bool false) h) fun t42 h =>
 condK t42
 (rdK ((fun h : AHeap => binC P .sub 3 3 (a.env 7) (.int .i64 1) h) ((h.bump 10))) ((h.bump 10)) fun t44 h =>
 rdK (ixS 2 (a.env 12) (.int .i64 0)) h fun t47 h =>
 rdK (fAddr 1 t47) h fun t48 h =>
 rdK (ld1 t48 h) h fun t49 h =>
 rdK (binV P .sub 3 3 (a.env 8) t49 h) h fun t50 h =>
 regK 11 h fun b_5 h =>
 rdK (ixS 2 (a.env 12) (.int .i64 0)) h fun t53 h =>
 rdK (fAddr 0 t53) h fun t54 h =>
 rdK (ld1 t54 h) h fun t55 h =>
 opK (bsliceV P 143 1 [(0, t55)] (b_5 + 5) h) fun t56 h =>
 opK (sliceV P 178 (a.env 12) (some (.int .i64 1)) none none h) fun t59 h =>
 opK (builtinV P .append [143, 143] [(a.env 11), t56] (b_5 + 6) h) fun t57 h =>
 chkK (chkR (sliceV P 178 (a.env 12) (some (.int .i64 1)) none none h) t59 true) <|
 K .normal ⟨(upds a.env [(30, (a.env 12)), (31, t31), (32, t32), (33, t32), (34, t34), (35, t35), (36, t36), (37, t37), (38, t38), (39, t39), (40, t40), (41, t41), (42, t42), (43, (a.env 7)), (44, t44), (45, (a.env 8)), (46, (a.env 12)), (47, t47), (48, t48), (49, t49), (50, t50), (7, t44), (8, t50), (51, (a.env 11)), (52, (a.env 12)), (53, t53), (54, t54), (55, t55), (56, t56), (58, (a.env 12)), (59, t59), (57, t57), (11, t57), (12, t59)]), a.defers⟩ h)
 (K (.exit 2) ⟨(upds a.env [(30, (a.env 12)), (31, t31), (32, t32), (33, t32), (34, t34), (35, t35), (36, t36), (37, t37), (38, t38), (39, t39), (40, t40), (41, t41), (42, t42)]), a.defers⟩ h)
def f138_j11 (X : Caller) (L : Looper) (K : Value → AHeap → Prop) (h : AHeap) (a : AAct) : Prop :=
 leaveA P X Tryz.f138 ⟨(upds a.env [(60, (a.env 11)), (6, (a.env 11))]), a.defers⟩ K a.defers ((h.bump 2))
def f138_j2 (X : Caller) (L : Looper) (K : Value → AHeap → Prop) (h : AHeap) (a : AAct) : Prop :=
 rdK ((fun h : AHeap => ldN 2 (a.env 3) h) (((h.bump 1).bump 3))) (((h.bump 1).bump 3)) fun t28 h =>
 X (.call 190 [t28]) (fun t29 h =>
 L (f138_l12 X L) ⟨(upds a.env [(11, (.slice none 0 0)), (28, t28), (29, t29), (12, t29)]), a.defers⟩ (blkX 2 (seqX (fun a h => f138_j11 X L K h a) (finX P X Tryz.f138 K))) h) h
/-- (cubbyhole/victim.choice).victims -/
def f138 (X : Caller) (L : Looper) (K : Value → AHeap → Prop) (h : AHeap) (t0 t1 t2 : Value) : Prop :=
 regK 2 h fun b h =>
 opK (boxV t0 (b + 0) h) fun t3 h =>
 regK 5 h fun b_1 h =>
 rdK (fAddr 0 t3) h fun t13 h =>
 rdK (ld1 t13 h) h fun t14 h =>
 opK (builtinV P .len [178] [t14] (b_1 + 2) h) fun t15 h =>
 regK 4 h fun b_2 h =>
 rdK (fAddr 0 t3) h fun t16 h =>
 rdK (ld1 t16 h) h fun t17 h =>
 opK (builtinV P .len [178] [t17] (b_2 + 2) h) fun t18 h =>
 L (f138_l4 X L) ⟨(upds (argsEnv [t0, t1, t2]) [(3, t3), (6, (.slice none 0 0)), (13, t13), (14, t14), (15, t15), (7, t15), (8, (.int .i64 0)), (16, t16), (17, t17), (18, t18), (19, (.int .i64 0))]), []⟩ (blkX 0 (seqX (fun a h => f138_j2 X L K h a) (finX P X Tryz.f138 K))) h
theorem f138_eq (X : Caller) (L : Looper) (K : Value → AHeap → Prop) (h : AHeap) (t0 t1 t2 : Value) : aJob P X L (.call 138 [t0, t1, t2]) K h = f138 X L K h t0 t1 t2 := by kernel_rfl
/-- (*cubbyhole/segment.Segments).has -/
def f139 (X : Caller) (L : Looper) (K : Value → AHeap → Prop) (h : AHeap) (t0 t1 : Value) : Prop :=
 X (.call 75 [t0, (.int .u32 0), (.int .i64 0)]) (fun t6 h =>
 rdK (binC P .eql 24 24 t6 (.int .i64 0) h) h fun t7 h =>
 gopK (wantV t7 true) h (some (t1, h)) fun t9 h =>
 gopK (wantV t7 true) h ((binC P .geq 94 94 t9 (.int .i64 0) h).map (·, h)) fun t10 h =>
 opK (pickV t7 t10 (.bool false) h) fun t11 h =>
 gopK (wantV t11 true) h (some (t1, h)) fun t13 h =>
 gopK (wantV t11 true) h ((binC P .leq 94 94 t13 (.int .i64 1) h).map (·, h)) fun t14 h =>
 opK (pickV t11 t14 (.bool false) h) fun t15 h =>
 K t15 h) (((h.bump 1).bump 12))
theorem f139_eq (X : Caller) (L : Looper) (K : Value → AHeap → Prop) (h : AHeap) (t0 t1 : Value) : aJob P X L (.call 139 [t0, t1]) K h = f139 X L K h t0 t1 := by kernel_rfl
/-- (*cubbyhole/lru.LRU).All -/
def f140 (X : Caller) (L : Looper) (K : Value → AHeap → Prop) (h : AHeap) (t0 : Value) : Prop :=
 X (.call 172 [t0, (.int .u32 0)]) (fun t4 h =>
 rdK (binC P .neq 24 24 t4 (.int .i64 0) h) h fun t5 h =>
 condK t5
 (K (.func (.func 191) #[] #[]) ((h.bump 1)))
 (opK ((fun h : AHeap => nilV t0 h) ((h.bump 6))) fun t7 h =>
 rdK (fAddr 0 t7) h fun t8 h =>
 rdK (ld1 t8 h) h fun t9 h =>
 X (.call 192 [t9, (.int .i64 0)]) (fun t10 h =>
 K t10 h) h)) (((h.bump 1).bump 3))
theorem f140_eq (X : Caller) (L : Looper) (K : Value → AHeap → Prop) (h : AHeap) (t0 : Value) : aJob P X L (.call 140 [t0]) K h = f140 X L K h t0 := by kernel_rfl
/-- (*cubbyhole/entrylog.Log).Len -/
def f141 (X : Caller) (L : Looper) (K : Value → AHeap → Prop) (h : AHeap) (t0 : Value) : Prop :=
 X (.call 156 [t0]) (fun t4 h =>
 condK t4
 (K (.int .i64 0) ((h.bump 1)))
 (regK 6 h fun b h =>
 opK (nilV t0 h) fun t6 h =>
 rdK (fAddr 1 t6) h fun t7 h =>
 rdK (ld1 t7 h) h fun t8 h =>
 opK (builtinV P .len [226] [t8] (b + 4) h) fun t9 h =>
 K t9 h)) (((h.bump 1).bump 2))
theorem f141_eq (X : Caller) (L : Looper) (K : Value → AHeap → Prop) (h : AHeap) (t0 : Value) : aJob P X L (.call 141 [t0]) K h = f141 X L K h t0 := by kernel_rfl
/-- cubbyhole/entry.check -/
def f147 (X : Caller) (L : Looper) (K : Value → AHeap → Prop) (h : AHeap) (t0 t1 t2 : Value) : Prop :=
 regK 15 ((h.bump 1)) fun b h =>
 X (.call 25 [t0]) (fun t8 h =>
 rdK (unV P .not 4 t8) h fun t9 h =>
 gopK (wantV t9 false) h (some (t2, h)) fun t11 h =>
 gopK (wantV t9 false) h ((binC P .eql 27 27 t11 (.int .u64 0) h).map (·, h)) fun t12 h =>
 opK (pickV t9 (.bool true) t12 h) fun t13 h =>
 rdK (buildA P 308 [(0, t13), (1, (.int .i64 2))]) h fun t14 h =>
 opK (builtinV P .len [34] [t1] (b + 9) h) fun t16 h =>
 rdK (binC P .gtr 3 3 t16 (.int .i64 65536) h) h fun t17 h =>
 rdK (buildA P 308 [(0, t17), (1, (.int .i64 5))]) h fun t18 h =>
 opK (bsliceV P 344 2 [(0, t14), (1, t18)] (b + 12) h) fun t19 h =>
 X (.call 199 [t19]) (fun t20 h =>
 K t20 h) h) h
theorem f147_eq (X : Caller) (L : Looper) (K : Value → AHeap → Prop) (h : AHeap) (t0 t1 t2 : Value) : aJob P X L (.call 147 [t0, t1, t2]) K h = f147 X L K h t0 t1 t2 := by kernel_rfl
/-- (*cubbyhole/birth.Counter).zero -/
def f148 (X : Caller) (L : Looper) (K : Value → AHeap → Prop) (h : AHeap) (t0 : Value) : Prop :=
 rdK ((fun h : AHeap => binC P .eql 84 84 t0 (.pointer none) h) (((h.bump 1).bump 10))) (((h.bump 1).bump 10)) fun t4 h =>
 gopK (wantV t4 false) h (some (t0, h)) fun t6 h =>
 gopK (wantV t4 false) h (nilV t6 h) fun t7 h =>
 gopK (wantV t4 false) h ((fAddr 0 t7).map (·, h)) fun t8 h =>
 gopK (wantV t4 false) h ((ld1 t8 h).map (·, h)) fun t9 h =>
 gopK (wantV t4 false) h ((unV P .not 4 t9).map (·, h)) fun t10 h =>
 opK (pickV t4 (.bool true) t10 h) fun t11 h =>
 K t11 h
theorem f148_eq (X : Caller) (L : Looper) (K : Value → AHeap → Prop) (h : AHeap) (t0 : Value) : aJob P X L (.call 148 [t0]) K h = f148 X L K h t0 := by kernel_rfl
/-- (*cubbyhole/entrylog.Log).Set -/
def f149 (X : Caller) (L : Looper) (K : Value → AHeap → Prop) (h : AHeap) (t0 t1 t2 t3 : Value) : Prop :=
 X (.call 123 [t0, t1]) (fun t14 h =>
 opK (extV 0 t14 h) fun t15 h =>
 opK (extV 1 t14 h) fun t16 h =>
 rdK ((fun h : AHeap => binC P .neq 24 24 t16 (.int .i64 0) h) ((h.bump 3))) ((h.bump 3)) fun t19 h =>
 condK t19
 (K t16 ((h.bump 2)))
 (regK 4 h fun b h =>
  opK (builtinV P .len [34] [t2] (b + 1) h) fun t23 h =>
  rdK (binC P .gtr 3 3 t23 (.int .i64 65536) h) h fun t24 h =>
  condK t24
  (K (.int .i64 5) ((h.bump 1)))
  (X (.call 20 [t2]) (fun t28 h =>
 opK (nilV t15 h) fun t30 h =>
 rdK (fAddr 1 t30) h fun t31 h =>
 stK (stV 1 t31 t28 h) fun h =>
 opK (nilV t15 h) fun t32 h =>
 rdK (fAddr 2 t32) h fun t33 h =>
 stK (stV 1 t33 t3 h) fun h =>
 K (.int .i64 0) ((h.bump 1))) ((h.bump 11))))) (((h.bump 1).bump 8))
theorem f149_eq (X : Caller) (L : Looper) (K : Value → AHeap → Prop) (h : AHeap) (t0 t1 t2 t3 : Value) : aJob P X L (.call 149 [t0, t1, t2, t3]) K h = f149 X L K h t0 t1 t2 t3 := by kernel_rfl
def f150_j1 (X : Caller) (L : Looper) (K : Value → AHeap → Prop) (h : AHeap) (t0 t13 t14 t15 t3 t17 t19 t20 t21 t23 t25 t16 t18 t28 t29 t26 t22 t24 t30 t31 t27 : Value) : Prop :=
 opK ((fun h : AHeap => nilV t0 h) ((h.bump 21))) fun t14_1 h =>
 rdK (fAddr 1 t14_1) h fun t15_1 h =>
 rdK (ld1 t15_1 h) h fun t16_1 h =>
 rdK (fAddr 2 t3) h fun t17_1 h =>
 rdK (ld1 t17_1 h) h fun t18_1 h =>
 opK (nilV t0 h) fun t20_1 h =>
 rdK (fAddr 2 t20_1) h fun t21_1 h =>
 rdK (ld1 t21_1 h) h fun t22_1 h =>
 rdK (fAddr 0 t3) h fun t23_1 h =>
 rdK (ld1 t23_1 h) h fun t24_1 h =>
 rdK (fAddr 0 t3) h fun t25_1 h =>
 rdK (ld1 t25_1 h) h fun t26_1 h =>
 rdK (ldN 3 t3 h) h fun t27_1 h =>
 opK (mapEntryA P 161 t16_1 t18_1 h) fun t28_1 h =>
 chkK (chkR ((ldN 3 t3 h).map (·, h)) t27_1 (chkR ((ld1 t25_1 h).map (·, h)) t26_1 (chkR ((ld1 t23_1 h).map (·, h)) t24_1 true))) <|
 opK (extV 1 t28_1 h) fun t29_1 h =>
 stK (entryStoreA t16_1 t29_1 t26_1 h) fun h =>
 chkK (chkR ((ldN 3 t3 h).map (·, h)) t27_1 (chkR ((ld1 t23_1 h).map (·, h)) t24_1 true)) <|
 opK (mapEntryA P 162 t22_1 t24_1 h) fun t30_1 h =>
 chkK (chkR ((ldN 3 t3 h).map (·, h)) t27_1 true) <|
 opK (extV 1 t30_1 h) fun t31_1 h =>
 stK (entryStoreA t22_1 t31_1 t27_1 h) fun h =>
 K (.tuple #[]) h
/-- (*cubbyhole/due.Deadlines).put -/
def f150 (X : Caller) (L : Looper) (K : Value → AHeap → Prop) (h : AHeap) (t0 t1 : Value) : Prop :=
 regK 1 h fun b h =>
 opK (boxV t1 (b + 0) h) fun t3 h =>
 rdK ((fun h : AHeap => fAddr 1 t3) ((h.bump 3))) ((h.bump 3)) fun t4 h =>
 rdK (ld1 t4 h) h fun t5 h =>
 rdK (binC P .neq 33 33 t5 (.int .u64 18446744073709551615) h) h fun t6 h =>
 condK t6
 (opK ((fun h : AHeap => nilV t0 h) ((h.bump 6))) fun t8 h =>
  rdK (fAddr 0 t8) h fun t9 h =>
  rdK (ld1 t9 h) h fun t10 h =>
  rdK (ldN 3 t3 h) h fun t11 h =>
  X (.call 200 [t10, t11]) (fun t12 h =>
  f150_j1 X L K h t0 undef undef undef t3 undef undef undef undef undef undef undef undef undef undef undef undef undef undef undef undef) h)
 (f150_j1 X L K h t0 undef undef undef t3 undef undef undef undef undef undef undef undef undef undef undef undef undef undef undef undef)
theorem f150_eq (X : Caller) (L : Looper) (K : Value → AHeap → Prop) (h : AHeap) (t0 t1 : Value) : aJob P X L (.call 150 [t0, t1]) K h = f150 X L K h t0 t1 := by kernel_rfl
/-- cubbyhole/entry.New -/
def f151 (X : Caller) (L : Looper) (K : Value → AHeap → Prop) (h : AHeap) (t0 t1 t2 t3 : Value) : Prop :=
 regK 2 h fun b h =>
 opK (newV [.string ⟨#[]⟩, .slice none 0 0, .int .u64 0, .int .u64 0] (b + 0) h) fun t8 h =>
 X (.call 147 [t0, t1, t3]) (fun t14 h =>
 rdK ((fun h : AHeap => binC P .neq 24 24 t14 (.int .i64 0) h) ((h.bump 2))) ((h.bump 2)) fun t16 h =>
 condK t16
 (rdK ((fun h : AHeap => buildA P 59 []) ((h.bump 4))) ((h.bump 4)) fun t17 h =>
  stK (stV 4 t8 t17 h) fun h =>
  retK (consR (ldN 4 t8 h) (consR (some t14) (some []))) K h)
 (rdK ((fun h : AHeap => buildA P 59 [(0, t0), (1, t1), (2, t2), (3, t3)]) ((h.bump 8))) ((h.bump 8)) fun t23 h =>
 X (.call 124 [t23]) (fun t24 h =>
 stK (stV 4 t8 t24 h) fun h =>
 retK (consR (ldN 4 t8 h) (consR (some (.int .i64 0)) (some []))) K h) h)) ((h.bump 5))
theorem f151_eq (X : Caller) (L : Looper) (K : Value → AHeap → Prop) (h : AHeap) (t0 t1 t2 t3 : Value) : aJob P X L (.call 151 [t0, t1, t2, t3]) K h = f151 X L K h t0 t1 t2 t3 := by kernel_rfl
/-- (*cubbyhole/dict.Dict).plan -/
def f152 (X : Caller) (L : Looper) (K : Value → AHeap → Prop) (h : AHeap) (t0 : Value) : Prop :=
 regK 2 h fun b h =>
 opK (newV [.int .i64 0, .bool false] (b + 0) h) fun t2 h =>
 opK ((fun h : AHeap => nilV t0 h) ((h.bump 20))) fun t5 h =>
 rdK (fAddr 3 t5) h fun t6 h =>
 rdK (ld1 t6 h) h fun t7 h =>
 opK (nilV t0 h) fun t10 h =>
 rdK (fAddr 3 t10) h fun t11 h =>
 rdK (ld1 t11 h) h fun t12 h =>
 opK (nilV t0 h) fun t15 h =>
 rdK (fAddr 3 t15) h fun t16 h =>
 rdK (ld1 t16 h) h fun t17 h =>
 X (.call 118 [t7]) (fun t8 h =>
 chkK (chkR ((ld1 t16 h).map (·, h)) t17 (chkR ((ld1 t11 h).map (·, h)) t12 true)) <|
 X (.call 119 [t12]) (fun t13 h =>
 chkK (chkR ((ld1 t16 h).map (·, h)) t17 true) <|
 X (.call 120 [t17]) (fun t18 h =>
 X (.call 201 [t8, t13, t18]) (fun t19 h =>
 opK (extV 0 t19 h) fun t20 h =>
 opK (extV 1 t19 h) fun t21 h =>
 stK (stV 2 t2 t20 h) fun h =>
 retK (consR (ldN 2 t2 h) (consR (some t21) (some []))) K h) h) h) h) h
theorem f152_eq (X : Caller) (L : Looper) (K : Value → AHeap → Prop) (h : AHeap) (t0 : Value) : aJob P X L (.call 152 [t0]) K h = f152 X L K h t0 := by kernel_rfl
/-- (cubbyhole/dict.store).full -/
def f153 (X : Caller) (L : Looper) (K : Value → AHeap → Prop) (h : AHeap) (t0 : Value) : Prop :=
 regK 2 h fun b h =>
 opK (boxV t0 (b + 0) h) fun t1 h =>
 rdK ((fun h : AHeap => fAddr 0 t1) ((h.bump 5))) ((h.bump 5)) fun t3 h =>
 rdK (ld1 t3 h) h fun t4 h =>
 X (.call 141 [t4]) (fun t5 h =>
 rdK (binC P .geq 3 3 t5 (.int .i64 4194304) h) h fun t6 h =>
 K t6 h) h
theorem f153_eq (X : Caller) (L : Looper) (K : Value → AHeap → Prop) (h : AHeap) (t0 : Value) : aJob P X L (.call 153 [t0]) K h = f153 X L K h t0 := by kernel_rfl
/-- (*cubbyhole/entrylog.Log).Append -/
def f154 (X : Caller) (L : Looper) (K : Value → AHeap → Prop) (h : AHeap) (t0 t1 : Value) : Prop :=
 regK 3 h fun b h =>
 opK (boxV t1 (b + 0) h) fun t3 h =>
 X (.call 156 [t0]) (fun t9 h =>
 condK t9
 (K (.tuple #[(.int .u32 0), (.int .i64 1)]) ((h.bump 2)))
 (regK 15 h fun b_1 h =>
 rdK (fAddr 0 t3) h fun t11 h =>
 rdK (ld1 t11 h) h fun t12 h =>
 rdK (fAddr 1 t3) h fun t13 h =>
 rdK (ld1 t13 h) h fun t14 h =>
 rdK (fAddr 2 t3) h fun t15 h =>
 rdK (ld1 t15 h) h fun t16 h =>
 rdK (fAddr 3 t3) h fun t17 h =>
 rdK (ld1 t17 h) h fun t18 h =>
 X (.call 151 [t12, t14, t16, t18]) (fun t19 h =>
 opK (extV 0 t19 h) fun t20 h =>
 opK (extV 1 t19 h) fun t21 h =>
 opK (newV [.string ⟨#[]⟩, .slice none 0 0, .int .u64 0, .int .u64 0] (b_1 + 12) h) fun t6 h =>
 stK (stV 4 t6 t20 h) fun h =>
 rdK ((fun h : AHeap => binC P .neq 24 24 t21 (.int .i64 0) h) ((h.bump 3))) ((h.bump 3)) fun t24 h =>
 condK t24
 (K (.tuple #[(.int .u32 0), t21]) ((h.bump 3)))
 (regK 7 h fun b_2 h =>
  opK (nilV t0 h) fun t28 h =>
  rdK (fAddr 1 t28) h fun t29 h =>
  rdK (ld1 t29 h) h fun t30 h =>
  opK (builtinV P .len [226] [t30] (b_2 + 4) h) fun t31 h =>
  rdK (binC P .geq 3 3 t31 (.int .i64 4194304) h) h fun t32 h =>
  condK t32
  (K (.tuple #[(.int .u32 0), (.int .i64 7)]) ((h.bump 2)))
  (regK 11 h fun b_3 h =>
 opK (nilV t0 h) fun t35 h =>
 rdK (fAddr 1 t35) h fun t36 h =>
 rdK (ld1 t36 h) h fun t37 h =>
 rdK (ldN 4 t6 h) h fun t38 h =>
 opK (bsliceV P 226 1 [(0, t38)] (b_3 + 6) h) fun t39 h =>
 opK (builtinV P .append [226, 226] [t37, t39] (b_3 + 7) h) fun t40 h =>
 opK (nilV t0 h) fun t41 h =>
 rdK (fAddr 1 t41) h fun t42 h =>
 stK (stV 1 t42 t40 h) fun h =>
 opK ((fun h : AHeap => nilV t0 h) ((h.bump 8))) fun t44 h =>
 rdK (fAddr 2 t44) h fun t45 h =>
 rdK (ld1 t45 h) h fun t46 h =>
 rdK (binC P .add 3 3 t46 (.int .i64 1) h) h fun t47 h =>
 opK (nilV t0 h) fun t48 h =>
 rdK (fAddr 2 t48) h fun t49 h =>
 stK (stV 1 t49 t47 h) fun h =>
 regK 9 h fun b_4 h =>
 opK (nilV t0 h) fun t51 h =>
 rdK (fAddr 1 t51) h fun t52 h =>
 rdK (ld1 t52 h) h fun t53 h =>
 opK (builtinV P .len [226] [t53] (b_4 + 4) h) fun t54 h =>
 rdK (binC P .sub 3 3 t54 (.int .i64 1) h) h fun t55 h =>
 opK (convertA P 3 81 t55 (b_4 + 6) h) fun t56 h =>
 K (.tuple #[t56, (.int .i64 0)]) h))) h)) ((h.bump 2))
theorem f154_eq (X : Caller) (L : Looper) (K : Value → AHeap → Prop) (h : AHeap) (t0 t1 : Value) : aJob P X L (.call 154 [t0, t1]) K h = f154 X L K h t0 t1 := by kernel_rfl
/-- (*cubbyhole/dict.Dict).put -/
def f155 (X : Caller) (L : Looper) (K : Value → AHeap → Prop) (h : AHeap) (t0 t1 : Value) : Prop :=
 regK 8 ((h.bump 1)) fun b h =>
 X (.call 152 [t0]) (fun t9 h =>
 opK (extV 0 t9 h) fun t10 h =>
 opK (extV 1 t9 h) fun t11 h =>
 opK (newV [.int .i64 0, .bool false] (b + 5) h) fun t5 h =>
 stK (stV 2 t5 t10 h) fun h =>
 rdK ((fun h : AHeap => binC P .neq 24 24 t11 (.int .i64 0) h) ((h.bump 2))) ((h.bump 2)) fun t13 h =>
 condK t13
 (K t11 ((h.bump 2)))
 (rdK ((fun h : AHeap => ldN 2 t5 h) ((h.bump 3))) ((h.bump 3)) fun t16 h =>
 X (.call 121 [t0, t16]) (fun t17 h =>
 opK ((fun h : AHeap => nilV t0 h) ((h.bump 10))) fun t19 h =>
 rdK (fAddr 3 t19) h fun t20 h =>
 rdK (ld1 t20 h) h fun t21 h =>
 X (.call 115 [t0, t1]) (fun t24 h =>
 chkK (chkR ((ld1 t20 h).map (·, h)) t21 true) <|
 X (.call 202 [t21, t24, t1]) (fun t26 h =>
 K t26 h) h) h) h)) h
theorem f155_eq (X : Caller) (L : Looper) (K : Value → AHeap → Prop) (h : AHeap) (t0 t1 : Value) : aJob P X L (.call 155 [t0, t1]) K h = f155 X L K h t0 t1 := by kernel_rfl
/-- (*cubbyhole/entrylog.Log).zero -/
def f156 (X : Caller) (L : Looper) (K : Value → AHeap → Prop) (h : AHeap) (t0 : Value) : Prop :=
 rdK ((fun h : AHeap => binC P .eql 128 128 t0 (.pointer none) h) (((h.bump 1).bump 10))) (((h.bump 1).bump 10)) fun t4 h =>
 gopK (wantV t4 false) h (some (t0, h)) fun t6 h =>
 gopK (wantV t4 false) h (nilV t6 h) fun t7 h =>
 gopK (wantV t4 false) h ((fAddr 0 t7).map (·, h)) fun t8 h =>
 gopK (wantV t4 false) h ((ld1 t8 h).map (·, h)) fun t9 h =>
 gopK (wantV t4 false) h ((unV P .not 4 t9).map (·, h)) fun t10 h =>
 opK (pickV t4 (.bool true) t10 h) fun t11 h =>
 K t11 h
theorem f156_eq (X : Caller) (L : Looper) (K : Value → AHeap → Prop) (h : AHeap) (t0 : Value) : aJob P X L (.call 156 [t0]) K h = f156 X L K h t0 := by kernel_rfl
/-- (*cubbyhole/swiss.Index).zero -/
def f157 (X : Caller) (L : Looper) (K : Value → AHeap → Prop) (h : AHeap) (t0 : Value) : Prop :=
 regK 11 ((h.bump 1)) fun b h =>
 rdK (binC P .eql 131 131 t0 (.pointer none) h) h fun t4 h =>
 gopK (wantV t4 false) h (some (t0, h)) fun t6 h =>
 gopK (wantV t4 false) h (nilV t6 h) fun t7 h =>
 gopK (wantV t4 false) h ((fAddr 0 t7).map (·, h)) fun t8 h =>
 gopK (wantV t4 false) h ((ld1 t8 h).map (·, h)) fun t9 h =>
 gopK (wantV t4 false) h (builtinV P .len [220] [t9] (b + 7) h) fun t10 h =>
 gopK (wantV t4 false) h ((binC P .eql 3 3 t10 (.int .i64 0) h).map (·, h)) fun t11 h =>
 opK (pickV t4 (.bool true) t11 h) fun t12 h =>
 K t12 h
theorem f157_eq (X : Caller) (L : Looper) (K : Value → AHeap → Prop) (h : AHeap) (t0 : Value) : aJob P X L (.call 157 [t0]) K h = f157 X L K h t0 := by kernel_rfl
def f158_a0 (X : Caller) (L : Looper) (a : AAct) (K : ActPost) (h : AHeap) : Prop :=
 K .normal ⟨(upds a.env [(11, (a.env 26))]), a.defers⟩ ((h.bump 1))
def f158_a1 (X : Caller) (L : Looper) (a : AAct) (K : ActPost) (h : AHeap) : Prop :=
 K .normal ⟨(upds a.env [(13, (a.env 41))]), a.defers⟩ ((h.bump 1))
def f158_b1 (X : Caller) (L : Looper) (a : AAct) (K : ActPost) (h : AHeap) : Prop :=
 rdK ((fun h : AHeap => ld1 (a.env 5) h) ((h.bump 8))) ((h.bump 8)) fun t42 h =>
 rdK (ld1 (a.env 12) h) h fun t43 h =>
 opK (nilV t43 h) fun t45 h =>
 rdK (fAddr 1 t45) h fun t46 h =>
 rdK (ixR 8 1 t46 (a.env 13)) h fun t47 h =>
 rdK (ld1 t47 h) h fun t48 h =>
 callV X t42 [t48] (fun t49 h =>
 condK t49
 (rdK ((fun h : AHeap => ld1 (a.env 12) h) ((h.bump 5))) ((h.bump 5)) fun t50 h =>
  stK (stV 1 (a.env 6) t50 h) fun h =>
  stK (stV 1 (a.env 7) (a.env 13) h) fun h =>
  stK (stV 1 (a.env 8) (.int .i64 0) h) fun h =>
  K .ret ⟨(upds a.env [(42, t42), (43, t43), (44, (a.env 13)), (45, t45), (46, t46), (47, t47), (48, t48), (49, t49), (50, t50), (51, (a.env 13))]), a.defers⟩ h)
 (K .normal ⟨(upds a.env [(42, t42), (43, t43), (44, (a.env 13)), (45, t45), (46, t46), (47, t47), (48, t48), (49, t49)]), a.defers⟩ h)) h
noncomputable def f158_ca1 : Code := (rangesF Tryz.f158 1).1
noncomputable def f158_cb1 : Code := (rangesF Tryz.f158 1).2
theorem f158_a1_eq (X : Caller) (L : Looper) (a : AAct) (K : ActPost) (h : AHeap) : aCode P X L true f158_ca1 a K h = f158_a1 X L a K h := by kernel_rfl
theorem f158_b1_eq (X : Caller) (L : Looper) (a : AAct) (K : ActPost) (h : AHeap) : aCode P X L true f158_cb1 a K h = f158_b1 X L a K h := by kernel_rfl
def f158_j5 (X : Caller) (L : Looper) (K : ActPost) (h : AHeap) (a : AAct) : Prop :=
 rdK ((fun h : AHeap => ld1 (a.env 12) h) ((h.bump 6))) ((h.bump 6)) fun t52 h =>
 opK (nilV t52 h) fun t53 h =>
 rdK (fAddr 0 t53) h fun t54 h =>
 rdK (ld1 t54 h) h fun t55 h =>
 X (.call 165 [t55]) (fun t56 h =>
 rdK (binC P .neq 5 5 t56 (.int .u8 0) h) h fun t57 h =>
 condK t57
 (K (.exit 0) ⟨(upds a.env [(52, t52), (53, t53), (54, t54), (55, t55), (56, t56), (57, t57)]), a.defers⟩ h)
 (K .normal ⟨(upds a.env [(52, t52), (53, t53), (54, t54), (55, t55), (56, t56), (57, t57)]), a.defers⟩ h)) h
def f158_b0 (X : Caller) (L : Looper) (a : AAct) (K : ActPost) (h : AHeap) : Prop :=
 regK 8 h fun b_2 h =>
 rdK (ld1 (a.env 3) h) h fun t27 h =>
 opK (nilV t27 h) fun t28 h =>
 rdK (fAddr 0 t28) h fun t29 h =>
 rdK (ld1 t29 h) h fun t30 h =>
 rdK (ixS 9 t30 (a.env 11)) h fun t32 h =>
 opK (newV [.pointer none] (b_2 + 6) h) fun t12 h =>
 stK (stV 1 t12 t32 h) fun h =>
 rdK ((fun h : AHeap => ld1 t12 h) ((h.bump 8))) ((h.bump 8)) fun t33 h =>
 opK (nilV t33 h) fun t34 h =>
 rdK (fAddr 0 t34) h fun t35 h =>
 rdK (ld1 t35 h) h fun t36 h =>
 rdK (ld1 (a.env 4) h) h fun t37 h =>
 X (.call 207 [t37]) (fun t38 h =>
 chkK (chkR ((ld1 t35 h).map (·, h)) t36 (chkR ((ld1 t12 h).map (·, h)) t33 true)) <|
 X (.call 206 [t36, t38]) (fun t39 h =>
 X (.call 205 [t39]) (fun t40 h =>
 rangeK X t40 ⟨(upds a.env [(27, t27), (28, t28), (29, t29), (30, t30), (31, (a.env 11)), (32, t32), (12, t12), (33, t33), (34, t34), (35, t35), (36, t36), (37, t37), (38, t38), (39, t39), (40, t40)]), a.defers⟩ [41] f158_ca1 f158_cb1 (blkX 2 (seqX (fun a h => f158_j5 X L K h a) (blkX 1 K))) h) h) h) h
noncomputable def f158_ca0 : Code := (rangesF Tryz.f158 0).1
noncomputable def f158_cb0 : Code := (rangesF Tryz.f158 0).2
theorem f158_a0_eq (X : Caller) (L : Looper) (a : AAct) (K : ActPost) (h : AHeap) : aCode P X L true f158_ca0 a K h = f158_a0 X L a K h := by kernel_rfl
theorem f158_b0_eq (X : Caller) (L : Looper) (a : AAct) (K : ActPost) (h : AHeap) : aCode P X L true f158_cb0 a K h = f158_b0 X L a K h := by kernel_rfl
def f158_j2 (X : Caller) (L : Looper) (K : Value → AHeap → Prop) (h : AHeap) (a : AAct) : Prop :=
 stK ((fun h : AHeap => stV 1 (a.env 6) (.pointer none) h) ((h.bump 3))) fun h =>
 stK (stV 1 (a.env 7) (.int .i64 0) h) fun h =>
 stK (stV 1 (a.env 8) (.int .i64 9) h) fun h =>
 leaveA P X Tryz.f158 ⟨a.env, a.defers⟩ K a.defers h
/-- (*cubbyhole/swiss.Index).find -/
def f158 (X : Caller) (L : Looper) (K : Value → AHeap → Prop) (h : AHeap) (t0 t1 t2 : Value) : Prop :=
 regK 6 h fun b h =>
 opK (boxV t0 (b + 0) h) fun t3 h =>
 opK (boxV t1 (b + 1) h) fun t4 h =>
 opK (boxV t2 (b + 2) h) fun t5 h =>
 opK (newV [.pointer none] (b + 3) h) fun t6 h =>
 opK (newV [.int .i64 0] (b + 4) h) fun t7 h =>
 opK (newV [.int .i64 0] (b + 5) h) fun t8 h =>
 regK 13 h fun b_1 h =>
 rdK (ld1 t4 h) h fun t15 h =>
 rdK (ld1 t3 h) h fun t17 h =>
 opK (nilV t17 h) fun t18 h =>
 rdK (fAddr 0 t18) h fun t19 h =>
 rdK (ld1 t19 h) h fun t20 h =>
 opK (builtinV P .len [220] [t20] (b_1 + 6) h) fun t21 h =>
 X (.call 204 [t15]) (fun t16 h =>
 chkK (chkR (builtinV P .len [220] [t20] (b_1 + 6) h) t21 (chkR ((ld1 t19 h).map (·, h)) t20 (chkR ((ld1 t3 h).map (·, h)) t17 true))) <|
 X (.call 203 [t16, t21]) (fun t22 h =>
 opK (extV 0 t22 h) fun t23 h =>
 opK (extV 1 t22 h) fun t24 h =>
 rangeK X t23 ⟨(upds (argsEnv [t0, t1, t2]) [(3, t3), (4, t4), (5, t5), (6, t6), (7, t7), (8, t8), (15, t15), (17, t17), (18, t18), (19, t19), (20, t20), (21, t21), (16, t16), (22, t22), (14, t22), (23, t23), (24, t24), (9, t23), (10, t24), (25, t23)]), []⟩ [26] f158_ca0 f158_cb0 (blkX 0 (seqX (fun a h => f158_j2 X L K h a) (finX P X Tryz.f158 K))) ((h.bump 1))) h) h
theorem f158_eq (X : Caller) (L : Looper) (K : Value → AHeap → Prop) (h : AHeap) (t0 t1 t2 : Value) : aJob P X L (.call 158 [t0, t1, t2]) K h = f158 X L K h t0 t1 t2 := by kernel_rfl
/-- cubbyhole/hash.Mix -/
def f159 (X : Caller) (L : Looper) (K : Value → AHeap → Prop) (h : AHeap) (t0 : Value) : Prop :=
 rdK ((fun h : AHeap => binC P .shr 27 316 t0 (.int .u64 29) h) (((h.bump 1).bump 6))) (((h.bump 1).bump 6)) fun t6 h =>
 rdK (binV P .xor 27 27 t0 t6 h) h fun t7 h =>
 rdK (binD P .mul 27 27 (.int .u64 5) t7 h) h fun t8 h =>
 rdK ((fun h : AHeap => binC P .shr 27 316 t8 (.int .u64 32) h) ((h.bump 5))) ((h.bump 5)) fun t11 h =>
 rdK (binV P .xor 27 27 t8 t11 h) h fun t12 h =>
 K t12 h
theorem f159_eq (X : Caller) (L : Looper) (K : Value → AHeap → Prop) (h : AHeap) (t0 : Value) : aJob P X L (.call 159 [t0]) K h = f159 X L K h t0 := by kernel_rfl
def f160_l3 (X : Caller) (L : Looper) (a : AAct) (K : ActPost) (h : AHeap) : Prop :=
 rdK ((fun h : AHeap => binV P .lss 3 3 (a.env 8) (a.env 7) h) ((h.bump 1))) ((h.bump 1)) fun t9 h =>
 condK t9
 (regK 8 ((h.bump 2)) fun b_1 h =>
 rdK (indexA P 9 (a.env 1) (a.env 8)) h fun t14 h =>
 opK (convertA P 5 27 t14 (b_1 + 4) h) fun t15 h =>
 rdK (binV P .xor 27 27 (a.env 0) t15 h) h fun t16 h =>
 rdK (binC P .mul 27 27 t16 (.int .u64 1099511628211) h) h fun t17 h =>
 rdK ((fun h : AHeap => binC P .add 3 3 (a.env 8) (.int .i64 1) h) ((h.bump 2))) ((h.bump 2)) fun t18 h =>
 K .normal ⟨(upds a.env [(9, t9), (10, (a.env 8)), (5, (a.env 8)), (11, (a.env 0)), (12, (a.env 1)), (13, (a.env 8)), (14, t14), (15, t15), (16, t16), (17, t17), (0, t17), (18, t18), (8, t18)]), a.defers⟩ h)
 (K (.exit 0) ⟨(upds a.env [(9, t9)]), a.defers⟩ h)
def f160_j1 (X : Caller) (L : Looper) (K : Value → AHeap → Prop) (h : AHeap) (a : AAct) : Prop :=
 leaveA P X Tryz.f160 ⟨(upds a.env [(19, (a.env 0)), (4, (a.env 0))]), a.defers⟩ K a.defers ((h.bump 2))
/-- cubbyhole/hash.fold[string] -/
def f160 (X : Caller) (L : Looper) (K : Value → AHeap → Prop) (h : AHeap) (t0 t1 : Value) : Prop :=
 regK 3 ((h.bump 1)) fun b h =>
 opK (builtinV P .len [9] [t1] (b + 1) h) fun t7 h =>
 L (f160_l3 X L) ⟨(upds (argsEnv [t0, t1]) [(4, (.int .u64 0)), (6, t1), (7, t7), (8, (.int .i64 0))]), []⟩ (blkX 0 (seqX (fun a h => f160_j1 X L K h a) (finX P X Tryz.f160 K))) h
theorem f160_eq (X : Caller) (L : Looper) (K : Value → AHeap → Prop) (h : AHeap) (t0 t1 : Value) : aJob P X L (.call 160 [t0, t1]) K h = f160 X L K h t0 t1 := by kernel_rfl
/-- (*cubbyhole/lru.LRU).Remove -/
def f161 (X : Caller) (L : Looper) (K : Value → AHeap → Prop) (h : AHeap) (t0 t1 : Value) : Prop :=
 X (.call 172 [t0, t1]) (fun t8 h =>
 rdK ((fun h : AHeap => binC P .neq 24 24 t8 (.int .i64 0) h) ((h.bump 2))) ((h.bump 2)) fun t10 h =>
 condK t10
 (K t8 ((h.bump 2)))
 (X (.call 125 [t0, t1]) (fun t14 h =>
 rdK (unV P .not 4 t14) h fun t15 h =>
 condK t15
 (K (.int .i64 9) ((h.bump 1)))
 (opK ((fun h : AHeap => nilV t0 h) ((h.bump 7))) fun t17 h =>
 rdK (fAddr 0 t17) h fun t18 h =>
 rdK (ld1 t18 h) h fun t19 h =>
 X (.call 208 [t19, t1]) (fun t21 h =>
 K t21 h) h)) ((h.bump 4)))) (((h.bump 1).bump 4))
theorem f161_eq (X : Caller) (L : Looper) (K : Value → AHeap → Prop) (h : AHeap) (t0 t1 : Value) : aJob P X L (.call 161 [t0, t1]) K h = f161 X L K h t0 t1 := by kernel_rfl
def f162_j2 (X : Caller) (L : Looper) (K : Value → AHeap → Prop) (h : AHeap) (t6 t7 t4 t36 t37 t5 : Value) : Prop :=
 rdK ((fun h : AHeap => ldN 3 t6 h) ((h.bump 4))) ((h.bump 4)) fun t36_1 h =>
 stK (stV 3 t4 t36_1 h) fun h =>
 retK (consR (ldN 3 t4 h) (consR (some t7) (some []))) K h
/-- (*cubbyhole/cascade.Cascade).Cancel -/
def f162 (X : Caller) (L : Looper) (K : Value → AHeap → Prop) (h : AHeap) (t0 t1 : Value) : Prop :=
 regK 2 h fun b h =>
 opK (newV [.int .u32 0, .int .u64 0, .int .u64 0] (b + 0) h) fun t4 h =>
 regK 9 h fun b_1 h =>
 X (.call 209 [t0, t1]) (fun t13 h =>
 opK (extV 0 t13 h) fun t14 h =>
 opK (extV 1 t13 h) fun t15 h =>
 opK (newV [.int .u32 0, .int .u64 0, .int .u64 0] (b_1 + 6) h) fun t6 h =>
 stK (stV 3 t6 t14 h) fun h =>
 rdK ((fun h : AHeap => binC P .eql 24 24 t15 (.int .i64 0) h) ((h.bump 2))) ((h.bump 2)) fun t17 h =>
 condK t17
 (rdK ((fun h : AHeap => fAddr 1 t6) ((h.bump 9))) ((h.bump 9)) fun t20 h =>
  rdK (ld1 t20 h) h fun t21 h =>
  X (.call 180 [t0, t21]) (fun t22 h =>
  opK (extV 0 t22 h) fun t23 h =>
  opK (extV 1 t22 h) fun t24 h =>
  opK ((fun h : AHeap => nilV t0 h) ((h.bump 8))) fun t27 h =>
  rdK (fAddr 1 t27) h fun t28 h =>
  rdK (ixR 8 1 t28 t23) h fun t29 h =>
  rdK (ld1 t29 h) h fun t30 h =>
  X (.call 210 [t30, t1]) (fun t32 h =>
  rdK ((fun h : AHeap => ldN 3 t6 h) ((h.bump 3))) ((h.bump 3)) fun t34 h =>
  X (.call 183 [t0, t34]) (fun t35 h =>
  f162_j2 X L K h t6 t15 t4 undef undef ((.int .i64 0))) h) h) h)
 (f162_j2 X L K h t6 t15 t4 undef undef ((.int .i64 0)))) h
theorem f162_eq (X : Caller) (L : Looper) (K : Value → AHeap → Prop) (h : AHeap) (t0 t1 : Value) : aJob P X L (.call 162 [t0, t1]) K h = f162 X L K h t0 t1 := by kernel_rfl
end Go.Proofs.YtdlnbmadifgbkaaGreatDoor.F
