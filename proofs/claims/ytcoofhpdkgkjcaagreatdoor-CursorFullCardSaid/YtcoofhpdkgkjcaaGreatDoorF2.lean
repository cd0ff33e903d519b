/- The functions of the program, as shallow texts (printed by a program of this place). -/
import Derived.Test.YtcoofhpdkgkjcaaGreatDoorFW
namespace Go.Proofs.YtcoofhpdkgkjcaaGreatDoor.F
set_option linter.unusedVariables false
set_option linter.unusedSimpArgs false
open Go Go.Cub
/-- (*cubbyhole/cache.Cache).leave -/
def f83 (X : Caller) (L : Looper) (K : Value → AHeap → Prop) (h : AHeap) (t0 t1 : Value) : Prop :=
 regK 3 h fun b h =>
 opK (boxV t0 (b + 0) h) fun t2 h =>
 opK (boxV t1 (b + 1) h) fun t3 h =>
 K (.func (.func 128) #[] #[t2, t3]) ((h.bump 2))
theorem f83_eq (X : Caller) (L : Looper) (K : Value → AHeap → Prop) (h : AHeap) (t0 t1 : Value) : aJob P X L (.call 83 [t0, t1]) K h = f83 X L K h t0 t1 := by kernel_rfl
def f84_l7 (X : Caller) (L : Looper) (a : AAct) (K : ActPost) (h : AHeap) : Prop :=
 rdK ((fun h : AHeap => binV P .lss 3 3 (a.env 29) (a.env 28) h) ((h.bump 1))) ((h.bump 1)) fun t30 h =>
 condK t30
 (regK 4 h fun b_1 h =>
 rdK (ixS 3 (a.env 27) (a.env 29)) h fun t31 h =>
 rdK (ldN 3 t31 h) h fun t32 h =>
 opK (newV [.int .u32 0, .int .u64 0, .int .u64 0] (b_1 + 2) h) fun t8 h =>
 stK (stV 3 t8 t32 h) fun h =>
 rdK ((fun h : AHeap => ldN 3 t8 h) ((h.bump 3))) ((h.bump 3)) fun t34 h =>
 X (.call 93 [(a.env 0), t34]) (fun t35 h =>
 rdK ((fun h : AHeap => binC P .add 3 3 (a.env 29) (.int .i64 1) h) ((h.bump 2))) ((h.bump 2)) fun t36 h =>
 K .normal ⟨(upds a.env [(30, t30), (31, t31), (32, t32), (8, t8), (33, (a.env 0)), (34, t34), (35, t35), (36, t36), (29, t36)]), a.defers⟩ h) h)
 (K (.exit 0) ⟨(upds a.env [(30, t30)]), a.defers⟩ h)
def f84_j5 (X : Caller) (L : Looper) (K : Value → AHeap → Prop) (h : AHeap) (a : AAct) : Prop :=
 leaveA P X Tryz.f84 ⟨(upds a.env [(37, (a.env 5)), (4, (a.env 5))]), a.defers⟩ K a.defers ((h.bump 2))
/-- (*cubbyhole/due.Deadlines).Expire -/
def f84 (X : Caller) (L : Looper) (K : Value → AHeap → Prop) (h : AHeap) (t0 t1 : Value) : Prop :=
 X (.call 60 [t0, (.int .u32 0)]) (fun t10 h =>
 rdK (binC P .neq 31 31 t10 (.int .i64 0) h) h fun t11 h =>
 condK t11
 (K (.slice none 0 0) ((h.bump 1)))
 (opK ((fun h : AHeap => nilV t0 h) ((h.bump 17))) fun t14 h =>
 rdK (fAddr 0 t14) h fun t15 h =>
 rdK (ld1 t15 h) h fun t16 h =>
 opK (nilV t0 h) fun t18 h =>
 rdK (fAddr 0 t18) h fun t19 h =>
 rdK (ld1 t19 h) h fun t20 h =>
 X (.call 61 [t20]) (fun t21 h =>
 chkK (chkR ((ld1 t15 h).map (·, h)) t16 true) <|
 X (.call 49 [t21, t1]) (fun t23 h =>
 chkK (chkR ((ld1 t15 h).map (·, h)) t16 true) <|
 X (.call 132 [t16, t23]) (fun t24 h =>
 opK (extV 0 t24 h) fun t25 h =>
 opK (extV 1 t24 h) fun t26 h =>
 regK 3 h fun b h =>
 opK (builtinV P .len [145] [t25] (b + 1) h) fun t28 h =>
 L (f84_l7 X L) ⟨(upds (argsEnv [t0, t1]) [(4, (.slice none 0 0)), (9, t0), (10, t10), (11, t11), (13, t0), (14, t14), (15, t15), (16, t16), (17, t0), (18, t18), (19, t19), (20, t20), (22, t1), (21, t21), (23, t23), (24, t24), (12, t24), (25, t25), (26, t26), (5, t25), (6, t26), (27, t25), (28, t28), (29, (.int .i64 0))]), []⟩ (blkX 0 (seqX (fun a h => f84_j5 X L K h a) (finX P X Tryz.f84 K))) h) h) h) h)) (((h.bump 1).bump 3))
theorem f84_eq (X : Caller) (L : Looper) (K : Value → AHeap → Prop) (h : AHeap) (t0 t1 : Value) : aJob P X L (.call 84 [t0, t1]) K h = f84 X L K h t0 t1 := by kernel_rfl
/-- (*cubbyhole/budget.Budget).Over -/
def f85 (X : Caller) (L : Looper) (K : Value → AHeap → Prop) (h : AHeap) (t0 : Value) : Prop :=
 X (.call 133 [t0]) (fun t6 h =>
 condK t6
 (K (.tuple #[(.int .i64 0), (.int .i64 0)]) h)
 (regK 27 h fun b h =>
 opK (nilV t0 h) fun t8 h =>
 rdK (fAddr 2 t8) h fun t9 h =>
 rdK (ixR 2 2 t9 (.int .i64 0)) h fun t10 h =>
 rdK (ldN 2 t10 h) h fun t11 h =>
 opK (nilV t0 h) fun t13 h =>
 rdK (fAddr 2 t13) h fun t14 h =>
 rdK (ixR 2 2 t14 (.int .i64 1)) h fun t15 h =>
 rdK (ldN 2 t15 h) h fun t16 h =>
 opK (nilV t0 h) fun t19 h =>
 rdK (fAddr 0 t19) h fun t20 h =>
 rdK (fAddr 0 t20) h fun t21 h =>
 rdK (ld1 t21 h) h fun t22 h =>
 rdK (unV P .neg 3 t22) h fun t23 h =>
 opK (nilV t0 h) fun t25 h =>
 rdK (fAddr 0 t25) h fun t26 h =>
 rdK (fAddr 1 t26) h fun t27 h =>
 rdK (ld1 t27 h) h fun t28 h =>
 rdK (unV P .neg 3 t28) h fun t29 h =>
 rdK (buildA P 183 [(0, t23), (1, t29)]) h fun t30 h =>
 opK (newV [.int .i64 0, .int .i64 0] (b + 25) h) fun t4 h =>
 X (.call 107 [t11, t16]) (fun t17 h =>
 chkK (chkR ((ld1 t27 h).map (·, h)) t28 (chkR ((ld1 t21 h).map (·, h)) t22 true)) <|
 X (.call 107 [t17, t30]) (fun t31 h =>
 stK (stV 2 t4 t31 h) fun h =>
 regK 8 h fun b_1 h =>
 rdK (fAddr 0 t4) h fun t32 h =>
 rdK (ld1 t32 h) h fun t33 h =>
 opK (builtinV P .max [3, 3] [(.int .i64 0), t33] (b_1 + 2) h) fun t34 h =>
 rdK (fAddr 1 t4) h fun t35 h =>
 rdK (ld1 t35 h) h fun t36 h =>
 opK (builtinV P .max [3, 3] [(.int .i64 0), t36] (b_1 + 5) h) fun t37 h =>
 K (.tuple #[t34, t37]) h) h) h)) (((h.bump 2).bump 2))
theorem f85_eq (X : Caller) (L : Looper) (K : Value → AHeap → Prop) (h : AHeap) (t0 : Value) : aJob P X L (.call 85 [t0]) K h = f85 X L K h t0 := by kernel_rfl
/-- cubbyhole/victim.Choose -/
def f86 (X : Caller) (L : Looper) (K : Value → AHeap → Prop) (h : AHeap) (t0 t1 t2 t3 t4 : Value) : Prop :=
 regK 10 ((h.bump 2)) fun b h =>
 X (.call 134 [t0, t1, t2]) (fun t18 h =>
 opK (extV 0 t18 h) fun t19 h =>
 opK (extV 1 t18 h) fun t20 h =>
 opK (newV [.slice none 0 0, .int .u32 0] (b + 7) h) fun t12 h =>
 stK (stV 2 t12 t19 h) fun h =>
 rdK ((fun h : AHeap => binC P .neq 31 31 t20 (.int .i64 0) h) ((h.bump 10))) ((h.bump 10)) fun t22 h =>
 gopK (wantV t22 false) h (some (t3, h)) fun t24 h =>
 gopK (wantV t22 false) h ((binC P .lss 3 3 t24 (.int .i64 0) h).map (·, h)) fun t25 h =>
 opK (pickV t22 (.bool true) t25 h) fun t26 h =>
 gopK (wantV t26 false) h (some (t4, h)) fun t28 h =>
 gopK (wantV t26 false) h ((binC P .lss 3 3 t28 (.int .i64 0) h).map (·, h)) fun t29 h =>
 opK (pickV t26 (.bool true) t29 h) fun t30 h =>
 condK t30
 (K (.tuple #[(.slice none 0 0), (.int .i64 2)]) ((h.bump 2)))
 (rdK ((fun h : AHeap => ldN 2 t12 h) ((h.bump 6))) ((h.bump 6)) fun t31 h =>
 X (.call 135 [t31, t3, t4]) (fun t34 h =>
 K (.tuple #[t34, (.int .i64 0)]) h) h)) h
theorem f86_eq (X : Caller) (L : Looper) (K : Value → AHeap → Prop) (h : AHeap) (t0 t1 t2 t3 t4 : Value) : aJob P X L (.call 86 [t0, t1, t2, t3, t4]) K h = f86 X L K h t0 t1 t2 t3 t4 := by kernel_rfl
def f87_a0 (X : Caller) (L : Looper) (a : AAct) (K : ActPost) (h : AHeap) : Prop :=
 K .normal ⟨(upds a.env [(6, (a.env 18))]), a.defers⟩ ((h.bump 1))
def f87_b0 (X : Caller) (L : Looper) (a : AAct) (K : ActPost) (h : AHeap) : Prop :=
 regK 12 h fun b_2 h =>
 rdK (ld1 (a.env 5) h) h fun t19 h =>
 rdK (ld1 (a.env 2) h) h fun t21 h =>
 opK (nilV t21 h) fun t22 h =>
 rdK (fAddr 4 t22) h fun t23 h =>
 rdK (ld1 t23 h) h fun t24 h =>
 rdK (lookupA P 178 t24 (a.env 6) false h) h fun t26 h =>
 rdK (buildA P 235 [(0, (a.env 6)), (1, t26)]) h fun t27 h =>
 opK (bsliceV P 154 1 [(0, t27)] (b_2 + 9) h) fun t28 h =>
 opK (builtinV P .append [154, 154] [t19, t28] (b_2 + 10) h) fun t29 h =>
 stK (stV 1 (a.env 5) t29 h) fun h =>
 K .normal ⟨(upds a.env [(19, t19), (20, (a.env 6)), (21, t21), (22, t22), (23, t23), (24, t24), (25, (a.env 6)), (26, t26), (27, t27), (28, t28), (29, t29)]), a.defers⟩ h
noncomputable def f87_ca0 : Code := (rangesF Tryz.f87 0).1
noncomputable def f87_cb0 : Code := (rangesF Tryz.f87 0).2
theorem f87_a0_eq (X : Caller) (L : Looper) (a : AAct) (K : ActPost) (h : AHeap) : aCode P X L true f87_ca0 a K h = f87_a0 X L a K h := by kernel_rfl
theorem f87_b0_eq (X : Caller) (L : Looper) (a : AAct) (K : ActPost) (h : AHeap) : aCode P X L true f87_cb0 a K h = f87_b0 X L a K h := by kernel_rfl
def f87_j5 (X : Caller) (L : Looper) (K : Value → AHeap → Prop) (h : AHeap) (a : AAct) : Prop :=
 rdK ((fun h : AHeap => ld1 (a.env 5) h) ((h.bump 2))) ((h.bump 2)) fun t30 h =>
 leaveA P X Tryz.f87 ⟨(upds a.env [(30, t30), (4, t30)]), a.defers⟩ K a.defers h
/-- (*cubbyhole/segment.Segments).List -/
def f87 (X : Caller) (L : Looper) (K : Value → AHeap → Prop) (h : AHeap) (t0 t1 : Value) : Prop :=
 regK 2 h fun b h =>
 opK (boxV t0 (b + 0) h) fun t2 h =>
 rdK ((fun h : AHeap => ld1 t2 h) ((h.bump 4))) ((h.bump 4)) fun t7 h =>
 X (.call 136 [t7, t1]) (fun t9 h =>
 rdK (unV P .not 4 t9) h fun t10 h =>
 condK t10
 (K (.slice none 0 0) ((h.bump 1)))
 (regK 1 h fun b_1 h =>
 opK (newV [.slice none 0 0] (b_1 + 0) h) fun t5 h =>
 rdK ((fun h : AHeap => ld1 t2 h) ((h.bump 7))) ((h.bump 7)) fun t11 h =>
 opK (nilV t11 h) fun t13 h =>
 rdK (fAddr 0 t13) h fun t14 h =>
 rdK (ixR 2 1 t14 t1) h fun t15 h =>
 rdK (ld1 t15 h) h fun t16 h =>
 X (.call 137 [t16]) (fun t17 h =>
 rangeK X t17 ⟨(upds (argsEnv [t0, t1]) [(2, t2), (4, (.slice none 0 0)), (7, t7), (8, t1), (9, t9), (10, t10), (5, t5), (11, t11), (12, t1), (13, t13), (14, t14), (15, t15), (16, t16), (17, t17)]), []⟩ [18] f87_ca0 f87_cb0 (blkX 0 (seqX (fun a h => f87_j5 X L K h a) (finX P X Tryz.f87 K))) h) h)) h
theorem f87_eq (X : Caller) (L : Looper) (K : Value → AHeap → Prop) (h : AHeap) (t0 t1 : Value) : aJob P X L (.call 87 [t0, t1]) K h = f87 X L K h t0 t1 := by kernel_rfl
/-- (*cubbyhole/dict.Dict).Sizes -/
def f88 (X : Caller) (L : Looper) (K : Value → AHeap → Prop) (h : AHeap) (t0 : Value) : Prop :=
 X (.call 77 [t0]) (fun t6 h =>
 condK t6
 (K (.tuple #[(.int .i64 0), (.int .i64 0), (.int .i64 0)]) ((h.bump 3)))
 (opK ((fun h : AHeap => nilV t0 h) ((h.bump 19))) fun t8 h =>
 rdK (fAddr 0 t8) h fun t9 h =>
 rdK (fAddr 0 t9) h fun t10 h =>
 rdK (ld1 t10 h) h fun t11 h =>
 opK (nilV t0 h) fun t14 h =>
 rdK (fAddr 3 t14) h fun t15 h =>
 rdK (ld1 t15 h) h fun t16 h =>
 opK (nilV t0 h) fun t19 h =>
 rdK (fAddr 3 t19) h fun t20 h =>
 rdK (ld1 t20 h) h fun t21 h =>
 X (.call 138 [t11]) (fun t12 h =>
 chkK (chkR ((ld1 t20 h).map (·, h)) t21 (chkR ((ld1 t15 h).map (·, h)) t16 true)) <|
 X (.call 139 [t16]) (fun t17 h =>
 chkK (chkR ((ld1 t20 h).map (·, h)) t21 true) <|
 X (.call 140 [t21]) (fun t22 h =>
 K (.tuple #[t12, t17, t22]) h) h) h) h)) (((h.bump 3).bump 2))
theorem f88_eq (X : Caller) (L : Looper) (K : Value → AHeap → Prop) (h : AHeap) (t0 : Value) : aJob P X L (.call 88 [t0]) K h = f88 X L K h t0 := by kernel_rfl
/-- cubbyhole/compact.Due -/
def f89 (X : Caller) (L : Looper) (K : Value → AHeap → Prop) (h : AHeap) (t0 t1 : Value) : Prop :=
 rdK ((fun h : AHeap => binC P .geq 3 3 t1 (.int .i64 0) h) (((h.bump 1).bump 15))) (((h.bump 1).bump 15)) fun t6 h =>
 gopK (wantV t6 true) h (some (t0, h)) fun t8 h =>
 gopK (wantV t6 true) h ((binC P .gtr 3 3 t8 (.int .i64 16) h).map (·, h)) fun t9 h =>
 opK (pickV t6 t9 (.bool false) h) fun t10 h =>
 gopK (wantV t10 true) h (some (t1, h)) fun t12 h =>
 gopK (wantV t10 true) h (some (t0, h)) fun t13 h =>
 gopK (wantV t10 true) h ((binC P .sub 3 3 t13 (.int .i64 16) h).map (·, h)) fun t14 h =>
 gopK (wantV t10 true) h ((binC P .sub 3 3 t14 (.int .i64 1) h).map (·, h)) fun t15 h =>
 gopK (wantV t10 true) h ((binC P .quo 3 3 t15 (.int .i64 2) h).map (·, h)) fun t16 h =>
 gopK (wantV t10 true) h ((binV P .leq 3 3 t12 t16 h).map (·, h)) fun t17 h =>
 opK (pickV t10 t17 (.bool false) h) fun t18 h =>
 K t18 h
theorem f89_eq (X : Caller) (L : Looper) (K : Value → AHeap → Prop) (h : AHeap) (t0 t1 : Value) : aJob P X L (.call 89 [t0, t1]) K h = f89 X L K h t0 t1 := by kernel_rfl
def f90_l7 (X : Caller) (L : Looper) (a : AAct) (K : ActPost) (h : AHeap) : Prop :=
 rdK ((fun h : AHeap => binV P .lss 3 3 (a.env 30) (a.env 29) h) ((h.bump 1))) ((h.bump 1)) fun t31 h =>
 condK t31
 (regK 11 ((h.bump 2)) fun b_3 h =>
 rdK (ldN 2 (a.env 3) h) h fun t36 h =>
 opK (convertA P 3 90 (a.env 30) (b_3 + 4) h) fun t38 h =>
 X (.call 143 [t36, t38]) (fun t39 h =>
 opK (extV 0 t39 h) fun t40 h =>
 opK (extV 1 t39 h) fun t41 h =>
 rdK (ixS 1 (a.env 7) (a.env 30)) h fun t42 h =>
 stK (stV 1 t42 t40 h) fun h =>
 rdK ((fun h : AHeap => binC P .add 3 3 (a.env 30) (.int .i64 1) h) ((h.bump 2))) ((h.bump 2)) fun t43 h =>
 K .normal ⟨(upds a.env [(31, t31), (32, (a.env 30)), (8, (a.env 30)), (34, (a.env 7)), (35, (a.env 30)), (36, t36), (37, (a.env 30)), (38, t38), (39, t39), (33, t39), (40, t40), (41, t41), (42, t42), (43, t43), (30, t43)]), a.defers⟩ h) h)
 (K (.exit 0) ⟨(upds a.env [(31, t31)]), a.defers⟩ h)
def f90_j5 (X : Caller) (L : Looper) (K : Value → AHeap → Prop) (h : AHeap) (a : AAct) : Prop :=
 opK ((fun h : AHeap => nilV (a.env 0) h) ((h.bump 6))) fun t46 h =>
 rdK (fAddr 0 t46) h fun t47 h =>
 rdK (fAddr 0 t47) h fun t48 h =>
 stK (stV 1 t48 (a.env 2) h) fun h =>
 opK ((fun h : AHeap => nilV (a.env 0) h) ((h.bump 7))) fun t50 h =>
 rdK (fAddr 0 t50) h fun t51 h =>
 rdK (fAddr 2 t51) h fun t52 h =>
 rdK (ld1 t52 h) h fun t53 h =>
 X (.call 144 [t53, (a.env 7)]) (fun t55 h =>
 opK ((fun h : AHeap => nilV (a.env 0) h) ((h.bump 7))) fun t57 h =>
 rdK (fAddr 0 t57) h fun t58 h =>
 rdK (fAddr 4 t58) h fun t59 h =>
 rdK (ld1 t59 h) h fun t60 h =>
 X (.call 145 [t60, (a.env 7)]) (fun t62 h =>
 leaveA P X Tryz.f90 ⟨(upds a.env [(44, (a.env 0)), (45, (a.env 2)), (46, t46), (47, t47), (48, t48), (49, (a.env 0)), (50, t50), (51, t51), (52, t52), (53, t53), (54, (a.env 7)), (55, t55), (56, (a.env 0)), (57, t57), (58, t58), (59, t59), (60, t60), (61, (a.env 7)), (62, t62)]), a.defers⟩ K a.defers h) h) h
/-- (*cubbyhole/cache.Cache).pack -/
def f90 (X : Caller) (L : Looper) (K : Value → AHeap → Prop) (h : AHeap) (t0 : Value) : Prop :=
 regK 14 h fun b h =>
 opK (nilV t0 h) fun t11 h =>
 rdK (fAddr 0 t11) h fun t12 h =>
 rdK (fAddr 0 t12) h fun t13 h =>
 rdK (ld1 t13 h) h fun t14 h =>
 X (.call 141 [t14]) (fun t15 h =>
 opK (extV 0 t15 h) fun t16 h =>
 opK (extV 1 t15 h) fun t17 h =>
 opK (extV 2 t15 h) fun t18 h =>
 opK (newV [.slice none 0 0, .int .i64 0] (b + 10) h) fun t3 h =>
 stK (stV 2 t3 t17 h) fun h =>
 rdK ((fun h : AHeap => binC P .neq 31 31 t18 (.int .i64 0) h) ((h.bump 2))) ((h.bump 2)) fun t20 h =>
 condK t20
 (K (.tuple #[]) h)
 (rdK ((fun h : AHeap => ldN 2 t3 h) ((h.bump 7))) ((h.bump 7)) fun t22 h =>
 X (.call 142 [t22]) (fun t23 h =>
 opK (extV 0 t23 h) fun t24 h =>
 opK (extV 1 t23 h) fun t25 h =>
 regK 3 h fun b_1 h =>
 opK (makeSliceA P 151 t25 t25 (b_1 + 1) h) fun t27 h =>
 regK 3 h fun b_2 h =>
 opK (builtinV P .len [151] [t27] (b_2 + 1) h) fun t29 h =>
 L (f90_l7 X L) ⟨(upds (argsEnv [t0]) [(10, t0), (11, t11), (12, t12), (13, t13), (14, t14), (15, t15), (9, t15), (16, t16), (17, t17), (18, t18), (3, t3), (2, t16), (4, t18), (19, t18), (20, t20), (22, t22), (23, t23), (21, t23), (24, t24), (25, t25), (5, t24), (6, t25), (26, t25), (27, t27), (7, t27), (28, t27), (29, t29), (30, (.int .i64 0))]), []⟩ (blkX 0 (seqX (fun a h => f90_j5 X L K h a) (finX P X Tryz.f90 K))) h) h)) h
theorem f90_eq (X : Caller) (L : Looper) (K : Value → AHeap → Prop) (h : AHeap) (t0 : Value) : aJob P X L (.call 90 [t0]) K h = f90 X L K h t0 := by kernel_rfl
/-- (*cubbyhole/event.Stream).Add -/
def f91 (X : Caller) (L : Looper) (K : Value → AHeap → Prop) (h : AHeap) (t0 t1 : Value) : Prop :=
 regK 2 h fun b h =>
 opK (boxV t1 (b + 0) h) fun t3 h =>
 X (.call 119 [t0]) (fun t7 h =>
 condK t7
 (K (.int .i64 1) ((h.bump 1)))
 (rdK ((fun h : AHeap => ldN 6 t3 h) ((h.bump 4))) ((h.bump 4)) fun t9 h =>
  X (.call 146 [t9]) (fun t10 h =>
  rdK (unV P .not 4 t10) h fun t11 h =>
  condK t11
  (K (.int .i64 2) ((h.bump 1)))
  (opK ((fun h : AHeap => nilV t0 h) ((h.bump 7))) fun t14 h =>
   rdK (fAddr 2 t14) h fun t15 h =>
   rdK (fAddr 6 t15) h fun t16 h =>
   rdK (ld1 t16 h) h fun t17 h =>
   rdK (binC P .geq 3 3 t17 (.int .i64 1048576) h) h fun t18 h =>
   condK t18
   (K (.int .i64 7) ((h.bump 1)))
   (rdK ((fun h : AHeap => ldN 6 t3 h) ((h.bump 4))) ((h.bump 4)) fun t20 h =>
 X (.call 148 [t20]) (fun t21 h =>
 X (.call 147 [t0, t21]) (fun t22 h =>
 rdK ((fun h : AHeap => fAddr 0 t3) ((h.bump 14))) ((h.bump 14)) fun t24 h =>
 rdK (ld1 t24 h) h fun t25 h =>
 opK (nilV t0 h) fun t26 h =>
 rdK (fAddr 2 t26) h fun t27 h =>
 rdK (fAddr 0 t27) h fun t28 h =>
 rdK (ixR 6 1 t28 t25) h fun t29 h =>
 rdK (ld1 t29 h) h fun t30 h =>
 rdK (binC P .add 27 27 t30 (.int .u64 1) h) h fun t31 h =>
 opK (nilV t0 h) fun t32 h =>
 rdK (fAddr 2 t32) h fun t33 h =>
 rdK (fAddr 0 t33) h fun t34 h =>
 rdK (ixR 6 1 t34 t25) h fun t35 h =>
 stK (stV 1 t35 t31 h) fun h =>
 opK ((fun h : AHeap => nilV t0 h) ((h.bump 10))) fun t37 h =>
 rdK (fAddr 2 t37) h fun t38 h =>
 rdK (fAddr 6 t38) h fun t39 h =>
 rdK (ld1 t39 h) h fun t40 h =>
 rdK (binC P .add 3 3 t40 (.int .i64 1) h) h fun t41 h =>
 opK (nilV t0 h) fun t42 h =>
 rdK (fAddr 2 t42) h fun t43 h =>
 rdK (fAddr 6 t43) h fun t44 h =>
 stK (stV 1 t44 t41 h) fun h =>
 K (.int .i64 0) ((h.bump 1))) h) h))) h)) ((h.bump 3))
theorem f91_eq (X : Caller) (L : Looper) (K : Value → AHeap → Prop) (h : AHeap) (t0 t1 : Value) : aJob P X L (.call 91 [t0, t1]) K h = f91 X L K h t0 t1 := by kernel_rfl
/-- (*cubbyhole/entrylog.Log).Set -/
def f92 (X : Caller) (L : Looper) (K : Value → AHeap → Prop) (h : AHeap) (t0 t1 t2 t3 : Value) : Prop :=
 X (.call 126 [t0, t1]) (fun t14 h =>
 opK (extV 0 t14 h) fun t15 h =>
 opK (extV 1 t14 h) fun t16 h =>
 rdK ((fun h : AHeap => binC P .neq 31 31 t16 (.int .i64 0) h) ((h.bump 3))) ((h.bump 3)) fun t19 h =>
 condK t19
 (K t16 ((h.bump 2)))
 (regK 4 h fun b h =>
  opK (builtinV P .len [42] [t2] (b + 1) h) fun t23 h =>
  rdK (binC P .gtr 3 3 t23 (.int .i64 65536) h) h fun t24 h =>
  condK t24
  (K (.int .i64 5) ((h.bump 1)))
  (X (.call 149 [t2]) (fun t28 h =>
 opK (nilV t15 h) fun t30 h =>
 rdK (fAddr 1 t30) h fun t31 h =>
 stK (stV 1 t31 t28 h) fun h =>
 opK (nilV t15 h) fun t32 h =>
 rdK (fAddr 2 t32) h fun t33 h =>
 stK (stV 1 t33 t3 h) fun h =>
 K (.int .i64 0) ((h.bump 1))) ((h.bump 11))))) (((h.bump 1).bump 8))
theorem f92_eq (X : Caller) (L : Looper) (K : Value → AHeap → Prop) (h : AHeap) (t0 t1 t2 t3 : Value) : aJob P X L (.call 92 [t0, t1, t2, t3]) K h = f92 X L K h t0 t1 t2 t3 := by kernel_rfl
/-- (*cubbyhole/due.Deadlines).drop -/
def f93 (X : Caller) (L : Looper) (K : Value → AHeap → Prop) (h : AHeap) (t0 t1 : Value) : Prop :=
 regK 1 h fun b h =>
 opK (boxV t1 (b + 0) h) fun t3 h =>
 opK ((fun h : AHeap => nilV t0 h) ((h.bump 7))) fun t5 h =>
 rdK (fAddr 0 t5) h fun t6 h =>
 rdK (ld1 t6 h) h fun t7 h =>
 rdK (fAddr 0 t3) h fun t8 h =>
 rdK (ld1 t8 h) h fun t9 h =>
 X (.call 150 [t7, t9]) (fun t10 h =>
 regK 7 h fun b_1 h =>
 opK (nilV t0 h) fun t12 h =>
 rdK (fAddr 1 t12) h fun t13 h =>
 rdK (ld1 t13 h) h fun t14 h =>
 rdK (fAddr 2 t3) h fun t15 h =>
 rdK (ld1 t15 h) h fun t16 h =>
 opK (builtinV P .delete [110, 27] [t14, t16] (b_1 + 6) h) fun _ h =>
 regK 7 h fun b_2 h =>
 opK (nilV t0 h) fun t18 h =>
 rdK (fAddr 2 t18) h fun t19 h =>
 rdK (ld1 t19 h) h fun t20 h =>
 rdK (fAddr 0 t3) h fun t21 h =>
 rdK (ld1 t21 h) h fun t22 h =>
 opK (builtinV P .delete [111, 90] [t20, t22] (b_2 + 6) h) fun _ h =>
 K (.tuple #[]) h) h
theorem f93_eq (X : Caller) (L : Looper) (K : Value → AHeap → Prop) (h : AHeap) (t0 t1 : Value) : aJob P X L (.call 93 [t0, t1]) K h = f93 X L K h t0 t1 := by kernel_rfl
def f94_j1 (X : Caller) (L : Looper) (K : Value → AHeap → Prop) (h : AHeap) (t0 t13 t14 t15 t3 t17 t19 t20 t21 t23 t25 t16 t18 t28 t29 t26 t22 t24 t30 t31 t27 : Value) : Prop :=
 opK ((fun h : AHeap => nilV t0 h) ((h.bump 21))) fun t14_1 h =>
 rdK (fAddr 1 t14_1) h fun t15_1 h =>
 rdK (ld1 t15_1 h) h fun t16_1 h =>
 rdK (fAddr 2 t3) h fun t17_1 h =>
 rdK (ld1 t17_1 h) h fun t18_1 h =>
 opK (nilV t0 h) fun t20_1 h =>
 rdK (fAddr 2 t20_1) h fun t21_1 h =>
 rdK (ld1 t21_1 h) h fun t22_1 h =>
 rdK (fAddr 0 t3) h fun t23_1 h =>
 rdK (ld1 t23_1 h) h fun t24_1 h =>
 rdK (fAddr 0 t3) h fun t25_1 h =>
 rdK (ld1 t25_1 h) h fun t26_1 h =>
 rdK (ldN 3 t3 h) h fun t27_1 h =>
 opK (mapEntryA P 110 t16_1 t18_1 h) fun t28_1 h =>
 chkK (chkR ((ldN 3 t3 h).map (·, h)) t27_1 (chkR ((ld1 t25_1 h).map (·, h)) t26_1 (chkR ((ld1 t23_1 h).map (·, h)) t24_1 true))) <|
 opK (extV 1 t28_1 h) fun t29_1 h =>
 stK (entryStoreA t16_1 t29_1 t26_1 h) fun h =>
 chkK (chkR ((ldN 3 t3 h).map (·, h)) t27_1 (chkR ((ld1 t23_1 h).map (·, h)) t24_1 true)) <|
 opK (mapEntryA P 111 t22_1 t24_1 h) fun t30_1 h =>
 chkK (chkR ((ldN 3 t3 h).map (·, h)) t27_1 true) <|
 opK (extV 1 t30_1 h) fun t31_1 h =>
 stK (entryStoreA t22_1 t31_1 t27_1 h) fun h =>
 K (.tuple #[]) h
/-- (*cubbyhole/due.Deadlines).put -/
def f94 (X : Caller) (L : Looper) (K : Value → AHeap → Prop) (h : AHeap) (t0 t1 : Value) : Prop :=
 regK 1 h fun b h =>
 opK (boxV t1 (b + 0) h) fun t3 h =>
 rdK ((fun h : AHeap => fAddr 1 t3) ((h.bump 3))) ((h.bump 3)) fun t4 h =>
 rdK (ld1 t4 h) h fun t5 h =>
 rdK (binC P .neq 38 38 t5 (.int .u64 18446744073709551615) h) h fun t6 h =>
 condK t6
 (opK ((fun h : AHeap => nilV t0 h) ((h.bump 6))) fun t8 h =>
  rdK (fAddr 0 t8) h fun t9 h =>
  rdK (ld1 t9 h) h fun t10 h =>
  rdK (ldN 3 t3 h) h fun t11 h =>
  X (.call 151 [t10, t11]) (fun t12 h =>
  f94_j1 X L K h t0 undef undef undef t3 undef undef undef undef undef undef undef undef undef undef undef undef undef undef undef undef) h)
 (f94_j1 X L K h t0 undef undef undef t3 undef undef undef undef undef undef undef undef undef undef undef undef undef undef undef undef)
theorem f94_eq (X : Caller) (L : Looper) (K : Value → AHeap → Prop) (h : AHeap) (t0 t1 : Value) : aJob P X L (.call 94 [t0, t1]) K h = f94 X L K h t0 t1 := by kernel_rfl
/-- (*cubbyhole/segment.Segments).Of -/
def f95 (X : Caller) (L : Looper) (K : Value → AHeap → Prop) (h : AHeap) (t0 t1 : Value) : Prop :=
 X (.call 104 [t0, t1, (.int .i64 0)]) (fun t12 h =>
 rdK ((fun h : AHeap => binC P .neq 31 31 t12 (.int .i64 0) h) ((h.bump 2))) ((h.bump 2)) fun t14 h =>
 condK t14
 (K (.tuple #[(.int .i64 0), (.int .i64 0), t12]) ((h.bump 4)))
 (opK ((fun h : AHeap => nilV t0 h) ((h.bump 11))) fun t18 h =>
 rdK (fAddr 4 t18) h fun t19 h =>
 rdK (ld1 t19 h) h fun t20 h =>
 rdK (lookupA P 178 t20 t1 true h) h fun t22 h =>
 opK (extV 0 t22 h) fun t23 h =>
 opK (extV 1 t22 h) fun t24 h =>
 rdK ((fun h : AHeap => unV P .not 4 t24) ((h.bump 2))) ((h.bump 2)) fun t26 h =>
 condK t26
 (K (.tuple #[(.int .i64 0), (.int .i64 0), (.int .i64 9)]) ((h.bump 3)))
 (X (.call 152 [t0, t1]) (fun t29 h =>
 K (.tuple #[t29, t23, (.int .i64 0)]) h) ((h.bump 7))))) (((h.bump 3).bump 4))
theorem f95_eq (X : Caller) (L : Looper) (K : Value → AHeap → Prop) (h : AHeap) (t0 t1 : Value) : aJob P X L (.call 95 [t0, t1]) K h = f95 X L K h t0 t1 := by kernel_rfl
def f96_j9 (X : Caller) (L : Looper) (K : Value → AHeap → Prop) (h : AHeap) (t0 t9 t1 t2 t26 t27 t28 t29 t31 t32 t6 t7 : Value) : Prop :=
 X (.call 105 [t0, t9, t1, t2]) (fun t30 h =>
 X (.call 154 [t0]) (fun t32_1 h =>
 K (.tuple #[t32_1, (.int .i64 0)]) h) ((h.bump 4))) ((h.bump 5))
/-- (*cubbyhole/segment.Segments).Use -/
def f96 (X : Caller) (L : Looper) (K : Value → AHeap → Prop) (h : AHeap) (t0 t1 t2 : Value) : Prop :=
 X (.call 104 [t0, t1, t2]) (fun t13 h =>
 rdK ((fun h : AHeap => binC P .neq 31 31 t13 (.int .i64 0) h) ((h.bump 2))) ((h.bump 2)) fun t15 h =>
 condK t15
 (K (.tuple #[(.slice none 0 0), t13]) ((h.bump 3)))
 (X (.call 153 [t0, t1]) (fun t19 h =>
 rdK (unV P .not 4 t19) h fun t20 h =>
 condK t20
 (K (.tuple #[(.slice none 0 0), (.int .i64 9)]) ((h.bump 2)))
 (opK ((fun h : AHeap => nilV t0 h) (((h.bump 1).bump 5))) fun t22 h =>
 rdK (fAddr 5 t22) h fun t23 h =>
 rdK (ld1 t23 h) h fun t24 h =>
 rdK (binC P .eql 3 3 t24 (.int .i64 (-1)) h) h fun t25 h =>
 condK t25
 (f96_j9 X L K ((h.bump 1)) t0 ((.int .i64 0)) t1 t2 undef undef undef undef undef undef ((.slice none 0 0)) ((.int .i64 0)))
 (f96_j9 X L K h t0 ((.int .i64 1)) t1 t2 undef undef undef undef undef undef ((.slice none 0 0)) ((.int .i64 0))))) ((h.bump 4)))) (((h.bump 2).bump 5))
theorem f96_eq (X : Caller) (L : Looper) (K : Value → AHeap → Prop) (h : AHeap) (t0 t1 t2 : Value) : aJob P X L (.call 96 [t0, t1, t2]) K h = f96 X L K h t0 t1 t2 := by kernel_rfl
/-- (*cubbyhole/budget.Budget).Remove -/
def f97 (X : Caller) (L : Looper) (K : Value → AHeap → Prop) (h : AHeap) (t0 t1 t2 : Value) : Prop :=
 X (.call 106 [t0, t1, t2]) (fun t11 h =>
 rdK ((fun h : AHeap => binC P .neq 31 31 t11 (.int .i64 0) h) ((h.bump 2))) ((h.bump 2)) fun t13 h =>
 condK t13
 (K t11 ((h.bump 2)))
 (X (.call 155 [t0, t1, t2]) (fun t18 h =>
 rdK (unV P .not 4 t18) h fun t19 h =>
 condK t19
 (K (.int .i64 9) ((h.bump 1)))
 (opK ((fun h : AHeap => nilV t0 h) ((h.bump 16))) fun t24 h =>
 rdK (fAddr 2 t24) h fun t25 h =>
 rdK (ixR 2 2 t25 t1) h fun t26 h =>
 rdK (ldN 2 t26 h) h fun t27 h =>
 rdK (unV P .neg 3 t2) h fun t29 h =>
 rdK (buildA P 183 [(0, (.int .i64 (-1))), (1, t29)]) h fun t30 h =>
 opK (nilV t0 h) fun t32 h =>
 rdK (fAddr 2 t32) h fun t33 h =>
 X (.call 107 [t27, t30]) (fun t31 h =>
 rdK (ixR 2 2 t33 t1) h fun t34 h =>
 stK (stV 2 t34 t31 h) fun h =>
 K (.int .i64 0) ((h.bump 1))) h)) ((h.bump 5)))) (((h.bump 1).bump 5))
theorem f97_eq (X : Caller) (L : Looper) (K : Value → AHeap → Prop) (h : AHeap) (t0 t1 t2 : Value) : aJob P X L (.call 97 [t0, t1, t2]) K h = f97 X L K h t0 t1 t2 := by kernel_rfl
def f98_l1 (X : Caller) (L : Looper) (a : AAct) (K : ActPost) (h : AHeap) : Prop :=
 rdK ((fun h : AHeap => binV P .lss 3 3 (a.env 11) (a.env 10) h) ((h.bump 1))) ((h.bump 1)) fun t12 h =>
 condK t12
 (rdK ((fun h : AHeap => ixS 1 (a.env 9) (a.env 11)) ((h.bump 3))) ((h.bump 3)) fun t13 h =>
 rdK (ld1 t13 h) h fun t14 h =>
 opK ((fun h : AHeap => nilV (a.env 0) h) ((h.bump 14))) fun t17 h =>
 rdK (fAddr 0 t17) h fun t18 h =>
 rdK (fAddr 2 t18) h fun t19 h =>
 rdK (ld1 t19 h) h fun t20 h =>
 X (.call 95 [t20, t14]) (fun t22 h =>
 opK (extV 0 t22 h) fun t23 h =>
 opK (extV 1 t22 h) fun t24 h =>
 opK (extV 2 t22 h) fun t25 h =>
 opK ((fun h : AHeap => nilV (a.env 0) h) ((h.bump 7))) fun t27 h =>
 rdK (fAddr 0 t27) h fun t28 h =>
 rdK (fAddr 3 t28) h fun t29 h =>
 rdK (ld1 t29 h) h fun t30 h =>
 X (.call 156 [t30, (.int .i64 1), t24]) (fun t32 h =>
 rdK ((fun h : AHeap => binC P .add 3 3 (a.env 11) (.int .i64 1) h) ((h.bump 2))) ((h.bump 2)) fun t33 h =>
 K .normal ⟨(upds a.env [(12, t12), (13, t13), (14, t14), (5, t14), (16, (a.env 0)), (17, t17), (18, t18), (19, t19), (20, t20), (21, t14), (22, t22), (15, t22), (23, t23), (24, t24), (25, t25), (6, t23), (7, t24), (8, t25), (26, (a.env 0)), (27, t27), (28, t28), (29, t29), (30, t30), (31, t24), (32, t32), (33, t33), (11, t33)]), a.defers⟩ h) h) h)
 (K (.exit 0) ⟨(upds a.env [(12, t12)]), a.defers⟩ h)
/-- (*cubbyhole/cache.Cache).demoted -/
def f98 (X : Caller) (L : Looper) (K : Value → AHeap → Prop) (h : AHeap) (t0 t1 : Value) : Prop :=
 regK 3 h fun b h =>
 opK (builtinV P .len [151] [t1] (b + 1) h) fun t10 h =>
 L (f98_l1 X L) ⟨(upds (argsEnv [t0, t1]) [(9, t1), (10, t10), (11, (.int .i64 0))]), []⟩ (blkX 0 (finX P X Tryz.f98 K)) h
theorem f98_eq (X : Caller) (L : Looper) (K : Value → AHeap → Prop) (h : AHeap) (t0 t1 : Value) : aJob P X L (.call 98 [t0, t1]) K h = f98 X L K h t0 t1 := by kernel_rfl
/-- cubbyhole/entry.New -/
def f99 (X : Caller) (L : Looper) (K : Value → AHeap → Prop) (h : AHeap) (t0 t1 t2 t3 : Value) : Prop :=
 regK 2 h fun b h =>
 opK (newV [.string ⟨#[]⟩, .slice none 0 0, .int .u64 0, .int .u64 0] (b + 0) h) fun t8 h =>
 X (.call 72 [t0, t1, t3]) (fun t14 h =>
 rdK ((fun h : AHeap => binC P .neq 31 31 t14 (.int .i64 0) h) ((h.bump 2))) ((h.bump 2)) fun t16 h =>
 condK t16
 (rdK ((fun h : AHeap => buildA P 44 []) ((h.bump 4))) ((h.bump 4)) fun t17 h =>
  stK (stV 4 t8 t17 h) fun h =>
  retK (consR (ldN 4 t8 h) (consR (some t14) (some []))) K h)
 (rdK ((fun h : AHeap => buildA P 44 [(0, t0), (1, t1), (2, t2), (3, t3)]) ((h.bump 8))) ((h.bump 8)) fun t23 h =>
 X (.call 127 [t23]) (fun t24 h =>
 stK (stV 4 t8 t24 h) fun h =>
 retK (consR (ldN 4 t8 h) (consR (some (.int .i64 0)) (some []))) K h) h)) ((h.bump 5))
theorem f99_eq (X : Caller) (L : Looper) (K : Value → AHeap → Prop) (h : AHeap) (t0 t1 t2 t3 : Value) : aJob P X L (.call 99 [t0, t1, t2, t3]) K h = f99 X L K h t0 t1 t2 t3 := by kernel_rfl
/-- (*cubbyhole/dict.Dict).plan -/
def f100 (X : Caller) (L : Looper) (K : Value → AHeap → Prop) (h : AHeap) (t0 : Value) : Prop :=
 regK 2 h fun b h =>
 opK (newV [.int .i64 0, .bool false] (b + 0) h) fun t2 h =>
 opK ((fun h : AHeap => nilV t0 h) ((h.bump 20))) fun t5 h =>
 rdK (fAddr 3 t5) h fun t6 h =>
 rdK (ld1 t6 h) h fun t7 h =>
 opK (nilV t0 h) fun t10 h =>
 rdK (fAddr 3 t10) h fun t11 h =>
 rdK (ld1 t11 h) h fun t12 h =>
 opK (nilV t0 h) fun t15 h =>
 rdK (fAddr 3 t15) h fun t16 h =>
 rdK (ld1 t16 h) h fun t17 h =>
 X (.call 139 [t7]) (fun t8 h =>
 chkK (chkR ((ld1 t16 h).map (·, h)) t17 (chkR ((ld1 t11 h).map (·, h)) t12 true)) <|
 X (.call 158 [t12]) (fun t13 h =>
 chkK (chkR ((ld1 t16 h).map (·, h)) t17 true) <|
 X (.call 140 [t17]) (fun t18 h =>
 X (.call 157 [t8, t13, t18]) (fun t19 h =>
 opK (extV 0 t19 h) fun t20 h =>
 opK (extV 1 t19 h) fun t21 h =>
 stK (stV 2 t2 t20 h) fun h =>
 retK (consR (ldN 2 t2 h) (consR (some t21) (some []))) K h) h) h) h) h
theorem f100_eq (X : Caller) (L : Looper) (K : Value → AHeap → Prop) (h : AHeap) (t0 : Value) : aJob P X L (.call 100 [t0]) K h = f100 X L K h t0 := by kernel_rfl
/-- (cubbyhole/dict.store).full -/
def f101 (X : Caller) (L : Looper) (K : Value → AHeap → Prop) (h : AHeap) (t0 : Value) : Prop :=
 regK 2 h fun b h =>
 opK (boxV t0 (b + 0) h) fun t1 h =>
 rdK ((fun h : AHeap => fAddr 0 t1) ((h.bump 5))) ((h.bump 5)) fun t3 h =>
 rdK (ld1 t3 h) h fun t4 h =>
 X (.call 138 [t4]) (fun t5 h =>
 rdK (binC P .geq 3 3 t5 (.int .i64 4194304) h) h fun t6 h =>
 K t6 h) h
theorem f101_eq (X : Caller) (L : Looper) (K : Value → AHeap → Prop) (h : AHeap) (t0 : Value) : aJob P X L (.call 101 [t0]) K h = f101 X L K h t0 := by kernel_rfl
/-- (*cubbyhole/entrylog.Log).Append -/
def f102 (X : Caller) (L : Looper) (K : Value → AHeap → Prop) (h : AHeap) (t0 t1 : Value) : Prop :=
 regK 3 h fun b h =>
 opK (boxV t1 (b + 0) h) fun t3 h =>
 X (.call 159 [t0]) (fun t9 h =>
 condK t9
 (K (.tuple #[(.int .u32 0), (.int .i64 1)]) ((h.bump 2)))
 (regK 15 h fun b_1 h =>
 rdK (fAddr 0 t3) h fun t11 h =>
 rdK (ld1 t11 h) h fun t12 h =>
 rdK (fAddr 1 t3) h fun t13 h =>
 rdK (ld1 t13 h) h fun t14 h =>
 rdK (fAddr 2 t3) h fun t15 h =>
 rdK (ld1 t15 h) h fun t16 h =>
 rdK (fAddr 3 t3) h fun t17 h =>
 rdK (ld1 t17 h) h fun t18 h =>
 X (.call 99 [t12, t14, t16, t18]) (fun t19 h =>
 opK (extV 0 t19 h) fun t20 h =>
 opK (extV 1 t19 h) fun t21 h =>
 opK (newV [.string ⟨#[]⟩, .slice none 0 0, .int .u64 0, .int .u64 0] (b_1 + 12) h) fun t6 h =>
 stK (stV 4 t6 t20 h) fun h =>
 rdK ((fun h : AHeap => binC P .neq 31 31 t21 (.int .i64 0) h) ((h.bump 3))) ((h.bump 3)) fun t24 h =>
 condK t24
 (K (.tuple #[(.int .u32 0), t21]) ((h.bump 3)))
 (regK 7 h fun b_2 h =>
  opK (nilV t0 h) fun t28 h =>
  rdK (fAddr 1 t28) h fun t29 h =>
  rdK (ld1 t29 h) h fun t30 h =>
  opK (builtinV P .len [253] [t30] (b_2 + 4) h) fun t31 h =>
  rdK (binC P .geq 3 3 t31 (.int .i64 4194304) h) h fun t32 h =>
  condK t32
  (K (.tuple #[(.int .u32 0), (.int .i64 7)]) ((h.bump 2)))
  (regK 11 h fun b_3 h =>
 opK (nilV t0 h) fun t35 h =>
 rdK (fAddr 1 t35) h fun t36 h =>
 rdK (ld1 t36 h) h fun t37 h =>
 rdK (ldN 4 t6 h) h fun t38 h =>
 opK (bsliceV P 253 1 [(0, t38)] (b_3 + 6) h) fun t39 h =>
 opK (builtinV P .append [253, 253] [t37, t39] (b_3 + 7) h) fun t40 h =>
 opK (nilV t0 h) fun t41 h =>
 rdK (fAddr 1 t41) h fun t42 h =>
 stK (stV 1 t42 t40 h) fun h =>
 opK ((fun h : AHeap => nilV t0 h) ((h.bump 8))) fun t44 h =>
 rdK (fAddr 2 t44) h fun t45 h =>
 rdK (ld1 t45 h) h fun t46 h =>
 rdK (binC P .add 3 3 t46 (.int .i64 1) h) h fun t47 h =>
 opK (nilV t0 h) fun t48 h =>
 rdK (fAddr 2 t48) h fun t49 h =>
 stK (stV 1 t49 t47 h) fun h =>
 regK 9 h fun b_4 h =>
 opK (nilV t0 h) fun t51 h =>
 rdK (fAddr 1 t51) h fun t52 h =>
 rdK (ld1 t52 h) h fun t53 h =>
 opK (builtinV P .len [253] [t53] (b_4 + 4) h) fun t54 h =>
 rdK (binC P .sub 3 3 t54 (.int .i64 1) h) h fun t55 h =>
 opK (convertA P 3 90 t55 (b_4 + 6) h) fun t56 h =>
 K (.tuple #[t56, (.int .i64 0)]) h))) h)) ((h.bump 2))
theorem f102_eq (X : Caller) (L : Looper) (K : Value → AHeap → Prop) (h : AHeap) (t0 t1 : Value) : aJob P X L (.call 102 [t0, t1]) K h = f102 X L K h t0 t1 := by kernel_rfl
/-- (*cubbyhole/dict.Dict).put -/
def f103 (X : Caller) (L : Looper) (K : Value → AHeap → Prop) (h : AHeap) (t0 t1 : Value) : Prop :=
 regK 8 ((h.bump 1)) fun b h =>
 X (.call 100 [t0]) (fun t9 h =>
 opK (extV 0 t9 h) fun t10 h =>
 opK (extV 1 t9 h) fun t11 h =>
 opK (newV [.int .i64 0, .bool false] (b + 5) h) fun t5 h =>
 stK (stV 2 t5 t10 h) fun h =>
 rdK ((fun h : AHeap => binC P .neq 31 31 t11 (.int .i64 0) h) ((h.bump 2))) ((h.bump 2)) fun t13 h =>
 condK t13
 (K t11 ((h.bump 2)))
 (rdK ((fun h : AHeap => ldN 2 t5 h) ((h.bump 3))) ((h.bump 3)) fun t16 h =>
 X (.call 160 [t0, t16]) (fun t17 h =>
 opK ((fun h : AHeap => nilV t0 h) ((h.bump 10))) fun t19 h =>
 rdK (fAddr 3 t19) h fun t20 h =>
 rdK (ld1 t20 h) h fun t21 h =>
 X (.call 162 [t0, t1]) (fun t24 h =>
 chkK (chkR ((ld1 t20 h).map (·, h)) t21 true) <|
 X (.call 161 [t21, t24, t1]) (fun t26 h =>
 K t26 h) h) h) h)) h
theorem f103_eq (X : Caller) (L : Looper) (K : Value → AHeap → Prop) (h : AHeap) (t0 t1 : Value) : aJob P X L (.call 103 [t0, t1]) K h = f103 X L K h t0 t1 := by kernel_rfl
/-- (*cubbyhole/segment.Segments).check -/
def f104 (X : Caller) (L : Looper) (K : Value → AHeap → Prop) (h : AHeap) (t0 t1 t2 : Value) : Prop :=
 rdK ((fun h : AHeap => binC P .eql 68 68 t0 (.pointer none) h) (((h.bump 1).bump 10))) (((h.bump 1).bump 10)) fun t9 h =>
 gopK (wantV t9 false) h (some (t0, h)) fun t11 h =>
 gopK (wantV t9 false) h (nilV t11 h) fun t12 h =>
 gopK (wantV t9 false) h ((fAddr 4 t12).map (·, h)) fun t13 h =>
 gopK (wantV t9 false) h ((ld1 t13 h).map (·, h)) fun t14 h =>
 gopK (wantV t9 false) h ((binC P .eql 178 178 t14 (.map none) h).map (·, h)) fun t15 h =>
 opK (pickV t9 (.bool true) t15 h) fun t16 h =>
 condK t16
 (K (.int .i64 1) ((h.bump 1)))
 (rdK ((fun h : AHeap => binC P .geq 90 90 t1 (.int .u32 4194304) h) ((h.bump 11))) ((h.bump 11)) fun t19 h =>
  gopK (wantV t19 false) h (some (t2, h)) fun t21 h =>
  gopK (wantV t19 false) h ((binC P .lss 3 3 t21 (.int .i64 0) h).map (·, h)) fun t22 h =>
  opK (pickV t19 (.bool true) t22 h) fun t23 h =>
  gopK (wantV t23 false) h (some (t2, h)) fun t25 h =>
  gopK (wantV t23 false) h ((binC P .gtr 3 3 t25 (.int .i64 1099511627776) h).map (·, h)) fun t26 h =>
  opK (pickV t23 (.bool true) t26 h) fun t27 h =>
  condK t27
  (K (.int .i64 2) ((h.bump 1)))
  (K (.int .i64 0) ((h.bump 1))))
theorem f104_eq (X : Caller) (L : Looper) (K : Value → AHeap → Prop) (h : AHeap) (t0 t1 t2 : Value) : aJob P X L (.call 104 [t0, t1, t2]) K h = f104 X L K h t0 t1 t2 := by kernel_rfl
/-- (*cubbyhole/segment.Segments).put -/
def f105 (X : Caller) (L : Looper) (K : Value → AHeap → Prop) (h : AHeap) (t0 t1 t2 t3 : Value) : Prop :=
 opK ((fun h : AHeap => nilV t0 h) ((h.bump 8))) fun t10 h =>
 rdK (fAddr 0 t10) h fun t11 h =>
 rdK (ixR 2 1 t11 t1) h fun t12 h =>
 rdK (ld1 t12 h) h fun t13 h =>
 X (.call 163 [t13, t2]) (fun t15 h =>
 opK ((fun h : AHeap => nilV t0 h) ((h.bump 12))) fun t18 h =>
 rdK (fAddr 2 t18) h fun t19 h =>
 rdK (ixR 2 1 t19 t1) h fun t20 h =>
 rdK (ld1 t20 h) h fun t21 h =>
 rdK (binV P .add 3 3 t21 t3 h) h fun t23 h =>
 opK (nilV t0 h) fun t24 h =>
 rdK (fAddr 2 t24) h fun t25 h =>
 rdK (ixR 2 1 t25 t1) h fun t26 h =>
 stK (stV 1 t26 t23 h) fun h =>
 opK ((fun h : AHeap => nilV t0 h) ((h.bump 7))) fun t28 h =>
 rdK (fAddr 4 t28) h fun t29 h =>
 rdK (ld1 t29 h) h fun t30 h =>
 stK (mapPutA P 178 t30 t2 t3 h) fun h =>
 K (.tuple #[]) h) h
theorem f105_eq (X : Caller) (L : Looper) (K : Value → AHeap → Prop) (h : AHeap) (t0 t1 t2 t3 : Value) : aJob P X L (.call 105 [t0, t1, t2, t3]) K h = f105 X L K h t0 t1 t2 t3 := by kernel_rfl
/-- (*cubbyhole/budget.Budget).check -/
def f106 (X : Caller) (L : Looper) (K : Value → AHeap → Prop) (h : AHeap) (t0 t1 t2 : Value) : Prop :=
 X (.call 133 [t0]) (fun t9 h =>
 condK t9
 (K (.int .i64 1) ((h.bump 1)))
 (rdK ((fun h : AHeap => binC P .neq 106 106 t1 (.int .i64 0) h) ((h.bump 15))) ((h.bump 15)) fun t12 h =>
  gopK (wantV t12 true) h (some (t1, h)) fun t14 h =>
  gopK (wantV t12 true) h ((binC P .neq 106 106 t14 (.int .i64 1) h).map (·, h)) fun t15 h =>
  opK (pickV t12 t15 (.bool false) h) fun t16 h =>
  gopK (wantV t16 false) h (some (t2, h)) fun t18 h =>
  gopK (wantV t16 false) h ((binC P .lss 3 3 t18 (.int .i64 0) h).map (·, h)) fun t19 h =>
  opK (pickV t16 (.bool true) t19 h) fun t20 h =>
  gopK (wantV t20 false) h (some (t2, h)) fun t22 h =>
  gopK (wantV t20 false) h ((binC P .gtr 3 3 t22 (.int .i64 1099511627776) h).map (·, h)) fun t23 h =>
  opK (pickV t20 (.bool true) t23 h) fun t24 h =>
  condK t24
  (K (.int .i64 2) ((h.bump 1)))
  (K (.int .i64 0) ((h.bump 1))))) (((h.bump 1).bump 3))
theorem f106_eq (X : Caller) (L : Looper) (K : Value → AHeap → Prop) (h : AHeap) (t0 t1 t2 : Value) : aJob P X L (.call 106 [t0, t1, t2]) K h = f106 X L K h t0 t1 t2 := by kernel_rfl
/-- (cubbyhole/budget.pair).plus -/
def f107 (X : Caller) (L : Looper) (K : Value → AHeap → Prop) (h : AHeap) (t0 t1 : Value) : Prop :=
 regK 3 h fun b h =>
 opK (boxV t0 (b + 0) h) fun t2 h =>
 opK (boxV t1 (b + 1) h) fun t3 h =>
 opK (newV [.int .i64 0, .int .i64 0] (b + 2) h) fun t4 h =>
 rdK ((fun h : AHeap => fAddr 0 t2) ((h.bump 12))) ((h.bump 12)) fun t5 h =>
 rdK (ld1 t5 h) h fun t6 h =>
 rdK (fAddr 0 t3) h fun t7 h =>
 rdK (ld1 t7 h) h fun t8 h =>
 rdK (binV P .add 3 3 t6 t8 h) h fun t9 h =>
 rdK (fAddr 1 t2) h fun t10 h =>
 rdK (ld1 t10 h) h fun t11 h =>
 rdK (fAddr 1 t3) h fun t12 h =>
 rdK (ld1 t12 h) h fun t13 h =>
 rdK (binV P .add 3 3 t11 t13 h) h fun t14 h =>
 rdK (buildA P 183 [(0, t9), (1, t14)]) h fun t15 h =>
 stK (stV 2 t4 t15 h) fun h =>
 retK (consR (ldN 2 t4 h) (some [])) K h
theorem f107_eq (X : Caller) (L : Looper) (K : Value → AHeap → Prop) (h : AHeap) (t0 t1 : Value) : aJob P X L (.call 107 [t0, t1]) K h = f107 X L K h t0 t1 := by kernel_rfl
/-- (cubbyhole/budget.pair).fits -/
def f108 (X : Caller) (L : Looper) (K : Value → AHeap → Prop) (h : AHeap) (t0 : Value) : Prop :=
 regK 2 h fun b h =>
 opK (boxV t0 (b + 0) h) fun t1 h =>
 rdK ((fun h : AHeap => fAddr 0 t1) ((h.bump 9))) ((h.bump 9)) fun t3 h =>
 rdK (ld1 t3 h) h fun t4 h =>
 rdK (binC P .leq 3 3 t4 (.int .i64 2097152) h) h fun t5 h =>
 gopK (wantV t5 true) h ((fAddr 1 t1).map (·, h)) fun t7 h =>
 gopK (wantV t5 true) h ((ld1 t7 h).map (·, h)) fun t8 h =>
 gopK (wantV t5 true) h ((binC P .leq 3 3 t8 (.int .i64 2305843009213693952) h).map (·, h)) fun t9 h =>
 opK (pickV t5 t9 (.bool false) h) fun t10 h =>
 K t10 h
theorem f108_eq (X : Caller) (L : Looper) (K : Value → AHeap → Prop) (h : AHeap) (t0 : Value) : aJob P X L (.call 108 [t0]) K h = f108 X L K h t0 := by kernel_rfl
/-- (*cubbyhole/cascade.Cascade).check -/
def f109 (X : Caller) (L : Looper) (K : Value → AHeap → Prop) (h : AHeap) (t0 t1 : Value) : Prop :=
 rdK ((fun h : AHeap => binC P .eql 109 109 t0 (.pointer none) h) (((h.bump 1).bump 10))) (((h.bump 1).bump 10)) fun t7 h =>
 gopK (wantV t7 false) h (some (t0, h)) fun t9 h =>
 gopK (wantV t7 false) h (nilV t9 h) fun t10 h =>
 gopK (wantV t7 false) h ((fAddr 9 t10).map (·, h)) fun t11 h =>
 gopK (wantV t7 false) h ((ld1 t11 h).map (·, h)) fun t12 h =>
 gopK (wantV t7 false) h ((binC P .eql 111 111 t12 (.map none) h).map (·, h)) fun t13 h =>
 opK (pickV t7 (.bool true) t13 h) fun t14 h =>
 condK t14
 (K (.int .i64 1) ((h.bump 1)))
 (rdK ((fun h : AHeap => binC P .geq 90 90 t1 (.int .u32 4194304) h) ((h.bump 3))) ((h.bump 3)) fun t17 h =>
  condK t17
  (K (.int .i64 2) ((h.bump 1)))
  (K (.int .i64 0) ((h.bump 1))))
theorem f109_eq (X : Caller) (L : Looper) (K : Value → AHeap → Prop) (h : AHeap) (t0 t1 : Value) : aJob P X L (.call 109 [t0, t1]) K h = f109 X L K h t0 t1 := by kernel_rfl
/-- cubbyhole/cache.nothing -/
def f110 (X : Caller) (L : Looper) (K : Value → AHeap → Prop) (h : AHeap) : Prop :=
 K (.int .u32 4294967295) (((h.bump 1).bump 1))
theorem f110_eq (X : Caller) (L : Looper) (K : Value → AHeap → Prop) (h : AHeap) : aJob P X L (.call 110 []) K h = f110 X L K h  := by kernel_rfl
def f111_j4 (X : Caller) (L : Looper) (K : Value → AHeap → Prop) (h : AHeap) (t4 t5 : Value) : Prop :=
 K (.tuple #[(.int .u32 0), (.int .i64 14)]) ((h.bump 2))
/-- cubbyhole/birth.After -/
def f111 (X : Caller) (L : Looper) (K : Value → AHeap → Prop) (h : AHeap) (t0 t1 : Value) : Prop :=
 X (.call 164 [t0]) (fun t9 h =>
 condK t9
 (K (.tuple #[(.int .u32 0), (.int .i64 1)]) ((h.bump 2)))
 (rdK ((fun h : AHeap => binC P .lss 27 27 t1 (.int .u64 18446744073709551615) h) ((h.bump 2))) ((h.bump 2)) fun t11 h =>
 condK t11
 (rdK ((fun h : AHeap => binC P .add 27 27 t1 (.int .u64 1) h) ((h.bump 10))) ((h.bump 10)) fun t16 h =>
  X (.call 165 [(.iface 66 t0), t16, (.int .u64 18446744073709551615)]) (fun t17 h =>
  opK (extV 0 t17 h) fun t18 h =>
  opK (extV 1 t17 h) fun t19 h =>
  condK t19
  (K (.tuple #[t18, (.int .i64 0)]) (((h.bump 1).bump 3)))
  (f111_j4 X L K ((h.bump 1)) ((.int .u32 0)) ((.int .i64 0)))) h)
 (f111_j4 X L K h ((.int .u32 0)) ((.int .i64 0))))) (((h.bump 2).bump 2))
theorem f111_eq (X : Caller) (L : Looper) (K : Value → AHeap → Prop) (h : AHeap) (t0 t1 : Value) : aJob P X L (.call 111 [t0, t1]) K h = f111 X L K h t0 t1 := by kernel_rfl
/-- cubbyhole/lru.New -/
def f112 (X : Caller) (L : Looper) (K : Value → AHeap → Prop) (h : AHeap) : Prop :=
 X (.call 166 [(.int .i64 8), (.int .i64 1)]) (fun t4 h =>
 opK (extV 0 t4 h) fun t5 h =>
 opK (extV 1 t4 h) fun t6 h =>
 regK 4 h fun b h =>
 rdK (buildA P 265 [(0, t5)]) h fun t8 h =>
 opK (boxV t8 (b + 2) h) fun t9 h =>
 K t9 h) (((h.bump 1).bump 6))
theorem f112_eq (X : Caller) (L : Looper) (K : Value → AHeap → Prop) (h : AHeap) : aJob P X L (.call 112 []) K h = f112 X L K h  := by kernel_rfl
/-- cubbyhole/budget.allowed -/
def f113 (X : Caller) (L : Looper) (K : Value → AHeap → Prop) (h : AHeap) (t0 t1 : Value) : Prop :=
 rdK ((fun h : AHeap => binC P .geq 3 3 t0 (.int .i64 1) h) (((h.bump 1).bump 15))) (((h.bump 1).bump 15)) fun t6 h =>
 gopK (wantV t6 true) h (some (t0, h)) fun t8 h =>
 gopK (wantV t6 true) h ((binC P .leq 3 3 t8 (.int .i64 1048576) h).map (·, h)) fun t9 h =>
 opK (pickV t6 t9 (.bool false) h) fun t10 h =>
 gopK (wantV t10 true) h (some (t1, h)) fun t12 h =>
 gopK (wantV t10 true) h ((binC P .geq 3 3 t12 (.int .i64 1) h).map (·, h)) fun t13 h =>
 opK (pickV t10 t13 (.bool false) h) fun t14 h =>
 gopK (wantV t14 true) h (some (t1, h)) fun t16 h =>
 gopK (wantV t14 true) h ((binC P .leq 3 3 t16 (.int .i64 1099511627776) h).map (·, h)) fun t17 h =>
 opK (pickV t14 t17 (.bool false) h) fun t18 h =>
 K t18 h
theorem f113_eq (X : Caller) (L : Looper) (K : Value → AHeap → Prop) (h : AHeap) (t0 t1 : Value) : aJob P X L (.call 113 [t0, t1]) K h = f113 X L K h t0 t1 := by kernel_rfl
def f114_l7 (X : Caller) (L : Looper) (a : AAct) (K : ActPost) (h : AHeap) : Prop :=
 rdK ((fun h : AHeap => binV P .lss 3 3 (a.env 18) (a.env 17) h) ((h.bump 1))) ((h.bump 1)) fun t19 h =>
 condK t19
 (opK ((fun h : AHeap => nilV (a.env 4) h) (((h.bump 2).bump 9))) fun t22 h =>
 rdK (fAddr 0 t22) h fun t23 h =>
 rdK (ld1 t23 h) h fun t24 h =>
 X (.call 168 []) (fun t26 h =>
 chkK (chkR ((ld1 t23 h).map (·, h)) t24 true) <|
 rdK (ixS 9 t24 (a.env 18)) h fun t27 h =>
 rdK (fAddr 0 t27) h fun t28 h =>
 stK (stV 1 t28 t26 h) fun h =>
 rdK ((fun h : AHeap => binC P .add 3 3 (a.env 18) (.int .i64 1) h) ((h.bump 2))) ((h.bump 2)) fun t29 h =>
 K .normal ⟨(upds a.env [(19, t19), (20, (a.env 18)), (5, (a.env 18)), (21, (a.env 4)), (22, t22), (23, t23), (24, t24), (25, (a.env 18)), (26, t26), (27, t27), (28, t28), (29, t29), (18, t29)]), a.defers⟩ h) h)
 (K (.exit 0) ⟨(upds a.env [(19, t19)]), a.defers⟩ h)
def f114_j5 (X : Caller) (L : Looper) (K : Value → AHeap → Prop) (h : AHeap) (a : AAct) : Prop :=
 leaveA P X Tryz.f114 ⟨(upds a.env [(30, (a.env 4)), (2, (a.env 4)), (3, (.int .i64 0))]), a.defers⟩ K a.defers ((h.bump 3))
/-- cubbyhole/swiss.New -/
def f114 (X : Caller) (L : Looper) (K : Value → AHeap → Prop) (h : AHeap) (t0 : Value) : Prop :=
 X (.call 167 [t0]) (fun t7 h =>
 rdK (unV P .not 4 t7) h fun t8 h =>
 condK t8
 (K (.tuple #[(.pointer none), (.int .i64 2)]) ((h.bump 2)))
 (regK 5 h fun b h =>
 opK (makeSliceA P 266 t0 t0 (b + 1) h) fun t10 h =>
 rdK (buildA P 268 [(0, t10)]) h fun t11 h =>
 opK (boxV t11 (b + 3) h) fun t12 h =>
 regK 6 h fun b_1 h =>
 opK (nilV t12 h) fun t14 h =>
 rdK (fAddr 0 t14) h fun t15 h =>
 rdK (ld1 t15 h) h fun t16 h =>
 opK (builtinV P .len [266] [t16] (b_1 + 4) h) fun t17 h =>
 L (f114_l7 X L) ⟨(upds (argsEnv [t0]) [(2, (.pointer none)), (3, (.int .i64 0)), (6, t0), (7, t7), (8, t8), (9, t0), (10, t10), (11, t11), (12, t12), (4, t12), (13, t12), (14, t14), (15, t15), (16, t16), (17, t17), (18, (.int .i64 0))]), []⟩ (blkX 0 (seqX (fun a h => f114_j5 X L K h a) (finX P X Tryz.f114 K))) h)) (((h.bump 2).bump 3))
theorem f114_eq (X : Caller) (L : Looper) (K : Value → AHeap → Prop) (h : AHeap) (t0 : Value) : aJob P X L (.call 114 [t0]) K h = f114 X L K h t0 := by kernel_rfl
/-- cubbyhole/entrylog.New -/
def f115 (X : Caller) (L : Looper) (K : Value → AHeap → Prop) (h : AHeap) : Prop :=
 regK 3 ((h.bump 1)) fun b h =>
 rdK (buildA P 255 [(0, (.bool true))]) h fun t1 h =>
 opK (boxV t1 (b + 1) h) fun t2 h =>
 K t2 h
theorem f115_eq (X : Caller) (L : Looper) (K : Value → AHeap → Prop) (h : AHeap) : aJob P X L (.call 115 []) K h = f115 X L K h  := by kernel_rfl
def f116_l4 (X : Caller) (L : Looper) (a : AAct) (K : ActPost) (h : AHeap) : Prop :=
 rdK ((fun h : AHeap => binC P .lss 3 3 (a.env 10) (.int .i64 8) h) ((h.bump 1))) ((h.bump 1)) fun t11 h =>
 condK t11
 (opK ((fun h : AHeap => nilV (a.env 3) h) (((h.bump 2).bump 7))) fun t16 h =>
 rdK (fAddr 1 t16) h fun t17 h =>
 X (.call 169 []) (fun t15 h =>
 rdK (ixR 8 1 t17 (a.env 10)) h fun t18 h =>
 stK (stV 1 t18 t15 h) fun h =>
 rdK ((fun h : AHeap => binC P .add 3 3 (a.env 10) (.int .i64 1) h) ((h.bump 2))) ((h.bump 2)) fun t19 h =>
 K .normal ⟨(upds a.env [(11, t11), (12, (a.env 10)), (4, (a.env 10)), (13, (a.env 3)), (14, (a.env 10)), (16, t16), (17, t17), (15, t15), (18, t18), (19, t19), (10, t19)]), a.defers⟩ h) h)
 (K (.exit 0) ⟨(upds a.env [(11, t11)]), a.defers⟩ h)
def f116_j2 (X : Caller) (L : Looper) (K : Value → AHeap → Prop) (h : AHeap) (a : AAct) : Prop :=
 leaveA P X Tryz.f116 ⟨(upds a.env [(20, (a.env 3)), (2, (a.env 3))]), a.defers⟩ K a.defers ((h.bump 2))
/-- cubbyhole/cascade.New -/
def f116 (X : Caller) (L : Looper) (K : Value → AHeap → Prop) (h : AHeap) (t0 : Value) : Prop :=
 regK 6 ((h.bump 1)) fun b h =>
 opK (mapV (b + 1) h) fun t6 h =>
 opK (mapV (b + 2) h) fun t7 h =>
 rdK (buildA P 192 [(0, t0), (2, t6), (3, t7)]) h fun t8 h =>
 opK (boxV t8 (b + 4) h) fun t9 h =>
 L (f116_l4 X L) ⟨(upds (argsEnv [t0]) [(2, (.pointer none)), (5, t0), (6, t6), (7, t7), (8, t8), (9, t9), (3, t9), (10, (.int .i64 0))]), []⟩ (blkX 0 (seqX (fun a h => f116_j2 X L K h a) (finX P X Tryz.f116 K))) ((h.bump 1))
theorem f116_eq (X : Caller) (L : Looper) (K : Value → AHeap → Prop) (h : AHeap) (t0 : Value) : aJob P X L (.call 116 [t0]) K h = f116 X L K h t0 := by kernel_rfl
def f117_l3 (X : Caller) (L : Looper) (a : AAct) (K : ActPost) (h : AHeap) : Prop :=
 rdK ((fun h : AHeap => binV P .lss 3 3 (a.env 7) (a.env 6) h) ((h.bump 1))) ((h.bump 1)) fun t8 h =>
 condK t8
 (regK 4 h fun b_1 h =>
 rdK (ixS 2 (a.env 5) (a.env 7)) h fun t9 h =>
 rdK (ldN 2 t9 h) h fun t10 h =>
 opK (newV [.bool false, .int .i64 0] (b_1 + 2) h) fun t4 h =>
 stK (stV 2 t4 t10 h) fun h =>
 rdK ((fun h : AHeap => fAddr 0 t4) ((h.bump 2))) ((h.bump 2)) fun t11 h =>
 rdK (ld1 t11 h) h fun t12 h =>
 condK t12
 (rdK ((fun h : AHeap => fAddr 1 t4) ((h.bump 3))) ((h.bump 3)) fun t13 h =>
  rdK (ld1 t13 h) h fun t14 h =>
  K .ret ⟨(upds a.env [(8, t8), (9, t9), (10, t10), (4, t4), (11, t11), (12, t12), (13, t13), (14, t14), (2, t14)]), a.defers⟩ h)
 (rdK ((fun h : AHeap => binC P .add 3 3 (a.env 7) (.int .i64 1) h) ((h.bump 2))) ((h.bump 2)) fun t15 h =>
 K .normal ⟨(upds a.env [(8, t8), (9, t9), (10, t10), (4, t4), (11, t11), (12, t12), (15, t15), (7, t15)]), a.defers⟩ h))
 (K (.exit 0) ⟨(upds a.env [(8, t8)]), a.defers⟩ h)
def f117_j1 (X : Caller) (L : Looper) (K : Value → AHeap → Prop) (h : AHeap) (a : AAct) : Prop :=
 leaveA P X Tryz.f117 ⟨(upds a.env [(2, (.int .i64 0))]), a.defers⟩ K a.defers ((h.bump 1))
/-- cubbyhole/entry.first -/
def f117 (X : Caller) (L : Looper) (K : Value → AHeap → Prop) (h : AHeap) (t0 : Value) : Prop :=
 regK 3 ((h.bump 1)) fun b h =>
 opK (builtinV P .len [270] [t0] (b + 1) h) fun t6 h =>
 L (f117_l3 X L) ⟨(upds (argsEnv [t0]) [(2, (.int .i64 0)), (5, t0), (6, t6), (7, (.int .i64 0))]), []⟩ (blkX 0 (seqX (fun a h => f117_j1 X L K h a) (finX P X Tryz.f117 K))) h
theorem f117_eq (X : Caller) (L : Looper) (K : Value → AHeap → Prop) (h : AHeap) (t0 : Value) : aJob P X L (.call 117 [t0]) K h = f117 X L K h t0 := by kernel_rfl
/-- cubbyhole/entry.ValidKey -/
def f118 (X : Caller) (L : Looper) (K : Value → AHeap → Prop) (h : AHeap) (t0 : Value) : Prop :=
 regK 9 ((h.bump 1)) fun b h =>
 opK (builtinV P .len [9] [t0] (b + 1) h) fun t4 h =>
 rdK (binC P .gtr 3 3 t4 (.int .i64 0) h) h fun t5 h =>
 gopK (wantV t5 true) h (some (t0, h)) fun t7 h =>
 gopK (wantV t5 true) h (builtinV P .len [9] [t7] (b + 5) h) fun t8 h =>
 gopK (wantV t5 true) h ((binC P .leq 3 3 t8 (.int .i64 250) h).map (·, h)) fun t9 h =>
 opK (pickV t5 t9 (.bool false) h) fun t10 h =>
 K t10 h
theorem f118_eq (X : Caller) (L : Looper) (K : Value → AHeap → Prop) (h : AHeap) (t0 : Value) : aJob P X L (.call 118 [t0]) K h = f118 X L K h t0 := by kernel_rfl
/-- (*cubbyhole/event.Stream).none -/
def f119 (X : Caller) (L : Looper) (K : Value → AHeap → Prop) (h : AHeap) (t0 : Value) : Prop :=
 rdK ((fun h : AHeap => binC P .eql 71 71 t0 (.pointer none) h) (((h.bump 1).bump 10))) (((h.bump 1).bump 10)) fun t4 h =>
 gopK (wantV t4 false) h (some (t0, h)) fun t6 h =>
 gopK (wantV t4 false) h (nilV t6 h) fun t7 h =>
 gopK (wantV t4 false) h ((fAddr 9 t7).map (·, h)) fun t8 h =>
 gopK (wantV t4 false) h ((ld1 t8 h).map (·, h)) fun t9 h =>
 gopK (wantV t4 false) h ((unV P .not 4 t9).map (·, h)) fun t10 h =>
 opK (pickV t4 (.bool true) t10 h) fun t11 h =>
 K t11 h
theorem f119_eq (X : Caller) (L : Looper) (K : Value → AHeap → Prop) (h : AHeap) (t0 : Value) : aJob P X L (.call 119 [t0]) K h = f119 X L K h t0 := by kernel_rfl
/-- (*cubbyhole/entrylog.Log).Live -/
def f120 (X : Caller) (L : Looper) (K : Value → AHeap → Prop) (h : AHeap) (t0 : Value) : Prop :=
 X (.call 159 [t0]) (fun t4 h =>
 condK t4
 (K (.int .i64 0) ((h.bump 1)))
 (opK ((fun h : AHeap => nilV t0 h) ((h.bump 5))) fun t6 h =>
 rdK (fAddr 2 t6) h fun t7 h =>
 rdK (ld1 t7 h) h fun t8 h =>
 K t8 h)) (((h.bump 1).bump 2))
theorem f120_eq (X : Caller) (L : Looper) (K : Value → AHeap → Prop) (h : AHeap) (t0 : Value) : aJob P X L (.call 120 [t0]) K h = f120 X L K h t0 := by kernel_rfl
/-- (*cubbyhole/swiss.Index).zero -/
def f121 (X : Caller) (L : Looper) (K : Value → AHeap → Prop) (h : AHeap) (t0 : Value) : Prop :=
 regK 11 ((h.bump 1)) fun b h =>
 rdK (binC P .eql 136 136 t0 (.pointer none) h) h fun t4 h =>
 gopK (wantV t4 false) h (some (t0, h)) fun t6 h =>
 gopK (wantV t4 false) h (nilV t6 h) fun t7 h =>
 gopK (wantV t4 false) h ((fAddr 0 t7).map (·, h)) fun t8 h =>
 gopK (wantV t4 false) h ((ld1 t8 h).map (·, h)) fun t9 h =>
 gopK (wantV t4 false) h (builtinV P .len [266] [t9] (b + 7) h) fun t10 h =>
 gopK (wantV t4 false) h ((binC P .eql 3 3 t10 (.int .i64 0) h).map (·, h)) fun t11 h =>
 opK (pickV t4 (.bool true) t11 h) fun t12 h =>
 K t12 h
theorem f121_eq (X : Caller) (L : Looper) (K : Value → AHeap → Prop) (h : AHeap) (t0 : Value) : aJob P X L (.call 121 [t0]) K h = f121 X L K h t0 := by kernel_rfl
def f122_a0 (X : Caller) (L : Looper) (a : AAct) (K : ActPost) (h : AHeap) : Prop :=
 K .normal ⟨(upds a.env [(11, (a.env 26))]), a.defers⟩ ((h.bump 1))
def f122_a1 (X : Caller) (L : Looper) (a : AAct) (K : ActPost) (h : AHeap) : Prop :=
 K .normal ⟨(upds a.env [(13, (a.env 41))]), a.defers⟩ ((h.bump 1))
def f122_b1 (X : Caller) (L : Looper) (a : AAct) (K : ActPost) (h : AHeap) : Prop :=
 rdK ((fun h : AHeap => ld1 (a.env 5) h) ((h.bump 8))) ((h.bump 8)) fun t42 h =>
 rdK (ld1 (a.env 12) h) h fun t43 h =>
 opK (nilV t43 h) fun t45 h =>
 rdK (fAddr 1 t45) h fun t46 h =>
 rdK (ixR 8 1 t46 (a.env 13)) h fun t47 h =>
 rdK (ld1 t47 h) h fun t48 h =>
 callV X t42 [t48] (fun t49 h =>
 condK t49
 (rdK ((fun h : AHeap => ld1 (a.env 12) h) ((h.bump 5))) ((h.bump 5)) fun t50 h =>
  stK (stV 1 (a.env 6) t50 h) fun h =>
  stK (stV 1 (a.env 7) (a.env 13) h) fun h =>
  stK (stV 1 (a.env 8) (.int .i64 0) h) fun h =>
  K .ret ⟨(upds a.env [(42, t42), (43, t43), (44, (a.env 13)), (45, t45), (46, t46), (47, t47), (48, t48), (49, t49), (50, t50), (51, (a.env 13))]), a.defers⟩ h)
 (K .normal ⟨(upds a.env [(42, t42), (43, t43), (44, (a.env 13)), (45, t45), (46, t46), (47, t47), (48, t48), (49, t49)]), a.defers⟩ h)) h
noncomputable def f122_ca1 : Code := (rangesF Tryz.f122 1).1
noncomputable def f122_cb1 : Code := (rangesF Tryz.f122 1).2
theorem f122_a1_eq (X : Caller) (L : Looper) (a : AAct) (K : ActPost) (h : AHeap) : aCode P X L true f122_ca1 a K h = f122_a1 X L a K h := by kernel_rfl
theorem f122_b1_eq (X : Caller) (L : Looper) (a : AAct) (K : ActPost) (h : AHeap) : aCode P X L true f122_cb1 a K h = f122_b1 X L a K h := by kernel_rfl
def f122_j5 (X : Caller) (L : Looper) (K : ActPost) (h : AHeap) (a : AAct) : Prop :=
 rdK ((fun h : AHeap => ld1 (a.env 12) h) ((h.bump 6))) ((h.bump 6)) fun t52 h =>
 opK (nilV t52 h) fun t53 h =>
 rdK (fAddr 0 t53) h fun t54 h =>
 rdK (ld1 t54 h) h fun t55 h =>
 X (.call 175 [t55]) (fun t56 h =>
 rdK (binC P .neq 5 5 t56 (.int .u8 0) h) h fun t57 h =>
 condK t57
 (K (.exit 0) ⟨(upds a.env [(52, t52), (53, t53), (54, t54), (55, t55), (56, t56), (57, t57)]), a.defers⟩ h)
 (K .normal ⟨(upds a.env [(52, t52), (53, t53), (54, t54), (55, t55), (56, t56), (57, t57)]), a.defers⟩ h)) h
def f122_b0 (X : Caller) (L : Looper) (a : AAct) (K : ActPost) (h : AHeap) : Prop :=
 regK 8 h fun b_2 h =>
 rdK (ld1 (a.env 3) h) h fun t27 h =>
 opK (nilV t27 h) fun t28 h =>
 rdK (fAddr 0 t28) h fun t29 h =>
 rdK (ld1 t29 h) h fun t30 h =>
 rdK (ixS 9 t30 (a.env 11)) h fun t32 h =>
 opK (newV [.pointer none] (b_2 + 6) h) fun t12 h =>
 stK (stV 1 t12 t32 h) fun h =>
 rdK ((fun h : AHeap => ld1 t12 h) ((h.bump 8))) ((h.bump 8)) fun t33 h =>
 opK (nilV t33 h) fun t34 h =>
 rdK (fAddr 0 t34) h fun t35 h =>
 rdK (ld1 t35 h) h fun t36 h =>
 rdK (ld1 (a.env 4) h) h fun t37 h =>
 X (.call 174 [t37]) (fun t38 h =>
 chkK (chkR ((ld1 t35 h).map (·, h)) t36 (chkR ((ld1 t12 h).map (·, h)) t33 true)) <|
 X (.call 173 [t36, t38]) (fun t39 h =>
 X (.call 172 [t39]) (fun t40 h =>
 rangeK X t40 ⟨(upds a.env [(27, t27), (28, t28), (29, t29), (30, t30), (31, (a.env 11)), (32, t32), (12, t12), (33, t33), (34, t34), (35, t35), (36, t36), (37, t37), (38, t38), (39, t39), (40, t40)]), a.defers⟩ [41] f122_ca1 f122_cb1 (blkX 2 (seqX (fun a h => f122_j5 X L K h a) (blkX 1 K))) h) h) h) h
noncomputable def f122_ca0 : Code := (rangesF Tryz.f122 0).1
noncomputable def f122_cb0 : Code := (rangesF Tryz.f122 0).2
theorem f122_a0_eq (X : Caller) (L : Looper) (a : AAct) (K : ActPost) (h : AHeap) : aCode P X L true f122_ca0 a K h = f122_a0 X L a K h := by kernel_rfl
theorem f122_b0_eq (X : Caller) (L : Looper) (a : AAct) (K : ActPost) (h : AHeap) : aCode P X L true f122_cb0 a K h = f122_b0 X L a K h := by kernel_rfl
def f122_j2 (X : Caller) (L : Looper) (K : Value → AHeap → Prop) (h : AHeap) (a : AAct) : Prop :=
 stK ((fun h : AHeap => stV 1 (a.env 6) (.pointer none) h) ((h.bump 3))) fun h =>
 stK (stV 1 (a.env 7) (.int .i64 0) h) fun h =>
 stK (stV 1 (a.env 8) (.int .i64 9) h) fun h =>
 leaveA P X Tryz.f122 ⟨a.env, a.defers⟩ K a.defers h
/-- (*cubbyhole/swiss.Index).find -/
def f122 (X : Caller) (L : Looper) (K : Value → AHeap → Prop) (h : AHeap) (t0 t1 t2 : Value) : Prop :=
 regK 6 h fun b h =>
 opK (boxV t0 (b + 0) h) fun t3 h =>
 opK (boxV t1 (b + 1) h) fun t4 h =>
 opK (boxV t2 (b + 2) h) fun t5 h =>
 opK (newV [.pointer none] (b + 3) h) fun t6 h =>
 opK (newV [.int .i64 0] (b + 4) h) fun t7 h =>
 opK (newV [.int .i64 0] (b + 5) h) fun t8 h =>
 regK 13 h fun b_1 h =>
 rdK (ld1 t4 h) h fun t15 h =>
 rdK (ld1 t3 h) h fun t17 h =>
 opK (nilV t17 h) fun t18 h =>
 rdK (fAddr 0 t18) h fun t19 h =>
 rdK (ld1 t19 h) h fun t20 h =>
 opK (builtinV P .len [266] [t20] (b_1 + 6) h) fun t21 h =>
 X (.call 171 [t15]) (fun t16 h =>
 chkK (chkR (builtinV P .len [266] [t20] (b_1 + 6) h) t21 (chkR ((ld1 t19 h).map (·, h)) t20 (chkR ((ld1 t3 h).map (·, h)) t17 true))) <|
 X (.call 170 [t16, t21]) (fun t22 h =>
 opK (extV 0 t22 h) fun t23 h =>
 opK (extV 1 t22 h) fun t24 h =>
 rangeK X t23 ⟨(upds (argsEnv [t0, t1, t2]) [(3, t3), (4, t4), (5, t5), (6, t6), (7, t7), (8, t8), (15, t15), (17, t17), (18, t18), (19, t19), (20, t20), (21, t21), (16, t16), (22, t22), (14, t22), (23, t23), (24, t24), (9, t23), (10, t24), (25, t23)]), []⟩ [26] f122_ca0 f122_cb0 (blkX 0 (seqX (fun a h => f122_j2 X L K h a) (finX P X Tryz.f122 K))) ((h.bump 1))) h) h
theorem f122_eq (X : Caller) (L : Looper) (K : Value → AHeap → Prop) (h : AHeap) (t0 t1 t2 : Value) : aJob P X L (.call 122 [t0, t1, t2]) K h = f122 X L K h t0 t1 t2 := by kernel_rfl
end Go.Proofs.YtcoofhpdkgkjcaaGreatDoor.F
