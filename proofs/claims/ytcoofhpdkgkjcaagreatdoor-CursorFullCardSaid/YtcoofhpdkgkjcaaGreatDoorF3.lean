/- The functions of the program, as shallow texts (printed by a program of this place). -/
import Derived.Test.YtcoofhpdkgkjcaaGreatDoorFW
namespace Go.Proofs.YtcoofhpdkgkjcaaGreatDoor.F
set_option linter.unusedVariables false
set_option linter.unusedSimpArgs false
open Go Go.Cub
/-- cubbyhole/hash.Mix -/
def f123 (X : Caller) (L : Looper) (K : Value → AHeap → Prop) (h : AHeap) (t0 : Value) : Prop :=
 rdK ((fun h : AHeap => binC P .shr 27 276 t0 (.int .u64 29) h) (((h.bump 1).bump 6))) (((h.bump 1).bump 6)) fun t6 h =>
 rdK (binV P .xor 27 27 t0 t6 h) h fun t7 h =>
 rdK (binD P .mul 27 27 (.int .u64 5) t7 h) h fun t8 h =>
 rdK ((fun h : AHeap => binC P .shr 27 276 t8 (.int .u64 32) h) ((h.bump 5))) ((h.bump 5)) fun t11 h =>
 rdK (binV P .xor 27 27 t8 t11 h) h fun t12 h =>
 K t12 h
theorem f123_eq (X : Caller) (L : Looper) (K : Value → AHeap → Prop) (h : AHeap) (t0 : Value) : aJob P X L (.call 123 [t0]) K h = f123 X L K h t0 := by kernel_rfl
def f124_l3 (X : Caller) (L : Looper) (a : AAct) (K : ActPost) (h : AHeap) : Prop :=
 rdK ((fun h : AHeap => binV P .lss 3 3 (a.env 8) (a.env 7) h) ((h.bump 1))) ((h.bump 1)) fun t9 h =>
 condK t9
 (regK 8 ((h.bump 2)) fun b_1 h =>
 rdK (indexA P 9 (a.env 1) (a.env 8)) h fun t14 h =>
 opK (convertA P 5 27 t14 (b_1 + 4) h) fun t15 h =>
 rdK (binV P .xor 27 27 (a.env 0) t15 h) h fun t16 h =>
 rdK (binC P .mul 27 27 t16 (.int .u64 1099511628211) h) h fun t17 h =>
 rdK ((fun h : AHeap => binC P .add 3 3 (a.env 8) (.int .i64 1) h) ((h.bump 2))) ((h.bump 2)) fun t18 h =>
 K .normal ⟨(upds a.env [(9, t9), (10, (a.env 8)), (5, (a.env 8)), (11, (a.env 0)), (12, (a.env 1)), (13, (a.env 8)), (14, t14), (15, t15), (16, t16), (17, t17), (0, t17), (18, t18), (8, t18)]), a.defers⟩ h)
 (K (.exit 0) ⟨(upds a.env [(9, t9)]), a.defers⟩ h)
def f124_j1 (X : Caller) (L : Looper) (K : Value → AHeap → Prop) (h : AHeap) (a : AAct) : Prop :=
 leaveA P X Tryz.f124 ⟨(upds a.env [(19, (a.env 0)), (4, (a.env 0))]), a.defers⟩ K a.defers ((h.bump 2))
/-- cubbyhole/hash.fold[string] -/
def f124 (X : Caller) (L : Looper) (K : Value → AHeap → Prop) (h : AHeap) (t0 t1 : Value) : Prop :=
 regK 3 ((h.bump 1)) fun b h =>
 opK (builtinV P .len [9] [t1] (b + 1) h) fun t7 h =>
 L (f124_l3 X L) ⟨(upds (argsEnv [t0, t1]) [(4, (.int .u64 0)), (6, t1), (7, t7), (8, (.int .i64 0))]), []⟩ (blkX 0 (seqX (fun a h => f124_j1 X L K h a) (finX P X Tryz.f124 K))) h
theorem f124_eq (X : Caller) (L : Looper) (K : Value → AHeap → Prop) (h : AHeap) (t0 t1 : Value) : aJob P X L (.call 124 [t0, t1]) K h = f124 X L K h t0 t1 := by kernel_rfl
/-- (*cubbyhole/entrylog.Log).Key -/
def f125 (X : Caller) (L : Looper) (K : Value → AHeap → Prop) (h : AHeap) (t0 t1 : Value) : Prop :=
 X (.call 126 [t0, t1]) (fun t11 h =>
 opK (extV 0 t11 h) fun t12 h =>
 opK (extV 1 t11 h) fun t13 h =>
 rdK ((fun h : AHeap => binC P .neq 31 31 t13 (.int .i64 0) h) ((h.bump 2))) ((h.bump 2)) fun t15 h =>
 condK t15
 (K (.tuple #[(.string ⟨#[]⟩), t13]) ((h.bump 3)))
 (opK ((fun h : AHeap => nilV t12 h) ((h.bump 6))) fun t18 h =>
 rdK (fAddr 0 t18) h fun t19 h =>
 rdK (ld1 t19 h) h fun t20 h =>
 K (.tuple #[t20, (.int .i64 0)]) h)) (((h.bump 2).bump 8))
theorem f125_eq (X : Caller) (L : Looper) (K : Value → AHeap → Prop) (h : AHeap) (t0 t1 : Value) : aJob P X L (.call 125 [t0, t1]) K h = f125 X L K h t0 t1 := by kernel_rfl
/-- (*cubbyhole/entrylog.Log).at -/
def f126 (X : Caller) (L : Looper) (K : Value → AHeap → Prop) (h : AHeap) (t0 t1 : Value) : Prop :=
 X (.call 159 [t0]) (fun t8 h =>
 condK t8
 (K (.tuple #[(.pointer none), (.int .i64 1)]) ((h.bump 2)))
 (regK 20 h fun b h =>
  opK (convertA P 90 3 t1 (b + 1) h) fun t11 h =>
  opK (nilV t0 h) fun t13 h =>
  rdK (fAddr 1 t13) h fun t14 h =>
  rdK (ld1 t14 h) h fun t15 h =>
  opK (builtinV P .len [253] [t15] (b + 6) h) fun t16 h =>
  rdK (binV P .geq 3 3 t11 t16 h) h fun t17 h =>
  gopK (wantV t17 false) h (some (t0, h)) fun t19 h =>
  gopK (wantV t17 false) h (nilV t19 h) fun t20 h =>
  gopK (wantV t17 false) h ((fAddr 1 t20).map (·, h)) fun t21 h =>
  gopK (wantV t17 false) h ((ld1 t21 h).map (·, h)) fun t22 h =>
  gopK (wantV t17 false) h (some (t1, h)) fun t23 h =>
  gopK (wantV t17 false) h ((ixS 4 t22 t23).map (·, h)) fun t24 h =>
  gopK (wantV t17 false) h ((fAddr 3 t24).map (·, h)) fun t25 h =>
  gopK (wantV t17 false) h ((ld1 t25 h).map (·, h)) fun t26 h =>
  gopK (wantV t17 false) h ((binC P .eql 27 27 t26 (.int .u64 0) h).map (·, h)) fun t27 h =>
  opK (pickV t17 (.bool true) t27 h) fun t28 h =>
  condK t28
  (K (.tuple #[(.pointer none), (.int .i64 9)]) ((h.bump 2)))
  (opK ((fun h : AHeap => nilV t0 h) ((h.bump 8))) fun t30 h =>
 rdK (fAddr 1 t30) h fun t31 h =>
 rdK (ld1 t31 h) h fun t32 h =>
 rdK (ixS 4 t32 t1) h fun t34 h =>
 K (.tuple #[t34, (.int .i64 0)]) h))) (((h.bump 2).bump 3))
theorem f126_eq (X : Caller) (L : Looper) (K : Value → AHeap → Prop) (h : AHeap) (t0 t1 : Value) : aJob P X L (.call 126 [t0, t1]) K h = f126 X L K h t0 t1 := by kernel_rfl
/-- cubbyhole/entry.Copy -/
def f127 (X : Caller) (L : Looper) (K : Value → AHeap → Prop) (h : AHeap) (t0 : Value) : Prop :=
 regK 2 h fun b h =>
 opK (boxV t0 (b + 0) h) fun t1 h =>
 opK (newV [.string ⟨#[]⟩, .slice none 0 0, .int .u64 0, .int .u64 0] (b + 1) h) fun t2 h =>
 rdK ((fun h : AHeap => fAddr 1 t1) ((h.bump 5))) ((h.bump 5)) fun t3 h =>
 rdK (ld1 t3 h) h fun t4 h =>
 X (.call 149 [t4]) (fun t5 h =>
 rdK (fAddr 1 t1) h fun t6 h =>
 stK (stV 1 t6 t5 h) fun h =>
 rdK ((fun h : AHeap => ldN 4 t1 h) ((h.bump 2))) ((h.bump 2)) fun t7 h =>
 stK (stV 4 t2 t7 h) fun h =>
 retK (consR (ldN 4 t2 h) (some [])) K h) h
theorem f127_eq (X : Caller) (L : Looper) (K : Value → AHeap → Prop) (h : AHeap) (t0 : Value) : aJob P X L (.call 127 [t0]) K h = f127 X L K h t0 := by kernel_rfl
/-- (*cubbyhole/cache.Cache).leave$1 -/
def f128 (X : Caller) (L : Looper) (K : Value → AHeap → Prop) (h : AHeap) (t0 t1 t2 : Value) : Prop :=
 rdK ((fun h : AHeap => ld1 t1 h) ((h.bump 14))) ((h.bump 14)) fun t10 h =>
 opK (nilV t10 h) fun t11 h =>
 rdK (fAddr 0 t11) h fun t12 h =>
 rdK (fAddr 2 t12) h fun t13 h =>
 rdK (ld1 t13 h) h fun t14 h =>
 X (.call 95 [t14, t0]) (fun t16 h =>
 opK (extV 0 t16 h) fun t17 h =>
 opK (extV 1 t16 h) fun t18 h =>
 opK (extV 2 t16 h) fun t19 h =>
 rdK ((fun h : AHeap => ld1 t1 h) ((h.bump 7))) ((h.bump 7)) fun t20 h =>
 opK (nilV t20 h) fun t21 h =>
 rdK (fAddr 0 t21) h fun t22 h =>
 rdK (fAddr 2 t22) h fun t23 h =>
 rdK (ld1 t23 h) h fun t24 h =>
 X (.call 129 [t24, t0]) (fun t26 h =>
 rdK ((fun h : AHeap => ld1 t1 h) ((h.bump 8))) ((h.bump 8)) fun t27 h =>
 opK (nilV t27 h) fun t28 h =>
 rdK (fAddr 0 t28) h fun t29 h =>
 rdK (fAddr 3 t29) h fun t30 h =>
 rdK (ld1 t30 h) h fun t31 h =>
 X (.call 97 [t31, t17, t18]) (fun t34 h =>
 rdK ((fun h : AHeap => ld1 t1 h) ((h.bump 7))) ((h.bump 7)) fun t35 h =>
 opK (nilV t35 h) fun t36 h =>
 rdK (fAddr 0 t36) h fun t37 h =>
 rdK (fAddr 4 t37) h fun t38 h =>
 rdK (ld1 t38 h) h fun t39 h =>
 X (.call 130 [t39, t0]) (fun t41 h =>
 regK 13 h fun b h =>
 rdK (ld1 t1 h) h fun t43 h =>
 opK (nilV t43 h) fun t44 h =>
 rdK (fAddr 0 t44) h fun t45 h =>
 rdK (fAddr 0 t45) h fun t46 h =>
 rdK (ld1 t46 h) h fun t47 h =>
 X (.call 131 [t47, t0]) (fun t49 h =>
 opK (extV 0 t49 h) fun t50 h =>
 opK (extV 1 t49 h) fun t51 h =>
 opK (newV [.string ⟨#[]⟩, .slice none 0 0, .int .u64 0, .int .u64 0] (b + 10) h) fun t7 h =>
 stK (stV 4 t7 t50 h) fun h =>
 rdK ((fun h : AHeap => ld1 t1 h) ((h.bump 4))) ((h.bump 4)) fun t52 h =>
 rdK (ld1 t2 h) h fun t53 h =>
 rdK (ldN 4 t7 h) h fun t54 h =>
 X (.call 52 [t52, t53, t54]) (fun t55 h =>
 K (.tuple #[]) h) h) h) h) h) h) h
theorem f128_eq (X : Caller) (L : Looper) (K : Value → AHeap → Prop) (h : AHeap) (t0 t1 t2 : Value) : aJob P X L (.call 128 [t0, t1, t2]) K h = f128 X L K h t0 t1 t2 := by kernel_rfl
/-- (*cubbyhole/segment.Segments).Remove -/
def f129 (X : Caller) (L : Looper) (K : Value → AHeap → Prop) (h : AHeap) (t0 t1 : Value) : Prop :=
 X (.call 104 [t0, t1, (.int .i64 0)]) (fun t8 h =>
 rdK ((fun h : AHeap => binC P .neq 31 31 t8 (.int .i64 0) h) ((h.bump 2))) ((h.bump 2)) fun t10 h =>
 condK t10
 (K t8 ((h.bump 2)))
 (X (.call 153 [t0, t1]) (fun t14 h =>
 rdK (unV P .not 4 t14) h fun t15 h =>
 condK t15
 (K (.int .i64 9) ((h.bump 1)))
 (K (.int .i64 0) ((h.bump 1)))) ((h.bump 4)))) (((h.bump 1).bump 4))
theorem f129_eq (X : Caller) (L : Looper) (K : Value → AHeap → Prop) (h : AHeap) (t0 t1 : Value) : aJob P X L (.call 129 [t0, t1]) K h = f129 X L K h t0 t1 := by kernel_rfl
/-- (*cubbyhole/due.Deadlines).Remove -/
def f130 (X : Caller) (L : Looper) (K : Value → AHeap → Prop) (h : AHeap) (t0 t1 : Value) : Prop :=
 X (.call 60 [t0, t1]) (fun t10 h =>
 rdK ((fun h : AHeap => binC P .neq 31 31 t10 (.int .i64 0) h) ((h.bump 2))) ((h.bump 2)) fun t12 h =>
 condK t12
 (K t10 ((h.bump 2)))
 (regK 12 h fun b h =>
 opK (nilV t0 h) fun t16 h =>
 rdK (fAddr 2 t16) h fun t17 h =>
 rdK (ld1 t17 h) h fun t18 h =>
 rdK (lookupA P 111 t18 t1 true h) h fun t20 h =>
 opK (extV 0 t20 h) fun t21 h =>
 opK (extV 1 t20 h) fun t22 h =>
 opK (newV [.int .u32 0, .int .u64 0, .int .u64 0] (b + 9) h) fun t6 h =>
 stK (stV 3 t6 t21 h) fun h =>
 rdK ((fun h : AHeap => unV P .not 4 t22) ((h.bump 2))) ((h.bump 2)) fun t24 h =>
 condK t24
 (K (.int .i64 9) ((h.bump 1)))
 (rdK ((fun h : AHeap => ldN 3 t6 h) ((h.bump 3))) ((h.bump 3)) fun t26 h =>
 X (.call 93 [t0, t26]) (fun t27 h =>
 K (.int .i64 0) ((h.bump 1))) h))) (((h.bump 1).bump 4))
theorem f130_eq (X : Caller) (L : Looper) (K : Value → AHeap → Prop) (h : AHeap) (t0 t1 : Value) : aJob P X L (.call 130 [t0, t1]) K h = f130 X L K h t0 t1 := by kernel_rfl
def f131_j10 (X : Caller) (L : Looper) (K : Value → AHeap → Prop) (h : AHeap) (t8 t9 t4 t72 t73 t5 : Value) : Prop :=
 rdK ((fun h : AHeap => ldN 4 t8 h) ((h.bump 4))) ((h.bump 4)) fun t72_1 h =>
 stK (stV 4 t4 t72_1 h) fun h =>
 retK (consR (ldN 4 t4 h) (consR (some t9) (some []))) K h
/-- (*cubbyhole/dict.Dict).Remove -/
def f131 (X : Caller) (L : Looper) (K : Value → AHeap → Prop) (h : AHeap) (t0 t1 : Value) : Prop :=
 regK 2 h fun b h =>
 opK (newV [.string ⟨#[]⟩, .slice none 0 0, .int .u64 0, .int .u64 0] (b + 0) h) fun t4 h =>
 X (.call 77 [t0]) (fun t13 h =>
 condK t13
 (rdK ((fun h : AHeap => buildA P 44 []) ((h.bump 3))) ((h.bump 3)) fun t14 h =>
  stK (stV 4 t4 t14 h) fun h =>
  retK (consR (ldN 4 t4 h) (consR (some (.int .i64 1)) (some []))) K h)
 (opK ((fun h : AHeap => nilV t0 h) ((h.bump 12))) fun t17 h =>
 rdK (fAddr 0 t17) h fun t18 h =>
 rdK (fAddr 0 t18) h fun t19 h =>
 rdK (ld1 t19 h) h fun t20 h =>
 X (.call 125 [t20, t1]) (fun t22 h =>
 opK (extV 0 t22 h) fun t23 h =>
 opK (extV 1 t22 h) fun t24 h =>
 rdK ((fun h : AHeap => binC P .neq 31 31 t24 (.int .i64 0) h) ((h.bump 2))) ((h.bump 2)) fun t26 h =>
 condK t26
 (rdK ((fun h : AHeap => buildA P 44 []) ((h.bump 4))) ((h.bump 4)) fun t27 h =>
  stK (stV 4 t4 t27 h) fun h =>
  retK (consR (ldN 4 t4 h) (consR (some t24) (some []))) K h)
 (opK ((fun h : AHeap => nilV t0 h) ((h.bump 9))) fun t30 h =>
 rdK (fAddr 3 t30) h fun t31 h =>
 rdK (ld1 t31 h) h fun t32 h =>
 X (.call 162 [t0, t1]) (fun t35 h =>
 chkK (chkR ((ld1 t31 h).map (·, h)) t32 true) <|
 X (.call 176 [t32, t35, t1]) (fun t37 h =>
 regK 13 h fun b_1 h =>
 opK (nilV t0 h) fun t40 h =>
 rdK (fAddr 0 t40) h fun t41 h =>
 rdK (fAddr 0 t41) h fun t42 h =>
 rdK (ld1 t42 h) h fun t43 h =>
 X (.call 177 [t43, t1]) (fun t45 h =>
 opK (extV 0 t45 h) fun t46 h =>
 opK (extV 1 t45 h) fun t47 h =>
 opK (newV [.string ⟨#[]⟩, .slice none 0 0, .int .u64 0, .int .u64 0] (b_1 + 10) h) fun t8 h =>
 stK (stV 4 t8 t46 h) fun h =>
 regK 22 h fun b_2 h =>
 opK (nilV t0 h) fun t50 h =>
 rdK (fAddr 3 t50) h fun t51 h =>
 rdK (ld1 t51 h) h fun t52 h =>
 opK (nilV t0 h) fun t55 h =>
 rdK (fAddr 3 t55) h fun t56 h =>
 rdK (ld1 t56 h) h fun t57 h =>
 opK (nilV t0 h) fun t60 h =>
 rdK (fAddr 3 t60) h fun t61 h =>
 rdK (ld1 t61 h) h fun t62 h =>
 opK (newV [.int .i64 0, .bool false] (b_2 + 19) h) fun t10 h =>
 X (.call 139 [t52]) (fun t53 h =>
 chkK (chkR ((ld1 t61 h).map (·, h)) t62 (chkR ((ld1 t56 h).map (·, h)) t57 true)) <|
 X (.call 158 [t57]) (fun t58 h =>
 chkK (chkR ((ld1 t61 h).map (·, h)) t62 true) <|
 X (.call 140 [t62]) (fun t63 h =>
 X (.call 178 [t53, t58, t63]) (fun t64 h =>
 opK (extV 0 t64 h) fun t65 h =>
 opK (extV 1 t64 h) fun t66 h =>
 stK (stV 2 t10 t65 h) fun h =>
 rdK ((fun h : AHeap => binC P .eql 31 31 t66 (.int .i64 0) h) ((h.bump 2))) ((h.bump 2)) fun t68 h =>
 condK t68
 (rdK ((fun h : AHeap => ldN 2 t10 h) ((h.bump 3))) ((h.bump 3)) fun t70 h =>
  X (.call 160 [t0, t70]) (fun t71 h =>
  f131_j10 X L K h t8 t47 t4 undef undef ((.int .i64 0))) h)
 (f131_j10 X L K h t8 t47 t4 undef undef ((.int .i64 0)))) h) h) h) h) h) h) h)) h)) ((h.bump 2))
theorem f131_eq (X : Caller) (L : Looper) (K : Value → AHeap → Prop) (h : AHeap) (t0 t1 : Value) : aJob P X L (.call 131 [t0, t1]) K h = f131 X L K h t0 t1 := by kernel_rfl
def f132_l13 (X : Caller) (L : Looper) (a : AAct) (K : ActPost) (h : AHeap) : Prop :=
 rdK ((fun h : AHeap => binV P .lss 3 3 (a.env 43) (a.env 42) h) ((h.bump 1))) ((h.bump 1)) fun t44 h =>
 condK t44
 (regK 6 ((h.bump 2)) fun b h =>
 X (.call 180 [(a.env 0), (a.env 43), (.int .i64 255)]) (fun t49 h =>
 opK (builtinV P .append [151, 151] [(a.env 8), t49] (b + 4) h) fun t50 h =>
 rdK ((fun h : AHeap => binC P .add 3 3 (a.env 43) (.int .i64 1) h) ((h.bump 2))) ((h.bump 2)) fun t51 h =>
 K .normal ⟨(upds a.env [(44, t44), (45, (a.env 43)), (9, (a.env 43)), (46, (a.env 8)), (47, (a.env 0)), (48, (a.env 43)), (49, t49), (50, t50), (8, t50), (51, t51), (43, t51)]), a.defers⟩ h) h)
 (K (.exit 1) ⟨(upds a.env [(44, t44)]), a.defers⟩ h)
def f132_j25 (X : Caller) (L : Looper) (K : ActPost) (h : AHeap) (a : AAct) : Prop :=
 rdK ((fun h : AHeap => binC P .add 3 3 (a.env 60) (.int .i64 1) h) ((h.bump 2))) ((h.bump 2)) fun t85 h =>
 K .normal ⟨(upds a.env [(85, t85), (60, t85)]), a.defers⟩ h
def f132_l22 (X : Caller) (L : Looper) (a : AAct) (K : ActPost) (h : AHeap) : Prop :=
 rdK ((fun h : AHeap => binV P .lss 3 3 (a.env 60) (a.env 59) h) ((h.bump 1))) ((h.bump 1)) fun t61 h =>
 condK t61
 (rdK ((fun h : AHeap => ixS 1 (a.env 58) (a.env 60)) ((h.bump 3))) ((h.bump 3)) fun t62 h =>
 rdK (ld1 t62 h) h fun t63 h =>
 regK 8 h fun b_3 h =>
 opK (nilV (a.env 0) h) fun t65 h =>
 rdK (fAddr 9 t65) h fun t66 h =>
 rdK (ld1 t66 h) h fun t67 h =>
 rdK (lookupA P 111 t67 t63 false h) h fun t69 h =>
 opK (newV [.int .u32 0, .int .u64 0, .int .u64 0] (b_3 + 6) h) fun t13 h =>
 stK (stV 3 t13 t69 h) fun h =>
 rdK ((fun h : AHeap => fAddr 1 t13) ((h.bump 5))) ((h.bump 5)) fun t70 h =>
 rdK (ld1 t70 h) h fun t71 h =>
 X (.call 48 [t71, (a.env 1)]) (fun t73 h =>
 rdK (unV P .not 4 t73) h fun t74 h =>
 condK t74
 (rdK ((fun h : AHeap => ldN 3 t13 h) ((h.bump 3))) ((h.bump 3)) fun t76 h =>
  X (.call 181 [(a.env 0), t76]) (fun t77 h =>
  f132_j25 X L K h ⟨(upds a.env [(61, t61), (62, t62), (63, t63), (12, t63), (64, (a.env 0)), (65, t65), (66, t66), (67, t67), (68, t63), (69, t69), (13, t13), (70, t70), (71, t71), (72, (a.env 1)), (73, t73), (74, t74), (75, (a.env 0)), (76, t76), (77, t77)]), a.defers⟩) h)
 (rdK ((fun h : AHeap => ldN 3 t13 h) ((h.bump 3))) ((h.bump 3)) fun t79 h =>
 X (.call 182 [(a.env 0), t79]) (fun t80 h =>
 regK 5 h fun b_4 h =>
 rdK (ldN 3 t13 h) h fun t82 h =>
 opK (bsliceV P 145 1 [(0, t82)] (b_4 + 2) h) fun t83 h =>
 opK (builtinV P .append [145, 145] [(a.env 10), t83] (b_4 + 3) h) fun t84 h =>
 f132_j25 X L K h ⟨(upds a.env [(61, t61), (62, t62), (63, t63), (12, t63), (64, (a.env 0)), (65, t65), (66, t66), (67, t67), (68, t63), (69, t69), (13, t13), (70, t70), (71, t71), (72, (a.env 1)), (73, t73), (74, t74), (78, (a.env 0)), (79, t79), (80, t80), (81, (a.env 10)), (82, t82), (83, t83), (84, t84), (10, t84)]), a.defers⟩) h)) h)
 (K (.exit 3) ⟨(upds a.env [(61, t61)]), a.defers⟩ h)
def f132_j20 (X : Caller) (L : Looper) (K : Value → AHeap → Prop) (h : AHeap) (a : AAct) : Prop :=
 X (.call 183 [(a.env 10), (.func (.func 184) #[] #[])]) (fun t87 h =>
 leaveA P X Tryz.f132 ⟨(upds a.env [(86, (a.env 10)), (87, t87), (88, (a.env 10)), (4, (a.env 10)), (5, (.int .i64 0))]), a.defers⟩ K a.defers ((h.bump 3))) ((h.bump 2))
def f132_j11 (X : Caller) (L : Looper) (K : Value → AHeap → Prop) (h : AHeap) (a : AAct) : Prop :=
 regK 7 h fun b_1 h =>
 X (.call 180 [(a.env 0), (a.env 6), (a.env 7)]) (fun t56 h =>
 opK (builtinV P .append [151, 151] [(a.env 8), t56] (b_1 + 5) h) fun t57 h =>
 regK 3 ((h.bump 1)) fun b_2 h =>
 opK (builtinV P .len [151] [t57] (b_2 + 1) h) fun t59 h =>
 L (f132_l22 X L) ⟨(upds a.env [(52, (a.env 8)), (53, (a.env 0)), (54, (a.env 6)), (55, (a.env 7)), (56, t56), (57, t57), (8, t57), (10, (.slice none 0 0)), (58, t57), (59, t59), (60, (.int .i64 0))]), a.defers⟩ (blkX 3 (seqX (fun a h => f132_j20 X L K h a) (finX P X Tryz.f132 K))) h) h
/-- (*cubbyhole/cascade.Cascade).Advance -/
def f132 (X : Caller) (L : Looper) (K : Value → AHeap → Prop) (h : AHeap) (t0 t1 : Value) : Prop :=
 X (.call 109 [t0, (.int .u32 0)]) (fun t16 h =>
 rdK (binC P .neq 31 31 t16 (.int .i64 0) h) h fun t17 h =>
 condK t17
 (K (.tuple #[(.slice none 0 0), (.int .i64 1)]) ((h.bump 2)))
 (opK ((fun h : AHeap => nilV t0 h) ((h.bump 7))) fun t21 h =>
  rdK (fAddr 0 t21) h fun t22 h =>
  rdK (ld1 t22 h) h fun t23 h =>
  rdK (binV P .lss 38 38 t1 t23 h) h fun t24 h =>
  condK t24
  (K (.tuple #[(.slice none 0 0), (.int .i64 3)]) ((h.bump 2)))
  (opK ((fun h : AHeap => nilV t0 h) ((h.bump 7))) fun t28 h =>
   rdK (fAddr 0 t28) h fun t29 h =>
   rdK (ld1 t29 h) h fun t30 h =>
   rdK (binV P .eql 38 38 t1 t30 h) h fun t31 h =>
   condK t31
   (K (.tuple #[(.slice none 0 0), (.int .i64 0)]) ((h.bump 2)))
   (X (.call 179 [t0, t1]) (fun t35 h =>
 opK (extV 0 t35 h) fun t36 h =>
 opK (extV 1 t35 h) fun t37 h =>
 opK ((fun h : AHeap => nilV t0 h) ((h.bump 5))) fun t40 h =>
 rdK (fAddr 0 t40) h fun t41 h =>
 stK (stV 1 t41 t1 h) fun h =>
 L (f132_l13 X L) ⟨(upds (argsEnv [t0, t1]) [(4, (.slice none 0 0)), (5, (.int .i64 0)), (15, t0), (16, t16), (17, t17), (14, t17), (19, t1), (20, t0), (21, t21), (22, t22), (23, t23), (24, t24), (18, t24), (26, t1), (27, t0), (28, t28), (29, t29), (30, t30), (31, t31), (25, t31), (33, t0), (34, t1), (35, t35), (32, t35), (36, t36), (37, t37), (6, t36), (7, t37), (38, t0), (39, t1), (40, t40), (41, t41), (8, (.slice none 0 0)), (42, t36), (43, (.int .i64 0))]), []⟩ (blkX 1 (seqX (fun a h => f132_j11 X L K h a) (finX P X Tryz.f132 K))) (((h.bump 1).bump 2))) ((h.bump 8)))))) (((h.bump 2).bump 4))
theorem f132_eq (X : Caller) (L : Looper) (K : Value → AHeap → Prop) (h : AHeap) (t0 t1 : Value) : aJob P X L (.call 132 [t0, t1]) K h = f132 X L K h t0 t1 := by kernel_rfl
/-- (*cubbyhole/budget.Budget).none -/
def f133 (X : Caller) (L : Looper) (K : Value → AHeap → Prop) (h : AHeap) (t0 : Value) : Prop :=
 rdK ((fun h : AHeap => binC P .eql 69 69 t0 (.pointer none) h) (((h.bump 1).bump 11))) (((h.bump 1).bump 11)) fun t4 h =>
 gopK (wantV t4 false) h (some (t0, h)) fun t6 h =>
 gopK (wantV t4 false) h (nilV t6 h) fun t7 h =>
 gopK (wantV t4 false) h ((fAddr 0 t7).map (·, h)) fun t8 h =>
 gopK (wantV t4 false) h ((ldN 2 t8 h).map (·, h)) fun t9 h =>
 gopK (wantV t4 false) h ((buildA P 183 []).map (·, h)) fun t10 h =>
 gopK (wantV t4 false) h ((binV P .eql 183 183 t9 t10 h).map (·, h)) fun t11 h =>
 opK (pickV t4 (.bool true) t11 h) fun t12 h =>
 K t12 h
theorem f133_eq (X : Caller) (L : Looper) (K : Value → AHeap → Prop) (h : AHeap) (t0 : Value) : aJob P X L (.call 133 [t0]) K h = f133 X L K h t0 := by kernel_rfl
def f134_l5 (X : Caller) (L : Looper) (a : AAct) (K : ActPost) (h : AHeap) : Prop :=
 rdK ((fun h : AHeap => binV P .lss 3 3 (a.env 22) (a.env 21) h) ((h.bump 1))) ((h.bump 1)) fun t23 h =>
 condK t23
 (regK 4 h fun b_4 h =>
 rdK (ixS 2 (a.env 20) (a.env 22)) h fun t24 h =>
 rdK (ldN 2 t24 h) h fun t25 h =>
 opK (newV [.int .u32 0, .int .i64 0] (b_4 + 2) h) fun t11 h =>
 stK (stV 2 t11 t25 h) fun h =>
 rdK ((fun h : AHeap => fAddr 0 t11) ((h.bump 13))) ((h.bump 13)) fun t26 h =>
 rdK (ld1 t26 h) h fun t27 h =>
 rdK (binC P .geq 90 90 t27 (.int .u32 4194304) h) h fun t28 h =>
 gopK (wantV t28 false) h ((fAddr 1 t11).map (·, h)) fun t30 h =>
 gopK (wantV t28 false) h ((ld1 t30 h).map (·, h)) fun t31 h =>
 gopK (wantV t28 false) h ((binC P .lss 3 3 t31 (.int .i64 0) h).map (·, h)) fun t32 h =>
 opK (pickV t28 (.bool true) t32 h) fun t33 h =>
 gopK (wantV t33 false) h ((fAddr 1 t11).map (·, h)) fun t35 h =>
 gopK (wantV t33 false) h ((ld1 t35 h).map (·, h)) fun t36 h =>
 gopK (wantV t33 false) h ((binC P .gtr 3 3 t36 (.int .i64 1099511627776) h).map (·, h)) fun t37 h =>
 opK (pickV t33 (.bool true) t37 h) fun t38 h =>
 condK t38
 (rdK ((fun h : AHeap => buildA P 226 []) ((h.bump 3))) ((h.bump 3)) fun t39 h =>
  stK (stV 2 (a.env 6) t39 h) fun h =>
  K .ret ⟨(upds a.env [(23, t23), (24, t24), (25, t25), (11, t11), (26, t26), (27, t27), (28, t28), (29, t28), (30, t30), (31, t31), (32, t32), (33, t33), (34, t33), (35, t35), (36, t36), (37, t37), (38, t38), (39, t39), (7, (.int .i64 2))]), a.defers⟩ h)
 (rdK ((fun h : AHeap => fAddr 0 t11) ((h.bump 5))) ((h.bump 5)) fun t41 h =>
 rdK (ld1 t41 h) h fun t42 h =>
 rdK (buildA P 285 []) h fun t43 h =>
 stK (mapPutA P 284 (a.env 9) t42 t43 h) fun h =>
 rdK ((fun h : AHeap => binC P .add 3 3 (a.env 22) (.int .i64 1) h) ((h.bump 2))) ((h.bump 2)) fun t44 h =>
 K .normal ⟨(upds a.env [(23, t23), (24, t24), (25, t25), (11, t11), (26, t26), (27, t27), (28, t28), (29, t28), (30, t30), (31, t31), (32, t32), (33, t33), (34, t33), (35, t35), (36, t36), (37, t37), (38, t38), (40, (a.env 9)), (41, t41), (42, t42), (43, t43), (44, t44), (22, t44)]), a.defers⟩ h))
 (K (.exit 0) ⟨(upds a.env [(23, t23)]), a.defers⟩ h)
def f134_j3 (X : Caller) (L : Looper) (K : Value → AHeap → Prop) (h : AHeap) (a : AAct) : Prop :=
 regK 11 h fun b_5 h =>
 opK (builtinV P .len [284] [(a.env 9)] (b_5 + 1) h) fun t46 h =>
 rdK (fAddr 0 (a.env 8)) h fun t47 h =>
 rdK (ld1 t47 h) h fun t48 h =>
 opK (builtinV P .len [154] [t48] (b_5 + 4) h) fun t49 h =>
 rdK (binV P .neq 3 3 t46 t49 h) h fun t50 h =>
 gopK (wantV t50 false) h (some ((a.env 9), h)) fun t52 h =>
 gopK (wantV t50 false) h (builtinV P .len [284] [t52] (b_5 + 8) h) fun t53 h =>
 gopK (wantV t50 false) h ((binC P .gtr 3 3 t53 (.int .i64 2097152) h).map (·, h)) fun t54 h =>
 opK (pickV t50 (.bool true) t54 h) fun t55 h =>
 condK t55
 (rdK ((fun h : AHeap => buildA P 226 []) ((h.bump 3))) ((h.bump 3)) fun t56 h =>
  stK (stV 2 (a.env 6) t56 h) fun h =>
  leaveA P X Tryz.f134 ⟨(upds a.env [(45, (a.env 9)), (46, t46), (47, t47), (48, t48), (49, t49), (50, t50), (51, t50), (52, t52), (53, t53), (54, t54), (55, t55), (56, t56), (7, (.int .i64 2))]), a.defers⟩ K a.defers h)
 (rdK ((fun h : AHeap => ldN 2 (a.env 8) h) ((h.bump 3))) ((h.bump 3)) fun t57 h =>
 stK (stV 2 (a.env 6) t57 h) fun h =>
 leaveA P X Tryz.f134 ⟨(upds a.env [(45, (a.env 9)), (46, t46), (47, t47), (48, t48), (49, t49), (50, t50), (51, t50), (52, t52), (53, t53), (54, t54), (55, t55), (57, t57), (7, (.int .i64 0))]), a.defers⟩ K a.defers h)
/-- cubbyhole/victim.of -/
def f134 (X : Caller) (L : Looper) (K : Value → AHeap → Prop) (h : AHeap) (t0 t1 t2 : Value) : Prop :=
 regK 2 h fun b h =>
 opK (newV [.slice none 0 0, .int .u32 0] (b + 0) h) fun t6 h =>
 regK 8 h fun b_1 h =>
 opK (bsliceV P 337 2 [(0, t0), (1, t1)] (b_1 + 2) h) fun t14 h =>
 X (.call 188 [t14]) (fun t15 h =>
 rdK (buildA P 226 [(0, t15), (1, t2)]) h fun t17 h =>
 opK (newV [.slice none 0 0, .int .u32 0] (b_1 + 6) h) fun t8 h =>
 stK (stV 2 t8 t17 h) fun h =>
 regK 2 h fun b_2 h =>
 opK (mapV (b_2 + 0) h) fun t18 h =>
 regK 4 h fun b_3 h =>
 rdK (fAddr 0 t8) h fun t19 h =>
 rdK (ld1 t19 h) h fun t20 h =>
 opK (builtinV P .len [154] [t20] (b_3 + 2) h) fun t21 h =>
 L (f134_l5 X L) ⟨(upds (argsEnv [t0, t1, t2]) [(6, t6), (7, (.int .i64 0)), (12, t0), (13, t1), (14, t14), (15, t15), (16, t2), (17, t17), (8, t8), (18, t18), (9, t18), (19, t19), (20, t20), (21, t21), (22, (.int .i64 0))]), []⟩ (blkX 0 (seqX (fun a h => f134_j3 X L K h a) (finX P X Tryz.f134 K))) h) h
theorem f134_eq (X : Caller) (L : Looper) (K : Value → AHeap → Prop) (h : AHeap) (t0 t1 t2 : Value) : aJob P X L (.call 134 [t0, t1, t2]) K h = f134 X L K h t0 t1 t2 := by kernel_rfl
def f135_l4 (X : Caller) (L : Looper) (a : AAct) (K : ActPost) (h : AHeap) : Prop :=
 rdK ((fun h : AHeap => binV P .lss 3 3 (a.env 19) (a.env 18) h) ((h.bump 1))) ((h.bump 1)) fun t20 h =>
 condK t20
 (regK 4 h fun b_3 h =>
 rdK (ixS 2 (a.env 17) (a.env 19)) h fun t21 h =>
 rdK (ldN 2 t21 h) h fun t22 h =>
 opK (newV [.int .u32 0, .int .i64 0] (b_3 + 2) h) fun t10 h =>
 stK (stV 2 t10 t22 h) fun h =>
 rdK ((fun h : AHeap => fAddr 1 t10) ((h.bump 5))) ((h.bump 5)) fun t24 h =>
 rdK (ld1 t24 h) h fun t25 h =>
 rdK (binV P .add 3 3 (a.env 8) t25 h) h fun t26 h =>
 rdK ((fun h : AHeap => binC P .add 3 3 (a.env 19) (.int .i64 1) h) ((h.bump 2))) ((h.bump 2)) fun t27 h =>
 K .normal ⟨(upds a.env [(20, t20), (21, t21), (22, t22), (10, t10), (23, (a.env 8)), (24, t24), (25, t25), (26, t26), (8, t26), (27, t27), (19, t27)]), a.defers⟩ h)
 (K (.exit 0) ⟨(upds a.env [(20, t20)]), a.defers⟩ h)
def f135_l12 (X : Caller) (L : Looper) (a : AAct) (K : ActPost) (h : AHeap) : Prop :=
 regK 13 h fun b_4 h =>
 opK (builtinV P .len [154] [(a.env 12)] (b_4 + 1) h) fun t31 h =>
 rdK (binC P .gtr 3 3 t31 (.int .i64 0) h) h fun t32 h =>
 gopK (wantV t32 true) h (some ((a.env 7), h)) fun t34 h =>
 gopK (wantV t32 true) h (some ((a.env 1), h)) fun t35 h =>
 gopK (wantV t32 true) h ((binV P .gtr 3 3 t34 t35 h).map (·, h)) fun t36 h =>
 gopK (wantV t32 true) h (some (t36, h)) fun t37 h =>
 gopK (wantV t37 false) h (some ((a.env 8), h)) fun t38 h =>
 gopK (wantV t37 false) h (some ((a.env 2), h)) fun t39 h =>
 gopK (wantV t37 false) h ((binV P .gtr 3 3 t38 t39 h).map (·, h)) fun t40 h =>
 gopK (wantV t32 true) h (pickV t37 (.bool true) t40 h) fun t41 h =>
 opK (pickV t32 t41 (.bool false) h) fun t42 h =>
 condK t42
 (rdK ((fun h : AHeap => binC P .sub 3 3 (a.env 7) (.int .i64 1) h) ((h.bump 10))) ((h.bump 10)) fun t44 h =>
 rdK (ixS 2 (a.env 12) (.int .i64 0)) h fun t47 h =>
 rdK (fAddr 1 t47) h fun t48 h =>
 rdK (ld1 t48 h) h fun t49 h =>
 rdK (binV P .sub 3 3 (a.env 8) t49 h) h fun t50 h =>
 regK 11 h fun b_5 h =>
 rdK (ixS 2 (a.env 12) (.int .i64 0)) h fun t53 h =>
 rdK (fAddr 0 t53) h fun t54 h =>
 rdK (ld1 t54 h) h fun t55 h =>
 opK (bsliceV P 151 1 [(0, t55)] (b_5 + 5) h) fun t56 h =>
 opK (sliceV P 154 (a.env 12) (some (.int .i64 1)) none none h) fun t59 h =>
 opK (builtinV P .append [151, 151] [(a.env 11), t56] (b_5 + 6) h) fun t57 h =>
 chkK (chkR (sliceV P 154 (a.env 12) (some (.int .i64 1)) none none h) t59 true) <|
 K .normal ⟨(upds a.env [(30, (a.env 12)), (31, t31), (32, t32), (33, t32), (34, t34), (35, t35), (36, t36), (37, t37), (38, t38), (39, t39), (40, t40), (41, t41), (42, t42), (43, (a.env 7)), (44, t44), (45, (a.env 8)), (46, (a.env 12)), (47, t47), (48, t48), (49, t49), (50, t50), (7, t44), (8, t50), (51, (a.env 11)), (52, (a.env 12)), (53, t53), (54, t54), (55, t55), (56, t56), (58, (a.env 12)), (59, t59), (57, t57), (11, t57), (12, t59)]), a.defers⟩ h)
 (K (.exit 2) ⟨(upds a.env [(30, (a.env 12)), (31, t31), (32, t32), (33, t32), (34, t34), (35, t35), (36, t36), (37, t37), (38, t38), (39, t39), (40, t40), (41, t41), (42, t42)]), a.defers⟩ h)
def f135_j11 (X : Caller) (L : Looper) (K : Value → AHeap → Prop) (h : AHeap) (a : AAct) : Prop :=
 leaveA P X Tryz.f135 ⟨(upds a.env [(60, (a.env 11)), (6, (a.env 11))]), a.defers⟩ K a.defers ((h.bump 2))
def f135_j2 (X : Caller) (L : Looper) (K : Value → AHeap → Prop) (h : AHeap) (a : AAct) : Prop :=
 rdK ((fun h : AHeap => ldN 2 (a.env 3) h) (((h.bump 1).bump 3))) (((h.bump 1).bump 3)) fun t28 h =>
 X (.call 189 [t28]) (fun t29 h =>
 L (f135_l12 X L) ⟨(upds a.env [(11, (.slice none 0 0)), (28, t28), (29, t29), (12, t29)]), a.defers⟩ (blkX 2 (seqX (fun a h => f135_j11 X L K h a) (finX P X Tryz.f135 K))) h) h
/-- (cubbyhole/victim.choice).victims -/
def f135 (X : Caller) (L : Looper) (K : Value → AHeap → Prop) (h : AHeap) (t0 t1 t2 : Value) : Prop :=
 regK 2 h fun b h =>
 opK (boxV t0 (b + 0) h) fun t3 h =>
 regK 5 h fun b_1 h =>
 rdK (fAddr 0 t3) h fun t13 h =>
 rdK (ld1 t13 h) h fun t14 h =>
 opK (builtinV P .len [154] [t14] (b_1 + 2) h) fun t15 h =>
 regK 4 h fun b_2 h =>
 rdK (fAddr 0 t3) h fun t16 h =>
 rdK (ld1 t16 h) h fun t17 h =>
 opK (builtinV P .len [154] [t17] (b_2 + 2) h) fun t18 h =>
 L (f135_l4 X L) ⟨(upds (argsEnv [t0, t1, t2]) [(3, t3), (6, (.slice none 0 0)), (13, t13), (14, t14), (15, t15), (7, t15), (8, (.int .i64 0)), (16, t16), (17, t17), (18, t18), (19, (.int .i64 0))]), []⟩ (blkX 0 (seqX (fun a h => f135_j2 X L K h a) (finX P X Tryz.f135 K))) h
theorem f135_eq (X : Caller) (L : Looper) (K : Value → AHeap → Prop) (h : AHeap) (t0 t1 t2 : Value) : aJob P X L (.call 135 [t0, t1, t2]) K h = f135 X L K h t0 t1 t2 := by kernel_rfl
/-- (*cubbyhole/segment.Segments).has -/
def f136 (X : Caller) (L : Looper) (K : Value → AHeap → Prop) (h : AHeap) (t0 t1 : Value) : Prop :=
 X (.call 104 [t0, (.int .u32 0), (.int .i64 0)]) (fun t6 h =>
 rdK (binC P .eql 31 31 t6 (.int .i64 0) h) h fun t7 h =>
 gopK (wantV t7 true) h (some (t1, h)) fun t9 h =>
 gopK (wantV t7 true) h ((binC P .geq 106 106 t9 (.int .i64 0) h).map (·, h)) fun t10 h =>
 opK (pickV t7 t10 (.bool false) h) fun t11 h =>
 gopK (wantV t11 true) h (some (t1, h)) fun t13 h =>
 gopK (wantV t11 true) h ((binC P .leq 106 106 t13 (.int .i64 1) h).map (·, h)) fun t14 h =>
 opK (pickV t11 t14 (.bool false) h) fun t15 h =>
 K t15 h) (((h.bump 1).bump 12))
theorem f136_eq (X : Caller) (L : Looper) (K : Value → AHeap → Prop) (h : AHeap) (t0 t1 : Value) : aJob P X L (.call 136 [t0, t1]) K h = f136 X L K h t0 t1 := by kernel_rfl
/-- (*cubbyhole/lru.LRU).All -/
def f137 (X : Caller) (L : Looper) (K : Value → AHeap → Prop) (h : AHeap) (t0 : Value) : Prop :=
 X (.call 190 [t0, (.int .u32 0)]) (fun t4 h =>
 rdK (binC P .neq 31 31 t4 (.int .i64 0) h) h fun t5 h =>
 condK t5
 (K (.func (.func 191) #[] #[]) ((h.bump 1)))
 (opK ((fun h : AHeap => nilV t0 h) ((h.bump 6))) fun t7 h =>
 rdK (fAddr 0 t7) h fun t8 h =>
 rdK (ld1 t8 h) h fun t9 h =>
 X (.call 192 [t9, (.int .i64 0)]) (fun t10 h =>
 K t10 h) h)) (((h.bump 1).bump 3))
theorem f137_eq (X : Caller) (L : Looper) (K : Value → AHeap → Prop) (h : AHeap) (t0 : Value) : aJob P X L (.call 137 [t0]) K h = f137 X L K h t0 := by kernel_rfl
/-- (*cubbyhole/entrylog.Log).Len -/
def f138 (X : Caller) (L : Looper) (K : Value → AHeap → Prop) (h : AHeap) (t0 : Value) : Prop :=
 X (.call 159 [t0]) (fun t4 h =>
 condK t4
 (K (.int .i64 0) ((h.bump 1)))
 (regK 6 h fun b h =>
 opK (nilV t0 h) fun t6 h =>
 rdK (fAddr 1 t6) h fun t7 h =>
 rdK (ld1 t7 h) h fun t8 h =>
 opK (builtinV P .len [253] [t8] (b + 4) h) fun t9 h =>
 K t9 h)) (((h.bump 1).bump 2))
theorem f138_eq (X : Caller) (L : Looper) (K : Value → AHeap → Prop) (h : AHeap) (t0 : Value) : aJob P X L (.call 138 [t0]) K h = f138 X L K h t0 := by kernel_rfl
/-- (*cubbyhole/swiss.Index).Groups -/
def f139 (X : Caller) (L : Looper) (K : Value → AHeap → Prop) (h : AHeap) (t0 : Value) : Prop :=
 X (.call 121 [t0]) (fun t4 h =>
 condK t4
 (K (.int .i64 0) ((h.bump 1)))
 (regK 6 h fun b h =>
 opK (nilV t0 h) fun t6 h =>
 rdK (fAddr 0 t6) h fun t7 h =>
 rdK (ld1 t7 h) h fun t8 h =>
 opK (builtinV P .len [266] [t8] (b + 4) h) fun t9 h =>
 K t9 h)) (((h.bump 1).bump 2))
theorem f139_eq (X : Caller) (L : Looper) (K : Value → AHeap → Prop) (h : AHeap) (t0 : Value) : aJob P X L (.call 139 [t0]) K h = f139 X L K h t0 := by kernel_rfl
/-- (*cubbyhole/swiss.Index).Tombs -/
def f140 (X : Caller) (L : Looper) (K : Value → AHeap → Prop) (h : AHeap) (t0 : Value) : Prop :=
 X (.call 121 [t0]) (fun t4 h =>
 condK t4
 (K (.int .i64 0) ((h.bump 1)))
 (opK ((fun h : AHeap => nilV t0 h) ((h.bump 5))) fun t6 h =>
 rdK (fAddr 2 t6) h fun t7 h =>
 rdK (ld1 t7 h) h fun t8 h =>
 K t8 h)) (((h.bump 1).bump 2))
theorem f140_eq (X : Caller) (L : Looper) (K : Value → AHeap → Prop) (h : AHeap) (t0 : Value) : aJob P X L (.call 140 [t0]) K h = f140 X L K h t0 := by kernel_rfl
/-- cubbyhole/compact.Dict -/
def f141 (X : Caller) (L : Looper) (K : Value → AHeap → Prop) (h : AHeap) (t0 : Value) : Prop :=
 regK 3 h fun b h =>
 opK (newV [.slice none 0 0, .int .i64 0] (b + 1) h) fun t3 h =>
 regK 11 h fun b_1 h =>
 X (.call 194 [t0]) (fun t11 h =>
 X (.call 193 [t11]) (fun t12 h =>
 opK (extV 0 t12 h) fun t13 h =>
 opK (extV 1 t12 h) fun t14 h =>
 opK (extV 2 t12 h) fun t15 h =>
 opK (newV [.slice none 0 0, .int .i64 0] (b_1 + 7) h) fun t6 h =>
 stK (stV 2 t6 t14 h) fun h =>
 rdK ((fun h : AHeap => binC P .neq 31 31 t15 (.int .i64 0) h) ((h.bump 2))) ((h.bump 2)) fun t17 h =>
 condK t17
 (rdK ((fun h : AHeap => buildA P 237 []) ((h.bump 5))) ((h.bump 5)) fun t18 h =>
  stK (stV 2 t3 t18 h) fun h =>
  retK (consR (some (.pointer none)) (consR (ldN 2 t3 h) (consR (some t15) (some [])))) K h)
 (X (.call 196 [t0]) (fun t22 h =>
 X (.call 195 [t22, t13]) (fun t24 h =>
 opK (extV 0 t24 h) fun t25 h =>
 opK (extV 1 t24 h) fun t26 h =>
 rdK ((fun h : AHeap => binC P .neq 31 31 t26 (.int .i64 0) h) ((h.bump 2))) ((h.bump 2)) fun t28 h =>
 condK t28
 (rdK ((fun h : AHeap => buildA P 237 []) ((h.bump 5))) ((h.bump 5)) fun t29 h =>
  stK (stV 2 t3 t29 h) fun h =>
  retK (consR (some (.pointer none)) (consR (ldN 2 t3 h) (consR (some t26) (some [])))) K h)
 (rdK ((fun h : AHeap => ldN 2 t6 h) ((h.bump 5))) ((h.bump 5)) fun t32 h =>
 stK (stV 2 t3 t32 h) fun h =>
 retK (consR (some t25) (consR (ldN 2 t3 h) (consR (some (.int .i64 0)) (some [])))) K h)) h) ((h.bump 9)))) h) h
theorem f141_eq (X : Caller) (L : Looper) (K : Value → AHeap → Prop) (h : AHeap) (t0 : Value) : aJob P X L (.call 141 [t0]) K h = f141 X L K h t0 := by kernel_rfl
/-- (cubbyhole/compact.Moves).Len -/
def f142 (X : Caller) (L : Looper) (K : Value → AHeap → Prop) (h : AHeap) (t0 : Value) : Prop :=
 regK 3 h fun b h =>
 opK (boxV t0 (b + 0) h) fun t1 h =>
 regK 7 h fun b_1 h =>
 rdK (fAddr 0 t1) h fun t4 h =>
 rdK (ld1 t4 h) h fun t5 h =>
 opK (builtinV P .len [151] [t5] (b_1 + 2) h) fun t6 h =>
 rdK (fAddr 1 t1) h fun t7 h =>
 rdK (ld1 t7 h) h fun t8 h =>
 K (.tuple #[t6, t8]) h
theorem f142_eq (X : Caller) (L : Looper) (K : Value → AHeap → Prop) (h : AHeap) (t0 : Value) : aJob P X L (.call 142 [t0]) K h = f142 X L K h t0 := by kernel_rfl
/-- (cubbyhole/compact.Moves).To -/
def f143 (X : Caller) (L : Looper) (K : Value → AHeap → Prop) (h : AHeap) (t0 t1 : Value) : Prop :=
 regK 3 h fun b h =>
 opK (boxV t0 (b + 0) h) fun t2 h =>
 rdK ((fun h : AHeap => fAddr 0 t2) ((h.bump 9))) ((h.bump 9)) fun t9 h =>
 rdK (ld1 t9 h) h fun t10 h =>
 X (.call 197 [t10, t1]) (fun t12 h =>
 opK (extV 0 t12 h) fun t13 h =>
 opK (extV 1 t12 h) fun t14 h =>
 rdK ((fun h : AHeap => unV P .not 4 t14) ((h.bump 2))) ((h.bump 2)) fun t16 h =>
 condK t16
 (K (.tuple #[(.int .u32 0), (.int .i64 9)]) ((h.bump 2)))
 (regK 4 h fun b_1 h =>
 opK (convertA P 3 90 t13 (b_1 + 1) h) fun t18 h =>
 K (.tuple #[t18, (.int .i64 0)]) h)) h
theorem f143_eq (X : Caller) (L : Looper) (K : Value → AHeap → Prop) (h : AHeap) (t0 t1 : Value) : aJob P X L (.call 143 [t0, t1]) K h = f143 X L K h t0 t1 := by kernel_rfl
def f144_a0 (X : Caller) (L : Looper) (a : AAct) (K : ActPost) (h : AHeap) : Prop :=
 K .normal ⟨(upds a.env [(9, (a.env 35))]), a.defers⟩ ((h.bump 1))
def f144_b0 (X : Caller) (L : Looper) (a : AAct) (K : ActPost) (h : AHeap) : Prop :=
 regK 12 h fun b_3 h =>
 opK (convertA P 90 3 (a.env 9) (b_3 + 1) h) fun t37 h =>
 rdK (ld1 (a.env 3) h) h fun t38 h =>
 opK (builtinV P .len [151] [t38] (b_3 + 3) h) fun t39 h =>
 rdK (binV P .geq 3 3 t37 t39 h) h fun t40 h =>
 gopK (wantV t40 false) h ((ld1 (a.env 3) h).map (·, h)) fun t42 h =>
 gopK (wantV t40 false) h (some ((a.env 9), h)) fun t43 h =>
 gopK (wantV t40 false) h ((ixS 1 t42 t43).map (·, h)) fun t44 h =>
 gopK (wantV t40 false) h ((ld1 t44 h).map (·, h)) fun t45 h =>
 gopK (wantV t40 false) h ((binC P .geq 90 90 t45 (.int .u32 4194304) h).map (·, h)) fun t46 h =>
 opK (pickV t40 (.bool true) t46 h) fun t47 h =>
 condK t47
 (stK ((fun h : AHeap => stV 1 (a.env 4) (.int .i64 2) h) ((h.bump 1))) fun h =>
  K .ret ⟨(upds a.env [(36, (a.env 9)), (37, t37), (38, t38), (39, t39), (40, t40), (41, t40), (42, t42), (43, t43), (44, t44), (45, t45), (46, t46), (47, t47)]), a.defers⟩ h)
 (rdK ((fun h : AHeap => ld1 (a.env 6) h) ((h.bump 14))) ((h.bump 14)) fun t49 h =>
 opK (nilV t49 h) fun t50 h =>
 rdK (fAddr 4 t50) h fun t51 h =>
 rdK (ld1 t51 h) h fun t52 h =>
 rdK (ld1 (a.env 3) h) h fun t53 h =>
 rdK (ixS 1 t53 (a.env 9)) h fun t55 h =>
 rdK (ld1 t55 h) h fun t56 h =>
 rdK (lookupA P 178 t52 t56 true h) h fun t57 h =>
 opK (extV 0 t57 h) fun t58 h =>
 opK (extV 1 t57 h) fun t59 h =>
 condK t59
 (stK ((fun h : AHeap => stV 1 (a.env 4) (.int .i64 2) h) (((h.bump 1).bump 1))) fun h =>
  K .ret ⟨(upds a.env [(36, (a.env 9)), (37, t37), (38, t38), (39, t39), (40, t40), (41, t40), (42, t42), (43, t43), (44, t44), (45, t45), (46, t46), (47, t47), (49, t49), (50, t50), (51, t51), (52, t52), (53, t53), (54, (a.env 9)), (55, t55), (56, t56), (57, t57), (48, t57), (58, t58), (59, t59), (10, t58), (11, t59), (60, t59)]), a.defers⟩ h)
 (rdK ((fun h : AHeap => ld1 (a.env 6) h) (((h.bump 1).bump 13))) (((h.bump 1).bump 13)) fun t61 h =>
 rdK (ld1 (a.env 8) h) h fun t62 h =>
 rdK (ld1 (a.env 3) h) h fun t63 h =>
 rdK (ixS 1 t63 (a.env 9)) h fun t65 h =>
 rdK (ld1 t65 h) h fun t66 h =>
 rdK (ld1 (a.env 2) h) h fun t67 h =>
 opK (nilV t67 h) fun t68 h =>
 rdK (fAddr 4 t68) h fun t69 h =>
 rdK (ld1 t69 h) h fun t70 h =>
 rdK (lookupA P 178 t70 (a.env 9) false h) h fun t72 h =>
 X (.call 105 [t61, t62, t66, t72]) (fun t73 h =>
 K .normal ⟨(upds a.env [(36, (a.env 9)), (37, t37), (38, t38), (39, t39), (40, t40), (41, t40), (42, t42), (43, t43), (44, t44), (45, t45), (46, t46), (47, t47), (49, t49), (50, t50), (51, t51), (52, t52), (53, t53), (54, (a.env 9)), (55, t55), (56, t56), (57, t57), (48, t57), (58, t58), (59, t59), (10, t58), (11, t59), (60, t59), (61, t61), (62, t62), (63, t63), (64, (a.env 9)), (65, t65), (66, t66), (67, t67), (68, t68), (69, t69), (70, t70), (71, (a.env 9)), (72, t72), (73, t73)]), a.defers⟩ h) h))
noncomputable def f144_ca0 : Code := (rangesF Tryz.f144 0).1
noncomputable def f144_cb0 : Code := (rangesF Tryz.f144 0).2
theorem f144_a0_eq (X : Caller) (L : Looper) (a : AAct) (K : ActPost) (h : AHeap) : aCode P X L true f144_ca0 a K h = f144_a0 X L a K h := by kernel_rfl
theorem f144_b0_eq (X : Caller) (L : Looper) (a : AAct) (K : ActPost) (h : AHeap) : aCode P X L true f144_cb0 a K h = f144_b0 X L a K h := by kernel_rfl
def f144_j11 (X : Caller) (L : Looper) (K : ActPost) (h : AHeap) (a : AAct) : Prop :=
 rdK ((fun h : AHeap => binC P .add 3 3 (a.env 25) (.int .i64 1) h) ((h.bump 2))) ((h.bump 2)) fun t74 h =>
 K .normal ⟨(upds a.env [(74, t74), (25, t74)]), a.defers⟩ h
def f144_l8 (X : Caller) (L : Looper) (a : AAct) (K : ActPost) (h : AHeap) : Prop :=
 rdK ((fun h : AHeap => binC P .lss 3 3 (a.env 25) (.int .i64 2) h) ((h.bump 1))) ((h.bump 1)) fun t26 h =>
 condK t26
 (regK 3 h fun b_2 h =>
 opK (newV [.int .i64 0] (b_2 + 1) h) fun t8 h =>
 stK (stV 1 t8 (a.env 25) h) fun h =>
 rdK ((fun h : AHeap => ld1 (a.env 2) h) ((h.bump 7))) ((h.bump 7)) fun t28 h =>
 rdK (ld1 t8 h) h fun t29 h =>
 opK (nilV t28 h) fun t30 h =>
 rdK (fAddr 0 t30) h fun t31 h =>
 rdK (ixR 2 1 t31 t29) h fun t32 h =>
 rdK (ld1 t32 h) h fun t33 h =>
 X (.call 137 [t33]) (fun t34 h =>
 rangeK X t34 ⟨(upds a.env [(26, t26), (27, (a.env 25)), (8, t8), (28, t28), (29, t29), (30, t30), (31, t31), (32, t32), (33, t33), (34, t34)]), a.defers⟩ [35] f144_ca0 f144_cb0 (blkX 2 (blkX 1 (seqX (fun a h => f144_j11 X L K h a) K))) h) h)
 (K (.exit 0) ⟨(upds a.env [(26, t26)]), a.defers⟩ h)
def f144_j6 (X : Caller) (L : Looper) (K : Value → AHeap → Prop) (h : AHeap) (a : AAct) : Prop :=
 rdK ((fun h : AHeap => ld1 (a.env 2) h) ((h.bump 6))) ((h.bump 6)) fun t75 h =>
 rdK (ld1 (a.env 6) h) h fun t76 h =>
 opK (nilV t76 h) fun t77 h =>
 rdK (ldN 6 t77 h) h fun t78 h =>
 opK (nilV t75 h) fun t79 h =>
 stK (stV 6 t79 t78 h) fun h =>
 stK ((fun h : AHeap => stV 1 (a.env 4) (.int .i64 0) h) ((h.bump 1))) fun h =>
 leaveA P X Tryz.f144 ⟨(upds a.env [(75, t75), (76, t76), (77, t77), (78, t78), (79, t79)]), a.defers⟩ K a.defers h
/-- (*cubbyhole/segment.Segments).Renumber -/
def f144 (X : Caller) (L : Looper) (K : Value → AHeap → Prop) (h : AHeap) (t0 t1 : Value) : Prop :=
 regK 3 h fun b h =>
 opK (boxV t0 (b + 0) h) fun t2 h =>
 opK (boxV t1 (b + 1) h) fun t3 h =>
 opK (newV [.int .i64 0] (b + 2) h) fun t4 h =>
 rdK ((fun h : AHeap => ld1 t2 h) ((h.bump 3))) ((h.bump 3)) fun t12 h =>
 X (.call 104 [t12, (.int .u32 0), (.int .i64 0)]) (fun t13 h =>
 rdK ((fun h : AHeap => binC P .neq 31 31 t13 (.int .i64 0) h) ((h.bump 2))) ((h.bump 2)) fun t15 h =>
 condK t15
 (stK ((fun h : AHeap => stV 1 t4 t13 h) ((h.bump 2))) fun h =>
  retK (consR (ld1 t4 h) (some [])) K h)
 (regK 11 h fun b_1 h =>
 rdK (ld1 t2 h) h fun t18 h =>
 opK (nilV t18 h) fun t19 h =>
 rdK (fAddr 5 t19) h fun t20 h =>
 rdK (ld1 t20 h) h fun t21 h =>
 X (.call 65 [t21]) (fun t22 h =>
 opK (extV 0 t22 h) fun t23 h =>
 opK (extV 1 t22 h) fun t24 h =>
 opK (newV [.pointer none] (b_1 + 8) h) fun t6 h =>
 stK (stV 1 t6 t23 h) fun h =>
 L (f144_l8 X L) ⟨(upds (argsEnv [t0, t1]) [(2, t2), (3, t3), (4, t4), (12, t12), (13, t13), (5, t13), (14, t13), (15, t15), (18, t18), (19, t19), (20, t20), (21, t21), (22, t22), (17, t22), (23, t23), (24, t24), (6, t6), (7, t24), (25, (.int .i64 0))]), []⟩ (blkX 0 (seqX (fun a h => f144_j6 X L K h a) (finX P X Tryz.f144 K))) ((h.bump 1))) h)) h
theorem f144_eq (X : Caller) (L : Looper) (K : Value → AHeap → Prop) (h : AHeap) (t0 t1 : Value) : aJob P X L (.call 144 [t0, t1]) K h = f144 X L K h t0 t1 := by kernel_rfl
def f145_l8 (X : Caller) (L : Looper) (a : AAct) (K : ActPost) (h : AHeap) : Prop :=
 rdK ((fun h : AHeap => binV P .lss 3 3 (a.env 26) (a.env 25) h) ((h.bump 1))) ((h.bump 1)) fun t27 h =>
 condK t27
 (regK 4 h fun b_1 h =>
 rdK (ixS 3 (a.env 24) (a.env 26)) h fun t28 h =>
 rdK (ldN 3 t28 h) h fun t29 h =>
 opK (newV [.int .u32 0, .int .u64 0, .int .u64 0] (b_1 + 2) h) fun t8 h =>
 stK (stV 3 t8 t29 h) fun h =>
 regK 6 h fun b_2 h =>
 rdK (fAddr 0 t8) h fun t30 h =>
 rdK (ld1 t30 h) h fun t31 h =>
 opK (convertA P 90 3 t31 (b_2 + 2) h) fun t32 h =>
 opK (builtinV P .len [151] [(a.env 1)] (b_2 + 4) h) fun t34 h =>
 rdK (binV P .geq 3 3 t32 t34 h) h fun t35 h =>
 condK t35
 (K .ret ⟨(upds a.env [(27, t27), (28, t28), (29, t29), (8, t8), (30, t30), (31, t31), (32, t32), (33, (a.env 1)), (34, t34), (35, t35), (4, (.int .i64 2))]), a.defers⟩ ((h.bump 1)))
 (rdK ((fun h : AHeap => fAddr 0 t8) ((h.bump 7))) ((h.bump 7)) fun t37 h =>
 rdK (ld1 t37 h) h fun t38 h =>
 rdK (ixS 1 (a.env 1) t38) h fun t39 h =>
 rdK (ld1 t39 h) h fun t40 h =>
 rdK (fAddr 0 t8) h fun t41 h =>
 stK (stV 1 t41 t40 h) fun h =>
 rdK ((fun h : AHeap => fAddr 0 t8) ((h.bump 5))) ((h.bump 5)) fun t43 h =>
 rdK (ld1 t43 h) h fun t44 h =>
 X (.call 60 [(a.env 6), t44]) (fun t45 h =>
 rdK ((fun h : AHeap => binC P .neq 31 31 t45 (.int .i64 0) h) ((h.bump 2))) ((h.bump 2)) fun t47 h =>
 condK t47
 (K .ret ⟨(upds a.env [(27, t27), (28, t28), (29, t29), (8, t8), (30, t30), (31, t31), (32, t32), (33, (a.env 1)), (34, t34), (35, t35), (36, (a.env 1)), (37, t37), (38, t38), (39, t39), (40, t40), (41, t41), (42, (a.env 6)), (43, t43), (44, t44), (45, t45), (9, t45), (46, t45), (47, t47), (48, t45), (4, t45)]), a.defers⟩ ((h.bump 2)))
 (regK 13 h fun b_3 h =>
 opK (nilV (a.env 6) h) fun t51 h =>
 rdK (fAddr 2 t51) h fun t52 h =>
 rdK (ld1 t52 h) h fun t53 h =>
 rdK (fAddr 0 t8) h fun t54 h =>
 rdK (ld1 t54 h) h fun t55 h =>
 rdK (lookupA P 111 t53 t55 true h) h fun t56 h =>
 opK (extV 0 t56 h) fun t57 h =>
 opK (extV 1 t56 h) fun t58 h =>
 opK (newV [.int .u32 0, .int .u64 0, .int .u64 0] (b_3 + 10) h) fun t10 h =>
 stK (stV 3 t10 t57 h) fun h =>
 condK t58
 (K .ret ⟨(upds a.env [(27, t27), (28, t28), (29, t29), (8, t8), (30, t30), (31, t31), (32, t32), (33, (a.env 1)), (34, t34), (35, t35), (36, (a.env 1)), (37, t37), (38, t38), (39, t39), (40, t40), (41, t41), (42, (a.env 6)), (43, t43), (44, t44), (45, t45), (9, t45), (46, t45), (47, t47), (50, (a.env 6)), (51, t51), (52, t52), (53, t53), (54, t54), (55, t55), (56, t56), (49, t56), (57, t57), (58, t58), (10, t10), (11, t58), (59, t58), (4, (.int .i64 2))]), a.defers⟩ (((h.bump 1).bump 1)))
 (rdK ((fun h : AHeap => ldN 3 t8 h) (((h.bump 1).bump 3))) (((h.bump 1).bump 3)) fun t61 h =>
 X (.call 94 [(a.env 6), t61]) (fun t62 h =>
 rdK ((fun h : AHeap => binC P .add 3 3 (a.env 26) (.int .i64 1) h) ((h.bump 2))) ((h.bump 2)) fun t63 h =>
 K .normal ⟨(upds a.env [(27, t27), (28, t28), (29, t29), (8, t8), (30, t30), (31, t31), (32, t32), (33, (a.env 1)), (34, t34), (35, t35), (36, (a.env 1)), (37, t37), (38, t38), (39, t39), (40, t40), (41, t41), (42, (a.env 6)), (43, t43), (44, t44), (45, t45), (9, t45), (46, t45), (47, t47), (50, (a.env 6)), (51, t51), (52, t52), (53, t53), (54, t54), (55, t55), (56, t56), (49, t56), (57, t57), (58, t58), (10, t10), (11, t58), (59, t58), (60, (a.env 6)), (61, t61), (62, t62), (63, t63), (26, t63)]), a.defers⟩ h) h))) h))
 (K (.exit 0) ⟨(upds a.env [(27, t27)]), a.defers⟩ h)
def f145_j6 (X : Caller) (L : Looper) (K : Value → AHeap → Prop) (h : AHeap) (a : AAct) : Prop :=
 opK ((fun h : AHeap => nilV (a.env 6) h) ((h.bump 6))) fun t66 h =>
 rdK (ldN 3 t66 h) h fun t67 h =>
 opK (nilV (a.env 0) h) fun t68 h =>
 stK (stV 3 t68 t67 h) fun h =>
 leaveA P X Tryz.f145 ⟨(upds a.env [(64, (a.env 0)), (65, (a.env 6)), (66, t66), (67, t67), (68, t68), (4, (.int .i64 0))]), a.defers⟩ K a.defers ((h.bump 1))
/-- (*cubbyhole/due.Deadlines).Renumber -/
def f145 (X : Caller) (L : Looper) (K : Value → AHeap → Prop) (h : AHeap) (t0 t1 : Value) : Prop :=
 X (.call 60 [t0, (.int .u32 0)]) (fun t13 h =>
 rdK ((fun h : AHeap => binC P .neq 31 31 t13 (.int .i64 0) h) ((h.bump 2))) ((h.bump 2)) fun t15 h =>
 condK t15
 (K t13 ((h.bump 2)))
 (opK ((fun h : AHeap => nilV t0 h) ((h.bump 7))) fun t18 h =>
 rdK (fAddr 0 t18) h fun t19 h =>
 rdK (ld1 t19 h) h fun t20 h =>
 X (.call 61 [t20]) (fun t21 h =>
 X (.call 70 [t21]) (fun t22 h =>
 regK 4 h fun b h =>
 X (.call 198 [t0]) (fun t24 h =>
 opK (builtinV P .len [145] [t24] (b + 2) h) fun t25 h =>
 L (f145_l8 X L) ⟨(upds (argsEnv [t0, t1]) [(4, (.int .i64 0)), (12, t0), (13, t13), (5, t13), (14, t13), (15, t15), (17, t0), (18, t18), (19, t19), (20, t20), (21, t21), (22, t22), (6, t22), (23, t0), (24, t24), (25, t25), (26, (.int .i64 0))]), []⟩ (blkX 0 (seqX (fun a h => f145_j6 X L K h a) (finX P X Tryz.f145 K))) h) h) h) h)) (((h.bump 1).bump 3))
theorem f145_eq (X : Caller) (L : Looper) (K : Value → AHeap → Prop) (h : AHeap) (t0 t1 : Value) : aJob P X L (.call 145 [t0, t1]) K h = f145 X L K h t0 t1 := by kernel_rfl
def f147_j2 (X : Caller) (L : Looper) (K : Value → AHeap → Prop) (h : AHeap) (t0 t4 t24 t26 t27 t25 : Value) : Prop :=
 opK ((fun h : AHeap => nilV t0 h) ((h.bump 5))) fun t26_1 h =>
 rdK (fAddr 1 t26_1) h fun t27_1 h =>
 stK (stV 1 t27_1 t4 h) fun h =>
 K (.tuple #[]) h
/-- (*cubbyhole/event.Stream).add -/
def f147 (X : Caller) (L : Looper) (K : Value → AHeap → Prop) (h : AHeap) (t0 t1 : Value) : Prop :=
 regK 1 h fun b h =>
 opK (boxV t1 (b + 0) h) fun t3 h =>
 regK 4 h fun b_1 h =>
 rdK (ldN 6 t3 h) h fun t5 h =>
 rdK (buildA P 299 [(0, t5)]) h fun t6 h =>
 opK (boxV t6 (b_1 + 2) h) fun t7 h =>
 opK ((fun h : AHeap => nilV t0 h) ((h.bump 5))) fun t9 h =>
 rdK (fAddr 1 t9) h fun t10 h =>
 rdK (ld1 t10 h) h fun t11 h =>
 rdK (binC P .eql 199 199 t11 (.pointer none) h) h fun t12 h =>
 condK t12
 (opK ((fun h : AHeap => nilV t0 h) ((h.bump 5))) fun t15 h =>
  rdK (fAddr 0 t15) h fun t16 h =>
  stK (stV 1 t16 t7 h) fun h =>
  f147_j2 X L K h t0 t7 undef undef undef undef)
 (opK ((fun h : AHeap => nilV t0 h) ((h.bump 8))) fun t18 h =>
  rdK (fAddr 1 t18) h fun t19 h =>
  rdK (ld1 t19 h) h fun t20 h =>
  opK (nilV t20 h) fun t22 h =>
  rdK (fAddr 6 t22) h fun t23 h =>
  stK (stV 1 t23 t7 h) fun h =>
  f147_j2 X L K h t0 t7 undef undef undef undef)
theorem f147_eq (X : Caller) (L : Looper) (K : Value → AHeap → Prop) (h : AHeap) (t0 t1 : Value) : aJob P X L (.call 147 [t0, t1]) K h = f147 X L K h t0 t1 := by kernel_rfl
/-- cubbyhole/event.own -/
def f148 (X : Caller) (L : Looper) (K : Value → AHeap → Prop) (h : AHeap) (t0 : Value) : Prop :=
 regK 2 h fun b h =>
 opK (boxV t0 (b + 0) h) fun t1 h =>
 opK (newV [.int .i64 0, .string ⟨#[]⟩, .slice none 0 0, .int .u64 0, .int .u64 0, .int .u64 0] (b + 1) h) fun t2 h =>
 rdK ((fun h : AHeap => fAddr 2 t1) ((h.bump 5))) ((h.bump 5)) fun t3 h =>
 rdK (ld1 t3 h) h fun t4 h =>
 X (.call 149 [t4]) (fun t5 h =>
 rdK (fAddr 2 t1) h fun t6 h =>
 stK (stV 1 t6 t5 h) fun h =>
 rdK ((fun h : AHeap => ldN 6 t1 h) ((h.bump 2))) ((h.bump 2)) fun t7 h =>
 stK (stV 6 t2 t7 h) fun h =>
 retK (consR (ldN 6 t2 h) (some [])) K h) h
theorem f148_eq (X : Caller) (L : Looper) (K : Value → AHeap → Prop) (h : AHeap) (t0 : Value) : aJob P X L (.call 148 [t0]) K h = f148 X L K h t0 := by kernel_rfl
/-- bytes.Clone -/
def f149 (X : Caller) (L : Looper) (K : Value → AHeap → Prop) (h : AHeap) (t0 : Value) : Prop :=
 rdK ((fun h : AHeap => binC P .eql 42 42 t0 (.slice none 0 0) h) (((h.bump 1).bump 2))) (((h.bump 1).bump 2)) fun t4 h =>
 condK t4
 (K (.slice none 0 0) ((h.bump 1)))
 (regK 4 h fun b h =>
 opK (bsliceV P 42 0 [] (b + 0) h) fun t5 h =>
 opK (builtinV P .append [42, 42] [t5, t0] (b + 2) h) fun t7 h =>
 K t7 h)
theorem f149_eq (X : Caller) (L : Looper) (K : Value → AHeap → Prop) (h : AHeap) (t0 : Value) : aJob P X L (.call 149 [t0]) K h = f149 X L K h t0 := by kernel_rfl
def f150_j2 (X : Caller) (L : Looper) (K : Value → AHeap → Prop) (h : AHeap) (t6 t7 t4 t36 t37 t5 : Value) : Prop :=
 rdK ((fun h : AHeap => ldN 3 t6 h) ((h.bump 4))) ((h.bump 4)) fun t36_1 h =>
 stK (stV 3 t4 t36_1 h) fun h =>
 retK (consR (ldN 3 t4 h) (consR (some t7) (some []))) K h
/-- (*cubbyhole/cascade.Cascade).Cancel -/
def f150 (X : Caller) (L : Looper) (K : Value → AHeap → Prop) (h : AHeap) (t0 t1 : Value) : Prop :=
 regK 2 h fun b h =>
 opK (newV [.int .u32 0, .int .u64 0, .int .u64 0] (b + 0) h) fun t4 h =>
 regK 9 h fun b_1 h =>
 X (.call 202 [t0, t1]) (fun t13 h =>
 opK (extV 0 t13 h) fun t14 h =>
 opK (extV 1 t13 h) fun t15 h =>
 opK (newV [.int .u32 0, .int .u64 0, .int .u64 0] (b_1 + 6) h) fun t6 h =>
 stK (stV 3 t6 t14 h) fun h =>
 rdK ((fun h : AHeap => binC P .eql 31 31 t15 (.int .i64 0) h) ((h.bump 2))) ((h.bump 2)) fun t17 h =>
 condK t17
 (rdK ((fun h : AHeap => fAddr 1 t6) ((h.bump 9))) ((h.bump 9)) fun t20 h =>
  rdK (ld1 t20 h) h fun t21 h =>
  X (.call 179 [t0, t21]) (fun t22 h =>
  opK (extV 0 t22 h) fun t23 h =>
  opK (extV 1 t22 h) fun t24 h =>
  opK ((fun h : AHeap => nilV t0 h) ((h.bump 8))) fun t27 h =>
  rdK (fAddr 1 t27) h fun t28 h =>
  rdK (ixR 8 1 t28 t23) h fun t29 h =>
  rdK (ld1 t29 h) h fun t30 h =>
  X (.call 203 [t30, t1]) (fun t32 h =>
  rdK ((fun h : AHeap => ldN 3 t6 h) ((h.bump 3))) ((h.bump 3)) fun t34 h =>
  X (.call 182 [t0, t34]) (fun t35 h =>
  f150_j2 X L K h t6 t15 t4 undef undef ((.int .i64 0))) h) h) h)
 (f150_j2 X L K h t6 t15 t4 undef undef ((.int .i64 0)))) h
theorem f150_eq (X : Caller) (L : Looper) (K : Value → AHeap → Prop) (h : AHeap) (t0 t1 : Value) : aJob P X L (.call 150 [t0, t1]) K h = f150 X L K h t0 t1 := by kernel_rfl
/-- (*cubbyhole/cascade.Cascade).Schedule -/
def f151 (X : Caller) (L : Looper) (K : Value → AHeap → Prop) (h : AHeap) (t0 t1 : Value) : Prop :=
 regK 2 h fun b h =>
 opK (boxV t1 (b + 0) h) fun t3 h =>
 rdK ((fun h : AHeap => fAddr 0 t3) ((h.bump 5))) ((h.bump 5)) fun t12 h =>
 rdK (ld1 t12 h) h fun t13 h =>
 X (.call 109 [t0, t13]) (fun t14 h =>
 rdK ((fun h : AHeap => binC P .neq 31 31 t14 (.int .i64 0) h) ((h.bump 2))) ((h.bump 2)) fun t16 h =>
 condK t16
 (K t14 ((h.bump 2)))
 (rdK ((fun h : AHeap => fAddr 2 t3) ((h.bump 3))) ((h.bump 3)) fun t18 h =>
 rdK (ld1 t18 h) h fun t19 h =>
 rdK (binC P .eql 27 27 t19 (.int .u64 0) h) h fun t20 h =>
 condK t20
 (K (.int .i64 2) ((h.bump 1)))
 (rdK ((fun h : AHeap => fAddr 0 t3) ((h.bump 7))) ((h.bump 7)) fun t22 h =>
 rdK (ld1 t22 h) h fun t23 h =>
 rdK (fAddr 1 t3) h fun t24 h =>
 rdK (ld1 t24 h) h fun t25 h =>
 X (.call 204 [t0, t23, t25]) (fun t26 h =>
 rdK ((fun h : AHeap => binC P .neq 31 31 t26 (.int .i64 0) h) ((h.bump 2))) ((h.bump 2)) fun t28 h =>
 condK t28
 (K t26 ((h.bump 2)))
 (regK 13 h fun b_1 h =>
 opK (nilV t0 h) fun t32 h =>
 rdK (fAddr 9 t32) h fun t33 h =>
 rdK (ld1 t33 h) h fun t34 h =>
 rdK (fAddr 0 t3) h fun t35 h =>
 rdK (ld1 t35 h) h fun t36 h =>
 rdK (lookupA P 111 t34 t36 true h) h fun t37 h =>
 opK (extV 0 t37 h) fun t38 h =>
 opK (extV 1 t37 h) fun t39 h =>
 opK (newV [.int .u32 0, .int .u64 0, .int .u64 0] (b_1 + 10) h) fun t7 h =>
 stK (stV 3 t7 t38 h) fun h =>
 regK 13 h fun b_2 h =>
 opK (nilV t0 h) fun t42 h =>
 rdK (fAddr 10 t42) h fun t43 h =>
 rdK (ld1 t43 h) h fun t44 h =>
 rdK (fAddr 2 t3) h fun t45 h =>
 rdK (ld1 t45 h) h fun t46 h =>
 rdK (lookupA P 190 t44 t46 true h) h fun t47 h =>
 opK (extV 0 t47 h) fun t48 h =>
 opK (extV 1 t47 h) fun t49 h =>
 opK (newV [] (b_2 + 10) h) fun t9 h =>
 stK (stV 0 t9 t48 h) fun h =>
 gopK (wantV t39 false) ((h.bump 4)) (some (t49, (h.bump 4))) fun t52 h =>
 opK (pickV t39 (.bool true) t52 h) fun t53 h =>
 condK t53
 (K (.int .i64 11) ((h.bump 1)))
 (rdK ((fun h : AHeap => ldN 3 t3 h) ((h.bump 3))) ((h.bump 3)) fun t55 h =>
 X (.call 181 [t0, t55]) (fun t56 h =>
 K (.int .i64 0) ((h.bump 1))) h))) h))) h
theorem f151_eq (X : Caller) (L : Looper) (K : Value → AHeap → Prop) (h : AHeap) (t0 t1 : Value) : aJob P X L (.call 151 [t0, t1]) K h = f151 X L K h t0 t1 := by kernel_rfl
/-- (*cubbyhole/segment.Segments).of -/
def f152 (X : Caller) (L : Looper) (K : Value → AHeap → Prop) (h : AHeap) (t0 t1 : Value) : Prop :=
 opK ((fun h : AHeap => nilV t0 h) (((h.bump 1).bump 7))) fun t6 h =>
 rdK (fAddr 0 t6) h fun t7 h =>
 rdK (ixR 2 1 t7 (.int .i64 1)) h fun t8 h =>
 rdK (ld1 t8 h) h fun t9 h =>
 X (.call 205 [t9, t1]) (fun t11 h =>
 condK t11
 (K (.int .i64 1) ((h.bump 1)))
 (K (.int .i64 0) ((h.bump 1)))) h
theorem f152_eq (X : Caller) (L : Looper) (K : Value → AHeap → Prop) (h : AHeap) (t0 t1 : Value) : aJob P X L (.call 152 [t0, t1]) K h = f152 X L K h t0 t1 := by kernel_rfl
/-- (*cubbyhole/segment.Segments).take -/
def f153 (X : Caller) (L : Looper) (K : Value → AHeap → Prop) (h : AHeap) (t0 t1 : Value) : Prop :=
 opK ((fun h : AHeap => nilV t0 h) (((h.bump 1).bump 11))) fun t10 h =>
 rdK (fAddr 4 t10) h fun t11 h =>
 rdK (ld1 t11 h) h fun t12 h =>
 rdK (lookupA P 178 t12 t1 true h) h fun t14 h =>
 opK (extV 0 t14 h) fun t15 h =>
 opK (extV 1 t14 h) fun t16 h =>
 rdK ((fun h : AHeap => unV P .not 4 t16) ((h.bump 2))) ((h.bump 2)) fun t18 h =>
 condK t18
 (K (.bool false) ((h.bump 1)))
 (X (.call 152 [t0, t1]) (fun t21 h =>
 opK ((fun h : AHeap => nilV t0 h) ((h.bump 8))) fun t24 h =>
 rdK (fAddr 0 t24) h fun t25 h =>
 rdK (ixR 2 1 t25 t21) h fun t26 h =>
 rdK (ld1 t26 h) h fun t27 h =>
 X (.call 206 [t27, t1]) (fun t29 h =>
 opK ((fun h : AHeap => nilV t0 h) ((h.bump 12))) fun t32 h =>
 rdK (fAddr 2 t32) h fun t33 h =>
 rdK (ixR 2 1 t33 t21) h fun t34 h =>
 rdK (ld1 t34 h) h fun t35 h =>
 rdK (binV P .sub 3 3 t35 t15 h) h fun t37 h =>
 opK (nilV t0 h) fun t38 h =>
 rdK (fAddr 2 t38) h fun t39 h =>
 rdK (ixR 2 1 t39 t21) h fun t40 h =>
 stK (stV 1 t40 t37 h) fun h =>
 regK 6 h fun b h =>
 opK (nilV t0 h) fun t42 h =>
 rdK (fAddr 4 t42) h fun t43 h =>
 rdK (ld1 t43 h) h fun t44 h =>
 opK (builtinV P .delete [178, 90] [t44, t1] (b + 5) h) fun _ h =>
 K (.bool true) ((h.bump 1))) h) ((h.bump 4)))
theorem f153_eq (X : Caller) (L : Looper) (K : Value → AHeap → Prop) (h : AHeap) (t0 t1 : Value) : aJob P X L (.call 153 [t0, t1]) K h = f153 X L K h t0 t1 := by kernel_rfl
def f154_l4 (X : Caller) (L : Looper) (a : AAct) (K : ActPost) (h : AHeap) : Prop :=
 callV X (a.env 3) [] (fun t10 h =>
 condK t10
 (rdK ((fun h : AHeap => ld1 (a.env 1) h) ((h.bump 11))) ((h.bump 11)) fun t12 h =>
 opK (nilV t12 h) fun t13 h =>
 rdK (fAddr 0 t13) h fun t14 h =>
 rdK (ixR 2 1 t14 (.int .i64 1)) h fun t15 h =>
 rdK (ld1 t15 h) h fun t16 h =>
 X (.call 209 [t16]) (fun t17 h =>
 opK (extV 0 t17 h) fun t18 h =>
 opK (extV 1 t17 h) fun t19 h =>
 rdK ((fun h : AHeap => ld1 (a.env 1) h) ((h.bump 7))) ((h.bump 7)) fun t20 h =>
 opK (nilV t20 h) fun t21 h =>
 rdK (fAddr 4 t21) h fun t22 h =>
 rdK (ld1 t22 h) h fun t23 h =>
 rdK (lookupA P 178 t23 t18 false h) h fun t25 h =>
 rdK ((fun h : AHeap => ld1 (a.env 1) h) ((h.bump 3))) ((h.bump 3)) fun t26 h =>
 X (.call 153 [t26, t18]) (fun t28 h =>
 rdK ((fun h : AHeap => ld1 (a.env 1) h) ((h.bump 4))) ((h.bump 4)) fun t29 h =>
 X (.call 105 [t29, (.int .i64 0), t18, t25]) (fun t32 h =>
 regK 5 h fun b_1 h =>
 opK (bsliceV P 151 1 [(0, t18)] (b_1 + 2) h) fun t35 h =>
 opK (builtinV P .append [151, 151] [(a.env 4), t35] (b_1 + 3) h) fun t36 h =>
 K .normal ⟨(upds a.env [(9, (a.env 3)), (10, t10), (12, t12), (13, t13), (14, t14), (15, t15), (16, t16), (17, t17), (11, t17), (18, t18), (19, t19), (5, t18), (6, t19), (20, t20), (21, t21), (22, t22), (23, t23), (24, t18), (25, t25), (7, t25), (26, t26), (27, t18), (28, t28), (29, t29), (30, t18), (31, t25), (32, t32), (33, (a.env 4)), (34, t18), (35, t35), (36, t36), (4, t36)]), a.defers⟩ h) h) h) h)
 (K (.exit 0) ⟨(upds a.env [(9, (a.env 3)), (10, t10)]), a.defers⟩ h)) ((h.bump 2))
def f154_j3 (X : Caller) (L : Looper) (K : Value → AHeap → Prop) (h : AHeap) (a : AAct) : Prop :=
 leaveA P X Tryz.f154 ⟨(upds a.env [(37, (a.env 4)), (2, (a.env 4))]), a.defers⟩ K a.defers ((h.bump 2))
/-- (*cubbyhole/segment.Segments).demote -/
def f154 (X : Caller) (L : Looper) (K : Value → AHeap → Prop) (h : AHeap) (t0 : Value) : Prop :=
 regK 2 h fun b h =>
 opK (boxV t0 (b + 0) h) fun t1 h =>
 L (f154_l4 X L) ⟨(upds (argsEnv [t0]) [(1, t1), (2, (.slice none 0 0)), (8, (.func (.func 207) #[] #[t1])), (3, (.func (.func 207) #[] #[t1])), (4, (.slice none 0 0))]), []⟩ (blkX 0 (seqX (fun a h => f154_j3 X L K h a) (finX P X Tryz.f154 K))) (((h.bump 2).bump 1))
theorem f154_eq (X : Caller) (L : Looper) (K : Value → AHeap → Prop) (h : AHeap) (t0 : Value) : aJob P X L (.call 154 [t0]) K h = f154 X L K h t0 := by kernel_rfl
/-- (*cubbyhole/budget.Budget).has -/
def f155 (X : Caller) (L : Looper) (K : Value → AHeap → Prop) (h : AHeap) (t0 t1 t2 : Value) : Prop :=
 regK 8 ((h.bump 1)) fun b h =>
 opK (nilV t0 h) fun t10 h =>
 rdK (fAddr 2 t10) h fun t11 h =>
 rdK (ixR 2 2 t11 t1) h fun t12 h =>
 rdK (ldN 2 t12 h) h fun t13 h =>
 opK (newV [.int .i64 0, .int .i64 0] (b + 6) h) fun t7 h =>
 stK (stV 2 t7 t13 h) fun h =>
 rdK ((fun h : AHeap => fAddr 0 t7) ((h.bump 16))) ((h.bump 16)) fun t14 h =>
 rdK (ld1 t14 h) h fun t15 h =>
 rdK (binC P .gtr 3 3 t15 (.int .i64 1) h) h fun t16 h =>
 gopK (wantV t16 true) h ((fAddr 1 t7).map (·, h)) fun t18 h =>
 gopK (wantV t16 true) h ((ld1 t18 h).map (·, h)) fun t19 h =>
 gopK (wantV t16 true) h (some (t2, h)) fun t20 h =>
 gopK (wantV t16 true) h ((binV P .geq 3 3 t19 t20 h).map (·, h)) fun t21 h =>
 opK (pickV t16 t21 (.bool false) h) fun t22 h =>
 gopK (wantV t22 false) h ((ldN 2 t7 h).map (·, h)) fun t24 h =>
 gopK (wantV t22 false) h (some (t2, h)) fun t25 h =>
 gopK (wantV t22 false) h ((buildA P 183 [(0, (.int .i64 1)), (1, t25)]).map (·, h)) fun t26 h =>
 gopK (wantV t22 false) h ((binV P .eql 183 183 t24 t26 h).map (·, h)) fun t27 h =>
 opK (pickV t22 (.bool true) t27 h) fun t28 h =>
 K t28 h
theorem f155_eq (X : Caller) (L : Looper) (K : Value → AHeap → Prop) (h : AHeap) (t0 t1 t2 : Value) : aJob P X L (.call 155 [t0, t1, t2]) K h = f155 X L K h t0 t1 t2 := by kernel_rfl
/-- (*cubbyhole/budget.Budget).Move -/
def f156 (X : Caller) (L : Looper) (K : Value → AHeap → Prop) (h : AHeap) (t0 t1 t2 : Value) : Prop :=
 X (.call 106 [t0, t1, t2]) (fun t12 h =>
 rdK ((fun h : AHeap => binC P .neq 31 31 t12 (.int .i64 0) h) ((h.bump 2))) ((h.bump 2)) fun t14 h =>
 condK t14
 (K t12 ((h.bump 2)))
 (rdK ((fun h : AHeap => binD P .sub 106 106 (.int .i64 1) t1 h) ((h.bump 3))) ((h.bump 3)) fun t17 h =>
 opK ((fun h : AHeap => nilV t0 h) ((h.bump 12))) fun t21 h =>
 rdK (fAddr 2 t21) h fun t22 h =>
 rdK (ixR 2 2 t22 t17) h fun t23 h =>
 rdK (ldN 2 t23 h) h fun t24 h =>
 rdK (buildA P 183 [(0, (.int .i64 1)), (1, t2)]) h fun t26 h =>
 X (.call 107 [t24, t26]) (fun t27 h =>
 X (.call 108 [t27]) (fun t28 h =>
 rdK (unV P .not 4 t28) h fun t29 h =>
 condK t29
 (K (.int .i64 7) ((h.bump 1)))
 (X (.call 155 [t0, t1, t2]) (fun t34 h =>
  rdK (unV P .not 4 t34) h fun t35 h =>
  condK t35
  (K (.int .i64 9) ((h.bump 1)))
  (X (.call 97 [t0, t1, t2]) (fun t39 h =>
 X (.call 59 [t0, t17, t2]) (fun t43 h =>
 K t43 h) ((h.bump 5))) ((h.bump 4)))) ((h.bump 6)))) h) h)) (((h.bump 1).bump 5))
theorem f156_eq (X : Caller) (L : Looper) (K : Value → AHeap → Prop) (h : AHeap) (t0 t1 t2 : Value) : aJob P X L (.call 156 [t0, t1, t2]) K h = f156 X L K h t0 t1 t2 := by kernel_rfl
def f157_j8 (X : Caller) (L : Looper) (K : Value → AHeap → Prop) (h : AHeap) (t10 t6 t49 t50 t7 : Value) : Prop :=
 rdK ((fun h : AHeap => ldN 2 t10 h) ((h.bump 3))) ((h.bump 3)) fun t49_1 h =>
 stK (stV 2 t6 t49_1 h) fun h =>
 retK (consR (ldN 2 t6 h) (consR (some (.int .i64 0)) (some []))) K h
def f157_j7 (X : Caller) (L : Looper) (K : Value → AHeap → Prop) (h : AHeap) (t6 t50 t7 : Value) : Prop :=
 rdK ((fun h : AHeap => buildA P 171 []) ((h.bump 3))) ((h.bump 3)) fun t50_1 h =>
 stK (stV 2 t6 t50_1 h) fun h =>
 retK (consR (ldN 2 t6 h) (consR (some (.int .i64 7)) (some []))) K h
/-- cubbyhole/growth.Insert -/
def f157 (X : Caller) (L : Looper) (K : Value → AHeap → Prop) (h : AHeap) (t0 t1 t2 : Value) : Prop :=
 regK 2 h fun b h =>
 opK (newV [.int .i64 0, .bool false] (b + 0) h) fun t6 h =>
 X (.call 210 [t0, t1, t2]) (fun t14 h =>
 rdK ((fun h : AHeap => binC P .neq 31 31 t14 (.int .i64 0) h) ((h.bump 2))) ((h.bump 2)) fun t16 h =>
 condK t16
 (rdK ((fun h : AHeap => buildA P 171 []) ((h.bump 4))) ((h.bump 4)) fun t17 h =>
  stK (stV 2 t6 t17 h) fun h =>
  retK (consR (ldN 2 t6 h) (consR (some t14) (some []))) K h)
 (X (.call 211 [t0]) (fun t20 h =>
 regK 9 h fun b_1 h =>
 rdK (binV P .add 3 3 t1 t2 h) h fun t24 h =>
 rdK (binV P .geq 3 3 t24 t20 h) h fun t26 h =>
 rdK (buildA P 171 [(0, t0), (1, t26)]) h fun t27 h =>
 opK (newV [.int .i64 0, .bool false] (b_1 + 7) h) fun t10 h =>
 stK (stV 2 t10 t27 h) fun h =>
 rdK ((fun h : AHeap => fAddr 1 t10) ((h.bump 10))) ((h.bump 10)) fun t29 h =>
 rdK (ld1 t29 h) h fun t30 h =>
 rdK (unV P .not 4 t30) h fun t31 h =>
 gopK (wantV t31 false) h (some (t1, h)) fun t33 h =>
 gopK (wantV t31 false) h ((binD P .mul 3 3 (.int .i64 2) t33 h).map (·, h)) fun t34 h =>
 gopK (wantV t31 false) h (some (t20, h)) fun t35 h =>
 gopK (wantV t31 false) h ((binV P .leq 3 3 t34 t35 h).map (·, h)) fun t36 h =>
 opK (pickV t31 (.bool true) t36 h) fun t37 h =>
 condK t37
 (rdK ((fun h : AHeap => ldN 2 t10 h) ((h.bump 3))) ((h.bump 3)) fun t45 h =>
 stK (stV 2 t6 t45 h) fun h =>
 retK (consR (ldN 2 t6 h) (consR (some (.int .i64 0)) (some []))) K h)
 (rdK ((fun h : AHeap => binC P .lss 3 3 t0 (.int .i64 1048576) h) ((h.bump 3))) ((h.bump 3)) fun t40 h =>
 condK t40
 (rdK ((fun h : AHeap => binD P .mul 3 3 (.int .i64 2) t0 h) ((h.bump 4))) ((h.bump 4)) fun t47 h =>
 rdK (fAddr 0 t10) h fun t48 h =>
 stK (stV 1 t48 t47 h) fun h =>
 f157_j8 X L K h t10 t6 undef undef ((.int .i64 0)))
 (rdK ((fun h : AHeap => binV P .lss 3 3 t1 t20 h) ((h.bump 4))) ((h.bump 4)) fun t44 h =>
 condK t44
 (f157_j8 X L K h t10 t6 undef undef ((.int .i64 0)))
 (f157_j7 X L K h t6 undef ((.int .i64 0)))))) ((h.bump 3)))) ((h.bump 5))
theorem f157_eq (X : Caller) (L : Looper) (K : Value → AHeap → Prop) (h : AHeap) (t0 t1 t2 : Value) : aJob P X L (.call 157 [t0, t1, t2]) K h = f157 X L K h t0 t1 t2 := by kernel_rfl
/-- (*cubbyhole/swiss.Index).Len -/
def f158 (X : Caller) (L : Looper) (K : Value → AHeap → Prop) (h : AHeap) (t0 : Value) : Prop :=
 X (.call 121 [t0]) (fun t4 h =>
 condK t4
 (K (.int .i64 0) ((h.bump 1)))
 (opK ((fun h : AHeap => nilV t0 h) ((h.bump 5))) fun t6 h =>
 rdK (fAddr 1 t6) h fun t7 h =>
 rdK (ld1 t7 h) h fun t8 h =>
 K t8 h)) (((h.bump 1).bump 2))
theorem f158_eq (X : Caller) (L : Looper) (K : Value → AHeap → Prop) (h : AHeap) (t0 : Value) : aJob P X L (.call 158 [t0]) K h = f158 X L K h t0 := by kernel_rfl
/-- (*cubbyhole/entrylog.Log).zero -/
def f159 (X : Caller) (L : Looper) (K : Value → AHeap → Prop) (h : AHeap) (t0 : Value) : Prop :=
 rdK ((fun h : AHeap => binC P .eql 133 133 t0 (.pointer none) h) (((h.bump 1).bump 10))) (((h.bump 1).bump 10)) fun t4 h =>
 gopK (wantV t4 false) h (some (t0, h)) fun t6 h =>
 gopK (wantV t4 false) h (nilV t6 h) fun t7 h =>
 gopK (wantV t4 false) h ((fAddr 0 t7).map (·, h)) fun t8 h =>
 gopK (wantV t4 false) h ((ld1 t8 h).map (·, h)) fun t9 h =>
 gopK (wantV t4 false) h ((unV P .not 4 t9).map (·, h)) fun t10 h =>
 opK (pickV t4 (.bool true) t10 h) fun t11 h =>
 K t11 h
theorem f159_eq (X : Caller) (L : Looper) (K : Value → AHeap → Prop) (h : AHeap) (t0 : Value) : aJob P X L (.call 159 [t0]) K h = f159 X L K h t0 := by kernel_rfl
/-- (*cubbyhole/dict.Dict).do -/
def f160 (X : Caller) (L : Looper) (K : Value → AHeap → Prop) (h : AHeap) (t0 t1 : Value) : Prop :=
 regK 1 h fun b h =>
 opK (boxV t1 (b + 0) h) fun t3 h =>
 rdK ((fun h : AHeap => fAddr 1 t3) ((h.bump 3))) ((h.bump 3)) fun t7 h =>
 rdK (ld1 t7 h) h fun t8 h =>
 rdK (unV P .not 4 t8) h fun t9 h =>
 condK t9
 (K (.tuple #[]) h)
 (opK ((fun h : AHeap => nilV t0 h) (((h.bump 3).bump 13))) fun t14 h =>
 rdK (fAddr 3 t14) h fun t15 h =>
 rdK (ld1 t15 h) h fun t16 h =>
 rdK (fAddr 0 t3) h fun t17 h =>
 rdK (ld1 t17 h) h fun t18 h =>
 X (.call 212 [t16, t18, (.func (.func 162) #[t0] #[])]) (fun t20 h =>
 opK (extV 0 t20 h) fun t21 h =>
 opK (extV 1 t20 h) fun t22 h =>
 rdK ((fun h : AHeap => binC P .eql 31 31 t22 (.int .i64 0) h) ((h.bump 2))) ((h.bump 2)) fun t24 h =>
 condK t24
 (opK ((fun h : AHeap => nilV t0 h) ((h.bump 5))) fun t27 h =>
  rdK (fAddr 3 t27) h fun t28 h =>
  stK (stV 1 t28 t21 h) fun h =>
  K (.tuple #[]) h)
 (K (.tuple #[]) h)) h)
theorem f160_eq (X : Caller) (L : Looper) (K : Value → AHeap → Prop) (h : AHeap) (t0 t1 : Value) : aJob P X L (.call 160 [t0, t1]) K h = f160 X L K h t0 t1 := by kernel_rfl
def f161_a0 (X : Caller) (L : Looper) (a : AAct) (K : ActPost) (h : AHeap) : Prop :=
 K .normal ⟨(upds a.env [(9, (a.env 26))]), a.defers⟩ ((h.bump 1))
def f161_j11 (X : Caller) (L : Looper) (K : ActPost) (h : AHeap) (a : AAct) : Prop :=
 opK ((fun h : AHeap => nilV (a.env 10) h) ((h.bump 15))) fun t60 h =>
 rdK (fAddr 0 t60) h fun t61 h =>
 rdK (ld1 t61 h) h fun t62 h =>
 rdK (ld1 (a.env 4) h) h fun t64 h =>
 X (.call 174 [t64]) (fun t65 h =>
 chkK (chkR ((ld1 t61 h).map (·, h)) t62 true) <|
 X (.call 215 [t62, (a.env 11), t65]) (fun t66 h =>
 opK (extV 0 t66 h) fun t67 h =>
 opK (extV 1 t66 h) fun t68 h =>
 opK (nilV (a.env 10) h) fun t69 h =>
 rdK (fAddr 0 t69) h fun t70 h =>
 stK (stV 1 t70 t67 h) fun h =>
 rdK ((fun h : AHeap => ld1 (a.env 5) h) ((h.bump 7))) ((h.bump 7)) fun t73 h =>
 opK (nilV (a.env 10) h) fun t74 h =>
 rdK (fAddr 1 t74) h fun t75 h =>
 rdK (ixR 8 1 t75 (a.env 11)) h fun t76 h =>
 stK (stV 1 t76 t73 h) fun h =>
 rdK ((fun h : AHeap => ld1 (a.env 3) h) ((h.bump 8))) ((h.bump 8)) fun t77 h =>
 opK (nilV t77 h) fun t78 h =>
 rdK (fAddr 1 t78) h fun t79 h =>
 rdK (ld1 t79 h) h fun t80 h =>
 rdK (binC P .add 3 3 t80 (.int .i64 1) h) h fun t81 h =>
 opK (nilV t77 h) fun t82 h =>
 rdK (fAddr 1 t82) h fun t83 h =>
 stK (stV 1 t83 t81 h) fun h =>
 stK ((fun h : AHeap => stV 1 (a.env 6) (.int .i64 0) h) ((h.bump 1))) fun h =>
 K .ret ⟨(upds a.env [(58, (a.env 10)), (59, (a.env 10)), (60, t60), (61, t61), (62, t62), (63, (a.env 11)), (64, t64), (65, t65), (66, t66), (57, t66), (67, t67), (68, t68), (69, t69), (70, t70), (71, (a.env 10)), (72, (a.env 11)), (73, t73), (74, t74), (75, t75), (76, t76), (77, t77), (78, t78), (79, t79), (80, t80), (81, t81), (82, t82), (83, t83)]), a.defers⟩ h) h) h
def f161_b0 (X : Caller) (L : Looper) (a : AAct) (K : ActPost) (h : AHeap) : Prop :=
 rdK ((fun h : AHeap => ld1 (a.env 3) h) ((h.bump 7))) ((h.bump 7)) fun t27 h =>
 opK (nilV t27 h) fun t28 h =>
 rdK (fAddr 0 t28) h fun t29 h =>
 rdK (ld1 t29 h) h fun t30 h =>
 rdK (ixS 9 t30 (a.env 9)) h fun t32 h =>
 opK ((fun h : AHeap => nilV t32 h) ((h.bump 7))) fun t34 h =>
 rdK (fAddr 0 t34) h fun t35 h =>
 rdK (ld1 t35 h) h fun t36 h =>
 X (.call 214 [t36]) (fun t37 h =>
 X (.call 213 [t37]) (fun t38 h =>
 rdK ((fun h : AHeap => binC P .eql 3 3 t38 (.int .i64 8) h) ((h.bump 2))) ((h.bump 2)) fun t40 h =>
 condK t40
 (K .normal ⟨(upds a.env [(27, t27), (28, t28), (29, t29), (30, t30), (31, (a.env 9)), (32, t32), (10, t32), (33, t32), (34, t34), (35, t35), (36, t36), (37, t37), (38, t38), (11, t38), (39, t38), (40, t40)]), a.defers⟩ h)
 (opK ((fun h : AHeap => nilV t32 h) ((h.bump 9))) fun t42 h =>
 rdK (fAddr 0 t42) h fun t43 h =>
 rdK (ld1 t43 h) h fun t44 h =>
 X (.call 175 [t44]) (fun t45 h =>
 rdK (binV P .shr 5 3 t45 t38 h) h fun t47 h =>
 rdK (binC P .and 5 5 t47 (.int .u8 1) h) h fun t48 h =>
 rdK (binC P .eql 5 5 t48 (.int .u8 0) h) h fun t49 h =>
 condK t49
 (rdK ((fun h : AHeap => ld1 (a.env 3) h) ((h.bump 8))) ((h.bump 8)) fun t50 h =>
  opK (nilV t50 h) fun t51 h =>
  rdK (fAddr 2 t51) h fun t52 h =>
  rdK (ld1 t52 h) h fun t53 h =>
  rdK (binC P .sub 3 3 t53 (.int .i64 1) h) h fun t54 h =>
  opK (nilV t50 h) fun t55 h =>
  rdK (fAddr 2 t55) h fun t56 h =>
  stK (stV 1 t56 t54 h) fun h =>
  f161_j11 X L K h ⟨(upds a.env [(27, t27), (28, t28), (29, t29), (30, t30), (31, (a.env 9)), (32, t32), (10, t32), (33, t32), (34, t34), (35, t35), (36, t36), (37, t37), (38, t38), (11, t38), (39, t38), (40, t40), (41, t32), (42, t42), (43, t43), (44, t44), (45, t45), (46, t38), (47, t47), (48, t48), (49, t49), (50, t50), (51, t51), (52, t52), (53, t53), (54, t54), (55, t55), (56, t56)]), a.defers⟩)
 (f161_j11 X L K h ⟨(upds a.env [(27, t27), (28, t28), (29, t29), (30, t30), (31, (a.env 9)), (32, t32), (10, t32), (33, t32), (34, t34), (35, t35), (36, t36), (37, t37), (38, t38), (11, t38), (39, t38), (40, t40), (41, t32), (42, t42), (43, t43), (44, t44), (45, t45), (46, t38), (47, t47), (48, t48), (49, t49)]), a.defers⟩)) h)) h) h
noncomputable def f161_ca0 : Code := (rangesF Tryz.f161 0).1
noncomputable def f161_cb0 : Code := (rangesF Tryz.f161 0).2
theorem f161_a0_eq (X : Caller) (L : Looper) (a : AAct) (K : ActPost) (h : AHeap) : aCode P X L true f161_ca0 a K h = f161_a0 X L a K h := by kernel_rfl
theorem f161_b0_eq (X : Caller) (L : Looper) (a : AAct) (K : ActPost) (h : AHeap) : aCode P X L true f161_cb0 a K h = f161_b0 X L a K h := by kernel_rfl
def f161_j5 (X : Caller) (L : Looper) (K : Value → AHeap → Prop) (h : AHeap) (a : AAct) : Prop :=
 stK ((fun h : AHeap => stV 1 (a.env 6) (.int .i64 7) h) ((h.bump 1))) fun h =>
 leaveA P X Tryz.f161 ⟨a.env, a.defers⟩ K a.defers h
/-- (*cubbyhole/swiss.Index).Insert -/
def f161 (X : Caller) (L : Looper) (K : Value → AHeap → Prop) (h : AHeap) (t0 t1 t2 : Value) : Prop :=
 regK 4 h fun b h =>
 opK (boxV t0 (b + 0) h) fun t3 h =>
 opK (boxV t1 (b + 1) h) fun t4 h =>
 opK (boxV t2 (b + 2) h) fun t5 h =>
 opK (newV [.int .i64 0] (b + 3) h) fun t6 h =>
 rdK ((fun h : AHeap => ld1 t3 h) ((h.bump 2))) ((h.bump 2)) fun t12 h =>
 X (.call 121 [t12]) (fun t13 h =>
 condK t13
 (stK ((fun h : AHeap => stV 1 t6 (.int .i64 1) h) ((h.bump 1))) fun h =>
  retK (consR (ld1 t6 h) (some [])) K h)
 (regK 13 h fun b_1 h =>
 rdK (ld1 t4 h) h fun t15 h =>
 rdK (ld1 t3 h) h fun t17 h =>
 opK (nilV t17 h) fun t18 h =>
 rdK (fAddr 0 t18) h fun t19 h =>
 rdK (ld1 t19 h) h fun t20 h =>
 opK (builtinV P .len [266] [t20] (b_1 + 6) h) fun t21 h =>
 X (.call 171 [t15]) (fun t16 h =>
 chkK (chkR (builtinV P .len [266] [t20] (b_1 + 6) h) t21 (chkR ((ld1 t19 h).map (·, h)) t20 (chkR ((ld1 t3 h).map (·, h)) t17 true))) <|
 X (.call 170 [t16, t21]) (fun t22 h =>
 opK (extV 0 t22 h) fun t23 h =>
 opK (extV 1 t22 h) fun t24 h =>
 rangeK X t23 ⟨(upds (argsEnv [t0, t1, t2]) [(3, t3), (4, t4), (5, t5), (6, t6), (12, t12), (13, t13), (15, t15), (17, t17), (18, t18), (19, t19), (20, t20), (21, t21), (16, t16), (22, t22), (14, t22), (23, t23), (24, t24), (7, t23), (8, t24), (25, t23)]), []⟩ [26] f161_ca0 f161_cb0 (blkX 0 (seqX (fun a h => f161_j5 X L K h a) (finX P X Tryz.f161 K))) ((h.bump 1))) h) h)) h
theorem f161_eq (X : Caller) (L : Looper) (K : Value → AHeap → Prop) (h : AHeap) (t0 t1 t2 : Value) : aJob P X L (.call 161 [t0, t1, t2]) K h = f161 X L K h t0 t1 t2 := by kernel_rfl
/-- (*cubbyhole/dict.Dict).sum -/
def f162 (X : Caller) (L : Looper) (K : Value → AHeap → Prop) (h : AHeap) (t0 t1 : Value) : Prop :=
 opK ((fun h : AHeap => nilV t0 h) (((h.bump 1).bump 12))) fun t6 h =>
 rdK (fAddr 1 t6) h fun t7 h =>
 rdK (ldN 2 t7 h) h fun t8 h =>
 opK (nilV t0 h) fun t10 h =>
 rdK (fAddr 0 t10) h fun t11 h =>
 rdK (ldN 1 t11 h) h fun t12 h =>
 X (.call 81 [t12, t1]) (fun t14 h =>
 chkK (chkR ((ldN 2 t7 h).map (·, h)) t8 true) <|
 X (.call 79 [t8, t14]) (fun t15 h =>
 K t15 h) h) h
theorem f162_eq (X : Caller) (L : Looper) (K : Value → AHeap → Prop) (h : AHeap) (t0 t1 : Value) : aJob P X L (.call 162 [t0, t1]) K h = f162 X L K h t0 t1 := by kernel_rfl
/-- (*cubbyhole/lru.LRU).Add -/
def f163 (X : Caller) (L : Looper) (K : Value → AHeap → Prop) (h : AHeap) (t0 t1 : Value) : Prop :=
 X (.call 190 [t0, t1]) (fun t8 h =>
 rdK ((fun h : AHeap => binC P .neq 31 31 t8 (.int .i64 0) h) ((h.bump 2))) ((h.bump 2)) fun t10 h =>
 condK t10
 (K t8 ((h.bump 2)))
 (X (.call 216 [t0, t1]) (fun t14 h =>
 opK ((fun h : AHeap => nilV t0 h) ((h.bump 7))) fun t16 h =>
 rdK (fAddr 0 t16) h fun t17 h =>
 rdK (ld1 t17 h) h fun t18 h =>
 X (.call 217 [t18, (.int .i64 0), t1]) (fun t20 h =>
 K t20 h) h) ((h.bump 3)))) (((h.bump 1).bump 4))
theorem f163_eq (X : Caller) (L : Looper) (K : Value → AHeap → Prop) (h : AHeap) (t0 t1 : Value) : aJob P X L (.call 163 [t0, t1]) K h = f163 X L K h t0 t1 := by kernel_rfl
end Go.Proofs.YtcoofhpdkgkjcaaGreatDoor.F
