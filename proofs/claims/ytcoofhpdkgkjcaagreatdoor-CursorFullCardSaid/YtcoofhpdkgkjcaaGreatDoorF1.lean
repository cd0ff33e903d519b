/- The functions of the program, as shallow texts (printed by a program of this place). -/
import Derived.Test.YtcoofhpdkgkjcaaGreatDoorFW
namespace Go.Proofs.YtcoofhpdkgkjcaaGreatDoor.F
set_option linter.unusedVariables false
set_option linter.unusedSimpArgs false
open Go Go.Cub
def f43_j5 (X : Caller) (L : Looper) (K : Value → AHeap → Prop) (h : AHeap) (t1 t5 t23 t22 t24 t25 t26 t4 : Value) : Prop :=
 regK 6 h fun b h =>
 opK (bsliceV P 130 1 [(0, t5)] (b + 2) h) fun t24_1 h =>
 opK (builtinV P .append [130, 130] [t1, t24_1] (b + 3) h) fun t25_1 h =>
 X (.call 75 [t25_1]) (fun t26_1 h =>
 K t26_1 h) h
/-- (*cubbyhole/cache.Cache).check -/
def f43 (X : Caller) (L : Looper) (K : Value → AHeap → Prop) (h : AHeap) (t0 t1 : Value) : Prop :=
 X (.call 28 [t0]) (fun t7 h =>
 condK t7
 (K (.int .i64 1) ((h.bump 1)))
 (opK ((fun h : AHeap => nilV t0 h) (((h.bump 1).bump 14))) fun t9 h =>
 rdK (fAddr 0 t9) h fun t10 h =>
 rdK (fAddr 5 t10) h fun t11 h =>
 rdK (ld1 t11 h) h fun t12 h =>
 opK (nilV t0 h) fun t15 h =>
 rdK (fAddr 0 t15) h fun t16 h =>
 rdK (fAddr 0 t16) h fun t17 h =>
 rdK (ld1 t17 h) h fun t18 h =>
 X (.call 73 [t12]) (fun t13 h =>
 chkK (chkR ((ld1 t17 h).map (·, h)) t18 true) <|
 X (.call 74 [t18]) (fun t19 h =>
 rdK (binV P .add 3 3 t13 t19 h) h fun t20 h =>
 rdK (binC P .gtr 3 3 t20 (.int .i64 1048576) h) h fun t21 h =>
 condK t21
 (f43_j5 X L K ((h.bump 1)) t1 ((.int .i64 7)) undef undef undef undef undef ((.int .i64 0)))
 (f43_j5 X L K h t1 ((.int .i64 0)) undef undef undef undef undef ((.int .i64 0)))) h) h)) (((h.bump 1).bump 2))
theorem f43_eq (X : Caller) (L : Looper) (K : Value → AHeap → Prop) (h : AHeap) (t0 t1 : Value) : aJob P X L (.call 43 [t0, t1]) K h = f43 X L K h t0 t1 := by kernel_rfl
/-- cubbyhole/cache.unless -/
def f44 (X : Caller) (L : Looper) (K : Value → AHeap → Prop) (h : AHeap) (t0 t1 : Value) : Prop :=
 condK t0
 (K (.int .i64 0) ((((h.bump 1).bump 1).bump 1)))
 (K t1 ((((h.bump 1).bump 1).bump 2)))
theorem f44_eq (X : Caller) (L : Looper) (K : Value → AHeap → Prop) (h : AHeap) (t0 t1 : Value) : aJob P X L (.call 44 [t0, t1]) K h = f44 X L K h t0 t1 := by kernel_rfl
/-- (*cubbyhole/birth.Counter).Last -/
def f45 (X : Caller) (L : Looper) (K : Value → AHeap → Prop) (h : AHeap) (t0 : Value) : Prop :=
 X (.call 76 [t0]) (fun t4 h =>
 condK t4
 (K (.int .u64 0) ((h.bump 1)))
 (opK ((fun h : AHeap => nilV t0 h) ((h.bump 5))) fun t6 h =>
 rdK (fAddr 1 t6) h fun t7 h =>
 rdK (ld1 t7 h) h fun t8 h =>
 K t8 h)) (((h.bump 1).bump 2))
theorem f45_eq (X : Caller) (L : Looper) (K : Value → AHeap → Prop) (h : AHeap) (t0 : Value) : aJob P X L (.call 45 [t0]) K h = f45 X L K h t0 := by kernel_rfl
/-- (*cubbyhole/dict.Dict).Find -/
def f46 (X : Caller) (L : Looper) (K : Value → AHeap → Prop) (h : AHeap) (t0 t1 : Value) : Prop :=
 regK 4 h fun b h =>
 opK (boxV t0 (b + 0) h) fun t2 h =>
 opK (boxV t1 (b + 1) h) fun t3 h =>
 rdK ((fun h : AHeap => ld1 t2 h) ((h.bump 2))) ((h.bump 2)) fun t6 h =>
 X (.call 77 [t6]) (fun t7 h =>
 condK t7
 (K (.tuple #[(.int .u32 0), (.int .i64 1)]) ((h.bump 2)))
 (rdK ((fun h : AHeap => ld1 t2 h) ((h.bump 16))) ((h.bump 16)) fun t8 h =>
 opK (nilV t8 h) fun t9 h =>
 rdK (fAddr 3 t9) h fun t10 h =>
 rdK (ld1 t10 h) h fun t11 h =>
 rdK (ld1 t2 h) h fun t12 h =>
 opK (nilV t12 h) fun t13 h =>
 rdK (fAddr 1 t13) h fun t14 h =>
 rdK (ldN 2 t14 h) h fun t15 h =>
 rdK (ld1 t3 h) h fun t16 h =>
 X (.call 79 [t15, t16]) (fun t17 h =>
 chkK (chkR ((ld1 t10 h).map (·, h)) t11 (chkR ((ld1 t2 h).map (·, h)) t8 true)) <|
 X (.call 78 [t11, t17, (.func (.func 80) #[] #[t2, t3])]) (fun t19 h =>
 opK (extV 0 t19 h) fun t20 h =>
 opK (extV 1 t19 h) fun t21 h =>
 K (.tuple #[t20, t21]) h) h) h)) h
theorem f46_eq (X : Caller) (L : Looper) (K : Value → AHeap → Prop) (h : AHeap) (t0 t1 : Value) : aJob P X L (.call 46 [t0, t1]) K h = f46 X L K h t0 t1 := by kernel_rfl
/-- (*cubbyhole/dict.Dict).Get -/
def f47 (X : Caller) (L : Looper) (K : Value → AHeap → Prop) (h : AHeap) (t0 t1 : Value) : Prop :=
 regK 2 h fun b h =>
 opK (newV [.string ⟨#[]⟩, .slice none 0 0, .int .u64 0, .int .u64 0] (b + 0) h) fun t4 h =>
 X (.call 77 [t0]) (fun t7 h =>
 condK t7
 (rdK ((fun h : AHeap => buildA P 44 []) ((h.bump 3))) ((h.bump 3)) fun t8 h =>
  stK (stV 4 t4 t8 h) fun h =>
  retK (consR (ldN 4 t4 h) (consR (some (.int .i64 1)) (some []))) K h)
 (opK ((fun h : AHeap => nilV t0 h) ((h.bump 11))) fun t10 h =>
 rdK (fAddr 0 t10) h fun t11 h =>
 rdK (fAddr 0 t11) h fun t12 h =>
 rdK (ld1 t12 h) h fun t13 h =>
 X (.call 82 [t13, t1]) (fun t15 h =>
 opK (extV 0 t15 h) fun t16 h =>
 opK (extV 1 t15 h) fun t17 h =>
 stK (stV 4 t4 t16 h) fun h =>
 retK (consR (ldN 4 t4 h) (consR (some t17) (some []))) K h) h)) ((h.bump 2))
theorem f47_eq (X : Caller) (L : Looper) (K : Value → AHeap → Prop) (h : AHeap) (t0 t1 : Value) : aJob P X L (.call 47 [t0, t1]) K h = f47 X L K h t0 t1 := by kernel_rfl
/-- cubbyhole/tick.Due -/
def f48 (X : Caller) (L : Looper) (K : Value → AHeap → Prop) (h : AHeap) (t0 t1 : Value) : Prop :=
 rdK ((fun h : AHeap => binC P .neq 38 38 t0 (.int .u64 18446744073709551615) h) (((h.bump 1).bump 8))) (((h.bump 1).bump 8)) fun t6 h =>
 gopK (wantV t6 true) h (some (t0, h)) fun t8 h =>
 gopK (wantV t6 true) h (some (t1, h)) fun t9 h =>
 gopK (wantV t6 true) h ((binV P .leq 38 38 t8 t9 h).map (·, h)) fun t10 h =>
 opK (pickV t6 t10 (.bool false) h) fun t11 h =>
 K t11 h
theorem f48_eq (X : Caller) (L : Looper) (K : Value → AHeap → Prop) (h : AHeap) (t0 t1 : Value) : aJob P X L (.call 48 [t0, t1]) K h = f48 X L K h t0 t1 := by kernel_rfl
/-- cubbyhole/tick.Effective -/
def f49 (X : Caller) (L : Looper) (K : Value → AHeap → Prop) (h : AHeap) (t0 t1 : Value) : Prop :=
 regK 4 ((h.bump 1)) fun b h =>
 opK (builtinV P .max [38, 38] [t0, t1] (b + 2) h) fun t7 h =>
 K t7 h
theorem f49_eq (X : Caller) (L : Looper) (K : Value → AHeap → Prop) (h : AHeap) (t0 t1 : Value) : aJob P X L (.call 49 [t0, t1]) K h = f49 X L K h t0 t1 := by kernel_rfl
def f50_l3 (X : Caller) (L : Looper) (a : AAct) (K : ActPost) (h : AHeap) : Prop :=
 rdK ((fun h : AHeap => binV P .lss 3 3 (a.env 30) (a.env 29) h) ((h.bump 1))) ((h.bump 1)) fun t31 h =>
 condK t31
 (regK 4 h fun b_1 h =>
 rdK (ixS 3 (a.env 28) (a.env 30)) h fun t32 h =>
 rdK (ldN 3 t32 h) h fun t33 h =>
 opK (newV [.int .u32 0, .int .u64 0, .int .u64 0] (b_1 + 2) h) fun t8 h =>
 stK (stV 3 t8 t33 h) fun h =>
 rdK ((fun h : AHeap => fAddr 0 t8) ((h.bump 4))) ((h.bump 4)) fun t35 h =>
 rdK (ld1 t35 h) h fun t36 h =>
 callV X (a.env 6) [t36] (fun t37 h =>
 rdK ((fun h : AHeap => binC P .add 3 3 (a.env 30) (.int .i64 1) h) ((h.bump 2))) ((h.bump 2)) fun t38 h =>
 K .normal ⟨(upds a.env [(31, t31), (32, t32), (33, t33), (8, t8), (34, (a.env 6)), (35, t35), (36, t36), (37, t37), (38, t38), (30, t38)]), a.defers⟩ h) h)
 (K (.exit 0) ⟨(upds a.env [(31, t31)]), a.defers⟩ h)
def f50_l15 (X : Caller) (L : Looper) (a : AAct) (K : ActPost) (h : AHeap) : Prop :=
 rdK ((fun h : AHeap => binV P .lss 3 3 (a.env 87) (a.env 86) h) ((h.bump 1))) ((h.bump 1)) fun t88 h =>
 condK t88
 (rdK ((fun h : AHeap => ixS 1 (a.env 85) (a.env 87)) ((h.bump 3))) ((h.bump 3)) fun t89 h =>
 rdK (ld1 t89 h) h fun t90 h =>
 callV X (a.env 14) [t90] (fun t93 h =>
 rdK ((fun h : AHeap => binC P .add 3 3 (a.env 87) (.int .i64 1) h) ((h.bump 2))) ((h.bump 2)) fun t94 h =>
 K .normal ⟨(upds a.env [(88, t88), (89, t89), (90, t90), (16, t90), (91, (a.env 14)), (92, t90), (93, t93), (94, t94), (87, t94)]), a.defers⟩ h) ((h.bump 3)))
 (K (.exit 2) ⟨(upds a.env [(88, t88)]), a.defers⟩ h)
def f50_j9 (X : Caller) (L : Looper) (K : Value → AHeap → Prop) (h : AHeap) (a : AAct) : Prop :=
 opK ((fun h : AHeap => nilV (a.env 0) h) ((h.bump 13))) fun t97 h =>
 rdK (fAddr 0 t97) h fun t98 h =>
 rdK (fAddr 0 t98) h fun t99 h =>
 rdK (ld1 t99 h) h fun t100 h =>
 X (.call 88 [t100]) (fun t101 h =>
 opK (extV 0 t101 h) fun t102 h =>
 opK (extV 1 t101 h) fun t103 h =>
 opK (extV 2 t101 h) fun t104 h =>
 opK ((fun h : AHeap => nilV (a.env 0) h) ((h.bump 8))) fun t107 h =>
 rdK (fAddr 0 t107) h fun t108 h =>
 rdK (fAddr 0 t108) h fun t109 h =>
 rdK (ld1 t109 h) h fun t110 h =>
 X (.call 74 [t110]) (fun t111 h =>
 X (.call 89 [t102, t111]) (fun t112 h =>
 condK t112
 (X (.call 90 [(a.env 0)]) (fun t114 h =>
  leaveA P X Tryz.f50 ⟨(upds a.env [(96, (a.env 0)), (97, t97), (98, t98), (99, t99), (100, t100), (101, t101), (95, t101), (102, t102), (103, t103), (104, t104), (17, t102), (18, t103), (19, t104), (105, t102), (106, (a.env 0)), (107, t107), (108, t108), (109, t109), (110, t110), (111, t111), (112, t112), (113, (a.env 0)), (114, t114)]), a.defers⟩ K a.defers h) ((h.bump 2)))
 (leaveA P X Tryz.f50 ⟨(upds a.env [(96, (a.env 0)), (97, t97), (98, t98), (99, t99), (100, t100), (101, t101), (95, t101), (102, t102), (103, t103), (104, t104), (17, t102), (18, t103), (19, t104), (105, t102), (106, (a.env 0)), (107, t107), (108, t108), (109, t109), (110, t110), (111, t111), (112, t112)]), a.defers⟩ K a.defers h)) h) h) h
def f50_j1 (X : Caller) (L : Looper) (K : Value → AHeap → Prop) (h : AHeap) (a : AAct) : Prop :=
 callV X (a.env 2) [] (fun t40 h =>
 opK ((fun h : AHeap => nilV (a.env 0) h) ((h.bump 11))) fun t43 h =>
 rdK (fAddr 0 t43) h fun t44 h =>
 rdK (fAddr 3 t44) h fun t45 h =>
 rdK (ld1 t45 h) h fun t46 h =>
 X (.call 85 [t46]) (fun t47 h =>
 opK (extV 0 t47 h) fun t48 h =>
 opK (extV 1 t47 h) fun t49 h =>
 rdK ((fun h : AHeap => binC P .gtr 3 3 t48 (.int .i64 0) h) ((h.bump 6))) ((h.bump 6)) fun t51 h =>
 gopK (wantV t51 false) h (some (t49, h)) fun t53 h =>
 gopK (wantV t51 false) h ((binC P .gtr 3 3 t53 (.int .i64 0) h).map (·, h)) fun t54 h =>
 opK (pickV t51 (.bool true) t54 h) fun t55 h =>
 condK t55
 (opK ((fun h : AHeap => nilV (a.env 0) h) ((h.bump 29))) fun t58 h =>
  rdK (fAddr 0 t58) h fun t59 h =>
  rdK (fAddr 2 t59) h fun t60 h =>
  rdK (ld1 t60 h) h fun t61 h =>
  opK (nilV (a.env 0) h) fun t64 h =>
  rdK (fAddr 0 t64) h fun t65 h =>
  rdK (fAddr 2 t65) h fun t66 h =>
  rdK (ld1 t66 h) h fun t67 h =>
  opK (nilV (a.env 0) h) fun t71 h =>
  rdK (fAddr 6 t71) h fun t72 h =>
  rdK (fAddr 0 t72) h fun t73 h =>
  rdK (ld1 t73 h) h fun t74 h =>
  opK (nilV (a.env 0) h) fun t76 h =>
  rdK (fAddr 6 t76) h fun t77 h =>
  rdK (fAddr 1 t77) h fun t78 h =>
  rdK (ld1 t78 h) h fun t79 h =>
  X (.call 87 [t61, (.int .i64 0)]) (fun t62 h =>
  chkK (chkR ((ld1 t78 h).map (·, h)) t79 (chkR ((ld1 t73 h).map (·, h)) t74 (chkR ((ld1 t66 h).map (·, h)) t67 true))) <|
  X (.call 87 [t67, (.int .i64 1)]) (fun t68 h =>
  chkK (chkR ((ld1 t78 h).map (·, h)) t79 (chkR ((ld1 t73 h).map (·, h)) t74 true)) <|
  X (.call 86 [t62, t68, t40, t74, t79]) (fun t80 h =>
  opK (extV 0 t80 h) fun t81 h =>
  opK (extV 1 t80 h) fun t82 h =>
  X (.call 83 [(a.env 0), (.int .i64 2)]) (fun t84 h =>
  regK 3 h fun b_2 h =>
  opK (builtinV P .len [151] [t81] (b_2 + 1) h) fun t86 h =>
  L (f50_l15 X L) ⟨(upds a.env [(39, (a.env 2)), (40, t40), (9, t40), (42, (a.env 0)), (43, t43), (44, t44), (45, t45), (46, t46), (47, t47), (41, t47), (48, t48), (49, t49), (10, t48), (11, t49), (50, t48), (51, t51), (52, t51), (53, t53), (54, t54), (55, t55), (57, (a.env 0)), (58, t58), (59, t59), (60, t60), (61, t61), (63, (a.env 0)), (64, t64), (65, t65), (66, t66), (67, t67), (69, t40), (70, (a.env 0)), (71, t71), (72, t72), (73, t73), (74, t74), (75, (a.env 0)), (76, t76), (77, t77), (78, t78), (79, t79), (62, t62), (68, t68), (80, t80), (56, t80), (81, t81), (82, t82), (12, t81), (13, t82), (83, (a.env 0)), (84, t84), (14, t84), (85, t81), (86, t86), (87, (.int .i64 0))]), a.defers⟩ (blkX 2 (seqX (fun a h => f50_j9 X L K h a) (finX P X Tryz.f50 K))) h) ((h.bump 3))) h) h) h)
 (f50_j9 X L K h ⟨(upds a.env [(39, (a.env 2)), (40, t40), (9, t40), (42, (a.env 0)), (43, t43), (44, t44), (45, t45), (46, t46), (47, t47), (41, t47), (48, t48), (49, t49), (10, t48), (11, t49), (50, t48), (51, t51), (52, t51), (53, t53), (54, t54), (55, t55)]), a.defers⟩)) h) ((h.bump 3))
/-- (*cubbyhole/cache.Cache).run -/
def f50 (X : Caller) (L : Looper) (K : Value → AHeap → Prop) (h : AHeap) (t0 t1 t2 : Value) : Prop :=
 X (.call 83 [t0, (.int .i64 1)]) (fun t21 h =>
 regK 9 h fun b h =>
 opK (nilV t0 h) fun t23 h =>
 rdK (fAddr 0 t23) h fun t24 h =>
 rdK (fAddr 4 t24) h fun t25 h =>
 rdK (ld1 t25 h) h fun t26 h =>
 X (.call 84 [t26, t1]) (fun t28 h =>
 opK (builtinV P .len [145] [t28] (b + 7) h) fun t29 h =>
 L (f50_l3 X L) ⟨(upds (argsEnv [t0, t1, t2]) [(20, t0), (21, t21), (6, t21), (22, t0), (23, t23), (24, t24), (25, t25), (26, t26), (27, t1), (28, t28), (29, t29), (30, (.int .i64 0))]), []⟩ (blkX 0 (seqX (fun a h => f50_j1 X L K h a) (finX P X Tryz.f50 K))) h) h) ((h.bump 3))
theorem f50_eq (X : Caller) (L : Looper) (K : Value → AHeap → Prop) (h : AHeap) (t0 t1 t2 : Value) : aJob P X L (.call 50 [t0, t1, t2]) K h = f50 X L K h t0 t1 t2 := by kernel_rfl
/-- (*cubbyhole/cache.Cache).set$1 -/
def f51 (X : Caller) (L : Looper) (K : Value → AHeap → Prop) (h : AHeap) (t0 t1 t2 t3 t4 : Value) : Prop :=
 rdK ((fun h : AHeap => ld1 t0 h) (((h.bump 1).bump 12))) (((h.bump 1).bump 12)) fun t14 h =>
 opK (nilV t14 h) fun t15 h =>
 rdK (fAddr 0 t15) h fun t16 h =>
 rdK (fAddr 0 t16) h fun t17 h =>
 rdK (ld1 t17 h) h fun t18 h =>
 rdK (ld1 t1 h) h fun t19 h =>
 X (.call 46 [t18, t19]) (fun t20 h =>
 opK (extV 0 t20 h) fun t21 h =>
 opK (extV 1 t20 h) fun t22 h =>
 rdK ((fun h : AHeap => ld1 t2 h) ((h.bump 3))) ((h.bump 3)) fun t23 h =>
 callV X t23 [] (fun t24 h =>
 rdK ((fun h : AHeap => binC P .eql 31 31 t22 (.int .i64 0) h) ((h.bump 2))) ((h.bump 2)) fun t26 h =>
 condK t26
 (regK 13 h fun b h =>
  rdK (ld1 t0 h) h fun t28 h =>
  opK (nilV t28 h) fun t29 h =>
  rdK (fAddr 0 t29) h fun t30 h =>
  rdK (fAddr 0 t30) h fun t31 h =>
  rdK (ld1 t31 h) h fun t32 h =>
  X (.call 47 [t32, t21]) (fun t34 h =>
  opK (extV 0 t34 h) fun t35 h =>
  opK (extV 1 t34 h) fun t36 h =>
  opK (newV [.string ⟨#[]⟩, .slice none 0 0, .int .u64 0, .int .u64 0] (b + 10) h) fun t9 h =>
  stK (stV 4 t9 t35 h) fun h =>
  rdK ((fun h : AHeap => ld1 t0 h) ((h.bump 3))) ((h.bump 3)) fun t37 h =>
  rdK (ldN 4 t9 h) h fun t38 h =>
  X (.call 52 [t37, (.int .i64 3), t38]) (fun t39 h =>
  rdK ((fun h : AHeap => ld1 t0 h) ((h.bump 9))) ((h.bump 9)) fun t40 h =>
  opK (nilV t40 h) fun t41 h =>
  rdK (fAddr 0 t41) h fun t42 h =>
  rdK (fAddr 0 t42) h fun t43 h =>
  rdK (ld1 t43 h) h fun t44 h =>
  rdK (ld1 t3 h) h fun t46 h =>
  X (.call 53 [t44, t21, t46, t24]) (fun t48 h =>
  rdK ((fun h : AHeap => ld1 t0 h) ((h.bump 10))) ((h.bump 10)) fun t49 h =>
  opK (nilV t49 h) fun t50 h =>
  rdK (fAddr 0 t50) h fun t51 h =>
  rdK (fAddr 4 t51) h fun t52 h =>
  rdK (ld1 t52 h) h fun t53 h =>
  rdK (fAddr 3 t9) h fun t56 h =>
  rdK (ld1 t56 h) h fun t57 h =>
  X (.call 54 [t53, t21, t24, t57]) (fun t58 h =>
  rdK ((fun h : AHeap => ld1 t0 h) ((h.bump 4))) ((h.bump 4)) fun t59 h =>
  rdK (ld1 t4 h) h fun t61 h =>
  X (.call 55 [t59, t21, t61]) (fun t62 h =>
  K t21 ((h.bump 2))) h) h) h) h) h)
 (rdK ((fun h : AHeap => ld1 t0 h) ((h.bump 11))) ((h.bump 11)) fun t65 h =>
 opK (nilV t65 h) fun t66 h =>
 rdK (fAddr 0 t66) h fun t67 h =>
 rdK (fAddr 1 t67) h fun t68 h =>
 rdK (ld1 t68 h) h fun t69 h =>
 X (.call 56 [t69]) (fun t70 h =>
 opK (extV 0 t70 h) fun t71 h =>
 opK (extV 1 t70 h) fun t72 h =>
 rdK ((fun h : AHeap => ld1 t0 h) ((h.bump 15))) ((h.bump 15)) fun t74 h =>
 opK (nilV t74 h) fun t75 h =>
 rdK (fAddr 0 t75) h fun t76 h =>
 rdK (fAddr 0 t76) h fun t77 h =>
 rdK (ld1 t77 h) h fun t78 h =>
 rdK (ld1 t1 h) h fun t79 h =>
 rdK (ld1 t3 h) h fun t80 h =>
 rdK (buildA P 44 [(0, t79), (1, t80), (2, t24), (3, t71)]) h fun t83 h =>
 X (.call 57 [t78, t83]) (fun t84 h =>
 opK (extV 0 t84 h) fun t85 h =>
 opK (extV 1 t84 h) fun t86 h =>
 rdK ((fun h : AHeap => ld1 t0 h) ((h.bump 9))) ((h.bump 9)) fun t87 h =>
 opK (nilV t87 h) fun t88 h =>
 rdK (fAddr 0 t88) h fun t89 h =>
 rdK (fAddr 4 t89) h fun t90 h =>
 rdK (ld1 t90 h) h fun t91 h =>
 X (.call 54 [t91, t85, t24, t71]) (fun t95 h =>
 rdK ((fun h : AHeap => ld1 t0 h) ((h.bump 8))) ((h.bump 8)) fun t96 h =>
 opK (nilV t96 h) fun t97 h =>
 rdK (fAddr 0 t97) h fun t98 h =>
 rdK (fAddr 2 t98) h fun t99 h =>
 rdK (ld1 t99 h) h fun t100 h =>
 rdK (ld1 t4 h) h fun t102 h =>
 X (.call 58 [t100, t85, t102]) (fun t103 h =>
 rdK ((fun h : AHeap => ld1 t0 h) ((h.bump 7))) ((h.bump 7)) fun t104 h =>
 opK (nilV t104 h) fun t105 h =>
 rdK (fAddr 0 t105) h fun t106 h =>
 rdK (fAddr 3 t106) h fun t107 h =>
 rdK (ld1 t107 h) h fun t108 h =>
 rdK (ld1 t4 h) h fun t109 h =>
 X (.call 59 [t108, (.int .i64 0), t109]) (fun t110 h =>
 K t85 ((h.bump 2))) h) h) h) h) h)) h) h
theorem f51_eq (X : Caller) (L : Looper) (K : Value → AHeap → Prop) (h : AHeap) (t0 t1 t2 t3 t4 : Value) : aJob P X L (.call 51 [t0, t1, t2, t3, t4]) K h = f51 X L K h t0 t1 t2 t3 t4 := by kernel_rfl
/-- (*cubbyhole/cache.Cache).tell -/
def f52 (X : Caller) (L : Looper) (K : Value → AHeap → Prop) (h : AHeap) (t0 t1 t2 : Value) : Prop :=
 regK 1 h fun b h =>
 opK (boxV t2 (b + 0) h) fun t5 h =>
 opK ((fun h : AHeap => nilV t0 h) ((h.bump 22))) fun t7 h =>
 rdK (fAddr 0 t7) h fun t8 h =>
 rdK (fAddr 5 t8) h fun t9 h =>
 rdK (ld1 t9 h) h fun t10 h =>
 rdK (fAddr 0 t5) h fun t12 h =>
 rdK (ld1 t12 h) h fun t13 h =>
 rdK (fAddr 1 t5) h fun t14 h =>
 rdK (ld1 t14 h) h fun t15 h =>
 rdK (fAddr 3 t5) h fun t16 h =>
 rdK (ld1 t16 h) h fun t17 h =>
 rdK (fAddr 2 t5) h fun t18 h =>
 rdK (ld1 t18 h) h fun t19 h =>
 opK (nilV t0 h) fun t21 h =>
 rdK (fAddr 0 t21) h fun t22 h =>
 rdK (fAddr 4 t22) h fun t23 h =>
 rdK (ld1 t23 h) h fun t24 h =>
 X (.call 31 [t24]) (fun t25 h =>
 chkK (chkR ((ld1 t18 h).map (·, h)) t19 (chkR ((ld1 t16 h).map (·, h)) t17 (chkR ((ld1 t14 h).map (·, h)) t15 (chkR ((ld1 t12 h).map (·, h)) t13 (chkR ((ld1 t9 h).map (·, h)) t10 true))))) <|
 rdK (buildA P 161 [(0, t1), (1, t13), (2, t15), (3, t17), (4, t19), (5, t25)]) h fun t26 h =>
 X (.call 91 [t10, t26]) (fun t27 h =>
 K (.tuple #[]) h) h) h
theorem f52_eq (X : Caller) (L : Looper) (K : Value → AHeap → Prop) (h : AHeap) (t0 t1 t2 : Value) : aJob P X L (.call 52 [t0, t1, t2]) K h = f52 X L K h t0 t1 t2 := by kernel_rfl
/-- (*cubbyhole/dict.Dict).Set -/
def f53 (X : Caller) (L : Looper) (K : Value → AHeap → Prop) (h : AHeap) (t0 t1 t2 t3 : Value) : Prop :=
 X (.call 77 [t0]) (fun t10 h =>
 condK t10
 (K (.int .i64 1) ((h.bump 1)))
 (opK ((fun h : AHeap => nilV t0 h) ((h.bump 10))) fun t12 h =>
 rdK (fAddr 0 t12) h fun t13 h =>
 rdK (fAddr 0 t13) h fun t14 h =>
 rdK (ld1 t14 h) h fun t15 h =>
 X (.call 92 [t15, t1, t2, t3]) (fun t19 h =>
 K t19 h) h)) (((h.bump 1).bump 2))
theorem f53_eq (X : Caller) (L : Looper) (K : Value → AHeap → Prop) (h : AHeap) (t0 t1 t2 t3 : Value) : aJob P X L (.call 53 [t0, t1, t2, t3]) K h = f53 X L K h t0 t1 t2 t3 := by kernel_rfl
def f54_j14 (X : Caller) (L : Looper) (K : Value → AHeap → Prop) (h : AHeap) (t0 t1 t2 t3 t74 t75 t76 t73 t77 t8 : Value) : Prop :=
 rdK ((fun h : AHeap => buildA P 148 [(0, t1), (1, t2), (2, t3)]) ((h.bump 6))) ((h.bump 6)) fun t77_1 h =>
 X (.call 94 [t0, t77_1]) (fun t78 h =>
 K (.int .i64 0) ((h.bump 1))) h
/-- (*cubbyhole/due.Deadlines).Set -/
def f54 (X : Caller) (L : Looper) (K : Value → AHeap → Prop) (h : AHeap) (t0 t1 t2 t3 : Value) : Prop :=
 X (.call 60 [t0, t1]) (fun t16 h =>
 rdK ((fun h : AHeap => binC P .neq 31 31 t16 (.int .i64 0) h) ((h.bump 2))) ((h.bump 2)) fun t18 h =>
 condK t18
 (K t16 ((h.bump 2)))
 (regK 12 h fun b h =>
 opK (nilV t0 h) fun t22 h =>
 rdK (fAddr 2 t22) h fun t23 h =>
 rdK (ld1 t23 h) h fun t24 h =>
 rdK (lookupA P 111 t24 t1 true h) h fun t26 h =>
 opK (extV 0 t26 h) fun t27 h =>
 opK (extV 1 t26 h) fun t28 h =>
 opK (newV [.int .u32 0, .int .u64 0, .int .u64 0] (b + 9) h) fun t10 h =>
 stK (stV 3 t10 t27 h) fun h =>
 opK ((fun h : AHeap => nilV t0 h) ((h.bump 11))) fun t31 h =>
 rdK (fAddr 1 t31) h fun t32 h =>
 rdK (ld1 t32 h) h fun t33 h =>
 rdK (lookupA P 110 t33 t3 true h) h fun t35 h =>
 opK (extV 0 t35 h) fun t36 h =>
 opK (extV 1 t35 h) fun t37 h =>
 rdK ((fun h : AHeap => binC P .eql 27 27 t3 (.int .u64 0) h) ((h.bump 3))) ((h.bump 3)) fun t40 h =>
 condK t40
 (K (.int .i64 2) ((h.bump 1)))
 (rdK ((fun h : AHeap => binC P .neq 38 38 t2 (.int .u64 18446744073709551615) h) ((h.bump 12))) ((h.bump 12)) fun t43 h =>
  gopK (wantV t43 true) h (some (t2, h)) fun t45 h =>
  gopK (wantV t43 true) h (some (t0, h)) fun t46 h =>
  gopK (wantV t43 true) h (nilV t46 h) fun t47 h =>
  gopK (wantV t43 true) h ((fAddr 0 t47).map (·, h)) fun t48 h =>
  gopK (wantV t43 true) h ((ld1 t48 h).map (·, h)) fun t49 h =>
  gcallK (wantV t43 true) X (.call 61 [t49]) h fun t50 h =>
  gopK (wantV t43 true) h ((binV P .leq 38 38 t45 t50 h).map (·, h)) fun t51 h =>
  opK (pickV t43 t51 (.bool false) h) fun t52 h =>
  condK t52
  (K (.int .i64 3) ((h.bump 1)))
  (gopK (wantV t28 true) ((h.bump 16)) (((fun h : AHeap => fAddr 2 t10) ((h.bump 16))).map (·, (h.bump 16))) fun t56 h =>
   gopK (wantV t28 true) h ((ld1 t56 h).map (·, h)) fun t57 h =>
   gopK (wantV t28 true) h (some (t3, h)) fun t58 h =>
   gopK (wantV t28 true) h ((binV P .neq 27 27 t57 t58 h).map (·, h)) fun t59 h =>
   opK (pickV t28 t59 (.bool false) h) fun t60 h =>
   gopK (wantV t60 false) h (some (t37, h)) fun t62 h =>
   gopK (wantV t60 false) h (some (t62, h)) fun t63 h =>
   gopK (wantV t63 true) h (some (t36, h)) fun t64 h =>
   gopK (wantV t63 true) h (some (t1, h)) fun t65 h =>
   gopK (wantV t63 true) h ((binV P .neq 90 90 t64 t65 h).map (·, h)) fun t66 h =>
   gopK (wantV t60 false) h (pickV t63 t66 (.bool false) h) fun t67 h =>
   opK (pickV t60 (.bool true) t67 h) fun t68 h =>
   condK t68
   (K (.int .i64 11) ((h.bump 1)))
   (condK t28
 (rdK ((fun h : AHeap => ldN 3 t10 h) (((h.bump 1).bump 3))) (((h.bump 1).bump 3)) fun t71 h =>
  X (.call 93 [t0, t71]) (fun t72 h =>
  f54_j14 X L K h t0 t1 t2 t3 undef undef undef undef undef ((.int .i64 0))) h)
 (f54_j14 X L K ((h.bump 1)) t0 t1 t2 t3 undef undef undef undef undef ((.int .i64 0)))))))) (((h.bump 1).bump 4))
theorem f54_eq (X : Caller) (L : Looper) (K : Value → AHeap → Prop) (h : AHeap) (t0 t1 t2 t3 : Value) : aJob P X L (.call 54 [t0, t1, t2, t3]) K h = f54 X L K h t0 t1 t2 t3 := by kernel_rfl
def f55_j4 (X : Caller) (L : Looper) (K : Value → AHeap → Prop) (h : AHeap) (t0 t54 t55 t56 t57 t11 t2 t58 t59 t60 t9 t62 t63 : Value) : Prop :=
 opK ((fun h : AHeap => nilV t0 h) ((h.bump 8))) fun t55_1 h =>
 rdK (fAddr 0 t55_1) h fun t56_1 h =>
 rdK (fAddr 3 t56_1) h fun t57_1 h =>
 rdK (ld1 t57_1 h) h fun t58_1 h =>
 X (.call 59 [t58_1, t11, t2]) (fun t61 h =>
 X (.call 98 [t0, t9]) (fun t64 h =>
 K (.tuple #[]) h) ((h.bump 3))) h
/-- (*cubbyhole/cache.Cache).use -/
def f55 (X : Caller) (L : Looper) (K : Value → AHeap → Prop) (h : AHeap) (t0 t1 t2 : Value) : Prop :=
 opK ((fun h : AHeap => nilV t0 h) ((h.bump 14))) fun t16 h =>
 rdK (fAddr 0 t16) h fun t17 h =>
 rdK (fAddr 2 t17) h fun t18 h =>
 rdK (ld1 t18 h) h fun t19 h =>
 X (.call 95 [t19, t1]) (fun t21 h =>
 opK (extV 0 t21 h) fun t22 h =>
 opK (extV 1 t21 h) fun t23 h =>
 opK (extV 2 t21 h) fun t24 h =>
 opK ((fun h : AHeap => nilV t0 h) ((h.bump 13))) fun t27 h =>
 rdK (fAddr 0 t27) h fun t28 h =>
 rdK (fAddr 2 t28) h fun t29 h =>
 rdK (ld1 t29 h) h fun t30 h =>
 X (.call 96 [t30, t1, t2]) (fun t33 h =>
 opK (extV 0 t33 h) fun t34 h =>
 opK (extV 1 t33 h) fun t35 h =>
 opK ((fun h : AHeap => nilV t0 h) ((h.bump 8))) fun t37 h =>
 rdK (fAddr 0 t37) h fun t38 h =>
 rdK (fAddr 3 t38) h fun t39 h =>
 rdK (ld1 t39 h) h fun t40 h =>
 X (.call 97 [t40, t22, t23]) (fun t43 h =>
 opK ((fun h : AHeap => nilV t0 h) (((h.bump 1).bump 10))) fun t46 h =>
 rdK (fAddr 6 t46) h fun t47 h =>
 rdK (ldN 5 t47 h) h fun t48 h =>
 X (.call 64 [t48]) (fun t49 h =>
 opK (extV 0 t49 h) fun t50 h =>
 opK (extV 1 t49 h) fun t51 h =>
 rdK ((fun h : AHeap => binC P .eql 3 3 t50 (.int .i64 (-1)) h) ((h.bump 2))) ((h.bump 2)) fun t53 h =>
 condK t53
 (f55_j4 X L K ((h.bump 1)) t0 undef undef undef undef ((.int .i64 0)) t2 undef undef undef t34 undef undef)
 (f55_j4 X L K h t0 undef undef undef undef ((.int .i64 1)) t2 undef undef undef t34 undef undef)) h) h) h) h
theorem f55_eq (X : Caller) (L : Looper) (K : Value → AHeap → Prop) (h : AHeap) (t0 t1 t2 : Value) : aJob P X L (.call 55 [t0, t1, t2]) K h = f55 X L K h t0 t1 t2 := by kernel_rfl
/-- (*cubbyhole/birth.Counter).Next -/
def f56 (X : Caller) (L : Looper) (K : Value → AHeap → Prop) (h : AHeap) (t0 : Value) : Prop :=
 X (.call 76 [t0]) (fun t6 h =>
 condK t6
 (K (.tuple #[(.int .u64 0), (.int .i64 1)]) ((h.bump 2)))
 (opK ((fun h : AHeap => nilV t0 h) ((h.bump 6))) fun t9 h =>
  rdK (fAddr 1 t9) h fun t10 h =>
  rdK (ld1 t10 h) h fun t11 h =>
  rdK (binC P .eql 27 27 t11 (.int .u64 18446744073709551615) h) h fun t12 h =>
  condK t12
  (K (.tuple #[(.int .u64 0), (.int .i64 7)]) ((h.bump 2)))
  (opK ((fun h : AHeap => nilV t0 h) ((h.bump 8))) fun t14 h =>
 rdK (fAddr 1 t14) h fun t15 h =>
 rdK (ld1 t15 h) h fun t16 h =>
 rdK (binC P .add 27 27 t16 (.int .u64 1) h) h fun t17 h =>
 opK (nilV t0 h) fun t18 h =>
 rdK (fAddr 1 t18) h fun t19 h =>
 stK (stV 1 t19 t17 h) fun h =>
 opK ((fun h : AHeap => nilV t0 h) ((h.bump 6))) fun t21 h =>
 rdK (fAddr 1 t21) h fun t22 h =>
 rdK (ld1 t22 h) h fun t23 h =>
 K (.tuple #[t23, (.int .i64 0)]) h))) (((h.bump 2).bump 3))
theorem f56_eq (X : Caller) (L : Looper) (K : Value → AHeap → Prop) (h : AHeap) (t0 : Value) : aJob P X L (.call 56 [t0]) K h = f56 X L K h t0 := by kernel_rfl
/-- (*cubbyhole/dict.Dict).Insert -/
def f57 (X : Caller) (L : Looper) (K : Value → AHeap → Prop) (h : AHeap) (t0 t1 : Value) : Prop :=
 regK 3 h fun b h =>
 opK (boxV t1 (b + 0) h) fun t3 h =>
 X (.call 77 [t0]) (fun t14 h =>
 condK t14
 (K (.tuple #[(.int .u32 0), (.int .i64 1)]) ((h.bump 2)))
 (regK 15 h fun b_1 h =>
 rdK (fAddr 0 t3) h fun t16 h =>
 rdK (ld1 t16 h) h fun t17 h =>
 rdK (fAddr 1 t3) h fun t18 h =>
 rdK (ld1 t18 h) h fun t19 h =>
 rdK (fAddr 2 t3) h fun t20 h =>
 rdK (ld1 t20 h) h fun t21 h =>
 rdK (fAddr 3 t3) h fun t22 h =>
 rdK (ld1 t22 h) h fun t23 h =>
 X (.call 99 [t17, t19, t21, t23]) (fun t24 h =>
 opK (extV 0 t24 h) fun t25 h =>
 opK (extV 1 t24 h) fun t26 h =>
 opK (newV [.string ⟨#[]⟩, .slice none 0 0, .int .u64 0, .int .u64 0] (b_1 + 12) h) fun t6 h =>
 stK (stV 4 t6 t25 h) fun h =>
 rdK ((fun h : AHeap => binC P .neq 31 31 t26 (.int .i64 0) h) ((h.bump 2))) ((h.bump 2)) fun t28 h =>
 condK t28
 (K (.tuple #[(.int .u32 0), t26]) ((h.bump 3)))
 (rdK ((fun h : AHeap => fAddr 0 t3) ((h.bump 9))) ((h.bump 9)) fun t32 h =>
 rdK (ld1 t32 h) h fun t33 h =>
 X (.call 46 [t0, t33]) (fun t34 h =>
 opK (extV 0 t34 h) fun t35 h =>
 opK (extV 1 t34 h) fun t36 h =>
 rdK ((fun h : AHeap => binC P .eql 31 31 t36 (.int .i64 0) h) ((h.bump 2))) ((h.bump 2)) fun t38 h =>
 condK t38
 (K (.tuple #[(.int .u32 0), (.int .i64 11)]) ((h.bump 2)))
 (regK 8 h fun b_2 h =>
 X (.call 100 [t0]) (fun t41 h =>
 opK (extV 0 t41 h) fun t42 h =>
 opK (extV 1 t41 h) fun t43 h =>
 opK (newV [.int .i64 0, .bool false] (b_2 + 5) h) fun t10 h =>
 stK (stV 2 t10 t42 h) fun h =>
 rdK ((fun h : AHeap => binC P .neq 31 31 t43 (.int .i64 0) h) ((h.bump 9))) ((h.bump 9)) fun t45 h =>
 gopK (wantV t45 false) h (some (t0, h)) fun t47 h =>
 gopK (wantV t45 false) h (nilV t47 h) fun t48 h =>
 gopK (wantV t45 false) h ((fAddr 0 t48).map (·, h)) fun t49 h =>
 gopK (wantV t45 false) h ((ldN 1 t49 h).map (·, h)) fun t50 h =>
 gcallK (wantV t45 false) X (.call 101 [t50]) h fun t51 h =>
 opK (pickV t45 (.bool true) t51 h) fun t52 h =>
 condK t52
 (K (.tuple #[(.int .u32 0), (.int .i64 7)]) ((h.bump 2)))
 (opK ((fun h : AHeap => nilV t0 h) ((h.bump 12))) fun t55 h =>
 rdK (fAddr 0 t55) h fun t56 h =>
 rdK (fAddr 0 t56) h fun t57 h =>
 rdK (ld1 t57 h) h fun t58 h =>
 rdK (ldN 4 t6 h) h fun t59 h =>
 X (.call 102 [t58, t59]) (fun t60 h =>
 opK (extV 0 t60 h) fun t61 h =>
 opK (extV 1 t60 h) fun t62 h =>
 rdK ((fun h : AHeap => binC P .neq 31 31 t62 (.int .i64 0) h) ((h.bump 2))) ((h.bump 2)) fun t64 h =>
 condK t64
 (K (.tuple #[(.int .u32 0), t62]) ((h.bump 3)))
 (X (.call 103 [t0, t61]) (fun t69 h =>
 K (.tuple #[t61, t69]) h) ((h.bump 6)))) h)) h)) h)) h)) ((h.bump 2))
theorem f57_eq (X : Caller) (L : Looper) (K : Value → AHeap → Prop) (h : AHeap) (t0 t1 : Value) : aJob P X L (.call 57 [t0, t1]) K h = f57 X L K h t0 t1 := by kernel_rfl
/-- (*cubbyhole/segment.Segments).Add -/
def f58 (X : Caller) (L : Looper) (K : Value → AHeap → Prop) (h : AHeap) (t0 t1 t2 : Value) : Prop :=
 X (.call 104 [t0, t1, t2]) (fun t13 h =>
 rdK ((fun h : AHeap => binC P .neq 31 31 t13 (.int .i64 0) h) ((h.bump 2))) ((h.bump 2)) fun t15 h =>
 condK t15
 (K t13 ((h.bump 2)))
 (opK ((fun h : AHeap => nilV t0 h) ((h.bump 11))) fun t19 h =>
 rdK (fAddr 4 t19) h fun t20 h =>
 rdK (ld1 t20 h) h fun t21 h =>
 rdK (lookupA P 178 t21 t1 true h) h fun t23 h =>
 opK (extV 0 t23 h) fun t24 h =>
 opK (extV 1 t23 h) fun t25 h =>
 condK t25
 (K (.int .i64 11) (((h.bump 1).bump 1)))
 (X (.call 105 [t0, (.int .i64 0), t1, t2]) (fun t30 h =>
 K (.int .i64 0) ((h.bump 1))) (((h.bump 1).bump 4))))) (((h.bump 1).bump 5))
theorem f58_eq (X : Caller) (L : Looper) (K : Value → AHeap → Prop) (h : AHeap) (t0 t1 t2 : Value) : aJob P X L (.call 58 [t0, t1, t2]) K h = f58 X L K h t0 t1 t2 := by kernel_rfl
/-- (*cubbyhole/budget.Budget).Add -/
def f59 (X : Caller) (L : Looper) (K : Value → AHeap → Prop) (h : AHeap) (t0 t1 t2 : Value) : Prop :=
 X (.call 106 [t0, t1, t2]) (fun t12 h =>
 rdK ((fun h : AHeap => binC P .neq 31 31 t12 (.int .i64 0) h) ((h.bump 2))) ((h.bump 2)) fun t14 h =>
 condK t14
 (K t12 ((h.bump 2)))
 (regK 11 h fun b h =>
 opK (nilV t0 h) fun t18 h =>
 rdK (fAddr 2 t18) h fun t19 h =>
 rdK (ixR 2 2 t19 t1) h fun t20 h =>
 rdK (ldN 2 t20 h) h fun t21 h =>
 rdK (buildA P 183 [(0, (.int .i64 1)), (1, t2)]) h fun t23 h =>
 X (.call 107 [t21, t23]) (fun t24 h =>
 opK (newV [.int .i64 0, .int .i64 0] (b + 9) h) fun t8 h =>
 stK (stV 2 t8 t24 h) fun h =>
 rdK ((fun h : AHeap => ldN 2 t8 h) ((h.bump 3))) ((h.bump 3)) fun t25 h =>
 X (.call 108 [t25]) (fun t26 h =>
 rdK (unV P .not 4 t26) h fun t27 h =>
 condK t27
 (K (.int .i64 7) ((h.bump 1)))
 (rdK ((fun h : AHeap => ldN 2 t8 h) ((h.bump 7))) ((h.bump 7)) fun t30 h =>
 opK (nilV t0 h) fun t31 h =>
 rdK (fAddr 2 t31) h fun t32 h =>
 rdK (ixR 2 2 t32 t1) h fun t33 h =>
 stK (stV 2 t33 t30 h) fun h =>
 K (.int .i64 0) ((h.bump 1)))) h) h)) (((h.bump 1).bump 5))
theorem f59_eq (X : Caller) (L : Looper) (K : Value → AHeap → Prop) (h : AHeap) (t0 t1 t2 : Value) : aJob P X L (.call 59 [t0, t1, t2]) K h = f59 X L K h t0 t1 t2 := by kernel_rfl
/-- (*cubbyhole/due.Deadlines).check -/
def f60 (X : Caller) (L : Looper) (K : Value → AHeap → Prop) (h : AHeap) (t0 t1 : Value) : Prop :=
 rdK ((fun h : AHeap => binC P .eql 70 70 t0 (.pointer none) h) (((h.bump 1).bump 10))) (((h.bump 1).bump 10)) fun t7 h =>
 gopK (wantV t7 false) h (some (t0, h)) fun t9 h =>
 gopK (wantV t7 false) h (nilV t9 h) fun t10 h =>
 gopK (wantV t7 false) h ((fAddr 0 t10).map (·, h)) fun t11 h =>
 gopK (wantV t7 false) h ((ld1 t11 h).map (·, h)) fun t12 h =>
 gopK (wantV t7 false) h ((binC P .eql 109 109 t12 (.pointer none) h).map (·, h)) fun t13 h =>
 opK (pickV t7 (.bool true) t13 h) fun t14 h =>
 condK t14
 (K (.int .i64 1) ((h.bump 1)))
 (rdK ((fun h : AHeap => binC P .geq 90 90 t1 (.int .u32 4194304) h) ((h.bump 3))) ((h.bump 3)) fun t17 h =>
  condK t17
  (K (.int .i64 2) ((h.bump 1)))
  (K (.int .i64 0) ((h.bump 1))))
theorem f60_eq (X : Caller) (L : Looper) (K : Value → AHeap → Prop) (h : AHeap) (t0 t1 : Value) : aJob P X L (.call 60 [t0, t1]) K h = f60 X L K h t0 t1 := by kernel_rfl
/-- (*cubbyhole/cascade.Cascade).Now -/
def f61 (X : Caller) (L : Looper) (K : Value → AHeap → Prop) (h : AHeap) (t0 : Value) : Prop :=
 X (.call 109 [t0, (.int .u32 0)]) (fun t4 h =>
 rdK (binC P .neq 31 31 t4 (.int .i64 0) h) h fun t5 h =>
 condK t5
 (K (.int .u64 0) ((h.bump 1)))
 (opK ((fun h : AHeap => nilV t0 h) ((h.bump 5))) fun t7 h =>
 rdK (fAddr 0 t7) h fun t8 h =>
 rdK (ld1 t8 h) h fun t9 h =>
 K t9 h)) (((h.bump 1).bump 3))
theorem f61_eq (X : Caller) (L : Looper) (K : Value → AHeap → Prop) (h : AHeap) (t0 : Value) : aJob P X L (.call 61 [t0]) K h = f61 X L K h t0 := by kernel_rfl
/-- (*cubbyhole/cache.Cache).After -/
def f62 (X : Caller) (L : Looper) (K : Value → AHeap → Prop) (h : AHeap) (t0 t1 t2 : Value) : Prop :=
 regK 3 h fun b h =>
 opK (newV [.string ⟨#[]⟩, .slice none 0 0, .int .u64 0, .int .u64 0] (b + 0) h) fun t6 h =>
 X (.call 43 [t0, (.slice none 0 0)]) (fun t15 h =>
 rdK ((fun h : AHeap => binC P .neq 31 31 t15 (.int .i64 0) h) ((h.bump 2))) ((h.bump 2)) fun t17 h =>
 condK t17
 (rdK ((fun h : AHeap => buildA P 44 []) ((h.bump 5))) ((h.bump 5)) fun t18 h =>
  stK (stV 4 t6 t18 h) fun h =>
  retK (consR (ldN 4 t6 h) (consR (some (.bool false)) (consR (some t15) (some [])))) K h)
 (X (.call 50 [t0, t1, (.func (.func 110) #[] #[])]) (fun t22 h =>
 opK ((fun h : AHeap => nilV t0 h) ((h.bump 12))) fun t25 h =>
 rdK (fAddr 0 t25) h fun t26 h =>
 rdK (fAddr 0 t26) h fun t27 h =>
 rdK (ld1 t27 h) h fun t28 h =>
 X (.call 111 [t28, t2]) (fun t30 h =>
 opK (extV 0 t30 h) fun t31 h =>
 opK (extV 1 t30 h) fun t32 h =>
 rdK ((fun h : AHeap => binC P .neq 31 31 t32 (.int .i64 0) h) ((h.bump 2))) ((h.bump 2)) fun t34 h =>
 condK t34
 (rdK ((fun h : AHeap => buildA P 44 []) ((h.bump 4))) ((h.bump 4)) fun t35 h =>
  stK (stV 4 t6 t35 h) fun h =>
  retK (consR (ldN 4 t6 h) (consR (some (.bool false)) (consR (some (.int .i64 0)) (some [])))) K h)
 (regK 13 h fun b_1 h =>
 opK (nilV t0 h) fun t38 h =>
 rdK (fAddr 0 t38) h fun t39 h =>
 rdK (fAddr 0 t39) h fun t40 h =>
 rdK (ld1 t40 h) h fun t41 h =>
 X (.call 47 [t41, t31]) (fun t43 h =>
 opK (extV 0 t43 h) fun t44 h =>
 opK (extV 1 t43 h) fun t45 h =>
 opK (newV [.string ⟨#[]⟩, .slice none 0 0, .int .u64 0, .int .u64 0] (b_1 + 10) h) fun t12 h =>
 stK (stV 4 t12 t44 h) fun h =>
 rdK ((fun h : AHeap => ldN 4 t12 h) ((h.bump 4))) ((h.bump 4)) fun t46 h =>
 stK (stV 4 t6 t46 h) fun h =>
 retK (consR (ldN 4 t6 h) (consR (some (.bool true)) (consR (some (.int .i64 0)) (some [])))) K h) h)) h) ((h.bump 3)))) ((h.bump 3))
theorem f62_eq (X : Caller) (L : Looper) (K : Value → AHeap → Prop) (h : AHeap) (t0 t1 t2 : Value) : aJob P X L (.call 62 [t0, t1, t2]) K h = f62 X L K h t0 t1 t2 := by kernel_rfl
/-- cubbyhole/config.between -/
def f63 (X : Caller) (L : Looper) (K : Value → AHeap → Prop) (h : AHeap) (t0 t1 t2 : Value) : Prop :=
 rdK ((fun h : AHeap => binV P .geq 3 3 t0 t1 h) (((h.bump 1).bump 9))) (((h.bump 1).bump 9)) fun t9 h =>
 gopK (wantV t9 true) h (some (t0, h)) fun t11 h =>
 gopK (wantV t9 true) h (some (t2, h)) fun t12 h =>
 gopK (wantV t9 true) h ((binV P .leq 3 3 t11 t12 h).map (·, h)) fun t13 h =>
 opK (pickV t9 t13 (.bool false) h) fun t14 h =>
 K t14 h
theorem f63_eq (X : Caller) (L : Looper) (K : Value → AHeap → Prop) (h : AHeap) (t0 t1 t2 : Value) : aJob P X L (.call 63 [t0, t1, t2]) K h = f63 X L K h t0 t1 t2 := by kernel_rfl
/-- cubbyhole/config.Part -/
def f64 (X : Caller) (L : Looper) (K : Value → AHeap → Prop) (h : AHeap) (t0 : Value) : Prop :=
 regK 3 h fun b h =>
 opK (boxV t0 (b + 0) h) fun t1 h =>
 rdK ((fun h : AHeap => ldN 5 t1 h) ((h.bump 3))) ((h.bump 3)) fun t5 h =>
 X (.call 35 [t5]) (fun t6 h =>
 rdK ((fun h : AHeap => binC P .neq 31 31 t6 (.int .i64 0) h) ((h.bump 2))) ((h.bump 2)) fun t8 h =>
 condK t8
 (K (.tuple #[(.int .i64 0), t6]) ((h.bump 3)))
 (rdK ((fun h : AHeap => fAddr 2 t1) ((h.bump 3))) ((h.bump 3)) fun t10 h =>
 rdK (ld1 t10 h) h fun t11 h =>
 rdK (binC P .eql 3 3 t11 (.int .i64 0) h) h fun t12 h =>
 condK t12
 (K (.tuple #[(.int .i64 (-1)), (.int .i64 0)]) ((h.bump 2)))
 (rdK ((fun h : AHeap => fAddr 1 t1) ((h.bump 8))) ((h.bump 8)) fun t13 h =>
 rdK (ld1 t13 h) h fun t14 h =>
 rdK (fAddr 2 t1) h fun t15 h =>
 rdK (ld1 t15 h) h fun t16 h =>
 rdK (binV P .mul 3 3 t14 t16 h) h fun t17 h =>
 rdK (binC P .quo 3 3 t17 (.int .i64 100) h) h fun t18 h =>
 K (.tuple #[t18, (.int .i64 0)]) h))) h
theorem f64_eq (X : Caller) (L : Looper) (K : Value → AHeap → Prop) (h : AHeap) (t0 : Value) : aJob P X L (.call 64 [t0]) K h = f64 X L K h t0 := by kernel_rfl
/-- cubbyhole/segment.New -/
def f65 (X : Caller) (L : Looper) (K : Value → AHeap → Prop) (h : AHeap) (t0 : Value) : Prop :=
 rdK ((fun h : AHeap => binC P .lss 3 3 t0 (.int .i64 (-1)) h) (((h.bump 2).bump 6))) (((h.bump 2).bump 6)) fun t5 h =>
 gopK (wantV t5 false) h (some (t0, h)) fun t7 h =>
 gopK (wantV t5 false) h ((binC P .gtr 3 3 t7 (.int .i64 1099511627776) h).map (·, h)) fun t8 h =>
 opK (pickV t5 (.bool true) t8 h) fun t9 h =>
 condK t9
 (K (.tuple #[(.pointer none), (.int .i64 2)]) ((h.bump 2)))
 (regK 9 h fun b h =>
 X (.call 112 []) (fun t10 h =>
 X (.call 112 []) (fun t11 h =>
 rdK (buildA P 176 [(0, t10), (1, t11)]) h fun t12 h =>
 opK (mapV (b + 3) h) fun t13 h =>
 rdK (buildA P 180 [(0, t12), (2, t13), (3, t0)]) h fun t15 h =>
 opK (boxV t15 (b + 6) h) fun t16 h =>
 K (.tuple #[t16, (.int .i64 0)]) h) h) h)
theorem f65_eq (X : Caller) (L : Looper) (K : Value → AHeap → Prop) (h : AHeap) (t0 : Value) : aJob P X L (.call 65 [t0]) K h = f65 X L K h t0 := by kernel_rfl
/-- cubbyhole/budget.New -/
def f66 (X : Caller) (L : Looper) (K : Value → AHeap → Prop) (h : AHeap) (t0 t1 : Value) : Prop :=
 X (.call 113 [t0, t1]) (fun t8 h =>
 rdK (unV P .not 4 t8) h fun t9 h =>
 condK t9
 (K (.tuple #[(.pointer none), (.int .i64 2)]) ((h.bump 2)))
 (regK 7 h fun b h =>
 rdK (buildA P 183 [(0, t0), (1, t1)]) h fun t12 h =>
 rdK (buildA P 186 [(0, t12)]) h fun t13 h =>
 opK (boxV t13 (b + 4) h) fun t14 h =>
 K (.tuple #[t14, (.int .i64 0)]) h)) (((h.bump 2).bump 4))
theorem f66_eq (X : Caller) (L : Looper) (K : Value → AHeap → Prop) (h : AHeap) (t0 t1 : Value) : aJob P X L (.call 66 [t0, t1]) K h = f66 X L K h t0 t1 := by kernel_rfl
/-- cubbyhole/dict.New -/
def f67 (X : Caller) (L : Looper) (K : Value → AHeap → Prop) (h : AHeap) (t0 : Value) : Prop :=
 regK 2 h fun b h =>
 opK (boxV t0 (b + 0) h) fun t1 h =>
 X (.call 114 [(.int .i64 1)]) (fun t6 h =>
 opK (extV 0 t6 h) fun t7 h =>
 opK (extV 1 t6 h) fun t8 h =>
 regK 7 h fun b_1 h =>
 rdK (ldN 2 t1 h) h fun t11 h =>
 X (.call 115 []) (fun t9 h =>
 chkK (chkR ((ldN 2 t1 h).map (·, h)) t11 true) <|
 rdK (buildA P 135 [(0, t9)]) h fun t10 h =>
 rdK (buildA P 138 [(0, t10), (1, t11), (2, t7)]) h fun t13 h =>
 opK (boxV t13 (b_1 + 5) h) fun t14 h =>
 K t14 h) h) ((h.bump 6))
theorem f67_eq (X : Caller) (L : Looper) (K : Value → AHeap → Prop) (h : AHeap) (t0 : Value) : aJob P X L (.call 67 [t0]) K h = f67 X L K h t0 := by kernel_rfl
/-- cubbyhole/hash.New -/
def f68 (X : Caller) (L : Looper) (K : Value → AHeap → Prop) (h : AHeap) (t0 t1 : Value) : Prop :=
 regK 1 h fun b h =>
 opK (newV [.int .u64 0, .bool false] (b + 0) h) fun t4 h =>
 rdK ((fun h : AHeap => buildA P 124 [(0, t0), (1, t1)]) ((h.bump 4))) ((h.bump 4)) fun t7 h =>
 stK (stV 2 t4 t7 h) fun h =>
 retK (consR (ldN 2 t4 h) (some [])) K h
theorem f68_eq (X : Caller) (L : Looper) (K : Value → AHeap → Prop) (h : AHeap) (t0 t1 : Value) : aJob P X L (.call 68 [t0, t1]) K h = f68 X L K h t0 t1 := by kernel_rfl
/-- cubbyhole/birth.New -/
def f69 (X : Caller) (L : Looper) (K : Value → AHeap → Prop) (h : AHeap) (t0 : Value) : Prop :=
 regK 4 ((h.bump 1)) fun b h =>
 rdK (buildA P 132 [(0, (.bool true)), (1, t0)]) h fun t4 h =>
 opK (boxV t4 (b + 2) h) fun t5 h =>
 K t5 h
theorem f69_eq (X : Caller) (L : Looper) (K : Value → AHeap → Prop) (h : AHeap) (t0 : Value) : aJob P X L (.call 69 [t0]) K h = f69 X L K h t0 := by kernel_rfl
/-- cubbyhole/due.New -/
def f70 (X : Caller) (L : Looper) (K : Value → AHeap → Prop) (h : AHeap) (t0 : Value) : Prop :=
 regK 7 ((h.bump 1)) fun b h =>
 X (.call 116 [t0]) (fun t4 h =>
 opK (mapV (b + 2) h) fun t5 h =>
 opK (mapV (b + 3) h) fun t6 h =>
 rdK (buildA P 113 [(0, t4), (1, t5), (2, t6)]) h fun t7 h =>
 opK (boxV t7 (b + 5) h) fun t8 h =>
 K t8 h) h
theorem f70_eq (X : Caller) (L : Looper) (K : Value → AHeap → Prop) (h : AHeap) (t0 : Value) : aJob P X L (.call 70 [t0]) K h = f70 X L K h t0 := by kernel_rfl
/-- cubbyhole/event.New -/
def f71 (X : Caller) (L : Looper) (K : Value → AHeap → Prop) (h : AHeap) : Prop :=
 regK 3 ((h.bump 1)) fun b h =>
 rdK (buildA P 204 [(3, (.bool true))]) h fun t1 h =>
 opK (boxV t1 (b + 1) h) fun t2 h =>
 K t2 h
theorem f71_eq (X : Caller) (L : Looper) (K : Value → AHeap → Prop) (h : AHeap) : aJob P X L (.call 71 []) K h = f71 X L K h  := by kernel_rfl
/-- cubbyhole/entry.check -/
def f72 (X : Caller) (L : Looper) (K : Value → AHeap → Prop) (h : AHeap) (t0 t1 t2 : Value) : Prop :=
 regK 15 ((h.bump 1)) fun b h =>
 X (.call 118 [t0]) (fun t8 h =>
 rdK (unV P .not 4 t8) h fun t9 h =>
 gopK (wantV t9 false) h (some (t2, h)) fun t11 h =>
 gopK (wantV t9 false) h ((binC P .eql 27 27 t11 (.int .u64 0) h).map (·, h)) fun t12 h =>
 opK (pickV t9 (.bool true) t12 h) fun t13 h =>
 rdK (buildA P 208 [(0, t13), (1, (.int .i64 2))]) h fun t14 h =>
 opK (builtinV P .len [42] [t1] (b + 9) h) fun t16 h =>
 rdK (binC P .gtr 3 3 t16 (.int .i64 65536) h) h fun t17 h =>
 rdK (buildA P 208 [(0, t17), (1, (.int .i64 5))]) h fun t18 h =>
 opK (bsliceV P 270 2 [(0, t14), (1, t18)] (b + 12) h) fun t19 h =>
 X (.call 117 [t19]) (fun t20 h =>
 K t20 h) h) h
theorem f72_eq (X : Caller) (L : Looper) (K : Value → AHeap → Prop) (h : AHeap) (t0 t1 t2 : Value) : aJob P X L (.call 72 [t0, t1, t2]) K h = f72 X L K h t0 t1 t2 := by kernel_rfl
/-- (*cubbyhole/event.Stream).Len -/
def f73 (X : Caller) (L : Looper) (K : Value → AHeap → Prop) (h : AHeap) (t0 : Value) : Prop :=
 X (.call 119 [t0]) (fun t4 h =>
 condK t4
 (K (.int .i64 0) ((h.bump 1)))
 (opK ((fun h : AHeap => nilV t0 h) ((h.bump 6))) fun t6 h =>
 rdK (fAddr 2 t6) h fun t7 h =>
 rdK (fAddr 6 t7) h fun t8 h =>
 rdK (ld1 t8 h) h fun t9 h =>
 K t9 h)) (((h.bump 1).bump 2))
theorem f73_eq (X : Caller) (L : Looper) (K : Value → AHeap → Prop) (h : AHeap) (t0 : Value) : aJob P X L (.call 73 [t0]) K h = f73 X L K h t0 := by kernel_rfl
/-- (*cubbyhole/dict.Dict).Len -/
def f74 (X : Caller) (L : Looper) (K : Value → AHeap → Prop) (h : AHeap) (t0 : Value) : Prop :=
 X (.call 77 [t0]) (fun t4 h =>
 condK t4
 (K (.int .i64 0) ((h.bump 1)))
 (opK ((fun h : AHeap => nilV t0 h) ((h.bump 7))) fun t6 h =>
 rdK (fAddr 0 t6) h fun t7 h =>
 rdK (fAddr 0 t7) h fun t8 h =>
 rdK (ld1 t8 h) h fun t9 h =>
 X (.call 120 [t9]) (fun t10 h =>
 K t10 h) h)) (((h.bump 1).bump 2))
theorem f74_eq (X : Caller) (L : Looper) (K : Value → AHeap → Prop) (h : AHeap) (t0 : Value) : aJob P X L (.call 74 [t0]) K h = f74 X L K h t0 := by kernel_rfl
def f75_l3 (X : Caller) (L : Looper) (a : AAct) (K : ActPost) (h : AHeap) : Prop :=
 rdK ((fun h : AHeap => binV P .lss 3 3 (a.env 7) (a.env 6) h) ((h.bump 1))) ((h.bump 1)) fun t8 h =>
 condK t8
 (rdK ((fun h : AHeap => ixS 1 (a.env 5) (a.env 7)) ((h.bump 3))) ((h.bump 3)) fun t9 h =>
 rdK (ld1 t9 h) h fun t10 h =>
 rdK ((fun h : AHeap => binC P .neq 31 31 t10 (.int .i64 0) h) ((h.bump 2))) ((h.bump 2)) fun t12 h =>
 condK t12
 (K .ret ⟨(upds a.env [(8, t8), (9, t9), (10, t10), (4, t10), (11, t10), (12, t12), (13, t10), (2, t10)]), a.defers⟩ ((h.bump 2)))
 (rdK ((fun h : AHeap => binC P .add 3 3 (a.env 7) (.int .i64 1) h) ((h.bump 2))) ((h.bump 2)) fun t14 h =>
 K .normal ⟨(upds a.env [(8, t8), (9, t9), (10, t10), (4, t10), (11, t10), (12, t12), (14, t14), (7, t14)]), a.defers⟩ h))
 (K (.exit 0) ⟨(upds a.env [(8, t8)]), a.defers⟩ h)
def f75_j1 (X : Caller) (L : Looper) (K : Value → AHeap → Prop) (h : AHeap) (a : AAct) : Prop :=
 leaveA P X Tryz.f75 ⟨(upds a.env [(2, (.int .i64 0))]), a.defers⟩ K a.defers ((h.bump 1))
/-- cubbyhole/cache.first -/
def f75 (X : Caller) (L : Looper) (K : Value → AHeap → Prop) (h : AHeap) (t0 : Value) : Prop :=
 regK 3 ((h.bump 1)) fun b h =>
 opK (builtinV P .len [130] [t0] (b + 1) h) fun t6 h =>
 L (f75_l3 X L) ⟨(upds (argsEnv [t0]) [(2, (.int .i64 0)), (5, t0), (6, t6), (7, (.int .i64 0))]), []⟩ (blkX 0 (seqX (fun a h => f75_j1 X L K h a) (finX P X Tryz.f75 K))) h
theorem f75_eq (X : Caller) (L : Looper) (K : Value → AHeap → Prop) (h : AHeap) (t0 : Value) : aJob P X L (.call 75 [t0]) K h = f75 X L K h t0 := by kernel_rfl
/-- (*cubbyhole/birth.Counter).zero -/
def f76 (X : Caller) (L : Looper) (K : Value → AHeap → Prop) (h : AHeap) (t0 : Value) : Prop :=
 rdK ((fun h : AHeap => binC P .eql 67 67 t0 (.pointer none) h) (((h.bump 1).bump 10))) (((h.bump 1).bump 10)) fun t4 h =>
 gopK (wantV t4 false) h (some (t0, h)) fun t6 h =>
 gopK (wantV t4 false) h (nilV t6 h) fun t7 h =>
 gopK (wantV t4 false) h ((fAddr 0 t7).map (·, h)) fun t8 h =>
 gopK (wantV t4 false) h ((ld1 t8 h).map (·, h)) fun t9 h =>
 gopK (wantV t4 false) h ((unV P .not 4 t9).map (·, h)) fun t10 h =>
 opK (pickV t4 (.bool true) t10 h) fun t11 h =>
 K t11 h
theorem f76_eq (X : Caller) (L : Looper) (K : Value → AHeap → Prop) (h : AHeap) (t0 : Value) : aJob P X L (.call 76 [t0]) K h = f76 X L K h t0 := by kernel_rfl
/-- (*cubbyhole/dict.Dict).zero -/
def f77 (X : Caller) (L : Looper) (K : Value → AHeap → Prop) (h : AHeap) (t0 : Value) : Prop :=
 rdK ((fun h : AHeap => binC P .eql 66 66 t0 (.pointer none) h) (((h.bump 1).bump 10))) (((h.bump 1).bump 10)) fun t4 h =>
 gopK (wantV t4 false) h (some (t0, h)) fun t6 h =>
 gopK (wantV t4 false) h (nilV t6 h) fun t7 h =>
 gopK (wantV t4 false) h ((fAddr 3 t7).map (·, h)) fun t8 h =>
 gopK (wantV t4 false) h ((ld1 t8 h).map (·, h)) fun t9 h =>
 gopK (wantV t4 false) h ((binC P .eql 136 136 t9 (.pointer none) h).map (·, h)) fun t10 h =>
 opK (pickV t4 (.bool true) t10 h) fun t11 h =>
 K t11 h
theorem f77_eq (X : Caller) (L : Looper) (K : Value → AHeap → Prop) (h : AHeap) (t0 : Value) : aJob P X L (.call 77 [t0]) K h = f77 X L K h t0 := by kernel_rfl
/-- (*cubbyhole/swiss.Index).Find -/
def f78 (X : Caller) (L : Looper) (K : Value → AHeap → Prop) (h : AHeap) (t0 t1 t2 : Value) : Prop :=
 X (.call 121 [t0]) (fun t13 h =>
 condK t13
 (K (.tuple #[(.int .u32 0), (.int .i64 1)]) ((h.bump 2)))
 (rdK ((fun h : AHeap => binC P .eql 142 142 t2 .nilFunc h) ((h.bump 3))) ((h.bump 3)) fun t16 h =>
  condK t16
  (K (.tuple #[(.int .u32 0), (.int .i64 2)]) ((h.bump 2)))
  (X (.call 122 [t0, t1, t2]) (fun t21 h =>
 opK (extV 0 t21 h) fun t22 h =>
 opK (extV 1 t21 h) fun t23 h =>
 opK (extV 2 t21 h) fun t24 h =>
 rdK ((fun h : AHeap => binC P .neq 31 31 t24 (.int .i64 0) h) ((h.bump 2))) ((h.bump 2)) fun t26 h =>
 condK t26
 (K (.tuple #[(.int .u32 0), t24]) ((h.bump 3)))
 (opK ((fun h : AHeap => nilV t22 h) ((h.bump 8))) fun t30 h =>
 rdK (fAddr 1 t30) h fun t31 h =>
 rdK (ixR 8 1 t31 t23) h fun t32 h =>
 rdK (ld1 t32 h) h fun t33 h =>
 K (.tuple #[t33, (.int .i64 0)]) h)) ((h.bump 11))))) (((h.bump 2).bump 3))
theorem f78_eq (X : Caller) (L : Looper) (K : Value → AHeap → Prop) (h : AHeap) (t0 t1 t2 : Value) : aJob P X L (.call 78 [t0, t1, t2]) K h = f78 X L K h t0 t1 t2 := by kernel_rfl
def f79_j1 (X : Caller) (L : Looper) (K : Value → AHeap → Prop) (h : AHeap) (t2 t7 t1 t8 t9 t10 t11 t4 : Value) : Prop :=
 rdK ((fun h : AHeap => fAddr 0 t2) ((h.bump 6))) ((h.bump 6)) fun t7_1 h =>
 rdK (ld1 t7_1 h) h fun t8_1 h =>
 X (.call 124 [t8_1, t1]) (fun t10_1 h =>
 X (.call 123 [t10_1]) (fun t11_1 h =>
 K t11_1 h) h) h
/-- (cubbyhole/hash.Hasher).Sum -/
def f79 (X : Caller) (L : Looper) (K : Value → AHeap → Prop) (h : AHeap) (t0 t1 : Value) : Prop :=
 regK 2 h fun b h =>
 opK (boxV t0 (b + 0) h) fun t2 h =>
 rdK ((fun h : AHeap => fAddr 1 t2) ((h.bump 2))) ((h.bump 2)) fun t5 h =>
 rdK (ld1 t5 h) h fun t6 h =>
 condK t6
 (f79_j1 X L K ((h.bump 1)) t2 undef ((.string ⟨#[]⟩)) undef undef undef undef ((.int .u64 0)))
 (f79_j1 X L K h t2 undef t1 undef undef undef undef ((.int .u64 0)))
theorem f79_eq (X : Caller) (L : Looper) (K : Value → AHeap → Prop) (h : AHeap) (t0 t1 : Value) : aJob P X L (.call 79 [t0, t1]) K h = f79 X L K h t0 t1 := by kernel_rfl
/-- (*cubbyhole/dict.Dict).Find$1 -/
def f80 (X : Caller) (L : Looper) (K : Value → AHeap → Prop) (h : AHeap) (t0 t1 t2 : Value) : Prop :=
 rdK ((fun h : AHeap => ld1 t1 h) (((h.bump 1).bump 9))) (((h.bump 1).bump 9)) fun t5 h =>
 opK (nilV t5 h) fun t6 h =>
 rdK (fAddr 0 t6) h fun t7 h =>
 rdK (ldN 1 t7 h) h fun t8 h =>
 rdK (ld1 t2 h) h fun t11 h =>
 X (.call 81 [t8, t0]) (fun t10 h =>
 chkK (chkR ((ld1 t2 h).map (·, h)) t11 true) <|
 rdK (binV P .eql 9 9 t10 t11 h) h fun t12 h =>
 K t12 h) h
theorem f80_eq (X : Caller) (L : Looper) (K : Value → AHeap → Prop) (h : AHeap) (t0 t1 t2 : Value) : aJob P X L (.call 80 [t0, t1, t2]) K h = f80 X L K h t0 t1 t2 := by kernel_rfl
/-- (cubbyhole/dict.store).key -/
def f81 (X : Caller) (L : Looper) (K : Value → AHeap → Prop) (h : AHeap) (t0 t1 : Value) : Prop :=
 regK 2 h fun b h =>
 opK (boxV t0 (b + 0) h) fun t2 h =>
 rdK ((fun h : AHeap => fAddr 0 t2) ((h.bump 9))) ((h.bump 9)) fun t8 h =>
 rdK (ld1 t8 h) h fun t9 h =>
 X (.call 125 [t9, t1]) (fun t11 h =>
 opK (extV 0 t11 h) fun t12 h =>
 opK (extV 1 t11 h) fun t13 h =>
 K t12 ((h.bump 2))) h
theorem f81_eq (X : Caller) (L : Looper) (K : Value → AHeap → Prop) (h : AHeap) (t0 t1 : Value) : aJob P X L (.call 81 [t0, t1]) K h = f81 X L K h t0 t1 := by kernel_rfl
/-- (*cubbyhole/entrylog.Log).Get -/
def f82 (X : Caller) (L : Looper) (K : Value → AHeap → Prop) (h : AHeap) (t0 t1 : Value) : Prop :=
 regK 2 h fun b h =>
 opK (newV [.string ⟨#[]⟩, .slice none 0 0, .int .u64 0, .int .u64 0] (b + 0) h) fun t4 h =>
 X (.call 126 [t0, t1]) (fun t11 h =>
 opK (extV 0 t11 h) fun t12 h =>
 opK (extV 1 t11 h) fun t13 h =>
 rdK ((fun h : AHeap => binC P .neq 31 31 t13 (.int .i64 0) h) ((h.bump 2))) ((h.bump 2)) fun t15 h =>
 condK t15
 (rdK ((fun h : AHeap => buildA P 44 []) ((h.bump 4))) ((h.bump 4)) fun t16 h =>
  stK (stV 4 t4 t16 h) fun h =>
  retK (consR (ldN 4 t4 h) (consR (some t13) (some []))) K h)
 (opK ((fun h : AHeap => nilV t12 h) ((h.bump 6))) fun t19 h =>
 rdK (ldN 4 t19 h) h fun t20 h =>
 X (.call 127 [t20]) (fun t21 h =>
 stK (stV 4 t4 t21 h) fun h =>
 retK (consR (ldN 4 t4 h) (consR (some (.int .i64 0)) (some []))) K h) h)) ((h.bump 8))
theorem f82_eq (X : Caller) (L : Looper) (K : Value → AHeap → Prop) (h : AHeap) (t0 t1 : Value) : aJob P X L (.call 82 [t0, t1]) K h = f82 X L K h t0 t1 := by kernel_rfl
end Go.Proofs.YtcoofhpdkgkjcaaGreatDoor.F
