/- The functions of the program, as shallow texts (printed by a program of this place). -/
import Derived.Test.YtcoofhpdkgkjcaaGreatDoorFW
namespace Go.Proofs.YtcoofhpdkgkjcaaGreatDoor.F
set_option linter.unusedVariables false
set_option linter.unusedSimpArgs false
open Go Go.Cub
/-- gosem.cut.init -/
def f2 (X : Caller) (L : Looper) (K : Value → AHeap → Prop) (h : AHeap) : Prop :=
 X (.call 1 []) (fun t0 h =>
 K (.tuple #[]) h) ((h.bump 1))
theorem f2_eq (X : Caller) (L : Looper) (K : Value → AHeap → Prop) (h : AHeap) : aJob P X L (.call 2 []) K h = f2 X L K h  := by kernel_rfl
def f3_j15 (X : Caller) (L : Looper) (K : ActPost) (h : AHeap) (a : AAct) : Prop :=
 X (.call 7 [(a.env 6), (a.env 8), (a.env 9)]) (fun t37 h =>
 rdK (unV P .not 4 t37) h fun t38 h =>
 condK t38
 (K .ret ⟨(upds a.env [(34, (a.env 6)), (35, (a.env 8)), (36, (a.env 9)), (37, t37), (38, t38), (4, (.bool false))]), a.defers⟩ ((h.bump 1)))
 (rdK ((fun h : AHeap => binC P .add 3 3 (a.env 7) (.int .i64 1) h) ((h.bump 3))) ((h.bump 3)) fun t30 h =>
 K .normal ⟨(upds a.env [(34, (a.env 6)), (35, (a.env 8)), (36, (a.env 9)), (37, t37), (38, t38), (29, (a.env 7)), (30, t30), (7, t30)]), a.defers⟩ h)) ((h.bump 5))
def f3_l10 (X : Caller) (L : Looper) (a : AAct) (K : ActPost) (h : AHeap) : Prop :=
 regK 4 h fun b h =>
 opK (convertA P 5 3 (a.env 0) (b + 2) h) fun t27 h =>
 rdK (binV P .lss 3 3 (a.env 7) t27 h) h fun t28 h =>
 condK t28
 (rdK ((fun h : AHeap => binC P .geq 3 3 (a.env 7) (.int .i64 64) h) (((h.bump 3).bump 2))) (((h.bump 3).bump 2)) fun t33 h =>
 condK t33
 (f3_j15 X L K ((h.bump 2)) ⟨(upds a.env [(25, (a.env 7)), (26, (a.env 0)), (27, t27), (28, t28), (31, (a.env 7)), (8, (a.env 7)), (9, (.int .i64 0)), (32, (a.env 7)), (33, t33), (8, (.int .i64 0)), (9, (.int .i64 7))]), a.defers⟩)
 (f3_j15 X L K h ⟨(upds a.env [(25, (a.env 7)), (26, (a.env 0)), (27, t27), (28, t28), (31, (a.env 7)), (8, (a.env 7)), (9, (.int .i64 0)), (32, (a.env 7)), (33, t33)]), a.defers⟩))
 (K (.exit 0) ⟨(upds a.env [(25, (a.env 7)), (26, (a.env 0)), (27, t27), (28, t28)]), a.defers⟩ h)
def f3_j8 (X : Caller) (L : Looper) (K : Value → AHeap → Prop) (h : AHeap) (a : AAct) : Prop :=
 regK 7 h fun b_1 h =>
 opK (convertA P 5 3 (a.env 1) (b_1 + 1) h) fun t40 h =>
 opK (convertA P 5 3 (a.env 0) (b_1 + 3) h) fun t42 h =>
 opK (builtinV P .min [3, 3] [t42, (.int .i64 64)] (b_1 + 4) h) fun t43 h =>
 rdK (binV P .rem 3 3 t40 t43 h) h fun t44 h =>
 regK 20 h fun b_2 h =>
 X (.call 8 [(a.env 6), t44]) (fun t47 h =>
 rdK (binC P .neq 31 31 t47 (.int .i64 0) h) h fun t48 h =>
 gopK (wantV t48 false) h (some ((a.env 6), h)) fun t50 h =>
 gopK (wantV t48 false) h (some (t44, h)) fun t51 h =>
 gcallK (wantV t48 false) X (.call 8 [t50, t51]) h fun t52 h =>
 gopK (wantV t48 false) h ((binC P .neq 31 31 t52 (.int .i64 9) h).map (·, h)) fun t53 h =>
 opK (pickV t48 (.bool true) t53 h) fun t54 h =>
 gopK (wantV t54 false) h (some ((a.env 6), h)) fun t56 h =>
 gcallK (wantV t54 false) X (.call 9 [t56]) h fun t57 h =>
 gopK (wantV t54 false) h (builtinV P .len [34] [t57] (b_2 + 13) h) fun t58 h =>
 gopK (wantV t54 false) h (some ((a.env 0), h)) fun t59 h =>
 gopK (wantV t54 false) h (convertA P 5 3 t59 (b_2 + 15) h) fun t60 h =>
 gopK (wantV t54 false) h (builtinV P .min [3, 3] [t60, (.int .i64 64)] (b_2 + 16) h) fun t61 h =>
 gopK (wantV t54 false) h ((binC P .sub 3 3 t61 (.int .i64 1) h).map (·, h)) fun t62 h =>
 gopK (wantV t54 false) h ((binV P .neq 3 3 t58 t62 h).map (·, h)) fun t63 h =>
 opK (pickV t54 (.bool true) t63 h) fun t64 h =>
 condK t64
 (leaveA P X Tryz.f3 ⟨(upds a.env [(39, (a.env 1)), (40, t40), (41, (a.env 0)), (42, t42), (43, t43), (44, t44), (10, t44), (45, (a.env 6)), (46, t44), (47, t47), (48, t48), (49, t48), (50, t50), (51, t51), (52, t52), (53, t53), (54, t54), (55, t54), (56, t56), (57, t57), (58, t58), (59, t59), (60, t60), (61, t61), (62, t62), (63, t63), (64, t64), (4, (.bool false))]), a.defers⟩ K a.defers ((h.bump 1)))
 (X (.call 7 [(a.env 6), t44, (.int .i64 0)]) (fun t67 h =>
 gcallK (wantV t67 true) X (.call 4 []) h fun t69 h =>
 opK (pickV t67 t69 (.bool false) h) fun t70 h =>
 leaveA P X Tryz.f3 ⟨(upds a.env [(39, (a.env 1)), (40, t40), (41, (a.env 0)), (42, t42), (43, t43), (44, t44), (10, t44), (45, (a.env 6)), (46, t44), (47, t47), (48, t48), (49, t48), (50, t50), (51, t51), (52, t52), (53, t53), (54, t54), (55, t54), (56, t56), (57, t57), (58, t58), (59, t59), (60, t60), (61, t61), (62, t62), (63, t63), (64, t64), (65, (a.env 6)), (66, t44), (67, t67), (68, t67), (69, t69), (70, t70), (4, t70)]), a.defers⟩ K a.defers h) ((h.bump 7)))) h
/-- cubbyhole/cubbyholelaw25.CursorFull -/
def f3 (X : Caller) (L : Looper) (K : Value → AHeap → Prop) (h : AHeap) (t0 t1 : Value) : Prop :=
 rdK ((fun h : AHeap => binC P .lss 5 5 t0 (.int .u8 60) h) (((h.bump 1).bump 6))) (((h.bump 1).bump 6)) fun t12 h =>
 gopK (wantV t12 false) h (some (t0, h)) fun t14 h =>
 gopK (wantV t12 false) h ((binC P .gtr 5 5 t14 (.int .u8 70) h).map (·, h)) fun t15 h =>
 opK (pickV t12 (.bool true) t15 h) fun t16 h =>
 condK t16
 (X (.call 4 []) (fun t17 h =>
  K t17 h) ((h.bump 2)))
 (X (.call 6 []) (fun t19 h =>
 X (.call 5 [t19]) (fun t20 h =>
 opK (extV 0 t20 h) fun t21 h =>
 opK (extV 1 t20 h) fun t22 h =>
 rdK ((fun h : AHeap => binC P .eql 24 24 t22 (.pointer none) h) ((h.bump 2))) ((h.bump 2)) fun t24 h =>
 condK t24
 (K (.bool false) ((h.bump 1)))
 (L (f3_l10 X L) ⟨(upds (argsEnv [t0, t1]) [(4, (.bool false)), (11, t0), (12, t12), (13, t12), (14, t14), (15, t15), (16, t16), (19, t19), (20, t20), (18, t20), (21, t21), (22, t22), (5, t21), (6, t22), (23, t22), (24, t24), (7, (.int .i64 0))]), []⟩ (blkX 0 (seqX (fun a h => f3_j8 X L K h a) (finX P X Tryz.f3 K))) ((h.bump 1)))) h) ((h.bump 7)))
theorem f3_eq (X : Caller) (L : Looper) (K : Value → AHeap → Prop) (h : AHeap) (t0 t1 : Value) : aJob P X L (.call 3 [t0, t1]) K h = f3 X L K h t0 t1 := by kernel_rfl
/-- cubbyhole/cubbyholelaw25.known -/
def f4 (X : Caller) (L : Looper) (K : Value → AHeap → Prop) (h : AHeap) : Prop :=
 X (.call 6 []) (fun t4 h =>
 X (.call 5 [t4]) (fun t5 h =>
 opK (extV 0 t5 h) fun t6 h =>
 opK (extV 1 t5 h) fun t7 h =>
 rdK ((fun h : AHeap => binC P .eql 24 24 t7 (.pointer none) h) ((h.bump 17))) ((h.bump 17)) fun t9 h =>
 gopK (wantV t9 false) h (some (t6, h)) fun t11 h =>
 gcallK (wantV t9 false) X (.call 10 [t11, (.int .u64 5), (.string ⟨#[97]⟩), (.slice none 0 0)]) h fun t12 h =>
 gopK (wantV t9 false) h ((binC P .neq 31 31 t12 (.int .i64 0) h).map (·, h)) fun t13 h =>
 opK (pickV t9 (.bool true) t13 h) fun t14 h =>
 gopK (wantV t14 false) h (some (t6, h)) fun t16 h =>
 gcallK (wantV t14 false) X (.call 11 [t16, (.int .u64 5), (.string ⟨#[98]⟩), (.slice none 0 0), (.int .u64 4)]) h fun t17 h =>
 gopK (wantV t14 false) h ((binC P .neq 31 31 t17 (.int .i64 0) h).map (·, h)) fun t18 h =>
 opK (pickV t14 (.bool true) t18 h) fun t19 h =>
 gopK (wantV t19 false) h (some (t6, h)) fun t21 h =>
 gcallK (wantV t19 false) X (.call 10 [t21, (.int .u64 5), (.string ⟨#[99]⟩), (.slice none 0 0)]) h fun t22 h =>
 gopK (wantV t19 false) h ((binC P .neq 31 31 t22 (.int .i64 0) h).map (·, h)) fun t23 h =>
 opK (pickV t19 (.bool true) t23 h) fun t24 h =>
 condK t24
 (K (.bool false) ((h.bump 1)))
 (X (.call 7 [t7, (.int .i64 0), (.int .i64 0)]) (fun t26 h =>
 rdK (unV P .not 4 t26) h fun t27 h =>
 gopK (wantV t27 false) h (some (t7, h)) fun t29 h =>
 gcallK (wantV t27 false) X (.call 7 [t29, (.int .i64 1), (.int .i64 0)]) h fun t30 h =>
 gopK (wantV t27 false) h ((unV P .not 4 t30).map (·, h)) fun t31 h =>
 opK (pickV t27 (.bool true) t31 h) fun t32 h =>
 gopK (wantV t32 false) h (some (t7, h)) fun t34 h =>
 gcallK (wantV t32 false) X (.call 12 [t34, (.int .u64 5), (.int .i64 0), (.string ⟨#[97]⟩)]) h fun t35 h =>
 gopK (wantV t32 false) h ((unV P .not 4 t35).map (·, h)) fun t36 h =>
 opK (pickV t32 (.bool true) t36 h) fun t37 h =>
 gopK (wantV t37 false) h (some (t7, h)) fun t39 h =>
 gcallK (wantV t37 false) X (.call 12 [t39, (.int .u64 9), (.int .i64 0), (.string ⟨#[99]⟩)]) h fun t40 h =>
 gopK (wantV t37 false) h ((unV P .not 4 t40).map (·, h)) fun t41 h =>
 opK (pickV t37 (.bool true) t41 h) fun t42 h =>
 gopK (wantV t42 false) h (some (t7, h)) fun t44 h =>
 gopK (wantV t42 false) h ((buildA P 44 []).map (·, h)) fun t45 h =>
 gcallK (wantV t42 false) X (.call 13 [t44, (.int .u64 9), (.int .i64 0), t45, (.int .i64 14)]) h fun t46 h =>
 gopK (wantV t42 false) h ((unV P .not 4 t46).map (·, h)) fun t47 h =>
 opK (pickV t42 (.bool true) t47 h) fun t48 h =>
 gopK (wantV t48 false) h (some (t7, h)) fun t50 h =>
 gcallK (wantV t48 false) X (.call 14 [t50, (.int .i64 0), (.int .u64 3), (.int .i64 0)]) h fun t51 h =>
 gopK (wantV t48 false) h ((unV P .not 4 t51).map (·, h)) fun t52 h =>
 opK (pickV t48 (.bool true) t52 h) fun t53 h =>
 gopK (wantV t53 false) h (some (t6, h)) fun t55 h =>
 gcallK (wantV t53 false) X (.call 10 [t55, (.int .u64 9), (.string ⟨#[100]⟩), (.slice none 0 0)]) h fun t56 h =>
 gopK (wantV t53 false) h ((binC P .neq 31 31 t56 (.int .i64 0) h).map (·, h)) fun t57 h =>
 opK (pickV t53 (.bool true) t57 h) fun t58 h =>
 condK t58
 (K (.bool false) ((h.bump 1)))
 (X (.call 12 [t7, (.int .u64 9), (.int .i64 0), (.string ⟨#[100]⟩)]) (fun t60 h =>
 rdK (unV P .not 4 t60) h fun t61 h =>
 gopK (wantV t61 false) h (some (t7, h)) fun t63 h =>
 gcallK (wantV t61 false) X (.call 12 [t63, (.int .u64 9), (.int .i64 1), (.string ⟨#[97]⟩)]) h fun t64 h =>
 gopK (wantV t61 false) h ((unV P .not 4 t64).map (·, h)) fun t65 h =>
 opK (pickV t61 (.bool true) t65 h) fun t66 h =>
 gopK (wantV t66 false) h (some (t7, h)) fun t68 h =>
 gcallK (wantV t66 false) X (.call 15 [t68, (.int .i64 1), (.int .u64 3)]) h fun t69 h =>
 gopK (wantV t66 false) h ((binC P .neq 31 31 t69 (.int .i64 0) h).map (·, h)) fun t70 h =>
 opK (pickV t66 (.bool true) t70 h) fun t71 h =>
 gopK (wantV t71 false) h (some (t7, h)) fun t73 h =>
 gcallK (wantV t71 false) X (.call 12 [t73, (.int .u64 9), (.int .i64 1), (.string ⟨#[100]⟩)]) h fun t74 h =>
 gopK (wantV t71 false) h ((unV P .not 4 t74).map (·, h)) fun t75 h =>
 opK (pickV t71 (.bool true) t75 h) fun t76 h =>
 gopK (wantV t76 false) h (some (t7, h)) fun t78 h =>
 gcallK (wantV t76 false) X (.call 15 [t78, (.int .i64 2), (.int .u64 0)]) h fun t79 h =>
 gopK (wantV t76 false) h ((binC P .neq 31 31 t79 (.int .i64 9) h).map (·, h)) fun t80 h =>
 opK (pickV t76 (.bool true) t80 h) fun t81 h =>
 condK t81
 (K (.bool false) ((h.bump 1)))
 (regK 33 h fun b h =>
 X (.call 8 [t7, (.int .i64 0)]) (fun t83 h =>
 rdK (binC P .eql 31 31 t83 (.int .i64 0) h) h fun t84 h =>
 gopK (wantV t84 true) h (some (t7, h)) fun t86 h =>
 gcallK (wantV t84 true) X (.call 9 [t86]) h fun t87 h =>
 gopK (wantV t84 true) h (bsliceV P 34 1 [(0, (.int .i64 1))] (b + 6) h) fun t88 h =>
 gcallK (wantV t84 true) X (.call 16 [t87, t88]) h fun t89 h =>
 opK (pickV t84 t89 (.bool false) h) fun t90 h =>
 gopK (wantV t90 true) h (some (t7, h)) fun t92 h =>
 gcallK (wantV t90 true) X (.call 7 [t92, (.int .i64 0), (.int .i64 0)]) h fun t93 h =>
 opK (pickV t90 t93 (.bool false) h) fun t94 h =>
 gopK (wantV t94 true) h (some (t7, h)) fun t96 h =>
 gcallK (wantV t94 true) X (.call 14 [t96, (.int .i64 0), (.int .u64 0), (.int .i64 0)]) h fun t97 h =>
 opK (pickV t94 t97 (.bool false) h) fun t98 h =>
 gopK (wantV t98 true) h (some (t7, h)) fun t100 h =>
 gcallK (wantV t98 true) X (.call 8 [t100, (.int .i64 7)]) h fun t101 h =>
 gopK (wantV t98 true) h ((binC P .eql 31 31 t101 (.int .i64 9) h).map (·, h)) fun t102 h =>
 opK (pickV t98 t102 (.bool false) h) fun t103 h =>
 gopK (wantV t103 true) h (some (t7, h)) fun t105 h =>
 gopK (wantV t103 true) h ((buildA P 44 []).map (·, h)) fun t106 h =>
 gcallK (wantV t103 true) X (.call 13 [t105, (.int .u64 20), (.int .i64 7), t106, (.int .i64 9)]) h fun t107 h =>
 opK (pickV t103 t107 (.bool false) h) fun t108 h =>
 gopK (wantV t108 true) h (some (t6, h)) fun t110 h =>
 gcallK (wantV t108 true) X (.call 17 [t110]) h fun t111 h =>
 gopK (wantV t108 true) h ((binC P .eql 38 38 t111 (.int .u64 9) h).map (·, h)) fun t112 h =>
 opK (pickV t108 t112 (.bool false) h) fun t113 h =>
 K t113 h) h)) ((h.bump 23)))) ((h.bump 34)))) h) (((h.bump 1).bump 7))
/-- cubbyhole/cubbyholelaw25.made -/
def f5 (X : Caller) (L : Looper) (K : Value → AHeap → Prop) (h : AHeap) (t0 : Value) : Prop :=
 regK 3 h fun b h =>
 opK (boxV t0 (b + 0) h) fun t1 h =>
 rdK ((fun h : AHeap => ldN 5 t1 h) ((h.bump 7))) ((h.bump 7)) fun t8 h =>
 X (.call 18 [t8]) (fun t9 h =>
 opK (extV 0 t9 h) fun t10 h =>
 opK (extV 1 t9 h) fun t11 h =>
 rdK ((fun h : AHeap => binC P .eql 23 23 t10 (.pointer none) h) ((h.bump 6))) ((h.bump 6)) fun t13 h =>
 gopK (wantV t13 false) h (some (t11, h)) fun t15 h =>
 gopK (wantV t13 false) h ((binC P .neq 31 31 t15 (.int .i64 0) h).map (·, h)) fun t16 h =>
 opK (pickV t13 (.bool true) t16 h) fun t17 h =>
 condK t17
 (K (.tuple #[(.pointer none), (.pointer none)]) ((h.bump 2)))
 (X (.call 19 [t10]) (fun t20 h =>
 opK (extV 0 t20 h) fun t21 h =>
 opK (extV 1 t20 h) fun t22 h =>
 regK 18 h fun b_1 h =>
 rdK (binC P .eql 24 24 t21 (.pointer none) h) h fun t24 h =>
 gopK (wantV t24 false) h (some (t22, h)) fun t26 h =>
 gopK (wantV t24 false) h ((binC P .neq 31 31 t26 (.int .i64 0) h).map (·, h)) fun t27 h =>
 opK (pickV t24 (.bool true) t27 h) fun t28 h =>
 gopK (wantV t28 false) h (some (t21, h)) fun t30 h =>
 gcallK (wantV t28 false) X (.call 20 [t30]) h fun t31 h =>
 gopK (wantV t28 false) h (some (t10, h)) fun t32 h =>
 gopK (wantV t28 false) h ((binV P .neq 23 23 t31 t32 h).map (·, h)) fun t33 h =>
 opK (pickV t28 (.bool true) t33 h) fun t34 h =>
 gopK (wantV t34 false) h (some (t21, h)) fun t36 h =>
 gcallK (wantV t34 false) X (.call 9 [t36]) h fun t37 h =>
 gopK (wantV t34 false) h (builtinV P .len [34] [t37] (b_1 + 15) h) fun t38 h =>
 gopK (wantV t34 false) h ((binC P .neq 3 3 t38 (.int .i64 0) h).map (·, h)) fun t39 h =>
 opK (pickV t34 (.bool true) t39 h) fun t40 h =>
 condK t40
 (K (.tuple #[(.pointer none), (.pointer none)]) ((h.bump 2)))
 (K (.tuple #[t10, t21]) ((h.bump 4)))) ((h.bump 7)))) h
theorem f5_eq (X : Caller) (L : Looper) (K : Value → AHeap → Prop) (h : AHeap) (t0 : Value) : aJob P X L (.call 5 [t0]) K h = f5 X L K h t0 := by kernel_rfl
/-- cubbyhole/cubbyholeref23.Default -/
def f6 (X : Caller) (L : Looper) (K : Value → AHeap → Prop) (h : AHeap) : Prop :=
 regK 1 h fun b h =>
 opK (newV [.int .i64 0, .int .i64 0, .int .i64 0, .int .u64 0, .bool false] (b + 0) h) fun t0 h =>
 rdK ((fun h : AHeap => buildA P 29 [(0, (.int .i64 1024)), (1, (.int .i64 1048576)), (2, (.int .i64 80))]) ((h.bump 2))) ((h.bump 2)) fun t1 h =>
 stK (stV 5 t0 t1 h) fun h =>
 retK (consR (ldN 5 t0 h) (some [])) K h
theorem f6_eq (X : Caller) (L : Looper) (K : Value → AHeap → Prop) (h : AHeap) : aJob P X L (.call 6 []) K h = f6 X L K h  := by kernel_rfl
/-- cubbyhole/cubbyholelaw25.opens -/
def f7 (X : Caller) (L : Looper) (K : Value → AHeap → Prop) (h : AHeap) (t0 t1 t2 : Value) : Prop :=
 X (.call 21 [t0]) (fun t11 h =>
 opK (extV 0 t11 h) fun t12 h =>
 opK (extV 1 t11 h) fun t13 h =>
 rdK ((fun h : AHeap => binV P .eql 3 3 t12 t1 h) ((h.bump 9))) ((h.bump 9)) fun t16 h =>
 gopK (wantV t16 true) h (some (t13, h)) fun t18 h =>
 gopK (wantV t16 true) h (some (t2, h)) fun t19 h =>
 gopK (wantV t16 true) h ((binV P .eql 31 31 t18 t19 h).map (·, h)) fun t20 h =>
 opK (pickV t16 t20 (.bool false) h) fun t21 h =>
 K t21 h) (((h.bump 1).bump 7))
theorem f7_eq (X : Caller) (L : Looper) (K : Value → AHeap → Prop) (h : AHeap) (t0 t1 t2 : Value) : aJob P X L (.call 7 [t0, t1, t2]) K h = f7 X L K h t0 t1 t2 := by kernel_rfl
/-- (*cubbyhole/cursor.Cursors).Close -/
def f8 (X : Caller) (L : Looper) (K : Value → AHeap → Prop) (h : AHeap) (t0 t1 : Value) : Prop :=
 X (.call 22 [t0, t1]) (fun t8 h =>
 rdK ((fun h : AHeap => binC P .neq 31 31 t8 (.int .i64 0) h) ((h.bump 2))) ((h.bump 2)) fun t10 h =>
 condK t10
 (K t8 ((h.bump 2)))
 (opK ((fun h : AHeap => nilV t0 h) ((h.bump 10))) fun t13 h =>
 rdK (fAddr 1 t13) h fun t14 h =>
 rdK (ld1 t14 h) h fun t15 h =>
 rdK (binD P .shl 56 3 (.int .u64 1) t1 h) h fun t17 h =>
 rdK (binV P .andNot 56 56 t15 t17 h) h fun t18 h =>
 opK (nilV t0 h) fun t19 h =>
 rdK (fAddr 1 t19) h fun t20 h =>
 stK (stV 1 t20 t18 h) fun h =>
 K (.int .i64 0) ((h.bump 1)))) (((h.bump 1).bump 4))
theorem f8_eq (X : Caller) (L : Looper) (K : Value → AHeap → Prop) (h : AHeap) (t0 t1 : Value) : aJob P X L (.call 8 [t0, t1]) K h = f8 X L K h t0 t1 := by kernel_rfl
/-- (*cubbyhole/cursor.Cursors).Opened -/
def f9 (X : Caller) (L : Looper) (K : Value → AHeap → Prop) (h : AHeap) (t0 : Value) : Prop :=
 X (.call 23 [t0]) (fun t4 h =>
 condK t4
 (K (.slice none 0 0) ((h.bump 1)))
 (opK ((fun h : AHeap => nilV t0 h) ((h.bump 7))) fun t6 h =>
 rdK (fAddr 1 t6) h fun t7 h =>
 rdK (ld1 t7 h) h fun t8 h =>
 X (.call 25 [t8]) (fun t9 h =>
 X (.call 24 [t9]) (fun t10 h =>
 K t10 h) h) h)) (((h.bump 1).bump 2))
theorem f9_eq (X : Caller) (L : Looper) (K : Value → AHeap → Prop) (h : AHeap) (t0 : Value) : aJob P X L (.call 9 [t0]) K h = f9 X L K h t0 := by kernel_rfl
/-- (*cubbyhole/cache.Cache).Set -/
def f10 (X : Caller) (L : Looper) (K : Value → AHeap → Prop) (h : AHeap) (t0 t1 t2 t3 : Value) : Prop :=
 X (.call 26 [t0, t1, t2, t3, (.func (.func 27) #[] #[])]) (fun t13 h =>
 K t13 h) (((h.bump 1).bump 6))
theorem f10_eq (X : Caller) (L : Looper) (K : Value → AHeap → Prop) (h : AHeap) (t0 t1 t2 t3 : Value) : aJob P X L (.call 10 [t0, t1, t2, t3]) K h = f10 X L K h t0 t1 t2 t3 := by kernel_rfl
/-- (*cubbyhole/cache.Cache).SetTTL -/
def f11 (X : Caller) (L : Looper) (K : Value → AHeap → Prop) (h : AHeap) (t0 t1 t2 t3 t4 : Value) : Prop :=
 regK 3 h fun b h =>
 opK (boxV t0 (b + 0) h) fun t5 h =>
 opK (boxV t4 (b + 1) h) fun t9 h =>
 rdK ((fun h : AHeap => ld1 t5 h) ((h.bump 2))) ((h.bump 2)) fun t11 h =>
 X (.call 28 [t11]) (fun t12 h =>
 condK t12
 (K (.int .i64 1) ((h.bump 1)))
 (rdK ((fun h : AHeap => ld1 t9 h) ((h.bump 2))) ((h.bump 2)) fun t13 h =>
 rdK (binC P .eql 38 38 t13 (.int .u64 0) h) h fun t14 h =>
 condK t14
 (K (.int .i64 2) ((h.bump 1)))
 (rdK ((fun h : AHeap => ld1 t5 h) ((h.bump 7))) ((h.bump 7)) fun t15 h =>
 X (.call 26 [t15, t1, t2, t3, (.func (.func 29) #[] #[t5, t9])]) (fun t20 h =>
 K t20 h) h))) h
theorem f11_eq (X : Caller) (L : Looper) (K : Value → AHeap → Prop) (h : AHeap) (t0 t1 t2 t3 t4 : Value) : aJob P X L (.call 11 [t0, t1, t2, t3, t4]) K h = f11 X L K h t0 t1 t2 t3 t4 := by kernel_rfl
/-- cubbyhole/cubbyholelaw25.yields -/
def f12 (X : Caller) (L : Looper) (K : Value → AHeap → Prop) (h : AHeap) (t0 t1 t2 t3 : Value) : Prop :=
 regK 10 ((h.bump 1)) fun b h =>
 X (.call 32 [t0, t1, t2]) (fun t15 h =>
 opK (extV 0 t15 h) fun t16 h =>
 opK (extV 1 t15 h) fun t17 h =>
 opK (newV [.string ⟨#[]⟩, .slice none 0 0, .int .u64 0, .int .u64 0] (b + 7) h) fun t9 h =>
 stK (stV 4 t9 t16 h) fun h =>
 rdK ((fun h : AHeap => fAddr 0 t9) ((h.bump 9))) ((h.bump 9)) fun t18 h =>
 rdK (ld1 t18 h) h fun t19 h =>
 rdK (binV P .eql 9 9 t19 t3 h) h fun t21 h =>
 gopK (wantV t21 true) h (some (t17, h)) fun t23 h =>
 gopK (wantV t21 true) h ((binC P .eql 31 31 t23 (.int .i64 0) h).map (·, h)) fun t24 h =>
 opK (pickV t21 t24 (.bool false) h) fun t25 h =>
 K t25 h) h
theorem f12_eq (X : Caller) (L : Looper) (K : Value → AHeap → Prop) (h : AHeap) (t0 t1 t2 t3 : Value) : aJob P X L (.call 12 [t0, t1, t2, t3]) K h = f12 X L K h t0 t1 t2 t3 := by kernel_rfl
/-- cubbyhole/cubbyholelaw25.next -/
def f13 (X : Caller) (L : Looper) (K : Value → AHeap → Prop) (h : AHeap) (t0 t1 t2 t3 t4 : Value) : Prop :=
 regK 2 h fun b h =>
 opK (boxV t3 (b + 0) h) fun t8 h =>
 regK 10 h fun b_1 h =>
 X (.call 32 [t0, t1, t2]) (fun t17 h =>
 opK (extV 0 t17 h) fun t18 h =>
 opK (extV 1 t17 h) fun t19 h =>
 opK (newV [.string ⟨#[]⟩, .slice none 0 0, .int .u64 0, .int .u64 0] (b_1 + 7) h) fun t11 h =>
 stK (stV 4 t11 t18 h) fun h =>
 rdK ((fun h : AHeap => ldN 4 t11 h) ((h.bump 9))) ((h.bump 9)) fun t20 h =>
 rdK (ldN 4 t8 h) h fun t21 h =>
 X (.call 33 [t20, t21]) (fun t22 h =>
 gopK (wantV t22 true) h (some (t19, h)) fun t24 h =>
 gopK (wantV t22 true) h (some (t4, h)) fun t25 h =>
 gopK (wantV t22 true) h ((binV P .eql 31 31 t24 t25 h).map (·, h)) fun t26 h =>
 opK (pickV t22 t26 (.bool false) h) fun t27 h =>
 K t27 h) h) h
theorem f13_eq (X : Caller) (L : Looper) (K : Value → AHeap → Prop) (h : AHeap) (t0 t1 t2 t3 t4 : Value) : aJob P X L (.call 13 [t0, t1, t2, t3, t4]) K h = f13 X L K h t0 t1 t2 t3 t4 := by kernel_rfl
/-- cubbyhole/cubbyholelaw25.place -/
def f14 (X : Caller) (L : Looper) (K : Value → AHeap → Prop) (h : AHeap) (t0 t1 t2 t3 : Value) : Prop :=
 X (.call 34 [t0, t1]) (fun t14 h =>
 opK (extV 0 t14 h) fun t15 h =>
 opK (extV 1 t14 h) fun t16 h =>
 rdK ((fun h : AHeap => binV P .eql 27 27 t15 t2 h) ((h.bump 9))) ((h.bump 9)) fun t19 h =>
 gopK (wantV t19 true) h (some (t16, h)) fun t21 h =>
 gopK (wantV t19 true) h (some (t3, h)) fun t22 h =>
 gopK (wantV t19 true) h ((binV P .eql 31 31 t21 t22 h).map (·, h)) fun t23 h =>
 opK (pickV t19 t23 (.bool false) h) fun t24 h =>
 K t24 h) (((h.bump 1).bump 8))
theorem f14_eq (X : Caller) (L : Looper) (K : Value → AHeap → Prop) (h : AHeap) (t0 t1 t2 t3 : Value) : aJob P X L (.call 14 [t0, t1, t2, t3]) K h = f14 X L K h t0 t1 t2 t3 := by kernel_rfl
/-- (*cubbyhole/cursor.Cursors).Seek -/
def f15 (X : Caller) (L : Looper) (K : Value → AHeap → Prop) (h : AHeap) (t0 t1 t2 : Value) : Prop :=
 X (.call 22 [t0, t1]) (fun t10 h =>
 rdK ((fun h : AHeap => binC P .neq 31 31 t10 (.int .i64 0) h) ((h.bump 2))) ((h.bump 2)) fun t12 h =>
 condK t12
 (K t10 ((h.bump 2)))
 (opK ((fun h : AHeap => nilV t0 h) ((h.bump 7))) fun t17 h =>
 rdK (fAddr 2 t17) h fun t18 h =>
 rdK (ixR 64 1 t18 t1) h fun t19 h =>
 stK (stV 1 t19 t2 h) fun h =>
 K (.int .i64 0) ((h.bump 1)))) (((h.bump 1).bump 4))
theorem f15_eq (X : Caller) (L : Looper) (K : Value → AHeap → Prop) (h : AHeap) (t0 t1 t2 : Value) : aJob P X L (.call 15 [t0, t1, t2]) K h = f15 X L K h t0 t1 t2 := by kernel_rfl
def f16_l6 (X : Caller) (L : Looper) (a : AAct) (K : ActPost) (h : AHeap) : Prop :=
 regK 4 h fun b_1 h =>
 opK (builtinV P .len [34] [(a.env 0)] (b_1 + 2) h) fun t13 h =>
 rdK (binV P .lss 3 3 (a.env 5) t13 h) h fun t14 h =>
 condK t14
 (rdK ((fun h : AHeap => ixS 1 (a.env 0) (a.env 5)) ((h.bump 9))) ((h.bump 9)) fun t19 h =>
 rdK (ld1 t19 h) h fun t20 h =>
 rdK (ixS 1 (a.env 1) (a.env 5)) h fun t23 h =>
 rdK (ld1 t23 h) h fun t24 h =>
 rdK (binV P .neq 3 3 t20 t24 h) h fun t25 h =>
 condK t25
 (K .ret ⟨(upds a.env [(11, (a.env 5)), (12, (a.env 0)), (13, t13), (14, t14), (17, (a.env 0)), (18, (a.env 5)), (19, t19), (20, t20), (21, (a.env 1)), (22, (a.env 5)), (23, t23), (24, t24), (25, t25), (4, (.bool false))]), a.defers⟩ ((h.bump 1)))
 (rdK ((fun h : AHeap => binC P .add 3 3 (a.env 5) (.int .i64 1) h) ((h.bump 3))) ((h.bump 3)) fun t16 h =>
 K .normal ⟨(upds a.env [(11, (a.env 5)), (12, (a.env 0)), (13, t13), (14, t14), (17, (a.env 0)), (18, (a.env 5)), (19, t19), (20, t20), (21, (a.env 1)), (22, (a.env 5)), (23, t23), (24, t24), (25, t25), (15, (a.env 5)), (16, t16), (5, t16)]), a.defers⟩ h))
 (K (.exit 0) ⟨(upds a.env [(11, (a.env 5)), (12, (a.env 0)), (13, t13), (14, t14)]), a.defers⟩ h)
def f16_j4 (X : Caller) (L : Looper) (K : Value → AHeap → Prop) (h : AHeap) (a : AAct) : Prop :=
 leaveA P X Tryz.f16 ⟨(upds a.env [(4, (.bool true))]), a.defers⟩ K a.defers ((h.bump 1))
/-- cubbyhole/cubbyholelaw25.ints -/
def f16 (X : Caller) (L : Looper) (K : Value → AHeap → Prop) (h : AHeap) (t0 t1 : Value) : Prop :=
 regK 5 ((h.bump 1)) fun b h =>
 opK (builtinV P .len [34] [t0] (b + 1) h) fun t7 h =>
 opK (builtinV P .len [34] [t1] (b + 3) h) fun t9 h =>
 rdK (binV P .neq 3 3 t7 t9 h) h fun t10 h =>
 condK t10
 (K (.bool false) ((h.bump 1)))
 (L (f16_l6 X L) ⟨(upds (argsEnv [t0, t1]) [(4, (.bool false)), (6, t0), (7, t7), (8, t1), (9, t9), (10, t10), (5, (.int .i64 0))]), []⟩ (blkX 0 (seqX (fun a h => f16_j4 X L K h a) (finX P X Tryz.f16 K))) ((h.bump 1)))
theorem f16_eq (X : Caller) (L : Looper) (K : Value → AHeap → Prop) (h : AHeap) (t0 t1 : Value) : aJob P X L (.call 16 [t0, t1]) K h = f16 X L K h t0 t1 := by kernel_rfl
/-- (*cubbyhole/cache.Cache).Now -/
def f17 (X : Caller) (L : Looper) (K : Value → AHeap → Prop) (h : AHeap) (t0 : Value) : Prop :=
 X (.call 28 [t0]) (fun t4 h =>
 condK t4
 (K (.int .u64 0) ((h.bump 1)))
 (opK ((fun h : AHeap => nilV t0 h) ((h.bump 7))) fun t6 h =>
 rdK (fAddr 0 t6) h fun t7 h =>
 rdK (fAddr 4 t7) h fun t8 h =>
 rdK (ld1 t8 h) h fun t9 h =>
 X (.call 31 [t9]) (fun t10 h =>
 K t10 h) h)) (((h.bump 1).bump 2))
theorem f17_eq (X : Caller) (L : Looper) (K : Value → AHeap → Prop) (h : AHeap) (t0 : Value) : aJob P X L (.call 17 [t0]) K h = f17 X L K h t0 := by kernel_rfl
/-- cubbyhole/cache.New -/
def f18 (X : Caller) (L : Looper) (K : Value → AHeap → Prop) (h : AHeap) (t0 : Value) : Prop :=
 regK 3 h fun b h =>
 opK (boxV t0 (b + 0) h) fun t1 h =>
 rdK ((fun h : AHeap => ldN 5 t1 h) ((h.bump 3))) ((h.bump 3)) fun t5 h =>
 X (.call 35 [t5]) (fun t6 h =>
 rdK ((fun h : AHeap => binC P .neq 31 31 t6 (.int .i64 0) h) ((h.bump 2))) ((h.bump 2)) fun t8 h =>
 condK t8
 (K (.tuple #[(.pointer none), t6]) ((h.bump 3)))
 (rdK ((fun h : AHeap => ldN 5 t1 h) ((h.bump 4))) ((h.bump 4)) fun t10 h =>
 X (.call 36 [t10, (.int .u64 0), (.int .u64 0)]) (fun t11 h =>
 K (.tuple #[t11, (.int .i64 0)]) h) h)) h
theorem f18_eq (X : Caller) (L : Looper) (K : Value → AHeap → Prop) (h : AHeap) (t0 : Value) : aJob P X L (.call 18 [t0]) K h = f18 X L K h t0 := by kernel_rfl
/-- cubbyhole/cursor.New -/
def f19 (X : Caller) (L : Looper) (K : Value → AHeap → Prop) (h : AHeap) (t0 : Value) : Prop :=
 X (.call 37 [t0]) (fun t5 h =>
 rdK (buildA P 29 []) h fun t6 h =>
 rdK (binV P .eql 29 29 t5 t6 h) h fun t7 h =>
 condK t7
 (K (.tuple #[(.pointer none), (.int .i64 1)]) ((h.bump 2)))
 (regK 5 h fun b h =>
 rdK (buildA P 59 [(0, t0)]) h fun t9 h =>
 opK (boxV t9 (b + 2) h) fun t10 h =>
 K (.tuple #[t10, (.int .i64 0)]) h)) (((h.bump 2).bump 4))
theorem f19_eq (X : Caller) (L : Looper) (K : Value → AHeap → Prop) (h : AHeap) (t0 : Value) : aJob P X L (.call 19 [t0]) K h = f19 X L K h t0 := by kernel_rfl
/-- (*cubbyhole/cursor.Cursors).Cache -/
def f20 (X : Caller) (L : Looper) (K : Value → AHeap → Prop) (h : AHeap) (t0 : Value) : Prop :=
 X (.call 23 [t0]) (fun t4 h =>
 condK t4
 (K (.pointer none) ((h.bump 1)))
 (opK ((fun h : AHeap => nilV t0 h) ((h.bump 5))) fun t6 h =>
 rdK (fAddr 0 t6) h fun t7 h =>
 rdK (ld1 t7 h) h fun t8 h =>
 K t8 h)) (((h.bump 1).bump 2))
theorem f20_eq (X : Caller) (L : Looper) (K : Value → AHeap → Prop) (h : AHeap) (t0 : Value) : aJob P X L (.call 20 [t0]) K h = f20 X L K h t0 := by kernel_rfl
/-- (*cubbyhole/cursor.Cursors).Open -/
def f21 (X : Caller) (L : Looper) (K : Value → AHeap → Prop) (h : AHeap) (t0 : Value) : Prop :=
 X (.call 23 [t0]) (fun t6 h =>
 condK t6
 (K (.tuple #[(.int .i64 0), (.int .i64 1)]) ((h.bump 2)))
 (opK ((fun h : AHeap => nilV t0 h) ((h.bump 6))) fun t8 h =>
 rdK (fAddr 1 t8) h fun t9 h =>
 rdK (ld1 t9 h) h fun t10 h =>
 X (.call 38 [t10]) (fun t11 h =>
 rdK ((fun h : AHeap => binC P .eql 3 3 t11 (.int .i64 64) h) ((h.bump 2))) ((h.bump 2)) fun t13 h =>
 condK t13
 (K (.tuple #[(.int .i64 0), (.int .i64 7)]) ((h.bump 2)))
 (opK ((fun h : AHeap => nilV t0 h) ((h.bump 10))) fun t15 h =>
 rdK (fAddr 1 t15) h fun t16 h =>
 rdK (ld1 t16 h) h fun t17 h =>
 rdK (binD P .shl 56 3 (.int .u64 1) t11 h) h fun t19 h =>
 rdK (binV P .or 56 56 t17 t19 h) h fun t20 h =>
 opK (nilV t0 h) fun t21 h =>
 rdK (fAddr 1 t21) h fun t22 h =>
 stK (stV 1 t22 t20 h) fun h =>
 opK ((fun h : AHeap => nilV t0 h) ((h.bump 6))) fun t25 h =>
 rdK (fAddr 2 t25) h fun t26 h =>
 rdK (ixR 64 1 t26 t11) h fun t27 h =>
 stK (stV 1 t27 (.int .u64 0) h) fun h =>
 K (.tuple #[t11, (.int .i64 0)]) ((h.bump 3)))) h)) (((h.bump 2).bump 2))
theorem f21_eq (X : Caller) (L : Looper) (K : Value → AHeap → Prop) (h : AHeap) (t0 : Value) : aJob P X L (.call 21 [t0]) K h = f21 X L K h t0 := by kernel_rfl
/-- (*cubbyhole/cursor.Cursors).check -/
def f22 (X : Caller) (L : Looper) (K : Value → AHeap → Prop) (h : AHeap) (t0 t1 : Value) : Prop :=
 X (.call 23 [t0]) (fun t7 h =>
 condK t7
 (K (.int .i64 1) ((h.bump 1)))
 (opK ((fun h : AHeap => nilV t0 h) ((h.bump 8))) fun t10 h =>
  rdK (fAddr 1 t10) h fun t11 h =>
  rdK (ld1 t11 h) h fun t12 h =>
  X (.call 39 [t12, t1]) (fun t14 h =>
  rdK (unV P .not 4 t14) h fun t15 h =>
  condK t15
  (K (.int .i64 9) ((h.bump 1)))
  (K (.int .i64 0) ((h.bump 1)))) h)) (((h.bump 1).bump 3))
theorem f22_eq (X : Caller) (L : Looper) (K : Value → AHeap → Prop) (h : AHeap) (t0 t1 : Value) : aJob P X L (.call 22 [t0, t1]) K h = f22 X L K h t0 t1 := by kernel_rfl
/-- (*cubbyhole/cursor.Cursors).none -/
def f23 (X : Caller) (L : Looper) (K : Value → AHeap → Prop) (h : AHeap) (t0 : Value) : Prop :=
 rdK ((fun h : AHeap => binC P .eql 24 24 t0 (.pointer none) h) (((h.bump 1).bump 10))) (((h.bump 1).bump 10)) fun t4 h =>
 gopK (wantV t4 false) h (some (t0, h)) fun t6 h =>
 gopK (wantV t4 false) h (nilV t6 h) fun t7 h =>
 gopK (wantV t4 false) h ((fAddr 0 t7).map (·, h)) fun t8 h =>
 gopK (wantV t4 false) h ((ld1 t8 h).map (·, h)) fun t9 h =>
 gopK (wantV t4 false) h ((binC P .eql 23 23 t9 (.pointer none) h).map (·, h)) fun t10 h =>
 opK (pickV t4 (.bool true) t10 h) fun t11 h =>
 K t11 h
theorem f23_eq (X : Caller) (L : Looper) (K : Value → AHeap → Prop) (h : AHeap) (t0 : Value) : aJob P X L (.call 23 [t0]) K h = f23 X L K h t0 := by kernel_rfl
/-- slices.Collect[int] -/
def f24 (X : Caller) (L : Looper) (K : Value → AHeap → Prop) (h : AHeap) (t0 : Value) : Prop :=
 X (.call 40 [(.slice none 0 0), t0]) (fun t4 h =>
 K t4 h) (((h.bump 1).bump 3))
theorem f24_eq (X : Caller) (L : Looper) (K : Value → AHeap → Prop) (h : AHeap) (t0 : Value) : aJob P X L (.call 24 [t0]) K h = f24 X L K h t0 := by kernel_rfl
/-- (cubbyhole/cursor.set).all -/
def f25 (X : Caller) (L : Looper) (K : Value → AHeap → Prop) (h : AHeap) (t0 : Value) : Prop :=
 regK 2 h fun b h =>
 opK (boxV t0 (b + 0) h) fun t1 h =>
 K (.func (.func 41) #[] #[t1]) ((h.bump 2))
theorem f25_eq (X : Caller) (L : Looper) (K : Value → AHeap → Prop) (h : AHeap) (t0 : Value) : aJob P X L (.call 25 [t0]) K h = f25 X L K h t0 := by kernel_rfl
/-- (*cubbyhole/cache.Cache).Set$1 -/
def f27 (X : Caller) (L : Looper) (K : Value → AHeap → Prop) (h : AHeap) : Prop :=
 K (.int .u64 18446744073709551615) (((h.bump 1).bump 1))
theorem f27_eq (X : Caller) (L : Looper) (K : Value → AHeap → Prop) (h : AHeap) : aJob P X L (.call 27 []) K h = f27 X L K h  := by kernel_rfl
/-- (*cubbyhole/cache.Cache).none -/
def f28 (X : Caller) (L : Looper) (K : Value → AHeap → Prop) (h : AHeap) (t0 : Value) : Prop :=
 rdK ((fun h : AHeap => binC P .eql 23 23 t0 (.pointer none) h) (((h.bump 1).bump 11))) (((h.bump 1).bump 11)) fun t4 h =>
 gopK (wantV t4 false) h (some (t0, h)) fun t6 h =>
 gopK (wantV t4 false) h (nilV t6 h) fun t7 h =>
 gopK (wantV t4 false) h ((fAddr 0 t7).map (·, h)) fun t8 h =>
 gopK (wantV t4 false) h ((fAddr 0 t8).map (·, h)) fun t9 h =>
 gopK (wantV t4 false) h ((ld1 t9 h).map (·, h)) fun t10 h =>
 gopK (wantV t4 false) h ((binC P .eql 66 66 t10 (.pointer none) h).map (·, h)) fun t11 h =>
 opK (pickV t4 (.bool true) t11 h) fun t12 h =>
 K t12 h
theorem f28_eq (X : Caller) (L : Looper) (K : Value → AHeap → Prop) (h : AHeap) (t0 : Value) : aJob P X L (.call 28 [t0]) K h = f28 X L K h t0 := by kernel_rfl
/-- (*cubbyhole/cache.Cache).SetTTL$1 -/
def f29 (X : Caller) (L : Looper) (K : Value → AHeap → Prop) (h : AHeap) (t0 t1 : Value) : Prop :=
 rdK ((fun h : AHeap => ld1 t0 h) (((h.bump 1).bump 9))) (((h.bump 1).bump 9)) fun t3 h =>
 opK (nilV t3 h) fun t4 h =>
 rdK (fAddr 0 t4) h fun t5 h =>
 rdK (fAddr 4 t5) h fun t6 h =>
 rdK (ld1 t6 h) h fun t7 h =>
 rdK (ld1 t1 h) h fun t9 h =>
 X (.call 31 [t7]) (fun t8 h =>
 chkK (chkR ((ld1 t1 h).map (·, h)) t9 true) <|
 X (.call 30 [t8, t9]) (fun t10 h =>
 K t10 h) h) h
theorem f29_eq (X : Caller) (L : Looper) (K : Value → AHeap → Prop) (h : AHeap) (t0 t1 : Value) : aJob P X L (.call 29 [t0, t1]) K h = f29 X L K h t0 t1 := by kernel_rfl
/-- cubbyhole/tick.Add -/
def f30 (X : Caller) (L : Looper) (K : Value → AHeap → Prop) (h : AHeap) (t0 t1 : Value) : Prop :=
 rdK ((fun h : AHeap => binD P .sub 38 38 (.int .u64 18446744073709551615) t0 h) (((h.bump 1).bump 4))) (((h.bump 1).bump 4)) fun t6 h =>
 rdK (binV P .leq 27 27 t6 t1 h) h fun t8 h =>
 condK t8
 (K (.int .u64 18446744073709551615) ((h.bump 1)))
 (rdK ((fun h : AHeap => binV P .add 38 38 t0 t1 h) ((h.bump 4))) ((h.bump 4)) fun t11 h =>
 K t11 h)
theorem f30_eq (X : Caller) (L : Looper) (K : Value → AHeap → Prop) (h : AHeap) (t0 t1 : Value) : aJob P X L (.call 30 [t0, t1]) K h = f30 X L K h t0 t1 := by kernel_rfl
/-- (*cubbyhole/due.Deadlines).Now -/
def f31 (X : Caller) (L : Looper) (K : Value → AHeap → Prop) (h : AHeap) (t0 : Value) : Prop :=
 X (.call 60 [t0, (.int .u32 0)]) (fun t4 h =>
 rdK (binC P .neq 31 31 t4 (.int .i64 0) h) h fun t5 h =>
 condK t5
 (K (.int .u64 0) ((h.bump 1)))
 (opK ((fun h : AHeap => nilV t0 h) ((h.bump 6))) fun t7 h =>
 rdK (fAddr 0 t7) h fun t8 h =>
 rdK (ld1 t8 h) h fun t9 h =>
 X (.call 61 [t9]) (fun t10 h =>
 K t10 h) h)) (((h.bump 1).bump 3))
theorem f31_eq (X : Caller) (L : Looper) (K : Value → AHeap → Prop) (h : AHeap) (t0 : Value) : aJob P X L (.call 31 [t0]) K h = f31 X L K h t0 := by kernel_rfl
/-- (*cubbyhole/cursor.Cursors).Next -/
def f32 (X : Caller) (L : Looper) (K : Value → AHeap → Prop) (h : AHeap) (t0 t1 t2 : Value) : Prop :=
 regK 2 h fun b h =>
 opK (newV [.string ⟨#[]⟩, .slice none 0 0, .int .u64 0, .int .u64 0] (b + 0) h) fun t6 h =>
 X (.call 22 [t0, t2]) (fun t14 h =>
 rdK ((fun h : AHeap => binC P .neq 31 31 t14 (.int .i64 0) h) ((h.bump 2))) ((h.bump 2)) fun t16 h =>
 condK t16
 (rdK ((fun h : AHeap => buildA P 44 []) ((h.bump 4))) ((h.bump 4)) fun t17 h =>
  stK (stV 4 t6 t17 h) fun h =>
  retK (consR (ldN 4 t6 h) (consR (some t14) (some []))) K h)
 (regK 20 h fun b_1 h =>
 opK (nilV t0 h) fun t21 h =>
 rdK (fAddr 0 t21) h fun t22 h =>
 rdK (ld1 t22 h) h fun t23 h =>
 opK (nilV t0 h) fun t27 h =>
 rdK (fAddr 2 t27) h fun t28 h =>
 rdK (ixR 64 1 t28 t2) h fun t29 h =>
 rdK (ld1 t29 h) h fun t30 h =>
 opK (newV [.string ⟨#[]⟩, .slice none 0 0, .int .u64 0, .int .u64 0] (b_1 + 16) h) fun t9 h =>
 X (.call 62 [t23, t1, t30]) (fun t31 h =>
 opK (extV 0 t31 h) fun t32 h =>
 opK (extV 1 t31 h) fun t33 h =>
 opK (extV 2 t31 h) fun t34 h =>
 stK (stV 4 t9 t32 h) fun h =>
 rdK ((fun h : AHeap => binC P .neq 31 31 t34 (.int .i64 0) h) ((h.bump 3))) ((h.bump 3)) fun t37 h =>
 condK t37
 (rdK ((fun h : AHeap => buildA P 44 []) ((h.bump 4))) ((h.bump 4)) fun t38 h =>
  stK (stV 4 t6 t38 h) fun h =>
  retK (consR (ldN 4 t6 h) (consR (some t34) (some []))) K h)
 (rdK ((fun h : AHeap => unV P .not 4 t33) ((h.bump 3))) ((h.bump 3)) fun t42 h =>
  condK t42
  (rdK ((fun h : AHeap => buildA P 44 []) ((h.bump 3))) ((h.bump 3)) fun t43 h =>
   stK (stV 4 t6 t43 h) fun h =>
   retK (consR (ldN 4 t6 h) (consR (some (.int .i64 14)) (some []))) K h)
  (rdK ((fun h : AHeap => fAddr 3 t9) ((h.bump 8))) ((h.bump 8)) fun t46 h =>
 rdK (ld1 t46 h) h fun t47 h =>
 opK (nilV t0 h) fun t48 h =>
 rdK (fAddr 2 t48) h fun t49 h =>
 rdK (ixR 64 1 t49 t2) h fun t50 h =>
 stK (stV 1 t50 t47 h) fun h =>
 rdK ((fun h : AHeap => ldN 4 t9 h) ((h.bump 3))) ((h.bump 3)) fun t51 h =>
 stK (stV 4 t6 t51 h) fun h =>
 retK (consR (ldN 4 t6 h) (consR (some (.int .i64 0)) (some []))) K h))) h)) ((h.bump 4))
theorem f32_eq (X : Caller) (L : Looper) (K : Value → AHeap → Prop) (h : AHeap) (t0 t1 t2 : Value) : aJob P X L (.call 32 [t0, t1, t2]) K h = f32 X L K h t0 t1 t2 := by kernel_rfl
/-- cubbyhole/cubbyholeref24.Entry -/
def f33 (X : Caller) (L : Looper) (K : Value → AHeap → Prop) (h : AHeap) (t0 t1 : Value) : Prop :=
 regK 3 h fun b h =>
 opK (boxV t0 (b + 0) h) fun t2 h =>
 opK (boxV t1 (b + 1) h) fun t3 h =>
 regK 29 h fun b_1 h =>
 rdK (fAddr 0 t2) h fun t5 h =>
 rdK (ld1 t5 h) h fun t6 h =>
 rdK (fAddr 0 t3) h fun t7 h =>
 rdK (ld1 t7 h) h fun t8 h =>
 rdK (binV P .eql 9 9 t6 t8 h) h fun t9 h =>
 gopK (wantV t9 true) h ((fAddr 1 t2).map (·, h)) fun t11 h =>
 gopK (wantV t9 true) h ((ld1 t11 h).map (·, h)) fun t12 h =>
 gopK (wantV t9 true) h (convertA P 42 9 t12 (b_1 + 8) h) fun t13 h =>
 gopK (wantV t9 true) h ((fAddr 1 t3).map (·, h)) fun t14 h =>
 gopK (wantV t9 true) h ((ld1 t14 h).map (·, h)) fun t15 h =>
 gopK (wantV t9 true) h (convertA P 42 9 t15 (b_1 + 11) h) fun t16 h =>
 gopK (wantV t9 true) h ((binV P .eql 9 9 t13 t16 h).map (·, h)) fun t17 h =>
 opK (pickV t9 t17 (.bool false) h) fun t18 h =>
 gopK (wantV t18 true) h ((fAddr 2 t2).map (·, h)) fun t20 h =>
 gopK (wantV t18 true) h ((ld1 t20 h).map (·, h)) fun t21 h =>
 gopK (wantV t18 true) h ((fAddr 2 t3).map (·, h)) fun t22 h =>
 gopK (wantV t18 true) h ((ld1 t22 h).map (·, h)) fun t23 h =>
 gopK (wantV t18 true) h ((binV P .eql 38 38 t21 t23 h).map (·, h)) fun t24 h =>
 opK (pickV t18 t24 (.bool false) h) fun t25 h =>
 gopK (wantV t25 true) h ((fAddr 3 t2).map (·, h)) fun t27 h =>
 gopK (wantV t25 true) h ((ld1 t27 h).map (·, h)) fun t28 h =>
 gopK (wantV t25 true) h ((fAddr 3 t3).map (·, h)) fun t29 h =>
 gopK (wantV t25 true) h ((ld1 t29 h).map (·, h)) fun t30 h =>
 gopK (wantV t25 true) h ((binV P .eql 27 27 t28 t30 h).map (·, h)) fun t31 h =>
 opK (pickV t25 t31 (.bool false) h) fun t32 h =>
 K t32 h
theorem f33_eq (X : Caller) (L : Looper) (K : Value → AHeap → Prop) (h : AHeap) (t0 t1 : Value) : aJob P X L (.call 33 [t0, t1]) K h = f33 X L K h t0 t1 := by kernel_rfl
/-- (*cubbyhole/cursor.Cursors).At -/
def f34 (X : Caller) (L : Looper) (K : Value → AHeap → Prop) (h : AHeap) (t0 t1 : Value) : Prop :=
 X (.call 22 [t0, t1]) (fun t9 h =>
 rdK ((fun h : AHeap => binC P .neq 31 31 t9 (.int .i64 0) h) ((h.bump 2))) ((h.bump 2)) fun t11 h =>
 condK t11
 (K (.tuple #[(.int .u64 0), t9]) ((h.bump 3)))
 (opK ((fun h : AHeap => nilV t0 h) ((h.bump 8))) fun t15 h =>
 rdK (fAddr 2 t15) h fun t16 h =>
 rdK (ixR 64 1 t16 t1) h fun t17 h =>
 rdK (ld1 t17 h) h fun t18 h =>
 K (.tuple #[t18, (.int .i64 0)]) h)) (((h.bump 2).bump 4))
theorem f34_eq (X : Caller) (L : Looper) (K : Value → AHeap → Prop) (h : AHeap) (t0 t1 : Value) : aJob P X L (.call 34 [t0, t1]) K h = f34 X L K h t0 t1 := by kernel_rfl
/-- cubbyhole/config.Check -/
def f35 (X : Caller) (L : Looper) (K : Value → AHeap → Prop) (h : AHeap) (t0 : Value) : Prop :=
 regK 2 h fun b h =>
 opK (boxV t0 (b + 0) h) fun t1 h =>
 rdK ((fun h : AHeap => fAddr 0 t1) ((h.bump 5))) ((h.bump 5)) fun t4 h =>
 rdK (ld1 t4 h) h fun t5 h =>
 X (.call 63 [t5, (.int .i64 1), (.int .i64 1048576)]) (fun t6 h =>
 rdK (unV P .not 4 t6) h fun t7 h =>
 condK t7
 (K (.int .i64 240) ((h.bump 1)))
 (rdK ((fun h : AHeap => fAddr 1 t1) ((h.bump 5))) ((h.bump 5)) fun t9 h =>
  rdK (ld1 t9 h) h fun t10 h =>
  X (.call 63 [t10, (.int .i64 1), (.int .i64 1099511627776)]) (fun t11 h =>
  rdK (unV P .not 4 t11) h fun t12 h =>
  condK t12
  (K (.int .i64 241) ((h.bump 1)))
  (rdK ((fun h : AHeap => fAddr 2 t1) ((h.bump 5))) ((h.bump 5)) fun t14 h =>
   rdK (ld1 t14 h) h fun t15 h =>
   X (.call 63 [t15, (.int .i64 0), (.int .i64 99)]) (fun t16 h =>
   rdK (unV P .not 4 t16) h fun t17 h =>
   condK t17
   (K (.int .i64 242) ((h.bump 1)))
   (K (.int .i64 0) ((h.bump 1)))) h)) h)) h
theorem f35_eq (X : Caller) (L : Looper) (K : Value → AHeap → Prop) (h : AHeap) (t0 : Value) : aJob P X L (.call 35 [t0]) K h = f35 X L K h t0 := by kernel_rfl
/-- cubbyhole/cache.made -/
def f36 (X : Caller) (L : Looper) (K : Value → AHeap → Prop) (h : AHeap) (t0 t1 t2 : Value) : Prop :=
 regK 2 h fun b h =>
 opK (boxV t0 (b + 0) h) fun t3 h =>
 rdK ((fun h : AHeap => ldN 5 t3 h) ((h.bump 7))) ((h.bump 7)) fun t14 h =>
 X (.call 64 [t14]) (fun t15 h =>
 opK (extV 0 t15 h) fun t16 h =>
 opK (extV 1 t15 h) fun t17 h =>
 X (.call 65 [t16]) (fun t20 h =>
 opK (extV 0 t20 h) fun t21 h =>
 opK (extV 1 t20 h) fun t22 h =>
 rdK ((fun h : AHeap => fAddr 0 t3) ((h.bump 10))) ((h.bump 10)) fun t24 h =>
 rdK (ld1 t24 h) h fun t25 h =>
 rdK (fAddr 1 t3) h fun t26 h =>
 rdK (ld1 t26 h) h fun t27 h =>
 X (.call 66 [t25, t27]) (fun t28 h =>
 opK (extV 0 t28 h) fun t29 h =>
 opK (extV 1 t28 h) fun t30 h =>
 regK 18 h fun b_1 h =>
 rdK (fAddr 3 t3) h fun t31 h =>
 rdK (ld1 t31 h) h fun t32 h =>
 rdK (fAddr 4 t3) h fun t33 h =>
 rdK (ld1 t33 h) h fun t34 h =>
 rdK (ldN 5 t3 h) h fun t45 h =>
 X (.call 68 [t32, t34]) (fun t35 h =>
 chkK (chkR ((ldN 5 t3 h).map (·, h)) t45 true) <|
 X (.call 67 [t35]) (fun t36 h =>
 chkK (chkR ((ldN 5 t3 h).map (·, h)) t45 true) <|
 X (.call 69 [t2]) (fun t38 h =>
 chkK (chkR ((ldN 5 t3 h).map (·, h)) t45 true) <|
 X (.call 70 [t1]) (fun t42 h =>
 chkK (chkR ((ldN 5 t3 h).map (·, h)) t45 true) <|
 X (.call 71 []) (fun t43 h =>
 chkK (chkR ((ldN 5 t3 h).map (·, h)) t45 true) <|
 rdK (buildA P 73 [(0, t36), (1, t38), (2, t21), (3, t29), (4, t42), (5, t43)]) h fun t44 h =>
 rdK (buildA P 75 [(0, t44), (1, t45)]) h fun t46 h =>
 opK (boxV t46 (b_1 + 16) h) fun t47 h =>
 K t47 h) h) h) h) h) h) h) ((h.bump 7))) h
theorem f36_eq (X : Caller) (L : Looper) (K : Value → AHeap → Prop) (h : AHeap) (t0 t1 t2 : Value) : aJob P X L (.call 36 [t0, t1, t2]) K h = f36 X L K h t0 t1 t2 := by kernel_rfl
/-- (*cubbyhole/cache.Cache).Config -/
def f37 (X : Caller) (L : Looper) (K : Value → AHeap → Prop) (h : AHeap) (t0 : Value) : Prop :=
 regK 1 h fun b h =>
 opK (newV [.int .i64 0, .int .i64 0, .int .i64 0, .int .u64 0, .bool false] (b + 0) h) fun t2 h =>
 X (.call 28 [t0]) (fun t4 h =>
 condK t4
 (rdK ((fun h : AHeap => buildA P 29 []) ((h.bump 2))) ((h.bump 2)) fun t5 h =>
  stK (stV 5 t2 t5 h) fun h =>
  retK (consR (ldN 5 t2 h) (some [])) K h)
 (opK ((fun h : AHeap => nilV t0 h) ((h.bump 5))) fun t7 h =>
 rdK (fAddr 6 t7) h fun t8 h =>
 rdK (ldN 5 t8 h) h fun t9 h =>
 stK (stV 5 t2 t9 h) fun h =>
 retK (consR (ldN 5 t2 h) (some [])) K h)) ((h.bump 2))
theorem f37_eq (X : Caller) (L : Looper) (K : Value → AHeap → Prop) (h : AHeap) (t0 : Value) : aJob P X L (.call 37 [t0]) K h = f37 X L K h t0 := by kernel_rfl
def f38_l3 (X : Caller) (L : Looper) (a : AAct) (K : ActPost) (h : AHeap) : Prop :=
 X (.call 39 [(a.env 0), (a.env 3)]) (fun t6 h =>
 condK t6
 (rdK ((fun h : AHeap => binC P .add 3 3 (a.env 3) (.int .i64 1) h) ((h.bump 3))) ((h.bump 3)) fun t8 h =>
 K .normal ⟨(upds a.env [(4, (a.env 0)), (5, (a.env 3)), (6, t6), (7, (a.env 3)), (8, t8), (3, t8)]), a.defers⟩ h)
 (K (.exit 0) ⟨(upds a.env [(4, (a.env 0)), (5, (a.env 3)), (6, t6)]), a.defers⟩ h)) ((h.bump 3))
def f38_j2 (X : Caller) (L : Looper) (K : Value → AHeap → Prop) (h : AHeap) (a : AAct) : Prop :=
 leaveA P X Tryz.f38 ⟨(upds a.env [(9, (a.env 3)), (2, (a.env 3))]), a.defers⟩ K a.defers ((h.bump 2))
/-- (cubbyhole/cursor.set).free -/
def f38 (X : Caller) (L : Looper) (K : Value → AHeap → Prop) (h : AHeap) (t0 : Value) : Prop :=
 L (f38_l3 X L) ⟨(upds (argsEnv [t0]) [(2, (.int .i64 0)), (3, (.int .i64 0))]), []⟩ (blkX 0 (seqX (fun a h => f38_j2 X L K h a) (finX P X Tryz.f38 K))) (((h.bump 1).bump 1))
theorem f38_eq (X : Caller) (L : Looper) (K : Value → AHeap → Prop) (h : AHeap) (t0 : Value) : aJob P X L (.call 38 [t0]) K h = f38 X L K h t0 := by kernel_rfl
/-- (cubbyhole/cursor.set).has -/
def f39 (X : Caller) (L : Looper) (K : Value → AHeap → Prop) (h : AHeap) (t0 t1 : Value) : Prop :=
 rdK ((fun h : AHeap => binC P .geq 3 3 t1 (.int .i64 0) h) (((h.bump 1).bump 14))) (((h.bump 1).bump 14)) fun t6 h =>
 gopK (wantV t6 true) h (some (t1, h)) fun t8 h =>
 gopK (wantV t6 true) h ((binC P .lss 3 3 t8 (.int .i64 64) h).map (·, h)) fun t9 h =>
 opK (pickV t6 t9 (.bool false) h) fun t10 h =>
 gopK (wantV t10 true) h (some (t0, h)) fun t12 h =>
 gopK (wantV t10 true) h (some (t1, h)) fun t13 h =>
 gopK (wantV t10 true) h ((binV P .shr 56 3 t12 t13 h).map (·, h)) fun t14 h =>
 gopK (wantV t10 true) h ((binC P .and 56 56 t14 (.int .u64 1) h).map (·, h)) fun t15 h =>
 gopK (wantV t10 true) h ((binC P .eql 56 56 t15 (.int .u64 1) h).map (·, h)) fun t16 h =>
 opK (pickV t10 t16 (.bool false) h) fun t17 h =>
 K t17 h
theorem f39_eq (X : Caller) (L : Looper) (K : Value → AHeap → Prop) (h : AHeap) (t0 t1 : Value) : aJob P X L (.call 39 [t0, t1]) K h = f39 X L K h t0 t1 := by kernel_rfl
def f40_a0 (X : Caller) (L : Looper) (a : AAct) (K : ActPost) (h : AHeap) : Prop :=
 K .normal ⟨(upds a.env [(5, (a.env 7))]), a.defers⟩ ((h.bump 1))
def f40_b0 (X : Caller) (L : Looper) (a : AAct) (K : ActPost) (h : AHeap) : Prop :=
 regK 5 h fun b_1 h =>
 rdK (ld1 (a.env 2) h) h fun t8 h =>
 opK (bsliceV P 34 1 [(0, (a.env 5))] (b_1 + 2) h) fun t10 h =>
 opK (builtinV P .append [34, 34] [t8, t10] (b_1 + 3) h) fun t11 h =>
 stK (stV 1 (a.env 2) t11 h) fun h =>
 K .normal ⟨(upds a.env [(8, t8), (9, (a.env 5)), (10, t10), (11, t11)]), a.defers⟩ h
noncomputable def f40_ca0 : Code := (rangesF Tryz.f40 0).1
noncomputable def f40_cb0 : Code := (rangesF Tryz.f40 0).2
theorem f40_a0_eq (X : Caller) (L : Looper) (a : AAct) (K : ActPost) (h : AHeap) : aCode P X L true f40_ca0 a K h = f40_a0 X L a K h := by kernel_rfl
theorem f40_b0_eq (X : Caller) (L : Looper) (a : AAct) (K : ActPost) (h : AHeap) : aCode P X L true f40_cb0 a K h = f40_b0 X L a K h := by kernel_rfl
def f40_j1 (X : Caller) (L : Looper) (K : Value → AHeap → Prop) (h : AHeap) (a : AAct) : Prop :=
 rdK ((fun h : AHeap => ld1 (a.env 2) h) ((h.bump 2))) ((h.bump 2)) fun t12 h =>
 leaveA P X Tryz.f40 ⟨(upds a.env [(12, t12), (4, t12)]), a.defers⟩ K a.defers h
/-- slices.AppendSeq[[]int,int] -/
def f40 (X : Caller) (L : Looper) (K : Value → AHeap → Prop) (h : AHeap) (t0 t1 : Value) : Prop :=
 regK 2 h fun b h =>
 opK (boxV t0 (b + 0) h) fun t2 h =>
 rangeK X t1 ⟨(upds (argsEnv [t0, t1]) [(2, t2), (4, (.slice none 0 0)), (6, t1)]), []⟩ [7] f40_ca0 f40_cb0 (blkX 0 (seqX (fun a h => f40_j1 X L K h a) (finX P X Tryz.f40 K))) ((h.bump 1))
theorem f40_eq (X : Caller) (L : Looper) (K : Value → AHeap → Prop) (h : AHeap) (t0 t1 : Value) : aJob P X L (.call 40 [t0, t1]) K h = f40 X L K h t0 t1 := by kernel_rfl
def f41_l1 (X : Caller) (L : Looper) (a : AAct) (K : ActPost) (h : AHeap) : Prop :=
 rdK ((fun h : AHeap => binC P .lss 3 3 (a.env 4) (.int .i64 64) h) ((h.bump 1))) ((h.bump 1)) fun t5 h =>
 condK t5
 (rdK ((fun h : AHeap => ld1 (a.env 1) h) (((h.bump 2).bump 9))) (((h.bump 2).bump 9)) fun t7 h =>
 X (.call 39 [t7, (a.env 4)]) (fun t9 h =>
 gopK (wantV t9 true) h (some ((a.env 0), h)) fun t11 h =>
 gopK (wantV t9 true) h (some ((a.env 4), h)) fun t12 h =>
 gcallvK (wantV t9 true) X t11 [t12] h fun t13 h =>
 gopK (wantV t9 true) h ((unV P .not 4 t13).map (·, h)) fun t14 h =>
 opK (pickV t9 t14 (.bool false) h) fun t15 h =>
 condK t15
 (K .ret ⟨(upds a.env [(5, t5), (6, (a.env 4)), (3, (a.env 4)), (7, t7), (8, (a.env 4)), (9, t9), (10, t9), (11, t11), (12, t12), (13, t13), (14, t14), (15, t15)]), a.defers⟩ h)
 (rdK ((fun h : AHeap => binC P .add 3 3 (a.env 4) (.int .i64 1) h) ((h.bump 2))) ((h.bump 2)) fun t16 h =>
 K .normal ⟨(upds a.env [(5, t5), (6, (a.env 4)), (3, (a.env 4)), (7, t7), (8, (a.env 4)), (9, t9), (10, t9), (11, t11), (12, t12), (13, t13), (14, t14), (15, t15), (16, t16), (4, t16)]), a.defers⟩ h)) h)
 (K (.exit 0) ⟨(upds a.env [(5, t5)]), a.defers⟩ h)
/-- (cubbyhole/cursor.set).all$1 -/
def f41 (X : Caller) (L : Looper) (K : Value → AHeap → Prop) (h : AHeap) (t0 t1 : Value) : Prop :=
 L (f41_l1 X L) ⟨(upds (argsEnv [t0, t1]) [(4, (.int .i64 0))]), []⟩ (blkX 0 (finX P X Tryz.f41 K)) ((h.bump 1))
theorem f41_eq (X : Caller) (L : Looper) (K : Value → AHeap → Prop) (h : AHeap) (t0 t1 : Value) : aJob P X L (.call 41 [t0, t1]) K h = f41 X L K h t0 t1 := by kernel_rfl
/-- cubbyhole/entry.Cost -/
def f42 (X : Caller) (L : Looper) (K : Value → AHeap → Prop) (h : AHeap) (t0 t1 : Value) : Prop :=
 X (.call 72 [t0, t1, (.int .u64 1)]) (fun t9 h =>
 rdK ((fun h : AHeap => binC P .neq 31 31 t9 (.int .i64 0) h) ((h.bump 2))) ((h.bump 2)) fun t11 h =>
 condK t11
 (K (.tuple #[(.int .i64 0), t9]) ((h.bump 3)))
 (regK 8 h fun b h =>
 opK (builtinV P .len [9] [t0] (b + 1) h) fun t14 h =>
 opK (builtinV P .len [42] [t1] (b + 3) h) fun t16 h =>
 rdK (binV P .add 3 3 t14 t16 h) h fun t17 h =>
 rdK (binC P .add 3 3 t17 (.int .i64 48) h) h fun t18 h =>
 K (.tuple #[t18, (.int .i64 0)]) h)) (((h.bump 2).bump 4))
theorem f42_eq (X : Caller) (L : Looper) (K : Value → AHeap → Prop) (h : AHeap) (t0 t1 : Value) : aJob P X L (.call 42 [t0, t1]) K h = f42 X L K h t0 t1 := by kernel_rfl
end Go.Proofs.YtcoofhpdkgkjcaaGreatDoor.F
