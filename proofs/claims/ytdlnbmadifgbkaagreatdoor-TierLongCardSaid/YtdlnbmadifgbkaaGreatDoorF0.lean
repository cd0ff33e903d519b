/- The functions of the program, as shallow texts (printed by a program of this place). -/
import Derived.Test.YtdlnbmadifgbkaaGreatDoorFW
namespace Go.Proofs.YtdlnbmadifgbkaaGreatDoor.F
set_option linter.unusedVariables false
set_option linter.unusedSimpArgs false
open Go Go.Cub
/-- cubbyhole/cubbyholelaw42.TierLong -/
def f3 (X : Caller) (L : Looper) (K : Value → AHeap → Prop) (h : AHeap) (t0 : Value) : Prop :=
 rdK ((fun h : AHeap => binC P .lss 3 3 t0 (.int .i64 65535) h) (((h.bump 1).bump 6))) (((h.bump 1).bump 6)) fun t9 h =>
 gopK (wantV t9 false) h (some (t0, h)) fun t11 h =>
 gopK (wantV t9 false) h ((binC P .gtr 3 3 t11 (.int .i64 65537) h).map (·, h)) fun t12 h =>
 opK (pickV t9 (.bool true) t12 h) fun t13 h =>
 condK t13
 (X (.call 4 []) (fun t14 h =>
  K t14 h) ((h.bump 2)))
 (rdK ((fun h : AHeap => buildA P 29 [(0, (.int .i64 1)), (1, (.int .i64 100))]) ((h.bump 9))) ((h.bump 9)) fun t16 h =>
 rdK (buildA P 29 [(0, (.int .i64 1)), (1, (.int .i64 1048576))]) h fun t17 h =>
 rdK (buildA P 31 []) h fun t18 h =>
 X (.call 5 [t16, t17, t18]) (fun t19 h =>
 opK (extV 0 t19 h) fun t20 h =>
 opK (extV 1 t19 h) fun t21 h =>
 regK 13 h fun b h =>
 rdK (binC P .eql 23 23 t20 (.pointer none) h) h fun t23 h =>
 gopK (wantV t23 false) h (some (t21, h)) fun t25 h =>
 gopK (wantV t23 false) h ((binC P .neq 24 24 t25 (.int .i64 0) h).map (·, h)) fun t26 h =>
 opK (pickV t23 (.bool true) t26 h) fun t27 h =>
 gopK (wantV t27 false) h (some (t20, h)) fun t29 h =>
 gopK (wantV t27 false) h (bsliceV P 34 3 [(0, (.int .u8 111)), (1, (.int .u8 108)), (2, (.int .u8 100))] (b + 8) h) fun t30 h =>
 gopK (wantV t27 false) h (convertA P 34 34 t30 (b + 9) h) fun t31 h =>
 gcallK (wantV t27 false) X (.call 6 [t29, (.int .u64 0), (.string ⟨#[107]⟩), t31, (.int .u64 0)]) h fun t32 h =>
 gopK (wantV t27 false) h ((binC P .neq 24 24 t32 (.int .i64 0) h).map (·, h)) fun t33 h =>
 opK (pickV t27 (.bool true) t33 h) fun t34 h =>
 condK t34
 (K (.bool false) ((h.bump 1)))
 (regK 5 h fun b_1 h =>
 opK (makeSliceA P 34 t0 t0 (b_1 + 2) h) fun t37 h =>
 X (.call 6 [t20, (.int .u64 1), (.string ⟨#[107]⟩), t37, (.int .u64 0)]) (fun t38 h =>
 X (.call 7 [t20, (.int .u64 2), (.string ⟨#[107]⟩)]) (fun t41 h =>
 opK (extV 0 t41 h) fun t42 h =>
 opK (extV 1 t41 h) fun t43 h =>
 opK (extV 2 t41 h) fun t44 h =>
 rdK ((fun h : AHeap => binC P .gtr 3 3 t0 (.int .i64 65536) h) ((h.bump 2))) ((h.bump 2)) fun t46 h =>
 condK t46
 (regK 19 h fun b_2 h =>
  rdK (binC P .eql 24 24 t38 (.int .i64 5) h) h fun t48 h =>
  gopK (wantV t48 true) h (some (t42, h)) fun t50 h =>
  gopK (wantV t48 true) h (convertA P 34 9 t50 (b_2 + 4) h) fun t51 h =>
  gopK (wantV t48 true) h ((binC P .eql 9 9 t51 (.string ⟨#[111, 108, 100]⟩) h).map (·, h)) fun t52 h =>
  opK (pickV t48 t52 (.bool false) h) fun t53 h =>
  gopK (wantV t53 true) h (some (t43, h)) fun t55 h =>
  gopK (wantV t53 true) h ((binC P .eql 35 35 t55 (.int .i64 1) h).map (·, h)) fun t56 h =>
  opK (pickV t53 t56 (.bool false) h) fun t57 h =>
  gopK (wantV t57 true) h (some (t44, h)) fun t59 h =>
  gopK (wantV t57 true) h ((binC P .eql 24 24 t59 (.int .i64 0) h).map (·, h)) fun t60 h =>
  opK (pickV t57 t60 (.bool false) h) fun t61 h =>
  gcallK (wantV t61 true) X (.call 4 []) h fun t63 h =>
  opK (pickV t61 t63 (.bool false) h) fun t64 h =>
  K t64 h)
 (regK 20 h fun b_3 h =>
 rdK (binC P .eql 24 24 t38 (.int .i64 0) h) h fun t66 h =>
 gopK (wantV t66 true) h (some (t42, h)) fun t68 h =>
 gopK (wantV t66 true) h (builtinV P .len [34] [t68] (b_3 + 4) h) fun t69 h =>
 gopK (wantV t66 true) h (some (t0, h)) fun t70 h =>
 gopK (wantV t66 true) h ((binV P .eql 3 3 t69 t70 h).map (·, h)) fun t71 h =>
 opK (pickV t66 t71 (.bool false) h) fun t72 h =>
 gopK (wantV t72 true) h (some (t43, h)) fun t74 h =>
 gopK (wantV t72 true) h ((binC P .eql 35 35 t74 (.int .i64 2) h).map (·, h)) fun t75 h =>
 opK (pickV t72 t75 (.bool false) h) fun t76 h =>
 gopK (wantV t76 true) h (some (t44, h)) fun t78 h =>
 gopK (wantV t76 true) h ((binC P .eql 24 24 t78 (.int .i64 0) h).map (·, h)) fun t79 h =>
 opK (pickV t76 t79 (.bool false) h) fun t80 h =>
 gcallK (wantV t80 true) X (.call 4 []) h fun t82 h =>
 opK (pickV t80 t82 (.bool false) h) fun t83 h =>
 K t83 h)) ((h.bump 9))) h)) h)
/-- cubbyhole/cubbyholelaw42.known -/
def f4 (X : Caller) (L : Looper) (K : Value → AHeap → Prop) (h : AHeap) : Prop :=
 rdK ((fun h : AHeap => buildA P 31 [(0, (.bool true)), (1, (.bool true))]) (((h.bump 1).bump 3))) (((h.bump 1).bump 3)) fun t2 h =>
 X (.call 8 [t2]) (fun t3 h =>
 regK 31 h fun b h =>
 rdK (binC P .eql 23 23 t3 (.pointer none) h) h fun t5 h =>
 gopK (wantV t5 false) h (some (t3, h)) fun t7 h =>
 gopK (wantV t5 false) h (bsliceV P 34 1 [(0, (.int .u8 65))] (b + 4) h) fun t8 h =>
 gopK (wantV t5 false) h (convertA P 34 34 t8 (b + 5) h) fun t9 h =>
 gcallK (wantV t5 false) X (.call 6 [t7, (.int .u64 0), (.string ⟨#[97]⟩), t9, (.int .u64 0)]) h fun t10 h =>
 gopK (wantV t5 false) h ((binC P .neq 24 24 t10 (.int .i64 0) h).map (·, h)) fun t11 h =>
 opK (pickV t5 (.bool true) t11 h) fun t12 h =>
 gopK (wantV t12 false) h (some (t3, h)) fun t14 h =>
 gopK (wantV t12 false) h (bsliceV P 34 1 [(0, (.int .u8 66))] (b + 11) h) fun t15 h =>
 gopK (wantV t12 false) h (convertA P 34 34 t15 (b + 12) h) fun t16 h =>
 gcallK (wantV t12 false) X (.call 6 [t14, (.int .u64 1), (.string ⟨#[98]⟩), t16, (.int .u64 0)]) h fun t17 h =>
 gopK (wantV t12 false) h ((binC P .neq 24 24 t17 (.int .i64 0) h).map (·, h)) fun t18 h =>
 opK (pickV t12 (.bool true) t18 h) fun t19 h =>
 gopK (wantV t19 false) h (some (t3, h)) fun t21 h =>
 gcallK (wantV t19 false) X (.call 9 [t21, (.int .u64 2), (.string ⟨#[97]⟩), (.string ⟨#[65]⟩), (.int .i64 2)]) h fun t22 h =>
 gopK (wantV t19 false) h ((unV P .not 4 t22).map (·, h)) fun t23 h =>
 opK (pickV t19 (.bool true) t23 h) fun t24 h =>
 gopK (wantV t24 false) h (some (t3, h)) fun t26 h =>
 gcallK (wantV t24 false) X (.call 9 [t26, (.int .u64 2), (.string ⟨#[98]⟩), (.string ⟨#[66]⟩), (.int .i64 2)]) h fun t27 h =>
 gopK (wantV t24 false) h ((unV P .not 4 t27).map (·, h)) fun t28 h =>
 opK (pickV t24 (.bool true) t28 h) fun t29 h =>
 gopK (wantV t29 false) h (some (t3, h)) fun t31 h =>
 gcallK (wantV t29 false) X (.call 9 [t31, (.int .u64 2), (.string ⟨#[99]⟩), (.string ⟨#[]⟩), (.int .i64 0)]) h fun t32 h =>
 gopK (wantV t29 false) h ((unV P .not 4 t32).map (·, h)) fun t33 h =>
 opK (pickV t29 (.bool true) t33 h) fun t34 h =>
 condK t34
 (K (.bool false) ((h.bump 1)))
 (X (.call 10 [t3, (.int .u64 3), (.string ⟨#[98]⟩), (.int .i64 1)]) (fun t36 h =>
 rdK (unV P .not 4 t36) h fun t37 h =>
 gopK (wantV t37 false) h (some (t3, h)) fun t39 h =>
 gcallK (wantV t37 false) X (.call 10 [t39, (.int .u64 3), (.string ⟨#[97]⟩), (.int .i64 2)]) h fun t40 h =>
 gopK (wantV t37 false) h ((unV P .not 4 t40).map (·, h)) fun t41 h =>
 opK (pickV t37 (.bool true) t41 h) fun t42 h =>
 gopK (wantV t42 false) h (some (t3, h)) fun t44 h =>
 gcallK (wantV t42 false) X (.call 9 [t44, (.int .u64 3), (.string ⟨#[97]⟩), (.string ⟨#[]⟩), (.int .i64 0)]) h fun t45 h =>
 gopK (wantV t42 false) h ((unV P .not 4 t45).map (·, h)) fun t46 h =>
 opK (pickV t42 (.bool true) t46 h) fun t47 h =>
 condK t47
 (K (.bool false) ((h.bump 1)))
 (rdK ((fun h : AHeap => buildA P 31 []) ((h.bump 3))) ((h.bump 3)) fun t48 h =>
 X (.call 8 [t48]) (fun t49 h =>
 regK 29 h fun b_1 h =>
 rdK (binC P .neq 23 23 t49 (.pointer none) h) h fun t51 h =>
 gopK (wantV t51 true) h (some (t49, h)) fun t53 h =>
 gopK (wantV t51 true) h (bsliceV P 34 1 [(0, (.int .u8 65))] (b_1 + 4) h) fun t54 h =>
 gopK (wantV t51 true) h (convertA P 34 34 t54 (b_1 + 5) h) fun t55 h =>
 gcallK (wantV t51 true) X (.call 6 [t53, (.int .u64 0), (.string ⟨#[97]⟩), t55, (.int .u64 5)]) h fun t56 h =>
 gopK (wantV t51 true) h ((binC P .eql 24 24 t56 (.int .i64 0) h).map (·, h)) fun t57 h =>
 opK (pickV t51 t57 (.bool false) h) fun t58 h =>
 gopK (wantV t58 true) h (some (t49, h)) fun t60 h =>
 gopK (wantV t58 true) h (bsliceV P 34 1 [(0, (.int .u8 66))] (b_1 + 11) h) fun t61 h =>
 gopK (wantV t58 true) h (convertA P 34 34 t61 (b_1 + 12) h) fun t62 h =>
 gcallK (wantV t58 true) X (.call 6 [t60, (.int .u64 1), (.string ⟨#[98]⟩), t62, (.int .u64 0)]) h fun t63 h =>
 gopK (wantV t58 true) h ((binC P .eql 24 24 t63 (.int .i64 0) h).map (·, h)) fun t64 h =>
 opK (pickV t58 t64 (.bool false) h) fun t65 h =>
 gopK (wantV t65 true) h (some (t49, h)) fun t67 h =>
 gcallK (wantV t65 true) X (.call 9 [t67, (.int .u64 2), (.string ⟨#[97]⟩), (.string ⟨#[65]⟩), (.int .i64 2)]) h fun t68 h =>
 opK (pickV t65 t68 (.bool false) h) fun t69 h =>
 gopK (wantV t69 true) h (some (t49, h)) fun t71 h =>
 gcallK (wantV t69 true) X (.call 9 [t71, (.int .u64 4), (.string ⟨#[97]⟩), (.string ⟨#[65]⟩), (.int .i64 1)]) h fun t72 h =>
 opK (pickV t69 t72 (.bool false) h) fun t73 h =>
 gopK (wantV t73 true) h (some (t49, h)) fun t75 h =>
 gcallK (wantV t73 true) X (.call 9 [t75, (.int .u64 5), (.string ⟨#[97]⟩), (.string ⟨#[]⟩), (.int .i64 0)]) h fun t76 h =>
 opK (pickV t73 t76 (.bool false) h) fun t77 h =>
 K t77 h) h)) ((h.bump 13)))) h
def f5_l4 (X : Caller) (L : Looper) (a : AAct) (K : ActPost) (h : AHeap) : Prop :=
 rdK ((fun h : AHeap => binC P .lss 3 3 (a.env 19) (.int .i64 2) h) ((h.bump 1))) ((h.bump 1)) fun t20 h =>
 condK t20
 (regK 5 h fun b_2 h =>
 rdK (indexA P 47 (a.env 18) (a.env 19)) h fun t22 h =>
 opK (newV [.int .i64 0, .int .i64 0, .int .i64 0, .int .u64 0, .bool false] (b_2 + 2) h) fun t10 h =>
 stK (stV 5 t10 t22 h) fun h =>
 rdK ((fun h : AHeap => ldN 5 t10 h) ((h.bump 7))) ((h.bump 7)) fun t24 h =>
 X (.call 11 [t24]) (fun t25 h =>
 opK (extV 0 t25 h) fun t26 h =>
 opK (extV 1 t25 h) fun t27 h =>
 rdK ((fun h : AHeap => binC P .neq 24 24 t27 (.int .i64 0) h) ((h.bump 2))) ((h.bump 2)) fun t29 h =>
 condK t29
 (K .ret ⟨(upds a.env [(20, t20), (21, (a.env 19)), (22, t22), (10, t10), (9, (a.env 19)), (24, t24), (25, t25), (23, t25), (26, t26), (27, t27), (11, t26), (12, t27), (28, t27), (29, t29), (30, t27), (6, (.pointer none)), (7, t27)]), a.defers⟩ ((h.bump 3)))
 (opK ((fun h : AHeap => nilV (a.env 8) h) ((h.bump 7))) fun t34 h =>
 rdK (fAddr 2 t34) h fun t35 h =>
 rdK (ixR 2 1 t35 (a.env 19)) h fun t36 h =>
 stK (stV 1 t36 t26 h) fun h =>
 rdK ((fun h : AHeap => binC P .add 3 3 (a.env 19) (.int .i64 1) h) ((h.bump 2))) ((h.bump 2)) fun t37 h =>
 K .normal ⟨(upds a.env [(20, t20), (21, (a.env 19)), (22, t22), (10, t10), (9, (a.env 19)), (24, t24), (25, t25), (23, t25), (26, t26), (27, t27), (11, t26), (12, t27), (28, t27), (29, t29), (31, (a.env 8)), (32, (a.env 19)), (33, t26), (34, t34), (35, t35), (36, t36), (37, t37), (19, t37)]), a.defers⟩ h)) h)
 (K (.exit 0) ⟨(upds a.env [(20, t20)]), a.defers⟩ h)
def f5_j2 (X : Caller) (L : Looper) (K : Value → AHeap → Prop) (h : AHeap) (a : AAct) : Prop :=
 leaveA P X Tryz.f5 ⟨(upds a.env [(38, (a.env 8)), (6, (a.env 8)), (7, (.int .i64 0))]), a.defers⟩ K a.defers ((h.bump 3))
/-- cubbyhole/tier.New -/
def f5 (X : Caller) (L : Looper) (K : Value → AHeap → Prop) (h : AHeap) (t0 t1 t2 : Value) : Prop :=
 regK 5 h fun b h =>
 opK (boxV t0 (b + 0) h) fun t3 h =>
 opK (boxV t1 (b + 1) h) fun t4 h =>
 opK (boxV t2 (b + 2) h) fun t5 h =>
 regK 4 h fun b_1 h =>
 rdK (ldN 2 t5 h) h fun t13 h =>
 rdK (buildA P 46 [(0, t13)]) h fun t14 h =>
 opK (boxV t14 (b_1 + 2) h) fun t15 h =>
 rdK ((fun h : AHeap => ldN 5 t3 h) ((h.bump 4))) ((h.bump 4)) fun t16 h =>
 rdK (ldN 5 t4 h) h fun t17 h =>
 rdK (buildA P 47 [(0, t16), (1, t17)]) h fun t18 h =>
 L (f5_l4 X L) ⟨(upds (argsEnv [t0, t1, t2]) [(3, t3), (4, t4), (5, t5), (6, (.pointer none)), (7, (.int .i64 0)), (13, t13), (14, t14), (15, t15), (8, t15), (16, t16), (17, t17), (18, t18), (19, (.int .i64 0))]), []⟩ (blkX 0 (seqX (fun a h => f5_j2 X L K h a) (finX P X Tryz.f5 K))) h
theorem f5_eq (X : Caller) (L : Looper) (K : Value → AHeap → Prop) (h : AHeap) (t0 t1 t2 : Value) : aJob P X L (.call 5 [t0, t1, t2]) K h = f5 X L K h t0 t1 t2 := by kernel_rfl
def f6_j10 (X : Caller) (L : Looper) (K : Value → AHeap → Prop) (h : AHeap) (a : AAct) : Prop :=
 leaveA P X Tryz.f6 ⟨(upds a.env [(10, (.int .i64 0))]), a.defers⟩ K a.defers ((h.bump 1))
def f6_j9 (X : Caller) (L : Looper) (K : Value → AHeap → Prop) (h : AHeap) (a : AAct) : Prop :=
 opK ((fun h : AHeap => nilV (a.env 0) h) ((h.bump 11))) fun t28 h =>
 rdK (fAddr 2 t28) h fun t29 h =>
 rdK (ixR 2 1 t29 (.int .i64 0)) h fun t30 h =>
 rdK (ld1 t30 h) h fun t31 h =>
 X (.call 15 [t31, (a.env 1), (a.env 2), (a.env 3), (a.env 4)]) (fun t36 h =>
 rdK ((fun h : AHeap => binC P .neq 24 24 t36 (.int .i64 0) h) ((h.bump 3))) ((h.bump 3)) fun t49 h =>
 condK t49
 (opK ((fun h : AHeap => nilV (a.env 0) h) ((h.bump 11))) fun t51 h =>
  rdK (fAddr 2 t51) h fun t52 h =>
  rdK (ixR 2 1 t52 (.int .i64 1)) h fun t53 h =>
  rdK (ld1 t53 h) h fun t54 h =>
  X (.call 15 [t54, (a.env 1), (a.env 2), (a.env 3), (a.env 4)]) (fun t59 h =>
  leaveA P X Tryz.f6 ⟨(upds a.env [(27, (a.env 0)), (28, t28), (29, t29), (30, t30), (31, t31), (32, (a.env 1)), (33, (a.env 2)), (34, (a.env 3)), (35, (a.env 4)), (36, t36), (12, t36), (48, t36), (49, t49), (47, t49), (50, (a.env 0)), (51, t51), (52, t52), (53, t53), (54, t54), (55, (a.env 1)), (56, (a.env 2)), (57, (a.env 3)), (58, (a.env 4)), (59, t59), (10, t59)]), a.defers⟩ K a.defers h) h)
 (opK ((fun h : AHeap => nilV (a.env 0) h) ((h.bump 6))) fun t62 h =>
  rdK (fAddr 0 t62) h fun t63 h =>
  rdK (fAddr 0 t63) h fun t64 h =>
  rdK (ld1 t64 h) h fun t65 h =>
  condK t65
  (opK ((fun h : AHeap => nilV (a.env 0) h) ((h.bump 8))) fun t67 h =>
   rdK (fAddr 2 t67) h fun t68 h =>
   rdK (ixR 2 1 t68 (.int .i64 1)) h fun t69 h =>
   rdK (ld1 t69 h) h fun t70 h =>
   X (.call 16 [t70, (a.env 1), (a.env 2)]) (fun t73 h =>
   f6_j10 X L K h ⟨(upds a.env [(27, (a.env 0)), (28, t28), (29, t29), (30, t30), (31, t31), (32, (a.env 1)), (33, (a.env 2)), (34, (a.env 3)), (35, (a.env 4)), (36, t36), (12, t36), (48, t36), (49, t49), (47, t49), (61, (a.env 0)), (62, t62), (63, t63), (64, t64), (65, t65), (60, t65), (66, (a.env 0)), (67, t67), (68, t68), (69, t69), (70, t70), (71, (a.env 1)), (72, (a.env 2)), (73, t73)]), a.defers⟩) h)
  (opK ((fun h : AHeap => nilV (a.env 0) h) ((h.bump 10))) fun t38 h =>
   rdK (fAddr 2 t38) h fun t39 h =>
   rdK (ixR 2 1 t39 (.int .i64 1)) h fun t40 h =>
   rdK (ld1 t40 h) h fun t41 h =>
   X (.call 15 [t41, (a.env 1), (a.env 2), (a.env 3), (a.env 4)]) (fun t46 h =>
   f6_j10 X L K h ⟨(upds a.env [(27, (a.env 0)), (28, t28), (29, t29), (30, t30), (31, t31), (32, (a.env 1)), (33, (a.env 2)), (34, (a.env 3)), (35, (a.env 4)), (36, t36), (12, t36), (48, t36), (49, t49), (47, t49), (61, (a.env 0)), (62, t62), (63, t63), (64, t64), (65, t65), (60, t65), (37, (a.env 0)), (38, t38), (39, t39), (40, t40), (41, t41), (42, (a.env 1)), (43, (a.env 2)), (44, (a.env 3)), (45, (a.env 4)), (46, t46)]), a.defers⟩) h))) h
/-- (*cubbyhole/tier.Tiers).Set -/
def f6 (X : Caller) (L : Looper) (K : Value → AHeap → Prop) (h : AHeap) (t0 t1 t2 t3 t4 : Value) : Prop :=
 X (.call 12 [t0, t2]) (fun t15 h =>
 rdK ((fun h : AHeap => binC P .neq 24 24 t15 (.int .i64 0) h) ((h.bump 2))) ((h.bump 2)) fun t17 h =>
 condK t17
 (K t15 ((h.bump 2)))
 (regK 3 h fun b h =>
 opK (builtinV P .len [34] [t3] (b + 1) h) fun t20 h =>
 rdK (binC P .gtr 3 3 t20 (.int .i64 65536) h) h fun t21 h =>
 condK t21
 (K (.int .i64 5) ((h.bump 1)))
 (X (.call 13 [t0, t1]) (fun t24 h =>
 f6_j9 X L K ((h.bump 3)) ⟨(upds (argsEnv [t0, t1, t2, t3, t4]) [(10, (.int .i64 0)), (13, t0), (14, t2), (15, t15), (11, t15), (16, t15), (17, t17), (19, t3), (20, t20), (21, t21), (22, t0), (23, t1), (24, t24), (1, t24), (25, t0), (26, t24)]), [((.func (.func 14) #[] #[]), [t0, t24])]⟩) ((h.bump 4))))) (((h.bump 1).bump 4))
theorem f6_eq (X : Caller) (L : Looper) (K : Value → AHeap → Prop) (h : AHeap) (t0 t1 t2 t3 t4 : Value) : aJob P X L (.call 6 [t0, t1, t2, t3, t4]) K h = f6 X L K h t0 t1 t2 t3 t4 := by kernel_rfl
def f7_j16 (X : Caller) (L : Looper) (K : Value → AHeap → Prop) (h : AHeap) (a : AAct) : Prop :=
 rdK ((fun h : AHeap => fAddr 1 (a.env 13)) ((h.bump 6))) ((h.bump 6)) fun t106 h =>
 rdK (ld1 t106 h) h fun t107 h =>
 X (.call 20 [t107]) (fun t108 h =>
 leaveA P X Tryz.f7 ⟨(upds a.env [(106, t106), (107, t107), (108, t108), (6, t108), (7, (.int .i64 2)), (8, (.int .i64 0))]), a.defers⟩ K a.defers h) h
def f7_j6 (X : Caller) (L : Looper) (K : Value → AHeap → Prop) (h : AHeap) (a : AAct) : Prop :=
 opK ((fun h : AHeap => nilV (a.env 0) h) ((h.bump 15))) fun t32 h =>
 rdK (fAddr 2 t32) h fun t33 h =>
 rdK (ixR 2 1 t33 (.int .i64 0)) h fun t34 h =>
 rdK (ld1 t34 h) h fun t35 h =>
 X (.call 17 [t35, (a.env 1), (a.env 2)]) (fun t38 h =>
 opK (extV 0 t38 h) fun t39 h =>
 opK (extV 1 t38 h) fun t40 h =>
 opK (extV 2 t38 h) fun t41 h =>
 condK t40
 (leaveA P X Tryz.f7 ⟨(upds a.env [(31, (a.env 0)), (32, t32), (33, t33), (34, t34), (35, t35), (36, (a.env 1)), (37, (a.env 2)), (38, t38), (30, t38), (39, t39), (40, t40), (41, t41), (10, t39), (11, t40), (12, t41), (42, t40), (43, t39), (6, t39), (7, (.int .i64 1)), (8, (.int .i64 0))]), a.defers⟩ K a.defers (((h.bump 1).bump 4)))
 (regK 16 ((h.bump 1)) fun b h =>
 opK (nilV (a.env 0) h) fun t46 h =>
 rdK (fAddr 2 t46) h fun t47 h =>
 rdK (ixR 2 1 t47 (.int .i64 1)) h fun t48 h =>
 rdK (ld1 t48 h) h fun t49 h =>
 X (.call 18 [t49, (a.env 1), (a.env 2)]) (fun t52 h =>
 opK (extV 0 t52 h) fun t53 h =>
 opK (extV 1 t52 h) fun t54 h =>
 opK (extV 2 t52 h) fun t55 h =>
 opK (newV [.string ⟨#[]⟩, .slice none 0 0, .int .u64 0, .int .u64 0] (b + 12) h) fun t13 h =>
 stK (stV 4 t13 t53 h) fun h =>
 rdK ((fun h : AHeap => unV P .not 4 t54) ((h.bump 2))) ((h.bump 2)) fun t57 h =>
 condK t57
 (leaveA P X Tryz.f7 ⟨(upds a.env [(31, (a.env 0)), (32, t32), (33, t33), (34, t34), (35, t35), (36, (a.env 1)), (37, (a.env 2)), (38, t38), (30, t38), (39, t39), (40, t40), (41, t41), (10, t39), (11, t40), (12, t41), (42, t40), (45, (a.env 0)), (46, t46), (47, t47), (48, t48), (49, t49), (50, (a.env 1)), (51, (a.env 2)), (52, t52), (44, t52), (53, t53), (54, t54), (55, t55), (13, t13), (14, t54), (15, t55), (56, t54), (57, t57), (6, (.slice none 0 0)), (7, (.int .i64 0)), (8, (.int .i64 0))]), a.defers⟩ K a.defers ((h.bump 3)))
 (opK ((fun h : AHeap => nilV (a.env 0) h) ((h.bump 12))) fun t59 h =>
 rdK (fAddr 2 t59) h fun t60 h =>
 rdK (ixR 2 1 t60 (.int .i64 0)) h fun t61 h =>
 rdK (ld1 t61 h) h fun t62 h =>
 rdK (fAddr 1 t13) h fun t65 h =>
 rdK (ld1 t65 h) h fun t66 h =>
 rdK (fAddr 2 t13) h fun t67 h =>
 rdK (ld1 t67 h) h fun t68 h =>
 X (.call 19 [t62, (a.env 1), (a.env 2), t66, t68]) (fun t69 h =>
 regK 16 h fun b_1 h =>
 opK (nilV (a.env 0) h) fun t72 h =>
 rdK (fAddr 2 t72) h fun t73 h =>
 rdK (ixR 2 1 t73 (.int .i64 0)) h fun t74 h =>
 rdK (ld1 t74 h) h fun t75 h =>
 X (.call 18 [t75, (a.env 1), (a.env 2)]) (fun t78 h =>
 opK (extV 0 t78 h) fun t79 h =>
 opK (extV 1 t78 h) fun t80 h =>
 opK (extV 2 t78 h) fun t81 h =>
 opK (newV [.string ⟨#[]⟩, .slice none 0 0, .int .u64 0, .int .u64 0] (b_1 + 12) h) fun t16 h =>
 stK (stV 4 t16 t79 h) fun h =>
 gopK (wantV t80 true) ((h.bump 8)) (some ((a.env 0), (h.bump 8))) fun t84 h =>
 gopK (wantV t80 true) h (nilV t84 h) fun t85 h =>
 gopK (wantV t80 true) h ((fAddr 0 t85).map (·, h)) fun t86 h =>
 gopK (wantV t80 true) h ((fAddr 0 t86).map (·, h)) fun t87 h =>
 gopK (wantV t80 true) h ((ld1 t87 h).map (·, h)) fun t88 h =>
 opK (pickV t80 t88 (.bool false) h) fun t89 h =>
 condK t89
 (opK ((fun h : AHeap => nilV (a.env 0) h) ((h.bump 8))) fun t91 h =>
  rdK (fAddr 2 t91) h fun t92 h =>
  rdK (ixR 2 1 t92 (.int .i64 1)) h fun t93 h =>
  rdK (ld1 t93 h) h fun t94 h =>
  X (.call 16 [t94, (a.env 1), (a.env 2)]) (fun t97 h =>
  f7_j16 X L K h ⟨(upds a.env [(31, (a.env 0)), (32, t32), (33, t33), (34, t34), (35, t35), (36, (a.env 1)), (37, (a.env 2)), (38, t38), (30, t38), (39, t39), (40, t40), (41, t41), (10, t39), (11, t40), (12, t41), (42, t40), (45, (a.env 0)), (46, t46), (47, t47), (48, t48), (49, t49), (50, (a.env 1)), (51, (a.env 2)), (52, t52), (44, t52), (53, t53), (54, t54), (55, t55), (13, t13), (14, t54), (15, t55), (56, t54), (57, t57), (58, (a.env 0)), (59, t59), (60, t60), (61, t61), (62, t62), (63, (a.env 1)), (64, (a.env 2)), (65, t65), (66, t66), (67, t67), (68, t68), (69, t69), (71, (a.env 0)), (72, t72), (73, t73), (74, t74), (75, t75), (76, (a.env 1)), (77, (a.env 2)), (78, t78), (70, t78), (79, t79), (80, t80), (81, t81), (16, t16), (17, t80), (18, t81), (82, t80), (83, t80), (84, t84), (85, t85), (86, t86), (87, t87), (88, t88), (89, t89), (90, (a.env 0)), (91, t91), (92, t92), (93, t93), (94, t94), (95, (a.env 1)), (96, (a.env 2)), (97, t97)]), a.defers⟩) h)
 (opK ((fun h : AHeap => nilV (a.env 0) h) ((h.bump 8))) fun t99 h =>
  rdK (fAddr 2 t99) h fun t100 h =>
  rdK (ixR 2 1 t100 (.int .i64 1)) h fun t101 h =>
  rdK (ld1 t101 h) h fun t102 h =>
  X (.call 17 [t102, (a.env 1), (a.env 2)]) (fun t105 h =>
  f7_j16 X L K h ⟨(upds a.env [(31, (a.env 0)), (32, t32), (33, t33), (34, t34), (35, t35), (36, (a.env 1)), (37, (a.env 2)), (38, t38), (30, t38), (39, t39), (40, t40), (41, t41), (10, t39), (11, t40), (12, t41), (42, t40), (45, (a.env 0)), (46, t46), (47, t47), (48, t48), (49, t49), (50, (a.env 1)), (51, (a.env 2)), (52, t52), (44, t52), (53, t53), (54, t54), (55, t55), (13, t13), (14, t54), (15, t55), (56, t54), (57, t57), (58, (a.env 0)), (59, t59), (60, t60), (61, t61), (62, t62), (63, (a.env 1)), (64, (a.env 2)), (65, t65), (66, t66), (67, t67), (68, t68), (69, t69), (71, (a.env 0)), (72, t72), (73, t73), (74, t74), (75, t75), (76, (a.env 1)), (77, (a.env 2)), (78, t78), (70, t78), (79, t79), (80, t80), (81, t81), (16, t16), (17, t80), (18, t81), (82, t80), (83, t80), (84, t84), (85, t85), (86, t86), (87, t87), (88, t88), (89, t89), (98, (a.env 0)), (99, t99), (100, t100), (101, t101), (102, t102), (103, (a.env 1)), (104, (a.env 2)), (105, t105)]), a.defers⟩) h)) h) h)) h)) h
/-- (*cubbyhole/tier.Tiers).Get -/
def f7 (X : Caller) (L : Looper) (K : Value → AHeap → Prop) (h : AHeap) (t0 t1 t2 : Value) : Prop :=
 X (.call 12 [t0, t2]) (fun t21 h =>
 rdK ((fun h : AHeap => binC P .neq 24 24 t21 (.int .i64 0) h) ((h.bump 2))) ((h.bump 2)) fun t23 h =>
 condK t23
 (K (.tuple #[(.slice none 0 0), (.int .i64 0), t21]) ((h.bump 4)))
 (X (.call 13 [t0, t1]) (fun t27 h =>
 f7_j6 X L K ((h.bump 3)) ⟨(upds (argsEnv [t0, t1, t2]) [(6, (.slice none 0 0)), (7, (.int .i64 0)), (8, (.int .i64 0)), (19, t0), (20, t2), (21, t21), (9, t21), (22, t21), (23, t23), (25, t0), (26, t1), (27, t27), (1, t27), (28, t0), (29, t27)]), [((.func (.func 14) #[] #[]), [t0, t27])]⟩) ((h.bump 4)))) (((h.bump 3).bump 4))
theorem f7_eq (X : Caller) (L : Looper) (K : Value → AHeap → Prop) (h : AHeap) (t0 t1 t2 : Value) : aJob P X L (.call 7 [t0, t1, t2]) K h = f7 X L K h t0 t1 t2 := by kernel_rfl
/-- cubbyhole/cubbyholelaw42.made -/
def f8 (X : Caller) (L : Looper) (K : Value → AHeap → Prop) (h : AHeap) (t0 : Value) : Prop :=
 regK 2 h fun b h =>
 opK (boxV t0 (b + 0) h) fun t1 h =>
 rdK ((fun h : AHeap => buildA P 29 [(0, (.int .i64 1)), (1, (.int .i64 1000))]) ((h.bump 9))) ((h.bump 9)) fun t6 h =>
 rdK (buildA P 29 [(0, (.int .i64 2)), (1, (.int .i64 1000))]) h fun t7 h =>
 rdK (ldN 2 t1 h) h fun t8 h =>
 X (.call 5 [t6, t7, t8]) (fun t9 h =>
 opK (extV 0 t9 h) fun t10 h =>
 opK (extV 1 t9 h) fun t11 h =>
 rdK ((fun h : AHeap => binC P .neq 24 24 t11 (.int .i64 0) h) ((h.bump 2))) ((h.bump 2)) fun t13 h =>
 condK t13
 (K (.pointer none) ((h.bump 1)))
 (K t10 ((h.bump 2)))) h
theorem f8_eq (X : Caller) (L : Looper) (K : Value → AHeap → Prop) (h : AHeap) (t0 : Value) : aJob P X L (.call 8 [t0]) K h = f8 X L K h t0 := by kernel_rfl
/-- cubbyhole/cubbyholelaw42.gets -/
def f9 (X : Caller) (L : Looper) (K : Value → AHeap → Prop) (h : AHeap) (t0 t1 t2 t3 t4 : Value) : Prop :=
 X (.call 7 [t0, t1, t2]) (fun t18 h =>
 opK (extV 0 t18 h) fun t19 h =>
 opK (extV 1 t18 h) fun t20 h =>
 opK (extV 2 t18 h) fun t21 h =>
 regK 14 h fun b h =>
 opK (convertA P 34 9 t19 (b + 1) h) fun t23 h =>
 rdK (binV P .eql 9 9 t23 t3 h) h fun t25 h =>
 gopK (wantV t25 true) h (some (t20, h)) fun t27 h =>
 gopK (wantV t25 true) h (some (t4, h)) fun t28 h =>
 gopK (wantV t25 true) h ((binV P .eql 35 35 t27 t28 h).map (·, h)) fun t29 h =>
 opK (pickV t25 t29 (.bool false) h) fun t30 h =>
 gopK (wantV t30 true) h (some (t21, h)) fun t32 h =>
 gopK (wantV t30 true) h ((binC P .eql 24 24 t32 (.int .i64 0) h).map (·, h)) fun t33 h =>
 opK (pickV t30 t33 (.bool false) h) fun t34 h =>
 K t34 h) (((h.bump 1).bump 11))
theorem f9_eq (X : Caller) (L : Looper) (K : Value → AHeap → Prop) (h : AHeap) (t0 t1 t2 t3 t4 : Value) : aJob P X L (.call 9 [t0, t1, t2, t3, t4]) K h = f9 X L K h t0 t1 t2 t3 t4 := by kernel_rfl
/-- cubbyhole/cubbyholelaw42.deletes -/
def f10 (X : Caller) (L : Looper) (K : Value → AHeap → Prop) (h : AHeap) (t0 t1 t2 t3 : Value) : Prop :=
 X (.call 21 [t0, t1, t2]) (fun t15 h =>
 opK (extV 0 t15 h) fun t16 h =>
 opK (extV 1 t15 h) fun t17 h =>
 rdK ((fun h : AHeap => binV P .eql 35 35 t16 t3 h) ((h.bump 8))) ((h.bump 8)) fun t20 h =>
 gopK (wantV t20 true) h (some (t17, h)) fun t22 h =>
 gopK (wantV t20 true) h ((binC P .eql 24 24 t22 (.int .i64 0) h).map (·, h)) fun t23 h =>
 opK (pickV t20 t23 (.bool false) h) fun t24 h =>
 K t24 h) (((h.bump 1).bump 9))
theorem f10_eq (X : Caller) (L : Looper) (K : Value → AHeap → Prop) (h : AHeap) (t0 t1 t2 t3 : Value) : aJob P X L (.call 10 [t0, t1, t2, t3]) K h = f10 X L K h t0 t1 t2 t3 := by kernel_rfl
/-- cubbyhole/cache.New -/
def f11 (X : Caller) (L : Looper) (K : Value → AHeap → Prop) (h : AHeap) (t0 : Value) : Prop :=
 regK 3 h fun b h =>
 opK (boxV t0 (b + 0) h) fun t1 h =>
 rdK ((fun h : AHeap => ldN 5 t1 h) ((h.bump 3))) ((h.bump 3)) fun t5 h =>
 X (.call 22 [t5]) (fun t6 h =>
 rdK ((fun h : AHeap => binC P .neq 24 24 t6 (.int .i64 0) h) ((h.bump 2))) ((h.bump 2)) fun t8 h =>
 condK t8
 (K (.tuple #[(.pointer none), t6]) ((h.bump 3)))
 (rdK ((fun h : AHeap => ldN 5 t1 h) ((h.bump 4))) ((h.bump 4)) fun t10 h =>
 X (.call 23 [t10, (.int .u64 0), (.int .u64 0)]) (fun t11 h =>
 K (.tuple #[t11, (.int .i64 0)]) h) h)) h
theorem f11_eq (X : Caller) (L : Looper) (K : Value → AHeap → Prop) (h : AHeap) (t0 : Value) : aJob P X L (.call 11 [t0]) K h = f11 X L K h t0 := by kernel_rfl
/-- (*cubbyhole/tier.Tiers).may -/
def f12 (X : Caller) (L : Looper) (K : Value → AHeap → Prop) (h : AHeap) (t0 t1 : Value) : Prop :=
 X (.call 24 [t0]) (fun t7 h =>
 condK t7
 (K (.int .i64 1) ((h.bump 1)))
 (X (.call 25 [t1]) (fun t10 h =>
  rdK (unV P .not 4 t10) h fun t11 h =>
  condK t11
  (K (.int .i64 2) ((h.bump 1)))
  (K (.int .i64 0) ((h.bump 1)))) ((h.bump 4)))) (((h.bump 1).bump 3))
theorem f12_eq (X : Caller) (L : Looper) (K : Value → AHeap → Prop) (h : AHeap) (t0 t1 : Value) : aJob P X L (.call 12 [t0, t1]) K h = f12 X L K h t0 t1 := by kernel_rfl
def f13_l3 (X : Caller) (L : Looper) (a : AAct) (K : ActPost) (h : AHeap) : Prop :=
 rdK ((fun h : AHeap => binC P .lss 3 3 (a.env 13) (.int .i64 2) h) ((h.bump 1))) ((h.bump 1)) fun t14 h =>
 condK t14
 (rdK ((fun h : AHeap => indexA P 43 (a.env 12) (a.env 13)) ((h.bump 2))) ((h.bump 2)) fun t15 h =>
 X (.call 27 [t15]) (fun t17 h =>
 X (.call 26 [t17, (a.env 1)]) (fun t19 h =>
 rdK ((fun h : AHeap => binC P .add 3 3 (a.env 13) (.int .i64 1) h) ((h.bump 2))) ((h.bump 2)) fun t20 h =>
 K .normal ⟨(upds a.env [(14, t14), (15, t15), (6, t15), (16, t15), (17, t17), (18, (a.env 1)), (19, t19), (1, t19), (20, t20), (13, t20)]), a.defers⟩ h) h) ((h.bump 5)))
 (K (.exit 0) ⟨(upds a.env [(14, t14)]), a.defers⟩ h)
def f13_l10 (X : Caller) (L : Looper) (a : AAct) (K : ActPost) (h : AHeap) : Prop :=
 rdK ((fun h : AHeap => binC P .lss 3 3 (a.env 25) (.int .i64 2) h) ((h.bump 1))) ((h.bump 1)) fun t26 h =>
 condK t26
 (rdK ((fun h : AHeap => indexA P 43 (a.env 24) (a.env 25)) ((h.bump 2))) ((h.bump 2)) fun t27 h =>
 X (.call 28 [t27, (a.env 1)]) (fun t30 h =>
 rdK ((fun h : AHeap => binC P .add 3 3 (a.env 25) (.int .i64 1) h) ((h.bump 2))) ((h.bump 2)) fun t31 h =>
 K .normal ⟨(upds a.env [(26, t26), (27, t27), (8, t27), (28, t27), (29, (a.env 1)), (30, t30), (31, t31), (25, t31)]), a.defers⟩ h) ((h.bump 3)))
 (K (.exit 2) ⟨(upds a.env [(26, t26)]), a.defers⟩ h)
def f13_j8 (X : Caller) (L : Looper) (K : Value → AHeap → Prop) (h : AHeap) (a : AAct) : Prop :=
 leaveA P X Tryz.f13 ⟨(upds a.env [(32, (a.env 1)), (4, (a.env 1))]), a.defers⟩ K a.defers ((h.bump 2))
def f13_j1 (X : Caller) (L : Looper) (K : Value → AHeap → Prop) (h : AHeap) (a : AAct) : Prop :=
 opK ((fun h : AHeap => nilV (a.env 0) h) ((h.bump 5))) fun t22 h =>
 rdK (fAddr 2 t22) h fun t23 h =>
 rdK (ldN 2 t23 h) h fun t24 h =>
 L (f13_l10 X L) ⟨(upds a.env [(21, (a.env 0)), (22, t22), (23, t23), (24, t24), (25, (.int .i64 0))]), a.defers⟩ (blkX 2 (seqX (fun a h => f13_j8 X L K h a) (finX P X Tryz.f13 K))) h
/-- (*cubbyhole/tier.Tiers).advance -/
def f13 (X : Caller) (L : Looper) (K : Value → AHeap → Prop) (h : AHeap) (t0 t1 : Value) : Prop :=
 opK ((fun h : AHeap => nilV t0 h) (((h.bump 1).bump 5))) fun t10 h =>
 rdK (fAddr 2 t10) h fun t11 h =>
 rdK (ldN 2 t11 h) h fun t12 h =>
 L (f13_l3 X L) ⟨(upds (argsEnv [t0, t1]) [(4, (.int .u64 0)), (9, t0), (10, t10), (11, t11), (12, t12), (13, (.int .i64 0))]), []⟩ (blkX 0 (seqX (fun a h => f13_j1 X L K h a) (finX P X Tryz.f13 K))) h
theorem f13_eq (X : Caller) (L : Looper) (K : Value → AHeap → Prop) (h : AHeap) (t0 t1 : Value) : aJob P X L (.call 13 [t0, t1]) K h = f13 X L K h t0 t1 := by kernel_rfl
def f14_j6 (X : Caller) (L : Looper) (K : ActPost) (h : AHeap) (a : AAct) : Prop :=
 rdK ((fun h : AHeap => binC P .add 3 3 (a.env 15) (.int .i64 1) h) ((h.bump 2))) ((h.bump 2)) fun t42 h =>
 K .normal ⟨(upds a.env [(42, t42), (15, t42)]), a.defers⟩ h
def f14_l3 (X : Caller) (L : Looper) (a : AAct) (K : ActPost) (h : AHeap) : Prop :=
 rdK ((fun h : AHeap => binV P .lss 3 3 (a.env 15) (a.env 14) h) ((h.bump 1))) ((h.bump 1)) fun t16 h =>
 condK t16
 (regK 4 h fun b_1 h =>
 rdK (ixS 6 (a.env 13) (a.env 15)) h fun t17 h =>
 rdK (ldN 6 t17 h) h fun t18 h =>
 opK (newV [.int .i64 0, .string ⟨#[]⟩, .slice none 0 0, .int .u64 0, .int .u64 0, .int .u64 0] (b_1 + 2) h) fun t6 h =>
 stK (stV 6 t6 t18 h) fun h =>
 rdK ((fun h : AHeap => fAddr 0 t6) ((h.bump 10))) ((h.bump 10)) fun t19 h =>
 rdK (ld1 t19 h) h fun t20 h =>
 rdK (binC P .eql 73 73 t20 (.int .i64 2) h) h fun t21 h =>
 gopK (wantV t21 true) h (some ((a.env 0), h)) fun t23 h =>
 gopK (wantV t21 true) h (nilV t23 h) fun t24 h =>
 gopK (wantV t21 true) h ((fAddr 0 t24).map (·, h)) fun t25 h =>
 gopK (wantV t21 true) h ((fAddr 1 t25).map (·, h)) fun t26 h =>
 gopK (wantV t21 true) h ((ld1 t26 h).map (·, h)) fun t27 h =>
 opK (pickV t21 t27 (.bool false) h) fun t28 h =>
 condK t28
 (opK ((fun h : AHeap => nilV (a.env 0) h) ((h.bump 13))) fun t30 h =>
  rdK (fAddr 2 t30) h fun t31 h =>
  rdK (ixR 2 1 t31 (.int .i64 1)) h fun t32 h =>
  rdK (ld1 t32 h) h fun t33 h =>
  rdK (fAddr 1 t6) h fun t35 h =>
  rdK (ld1 t35 h) h fun t36 h =>
  rdK (fAddr 2 t6) h fun t37 h =>
  rdK (ld1 t37 h) h fun t38 h =>
  rdK (fAddr 4 t6) h fun t39 h =>
  rdK (ld1 t39 h) h fun t40 h =>
  X (.call 19 [t33, (a.env 1), t36, t38, t40]) (fun t41 h =>
  f14_j6 X L K h ⟨(upds a.env [(16, t16), (17, t17), (18, t18), (6, t6), (19, t19), (20, t20), (21, t21), (22, t21), (23, t23), (24, t24), (25, t25), (26, t26), (27, t27), (28, t28), (29, (a.env 0)), (30, t30), (31, t31), (32, t32), (33, t33), (34, (a.env 1)), (35, t35), (36, t36), (37, t37), (38, t38), (39, t39), (40, t40), (41, t41)]), a.defers⟩) h)
 (f14_j6 X L K h ⟨(upds a.env [(16, t16), (17, t17), (18, t18), (6, t6), (19, t19), (20, t20), (21, t21), (22, t21), (23, t23), (24, t24), (25, t25), (26, t26), (27, t27), (28, t28)]), a.defers⟩))
 (K (.exit 0) ⟨(upds a.env [(16, t16)]), a.defers⟩ h)
def f14_j1 (X : Caller) (L : Looper) (K : Value → AHeap → Prop) (h : AHeap) (a : AAct) : Prop :=
 regK 17 h fun b_2 h =>
 opK (nilV (a.env 0) h) fun t45 h =>
 rdK (fAddr 4 t45) h fun t46 h =>
 rdK (ld1 t46 h) h fun t47 h =>
 opK (nilV (a.env 0) h) fun t51 h =>
 rdK (fAddr 2 t51) h fun t52 h =>
 rdK (ixR 2 1 t52 (.int .i64 1)) h fun t53 h =>
 rdK (ld1 t53 h) h fun t54 h =>
 opK (builtinV P .append [44, 44] [t47, (a.env 4)] (b_2 + 6) h) fun t49 h =>
 chkK (chkR ((ld1 t53 h).map (·, h)) t54 true) <|
 X (.call 29 [t54]) (fun t55 h =>
 opK (builtinV P .append [44, 44] [t49, t55] (b_2 + 13) h) fun t56 h =>
 opK (nilV (a.env 0) h) fun t57 h =>
 rdK (fAddr 4 t57) h fun t58 h =>
 stK (stV 1 t58 t56 h) fun h =>
 leaveA P X Tryz.f14 ⟨(upds a.env [(43, (a.env 0)), (44, (a.env 0)), (45, t45), (46, t46), (47, t47), (48, (a.env 4)), (50, (a.env 0)), (51, t51), (52, t52), (53, t53), (54, t54), (49, t49), (55, t55), (56, t56), (57, t57), (58, t58)]), a.defers⟩ K a.defers h) h
/-- (*cubbyhole/tier.Tiers).finish -/
def f14 (X : Caller) (L : Looper) (K : Value → AHeap → Prop) (h : AHeap) (t0 t1 : Value) : Prop :=
 opK ((fun h : AHeap => nilV t0 h) ((h.bump 7))) fun t8 h =>
 rdK (fAddr 2 t8) h fun t9 h =>
 rdK (ixR 2 1 t9 (.int .i64 0)) h fun t10 h =>
 rdK (ld1 t10 h) h fun t11 h =>
 X (.call 29 [t11]) (fun t12 h =>
 regK 3 h fun b h =>
 opK (builtinV P .len [44] [t12] (b + 1) h) fun t14 h =>
 L (f14_l3 X L) ⟨(upds (argsEnv [t0, t1]) [(7, t0), (8, t8), (9, t9), (10, t10), (11, t11), (12, t12), (4, t12), (13, t12), (14, t14), (15, (.int .i64 0))]), []⟩ (blkX 0 (seqX (fun a h => f14_j1 X L K h a) (finX P X Tryz.f14 K))) h) h
theorem f14_eq (X : Caller) (L : Looper) (K : Value → AHeap → Prop) (h : AHeap) (t0 t1 : Value) : aJob P X L (.call 14 [t0, t1]) K h = f14 X L K h t0 t1 := by kernel_rfl
def f15_j3 (X : Caller) (L : Looper) (K : Value → AHeap → Prop) (h : AHeap) (t10 t30 : Value) : Prop :=
 K t10 ((h.bump 2))
def f15_j1 (X : Caller) (L : Looper) (K : Value → AHeap → Prop) (h : AHeap) (t10 t24 t25 t0 t1 t2 t26 t27 t28 t30 : Value) : Prop :=
 rdK ((fun h : AHeap => binC P .eql 24 24 t10 (.int .i64 12) h) ((h.bump 2))) ((h.bump 2)) fun t25_1 h =>
 condK t25_1
 (X (.call 16 [t0, t1, t2]) (fun t29 h =>
  f15_j3 X L K h t10 t30) ((h.bump 4)))
 (f15_j3 X L K h t10 t30)
/-- cubbyhole/tier.set -/
def f15 (X : Caller) (L : Looper) (K : Value → AHeap → Prop) (h : AHeap) (t0 t1 t2 t3 t4 : Value) : Prop :=
 rdK ((fun h : AHeap => binC P .eql 33 33 t4 (.int .u64 0) h) (((h.bump 1).bump 2))) (((h.bump 1).bump 2)) fun t12 h =>
 condK t12
 (X (.call 30 [t0, t1, t2, t3]) (fun t17 h =>
  f15_j1 X L K h t17 undef undef t0 t1 t2 undef undef undef undef) ((h.bump 6)))
 (X (.call 31 [t0, t1, t2, t3, t4]) (fun t23 h =>
  f15_j1 X L K h t23 undef undef t0 t1 t2 undef undef undef undef) ((h.bump 7)))
theorem f15_eq (X : Caller) (L : Looper) (K : Value → AHeap → Prop) (h : AHeap) (t0 t1 t2 t3 t4 : Value) : aJob P X L (.call 15 [t0, t1, t2, t3, t4]) K h = f15 X L K h t0 t1 t2 t3 t4 := by kernel_rfl
/-- (*cubbyhole/cache.Cache).Delete -/
def f16 (X : Caller) (L : Looper) (K : Value → AHeap → Prop) (h : AHeap) (t0 t1 t2 : Value) : Prop :=
 regK 6 ((h.bump 2)) fun b h =>
 X (.call 33 [t2]) (fun t11 h =>
 opK (bsliceV P 121 1 [(0, t11)] (b + 3) h) fun t12 h =>
 X (.call 32 [t0, t12]) (fun t13 h =>
 rdK ((fun h : AHeap => binC P .neq 24 24 t13 (.int .i64 0) h) ((h.bump 2))) ((h.bump 2)) fun t15 h =>
 condK t15
 (K (.tuple #[(.bool false), t13]) ((h.bump 3)))
 (X (.call 35 [t0, (.int .i64 4)]) (fun t21 h =>
 X (.call 34 [t0, t1, t2, t21]) (fun t22 h =>
 K (.tuple #[t22, (.int .i64 0)]) h) h) ((h.bump 8)))) h) h
theorem f16_eq (X : Caller) (L : Looper) (K : Value → AHeap → Prop) (h : AHeap) (t0 t1 t2 : Value) : aJob P X L (.call 16 [t0, t1, t2]) K h = f16 X L K h t0 t1 t2 := by kernel_rfl
/-- (*cubbyhole/cache.Cache).Get -/
def f17 (X : Caller) (L : Looper) (K : Value → AHeap → Prop) (h : AHeap) (t0 t1 t2 : Value) : Prop :=
 regK 4 h fun b h =>
 opK (boxV t0 (b + 0) h) fun t3 h =>
 regK 6 h fun b_1 h =>
 rdK (ld1 t3 h) h fun t12 h =>
 X (.call 33 [t2]) (fun t14 h =>
 chkK (chkR ((ld1 t3 h).map (·, h)) t12 true) <|
 opK (bsliceV P 121 1 [(0, t14)] (b_1 + 3) h) fun t15 h =>
 X (.call 32 [t12, t15]) (fun t16 h =>
 rdK ((fun h : AHeap => binC P .neq 24 24 t16 (.int .i64 0) h) ((h.bump 2))) ((h.bump 2)) fun t18 h =>
 condK t18
 (K (.tuple #[(.slice none 0 0), (.bool false), t16]) ((h.bump 4)))
 (regK 1 h fun b_2 h =>
 opK (newV [.string ⟨#[]⟩, .slice none 0 0, .int .u64 0, .int .u64 0] (b_2 + 0) h) fun t10 h =>
 rdK ((fun h : AHeap => ld1 t3 h) ((h.bump 6))) ((h.bump 6)) fun t20 h =>
 X (.call 34 [t20, t1, t2, (.func (.func 36) #[] #[t3, t10])]) (fun t24 h =>
 rdK ((fun h : AHeap => fAddr 1 t10) ((h.bump 6))) ((h.bump 6)) fun t25 h =>
 rdK (ld1 t25 h) h fun t26 h =>
 K (.tuple #[t26, t24, (.int .i64 0)]) h) h)) h) h
theorem f17_eq (X : Caller) (L : Looper) (K : Value → AHeap → Prop) (h : AHeap) (t0 t1 t2 : Value) : aJob P X L (.call 17 [t0, t1, t2]) K h = f17 X L K h t0 t1 t2 := by kernel_rfl
/-- (*cubbyhole/cache.Cache).Peek -/
def f18 (X : Caller) (L : Looper) (K : Value → AHeap → Prop) (h : AHeap) (t0 t1 t2 : Value) : Prop :=
 regK 4 h fun b h =>
 opK (boxV t0 (b + 0) h) fun t3 h =>
 opK (newV [.string ⟨#[]⟩, .slice none 0 0, .int .u64 0, .int .u64 0] (b + 1) h) fun t6 h =>
 regK 6 h fun b_1 h =>
 rdK (ld1 t3 h) h fun t12 h =>
 X (.call 33 [t2]) (fun t14 h =>
 chkK (chkR ((ld1 t3 h).map (·, h)) t12 true) <|
 opK (bsliceV P 121 1 [(0, t14)] (b_1 + 3) h) fun t15 h =>
 X (.call 32 [t12, t15]) (fun t16 h =>
 rdK ((fun h : AHeap => binC P .neq 24 24 t16 (.int .i64 0) h) ((h.bump 2))) ((h.bump 2)) fun t18 h =>
 condK t18
 (rdK ((fun h : AHeap => buildA P 59 []) ((h.bump 5))) ((h.bump 5)) fun t19 h =>
  stK (stV 4 t6 t19 h) fun h =>
  retK (consR (ldN 4 t6 h) (consR (some (.bool false)) (consR (some t16) (some [])))) K h)
 (regK 1 h fun b_2 h =>
 opK (newV [.string ⟨#[]⟩, .slice none 0 0, .int .u64 0, .int .u64 0] (b_2 + 0) h) fun t10 h =>
 rdK ((fun h : AHeap => ld1 t3 h) ((h.bump 6))) ((h.bump 6)) fun t21 h =>
 X (.call 34 [t21, t1, t2, (.func (.func 40) #[] #[t3, t10])]) (fun t25 h =>
 rdK ((fun h : AHeap => ldN 4 t10 h) ((h.bump 5))) ((h.bump 5)) fun t26 h =>
 stK (stV 4 t6 t26 h) fun h =>
 retK (consR (ldN 4 t6 h) (consR (some t25) (consR (some (.int .i64 0)) (some [])))) K h) h)) h) h
theorem f18_eq (X : Caller) (L : Looper) (K : Value → AHeap → Prop) (h : AHeap) (t0 t1 t2 : Value) : aJob P X L (.call 18 [t0, t1, t2]) K h = f18 X L K h t0 t1 t2 := by kernel_rfl
/-- cubbyhole/tier.keep -/
def f19 (X : Caller) (L : Looper) (K : Value → AHeap → Prop) (h : AHeap) (t0 t1 t2 t3 t4 : Value) : Prop :=
 rdK ((fun h : AHeap => binC P .eql 33 33 t4 (.int .u64 18446744073709551615) h) ((h.bump 3))) ((h.bump 3)) fun t12 h =>
 condK t12
 (X (.call 30 [t0, t1, t2, t3]) (fun t17 h =>
  K (.tuple #[]) h) ((h.bump 5)))
 (X (.call 41 [t4, t1]) (fun t21 h =>
  rdK (unV P .not 4 t21) h fun t22 h =>
  condK t22
  (X (.call 42 [t4, t1]) (fun t29 h =>
   X (.call 31 [t0, t1, t2, t3, t29]) (fun t30 h =>
   K (.tuple #[]) h) h) ((h.bump 8)))
  (K (.tuple #[]) h)) ((h.bump 5)))
theorem f19_eq (X : Caller) (L : Looper) (K : Value → AHeap → Prop) (h : AHeap) (t0 t1 t2 t3 t4 : Value) : aJob P X L (.call 19 [t0, t1, t2, t3, t4]) K h = f19 X L K h t0 t1 t2 t3 t4 := by kernel_rfl
/-- bytes.Clone -/
def f20 (X : Caller) (L : Looper) (K : Value → AHeap → Prop) (h : AHeap) (t0 : Value) : Prop :=
 rdK ((fun h : AHeap => binC P .eql 34 34 t0 (.slice none 0 0) h) (((h.bump 1).bump 2))) (((h.bump 1).bump 2)) fun t4 h =>
 condK t4
 (K (.slice none 0 0) ((h.bump 1)))
 (regK 4 h fun b h =>
 opK (bsliceV P 34 0 [] (b + 0) h) fun t5 h =>
 opK (builtinV P .append [34, 34] [t5, t0] (b + 2) h) fun t7 h =>
 K t7 h)
theorem f20_eq (X : Caller) (L : Looper) (K : Value → AHeap → Prop) (h : AHeap) (t0 : Value) : aJob P X L (.call 20 [t0]) K h = f20 X L K h t0 := by kernel_rfl
def f21_j12 (X : Caller) (L : Looper) (K : ActPost) (h : AHeap) (a : AAct) : Prop :=
 rdK ((fun h : AHeap => binC P .add 3 3 (a.env 28) (.int .i64 1) h) ((h.bump 2))) ((h.bump 2)) fun t46 h =>
 K .normal ⟨(upds a.env [(46, t46), (28, t46)]), a.defers⟩ h
def f21_l9 (X : Caller) (L : Looper) (a : AAct) (K : ActPost) (h : AHeap) : Prop :=
 rdK ((fun h : AHeap => binC P .lss 3 3 (a.env 28) (.int .i64 2) h) ((h.bump 1))) ((h.bump 1)) fun t29 h =>
 condK t29
 (rdK ((fun h : AHeap => indexA P 43 (a.env 27) (a.env 28)) ((h.bump 4))) ((h.bump 4)) fun t31 h =>
 X (.call 16 [t31, (a.env 1), (a.env 2)]) (fun t36 h =>
 opK (extV 0 t36 h) fun t37 h =>
 opK (extV 1 t36 h) fun t38 h =>
 gopK (wantV t37 true) ((h.bump 5)) (some ((a.env 6), (h.bump 5))) fun t41 h =>
 gopK (wantV t37 true) h ((binC P .eql 35 35 t41 (.int .i64 0) h).map (·, h)) fun t42 h =>
 opK (pickV t37 t42 (.bool false) h) fun t43 h =>
 condK t43
 (rdK ((fun h : AHeap => binC P .add 3 3 (a.env 28) (.int .i64 1) h) ((h.bump 3))) ((h.bump 3)) fun t45 h =>
  f21_j12 X L K h ⟨(upds a.env [(29, t29), (30, (a.env 28)), (31, t31), (9, (a.env 28)), (10, t31), (33, t31), (34, (a.env 1)), (35, (a.env 2)), (36, t36), (32, t36), (37, t37), (38, t38), (11, t37), (12, t38), (39, t37), (40, t37), (41, t41), (42, t42), (43, t43), (44, (a.env 28)), (45, t45), (6, t45)]), a.defers⟩)
 (f21_j12 X L K h ⟨(upds a.env [(29, t29), (30, (a.env 28)), (31, t31), (9, (a.env 28)), (10, t31), (33, t31), (34, (a.env 1)), (35, (a.env 2)), (36, t36), (32, t36), (37, t37), (38, t38), (11, t37), (12, t38), (39, t37), (40, t37), (41, t41), (42, t42), (43, t43)]), a.defers⟩)) ((h.bump 9)))
 (K (.exit 0) ⟨(upds a.env [(29, t29)]), a.defers⟩ h)
def f21_j7 (X : Caller) (L : Looper) (K : Value → AHeap → Prop) (h : AHeap) (a : AAct) : Prop :=
 leaveA P X Tryz.f21 ⟨(upds a.env [(47, (a.env 6)), (6, (a.env 6)), (7, (.int .i64 0))]), a.defers⟩ K a.defers ((h.bump 3))
def f21_j6 (X : Caller) (L : Looper) (K : Value → AHeap → Prop) (h : AHeap) (a : AAct) : Prop :=
 opK ((fun h : AHeap => nilV (a.env 0) h) ((h.bump 5))) fun t25 h =>
 rdK (fAddr 2 t25) h fun t26 h =>
 rdK (ldN 2 t26 h) h fun t27 h =>
 L (f21_l9 X L) ⟨(upds a.env [(24, (a.env 0)), (25, t25), (26, t26), (27, t27), (28, (.int .i64 0))]), a.defers⟩ (blkX 0 (seqX (fun a h => f21_j7 X L K h a) (finX P X Tryz.f21 K))) h
/-- (*cubbyhole/tier.Tiers).Delete -/
def f21 (X : Caller) (L : Looper) (K : Value → AHeap → Prop) (h : AHeap) (t0 t1 t2 : Value) : Prop :=
 X (.call 12 [t0, t2]) (fun t15 h =>
 rdK ((fun h : AHeap => binC P .neq 24 24 t15 (.int .i64 0) h) ((h.bump 2))) ((h.bump 2)) fun t17 h =>
 condK t17
 (K (.tuple #[(.int .i64 0), t15]) ((h.bump 3)))
 (X (.call 13 [t0, t1]) (fun t21 h =>
 f21_j6 X L K ((h.bump 3)) ⟨(upds (argsEnv [t0, t1, t2]) [(6, (.int .i64 0)), (7, (.int .i64 0)), (13, t0), (14, t2), (15, t15), (8, t15), (16, t15), (17, t17), (19, t0), (20, t1), (21, t21), (1, t21), (22, t0), (23, t21)]), [((.func (.func 14) #[] #[]), [t0, t21])]⟩) ((h.bump 4)))) (((h.bump 2).bump 4))
theorem f21_eq (X : Caller) (L : Looper) (K : Value → AHeap → Prop) (h : AHeap) (t0 t1 t2 : Value) : aJob P X L (.call 21 [t0, t1, t2]) K h = f21 X L K h t0 t1 t2 := by kernel_rfl
/-- cubbyhole/config.Check -/
def f22 (X : Caller) (L : Looper) (K : Value → AHeap → Prop) (h : AHeap) (t0 : Value) : Prop :=
 regK 2 h fun b h =>
 opK (boxV t0 (b + 0) h) fun t1 h =>
 rdK ((fun h : AHeap => fAddr 0 t1) ((h.bump 5))) ((h.bump 5)) fun t4 h =>
 rdK (ld1 t4 h) h fun t5 h =>
 X (.call 43 [t5, (.int .i64 1), (.int .i64 1048576)]) (fun t6 h =>
 rdK (unV P .not 4 t6) h fun t7 h =>
 condK t7
 (K (.int .i64 240) ((h.bump 1)))
 (rdK ((fun h : AHeap => fAddr 1 t1) ((h.bump 5))) ((h.bump 5)) fun t9 h =>
  rdK (ld1 t9 h) h fun t10 h =>
  X (.call 43 [t10, (.int .i64 1), (.int .i64 1099511627776)]) (fun t11 h =>
  rdK (unV P .not 4 t11) h fun t12 h =>
  condK t12
  (K (.int .i64 241) ((h.bump 1)))
  (rdK ((fun h : AHeap => fAddr 2 t1) ((h.bump 5))) ((h.bump 5)) fun t14 h =>
   rdK (ld1 t14 h) h fun t15 h =>
   X (.call 43 [t15, (.int .i64 0), (.int .i64 99)]) (fun t16 h =>
   rdK (unV P .not 4 t16) h fun t17 h =>
   condK t17
   (K (.int .i64 242) ((h.bump 1)))
   (K (.int .i64 0) ((h.bump 1)))) h)) h)) h
theorem f22_eq (X : Caller) (L : Looper) (K : Value → AHeap → Prop) (h : AHeap) (t0 : Value) : aJob P X L (.call 22 [t0]) K h = f22 X L K h t0 := by kernel_rfl
/-- cubbyhole/cache.made -/
def f23 (X : Caller) (L : Looper) (K : Value → AHeap → Prop) (h : AHeap) (t0 t1 t2 : Value) : Prop :=
 regK 2 h fun b h =>
 opK (boxV t0 (b + 0) h) fun t3 h =>
 rdK ((fun h : AHeap => ldN 5 t3 h) ((h.bump 7))) ((h.bump 7)) fun t14 h =>
 X (.call 44 [t14]) (fun t15 h =>
 opK (extV 0 t15 h) fun t16 h =>
 opK (extV 1 t15 h) fun t17 h =>
 X (.call 45 [t16]) (fun t20 h =>
 opK (extV 0 t20 h) fun t21 h =>
 opK (extV 1 t20 h) fun t22 h =>
 rdK ((fun h : AHeap => fAddr 0 t3) ((h.bump 10))) ((h.bump 10)) fun t24 h =>
 rdK (ld1 t24 h) h fun t25 h =>
 rdK (fAddr 1 t3) h fun t26 h =>
 rdK (ld1 t26 h) h fun t27 h =>
 X (.call 46 [t25, t27]) (fun t28 h =>
 opK (extV 0 t28 h) fun t29 h =>
 opK (extV 1 t28 h) fun t30 h =>
 regK 18 h fun b_1 h =>
 rdK (fAddr 3 t3) h fun t31 h =>
 rdK (ld1 t31 h) h fun t32 h =>
 rdK (fAddr 4 t3) h fun t33 h =>
 rdK (ld1 t33 h) h fun t34 h =>
 rdK (ldN 5 t3 h) h fun t45 h =>
 X (.call 48 [t32, t34]) (fun t35 h =>
 chkK (chkR ((ldN 5 t3 h).map (·, h)) t45 true) <|
 X (.call 47 [t35]) (fun t36 h =>
 chkK (chkR ((ldN 5 t3 h).map (·, h)) t45 true) <|
 X (.call 49 [t2]) (fun t38 h =>
 chkK (chkR ((ldN 5 t3 h).map (·, h)) t45 true) <|
 X (.call 50 [t1]) (fun t42 h =>
 chkK (chkR ((ldN 5 t3 h).map (·, h)) t45 true) <|
 X (.call 51 []) (fun t43 h =>
 chkK (chkR ((ldN 5 t3 h).map (·, h)) t45 true) <|
 rdK (buildA P 90 [(0, t36), (1, t38), (2, t21), (3, t29), (4, t42), (5, t43)]) h fun t44 h =>
 rdK (buildA P 92 [(0, t44), (1, t45)]) h fun t46 h =>
 opK (boxV t46 (b_1 + 16) h) fun t47 h =>
 K t47 h) h) h) h) h) h) h) ((h.bump 7))) h
theorem f23_eq (X : Caller) (L : Looper) (K : Value → AHeap → Prop) (h : AHeap) (t0 t1 t2 : Value) : aJob P X L (.call 23 [t0, t1, t2]) K h = f23 X L K h t0 t1 t2 := by kernel_rfl
/-- (*cubbyhole/tier.Tiers).none -/
def f24 (X : Caller) (L : Looper) (K : Value → AHeap → Prop) (h : AHeap) (t0 : Value) : Prop :=
 rdK ((fun h : AHeap => binC P .eql 23 23 t0 (.pointer none) h) (((h.bump 1).bump 11))) (((h.bump 1).bump 11)) fun t4 h =>
 gopK (wantV t4 false) h (some (t0, h)) fun t6 h =>
 gopK (wantV t4 false) h (nilV t6 h) fun t7 h =>
 gopK (wantV t4 false) h ((fAddr 2 t7).map (·, h)) fun t8 h =>
 gopK (wantV t4 false) h ((ixR 2 1 t8 (.int .i64 0)).map (·, h)) fun t9 h =>
 gopK (wantV t4 false) h ((ld1 t9 h).map (·, h)) fun t10 h =>
 gopK (wantV t4 false) h ((binC P .eql 42 42 t10 (.pointer none) h).map (·, h)) fun t11 h =>
 opK (pickV t4 (.bool true) t11 h) fun t12 h =>
 K t12 h
theorem f24_eq (X : Caller) (L : Looper) (K : Value → AHeap → Prop) (h : AHeap) (t0 : Value) : aJob P X L (.call 24 [t0]) K h = f24 X L K h t0 := by kernel_rfl
/-- cubbyhole/entry.ValidKey -/
def f25 (X : Caller) (L : Looper) (K : Value → AHeap → Prop) (h : AHeap) (t0 : Value) : Prop :=
 regK 9 ((h.bump 1)) fun b h =>
 opK (builtinV P .len [9] [t0] (b + 1) h) fun t4 h =>
 rdK (binC P .gtr 3 3 t4 (.int .i64 0) h) h fun t5 h =>
 gopK (wantV t5 true) h (some (t0, h)) fun t7 h =>
 gopK (wantV t5 true) h (builtinV P .len [9] [t7] (b + 5) h) fun t8 h =>
 gopK (wantV t5 true) h ((binC P .leq 3 3 t8 (.int .i64 250) h).map (·, h)) fun t9 h =>
 opK (pickV t5 t9 (.bool false) h) fun t10 h =>
 K t10 h
theorem f25_eq (X : Caller) (L : Looper) (K : Value → AHeap → Prop) (h : AHeap) (t0 : Value) : aJob P X L (.call 25 [t0]) K h = f25 X L K h t0 := by kernel_rfl
/-- cubbyhole/tick.Effective -/
def f26 (X : Caller) (L : Looper) (K : Value → AHeap → Prop) (h : AHeap) (t0 t1 : Value) : Prop :=
 regK 4 ((h.bump 1)) fun b h =>
 opK (builtinV P .max [33, 33] [t0, t1] (b + 2) h) fun t7 h =>
 K t7 h
theorem f26_eq (X : Caller) (L : Looper) (K : Value → AHeap → Prop) (h : AHeap) (t0 t1 : Value) : aJob P X L (.call 26 [t0, t1]) K h = f26 X L K h t0 t1 := by kernel_rfl
/-- (*cubbyhole/cache.Cache).Now -/
def f27 (X : Caller) (L : Looper) (K : Value → AHeap → Prop) (h : AHeap) (t0 : Value) : Prop :=
 X (.call 52 [t0]) (fun t4 h =>
 condK t4
 (K (.int .u64 0) ((h.bump 1)))
 (opK ((fun h : AHeap => nilV t0 h) ((h.bump 7))) fun t6 h =>
 rdK (fAddr 0 t6) h fun t7 h =>
 rdK (fAddr 4 t7) h fun t8 h =>
 rdK (ld1 t8 h) h fun t9 h =>
 X (.call 53 [t9]) (fun t10 h =>
 K t10 h) h)) (((h.bump 1).bump 2))
theorem f27_eq (X : Caller) (L : Looper) (K : Value → AHeap → Prop) (h : AHeap) (t0 : Value) : aJob P X L (.call 27 [t0]) K h = f27 X L K h t0 := by kernel_rfl
/-- (*cubbyhole/cache.Cache).Advance -/
def f28 (X : Caller) (L : Looper) (K : Value → AHeap → Prop) (h : AHeap) (t0 t1 : Value) : Prop :=
 X (.call 32 [t0, (.slice none 0 0)]) (fun t7 h =>
 rdK ((fun h : AHeap => binC P .neq 24 24 t7 (.int .i64 0) h) ((h.bump 2))) ((h.bump 2)) fun t9 h =>
 condK t9
 (K t7 ((h.bump 2)))
 (X (.call 54 [t0, t1, (.func (.func 55) #[] #[])]) (fun t13 h =>
 K (.int .i64 0) ((h.bump 1))) ((h.bump 3)))) (((h.bump 1).bump 3))
theorem f28_eq (X : Caller) (L : Looper) (K : Value → AHeap → Prop) (h : AHeap) (t0 t1 : Value) : aJob P X L (.call 28 [t0, t1]) K h = f28 X L K h t0 t1 := by kernel_rfl
/-- (*cubbyhole/cache.Cache).Drain -/
def f29 (X : Caller) (L : Looper) (K : Value → AHeap → Prop) (h : AHeap) (t0 : Value) : Prop :=
 X (.call 52 [t0]) (fun t6 h =>
 condK t6
 (K (.slice none 0 0) ((h.bump 1)))
 (opK ((fun h : AHeap => nilV t0 h) ((h.bump 17))) fun t9 h =>
 rdK (fAddr 0 t9) h fun t10 h =>
 rdK (fAddr 5 t10) h fun t11 h =>
 rdK (ld1 t11 h) h fun t12 h =>
 opK (nilV t0 h) fun t14 h =>
 rdK (fAddr 0 t14) h fun t15 h =>
 rdK (fAddr 5 t15) h fun t16 h =>
 rdK (ld1 t16 h) h fun t17 h =>
 X (.call 57 [t17]) (fun t18 h =>
 chkK (chkR ((ld1 t11 h).map (·, h)) t12 true) <|
 X (.call 56 [t12, t18]) (fun t19 h =>
 opK (extV 0 t19 h) fun t20 h =>
 opK (extV 1 t19 h) fun t21 h =>
 K t20 ((h.bump 2))) h) h)) (((h.bump 1).bump 2))
theorem f29_eq (X : Caller) (L : Looper) (K : Value → AHeap → Prop) (h : AHeap) (t0 : Value) : aJob P X L (.call 29 [t0]) K h = f29 X L K h t0 := by kernel_rfl
/-- (*cubbyhole/cache.Cache).Set -/
def f30 (X : Caller) (L : Looper) (K : Value → AHeap → Prop) (h : AHeap) (t0 t1 t2 t3 : Value) : Prop :=
 X (.call 58 [t0, t1, t2, t3, (.func (.func 59) #[] #[])]) (fun t13 h =>
 K t13 h) (((h.bump 1).bump 6))
theorem f30_eq (X : Caller) (L : Looper) (K : Value → AHeap → Prop) (h : AHeap) (t0 t1 t2 t3 : Value) : aJob P X L (.call 30 [t0, t1, t2, t3]) K h = f30 X L K h t0 t1 t2 t3 := by kernel_rfl
/-- (*cubbyhole/cache.Cache).SetTTL -/
def f31 (X : Caller) (L : Looper) (K : Value → AHeap → Prop) (h : AHeap) (t0 t1 t2 t3 t4 : Value) : Prop :=
 regK 3 h fun b h =>
 opK (boxV t0 (b + 0) h) fun t5 h =>
 opK (boxV t4 (b + 1) h) fun t9 h =>
 rdK ((fun h : AHeap => ld1 t5 h) ((h.bump 2))) ((h.bump 2)) fun t11 h =>
 X (.call 52 [t11]) (fun t12 h =>
 condK t12
 (K (.int .i64 1) ((h.bump 1)))
 (rdK ((fun h : AHeap => ld1 t9 h) ((h.bump 2))) ((h.bump 2)) fun t13 h =>
 rdK (binC P .eql 33 33 t13 (.int .u64 0) h) h fun t14 h =>
 condK t14
 (K (.int .i64 2) ((h.bump 1)))
 (rdK ((fun h : AHeap => ld1 t5 h) ((h.bump 7))) ((h.bump 7)) fun t15 h =>
 X (.call 58 [t15, t1, t2, t3, (.func (.func 60) #[] #[t5, t9])]) (fun t20 h =>
 K t20 h) h))) h
theorem f31_eq (X : Caller) (L : Looper) (K : Value → AHeap → Prop) (h : AHeap) (t0 t1 t2 t3 t4 : Value) : aJob P X L (.call 31 [t0, t1, t2, t3, t4]) K h = f31 X L K h t0 t1 t2 t3 t4 := by kernel_rfl
def f32_j5 (X : Caller) (L : Looper) (K : Value → AHeap → Prop) (h : AHeap) (t1 t5 t23 t22 t24 t25 t26 t4 : Value) : Prop :=
 regK 6 h fun b h =>
 opK (bsliceV P 121 1 [(0, t5)] (b + 2) h) fun t24_1 h =>
 opK (builtinV P .append [121, 121] [t1, t24_1] (b + 3) h) fun t25_1 h =>
 X (.call 63 [t25_1]) (fun t26_1 h =>
 K t26_1 h) h
/-- (*cubbyhole/cache.Cache).check -/
def f32 (X : Caller) (L : Looper) (K : Value → AHeap → Prop) (h : AHeap) (t0 t1 : Value) : Prop :=
 X (.call 52 [t0]) (fun t7 h =>
 condK t7
 (K (.int .i64 1) ((h.bump 1)))
 (opK ((fun h : AHeap => nilV t0 h) (((h.bump 1).bump 14))) fun t9 h =>
 rdK (fAddr 0 t9) h fun t10 h =>
 rdK (fAddr 5 t10) h fun t11 h =>
 rdK (ld1 t11 h) h fun t12 h =>
 opK (nilV t0 h) fun t15 h =>
 rdK (fAddr 0 t15) h fun t16 h =>
 rdK (fAddr 0 t16) h fun t17 h =>
 rdK (ld1 t17 h) h fun t18 h =>
 X (.call 57 [t12]) (fun t13 h =>
 chkK (chkR ((ld1 t17 h).map (·, h)) t18 true) <|
 X (.call 62 [t18]) (fun t19 h =>
 rdK (binV P .add 3 3 t13 t19 h) h fun t20 h =>
 rdK (binC P .gtr 3 3 t20 (.int .i64 1048576) h) h fun t21 h =>
 condK t21
 (f32_j5 X L K ((h.bump 1)) t1 ((.int .i64 7)) undef undef undef undef undef ((.int .i64 0)))
 (f32_j5 X L K h t1 ((.int .i64 0)) undef undef undef undef undef ((.int .i64 0)))) h) h)) (((h.bump 1).bump 2))
theorem f32_eq (X : Caller) (L : Looper) (K : Value → AHeap → Prop) (h : AHeap) (t0 t1 : Value) : aJob P X L (.call 32 [t0, t1]) K h = f32 X L K h t0 t1 := by kernel_rfl
/-- cubbyhole/cache.keyed -/
def f33 (X : Caller) (L : Looper) (K : Value → AHeap → Prop) (h : AHeap) (t0 : Value) : Prop :=
 X (.call 25 [t0]) (fun t4 h =>
 X (.call 64 [t4, (.int .i64 2)]) (fun t5 h =>
 K t5 h) h) (((h.bump 1).bump 4))
theorem f33_eq (X : Caller) (L : Looper) (K : Value → AHeap → Prop) (h : AHeap) (t0 : Value) : aJob P X L (.call 33 [t0]) K h = f33 X L K h t0 := by kernel_rfl
/-- (*cubbyhole/cache.Cache).find -/
def f34 (X : Caller) (L : Looper) (K : Value → AHeap → Prop) (h : AHeap) (t0 t1 t2 t3 : Value) : Prop :=
 regK 4 h fun b h =>
 opK (boxV t0 (b + 0) h) fun t4 h =>
 opK (boxV t2 (b + 1) h) fun t6 h =>
 opK (boxV t3 (b + 2) h) fun t7 h =>
 opK (newV [.bool false] (b + 3) h) fun t8 h =>
 rdK ((fun h : AHeap => ld1 t4 h) ((h.bump 4))) ((h.bump 4)) fun t9 h =>
 X (.call 54 [t9, t1, (.func (.func 65) #[] #[t4, t6, t8, t7])]) (fun t12 h =>
 rdK ((fun h : AHeap => ld1 t8 h) ((h.bump 2))) ((h.bump 2)) fun t13 h =>
 stK (stV 1 t8 t13 h) fun h =>
 retK (consR (ld1 t8 h) (some [])) K h) h
theorem f34_eq (X : Caller) (L : Looper) (K : Value → AHeap → Prop) (h : AHeap) (t0 t1 t2 t3 : Value) : aJob P X L (.call 34 [t0, t1, t2, t3]) K h = f34 X L K h t0 t1 t2 t3 := by kernel_rfl
/-- (*cubbyhole/cache.Cache).leave -/
def f35 (X : Caller) (L : Looper) (K : Value → AHeap → Prop) (h : AHeap) (t0 t1 : Value) : Prop :=
 regK 3 h fun b h =>
 opK (boxV t0 (b + 0) h) fun t2 h =>
 opK (boxV t1 (b + 1) h) fun t3 h =>
 K (.func (.func 67) #[] #[t2, t3]) ((h.bump 2))
theorem f35_eq (X : Caller) (L : Looper) (K : Value → AHeap → Prop) (h : AHeap) (t0 t1 : Value) : aJob P X L (.call 35 [t0, t1]) K h = f35 X L K h t0 t1 := by kernel_rfl
/-- (*cubbyhole/cache.Cache).Get$1 -/
def f36 (X : Caller) (L : Looper) (K : Value → AHeap → Prop) (h : AHeap) (t0 t1 t2 : Value) : Prop :=
 rdK ((fun h : AHeap => ld1 t1 h) ((h.bump 11))) ((h.bump 11)) fun t8 h =>
 opK (nilV t8 h) fun t9 h =>
 rdK (fAddr 0 t9) h fun t10 h =>
 rdK (fAddr 0 t10) h fun t11 h =>
 rdK (ld1 t11 h) h fun t12 h =>
 X (.call 37 [t12, t0]) (fun t14 h =>
 opK (extV 0 t14 h) fun t15 h =>
 opK (extV 1 t14 h) fun t16 h =>
 stK (stV 4 t2 t15 h) fun h =>
 rdK ((fun h : AHeap => ld1 t1 h) ((h.bump 14))) ((h.bump 14)) fun t18 h =>
 opK (nilV t18 h) fun t19 h =>
 rdK (fAddr 0 t19) h fun t20 h =>
 rdK (fAddr 2 t20) h fun t21 h =>
 rdK (ld1 t21 h) h fun t22 h =>
 X (.call 38 [t22, t0]) (fun t24 h =>
 opK (extV 0 t24 h) fun t25 h =>
 opK (extV 1 t24 h) fun t26 h =>
 opK (extV 2 t24 h) fun t27 h =>
 rdK ((fun h : AHeap => ld1 t1 h) ((h.bump 4))) ((h.bump 4)) fun t28 h =>
 X (.call 39 [t28, t0, t26]) (fun t31 h =>
 K (.tuple #[]) h) h) h) h
theorem f36_eq (X : Caller) (L : Looper) (K : Value → AHeap → Prop) (h : AHeap) (t0 t1 t2 : Value) : aJob P X L (.call 36 [t0, t1, t2]) K h = f36 X L K h t0 t1 t2 := by kernel_rfl
/-- (*cubbyhole/dict.Dict).Get -/
def f37 (X : Caller) (L : Looper) (K : Value → AHeap → Prop) (h : AHeap) (t0 t1 : Value) : Prop :=
 regK 2 h fun b h =>
 opK (newV [.string ⟨#[]⟩, .slice none 0 0, .int .u64 0, .int .u64 0] (b + 0) h) fun t4 h =>
 X (.call 73 [t0]) (fun t7 h =>
 condK t7
 (rdK ((fun h : AHeap => buildA P 59 []) ((h.bump 3))) ((h.bump 3)) fun t8 h =>
  stK (stV 4 t4 t8 h) fun h =>
  retK (consR (ldN 4 t4 h) (consR (some (.int .i64 1)) (some []))) K h)
 (opK ((fun h : AHeap => nilV t0 h) ((h.bump 11))) fun t10 h =>
 rdK (fAddr 0 t10) h fun t11 h =>
 rdK (fAddr 0 t11) h fun t12 h =>
 rdK (ld1 t12 h) h fun t13 h =>
 X (.call 74 [t13, t1]) (fun t15 h =>
 opK (extV 0 t15 h) fun t16 h =>
 opK (extV 1 t15 h) fun t17 h =>
 stK (stV 4 t4 t16 h) fun h =>
 retK (consR (ldN 4 t4 h) (consR (some t17) (some []))) K h) h)) ((h.bump 2))
theorem f37_eq (X : Caller) (L : Looper) (K : Value → AHeap → Prop) (h : AHeap) (t0 t1 : Value) : aJob P X L (.call 37 [t0, t1]) K h = f37 X L K h t0 t1 := by kernel_rfl
/-- (*cubbyhole/segment.Segments).Of -/
def f38 (X : Caller) (L : Looper) (K : Value → AHeap → Prop) (h : AHeap) (t0 t1 : Value) : Prop :=
 X (.call 75 [t0, t1, (.int .i64 0)]) (fun t12 h =>
 rdK ((fun h : AHeap => binC P .neq 24 24 t12 (.int .i64 0) h) ((h.bump 2))) ((h.bump 2)) fun t14 h =>
 condK t14
 (K (.tuple #[(.int .i64 0), (.int .i64 0), t12]) ((h.bump 4)))
 (opK ((fun h : AHeap => nilV t0 h) ((h.bump 11))) fun t18 h =>
 rdK (fAddr 4 t18) h fun t19 h =>
 rdK (ld1 t19 h) h fun t20 h =>
 rdK (lookupA P 139 t20 t1 true h) h fun t22 h =>
 opK (extV 0 t22 h) fun t23 h =>
 opK (extV 1 t22 h) fun t24 h =>
 rdK ((fun h : AHeap => unV P .not 4 t24) ((h.bump 2))) ((h.bump 2)) fun t26 h =>
 condK t26
 (K (.tuple #[(.int .i64 0), (.int .i64 0), (.int .i64 9)]) ((h.bump 3)))
 (X (.call 76 [t0, t1]) (fun t29 h =>
 K (.tuple #[t29, t23, (.int .i64 0)]) h) ((h.bump 7))))) (((h.bump 3).bump 4))
theorem f38_eq (X : Caller) (L : Looper) (K : Value → AHeap → Prop) (h : AHeap) (t0 t1 : Value) : aJob P X L (.call 38 [t0, t1]) K h = f38 X L K h t0 t1 := by kernel_rfl
def f39_j4 (X : Caller) (L : Looper) (K : Value → AHeap → Prop) (h : AHeap) (t0 t54 t55 t56 t57 t11 t2 t58 t59 t60 t9 t62 t63 : Value) : Prop :=
 opK ((fun h : AHeap => nilV t0 h) ((h.bump 8))) fun t55_1 h =>
 rdK (fAddr 0 t55_1) h fun t56_1 h =>
 rdK (fAddr 3 t56_1) h fun t57_1 h =>
 rdK (ld1 t57_1 h) h fun t58_1 h =>
 X (.call 78 [t58_1, t11, t2]) (fun t61 h =>
 X (.call 79 [t0, t9]) (fun t64 h =>
 K (.tuple #[]) h) ((h.bump 3))) h
/-- (*cubbyhole/cache.Cache).use -/
def f39 (X : Caller) (L : Looper) (K : Value → AHeap → Prop) (h : AHeap) (t0 t1 t2 : Value) : Prop :=
 opK ((fun h : AHeap => nilV t0 h) ((h.bump 14))) fun t16 h =>
 rdK (fAddr 0 t16) h fun t17 h =>
 rdK (fAddr 2 t17) h fun t18 h =>
 rdK (ld1 t18 h) h fun t19 h =>
 X (.call 38 [t19, t1]) (fun t21 h =>
 opK (extV 0 t21 h) fun t22 h =>
 opK (extV 1 t21 h) fun t23 h =>
 opK (extV 2 t21 h) fun t24 h =>
 opK ((fun h : AHeap => nilV t0 h) ((h.bump 13))) fun t27 h =>
 rdK (fAddr 0 t27) h fun t28 h =>
 rdK (fAddr 2 t28) h fun t29 h =>
 rdK (ld1 t29 h) h fun t30 h =>
 X (.call 77 [t30, t1, t2]) (fun t33 h =>
 opK (extV 0 t33 h) fun t34 h =>
 opK (extV 1 t33 h) fun t35 h =>
 opK ((fun h : AHeap => nilV t0 h) ((h.bump 8))) fun t37 h =>
 rdK (fAddr 0 t37) h fun t38 h =>
 rdK (fAddr 3 t38) h fun t39 h =>
 rdK (ld1 t39 h) h fun t40 h =>
 X (.call 69 [t40, t22, t23]) (fun t43 h =>
 opK ((fun h : AHeap => nilV t0 h) (((h.bump 1).bump 10))) fun t46 h =>
 rdK (fAddr 6 t46) h fun t47 h =>
 rdK (ldN 5 t47 h) h fun t48 h =>
 X (.call 44 [t48]) (fun t49 h =>
 opK (extV 0 t49 h) fun t50 h =>
 opK (extV 1 t49 h) fun t51 h =>
 rdK ((fun h : AHeap => binC P .eql 3 3 t50 (.int .i64 (-1)) h) ((h.bump 2))) ((h.bump 2)) fun t53 h =>
 condK t53
 (f39_j4 X L K ((h.bump 1)) t0 undef undef undef undef ((.int .i64 0)) t2 undef undef undef t34 undef undef)
 (f39_j4 X L K h t0 undef undef undef undef ((.int .i64 1)) t2 undef undef undef t34 undef undef)) h) h) h) h
theorem f39_eq (X : Caller) (L : Looper) (K : Value → AHeap → Prop) (h : AHeap) (t0 t1 t2 : Value) : aJob P X L (.call 39 [t0, t1, t2]) K h = f39 X L K h t0 t1 t2 := by kernel_rfl
/-- (*cubbyhole/cache.Cache).Peek$1 -/
def f40 (X : Caller) (L : Looper) (K : Value → AHeap → Prop) (h : AHeap) (t0 t1 t2 : Value) : Prop :=
 rdK ((fun h : AHeap => ld1 t1 h) ((h.bump 11))) ((h.bump 11)) fun t5 h =>
 opK (nilV t5 h) fun t6 h =>
 rdK (fAddr 0 t6) h fun t7 h =>
 rdK (fAddr 0 t7) h fun t8 h =>
 rdK (ld1 t8 h) h fun t9 h =>
 X (.call 37 [t9, t0]) (fun t11 h =>
 opK (extV 0 t11 h) fun t12 h =>
 opK (extV 1 t11 h) fun t13 h =>
 stK (stV 4 t2 t12 h) fun h =>
 K (.tuple #[]) h) h
theorem f40_eq (X : Caller) (L : Looper) (K : Value → AHeap → Prop) (h : AHeap) (t0 t1 t2 : Value) : aJob P X L (.call 40 [t0, t1, t2]) K h = f40 X L K h t0 t1 t2 := by kernel_rfl
/-- cubbyhole/tick.Due -/
def f41 (X : Caller) (L : Looper) (K : Value → AHeap → Prop) (h : AHeap) (t0 t1 : Value) : Prop :=
 rdK ((fun h : AHeap => binC P .neq 33 33 t0 (.int .u64 18446744073709551615) h) (((h.bump 1).bump 8))) (((h.bump 1).bump 8)) fun t6 h =>
 gopK (wantV t6 true) h (some (t0, h)) fun t8 h =>
 gopK (wantV t6 true) h (some (t1, h)) fun t9 h =>
 gopK (wantV t6 true) h ((binV P .leq 33 33 t8 t9 h).map (·, h)) fun t10 h =>
 opK (pickV t6 t10 (.bool false) h) fun t11 h =>
 K t11 h
theorem f41_eq (X : Caller) (L : Looper) (K : Value → AHeap → Prop) (h : AHeap) (t0 t1 : Value) : aJob P X L (.call 41 [t0, t1]) K h = f41 X L K h t0 t1 := by kernel_rfl

/-- cubbyhole/tick.Left -/
def f42 (X : Caller) (L : Looper) (K : Value → AHeap → Prop) (h : AHeap) (t0 t1 : Value) : Prop :=
 rdK ((fun h : AHeap => binC P .eql 33 33 t0 (.int .u64 18446744073709551615) h) (((h.bump 1).bump 3))) (((h.bump 1).bump 3)) fun t7 h =>
 condK t7
 (K (.int .u64 18446744073709551615) ((h.bump 1)))
 (rdK ((fun h : AHeap => binV P .leq 33 33 t0 t1 h) ((h.bump 4))) ((h.bump 4)) fun t11 h =>
  condK t11
  (K (.int .u64 0) ((h.bump 1)))
  (rdK ((fun h : AHeap => binV P .sub 33 33 t0 t1 h) ((h.bump 4))) ((h.bump 4)) fun t14 h =>
 K t14 h))
theorem f42_eq (X : Caller) (L : Looper) (K : Value → AHeap → Prop) (h : AHeap) (t0 t1 : Value) : aJob P X L (.call 42 [t0, t1]) K h = f42 X L K h t0 t1 := by kernel_rfl
/-- cubbyhole/config.between -/
def f43 (X : Caller) (L : Looper) (K : Value → AHeap → Prop) (h : AHeap) (t0 t1 t2 : Value) : Prop :=
 rdK ((fun h : AHeap => binV P .geq 3 3 t0 t1 h) (((h.bump 1).bump 9))) (((h.bump 1).bump 9)) fun t9 h =>
 gopK (wantV t9 true) h (some (t0, h)) fun t11 h =>
 gopK (wantV t9 true) h (some (t2, h)) fun t12 h =>
 gopK (wantV t9 true) h ((binV P .leq 3 3 t11 t12 h).map (·, h)) fun t13 h =>
 opK (pickV t9 t13 (.bool false) h) fun t14 h =>
 K t14 h
theorem f43_eq (X : Caller) (L : Looper) (K : Value → AHeap → Prop) (h : AHeap) (t0 t1 t2 : Value) : aJob P X L (.call 43 [t0, t1, t2]) K h = f43 X L K h t0 t1 t2 := by kernel_rfl
/-- cubbyhole/config.Part -/
def f44 (X : Caller) (L : Looper) (K : Value → AHeap → Prop) (h : AHeap) (t0 : Value) : Prop :=
 regK 3 h fun b h =>
 opK (boxV t0 (b + 0) h) fun t1 h =>
 rdK ((fun h : AHeap => ldN 5 t1 h) ((h.bump 3))) ((h.bump 3)) fun t5 h =>
 X (.call 22 [t5]) (fun t6 h =>
 rdK ((fun h : AHeap => binC P .neq 24 24 t6 (.int .i64 0) h) ((h.bump 2))) ((h.bump 2)) fun t8 h =>
 condK t8
 (K (.tuple #[(.int .i64 0), t6]) ((h.bump 3)))
 (rdK ((fun h : AHeap => fAddr 2 t1) ((h.bump 3))) ((h.bump 3)) fun t10 h =>
 rdK (ld1 t10 h) h fun t11 h =>
 rdK (binC P .eql 3 3 t11 (.int .i64 0) h) h fun t12 h =>
 condK t12
 (K (.tuple #[(.int .i64 (-1)), (.int .i64 0)]) ((h.bump 2)))
 (rdK ((fun h : AHeap => fAddr 1 t1) ((h.bump 8))) ((h.bump 8)) fun t13 h =>
 rdK (ld1 t13 h) h fun t14 h =>
 rdK (fAddr 2 t1) h fun t15 h =>
 rdK (ld1 t15 h) h fun t16 h =>
 rdK (binV P .mul 3 3 t14 t16 h) h fun t17 h =>
 rdK (binC P .quo 3 3 t17 (.int .i64 100) h) h fun t18 h =>
 K (.tuple #[t18, (.int .i64 0)]) h))) h
theorem f44_eq (X : Caller) (L : Looper) (K : Value → AHeap → Prop) (h : AHeap) (t0 : Value) : aJob P X L (.call 44 [t0]) K h = f44 X L K h t0 := by kernel_rfl
/-- cubbyhole/segment.New -/
def f45 (X : Caller) (L : Looper) (K : Value → AHeap → Prop) (h : AHeap) (t0 : Value) : Prop :=
 rdK ((fun h : AHeap => binC P .lss 3 3 t0 (.int .i64 (-1)) h) (((h.bump 2).bump 6))) (((h.bump 2).bump 6)) fun t5 h =>
 gopK (wantV t5 false) h (some (t0, h)) fun t7 h =>
 gopK (wantV t5 false) h ((binC P .gtr 3 3 t7 (.int .i64 1099511627776) h).map (·, h)) fun t8 h =>
 opK (pickV t5 (.bool true) t8 h) fun t9 h =>
 condK t9
 (K (.tuple #[(.pointer none), (.int .i64 2)]) ((h.bump 2)))
 (regK 9 h fun b h =>
 X (.call 80 []) (fun t10 h =>
 X (.call 80 []) (fun t11 h =>
 rdK (buildA P 137 [(0, t10), (1, t11)]) h fun t12 h =>
 opK (mapV (b + 3) h) fun t13 h =>
 rdK (buildA P 141 [(0, t12), (2, t13), (3, t0)]) h fun t15 h =>
 opK (boxV t15 (b + 6) h) fun t16 h =>
 K (.tuple #[t16, (.int .i64 0)]) h) h) h)
theorem f45_eq (X : Caller) (L : Looper) (K : Value → AHeap → Prop) (h : AHeap) (t0 : Value) : aJob P X L (.call 45 [t0]) K h = f45 X L K h t0 := by kernel_rfl
/-- cubbyhole/budget.New -/
def f46 (X : Caller) (L : Looper) (K : Value → AHeap → Prop) (h : AHeap) (t0 t1 : Value) : Prop :=
 X (.call 81 [t0, t1]) (fun t8 h =>
 rdK (unV P .not 4 t8) h fun t9 h =>
 condK t9
 (K (.tuple #[(.pointer none), (.int .i64 2)]) ((h.bump 2)))
 (regK 7 h fun b h =>
 rdK (buildA P 150 [(0, t0), (1, t1)]) h fun t12 h =>
 rdK (buildA P 153 [(0, t12)]) h fun t13 h =>
 opK (boxV t13 (b + 4) h) fun t14 h =>
 K (.tuple #[t14, (.int .i64 0)]) h)) (((h.bump 2).bump 4))
theorem f46_eq (X : Caller) (L : Looper) (K : Value → AHeap → Prop) (h : AHeap) (t0 t1 : Value) : aJob P X L (.call 46 [t0, t1]) K h = f46 X L K h t0 t1 := by kernel_rfl
/-- cubbyhole/dict.New -/
def f47 (X : Caller) (L : Looper) (K : Value → AHeap → Prop) (h : AHeap) (t0 : Value) : Prop :=
 regK 2 h fun b h =>
 opK (boxV t0 (b + 0) h) fun t1 h =>
 X (.call 82 [(.int .i64 1)]) (fun t6 h =>
 opK (extV 0 t6 h) fun t7 h =>
 opK (extV 1 t6 h) fun t8 h =>
 regK 7 h fun b_1 h =>
 rdK (ldN 2 t1 h) h fun t11 h =>
 X (.call 83 []) (fun t9 h =>
 chkK (chkR ((ldN 2 t1 h).map (·, h)) t11 true) <|
 rdK (buildA P 130 [(0, t9)]) h fun t10 h =>
 rdK (buildA P 133 [(0, t10), (1, t11), (2, t7)]) h fun t13 h =>
 opK (boxV t13 (b_1 + 5) h) fun t14 h =>
 K t14 h) h) ((h.bump 6))
theorem f47_eq (X : Caller) (L : Looper) (K : Value → AHeap → Prop) (h : AHeap) (t0 : Value) : aJob P X L (.call 47 [t0]) K h = f47 X L K h t0 := by kernel_rfl
/-- cubbyhole/hash.New -/
def f48 (X : Caller) (L : Looper) (K : Value → AHeap → Prop) (h : AHeap) (t0 t1 : Value) : Prop :=
 regK 1 h fun b h =>
 opK (newV [.int .u64 0, .bool false] (b + 0) h) fun t4 h =>
 rdK ((fun h : AHeap => buildA P 109 [(0, t0), (1, t1)]) ((h.bump 4))) ((h.bump 4)) fun t7 h =>
 stK (stV 2 t4 t7 h) fun h =>
 retK (consR (ldN 2 t4 h) (some [])) K h
theorem f48_eq (X : Caller) (L : Looper) (K : Value → AHeap → Prop) (h : AHeap) (t0 t1 : Value) : aJob P X L (.call 48 [t0, t1]) K h = f48 X L K h t0 t1 := by kernel_rfl
/-- cubbyhole/birth.New -/
def f49 (X : Caller) (L : Looper) (K : Value → AHeap → Prop) (h : AHeap) (t0 : Value) : Prop :=
 regK 4 ((h.bump 1)) fun b h =>
 rdK (buildA P 158 [(0, (.bool true)), (1, t0)]) h fun t4 h =>
 opK (boxV t4 (b + 2) h) fun t5 h =>
 K t5 h
theorem f49_eq (X : Caller) (L : Looper) (K : Value → AHeap → Prop) (h : AHeap) (t0 : Value) : aJob P X L (.call 49 [t0]) K h = f49 X L K h t0 := by kernel_rfl
/-- cubbyhole/due.New -/
def f50 (X : Caller) (L : Looper) (K : Value → AHeap → Prop) (h : AHeap) (t0 : Value) : Prop :=
 regK 7 ((h.bump 1)) fun b h =>
 X (.call 84 [t0]) (fun t4 h =>
 opK (mapV (b + 2) h) fun t5 h =>
 opK (mapV (b + 3) h) fun t6 h =>
 rdK (buildA P 164 [(0, t4), (1, t5), (2, t6)]) h fun t7 h =>
 opK (boxV t7 (b + 5) h) fun t8 h =>
 K t8 h) h
theorem f50_eq (X : Caller) (L : Looper) (K : Value → AHeap → Prop) (h : AHeap) (t0 : Value) : aJob P X L (.call 50 [t0]) K h = f50 X L K h t0 := by kernel_rfl
/-- cubbyhole/event.New -/
def f51 (X : Caller) (L : Looper) (K : Value → AHeap → Prop) (h : AHeap) : Prop :=
 regK 3 ((h.bump 1)) fun b h =>
 rdK (buildA P 170 [(3, (.bool true))]) h fun t1 h =>
 opK (boxV t1 (b + 1) h) fun t2 h =>
 K t2 h
theorem f51_eq (X : Caller) (L : Looper) (K : Value → AHeap → Prop) (h : AHeap) : aJob P X L (.call 51 []) K h = f51 X L K h  := by kernel_rfl
/-- (*cubbyhole/cache.Cache).none -/
def f52 (X : Caller) (L : Looper) (K : Value → AHeap → Prop) (h : AHeap) (t0 : Value) : Prop :=
 rdK ((fun h : AHeap => binC P .eql 42 42 t0 (.pointer none) h) (((h.bump 1).bump 11))) (((h.bump 1).bump 11)) fun t4 h =>
 gopK (wantV t4 false) h (some (t0, h)) fun t6 h =>
 gopK (wantV t4 false) h (nilV t6 h) fun t7 h =>
 gopK (wantV t4 false) h ((fAddr 0 t7).map (·, h)) fun t8 h =>
 gopK (wantV t4 false) h ((fAddr 0 t8).map (·, h)) fun t9 h =>
 gopK (wantV t4 false) h ((ld1 t9 h).map (·, h)) fun t10 h =>
 gopK (wantV t4 false) h ((binC P .eql 83 83 t10 (.pointer none) h).map (·, h)) fun t11 h =>
 opK (pickV t4 (.bool true) t11 h) fun t12 h =>
 K t12 h
theorem f52_eq (X : Caller) (L : Looper) (K : Value → AHeap → Prop) (h : AHeap) (t0 : Value) : aJob P X L (.call 52 [t0]) K h = f52 X L K h t0 := by kernel_rfl
/-- (*cubbyhole/due.Deadlines).Now -/
def f53 (X : Caller) (L : Looper) (K : Value → AHeap → Prop) (h : AHeap) (t0 : Value) : Prop :=
 X (.call 85 [t0, (.int .u32 0)]) (fun t4 h =>
 rdK (binC P .neq 24 24 t4 (.int .i64 0) h) h fun t5 h =>
 condK t5
 (K (.int .u64 0) ((h.bump 1)))
 (opK ((fun h : AHeap => nilV t0 h) ((h.bump 6))) fun t7 h =>
 rdK (fAddr 0 t7) h fun t8 h =>
 rdK (ld1 t8 h) h fun t9 h =>
 X (.call 86 [t9]) (fun t10 h =>
 K t10 h) h)) (((h.bump 1).bump 3))
theorem f53_eq (X : Caller) (L : Looper) (K : Value → AHeap → Prop) (h : AHeap) (t0 : Value) : aJob P X L (.call 53 [t0]) K h = f53 X L K h t0 := by kernel_rfl
def f54_l3 (X : Caller) (L : Looper) (a : AAct) (K : ActPost) (h : AHeap) : Prop :=
 rdK ((fun h : AHeap => binV P .lss 3 3 (a.env 30) (a.env 29) h) ((h.bump 1))) ((h.bump 1)) fun t31 h =>
 condK t31
 (regK 4 h fun b_1 h =>
 rdK (ixS 3 (a.env 28) (a.env 30)) h fun t32 h =>
 rdK (ldN 3 t32 h) h fun t33 h =>
 opK (newV [.int .u32 0, .int .u64 0, .int .u64 0] (b_1 + 2) h) fun t8 h =>
 stK (stV 3 t8 t33 h) fun h =>
 rdK ((fun h : AHeap => fAddr 0 t8) ((h.bump 4))) ((h.bump 4)) fun t35 h =>
 rdK (ld1 t35 h) h fun t36 h =>
 callV X (a.env 6) [t36] (fun t37 h =>
 rdK ((fun h : AHeap => binC P .add 3 3 (a.env 30) (.int .i64 1) h) ((h.bump 2))) ((h.bump 2)) fun t38 h =>
 K .normal ⟨(upds a.env [(31, t31), (32, t32), (33, t33), (8, t8), (34, (a.env 6)), (35, t35), (36, t36), (37, t37), (38, t38), (30, t38)]), a.defers⟩ h) h)
 (K (.exit 0) ⟨(upds a.env [(31, t31)]), a.defers⟩ h)
def f54_l15 (X : Caller) (L : Looper) (a : AAct) (K : ActPost) (h : AHeap) : Prop :=
 rdK ((fun h : AHeap => binV P .lss 3 3 (a.env 87) (a.env 86) h) ((h.bump 1))) ((h.bump 1)) fun t88 h =>
 condK t88
 (rdK ((fun h : AHeap => ixS 1 (a.env 85) (a.env 87)) ((h.bump 3))) ((h.bump 3)) fun t89 h =>
 rdK (ld1 t89 h) h fun t90 h =>
 callV X (a.env 14) [t90] (fun t93 h =>
 rdK ((fun h : AHeap => binC P .add 3 3 (a.env 87) (.int .i64 1) h) ((h.bump 2))) ((h.bump 2)) fun t94 h =>
 K .normal ⟨(upds a.env [(88, t88), (89, t89), (90, t90), (16, t90), (91, (a.env 14)), (92, t90), (93, t93), (94, t94), (87, t94)]), a.defers⟩ h) ((h.bump 3)))
 (K (.exit 2) ⟨(upds a.env [(88, t88)]), a.defers⟩ h)
def f54_j9 (X : Caller) (L : Looper) (K : Value → AHeap → Prop) (h : AHeap) (a : AAct) : Prop :=
 opK ((fun h : AHeap => nilV (a.env 0) h) ((h.bump 13))) fun t97 h =>
 rdK (fAddr 0 t97) h fun t98 h =>
 rdK (fAddr 0 t98) h fun t99 h =>
 rdK (ld1 t99 h) h fun t100 h =>
 X (.call 91 [t100]) (fun t101 h =>
 opK (extV 0 t101 h) fun t102 h =>
 opK (extV 1 t101 h) fun t103 h =>
 opK (extV 2 t101 h) fun t104 h =>
 opK ((fun h : AHeap => nilV (a.env 0) h) ((h.bump 8))) fun t107 h =>
 rdK (fAddr 0 t107) h fun t108 h =>
 rdK (fAddr 0 t108) h fun t109 h =>
 rdK (ld1 t109 h) h fun t110 h =>
 X (.call 62 [t110]) (fun t111 h =>
 X (.call 92 [t102, t111]) (fun t112 h =>
 condK t112
 (X (.call 93 [(a.env 0)]) (fun t114 h =>
  leaveA P X Tryz.f54 ⟨(upds a.env [(96, (a.env 0)), (97, t97), (98, t98), (99, t99), (100, t100), (101, t101), (95, t101), (102, t102), (103, t103), (104, t104), (17, t102), (18, t103), (19, t104), (105, t102), (106, (a.env 0)), (107, t107), (108, t108), (109, t109), (110, t110), (111, t111), (112, t112), (113, (a.env 0)), (114, t114)]), a.defers⟩ K a.defers h) ((h.bump 2)))
 (leaveA P X Tryz.f54 ⟨(upds a.env [(96, (a.env 0)), (97, t97), (98, t98), (99, t99), (100, t100), (101, t101), (95, t101), (102, t102), (103, t103), (104, t104), (17, t102), (18, t103), (19, t104), (105, t102), (106, (a.env 0)), (107, t107), (108, t108), (109, t109), (110, t110), (111, t111), (112, t112)]), a.defers⟩ K a.defers h)) h) h) h
def f54_j1 (X : Caller) (L : Looper) (K : Value → AHeap → Prop) (h : AHeap) (a : AAct) : Prop :=
 callV X (a.env 2) [] (fun t40 h =>
 opK ((fun h : AHeap => nilV (a.env 0) h) ((h.bump 11))) fun t43 h =>
 rdK (fAddr 0 t43) h fun t44 h =>
 rdK (fAddr 3 t44) h fun t45 h =>
 rdK (ld1 t45 h) h fun t46 h =>
 X (.call 88 [t46]) (fun t47 h =>
 opK (extV 0 t47 h) fun t48 h =>
 opK (extV 1 t47 h) fun t49 h =>
 rdK ((fun h : AHeap => binC P .gtr 3 3 t48 (.int .i64 0) h) ((h.bump 6))) ((h.bump 6)) fun t51 h =>
 gopK (wantV t51 false) h (some (t49, h)) fun t53 h =>
 gopK (wantV t51 false) h ((binC P .gtr 3 3 t53 (.int .i64 0) h).map (·, h)) fun t54 h =>
 opK (pickV t51 (.bool true) t54 h) fun t55 h =>
 condK t55
 (opK ((fun h : AHeap => nilV (a.env 0) h) ((h.bump 29))) fun t58 h =>
  rdK (fAddr 0 t58) h fun t59 h =>
  rdK (fAddr 2 t59) h fun t60 h =>
  rdK (ld1 t60 h) h fun t61 h =>
  opK (nilV (a.env 0) h) fun t64 h =>
  rdK (fAddr 0 t64) h fun t65 h =>
  rdK (fAddr 2 t65) h fun t66 h =>
  rdK (ld1 t66 h) h fun t67 h =>
  opK (nilV (a.env 0) h) fun t71 h =>
  rdK (fAddr 6 t71) h fun t72 h =>
  rdK (fAddr 0 t72) h fun t73 h =>
  rdK (ld1 t73 h) h fun t74 h =>
  opK (nilV (a.env 0) h) fun t76 h =>
  rdK (fAddr 6 t76) h fun t77 h =>
  rdK (fAddr 1 t77) h fun t78 h =>
  rdK (ld1 t78 h) h fun t79 h =>
  X (.call 90 [t61, (.int .i64 0)]) (fun t62 h =>
  chkK (chkR ((ld1 t78 h).map (·, h)) t79 (chkR ((ld1 t73 h).map (·, h)) t74 (chkR ((ld1 t66 h).map (·, h)) t67 true))) <|
  X (.call 90 [t67, (.int .i64 1)]) (fun t68 h =>
  chkK (chkR ((ld1 t78 h).map (·, h)) t79 (chkR ((ld1 t73 h).map (·, h)) t74 true)) <|
  X (.call 89 [t62, t68, t40, t74, t79]) (fun t80 h =>
  opK (extV 0 t80 h) fun t81 h =>
  opK (extV 1 t80 h) fun t82 h =>
  X (.call 35 [(a.env 0), (.int .i64 2)]) (fun t84 h =>
  regK 3 h fun b_2 h =>
  opK (builtinV P .len [143] [t81] (b_2 + 1) h) fun t86 h =>
  L (f54_l15 X L) ⟨(upds a.env [(39, (a.env 2)), (40, t40), (9, t40), (42, (a.env 0)), (43, t43), (44, t44), (45, t45), (46, t46), (47, t47), (41, t47), (48, t48), (49, t49), (10, t48), (11, t49), (50, t48), (51, t51), (52, t51), (53, t53), (54, t54), (55, t55), (57, (a.env 0)), (58, t58), (59, t59), (60, t60), (61, t61), (63, (a.env 0)), (64, t64), (65, t65), (66, t66), (67, t67), (69, t40), (70, (a.env 0)), (71, t71), (72, t72), (73, t73), (74, t74), (75, (a.env 0)), (76, t76), (77, t77), (78, t78), (79, t79), (62, t62), (68, t68), (80, t80), (56, t80), (81, t81), (82, t82), (12, t81), (13, t82), (83, (a.env 0)), (84, t84), (14, t84), (85, t81), (86, t86), (87, (.int .i64 0))]), a.defers⟩ (blkX 2 (seqX (fun a h => f54_j9 X L K h a) (finX P X Tryz.f54 K))) h) ((h.bump 3))) h) h) h)
 (f54_j9 X L K h ⟨(upds a.env [(39, (a.env 2)), (40, t40), (9, t40), (42, (a.env 0)), (43, t43), (44, t44), (45, t45), (46, t46), (47, t47), (41, t47), (48, t48), (49, t49), (10, t48), (11, t49), (50, t48), (51, t51), (52, t51), (53, t53), (54, t54), (55, t55)]), a.defers⟩)) h) ((h.bump 3))
/-- (*cubbyhole/cache.Cache).run -/
def f54 (X : Caller) (L : Looper) (K : Value → AHeap → Prop) (h : AHeap) (t0 t1 t2 : Value) : Prop :=
 X (.call 35 [t0, (.int .i64 1)]) (fun t21 h =>
 regK 9 h fun b h =>
 opK (nilV t0 h) fun t23 h =>
 rdK (fAddr 0 t23) h fun t24 h =>
 rdK (fAddr 4 t24) h fun t25 h =>
 rdK (ld1 t25 h) h fun t26 h =>
 X (.call 87 [t26, t1]) (fun t28 h =>
 opK (builtinV P .len [171] [t28] (b + 7) h) fun t29 h =>
 L (f54_l3 X L) ⟨(upds (argsEnv [t0, t1, t2]) [(20, t0), (21, t21), (6, t21), (22, t0), (23, t23), (24, t24), (25, t25), (26, t26), (27, t1), (28, t28), (29, t29), (30, (.int .i64 0))]), []⟩ (blkX 0 (seqX (fun a h => f54_j1 X L K h a) (finX P X Tryz.f54 K))) h) h) ((h.bump 3))
theorem f54_eq (X : Caller) (L : Looper) (K : Value → AHeap → Prop) (h : AHeap) (t0 t1 t2 : Value) : aJob P X L (.call 54 [t0, t1, t2]) K h = f54 X L K h t0 t1 t2 := by kernel_rfl
/-- cubbyhole/cache.nothing -/
def f55 (X : Caller) (L : Looper) (K : Value → AHeap → Prop) (h : AHeap) : Prop :=
 K (.int .u32 4294967295) (((h.bump 1).bump 1))
theorem f55_eq (X : Caller) (L : Looper) (K : Value → AHeap → Prop) (h : AHeap) : aJob P X L (.call 55 []) K h = f55 X L K h  := by kernel_rfl
def f56_l8 (X : Caller) (L : Looper) (a : AAct) (K : ActPost) (h : AHeap) : Prop :=
 regK 11 h fun b h =>
 opK (builtinV P .len [44] [(a.env 6)] (b + 1) h) fun t14 h =>
 rdK (binV P .lss 3 3 t14 (a.env 1) h) h fun t16 h =>
 gopK (wantV t16 true) h (some ((a.env 0), h)) fun t18 h =>
 gopK (wantV t16 true) h (nilV t18 h) fun t19 h =>
 gopK (wantV t16 true) h ((fAddr 0 t19).map (·, h)) fun t20 h =>
 gopK (wantV t16 true) h ((ld1 t20 h).map (·, h)) fun t21 h =>
 gopK (wantV t16 true) h ((binC P .neq 165 165 t21 (.pointer none) h).map (·, h)) fun t22 h =>
 opK (pickV t16 t22 (.bool false) h) fun t23 h =>
 condK t23
 (regK 11 h fun b_1 h =>
 opK (nilV (a.env 0) h) fun t26 h =>
 rdK (fAddr 0 t26) h fun t27 h =>
 rdK (ld1 t27 h) h fun t28 h =>
 opK (nilV t28 h) fun t29 h =>
 rdK (fAddr 0 t29) h fun t30 h =>
 rdK (ldN 6 t30 h) h fun t31 h =>
 opK (bsliceV P 44 1 [(0, t31)] (b_1 + 8) h) fun t32 h =>
 opK (builtinV P .append [44, 44] [(a.env 6), t32] (b_1 + 9) h) fun t33 h =>
 opK ((fun h : AHeap => nilV (a.env 0) h) ((h.bump 11))) fun t36 h =>
 rdK (fAddr 0 t36) h fun t37 h =>
 rdK (ld1 t37 h) h fun t38 h =>
 opK (nilV t38 h) fun t39 h =>
 rdK (fAddr 6 t39) h fun t40 h =>
 rdK (ld1 t40 h) h fun t41 h =>
 opK (nilV (a.env 0) h) fun t42 h =>
 rdK (fAddr 0 t42) h fun t43 h =>
 stK (stV 1 t43 t41 h) fun h =>
 opK ((fun h : AHeap => nilV (a.env 0) h) ((h.bump 10))) fun t45 h =>
 rdK (fAddr 2 t45) h fun t46 h =>
 rdK (fAddr 6 t46) h fun t47 h =>
 rdK (ld1 t47 h) h fun t48 h =>
 rdK (binC P .sub 3 3 t48 (.int .i64 1) h) h fun t49 h =>
 opK (nilV (a.env 0) h) fun t50 h =>
 rdK (fAddr 2 t50) h fun t51 h =>
 rdK (fAddr 6 t51) h fun t52 h =>
 stK (stV 1 t52 t49 h) fun h =>
 K .normal ⟨(upds a.env [(13, (a.env 6)), (14, t14), (15, (a.env 1)), (16, t16), (17, t16), (18, t18), (19, t19), (20, t20), (21, t21), (22, t22), (23, t23), (24, (a.env 6)), (25, (a.env 0)), (26, t26), (27, t27), (28, t28), (29, t29), (30, t30), (31, t31), (32, t32), (33, t33), (6, t33), (34, (a.env 0)), (35, (a.env 0)), (36, t36), (37, t37), (38, t38), (39, t39), (40, t40), (41, t41), (42, t42), (43, t43), (44, (a.env 0)), (45, t45), (46, t46), (47, t47), (48, t48), (49, t49), (50, t50), (51, t51), (52, t52)]), a.defers⟩ h)
 (K (.exit 1) ⟨(upds a.env [(13, (a.env 6)), (14, t14), (15, (a.env 1)), (16, t16), (17, t16), (18, t18), (19, t19), (20, t20), (21, t21), (22, t22), (23, t23)]), a.defers⟩ h)
def f56_j13 (X : Caller) (L : Looper) (K : Value → AHeap → Prop) (h : AHeap) (t6 t61 t4 t5 : Value) : Prop :=
 K (.tuple #[t6, (.int .i64 0)]) ((h.bump 3))
def f56_j7 (X : Caller) (L : Looper) (K : Value → AHeap → Prop) (h : AHeap) (a : AAct) : Prop :=
 opK ((fun h : AHeap => nilV (a.env 0) h) ((h.bump 5))) fun t54 h =>
 rdK (fAddr 0 t54) h fun t55 h =>
 rdK (ld1 t55 h) h fun t56 h =>
 rdK (binC P .eql 165 165 t56 (.pointer none) h) h fun t57 h =>
 condK t57
 (opK ((fun h : AHeap => nilV (a.env 0) h) ((h.bump 4))) fun t59 h =>
  rdK (fAddr 1 t59) h fun t60 h =>
  stK (stV 1 t60 (.pointer none) h) fun h =>
  f56_j13 X L K h ((a.env 6)) ((a.env 61)) ((a.env 4)) ((a.env 5)))
 (f56_j13 X L K h ((a.env 6)) ((a.env 61)) ((a.env 4)) ((a.env 5)))
/-- (*cubbyhole/event.Stream).Take -/
def f56 (X : Caller) (L : Looper) (K : Value → AHeap → Prop) (h : AHeap) (t0 t1 : Value) : Prop :=
 X (.call 94 [t0]) (fun t9 h =>
 condK t9
 (K (.tuple #[(.slice none 0 0), (.int .i64 1)]) ((h.bump 2)))
 (rdK ((fun h : AHeap => binC P .lss 3 3 t1 (.int .i64 0) h) ((h.bump 3))) ((h.bump 3)) fun t12 h =>
  condK t12
  (K (.tuple #[(.slice none 0 0), (.int .i64 2)]) ((h.bump 2)))
  (L (f56_l8 X L) ⟨(upds (argsEnv [t0, t1]) [(4, (.slice none 0 0)), (5, (.int .i64 0)), (8, t0), (9, t9), (7, t9), (11, t1), (12, t12), (10, t12), (6, (.slice none 0 0))]), []⟩ (blkX 1 (seqX (fun a h => f56_j7 X L K h a) (finX P X Tryz.f56 K))) ((h.bump 1))))) (((h.bump 2).bump 3))
/-- (*cubbyhole/event.Stream).Len -/
def f57 (X : Caller) (L : Looper) (K : Value → AHeap → Prop) (h : AHeap) (t0 : Value) : Prop :=
 X (.call 94 [t0]) (fun t4 h =>
 condK t4
 (K (.int .i64 0) ((h.bump 1)))
 (opK ((fun h : AHeap => nilV t0 h) ((h.bump 6))) fun t6 h =>
 rdK (fAddr 2 t6) h fun t7 h =>
 rdK (fAddr 6 t7) h fun t8 h =>
 rdK (ld1 t8 h) h fun t9 h =>
 K t9 h)) (((h.bump 1).bump 2))
theorem f57_eq (X : Caller) (L : Looper) (K : Value → AHeap → Prop) (h : AHeap) (t0 : Value) : aJob P X L (.call 57 [t0]) K h = f57 X L K h t0 := by kernel_rfl
/-- (*cubbyhole/cache.Cache).Set$1 -/
def f59 (X : Caller) (L : Looper) (K : Value → AHeap → Prop) (h : AHeap) : Prop :=
 K (.int .u64 18446744073709551615) (((h.bump 1).bump 1))
theorem f59_eq (X : Caller) (L : Looper) (K : Value → AHeap → Prop) (h : AHeap) : aJob P X L (.call 59 []) K h = f59 X L K h  := by kernel_rfl
/-- (*cubbyhole/cache.Cache).SetTTL$1 -/
def f60 (X : Caller) (L : Looper) (K : Value → AHeap → Prop) (h : AHeap) (t0 t1 : Value) : Prop :=
 rdK ((fun h : AHeap => ld1 t0 h) (((h.bump 1).bump 9))) (((h.bump 1).bump 9)) fun t3 h =>
 opK (nilV t3 h) fun t4 h =>
 rdK (fAddr 0 t4) h fun t5 h =>
 rdK (fAddr 4 t5) h fun t6 h =>
 rdK (ld1 t6 h) h fun t7 h =>
 rdK (ld1 t1 h) h fun t9 h =>
 X (.call 53 [t7]) (fun t8 h =>
 chkK (chkR ((ld1 t1 h).map (·, h)) t9 true) <|
 X (.call 61 [t8, t9]) (fun t10 h =>
 K t10 h) h) h
theorem f60_eq (X : Caller) (L : Looper) (K : Value → AHeap → Prop) (h : AHeap) (t0 t1 : Value) : aJob P X L (.call 60 [t0, t1]) K h = f60 X L K h t0 t1 := by kernel_rfl
/-- cubbyhole/tick.Add -/
def f61 (X : Caller) (L : Looper) (K : Value → AHeap → Prop) (h : AHeap) (t0 t1 : Value) : Prop :=
 rdK ((fun h : AHeap => binD P .sub 33 33 (.int .u64 18446744073709551615) t0 h) (((h.bump 1).bump 4))) (((h.bump 1).bump 4)) fun t6 h =>
 rdK (binV P .leq 27 27 t6 t1 h) h fun t8 h =>
 condK t8
 (K (.int .u64 18446744073709551615) ((h.bump 1)))
 (rdK ((fun h : AHeap => binV P .add 33 33 t0 t1 h) ((h.bump 4))) ((h.bump 4)) fun t11 h =>
 K t11 h)
theorem f61_eq (X : Caller) (L : Looper) (K : Value → AHeap → Prop) (h : AHeap) (t0 t1 : Value) : aJob P X L (.call 61 [t0, t1]) K h = f61 X L K h t0 t1 := by kernel_rfl
/-- (*cubbyhole/dict.Dict).Len -/
def f62 (X : Caller) (L : Looper) (K : Value → AHeap → Prop) (h : AHeap) (t0 : Value) : Prop :=
 X (.call 73 [t0]) (fun t4 h =>
 condK t4
 (K (.int .i64 0) ((h.bump 1)))
 (opK ((fun h : AHeap => nilV t0 h) ((h.bump 7))) fun t6 h =>
 rdK (fAddr 0 t6) h fun t7 h =>
 rdK (fAddr 0 t7) h fun t8 h =>
 rdK (ld1 t8 h) h fun t9 h =>
 X (.call 103 [t9]) (fun t10 h =>
 K t10 h) h)) (((h.bump 1).bump 2))
theorem f62_eq (X : Caller) (L : Looper) (K : Value → AHeap → Prop) (h : AHeap) (t0 : Value) : aJob P X L (.call 62 [t0]) K h = f62 X L K h t0 := by kernel_rfl
def f63_l3 (X : Caller) (L : Looper) (a : AAct) (K : ActPost) (h : AHeap) : Prop :=
 rdK ((fun h : AHeap => binV P .lss 3 3 (a.env 7) (a.env 6) h) ((h.bump 1))) ((h.bump 1)) fun t8 h =>
 condK t8
 (rdK ((fun h : AHeap => ixS 1 (a.env 5) (a.env 7)) ((h.bump 3))) ((h.bump 3)) fun t9 h =>
 rdK (ld1 t9 h) h fun t10 h =>
 rdK ((fun h : AHeap => binC P .neq 24 24 t10 (.int .i64 0) h) ((h.bump 2))) ((h.bump 2)) fun t12 h =>
 condK t12
 (K .ret ⟨(upds a.env [(8, t8), (9, t9), (10, t10), (4, t10), (11, t10), (12, t12), (13, t10), (2, t10)]), a.defers⟩ ((h.bump 2)))
 (rdK ((fun h : AHeap => binC P .add 3 3 (a.env 7) (.int .i64 1) h) ((h.bump 2))) ((h.bump 2)) fun t14 h =>
 K .normal ⟨(upds a.env [(8, t8), (9, t9), (10, t10), (4, t10), (11, t10), (12, t12), (14, t14), (7, t14)]), a.defers⟩ h))
 (K (.exit 0) ⟨(upds a.env [(8, t8)]), a.defers⟩ h)
def f63_j1 (X : Caller) (L : Looper) (K : Value → AHeap → Prop) (h : AHeap) (a : AAct) : Prop :=
 leaveA P X Tryz.f63 ⟨(upds a.env [(2, (.int .i64 0))]), a.defers⟩ K a.defers ((h.bump 1))
/-- cubbyhole/cache.first -/
def f63 (X : Caller) (L : Looper) (K : Value → AHeap → Prop) (h : AHeap) (t0 : Value) : Prop :=
 regK 3 ((h.bump 1)) fun b h =>
 opK (builtinV P .len [121] [t0] (b + 1) h) fun t6 h =>
 L (f63_l3 X L) ⟨(upds (argsEnv [t0]) [(2, (.int .i64 0)), (5, t0), (6, t6), (7, (.int .i64 0))]), []⟩ (blkX 0 (seqX (fun a h => f63_j1 X L K h a) (finX P X Tryz.f63 K))) h
theorem f63_eq (X : Caller) (L : Looper) (K : Value → AHeap → Prop) (h : AHeap) (t0 : Value) : aJob P X L (.call 63 [t0]) K h = f63 X L K h t0 := by kernel_rfl
/-- cubbyhole/cache.unless -/
def f64 (X : Caller) (L : Looper) (K : Value → AHeap → Prop) (h : AHeap) (t0 t1 : Value) : Prop :=
 condK t0
 (K (.int .i64 0) ((((h.bump 1).bump 1).bump 1)))
 (K t1 ((((h.bump 1).bump 1).bump 2)))
theorem f64_eq (X : Caller) (L : Looper) (K : Value → AHeap → Prop) (h : AHeap) (t0 t1 : Value) : aJob P X L (.call 64 [t0, t1]) K h = f64 X L K h t0 t1 := by kernel_rfl
def f65_j2 (X : Caller) (L : Looper) (K : Value → AHeap → Prop) (h : AHeap) (t4 : Value) : Prop :=
 K (.int .u32 4294967295) ((h.bump 1))
/-- (*cubbyhole/cache.Cache).find$1 -/
def f65 (X : Caller) (L : Looper) (K : Value → AHeap → Prop) (h : AHeap) (t0 t1 t2 t3 : Value) : Prop :=
 rdK ((fun h : AHeap => ld1 t0 h) (((h.bump 1).bump 12))) (((h.bump 1).bump 12)) fun t8 h =>
 opK (nilV t8 h) fun t9 h =>
 rdK (fAddr 0 t9) h fun t10 h =>
 rdK (fAddr 0 t10) h fun t11 h =>
 rdK (ld1 t11 h) h fun t12 h =>
 rdK (ld1 t1 h) h fun t13 h =>
 X (.call 66 [t12, t13]) (fun t14 h =>
 opK (extV 0 t14 h) fun t15 h =>
 opK (extV 1 t14 h) fun t16 h =>
 rdK ((fun h : AHeap => binC P .eql 24 24 t16 (.int .i64 0) h) ((h.bump 3))) ((h.bump 3)) fun t18 h =>
 stK (stV 1 t2 t18 h) fun h =>
 rdK ((fun h : AHeap => ld1 t2 h) ((h.bump 1))) ((h.bump 1)) fun t19 h =>
 condK t19
 (rdK ((fun h : AHeap => ld1 t3 h) ((h.bump 3))) ((h.bump 3)) fun t20 h =>
  callV X t20 [t15] (fun t22 h =>
  f65_j2 X L K h ((.int .u32 0))) h)
 (f65_j2 X L K h ((.int .u32 0)))) h
theorem f65_eq (X : Caller) (L : Looper) (K : Value → AHeap → Prop) (h : AHeap) (t0 t1 t2 t3 : Value) : aJob P X L (.call 65 [t0, t1, t2, t3]) K h = f65 X L K h t0 t1 t2 t3 := by kernel_rfl
/-- (*cubbyhole/dict.Dict).Find -/
def f66 (X : Caller) (L : Looper) (K : Value → AHeap → Prop) (h : AHeap) (t0 t1 : Value) : Prop :=
 regK 4 h fun b h =>
 opK (boxV t0 (b + 0) h) fun t2 h =>
 opK (boxV t1 (b + 1) h) fun t3 h =>
 rdK ((fun h : AHeap => ld1 t2 h) ((h.bump 2))) ((h.bump 2)) fun t6 h =>
 X (.call 73 [t6]) (fun t7 h =>
 condK t7
 (K (.tuple #[(.int .u32 0), (.int .i64 1)]) ((h.bump 2)))
 (rdK ((fun h : AHeap => ld1 t2 h) ((h.bump 16))) ((h.bump 16)) fun t8 h =>
 opK (nilV t8 h) fun t9 h =>
 rdK (fAddr 3 t9) h fun t10 h =>
 rdK (ld1 t10 h) h fun t11 h =>
 rdK (ld1 t2 h) h fun t12 h =>
 opK (nilV t12 h) fun t13 h =>
 rdK (fAddr 1 t13) h fun t14 h =>
 rdK (ldN 2 t14 h) h fun t15 h =>
 rdK (ld1 t3 h) h fun t16 h =>
 X (.call 105 [t15, t16]) (fun t17 h =>
 chkK (chkR ((ld1 t10 h).map (·, h)) t11 (chkR ((ld1 t2 h).map (·, h)) t8 true)) <|
 X (.call 104 [t11, t17, (.func (.func 106) #[] #[t2, t3])]) (fun t19 h =>
 opK (extV 0 t19 h) fun t20 h =>
 opK (extV 1 t19 h) fun t21 h =>
 K (.tuple #[t20, t21]) h) h) h)) h
theorem f66_eq (X : Caller) (L : Looper) (K : Value → AHeap → Prop) (h : AHeap) (t0 t1 : Value) : aJob P X L (.call 66 [t0, t1]) K h = f66 X L K h t0 t1 := by kernel_rfl
/-- (*cubbyhole/cache.Cache).leave$1 -/
def f67 (X : Caller) (L : Looper) (K : Value → AHeap → Prop) (h : AHeap) (t0 t1 t2 : Value) : Prop :=
 rdK ((fun h : AHeap => ld1 t1 h) ((h.bump 14))) ((h.bump 14)) fun t10 h =>
 opK (nilV t10 h) fun t11 h =>
 rdK (fAddr 0 t11) h fun t12 h =>
 rdK (fAddr 2 t12) h fun t13 h =>
 rdK (ld1 t13 h) h fun t14 h =>
 X (.call 38 [t14, t0]) (fun t16 h =>
 opK (extV 0 t16 h) fun t17 h =>
 opK (extV 1 t16 h) fun t18 h =>
 opK (extV 2 t16 h) fun t19 h =>
 rdK ((fun h : AHeap => ld1 t1 h) ((h.bump 7))) ((h.bump 7)) fun t20 h =>
 opK (nilV t20 h) fun t21 h =>
 rdK (fAddr 0 t21) h fun t22 h =>
 rdK (fAddr 2 t22) h fun t23 h =>
 rdK (ld1 t23 h) h fun t24 h =>
 X (.call 68 [t24, t0]) (fun t26 h =>
 rdK ((fun h : AHeap => ld1 t1 h) ((h.bump 8))) ((h.bump 8)) fun t27 h =>
 opK (nilV t27 h) fun t28 h =>
 rdK (fAddr 0 t28) h fun t29 h =>
 rdK (fAddr 3 t29) h fun t30 h =>
 rdK (ld1 t30 h) h fun t31 h =>
 X (.call 69 [t31, t17, t18]) (fun t34 h =>
 rdK ((fun h : AHeap => ld1 t1 h) ((h.bump 7))) ((h.bump 7)) fun t35 h =>
 opK (nilV t35 h) fun t36 h =>
 rdK (fAddr 0 t36) h fun t37 h =>
 rdK (fAddr 4 t37) h fun t38 h =>
 rdK (ld1 t38 h) h fun t39 h =>
 X (.call 70 [t39, t0]) (fun t41 h =>
 regK 13 h fun b h =>
 rdK (ld1 t1 h) h fun t43 h =>
 opK (nilV t43 h) fun t44 h =>
 rdK (fAddr 0 t44) h fun t45 h =>
 rdK (fAddr 0 t45) h fun t46 h =>
 rdK (ld1 t46 h) h fun t47 h =>
 X (.call 71 [t47, t0]) (fun t49 h =>
 opK (extV 0 t49 h) fun t50 h =>
 opK (extV 1 t49 h) fun t51 h =>
 opK (newV [.string ⟨#[]⟩, .slice none 0 0, .int .u64 0, .int .u64 0] (b + 10) h) fun t7 h =>
 stK (stV 4 t7 t50 h) fun h =>
 rdK ((fun h : AHeap => ld1 t1 h) ((h.bump 4))) ((h.bump 4)) fun t52 h =>
 rdK (ld1 t2 h) h fun t53 h =>
 rdK (ldN 4 t7 h) h fun t54 h =>
 X (.call 72 [t52, t53, t54]) (fun t55 h =>
 K (.tuple #[]) h) h) h) h) h) h) h
theorem f67_eq (X : Caller) (L : Looper) (K : Value → AHeap → Prop) (h : AHeap) (t0 t1 t2 : Value) : aJob P X L (.call 67 [t0, t1, t2]) K h = f67 X L K h t0 t1 t2 := by kernel_rfl
/-- (*cubbyhole/segment.Segments).Remove -/
def f68 (X : Caller) (L : Looper) (K : Value → AHeap → Prop) (h : AHeap) (t0 t1 : Value) : Prop :=
 X (.call 75 [t0, t1, (.int .i64 0)]) (fun t8 h =>
 rdK ((fun h : AHeap => binC P .neq 24 24 t8 (.int .i64 0) h) ((h.bump 2))) ((h.bump 2)) fun t10 h =>
 condK t10
 (K t8 ((h.bump 2)))
 (X (.call 108 [t0, t1]) (fun t14 h =>
 rdK (unV P .not 4 t14) h fun t15 h =>
 condK t15
 (K (.int .i64 9) ((h.bump 1)))
 (K (.int .i64 0) ((h.bump 1)))) ((h.bump 4)))) (((h.bump 1).bump 4))
theorem f68_eq (X : Caller) (L : Looper) (K : Value → AHeap → Prop) (h : AHeap) (t0 t1 : Value) : aJob P X L (.call 68 [t0, t1]) K h = f68 X L K h t0 t1 := by kernel_rfl
/-- (*cubbyhole/budget.Budget).Remove -/
def f69 (X : Caller) (L : Looper) (K : Value → AHeap → Prop) (h : AHeap) (t0 t1 t2 : Value) : Prop :=
 X (.call 109 [t0, t1, t2]) (fun t11 h =>
 rdK ((fun h : AHeap => binC P .neq 24 24 t11 (.int .i64 0) h) ((h.bump 2))) ((h.bump 2)) fun t13 h =>
 condK t13
 (K t11 ((h.bump 2)))
 (X (.call 110 [t0, t1, t2]) (fun t18 h =>
 rdK (unV P .not 4 t18) h fun t19 h =>
 condK t19
 (K (.int .i64 9) ((h.bump 1)))
 (opK ((fun h : AHeap => nilV t0 h) ((h.bump 16))) fun t24 h =>
 rdK (fAddr 2 t24) h fun t25 h =>
 rdK (ixR 2 2 t25 t1) h fun t26 h =>
 rdK (ldN 2 t26 h) h fun t27 h =>
 rdK (unV P .neg 3 t2) h fun t29 h =>
 rdK (buildA P 150 [(0, (.int .i64 (-1))), (1, t29)]) h fun t30 h =>
 opK (nilV t0 h) fun t32 h =>
 rdK (fAddr 2 t32) h fun t33 h =>
 X (.call 111 [t27, t30]) (fun t31 h =>
 rdK (ixR 2 2 t33 t1) h fun t34 h =>
 stK (stV 2 t34 t31 h) fun h =>
 K (.int .i64 0) ((h.bump 1))) h)) ((h.bump 5)))) (((h.bump 1).bump 5))
theorem f69_eq (X : Caller) (L : Looper) (K : Value → AHeap → Prop) (h : AHeap) (t0 t1 t2 : Value) : aJob P X L (.call 69 [t0, t1, t2]) K h = f69 X L K h t0 t1 t2 := by kernel_rfl
/-- (*cubbyhole/due.Deadlines).Remove -/
def f70 (X : Caller) (L : Looper) (K : Value → AHeap → Prop) (h : AHeap) (t0 t1 : Value) : Prop :=
 X (.call 85 [t0, t1]) (fun t10 h =>
 rdK ((fun h : AHeap => binC P .neq 24 24 t10 (.int .i64 0) h) ((h.bump 2))) ((h.bump 2)) fun t12 h =>
 condK t12
 (K t10 ((h.bump 2)))
 (regK 12 h fun b h =>
 opK (nilV t0 h) fun t16 h =>
 rdK (fAddr 2 t16) h fun t17 h =>
 rdK (ld1 t17 h) h fun t18 h =>
 rdK (lookupA P 162 t18 t1 true h) h fun t20 h =>
 opK (extV 0 t20 h) fun t21 h =>
 opK (extV 1 t20 h) fun t22 h =>
 opK (newV [.int .u32 0, .int .u64 0, .int .u64 0] (b + 9) h) fun t6 h =>
 stK (stV 3 t6 t21 h) fun h =>
 rdK ((fun h : AHeap => unV P .not 4 t22) ((h.bump 2))) ((h.bump 2)) fun t24 h =>
 condK t24
 (K (.int .i64 9) ((h.bump 1)))
 (rdK ((fun h : AHeap => ldN 3 t6 h) ((h.bump 3))) ((h.bump 3)) fun t26 h =>
 X (.call 112 [t0, t26]) (fun t27 h =>
 K (.int .i64 0) ((h.bump 1))) h))) (((h.bump 1).bump 4))
theorem f70_eq (X : Caller) (L : Looper) (K : Value → AHeap → Prop) (h : AHeap) (t0 t1 : Value) : aJob P X L (.call 70 [t0, t1]) K h = f70 X L K h t0 t1 := by kernel_rfl
def f71_j10 (X : Caller) (L : Looper) (K : Value → AHeap → Prop) (h : AHeap) (t8 t9 t4 t72 t73 t5 : Value) : Prop :=
 rdK ((fun h : AHeap => ldN 4 t8 h) ((h.bump 4))) ((h.bump 4)) fun t72_1 h =>
 stK (stV 4 t4 t72_1 h) fun h =>
 retK (consR (ldN 4 t4 h) (consR (some t9) (some []))) K h
/-- (*cubbyhole/dict.Dict).Remove -/
def f71 (X : Caller) (L : Looper) (K : Value → AHeap → Prop) (h : AHeap) (t0 t1 : Value) : Prop :=
 regK 2 h fun b h =>
 opK (newV [.string ⟨#[]⟩, .slice none 0 0, .int .u64 0, .int .u64 0] (b + 0) h) fun t4 h =>
 X (.call 73 [t0]) (fun t13 h =>
 condK t13
 (rdK ((fun h : AHeap => buildA P 59 []) ((h.bump 3))) ((h.bump 3)) fun t14 h =>
  stK (stV 4 t4 t14 h) fun h =>
  retK (consR (ldN 4 t4 h) (consR (some (.int .i64 1)) (some []))) K h)
 (opK ((fun h : AHeap => nilV t0 h) ((h.bump 12))) fun t17 h =>
 rdK (fAddr 0 t17) h fun t18 h =>
 rdK (fAddr 0 t18) h fun t19 h =>
 rdK (ld1 t19 h) h fun t20 h =>
 X (.call 113 [t20, t1]) (fun t22 h =>
 opK (extV 0 t22 h) fun t23 h =>
 opK (extV 1 t22 h) fun t24 h =>
 rdK ((fun h : AHeap => binC P .neq 24 24 t24 (.int .i64 0) h) ((h.bump 2))) ((h.bump 2)) fun t26 h =>
 condK t26
 (rdK ((fun h : AHeap => buildA P 59 []) ((h.bump 4))) ((h.bump 4)) fun t27 h =>
  stK (stV 4 t4 t27 h) fun h =>
  retK (consR (ldN 4 t4 h) (consR (some t24) (some []))) K h)
 (opK ((fun h : AHeap => nilV t0 h) ((h.bump 9))) fun t30 h =>
 rdK (fAddr 3 t30) h fun t31 h =>
 rdK (ld1 t31 h) h fun t32 h =>
 X (.call 115 [t0, t1]) (fun t35 h =>
 chkK (chkR ((ld1 t31 h).map (·, h)) t32 true) <|
 X (.call 114 [t32, t35, t1]) (fun t37 h =>
 regK 13 h fun b_1 h =>
 opK (nilV t0 h) fun t40 h =>
 rdK (fAddr 0 t40) h fun t41 h =>
 rdK (fAddr 0 t41) h fun t42 h =>
 rdK (ld1 t42 h) h fun t43 h =>
 X (.call 116 [t43, t1]) (fun t45 h =>
 opK (extV 0 t45 h) fun t46 h =>
 opK (extV 1 t45 h) fun t47 h =>
 opK (newV [.string ⟨#[]⟩, .slice none 0 0, .int .u64 0, .int .u64 0] (b_1 + 10) h) fun t8 h =>
 stK (stV 4 t8 t46 h) fun h =>
 regK 22 h fun b_2 h =>
 opK (nilV t0 h) fun t50 h =>
 rdK (fAddr 3 t50) h fun t51 h =>
 rdK (ld1 t51 h) h fun t52 h =>
 opK (nilV t0 h) fun t55 h =>
 rdK (fAddr 3 t55) h fun t56 h =>
 rdK (ld1 t56 h) h fun t57 h =>
 opK (nilV t0 h) fun t60 h =>
 rdK (fAddr 3 t60) h fun t61 h =>
 rdK (ld1 t61 h) h fun t62 h =>
 opK (newV [.int .i64 0, .bool false] (b_2 + 19) h) fun t10 h =>
 X (.call 118 [t52]) (fun t53 h =>
 chkK (chkR ((ld1 t61 h).map (·, h)) t62 (chkR ((ld1 t56 h).map (·, h)) t57 true)) <|
 X (.call 119 [t57]) (fun t58 h =>
 chkK (chkR ((ld1 t61 h).map (·, h)) t62 true) <|
 X (.call 120 [t62]) (fun t63 h =>
 X (.call 117 [t53, t58, t63]) (fun t64 h =>
 opK (extV 0 t64 h) fun t65 h =>
 opK (extV 1 t64 h) fun t66 h =>
 stK (stV 2 t10 t65 h) fun h =>
 rdK ((fun h : AHeap => binC P .eql 24 24 t66 (.int .i64 0) h) ((h.bump 2))) ((h.bump 2)) fun t68 h =>
 condK t68
 (rdK ((fun h : AHeap => ldN 2 t10 h) ((h.bump 3))) ((h.bump 3)) fun t70 h =>
  X (.call 121 [t0, t70]) (fun t71 h =>
  f71_j10 X L K h t8 t47 t4 undef undef ((.int .i64 0))) h)
 (f71_j10 X L K h t8 t47 t4 undef undef ((.int .i64 0)))) h) h) h) h) h) h) h)) h)) ((h.bump 2))
theorem f71_eq (X : Caller) (L : Looper) (K : Value → AHeap → Prop) (h : AHeap) (t0 t1 : Value) : aJob P X L (.call 71 [t0, t1]) K h = f71 X L K h t0 t1 := by kernel_rfl
/-- (*cubbyhole/cache.Cache).tell -/
def f72 (X : Caller) (L : Looper) (K : Value → AHeap → Prop) (h : AHeap) (t0 t1 t2 : Value) : Prop :=
 regK 1 h fun b h =>
 opK (boxV t2 (b + 0) h) fun t5 h =>
 opK ((fun h : AHeap => nilV t0 h) ((h.bump 22))) fun t7 h =>
 rdK (fAddr 0 t7) h fun t8 h =>
 rdK (fAddr 5 t8) h fun t9 h =>
 rdK (ld1 t9 h) h fun t10 h =>
 rdK (fAddr 0 t5) h fun t12 h =>
 rdK (ld1 t12 h) h fun t13 h =>
 rdK (fAddr 1 t5) h fun t14 h =>
 rdK (ld1 t14 h) h fun t15 h =>
 rdK (fAddr 3 t5) h fun t16 h =>
 rdK (ld1 t16 h) h fun t17 h =>
 rdK (fAddr 2 t5) h fun t18 h =>
 rdK (ld1 t18 h) h fun t19 h =>
 opK (nilV t0 h) fun t21 h =>
 rdK (fAddr 0 t21) h fun t22 h =>
 rdK (fAddr 4 t22) h fun t23 h =>
 rdK (ld1 t23 h) h fun t24 h =>
 X (.call 53 [t24]) (fun t25 h =>
 chkK (chkR ((ld1 t18 h).map (·, h)) t19 (chkR ((ld1 t16 h).map (·, h)) t17 (chkR ((ld1 t14 h).map (·, h)) t15 (chkR ((ld1 t12 h).map (·, h)) t13 (chkR ((ld1 t9 h).map (·, h)) t10 true))))) <|
 rdK (buildA P 75 [(0, t1), (1, t13), (2, t15), (3, t17), (4, t19), (5, t25)]) h fun t26 h =>
 X (.call 122 [t10, t26]) (fun t27 h =>
 K (.tuple #[]) h) h) h
theorem f72_eq (X : Caller) (L : Looper) (K : Value → AHeap → Prop) (h : AHeap) (t0 t1 t2 : Value) : aJob P X L (.call 72 [t0, t1, t2]) K h = f72 X L K h t0 t1 t2 := by kernel_rfl
/-- (*cubbyhole/dict.Dict).zero -/
def f73 (X : Caller) (L : Looper) (K : Value → AHeap → Prop) (h : AHeap) (t0 : Value) : Prop :=
 rdK ((fun h : AHeap => binC P .eql 83 83 t0 (.pointer none) h) (((h.bump 1).bump 10))) (((h.bump 1).bump 10)) fun t4 h =>
 gopK (wantV t4 false) h (some (t0, h)) fun t6 h =>
 gopK (wantV t4 false) h (nilV t6 h) fun t7 h =>
 gopK (wantV t4 false) h ((fAddr 3 t7).map (·, h)) fun t8 h =>
 gopK (wantV t4 false) h ((ld1 t8 h).map (·, h)) fun t9 h =>
 gopK (wantV t4 false) h ((binC P .eql 131 131 t9 (.pointer none) h).map (·, h)) fun t10 h =>
 opK (pickV t4 (.bool true) t10 h) fun t11 h =>
 K t11 h
theorem f73_eq (X : Caller) (L : Looper) (K : Value → AHeap → Prop) (h : AHeap) (t0 : Value) : aJob P X L (.call 73 [t0]) K h = f73 X L K h t0 := by kernel_rfl
/-- (*cubbyhole/entrylog.Log).Get -/
def f74 (X : Caller) (L : Looper) (K : Value → AHeap → Prop) (h : AHeap) (t0 t1 : Value) : Prop :=
 regK 2 h fun b h =>
 opK (newV [.string ⟨#[]⟩, .slice none 0 0, .int .u64 0, .int .u64 0] (b + 0) h) fun t4 h =>
 X (.call 123 [t0, t1]) (fun t11 h =>
 opK (extV 0 t11 h) fun t12 h =>
 opK (extV 1 t11 h) fun t13 h =>
 rdK ((fun h : AHeap => binC P .neq 24 24 t13 (.int .i64 0) h) ((h.bump 2))) ((h.bump 2)) fun t15 h =>
 condK t15
 (rdK ((fun h : AHeap => buildA P 59 []) ((h.bump 4))) ((h.bump 4)) fun t16 h =>
  stK (stV 4 t4 t16 h) fun h =>
  retK (consR (ldN 4 t4 h) (consR (some t13) (some []))) K h)
 (opK ((fun h : AHeap => nilV t12 h) ((h.bump 6))) fun t19 h =>
 rdK (ldN 4 t19 h) h fun t20 h =>
 X (.call 124 [t20]) (fun t21 h =>
 stK (stV 4 t4 t21 h) fun h =>
 retK (consR (ldN 4 t4 h) (consR (some (.int .i64 0)) (some []))) K h) h)) ((h.bump 8))
theorem f74_eq (X : Caller) (L : Looper) (K : Value → AHeap → Prop) (h : AHeap) (t0 t1 : Value) : aJob P X L (.call 74 [t0, t1]) K h = f74 X L K h t0 t1 := by kernel_rfl
/-- (*cubbyhole/segment.Segments).check -/
def f75 (X : Caller) (L : Looper) (K : Value → AHeap → Prop) (h : AHeap) (t0 t1 t2 : Value) : Prop :=
 rdK ((fun h : AHeap => binC P .eql 85 85 t0 (.pointer none) h) (((h.bump 1).bump 10))) (((h.bump 1).bump 10)) fun t9 h =>
 gopK (wantV t9 false) h (some (t0, h)) fun t11 h =>
 gopK (wantV t9 false) h (nilV t11 h) fun t12 h =>
 gopK (wantV t9 false) h ((fAddr 4 t12).map (·, h)) fun t13 h =>
 gopK (wantV t9 false) h ((ld1 t13 h).map (·, h)) fun t14 h =>
 gopK (wantV t9 false) h ((binC P .eql 139 139 t14 (.map none) h).map (·, h)) fun t15 h =>
 opK (pickV t9 (.bool true) t15 h) fun t16 h =>
 condK t16
 (K (.int .i64 1) ((h.bump 1)))
 (rdK ((fun h : AHeap => binC P .geq 81 81 t1 (.int .u32 4194304) h) ((h.bump 11))) ((h.bump 11)) fun t19 h =>
  gopK (wantV t19 false) h (some (t2, h)) fun t21 h =>
  gopK (wantV t19 false) h ((binC P .lss 3 3 t21 (.int .i64 0) h).map (·, h)) fun t22 h =>
  opK (pickV t19 (.bool true) t22 h) fun t23 h =>
  gopK (wantV t23 false) h (some (t2, h)) fun t25 h =>
  gopK (wantV t23 false) h ((binC P .gtr 3 3 t25 (.int .i64 1099511627776) h).map (·, h)) fun t26 h =>
  opK (pickV t23 (.bool true) t26 h) fun t27 h =>
  condK t27
  (K (.int .i64 2) ((h.bump 1)))
  (K (.int .i64 0) ((h.bump 1))))
theorem f75_eq (X : Caller) (L : Looper) (K : Value → AHeap → Prop) (h : AHeap) (t0 t1 t2 : Value) : aJob P X L (.call 75 [t0, t1, t2]) K h = f75 X L K h t0 t1 t2 := by kernel_rfl
/-- (*cubbyhole/segment.Segments).of -/
def f76 (X : Caller) (L : Looper) (K : Value → AHeap → Prop) (h : AHeap) (t0 t1 : Value) : Prop :=
 opK ((fun h : AHeap => nilV t0 h) (((h.bump 1).bump 7))) fun t6 h =>
 rdK (fAddr 0 t6) h fun t7 h =>
 rdK (ixR 2 1 t7 (.int .i64 1)) h fun t8 h =>
 rdK (ld1 t8 h) h fun t9 h =>
 X (.call 125 [t9, t1]) (fun t11 h =>
 condK t11
 (K (.int .i64 1) ((h.bump 1)))
 (K (.int .i64 0) ((h.bump 1)))) h
theorem f76_eq (X : Caller) (L : Looper) (K : Value → AHeap → Prop) (h : AHeap) (t0 t1 : Value) : aJob P X L (.call 76 [t0, t1]) K h = f76 X L K h t0 t1 := by kernel_rfl
def f77_j9 (X : Caller) (L : Looper) (K : Value → AHeap → Prop) (h : AHeap) (t0 t9 t1 t2 t26 t27 t28 t29 t31 t32 t6 t7 : Value) : Prop :=
 X (.call 126 [t0, t9, t1, t2]) (fun t30 h =>
 X (.call 127 [t0]) (fun t32_1 h =>
 K (.tuple #[t32_1, (.int .i64 0)]) h) ((h.bump 4))) ((h.bump 5))
/-- (*cubbyhole/segment.Segments).Use -/
def f77 (X : Caller) (L : Looper) (K : Value → AHeap → Prop) (h : AHeap) (t0 t1 t2 : Value) : Prop :=
 X (.call 75 [t0, t1, t2]) (fun t13 h =>
 rdK ((fun h : AHeap => binC P .neq 24 24 t13 (.int .i64 0) h) ((h.bump 2))) ((h.bump 2)) fun t15 h =>
 condK t15
 (K (.tuple #[(.slice none 0 0), t13]) ((h.bump 3)))
 (X (.call 108 [t0, t1]) (fun t19 h =>
 rdK (unV P .not 4 t19) h fun t20 h =>
 condK t20
 (K (.tuple #[(.slice none 0 0), (.int .i64 9)]) ((h.bump 2)))
 (opK ((fun h : AHeap => nilV t0 h) (((h.bump 1).bump 5))) fun t22 h =>
 rdK (fAddr 5 t22) h fun t23 h =>
 rdK (ld1 t23 h) h fun t24 h =>
 rdK (binC P .eql 3 3 t24 (.int .i64 (-1)) h) h fun t25 h =>
 condK t25
 (f77_j9 X L K ((h.bump 1)) t0 ((.int .i64 0)) t1 t2 undef undef undef undef undef undef ((.slice none 0 0)) ((.int .i64 0)))
 (f77_j9 X L K h t0 ((.int .i64 1)) t1 t2 undef undef undef undef undef undef ((.slice none 0 0)) ((.int .i64 0))))) ((h.bump 4)))) (((h.bump 2).bump 5))
theorem f77_eq (X : Caller) (L : Looper) (K : Value → AHeap → Prop) (h : AHeap) (t0 t1 t2 : Value) : aJob P X L (.call 77 [t0, t1, t2]) K h = f77 X L K h t0 t1 t2 := by kernel_rfl
/-- (*cubbyhole/budget.Budget).Add -/
def f78 (X : Caller) (L : Looper) (K : Value → AHeap → Prop) (h : AHeap) (t0 t1 t2 : Value) : Prop :=
 X (.call 109 [t0, t1, t2]) (fun t12 h =>
 rdK ((fun h : AHeap => binC P .neq 24 24 t12 (.int .i64 0) h) ((h.bump 2))) ((h.bump 2)) fun t14 h =>
 condK t14
 (K t12 ((h.bump 2)))
 (regK 11 h fun b h =>
 opK (nilV t0 h) fun t18 h =>
 rdK (fAddr 2 t18) h fun t19 h =>
 rdK (ixR 2 2 t19 t1) h fun t20 h =>
 rdK (ldN 2 t20 h) h fun t21 h =>
 rdK (buildA P 150 [(0, (.int .i64 1)), (1, t2)]) h fun t23 h =>
 X (.call 111 [t21, t23]) (fun t24 h =>
 opK (newV [.int .i64 0, .int .i64 0] (b + 9) h) fun t8 h =>
 stK (stV 2 t8 t24 h) fun h =>
 rdK ((fun h : AHeap => ldN 2 t8 h) ((h.bump 3))) ((h.bump 3)) fun t25 h =>
 X (.call 128 [t25]) (fun t26 h =>
 rdK (unV P .not 4 t26) h fun t27 h =>
 condK t27
 (K (.int .i64 7) ((h.bump 1)))
 (rdK ((fun h : AHeap => ldN 2 t8 h) ((h.bump 7))) ((h.bump 7)) fun t30 h =>
 opK (nilV t0 h) fun t31 h =>
 rdK (fAddr 2 t31) h fun t32 h =>
 rdK (ixR 2 2 t32 t1) h fun t33 h =>
 stK (stV 2 t33 t30 h) fun h =>
 K (.int .i64 0) ((h.bump 1)))) h) h)) (((h.bump 1).bump 5))
theorem f78_eq (X : Caller) (L : Looper) (K : Value → AHeap → Prop) (h : AHeap) (t0 t1 t2 : Value) : aJob P X L (.call 78 [t0, t1, t2]) K h = f78 X L K h t0 t1 t2 := by kernel_rfl
def f79_l1 (X : Caller) (L : Looper) (a : AAct) (K : ActPost) (h : AHeap) : Prop :=
 rdK ((fun h : AHeap => binV P .lss 3 3 (a.env 11) (a.env 10) h) ((h.bump 1))) ((h.bump 1)) fun t12 h =>
 condK t12
 (rdK ((fun h : AHeap => ixS 1 (a.env 9) (a.env 11)) ((h.bump 3))) ((h.bump 3)) fun t13 h =>
 rdK (ld1 t13 h) h fun t14 h =>
 opK ((fun h : AHeap => nilV (a.env 0) h) ((h.bump 14))) fun t17 h =>
 rdK (fAddr 0 t17) h fun t18 h =>
 rdK (fAddr 2 t18) h fun t19 h =>
 rdK (ld1 t19 h) h fun t20 h =>
 X (.call 38 [t20, t14]) (fun t22 h =>
 opK (extV 0 t22 h) fun t23 h =>
 opK (extV 1 t22 h) fun t24 h =>
 opK (extV 2 t22 h) fun t25 h =>
 opK ((fun h : AHeap => nilV (a.env 0) h) ((h.bump 7))) fun t27 h =>
 rdK (fAddr 0 t27) h fun t28 h =>
 rdK (fAddr 3 t28) h fun t29 h =>
 rdK (ld1 t29 h) h fun t30 h =>
 X (.call 129 [t30, (.int .i64 1), t24]) (fun t32 h =>
 rdK ((fun h : AHeap => binC P .add 3 3 (a.env 11) (.int .i64 1) h) ((h.bump 2))) ((h.bump 2)) fun t33 h =>
 K .normal ⟨(upds a.env [(12, t12), (13, t13), (14, t14), (5, t14), (16, (a.env 0)), (17, t17), (18, t18), (19, t19), (20, t20), (21, t14), (22, t22), (15, t22), (23, t23), (24, t24), (25, t25), (6, t23), (7, t24), (8, t25), (26, (a.env 0)), (27, t27), (28, t28), (29, t29), (30, t30), (31, t24), (32, t32), (33, t33), (11, t33)]), a.defers⟩ h) h) h)
 (K (.exit 0) ⟨(upds a.env [(12, t12)]), a.defers⟩ h)
/-- (*cubbyhole/cache.Cache).demoted -/
def f79 (X : Caller) (L : Looper) (K : Value → AHeap → Prop) (h : AHeap) (t0 t1 : Value) : Prop :=
 regK 3 h fun b h =>
 opK (builtinV P .len [143] [t1] (b + 1) h) fun t10 h =>
 L (f79_l1 X L) ⟨(upds (argsEnv [t0, t1]) [(9, t1), (10, t10), (11, (.int .i64 0))]), []⟩ (blkX 0 (finX P X Tryz.f79 K)) h
theorem f79_eq (X : Caller) (L : Looper) (K : Value → AHeap → Prop) (h : AHeap) (t0 t1 : Value) : aJob P X L (.call 79 [t0, t1]) K h = f79 X L K h t0 t1 := by kernel_rfl
/-- cubbyhole/lru.New -/
def f80 (X : Caller) (L : Looper) (K : Value → AHeap → Prop) (h : AHeap) : Prop :=
 X (.call 130 [(.int .i64 8), (.int .i64 1)]) (fun t4 h =>
 opK (extV 0 t4 h) fun t5 h =>
 opK (extV 1 t4 h) fun t6 h =>
 regK 4 h fun b h =>
 rdK (buildA P 219 [(0, t5)]) h fun t8 h =>
 opK (boxV t8 (b + 2) h) fun t9 h =>
 K t9 h) (((h.bump 1).bump 6))
theorem f80_eq (X : Caller) (L : Looper) (K : Value → AHeap → Prop) (h : AHeap) : aJob P X L (.call 80 []) K h = f80 X L K h  := by kernel_rfl
/-- cubbyhole/budget.allowed -/
def f81 (X : Caller) (L : Looper) (K : Value → AHeap → Prop) (h : AHeap) (t0 t1 : Value) : Prop :=
 rdK ((fun h : AHeap => binC P .geq 3 3 t0 (.int .i64 1) h) (((h.bump 1).bump 15))) (((h.bump 1).bump 15)) fun t6 h =>
 gopK (wantV t6 true) h (some (t0, h)) fun t8 h =>
 gopK (wantV t6 true) h ((binC P .leq 3 3 t8 (.int .i64 1048576) h).map (·, h)) fun t9 h =>
 opK (pickV t6 t9 (.bool false) h) fun t10 h =>
 gopK (wantV t10 true) h (some (t1, h)) fun t12 h =>
 gopK (wantV t10 true) h ((binC P .geq 3 3 t12 (.int .i64 1) h).map (·, h)) fun t13 h =>
 opK (pickV t10 t13 (.bool false) h) fun t14 h =>
 gopK (wantV t14 true) h (some (t1, h)) fun t16 h =>
 gopK (wantV t14 true) h ((binC P .leq 3 3 t16 (.int .i64 1099511627776) h).map (·, h)) fun t17 h =>
 opK (pickV t14 t17 (.bool false) h) fun t18 h =>
 K t18 h
theorem f81_eq (X : Caller) (L : Looper) (K : Value → AHeap → Prop) (h : AHeap) (t0 t1 : Value) : aJob P X L (.call 81 [t0, t1]) K h = f81 X L K h t0 t1 := by kernel_rfl
def f82_l7 (X : Caller) (L : Looper) (a : AAct) (K : ActPost) (h : AHeap) : Prop :=
 rdK ((fun h : AHeap => binV P .lss 3 3 (a.env 18) (a.env 17) h) ((h.bump 1))) ((h.bump 1)) fun t19 h =>
 condK t19
 (opK ((fun h : AHeap => nilV (a.env 4) h) (((h.bump 2).bump 9))) fun t22 h =>
 rdK (fAddr 0 t22) h fun t23 h =>
 rdK (ld1 t23 h) h fun t24 h =>
 X (.call 132 []) (fun t26 h =>
 chkK (chkR ((ld1 t23 h).map (·, h)) t24 true) <|
 rdK (ixS 9 t24 (a.env 18)) h fun t27 h =>
 rdK (fAddr 0 t27) h fun t28 h =>
 stK (stV 1 t28 t26 h) fun h =>
 rdK ((fun h : AHeap => binC P .add 3 3 (a.env 18) (.int .i64 1) h) ((h.bump 2))) ((h.bump 2)) fun t29 h =>
 K .normal ⟨(upds a.env [(19, t19), (20, (a.env 18)), (5, (a.env 18)), (21, (a.env 4)), (22, t22), (23, t23), (24, t24), (25, (a.env 18)), (26, t26), (27, t27), (28, t28), (29, t29), (18, t29)]), a.defers⟩ h) h)
 (K (.exit 0) ⟨(upds a.env [(19, t19)]), a.defers⟩ h)
def f82_j5 (X : Caller) (L : Looper) (K : Value → AHeap → Prop) (h : AHeap) (a : AAct) : Prop :=
 leaveA P X Tryz.f82 ⟨(upds a.env [(30, (a.env 4)), (2, (a.env 4)), (3, (.int .i64 0))]), a.defers⟩ K a.defers ((h.bump 3))
/-- cubbyhole/swiss.New -/
def f82 (X : Caller) (L : Looper) (K : Value → AHeap → Prop) (h : AHeap) (t0 : Value) : Prop :=
 X (.call 131 [t0]) (fun t7 h =>
 rdK (unV P .not 4 t7) h fun t8 h =>
 condK t8
 (K (.tuple #[(.pointer none), (.int .i64 2)]) ((h.bump 2)))
 (regK 5 h fun b h =>
 opK (makeSliceA P 220 t0 t0 (b + 1) h) fun t10 h =>
 rdK (buildA P 222 [(0, t10)]) h fun t11 h =>
 opK (boxV t11 (b + 3) h) fun t12 h =>
 regK 6 h fun b_1 h =>
 opK (nilV t12 h) fun t14 h =>
 rdK (fAddr 0 t14) h fun t15 h =>
 rdK (ld1 t15 h) h fun t16 h =>
 opK (builtinV P .len [220] [t16] (b_1 + 4) h) fun t17 h =>
 L (f82_l7 X L) ⟨(upds (argsEnv [t0]) [(2, (.pointer none)), (3, (.int .i64 0)), (6, t0), (7, t7), (8, t8), (9, t0), (10, t10), (11, t11), (12, t12), (4, t12), (13, t12), (14, t14), (15, t15), (16, t16), (17, t17), (18, (.int .i64 0))]), []⟩ (blkX 0 (seqX (fun a h => f82_j5 X L K h a) (finX P X Tryz.f82 K))) h)) (((h.bump 2).bump 3))
theorem f82_eq (X : Caller) (L : Looper) (K : Value → AHeap → Prop) (h : AHeap) (t0 : Value) : aJob P X L (.call 82 [t0]) K h = f82 X L K h t0 := by kernel_rfl
end Go.Proofs.YtdlnbmadifgbkaaGreatDoor.F
