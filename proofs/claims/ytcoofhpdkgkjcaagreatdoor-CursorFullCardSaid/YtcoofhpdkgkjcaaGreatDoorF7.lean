/- The functions of the program, as shallow texts (printed by a program of this place). -/
import Derived.Test.YtcoofhpdkgkjcaaGreatDoorFW
namespace Go.Proofs.YtcoofhpdkgkjcaaGreatDoor.F
set_option linter.unusedVariables false
set_option linter.unusedSimpArgs false
open Go Go.Cub
/-- (*cubbyhole/links.Links).in -/
def f284 (X : Caller) (L : Looper) (K : Value → AHeap → Prop) (h : AHeap) (t0 t1 : Value) : Prop :=
 X (.call 289 [t0, t1]) (fun t8 h =>
 rdK ((fun h : AHeap => binC P .neq 31 31 t8 (.int .i64 0) h) ((h.bump 2))) ((h.bump 2)) fun t10 h =>
 condK t10
 (K t8 ((h.bump 2)))
 (opK ((fun h : AHeap => nilV t0 h) ((h.bump 9))) fun t13 h =>
 rdK (fAddr 0 t13) h fun t14 h =>
 rdK (ld1 t14 h) h fun t15 h =>
 rdK (ixS 3 t15 t1) h fun t17 h =>
 rdK (fAddr 2 t17) h fun t18 h =>
 rdK (ld1 t18 h) h fun t19 h =>
 rdK (binC P .eql 90 90 t19 (.int .u32 0) h) h fun t20 h =>
 condK t20
 (K (.int .i64 9) ((h.bump 1)))
 (K (.int .i64 0) ((h.bump 1))))) (((h.bump 1).bump 4))
theorem f284_eq (X : Caller) (L : Looper) (K : Value → AHeap → Prop) (h : AHeap) (t0 t1 : Value) : aJob P X L (.call 284 [t0, t1]) K h = f284 X L K h t0 t1 := by kernel_rfl
/-- (*cubbyhole/links.Links).real -/
def f285 (X : Caller) (L : Looper) (K : Value → AHeap → Prop) (h : AHeap) (t0 t1 : Value) : Prop :=
 regK 7 ((h.bump 2)) fun b h =>
 opK (convertA P 90 3 t1 (b + 1) h) fun t7 h =>
 opK (nilV t0 h) fun t9 h =>
 rdK (fAddr 1 t9) h fun t10 h =>
 rdK (ld1 t10 h) h fun t11 h =>
 rdK (binV P .geq 3 3 t7 t11 h) h fun t12 h =>
 condK t12
 (K (.tuple #[(.int .u32 0), (.int .i64 9)]) ((h.bump 2)))
 (K (.tuple #[t1, (.int .i64 0)]) ((h.bump 3)))
theorem f285_eq (X : Caller) (L : Looper) (K : Value → AHeap → Prop) (h : AHeap) (t0 t1 : Value) : aJob P X L (.call 285 [t0, t1]) K h = f285 X L K h t0 t1 := by kernel_rfl
/-- cubbyhole/word.High -/
def f286 (X : Caller) (L : Looper) (K : Value → AHeap → Prop) (h : AHeap) (t0 : Value) : Prop :=
 rdK ((fun h : AHeap => binC P .andNot 27 27 t0 (.int .u64 9187201950435737471) h) (((h.bump 1).bump 4))) (((h.bump 1).bump 4)) fun t4 h =>
 X (.call 263 [t4]) (fun t5 h =>
 K t5 h) h
theorem f286_eq (X : Caller) (L : Looper) (K : Value → AHeap → Prop) (h : AHeap) (t0 : Value) : aJob P X L (.call 286 [t0]) K h = f286 X L K h t0 := by kernel_rfl
/-- cubbyhole/control.Valid -/
def f287 (X : Caller) (L : Looper) (K : Value → AHeap → Prop) (h : AHeap) (t0 : Value) : Prop :=
 X (.call 214 [t0]) (fun t4 h =>
 X (.call 255 [t0]) (fun t6 h =>
 rdK (binV P .or 5 5 t4 t6 h) h fun t7 h =>
 rdK (binC P .eql 5 5 t7 (.int .u8 255) h) h fun t8 h =>
 K t8 h) h) (((h.bump 1).bump 7))
theorem f287_eq (X : Caller) (L : Looper) (K : Value → AHeap → Prop) (h : AHeap) (t0 : Value) : aJob P X L (.call 287 [t0]) K h = f287 X L K h t0 := by kernel_rfl
/-- (*cubbyhole/links.Links).none -/
def f288 (X : Caller) (L : Looper) (K : Value → AHeap → Prop) (h : AHeap) (t0 : Value) : Prop :=
 rdK ((fun h : AHeap => binC P .eql 261 261 t0 (.pointer none) h) (((h.bump 1).bump 10))) (((h.bump 1).bump 10)) fun t4 h =>
 gopK (wantV t4 false) h (some (t0, h)) fun t6 h =>
 gopK (wantV t4 false) h (nilV t6 h) fun t7 h =>
 gopK (wantV t4 false) h ((fAddr 0 t7).map (·, h)) fun t8 h =>
 gopK (wantV t4 false) h ((ld1 t8 h).map (·, h)) fun t9 h =>
 gopK (wantV t4 false) h ((binC P .eql 315 315 t9 (.slice none 0 0) h).map (·, h)) fun t10 h =>
 opK (pickV t4 (.bool true) t10 h) fun t11 h =>
 K t11 h
theorem f288_eq (X : Caller) (L : Looper) (K : Value → AHeap → Prop) (h : AHeap) (t0 : Value) : aJob P X L (.call 288 [t0]) K h = f288 X L K h t0 := by kernel_rfl
/-- (*cubbyhole/links.Links).node -/
def f289 (X : Caller) (L : Looper) (K : Value → AHeap → Prop) (h : AHeap) (t0 t1 : Value) : Prop :=
 X (.call 288 [t0]) (fun t7 h =>
 condK t7
 (K (.int .i64 1) ((h.bump 1)))
 (regK 8 h fun b h =>
  opK (convertA P 90 3 t1 (b + 1) h) fun t10 h =>
  opK (nilV t0 h) fun t12 h =>
  rdK (fAddr 1 t12) h fun t13 h =>
  rdK (ld1 t13 h) h fun t14 h =>
  rdK (binV P .geq 3 3 t10 t14 h) h fun t15 h =>
  condK t15
  (K (.int .i64 2) ((h.bump 1)))
  (K (.int .i64 0) ((h.bump 1))))) (((h.bump 1).bump 3))
theorem f289_eq (X : Caller) (L : Looper) (K : Value → AHeap → Prop) (h : AHeap) (t0 t1 : Value) : aJob P X L (.call 289 [t0, t1]) K h = f289 X L K h t0 t1 := by kernel_rfl
/-- (*cubbyhole/links.Links).put -/
def f290 (X : Caller) (L : Looper) (K : Value → AHeap → Prop) (h : AHeap) (t0 t1 t2 : Value) : Prop :=
 opK ((fun h : AHeap => nilV t0 h) ((h.bump 9))) fun t8 h =>
 rdK (fAddr 0 t8) h fun t9 h =>
 rdK (ld1 t9 h) h fun t10 h =>
 rdK (ixS 3 t10 t2) h fun t12 h =>
 rdK (fAddr 0 t12) h fun t13 h =>
 rdK (ld1 t13 h) h fun t14 h =>
 opK ((fun h : AHeap => nilV t0 h) ((h.bump 18))) fun t16 h =>
 rdK (fAddr 0 t16) h fun t17 h =>
 rdK (ld1 t17 h) h fun t18 h =>
 opK (nilV t0 h) fun t23 h =>
 rdK (fAddr 0 t23) h fun t24 h =>
 rdK (ld1 t24 h) h fun t25 h =>
 rdK (ixS 3 t25 t2) h fun t27 h =>
 rdK (fAddr 2 t27) h fun t28 h =>
 rdK (ld1 t28 h) h fun t29 h =>
 rdK (buildA P 321 [(0, t14), (1, t2), (2, t29)]) h fun t30 h =>
 rdK (ixS 3 t18 t1) h fun t31 h =>
 stK (stV 3 t31 t30 h) fun h =>
 opK ((fun h : AHeap => nilV t0 h) ((h.bump 18))) fun t33 h =>
 rdK (fAddr 0 t33) h fun t34 h =>
 rdK (ld1 t34 h) h fun t35 h =>
 opK (nilV t0 h) fun t38 h =>
 rdK (fAddr 0 t38) h fun t39 h =>
 rdK (ld1 t39 h) h fun t40 h =>
 rdK (ixS 3 t35 t14) h fun t44 h =>
 rdK (fAddr 1 t44) h fun t45 h =>
 stK (stV 1 t45 t1 h) fun h =>
 rdK (ixS 3 t40 t2) h fun t46 h =>
 rdK (fAddr 0 t46) h fun t47 h =>
 stK (stV 1 t47 t1 h) fun h =>
 opK ((fun h : AHeap => nilV t0 h) ((h.bump 18))) fun t49 h =>
 rdK (fAddr 2 t49) h fun t50 h =>
 rdK (ld1 t50 h) h fun t51 h =>
 opK (nilV t0 h) fun t53 h =>
 rdK (fAddr 0 t53) h fun t54 h =>
 rdK (ld1 t54 h) h fun t55 h =>
 rdK (ixS 3 t55 t1) h fun t57 h =>
 rdK (fAddr 2 t57) h fun t58 h =>
 rdK (ld1 t58 h) h fun t59 h =>
 rdK (binC P .sub 90 90 t59 (.int .u32 1) h) h fun t60 h =>
 rdK (ixS 1 t51 t60) h fun t61 h =>
 rdK (ld1 t61 h) h fun t62 h =>
 rdK (binC P .add 3 3 t62 (.int .i64 1) h) h fun t63 h =>
 rdK (ixS 1 t51 t60) h fun t64 h =>
 stK (stV 1 t64 t63 h) fun h =>
 K (.tuple #[]) h
theorem f290_eq (X : Caller) (L : Looper) (K : Value → AHeap → Prop) (h : AHeap) (t0 t1 t2 : Value) : aJob P X L (.call 290 [t0, t1, t2]) K h = f290 X L K h t0 t1 t2 := by kernel_rfl
/-- math/bits.TrailingZeros64 -/
def f291 (X : Caller) (L : Looper) (K : Value → AHeap → Prop) (h : AHeap) (t0 : Value) : Prop :=
 rdK ((fun h : AHeap => binC P .eql 27 27 t0 (.int .u64 0) h) (((h.bump 1).bump 2))) (((h.bump 1).bump 2)) fun t4 h =>
 condK t4
 (K (.int .i64 64) ((h.bump 1)))
 (regK 10 h fun b h =>
 rdK (unV P .neg 27 t0) h fun t7 h =>
 rdK (binV P .and 27 27 t0 t7 h) h fun t8 h =>
 rdK (binC P .mul 27 27 t8 (.int .u64 285870213051353865) h) h fun t9 h =>
 rdK (binC P .shr 27 276 t9 (.int .u64 58) h) h fun t10 h =>
 rdK (ixR 64 1 (.pointer (some ⟨0, 0, none⟩)) t10) h fun t11 h =>
 rdK (ld1 t11 h) h fun t12 h =>
 opK (convertA P 5 3 t12 (b + 8) h) fun t13 h =>
 K t13 h)
theorem f291_eq (X : Caller) (L : Looper) (K : Value → AHeap → Prop) (h : AHeap) (t0 : Value) : aJob P X L (.call 291 [t0]) K h = f291 X L K h t0 := by kernel_rfl
/-- slices.Collect[uint32] -/
def f292 (X : Caller) (L : Looper) (K : Value → AHeap → Prop) (h : AHeap) (t0 : Value) : Prop :=
 X (.call 298 [(.slice none 0 0), t0]) (fun t4 h =>
 K t4 h) (((h.bump 1).bump 3))
theorem f292_eq (X : Caller) (L : Looper) (K : Value → AHeap → Prop) (h : AHeap) (t0 : Value) : aJob P X L (.call 292 [t0]) K h = f292 X L K h t0 := by kernel_rfl
def f293_j5 (X : Caller) (L : Looper) (K : ActPost) (h : AHeap) (a : AAct) : Prop :=
 rdK ((fun h : AHeap => binV P .add 3 3 (a.env 3) (a.env 10) h) ((h.bump 16))) ((h.bump 16)) fun t47 h =>
 rdK (ixS 3 (a.env 0) t47) h fun t48 h =>
 rdK (ldN 3 t48 h) h fun t49 h =>
 rdK (binV P .add 3 3 (a.env 3) (a.env 11) h) h fun t53 h =>
 rdK (ixS 3 (a.env 0) t53) h fun t54 h =>
 rdK (ldN 3 t54 h) h fun t55 h =>
 callV X (a.env 4) [t49, t55] (fun t56 h =>
 rdK (binC P .lss 3 3 t56 (.int .i64 0) h) h fun t57 h =>
 rdK (unV P .not 4 t57) h fun t58 h =>
 condK t58
 (K .ret ⟨(upds a.env [(43, (a.env 4)), (44, (a.env 0)), (45, (a.env 3)), (46, (a.env 10)), (47, t47), (48, t48), (49, t49), (50, (a.env 0)), (51, (a.env 3)), (52, (a.env 11)), (53, t53), (54, t54), (55, t55), (56, t56), (57, t57), (58, t58)]), a.defers⟩ h)
 (rdK ((fun h : AHeap => binV P .add 3 3 (a.env 3) (a.env 10) h) ((h.bump 24))) ((h.bump 24)) fun t62 h =>
 rdK (binV P .add 3 3 (a.env 3) (a.env 11) h) h fun t66 h =>
 rdK (binV P .add 3 3 (a.env 3) (a.env 11) h) h fun t70 h =>
 rdK (ixS 3 (a.env 0) t70) h fun t71 h =>
 rdK (ldN 3 t71 h) h fun t72 h =>
 rdK (binV P .add 3 3 (a.env 3) (a.env 10) h) h fun t76 h =>
 rdK (ixS 3 (a.env 0) t76) h fun t77 h =>
 rdK (ldN 3 t77 h) h fun t78 h =>
 rdK (ixS 3 (a.env 0) t62) h fun t79 h =>
 stK (stV 3 t79 t72 h) fun h =>
 rdK (ixS 3 (a.env 0) t66) h fun t80 h =>
 stK (stV 3 t80 t78 h) fun h =>
 K .normal ⟨(upds a.env [(43, (a.env 4)), (44, (a.env 0)), (45, (a.env 3)), (46, (a.env 10)), (47, t47), (48, t48), (49, t49), (50, (a.env 0)), (51, (a.env 3)), (52, (a.env 11)), (53, t53), (54, t54), (55, t55), (56, t56), (57, t57), (58, t58), (59, (a.env 0)), (60, (a.env 3)), (61, (a.env 10)), (62, t62), (63, (a.env 0)), (64, (a.env 3)), (65, (a.env 11)), (66, t66), (67, (a.env 0)), (68, (a.env 3)), (69, (a.env 11)), (70, t70), (71, t71), (72, t72), (73, (a.env 0)), (74, (a.env 3)), (75, (a.env 10)), (76, t76), (77, t77), (78, t78), (79, t79), (80, t80), (81, (a.env 11)), (10, (a.env 11))]), a.defers⟩ ((h.bump 2)))) h
def f293_l1 (X : Caller) (L : Looper) (a : AAct) (K : ActPost) (h : AHeap) : Prop :=
 rdK ((fun h : AHeap => binD P .mul 3 3 (.int .i64 2) (a.env 10) h) ((h.bump 4))) ((h.bump 4)) fun t14 h =>
 rdK (binC P .add 3 3 t14 (.int .i64 1) h) h fun t15 h =>
 rdK ((fun h : AHeap => binV P .geq 3 3 t15 (a.env 2) h) ((h.bump 3))) ((h.bump 3)) fun t18 h =>
 condK t18
 (K (.exit 0) ⟨(upds a.env [(13, (a.env 10)), (14, t14), (15, t15), (11, t15), (16, t15), (17, (a.env 2)), (18, t18)]), a.defers⟩ h)
 (rdK ((fun h : AHeap => binC P .add 3 3 t15 (.int .i64 1) h) ((h.bump 22))) ((h.bump 22)) fun t20 h =>
 rdK (binV P .lss 3 3 t20 (a.env 2) h) h fun t22 h =>
 gopK (wantV t22 true) h (some ((a.env 4), h)) fun t24 h =>
 gopK (wantV t22 true) h (some ((a.env 0), h)) fun t25 h =>
 gopK (wantV t22 true) h (some ((a.env 3), h)) fun t26 h =>
 gopK (wantV t22 true) h (some (t15, h)) fun t27 h =>
 gopK (wantV t22 true) h ((binV P .add 3 3 t26 t27 h).map (·, h)) fun t28 h =>
 gopK (wantV t22 true) h ((ixS 3 t25 t28).map (·, h)) fun t29 h =>
 gopK (wantV t22 true) h ((ldN 3 t29 h).map (·, h)) fun t30 h =>
 gopK (wantV t22 true) h (some ((a.env 0), h)) fun t31 h =>
 gopK (wantV t22 true) h (some ((a.env 3), h)) fun t32 h =>
 gopK (wantV t22 true) h (some (t15, h)) fun t33 h =>
 gopK (wantV t22 true) h ((binV P .add 3 3 t32 t33 h).map (·, h)) fun t34 h =>
 gopK (wantV t22 true) h ((binC P .add 3 3 t34 (.int .i64 1) h).map (·, h)) fun t35 h =>
 gopK (wantV t22 true) h ((ixS 3 t31 t35).map (·, h)) fun t36 h =>
 gopK (wantV t22 true) h ((ldN 3 t36 h).map (·, h)) fun t37 h =>
 gcallvK (wantV t22 true) X t24 [t30, t37] h fun t38 h =>
 gopK (wantV t22 true) h ((binC P .lss 3 3 t38 (.int .i64 0) h).map (·, h)) fun t39 h =>
 opK (pickV t22 t39 (.bool false) h) fun t40 h =>
 condK t40
 (rdK ((fun h : AHeap => binC P .add 3 3 t15 (.int .i64 1) h) ((h.bump 3))) ((h.bump 3)) fun t42 h =>
  f293_j5 X L K h ⟨(upds a.env [(13, (a.env 10)), (14, t14), (15, t15), (11, t15), (16, t15), (17, (a.env 2)), (18, t18), (19, t15), (20, t20), (21, (a.env 2)), (22, t22), (23, t22), (24, t24), (25, t25), (26, t26), (27, t27), (28, t28), (29, t29), (30, t30), (31, t31), (32, t32), (33, t33), (34, t34), (35, t35), (36, t36), (37, t37), (38, t38), (39, t39), (40, t40), (41, t15), (42, t42), (11, t42)]), a.defers⟩)
 (f293_j5 X L K h ⟨(upds a.env [(13, (a.env 10)), (14, t14), (15, t15), (11, t15), (16, t15), (17, (a.env 2)), (18, t18), (19, t15), (20, t20), (21, (a.env 2)), (22, t22), (23, t22), (24, t24), (25, t25), (26, t26), (27, t27), (28, t28), (29, t29), (30, t30), (31, t31), (32, t32), (33, t33), (34, t34), (35, t35), (36, t36), (37, t37), (38, t38), (39, t39), (40, t40)]), a.defers⟩))
/-- slices.siftDownCmpFunc[cubbyhole/api.Timed] -/
def f293 (X : Caller) (L : Looper) (K : Value → AHeap → Prop) (h : AHeap) (t0 t1 t2 t3 t4 : Value) : Prop :=
 L (f293_l1 X L) ⟨(upds (argsEnv [t0, t1, t2, t3, t4]) [(12, t1), (10, t1)]), []⟩ (blkX 0 (finX P X Tryz.f293 K)) ((h.bump 2))
/-- slices.nextPowerOfTwo -/
def f294 (X : Caller) (L : Looper) (K : Value → AHeap → Prop) (h : AHeap) (t0 : Value) : Prop :=
 regK 5 ((h.bump 1)) fun b h =>
 opK (convertA P 3 276 t0 (b + 1) h) fun t4 h =>
 X (.call 233 [t4]) (fun t5 h =>
 rdK (binD P .shl 276 3 (.int .u64 1) t5 h) h fun t6 h =>
 K t6 h) h
theorem f294_eq (X : Caller) (L : Looper) (K : Value → AHeap → Prop) (h : AHeap) (t0 : Value) : aJob P X L (.call 294 [t0]) K h = f294 X L K h t0 := by kernel_rfl
/-- (*slices.xorshift).Next -/
def f295 (X : Caller) (L : Looper) (K : Value → AHeap → Prop) (h : AHeap) (t0 : Value) : Prop :=
 opK ((fun h : AHeap => nilV t0 h) (((h.bump 1).bump 10))) fun t4 h =>
 rdK (ld1 t4 h) h fun t5 h =>
 opK (nilV t0 h) fun t7 h =>
 rdK (ld1 t7 h) h fun t8 h =>
 rdK (binC P .shl 367 276 t8 (.int .u64 13) h) h fun t9 h =>
 rdK (binV P .xor 367 367 t5 t9 h) h fun t10 h =>
 opK (nilV t0 h) fun t11 h =>
 stK (stV 1 t11 t10 h) fun h =>
 opK ((fun h : AHeap => nilV t0 h) ((h.bump 10))) fun t13 h =>
 rdK (ld1 t13 h) h fun t14 h =>
 opK (nilV t0 h) fun t16 h =>
 rdK (ld1 t16 h) h fun t17 h =>
 rdK (binC P .shr 367 276 t17 (.int .u64 7) h) h fun t18 h =>
 rdK (binV P .xor 367 367 t14 t18 h) h fun t19 h =>
 opK (nilV t0 h) fun t20 h =>
 stK (stV 1 t20 t19 h) fun h =>
 opK ((fun h : AHeap => nilV t0 h) ((h.bump 10))) fun t22 h =>
 rdK (ld1 t22 h) h fun t23 h =>
 opK (nilV t0 h) fun t25 h =>
 rdK (ld1 t25 h) h fun t26 h =>
 rdK (binC P .shl 367 276 t26 (.int .u64 17) h) h fun t27 h =>
 rdK (binV P .xor 367 367 t23 t27 h) h fun t28 h =>
 opK (nilV t0 h) fun t29 h =>
 stK (stV 1 t29 t28 h) fun h =>
 opK ((fun h : AHeap => nilV t0 h) ((h.bump 4))) fun t31 h =>
 rdK (ld1 t31 h) h fun t32 h =>
 K t32 h
theorem f295_eq (X : Caller) (L : Looper) (K : Value → AHeap → Prop) (h : AHeap) (t0 : Value) : aJob P X L (.call 295 [t0]) K h = f295 X L K h t0 := by kernel_rfl
/-- slices.medianAdjacentCmpFunc[cubbyhole/api.Timed] -/
def f296 (X : Caller) (L : Looper) (K : Value → AHeap → Prop) (h : AHeap) (t0 t1 t2 t3 : Value) : Prop :=
 rdK ((fun h : AHeap => binC P .sub 3 3 t1 (.int .i64 1) h) (((h.bump 1).bump 10))) (((h.bump 1).bump 10)) fun t11 h =>
 rdK (binC P .add 3 3 t1 (.int .i64 1) h) h fun t14 h =>
 X (.call 297 [t0, t11, t1, t14, t2, t3]) (fun t17 h =>
 K t17 h) h
theorem f296_eq (X : Caller) (L : Looper) (K : Value → AHeap → Prop) (h : AHeap) (t0 t1 t2 t3 : Value) : aJob P X L (.call 296 [t0, t1, t2, t3]) K h = f296 X L K h t0 t1 t2 t3 := by kernel_rfl
/-- slices.medianCmpFunc[cubbyhole/api.Timed] -/
def f297 (X : Caller) (L : Looper) (K : Value → AHeap → Prop) (h : AHeap) (t0 t1 t2 t3 t4 t5 : Value) : Prop :=
 X (.call 299 [t0, t1, t2, t4, t5]) (fun t19 h =>
 opK (extV 0 t19 h) fun t20 h =>
 opK (extV 1 t19 h) fun t21 h =>
 X (.call 299 [t0, t21, t3, t4, t5]) (fun t28 h =>
 opK (extV 0 t28 h) fun t29 h =>
 opK (extV 1 t28 h) fun t30 h =>
 X (.call 299 [t0, t20, t29, t4, t5]) (fun t37 h =>
 opK (extV 0 t37 h) fun t38 h =>
 opK (extV 1 t37 h) fun t39 h =>
 K t39 ((h.bump 2))) ((h.bump 11))) ((h.bump 11))) (((h.bump 1).bump 11))
theorem f297_eq (X : Caller) (L : Looper) (K : Value → AHeap → Prop) (h : AHeap) (t0 t1 t2 t3 t4 t5 : Value) : aJob P X L (.call 297 [t0, t1, t2, t3, t4, t5]) K h = f297 X L K h t0 t1 t2 t3 t4 t5 := by kernel_rfl
def f298_a0 (X : Caller) (L : Looper) (a : AAct) (K : ActPost) (h : AHeap) : Prop :=
 K .normal ⟨(upds a.env [(5, (a.env 7))]), a.defers⟩ ((h.bump 1))
def f298_b0 (X : Caller) (L : Looper) (a : AAct) (K : ActPost) (h : AHeap) : Prop :=
 regK 5 h fun b_1 h =>
 rdK (ld1 (a.env 2) h) h fun t8 h =>
 opK (bsliceV P 151 1 [(0, (a.env 5))] (b_1 + 2) h) fun t10 h =>
 opK (builtinV P .append [151, 151] [t8, t10] (b_1 + 3) h) fun t11 h =>
 stK (stV 1 (a.env 2) t11 h) fun h =>
 K .normal ⟨(upds a.env [(8, t8), (9, (a.env 5)), (10, t10), (11, t11)]), a.defers⟩ h
noncomputable def f298_ca0 : Code := (rangesF Tryz.f298 0).1
noncomputable def f298_cb0 : Code := (rangesF Tryz.f298 0).2
theorem f298_a0_eq (X : Caller) (L : Looper) (a : AAct) (K : ActPost) (h : AHeap) : aCode P X L true f298_ca0 a K h = f298_a0 X L a K h := by kernel_rfl
theorem f298_b0_eq (X : Caller) (L : Looper) (a : AAct) (K : ActPost) (h : AHeap) : aCode P X L true f298_cb0 a K h = f298_b0 X L a K h := by kernel_rfl
def f298_j1 (X : Caller) (L : Looper) (K : Value → AHeap → Prop) (h : AHeap) (a : AAct) : Prop :=
 rdK ((fun h : AHeap => ld1 (a.env 2) h) ((h.bump 2))) ((h.bump 2)) fun t12 h =>
 leaveA P X Tryz.f298 ⟨(upds a.env [(12, t12), (4, t12)]), a.defers⟩ K a.defers h
/-- slices.AppendSeq[[]uint32,uint32] -/
def f298 (X : Caller) (L : Looper) (K : Value → AHeap → Prop) (h : AHeap) (t0 t1 : Value) : Prop :=
 regK 2 h fun b h =>
 opK (boxV t0 (b + 0) h) fun t2 h =>
 rangeK X t1 ⟨(upds (argsEnv [t0, t1]) [(2, t2), (4, (.slice none 0 0)), (6, t1)]), []⟩ [7] f298_ca0 f298_cb0 (blkX 0 (seqX (fun a h => f298_j1 X L K h a) (finX P X Tryz.f298 K))) ((h.bump 1))
theorem f298_eq (X : Caller) (L : Looper) (K : Value → AHeap → Prop) (h : AHeap) (t0 t1 : Value) : aJob P X L (.call 298 [t0, t1]) K h = f298 X L K h t0 t1 := by kernel_rfl
/-- slices.order2CmpFunc[cubbyhole/api.Timed] -/
def f299 (X : Caller) (L : Looper) (K : Value → AHeap → Prop) (h : AHeap) (t0 t1 t2 t3 t4 : Value) : Prop :=
 rdK ((fun h : AHeap => ixS 3 t0 t2) (((h.bump 2).bump 11))) (((h.bump 2).bump 11)) fun t15 h =>
 rdK (ldN 3 t15 h) h fun t16 h =>
 rdK (ixS 3 t0 t1) h fun t19 h =>
 rdK (ldN 3 t19 h) h fun t20 h =>
 callV X t4 [t16, t20] (fun t21 h =>
 rdK (binC P .lss 3 3 t21 (.int .i64 0) h) h fun t22 h =>
 condK t22
 (opK ((fun h : AHeap => nilV t3 h) ((h.bump 6))) fun t24 h =>
  rdK (ld1 t24 h) h fun t25 h =>
  rdK (binC P .add 3 3 t25 (.int .i64 1) h) h fun t26 h =>
  opK (nilV t3 h) fun t27 h =>
  stK (stV 1 t27 t26 h) fun h =>
  K (.tuple #[t2, t1]) ((h.bump 4)))
 (K (.tuple #[t1, t2]) ((h.bump 4)))) h
theorem f299_eq (X : Caller) (L : Looper) (K : Value → AHeap → Prop) (h : AHeap) (t0 t1 t2 t3 t4 : Value) : aJob P X L (.call 299 [t0, t1, t2, t3, t4]) K h = f299 X L K h t0 t1 t2 t3 t4 := by kernel_rfl
def f315_j2 (X : Caller) (L : Looper) (K : Value → AHeap → Prop) (h : AHeap) (t3 t12 t13 t2 : Value) : Prop :=
 X (.call 243 [t3]) (fun t13_1 h =>
 K t13_1 h) ((h.bump 3))
/-- (*cubbyhole/dict.Dict).All -/
def f315 (X : Caller) (L : Looper) (K : Value → AHeap → Prop) (h : AHeap) (t0 : Value) : Prop :=
 X (.call 77 [t0]) (fun t5 h =>
 rdK (unV P .not 4 t5) h fun t6 h =>
 condK t6
 (opK ((fun h : AHeap => nilV t0 h) ((h.bump 6))) fun t8 h =>
  rdK (fAddr 0 t8) h fun t9 h =>
  rdK (fAddr 0 t9) h fun t10 h =>
  rdK (ld1 t10 h) h fun t11 h =>
  f315_j2 X L K h t11 undef undef .nilFunc)
 (f315_j2 X L K h ((.pointer none)) undef undef .nilFunc)) ((((h.bump 1).bump 1).bump 3))
theorem f315_eq (X : Caller) (L : Looper) (K : Value → AHeap → Prop) (h : AHeap) (t0 : Value) : aJob P X L (.call 315 [t0]) K h = f315 X L K h t0 := by kernel_rfl
/-- gosem.cut.vars -/
def f325 (X : Caller) (L : Looper) (K : Value → AHeap → Prop) (h : AHeap) : Prop :=
 rdK ((fun h : AHeap => buildA P 372 [(0, (.int .u8 0)), (1, (.int .u8 1)), (2, (.int .u8 56)), (3, (.int .u8 2)), (4, (.int .u8 57)), (5, (.int .u8 49)), (6, (.int .u8 28)), (7, (.int .u8 3)), (8, (.int .u8 61)), (9, (.int .u8 58)), (10, (.int .u8 42)), (11, (.int .u8 50)), (12, (.int .u8 38)), (13, (.int .u8 29)), (14, (.int .u8 17)), (15, (.int .u8 4)), (16, (.int .u8 62)), (17, (.int .u8 47)), (18, (.int .u8 59)), (19, (.int .u8 36)), (20, (.int .u8 45)), (21, (.int .u8 43)), (22, (.int .u8 51)), (23, (.int .u8 22)), (24, (.int .u8 53)), (25, (.int .u8 39)), (26, (.int .u8 33)), (27, (.int .u8 30)), (28, (.int .u8 24)), (29, (.int .u8 18)), (30, (.int .u8 12)), (31, (.int .u8 5)), (32, (.int .u8 63)), (33, (.int .u8 55)), (34, (.int .u8 48)), (35, (.int .u8 27)), (36, (.int .u8 60)), (37, (.int .u8 41)), (38, (.int .u8 37)), (39, (.int .u8 16)), (40, (.int .u8 46)), (41, (.int .u8 35)), (42, (.int .u8 44)), (43, (.int .u8 21)), (44, (.int .u8 52)), (45, (.int .u8 32)), (46, (.int .u8 23)), (47, (.int .u8 11)), (48, (.int .u8 54)), (49, (.int .u8 26)), (50, (.int .u8 40)), (51, (.int .u8 15)), (52, (.int .u8 34)), (53, (.int .u8 20)), (54, (.int .u8 31)), (55, (.int .u8 10)), (56, (.int .u8 25)), (57, (.int .u8 14)), (58, (.int .u8 19)), (59, (.int .u8 9)), (60, (.int .u8 13)), (61, (.int .u8 8)), (62, (.int .u8 7)), (63, (.int .u8 6))]) ((h.bump 2))) ((h.bump 2)) fun t0 h =>
 stK (stV 64 (.pointer (some ⟨0, 0, none⟩)) t0 h) fun h =>
 K (.tuple #[]) h
theorem f325_eq (X : Caller) (L : Looper) (K : Value → AHeap → Prop) (h : AHeap) : aJob P X L (.call 325 []) K h = f325 X L K h  := by kernel_rfl
end Go.Proofs.YtcoofhpdkgkjcaaGreatDoor.F
