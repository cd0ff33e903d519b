/- The functions of the program, as shallow texts (printed by a program of this place). -/
import Derived.Test.YtcoofhpdkgkjcaaGreatDoorFW
namespace Go.Proofs.YtcoofhpdkgkjcaaGreatDoor.F
set_option linter.unusedVariables false
set_option linter.unusedSimpArgs false
open Go Go.Cub
/-- cmp.Less[uint32] -/
def f244 (X : Caller) (L : Looper) (K : Value → AHeap → Prop) (h : AHeap) (t0 t1 : Value) : Prop :=
 X (.call 283 [t0]) (fun t6 h =>
 gopK (wantV t6 true) h (some (t1, h)) fun t8 h =>
 gcallK (wantV t6 true) X (.call 283 [t8]) h fun t9 h =>
 gopK (wantV t6 true) h ((unV P .not 4 t9).map (·, h)) fun t10 h =>
 opK (pickV t6 t10 (.bool false) h) fun t11 h =>
 gopK (wantV t11 false) h (some (t0, h)) fun t13 h =>
 gopK (wantV t11 false) h (some (t1, h)) fun t14 h =>
 gopK (wantV t11 false) h ((binV P .lss 90 90 t13 t14 h).map (·, h)) fun t15 h =>
 opK (pickV t11 (.bool true) t15 h) fun t16 h =>
 K t16 h) (((h.bump 1).bump 13))
theorem f244_eq (X : Caller) (L : Looper) (K : Value → AHeap → Prop) (h : AHeap) (t0 t1 : Value) : aJob P X L (.call 244 [t0, t1]) K h = f244 X L K h t0 t1 := by kernel_rfl
/-- slices.isNaN[uint32] -/
def f245 (X : Caller) (L : Looper) (K : Value → AHeap → Prop) (h : AHeap) (t0 : Value) : Prop :=
 rdK ((fun h : AHeap => binV P .neq 90 90 t0 t0 h) (((h.bump 1).bump 4))) (((h.bump 1).bump 4)) fun t5 h =>
 K t5 h
theorem f245_eq (X : Caller) (L : Looper) (K : Value → AHeap → Prop) (h : AHeap) (t0 : Value) : aJob P X L (.call 245 [t0]) K h = f245 X L K h t0 := by kernel_rfl
/-- cubbyhole/due.order -/
def f246 (X : Caller) (L : Looper) (K : Value → AHeap → Prop) (h : AHeap) (t0 t1 : Value) : Prop :=
 regK 3 h fun b h =>
 opK (boxV t0 (b + 0) h) fun t2 h =>
 opK (boxV t1 (b + 1) h) fun t3 h =>
 regK 13 h fun b_1 h =>
 rdK (fAddr 1 t2) h fun t5 h =>
 rdK (ld1 t5 h) h fun t6 h =>
 rdK (fAddr 1 t3) h fun t7 h =>
 rdK (ld1 t7 h) h fun t8 h =>
 rdK (fAddr 2 t2) h fun t10 h =>
 rdK (ld1 t10 h) h fun t11 h =>
 rdK (fAddr 2 t3) h fun t12 h =>
 rdK (ld1 t12 h) h fun t13 h =>
 X (.call 186 [t6, t8]) (fun t9 h =>
 chkK (chkR ((ld1 t12 h).map (·, h)) t13 (chkR ((ld1 t10 h).map (·, h)) t11 true)) <|
 X (.call 187 [t11, t13]) (fun t14 h =>
 opK (bsliceV P 34 2 [(0, t9), (1, t14)] (b_1 + 10) h) fun t15 h =>
 X (.call 185 [t15]) (fun t16 h =>
 K t16 h) h) h) h
theorem f246_eq (X : Caller) (L : Looper) (K : Value → AHeap → Prop) (h : AHeap) (t0 t1 : Value) : aJob P X L (.call 246 [t0, t1]) K h = f246 X L K h t0 t1 := by kernel_rfl
/-- (*cubbyhole/wheel.Wheel).Bucket -/
def f247 (X : Caller) (L : Looper) (K : Value → AHeap → Prop) (h : AHeap) (t0 t1 : Value) : Prop :=
 X (.call 265 [t0, t1, (.int .i64 0)]) (fun t11 h =>
 rdK ((fun h : AHeap => binC P .neq 31 31 t11 (.int .i64 0) h) ((h.bump 2))) ((h.bump 2)) fun t13 h =>
 condK t13
 (K (.tuple #[(.int .i64 0), t11]) ((h.bump 3)))
 (opK ((fun h : AHeap => nilV t0 h) ((h.bump 11))) fun t17 h =>
 rdK (fAddr 0 t17) h fun t18 h =>
 rdK (ld1 t18 h) h fun t19 h =>
 X (.call 251 [t19, t1]) (fun t21 h =>
 opK (extV 0 t21 h) fun t22 h =>
 opK (extV 1 t21 h) fun t23 h =>
 rdK ((fun h : AHeap => binC P .neq 31 31 t23 (.int .i64 0) h) ((h.bump 2))) ((h.bump 2)) fun t25 h =>
 condK t25
 (K (.tuple #[(.int .i64 0), (.int .i64 9)]) ((h.bump 2)))
 (K (.tuple #[t22, (.int .i64 0)]) ((h.bump 3)))) h)) (((h.bump 2).bump 4))
theorem f247_eq (X : Caller) (L : Looper) (K : Value → AHeap → Prop) (h : AHeap) (t0 t1 : Value) : aJob P X L (.call 247 [t0, t1]) K h = f247 X L K h t0 t1 := by kernel_rfl
/-- (*cubbyhole/links.Links).Remove -/
def f248 (X : Caller) (L : Looper) (K : Value → AHeap → Prop) (h : AHeap) (t0 t1 : Value) : Prop :=
 X (.call 284 [t0, t1]) (fun t9 h =>
 rdK ((fun h : AHeap => binC P .neq 31 31 t9 (.int .i64 0) h) ((h.bump 2))) ((h.bump 2)) fun t11 h =>
 condK t11
 (K t9 ((h.bump 2)))
 (regK 9 h fun b h =>
 opK (nilV t0 h) fun t14 h =>
 rdK (fAddr 0 t14) h fun t15 h =>
 rdK (ld1 t15 h) h fun t16 h =>
 rdK (ixS 3 t16 t1) h fun t18 h =>
 rdK (ldN 3 t18 h) h fun t19 h =>
 opK (newV [.int .u32 0, .int .u32 0, .int .u32 0] (b + 7) h) fun t6 h =>
 stK (stV 3 t6 t19 h) fun h =>
 opK ((fun h : AHeap => nilV t0 h) ((h.bump 22))) fun t21 h =>
 rdK (fAddr 0 t21) h fun t22 h =>
 rdK (ld1 t22 h) h fun t23 h =>
 rdK (fAddr 0 t6) h fun t24 h =>
 rdK (ld1 t24 h) h fun t25 h =>
 opK (nilV t0 h) fun t27 h =>
 rdK (fAddr 0 t27) h fun t28 h =>
 rdK (ld1 t28 h) h fun t29 h =>
 rdK (fAddr 1 t6) h fun t30 h =>
 rdK (ld1 t30 h) h fun t31 h =>
 rdK (fAddr 1 t6) h fun t32 h =>
 rdK (ld1 t32 h) h fun t33 h =>
 rdK (fAddr 0 t6) h fun t34 h =>
 rdK (ld1 t34 h) h fun t35 h =>
 rdK (ixS 3 t23 t25) h fun t36 h =>
 rdK (fAddr 1 t36) h fun t37 h =>
 stK (stV 1 t37 t33 h) fun h =>
 chkK (chkR ((ld1 t34 h).map (·, h)) t35 (chkR ((ld1 t30 h).map (·, h)) t31 true)) <|
 rdK (ixS 3 t29 t31) h fun t38 h =>
 rdK (fAddr 0 t38) h fun t39 h =>
 stK (stV 1 t39 t35 h) fun h =>
 opK ((fun h : AHeap => nilV t0 h) ((h.bump 12))) fun t41 h =>
 rdK (fAddr 2 t41) h fun t42 h =>
 rdK (ld1 t42 h) h fun t43 h =>
 rdK (fAddr 2 t6) h fun t44 h =>
 rdK (ld1 t44 h) h fun t45 h =>
 rdK (binC P .sub 90 90 t45 (.int .u32 1) h) h fun t46 h =>
 rdK (ixS 1 t43 t46) h fun t47 h =>
 rdK (ld1 t47 h) h fun t48 h =>
 rdK (binC P .sub 3 3 t48 (.int .i64 1) h) h fun t49 h =>
 rdK (ixS 1 t43 t46) h fun t50 h =>
 stK (stV 1 t50 t49 h) fun h =>
 opK ((fun h : AHeap => nilV t0 h) ((h.bump 8))) fun t52 h =>
 rdK (fAddr 0 t52) h fun t53 h =>
 rdK (ld1 t53 h) h fun t54 h =>
 rdK (buildA P 321 []) h fun t56 h =>
 rdK (ixS 3 t54 t1) h fun t57 h =>
 stK (stV 3 t57 t56 h) fun h =>
 K (.int .i64 0) ((h.bump 1)))) (((h.bump 1).bump 4))
theorem f248_eq (X : Caller) (L : Looper) (K : Value → AHeap → Prop) (h : AHeap) (t0 t1 : Value) : aJob P X L (.call 248 [t0, t1]) K h = f248 X L K h t0 t1 := by kernel_rfl
/-- (*cubbyhole/links.Links).Len -/
def f249 (X : Caller) (L : Looper) (K : Value → AHeap → Prop) (h : AHeap) (t0 t1 : Value) : Prop :=
 X (.call 280 [t0, t1]) (fun t7 h =>
 rdK (binC P .neq 31 31 t7 (.int .i64 0) h) h fun t8 h =>
 condK t8
 (K (.int .i64 0) ((h.bump 1)))
 (opK ((fun h : AHeap => nilV t0 h) ((h.bump 8))) fun t10 h =>
 rdK (fAddr 2 t10) h fun t11 h =>
 rdK (ld1 t11 h) h fun t12 h =>
 rdK (ixS 1 t12 t1) h fun t14 h =>
 rdK (ld1 t14 h) h fun t15 h =>
 K t15 h)) (((h.bump 1).bump 4))
theorem f249_eq (X : Caller) (L : Looper) (K : Value → AHeap → Prop) (h : AHeap) (t0 t1 : Value) : aJob P X L (.call 249 [t0, t1]) K h = f249 X L K h t0 t1 := by kernel_rfl
/-- (*cubbyhole/wheel.marks).clear -/
def f250 (X : Caller) (L : Looper) (K : Value → AHeap → Prop) (h : AHeap) (t0 t1 : Value) : Prop :=
 rdK ((fun h : AHeap => binC P .quo 3 3 t1 (.int .i64 64) h) ((h.bump 13))) ((h.bump 13)) fun t6 h =>
 opK (nilV t0 h) fun t7 h =>
 rdK (ixR 4 1 t7 t6) h fun t8 h =>
 rdK (ld1 t8 h) h fun t9 h =>
 rdK (binC P .rem 3 3 t1 (.int .i64 64) h) h fun t11 h =>
 rdK (binD P .shl 27 3 (.int .u64 1) t11 h) h fun t12 h =>
 rdK (binV P .andNot 27 27 t9 t12 h) h fun t13 h =>
 opK (nilV t0 h) fun t14 h =>
 rdK (ixR 4 1 t14 t6) h fun t15 h =>
 stK (stV 1 t15 t13 h) fun h =>
 K (.tuple #[]) h
theorem f250_eq (X : Caller) (L : Looper) (K : Value → AHeap → Prop) (h : AHeap) (t0 t1 : Value) : aJob P X L (.call 250 [t0, t1]) K h = f250 X L K h t0 t1 := by kernel_rfl
/-- (*cubbyhole/links.Links).Of -/
def f251 (X : Caller) (L : Looper) (K : Value → AHeap → Prop) (h : AHeap) (t0 t1 : Value) : Prop :=
 X (.call 284 [t0, t1]) (fun t9 h =>
 rdK ((fun h : AHeap => binC P .neq 31 31 t9 (.int .i64 0) h) ((h.bump 2))) ((h.bump 2)) fun t11 h =>
 condK t11
 (K (.tuple #[(.int .i64 0), t9]) ((h.bump 3)))
 (regK 12 h fun b h =>
 opK (nilV t0 h) fun t14 h =>
 rdK (fAddr 0 t14) h fun t15 h =>
 rdK (ld1 t15 h) h fun t16 h =>
 rdK (ixS 3 t16 t1) h fun t18 h =>
 rdK (fAddr 2 t18) h fun t19 h =>
 rdK (ld1 t19 h) h fun t20 h =>
 opK (convertA P 90 3 t20 (b + 8) h) fun t21 h =>
 rdK (binC P .sub 3 3 t21 (.int .i64 1) h) h fun t22 h =>
 K (.tuple #[t22, (.int .i64 0)]) h)) (((h.bump 2).bump 4))
theorem f251_eq (X : Caller) (L : Looper) (K : Value → AHeap → Prop) (h : AHeap) (t0 t1 : Value) : aJob P X L (.call 251 [t0, t1]) K h = f251 X L K h t0 t1 := by kernel_rfl
/-- (*cubbyhole/lru.LRU).end -/
def f252 (X : Caller) (L : Looper) (K : Value → AHeap → Prop) (h : AHeap) (t0 t1 : Value) : Prop :=
 X (.call 190 [t0, (.int .u32 0)]) (fun t8 h =>
 rdK ((fun h : AHeap => binC P .neq 31 31 t8 (.int .i64 0) h) ((h.bump 2))) ((h.bump 2)) fun t10 h =>
 condK t10
 (K (.tuple #[(.int .u32 0), t8]) ((h.bump 3)))
 (opK ((fun h : AHeap => nilV t0 h) ((h.bump 10))) fun t14 h =>
 rdK (fAddr 0 t14) h fun t15 h =>
 rdK (ld1 t15 h) h fun t16 h =>
 callV X t1 [t16, (.int .i64 0)] (fun t17 h =>
 opK (extV 0 t17 h) fun t18 h =>
 opK (extV 1 t17 h) fun t19 h =>
 K (.tuple #[t18, t19]) h) h)) (((h.bump 2).bump 3))
theorem f252_eq (X : Caller) (L : Looper) (K : Value → AHeap → Prop) (h : AHeap) (t0 t1 : Value) : aJob P X L (.call 252 [t0, t1]) K h = f252 X L K h t0 t1 := by kernel_rfl
/-- (*cubbyhole/links.Links).First -/
def f253 (X : Caller) (L : Looper) (K : Value → AHeap → Prop) (h : AHeap) (t0 t1 : Value) : Prop :=
 X (.call 280 [t0, t1]) (fun t9 h =>
 rdK ((fun h : AHeap => binC P .neq 31 31 t9 (.int .i64 0) h) ((h.bump 2))) ((h.bump 2)) fun t11 h =>
 condK t11
 (K (.tuple #[(.int .u32 0), t9]) ((h.bump 3)))
 (opK ((fun h : AHeap => nilV t0 h) ((h.bump 16))) fun t15 h =>
 rdK (fAddr 0 t15) h fun t16 h =>
 rdK (ld1 t16 h) h fun t17 h =>
 X (.call 218 [t1, t0]) (fun t20 h =>
 chkK (chkR ((ld1 t16 h).map (·, h)) t17 true) <|
 rdK (ixS 3 t17 t20) h fun t21 h =>
 rdK (fAddr 1 t21) h fun t22 h =>
 rdK (ld1 t22 h) h fun t23 h =>
 X (.call 285 [t0, t23]) (fun t24 h =>
 opK (extV 0 t24 h) fun t25 h =>
 opK (extV 1 t24 h) fun t26 h =>
 K (.tuple #[t25, t26]) h) h) h)) (((h.bump 2).bump 4))
theorem f253_eq (X : Caller) (L : Looper) (K : Value → AHeap → Prop) (h : AHeap) (t0 t1 : Value) : aJob P X L (.call 253 [t0, t1]) K h = f253 X L K h t0 t1 := by kernel_rfl
def f254_l3 (X : Caller) (L : Looper) (a : AAct) (K : ActPost) (h : AHeap) : Prop :=
 rdK ((fun h : AHeap => binV P .lss 3 3 (a.env 9) (a.env 8) h) ((h.bump 1))) ((h.bump 1)) fun t10 h =>
 condK t10
 (rdK ((fun h : AHeap => ixS 1 (a.env 7) (a.env 9)) ((h.bump 3))) ((h.bump 3)) fun t11 h =>
 rdK (ld1 t11 h) h fun t12 h =>
 rdK ((fun h : AHeap => binC P .lss 3 3 t12 (.int .i64 0) h) ((h.bump 7))) ((h.bump 7)) fun t14 h =>
 gopK (wantV t14 false) h (some (t12, h)) fun t16 h =>
 gopK (wantV t14 false) h (some ((a.env 0), h)) fun t17 h =>
 gopK (wantV t14 false) h ((binV P .gtr 3 3 t16 t17 h).map (·, h)) fun t18 h =>
 opK (pickV t14 (.bool true) t18 h) fun t19 h =>
 condK t19
 (K .ret ⟨(upds a.env [(10, t10), (11, t11), (12, t12), (6, t12), (13, t12), (14, t14), (15, t14), (16, t16), (17, t17), (18, t18), (19, t19), (4, (.int .i64 3))]), a.defers⟩ ((h.bump 1)))
 (rdK ((fun h : AHeap => binC P .add 3 3 (a.env 9) (.int .i64 1) h) ((h.bump 2))) ((h.bump 2)) fun t20 h =>
 K .normal ⟨(upds a.env [(10, t10), (11, t11), (12, t12), (6, t12), (13, t12), (14, t14), (15, t14), (16, t16), (17, t17), (18, t18), (19, t19), (20, t20), (9, t20)]), a.defers⟩ h))
 (K (.exit 0) ⟨(upds a.env [(10, t10)]), a.defers⟩ h)
def f254_j1 (X : Caller) (L : Looper) (K : Value → AHeap → Prop) (h : AHeap) (a : AAct) : Prop :=
 leaveA P X Tryz.f254 ⟨(upds a.env [(4, (.int .i64 0))]), a.defers⟩ K a.defers ((h.bump 1))
/-- cubbyhole/growth.within -/
def f254 (X : Caller) (L : Looper) (K : Value → AHeap → Prop) (h : AHeap) (t0 t1 : Value) : Prop :=
 regK 3 ((h.bump 1)) fun b h =>
 opK (builtinV P .len [34] [t1] (b + 1) h) fun t8 h =>
 L (f254_l3 X L) ⟨(upds (argsEnv [t0, t1]) [(4, (.int .i64 0)), (7, t1), (8, t8), (9, (.int .i64 0))]), []⟩ (blkX 0 (seqX (fun a h => f254_j1 X L K h a) (finX P X Tryz.f254 K))) h
theorem f254_eq (X : Caller) (L : Looper) (K : Value → AHeap → Prop) (h : AHeap) (t0 t1 : Value) : aJob P X L (.call 254 [t0, t1]) K h = f254 X L K h t0 t1 := by kernel_rfl
/-- cubbyhole/control.Full -/
def f255 (X : Caller) (L : Looper) (K : Value → AHeap → Prop) (h : AHeap) (t0 : Value) : Prop :=
 X (.call 286 [t0]) (fun t4 h =>
 rdK (unV P .xor 5 t4) h fun t5 h =>
 K t5 h) (((h.bump 1).bump 4))
theorem f255_eq (X : Caller) (L : Looper) (K : Value → AHeap → Prop) (h : AHeap) (t0 : Value) : aJob P X L (.call 255 [t0]) K h = f255 X L K h t0 := by kernel_rfl
/-- math/bits.TrailingZeros8 -/
def f256 (X : Caller) (L : Looper) (K : Value → AHeap → Prop) (h : AHeap) (t0 : Value) : Prop :=
 regK 4 ((h.bump 1)) fun b h =>
 rdK (indexA P 9 (.string ⟨#[8, 0, 1, 0, 2, 0, 1, 0, 3, 0, 1, 0, 2, 0, 1, 0, 4, 0, 1, 0, 2, 0, 1, 0, 3, 0, 1, 0, 2, 0, 1, 0, 5, 0, 1, 0, 2, 0, 1, 0, 3, 0, 1, 0, 2, 0, 1, 0, 4, 0, 1, 0, 2, 0, 1, 0, 3, 0, 1, 0, 2, 0, 1, 0, 6, 0, 1, 0, 2, 0, 1, 0, 3, 0, 1, 0, 2, 0, 1, 0, 4, 0, 1, 0, 2, 0, 1, 0, 3, 0, 1, 0, 2, 0, 1, 0, 5, 0, 1, 0, 2, 0, 1, 0, 3, 0, 1, 0, 2, 0, 1, 0, 4, 0, 1, 0, 2, 0, 1, 0, 3, 0, 1, 0, 2, 0, 1, 0, 7, 0, 1, 0, 2, 0, 1, 0, 3, 0, 1, 0, 2, 0, 1, 0, 4, 0, 1, 0, 2, 0, 1, 0, 3, 0, 1, 0, 2, 0, 1, 0, 5, 0, 1, 0, 2, 0, 1, 0, 3, 0, 1, 0, 2, 0, 1, 0, 4, 0, 1, 0, 2, 0, 1, 0, 3, 0, 1, 0, 2, 0, 1, 0, 6, 0, 1, 0, 2, 0, 1, 0, 3, 0, 1, 0, 2, 0, 1, 0, 4, 0, 1, 0, 2, 0, 1, 0, 3, 0, 1, 0, 2, 0, 1, 0, 5, 0, 1, 0, 2, 0, 1, 0, 3, 0, 1, 0, 2, 0, 1, 0, 4, 0, 1, 0, 2, 0, 1, 0, 3, 0, 1, 0, 2, 0, 1, 0]⟩) t0) h fun t4 h =>
 opK (convertA P 5 3 t4 (b + 2) h) fun t5 h =>
 K t5 h
theorem f256_eq (X : Caller) (L : Looper) (K : Value → AHeap → Prop) (h : AHeap) (t0 : Value) : aJob P X L (.call 256 [t0]) K h = f256 X L K h t0 := by kernel_rfl
/-- cubbyhole/control.check -/
def f257 (X : Caller) (L : Looper) (K : Value → AHeap → Prop) (h : AHeap) (t0 t1 : Value) : Prop :=
 X (.call 287 [t0]) (fun t7 h =>
 rdK (unV P .not 4 t7) h fun t8 h =>
 condK t8
 (K (.int .i64 2) ((h.bump 1)))
 (rdK ((fun h : AHeap => binC P .lss 3 3 t1 (.int .i64 0) h) ((h.bump 7))) ((h.bump 7)) fun t11 h =>
  gopK (wantV t11 false) h (some (t1, h)) fun t13 h =>
  gopK (wantV t11 false) h ((binC P .geq 3 3 t13 (.int .i64 8) h).map (·, h)) fun t14 h =>
  opK (pickV t11 (.bool true) t14 h) fun t15 h =>
  condK t15
  (K (.int .i64 3) ((h.bump 1)))
  (K (.int .i64 0) ((h.bump 1))))) (((h.bump 1).bump 4))
theorem f257_eq (X : Caller) (L : Looper) (K : Value → AHeap → Prop) (h : AHeap) (t0 t1 : Value) : aJob P X L (.call 257 [t0, t1]) K h = f257 X L K h t0 t1 := by kernel_rfl
/-- cubbyhole/word.With -/
def f258 (X : Caller) (L : Looper) (K : Value → AHeap → Prop) (h : AHeap) (t0 t1 t2 : Value) : Prop :=
 rdK ((fun h : AHeap => binC P .lss 3 3 t1 (.int .i64 0) h) (((h.bump 2).bump 6))) (((h.bump 2).bump 6)) fun t9 h =>
 gopK (wantV t9 false) h (some (t1, h)) fun t11 h =>
 gopK (wantV t9 false) h ((binC P .geq 3 3 t11 (.int .i64 8) h).map (·, h)) fun t12 h =>
 opK (pickV t9 (.bool true) t12 h) fun t13 h =>
 condK t13
 (K (.tuple #[(.int .u64 0), (.int .i64 3)]) ((h.bump 2)))
 (regK 13 h fun b h =>
 rdK (binD P .mul 3 3 (.int .i64 8) t1 h) h fun t16 h =>
 rdK (binD P .shl 27 3 (.int .u64 255) t16 h) h fun t17 h =>
 rdK (binV P .andNot 27 27 t0 t17 h) h fun t18 h =>
 opK (convertA P 5 27 t2 (b + 6) h) fun t20 h =>
 rdK (binD P .mul 3 3 (.int .i64 8) t1 h) h fun t22 h =>
 rdK (binV P .shl 27 3 t20 t22 h) h fun t23 h =>
 rdK (binV P .or 27 27 t18 t23 h) h fun t24 h =>
 K (.tuple #[t24, (.int .i64 0)]) h)
theorem f258_eq (X : Caller) (L : Looper) (K : Value → AHeap → Prop) (h : AHeap) (t0 t1 t2 : Value) : aJob P X L (.call 258 [t0, t1, t2]) K h = f258 X L K h t0 t1 t2 := by kernel_rfl
/-- (*cubbyhole/links.Links).Nodes -/
def f259 (X : Caller) (L : Looper) (K : Value → AHeap → Prop) (h : AHeap) (t0 : Value) : Prop :=
 X (.call 288 [t0]) (fun t4 h =>
 condK t4
 (K (.int .i64 0) ((h.bump 1)))
 (opK ((fun h : AHeap => nilV t0 h) ((h.bump 5))) fun t6 h =>
 rdK (fAddr 1 t6) h fun t7 h =>
 rdK (ld1 t7 h) h fun t8 h =>
 K t8 h)) (((h.bump 1).bump 2))
theorem f259_eq (X : Caller) (L : Looper) (K : Value → AHeap → Prop) (h : AHeap) (t0 : Value) : aJob P X L (.call 259 [t0]) K h = f259 X L K h t0 := by kernel_rfl
def f260_l16 (X : Caller) (L : Looper) (a : AAct) (K : ActPost) (h : AHeap) : Prop :=
 rdK ((fun h : AHeap => binV P .lss 3 3 (a.env 47) (a.env 46) h) ((h.bump 1))) ((h.bump 1)) fun t48 h =>
 condK t48
 (rdK ((fun h : AHeap => ixS 1 (a.env 45) (a.env 47)) ((h.bump 3))) ((h.bump 3)) fun t49 h =>
 rdK (ld1 t49 h) h fun t50 h =>
 rdK ((fun h : AHeap => ixS 1 (a.env 1) t50) ((h.bump 8))) ((h.bump 8)) fun t55 h =>
 rdK (ld1 t55 h) h fun t56 h =>
 X (.call 217 [(a.env 7), (a.env 9), t56]) (fun t57 h =>
 rdK (binC P .neq 31 31 t57 (.int .i64 0) h) h fun t58 h =>
 condK t58
 (K .ret ⟨(upds a.env [(48, t48), (49, t49), (50, t50), (11, t50), (51, (a.env 7)), (52, (a.env 9)), (53, (a.env 1)), (54, t50), (55, t55), (56, t56), (57, t57), (58, t58), (6, (.int .i64 2))]), a.defers⟩ ((h.bump 1)))
 (rdK ((fun h : AHeap => binC P .add 3 3 (a.env 47) (.int .i64 1) h) ((h.bump 2))) ((h.bump 2)) fun t59 h =>
 K .normal ⟨(upds a.env [(48, t48), (49, t49), (50, t50), (11, t50), (51, (a.env 7)), (52, (a.env 9)), (53, (a.env 1)), (54, t50), (55, t55), (56, t56), (57, t57), (58, t58), (59, t59), (47, t59)]), a.defers⟩ h)) h)
 (K (.exit 2) ⟨(upds a.env [(48, t48)]), a.defers⟩ h)
def f260_j13 (X : Caller) (L : Looper) (K : ActPost) (h : AHeap) (a : AAct) : Prop :=
 rdK ((fun h : AHeap => binC P .add 3 3 (a.env 40) (.int .i64 1) h) ((h.bump 2))) ((h.bump 2)) fun t60 h =>
 K .normal ⟨(upds a.env [(60, t60), (40, t60)]), a.defers⟩ h
def f260_l10 (X : Caller) (L : Looper) (a : AAct) (K : ActPost) (h : AHeap) : Prop :=
 rdK ((fun h : AHeap => binV P .lss 3 3 (a.env 40) (a.env 39) h) ((h.bump 1))) ((h.bump 1)) fun t41 h =>
 condK t41
 (regK 5 ((h.bump 2)) fun b_3 h =>
 X (.call 240 [(a.env 0), (a.env 40)]) (fun t45 h =>
 opK (builtinV P .len [151] [t45] (b_3 + 3) h) fun t46 h =>
 L (f260_l16 X L) ⟨(upds a.env [(41, t41), (42, (a.env 40)), (9, (a.env 40)), (43, (a.env 0)), (44, (a.env 40)), (45, t45), (46, t46), (47, (.int .i64 0))]), a.defers⟩ (blkX 2 (blkX 1 (seqX (fun a h => f260_j13 X L K h a) K))) h) h)
 (K (.exit 0) ⟨(upds a.env [(41, t41)]), a.defers⟩ h)
def f260_j8 (X : Caller) (L : Looper) (K : Value → AHeap → Prop) (h : AHeap) (a : AAct) : Prop :=
 opK ((fun h : AHeap => nilV (a.env 7) h) ((h.bump 6))) fun t63 h =>
 rdK (ldN 3 t63 h) h fun t64 h =>
 opK (nilV (a.env 0) h) fun t65 h =>
 stK (stV 3 t65 t64 h) fun h =>
 leaveA P X Tryz.f260 ⟨(upds a.env [(61, (a.env 0)), (62, (a.env 7)), (63, t63), (64, t64), (65, t65), (6, (.int .i64 0))]), a.defers⟩ K a.defers ((h.bump 1))
/-- (*cubbyhole/links.Links).Renumber -/
def f260 (X : Caller) (L : Looper) (K : Value → AHeap → Prop) (h : AHeap) (t0 t1 t2 : Value) : Prop :=
 X (.call 288 [t0]) (fun t13 h =>
 condK t13
 (K (.int .i64 1) ((h.bump 1)))
 (regK 12 h fun b h =>
 opK (nilV t0 h) fun t17 h =>
 rdK (fAddr 2 t17) h fun t18 h =>
 rdK (ld1 t18 h) h fun t19 h =>
 opK (builtinV P .len [34] [t19] (b + 5) h) fun t20 h =>
 X (.call 166 [t2, t20]) (fun t21 h =>
 opK (extV 0 t21 h) fun t22 h =>
 opK (extV 1 t21 h) fun t23 h =>
 regK 11 h fun b_1 h =>
 rdK (binC P .neq 31 31 t23 (.int .i64 0) h) h fun t25 h =>
 gopK (wantV t25 false) h (some (t1, h)) fun t27 h =>
 gopK (wantV t25 false) h (builtinV P .len [151] [t27] (b_1 + 4) h) fun t28 h =>
 gopK (wantV t25 false) h (some (t0, h)) fun t29 h =>
 gopK (wantV t25 false) h (nilV t29 h) fun t30 h =>
 gopK (wantV t25 false) h ((fAddr 1 t30).map (·, h)) fun t31 h =>
 gopK (wantV t25 false) h ((ld1 t31 h).map (·, h)) fun t32 h =>
 gopK (wantV t25 false) h ((binV P .neq 3 3 t28 t32 h).map (·, h)) fun t33 h =>
 opK (pickV t25 (.bool true) t33 h) fun t34 h =>
 condK t34
 (K (.int .i64 2) ((h.bump 1)))
 (regK 6 h fun b_2 h =>
 opK (nilV t0 h) fun t36 h =>
 rdK (fAddr 2 t36) h fun t37 h =>
 rdK (ld1 t37 h) h fun t38 h =>
 opK (builtinV P .len [34] [t38] (b_2 + 4) h) fun t39 h =>
 L (f260_l10 X L) ⟨(upds (argsEnv [t0, t1, t2]) [(6, (.int .i64 0)), (12, t0), (13, t13), (15, t2), (16, t0), (17, t17), (18, t18), (19, t19), (20, t20), (21, t21), (14, t21), (22, t22), (23, t23), (7, t22), (8, t23), (24, t23), (25, t25), (26, t25), (27, t27), (28, t28), (29, t29), (30, t30), (31, t31), (32, t32), (33, t33), (34, t34), (35, t0), (36, t36), (37, t37), (38, t38), (39, t39), (40, (.int .i64 0))]), []⟩ (blkX 0 (seqX (fun a h => f260_j8 X L K h a) (finX P X Tryz.f260 K))) h)) h)) (((h.bump 1).bump 2))
theorem f260_eq (X : Caller) (L : Looper) (K : Value → AHeap → Prop) (h : AHeap) (t0 t1 t2 : Value) : aJob P X L (.call 260 [t0, t1, t2]) K h = f260 X L K h t0 t1 t2 := by kernel_rfl
def f261_l4 (X : Caller) (L : Looper) (a : AAct) (K : ActPost) (h : AHeap) : Prop :=
 rdK ((fun h : AHeap => binV P .lss 3 3 (a.env 9) (a.env 8) h) ((h.bump 1))) ((h.bump 1)) fun t10 h =>
 condK t10
 (regK 6 ((h.bump 2)) fun b_2 h =>
 opK (convertA P 3 90 (a.env 9) (b_2 + 3) h) fun t15 h =>
 rdK (ixS 1 (a.env 3) (a.env 9)) h fun t16 h =>
 stK (stV 1 t16 t15 h) fun h =>
 rdK ((fun h : AHeap => binC P .add 3 3 (a.env 9) (.int .i64 1) h) ((h.bump 2))) ((h.bump 2)) fun t17 h =>
 K .normal ⟨(upds a.env [(10, t10), (11, (a.env 9)), (4, (a.env 9)), (12, (a.env 3)), (13, (a.env 9)), (14, (a.env 9)), (15, t15), (16, t16), (17, t17), (9, t17)]), a.defers⟩ h)
 (K (.exit 0) ⟨(upds a.env [(10, t10)]), a.defers⟩ h)
def f261_j2 (X : Caller) (L : Looper) (K : Value → AHeap → Prop) (h : AHeap) (a : AAct) : Prop :=
 leaveA P X Tryz.f261 ⟨(upds a.env [(18, (a.env 3)), (2, (a.env 3))]), a.defers⟩ K a.defers ((h.bump 2))
/-- cubbyhole/lru.same -/
def f261 (X : Caller) (L : Looper) (K : Value → AHeap → Prop) (h : AHeap) (t0 : Value) : Prop :=
 regK 3 ((h.bump 1)) fun b h =>
 opK (makeSliceA P 151 t0 t0 (b + 1) h) fun t6 h =>
 regK 3 h fun b_1 h =>
 opK (builtinV P .len [151] [t6] (b_1 + 1) h) fun t8 h =>
 L (f261_l4 X L) ⟨(upds (argsEnv [t0]) [(2, (.slice none 0 0)), (5, t0), (6, t6), (3, t6), (7, t6), (8, t8), (9, (.int .i64 0))]), []⟩ (blkX 0 (seqX (fun a h => f261_j2 X L K h a) (finX P X Tryz.f261 K))) h
theorem f261_eq (X : Caller) (L : Looper) (K : Value → AHeap → Prop) (h : AHeap) (t0 : Value) : aJob P X L (.call 261 [t0]) K h = f261 X L K h t0 := by kernel_rfl
def f262_j13 (X : Caller) (L : Looper) (K : Value → AHeap → Prop) (h : AHeap) (t0 t2 t11 t45 t46 t47 t8 : Value) : Prop :=
 X (.call 290 [t0, t2, t11]) (fun t48 h =>
 K (.int .i64 0) ((h.bump 1))) ((h.bump 4))
/-- (*cubbyhole/links.Links).add -/
def f262 (X : Caller) (L : Looper) (K : Value → AHeap → Prop) (h : AHeap) (t0 t1 t2 t3 : Value) : Prop :=
 X (.call 280 [t0, t1]) (fun t14 h =>
 rdK ((fun h : AHeap => binC P .neq 31 31 t14 (.int .i64 0) h) ((h.bump 2))) ((h.bump 2)) fun t16 h =>
 condK t16
 (K t14 ((h.bump 2)))
 (X (.call 289 [t0, t2]) (fun t20 h =>
 rdK ((fun h : AHeap => binC P .neq 31 31 t20 (.int .i64 0) h) ((h.bump 2))) ((h.bump 2)) fun t22 h =>
 condK t22
 (K t20 ((h.bump 2)))
 (opK ((fun h : AHeap => nilV t0 h) ((h.bump 9))) fun t25 h =>
 rdK (fAddr 0 t25) h fun t26 h =>
 rdK (ld1 t26 h) h fun t27 h =>
 rdK (ixS 3 t27 t2) h fun t29 h =>
 rdK (fAddr 2 t29) h fun t30 h =>
 rdK (ld1 t30 h) h fun t31 h =>
 rdK (binC P .neq 90 90 t31 (.int .u32 0) h) h fun t32 h =>
 condK t32
 (K (.int .i64 11) ((h.bump 1)))
 (X (.call 218 [t1, t0]) (fun t35 h =>
 condK t3
 (opK ((fun h : AHeap => nilV t0 h) (((h.bump 1).bump 9))) fun t38 h =>
  rdK (fAddr 0 t38) h fun t39 h =>
  rdK (ld1 t39 h) h fun t40 h =>
  rdK (ixS 3 t40 t35) h fun t42 h =>
  rdK (fAddr 1 t42) h fun t43 h =>
  rdK (ld1 t43 h) h fun t44 h =>
  f262_j13 X L K h t0 t2 t44 undef undef undef ((.int .i64 0)))
 (f262_j13 X L K ((h.bump 1)) t0 t2 t35 undef undef undef ((.int .i64 0)))) ((h.bump 4))))) ((h.bump 4)))) (((h.bump 1).bump 4))
theorem f262_eq (X : Caller) (L : Looper) (K : Value → AHeap → Prop) (h : AHeap) (t0 t1 t2 t3 : Value) : aJob P X L (.call 262 [t0, t1, t2, t3]) K h = f262 X L K h t0 t1 t2 t3 := by kernel_rfl
/-- cubbyhole/word.gather -/
def f263 (X : Caller) (L : Looper) (K : Value → AHeap → Prop) (h : AHeap) (t0 : Value) : Prop :=
 regK 6 ((h.bump 1)) fun b h =>
 rdK (binC P .shr 27 276 t0 (.int .u64 7) h) h fun t4 h =>
 rdK (binC P .mul 27 27 t4 (.int .u64 72624976668147840) h) h fun t5 h =>
 rdK (binC P .shr 27 276 t5 (.int .u64 56) h) h fun t6 h =>
 opK (convertA P 27 5 t6 (b + 4) h) fun t7 h =>
 K t7 h
theorem f263_eq (X : Caller) (L : Looper) (K : Value → AHeap → Prop) (h : AHeap) (t0 : Value) : aJob P X L (.call 263 [t0]) K h = f263 X L K h t0 := by kernel_rfl
/-- cubbyhole/growth.power -/
def f264 (X : Caller) (L : Looper) (K : Value → AHeap → Prop) (h : AHeap) (t0 : Value) : Prop :=
 regK 6 ((h.bump 1)) fun b h =>
 rdK (binC P .sub 3 3 t0 (.int .i64 1) h) h fun t4 h =>
 opK (convertA P 3 276 t4 (b + 2) h) fun t5 h =>
 X (.call 233 [t5]) (fun t6 h =>
 rdK (binD P .shl 3 3 (.int .i64 1) t6 h) h fun t7 h =>
 K t7 h) h
theorem f264_eq (X : Caller) (L : Looper) (K : Value → AHeap → Prop) (h : AHeap) (t0 : Value) : aJob P X L (.call 264 [t0]) K h = f264 X L K h t0 := by kernel_rfl
/-- (*cubbyhole/wheel.Wheel).check -/
def f265 (X : Caller) (L : Looper) (K : Value → AHeap → Prop) (h : AHeap) (t0 t1 t2 : Value) : Prop :=
 rdK ((fun h : AHeap => binC P .eql 188 188 t0 (.pointer none) h) (((h.bump 1).bump 10))) (((h.bump 1).bump 10)) fun t9 h =>
 gopK (wantV t9 false) h (some (t0, h)) fun t11 h =>
 gopK (wantV t9 false) h (nilV t11 h) fun t12 h =>
 gopK (wantV t9 false) h ((fAddr 0 t12).map (·, h)) fun t13 h =>
 gopK (wantV t9 false) h ((ld1 t13 h).map (·, h)) fun t14 h =>
 gopK (wantV t9 false) h ((binC P .eql 261 261 t14 (.pointer none) h).map (·, h)) fun t15 h =>
 opK (pickV t9 (.bool true) t15 h) fun t16 h =>
 condK t16
 (K (.int .i64 1) ((h.bump 1)))
 (rdK ((fun h : AHeap => binC P .geq 90 90 t1 (.int .u32 4194304) h) ((h.bump 11))) ((h.bump 11)) fun t19 h =>
  gopK (wantV t19 false) h (some (t2, h)) fun t21 h =>
  gopK (wantV t19 false) h ((binC P .lss 3 3 t21 (.int .i64 0) h).map (·, h)) fun t22 h =>
  opK (pickV t19 (.bool true) t22 h) fun t23 h =>
  gopK (wantV t23 false) h (some (t2, h)) fun t25 h =>
  gopK (wantV t23 false) h ((binC P .geq 3 3 t25 (.int .i64 256) h).map (·, h)) fun t26 h =>
  opK (pickV t23 (.bool true) t26 h) fun t27 h =>
  condK t27
  (K (.int .i64 2) ((h.bump 1)))
  (K (.int .i64 0) ((h.bump 1))))
theorem f265_eq (X : Caller) (L : Looper) (K : Value → AHeap → Prop) (h : AHeap) (t0 t1 t2 : Value) : aJob P X L (.call 265 [t0, t1, t2]) K h = f265 X L K h t0 t1 t2 := by kernel_rfl
def f266_l4 (X : Caller) (L : Looper) (a : AAct) (K : ActPost) (h : AHeap) : Prop :=
 rdK ((fun h : AHeap => binC P .lss 3 3 (a.env 7) (.int .i64 4) h) ((h.bump 2))) ((h.bump 2)) fun t15 h =>
 condK t15
 (opK ((fun h : AHeap => nilV (a.env 0) h) ((h.bump 8))) fun t20 h =>
 rdK (ixR 4 1 t20 (a.env 7)) h fun t21 h =>
 rdK (ld1 t21 h) h fun t22 h =>
 rdK (binV P .and 27 27 t22 (a.env 6) h) h fun t24 h =>
 rdK ((fun h : AHeap => binC P .neq 27 27 t24 (.int .u64 0) h) ((h.bump 2))) ((h.bump 2)) fun t26 h =>
 condK t26
 (rdK ((fun h : AHeap => binD P .mul 3 3 (.int .i64 64) (a.env 7) h) ((h.bump 7))) ((h.bump 7)) fun t28 h =>
  X (.call 291 [t24]) (fun t30 h =>
  rdK (binV P .add 3 3 t28 t30 h) h fun t31 h =>
  K .ret ⟨(upds a.env [(14, (a.env 7)), (15, t15), (18, (a.env 0)), (19, (a.env 7)), (20, t20), (21, t21), (22, t22), (23, (a.env 6)), (24, t24), (8, t24), (25, t24), (26, t26), (27, (a.env 7)), (28, t28), (29, t24), (30, t30), (31, t31), (4, t31), (5, (.bool true))]), a.defers⟩ h) h)
 (rdK ((fun h : AHeap => binC P .add 3 3 (a.env 7) (.int .i64 1) h) (((h.bump 1).bump 3))) (((h.bump 1).bump 3)) fun t17 h =>
 K .normal ⟨(upds a.env [(14, (a.env 7)), (15, t15), (18, (a.env 0)), (19, (a.env 7)), (20, t20), (21, t21), (22, t22), (23, (a.env 6)), (24, t24), (8, t24), (25, t24), (26, t26), (6, (.int .u64 18446744073709551615)), (16, (a.env 7)), (17, t17), (7, t17)]), a.defers⟩ h))
 (K (.exit 0) ⟨(upds a.env [(14, (a.env 7)), (15, t15)]), a.defers⟩ h)
def f266_j2 (X : Caller) (L : Looper) (K : Value → AHeap → Prop) (h : AHeap) (a : AAct) : Prop :=
 leaveA P X Tryz.f266 ⟨(upds a.env [(4, (.int .i64 0)), (5, (.bool false))]), a.defers⟩ K a.defers ((h.bump 2))
/-- (*cubbyhole/wheel.marks).next -/
def f266 (X : Caller) (L : Looper) (K : Value → AHeap → Prop) (h : AHeap) (t0 t1 : Value) : Prop :=
 rdK ((fun h : AHeap => binC P .rem 3 3 t1 (.int .i64 64) h) (((h.bump 2).bump 4))) (((h.bump 2).bump 4)) fun t10 h =>
 rdK (binD P .shl 27 3 (.int .u64 18446744073709551615) t10 h) h fun t11 h =>
 rdK ((fun h : AHeap => binC P .quo 3 3 t1 (.int .i64 64) h) ((h.bump 3))) ((h.bump 3)) fun t13 h =>
 L (f266_l4 X L) ⟨(upds (argsEnv [t0, t1]) [(4, (.int .i64 0)), (5, (.bool false)), (9, t1), (10, t10), (11, t11), (6, t11), (12, t1), (13, t13), (7, t13)]), []⟩ (blkX 0 (seqX (fun a h => f266_j2 X L K h a) (finX P X Tryz.f266 K))) h
theorem f266_eq (X : Caller) (L : Looper) (K : Value → AHeap → Prop) (h : AHeap) (t0 t1 : Value) : aJob P X L (.call 266 [t0, t1]) K h = f266 X L K h t0 t1 := by kernel_rfl
/-- (*cubbyhole/wheel.Wheel).List -/
def f267 (X : Caller) (L : Looper) (K : Value → AHeap → Prop) (h : AHeap) (t0 t1 : Value) : Prop :=
 X (.call 265 [t0, (.int .u32 0), t1]) (fun t9 h =>
 rdK ((fun h : AHeap => binC P .neq 31 31 t9 (.int .i64 0) h) ((h.bump 2))) ((h.bump 2)) fun t11 h =>
 condK t11
 (K (.tuple #[(.slice none 0 0), t9]) ((h.bump 3)))
 (opK ((fun h : AHeap => nilV t0 h) ((h.bump 9))) fun t14 h =>
 rdK (fAddr 0 t14) h fun t15 h =>
 rdK (ld1 t15 h) h fun t16 h =>
 X (.call 192 [t16, t1]) (fun t18 h =>
 X (.call 292 [t18]) (fun t19 h =>
 K (.tuple #[t19, (.int .i64 0)]) h) h) h)) (((h.bump 2).bump 4))
theorem f267_eq (X : Caller) (L : Looper) (K : Value → AHeap → Prop) (h : AHeap) (t0 t1 : Value) : aJob P X L (.call 267 [t0, t1]) K h = f267 X L K h t0 t1 := by kernel_rfl
def f268_l6 (X : Caller) (L : Looper) (a : AAct) (K : ActPost) (h : AHeap) : Prop :=
 rdK ((fun h : AHeap => binV P .lss 3 3 (a.env 20) (a.env 19) h) ((h.bump 1))) ((h.bump 1)) fun t21 h =>
 condK t21
 (regK 6 ((h.bump 2)) fun b_3 h =>
 opK (convertA P 3 90 (a.env 20) (b_3 + 3) h) fun t26 h =>
 rdK (ixS 1 (a.env 5) (a.env 20)) h fun t27 h =>
 stK (stV 1 t27 t26 h) fun h =>
 rdK ((fun h : AHeap => binC P .add 3 3 (a.env 20) (.int .i64 1) h) ((h.bump 2))) ((h.bump 2)) fun t28 h =>
 K .normal ⟨(upds a.env [(21, t21), (22, (a.env 20)), (6, (a.env 20)), (23, (a.env 5)), (24, (a.env 20)), (25, (a.env 20)), (26, t26), (27, t27), (28, t28), (20, t28)]), a.defers⟩ h)
 (K (.exit 0) ⟨(upds a.env [(21, t21)]), a.defers⟩ h)
def f268_j4 (X : Caller) (L : Looper) (K : Value → AHeap → Prop) (h : AHeap) (a : AAct) : Prop :=
 regK 13 h fun b_4 h =>
 opK (nilV (a.env 0) h) fun t30 h =>
 rdK (fAddr 0 t30) h fun t31 h =>
 rdK (ld1 t31 h) h fun t32 h =>
 rdK (binD P .mul 3 3 (.int .i64 2) (a.env 4) h) h fun t35 h =>
 opK (convertA P 90 3 (a.env 1) (b_4 + 8) h) fun t37 h =>
 rdK (binC P .add 3 3 t37 (.int .i64 1) h) h fun t38 h =>
 opK (builtinV P .max [3, 3] [t35, t38] (b_4 + 10) h) fun t39 h =>
 opK (builtinV P .min [3, 3] [(.int .i64 4194304), t39] (b_4 + 11) h) fun t40 h =>
 X (.call 260 [t32, (a.env 5), t40]) (fun t41 h =>
 leaveA P X Tryz.f268 ⟨(upds a.env [(29, (a.env 0)), (30, t30), (31, t31), (32, t32), (33, (a.env 5)), (34, (a.env 4)), (35, t35), (36, (a.env 1)), (37, t37), (38, t38), (39, t39), (40, t40), (41, t41)]), a.defers⟩ K a.defers h) h
/-- (*cubbyhole/wheel.Wheel).room -/
def f268 (X : Caller) (L : Looper) (K : Value → AHeap → Prop) (h : AHeap) (t0 t1 : Value) : Prop :=
 opK ((fun h : AHeap => nilV t0 h) ((h.bump 6))) fun t8 h =>
 rdK (fAddr 0 t8) h fun t9 h =>
 rdK (ld1 t9 h) h fun t10 h =>
 X (.call 259 [t10]) (fun t11 h =>
 regK 4 h fun b h =>
 opK (convertA P 90 3 t1 (b + 1) h) fun t13 h =>
 rdK (binV P .lss 3 3 t13 t11 h) h fun t15 h =>
 condK t15
 (K (.tuple #[]) h)
 (regK 3 h fun b_1 h =>
 opK (makeSliceA P 151 t11 t11 (b_1 + 1) h) fun t17 h =>
 regK 3 h fun b_2 h =>
 opK (builtinV P .len [151] [t17] (b_2 + 1) h) fun t19 h =>
 L (f268_l6 X L) ⟨(upds (argsEnv [t0, t1]) [(7, t0), (8, t8), (9, t9), (10, t10), (11, t11), (4, t11), (12, t1), (13, t13), (14, t11), (15, t15), (16, t11), (17, t17), (5, t17), (18, t17), (19, t19), (20, (.int .i64 0))]), []⟩ (blkX 0 (seqX (fun a h => f268_j4 X L K h a) (finX P X Tryz.f268 K))) h)) h
theorem f268_eq (X : Caller) (L : Looper) (K : Value → AHeap → Prop) (h : AHeap) (t0 t1 : Value) : aJob P X L (.call 268 [t0, t1]) K h = f268 X L K h t0 t1 := by kernel_rfl
/-- (*cubbyhole/wheel.marks).set -/
def f269 (X : Caller) (L : Looper) (K : Value → AHeap → Prop) (h : AHeap) (t0 t1 : Value) : Prop :=
 rdK ((fun h : AHeap => binC P .quo 3 3 t1 (.int .i64 64) h) ((h.bump 13))) ((h.bump 13)) fun t6 h =>
 opK (nilV t0 h) fun t7 h =>
 rdK (ixR 4 1 t7 t6) h fun t8 h =>
 rdK (ld1 t8 h) h fun t9 h =>
 rdK (binC P .rem 3 3 t1 (.int .i64 64) h) h fun t11 h =>
 rdK (binD P .shl 27 3 (.int .u64 1) t11 h) h fun t12 h =>
 rdK (binV P .or 27 27 t9 t12 h) h fun t13 h =>
 opK (nilV t0 h) fun t14 h =>
 rdK (ixR 4 1 t14 t6) h fun t15 h =>
 stK (stV 1 t15 t13 h) fun h =>
 K (.tuple #[]) h
theorem f269_eq (X : Caller) (L : Looper) (K : Value → AHeap → Prop) (h : AHeap) (t0 t1 : Value) : aJob P X L (.call 269 [t0, t1]) K h = f269 X L K h t0 t1 := by kernel_rfl
def f270_l6 (X : Caller) (L : Looper) (a : AAct) (K : ActPost) (h : AHeap) : Prop :=
 rdK ((fun h : AHeap => binV P .gtr 3 3 (a.env 9) (a.env 1) h) ((h.bump 17))) ((h.bump 17)) fun t20 h =>
 gopK (wantV t20 true) h (some ((a.env 3), h)) fun t22 h =>
 gopK (wantV t20 true) h (some ((a.env 0), h)) fun t23 h =>
 gopK (wantV t20 true) h (some ((a.env 9), h)) fun t24 h =>
 gopK (wantV t20 true) h ((ixS 3 t23 t24).map (·, h)) fun t25 h =>
 gopK (wantV t20 true) h ((ldN 3 t25 h).map (·, h)) fun t26 h =>
 gopK (wantV t20 true) h (some ((a.env 0), h)) fun t27 h =>
 gopK (wantV t20 true) h (some ((a.env 9), h)) fun t28 h =>
 gopK (wantV t20 true) h ((binC P .sub 3 3 t28 (.int .i64 1) h).map (·, h)) fun t29 h =>
 gopK (wantV t20 true) h ((ixS 3 t27 t29).map (·, h)) fun t30 h =>
 gopK (wantV t20 true) h ((ldN 3 t30 h).map (·, h)) fun t31 h =>
 gcallvK (wantV t20 true) X t22 [t26, t31] h fun t32 h =>
 gopK (wantV t20 true) h ((binC P .lss 3 3 t32 (.int .i64 0) h).map (·, h)) fun t33 h =>
 opK (pickV t20 t33 (.bool false) h) fun t34 h =>
 condK t34
 (rdK ((fun h : AHeap => binC P .sub 3 3 (a.env 9) (.int .i64 1) h) ((h.bump 18))) ((h.bump 18)) fun t41 h =>
 rdK (binC P .sub 3 3 (a.env 9) (.int .i64 1) h) h fun t44 h =>
 rdK (ixS 3 (a.env 0) t44) h fun t45 h =>
 rdK (ldN 3 t45 h) h fun t46 h =>
 rdK (ixS 3 (a.env 0) (a.env 9)) h fun t49 h =>
 rdK (ldN 3 t49 h) h fun t50 h =>
 rdK (ixS 3 (a.env 0) (a.env 9)) h fun t51 h =>
 stK (stV 3 t51 t46 h) fun h =>
 rdK (ixS 3 (a.env 0) t41) h fun t52 h =>
 stK (stV 3 t52 t50 h) fun h =>
 rdK ((fun h : AHeap => binC P .sub 3 3 (a.env 9) (.int .i64 1) h) ((h.bump 3))) ((h.bump 3)) fun t36 h =>
 K .normal ⟨(upds a.env [(18, (a.env 9)), (19, (a.env 1)), (20, t20), (21, t20), (22, t22), (23, t23), (24, t24), (25, t25), (26, t26), (27, t27), (28, t28), (29, t29), (30, t30), (31, t31), (32, t32), (33, t33), (34, t34), (37, (a.env 0)), (38, (a.env 9)), (39, (a.env 0)), (40, (a.env 9)), (41, t41), (42, (a.env 0)), (43, (a.env 9)), (44, t44), (45, t45), (46, t46), (47, (a.env 0)), (48, (a.env 9)), (49, t49), (50, t50), (51, t51), (52, t52), (35, (a.env 9)), (36, t36), (9, t36)]), a.defers⟩ h)
 (K (.exit 2) ⟨(upds a.env [(18, (a.env 9)), (19, (a.env 1)), (20, t20), (21, t20), (22, t22), (23, t23), (24, t24), (25, t25), (26, t26), (27, t27), (28, t28), (29, t29), (30, t30), (31, t31), (32, t32), (33, t33), (34, t34)]), a.defers⟩ h)
def f270_j4 (X : Caller) (L : Looper) (K : ActPost) (h : AHeap) (a : AAct) : Prop :=
 rdK ((fun h : AHeap => binC P .add 3 3 (a.env 8) (.int .i64 1) h) ((h.bump 3))) ((h.bump 3)) fun t16 h =>
 K .normal ⟨(upds a.env [(15, (a.env 8)), (16, t16), (8, t16)]), a.defers⟩ h
def f270_l1 (X : Caller) (L : Looper) (a : AAct) (K : ActPost) (h : AHeap) : Prop :=
 rdK ((fun h : AHeap => binV P .lss 3 3 (a.env 8) (a.env 2) h) ((h.bump 3))) ((h.bump 3)) fun t14 h =>
 condK t14
 (L (f270_l6 X L) ⟨(upds a.env [(12, (a.env 8)), (13, (a.env 2)), (14, t14), (17, (a.env 8)), (9, (a.env 8))]), a.defers⟩ (blkX 2 (blkX 1 (seqX (fun a h => f270_j4 X L K h a) K))) ((h.bump 2)))
 (K (.exit 0) ⟨(upds a.env [(12, (a.env 8)), (13, (a.env 2)), (14, t14)]), a.defers⟩ h)
/-- slices.insertionSortCmpFunc[cubbyhole/api.Timed] -/
def f270 (X : Caller) (L : Looper) (K : Value → AHeap → Prop) (h : AHeap) (t0 t1 t2 t3 : Value) : Prop :=
 rdK ((fun h : AHeap => binC P .add 3 3 t1 (.int .i64 1) h) ((h.bump 3))) ((h.bump 3)) fun t11 h =>
 L (f270_l1 X L) ⟨(upds (argsEnv [t0, t1, t2, t3]) [(10, t1), (11, t11), (8, t11)]), []⟩ (blkX 0 (finX P X Tryz.f270 K)) h
theorem f270_eq (X : Caller) (L : Looper) (K : Value → AHeap → Prop) (h : AHeap) (t0 t1 t2 t3 : Value) : aJob P X L (.call 270 [t0, t1, t2, t3]) K h = f270 X L K h t0 t1 t2 t3 := by kernel_rfl
def f271_l5 (X : Caller) (L : Looper) (a : AAct) (K : ActPost) (h : AHeap) : Prop :=
 rdK ((fun h : AHeap => binC P .geq 3 3 (a.env 11) (.int .i64 0) h) ((h.bump 2))) ((h.bump 2)) fun t21 h =>
 condK t21
 (X (.call 293 [(a.env 0), (a.env 11), (a.env 10), (a.env 8), (a.env 3)]) (fun t29 h =>
 rdK ((fun h : AHeap => binC P .sub 3 3 (a.env 11) (.int .i64 1) h) ((h.bump 3))) ((h.bump 3)) fun t23 h =>
 K .normal ⟨(upds a.env [(20, (a.env 11)), (21, t21), (24, (a.env 0)), (25, (a.env 11)), (26, (a.env 10)), (27, (a.env 8)), (28, (a.env 3)), (29, t29), (22, (a.env 11)), (23, t23), (11, t23)]), a.defers⟩ h) ((h.bump 6)))
 (K (.exit 0) ⟨(upds a.env [(20, (a.env 11)), (21, t21)]), a.defers⟩ h)
def f271_l10 (X : Caller) (L : Looper) (a : AAct) (K : ActPost) (h : AHeap) : Prop :=
 rdK ((fun h : AHeap => binC P .geq 3 3 (a.env 12) (.int .i64 0) h) ((h.bump 2))) ((h.bump 2)) fun t33 h =>
 condK t33
 (rdK ((fun h : AHeap => binV P .add 3 3 (a.env 8) (a.env 12) h) ((h.bump 20))) ((h.bump 20)) fun t41 h =>
 rdK (binV P .add 3 3 (a.env 8) (a.env 12) h) h fun t45 h =>
 rdK (ixS 3 (a.env 0) t45) h fun t46 h =>
 rdK (ldN 3 t46 h) h fun t47 h =>
 rdK (ixS 3 (a.env 0) (a.env 8)) h fun t50 h =>
 rdK (ldN 3 t50 h) h fun t51 h =>
 rdK (ixS 3 (a.env 0) (a.env 8)) h fun t52 h =>
 stK (stV 3 t52 t47 h) fun h =>
 rdK (ixS 3 (a.env 0) t41) h fun t53 h =>
 stK (stV 3 t53 t51 h) fun h =>
 X (.call 293 [(a.env 0), (a.env 9), (a.env 12), (a.env 8), (a.env 3)]) (fun t59 h =>
 rdK ((fun h : AHeap => binC P .sub 3 3 (a.env 12) (.int .i64 1) h) ((h.bump 3))) ((h.bump 3)) fun t35 h =>
 K .normal ⟨(upds a.env [(32, (a.env 12)), (33, t33), (36, (a.env 0)), (37, (a.env 8)), (38, (a.env 0)), (39, (a.env 8)), (40, (a.env 12)), (41, t41), (42, (a.env 0)), (43, (a.env 8)), (44, (a.env 12)), (45, t45), (46, t46), (47, t47), (48, (a.env 0)), (49, (a.env 8)), (50, t50), (51, t51), (52, t52), (53, t53), (54, (a.env 0)), (55, (a.env 9)), (56, (a.env 12)), (57, (a.env 8)), (58, (a.env 3)), (59, t59), (34, (a.env 12)), (35, t35), (12, t35)]), a.defers⟩ h) ((h.bump 6)))
 (K (.exit 2) ⟨(upds a.env [(32, (a.env 12)), (33, t33)]), a.defers⟩ h)
def f271_j3 (X : Caller) (L : Looper) (K : Value → AHeap → Prop) (h : AHeap) (a : AAct) : Prop :=
 rdK ((fun h : AHeap => binC P .sub 3 3 (a.env 10) (.int .i64 1) h) ((h.bump 3))) ((h.bump 3)) fun t31 h =>
 L (f271_l10 X L) ⟨(upds a.env [(30, (a.env 10)), (31, t31), (12, t31)]), a.defers⟩ (blkX 2 (finX P X Tryz.f271 K)) h
/-- slices.heapSortCmpFunc[cubbyhole/api.Timed] -/
def f271 (X : Caller) (L : Looper) (K : Value → AHeap → Prop) (h : AHeap) (t0 t1 t2 t3 : Value) : Prop :=
 rdK ((fun h : AHeap => binV P .sub 3 3 t2 t1 h) ((((h.bump 2).bump 1).bump 4))) ((((h.bump 2).bump 1).bump 4)) fun t16 h =>
 rdK ((fun h : AHeap => binC P .sub 3 3 t16 (.int .i64 1) h) ((h.bump 4))) ((h.bump 4)) fun t18 h =>
 rdK (binC P .quo 3 3 t18 (.int .i64 2) h) h fun t19 h =>
 L (f271_l5 X L) ⟨(upds (argsEnv [t0, t1, t2, t3]) [(13, t1), (8, t1), (9, (.int .i64 0)), (14, t2), (15, t1), (16, t16), (10, t16), (17, t16), (18, t18), (19, t19), (11, t19)]), []⟩ (blkX 0 (seqX (fun a h => f271_j3 X L K h a) (finX P X Tryz.f271 K))) h
theorem f271_eq (X : Caller) (L : Looper) (K : Value → AHeap → Prop) (h : AHeap) (t0 t1 t2 t3 : Value) : aJob P X L (.call 271 [t0, t1, t2, t3]) K h = f271 X L K h t0 t1 t2 t3 := by kernel_rfl
def f272_j10 (X : Caller) (L : Looper) (K : ActPost) (h : AHeap) (a : AAct) : Prop :=
 rdK ((fun h : AHeap => binV P .add 3 3 (a.env 1) (a.env 12) h) ((h.bump 20))) ((h.bump 20)) fun t54 h =>
 rdK (binV P .add 3 3 (a.env 1) (a.env 12) h) h fun t58 h =>
 rdK (ixS 3 (a.env 0) t58) h fun t59 h =>
 rdK (ldN 3 t59 h) h fun t60 h =>
 rdK (ixS 3 (a.env 0) (a.env 11)) h fun t63 h =>
 rdK (ldN 3 t63 h) h fun t64 h =>
 rdK (ixS 3 (a.env 0) (a.env 11)) h fun t65 h =>
 stK (stV 3 t65 t60 h) fun h =>
 rdK (ixS 3 (a.env 0) t54) h fun t66 h =>
 stK (stV 3 t66 t64 h) fun h =>
 rdK ((fun h : AHeap => binC P .add 3 3 (a.env 11) (.int .i64 1) h) ((h.bump 3))) ((h.bump 3)) fun t37 h =>
 K .normal ⟨(upds a.env [(49, (a.env 0)), (50, (a.env 11)), (51, (a.env 0)), (52, (a.env 1)), (53, (a.env 12)), (54, t54), (55, (a.env 0)), (56, (a.env 1)), (57, (a.env 12)), (58, t58), (59, t59), (60, t60), (61, (a.env 0)), (62, (a.env 11)), (63, t63), (64, t64), (65, t65), (66, t66), (36, (a.env 11)), (37, t37), (11, t37)]), a.defers⟩ h
def f272_l5 (X : Caller) (L : Looper) (a : AAct) (K : ActPost) (h : AHeap) : Prop :=
 rdK ((fun h : AHeap => binC P .quo 3 3 (a.env 8) (.int .i64 4) h) ((h.bump 8))) ((h.bump 8)) fun t31 h =>
 rdK (binC P .mul 3 3 t31 (.int .i64 2) h) h fun t32 h =>
 rdK (binV P .add 3 3 (a.env 1) t32 h) h fun t33 h =>
 rdK (binC P .add 3 3 t33 (.int .i64 1) h) h fun t34 h =>
 rdK (binV P .leq 3 3 (a.env 11) t34 h) h fun t35 h =>
 condK t35
 (regK 6 h fun b_1 h =>
 X (.call 295 [(a.env 9)]) (fun t38 h =>
 rdK (binC P .sub 276 276 (a.env 10) (.int .u64 1) h) h fun t40 h =>
 rdK (binV P .and 276 276 t38 t40 h) h fun t41 h =>
 opK (convertA P 276 3 t41 (b_1 + 4) h) fun t42 h =>
 rdK ((fun h : AHeap => binV P .geq 3 3 t42 (a.env 8) h) ((h.bump 3))) ((h.bump 3)) fun t45 h =>
 condK t45
 (rdK ((fun h : AHeap => binV P .sub 3 3 t42 (a.env 8) h) ((h.bump 4))) ((h.bump 4)) fun t48 h =>
  f272_j10 X L K h ⟨(upds a.env [(28, (a.env 11)), (29, (a.env 1)), (30, (a.env 8)), (31, t31), (32, t32), (33, t33), (34, t34), (35, t35), (38, t38), (39, (a.env 10)), (40, t40), (41, t41), (42, t42), (12, t42), (43, t42), (44, (a.env 8)), (45, t45), (46, t42), (47, (a.env 8)), (48, t48), (12, t48)]), a.defers⟩)
 (f272_j10 X L K h ⟨(upds a.env [(28, (a.env 11)), (29, (a.env 1)), (30, (a.env 8)), (31, t31), (32, t32), (33, t33), (34, t34), (35, t35), (38, t38), (39, (a.env 10)), (40, t40), (41, t41), (42, t42), (12, t42), (43, t42), (44, (a.env 8)), (45, t45)]), a.defers⟩)) h)
 (K (.exit 0) ⟨(upds a.env [(28, (a.env 11)), (29, (a.env 1)), (30, (a.env 8)), (31, t31), (32, t32), (33, t33), (34, t34), (35, t35)]), a.defers⟩ h)
/-- slices.breakPatternsCmpFunc[cubbyhole/api.Timed] -/
def f272 (X : Caller) (L : Looper) (K : Value → AHeap → Prop) (h : AHeap) (t0 t1 t2 t3 : Value) : Prop :=
 rdK ((fun h : AHeap => binV P .sub 3 3 t2 t1 h) ((h.bump 4))) ((h.bump 4)) fun t15 h =>
 rdK ((fun h : AHeap => binC P .geq 3 3 t15 (.int .i64 8) h) ((h.bump 2))) ((h.bump 2)) fun t17 h =>
 condK t17
 (regK 4 h fun b h =>
  opK (convertA P 3 367 t15 (b + 1) h) fun t19 h =>
  opK (newV [.int .u64 0] (b + 2) h) fun t9 h =>
  stK (stV 1 t9 t19 h) fun h =>
  X (.call 294 [t15]) (fun t21 h =>
  rdK ((fun h : AHeap => binC P .quo 3 3 t15 (.int .i64 4) h) ((h.bump 7))) ((h.bump 7)) fun t24 h =>
  rdK (binC P .mul 3 3 t24 (.int .i64 2) h) h fun t25 h =>
  rdK (binV P .add 3 3 t1 t25 h) h fun t26 h =>
  rdK (binC P .sub 3 3 t26 (.int .i64 1) h) h fun t27 h =>
  L (f272_l5 X L) ⟨(upds (argsEnv [t0, t1, t2, t3]) [(13, t2), (14, t1), (15, t15), (8, t15), (16, t15), (17, t17), (18, t15), (19, t19), (9, t9), (20, t15), (21, t21), (10, t21), (22, t1), (23, t15), (24, t24), (25, t25), (26, t26), (27, t27), (11, t27)]), []⟩ (blkX 0 (finX P X Tryz.f272 K)) h) ((h.bump 3)))
 (K (.tuple #[]) h)
theorem f272_eq (X : Caller) (L : Looper) (K : Value → AHeap → Prop) (h : AHeap) (t0 t1 t2 t3 : Value) : aJob P X L (.call 272 [t0, t1, t2, t3]) K h = f272 X L K h t0 t1 t2 t3 := by kernel_rfl
def f273_j6 (X : Caller) (L : Looper) (K : Value → AHeap → Prop) (h : AHeap) (t11 t55 t58 t57 t13 t59 t61 t60 t62 t56 t8 t9 : Value) : Prop :=
 rdK ((fun h : AHeap => ld1 t11 h) ((h.bump 1))) ((h.bump 1)) fun t55_1 h =>
 rdK ((fun h : AHeap => binC P .eql 3 3 t55_1 (.int .i64 0) h) ((h.bump 2))) ((h.bump 2)) fun t58_1 h =>
 condK t58_1
 (K (.tuple #[t13, (.int .i64 1)]) ((h.bump 3)))
 (rdK ((fun h : AHeap => binC P .eql 3 3 t55_1 (.int .i64 12) h) ((h.bump 2))) ((h.bump 2)) fun t61_1 h =>
  condK t61_1
  (K (.tuple #[t13, (.int .i64 2)]) ((h.bump 3)))
  (K (.tuple #[t13, (.int .i64 0)]) ((h.bump 3))))
def f273_j8 (X : Caller) (L : Looper) (K : Value → AHeap → Prop) (h : AHeap) (t0 t12 t13 t14 t3 t49 t50 t51 t52 t11 t53 t54 t55 t58 t57 t59 t61 t60 t62 t56 t8 t9 : Value) : Prop :=
 X (.call 297 [t0, t12, t13, t14, t11, t3]) (fun t54_1 h =>
 f273_j6 X L K h t11 t55 t58 t57 t54_1 t59 t61 t60 t62 t56 t8 t9) ((h.bump 7))
/-- slices.choosePivotCmpFunc[cubbyhole/api.Timed] -/
def f273 (X : Caller) (L : Looper) (K : Value → AHeap → Prop) (h : AHeap) (t0 t1 t2 t3 : Value) : Prop :=
 rdK ((fun h : AHeap => binV P .sub 3 3 t2 t1 h) (((h.bump 2).bump 4))) (((h.bump 2).bump 4)) fun t17 h =>
 regK 1 h fun b h =>
 opK (newV [.int .i64 0] (b + 0) h) fun t11 h =>
 rdK ((fun h : AHeap => binC P .quo 3 3 t17 (.int .i64 4) h) ((h.bump 6))) ((h.bump 6)) fun t20 h =>
 rdK (binC P .mul 3 3 t20 (.int .i64 1) h) h fun t21 h =>
 rdK (binV P .add 3 3 t1 t21 h) h fun t22 h =>
 rdK ((fun h : AHeap => binC P .quo 3 3 t17 (.int .i64 4) h) ((h.bump 6))) ((h.bump 6)) fun t25 h =>
 rdK (binC P .mul 3 3 t25 (.int .i64 2) h) h fun t26 h =>
 rdK (binV P .add 3 3 t1 t26 h) h fun t27 h =>
 rdK ((fun h : AHeap => binC P .quo 3 3 t17 (.int .i64 4) h) ((h.bump 6))) ((h.bump 6)) fun t30 h =>
 rdK (binC P .mul 3 3 t30 (.int .i64 3) h) h fun t31 h =>
 rdK (binV P .add 3 3 t1 t31 h) h fun t32 h =>
 rdK ((fun h : AHeap => binC P .geq 3 3 t17 (.int .i64 8) h) ((h.bump 2))) ((h.bump 2)) fun t34 h =>
 condK t34
 (rdK ((fun h : AHeap => binC P .geq 3 3 t17 (.int .i64 50) h) ((h.bump 2))) ((h.bump 2)) fun t36 h =>
  condK t36
  (X (.call 296 [t0, t22, t11, t3]) (fun t40 h =>
   X (.call 296 [t0, t27, t11, t3]) (fun t44 h =>
   X (.call 296 [t0, t32, t11, t3]) (fun t48 h =>
   f273_j8 X L K h t0 t40 t44 t48 t3 undef undef undef undef t11 undef undef undef undef undef undef undef undef undef undef ((.int .i64 0)) ((.int .i64 0))) ((h.bump 5))) ((h.bump 5))) ((h.bump 5)))
  (f273_j8 X L K h t0 t22 t27 t32 t3 undef undef undef undef t11 undef undef undef undef undef undef undef undef undef undef ((.int .i64 0)) ((.int .i64 0))))
 (f273_j6 X L K h t11 undef undef undef t27 undef undef undef undef undef ((.int .i64 0)) ((.int .i64 0)))
theorem f273_eq (X : Caller) (L : Looper) (K : Value → AHeap → Prop) (h : AHeap) (t0 t1 t2 t3 : Value) : aJob P X L (.call 273 [t0, t1, t2, t3]) K h = f273 X L K h t0 t1 t2 t3 := by kernel_rfl
def f274_l2 (X : Caller) (L : Looper) (a : AAct) (K : ActPost) (h : AHeap) : Prop :=
 rdK ((fun h : AHeap => binV P .lss 3 3 (a.env 8) (a.env 9) h) ((h.bump 3))) ((h.bump 3)) fun t15 h =>
 condK t15
 (rdK ((fun h : AHeap => ixS 3 (a.env 0) (a.env 9)) ((h.bump 16))) ((h.bump 16)) fun t22 h =>
 rdK (ldN 3 t22 h) h fun t23 h =>
 rdK (ixS 3 (a.env 0) (a.env 8)) h fun t26 h =>
 rdK (ldN 3 t26 h) h fun t27 h =>
 rdK (ixS 3 (a.env 0) (a.env 8)) h fun t28 h =>
 stK (stV 3 t28 t23 h) fun h =>
 rdK (ixS 3 (a.env 0) (a.env 9)) h fun t29 h =>
 stK (stV 3 t29 t27 h) fun h =>
 rdK ((fun h : AHeap => binC P .add 3 3 (a.env 8) (.int .i64 1) h) ((h.bump 3))) ((h.bump 3)) fun t31 h =>
 rdK ((fun h : AHeap => binC P .sub 3 3 (a.env 9) (.int .i64 1) h) ((h.bump 3))) ((h.bump 3)) fun t33 h =>
 K .normal ⟨(upds a.env [(13, (a.env 8)), (14, (a.env 9)), (15, t15), (16, (a.env 0)), (17, (a.env 8)), (18, (a.env 0)), (19, (a.env 9)), (20, (a.env 0)), (21, (a.env 9)), (22, t22), (23, t23), (24, (a.env 0)), (25, (a.env 8)), (26, t26), (27, t27), (28, t28), (29, t29), (30, (a.env 8)), (31, t31), (8, t31), (32, (a.env 9)), (33, t33), (9, t33)]), a.defers⟩ h)
 (K (.exit 0) ⟨(upds a.env [(13, (a.env 8)), (14, (a.env 9)), (15, t15)]), a.defers⟩ h)
/-- slices.reverseRangeCmpFunc[cubbyhole/api.Timed] -/
def f274 (X : Caller) (L : Looper) (K : Value → AHeap → Prop) (h : AHeap) (t0 t1 t2 t3 : Value) : Prop :=
 rdK ((fun h : AHeap => binC P .sub 3 3 t2 (.int .i64 1) h) (((h.bump 2).bump 3))) (((h.bump 2).bump 3)) fun t12 h =>
 L (f274_l2 X L) ⟨(upds (argsEnv [t0, t1, t2, t3]) [(10, t1), (8, t1), (11, t2), (12, t12), (9, t12)]), []⟩ (blkX 0 (finX P X Tryz.f274 K)) h
theorem f274_eq (X : Caller) (L : Looper) (K : Value → AHeap → Prop) (h : AHeap) (t0 t1 t2 t3 : Value) : aJob P X L (.call 274 [t0, t1, t2, t3]) K h = f274 X L K h t0 t1 t2 t3 := by kernel_rfl
def f275_l9 (X : Caller) (L : Looper) (a : AAct) (K : ActPost) (h : AHeap) : Prop :=
 rdK ((fun h : AHeap => binV P .lss 3 3 (a.env 9) (a.env 2) h) ((h.bump 18))) ((h.bump 18)) fun t21 h =>
 gopK (wantV t21 true) h (some ((a.env 3), h)) fun t23 h =>
 gopK (wantV t21 true) h (some ((a.env 0), h)) fun t24 h =>
 gopK (wantV t21 true) h (some ((a.env 9), h)) fun t25 h =>
 gopK (wantV t21 true) h ((ixS 3 t24 t25).map (·, h)) fun t26 h =>
 gopK (wantV t21 true) h ((ldN 3 t26 h).map (·, h)) fun t27 h =>
 gopK (wantV t21 true) h (some ((a.env 0), h)) fun t28 h =>
 gopK (wantV t21 true) h (some ((a.env 9), h)) fun t29 h =>
 gopK (wantV t21 true) h ((binC P .sub 3 3 t29 (.int .i64 1) h).map (·, h)) fun t30 h =>
 gopK (wantV t21 true) h ((ixS 3 t28 t30).map (·, h)) fun t31 h =>
 gopK (wantV t21 true) h ((ldN 3 t31 h).map (·, h)) fun t32 h =>
 gcallvK (wantV t21 true) X t23 [t27, t32] h fun t33 h =>
 gopK (wantV t21 true) h ((binC P .lss 3 3 t33 (.int .i64 0) h).map (·, h)) fun t34 h =>
 gopK (wantV t21 true) h ((unV P .not 4 t34).map (·, h)) fun t35 h =>
 opK (pickV t21 t35 (.bool false) h) fun t36 h =>
 condK t36
 (rdK ((fun h : AHeap => binC P .add 3 3 (a.env 9) (.int .i64 1) h) ((h.bump 3))) ((h.bump 3)) fun t38 h =>
 K .normal ⟨(upds a.env [(19, (a.env 9)), (20, (a.env 2)), (21, t21), (22, t21), (23, t23), (24, t24), (25, t25), (26, t26), (27, t27), (28, t28), (29, t29), (30, t30), (31, t31), (32, t32), (33, t33), (34, t34), (35, t35), (36, t36), (37, (a.env 9)), (38, t38), (9, t38)]), a.defers⟩ h)
 (K (.exit 2) ⟨(upds a.env [(19, (a.env 9)), (20, (a.env 2)), (21, t21), (22, t21), (23, t23), (24, t24), (25, t25), (26, t26), (27, t27), (28, t28), (29, t29), (30, t30), (31, t31), (32, t32), (33, t33), (34, t34), (35, t35), (36, t36)]), a.defers⟩ h)
def f275_l22 (X : Caller) (L : Looper) (a : AAct) (K : ActPost) (h : AHeap) : Prop :=
 rdK ((fun h : AHeap => binC P .geq 3 3 (a.env 11) (.int .i64 1) h) ((h.bump 2))) ((h.bump 2)) fun t69 h =>
 condK t69
 (rdK ((fun h : AHeap => ixS 3 (a.env 0) (a.env 11)) ((h.bump 13))) ((h.bump 13)) fun t75 h =>
 rdK (ldN 3 t75 h) h fun t76 h =>
 rdK (binC P .sub 3 3 (a.env 11) (.int .i64 1) h) h fun t79 h =>
 rdK (ixS 3 (a.env 0) t79) h fun t80 h =>
 rdK (ldN 3 t80 h) h fun t81 h =>
 callV X (a.env 3) [t76, t81] (fun t82 h =>
 rdK (binC P .lss 3 3 t82 (.int .i64 0) h) h fun t83 h =>
 rdK (unV P .not 4 t83) h fun t84 h =>
 condK t84
 (K (.exit 4) ⟨(upds a.env [(68, (a.env 11)), (69, t69), (72, (a.env 3)), (73, (a.env 0)), (74, (a.env 11)), (75, t75), (76, t76), (77, (a.env 0)), (78, (a.env 11)), (79, t79), (80, t80), (81, t81), (82, t82), (83, t83), (84, t84)]), a.defers⟩ h)
 (rdK ((fun h : AHeap => binC P .sub 3 3 (a.env 11) (.int .i64 1) h) ((h.bump 18))) ((h.bump 18)) fun t89 h =>
 rdK (binC P .sub 3 3 (a.env 11) (.int .i64 1) h) h fun t92 h =>
 rdK (ixS 3 (a.env 0) t92) h fun t93 h =>
 rdK (ldN 3 t93 h) h fun t94 h =>
 rdK (ixS 3 (a.env 0) (a.env 11)) h fun t97 h =>
 rdK (ldN 3 t97 h) h fun t98 h =>
 rdK (ixS 3 (a.env 0) (a.env 11)) h fun t99 h =>
 stK (stV 3 t99 t94 h) fun h =>
 rdK (ixS 3 (a.env 0) t89) h fun t100 h =>
 stK (stV 3 t100 t98 h) fun h =>
 rdK ((fun h : AHeap => binC P .sub 3 3 (a.env 11) (.int .i64 1) h) ((h.bump 3))) ((h.bump 3)) fun t71 h =>
 K .normal ⟨(upds a.env [(68, (a.env 11)), (69, t69), (72, (a.env 3)), (73, (a.env 0)), (74, (a.env 11)), (75, t75), (76, t76), (77, (a.env 0)), (78, (a.env 11)), (79, t79), (80, t80), (81, t81), (82, t82), (83, t83), (84, t84), (85, (a.env 0)), (86, (a.env 11)), (87, (a.env 0)), (88, (a.env 11)), (89, t89), (90, (a.env 0)), (91, (a.env 11)), (92, t92), (93, t93), (94, t94), (95, (a.env 0)), (96, (a.env 11)), (97, t97), (98, t98), (99, t99), (100, t100), (70, (a.env 11)), (71, t71), (11, t71)]), a.defers⟩ h)) h)
 (K (.exit 4) ⟨(upds a.env [(68, (a.env 11)), (69, t69)]), a.defers⟩ h)
def f275_l30 (X : Caller) (L : Looper) (a : AAct) (K : ActPost) (h : AHeap) : Prop :=
 rdK ((fun h : AHeap => binV P .lss 3 3 (a.env 12) (a.env 2) h) ((h.bump 3))) ((h.bump 3)) fun t109 h =>
 condK t109
 (rdK ((fun h : AHeap => ixS 3 (a.env 0) (a.env 12)) ((h.bump 13))) ((h.bump 13)) fun t115 h =>
 rdK (ldN 3 t115 h) h fun t116 h =>
 rdK (binC P .sub 3 3 (a.env 12) (.int .i64 1) h) h fun t119 h =>
 rdK (ixS 3 (a.env 0) t119) h fun t120 h =>
 rdK (ldN 3 t120 h) h fun t121 h =>
 callV X (a.env 3) [t116, t121] (fun t122 h =>
 rdK (binC P .lss 3 3 t122 (.int .i64 0) h) h fun t123 h =>
 rdK (unV P .not 4 t123) h fun t124 h =>
 condK t124
 (K (.exit 6) ⟨(upds a.env [(107, (a.env 12)), (108, (a.env 2)), (109, t109), (112, (a.env 3)), (113, (a.env 0)), (114, (a.env 12)), (115, t115), (116, t116), (117, (a.env 0)), (118, (a.env 12)), (119, t119), (120, t120), (121, t121), (122, t122), (123, t123), (124, t124)]), a.defers⟩ h)
 (rdK ((fun h : AHeap => binC P .sub 3 3 (a.env 12) (.int .i64 1) h) ((h.bump 18))) ((h.bump 18)) fun t129 h =>
 rdK (binC P .sub 3 3 (a.env 12) (.int .i64 1) h) h fun t132 h =>
 rdK (ixS 3 (a.env 0) t132) h fun t133 h =>
 rdK (ldN 3 t133 h) h fun t134 h =>
 rdK (ixS 3 (a.env 0) (a.env 12)) h fun t137 h =>
 rdK (ldN 3 t137 h) h fun t138 h =>
 rdK (ixS 3 (a.env 0) (a.env 12)) h fun t139 h =>
 stK (stV 3 t139 t134 h) fun h =>
 rdK (ixS 3 (a.env 0) t129) h fun t140 h =>
 stK (stV 3 t140 t138 h) fun h =>
 rdK ((fun h : AHeap => binC P .add 3 3 (a.env 12) (.int .i64 1) h) ((h.bump 3))) ((h.bump 3)) fun t111 h =>
 K .normal ⟨(upds a.env [(107, (a.env 12)), (108, (a.env 2)), (109, t109), (112, (a.env 3)), (113, (a.env 0)), (114, (a.env 12)), (115, t115), (116, t116), (117, (a.env 0)), (118, (a.env 12)), (119, t119), (120, t120), (121, t121), (122, t122), (123, t123), (124, t124), (125, (a.env 0)), (126, (a.env 12)), (127, (a.env 0)), (128, (a.env 12)), (129, t129), (130, (a.env 0)), (131, (a.env 12)), (132, t132), (133, t133), (134, t134), (135, (a.env 0)), (136, (a.env 12)), (137, t137), (138, t138), (139, t139), (140, t140), (110, (a.env 12)), (111, t111), (12, t111)]), a.defers⟩ h)) h)
 (K (.exit 6) ⟨(upds a.env [(107, (a.env 12)), (108, (a.env 2)), (109, t109)]), a.defers⟩ h)
def f275_j7 (X : Caller) (L : Looper) (K : ActPost) (h : AHeap) (a : AAct) : Prop :=
 rdK ((fun h : AHeap => binC P .add 3 3 (a.env 10) (.int .i64 1) h) ((h.bump 3))) ((h.bump 3)) fun t18 h =>
 K .normal ⟨(upds a.env [(17, (a.env 10)), (18, t18), (10, t18)]), a.defers⟩ h
def f275_j19 (X : Caller) (L : Looper) (K : ActPost) (h : AHeap) (a : AAct) : Prop :=
 rdK ((fun h : AHeap => binV P .sub 3 3 (a.env 2) (a.env 9) h) ((h.bump 4))) ((h.bump 4)) fun t103 h =>
 rdK (binC P .geq 3 3 t103 (.int .i64 2) h) h fun t104 h =>
 condK t104
 (rdK ((fun h : AHeap => binC P .add 3 3 (a.env 9) (.int .i64 1) h) ((h.bump 3))) ((h.bump 3)) fun t106 h =>
  L (f275_l30 X L) ⟨(upds a.env [(101, (a.env 2)), (102, (a.env 9)), (103, t103), (104, t104), (105, (a.env 9)), (106, t106), (12, t106)]), a.defers⟩ (blkX 6 (blkX 1 (seqX (fun a h => f275_j7 X L K h a) K))) h)
 (f275_j7 X L K h ⟨(upds a.env [(101, (a.env 2)), (102, (a.env 9)), (103, t103), (104, t104)]), a.defers⟩)
def f275_j8 (X : Caller) (L : Looper) (K : ActPost) (h : AHeap) (a : AAct) : Prop :=
 rdK ((fun h : AHeap => binV P .eql 3 3 (a.env 9) (a.env 2) h) ((h.bump 3))) ((h.bump 3)) fun t41 h =>
 condK t41
 (K .ret ⟨(upds a.env [(39, (a.env 9)), (40, (a.env 2)), (41, t41), (8, (.bool true))]), a.defers⟩ ((h.bump 1)))
 (rdK ((fun h : AHeap => binV P .sub 3 3 (a.env 2) (a.env 1) h) ((h.bump 4))) ((h.bump 4)) fun t44 h =>
 rdK (binC P .lss 3 3 t44 (.int .i64 50) h) h fun t45 h =>
 condK t45
 (K .ret ⟨(upds a.env [(39, (a.env 9)), (40, (a.env 2)), (41, t41), (42, (a.env 2)), (43, (a.env 1)), (44, t44), (45, t45), (8, (.bool false))]), a.defers⟩ ((h.bump 1)))
 (rdK ((fun h : AHeap => binC P .sub 3 3 (a.env 9) (.int .i64 1) h) ((h.bump 18))) ((h.bump 18)) fun t50 h =>
 rdK (binC P .sub 3 3 (a.env 9) (.int .i64 1) h) h fun t53 h =>
 rdK (ixS 3 (a.env 0) t53) h fun t54 h =>
 rdK (ldN 3 t54 h) h fun t55 h =>
 rdK (ixS 3 (a.env 0) (a.env 9)) h fun t58 h =>
 rdK (ldN 3 t58 h) h fun t59 h =>
 rdK (ixS 3 (a.env 0) (a.env 9)) h fun t60 h =>
 stK (stV 3 t60 t55 h) fun h =>
 rdK (ixS 3 (a.env 0) t50) h fun t61 h =>
 stK (stV 3 t61 t59 h) fun h =>
 rdK ((fun h : AHeap => binV P .sub 3 3 (a.env 9) (a.env 1) h) ((h.bump 4))) ((h.bump 4)) fun t64 h =>
 rdK (binC P .geq 3 3 t64 (.int .i64 2) h) h fun t65 h =>
 condK t65
 (rdK ((fun h : AHeap => binC P .sub 3 3 (a.env 9) (.int .i64 1) h) ((h.bump 3))) ((h.bump 3)) fun t67 h =>
  L (f275_l22 X L) ⟨(upds a.env [(39, (a.env 9)), (40, (a.env 2)), (41, t41), (42, (a.env 2)), (43, (a.env 1)), (44, t44), (45, t45), (46, (a.env 0)), (47, (a.env 9)), (48, (a.env 0)), (49, (a.env 9)), (50, t50), (51, (a.env 0)), (52, (a.env 9)), (53, t53), (54, t54), (55, t55), (56, (a.env 0)), (57, (a.env 9)), (58, t58), (59, t59), (60, t60), (61, t61), (62, (a.env 9)), (63, (a.env 1)), (64, t64), (65, t65), (66, (a.env 9)), (67, t67), (11, t67)]), a.defers⟩ (blkX 4 (seqX (fun a h => f275_j19 X L K h a) (blkX 1 (seqX (fun a h => f275_j7 X L K h a) K)))) h)
 (f275_j19 X L K h ⟨(upds a.env [(39, (a.env 9)), (40, (a.env 2)), (41, t41), (42, (a.env 2)), (43, (a.env 1)), (44, t44), (45, t45), (46, (a.env 0)), (47, (a.env 9)), (48, (a.env 0)), (49, (a.env 9)), (50, t50), (51, (a.env 0)), (52, (a.env 9)), (53, t53), (54, t54), (55, t55), (56, (a.env 0)), (57, (a.env 9)), (58, t58), (59, t59), (60, t60), (61, t61), (62, (a.env 9)), (63, (a.env 1)), (64, t64), (65, t65)]), a.defers⟩)))
def f275_l4 (X : Caller) (L : Looper) (a : AAct) (K : ActPost) (h : AHeap) : Prop :=
 rdK ((fun h : AHeap => binC P .lss 3 3 (a.env 10) (.int .i64 5) h) ((h.bump 2))) ((h.bump 2)) fun t16 h =>
 condK t16
 (L (f275_l9 X L) ⟨(upds a.env [(15, (a.env 10)), (16, t16)]), a.defers⟩ (blkX 2 (seqX (fun a h => f275_j8 X L K h a) (blkX 1 (seqX (fun a h => f275_j7 X L K h a) K)))) h)
 (K (.exit 0) ⟨(upds a.env [(15, (a.env 10)), (16, t16)]), a.defers⟩ h)
def f275_j2 (X : Caller) (L : Looper) (K : Value → AHeap → Prop) (h : AHeap) (a : AAct) : Prop :=
 leaveA P X Tryz.f275 ⟨(upds a.env [(8, (.bool false))]), a.defers⟩ K a.defers ((h.bump 1))
/-- slices.partialInsertionSortCmpFunc[cubbyhole/api.Timed] -/
def f275 (X : Caller) (L : Looper) (K : Value → AHeap → Prop) (h : AHeap) (t0 t1 t2 t3 : Value) : Prop :=
 rdK ((fun h : AHeap => binC P .add 3 3 t1 (.int .i64 1) h) (((h.bump 1).bump 3))) (((h.bump 1).bump 3)) fun t14 h =>
 L (f275_l4 X L) ⟨(upds (argsEnv [t0, t1, t2, t3]) [(8, (.bool false)), (13, t1), (14, t14), (9, t14), (10, (.int .i64 0))]), []⟩ (blkX 0 (seqX (fun a h => f275_j2 X L K h a) (finX P X Tryz.f275 K))) ((h.bump 1))
theorem f275_eq (X : Caller) (L : Looper) (K : Value → AHeap → Prop) (h : AHeap) (t0 t1 t2 t3 : Value) : aJob P X L (.call 275 [t0, t1, t2, t3]) K h = f275 X L K h t0 t1 t2 t3 := by kernel_rfl
def f276_l6 (X : Caller) (L : Looper) (a : AAct) (K : ActPost) (h : AHeap) : Prop :=
 rdK ((fun h : AHeap => binV P .leq 3 3 (a.env 11) (a.env 12) h) ((h.bump 17))) ((h.bump 17)) fun t33 h =>
 gopK (wantV t33 true) h (some ((a.env 4), h)) fun t35 h =>
 gopK (wantV t33 true) h (some ((a.env 0), h)) fun t36 h =>
 gopK (wantV t33 true) h (some ((a.env 1), h)) fun t37 h =>
 gopK (wantV t33 true) h ((ixS 3 t36 t37).map (·, h)) fun t38 h =>
 gopK (wantV t33 true) h ((ldN 3 t38 h).map (·, h)) fun t39 h =>
 gopK (wantV t33 true) h (some ((a.env 0), h)) fun t40 h =>
 gopK (wantV t33 true) h (some ((a.env 11), h)) fun t41 h =>
 gopK (wantV t33 true) h ((ixS 3 t40 t41).map (·, h)) fun t42 h =>
 gopK (wantV t33 true) h ((ldN 3 t42 h).map (·, h)) fun t43 h =>
 gcallvK (wantV t33 true) X t35 [t39, t43] h fun t44 h =>
 gopK (wantV t33 true) h ((binC P .lss 3 3 t44 (.int .i64 0) h).map (·, h)) fun t45 h =>
 gopK (wantV t33 true) h ((unV P .not 4 t45).map (·, h)) fun t46 h =>
 opK (pickV t33 t46 (.bool false) h) fun t47 h =>
 condK t47
 (rdK ((fun h : AHeap => binC P .add 3 3 (a.env 11) (.int .i64 1) h) ((h.bump 3))) ((h.bump 3)) fun t49 h =>
 K .normal ⟨(upds a.env [(31, (a.env 11)), (32, (a.env 12)), (33, t33), (34, t33), (35, t35), (36, t36), (37, t37), (38, t38), (39, t39), (40, t40), (41, t41), (42, t42), (43, t43), (44, t44), (45, t45), (46, t46), (47, t47), (48, (a.env 11)), (49, t49), (11, t49)]), a.defers⟩ h)
 (K (.exit 2) ⟨(upds a.env [(31, (a.env 11)), (32, (a.env 12)), (33, t33), (34, t33), (35, t35), (36, t36), (37, t37), (38, t38), (39, t39), (40, t40), (41, t41), (42, t42), (43, t43), (44, t44), (45, t45), (46, t46), (47, t47)]), a.defers⟩ h)
def f276_l10 (X : Caller) (L : Looper) (a : AAct) (K : ActPost) (h : AHeap) : Prop :=
 rdK ((fun h : AHeap => binV P .leq 3 3 (a.env 11) (a.env 12) h) ((h.bump 16))) ((h.bump 16)) fun t52 h =>
 gopK (wantV t52 true) h (some ((a.env 4), h)) fun t54 h =>
 gopK (wantV t52 true) h (some ((a.env 0), h)) fun t55 h =>
 gopK (wantV t52 true) h (some ((a.env 1), h)) fun t56 h =>
 gopK (wantV t52 true) h ((ixS 3 t55 t56).map (·, h)) fun t57 h =>
 gopK (wantV t52 true) h ((ldN 3 t57 h).map (·, h)) fun t58 h =>
 gopK (wantV t52 true) h (some ((a.env 0), h)) fun t59 h =>
 gopK (wantV t52 true) h (some ((a.env 12), h)) fun t60 h =>
 gopK (wantV t52 true) h ((ixS 3 t59 t60).map (·, h)) fun t61 h =>
 gopK (wantV t52 true) h ((ldN 3 t61 h).map (·, h)) fun t62 h =>
 gcallvK (wantV t52 true) X t54 [t58, t62] h fun t63 h =>
 gopK (wantV t52 true) h ((binC P .lss 3 3 t63 (.int .i64 0) h).map (·, h)) fun t64 h =>
 opK (pickV t52 t64 (.bool false) h) fun t65 h =>
 condK t65
 (rdK ((fun h : AHeap => binC P .sub 3 3 (a.env 12) (.int .i64 1) h) ((h.bump 3))) ((h.bump 3)) fun t67 h =>
 K .normal ⟨(upds a.env [(50, (a.env 11)), (51, (a.env 12)), (52, t52), (53, t52), (54, t54), (55, t55), (56, t56), (57, t57), (58, t58), (59, t59), (60, t60), (61, t61), (62, t62), (63, t63), (64, t64), (65, t65), (66, (a.env 12)), (67, t67), (12, t67)]), a.defers⟩ h)
 (K (.exit 4) ⟨(upds a.env [(50, (a.env 11)), (51, (a.env 12)), (52, t52), (53, t52), (54, t54), (55, t55), (56, t56), (57, t57), (58, t58), (59, t59), (60, t60), (61, t61), (62, t62), (63, t63), (64, t64), (65, t65)]), a.defers⟩ h)
def f276_j9 (X : Caller) (L : Looper) (K : ActPost) (h : AHeap) (a : AAct) : Prop :=
 rdK ((fun h : AHeap => binV P .gtr 3 3 (a.env 11) (a.env 12) h) ((h.bump 3))) ((h.bump 3)) fun t70 h =>
 condK t70
 (K (.exit 0) ⟨(upds a.env [(68, (a.env 11)), (69, (a.env 12)), (70, t70)]), a.defers⟩ h)
 (rdK ((fun h : AHeap => ixS 3 (a.env 0) (a.env 12)) ((h.bump 16))) ((h.bump 16)) fun t77 h =>
 rdK (ldN 3 t77 h) h fun t78 h =>
 rdK (ixS 3 (a.env 0) (a.env 11)) h fun t81 h =>
 rdK (ldN 3 t81 h) h fun t82 h =>
 rdK (ixS 3 (a.env 0) (a.env 11)) h fun t83 h =>
 stK (stV 3 t83 t78 h) fun h =>
 rdK (ixS 3 (a.env 0) (a.env 12)) h fun t84 h =>
 stK (stV 3 t84 t82 h) fun h =>
 rdK ((fun h : AHeap => binC P .add 3 3 (a.env 11) (.int .i64 1) h) ((h.bump 3))) ((h.bump 3)) fun t86 h =>
 rdK ((fun h : AHeap => binC P .sub 3 3 (a.env 12) (.int .i64 1) h) ((h.bump 3))) ((h.bump 3)) fun t88 h =>
 K .normal ⟨(upds a.env [(68, (a.env 11)), (69, (a.env 12)), (70, t70), (71, (a.env 0)), (72, (a.env 11)), (73, (a.env 0)), (74, (a.env 12)), (75, (a.env 0)), (76, (a.env 12)), (77, t77), (78, t78), (79, (a.env 0)), (80, (a.env 11)), (81, t81), (82, t82), (83, t83), (84, t84), (85, (a.env 11)), (86, t86), (11, t86), (87, (a.env 12)), (88, t88), (12, t88)]), a.defers⟩ h)
def f276_j5 (X : Caller) (L : Looper) (K : ActPost) (h : AHeap) (a : AAct) : Prop :=
 L (f276_l10 X L) ⟨a.env, a.defers⟩ (blkX 4 (seqX (fun a h => f276_j9 X L K h a) (blkX 1 K))) h
def f276_l4 (X : Caller) (L : Looper) (a : AAct) (K : ActPost) (h : AHeap) : Prop :=
 L (f276_l6 X L) ⟨a.env, a.defers⟩ (blkX 2 (seqX (fun a h => f276_j5 X L K h a) (blkX 1 K))) h
def f276_j3 (X : Caller) (L : Looper) (K : Value → AHeap → Prop) (h : AHeap) (a : AAct) : Prop :=
 leaveA P X Tryz.f276 ⟨(upds a.env [(89, (a.env 11)), (10, (a.env 11))]), a.defers⟩ K a.defers ((h.bump 2))
/-- slices.partitionEqualCmpFunc[cubbyhole/api.Timed] -/
def f276 (X : Caller) (L : Looper) (K : Value → AHeap → Prop) (h : AHeap) (t0 t1 t2 t3 t4 : Value) : Prop :=
 rdK ((fun h : AHeap => ixS 3 t0 t3) (((h.bump 1).bump 16))) (((h.bump 1).bump 16)) fun t19 h =>
 rdK (ldN 3 t19 h) h fun t20 h =>
 rdK (ixS 3 t0 t1) h fun t23 h =>
 rdK (ldN 3 t23 h) h fun t24 h =>
 rdK (ixS 3 t0 t1) h fun t25 h =>
 stK (stV 3 t25 t20 h) fun h =>
 rdK (ixS 3 t0 t3) h fun t26 h =>
 stK (stV 3 t26 t24 h) fun h =>
 rdK ((fun h : AHeap => binC P .add 3 3 t1 (.int .i64 1) h) ((h.bump 6))) ((h.bump 6)) fun t28 h =>
 rdK (binC P .sub 3 3 t2 (.int .i64 1) h) h fun t30 h =>
 L (f276_l4 X L) ⟨(upds (argsEnv [t0, t1, t2, t3, t4]) [(10, (.int .i64 0)), (13, t0), (14, t1), (15, t0), (16, t3), (17, t0), (18, t3), (19, t19), (20, t20), (21, t0), (22, t1), (23, t23), (24, t24), (25, t25), (26, t26), (27, t1), (28, t28), (29, t2), (30, t30), (11, t28), (12, t30)]), []⟩ (blkX 0 (seqX (fun a h => f276_j3 X L K h a) (finX P X Tryz.f276 K))) h
theorem f276_eq (X : Caller) (L : Looper) (K : Value → AHeap → Prop) (h : AHeap) (t0 t1 t2 t3 t4 : Value) : aJob P X L (.call 276 [t0, t1, t2, t3, t4]) K h = f276 X L K h t0 t1 t2 t3 t4 := by kernel_rfl
def f277_l4 (X : Caller) (L : Looper) (a : AAct) (K : ActPost) (h : AHeap) : Prop :=
 rdK ((fun h : AHeap => binV P .leq 3 3 (a.env 12) (a.env 13) h) ((h.bump 16))) ((h.bump 16)) fun t34 h =>
 gopK (wantV t34 true) h (some ((a.env 4), h)) fun t36 h =>
 gopK (wantV t34 true) h (some ((a.env 0), h)) fun t37 h =>
 gopK (wantV t34 true) h (some ((a.env 12), h)) fun t38 h =>
 gopK (wantV t34 true) h ((ixS 3 t37 t38).map (·, h)) fun t39 h =>
 gopK (wantV t34 true) h ((ldN 3 t39 h).map (·, h)) fun t40 h =>
 gopK (wantV t34 true) h (some ((a.env 0), h)) fun t41 h =>
 gopK (wantV t34 true) h (some ((a.env 1), h)) fun t42 h =>
 gopK (wantV t34 true) h ((ixS 3 t41 t42).map (·, h)) fun t43 h =>
 gopK (wantV t34 true) h ((ldN 3 t43 h).map (·, h)) fun t44 h =>
 gcallvK (wantV t34 true) X t36 [t40, t44] h fun t45 h =>
 gopK (wantV t34 true) h ((binC P .lss 3 3 t45 (.int .i64 0) h).map (·, h)) fun t46 h =>
 opK (pickV t34 t46 (.bool false) h) fun t47 h =>
 condK t47
 (rdK ((fun h : AHeap => binC P .add 3 3 (a.env 12) (.int .i64 1) h) ((h.bump 3))) ((h.bump 3)) fun t49 h =>
 K .normal ⟨(upds a.env [(32, (a.env 12)), (33, (a.env 13)), (34, t34), (35, t34), (36, t36), (37, t37), (38, t38), (39, t39), (40, t40), (41, t41), (42, t42), (43, t43), (44, t44), (45, t45), (46, t46), (47, t47), (48, (a.env 12)), (49, t49), (12, t49)]), a.defers⟩ h)
 (K (.exit 0) ⟨(upds a.env [(32, (a.env 12)), (33, (a.env 13)), (34, t34), (35, t34), (36, t36), (37, t37), (38, t38), (39, t39), (40, t40), (41, t41), (42, t42), (43, t43), (44, t44), (45, t45), (46, t46), (47, t47)]), a.defers⟩ h)
def f277_l8 (X : Caller) (L : Looper) (a : AAct) (K : ActPost) (h : AHeap) : Prop :=
 rdK ((fun h : AHeap => binV P .leq 3 3 (a.env 12) (a.env 13) h) ((h.bump 17))) ((h.bump 17)) fun t52 h =>
 gopK (wantV t52 true) h (some ((a.env 4), h)) fun t54 h =>
 gopK (wantV t52 true) h (some ((a.env 0), h)) fun t55 h =>
 gopK (wantV t52 true) h (some ((a.env 13), h)) fun t56 h =>
 gopK (wantV t52 true) h ((ixS 3 t55 t56).map (·, h)) fun t57 h =>
 gopK (wantV t52 true) h ((ldN 3 t57 h).map (·, h)) fun t58 h =>
 gopK (wantV t52 true) h (some ((a.env 0), h)) fun t59 h =>
 gopK (wantV t52 true) h (some ((a.env 1), h)) fun t60 h =>
 gopK (wantV t52 true) h ((ixS 3 t59 t60).map (·, h)) fun t61 h =>
 gopK (wantV t52 true) h ((ldN 3 t61 h).map (·, h)) fun t62 h =>
 gcallvK (wantV t52 true) X t54 [t58, t62] h fun t63 h =>
 gopK (wantV t52 true) h ((binC P .lss 3 3 t63 (.int .i64 0) h).map (·, h)) fun t64 h =>
 gopK (wantV t52 true) h ((unV P .not 4 t64).map (·, h)) fun t65 h =>
 opK (pickV t52 t65 (.bool false) h) fun t66 h =>
 condK t66
 (rdK ((fun h : AHeap => binC P .sub 3 3 (a.env 13) (.int .i64 1) h) ((h.bump 3))) ((h.bump 3)) fun t68 h =>
 K .normal ⟨(upds a.env [(50, (a.env 12)), (51, (a.env 13)), (52, t52), (53, t52), (54, t54), (55, t55), (56, t56), (57, t57), (58, t58), (59, t59), (60, t60), (61, t61), (62, t62), (63, t63), (64, t64), (65, t65), (66, t66), (67, (a.env 13)), (68, t68), (13, t68)]), a.defers⟩ h)
 (K (.exit 2) ⟨(upds a.env [(50, (a.env 12)), (51, (a.env 13)), (52, t52), (53, t52), (54, t54), (55, t55), (56, t56), (57, t57), (58, t58), (59, t59), (60, t60), (61, t61), (62, t62), (63, t63), (64, t64), (65, t65), (66, t66)]), a.defers⟩ h)
def f277_l21 (X : Caller) (L : Looper) (a : AAct) (K : ActPost) (h : AHeap) : Prop :=
 rdK ((fun h : AHeap => binV P .leq 3 3 (a.env 12) (a.env 13) h) ((h.bump 16))) ((h.bump 16)) fun t107 h =>
 gopK (wantV t107 true) h (some ((a.env 4), h)) fun t109 h =>
 gopK (wantV t107 true) h (some ((a.env 0), h)) fun t110 h =>
 gopK (wantV t107 true) h (some ((a.env 12), h)) fun t111 h =>
 gopK (wantV t107 true) h ((ixS 3 t110 t111).map (·, h)) fun t112 h =>
 gopK (wantV t107 true) h ((ldN 3 t112 h).map (·, h)) fun t113 h =>
 gopK (wantV t107 true) h (some ((a.env 0), h)) fun t114 h =>
 gopK (wantV t107 true) h (some ((a.env 1), h)) fun t115 h =>
 gopK (wantV t107 true) h ((ixS 3 t114 t115).map (·, h)) fun t116 h =>
 gopK (wantV t107 true) h ((ldN 3 t116 h).map (·, h)) fun t117 h =>
 gcallvK (wantV t107 true) X t109 [t113, t117] h fun t118 h =>
 gopK (wantV t107 true) h ((binC P .lss 3 3 t118 (.int .i64 0) h).map (·, h)) fun t119 h =>
 opK (pickV t107 t119 (.bool false) h) fun t120 h =>
 condK t120
 (rdK ((fun h : AHeap => binC P .add 3 3 (a.env 12) (.int .i64 1) h) ((h.bump 3))) ((h.bump 3)) fun t122 h =>
 K .normal ⟨(upds a.env [(105, (a.env 12)), (106, (a.env 13)), (107, t107), (108, t107), (109, t109), (110, t110), (111, t111), (112, t112), (113, t113), (114, t114), (115, t115), (116, t116), (117, t117), (118, t118), (119, t119), (120, t120), (121, (a.env 12)), (122, t122), (12, t122)]), a.defers⟩ h)
 (K (.exit 6) ⟨(upds a.env [(105, (a.env 12)), (106, (a.env 13)), (107, t107), (108, t107), (109, t109), (110, t110), (111, t111), (112, t112), (113, t113), (114, t114), (115, t115), (116, t116), (117, t117), (118, t118), (119, t119), (120, t120)]), a.defers⟩ h)
def f277_l25 (X : Caller) (L : Looper) (a : AAct) (K : ActPost) (h : AHeap) : Prop :=
 rdK ((fun h : AHeap => binV P .leq 3 3 (a.env 12) (a.env 13) h) ((h.bump 17))) ((h.bump 17)) fun t125 h =>
 gopK (wantV t125 true) h (some ((a.env 4), h)) fun t127 h =>
 gopK (wantV t125 true) h (some ((a.env 0), h)) fun t128 h =>
 gopK (wantV t125 true) h (some ((a.env 13), h)) fun t129 h =>
 gopK (wantV t125 true) h ((ixS 3 t128 t129).map (·, h)) fun t130 h =>
 gopK (wantV t125 true) h ((ldN 3 t130 h).map (·, h)) fun t131 h =>
 gopK (wantV t125 true) h (some ((a.env 0), h)) fun t132 h =>
 gopK (wantV t125 true) h (some ((a.env 1), h)) fun t133 h =>
 gopK (wantV t125 true) h ((ixS 3 t132 t133).map (·, h)) fun t134 h =>
 gopK (wantV t125 true) h ((ldN 3 t134 h).map (·, h)) fun t135 h =>
 gcallvK (wantV t125 true) X t127 [t131, t135] h fun t136 h =>
 gopK (wantV t125 true) h ((binC P .lss 3 3 t136 (.int .i64 0) h).map (·, h)) fun t137 h =>
 gopK (wantV t125 true) h ((unV P .not 4 t137).map (·, h)) fun t138 h =>
 opK (pickV t125 t138 (.bool false) h) fun t139 h =>
 condK t139
 (rdK ((fun h : AHeap => binC P .sub 3 3 (a.env 13) (.int .i64 1) h) ((h.bump 3))) ((h.bump 3)) fun t141 h =>
 K .normal ⟨(upds a.env [(123, (a.env 12)), (124, (a.env 13)), (125, t125), (126, t125), (127, t127), (128, t128), (129, t129), (130, t130), (131, t131), (132, t132), (133, t133), (134, t134), (135, t135), (136, t136), (137, t137), (138, t138), (139, t139), (140, (a.env 13)), (141, t141), (13, t141)]), a.defers⟩ h)
 (K (.exit 8) ⟨(upds a.env [(123, (a.env 12)), (124, (a.env 13)), (125, t125), (126, t125), (127, t127), (128, t128), (129, t129), (130, t130), (131, t131), (132, t132), (133, t133), (134, t134), (135, t135), (136, t136), (137, t137), (138, t138), (139, t139)]), a.defers⟩ h)
def f277_j24 (X : Caller) (L : Looper) (K : ActPost) (h : AHeap) (a : AAct) : Prop :=
 rdK ((fun h : AHeap => binV P .gtr 3 3 (a.env 12) (a.env 13) h) ((h.bump 3))) ((h.bump 3)) fun t144 h =>
 condK t144
 (K (.exit 4) ⟨(upds a.env [(142, (a.env 12)), (143, (a.env 13)), (144, t144)]), a.defers⟩ h)
 (rdK ((fun h : AHeap => ixS 3 (a.env 0) (a.env 13)) ((h.bump 16))) ((h.bump 16)) fun t151 h =>
 rdK (ldN 3 t151 h) h fun t152 h =>
 rdK (ixS 3 (a.env 0) (a.env 12)) h fun t155 h =>
 rdK (ldN 3 t155 h) h fun t156 h =>
 rdK (ixS 3 (a.env 0) (a.env 12)) h fun t157 h =>
 stK (stV 3 t157 t152 h) fun h =>
 rdK (ixS 3 (a.env 0) (a.env 13)) h fun t158 h =>
 stK (stV 3 t158 t156 h) fun h =>
 rdK ((fun h : AHeap => binC P .add 3 3 (a.env 12) (.int .i64 1) h) ((h.bump 3))) ((h.bump 3)) fun t160 h =>
 rdK ((fun h : AHeap => binC P .sub 3 3 (a.env 13) (.int .i64 1) h) ((h.bump 3))) ((h.bump 3)) fun t162 h =>
 K .normal ⟨(upds a.env [(142, (a.env 12)), (143, (a.env 13)), (144, t144), (145, (a.env 0)), (146, (a.env 12)), (147, (a.env 0)), (148, (a.env 13)), (149, (a.env 0)), (150, (a.env 13)), (151, t151), (152, t152), (153, (a.env 0)), (154, (a.env 12)), (155, t155), (156, t156), (157, t157), (158, t158), (159, (a.env 12)), (160, t160), (12, t160), (161, (a.env 13)), (162, t162), (13, t162)]), a.defers⟩ h)
def f277_j20 (X : Caller) (L : Looper) (K : ActPost) (h : AHeap) (a : AAct) : Prop :=
 L (f277_l25 X L) ⟨a.env, a.defers⟩ (blkX 8 (seqX (fun a h => f277_j24 X L K h a) (blkX 5 K))) h
def f277_l19 (X : Caller) (L : Looper) (a : AAct) (K : ActPost) (h : AHeap) : Prop :=
 L (f277_l21 X L) ⟨a.env, a.defers⟩ (blkX 6 (seqX (fun a h => f277_j20 X L K h a) (blkX 5 K))) h
def f277_j18 (X : Caller) (L : Looper) (K : Value → AHeap → Prop) (h : AHeap) (a : AAct) : Prop :=
 rdK ((fun h : AHeap => ixS 3 (a.env 0) (a.env 1)) ((h.bump 16))) ((h.bump 16)) fun t169 h =>
 rdK (ldN 3 t169 h) h fun t170 h =>
 rdK (ixS 3 (a.env 0) (a.env 13)) h fun t173 h =>
 rdK (ldN 3 t173 h) h fun t174 h =>
 rdK (ixS 3 (a.env 0) (a.env 13)) h fun t175 h =>
 stK (stV 3 t175 t170 h) fun h =>
 rdK (ixS 3 (a.env 0) (a.env 1)) h fun t176 h =>
 stK (stV 3 t176 t174 h) fun h =>
 leaveA P X Tryz.f277 ⟨(upds a.env [(163, (a.env 0)), (164, (a.env 13)), (165, (a.env 0)), (166, (a.env 1)), (167, (a.env 0)), (168, (a.env 1)), (169, t169), (170, t170), (171, (a.env 0)), (172, (a.env 13)), (173, t173), (174, t174), (175, t175), (176, t176), (177, (a.env 13)), (10, (a.env 13)), (11, (.bool false))]), a.defers⟩ K a.defers ((h.bump 3))
def f277_j7 (X : Caller) (L : Looper) (K : Value → AHeap → Prop) (h : AHeap) (a : AAct) : Prop :=
 rdK ((fun h : AHeap => binV P .gtr 3 3 (a.env 12) (a.env 13) h) ((h.bump 3))) ((h.bump 3)) fun t71 h =>
 condK t71
 (rdK ((fun h : AHeap => ixS 3 (a.env 0) (a.env 1)) ((h.bump 16))) ((h.bump 16)) fun t78 h =>
  rdK (ldN 3 t78 h) h fun t79 h =>
  rdK (ixS 3 (a.env 0) (a.env 13)) h fun t82 h =>
  rdK (ldN 3 t82 h) h fun t83 h =>
  rdK (ixS 3 (a.env 0) (a.env 13)) h fun t84 h =>
  stK (stV 3 t84 t79 h) fun h =>
  rdK (ixS 3 (a.env 0) (a.env 1)) h fun t85 h =>
  stK (stV 3 t85 t83 h) fun h =>
  leaveA P X Tryz.f277 ⟨(upds a.env [(69, (a.env 12)), (70, (a.env 13)), (71, t71), (72, (a.env 0)), (73, (a.env 13)), (74, (a.env 0)), (75, (a.env 1)), (76, (a.env 0)), (77, (a.env 1)), (78, t78), (79, t79), (80, (a.env 0)), (81, (a.env 13)), (82, t82), (83, t83), (84, t84), (85, t85), (86, (a.env 13)), (10, (a.env 13)), (11, (.bool true))]), a.defers⟩ K a.defers ((h.bump 3)))
 (rdK ((fun h : AHeap => ixS 3 (a.env 0) (a.env 13)) ((h.bump 16))) ((h.bump 16)) fun t93 h =>
 rdK (ldN 3 t93 h) h fun t94 h =>
 rdK (ixS 3 (a.env 0) (a.env 12)) h fun t97 h =>
 rdK (ldN 3 t97 h) h fun t98 h =>
 rdK (ixS 3 (a.env 0) (a.env 12)) h fun t99 h =>
 stK (stV 3 t99 t94 h) fun h =>
 rdK (ixS 3 (a.env 0) (a.env 13)) h fun t100 h =>
 stK (stV 3 t100 t98 h) fun h =>
 rdK ((fun h : AHeap => binC P .add 3 3 (a.env 12) (.int .i64 1) h) ((h.bump 3))) ((h.bump 3)) fun t102 h =>
 rdK ((fun h : AHeap => binC P .sub 3 3 (a.env 13) (.int .i64 1) h) ((h.bump 3))) ((h.bump 3)) fun t104 h =>
 L (f277_l19 X L) ⟨(upds a.env [(69, (a.env 12)), (70, (a.env 13)), (71, t71), (87, (a.env 0)), (88, (a.env 12)), (89, (a.env 0)), (90, (a.env 13)), (91, (a.env 0)), (92, (a.env 13)), (93, t93), (94, t94), (95, (a.env 0)), (96, (a.env 12)), (97, t97), (98, t98), (99, t99), (100, t100), (101, (a.env 12)), (102, t102), (12, t102), (103, (a.env 13)), (104, t104), (13, t104)]), a.defers⟩ (blkX 4 (seqX (fun a h => f277_j18 X L K h a) (finX P X Tryz.f277 K))) h)
def f277_j3 (X : Caller) (L : Looper) (K : Value → AHeap → Prop) (h : AHeap) (a : AAct) : Prop :=
 L (f277_l8 X L) ⟨a.env, a.defers⟩ (blkX 2 (seqX (fun a h => f277_j7 X L K h a) (finX P X Tryz.f277 K))) h
/-- slices.partitionCmpFunc[cubbyhole/api.Timed] -/
def f277 (X : Caller) (L : Looper) (K : Value → AHeap → Prop) (h : AHeap) (t0 t1 t2 t3 t4 : Value) : Prop :=
 rdK ((fun h : AHeap => ixS 3 t0 t3) (((h.bump 2).bump 16))) (((h.bump 2).bump 16)) fun t20 h =>
 rdK (ldN 3 t20 h) h fun t21 h =>
 rdK (ixS 3 t0 t1) h fun t24 h =>
 rdK (ldN 3 t24 h) h fun t25 h =>
 rdK (ixS 3 t0 t1) h fun t26 h =>
 stK (stV 3 t26 t21 h) fun h =>
 rdK (ixS 3 t0 t3) h fun t27 h =>
 stK (stV 3 t27 t25 h) fun h =>
 rdK ((fun h : AHeap => binC P .add 3 3 t1 (.int .i64 1) h) ((h.bump 6))) ((h.bump 6)) fun t29 h =>
 rdK (binC P .sub 3 3 t2 (.int .i64 1) h) h fun t31 h =>
 L (f277_l4 X L) ⟨(upds (argsEnv [t0, t1, t2, t3, t4]) [(10, (.int .i64 0)), (11, (.bool false)), (14, t0), (15, t1), (16, t0), (17, t3), (18, t0), (19, t3), (20, t20), (21, t21), (22, t0), (23, t1), (24, t24), (25, t25), (26, t26), (27, t27), (28, t1), (29, t29), (30, t2), (31, t31), (12, t29), (13, t31)]), []⟩ (blkX 0 (seqX (fun a h => f277_j3 X L K h a) (finX P X Tryz.f277 K))) h
theorem f277_eq (X : Caller) (L : Looper) (K : Value → AHeap → Prop) (h : AHeap) (t0 t1 t2 t3 t4 : Value) : aJob P X L (.call 277 [t0, t1, t2, t3, t4]) K h = f277 X L K h t0 t1 t2 t3 t4 := by kernel_rfl
def f278_j4 (X : Caller) (L : Looper) (K : Value → AHeap → Prop) (h : AHeap) (t2 t0 t14 t15 t16 t13 t17 t18 : Value) : Prop :=
 regK 7 h fun b h =>
 opK (convertA P 90 5 t0 (b + 2) h) fun t15_1 h =>
 rdK (indexA P 9 (.string ⟨#[0, 1, 2, 2, 3, 3, 3, 3, 4, 4, 4, 4, 4, 4, 4, 4, 5, 5, 5, 5, 5, 5, 5, 5, 5, 5, 5, 5, 5, 5, 5, 5, 6, 6, 6, 6, 6, 6, 6, 6, 6, 6, 6, 6, 6, 6, 6, 6, 6, 6, 6, 6, 6, 6, 6, 6, 6, 6, 6, 6, 6, 6, 6, 6, 7, 7, 7, 7, 7, 7, 7, 7, 7, 7, 7, 7, 7, 7, 7, 7, 7, 7, 7, 7, 7, 7, 7, 7, 7, 7, 7, 7, 7, 7, 7, 7, 7, 7, 7, 7, 7, 7, 7, 7, 7, 7, 7, 7, 7, 7, 7, 7, 7, 7, 7, 7, 7, 7, 7, 7, 7, 7, 7, 7, 7, 7, 7, 7, 8, 8, 8, 8, 8, 8, 8, 8, 8, 8, 8, 8, 8, 8, 8, 8, 8, 8, 8, 8, 8, 8, 8, 8, 8, 8, 8, 8, 8, 8, 8, 8, 8, 8, 8, 8, 8, 8, 8, 8, 8, 8, 8, 8, 8, 8, 8, 8, 8, 8, 8, 8, 8, 8, 8, 8, 8, 8, 8, 8, 8, 8, 8, 8, 8, 8, 8, 8, 8, 8, 8, 8, 8, 8, 8, 8, 8, 8, 8, 8, 8, 8, 8, 8, 8, 8, 8, 8, 8, 8, 8, 8, 8, 8, 8, 8, 8, 8, 8, 8, 8, 8, 8, 8, 8, 8, 8, 8, 8, 8, 8, 8, 8, 8, 8, 8, 8, 8, 8, 8, 8, 8, 8, 8, 8, 8, 8, 8]⟩) t15_1) h fun t16_1 h =>
 opK (convertA P 5 3 t16_1 (b + 4) h) fun t17_1 h =>
 rdK (binV P .add 3 3 t2 t17_1 h) h fun t18_1 h =>
 K t18_1 h
def f278_j1 (X : Caller) (L : Looper) (K : Value → AHeap → Prop) (h : AHeap) (t0 t7 t8 t9 t10 t2 t11 t12 t14 t15 t16 t13 t17 t18 : Value) : Prop :=
 rdK ((fun h : AHeap => binC P .geq 90 90 t0 (.int .u32 256) h) ((h.bump 2))) ((h.bump 2)) fun t8_1 h =>
 condK t8_1
 (rdK ((fun h : AHeap => binC P .shr 90 276 t0 (.int .u64 8) h) ((h.bump 3))) ((h.bump 3)) fun t10_1 h =>
  rdK ((fun h : AHeap => binC P .add 3 3 t2 (.int .i64 8) h) ((h.bump 3))) ((h.bump 3)) fun t12_1 h =>
  f278_j4 X L K h t12_1 t10_1 t14 t15 t16 t13 t17 t18)
 (f278_j4 X L K h t2 t0 t14 t15 t16 t13 t17 t18)
/-- math/bits.Len32 -/
def f278 (X : Caller) (L : Looper) (K : Value → AHeap → Prop) (h : AHeap) (t0 : Value) : Prop :=
 rdK ((fun h : AHeap => binC P .geq 90 90 t0 (.int .u32 65536) h) (((h.bump 1).bump 2))) (((h.bump 1).bump 2)) fun t4 h =>
 condK t4
 (rdK ((fun h : AHeap => binC P .shr 90 276 t0 (.int .u64 16) h) ((h.bump 3))) ((h.bump 3)) fun t6 h =>
  f278_j1 X L K ((h.bump 1)) t6 undef undef undef undef ((.int .i64 16)) undef undef undef undef undef undef undef undef)
 (f278_j1 X L K h t0 undef undef undef undef ((.int .i64 0)) undef undef undef undef undef undef undef undef)
theorem f278_eq (X : Caller) (L : Looper) (K : Value → AHeap → Prop) (h : AHeap) (t0 : Value) : aJob P X L (.call 278 [t0]) K h = f278 X L K h t0 := by kernel_rfl
def f279_l3 (X : Caller) (L : Looper) (a : AAct) (K : ActPost) (h : AHeap) : Prop :=
 rdK ((fun h : AHeap => binV P .lss 3 3 (a.env 8) (a.env 7) h) ((h.bump 1))) ((h.bump 1)) fun t9 h =>
 condK t9
 (rdK ((fun h : AHeap => ixS 2 (a.env 0) (a.env 8)) (((h.bump 2).bump 6))) (((h.bump 2).bump 6)) fun t14 h =>
 rdK (ldN 2 t14 h) h fun t15 h =>
 callV X (a.env 1) [t15] (fun t16 h =>
 condK t16
 (K .ret ⟨(upds a.env [(9, t9), (10, (a.env 8)), (5, (a.env 8)), (11, (a.env 1)), (12, (a.env 0)), (13, (a.env 8)), (14, t14), (15, t15), (16, t16), (17, (a.env 8)), (4, (a.env 8))]), a.defers⟩ ((h.bump 2)))
 (rdK ((fun h : AHeap => binC P .add 3 3 (a.env 8) (.int .i64 1) h) ((h.bump 2))) ((h.bump 2)) fun t18 h =>
 K .normal ⟨(upds a.env [(9, t9), (10, (a.env 8)), (5, (a.env 8)), (11, (a.env 1)), (12, (a.env 0)), (13, (a.env 8)), (14, t14), (15, t15), (16, t16), (18, t18), (8, t18)]), a.defers⟩ h)) h)
 (K (.exit 0) ⟨(upds a.env [(9, t9)]), a.defers⟩ h)
def f279_j1 (X : Caller) (L : Looper) (K : Value → AHeap → Prop) (h : AHeap) (a : AAct) : Prop :=
 leaveA P X Tryz.f279 ⟨(upds a.env [(4, (.int .i64 (-1)))]), a.defers⟩ K a.defers ((h.bump 1))
/-- slices.IndexFunc[[]cubbyhole/api.Weighed,cubbyhole/api.Weighed] -/
def f279 (X : Caller) (L : Looper) (K : Value → AHeap → Prop) (h : AHeap) (t0 t1 : Value) : Prop :=
 regK 3 ((h.bump 1)) fun b h =>
 opK (builtinV P .len [154] [t0] (b + 1) h) fun t7 h =>
 L (f279_l3 X L) ⟨(upds (argsEnv [t0, t1]) [(4, (.int .i64 0)), (6, t0), (7, t7), (8, (.int .i64 0))]), []⟩ (blkX 0 (seqX (fun a h => f279_j1 X L K h a) (finX P X Tryz.f279 K))) h
theorem f279_eq (X : Caller) (L : Looper) (K : Value → AHeap → Prop) (h : AHeap) (t0 t1 : Value) : aJob P X L (.call 279 [t0, t1]) K h = f279 X L K h t0 t1 := by kernel_rfl
/-- (*cubbyhole/links.Links).list -/
def f280 (X : Caller) (L : Looper) (K : Value → AHeap → Prop) (h : AHeap) (t0 t1 : Value) : Prop :=
 X (.call 288 [t0]) (fun t7 h =>
 condK t7
 (K (.int .i64 1) ((h.bump 1)))
 (regK 12 h fun b h =>
  rdK (binC P .lss 3 3 t1 (.int .i64 0) h) h fun t10 h =>
  gopK (wantV t10 false) h (some (t1, h)) fun t12 h =>
  gopK (wantV t10 false) h (some (t0, h)) fun t13 h =>
  gopK (wantV t10 false) h (nilV t13 h) fun t14 h =>
  gopK (wantV t10 false) h ((fAddr 2 t14).map (·, h)) fun t15 h =>
  gopK (wantV t10 false) h ((ld1 t15 h).map (·, h)) fun t16 h =>
  gopK (wantV t10 false) h (builtinV P .len [34] [t16] (b + 8) h) fun t17 h =>
  gopK (wantV t10 false) h ((binV P .geq 3 3 t12 t17 h).map (·, h)) fun t18 h =>
  opK (pickV t10 (.bool true) t18 h) fun t19 h =>
  condK t19
  (K (.int .i64 2) ((h.bump 1)))
  (K (.int .i64 0) ((h.bump 1))))) (((h.bump 1).bump 3))
theorem f280_eq (X : Caller) (L : Looper) (K : Value → AHeap → Prop) (h : AHeap) (t0 t1 : Value) : aJob P X L (.call 280 [t0, t1]) K h = f280 X L K h t0 t1 := by kernel_rfl
/-- slices.Clone[[]cubbyhole/api.Entry,cubbyhole/api.Entry] -/
def f281 (X : Caller) (L : Looper) (K : Value → AHeap → Prop) (h : AHeap) (t0 : Value) : Prop :=
 rdK ((fun h : AHeap => binC P .eql 253 253 t0 (.slice none 0 0) h) (((h.bump 1).bump 2))) (((h.bump 1).bump 2)) fun t4 h =>
 condK t4
 (K (.slice none 0 0) ((h.bump 1)))
 (regK 4 h fun b h =>
 opK (bsliceV P 253 0 [] (b + 0) h) fun t5 h =>
 opK (builtinV P .append [253, 253] [t5, t0] (b + 2) h) fun t7 h =>
 K t7 h)
theorem f281_eq (X : Caller) (L : Looper) (K : Value → AHeap → Prop) (h : AHeap) (t0 : Value) : aJob P X L (.call 281 [t0]) K h = f281 X L K h t0 := by kernel_rfl
def f282_l1 (X : Caller) (L : Looper) (a : AAct) (K : ActPost) (h : AHeap) : Prop :=
 rdK ((fun h : AHeap => binV P .lss 3 3 (a.env 7) (a.env 6) h) ((h.bump 1))) ((h.bump 1)) fun t8 h =>
 condK t8
 (regK 6 h fun b_1 h =>
 rdK (ixS 4 (a.env 5) (a.env 7)) h fun t10 h =>
 rdK (ldN 4 t10 h) h fun t11 h =>
 opK (newV [.string ⟨#[]⟩, .slice none 0 0, .int .u64 0, .int .u64 0] (b_1 + 3) h) fun t4 h =>
 stK (stV 4 t4 t11 h) fun h =>
 regK 12 h fun b_2 h =>
 rdK (fAddr 3 t4) h fun t12 h =>
 rdK (ld1 t12 h) h fun t13 h =>
 rdK (binC P .neq 27 27 t13 (.int .u64 0) h) h fun t14 h =>
 gopK (wantV t14 true) h (some ((a.env 0), h)) fun t16 h =>
 gopK (wantV t14 true) h (some ((a.env 7), h)) fun t17 h =>
 gopK (wantV t14 true) h (convertA P 3 90 t17 (b_2 + 6) h) fun t18 h =>
 gopK (wantV t14 true) h ((ldN 4 t4 h).map (·, h)) fun t19 h =>
 gcallK (wantV t14 true) X (.call 127 [t19]) h fun t20 h =>
 gcallvK (wantV t14 true) X t16 [t18, t20] h fun t21 h =>
 gopK (wantV t14 true) h ((unV P .not 4 t21).map (·, h)) fun t22 h =>
 opK (pickV t14 t22 (.bool false) h) fun t23 h =>
 condK t23
 (K .ret ⟨(upds a.env [(8, t8), (9, (a.env 7)), (10, t10), (11, t11), (4, t4), (3, (a.env 7)), (12, t12), (13, t13), (14, t14), (15, t14), (16, t16), (17, t17), (18, t18), (19, t19), (20, t20), (21, t21), (22, t22), (23, t23)]), a.defers⟩ h)
 (rdK ((fun h : AHeap => binC P .add 3 3 (a.env 7) (.int .i64 1) h) ((h.bump 2))) ((h.bump 2)) fun t24 h =>
 K .normal ⟨(upds a.env [(8, t8), (9, (a.env 7)), (10, t10), (11, t11), (4, t4), (3, (a.env 7)), (12, t12), (13, t13), (14, t14), (15, t14), (16, t16), (17, t17), (18, t18), (19, t19), (20, t20), (21, t21), (22, t22), (23, t23), (24, t24), (7, t24)]), a.defers⟩ h))
 (K (.exit 0) ⟨(upds a.env [(8, t8)]), a.defers⟩ h)
/-- (*cubbyhole/entrylog.Log).All$1 -/
def f282 (X : Caller) (L : Looper) (K : Value → AHeap → Prop) (h : AHeap) (t0 t1 : Value) : Prop :=
 regK 3 h fun b h =>
 rdK (ld1 t1 h) h fun t5 h =>
 opK (builtinV P .len [253] [t5] (b + 1) h) fun t6 h =>
 L (f282_l1 X L) ⟨(upds (argsEnv [t0, t1]) [(5, t5), (6, t6), (7, (.int .i64 0))]), []⟩ (blkX 0 (finX P X Tryz.f282 K)) h
theorem f282_eq (X : Caller) (L : Looper) (K : Value → AHeap → Prop) (h : AHeap) (t0 t1 : Value) : aJob P X L (.call 282 [t0, t1]) K h = f282 X L K h t0 t1 := by kernel_rfl
/-- cmp.isNaN[uint32] -/
def f283 (X : Caller) (L : Looper) (K : Value → AHeap → Prop) (h : AHeap) (t0 : Value) : Prop :=
 rdK ((fun h : AHeap => binV P .neq 90 90 t0 t0 h) (((h.bump 1).bump 4))) (((h.bump 1).bump 4)) fun t5 h =>
 K t5 h
theorem f283_eq (X : Caller) (L : Looper) (K : Value → AHeap → Prop) (h : AHeap) (t0 : Value) : aJob P X L (.call 283 [t0]) K h = f283 X L K h t0 := by kernel_rfl
end Go.Proofs.YtcoofhpdkgkjcaaGreatDoor.F
