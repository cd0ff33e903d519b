/- The functions of the program, as shallow texts (printed by a program of this place). -/
import Derived.Test.YtdlnbmadifgbkaaGreatDoorFW
namespace Go.Proofs.YtdlnbmadifgbkaaGreatDoor.F
set_option linter.unusedVariables false
set_option linter.unusedSimpArgs false
open Go Go.Cub
/-- (*cubbyhole/cascade.Cascade).at -/
def f245 (X : Caller) (L : Looper) (K : Value → AHeap → Prop) (h : AHeap) (t0 t1 t2 : Value) : Prop :=
 X (.call 134 [t0, t1]) (fun t10 h =>
 rdK ((fun h : AHeap => binC P .neq 24 24 t10 (.int .i64 0) h) ((h.bump 3))) ((h.bump 3)) fun t13 h =>
 condK t13
 (K t10 ((h.bump 2)))
 (rdK ((fun h : AHeap => binC P .eql 33 33 t2 (.int .u64 18446744073709551615) h) ((h.bump 3))) ((h.bump 3)) fun t17 h =>
  condK t17
  (K (.int .i64 2) ((h.bump 1)))
  (opK ((fun h : AHeap => nilV t0 h) ((h.bump 7))) fun t21 h =>
   rdK (fAddr 0 t21) h fun t22 h =>
   rdK (ld1 t22 h) h fun t23 h =>
   rdK (binV P .leq 33 33 t2 t23 h) h fun t24 h =>
   condK t24
   (K (.int .i64 3) ((h.bump 1)))
   (K (.int .i64 0) ((h.bump 1)))))) (((h.bump 1).bump 4))
theorem f245_eq (X : Caller) (L : Looper) (K : Value → AHeap → Prop) (h : AHeap) (t0 t1 t2 : Value) : aJob P X L (.call 245 [t0, t1, t2]) K h = f245 X L K h t0 t1 t2 := by kernel_rfl
/-- cubbyhole/growth.limit -/
def f246 (X : Caller) (L : Looper) (K : Value → AHeap → Prop) (h : AHeap) (t0 : Value) : Prop :=
 rdK ((fun h : AHeap => binD P .mul 3 3 (.int .i64 7) t0 h) (((h.bump 1).bump 3))) (((h.bump 1).bump 3)) fun t4 h =>
 K t4 h
theorem f246_eq (X : Caller) (L : Looper) (K : Value → AHeap → Prop) (h : AHeap) (t0 : Value) : aJob P X L (.call 246 [t0]) K h = f246 X L K h t0 := by kernel_rfl
/-- cubbyhole/word.First -/
def f247 (X : Caller) (L : Looper) (K : Value → AHeap → Prop) (h : AHeap) (t0 : Value) : Prop :=
 X (.call 284 [t0]) (fun t4 h =>
 K t4 h) (((h.bump 1).bump 3))
theorem f247_eq (X : Caller) (L : Looper) (K : Value → AHeap → Prop) (h : AHeap) (t0 : Value) : aJob P X L (.call 247 [t0]) K h = f247 X L K h t0 := by kernel_rfl
/-- cubbyhole/control.Free -/
def f248 (X : Caller) (L : Looper) (K : Value → AHeap → Prop) (h : AHeap) (t0 : Value) : Prop :=
 X (.call 165 [t0]) (fun t4 h =>
 X (.call 214 [t0, (.int .u8 254)]) (fun t6 h =>
 rdK (binV P .or 5 5 t4 t6 h) h fun t7 h =>
 K t7 h) h) (((h.bump 1).bump 6))
theorem f248_eq (X : Caller) (L : Looper) (K : Value → AHeap → Prop) (h : AHeap) (t0 : Value) : aJob P X L (.call 248 [t0]) K h = f248 X L K h t0 := by kernel_rfl
/-- cubbyhole/control.Set -/
def f249 (X : Caller) (L : Looper) (K : Value → AHeap → Prop) (h : AHeap) (t0 t1 t2 : Value) : Prop :=
 rdK ((fun h : AHeap => binC P .gtr 5 5 t2 (.int .u8 127) h) (((h.bump 2).bump 10))) (((h.bump 2).bump 10)) fun t10 h =>
 gopK (wantV t10 true) h (some (t2, h)) fun t12 h =>
 gopK (wantV t10 true) h ((binC P .neq 5 5 t12 (.int .u8 128) h).map (·, h)) fun t13 h =>
 opK (pickV t10 t13 (.bool false) h) fun t14 h =>
 gopK (wantV t14 true) h (some (t2, h)) fun t16 h =>
 gopK (wantV t14 true) h ((binC P .neq 5 5 t16 (.int .u8 254) h).map (·, h)) fun t17 h =>
 opK (pickV t14 t17 (.bool false) h) fun t18 h =>
 condK t18
 (K (.tuple #[(.int .u64 0), (.int .i64 2)]) ((h.bump 2)))
 (X (.call 211 [t0, t1]) (fun t21 h =>
 rdK ((fun h : AHeap => binC P .neq 24 24 t21 (.int .i64 0) h) ((h.bump 2))) ((h.bump 2)) fun t23 h =>
 condK t23
 (K (.tuple #[(.int .u64 0), t21]) ((h.bump 3)))
 (X (.call 213 [t0, t1, t2]) (fun t28 h =>
 opK (extV 0 t28 h) fun t29 h =>
 opK (extV 1 t28 h) fun t30 h =>
 K (.tuple #[t29, t30]) h) ((h.bump 8)))) ((h.bump 4)))
theorem f249_eq (X : Caller) (L : Looper) (K : Value → AHeap → Prop) (h : AHeap) (t0 t1 t2 : Value) : aJob P X L (.call 249 [t0, t1, t2]) K h = f249 X L K h t0 t1 t2 := by kernel_rfl
/-- cubbyhole/probe.check -/
def f250 (X : Caller) (L : Looper) (K : Value → AHeap → Prop) (h : AHeap) (t0 t1 : Value) : Prop :=
 X (.call 131 [t0]) (fun t7 h =>
 rdK (unV P .not 4 t7) h fun t8 h =>
 condK t8
 (K (.int .i64 2) ((h.bump 1)))
 (rdK ((fun h : AHeap => binC P .lss 3 3 t1 (.int .i64 0) h) ((h.bump 8))) ((h.bump 8)) fun t11 h =>
  gopK (wantV t11 false) h (some (t1, h)) fun t13 h =>
  gopK (wantV t11 false) h (some (t0, h)) fun t14 h =>
  gopK (wantV t11 false) h ((binV P .geq 3 3 t13 t14 h).map (·, h)) fun t15 h =>
  opK (pickV t11 (.bool true) t15 h) fun t16 h =>
  condK t16
  (K (.int .i64 3) ((h.bump 1)))
  (K (.int .i64 0) ((h.bump 1))))) (((h.bump 1).bump 4))
theorem f250_eq (X : Caller) (L : Looper) (K : Value → AHeap → Prop) (h : AHeap) (t0 t1 : Value) : aJob P X L (.call 250 [t0, t1]) K h = f250 X L K h t0 t1 := by kernel_rfl
def f251_l1 (X : Caller) (L : Looper) (a : AAct) (K : ActPost) (h : AHeap) : Prop :=
 rdK ((fun h : AHeap => binV P .lss 3 3 (a.env 7) (a.env 6) h) ((h.bump 1))) ((h.bump 1)) fun t8 h =>
 condK t8
 (rdK ((fun h : AHeap => ld1 (a.env 2) h) (((h.bump 2).bump 7))) (((h.bump 2).bump 7)) fun t11 h =>
 rdK (ld1 (a.env 3) h) h fun t12 h =>
 X (.call 252 [t11, t12, (a.env 7)]) (fun t14 h =>
 callV X (a.env 0) [t14] (fun t15 h =>
 rdK (unV P .not 4 t15) h fun t16 h =>
 condK t16
 (K .ret ⟨(upds a.env [(8, t8), (9, (a.env 7)), (5, (a.env 7)), (10, (a.env 0)), (11, t11), (12, t12), (13, (a.env 7)), (14, t14), (15, t15), (16, t16)]), a.defers⟩ h)
 (rdK ((fun h : AHeap => binC P .add 3 3 (a.env 7) (.int .i64 1) h) ((h.bump 2))) ((h.bump 2)) fun t17 h =>
 K .normal ⟨(upds a.env [(8, t8), (9, (a.env 7)), (5, (a.env 7)), (10, (a.env 0)), (11, t11), (12, t12), (13, (a.env 7)), (14, t14), (15, t15), (16, t16), (17, t17), (7, t17)]), a.defers⟩ h)) h) h)
 (K (.exit 0) ⟨(upds a.env [(8, t8)]), a.defers⟩ h)
/-- cubbyhole/probe.All$1 -/
def f251 (X : Caller) (L : Looper) (K : Value → AHeap → Prop) (h : AHeap) (t0 t1 t2 t3 : Value) : Prop :=
 rdK ((fun h : AHeap => ld1 t1 h) ((h.bump 2))) ((h.bump 2)) fun t6 h =>
 L (f251_l1 X L) ⟨(upds (argsEnv [t0, t1, t2, t3]) [(6, t6), (7, (.int .i64 0))]), []⟩ (blkX 0 (finX P X Tryz.f251 K)) h
theorem f251_eq (X : Caller) (L : Looper) (K : Value → AHeap → Prop) (h : AHeap) (t0 t1 t2 t3 : Value) : aJob P X L (.call 251 [t0, t1, t2, t3]) K h = f251 X L K h t0 t1 t2 t3 := by kernel_rfl
/-- cubbyhole/probe.at -/
def f252 (X : Caller) (L : Looper) (K : Value → AHeap → Prop) (h : AHeap) (t0 t1 t2 : Value) : Prop :=
 regK 14 ((h.bump 1)) fun b h =>
 rdK (binC P .add 3 3 t2 (.int .i64 1) h) h fun t10 h =>
 rdK (binV P .mul 3 3 t2 t10 h) h fun t11 h =>
 rdK (binC P .quo 3 3 t11 (.int .i64 2) h) h fun t12 h =>
 opK (convertA P 3 27 t12 (b + 6) h) fun t13 h =>
 rdK (binV P .add 27 27 t0 t13 h) h fun t14 h =>
 rdK (binC P .sub 3 3 t1 (.int .i64 1) h) h fun t16 h =>
 opK (convertA P 3 27 t16 (b + 10) h) fun t17 h =>
 rdK (binV P .and 27 27 t14 t17 h) h fun t18 h =>
 opK (convertA P 27 3 t18 (b + 12) h) fun t19 h =>
 K t19 h
theorem f252_eq (X : Caller) (L : Looper) (K : Value → AHeap → Prop) (h : AHeap) (t0 t1 t2 : Value) : aJob P X L (.call 252 [t0, t1, t2]) K h = f252 X L K h t0 t1 t2 := by kernel_rfl
def f253_l1 (X : Caller) (L : Looper) (a : AAct) (K : ActPost) (h : AHeap) : Prop :=
 rdK ((fun h : AHeap => binC P .neq 5 5 (a.env 3) (.int .u8 0) h) ((h.bump 2))) ((h.bump 2)) fun t6 h =>
 condK t6
 (X (.call 247 [(a.env 3)]) (fun t13 h =>
 callV X (a.env 0) [t13] (fun t14 h =>
 rdK (unV P .not 4 t14) h fun t15 h =>
 condK t15
 (K .ret ⟨(upds a.env [(5, (a.env 3)), (6, t6), (11, (a.env 0)), (12, (a.env 3)), (13, t13), (14, t14), (15, t15)]), a.defers⟩ h)
 (rdK ((fun h : AHeap => binC P .sub 5 5 (a.env 3) (.int .u8 1) h) ((h.bump 5))) ((h.bump 5)) fun t9 h =>
 rdK (binV P .and 5 5 (a.env 3) t9 h) h fun t10 h =>
 K .normal ⟨(upds a.env [(5, (a.env 3)), (6, t6), (11, (a.env 0)), (12, (a.env 3)), (13, t13), (14, t14), (15, t15), (7, (a.env 3)), (8, (a.env 3)), (9, t9), (10, t10), (3, t10)]), a.defers⟩ h)) h) ((h.bump 5)))
 (K (.exit 0) ⟨(upds a.env [(5, (a.env 3)), (6, t6)]), a.defers⟩ h)
/-- cubbyhole/word.All$1 -/
def f253 (X : Caller) (L : Looper) (K : Value → AHeap → Prop) (h : AHeap) (t0 t1 : Value) : Prop :=
 rdK ((fun h : AHeap => ld1 t1 h) ((h.bump 2))) ((h.bump 2)) fun t4 h =>
 L (f253_l1 X L) ⟨(upds (argsEnv [t0, t1]) [(4, t4), (3, t4)]), []⟩ (blkX 0 (finX P X Tryz.f253 K)) h
theorem f253_eq (X : Caller) (L : Looper) (K : Value → AHeap → Prop) (h : AHeap) (t0 t1 : Value) : aJob P X L (.call 253 [t0, t1]) K h = f253 X L K h t0 t1 := by kernel_rfl
/-- (*cubbyhole/wheel.Wheel).Bucket -/
def f254 (X : Caller) (L : Looper) (K : Value → AHeap → Prop) (h : AHeap) (t0 t1 : Value) : Prop :=
 X (.call 266 [t0, t1, (.int .i64 0)]) (fun t11 h =>
 rdK ((fun h : AHeap => binC P .neq 24 24 t11 (.int .i64 0) h) ((h.bump 2))) ((h.bump 2)) fun t13 h =>
 condK t13
 (K (.tuple #[(.int .i64 0), t11]) ((h.bump 3)))
 (opK ((fun h : AHeap => nilV t0 h) ((h.bump 11))) fun t17 h =>
 rdK (fAddr 0 t17) h fun t18 h =>
 rdK (ld1 t18 h) h fun t19 h =>
 X (.call 173 [t19, t1]) (fun t21 h =>
 opK (extV 0 t21 h) fun t22 h =>
 opK (extV 1 t21 h) fun t23 h =>
 rdK ((fun h : AHeap => binC P .neq 24 24 t23 (.int .i64 0) h) ((h.bump 2))) ((h.bump 2)) fun t25 h =>
 condK t25
 (K (.tuple #[(.int .i64 0), (.int .i64 9)]) ((h.bump 2)))
 (K (.tuple #[t22, (.int .i64 0)]) ((h.bump 3)))) h)) (((h.bump 2).bump 4))
theorem f254_eq (X : Caller) (L : Looper) (K : Value → AHeap → Prop) (h : AHeap) (t0 t1 : Value) : aJob P X L (.call 254 [t0, t1]) K h = f254 X L K h t0 t1 := by kernel_rfl
/-- (*cubbyhole/wheel.marks).clear -/
def f255 (X : Caller) (L : Looper) (K : Value → AHeap → Prop) (h : AHeap) (t0 t1 : Value) : Prop :=
 rdK ((fun h : AHeap => binC P .quo 3 3 t1 (.int .i64 64) h) ((h.bump 13))) ((h.bump 13)) fun t6 h =>
 opK (nilV t0 h) fun t7 h =>
 rdK (ixR 4 1 t7 t6) h fun t8 h =>
 rdK (ld1 t8 h) h fun t9 h =>
 rdK (binC P .rem 3 3 t1 (.int .i64 64) h) h fun t11 h =>
 rdK (binD P .shl 27 3 (.int .u64 1) t11 h) h fun t12 h =>
 rdK (binV P .andNot 27 27 t9 t12 h) h fun t13 h =>
 opK (nilV t0 h) fun t14 h =>
 rdK (ixR 4 1 t14 t6) h fun t15 h =>
 stK (stV 1 t15 t13 h) fun h =>
 K (.tuple #[]) h
theorem f255_eq (X : Caller) (L : Looper) (K : Value → AHeap → Prop) (h : AHeap) (t0 t1 : Value) : aJob P X L (.call 255 [t0, t1]) K h = f255 X L K h t0 t1 := by kernel_rfl
/-- cubbyhole/control.Valid -/
def f256 (X : Caller) (L : Looper) (K : Value → AHeap → Prop) (h : AHeap) (t0 : Value) : Prop :=
 X (.call 248 [t0]) (fun t4 h =>
 X (.call 212 [t0]) (fun t6 h =>
 rdK (binV P .or 5 5 t4 t6 h) h fun t7 h =>
 rdK (binC P .eql 5 5 t7 (.int .u8 255) h) h fun t8 h =>
 K t8 h) h) (((h.bump 1).bump 7))
theorem f256_eq (X : Caller) (L : Looper) (K : Value → AHeap → Prop) (h : AHeap) (t0 : Value) : aJob P X L (.call 256 [t0]) K h = f256 X L K h t0 := by kernel_rfl
/-- cubbyhole/word.High -/
def f257 (X : Caller) (L : Looper) (K : Value → AHeap → Prop) (h : AHeap) (t0 : Value) : Prop :=
 rdK ((fun h : AHeap => binC P .andNot 27 27 t0 (.int .u64 9187201950435737471) h) (((h.bump 1).bump 4))) (((h.bump 1).bump 4)) fun t4 h =>
 X (.call 258 [t4]) (fun t5 h =>
 K t5 h) h
theorem f257_eq (X : Caller) (L : Looper) (K : Value → AHeap → Prop) (h : AHeap) (t0 : Value) : aJob P X L (.call 257 [t0]) K h = f257 X L K h t0 := by kernel_rfl
/-- cubbyhole/word.gather -/
def f258 (X : Caller) (L : Looper) (K : Value → AHeap → Prop) (h : AHeap) (t0 : Value) : Prop :=
 regK 6 ((h.bump 1)) fun b h =>
 rdK (binC P .shr 27 316 t0 (.int .u64 7) h) h fun t4 h =>
 rdK (binC P .mul 27 27 t4 (.int .u64 72624976668147840) h) h fun t5 h =>
 rdK (binC P .shr 27 316 t5 (.int .u64 56) h) h fun t6 h =>
 opK (convertA P 27 5 t6 (b + 4) h) fun t7 h =>
 K t7 h
theorem f258_eq (X : Caller) (L : Looper) (K : Value → AHeap → Prop) (h : AHeap) (t0 : Value) : aJob P X L (.call 258 [t0]) K h = f258 X L K h t0 := by kernel_rfl
/-- (*cubbyhole/links.Links).node -/
def f259 (X : Caller) (L : Looper) (K : Value → AHeap → Prop) (h : AHeap) (t0 t1 : Value) : Prop :=
 X (.call 285 [t0]) (fun t7 h =>
 condK t7
 (K (.int .i64 1) ((h.bump 1)))
 (regK 8 h fun b h =>
  opK (convertA P 81 3 t1 (b + 1) h) fun t10 h =>
  opK (nilV t0 h) fun t12 h =>
  rdK (fAddr 1 t12) h fun t13 h =>
  rdK (ld1 t13 h) h fun t14 h =>
  rdK (binV P .geq 3 3 t10 t14 h) h fun t15 h =>
  condK t15
  (K (.int .i64 2) ((h.bump 1)))
  (K (.int .i64 0) ((h.bump 1))))) (((h.bump 1).bump 3))
theorem f259_eq (X : Caller) (L : Looper) (K : Value → AHeap → Prop) (h : AHeap) (t0 t1 : Value) : aJob P X L (.call 259 [t0, t1]) K h = f259 X L K h t0 t1 := by kernel_rfl
/-- (*cubbyhole/links.Links).Nodes -/
def f260 (X : Caller) (L : Looper) (K : Value → AHeap → Prop) (h : AHeap) (t0 : Value) : Prop :=
 X (.call 285 [t0]) (fun t4 h =>
 condK t4
 (K (.int .i64 0) ((h.bump 1)))
 (opK ((fun h : AHeap => nilV t0 h) ((h.bump 5))) fun t6 h =>
 rdK (fAddr 1 t6) h fun t7 h =>
 rdK (ld1 t7 h) h fun t8 h =>
 K t8 h)) (((h.bump 1).bump 2))
theorem f260_eq (X : Caller) (L : Looper) (K : Value → AHeap → Prop) (h : AHeap) (t0 : Value) : aJob P X L (.call 260 [t0]) K h = f260 X L K h t0 := by kernel_rfl
def f263_j13 (X : Caller) (L : Looper) (K : Value → AHeap → Prop) (h : AHeap) (t0 t2 t11 t45 t46 t47 t8 : Value) : Prop :=
 X (.call 286 [t0, t2, t11]) (fun t48 h =>
 K (.int .i64 0) ((h.bump 1))) ((h.bump 4))
/-- (*cubbyhole/links.Links).add -/
def f263 (X : Caller) (L : Looper) (K : Value → AHeap → Prop) (h : AHeap) (t0 t1 t2 t3 : Value) : Prop :=
 X (.call 264 [t0, t1]) (fun t14 h =>
 rdK ((fun h : AHeap => binC P .neq 24 24 t14 (.int .i64 0) h) ((h.bump 2))) ((h.bump 2)) fun t16 h =>
 condK t16
 (K t14 ((h.bump 2)))
 (X (.call 259 [t0, t2]) (fun t20 h =>
 rdK ((fun h : AHeap => binC P .neq 24 24 t20 (.int .i64 0) h) ((h.bump 2))) ((h.bump 2)) fun t22 h =>
 condK t22
 (K t20 ((h.bump 2)))
 (opK ((fun h : AHeap => nilV t0 h) ((h.bump 9))) fun t25 h =>
 rdK (fAddr 0 t25) h fun t26 h =>
 rdK (ld1 t26 h) h fun t27 h =>
 rdK (ixS 3 t27 t2) h fun t29 h =>
 rdK (fAddr 2 t29) h fun t30 h =>
 rdK (ld1 t30 h) h fun t31 h =>
 rdK (binC P .neq 81 81 t31 (.int .u32 0) h) h fun t32 h =>
 condK t32
 (K (.int .i64 11) ((h.bump 1)))
 (X (.call 178 [t1, t0]) (fun t35 h =>
 condK t3
 (opK ((fun h : AHeap => nilV t0 h) (((h.bump 1).bump 9))) fun t38 h =>
  rdK (fAddr 0 t38) h fun t39 h =>
  rdK (ld1 t39 h) h fun t40 h =>
  rdK (ixS 3 t40 t35) h fun t42 h =>
  rdK (fAddr 1 t42) h fun t43 h =>
  rdK (ld1 t43 h) h fun t44 h =>
  f263_j13 X L K h t0 t2 t44 undef undef undef ((.int .i64 0)))
 (f263_j13 X L K ((h.bump 1)) t0 t2 t35 undef undef undef ((.int .i64 0)))) ((h.bump 4))))) ((h.bump 4)))) (((h.bump 1).bump 4))
theorem f263_eq (X : Caller) (L : Looper) (K : Value → AHeap → Prop) (h : AHeap) (t0 t1 t2 t3 : Value) : aJob P X L (.call 263 [t0, t1, t2, t3]) K h = f263 X L K h t0 t1 t2 t3 := by kernel_rfl
/-- (*cubbyhole/links.Links).list -/
def f264 (X : Caller) (L : Looper) (K : Value → AHeap → Prop) (h : AHeap) (t0 t1 : Value) : Prop :=
 X (.call 285 [t0]) (fun t7 h =>
 condK t7
 (K (.int .i64 1) ((h.bump 1)))
 (regK 12 h fun b h =>
  rdK (binC P .lss 3 3 t1 (.int .i64 0) h) h fun t10 h =>
  gopK (wantV t10 false) h (some (t1, h)) fun t12 h =>
  gopK (wantV t10 false) h (some (t0, h)) fun t13 h =>
  gopK (wantV t10 false) h (nilV t13 h) fun t14 h =>
  gopK (wantV t10 false) h ((fAddr 2 t14).map (·, h)) fun t15 h =>
  gopK (wantV t10 false) h ((ld1 t15 h).map (·, h)) fun t16 h =>
  gopK (wantV t10 false) h (builtinV P .len [276] [t16] (b + 8) h) fun t17 h =>
  gopK (wantV t10 false) h ((binV P .geq 3 3 t12 t17 h).map (·, h)) fun t18 h =>
  opK (pickV t10 (.bool true) t18 h) fun t19 h =>
  condK t19
  (K (.int .i64 2) ((h.bump 1)))
  (K (.int .i64 0) ((h.bump 1))))) (((h.bump 1).bump 3))
theorem f264_eq (X : Caller) (L : Looper) (K : Value → AHeap → Prop) (h : AHeap) (t0 t1 : Value) : aJob P X L (.call 264 [t0, t1]) K h = f264 X L K h t0 t1 := by kernel_rfl
/-- (*cubbyhole/wheel.Wheel).check -/
def f266 (X : Caller) (L : Looper) (K : Value → AHeap → Prop) (h : AHeap) (t0 t1 t2 : Value) : Prop :=
 rdK ((fun h : AHeap => binC P .eql 230 230 t0 (.pointer none) h) (((h.bump 1).bump 10))) (((h.bump 1).bump 10)) fun t9 h =>
 gopK (wantV t9 false) h (some (t0, h)) fun t11 h =>
 gopK (wantV t9 false) h (nilV t11 h) fun t12 h =>
 gopK (wantV t9 false) h ((fAddr 0 t12).map (·, h)) fun t13 h =>
 gopK (wantV t9 false) h ((ld1 t13 h).map (·, h)) fun t14 h =>
 gopK (wantV t9 false) h ((binC P .eql 215 215 t14 (.pointer none) h).map (·, h)) fun t15 h =>
 opK (pickV t9 (.bool true) t15 h) fun t16 h =>
 condK t16
 (K (.int .i64 1) ((h.bump 1)))
 (rdK ((fun h : AHeap => binC P .geq 81 81 t1 (.int .u32 4194304) h) ((h.bump 11))) ((h.bump 11)) fun t19 h =>
  gopK (wantV t19 false) h (some (t2, h)) fun t21 h =>
  gopK (wantV t19 false) h ((binC P .lss 3 3 t21 (.int .i64 0) h).map (·, h)) fun t22 h =>
  opK (pickV t19 (.bool true) t22 h) fun t23 h =>
  gopK (wantV t23 false) h (some (t2, h)) fun t25 h =>
  gopK (wantV t23 false) h ((binC P .geq 3 3 t25 (.int .i64 256) h).map (·, h)) fun t26 h =>
  opK (pickV t23 (.bool true) t26 h) fun t27 h =>
  condK t27
  (K (.int .i64 2) ((h.bump 1)))
  (K (.int .i64 0) ((h.bump 1))))
theorem f266_eq (X : Caller) (L : Looper) (K : Value → AHeap → Prop) (h : AHeap) (t0 t1 t2 : Value) : aJob P X L (.call 266 [t0, t1, t2]) K h = f266 X L K h t0 t1 t2 := by kernel_rfl
def f267_l4 (X : Caller) (L : Looper) (a : AAct) (K : ActPost) (h : AHeap) : Prop :=
 rdK ((fun h : AHeap => binC P .lss 3 3 (a.env 7) (.int .i64 4) h) ((h.bump 2))) ((h.bump 2)) fun t15 h =>
 condK t15
 (opK ((fun h : AHeap => nilV (a.env 0) h) ((h.bump 8))) fun t20 h =>
 rdK (ixR 4 1 t20 (a.env 7)) h fun t21 h =>
 rdK (ld1 t21 h) h fun t22 h =>
 rdK (binV P .and 27 27 t22 (a.env 6) h) h fun t24 h =>
 rdK ((fun h : AHeap => binC P .neq 27 27 t24 (.int .u64 0) h) ((h.bump 2))) ((h.bump 2)) fun t26 h =>
 condK t26
 (rdK ((fun h : AHeap => binD P .mul 3 3 (.int .i64 64) (a.env 7) h) ((h.bump 7))) ((h.bump 7)) fun t28 h =>
  X (.call 287 [t24]) (fun t30 h =>
  rdK (binV P .add 3 3 t28 t30 h) h fun t31 h =>
  K .ret ⟨(upds a.env [(14, (a.env 7)), (15, t15), (18, (a.env 0)), (19, (a.env 7)), (20, t20), (21, t21), (22, t22), (23, (a.env 6)), (24, t24), (8, t24), (25, t24), (26, t26), (27, (a.env 7)), (28, t28), (29, t24), (30, t30), (31, t31), (4, t31), (5, (.bool true))]), a.defers⟩ h) h)
 (rdK ((fun h : AHeap => binC P .add 3 3 (a.env 7) (.int .i64 1) h) (((h.bump 1).bump 3))) (((h.bump 1).bump 3)) fun t17 h =>
 K .normal ⟨(upds a.env [(14, (a.env 7)), (15, t15), (18, (a.env 0)), (19, (a.env 7)), (20, t20), (21, t21), (22, t22), (23, (a.env 6)), (24, t24), (8, t24), (25, t24), (26, t26), (6, (.int .u64 18446744073709551615)), (16, (a.env 7)), (17, t17), (7, t17)]), a.defers⟩ h))
 (K (.exit 0) ⟨(upds a.env [(14, (a.env 7)), (15, t15)]), a.defers⟩ h)
def f267_j2 (X : Caller) (L : Looper) (K : Value → AHeap → Prop) (h : AHeap) (a : AAct) : Prop :=
 leaveA P X Tryz.f267 ⟨(upds a.env [(4, (.int .i64 0)), (5, (.bool false))]), a.defers⟩ K a.defers ((h.bump 2))
/-- (*cubbyhole/wheel.marks).next -/
def f267 (X : Caller) (L : Looper) (K : Value → AHeap → Prop) (h : AHeap) (t0 t1 : Value) : Prop :=
 rdK ((fun h : AHeap => binC P .rem 3 3 t1 (.int .i64 64) h) (((h.bump 2).bump 4))) (((h.bump 2).bump 4)) fun t10 h =>
 rdK (binD P .shl 27 3 (.int .u64 18446744073709551615) t10 h) h fun t11 h =>
 rdK ((fun h : AHeap => binC P .quo 3 3 t1 (.int .i64 64) h) ((h.bump 3))) ((h.bump 3)) fun t13 h =>
 L (f267_l4 X L) ⟨(upds (argsEnv [t0, t1]) [(4, (.int .i64 0)), (5, (.bool false)), (9, t1), (10, t10), (11, t11), (6, t11), (12, t1), (13, t13), (7, t13)]), []⟩ (blkX 0 (seqX (fun a h => f267_j2 X L K h a) (finX P X Tryz.f267 K))) h
theorem f267_eq (X : Caller) (L : Looper) (K : Value → AHeap → Prop) (h : AHeap) (t0 t1 : Value) : aJob P X L (.call 267 [t0, t1]) K h = f267 X L K h t0 t1 := by kernel_rfl
/-- (*cubbyhole/wheel.Wheel).List -/
def f268 (X : Caller) (L : Looper) (K : Value → AHeap → Prop) (h : AHeap) (t0 t1 : Value) : Prop :=
 X (.call 266 [t0, (.int .u32 0), t1]) (fun t9 h =>
 rdK ((fun h : AHeap => binC P .neq 24 24 t9 (.int .i64 0) h) ((h.bump 2))) ((h.bump 2)) fun t11 h =>
 condK t11
 (K (.tuple #[(.slice none 0 0), t9]) ((h.bump 3)))
 (opK ((fun h : AHeap => nilV t0 h) ((h.bump 9))) fun t14 h =>
 rdK (fAddr 0 t14) h fun t15 h =>
 rdK (ld1 t15 h) h fun t16 h =>
 X (.call 192 [t16, t1]) (fun t18 h =>
 X (.call 288 [t18]) (fun t19 h =>
 K (.tuple #[t19, (.int .i64 0)]) h) h) h)) (((h.bump 2).bump 4))
theorem f268_eq (X : Caller) (L : Looper) (K : Value → AHeap → Prop) (h : AHeap) (t0 t1 : Value) : aJob P X L (.call 268 [t0, t1]) K h = f268 X L K h t0 t1 := by kernel_rfl
def f269_l6 (X : Caller) (L : Looper) (a : AAct) (K : ActPost) (h : AHeap) : Prop :=
 rdK ((fun h : AHeap => binV P .lss 3 3 (a.env 20) (a.env 19) h) ((h.bump 1))) ((h.bump 1)) fun t21 h =>
 condK t21
 (regK 6 ((h.bump 2)) fun b_3 h =>
 opK (convertA P 3 81 (a.env 20) (b_3 + 3) h) fun t26 h =>
 rdK (ixS 1 (a.env 5) (a.env 20)) h fun t27 h =>
 stK (stV 1 t27 t26 h) fun h =>
 rdK ((fun h : AHeap => binC P .add 3 3 (a.env 20) (.int .i64 1) h) ((h.bump 2))) ((h.bump 2)) fun t28 h =>
 K .normal ⟨(upds a.env [(21, t21), (22, (a.env 20)), (6, (a.env 20)), (23, (a.env 5)), (24, (a.env 20)), (25, (a.env 20)), (26, t26), (27, t27), (28, t28), (20, t28)]), a.defers⟩ h)
 (K (.exit 0) ⟨(upds a.env [(21, t21)]), a.defers⟩ h)
def f269_j4 (X : Caller) (L : Looper) (K : Value → AHeap → Prop) (h : AHeap) (a : AAct) : Prop :=
 regK 13 h fun b_4 h =>
 opK (nilV (a.env 0) h) fun t30 h =>
 rdK (fAddr 0 t30) h fun t31 h =>
 rdK (ld1 t31 h) h fun t32 h =>
 rdK (binD P .mul 3 3 (.int .i64 2) (a.env 4) h) h fun t35 h =>
 opK (convertA P 81 3 (a.env 1) (b_4 + 8) h) fun t37 h =>
 rdK (binC P .add 3 3 t37 (.int .i64 1) h) h fun t38 h =>
 opK (builtinV P .max [3, 3] [t35, t38] (b_4 + 10) h) fun t39 h =>
 opK (builtinV P .min [3, 3] [(.int .i64 4194304), t39] (b_4 + 11) h) fun t40 h =>
 X (.call 261 [t32, (a.env 5), t40]) (fun t41 h =>
 leaveA P X Tryz.f269 ⟨(upds a.env [(29, (a.env 0)), (30, t30), (31, t31), (32, t32), (33, (a.env 5)), (34, (a.env 4)), (35, t35), (36, (a.env 1)), (37, t37), (38, t38), (39, t39), (40, t40), (41, t41)]), a.defers⟩ K a.defers h) h
/-- (*cubbyhole/wheel.Wheel).room -/
def f269 (X : Caller) (L : Looper) (K : Value → AHeap → Prop) (h : AHeap) (t0 t1 : Value) : Prop :=
 opK ((fun h : AHeap => nilV t0 h) ((h.bump 6))) fun t8 h =>
 rdK (fAddr 0 t8) h fun t9 h =>
 rdK (ld1 t9 h) h fun t10 h =>
 X (.call 260 [t10]) (fun t11 h =>
 regK 4 h fun b h =>
 opK (convertA P 81 3 t1 (b + 1) h) fun t13 h =>
 rdK (binV P .lss 3 3 t13 t11 h) h fun t15 h =>
 condK t15
 (K (.tuple #[]) h)
 (regK 3 h fun b_1 h =>
 opK (makeSliceA P 143 t11 t11 (b_1 + 1) h) fun t17 h =>
 regK 3 h fun b_2 h =>
 opK (builtinV P .len [143] [t17] (b_2 + 1) h) fun t19 h =>
 L (f269_l6 X L) ⟨(upds (argsEnv [t0, t1]) [(7, t0), (8, t8), (9, t9), (10, t10), (11, t11), (4, t11), (12, t1), (13, t13), (14, t11), (15, t15), (16, t11), (17, t17), (5, t17), (18, t17), (19, t19), (20, (.int .i64 0))]), []⟩ (blkX 0 (seqX (fun a h => f269_j4 X L K h a) (finX P X Tryz.f269 K))) h)) h
theorem f269_eq (X : Caller) (L : Looper) (K : Value → AHeap → Prop) (h : AHeap) (t0 t1 : Value) : aJob P X L (.call 269 [t0, t1]) K h = f269 X L K h t0 t1 := by kernel_rfl
/-- (*cubbyhole/wheel.marks).set -/
def f270 (X : Caller) (L : Looper) (K : Value → AHeap → Prop) (h : AHeap) (t0 t1 : Value) : Prop :=
 rdK ((fun h : AHeap => binC P .quo 3 3 t1 (.int .i64 64) h) ((h.bump 13))) ((h.bump 13)) fun t6 h =>
 opK (nilV t0 h) fun t7 h =>
 rdK (ixR 4 1 t7 t6) h fun t8 h =>
 rdK (ld1 t8 h) h fun t9 h =>
 rdK (binC P .rem 3 3 t1 (.int .i64 64) h) h fun t11 h =>
 rdK (binD P .shl 27 3 (.int .u64 1) t11 h) h fun t12 h =>
 rdK (binV P .or 27 27 t9 t12 h) h fun t13 h =>
 opK (nilV t0 h) fun t14 h =>
 rdK (ixR 4 1 t14 t6) h fun t15 h =>
 stK (stV 1 t15 t13 h) fun h =>
 K (.tuple #[]) h
theorem f270_eq (X : Caller) (L : Looper) (K : Value → AHeap → Prop) (h : AHeap) (t0 t1 : Value) : aJob P X L (.call 270 [t0, t1]) K h = f270 X L K h t0 t1 := by kernel_rfl
def f271_l6 (X : Caller) (L : Looper) (a : AAct) (K : ActPost) (h : AHeap) : Prop :=
 rdK ((fun h : AHeap => binV P .gtr 3 3 (a.env 9) (a.env 1) h) ((h.bump 17))) ((h.bump 17)) fun t20 h =>
 gopK (wantV t20 true) h (some ((a.env 3), h)) fun t22 h =>
 gopK (wantV t20 true) h (some ((a.env 0), h)) fun t23 h =>
 gopK (wantV t20 true) h (some ((a.env 9), h)) fun t24 h =>
 gopK (wantV t20 true) h ((ixS 3 t23 t24).map (·, h)) fun t25 h =>
 gopK (wantV t20 true) h ((ldN 3 t25 h).map (·, h)) fun t26 h =>
 gopK (wantV t20 true) h (some ((a.env 0), h)) fun t27 h =>
 gopK (wantV t20 true) h (some ((a.env 9), h)) fun t28 h =>
 gopK (wantV t20 true) h ((binC P .sub 3 3 t28 (.int .i64 1) h).map (·, h)) fun t29 h =>
 gopK (wantV t20 true) h ((ixS 3 t27 t29).map (·, h)) fun t30 h =>
 gopK (wantV t20 true) h ((ldN 3 t30 h).map (·, h)) fun t31 h =>
 gcallvK (wantV t20 true) X t22 [t26, t31] h fun t32 h =>
 gopK (wantV t20 true) h ((binC P .lss 3 3 t32 (.int .i64 0) h).map (·, h)) fun t33 h =>
 opK (pickV t20 t33 (.bool false) h) fun t34 h =>
 condK t34
 (rdK ((fun h : AHeap => binC P .sub 3 3 (a.env 9) (.int .i64 1) h) ((h.bump 18))) ((h.bump 18)) fun t41 h =>
 rdK (binC P .sub 3 3 (a.env 9) (.int .i64 1) h) h fun t44 h =>
 rdK (ixS 3 (a.env 0) t44) h fun t45 h =>
 rdK (ldN 3 t45 h) h fun t46 h =>
 rdK (ixS 3 (a.env 0) (a.env 9)) h fun t49 h =>
 rdK (ldN 3 t49 h) h fun t50 h =>
 rdK (ixS 3 (a.env 0) (a.env 9)) h fun t51 h =>
 stK (stV 3 t51 t46 h) fun h =>
 rdK (ixS 3 (a.env 0) t41) h fun t52 h =>
 stK (stV 3 t52 t50 h) fun h =>
 rdK ((fun h : AHeap => binC P .sub 3 3 (a.env 9) (.int .i64 1) h) ((h.bump 3))) ((h.bump 3)) fun t36 h =>
 K .normal ⟨(upds a.env [(18, (a.env 9)), (19, (a.env 1)), (20, t20), (21, t20), (22, t22), (23, t23), (24, t24), (25, t25), (26, t26), (27, t27), (28, t28), (29, t29), (30, t30), (31, t31), (32, t32), (33, t33), (34, t34), (37, (a.env 0)), (38, (a.env 9)), (39, (a.env 0)), (40, (a.env 9)), (41, t41), (42, (a.env 0)), (43, (a.env 9)), (44, t44), (45, t45), (46, t46), (47, (a.env 0)), (48, (a.env 9)), (49, t49), (50, t50), (51, t51), (52, t52), (35, (a.env 9)), (36, t36), (9, t36)]), a.defers⟩ h)
 (K (.exit 2) ⟨(upds a.env [(18, (a.env 9)), (19, (a.env 1)), (20, t20), (21, t20), (22, t22), (23, t23), (24, t24), (25, t25), (26, t26), (27, t27), (28, t28), (29, t29), (30, t30), (31, t31), (32, t32), (33, t33), (34, t34)]), a.defers⟩ h)
def f271_j4 (X : Caller) (L : Looper) (K : ActPost) (h : AHeap) (a : AAct) : Prop :=
 rdK ((fun h : AHeap => binC P .add 3 3 (a.env 8) (.int .i64 1) h) ((h.bump 3))) ((h.bump 3)) fun t16 h =>
 K .normal ⟨(upds a.env [(15, (a.env 8)), (16, t16), (8, t16)]), a.defers⟩ h
def f271_l1 (X : Caller) (L : Looper) (a : AAct) (K : ActPost) (h : AHeap) : Prop :=
 rdK ((fun h : AHeap => binV P .lss 3 3 (a.env 8) (a.env 2) h) ((h.bump 3))) ((h.bump 3)) fun t14 h =>
 condK t14
 (L (f271_l6 X L) ⟨(upds a.env [(12, (a.env 8)), (13, (a.env 2)), (14, t14), (17, (a.env 8)), (9, (a.env 8))]), a.defers⟩ (blkX 2 (blkX 1 (seqX (fun a h => f271_j4 X L K h a) K))) ((h.bump 2)))
 (K (.exit 0) ⟨(upds a.env [(12, (a.env 8)), (13, (a.env 2)), (14, t14)]), a.defers⟩ h)
/-- slices.insertionSortCmpFunc[cubbyhole/api.Timed] -/
def f271 (X : Caller) (L : Looper) (K : Value → AHeap → Prop) (h : AHeap) (t0 t1 t2 t3 : Value) : Prop :=
 rdK ((fun h : AHeap => binC P .add 3 3 t1 (.int .i64 1) h) ((h.bump 3))) ((h.bump 3)) fun t11 h =>
 L (f271_l1 X L) ⟨(upds (argsEnv [t0, t1, t2, t3]) [(10, t1), (11, t11), (8, t11)]), []⟩ (blkX 0 (finX P X Tryz.f271 K)) h
theorem f271_eq (X : Caller) (L : Looper) (K : Value → AHeap → Prop) (h : AHeap) (t0 t1 t2 t3 : Value) : aJob P X L (.call 271 [t0, t1, t2, t3]) K h = f271 X L K h t0 t1 t2 t3 := by kernel_rfl
def f280_l3 (X : Caller) (L : Looper) (a : AAct) (K : ActPost) (h : AHeap) : Prop :=
 rdK ((fun h : AHeap => binV P .lss 3 3 (a.env 8) (a.env 7) h) ((h.bump 1))) ((h.bump 1)) fun t9 h =>
 condK t9
 (rdK ((fun h : AHeap => ixS 2 (a.env 0) (a.env 8)) (((h.bump 2).bump 6))) (((h.bump 2).bump 6)) fun t14 h =>
 rdK (ldN 2 t14 h) h fun t15 h =>
 callV X (a.env 1) [t15] (fun t16 h =>
 condK t16
 (K .ret ⟨(upds a.env [(9, t9), (10, (a.env 8)), (5, (a.env 8)), (11, (a.env 1)), (12, (a.env 0)), (13, (a.env 8)), (14, t14), (15, t15), (16, t16), (17, (a.env 8)), (4, (a.env 8))]), a.defers⟩ ((h.bump 2)))
 (rdK ((fun h : AHeap => binC P .add 3 3 (a.env 8) (.int .i64 1) h) ((h.bump 2))) ((h.bump 2)) fun t18 h =>
 K .normal ⟨(upds a.env [(9, t9), (10, (a.env 8)), (5, (a.env 8)), (11, (a.env 1)), (12, (a.env 0)), (13, (a.env 8)), (14, t14), (15, t15), (16, t16), (18, t18), (8, t18)]), a.defers⟩ h)) h)
 (K (.exit 0) ⟨(upds a.env [(9, t9)]), a.defers⟩ h)
def f280_j1 (X : Caller) (L : Looper) (K : Value → AHeap → Prop) (h : AHeap) (a : AAct) : Prop :=
 leaveA P X Tryz.f280 ⟨(upds a.env [(4, (.int .i64 (-1)))]), a.defers⟩ K a.defers ((h.bump 1))
/-- slices.IndexFunc[[]cubbyhole/api.Weighed,cubbyhole/api.Weighed] -/
def f280 (X : Caller) (L : Looper) (K : Value → AHeap → Prop) (h : AHeap) (t0 t1 : Value) : Prop :=
 regK 3 ((h.bump 1)) fun b h =>
 opK (builtinV P .len [178] [t0] (b + 1) h) fun t7 h =>
 L (f280_l3 X L) ⟨(upds (argsEnv [t0, t1]) [(4, (.int .i64 0)), (6, t0), (7, t7), (8, (.int .i64 0))]), []⟩ (blkX 0 (seqX (fun a h => f280_j1 X L K h a) (finX P X Tryz.f280 K))) h
theorem f280_eq (X : Caller) (L : Looper) (K : Value → AHeap → Prop) (h : AHeap) (t0 t1 : Value) : aJob P X L (.call 280 [t0, t1]) K h = f280 X L K h t0 t1 := by kernel_rfl
/-- math/bits.TrailingZeros8 -/
def f284 (X : Caller) (L : Looper) (K : Value → AHeap → Prop) (h : AHeap) (t0 : Value) : Prop :=
 regK 4 ((h.bump 1)) fun b h =>
 rdK (indexA P 9 (.string ⟨#[8, 0, 1, 0, 2, 0, 1, 0, 3, 0, 1, 0, 2, 0, 1, 0, 4, 0, 1, 0, 2, 0, 1, 0, 3, 0, 1, 0, 2, 0, 1, 0, 5, 0, 1, 0, 2, 0, 1, 0, 3, 0, 1, 0, 2, 0, 1, 0, 4, 0, 1, 0, 2, 0, 1, 0, 3, 0, 1, 0, 2, 0, 1, 0, 6, 0, 1, 0, 2, 0, 1, 0, 3, 0, 1, 0, 2, 0, 1, 0, 4, 0, 1, 0, 2, 0, 1, 0, 3, 0, 1, 0, 2, 0, 1, 0, 5, 0, 1, 0, 2, 0, 1, 0, 3, 0, 1, 0, 2, 0, 1, 0, 4, 0, 1, 0, 2, 0, 1, 0, 3, 0, 1, 0, 2, 0, 1, 0, 7, 0, 1, 0, 2, 0, 1, 0, 3, 0, 1, 0, 2, 0, 1, 0, 4, 0, 1, 0, 2, 0, 1, 0, 3, 0, 1, 0, 2, 0, 1, 0, 5, 0, 1, 0, 2, 0, 1, 0, 3, 0, 1, 0, 2, 0, 1, 0, 4, 0, 1, 0, 2, 0, 1, 0, 3, 0, 1, 0, 2, 0, 1, 0, 6, 0, 1, 0, 2, 0, 1, 0, 3, 0, 1, 0, 2, 0, 1, 0, 4, 0, 1, 0, 2, 0, 1, 0, 3, 0, 1, 0, 2, 0, 1, 0, 5, 0, 1, 0, 2, 0, 1, 0, 3, 0, 1, 0, 2, 0, 1, 0, 4, 0, 1, 0, 2, 0, 1, 0, 3, 0, 1, 0, 2, 0, 1, 0]⟩) t0) h fun t4 h =>
 opK (convertA P 5 3 t4 (b + 2) h) fun t5 h =>
 K t5 h
theorem f284_eq (X : Caller) (L : Looper) (K : Value → AHeap → Prop) (h : AHeap) (t0 : Value) : aJob P X L (.call 284 [t0]) K h = f284 X L K h t0 := by kernel_rfl
/-- (*cubbyhole/links.Links).none -/
def f285 (X : Caller) (L : Looper) (K : Value → AHeap → Prop) (h : AHeap) (t0 : Value) : Prop :=
 rdK ((fun h : AHeap => binC P .eql 215 215 t0 (.pointer none) h) (((h.bump 1).bump 10))) (((h.bump 1).bump 10)) fun t4 h =>
 gopK (wantV t4 false) h (some (t0, h)) fun t6 h =>
 gopK (wantV t4 false) h (nilV t6 h) fun t7 h =>
 gopK (wantV t4 false) h ((fAddr 0 t7).map (·, h)) fun t8 h =>
 gopK (wantV t4 false) h ((ld1 t8 h).map (·, h)) fun t9 h =>
 gopK (wantV t4 false) h ((binC P .eql 275 275 t9 (.slice none 0 0) h).map (·, h)) fun t10 h =>
 opK (pickV t4 (.bool true) t10 h) fun t11 h =>
 K t11 h
theorem f285_eq (X : Caller) (L : Looper) (K : Value → AHeap → Prop) (h : AHeap) (t0 : Value) : aJob P X L (.call 285 [t0]) K h = f285 X L K h t0 := by kernel_rfl
/-- (*cubbyhole/links.Links).put -/
def f286 (X : Caller) (L : Looper) (K : Value → AHeap → Prop) (h : AHeap) (t0 t1 t2 : Value) : Prop :=
 opK ((fun h : AHeap => nilV t0 h) ((h.bump 9))) fun t8 h =>
 rdK (fAddr 0 t8) h fun t9 h =>
 rdK (ld1 t9 h) h fun t10 h =>
 rdK (ixS 3 t10 t2) h fun t12 h =>
 rdK (fAddr 0 t12) h fun t13 h =>
 rdK (ld1 t13 h) h fun t14 h =>
 opK ((fun h : AHeap => nilV t0 h) ((h.bump 18))) fun t16 h =>
 rdK (fAddr 0 t16) h fun t17 h =>
 rdK (ld1 t17 h) h fun t18 h =>
 opK (nilV t0 h) fun t23 h =>
 rdK (fAddr 0 t23) h fun t24 h =>
 rdK (ld1 t24 h) h fun t25 h =>
 rdK (ixS 3 t25 t2) h fun t27 h =>
 rdK (fAddr 2 t27) h fun t28 h =>
 rdK (ld1 t28 h) h fun t29 h =>
 rdK (buildA P 282 [(0, t14), (1, t2), (2, t29)]) h fun t30 h =>
 rdK (ixS 3 t18 t1) h fun t31 h =>
 stK (stV 3 t31 t30 h) fun h =>
 opK ((fun h : AHeap => nilV t0 h) ((h.bump 18))) fun t33 h =>
 rdK (fAddr 0 t33) h fun t34 h =>
 rdK (ld1 t34 h) h fun t35 h =>
 opK (nilV t0 h) fun t38 h =>
 rdK (fAddr 0 t38) h fun t39 h =>
 rdK (ld1 t39 h) h fun t40 h =>
 rdK (ixS 3 t35 t14) h fun t44 h =>
 rdK (fAddr 1 t44) h fun t45 h =>
 stK (stV 1 t45 t1 h) fun h =>
 rdK (ixS 3 t40 t2) h fun t46 h =>
 rdK (fAddr 0 t46) h fun t47 h =>
 stK (stV 1 t47 t1 h) fun h =>
 opK ((fun h : AHeap => nilV t0 h) ((h.bump 18))) fun t49 h =>
 rdK (fAddr 2 t49) h fun t50 h =>
 rdK (ld1 t50 h) h fun t51 h =>
 opK (nilV t0 h) fun t53 h =>
 rdK (fAddr 0 t53) h fun t54 h =>
 rdK (ld1 t54 h) h fun t55 h =>
 rdK (ixS 3 t55 t1) h fun t57 h =>
 rdK (fAddr 2 t57) h fun t58 h =>
 rdK (ld1 t58 h) h fun t59 h =>
 rdK (binC P .sub 81 81 t59 (.int .u32 1) h) h fun t60 h =>
 rdK (ixS 1 t51 t60) h fun t61 h =>
 rdK (ld1 t61 h) h fun t62 h =>
 rdK (binC P .add 3 3 t62 (.int .i64 1) h) h fun t63 h =>
 rdK (ixS 1 t51 t60) h fun t64 h =>
 stK (stV 1 t64 t63 h) fun h =>
 K (.tuple #[]) h
theorem f286_eq (X : Caller) (L : Looper) (K : Value → AHeap → Prop) (h : AHeap) (t0 t1 t2 : Value) : aJob P X L (.call 286 [t0, t1, t2]) K h = f286 X L K h t0 t1 t2 := by kernel_rfl
/-- math/bits.TrailingZeros64 -/
def f287 (X : Caller) (L : Looper) (K : Value → AHeap → Prop) (h : AHeap) (t0 : Value) : Prop :=
 rdK ((fun h : AHeap => binC P .eql 27 27 t0 (.int .u64 0) h) (((h.bump 1).bump 2))) (((h.bump 1).bump 2)) fun t4 h =>
 condK t4
 (K (.int .i64 64) ((h.bump 1)))
 (regK 10 h fun b h =>
 rdK (unV P .neg 27 t0) h fun t7 h =>
 rdK (binV P .and 27 27 t0 t7 h) h fun t8 h =>
 rdK (binC P .mul 27 27 t8 (.int .u64 285870213051353865) h) h fun t9 h =>
 rdK (binC P .shr 27 316 t9 (.int .u64 58) h) h fun t10 h =>
 rdK (ixR 64 1 (.pointer (some ⟨0, 0, none⟩)) t10) h fun t11 h =>
 rdK (ld1 t11 h) h fun t12 h =>
 opK (convertA P 5 3 t12 (b + 8) h) fun t13 h =>
 K t13 h)
theorem f287_eq (X : Caller) (L : Looper) (K : Value → AHeap → Prop) (h : AHeap) (t0 : Value) : aJob P X L (.call 287 [t0]) K h = f287 X L K h t0 := by kernel_rfl
/-- slices.Collect[uint32] -/
def f288 (X : Caller) (L : Looper) (K : Value → AHeap → Prop) (h : AHeap) (t0 : Value) : Prop :=
 X (.call 294 [(.slice none 0 0), t0]) (fun t4 h =>
 K t4 h) (((h.bump 1).bump 3))
theorem f288_eq (X : Caller) (L : Looper) (K : Value → AHeap → Prop) (h : AHeap) (t0 : Value) : aJob P X L (.call 288 [t0]) K h = f288 X L K h t0 := by kernel_rfl
def f294_a0 (X : Caller) (L : Looper) (a : AAct) (K : ActPost) (h : AHeap) : Prop :=
 K .normal ⟨(upds a.env [(5, (a.env 7))]), a.defers⟩ ((h.bump 1))
def f294_b0 (X : Caller) (L : Looper) (a : AAct) (K : ActPost) (h : AHeap) : Prop :=
 regK 5 h fun b_1 h =>
 rdK (ld1 (a.env 2) h) h fun t8 h =>
 opK (bsliceV P 143 1 [(0, (a.env 5))] (b_1 + 2) h) fun t10 h =>
 opK (builtinV P .append [143, 143] [t8, t10] (b_1 + 3) h) fun t11 h =>
 stK (stV 1 (a.env 2) t11 h) fun h =>
 K .normal ⟨(upds a.env [(8, t8), (9, (a.env 5)), (10, t10), (11, t11)]), a.defers⟩ h
noncomputable def f294_ca0 : Code := (rangesF Tryz.f294 0).1
noncomputable def f294_cb0 : Code := (rangesF Tryz.f294 0).2
theorem f294_a0_eq (X : Caller) (L : Looper) (a : AAct) (K : ActPost) (h : AHeap) : aCode P X L true f294_ca0 a K h = f294_a0 X L a K h := by kernel_rfl
theorem f294_b0_eq (X : Caller) (L : Looper) (a : AAct) (K : ActPost) (h : AHeap) : aCode P X L true f294_cb0 a K h = f294_b0 X L a K h := by kernel_rfl
def f294_j1 (X : Caller) (L : Looper) (K : Value → AHeap → Prop) (h : AHeap) (a : AAct) : Prop :=
 rdK ((fun h : AHeap => ld1 (a.env 2) h) ((h.bump 2))) ((h.bump 2)) fun t12 h =>
 leaveA P X Tryz.f294 ⟨(upds a.env [(12, t12), (4, t12)]), a.defers⟩ K a.defers h
/-- slices.AppendSeq[[]uint32,uint32] -/
def f294 (X : Caller) (L : Looper) (K : Value → AHeap → Prop) (h : AHeap) (t0 t1 : Value) : Prop :=
 regK 2 h fun b h =>
 opK (boxV t0 (b + 0) h) fun t2 h =>
 rangeK X t1 ⟨(upds (argsEnv [t0, t1]) [(2, t2), (4, (.slice none 0 0)), (6, t1)]), []⟩ [7] f294_ca0 f294_cb0 (blkX 0 (seqX (fun a h => f294_j1 X L K h a) (finX P X Tryz.f294 K))) ((h.bump 1))
theorem f294_eq (X : Caller) (L : Looper) (K : Value → AHeap → Prop) (h : AHeap) (t0 t1 : Value) : aJob P X L (.call 294 [t0, t1]) K h = f294 X L K h t0 t1 := by kernel_rfl
end Go.Proofs.YtdlnbmadifgbkaaGreatDoor.F
