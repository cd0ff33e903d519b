/- The functions of the program, as shallow texts (printed by a program of this place). -/
import Derived.Test.YtcoofhpdkgkjcaaGreatDoorFW
namespace Go.Proofs.YtcoofhpdkgkjcaaGreatDoor.F
set_option linter.unusedVariables false
set_option linter.unusedSimpArgs false
open Go Go.Cub
/-- (*cubbyhole/cascade.Cascade).at -/
def f204 (X : Caller) (L : Looper) (K : Value → AHeap → Prop) (h : AHeap) (t0 t1 t2 : Value) : Prop :=
 X (.call 109 [t0, t1]) (fun t10 h =>
 rdK ((fun h : AHeap => binC P .neq 31 31 t10 (.int .i64 0) h) ((h.bump 3))) ((h.bump 3)) fun t13 h =>
 condK t13
 (K t10 ((h.bump 2)))
 (rdK ((fun h : AHeap => binC P .eql 38 38 t2 (.int .u64 18446744073709551615) h) ((h.bump 3))) ((h.bump 3)) fun t17 h =>
  condK t17
  (K (.int .i64 2) ((h.bump 1)))
  (opK ((fun h : AHeap => nilV t0 h) ((h.bump 7))) fun t21 h =>
   rdK (fAddr 0 t21) h fun t22 h =>
   rdK (ld1 t22 h) h fun t23 h =>
   rdK (binV P .leq 38 38 t2 t23 h) h fun t24 h =>
   condK t24
   (K (.int .i64 3) ((h.bump 1)))
   (K (.int .i64 0) ((h.bump 1)))))) (((h.bump 1).bump 4))
theorem f204_eq (X : Caller) (L : Looper) (K : Value → AHeap → Prop) (h : AHeap) (t0 t1 t2 : Value) : aJob P X L (.call 204 [t0, t1, t2]) K h = f204 X L K h t0 t1 t2 := by kernel_rfl
/-- (*cubbyhole/lru.LRU).Has -/
def f205 (X : Caller) (L : Looper) (K : Value → AHeap → Prop) (h : AHeap) (t0 t1 : Value) : Prop :=
 X (.call 190 [t0, t1]) (fun t9 h =>
 rdK (binC P .neq 31 31 t9 (.int .i64 0) h) h fun t10 h =>
 condK t10
 (K (.bool false) ((h.bump 1)))
 (opK ((fun h : AHeap => nilV t0 h) ((h.bump 11))) fun t13 h =>
 rdK (fAddr 0 t13) h fun t14 h =>
 rdK (ld1 t14 h) h fun t15 h =>
 X (.call 251 [t15, t1]) (fun t17 h =>
 opK (extV 0 t17 h) fun t18 h =>
 opK (extV 1 t17 h) fun t19 h =>
 rdK ((fun h : AHeap => binC P .eql 31 31 t19 (.int .i64 0) h) ((h.bump 3))) ((h.bump 3)) fun t21 h =>
 K t21 h) h)) (((h.bump 1).bump 4))
theorem f205_eq (X : Caller) (L : Looper) (K : Value → AHeap → Prop) (h : AHeap) (t0 t1 : Value) : aJob P X L (.call 205 [t0, t1]) K h = f205 X L K h t0 t1 := by kernel_rfl
/-- (*cubbyhole/lru.LRU).Remove -/
def f206 (X : Caller) (L : Looper) (K : Value → AHeap → Prop) (h : AHeap) (t0 t1 : Value) : Prop :=
 X (.call 190 [t0, t1]) (fun t8 h =>
 rdK ((fun h : AHeap => binC P .neq 31 31 t8 (.int .i64 0) h) ((h.bump 2))) ((h.bump 2)) fun t10 h =>
 condK t10
 (K t8 ((h.bump 2)))
 (X (.call 205 [t0, t1]) (fun t14 h =>
 rdK (unV P .not 4 t14) h fun t15 h =>
 condK t15
 (K (.int .i64 9) ((h.bump 1)))
 (opK ((fun h : AHeap => nilV t0 h) ((h.bump 7))) fun t17 h =>
 rdK (fAddr 0 t17) h fun t18 h =>
 rdK (ld1 t18 h) h fun t19 h =>
 X (.call 248 [t19, t1]) (fun t21 h =>
 K t21 h) h)) ((h.bump 4)))) (((h.bump 1).bump 4))
theorem f206_eq (X : Caller) (L : Looper) (K : Value → AHeap → Prop) (h : AHeap) (t0 t1 : Value) : aJob P X L (.call 206 [t0, t1]) K h = f206 X L K h t0 t1 := by kernel_rfl
/-- (*cubbyhole/segment.Segments).demote$1 -/
def f207 (X : Caller) (L : Looper) (K : Value → AHeap → Prop) (h : AHeap) (t0 : Value) : Prop :=
 rdK ((fun h : AHeap => ld1 t0 h) (((h.bump 1).bump 27))) (((h.bump 1).bump 27)) fun t2 h =>
 opK (nilV t2 h) fun t3 h =>
 rdK (fAddr 0 t3) h fun t4 h =>
 rdK (ixR 2 1 t4 (.int .i64 1)) h fun t5 h =>
 rdK (ld1 t5 h) h fun t6 h =>
 X (.call 208 [t6]) (fun t7 h =>
 rdK (binC P .gtr 3 3 t7 (.int .i64 0) h) h fun t8 h =>
 gopK (wantV t8 true) h ((ld1 t0 h).map (·, h)) fun t10 h =>
 gopK (wantV t8 true) h (nilV t10 h) fun t11 h =>
 gopK (wantV t8 true) h ((fAddr 5 t11).map (·, h)) fun t12 h =>
 gopK (wantV t8 true) h ((ld1 t12 h).map (·, h)) fun t13 h =>
 gopK (wantV t8 true) h ((binC P .eql 3 3 t13 (.int .i64 (-1)) h).map (·, h)) fun t14 h =>
 gopK (wantV t8 true) h (some (t14, h)) fun t15 h =>
 gopK (wantV t15 false) h ((ld1 t0 h).map (·, h)) fun t16 h =>
 gopK (wantV t15 false) h (nilV t16 h) fun t17 h =>
 gopK (wantV t15 false) h ((fAddr 2 t17).map (·, h)) fun t18 h =>
 gopK (wantV t15 false) h ((ixR 2 1 t18 (.int .i64 1)).map (·, h)) fun t19 h =>
 gopK (wantV t15 false) h ((ld1 t19 h).map (·, h)) fun t20 h =>
 gopK (wantV t15 false) h ((ld1 t0 h).map (·, h)) fun t21 h =>
 gopK (wantV t15 false) h (nilV t21 h) fun t22 h =>
 gopK (wantV t15 false) h ((fAddr 5 t22).map (·, h)) fun t23 h =>
 gopK (wantV t15 false) h ((ld1 t23 h).map (·, h)) fun t24 h =>
 gopK (wantV t15 false) h ((binV P .gtr 3 3 t20 t24 h).map (·, h)) fun t25 h =>
 gopK (wantV t8 true) h (pickV t15 (.bool true) t25 h) fun t26 h =>
 opK (pickV t8 t26 (.bool false) h) fun t27 h =>
 K t27 h) h
theorem f207_eq (X : Caller) (L : Looper) (K : Value → AHeap → Prop) (h : AHeap) (t0 : Value) : aJob P X L (.call 207 [t0]) K h = f207 X L K h t0 := by kernel_rfl
/-- (*cubbyhole/lru.LRU).Len -/
def f208 (X : Caller) (L : Looper) (K : Value → AHeap → Prop) (h : AHeap) (t0 : Value) : Prop :=
 X (.call 190 [t0, (.int .u32 0)]) (fun t4 h =>
 rdK (binC P .neq 31 31 t4 (.int .i64 0) h) h fun t5 h =>
 condK t5
 (K (.int .i64 0) ((h.bump 1)))
 (opK ((fun h : AHeap => nilV t0 h) ((h.bump 6))) fun t7 h =>
 rdK (fAddr 0 t7) h fun t8 h =>
 rdK (ld1 t8 h) h fun t9 h =>
 X (.call 249 [t9, (.int .i64 0)]) (fun t10 h =>
 K t10 h) h)) (((h.bump 1).bump 3))
theorem f208_eq (X : Caller) (L : Looper) (K : Value → AHeap → Prop) (h : AHeap) (t0 : Value) : aJob P X L (.call 208 [t0]) K h = f208 X L K h t0 := by kernel_rfl
/-- (*cubbyhole/lru.LRU).Oldest -/
def f209 (X : Caller) (L : Looper) (K : Value → AHeap → Prop) (h : AHeap) (t0 : Value) : Prop :=
 X (.call 252 [t0, (.func (.func 253) #[] #[])]) (fun t5 h =>
 opK (extV 0 t5 h) fun t6 h =>
 opK (extV 1 t5 h) fun t7 h =>
 K (.tuple #[t6, t7]) h) (((h.bump 2).bump 6))
theorem f209_eq (X : Caller) (L : Looper) (K : Value → AHeap → Prop) (h : AHeap) (t0 : Value) : aJob P X L (.call 209 [t0]) K h = f209 X L K h t0 := by kernel_rfl
/-- cubbyhole/growth.check -/
def f210 (X : Caller) (L : Looper) (K : Value → AHeap → Prop) (h : AHeap) (t0 t1 t2 : Value) : Prop :=
 X (.call 167 [t0]) (fun t10 h =>
 rdK (unV P .not 4 t10) h fun t11 h =>
 condK t11
 (K (.int .i64 2) ((h.bump 1)))
 (rdK ((fun h : AHeap => binC P .mul 3 3 t0 (.int .i64 8) h) ((h.bump 3))) ((h.bump 3)) fun t13 h =>
 regK 6 h fun b h =>
 opK (bsliceV P 34 2 [(0, t1), (1, t2)] (b + 3) h) fun t17 h =>
 X (.call 254 [t13, t17]) (fun t18 h =>
 rdK ((fun h : AHeap => binC P .neq 31 31 t18 (.int .i64 0) h) ((h.bump 2))) ((h.bump 2)) fun t20 h =>
 condK t20
 (K t18 ((h.bump 2)))
 (regK 7 h fun b_1 h =>
 rdK (binV P .add 3 3 t1 t2 h) h fun t25 h =>
 opK (bsliceV P 34 1 [(0, t25)] (b_1 + 4) h) fun t26 h =>
 X (.call 254 [t13, t26]) (fun t27 h =>
 K t27 h) h)) h)) (((h.bump 1).bump 3))
theorem f210_eq (X : Caller) (L : Looper) (K : Value → AHeap → Prop) (h : AHeap) (t0 t1 t2 : Value) : aJob P X L (.call 210 [t0, t1, t2]) K h = f210 X L K h t0 t1 t2 := by kernel_rfl
/-- cubbyhole/growth.limit -/
def f211 (X : Caller) (L : Looper) (K : Value → AHeap → Prop) (h : AHeap) (t0 : Value) : Prop :=
 rdK ((fun h : AHeap => binD P .mul 3 3 (.int .i64 7) t0 h) (((h.bump 1).bump 3))) (((h.bump 1).bump 3)) fun t4 h =>
 K t4 h
theorem f211_eq (X : Caller) (L : Looper) (K : Value → AHeap → Prop) (h : AHeap) (t0 : Value) : aJob P X L (.call 211 [t0]) K h = f211 X L K h t0 := by kernel_rfl
def f212_a0 (X : Caller) (L : Looper) (a : AAct) (K : ActPost) (h : AHeap) : Prop :=
 K .normal ⟨(upds a.env [(12, (a.env 48))]), a.defers⟩ ((h.bump 1))
def f212_b0 (X : Caller) (L : Looper) (a : AAct) (K : ActPost) (h : AHeap) : Prop :=
 rdK ((fun h : AHeap => ld1 (a.env 8) h) ((h.bump 12))) ((h.bump 12)) fun t49 h =>
 rdK (ld1 (a.env 5) h) h fun t50 h =>
 rdK (fAddr 1 (a.env 11)) h fun t52 h =>
 rdK (ixR 8 1 t52 (a.env 12)) h fun t53 h =>
 rdK (ld1 t53 h) h fun t54 h =>
 rdK (fAddr 1 (a.env 11)) h fun t57 h =>
 rdK (ixR 8 1 t57 (a.env 12)) h fun t58 h =>
 rdK (ld1 t58 h) h fun t59 h =>
 callV X t50 [t54] (fun t55 h =>
 chkK (chkR ((ld1 t58 h).map (·, h)) t59 (chkR ((ld1 (a.env 8) h).map (·, h)) t49 true)) <|
 X (.call 161 [t49, t55, t59]) (fun t60 h =>
 K .normal ⟨(upds a.env [(49, t49), (50, t50), (51, (a.env 12)), (52, t52), (53, t53), (54, t54), (56, (a.env 12)), (57, t57), (58, t58), (59, t59), (55, t55), (60, t60)]), a.defers⟩ h) h) h
noncomputable def f212_ca0 : Code := (rangesF Tryz.f212 0).1
noncomputable def f212_cb0 : Code := (rangesF Tryz.f212 0).2
theorem f212_a0_eq (X : Caller) (L : Looper) (a : AAct) (K : ActPost) (h : AHeap) : aCode P X L true f212_ca0 a K h = f212_a0 X L a K h := by kernel_rfl
theorem f212_b0_eq (X : Caller) (L : Looper) (a : AAct) (K : ActPost) (h : AHeap) : aCode P X L true f212_cb0 a K h = f212_b0 X L a K h := by kernel_rfl
def f212_j17 (X : Caller) (L : Looper) (K : ActPost) (h : AHeap) (a : AAct) : Prop :=
 rdK ((fun h : AHeap => binC P .add 3 3 (a.env 40) (.int .i64 1) h) ((h.bump 2))) ((h.bump 2)) fun t61 h =>
 K .normal ⟨(upds a.env [(61, t61), (40, t61)]), a.defers⟩ h
def f212_l14 (X : Caller) (L : Looper) (a : AAct) (K : ActPost) (h : AHeap) : Prop :=
 rdK ((fun h : AHeap => binV P .lss 3 3 (a.env 40) (a.env 39) h) ((h.bump 1))) ((h.bump 1)) fun t41 h =>
 condK t41
 (regK 4 h fun b_3 h =>
 rdK (ixS 9 (a.env 38) (a.env 40)) h fun t42 h =>
 rdK (ldN 9 t42 h) h fun t43 h =>
 opK (newV [.int .u64 0, .int .u32 0, .int .u32 0, .int .u32 0, .int .u32 0, .int .u32 0, .int .u32 0, .int .u32 0, .int .u32 0] (b_3 + 2) h) fun t11 h =>
 stK (stV 9 t11 t43 h) fun h =>
 rdK ((fun h : AHeap => fAddr 0 t11) ((h.bump 4))) ((h.bump 4)) fun t44 h =>
 rdK (ld1 t44 h) h fun t45 h =>
 X (.call 255 [t45]) (fun t46 h =>
 X (.call 172 [t46]) (fun t47 h =>
 rangeK X t47 ⟨(upds a.env [(41, t41), (42, t42), (43, t43), (11, t11), (44, t44), (45, t45), (46, t46), (47, t47)]), a.defers⟩ [48] f212_ca0 f212_cb0 (blkX 3 (blkX 2 (seqX (fun a h => f212_j17 X L K h a) K))) h) h) h)
 (K (.exit 1) ⟨(upds a.env [(41, t41)]), a.defers⟩ h)
def f212_j12 (X : Caller) (L : Looper) (K : Value → AHeap → Prop) (h : AHeap) (a : AAct) : Prop :=
 rdK ((fun h : AHeap => ld1 (a.env 8) h) ((h.bump 3))) ((h.bump 3)) fun t62 h =>
 leaveA P X Tryz.f212 ⟨(upds a.env [(62, t62), (6, t62), (7, (.int .i64 0))]), a.defers⟩ K a.defers h
/-- (*cubbyhole/swiss.Index).Rehash -/
def f212 (X : Caller) (L : Looper) (K : Value → AHeap → Prop) (h : AHeap) (t0 t1 t2 : Value) : Prop :=
 regK 3 h fun b h =>
 opK (boxV t2 (b + 0) h) fun t5 h =>
 X (.call 121 [t0]) (fun t14 h =>
 condK t14
 (K (.tuple #[(.pointer none), (.int .i64 1)]) ((h.bump 2)))
 (regK 8 h fun b_1 h =>
 X (.call 114 [t1]) (fun t17 h =>
 opK (extV 0 t17 h) fun t18 h =>
 opK (extV 1 t17 h) fun t19 h =>
 opK (newV [.pointer none] (b_1 + 5) h) fun t8 h =>
 stK (stV 1 t8 t18 h) fun h =>
 rdK ((fun h : AHeap => binC P .neq 31 31 t19 (.int .i64 0) h) ((h.bump 3))) ((h.bump 3)) fun t22 h =>
 condK t22
 (K (.tuple #[(.pointer none), t19]) ((h.bump 3)))
 (rdK ((fun h : AHeap => ld1 t5 h) ((h.bump 3))) ((h.bump 3)) fun t25 h =>
  rdK (binC P .eql 258 258 t25 .nilFunc h) h fun t26 h =>
  condK t26
  (K (.tuple #[(.pointer none), (.int .i64 2)]) ((h.bump 2)))
  (opK ((fun h : AHeap => nilV t0 h) ((h.bump 8))) fun t29 h =>
   rdK (fAddr 1 t29) h fun t30 h =>
   rdK (ld1 t30 h) h fun t31 h =>
   rdK (binC P .mul 3 3 t1 (.int .i64 8) h) h fun t33 h =>
   rdK (binV P .gtr 3 3 t31 t33 h) h fun t34 h =>
   condK t34
   (K (.tuple #[(.pointer none), (.int .i64 7)]) ((h.bump 2)))
   (regK 6 h fun b_2 h =>
 opK (nilV t0 h) fun t36 h =>
 rdK (fAddr 0 t36) h fun t37 h =>
 rdK (ld1 t37 h) h fun t38 h =>
 opK (builtinV P .len [266] [t38] (b_2 + 4) h) fun t39 h =>
 L (f212_l14 X L) ⟨(upds (argsEnv [t0, t1, t2]) [(5, t5), (6, (.pointer none)), (7, (.int .i64 0)), (13, t0), (14, t14), (16, t1), (17, t17), (15, t17), (18, t18), (19, t19), (8, t8), (9, t19), (21, t19), (22, t22), (20, t22), (25, t25), (26, t26), (24, t26), (28, t0), (29, t29), (30, t30), (31, t31), (32, t1), (33, t33), (34, t34), (27, t34), (35, t0), (36, t36), (37, t37), (38, t38), (39, t39), (40, (.int .i64 0))]), []⟩ (blkX 1 (seqX (fun a h => f212_j12 X L K h a) (finX P X Tryz.f212 K))) h)))) h)) ((h.bump 2))
theorem f212_eq (X : Caller) (L : Looper) (K : Value → AHeap → Prop) (h : AHeap) (t0 t1 t2 : Value) : aJob P X L (.call 212 [t0, t1, t2]) K h = f212 X L K h t0 t1 t2 := by kernel_rfl
/-- cubbyhole/word.First -/
def f213 (X : Caller) (L : Looper) (K : Value → AHeap → Prop) (h : AHeap) (t0 : Value) : Prop :=
 X (.call 256 [t0]) (fun t4 h =>
 K t4 h) (((h.bump 1).bump 3))
theorem f213_eq (X : Caller) (L : Looper) (K : Value → AHeap → Prop) (h : AHeap) (t0 : Value) : aJob P X L (.call 213 [t0]) K h = f213 X L K h t0 := by kernel_rfl
/-- cubbyhole/control.Free -/
def f214 (X : Caller) (L : Looper) (K : Value → AHeap → Prop) (h : AHeap) (t0 : Value) : Prop :=
 X (.call 175 [t0]) (fun t4 h =>
 X (.call 224 [t0, (.int .u8 254)]) (fun t6 h =>
 rdK (binV P .or 5 5 t4 t6 h) h fun t7 h =>
 K t7 h) h) (((h.bump 1).bump 6))
theorem f214_eq (X : Caller) (L : Looper) (K : Value → AHeap → Prop) (h : AHeap) (t0 : Value) : aJob P X L (.call 214 [t0]) K h = f214 X L K h t0 := by kernel_rfl
/-- cubbyhole/control.Set -/
def f215 (X : Caller) (L : Looper) (K : Value → AHeap → Prop) (h : AHeap) (t0 t1 t2 : Value) : Prop :=
 rdK ((fun h : AHeap => binC P .gtr 5 5 t2 (.int .u8 127) h) (((h.bump 2).bump 10))) (((h.bump 2).bump 10)) fun t10 h =>
 gopK (wantV t10 true) h (some (t2, h)) fun t12 h =>
 gopK (wantV t10 true) h ((binC P .neq 5 5 t12 (.int .u8 128) h).map (·, h)) fun t13 h =>
 opK (pickV t10 t13 (.bool false) h) fun t14 h =>
 gopK (wantV t14 true) h (some (t2, h)) fun t16 h =>
 gopK (wantV t14 true) h ((binC P .neq 5 5 t16 (.int .u8 254) h).map (·, h)) fun t17 h =>
 opK (pickV t14 t17 (.bool false) h) fun t18 h =>
 condK t18
 (K (.tuple #[(.int .u64 0), (.int .i64 2)]) ((h.bump 2)))
 (X (.call 257 [t0, t1]) (fun t21 h =>
 rdK ((fun h : AHeap => binC P .neq 31 31 t21 (.int .i64 0) h) ((h.bump 2))) ((h.bump 2)) fun t23 h =>
 condK t23
 (K (.tuple #[(.int .u64 0), t21]) ((h.bump 3)))
 (X (.call 258 [t0, t1, t2]) (fun t28 h =>
 opK (extV 0 t28 h) fun t29 h =>
 opK (extV 1 t28 h) fun t30 h =>
 K (.tuple #[t29, t30]) h) ((h.bump 8)))) ((h.bump 4)))
theorem f215_eq (X : Caller) (L : Looper) (K : Value → AHeap → Prop) (h : AHeap) (t0 t1 t2 : Value) : aJob P X L (.call 215 [t0, t1, t2]) K h = f215 X L K h t0 t1 t2 := by kernel_rfl
/-- (*cubbyhole/lru.LRU).room -/
def f216 (X : Caller) (L : Looper) (K : Value → AHeap → Prop) (h : AHeap) (t0 t1 : Value) : Prop :=
 opK ((fun h : AHeap => nilV t0 h) ((h.bump 6))) fun t6 h =>
 rdK (fAddr 0 t6) h fun t7 h =>
 rdK (ld1 t7 h) h fun t8 h =>
 X (.call 259 [t8]) (fun t9 h =>
 regK 4 h fun b h =>
 opK (convertA P 90 3 t1 (b + 1) h) fun t11 h =>
 rdK (binV P .geq 3 3 t11 t9 h) h fun t13 h =>
 condK t13
 (regK 14 h fun b_1 h =>
  opK (nilV t0 h) fun t15 h =>
  rdK (fAddr 0 t15) h fun t16 h =>
  rdK (ld1 t16 h) h fun t17 h =>
  rdK (binD P .mul 3 3 (.int .i64 2) t9 h) h fun t21 h =>
  opK (convertA P 90 3 t1 (b_1 + 9) h) fun t23 h =>
  rdK (binC P .add 3 3 t23 (.int .i64 1) h) h fun t24 h =>
  opK (builtinV P .max [3, 3] [t21, t24] (b_1 + 11) h) fun t25 h =>
  opK (builtinV P .min [3, 3] [(.int .i64 4194304), t25] (b_1 + 12) h) fun t26 h =>
  X (.call 261 [t9]) (fun t19 h =>
  chkK (chkR (convertA P 90 3 t1 (b_1 + 9) h) t23 (chkR ((ld1 t16 h).map (·, h)) t17 true)) <|
  X (.call 260 [t17, t19, t26]) (fun t27 h =>
  K (.tuple #[]) h) h) h)
 (K (.tuple #[]) h)) h
theorem f216_eq (X : Caller) (L : Looper) (K : Value → AHeap → Prop) (h : AHeap) (t0 t1 : Value) : aJob P X L (.call 216 [t0, t1]) K h = f216 X L K h t0 t1 := by kernel_rfl
/-- (*cubbyhole/links.Links).Back -/
def f217 (X : Caller) (L : Looper) (K : Value → AHeap → Prop) (h : AHeap) (t0 t1 t2 : Value) : Prop :=
 X (.call 262 [t0, t1, t2, (.bool false)]) (fun t10 h =>
 K t10 h) (((h.bump 1).bump 5))
theorem f217_eq (X : Caller) (L : Looper) (K : Value → AHeap → Prop) (h : AHeap) (t0 t1 t2 : Value) : aJob P X L (.call 217 [t0, t1, t2]) K h = f217 X L K h t0 t1 t2 := by kernel_rfl
/-- (cubbyhole/links.head).ring -/
def f218 (X : Caller) (L : Looper) (K : Value → AHeap → Prop) (h : AHeap) (t0 t1 : Value) : Prop :=
 regK 8 ((h.bump 1)) fun b h =>
 opK (nilV t1 h) fun t6 h =>
 rdK (fAddr 1 t6) h fun t7 h =>
 rdK (ld1 t7 h) h fun t8 h =>
 rdK (binV P .add 3 3 t8 t0 h) h fun t10 h =>
 opK (convertA P 3 90 t10 (b + 6) h) fun t11 h =>
 K t11 h
theorem f218_eq (X : Caller) (L : Looper) (K : Value → AHeap → Prop) (h : AHeap) (t0 t1 : Value) : aJob P X L (.call 218 [t0, t1]) K h = f218 X L K h t0 t1 := by kernel_rfl
/-- cubbyhole/word.Repeat -/
def f219 (X : Caller) (L : Looper) (K : Value → AHeap → Prop) (h : AHeap) (t0 : Value) : Prop :=
 regK 4 ((h.bump 1)) fun b h =>
 opK (convertA P 5 27 t0 (b + 1) h) fun t4 h =>
 rdK (binD P .mul 27 27 (.int .u64 72340172838076673) t4 h) h fun t5 h =>
 K t5 h
theorem f219_eq (X : Caller) (L : Looper) (K : Value → AHeap → Prop) (h : AHeap) (t0 : Value) : aJob P X L (.call 219 [t0]) K h = f219 X L K h t0 := by kernel_rfl
/-- cubbyhole/probe.check -/
def f220 (X : Caller) (L : Looper) (K : Value → AHeap → Prop) (h : AHeap) (t0 t1 : Value) : Prop :=
 X (.call 167 [t0]) (fun t7 h =>
 rdK (unV P .not 4 t7) h fun t8 h =>
 condK t8
 (K (.int .i64 2) ((h.bump 1)))
 (rdK ((fun h : AHeap => binC P .lss 3 3 t1 (.int .i64 0) h) ((h.bump 8))) ((h.bump 8)) fun t11 h =>
  gopK (wantV t11 false) h (some (t1, h)) fun t13 h =>
  gopK (wantV t11 false) h (some (t0, h)) fun t14 h =>
  gopK (wantV t11 false) h ((binV P .geq 3 3 t13 t14 h).map (·, h)) fun t15 h =>
  opK (pickV t11 (.bool true) t15 h) fun t16 h =>
  condK t16
  (K (.int .i64 3) ((h.bump 1)))
  (K (.int .i64 0) ((h.bump 1))))) (((h.bump 1).bump 4))
theorem f220_eq (X : Caller) (L : Looper) (K : Value → AHeap → Prop) (h : AHeap) (t0 t1 : Value) : aJob P X L (.call 220 [t0, t1]) K h = f220 X L K h t0 t1 := by kernel_rfl
def f221_l1 (X : Caller) (L : Looper) (a : AAct) (K : ActPost) (h : AHeap) : Prop :=
 rdK ((fun h : AHeap => binV P .lss 3 3 (a.env 7) (a.env 6) h) ((h.bump 1))) ((h.bump 1)) fun t8 h =>
 condK t8
 (rdK ((fun h : AHeap => ld1 (a.env 2) h) (((h.bump 2).bump 7))) (((h.bump 2).bump 7)) fun t11 h =>
 rdK (ld1 (a.env 3) h) h fun t12 h =>
 X (.call 222 [t11, t12, (a.env 7)]) (fun t14 h =>
 callV X (a.env 0) [t14] (fun t15 h =>
 rdK (unV P .not 4 t15) h fun t16 h =>
 condK t16
 (K .ret ⟨(upds a.env [(8, t8), (9, (a.env 7)), (5, (a.env 7)), (10, (a.env 0)), (11, t11), (12, t12), (13, (a.env 7)), (14, t14), (15, t15), (16, t16)]), a.defers⟩ h)
 (rdK ((fun h : AHeap => binC P .add 3 3 (a.env 7) (.int .i64 1) h) ((h.bump 2))) ((h.bump 2)) fun t17 h =>
 K .normal ⟨(upds a.env [(8, t8), (9, (a.env 7)), (5, (a.env 7)), (10, (a.env 0)), (11, t11), (12, t12), (13, (a.env 7)), (14, t14), (15, t15), (16, t16), (17, t17), (7, t17)]), a.defers⟩ h)) h) h)
 (K (.exit 0) ⟨(upds a.env [(8, t8)]), a.defers⟩ h)
/-- cubbyhole/probe.All$1 -/
def f221 (X : Caller) (L : Looper) (K : Value → AHeap → Prop) (h : AHeap) (t0 t1 t2 t3 : Value) : Prop :=
 rdK ((fun h : AHeap => ld1 t1 h) ((h.bump 2))) ((h.bump 2)) fun t6 h =>
 L (f221_l1 X L) ⟨(upds (argsEnv [t0, t1, t2, t3]) [(6, t6), (7, (.int .i64 0))]), []⟩ (blkX 0 (finX P X Tryz.f221 K)) h
theorem f221_eq (X : Caller) (L : Looper) (K : Value → AHeap → Prop) (h : AHeap) (t0 t1 t2 t3 : Value) : aJob P X L (.call 221 [t0, t1, t2, t3]) K h = f221 X L K h t0 t1 t2 t3 := by kernel_rfl
/-- cubbyhole/probe.at -/
def f222 (X : Caller) (L : Looper) (K : Value → AHeap → Prop) (h : AHeap) (t0 t1 t2 : Value) : Prop :=
 regK 14 ((h.bump 1)) fun b h =>
 rdK (binC P .add 3 3 t2 (.int .i64 1) h) h fun t10 h =>
 rdK (binV P .mul 3 3 t2 t10 h) h fun t11 h =>
 rdK (binC P .quo 3 3 t11 (.int .i64 2) h) h fun t12 h =>
 opK (convertA P 3 27 t12 (b + 6) h) fun t13 h =>
 rdK (binV P .add 27 27 t0 t13 h) h fun t14 h =>
 rdK (binC P .sub 3 3 t1 (.int .i64 1) h) h fun t16 h =>
 opK (convertA P 3 27 t16 (b + 10) h) fun t17 h =>
 rdK (binV P .and 27 27 t14 t17 h) h fun t18 h =>
 opK (convertA P 27 3 t18 (b + 12) h) fun t19 h =>
 K t19 h
theorem f222_eq (X : Caller) (L : Looper) (K : Value → AHeap → Prop) (h : AHeap) (t0 t1 t2 : Value) : aJob P X L (.call 222 [t0, t1, t2]) K h = f222 X L K h t0 t1 t2 := by kernel_rfl
def f223_l1 (X : Caller) (L : Looper) (a : AAct) (K : ActPost) (h : AHeap) : Prop :=
 rdK ((fun h : AHeap => binC P .neq 5 5 (a.env 3) (.int .u8 0) h) ((h.bump 2))) ((h.bump 2)) fun t6 h =>
 condK t6
 (X (.call 213 [(a.env 3)]) (fun t13 h =>
 callV X (a.env 0) [t13] (fun t14 h =>
 rdK (unV P .not 4 t14) h fun t15 h =>
 condK t15
 (K .ret ⟨(upds a.env [(5, (a.env 3)), (6, t6), (11, (a.env 0)), (12, (a.env 3)), (13, t13), (14, t14), (15, t15)]), a.defers⟩ h)
 (rdK ((fun h : AHeap => binC P .sub 5 5 (a.env 3) (.int .u8 1) h) ((h.bump 5))) ((h.bump 5)) fun t9 h =>
 rdK (binV P .and 5 5 (a.env 3) t9 h) h fun t10 h =>
 K .normal ⟨(upds a.env [(5, (a.env 3)), (6, t6), (11, (a.env 0)), (12, (a.env 3)), (13, t13), (14, t14), (15, t15), (7, (a.env 3)), (8, (a.env 3)), (9, t9), (10, t10), (3, t10)]), a.defers⟩ h)) h) ((h.bump 5)))
 (K (.exit 0) ⟨(upds a.env [(5, (a.env 3)), (6, t6)]), a.defers⟩ h)
/-- cubbyhole/word.All$1 -/
def f223 (X : Caller) (L : Looper) (K : Value → AHeap → Prop) (h : AHeap) (t0 t1 : Value) : Prop :=
 rdK ((fun h : AHeap => ld1 t1 h) ((h.bump 2))) ((h.bump 2)) fun t4 h =>
 L (f223_l1 X L) ⟨(upds (argsEnv [t0, t1]) [(4, t4), (3, t4)]), []⟩ (blkX 0 (finX P X Tryz.f223 K)) h
theorem f223_eq (X : Caller) (L : Looper) (K : Value → AHeap → Prop) (h : AHeap) (t0 t1 : Value) : aJob P X L (.call 223 [t0, t1]) K h = f223 X L K h t0 t1 := by kernel_rfl
/-- cubbyhole/word.Match -/
def f224 (X : Caller) (L : Looper) (K : Value → AHeap → Prop) (h : AHeap) (t0 t1 : Value) : Prop :=
 X (.call 219 [t1]) (fun t8 h =>
 rdK (binV P .xor 27 27 t0 t8 h) h fun t9 h =>
 rdK ((fun h : AHeap => binC P .and 27 27 t9 (.int .u64 9187201950435737471) h) ((h.bump 9))) ((h.bump 9)) fun t11 h =>
 rdK (binC P .add 27 27 t11 (.int .u64 9187201950435737471) h) h fun t12 h =>
 rdK (binV P .or 27 27 t12 t9 h) h fun t14 h =>
 rdK (binC P .or 27 27 t14 (.int .u64 9187201950435737471) h) h fun t15 h =>
 rdK (unV P .xor 27 t15) h fun t16 h =>
 X (.call 263 [t16]) (fun t17 h =>
 K t17 h) h) (((h.bump 1).bump 5))
theorem f224_eq (X : Caller) (L : Looper) (K : Value → AHeap → Prop) (h : AHeap) (t0 t1 : Value) : aJob P X L (.call 224 [t0, t1]) K h = f224 X L K h t0 t1 := by kernel_rfl
/-- (*cubbyhole/swiss.Index).Remove$1 -/
def f225 (X : Caller) (L : Looper) (K : Value → AHeap → Prop) (h : AHeap) (t0 t1 : Value) : Prop :=
 rdK ((fun h : AHeap => ld1 t1 h) (((h.bump 1).bump 4))) (((h.bump 1).bump 4)) fun t5 h =>
 rdK (binV P .eql 90 90 t0 t5 h) h fun t6 h =>
 K t6 h
theorem f225_eq (X : Caller) (L : Looper) (K : Value → AHeap → Prop) (h : AHeap) (t0 t1 : Value) : aJob P X L (.call 225 [t0, t1]) K h = f225 X L K h t0 t1 := by kernel_rfl
def f226_j6 (X : Caller) (L : Looper) (K : Value → AHeap → Prop) (h : AHeap) (t0 t17 t1 t18 t19 t20 t21 t22 t7 t23 t24 t25 t26 t27 t28 t4 t5 : Value) : Prop :=
 X (.call 255 [t0]) (fun t18_1 h =>
 rdK (binV P .shr 5 3 t18_1 t1 h) h fun t20_1 h =>
 rdK (binC P .and 5 5 t20_1 (.int .u8 1) h) h fun t21_1 h =>
 rdK (binC P .eql 5 5 t21_1 (.int .u8 0) h) h fun t22_1 h =>
 condK t22_1
 (K (.tuple #[(.int .u64 0), (.int .i64 8)]) ((h.bump 2)))
 (X (.call 258 [t0, t1, t7]) (fun t26_1 h =>
 opK (extV 0 t26_1 h) fun t27_1 h =>
 opK (extV 1 t26_1 h) fun t28_1 h =>
 K (.tuple #[t27_1, t28_1]) h) ((h.bump 8)))) ((h.bump 6))
/-- cubbyhole/control.Erase -/
def f226 (X : Caller) (L : Looper) (K : Value → AHeap → Prop) (h : AHeap) (t0 t1 : Value) : Prop :=
 X (.call 257 [t0, t1]) (fun t10 h =>
 rdK ((fun h : AHeap => binC P .neq 31 31 t10 (.int .i64 0) h) ((h.bump 2))) ((h.bump 2)) fun t12 h =>
 condK t12
 (K (.tuple #[(.int .u64 0), t10]) ((h.bump 3)))
 (X (.call 175 [t0]) (fun t15 h =>
 rdK (binC P .neq 5 5 t15 (.int .u8 0) h) h fun t16 h =>
 condK t16
 (f226_j6 X L K ((h.bump 1)) t0 undef t1 undef undef undef undef undef ((.int .u8 128)) undef undef undef undef undef undef ((.int .u64 0)) ((.int .i64 0)))
 (f226_j6 X L K h t0 undef t1 undef undef undef undef undef ((.int .u8 254)) undef undef undef undef undef undef ((.int .u64 0)) ((.int .i64 0)))) (((h.bump 1).bump 3)))) (((h.bump 2).bump 4))
theorem f226_eq (X : Caller) (L : Looper) (K : Value → AHeap → Prop) (h : AHeap) (t0 t1 : Value) : aJob P X L (.call 226 [t0, t1]) K h = f226 X L K h t0 t1 := by kernel_rfl
/-- cubbyhole/growth.bound -/
def f227 (X : Caller) (L : Looper) (K : Value → AHeap → Prop) (h : AHeap) (t0 : Value) : Prop :=
 rdK ((fun h : AHeap => binD P .mul 3 3 (.int .i64 4) t0 h) (((h.bump 1).bump 5))) (((h.bump 1).bump 5)) fun t4 h =>
 rdK (binC P .add 3 3 t4 (.int .i64 16) h) h fun t5 h =>
 X (.call 264 [t5]) (fun t6 h =>
 K t6 h) h
theorem f227_eq (X : Caller) (L : Looper) (K : Value → AHeap → Prop) (h : AHeap) (t0 : Value) : aJob P X L (.call 227 [t0]) K h = f227 X L K h t0 := by kernel_rfl
def f228_j7 (X : Caller) (L : Looper) (K : Value → AHeap → Prop) (h : AHeap) (t2 t0 t20 t21 t22 t19 t23 t24 : Value) : Prop :=
 regK 7 h fun b h =>
 opK (convertA P 27 5 t0 (b + 2) h) fun t21_1 h =>
 rdK (indexA P 9 (.string ⟨#[0, 1, 2, 2, 3, 3, 3, 3, 4, 4, 4, 4, 4, 4, 4, 4, 5, 5, 5, 5, 5, 5, 5, 5, 5, 5, 5, 5, 5, 5, 5, 5, 6, 6, 6, 6, 6, 6, 6, 6, 6, 6, 6, 6, 6, 6, 6, 6, 6, 6, 6, 6, 6, 6, 6, 6, 6, 6, 6, 6, 6, 6, 6, 6, 7, 7, 7, 7, 7, 7, 7, 7, 7, 7, 7, 7, 7, 7, 7, 7, 7, 7, 7, 7, 7, 7, 7, 7, 7, 7, 7, 7, 7, 7, 7, 7, 7, 7, 7, 7, 7, 7, 7, 7, 7, 7, 7, 7, 7, 7, 7, 7, 7, 7, 7, 7, 7, 7, 7, 7, 7, 7, 7, 7, 7, 7, 7, 7, 8, 8, 8, 8, 8, 8, 8, 8, 8, 8, 8, 8, 8, 8, 8, 8, 8, 8, 8, 8, 8, 8, 8, 8, 8, 8, 8, 8, 8, 8, 8, 8, 8, 8, 8, 8, 8, 8, 8, 8, 8, 8, 8, 8, 8, 8, 8, 8, 8, 8, 8, 8, 8, 8, 8, 8, 8, 8, 8, 8, 8, 8, 8, 8, 8, 8, 8, 8, 8, 8, 8, 8, 8, 8, 8, 8, 8, 8, 8, 8, 8, 8, 8, 8, 8, 8, 8, 8, 8, 8, 8, 8, 8, 8, 8, 8, 8, 8, 8, 8, 8, 8, 8, 8, 8, 8, 8, 8, 8, 8, 8, 8, 8, 8, 8, 8, 8, 8, 8, 8, 8, 8, 8, 8, 8, 8, 8, 8]⟩) t21_1) h fun t22_1 h =>
 opK (convertA P 5 3 t22_1 (b + 4) h) fun t23_1 h =>
 rdK (binV P .add 3 3 t2 t23_1 h) h fun t24_1 h =>
 K t24_1 h
def f228_j4 (X : Caller) (L : Looper) (K : Value → AHeap → Prop) (h : AHeap) (t0 t13 t14 t15 t16 t2 t17 t18 t20 t21 t22 t19 t23 t24 : Value) : Prop :=
 rdK ((fun h : AHeap => binC P .geq 27 27 t0 (.int .u64 256) h) ((h.bump 2))) ((h.bump 2)) fun t14_1 h =>
 condK t14_1
 (rdK ((fun h : AHeap => binC P .shr 27 276 t0 (.int .u64 8) h) ((h.bump 3))) ((h.bump 3)) fun t16_1 h =>
  rdK ((fun h : AHeap => binC P .add 3 3 t2 (.int .i64 8) h) ((h.bump 3))) ((h.bump 3)) fun t18_1 h =>
  f228_j7 X L K h t18_1 t16_1 t20 t21 t22 t19 t23 t24)
 (f228_j7 X L K h t2 t0 t20 t21 t22 t19 t23 t24)
def f228_j1 (X : Caller) (L : Looper) (K : Value → AHeap → Prop) (h : AHeap) (t0 t7 t8 t9 t10 t2 t11 t12 t13 t14 t15 t16 t17 t18 t20 t21 t22 t19 t23 t24 : Value) : Prop :=
 rdK ((fun h : AHeap => binC P .geq 27 27 t0 (.int .u64 65536) h) ((h.bump 2))) ((h.bump 2)) fun t8_1 h =>
 condK t8_1
 (rdK ((fun h : AHeap => binC P .shr 27 276 t0 (.int .u64 16) h) ((h.bump 3))) ((h.bump 3)) fun t10_1 h =>
  rdK ((fun h : AHeap => binC P .add 3 3 t2 (.int .i64 16) h) ((h.bump 3))) ((h.bump 3)) fun t12_1 h =>
  f228_j4 X L K h t10_1 t13 t14 t15 t16 t12_1 t17 t18 t20 t21 t22 t19 t23 t24)
 (f228_j4 X L K h t0 t13 t14 t15 t16 t2 t17 t18 t20 t21 t22 t19 t23 t24)
/-- math/bits.Len64 -/
def f228 (X : Caller) (L : Looper) (K : Value → AHeap → Prop) (h : AHeap) (t0 : Value) : Prop :=
 rdK ((fun h : AHeap => binC P .geq 27 27 t0 (.int .u64 4294967296) h) (((h.bump 1).bump 2))) (((h.bump 1).bump 2)) fun t4 h =>
 condK t4
 (rdK ((fun h : AHeap => binC P .shr 27 276 t0 (.int .u64 32) h) ((h.bump 3))) ((h.bump 3)) fun t6 h =>
  f228_j1 X L K ((h.bump 1)) t6 undef undef undef undef ((.int .i64 32)) undef undef undef undef undef undef undef undef undef undef undef undef undef undef)
 (f228_j1 X L K h t0 undef undef undef undef ((.int .i64 0)) undef undef undef undef undef undef undef undef undef undef undef undef undef undef)
theorem f228_eq (X : Caller) (L : Looper) (K : Value → AHeap → Prop) (h : AHeap) (t0 : Value) : aJob P X L (.call 228 [t0]) K h = f228 X L K h t0 := by kernel_rfl
/-- (*cubbyhole/wheel.Wheel).Next -/
def f229 (X : Caller) (L : Looper) (K : Value → AHeap → Prop) (h : AHeap) (t0 t1 : Value) : Prop :=
 X (.call 265 [t0, (.int .u32 0), t1]) (fun t11 h =>
 rdK ((fun h : AHeap => binC P .neq 31 31 t11 (.int .i64 0) h) ((h.bump 2))) ((h.bump 2)) fun t13 h =>
 condK t13
 (K (.tuple #[(.int .i64 0), t11]) ((h.bump 3)))
 (opK ((fun h : AHeap => nilV t0 h) ((h.bump 10))) fun t17 h =>
 rdK (fAddr 1 t17) h fun t18 h =>
 X (.call 266 [t18, t1]) (fun t20 h =>
 opK (extV 0 t20 h) fun t21 h =>
 opK (extV 1 t20 h) fun t22 h =>
 rdK ((fun h : AHeap => unV P .not 4 t22) ((h.bump 2))) ((h.bump 2)) fun t24 h =>
 condK t24
 (K (.tuple #[(.int .i64 0), (.int .i64 9)]) ((h.bump 2)))
 (K (.tuple #[t21, (.int .i64 0)]) ((h.bump 3)))) h)) (((h.bump 2).bump 4))
theorem f229_eq (X : Caller) (L : Looper) (K : Value → AHeap → Prop) (h : AHeap) (t0 t1 : Value) : aJob P X L (.call 229 [t0, t1]) K h = f229 X L K h t0 t1 := by kernel_rfl
def f230_l4 (X : Caller) (L : Looper) (a : AAct) (K : ActPost) (h : AHeap) : Prop :=
 rdK ((fun h : AHeap => binV P .lss 3 3 (a.env 18) (a.env 17) h) ((h.bump 1))) ((h.bump 1)) fun t19 h =>
 condK t19
 (rdK ((fun h : AHeap => ixS 1 (a.env 16) (a.env 18)) ((h.bump 3))) ((h.bump 3)) fun t20 h =>
 rdK (ld1 t20 h) h fun t21 h =>
 X (.call 203 [(a.env 0), t21]) (fun t24 h =>
 rdK ((fun h : AHeap => binC P .add 3 3 (a.env 18) (.int .i64 1) h) ((h.bump 2))) ((h.bump 2)) fun t25 h =>
 K .normal ⟨(upds a.env [(19, t19), (20, t20), (21, t21), (9, t21), (22, (a.env 0)), (23, t21), (24, t24), (25, t25), (18, t25)]), a.defers⟩ h) ((h.bump 3)))
 (K (.exit 0) ⟨(upds a.env [(19, t19)]), a.defers⟩ h)
def f230_j2 (X : Caller) (L : Looper) (K : Value → AHeap → Prop) (h : AHeap) (a : AAct) : Prop :=
 leaveA P X Tryz.f230 ⟨(upds a.env [(26, (a.env 6)), (27, (a.env 7)), (4, (a.env 6)), (5, (a.env 7))]), a.defers⟩ K a.defers ((h.bump 4))
/-- (*cubbyhole/wheel.Wheel).Take -/
def f230 (X : Caller) (L : Looper) (K : Value → AHeap → Prop) (h : AHeap) (t0 t1 : Value) : Prop :=
 X (.call 267 [t0, t1]) (fun t13 h =>
 opK (extV 0 t13 h) fun t14 h =>
 opK (extV 1 t13 h) fun t15 h =>
 regK 3 h fun b h =>
 opK (builtinV P .len [151] [t14] (b + 1) h) fun t17 h =>
 L (f230_l4 X L) ⟨(upds (argsEnv [t0, t1]) [(4, (.slice none 0 0)), (5, (.int .i64 0)), (11, t0), (12, t1), (13, t13), (10, t13), (14, t14), (15, t15), (6, t14), (7, t15), (16, t14), (17, t17), (18, (.int .i64 0))]), []⟩ (blkX 0 (seqX (fun a h => f230_j2 X L K h a) (finX P X Tryz.f230 K))) h) (((h.bump 2).bump 8))
theorem f230_eq (X : Caller) (L : Looper) (K : Value → AHeap → Prop) (h : AHeap) (t0 t1 : Value) : aJob P X L (.call 230 [t0, t1]) K h = f230 X L K h t0 t1 := by kernel_rfl
/-- (*cubbyhole/wheel.Wheel).Put -/
def f231 (X : Caller) (L : Looper) (K : Value → AHeap → Prop) (h : AHeap) (t0 t1 t2 : Value) : Prop :=
 X (.call 265 [t0, t1, t2]) (fun t12 h =>
 rdK ((fun h : AHeap => binC P .neq 31 31 t12 (.int .i64 0) h) ((h.bump 2))) ((h.bump 2)) fun t14 h =>
 condK t14
 (K t12 ((h.bump 2)))
 (X (.call 268 [t0, t1]) (fun t18 h =>
 opK ((fun h : AHeap => nilV t0 h) ((h.bump 8))) fun t20 h =>
 rdK (fAddr 0 t20) h fun t21 h =>
 rdK (ld1 t21 h) h fun t22 h =>
 X (.call 217 [t22, t2, t1]) (fun t25 h =>
 rdK ((fun h : AHeap => binC P .neq 31 31 t25 (.int .i64 0) h) ((h.bump 2))) ((h.bump 2)) fun t27 h =>
 condK t27
 (K t25 ((h.bump 2)))
 (opK ((fun h : AHeap => nilV t0 h) ((h.bump 5))) fun t30 h =>
 rdK (fAddr 1 t30) h fun t31 h =>
 X (.call 269 [t31, t2]) (fun t33 h =>
 opK ((fun h : AHeap => nilV t0 h) ((h.bump 8))) fun t35 h =>
 rdK (fAddr 5 t35) h fun t36 h =>
 rdK (ld1 t36 h) h fun t37 h =>
 rdK (binC P .add 3 3 t37 (.int .i64 1) h) h fun t38 h =>
 opK (nilV t0 h) fun t39 h =>
 rdK (fAddr 5 t39) h fun t40 h =>
 stK (stV 1 t40 t38 h) fun h =>
 K (.int .i64 0) ((h.bump 1))) h)) h) ((h.bump 3)))) (((h.bump 1).bump 5))
theorem f231_eq (X : Caller) (L : Looper) (K : Value → AHeap → Prop) (h : AHeap) (t0 t1 t2 : Value) : aJob P X L (.call 231 [t0, t1, t2]) K h = f231 X L K h t0 t1 t2 := by kernel_rfl
def f232_j18 (X : Caller) (L : Looper) (K : ActPost) (h : AHeap) (a : AAct) : Prop :=
 rdK ((fun h : AHeap => binC P .gtr 3 3 (a.env 1) (.int .i64 0) h) ((h.bump 17))) ((h.bump 17)) fun t82 h =>
 gopK (wantV t82 true) h (some ((a.env 4), h)) fun t84 h =>
 gopK (wantV t82 true) h (some ((a.env 0), h)) fun t85 h =>
 gopK (wantV t82 true) h (some ((a.env 1), h)) fun t86 h =>
 gopK (wantV t82 true) h ((binC P .sub 3 3 t86 (.int .i64 1) h).map (·, h)) fun t87 h =>
 gopK (wantV t82 true) h ((ixS 3 t85 t87).map (·, h)) fun t88 h =>
 gopK (wantV t82 true) h ((ldN 3 t88 h).map (·, h)) fun t89 h =>
 gopK (wantV t82 true) h (some ((a.env 0), h)) fun t90 h =>
 gopK (wantV t82 true) h (some ((a.env 13), h)) fun t91 h =>
 gopK (wantV t82 true) h ((ixS 3 t90 t91).map (·, h)) fun t92 h =>
 gopK (wantV t82 true) h ((ldN 3 t92 h).map (·, h)) fun t93 h =>
 gcallvK (wantV t82 true) X t84 [t89, t93] h fun t94 h =>
 gopK (wantV t82 true) h ((binC P .lss 3 3 t94 (.int .i64 0) h).map (·, h)) fun t95 h =>
 gopK (wantV t82 true) h ((unV P .not 4 t95).map (·, h)) fun t96 h =>
 opK (pickV t82 t96 (.bool false) h) fun t97 h =>
 condK t97
 (X (.call 276 [(a.env 0), (a.env 1), (a.env 2), (a.env 13), (a.env 4)]) (fun t103 h =>
  K .normal ⟨(upds a.env [(81, (a.env 1)), (82, t82), (83, t82), (84, t84), (85, t85), (86, t86), (87, t87), (88, t88), (89, t89), (90, t90), (91, t91), (92, t92), (93, t93), (94, t94), (95, t95), (96, t96), (97, t97), (98, (a.env 0)), (99, (a.env 1)), (100, (a.env 2)), (101, (a.env 13)), (102, (a.env 4)), (103, t103), (15, t103), (104, t103), (1, t103)]), a.defers⟩ ((h.bump 2))) ((h.bump 7)))
 (X (.call 277 [(a.env 0), (a.env 1), (a.env 2), (a.env 13), (a.env 4)]) (fun t111 h =>
 opK (extV 0 t111 h) fun t112 h =>
 opK (extV 1 t111 h) fun t113 h =>
 rdK ((fun h : AHeap => binV P .sub 3 3 t112 (a.env 1) h) (((h.bump 2).bump 8))) (((h.bump 2).bump 8)) fun t117 h =>
 rdK (binV P .sub 3 3 (a.env 2) t112 h) h fun t120 h =>
 rdK ((fun h : AHeap => binC P .quo 3 3 (a.env 12) (.int .i64 8) h) ((h.bump 3))) ((h.bump 3)) fun t122 h =>
 rdK ((fun h : AHeap => binV P .lss 3 3 t117 t120 h) ((h.bump 3))) ((h.bump 3)) fun t125 h =>
 condK t125
 (rdK ((fun h : AHeap => binV P .geq 3 3 t117 t122 h) ((h.bump 4))) ((h.bump 4)) fun t128 h =>
  X (.call 232 [(a.env 0), (a.env 1), t112, (a.env 3), (a.env 4)]) (fun t134 h =>
  rdK ((fun h : AHeap => binC P .add 3 3 t112 (.int .i64 1) h) ((h.bump 3))) ((h.bump 3)) fun t136 h =>
  K .normal ⟨(upds a.env [(81, (a.env 1)), (82, t82), (83, t82), (84, t84), (85, t85), (86, t86), (87, t87), (88, t88), (89, t89), (90, t90), (91, t91), (92, t92), (93, t93), (94, t94), (95, t95), (96, t96), (97, t97), (106, (a.env 0)), (107, (a.env 1)), (108, (a.env 2)), (109, (a.env 13)), (110, (a.env 4)), (111, t111), (105, t111), (112, t112), (113, t113), (16, t112), (17, t113), (114, t113), (11, t113), (115, t112), (116, (a.env 1)), (117, t117), (118, (a.env 2)), (119, t112), (120, t120), (18, t117), (19, t120), (121, (a.env 12)), (122, t122), (20, t122), (123, t117), (124, t120), (125, t125), (126, t117), (127, t122), (128, t128), (10, t128), (129, (a.env 0)), (130, (a.env 1)), (131, t112), (132, (a.env 3)), (133, (a.env 4)), (134, t134), (135, t112), (136, t136), (1, t136)]), a.defers⟩ h) ((h.bump 6)))
 (rdK ((fun h : AHeap => binV P .geq 3 3 t120 t122 h) ((h.bump 4))) ((h.bump 4)) fun t139 h =>
  rdK ((fun h : AHeap => binC P .add 3 3 t112 (.int .i64 1) h) ((h.bump 7))) ((h.bump 7)) fun t142 h =>
  X (.call 232 [(a.env 0), t142, (a.env 2), (a.env 3), (a.env 4)]) (fun t146 h =>
  K .normal ⟨(upds a.env [(81, (a.env 1)), (82, t82), (83, t82), (84, t84), (85, t85), (86, t86), (87, t87), (88, t88), (89, t89), (90, t90), (91, t91), (92, t92), (93, t93), (94, t94), (95, t95), (96, t96), (97, t97), (106, (a.env 0)), (107, (a.env 1)), (108, (a.env 2)), (109, (a.env 13)), (110, (a.env 4)), (111, t111), (105, t111), (112, t112), (113, t113), (16, t112), (17, t113), (114, t113), (11, t113), (115, t112), (116, (a.env 1)), (117, t117), (118, (a.env 2)), (119, t112), (120, t120), (18, t117), (19, t120), (121, (a.env 12)), (122, t122), (20, t122), (123, t117), (124, t120), (125, t125), (137, t120), (138, t122), (139, t139), (10, t139), (140, (a.env 0)), (141, t112), (142, t142), (143, (a.env 2)), (144, (a.env 3)), (145, (a.env 4)), (146, t146), (147, t112), (2, t112)]), a.defers⟩ ((h.bump 2))) h)) ((h.bump 11)))
def f232_j14 (X : Caller) (L : Looper) (K : ActPost) (h : AHeap) (a : AAct) : Prop :=
 gopK (wantV (a.env 10) true) ((h.bump 8)) (some ((a.env 11), (h.bump 8))) fun t70 h =>
 opK (pickV (a.env 10) t70 (.bool false) h) fun t71 h =>
 gopK (wantV t71 true) h (some ((a.env 14), h)) fun t73 h =>
 gopK (wantV t71 true) h ((binC P .eql 354 354 t73 (.int .i64 1) h).map (·, h)) fun t74 h =>
 opK (pickV t71 t74 (.bool false) h) fun t75 h =>
 condK t75
 (X (.call 275 [(a.env 0), (a.env 1), (a.env 2), (a.env 4)]) (fun t80 h =>
  condK t80
  (K .ret ⟨(upds a.env [(68, (a.env 10)), (69, (a.env 10)), (70, t70), (71, t71), (72, t71), (73, t73), (74, t74), (75, t75), (76, (a.env 0)), (77, (a.env 1)), (78, (a.env 2)), (79, (a.env 4)), (80, t80)]), a.defers⟩ h)
  (f232_j18 X L K h ⟨(upds a.env [(68, (a.env 10)), (69, (a.env 10)), (70, t70), (71, t71), (72, t71), (73, t73), (74, t74), (75, t75), (76, (a.env 0)), (77, (a.env 1)), (78, (a.env 2)), (79, (a.env 4)), (80, t80)]), a.defers⟩)) ((h.bump 5)))
 (f232_j18 X L K h ⟨(upds a.env [(68, (a.env 10)), (69, (a.env 10)), (70, t70), (71, t71), (72, t71), (73, t73), (74, t74), (75, t75)]), a.defers⟩)
def f232_j10 (X : Caller) (L : Looper) (K : ActPost) (h : AHeap) (a : AAct) : Prop :=
 X (.call 273 [(a.env 0), (a.env 1), (a.env 2), (a.env 4)]) (fun t52 h =>
 opK (extV 0 t52 h) fun t53 h =>
 opK (extV 1 t52 h) fun t54 h =>
 rdK ((fun h : AHeap => binC P .eql 354 354 t54 (.int .i64 2) h) ((h.bump 2))) ((h.bump 2)) fun t56 h =>
 condK t56
 (X (.call 274 [(a.env 0), (a.env 1), (a.env 2), (a.env 4)]) (fun t61 h =>
  rdK ((fun h : AHeap => binC P .sub 3 3 (a.env 2) (.int .i64 1) h) ((h.bump 7))) ((h.bump 7)) fun t63 h =>
  rdK (binV P .sub 3 3 t53 (a.env 1) h) h fun t66 h =>
  rdK (binV P .sub 3 3 t63 t66 h) h fun t67 h =>
  f232_j14 X L K ((h.bump 1)) ⟨(upds a.env [(48, (a.env 0)), (49, (a.env 1)), (50, (a.env 2)), (51, (a.env 4)), (52, t52), (47, t52), (53, t53), (54, t54), (13, t53), (14, t54), (55, t54), (56, t56), (57, (a.env 0)), (58, (a.env 1)), (59, (a.env 2)), (60, (a.env 4)), (61, t61), (62, (a.env 2)), (63, t63), (64, t53), (65, (a.env 1)), (66, t66), (67, t67), (13, t67), (14, (.int .i64 1))]), a.defers⟩) ((h.bump 5)))
 (f232_j14 X L K h ⟨(upds a.env [(48, (a.env 0)), (49, (a.env 1)), (50, (a.env 2)), (51, (a.env 4)), (52, t52), (47, t52), (53, t53), (54, t54), (13, t53), (14, t54), (55, t54), (56, t56)]), a.defers⟩)) ((h.bump 10))
def f232_l2 (X : Caller) (L : Looper) (a : AAct) (K : ActPost) (h : AHeap) : Prop :=
 rdK ((fun h : AHeap => binV P .sub 3 3 (a.env 2) (a.env 1) h) ((h.bump 4))) ((h.bump 4)) fun t23 h =>
 rdK ((fun h : AHeap => binC P .leq 3 3 t23 (.int .i64 12) h) ((h.bump 2))) ((h.bump 2)) fun t25 h =>
 condK t25
 (X (.call 270 [(a.env 0), (a.env 1), (a.env 2), (a.env 4)]) (fun t30 h =>
  K .ret ⟨(upds a.env [(21, (a.env 2)), (22, (a.env 1)), (23, t23), (12, t23), (24, t23), (25, t25), (26, (a.env 0)), (27, (a.env 1)), (28, (a.env 2)), (29, (a.env 4)), (30, t30)]), a.defers⟩ h) ((h.bump 5)))
 (rdK ((fun h : AHeap => binC P .eql 3 3 (a.env 3) (.int .i64 0) h) ((h.bump 2))) ((h.bump 2)) fun t32 h =>
 condK t32
 (X (.call 271 [(a.env 0), (a.env 1), (a.env 2), (a.env 4)]) (fun t37 h =>
  K .ret ⟨(upds a.env [(21, (a.env 2)), (22, (a.env 1)), (23, t23), (12, t23), (24, t23), (25, t25), (31, (a.env 3)), (32, t32), (33, (a.env 0)), (34, (a.env 1)), (35, (a.env 2)), (36, (a.env 4)), (37, t37)]), a.defers⟩ h) ((h.bump 5)))
 (rdK ((fun h : AHeap => unV P .not 4 (a.env 10)) ((h.bump 2))) ((h.bump 2)) fun t39 h =>
 condK t39
 (X (.call 272 [(a.env 0), (a.env 1), (a.env 2), (a.env 4)]) (fun t44 h =>
  rdK ((fun h : AHeap => binC P .sub 3 3 (a.env 3) (.int .i64 1) h) ((h.bump 3))) ((h.bump 3)) fun t46 h =>
  f232_j10 X L K h ⟨(upds a.env [(21, (a.env 2)), (22, (a.env 1)), (23, t23), (12, t23), (24, t23), (25, t25), (31, (a.env 3)), (32, t32), (38, (a.env 10)), (39, t39), (40, (a.env 0)), (41, (a.env 1)), (42, (a.env 2)), (43, (a.env 4)), (44, t44), (45, (a.env 3)), (46, t46), (3, t46)]), a.defers⟩) ((h.bump 5)))
 (f232_j10 X L K h ⟨(upds a.env [(21, (a.env 2)), (22, (a.env 1)), (23, t23), (12, t23), (24, t23), (25, t25), (31, (a.env 3)), (32, t32), (38, (a.env 10)), (39, t39)]), a.defers⟩)))
/-- slices.pdqsortCmpFunc[cubbyhole/api.Timed] -/
def f232 (X : Caller) (L : Looper) (K : Value → AHeap → Prop) (h : AHeap) (t0 t1 t2 t3 t4 : Value) : Prop :=
 L (f232_l2 X L) ⟨(upds (argsEnv [t0, t1, t2, t3, t4]) [(10, (.bool true)), (11, (.bool true))]), []⟩ (blkX 0 (finX P X Tryz.f232 K)) (((h.bump 1).bump 1))
/-- math/bits.Len -/
def f233 (X : Caller) (L : Looper) (K : Value → AHeap → Prop) (h : AHeap) (t0 : Value) : Prop :=
 condK (.bool false)
 (regK 4 ((h.bump 1)) fun b h =>
  opK (convertA P 276 90 t0 (b + 1) h) fun t4 h =>
  X (.call 278 [t4]) (fun t5 h =>
  K t5 h) h)
 (X (.call 228 [t0]) (fun t7 h =>
 K t7 h) (((h.bump 1).bump 3)))
theorem f233_eq (X : Caller) (L : Looper) (K : Value → AHeap → Prop) (h : AHeap) (t0 : Value) : aJob P X L (.call 233 [t0]) K h = f233 X L K h t0 := by kernel_rfl
/-- cmp.isNaN[cubbyhole/api.Time] -/
def f234 (X : Caller) (L : Looper) (K : Value → AHeap → Prop) (h : AHeap) (t0 : Value) : Prop :=
 rdK ((fun h : AHeap => binV P .neq 38 38 t0 t0 h) (((h.bump 1).bump 4))) (((h.bump 1).bump 4)) fun t5 h =>
 K t5 h
theorem f234_eq (X : Caller) (L : Looper) (K : Value → AHeap → Prop) (h : AHeap) (t0 : Value) : aJob P X L (.call 234 [t0]) K h = f234 X L K h t0 := by kernel_rfl
/-- cmp.isNaN[uint64] -/
def f235 (X : Caller) (L : Looper) (K : Value → AHeap → Prop) (h : AHeap) (t0 : Value) : Prop :=
 rdK ((fun h : AHeap => binV P .neq 27 27 t0 t0 h) (((h.bump 1).bump 4))) (((h.bump 1).bump 4)) fun t5 h =>
 K t5 h
theorem f235_eq (X : Caller) (L : Looper) (K : Value → AHeap → Prop) (h : AHeap) (t0 : Value) : aJob P X L (.call 235 [t0]) K h = f235 X L K h t0 := by kernel_rfl
def f236_j3 (X : Caller) (L : Looper) (K : Value → AHeap → Prop) (h : AHeap) (t0 t26 t4 : Value) : Prop :=
 K t0 ((h.bump 2))
def f236_j1 (X : Caller) (L : Looper) (K : Value → AHeap → Prop) (h : AHeap) (t1 t0 t9 t11 t10 t12 t8 t13 t14 t15 t16 t18 t17 t19 t20 t21 t23 t22 t24 t25 t26 t4 : Value) : Prop :=
 regK 8 h fun b h =>
 opK (builtinV P .cap [154] [t0] (b + 2) h) fun t10_1 h =>
 opK (builtinV P .len [154] [t0] (b + 4) h) fun t12_1 h =>
 rdK (binV P .sub 3 3 t10_1 t12_1 h) h fun t13_1 h =>
 rdK (binV P .sub 3 3 t1 t13_1 h) h fun t14_1 h =>
 rdK ((fun h : AHeap => binC P .gtr 3 3 t14_1 (.int .i64 0) h) ((h.bump 2))) ((h.bump 2)) fun t16_1 h =>
 condK t16_1
 (regK 10 h fun b_1 h =>
  opK (builtinV P .cap [154] [t0] (b_1 + 2) h) fun t19_1 h =>
  opK (sliceV P 154 t0 none (some t19_1) none h) fun t20_1 h =>
  opK (builtinV P .append [154, 3] [t20_1, t14_1] (b_1 + 5) h) fun t22_1 h =>
  opK (builtinV P .len [154] [t0] (b_1 + 7) h) fun t24_1 h =>
  opK (sliceV P 154 t22_1 none (some t24_1) none h) fun t25_1 h =>
  f236_j3 X L K h t25_1 t26 t4)
 (f236_j3 X L K h t0 t26 t4)
/-- slices.Grow[[]cubbyhole/api.Weighed,cubbyhole/api.Weighed] -/
def f236 (X : Caller) (L : Looper) (K : Value → AHeap → Prop) (h : AHeap) (t0 t1 : Value) : Prop :=
 rdK ((fun h : AHeap => binC P .lss 3 3 t1 (.int .i64 0) h) (((h.bump 1).bump 2))) (((h.bump 1).bump 2)) fun t6 h =>
 condK t6
 (False)
 (f236_j1 X L K h t1 t0 undef undef undef undef undef undef undef undef undef undef undef undef undef undef undef undef undef undef undef ((.slice none 0 0)))
theorem f236_eq (X : Caller) (L : Looper) (K : Value → AHeap → Prop) (h : AHeap) (t0 t1 : Value) : aJob P X L (.call 236 [t0, t1]) K h = f236 X L K h t0 t1 := by kernel_rfl
def f237_j10 (X : Caller) (L : Looper) (K : ActPost) (h : AHeap) (a : AAct) : Prop :=
 rdK ((fun h : AHeap => binC P .add 3 3 (a.env 6) (.int .i64 1) h) ((h.bump 3))) ((h.bump 3)) fun t21 h =>
 K .normal ⟨(upds a.env [(20, (a.env 6)), (21, t21), (6, t21)]), a.defers⟩ h
def f237_l7 (X : Caller) (L : Looper) (a : AAct) (K : ActPost) (h : AHeap) : Prop :=
 regK 4 h fun b h =>
 opK (builtinV P .len [154] [(a.env 0)] (b + 2) h) fun t18 h =>
 rdK (binV P .lss 3 3 (a.env 6) t18 h) h fun t19 h =>
 condK t19
 (regK 6 h fun b_1 h =>
 rdK (ixS 2 (a.env 0) (a.env 6)) h fun t24 h =>
 rdK (ldN 2 t24 h) h fun t25 h =>
 opK (newV [.int .u32 0, .int .i64 0] (b_1 + 4) h) fun t7 h =>
 stK (stV 2 t7 t25 h) fun h =>
 rdK ((fun h : AHeap => ldN 2 t7 h) ((h.bump 4))) ((h.bump 4)) fun t27 h =>
 callV X (a.env 1) [t27] (fun t28 h =>
 rdK (unV P .not 4 t28) h fun t29 h =>
 condK t29
 (rdK ((fun h : AHeap => ldN 2 t7 h) ((h.bump 5))) ((h.bump 5)) fun t32 h =>
  rdK (ixS 2 (a.env 0) (a.env 5)) h fun t33 h =>
  stK (stV 2 t33 t32 h) fun h =>
  rdK ((fun h : AHeap => binC P .add 3 3 (a.env 5) (.int .i64 1) h) ((h.bump 3))) ((h.bump 3)) fun t35 h =>
  f237_j10 X L K h ⟨(upds a.env [(16, (a.env 6)), (17, (a.env 0)), (18, t18), (19, t19), (22, (a.env 0)), (23, (a.env 6)), (24, t24), (25, t25), (7, t7), (26, (a.env 1)), (27, t27), (28, t28), (29, t29), (30, (a.env 0)), (31, (a.env 5)), (32, t32), (33, t33), (34, (a.env 5)), (35, t35), (5, t35)]), a.defers⟩)
 (f237_j10 X L K h ⟨(upds a.env [(16, (a.env 6)), (17, (a.env 0)), (18, t18), (19, t19), (22, (a.env 0)), (23, (a.env 6)), (24, t24), (25, t25), (7, t7), (26, (a.env 1)), (27, t27), (28, t28), (29, t29)]), a.defers⟩)) h)
 (K (.exit 0) ⟨(upds a.env [(16, (a.env 6)), (17, (a.env 0)), (18, t18), (19, t19)]), a.defers⟩ h)
def f237_j5 (X : Caller) (L : Looper) (K : Value → AHeap → Prop) (h : AHeap) (a : AAct) : Prop :=
 regK 4 h fun b_2 h =>
 opK (sliceV P 154 (a.env 0) (some (a.env 5)) none none h) fun t38 h =>
 opK (builtinV P .clear [154] [t38] (b_2 + 3) h) fun _ h =>
 opK ((fun h : AHeap => sliceV P 154 (a.env 0) none (some (a.env 5)) none h) ((h.bump 4))) fun t41 h =>
 leaveA P X Tryz.f237 ⟨(upds a.env [(36, (a.env 0)), (37, (a.env 5)), (38, t38), (39, (a.env 0)), (40, (a.env 5)), (41, t41), (4, t41)]), a.defers⟩ K a.defers h
/-- slices.DeleteFunc[[]cubbyhole/api.Weighed,cubbyhole/api.Weighed] -/
def f237 (X : Caller) (L : Looper) (K : Value → AHeap → Prop) (h : AHeap) (t0 t1 : Value) : Prop :=
 X (.call 279 [t0, t1]) (fun t10 h =>
 rdK ((fun h : AHeap => binC P .eql 3 3 t10 (.int .i64 (-1)) h) ((h.bump 2))) ((h.bump 2)) fun t12 h =>
 condK t12
 (K t0 ((h.bump 2)))
 (rdK ((fun h : AHeap => binC P .add 3 3 t10 (.int .i64 1) h) ((h.bump 3))) ((h.bump 3)) fun t15 h =>
 L (f237_l7 X L) ⟨(upds (argsEnv [t0, t1]) [(4, (.slice none 0 0)), (8, t0), (9, t1), (10, t10), (5, t10), (11, t10), (12, t12), (14, t10), (15, t15), (6, t15)]), []⟩ (blkX 0 (seqX (fun a h => f237_j5 X L K h a) (finX P X Tryz.f237 K))) h)) (((h.bump 1).bump 4))
theorem f237_eq (X : Caller) (L : Looper) (K : Value → AHeap → Prop) (h : AHeap) (t0 t1 : Value) : aJob P X L (.call 237 [t0, t1]) K h = f237 X L K h t0 t1 := by kernel_rfl
/-- slices.Clone[[]cubbyhole/api.Weighed,cubbyhole/api.Weighed] -/
def f238 (X : Caller) (L : Looper) (K : Value → AHeap → Prop) (h : AHeap) (t0 : Value) : Prop :=
 rdK ((fun h : AHeap => binC P .eql 154 154 t0 (.slice none 0 0) h) (((h.bump 1).bump 2))) (((h.bump 1).bump 2)) fun t4 h =>
 condK t4
 (K (.slice none 0 0) ((h.bump 1)))
 (regK 4 h fun b h =>
 opK (bsliceV P 154 0 [] (b + 0) h) fun t5 h =>
 opK (builtinV P .append [154, 154] [t5, t0] (b + 2) h) fun t7 h =>
 K t7 h)
theorem f238_eq (X : Caller) (L : Looper) (K : Value → AHeap → Prop) (h : AHeap) (t0 : Value) : aJob P X L (.call 238 [t0]) K h = f238 X L K h t0 := by kernel_rfl
/-- (cubbyhole/victim.choice).order$1 -/
def f239 (X : Caller) (L : Looper) (K : Value → AHeap → Prop) (h : AHeap) (t0 t1 : Value) : Prop :=
 regK 2 h fun b h =>
 opK (boxV t0 (b + 0) h) fun t2 h =>
 rdK ((fun h : AHeap => fAddr 0 t2) ((h.bump 6))) ((h.bump 6)) fun t4 h =>
 rdK (ld1 t4 h) h fun t5 h =>
 rdK (fAddr 1 t1) h fun t6 h =>
 rdK (ld1 t6 h) h fun t7 h =>
 rdK (binV P .eql 90 90 t5 t7 h) h fun t8 h =>
 K t8 h
theorem f239_eq (X : Caller) (L : Looper) (K : Value → AHeap → Prop) (h : AHeap) (t0 t1 : Value) : aJob P X L (.call 239 [t0, t1]) K h = f239 X L K h t0 t1 := by kernel_rfl
def f240_l8 (X : Caller) (L : Looper) (a : AAct) (K : ActPost) (h : AHeap) : Prop :=
 rdK ((fun h : AHeap => binV P .neq 90 90 (a.env 7) (a.env 5) h) ((h.bump 3))) ((h.bump 3)) fun t25 h =>
 condK t25
 (regK 5 h fun b h =>
 opK (bsliceV P 151 1 [(0, (a.env 7))] (b + 2) h) fun t36 h =>
 opK (builtinV P .append [151, 151] [(a.env 6), t36] (b + 3) h) fun t37 h =>
 opK ((fun h : AHeap => nilV (a.env 0) h) ((h.bump 9))) fun t27 h =>
 rdK (fAddr 0 t27) h fun t28 h =>
 rdK (ld1 t28 h) h fun t29 h =>
 rdK (ixS 3 t29 (a.env 7)) h fun t31 h =>
 rdK (fAddr 1 t31) h fun t32 h =>
 rdK (ld1 t32 h) h fun t33 h =>
 K .normal ⟨(upds a.env [(23, (a.env 7)), (24, (a.env 5)), (25, t25), (34, (a.env 6)), (35, (a.env 7)), (36, t36), (37, t37), (6, t37), (26, (a.env 0)), (27, t27), (28, t28), (29, t29), (30, (a.env 7)), (31, t31), (32, t32), (33, t33), (7, t33)]), a.defers⟩ h)
 (K (.exit 0) ⟨(upds a.env [(23, (a.env 7)), (24, (a.env 5)), (25, t25)]), a.defers⟩ h)
def f240_j6 (X : Caller) (L : Looper) (K : Value → AHeap → Prop) (h : AHeap) (a : AAct) : Prop :=
 leaveA P X Tryz.f240 ⟨(upds a.env [(38, (a.env 6)), (4, (a.env 6))]), a.defers⟩ K a.defers ((h.bump 2))
/-- (*cubbyhole/links.Links).all -/
def f240 (X : Caller) (L : Looper) (K : Value → AHeap → Prop) (h : AHeap) (t0 t1 : Value) : Prop :=
 X (.call 280 [t0, t1]) (fun t10 h =>
 rdK (binC P .neq 31 31 t10 (.int .i64 0) h) h fun t11 h =>
 condK t11
 (K (.slice none 0 0) ((h.bump 1)))
 (X (.call 218 [t1, t0]) (fun t14 h =>
 opK ((fun h : AHeap => nilV t0 h) (((h.bump 1).bump 9))) fun t16 h =>
 rdK (fAddr 0 t16) h fun t17 h =>
 rdK (ld1 t17 h) h fun t18 h =>
 rdK (ixS 3 t18 t14) h fun t20 h =>
 rdK (fAddr 1 t20) h fun t21 h =>
 rdK (ld1 t21 h) h fun t22 h =>
 L (f240_l8 X L) ⟨(upds (argsEnv [t0, t1]) [(4, (.slice none 0 0)), (8, t0), (9, t1), (10, t10), (11, t11), (12, t1), (13, t0), (14, t14), (5, t14), (6, (.slice none 0 0)), (15, t0), (16, t16), (17, t17), (18, t18), (19, t14), (20, t20), (21, t21), (22, t22), (7, t22)]), []⟩ (blkX 0 (seqX (fun a h => f240_j6 X L K h a) (finX P X Tryz.f240 K))) h) ((h.bump 4)))) (((h.bump 1).bump 4))
theorem f240_eq (X : Caller) (L : Looper) (K : Value → AHeap → Prop) (h : AHeap) (t0 t1 : Value) : aJob P X L (.call 240 [t0, t1]) K h = f240 X L K h t0 t1 := by kernel_rfl
def f241_l1 (X : Caller) (L : Looper) (a : AAct) (K : ActPost) (h : AHeap) : Prop :=
 rdK ((fun h : AHeap => binV P .lss 3 3 (a.env 7) (a.env 6) h) ((h.bump 1))) ((h.bump 1)) fun t8 h =>
 condK t8
 (rdK ((fun h : AHeap => ixS 1 (a.env 5) (a.env 7)) ((h.bump 3))) ((h.bump 3)) fun t9 h =>
 rdK (ld1 t9 h) h fun t10 h =>
 callV X (a.env 0) [t10] (fun t13 h =>
 rdK (unV P .not 4 t13) h fun t14 h =>
 condK t14
 (K .ret ⟨(upds a.env [(8, t8), (9, t9), (10, t10), (4, t10), (11, (a.env 0)), (12, t10), (13, t13), (14, t14)]), a.defers⟩ h)
 (rdK ((fun h : AHeap => binC P .add 3 3 (a.env 7) (.int .i64 1) h) ((h.bump 2))) ((h.bump 2)) fun t15 h =>
 K .normal ⟨(upds a.env [(8, t8), (9, t9), (10, t10), (4, t10), (11, (a.env 0)), (12, t10), (13, t13), (14, t14), (15, t15), (7, t15)]), a.defers⟩ h)) ((h.bump 4)))
 (K (.exit 0) ⟨(upds a.env [(8, t8)]), a.defers⟩ h)
/-- (*cubbyhole/links.Links).All$1 -/
def f241 (X : Caller) (L : Looper) (K : Value → AHeap → Prop) (h : AHeap) (t0 t1 : Value) : Prop :=
 regK 3 h fun b h =>
 rdK (ld1 t1 h) h fun t5 h =>
 opK (builtinV P .len [151] [t5] (b + 1) h) fun t6 h =>
 L (f241_l1 X L) ⟨(upds (argsEnv [t0, t1]) [(5, t5), (6, t6), (7, (.int .i64 0))]), []⟩ (blkX 0 (finX P X Tryz.f241 K)) h
theorem f241_eq (X : Caller) (L : Looper) (K : Value → AHeap → Prop) (h : AHeap) (t0 t1 : Value) : aJob P X L (.call 241 [t0, t1]) K h = f241 X L K h t0 t1 := by kernel_rfl
/-- (*cubbyhole/entrylog.Log).Copy -/
def f242 (X : Caller) (L : Looper) (K : Value → AHeap → Prop) (h : AHeap) (t0 : Value) : Prop :=
 X (.call 159 [t0]) (fun t4 h =>
 condK t4
 (K (.pointer none) ((h.bump 1)))
 (regK 12 h fun b h =>
 opK (nilV t0 h) fun t6 h =>
 rdK (fAddr 1 t6) h fun t7 h =>
 rdK (ld1 t7 h) h fun t8 h =>
 opK (nilV t0 h) fun t11 h =>
 rdK (fAddr 2 t11) h fun t12 h =>
 rdK (ld1 t12 h) h fun t13 h =>
 X (.call 281 [t8]) (fun t9 h =>
 chkK (chkR ((ld1 t12 h).map (·, h)) t13 true) <|
 rdK (buildA P 255 [(0, (.bool true)), (1, t9), (2, t13)]) h fun t14 h =>
 opK (boxV t14 (b + 10) h) fun t15 h =>
 K t15 h) h)) (((h.bump 1).bump 2))
theorem f242_eq (X : Caller) (L : Looper) (K : Value → AHeap → Prop) (h : AHeap) (t0 : Value) : aJob P X L (.call 242 [t0]) K h = f242 X L K h t0 := by kernel_rfl
def f243_j2 (X : Caller) (L : Looper) (K : Value → AHeap → Prop) (h : AHeap) (t3 t12 t2 : Value) : Prop :=
 K (.func (.func 282) #[] #[t3]) ((h.bump 2))
/-- (*cubbyhole/entrylog.Log).All -/
def f243 (X : Caller) (L : Looper) (K : Value → AHeap → Prop) (h : AHeap) (t0 : Value) : Prop :=
 regK 1 ((h.bump 1)) fun b h =>
 opK (newV [.slice none 0 0] (b + 0) h) fun t3 h =>
 X (.call 159 [t0]) (fun t5 h =>
 rdK (unV P .not 4 t5) h fun t6 h =>
 condK t6
 (opK ((fun h : AHeap => nilV t0 h) ((h.bump 6))) fun t8 h =>
  rdK (fAddr 1 t8) h fun t9 h =>
  rdK (ld1 t9 h) h fun t10 h =>
  X (.call 281 [t10]) (fun t11 h =>
  stK (stV 1 t3 t11 h) fun h =>
  f243_j2 X L K h t3 undef .nilFunc) h)
 (f243_j2 X L K h t3 undef .nilFunc)) ((h.bump 3))
theorem f243_eq (X : Caller) (L : Looper) (K : Value → AHeap → Prop) (h : AHeap) (t0 : Value) : aJob P X L (.call 243 [t0]) K h = f243 X L K h t0 := by kernel_rfl
end Go.Proofs.YtcoofhpdkgkjcaaGreatDoor.F
