/- The functions of the program, as shallow texts (printed by a program of this place). -/
import Derived.Test.YtcoofhpdkgkjcaaGreatDoorFW
namespace Go.Proofs.YtcoofhpdkgkjcaaGreatDoor.F
set_option linter.unusedVariables false
set_option linter.unusedSimpArgs false
open Go Go.Cub
/-- cubbyhole/birth.zero -/
def f164 (X : Caller) (L : Looper) (K : Value → AHeap → Prop) (h : AHeap) (t0 : Value) : Prop :=
 X (.call 194 [t0]) (fun t4 h =>
 rdK (binC P .eql 133 133 t4 (.pointer none) h) h fun t5 h =>
 K t5 h) (((h.bump 1).bump 4))
theorem f164_eq (X : Caller) (L : Looper) (K : Value → AHeap → Prop) (h : AHeap) (t0 : Value) : aJob P X L (.call 164 [t0]) K h = f164 X L K h t0 := by kernel_rfl
def f165_a0 (X : Caller) (L : Looper) (a : AAct) (K : ActPost) (h : AHeap) : Prop :=
 regK 2 ((h.bump 1)) fun b_2 h =>
 opK (newV [.string ⟨#[]⟩, .slice none 0 0, .int .u64 0, .int .u64 0] (b_2 + 0) h) fun t12 h =>
 stK (stV 4 t12 (a.env 16) h) fun h =>
 K .normal ⟨(upds a.env [(11, (a.env 15)), (12, t12)]), a.defers⟩ h
def f165_b0 (X : Caller) (L : Looper) (a : AAct) (K : ActPost) (h : AHeap) : Prop :=
 rdK ((fun h : AHeap => fAddr 3 (a.env 12)) ((h.bump 20))) ((h.bump 20)) fun t17 h =>
 rdK (ld1 t17 h) h fun t18 h =>
 rdK (ld1 (a.env 4) h) h fun t19 h =>
 rdK (binV P .geq 27 27 t18 t19 h) h fun t20 h =>
 gopK (wantV t20 true) h ((fAddr 3 (a.env 12)).map (·, h)) fun t22 h =>
 gopK (wantV t20 true) h ((ld1 t22 h).map (·, h)) fun t23 h =>
 gopK (wantV t20 true) h ((ld1 (a.env 5) h).map (·, h)) fun t24 h =>
 gopK (wantV t20 true) h ((binV P .leq 27 27 t23 t24 h).map (·, h)) fun t25 h =>
 opK (pickV t20 t25 (.bool false) h) fun t26 h =>
 gopK (wantV t26 true) h ((ld1 (a.env 10) h).map (·, h)) fun t28 h =>
 gopK (wantV t26 true) h ((unV P .not 4 t28).map (·, h)) fun t29 h =>
 gopK (wantV t26 true) h (some (t29, h)) fun t30 h =>
 gopK (wantV t30 false) h ((fAddr 3 (a.env 12)).map (·, h)) fun t31 h =>
 gopK (wantV t30 false) h ((ld1 t31 h).map (·, h)) fun t32 h =>
 gopK (wantV t30 false) h ((ld1 (a.env 9) h).map (·, h)) fun t33 h =>
 gopK (wantV t30 false) h ((binV P .lss 27 27 t32 t33 h).map (·, h)) fun t34 h =>
 gopK (wantV t26 true) h (pickV t30 (.bool true) t34 h) fun t35 h =>
 opK (pickV t26 t35 (.bool false) h) fun t36 h =>
 condK t36
 (rdK ((fun h : AHeap => fAddr 3 (a.env 12)) ((h.bump 6))) ((h.bump 6)) fun t38 h =>
  rdK (ld1 t38 h) h fun t39 h =>
  stK (stV 1 (a.env 8) (a.env 11) h) fun h =>
  chkK (chkR ((ld1 t38 h).map (·, h)) t39 true) <|
  stK (stV 1 (a.env 9) t39 h) fun h =>
  stK (stV 1 (a.env 10) (.bool true) h) fun h =>
  K .normal ⟨(upds a.env [(17, t17), (18, t18), (19, t19), (20, t20), (21, t20), (22, t22), (23, t23), (24, t24), (25, t25), (26, t26), (27, t26), (28, t28), (29, t29), (30, t30), (31, t31), (32, t32), (33, t33), (34, t34), (35, t35), (36, t36), (37, (a.env 11)), (38, t38), (39, t39)]), a.defers⟩ h)
 (K .normal ⟨(upds a.env [(17, t17), (18, t18), (19, t19), (20, t20), (21, t20), (22, t22), (23, t23), (24, t24), (25, t25), (26, t26), (27, t26), (28, t28), (29, t29), (30, t30), (31, t31), (32, t32), (33, t33), (34, t34), (35, t35), (36, t36)]), a.defers⟩ h)
noncomputable def f165_ca0 : Code := (rangesF Tryz.f165 0).1
noncomputable def f165_cb0 : Code := (rangesF Tryz.f165 0).2
theorem f165_a0_eq (X : Caller) (L : Looper) (a : AAct) (K : ActPost) (h : AHeap) : aCode P X L true f165_ca0 a K h = f165_a0 X L a K h := by kernel_rfl
theorem f165_b0_eq (X : Caller) (L : Looper) (a : AAct) (K : ActPost) (h : AHeap) : aCode P X L true f165_cb0 a K h = f165_b0 X L a K h := by kernel_rfl
def f165_j2 (X : Caller) (L : Looper) (K : Value → AHeap → Prop) (h : AHeap) (a : AAct) : Prop :=
 rdK ((fun h : AHeap => ld1 (a.env 8) h) ((h.bump 4))) ((h.bump 4)) fun t40 h =>
 rdK (ld1 (a.env 10) h) h fun t41 h =>
 leaveA P X Tryz.f165 ⟨(upds a.env [(40, t40), (41, t41), (6, t40), (7, t41)]), a.defers⟩ K a.defers h
/-- cubbyhole/birth.first -/
def f165 (X : Caller) (L : Looper) (K : Value → AHeap → Prop) (h : AHeap) (t0 t1 t2 : Value) : Prop :=
 regK 4 h fun b h =>
 opK (boxV t1 (b + 0) h) fun t4 h =>
 opK (boxV t2 (b + 1) h) fun t5 h =>
 regK 6 h fun b_1 h =>
 opK (newV [.int .u32 0] (b_1 + 0) h) fun t8 h =>
 opK (newV [.int .u64 0] (b_1 + 1) h) fun t9 h =>
 opK (newV [.bool false] (b_1 + 2) h) fun t10 h =>
 stK (stV 1 t8 (.int .u32 0) h) fun h =>
 stK (stV 1 t9 (.int .u64 0) h) fun h =>
 stK (stV 1 t10 (.bool false) h) fun h =>
 callM P X t0 "All" [] (fun t14 h =>
 rangeK X t14 ⟨(upds (argsEnv [t0, t1, t2]) [(4, t4), (5, t5), (6, (.int .u32 0)), (7, (.bool false)), (8, t8), (9, t9), (10, t10), (13, t0), (14, t14)]), []⟩ [15, 16] f165_ca0 f165_cb0 (blkX 0 (seqX (fun a h => f165_j2 X L K h a) (finX P X Tryz.f165 K))) h) ((h.bump 2))
theorem f165_eq (X : Caller) (L : Looper) (K : Value → AHeap → Prop) (h : AHeap) (t0 t1 t2 : Value) : aJob P X L (.call 165 [t0, t1, t2]) K h = f165 X L K h t0 t1 t2 := by kernel_rfl
def f166_l7 (X : Caller) (L : Looper) (a : AAct) (K : ActPost) (h : AHeap) : Prop :=
 rdK ((fun h : AHeap => binV P .lss 3 3 (a.env 33) (a.env 32) h) ((h.bump 1))) ((h.bump 1)) fun t34 h =>
 condK t34
 (X (.call 218 [(a.env 33), (a.env 6)]) (fun t38 h =>
 regK 13 h fun b_1 h =>
 opK (nilV (a.env 6) h) fun t40 h =>
 rdK (fAddr 0 t40) h fun t41 h =>
 rdK (ld1 t41 h) h fun t42 h =>
 rdK (binC P .add 3 3 (a.env 33) (.int .i64 1) h) h fun t47 h =>
 opK (convertA P 3 90 t47 (b_1 + 9) h) fun t48 h =>
 rdK (buildA P 321 [(0, t38), (1, t38), (2, t48)]) h fun t49 h =>
 rdK (ixS 3 t42 t38) h fun t50 h =>
 stK (stV 3 t50 t49 h) fun h =>
 rdK ((fun h : AHeap => binC P .add 3 3 (a.env 33) (.int .i64 1) h) ((h.bump 2))) ((h.bump 2)) fun t51 h =>
 K .normal ⟨(upds a.env [(34, t34), (35, (a.env 33)), (7, (a.env 33)), (36, (a.env 33)), (37, (a.env 6)), (38, t38), (8, t38), (39, (a.env 6)), (40, t40), (41, t41), (42, t42), (43, t38), (44, t38), (45, t38), (46, (a.env 33)), (47, t47), (48, t48), (49, t49), (50, t50), (51, t51), (33, t51)]), a.defers⟩ h) (((h.bump 2).bump 4)))
 (K (.exit 0) ⟨(upds a.env [(34, t34)]), a.defers⟩ h)
def f166_j5 (X : Caller) (L : Looper) (K : Value → AHeap → Prop) (h : AHeap) (a : AAct) : Prop :=
 leaveA P X Tryz.f166 ⟨(upds a.env [(52, (a.env 6)), (4, (a.env 6)), (5, (.int .i64 0))]), a.defers⟩ K a.defers ((h.bump 3))
/-- cubbyhole/links.New -/
def f166 (X : Caller) (L : Looper) (K : Value → AHeap → Prop) (h : AHeap) (t0 t1 : Value) : Prop :=
 rdK ((fun h : AHeap => binC P .lss 3 3 t0 (.int .i64 1) h) (((h.bump 2).bump 14))) (((h.bump 2).bump 14)) fun t10 h =>
 gopK (wantV t10 false) h (some (t0, h)) fun t12 h =>
 gopK (wantV t10 false) h ((binC P .gtr 3 3 t12 (.int .i64 4194304) h).map (·, h)) fun t13 h =>
 opK (pickV t10 (.bool true) t13 h) fun t14 h =>
 gopK (wantV t14 false) h (some (t1, h)) fun t16 h =>
 gopK (wantV t14 false) h ((binC P .lss 3 3 t16 (.int .i64 1) h).map (·, h)) fun t17 h =>
 opK (pickV t14 (.bool true) t17 h) fun t18 h =>
 gopK (wantV t18 false) h (some (t1, h)) fun t20 h =>
 gopK (wantV t18 false) h ((binC P .gtr 3 3 t20 (.int .i64 4096) h).map (·, h)) fun t21 h =>
 opK (pickV t18 (.bool true) t21 h) fun t22 h =>
 condK t22
 (K (.tuple #[(.pointer none), (.int .i64 2)]) ((h.bump 2)))
 (regK 10 h fun b h =>
 rdK (binV P .add 3 3 t0 t1 h) h fun t25 h =>
 opK (makeSliceA P 315 t25 t25 (b + 3) h) fun t26 h =>
 opK (makeSliceA P 34 t1 t1 (b + 6) h) fun t29 h =>
 rdK (buildA P 317 [(0, t26), (1, t0), (2, t29)]) h fun t30 h =>
 opK (boxV t30 (b + 8) h) fun t31 h =>
 L (f166_l7 X L) ⟨(upds (argsEnv [t0, t1]) [(4, (.pointer none)), (5, (.int .i64 0)), (9, t0), (10, t10), (11, t10), (12, t12), (13, t13), (14, t14), (15, t14), (16, t16), (17, t17), (18, t18), (19, t18), (20, t20), (21, t21), (22, t22), (23, t0), (24, t1), (25, t25), (26, t26), (27, t0), (28, t1), (29, t29), (30, t30), (31, t31), (6, t31), (32, t1), (33, (.int .i64 0))]), []⟩ (blkX 0 (seqX (fun a h => f166_j5 X L K h a) (finX P X Tryz.f166 K))) ((h.bump 2)))
theorem f166_eq (X : Caller) (L : Looper) (K : Value → AHeap → Prop) (h : AHeap) (t0 t1 : Value) : aJob P X L (.call 166 [t0, t1]) K h = f166 X L K h t0 t1 := by kernel_rfl
/-- cubbyhole/probe.Valid -/
def f167 (X : Caller) (L : Looper) (K : Value → AHeap → Prop) (h : AHeap) (t0 : Value) : Prop :=
 rdK ((fun h : AHeap => binC P .gtr 3 3 t0 (.int .i64 0) h) (((h.bump 1).bump 14))) (((h.bump 1).bump 14)) fun t4 h =>
 gopK (wantV t4 true) h (some (t0, h)) fun t6 h =>
 gopK (wantV t4 true) h ((binC P .leq 3 3 t6 (.int .i64 1048576) h).map (·, h)) fun t7 h =>
 opK (pickV t4 t7 (.bool false) h) fun t8 h =>
 gopK (wantV t8 true) h (some (t0, h)) fun t10 h =>
 gopK (wantV t8 true) h (some (t0, h)) fun t11 h =>
 gopK (wantV t8 true) h ((binC P .sub 3 3 t11 (.int .i64 1) h).map (·, h)) fun t12 h =>
 gopK (wantV t8 true) h ((binV P .and 3 3 t10 t12 h).map (·, h)) fun t13 h =>
 gopK (wantV t8 true) h ((binC P .eql 3 3 t13 (.int .i64 0) h).map (·, h)) fun t14 h =>
 opK (pickV t8 t14 (.bool false) h) fun t15 h =>
 K t15 h
theorem f167_eq (X : Caller) (L : Looper) (K : Value → AHeap → Prop) (h : AHeap) (t0 : Value) : aJob P X L (.call 167 [t0]) K h = f167 X L K h t0 := by kernel_rfl
/-- cubbyhole/control.Blank -/
def f168 (X : Caller) (L : Looper) (K : Value → AHeap → Prop) (h : AHeap) : Prop :=
 X (.call 219 [(.int .u8 128)]) (fun t1 h =>
 K t1 h) (((h.bump 1).bump 2))
theorem f168_eq (X : Caller) (L : Looper) (K : Value → AHeap → Prop) (h : AHeap) : aJob P X L (.call 168 []) K h = f168 X L K h  := by kernel_rfl
/-- cubbyhole/wheel.New -/
def f169 (X : Caller) (L : Looper) (K : Value → AHeap → Prop) (h : AHeap) : Prop :=
 X (.call 166 [(.int .i64 8), (.int .i64 256)]) (fun t4 h =>
 opK (extV 0 t4 h) fun t5 h =>
 opK (extV 1 t4 h) fun t6 h =>
 regK 4 h fun b h =>
 rdK (buildA P 326 [(0, t5)]) h fun t8 h =>
 opK (boxV t8 (b + 2) h) fun t9 h =>
 K t9 h) (((h.bump 1).bump 6))
theorem f169_eq (X : Caller) (L : Looper) (K : Value → AHeap → Prop) (h : AHeap) : aJob P X L (.call 169 []) K h = f169 X L K h  := by kernel_rfl
def f170_j2 (X : Caller) (L : Looper) (K : Value → AHeap → Prop) (h : AHeap) (t6 t2 t3 t7 t13 t14 t4 t5 : Value) : Prop :=
 K (.tuple #[(.func (.func 221) #[] #[t6, t2, t3]), t7]) ((h.bump 4))
/-- cubbyhole/probe.All -/
def f170 (X : Caller) (L : Looper) (K : Value → AHeap → Prop) (h : AHeap) (t0 t1 : Value) : Prop :=
 regK 4 h fun b h =>
 opK (boxV t0 (b + 0) h) fun t2 h =>
 opK (boxV t1 (b + 1) h) fun t3 h =>
 regK 6 h fun b_1 h =>
 rdK (ld1 t3 h) h fun t8 h =>
 rdK (ld1 t3 h) h fun t9 h =>
 opK (newV [.int .i64 0] (b_1 + 3) h) fun t6 h =>
 X (.call 220 [t9, (.int .i64 0)]) (fun t10 h =>
 chkK (chkR ((ld1 t3 h).map (·, h)) t8 true) <|
 stK (stV 1 t6 t8 h) fun h =>
 rdK ((fun h : AHeap => binC P .neq 31 31 t10 (.int .i64 0) h) ((h.bump 2))) ((h.bump 2)) fun t12 h =>
 condK t12
 (stK ((fun h : AHeap => stV 1 t6 (.int .i64 0) h) ((h.bump 1))) fun h =>
  f170_j2 X L K h t6 t2 t3 t10 undef undef .nilFunc ((.int .i64 0)))
 (f170_j2 X L K h t6 t2 t3 t10 undef undef .nilFunc ((.int .i64 0)))) h
theorem f170_eq (X : Caller) (L : Looper) (K : Value → AHeap → Prop) (h : AHeap) (t0 t1 : Value) : aJob P X L (.call 170 [t0, t1]) K h = f170 X L K h t0 t1 := by kernel_rfl
/-- cubbyhole/hash.Part -/
def f171 (X : Caller) (L : Looper) (K : Value → AHeap → Prop) (h : AHeap) (t0 : Value) : Prop :=
 rdK ((fun h : AHeap => binC P .shr 27 276 t0 (.int .u64 7) h) (((h.bump 1).bump 3))) (((h.bump 1).bump 3)) fun t4 h =>
 K t4 h
theorem f171_eq (X : Caller) (L : Looper) (K : Value → AHeap → Prop) (h : AHeap) (t0 : Value) : aJob P X L (.call 171 [t0]) K h = f171 X L K h t0 := by kernel_rfl
/-- cubbyhole/word.All -/
def f172 (X : Caller) (L : Looper) (K : Value → AHeap → Prop) (h : AHeap) (t0 : Value) : Prop :=
 regK 2 h fun b h =>
 opK (boxV t0 (b + 0) h) fun t1 h =>
 K (.func (.func 223) #[] #[t1]) ((h.bump 2))
theorem f172_eq (X : Caller) (L : Looper) (K : Value → AHeap → Prop) (h : AHeap) (t0 : Value) : aJob P X L (.call 172 [t0]) K h = f172 X L K h t0 := by kernel_rfl
/-- cubbyhole/control.Match -/
def f173 (X : Caller) (L : Looper) (K : Value → AHeap → Prop) (h : AHeap) (t0 t1 : Value) : Prop :=
 rdK ((fun h : AHeap => binC P .gtr 5 5 t1 (.int .u8 127) h) (((h.bump 1).bump 2))) (((h.bump 1).bump 2)) fun t6 h =>
 condK t6
 (K (.int .u8 0) ((h.bump 1)))
 (X (.call 224 [t0, t1]) (fun t9 h =>
 K t9 h) ((h.bump 4)))
theorem f173_eq (X : Caller) (L : Looper) (K : Value → AHeap → Prop) (h : AHeap) (t0 t1 : Value) : aJob P X L (.call 173 [t0, t1]) K h = f173 X L K h t0 t1 := by kernel_rfl
/-- cubbyhole/hash.Tag -/
def f174 (X : Caller) (L : Looper) (K : Value → AHeap → Prop) (h : AHeap) (t0 : Value) : Prop :=
 regK 4 ((h.bump 1)) fun b h =>
 rdK (binC P .and 27 27 t0 (.int .u64 127) h) h fun t4 h =>
 opK (convertA P 27 5 t4 (b + 2) h) fun t5 h =>
 K t5 h
theorem f174_eq (X : Caller) (L : Looper) (K : Value → AHeap → Prop) (h : AHeap) (t0 : Value) : aJob P X L (.call 174 [t0]) K h = f174 X L K h t0 := by kernel_rfl
/-- cubbyhole/control.Empties -/
def f175 (X : Caller) (L : Looper) (K : Value → AHeap → Prop) (h : AHeap) (t0 : Value) : Prop :=
 X (.call 224 [t0, (.int .u8 128)]) (fun t4 h =>
 K t4 h) (((h.bump 1).bump 3))
theorem f175_eq (X : Caller) (L : Looper) (K : Value → AHeap → Prop) (h : AHeap) (t0 : Value) : aJob P X L (.call 175 [t0]) K h = f175 X L K h t0 := by kernel_rfl
def f176_j11 (X : Caller) (L : Looper) (K : Value → AHeap → Prop) (h : AHeap) (t6 : Value) : Prop :=
 K (.int .i64 0) ((h.bump 1))
/-- (*cubbyhole/swiss.Index).Remove -/
def f176 (X : Caller) (L : Looper) (K : Value → AHeap → Prop) (h : AHeap) (t0 t1 t2 : Value) : Prop :=
 regK 2 h fun b h =>
 opK (boxV t2 (b + 0) h) fun t5 h =>
 X (.call 121 [t0]) (fun t11 h =>
 condK t11
 (K (.int .i64 1) ((h.bump 1)))
 (X (.call 122 [t0, t1, (.func (.func 225) #[] #[t5])]) (fun t16 h =>
 opK (extV 0 t16 h) fun t17 h =>
 opK (extV 1 t16 h) fun t18 h =>
 opK (extV 2 t16 h) fun t19 h =>
 rdK ((fun h : AHeap => binC P .neq 31 31 t19 (.int .i64 0) h) ((h.bump 2))) ((h.bump 2)) fun t21 h =>
 condK t21
 (K t19 ((h.bump 2)))
 (opK ((fun h : AHeap => nilV t17 h) ((h.bump 13))) fun t26 h =>
 rdK (fAddr 0 t26) h fun t27 h =>
 rdK (ld1 t27 h) h fun t28 h =>
 X (.call 226 [t28, t18]) (fun t30 h =>
 opK (extV 0 t30 h) fun t31 h =>
 opK (extV 1 t30 h) fun t32 h =>
 opK (nilV t17 h) fun t33 h =>
 rdK (fAddr 0 t33) h fun t34 h =>
 stK (stV 1 t34 t31 h) fun h =>
 opK ((fun h : AHeap => nilV t17 h) ((h.bump 6))) fun t37 h =>
 rdK (fAddr 1 t37) h fun t38 h =>
 rdK (ixR 8 1 t38 t18) h fun t39 h =>
 stK (stV 1 t39 (.int .u32 0) h) fun h =>
 opK ((fun h : AHeap => nilV t0 h) ((h.bump 8))) fun t41 h =>
 rdK (fAddr 1 t41) h fun t42 h =>
 rdK (ld1 t42 h) h fun t43 h =>
 rdK (binC P .sub 3 3 t43 (.int .i64 1) h) h fun t44 h =>
 opK (nilV t0 h) fun t45 h =>
 rdK (fAddr 1 t45) h fun t46 h =>
 stK (stV 1 t46 t44 h) fun h =>
 opK ((fun h : AHeap => nilV t17 h) ((h.bump 6))) fun t48 h =>
 rdK (fAddr 0 t48) h fun t49 h =>
 rdK (ld1 t49 h) h fun t50 h =>
 X (.call 175 [t50]) (fun t51 h =>
 rdK (binC P .eql 5 5 t51 (.int .u8 0) h) h fun t52 h =>
 condK t52
 (opK ((fun h : AHeap => nilV t0 h) ((h.bump 8))) fun t54 h =>
  rdK (fAddr 2 t54) h fun t55 h =>
  rdK (ld1 t55 h) h fun t56 h =>
  rdK (binC P .add 3 3 t56 (.int .i64 1) h) h fun t57 h =>
  opK (nilV t0 h) fun t58 h =>
  rdK (fAddr 2 t58) h fun t59 h =>
  stK (stV 1 t59 t57 h) fun h =>
  f176_j11 X L K h ((.int .i64 0)))
 (f176_j11 X L K h ((.int .i64 0)))) h) h)) ((h.bump 11)))) ((h.bump 2))
theorem f176_eq (X : Caller) (L : Looper) (K : Value → AHeap → Prop) (h : AHeap) (t0 t1 t2 : Value) : aJob P X L (.call 176 [t0, t1, t2]) K h = f176 X L K h t0 t1 t2 := by kernel_rfl
/-- (*cubbyhole/entrylog.Log).Remove -/
def f177 (X : Caller) (L : Looper) (K : Value → AHeap → Prop) (h : AHeap) (t0 t1 : Value) : Prop :=
 regK 2 h fun b h =>
 opK (newV [.string ⟨#[]⟩, .slice none 0 0, .int .u64 0, .int .u64 0] (b + 0) h) fun t4 h =>
 X (.call 126 [t0, t1]) (fun t12 h =>
 opK (extV 0 t12 h) fun t13 h =>
 opK (extV 1 t12 h) fun t14 h =>
 rdK ((fun h : AHeap => binC P .neq 31 31 t14 (.int .i64 0) h) ((h.bump 2))) ((h.bump 2)) fun t16 h =>
 condK t16
 (rdK ((fun h : AHeap => buildA P 44 []) ((h.bump 4))) ((h.bump 4)) fun t17 h =>
  stK (stV 4 t4 t17 h) fun h =>
  retK (consR (ldN 4 t4 h) (consR (some t14) (some []))) K h)
 (regK 6 h fun b_1 h =>
 opK (nilV t13 h) fun t20 h =>
 rdK (ldN 4 t20 h) h fun t21 h =>
 X (.call 127 [t21]) (fun t22 h =>
 opK (newV [.string ⟨#[]⟩, .slice none 0 0, .int .u64 0, .int .u64 0] (b_1 + 4) h) fun t8 h =>
 stK (stV 4 t8 t22 h) fun h =>
 rdK ((fun h : AHeap => buildA P 44 []) ((h.bump 4))) ((h.bump 4)) fun t24 h =>
 opK (nilV t13 h) fun t25 h =>
 stK (stV 4 t25 t24 h) fun h =>
 opK ((fun h : AHeap => nilV t0 h) ((h.bump 8))) fun t27 h =>
 rdK (fAddr 2 t27) h fun t28 h =>
 rdK (ld1 t28 h) h fun t29 h =>
 rdK (binC P .sub 3 3 t29 (.int .i64 1) h) h fun t30 h =>
 opK (nilV t0 h) fun t31 h =>
 rdK (fAddr 2 t31) h fun t32 h =>
 stK (stV 1 t32 t30 h) fun h =>
 rdK ((fun h : AHeap => ldN 4 t8 h) ((h.bump 3))) ((h.bump 3)) fun t33 h =>
 stK (stV 4 t4 t33 h) fun h =>
 retK (consR (ldN 4 t4 h) (consR (some (.int .i64 0)) (some []))) K h) h)) ((h.bump 8))
theorem f177_eq (X : Caller) (L : Looper) (K : Value → AHeap → Prop) (h : AHeap) (t0 t1 : Value) : aJob P X L (.call 177 [t0, t1]) K h = f177 X L K h t0 t1 := by kernel_rfl
/-- cubbyhole/growth.Remove -/
def f178 (X : Caller) (L : Looper) (K : Value → AHeap → Prop) (h : AHeap) (t0 t1 t2 : Value) : Prop :=
 regK 2 h fun b h =>
 opK (newV [.int .i64 0, .bool false] (b + 0) h) fun t6 h =>
 X (.call 210 [t0, t1, t2]) (fun t12 h =>
 rdK ((fun h : AHeap => binC P .neq 31 31 t12 (.int .i64 0) h) ((h.bump 2))) ((h.bump 2)) fun t14 h =>
 condK t14
 (rdK ((fun h : AHeap => buildA P 171 []) ((h.bump 4))) ((h.bump 4)) fun t15 h =>
  stK (stV 2 t6 t15 h) fun h =>
  retK (consR (ldN 2 t6 h) (consR (some t12) (some []))) K h)
 (rdK ((fun h : AHeap => binC P .leq 3 3 t1 (.int .i64 7340032) h) ((h.bump 9))) ((h.bump 9)) fun t18 h =>
 gopK (wantV t18 true) h (some (t0, h)) fun t20 h =>
 gopK (wantV t18 true) h ((binC P .mul 3 3 t20 (.int .i64 8) h).map (·, h)) fun t21 h =>
 gopK (wantV t18 true) h (some (t1, h)) fun t22 h =>
 gcallK (wantV t18 true) X (.call 227 [t22]) h fun t23 h =>
 gopK (wantV t18 true) h ((binV P .gtr 3 3 t21 t23 h).map (·, h)) fun t24 h =>
 opK (pickV t18 t24 (.bool false) h) fun t25 h =>
 condK t25
 (X (.call 227 [t1]) (fun t27 h =>
  rdK (binC P .quo 3 3 t27 (.int .i64 8) h) h fun t28 h =>
  rdK (buildA P 171 [(0, t28), (1, (.bool true))]) h fun t29 h =>
  stK (stV 2 t6 t29 h) fun h =>
  retK (consR (ldN 2 t6 h) (consR (some (.int .i64 0)) (some []))) K h) ((h.bump 6)))
 (rdK ((fun h : AHeap => buildA P 171 [(0, t0)]) ((h.bump 4))) ((h.bump 4)) fun t31 h =>
 stK (stV 2 t6 t31 h) fun h =>
 retK (consR (ldN 2 t6 h) (consR (some (.int .i64 0)) (some []))) K h))) ((h.bump 5))
theorem f178_eq (X : Caller) (L : Looper) (K : Value → AHeap → Prop) (h : AHeap) (t0 t1 t2 : Value) : aJob P X L (.call 178 [t0, t1, t2]) K h = f178 X L K h t0 t1 t2 := by kernel_rfl
/-- (*cubbyhole/cascade.Cascade).place -/
def f179 (X : Caller) (L : Looper) (K : Value → AHeap → Prop) (h : AHeap) (t0 t1 : Value) : Prop :=
 opK ((fun h : AHeap => nilV t0 h) (((h.bump 2).bump 10))) fun t8 h =>
 rdK (fAddr 0 t8) h fun t9 h =>
 rdK (ld1 t9 h) h fun t10 h =>
 rdK (binV P .xor 38 38 t1 t10 h) h fun t11 h =>
 X (.call 228 [t11]) (fun t12 h =>
 rdK (binC P .sub 3 3 t12 (.int .i64 1) h) h fun t13 h =>
 rdK (binC P .quo 3 3 t13 (.int .i64 8) h) h fun t14 h =>
 regK 9 h fun b h =>
 rdK (binD P .mul 3 3 (.int .i64 8) t14 h) h fun t18 h =>
 rdK (binV P .shr 38 3 t1 t18 h) h fun t19 h =>
 rdK (binC P .and 38 38 t19 (.int .u64 255) h) h fun t20 h =>
 opK (convertA P 38 3 t20 (b + 6) h) fun t21 h =>
 K (.tuple #[t14, t21]) h) h
theorem f179_eq (X : Caller) (L : Looper) (K : Value → AHeap → Prop) (h : AHeap) (t0 t1 : Value) : aJob P X L (.call 179 [t0, t1]) K h = f179 X L K h t0 t1 := by kernel_rfl
def f180_l4 (X : Caller) (L : Looper) (a : AAct) (K : ActPost) (h : AHeap) : Prop :=
 rdK ((fun h : AHeap => binC P .eql 31 31 (a.env 9) (.int .i64 0) h) ((h.bump 7))) ((h.bump 7)) fun t23 h =>
 gopK (wantV t23 true) h (some ((a.env 8), h)) fun t25 h =>
 gopK (wantV t23 true) h (some ((a.env 2), h)) fun t26 h =>
 gopK (wantV t23 true) h ((binV P .leq 3 3 t25 t26 h).map (·, h)) fun t27 h =>
 opK (pickV t23 t27 (.bool false) h) fun t28 h =>
 condK t28
 (opK ((fun h : AHeap => nilV (a.env 0) h) ((h.bump 13))) fun t42 h =>
 rdK (fAddr 1 t42) h fun t43 h =>
 rdK (ixR 8 1 t43 (a.env 1)) h fun t44 h =>
 rdK (ld1 t44 h) h fun t45 h =>
 X (.call 230 [t45, (a.env 8)]) (fun t47 h =>
 opK (extV 0 t47 h) fun t48 h =>
 opK (extV 1 t47 h) fun t49 h =>
 regK 4 h fun b h =>
 opK (builtinV P .append [151, 151] [(a.env 7), t48] (b + 2) h) fun t52 h =>
 opK ((fun h : AHeap => nilV (a.env 0) h) ((h.bump 12))) fun t32 h =>
 rdK (fAddr 1 t32) h fun t33 h =>
 rdK (ixR 8 1 t33 (a.env 1)) h fun t34 h =>
 rdK (ld1 t34 h) h fun t35 h =>
 X (.call 229 [t35, (.int .i64 0)]) (fun t36 h =>
 opK (extV 0 t36 h) fun t37 h =>
 opK (extV 1 t36 h) fun t38 h =>
 K .normal ⟨(upds a.env [(22, (a.env 9)), (23, t23), (24, t23), (25, t25), (26, t26), (27, t27), (28, t28), (40, (a.env 0)), (41, (a.env 1)), (42, t42), (43, t43), (44, t44), (45, t45), (46, (a.env 8)), (47, t47), (39, t47), (48, t48), (49, t49), (10, t48), (11, t49), (50, (a.env 7)), (51, t48), (52, t52), (7, t52), (30, (a.env 0)), (31, (a.env 1)), (32, t32), (33, t33), (34, t34), (35, t35), (36, t36), (29, t36), (37, t37), (38, t38), (8, t37), (9, t38)]), a.defers⟩ h) h) h)
 (K (.exit 0) ⟨(upds a.env [(22, (a.env 9)), (23, t23), (24, t23), (25, t25), (26, t26), (27, t27), (28, t28)]), a.defers⟩ h)
def f180_j2 (X : Caller) (L : Looper) (K : Value → AHeap → Prop) (h : AHeap) (a : AAct) : Prop :=
 leaveA P X Tryz.f180 ⟨(upds a.env [(53, (a.env 7)), (6, (a.env 7))]), a.defers⟩ K a.defers ((h.bump 2))
/-- (*cubbyhole/cascade.Cascade).empty -/
def f180 (X : Caller) (L : Looper) (K : Value → AHeap → Prop) (h : AHeap) (t0 t1 t2 : Value) : Prop :=
 opK ((fun h : AHeap => nilV t0 h) ((((h.bump 1).bump 1).bump 12))) fun t15 h =>
 rdK (fAddr 1 t15) h fun t16 h =>
 rdK (ixR 8 1 t16 t1) h fun t17 h =>
 rdK (ld1 t17 h) h fun t18 h =>
 X (.call 229 [t18, (.int .i64 0)]) (fun t19 h =>
 opK (extV 0 t19 h) fun t20 h =>
 opK (extV 1 t19 h) fun t21 h =>
 L (f180_l4 X L) ⟨(upds (argsEnv [t0, t1, t2]) [(6, (.slice none 0 0)), (7, (.slice none 0 0)), (13, t0), (14, t1), (15, t15), (16, t16), (17, t17), (18, t18), (19, t19), (12, t19), (20, t20), (21, t21), (8, t20), (9, t21)]), []⟩ (blkX 0 (seqX (fun a h => f180_j2 X L K h a) (finX P X Tryz.f180 K))) h) h
theorem f180_eq (X : Caller) (L : Looper) (K : Value → AHeap → Prop) (h : AHeap) (t0 t1 t2 : Value) : aJob P X L (.call 180 [t0, t1, t2]) K h = f180 X L K h t0 t1 t2 := by kernel_rfl
/-- (*cubbyhole/cascade.Cascade).put -/
def f181 (X : Caller) (L : Looper) (K : Value → AHeap → Prop) (h : AHeap) (t0 t1 : Value) : Prop :=
 regK 1 h fun b h =>
 opK (boxV t1 (b + 0) h) fun t3 h =>
 rdK ((fun h : AHeap => fAddr 1 t3) ((h.bump 9))) ((h.bump 9)) fun t8 h =>
 rdK (ld1 t8 h) h fun t9 h =>
 X (.call 179 [t0, t9]) (fun t10 h =>
 opK (extV 0 t10 h) fun t11 h =>
 opK (extV 1 t10 h) fun t12 h =>
 opK ((fun h : AHeap => nilV t0 h) ((h.bump 10))) fun t15 h =>
 rdK (fAddr 1 t15) h fun t16 h =>
 rdK (ixR 8 1 t16 t11) h fun t17 h =>
 rdK (ld1 t17 h) h fun t18 h =>
 rdK (fAddr 0 t3) h fun t19 h =>
 rdK (ld1 t19 h) h fun t20 h =>
 X (.call 231 [t18, t20, t12]) (fun t22 h =>
 opK ((fun h : AHeap => nilV t0 h) ((h.bump 8))) fun t24 h =>
 rdK (fAddr 9 t24) h fun t25 h =>
 rdK (ld1 t25 h) h fun t26 h =>
 rdK (fAddr 0 t3) h fun t27 h =>
 rdK (ld1 t27 h) h fun t28 h =>
 rdK (ldN 3 t3 h) h fun t29 h =>
 stK (mapPutA P 111 t26 t28 t29 h) fun h =>
 opK ((fun h : AHeap => nilV t0 h) ((h.bump 8))) fun t31 h =>
 rdK (fAddr 10 t31) h fun t32 h =>
 rdK (ld1 t32 h) h fun t33 h =>
 rdK (fAddr 2 t3) h fun t34 h =>
 rdK (ld1 t34 h) h fun t35 h =>
 rdK (buildA P 285 []) h fun t36 h =>
 stK (mapPutA P 190 t33 t35 t36 h) fun h =>
 K (.tuple #[]) h) h) h
theorem f181_eq (X : Caller) (L : Looper) (K : Value → AHeap → Prop) (h : AHeap) (t0 t1 : Value) : aJob P X L (.call 181 [t0, t1]) K h = f181 X L K h t0 t1 := by kernel_rfl
/-- (*cubbyhole/cascade.Cascade).forget -/
def f182 (X : Caller) (L : Looper) (K : Value → AHeap → Prop) (h : AHeap) (t0 t1 : Value) : Prop :=
 regK 1 h fun b h =>
 opK (boxV t1 (b + 0) h) fun t3 h =>
 regK 7 h fun b_1 h =>
 opK (nilV t0 h) fun t5 h =>
 rdK (fAddr 9 t5) h fun t6 h =>
 rdK (ld1 t6 h) h fun t7 h =>
 rdK (fAddr 0 t3) h fun t8 h =>
 rdK (ld1 t8 h) h fun t9 h =>
 opK (builtinV P .delete [111, 90] [t7, t9] (b_1 + 6) h) fun _ h =>
 regK 7 h fun b_2 h =>
 opK (nilV t0 h) fun t11 h =>
 rdK (fAddr 10 t11) h fun t12 h =>
 rdK (ld1 t12 h) h fun t13 h =>
 rdK (fAddr 2 t3) h fun t14 h =>
 rdK (ld1 t14 h) h fun t15 h =>
 opK (builtinV P .delete [190, 27] [t13, t15] (b_2 + 6) h) fun _ h =>
 K (.tuple #[]) h
theorem f182_eq (X : Caller) (L : Looper) (K : Value → AHeap → Prop) (h : AHeap) (t0 t1 : Value) : aJob P X L (.call 182 [t0, t1]) K h = f182 X L K h t0 t1 := by kernel_rfl
/-- slices.SortFunc[[]cubbyhole/api.Timed,cubbyhole/api.Timed] -/
def f183 (X : Caller) (L : Looper) (K : Value → AHeap → Prop) (h : AHeap) (t0 t1 : Value) : Prop :=
 regK 3 h fun b h =>
 opK (builtinV P .len [145] [t0] (b + 1) h) fun t6 h =>
 regK 7 h fun b_1 h =>
 opK (convertA P 3 276 t6 (b_1 + 3) h) fun t10 h =>
 X (.call 233 [t10]) (fun t11 h =>
 X (.call 232 [t0, (.int .i64 0), t6, t11, t1]) (fun t13 h =>
 K (.tuple #[]) h) h) h
theorem f183_eq (X : Caller) (L : Looper) (K : Value → AHeap → Prop) (h : AHeap) (t0 t1 : Value) : aJob P X L (.call 183 [t0, t1]) K h = f183 X L K h t0 t1 := by kernel_rfl
/-- (*cubbyhole/cascade.Cascade).Advance$1 -/
def f184 (X : Caller) (L : Looper) (K : Value → AHeap → Prop) (h : AHeap) (t0 t1 : Value) : Prop :=
 regK 3 h fun b h =>
 opK (boxV t0 (b + 0) h) fun t2 h =>
 opK (boxV t1 (b + 1) h) fun t3 h =>
 regK 13 h fun b_1 h =>
 rdK (fAddr 1 t2) h fun t5 h =>
 rdK (ld1 t5 h) h fun t6 h =>
 rdK (fAddr 1 t3) h fun t7 h =>
 rdK (ld1 t7 h) h fun t8 h =>
 rdK (fAddr 2 t2) h fun t10 h =>
 rdK (ld1 t10 h) h fun t11 h =>
 rdK (fAddr 2 t3) h fun t12 h =>
 rdK (ld1 t12 h) h fun t13 h =>
 X (.call 186 [t6, t8]) (fun t9 h =>
 chkK (chkR ((ld1 t12 h).map (·, h)) t13 (chkR ((ld1 t10 h).map (·, h)) t11 true)) <|
 X (.call 187 [t11, t13]) (fun t14 h =>
 opK (bsliceV P 34 2 [(0, t9), (1, t14)] (b_1 + 10) h) fun t15 h =>
 X (.call 185 [t15]) (fun t16 h =>
 K t16 h) h) h) h
theorem f184_eq (X : Caller) (L : Looper) (K : Value → AHeap → Prop) (h : AHeap) (t0 t1 : Value) : aJob P X L (.call 184 [t0, t1]) K h = f184 X L K h t0 t1 := by kernel_rfl
def f185_l4 (X : Caller) (L : Looper) (a : AAct) (K : ActPost) (h : AHeap) : Prop :=
 rdK ((fun h : AHeap => binV P .lss 3 3 (a.env 8) (a.env 7) h) ((h.bump 1))) ((h.bump 1)) fun t9 h =>
 condK t9
 (rdK ((fun h : AHeap => ixS 1 (a.env 6) (a.env 8)) ((h.bump 3))) ((h.bump 3)) fun t10 h =>
 rdK (ld1 t10 h) h fun t11 h =>
 rdK ((fun h : AHeap => binV P .neq 3 3 t11 (a.env 3) h) ((h.bump 3))) ((h.bump 3)) fun t14 h =>
 condK t14
 (K .ret ⟨(upds a.env [(9, t9), (10, t10), (11, t11), (5, t11), (12, t11), (13, (a.env 3)), (14, t14), (15, t11), (2, t11)]), a.defers⟩ ((h.bump 2)))
 (rdK ((fun h : AHeap => binC P .add 3 3 (a.env 8) (.int .i64 1) h) ((h.bump 2))) ((h.bump 2)) fun t16 h =>
 K .normal ⟨(upds a.env [(9, t9), (10, t10), (11, t11), (5, t11), (12, t11), (13, (a.env 3)), (14, t14), (16, t16), (8, t16)]), a.defers⟩ h))
 (K (.exit 0) ⟨(upds a.env [(9, t9)]), a.defers⟩ h)
def f185_j2 (X : Caller) (L : Looper) (K : Value → AHeap → Prop) (h : AHeap) (a : AAct) : Prop :=
 leaveA P X Tryz.f185 ⟨(upds a.env [(17, (a.env 3)), (2, (a.env 3))]), a.defers⟩ K a.defers ((h.bump 2))
/-- cmp.Or[int] -/
def f185 (X : Caller) (L : Looper) (K : Value → AHeap → Prop) (h : AHeap) (t0 : Value) : Prop :=
 regK 3 (((h.bump 1).bump 1)) fun b h =>
 opK (builtinV P .len [34] [t0] (b + 1) h) fun t7 h =>
 L (f185_l4 X L) ⟨(upds (argsEnv [t0]) [(2, (.int .i64 0)), (3, (.int .i64 0)), (6, t0), (7, t7), (8, (.int .i64 0))]), []⟩ (blkX 0 (seqX (fun a h => f185_j2 X L K h a) (finX P X Tryz.f185 K))) h
theorem f185_eq (X : Caller) (L : Looper) (K : Value → AHeap → Prop) (h : AHeap) (t0 : Value) : aJob P X L (.call 185 [t0]) K h = f185 X L K h t0 := by kernel_rfl
/-- cmp.Compare[cubbyhole/api.Time] -/
def f186 (X : Caller) (L : Looper) (K : Value → AHeap → Prop) (h : AHeap) (t0 t1 : Value) : Prop :=
 X (.call 234 [t0]) (fun t8 h =>
 X (.call 234 [t1]) (fun t10 h =>
 condK t8
 (condK t10
  (K (.int .i64 0) ((((h.bump 1).bump 1).bump 1)))
  (K (.int .i64 (-1)) ((((h.bump 1).bump 1).bump 1))))
 (condK t10
 (K (.int .i64 1) ((((h.bump 1).bump 1).bump 1)))
 (rdK ((fun h : AHeap => binV P .lss 38 38 t0 t1 h) ((((h.bump 1).bump 1).bump 3))) ((((h.bump 1).bump 1).bump 3)) fun t16 h =>
 condK t16
 (K (.int .i64 (-1)) ((h.bump 1)))
 (rdK ((fun h : AHeap => binV P .gtr 38 38 t0 t1 h) ((h.bump 3))) ((h.bump 3)) fun t19 h =>
 condK t19
 (K (.int .i64 1) ((h.bump 1)))
 (K (.int .i64 0) ((h.bump 1))))))) ((h.bump 3))) (((h.bump 1).bump 3))
theorem f186_eq (X : Caller) (L : Looper) (K : Value → AHeap → Prop) (h : AHeap) (t0 t1 : Value) : aJob P X L (.call 186 [t0, t1]) K h = f186 X L K h t0 t1 := by kernel_rfl
/-- cmp.Compare[uint64] -/
def f187 (X : Caller) (L : Looper) (K : Value → AHeap → Prop) (h : AHeap) (t0 t1 : Value) : Prop :=
 X (.call 235 [t0]) (fun t8 h =>
 X (.call 235 [t1]) (fun t10 h =>
 condK t8
 (condK t10
  (K (.int .i64 0) ((((h.bump 1).bump 1).bump 1)))
  (K (.int .i64 (-1)) ((((h.bump 1).bump 1).bump 1))))
 (condK t10
 (K (.int .i64 1) ((((h.bump 1).bump 1).bump 1)))
 (rdK ((fun h : AHeap => binV P .lss 27 27 t0 t1 h) ((((h.bump 1).bump 1).bump 3))) ((((h.bump 1).bump 1).bump 3)) fun t16 h =>
 condK t16
 (K (.int .i64 (-1)) ((h.bump 1)))
 (rdK ((fun h : AHeap => binV P .gtr 27 27 t0 t1 h) ((h.bump 3))) ((h.bump 3)) fun t19 h =>
 condK t19
 (K (.int .i64 1) ((h.bump 1)))
 (K (.int .i64 0) ((h.bump 1))))))) ((h.bump 3))) (((h.bump 1).bump 3))
theorem f187_eq (X : Caller) (L : Looper) (K : Value → AHeap → Prop) (h : AHeap) (t0 t1 : Value) : aJob P X L (.call 187 [t0, t1]) K h = f187 X L K h t0 t1 := by kernel_rfl
def f188_j7 (X : Caller) (L : Looper) (K : ActPost) (h : AHeap) (a : AAct) : Prop :=
 rdK ((fun h : AHeap => binC P .add 3 3 (a.env 11) (.int .i64 1) h) ((h.bump 2))) ((h.bump 2)) fun t22 h =>
 K .normal ⟨(upds a.env [(22, t22), (11, t22)]), a.defers⟩ h
def f188_l4 (X : Caller) (L : Looper) (a : AAct) (K : ActPost) (h : AHeap) : Prop :=
 rdK ((fun h : AHeap => binV P .lss 3 3 (a.env 11) (a.env 10) h) ((h.bump 1))) ((h.bump 1)) fun t12 h =>
 condK t12
 (rdK ((fun h : AHeap => ixS 1 (a.env 9) (a.env 11)) ((h.bump 3))) ((h.bump 3)) fun t13 h =>
 rdK (ld1 t13 h) h fun t14 h =>
 regK 5 h fun b_1 h =>
 opK (builtinV P .len [154] [t14] (b_1 + 2) h) fun t17 h =>
 rdK (binV P .add 3 3 (a.env 3) t17 h) h fun t18 h =>
 rdK ((fun h : AHeap => binC P .lss 3 3 t18 (.int .i64 0) h) ((h.bump 2))) ((h.bump 2)) fun t20 h =>
 condK t20
 (False)
 (f188_j7 X L K h ⟨(upds a.env [(12, t12), (13, t13), (14, t14), (5, t14), (15, (a.env 3)), (16, t14), (17, t17), (18, t18), (3, t18), (19, t18), (20, t20)]), a.defers⟩))
 (K (.exit 0) ⟨(upds a.env [(12, t12)]), a.defers⟩ h)
def f188_l14 (X : Caller) (L : Looper) (a : AAct) (K : ActPost) (h : AHeap) : Prop :=
 rdK ((fun h : AHeap => binV P .lss 3 3 (a.env 27) (a.env 26) h) ((h.bump 1))) ((h.bump 1)) fun t28 h =>
 condK t28
 (rdK ((fun h : AHeap => ixS 1 (a.env 25) (a.env 27)) ((h.bump 3))) ((h.bump 3)) fun t29 h =>
 rdK (ld1 t29 h) h fun t30 h =>
 regK 4 h fun b_3 h =>
 opK (builtinV P .append [154, 154] [(a.env 6), t30] (b_3 + 2) h) fun t33 h =>
 rdK ((fun h : AHeap => binC P .add 3 3 (a.env 27) (.int .i64 1) h) ((h.bump 2))) ((h.bump 2)) fun t34 h =>
 K .normal ⟨(upds a.env [(28, t28), (29, t29), (30, t30), (8, t30), (31, (a.env 6)), (32, t30), (33, t33), (6, t33), (34, t34), (27, t34)]), a.defers⟩ h)
 (K (.exit 2) ⟨(upds a.env [(28, t28)]), a.defers⟩ h)
def f188_j12 (X : Caller) (L : Looper) (K : Value → AHeap → Prop) (h : AHeap) (a : AAct) : Prop :=
 leaveA P X Tryz.f188 ⟨(upds a.env [(35, (a.env 6)), (2, (a.env 6))]), a.defers⟩ K a.defers ((h.bump 2))
def f188_j2 (X : Caller) (L : Looper) (K : Value → AHeap → Prop) (h : AHeap) (a : AAct) : Prop :=
 X (.call 236 [(.slice none 0 0), (a.env 3)]) (fun t24 h =>
 regK 3 h fun b_2 h =>
 opK (builtinV P .len [337] [(a.env 0)] (b_2 + 1) h) fun t26 h =>
 L (f188_l14 X L) ⟨(upds a.env [(23, (a.env 3)), (24, t24), (6, t24), (25, (a.env 0)), (26, t26), (27, (.int .i64 0))]), a.defers⟩ (blkX 2 (seqX (fun a h => f188_j12 X L K h a) (finX P X Tryz.f188 K))) h) ((h.bump 3))
/-- slices.Concat[[]cubbyhole/api.Weighed,cubbyhole/api.Weighed] -/
def f188 (X : Caller) (L : Looper) (K : Value → AHeap → Prop) (h : AHeap) (t0 : Value) : Prop :=
 regK 3 (((h.bump 1).bump 1)) fun b h =>
 opK (builtinV P .len [337] [t0] (b + 1) h) fun t10 h =>
 L (f188_l4 X L) ⟨(upds (argsEnv [t0]) [(2, (.slice none 0 0)), (3, (.int .i64 0)), (9, t0), (10, t10), (11, (.int .i64 0))]), []⟩ (blkX 0 (seqX (fun a h => f188_j2 X L K h a) (finX P X Tryz.f188 K))) h
theorem f188_eq (X : Caller) (L : Looper) (K : Value → AHeap → Prop) (h : AHeap) (t0 : Value) : aJob P X L (.call 188 [t0]) K h = f188 X L K h t0 := by kernel_rfl
/-- (cubbyhole/victim.choice).order -/
def f189 (X : Caller) (L : Looper) (K : Value → AHeap → Prop) (h : AHeap) (t0 : Value) : Prop :=
 regK 2 h fun b h =>
 opK (boxV t0 (b + 0) h) fun t1 h =>
 rdK ((fun h : AHeap => fAddr 0 t1) ((h.bump 6))) ((h.bump 6)) fun t3 h =>
 rdK (ld1 t3 h) h fun t4 h =>
 X (.call 238 [t4]) (fun t5 h =>
 X (.call 237 [t5, (.func (.func 239) #[] #[t1])]) (fun t7 h =>
 K t7 h) h) h
theorem f189_eq (X : Caller) (L : Looper) (K : Value → AHeap → Prop) (h : AHeap) (t0 : Value) : aJob P X L (.call 189 [t0]) K h = f189 X L K h t0 := by kernel_rfl
/-- (*cubbyhole/lru.LRU).check -/
def f190 (X : Caller) (L : Looper) (K : Value → AHeap → Prop) (h : AHeap) (t0 t1 : Value) : Prop :=
 rdK ((fun h : AHeap => binC P .eql 175 175 t0 (.pointer none) h) (((h.bump 1).bump 10))) (((h.bump 1).bump 10)) fun t7 h =>
 gopK (wantV t7 false) h (some (t0, h)) fun t9 h =>
 gopK (wantV t7 false) h (nilV t9 h) fun t10 h =>
 gopK (wantV t7 false) h ((fAddr 0 t10).map (·, h)) fun t11 h =>
 gopK (wantV t7 false) h ((ld1 t11 h).map (·, h)) fun t12 h =>
 gopK (wantV t7 false) h ((binC P .eql 261 261 t12 (.pointer none) h).map (·, h)) fun t13 h =>
 opK (pickV t7 (.bool true) t13 h) fun t14 h =>
 condK t14
 (K (.int .i64 1) ((h.bump 1)))
 (rdK ((fun h : AHeap => binC P .geq 90 90 t1 (.int .u32 4194304) h) ((h.bump 3))) ((h.bump 3)) fun t17 h =>
  condK t17
  (K (.int .i64 2) ((h.bump 1)))
  (K (.int .i64 0) ((h.bump 1))))
theorem f190_eq (X : Caller) (L : Looper) (K : Value → AHeap → Prop) (h : AHeap) (t0 t1 : Value) : aJob P X L (.call 190 [t0, t1]) K h = f190 X L K h t0 t1 := by kernel_rfl
/-- (*cubbyhole/lru.LRU).All$1 -/
def f191 (X : Caller) (L : Looper) (K : Value → AHeap → Prop) (h : AHeap) (t0 : Value) : Prop :=
 K (.tuple #[]) h
theorem f191_eq (X : Caller) (L : Looper) (K : Value → AHeap → Prop) (h : AHeap) (t0 : Value) : aJob P X L (.call 191 [t0]) K h = f191 X L K h t0 := by kernel_rfl
/-- (*cubbyhole/links.Links).All -/
def f192 (X : Caller) (L : Looper) (K : Value → AHeap → Prop) (h : AHeap) (t0 t1 : Value) : Prop :=
 regK 6 ((h.bump 1)) fun b h =>
 X (.call 240 [t0, t1]) (fun t8 h =>
 opK (builtinV P .append [151, 151] [(.slice none 0 0), t8] (b + 3) h) fun t9 h =>
 opK (newV [.slice none 0 0] (b + 4) h) fun t5 h =>
 stK (stV 1 t5 t9 h) fun h =>
 K (.func (.func 241) #[] #[t5]) ((h.bump 2))) h
theorem f192_eq (X : Caller) (L : Looper) (K : Value → AHeap → Prop) (h : AHeap) (t0 t1 : Value) : aJob P X L (.call 192 [t0, t1]) K h = f192 X L K h t0 t1 := by kernel_rfl
def f193_a0 (X : Caller) (L : Looper) (a : AAct) (K : ActPost) (h : AHeap) : Prop :=
 regK 2 ((h.bump 1)) fun b_2 h =>
 opK (newV [.string ⟨#[]⟩, .slice none 0 0, .int .u64 0, .int .u64 0] (b_2 + 0) h) fun t8 h =>
 stK (stV 4 t8 (a.env 22) h) fun h =>
 K .normal ⟨(upds a.env [(7, (a.env 21)), (8, t8)]), a.defers⟩ h
def f193_b0 (X : Caller) (L : Looper) (a : AAct) (K : ActPost) (h : AHeap) : Prop :=
 rdK ((fun h : AHeap => ld1 (a.env 5) h) ((h.bump 8))) ((h.bump 8)) fun t24 h =>
 rdK (ldN 4 (a.env 8) h) h fun t25 h =>
 X (.call 102 [t24, t25]) (fun t26 h =>
 opK (extV 0 t26 h) fun t27 h =>
 opK (extV 1 t26 h) fun t28 h =>
 rdK ((fun h : AHeap => binC P .neq 31 31 t28 (.int .i64 0) h) ((h.bump 2))) ((h.bump 2)) fun t30 h =>
 condK t30
 (rdK ((fun h : AHeap => buildA P 237 []) ((h.bump 5))) ((h.bump 5)) fun t31 h =>
  stK (stV 1 (a.env 2) (.pointer none) h) fun h =>
  stK (stV 2 (a.env 3) t31 h) fun h =>
  stK (stV 1 (a.env 4) t28 h) fun h =>
  K .ret ⟨(upds a.env [(24, t24), (25, t25), (26, t26), (23, t26), (27, t27), (28, t28), (9, t27), (10, t28), (29, t28), (30, t30), (31, t31), (32, t28)]), a.defers⟩ h)
 (regK 7 h fun b_3 h =>
 rdK (fAddr 0 (a.env 6)) h fun t33 h =>
 rdK (ld1 t33 h) h fun t34 h =>
 opK (bsliceV P 151 1 [(0, (a.env 7))] (b_3 + 3) h) fun t36 h =>
 opK (builtinV P .append [151, 151] [t34, t36] (b_3 + 4) h) fun t37 h =>
 rdK (fAddr 0 (a.env 6)) h fun t38 h =>
 stK (stV 1 t38 t37 h) fun h =>
 K .normal ⟨(upds a.env [(24, t24), (25, t25), (26, t26), (23, t26), (27, t27), (28, t28), (9, t27), (10, t28), (29, t28), (30, t30), (33, t33), (34, t34), (35, (a.env 7)), (36, t36), (37, t37), (38, t38)]), a.defers⟩ h)) h
noncomputable def f193_ca0 : Code := (rangesF Tryz.f193 0).1
noncomputable def f193_cb0 : Code := (rangesF Tryz.f193 0).2
theorem f193_a0_eq (X : Caller) (L : Looper) (a : AAct) (K : ActPost) (h : AHeap) : aCode P X L true f193_ca0 a K h = f193_a0 X L a K h := by kernel_rfl
theorem f193_b0_eq (X : Caller) (L : Looper) (a : AAct) (K : ActPost) (h : AHeap) : aCode P X L true f193_cb0 a K h = f193_b0 X L a K h := by kernel_rfl
def f193_j5 (X : Caller) (L : Looper) (K : Value → AHeap → Prop) (h : AHeap) (a : AAct) : Prop :=
 rdK ((fun h : AHeap => ld1 (a.env 5) h) ((h.bump 5))) ((h.bump 5)) fun t39 h =>
 rdK (ldN 2 (a.env 6) h) h fun t40 h =>
 stK (stV 1 (a.env 2) t39 h) fun h =>
 chkK (chkR ((ldN 2 (a.env 6) h).map (·, h)) t40 true) <|
 stK (stV 2 (a.env 3) t40 h) fun h =>
 stK (stV 1 (a.env 4) (.int .i64 0) h) fun h =>
 leaveA P X Tryz.f193 ⟨(upds a.env [(39, t39), (40, t40)]), a.defers⟩ K a.defers h
/-- cubbyhole/compact.Log -/
def f193 (X : Caller) (L : Looper) (K : Value → AHeap → Prop) (h : AHeap) (t0 : Value) : Prop :=
 regK 3 h fun b h =>
 opK (newV [.pointer none] (b + 0) h) fun t2 h =>
 opK (newV [.slice none 0 0, .int .i64 0] (b + 1) h) fun t3 h =>
 opK (newV [.int .i64 0] (b + 2) h) fun t4 h =>
 X (.call 242 [t0]) (fun t12 h =>
 rdK (binC P .eql 133 133 t12 (.pointer none) h) h fun t13 h =>
 condK t13
 (rdK ((fun h : AHeap => buildA P 237 []) ((h.bump 4))) ((h.bump 4)) fun t14 h =>
  stK (stV 1 t2 (.pointer none) h) fun h =>
  stK (stV 2 t3 t14 h) fun h =>
  stK (stV 1 t4 (.int .i64 1) h) fun h =>
  retK (consR (ld1 t2 h) (consR (ldN 2 t3 h) (consR (ld1 t4 h) (some [])))) K h)
 (regK 8 h fun b_1 h =>
 X (.call 115 []) (fun t15 h =>
 X (.call 138 [t0]) (fun t17 h =>
 rdK (buildA P 237 [(1, t17)]) h fun t18 h =>
 opK (newV [.pointer none] (b_1 + 4) h) fun t5 h =>
 opK (newV [.slice none 0 0, .int .i64 0] (b_1 + 5) h) fun t6 h =>
 stK (stV 1 t5 t15 h) fun h =>
 stK (stV 2 t6 t18 h) fun h =>
 X (.call 243 [t0]) (fun t20 h =>
 rangeK X t20 ⟨(upds (argsEnv [t0]) [(2, t2), (3, t3), (4, t4), (11, t0), (12, t12), (13, t13), (15, t15), (16, t0), (17, t17), (18, t18), (5, t5), (6, t6), (19, t0), (20, t20)]), []⟩ [21, 22] f193_ca0 f193_cb0 (blkX 0 (seqX (fun a h => f193_j5 X L K h a) (finX P X Tryz.f193 K))) h) ((h.bump 2))) h) h)) ((h.bump 3))
theorem f193_eq (X : Caller) (L : Looper) (K : Value → AHeap → Prop) (h : AHeap) (t0 : Value) : aJob P X L (.call 193 [t0]) K h = f193 X L K h t0 := by kernel_rfl
/-- (*cubbyhole/dict.Dict).Log -/
def f194 (X : Caller) (L : Looper) (K : Value → AHeap → Prop) (h : AHeap) (t0 : Value) : Prop :=
 X (.call 77 [t0]) (fun t4 h =>
 condK t4
 (K (.pointer none) ((h.bump 1)))
 (opK ((fun h : AHeap => nilV t0 h) ((h.bump 7))) fun t6 h =>
 rdK (fAddr 0 t6) h fun t7 h =>
 rdK (fAddr 0 t7) h fun t8 h =>
 rdK (ld1 t8 h) h fun t9 h =>
 X (.call 242 [t9]) (fun t10 h =>
 K t10 h) h)) (((h.bump 1).bump 2))
theorem f194_eq (X : Caller) (L : Looper) (K : Value → AHeap → Prop) (h : AHeap) (t0 : Value) : aJob P X L (.call 194 [t0]) K h = f194 X L K h t0 := by kernel_rfl
def f195_a0 (X : Caller) (L : Looper) (a : AAct) (K : ActPost) (h : AHeap) : Prop :=
 regK 2 ((h.bump 1)) fun b_2 h =>
 opK (newV [.string ⟨#[]⟩, .slice none 0 0, .int .u64 0, .int .u64 0] (b_2 + 0) h) fun t9 h =>
 stK (stV 4 t9 (a.env 27) h) fun h =>
 K .normal ⟨(upds a.env [(8, (a.env 26)), (9, t9)]), a.defers⟩ h
def f195_b0 (X : Caller) (L : Looper) (a : AAct) (K : ActPost) (h : AHeap) : Prop :=
 rdK ((fun h : AHeap => ld1 (a.env 7) h) ((h.bump 9))) ((h.bump 9)) fun t29 h =>
 rdK (fAddr 0 (a.env 9)) h fun t30 h =>
 rdK (ld1 t30 h) h fun t31 h =>
 X (.call 46 [t29, t31]) (fun t32 h =>
 opK (extV 0 t32 h) fun t33 h =>
 opK (extV 1 t32 h) fun t34 h =>
 rdK ((fun h : AHeap => binC P .eql 31 31 t34 (.int .i64 0) h) ((h.bump 2))) ((h.bump 2)) fun t36 h =>
 condK t36
 (stK ((fun h : AHeap => stV 1 (a.env 4) (.pointer none) h) ((h.bump 2))) fun h =>
  stK (stV 1 (a.env 5) (.int .i64 11) h) fun h =>
  K .ret ⟨(upds a.env [(29, t29), (30, t30), (31, t31), (32, t32), (28, t32), (33, t33), (34, t34), (10, t33), (11, t34), (35, t34), (36, t36)]), a.defers⟩ h)
 (rdK ((fun h : AHeap => ld1 (a.env 7) h) ((h.bump 4))) ((h.bump 4)) fun t37 h =>
 X (.call 103 [t37, (a.env 8)]) (fun t39 h =>
 rdK ((fun h : AHeap => binC P .neq 31 31 t39 (.int .i64 0) h) ((h.bump 2))) ((h.bump 2)) fun t41 h =>
 condK t41
 (stK ((fun h : AHeap => stV 1 (a.env 4) (.pointer none) h) ((h.bump 3))) fun h =>
  stK (stV 1 (a.env 5) t39 h) fun h =>
  K .ret ⟨(upds a.env [(29, t29), (30, t30), (31, t31), (32, t32), (28, t32), (33, t33), (34, t34), (10, t33), (11, t34), (35, t34), (36, t36), (37, t37), (38, (a.env 8)), (39, t39), (12, t39), (40, t39), (41, t41), (42, t39)]), a.defers⟩ h)
 (K .normal ⟨(upds a.env [(29, t29), (30, t30), (31, t31), (32, t32), (28, t32), (33, t33), (34, t34), (10, t33), (11, t34), (35, t34), (36, t36), (37, t37), (38, (a.env 8)), (39, t39), (12, t39), (40, t39), (41, t41)]), a.defers⟩ h)) h)) h
noncomputable def f195_ca0 : Code := (rangesF Tryz.f195 0).1
noncomputable def f195_cb0 : Code := (rangesF Tryz.f195 0).2
theorem f195_a0_eq (X : Caller) (L : Looper) (a : AAct) (K : ActPost) (h : AHeap) : aCode P X L true f195_ca0 a K h = f195_a0 X L a K h := by kernel_rfl
theorem f195_b0_eq (X : Caller) (L : Looper) (a : AAct) (K : ActPost) (h : AHeap) : aCode P X L true f195_cb0 a K h = f195_b0 X L a K h := by kernel_rfl
def f195_j7 (X : Caller) (L : Looper) (K : Value → AHeap → Prop) (h : AHeap) (a : AAct) : Prop :=
 rdK ((fun h : AHeap => ld1 (a.env 7) h) ((h.bump 3))) ((h.bump 3)) fun t43 h =>
 stK (stV 1 (a.env 4) t43 h) fun h =>
 stK (stV 1 (a.env 5) (.int .i64 0) h) fun h =>
 leaveA P X Tryz.f195 ⟨(upds a.env [(43, t43)]), a.defers⟩ K a.defers h
/-- cubbyhole/dict.Of -/
def f195 (X : Caller) (L : Looper) (K : Value → AHeap → Prop) (h : AHeap) (t0 t1 : Value) : Prop :=
 regK 3 h fun b h =>
 opK (boxV t0 (b + 0) h) fun t2 h =>
 opK (newV [.pointer none] (b + 1) h) fun t4 h =>
 opK (newV [.int .i64 0] (b + 2) h) fun t5 h =>
 X (.call 242 [t1]) (fun t14 h =>
 rdK ((fun h : AHeap => binC P .eql 133 133 t14 (.pointer none) h) ((h.bump 2))) ((h.bump 2)) fun t16 h =>
 condK t16
 (stK ((fun h : AHeap => stV 1 t4 (.pointer none) h) ((h.bump 2))) fun h =>
  stK (stV 1 t5 (.int .i64 1) h) fun h =>
  retK (consR (ld1 t4 h) (consR (ld1 t5 h) (some []))) K h)
 (regK 4 h fun b_1 h =>
 rdK (ldN 2 t2 h) h fun t17 h =>
 X (.call 67 [t17]) (fun t18 h =>
 opK (newV [.pointer none] (b_1 + 2) h) fun t7 h =>
 stK (stV 1 t7 t18 h) fun h =>
 rdK ((fun h : AHeap => ld1 t7 h) ((h.bump 6))) ((h.bump 6)) fun t19 h =>
 rdK (buildA P 135 [(0, t14)]) h fun t21 h =>
 opK (nilV t19 h) fun t22 h =>
 rdK (fAddr 0 t22) h fun t23 h =>
 stK (stV 1 t23 t21 h) fun h =>
 X (.call 243 [t14]) (fun t25 h =>
 rangeK X t25 ⟨(upds (argsEnv [t0, t1]) [(2, t2), (4, t4), (5, t5), (13, t1), (14, t14), (6, t14), (15, t14), (16, t16), (17, t17), (18, t18), (7, t7), (19, t19), (20, t14), (21, t21), (22, t22), (23, t23), (24, t14), (25, t25)]), []⟩ [26, 27] f195_ca0 f195_cb0 (blkX 0 (seqX (fun a h => f195_j7 X L K h a) (finX P X Tryz.f195 K))) h) ((h.bump 2))) h)) ((h.bump 3))
theorem f195_eq (X : Caller) (L : Looper) (K : Value → AHeap → Prop) (h : AHeap) (t0 t1 : Value) : aJob P X L (.call 195 [t0, t1]) K h = f195 X L K h t0 t1 := by kernel_rfl
/-- (*cubbyhole/dict.Dict).Hasher -/
def f196 (X : Caller) (L : Looper) (K : Value → AHeap → Prop) (h : AHeap) (t0 : Value) : Prop :=
 regK 1 h fun b h =>
 opK (newV [.int .u64 0, .bool false] (b + 0) h) fun t2 h =>
 X (.call 77 [t0]) (fun t4 h =>
 condK t4
 (rdK ((fun h : AHeap => buildA P 124 []) ((h.bump 2))) ((h.bump 2)) fun t5 h =>
  stK (stV 2 t2 t5 h) fun h =>
  retK (consR (ldN 2 t2 h) (some [])) K h)
 (opK ((fun h : AHeap => nilV t0 h) ((h.bump 5))) fun t7 h =>
 rdK (fAddr 1 t7) h fun t8 h =>
 rdK (ldN 2 t8 h) h fun t9 h =>
 stK (stV 2 t2 t9 h) fun h =>
 retK (consR (ldN 2 t2 h) (some [])) K h)) ((h.bump 2))
theorem f196_eq (X : Caller) (L : Looper) (K : Value → AHeap → Prop) (h : AHeap) (t0 : Value) : aJob P X L (.call 196 [t0]) K h = f196 X L K h t0 := by kernel_rfl
def f197_l4 (X : Caller) (L : Looper) (a : AAct) (K : ActPost) (h : AHeap) : Prop :=
 rdK ((fun h : AHeap => binV P .lss 3 3 (a.env 7) (a.env 8) h) ((h.bump 3))) ((h.bump 3)) fun t15 h =>
 condK t15
 (regK 7 h fun b_1 h =>
 rdK (binV P .add 3 3 (a.env 7) (a.env 8) h) h fun t18 h =>
 opK (convertA P 3 276 t18 (b_1 + 3) h) fun t19 h =>
 rdK (binC P .shr 276 276 t19 (.int .u64 1) h) h fun t20 h =>
 opK (convertA P 276 3 t20 (b_1 + 5) h) fun t21 h =>
 rdK ((fun h : AHeap => ixS 1 (a.env 0) t21) ((h.bump 6))) ((h.bump 6)) fun t24 h =>
 rdK (ld1 t24 h) h fun t25 h =>
 X (.call 244 [t25, (a.env 1)]) (fun t27 h =>
 condK t27
 (rdK ((fun h : AHeap => binC P .add 3 3 t21 (.int .i64 1) h) ((h.bump 3))) ((h.bump 3)) fun t29 h =>
  K .normal ⟨(upds a.env [(13, (a.env 7)), (14, (a.env 8)), (15, t15), (16, (a.env 7)), (17, (a.env 8)), (18, t18), (19, t19), (20, t20), (21, t21), (9, t21), (22, (a.env 0)), (23, t21), (24, t24), (25, t25), (26, (a.env 1)), (27, t27), (28, t21), (29, t29), (7, t29)]), a.defers⟩ h)
 (K .normal ⟨(upds a.env [(13, (a.env 7)), (14, (a.env 8)), (15, t15), (16, (a.env 7)), (17, (a.env 8)), (18, t18), (19, t19), (20, t20), (21, t21), (9, t21), (22, (a.env 0)), (23, t21), (24, t24), (25, t25), (26, (a.env 1)), (27, t27), (30, t21), (8, t21)]), a.defers⟩ ((h.bump 2)))) h)
 (K (.exit 0) ⟨(upds a.env [(13, (a.env 7)), (14, (a.env 8)), (15, t15)]), a.defers⟩ h)
def f197_j3 (X : Caller) (L : Looper) (K : Value → AHeap → Prop) (h : AHeap) (a : AAct) : Prop :=
 rdK ((fun h : AHeap => binV P .lss 3 3 (a.env 7) (a.env 6) h) ((h.bump 25))) ((h.bump 25)) fun t34 h =>
 gopK (wantV t34 true) h (some ((a.env 0), h)) fun t36 h =>
 gopK (wantV t34 true) h (some ((a.env 7), h)) fun t37 h =>
 gopK (wantV t34 true) h ((ixS 1 t36 t37).map (·, h)) fun t38 h =>
 gopK (wantV t34 true) h ((ld1 t38 h).map (·, h)) fun t39 h =>
 gopK (wantV t34 true) h (some ((a.env 1), h)) fun t40 h =>
 gopK (wantV t34 true) h ((binV P .eql 90 90 t39 t40 h).map (·, h)) fun t41 h =>
 gopK (wantV t34 true) h (some (t41, h)) fun t42 h =>
 gopK (wantV t42 false) h (some ((a.env 0), h)) fun t43 h =>
 gopK (wantV t42 false) h (some ((a.env 7), h)) fun t44 h =>
 gopK (wantV t42 false) h ((ixS 1 t43 t44).map (·, h)) fun t45 h =>
 gopK (wantV t42 false) h ((ld1 t45 h).map (·, h)) fun t46 h =>
 gcallK (wantV t42 false) X (.call 245 [t46]) h fun t47 h =>
 gopK (wantV t42 false) h (some (t47, h)) fun t48 h =>
 gopK (wantV t48 true) h (some ((a.env 1), h)) fun t49 h =>
 gcallK (wantV t48 true) X (.call 245 [t49]) h fun t50 h =>
 gopK (wantV t42 false) h (pickV t48 t50 (.bool false) h) fun t51 h =>
 gopK (wantV t34 true) h (pickV t42 (.bool true) t51 h) fun t52 h =>
 opK (pickV t34 t52 (.bool false) h) fun t53 h =>
 leaveA P X Tryz.f197 ⟨(upds a.env [(31, (a.env 7)), (32, (a.env 7)), (33, (a.env 6)), (34, t34), (35, t34), (36, t36), (37, t37), (38, t38), (39, t39), (40, t40), (41, t41), (42, t42), (43, t43), (44, t44), (45, t45), (46, t46), (47, t47), (48, t48), (49, t49), (50, t50), (51, t51), (52, t52), (53, t53), (4, (a.env 7)), (5, t53)]), a.defers⟩ K a.defers h
/-- slices.BinarySearch[[]uint32,uint32] -/
def f197 (X : Caller) (L : Looper) (K : Value → AHeap → Prop) (h : AHeap) (t0 t1 : Value) : Prop :=
 regK 3 ((h.bump 2)) fun b h =>
 opK (builtinV P .len [151] [t0] (b + 1) h) fun t11 h =>
 L (f197_l4 X L) ⟨(upds (argsEnv [t0, t1]) [(4, (.int .i64 0)), (5, (.bool false)), (10, t0), (11, t11), (6, t11), (12, t11), (7, (.int .i64 0)), (8, t11)]), []⟩ (blkX 0 (seqX (fun a h => f197_j3 X L K h a) (finX P X Tryz.f197 K))) ((h.bump 3))
theorem f197_eq (X : Caller) (L : Looper) (K : Value → AHeap → Prop) (h : AHeap) (t0 t1 : Value) : aJob P X L (.call 197 [t0, t1]) K h = f197 X L K h t0 t1 := by kernel_rfl
def f198_l7 (X : Caller) (L : Looper) (a : AAct) (K : ActPost) (h : AHeap) : Prop :=
 nextA (a.env 13) false (fun t14 h =>
 opK (extV 0 t14 h) fun t15 h =>
 condK t15
 (regK 4 h fun b_1 h =>
 rdK (entryA (a.env 13) h) h fun t16 h =>
 opK (extV 1 t16 h) fun t17 h =>
 opK (newV [.int .u32 0, .int .u64 0, .int .u64 0] (b_1 + 2) h) fun t5 h =>
 stK (stV 3 t5 t17 h) fun h =>
 regK 5 h fun b_2 h =>
 rdK (ldN 3 t5 h) h fun t19 h =>
 opK (bsliceV P 145 1 [(0, t19)] (b_2 + 2) h) fun t20 h =>
 opK (builtinV P .append [145, 145] [(a.env 3), t20] (b_2 + 3) h) fun t21 h =>
 K .normal ⟨(upds a.env [(14, t14), (15, t15), (16, t16), (17, t17), (5, t5), (18, (a.env 3)), (19, t19), (20, t20), (21, t21), (3, t21)]), a.defers⟩ h)
 (K (.exit 0) ⟨(upds a.env [(14, t14), (15, t15)]), a.defers⟩ h)) ((h.bump 2))
def f198_j5 (X : Caller) (L : Looper) (K : Value → AHeap → Prop) (h : AHeap) (a : AAct) : Prop :=
 X (.call 183 [(a.env 3), (.func (.func 246) #[] #[])]) (fun t23 h =>
 leaveA P X Tryz.f198 ⟨(upds a.env [(22, (a.env 3)), (23, t23), (24, (a.env 3)), (2, (a.env 3))]), a.defers⟩ K a.defers ((h.bump 2))) ((h.bump 2))
/-- (*cubbyhole/due.Deadlines).All -/
def f198 (X : Caller) (L : Looper) (K : Value → AHeap → Prop) (h : AHeap) (t0 : Value) : Prop :=
 X (.call 60 [t0, (.int .u32 0)]) (fun t7 h =>
 rdK (binC P .neq 31 31 t7 (.int .i64 0) h) h fun t8 h =>
 condK t8
 (K (.slice none 0 0) ((h.bump 1)))
 (regK 5 ((h.bump 1)) fun b h =>
 opK (nilV t0 h) fun t10 h =>
 rdK (fAddr 2 t10) h fun t11 h =>
 rdK (ld1 t11 h) h fun t12 h =>
 opK (rangeA P 111 t12 (b + 4) h) fun t13 h =>
 L (f198_l7 X L) ⟨(upds (argsEnv [t0]) [(2, (.slice none 0 0)), (6, t0), (7, t7), (8, t8), (3, (.slice none 0 0)), (9, t0), (10, t10), (11, t11), (12, t12), (13, t13)]), []⟩ (blkX 0 (seqX (fun a h => f198_j5 X L K h a) (finX P X Tryz.f198 K))) h)) (((h.bump 1).bump 3))
theorem f198_eq (X : Caller) (L : Looper) (K : Value → AHeap → Prop) (h : AHeap) (t0 : Value) : aJob P X L (.call 198 [t0]) K h = f198 X L K h t0 := by kernel_rfl
/-- cubbyhole/event.kind -/
def f199 (X : Caller) (L : Looper) (K : Value → AHeap → Prop) (h : AHeap) (t0 : Value) : Prop :=
 rdK ((fun h : AHeap => binC P .geq 98 98 t0 (.int .i64 1) h) (((h.bump 1).bump 7))) (((h.bump 1).bump 7)) fun t4 h =>
 gopK (wantV t4 true) h (some (t0, h)) fun t6 h =>
 gopK (wantV t4 true) h ((binC P .lss 3 3 t6 (.int .i64 6) h).map (·, h)) fun t7 h =>
 opK (pickV t4 t7 (.bool false) h) fun t8 h =>
 K t8 h
theorem f199_eq (X : Caller) (L : Looper) (K : Value → AHeap → Prop) (h : AHeap) (t0 : Value) : aJob P X L (.call 199 [t0]) K h = f199 X L K h t0 := by kernel_rfl
/-- cubbyhole/entry.Valid -/
def f200 (X : Caller) (L : Looper) (K : Value → AHeap → Prop) (h : AHeap) (t0 : Value) : Prop :=
 regK 2 h fun b h =>
 opK (boxV t0 (b + 0) h) fun t1 h =>
 rdK ((fun h : AHeap => fAddr 0 t1) ((h.bump 9))) ((h.bump 9)) fun t3 h =>
 rdK (ld1 t3 h) h fun t4 h =>
 rdK (fAddr 1 t1) h fun t5 h =>
 rdK (ld1 t5 h) h fun t6 h =>
 rdK (fAddr 3 t1) h fun t7 h =>
 rdK (ld1 t7 h) h fun t8 h =>
 X (.call 72 [t4, t6, t8]) (fun t9 h =>
 rdK (binC P .eql 31 31 t9 (.int .i64 0) h) h fun t10 h =>
 K t10 h) h
theorem f200_eq (X : Caller) (L : Looper) (K : Value → AHeap → Prop) (h : AHeap) (t0 : Value) : aJob P X L (.call 200 [t0]) K h = f200 X L K h t0 := by kernel_rfl
/-- cubbyhole/event.of -/
def f201 (X : Caller) (L : Looper) (K : Value → AHeap → Prop) (h : AHeap) (t0 : Value) : Prop :=
 regK 2 h fun b h =>
 opK (boxV t0 (b + 0) h) fun t1 h =>
 opK (newV [.string ⟨#[]⟩, .slice none 0 0, .int .u64 0, .int .u64 0] (b + 1) h) fun t2 h =>
 rdK ((fun h : AHeap => fAddr 1 t1) ((h.bump 10))) ((h.bump 10)) fun t3 h =>
 rdK (ld1 t3 h) h fun t4 h =>
 rdK (fAddr 2 t1) h fun t5 h =>
 rdK (ld1 t5 h) h fun t6 h =>
 rdK (fAddr 4 t1) h fun t7 h =>
 rdK (ld1 t7 h) h fun t8 h =>
 rdK (fAddr 3 t1) h fun t9 h =>
 rdK (ld1 t9 h) h fun t10 h =>
 rdK (buildA P 44 [(0, t4), (1, t6), (2, t8), (3, t10)]) h fun t11 h =>
 stK (stV 4 t2 t11 h) fun h =>
 retK (consR (ldN 4 t2 h) (some [])) K h
theorem f201_eq (X : Caller) (L : Looper) (K : Value → AHeap → Prop) (h : AHeap) (t0 : Value) : aJob P X L (.call 201 [t0]) K h = f201 X L K h t0 := by kernel_rfl
/-- (*cubbyhole/cascade.Cascade).Get -/
def f202 (X : Caller) (L : Looper) (K : Value → AHeap → Prop) (h : AHeap) (t0 t1 : Value) : Prop :=
 regK 2 h fun b h =>
 opK (newV [.int .u32 0, .int .u64 0, .int .u64 0] (b + 0) h) fun t4 h =>
 X (.call 109 [t0, t1]) (fun t11 h =>
 rdK ((fun h : AHeap => binC P .neq 31 31 t11 (.int .i64 0) h) ((h.bump 2))) ((h.bump 2)) fun t13 h =>
 condK t13
 (rdK ((fun h : AHeap => buildA P 148 []) ((h.bump 4))) ((h.bump 4)) fun t14 h =>
  stK (stV 3 t4 t14 h) fun h =>
  retK (consR (ldN 3 t4 h) (consR (some t11) (some []))) K h)
 (regK 12 h fun b_1 h =>
 opK (nilV t0 h) fun t18 h =>
 rdK (fAddr 9 t18) h fun t19 h =>
 rdK (ld1 t19 h) h fun t20 h =>
 rdK (lookupA P 111 t20 t1 true h) h fun t22 h =>
 opK (extV 0 t22 h) fun t23 h =>
 opK (extV 1 t22 h) fun t24 h =>
 opK (newV [.int .u32 0, .int .u64 0, .int .u64 0] (b_1 + 9) h) fun t7 h =>
 stK (stV 3 t7 t23 h) fun h =>
 rdK ((fun h : AHeap => unV P .not 4 t24) ((h.bump 2))) ((h.bump 2)) fun t26 h =>
 condK t26
 (rdK ((fun h : AHeap => buildA P 148 []) ((h.bump 3))) ((h.bump 3)) fun t27 h =>
  stK (stV 3 t4 t27 h) fun h =>
  retK (consR (ldN 3 t4 h) (consR (some (.int .i64 9)) (some []))) K h)
 (rdK ((fun h : AHeap => ldN 3 t7 h) ((h.bump 3))) ((h.bump 3)) fun t28 h =>
 stK (stV 3 t4 t28 h) fun h =>
 retK (consR (ldN 3 t4 h) (consR (some (.int .i64 0)) (some []))) K h))) ((h.bump 4))
theorem f202_eq (X : Caller) (L : Looper) (K : Value → AHeap → Prop) (h : AHeap) (t0 t1 : Value) : aJob P X L (.call 202 [t0, t1]) K h = f202 X L K h t0 t1 := by kernel_rfl
def f203_j7 (X : Caller) (L : Looper) (K : Value → AHeap → Prop) (h : AHeap) (t6 t42 t4 t5 : Value) : Prop :=
 K (.tuple #[t6, (.int .i64 0)]) ((h.bump 3))
/-- (*cubbyhole/wheel.Wheel).Remove -/
def f203 (X : Caller) (L : Looper) (K : Value → AHeap → Prop) (h : AHeap) (t0 t1 : Value) : Prop :=
 X (.call 247 [t0, t1]) (fun t11 h =>
 opK (extV 0 t11 h) fun t12 h =>
 opK (extV 1 t11 h) fun t13 h =>
 rdK ((fun h : AHeap => binC P .neq 31 31 t13 (.int .i64 0) h) ((h.bump 2))) ((h.bump 2)) fun t15 h =>
 condK t15
 (K (.tuple #[(.int .i64 0), t13]) ((h.bump 3)))
 (opK ((fun h : AHeap => nilV t0 h) ((h.bump 6))) fun t18 h =>
 rdK (fAddr 0 t18) h fun t19 h =>
 rdK (ld1 t19 h) h fun t20 h =>
 X (.call 248 [t20, t1]) (fun t22 h =>
 opK ((fun h : AHeap => nilV t0 h) ((h.bump 8))) fun t24 h =>
 rdK (fAddr 5 t24) h fun t25 h =>
 rdK (ld1 t25 h) h fun t26 h =>
 rdK (binC P .sub 3 3 t26 (.int .i64 1) h) h fun t27 h =>
 opK (nilV t0 h) fun t28 h =>
 rdK (fAddr 5 t28) h fun t29 h =>
 stK (stV 1 t29 t27 h) fun h =>
 opK ((fun h : AHeap => nilV t0 h) ((h.bump 7))) fun t31 h =>
 rdK (fAddr 0 t31) h fun t32 h =>
 rdK (ld1 t32 h) h fun t33 h =>
 X (.call 249 [t33, t12]) (fun t35 h =>
 rdK (binC P .eql 3 3 t35 (.int .i64 0) h) h fun t36 h =>
 condK t36
 (opK ((fun h : AHeap => nilV t0 h) ((h.bump 5))) fun t38 h =>
  rdK (fAddr 1 t38) h fun t39 h =>
  X (.call 250 [t39, t12]) (fun t41 h =>
  f203_j7 X L K h t12 undef ((.int .i64 0)) ((.int .i64 0))) h)
 (f203_j7 X L K h t12 undef ((.int .i64 0)) ((.int .i64 0)))) h) h)) (((h.bump 2).bump 8))
theorem f203_eq (X : Caller) (L : Looper) (K : Value → AHeap → Prop) (h : AHeap) (t0 t1 : Value) : aJob P X L (.call 203 [t0, t1]) K h = f203 X L K h t0 t1 := by kernel_rfl
end Go.Proofs.YtcoofhpdkgkjcaaGreatDoor.F
