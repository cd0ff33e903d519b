/- The functions of the program, as shallow texts (printed by a program of this place). -/
import Derived.Test.YtdlnbmadifgbkaaGreatDoorFW
namespace Go.Proofs.YtdlnbmadifgbkaaGreatDoor.F
set_option linter.unusedVariables false
set_option linter.unusedSimpArgs false
open Go Go.Cub
/-- (*cubbyhole/swiss.Index).Remove$1 -/
def f163 (X : Caller) (L : Looper) (K : Value → AHeap → Prop) (h : AHeap) (t0 t1 : Value) : Prop :=
 rdK ((fun h : AHeap => ld1 t1 h) (((h.bump 1).bump 4))) (((h.bump 1).bump 4)) fun t5 h =>
 rdK (binV P .eql 81 81 t0 t5 h) h fun t6 h =>
 K t6 h
theorem f163_eq (X : Caller) (L : Looper) (K : Value → AHeap → Prop) (h : AHeap) (t0 t1 : Value) : aJob P X L (.call 163 [t0, t1]) K h = f163 X L K h t0 t1 := by kernel_rfl
def f164_j6 (X : Caller) (L : Looper) (K : Value → AHeap → Prop) (h : AHeap) (t0 t17 t1 t18 t19 t20 t21 t22 t7 t23 t24 t25 t26 t27 t28 t4 t5 : Value) : Prop :=
 X (.call 212 [t0]) (fun t18_1 h =>
 rdK (binV P .shr 5 3 t18_1 t1 h) h fun t20_1 h =>
 rdK (binC P .and 5 5 t20_1 (.int .u8 1) h) h fun t21_1 h =>
 rdK (binC P .eql 5 5 t21_1 (.int .u8 0) h) h fun t22_1 h =>
 condK t22_1
 (K (.tuple #[(.int .u64 0), (.int .i64 8)]) ((h.bump 2)))
 (X (.call 213 [t0, t1, t7]) (fun t26_1 h =>
 opK (extV 0 t26_1 h) fun t27_1 h =>
 opK (extV 1 t26_1 h) fun t28_1 h =>
 K (.tuple #[t27_1, t28_1]) h) ((h.bump 8)))) ((h.bump 6))
/-- cubbyhole/control.Erase -/
def f164 (X : Caller) (L : Looper) (K : Value → AHeap → Prop) (h : AHeap) (t0 t1 : Value) : Prop :=
 X (.call 211 [t0, t1]) (fun t10 h =>
 rdK ((fun h : AHeap => binC P .neq 24 24 t10 (.int .i64 0) h) ((h.bump 2))) ((h.bump 2)) fun t12 h =>
 condK t12
 (K (.tuple #[(.int .u64 0), t10]) ((h.bump 3)))
 (X (.call 165 [t0]) (fun t15 h =>
 rdK (binC P .neq 5 5 t15 (.int .u8 0) h) h fun t16 h =>
 condK t16
 (f164_j6 X L K ((h.bump 1)) t0 undef t1 undef undef undef undef undef ((.int .u8 128)) undef undef undef undef undef undef ((.int .u64 0)) ((.int .i64 0)))
 (f164_j6 X L K h t0 undef t1 undef undef undef undef undef ((.int .u8 254)) undef undef undef undef undef undef ((.int .u64 0)) ((.int .i64 0)))) (((h.bump 1).bump 3)))) (((h.bump 2).bump 4))
theorem f164_eq (X : Caller) (L : Looper) (K : Value → AHeap → Prop) (h : AHeap) (t0 t1 : Value) : aJob P X L (.call 164 [t0, t1]) K h = f164 X L K h t0 t1 := by kernel_rfl
/-- cubbyhole/control.Empties -/
def f165 (X : Caller) (L : Looper) (K : Value → AHeap → Prop) (h : AHeap) (t0 : Value) : Prop :=
 X (.call 214 [t0, (.int .u8 128)]) (fun t4 h =>
 K t4 h) (((h.bump 1).bump 3))
theorem f165_eq (X : Caller) (L : Looper) (K : Value → AHeap → Prop) (h : AHeap) (t0 : Value) : aJob P X L (.call 165 [t0]) K h = f165 X L K h t0 := by kernel_rfl
/-- cubbyhole/growth.check -/
def f166 (X : Caller) (L : Looper) (K : Value → AHeap → Prop) (h : AHeap) (t0 t1 t2 : Value) : Prop :=
 X (.call 131 [t0]) (fun t10 h =>
 rdK (unV P .not 4 t10) h fun t11 h =>
 condK t11
 (K (.int .i64 2) ((h.bump 1)))
 (rdK ((fun h : AHeap => binC P .mul 3 3 t0 (.int .i64 8) h) ((h.bump 3))) ((h.bump 3)) fun t13 h =>
 regK 6 h fun b h =>
 opK (bsliceV P 276 2 [(0, t1), (1, t2)] (b + 3) h) fun t17 h =>
 X (.call 215 [t13, t17]) (fun t18 h =>
 rdK ((fun h : AHeap => binC P .neq 24 24 t18 (.int .i64 0) h) ((h.bump 2))) ((h.bump 2)) fun t20 h =>
 condK t20
 (K t18 ((h.bump 2)))
 (regK 7 h fun b_1 h =>
 rdK (binV P .add 3 3 t1 t2 h) h fun t25 h =>
 opK (bsliceV P 276 1 [(0, t25)] (b_1 + 4) h) fun t26 h =>
 X (.call 215 [t13, t26]) (fun t27 h =>
 K t27 h) h)) h)) (((h.bump 1).bump 3))
theorem f166_eq (X : Caller) (L : Looper) (K : Value → AHeap → Prop) (h : AHeap) (t0 t1 t2 : Value) : aJob P X L (.call 166 [t0, t1, t2]) K h = f166 X L K h t0 t1 t2 := by kernel_rfl
/-- cubbyhole/growth.bound -/
def f167 (X : Caller) (L : Looper) (K : Value → AHeap → Prop) (h : AHeap) (t0 : Value) : Prop :=
 rdK ((fun h : AHeap => binD P .mul 3 3 (.int .i64 4) t0 h) (((h.bump 1).bump 5))) (((h.bump 1).bump 5)) fun t4 h =>
 rdK (binC P .add 3 3 t4 (.int .i64 16) h) h fun t5 h =>
 X (.call 216 [t5]) (fun t6 h =>
 K t6 h) h
theorem f167_eq (X : Caller) (L : Looper) (K : Value → AHeap → Prop) (h : AHeap) (t0 : Value) : aJob P X L (.call 167 [t0]) K h = f167 X L K h t0 := by kernel_rfl
def f170_j2 (X : Caller) (L : Looper) (K : Value → AHeap → Prop) (h : AHeap) (t0 t4 t24 t26 t27 t25 : Value) : Prop :=
 opK ((fun h : AHeap => nilV t0 h) ((h.bump 5))) fun t26_1 h =>
 rdK (fAddr 1 t26_1) h fun t27_1 h =>
 stK (stV 1 t27_1 t4 h) fun h =>
 K (.tuple #[]) h
/-- (*cubbyhole/event.Stream).add -/
def f170 (X : Caller) (L : Looper) (K : Value → AHeap → Prop) (h : AHeap) (t0 t1 : Value) : Prop :=
 regK 1 h fun b h =>
 opK (boxV t1 (b + 0) h) fun t3 h =>
 regK 4 h fun b_1 h =>
 rdK (ldN 6 t3 h) h fun t5 h =>
 rdK (buildA P 183 [(0, t5)]) h fun t6 h =>
 opK (boxV t6 (b_1 + 2) h) fun t7 h =>
 opK ((fun h : AHeap => nilV t0 h) ((h.bump 5))) fun t9 h =>
 rdK (fAddr 1 t9) h fun t10 h =>
 rdK (ld1 t10 h) h fun t11 h =>
 rdK (binC P .eql 165 165 t11 (.pointer none) h) h fun t12 h =>
 condK t12
 (opK ((fun h : AHeap => nilV t0 h) ((h.bump 5))) fun t15 h =>
  rdK (fAddr 0 t15) h fun t16 h =>
  stK (stV 1 t16 t7 h) fun h =>
  f170_j2 X L K h t0 t7 undef undef undef undef)
 (opK ((fun h : AHeap => nilV t0 h) ((h.bump 8))) fun t18 h =>
  rdK (fAddr 1 t18) h fun t19 h =>
  rdK (ld1 t19 h) h fun t20 h =>
  opK (nilV t20 h) fun t22 h =>
  rdK (fAddr 6 t22) h fun t23 h =>
  stK (stV 1 t23 t7 h) fun h =>
  f170_j2 X L K h t0 t7 undef undef undef undef)
theorem f170_eq (X : Caller) (L : Looper) (K : Value → AHeap → Prop) (h : AHeap) (t0 t1 : Value) : aJob P X L (.call 170 [t0, t1]) K h = f170 X L K h t0 t1 := by kernel_rfl
/-- cubbyhole/event.own -/
def f171 (X : Caller) (L : Looper) (K : Value → AHeap → Prop) (h : AHeap) (t0 : Value) : Prop :=
 regK 2 h fun b h =>
 opK (boxV t0 (b + 0) h) fun t1 h =>
 opK (newV [.int .i64 0, .string ⟨#[]⟩, .slice none 0 0, .int .u64 0, .int .u64 0, .int .u64 0] (b + 1) h) fun t2 h =>
 rdK ((fun h : AHeap => fAddr 2 t1) ((h.bump 5))) ((h.bump 5)) fun t3 h =>
 rdK (ld1 t3 h) h fun t4 h =>
 X (.call 20 [t4]) (fun t5 h =>
 rdK (fAddr 2 t1) h fun t6 h =>
 stK (stV 1 t6 t5 h) fun h =>
 rdK ((fun h : AHeap => ldN 6 t1 h) ((h.bump 2))) ((h.bump 2)) fun t7 h =>
 stK (stV 6 t2 t7 h) fun h =>
 retK (consR (ldN 6 t2 h) (some [])) K h) h
theorem f171_eq (X : Caller) (L : Looper) (K : Value → AHeap → Prop) (h : AHeap) (t0 : Value) : aJob P X L (.call 171 [t0]) K h = f171 X L K h t0 := by kernel_rfl
/-- (*cubbyhole/lru.LRU).check -/
def f172 (X : Caller) (L : Looper) (K : Value → AHeap → Prop) (h : AHeap) (t0 t1 : Value) : Prop :=
 rdK ((fun h : AHeap => binC P .eql 136 136 t0 (.pointer none) h) (((h.bump 1).bump 10))) (((h.bump 1).bump 10)) fun t7 h =>
 gopK (wantV t7 false) h (some (t0, h)) fun t9 h =>
 gopK (wantV t7 false) h (nilV t9 h) fun t10 h =>
 gopK (wantV t7 false) h ((fAddr 0 t10).map (·, h)) fun t11 h =>
 gopK (wantV t7 false) h ((ld1 t11 h).map (·, h)) fun t12 h =>
 gopK (wantV t7 false) h ((binC P .eql 215 215 t12 (.pointer none) h).map (·, h)) fun t13 h =>
 opK (pickV t7 (.bool true) t13 h) fun t14 h =>
 condK t14
 (K (.int .i64 1) ((h.bump 1)))
 (rdK ((fun h : AHeap => binC P .geq 81 81 t1 (.int .u32 4194304) h) ((h.bump 3))) ((h.bump 3)) fun t17 h =>
  condK t17
  (K (.int .i64 2) ((h.bump 1)))
  (K (.int .i64 0) ((h.bump 1))))
theorem f172_eq (X : Caller) (L : Looper) (K : Value → AHeap → Prop) (h : AHeap) (t0 t1 : Value) : aJob P X L (.call 172 [t0, t1]) K h = f172 X L K h t0 t1 := by kernel_rfl
/-- (*cubbyhole/links.Links).Of -/
def f173 (X : Caller) (L : Looper) (K : Value → AHeap → Prop) (h : AHeap) (t0 t1 : Value) : Prop :=
 X (.call 220 [t0, t1]) (fun t9 h =>
 rdK ((fun h : AHeap => binC P .neq 24 24 t9 (.int .i64 0) h) ((h.bump 2))) ((h.bump 2)) fun t11 h =>
 condK t11
 (K (.tuple #[(.int .i64 0), t9]) ((h.bump 3)))
 (regK 12 h fun b h =>
 opK (nilV t0 h) fun t14 h =>
 rdK (fAddr 0 t14) h fun t15 h =>
 rdK (ld1 t15 h) h fun t16 h =>
 rdK (ixS 3 t16 t1) h fun t18 h =>
 rdK (fAddr 2 t18) h fun t19 h =>
 rdK (ld1 t19 h) h fun t20 h =>
 opK (convertA P 81 3 t20 (b + 8) h) fun t21 h =>
 rdK (binC P .sub 3 3 t21 (.int .i64 1) h) h fun t22 h =>
 K (.tuple #[t22, (.int .i64 0)]) h)) (((h.bump 2).bump 4))
theorem f173_eq (X : Caller) (L : Looper) (K : Value → AHeap → Prop) (h : AHeap) (t0 t1 : Value) : aJob P X L (.call 173 [t0, t1]) K h = f173 X L K h t0 t1 := by kernel_rfl
/-- (*cubbyhole/lru.LRU).Add -/
def f174 (X : Caller) (L : Looper) (K : Value → AHeap → Prop) (h : AHeap) (t0 t1 : Value) : Prop :=
 X (.call 172 [t0, t1]) (fun t8 h =>
 rdK ((fun h : AHeap => binC P .neq 24 24 t8 (.int .i64 0) h) ((h.bump 2))) ((h.bump 2)) fun t10 h =>
 condK t10
 (K t8 ((h.bump 2)))
 (X (.call 221 [t0, t1]) (fun t14 h =>
 opK ((fun h : AHeap => nilV t0 h) ((h.bump 7))) fun t16 h =>
 rdK (fAddr 0 t16) h fun t17 h =>
 rdK (ld1 t17 h) h fun t18 h =>
 X (.call 222 [t18, (.int .i64 0), t1]) (fun t20 h =>
 K t20 h) h) ((h.bump 3)))) (((h.bump 1).bump 4))
theorem f174_eq (X : Caller) (L : Looper) (K : Value → AHeap → Prop) (h : AHeap) (t0 t1 : Value) : aJob P X L (.call 174 [t0, t1]) K h = f174 X L K h t0 t1 := by kernel_rfl
/-- (*cubbyhole/segment.Segments).demote$1 -/
def f175 (X : Caller) (L : Looper) (K : Value → AHeap → Prop) (h : AHeap) (t0 : Value) : Prop :=
 rdK ((fun h : AHeap => ld1 t0 h) (((h.bump 1).bump 27))) (((h.bump 1).bump 27)) fun t2 h =>
 opK (nilV t2 h) fun t3 h =>
 rdK (fAddr 0 t3) h fun t4 h =>
 rdK (ixR 2 1 t4 (.int .i64 1)) h fun t5 h =>
 rdK (ld1 t5 h) h fun t6 h =>
 X (.call 176 [t6]) (fun t7 h =>
 rdK (binC P .gtr 3 3 t7 (.int .i64 0) h) h fun t8 h =>
 gopK (wantV t8 true) h ((ld1 t0 h).map (·, h)) fun t10 h =>
 gopK (wantV t8 true) h (nilV t10 h) fun t11 h =>
 gopK (wantV t8 true) h ((fAddr 5 t11).map (·, h)) fun t12 h =>
 gopK (wantV t8 true) h ((ld1 t12 h).map (·, h)) fun t13 h =>
 gopK (wantV t8 true) h ((binC P .eql 3 3 t13 (.int .i64 (-1)) h).map (·, h)) fun t14 h =>
 gopK (wantV t8 true) h (some (t14, h)) fun t15 h =>
 gopK (wantV t15 false) h ((ld1 t0 h).map (·, h)) fun t16 h =>
 gopK (wantV t15 false) h (nilV t16 h) fun t17 h =>
 gopK (wantV t15 false) h ((fAddr 2 t17).map (·, h)) fun t18 h =>
 gopK (wantV t15 false) h ((ixR 2 1 t18 (.int .i64 1)).map (·, h)) fun t19 h =>
 gopK (wantV t15 false) h ((ld1 t19 h).map (·, h)) fun t20 h =>
 gopK (wantV t15 false) h ((ld1 t0 h).map (·, h)) fun t21 h =>
 gopK (wantV t15 false) h (nilV t21 h) fun t22 h =>
 gopK (wantV t15 false) h ((fAddr 5 t22).map (·, h)) fun t23 h =>
 gopK (wantV t15 false) h ((ld1 t23 h).map (·, h)) fun t24 h =>
 gopK (wantV t15 false) h ((binV P .gtr 3 3 t20 t24 h).map (·, h)) fun t25 h =>
 gopK (wantV t8 true) h (pickV t15 (.bool true) t25 h) fun t26 h =>
 opK (pickV t8 t26 (.bool false) h) fun t27 h =>
 K t27 h) h
theorem f175_eq (X : Caller) (L : Looper) (K : Value → AHeap → Prop) (h : AHeap) (t0 : Value) : aJob P X L (.call 175 [t0]) K h = f175 X L K h t0 := by kernel_rfl
/-- (*cubbyhole/lru.LRU).Len -/
def f176 (X : Caller) (L : Looper) (K : Value → AHeap → Prop) (h : AHeap) (t0 : Value) : Prop :=
 X (.call 172 [t0, (.int .u32 0)]) (fun t4 h =>
 rdK (binC P .neq 24 24 t4 (.int .i64 0) h) h fun t5 h =>
 condK t5
 (K (.int .i64 0) ((h.bump 1)))
 (opK ((fun h : AHeap => nilV t0 h) ((h.bump 6))) fun t7 h =>
 rdK (fAddr 0 t7) h fun t8 h =>
 rdK (ld1 t8 h) h fun t9 h =>
 X (.call 223 [t9, (.int .i64 0)]) (fun t10 h =>
 K t10 h) h)) (((h.bump 1).bump 3))
theorem f176_eq (X : Caller) (L : Looper) (K : Value → AHeap → Prop) (h : AHeap) (t0 : Value) : aJob P X L (.call 176 [t0]) K h = f176 X L K h t0 := by kernel_rfl
/-- (cubbyhole/links.head).ring -/
def f178 (X : Caller) (L : Looper) (K : Value → AHeap → Prop) (h : AHeap) (t0 t1 : Value) : Prop :=
 regK 8 ((h.bump 1)) fun b h =>
 opK (nilV t1 h) fun t6 h =>
 rdK (fAddr 1 t6) h fun t7 h =>
 rdK (ld1 t7 h) h fun t8 h =>
 rdK (binV P .add 3 3 t8 t0 h) h fun t10 h =>
 opK (convertA P 3 81 t10 (b + 6) h) fun t11 h =>
 K t11 h
theorem f178_eq (X : Caller) (L : Looper) (K : Value → AHeap → Prop) (h : AHeap) (t0 t1 : Value) : aJob P X L (.call 178 [t0, t1]) K h = f178 X L K h t0 t1 := by kernel_rfl
/-- cubbyhole/word.Repeat -/
def f179 (X : Caller) (L : Looper) (K : Value → AHeap → Prop) (h : AHeap) (t0 : Value) : Prop :=
 regK 4 ((h.bump 1)) fun b h =>
 opK (convertA P 5 27 t0 (b + 1) h) fun t4 h =>
 rdK (binD P .mul 27 27 (.int .u64 72340172838076673) t4 h) h fun t5 h =>
 K t5 h
theorem f179_eq (X : Caller) (L : Looper) (K : Value → AHeap → Prop) (h : AHeap) (t0 : Value) : aJob P X L (.call 179 [t0]) K h = f179 X L K h t0 := by kernel_rfl
/-- (*cubbyhole/cascade.Cascade).place -/
def f180 (X : Caller) (L : Looper) (K : Value → AHeap → Prop) (h : AHeap) (t0 t1 : Value) : Prop :=
 opK ((fun h : AHeap => nilV t0 h) (((h.bump 2).bump 10))) fun t8 h =>
 rdK (fAddr 0 t8) h fun t9 h =>
 rdK (ld1 t9 h) h fun t10 h =>
 rdK (binV P .xor 33 33 t1 t10 h) h fun t11 h =>
 X (.call 226 [t11]) (fun t12 h =>
 rdK (binC P .sub 3 3 t12 (.int .i64 1) h) h fun t13 h =>
 rdK (binC P .quo 3 3 t13 (.int .i64 8) h) h fun t14 h =>
 regK 9 h fun b h =>
 rdK (binD P .mul 3 3 (.int .i64 8) t14 h) h fun t18 h =>
 rdK (binV P .shr 33 3 t1 t18 h) h fun t19 h =>
 rdK (binC P .and 33 33 t19 (.int .u64 255) h) h fun t20 h =>
 opK (convertA P 33 3 t20 (b + 6) h) fun t21 h =>
 K (.tuple #[t14, t21]) h) h
theorem f180_eq (X : Caller) (L : Looper) (K : Value → AHeap → Prop) (h : AHeap) (t0 t1 : Value) : aJob P X L (.call 180 [t0, t1]) K h = f180 X L K h t0 t1 := by kernel_rfl
def f181_l4 (X : Caller) (L : Looper) (a : AAct) (K : ActPost) (h : AHeap) : Prop :=
 rdK ((fun h : AHeap => binC P .eql 24 24 (a.env 9) (.int .i64 0) h) ((h.bump 7))) ((h.bump 7)) fun t23 h =>
 gopK (wantV t23 true) h (some ((a.env 8), h)) fun t25 h =>
 gopK (wantV t23 true) h (some ((a.env 2), h)) fun t26 h =>
 gopK (wantV t23 true) h ((binV P .leq 3 3 t25 t26 h).map (·, h)) fun t27 h =>
 opK (pickV t23 t27 (.bool false) h) fun t28 h =>
 condK t28
 (opK ((fun h : AHeap => nilV (a.env 0) h) ((h.bump 13))) fun t42 h =>
 rdK (fAddr 1 t42) h fun t43 h =>
 rdK (ixR 8 1 t43 (a.env 1)) h fun t44 h =>
 rdK (ld1 t44 h) h fun t45 h =>
 X (.call 228 [t45, (a.env 8)]) (fun t47 h =>
 opK (extV 0 t47 h) fun t48 h =>
 opK (extV 1 t47 h) fun t49 h =>
 regK 4 h fun b h =>
 opK (builtinV P .append [143, 143] [(a.env 7), t48] (b + 2) h) fun t52 h =>
 opK ((fun h : AHeap => nilV (a.env 0) h) ((h.bump 12))) fun t32 h =>
 rdK (fAddr 1 t32) h fun t33 h =>
 rdK (ixR 8 1 t33 (a.env 1)) h fun t34 h =>
 rdK (ld1 t34 h) h fun t35 h =>
 X (.call 227 [t35, (.int .i64 0)]) (fun t36 h =>
 opK (extV 0 t36 h) fun t37 h =>
 opK (extV 1 t36 h) fun t38 h =>
 K .normal ⟨(upds a.env [(22, (a.env 9)), (23, t23), (24, t23), (25, t25), (26, t26), (27, t27), (28, t28), (40, (a.env 0)), (41, (a.env 1)), (42, t42), (43, t43), (44, t44), (45, t45), (46, (a.env 8)), (47, t47), (39, t47), (48, t48), (49, t49), (10, t48), (11, t49), (50, (a.env 7)), (51, t48), (52, t52), (7, t52), (30, (a.env 0)), (31, (a.env 1)), (32, t32), (33, t33), (34, t34), (35, t35), (36, t36), (29, t36), (37, t37), (38, t38), (8, t37), (9, t38)]), a.defers⟩ h) h) h)
 (K (.exit 0) ⟨(upds a.env [(22, (a.env 9)), (23, t23), (24, t23), (25, t25), (26, t26), (27, t27), (28, t28)]), a.defers⟩ h)
def f181_j2 (X : Caller) (L : Looper) (K : Value → AHeap → Prop) (h : AHeap) (a : AAct) : Prop :=
 leaveA P X Tryz.f181 ⟨(upds a.env [(53, (a.env 7)), (6, (a.env 7))]), a.defers⟩ K a.defers ((h.bump 2))
/-- (*cubbyhole/cascade.Cascade).empty -/
def f181 (X : Caller) (L : Looper) (K : Value → AHeap → Prop) (h : AHeap) (t0 t1 t2 : Value) : Prop :=
 opK ((fun h : AHeap => nilV t0 h) ((((h.bump 1).bump 1).bump 12))) fun t15 h =>
 rdK (fAddr 1 t15) h fun t16 h =>
 rdK (ixR 8 1 t16 t1) h fun t17 h =>
 rdK (ld1 t17 h) h fun t18 h =>
 X (.call 227 [t18, (.int .i64 0)]) (fun t19 h =>
 opK (extV 0 t19 h) fun t20 h =>
 opK (extV 1 t19 h) fun t21 h =>
 L (f181_l4 X L) ⟨(upds (argsEnv [t0, t1, t2]) [(6, (.slice none 0 0)), (7, (.slice none 0 0)), (13, t0), (14, t1), (15, t15), (16, t16), (17, t17), (18, t18), (19, t19), (12, t19), (20, t20), (21, t21), (8, t20), (9, t21)]), []⟩ (blkX 0 (seqX (fun a h => f181_j2 X L K h a) (finX P X Tryz.f181 K))) h) h
theorem f181_eq (X : Caller) (L : Looper) (K : Value → AHeap → Prop) (h : AHeap) (t0 t1 t2 : Value) : aJob P X L (.call 181 [t0, t1, t2]) K h = f181 X L K h t0 t1 t2 := by kernel_rfl
/-- (*cubbyhole/cascade.Cascade).put -/
def f182 (X : Caller) (L : Looper) (K : Value → AHeap → Prop) (h : AHeap) (t0 t1 : Value) : Prop :=
 regK 1 h fun b h =>
 opK (boxV t1 (b + 0) h) fun t3 h =>
 rdK ((fun h : AHeap => fAddr 1 t3) ((h.bump 9))) ((h.bump 9)) fun t8 h =>
 rdK (ld1 t8 h) h fun t9 h =>
 X (.call 180 [t0, t9]) (fun t10 h =>
 opK (extV 0 t10 h) fun t11 h =>
 opK (extV 1 t10 h) fun t12 h =>
 opK ((fun h : AHeap => nilV t0 h) ((h.bump 10))) fun t15 h =>
 rdK (fAddr 1 t15) h fun t16 h =>
 rdK (ixR 8 1 t16 t11) h fun t17 h =>
 rdK (ld1 t17 h) h fun t18 h =>
 rdK (fAddr 0 t3) h fun t19 h =>
 rdK (ld1 t19 h) h fun t20 h =>
 X (.call 229 [t18, t20, t12]) (fun t22 h =>
 opK ((fun h : AHeap => nilV t0 h) ((h.bump 8))) fun t24 h =>
 rdK (fAddr 9 t24) h fun t25 h =>
 rdK (ld1 t25 h) h fun t26 h =>
 rdK (fAddr 0 t3) h fun t27 h =>
 rdK (ld1 t27 h) h fun t28 h =>
 rdK (ldN 3 t3 h) h fun t29 h =>
 stK (mapPutA P 162 t26 t28 t29 h) fun h =>
 opK ((fun h : AHeap => nilV t0 h) ((h.bump 8))) fun t31 h =>
 rdK (fAddr 10 t31) h fun t32 h =>
 rdK (ld1 t32 h) h fun t33 h =>
 rdK (fAddr 2 t3) h fun t34 h =>
 rdK (ld1 t34 h) h fun t35 h =>
 rdK (buildA P 296 []) h fun t36 h =>
 stK (mapPutA P 229 t33 t35 t36 h) fun h =>
 K (.tuple #[]) h) h) h
theorem f182_eq (X : Caller) (L : Looper) (K : Value → AHeap → Prop) (h : AHeap) (t0 t1 : Value) : aJob P X L (.call 182 [t0, t1]) K h = f182 X L K h t0 t1 := by kernel_rfl
/-- (*cubbyhole/cascade.Cascade).forget -/
def f183 (X : Caller) (L : Looper) (K : Value → AHeap → Prop) (h : AHeap) (t0 t1 : Value) : Prop :=
 regK 1 h fun b h =>
 opK (boxV t1 (b + 0) h) fun t3 h =>
 regK 7 h fun b_1 h =>
 opK (nilV t0 h) fun t5 h =>
 rdK (fAddr 9 t5) h fun t6 h =>
 rdK (ld1 t6 h) h fun t7 h =>
 rdK (fAddr 0 t3) h fun t8 h =>
 rdK (ld1 t8 h) h fun t9 h =>
 opK (builtinV P .delete [162, 81] [t7, t9] (b_1 + 6) h) fun _ h =>
 regK 7 h fun b_2 h =>
 opK (nilV t0 h) fun t11 h =>
 rdK (fAddr 10 t11) h fun t12 h =>
 rdK (ld1 t12 h) h fun t13 h =>
 rdK (fAddr 2 t3) h fun t14 h =>
 rdK (ld1 t14 h) h fun t15 h =>
 opK (builtinV P .delete [229, 27] [t13, t15] (b_2 + 6) h) fun _ h =>
 K (.tuple #[]) h
theorem f183_eq (X : Caller) (L : Looper) (K : Value → AHeap → Prop) (h : AHeap) (t0 t1 : Value) : aJob P X L (.call 183 [t0, t1]) K h = f183 X L K h t0 t1 := by kernel_rfl
/-- slices.SortFunc[[]cubbyhole/api.Timed,cubbyhole/api.Timed] -/
def f184 (X : Caller) (L : Looper) (K : Value → AHeap → Prop) (h : AHeap) (t0 t1 : Value) : Prop :=
 regK 3 h fun b h =>
 opK (builtinV P .len [171] [t0] (b + 1) h) fun t6 h =>
 regK 7 h fun b_1 h =>
 opK (convertA P 3 316 t6 (b_1 + 3) h) fun t10 h =>
 X (.call 231 [t10]) (fun t11 h =>
 X (.call 230 [t0, (.int .i64 0), t6, t11, t1]) (fun t13 h =>
 K (.tuple #[]) h) h) h
theorem f184_eq (X : Caller) (L : Looper) (K : Value → AHeap → Prop) (h : AHeap) (t0 t1 : Value) : aJob P X L (.call 184 [t0, t1]) K h = f184 X L K h t0 t1 := by kernel_rfl
def f189_j7 (X : Caller) (L : Looper) (K : ActPost) (h : AHeap) (a : AAct) : Prop :=
 rdK ((fun h : AHeap => binC P .add 3 3 (a.env 11) (.int .i64 1) h) ((h.bump 2))) ((h.bump 2)) fun t22 h =>
 K .normal ⟨(upds a.env [(22, t22), (11, t22)]), a.defers⟩ h
def f189_l4 (X : Caller) (L : Looper) (a : AAct) (K : ActPost) (h : AHeap) : Prop :=
 rdK ((fun h : AHeap => binV P .lss 3 3 (a.env 11) (a.env 10) h) ((h.bump 1))) ((h.bump 1)) fun t12 h =>
 condK t12
 (rdK ((fun h : AHeap => ixS 1 (a.env 9) (a.env 11)) ((h.bump 3))) ((h.bump 3)) fun t13 h =>
 rdK (ld1 t13 h) h fun t14 h =>
 regK 5 h fun b_1 h =>
 opK (builtinV P .len [178] [t14] (b_1 + 2) h) fun t17 h =>
 rdK (binV P .add 3 3 (a.env 3) t17 h) h fun t18 h =>
 rdK ((fun h : AHeap => binC P .lss 3 3 t18 (.int .i64 0) h) ((h.bump 2))) ((h.bump 2)) fun t20 h =>
 condK t20
 (False)
 (f189_j7 X L K h ⟨(upds a.env [(12, t12), (13, t13), (14, t14), (5, t14), (15, (a.env 3)), (16, t14), (17, t17), (18, t18), (3, t18), (19, t18), (20, t20)]), a.defers⟩))
 (K (.exit 0) ⟨(upds a.env [(12, t12)]), a.defers⟩ h)
def f189_l14 (X : Caller) (L : Looper) (a : AAct) (K : ActPost) (h : AHeap) : Prop :=
 rdK ((fun h : AHeap => binV P .lss 3 3 (a.env 27) (a.env 26) h) ((h.bump 1))) ((h.bump 1)) fun t28 h =>
 condK t28
 (rdK ((fun h : AHeap => ixS 1 (a.env 25) (a.env 27)) ((h.bump 3))) ((h.bump 3)) fun t29 h =>
 rdK (ld1 t29 h) h fun t30 h =>
 regK 4 h fun b_3 h =>
 opK (builtinV P .append [178, 178] [(a.env 6), t30] (b_3 + 2) h) fun t33 h =>
 rdK ((fun h : AHeap => binC P .add 3 3 (a.env 27) (.int .i64 1) h) ((h.bump 2))) ((h.bump 2)) fun t34 h =>
 K .normal ⟨(upds a.env [(28, t28), (29, t29), (30, t30), (8, t30), (31, (a.env 6)), (32, t30), (33, t33), (6, t33), (34, t34), (27, t34)]), a.defers⟩ h)
 (K (.exit 2) ⟨(upds a.env [(28, t28)]), a.defers⟩ h)
def f189_j12 (X : Caller) (L : Looper) (K : Value → AHeap → Prop) (h : AHeap) (a : AAct) : Prop :=
 leaveA P X Tryz.f189 ⟨(upds a.env [(35, (a.env 6)), (2, (a.env 6))]), a.defers⟩ K a.defers ((h.bump 2))
def f189_j2 (X : Caller) (L : Looper) (K : Value → AHeap → Prop) (h : AHeap) (a : AAct) : Prop :=
 X (.call 234 [(.slice none 0 0), (a.env 3)]) (fun t24 h =>
 regK 3 h fun b_2 h =>
 opK (builtinV P .len [334] [(a.env 0)] (b_2 + 1) h) fun t26 h =>
 L (f189_l14 X L) ⟨(upds a.env [(23, (a.env 3)), (24, t24), (6, t24), (25, (a.env 0)), (26, t26), (27, (.int .i64 0))]), a.defers⟩ (blkX 2 (seqX (fun a h => f189_j12 X L K h a) (finX P X Tryz.f189 K))) h) ((h.bump 3))
/-- slices.Concat[[]cubbyhole/api.Weighed,cubbyhole/api.Weighed] -/
def f189 (X : Caller) (L : Looper) (K : Value → AHeap → Prop) (h : AHeap) (t0 : Value) : Prop :=
 regK 3 (((h.bump 1).bump 1)) fun b h =>
 opK (builtinV P .len [334] [t0] (b + 1) h) fun t10 h =>
 L (f189_l4 X L) ⟨(upds (argsEnv [t0]) [(2, (.slice none 0 0)), (3, (.int .i64 0)), (9, t0), (10, t10), (11, (.int .i64 0))]), []⟩ (blkX 0 (seqX (fun a h => f189_j2 X L K h a) (finX P X Tryz.f189 K))) h
theorem f189_eq (X : Caller) (L : Looper) (K : Value → AHeap → Prop) (h : AHeap) (t0 : Value) : aJob P X L (.call 189 [t0]) K h = f189 X L K h t0 := by kernel_rfl
/-- (cubbyhole/victim.choice).order -/
def f190 (X : Caller) (L : Looper) (K : Value → AHeap → Prop) (h : AHeap) (t0 : Value) : Prop :=
 regK 2 h fun b h =>
 opK (boxV t0 (b + 0) h) fun t1 h =>
 rdK ((fun h : AHeap => fAddr 0 t1) ((h.bump 6))) ((h.bump 6)) fun t3 h =>
 rdK (ld1 t3 h) h fun t4 h =>
 X (.call 236 [t4]) (fun t5 h =>
 X (.call 235 [t5, (.func (.func 237) #[] #[t1])]) (fun t7 h =>
 K t7 h) h) h
theorem f190_eq (X : Caller) (L : Looper) (K : Value → AHeap → Prop) (h : AHeap) (t0 : Value) : aJob P X L (.call 190 [t0]) K h = f190 X L K h t0 := by kernel_rfl
/-- (*cubbyhole/links.Links).All -/
def f192 (X : Caller) (L : Looper) (K : Value → AHeap → Prop) (h : AHeap) (t0 t1 : Value) : Prop :=
 regK 6 ((h.bump 1)) fun b h =>
 X (.call 238 [t0, t1]) (fun t8 h =>
 opK (builtinV P .append [143, 143] [(.slice none 0 0), t8] (b + 3) h) fun t9 h =>
 opK (newV [.slice none 0 0] (b + 4) h) fun t5 h =>
 stK (stV 1 t5 t9 h) fun h =>
 K (.func (.func 239) #[] #[t5]) ((h.bump 2))) h
theorem f192_eq (X : Caller) (L : Looper) (K : Value → AHeap → Prop) (h : AHeap) (t0 t1 : Value) : aJob P X L (.call 192 [t0, t1]) K h = f192 X L K h t0 t1 := by kernel_rfl
def f199_l3 (X : Caller) (L : Looper) (a : AAct) (K : ActPost) (h : AHeap) : Prop :=
 rdK ((fun h : AHeap => binV P .lss 3 3 (a.env 7) (a.env 6) h) ((h.bump 1))) ((h.bump 1)) fun t8 h =>
 condK t8
 (regK 4 h fun b_1 h =>
 rdK (ixS 2 (a.env 5) (a.env 7)) h fun t9 h =>
 rdK (ldN 2 t9 h) h fun t10 h =>
 opK (newV [.bool false, .int .i64 0] (b_1 + 2) h) fun t4 h =>
 stK (stV 2 t4 t10 h) fun h =>
 rdK ((fun h : AHeap => fAddr 0 t4) ((h.bump 2))) ((h.bump 2)) fun t11 h =>
 rdK (ld1 t11 h) h fun t12 h =>
 condK t12
 (rdK ((fun h : AHeap => fAddr 1 t4) ((h.bump 3))) ((h.bump 3)) fun t13 h =>
  rdK (ld1 t13 h) h fun t14 h =>
  K .ret ⟨(upds a.env [(8, t8), (9, t9), (10, t10), (4, t4), (11, t11), (12, t12), (13, t13), (14, t14), (2, t14)]), a.defers⟩ h)
 (rdK ((fun h : AHeap => binC P .add 3 3 (a.env 7) (.int .i64 1) h) ((h.bump 2))) ((h.bump 2)) fun t15 h =>
 K .normal ⟨(upds a.env [(8, t8), (9, t9), (10, t10), (4, t4), (11, t11), (12, t12), (15, t15), (7, t15)]), a.defers⟩ h))
 (K (.exit 0) ⟨(upds a.env [(8, t8)]), a.defers⟩ h)
def f199_j1 (X : Caller) (L : Looper) (K : Value → AHeap → Prop) (h : AHeap) (a : AAct) : Prop :=
 leaveA P X Tryz.f199 ⟨(upds a.env [(2, (.int .i64 0))]), a.defers⟩ K a.defers ((h.bump 1))
/-- cubbyhole/entry.first -/
def f199 (X : Caller) (L : Looper) (K : Value → AHeap → Prop) (h : AHeap) (t0 : Value) : Prop :=
 regK 3 ((h.bump 1)) fun b h =>
 opK (builtinV P .len [344] [t0] (b + 1) h) fun t6 h =>
 L (f199_l3 X L) ⟨(upds (argsEnv [t0]) [(2, (.int .i64 0)), (5, t0), (6, t6), (7, (.int .i64 0))]), []⟩ (blkX 0 (seqX (fun a h => f199_j1 X L K h a) (finX P X Tryz.f199 K))) h
theorem f199_eq (X : Caller) (L : Looper) (K : Value → AHeap → Prop) (h : AHeap) (t0 : Value) : aJob P X L (.call 199 [t0]) K h = f199 X L K h t0 := by kernel_rfl
/-- (*cubbyhole/cascade.Cascade).Schedule -/
def f200 (X : Caller) (L : Looper) (K : Value → AHeap → Prop) (h : AHeap) (t0 t1 : Value) : Prop :=
 regK 2 h fun b h =>
 opK (boxV t1 (b + 0) h) fun t3 h =>
 rdK ((fun h : AHeap => fAddr 0 t3) ((h.bump 5))) ((h.bump 5)) fun t12 h =>
 rdK (ld1 t12 h) h fun t13 h =>
 X (.call 134 [t0, t13]) (fun t14 h =>
 rdK ((fun h : AHeap => binC P .neq 24 24 t14 (.int .i64 0) h) ((h.bump 2))) ((h.bump 2)) fun t16 h =>
 condK t16
 (K t14 ((h.bump 2)))
 (rdK ((fun h : AHeap => fAddr 2 t3) ((h.bump 3))) ((h.bump 3)) fun t18 h =>
 rdK (ld1 t18 h) h fun t19 h =>
 rdK (binC P .eql 27 27 t19 (.int .u64 0) h) h fun t20 h =>
 condK t20
 (K (.int .i64 2) ((h.bump 1)))
 (rdK ((fun h : AHeap => fAddr 0 t3) ((h.bump 7))) ((h.bump 7)) fun t22 h =>
 rdK (ld1 t22 h) h fun t23 h =>
 rdK (fAddr 1 t3) h fun t24 h =>
 rdK (ld1 t24 h) h fun t25 h =>
 X (.call 245 [t0, t23, t25]) (fun t26 h =>
 rdK ((fun h : AHeap => binC P .neq 24 24 t26 (.int .i64 0) h) ((h.bump 2))) ((h.bump 2)) fun t28 h =>
 condK t28
 (K t26 ((h.bump 2)))
 (regK 13 h fun b_1 h =>
 opK (nilV t0 h) fun t32 h =>
 rdK (fAddr 9 t32) h fun t33 h =>
 rdK (ld1 t33 h) h fun t34 h =>
 rdK (fAddr 0 t3) h fun t35 h =>
 rdK (ld1 t35 h) h fun t36 h =>
 rdK (lookupA P 162 t34 t36 true h) h fun t37 h =>
 opK (extV 0 t37 h) fun t38 h =>
 opK (extV 1 t37 h) fun t39 h =>
 opK (newV [.int .u32 0, .int .u64 0, .int .u64 0] (b_1 + 10) h) fun t7 h =>
 stK (stV 3 t7 t38 h) fun h =>
 regK 13 h fun b_2 h =>
 opK (nilV t0 h) fun t42 h =>
 rdK (fAddr 10 t42) h fun t43 h =>
 rdK (ld1 t43 h) h fun t44 h =>
 rdK (fAddr 2 t3) h fun t45 h =>
 rdK (ld1 t45 h) h fun t46 h =>
 rdK (lookupA P 229 t44 t46 true h) h fun t47 h =>
 opK (extV 0 t47 h) fun t48 h =>
 opK (extV 1 t47 h) fun t49 h =>
 opK (newV [] (b_2 + 10) h) fun t9 h =>
 stK (stV 0 t9 t48 h) fun h =>
 gopK (wantV t39 false) ((h.bump 4)) (some (t49, (h.bump 4))) fun t52 h =>
 opK (pickV t39 (.bool true) t52 h) fun t53 h =>
 condK t53
 (K (.int .i64 11) ((h.bump 1)))
 (rdK ((fun h : AHeap => ldN 3 t3 h) ((h.bump 3))) ((h.bump 3)) fun t55 h =>
 X (.call 182 [t0, t55]) (fun t56 h =>
 K (.int .i64 0) ((h.bump 1))) h))) h))) h
theorem f200_eq (X : Caller) (L : Looper) (K : Value → AHeap → Prop) (h : AHeap) (t0 t1 : Value) : aJob P X L (.call 200 [t0, t1]) K h = f200 X L K h t0 t1 := by kernel_rfl
def f201_j8 (X : Caller) (L : Looper) (K : Value → AHeap → Prop) (h : AHeap) (t10 t6 t49 t50 t7 : Value) : Prop :=
 rdK ((fun h : AHeap => ldN 2 t10 h) ((h.bump 3))) ((h.bump 3)) fun t49_1 h =>
 stK (stV 2 t6 t49_1 h) fun h =>
 retK (consR (ldN 2 t6 h) (consR (some (.int .i64 0)) (some []))) K h
def f201_j7 (X : Caller) (L : Looper) (K : Value → AHeap → Prop) (h : AHeap) (t6 t50 t7 : Value) : Prop :=
 rdK ((fun h : AHeap => buildA P 204 []) ((h.bump 3))) ((h.bump 3)) fun t50_1 h =>
 stK (stV 2 t6 t50_1 h) fun h =>
 retK (consR (ldN 2 t6 h) (consR (some (.int .i64 7)) (some []))) K h
/-- cubbyhole/growth.Insert -/
def f201 (X : Caller) (L : Looper) (K : Value → AHeap → Prop) (h : AHeap) (t0 t1 t2 : Value) : Prop :=
 regK 2 h fun b h =>
 opK (newV [.int .i64 0, .bool false] (b + 0) h) fun t6 h =>
 X (.call 166 [t0, t1, t2]) (fun t14 h =>
 rdK ((fun h : AHeap => binC P .neq 24 24 t14 (.int .i64 0) h) ((h.bump 2))) ((h.bump 2)) fun t16 h =>
 condK t16
 (rdK ((fun h : AHeap => buildA P 204 []) ((h.bump 4))) ((h.bump 4)) fun t17 h =>
  stK (stV 2 t6 t17 h) fun h =>
  retK (consR (ldN 2 t6 h) (consR (some t14) (some []))) K h)
 (X (.call 246 [t0]) (fun t20 h =>
 regK 9 h fun b_1 h =>
 rdK (binV P .add 3 3 t1 t2 h) h fun t24 h =>
 rdK (binV P .geq 3 3 t24 t20 h) h fun t26 h =>
 rdK (buildA P 204 [(0, t0), (1, t26)]) h fun t27 h =>
 opK (newV [.int .i64 0, .bool false] (b_1 + 7) h) fun t10 h =>
 stK (stV 2 t10 t27 h) fun h =>
 rdK ((fun h : AHeap => fAddr 1 t10) ((h.bump 10))) ((h.bump 10)) fun t29 h =>
 rdK (ld1 t29 h) h fun t30 h =>
 rdK (unV P .not 4 t30) h fun t31 h =>
 gopK (wantV t31 false) h (some (t1, h)) fun t33 h =>
 gopK (wantV t31 false) h ((binD P .mul 3 3 (.int .i64 2) t33 h).map (·, h)) fun t34 h =>
 gopK (wantV t31 false) h (some (t20, h)) fun t35 h =>
 gopK (wantV t31 false) h ((binV P .leq 3 3 t34 t35 h).map (·, h)) fun t36 h =>
 opK (pickV t31 (.bool true) t36 h) fun t37 h =>
 condK t37
 (rdK ((fun h : AHeap => ldN 2 t10 h) ((h.bump 3))) ((h.bump 3)) fun t45 h =>
 stK (stV 2 t6 t45 h) fun h =>
 retK (consR (ldN 2 t6 h) (consR (some (.int .i64 0)) (some []))) K h)
 (rdK ((fun h : AHeap => binC P .lss 3 3 t0 (.int .i64 1048576) h) ((h.bump 3))) ((h.bump 3)) fun t40 h =>
 condK t40
 (rdK ((fun h : AHeap => binD P .mul 3 3 (.int .i64 2) t0 h) ((h.bump 4))) ((h.bump 4)) fun t47 h =>
 rdK (fAddr 0 t10) h fun t48 h =>
 stK (stV 1 t48 t47 h) fun h =>
 f201_j8 X L K h t10 t6 undef undef ((.int .i64 0)))
 (rdK ((fun h : AHeap => binV P .lss 3 3 t1 t20 h) ((h.bump 4))) ((h.bump 4)) fun t44 h =>
 condK t44
 (f201_j8 X L K h t10 t6 undef undef ((.int .i64 0)))
 (f201_j7 X L K h t6 undef ((.int .i64 0)))))) ((h.bump 3)))) ((h.bump 5))
theorem f201_eq (X : Caller) (L : Looper) (K : Value → AHeap → Prop) (h : AHeap) (t0 t1 t2 : Value) : aJob P X L (.call 201 [t0, t1, t2]) K h = f201 X L K h t0 t1 t2 := by kernel_rfl
def f202_a0 (X : Caller) (L : Looper) (a : AAct) (K : ActPost) (h : AHeap) : Prop :=
 K .normal ⟨(upds a.env [(9, (a.env 26))]), a.defers⟩ ((h.bump 1))
def f202_j11 (X : Caller) (L : Looper) (K : ActPost) (h : AHeap) (a : AAct) : Prop :=
 opK ((fun h : AHeap => nilV (a.env 10) h) ((h.bump 15))) fun t60 h =>
 rdK (fAddr 0 t60) h fun t61 h =>
 rdK (ld1 t61 h) h fun t62 h =>
 rdK (ld1 (a.env 4) h) h fun t64 h =>
 X (.call 207 [t64]) (fun t65 h =>
 chkK (chkR ((ld1 t61 h).map (·, h)) t62 true) <|
 X (.call 249 [t62, (a.env 11), t65]) (fun t66 h =>
 opK (extV 0 t66 h) fun t67 h =>
 opK (extV 1 t66 h) fun t68 h =>
 opK (nilV (a.env 10) h) fun t69 h =>
 rdK (fAddr 0 t69) h fun t70 h =>
 stK (stV 1 t70 t67 h) fun h =>
 rdK ((fun h : AHeap => ld1 (a.env 5) h) ((h.bump 7))) ((h.bump 7)) fun t73 h =>
 opK (nilV (a.env 10) h) fun t74 h =>
 rdK (fAddr 1 t74) h fun t75 h =>
 rdK (ixR 8 1 t75 (a.env 11)) h fun t76 h =>
 stK (stV 1 t76 t73 h) fun h =>
 rdK ((fun h : AHeap => ld1 (a.env 3) h) ((h.bump 8))) ((h.bump 8)) fun t77 h =>
 opK (nilV t77 h) fun t78 h =>
 rdK (fAddr 1 t78) h fun t79 h =>
 rdK (ld1 t79 h) h fun t80 h =>
 rdK (binC P .add 3 3 t80 (.int .i64 1) h) h fun t81 h =>
 opK (nilV t77 h) fun t82 h =>
 rdK (fAddr 1 t82) h fun t83 h =>
 stK (stV 1 t83 t81 h) fun h =>
 stK ((fun h : AHeap => stV 1 (a.env 6) (.int .i64 0) h) ((h.bump 1))) fun h =>
 K .ret ⟨(upds a.env [(58, (a.env 10)), (59, (a.env 10)), (60, t60), (61, t61), (62, t62), (63, (a.env 11)), (64, t64), (65, t65), (66, t66), (57, t66), (67, t67), (68, t68), (69, t69), (70, t70), (71, (a.env 10)), (72, (a.env 11)), (73, t73), (74, t74), (75, t75), (76, t76), (77, t77), (78, t78), (79, t79), (80, t80), (81, t81), (82, t82), (83, t83)]), a.defers⟩ h) h) h
def f202_b0 (X : Caller) (L : Looper) (a : AAct) (K : ActPost) (h : AHeap) : Prop :=
 rdK ((fun h : AHeap => ld1 (a.env 3) h) ((h.bump 7))) ((h.bump 7)) fun t27 h =>
 opK (nilV t27 h) fun t28 h =>
 rdK (fAddr 0 t28) h fun t29 h =>
 rdK (ld1 t29 h) h fun t30 h =>
 rdK (ixS 9 t30 (a.env 9)) h fun t32 h =>
 opK ((fun h : AHeap => nilV t32 h) ((h.bump 7))) fun t34 h =>
 rdK (fAddr 0 t34) h fun t35 h =>
 rdK (ld1 t35 h) h fun t36 h =>
 X (.call 248 [t36]) (fun t37 h =>
 X (.call 247 [t37]) (fun t38 h =>
 rdK ((fun h : AHeap => binC P .eql 3 3 t38 (.int .i64 8) h) ((h.bump 2))) ((h.bump 2)) fun t40 h =>
 condK t40
 (K .normal ⟨(upds a.env [(27, t27), (28, t28), (29, t29), (30, t30), (31, (a.env 9)), (32, t32), (10, t32), (33, t32), (34, t34), (35, t35), (36, t36), (37, t37), (38, t38), (11, t38), (39, t38), (40, t40)]), a.defers⟩ h)
 (opK ((fun h : AHeap => nilV t32 h) ((h.bump 9))) fun t42 h =>
 rdK (fAddr 0 t42) h fun t43 h =>
 rdK (ld1 t43 h) h fun t44 h =>
 X (.call 165 [t44]) (fun t45 h =>
 rdK (binV P .shr 5 3 t45 t38 h) h fun t47 h =>
 rdK (binC P .and 5 5 t47 (.int .u8 1) h) h fun t48 h =>
 rdK (binC P .eql 5 5 t48 (.int .u8 0) h) h fun t49 h =>
 condK t49
 (rdK ((fun h : AHeap => ld1 (a.env 3) h) ((h.bump 8))) ((h.bump 8)) fun t50 h =>
  opK (nilV t50 h) fun t51 h =>
  rdK (fAddr 2 t51) h fun t52 h =>
  rdK (ld1 t52 h) h fun t53 h =>
  rdK (binC P .sub 3 3 t53 (.int .i64 1) h) h fun t54 h =>
  opK (nilV t50 h) fun t55 h =>
  rdK (fAddr 2 t55) h fun t56 h =>
  stK (stV 1 t56 t54 h) fun h =>
  f202_j11 X L K h ⟨(upds a.env [(27, t27), (28, t28), (29, t29), (30, t30), (31, (a.env 9)), (32, t32), (10, t32), (33, t32), (34, t34), (35, t35), (36, t36), (37, t37), (38, t38), (11, t38), (39, t38), (40, t40), (41, t32), (42, t42), (43, t43), (44, t44), (45, t45), (46, t38), (47, t47), (48, t48), (49, t49), (50, t50), (51, t51), (52, t52), (53, t53), (54, t54), (55, t55), (56, t56)]), a.defers⟩)
 (f202_j11 X L K h ⟨(upds a.env [(27, t27), (28, t28), (29, t29), (30, t30), (31, (a.env 9)), (32, t32), (10, t32), (33, t32), (34, t34), (35, t35), (36, t36), (37, t37), (38, t38), (11, t38), (39, t38), (40, t40), (41, t32), (42, t42), (43, t43), (44, t44), (45, t45), (46, t38), (47, t47), (48, t48), (49, t49)]), a.defers⟩)) h)) h) h
noncomputable def f202_ca0 : Code := (rangesF Tryz.f202 0).1
noncomputable def f202_cb0 : Code := (rangesF Tryz.f202 0).2
theorem f202_a0_eq (X : Caller) (L : Looper) (a : AAct) (K : ActPost) (h : AHeap) : aCode P X L true f202_ca0 a K h = f202_a0 X L a K h := by kernel_rfl
theorem f202_b0_eq (X : Caller) (L : Looper) (a : AAct) (K : ActPost) (h : AHeap) : aCode P X L true f202_cb0 a K h = f202_b0 X L a K h := by kernel_rfl
def f202_j5 (X : Caller) (L : Looper) (K : Value → AHeap → Prop) (h : AHeap) (a : AAct) : Prop :=
 stK ((fun h : AHeap => stV 1 (a.env 6) (.int .i64 7) h) ((h.bump 1))) fun h =>
 leaveA P X Tryz.f202 ⟨a.env, a.defers⟩ K a.defers h
/-- (*cubbyhole/swiss.Index).Insert -/
def f202 (X : Caller) (L : Looper) (K : Value → AHeap → Prop) (h : AHeap) (t0 t1 t2 : Value) : Prop :=
 regK 4 h fun b h =>
 opK (boxV t0 (b + 0) h) fun t3 h =>
 opK (boxV t1 (b + 1) h) fun t4 h =>
 opK (boxV t2 (b + 2) h) fun t5 h =>
 opK (newV [.int .i64 0] (b + 3) h) fun t6 h =>
 rdK ((fun h : AHeap => ld1 t3 h) ((h.bump 2))) ((h.bump 2)) fun t12 h =>
 X (.call 157 [t12]) (fun t13 h =>
 condK t13
 (stK ((fun h : AHeap => stV 1 t6 (.int .i64 1) h) ((h.bump 1))) fun h =>
  retK (consR (ld1 t6 h) (some [])) K h)
 (regK 13 h fun b_1 h =>
 rdK (ld1 t4 h) h fun t15 h =>
 rdK (ld1 t3 h) h fun t17 h =>
 opK (nilV t17 h) fun t18 h =>
 rdK (fAddr 0 t18) h fun t19 h =>
 rdK (ld1 t19 h) h fun t20 h =>
 opK (builtinV P .len [220] [t20] (b_1 + 6) h) fun t21 h =>
 X (.call 204 [t15]) (fun t16 h =>
 chkK (chkR (builtinV P .len [220] [t20] (b_1 + 6) h) t21 (chkR ((ld1 t19 h).map (·, h)) t20 (chkR ((ld1 t3 h).map (·, h)) t17 true))) <|
 X (.call 203 [t16, t21]) (fun t22 h =>
 opK (extV 0 t22 h) fun t23 h =>
 opK (extV 1 t22 h) fun t24 h =>
 rangeK X t23 ⟨(upds (argsEnv [t0, t1, t2]) [(3, t3), (4, t4), (5, t5), (6, t6), (12, t12), (13, t13), (15, t15), (17, t17), (18, t18), (19, t19), (20, t20), (21, t21), (16, t16), (22, t22), (14, t22), (23, t23), (24, t24), (7, t23), (8, t24), (25, t23)]), []⟩ [26] f202_ca0 f202_cb0 (blkX 0 (seqX (fun a h => f202_j5 X L K h a) (finX P X Tryz.f202 K))) ((h.bump 1))) h) h)) h
theorem f202_eq (X : Caller) (L : Looper) (K : Value → AHeap → Prop) (h : AHeap) (t0 t1 t2 : Value) : aJob P X L (.call 202 [t0, t1, t2]) K h = f202 X L K h t0 t1 t2 := by kernel_rfl
def f203_j2 (X : Caller) (L : Looper) (K : Value → AHeap → Prop) (h : AHeap) (t6 t2 t3 t7 t13 t14 t4 t5 : Value) : Prop :=
 K (.tuple #[(.func (.func 251) #[] #[t6, t2, t3]), t7]) ((h.bump 4))
/-- cubbyhole/probe.All -/
def f203 (X : Caller) (L : Looper) (K : Value → AHeap → Prop) (h : AHeap) (t0 t1 : Value) : Prop :=
 regK 4 h fun b h =>
 opK (boxV t0 (b + 0) h) fun t2 h =>
 opK (boxV t1 (b + 1) h) fun t3 h =>
 regK 6 h fun b_1 h =>
 rdK (ld1 t3 h) h fun t8 h =>
 rdK (ld1 t3 h) h fun t9 h =>
 opK (newV [.int .i64 0] (b_1 + 3) h) fun t6 h =>
 X (.call 250 [t9, (.int .i64 0)]) (fun t10 h =>
 chkK (chkR ((ld1 t3 h).map (·, h)) t8 true) <|
 stK (stV 1 t6 t8 h) fun h =>
 rdK ((fun h : AHeap => binC P .neq 24 24 t10 (.int .i64 0) h) ((h.bump 2))) ((h.bump 2)) fun t12 h =>
 condK t12
 (stK ((fun h : AHeap => stV 1 t6 (.int .i64 0) h) ((h.bump 1))) fun h =>
  f203_j2 X L K h t6 t2 t3 t10 undef undef .nilFunc ((.int .i64 0)))
 (f203_j2 X L K h t6 t2 t3 t10 undef undef .nilFunc ((.int .i64 0)))) h
theorem f203_eq (X : Caller) (L : Looper) (K : Value → AHeap → Prop) (h : AHeap) (t0 t1 : Value) : aJob P X L (.call 203 [t0, t1]) K h = f203 X L K h t0 t1 := by kernel_rfl

/-- cubbyhole/hash.Part -/
def f204 (X : Caller) (L : Looper) (K : Value → AHeap → Prop) (h : AHeap) (t0 : Value) : Prop :=
 rdK ((fun h : AHeap => binC P .shr 27 316 t0 (.int .u64 7) h) (((h.bump 1).bump 3))) (((h.bump 1).bump 3)) fun t4 h =>
 K t4 h
theorem f204_eq (X : Caller) (L : Looper) (K : Value → AHeap → Prop) (h : AHeap) (t0 : Value) : aJob P X L (.call 204 [t0]) K h = f204 X L K h t0 := by kernel_rfl
/-- cubbyhole/word.All -/
def f205 (X : Caller) (L : Looper) (K : Value → AHeap → Prop) (h : AHeap) (t0 : Value) : Prop :=
 regK 2 h fun b h =>
 opK (boxV t0 (b + 0) h) fun t1 h =>
 K (.func (.func 253) #[] #[t1]) ((h.bump 2))
theorem f205_eq (X : Caller) (L : Looper) (K : Value → AHeap → Prop) (h : AHeap) (t0 : Value) : aJob P X L (.call 205 [t0]) K h = f205 X L K h t0 := by kernel_rfl
/-- cubbyhole/control.Match -/
def f206 (X : Caller) (L : Looper) (K : Value → AHeap → Prop) (h : AHeap) (t0 t1 : Value) : Prop :=
 rdK ((fun h : AHeap => binC P .gtr 5 5 t1 (.int .u8 127) h) (((h.bump 1).bump 2))) (((h.bump 1).bump 2)) fun t6 h =>
 condK t6
 (K (.int .u8 0) ((h.bump 1)))
 (X (.call 214 [t0, t1]) (fun t9 h =>
 K t9 h) ((h.bump 4)))
theorem f206_eq (X : Caller) (L : Looper) (K : Value → AHeap → Prop) (h : AHeap) (t0 t1 : Value) : aJob P X L (.call 206 [t0, t1]) K h = f206 X L K h t0 t1 := by kernel_rfl
/-- cubbyhole/hash.Tag -/
def f207 (X : Caller) (L : Looper) (K : Value → AHeap → Prop) (h : AHeap) (t0 : Value) : Prop :=
 regK 4 ((h.bump 1)) fun b h =>
 rdK (binC P .and 27 27 t0 (.int .u64 127) h) h fun t4 h =>
 opK (convertA P 27 5 t4 (b + 2) h) fun t5 h =>
 K t5 h
theorem f207_eq (X : Caller) (L : Looper) (K : Value → AHeap → Prop) (h : AHeap) (t0 : Value) : aJob P X L (.call 207 [t0]) K h = f207 X L K h t0 := by kernel_rfl
/-- (*cubbyhole/links.Links).Remove -/
def f208 (X : Caller) (L : Looper) (K : Value → AHeap → Prop) (h : AHeap) (t0 t1 : Value) : Prop :=
 X (.call 220 [t0, t1]) (fun t9 h =>
 rdK ((fun h : AHeap => binC P .neq 24 24 t9 (.int .i64 0) h) ((h.bump 2))) ((h.bump 2)) fun t11 h =>
 condK t11
 (K t9 ((h.bump 2)))
 (regK 9 h fun b h =>
 opK (nilV t0 h) fun t14 h =>
 rdK (fAddr 0 t14) h fun t15 h =>
 rdK (ld1 t15 h) h fun t16 h =>
 rdK (ixS 3 t16 t1) h fun t18 h =>
 rdK (ldN 3 t18 h) h fun t19 h =>
 opK (newV [.int .u32 0, .int .u32 0, .int .u32 0] (b + 7) h) fun t6 h =>
 stK (stV 3 t6 t19 h) fun h =>
 opK ((fun h : AHeap => nilV t0 h) ((h.bump 22))) fun t21 h =>
 rdK (fAddr 0 t21) h fun t22 h =>
 rdK (ld1 t22 h) h fun t23 h =>
 rdK (fAddr 0 t6) h fun t24 h =>
 rdK (ld1 t24 h) h fun t25 h =>
 opK (nilV t0 h) fun t27 h =>
 rdK (fAddr 0 t27) h fun t28 h =>
 rdK (ld1 t28 h) h fun t29 h =>
 rdK (fAddr 1 t6) h fun t30 h =>
 rdK (ld1 t30 h) h fun t31 h =>
 rdK (fAddr 1 t6) h fun t32 h =>
 rdK (ld1 t32 h) h fun t33 h =>
 rdK (fAddr 0 t6) h fun t34 h =>
 rdK (ld1 t34 h) h fun t35 h =>
 rdK (ixS 3 t23 t25) h fun t36 h =>
 rdK (fAddr 1 t36) h fun t37 h =>
 stK (stV 1 t37 t33 h) fun h =>
 chkK (chkR ((ld1 t34 h).map (·, h)) t35 (chkR ((ld1 t30 h).map (·, h)) t31 true)) <|
 rdK (ixS 3 t29 t31) h fun t38 h =>
 rdK (fAddr 0 t38) h fun t39 h =>
 stK (stV 1 t39 t35 h) fun h =>
 opK ((fun h : AHeap => nilV t0 h) ((h.bump 12))) fun t41 h =>
 rdK (fAddr 2 t41) h fun t42 h =>
 rdK (ld1 t42 h) h fun t43 h =>
 rdK (fAddr 2 t6) h fun t44 h =>
 rdK (ld1 t44 h) h fun t45 h =>
 rdK (binC P .sub 81 81 t45 (.int .u32 1) h) h fun t46 h =>
 rdK (ixS 1 t43 t46) h fun t47 h =>
 rdK (ld1 t47 h) h fun t48 h =>
 rdK (binC P .sub 3 3 t48 (.int .i64 1) h) h fun t49 h =>
 rdK (ixS 1 t43 t46) h fun t50 h =>
 stK (stV 1 t50 t49 h) fun h =>
 opK ((fun h : AHeap => nilV t0 h) ((h.bump 8))) fun t52 h =>
 rdK (fAddr 0 t52) h fun t53 h =>
 rdK (ld1 t53 h) h fun t54 h =>
 rdK (buildA P 282 []) h fun t56 h =>
 rdK (ixS 3 t54 t1) h fun t57 h =>
 stK (stV 3 t57 t56 h) fun h =>
 K (.int .i64 0) ((h.bump 1)))) (((h.bump 1).bump 4))
theorem f208_eq (X : Caller) (L : Looper) (K : Value → AHeap → Prop) (h : AHeap) (t0 t1 : Value) : aJob P X L (.call 208 [t0, t1]) K h = f208 X L K h t0 t1 := by kernel_rfl
/-- (*cubbyhole/cascade.Cascade).Get -/
def f209 (X : Caller) (L : Looper) (K : Value → AHeap → Prop) (h : AHeap) (t0 t1 : Value) : Prop :=
 regK 2 h fun b h =>
 opK (newV [.int .u32 0, .int .u64 0, .int .u64 0] (b + 0) h) fun t4 h =>
 X (.call 134 [t0, t1]) (fun t11 h =>
 rdK ((fun h : AHeap => binC P .neq 24 24 t11 (.int .i64 0) h) ((h.bump 2))) ((h.bump 2)) fun t13 h =>
 condK t13
 (rdK ((fun h : AHeap => buildA P 174 []) ((h.bump 4))) ((h.bump 4)) fun t14 h =>
  stK (stV 3 t4 t14 h) fun h =>
  retK (consR (ldN 3 t4 h) (consR (some t11) (some []))) K h)
 (regK 12 h fun b_1 h =>
 opK (nilV t0 h) fun t18 h =>
 rdK (fAddr 9 t18) h fun t19 h =>
 rdK (ld1 t19 h) h fun t20 h =>
 rdK (lookupA P 162 t20 t1 true h) h fun t22 h =>
 opK (extV 0 t22 h) fun t23 h =>
 opK (extV 1 t22 h) fun t24 h =>
 opK (newV [.int .u32 0, .int .u64 0, .int .u64 0] (b_1 + 9) h) fun t7 h =>
 stK (stV 3 t7 t23 h) fun h =>
 rdK ((fun h : AHeap => unV P .not 4 t24) ((h.bump 2))) ((h.bump 2)) fun t26 h =>
 condK t26
 (rdK ((fun h : AHeap => buildA P 174 []) ((h.bump 3))) ((h.bump 3)) fun t27 h =>
  stK (stV 3 t4 t27 h) fun h =>
  retK (consR (ldN 3 t4 h) (consR (some (.int .i64 9)) (some []))) K h)
 (rdK ((fun h : AHeap => ldN 3 t7 h) ((h.bump 3))) ((h.bump 3)) fun t28 h =>
 stK (stV 3 t4 t28 h) fun h =>
 retK (consR (ldN 3 t4 h) (consR (some (.int .i64 0)) (some []))) K h))) ((h.bump 4))
theorem f209_eq (X : Caller) (L : Looper) (K : Value → AHeap → Prop) (h : AHeap) (t0 t1 : Value) : aJob P X L (.call 209 [t0, t1]) K h = f209 X L K h t0 t1 := by kernel_rfl
def f210_j7 (X : Caller) (L : Looper) (K : Value → AHeap → Prop) (h : AHeap) (t6 t42 t4 t5 : Value) : Prop :=
 K (.tuple #[t6, (.int .i64 0)]) ((h.bump 3))
/-- (*cubbyhole/wheel.Wheel).Remove -/
def f210 (X : Caller) (L : Looper) (K : Value → AHeap → Prop) (h : AHeap) (t0 t1 : Value) : Prop :=
 X (.call 254 [t0, t1]) (fun t11 h =>
 opK (extV 0 t11 h) fun t12 h =>
 opK (extV 1 t11 h) fun t13 h =>
 rdK ((fun h : AHeap => binC P .neq 24 24 t13 (.int .i64 0) h) ((h.bump 2))) ((h.bump 2)) fun t15 h =>
 condK t15
 (K (.tuple #[(.int .i64 0), t13]) ((h.bump 3)))
 (opK ((fun h : AHeap => nilV t0 h) ((h.bump 6))) fun t18 h =>
 rdK (fAddr 0 t18) h fun t19 h =>
 rdK (ld1 t19 h) h fun t20 h =>
 X (.call 208 [t20, t1]) (fun t22 h =>
 opK ((fun h : AHeap => nilV t0 h) ((h.bump 8))) fun t24 h =>
 rdK (fAddr 5 t24) h fun t25 h =>
 rdK (ld1 t25 h) h fun t26 h =>
 rdK (binC P .sub 3 3 t26 (.int .i64 1) h) h fun t27 h =>
 opK (nilV t0 h) fun t28 h =>
 rdK (fAddr 5 t28) h fun t29 h =>
 stK (stV 1 t29 t27 h) fun h =>
 opK ((fun h : AHeap => nilV t0 h) ((h.bump 7))) fun t31 h =>
 rdK (fAddr 0 t31) h fun t32 h =>
 rdK (ld1 t32 h) h fun t33 h =>
 X (.call 223 [t33, t12]) (fun t35 h =>
 rdK (binC P .eql 3 3 t35 (.int .i64 0) h) h fun t36 h =>
 condK t36
 (opK ((fun h : AHeap => nilV t0 h) ((h.bump 5))) fun t38 h =>
  rdK (fAddr 1 t38) h fun t39 h =>
  X (.call 255 [t39, t12]) (fun t41 h =>
  f210_j7 X L K h t12 undef ((.int .i64 0)) ((.int .i64 0))) h)
 (f210_j7 X L K h t12 undef ((.int .i64 0)) ((.int .i64 0)))) h) h)) (((h.bump 2).bump 8))
theorem f210_eq (X : Caller) (L : Looper) (K : Value → AHeap → Prop) (h : AHeap) (t0 t1 : Value) : aJob P X L (.call 210 [t0, t1]) K h = f210 X L K h t0 t1 := by kernel_rfl
/-- cubbyhole/control.check -/
def f211 (X : Caller) (L : Looper) (K : Value → AHeap → Prop) (h : AHeap) (t0 t1 : Value) : Prop :=
 X (.call 256 [t0]) (fun t7 h =>
 rdK (unV P .not 4 t7) h fun t8 h =>
 condK t8
 (K (.int .i64 2) ((h.bump 1)))
 (rdK ((fun h : AHeap => binC P .lss 3 3 t1 (.int .i64 0) h) ((h.bump 7))) ((h.bump 7)) fun t11 h =>
  gopK (wantV t11 false) h (some (t1, h)) fun t13 h =>
  gopK (wantV t11 false) h ((binC P .geq 3 3 t13 (.int .i64 8) h).map (·, h)) fun t14 h =>
  opK (pickV t11 (.bool true) t14 h) fun t15 h =>
  condK t15
  (K (.int .i64 3) ((h.bump 1)))
  (K (.int .i64 0) ((h.bump 1))))) (((h.bump 1).bump 4))
theorem f211_eq (X : Caller) (L : Looper) (K : Value → AHeap → Prop) (h : AHeap) (t0 t1 : Value) : aJob P X L (.call 211 [t0, t1]) K h = f211 X L K h t0 t1 := by kernel_rfl
/-- cubbyhole/control.Full -/
def f212 (X : Caller) (L : Looper) (K : Value → AHeap → Prop) (h : AHeap) (t0 : Value) : Prop :=
 X (.call 257 [t0]) (fun t4 h =>
 rdK (unV P .xor 5 t4) h fun t5 h =>
 K t5 h) (((h.bump 1).bump 4))
theorem f212_eq (X : Caller) (L : Looper) (K : Value → AHeap → Prop) (h : AHeap) (t0 : Value) : aJob P X L (.call 212 [t0]) K h = f212 X L K h t0 := by kernel_rfl
/-- cubbyhole/word.With -/
def f213 (X : Caller) (L : Looper) (K : Value → AHeap → Prop) (h : AHeap) (t0 t1 t2 : Value) : Prop :=
 rdK ((fun h : AHeap => binC P .lss 3 3 t1 (.int .i64 0) h) (((h.bump 2).bump 6))) (((h.bump 2).bump 6)) fun t9 h =>
 gopK (wantV t9 false) h (some (t1, h)) fun t11 h =>
 gopK (wantV t9 false) h ((binC P .geq 3 3 t11 (.int .i64 8) h).map (·, h)) fun t12 h =>
 opK (pickV t9 (.bool true) t12 h) fun t13 h =>
 condK t13
 (K (.tuple #[(.int .u64 0), (.int .i64 3)]) ((h.bump 2)))
 (regK 13 h fun b h =>
 rdK (binD P .mul 3 3 (.int .i64 8) t1 h) h fun t16 h =>
 rdK (binD P .shl 27 3 (.int .u64 255) t16 h) h fun t17 h =>
 rdK (binV P .andNot 27 27 t0 t17 h) h fun t18 h =>
 opK (convertA P 5 27 t2 (b + 6) h) fun t20 h =>
 rdK (binD P .mul 3 3 (.int .i64 8) t1 h) h fun t22 h =>
 rdK (binV P .shl 27 3 t20 t22 h) h fun t23 h =>
 rdK (binV P .or 27 27 t18 t23 h) h fun t24 h =>
 K (.tuple #[t24, (.int .i64 0)]) h)
theorem f213_eq (X : Caller) (L : Looper) (K : Value → AHeap → Prop) (h : AHeap) (t0 t1 t2 : Value) : aJob P X L (.call 213 [t0, t1, t2]) K h = f213 X L K h t0 t1 t2 := by kernel_rfl
/-- cubbyhole/word.Match -/
def f214 (X : Caller) (L : Looper) (K : Value → AHeap → Prop) (h : AHeap) (t0 t1 : Value) : Prop :=
 X (.call 179 [t1]) (fun t8 h =>
 rdK (binV P .xor 27 27 t0 t8 h) h fun t9 h =>
 rdK ((fun h : AHeap => binC P .and 27 27 t9 (.int .u64 9187201950435737471) h) ((h.bump 9))) ((h.bump 9)) fun t11 h =>
 rdK (binC P .add 27 27 t11 (.int .u64 9187201950435737471) h) h fun t12 h =>
 rdK (binV P .or 27 27 t12 t9 h) h fun t14 h =>
 rdK (binC P .or 27 27 t14 (.int .u64 9187201950435737471) h) h fun t15 h =>
 rdK (unV P .xor 27 t15) h fun t16 h =>
 X (.call 258 [t16]) (fun t17 h =>
 K t17 h) h) (((h.bump 1).bump 5))
theorem f214_eq (X : Caller) (L : Looper) (K : Value → AHeap → Prop) (h : AHeap) (t0 t1 : Value) : aJob P X L (.call 214 [t0, t1]) K h = f214 X L K h t0 t1 := by kernel_rfl
def f215_l3 (X : Caller) (L : Looper) (a : AAct) (K : ActPost) (h : AHeap) : Prop :=
 rdK ((fun h : AHeap => binV P .lss 3 3 (a.env 9) (a.env 8) h) ((h.bump 1))) ((h.bump 1)) fun t10 h =>
 condK t10
 (rdK ((fun h : AHeap => ixS 1 (a.env 7) (a.env 9)) ((h.bump 3))) ((h.bump 3)) fun t11 h =>
 rdK (ld1 t11 h) h fun t12 h =>
 rdK ((fun h : AHeap => binC P .lss 3 3 t12 (.int .i64 0) h) ((h.bump 7))) ((h.bump 7)) fun t14 h =>
 gopK (wantV t14 false) h (some (t12, h)) fun t16 h =>
 gopK (wantV t14 false) h (some ((a.env 0), h)) fun t17 h =>
 gopK (wantV t14 false) h ((binV P .gtr 3 3 t16 t17 h).map (·, h)) fun t18 h =>
 opK (pickV t14 (.bool true) t18 h) fun t19 h =>
 condK t19
 (K .ret ⟨(upds a.env [(10, t10), (11, t11), (12, t12), (6, t12), (13, t12), (14, t14), (15, t14), (16, t16), (17, t17), (18, t18), (19, t19), (4, (.int .i64 3))]), a.defers⟩ ((h.bump 1)))
 (rdK ((fun h : AHeap => binC P .add 3 3 (a.env 9) (.int .i64 1) h) ((h.bump 2))) ((h.bump 2)) fun t20 h =>
 K .normal ⟨(upds a.env [(10, t10), (11, t11), (12, t12), (6, t12), (13, t12), (14, t14), (15, t14), (16, t16), (17, t17), (18, t18), (19, t19), (20, t20), (9, t20)]), a.defers⟩ h))
 (K (.exit 0) ⟨(upds a.env [(10, t10)]), a.defers⟩ h)
def f215_j1 (X : Caller) (L : Looper) (K : Value → AHeap → Prop) (h : AHeap) (a : AAct) : Prop :=
 leaveA P X Tryz.f215 ⟨(upds a.env [(4, (.int .i64 0))]), a.defers⟩ K a.defers ((h.bump 1))
/-- cubbyhole/growth.within -/
def f215 (X : Caller) (L : Looper) (K : Value → AHeap → Prop) (h : AHeap) (t0 t1 : Value) : Prop :=
 regK 3 ((h.bump 1)) fun b h =>
 opK (builtinV P .len [276] [t1] (b + 1) h) fun t8 h =>
 L (f215_l3 X L) ⟨(upds (argsEnv [t0, t1]) [(4, (.int .i64 0)), (7, t1), (8, t8), (9, (.int .i64 0))]), []⟩ (blkX 0 (seqX (fun a h => f215_j1 X L K h a) (finX P X Tryz.f215 K))) h
theorem f215_eq (X : Caller) (L : Looper) (K : Value → AHeap → Prop) (h : AHeap) (t0 t1 : Value) : aJob P X L (.call 215 [t0, t1]) K h = f215 X L K h t0 t1 := by kernel_rfl
/-- cubbyhole/growth.power -/
def f216 (X : Caller) (L : Looper) (K : Value → AHeap → Prop) (h : AHeap) (t0 : Value) : Prop :=
 regK 6 ((h.bump 1)) fun b h =>
 rdK (binC P .sub 3 3 t0 (.int .i64 1) h) h fun t4 h =>
 opK (convertA P 3 316 t4 (b + 2) h) fun t5 h =>
 X (.call 231 [t5]) (fun t6 h =>
 rdK (binD P .shl 3 3 (.int .i64 1) t6 h) h fun t7 h =>
 K t7 h) h
theorem f216_eq (X : Caller) (L : Looper) (K : Value → AHeap → Prop) (h : AHeap) (t0 : Value) : aJob P X L (.call 216 [t0]) K h = f216 X L K h t0 := by kernel_rfl
/-- cubbyhole/event.kind -/
def f217 (X : Caller) (L : Looper) (K : Value → AHeap → Prop) (h : AHeap) (t0 : Value) : Prop :=
 rdK ((fun h : AHeap => binC P .geq 73 73 t0 (.int .i64 1) h) (((h.bump 1).bump 7))) (((h.bump 1).bump 7)) fun t4 h =>
 gopK (wantV t4 true) h (some (t0, h)) fun t6 h =>
 gopK (wantV t4 true) h ((binC P .lss 3 3 t6 (.int .i64 6) h).map (·, h)) fun t7 h =>
 opK (pickV t4 t7 (.bool false) h) fun t8 h =>
 K t8 h
theorem f217_eq (X : Caller) (L : Looper) (K : Value → AHeap → Prop) (h : AHeap) (t0 : Value) : aJob P X L (.call 217 [t0]) K h = f217 X L K h t0 := by kernel_rfl
/-- cubbyhole/entry.Valid -/
def f218 (X : Caller) (L : Looper) (K : Value → AHeap → Prop) (h : AHeap) (t0 : Value) : Prop :=
 regK 2 h fun b h =>
 opK (boxV t0 (b + 0) h) fun t1 h =>
 rdK ((fun h : AHeap => fAddr 0 t1) ((h.bump 9))) ((h.bump 9)) fun t3 h =>
 rdK (ld1 t3 h) h fun t4 h =>
 rdK (fAddr 1 t1) h fun t5 h =>
 rdK (ld1 t5 h) h fun t6 h =>
 rdK (fAddr 3 t1) h fun t7 h =>
 rdK (ld1 t7 h) h fun t8 h =>
 X (.call 147 [t4, t6, t8]) (fun t9 h =>
 rdK (binC P .eql 24 24 t9 (.int .i64 0) h) h fun t10 h =>
 K t10 h) h
theorem f218_eq (X : Caller) (L : Looper) (K : Value → AHeap → Prop) (h : AHeap) (t0 : Value) : aJob P X L (.call 218 [t0]) K h = f218 X L K h t0 := by kernel_rfl
/-- cubbyhole/event.of -/
def f219 (X : Caller) (L : Looper) (K : Value → AHeap → Prop) (h : AHeap) (t0 : Value) : Prop :=
 regK 2 h fun b h =>
 opK (boxV t0 (b + 0) h) fun t1 h =>
 opK (newV [.string ⟨#[]⟩, .slice none 0 0, .int .u64 0, .int .u64 0] (b + 1) h) fun t2 h =>
 rdK ((fun h : AHeap => fAddr 1 t1) ((h.bump 10))) ((h.bump 10)) fun t3 h =>
 rdK (ld1 t3 h) h fun t4 h =>
 rdK (fAddr 2 t1) h fun t5 h =>
 rdK (ld1 t5 h) h fun t6 h =>
 rdK (fAddr 4 t1) h fun t7 h =>
 rdK (ld1 t7 h) h fun t8 h =>
 rdK (fAddr 3 t1) h fun t9 h =>
 rdK (ld1 t9 h) h fun t10 h =>
 rdK (buildA P 59 [(0, t4), (1, t6), (2, t8), (3, t10)]) h fun t11 h =>
 stK (stV 4 t2 t11 h) fun h =>
 retK (consR (ldN 4 t2 h) (some [])) K h
theorem f219_eq (X : Caller) (L : Looper) (K : Value → AHeap → Prop) (h : AHeap) (t0 : Value) : aJob P X L (.call 219 [t0]) K h = f219 X L K h t0 := by kernel_rfl
/-- (*cubbyhole/links.Links).in -/
def f220 (X : Caller) (L : Looper) (K : Value → AHeap → Prop) (h : AHeap) (t0 t1 : Value) : Prop :=
 X (.call 259 [t0, t1]) (fun t8 h =>
 rdK ((fun h : AHeap => binC P .neq 24 24 t8 (.int .i64 0) h) ((h.bump 2))) ((h.bump 2)) fun t10 h =>
 condK t10
 (K t8 ((h.bump 2)))
 (opK ((fun h : AHeap => nilV t0 h) ((h.bump 9))) fun t13 h =>
 rdK (fAddr 0 t13) h fun t14 h =>
 rdK (ld1 t14 h) h fun t15 h =>
 rdK (ixS 3 t15 t1) h fun t17 h =>
 rdK (fAddr 2 t17) h fun t18 h =>
 rdK (ld1 t18 h) h fun t19 h =>
 rdK (binC P .eql 81 81 t19 (.int .u32 0) h) h fun t20 h =>
 condK t20
 (K (.int .i64 9) ((h.bump 1)))
 (K (.int .i64 0) ((h.bump 1))))) (((h.bump 1).bump 4))
theorem f220_eq (X : Caller) (L : Looper) (K : Value → AHeap → Prop) (h : AHeap) (t0 t1 : Value) : aJob P X L (.call 220 [t0, t1]) K h = f220 X L K h t0 t1 := by kernel_rfl
/-- (*cubbyhole/lru.LRU).room -/
def f221 (X : Caller) (L : Looper) (K : Value → AHeap → Prop) (h : AHeap) (t0 t1 : Value) : Prop :=
 opK ((fun h : AHeap => nilV t0 h) ((h.bump 6))) fun t6 h =>
 rdK (fAddr 0 t6) h fun t7 h =>
 rdK (ld1 t7 h) h fun t8 h =>
 X (.call 260 [t8]) (fun t9 h =>
 regK 4 h fun b h =>
 opK (convertA P 81 3 t1 (b + 1) h) fun t11 h =>
 rdK (binV P .geq 3 3 t11 t9 h) h fun t13 h =>
 condK t13
 (regK 14 h fun b_1 h =>
  opK (nilV t0 h) fun t15 h =>
  rdK (fAddr 0 t15) h fun t16 h =>
  rdK (ld1 t16 h) h fun t17 h =>
  rdK (binD P .mul 3 3 (.int .i64 2) t9 h) h fun t21 h =>
  opK (convertA P 81 3 t1 (b_1 + 9) h) fun t23 h =>
  rdK (binC P .add 3 3 t23 (.int .i64 1) h) h fun t24 h =>
  opK (builtinV P .max [3, 3] [t21, t24] (b_1 + 11) h) fun t25 h =>
  opK (builtinV P .min [3, 3] [(.int .i64 4194304), t25] (b_1 + 12) h) fun t26 h =>
  X (.call 262 [t9]) (fun t19 h =>
  chkK (chkR (convertA P 81 3 t1 (b_1 + 9) h) t23 (chkR ((ld1 t16 h).map (·, h)) t17 true)) <|
  X (.call 261 [t17, t19, t26]) (fun t27 h =>
  K (.tuple #[]) h) h) h)
 (K (.tuple #[]) h)) h
theorem f221_eq (X : Caller) (L : Looper) (K : Value → AHeap → Prop) (h : AHeap) (t0 t1 : Value) : aJob P X L (.call 221 [t0, t1]) K h = f221 X L K h t0 t1 := by kernel_rfl
/-- (*cubbyhole/links.Links).Back -/
def f222 (X : Caller) (L : Looper) (K : Value → AHeap → Prop) (h : AHeap) (t0 t1 t2 : Value) : Prop :=
 X (.call 263 [t0, t1, t2, (.bool false)]) (fun t10 h =>
 K t10 h) (((h.bump 1).bump 5))
theorem f222_eq (X : Caller) (L : Looper) (K : Value → AHeap → Prop) (h : AHeap) (t0 t1 t2 : Value) : aJob P X L (.call 222 [t0, t1, t2]) K h = f222 X L K h t0 t1 t2 := by kernel_rfl
/-- (*cubbyhole/links.Links).Len -/
def f223 (X : Caller) (L : Looper) (K : Value → AHeap → Prop) (h : AHeap) (t0 t1 : Value) : Prop :=
 X (.call 264 [t0, t1]) (fun t7 h =>
 rdK (binC P .neq 24 24 t7 (.int .i64 0) h) h fun t8 h =>
 condK t8
 (K (.int .i64 0) ((h.bump 1)))
 (opK ((fun h : AHeap => nilV t0 h) ((h.bump 8))) fun t10 h =>
 rdK (fAddr 2 t10) h fun t11 h =>
 rdK (ld1 t11 h) h fun t12 h =>
 rdK (ixS 1 t12 t1) h fun t14 h =>
 rdK (ld1 t14 h) h fun t15 h =>
 K t15 h)) (((h.bump 1).bump 4))
theorem f223_eq (X : Caller) (L : Looper) (K : Value → AHeap → Prop) (h : AHeap) (t0 t1 : Value) : aJob P X L (.call 223 [t0, t1]) K h = f223 X L K h t0 t1 := by kernel_rfl
def f226_j7 (X : Caller) (L : Looper) (K : Value → AHeap → Prop) (h : AHeap) (t2 t0 t20 t21 t22 t19 t23 t24 : Value) : Prop :=
 regK 7 h fun b h =>
 opK (convertA P 27 5 t0 (b + 2) h) fun t21_1 h =>
 rdK (indexA P 9 (.string ⟨#[0, 1, 2, 2, 3, 3, 3, 3, 4, 4, 4, 4, 4, 4, 4, 4, 5, 5, 5, 5, 5, 5, 5, 5, 5, 5, 5, 5, 5, 5, 5, 5, 6, 6, 6, 6, 6, 6, 6, 6, 6, 6, 6, 6, 6, 6, 6, 6, 6, 6, 6, 6, 6, 6, 6, 6, 6, 6, 6, 6, 6, 6, 6, 6, 7, 7, 7, 7, 7, 7, 7, 7, 7, 7, 7, 7, 7, 7, 7, 7, 7, 7, 7, 7, 7, 7, 7, 7, 7, 7, 7, 7, 7, 7, 7, 7, 7, 7, 7, 7, 7, 7, 7, 7, 7, 7, 7, 7, 7, 7, 7, 7, 7, 7, 7, 7, 7, 7, 7, 7, 7, 7, 7, 7, 7, 7, 7, 7, 8, 8, 8, 8, 8, 8, 8, 8, 8, 8, 8, 8, 8, 8, 8, 8, 8, 8, 8, 8, 8, 8, 8, 8, 8, 8, 8, 8, 8, 8, 8, 8, 8, 8, 8, 8, 8, 8, 8, 8, 8, 8, 8, 8, 8, 8, 8, 8, 8, 8, 8, 8, 8, 8, 8, 8, 8, 8, 8, 8, 8, 8, 8, 8, 8, 8, 8, 8, 8, 8, 8, 8, 8, 8, 8, 8, 8, 8, 8, 8, 8, 8, 8, 8, 8, 8, 8, 8, 8, 8, 8, 8, 8, 8, 8, 8, 8, 8, 8, 8, 8, 8, 8, 8, 8, 8, 8, 8, 8, 8, 8, 8, 8, 8, 8, 8, 8, 8, 8, 8, 8, 8, 8, 8, 8, 8, 8, 8]⟩) t21_1) h fun t22_1 h =>
 opK (convertA P 5 3 t22_1 (b + 4) h) fun t23_1 h =>
 rdK (binV P .add 3 3 t2 t23_1 h) h fun t24_1 h =>
 K t24_1 h
def f226_j4 (X : Caller) (L : Looper) (K : Value → AHeap → Prop) (h : AHeap) (t0 t13 t14 t15 t16 t2 t17 t18 t20 t21 t22 t19 t23 t24 : Value) : Prop :=
 rdK ((fun h : AHeap => binC P .geq 27 27 t0 (.int .u64 256) h) ((h.bump 2))) ((h.bump 2)) fun t14_1 h =>
 condK t14_1
 (rdK ((fun h : AHeap => binC P .shr 27 316 t0 (.int .u64 8) h) ((h.bump 3))) ((h.bump 3)) fun t16_1 h =>
  rdK ((fun h : AHeap => binC P .add 3 3 t2 (.int .i64 8) h) ((h.bump 3))) ((h.bump 3)) fun t18_1 h =>
  f226_j7 X L K h t18_1 t16_1 t20 t21 t22 t19 t23 t24)
 (f226_j7 X L K h t2 t0 t20 t21 t22 t19 t23 t24)
def f226_j1 (X : Caller) (L : Looper) (K : Value → AHeap → Prop) (h : AHeap) (t0 t7 t8 t9 t10 t2 t11 t12 t13 t14 t15 t16 t17 t18 t20 t21 t22 t19 t23 t24 : Value) : Prop :=
 rdK ((fun h : AHeap => binC P .geq 27 27 t0 (.int .u64 65536) h) ((h.bump 2))) ((h.bump 2)) fun t8_1 h =>
 condK t8_1
 (rdK ((fun h : AHeap => binC P .shr 27 316 t0 (.int .u64 16) h) ((h.bump 3))) ((h.bump 3)) fun t10_1 h =>
  rdK ((fun h : AHeap => binC P .add 3 3 t2 (.int .i64 16) h) ((h.bump 3))) ((h.bump 3)) fun t12_1 h =>
  f226_j4 X L K h t10_1 t13 t14 t15 t16 t12_1 t17 t18 t20 t21 t22 t19 t23 t24)
 (f226_j4 X L K h t0 t13 t14 t15 t16 t2 t17 t18 t20 t21 t22 t19 t23 t24)
/-- math/bits.Len64 -/
def f226 (X : Caller) (L : Looper) (K : Value → AHeap → Prop) (h : AHeap) (t0 : Value) : Prop :=
 rdK ((fun h : AHeap => binC P .geq 27 27 t0 (.int .u64 4294967296) h) (((h.bump 1).bump 2))) (((h.bump 1).bump 2)) fun t4 h =>
 condK t4
 (rdK ((fun h : AHeap => binC P .shr 27 316 t0 (.int .u64 32) h) ((h.bump 3))) ((h.bump 3)) fun t6 h =>
  f226_j1 X L K ((h.bump 1)) t6 undef undef undef undef ((.int .i64 32)) undef undef undef undef undef undef undef undef undef undef undef undef undef undef)
 (f226_j1 X L K h t0 undef undef undef undef ((.int .i64 0)) undef undef undef undef undef undef undef undef undef undef undef undef undef undef)
theorem f226_eq (X : Caller) (L : Looper) (K : Value → AHeap → Prop) (h : AHeap) (t0 : Value) : aJob P X L (.call 226 [t0]) K h = f226 X L K h t0 := by kernel_rfl
/-- (*cubbyhole/wheel.Wheel).Next -/
def f227 (X : Caller) (L : Looper) (K : Value → AHeap → Prop) (h : AHeap) (t0 t1 : Value) : Prop :=
 X (.call 266 [t0, (.int .u32 0), t1]) (fun t11 h =>
 rdK ((fun h : AHeap => binC P .neq 24 24 t11 (.int .i64 0) h) ((h.bump 2))) ((h.bump 2)) fun t13 h =>
 condK t13
 (K (.tuple #[(.int .i64 0), t11]) ((h.bump 3)))
 (opK ((fun h : AHeap => nilV t0 h) ((h.bump 10))) fun t17 h =>
 rdK (fAddr 1 t17) h fun t18 h =>
 X (.call 267 [t18, t1]) (fun t20 h =>
 opK (extV 0 t20 h) fun t21 h =>
 opK (extV 1 t20 h) fun t22 h =>
 rdK ((fun h : AHeap => unV P .not 4 t22) ((h.bump 2))) ((h.bump 2)) fun t24 h =>
 condK t24
 (K (.tuple #[(.int .i64 0), (.int .i64 9)]) ((h.bump 2)))
 (K (.tuple #[t21, (.int .i64 0)]) ((h.bump 3)))) h)) (((h.bump 2).bump 4))
theorem f227_eq (X : Caller) (L : Looper) (K : Value → AHeap → Prop) (h : AHeap) (t0 t1 : Value) : aJob P X L (.call 227 [t0, t1]) K h = f227 X L K h t0 t1 := by kernel_rfl
def f228_l4 (X : Caller) (L : Looper) (a : AAct) (K : ActPost) (h : AHeap) : Prop :=
 rdK ((fun h : AHeap => binV P .lss 3 3 (a.env 18) (a.env 17) h) ((h.bump 1))) ((h.bump 1)) fun t19 h =>
 condK t19
 (rdK ((fun h : AHeap => ixS 1 (a.env 16) (a.env 18)) ((h.bump 3))) ((h.bump 3)) fun t20 h =>
 rdK (ld1 t20 h) h fun t21 h =>
 X (.call 210 [(a.env 0), t21]) (fun t24 h =>
 rdK ((fun h : AHeap => binC P .add 3 3 (a.env 18) (.int .i64 1) h) ((h.bump 2))) ((h.bump 2)) fun t25 h =>
 K .normal ⟨(upds a.env [(19, t19), (20, t20), (21, t21), (9, t21), (22, (a.env 0)), (23, t21), (24, t24), (25, t25), (18, t25)]), a.defers⟩ h) ((h.bump 3)))
 (K (.exit 0) ⟨(upds a.env [(19, t19)]), a.defers⟩ h)
def f228_j2 (X : Caller) (L : Looper) (K : Value → AHeap → Prop) (h : AHeap) (a : AAct) : Prop :=
 leaveA P X Tryz.f228 ⟨(upds a.env [(26, (a.env 6)), (27, (a.env 7)), (4, (a.env 6)), (5, (a.env 7))]), a.defers⟩ K a.defers ((h.bump 4))
/-- (*cubbyhole/wheel.Wheel).Take -/
def f228 (X : Caller) (L : Looper) (K : Value → AHeap → Prop) (h : AHeap) (t0 t1 : Value) : Prop :=
 X (.call 268 [t0, t1]) (fun t13 h =>
 opK (extV 0 t13 h) fun t14 h =>
 opK (extV 1 t13 h) fun t15 h =>
 regK 3 h fun b h =>
 opK (builtinV P .len [143] [t14] (b + 1) h) fun t17 h =>
 L (f228_l4 X L) ⟨(upds (argsEnv [t0, t1]) [(4, (.slice none 0 0)), (5, (.int .i64 0)), (11, t0), (12, t1), (13, t13), (10, t13), (14, t14), (15, t15), (6, t14), (7, t15), (16, t14), (17, t17), (18, (.int .i64 0))]), []⟩ (blkX 0 (seqX (fun a h => f228_j2 X L K h a) (finX P X Tryz.f228 K))) h) (((h.bump 2).bump 8))
theorem f228_eq (X : Caller) (L : Looper) (K : Value → AHeap → Prop) (h : AHeap) (t0 t1 : Value) : aJob P X L (.call 228 [t0, t1]) K h = f228 X L K h t0 t1 := by kernel_rfl
/-- (*cubbyhole/wheel.Wheel).Put -/
def f229 (X : Caller) (L : Looper) (K : Value → AHeap → Prop) (h : AHeap) (t0 t1 t2 : Value) : Prop :=
 X (.call 266 [t0, t1, t2]) (fun t12 h =>
 rdK ((fun h : AHeap => binC P .neq 24 24 t12 (.int .i64 0) h) ((h.bump 2))) ((h.bump 2)) fun t14 h =>
 condK t14
 (K t12 ((h.bump 2)))
 (X (.call 269 [t0, t1]) (fun t18 h =>
 opK ((fun h : AHeap => nilV t0 h) ((h.bump 8))) fun t20 h =>
 rdK (fAddr 0 t20) h fun t21 h =>
 rdK (ld1 t21 h) h fun t22 h =>
 X (.call 222 [t22, t2, t1]) (fun t25 h =>
 rdK ((fun h : AHeap => binC P .neq 24 24 t25 (.int .i64 0) h) ((h.bump 2))) ((h.bump 2)) fun t27 h =>
 condK t27
 (K t25 ((h.bump 2)))
 (opK ((fun h : AHeap => nilV t0 h) ((h.bump 5))) fun t30 h =>
 rdK (fAddr 1 t30) h fun t31 h =>
 X (.call 270 [t31, t2]) (fun t33 h =>
 opK ((fun h : AHeap => nilV t0 h) ((h.bump 8))) fun t35 h =>
 rdK (fAddr 5 t35) h fun t36 h =>
 rdK (ld1 t36 h) h fun t37 h =>
 rdK (binC P .add 3 3 t37 (.int .i64 1) h) h fun t38 h =>
 opK (nilV t0 h) fun t39 h =>
 rdK (fAddr 5 t39) h fun t40 h =>
 stK (stV 1 t40 t38 h) fun h =>
 K (.int .i64 0) ((h.bump 1))) h)) h) ((h.bump 3)))) (((h.bump 1).bump 5))
theorem f229_eq (X : Caller) (L : Looper) (K : Value → AHeap → Prop) (h : AHeap) (t0 t1 t2 : Value) : aJob P X L (.call 229 [t0, t1, t2]) K h = f229 X L K h t0 t1 t2 := by kernel_rfl
def f230_j18 (X : Caller) (L : Looper) (K : ActPost) (h : AHeap) (a : AAct) : Prop :=
 rdK ((fun h : AHeap => binC P .gtr 3 3 (a.env 1) (.int .i64 0) h) ((h.bump 17))) ((h.bump 17)) fun t82 h =>
 gopK (wantV t82 true) h (some ((a.env 4), h)) fun t84 h =>
 gopK (wantV t82 true) h (some ((a.env 0), h)) fun t85 h =>
 gopK (wantV t82 true) h (some ((a.env 1), h)) fun t86 h =>
 gopK (wantV t82 true) h ((binC P .sub 3 3 t86 (.int .i64 1) h).map (·, h)) fun t87 h =>
 gopK (wantV t82 true) h ((ixS 3 t85 t87).map (·, h)) fun t88 h =>
 gopK (wantV t82 true) h ((ldN 3 t88 h).map (·, h)) fun t89 h =>
 gopK (wantV t82 true) h (some ((a.env 0), h)) fun t90 h =>
 gopK (wantV t82 true) h (some ((a.env 13), h)) fun t91 h =>
 gopK (wantV t82 true) h ((ixS 3 t90 t91).map (·, h)) fun t92 h =>
 gopK (wantV t82 true) h ((ldN 3 t92 h).map (·, h)) fun t93 h =>
 gcallvK (wantV t82 true) X t84 [t89, t93] h fun t94 h =>
 gopK (wantV t82 true) h ((binC P .lss 3 3 t94 (.int .i64 0) h).map (·, h)) fun t95 h =>
 gopK (wantV t82 true) h ((unV P .not 4 t95).map (·, h)) fun t96 h =>
 opK (pickV t82 t96 (.bool false) h) fun t97 h =>
 condK t97
 (X (.call 277 [(a.env 0), (a.env 1), (a.env 2), (a.env 13), (a.env 4)]) (fun t103 h =>
  K .normal ⟨(upds a.env [(81, (a.env 1)), (82, t82), (83, t82), (84, t84), (85, t85), (86, t86), (87, t87), (88, t88), (89, t89), (90, t90), (91, t91), (92, t92), (93, t93), (94, t94), (95, t95), (96, t96), (97, t97), (98, (a.env 0)), (99, (a.env 1)), (100, (a.env 2)), (101, (a.env 13)), (102, (a.env 4)), (103, t103), (15, t103), (104, t103), (1, t103)]), a.defers⟩ ((h.bump 2))) ((h.bump 7)))
 (X (.call 278 [(a.env 0), (a.env 1), (a.env 2), (a.env 13), (a.env 4)]) (fun t111 h =>
 opK (extV 0 t111 h) fun t112 h =>
 opK (extV 1 t111 h) fun t113 h =>
 rdK ((fun h : AHeap => binV P .sub 3 3 t112 (a.env 1) h) (((h.bump 2).bump 8))) (((h.bump 2).bump 8)) fun t117 h =>
 rdK (binV P .sub 3 3 (a.env 2) t112 h) h fun t120 h =>
 rdK ((fun h : AHeap => binC P .quo 3 3 (a.env 12) (.int .i64 8) h) ((h.bump 3))) ((h.bump 3)) fun t122 h =>
 rdK ((fun h : AHeap => binV P .lss 3 3 t117 t120 h) ((h.bump 3))) ((h.bump 3)) fun t125 h =>
 condK t125
 (rdK ((fun h : AHeap => binV P .geq 3 3 t117 t122 h) ((h.bump 4))) ((h.bump 4)) fun t128 h =>
  X (.call 230 [(a.env 0), (a.env 1), t112, (a.env 3), (a.env 4)]) (fun t134 h =>
  rdK ((fun h : AHeap => binC P .add 3 3 t112 (.int .i64 1) h) ((h.bump 3))) ((h.bump 3)) fun t136 h =>
  K .normal ⟨(upds a.env [(81, (a.env 1)), (82, t82), (83, t82), (84, t84), (85, t85), (86, t86), (87, t87), (88, t88), (89, t89), (90, t90), (91, t91), (92, t92), (93, t93), (94, t94), (95, t95), (96, t96), (97, t97), (106, (a.env 0)), (107, (a.env 1)), (108, (a.env 2)), (109, (a.env 13)), (110, (a.env 4)), (111, t111), (105, t111), (112, t112), (113, t113), (16, t112), (17, t113), (114, t113), (11, t113), (115, t112), (116, (a.env 1)), (117, t117), (118, (a.env 2)), (119, t112), (120, t120), (18, t117), (19, t120), (121, (a.env 12)), (122, t122), (20, t122), (123, t117), (124, t120), (125, t125), (126, t117), (127, t122), (128, t128), (10, t128), (129, (a.env 0)), (130, (a.env 1)), (131, t112), (132, (a.env 3)), (133, (a.env 4)), (134, t134), (135, t112), (136, t136), (1, t136)]), a.defers⟩ h) ((h.bump 6)))
 (rdK ((fun h : AHeap => binV P .geq 3 3 t120 t122 h) ((h.bump 4))) ((h.bump 4)) fun t139 h =>
  rdK ((fun h : AHeap => binC P .add 3 3 t112 (.int .i64 1) h) ((h.bump 7))) ((h.bump 7)) fun t142 h =>
  X (.call 230 [(a.env 0), t142, (a.env 2), (a.env 3), (a.env 4)]) (fun t146 h =>
  K .normal ⟨(upds a.env [(81, (a.env 1)), (82, t82), (83, t82), (84, t84), (85, t85), (86, t86), (87, t87), (88, t88), (89, t89), (90, t90), (91, t91), (92, t92), (93, t93), (94, t94), (95, t95), (96, t96), (97, t97), (106, (a.env 0)), (107, (a.env 1)), (108, (a.env 2)), (109, (a.env 13)), (110, (a.env 4)), (111, t111), (105, t111), (112, t112), (113, t113), (16, t112), (17, t113), (114, t113), (11, t113), (115, t112), (116, (a.env 1)), (117, t117), (118, (a.env 2)), (119, t112), (120, t120), (18, t117), (19, t120), (121, (a.env 12)), (122, t122), (20, t122), (123, t117), (124, t120), (125, t125), (137, t120), (138, t122), (139, t139), (10, t139), (140, (a.env 0)), (141, t112), (142, t142), (143, (a.env 2)), (144, (a.env 3)), (145, (a.env 4)), (146, t146), (147, t112), (2, t112)]), a.defers⟩ ((h.bump 2))) h)) ((h.bump 11)))
def f230_j14 (X : Caller) (L : Looper) (K : ActPost) (h : AHeap) (a : AAct) : Prop :=
 gopK (wantV (a.env 10) true) ((h.bump 8)) (some ((a.env 11), (h.bump 8))) fun t70 h =>
 opK (pickV (a.env 10) t70 (.bool false) h) fun t71 h =>
 gopK (wantV t71 true) h (some ((a.env 14), h)) fun t73 h =>
 gopK (wantV t71 true) h ((binC P .eql 356 356 t73 (.int .i64 1) h).map (·, h)) fun t74 h =>
 opK (pickV t71 t74 (.bool false) h) fun t75 h =>
 condK t75
 (X (.call 276 [(a.env 0), (a.env 1), (a.env 2), (a.env 4)]) (fun t80 h =>
  condK t80
  (K .ret ⟨(upds a.env [(68, (a.env 10)), (69, (a.env 10)), (70, t70), (71, t71), (72, t71), (73, t73), (74, t74), (75, t75), (76, (a.env 0)), (77, (a.env 1)), (78, (a.env 2)), (79, (a.env 4)), (80, t80)]), a.defers⟩ h)
  (f230_j18 X L K h ⟨(upds a.env [(68, (a.env 10)), (69, (a.env 10)), (70, t70), (71, t71), (72, t71), (73, t73), (74, t74), (75, t75), (76, (a.env 0)), (77, (a.env 1)), (78, (a.env 2)), (79, (a.env 4)), (80, t80)]), a.defers⟩)) ((h.bump 5)))
 (f230_j18 X L K h ⟨(upds a.env [(68, (a.env 10)), (69, (a.env 10)), (70, t70), (71, t71), (72, t71), (73, t73), (74, t74), (75, t75)]), a.defers⟩)
def f230_j10 (X : Caller) (L : Looper) (K : ActPost) (h : AHeap) (a : AAct) : Prop :=
 X (.call 274 [(a.env 0), (a.env 1), (a.env 2), (a.env 4)]) (fun t52 h =>
 opK (extV 0 t52 h) fun t53 h =>
 opK (extV 1 t52 h) fun t54 h =>
 rdK ((fun h : AHeap => binC P .eql 356 356 t54 (.int .i64 2) h) ((h.bump 2))) ((h.bump 2)) fun t56 h =>
 condK t56
 (X (.call 275 [(a.env 0), (a.env 1), (a.env 2), (a.env 4)]) (fun t61 h =>
  rdK ((fun h : AHeap => binC P .sub 3 3 (a.env 2) (.int .i64 1) h) ((h.bump 7))) ((h.bump 7)) fun t63 h =>
  rdK (binV P .sub 3 3 t53 (a.env 1) h) h fun t66 h =>
  rdK (binV P .sub 3 3 t63 t66 h) h fun t67 h =>
  f230_j14 X L K ((h.bump 1)) ⟨(upds a.env [(48, (a.env 0)), (49, (a.env 1)), (50, (a.env 2)), (51, (a.env 4)), (52, t52), (47, t52), (53, t53), (54, t54), (13, t53), (14, t54), (55, t54), (56, t56), (57, (a.env 0)), (58, (a.env 1)), (59, (a.env 2)), (60, (a.env 4)), (61, t61), (62, (a.env 2)), (63, t63), (64, t53), (65, (a.env 1)), (66, t66), (67, t67), (13, t67), (14, (.int .i64 1))]), a.defers⟩) ((h.bump 5)))
 (f230_j14 X L K h ⟨(upds a.env [(48, (a.env 0)), (49, (a.env 1)), (50, (a.env 2)), (51, (a.env 4)), (52, t52), (47, t52), (53, t53), (54, t54), (13, t53), (14, t54), (55, t54), (56, t56)]), a.defers⟩)) ((h.bump 10))
def f230_l2 (X : Caller) (L : Looper) (a : AAct) (K : ActPost) (h : AHeap) : Prop :=
 rdK ((fun h : AHeap => binV P .sub 3 3 (a.env 2) (a.env 1) h) ((h.bump 4))) ((h.bump 4)) fun t23 h =>
 rdK ((fun h : AHeap => binC P .leq 3 3 t23 (.int .i64 12) h) ((h.bump 2))) ((h.bump 2)) fun t25 h =>
 condK t25
 (X (.call 271 [(a.env 0), (a.env 1), (a.env 2), (a.env 4)]) (fun t30 h =>
  K .ret ⟨(upds a.env [(21, (a.env 2)), (22, (a.env 1)), (23, t23), (12, t23), (24, t23), (25, t25), (26, (a.env 0)), (27, (a.env 1)), (28, (a.env 2)), (29, (a.env 4)), (30, t30)]), a.defers⟩ h) ((h.bump 5)))
 (rdK ((fun h : AHeap => binC P .eql 3 3 (a.env 3) (.int .i64 0) h) ((h.bump 2))) ((h.bump 2)) fun t32 h =>
 condK t32
 (X (.call 272 [(a.env 0), (a.env 1), (a.env 2), (a.env 4)]) (fun t37 h =>
  K .ret ⟨(upds a.env [(21, (a.env 2)), (22, (a.env 1)), (23, t23), (12, t23), (24, t23), (25, t25), (31, (a.env 3)), (32, t32), (33, (a.env 0)), (34, (a.env 1)), (35, (a.env 2)), (36, (a.env 4)), (37, t37)]), a.defers⟩ h) ((h.bump 5)))
 (rdK ((fun h : AHeap => unV P .not 4 (a.env 10)) ((h.bump 2))) ((h.bump 2)) fun t39 h =>
 condK t39
 (X (.call 273 [(a.env 0), (a.env 1), (a.env 2), (a.env 4)]) (fun t44 h =>
  rdK ((fun h : AHeap => binC P .sub 3 3 (a.env 3) (.int .i64 1) h) ((h.bump 3))) ((h.bump 3)) fun t46 h =>
  f230_j10 X L K h ⟨(upds a.env [(21, (a.env 2)), (22, (a.env 1)), (23, t23), (12, t23), (24, t23), (25, t25), (31, (a.env 3)), (32, t32), (38, (a.env 10)), (39, t39), (40, (a.env 0)), (41, (a.env 1)), (42, (a.env 2)), (43, (a.env 4)), (44, t44), (45, (a.env 3)), (46, t46), (3, t46)]), a.defers⟩) ((h.bump 5)))
 (f230_j10 X L K h ⟨(upds a.env [(21, (a.env 2)), (22, (a.env 1)), (23, t23), (12, t23), (24, t23), (25, t25), (31, (a.env 3)), (32, t32), (38, (a.env 10)), (39, t39)]), a.defers⟩)))
/-- slices.pdqsortCmpFunc[cubbyhole/api.Timed] -/
def f230 (X : Caller) (L : Looper) (K : Value → AHeap → Prop) (h : AHeap) (t0 t1 t2 t3 t4 : Value) : Prop :=
 L (f230_l2 X L) ⟨(upds (argsEnv [t0, t1, t2, t3, t4]) [(10, (.bool true)), (11, (.bool true))]), []⟩ (blkX 0 (finX P X Tryz.f230 K)) (((h.bump 1).bump 1))
/-- math/bits.Len -/
def f231 (X : Caller) (L : Looper) (K : Value → AHeap → Prop) (h : AHeap) (t0 : Value) : Prop :=
 condK (.bool false)
 (regK 4 ((h.bump 1)) fun b h =>
  opK (convertA P 316 81 t0 (b + 1) h) fun t4 h =>
  X (.call 279 [t4]) (fun t5 h =>
  K t5 h) h)
 (X (.call 226 [t0]) (fun t7 h =>
 K t7 h) (((h.bump 1).bump 3)))
theorem f231_eq (X : Caller) (L : Looper) (K : Value → AHeap → Prop) (h : AHeap) (t0 : Value) : aJob P X L (.call 231 [t0]) K h = f231 X L K h t0 := by kernel_rfl
def f234_j3 (X : Caller) (L : Looper) (K : Value → AHeap → Prop) (h : AHeap) (t0 t26 t4 : Value) : Prop :=
 K t0 ((h.bump 2))
def f234_j1 (X : Caller) (L : Looper) (K : Value → AHeap → Prop) (h : AHeap) (t1 t0 t9 t11 t10 t12 t8 t13 t14 t15 t16 t18 t17 t19 t20 t21 t23 t22 t24 t25 t26 t4 : Value) : Prop :=
 regK 8 h fun b h =>
 opK (builtinV P .cap [178] [t0] (b + 2) h) fun t10_1 h =>
 opK (builtinV P .len [178] [t0] (b + 4) h) fun t12_1 h =>
 rdK (binV P .sub 3 3 t10_1 t12_1 h) h fun t13_1 h =>
 rdK (binV P .sub 3 3 t1 t13_1 h) h fun t14_1 h =>
 rdK ((fun h : AHeap => binC P .gtr 3 3 t14_1 (.int .i64 0) h) ((h.bump 2))) ((h.bump 2)) fun t16_1 h =>
 condK t16_1
 (regK 10 h fun b_1 h =>
  opK (builtinV P .cap [178] [t0] (b_1 + 2) h) fun t19_1 h =>
  opK (sliceV P 178 t0 none (some t19_1) none h) fun t20_1 h =>
  opK (builtinV P .append [178, 3] [t20_1, t14_1] (b_1 + 5) h) fun t22_1 h =>
  opK (builtinV P .len [178] [t0] (b_1 + 7) h) fun t24_1 h =>
  opK (sliceV P 178 t22_1 none (some t24_1) none h) fun t25_1 h =>
  f234_j3 X L K h t25_1 t26 t4)
 (f234_j3 X L K h t0 t26 t4)
/-- slices.Grow[[]cubbyhole/api.Weighed,cubbyhole/api.Weighed] -/
def f234 (X : Caller) (L : Looper) (K : Value → AHeap → Prop) (h : AHeap) (t0 t1 : Value) : Prop :=
 rdK ((fun h : AHeap => binC P .lss 3 3 t1 (.int .i64 0) h) (((h.bump 1).bump 2))) (((h.bump 1).bump 2)) fun t6 h =>
 condK t6
 (False)
 (f234_j1 X L K h t1 t0 undef undef undef undef undef undef undef undef undef undef undef undef undef undef undef undef undef undef undef ((.slice none 0 0)))
theorem f234_eq (X : Caller) (L : Looper) (K : Value → AHeap → Prop) (h : AHeap) (t0 t1 : Value) : aJob P X L (.call 234 [t0, t1]) K h = f234 X L K h t0 t1 := by kernel_rfl
def f235_j10 (X : Caller) (L : Looper) (K : ActPost) (h : AHeap) (a : AAct) : Prop :=
 rdK ((fun h : AHeap => binC P .add 3 3 (a.env 6) (.int .i64 1) h) ((h.bump 3))) ((h.bump 3)) fun t21 h =>
 K .normal ⟨(upds a.env [(20, (a.env 6)), (21, t21), (6, t21)]), a.defers⟩ h
def f235_l7 (X : Caller) (L : Looper) (a : AAct) (K : ActPost) (h : AHeap) : Prop :=
 regK 4 h fun b h =>
 opK (builtinV P .len [178] [(a.env 0)] (b + 2) h) fun t18 h =>
 rdK (binV P .lss 3 3 (a.env 6) t18 h) h fun t19 h =>
 condK t19
 (regK 6 h fun b_1 h =>
 rdK (ixS 2 (a.env 0) (a.env 6)) h fun t24 h =>
 rdK (ldN 2 t24 h) h fun t25 h =>
 opK (newV [.int .u32 0, .int .i64 0] (b_1 + 4) h) fun t7 h =>
 stK (stV 2 t7 t25 h) fun h =>
 rdK ((fun h : AHeap => ldN 2 t7 h) ((h.bump 4))) ((h.bump 4)) fun t27 h =>
 callV X (a.env 1) [t27] (fun t28 h =>
 rdK (unV P .not 4 t28) h fun t29 h =>
 condK t29
 (rdK ((fun h : AHeap => ldN 2 t7 h) ((h.bump 5))) ((h.bump 5)) fun t32 h =>
  rdK (ixS 2 (a.env 0) (a.env 5)) h fun t33 h =>
  stK (stV 2 t33 t32 h) fun h =>
  rdK ((fun h : AHeap => binC P .add 3 3 (a.env 5) (.int .i64 1) h) ((h.bump 3))) ((h.bump 3)) fun t35 h =>
  f235_j10 X L K h ⟨(upds a.env [(16, (a.env 6)), (17, (a.env 0)), (18, t18), (19, t19), (22, (a.env 0)), (23, (a.env 6)), (24, t24), (25, t25), (7, t7), (26, (a.env 1)), (27, t27), (28, t28), (29, t29), (30, (a.env 0)), (31, (a.env 5)), (32, t32), (33, t33), (34, (a.env 5)), (35, t35), (5, t35)]), a.defers⟩)
 (f235_j10 X L K h ⟨(upds a.env [(16, (a.env 6)), (17, (a.env 0)), (18, t18), (19, t19), (22, (a.env 0)), (23, (a.env 6)), (24, t24), (25, t25), (7, t7), (26, (a.env 1)), (27, t27), (28, t28), (29, t29)]), a.defers⟩)) h)
 (K (.exit 0) ⟨(upds a.env [(16, (a.env 6)), (17, (a.env 0)), (18, t18), (19, t19)]), a.defers⟩ h)
def f235_j5 (X : Caller) (L : Looper) (K : Value → AHeap → Prop) (h : AHeap) (a : AAct) : Prop :=
 regK 4 h fun b_2 h =>
 opK (sliceV P 178 (a.env 0) (some (a.env 5)) none none h) fun t38 h =>
 opK (builtinV P .clear [178] [t38] (b_2 + 3) h) fun _ h =>
 opK ((fun h : AHeap => sliceV P 178 (a.env 0) none (some (a.env 5)) none h) ((h.bump 4))) fun t41 h =>
 leaveA P X Tryz.f235 ⟨(upds a.env [(36, (a.env 0)), (37, (a.env 5)), (38, t38), (39, (a.env 0)), (40, (a.env 5)), (41, t41), (4, t41)]), a.defers⟩ K a.defers h
/-- slices.DeleteFunc[[]cubbyhole/api.Weighed,cubbyhole/api.Weighed] -/
def f235 (X : Caller) (L : Looper) (K : Value → AHeap → Prop) (h : AHeap) (t0 t1 : Value) : Prop :=
 X (.call 280 [t0, t1]) (fun t10 h =>
 rdK ((fun h : AHeap => binC P .eql 3 3 t10 (.int .i64 (-1)) h) ((h.bump 2))) ((h.bump 2)) fun t12 h =>
 condK t12
 (K t0 ((h.bump 2)))
 (rdK ((fun h : AHeap => binC P .add 3 3 t10 (.int .i64 1) h) ((h.bump 3))) ((h.bump 3)) fun t15 h =>
 L (f235_l7 X L) ⟨(upds (argsEnv [t0, t1]) [(4, (.slice none 0 0)), (8, t0), (9, t1), (10, t10), (5, t10), (11, t10), (12, t12), (14, t10), (15, t15), (6, t15)]), []⟩ (blkX 0 (seqX (fun a h => f235_j5 X L K h a) (finX P X Tryz.f235 K))) h)) (((h.bump 1).bump 4))
theorem f235_eq (X : Caller) (L : Looper) (K : Value → AHeap → Prop) (h : AHeap) (t0 t1 : Value) : aJob P X L (.call 235 [t0, t1]) K h = f235 X L K h t0 t1 := by kernel_rfl
/-- slices.Clone[[]cubbyhole/api.Weighed,cubbyhole/api.Weighed] -/
def f236 (X : Caller) (L : Looper) (K : Value → AHeap → Prop) (h : AHeap) (t0 : Value) : Prop :=
 rdK ((fun h : AHeap => binC P .eql 178 178 t0 (.slice none 0 0) h) (((h.bump 1).bump 2))) (((h.bump 1).bump 2)) fun t4 h =>
 condK t4
 (K (.slice none 0 0) ((h.bump 1)))
 (regK 4 h fun b h =>
 opK (bsliceV P 178 0 [] (b + 0) h) fun t5 h =>
 opK (builtinV P .append [178, 178] [t5, t0] (b + 2) h) fun t7 h =>
 K t7 h)
theorem f236_eq (X : Caller) (L : Looper) (K : Value → AHeap → Prop) (h : AHeap) (t0 : Value) : aJob P X L (.call 236 [t0]) K h = f236 X L K h t0 := by kernel_rfl
/-- (cubbyhole/victim.choice).order$1 -/
def f237 (X : Caller) (L : Looper) (K : Value → AHeap → Prop) (h : AHeap) (t0 t1 : Value) : Prop :=
 regK 2 h fun b h =>
 opK (boxV t0 (b + 0) h) fun t2 h =>
 rdK ((fun h : AHeap => fAddr 0 t2) ((h.bump 6))) ((h.bump 6)) fun t4 h =>
 rdK (ld1 t4 h) h fun t5 h =>
 rdK (fAddr 1 t1) h fun t6 h =>
 rdK (ld1 t6 h) h fun t7 h =>
 rdK (binV P .eql 81 81 t5 t7 h) h fun t8 h =>
 K t8 h
theorem f237_eq (X : Caller) (L : Looper) (K : Value → AHeap → Prop) (h : AHeap) (t0 t1 : Value) : aJob P X L (.call 237 [t0, t1]) K h = f237 X L K h t0 t1 := by kernel_rfl
def f238_l8 (X : Caller) (L : Looper) (a : AAct) (K : ActPost) (h : AHeap) : Prop :=
 rdK ((fun h : AHeap => binV P .neq 81 81 (a.env 7) (a.env 5) h) ((h.bump 3))) ((h.bump 3)) fun t25 h =>
 condK t25
 (regK 5 h fun b h =>
 opK (bsliceV P 143 1 [(0, (a.env 7))] (b + 2) h) fun t36 h =>
 opK (builtinV P .append [143, 143] [(a.env 6), t36] (b + 3) h) fun t37 h =>
 opK ((fun h : AHeap => nilV (a.env 0) h) ((h.bump 9))) fun t27 h =>
 rdK (fAddr 0 t27) h fun t28 h =>
 rdK (ld1 t28 h) h fun t29 h =>
 rdK (ixS 3 t29 (a.env 7)) h fun t31 h =>
 rdK (fAddr 1 t31) h fun t32 h =>
 rdK (ld1 t32 h) h fun t33 h =>
 K .normal ⟨(upds a.env [(23, (a.env 7)), (24, (a.env 5)), (25, t25), (34, (a.env 6)), (35, (a.env 7)), (36, t36), (37, t37), (6, t37), (26, (a.env 0)), (27, t27), (28, t28), (29, t29), (30, (a.env 7)), (31, t31), (32, t32), (33, t33), (7, t33)]), a.defers⟩ h)
 (K (.exit 0) ⟨(upds a.env [(23, (a.env 7)), (24, (a.env 5)), (25, t25)]), a.defers⟩ h)
def f238_j6 (X : Caller) (L : Looper) (K : Value → AHeap → Prop) (h : AHeap) (a : AAct) : Prop :=
 leaveA P X Tryz.f238 ⟨(upds a.env [(38, (a.env 6)), (4, (a.env 6))]), a.defers⟩ K a.defers ((h.bump 2))
/-- (*cubbyhole/links.Links).all -/
def f238 (X : Caller) (L : Looper) (K : Value → AHeap → Prop) (h : AHeap) (t0 t1 : Value) : Prop :=
 X (.call 264 [t0, t1]) (fun t10 h =>
 rdK (binC P .neq 24 24 t10 (.int .i64 0) h) h fun t11 h =>
 condK t11
 (K (.slice none 0 0) ((h.bump 1)))
 (X (.call 178 [t1, t0]) (fun t14 h =>
 opK ((fun h : AHeap => nilV t0 h) (((h.bump 1).bump 9))) fun t16 h =>
 rdK (fAddr 0 t16) h fun t17 h =>
 rdK (ld1 t17 h) h fun t18 h =>
 rdK (ixS 3 t18 t14) h fun t20 h =>
 rdK (fAddr 1 t20) h fun t21 h =>
 rdK (ld1 t21 h) h fun t22 h =>
 L (f238_l8 X L) ⟨(upds (argsEnv [t0, t1]) [(4, (.slice none 0 0)), (8, t0), (9, t1), (10, t10), (11, t11), (12, t1), (13, t0), (14, t14), (5, t14), (6, (.slice none 0 0)), (15, t0), (16, t16), (17, t17), (18, t18), (19, t14), (20, t20), (21, t21), (22, t22), (7, t22)]), []⟩ (blkX 0 (seqX (fun a h => f238_j6 X L K h a) (finX P X Tryz.f238 K))) h) ((h.bump 4)))) (((h.bump 1).bump 4))
theorem f238_eq (X : Caller) (L : Looper) (K : Value → AHeap → Prop) (h : AHeap) (t0 t1 : Value) : aJob P X L (.call 238 [t0, t1]) K h = f238 X L K h t0 t1 := by kernel_rfl
def f239_l1 (X : Caller) (L : Looper) (a : AAct) (K : ActPost) (h : AHeap) : Prop :=
 rdK ((fun h : AHeap => binV P .lss 3 3 (a.env 7) (a.env 6) h) ((h.bump 1))) ((h.bump 1)) fun t8 h =>
 condK t8
 (rdK ((fun h : AHeap => ixS 1 (a.env 5) (a.env 7)) ((h.bump 3))) ((h.bump 3)) fun t9 h =>
 rdK (ld1 t9 h) h fun t10 h =>
 callV X (a.env 0) [t10] (fun t13 h =>
 rdK (unV P .not 4 t13) h fun t14 h =>
 condK t14
 (K .ret ⟨(upds a.env [(8, t8), (9, t9), (10, t10), (4, t10), (11, (a.env 0)), (12, t10), (13, t13), (14, t14)]), a.defers⟩ h)
 (rdK ((fun h : AHeap => binC P .add 3 3 (a.env 7) (.int .i64 1) h) ((h.bump 2))) ((h.bump 2)) fun t15 h =>
 K .normal ⟨(upds a.env [(8, t8), (9, t9), (10, t10), (4, t10), (11, (a.env 0)), (12, t10), (13, t13), (14, t14), (15, t15), (7, t15)]), a.defers⟩ h)) ((h.bump 4)))
 (K (.exit 0) ⟨(upds a.env [(8, t8)]), a.defers⟩ h)
/-- (*cubbyhole/links.Links).All$1 -/
def f239 (X : Caller) (L : Looper) (K : Value → AHeap → Prop) (h : AHeap) (t0 t1 : Value) : Prop :=
 regK 3 h fun b h =>
 rdK (ld1 t1 h) h fun t5 h =>
 opK (builtinV P .len [143] [t5] (b + 1) h) fun t6 h =>
 L (f239_l1 X L) ⟨(upds (argsEnv [t0, t1]) [(5, t5), (6, t6), (7, (.int .i64 0))]), []⟩ (blkX 0 (finX P X Tryz.f239 K)) h
theorem f239_eq (X : Caller) (L : Looper) (K : Value → AHeap → Prop) (h : AHeap) (t0 t1 : Value) : aJob P X L (.call 239 [t0, t1]) K h = f239 X L K h t0 t1 := by kernel_rfl
end Go.Proofs.YtdlnbmadifgbkaaGreatDoor.F
