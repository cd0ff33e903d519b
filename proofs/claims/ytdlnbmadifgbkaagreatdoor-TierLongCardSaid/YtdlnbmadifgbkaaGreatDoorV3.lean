/- The functions of the program, as texts that the kernel reckons out (printed by a program of this place). -/
import Derived.Test.YtdlnbmadifgbkaaGreatDoorXX
import Derived.Test.YtdlnbmadifgbkaaGreatDoorCubV
namespace Go.Proofs.YtdlnbmadifgbkaaGreatDoor.F
set_option linter.unusedVariables false
set_option linter.unusedSimpArgs false
open Go Go.Cub
set_option maxRecDepth 100000
def v248 (X : Caller) (L : Looper) (K : Value → AHeap → Prop) (h : AHeap) (t0 : Value) : Prop :=
 bumpK 1 h fun h =>
 bumpK 6 h fun h =>
 X (.call 165 [t0]) (fun t4 h =>
 X (.call 214 [t0, (.int .u8 254)]) (fun t6 h =>
 binVK P .or 5 5 t4 t6 h fun t7 =>
 K t7 h) h) h
theorem v248_eq (X : Caller) (L : Looper) (K : Value → AHeap → Prop) (h : AHeap) (t0 : Value) : f248 X L K h t0 = v248 X L K h t0 := by
  unfold f248 v248
  simp only [rdK_rd', nilVK_eq, newVK_eq, boxVK_eq, pickVK_eq, extVK_eq, gF_rd, gF_some, gF_nil, gF_pick, gF_ext, bumpK_eq, regV_eq, ld1K_eq', ldNK_eq', binVK_eq', binCK_eq', binDK_eq', stVK_eq, fAddrK_eq', ixSK_eq', ixRK_eq', unVK_eq', opF_eq]
theorem w248_eq (X : Caller) (L : Looper) (K : Value → AHeap → Prop) (h : AHeap) (t0 : Value) : aJob P X L (.call 248 [t0]) K h = v248 X L K h t0 := (f248_eq X L K h t0).trans (v248_eq X L K h t0)
def v249 (X : Caller) (L : Looper) (K : Value → AHeap → Prop) (h : AHeap) (t0 t1 t2 : Value) : Prop :=
 bumpK 2 h fun h =>
 bumpK 10 h fun h =>
 binCK P .gtr 5 5 t2 (.int .u8 127) h fun t10 =>
 gF (wantV t10 true) (fun k => k t2) fun t12 =>
 gF (wantV t10 true) (binCK P .neq 5 5 t12 (.int .u8 128) h) fun t13 =>
 pickVK t10 t13 (.bool false) fun t14 =>
 gF (wantV t14 true) (fun k => k t2) fun t16 =>
 gF (wantV t14 true) (binCK P .neq 5 5 t16 (.int .u8 254) h) fun t17 =>
 pickVK t14 t17 (.bool false) fun t18 =>
 condK t18
 (bumpK 2 h fun h =>
  K (.tuple #[(.int .u64 0), (.int .i64 2)]) h)
 (bumpK 4 h fun h =>
 X (.call 211 [t0, t1]) (fun t21 h =>
 bumpK 2 h fun h =>
 binCK P .neq 24 24 t21 (.int .i64 0) h fun t23 =>
 condK t23
 (bumpK 3 h fun h =>
  K (.tuple #[(.int .u64 0), t21]) h)
 (bumpK 8 h fun h =>
 X (.call 213 [t0, t1, t2]) (fun t28 h =>
 extVK 0 t28 fun t29 =>
 extVK 1 t28 fun t30 =>
 K (.tuple #[t29, t30]) h) h)) h)
theorem v249_eq (X : Caller) (L : Looper) (K : Value → AHeap → Prop) (h : AHeap) (t0 t1 t2 : Value) : f249 X L K h t0 t1 t2 = v249 X L K h t0 t1 t2 := by
  unfold f249 v249
  simp only [rdK_rd', nilVK_eq, newVK_eq, boxVK_eq, pickVK_eq, extVK_eq, gF_rd, gF_some, gF_nil, gF_pick, gF_ext, bumpK_eq, regV_eq, ld1K_eq', ldNK_eq', binVK_eq', binCK_eq', binDK_eq', stVK_eq, fAddrK_eq', ixSK_eq', ixRK_eq', unVK_eq', opF_eq]
theorem w249_eq (X : Caller) (L : Looper) (K : Value → AHeap → Prop) (h : AHeap) (t0 t1 t2 : Value) : aJob P X L (.call 249 [t0, t1, t2]) K h = v249 X L K h t0 t1 t2 := (f249_eq X L K h t0 t1 t2).trans (v249_eq X L K h t0 t1 t2)
def v250 (X : Caller) (L : Looper) (K : Value → AHeap → Prop) (h : AHeap) (t0 t1 : Value) : Prop :=
 bumpK 1 h fun h =>
 bumpK 4 h fun h =>
 X (.call 131 [t0]) (fun t7 h =>
 unVK P .not 4 t7 fun t8 =>
 condK t8
 (bumpK 1 h fun h =>
  K (.int .i64 2) h)
 (bumpK 8 h fun h =>
  binCK P .lss 3 3 t1 (.int .i64 0) h fun t11 =>
  gF (wantV t11 false) (fun k => k t1) fun t13 =>
  gF (wantV t11 false) (fun k => k t0) fun t14 =>
  gF (wantV t11 false) (binVK P .geq 3 3 t13 t14 h) fun t15 =>
  pickVK t11 (.bool true) t15 fun t16 =>
  condK t16
  (bumpK 1 h fun h =>
   K (.int .i64 3) h)
  (bumpK 1 h fun h =>
 K (.int .i64 0) h))) h
theorem v250_eq (X : Caller) (L : Looper) (K : Value → AHeap → Prop) (h : AHeap) (t0 t1 : Value) : f250 X L K h t0 t1 = v250 X L K h t0 t1 := by
  unfold f250 v250
  simp only [rdK_rd', nilVK_eq, newVK_eq, boxVK_eq, pickVK_eq, extVK_eq, gF_rd, gF_some, gF_nil, gF_pick, gF_ext, bumpK_eq, regV_eq, ld1K_eq', ldNK_eq', binVK_eq', binCK_eq', binDK_eq', stVK_eq, fAddrK_eq', ixSK_eq', ixRK_eq', unVK_eq', opF_eq]
theorem w250_eq (X : Caller) (L : Looper) (K : Value → AHeap → Prop) (h : AHeap) (t0 t1 : Value) : aJob P X L (.call 250 [t0, t1]) K h = v250 X L K h t0 t1 := (f250_eq X L K h t0 t1).trans (v250_eq X L K h t0 t1)
def v251_l1 (X : Caller) (L : Looper) (a : AAct) (K : ActPost) (h : AHeap) : Prop :=
 bumpK 1 h fun h =>
 binVK P .lss 3 3 (a.env 7) (a.env 6) h fun t8 =>
 condK t8
 (bumpK 2 h fun h =>
 bumpK 7 h fun h =>
 ld1K (a.env 2) h fun t11 =>
 ld1K (a.env 3) h fun t12 =>
 X (.call 252 [t11, t12, (a.env 7)]) (fun t14 h =>
 callV X (a.env 0) [t14] (fun t15 h =>
 unVK P .not 4 t15 fun t16 =>
 condK t16
 (K .ret ⟨(upds a.env [(8, t8), (9, (a.env 7)), (5, (a.env 7)), (10, (a.env 0)), (11, t11), (12, t12), (13, (a.env 7)), (14, t14), (15, t15), (16, t16)]), a.defers⟩ h)
 (bumpK 2 h fun h =>
 binCK P .add 3 3 (a.env 7) (.int .i64 1) h fun t17 =>
 K .normal ⟨(upds a.env [(8, t8), (9, (a.env 7)), (5, (a.env 7)), (10, (a.env 0)), (11, t11), (12, t12), (13, (a.env 7)), (14, t14), (15, t15), (16, t16), (17, t17), (7, t17)]), a.defers⟩ h)) h) h)
 (K (.exit 0) ⟨(upds a.env [(8, t8)]), a.defers⟩ h)
theorem v251_l1_eq (X : Caller) (L : Looper) (a : AAct) (K : ActPost) (h : AHeap) : f251_l1 X L a K h = v251_l1 X L a K h := by
  unfold f251_l1 v251_l1
  simp only [rdK_rd', nilVK_eq, newVK_eq, boxVK_eq, pickVK_eq, extVK_eq, gF_rd, gF_some, gF_nil, gF_pick, gF_ext, bumpK_eq, regV_eq, ld1K_eq', ldNK_eq', binVK_eq', binCK_eq', binDK_eq', stVK_eq, fAddrK_eq', ixSK_eq', ixRK_eq', unVK_eq', opF_eq]
theorem v251_l1_eq' (X : Caller) (L : Looper) : f251_l1 X L = v251_l1 X L := by
  funext a K h; exact v251_l1_eq X L a K h
def v251 (X : Caller) (L : Looper) (K : Value → AHeap → Prop) (h : AHeap) (t0 t1 t2 t3 : Value) : Prop :=
 bumpK 2 h fun h =>
 ld1K t1 h fun t6 =>
 L (v251_l1 X L) ⟨(upds (argsEnv [t0, t1, t2, t3]) [(6, t6), (7, (.int .i64 0))]), []⟩ (blkX 0 (finX P X Tryz.f251 K)) h
theorem v251_eq (X : Caller) (L : Looper) (K : Value → AHeap → Prop) (h : AHeap) (t0 t1 t2 t3 : Value) : f251 X L K h t0 t1 t2 t3 = v251 X L K h t0 t1 t2 t3 := by
  unfold f251 v251
  simp only [rdK_rd', nilVK_eq, newVK_eq, boxVK_eq, pickVK_eq, extVK_eq, gF_rd, gF_some, gF_nil, gF_pick, gF_ext, bumpK_eq, regV_eq, ld1K_eq', ldNK_eq', binVK_eq', binCK_eq', binDK_eq', stVK_eq, fAddrK_eq', ixSK_eq', ixRK_eq', unVK_eq', opF_eq, v251_l1_eq, v251_l1_eq']
theorem w251_eq (X : Caller) (L : Looper) (K : Value → AHeap → Prop) (h : AHeap) (t0 t1 t2 t3 : Value) : aJob P X L (.call 251 [t0, t1, t2, t3]) K h = v251 X L K h t0 t1 t2 t3 := (f251_eq X L K h t0 t1 t2 t3).trans (v251_eq X L K h t0 t1 t2 t3)
def v252 (X : Caller) (L : Looper) (K : Value → AHeap → Prop) (h : AHeap) (t0 t1 t2 : Value) : Prop :=
 bumpK 1 h fun h =>
 regV 14 h fun b h =>
 binCK P .add 3 3 t2 (.int .i64 1) h fun t10 =>
 binVK P .mul 3 3 t2 t10 h fun t11 =>
 binCK P .quo 3 3 t11 (.int .i64 2) h fun t12 =>
 opF (convertA P 3 27 t12 (b + 6) h) fun t13 h =>
 binVK P .add 27 27 t0 t13 h fun t14 =>
 binCK P .sub 3 3 t1 (.int .i64 1) h fun t16 =>
 opF (convertA P 3 27 t16 (b + 10) h) fun t17 h =>
 binVK P .and 27 27 t14 t17 h fun t18 =>
 opF (convertA P 27 3 t18 (b + 12) h) fun t19 h =>
 K t19 h
theorem v252_eq (X : Caller) (L : Looper) (K : Value → AHeap → Prop) (h : AHeap) (t0 t1 t2 : Value) : f252 X L K h t0 t1 t2 = v252 X L K h t0 t1 t2 := by
  unfold f252 v252
  simp only [rdK_rd', nilVK_eq, newVK_eq, boxVK_eq, pickVK_eq, extVK_eq, gF_rd, gF_some, gF_nil, gF_pick, gF_ext, bumpK_eq, regV_eq, ld1K_eq', ldNK_eq', binVK_eq', binCK_eq', binDK_eq', stVK_eq, fAddrK_eq', ixSK_eq', ixRK_eq', unVK_eq', opF_eq]
theorem w252_eq (X : Caller) (L : Looper) (K : Value → AHeap → Prop) (h : AHeap) (t0 t1 t2 : Value) : aJob P X L (.call 252 [t0, t1, t2]) K h = v252 X L K h t0 t1 t2 := (f252_eq X L K h t0 t1 t2).trans (v252_eq X L K h t0 t1 t2)
def v253_l1 (X : Caller) (L : Looper) (a : AAct) (K : ActPost) (h : AHeap) : Prop :=
 bumpK 2 h fun h =>
 binCK P .neq 5 5 (a.env 3) (.int .u8 0) h fun t6 =>
 condK t6
 (bumpK 5 h fun h =>
 X (.call 247 [(a.env 3)]) (fun t13 h =>
 callV X (a.env 0) [t13] (fun t14 h =>
 unVK P .not 4 t14 fun t15 =>
 condK t15
 (K .ret ⟨(upds a.env [(5, (a.env 3)), (6, t6), (11, (a.env 0)), (12, (a.env 3)), (13, t13), (14, t14), (15, t15)]), a.defers⟩ h)
 (bumpK 5 h fun h =>
 binCK P .sub 5 5 (a.env 3) (.int .u8 1) h fun t9 =>
 binVK P .and 5 5 (a.env 3) t9 h fun t10 =>
 K .normal ⟨(upds a.env [(5, (a.env 3)), (6, t6), (11, (a.env 0)), (12, (a.env 3)), (13, t13), (14, t14), (15, t15), (7, (a.env 3)), (8, (a.env 3)), (9, t9), (10, t10), (3, t10)]), a.defers⟩ h)) h) h)
 (K (.exit 0) ⟨(upds a.env [(5, (a.env 3)), (6, t6)]), a.defers⟩ h)
theorem v253_l1_eq (X : Caller) (L : Looper) (a : AAct) (K : ActPost) (h : AHeap) : f253_l1 X L a K h = v253_l1 X L a K h := by
  unfold f253_l1 v253_l1
  simp only [rdK_rd', nilVK_eq, newVK_eq, boxVK_eq, pickVK_eq, extVK_eq, gF_rd, gF_some, gF_nil, gF_pick, gF_ext, bumpK_eq, regV_eq, ld1K_eq', ldNK_eq', binVK_eq', binCK_eq', binDK_eq', stVK_eq, fAddrK_eq', ixSK_eq', ixRK_eq', unVK_eq', opF_eq]
theorem v253_l1_eq' (X : Caller) (L : Looper) : f253_l1 X L = v253_l1 X L := by
  funext a K h; exact v253_l1_eq X L a K h
def v253 (X : Caller) (L : Looper) (K : Value → AHeap → Prop) (h : AHeap) (t0 t1 : Value) : Prop :=
 bumpK 2 h fun h =>
 ld1K t1 h fun t4 =>
 L (v253_l1 X L) ⟨(upds (argsEnv [t0, t1]) [(4, t4), (3, t4)]), []⟩ (blkX 0 (finX P X Tryz.f253 K)) h
theorem v253_eq (X : Caller) (L : Looper) (K : Value → AHeap → Prop) (h : AHeap) (t0 t1 : Value) : f253 X L K h t0 t1 = v253 X L K h t0 t1 := by
  unfold f253 v253
  simp only [rdK_rd', nilVK_eq, newVK_eq, boxVK_eq, pickVK_eq, extVK_eq, gF_rd, gF_some, gF_nil, gF_pick, gF_ext, bumpK_eq, regV_eq, ld1K_eq', ldNK_eq', binVK_eq', binCK_eq', binDK_eq', stVK_eq, fAddrK_eq', ixSK_eq', ixRK_eq', unVK_eq', opF_eq, v253_l1_eq, v253_l1_eq']
theorem w253_eq (X : Caller) (L : Looper) (K : Value → AHeap → Prop) (h : AHeap) (t0 t1 : Value) : aJob P X L (.call 253 [t0, t1]) K h = v253 X L K h t0 t1 := (f253_eq X L K h t0 t1).trans (v253_eq X L K h t0 t1)
def v254 (X : Caller) (L : Looper) (K : Value → AHeap → Prop) (h : AHeap) (t0 t1 : Value) : Prop :=
 bumpK 2 h fun h =>
 bumpK 4 h fun h =>
 X (.call 266 [t0, t1, (.int .i64 0)]) (fun t11 h =>
 bumpK 2 h fun h =>
 binCK P .neq 24 24 t11 (.int .i64 0) h fun t13 =>
 condK t13
 (bumpK 3 h fun h =>
  K (.tuple #[(.int .i64 0), t11]) h)
 (bumpK 11 h fun h =>
 nilVK t0 fun t17 =>
 fAddrK 0 t17 fun t18 =>
 ld1K t18 h fun t19 =>
 X (.call 173 [t19, t1]) (fun t21 h =>
 extVK 0 t21 fun t22 =>
 extVK 1 t21 fun t23 =>
 bumpK 2 h fun h =>
 binCK P .neq 24 24 t23 (.int .i64 0) h fun t25 =>
 condK t25
 (bumpK 2 h fun h =>
  K (.tuple #[(.int .i64 0), (.int .i64 9)]) h)
 (bumpK 3 h fun h =>
 K (.tuple #[t22, (.int .i64 0)]) h)) h)) h
theorem v254_eq (X : Caller) (L : Looper) (K : Value → AHeap → Prop) (h : AHeap) (t0 t1 : Value) : f254 X L K h t0 t1 = v254 X L K h t0 t1 := by
  unfold f254 v254
  simp only [rdK_rd', nilVK_eq, newVK_eq, boxVK_eq, pickVK_eq, extVK_eq, gF_rd, gF_some, gF_nil, gF_pick, gF_ext, bumpK_eq, regV_eq, ld1K_eq', ldNK_eq', binVK_eq', binCK_eq', binDK_eq', stVK_eq, fAddrK_eq', ixSK_eq', ixRK_eq', unVK_eq', opF_eq]
theorem w254_eq (X : Caller) (L : Looper) (K : Value → AHeap → Prop) (h : AHeap) (t0 t1 : Value) : aJob P X L (.call 254 [t0, t1]) K h = v254 X L K h t0 t1 := (f254_eq X L K h t0 t1).trans (v254_eq X L K h t0 t1)
def v255 (X : Caller) (L : Looper) (K : Value → AHeap → Prop) (h : AHeap) (t0 t1 : Value) : Prop :=
 bumpK 13 h fun h =>
 binCK P .quo 3 3 t1 (.int .i64 64) h fun t6 =>
 nilVK t0 fun t7 =>
 ixRK 4 1 t7 t6 fun t8 =>
 ld1K t8 h fun t9 =>
 binCK P .rem 3 3 t1 (.int .i64 64) h fun t11 =>
 binDK P .shl 27 3 (.int .u64 1) t11 h fun t12 =>
 binVK P .andNot 27 27 t9 t12 h fun t13 =>
 nilVK t0 fun t14 =>
 ixRK 4 1 t14 t6 fun t15 =>
 stVK 1 t15 t13 h fun h =>
 K (.tuple #[]) h
theorem v255_eq (X : Caller) (L : Looper) (K : Value → AHeap → Prop) (h : AHeap) (t0 t1 : Value) : f255 X L K h t0 t1 = v255 X L K h t0 t1 := by
  unfold f255 v255
  simp only [rdK_rd', nilVK_eq, newVK_eq, boxVK_eq, pickVK_eq, extVK_eq, gF_rd, gF_some, gF_nil, gF_pick, gF_ext, bumpK_eq, regV_eq, ld1K_eq', ldNK_eq', binVK_eq', binCK_eq', binDK_eq', stVK_eq, fAddrK_eq', ixSK_eq', ixRK_eq', unVK_eq', opF_eq]
theorem w255_eq (X : Caller) (L : Looper) (K : Value → AHeap → Prop) (h : AHeap) (t0 t1 : Value) : aJob P X L (.call 255 [t0, t1]) K h = v255 X L K h t0 t1 := (f255_eq X L K h t0 t1).trans (v255_eq X L K h t0 t1)
def v256 (X : Caller) (L : Looper) (K : Value → AHeap → Prop) (h : AHeap) (t0 : Value) : Prop :=
 bumpK 1 h fun h =>
 bumpK 7 h fun h =>
 X (.call 248 [t0]) (fun t4 h =>
 X (.call 212 [t0]) (fun t6 h =>
 binVK P .or 5 5 t4 t6 h fun t7 =>
 binCK P .eql 5 5 t7 (.int .u8 255) h fun t8 =>
 K t8 h) h) h
theorem v256_eq (X : Caller) (L : Looper) (K : Value → AHeap → Prop) (h : AHeap) (t0 : Value) : f256 X L K h t0 = v256 X L K h t0 := by
  unfold f256 v256
  simp only [rdK_rd', nilVK_eq, newVK_eq, boxVK_eq, pickVK_eq, extVK_eq, gF_rd, gF_some, gF_nil, gF_pick, gF_ext, bumpK_eq, regV_eq, ld1K_eq', ldNK_eq', binVK_eq', binCK_eq', binDK_eq', stVK_eq, fAddrK_eq', ixSK_eq', ixRK_eq', unVK_eq', opF_eq]
theorem w256_eq (X : Caller) (L : Looper) (K : Value → AHeap → Prop) (h : AHeap) (t0 : Value) : aJob P X L (.call 256 [t0]) K h = v256 X L K h t0 := (f256_eq X L K h t0).trans (v256_eq X L K h t0)
def v257 (X : Caller) (L : Looper) (K : Value → AHeap → Prop) (h : AHeap) (t0 : Value) : Prop :=
 bumpK 1 h fun h =>
 bumpK 4 h fun h =>
 binCK P .andNot 27 27 t0 (.int .u64 9187201950435737471) h fun t4 =>
 X (.call 258 [t4]) (fun t5 h =>
 K t5 h) h
theorem v257_eq (X : Caller) (L : Looper) (K : Value → AHeap → Prop) (h : AHeap) (t0 : Value) : f257 X L K h t0 = v257 X L K h t0 := by
  unfold f257 v257
  simp only [rdK_rd', nilVK_eq, newVK_eq, boxVK_eq, pickVK_eq, extVK_eq, gF_rd, gF_some, gF_nil, gF_pick, gF_ext, bumpK_eq, regV_eq, ld1K_eq', ldNK_eq', binVK_eq', binCK_eq', binDK_eq', stVK_eq, fAddrK_eq', ixSK_eq', ixRK_eq', unVK_eq', opF_eq]
theorem w257_eq (X : Caller) (L : Looper) (K : Value → AHeap → Prop) (h : AHeap) (t0 : Value) : aJob P X L (.call 257 [t0]) K h = v257 X L K h t0 := (f257_eq X L K h t0).trans (v257_eq X L K h t0)
def v258 (X : Caller) (L : Looper) (K : Value → AHeap → Prop) (h : AHeap) (t0 : Value) : Prop :=
 bumpK 1 h fun h =>
 regV 6 h fun b h =>
 binCK P .shr 27 316 t0 (.int .u64 7) h fun t4 =>
 binCK P .mul 27 27 t4 (.int .u64 72624976668147840) h fun t5 =>
 binCK P .shr 27 316 t5 (.int .u64 56) h fun t6 =>
 opF (convertA P 27 5 t6 (b + 4) h) fun t7 h =>
 K t7 h
theorem v258_eq (X : Caller) (L : Looper) (K : Value → AHeap → Prop) (h : AHeap) (t0 : Value) : f258 X L K h t0 = v258 X L K h t0 := by
  unfold f258 v258
  simp only [rdK_rd', nilVK_eq, newVK_eq, boxVK_eq, pickVK_eq, extVK_eq, gF_rd, gF_some, gF_nil, gF_pick, gF_ext, bumpK_eq, regV_eq, ld1K_eq', ldNK_eq', binVK_eq', binCK_eq', binDK_eq', stVK_eq, fAddrK_eq', ixSK_eq', ixRK_eq', unVK_eq', opF_eq]
theorem w258_eq (X : Caller) (L : Looper) (K : Value → AHeap → Prop) (h : AHeap) (t0 : Value) : aJob P X L (.call 258 [t0]) K h = v258 X L K h t0 := (f258_eq X L K h t0).trans (v258_eq X L K h t0)
def v259 (X : Caller) (L : Looper) (K : Value → AHeap → Prop) (h : AHeap) (t0 t1 : Value) : Prop :=
 bumpK 1 h fun h =>
 bumpK 3 h fun h =>
 X (.call 285 [t0]) (fun t7 h =>
 condK t7
 (bumpK 1 h fun h =>
  K (.int .i64 1) h)
 (regV 8 h fun b h =>
  opF (convertA P 81 3 t1 (b + 1) h) fun t10 h =>
  nilVK t0 fun t12 =>
  fAddrK 1 t12 fun t13 =>
  ld1K t13 h fun t14 =>
  binVK P .geq 3 3 t10 t14 h fun t15 =>
  condK t15
  (bumpK 1 h fun h =>
   K (.int .i64 2) h)
  (bumpK 1 h fun h =>
 K (.int .i64 0) h))) h
theorem v259_eq (X : Caller) (L : Looper) (K : Value → AHeap → Prop) (h : AHeap) (t0 t1 : Value) : f259 X L K h t0 t1 = v259 X L K h t0 t1 := by
  unfold f259 v259
  simp only [rdK_rd', nilVK_eq, newVK_eq, boxVK_eq, pickVK_eq, extVK_eq, gF_rd, gF_some, gF_nil, gF_pick, gF_ext, bumpK_eq, regV_eq, ld1K_eq', ldNK_eq', binVK_eq', binCK_eq', binDK_eq', stVK_eq, fAddrK_eq', ixSK_eq', ixRK_eq', unVK_eq', opF_eq]
theorem w259_eq (X : Caller) (L : Looper) (K : Value → AHeap → Prop) (h : AHeap) (t0 t1 : Value) : aJob P X L (.call 259 [t0, t1]) K h = v259 X L K h t0 t1 := (f259_eq X L K h t0 t1).trans (v259_eq X L K h t0 t1)
def v260 (X : Caller) (L : Looper) (K : Value → AHeap → Prop) (h : AHeap) (t0 : Value) : Prop :=
 bumpK 1 h fun h =>
 bumpK 2 h fun h =>
 X (.call 285 [t0]) (fun t4 h =>
 condK t4
 (bumpK 1 h fun h =>
  K (.int .i64 0) h)
 (bumpK 5 h fun h =>
 nilVK t0 fun t6 =>
 fAddrK 1 t6 fun t7 =>
 ld1K t7 h fun t8 =>
 K t8 h)) h
theorem v260_eq (X : Caller) (L : Looper) (K : Value → AHeap → Prop) (h : AHeap) (t0 : Value) : f260 X L K h t0 = v260 X L K h t0 := by
  unfold f260 v260
  simp only [rdK_rd', nilVK_eq, newVK_eq, boxVK_eq, pickVK_eq, extVK_eq, gF_rd, gF_some, gF_nil, gF_pick, gF_ext, bumpK_eq, regV_eq, ld1K_eq', ldNK_eq', binVK_eq', binCK_eq', binDK_eq', stVK_eq, fAddrK_eq', ixSK_eq', ixRK_eq', unVK_eq', opF_eq]
theorem w260_eq (X : Caller) (L : Looper) (K : Value → AHeap → Prop) (h : AHeap) (t0 : Value) : aJob P X L (.call 260 [t0]) K h = v260 X L K h t0 := (f260_eq X L K h t0).trans (v260_eq X L K h t0)
def v263_j13 (X : Caller) (L : Looper) (K : Value → AHeap → Prop) (h : AHeap) (t0 t2 t11 t45 t46 t47 t8 : Value) : Prop :=
 bumpK 4 h fun h =>
 X (.call 286 [t0, t2, t11]) (fun t48 h =>
 bumpK 1 h fun h =>
 K (.int .i64 0) h) h
theorem v263_j13_eq (X : Caller) (L : Looper) (K : Value → AHeap → Prop) (h : AHeap) (t0 t2 t11 t45 t46 t47 t8 : Value) : f263_j13 X L K h t0 t2 t11 t45 t46 t47 t8 = v263_j13 X L K h t0 t2 t11 t45 t46 t47 t8 := by
  unfold f263_j13 v263_j13
  simp only [rdK_rd', nilVK_eq, newVK_eq, boxVK_eq, pickVK_eq, extVK_eq, gF_rd, gF_some, gF_nil, gF_pick, gF_ext, bumpK_eq, regV_eq, ld1K_eq', ldNK_eq', binVK_eq', binCK_eq', binDK_eq', stVK_eq, fAddrK_eq', ixSK_eq', ixRK_eq', unVK_eq', opF_eq]
def v263 (X : Caller) (L : Looper) (K : Value → AHeap → Prop) (h : AHeap) (t0 t1 t2 t3 : Value) : Prop :=
 bumpK 1 h fun h =>
 bumpK 4 h fun h =>
 X (.call 264 [t0, t1]) (fun t14 h =>
 bumpK 2 h fun h =>
 binCK P .neq 24 24 t14 (.int .i64 0) h fun t16 =>
 condK t16
 (bumpK 2 h fun h =>
  K t14 h)
 (bumpK 4 h fun h =>
 X (.call 259 [t0, t2]) (fun t20 h =>
 bumpK 2 h fun h =>
 binCK P .neq 24 24 t20 (.int .i64 0) h fun t22 =>
 condK t22
 (bumpK 2 h fun h =>
  K t20 h)
 (bumpK 9 h fun h =>
 nilVK t0 fun t25 =>
 fAddrK 0 t25 fun t26 =>
 ld1K t26 h fun t27 =>
 ixSK 3 t27 t2 fun t29 =>
 fAddrK 2 t29 fun t30 =>
 ld1K t30 h fun t31 =>
 binCK P .neq 81 81 t31 (.int .u32 0) h fun t32 =>
 condK t32
 (bumpK 1 h fun h =>
  K (.int .i64 11) h)
 (bumpK 4 h fun h =>
 X (.call 178 [t1, t0]) (fun t35 h =>
 bumpK 1 h fun h =>
 condK t3
 (bumpK 9 h fun h =>
  nilVK t0 fun t38 =>
  fAddrK 0 t38 fun t39 =>
  ld1K t39 h fun t40 =>
  ixSK 3 t40 t35 fun t42 =>
  fAddrK 1 t42 fun t43 =>
  ld1K t43 h fun t44 =>
  v263_j13 X L K h t0 t2 t44 undef undef undef ((.int .i64 0)))
 (v263_j13 X L K h t0 t2 t35 undef undef undef ((.int .i64 0)))) h))) h)) h
theorem v263_eq (X : Caller) (L : Looper) (K : Value → AHeap → Prop) (h : AHeap) (t0 t1 t2 t3 : Value) : f263 X L K h t0 t1 t2 t3 = v263 X L K h t0 t1 t2 t3 := by
  unfold f263 v263
  simp only [rdK_rd', nilVK_eq, newVK_eq, boxVK_eq, pickVK_eq, extVK_eq, gF_rd, gF_some, gF_nil, gF_pick, gF_ext, bumpK_eq, regV_eq, ld1K_eq', ldNK_eq', binVK_eq', binCK_eq', binDK_eq', stVK_eq, fAddrK_eq', ixSK_eq', ixRK_eq', unVK_eq', opF_eq, v263_j13_eq]
theorem w263_eq (X : Caller) (L : Looper) (K : Value → AHeap → Prop) (h : AHeap) (t0 t1 t2 t3 : Value) : aJob P X L (.call 263 [t0, t1, t2, t3]) K h = v263 X L K h t0 t1 t2 t3 := (f263_eq X L K h t0 t1 t2 t3).trans (v263_eq X L K h t0 t1 t2 t3)
def v264 (X : Caller) (L : Looper) (K : Value → AHeap → Prop) (h : AHeap) (t0 t1 : Value) : Prop :=
 bumpK 1 h fun h =>
 bumpK 3 h fun h =>
 X (.call 285 [t0]) (fun t7 h =>
 condK t7
 (bumpK 1 h fun h =>
  K (.int .i64 1) h)
 (regV 12 h fun b h =>
  binCK P .lss 3 3 t1 (.int .i64 0) h fun t10 =>
  gF (wantV t10 false) (fun k => k t1) fun t12 =>
  gF (wantV t10 false) (fun k => k t0) fun t13 =>
  gF (wantV t10 false) (nilVK t13) fun t14 =>
  gF (wantV t10 false) (fAddrK 2 t14) fun t15 =>
  gF (wantV t10 false) (ld1K t15 h) fun t16 =>
  gopK (wantV t10 false) h (builtinV P .len [276] [t16] (b + 8) h) fun t17 h =>
  gF (wantV t10 false) (binVK P .geq 3 3 t12 t17 h) fun t18 =>
  pickVK t10 (.bool true) t18 fun t19 =>
  condK t19
  (bumpK 1 h fun h =>
   K (.int .i64 2) h)
  (bumpK 1 h fun h =>
 K (.int .i64 0) h))) h
theorem v264_eq (X : Caller) (L : Looper) (K : Value → AHeap → Prop) (h : AHeap) (t0 t1 : Value) : f264 X L K h t0 t1 = v264 X L K h t0 t1 := by
  unfold f264 v264
  simp only [rdK_rd', nilVK_eq, newVK_eq, boxVK_eq, pickVK_eq, extVK_eq, gF_rd, gF_some, gF_nil, gF_pick, gF_ext, bumpK_eq, regV_eq, ld1K_eq', ldNK_eq', binVK_eq', binCK_eq', binDK_eq', stVK_eq, fAddrK_eq', ixSK_eq', ixRK_eq', unVK_eq', opF_eq]
theorem w264_eq (X : Caller) (L : Looper) (K : Value → AHeap → Prop) (h : AHeap) (t0 t1 : Value) : aJob P X L (.call 264 [t0, t1]) K h = v264 X L K h t0 t1 := (f264_eq X L K h t0 t1).trans (v264_eq X L K h t0 t1)
def v266 (X : Caller) (L : Looper) (K : Value → AHeap → Prop) (h : AHeap) (t0 t1 t2 : Value) : Prop :=
 bumpK 1 h fun h =>
 bumpK 10 h fun h =>
 binCK P .eql 230 230 t0 (.pointer none) h fun t9 =>
 gF (wantV t9 false) (fun k => k t0) fun t11 =>
 gF (wantV t9 false) (nilVK t11) fun t12 =>
 gF (wantV t9 false) (fAddrK 0 t12) fun t13 =>
 gF (wantV t9 false) (ld1K t13 h) fun t14 =>
 gF (wantV t9 false) (binCK P .eql 215 215 t14 (.pointer none) h) fun t15 =>
 pickVK t9 (.bool true) t15 fun t16 =>
 condK t16
 (bumpK 1 h fun h =>
  K (.int .i64 1) h)
 (bumpK 11 h fun h =>
  binCK P .geq 81 81 t1 (.int .u32 4194304) h fun t19 =>
  gF (wantV t19 false) (fun k => k t2) fun t21 =>
  gF (wantV t19 false) (binCK P .lss 3 3 t21 (.int .i64 0) h) fun t22 =>
  pickVK t19 (.bool true) t22 fun t23 =>
  gF (wantV t23 false) (fun k => k t2) fun t25 =>
  gF (wantV t23 false) (binCK P .geq 3 3 t25 (.int .i64 256) h) fun t26 =>
  pickVK t23 (.bool true) t26 fun t27 =>
  condK t27
  (bumpK 1 h fun h =>
   K (.int .i64 2) h)
  (bumpK 1 h fun h =>
 K (.int .i64 0) h))
theorem v266_eq (X : Caller) (L : Looper) (K : Value → AHeap → Prop) (h : AHeap) (t0 t1 t2 : Value) : f266 X L K h t0 t1 t2 = v266 X L K h t0 t1 t2 := by
  unfold f266 v266
  simp only [rdK_rd', nilVK_eq, newVK_eq, boxVK_eq, pickVK_eq, extVK_eq, gF_rd, gF_some, gF_nil, gF_pick, gF_ext, bumpK_eq, regV_eq, ld1K_eq', ldNK_eq', binVK_eq', binCK_eq', binDK_eq', stVK_eq, fAddrK_eq', ixSK_eq', ixRK_eq', unVK_eq', opF_eq]
theorem w266_eq (X : Caller) (L : Looper) (K : Value → AHeap → Prop) (h : AHeap) (t0 t1 t2 : Value) : aJob P X L (.call 266 [t0, t1, t2]) K h = v266 X L K h t0 t1 t2 := (f266_eq X L K h t0 t1 t2).trans (v266_eq X L K h t0 t1 t2)
def v267_l4 (X : Caller) (L : Looper) (a : AAct) (K : ActPost) (h : AHeap) : Prop :=
 bumpK 2 h fun h =>
 binCK P .lss 3 3 (a.env 7) (.int .i64 4) h fun t15 =>
 condK t15
 (bumpK 8 h fun h =>
 nilVK (a.env 0) fun t20 =>
 ixRK 4 1 t20 (a.env 7) fun t21 =>
 ld1K t21 h fun t22 =>
 binVK P .and 27 27 t22 (a.env 6) h fun t24 =>
 bumpK 2 h fun h =>
 binCK P .neq 27 27 t24 (.int .u64 0) h fun t26 =>
 condK t26
 (bumpK 7 h fun h =>
  binDK P .mul 3 3 (.int .i64 64) (a.env 7) h fun t28 =>
  X (.call 287 [t24]) (fun t30 h =>
  binVK P .add 3 3 t28 t30 h fun t31 =>
  K .ret ⟨(upds a.env [(14, (a.env 7)), (15, t15), (18, (a.env 0)), (19, (a.env 7)), (20, t20), (21, t21), (22, t22), (23, (a.env 6)), (24, t24), (8, t24), (25, t24), (26, t26), (27, (a.env 7)), (28, t28), (29, t24), (30, t30), (31, t31), (4, t31), (5, (.bool true))]), a.defers⟩ h) h)
 (bumpK 1 h fun h =>
 bumpK 3 h fun h =>
 binCK P .add 3 3 (a.env 7) (.int .i64 1) h fun t17 =>
 K .normal ⟨(upds a.env [(14, (a.env 7)), (15, t15), (18, (a.env 0)), (19, (a.env 7)), (20, t20), (21, t21), (22, t22), (23, (a.env 6)), (24, t24), (8, t24), (25, t24), (26, t26), (6, (.int .u64 18446744073709551615)), (16, (a.env 7)), (17, t17), (7, t17)]), a.defers⟩ h))
 (K (.exit 0) ⟨(upds a.env [(14, (a.env 7)), (15, t15)]), a.defers⟩ h)
theorem v267_l4_eq (X : Caller) (L : Looper) (a : AAct) (K : ActPost) (h : AHeap) : f267_l4 X L a K h = v267_l4 X L a K h := by
  unfold f267_l4 v267_l4
  simp only [rdK_rd', nilVK_eq, newVK_eq, boxVK_eq, pickVK_eq, extVK_eq, gF_rd, gF_some, gF_nil, gF_pick, gF_ext, bumpK_eq, regV_eq, ld1K_eq', ldNK_eq', binVK_eq', binCK_eq', binDK_eq', stVK_eq, fAddrK_eq', ixSK_eq', ixRK_eq', unVK_eq', opF_eq]
theorem v267_l4_eq' (X : Caller) (L : Looper) : f267_l4 X L = v267_l4 X L := by
  funext a K h; exact v267_l4_eq X L a K h
def v267_j2 (X : Caller) (L : Looper) (K : Value → AHeap → Prop) (h : AHeap) (a : AAct) : Prop :=
 bumpK 2 h fun h =>
 leaveA P X Tryz.f267 ⟨(upds a.env [(4, (.int .i64 0)), (5, (.bool false))]), a.defers⟩ K a.defers h
theorem v267_j2_eq (X : Caller) (L : Looper) (K : Value → AHeap → Prop) (h : AHeap) (a : AAct) : f267_j2 X L K h a = v267_j2 X L K h a := by
  unfold f267_j2 v267_j2
  simp only [rdK_rd', nilVK_eq, newVK_eq, boxVK_eq, pickVK_eq, extVK_eq, gF_rd, gF_some, gF_nil, gF_pick, gF_ext, bumpK_eq, regV_eq, ld1K_eq', ldNK_eq', binVK_eq', binCK_eq', binDK_eq', stVK_eq, fAddrK_eq', ixSK_eq', ixRK_eq', unVK_eq', opF_eq, v267_l4_eq, v267_l4_eq']
def v267 (X : Caller) (L : Looper) (K : Value → AHeap → Prop) (h : AHeap) (t0 t1 : Value) : Prop :=
 bumpK 2 h fun h =>
 bumpK 4 h fun h =>
 binCK P .rem 3 3 t1 (.int .i64 64) h fun t10 =>
 binDK P .shl 27 3 (.int .u64 18446744073709551615) t10 h fun t11 =>
 bumpK 3 h fun h =>
 binCK P .quo 3 3 t1 (.int .i64 64) h fun t13 =>
 L (v267_l4 X L) ⟨(upds (argsEnv [t0, t1]) [(4, (.int .i64 0)), (5, (.bool false)), (9, t1), (10, t10), (11, t11), (6, t11), (12, t1), (13, t13), (7, t13)]), []⟩ (blkX 0 (seqX (fun a h => v267_j2 X L K h a) (finX P X Tryz.f267 K))) h
theorem v267_eq (X : Caller) (L : Looper) (K : Value → AHeap → Prop) (h : AHeap) (t0 t1 : Value) : f267 X L K h t0 t1 = v267 X L K h t0 t1 := by
  unfold f267 v267
  simp only [rdK_rd', nilVK_eq, newVK_eq, boxVK_eq, pickVK_eq, extVK_eq, gF_rd, gF_some, gF_nil, gF_pick, gF_ext, bumpK_eq, regV_eq, ld1K_eq', ldNK_eq', binVK_eq', binCK_eq', binDK_eq', stVK_eq, fAddrK_eq', ixSK_eq', ixRK_eq', unVK_eq', opF_eq, v267_l4_eq, v267_l4_eq', v267_j2_eq]
theorem w267_eq (X : Caller) (L : Looper) (K : Value → AHeap → Prop) (h : AHeap) (t0 t1 : Value) : aJob P X L (.call 267 [t0, t1]) K h = v267 X L K h t0 t1 := (f267_eq X L K h t0 t1).trans (v267_eq X L K h t0 t1)
def v268 (X : Caller) (L : Looper) (K : Value → AHeap → Prop) (h : AHeap) (t0 t1 : Value) : Prop :=
 bumpK 2 h fun h =>
 bumpK 4 h fun h =>
 X (.call 266 [t0, (.int .u32 0), t1]) (fun t9 h =>
 bumpK 2 h fun h =>
 binCK P .neq 24 24 t9 (.int .i64 0) h fun t11 =>
 condK t11
 (bumpK 3 h fun h =>
  K (.tuple #[(.slice none 0 0), t9]) h)
 (bumpK 9 h fun h =>
 nilVK t0 fun t14 =>
 fAddrK 0 t14 fun t15 =>
 ld1K t15 h fun t16 =>
 X (.call 192 [t16, t1]) (fun t18 h =>
 X (.call 288 [t18]) (fun t19 h =>
 K (.tuple #[t19, (.int .i64 0)]) h) h) h)) h
theorem v268_eq (X : Caller) (L : Looper) (K : Value → AHeap → Prop) (h : AHeap) (t0 t1 : Value) : f268 X L K h t0 t1 = v268 X L K h t0 t1 := by
  unfold f268 v268
  simp only [rdK_rd', nilVK_eq, newVK_eq, boxVK_eq, pickVK_eq, extVK_eq, gF_rd, gF_some, gF_nil, gF_pick, gF_ext, bumpK_eq, regV_eq, ld1K_eq', ldNK_eq', binVK_eq', binCK_eq', binDK_eq', stVK_eq, fAddrK_eq', ixSK_eq', ixRK_eq', unVK_eq', opF_eq]
theorem w268_eq (X : Caller) (L : Looper) (K : Value → AHeap → Prop) (h : AHeap) (t0 t1 : Value) : aJob P X L (.call 268 [t0, t1]) K h = v268 X L K h t0 t1 := (f268_eq X L K h t0 t1).trans (v268_eq X L K h t0 t1)
def v269_l6 (X : Caller) (L : Looper) (a : AAct) (K : ActPost) (h : AHeap) : Prop :=
 bumpK 1 h fun h =>
 binVK P .lss 3 3 (a.env 20) (a.env 19) h fun t21 =>
 condK t21
 (bumpK 2 h fun h =>
 regV 6 h fun b_3 h =>
 opF (convertA P 3 81 (a.env 20) (b_3 + 3) h) fun t26 h =>
 ixSK 1 (a.env 5) (a.env 20) fun t27 =>
 stVK 1 t27 t26 h fun h =>
 bumpK 2 h fun h =>
 binCK P .add 3 3 (a.env 20) (.int .i64 1) h fun t28 =>
 K .normal ⟨(upds a.env [(21, t21), (22, (a.env 20)), (6, (a.env 20)), (23, (a.env 5)), (24, (a.env 20)), (25, (a.env 20)), (26, t26), (27, t27), (28, t28), (20, t28)]), a.defers⟩ h)
 (K (.exit 0) ⟨(upds a.env [(21, t21)]), a.defers⟩ h)
theorem v269_l6_eq (X : Caller) (L : Looper) (a : AAct) (K : ActPost) (h : AHeap) : f269_l6 X L a K h = v269_l6 X L a K h := by
  unfold f269_l6 v269_l6
  simp only [rdK_rd', nilVK_eq, newVK_eq, boxVK_eq, pickVK_eq, extVK_eq, gF_rd, gF_some, gF_nil, gF_pick, gF_ext, bumpK_eq, regV_eq, ld1K_eq', ldNK_eq', binVK_eq', binCK_eq', binDK_eq', stVK_eq, fAddrK_eq', ixSK_eq', ixRK_eq', unVK_eq', opF_eq]
theorem v269_l6_eq' (X : Caller) (L : Looper) : f269_l6 X L = v269_l6 X L := by
  funext a K h; exact v269_l6_eq X L a K h
def v269_j4 (X : Caller) (L : Looper) (K : Value → AHeap → Prop) (h : AHeap) (a : AAct) : Prop :=
 regV 13 h fun b_4 h =>
 nilVK (a.env 0) fun t30 =>
 fAddrK 0 t30 fun t31 =>
 ld1K t31 h fun t32 =>
 binDK P .mul 3 3 (.int .i64 2) (a.env 4) h fun t35 =>
 opF (convertA P 81 3 (a.env 1) (b_4 + 8) h) fun t37 h =>
 binCK P .add 3 3 t37 (.int .i64 1) h fun t38 =>
 opF (builtinV P .max [3, 3] [t35, t38] (b_4 + 10) h) fun t39 h =>
 opF (builtinV P .min [3, 3] [(.int .i64 4194304), t39] (b_4 + 11) h) fun t40 h =>
 X (.call 261 [t32, (a.env 5), t40]) (fun t41 h =>
 leaveA P X Tryz.f269 ⟨(upds a.env [(29, (a.env 0)), (30, t30), (31, t31), (32, t32), (33, (a.env 5)), (34, (a.env 4)), (35, t35), (36, (a.env 1)), (37, t37), (38, t38), (39, t39), (40, t40), (41, t41)]), a.defers⟩ K a.defers h) h
theorem v269_j4_eq (X : Caller) (L : Looper) (K : Value → AHeap → Prop) (h : AHeap) (a : AAct) : f269_j4 X L K h a = v269_j4 X L K h a := by
  unfold f269_j4 v269_j4
  simp only [rdK_rd', nilVK_eq, newVK_eq, boxVK_eq, pickVK_eq, extVK_eq, gF_rd, gF_some, gF_nil, gF_pick, gF_ext, bumpK_eq, regV_eq, ld1K_eq', ldNK_eq', binVK_eq', binCK_eq', binDK_eq', stVK_eq, fAddrK_eq', ixSK_eq', ixRK_eq', unVK_eq', opF_eq, v269_l6_eq, v269_l6_eq']
def v269 (X : Caller) (L : Looper) (K : Value → AHeap → Prop) (h : AHeap) (t0 t1 : Value) : Prop :=
 bumpK 6 h fun h =>
 nilVK t0 fun t8 =>
 fAddrK 0 t8 fun t9 =>
 ld1K t9 h fun t10 =>
 X (.call 260 [t10]) (fun t11 h =>
 regV 4 h fun b h =>
 opF (convertA P 81 3 t1 (b + 1) h) fun t13 h =>
 binVK P .lss 3 3 t13 t11 h fun t15 =>
 condK t15
 (K (.tuple #[]) h)
 (regV 3 h fun b_1 h =>
 opF (makeSliceA P 143 t11 t11 (b_1 + 1) h) fun t17 h =>
 regV 3 h fun b_2 h =>
 opF (builtinV P .len [143] [t17] (b_2 + 1) h) fun t19 h =>
 L (v269_l6 X L) ⟨(upds (argsEnv [t0, t1]) [(7, t0), (8, t8), (9, t9), (10, t10), (11, t11), (4, t11), (12, t1), (13, t13), (14, t11), (15, t15), (16, t11), (17, t17), (5, t17), (18, t17), (19, t19), (20, (.int .i64 0))]), []⟩ (blkX 0 (seqX (fun a h => v269_j4 X L K h a) (finX P X Tryz.f269 K))) h)) h
theorem v269_eq (X : Caller) (L : Looper) (K : Value → AHeap → Prop) (h : AHeap) (t0 t1 : Value) : f269 X L K h t0 t1 = v269 X L K h t0 t1 := by
  unfold f269 v269
  simp only [rdK_rd', nilVK_eq, newVK_eq, boxVK_eq, pickVK_eq, extVK_eq, gF_rd, gF_some, gF_nil, gF_pick, gF_ext, bumpK_eq, regV_eq, ld1K_eq', ldNK_eq', binVK_eq', binCK_eq', binDK_eq', stVK_eq, fAddrK_eq', ixSK_eq', ixRK_eq', unVK_eq', opF_eq, v269_l6_eq, v269_l6_eq', v269_j4_eq]
theorem w269_eq (X : Caller) (L : Looper) (K : Value → AHeap → Prop) (h : AHeap) (t0 t1 : Value) : aJob P X L (.call 269 [t0, t1]) K h = v269 X L K h t0 t1 := (f269_eq X L K h t0 t1).trans (v269_eq X L K h t0 t1)
def v270 (X : Caller) (L : Looper) (K : Value → AHeap → Prop) (h : AHeap) (t0 t1 : Value) : Prop :=
 bumpK 13 h fun h =>
 binCK P .quo 3 3 t1 (.int .i64 64) h fun t6 =>
 nilVK t0 fun t7 =>
 ixRK 4 1 t7 t6 fun t8 =>
 ld1K t8 h fun t9 =>
 binCK P .rem 3 3 t1 (.int .i64 64) h fun t11 =>
 binDK P .shl 27 3 (.int .u64 1) t11 h fun t12 =>
 binVK P .or 27 27 t9 t12 h fun t13 =>
 nilVK t0 fun t14 =>
 ixRK 4 1 t14 t6 fun t15 =>
 stVK 1 t15 t13 h fun h =>
 K (.tuple #[]) h
theorem v270_eq (X : Caller) (L : Looper) (K : Value → AHeap → Prop) (h : AHeap) (t0 t1 : Value) : f270 X L K h t0 t1 = v270 X L K h t0 t1 := by
  unfold f270 v270
  simp only [rdK_rd', nilVK_eq, newVK_eq, boxVK_eq, pickVK_eq, extVK_eq, gF_rd, gF_some, gF_nil, gF_pick, gF_ext, bumpK_eq, regV_eq, ld1K_eq', ldNK_eq', binVK_eq', binCK_eq', binDK_eq', stVK_eq, fAddrK_eq', ixSK_eq', ixRK_eq', unVK_eq', opF_eq]
theorem w270_eq (X : Caller) (L : Looper) (K : Value → AHeap → Prop) (h : AHeap) (t0 t1 : Value) : aJob P X L (.call 270 [t0, t1]) K h = v270 X L K h t0 t1 := (f270_eq X L K h t0 t1).trans (v270_eq X L K h t0 t1)
def v271_l6 (X : Caller) (L : Looper) (a : AAct) (K : ActPost) (h : AHeap) : Prop :=
 bumpK 17 h fun h =>
 binVK P .gtr 3 3 (a.env 9) (a.env 1) h fun t20 =>
 gF (wantV t20 true) (fun k => k ((a.env 3))) fun t22 =>
 gF (wantV t20 true) (fun k => k ((a.env 0))) fun t23 =>
 gF (wantV t20 true) (fun k => k ((a.env 9))) fun t24 =>
 gF (wantV t20 true) (ixSK 3 t23 t24) fun t25 =>
 gF (wantV t20 true) (ldNK 3 t25 h) fun t26 =>
 gF (wantV t20 true) (fun k => k ((a.env 0))) fun t27 =>
 gF (wantV t20 true) (fun k => k ((a.env 9))) fun t28 =>
 gF (wantV t20 true) (binCK P .sub 3 3 t28 (.int .i64 1) h) fun t29 =>
 gF (wantV t20 true) (ixSK 3 t27 t29) fun t30 =>
 gF (wantV t20 true) (ldNK 3 t30 h) fun t31 =>
 gcallvK (wantV t20 true) X t22 [t26, t31] h fun t32 h =>
 gF (wantV t20 true) (binCK P .lss 3 3 t32 (.int .i64 0) h) fun t33 =>
 pickVK t20 t33 (.bool false) fun t34 =>
 condK t34
 (bumpK 18 h fun h =>
 binCK P .sub 3 3 (a.env 9) (.int .i64 1) h fun t41 =>
 binCK P .sub 3 3 (a.env 9) (.int .i64 1) h fun t44 =>
 ixSK 3 (a.env 0) t44 fun t45 =>
 ldNK 3 t45 h fun t46 =>
 ixSK 3 (a.env 0) (a.env 9) fun t49 =>
 ldNK 3 t49 h fun t50 =>
 ixSK 3 (a.env 0) (a.env 9) fun t51 =>
 stVK 3 t51 t46 h fun h =>
 ixSK 3 (a.env 0) t41 fun t52 =>
 stVK 3 t52 t50 h fun h =>
 bumpK 3 h fun h =>
 binCK P .sub 3 3 (a.env 9) (.int .i64 1) h fun t36 =>
 K .normal ⟨(upds a.env [(18, (a.env 9)), (19, (a.env 1)), (20, t20), (21, t20), (22, t22), (23, t23), (24, t24), (25, t25), (26, t26), (27, t27), (28, t28), (29, t29), (30, t30), (31, t31), (32, t32), (33, t33), (34, t34), (37, (a.env 0)), (38, (a.env 9)), (39, (a.env 0)), (40, (a.env 9)), (41, t41), (42, (a.env 0)), (43, (a.env 9)), (44, t44), (45, t45), (46, t46), (47, (a.env 0)), (48, (a.env 9)), (49, t49), (50, t50), (51, t51), (52, t52), (35, (a.env 9)), (36, t36), (9, t36)]), a.defers⟩ h)
 (K (.exit 2) ⟨(upds a.env [(18, (a.env 9)), (19, (a.env 1)), (20, t20), (21, t20), (22, t22), (23, t23), (24, t24), (25, t25), (26, t26), (27, t27), (28, t28), (29, t29), (30, t30), (31, t31), (32, t32), (33, t33), (34, t34)]), a.defers⟩ h)
theorem v271_l6_eq (X : Caller) (L : Looper) (a : AAct) (K : ActPost) (h : AHeap) : f271_l6 X L a K h = v271_l6 X L a K h := by
  unfold f271_l6 v271_l6
  simp only [rdK_rd', nilVK_eq, newVK_eq, boxVK_eq, pickVK_eq, extVK_eq, gF_rd, gF_some, gF_nil, gF_pick, gF_ext, bumpK_eq, regV_eq, ld1K_eq', ldNK_eq', binVK_eq', binCK_eq', binDK_eq', stVK_eq, fAddrK_eq', ixSK_eq', ixRK_eq', unVK_eq', opF_eq]
theorem v271_l6_eq' (X : Caller) (L : Looper) : f271_l6 X L = v271_l6 X L := by
  funext a K h; exact v271_l6_eq X L a K h
def v271_j4 (X : Caller) (L : Looper) (K : ActPost) (h : AHeap) (a : AAct) : Prop :=
 bumpK 3 h fun h =>
 binCK P .add 3 3 (a.env 8) (.int .i64 1) h fun t16 =>
 K .normal ⟨(upds a.env [(15, (a.env 8)), (16, t16), (8, t16)]), a.defers⟩ h
theorem v271_j4_eq (X : Caller) (L : Looper) (K : ActPost) (h : AHeap) (a : AAct) : f271_j4 X L K h a = v271_j4 X L K h a := by
  unfold f271_j4 v271_j4
  simp only [rdK_rd', nilVK_eq, newVK_eq, boxVK_eq, pickVK_eq, extVK_eq, gF_rd, gF_some, gF_nil, gF_pick, gF_ext, bumpK_eq, regV_eq, ld1K_eq', ldNK_eq', binVK_eq', binCK_eq', binDK_eq', stVK_eq, fAddrK_eq', ixSK_eq', ixRK_eq', unVK_eq', opF_eq, v271_l6_eq, v271_l6_eq']
def v271_l1 (X : Caller) (L : Looper) (a : AAct) (K : ActPost) (h : AHeap) : Prop :=
 bumpK 3 h fun h =>
 binVK P .lss 3 3 (a.env 8) (a.env 2) h fun t14 =>
 condK t14
 (bumpK 2 h fun h =>
 L (v271_l6 X L) ⟨(upds a.env [(12, (a.env 8)), (13, (a.env 2)), (14, t14), (17, (a.env 8)), (9, (a.env 8))]), a.defers⟩ (blkX 2 (blkX 1 (seqX (fun a h => v271_j4 X L K h a) K))) h)
 (K (.exit 0) ⟨(upds a.env [(12, (a.env 8)), (13, (a.env 2)), (14, t14)]), a.defers⟩ h)
theorem v271_l1_eq (X : Caller) (L : Looper) (a : AAct) (K : ActPost) (h : AHeap) : f271_l1 X L a K h = v271_l1 X L a K h := by
  unfold f271_l1 v271_l1
  simp only [rdK_rd', nilVK_eq, newVK_eq, boxVK_eq, pickVK_eq, extVK_eq, gF_rd, gF_some, gF_nil, gF_pick, gF_ext, bumpK_eq, regV_eq, ld1K_eq', ldNK_eq', binVK_eq', binCK_eq', binDK_eq', stVK_eq, fAddrK_eq', ixSK_eq', ixRK_eq', unVK_eq', opF_eq, v271_l6_eq, v271_l6_eq', v271_j4_eq]
theorem v271_l1_eq' (X : Caller) (L : Looper) : f271_l1 X L = v271_l1 X L := by
  funext a K h; exact v271_l1_eq X L a K h
def v271 (X : Caller) (L : Looper) (K : Value → AHeap → Prop) (h : AHeap) (t0 t1 t2 t3 : Value) : Prop :=
 bumpK 3 h fun h =>
 binCK P .add 3 3 t1 (.int .i64 1) h fun t11 =>
 L (v271_l1 X L) ⟨(upds (argsEnv [t0, t1, t2, t3]) [(10, t1), (11, t11), (8, t11)]), []⟩ (blkX 0 (finX P X Tryz.f271 K)) h
theorem v271_eq (X : Caller) (L : Looper) (K : Value → AHeap → Prop) (h : AHeap) (t0 t1 t2 t3 : Value) : f271 X L K h t0 t1 t2 t3 = v271 X L K h t0 t1 t2 t3 := by
  unfold f271 v271
  simp only [rdK_rd', nilVK_eq, newVK_eq, boxVK_eq, pickVK_eq, extVK_eq, gF_rd, gF_some, gF_nil, gF_pick, gF_ext, bumpK_eq, regV_eq, ld1K_eq', ldNK_eq', binVK_eq', binCK_eq', binDK_eq', stVK_eq, fAddrK_eq', ixSK_eq', ixRK_eq', unVK_eq', opF_eq, v271_l6_eq, v271_l6_eq', v271_j4_eq, v271_l1_eq, v271_l1_eq']
theorem w271_eq (X : Caller) (L : Looper) (K : Value → AHeap → Prop) (h : AHeap) (t0 t1 t2 t3 : Value) : aJob P X L (.call 271 [t0, t1, t2, t3]) K h = v271 X L K h t0 t1 t2 t3 := (f271_eq X L K h t0 t1 t2 t3).trans (v271_eq X L K h t0 t1 t2 t3)
def v280_l3 (X : Caller) (L : Looper) (a : AAct) (K : ActPost) (h : AHeap) : Prop :=
 bumpK 1 h fun h =>
 binVK P .lss 3 3 (a.env 8) (a.env 7) h fun t9 =>
 condK t9
 (bumpK 2 h fun h =>
 bumpK 6 h fun h =>
 ixSK 2 (a.env 0) (a.env 8) fun t14 =>
 ldNK 2 t14 h fun t15 =>
 callV X (a.env 1) [t15] (fun t16 h =>
 condK t16
 (bumpK 2 h fun h =>
  K .ret ⟨(upds a.env [(9, t9), (10, (a.env 8)), (5, (a.env 8)), (11, (a.env 1)), (12, (a.env 0)), (13, (a.env 8)), (14, t14), (15, t15), (16, t16), (17, (a.env 8)), (4, (a.env 8))]), a.defers⟩ h)
 (bumpK 2 h fun h =>
 binCK P .add 3 3 (a.env 8) (.int .i64 1) h fun t18 =>
 K .normal ⟨(upds a.env [(9, t9), (10, (a.env 8)), (5, (a.env 8)), (11, (a.env 1)), (12, (a.env 0)), (13, (a.env 8)), (14, t14), (15, t15), (16, t16), (18, t18), (8, t18)]), a.defers⟩ h)) h)
 (K (.exit 0) ⟨(upds a.env [(9, t9)]), a.defers⟩ h)
theorem v280_l3_eq (X : Caller) (L : Looper) (a : AAct) (K : ActPost) (h : AHeap) : f280_l3 X L a K h = v280_l3 X L a K h := by
  unfold f280_l3 v280_l3
  simp only [rdK_rd', nilVK_eq, newVK_eq, boxVK_eq, pickVK_eq, extVK_eq, gF_rd, gF_some, gF_nil, gF_pick, gF_ext, bumpK_eq, regV_eq, ld1K_eq', ldNK_eq', binVK_eq', binCK_eq', binDK_eq', stVK_eq, fAddrK_eq', ixSK_eq', ixRK_eq', unVK_eq', opF_eq]
theorem v280_l3_eq' (X : Caller) (L : Looper) : f280_l3 X L = v280_l3 X L := by
  funext a K h; exact v280_l3_eq X L a K h
def v280_j1 (X : Caller) (L : Looper) (K : Value → AHeap → Prop) (h : AHeap) (a : AAct) : Prop :=
 bumpK 1 h fun h =>
 leaveA P X Tryz.f280 ⟨(upds a.env [(4, (.int .i64 (-1)))]), a.defers⟩ K a.defers h
theorem v280_j1_eq (X : Caller) (L : Looper) (K : Value → AHeap → Prop) (h : AHeap) (a : AAct) : f280_j1 X L K h a = v280_j1 X L K h a := by
  unfold f280_j1 v280_j1
  simp only [rdK_rd', nilVK_eq, newVK_eq, boxVK_eq, pickVK_eq, extVK_eq, gF_rd, gF_some, gF_nil, gF_pick, gF_ext, bumpK_eq, regV_eq, ld1K_eq', ldNK_eq', binVK_eq', binCK_eq', binDK_eq', stVK_eq, fAddrK_eq', ixSK_eq', ixRK_eq', unVK_eq', opF_eq, v280_l3_eq, v280_l3_eq']
def v280 (X : Caller) (L : Looper) (K : Value → AHeap → Prop) (h : AHeap) (t0 t1 : Value) : Prop :=
 bumpK 1 h fun h =>
 regV 3 h fun b h =>
 opF (builtinV P .len [178] [t0] (b + 1) h) fun t7 h =>
 L (v280_l3 X L) ⟨(upds (argsEnv [t0, t1]) [(4, (.int .i64 0)), (6, t0), (7, t7), (8, (.int .i64 0))]), []⟩ (blkX 0 (seqX (fun a h => v280_j1 X L K h a) (finX P X Tryz.f280 K))) h
theorem v280_eq (X : Caller) (L : Looper) (K : Value → AHeap → Prop) (h : AHeap) (t0 t1 : Value) : f280 X L K h t0 t1 = v280 X L K h t0 t1 := by
  unfold f280 v280
  simp only [rdK_rd', nilVK_eq, newVK_eq, boxVK_eq, pickVK_eq, extVK_eq, gF_rd, gF_some, gF_nil, gF_pick, gF_ext, bumpK_eq, regV_eq, ld1K_eq', ldNK_eq', binVK_eq', binCK_eq', binDK_eq', stVK_eq, fAddrK_eq', ixSK_eq', ixRK_eq', unVK_eq', opF_eq, v280_l3_eq, v280_l3_eq', v280_j1_eq]
theorem w280_eq (X : Caller) (L : Looper) (K : Value → AHeap → Prop) (h : AHeap) (t0 t1 : Value) : aJob P X L (.call 280 [t0, t1]) K h = v280 X L K h t0 t1 := (f280_eq X L K h t0 t1).trans (v280_eq X L K h t0 t1)
def v284 (X : Caller) (L : Looper) (K : Value → AHeap → Prop) (h : AHeap) (t0 : Value) : Prop :=
 bumpK 1 h fun h =>
 regV 4 h fun b h =>
 rd' (indexA P 9 (.string ⟨#[8, 0, 1, 0, 2, 0, 1, 0, 3, 0, 1, 0, 2, 0, 1, 0, 4, 0, 1, 0, 2, 0, 1, 0, 3, 0, 1, 0, 2, 0, 1, 0, 5, 0, 1, 0, 2, 0, 1, 0, 3, 0, 1, 0, 2, 0, 1, 0, 4, 0, 1, 0, 2, 0, 1, 0, 3, 0, 1, 0, 2, 0, 1, 0, 6, 0, 1, 0, 2, 0, 1, 0, 3, 0, 1, 0, 2, 0, 1, 0, 4, 0, 1, 0, 2, 0, 1, 0, 3, 0, 1, 0, 2, 0, 1, 0, 5, 0, 1, 0, 2, 0, 1, 0, 3, 0, 1, 0, 2, 0, 1, 0, 4, 0, 1, 0, 2, 0, 1, 0, 3, 0, 1, 0, 2, 0, 1, 0, 7, 0, 1, 0, 2, 0, 1, 0, 3, 0, 1, 0, 2, 0, 1, 0, 4, 0, 1, 0, 2, 0, 1, 0, 3, 0, 1, 0, 2, 0, 1, 0, 5, 0, 1, 0, 2, 0, 1, 0, 3, 0, 1, 0, 2, 0, 1, 0, 4, 0, 1, 0, 2, 0, 1, 0, 3, 0, 1, 0, 2, 0, 1, 0, 6, 0, 1, 0, 2, 0, 1, 0, 3, 0, 1, 0, 2, 0, 1, 0, 4, 0, 1, 0, 2, 0, 1, 0, 3, 0, 1, 0, 2, 0, 1, 0, 5, 0, 1, 0, 2, 0, 1, 0, 3, 0, 1, 0, 2, 0, 1, 0, 4, 0, 1, 0, 2, 0, 1, 0, 3, 0, 1, 0, 2, 0, 1, 0]⟩) t0) fun t4 =>
 opF (convertA P 5 3 t4 (b + 2) h) fun t5 h =>
 K t5 h
theorem v284_eq (X : Caller) (L : Looper) (K : Value → AHeap → Prop) (h : AHeap) (t0 : Value) : f284 X L K h t0 = v284 X L K h t0 := by
  unfold f284 v284
  simp only [rdK_rd', nilVK_eq, newVK_eq, boxVK_eq, pickVK_eq, extVK_eq, gF_rd, gF_some, gF_nil, gF_pick, gF_ext, bumpK_eq, regV_eq, ld1K_eq', ldNK_eq', binVK_eq', binCK_eq', binDK_eq', stVK_eq, fAddrK_eq', ixSK_eq', ixRK_eq', unVK_eq', opF_eq]
theorem w284_eq (X : Caller) (L : Looper) (K : Value → AHeap → Prop) (h : AHeap) (t0 : Value) : aJob P X L (.call 284 [t0]) K h = v284 X L K h t0 := (f284_eq X L K h t0).trans (v284_eq X L K h t0)
def v285 (X : Caller) (L : Looper) (K : Value → AHeap → Prop) (h : AHeap) (t0 : Value) : Prop :=
 bumpK 1 h fun h =>
 bumpK 10 h fun h =>
 binCK P .eql 215 215 t0 (.pointer none) h fun t4 =>
 gF (wantV t4 false) (fun k => k t0) fun t6 =>
 gF (wantV t4 false) (nilVK t6) fun t7 =>
 gF (wantV t4 false) (fAddrK 0 t7) fun t8 =>
 gF (wantV t4 false) (ld1K t8 h) fun t9 =>
 gF (wantV t4 false) (binCK P .eql 275 275 t9 (.slice none 0 0) h) fun t10 =>
 pickVK t4 (.bool true) t10 fun t11 =>
 K t11 h
theorem v285_eq (X : Caller) (L : Looper) (K : Value → AHeap → Prop) (h : AHeap) (t0 : Value) : f285 X L K h t0 = v285 X L K h t0 := by
  unfold f285 v285
  simp only [rdK_rd', nilVK_eq, newVK_eq, boxVK_eq, pickVK_eq, extVK_eq, gF_rd, gF_some, gF_nil, gF_pick, gF_ext, bumpK_eq, regV_eq, ld1K_eq', ldNK_eq', binVK_eq', binCK_eq', binDK_eq', stVK_eq, fAddrK_eq', ixSK_eq', ixRK_eq', unVK_eq', opF_eq]
theorem w285_eq (X : Caller) (L : Looper) (K : Value → AHeap → Prop) (h : AHeap) (t0 : Value) : aJob P X L (.call 285 [t0]) K h = v285 X L K h t0 := (f285_eq X L K h t0).trans (v285_eq X L K h t0)
def v286 (X : Caller) (L : Looper) (K : Value → AHeap → Prop) (h : AHeap) (t0 t1 t2 : Value) : Prop :=
 bumpK 9 h fun h =>
 nilVK t0 fun t8 =>
 fAddrK 0 t8 fun t9 =>
 ld1K t9 h fun t10 =>
 ixSK 3 t10 t2 fun t12 =>
 fAddrK 0 t12 fun t13 =>
 ld1K t13 h fun t14 =>
 bumpK 18 h fun h =>
 nilVK t0 fun t16 =>
 fAddrK 0 t16 fun t17 =>
 ld1K t17 h fun t18 =>
 nilVK t0 fun t23 =>
 fAddrK 0 t23 fun t24 =>
 ld1K t24 h fun t25 =>
 ixSK 3 t25 t2 fun t27 =>
 fAddrK 2 t27 fun t28 =>
 ld1K t28 h fun t29 =>
 rd' (buildA P 282 [(0, t14), (1, t2), (2, t29)]) fun t30 =>
 ixSK 3 t18 t1 fun t31 =>
 stVK 3 t31 t30 h fun h =>
 bumpK 18 h fun h =>
 nilVK t0 fun t33 =>
 fAddrK 0 t33 fun t34 =>
 ld1K t34 h fun t35 =>
 nilVK t0 fun t38 =>
 fAddrK 0 t38 fun t39 =>
 ld1K t39 h fun t40 =>
 ixSK 3 t35 t14 fun t44 =>
 fAddrK 1 t44 fun t45 =>
 stVK 1 t45 t1 h fun h =>
 ixSK 3 t40 t2 fun t46 =>
 fAddrK 0 t46 fun t47 =>
 stVK 1 t47 t1 h fun h =>
 bumpK 18 h fun h =>
 nilVK t0 fun t49 =>
 fAddrK 2 t49 fun t50 =>
 ld1K t50 h fun t51 =>
 nilVK t0 fun t53 =>
 fAddrK 0 t53 fun t54 =>
 ld1K t54 h fun t55 =>
 ixSK 3 t55 t1 fun t57 =>
 fAddrK 2 t57 fun t58 =>
 ld1K t58 h fun t59 =>
 binCK P .sub 81 81 t59 (.int .u32 1) h fun t60 =>
 ixSK 1 t51 t60 fun t61 =>
 ld1K t61 h fun t62 =>
 binCK P .add 3 3 t62 (.int .i64 1) h fun t63 =>
 ixSK 1 t51 t60 fun t64 =>
 stVK 1 t64 t63 h fun h =>
 K (.tuple #[]) h
theorem v286_eq (X : Caller) (L : Looper) (K : Value → AHeap → Prop) (h : AHeap) (t0 t1 t2 : Value) : f286 X L K h t0 t1 t2 = v286 X L K h t0 t1 t2 := by
  unfold f286 v286
  simp only [rdK_rd', nilVK_eq, newVK_eq, boxVK_eq, pickVK_eq, extVK_eq, gF_rd, gF_some, gF_nil, gF_pick, gF_ext, bumpK_eq, regV_eq, ld1K_eq', ldNK_eq', binVK_eq', binCK_eq', binDK_eq', stVK_eq, fAddrK_eq', ixSK_eq', ixRK_eq', unVK_eq', opF_eq]
theorem w286_eq (X : Caller) (L : Looper) (K : Value → AHeap → Prop) (h : AHeap) (t0 t1 t2 : Value) : aJob P X L (.call 286 [t0, t1, t2]) K h = v286 X L K h t0 t1 t2 := (f286_eq X L K h t0 t1 t2).trans (v286_eq X L K h t0 t1 t2)
def v287 (X : Caller) (L : Looper) (K : Value → AHeap → Prop) (h : AHeap) (t0 : Value) : Prop :=
 bumpK 1 h fun h =>
 bumpK 2 h fun h =>
 binCK P .eql 27 27 t0 (.int .u64 0) h fun t4 =>
 condK t4
 (bumpK 1 h fun h =>
  K (.int .i64 64) h)
 (regV 10 h fun b h =>
 unVK P .neg 27 t0 fun t7 =>
 binVK P .and 27 27 t0 t7 h fun t8 =>
 binCK P .mul 27 27 t8 (.int .u64 285870213051353865) h fun t9 =>
 binCK P .shr 27 316 t9 (.int .u64 58) h fun t10 =>
 ixRK 64 1 (.pointer (some ⟨0, 0, none⟩)) t10 fun t11 =>
 ld1K t11 h fun t12 =>
 opF (convertA P 5 3 t12 (b + 8) h) fun t13 h =>
 K t13 h)
theorem v287_eq (X : Caller) (L : Looper) (K : Value → AHeap → Prop) (h : AHeap) (t0 : Value) : f287 X L K h t0 = v287 X L K h t0 := by
  unfold f287 v287
  simp only [rdK_rd', nilVK_eq, newVK_eq, boxVK_eq, pickVK_eq, extVK_eq, gF_rd, gF_some, gF_nil, gF_pick, gF_ext, bumpK_eq, regV_eq, ld1K_eq', ldNK_eq', binVK_eq', binCK_eq', binDK_eq', stVK_eq, fAddrK_eq', ixSK_eq', ixRK_eq', unVK_eq', opF_eq]
theorem w287_eq (X : Caller) (L : Looper) (K : Value → AHeap → Prop) (h : AHeap) (t0 : Value) : aJob P X L (.call 287 [t0]) K h = v287 X L K h t0 := (f287_eq X L K h t0).trans (v287_eq X L K h t0)

def v288 (X : Caller) (L : Looper) (K : Value → AHeap → Prop) (h : AHeap) (t0 : Value) : Prop :=
 bumpK 1 h fun h =>
 bumpK 3 h fun h =>
 X (.call 294 [(.slice none 0 0), t0]) (fun t4 h =>
 K t4 h) h
theorem v288_eq (X : Caller) (L : Looper) (K : Value → AHeap → Prop) (h : AHeap) (t0 : Value) : f288 X L K h t0 = v288 X L K h t0 := by
  unfold f288 v288
  simp only [rdK_rd', nilVK_eq, newVK_eq, boxVK_eq, pickVK_eq, extVK_eq, gF_rd, gF_some, gF_nil, gF_pick, gF_ext, bumpK_eq, regV_eq, ld1K_eq', ldNK_eq', binVK_eq', binCK_eq', binDK_eq', stVK_eq, fAddrK_eq', ixSK_eq', ixRK_eq', unVK_eq', opF_eq]
theorem w288_eq (X : Caller) (L : Looper) (K : Value → AHeap → Prop) (h : AHeap) (t0 : Value) : aJob P X L (.call 288 [t0]) K h = v288 X L K h t0 := (f288_eq X L K h t0).trans (v288_eq X L K h t0)
def v294_j1 (X : Caller) (L : Looper) (K : Value → AHeap → Prop) (h : AHeap) (a : AAct) : Prop :=
 bumpK 2 h fun h =>
 ld1K (a.env 2) h fun t12 =>
 leaveA P X Tryz.f294 ⟨(upds a.env [(12, t12), (4, t12)]), a.defers⟩ K a.defers h
theorem v294_j1_eq (X : Caller) (L : Looper) (K : Value → AHeap → Prop) (h : AHeap) (a : AAct) : f294_j1 X L K h a = v294_j1 X L K h a := by
  unfold f294_j1 v294_j1
  simp only [rdK_rd', nilVK_eq, newVK_eq, boxVK_eq, pickVK_eq, extVK_eq, gF_rd, gF_some, gF_nil, gF_pick, gF_ext, bumpK_eq, regV_eq, ld1K_eq', ldNK_eq', binVK_eq', binCK_eq', binDK_eq', stVK_eq, fAddrK_eq', ixSK_eq', ixRK_eq', unVK_eq', opF_eq]
def v294 (X : Caller) (L : Looper) (K : Value → AHeap → Prop) (h : AHeap) (t0 t1 : Value) : Prop :=
 regV 2 h fun b h =>
 boxVK t0 (b + 0) h fun t2 h =>
 bumpK 1 h fun h =>
 rangeK X t1 ⟨(upds (argsEnv [t0, t1]) [(2, t2), (4, (.slice none 0 0)), (6, t1)]), []⟩ [7] f294_ca0 f294_cb0 (blkX 0 (seqX (fun a h => v294_j1 X L K h a) (finX P X Tryz.f294 K))) h
theorem v294_eq (X : Caller) (L : Looper) (K : Value → AHeap → Prop) (h : AHeap) (t0 t1 : Value) : f294 X L K h t0 t1 = v294 X L K h t0 t1 := by
  unfold f294 v294
  simp only [rdK_rd', nilVK_eq, newVK_eq, boxVK_eq, pickVK_eq, extVK_eq, gF_rd, gF_some, gF_nil, gF_pick, gF_ext, bumpK_eq, regV_eq, ld1K_eq', ldNK_eq', binVK_eq', binCK_eq', binDK_eq', stVK_eq, fAddrK_eq', ixSK_eq', ixRK_eq', unVK_eq', opF_eq, v294_j1_eq]
theorem w294_eq (X : Caller) (L : Looper) (K : Value → AHeap → Prop) (h : AHeap) (t0 t1 : Value) : aJob P X L (.call 294 [t0, t1]) K h = v294 X L K h t0 t1 := (f294_eq X L K h t0 t1).trans (v294_eq X L K h t0 t1)
end Go.Proofs.YtdlnbmadifgbkaaGreatDoor.F
