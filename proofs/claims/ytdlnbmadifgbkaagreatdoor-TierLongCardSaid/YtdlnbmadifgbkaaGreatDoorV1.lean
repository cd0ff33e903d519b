/- The functions of the program, as texts that the kernel reckons out (printed by a program of this place). -/
import Derived.Test.YtdlnbmadifgbkaaGreatDoorXX
import Derived.Test.YtdlnbmadifgbkaaGreatDoorCubV
namespace Go.Proofs.YtdlnbmadifgbkaaGreatDoor.F
set_option linter.unusedVariables false
set_option linter.unusedSimpArgs false
open Go Go.Cub
set_option maxRecDepth 100000
def v86 (X : Caller) (L : Looper) (K : Value → AHeap → Prop) (h : AHeap) (t0 : Value) : Prop :=
 bumpK 1 h fun h =>
 bumpK 3 h fun h =>
 X (.call 134 [t0, (.int .u32 0)]) (fun t4 h =>
 binCK P .neq 24 24 t4 (.int .i64 0) h fun t5 =>
 condK t5
 (bumpK 1 h fun h =>
  K (.int .u64 0) h)
 (bumpK 5 h fun h =>
 nilVK t0 fun t7 =>
 fAddrK 0 t7 fun t8 =>
 ld1K t8 h fun t9 =>
 K t9 h)) h
theorem v86_eq (X : Caller) (L : Looper) (K : Value → AHeap → Prop) (h : AHeap) (t0 : Value) : f86 X L K h t0 = v86 X L K h t0 := by
  unfold f86 v86
  simp only [rdK_rd', nilVK_eq, newVK_eq, boxVK_eq, pickVK_eq, extVK_eq, gF_rd, gF_some, gF_nil, gF_pick, gF_ext, bumpK_eq, regV_eq, ld1K_eq', ldNK_eq', binVK_eq', binCK_eq', binDK_eq', stVK_eq, fAddrK_eq', ixSK_eq', ixRK_eq', unVK_eq', opF_eq]
theorem w86_eq (X : Caller) (L : Looper) (K : Value → AHeap → Prop) (h : AHeap) (t0 : Value) : aJob P X L (.call 86 [t0]) K h = v86 X L K h t0 := (f86_eq X L K h t0).trans (v86_eq X L K h t0)
def v87_l7 (X : Caller) (L : Looper) (a : AAct) (K : ActPost) (h : AHeap) : Prop :=
 bumpK 1 h fun h =>
 binVK P .lss 3 3 (a.env 29) (a.env 28) h fun t30 =>
 condK t30
 (regV 4 h fun b_1 h =>
 ixSK 3 (a.env 27) (a.env 29) fun t31 =>
 ldNK 3 t31 h fun t32 =>
 newVK [.int .u32 0, .int .u64 0, .int .u64 0] (b_1 + 2) h fun t8 h =>
 stVK 3 t8 t32 h fun h =>
 bumpK 3 h fun h =>
 ldNK 3 t8 h fun t34 =>
 X (.call 112 [(a.env 0), t34]) (fun t35 h =>
 bumpK 2 h fun h =>
 binCK P .add 3 3 (a.env 29) (.int .i64 1) h fun t36 =>
 K .normal ⟨(upds a.env [(30, t30), (31, t31), (32, t32), (8, t8), (33, (a.env 0)), (34, t34), (35, t35), (36, t36), (29, t36)]), a.defers⟩ h) h)
 (K (.exit 0) ⟨(upds a.env [(30, t30)]), a.defers⟩ h)
theorem v87_l7_eq (X : Caller) (L : Looper) (a : AAct) (K : ActPost) (h : AHeap) : f87_l7 X L a K h = v87_l7 X L a K h := by
  unfold f87_l7 v87_l7
  simp only [rdK_rd', nilVK_eq, newVK_eq, boxVK_eq, pickVK_eq, extVK_eq, gF_rd, gF_some, gF_nil, gF_pick, gF_ext, bumpK_eq, regV_eq, ld1K_eq', ldNK_eq', binVK_eq', binCK_eq', binDK_eq', stVK_eq, fAddrK_eq', ixSK_eq', ixRK_eq', unVK_eq', opF_eq]
theorem v87_l7_eq' (X : Caller) (L : Looper) : f87_l7 X L = v87_l7 X L := by
  funext a K h; exact v87_l7_eq X L a K h
def v87_j5 (X : Caller) (L : Looper) (K : Value → AHeap → Prop) (h : AHeap) (a : AAct) : Prop :=
 bumpK 2 h fun h =>
 leaveA P X Tryz.f87 ⟨(upds a.env [(37, (a.env 5)), (4, (a.env 5))]), a.defers⟩ K a.defers h
theorem v87_j5_eq (X : Caller) (L : Looper) (K : Value → AHeap → Prop) (h : AHeap) (a : AAct) : f87_j5 X L K h a = v87_j5 X L K h a := by
  unfold f87_j5 v87_j5
  simp only [rdK_rd', nilVK_eq, newVK_eq, boxVK_eq, pickVK_eq, extVK_eq, gF_rd, gF_some, gF_nil, gF_pick, gF_ext, bumpK_eq, regV_eq, ld1K_eq', ldNK_eq', binVK_eq', binCK_eq', binDK_eq', stVK_eq, fAddrK_eq', ixSK_eq', ixRK_eq', unVK_eq', opF_eq, v87_l7_eq, v87_l7_eq']
def v87 (X : Caller) (L : Looper) (K : Value → AHeap → Prop) (h : AHeap) (t0 t1 : Value) : Prop :=
 bumpK 1 h fun h =>
 bumpK 3 h fun h =>
 X (.call 85 [t0, (.int .u32 0)]) (fun t10 h =>
 binCK P .neq 24 24 t10 (.int .i64 0) h fun t11 =>
 condK t11
 (bumpK 1 h fun h =>
  K (.slice none 0 0) h)
 (bumpK 17 h fun h =>
 nilVK t0 fun t14 =>
 fAddrK 0 t14 fun t15 =>
 ld1K t15 h fun t16 =>
 nilVK t0 fun t18 =>
 fAddrK 0 t18 fun t19 =>
 ld1K t19 h fun t20 =>
 X (.call 86 [t20]) (fun t21 h =>
 chkK (chkR ((ld1 t15 h).map (·, h)) t16 true) <|
 X (.call 26 [t21, t1]) (fun t23 h =>
 chkK (chkR ((ld1 t15 h).map (·, h)) t16 true) <|
 X (.call 135 [t16, t23]) (fun t24 h =>
 extVK 0 t24 fun t25 =>
 extVK 1 t24 fun t26 =>
 regV 3 h fun b h =>
 opF (builtinV P .len [171] [t25] (b + 1) h) fun t28 h =>
 L (v87_l7 X L) ⟨(upds (argsEnv [t0, t1]) [(4, (.slice none 0 0)), (9, t0), (10, t10), (11, t11), (13, t0), (14, t14), (15, t15), (16, t16), (17, t0), (18, t18), (19, t19), (20, t20), (22, t1), (21, t21), (23, t23), (24, t24), (12, t24), (25, t25), (26, t26), (5, t25), (6, t26), (27, t25), (28, t28), (29, (.int .i64 0))]), []⟩ (blkX 0 (seqX (fun a h => v87_j5 X L K h a) (finX P X Tryz.f87 K))) h) h) h) h)) h
theorem v87_eq (X : Caller) (L : Looper) (K : Value → AHeap → Prop) (h : AHeap) (t0 t1 : Value) : f87 X L K h t0 t1 = v87 X L K h t0 t1 := by
  unfold f87 v87
  simp only [rdK_rd', nilVK_eq, newVK_eq, boxVK_eq, pickVK_eq, extVK_eq, gF_rd, gF_some, gF_nil, gF_pick, gF_ext, bumpK_eq, regV_eq, ld1K_eq', ldNK_eq', binVK_eq', binCK_eq', binDK_eq', stVK_eq, fAddrK_eq', ixSK_eq', ixRK_eq', unVK_eq', opF_eq, v87_l7_eq, v87_l7_eq', v87_j5_eq]
theorem w87_eq (X : Caller) (L : Looper) (K : Value → AHeap → Prop) (h : AHeap) (t0 t1 : Value) : aJob P X L (.call 87 [t0, t1]) K h = v87 X L K h t0 t1 := (f87_eq X L K h t0 t1).trans (v87_eq X L K h t0 t1)
def v88 (X : Caller) (L : Looper) (K : Value → AHeap → Prop) (h : AHeap) (t0 : Value) : Prop :=
 bumpK 2 h fun h =>
 bumpK 2 h fun h =>
 X (.call 136 [t0]) (fun t6 h =>
 condK t6
 (K (.tuple #[(.int .i64 0), (.int .i64 0)]) h)
 (regV 27 h fun b h =>
 nilVK t0 fun t8 =>
 fAddrK 2 t8 fun t9 =>
 ixRK 2 2 t9 (.int .i64 0) fun t10 =>
 ldNK 2 t10 h fun t11 =>
 nilVK t0 fun t13 =>
 fAddrK 2 t13 fun t14 =>
 ixRK 2 2 t14 (.int .i64 1) fun t15 =>
 ldNK 2 t15 h fun t16 =>
 nilVK t0 fun t19 =>
 fAddrK 0 t19 fun t20 =>
 fAddrK 0 t20 fun t21 =>
 ld1K t21 h fun t22 =>
 unVK P .neg 3 t22 fun t23 =>
 nilVK t0 fun t25 =>
 fAddrK 0 t25 fun t26 =>
 fAddrK 1 t26 fun t27 =>
 ld1K t27 h fun t28 =>
 unVK P .neg 3 t28 fun t29 =>
 rd' (buildA P 150 [(0, t23), (1, t29)]) fun t30 =>
 newVK [.int .i64 0, .int .i64 0] (b + 25) h fun t4 h =>
 X (.call 111 [t11, t16]) (fun t17 h =>
 chkK (chkR ((ld1 t27 h).map (·, h)) t28 (chkR ((ld1 t21 h).map (·, h)) t22 true)) <|
 X (.call 111 [t17, t30]) (fun t31 h =>
 stVK 2 t4 t31 h fun h =>
 regV 8 h fun b_1 h =>
 fAddrK 0 t4 fun t32 =>
 ld1K t32 h fun t33 =>
 opF (builtinV P .max [3, 3] [(.int .i64 0), t33] (b_1 + 2) h) fun t34 h =>
 fAddrK 1 t4 fun t35 =>
 ld1K t35 h fun t36 =>
 opF (builtinV P .max [3, 3] [(.int .i64 0), t36] (b_1 + 5) h) fun t37 h =>
 K (.tuple #[t34, t37]) h) h) h)) h
theorem v88_eq (X : Caller) (L : Looper) (K : Value → AHeap → Prop) (h : AHeap) (t0 : Value) : f88 X L K h t0 = v88 X L K h t0 := by
  unfold f88 v88
  simp only [rdK_rd', nilVK_eq, newVK_eq, boxVK_eq, pickVK_eq, extVK_eq, gF_rd, gF_some, gF_nil, gF_pick, gF_ext, bumpK_eq, regV_eq, ld1K_eq', ldNK_eq', binVK_eq', binCK_eq', binDK_eq', stVK_eq, fAddrK_eq', ixSK_eq', ixRK_eq', unVK_eq', opF_eq]
theorem w88_eq (X : Caller) (L : Looper) (K : Value → AHeap → Prop) (h : AHeap) (t0 : Value) : aJob P X L (.call 88 [t0]) K h = v88 X L K h t0 := (f88_eq X L K h t0).trans (v88_eq X L K h t0)
def v89 (X : Caller) (L : Looper) (K : Value → AHeap → Prop) (h : AHeap) (t0 t1 t2 t3 t4 : Value) : Prop :=
 bumpK 2 h fun h =>
 regV 10 h fun b h =>
 X (.call 137 [t0, t1, t2]) (fun t18 h =>
 extVK 0 t18 fun t19 =>
 extVK 1 t18 fun t20 =>
 newVK [.slice none 0 0, .int .u32 0] (b + 7) h fun t12 h =>
 stVK 2 t12 t19 h fun h =>
 bumpK 10 h fun h =>
 binCK P .neq 24 24 t20 (.int .i64 0) h fun t22 =>
 gF (wantV t22 false) (fun k => k t3) fun t24 =>
 gF (wantV t22 false) (binCK P .lss 3 3 t24 (.int .i64 0) h) fun t25 =>
 pickVK t22 (.bool true) t25 fun t26 =>
 gF (wantV t26 false) (fun k => k t4) fun t28 =>
 gF (wantV t26 false) (binCK P .lss 3 3 t28 (.int .i64 0) h) fun t29 =>
 pickVK t26 (.bool true) t29 fun t30 =>
 condK t30
 (bumpK 2 h fun h =>
  K (.tuple #[(.slice none 0 0), (.int .i64 2)]) h)
 (bumpK 6 h fun h =>
 ldNK 2 t12 h fun t31 =>
 X (.call 138 [t31, t3, t4]) (fun t34 h =>
 K (.tuple #[t34, (.int .i64 0)]) h) h)) h
theorem v89_eq (X : Caller) (L : Looper) (K : Value → AHeap → Prop) (h : AHeap) (t0 t1 t2 t3 t4 : Value) : f89 X L K h t0 t1 t2 t3 t4 = v89 X L K h t0 t1 t2 t3 t4 := by
  unfold f89 v89
  simp only [rdK_rd', nilVK_eq, newVK_eq, boxVK_eq, pickVK_eq, extVK_eq, gF_rd, gF_some, gF_nil, gF_pick, gF_ext, bumpK_eq, regV_eq, ld1K_eq', ldNK_eq', binVK_eq', binCK_eq', binDK_eq', stVK_eq, fAddrK_eq', ixSK_eq', ixRK_eq', unVK_eq', opF_eq]
theorem w89_eq (X : Caller) (L : Looper) (K : Value → AHeap → Prop) (h : AHeap) (t0 t1 t2 t3 t4 : Value) : aJob P X L (.call 89 [t0, t1, t2, t3, t4]) K h = v89 X L K h t0 t1 t2 t3 t4 := (f89_eq X L K h t0 t1 t2 t3 t4).trans (v89_eq X L K h t0 t1 t2 t3 t4)
def v90_j5 (X : Caller) (L : Looper) (K : Value → AHeap → Prop) (h : AHeap) (a : AAct) : Prop :=
 bumpK 2 h fun h =>
 ld1K (a.env 5) h fun t30 =>
 leaveA P X Tryz.f90 ⟨(upds a.env [(30, t30), (4, t30)]), a.defers⟩ K a.defers h
theorem v90_j5_eq (X : Caller) (L : Looper) (K : Value → AHeap → Prop) (h : AHeap) (a : AAct) : f90_j5 X L K h a = v90_j5 X L K h a := by
  unfold f90_j5 v90_j5
  simp only [rdK_rd', nilVK_eq, newVK_eq, boxVK_eq, pickVK_eq, extVK_eq, gF_rd, gF_some, gF_nil, gF_pick, gF_ext, bumpK_eq, regV_eq, ld1K_eq', ldNK_eq', binVK_eq', binCK_eq', binDK_eq', stVK_eq, fAddrK_eq', ixSK_eq', ixRK_eq', unVK_eq', opF_eq]
def v90 (X : Caller) (L : Looper) (K : Value → AHeap → Prop) (h : AHeap) (t0 t1 : Value) : Prop :=
 regV 2 h fun b h =>
 boxVK t0 (b + 0) h fun t2 h =>
 bumpK 4 h fun h =>
 ld1K t2 h fun t7 =>
 X (.call 139 [t7, t1]) (fun t9 h =>
 unVK P .not 4 t9 fun t10 =>
 condK t10
 (bumpK 1 h fun h =>
  K (.slice none 0 0) h)
 (regV 1 h fun b_1 h =>
 newVK [.slice none 0 0] (b_1 + 0) h fun t5 h =>
 bumpK 7 h fun h =>
 ld1K t2 h fun t11 =>
 nilVK t11 fun t13 =>
 fAddrK 0 t13 fun t14 =>
 ixRK 2 1 t14 t1 fun t15 =>
 ld1K t15 h fun t16 =>
 X (.call 140 [t16]) (fun t17 h =>
 rangeK X t17 ⟨(upds (argsEnv [t0, t1]) [(2, t2), (4, (.slice none 0 0)), (7, t7), (8, t1), (9, t9), (10, t10), (5, t5), (11, t11), (12, t1), (13, t13), (14, t14), (15, t15), (16, t16), (17, t17)]), []⟩ [18] f90_ca0 f90_cb0 (blkX 0 (seqX (fun a h => v90_j5 X L K h a) (finX P X Tryz.f90 K))) h) h)) h
theorem v90_eq (X : Caller) (L : Looper) (K : Value → AHeap → Prop) (h : AHeap) (t0 t1 : Value) : f90 X L K h t0 t1 = v90 X L K h t0 t1 := by
  unfold f90 v90
  simp only [rdK_rd', nilVK_eq, newVK_eq, boxVK_eq, pickVK_eq, extVK_eq, gF_rd, gF_some, gF_nil, gF_pick, gF_ext, bumpK_eq, regV_eq, ld1K_eq', ldNK_eq', binVK_eq', binCK_eq', binDK_eq', stVK_eq, fAddrK_eq', ixSK_eq', ixRK_eq', unVK_eq', opF_eq, v90_j5_eq]
theorem w90_eq (X : Caller) (L : Looper) (K : Value → AHeap → Prop) (h : AHeap) (t0 t1 : Value) : aJob P X L (.call 90 [t0, t1]) K h = v90 X L K h t0 t1 := (f90_eq X L K h t0 t1).trans (v90_eq X L K h t0 t1)
def v91 (X : Caller) (L : Looper) (K : Value → AHeap → Prop) (h : AHeap) (t0 : Value) : Prop :=
 bumpK 3 h fun h =>
 bumpK 2 h fun h =>
 X (.call 73 [t0]) (fun t6 h =>
 condK t6
 (bumpK 3 h fun h =>
  K (.tuple #[(.int .i64 0), (.int .i64 0), (.int .i64 0)]) h)
 (bumpK 19 h fun h =>
 nilVK t0 fun t8 =>
 fAddrK 0 t8 fun t9 =>
 fAddrK 0 t9 fun t10 =>
 ld1K t10 h fun t11 =>
 nilVK t0 fun t14 =>
 fAddrK 3 t14 fun t15 =>
 ld1K t15 h fun t16 =>
 nilVK t0 fun t19 =>
 fAddrK 3 t19 fun t20 =>
 ld1K t20 h fun t21 =>
 X (.call 141 [t11]) (fun t12 h =>
 chkK (chkR ((ld1 t20 h).map (·, h)) t21 (chkR ((ld1 t15 h).map (·, h)) t16 true)) <|
 X (.call 118 [t16]) (fun t17 h =>
 chkK (chkR ((ld1 t20 h).map (·, h)) t21 true) <|
 X (.call 120 [t21]) (fun t22 h =>
 K (.tuple #[t12, t17, t22]) h) h) h) h)) h
theorem v91_eq (X : Caller) (L : Looper) (K : Value → AHeap → Prop) (h : AHeap) (t0 : Value) : f91 X L K h t0 = v91 X L K h t0 := by
  unfold f91 v91
  simp only [rdK_rd', nilVK_eq, newVK_eq, boxVK_eq, pickVK_eq, extVK_eq, gF_rd, gF_some, gF_nil, gF_pick, gF_ext, bumpK_eq, regV_eq, ld1K_eq', ldNK_eq', binVK_eq', binCK_eq', binDK_eq', stVK_eq, fAddrK_eq', ixSK_eq', ixRK_eq', unVK_eq', opF_eq]
theorem w91_eq (X : Caller) (L : Looper) (K : Value → AHeap → Prop) (h : AHeap) (t0 : Value) : aJob P X L (.call 91 [t0]) K h = v91 X L K h t0 := (f91_eq X L K h t0).trans (v91_eq X L K h t0)
def v92 (X : Caller) (L : Looper) (K : Value → AHeap → Prop) (h : AHeap) (t0 t1 : Value) : Prop :=
 bumpK 1 h fun h =>
 bumpK 15 h fun h =>
 binCK P .geq 3 3 t1 (.int .i64 0) h fun t6 =>
 gF (wantV t6 true) (fun k => k t0) fun t8 =>
 gF (wantV t6 true) (binCK P .gtr 3 3 t8 (.int .i64 16) h) fun t9 =>
 pickVK t6 t9 (.bool false) fun t10 =>
 gF (wantV t10 true) (fun k => k t1) fun t12 =>
 gF (wantV t10 true) (fun k => k t0) fun t13 =>
 gF (wantV t10 true) (binCK P .sub 3 3 t13 (.int .i64 16) h) fun t14 =>
 gF (wantV t10 true) (binCK P .sub 3 3 t14 (.int .i64 1) h) fun t15 =>
 gF (wantV t10 true) (binCK P .quo 3 3 t15 (.int .i64 2) h) fun t16 =>
 gF (wantV t10 true) (binVK P .leq 3 3 t12 t16 h) fun t17 =>
 pickVK t10 t17 (.bool false) fun t18 =>
 K t18 h
theorem v92_eq (X : Caller) (L : Looper) (K : Value → AHeap → Prop) (h : AHeap) (t0 t1 : Value) : f92 X L K h t0 t1 = v92 X L K h t0 t1 := by
  unfold f92 v92
  simp only [rdK_rd', nilVK_eq, newVK_eq, boxVK_eq, pickVK_eq, extVK_eq, gF_rd, gF_some, gF_nil, gF_pick, gF_ext, bumpK_eq, regV_eq, ld1K_eq', ldNK_eq', binVK_eq', binCK_eq', binDK_eq', stVK_eq, fAddrK_eq', ixSK_eq', ixRK_eq', unVK_eq', opF_eq]
theorem w92_eq (X : Caller) (L : Looper) (K : Value → AHeap → Prop) (h : AHeap) (t0 t1 : Value) : aJob P X L (.call 92 [t0, t1]) K h = v92 X L K h t0 t1 := (f92_eq X L K h t0 t1).trans (v92_eq X L K h t0 t1)
def v94 (X : Caller) (L : Looper) (K : Value → AHeap → Prop) (h : AHeap) (t0 : Value) : Prop :=
 bumpK 1 h fun h =>
 bumpK 10 h fun h =>
 binCK P .eql 88 88 t0 (.pointer none) h fun t4 =>
 gF (wantV t4 false) (fun k => k t0) fun t6 =>
 gF (wantV t4 false) (nilVK t6) fun t7 =>
 gF (wantV t4 false) (fAddrK 9 t7) fun t8 =>
 gF (wantV t4 false) (ld1K t8 h) fun t9 =>
 gF (wantV t4 false) (unVK P .not 4 t9) fun t10 =>
 pickVK t4 (.bool true) t10 fun t11 =>
 K t11 h
theorem v94_eq (X : Caller) (L : Looper) (K : Value → AHeap → Prop) (h : AHeap) (t0 : Value) : f94 X L K h t0 = v94 X L K h t0 := by
  unfold f94 v94
  simp only [rdK_rd', nilVK_eq, newVK_eq, boxVK_eq, pickVK_eq, extVK_eq, gF_rd, gF_some, gF_nil, gF_pick, gF_ext, bumpK_eq, regV_eq, ld1K_eq', ldNK_eq', binVK_eq', binCK_eq', binDK_eq', stVK_eq, fAddrK_eq', ixSK_eq', ixRK_eq', unVK_eq', opF_eq]
theorem w94_eq (X : Caller) (L : Looper) (K : Value → AHeap → Prop) (h : AHeap) (t0 : Value) : aJob P X L (.call 94 [t0]) K h = v94 X L K h t0 := (f94_eq X L K h t0).trans (v94_eq X L K h t0)
def v95 (X : Caller) (L : Looper) (K : Value → AHeap → Prop) (h : AHeap) (t0 t1 : Value) : Prop :=
 bumpK 2 h fun h =>
 bumpK 4 h fun h =>
 X (.call 147 [t0, t1, (.int .u64 1)]) (fun t9 h =>
 bumpK 2 h fun h =>
 binCK P .neq 24 24 t9 (.int .i64 0) h fun t11 =>
 condK t11
 (bumpK 3 h fun h =>
  K (.tuple #[(.int .i64 0), t9]) h)
 (regV 8 h fun b h =>
 opF (builtinV P .len [9] [t0] (b + 1) h) fun t14 h =>
 opF (builtinV P .len [34] [t1] (b + 3) h) fun t16 h =>
 binVK P .add 3 3 t14 t16 h fun t17 =>
 binCK P .add 3 3 t17 (.int .i64 48) h fun t18 =>
 K (.tuple #[t18, (.int .i64 0)]) h)) h
theorem v95_eq (X : Caller) (L : Looper) (K : Value → AHeap → Prop) (h : AHeap) (t0 t1 : Value) : f95 X L K h t0 t1 = v95 X L K h t0 t1 := by
  unfold f95 v95
  simp only [rdK_rd', nilVK_eq, newVK_eq, boxVK_eq, pickVK_eq, extVK_eq, gF_rd, gF_some, gF_nil, gF_pick, gF_ext, bumpK_eq, regV_eq, ld1K_eq', ldNK_eq', binVK_eq', binCK_eq', binDK_eq', stVK_eq, fAddrK_eq', ixSK_eq', ixRK_eq', unVK_eq', opF_eq]
theorem w95_eq (X : Caller) (L : Looper) (K : Value → AHeap → Prop) (h : AHeap) (t0 t1 : Value) : aJob P X L (.call 95 [t0, t1]) K h = v95 X L K h t0 t1 := (f95_eq X L K h t0 t1).trans (v95_eq X L K h t0 t1)
def v96 (X : Caller) (L : Looper) (K : Value → AHeap → Prop) (h : AHeap) (t0 : Value) : Prop :=
 bumpK 1 h fun h =>
 bumpK 2 h fun h =>
 X (.call 148 [t0]) (fun t4 h =>
 condK t4
 (bumpK 1 h fun h =>
  K (.int .u64 0) h)
 (bumpK 5 h fun h =>
 nilVK t0 fun t6 =>
 fAddrK 1 t6 fun t7 =>
 ld1K t7 h fun t8 =>
 K t8 h)) h
theorem v96_eq (X : Caller) (L : Looper) (K : Value → AHeap → Prop) (h : AHeap) (t0 : Value) : f96 X L K h t0 = v96 X L K h t0 := by
  unfold f96 v96
  simp only [rdK_rd', nilVK_eq, newVK_eq, boxVK_eq, pickVK_eq, extVK_eq, gF_rd, gF_some, gF_nil, gF_pick, gF_ext, bumpK_eq, regV_eq, ld1K_eq', ldNK_eq', binVK_eq', binCK_eq', binDK_eq', stVK_eq, fAddrK_eq', ixSK_eq', ixRK_eq', unVK_eq', opF_eq]
theorem w96_eq (X : Caller) (L : Looper) (K : Value → AHeap → Prop) (h : AHeap) (t0 : Value) : aJob P X L (.call 96 [t0]) K h = v96 X L K h t0 := (f96_eq X L K h t0).trans (v96_eq X L K h t0)
def v97 (X : Caller) (L : Looper) (K : Value → AHeap → Prop) (h : AHeap) (t0 t1 t2 t3 t4 : Value) : Prop :=
 bumpK 1 h fun h =>
 bumpK 12 h fun h =>
 ld1K t0 h fun t14 =>
 nilVK t14 fun t15 =>
 fAddrK 0 t15 fun t16 =>
 fAddrK 0 t16 fun t17 =>
 ld1K t17 h fun t18 =>
 ld1K t1 h fun t19 =>
 X (.call 66 [t18, t19]) (fun t20 h =>
 extVK 0 t20 fun t21 =>
 extVK 1 t20 fun t22 =>
 bumpK 3 h fun h =>
 ld1K t2 h fun t23 =>
 callV X t23 [] (fun t24 h =>
 bumpK 2 h fun h =>
 binCK P .eql 24 24 t22 (.int .i64 0) h fun t26 =>
 condK t26
 (regV 13 h fun b h =>
  ld1K t0 h fun t28 =>
  nilVK t28 fun t29 =>
  fAddrK 0 t29 fun t30 =>
  fAddrK 0 t30 fun t31 =>
  ld1K t31 h fun t32 =>
  X (.call 37 [t32, t21]) (fun t34 h =>
  extVK 0 t34 fun t35 =>
  extVK 1 t34 fun t36 =>
  newVK [.string ⟨#[]⟩, .slice none 0 0, .int .u64 0, .int .u64 0] (b + 10) h fun t9 h =>
  stVK 4 t9 t35 h fun h =>
  bumpK 3 h fun h =>
  ld1K t0 h fun t37 =>
  ldNK 4 t9 h fun t38 =>
  X (.call 72 [t37, (.int .i64 3), t38]) (fun t39 h =>
  bumpK 9 h fun h =>
  ld1K t0 h fun t40 =>
  nilVK t40 fun t41 =>
  fAddrK 0 t41 fun t42 =>
  fAddrK 0 t42 fun t43 =>
  ld1K t43 h fun t44 =>
  ld1K t3 h fun t46 =>
  X (.call 98 [t44, t21, t46, t24]) (fun t48 h =>
  bumpK 10 h fun h =>
  ld1K t0 h fun t49 =>
  nilVK t49 fun t50 =>
  fAddrK 0 t50 fun t51 =>
  fAddrK 4 t51 fun t52 =>
  ld1K t52 h fun t53 =>
  fAddrK 3 t9 fun t56 =>
  ld1K t56 h fun t57 =>
  X (.call 99 [t53, t21, t24, t57]) (fun t58 h =>
  bumpK 4 h fun h =>
  ld1K t0 h fun t59 =>
  ld1K t4 h fun t61 =>
  X (.call 39 [t59, t21, t61]) (fun t62 h =>
  bumpK 2 h fun h =>
  K t21 h) h) h) h) h) h)
 (bumpK 11 h fun h =>
 ld1K t0 h fun t65 =>
 nilVK t65 fun t66 =>
 fAddrK 0 t66 fun t67 =>
 fAddrK 1 t67 fun t68 =>
 ld1K t68 h fun t69 =>
 X (.call 100 [t69]) (fun t70 h =>
 extVK 0 t70 fun t71 =>
 extVK 1 t70 fun t72 =>
 bumpK 15 h fun h =>
 ld1K t0 h fun t74 =>
 nilVK t74 fun t75 =>
 fAddrK 0 t75 fun t76 =>
 fAddrK 0 t76 fun t77 =>
 ld1K t77 h fun t78 =>
 ld1K t1 h fun t79 =>
 ld1K t3 h fun t80 =>
 rd' (buildA P 59 [(0, t79), (1, t80), (2, t24), (3, t71)]) fun t83 =>
 X (.call 101 [t78, t83]) (fun t84 h =>
 extVK 0 t84 fun t85 =>
 extVK 1 t84 fun t86 =>
 bumpK 9 h fun h =>
 ld1K t0 h fun t87 =>
 nilVK t87 fun t88 =>
 fAddrK 0 t88 fun t89 =>
 fAddrK 4 t89 fun t90 =>
 ld1K t90 h fun t91 =>
 X (.call 99 [t91, t85, t24, t71]) (fun t95 h =>
 bumpK 8 h fun h =>
 ld1K t0 h fun t96 =>
 nilVK t96 fun t97 =>
 fAddrK 0 t97 fun t98 =>
 fAddrK 2 t98 fun t99 =>
 ld1K t99 h fun t100 =>
 ld1K t4 h fun t102 =>
 X (.call 102 [t100, t85, t102]) (fun t103 h =>
 bumpK 7 h fun h =>
 ld1K t0 h fun t104 =>
 nilVK t104 fun t105 =>
 fAddrK 0 t105 fun t106 =>
 fAddrK 3 t106 fun t107 =>
 ld1K t107 h fun t108 =>
 ld1K t4 h fun t109 =>
 X (.call 78 [t108, (.int .i64 0), t109]) (fun t110 h =>
 bumpK 2 h fun h =>
 K t85 h) h) h) h) h) h)) h) h
theorem v97_eq (X : Caller) (L : Looper) (K : Value → AHeap → Prop) (h : AHeap) (t0 t1 t2 t3 t4 : Value) : f97 X L K h t0 t1 t2 t3 t4 = v97 X L K h t0 t1 t2 t3 t4 := by
  unfold f97 v97
  simp only [rdK_rd', nilVK_eq, newVK_eq, boxVK_eq, pickVK_eq, extVK_eq, gF_rd, gF_some, gF_nil, gF_pick, gF_ext, bumpK_eq, regV_eq, ld1K_eq', ldNK_eq', binVK_eq', binCK_eq', binDK_eq', stVK_eq, fAddrK_eq', ixSK_eq', ixRK_eq', unVK_eq', opF_eq]
theorem w97_eq (X : Caller) (L : Looper) (K : Value → AHeap → Prop) (h : AHeap) (t0 t1 t2 t3 t4 : Value) : aJob P X L (.call 97 [t0, t1, t2, t3, t4]) K h = v97 X L K h t0 t1 t2 t3 t4 := (f97_eq X L K h t0 t1 t2 t3 t4).trans (v97_eq X L K h t0 t1 t2 t3 t4)
def v98 (X : Caller) (L : Looper) (K : Value → AHeap → Prop) (h : AHeap) (t0 t1 t2 t3 : Value) : Prop :=
 bumpK 1 h fun h =>
 bumpK 2 h fun h =>
 X (.call 73 [t0]) (fun t10 h =>
 condK t10
 (bumpK 1 h fun h =>
  K (.int .i64 1) h)
 (bumpK 10 h fun h =>
 nilVK t0 fun t12 =>
 fAddrK 0 t12 fun t13 =>
 fAddrK 0 t13 fun t14 =>
 ld1K t14 h fun t15 =>
 X (.call 149 [t15, t1, t2, t3]) (fun t19 h =>
 K t19 h) h)) h
theorem v98_eq (X : Caller) (L : Looper) (K : Value → AHeap → Prop) (h : AHeap) (t0 t1 t2 t3 : Value) : f98 X L K h t0 t1 t2 t3 = v98 X L K h t0 t1 t2 t3 := by
  unfold f98 v98
  simp only [rdK_rd', nilVK_eq, newVK_eq, boxVK_eq, pickVK_eq, extVK_eq, gF_rd, gF_some, gF_nil, gF_pick, gF_ext, bumpK_eq, regV_eq, ld1K_eq', ldNK_eq', binVK_eq', binCK_eq', binDK_eq', stVK_eq, fAddrK_eq', ixSK_eq', ixRK_eq', unVK_eq', opF_eq]
theorem w98_eq (X : Caller) (L : Looper) (K : Value → AHeap → Prop) (h : AHeap) (t0 t1 t2 t3 : Value) : aJob P X L (.call 98 [t0, t1, t2, t3]) K h = v98 X L K h t0 t1 t2 t3 := (f98_eq X L K h t0 t1 t2 t3).trans (v98_eq X L K h t0 t1 t2 t3)
def v99_j14 (X : Caller) (L : Looper) (K : Value → AHeap → Prop) (h : AHeap) (t0 t1 t2 t3 t74 t75 t76 t73 t77 t8 : Value) : Prop :=
 bumpK 6 h fun h =>
 rd' (buildA P 174 [(0, t1), (1, t2), (2, t3)]) fun t77_1 =>
 X (.call 150 [t0, t77_1]) (fun t78 h =>
 bumpK 1 h fun h =>
 K (.int .i64 0) h) h
theorem v99_j14_eq (X : Caller) (L : Looper) (K : Value → AHeap → Prop) (h : AHeap) (t0 t1 t2 t3 t74 t75 t76 t73 t77 t8 : Value) : f99_j14 X L K h t0 t1 t2 t3 t74 t75 t76 t73 t77 t8 = v99_j14 X L K h t0 t1 t2 t3 t74 t75 t76 t73 t77 t8 := by
  unfold f99_j14 v99_j14
  simp only [rdK_rd', nilVK_eq, newVK_eq, boxVK_eq, pickVK_eq, extVK_eq, gF_rd, gF_some, gF_nil, gF_pick, gF_ext, bumpK_eq, regV_eq, ld1K_eq', ldNK_eq', binVK_eq', binCK_eq', binDK_eq', stVK_eq, fAddrK_eq', ixSK_eq', ixRK_eq', unVK_eq', opF_eq]
def v99 (X : Caller) (L : Looper) (K : Value → AHeap → Prop) (h : AHeap) (t0 t1 t2 t3 : Value) : Prop :=
 bumpK 1 h fun h =>
 bumpK 4 h fun h =>
 X (.call 85 [t0, t1]) (fun t16 h =>
 bumpK 2 h fun h =>
 binCK P .neq 24 24 t16 (.int .i64 0) h fun t18 =>
 condK t18
 (bumpK 2 h fun h =>
  K t16 h)
 (regV 12 h fun b h =>
 nilVK t0 fun t22 =>
 fAddrK 2 t22 fun t23 =>
 ld1K t23 h fun t24 =>
 rd' (lookupA P 162 t24 t1 true h) fun t26 =>
 extVK 0 t26 fun t27 =>
 extVK 1 t26 fun t28 =>
 newVK [.int .u32 0, .int .u64 0, .int .u64 0] (b + 9) h fun t10 h =>
 stVK 3 t10 t27 h fun h =>
 bumpK 11 h fun h =>
 nilVK t0 fun t31 =>
 fAddrK 1 t31 fun t32 =>
 ld1K t32 h fun t33 =>
 rd' (lookupA P 161 t33 t3 true h) fun t35 =>
 extVK 0 t35 fun t36 =>
 extVK 1 t35 fun t37 =>
 bumpK 3 h fun h =>
 binCK P .eql 27 27 t3 (.int .u64 0) h fun t40 =>
 condK t40
 (bumpK 1 h fun h =>
  K (.int .i64 2) h)
 (bumpK 12 h fun h =>
  binCK P .neq 33 33 t2 (.int .u64 18446744073709551615) h fun t43 =>
  gF (wantV t43 true) (fun k => k t2) fun t45 =>
  gF (wantV t43 true) (fun k => k t0) fun t46 =>
  gF (wantV t43 true) (nilVK t46) fun t47 =>
  gF (wantV t43 true) (fAddrK 0 t47) fun t48 =>
  gF (wantV t43 true) (ld1K t48 h) fun t49 =>
  gcallK (wantV t43 true) X (.call 86 [t49]) h fun t50 h =>
  gF (wantV t43 true) (binVK P .leq 33 33 t45 t50 h) fun t51 =>
  pickVK t43 t51 (.bool false) fun t52 =>
  condK t52
  (bumpK 1 h fun h =>
   K (.int .i64 3) h)
  (bumpK 16 h fun h =>
   gF (wantV t28 true) (fAddrK 2 t10) fun t56 =>
   gF (wantV t28 true) (ld1K t56 h) fun t57 =>
   gF (wantV t28 true) (fun k => k t3) fun t58 =>
   gF (wantV t28 true) (binVK P .neq 27 27 t57 t58 h) fun t59 =>
   pickVK t28 t59 (.bool false) fun t60 =>
   gF (wantV t60 false) (fun k => k t37) fun t62 =>
   gF (wantV t60 false) (fun k => k t62) fun t63 =>
   gF (wantV t63 true) (fun k => k t36) fun t64 =>
   gF (wantV t63 true) (fun k => k t1) fun t65 =>
   gF (wantV t63 true) (binVK P .neq 81 81 t64 t65 h) fun t66 =>
   gF (wantV t60 false) (pickVK t63 t66 (.bool false)) fun t67 =>
   pickVK t60 (.bool true) t67 fun t68 =>
   condK t68
   (bumpK 1 h fun h =>
    K (.int .i64 11) h)
   (bumpK 1 h fun h =>
 condK t28
 (bumpK 3 h fun h =>
  ldNK 3 t10 h fun t71 =>
  X (.call 112 [t0, t71]) (fun t72 h =>
  v99_j14 X L K h t0 t1 t2 t3 undef undef undef undef undef ((.int .i64 0))) h)
 (v99_j14 X L K h t0 t1 t2 t3 undef undef undef undef undef ((.int .i64 0)))))))) h
theorem v99_eq (X : Caller) (L : Looper) (K : Value → AHeap → Prop) (h : AHeap) (t0 t1 t2 t3 : Value) : f99 X L K h t0 t1 t2 t3 = v99 X L K h t0 t1 t2 t3 := by
  unfold f99 v99
  simp only [rdK_rd', nilVK_eq, newVK_eq, boxVK_eq, pickVK_eq, extVK_eq, gF_rd, gF_some, gF_nil, gF_pick, gF_ext, bumpK_eq, regV_eq, ld1K_eq', ldNK_eq', binVK_eq', binCK_eq', binDK_eq', stVK_eq, fAddrK_eq', ixSK_eq', ixRK_eq', unVK_eq', opF_eq, v99_j14_eq]
theorem w99_eq (X : Caller) (L : Looper) (K : Value → AHeap → Prop) (h : AHeap) (t0 t1 t2 t3 : Value) : aJob P X L (.call 99 [t0, t1, t2, t3]) K h = v99 X L K h t0 t1 t2 t3 := (f99_eq X L K h t0 t1 t2 t3).trans (v99_eq X L K h t0 t1 t2 t3)
def v100 (X : Caller) (L : Looper) (K : Value → AHeap → Prop) (h : AHeap) (t0 : Value) : Prop :=
 bumpK 2 h fun h =>
 bumpK 3 h fun h =>
 X (.call 148 [t0]) (fun t6 h =>
 condK t6
 (bumpK 2 h fun h =>
  K (.tuple #[(.int .u64 0), (.int .i64 1)]) h)
 (bumpK 6 h fun h =>
  nilVK t0 fun t9 =>
  fAddrK 1 t9 fun t10 =>
  ld1K t10 h fun t11 =>
  binCK P .eql 27 27 t11 (.int .u64 18446744073709551615) h fun t12 =>
  condK t12
  (bumpK 2 h fun h =>
   K (.tuple #[(.int .u64 0), (.int .i64 7)]) h)
  (bumpK 8 h fun h =>
 nilVK t0 fun t14 =>
 fAddrK 1 t14 fun t15 =>
 ld1K t15 h fun t16 =>
 binCK P .add 27 27 t16 (.int .u64 1) h fun t17 =>
 nilVK t0 fun t18 =>
 fAddrK 1 t18 fun t19 =>
 stVK 1 t19 t17 h fun h =>
 bumpK 6 h fun h =>
 nilVK t0 fun t21 =>
 fAddrK 1 t21 fun t22 =>
 ld1K t22 h fun t23 =>
 K (.tuple #[t23, (.int .i64 0)]) h))) h
theorem v100_eq (X : Caller) (L : Looper) (K : Value → AHeap → Prop) (h : AHeap) (t0 : Value) : f100 X L K h t0 = v100 X L K h t0 := by
  unfold f100 v100
  simp only [rdK_rd', nilVK_eq, newVK_eq, boxVK_eq, pickVK_eq, extVK_eq, gF_rd, gF_some, gF_nil, gF_pick, gF_ext, bumpK_eq, regV_eq, ld1K_eq', ldNK_eq', binVK_eq', binCK_eq', binDK_eq', stVK_eq, fAddrK_eq', ixSK_eq', ixRK_eq', unVK_eq', opF_eq]
theorem w100_eq (X : Caller) (L : Looper) (K : Value → AHeap → Prop) (h : AHeap) (t0 : Value) : aJob P X L (.call 100 [t0]) K h = v100 X L K h t0 := (f100_eq X L K h t0).trans (v100_eq X L K h t0)
def v101 (X : Caller) (L : Looper) (K : Value → AHeap → Prop) (h : AHeap) (t0 t1 : Value) : Prop :=
 regV 3 h fun b h =>
 boxVK t1 (b + 0) h fun t3 h =>
 bumpK 2 h fun h =>
 X (.call 73 [t0]) (fun t14 h =>
 condK t14
 (bumpK 2 h fun h =>
  K (.tuple #[(.int .u32 0), (.int .i64 1)]) h)
 (regV 15 h fun b_1 h =>
 fAddrK 0 t3 fun t16 =>
 ld1K t16 h fun t17 =>
 fAddrK 1 t3 fun t18 =>
 ld1K t18 h fun t19 =>
 fAddrK 2 t3 fun t20 =>
 ld1K t20 h fun t21 =>
 fAddrK 3 t3 fun t22 =>
 ld1K t22 h fun t23 =>
 X (.call 151 [t17, t19, t21, t23]) (fun t24 h =>
 extVK 0 t24 fun t25 =>
 extVK 1 t24 fun t26 =>
 newVK [.string ⟨#[]⟩, .slice none 0 0, .int .u64 0, .int .u64 0] (b_1 + 12) h fun t6 h =>
 stVK 4 t6 t25 h fun h =>
 bumpK 2 h fun h =>
 binCK P .neq 24 24 t26 (.int .i64 0) h fun t28 =>
 condK t28
 (bumpK 3 h fun h =>
  K (.tuple #[(.int .u32 0), t26]) h)
 (bumpK 9 h fun h =>
 fAddrK 0 t3 fun t32 =>
 ld1K t32 h fun t33 =>
 X (.call 66 [t0, t33]) (fun t34 h =>
 extVK 0 t34 fun t35 =>
 extVK 1 t34 fun t36 =>
 bumpK 2 h fun h =>
 binCK P .eql 24 24 t36 (.int .i64 0) h fun t38 =>
 condK t38
 (bumpK 2 h fun h =>
  K (.tuple #[(.int .u32 0), (.int .i64 11)]) h)
 (regV 8 h fun b_2 h =>
 X (.call 152 [t0]) (fun t41 h =>
 extVK 0 t41 fun t42 =>
 extVK 1 t41 fun t43 =>
 newVK [.int .i64 0, .bool false] (b_2 + 5) h fun t10 h =>
 stVK 2 t10 t42 h fun h =>
 bumpK 9 h fun h =>
 binCK P .neq 24 24 t43 (.int .i64 0) h fun t45 =>
 gF (wantV t45 false) (fun k => k t0) fun t47 =>
 gF (wantV t45 false) (nilVK t47) fun t48 =>
 gF (wantV t45 false) (fAddrK 0 t48) fun t49 =>
 gF (wantV t45 false) (ldNK 1 t49 h) fun t50 =>
 gcallK (wantV t45 false) X (.call 153 [t50]) h fun t51 h =>
 pickVK t45 (.bool true) t51 fun t52 =>
 condK t52
 (bumpK 2 h fun h =>
  K (.tuple #[(.int .u32 0), (.int .i64 7)]) h)
 (bumpK 12 h fun h =>
 nilVK t0 fun t55 =>
 fAddrK 0 t55 fun t56 =>
 fAddrK 0 t56 fun t57 =>
 ld1K t57 h fun t58 =>
 ldNK 4 t6 h fun t59 =>
 X (.call 154 [t58, t59]) (fun t60 h =>
 extVK 0 t60 fun t61 =>
 extVK 1 t60 fun t62 =>
 bumpK 2 h fun h =>
 binCK P .neq 24 24 t62 (.int .i64 0) h fun t64 =>
 condK t64
 (bumpK 3 h fun h =>
  K (.tuple #[(.int .u32 0), t62]) h)
 (bumpK 6 h fun h =>
 X (.call 155 [t0, t61]) (fun t69 h =>
 K (.tuple #[t61, t69]) h) h)) h)) h)) h)) h)) h
theorem v101_eq (X : Caller) (L : Looper) (K : Value → AHeap → Prop) (h : AHeap) (t0 t1 : Value) : f101 X L K h t0 t1 = v101 X L K h t0 t1 := by
  unfold f101 v101
  simp only [rdK_rd', nilVK_eq, newVK_eq, boxVK_eq, pickVK_eq, extVK_eq, gF_rd, gF_some, gF_nil, gF_pick, gF_ext, bumpK_eq, regV_eq, ld1K_eq', ldNK_eq', binVK_eq', binCK_eq', binDK_eq', stVK_eq, fAddrK_eq', ixSK_eq', ixRK_eq', unVK_eq', opF_eq]
theorem w101_eq (X : Caller) (L : Looper) (K : Value → AHeap → Prop) (h : AHeap) (t0 t1 : Value) : aJob P X L (.call 101 [t0, t1]) K h = v101 X L K h t0 t1 := (f101_eq X L K h t0 t1).trans (v101_eq X L K h t0 t1)
def v102 (X : Caller) (L : Looper) (K : Value → AHeap → Prop) (h : AHeap) (t0 t1 t2 : Value) : Prop :=
 bumpK 1 h fun h =>
 bumpK 5 h fun h =>
 X (.call 75 [t0, t1, t2]) (fun t13 h =>
 bumpK 2 h fun h =>
 binCK P .neq 24 24 t13 (.int .i64 0) h fun t15 =>
 condK t15
 (bumpK 2 h fun h =>
  K t13 h)
 (bumpK 11 h fun h =>
 nilVK t0 fun t19 =>
 fAddrK 4 t19 fun t20 =>
 ld1K t20 h fun t21 =>
 rd' (lookupA P 139 t21 t1 true h) fun t23 =>
 extVK 0 t23 fun t24 =>
 extVK 1 t23 fun t25 =>
 bumpK 1 h fun h =>
 condK t25
 (bumpK 1 h fun h =>
  K (.int .i64 11) h)
 (bumpK 4 h fun h =>
 X (.call 126 [t0, (.int .i64 0), t1, t2]) (fun t30 h =>
 bumpK 1 h fun h =>
 K (.int .i64 0) h) h))) h
theorem v102_eq (X : Caller) (L : Looper) (K : Value → AHeap → Prop) (h : AHeap) (t0 t1 t2 : Value) : f102 X L K h t0 t1 t2 = v102 X L K h t0 t1 t2 := by
  unfold f102 v102
  simp only [rdK_rd', nilVK_eq, newVK_eq, boxVK_eq, pickVK_eq, extVK_eq, gF_rd, gF_some, gF_nil, gF_pick, gF_ext, bumpK_eq, regV_eq, ld1K_eq', ldNK_eq', binVK_eq', binCK_eq', binDK_eq', stVK_eq, fAddrK_eq', ixSK_eq', ixRK_eq', unVK_eq', opF_eq]
theorem w102_eq (X : Caller) (L : Looper) (K : Value → AHeap → Prop) (h : AHeap) (t0 t1 t2 : Value) : aJob P X L (.call 102 [t0, t1, t2]) K h = v102 X L K h t0 t1 t2 := (f102_eq X L K h t0 t1 t2).trans (v102_eq X L K h t0 t1 t2)
def v103 (X : Caller) (L : Looper) (K : Value → AHeap → Prop) (h : AHeap) (t0 : Value) : Prop :=
 bumpK 1 h fun h =>
 bumpK 2 h fun h =>
 X (.call 156 [t0]) (fun t4 h =>
 condK t4
 (bumpK 1 h fun h =>
  K (.int .i64 0) h)
 (bumpK 5 h fun h =>
 nilVK t0 fun t6 =>
 fAddrK 2 t6 fun t7 =>
 ld1K t7 h fun t8 =>
 K t8 h)) h
theorem v103_eq (X : Caller) (L : Looper) (K : Value → AHeap → Prop) (h : AHeap) (t0 : Value) : f103 X L K h t0 = v103 X L K h t0 := by
  unfold f103 v103
  simp only [rdK_rd', nilVK_eq, newVK_eq, boxVK_eq, pickVK_eq, extVK_eq, gF_rd, gF_some, gF_nil, gF_pick, gF_ext, bumpK_eq, regV_eq, ld1K_eq', ldNK_eq', binVK_eq', binCK_eq', binDK_eq', stVK_eq, fAddrK_eq', ixSK_eq', ixRK_eq', unVK_eq', opF_eq]
theorem w103_eq (X : Caller) (L : Looper) (K : Value → AHeap → Prop) (h : AHeap) (t0 : Value) : aJob P X L (.call 103 [t0]) K h = v103 X L K h t0 := (f103_eq X L K h t0).trans (v103_eq X L K h t0)
def v104 (X : Caller) (L : Looper) (K : Value → AHeap → Prop) (h : AHeap) (t0 t1 t2 : Value) : Prop :=
 bumpK 2 h fun h =>
 bumpK 3 h fun h =>
 X (.call 157 [t0]) (fun t13 h =>
 condK t13
 (bumpK 2 h fun h =>
  K (.tuple #[(.int .u32 0), (.int .i64 1)]) h)
 (bumpK 3 h fun h =>
  binCK P .eql 194 194 t2 .nilFunc h fun t16 =>
  condK t16
  (bumpK 2 h fun h =>
   K (.tuple #[(.int .u32 0), (.int .i64 2)]) h)
  (bumpK 11 h fun h =>
 X (.call 158 [t0, t1, t2]) (fun t21 h =>
 extVK 0 t21 fun t22 =>
 extVK 1 t21 fun t23 =>
 extVK 2 t21 fun t24 =>
 bumpK 2 h fun h =>
 binCK P .neq 24 24 t24 (.int .i64 0) h fun t26 =>
 condK t26
 (bumpK 3 h fun h =>
  K (.tuple #[(.int .u32 0), t24]) h)
 (bumpK 8 h fun h =>
 nilVK t22 fun t30 =>
 fAddrK 1 t30 fun t31 =>
 ixRK 8 1 t31 t23 fun t32 =>
 ld1K t32 h fun t33 =>
 K (.tuple #[t33, (.int .i64 0)]) h)) h))) h
theorem v104_eq (X : Caller) (L : Looper) (K : Value → AHeap → Prop) (h : AHeap) (t0 t1 t2 : Value) : f104 X L K h t0 t1 t2 = v104 X L K h t0 t1 t2 := by
  unfold f104 v104
  simp only [rdK_rd', nilVK_eq, newVK_eq, boxVK_eq, pickVK_eq, extVK_eq, gF_rd, gF_some, gF_nil, gF_pick, gF_ext, bumpK_eq, regV_eq, ld1K_eq', ldNK_eq', binVK_eq', binCK_eq', binDK_eq', stVK_eq, fAddrK_eq', ixSK_eq', ixRK_eq', unVK_eq', opF_eq]
theorem w104_eq (X : Caller) (L : Looper) (K : Value → AHeap → Prop) (h : AHeap) (t0 t1 t2 : Value) : aJob P X L (.call 104 [t0, t1, t2]) K h = v104 X L K h t0 t1 t2 := (f104_eq X L K h t0 t1 t2).trans (v104_eq X L K h t0 t1 t2)
def v105_j1 (X : Caller) (L : Looper) (K : Value → AHeap → Prop) (h : AHeap) (t2 t7 t1 t8 t9 t10 t11 t4 : Value) : Prop :=
 bumpK 6 h fun h =>
 fAddrK 0 t2 fun t7_1 =>
 ld1K t7_1 h fun t8_1 =>
 X (.call 160 [t8_1, t1]) (fun t10_1 h =>
 X (.call 159 [t10_1]) (fun t11_1 h =>
 K t11_1 h) h) h
theorem v105_j1_eq (X : Caller) (L : Looper) (K : Value → AHeap → Prop) (h : AHeap) (t2 t7 t1 t8 t9 t10 t11 t4 : Value) : f105_j1 X L K h t2 t7 t1 t8 t9 t10 t11 t4 = v105_j1 X L K h t2 t7 t1 t8 t9 t10 t11 t4 := by
  unfold f105_j1 v105_j1
  simp only [rdK_rd', nilVK_eq, newVK_eq, boxVK_eq, pickVK_eq, extVK_eq, gF_rd, gF_some, gF_nil, gF_pick, gF_ext, bumpK_eq, regV_eq, ld1K_eq', ldNK_eq', binVK_eq', binCK_eq', binDK_eq', stVK_eq, fAddrK_eq', ixSK_eq', ixRK_eq', unVK_eq', opF_eq]
def v105 (X : Caller) (L : Looper) (K : Value → AHeap → Prop) (h : AHeap) (t0 t1 : Value) : Prop :=
 regV 2 h fun b h =>
 boxVK t0 (b + 0) h fun t2 h =>
 bumpK 2 h fun h =>
 fAddrK 1 t2 fun t5 =>
 ld1K t5 h fun t6 =>
 condK t6
 (bumpK 1 h fun h =>
  v105_j1 X L K h t2 undef ((.string ⟨#[]⟩)) undef undef undef undef ((.int .u64 0)))
 (v105_j1 X L K h t2 undef t1 undef undef undef undef ((.int .u64 0)))
theorem v105_eq (X : Caller) (L : Looper) (K : Value → AHeap → Prop) (h : AHeap) (t0 t1 : Value) : f105 X L K h t0 t1 = v105 X L K h t0 t1 := by
  unfold f105 v105
  simp only [rdK_rd', nilVK_eq, newVK_eq, boxVK_eq, pickVK_eq, extVK_eq, gF_rd, gF_some, gF_nil, gF_pick, gF_ext, bumpK_eq, regV_eq, ld1K_eq', ldNK_eq', binVK_eq', binCK_eq', binDK_eq', stVK_eq, fAddrK_eq', ixSK_eq', ixRK_eq', unVK_eq', opF_eq, v105_j1_eq]
theorem w105_eq (X : Caller) (L : Looper) (K : Value → AHeap → Prop) (h : AHeap) (t0 t1 : Value) : aJob P X L (.call 105 [t0, t1]) K h = v105 X L K h t0 t1 := (f105_eq X L K h t0 t1).trans (v105_eq X L K h t0 t1)
def v106 (X : Caller) (L : Looper) (K : Value → AHeap → Prop) (h : AHeap) (t0 t1 t2 : Value) : Prop :=
 bumpK 1 h fun h =>
 bumpK 9 h fun h =>
 ld1K t1 h fun t5 =>
 nilVK t5 fun t6 =>
 fAddrK 0 t6 fun t7 =>
 ldNK 1 t7 h fun t8 =>
 ld1K t2 h fun t11 =>
 X (.call 107 [t8, t0]) (fun t10 h =>
 chkK (chkR ((ld1 t2 h).map (·, h)) t11 true) <|
 binVK P .eql 9 9 t10 t11 h fun t12 =>
 K t12 h) h
theorem v106_eq (X : Caller) (L : Looper) (K : Value → AHeap → Prop) (h : AHeap) (t0 t1 t2 : Value) : f106 X L K h t0 t1 t2 = v106 X L K h t0 t1 t2 := by
  unfold f106 v106
  simp only [rdK_rd', nilVK_eq, newVK_eq, boxVK_eq, pickVK_eq, extVK_eq, gF_rd, gF_some, gF_nil, gF_pick, gF_ext, bumpK_eq, regV_eq, ld1K_eq', ldNK_eq', binVK_eq', binCK_eq', binDK_eq', stVK_eq, fAddrK_eq', ixSK_eq', ixRK_eq', unVK_eq', opF_eq]
theorem w106_eq (X : Caller) (L : Looper) (K : Value → AHeap → Prop) (h : AHeap) (t0 t1 t2 : Value) : aJob P X L (.call 106 [t0, t1, t2]) K h = v106 X L K h t0 t1 t2 := (f106_eq X L K h t0 t1 t2).trans (v106_eq X L K h t0 t1 t2)
def v107 (X : Caller) (L : Looper) (K : Value → AHeap → Prop) (h : AHeap) (t0 t1 : Value) : Prop :=
 regV 2 h fun b h =>
 boxVK t0 (b + 0) h fun t2 h =>
 bumpK 9 h fun h =>
 fAddrK 0 t2 fun t8 =>
 ld1K t8 h fun t9 =>
 X (.call 113 [t9, t1]) (fun t11 h =>
 extVK 0 t11 fun t12 =>
 extVK 1 t11 fun t13 =>
 bumpK 2 h fun h =>
 K t12 h) h
theorem v107_eq (X : Caller) (L : Looper) (K : Value → AHeap → Prop) (h : AHeap) (t0 t1 : Value) : f107 X L K h t0 t1 = v107 X L K h t0 t1 := by
  unfold f107 v107
  simp only [rdK_rd', nilVK_eq, newVK_eq, boxVK_eq, pickVK_eq, extVK_eq, gF_rd, gF_some, gF_nil, gF_pick, gF_ext, bumpK_eq, regV_eq, ld1K_eq', ldNK_eq', binVK_eq', binCK_eq', binDK_eq', stVK_eq, fAddrK_eq', ixSK_eq', ixRK_eq', unVK_eq', opF_eq]
theorem w107_eq (X : Caller) (L : Looper) (K : Value → AHeap → Prop) (h : AHeap) (t0 t1 : Value) : aJob P X L (.call 107 [t0, t1]) K h = v107 X L K h t0 t1 := (f107_eq X L K h t0 t1).trans (v107_eq X L K h t0 t1)
def v108 (X : Caller) (L : Looper) (K : Value → AHeap → Prop) (h : AHeap) (t0 t1 : Value) : Prop :=
 bumpK 1 h fun h =>
 bumpK 11 h fun h =>
 nilVK t0 fun t10 =>
 fAddrK 4 t10 fun t11 =>
 ld1K t11 h fun t12 =>
 rd' (lookupA P 139 t12 t1 true h) fun t14 =>
 extVK 0 t14 fun t15 =>
 extVK 1 t14 fun t16 =>
 bumpK 2 h fun h =>
 unVK P .not 4 t16 fun t18 =>
 condK t18
 (bumpK 1 h fun h =>
  K (.bool false) h)
 (bumpK 4 h fun h =>
 X (.call 76 [t0, t1]) (fun t21 h =>
 bumpK 8 h fun h =>
 nilVK t0 fun t24 =>
 fAddrK 0 t24 fun t25 =>
 ixRK 2 1 t25 t21 fun t26 =>
 ld1K t26 h fun t27 =>
 X (.call 161 [t27, t1]) (fun t29 h =>
 bumpK 12 h fun h =>
 nilVK t0 fun t32 =>
 fAddrK 2 t32 fun t33 =>
 ixRK 2 1 t33 t21 fun t34 =>
 ld1K t34 h fun t35 =>
 binVK P .sub 3 3 t35 t15 h fun t37 =>
 nilVK t0 fun t38 =>
 fAddrK 2 t38 fun t39 =>
 ixRK 2 1 t39 t21 fun t40 =>
 stVK 1 t40 t37 h fun h =>
 regV 6 h fun b h =>
 nilVK t0 fun t42 =>
 fAddrK 4 t42 fun t43 =>
 ld1K t43 h fun t44 =>
 opF (builtinV P .delete [139, 81] [t44, t1] (b + 5) h) fun _ h =>
 bumpK 1 h fun h =>
 K (.bool true) h) h) h)
theorem v108_eq (X : Caller) (L : Looper) (K : Value → AHeap → Prop) (h : AHeap) (t0 t1 : Value) : f108 X L K h t0 t1 = v108 X L K h t0 t1 := by
  unfold f108 v108
  simp only [rdK_rd', nilVK_eq, newVK_eq, boxVK_eq, pickVK_eq, extVK_eq, gF_rd, gF_some, gF_nil, gF_pick, gF_ext, bumpK_eq, regV_eq, ld1K_eq', ldNK_eq', binVK_eq', binCK_eq', binDK_eq', stVK_eq, fAddrK_eq', ixSK_eq', ixRK_eq', unVK_eq', opF_eq]
theorem w108_eq (X : Caller) (L : Looper) (K : Value → AHeap → Prop) (h : AHeap) (t0 t1 : Value) : aJob P X L (.call 108 [t0, t1]) K h = v108 X L K h t0 t1 := (f108_eq X L K h t0 t1).trans (v108_eq X L K h t0 t1)
def v109 (X : Caller) (L : Looper) (K : Value → AHeap → Prop) (h : AHeap) (t0 t1 t2 : Value) : Prop :=
 bumpK 1 h fun h =>
 bumpK 3 h fun h =>
 X (.call 136 [t0]) (fun t9 h =>
 condK t9
 (bumpK 1 h fun h =>
  K (.int .i64 1) h)
 (bumpK 15 h fun h =>
  binCK P .neq 94 94 t1 (.int .i64 0) h fun t12 =>
  gF (wantV t12 true) (fun k => k t1) fun t14 =>
  gF (wantV t12 true) (binCK P .neq 94 94 t14 (.int .i64 1) h) fun t15 =>
  pickVK t12 t15 (.bool false) fun t16 =>
  gF (wantV t16 false) (fun k => k t2) fun t18 =>
  gF (wantV t16 false) (binCK P .lss 3 3 t18 (.int .i64 0) h) fun t19 =>
  pickVK t16 (.bool true) t19 fun t20 =>
  gF (wantV t20 false) (fun k => k t2) fun t22 =>
  gF (wantV t20 false) (binCK P .gtr 3 3 t22 (.int .i64 1099511627776) h) fun t23 =>
  pickVK t20 (.bool true) t23 fun t24 =>
  condK t24
  (bumpK 1 h fun h =>
   K (.int .i64 2) h)
  (bumpK 1 h fun h =>
 K (.int .i64 0) h))) h
theorem v109_eq (X : Caller) (L : Looper) (K : Value → AHeap → Prop) (h : AHeap) (t0 t1 t2 : Value) : f109 X L K h t0 t1 t2 = v109 X L K h t0 t1 t2 := by
  unfold f109 v109
  simp only [rdK_rd', nilVK_eq, newVK_eq, boxVK_eq, pickVK_eq, extVK_eq, gF_rd, gF_some, gF_nil, gF_pick, gF_ext, bumpK_eq, regV_eq, ld1K_eq', ldNK_eq', binVK_eq', binCK_eq', binDK_eq', stVK_eq, fAddrK_eq', ixSK_eq', ixRK_eq', unVK_eq', opF_eq]
theorem w109_eq (X : Caller) (L : Looper) (K : Value → AHeap → Prop) (h : AHeap) (t0 t1 t2 : Value) : aJob P X L (.call 109 [t0, t1, t2]) K h = v109 X L K h t0 t1 t2 := (f109_eq X L K h t0 t1 t2).trans (v109_eq X L K h t0 t1 t2)
def v110 (X : Caller) (L : Looper) (K : Value → AHeap → Prop) (h : AHeap) (t0 t1 t2 : Value) : Prop :=
 bumpK 1 h fun h =>
 regV 8 h fun b h =>
 nilVK t0 fun t10 =>
 fAddrK 2 t10 fun t11 =>
 ixRK 2 2 t11 t1 fun t12 =>
 ldNK 2 t12 h fun t13 =>
 newVK [.int .i64 0, .int .i64 0] (b + 6) h fun t7 h =>
 stVK 2 t7 t13 h fun h =>
 bumpK 16 h fun h =>
 fAddrK 0 t7 fun t14 =>
 ld1K t14 h fun t15 =>
 binCK P .gtr 3 3 t15 (.int .i64 1) h fun t16 =>
 gF (wantV t16 true) (fAddrK 1 t7) fun t18 =>
 gF (wantV t16 true) (ld1K t18 h) fun t19 =>
 gF (wantV t16 true) (fun k => k t2) fun t20 =>
 gF (wantV t16 true) (binVK P .geq 3 3 t19 t20 h) fun t21 =>
 pickVK t16 t21 (.bool false) fun t22 =>
 gF (wantV t22 false) (ldNK 2 t7 h) fun t24 =>
 gF (wantV t22 false) (fun k => k t2) fun t25 =>
 gF (wantV t22 false) (rd' (buildA P 150 [(0, (.int .i64 1)), (1, t25)])) fun t26 =>
 gF (wantV t22 false) (binVK P .eql 150 150 t24 t26 h) fun t27 =>
 pickVK t22 (.bool true) t27 fun t28 =>
 K t28 h
theorem v110_eq (X : Caller) (L : Looper) (K : Value → AHeap → Prop) (h : AHeap) (t0 t1 t2 : Value) : f110 X L K h t0 t1 t2 = v110 X L K h t0 t1 t2 := by
  unfold f110 v110
  simp only [rdK_rd', nilVK_eq, newVK_eq, boxVK_eq, pickVK_eq, extVK_eq, gF_rd, gF_some, gF_nil, gF_pick, gF_ext, bumpK_eq, regV_eq, ld1K_eq', ldNK_eq', binVK_eq', binCK_eq', binDK_eq', stVK_eq, fAddrK_eq', ixSK_eq', ixRK_eq', unVK_eq', opF_eq]
theorem w110_eq (X : Caller) (L : Looper) (K : Value → AHeap → Prop) (h : AHeap) (t0 t1 t2 : Value) : aJob P X L (.call 110 [t0, t1, t2]) K h = v110 X L K h t0 t1 t2 := (f110_eq X L K h t0 t1 t2).trans (v110_eq X L K h t0 t1 t2)
def v111 (X : Caller) (L : Looper) (K : Value → AHeap → Prop) (h : AHeap) (t0 t1 : Value) : Prop :=
 regV 3 h fun b h =>
 boxVK t0 (b + 0) h fun t2 h =>
 boxVK t1 (b + 1) h fun t3 h =>
 newVK [.int .i64 0, .int .i64 0] (b + 2) h fun t4 h =>
 bumpK 12 h fun h =>
 fAddrK 0 t2 fun t5 =>
 ld1K t5 h fun t6 =>
 fAddrK 0 t3 fun t7 =>
 ld1K t7 h fun t8 =>
 binVK P .add 3 3 t6 t8 h fun t9 =>
 fAddrK 1 t2 fun t10 =>
 ld1K t10 h fun t11 =>
 fAddrK 1 t3 fun t12 =>
 ld1K t12 h fun t13 =>
 binVK P .add 3 3 t11 t13 h fun t14 =>
 rd' (buildA P 150 [(0, t9), (1, t14)]) fun t15 =>
 stVK 2 t4 t15 h fun h =>
 retK (consR (ldN 2 t4 h) (some [])) K h
theorem v111_eq (X : Caller) (L : Looper) (K : Value → AHeap → Prop) (h : AHeap) (t0 t1 : Value) : f111 X L K h t0 t1 = v111 X L K h t0 t1 := by
  unfold f111 v111
  simp only [rdK_rd', nilVK_eq, newVK_eq, boxVK_eq, pickVK_eq, extVK_eq, gF_rd, gF_some, gF_nil, gF_pick, gF_ext, bumpK_eq, regV_eq, ld1K_eq', ldNK_eq', binVK_eq', binCK_eq', binDK_eq', stVK_eq, fAddrK_eq', ixSK_eq', ixRK_eq', unVK_eq', opF_eq]
theorem w111_eq (X : Caller) (L : Looper) (K : Value → AHeap → Prop) (h : AHeap) (t0 t1 : Value) : aJob P X L (.call 111 [t0, t1]) K h = v111 X L K h t0 t1 := (f111_eq X L K h t0 t1).trans (v111_eq X L K h t0 t1)
def v112 (X : Caller) (L : Looper) (K : Value → AHeap → Prop) (h : AHeap) (t0 t1 : Value) : Prop :=
 regV 1 h fun b h =>
 boxVK t1 (b + 0) h fun t3 h =>
 bumpK 7 h fun h =>
 nilVK t0 fun t5 =>
 fAddrK 0 t5 fun t6 =>
 ld1K t6 h fun t7 =>
 fAddrK 0 t3 fun t8 =>
 ld1K t8 h fun t9 =>
 X (.call 162 [t7, t9]) (fun t10 h =>
 regV 7 h fun b_1 h =>
 nilVK t0 fun t12 =>
 fAddrK 1 t12 fun t13 =>
 ld1K t13 h fun t14 =>
 fAddrK 2 t3 fun t15 =>
 ld1K t15 h fun t16 =>
 opF (builtinV P .delete [161, 27] [t14, t16] (b_1 + 6) h) fun _ h =>
 regV 7 h fun b_2 h =>
 nilVK t0 fun t18 =>
 fAddrK 2 t18 fun t19 =>
 ld1K t19 h fun t20 =>
 fAddrK 0 t3 fun t21 =>
 ld1K t21 h fun t22 =>
 opF (builtinV P .delete [162, 81] [t20, t22] (b_2 + 6) h) fun _ h =>
 K (.tuple #[]) h) h
theorem v112_eq (X : Caller) (L : Looper) (K : Value → AHeap → Prop) (h : AHeap) (t0 t1 : Value) : f112 X L K h t0 t1 = v112 X L K h t0 t1 := by
  unfold f112 v112
  simp only [rdK_rd', nilVK_eq, newVK_eq, boxVK_eq, pickVK_eq, extVK_eq, gF_rd, gF_some, gF_nil, gF_pick, gF_ext, bumpK_eq, regV_eq, ld1K_eq', ldNK_eq', binVK_eq', binCK_eq', binDK_eq', stVK_eq, fAddrK_eq', ixSK_eq', ixRK_eq', unVK_eq', opF_eq]
theorem w112_eq (X : Caller) (L : Looper) (K : Value → AHeap → Prop) (h : AHeap) (t0 t1 : Value) : aJob P X L (.call 112 [t0, t1]) K h = v112 X L K h t0 t1 := (f112_eq X L K h t0 t1).trans (v112_eq X L K h t0 t1)
def v113 (X : Caller) (L : Looper) (K : Value → AHeap → Prop) (h : AHeap) (t0 t1 : Value) : Prop :=
 bumpK 2 h fun h =>
 bumpK 8 h fun h =>
 X (.call 123 [t0, t1]) (fun t11 h =>
 extVK 0 t11 fun t12 =>
 extVK 1 t11 fun t13 =>
 bumpK 2 h fun h =>
 binCK P .neq 24 24 t13 (.int .i64 0) h fun t15 =>
 condK t15
 (bumpK 3 h fun h =>
  K (.tuple #[(.string ⟨#[]⟩), t13]) h)
 (bumpK 6 h fun h =>
 nilVK t12 fun t18 =>
 fAddrK 0 t18 fun t19 =>
 ld1K t19 h fun t20 =>
 K (.tuple #[t20, (.int .i64 0)]) h)) h
theorem v113_eq (X : Caller) (L : Looper) (K : Value → AHeap → Prop) (h : AHeap) (t0 t1 : Value) : f113 X L K h t0 t1 = v113 X L K h t0 t1 := by
  unfold f113 v113
  simp only [rdK_rd', nilVK_eq, newVK_eq, boxVK_eq, pickVK_eq, extVK_eq, gF_rd, gF_some, gF_nil, gF_pick, gF_ext, bumpK_eq, regV_eq, ld1K_eq', ldNK_eq', binVK_eq', binCK_eq', binDK_eq', stVK_eq, fAddrK_eq', ixSK_eq', ixRK_eq', unVK_eq', opF_eq]
theorem w113_eq (X : Caller) (L : Looper) (K : Value → AHeap → Prop) (h : AHeap) (t0 t1 : Value) : aJob P X L (.call 113 [t0, t1]) K h = v113 X L K h t0 t1 := (f113_eq X L K h t0 t1).trans (v113_eq X L K h t0 t1)
def v114_j11 (X : Caller) (L : Looper) (K : Value → AHeap → Prop) (h : AHeap) (t6 : Value) : Prop :=
 bumpK 1 h fun h =>
 K (.int .i64 0) h
theorem v114_j11_eq (X : Caller) (L : Looper) (K : Value → AHeap → Prop) (h : AHeap) (t6 : Value) : f114_j11 X L K h t6 = v114_j11 X L K h t6 := by
  unfold f114_j11 v114_j11
  simp only [rdK_rd', nilVK_eq, newVK_eq, boxVK_eq, pickVK_eq, extVK_eq, gF_rd, gF_some, gF_nil, gF_pick, gF_ext, bumpK_eq, regV_eq, ld1K_eq', ldNK_eq', binVK_eq', binCK_eq', binDK_eq', stVK_eq, fAddrK_eq', ixSK_eq', ixRK_eq', unVK_eq', opF_eq]
def v114 (X : Caller) (L : Looper) (K : Value → AHeap → Prop) (h : AHeap) (t0 t1 t2 : Value) : Prop :=
 regV 2 h fun b h =>
 boxVK t2 (b + 0) h fun t5 h =>
 bumpK 2 h fun h =>
 X (.call 157 [t0]) (fun t11 h =>
 condK t11
 (bumpK 1 h fun h =>
  K (.int .i64 1) h)
 (bumpK 11 h fun h =>
 X (.call 158 [t0, t1, (.func (.func 163) #[] #[t5])]) (fun t16 h =>
 extVK 0 t16 fun t17 =>
 extVK 1 t16 fun t18 =>
 extVK 2 t16 fun t19 =>
 bumpK 2 h fun h =>
 binCK P .neq 24 24 t19 (.int .i64 0) h fun t21 =>
 condK t21
 (bumpK 2 h fun h =>
  K t19 h)
 (bumpK 13 h fun h =>
 nilVK t17 fun t26 =>
 fAddrK 0 t26 fun t27 =>
 ld1K t27 h fun t28 =>
 X (.call 164 [t28, t18]) (fun t30 h =>
 extVK 0 t30 fun t31 =>
 extVK 1 t30 fun t32 =>
 nilVK t17 fun t33 =>
 fAddrK 0 t33 fun t34 =>
 stVK 1 t34 t31 h fun h =>
 bumpK 6 h fun h =>
 nilVK t17 fun t37 =>
 fAddrK 1 t37 fun t38 =>
 ixRK 8 1 t38 t18 fun t39 =>
 stVK 1 t39 (.int .u32 0) h fun h =>
 bumpK 8 h fun h =>
 nilVK t0 fun t41 =>
 fAddrK 1 t41 fun t42 =>
 ld1K t42 h fun t43 =>
 binCK P .sub 3 3 t43 (.int .i64 1) h fun t44 =>
 nilVK t0 fun t45 =>
 fAddrK 1 t45 fun t46 =>
 stVK 1 t46 t44 h fun h =>
 bumpK 6 h fun h =>
 nilVK t17 fun t48 =>
 fAddrK 0 t48 fun t49 =>
 ld1K t49 h fun t50 =>
 X (.call 165 [t50]) (fun t51 h =>
 binCK P .eql 5 5 t51 (.int .u8 0) h fun t52 =>
 condK t52
 (bumpK 8 h fun h =>
  nilVK t0 fun t54 =>
  fAddrK 2 t54 fun t55 =>
  ld1K t55 h fun t56 =>
  binCK P .add 3 3 t56 (.int .i64 1) h fun t57 =>
  nilVK t0 fun t58 =>
  fAddrK 2 t58 fun t59 =>
  stVK 1 t59 t57 h fun h =>
  v114_j11 X L K h ((.int .i64 0)))
 (v114_j11 X L K h ((.int .i64 0)))) h) h)) h)) h
theorem v114_eq (X : Caller) (L : Looper) (K : Value → AHeap → Prop) (h : AHeap) (t0 t1 t2 : Value) : f114 X L K h t0 t1 t2 = v114 X L K h t0 t1 t2 := by
  unfold f114 v114
  simp only [rdK_rd', nilVK_eq, newVK_eq, boxVK_eq, pickVK_eq, extVK_eq, gF_rd, gF_some, gF_nil, gF_pick, gF_ext, bumpK_eq, regV_eq, ld1K_eq', ldNK_eq', binVK_eq', binCK_eq', binDK_eq', stVK_eq, fAddrK_eq', ixSK_eq', ixRK_eq', unVK_eq', opF_eq, v114_j11_eq]
theorem w114_eq (X : Caller) (L : Looper) (K : Value → AHeap → Prop) (h : AHeap) (t0 t1 t2 : Value) : aJob P X L (.call 114 [t0, t1, t2]) K h = v114 X L K h t0 t1 t2 := (f114_eq X L K h t0 t1 t2).trans (v114_eq X L K h t0 t1 t2)
def v115 (X : Caller) (L : Looper) (K : Value → AHeap → Prop) (h : AHeap) (t0 t1 : Value) : Prop :=
 bumpK 1 h fun h =>
 bumpK 12 h fun h =>
 nilVK t0 fun t6 =>
 fAddrK 1 t6 fun t7 =>
 ldNK 2 t7 h fun t8 =>
 nilVK t0 fun t10 =>
 fAddrK 0 t10 fun t11 =>
 ldNK 1 t11 h fun t12 =>
 X (.call 107 [t12, t1]) (fun t14 h =>
 chkK (chkR ((ldN 2 t7 h).map (·, h)) t8 true) <|
 X (.call 105 [t8, t14]) (fun t15 h =>
 K t15 h) h) h
theorem v115_eq (X : Caller) (L : Looper) (K : Value → AHeap → Prop) (h : AHeap) (t0 t1 : Value) : f115 X L K h t0 t1 = v115 X L K h t0 t1 := by
  unfold f115 v115
  simp only [rdK_rd', nilVK_eq, newVK_eq, boxVK_eq, pickVK_eq, extVK_eq, gF_rd, gF_some, gF_nil, gF_pick, gF_ext, bumpK_eq, regV_eq, ld1K_eq', ldNK_eq', binVK_eq', binCK_eq', binDK_eq', stVK_eq, fAddrK_eq', ixSK_eq', ixRK_eq', unVK_eq', opF_eq]
theorem w115_eq (X : Caller) (L : Looper) (K : Value → AHeap → Prop) (h : AHeap) (t0 t1 : Value) : aJob P X L (.call 115 [t0, t1]) K h = v115 X L K h t0 t1 := (f115_eq X L K h t0 t1).trans (v115_eq X L K h t0 t1)
def v116 (X : Caller) (L : Looper) (K : Value → AHeap → Prop) (h : AHeap) (t0 t1 : Value) : Prop :=
 regV 2 h fun b h =>
 newVK [.string ⟨#[]⟩, .slice none 0 0, .int .u64 0, .int .u64 0] (b + 0) h fun t4 h =>
 bumpK 8 h fun h =>
 X (.call 123 [t0, t1]) (fun t12 h =>
 extVK 0 t12 fun t13 =>
 extVK 1 t12 fun t14 =>
 bumpK 2 h fun h =>
 binCK P .neq 24 24 t14 (.int .i64 0) h fun t16 =>
 condK t16
 (bumpK 4 h fun h =>
  rd' (buildA P 59 []) fun t17 =>
  stVK 4 t4 t17 h fun h =>
  retK (consR (ldN 4 t4 h) (consR (some t14) (some []))) K h)
 (regV 6 h fun b_1 h =>
 nilVK t13 fun t20 =>
 ldNK 4 t20 h fun t21 =>
 X (.call 124 [t21]) (fun t22 h =>
 newVK [.string ⟨#[]⟩, .slice none 0 0, .int .u64 0, .int .u64 0] (b_1 + 4) h fun t8 h =>
 stVK 4 t8 t22 h fun h =>
 bumpK 4 h fun h =>
 rd' (buildA P 59 []) fun t24 =>
 nilVK t13 fun t25 =>
 stVK 4 t25 t24 h fun h =>
 bumpK 8 h fun h =>
 nilVK t0 fun t27 =>
 fAddrK 2 t27 fun t28 =>
 ld1K t28 h fun t29 =>
 binCK P .sub 3 3 t29 (.int .i64 1) h fun t30 =>
 nilVK t0 fun t31 =>
 fAddrK 2 t31 fun t32 =>
 stVK 1 t32 t30 h fun h =>
 bumpK 3 h fun h =>
 ldNK 4 t8 h fun t33 =>
 stVK 4 t4 t33 h fun h =>
 retK (consR (ldN 4 t4 h) (consR (some (.int .i64 0)) (some []))) K h) h)) h
theorem v116_eq (X : Caller) (L : Looper) (K : Value → AHeap → Prop) (h : AHeap) (t0 t1 : Value) : f116 X L K h t0 t1 = v116 X L K h t0 t1 := by
  unfold f116 v116
  simp only [rdK_rd', nilVK_eq, newVK_eq, boxVK_eq, pickVK_eq, extVK_eq, gF_rd, gF_some, gF_nil, gF_pick, gF_ext, bumpK_eq, regV_eq, ld1K_eq', ldNK_eq', binVK_eq', binCK_eq', binDK_eq', stVK_eq, fAddrK_eq', ixSK_eq', ixRK_eq', unVK_eq', opF_eq]
theorem w116_eq (X : Caller) (L : Looper) (K : Value → AHeap → Prop) (h : AHeap) (t0 t1 : Value) : aJob P X L (.call 116 [t0, t1]) K h = v116 X L K h t0 t1 := (f116_eq X L K h t0 t1).trans (v116_eq X L K h t0 t1)
def v117 (X : Caller) (L : Looper) (K : Value → AHeap → Prop) (h : AHeap) (t0 t1 t2 : Value) : Prop :=
 regV 2 h fun b h =>
 newVK [.int .i64 0, .bool false] (b + 0) h fun t6 h =>
 bumpK 5 h fun h =>
 X (.call 166 [t0, t1, t2]) (fun t12 h =>
 bumpK 2 h fun h =>
 binCK P .neq 24 24 t12 (.int .i64 0) h fun t14 =>
 condK t14
 (bumpK 4 h fun h =>
  rd' (buildA P 204 []) fun t15 =>
  stVK 2 t6 t15 h fun h =>
  retK (consR (ldN 2 t6 h) (consR (some t12) (some []))) K h)
 (bumpK 9 h fun h =>
 binCK P .leq 3 3 t1 (.int .i64 7340032) h fun t18 =>
 gF (wantV t18 true) (fun k => k t0) fun t20 =>
 gF (wantV t18 true) (binCK P .mul 3 3 t20 (.int .i64 8) h) fun t21 =>
 gF (wantV t18 true) (fun k => k t1) fun t22 =>
 gcallK (wantV t18 true) X (.call 167 [t22]) h fun t23 h =>
 gF (wantV t18 true) (binVK P .gtr 3 3 t21 t23 h) fun t24 =>
 pickVK t18 t24 (.bool false) fun t25 =>
 condK t25
 (bumpK 6 h fun h =>
  X (.call 167 [t1]) (fun t27 h =>
  binCK P .quo 3 3 t27 (.int .i64 8) h fun t28 =>
  rd' (buildA P 204 [(0, t28), (1, (.bool true))]) fun t29 =>
  stVK 2 t6 t29 h fun h =>
  retK (consR (ldN 2 t6 h) (consR (some (.int .i64 0)) (some []))) K h) h)
 (bumpK 4 h fun h =>
 rd' (buildA P 204 [(0, t0)]) fun t31 =>
 stVK 2 t6 t31 h fun h =>
 retK (consR (ldN 2 t6 h) (consR (some (.int .i64 0)) (some []))) K h))) h
theorem v117_eq (X : Caller) (L : Looper) (K : Value → AHeap → Prop) (h : AHeap) (t0 t1 t2 : Value) : f117 X L K h t0 t1 t2 = v117 X L K h t0 t1 t2 := by
  unfold f117 v117
  simp only [rdK_rd', nilVK_eq, newVK_eq, boxVK_eq, pickVK_eq, extVK_eq, gF_rd, gF_some, gF_nil, gF_pick, gF_ext, bumpK_eq, regV_eq, ld1K_eq', ldNK_eq', binVK_eq', binCK_eq', binDK_eq', stVK_eq, fAddrK_eq', ixSK_eq', ixRK_eq', unVK_eq', opF_eq]
theorem w117_eq (X : Caller) (L : Looper) (K : Value → AHeap → Prop) (h : AHeap) (t0 t1 t2 : Value) : aJob P X L (.call 117 [t0, t1, t2]) K h = v117 X L K h t0 t1 t2 := (f117_eq X L K h t0 t1 t2).trans (v117_eq X L K h t0 t1 t2)
def v118 (X : Caller) (L : Looper) (K : Value → AHeap → Prop) (h : AHeap) (t0 : Value) : Prop :=
 bumpK 1 h fun h =>
 bumpK 2 h fun h =>
 X (.call 157 [t0]) (fun t4 h =>
 condK t4
 (bumpK 1 h fun h =>
  K (.int .i64 0) h)
 (regV 6 h fun b h =>
 nilVK t0 fun t6 =>
 fAddrK 0 t6 fun t7 =>
 ld1K t7 h fun t8 =>
 opF (builtinV P .len [220] [t8] (b + 4) h) fun t9 h =>
 K t9 h)) h
theorem v118_eq (X : Caller) (L : Looper) (K : Value → AHeap → Prop) (h : AHeap) (t0 : Value) : f118 X L K h t0 = v118 X L K h t0 := by
  unfold f118 v118
  simp only [rdK_rd', nilVK_eq, newVK_eq, boxVK_eq, pickVK_eq, extVK_eq, gF_rd, gF_some, gF_nil, gF_pick, gF_ext, bumpK_eq, regV_eq, ld1K_eq', ldNK_eq', binVK_eq', binCK_eq', binDK_eq', stVK_eq, fAddrK_eq', ixSK_eq', ixRK_eq', unVK_eq', opF_eq]
theorem w118_eq (X : Caller) (L : Looper) (K : Value → AHeap → Prop) (h : AHeap) (t0 : Value) : aJob P X L (.call 118 [t0]) K h = v118 X L K h t0 := (f118_eq X L K h t0).trans (v118_eq X L K h t0)
def v119 (X : Caller) (L : Looper) (K : Value → AHeap → Prop) (h : AHeap) (t0 : Value) : Prop :=
 bumpK 1 h fun h =>
 bumpK 2 h fun h =>
 X (.call 157 [t0]) (fun t4 h =>
 condK t4
 (bumpK 1 h fun h =>
  K (.int .i64 0) h)
 (bumpK 5 h fun h =>
 nilVK t0 fun t6 =>
 fAddrK 1 t6 fun t7 =>
 ld1K t7 h fun t8 =>
 K t8 h)) h
theorem v119_eq (X : Caller) (L : Looper) (K : Value → AHeap → Prop) (h : AHeap) (t0 : Value) : f119 X L K h t0 = v119 X L K h t0 := by
  unfold f119 v119
  simp only [rdK_rd', nilVK_eq, newVK_eq, boxVK_eq, pickVK_eq, extVK_eq, gF_rd, gF_some, gF_nil, gF_pick, gF_ext, bumpK_eq, regV_eq, ld1K_eq', ldNK_eq', binVK_eq', binCK_eq', binDK_eq', stVK_eq, fAddrK_eq', ixSK_eq', ixRK_eq', unVK_eq', opF_eq]
theorem w119_eq (X : Caller) (L : Looper) (K : Value → AHeap → Prop) (h : AHeap) (t0 : Value) : aJob P X L (.call 119 [t0]) K h = v119 X L K h t0 := (f119_eq X L K h t0).trans (v119_eq X L K h t0)
def v120 (X : Caller) (L : Looper) (K : Value → AHeap → Prop) (h : AHeap) (t0 : Value) : Prop :=
 bumpK 1 h fun h =>
 bumpK 2 h fun h =>
 X (.call 157 [t0]) (fun t4 h =>
 condK t4
 (bumpK 1 h fun h =>
  K (.int .i64 0) h)
 (bumpK 5 h fun h =>
 nilVK t0 fun t6 =>
 fAddrK 2 t6 fun t7 =>
 ld1K t7 h fun t8 =>
 K t8 h)) h
theorem v120_eq (X : Caller) (L : Looper) (K : Value → AHeap → Prop) (h : AHeap) (t0 : Value) : f120 X L K h t0 = v120 X L K h t0 := by
  unfold f120 v120
  simp only [rdK_rd', nilVK_eq, newVK_eq, boxVK_eq, pickVK_eq, extVK_eq, gF_rd, gF_some, gF_nil, gF_pick, gF_ext, bumpK_eq, regV_eq, ld1K_eq', ldNK_eq', binVK_eq', binCK_eq', binDK_eq', stVK_eq, fAddrK_eq', ixSK_eq', ixRK_eq', unVK_eq', opF_eq]
theorem w120_eq (X : Caller) (L : Looper) (K : Value → AHeap → Prop) (h : AHeap) (t0 : Value) : aJob P X L (.call 120 [t0]) K h = v120 X L K h t0 := (f120_eq X L K h t0).trans (v120_eq X L K h t0)
def v121 (X : Caller) (L : Looper) (K : Value → AHeap → Prop) (h : AHeap) (t0 t1 : Value) : Prop :=
 regV 1 h fun b h =>
 boxVK t1 (b + 0) h fun t3 h =>
 bumpK 3 h fun h =>
 fAddrK 1 t3 fun t7 =>
 ld1K t7 h fun t8 =>
 unVK P .not 4 t8 fun t9 =>
 condK t9
 (K (.tuple #[]) h)
 (bumpK 3 h fun h =>
 bumpK 13 h fun h =>
 nilVK t0 fun t14 =>
 fAddrK 3 t14 fun t15 =>
 ld1K t15 h fun t16 =>
 fAddrK 0 t3 fun t17 =>
 ld1K t17 h fun t18 =>
 X (.call 168 [t16, t18, (.func (.func 115) #[t0] #[])]) (fun t20 h =>
 extVK 0 t20 fun t21 =>
 extVK 1 t20 fun t22 =>
 bumpK 2 h fun h =>
 binCK P .eql 24 24 t22 (.int .i64 0) h fun t24 =>
 condK t24
 (bumpK 5 h fun h =>
  nilVK t0 fun t27 =>
  fAddrK 3 t27 fun t28 =>
  stVK 1 t28 t21 h fun h =>
  K (.tuple #[]) h)
 (K (.tuple #[]) h)) h)
theorem v121_eq (X : Caller) (L : Looper) (K : Value → AHeap → Prop) (h : AHeap) (t0 t1 : Value) : f121 X L K h t0 t1 = v121 X L K h t0 t1 := by
  unfold f121 v121
  simp only [rdK_rd', nilVK_eq, newVK_eq, boxVK_eq, pickVK_eq, extVK_eq, gF_rd, gF_some, gF_nil, gF_pick, gF_ext, bumpK_eq, regV_eq, ld1K_eq', ldNK_eq', binVK_eq', binCK_eq', binDK_eq', stVK_eq, fAddrK_eq', ixSK_eq', ixRK_eq', unVK_eq', opF_eq]
theorem w121_eq (X : Caller) (L : Looper) (K : Value → AHeap → Prop) (h : AHeap) (t0 t1 : Value) : aJob P X L (.call 121 [t0, t1]) K h = v121 X L K h t0 t1 := (f121_eq X L K h t0 t1).trans (v121_eq X L K h t0 t1)
def v122 (X : Caller) (L : Looper) (K : Value → AHeap → Prop) (h : AHeap) (t0 t1 : Value) : Prop :=
 regV 2 h fun b h =>
 boxVK t1 (b + 0) h fun t3 h =>
 bumpK 3 h fun h =>
 X (.call 94 [t0]) (fun t7 h =>
 condK t7
 (bumpK 1 h fun h =>
  K (.int .i64 1) h)
 (bumpK 4 h fun h =>
  ldNK 6 t3 h fun t9 =>
  X (.call 169 [t9]) (fun t10 h =>
  unVK P .not 4 t10 fun t11 =>
  condK t11
  (bumpK 1 h fun h =>
   K (.int .i64 2) h)
  (bumpK 7 h fun h =>
   nilVK t0 fun t14 =>
   fAddrK 2 t14 fun t15 =>
   fAddrK 6 t15 fun t16 =>
   ld1K t16 h fun t17 =>
   binCK P .geq 3 3 t17 (.int .i64 1048576) h fun t18 =>
   condK t18
   (bumpK 1 h fun h =>
    K (.int .i64 7) h)
   (bumpK 4 h fun h =>
 ldNK 6 t3 h fun t20 =>
 X (.call 171 [t20]) (fun t21 h =>
 X (.call 170 [t0, t21]) (fun t22 h =>
 bumpK 14 h fun h =>
 fAddrK 0 t3 fun t24 =>
 ld1K t24 h fun t25 =>
 nilVK t0 fun t26 =>
 fAddrK 2 t26 fun t27 =>
 fAddrK 0 t27 fun t28 =>
 ixRK 6 1 t28 t25 fun t29 =>
 ld1K t29 h fun t30 =>
 binCK P .add 27 27 t30 (.int .u64 1) h fun t31 =>
 nilVK t0 fun t32 =>
 fAddrK 2 t32 fun t33 =>
 fAddrK 0 t33 fun t34 =>
 ixRK 6 1 t34 t25 fun t35 =>
 stVK 1 t35 t31 h fun h =>
 bumpK 10 h fun h =>
 nilVK t0 fun t37 =>
 fAddrK 2 t37 fun t38 =>
 fAddrK 6 t38 fun t39 =>
 ld1K t39 h fun t40 =>
 binCK P .add 3 3 t40 (.int .i64 1) h fun t41 =>
 nilVK t0 fun t42 =>
 fAddrK 2 t42 fun t43 =>
 fAddrK 6 t43 fun t44 =>
 stVK 1 t44 t41 h fun h =>
 bumpK 1 h fun h =>
 K (.int .i64 0) h) h) h))) h)) h
theorem v122_eq (X : Caller) (L : Looper) (K : Value → AHeap → Prop) (h : AHeap) (t0 t1 : Value) : f122 X L K h t0 t1 = v122 X L K h t0 t1 := by
  unfold f122 v122
  simp only [rdK_rd', nilVK_eq, newVK_eq, boxVK_eq, pickVK_eq, extVK_eq, gF_rd, gF_some, gF_nil, gF_pick, gF_ext, bumpK_eq, regV_eq, ld1K_eq', ldNK_eq', binVK_eq', binCK_eq', binDK_eq', stVK_eq, fAddrK_eq', ixSK_eq', ixRK_eq', unVK_eq', opF_eq]
theorem w122_eq (X : Caller) (L : Looper) (K : Value → AHeap → Prop) (h : AHeap) (t0 t1 : Value) : aJob P X L (.call 122 [t0, t1]) K h = v122 X L K h t0 t1 := (f122_eq X L K h t0 t1).trans (v122_eq X L K h t0 t1)
def v123 (X : Caller) (L : Looper) (K : Value → AHeap → Prop) (h : AHeap) (t0 t1 : Value) : Prop :=
 bumpK 2 h fun h =>
 bumpK 3 h fun h =>
 X (.call 156 [t0]) (fun t8 h =>
 condK t8
 (bumpK 2 h fun h =>
  K (.tuple #[(.pointer none), (.int .i64 1)]) h)
 (regV 20 h fun b h =>
  opF (convertA P 81 3 t1 (b + 1) h) fun t11 h =>
  nilVK t0 fun t13 =>
  fAddrK 1 t13 fun t14 =>
  ld1K t14 h fun t15 =>
  opF (builtinV P .len [226] [t15] (b + 6) h) fun t16 h =>
  binVK P .geq 3 3 t11 t16 h fun t17 =>
  gF (wantV t17 false) (fun k => k t0) fun t19 =>
  gF (wantV t17 false) (nilVK t19) fun t20 =>
  gF (wantV t17 false) (fAddrK 1 t20) fun t21 =>
  gF (wantV t17 false) (ld1K t21 h) fun t22 =>
  gF (wantV t17 false) (fun k => k t1) fun t23 =>
  gF (wantV t17 false) (ixSK 4 t22 t23) fun t24 =>
  gF (wantV t17 false) (fAddrK 3 t24) fun t25 =>
  gF (wantV t17 false) (ld1K t25 h) fun t26 =>
  gF (wantV t17 false) (binCK P .eql 27 27 t26 (.int .u64 0) h) fun t27 =>
  pickVK t17 (.bool true) t27 fun t28 =>
  condK t28
  (bumpK 2 h fun h =>
   K (.tuple #[(.pointer none), (.int .i64 9)]) h)
  (bumpK 8 h fun h =>
 nilVK t0 fun t30 =>
 fAddrK 1 t30 fun t31 =>
 ld1K t31 h fun t32 =>
 ixSK 4 t32 t1 fun t34 =>
 K (.tuple #[t34, (.int .i64 0)]) h))) h
theorem v123_eq (X : Caller) (L : Looper) (K : Value → AHeap → Prop) (h : AHeap) (t0 t1 : Value) : f123 X L K h t0 t1 = v123 X L K h t0 t1 := by
  unfold f123 v123
  simp only [rdK_rd', nilVK_eq, newVK_eq, boxVK_eq, pickVK_eq, extVK_eq, gF_rd, gF_some, gF_nil, gF_pick, gF_ext, bumpK_eq, regV_eq, ld1K_eq', ldNK_eq', binVK_eq', binCK_eq', binDK_eq', stVK_eq, fAddrK_eq', ixSK_eq', ixRK_eq', unVK_eq', opF_eq]
theorem w123_eq (X : Caller) (L : Looper) (K : Value → AHeap → Prop) (h : AHeap) (t0 t1 : Value) : aJob P X L (.call 123 [t0, t1]) K h = v123 X L K h t0 t1 := (f123_eq X L K h t0 t1).trans (v123_eq X L K h t0 t1)
def v124 (X : Caller) (L : Looper) (K : Value → AHeap → Prop) (h : AHeap) (t0 : Value) : Prop :=
 regV 2 h fun b h =>
 boxVK t0 (b + 0) h fun t1 h =>
 newVK [.string ⟨#[]⟩, .slice none 0 0, .int .u64 0, .int .u64 0] (b + 1) h fun t2 h =>
 bumpK 5 h fun h =>
 fAddrK 1 t1 fun t3 =>
 ld1K t3 h fun t4 =>
 X (.call 20 [t4]) (fun t5 h =>
 fAddrK 1 t1 fun t6 =>
 stVK 1 t6 t5 h fun h =>
 bumpK 2 h fun h =>
 ldNK 4 t1 h fun t7 =>
 stVK 4 t2 t7 h fun h =>
 retK (consR (ldN 4 t2 h) (some [])) K h) h
theorem v124_eq (X : Caller) (L : Looper) (K : Value → AHeap → Prop) (h : AHeap) (t0 : Value) : f124 X L K h t0 = v124 X L K h t0 := by
  unfold f124 v124
  simp only [rdK_rd', nilVK_eq, newVK_eq, boxVK_eq, pickVK_eq, extVK_eq, gF_rd, gF_some, gF_nil, gF_pick, gF_ext, bumpK_eq, regV_eq, ld1K_eq', ldNK_eq', binVK_eq', binCK_eq', binDK_eq', stVK_eq, fAddrK_eq', ixSK_eq', ixRK_eq', unVK_eq', opF_eq]
theorem w124_eq (X : Caller) (L : Looper) (K : Value → AHeap → Prop) (h : AHeap) (t0 : Value) : aJob P X L (.call 124 [t0]) K h = v124 X L K h t0 := (f124_eq X L K h t0).trans (v124_eq X L K h t0)
def v125 (X : Caller) (L : Looper) (K : Value → AHeap → Prop) (h : AHeap) (t0 t1 : Value) : Prop :=
 bumpK 1 h fun h =>
 bumpK 4 h fun h =>
 X (.call 172 [t0, t1]) (fun t9 h =>
 binCK P .neq 24 24 t9 (.int .i64 0) h fun t10 =>
 condK t10
 (bumpK 1 h fun h =>
  K (.bool false) h)
 (bumpK 11 h fun h =>
 nilVK t0 fun t13 =>
 fAddrK 0 t13 fun t14 =>
 ld1K t14 h fun t15 =>
 X (.call 173 [t15, t1]) (fun t17 h =>
 extVK 0 t17 fun t18 =>
 extVK 1 t17 fun t19 =>
 bumpK 3 h fun h =>
 binCK P .eql 24 24 t19 (.int .i64 0) h fun t21 =>
 K t21 h) h)) h
theorem v125_eq (X : Caller) (L : Looper) (K : Value → AHeap → Prop) (h : AHeap) (t0 t1 : Value) : f125 X L K h t0 t1 = v125 X L K h t0 t1 := by
  unfold f125 v125
  simp only [rdK_rd', nilVK_eq, newVK_eq, boxVK_eq, pickVK_eq, extVK_eq, gF_rd, gF_some, gF_nil, gF_pick, gF_ext, bumpK_eq, regV_eq, ld1K_eq', ldNK_eq', binVK_eq', binCK_eq', binDK_eq', stVK_eq, fAddrK_eq', ixSK_eq', ixRK_eq', unVK_eq', opF_eq]
theorem w125_eq (X : Caller) (L : Looper) (K : Value → AHeap → Prop) (h : AHeap) (t0 t1 : Value) : aJob P X L (.call 125 [t0, t1]) K h = v125 X L K h t0 t1 := (f125_eq X L K h t0 t1).trans (v125_eq X L K h t0 t1)

def v126 (X : Caller) (L : Looper) (K : Value → AHeap → Prop) (h : AHeap) (t0 t1 t2 t3 : Value) : Prop :=
 bumpK 8 h fun h =>
 nilVK t0 fun t10 =>
 fAddrK 0 t10 fun t11 =>
 ixRK 2 1 t11 t1 fun t12 =>
 ld1K t12 h fun t13 =>
 X (.call 174 [t13, t2]) (fun t15 h =>
 bumpK 12 h fun h =>
 nilVK t0 fun t18 =>
 fAddrK 2 t18 fun t19 =>
 ixRK 2 1 t19 t1 fun t20 =>
 ld1K t20 h fun t21 =>
 binVK P .add 3 3 t21 t3 h fun t23 =>
 nilVK t0 fun t24 =>
 fAddrK 2 t24 fun t25 =>
 ixRK 2 1 t25 t1 fun t26 =>
 stVK 1 t26 t23 h fun h =>
 bumpK 7 h fun h =>
 nilVK t0 fun t28 =>
 fAddrK 4 t28 fun t29 =>
 ld1K t29 h fun t30 =>
 stK (mapPutA P 139 t30 t2 t3 h) fun h =>
 K (.tuple #[]) h) h
theorem v126_eq (X : Caller) (L : Looper) (K : Value → AHeap → Prop) (h : AHeap) (t0 t1 t2 t3 : Value) : f126 X L K h t0 t1 t2 t3 = v126 X L K h t0 t1 t2 t3 := by
  unfold f126 v126
  simp only [rdK_rd', nilVK_eq, newVK_eq, boxVK_eq, pickVK_eq, extVK_eq, gF_rd, gF_some, gF_nil, gF_pick, gF_ext, bumpK_eq, regV_eq, ld1K_eq', ldNK_eq', binVK_eq', binCK_eq', binDK_eq', stVK_eq, fAddrK_eq', ixSK_eq', ixRK_eq', unVK_eq', opF_eq]
theorem w126_eq (X : Caller) (L : Looper) (K : Value → AHeap → Prop) (h : AHeap) (t0 t1 t2 t3 : Value) : aJob P X L (.call 126 [t0, t1, t2, t3]) K h = v126 X L K h t0 t1 t2 t3 := (f126_eq X L K h t0 t1 t2 t3).trans (v126_eq X L K h t0 t1 t2 t3)
def v127_l4 (X : Caller) (L : Looper) (a : AAct) (K : ActPost) (h : AHeap) : Prop :=
 bumpK 2 h fun h =>
 callV X (a.env 3) [] (fun t10 h =>
 condK t10
 (bumpK 11 h fun h =>
 ld1K (a.env 1) h fun t12 =>
 nilVK t12 fun t13 =>
 fAddrK 0 t13 fun t14 =>
 ixRK 2 1 t14 (.int .i64 1) fun t15 =>
 ld1K t15 h fun t16 =>
 X (.call 177 [t16]) (fun t17 h =>
 extVK 0 t17 fun t18 =>
 extVK 1 t17 fun t19 =>
 bumpK 7 h fun h =>
 ld1K (a.env 1) h fun t20 =>
 nilVK t20 fun t21 =>
 fAddrK 4 t21 fun t22 =>
 ld1K t22 h fun t23 =>
 rd' (lookupA P 139 t23 t18 false h) fun t25 =>
 bumpK 3 h fun h =>
 ld1K (a.env 1) h fun t26 =>
 X (.call 108 [t26, t18]) (fun t28 h =>
 bumpK 4 h fun h =>
 ld1K (a.env 1) h fun t29 =>
 X (.call 126 [t29, (.int .i64 0), t18, t25]) (fun t32 h =>
 regV 5 h fun b_1 h =>
 opF (bsliceV P 143 1 [(0, t18)] (b_1 + 2) h) fun t35 h =>
 opF (builtinV P .append [143, 143] [(a.env 4), t35] (b_1 + 3) h) fun t36 h =>
 K .normal ⟨(upds a.env [(9, (a.env 3)), (10, t10), (12, t12), (13, t13), (14, t14), (15, t15), (16, t16), (17, t17), (11, t17), (18, t18), (19, t19), (5, t18), (6, t19), (20, t20), (21, t21), (22, t22), (23, t23), (24, t18), (25, t25), (7, t25), (26, t26), (27, t18), (28, t28), (29, t29), (30, t18), (31, t25), (32, t32), (33, (a.env 4)), (34, t18), (35, t35), (36, t36), (4, t36)]), a.defers⟩ h) h) h) h)
 (K (.exit 0) ⟨(upds a.env [(9, (a.env 3)), (10, t10)]), a.defers⟩ h)) h
theorem v127_l4_eq (X : Caller) (L : Looper) (a : AAct) (K : ActPost) (h : AHeap) : f127_l4 X L a K h = v127_l4 X L a K h := by
  unfold f127_l4 v127_l4
  simp only [rdK_rd', nilVK_eq, newVK_eq, boxVK_eq, pickVK_eq, extVK_eq, gF_rd, gF_some, gF_nil, gF_pick, gF_ext, bumpK_eq, regV_eq, ld1K_eq', ldNK_eq', binVK_eq', binCK_eq', binDK_eq', stVK_eq, fAddrK_eq', ixSK_eq', ixRK_eq', unVK_eq', opF_eq]
theorem v127_l4_eq' (X : Caller) (L : Looper) : f127_l4 X L = v127_l4 X L := by
  funext a K h; exact v127_l4_eq X L a K h
def v127_j3 (X : Caller) (L : Looper) (K : Value → AHeap → Prop) (h : AHeap) (a : AAct) : Prop :=
 bumpK 2 h fun h =>
 leaveA P X Tryz.f127 ⟨(upds a.env [(37, (a.env 4)), (2, (a.env 4))]), a.defers⟩ K a.defers h
theorem v127_j3_eq (X : Caller) (L : Looper) (K : Value → AHeap → Prop) (h : AHeap) (a : AAct) : f127_j3 X L K h a = v127_j3 X L K h a := by
  unfold f127_j3 v127_j3
  simp only [rdK_rd', nilVK_eq, newVK_eq, boxVK_eq, pickVK_eq, extVK_eq, gF_rd, gF_some, gF_nil, gF_pick, gF_ext, bumpK_eq, regV_eq, ld1K_eq', ldNK_eq', binVK_eq', binCK_eq', binDK_eq', stVK_eq, fAddrK_eq', ixSK_eq', ixRK_eq', unVK_eq', opF_eq, v127_l4_eq, v127_l4_eq']
def v127 (X : Caller) (L : Looper) (K : Value → AHeap → Prop) (h : AHeap) (t0 : Value) : Prop :=
 regV 2 h fun b h =>
 boxVK t0 (b + 0) h fun t1 h =>
 bumpK 2 h fun h =>
 bumpK 1 h fun h =>
 L (v127_l4 X L) ⟨(upds (argsEnv [t0]) [(1, t1), (2, (.slice none 0 0)), (8, (.func (.func 175) #[] #[t1])), (3, (.func (.func 175) #[] #[t1])), (4, (.slice none 0 0))]), []⟩ (blkX 0 (seqX (fun a h => v127_j3 X L K h a) (finX P X Tryz.f127 K))) h
theorem v127_eq (X : Caller) (L : Looper) (K : Value → AHeap → Prop) (h : AHeap) (t0 : Value) : f127 X L K h t0 = v127 X L K h t0 := by
  unfold f127 v127
  simp only [rdK_rd', nilVK_eq, newVK_eq, boxVK_eq, pickVK_eq, extVK_eq, gF_rd, gF_some, gF_nil, gF_pick, gF_ext, bumpK_eq, regV_eq, ld1K_eq', ldNK_eq', binVK_eq', binCK_eq', binDK_eq', stVK_eq, fAddrK_eq', ixSK_eq', ixRK_eq', unVK_eq', opF_eq, v127_l4_eq, v127_l4_eq', v127_j3_eq]
theorem w127_eq (X : Caller) (L : Looper) (K : Value → AHeap → Prop) (h : AHeap) (t0 : Value) : aJob P X L (.call 127 [t0]) K h = v127 X L K h t0 := (f127_eq X L K h t0).trans (v127_eq X L K h t0)
def v128 (X : Caller) (L : Looper) (K : Value → AHeap → Prop) (h : AHeap) (t0 : Value) : Prop :=
 regV 2 h fun b h =>
 boxVK t0 (b + 0) h fun t1 h =>
 bumpK 9 h fun h =>
 fAddrK 0 t1 fun t3 =>
 ld1K t3 h fun t4 =>
 binCK P .leq 3 3 t4 (.int .i64 2097152) h fun t5 =>
 gF (wantV t5 true) (fAddrK 1 t1) fun t7 =>
 gF (wantV t5 true) (ld1K t7 h) fun t8 =>
 gF (wantV t5 true) (binCK P .leq 3 3 t8 (.int .i64 2305843009213693952) h) fun t9 =>
 pickVK t5 t9 (.bool false) fun t10 =>
 K t10 h
theorem v128_eq (X : Caller) (L : Looper) (K : Value → AHeap → Prop) (h : AHeap) (t0 : Value) : f128 X L K h t0 = v128 X L K h t0 := by
  unfold f128 v128
  simp only [rdK_rd', nilVK_eq, newVK_eq, boxVK_eq, pickVK_eq, extVK_eq, gF_rd, gF_some, gF_nil, gF_pick, gF_ext, bumpK_eq, regV_eq, ld1K_eq', ldNK_eq', binVK_eq', binCK_eq', binDK_eq', stVK_eq, fAddrK_eq', ixSK_eq', ixRK_eq', unVK_eq', opF_eq]
theorem w128_eq (X : Caller) (L : Looper) (K : Value → AHeap → Prop) (h : AHeap) (t0 : Value) : aJob P X L (.call 128 [t0]) K h = v128 X L K h t0 := (f128_eq X L K h t0).trans (v128_eq X L K h t0)
def v130_l7 (X : Caller) (L : Looper) (a : AAct) (K : ActPost) (h : AHeap) : Prop :=
 bumpK 1 h fun h =>
 binVK P .lss 3 3 (a.env 33) (a.env 32) h fun t34 =>
 condK t34
 (bumpK 2 h fun h =>
 bumpK 4 h fun h =>
 X (.call 178 [(a.env 33), (a.env 6)]) (fun t38 h =>
 regV 13 h fun b_1 h =>
 nilVK (a.env 6) fun t40 =>
 fAddrK 0 t40 fun t41 =>
 ld1K t41 h fun t42 =>
 binCK P .add 3 3 (a.env 33) (.int .i64 1) h fun t47 =>
 opF (convertA P 3 81 t47 (b_1 + 9) h) fun t48 h =>
 rd' (buildA P 282 [(0, t38), (1, t38), (2, t48)]) fun t49 =>
 ixSK 3 t42 t38 fun t50 =>
 stVK 3 t50 t49 h fun h =>
 bumpK 2 h fun h =>
 binCK P .add 3 3 (a.env 33) (.int .i64 1) h fun t51 =>
 K .normal ⟨(upds a.env [(34, t34), (35, (a.env 33)), (7, (a.env 33)), (36, (a.env 33)), (37, (a.env 6)), (38, t38), (8, t38), (39, (a.env 6)), (40, t40), (41, t41), (42, t42), (43, t38), (44, t38), (45, t38), (46, (a.env 33)), (47, t47), (48, t48), (49, t49), (50, t50), (51, t51), (33, t51)]), a.defers⟩ h) h)
 (K (.exit 0) ⟨(upds a.env [(34, t34)]), a.defers⟩ h)
theorem v130_l7_eq (X : Caller) (L : Looper) (a : AAct) (K : ActPost) (h : AHeap) : f130_l7 X L a K h = v130_l7 X L a K h := by
  unfold f130_l7 v130_l7
  simp only [rdK_rd', nilVK_eq, newVK_eq, boxVK_eq, pickVK_eq, extVK_eq, gF_rd, gF_some, gF_nil, gF_pick, gF_ext, bumpK_eq, regV_eq, ld1K_eq', ldNK_eq', binVK_eq', binCK_eq', binDK_eq', stVK_eq, fAddrK_eq', ixSK_eq', ixRK_eq', unVK_eq', opF_eq]
theorem v130_l7_eq' (X : Caller) (L : Looper) : f130_l7 X L = v130_l7 X L := by
  funext a K h; exact v130_l7_eq X L a K h
def v130_j5 (X : Caller) (L : Looper) (K : Value → AHeap → Prop) (h : AHeap) (a : AAct) : Prop :=
 bumpK 3 h fun h =>
 leaveA P X Tryz.f130 ⟨(upds a.env [(52, (a.env 6)), (4, (a.env 6)), (5, (.int .i64 0))]), a.defers⟩ K a.defers h
theorem v130_j5_eq (X : Caller) (L : Looper) (K : Value → AHeap → Prop) (h : AHeap) (a : AAct) : f130_j5 X L K h a = v130_j5 X L K h a := by
  unfold f130_j5 v130_j5
  simp only [rdK_rd', nilVK_eq, newVK_eq, boxVK_eq, pickVK_eq, extVK_eq, gF_rd, gF_some, gF_nil, gF_pick, gF_ext, bumpK_eq, regV_eq, ld1K_eq', ldNK_eq', binVK_eq', binCK_eq', binDK_eq', stVK_eq, fAddrK_eq', ixSK_eq', ixRK_eq', unVK_eq', opF_eq, v130_l7_eq, v130_l7_eq']
def v130 (X : Caller) (L : Looper) (K : Value → AHeap → Prop) (h : AHeap) (t0 t1 : Value) : Prop :=
 bumpK 2 h fun h =>
 bumpK 14 h fun h =>
 binCK P .lss 3 3 t0 (.int .i64 1) h fun t10 =>
 gF (wantV t10 false) (fun k => k t0) fun t12 =>
 gF (wantV t10 false) (binCK P .gtr 3 3 t12 (.int .i64 4194304) h) fun t13 =>
 pickVK t10 (.bool true) t13 fun t14 =>
 gF (wantV t14 false) (fun k => k t1) fun t16 =>
 gF (wantV t14 false) (binCK P .lss 3 3 t16 (.int .i64 1) h) fun t17 =>
 pickVK t14 (.bool true) t17 fun t18 =>
 gF (wantV t18 false) (fun k => k t1) fun t20 =>
 gF (wantV t18 false) (binCK P .gtr 3 3 t20 (.int .i64 4096) h) fun t21 =>
 pickVK t18 (.bool true) t21 fun t22 =>
 condK t22
 (bumpK 2 h fun h =>
  K (.tuple #[(.pointer none), (.int .i64 2)]) h)
 (regV 10 h fun b h =>
 binVK P .add 3 3 t0 t1 h fun t25 =>
 opF (makeSliceA P 275 t25 t25 (b + 3) h) fun t26 h =>
 opF (makeSliceA P 276 t1 t1 (b + 6) h) fun t29 h =>
 rd' (buildA P 278 [(0, t26), (1, t0), (2, t29)]) fun t30 =>
 boxVK t30 (b + 8) h fun t31 h =>
 bumpK 2 h fun h =>
 L (v130_l7 X L) ⟨(upds (argsEnv [t0, t1]) [(4, (.pointer none)), (5, (.int .i64 0)), (9, t0), (10, t10), (11, t10), (12, t12), (13, t13), (14, t14), (15, t14), (16, t16), (17, t17), (18, t18), (19, t18), (20, t20), (21, t21), (22, t22), (23, t0), (24, t1), (25, t25), (26, t26), (27, t0), (28, t1), (29, t29), (30, t30), (31, t31), (6, t31), (32, t1), (33, (.int .i64 0))]), []⟩ (blkX 0 (seqX (fun a h => v130_j5 X L K h a) (finX P X Tryz.f130 K))) h)
theorem v130_eq (X : Caller) (L : Looper) (K : Value → AHeap → Prop) (h : AHeap) (t0 t1 : Value) : f130 X L K h t0 t1 = v130 X L K h t0 t1 := by
  unfold f130 v130
  simp only [rdK_rd', nilVK_eq, newVK_eq, boxVK_eq, pickVK_eq, extVK_eq, gF_rd, gF_some, gF_nil, gF_pick, gF_ext, bumpK_eq, regV_eq, ld1K_eq', ldNK_eq', binVK_eq', binCK_eq', binDK_eq', stVK_eq, fAddrK_eq', ixSK_eq', ixRK_eq', unVK_eq', opF_eq, v130_l7_eq, v130_l7_eq', v130_j5_eq]
theorem w130_eq (X : Caller) (L : Looper) (K : Value → AHeap → Prop) (h : AHeap) (t0 t1 : Value) : aJob P X L (.call 130 [t0, t1]) K h = v130 X L K h t0 t1 := (f130_eq X L K h t0 t1).trans (v130_eq X L K h t0 t1)
def v131 (X : Caller) (L : Looper) (K : Value → AHeap → Prop) (h : AHeap) (t0 : Value) : Prop :=
 bumpK 1 h fun h =>
 bumpK 14 h fun h =>
 binCK P .gtr 3 3 t0 (.int .i64 0) h fun t4 =>
 gF (wantV t4 true) (fun k => k t0) fun t6 =>
 gF (wantV t4 true) (binCK P .leq 3 3 t6 (.int .i64 1048576) h) fun t7 =>
 pickVK t4 t7 (.bool false) fun t8 =>
 gF (wantV t8 true) (fun k => k t0) fun t10 =>
 gF (wantV t8 true) (fun k => k t0) fun t11 =>
 gF (wantV t8 true) (binCK P .sub 3 3 t11 (.int .i64 1) h) fun t12 =>
 gF (wantV t8 true) (binVK P .and 3 3 t10 t12 h) fun t13 =>
 gF (wantV t8 true) (binCK P .eql 3 3 t13 (.int .i64 0) h) fun t14 =>
 pickVK t8 t14 (.bool false) fun t15 =>
 K t15 h
theorem v131_eq (X : Caller) (L : Looper) (K : Value → AHeap → Prop) (h : AHeap) (t0 : Value) : f131 X L K h t0 = v131 X L K h t0 := by
  unfold f131 v131
  simp only [rdK_rd', nilVK_eq, newVK_eq, boxVK_eq, pickVK_eq, extVK_eq, gF_rd, gF_some, gF_nil, gF_pick, gF_ext, bumpK_eq, regV_eq, ld1K_eq', ldNK_eq', binVK_eq', binCK_eq', binDK_eq', stVK_eq, fAddrK_eq', ixSK_eq', ixRK_eq', unVK_eq', opF_eq]
theorem w131_eq (X : Caller) (L : Looper) (K : Value → AHeap → Prop) (h : AHeap) (t0 : Value) : aJob P X L (.call 131 [t0]) K h = v131 X L K h t0 := (f131_eq X L K h t0).trans (v131_eq X L K h t0)
def v132 (X : Caller) (L : Looper) (K : Value → AHeap → Prop) (h : AHeap) : Prop :=
 bumpK 1 h fun h =>
 bumpK 2 h fun h =>
 X (.call 179 [(.int .u8 128)]) (fun t1 h =>
 K t1 h) h
theorem v132_eq (X : Caller) (L : Looper) (K : Value → AHeap → Prop) (h : AHeap) : f132 X L K h  = v132 X L K h  := by
  unfold f132 v132
  simp only [rdK_rd', nilVK_eq, newVK_eq, boxVK_eq, pickVK_eq, extVK_eq, gF_rd, gF_some, gF_nil, gF_pick, gF_ext, bumpK_eq, regV_eq, ld1K_eq', ldNK_eq', binVK_eq', binCK_eq', binDK_eq', stVK_eq, fAddrK_eq', ixSK_eq', ixRK_eq', unVK_eq', opF_eq]
theorem w132_eq (X : Caller) (L : Looper) (K : Value → AHeap → Prop) (h : AHeap) : aJob P X L (.call 132 []) K h = v132 X L K h  := (f132_eq X L K h ).trans (v132_eq X L K h )
def v133 (X : Caller) (L : Looper) (K : Value → AHeap → Prop) (h : AHeap) : Prop :=
 bumpK 1 h fun h =>
 bumpK 6 h fun h =>
 X (.call 130 [(.int .i64 8), (.int .i64 256)]) (fun t4 h =>
 extVK 0 t4 fun t5 =>
 extVK 1 t4 fun t6 =>
 regV 4 h fun b h =>
 rd' (buildA P 287 [(0, t5)]) fun t8 =>
 boxVK t8 (b + 2) h fun t9 h =>
 K t9 h) h
theorem v133_eq (X : Caller) (L : Looper) (K : Value → AHeap → Prop) (h : AHeap) : f133 X L K h  = v133 X L K h  := by
  unfold f133 v133
  simp only [rdK_rd', nilVK_eq, newVK_eq, boxVK_eq, pickVK_eq, extVK_eq, gF_rd, gF_some, gF_nil, gF_pick, gF_ext, bumpK_eq, regV_eq, ld1K_eq', ldNK_eq', binVK_eq', binCK_eq', binDK_eq', stVK_eq, fAddrK_eq', ixSK_eq', ixRK_eq', unVK_eq', opF_eq]
theorem w133_eq (X : Caller) (L : Looper) (K : Value → AHeap → Prop) (h : AHeap) : aJob P X L (.call 133 []) K h = v133 X L K h  := (f133_eq X L K h ).trans (v133_eq X L K h )
def v134 (X : Caller) (L : Looper) (K : Value → AHeap → Prop) (h : AHeap) (t0 t1 : Value) : Prop :=
 bumpK 1 h fun h =>
 bumpK 10 h fun h =>
 binCK P .eql 159 159 t0 (.pointer none) h fun t7 =>
 gF (wantV t7 false) (fun k => k t0) fun t9 =>
 gF (wantV t7 false) (nilVK t9) fun t10 =>
 gF (wantV t7 false) (fAddrK 9 t10) fun t11 =>
 gF (wantV t7 false) (ld1K t11 h) fun t12 =>
 gF (wantV t7 false) (binCK P .eql 162 162 t12 (.map none) h) fun t13 =>
 pickVK t7 (.bool true) t13 fun t14 =>
 condK t14
 (bumpK 1 h fun h =>
  K (.int .i64 1) h)
 (bumpK 3 h fun h =>
  binCK P .geq 81 81 t1 (.int .u32 4194304) h fun t17 =>
  condK t17
  (bumpK 1 h fun h =>
   K (.int .i64 2) h)
  (bumpK 1 h fun h =>
 K (.int .i64 0) h))
theorem v134_eq (X : Caller) (L : Looper) (K : Value → AHeap → Prop) (h : AHeap) (t0 t1 : Value) : f134 X L K h t0 t1 = v134 X L K h t0 t1 := by
  unfold f134 v134
  simp only [rdK_rd', nilVK_eq, newVK_eq, boxVK_eq, pickVK_eq, extVK_eq, gF_rd, gF_some, gF_nil, gF_pick, gF_ext, bumpK_eq, regV_eq, ld1K_eq', ldNK_eq', binVK_eq', binCK_eq', binDK_eq', stVK_eq, fAddrK_eq', ixSK_eq', ixRK_eq', unVK_eq', opF_eq]
theorem w134_eq (X : Caller) (L : Looper) (K : Value → AHeap → Prop) (h : AHeap) (t0 t1 : Value) : aJob P X L (.call 134 [t0, t1]) K h = v134 X L K h t0 t1 := (f134_eq X L K h t0 t1).trans (v134_eq X L K h t0 t1)
def v135_l13 (X : Caller) (L : Looper) (a : AAct) (K : ActPost) (h : AHeap) : Prop :=
 bumpK 1 h fun h =>
 binVK P .lss 3 3 (a.env 43) (a.env 42) h fun t44 =>
 condK t44
 (bumpK 2 h fun h =>
 regV 6 h fun b h =>
 X (.call 181 [(a.env 0), (a.env 43), (.int .i64 255)]) (fun t49 h =>
 opF (builtinV P .append [143, 143] [(a.env 8), t49] (b + 4) h) fun t50 h =>
 bumpK 2 h fun h =>
 binCK P .add 3 3 (a.env 43) (.int .i64 1) h fun t51 =>
 K .normal ⟨(upds a.env [(44, t44), (45, (a.env 43)), (9, (a.env 43)), (46, (a.env 8)), (47, (a.env 0)), (48, (a.env 43)), (49, t49), (50, t50), (8, t50), (51, t51), (43, t51)]), a.defers⟩ h) h)
 (K (.exit 1) ⟨(upds a.env [(44, t44)]), a.defers⟩ h)
theorem v135_l13_eq (X : Caller) (L : Looper) (a : AAct) (K : ActPost) (h : AHeap) : f135_l13 X L a K h = v135_l13 X L a K h := by
  unfold f135_l13 v135_l13
  simp only [rdK_rd', nilVK_eq, newVK_eq, boxVK_eq, pickVK_eq, extVK_eq, gF_rd, gF_some, gF_nil, gF_pick, gF_ext, bumpK_eq, regV_eq, ld1K_eq', ldNK_eq', binVK_eq', binCK_eq', binDK_eq', stVK_eq, fAddrK_eq', ixSK_eq', ixRK_eq', unVK_eq', opF_eq]
theorem v135_l13_eq' (X : Caller) (L : Looper) : f135_l13 X L = v135_l13 X L := by
  funext a K h; exact v135_l13_eq X L a K h
def v135_j25 (X : Caller) (L : Looper) (K : ActPost) (h : AHeap) (a : AAct) : Prop :=
 bumpK 2 h fun h =>
 binCK P .add 3 3 (a.env 60) (.int .i64 1) h fun t85 =>
 K .normal ⟨(upds a.env [(85, t85), (60, t85)]), a.defers⟩ h
theorem v135_j25_eq (X : Caller) (L : Looper) (K : ActPost) (h : AHeap) (a : AAct) : f135_j25 X L K h a = v135_j25 X L K h a := by
  unfold f135_j25 v135_j25
  simp only [rdK_rd', nilVK_eq, newVK_eq, boxVK_eq, pickVK_eq, extVK_eq, gF_rd, gF_some, gF_nil, gF_pick, gF_ext, bumpK_eq, regV_eq, ld1K_eq', ldNK_eq', binVK_eq', binCK_eq', binDK_eq', stVK_eq, fAddrK_eq', ixSK_eq', ixRK_eq', unVK_eq', opF_eq, v135_l13_eq, v135_l13_eq']
def v135_l22 (X : Caller) (L : Looper) (a : AAct) (K : ActPost) (h : AHeap) : Prop :=
 bumpK 1 h fun h =>
 binVK P .lss 3 3 (a.env 60) (a.env 59) h fun t61 =>
 condK t61
 (bumpK 3 h fun h =>
 ixSK 1 (a.env 58) (a.env 60) fun t62 =>
 ld1K t62 h fun t63 =>
 regV 8 h fun b_3 h =>
 nilVK (a.env 0) fun t65 =>
 fAddrK 9 t65 fun t66 =>
 ld1K t66 h fun t67 =>
 rd' (lookupA P 162 t67 t63 false h) fun t69 =>
 newVK [.int .u32 0, .int .u64 0, .int .u64 0] (b_3 + 6) h fun t13 h =>
 stVK 3 t13 t69 h fun h =>
 bumpK 5 h fun h =>
 fAddrK 1 t13 fun t70 =>
 ld1K t70 h fun t71 =>
 X (.call 41 [t71, (a.env 1)]) (fun t73 h =>
 unVK P .not 4 t73 fun t74 =>
 condK t74
 (bumpK 3 h fun h =>
  ldNK 3 t13 h fun t76 =>
  X (.call 182 [(a.env 0), t76]) (fun t77 h =>
  v135_j25 X L K h ⟨(upds a.env [(61, t61), (62, t62), (63, t63), (12, t63), (64, (a.env 0)), (65, t65), (66, t66), (67, t67), (68, t63), (69, t69), (13, t13), (70, t70), (71, t71), (72, (a.env 1)), (73, t73), (74, t74), (75, (a.env 0)), (76, t76), (77, t77)]), a.defers⟩) h)
 (bumpK 3 h fun h =>
 ldNK 3 t13 h fun t79 =>
 X (.call 183 [(a.env 0), t79]) (fun t80 h =>
 regV 5 h fun b_4 h =>
 ldNK 3 t13 h fun t82 =>
 opF (bsliceV P 171 1 [(0, t82)] (b_4 + 2) h) fun t83 h =>
 opF (builtinV P .append [171, 171] [(a.env 10), t83] (b_4 + 3) h) fun t84 h =>
 v135_j25 X L K h ⟨(upds a.env [(61, t61), (62, t62), (63, t63), (12, t63), (64, (a.env 0)), (65, t65), (66, t66), (67, t67), (68, t63), (69, t69), (13, t13), (70, t70), (71, t71), (72, (a.env 1)), (73, t73), (74, t74), (78, (a.env 0)), (79, t79), (80, t80), (81, (a.env 10)), (82, t82), (83, t83), (84, t84), (10, t84)]), a.defers⟩) h)) h)
 (K (.exit 3) ⟨(upds a.env [(61, t61)]), a.defers⟩ h)
theorem v135_l22_eq (X : Caller) (L : Looper) (a : AAct) (K : ActPost) (h : AHeap) : f135_l22 X L a K h = v135_l22 X L a K h := by
  unfold f135_l22 v135_l22
  simp only [rdK_rd', nilVK_eq, newVK_eq, boxVK_eq, pickVK_eq, extVK_eq, gF_rd, gF_some, gF_nil, gF_pick, gF_ext, bumpK_eq, regV_eq, ld1K_eq', ldNK_eq', binVK_eq', binCK_eq', binDK_eq', stVK_eq, fAddrK_eq', ixSK_eq', ixRK_eq', unVK_eq', opF_eq, v135_l13_eq, v135_l13_eq', v135_j25_eq]
theorem v135_l22_eq' (X : Caller) (L : Looper) : f135_l22 X L = v135_l22 X L := by
  funext a K h; exact v135_l22_eq X L a K h
def v135_j20 (X : Caller) (L : Looper) (K : Value → AHeap → Prop) (h : AHeap) (a : AAct) : Prop :=
 bumpK 2 h fun h =>
 X (.call 184 [(a.env 10), (.func (.func 185) #[] #[])]) (fun t87 h =>
 bumpK 3 h fun h =>
 leaveA P X Tryz.f135 ⟨(upds a.env [(86, (a.env 10)), (87, t87), (88, (a.env 10)), (4, (a.env 10)), (5, (.int .i64 0))]), a.defers⟩ K a.defers h) h
theorem v135_j20_eq (X : Caller) (L : Looper) (K : Value → AHeap → Prop) (h : AHeap) (a : AAct) : f135_j20 X L K h a = v135_j20 X L K h a := by
  unfold f135_j20 v135_j20
  simp only [rdK_rd', nilVK_eq, newVK_eq, boxVK_eq, pickVK_eq, extVK_eq, gF_rd, gF_some, gF_nil, gF_pick, gF_ext, bumpK_eq, regV_eq, ld1K_eq', ldNK_eq', binVK_eq', binCK_eq', binDK_eq', stVK_eq, fAddrK_eq', ixSK_eq', ixRK_eq', unVK_eq', opF_eq, v135_l13_eq, v135_l13_eq', v135_j25_eq, v135_l22_eq, v135_l22_eq']
def v135_j11 (X : Caller) (L : Looper) (K : Value → AHeap → Prop) (h : AHeap) (a : AAct) : Prop :=
 regV 7 h fun b_1 h =>
 X (.call 181 [(a.env 0), (a.env 6), (a.env 7)]) (fun t56 h =>
 opF (builtinV P .append [143, 143] [(a.env 8), t56] (b_1 + 5) h) fun t57 h =>
 bumpK 1 h fun h =>
 regV 3 h fun b_2 h =>
 opF (builtinV P .len [143] [t57] (b_2 + 1) h) fun t59 h =>
 L (v135_l22 X L) ⟨(upds a.env [(52, (a.env 8)), (53, (a.env 0)), (54, (a.env 6)), (55, (a.env 7)), (56, t56), (57, t57), (8, t57), (10, (.slice none 0 0)), (58, t57), (59, t59), (60, (.int .i64 0))]), a.defers⟩ (blkX 3 (seqX (fun a h => v135_j20 X L K h a) (finX P X Tryz.f135 K))) h) h
theorem v135_j11_eq (X : Caller) (L : Looper) (K : Value → AHeap → Prop) (h : AHeap) (a : AAct) : f135_j11 X L K h a = v135_j11 X L K h a := by
  unfold f135_j11 v135_j11
  simp only [rdK_rd', nilVK_eq, newVK_eq, boxVK_eq, pickVK_eq, extVK_eq, gF_rd, gF_some, gF_nil, gF_pick, gF_ext, bumpK_eq, regV_eq, ld1K_eq', ldNK_eq', binVK_eq', binCK_eq', binDK_eq', stVK_eq, fAddrK_eq', ixSK_eq', ixRK_eq', unVK_eq', opF_eq, v135_l13_eq, v135_l13_eq', v135_j25_eq, v135_l22_eq, v135_l22_eq', v135_j20_eq]
def v135 (X : Caller) (L : Looper) (K : Value → AHeap → Prop) (h : AHeap) (t0 t1 : Value) : Prop :=
 bumpK 2 h fun h =>
 bumpK 4 h fun h =>
 X (.call 134 [t0, (.int .u32 0)]) (fun t16 h =>
 binCK P .neq 24 24 t16 (.int .i64 0) h fun t17 =>
 condK t17
 (bumpK 2 h fun h =>
  K (.tuple #[(.slice none 0 0), (.int .i64 1)]) h)
 (bumpK 7 h fun h =>
  nilVK t0 fun t21 =>
  fAddrK 0 t21 fun t22 =>
  ld1K t22 h fun t23 =>
  binVK P .lss 33 33 t1 t23 h fun t24 =>
  condK t24
  (bumpK 2 h fun h =>
   K (.tuple #[(.slice none 0 0), (.int .i64 3)]) h)
  (bumpK 7 h fun h =>
   nilVK t0 fun t28 =>
   fAddrK 0 t28 fun t29 =>
   ld1K t29 h fun t30 =>
   binVK P .eql 33 33 t1 t30 h fun t31 =>
   condK t31
   (bumpK 2 h fun h =>
    K (.tuple #[(.slice none 0 0), (.int .i64 0)]) h)
   (bumpK 8 h fun h =>
 X (.call 180 [t0, t1]) (fun t35 h =>
 extVK 0 t35 fun t36 =>
 extVK 1 t35 fun t37 =>
 bumpK 5 h fun h =>
 nilVK t0 fun t40 =>
 fAddrK 0 t40 fun t41 =>
 stVK 1 t41 t1 h fun h =>
 bumpK 1 h fun h =>
 bumpK 2 h fun h =>
 L (v135_l13 X L) ⟨(upds (argsEnv [t0, t1]) [(4, (.slice none 0 0)), (5, (.int .i64 0)), (15, t0), (16, t16), (17, t17), (14, t17), (19, t1), (20, t0), (21, t21), (22, t22), (23, t23), (24, t24), (18, t24), (26, t1), (27, t0), (28, t28), (29, t29), (30, t30), (31, t31), (25, t31), (33, t0), (34, t1), (35, t35), (32, t35), (36, t36), (37, t37), (6, t36), (7, t37), (38, t0), (39, t1), (40, t40), (41, t41), (8, (.slice none 0 0)), (42, t36), (43, (.int .i64 0))]), []⟩ (blkX 1 (seqX (fun a h => v135_j11 X L K h a) (finX P X Tryz.f135 K))) h) h)))) h
theorem v135_eq (X : Caller) (L : Looper) (K : Value → AHeap → Prop) (h : AHeap) (t0 t1 : Value) : f135 X L K h t0 t1 = v135 X L K h t0 t1 := by
  unfold f135 v135
  simp only [rdK_rd', nilVK_eq, newVK_eq, boxVK_eq, pickVK_eq, extVK_eq, gF_rd, gF_some, gF_nil, gF_pick, gF_ext, bumpK_eq, regV_eq, ld1K_eq', ldNK_eq', binVK_eq', binCK_eq', binDK_eq', stVK_eq, fAddrK_eq', ixSK_eq', ixRK_eq', unVK_eq', opF_eq, v135_l13_eq, v135_l13_eq', v135_j25_eq, v135_l22_eq, v135_l22_eq', v135_j20_eq, v135_j11_eq]
theorem w135_eq (X : Caller) (L : Looper) (K : Value → AHeap → Prop) (h : AHeap) (t0 t1 : Value) : aJob P X L (.call 135 [t0, t1]) K h = v135 X L K h t0 t1 := (f135_eq X L K h t0 t1).trans (v135_eq X L K h t0 t1)
def v136 (X : Caller) (L : Looper) (K : Value → AHeap → Prop) (h : AHeap) (t0 : Value) : Prop :=
 bumpK 1 h fun h =>
 bumpK 11 h fun h =>
 binCK P .eql 86 86 t0 (.pointer none) h fun t4 =>
 gF (wantV t4 false) (fun k => k t0) fun t6 =>
 gF (wantV t4 false) (nilVK t6) fun t7 =>
 gF (wantV t4 false) (fAddrK 0 t7) fun t8 =>
 gF (wantV t4 false) (ldNK 2 t8 h) fun t9 =>
 gF (wantV t4 false) (rd' (buildA P 150 [])) fun t10 =>
 gF (wantV t4 false) (binVK P .eql 150 150 t9 t10 h) fun t11 =>
 pickVK t4 (.bool true) t11 fun t12 =>
 K t12 h
theorem v136_eq (X : Caller) (L : Looper) (K : Value → AHeap → Prop) (h : AHeap) (t0 : Value) : f136 X L K h t0 = v136 X L K h t0 := by
  unfold f136 v136
  simp only [rdK_rd', nilVK_eq, newVK_eq, boxVK_eq, pickVK_eq, extVK_eq, gF_rd, gF_some, gF_nil, gF_pick, gF_ext, bumpK_eq, regV_eq, ld1K_eq', ldNK_eq', binVK_eq', binCK_eq', binDK_eq', stVK_eq, fAddrK_eq', ixSK_eq', ixRK_eq', unVK_eq', opF_eq]
theorem w136_eq (X : Caller) (L : Looper) (K : Value → AHeap → Prop) (h : AHeap) (t0 : Value) : aJob P X L (.call 136 [t0]) K h = v136 X L K h t0 := (f136_eq X L K h t0).trans (v136_eq X L K h t0)
def v137_l5 (X : Caller) (L : Looper) (a : AAct) (K : ActPost) (h : AHeap) : Prop :=
 bumpK 1 h fun h =>
 binVK P .lss 3 3 (a.env 22) (a.env 21) h fun t23 =>
 condK t23
 (regV 4 h fun b_4 h =>
 ixSK 2 (a.env 20) (a.env 22) fun t24 =>
 ldNK 2 t24 h fun t25 =>
 newVK [.int .u32 0, .int .i64 0] (b_4 + 2) h fun t11 h =>
 stVK 2 t11 t25 h fun h =>
 bumpK 13 h fun h =>
 fAddrK 0 t11 fun t26 =>
 ld1K t26 h fun t27 =>
 binCK P .geq 81 81 t27 (.int .u32 4194304) h fun t28 =>
 gF (wantV t28 false) (fAddrK 1 t11) fun t30 =>
 gF (wantV t28 false) (ld1K t30 h) fun t31 =>
 gF (wantV t28 false) (binCK P .lss 3 3 t31 (.int .i64 0) h) fun t32 =>
 pickVK t28 (.bool true) t32 fun t33 =>
 gF (wantV t33 false) (fAddrK 1 t11) fun t35 =>
 gF (wantV t33 false) (ld1K t35 h) fun t36 =>
 gF (wantV t33 false) (binCK P .gtr 3 3 t36 (.int .i64 1099511627776) h) fun t37 =>
 pickVK t33 (.bool true) t37 fun t38 =>
 condK t38
 (bumpK 3 h fun h =>
  rd' (buildA P 238 []) fun t39 =>
  stVK 2 (a.env 6) t39 h fun h =>
  K .ret ⟨(upds a.env [(23, t23), (24, t24), (25, t25), (11, t11), (26, t26), (27, t27), (28, t28), (29, t28), (30, t30), (31, t31), (32, t32), (33, t33), (34, t33), (35, t35), (36, t36), (37, t37), (38, t38), (39, t39), (7, (.int .i64 2))]), a.defers⟩ h)
 (bumpK 5 h fun h =>
 fAddrK 0 t11 fun t41 =>
 ld1K t41 h fun t42 =>
 rd' (buildA P 296 []) fun t43 =>
 stK (mapPutA P 295 (a.env 9) t42 t43 h) fun h =>
 bumpK 2 h fun h =>
 binCK P .add 3 3 (a.env 22) (.int .i64 1) h fun t44 =>
 K .normal ⟨(upds a.env [(23, t23), (24, t24), (25, t25), (11, t11), (26, t26), (27, t27), (28, t28), (29, t28), (30, t30), (31, t31), (32, t32), (33, t33), (34, t33), (35, t35), (36, t36), (37, t37), (38, t38), (40, (a.env 9)), (41, t41), (42, t42), (43, t43), (44, t44), (22, t44)]), a.defers⟩ h))
 (K (.exit 0) ⟨(upds a.env [(23, t23)]), a.defers⟩ h)
theorem v137_l5_eq (X : Caller) (L : Looper) (a : AAct) (K : ActPost) (h : AHeap) : f137_l5 X L a K h = v137_l5 X L a K h := by
  unfold f137_l5 v137_l5
  simp only [rdK_rd', nilVK_eq, newVK_eq, boxVK_eq, pickVK_eq, extVK_eq, gF_rd, gF_some, gF_nil, gF_pick, gF_ext, bumpK_eq, regV_eq, ld1K_eq', ldNK_eq', binVK_eq', binCK_eq', binDK_eq', stVK_eq, fAddrK_eq', ixSK_eq', ixRK_eq', unVK_eq', opF_eq]
theorem v137_l5_eq' (X : Caller) (L : Looper) : f137_l5 X L = v137_l5 X L := by
  funext a K h; exact v137_l5_eq X L a K h
def v137_j3 (X : Caller) (L : Looper) (K : Value → AHeap → Prop) (h : AHeap) (a : AAct) : Prop :=
 regV 11 h fun b_5 h =>
 opF (builtinV P .len [295] [(a.env 9)] (b_5 + 1) h) fun t46 h =>
 fAddrK 0 (a.env 8) fun t47 =>
 ld1K t47 h fun t48 =>
 opF (builtinV P .len [178] [t48] (b_5 + 4) h) fun t49 h =>
 binVK P .neq 3 3 t46 t49 h fun t50 =>
 gF (wantV t50 false) (fun k => k ((a.env 9))) fun t52 =>
 gopK (wantV t50 false) h (builtinV P .len [295] [t52] (b_5 + 8) h) fun t53 h =>
 gF (wantV t50 false) (binCK P .gtr 3 3 t53 (.int .i64 2097152) h) fun t54 =>
 pickVK t50 (.bool true) t54 fun t55 =>
 condK t55
 (bumpK 3 h fun h =>
  rd' (buildA P 238 []) fun t56 =>
  stVK 2 (a.env 6) t56 h fun h =>
  leaveA P X Tryz.f137 ⟨(upds a.env [(45, (a.env 9)), (46, t46), (47, t47), (48, t48), (49, t49), (50, t50), (51, t50), (52, t52), (53, t53), (54, t54), (55, t55), (56, t56), (7, (.int .i64 2))]), a.defers⟩ K a.defers h)
 (bumpK 3 h fun h =>
 ldNK 2 (a.env 8) h fun t57 =>
 stVK 2 (a.env 6) t57 h fun h =>
 leaveA P X Tryz.f137 ⟨(upds a.env [(45, (a.env 9)), (46, t46), (47, t47), (48, t48), (49, t49), (50, t50), (51, t50), (52, t52), (53, t53), (54, t54), (55, t55), (57, t57), (7, (.int .i64 0))]), a.defers⟩ K a.defers h)
theorem v137_j3_eq (X : Caller) (L : Looper) (K : Value → AHeap → Prop) (h : AHeap) (a : AAct) : f137_j3 X L K h a = v137_j3 X L K h a := by
  unfold f137_j3 v137_j3
  simp only [rdK_rd', nilVK_eq, newVK_eq, boxVK_eq, pickVK_eq, extVK_eq, gF_rd, gF_some, gF_nil, gF_pick, gF_ext, bumpK_eq, regV_eq, ld1K_eq', ldNK_eq', binVK_eq', binCK_eq', binDK_eq', stVK_eq, fAddrK_eq', ixSK_eq', ixRK_eq', unVK_eq', opF_eq, v137_l5_eq, v137_l5_eq']
def v137 (X : Caller) (L : Looper) (K : Value → AHeap → Prop) (h : AHeap) (t0 t1 t2 : Value) : Prop :=
 regV 2 h fun b h =>
 newVK [.slice none 0 0, .int .u32 0] (b + 0) h fun t6 h =>
 regV 8 h fun b_1 h =>
 opF (bsliceV P 334 2 [(0, t0), (1, t1)] (b_1 + 2) h) fun t14 h =>
 X (.call 189 [t14]) (fun t15 h =>
 rd' (buildA P 238 [(0, t15), (1, t2)]) fun t17 =>
 newVK [.slice none 0 0, .int .u32 0] (b_1 + 6) h fun t8 h =>
 stVK 2 t8 t17 h fun h =>
 regV 2 h fun b_2 h =>
 opF (mapV (b_2 + 0) h) fun t18 h =>
 regV 4 h fun b_3 h =>
 fAddrK 0 t8 fun t19 =>
 ld1K t19 h fun t20 =>
 opF (builtinV P .len [178] [t20] (b_3 + 2) h) fun t21 h =>
 L (v137_l5 X L) ⟨(upds (argsEnv [t0, t1, t2]) [(6, t6), (7, (.int .i64 0)), (12, t0), (13, t1), (14, t14), (15, t15), (16, t2), (17, t17), (8, t8), (18, t18), (9, t18), (19, t19), (20, t20), (21, t21), (22, (.int .i64 0))]), []⟩ (blkX 0 (seqX (fun a h => v137_j3 X L K h a) (finX P X Tryz.f137 K))) h) h
theorem v137_eq (X : Caller) (L : Looper) (K : Value → AHeap → Prop) (h : AHeap) (t0 t1 t2 : Value) : f137 X L K h t0 t1 t2 = v137 X L K h t0 t1 t2 := by
  unfold f137 v137
  simp only [rdK_rd', nilVK_eq, newVK_eq, boxVK_eq, pickVK_eq, extVK_eq, gF_rd, gF_some, gF_nil, gF_pick, gF_ext, bumpK_eq, regV_eq, ld1K_eq', ldNK_eq', binVK_eq', binCK_eq', binDK_eq', stVK_eq, fAddrK_eq', ixSK_eq', ixRK_eq', unVK_eq', opF_eq, v137_l5_eq, v137_l5_eq', v137_j3_eq]
theorem w137_eq (X : Caller) (L : Looper) (K : Value → AHeap → Prop) (h : AHeap) (t0 t1 t2 : Value) : aJob P X L (.call 137 [t0, t1, t2]) K h = v137 X L K h t0 t1 t2 := (f137_eq X L K h t0 t1 t2).trans (v137_eq X L K h t0 t1 t2)
def v138_l4 (X : Caller) (L : Looper) (a : AAct) (K : ActPost) (h : AHeap) : Prop :=
 bumpK 1 h fun h =>
 binVK P .lss 3 3 (a.env 19) (a.env 18) h fun t20 =>
 condK t20
 (regV 4 h fun b_3 h =>
 ixSK 2 (a.env 17) (a.env 19) fun t21 =>
 ldNK 2 t21 h fun t22 =>
 newVK [.int .u32 0, .int .i64 0] (b_3 + 2) h fun t10 h =>
 stVK 2 t10 t22 h fun h =>
 bumpK 5 h fun h =>
 fAddrK 1 t10 fun t24 =>
 ld1K t24 h fun t25 =>
 binVK P .add 3 3 (a.env 8) t25 h fun t26 =>
 bumpK 2 h fun h =>
 binCK P .add 3 3 (a.env 19) (.int .i64 1) h fun t27 =>
 K .normal ⟨(upds a.env [(20, t20), (21, t21), (22, t22), (10, t10), (23, (a.env 8)), (24, t24), (25, t25), (26, t26), (8, t26), (27, t27), (19, t27)]), a.defers⟩ h)
 (K (.exit 0) ⟨(upds a.env [(20, t20)]), a.defers⟩ h)
theorem v138_l4_eq (X : Caller) (L : Looper) (a : AAct) (K : ActPost) (h : AHeap) : f138_l4 X L a K h = v138_l4 X L a K h := by
  unfold f138_l4 v138_l4
  simp only [rdK_rd', nilVK_eq, newVK_eq, boxVK_eq, pickVK_eq, extVK_eq, gF_rd, gF_some, gF_nil, gF_pick, gF_ext, bumpK_eq, regV_eq, ld1K_eq', ldNK_eq', binVK_eq', binCK_eq', binDK_eq', stVK_eq, fAddrK_eq', ixSK_eq', ixRK_eq', unVK_eq', opF_eq]
theorem v138_l4_eq' (X : Caller) (L : Looper) : f138_l4 X L = v138_l4 X L := by
  funext a K h; exact v138_l4_eq X L a K h
def v138_l12 (X : Caller) (L : Looper) (a : AAct) (K : ActPost) (h : AHeap) : Prop :=
 regV 13 h fun b_4 h =>
 opF (builtinV P .len [178] [(a.env 12)] (b_4 + 1) h) fun t31 h =>
 binCK P .gtr 3 3 t31 (.int .i64 0) h fun t32 =>
 gF (wantV t32 true) (fun k => k ((a.env 7))) fun t34 =>
 gF (wantV t32 true) (fun k => k ((a.env 1))) fun t35 =>
 gF (wantV t32 true) (binVK P .gtr 3 3 t34 t35 h) fun t36 =>
 gF (wantV t32 true) (fun k => k t36) fun t37 =>
 gF (wantV t37 false) (fun k => k ((a.env 8))) fun t38 =>
 gF (wantV t37 false) (fun k => k ((a.env 2))) fun t39 =>
 gF (wantV t37 false) (binVK P .gtr 3 3 t38 t39 h) fun t40 =>
 gF (wantV t32 true) (pickVK t37 (.bool true) t40) fun t41 =>
 pickVK t32 t41 (.bool false) fun t42 =>
 condK t42
 (bumpK 10 h fun h =>
 binCK P .sub 3 3 (a.env 7) (.int .i64 1) h fun t44 =>
 ixSK 2 (a.env 12) (.int .i64 0) fun t47 =>
 fAddrK 1 t47 fun t48 =>
 ld1K t48 h fun t49 =>
 binVK P .sub 3 3 (a.env 8) t49 h fun t50 =>
 regV 11 h fun b_5 h =>
 ixSK 2 (a.env 12) (.int .i64 0) fun t53 =>
 fAddrK 0 t53 fun t54 =>
 ld1K t54 h fun t55 =>
 opF (bsliceV P 143 1 [(0, t55)] (b_5 + 5) h) fun t56 h =>
 opF (sliceV P 178 (a.env 12) (some (.int .i64 1)) none none h) fun t59 h =>
 opF (builtinV P .append [143, 143] [(a.env 11), t56] (b_5 + 6) h) fun t57 h =>
 chkK (chkR (sliceV P 178 (a.env 12) (some (.int .i64 1)) none none h) t59 true) <|
 K .normal ⟨(upds a.env [(30, (a.env 12)), (31, t31), (32, t32), (33, t32), (34, t34), (35, t35), (36, t36), (37, t37), (38, t38), (39, t39), (40, t40), (41, t41), (42, t42), (43, (a.env 7)), (44, t44), (45, (a.env 8)), (46, (a.env 12)), (47, t47), (48, t48), (49, t49), (50, t50), (7, t44), (8, t50), (51, (a.env 11)), (52, (a.env 12)), (53, t53), (54, t54), (55, t55), (56, t56), (58, (a.env 12)), (59, t59), (57, t57), (11, t57), (12, t59)]), a.defers⟩ h)
 (K (.exit 2) ⟨(upds a.env [(30, (a.env 12)), (31, t31), (32, t32), (33, t32), (34, t34), (35, t35), (36, t36), (37, t37), (38, t38), (39, t39), (40, t40), (41, t41), (42, t42)]), a.defers⟩ h)
theorem v138_l12_eq (X : Caller) (L : Looper) (a : AAct) (K : ActPost) (h : AHeap) : f138_l12 X L a K h = v138_l12 X L a K h := by
  unfold f138_l12 v138_l12
  simp only [rdK_rd', nilVK_eq, newVK_eq, boxVK_eq, pickVK_eq, extVK_eq, gF_rd, gF_some, gF_nil, gF_pick, gF_ext, bumpK_eq, regV_eq, ld1K_eq', ldNK_eq', binVK_eq', binCK_eq', binDK_eq', stVK_eq, fAddrK_eq', ixSK_eq', ixRK_eq', unVK_eq', opF_eq, v138_l4_eq, v138_l4_eq']
theorem v138_l12_eq' (X : Caller) (L : Looper) : f138_l12 X L = v138_l12 X L := by
  funext a K h; exact v138_l12_eq X L a K h
def v138_j11 (X : Caller) (L : Looper) (K : Value → AHeap → Prop) (h : AHeap) (a : AAct) : Prop :=
 bumpK 2 h fun h =>
 leaveA P X Tryz.f138 ⟨(upds a.env [(60, (a.env 11)), (6, (a.env 11))]), a.defers⟩ K a.defers h
theorem v138_j11_eq (X : Caller) (L : Looper) (K : Value → AHeap → Prop) (h : AHeap) (a : AAct) : f138_j11 X L K h a = v138_j11 X L K h a := by
  unfold f138_j11 v138_j11
  simp only [rdK_rd', nilVK_eq, newVK_eq, boxVK_eq, pickVK_eq, extVK_eq, gF_rd, gF_some, gF_nil, gF_pick, gF_ext, bumpK_eq, regV_eq, ld1K_eq', ldNK_eq', binVK_eq', binCK_eq', binDK_eq', stVK_eq, fAddrK_eq', ixSK_eq', ixRK_eq', unVK_eq', opF_eq, v138_l4_eq, v138_l4_eq', v138_l12_eq, v138_l12_eq']
def v138_j2 (X : Caller) (L : Looper) (K : Value → AHeap → Prop) (h : AHeap) (a : AAct) : Prop :=
 bumpK 1 h fun h =>
 bumpK 3 h fun h =>
 ldNK 2 (a.env 3) h fun t28 =>
 X (.call 190 [t28]) (fun t29 h =>
 L (v138_l12 X L) ⟨(upds a.env [(11, (.slice none 0 0)), (28, t28), (29, t29), (12, t29)]), a.defers⟩ (blkX 2 (seqX (fun a h => v138_j11 X L K h a) (finX P X Tryz.f138 K))) h) h
theorem v138_j2_eq (X : Caller) (L : Looper) (K : Value → AHeap → Prop) (h : AHeap) (a : AAct) : f138_j2 X L K h a = v138_j2 X L K h a := by
  unfold f138_j2 v138_j2
  simp only [rdK_rd', nilVK_eq, newVK_eq, boxVK_eq, pickVK_eq, extVK_eq, gF_rd, gF_some, gF_nil, gF_pick, gF_ext, bumpK_eq, regV_eq, ld1K_eq', ldNK_eq', binVK_eq', binCK_eq', binDK_eq', stVK_eq, fAddrK_eq', ixSK_eq', ixRK_eq', unVK_eq', opF_eq, v138_l4_eq, v138_l4_eq', v138_l12_eq, v138_l12_eq', v138_j11_eq]
def v138 (X : Caller) (L : Looper) (K : Value → AHeap → Prop) (h : AHeap) (t0 t1 t2 : Value) : Prop :=
 regV 2 h fun b h =>
 boxVK t0 (b + 0) h fun t3 h =>
 regV 5 h fun b_1 h =>
 fAddrK 0 t3 fun t13 =>
 ld1K t13 h fun t14 =>
 opF (builtinV P .len [178] [t14] (b_1 + 2) h) fun t15 h =>
 regV 4 h fun b_2 h =>
 fAddrK 0 t3 fun t16 =>
 ld1K t16 h fun t17 =>
 opF (builtinV P .len [178] [t17] (b_2 + 2) h) fun t18 h =>
 L (v138_l4 X L) ⟨(upds (argsEnv [t0, t1, t2]) [(3, t3), (6, (.slice none 0 0)), (13, t13), (14, t14), (15, t15), (7, t15), (8, (.int .i64 0)), (16, t16), (17, t17), (18, t18), (19, (.int .i64 0))]), []⟩ (blkX 0 (seqX (fun a h => v138_j2 X L K h a) (finX P X Tryz.f138 K))) h
theorem v138_eq (X : Caller) (L : Looper) (K : Value → AHeap → Prop) (h : AHeap) (t0 t1 t2 : Value) : f138 X L K h t0 t1 t2 = v138 X L K h t0 t1 t2 := by
  unfold f138 v138
  simp only [rdK_rd', nilVK_eq, newVK_eq, boxVK_eq, pickVK_eq, extVK_eq, gF_rd, gF_some, gF_nil, gF_pick, gF_ext, bumpK_eq, regV_eq, ld1K_eq', ldNK_eq', binVK_eq', binCK_eq', binDK_eq', stVK_eq, fAddrK_eq', ixSK_eq', ixRK_eq', unVK_eq', opF_eq, v138_l4_eq, v138_l4_eq', v138_l12_eq, v138_l12_eq', v138_j11_eq, v138_j2_eq]
theorem w138_eq (X : Caller) (L : Looper) (K : Value → AHeap → Prop) (h : AHeap) (t0 t1 t2 : Value) : aJob P X L (.call 138 [t0, t1, t2]) K h = v138 X L K h t0 t1 t2 := (f138_eq X L K h t0 t1 t2).trans (v138_eq X L K h t0 t1 t2)
def v139 (X : Caller) (L : Looper) (K : Value → AHeap → Prop) (h : AHeap) (t0 t1 : Value) : Prop :=
 bumpK 1 h fun h =>
 bumpK 12 h fun h =>
 X (.call 75 [t0, (.int .u32 0), (.int .i64 0)]) (fun t6 h =>
 binCK P .eql 24 24 t6 (.int .i64 0) h fun t7 =>
 gF (wantV t7 true) (fun k => k t1) fun t9 =>
 gF (wantV t7 true) (binCK P .geq 94 94 t9 (.int .i64 0) h) fun t10 =>
 pickVK t7 t10 (.bool false) fun t11 =>
 gF (wantV t11 true) (fun k => k t1) fun t13 =>
 gF (wantV t11 true) (binCK P .leq 94 94 t13 (.int .i64 1) h) fun t14 =>
 pickVK t11 t14 (.bool false) fun t15 =>
 K t15 h) h
theorem v139_eq (X : Caller) (L : Looper) (K : Value → AHeap → Prop) (h : AHeap) (t0 t1 : Value) : f139 X L K h t0 t1 = v139 X L K h t0 t1 := by
  unfold f139 v139
  simp only [rdK_rd', nilVK_eq, newVK_eq, boxVK_eq, pickVK_eq, extVK_eq, gF_rd, gF_some, gF_nil, gF_pick, gF_ext, bumpK_eq, regV_eq, ld1K_eq', ldNK_eq', binVK_eq', binCK_eq', binDK_eq', stVK_eq, fAddrK_eq', ixSK_eq', ixRK_eq', unVK_eq', opF_eq]
theorem w139_eq (X : Caller) (L : Looper) (K : Value → AHeap → Prop) (h : AHeap) (t0 t1 : Value) : aJob P X L (.call 139 [t0, t1]) K h = v139 X L K h t0 t1 := (f139_eq X L K h t0 t1).trans (v139_eq X L K h t0 t1)
def v140 (X : Caller) (L : Looper) (K : Value → AHeap → Prop) (h : AHeap) (t0 : Value) : Prop :=
 bumpK 1 h fun h =>
 bumpK 3 h fun h =>
 X (.call 172 [t0, (.int .u32 0)]) (fun t4 h =>
 binCK P .neq 24 24 t4 (.int .i64 0) h fun t5 =>
 condK t5
 (bumpK 1 h fun h =>
  K (.func (.func 191) #[] #[]) h)
 (bumpK 6 h fun h =>
 nilVK t0 fun t7 =>
 fAddrK 0 t7 fun t8 =>
 ld1K t8 h fun t9 =>
 X (.call 192 [t9, (.int .i64 0)]) (fun t10 h =>
 K t10 h) h)) h
theorem v140_eq (X : Caller) (L : Looper) (K : Value → AHeap → Prop) (h : AHeap) (t0 : Value) : f140 X L K h t0 = v140 X L K h t0 := by
  unfold f140 v140
  simp only [rdK_rd', nilVK_eq, newVK_eq, boxVK_eq, pickVK_eq, extVK_eq, gF_rd, gF_some, gF_nil, gF_pick, gF_ext, bumpK_eq, regV_eq, ld1K_eq', ldNK_eq', binVK_eq', binCK_eq', binDK_eq', stVK_eq, fAddrK_eq', ixSK_eq', ixRK_eq', unVK_eq', opF_eq]
theorem w140_eq (X : Caller) (L : Looper) (K : Value → AHeap → Prop) (h : AHeap) (t0 : Value) : aJob P X L (.call 140 [t0]) K h = v140 X L K h t0 := (f140_eq X L K h t0).trans (v140_eq X L K h t0)
def v141 (X : Caller) (L : Looper) (K : Value → AHeap → Prop) (h : AHeap) (t0 : Value) : Prop :=
 bumpK 1 h fun h =>
 bumpK 2 h fun h =>
 X (.call 156 [t0]) (fun t4 h =>
 condK t4
 (bumpK 1 h fun h =>
  K (.int .i64 0) h)
 (regV 6 h fun b h =>
 nilVK t0 fun t6 =>
 fAddrK 1 t6 fun t7 =>
 ld1K t7 h fun t8 =>
 opF (builtinV P .len [226] [t8] (b + 4) h) fun t9 h =>
 K t9 h)) h
theorem v141_eq (X : Caller) (L : Looper) (K : Value → AHeap → Prop) (h : AHeap) (t0 : Value) : f141 X L K h t0 = v141 X L K h t0 := by
  unfold f141 v141
  simp only [rdK_rd', nilVK_eq, newVK_eq, boxVK_eq, pickVK_eq, extVK_eq, gF_rd, gF_some, gF_nil, gF_pick, gF_ext, bumpK_eq, regV_eq, ld1K_eq', ldNK_eq', binVK_eq', binCK_eq', binDK_eq', stVK_eq, fAddrK_eq', ixSK_eq', ixRK_eq', unVK_eq', opF_eq]
theorem w141_eq (X : Caller) (L : Looper) (K : Value → AHeap → Prop) (h : AHeap) (t0 : Value) : aJob P X L (.call 141 [t0]) K h = v141 X L K h t0 := (f141_eq X L K h t0).trans (v141_eq X L K h t0)
def v147 (X : Caller) (L : Looper) (K : Value → AHeap → Prop) (h : AHeap) (t0 t1 t2 : Value) : Prop :=
 bumpK 1 h fun h =>
 regV 15 h fun b h =>
 X (.call 25 [t0]) (fun t8 h =>
 unVK P .not 4 t8 fun t9 =>
 gF (wantV t9 false) (fun k => k t2) fun t11 =>
 gF (wantV t9 false) (binCK P .eql 27 27 t11 (.int .u64 0) h) fun t12 =>
 pickVK t9 (.bool true) t12 fun t13 =>
 rd' (buildA P 308 [(0, t13), (1, (.int .i64 2))]) fun t14 =>
 opF (builtinV P .len [34] [t1] (b + 9) h) fun t16 h =>
 binCK P .gtr 3 3 t16 (.int .i64 65536) h fun t17 =>
 rd' (buildA P 308 [(0, t17), (1, (.int .i64 5))]) fun t18 =>
 opF (bsliceV P 344 2 [(0, t14), (1, t18)] (b + 12) h) fun t19 h =>
 X (.call 199 [t19]) (fun t20 h =>
 K t20 h) h) h
theorem v147_eq (X : Caller) (L : Looper) (K : Value → AHeap → Prop) (h : AHeap) (t0 t1 t2 : Value) : f147 X L K h t0 t1 t2 = v147 X L K h t0 t1 t2 := by
  unfold f147 v147
  simp only [rdK_rd', nilVK_eq, newVK_eq, boxVK_eq, pickVK_eq, extVK_eq, gF_rd, gF_some, gF_nil, gF_pick, gF_ext, bumpK_eq, regV_eq, ld1K_eq', ldNK_eq', binVK_eq', binCK_eq', binDK_eq', stVK_eq, fAddrK_eq', ixSK_eq', ixRK_eq', unVK_eq', opF_eq]
theorem w147_eq (X : Caller) (L : Looper) (K : Value → AHeap → Prop) (h : AHeap) (t0 t1 t2 : Value) : aJob P X L (.call 147 [t0, t1, t2]) K h = v147 X L K h t0 t1 t2 := (f147_eq X L K h t0 t1 t2).trans (v147_eq X L K h t0 t1 t2)
def v148 (X : Caller) (L : Looper) (K : Value → AHeap → Prop) (h : AHeap) (t0 : Value) : Prop :=
 bumpK 1 h fun h =>
 bumpK 10 h fun h =>
 binCK P .eql 84 84 t0 (.pointer none) h fun t4 =>
 gF (wantV t4 false) (fun k => k t0) fun t6 =>
 gF (wantV t4 false) (nilVK t6) fun t7 =>
 gF (wantV t4 false) (fAddrK 0 t7) fun t8 =>
 gF (wantV t4 false) (ld1K t8 h) fun t9 =>
 gF (wantV t4 false) (unVK P .not 4 t9) fun t10 =>
 pickVK t4 (.bool true) t10 fun t11 =>
 K t11 h
theorem v148_eq (X : Caller) (L : Looper) (K : Value → AHeap → Prop) (h : AHeap) (t0 : Value) : f148 X L K h t0 = v148 X L K h t0 := by
  unfold f148 v148
  simp only [rdK_rd', nilVK_eq, newVK_eq, boxVK_eq, pickVK_eq, extVK_eq, gF_rd, gF_some, gF_nil, gF_pick, gF_ext, bumpK_eq, regV_eq, ld1K_eq', ldNK_eq', binVK_eq', binCK_eq', binDK_eq', stVK_eq, fAddrK_eq', ixSK_eq', ixRK_eq', unVK_eq', opF_eq]
theorem w148_eq (X : Caller) (L : Looper) (K : Value → AHeap → Prop) (h : AHeap) (t0 : Value) : aJob P X L (.call 148 [t0]) K h = v148 X L K h t0 := (f148_eq X L K h t0).trans (v148_eq X L K h t0)
def v149 (X : Caller) (L : Looper) (K : Value → AHeap → Prop) (h : AHeap) (t0 t1 t2 t3 : Value) : Prop :=
 bumpK 1 h fun h =>
 bumpK 8 h fun h =>
 X (.call 123 [t0, t1]) (fun t14 h =>
 extVK 0 t14 fun t15 =>
 extVK 1 t14 fun t16 =>
 bumpK 3 h fun h =>
 binCK P .neq 24 24 t16 (.int .i64 0) h fun t19 =>
 condK t19
 (bumpK 2 h fun h =>
  K t16 h)
 (regV 4 h fun b h =>
  opF (builtinV P .len [34] [t2] (b + 1) h) fun t23 h =>
  binCK P .gtr 3 3 t23 (.int .i64 65536) h fun t24 =>
  condK t24
  (bumpK 1 h fun h =>
   K (.int .i64 5) h)
  (bumpK 11 h fun h =>
 X (.call 20 [t2]) (fun t28 h =>
 nilVK t15 fun t30 =>
 fAddrK 1 t30 fun t31 =>
 stVK 1 t31 t28 h fun h =>
 nilVK t15 fun t32 =>
 fAddrK 2 t32 fun t33 =>
 stVK 1 t33 t3 h fun h =>
 bumpK 1 h fun h =>
 K (.int .i64 0) h) h))) h
theorem v149_eq (X : Caller) (L : Looper) (K : Value → AHeap → Prop) (h : AHeap) (t0 t1 t2 t3 : Value) : f149 X L K h t0 t1 t2 t3 = v149 X L K h t0 t1 t2 t3 := by
  unfold f149 v149
  simp only [rdK_rd', nilVK_eq, newVK_eq, boxVK_eq, pickVK_eq, extVK_eq, gF_rd, gF_some, gF_nil, gF_pick, gF_ext, bumpK_eq, regV_eq, ld1K_eq', ldNK_eq', binVK_eq', binCK_eq', binDK_eq', stVK_eq, fAddrK_eq', ixSK_eq', ixRK_eq', unVK_eq', opF_eq]
theorem w149_eq (X : Caller) (L : Looper) (K : Value → AHeap → Prop) (h : AHeap) (t0 t1 t2 t3 : Value) : aJob P X L (.call 149 [t0, t1, t2, t3]) K h = v149 X L K h t0 t1 t2 t3 := (f149_eq X L K h t0 t1 t2 t3).trans (v149_eq X L K h t0 t1 t2 t3)
def v150_j1 (X : Caller) (L : Looper) (K : Value → AHeap → Prop) (h : AHeap) (t0 t13 t14 t15 t3 t17 t19 t20 t21 t23 t25 t16 t18 t28 t29 t26 t22 t24 t30 t31 t27 : Value) : Prop :=
 bumpK 21 h fun h =>
 nilVK t0 fun t14_1 =>
 fAddrK 1 t14_1 fun t15_1 =>
 ld1K t15_1 h fun t16_1 =>
 fAddrK 2 t3 fun t17_1 =>
 ld1K t17_1 h fun t18_1 =>
 nilVK t0 fun t20_1 =>
 fAddrK 2 t20_1 fun t21_1 =>
 ld1K t21_1 h fun t22_1 =>
 fAddrK 0 t3 fun t23_1 =>
 ld1K t23_1 h fun t24_1 =>
 fAddrK 0 t3 fun t25_1 =>
 ld1K t25_1 h fun t26_1 =>
 ldNK 3 t3 h fun t27_1 =>
 opF (mapEntryA P 161 t16_1 t18_1 h) fun t28_1 h =>
 chkK (chkR ((ldN 3 t3 h).map (·, h)) t27_1 (chkR ((ld1 t25_1 h).map (·, h)) t26_1 (chkR ((ld1 t23_1 h).map (·, h)) t24_1 true))) <|
 extVK 1 t28_1 fun t29_1 =>
 stK (entryStoreA t16_1 t29_1 t26_1 h) fun h =>
 chkK (chkR ((ldN 3 t3 h).map (·, h)) t27_1 (chkR ((ld1 t23_1 h).map (·, h)) t24_1 true)) <|
 opF (mapEntryA P 162 t22_1 t24_1 h) fun t30_1 h =>
 chkK (chkR ((ldN 3 t3 h).map (·, h)) t27_1 true) <|
 extVK 1 t30_1 fun t31_1 =>
 stK (entryStoreA t22_1 t31_1 t27_1 h) fun h =>
 K (.tuple #[]) h
theorem v150_j1_eq (X : Caller) (L : Looper) (K : Value → AHeap → Prop) (h : AHeap) (t0 t13 t14 t15 t3 t17 t19 t20 t21 t23 t25 t16 t18 t28 t29 t26 t22 t24 t30 t31 t27 : Value) : f150_j1 X L K h t0 t13 t14 t15 t3 t17 t19 t20 t21 t23 t25 t16 t18 t28 t29 t26 t22 t24 t30 t31 t27 = v150_j1 X L K h t0 t13 t14 t15 t3 t17 t19 t20 t21 t23 t25 t16 t18 t28 t29 t26 t22 t24 t30 t31 t27 := by
  unfold f150_j1 v150_j1
  simp only [rdK_rd', nilVK_eq, newVK_eq, boxVK_eq, pickVK_eq, extVK_eq, gF_rd, gF_some, gF_nil, gF_pick, gF_ext, bumpK_eq, regV_eq, ld1K_eq', ldNK_eq', binVK_eq', binCK_eq', binDK_eq', stVK_eq, fAddrK_eq', ixSK_eq', ixRK_eq', unVK_eq', opF_eq]
def v150 (X : Caller) (L : Looper) (K : Value → AHeap → Prop) (h : AHeap) (t0 t1 : Value) : Prop :=
 regV 1 h fun b h =>
 boxVK t1 (b + 0) h fun t3 h =>
 bumpK 3 h fun h =>
 fAddrK 1 t3 fun t4 =>
 ld1K t4 h fun t5 =>
 binCK P .neq 33 33 t5 (.int .u64 18446744073709551615) h fun t6 =>
 condK t6
 (bumpK 6 h fun h =>
  nilVK t0 fun t8 =>
  fAddrK 0 t8 fun t9 =>
  ld1K t9 h fun t10 =>
  ldNK 3 t3 h fun t11 =>
  X (.call 200 [t10, t11]) (fun t12 h =>
  v150_j1 X L K h t0 undef undef undef t3 undef undef undef undef undef undef undef undef undef undef undef undef undef undef undef undef) h)
 (v150_j1 X L K h t0 undef undef undef t3 undef undef undef undef undef undef undef undef undef undef undef undef undef undef undef undef)
theorem v150_eq (X : Caller) (L : Looper) (K : Value → AHeap → Prop) (h : AHeap) (t0 t1 : Value) : f150 X L K h t0 t1 = v150 X L K h t0 t1 := by
  unfold f150 v150
  simp only [rdK_rd', nilVK_eq, newVK_eq, boxVK_eq, pickVK_eq, extVK_eq, gF_rd, gF_some, gF_nil, gF_pick, gF_ext, bumpK_eq, regV_eq, ld1K_eq', ldNK_eq', binVK_eq', binCK_eq', binDK_eq', stVK_eq, fAddrK_eq', ixSK_eq', ixRK_eq', unVK_eq', opF_eq, v150_j1_eq]
theorem w150_eq (X : Caller) (L : Looper) (K : Value → AHeap → Prop) (h : AHeap) (t0 t1 : Value) : aJob P X L (.call 150 [t0, t1]) K h = v150 X L K h t0 t1 := (f150_eq X L K h t0 t1).trans (v150_eq X L K h t0 t1)
def v151 (X : Caller) (L : Looper) (K : Value → AHeap → Prop) (h : AHeap) (t0 t1 t2 t3 : Value) : Prop :=
 regV 2 h fun b h =>
 newVK [.string ⟨#[]⟩, .slice none 0 0, .int .u64 0, .int .u64 0] (b + 0) h fun t8 h =>
 bumpK 5 h fun h =>
 X (.call 147 [t0, t1, t3]) (fun t14 h =>
 bumpK 2 h fun h =>
 binCK P .neq 24 24 t14 (.int .i64 0) h fun t16 =>
 condK t16
 (bumpK 4 h fun h =>
  rd' (buildA P 59 []) fun t17 =>
  stVK 4 t8 t17 h fun h =>
  retK (consR (ldN 4 t8 h) (consR (some t14) (some []))) K h)
 (bumpK 8 h fun h =>
 rd' (buildA P 59 [(0, t0), (1, t1), (2, t2), (3, t3)]) fun t23 =>
 X (.call 124 [t23]) (fun t24 h =>
 stVK 4 t8 t24 h fun h =>
 retK (consR (ldN 4 t8 h) (consR (some (.int .i64 0)) (some []))) K h) h)) h
theorem v151_eq (X : Caller) (L : Looper) (K : Value → AHeap → Prop) (h : AHeap) (t0 t1 t2 t3 : Value) : f151 X L K h t0 t1 t2 t3 = v151 X L K h t0 t1 t2 t3 := by
  unfold f151 v151
  simp only [rdK_rd', nilVK_eq, newVK_eq, boxVK_eq, pickVK_eq, extVK_eq, gF_rd, gF_some, gF_nil, gF_pick, gF_ext, bumpK_eq, regV_eq, ld1K_eq', ldNK_eq', binVK_eq', binCK_eq', binDK_eq', stVK_eq, fAddrK_eq', ixSK_eq', ixRK_eq', unVK_eq', opF_eq]
theorem w151_eq (X : Caller) (L : Looper) (K : Value → AHeap → Prop) (h : AHeap) (t0 t1 t2 t3 : Value) : aJob P X L (.call 151 [t0, t1, t2, t3]) K h = v151 X L K h t0 t1 t2 t3 := (f151_eq X L K h t0 t1 t2 t3).trans (v151_eq X L K h t0 t1 t2 t3)
def v152 (X : Caller) (L : Looper) (K : Value → AHeap → Prop) (h : AHeap) (t0 : Value) : Prop :=
 regV 2 h fun b h =>
 newVK [.int .i64 0, .bool false] (b + 0) h fun t2 h =>
 bumpK 20 h fun h =>
 nilVK t0 fun t5 =>
 fAddrK 3 t5 fun t6 =>
 ld1K t6 h fun t7 =>
 nilVK t0 fun t10 =>
 fAddrK 3 t10 fun t11 =>
 ld1K t11 h fun t12 =>
 nilVK t0 fun t15 =>
 fAddrK 3 t15 fun t16 =>
 ld1K t16 h fun t17 =>
 X (.call 118 [t7]) (fun t8 h =>
 chkK (chkR ((ld1 t16 h).map (·, h)) t17 (chkR ((ld1 t11 h).map (·, h)) t12 true)) <|
 X (.call 119 [t12]) (fun t13 h =>
 chkK (chkR ((ld1 t16 h).map (·, h)) t17 true) <|
 X (.call 120 [t17]) (fun t18 h =>
 X (.call 201 [t8, t13, t18]) (fun t19 h =>
 extVK 0 t19 fun t20 =>
 extVK 1 t19 fun t21 =>
 stVK 2 t2 t20 h fun h =>
 retK (consR (ldN 2 t2 h) (consR (some t21) (some []))) K h) h) h) h) h
theorem v152_eq (X : Caller) (L : Looper) (K : Value → AHeap → Prop) (h : AHeap) (t0 : Value) : f152 X L K h t0 = v152 X L K h t0 := by
  unfold f152 v152
  simp only [rdK_rd', nilVK_eq, newVK_eq, boxVK_eq, pickVK_eq, extVK_eq, gF_rd, gF_some, gF_nil, gF_pick, gF_ext, bumpK_eq, regV_eq, ld1K_eq', ldNK_eq', binVK_eq', binCK_eq', binDK_eq', stVK_eq, fAddrK_eq', ixSK_eq', ixRK_eq', unVK_eq', opF_eq]
theorem w152_eq (X : Caller) (L : Looper) (K : Value → AHeap → Prop) (h : AHeap) (t0 : Value) : aJob P X L (.call 152 [t0]) K h = v152 X L K h t0 := (f152_eq X L K h t0).trans (v152_eq X L K h t0)
def v153 (X : Caller) (L : Looper) (K : Value → AHeap → Prop) (h : AHeap) (t0 : Value) : Prop :=
 regV 2 h fun b h =>
 boxVK t0 (b + 0) h fun t1 h =>
 bumpK 5 h fun h =>
 fAddrK 0 t1 fun t3 =>
 ld1K t3 h fun t4 =>
 X (.call 141 [t4]) (fun t5 h =>
 binCK P .geq 3 3 t5 (.int .i64 4194304) h fun t6 =>
 K t6 h) h
theorem v153_eq (X : Caller) (L : Looper) (K : Value → AHeap → Prop) (h : AHeap) (t0 : Value) : f153 X L K h t0 = v153 X L K h t0 := by
  unfold f153 v153
  simp only [rdK_rd', nilVK_eq, newVK_eq, boxVK_eq, pickVK_eq, extVK_eq, gF_rd, gF_some, gF_nil, gF_pick, gF_ext, bumpK_eq, regV_eq, ld1K_eq', ldNK_eq', binVK_eq', binCK_eq', binDK_eq', stVK_eq, fAddrK_eq', ixSK_eq', ixRK_eq', unVK_eq', opF_eq]
theorem w153_eq (X : Caller) (L : Looper) (K : Value → AHeap → Prop) (h : AHeap) (t0 : Value) : aJob P X L (.call 153 [t0]) K h = v153 X L K h t0 := (f153_eq X L K h t0).trans (v153_eq X L K h t0)
def v154 (X : Caller) (L : Looper) (K : Value → AHeap → Prop) (h : AHeap) (t0 t1 : Value) : Prop :=
 regV 3 h fun b h =>
 boxVK t1 (b + 0) h fun t3 h =>
 bumpK 2 h fun h =>
 X (.call 156 [t0]) (fun t9 h =>
 condK t9
 (bumpK 2 h fun h =>
  K (.tuple #[(.int .u32 0), (.int .i64 1)]) h)
 (regV 15 h fun b_1 h =>
 fAddrK 0 t3 fun t11 =>
 ld1K t11 h fun t12 =>
 fAddrK 1 t3 fun t13 =>
 ld1K t13 h fun t14 =>
 fAddrK 2 t3 fun t15 =>
 ld1K t15 h fun t16 =>
 fAddrK 3 t3 fun t17 =>
 ld1K t17 h fun t18 =>
 X (.call 151 [t12, t14, t16, t18]) (fun t19 h =>
 extVK 0 t19 fun t20 =>
 extVK 1 t19 fun t21 =>
 newVK [.string ⟨#[]⟩, .slice none 0 0, .int .u64 0, .int .u64 0] (b_1 + 12) h fun t6 h =>
 stVK 4 t6 t20 h fun h =>
 bumpK 3 h fun h =>
 binCK P .neq 24 24 t21 (.int .i64 0) h fun t24 =>
 condK t24
 (bumpK 3 h fun h =>
  K (.tuple #[(.int .u32 0), t21]) h)
 (regV 7 h fun b_2 h =>
  nilVK t0 fun t28 =>
  fAddrK 1 t28 fun t29 =>
  ld1K t29 h fun t30 =>
  opF (builtinV P .len [226] [t30] (b_2 + 4) h) fun t31 h =>
  binCK P .geq 3 3 t31 (.int .i64 4194304) h fun t32 =>
  condK t32
  (bumpK 2 h fun h =>
   K (.tuple #[(.int .u32 0), (.int .i64 7)]) h)
  (regV 11 h fun b_3 h =>
 nilVK t0 fun t35 =>
 fAddrK 1 t35 fun t36 =>
 ld1K t36 h fun t37 =>
 ldNK 4 t6 h fun t38 =>
 opF (bsliceV P 226 1 [(0, t38)] (b_3 + 6) h) fun t39 h =>
 opF (builtinV P .append [226, 226] [t37, t39] (b_3 + 7) h) fun t40 h =>
 nilVK t0 fun t41 =>
 fAddrK 1 t41 fun t42 =>
 stVK 1 t42 t40 h fun h =>
 bumpK 8 h fun h =>
 nilVK t0 fun t44 =>
 fAddrK 2 t44 fun t45 =>
 ld1K t45 h fun t46 =>
 binCK P .add 3 3 t46 (.int .i64 1) h fun t47 =>
 nilVK t0 fun t48 =>
 fAddrK 2 t48 fun t49 =>
 stVK 1 t49 t47 h fun h =>
 regV 9 h fun b_4 h =>
 nilVK t0 fun t51 =>
 fAddrK 1 t51 fun t52 =>
 ld1K t52 h fun t53 =>
 opF (builtinV P .len [226] [t53] (b_4 + 4) h) fun t54 h =>
 binCK P .sub 3 3 t54 (.int .i64 1) h fun t55 =>
 opF (convertA P 3 81 t55 (b_4 + 6) h) fun t56 h =>
 K (.tuple #[t56, (.int .i64 0)]) h))) h)) h
theorem v154_eq (X : Caller) (L : Looper) (K : Value → AHeap → Prop) (h : AHeap) (t0 t1 : Value) : f154 X L K h t0 t1 = v154 X L K h t0 t1 := by
  unfold f154 v154
  simp only [rdK_rd', nilVK_eq, newVK_eq, boxVK_eq, pickVK_eq, extVK_eq, gF_rd, gF_some, gF_nil, gF_pick, gF_ext, bumpK_eq, regV_eq, ld1K_eq', ldNK_eq', binVK_eq', binCK_eq', binDK_eq', stVK_eq, fAddrK_eq', ixSK_eq', ixRK_eq', unVK_eq', opF_eq]
theorem w154_eq (X : Caller) (L : Looper) (K : Value → AHeap → Prop) (h : AHeap) (t0 t1 : Value) : aJob P X L (.call 154 [t0, t1]) K h = v154 X L K h t0 t1 := (f154_eq X L K h t0 t1).trans (v154_eq X L K h t0 t1)
def v155 (X : Caller) (L : Looper) (K : Value → AHeap → Prop) (h : AHeap) (t0 t1 : Value) : Prop :=
 bumpK 1 h fun h =>
 regV 8 h fun b h =>
 X (.call 152 [t0]) (fun t9 h =>
 extVK 0 t9 fun t10 =>
 extVK 1 t9 fun t11 =>
 newVK [.int .i64 0, .bool false] (b + 5) h fun t5 h =>
 stVK 2 t5 t10 h fun h =>
 bumpK 2 h fun h =>
 binCK P .neq 24 24 t11 (.int .i64 0) h fun t13 =>
 condK t13
 (bumpK 2 h fun h =>
  K t11 h)
 (bumpK 3 h fun h =>
 ldNK 2 t5 h fun t16 =>
 X (.call 121 [t0, t16]) (fun t17 h =>
 bumpK 10 h fun h =>
 nilVK t0 fun t19 =>
 fAddrK 3 t19 fun t20 =>
 ld1K t20 h fun t21 =>
 X (.call 115 [t0, t1]) (fun t24 h =>
 chkK (chkR ((ld1 t20 h).map (·, h)) t21 true) <|
 X (.call 202 [t21, t24, t1]) (fun t26 h =>
 K t26 h) h) h) h)) h
theorem v155_eq (X : Caller) (L : Looper) (K : Value → AHeap → Prop) (h : AHeap) (t0 t1 : Value) : f155 X L K h t0 t1 = v155 X L K h t0 t1 := by
  unfold f155 v155
  simp only [rdK_rd', nilVK_eq, newVK_eq, boxVK_eq, pickVK_eq, extVK_eq, gF_rd, gF_some, gF_nil, gF_pick, gF_ext, bumpK_eq, regV_eq, ld1K_eq', ldNK_eq', binVK_eq', binCK_eq', binDK_eq', stVK_eq, fAddrK_eq', ixSK_eq', ixRK_eq', unVK_eq', opF_eq]
theorem w155_eq (X : Caller) (L : Looper) (K : Value → AHeap → Prop) (h : AHeap) (t0 t1 : Value) : aJob P X L (.call 155 [t0, t1]) K h = v155 X L K h t0 t1 := (f155_eq X L K h t0 t1).trans (v155_eq X L K h t0 t1)
def v156 (X : Caller) (L : Looper) (K : Value → AHeap → Prop) (h : AHeap) (t0 : Value) : Prop :=
 bumpK 1 h fun h =>
 bumpK 10 h fun h =>
 binCK P .eql 128 128 t0 (.pointer none) h fun t4 =>
 gF (wantV t4 false) (fun k => k t0) fun t6 =>
 gF (wantV t4 false) (nilVK t6) fun t7 =>
 gF (wantV t4 false) (fAddrK 0 t7) fun t8 =>
 gF (wantV t4 false) (ld1K t8 h) fun t9 =>
 gF (wantV t4 false) (unVK P .not 4 t9) fun t10 =>
 pickVK t4 (.bool true) t10 fun t11 =>
 K t11 h
theorem v156_eq (X : Caller) (L : Looper) (K : Value → AHeap → Prop) (h : AHeap) (t0 : Value) : f156 X L K h t0 = v156 X L K h t0 := by
  unfold f156 v156
  simp only [rdK_rd', nilVK_eq, newVK_eq, boxVK_eq, pickVK_eq, extVK_eq, gF_rd, gF_some, gF_nil, gF_pick, gF_ext, bumpK_eq, regV_eq, ld1K_eq', ldNK_eq', binVK_eq', binCK_eq', binDK_eq', stVK_eq, fAddrK_eq', ixSK_eq', ixRK_eq', unVK_eq', opF_eq]
theorem w156_eq (X : Caller) (L : Looper) (K : Value → AHeap → Prop) (h : AHeap) (t0 : Value) : aJob P X L (.call 156 [t0]) K h = v156 X L K h t0 := (f156_eq X L K h t0).trans (v156_eq X L K h t0)
def v157 (X : Caller) (L : Looper) (K : Value → AHeap → Prop) (h : AHeap) (t0 : Value) : Prop :=
 bumpK 1 h fun h =>
 regV 11 h fun b h =>
 binCK P .eql 131 131 t0 (.pointer none) h fun t4 =>
 gF (wantV t4 false) (fun k => k t0) fun t6 =>
 gF (wantV t4 false) (nilVK t6) fun t7 =>
 gF (wantV t4 false) (fAddrK 0 t7) fun t8 =>
 gF (wantV t4 false) (ld1K t8 h) fun t9 =>
 gopK (wantV t4 false) h (builtinV P .len [220] [t9] (b + 7) h) fun t10 h =>
 gF (wantV t4 false) (binCK P .eql 3 3 t10 (.int .i64 0) h) fun t11 =>
 pickVK t4 (.bool true) t11 fun t12 =>
 K t12 h
theorem v157_eq (X : Caller) (L : Looper) (K : Value → AHeap → Prop) (h : AHeap) (t0 : Value) : f157 X L K h t0 = v157 X L K h t0 := by
  unfold f157 v157
  simp only [rdK_rd', nilVK_eq, newVK_eq, boxVK_eq, pickVK_eq, extVK_eq, gF_rd, gF_some, gF_nil, gF_pick, gF_ext, bumpK_eq, regV_eq, ld1K_eq', ldNK_eq', binVK_eq', binCK_eq', binDK_eq', stVK_eq, fAddrK_eq', ixSK_eq', ixRK_eq', unVK_eq', opF_eq]
theorem w157_eq (X : Caller) (L : Looper) (K : Value → AHeap → Prop) (h : AHeap) (t0 : Value) : aJob P X L (.call 157 [t0]) K h = v157 X L K h t0 := (f157_eq X L K h t0).trans (v157_eq X L K h t0)
def v158_j2 (X : Caller) (L : Looper) (K : Value → AHeap → Prop) (h : AHeap) (a : AAct) : Prop :=
 bumpK 3 h fun h =>
 stVK 1 (a.env 6) (.pointer none) h fun h =>
 stVK 1 (a.env 7) (.int .i64 0) h fun h =>
 stVK 1 (a.env 8) (.int .i64 9) h fun h =>
 leaveA P X Tryz.f158 ⟨a.env, a.defers⟩ K a.defers h
theorem v158_j2_eq (X : Caller) (L : Looper) (K : Value → AHeap → Prop) (h : AHeap) (a : AAct) : f158_j2 X L K h a = v158_j2 X L K h a := by
  unfold f158_j2 v158_j2
  simp only [rdK_rd', nilVK_eq, newVK_eq, boxVK_eq, pickVK_eq, extVK_eq, gF_rd, gF_some, gF_nil, gF_pick, gF_ext, bumpK_eq, regV_eq, ld1K_eq', ldNK_eq', binVK_eq', binCK_eq', binDK_eq', stVK_eq, fAddrK_eq', ixSK_eq', ixRK_eq', unVK_eq', opF_eq]
def v158 (X : Caller) (L : Looper) (K : Value → AHeap → Prop) (h : AHeap) (t0 t1 t2 : Value) : Prop :=
 regV 6 h fun b h =>
 boxVK t0 (b + 0) h fun t3 h =>
 boxVK t1 (b + 1) h fun t4 h =>
 boxVK t2 (b + 2) h fun t5 h =>
 newVK [.pointer none] (b + 3) h fun t6 h =>
 newVK [.int .i64 0] (b + 4) h fun t7 h =>
 newVK [.int .i64 0] (b + 5) h fun t8 h =>
 regV 13 h fun b_1 h =>
 ld1K t4 h fun t15 =>
 ld1K t3 h fun t17 =>
 nilVK t17 fun t18 =>
 fAddrK 0 t18 fun t19 =>
 ld1K t19 h fun t20 =>
 opF (builtinV P .len [220] [t20] (b_1 + 6) h) fun t21 h =>
 X (.call 204 [t15]) (fun t16 h =>
 chkK (chkR (builtinV P .len [220] [t20] (b_1 + 6) h) t21 (chkR ((ld1 t19 h).map (·, h)) t20 (chkR ((ld1 t3 h).map (·, h)) t17 true))) <|
 X (.call 203 [t16, t21]) (fun t22 h =>
 extVK 0 t22 fun t23 =>
 extVK 1 t22 fun t24 =>
 bumpK 1 h fun h =>
 rangeK X t23 ⟨(upds (argsEnv [t0, t1, t2]) [(3, t3), (4, t4), (5, t5), (6, t6), (7, t7), (8, t8), (15, t15), (17, t17), (18, t18), (19, t19), (20, t20), (21, t21), (16, t16), (22, t22), (14, t22), (23, t23), (24, t24), (9, t23), (10, t24), (25, t23)]), []⟩ [26] f158_ca0 f158_cb0 (blkX 0 (seqX (fun a h => v158_j2 X L K h a) (finX P X Tryz.f158 K))) h) h) h
theorem v158_eq (X : Caller) (L : Looper) (K : Value → AHeap → Prop) (h : AHeap) (t0 t1 t2 : Value) : f158 X L K h t0 t1 t2 = v158 X L K h t0 t1 t2 := by
  unfold f158 v158
  simp only [rdK_rd', nilVK_eq, newVK_eq, boxVK_eq, pickVK_eq, extVK_eq, gF_rd, gF_some, gF_nil, gF_pick, gF_ext, bumpK_eq, regV_eq, ld1K_eq', ldNK_eq', binVK_eq', binCK_eq', binDK_eq', stVK_eq, fAddrK_eq', ixSK_eq', ixRK_eq', unVK_eq', opF_eq, v158_j2_eq]
theorem w158_eq (X : Caller) (L : Looper) (K : Value → AHeap → Prop) (h : AHeap) (t0 t1 t2 : Value) : aJob P X L (.call 158 [t0, t1, t2]) K h = v158 X L K h t0 t1 t2 := (f158_eq X L K h t0 t1 t2).trans (v158_eq X L K h t0 t1 t2)
def v159 (X : Caller) (L : Looper) (K : Value → AHeap → Prop) (h : AHeap) (t0 : Value) : Prop :=
 bumpK 1 h fun h =>
 bumpK 6 h fun h =>
 binCK P .shr 27 316 t0 (.int .u64 29) h fun t6 =>
 binVK P .xor 27 27 t0 t6 h fun t7 =>
 binDK P .mul 27 27 (.int .u64 5) t7 h fun t8 =>
 bumpK 5 h fun h =>
 binCK P .shr 27 316 t8 (.int .u64 32) h fun t11 =>
 binVK P .xor 27 27 t8 t11 h fun t12 =>
 K t12 h
theorem v159_eq (X : Caller) (L : Looper) (K : Value → AHeap → Prop) (h : AHeap) (t0 : Value) : f159 X L K h t0 = v159 X L K h t0 := by
  unfold f159 v159
  simp only [rdK_rd', nilVK_eq, newVK_eq, boxVK_eq, pickVK_eq, extVK_eq, gF_rd, gF_some, gF_nil, gF_pick, gF_ext, bumpK_eq, regV_eq, ld1K_eq', ldNK_eq', binVK_eq', binCK_eq', binDK_eq', stVK_eq, fAddrK_eq', ixSK_eq', ixRK_eq', unVK_eq', opF_eq]
theorem w159_eq (X : Caller) (L : Looper) (K : Value → AHeap → Prop) (h : AHeap) (t0 : Value) : aJob P X L (.call 159 [t0]) K h = v159 X L K h t0 := (f159_eq X L K h t0).trans (v159_eq X L K h t0)
def v160_l3 (X : Caller) (L : Looper) (a : AAct) (K : ActPost) (h : AHeap) : Prop :=
 bumpK 1 h fun h =>
 binVK P .lss 3 3 (a.env 8) (a.env 7) h fun t9 =>
 condK t9
 (bumpK 2 h fun h =>
 regV 8 h fun b_1 h =>
 rd' (indexA P 9 (a.env 1) (a.env 8)) fun t14 =>
 opF (convertA P 5 27 t14 (b_1 + 4) h) fun t15 h =>
 binVK P .xor 27 27 (a.env 0) t15 h fun t16 =>
 binCK P .mul 27 27 t16 (.int .u64 1099511628211) h fun t17 =>
 bumpK 2 h fun h =>
 binCK P .add 3 3 (a.env 8) (.int .i64 1) h fun t18 =>
 K .normal ⟨(upds a.env [(9, t9), (10, (a.env 8)), (5, (a.env 8)), (11, (a.env 0)), (12, (a.env 1)), (13, (a.env 8)), (14, t14), (15, t15), (16, t16), (17, t17), (0, t17), (18, t18), (8, t18)]), a.defers⟩ h)
 (K (.exit 0) ⟨(upds a.env [(9, t9)]), a.defers⟩ h)
theorem v160_l3_eq (X : Caller) (L : Looper) (a : AAct) (K : ActPost) (h : AHeap) : f160_l3 X L a K h = v160_l3 X L a K h := by
  unfold f160_l3 v160_l3
  simp only [rdK_rd', nilVK_eq, newVK_eq, boxVK_eq, pickVK_eq, extVK_eq, gF_rd, gF_some, gF_nil, gF_pick, gF_ext, bumpK_eq, regV_eq, ld1K_eq', ldNK_eq', binVK_eq', binCK_eq', binDK_eq', stVK_eq, fAddrK_eq', ixSK_eq', ixRK_eq', unVK_eq', opF_eq]
theorem v160_l3_eq' (X : Caller) (L : Looper) : f160_l3 X L = v160_l3 X L := by
  funext a K h; exact v160_l3_eq X L a K h
def v160_j1 (X : Caller) (L : Looper) (K : Value → AHeap → Prop) (h : AHeap) (a : AAct) : Prop :=
 bumpK 2 h fun h =>
 leaveA P X Tryz.f160 ⟨(upds a.env [(19, (a.env 0)), (4, (a.env 0))]), a.defers⟩ K a.defers h
theorem v160_j1_eq (X : Caller) (L : Looper) (K : Value → AHeap → Prop) (h : AHeap) (a : AAct) : f160_j1 X L K h a = v160_j1 X L K h a := by
  unfold f160_j1 v160_j1
  simp only [rdK_rd', nilVK_eq, newVK_eq, boxVK_eq, pickVK_eq, extVK_eq, gF_rd, gF_some, gF_nil, gF_pick, gF_ext, bumpK_eq, regV_eq, ld1K_eq', ldNK_eq', binVK_eq', binCK_eq', binDK_eq', stVK_eq, fAddrK_eq', ixSK_eq', ixRK_eq', unVK_eq', opF_eq, v160_l3_eq, v160_l3_eq']
def v160 (X : Caller) (L : Looper) (K : Value → AHeap → Prop) (h : AHeap) (t0 t1 : Value) : Prop :=
 bumpK 1 h fun h =>
 regV 3 h fun b h =>
 opF (builtinV P .len [9] [t1] (b + 1) h) fun t7 h =>
 L (v160_l3 X L) ⟨(upds (argsEnv [t0, t1]) [(4, (.int .u64 0)), (6, t1), (7, t7), (8, (.int .i64 0))]), []⟩ (blkX 0 (seqX (fun a h => v160_j1 X L K h a) (finX P X Tryz.f160 K))) h
theorem v160_eq (X : Caller) (L : Looper) (K : Value → AHeap → Prop) (h : AHeap) (t0 t1 : Value) : f160 X L K h t0 t1 = v160 X L K h t0 t1 := by
  unfold f160 v160
  simp only [rdK_rd', nilVK_eq, newVK_eq, boxVK_eq, pickVK_eq, extVK_eq, gF_rd, gF_some, gF_nil, gF_pick, gF_ext, bumpK_eq, regV_eq, ld1K_eq', ldNK_eq', binVK_eq', binCK_eq', binDK_eq', stVK_eq, fAddrK_eq', ixSK_eq', ixRK_eq', unVK_eq', opF_eq, v160_l3_eq, v160_l3_eq', v160_j1_eq]
theorem w160_eq (X : Caller) (L : Looper) (K : Value → AHeap → Prop) (h : AHeap) (t0 t1 : Value) : aJob P X L (.call 160 [t0, t1]) K h = v160 X L K h t0 t1 := (f160_eq X L K h t0 t1).trans (v160_eq X L K h t0 t1)
def v161 (X : Caller) (L : Looper) (K : Value → AHeap → Prop) (h : AHeap) (t0 t1 : Value) : Prop :=
 bumpK 1 h fun h =>
 bumpK 4 h fun h =>
 X (.call 172 [t0, t1]) (fun t8 h =>
 bumpK 2 h fun h =>
 binCK P .neq 24 24 t8 (.int .i64 0) h fun t10 =>
 condK t10
 (bumpK 2 h fun h =>
  K t8 h)
 (bumpK 4 h fun h =>
 X (.call 125 [t0, t1]) (fun t14 h =>
 unVK P .not 4 t14 fun t15 =>
 condK t15
 (bumpK 1 h fun h =>
  K (.int .i64 9) h)
 (bumpK 7 h fun h =>
 nilVK t0 fun t17 =>
 fAddrK 0 t17 fun t18 =>
 ld1K t18 h fun t19 =>
 X (.call 208 [t19, t1]) (fun t21 h =>
 K t21 h) h)) h)) h
theorem v161_eq (X : Caller) (L : Looper) (K : Value → AHeap → Prop) (h : AHeap) (t0 t1 : Value) : f161 X L K h t0 t1 = v161 X L K h t0 t1 := by
  unfold f161 v161
  simp only [rdK_rd', nilVK_eq, newVK_eq, boxVK_eq, pickVK_eq, extVK_eq, gF_rd, gF_some, gF_nil, gF_pick, gF_ext, bumpK_eq, regV_eq, ld1K_eq', ldNK_eq', binVK_eq', binCK_eq', binDK_eq', stVK_eq, fAddrK_eq', ixSK_eq', ixRK_eq', unVK_eq', opF_eq]
theorem w161_eq (X : Caller) (L : Looper) (K : Value → AHeap → Prop) (h : AHeap) (t0 t1 : Value) : aJob P X L (.call 161 [t0, t1]) K h = v161 X L K h t0 t1 := (f161_eq X L K h t0 t1).trans (v161_eq X L K h t0 t1)
def v162_j2 (X : Caller) (L : Looper) (K : Value → AHeap → Prop) (h : AHeap) (t6 t7 t4 t36 t37 t5 : Value) : Prop :=
 bumpK 4 h fun h =>
 ldNK 3 t6 h fun t36_1 =>
 stVK 3 t4 t36_1 h fun h =>
 retK (consR (ldN 3 t4 h) (consR (some t7) (some []))) K h
theorem v162_j2_eq (X : Caller) (L : Looper) (K : Value → AHeap → Prop) (h : AHeap) (t6 t7 t4 t36 t37 t5 : Value) : f162_j2 X L K h t6 t7 t4 t36 t37 t5 = v162_j2 X L K h t6 t7 t4 t36 t37 t5 := by
  unfold f162_j2 v162_j2
  simp only [rdK_rd', nilVK_eq, newVK_eq, boxVK_eq, pickVK_eq, extVK_eq, gF_rd, gF_some, gF_nil, gF_pick, gF_ext, bumpK_eq, regV_eq, ld1K_eq', ldNK_eq', binVK_eq', binCK_eq', binDK_eq', stVK_eq, fAddrK_eq', ixSK_eq', ixRK_eq', unVK_eq', opF_eq]
def v162 (X : Caller) (L : Looper) (K : Value → AHeap → Prop) (h : AHeap) (t0 t1 : Value) : Prop :=
 regV 2 h fun b h =>
 newVK [.int .u32 0, .int .u64 0, .int .u64 0] (b + 0) h fun t4 h =>
 regV 9 h fun b_1 h =>
 X (.call 209 [t0, t1]) (fun t13 h =>
 extVK 0 t13 fun t14 =>
 extVK 1 t13 fun t15 =>
 newVK [.int .u32 0, .int .u64 0, .int .u64 0] (b_1 + 6) h fun t6 h =>
 stVK 3 t6 t14 h fun h =>
 bumpK 2 h fun h =>
 binCK P .eql 24 24 t15 (.int .i64 0) h fun t17 =>
 condK t17
 (bumpK 9 h fun h =>
  fAddrK 1 t6 fun t20 =>
  ld1K t20 h fun t21 =>
  X (.call 180 [t0, t21]) (fun t22 h =>
  extVK 0 t22 fun t23 =>
  extVK 1 t22 fun t24 =>
  bumpK 8 h fun h =>
  nilVK t0 fun t27 =>
  fAddrK 1 t27 fun t28 =>
  ixRK 8 1 t28 t23 fun t29 =>
  ld1K t29 h fun t30 =>
  X (.call 210 [t30, t1]) (fun t32 h =>
  bumpK 3 h fun h =>
  ldNK 3 t6 h fun t34 =>
  X (.call 183 [t0, t34]) (fun t35 h =>
  v162_j2 X L K h t6 t15 t4 undef undef ((.int .i64 0))) h) h) h)
 (v162_j2 X L K h t6 t15 t4 undef undef ((.int .i64 0)))) h
theorem v162_eq (X : Caller) (L : Looper) (K : Value → AHeap → Prop) (h : AHeap) (t0 t1 : Value) : f162 X L K h t0 t1 = v162 X L K h t0 t1 := by
  unfold f162 v162
  simp only [rdK_rd', nilVK_eq, newVK_eq, boxVK_eq, pickVK_eq, extVK_eq, gF_rd, gF_some, gF_nil, gF_pick, gF_ext, bumpK_eq, regV_eq, ld1K_eq', ldNK_eq', binVK_eq', binCK_eq', binDK_eq', stVK_eq, fAddrK_eq', ixSK_eq', ixRK_eq', unVK_eq', opF_eq, v162_j2_eq]
theorem w162_eq (X : Caller) (L : Looper) (K : Value → AHeap → Prop) (h : AHeap) (t0 t1 : Value) : aJob P X L (.call 162 [t0, t1]) K h = v162 X L K h t0 t1 := (f162_eq X L K h t0 t1).trans (v162_eq X L K h t0 t1)
def v163 (X : Caller) (L : Looper) (K : Value → AHeap → Prop) (h : AHeap) (t0 t1 : Value) : Prop :=
 bumpK 1 h fun h =>
 bumpK 4 h fun h =>
 ld1K t1 h fun t5 =>
 binVK P .eql 81 81 t0 t5 h fun t6 =>
 K t6 h
theorem v163_eq (X : Caller) (L : Looper) (K : Value → AHeap → Prop) (h : AHeap) (t0 t1 : Value) : f163 X L K h t0 t1 = v163 X L K h t0 t1 := by
  unfold f163 v163
  simp only [rdK_rd', nilVK_eq, newVK_eq, boxVK_eq, pickVK_eq, extVK_eq, gF_rd, gF_some, gF_nil, gF_pick, gF_ext, bumpK_eq, regV_eq, ld1K_eq', ldNK_eq', binVK_eq', binCK_eq', binDK_eq', stVK_eq, fAddrK_eq', ixSK_eq', ixRK_eq', unVK_eq', opF_eq]
theorem w163_eq (X : Caller) (L : Looper) (K : Value → AHeap → Prop) (h : AHeap) (t0 t1 : Value) : aJob P X L (.call 163 [t0, t1]) K h = v163 X L K h t0 t1 := (f163_eq X L K h t0 t1).trans (v163_eq X L K h t0 t1)
def v164_j6 (X : Caller) (L : Looper) (K : Value → AHeap → Prop) (h : AHeap) (t0 t17 t1 t18 t19 t20 t21 t22 t7 t23 t24 t25 t26 t27 t28 t4 t5 : Value) : Prop :=
 bumpK 6 h fun h =>
 X (.call 212 [t0]) (fun t18_1 h =>
 binVK P .shr 5 3 t18_1 t1 h fun t20_1 =>
 binCK P .and 5 5 t20_1 (.int .u8 1) h fun t21_1 =>
 binCK P .eql 5 5 t21_1 (.int .u8 0) h fun t22_1 =>
 condK t22_1
 (bumpK 2 h fun h =>
  K (.tuple #[(.int .u64 0), (.int .i64 8)]) h)
 (bumpK 8 h fun h =>
 X (.call 213 [t0, t1, t7]) (fun t26_1 h =>
 extVK 0 t26_1 fun t27_1 =>
 extVK 1 t26_1 fun t28_1 =>
 K (.tuple #[t27_1, t28_1]) h) h)) h
theorem v164_j6_eq (X : Caller) (L : Looper) (K : Value → AHeap → Prop) (h : AHeap) (t0 t17 t1 t18 t19 t20 t21 t22 t7 t23 t24 t25 t26 t27 t28 t4 t5 : Value) : f164_j6 X L K h t0 t17 t1 t18 t19 t20 t21 t22 t7 t23 t24 t25 t26 t27 t28 t4 t5 = v164_j6 X L K h t0 t17 t1 t18 t19 t20 t21 t22 t7 t23 t24 t25 t26 t27 t28 t4 t5 := by
  unfold f164_j6 v164_j6
  simp only [rdK_rd', nilVK_eq, newVK_eq, boxVK_eq, pickVK_eq, extVK_eq, gF_rd, gF_some, gF_nil, gF_pick, gF_ext, bumpK_eq, regV_eq, ld1K_eq', ldNK_eq', binVK_eq', binCK_eq', binDK_eq', stVK_eq, fAddrK_eq', ixSK_eq', ixRK_eq', unVK_eq', opF_eq]
def v164 (X : Caller) (L : Looper) (K : Value → AHeap → Prop) (h : AHeap) (t0 t1 : Value) : Prop :=
 bumpK 2 h fun h =>
 bumpK 4 h fun h =>
 X (.call 211 [t0, t1]) (fun t10 h =>
 bumpK 2 h fun h =>
 binCK P .neq 24 24 t10 (.int .i64 0) h fun t12 =>
 condK t12
 (bumpK 3 h fun h =>
  K (.tuple #[(.int .u64 0), t10]) h)
 (bumpK 1 h fun h =>
 bumpK 3 h fun h =>
 X (.call 165 [t0]) (fun t15 h =>
 binCK P .neq 5 5 t15 (.int .u8 0) h fun t16 =>
 condK t16
 (bumpK 1 h fun h =>
  v164_j6 X L K h t0 undef t1 undef undef undef undef undef ((.int .u8 128)) undef undef undef undef undef undef ((.int .u64 0)) ((.int .i64 0)))
 (v164_j6 X L K h t0 undef t1 undef undef undef undef undef ((.int .u8 254)) undef undef undef undef undef undef ((.int .u64 0)) ((.int .i64 0)))) h)) h
theorem v164_eq (X : Caller) (L : Looper) (K : Value → AHeap → Prop) (h : AHeap) (t0 t1 : Value) : f164 X L K h t0 t1 = v164 X L K h t0 t1 := by
  unfold f164 v164
  simp only [rdK_rd', nilVK_eq, newVK_eq, boxVK_eq, pickVK_eq, extVK_eq, gF_rd, gF_some, gF_nil, gF_pick, gF_ext, bumpK_eq, regV_eq, ld1K_eq', ldNK_eq', binVK_eq', binCK_eq', binDK_eq', stVK_eq, fAddrK_eq', ixSK_eq', ixRK_eq', unVK_eq', opF_eq, v164_j6_eq]
theorem w164_eq (X : Caller) (L : Looper) (K : Value → AHeap → Prop) (h : AHeap) (t0 t1 : Value) : aJob P X L (.call 164 [t0, t1]) K h = v164 X L K h t0 t1 := (f164_eq X L K h t0 t1).trans (v164_eq X L K h t0 t1)
def v165 (X : Caller) (L : Looper) (K : Value → AHeap → Prop) (h : AHeap) (t0 : Value) : Prop :=
 bumpK 1 h fun h =>
 bumpK 3 h fun h =>
 X (.call 214 [t0, (.int .u8 128)]) (fun t4 h =>
 K t4 h) h
theorem v165_eq (X : Caller) (L : Looper) (K : Value → AHeap → Prop) (h : AHeap) (t0 : Value) : f165 X L K h t0 = v165 X L K h t0 := by
  unfold f165 v165
  simp only [rdK_rd', nilVK_eq, newVK_eq, boxVK_eq, pickVK_eq, extVK_eq, gF_rd, gF_some, gF_nil, gF_pick, gF_ext, bumpK_eq, regV_eq, ld1K_eq', ldNK_eq', binVK_eq', binCK_eq', binDK_eq', stVK_eq, fAddrK_eq', ixSK_eq', ixRK_eq', unVK_eq', opF_eq]
theorem w165_eq (X : Caller) (L : Looper) (K : Value → AHeap → Prop) (h : AHeap) (t0 : Value) : aJob P X L (.call 165 [t0]) K h = v165 X L K h t0 := (f165_eq X L K h t0).trans (v165_eq X L K h t0)
end Go.Proofs.YtdlnbmadifgbkaaGreatDoor.F
