/- The functions of the program, as texts that the kernel reckons out (printed by a program of this place). -/
import Derived.Test.YtdlnbmadifgbkaaGreatDoorXX
import Derived.Test.YtdlnbmadifgbkaaGreatDoorCubV
namespace Go.Proofs.YtdlnbmadifgbkaaGreatDoor.F
set_option linter.unusedVariables false
set_option linter.unusedSimpArgs false
open Go Go.Cub
set_option maxRecDepth 100000
def v166 (X : Caller) (L : Looper) (K : Value → AHeap → Prop) (h : AHeap) (t0 t1 t2 : Value) : Prop :=
 bumpK 1 h fun h =>
 bumpK 3 h fun h =>
 X (.call 131 [t0]) (fun t10 h =>
 unVK P .not 4 t10 fun t11 =>
 condK t11
 (bumpK 1 h fun h =>
  K (.int .i64 2) h)
 (bumpK 3 h fun h =>
 binCK P .mul 3 3 t0 (.int .i64 8) h fun t13 =>
 regV 6 h fun b h =>
 opF (bsliceV P 276 2 [(0, t1), (1, t2)] (b + 3) h) fun t17 h =>
 X (.call 215 [t13, t17]) (fun t18 h =>
 bumpK 2 h fun h =>
 binCK P .neq 24 24 t18 (.int .i64 0) h fun t20 =>
 condK t20
 (bumpK 2 h fun h =>
  K t18 h)
 (regV 7 h fun b_1 h =>
 binVK P .add 3 3 t1 t2 h fun t25 =>
 opF (bsliceV P 276 1 [(0, t25)] (b_1 + 4) h) fun t26 h =>
 X (.call 215 [t13, t26]) (fun t27 h =>
 K t27 h) h)) h)) h
theorem v166_eq (X : Caller) (L : Looper) (K : Value → AHeap → Prop) (h : AHeap) (t0 t1 t2 : Value) : f166 X L K h t0 t1 t2 = v166 X L K h t0 t1 t2 := by
  unfold f166 v166
  simp only [rdK_rd', nilVK_eq, newVK_eq, boxVK_eq, pickVK_eq, extVK_eq, gF_rd, gF_some, gF_nil, gF_pick, gF_ext, bumpK_eq, regV_eq, ld1K_eq', ldNK_eq', binVK_eq', binCK_eq', binDK_eq', stVK_eq, fAddrK_eq', ixSK_eq', ixRK_eq', unVK_eq', opF_eq]
theorem w166_eq (X : Caller) (L : Looper) (K : Value → AHeap → Prop) (h : AHeap) (t0 t1 t2 : Value) : aJob P X L (.call 166 [t0, t1, t2]) K h = v166 X L K h t0 t1 t2 := (f166_eq X L K h t0 t1 t2).trans (v166_eq X L K h t0 t1 t2)
def v167 (X : Caller) (L : Looper) (K : Value → AHeap → Prop) (h : AHeap) (t0 : Value) : Prop :=
 bumpK 1 h fun h =>
 bumpK 5 h fun h =>
 binDK P .mul 3 3 (.int .i64 4) t0 h fun t4 =>
 binCK P .add 3 3 t4 (.int .i64 16) h fun t5 =>
 X (.call 216 [t5]) (fun t6 h =>
 K t6 h) h
theorem v167_eq (X : Caller) (L : Looper) (K : Value → AHeap → Prop) (h : AHeap) (t0 : Value) : f167 X L K h t0 = v167 X L K h t0 := by
  unfold f167 v167
  simp only [rdK_rd', nilVK_eq, newVK_eq, boxVK_eq, pickVK_eq, extVK_eq, gF_rd, gF_some, gF_nil, gF_pick, gF_ext, bumpK_eq, regV_eq, ld1K_eq', ldNK_eq', binVK_eq', binCK_eq', binDK_eq', stVK_eq, fAddrK_eq', ixSK_eq', ixRK_eq', unVK_eq', opF_eq]
theorem w167_eq (X : Caller) (L : Looper) (K : Value → AHeap → Prop) (h : AHeap) (t0 : Value) : aJob P X L (.call 167 [t0]) K h = v167 X L K h t0 := (f167_eq X L K h t0).trans (v167_eq X L K h t0)
def v170_j2 (X : Caller) (L : Looper) (K : Value → AHeap → Prop) (h : AHeap) (t0 t4 t24 t26 t27 t25 : Value) : Prop :=
 bumpK 5 h fun h =>
 nilVK t0 fun t26_1 =>
 fAddrK 1 t26_1 fun t27_1 =>
 stVK 1 t27_1 t4 h fun h =>
 K (.tuple #[]) h
theorem v170_j2_eq (X : Caller) (L : Looper) (K : Value → AHeap → Prop) (h : AHeap) (t0 t4 t24 t26 t27 t25 : Value) : f170_j2 X L K h t0 t4 t24 t26 t27 t25 = v170_j2 X L K h t0 t4 t24 t26 t27 t25 := by
  unfold f170_j2 v170_j2
  simp only [rdK_rd', nilVK_eq, newVK_eq, boxVK_eq, pickVK_eq, extVK_eq, gF_rd, gF_some, gF_nil, gF_pick, gF_ext, bumpK_eq, regV_eq, ld1K_eq', ldNK_eq', binVK_eq', binCK_eq', binDK_eq', stVK_eq, fAddrK_eq', ixSK_eq', ixRK_eq', unVK_eq', opF_eq]
def v170 (X : Caller) (L : Looper) (K : Value → AHeap → Prop) (h : AHeap) (t0 t1 : Value) : Prop :=
 regV 1 h fun b h =>
 boxVK t1 (b + 0) h fun t3 h =>
 regV 4 h fun b_1 h =>
 ldNK 6 t3 h fun t5 =>
 rd' (buildA P 183 [(0, t5)]) fun t6 =>
 boxVK t6 (b_1 + 2) h fun t7 h =>
 bumpK 5 h fun h =>
 nilVK t0 fun t9 =>
 fAddrK 1 t9 fun t10 =>
 ld1K t10 h fun t11 =>
 binCK P .eql 165 165 t11 (.pointer none) h fun t12 =>
 condK t12
 (bumpK 5 h fun h =>
  nilVK t0 fun t15 =>
  fAddrK 0 t15 fun t16 =>
  stVK 1 t16 t7 h fun h =>
  v170_j2 X L K h t0 t7 undef undef undef undef)
 (bumpK 8 h fun h =>
  nilVK t0 fun t18 =>
  fAddrK 1 t18 fun t19 =>
  ld1K t19 h fun t20 =>
  nilVK t20 fun t22 =>
  fAddrK 6 t22 fun t23 =>
  stVK 1 t23 t7 h fun h =>
  v170_j2 X L K h t0 t7 undef undef undef undef)
theorem v170_eq (X : Caller) (L : Looper) (K : Value → AHeap → Prop) (h : AHeap) (t0 t1 : Value) : f170 X L K h t0 t1 = v170 X L K h t0 t1 := by
  unfold f170 v170
  simp only [rdK_rd', nilVK_eq, newVK_eq, boxVK_eq, pickVK_eq, extVK_eq, gF_rd, gF_some, gF_nil, gF_pick, gF_ext, bumpK_eq, regV_eq, ld1K_eq', ldNK_eq', binVK_eq', binCK_eq', binDK_eq', stVK_eq, fAddrK_eq', ixSK_eq', ixRK_eq', unVK_eq', opF_eq, v170_j2_eq]
theorem w170_eq (X : Caller) (L : Looper) (K : Value → AHeap → Prop) (h : AHeap) (t0 t1 : Value) : aJob P X L (.call 170 [t0, t1]) K h = v170 X L K h t0 t1 := (f170_eq X L K h t0 t1).trans (v170_eq X L K h t0 t1)
def v171 (X : Caller) (L : Looper) (K : Value → AHeap → Prop) (h : AHeap) (t0 : Value) : Prop :=
 regV 2 h fun b h =>
 boxVK t0 (b + 0) h fun t1 h =>
 newVK [.int .i64 0, .string ⟨#[]⟩, .slice none 0 0, .int .u64 0, .int .u64 0, .int .u64 0] (b + 1) h fun t2 h =>
 bumpK 5 h fun h =>
 fAddrK 2 t1 fun t3 =>
 ld1K t3 h fun t4 =>
 X (.call 20 [t4]) (fun t5 h =>
 fAddrK 2 t1 fun t6 =>
 stVK 1 t6 t5 h fun h =>
 bumpK 2 h fun h =>
 ldNK 6 t1 h fun t7 =>
 stVK 6 t2 t7 h fun h =>
 retK (consR (ldN 6 t2 h) (some [])) K h) h
theorem v171_eq (X : Caller) (L : Looper) (K : Value → AHeap → Prop) (h : AHeap) (t0 : Value) : f171 X L K h t0 = v171 X L K h t0 := by
  unfold f171 v171
  simp only [rdK_rd', nilVK_eq, newVK_eq, boxVK_eq, pickVK_eq, extVK_eq, gF_rd, gF_some, gF_nil, gF_pick, gF_ext, bumpK_eq, regV_eq, ld1K_eq', ldNK_eq', binVK_eq', binCK_eq', binDK_eq', stVK_eq, fAddrK_eq', ixSK_eq', ixRK_eq', unVK_eq', opF_eq]
theorem w171_eq (X : Caller) (L : Looper) (K : Value → AHeap → Prop) (h : AHeap) (t0 : Value) : aJob P X L (.call 171 [t0]) K h = v171 X L K h t0 := (f171_eq X L K h t0).trans (v171_eq X L K h t0)
def v172 (X : Caller) (L : Looper) (K : Value → AHeap → Prop) (h : AHeap) (t0 t1 : Value) : Prop :=
 bumpK 1 h fun h =>
 bumpK 10 h fun h =>
 binCK P .eql 136 136 t0 (.pointer none) h fun t7 =>
 gF (wantV t7 false) (fun k => k t0) fun t9 =>
 gF (wantV t7 false) (nilVK t9) fun t10 =>
 gF (wantV t7 false) (fAddrK 0 t10) fun t11 =>
 gF (wantV t7 false) (ld1K t11 h) fun t12 =>
 gF (wantV t7 false) (binCK P .eql 215 215 t12 (.pointer none) h) fun t13 =>
 pickVK t7 (.bool true) t13 fun t14 =>
 condK t14
 (bumpK 1 h fun h =>
  K (.int .i64 1) h)
 (bumpK 3 h fun h =>
  binCK P .geq 81 81 t1 (.int .u32 4194304) h fun t17 =>
  condK t17
  (bumpK 1 h fun h =>
   K (.int .i64 2) h)
  (bumpK 1 h fun h =>
 K (.int .i64 0) h))
theorem v172_eq (X : Caller) (L : Looper) (K : Value → AHeap → Prop) (h : AHeap) (t0 t1 : Value) : f172 X L K h t0 t1 = v172 X L K h t0 t1 := by
  unfold f172 v172
  simp only [rdK_rd', nilVK_eq, newVK_eq, boxVK_eq, pickVK_eq, extVK_eq, gF_rd, gF_some, gF_nil, gF_pick, gF_ext, bumpK_eq, regV_eq, ld1K_eq', ldNK_eq', binVK_eq', binCK_eq', binDK_eq', stVK_eq, fAddrK_eq', ixSK_eq', ixRK_eq', unVK_eq', opF_eq]
theorem w172_eq (X : Caller) (L : Looper) (K : Value → AHeap → Prop) (h : AHeap) (t0 t1 : Value) : aJob P X L (.call 172 [t0, t1]) K h = v172 X L K h t0 t1 := (f172_eq X L K h t0 t1).trans (v172_eq X L K h t0 t1)
def v173 (X : Caller) (L : Looper) (K : Value → AHeap → Prop) (h : AHeap) (t0 t1 : Value) : Prop :=
 bumpK 2 h fun h =>
 bumpK 4 h fun h =>
 X (.call 220 [t0, t1]) (fun t9 h =>
 bumpK 2 h fun h =>
 binCK P .neq 24 24 t9 (.int .i64 0) h fun t11 =>
 condK t11
 (bumpK 3 h fun h =>
  K (.tuple #[(.int .i64 0), t9]) h)
 (regV 12 h fun b h =>
 nilVK t0 fun t14 =>
 fAddrK 0 t14 fun t15 =>
 ld1K t15 h fun t16 =>
 ixSK 3 t16 t1 fun t18 =>
 fAddrK 2 t18 fun t19 =>
 ld1K t19 h fun t20 =>
 opF (convertA P 81 3 t20 (b + 8) h) fun t21 h =>
 binCK P .sub 3 3 t21 (.int .i64 1) h fun t22 =>
 K (.tuple #[t22, (.int .i64 0)]) h)) h
theorem v173_eq (X : Caller) (L : Looper) (K : Value → AHeap → Prop) (h : AHeap) (t0 t1 : Value) : f173 X L K h t0 t1 = v173 X L K h t0 t1 := by
  unfold f173 v173
  simp only [rdK_rd', nilVK_eq, newVK_eq, boxVK_eq, pickVK_eq, extVK_eq, gF_rd, gF_some, gF_nil, gF_pick, gF_ext, bumpK_eq, regV_eq, ld1K_eq', ldNK_eq', binVK_eq', binCK_eq', binDK_eq', stVK_eq, fAddrK_eq', ixSK_eq', ixRK_eq', unVK_eq', opF_eq]
theorem w173_eq (X : Caller) (L : Looper) (K : Value → AHeap → Prop) (h : AHeap) (t0 t1 : Value) : aJob P X L (.call 173 [t0, t1]) K h = v173 X L K h t0 t1 := (f173_eq X L K h t0 t1).trans (v173_eq X L K h t0 t1)
def v174 (X : Caller) (L : Looper) (K : Value → AHeap → Prop) (h : AHeap) (t0 t1 : Value) : Prop :=
 bumpK 1 h fun h =>
 bumpK 4 h fun h =>
 X (.call 172 [t0, t1]) (fun t8 h =>
 bumpK 2 h fun h =>
 binCK P .neq 24 24 t8 (.int .i64 0) h fun t10 =>
 condK t10
 (bumpK 2 h fun h =>
  K t8 h)
 (bumpK 3 h fun h =>
 X (.call 221 [t0, t1]) (fun t14 h =>
 bumpK 7 h fun h =>
 nilVK t0 fun t16 =>
 fAddrK 0 t16 fun t17 =>
 ld1K t17 h fun t18 =>
 X (.call 222 [t18, (.int .i64 0), t1]) (fun t20 h =>
 K t20 h) h) h)) h
theorem v174_eq (X : Caller) (L : Looper) (K : Value → AHeap → Prop) (h : AHeap) (t0 t1 : Value) : f174 X L K h t0 t1 = v174 X L K h t0 t1 := by
  unfold f174 v174
  simp only [rdK_rd', nilVK_eq, newVK_eq, boxVK_eq, pickVK_eq, extVK_eq, gF_rd, gF_some, gF_nil, gF_pick, gF_ext, bumpK_eq, regV_eq, ld1K_eq', ldNK_eq', binVK_eq', binCK_eq', binDK_eq', stVK_eq, fAddrK_eq', ixSK_eq', ixRK_eq', unVK_eq', opF_eq]
theorem w174_eq (X : Caller) (L : Looper) (K : Value → AHeap → Prop) (h : AHeap) (t0 t1 : Value) : aJob P X L (.call 174 [t0, t1]) K h = v174 X L K h t0 t1 := (f174_eq X L K h t0 t1).trans (v174_eq X L K h t0 t1)
def v175 (X : Caller) (L : Looper) (K : Value → AHeap → Prop) (h : AHeap) (t0 : Value) : Prop :=
 bumpK 1 h fun h =>
 bumpK 27 h fun h =>
 ld1K t0 h fun t2 =>
 nilVK t2 fun t3 =>
 fAddrK 0 t3 fun t4 =>
 ixRK 2 1 t4 (.int .i64 1) fun t5 =>
 ld1K t5 h fun t6 =>
 X (.call 176 [t6]) (fun t7 h =>
 binCK P .gtr 3 3 t7 (.int .i64 0) h fun t8 =>
 gF (wantV t8 true) (ld1K t0 h) fun t10 =>
 gF (wantV t8 true) (nilVK t10) fun t11 =>
 gF (wantV t8 true) (fAddrK 5 t11) fun t12 =>
 gF (wantV t8 true) (ld1K t12 h) fun t13 =>
 gF (wantV t8 true) (binCK P .eql 3 3 t13 (.int .i64 (-1)) h) fun t14 =>
 gF (wantV t8 true) (fun k => k t14) fun t15 =>
 gF (wantV t15 false) (ld1K t0 h) fun t16 =>
 gF (wantV t15 false) (nilVK t16) fun t17 =>
 gF (wantV t15 false) (fAddrK 2 t17) fun t18 =>
 gF (wantV t15 false) (ixRK 2 1 t18 (.int .i64 1)) fun t19 =>
 gF (wantV t15 false) (ld1K t19 h) fun t20 =>
 gF (wantV t15 false) (ld1K t0 h) fun t21 =>
 gF (wantV t15 false) (nilVK t21) fun t22 =>
 gF (wantV t15 false) (fAddrK 5 t22) fun t23 =>
 gF (wantV t15 false) (ld1K t23 h) fun t24 =>
 gF (wantV t15 false) (binVK P .gtr 3 3 t20 t24 h) fun t25 =>
 gF (wantV t8 true) (pickVK t15 (.bool true) t25) fun t26 =>
 pickVK t8 t26 (.bool false) fun t27 =>
 K t27 h) h
theorem v175_eq (X : Caller) (L : Looper) (K : Value → AHeap → Prop) (h : AHeap) (t0 : Value) : f175 X L K h t0 = v175 X L K h t0 := by
  unfold f175 v175
  simp only [rdK_rd', nilVK_eq, newVK_eq, boxVK_eq, pickVK_eq, extVK_eq, gF_rd, gF_some, gF_nil, gF_pick, gF_ext, bumpK_eq, regV_eq, ld1K_eq', ldNK_eq', binVK_eq', binCK_eq', binDK_eq', stVK_eq, fAddrK_eq', ixSK_eq', ixRK_eq', unVK_eq', opF_eq]
theorem w175_eq (X : Caller) (L : Looper) (K : Value → AHeap → Prop) (h : AHeap) (t0 : Value) : aJob P X L (.call 175 [t0]) K h = v175 X L K h t0 := (f175_eq X L K h t0).trans (v175_eq X L K h t0)
def v176 (X : Caller) (L : Looper) (K : Value → AHeap → Prop) (h : AHeap) (t0 : Value) : Prop :=
 bumpK 1 h fun h =>
 bumpK 3 h fun h =>
 X (.call 172 [t0, (.int .u32 0)]) (fun t4 h =>
 binCK P .neq 24 24 t4 (.int .i64 0) h fun t5 =>
 condK t5
 (bumpK 1 h fun h =>
  K (.int .i64 0) h)
 (bumpK 6 h fun h =>
 nilVK t0 fun t7 =>
 fAddrK 0 t7 fun t8 =>
 ld1K t8 h fun t9 =>
 X (.call 223 [t9, (.int .i64 0)]) (fun t10 h =>
 K t10 h) h)) h
theorem v176_eq (X : Caller) (L : Looper) (K : Value → AHeap → Prop) (h : AHeap) (t0 : Value) : f176 X L K h t0 = v176 X L K h t0 := by
  unfold f176 v176
  simp only [rdK_rd', nilVK_eq, newVK_eq, boxVK_eq, pickVK_eq, extVK_eq, gF_rd, gF_some, gF_nil, gF_pick, gF_ext, bumpK_eq, regV_eq, ld1K_eq', ldNK_eq', binVK_eq', binCK_eq', binDK_eq', stVK_eq, fAddrK_eq', ixSK_eq', ixRK_eq', unVK_eq', opF_eq]
theorem w176_eq (X : Caller) (L : Looper) (K : Value → AHeap → Prop) (h : AHeap) (t0 : Value) : aJob P X L (.call 176 [t0]) K h = v176 X L K h t0 := (f176_eq X L K h t0).trans (v176_eq X L K h t0)
def v178 (X : Caller) (L : Looper) (K : Value → AHeap → Prop) (h : AHeap) (t0 t1 : Value) : Prop :=
 bumpK 1 h fun h =>
 regV 8 h fun b h =>
 nilVK t1 fun t6 =>
 fAddrK 1 t6 fun t7 =>
 ld1K t7 h fun t8 =>
 binVK P .add 3 3 t8 t0 h fun t10 =>
 opF (convertA P 3 81 t10 (b + 6) h) fun t11 h =>
 K t11 h
theorem v178_eq (X : Caller) (L : Looper) (K : Value → AHeap → Prop) (h : AHeap) (t0 t1 : Value) : f178 X L K h t0 t1 = v178 X L K h t0 t1 := by
  unfold f178 v178
  simp only [rdK_rd', nilVK_eq, newVK_eq, boxVK_eq, pickVK_eq, extVK_eq, gF_rd, gF_some, gF_nil, gF_pick, gF_ext, bumpK_eq, regV_eq, ld1K_eq', ldNK_eq', binVK_eq', binCK_eq', binDK_eq', stVK_eq, fAddrK_eq', ixSK_eq', ixRK_eq', unVK_eq', opF_eq]
theorem w178_eq (X : Caller) (L : Looper) (K : Value → AHeap → Prop) (h : AHeap) (t0 t1 : Value) : aJob P X L (.call 178 [t0, t1]) K h = v178 X L K h t0 t1 := (f178_eq X L K h t0 t1).trans (v178_eq X L K h t0 t1)
def v179 (X : Caller) (L : Looper) (K : Value → AHeap → Prop) (h : AHeap) (t0 : Value) : Prop :=
 bumpK 1 h fun h =>
 regV 4 h fun b h =>
 opF (convertA P 5 27 t0 (b + 1) h) fun t4 h =>
 binDK P .mul 27 27 (.int .u64 72340172838076673) t4 h fun t5 =>
 K t5 h
theorem v179_eq (X : Caller) (L : Looper) (K : Value → AHeap → Prop) (h : AHeap) (t0 : Value) : f179 X L K h t0 = v179 X L K h t0 := by
  unfold f179 v179
  simp only [rdK_rd', nilVK_eq, newVK_eq, boxVK_eq, pickVK_eq, extVK_eq, gF_rd, gF_some, gF_nil, gF_pick, gF_ext, bumpK_eq, regV_eq, ld1K_eq', ldNK_eq', binVK_eq', binCK_eq', binDK_eq', stVK_eq, fAddrK_eq', ixSK_eq', ixRK_eq', unVK_eq', opF_eq]
theorem w179_eq (X : Caller) (L : Looper) (K : Value → AHeap → Prop) (h : AHeap) (t0 : Value) : aJob P X L (.call 179 [t0]) K h = v179 X L K h t0 := (f179_eq X L K h t0).trans (v179_eq X L K h t0)
def v180 (X : Caller) (L : Looper) (K : Value → AHeap → Prop) (h : AHeap) (t0 t1 : Value) : Prop :=
 bumpK 2 h fun h =>
 bumpK 10 h fun h =>
 nilVK t0 fun t8 =>
 fAddrK 0 t8 fun t9 =>
 ld1K t9 h fun t10 =>
 binVK P .xor 33 33 t1 t10 h fun t11 =>
 X (.call 226 [t11]) (fun t12 h =>
 binCK P .sub 3 3 t12 (.int .i64 1) h fun t13 =>
 binCK P .quo 3 3 t13 (.int .i64 8) h fun t14 =>
 regV 9 h fun b h =>
 binDK P .mul 3 3 (.int .i64 8) t14 h fun t18 =>
 binVK P .shr 33 3 t1 t18 h fun t19 =>
 binCK P .and 33 33 t19 (.int .u64 255) h fun t20 =>
 opF (convertA P 33 3 t20 (b + 6) h) fun t21 h =>
 K (.tuple #[t14, t21]) h) h
theorem v180_eq (X : Caller) (L : Looper) (K : Value → AHeap → Prop) (h : AHeap) (t0 t1 : Value) : f180 X L K h t0 t1 = v180 X L K h t0 t1 := by
  unfold f180 v180
  simp only [rdK_rd', nilVK_eq, newVK_eq, boxVK_eq, pickVK_eq, extVK_eq, gF_rd, gF_some, gF_nil, gF_pick, gF_ext, bumpK_eq, regV_eq, ld1K_eq', ldNK_eq', binVK_eq', binCK_eq', binDK_eq', stVK_eq, fAddrK_eq', ixSK_eq', ixRK_eq', unVK_eq', opF_eq]
theorem w180_eq (X : Caller) (L : Looper) (K : Value → AHeap → Prop) (h : AHeap) (t0 t1 : Value) : aJob P X L (.call 180 [t0, t1]) K h = v180 X L K h t0 t1 := (f180_eq X L K h t0 t1).trans (v180_eq X L K h t0 t1)
def v181_l4 (X : Caller) (L : Looper) (a : AAct) (K : ActPost) (h : AHeap) : Prop :=
 bumpK 7 h fun h =>
 binCK P .eql 24 24 (a.env 9) (.int .i64 0) h fun t23 =>
 gF (wantV t23 true) (fun k => k ((a.env 8))) fun t25 =>
 gF (wantV t23 true) (fun k => k ((a.env 2))) fun t26 =>
 gF (wantV t23 true) (binVK P .leq 3 3 t25 t26 h) fun t27 =>
 pickVK t23 t27 (.bool false) fun t28 =>
 condK t28
 (bumpK 13 h fun h =>
 nilVK (a.env 0) fun t42 =>
 fAddrK 1 t42 fun t43 =>
 ixRK 8 1 t43 (a.env 1) fun t44 =>
 ld1K t44 h fun t45 =>
 X (.call 228 [t45, (a.env 8)]) (fun t47 h =>
 extVK 0 t47 fun t48 =>
 extVK 1 t47 fun t49 =>
 regV 4 h fun b h =>
 opF (builtinV P .append [143, 143] [(a.env 7), t48] (b + 2) h) fun t52 h =>
 bumpK 12 h fun h =>
 nilVK (a.env 0) fun t32 =>
 fAddrK 1 t32 fun t33 =>
 ixRK 8 1 t33 (a.env 1) fun t34 =>
 ld1K t34 h fun t35 =>
 X (.call 227 [t35, (.int .i64 0)]) (fun t36 h =>
 extVK 0 t36 fun t37 =>
 extVK 1 t36 fun t38 =>
 K .normal ⟨(upds a.env [(22, (a.env 9)), (23, t23), (24, t23), (25, t25), (26, t26), (27, t27), (28, t28), (40, (a.env 0)), (41, (a.env 1)), (42, t42), (43, t43), (44, t44), (45, t45), (46, (a.env 8)), (47, t47), (39, t47), (48, t48), (49, t49), (10, t48), (11, t49), (50, (a.env 7)), (51, t48), (52, t52), (7, t52), (30, (a.env 0)), (31, (a.env 1)), (32, t32), (33, t33), (34, t34), (35, t35), (36, t36), (29, t36), (37, t37), (38, t38), (8, t37), (9, t38)]), a.defers⟩ h) h) h)
 (K (.exit 0) ⟨(upds a.env [(22, (a.env 9)), (23, t23), (24, t23), (25, t25), (26, t26), (27, t27), (28, t28)]), a.defers⟩ h)
theorem v181_l4_eq (X : Caller) (L : Looper) (a : AAct) (K : ActPost) (h : AHeap) : f181_l4 X L a K h = v181_l4 X L a K h := by
  unfold f181_l4 v181_l4
  simp only [rdK_rd', nilVK_eq, newVK_eq, boxVK_eq, pickVK_eq, extVK_eq, gF_rd, gF_some, gF_nil, gF_pick, gF_ext, bumpK_eq, regV_eq, ld1K_eq', ldNK_eq', binVK_eq', binCK_eq', binDK_eq', stVK_eq, fAddrK_eq', ixSK_eq', ixRK_eq', unVK_eq', opF_eq]
theorem v181_l4_eq' (X : Caller) (L : Looper) : f181_l4 X L = v181_l4 X L := by
  funext a K h; exact v181_l4_eq X L a K h
def v181_j2 (X : Caller) (L : Looper) (K : Value → AHeap → Prop) (h : AHeap) (a : AAct) : Prop :=
 bumpK 2 h fun h =>
 leaveA P X Tryz.f181 ⟨(upds a.env [(53, (a.env 7)), (6, (a.env 7))]), a.defers⟩ K a.defers h
theorem v181_j2_eq (X : Caller) (L : Looper) (K : Value → AHeap → Prop) (h : AHeap) (a : AAct) : f181_j2 X L K h a = v181_j2 X L K h a := by
  unfold f181_j2 v181_j2
  simp only [rdK_rd', nilVK_eq, newVK_eq, boxVK_eq, pickVK_eq, extVK_eq, gF_rd, gF_some, gF_nil, gF_pick, gF_ext, bumpK_eq, regV_eq, ld1K_eq', ldNK_eq', binVK_eq', binCK_eq', binDK_eq', stVK_eq, fAddrK_eq', ixSK_eq', ixRK_eq', unVK_eq', opF_eq, v181_l4_eq, v181_l4_eq']
def v181 (X : Caller) (L : Looper) (K : Value → AHeap → Prop) (h : AHeap) (t0 t1 t2 : Value) : Prop :=
 bumpK 1 h fun h =>
 bumpK 1 h fun h =>
 bumpK 12 h fun h =>
 nilVK t0 fun t15 =>
 fAddrK 1 t15 fun t16 =>
 ixRK 8 1 t16 t1 fun t17 =>
 ld1K t17 h fun t18 =>
 X (.call 227 [t18, (.int .i64 0)]) (fun t19 h =>
 extVK 0 t19 fun t20 =>
 extVK 1 t19 fun t21 =>
 L (v181_l4 X L) ⟨(upds (argsEnv [t0, t1, t2]) [(6, (.slice none 0 0)), (7, (.slice none 0 0)), (13, t0), (14, t1), (15, t15), (16, t16), (17, t17), (18, t18), (19, t19), (12, t19), (20, t20), (21, t21), (8, t20), (9, t21)]), []⟩ (blkX 0 (seqX (fun a h => v181_j2 X L K h a) (finX P X Tryz.f181 K))) h) h
theorem v181_eq (X : Caller) (L : Looper) (K : Value → AHeap → Prop) (h : AHeap) (t0 t1 t2 : Value) : f181 X L K h t0 t1 t2 = v181 X L K h t0 t1 t2 := by
  unfold f181 v181
  simp only [rdK_rd', nilVK_eq, newVK_eq, boxVK_eq, pickVK_eq, extVK_eq, gF_rd, gF_some, gF_nil, gF_pick, gF_ext, bumpK_eq, regV_eq, ld1K_eq', ldNK_eq', binVK_eq', binCK_eq', binDK_eq', stVK_eq, fAddrK_eq', ixSK_eq', ixRK_eq', unVK_eq', opF_eq, v181_l4_eq, v181_l4_eq', v181_j2_eq]
theorem w181_eq (X : Caller) (L : Looper) (K : Value → AHeap → Prop) (h : AHeap) (t0 t1 t2 : Value) : aJob P X L (.call 181 [t0, t1, t2]) K h = v181 X L K h t0 t1 t2 := (f181_eq X L K h t0 t1 t2).trans (v181_eq X L K h t0 t1 t2)
def v182 (X : Caller) (L : Looper) (K : Value → AHeap → Prop) (h : AHeap) (t0 t1 : Value) : Prop :=
 regV 1 h fun b h =>
 boxVK t1 (b + 0) h fun t3 h =>
 bumpK 9 h fun h =>
 fAddrK 1 t3 fun t8 =>
 ld1K t8 h fun t9 =>
 X (.call 180 [t0, t9]) (fun t10 h =>
 extVK 0 t10 fun t11 =>
 extVK 1 t10 fun t12 =>
 bumpK 10 h fun h =>
 nilVK t0 fun t15 =>
 fAddrK 1 t15 fun t16 =>
 ixRK 8 1 t16 t11 fun t17 =>
 ld1K t17 h fun t18 =>
 fAddrK 0 t3 fun t19 =>
 ld1K t19 h fun t20 =>
 X (.call 229 [t18, t20, t12]) (fun t22 h =>
 bumpK 8 h fun h =>
 nilVK t0 fun t24 =>
 fAddrK 9 t24 fun t25 =>
 ld1K t25 h fun t26 =>
 fAddrK 0 t3 fun t27 =>
 ld1K t27 h fun t28 =>
 ldNK 3 t3 h fun t29 =>
 stK (mapPutA P 162 t26 t28 t29 h) fun h =>
 bumpK 8 h fun h =>
 nilVK t0 fun t31 =>
 fAddrK 10 t31 fun t32 =>
 ld1K t32 h fun t33 =>
 fAddrK 2 t3 fun t34 =>
 ld1K t34 h fun t35 =>
 rd' (buildA P 296 []) fun t36 =>
 stK (mapPutA P 229 t33 t35 t36 h) fun h =>
 K (.tuple #[]) h) h) h
theorem v182_eq (X : Caller) (L : Looper) (K : Value → AHeap → Prop) (h : AHeap) (t0 t1 : Value) : f182 X L K h t0 t1 = v182 X L K h t0 t1 := by
  unfold f182 v182
  simp only [rdK_rd', nilVK_eq, newVK_eq, boxVK_eq, pickVK_eq, extVK_eq, gF_rd, gF_some, gF_nil, gF_pick, gF_ext, bumpK_eq, regV_eq, ld1K_eq', ldNK_eq', binVK_eq', binCK_eq', binDK_eq', stVK_eq, fAddrK_eq', ixSK_eq', ixRK_eq', unVK_eq', opF_eq]
theorem w182_eq (X : Caller) (L : Looper) (K : Value → AHeap → Prop) (h : AHeap) (t0 t1 : Value) : aJob P X L (.call 182 [t0, t1]) K h = v182 X L K h t0 t1 := (f182_eq X L K h t0 t1).trans (v182_eq X L K h t0 t1)
def v183 (X : Caller) (L : Looper) (K : Value → AHeap → Prop) (h : AHeap) (t0 t1 : Value) : Prop :=
 regV 1 h fun b h =>
 boxVK t1 (b + 0) h fun t3 h =>
 regV 7 h fun b_1 h =>
 nilVK t0 fun t5 =>
 fAddrK 9 t5 fun t6 =>
 ld1K t6 h fun t7 =>
 fAddrK 0 t3 fun t8 =>
 ld1K t8 h fun t9 =>
 opF (builtinV P .delete [162, 81] [t7, t9] (b_1 + 6) h) fun _ h =>
 regV 7 h fun b_2 h =>
 nilVK t0 fun t11 =>
 fAddrK 10 t11 fun t12 =>
 ld1K t12 h fun t13 =>
 fAddrK 2 t3 fun t14 =>
 ld1K t14 h fun t15 =>
 opF (builtinV P .delete [229, 27] [t13, t15] (b_2 + 6) h) fun _ h =>
 K (.tuple #[]) h
theorem v183_eq (X : Caller) (L : Looper) (K : Value → AHeap → Prop) (h : AHeap) (t0 t1 : Value) : f183 X L K h t0 t1 = v183 X L K h t0 t1 := by
  unfold f183 v183
  simp only [rdK_rd', nilVK_eq, newVK_eq, boxVK_eq, pickVK_eq, extVK_eq, gF_rd, gF_some, gF_nil, gF_pick, gF_ext, bumpK_eq, regV_eq, ld1K_eq', ldNK_eq', binVK_eq', binCK_eq', binDK_eq', stVK_eq, fAddrK_eq', ixSK_eq', ixRK_eq', unVK_eq', opF_eq]
theorem w183_eq (X : Caller) (L : Looper) (K : Value → AHeap → Prop) (h : AHeap) (t0 t1 : Value) : aJob P X L (.call 183 [t0, t1]) K h = v183 X L K h t0 t1 := (f183_eq X L K h t0 t1).trans (v183_eq X L K h t0 t1)
def v184 (X : Caller) (L : Looper) (K : Value → AHeap → Prop) (h : AHeap) (t0 t1 : Value) : Prop :=
 regV 3 h fun b h =>
 opF (builtinV P .len [171] [t0] (b + 1) h) fun t6 h =>
 regV 7 h fun b_1 h =>
 opF (convertA P 3 316 t6 (b_1 + 3) h) fun t10 h =>
 X (.call 231 [t10]) (fun t11 h =>
 X (.call 230 [t0, (.int .i64 0), t6, t11, t1]) (fun t13 h =>
 K (.tuple #[]) h) h) h
theorem v184_eq (X : Caller) (L : Looper) (K : Value → AHeap → Prop) (h : AHeap) (t0 t1 : Value) : f184 X L K h t0 t1 = v184 X L K h t0 t1 := by
  unfold f184 v184
  simp only [rdK_rd', nilVK_eq, newVK_eq, boxVK_eq, pickVK_eq, extVK_eq, gF_rd, gF_some, gF_nil, gF_pick, gF_ext, bumpK_eq, regV_eq, ld1K_eq', ldNK_eq', binVK_eq', binCK_eq', binDK_eq', stVK_eq, fAddrK_eq', ixSK_eq', ixRK_eq', unVK_eq', opF_eq]
theorem w184_eq (X : Caller) (L : Looper) (K : Value → AHeap → Prop) (h : AHeap) (t0 t1 : Value) : aJob P X L (.call 184 [t0, t1]) K h = v184 X L K h t0 t1 := (f184_eq X L K h t0 t1).trans (v184_eq X L K h t0 t1)
def v189_j7 (X : Caller) (L : Looper) (K : ActPost) (h : AHeap) (a : AAct) : Prop :=
 bumpK 2 h fun h =>
 binCK P .add 3 3 (a.env 11) (.int .i64 1) h fun t22 =>
 K .normal ⟨(upds a.env [(22, t22), (11, t22)]), a.defers⟩ h
theorem v189_j7_eq (X : Caller) (L : Looper) (K : ActPost) (h : AHeap) (a : AAct) : f189_j7 X L K h a = v189_j7 X L K h a := by
  unfold f189_j7 v189_j7
  simp only [rdK_rd', nilVK_eq, newVK_eq, boxVK_eq, pickVK_eq, extVK_eq, gF_rd, gF_some, gF_nil, gF_pick, gF_ext, bumpK_eq, regV_eq, ld1K_eq', ldNK_eq', binVK_eq', binCK_eq', binDK_eq', stVK_eq, fAddrK_eq', ixSK_eq', ixRK_eq', unVK_eq', opF_eq]
def v189_l4 (X : Caller) (L : Looper) (a : AAct) (K : ActPost) (h : AHeap) : Prop :=
 bumpK 1 h fun h =>
 binVK P .lss 3 3 (a.env 11) (a.env 10) h fun t12 =>
 condK t12
 (bumpK 3 h fun h =>
 ixSK 1 (a.env 9) (a.env 11) fun t13 =>
 ld1K t13 h fun t14 =>
 regV 5 h fun b_1 h =>
 opF (builtinV P .len [178] [t14] (b_1 + 2) h) fun t17 h =>
 binVK P .add 3 3 (a.env 3) t17 h fun t18 =>
 bumpK 2 h fun h =>
 binCK P .lss 3 3 t18 (.int .i64 0) h fun t20 =>
 condK t20
 (bumpK 2 h fun h =>
  False)
 (v189_j7 X L K h ⟨(upds a.env [(12, t12), (13, t13), (14, t14), (5, t14), (15, (a.env 3)), (16, t14), (17, t17), (18, t18), (3, t18), (19, t18), (20, t20)]), a.defers⟩))
 (K (.exit 0) ⟨(upds a.env [(12, t12)]), a.defers⟩ h)
theorem v189_l4_eq (X : Caller) (L : Looper) (a : AAct) (K : ActPost) (h : AHeap) : f189_l4 X L a K h = v189_l4 X L a K h := by
  unfold f189_l4 v189_l4
  simp only [rdK_rd', nilVK_eq, newVK_eq, boxVK_eq, pickVK_eq, extVK_eq, gF_rd, gF_some, gF_nil, gF_pick, gF_ext, bumpK_eq, regV_eq, ld1K_eq', ldNK_eq', binVK_eq', binCK_eq', binDK_eq', stVK_eq, fAddrK_eq', ixSK_eq', ixRK_eq', unVK_eq', opF_eq, v189_j7_eq]
theorem v189_l4_eq' (X : Caller) (L : Looper) : f189_l4 X L = v189_l4 X L := by
  funext a K h; exact v189_l4_eq X L a K h
def v189_l14 (X : Caller) (L : Looper) (a : AAct) (K : ActPost) (h : AHeap) : Prop :=
 bumpK 1 h fun h =>
 binVK P .lss 3 3 (a.env 27) (a.env 26) h fun t28 =>
 condK t28
 (bumpK 3 h fun h =>
 ixSK 1 (a.env 25) (a.env 27) fun t29 =>
 ld1K t29 h fun t30 =>
 regV 4 h fun b_3 h =>
 opF (builtinV P .append [178, 178] [(a.env 6), t30] (b_3 + 2) h) fun t33 h =>
 bumpK 2 h fun h =>
 binCK P .add 3 3 (a.env 27) (.int .i64 1) h fun t34 =>
 K .normal ⟨(upds a.env [(28, t28), (29, t29), (30, t30), (8, t30), (31, (a.env 6)), (32, t30), (33, t33), (6, t33), (34, t34), (27, t34)]), a.defers⟩ h)
 (K (.exit 2) ⟨(upds a.env [(28, t28)]), a.defers⟩ h)
theorem v189_l14_eq (X : Caller) (L : Looper) (a : AAct) (K : ActPost) (h : AHeap) : f189_l14 X L a K h = v189_l14 X L a K h := by
  unfold f189_l14 v189_l14
  simp only [rdK_rd', nilVK_eq, newVK_eq, boxVK_eq, pickVK_eq, extVK_eq, gF_rd, gF_some, gF_nil, gF_pick, gF_ext, bumpK_eq, regV_eq, ld1K_eq', ldNK_eq', binVK_eq', binCK_eq', binDK_eq', stVK_eq, fAddrK_eq', ixSK_eq', ixRK_eq', unVK_eq', opF_eq, v189_j7_eq, v189_l4_eq, v189_l4_eq']
theorem v189_l14_eq' (X : Caller) (L : Looper) : f189_l14 X L = v189_l14 X L := by
  funext a K h; exact v189_l14_eq X L a K h
def v189_j12 (X : Caller) (L : Looper) (K : Value → AHeap → Prop) (h : AHeap) (a : AAct) : Prop :=
 bumpK 2 h fun h =>
 leaveA P X Tryz.f189 ⟨(upds a.env [(35, (a.env 6)), (2, (a.env 6))]), a.defers⟩ K a.defers h
theorem v189_j12_eq (X : Caller) (L : Looper) (K : Value → AHeap → Prop) (h : AHeap) (a : AAct) : f189_j12 X L K h a = v189_j12 X L K h a := by
  unfold f189_j12 v189_j12
  simp only [rdK_rd', nilVK_eq, newVK_eq, boxVK_eq, pickVK_eq, extVK_eq, gF_rd, gF_some, gF_nil, gF_pick, gF_ext, bumpK_eq, regV_eq, ld1K_eq', ldNK_eq', binVK_eq', binCK_eq', binDK_eq', stVK_eq, fAddrK_eq', ixSK_eq', ixRK_eq', unVK_eq', opF_eq, v189_j7_eq, v189_l4_eq, v189_l4_eq', v189_l14_eq, v189_l14_eq']
def v189_j2 (X : Caller) (L : Looper) (K : Value → AHeap → Prop) (h : AHeap) (a : AAct) : Prop :=
 bumpK 3 h fun h =>
 X (.call 234 [(.slice none 0 0), (a.env 3)]) (fun t24 h =>
 regV 3 h fun b_2 h =>
 opF (builtinV P .len [334] [(a.env 0)] (b_2 + 1) h) fun t26 h =>
 L (v189_l14 X L) ⟨(upds a.env [(23, (a.env 3)), (24, t24), (6, t24), (25, (a.env 0)), (26, t26), (27, (.int .i64 0))]), a.defers⟩ (blkX 2 (seqX (fun a h => v189_j12 X L K h a) (finX P X Tryz.f189 K))) h) h
theorem v189_j2_eq (X : Caller) (L : Looper) (K : Value → AHeap → Prop) (h : AHeap) (a : AAct) : f189_j2 X L K h a = v189_j2 X L K h a := by
  unfold f189_j2 v189_j2
  simp only [rdK_rd', nilVK_eq, newVK_eq, boxVK_eq, pickVK_eq, extVK_eq, gF_rd, gF_some, gF_nil, gF_pick, gF_ext, bumpK_eq, regV_eq, ld1K_eq', ldNK_eq', binVK_eq', binCK_eq', binDK_eq', stVK_eq, fAddrK_eq', ixSK_eq', ixRK_eq', unVK_eq', opF_eq, v189_j7_eq, v189_l4_eq, v189_l4_eq', v189_l14_eq, v189_l14_eq', v189_j12_eq]
def v189 (X : Caller) (L : Looper) (K : Value → AHeap → Prop) (h : AHeap) (t0 : Value) : Prop :=
 bumpK 1 h fun h =>
 bumpK 1 h fun h =>
 regV 3 h fun b h =>
 opF (builtinV P .len [334] [t0] (b + 1) h) fun t10 h =>
 L (v189_l4 X L) ⟨(upds (argsEnv [t0]) [(2, (.slice none 0 0)), (3, (.int .i64 0)), (9, t0), (10, t10), (11, (.int .i64 0))]), []⟩ (blkX 0 (seqX (fun a h => v189_j2 X L K h a) (finX P X Tryz.f189 K))) h
theorem v189_eq (X : Caller) (L : Looper) (K : Value → AHeap → Prop) (h : AHeap) (t0 : Value) : f189 X L K h t0 = v189 X L K h t0 := by
  unfold f189 v189
  simp only [rdK_rd', nilVK_eq, newVK_eq, boxVK_eq, pickVK_eq, extVK_eq, gF_rd, gF_some, gF_nil, gF_pick, gF_ext, bumpK_eq, regV_eq, ld1K_eq', ldNK_eq', binVK_eq', binCK_eq', binDK_eq', stVK_eq, fAddrK_eq', ixSK_eq', ixRK_eq', unVK_eq', opF_eq, v189_j7_eq, v189_l4_eq, v189_l4_eq', v189_l14_eq, v189_l14_eq', v189_j12_eq, v189_j2_eq]
theorem w189_eq (X : Caller) (L : Looper) (K : Value → AHeap → Prop) (h : AHeap) (t0 : Value) : aJob P X L (.call 189 [t0]) K h = v189 X L K h t0 := (f189_eq X L K h t0).trans (v189_eq X L K h t0)
def v190 (X : Caller) (L : Looper) (K : Value → AHeap → Prop) (h : AHeap) (t0 : Value) : Prop :=
 regV 2 h fun b h =>
 boxVK t0 (b + 0) h fun t1 h =>
 bumpK 6 h fun h =>
 fAddrK 0 t1 fun t3 =>
 ld1K t3 h fun t4 =>
 X (.call 236 [t4]) (fun t5 h =>
 X (.call 235 [t5, (.func (.func 237) #[] #[t1])]) (fun t7 h =>
 K t7 h) h) h
theorem v190_eq (X : Caller) (L : Looper) (K : Value → AHeap → Prop) (h : AHeap) (t0 : Value) : f190 X L K h t0 = v190 X L K h t0 := by
  unfold f190 v190
  simp only [rdK_rd', nilVK_eq, newVK_eq, boxVK_eq, pickVK_eq, extVK_eq, gF_rd, gF_some, gF_nil, gF_pick, gF_ext, bumpK_eq, regV_eq, ld1K_eq', ldNK_eq', binVK_eq', binCK_eq', binDK_eq', stVK_eq, fAddrK_eq', ixSK_eq', ixRK_eq', unVK_eq', opF_eq]
theorem w190_eq (X : Caller) (L : Looper) (K : Value → AHeap → Prop) (h : AHeap) (t0 : Value) : aJob P X L (.call 190 [t0]) K h = v190 X L K h t0 := (f190_eq X L K h t0).trans (v190_eq X L K h t0)
def v192 (X : Caller) (L : Looper) (K : Value → AHeap → Prop) (h : AHeap) (t0 t1 : Value) : Prop :=
 bumpK 1 h fun h =>
 regV 6 h fun b h =>
 X (.call 238 [t0, t1]) (fun t8 h =>
 opF (builtinV P .append [143, 143] [(.slice none 0 0), t8] (b + 3) h) fun t9 h =>
 newVK [.slice none 0 0] (b + 4) h fun t5 h =>
 stVK 1 t5 t9 h fun h =>
 bumpK 2 h fun h =>
 K (.func (.func 239) #[] #[t5]) h) h
theorem v192_eq (X : Caller) (L : Looper) (K : Value → AHeap → Prop) (h : AHeap) (t0 t1 : Value) : f192 X L K h t0 t1 = v192 X L K h t0 t1 := by
  unfold f192 v192
  simp only [rdK_rd', nilVK_eq, newVK_eq, boxVK_eq, pickVK_eq, extVK_eq, gF_rd, gF_some, gF_nil, gF_pick, gF_ext, bumpK_eq, regV_eq, ld1K_eq', ldNK_eq', binVK_eq', binCK_eq', binDK_eq', stVK_eq, fAddrK_eq', ixSK_eq', ixRK_eq', unVK_eq', opF_eq]
theorem w192_eq (X : Caller) (L : Looper) (K : Value → AHeap → Prop) (h : AHeap) (t0 t1 : Value) : aJob P X L (.call 192 [t0, t1]) K h = v192 X L K h t0 t1 := (f192_eq X L K h t0 t1).trans (v192_eq X L K h t0 t1)
def v199_l3 (X : Caller) (L : Looper) (a : AAct) (K : ActPost) (h : AHeap) : Prop :=
 bumpK 1 h fun h =>
 binVK P .lss 3 3 (a.env 7) (a.env 6) h fun t8 =>
 condK t8
 (regV 4 h fun b_1 h =>
 ixSK 2 (a.env 5) (a.env 7) fun t9 =>
 ldNK 2 t9 h fun t10 =>
 newVK [.bool false, .int .i64 0] (b_1 + 2) h fun t4 h =>
 stVK 2 t4 t10 h fun h =>
 bumpK 2 h fun h =>
 fAddrK 0 t4 fun t11 =>
 ld1K t11 h fun t12 =>
 condK t12
 (bumpK 3 h fun h =>
  fAddrK 1 t4 fun t13 =>
  ld1K t13 h fun t14 =>
  K .ret ⟨(upds a.env [(8, t8), (9, t9), (10, t10), (4, t4), (11, t11), (12, t12), (13, t13), (14, t14), (2, t14)]), a.defers⟩ h)
 (bumpK 2 h fun h =>
 binCK P .add 3 3 (a.env 7) (.int .i64 1) h fun t15 =>
 K .normal ⟨(upds a.env [(8, t8), (9, t9), (10, t10), (4, t4), (11, t11), (12, t12), (15, t15), (7, t15)]), a.defers⟩ h))
 (K (.exit 0) ⟨(upds a.env [(8, t8)]), a.defers⟩ h)
theorem v199_l3_eq (X : Caller) (L : Looper) (a : AAct) (K : ActPost) (h : AHeap) : f199_l3 X L a K h = v199_l3 X L a K h := by
  unfold f199_l3 v199_l3
  simp only [rdK_rd', nilVK_eq, newVK_eq, boxVK_eq, pickVK_eq, extVK_eq, gF_rd, gF_some, gF_nil, gF_pick, gF_ext, bumpK_eq, regV_eq, ld1K_eq', ldNK_eq', binVK_eq', binCK_eq', binDK_eq', stVK_eq, fAddrK_eq', ixSK_eq', ixRK_eq', unVK_eq', opF_eq]
theorem v199_l3_eq' (X : Caller) (L : Looper) : f199_l3 X L = v199_l3 X L := by
  funext a K h; exact v199_l3_eq X L a K h
def v199_j1 (X : Caller) (L : Looper) (K : Value → AHeap → Prop) (h : AHeap) (a : AAct) : Prop :=
 bumpK 1 h fun h =>
 leaveA P X Tryz.f199 ⟨(upds a.env [(2, (.int .i64 0))]), a.defers⟩ K a.defers h
theorem v199_j1_eq (X : Caller) (L : Looper) (K : Value → AHeap → Prop) (h : AHeap) (a : AAct) : f199_j1 X L K h a = v199_j1 X L K h a := by
  unfold f199_j1 v199_j1
  simp only [rdK_rd', nilVK_eq, newVK_eq, boxVK_eq, pickVK_eq, extVK_eq, gF_rd, gF_some, gF_nil, gF_pick, gF_ext, bumpK_eq, regV_eq, ld1K_eq', ldNK_eq', binVK_eq', binCK_eq', binDK_eq', stVK_eq, fAddrK_eq', ixSK_eq', ixRK_eq', unVK_eq', opF_eq, v199_l3_eq, v199_l3_eq']
def v199 (X : Caller) (L : Looper) (K : Value → AHeap → Prop) (h : AHeap) (t0 : Value) : Prop :=
 bumpK 1 h fun h =>
 regV 3 h fun b h =>
 opF (builtinV P .len [344] [t0] (b + 1) h) fun t6 h =>
 L (v199_l3 X L) ⟨(upds (argsEnv [t0]) [(2, (.int .i64 0)), (5, t0), (6, t6), (7, (.int .i64 0))]), []⟩ (blkX 0 (seqX (fun a h => v199_j1 X L K h a) (finX P X Tryz.f199 K))) h
theorem v199_eq (X : Caller) (L : Looper) (K : Value → AHeap → Prop) (h : AHeap) (t0 : Value) : f199 X L K h t0 = v199 X L K h t0 := by
  unfold f199 v199
  simp only [rdK_rd', nilVK_eq, newVK_eq, boxVK_eq, pickVK_eq, extVK_eq, gF_rd, gF_some, gF_nil, gF_pick, gF_ext, bumpK_eq, regV_eq, ld1K_eq', ldNK_eq', binVK_eq', binCK_eq', binDK_eq', stVK_eq, fAddrK_eq', ixSK_eq', ixRK_eq', unVK_eq', opF_eq, v199_l3_eq, v199_l3_eq', v199_j1_eq]
theorem w199_eq (X : Caller) (L : Looper) (K : Value → AHeap → Prop) (h : AHeap) (t0 : Value) : aJob P X L (.call 199 [t0]) K h = v199 X L K h t0 := (f199_eq X L K h t0).trans (v199_eq X L K h t0)
def v200 (X : Caller) (L : Looper) (K : Value → AHeap → Prop) (h : AHeap) (t0 t1 : Value) : Prop :=
 regV 2 h fun b h =>
 boxVK t1 (b + 0) h fun t3 h =>
 bumpK 5 h fun h =>
 fAddrK 0 t3 fun t12 =>
 ld1K t12 h fun t13 =>
 X (.call 134 [t0, t13]) (fun t14 h =>
 bumpK 2 h fun h =>
 binCK P .neq 24 24 t14 (.int .i64 0) h fun t16 =>
 condK t16
 (bumpK 2 h fun h =>
  K t14 h)
 (bumpK 3 h fun h =>
 fAddrK 2 t3 fun t18 =>
 ld1K t18 h fun t19 =>
 binCK P .eql 27 27 t19 (.int .u64 0) h fun t20 =>
 condK t20
 (bumpK 1 h fun h =>
  K (.int .i64 2) h)
 (bumpK 7 h fun h =>
 fAddrK 0 t3 fun t22 =>
 ld1K t22 h fun t23 =>
 fAddrK 1 t3 fun t24 =>
 ld1K t24 h fun t25 =>
 X (.call 245 [t0, t23, t25]) (fun t26 h =>
 bumpK 2 h fun h =>
 binCK P .neq 24 24 t26 (.int .i64 0) h fun t28 =>
 condK t28
 (bumpK 2 h fun h =>
  K t26 h)
 (regV 13 h fun b_1 h =>
 nilVK t0 fun t32 =>
 fAddrK 9 t32 fun t33 =>
 ld1K t33 h fun t34 =>
 fAddrK 0 t3 fun t35 =>
 ld1K t35 h fun t36 =>
 rd' (lookupA P 162 t34 t36 true h) fun t37 =>
 extVK 0 t37 fun t38 =>
 extVK 1 t37 fun t39 =>
 newVK [.int .u32 0, .int .u64 0, .int .u64 0] (b_1 + 10) h fun t7 h =>
 stVK 3 t7 t38 h fun h =>
 regV 13 h fun b_2 h =>
 nilVK t0 fun t42 =>
 fAddrK 10 t42 fun t43 =>
 ld1K t43 h fun t44 =>
 fAddrK 2 t3 fun t45 =>
 ld1K t45 h fun t46 =>
 rd' (lookupA P 229 t44 t46 true h) fun t47 =>
 extVK 0 t47 fun t48 =>
 extVK 1 t47 fun t49 =>
 newVK [] (b_2 + 10) h fun t9 h =>
 stVK 0 t9 t48 h fun h =>
 bumpK 4 h fun h =>
 gF (wantV t39 false) (fun k => k t49) fun t52 =>
 pickVK t39 (.bool true) t52 fun t53 =>
 condK t53
 (bumpK 1 h fun h =>
  K (.int .i64 11) h)
 (bumpK 3 h fun h =>
 ldNK 3 t3 h fun t55 =>
 X (.call 182 [t0, t55]) (fun t56 h =>
 bumpK 1 h fun h =>
 K (.int .i64 0) h) h))) h))) h
theorem v200_eq (X : Caller) (L : Looper) (K : Value → AHeap → Prop) (h : AHeap) (t0 t1 : Value) : f200 X L K h t0 t1 = v200 X L K h t0 t1 := by
  unfold f200 v200
  simp only [rdK_rd', nilVK_eq, newVK_eq, boxVK_eq, pickVK_eq, extVK_eq, gF_rd, gF_some, gF_nil, gF_pick, gF_ext, bumpK_eq, regV_eq, ld1K_eq', ldNK_eq', binVK_eq', binCK_eq', binDK_eq', stVK_eq, fAddrK_eq', ixSK_eq', ixRK_eq', unVK_eq', opF_eq]
theorem w200_eq (X : Caller) (L : Looper) (K : Value → AHeap → Prop) (h : AHeap) (t0 t1 : Value) : aJob P X L (.call 200 [t0, t1]) K h = v200 X L K h t0 t1 := (f200_eq X L K h t0 t1).trans (v200_eq X L K h t0 t1)
def v201_j8 (X : Caller) (L : Looper) (K : Value → AHeap → Prop) (h : AHeap) (t10 t6 t49 t50 t7 : Value) : Prop :=
 bumpK 3 h fun h =>
 ldNK 2 t10 h fun t49_1 =>
 stVK 2 t6 t49_1 h fun h =>
 retK (consR (ldN 2 t6 h) (consR (some (.int .i64 0)) (some []))) K h
theorem v201_j8_eq (X : Caller) (L : Looper) (K : Value → AHeap → Prop) (h : AHeap) (t10 t6 t49 t50 t7 : Value) : f201_j8 X L K h t10 t6 t49 t50 t7 = v201_j8 X L K h t10 t6 t49 t50 t7 := by
  unfold f201_j8 v201_j8
  simp only [rdK_rd', nilVK_eq, newVK_eq, boxVK_eq, pickVK_eq, extVK_eq, gF_rd, gF_some, gF_nil, gF_pick, gF_ext, bumpK_eq, regV_eq, ld1K_eq', ldNK_eq', binVK_eq', binCK_eq', binDK_eq', stVK_eq, fAddrK_eq', ixSK_eq', ixRK_eq', unVK_eq', opF_eq]
def v201_j7 (X : Caller) (L : Looper) (K : Value → AHeap → Prop) (h : AHeap) (t6 t50 t7 : Value) : Prop :=
 bumpK 3 h fun h =>
 rd' (buildA P 204 []) fun t50_1 =>
 stVK 2 t6 t50_1 h fun h =>
 retK (consR (ldN 2 t6 h) (consR (some (.int .i64 7)) (some []))) K h
theorem v201_j7_eq (X : Caller) (L : Looper) (K : Value → AHeap → Prop) (h : AHeap) (t6 t50 t7 : Value) : f201_j7 X L K h t6 t50 t7 = v201_j7 X L K h t6 t50 t7 := by
  unfold f201_j7 v201_j7
  simp only [rdK_rd', nilVK_eq, newVK_eq, boxVK_eq, pickVK_eq, extVK_eq, gF_rd, gF_some, gF_nil, gF_pick, gF_ext, bumpK_eq, regV_eq, ld1K_eq', ldNK_eq', binVK_eq', binCK_eq', binDK_eq', stVK_eq, fAddrK_eq', ixSK_eq', ixRK_eq', unVK_eq', opF_eq, v201_j8_eq]
def v201 (X : Caller) (L : Looper) (K : Value → AHeap → Prop) (h : AHeap) (t0 t1 t2 : Value) : Prop :=
 regV 2 h fun b h =>
 newVK [.int .i64 0, .bool false] (b + 0) h fun t6 h =>
 bumpK 5 h fun h =>
 X (.call 166 [t0, t1, t2]) (fun t14 h =>
 bumpK 2 h fun h =>
 binCK P .neq 24 24 t14 (.int .i64 0) h fun t16 =>
 condK t16
 (bumpK 4 h fun h =>
  rd' (buildA P 204 []) fun t17 =>
  stVK 2 t6 t17 h fun h =>
  retK (consR (ldN 2 t6 h) (consR (some t14) (some []))) K h)
 (bumpK 3 h fun h =>
 X (.call 246 [t0]) (fun t20 h =>
 regV 9 h fun b_1 h =>
 binVK P .add 3 3 t1 t2 h fun t24 =>
 binVK P .geq 3 3 t24 t20 h fun t26 =>
 rd' (buildA P 204 [(0, t0), (1, t26)]) fun t27 =>
 newVK [.int .i64 0, .bool false] (b_1 + 7) h fun t10 h =>
 stVK 2 t10 t27 h fun h =>
 bumpK 10 h fun h =>
 fAddrK 1 t10 fun t29 =>
 ld1K t29 h fun t30 =>
 unVK P .not 4 t30 fun t31 =>
 gF (wantV t31 false) (fun k => k t1) fun t33 =>
 gF (wantV t31 false) (binDK P .mul 3 3 (.int .i64 2) t33 h) fun t34 =>
 gF (wantV t31 false) (fun k => k t20) fun t35 =>
 gF (wantV t31 false) (binVK P .leq 3 3 t34 t35 h) fun t36 =>
 pickVK t31 (.bool true) t36 fun t37 =>
 condK t37
 (bumpK 3 h fun h =>
 ldNK 2 t10 h fun t45 =>
 stVK 2 t6 t45 h fun h =>
 retK (consR (ldN 2 t6 h) (consR (some (.int .i64 0)) (some []))) K h)
 (bumpK 3 h fun h =>
 binCK P .lss 3 3 t0 (.int .i64 1048576) h fun t40 =>
 condK t40
 (bumpK 4 h fun h =>
 binDK P .mul 3 3 (.int .i64 2) t0 h fun t47 =>
 fAddrK 0 t10 fun t48 =>
 stVK 1 t48 t47 h fun h =>
 v201_j8 X L K h t10 t6 undef undef ((.int .i64 0)))
 (bumpK 4 h fun h =>
 binVK P .lss 3 3 t1 t20 h fun t44 =>
 condK t44
 (v201_j8 X L K h t10 t6 undef undef ((.int .i64 0)))
 (v201_j7 X L K h t6 undef ((.int .i64 0)))))) h)) h
theorem v201_eq (X : Caller) (L : Looper) (K : Value → AHeap → Prop) (h : AHeap) (t0 t1 t2 : Value) : f201 X L K h t0 t1 t2 = v201 X L K h t0 t1 t2 := by
  unfold f201 v201
  simp only [rdK_rd', nilVK_eq, newVK_eq, boxVK_eq, pickVK_eq, extVK_eq, gF_rd, gF_some, gF_nil, gF_pick, gF_ext, bumpK_eq, regV_eq, ld1K_eq', ldNK_eq', binVK_eq', binCK_eq', binDK_eq', stVK_eq, fAddrK_eq', ixSK_eq', ixRK_eq', unVK_eq', opF_eq, v201_j8_eq, v201_j7_eq]
theorem w201_eq (X : Caller) (L : Looper) (K : Value → AHeap → Prop) (h : AHeap) (t0 t1 t2 : Value) : aJob P X L (.call 201 [t0, t1, t2]) K h = v201 X L K h t0 t1 t2 := (f201_eq X L K h t0 t1 t2).trans (v201_eq X L K h t0 t1 t2)
def v202_j5 (X : Caller) (L : Looper) (K : Value → AHeap → Prop) (h : AHeap) (a : AAct) : Prop :=
 bumpK 1 h fun h =>
 stVK 1 (a.env 6) (.int .i64 7) h fun h =>
 leaveA P X Tryz.f202 ⟨a.env, a.defers⟩ K a.defers h
theorem v202_j5_eq (X : Caller) (L : Looper) (K : Value → AHeap → Prop) (h : AHeap) (a : AAct) : f202_j5 X L K h a = v202_j5 X L K h a := by
  unfold f202_j5 v202_j5
  simp only [rdK_rd', nilVK_eq, newVK_eq, boxVK_eq, pickVK_eq, extVK_eq, gF_rd, gF_some, gF_nil, gF_pick, gF_ext, bumpK_eq, regV_eq, ld1K_eq', ldNK_eq', binVK_eq', binCK_eq', binDK_eq', stVK_eq, fAddrK_eq', ixSK_eq', ixRK_eq', unVK_eq', opF_eq]
def v202 (X : Caller) (L : Looper) (K : Value → AHeap → Prop) (h : AHeap) (t0 t1 t2 : Value) : Prop :=
 regV 4 h fun b h =>
 boxVK t0 (b + 0) h fun t3 h =>
 boxVK t1 (b + 1) h fun t4 h =>
 boxVK t2 (b + 2) h fun t5 h =>
 newVK [.int .i64 0] (b + 3) h fun t6 h =>
 bumpK 2 h fun h =>
 ld1K t3 h fun t12 =>
 X (.call 157 [t12]) (fun t13 h =>
 condK t13
 (bumpK 1 h fun h =>
  stVK 1 t6 (.int .i64 1) h fun h =>
  retK (consR (ld1 t6 h) (some [])) K h)
 (regV 13 h fun b_1 h =>
 ld1K t4 h fun t15 =>
 ld1K t3 h fun t17 =>
 nilVK t17 fun t18 =>
 fAddrK 0 t18 fun t19 =>
 ld1K t19 h fun t20 =>
 opF (builtinV P .len [220] [t20] (b_1 + 6) h) fun t21 h =>
 X (.call 204 [t15]) (fun t16 h =>
 chkK (chkR (builtinV P .len [220] [t20] (b_1 + 6) h) t21 (chkR ((ld1 t19 h).map (·, h)) t20 (chkR ((ld1 t3 h).map (·, h)) t17 true))) <|
 X (.call 203 [t16, t21]) (fun t22 h =>
 extVK 0 t22 fun t23 =>
 extVK 1 t22 fun t24 =>
 bumpK 1 h fun h =>
 rangeK X t23 ⟨(upds (argsEnv [t0, t1, t2]) [(3, t3), (4, t4), (5, t5), (6, t6), (12, t12), (13, t13), (15, t15), (17, t17), (18, t18), (19, t19), (20, t20), (21, t21), (16, t16), (22, t22), (14, t22), (23, t23), (24, t24), (7, t23), (8, t24), (25, t23)]), []⟩ [26] f202_ca0 f202_cb0 (blkX 0 (seqX (fun a h => v202_j5 X L K h a) (finX P X Tryz.f202 K))) h) h) h)) h
theorem v202_eq (X : Caller) (L : Looper) (K : Value → AHeap → Prop) (h : AHeap) (t0 t1 t2 : Value) : f202 X L K h t0 t1 t2 = v202 X L K h t0 t1 t2 := by
  unfold f202 v202
  simp only [rdK_rd', nilVK_eq, newVK_eq, boxVK_eq, pickVK_eq, extVK_eq, gF_rd, gF_some, gF_nil, gF_pick, gF_ext, bumpK_eq, regV_eq, ld1K_eq', ldNK_eq', binVK_eq', binCK_eq', binDK_eq', stVK_eq, fAddrK_eq', ixSK_eq', ixRK_eq', unVK_eq', opF_eq, v202_j5_eq]
theorem w202_eq (X : Caller) (L : Looper) (K : Value → AHeap → Prop) (h : AHeap) (t0 t1 t2 : Value) : aJob P X L (.call 202 [t0, t1, t2]) K h = v202 X L K h t0 t1 t2 := (f202_eq X L K h t0 t1 t2).trans (v202_eq X L K h t0 t1 t2)
def v203_j2 (X : Caller) (L : Looper) (K : Value → AHeap → Prop) (h : AHeap) (t6 t2 t3 t7 t13 t14 t4 t5 : Value) : Prop :=
 bumpK 4 h fun h =>
 K (.tuple #[(.func (.func 251) #[] #[t6, t2, t3]), t7]) h
theorem v203_j2_eq (X : Caller) (L : Looper) (K : Value → AHeap → Prop) (h : AHeap) (t6 t2 t3 t7 t13 t14 t4 t5 : Value) : f203_j2 X L K h t6 t2 t3 t7 t13 t14 t4 t5 = v203_j2 X L K h t6 t2 t3 t7 t13 t14 t4 t5 := by
  unfold f203_j2 v203_j2
  simp only [rdK_rd', nilVK_eq, newVK_eq, boxVK_eq, pickVK_eq, extVK_eq, gF_rd, gF_some, gF_nil, gF_pick, gF_ext, bumpK_eq, regV_eq, ld1K_eq', ldNK_eq', binVK_eq', binCK_eq', binDK_eq', stVK_eq, fAddrK_eq', ixSK_eq', ixRK_eq', unVK_eq', opF_eq]
def v203 (X : Caller) (L : Looper) (K : Value → AHeap → Prop) (h : AHeap) (t0 t1 : Value) : Prop :=
 regV 4 h fun b h =>
 boxVK t0 (b + 0) h fun t2 h =>
 boxVK t1 (b + 1) h fun t3 h =>
 regV 6 h fun b_1 h =>
 ld1K t3 h fun t8 =>
 ld1K t3 h fun t9 =>
 newVK [.int .i64 0] (b_1 + 3) h fun t6 h =>
 X (.call 250 [t9, (.int .i64 0)]) (fun t10 h =>
 chkK (chkR ((ld1 t3 h).map (·, h)) t8 true) <|
 stVK 1 t6 t8 h fun h =>
 bumpK 2 h fun h =>
 binCK P .neq 24 24 t10 (.int .i64 0) h fun t12 =>
 condK t12
 (bumpK 1 h fun h =>
  stVK 1 t6 (.int .i64 0) h fun h =>
  v203_j2 X L K h t6 t2 t3 t10 undef undef .nilFunc ((.int .i64 0)))
 (v203_j2 X L K h t6 t2 t3 t10 undef undef .nilFunc ((.int .i64 0)))) h
theorem v203_eq (X : Caller) (L : Looper) (K : Value → AHeap → Prop) (h : AHeap) (t0 t1 : Value) : f203 X L K h t0 t1 = v203 X L K h t0 t1 := by
  unfold f203 v203
  simp only [rdK_rd', nilVK_eq, newVK_eq, boxVK_eq, pickVK_eq, extVK_eq, gF_rd, gF_some, gF_nil, gF_pick, gF_ext, bumpK_eq, regV_eq, ld1K_eq', ldNK_eq', binVK_eq', binCK_eq', binDK_eq', stVK_eq, fAddrK_eq', ixSK_eq', ixRK_eq', unVK_eq', opF_eq, v203_j2_eq]
theorem w203_eq (X : Caller) (L : Looper) (K : Value → AHeap → Prop) (h : AHeap) (t0 t1 : Value) : aJob P X L (.call 203 [t0, t1]) K h = v203 X L K h t0 t1 := (f203_eq X L K h t0 t1).trans (v203_eq X L K h t0 t1)
def v204 (X : Caller) (L : Looper) (K : Value → AHeap → Prop) (h : AHeap) (t0 : Value) : Prop :=
 bumpK 1 h fun h =>
 bumpK 3 h fun h =>
 binCK P .shr 27 316 t0 (.int .u64 7) h fun t4 =>
 K t4 h
theorem v204_eq (X : Caller) (L : Looper) (K : Value → AHeap → Prop) (h : AHeap) (t0 : Value) : f204 X L K h t0 = v204 X L K h t0 := by
  unfold f204 v204
  simp only [rdK_rd', nilVK_eq, newVK_eq, boxVK_eq, pickVK_eq, extVK_eq, gF_rd, gF_some, gF_nil, gF_pick, gF_ext, bumpK_eq, regV_eq, ld1K_eq', ldNK_eq', binVK_eq', binCK_eq', binDK_eq', stVK_eq, fAddrK_eq', ixSK_eq', ixRK_eq', unVK_eq', opF_eq]
theorem w204_eq (X : Caller) (L : Looper) (K : Value → AHeap → Prop) (h : AHeap) (t0 : Value) : aJob P X L (.call 204 [t0]) K h = v204 X L K h t0 := (f204_eq X L K h t0).trans (v204_eq X L K h t0)
def v205 (X : Caller) (L : Looper) (K : Value → AHeap → Prop) (h : AHeap) (t0 : Value) : Prop :=
 regV 2 h fun b h =>
 boxVK t0 (b + 0) h fun t1 h =>
 bumpK 2 h fun h =>
 K (.func (.func 253) #[] #[t1]) h
theorem v205_eq (X : Caller) (L : Looper) (K : Value → AHeap → Prop) (h : AHeap) (t0 : Value) : f205 X L K h t0 = v205 X L K h t0 := by
  unfold f205 v205
  simp only [rdK_rd', nilVK_eq, newVK_eq, boxVK_eq, pickVK_eq, extVK_eq, gF_rd, gF_some, gF_nil, gF_pick, gF_ext, bumpK_eq, regV_eq, ld1K_eq', ldNK_eq', binVK_eq', binCK_eq', binDK_eq', stVK_eq, fAddrK_eq', ixSK_eq', ixRK_eq', unVK_eq', opF_eq]
theorem w205_eq (X : Caller) (L : Looper) (K : Value → AHeap → Prop) (h : AHeap) (t0 : Value) : aJob P X L (.call 205 [t0]) K h = v205 X L K h t0 := (f205_eq X L K h t0).trans (v205_eq X L K h t0)
def v206 (X : Caller) (L : Looper) (K : Value → AHeap → Prop) (h : AHeap) (t0 t1 : Value) : Prop :=
 bumpK 1 h fun h =>
 bumpK 2 h fun h =>
 binCK P .gtr 5 5 t1 (.int .u8 127) h fun t6 =>
 condK t6
 (bumpK 1 h fun h =>
  K (.int .u8 0) h)
 (bumpK 4 h fun h =>
 X (.call 214 [t0, t1]) (fun t9 h =>
 K t9 h) h)
theorem v206_eq (X : Caller) (L : Looper) (K : Value → AHeap → Prop) (h : AHeap) (t0 t1 : Value) : f206 X L K h t0 t1 = v206 X L K h t0 t1 := by
  unfold f206 v206
  simp only [rdK_rd', nilVK_eq, newVK_eq, boxVK_eq, pickVK_eq, extVK_eq, gF_rd, gF_some, gF_nil, gF_pick, gF_ext, bumpK_eq, regV_eq, ld1K_eq', ldNK_eq', binVK_eq', binCK_eq', binDK_eq', stVK_eq, fAddrK_eq', ixSK_eq', ixRK_eq', unVK_eq', opF_eq]
theorem w206_eq (X : Caller) (L : Looper) (K : Value → AHeap → Prop) (h : AHeap) (t0 t1 : Value) : aJob P X L (.call 206 [t0, t1]) K h = v206 X L K h t0 t1 := (f206_eq X L K h t0 t1).trans (v206_eq X L K h t0 t1)

def v207 (X : Caller) (L : Looper) (K : Value → AHeap → Prop) (h : AHeap) (t0 : Value) : Prop :=
 bumpK 1 h fun h =>
 regV 4 h fun b h =>
 binCK P .and 27 27 t0 (.int .u64 127) h fun t4 =>
 opF (convertA P 27 5 t4 (b + 2) h) fun t5 h =>
 K t5 h
theorem v207_eq (X : Caller) (L : Looper) (K : Value → AHeap → Prop) (h : AHeap) (t0 : Value) : f207 X L K h t0 = v207 X L K h t0 := by
  unfold f207 v207
  simp only [rdK_rd', nilVK_eq, newVK_eq, boxVK_eq, pickVK_eq, extVK_eq, gF_rd, gF_some, gF_nil, gF_pick, gF_ext, bumpK_eq, regV_eq, ld1K_eq', ldNK_eq', binVK_eq', binCK_eq', binDK_eq', stVK_eq, fAddrK_eq', ixSK_eq', ixRK_eq', unVK_eq', opF_eq]
theorem w207_eq (X : Caller) (L : Looper) (K : Value → AHeap → Prop) (h : AHeap) (t0 : Value) : aJob P X L (.call 207 [t0]) K h = v207 X L K h t0 := (f207_eq X L K h t0).trans (v207_eq X L K h t0)
def v208 (X : Caller) (L : Looper) (K : Value → AHeap → Prop) (h : AHeap) (t0 t1 : Value) : Prop :=
 bumpK 1 h fun h =>
 bumpK 4 h fun h =>
 X (.call 220 [t0, t1]) (fun t9 h =>
 bumpK 2 h fun h =>
 binCK P .neq 24 24 t9 (.int .i64 0) h fun t11 =>
 condK t11
 (bumpK 2 h fun h =>
  K t9 h)
 (regV 9 h fun b h =>
 nilVK t0 fun t14 =>
 fAddrK 0 t14 fun t15 =>
 ld1K t15 h fun t16 =>
 ixSK 3 t16 t1 fun t18 =>
 ldNK 3 t18 h fun t19 =>
 newVK [.int .u32 0, .int .u32 0, .int .u32 0] (b + 7) h fun t6 h =>
 stVK 3 t6 t19 h fun h =>
 bumpK 22 h fun h =>
 nilVK t0 fun t21 =>
 fAddrK 0 t21 fun t22 =>
 ld1K t22 h fun t23 =>
 fAddrK 0 t6 fun t24 =>
 ld1K t24 h fun t25 =>
 nilVK t0 fun t27 =>
 fAddrK 0 t27 fun t28 =>
 ld1K t28 h fun t29 =>
 fAddrK 1 t6 fun t30 =>
 ld1K t30 h fun t31 =>
 fAddrK 1 t6 fun t32 =>
 ld1K t32 h fun t33 =>
 fAddrK 0 t6 fun t34 =>
 ld1K t34 h fun t35 =>
 ixSK 3 t23 t25 fun t36 =>
 fAddrK 1 t36 fun t37 =>
 stVK 1 t37 t33 h fun h =>
 chkK (chkR ((ld1 t34 h).map (·, h)) t35 (chkR ((ld1 t30 h).map (·, h)) t31 true)) <|
 ixSK 3 t29 t31 fun t38 =>
 fAddrK 0 t38 fun t39 =>
 stVK 1 t39 t35 h fun h =>
 bumpK 12 h fun h =>
 nilVK t0 fun t41 =>
 fAddrK 2 t41 fun t42 =>
 ld1K t42 h fun t43 =>
 fAddrK 2 t6 fun t44 =>
 ld1K t44 h fun t45 =>
 binCK P .sub 81 81 t45 (.int .u32 1) h fun t46 =>
 ixSK 1 t43 t46 fun t47 =>
 ld1K t47 h fun t48 =>
 binCK P .sub 3 3 t48 (.int .i64 1) h fun t49 =>
 ixSK 1 t43 t46 fun t50 =>
 stVK 1 t50 t49 h fun h =>
 bumpK 8 h fun h =>
 nilVK t0 fun t52 =>
 fAddrK 0 t52 fun t53 =>
 ld1K t53 h fun t54 =>
 rd' (buildA P 282 []) fun t56 =>
 ixSK 3 t54 t1 fun t57 =>
 stVK 3 t57 t56 h fun h =>
 bumpK 1 h fun h =>
 K (.int .i64 0) h)) h
theorem v208_eq (X : Caller) (L : Looper) (K : Value → AHeap → Prop) (h : AHeap) (t0 t1 : Value) : f208 X L K h t0 t1 = v208 X L K h t0 t1 := by
  unfold f208 v208
  simp only [rdK_rd', nilVK_eq, newVK_eq, boxVK_eq, pickVK_eq, extVK_eq, gF_rd, gF_some, gF_nil, gF_pick, gF_ext, bumpK_eq, regV_eq, ld1K_eq', ldNK_eq', binVK_eq', binCK_eq', binDK_eq', stVK_eq, fAddrK_eq', ixSK_eq', ixRK_eq', unVK_eq', opF_eq]
theorem w208_eq (X : Caller) (L : Looper) (K : Value → AHeap → Prop) (h : AHeap) (t0 t1 : Value) : aJob P X L (.call 208 [t0, t1]) K h = v208 X L K h t0 t1 := (f208_eq X L K h t0 t1).trans (v208_eq X L K h t0 t1)
def v209 (X : Caller) (L : Looper) (K : Value → AHeap → Prop) (h : AHeap) (t0 t1 : Value) : Prop :=
 regV 2 h fun b h =>
 newVK [.int .u32 0, .int .u64 0, .int .u64 0] (b + 0) h fun t4 h =>
 bumpK 4 h fun h =>
 X (.call 134 [t0, t1]) (fun t11 h =>
 bumpK 2 h fun h =>
 binCK P .neq 24 24 t11 (.int .i64 0) h fun t13 =>
 condK t13
 (bumpK 4 h fun h =>
  rd' (buildA P 174 []) fun t14 =>
  stVK 3 t4 t14 h fun h =>
  retK (consR (ldN 3 t4 h) (consR (some t11) (some []))) K h)
 (regV 12 h fun b_1 h =>
 nilVK t0 fun t18 =>
 fAddrK 9 t18 fun t19 =>
 ld1K t19 h fun t20 =>
 rd' (lookupA P 162 t20 t1 true h) fun t22 =>
 extVK 0 t22 fun t23 =>
 extVK 1 t22 fun t24 =>
 newVK [.int .u32 0, .int .u64 0, .int .u64 0] (b_1 + 9) h fun t7 h =>
 stVK 3 t7 t23 h fun h =>
 bumpK 2 h fun h =>
 unVK P .not 4 t24 fun t26 =>
 condK t26
 (bumpK 3 h fun h =>
  rd' (buildA P 174 []) fun t27 =>
  stVK 3 t4 t27 h fun h =>
  retK (consR (ldN 3 t4 h) (consR (some (.int .i64 9)) (some []))) K h)
 (bumpK 3 h fun h =>
 ldNK 3 t7 h fun t28 =>
 stVK 3 t4 t28 h fun h =>
 retK (consR (ldN 3 t4 h) (consR (some (.int .i64 0)) (some []))) K h))) h
theorem v209_eq (X : Caller) (L : Looper) (K : Value → AHeap → Prop) (h : AHeap) (t0 t1 : Value) : f209 X L K h t0 t1 = v209 X L K h t0 t1 := by
  unfold f209 v209
  simp only [rdK_rd', nilVK_eq, newVK_eq, boxVK_eq, pickVK_eq, extVK_eq, gF_rd, gF_some, gF_nil, gF_pick, gF_ext, bumpK_eq, regV_eq, ld1K_eq', ldNK_eq', binVK_eq', binCK_eq', binDK_eq', stVK_eq, fAddrK_eq', ixSK_eq', ixRK_eq', unVK_eq', opF_eq]
theorem w209_eq (X : Caller) (L : Looper) (K : Value → AHeap → Prop) (h : AHeap) (t0 t1 : Value) : aJob P X L (.call 209 [t0, t1]) K h = v209 X L K h t0 t1 := (f209_eq X L K h t0 t1).trans (v209_eq X L K h t0 t1)
def v210_j7 (X : Caller) (L : Looper) (K : Value → AHeap → Prop) (h : AHeap) (t6 t42 t4 t5 : Value) : Prop :=
 bumpK 3 h fun h =>
 K (.tuple #[t6, (.int .i64 0)]) h
theorem v210_j7_eq (X : Caller) (L : Looper) (K : Value → AHeap → Prop) (h : AHeap) (t6 t42 t4 t5 : Value) : f210_j7 X L K h t6 t42 t4 t5 = v210_j7 X L K h t6 t42 t4 t5 := by
  unfold f210_j7 v210_j7
  simp only [rdK_rd', nilVK_eq, newVK_eq, boxVK_eq, pickVK_eq, extVK_eq, gF_rd, gF_some, gF_nil, gF_pick, gF_ext, bumpK_eq, regV_eq, ld1K_eq', ldNK_eq', binVK_eq', binCK_eq', binDK_eq', stVK_eq, fAddrK_eq', ixSK_eq', ixRK_eq', unVK_eq', opF_eq]
def v210 (X : Caller) (L : Looper) (K : Value → AHeap → Prop) (h : AHeap) (t0 t1 : Value) : Prop :=
 bumpK 2 h fun h =>
 bumpK 8 h fun h =>
 X (.call 254 [t0, t1]) (fun t11 h =>
 extVK 0 t11 fun t12 =>
 extVK 1 t11 fun t13 =>
 bumpK 2 h fun h =>
 binCK P .neq 24 24 t13 (.int .i64 0) h fun t15 =>
 condK t15
 (bumpK 3 h fun h =>
  K (.tuple #[(.int .i64 0), t13]) h)
 (bumpK 6 h fun h =>
 nilVK t0 fun t18 =>
 fAddrK 0 t18 fun t19 =>
 ld1K t19 h fun t20 =>
 X (.call 208 [t20, t1]) (fun t22 h =>
 bumpK 8 h fun h =>
 nilVK t0 fun t24 =>
 fAddrK 5 t24 fun t25 =>
 ld1K t25 h fun t26 =>
 binCK P .sub 3 3 t26 (.int .i64 1) h fun t27 =>
 nilVK t0 fun t28 =>
 fAddrK 5 t28 fun t29 =>
 stVK 1 t29 t27 h fun h =>
 bumpK 7 h fun h =>
 nilVK t0 fun t31 =>
 fAddrK 0 t31 fun t32 =>
 ld1K t32 h fun t33 =>
 X (.call 223 [t33, t12]) (fun t35 h =>
 binCK P .eql 3 3 t35 (.int .i64 0) h fun t36 =>
 condK t36
 (bumpK 5 h fun h =>
  nilVK t0 fun t38 =>
  fAddrK 1 t38 fun t39 =>
  X (.call 255 [t39, t12]) (fun t41 h =>
  v210_j7 X L K h t12 undef ((.int .i64 0)) ((.int .i64 0))) h)
 (v210_j7 X L K h t12 undef ((.int .i64 0)) ((.int .i64 0)))) h) h)) h
theorem v210_eq (X : Caller) (L : Looper) (K : Value → AHeap → Prop) (h : AHeap) (t0 t1 : Value) : f210 X L K h t0 t1 = v210 X L K h t0 t1 := by
  unfold f210 v210
  simp only [rdK_rd', nilVK_eq, newVK_eq, boxVK_eq, pickVK_eq, extVK_eq, gF_rd, gF_some, gF_nil, gF_pick, gF_ext, bumpK_eq, regV_eq, ld1K_eq', ldNK_eq', binVK_eq', binCK_eq', binDK_eq', stVK_eq, fAddrK_eq', ixSK_eq', ixRK_eq', unVK_eq', opF_eq, v210_j7_eq]
theorem w210_eq (X : Caller) (L : Looper) (K : Value → AHeap → Prop) (h : AHeap) (t0 t1 : Value) : aJob P X L (.call 210 [t0, t1]) K h = v210 X L K h t0 t1 := (f210_eq X L K h t0 t1).trans (v210_eq X L K h t0 t1)
def v211 (X : Caller) (L : Looper) (K : Value → AHeap → Prop) (h : AHeap) (t0 t1 : Value) : Prop :=
 bumpK 1 h fun h =>
 bumpK 4 h fun h =>
 X (.call 256 [t0]) (fun t7 h =>
 unVK P .not 4 t7 fun t8 =>
 condK t8
 (bumpK 1 h fun h =>
  K (.int .i64 2) h)
 (bumpK 7 h fun h =>
  binCK P .lss 3 3 t1 (.int .i64 0) h fun t11 =>
  gF (wantV t11 false) (fun k => k t1) fun t13 =>
  gF (wantV t11 false) (binCK P .geq 3 3 t13 (.int .i64 8) h) fun t14 =>
  pickVK t11 (.bool true) t14 fun t15 =>
  condK t15
  (bumpK 1 h fun h =>
   K (.int .i64 3) h)
  (bumpK 1 h fun h =>
 K (.int .i64 0) h))) h
theorem v211_eq (X : Caller) (L : Looper) (K : Value → AHeap → Prop) (h : AHeap) (t0 t1 : Value) : f211 X L K h t0 t1 = v211 X L K h t0 t1 := by
  unfold f211 v211
  simp only [rdK_rd', nilVK_eq, newVK_eq, boxVK_eq, pickVK_eq, extVK_eq, gF_rd, gF_some, gF_nil, gF_pick, gF_ext, bumpK_eq, regV_eq, ld1K_eq', ldNK_eq', binVK_eq', binCK_eq', binDK_eq', stVK_eq, fAddrK_eq', ixSK_eq', ixRK_eq', unVK_eq', opF_eq]
theorem w211_eq (X : Caller) (L : Looper) (K : Value → AHeap → Prop) (h : AHeap) (t0 t1 : Value) : aJob P X L (.call 211 [t0, t1]) K h = v211 X L K h t0 t1 := (f211_eq X L K h t0 t1).trans (v211_eq X L K h t0 t1)
def v212 (X : Caller) (L : Looper) (K : Value → AHeap → Prop) (h : AHeap) (t0 : Value) : Prop :=
 bumpK 1 h fun h =>
 bumpK 4 h fun h =>
 X (.call 257 [t0]) (fun t4 h =>
 unVK P .xor 5 t4 fun t5 =>
 K t5 h) h
theorem v212_eq (X : Caller) (L : Looper) (K : Value → AHeap → Prop) (h : AHeap) (t0 : Value) : f212 X L K h t0 = v212 X L K h t0 := by
  unfold f212 v212
  simp only [rdK_rd', nilVK_eq, newVK_eq, boxVK_eq, pickVK_eq, extVK_eq, gF_rd, gF_some, gF_nil, gF_pick, gF_ext, bumpK_eq, regV_eq, ld1K_eq', ldNK_eq', binVK_eq', binCK_eq', binDK_eq', stVK_eq, fAddrK_eq', ixSK_eq', ixRK_eq', unVK_eq', opF_eq]
theorem w212_eq (X : Caller) (L : Looper) (K : Value → AHeap → Prop) (h : AHeap) (t0 : Value) : aJob P X L (.call 212 [t0]) K h = v212 X L K h t0 := (f212_eq X L K h t0).trans (v212_eq X L K h t0)
def v213 (X : Caller) (L : Looper) (K : Value → AHeap → Prop) (h : AHeap) (t0 t1 t2 : Value) : Prop :=
 bumpK 2 h fun h =>
 bumpK 6 h fun h =>
 binCK P .lss 3 3 t1 (.int .i64 0) h fun t9 =>
 gF (wantV t9 false) (fun k => k t1) fun t11 =>
 gF (wantV t9 false) (binCK P .geq 3 3 t11 (.int .i64 8) h) fun t12 =>
 pickVK t9 (.bool true) t12 fun t13 =>
 condK t13
 (bumpK 2 h fun h =>
  K (.tuple #[(.int .u64 0), (.int .i64 3)]) h)
 (regV 13 h fun b h =>
 binDK P .mul 3 3 (.int .i64 8) t1 h fun t16 =>
 binDK P .shl 27 3 (.int .u64 255) t16 h fun t17 =>
 binVK P .andNot 27 27 t0 t17 h fun t18 =>
 opF (convertA P 5 27 t2 (b + 6) h) fun t20 h =>
 binDK P .mul 3 3 (.int .i64 8) t1 h fun t22 =>
 binVK P .shl 27 3 t20 t22 h fun t23 =>
 binVK P .or 27 27 t18 t23 h fun t24 =>
 K (.tuple #[t24, (.int .i64 0)]) h)
theorem v213_eq (X : Caller) (L : Looper) (K : Value → AHeap → Prop) (h : AHeap) (t0 t1 t2 : Value) : f213 X L K h t0 t1 t2 = v213 X L K h t0 t1 t2 := by
  unfold f213 v213
  simp only [rdK_rd', nilVK_eq, newVK_eq, boxVK_eq, pickVK_eq, extVK_eq, gF_rd, gF_some, gF_nil, gF_pick, gF_ext, bumpK_eq, regV_eq, ld1K_eq', ldNK_eq', binVK_eq', binCK_eq', binDK_eq', stVK_eq, fAddrK_eq', ixSK_eq', ixRK_eq', unVK_eq', opF_eq]
theorem w213_eq (X : Caller) (L : Looper) (K : Value → AHeap → Prop) (h : AHeap) (t0 t1 t2 : Value) : aJob P X L (.call 213 [t0, t1, t2]) K h = v213 X L K h t0 t1 t2 := (f213_eq X L K h t0 t1 t2).trans (v213_eq X L K h t0 t1 t2)
def v214 (X : Caller) (L : Looper) (K : Value → AHeap → Prop) (h : AHeap) (t0 t1 : Value) : Prop :=
 bumpK 1 h fun h =>
 bumpK 5 h fun h =>
 X (.call 179 [t1]) (fun t8 h =>
 binVK P .xor 27 27 t0 t8 h fun t9 =>
 bumpK 9 h fun h =>
 binCK P .and 27 27 t9 (.int .u64 9187201950435737471) h fun t11 =>
 binCK P .add 27 27 t11 (.int .u64 9187201950435737471) h fun t12 =>
 binVK P .or 27 27 t12 t9 h fun t14 =>
 binCK P .or 27 27 t14 (.int .u64 9187201950435737471) h fun t15 =>
 unVK P .xor 27 t15 fun t16 =>
 X (.call 258 [t16]) (fun t17 h =>
 K t17 h) h) h
theorem v214_eq (X : Caller) (L : Looper) (K : Value → AHeap → Prop) (h : AHeap) (t0 t1 : Value) : f214 X L K h t0 t1 = v214 X L K h t0 t1 := by
  unfold f214 v214
  simp only [rdK_rd', nilVK_eq, newVK_eq, boxVK_eq, pickVK_eq, extVK_eq, gF_rd, gF_some, gF_nil, gF_pick, gF_ext, bumpK_eq, regV_eq, ld1K_eq', ldNK_eq', binVK_eq', binCK_eq', binDK_eq', stVK_eq, fAddrK_eq', ixSK_eq', ixRK_eq', unVK_eq', opF_eq]
theorem w214_eq (X : Caller) (L : Looper) (K : Value → AHeap → Prop) (h : AHeap) (t0 t1 : Value) : aJob P X L (.call 214 [t0, t1]) K h = v214 X L K h t0 t1 := (f214_eq X L K h t0 t1).trans (v214_eq X L K h t0 t1)
def v215_l3 (X : Caller) (L : Looper) (a : AAct) (K : ActPost) (h : AHeap) : Prop :=
 bumpK 1 h fun h =>
 binVK P .lss 3 3 (a.env 9) (a.env 8) h fun t10 =>
 condK t10
 (bumpK 3 h fun h =>
 ixSK 1 (a.env 7) (a.env 9) fun t11 =>
 ld1K t11 h fun t12 =>
 bumpK 7 h fun h =>
 binCK P .lss 3 3 t12 (.int .i64 0) h fun t14 =>
 gF (wantV t14 false) (fun k => k t12) fun t16 =>
 gF (wantV t14 false) (fun k => k ((a.env 0))) fun t17 =>
 gF (wantV t14 false) (binVK P .gtr 3 3 t16 t17 h) fun t18 =>
 pickVK t14 (.bool true) t18 fun t19 =>
 condK t19
 (bumpK 1 h fun h =>
  K .ret ⟨(upds a.env [(10, t10), (11, t11), (12, t12), (6, t12), (13, t12), (14, t14), (15, t14), (16, t16), (17, t17), (18, t18), (19, t19), (4, (.int .i64 3))]), a.defers⟩ h)
 (bumpK 2 h fun h =>
 binCK P .add 3 3 (a.env 9) (.int .i64 1) h fun t20 =>
 K .normal ⟨(upds a.env [(10, t10), (11, t11), (12, t12), (6, t12), (13, t12), (14, t14), (15, t14), (16, t16), (17, t17), (18, t18), (19, t19), (20, t20), (9, t20)]), a.defers⟩ h))
 (K (.exit 0) ⟨(upds a.env [(10, t10)]), a.defers⟩ h)
theorem v215_l3_eq (X : Caller) (L : Looper) (a : AAct) (K : ActPost) (h : AHeap) : f215_l3 X L a K h = v215_l3 X L a K h := by
  unfold f215_l3 v215_l3
  simp only [rdK_rd', nilVK_eq, newVK_eq, boxVK_eq, pickVK_eq, extVK_eq, gF_rd, gF_some, gF_nil, gF_pick, gF_ext, bumpK_eq, regV_eq, ld1K_eq', ldNK_eq', binVK_eq', binCK_eq', binDK_eq', stVK_eq, fAddrK_eq', ixSK_eq', ixRK_eq', unVK_eq', opF_eq]
theorem v215_l3_eq' (X : Caller) (L : Looper) : f215_l3 X L = v215_l3 X L := by
  funext a K h; exact v215_l3_eq X L a K h
def v215_j1 (X : Caller) (L : Looper) (K : Value → AHeap → Prop) (h : AHeap) (a : AAct) : Prop :=
 bumpK 1 h fun h =>
 leaveA P X Tryz.f215 ⟨(upds a.env [(4, (.int .i64 0))]), a.defers⟩ K a.defers h
theorem v215_j1_eq (X : Caller) (L : Looper) (K : Value → AHeap → Prop) (h : AHeap) (a : AAct) : f215_j1 X L K h a = v215_j1 X L K h a := by
  unfold f215_j1 v215_j1
  simp only [rdK_rd', nilVK_eq, newVK_eq, boxVK_eq, pickVK_eq, extVK_eq, gF_rd, gF_some, gF_nil, gF_pick, gF_ext, bumpK_eq, regV_eq, ld1K_eq', ldNK_eq', binVK_eq', binCK_eq', binDK_eq', stVK_eq, fAddrK_eq', ixSK_eq', ixRK_eq', unVK_eq', opF_eq, v215_l3_eq, v215_l3_eq']
def v215 (X : Caller) (L : Looper) (K : Value → AHeap → Prop) (h : AHeap) (t0 t1 : Value) : Prop :=
 bumpK 1 h fun h =>
 regV 3 h fun b h =>
 opF (builtinV P .len [276] [t1] (b + 1) h) fun t8 h =>
 L (v215_l3 X L) ⟨(upds (argsEnv [t0, t1]) [(4, (.int .i64 0)), (7, t1), (8, t8), (9, (.int .i64 0))]), []⟩ (blkX 0 (seqX (fun a h => v215_j1 X L K h a) (finX P X Tryz.f215 K))) h
theorem v215_eq (X : Caller) (L : Looper) (K : Value → AHeap → Prop) (h : AHeap) (t0 t1 : Value) : f215 X L K h t0 t1 = v215 X L K h t0 t1 := by
  unfold f215 v215
  simp only [rdK_rd', nilVK_eq, newVK_eq, boxVK_eq, pickVK_eq, extVK_eq, gF_rd, gF_some, gF_nil, gF_pick, gF_ext, bumpK_eq, regV_eq, ld1K_eq', ldNK_eq', binVK_eq', binCK_eq', binDK_eq', stVK_eq, fAddrK_eq', ixSK_eq', ixRK_eq', unVK_eq', opF_eq, v215_l3_eq, v215_l3_eq', v215_j1_eq]
theorem w215_eq (X : Caller) (L : Looper) (K : Value → AHeap → Prop) (h : AHeap) (t0 t1 : Value) : aJob P X L (.call 215 [t0, t1]) K h = v215 X L K h t0 t1 := (f215_eq X L K h t0 t1).trans (v215_eq X L K h t0 t1)
def v216 (X : Caller) (L : Looper) (K : Value → AHeap → Prop) (h : AHeap) (t0 : Value) : Prop :=
 bumpK 1 h fun h =>
 regV 6 h fun b h =>
 binCK P .sub 3 3 t0 (.int .i64 1) h fun t4 =>
 opF (convertA P 3 316 t4 (b + 2) h) fun t5 h =>
 X (.call 231 [t5]) (fun t6 h =>
 binDK P .shl 3 3 (.int .i64 1) t6 h fun t7 =>
 K t7 h) h
theorem v216_eq (X : Caller) (L : Looper) (K : Value → AHeap → Prop) (h : AHeap) (t0 : Value) : f216 X L K h t0 = v216 X L K h t0 := by
  unfold f216 v216
  simp only [rdK_rd', nilVK_eq, newVK_eq, boxVK_eq, pickVK_eq, extVK_eq, gF_rd, gF_some, gF_nil, gF_pick, gF_ext, bumpK_eq, regV_eq, ld1K_eq', ldNK_eq', binVK_eq', binCK_eq', binDK_eq', stVK_eq, fAddrK_eq', ixSK_eq', ixRK_eq', unVK_eq', opF_eq]
theorem w216_eq (X : Caller) (L : Looper) (K : Value → AHeap → Prop) (h : AHeap) (t0 : Value) : aJob P X L (.call 216 [t0]) K h = v216 X L K h t0 := (f216_eq X L K h t0).trans (v216_eq X L K h t0)
def v217 (X : Caller) (L : Looper) (K : Value → AHeap → Prop) (h : AHeap) (t0 : Value) : Prop :=
 bumpK 1 h fun h =>
 bumpK 7 h fun h =>
 binCK P .geq 73 73 t0 (.int .i64 1) h fun t4 =>
 gF (wantV t4 true) (fun k => k t0) fun t6 =>
 gF (wantV t4 true) (binCK P .lss 3 3 t6 (.int .i64 6) h) fun t7 =>
 pickVK t4 t7 (.bool false) fun t8 =>
 K t8 h
theorem v217_eq (X : Caller) (L : Looper) (K : Value → AHeap → Prop) (h : AHeap) (t0 : Value) : f217 X L K h t0 = v217 X L K h t0 := by
  unfold f217 v217
  simp only [rdK_rd', nilVK_eq, newVK_eq, boxVK_eq, pickVK_eq, extVK_eq, gF_rd, gF_some, gF_nil, gF_pick, gF_ext, bumpK_eq, regV_eq, ld1K_eq', ldNK_eq', binVK_eq', binCK_eq', binDK_eq', stVK_eq, fAddrK_eq', ixSK_eq', ixRK_eq', unVK_eq', opF_eq]
theorem w217_eq (X : Caller) (L : Looper) (K : Value → AHeap → Prop) (h : AHeap) (t0 : Value) : aJob P X L (.call 217 [t0]) K h = v217 X L K h t0 := (f217_eq X L K h t0).trans (v217_eq X L K h t0)
def v218 (X : Caller) (L : Looper) (K : Value → AHeap → Prop) (h : AHeap) (t0 : Value) : Prop :=
 regV 2 h fun b h =>
 boxVK t0 (b + 0) h fun t1 h =>
 bumpK 9 h fun h =>
 fAddrK 0 t1 fun t3 =>
 ld1K t3 h fun t4 =>
 fAddrK 1 t1 fun t5 =>
 ld1K t5 h fun t6 =>
 fAddrK 3 t1 fun t7 =>
 ld1K t7 h fun t8 =>
 X (.call 147 [t4, t6, t8]) (fun t9 h =>
 binCK P .eql 24 24 t9 (.int .i64 0) h fun t10 =>
 K t10 h) h
theorem v218_eq (X : Caller) (L : Looper) (K : Value → AHeap → Prop) (h : AHeap) (t0 : Value) : f218 X L K h t0 = v218 X L K h t0 := by
  unfold f218 v218
  simp only [rdK_rd', nilVK_eq, newVK_eq, boxVK_eq, pickVK_eq, extVK_eq, gF_rd, gF_some, gF_nil, gF_pick, gF_ext, bumpK_eq, regV_eq, ld1K_eq', ldNK_eq', binVK_eq', binCK_eq', binDK_eq', stVK_eq, fAddrK_eq', ixSK_eq', ixRK_eq', unVK_eq', opF_eq]
theorem w218_eq (X : Caller) (L : Looper) (K : Value → AHeap → Prop) (h : AHeap) (t0 : Value) : aJob P X L (.call 218 [t0]) K h = v218 X L K h t0 := (f218_eq X L K h t0).trans (v218_eq X L K h t0)
def v219 (X : Caller) (L : Looper) (K : Value → AHeap → Prop) (h : AHeap) (t0 : Value) : Prop :=
 regV 2 h fun b h =>
 boxVK t0 (b + 0) h fun t1 h =>
 newVK [.string ⟨#[]⟩, .slice none 0 0, .int .u64 0, .int .u64 0] (b + 1) h fun t2 h =>
 bumpK 10 h fun h =>
 fAddrK 1 t1 fun t3 =>
 ld1K t3 h fun t4 =>
 fAddrK 2 t1 fun t5 =>
 ld1K t5 h fun t6 =>
 fAddrK 4 t1 fun t7 =>
 ld1K t7 h fun t8 =>
 fAddrK 3 t1 fun t9 =>
 ld1K t9 h fun t10 =>
 rd' (buildA P 59 [(0, t4), (1, t6), (2, t8), (3, t10)]) fun t11 =>
 stVK 4 t2 t11 h fun h =>
 retK (consR (ldN 4 t2 h) (some [])) K h
theorem v219_eq (X : Caller) (L : Looper) (K : Value → AHeap → Prop) (h : AHeap) (t0 : Value) : f219 X L K h t0 = v219 X L K h t0 := by
  unfold f219 v219
  simp only [rdK_rd', nilVK_eq, newVK_eq, boxVK_eq, pickVK_eq, extVK_eq, gF_rd, gF_some, gF_nil, gF_pick, gF_ext, bumpK_eq, regV_eq, ld1K_eq', ldNK_eq', binVK_eq', binCK_eq', binDK_eq', stVK_eq, fAddrK_eq', ixSK_eq', ixRK_eq', unVK_eq', opF_eq]
theorem w219_eq (X : Caller) (L : Looper) (K : Value → AHeap → Prop) (h : AHeap) (t0 : Value) : aJob P X L (.call 219 [t0]) K h = v219 X L K h t0 := (f219_eq X L K h t0).trans (v219_eq X L K h t0)
def v220 (X : Caller) (L : Looper) (K : Value → AHeap → Prop) (h : AHeap) (t0 t1 : Value) : Prop :=
 bumpK 1 h fun h =>
 bumpK 4 h fun h =>
 X (.call 259 [t0, t1]) (fun t8 h =>
 bumpK 2 h fun h =>
 binCK P .neq 24 24 t8 (.int .i64 0) h fun t10 =>
 condK t10
 (bumpK 2 h fun h =>
  K t8 h)
 (bumpK 9 h fun h =>
 nilVK t0 fun t13 =>
 fAddrK 0 t13 fun t14 =>
 ld1K t14 h fun t15 =>
 ixSK 3 t15 t1 fun t17 =>
 fAddrK 2 t17 fun t18 =>
 ld1K t18 h fun t19 =>
 binCK P .eql 81 81 t19 (.int .u32 0) h fun t20 =>
 condK t20
 (bumpK 1 h fun h =>
  K (.int .i64 9) h)
 (bumpK 1 h fun h =>
 K (.int .i64 0) h))) h
theorem v220_eq (X : Caller) (L : Looper) (K : Value → AHeap → Prop) (h : AHeap) (t0 t1 : Value) : f220 X L K h t0 t1 = v220 X L K h t0 t1 := by
  unfold f220 v220
  simp only [rdK_rd', nilVK_eq, newVK_eq, boxVK_eq, pickVK_eq, extVK_eq, gF_rd, gF_some, gF_nil, gF_pick, gF_ext, bumpK_eq, regV_eq, ld1K_eq', ldNK_eq', binVK_eq', binCK_eq', binDK_eq', stVK_eq, fAddrK_eq', ixSK_eq', ixRK_eq', unVK_eq', opF_eq]
theorem w220_eq (X : Caller) (L : Looper) (K : Value → AHeap → Prop) (h : AHeap) (t0 t1 : Value) : aJob P X L (.call 220 [t0, t1]) K h = v220 X L K h t0 t1 := (f220_eq X L K h t0 t1).trans (v220_eq X L K h t0 t1)
def v221 (X : Caller) (L : Looper) (K : Value → AHeap → Prop) (h : AHeap) (t0 t1 : Value) : Prop :=
 bumpK 6 h fun h =>
 nilVK t0 fun t6 =>
 fAddrK 0 t6 fun t7 =>
 ld1K t7 h fun t8 =>
 X (.call 260 [t8]) (fun t9 h =>
 regV 4 h fun b h =>
 opF (convertA P 81 3 t1 (b + 1) h) fun t11 h =>
 binVK P .geq 3 3 t11 t9 h fun t13 =>
 condK t13
 (regV 14 h fun b_1 h =>
  nilVK t0 fun t15 =>
  fAddrK 0 t15 fun t16 =>
  ld1K t16 h fun t17 =>
  binDK P .mul 3 3 (.int .i64 2) t9 h fun t21 =>
  opF (convertA P 81 3 t1 (b_1 + 9) h) fun t23 h =>
  binCK P .add 3 3 t23 (.int .i64 1) h fun t24 =>
  opF (builtinV P .max [3, 3] [t21, t24] (b_1 + 11) h) fun t25 h =>
  opF (builtinV P .min [3, 3] [(.int .i64 4194304), t25] (b_1 + 12) h) fun t26 h =>
  X (.call 262 [t9]) (fun t19 h =>
  chkK (chkR (convertA P 81 3 t1 (b_1 + 9) h) t23 (chkR ((ld1 t16 h).map (·, h)) t17 true)) <|
  X (.call 261 [t17, t19, t26]) (fun t27 h =>
  K (.tuple #[]) h) h) h)
 (K (.tuple #[]) h)) h
theorem v221_eq (X : Caller) (L : Looper) (K : Value → AHeap → Prop) (h : AHeap) (t0 t1 : Value) : f221 X L K h t0 t1 = v221 X L K h t0 t1 := by
  unfold f221 v221
  simp only [rdK_rd', nilVK_eq, newVK_eq, boxVK_eq, pickVK_eq, extVK_eq, gF_rd, gF_some, gF_nil, gF_pick, gF_ext, bumpK_eq, regV_eq, ld1K_eq', ldNK_eq', binVK_eq', binCK_eq', binDK_eq', stVK_eq, fAddrK_eq', ixSK_eq', ixRK_eq', unVK_eq', opF_eq]
theorem w221_eq (X : Caller) (L : Looper) (K : Value → AHeap → Prop) (h : AHeap) (t0 t1 : Value) : aJob P X L (.call 221 [t0, t1]) K h = v221 X L K h t0 t1 := (f221_eq X L K h t0 t1).trans (v221_eq X L K h t0 t1)
def v222 (X : Caller) (L : Looper) (K : Value → AHeap → Prop) (h : AHeap) (t0 t1 t2 : Value) : Prop :=
 bumpK 1 h fun h =>
 bumpK 5 h fun h =>
 X (.call 263 [t0, t1, t2, (.bool false)]) (fun t10 h =>
 K t10 h) h
theorem v222_eq (X : Caller) (L : Looper) (K : Value → AHeap → Prop) (h : AHeap) (t0 t1 t2 : Value) : f222 X L K h t0 t1 t2 = v222 X L K h t0 t1 t2 := by
  unfold f222 v222
  simp only [rdK_rd', nilVK_eq, newVK_eq, boxVK_eq, pickVK_eq, extVK_eq, gF_rd, gF_some, gF_nil, gF_pick, gF_ext, bumpK_eq, regV_eq, ld1K_eq', ldNK_eq', binVK_eq', binCK_eq', binDK_eq', stVK_eq, fAddrK_eq', ixSK_eq', ixRK_eq', unVK_eq', opF_eq]
theorem w222_eq (X : Caller) (L : Looper) (K : Value → AHeap → Prop) (h : AHeap) (t0 t1 t2 : Value) : aJob P X L (.call 222 [t0, t1, t2]) K h = v222 X L K h t0 t1 t2 := (f222_eq X L K h t0 t1 t2).trans (v222_eq X L K h t0 t1 t2)
def v223 (X : Caller) (L : Looper) (K : Value → AHeap → Prop) (h : AHeap) (t0 t1 : Value) : Prop :=
 bumpK 1 h fun h =>
 bumpK 4 h fun h =>
 X (.call 264 [t0, t1]) (fun t7 h =>
 binCK P .neq 24 24 t7 (.int .i64 0) h fun t8 =>
 condK t8
 (bumpK 1 h fun h =>
  K (.int .i64 0) h)
 (bumpK 8 h fun h =>
 nilVK t0 fun t10 =>
 fAddrK 2 t10 fun t11 =>
 ld1K t11 h fun t12 =>
 ixSK 1 t12 t1 fun t14 =>
 ld1K t14 h fun t15 =>
 K t15 h)) h
theorem v223_eq (X : Caller) (L : Looper) (K : Value → AHeap → Prop) (h : AHeap) (t0 t1 : Value) : f223 X L K h t0 t1 = v223 X L K h t0 t1 := by
  unfold f223 v223
  simp only [rdK_rd', nilVK_eq, newVK_eq, boxVK_eq, pickVK_eq, extVK_eq, gF_rd, gF_some, gF_nil, gF_pick, gF_ext, bumpK_eq, regV_eq, ld1K_eq', ldNK_eq', binVK_eq', binCK_eq', binDK_eq', stVK_eq, fAddrK_eq', ixSK_eq', ixRK_eq', unVK_eq', opF_eq]
theorem w223_eq (X : Caller) (L : Looper) (K : Value → AHeap → Prop) (h : AHeap) (t0 t1 : Value) : aJob P X L (.call 223 [t0, t1]) K h = v223 X L K h t0 t1 := (f223_eq X L K h t0 t1).trans (v223_eq X L K h t0 t1)
def v226_j7 (X : Caller) (L : Looper) (K : Value → AHeap → Prop) (h : AHeap) (t2 t0 t20 t21 t22 t19 t23 t24 : Value) : Prop :=
 regV 7 h fun b h =>
 opF (convertA P 27 5 t0 (b + 2) h) fun t21_1 h =>
 rd' (indexA P 9 (.string ⟨#[0, 1, 2, 2, 3, 3, 3, 3, 4, 4, 4, 4, 4, 4, 4, 4, 5, 5, 5, 5, 5, 5, 5, 5, 5, 5, 5, 5, 5, 5, 5, 5, 6, 6, 6, 6, 6, 6, 6, 6, 6, 6, 6, 6, 6, 6, 6, 6, 6, 6, 6, 6, 6, 6, 6, 6, 6, 6, 6, 6, 6, 6, 6, 6, 7, 7, 7, 7, 7, 7, 7, 7, 7, 7, 7, 7, 7, 7, 7, 7, 7, 7, 7, 7, 7, 7, 7, 7, 7, 7, 7, 7, 7, 7, 7, 7, 7, 7, 7, 7, 7, 7, 7, 7, 7, 7, 7, 7, 7, 7, 7, 7, 7, 7, 7, 7, 7, 7, 7, 7, 7, 7, 7, 7, 7, 7, 7, 7, 8, 8, 8, 8, 8, 8, 8, 8, 8, 8, 8, 8, 8, 8, 8, 8, 8, 8, 8, 8, 8, 8, 8, 8, 8, 8, 8, 8, 8, 8, 8, 8, 8, 8, 8, 8, 8, 8, 8, 8, 8, 8, 8, 8, 8, 8, 8, 8, 8, 8, 8, 8, 8, 8, 8, 8, 8, 8, 8, 8, 8, 8, 8, 8, 8, 8, 8, 8, 8, 8, 8, 8, 8, 8, 8, 8, 8, 8, 8, 8, 8, 8, 8, 8, 8, 8, 8, 8, 8, 8, 8, 8, 8, 8, 8, 8, 8, 8, 8, 8, 8, 8, 8, 8, 8, 8, 8, 8, 8, 8, 8, 8, 8, 8, 8, 8, 8, 8, 8, 8, 8, 8, 8, 8, 8, 8, 8, 8]⟩) t21_1) fun t22_1 =>
 opF (convertA P 5 3 t22_1 (b + 4) h) fun t23_1 h =>
 binVK P .add 3 3 t2 t23_1 h fun t24_1 =>
 K t24_1 h
theorem v226_j7_eq (X : Caller) (L : Looper) (K : Value → AHeap → Prop) (h : AHeap) (t2 t0 t20 t21 t22 t19 t23 t24 : Value) : f226_j7 X L K h t2 t0 t20 t21 t22 t19 t23 t24 = v226_j7 X L K h t2 t0 t20 t21 t22 t19 t23 t24 := by
  unfold f226_j7 v226_j7
  simp only [rdK_rd', nilVK_eq, newVK_eq, boxVK_eq, pickVK_eq, extVK_eq, gF_rd, gF_some, gF_nil, gF_pick, gF_ext, bumpK_eq, regV_eq, ld1K_eq', ldNK_eq', binVK_eq', binCK_eq', binDK_eq', stVK_eq, fAddrK_eq', ixSK_eq', ixRK_eq', unVK_eq', opF_eq]
def v226_j4 (X : Caller) (L : Looper) (K : Value → AHeap → Prop) (h : AHeap) (t0 t13 t14 t15 t16 t2 t17 t18 t20 t21 t22 t19 t23 t24 : Value) : Prop :=
 bumpK 2 h fun h =>
 binCK P .geq 27 27 t0 (.int .u64 256) h fun t14_1 =>
 condK t14_1
 (bumpK 3 h fun h =>
  binCK P .shr 27 316 t0 (.int .u64 8) h fun t16_1 =>
  bumpK 3 h fun h =>
  binCK P .add 3 3 t2 (.int .i64 8) h fun t18_1 =>
  v226_j7 X L K h t18_1 t16_1 t20 t21 t22 t19 t23 t24)
 (v226_j7 X L K h t2 t0 t20 t21 t22 t19 t23 t24)
theorem v226_j4_eq (X : Caller) (L : Looper) (K : Value → AHeap → Prop) (h : AHeap) (t0 t13 t14 t15 t16 t2 t17 t18 t20 t21 t22 t19 t23 t24 : Value) : f226_j4 X L K h t0 t13 t14 t15 t16 t2 t17 t18 t20 t21 t22 t19 t23 t24 = v226_j4 X L K h t0 t13 t14 t15 t16 t2 t17 t18 t20 t21 t22 t19 t23 t24 := by
  unfold f226_j4 v226_j4
  simp only [rdK_rd', nilVK_eq, newVK_eq, boxVK_eq, pickVK_eq, extVK_eq, gF_rd, gF_some, gF_nil, gF_pick, gF_ext, bumpK_eq, regV_eq, ld1K_eq', ldNK_eq', binVK_eq', binCK_eq', binDK_eq', stVK_eq, fAddrK_eq', ixSK_eq', ixRK_eq', unVK_eq', opF_eq, v226_j7_eq]
def v226_j1 (X : Caller) (L : Looper) (K : Value → AHeap → Prop) (h : AHeap) (t0 t7 t8 t9 t10 t2 t11 t12 t13 t14 t15 t16 t17 t18 t20 t21 t22 t19 t23 t24 : Value) : Prop :=
 bumpK 2 h fun h =>
 binCK P .geq 27 27 t0 (.int .u64 65536) h fun t8_1 =>
 condK t8_1
 (bumpK 3 h fun h =>
  binCK P .shr 27 316 t0 (.int .u64 16) h fun t10_1 =>
  bumpK 3 h fun h =>
  binCK P .add 3 3 t2 (.int .i64 16) h fun t12_1 =>
  v226_j4 X L K h t10_1 t13 t14 t15 t16 t12_1 t17 t18 t20 t21 t22 t19 t23 t24)
 (v226_j4 X L K h t0 t13 t14 t15 t16 t2 t17 t18 t20 t21 t22 t19 t23 t24)
theorem v226_j1_eq (X : Caller) (L : Looper) (K : Value → AHeap → Prop) (h : AHeap) (t0 t7 t8 t9 t10 t2 t11 t12 t13 t14 t15 t16 t17 t18 t20 t21 t22 t19 t23 t24 : Value) : f226_j1 X L K h t0 t7 t8 t9 t10 t2 t11 t12 t13 t14 t15 t16 t17 t18 t20 t21 t22 t19 t23 t24 = v226_j1 X L K h t0 t7 t8 t9 t10 t2 t11 t12 t13 t14 t15 t16 t17 t18 t20 t21 t22 t19 t23 t24 := by
  unfold f226_j1 v226_j1
  simp only [rdK_rd', nilVK_eq, newVK_eq, boxVK_eq, pickVK_eq, extVK_eq, gF_rd, gF_some, gF_nil, gF_pick, gF_ext, bumpK_eq, regV_eq, ld1K_eq', ldNK_eq', binVK_eq', binCK_eq', binDK_eq', stVK_eq, fAddrK_eq', ixSK_eq', ixRK_eq', unVK_eq', opF_eq, v226_j7_eq, v226_j4_eq]
def v226 (X : Caller) (L : Looper) (K : Value → AHeap → Prop) (h : AHeap) (t0 : Value) : Prop :=
 bumpK 1 h fun h =>
 bumpK 2 h fun h =>
 binCK P .geq 27 27 t0 (.int .u64 4294967296) h fun t4 =>
 condK t4
 (bumpK 3 h fun h =>
  binCK P .shr 27 316 t0 (.int .u64 32) h fun t6 =>
  bumpK 1 h fun h =>
  v226_j1 X L K h t6 undef undef undef undef ((.int .i64 32)) undef undef undef undef undef undef undef undef undef undef undef undef undef undef)
 (v226_j1 X L K h t0 undef undef undef undef ((.int .i64 0)) undef undef undef undef undef undef undef undef undef undef undef undef undef undef)
theorem v226_eq (X : Caller) (L : Looper) (K : Value → AHeap → Prop) (h : AHeap) (t0 : Value) : f226 X L K h t0 = v226 X L K h t0 := by
  unfold f226 v226
  simp only [rdK_rd', nilVK_eq, newVK_eq, boxVK_eq, pickVK_eq, extVK_eq, gF_rd, gF_some, gF_nil, gF_pick, gF_ext, bumpK_eq, regV_eq, ld1K_eq', ldNK_eq', binVK_eq', binCK_eq', binDK_eq', stVK_eq, fAddrK_eq', ixSK_eq', ixRK_eq', unVK_eq', opF_eq, v226_j7_eq, v226_j4_eq, v226_j1_eq]
theorem w226_eq (X : Caller) (L : Looper) (K : Value → AHeap → Prop) (h : AHeap) (t0 : Value) : aJob P X L (.call 226 [t0]) K h = v226 X L K h t0 := (f226_eq X L K h t0).trans (v226_eq X L K h t0)
def v227 (X : Caller) (L : Looper) (K : Value → AHeap → Prop) (h : AHeap) (t0 t1 : Value) : Prop :=
 bumpK 2 h fun h =>
 bumpK 4 h fun h =>
 X (.call 266 [t0, (.int .u32 0), t1]) (fun t11 h =>
 bumpK 2 h fun h =>
 binCK P .neq 24 24 t11 (.int .i64 0) h fun t13 =>
 condK t13
 (bumpK 3 h fun h =>
  K (.tuple #[(.int .i64 0), t11]) h)
 (bumpK 10 h fun h =>
 nilVK t0 fun t17 =>
 fAddrK 1 t17 fun t18 =>
 X (.call 267 [t18, t1]) (fun t20 h =>
 extVK 0 t20 fun t21 =>
 extVK 1 t20 fun t22 =>
 bumpK 2 h fun h =>
 unVK P .not 4 t22 fun t24 =>
 condK t24
 (bumpK 2 h fun h =>
  K (.tuple #[(.int .i64 0), (.int .i64 9)]) h)
 (bumpK 3 h fun h =>
 K (.tuple #[t21, (.int .i64 0)]) h)) h)) h
theorem v227_eq (X : Caller) (L : Looper) (K : Value → AHeap → Prop) (h : AHeap) (t0 t1 : Value) : f227 X L K h t0 t1 = v227 X L K h t0 t1 := by
  unfold f227 v227
  simp only [rdK_rd', nilVK_eq, newVK_eq, boxVK_eq, pickVK_eq, extVK_eq, gF_rd, gF_some, gF_nil, gF_pick, gF_ext, bumpK_eq, regV_eq, ld1K_eq', ldNK_eq', binVK_eq', binCK_eq', binDK_eq', stVK_eq, fAddrK_eq', ixSK_eq', ixRK_eq', unVK_eq', opF_eq]
theorem w227_eq (X : Caller) (L : Looper) (K : Value → AHeap → Prop) (h : AHeap) (t0 t1 : Value) : aJob P X L (.call 227 [t0, t1]) K h = v227 X L K h t0 t1 := (f227_eq X L K h t0 t1).trans (v227_eq X L K h t0 t1)
def v228_l4 (X : Caller) (L : Looper) (a : AAct) (K : ActPost) (h : AHeap) : Prop :=
 bumpK 1 h fun h =>
 binVK P .lss 3 3 (a.env 18) (a.env 17) h fun t19 =>
 condK t19
 (bumpK 3 h fun h =>
 ixSK 1 (a.env 16) (a.env 18) fun t20 =>
 ld1K t20 h fun t21 =>
 bumpK 3 h fun h =>
 X (.call 210 [(a.env 0), t21]) (fun t24 h =>
 bumpK 2 h fun h =>
 binCK P .add 3 3 (a.env 18) (.int .i64 1) h fun t25 =>
 K .normal ⟨(upds a.env [(19, t19), (20, t20), (21, t21), (9, t21), (22, (a.env 0)), (23, t21), (24, t24), (25, t25), (18, t25)]), a.defers⟩ h) h)
 (K (.exit 0) ⟨(upds a.env [(19, t19)]), a.defers⟩ h)
theorem v228_l4_eq (X : Caller) (L : Looper) (a : AAct) (K : ActPost) (h : AHeap) : f228_l4 X L a K h = v228_l4 X L a K h := by
  unfold f228_l4 v228_l4
  simp only [rdK_rd', nilVK_eq, newVK_eq, boxVK_eq, pickVK_eq, extVK_eq, gF_rd, gF_some, gF_nil, gF_pick, gF_ext, bumpK_eq, regV_eq, ld1K_eq', ldNK_eq', binVK_eq', binCK_eq', binDK_eq', stVK_eq, fAddrK_eq', ixSK_eq', ixRK_eq', unVK_eq', opF_eq]
theorem v228_l4_eq' (X : Caller) (L : Looper) : f228_l4 X L = v228_l4 X L := by
  funext a K h; exact v228_l4_eq X L a K h
def v228_j2 (X : Caller) (L : Looper) (K : Value → AHeap → Prop) (h : AHeap) (a : AAct) : Prop :=
 bumpK 4 h fun h =>
 leaveA P X Tryz.f228 ⟨(upds a.env [(26, (a.env 6)), (27, (a.env 7)), (4, (a.env 6)), (5, (a.env 7))]), a.defers⟩ K a.defers h
theorem v228_j2_eq (X : Caller) (L : Looper) (K : Value → AHeap → Prop) (h : AHeap) (a : AAct) : f228_j2 X L K h a = v228_j2 X L K h a := by
  unfold f228_j2 v228_j2
  simp only [rdK_rd', nilVK_eq, newVK_eq, boxVK_eq, pickVK_eq, extVK_eq, gF_rd, gF_some, gF_nil, gF_pick, gF_ext, bumpK_eq, regV_eq, ld1K_eq', ldNK_eq', binVK_eq', binCK_eq', binDK_eq', stVK_eq, fAddrK_eq', ixSK_eq', ixRK_eq', unVK_eq', opF_eq, v228_l4_eq, v228_l4_eq']
def v228 (X : Caller) (L : Looper) (K : Value → AHeap → Prop) (h : AHeap) (t0 t1 : Value) : Prop :=
 bumpK 2 h fun h =>
 bumpK 8 h fun h =>
 X (.call 268 [t0, t1]) (fun t13 h =>
 extVK 0 t13 fun t14 =>
 extVK 1 t13 fun t15 =>
 regV 3 h fun b h =>
 opF (builtinV P .len [143] [t14] (b + 1) h) fun t17 h =>
 L (v228_l4 X L) ⟨(upds (argsEnv [t0, t1]) [(4, (.slice none 0 0)), (5, (.int .i64 0)), (11, t0), (12, t1), (13, t13), (10, t13), (14, t14), (15, t15), (6, t14), (7, t15), (16, t14), (17, t17), (18, (.int .i64 0))]), []⟩ (blkX 0 (seqX (fun a h => v228_j2 X L K h a) (finX P X Tryz.f228 K))) h) h
theorem v228_eq (X : Caller) (L : Looper) (K : Value → AHeap → Prop) (h : AHeap) (t0 t1 : Value) : f228 X L K h t0 t1 = v228 X L K h t0 t1 := by
  unfold f228 v228
  simp only [rdK_rd', nilVK_eq, newVK_eq, boxVK_eq, pickVK_eq, extVK_eq, gF_rd, gF_some, gF_nil, gF_pick, gF_ext, bumpK_eq, regV_eq, ld1K_eq', ldNK_eq', binVK_eq', binCK_eq', binDK_eq', stVK_eq, fAddrK_eq', ixSK_eq', ixRK_eq', unVK_eq', opF_eq, v228_l4_eq, v228_l4_eq', v228_j2_eq]
theorem w228_eq (X : Caller) (L : Looper) (K : Value → AHeap → Prop) (h : AHeap) (t0 t1 : Value) : aJob P X L (.call 228 [t0, t1]) K h = v228 X L K h t0 t1 := (f228_eq X L K h t0 t1).trans (v228_eq X L K h t0 t1)
def v229 (X : Caller) (L : Looper) (K : Value → AHeap → Prop) (h : AHeap) (t0 t1 t2 : Value) : Prop :=
 bumpK 1 h fun h =>
 bumpK 5 h fun h =>
 X (.call 266 [t0, t1, t2]) (fun t12 h =>
 bumpK 2 h fun h =>
 binCK P .neq 24 24 t12 (.int .i64 0) h fun t14 =>
 condK t14
 (bumpK 2 h fun h =>
  K t12 h)
 (bumpK 3 h fun h =>
 X (.call 269 [t0, t1]) (fun t18 h =>
 bumpK 8 h fun h =>
 nilVK t0 fun t20 =>
 fAddrK 0 t20 fun t21 =>
 ld1K t21 h fun t22 =>
 X (.call 222 [t22, t2, t1]) (fun t25 h =>
 bumpK 2 h fun h =>
 binCK P .neq 24 24 t25 (.int .i64 0) h fun t27 =>
 condK t27
 (bumpK 2 h fun h =>
  K t25 h)
 (bumpK 5 h fun h =>
 nilVK t0 fun t30 =>
 fAddrK 1 t30 fun t31 =>
 X (.call 270 [t31, t2]) (fun t33 h =>
 bumpK 8 h fun h =>
 nilVK t0 fun t35 =>
 fAddrK 5 t35 fun t36 =>
 ld1K t36 h fun t37 =>
 binCK P .add 3 3 t37 (.int .i64 1) h fun t38 =>
 nilVK t0 fun t39 =>
 fAddrK 5 t39 fun t40 =>
 stVK 1 t40 t38 h fun h =>
 bumpK 1 h fun h =>
 K (.int .i64 0) h) h)) h) h)) h
theorem v229_eq (X : Caller) (L : Looper) (K : Value → AHeap → Prop) (h : AHeap) (t0 t1 t2 : Value) : f229 X L K h t0 t1 t2 = v229 X L K h t0 t1 t2 := by
  unfold f229 v229
  simp only [rdK_rd', nilVK_eq, newVK_eq, boxVK_eq, pickVK_eq, extVK_eq, gF_rd, gF_some, gF_nil, gF_pick, gF_ext, bumpK_eq, regV_eq, ld1K_eq', ldNK_eq', binVK_eq', binCK_eq', binDK_eq', stVK_eq, fAddrK_eq', ixSK_eq', ixRK_eq', unVK_eq', opF_eq]
theorem w229_eq (X : Caller) (L : Looper) (K : Value → AHeap → Prop) (h : AHeap) (t0 t1 t2 : Value) : aJob P X L (.call 229 [t0, t1, t2]) K h = v229 X L K h t0 t1 t2 := (f229_eq X L K h t0 t1 t2).trans (v229_eq X L K h t0 t1 t2)
def v231 (X : Caller) (L : Looper) (K : Value → AHeap → Prop) (h : AHeap) (t0 : Value) : Prop :=
 bumpK 1 h fun h =>
 condK (.bool false)
 (regV 4 h fun b h =>
  opF (convertA P 316 81 t0 (b + 1) h) fun t4 h =>
  X (.call 279 [t4]) (fun t5 h =>
  K t5 h) h)
 (bumpK 3 h fun h =>
 X (.call 226 [t0]) (fun t7 h =>
 K t7 h) h)
theorem v231_eq (X : Caller) (L : Looper) (K : Value → AHeap → Prop) (h : AHeap) (t0 : Value) : f231 X L K h t0 = v231 X L K h t0 := by
  unfold f231 v231
  simp only [rdK_rd', nilVK_eq, newVK_eq, boxVK_eq, pickVK_eq, extVK_eq, gF_rd, gF_some, gF_nil, gF_pick, gF_ext, bumpK_eq, regV_eq, ld1K_eq', ldNK_eq', binVK_eq', binCK_eq', binDK_eq', stVK_eq, fAddrK_eq', ixSK_eq', ixRK_eq', unVK_eq', opF_eq]
theorem w231_eq (X : Caller) (L : Looper) (K : Value → AHeap → Prop) (h : AHeap) (t0 : Value) : aJob P X L (.call 231 [t0]) K h = v231 X L K h t0 := (f231_eq X L K h t0).trans (v231_eq X L K h t0)
def v234_j3 (X : Caller) (L : Looper) (K : Value → AHeap → Prop) (h : AHeap) (t0 t26 t4 : Value) : Prop :=
 bumpK 2 h fun h =>
 K t0 h
theorem v234_j3_eq (X : Caller) (L : Looper) (K : Value → AHeap → Prop) (h : AHeap) (t0 t26 t4 : Value) : f234_j3 X L K h t0 t26 t4 = v234_j3 X L K h t0 t26 t4 := by
  unfold f234_j3 v234_j3
  simp only [rdK_rd', nilVK_eq, newVK_eq, boxVK_eq, pickVK_eq, extVK_eq, gF_rd, gF_some, gF_nil, gF_pick, gF_ext, bumpK_eq, regV_eq, ld1K_eq', ldNK_eq', binVK_eq', binCK_eq', binDK_eq', stVK_eq, fAddrK_eq', ixSK_eq', ixRK_eq', unVK_eq', opF_eq]
def v234_j1 (X : Caller) (L : Looper) (K : Value → AHeap → Prop) (h : AHeap) (t1 t0 t9 t11 t10 t12 t8 t13 t14 t15 t16 t18 t17 t19 t20 t21 t23 t22 t24 t25 t26 t4 : Value) : Prop :=
 regV 8 h fun b h =>
 opF (builtinV P .cap [178] [t0] (b + 2) h) fun t10_1 h =>
 opF (builtinV P .len [178] [t0] (b + 4) h) fun t12_1 h =>
 binVK P .sub 3 3 t10_1 t12_1 h fun t13_1 =>
 binVK P .sub 3 3 t1 t13_1 h fun t14_1 =>
 bumpK 2 h fun h =>
 binCK P .gtr 3 3 t14_1 (.int .i64 0) h fun t16_1 =>
 condK t16_1
 (regV 10 h fun b_1 h =>
  opF (builtinV P .cap [178] [t0] (b_1 + 2) h) fun t19_1 h =>
  opF (sliceV P 178 t0 none (some t19_1) none h) fun t20_1 h =>
  opF (builtinV P .append [178, 3] [t20_1, t14_1] (b_1 + 5) h) fun t22_1 h =>
  opF (builtinV P .len [178] [t0] (b_1 + 7) h) fun t24_1 h =>
  opF (sliceV P 178 t22_1 none (some t24_1) none h) fun t25_1 h =>
  v234_j3 X L K h t25_1 t26 t4)
 (v234_j3 X L K h t0 t26 t4)
theorem v234_j1_eq (X : Caller) (L : Looper) (K : Value → AHeap → Prop) (h : AHeap) (t1 t0 t9 t11 t10 t12 t8 t13 t14 t15 t16 t18 t17 t19 t20 t21 t23 t22 t24 t25 t26 t4 : Value) : f234_j1 X L K h t1 t0 t9 t11 t10 t12 t8 t13 t14 t15 t16 t18 t17 t19 t20 t21 t23 t22 t24 t25 t26 t4 = v234_j1 X L K h t1 t0 t9 t11 t10 t12 t8 t13 t14 t15 t16 t18 t17 t19 t20 t21 t23 t22 t24 t25 t26 t4 := by
  unfold f234_j1 v234_j1
  simp only [rdK_rd', nilVK_eq, newVK_eq, boxVK_eq, pickVK_eq, extVK_eq, gF_rd, gF_some, gF_nil, gF_pick, gF_ext, bumpK_eq, regV_eq, ld1K_eq', ldNK_eq', binVK_eq', binCK_eq', binDK_eq', stVK_eq, fAddrK_eq', ixSK_eq', ixRK_eq', unVK_eq', opF_eq, v234_j3_eq]
def v234 (X : Caller) (L : Looper) (K : Value → AHeap → Prop) (h : AHeap) (t0 t1 : Value) : Prop :=
 bumpK 1 h fun h =>
 bumpK 2 h fun h =>
 binCK P .lss 3 3 t1 (.int .i64 0) h fun t6 =>
 condK t6
 (bumpK 2 h fun h =>
  False)
 (v234_j1 X L K h t1 t0 undef undef undef undef undef undef undef undef undef undef undef undef undef undef undef undef undef undef undef ((.slice none 0 0)))
theorem v234_eq (X : Caller) (L : Looper) (K : Value → AHeap → Prop) (h : AHeap) (t0 t1 : Value) : f234 X L K h t0 t1 = v234 X L K h t0 t1 := by
  unfold f234 v234
  simp only [rdK_rd', nilVK_eq, newVK_eq, boxVK_eq, pickVK_eq, extVK_eq, gF_rd, gF_some, gF_nil, gF_pick, gF_ext, bumpK_eq, regV_eq, ld1K_eq', ldNK_eq', binVK_eq', binCK_eq', binDK_eq', stVK_eq, fAddrK_eq', ixSK_eq', ixRK_eq', unVK_eq', opF_eq, v234_j3_eq, v234_j1_eq]
theorem w234_eq (X : Caller) (L : Looper) (K : Value → AHeap → Prop) (h : AHeap) (t0 t1 : Value) : aJob P X L (.call 234 [t0, t1]) K h = v234 X L K h t0 t1 := (f234_eq X L K h t0 t1).trans (v234_eq X L K h t0 t1)
def v235_j10 (X : Caller) (L : Looper) (K : ActPost) (h : AHeap) (a : AAct) : Prop :=
 bumpK 3 h fun h =>
 binCK P .add 3 3 (a.env 6) (.int .i64 1) h fun t21 =>
 K .normal ⟨(upds a.env [(20, (a.env 6)), (21, t21), (6, t21)]), a.defers⟩ h
theorem v235_j10_eq (X : Caller) (L : Looper) (K : ActPost) (h : AHeap) (a : AAct) : f235_j10 X L K h a = v235_j10 X L K h a := by
  unfold f235_j10 v235_j10
  simp only [rdK_rd', nilVK_eq, newVK_eq, boxVK_eq, pickVK_eq, extVK_eq, gF_rd, gF_some, gF_nil, gF_pick, gF_ext, bumpK_eq, regV_eq, ld1K_eq', ldNK_eq', binVK_eq', binCK_eq', binDK_eq', stVK_eq, fAddrK_eq', ixSK_eq', ixRK_eq', unVK_eq', opF_eq]
def v235_l7 (X : Caller) (L : Looper) (a : AAct) (K : ActPost) (h : AHeap) : Prop :=
 regV 4 h fun b h =>
 opF (builtinV P .len [178] [(a.env 0)] (b + 2) h) fun t18 h =>
 binVK P .lss 3 3 (a.env 6) t18 h fun t19 =>
 condK t19
 (regV 6 h fun b_1 h =>
 ixSK 2 (a.env 0) (a.env 6) fun t24 =>
 ldNK 2 t24 h fun t25 =>
 newVK [.int .u32 0, .int .i64 0] (b_1 + 4) h fun t7 h =>
 stVK 2 t7 t25 h fun h =>
 bumpK 4 h fun h =>
 ldNK 2 t7 h fun t27 =>
 callV X (a.env 1) [t27] (fun t28 h =>
 unVK P .not 4 t28 fun t29 =>
 condK t29
 (bumpK 5 h fun h =>
  ldNK 2 t7 h fun t32 =>
  ixSK 2 (a.env 0) (a.env 5) fun t33 =>
  stVK 2 t33 t32 h fun h =>
  bumpK 3 h fun h =>
  binCK P .add 3 3 (a.env 5) (.int .i64 1) h fun t35 =>
  v235_j10 X L K h ⟨(upds a.env [(16, (a.env 6)), (17, (a.env 0)), (18, t18), (19, t19), (22, (a.env 0)), (23, (a.env 6)), (24, t24), (25, t25), (7, t7), (26, (a.env 1)), (27, t27), (28, t28), (29, t29), (30, (a.env 0)), (31, (a.env 5)), (32, t32), (33, t33), (34, (a.env 5)), (35, t35), (5, t35)]), a.defers⟩)
 (v235_j10 X L K h ⟨(upds a.env [(16, (a.env 6)), (17, (a.env 0)), (18, t18), (19, t19), (22, (a.env 0)), (23, (a.env 6)), (24, t24), (25, t25), (7, t7), (26, (a.env 1)), (27, t27), (28, t28), (29, t29)]), a.defers⟩)) h)
 (K (.exit 0) ⟨(upds a.env [(16, (a.env 6)), (17, (a.env 0)), (18, t18), (19, t19)]), a.defers⟩ h)
theorem v235_l7_eq (X : Caller) (L : Looper) (a : AAct) (K : ActPost) (h : AHeap) : f235_l7 X L a K h = v235_l7 X L a K h := by
  unfold f235_l7 v235_l7
  simp only [rdK_rd', nilVK_eq, newVK_eq, boxVK_eq, pickVK_eq, extVK_eq, gF_rd, gF_some, gF_nil, gF_pick, gF_ext, bumpK_eq, regV_eq, ld1K_eq', ldNK_eq', binVK_eq', binCK_eq', binDK_eq', stVK_eq, fAddrK_eq', ixSK_eq', ixRK_eq', unVK_eq', opF_eq, v235_j10_eq]
theorem v235_l7_eq' (X : Caller) (L : Looper) : f235_l7 X L = v235_l7 X L := by
  funext a K h; exact v235_l7_eq X L a K h
def v235_j5 (X : Caller) (L : Looper) (K : Value → AHeap → Prop) (h : AHeap) (a : AAct) : Prop :=
 regV 4 h fun b_2 h =>
 opF (sliceV P 178 (a.env 0) (some (a.env 5)) none none h) fun t38 h =>
 opF (builtinV P .clear [178] [t38] (b_2 + 3) h) fun _ h =>
 bumpK 4 h fun h =>
 opF (sliceV P 178 (a.env 0) none (some (a.env 5)) none h) fun t41 h =>
 leaveA P X Tryz.f235 ⟨(upds a.env [(36, (a.env 0)), (37, (a.env 5)), (38, t38), (39, (a.env 0)), (40, (a.env 5)), (41, t41), (4, t41)]), a.defers⟩ K a.defers h
theorem v235_j5_eq (X : Caller) (L : Looper) (K : Value → AHeap → Prop) (h : AHeap) (a : AAct) : f235_j5 X L K h a = v235_j5 X L K h a := by
  unfold f235_j5 v235_j5
  simp only [rdK_rd', nilVK_eq, newVK_eq, boxVK_eq, pickVK_eq, extVK_eq, gF_rd, gF_some, gF_nil, gF_pick, gF_ext, bumpK_eq, regV_eq, ld1K_eq', ldNK_eq', binVK_eq', binCK_eq', binDK_eq', stVK_eq, fAddrK_eq', ixSK_eq', ixRK_eq', unVK_eq', opF_eq, v235_j10_eq, v235_l7_eq, v235_l7_eq']
def v235 (X : Caller) (L : Looper) (K : Value → AHeap → Prop) (h : AHeap) (t0 t1 : Value) : Prop :=
 bumpK 1 h fun h =>
 bumpK 4 h fun h =>
 X (.call 280 [t0, t1]) (fun t10 h =>
 bumpK 2 h fun h =>
 binCK P .eql 3 3 t10 (.int .i64 (-1)) h fun t12 =>
 condK t12
 (bumpK 2 h fun h =>
  K t0 h)
 (bumpK 3 h fun h =>
 binCK P .add 3 3 t10 (.int .i64 1) h fun t15 =>
 L (v235_l7 X L) ⟨(upds (argsEnv [t0, t1]) [(4, (.slice none 0 0)), (8, t0), (9, t1), (10, t10), (5, t10), (11, t10), (12, t12), (14, t10), (15, t15), (6, t15)]), []⟩ (blkX 0 (seqX (fun a h => v235_j5 X L K h a) (finX P X Tryz.f235 K))) h)) h
theorem v235_eq (X : Caller) (L : Looper) (K : Value → AHeap → Prop) (h : AHeap) (t0 t1 : Value) : f235 X L K h t0 t1 = v235 X L K h t0 t1 := by
  unfold f235 v235
  simp only [rdK_rd', nilVK_eq, newVK_eq, boxVK_eq, pickVK_eq, extVK_eq, gF_rd, gF_some, gF_nil, gF_pick, gF_ext, bumpK_eq, regV_eq, ld1K_eq', ldNK_eq', binVK_eq', binCK_eq', binDK_eq', stVK_eq, fAddrK_eq', ixSK_eq', ixRK_eq', unVK_eq', opF_eq, v235_j10_eq, v235_l7_eq, v235_l7_eq', v235_j5_eq]
theorem w235_eq (X : Caller) (L : Looper) (K : Value → AHeap → Prop) (h : AHeap) (t0 t1 : Value) : aJob P X L (.call 235 [t0, t1]) K h = v235 X L K h t0 t1 := (f235_eq X L K h t0 t1).trans (v235_eq X L K h t0 t1)
def v236 (X : Caller) (L : Looper) (K : Value → AHeap → Prop) (h : AHeap) (t0 : Value) : Prop :=
 bumpK 1 h fun h =>
 bumpK 2 h fun h =>
 binCK P .eql 178 178 t0 (.slice none 0 0) h fun t4 =>
 condK t4
 (bumpK 1 h fun h =>
  K (.slice none 0 0) h)
 (regV 4 h fun b h =>
 opF (bsliceV P 178 0 [] (b + 0) h) fun t5 h =>
 opF (builtinV P .append [178, 178] [t5, t0] (b + 2) h) fun t7 h =>
 K t7 h)
theorem v236_eq (X : Caller) (L : Looper) (K : Value → AHeap → Prop) (h : AHeap) (t0 : Value) : f236 X L K h t0 = v236 X L K h t0 := by
  unfold f236 v236
  simp only [rdK_rd', nilVK_eq, newVK_eq, boxVK_eq, pickVK_eq, extVK_eq, gF_rd, gF_some, gF_nil, gF_pick, gF_ext, bumpK_eq, regV_eq, ld1K_eq', ldNK_eq', binVK_eq', binCK_eq', binDK_eq', stVK_eq, fAddrK_eq', ixSK_eq', ixRK_eq', unVK_eq', opF_eq]
theorem w236_eq (X : Caller) (L : Looper) (K : Value → AHeap → Prop) (h : AHeap) (t0 : Value) : aJob P X L (.call 236 [t0]) K h = v236 X L K h t0 := (f236_eq X L K h t0).trans (v236_eq X L K h t0)
def v237 (X : Caller) (L : Looper) (K : Value → AHeap → Prop) (h : AHeap) (t0 t1 : Value) : Prop :=
 regV 2 h fun b h =>
 boxVK t0 (b + 0) h fun t2 h =>
 bumpK 6 h fun h =>
 fAddrK 0 t2 fun t4 =>
 ld1K t4 h fun t5 =>
 fAddrK 1 t1 fun t6 =>
 ld1K t6 h fun t7 =>
 binVK P .eql 81 81 t5 t7 h fun t8 =>
 K t8 h
theorem v237_eq (X : Caller) (L : Looper) (K : Value → AHeap → Prop) (h : AHeap) (t0 t1 : Value) : f237 X L K h t0 t1 = v237 X L K h t0 t1 := by
  unfold f237 v237
  simp only [rdK_rd', nilVK_eq, newVK_eq, boxVK_eq, pickVK_eq, extVK_eq, gF_rd, gF_some, gF_nil, gF_pick, gF_ext, bumpK_eq, regV_eq, ld1K_eq', ldNK_eq', binVK_eq', binCK_eq', binDK_eq', stVK_eq, fAddrK_eq', ixSK_eq', ixRK_eq', unVK_eq', opF_eq]
theorem w237_eq (X : Caller) (L : Looper) (K : Value → AHeap → Prop) (h : AHeap) (t0 t1 : Value) : aJob P X L (.call 237 [t0, t1]) K h = v237 X L K h t0 t1 := (f237_eq X L K h t0 t1).trans (v237_eq X L K h t0 t1)
def v238_l8 (X : Caller) (L : Looper) (a : AAct) (K : ActPost) (h : AHeap) : Prop :=
 bumpK 3 h fun h =>
 binVK P .neq 81 81 (a.env 7) (a.env 5) h fun t25 =>
 condK t25
 (regV 5 h fun b h =>
 opF (bsliceV P 143 1 [(0, (a.env 7))] (b + 2) h) fun t36 h =>
 opF (builtinV P .append [143, 143] [(a.env 6), t36] (b + 3) h) fun t37 h =>
 bumpK 9 h fun h =>
 nilVK (a.env 0) fun t27 =>
 fAddrK 0 t27 fun t28 =>
 ld1K t28 h fun t29 =>
 ixSK 3 t29 (a.env 7) fun t31 =>
 fAddrK 1 t31 fun t32 =>
 ld1K t32 h fun t33 =>
 K .normal ⟨(upds a.env [(23, (a.env 7)), (24, (a.env 5)), (25, t25), (34, (a.env 6)), (35, (a.env 7)), (36, t36), (37, t37), (6, t37), (26, (a.env 0)), (27, t27), (28, t28), (29, t29), (30, (a.env 7)), (31, t31), (32, t32), (33, t33), (7, t33)]), a.defers⟩ h)
 (K (.exit 0) ⟨(upds a.env [(23, (a.env 7)), (24, (a.env 5)), (25, t25)]), a.defers⟩ h)
theorem v238_l8_eq (X : Caller) (L : Looper) (a : AAct) (K : ActPost) (h : AHeap) : f238_l8 X L a K h = v238_l8 X L a K h := by
  unfold f238_l8 v238_l8
  simp only [rdK_rd', nilVK_eq, newVK_eq, boxVK_eq, pickVK_eq, extVK_eq, gF_rd, gF_some, gF_nil, gF_pick, gF_ext, bumpK_eq, regV_eq, ld1K_eq', ldNK_eq', binVK_eq', binCK_eq', binDK_eq', stVK_eq, fAddrK_eq', ixSK_eq', ixRK_eq', unVK_eq', opF_eq]
theorem v238_l8_eq' (X : Caller) (L : Looper) : f238_l8 X L = v238_l8 X L := by
  funext a K h; exact v238_l8_eq X L a K h
def v238_j6 (X : Caller) (L : Looper) (K : Value → AHeap → Prop) (h : AHeap) (a : AAct) : Prop :=
 bumpK 2 h fun h =>
 leaveA P X Tryz.f238 ⟨(upds a.env [(38, (a.env 6)), (4, (a.env 6))]), a.defers⟩ K a.defers h
theorem v238_j6_eq (X : Caller) (L : Looper) (K : Value → AHeap → Prop) (h : AHeap) (a : AAct) : f238_j6 X L K h a = v238_j6 X L K h a := by
  unfold f238_j6 v238_j6
  simp only [rdK_rd', nilVK_eq, newVK_eq, boxVK_eq, pickVK_eq, extVK_eq, gF_rd, gF_some, gF_nil, gF_pick, gF_ext, bumpK_eq, regV_eq, ld1K_eq', ldNK_eq', binVK_eq', binCK_eq', binDK_eq', stVK_eq, fAddrK_eq', ixSK_eq', ixRK_eq', unVK_eq', opF_eq, v238_l8_eq, v238_l8_eq']
def v238 (X : Caller) (L : Looper) (K : Value → AHeap → Prop) (h : AHeap) (t0 t1 : Value) : Prop :=
 bumpK 1 h fun h =>
 bumpK 4 h fun h =>
 X (.call 264 [t0, t1]) (fun t10 h =>
 binCK P .neq 24 24 t10 (.int .i64 0) h fun t11 =>
 condK t11
 (bumpK 1 h fun h =>
  K (.slice none 0 0) h)
 (bumpK 4 h fun h =>
 X (.call 178 [t1, t0]) (fun t14 h =>
 bumpK 1 h fun h =>
 bumpK 9 h fun h =>
 nilVK t0 fun t16 =>
 fAddrK 0 t16 fun t17 =>
 ld1K t17 h fun t18 =>
 ixSK 3 t18 t14 fun t20 =>
 fAddrK 1 t20 fun t21 =>
 ld1K t21 h fun t22 =>
 L (v238_l8 X L) ⟨(upds (argsEnv [t0, t1]) [(4, (.slice none 0 0)), (8, t0), (9, t1), (10, t10), (11, t11), (12, t1), (13, t0), (14, t14), (5, t14), (6, (.slice none 0 0)), (15, t0), (16, t16), (17, t17), (18, t18), (19, t14), (20, t20), (21, t21), (22, t22), (7, t22)]), []⟩ (blkX 0 (seqX (fun a h => v238_j6 X L K h a) (finX P X Tryz.f238 K))) h) h)) h
theorem v238_eq (X : Caller) (L : Looper) (K : Value → AHeap → Prop) (h : AHeap) (t0 t1 : Value) : f238 X L K h t0 t1 = v238 X L K h t0 t1 := by
  unfold f238 v238
  simp only [rdK_rd', nilVK_eq, newVK_eq, boxVK_eq, pickVK_eq, extVK_eq, gF_rd, gF_some, gF_nil, gF_pick, gF_ext, bumpK_eq, regV_eq, ld1K_eq', ldNK_eq', binVK_eq', binCK_eq', binDK_eq', stVK_eq, fAddrK_eq', ixSK_eq', ixRK_eq', unVK_eq', opF_eq, v238_l8_eq, v238_l8_eq', v238_j6_eq]
theorem w238_eq (X : Caller) (L : Looper) (K : Value → AHeap → Prop) (h : AHeap) (t0 t1 : Value) : aJob P X L (.call 238 [t0, t1]) K h = v238 X L K h t0 t1 := (f238_eq X L K h t0 t1).trans (v238_eq X L K h t0 t1)
def v239_l1 (X : Caller) (L : Looper) (a : AAct) (K : ActPost) (h : AHeap) : Prop :=
 bumpK 1 h fun h =>
 binVK P .lss 3 3 (a.env 7) (a.env 6) h fun t8 =>
 condK t8
 (bumpK 3 h fun h =>
 ixSK 1 (a.env 5) (a.env 7) fun t9 =>
 ld1K t9 h fun t10 =>
 bumpK 4 h fun h =>
 callV X (a.env 0) [t10] (fun t13 h =>
 unVK P .not 4 t13 fun t14 =>
 condK t14
 (K .ret ⟨(upds a.env [(8, t8), (9, t9), (10, t10), (4, t10), (11, (a.env 0)), (12, t10), (13, t13), (14, t14)]), a.defers⟩ h)
 (bumpK 2 h fun h =>
 binCK P .add 3 3 (a.env 7) (.int .i64 1) h fun t15 =>
 K .normal ⟨(upds a.env [(8, t8), (9, t9), (10, t10), (4, t10), (11, (a.env 0)), (12, t10), (13, t13), (14, t14), (15, t15), (7, t15)]), a.defers⟩ h)) h)
 (K (.exit 0) ⟨(upds a.env [(8, t8)]), a.defers⟩ h)
theorem v239_l1_eq (X : Caller) (L : Looper) (a : AAct) (K : ActPost) (h : AHeap) : f239_l1 X L a K h = v239_l1 X L a K h := by
  unfold f239_l1 v239_l1
  simp only [rdK_rd', nilVK_eq, newVK_eq, boxVK_eq, pickVK_eq, extVK_eq, gF_rd, gF_some, gF_nil, gF_pick, gF_ext, bumpK_eq, regV_eq, ld1K_eq', ldNK_eq', binVK_eq', binCK_eq', binDK_eq', stVK_eq, fAddrK_eq', ixSK_eq', ixRK_eq', unVK_eq', opF_eq]
theorem v239_l1_eq' (X : Caller) (L : Looper) : f239_l1 X L = v239_l1 X L := by
  funext a K h; exact v239_l1_eq X L a K h
def v239 (X : Caller) (L : Looper) (K : Value → AHeap → Prop) (h : AHeap) (t0 t1 : Value) : Prop :=
 regV 3 h fun b h =>
 ld1K t1 h fun t5 =>
 opF (builtinV P .len [143] [t5] (b + 1) h) fun t6 h =>
 L (v239_l1 X L) ⟨(upds (argsEnv [t0, t1]) [(5, t5), (6, t6), (7, (.int .i64 0))]), []⟩ (blkX 0 (finX P X Tryz.f239 K)) h
theorem v239_eq (X : Caller) (L : Looper) (K : Value → AHeap → Prop) (h : AHeap) (t0 t1 : Value) : f239 X L K h t0 t1 = v239 X L K h t0 t1 := by
  unfold f239 v239
  simp only [rdK_rd', nilVK_eq, newVK_eq, boxVK_eq, pickVK_eq, extVK_eq, gF_rd, gF_some, gF_nil, gF_pick, gF_ext, bumpK_eq, regV_eq, ld1K_eq', ldNK_eq', binVK_eq', binCK_eq', binDK_eq', stVK_eq, fAddrK_eq', ixSK_eq', ixRK_eq', unVK_eq', opF_eq, v239_l1_eq, v239_l1_eq']
theorem w239_eq (X : Caller) (L : Looper) (K : Value → AHeap → Prop) (h : AHeap) (t0 t1 : Value) : aJob P X L (.call 239 [t0, t1]) K h = v239 X L K h t0 t1 := (f239_eq X L K h t0 t1).trans (v239_eq X L K h t0 t1)
def v245 (X : Caller) (L : Looper) (K : Value → AHeap → Prop) (h : AHeap) (t0 t1 t2 : Value) : Prop :=
 bumpK 1 h fun h =>
 bumpK 4 h fun h =>
 X (.call 134 [t0, t1]) (fun t10 h =>
 bumpK 3 h fun h =>
 binCK P .neq 24 24 t10 (.int .i64 0) h fun t13 =>
 condK t13
 (bumpK 2 h fun h =>
  K t10 h)
 (bumpK 3 h fun h =>
  binCK P .eql 33 33 t2 (.int .u64 18446744073709551615) h fun t17 =>
  condK t17
  (bumpK 1 h fun h =>
   K (.int .i64 2) h)
  (bumpK 7 h fun h =>
   nilVK t0 fun t21 =>
   fAddrK 0 t21 fun t22 =>
   ld1K t22 h fun t23 =>
   binVK P .leq 33 33 t2 t23 h fun t24 =>
   condK t24
   (bumpK 1 h fun h =>
    K (.int .i64 3) h)
   (bumpK 1 h fun h =>
 K (.int .i64 0) h)))) h
theorem v245_eq (X : Caller) (L : Looper) (K : Value → AHeap → Prop) (h : AHeap) (t0 t1 t2 : Value) : f245 X L K h t0 t1 t2 = v245 X L K h t0 t1 t2 := by
  unfold f245 v245
  simp only [rdK_rd', nilVK_eq, newVK_eq, boxVK_eq, pickVK_eq, extVK_eq, gF_rd, gF_some, gF_nil, gF_pick, gF_ext, bumpK_eq, regV_eq, ld1K_eq', ldNK_eq', binVK_eq', binCK_eq', binDK_eq', stVK_eq, fAddrK_eq', ixSK_eq', ixRK_eq', unVK_eq', opF_eq]
theorem w245_eq (X : Caller) (L : Looper) (K : Value → AHeap → Prop) (h : AHeap) (t0 t1 t2 : Value) : aJob P X L (.call 245 [t0, t1, t2]) K h = v245 X L K h t0 t1 t2 := (f245_eq X L K h t0 t1 t2).trans (v245_eq X L K h t0 t1 t2)
def v246 (X : Caller) (L : Looper) (K : Value → AHeap → Prop) (h : AHeap) (t0 : Value) : Prop :=
 bumpK 1 h fun h =>
 bumpK 3 h fun h =>
 binDK P .mul 3 3 (.int .i64 7) t0 h fun t4 =>
 K t4 h
theorem v246_eq (X : Caller) (L : Looper) (K : Value → AHeap → Prop) (h : AHeap) (t0 : Value) : f246 X L K h t0 = v246 X L K h t0 := by
  unfold f246 v246
  simp only [rdK_rd', nilVK_eq, newVK_eq, boxVK_eq, pickVK_eq, extVK_eq, gF_rd, gF_some, gF_nil, gF_pick, gF_ext, bumpK_eq, regV_eq, ld1K_eq', ldNK_eq', binVK_eq', binCK_eq', binDK_eq', stVK_eq, fAddrK_eq', ixSK_eq', ixRK_eq', unVK_eq', opF_eq]
theorem w246_eq (X : Caller) (L : Looper) (K : Value → AHeap → Prop) (h : AHeap) (t0 : Value) : aJob P X L (.call 246 [t0]) K h = v246 X L K h t0 := (f246_eq X L K h t0).trans (v246_eq X L K h t0)
def v247 (X : Caller) (L : Looper) (K : Value → AHeap → Prop) (h : AHeap) (t0 : Value) : Prop :=
 bumpK 1 h fun h =>
 bumpK 3 h fun h =>
 X (.call 284 [t0]) (fun t4 h =>
 K t4 h) h
theorem v247_eq (X : Caller) (L : Looper) (K : Value → AHeap → Prop) (h : AHeap) (t0 : Value) : f247 X L K h t0 = v247 X L K h t0 := by
  unfold f247 v247
  simp only [rdK_rd', nilVK_eq, newVK_eq, boxVK_eq, pickVK_eq, extVK_eq, gF_rd, gF_some, gF_nil, gF_pick, gF_ext, bumpK_eq, regV_eq, ld1K_eq', ldNK_eq', binVK_eq', binCK_eq', binDK_eq', stVK_eq, fAddrK_eq', ixSK_eq', ixRK_eq', unVK_eq', opF_eq]
theorem w247_eq (X : Caller) (L : Looper) (K : Value → AHeap → Prop) (h : AHeap) (t0 : Value) : aJob P X L (.call 247 [t0]) K h = v247 X L K h t0 := (f247_eq X L K h t0).trans (v247_eq X L K h t0)
end Go.Proofs.YtdlnbmadifgbkaaGreatDoor.F
