/- The functions of the program, as texts that the kernel reckons out (printed by a program of this place). -/
import Derived.Test.YtdlnbmadifgbkaaGreatDoorXX
import Derived.Test.YtdlnbmadifgbkaaGreatDoorCubV
namespace Go.Proofs.YtdlnbmadifgbkaaGreatDoor.F
set_option linter.unusedVariables false
set_option linter.unusedSimpArgs false
open Go Go.Cub
set_option maxRecDepth 100000
def v5_l4 (X : Caller) (L : Looper) (a : AAct) (K : ActPost) (h : AHeap) : Prop :=
 bumpK 1 h fun h =>
 binCK P .lss 3 3 (a.env 19) (.int .i64 2) h fun t20 =>
 condK t20
 (regV 5 h fun b_2 h =>
 rd' (indexA P 47 (a.env 18) (a.env 19)) fun t22 =>
 newVK [.int .i64 0, .int .i64 0, .int .i64 0, .int .u64 0, .bool false] (b_2 + 2) h fun t10 h =>
 stVK 5 t10 t22 h fun h =>
 bumpK 7 h fun h =>
 ldNK 5 t10 h fun t24 =>
 X (.call 11 [t24]) (fun t25 h =>
 extVK 0 t25 fun t26 =>
 extVK 1 t25 fun t27 =>
 bumpK 2 h fun h =>
 binCK P .neq 24 24 t27 (.int .i64 0) h fun t29 =>
 condK t29
 (bumpK 3 h fun h =>
  K .ret ⟨(upds a.env [(20, t20), (21, (a.env 19)), (22, t22), (10, t10), (9, (a.env 19)), (24, t24), (25, t25), (23, t25), (26, t26), (27, t27), (11, t26), (12, t27), (28, t27), (29, t29), (30, t27), (6, (.pointer none)), (7, t27)]), a.defers⟩ h)
 (bumpK 7 h fun h =>
 nilVK (a.env 8) fun t34 =>
 fAddrK 2 t34 fun t35 =>
 ixRK 2 1 t35 (a.env 19) fun t36 =>
 stVK 1 t36 t26 h fun h =>
 bumpK 2 h fun h =>
 binCK P .add 3 3 (a.env 19) (.int .i64 1) h fun t37 =>
 K .normal ⟨(upds a.env [(20, t20), (21, (a.env 19)), (22, t22), (10, t10), (9, (a.env 19)), (24, t24), (25, t25), (23, t25), (26, t26), (27, t27), (11, t26), (12, t27), (28, t27), (29, t29), (31, (a.env 8)), (32, (a.env 19)), (33, t26), (34, t34), (35, t35), (36, t36), (37, t37), (19, t37)]), a.defers⟩ h)) h)
 (K (.exit 0) ⟨(upds a.env [(20, t20)]), a.defers⟩ h)
theorem v5_l4_eq (X : Caller) (L : Looper) (a : AAct) (K : ActPost) (h : AHeap) : f5_l4 X L a K h = v5_l4 X L a K h := by
  unfold f5_l4 v5_l4
  simp only [rdK_rd', nilVK_eq, newVK_eq, boxVK_eq, pickVK_eq, extVK_eq, gF_rd, gF_some, gF_nil, gF_pick, gF_ext, bumpK_eq, regV_eq, ld1K_eq', ldNK_eq', binVK_eq', binCK_eq', binDK_eq', stVK_eq, fAddrK_eq', ixSK_eq', ixRK_eq', unVK_eq', opF_eq]
theorem v5_l4_eq' (X : Caller) (L : Looper) : f5_l4 X L = v5_l4 X L := by
  funext a K h; exact v5_l4_eq X L a K h
def v5_j2 (X : Caller) (L : Looper) (K : Value → AHeap → Prop) (h : AHeap) (a : AAct) : Prop :=
 bumpK 3 h fun h =>
 leaveA P X Tryz.f5 ⟨(upds a.env [(38, (a.env 8)), (6, (a.env 8)), (7, (.int .i64 0))]), a.defers⟩ K a.defers h
theorem v5_j2_eq (X : Caller) (L : Looper) (K : Value → AHeap → Prop) (h : AHeap) (a : AAct) : f5_j2 X L K h a = v5_j2 X L K h a := by
  unfold f5_j2 v5_j2
  simp only [rdK_rd', nilVK_eq, newVK_eq, boxVK_eq, pickVK_eq, extVK_eq, gF_rd, gF_some, gF_nil, gF_pick, gF_ext, bumpK_eq, regV_eq, ld1K_eq', ldNK_eq', binVK_eq', binCK_eq', binDK_eq', stVK_eq, fAddrK_eq', ixSK_eq', ixRK_eq', unVK_eq', opF_eq, v5_l4_eq, v5_l4_eq']
def v5 (X : Caller) (L : Looper) (K : Value → AHeap → Prop) (h : AHeap) (t0 t1 t2 : Value) : Prop :=
 regV 5 h fun b h =>
 boxVK t0 (b + 0) h fun t3 h =>
 boxVK t1 (b + 1) h fun t4 h =>
 boxVK t2 (b + 2) h fun t5 h =>
 regV 4 h fun b_1 h =>
 ldNK 2 t5 h fun t13 =>
 rd' (buildA P 46 [(0, t13)]) fun t14 =>
 boxVK t14 (b_1 + 2) h fun t15 h =>
 bumpK 4 h fun h =>
 ldNK 5 t3 h fun t16 =>
 ldNK 5 t4 h fun t17 =>
 rd' (buildA P 47 [(0, t16), (1, t17)]) fun t18 =>
 L (v5_l4 X L) ⟨(upds (argsEnv [t0, t1, t2]) [(3, t3), (4, t4), (5, t5), (6, (.pointer none)), (7, (.int .i64 0)), (13, t13), (14, t14), (15, t15), (8, t15), (16, t16), (17, t17), (18, t18), (19, (.int .i64 0))]), []⟩ (blkX 0 (seqX (fun a h => v5_j2 X L K h a) (finX P X Tryz.f5 K))) h
theorem v5_eq (X : Caller) (L : Looper) (K : Value → AHeap → Prop) (h : AHeap) (t0 t1 t2 : Value) : f5 X L K h t0 t1 t2 = v5 X L K h t0 t1 t2 := by
  unfold f5 v5
  simp only [rdK_rd', nilVK_eq, newVK_eq, boxVK_eq, pickVK_eq, extVK_eq, gF_rd, gF_some, gF_nil, gF_pick, gF_ext, bumpK_eq, regV_eq, ld1K_eq', ldNK_eq', binVK_eq', binCK_eq', binDK_eq', stVK_eq, fAddrK_eq', ixSK_eq', ixRK_eq', unVK_eq', opF_eq, v5_l4_eq, v5_l4_eq', v5_j2_eq]
theorem w5_eq (X : Caller) (L : Looper) (K : Value → AHeap → Prop) (h : AHeap) (t0 t1 t2 : Value) : aJob P X L (.call 5 [t0, t1, t2]) K h = v5 X L K h t0 t1 t2 := (f5_eq X L K h t0 t1 t2).trans (v5_eq X L K h t0 t1 t2)
def v6_j10 (X : Caller) (L : Looper) (K : Value → AHeap → Prop) (h : AHeap) (a : AAct) : Prop :=
 bumpK 1 h fun h =>
 leaveA P X Tryz.f6 ⟨(upds a.env [(10, (.int .i64 0))]), a.defers⟩ K a.defers h
theorem v6_j10_eq (X : Caller) (L : Looper) (K : Value → AHeap → Prop) (h : AHeap) (a : AAct) : f6_j10 X L K h a = v6_j10 X L K h a := by
  unfold f6_j10 v6_j10
  simp only [rdK_rd', nilVK_eq, newVK_eq, boxVK_eq, pickVK_eq, extVK_eq, gF_rd, gF_some, gF_nil, gF_pick, gF_ext, bumpK_eq, regV_eq, ld1K_eq', ldNK_eq', binVK_eq', binCK_eq', binDK_eq', stVK_eq, fAddrK_eq', ixSK_eq', ixRK_eq', unVK_eq', opF_eq]
def v6_j9 (X : Caller) (L : Looper) (K : Value → AHeap → Prop) (h : AHeap) (a : AAct) : Prop :=
 bumpK 11 h fun h =>
 nilVK (a.env 0) fun t28 =>
 fAddrK 2 t28 fun t29 =>
 ixRK 2 1 t29 (.int .i64 0) fun t30 =>
 ld1K t30 h fun t31 =>
 X (.call 15 [t31, (a.env 1), (a.env 2), (a.env 3), (a.env 4)]) (fun t36 h =>
 bumpK 3 h fun h =>
 binCK P .neq 24 24 t36 (.int .i64 0) h fun t49 =>
 condK t49
 (bumpK 11 h fun h =>
  nilVK (a.env 0) fun t51 =>
  fAddrK 2 t51 fun t52 =>
  ixRK 2 1 t52 (.int .i64 1) fun t53 =>
  ld1K t53 h fun t54 =>
  X (.call 15 [t54, (a.env 1), (a.env 2), (a.env 3), (a.env 4)]) (fun t59 h =>
  leaveA P X Tryz.f6 ⟨(upds a.env [(27, (a.env 0)), (28, t28), (29, t29), (30, t30), (31, t31), (32, (a.env 1)), (33, (a.env 2)), (34, (a.env 3)), (35, (a.env 4)), (36, t36), (12, t36), (48, t36), (49, t49), (47, t49), (50, (a.env 0)), (51, t51), (52, t52), (53, t53), (54, t54), (55, (a.env 1)), (56, (a.env 2)), (57, (a.env 3)), (58, (a.env 4)), (59, t59), (10, t59)]), a.defers⟩ K a.defers h) h)
 (bumpK 6 h fun h =>
  nilVK (a.env 0) fun t62 =>
  fAddrK 0 t62 fun t63 =>
  fAddrK 0 t63 fun t64 =>
  ld1K t64 h fun t65 =>
  condK t65
  (bumpK 8 h fun h =>
   nilVK (a.env 0) fun t67 =>
   fAddrK 2 t67 fun t68 =>
   ixRK 2 1 t68 (.int .i64 1) fun t69 =>
   ld1K t69 h fun t70 =>
   X (.call 16 [t70, (a.env 1), (a.env 2)]) (fun t73 h =>
   v6_j10 X L K h ⟨(upds a.env [(27, (a.env 0)), (28, t28), (29, t29), (30, t30), (31, t31), (32, (a.env 1)), (33, (a.env 2)), (34, (a.env 3)), (35, (a.env 4)), (36, t36), (12, t36), (48, t36), (49, t49), (47, t49), (61, (a.env 0)), (62, t62), (63, t63), (64, t64), (65, t65), (60, t65), (66, (a.env 0)), (67, t67), (68, t68), (69, t69), (70, t70), (71, (a.env 1)), (72, (a.env 2)), (73, t73)]), a.defers⟩) h)
  (bumpK 10 h fun h =>
   nilVK (a.env 0) fun t38 =>
   fAddrK 2 t38 fun t39 =>
   ixRK 2 1 t39 (.int .i64 1) fun t40 =>
   ld1K t40 h fun t41 =>
   X (.call 15 [t41, (a.env 1), (a.env 2), (a.env 3), (a.env 4)]) (fun t46 h =>
   v6_j10 X L K h ⟨(upds a.env [(27, (a.env 0)), (28, t28), (29, t29), (30, t30), (31, t31), (32, (a.env 1)), (33, (a.env 2)), (34, (a.env 3)), (35, (a.env 4)), (36, t36), (12, t36), (48, t36), (49, t49), (47, t49), (61, (a.env 0)), (62, t62), (63, t63), (64, t64), (65, t65), (60, t65), (37, (a.env 0)), (38, t38), (39, t39), (40, t40), (41, t41), (42, (a.env 1)), (43, (a.env 2)), (44, (a.env 3)), (45, (a.env 4)), (46, t46)]), a.defers⟩) h))) h
theorem v6_j9_eq (X : Caller) (L : Looper) (K : Value → AHeap → Prop) (h : AHeap) (a : AAct) : f6_j9 X L K h a = v6_j9 X L K h a := by
  unfold f6_j9 v6_j9
  simp only [rdK_rd', nilVK_eq, newVK_eq, boxVK_eq, pickVK_eq, extVK_eq, gF_rd, gF_some, gF_nil, gF_pick, gF_ext, bumpK_eq, regV_eq, ld1K_eq', ldNK_eq', binVK_eq', binCK_eq', binDK_eq', stVK_eq, fAddrK_eq', ixSK_eq', ixRK_eq', unVK_eq', opF_eq, v6_j10_eq]
def v6 (X : Caller) (L : Looper) (K : Value → AHeap → Prop) (h : AHeap) (t0 t1 t2 t3 t4 : Value) : Prop :=
 bumpK 1 h fun h =>
 bumpK 4 h fun h =>
 X (.call 12 [t0, t2]) (fun t15 h =>
 bumpK 2 h fun h =>
 binCK P .neq 24 24 t15 (.int .i64 0) h fun t17 =>
 condK t17
 (bumpK 2 h fun h =>
  K t15 h)
 (regV 3 h fun b h =>
 opF (builtinV P .len [34] [t3] (b + 1) h) fun t20 h =>
 binCK P .gtr 3 3 t20 (.int .i64 65536) h fun t21 =>
 condK t21
 (bumpK 1 h fun h =>
  K (.int .i64 5) h)
 (bumpK 4 h fun h =>
 X (.call 13 [t0, t1]) (fun t24 h =>
 bumpK 3 h fun h =>
 v6_j9 X L K h ⟨(upds (argsEnv [t0, t1, t2, t3, t4]) [(10, (.int .i64 0)), (13, t0), (14, t2), (15, t15), (11, t15), (16, t15), (17, t17), (19, t3), (20, t20), (21, t21), (22, t0), (23, t1), (24, t24), (1, t24), (25, t0), (26, t24)]), [((.func (.func 14) #[] #[]), [t0, t24])]⟩) h))) h
theorem v6_eq (X : Caller) (L : Looper) (K : Value → AHeap → Prop) (h : AHeap) (t0 t1 t2 t3 t4 : Value) : f6 X L K h t0 t1 t2 t3 t4 = v6 X L K h t0 t1 t2 t3 t4 := by
  unfold f6 v6
  simp only [rdK_rd', nilVK_eq, newVK_eq, boxVK_eq, pickVK_eq, extVK_eq, gF_rd, gF_some, gF_nil, gF_pick, gF_ext, bumpK_eq, regV_eq, ld1K_eq', ldNK_eq', binVK_eq', binCK_eq', binDK_eq', stVK_eq, fAddrK_eq', ixSK_eq', ixRK_eq', unVK_eq', opF_eq, v6_j10_eq, v6_j9_eq]
theorem w6_eq (X : Caller) (L : Looper) (K : Value → AHeap → Prop) (h : AHeap) (t0 t1 t2 t3 t4 : Value) : aJob P X L (.call 6 [t0, t1, t2, t3, t4]) K h = v6 X L K h t0 t1 t2 t3 t4 := (f6_eq X L K h t0 t1 t2 t3 t4).trans (v6_eq X L K h t0 t1 t2 t3 t4)
def v7_j16 (X : Caller) (L : Looper) (K : Value → AHeap → Prop) (h : AHeap) (a : AAct) : Prop :=
 bumpK 6 h fun h =>
 fAddrK 1 (a.env 13) fun t106 =>
 ld1K t106 h fun t107 =>
 X (.call 20 [t107]) (fun t108 h =>
 leaveA P X Tryz.f7 ⟨(upds a.env [(106, t106), (107, t107), (108, t108), (6, t108), (7, (.int .i64 2)), (8, (.int .i64 0))]), a.defers⟩ K a.defers h) h
theorem v7_j16_eq (X : Caller) (L : Looper) (K : Value → AHeap → Prop) (h : AHeap) (a : AAct) : f7_j16 X L K h a = v7_j16 X L K h a := by
  unfold f7_j16 v7_j16
  simp only [rdK_rd', nilVK_eq, newVK_eq, boxVK_eq, pickVK_eq, extVK_eq, gF_rd, gF_some, gF_nil, gF_pick, gF_ext, bumpK_eq, regV_eq, ld1K_eq', ldNK_eq', binVK_eq', binCK_eq', binDK_eq', stVK_eq, fAddrK_eq', ixSK_eq', ixRK_eq', unVK_eq', opF_eq]
def v7_j6 (X : Caller) (L : Looper) (K : Value → AHeap → Prop) (h : AHeap) (a : AAct) : Prop :=
 bumpK 15 h fun h =>
 nilVK (a.env 0) fun t32 =>
 fAddrK 2 t32 fun t33 =>
 ixRK 2 1 t33 (.int .i64 0) fun t34 =>
 ld1K t34 h fun t35 =>
 X (.call 17 [t35, (a.env 1), (a.env 2)]) (fun t38 h =>
 extVK 0 t38 fun t39 =>
 extVK 1 t38 fun t40 =>
 extVK 2 t38 fun t41 =>
 bumpK 1 h fun h =>
 condK t40
 (bumpK 4 h fun h =>
  leaveA P X Tryz.f7 ⟨(upds a.env [(31, (a.env 0)), (32, t32), (33, t33), (34, t34), (35, t35), (36, (a.env 1)), (37, (a.env 2)), (38, t38), (30, t38), (39, t39), (40, t40), (41, t41), (10, t39), (11, t40), (12, t41), (42, t40), (43, t39), (6, t39), (7, (.int .i64 1)), (8, (.int .i64 0))]), a.defers⟩ K a.defers h)
 (regV 16 h fun b h =>
 nilVK (a.env 0) fun t46 =>
 fAddrK 2 t46 fun t47 =>
 ixRK 2 1 t47 (.int .i64 1) fun t48 =>
 ld1K t48 h fun t49 =>
 X (.call 18 [t49, (a.env 1), (a.env 2)]) (fun t52 h =>
 extVK 0 t52 fun t53 =>
 extVK 1 t52 fun t54 =>
 extVK 2 t52 fun t55 =>
 newVK [.string ⟨#[]⟩, .slice none 0 0, .int .u64 0, .int .u64 0] (b + 12) h fun t13 h =>
 stVK 4 t13 t53 h fun h =>
 bumpK 2 h fun h =>
 unVK P .not 4 t54 fun t57 =>
 condK t57
 (bumpK 3 h fun h =>
  leaveA P X Tryz.f7 ⟨(upds a.env [(31, (a.env 0)), (32, t32), (33, t33), (34, t34), (35, t35), (36, (a.env 1)), (37, (a.env 2)), (38, t38), (30, t38), (39, t39), (40, t40), (41, t41), (10, t39), (11, t40), (12, t41), (42, t40), (45, (a.env 0)), (46, t46), (47, t47), (48, t48), (49, t49), (50, (a.env 1)), (51, (a.env 2)), (52, t52), (44, t52), (53, t53), (54, t54), (55, t55), (13, t13), (14, t54), (15, t55), (56, t54), (57, t57), (6, (.slice none 0 0)), (7, (.int .i64 0)), (8, (.int .i64 0))]), a.defers⟩ K a.defers h)
 (bumpK 12 h fun h =>
 nilVK (a.env 0) fun t59 =>
 fAddrK 2 t59 fun t60 =>
 ixRK 2 1 t60 (.int .i64 0) fun t61 =>
 ld1K t61 h fun t62 =>
 fAddrK 1 t13 fun t65 =>
 ld1K t65 h fun t66 =>
 fAddrK 2 t13 fun t67 =>
 ld1K t67 h fun t68 =>
 X (.call 19 [t62, (a.env 1), (a.env 2), t66, t68]) (fun t69 h =>
 regV 16 h fun b_1 h =>
 nilVK (a.env 0) fun t72 =>
 fAddrK 2 t72 fun t73 =>
 ixRK 2 1 t73 (.int .i64 0) fun t74 =>
 ld1K t74 h fun t75 =>
 X (.call 18 [t75, (a.env 1), (a.env 2)]) (fun t78 h =>
 extVK 0 t78 fun t79 =>
 extVK 1 t78 fun t80 =>
 extVK 2 t78 fun t81 =>
 newVK [.string ⟨#[]⟩, .slice none 0 0, .int .u64 0, .int .u64 0] (b_1 + 12) h fun t16 h =>
 stVK 4 t16 t79 h fun h =>
 bumpK 8 h fun h =>
 gF (wantV t80 true) (fun k => k ((a.env 0))) fun t84 =>
 gF (wantV t80 true) (nilVK t84) fun t85 =>
 gF (wantV t80 true) (fAddrK 0 t85) fun t86 =>
 gF (wantV t80 true) (fAddrK 0 t86) fun t87 =>
 gF (wantV t80 true) (ld1K t87 h) fun t88 =>
 pickVK t80 t88 (.bool false) fun t89 =>
 condK t89
 (bumpK 8 h fun h =>
  nilVK (a.env 0) fun t91 =>
  fAddrK 2 t91 fun t92 =>
  ixRK 2 1 t92 (.int .i64 1) fun t93 =>
  ld1K t93 h fun t94 =>
  X (.call 16 [t94, (a.env 1), (a.env 2)]) (fun t97 h =>
  v7_j16 X L K h ⟨(upds a.env [(31, (a.env 0)), (32, t32), (33, t33), (34, t34), (35, t35), (36, (a.env 1)), (37, (a.env 2)), (38, t38), (30, t38), (39, t39), (40, t40), (41, t41), (10, t39), (11, t40), (12, t41), (42, t40), (45, (a.env 0)), (46, t46), (47, t47), (48, t48), (49, t49), (50, (a.env 1)), (51, (a.env 2)), (52, t52), (44, t52), (53, t53), (54, t54), (55, t55), (13, t13), (14, t54), (15, t55), (56, t54), (57, t57), (58, (a.env 0)), (59, t59), (60, t60), (61, t61), (62, t62), (63, (a.env 1)), (64, (a.env 2)), (65, t65), (66, t66), (67, t67), (68, t68), (69, t69), (71, (a.env 0)), (72, t72), (73, t73), (74, t74), (75, t75), (76, (a.env 1)), (77, (a.env 2)), (78, t78), (70, t78), (79, t79), (80, t80), (81, t81), (16, t16), (17, t80), (18, t81), (82, t80), (83, t80), (84, t84), (85, t85), (86, t86), (87, t87), (88, t88), (89, t89), (90, (a.env 0)), (91, t91), (92, t92), (93, t93), (94, t94), (95, (a.env 1)), (96, (a.env 2)), (97, t97)]), a.defers⟩) h)
 (bumpK 8 h fun h =>
  nilVK (a.env 0) fun t99 =>
  fAddrK 2 t99 fun t100 =>
  ixRK 2 1 t100 (.int .i64 1) fun t101 =>
  ld1K t101 h fun t102 =>
  X (.call 17 [t102, (a.env 1), (a.env 2)]) (fun t105 h =>
  v7_j16 X L K h ⟨(upds a.env [(31, (a.env 0)), (32, t32), (33, t33), (34, t34), (35, t35), (36, (a.env 1)), (37, (a.env 2)), (38, t38), (30, t38), (39, t39), (40, t40), (41, t41), (10, t39), (11, t40), (12, t41), (42, t40), (45, (a.env 0)), (46, t46), (47, t47), (48, t48), (49, t49), (50, (a.env 1)), (51, (a.env 2)), (52, t52), (44, t52), (53, t53), (54, t54), (55, t55), (13, t13), (14, t54), (15, t55), (56, t54), (57, t57), (58, (a.env 0)), (59, t59), (60, t60), (61, t61), (62, t62), (63, (a.env 1)), (64, (a.env 2)), (65, t65), (66, t66), (67, t67), (68, t68), (69, t69), (71, (a.env 0)), (72, t72), (73, t73), (74, t74), (75, t75), (76, (a.env 1)), (77, (a.env 2)), (78, t78), (70, t78), (79, t79), (80, t80), (81, t81), (16, t16), (17, t80), (18, t81), (82, t80), (83, t80), (84, t84), (85, t85), (86, t86), (87, t87), (88, t88), (89, t89), (98, (a.env 0)), (99, t99), (100, t100), (101, t101), (102, t102), (103, (a.env 1)), (104, (a.env 2)), (105, t105)]), a.defers⟩) h)) h) h)) h)) h
theorem v7_j6_eq (X : Caller) (L : Looper) (K : Value → AHeap → Prop) (h : AHeap) (a : AAct) : f7_j6 X L K h a = v7_j6 X L K h a := by
  unfold f7_j6 v7_j6
  simp only [rdK_rd', nilVK_eq, newVK_eq, boxVK_eq, pickVK_eq, extVK_eq, gF_rd, gF_some, gF_nil, gF_pick, gF_ext, bumpK_eq, regV_eq, ld1K_eq', ldNK_eq', binVK_eq', binCK_eq', binDK_eq', stVK_eq, fAddrK_eq', ixSK_eq', ixRK_eq', unVK_eq', opF_eq, v7_j16_eq]
def v7 (X : Caller) (L : Looper) (K : Value → AHeap → Prop) (h : AHeap) (t0 t1 t2 : Value) : Prop :=
 bumpK 3 h fun h =>
 bumpK 4 h fun h =>
 X (.call 12 [t0, t2]) (fun t21 h =>
 bumpK 2 h fun h =>
 binCK P .neq 24 24 t21 (.int .i64 0) h fun t23 =>
 condK t23
 (bumpK 4 h fun h =>
  K (.tuple #[(.slice none 0 0), (.int .i64 0), t21]) h)
 (bumpK 4 h fun h =>
 X (.call 13 [t0, t1]) (fun t27 h =>
 bumpK 3 h fun h =>
 v7_j6 X L K h ⟨(upds (argsEnv [t0, t1, t2]) [(6, (.slice none 0 0)), (7, (.int .i64 0)), (8, (.int .i64 0)), (19, t0), (20, t2), (21, t21), (9, t21), (22, t21), (23, t23), (25, t0), (26, t1), (27, t27), (1, t27), (28, t0), (29, t27)]), [((.func (.func 14) #[] #[]), [t0, t27])]⟩) h)) h
theorem v7_eq (X : Caller) (L : Looper) (K : Value → AHeap → Prop) (h : AHeap) (t0 t1 t2 : Value) : f7 X L K h t0 t1 t2 = v7 X L K h t0 t1 t2 := by
  unfold f7 v7
  simp only [rdK_rd', nilVK_eq, newVK_eq, boxVK_eq, pickVK_eq, extVK_eq, gF_rd, gF_some, gF_nil, gF_pick, gF_ext, bumpK_eq, regV_eq, ld1K_eq', ldNK_eq', binVK_eq', binCK_eq', binDK_eq', stVK_eq, fAddrK_eq', ixSK_eq', ixRK_eq', unVK_eq', opF_eq, v7_j16_eq, v7_j6_eq]
theorem w7_eq (X : Caller) (L : Looper) (K : Value → AHeap → Prop) (h : AHeap) (t0 t1 t2 : Value) : aJob P X L (.call 7 [t0, t1, t2]) K h = v7 X L K h t0 t1 t2 := (f7_eq X L K h t0 t1 t2).trans (v7_eq X L K h t0 t1 t2)
def v8 (X : Caller) (L : Looper) (K : Value → AHeap → Prop) (h : AHeap) (t0 : Value) : Prop :=
 regV 2 h fun b h =>
 boxVK t0 (b + 0) h fun t1 h =>
 bumpK 9 h fun h =>
 rd' (buildA P 29 [(0, (.int .i64 1)), (1, (.int .i64 1000))]) fun t6 =>
 rd' (buildA P 29 [(0, (.int .i64 2)), (1, (.int .i64 1000))]) fun t7 =>
 ldNK 2 t1 h fun t8 =>
 X (.call 5 [t6, t7, t8]) (fun t9 h =>
 extVK 0 t9 fun t10 =>
 extVK 1 t9 fun t11 =>
 bumpK 2 h fun h =>
 binCK P .neq 24 24 t11 (.int .i64 0) h fun t13 =>
 condK t13
 (bumpK 1 h fun h =>
  K (.pointer none) h)
 (bumpK 2 h fun h =>
 K t10 h)) h
theorem v8_eq (X : Caller) (L : Looper) (K : Value → AHeap → Prop) (h : AHeap) (t0 : Value) : f8 X L K h t0 = v8 X L K h t0 := by
  unfold f8 v8
  simp only [rdK_rd', nilVK_eq, newVK_eq, boxVK_eq, pickVK_eq, extVK_eq, gF_rd, gF_some, gF_nil, gF_pick, gF_ext, bumpK_eq, regV_eq, ld1K_eq', ldNK_eq', binVK_eq', binCK_eq', binDK_eq', stVK_eq, fAddrK_eq', ixSK_eq', ixRK_eq', unVK_eq', opF_eq]
theorem w8_eq (X : Caller) (L : Looper) (K : Value → AHeap → Prop) (h : AHeap) (t0 : Value) : aJob P X L (.call 8 [t0]) K h = v8 X L K h t0 := (f8_eq X L K h t0).trans (v8_eq X L K h t0)
def v9 (X : Caller) (L : Looper) (K : Value → AHeap → Prop) (h : AHeap) (t0 t1 t2 t3 t4 : Value) : Prop :=
 bumpK 1 h fun h =>
 bumpK 11 h fun h =>
 X (.call 7 [t0, t1, t2]) (fun t18 h =>
 extVK 0 t18 fun t19 =>
 extVK 1 t18 fun t20 =>
 extVK 2 t18 fun t21 =>
 regV 14 h fun b h =>
 opF (convertA P 34 9 t19 (b + 1) h) fun t23 h =>
 binVK P .eql 9 9 t23 t3 h fun t25 =>
 gF (wantV t25 true) (fun k => k t20) fun t27 =>
 gF (wantV t25 true) (fun k => k t4) fun t28 =>
 gF (wantV t25 true) (binVK P .eql 35 35 t27 t28 h) fun t29 =>
 pickVK t25 t29 (.bool false) fun t30 =>
 gF (wantV t30 true) (fun k => k t21) fun t32 =>
 gF (wantV t30 true) (binCK P .eql 24 24 t32 (.int .i64 0) h) fun t33 =>
 pickVK t30 t33 (.bool false) fun t34 =>
 K t34 h) h
theorem v9_eq (X : Caller) (L : Looper) (K : Value → AHeap → Prop) (h : AHeap) (t0 t1 t2 t3 t4 : Value) : f9 X L K h t0 t1 t2 t3 t4 = v9 X L K h t0 t1 t2 t3 t4 := by
  unfold f9 v9
  simp only [rdK_rd', nilVK_eq, newVK_eq, boxVK_eq, pickVK_eq, extVK_eq, gF_rd, gF_some, gF_nil, gF_pick, gF_ext, bumpK_eq, regV_eq, ld1K_eq', ldNK_eq', binVK_eq', binCK_eq', binDK_eq', stVK_eq, fAddrK_eq', ixSK_eq', ixRK_eq', unVK_eq', opF_eq]
theorem w9_eq (X : Caller) (L : Looper) (K : Value → AHeap → Prop) (h : AHeap) (t0 t1 t2 t3 t4 : Value) : aJob P X L (.call 9 [t0, t1, t2, t3, t4]) K h = v9 X L K h t0 t1 t2 t3 t4 := (f9_eq X L K h t0 t1 t2 t3 t4).trans (v9_eq X L K h t0 t1 t2 t3 t4)
def v10 (X : Caller) (L : Looper) (K : Value → AHeap → Prop) (h : AHeap) (t0 t1 t2 t3 : Value) : Prop :=
 bumpK 1 h fun h =>
 bumpK 9 h fun h =>
 X (.call 21 [t0, t1, t2]) (fun t15 h =>
 extVK 0 t15 fun t16 =>
 extVK 1 t15 fun t17 =>
 bumpK 8 h fun h =>
 binVK P .eql 35 35 t16 t3 h fun t20 =>
 gF (wantV t20 true) (fun k => k t17) fun t22 =>
 gF (wantV t20 true) (binCK P .eql 24 24 t22 (.int .i64 0) h) fun t23 =>
 pickVK t20 t23 (.bool false) fun t24 =>
 K t24 h) h
theorem v10_eq (X : Caller) (L : Looper) (K : Value → AHeap → Prop) (h : AHeap) (t0 t1 t2 t3 : Value) : f10 X L K h t0 t1 t2 t3 = v10 X L K h t0 t1 t2 t3 := by
  unfold f10 v10
  simp only [rdK_rd', nilVK_eq, newVK_eq, boxVK_eq, pickVK_eq, extVK_eq, gF_rd, gF_some, gF_nil, gF_pick, gF_ext, bumpK_eq, regV_eq, ld1K_eq', ldNK_eq', binVK_eq', binCK_eq', binDK_eq', stVK_eq, fAddrK_eq', ixSK_eq', ixRK_eq', unVK_eq', opF_eq]
theorem w10_eq (X : Caller) (L : Looper) (K : Value → AHeap → Prop) (h : AHeap) (t0 t1 t2 t3 : Value) : aJob P X L (.call 10 [t0, t1, t2, t3]) K h = v10 X L K h t0 t1 t2 t3 := (f10_eq X L K h t0 t1 t2 t3).trans (v10_eq X L K h t0 t1 t2 t3)
def v11 (X : Caller) (L : Looper) (K : Value → AHeap → Prop) (h : AHeap) (t0 : Value) : Prop :=
 regV 3 h fun b h =>
 boxVK t0 (b + 0) h fun t1 h =>
 bumpK 3 h fun h =>
 ldNK 5 t1 h fun t5 =>
 X (.call 22 [t5]) (fun t6 h =>
 bumpK 2 h fun h =>
 binCK P .neq 24 24 t6 (.int .i64 0) h fun t8 =>
 condK t8
 (bumpK 3 h fun h =>
  K (.tuple #[(.pointer none), t6]) h)
 (bumpK 4 h fun h =>
 ldNK 5 t1 h fun t10 =>
 X (.call 23 [t10, (.int .u64 0), (.int .u64 0)]) (fun t11 h =>
 K (.tuple #[t11, (.int .i64 0)]) h) h)) h
theorem v11_eq (X : Caller) (L : Looper) (K : Value → AHeap → Prop) (h : AHeap) (t0 : Value) : f11 X L K h t0 = v11 X L K h t0 := by
  unfold f11 v11
  simp only [rdK_rd', nilVK_eq, newVK_eq, boxVK_eq, pickVK_eq, extVK_eq, gF_rd, gF_some, gF_nil, gF_pick, gF_ext, bumpK_eq, regV_eq, ld1K_eq', ldNK_eq', binVK_eq', binCK_eq', binDK_eq', stVK_eq, fAddrK_eq', ixSK_eq', ixRK_eq', unVK_eq', opF_eq]
theorem w11_eq (X : Caller) (L : Looper) (K : Value → AHeap → Prop) (h : AHeap) (t0 : Value) : aJob P X L (.call 11 [t0]) K h = v11 X L K h t0 := (f11_eq X L K h t0).trans (v11_eq X L K h t0)
def v12 (X : Caller) (L : Looper) (K : Value → AHeap → Prop) (h : AHeap) (t0 t1 : Value) : Prop :=
 bumpK 1 h fun h =>
 bumpK 3 h fun h =>
 X (.call 24 [t0]) (fun t7 h =>
 condK t7
 (bumpK 1 h fun h =>
  K (.int .i64 1) h)
 (bumpK 4 h fun h =>
  X (.call 25 [t1]) (fun t10 h =>
  unVK P .not 4 t10 fun t11 =>
  condK t11
  (bumpK 1 h fun h =>
   K (.int .i64 2) h)
  (bumpK 1 h fun h =>
 K (.int .i64 0) h)) h)) h
theorem v12_eq (X : Caller) (L : Looper) (K : Value → AHeap → Prop) (h : AHeap) (t0 t1 : Value) : f12 X L K h t0 t1 = v12 X L K h t0 t1 := by
  unfold f12 v12
  simp only [rdK_rd', nilVK_eq, newVK_eq, boxVK_eq, pickVK_eq, extVK_eq, gF_rd, gF_some, gF_nil, gF_pick, gF_ext, bumpK_eq, regV_eq, ld1K_eq', ldNK_eq', binVK_eq', binCK_eq', binDK_eq', stVK_eq, fAddrK_eq', ixSK_eq', ixRK_eq', unVK_eq', opF_eq]
theorem w12_eq (X : Caller) (L : Looper) (K : Value → AHeap → Prop) (h : AHeap) (t0 t1 : Value) : aJob P X L (.call 12 [t0, t1]) K h = v12 X L K h t0 t1 := (f12_eq X L K h t0 t1).trans (v12_eq X L K h t0 t1)
def v13_l3 (X : Caller) (L : Looper) (a : AAct) (K : ActPost) (h : AHeap) : Prop :=
 bumpK 1 h fun h =>
 binCK P .lss 3 3 (a.env 13) (.int .i64 2) h fun t14 =>
 condK t14
 (bumpK 2 h fun h =>
 rd' (indexA P 43 (a.env 12) (a.env 13)) fun t15 =>
 bumpK 5 h fun h =>
 X (.call 27 [t15]) (fun t17 h =>
 X (.call 26 [t17, (a.env 1)]) (fun t19 h =>
 bumpK 2 h fun h =>
 binCK P .add 3 3 (a.env 13) (.int .i64 1) h fun t20 =>
 K .normal ⟨(upds a.env [(14, t14), (15, t15), (6, t15), (16, t15), (17, t17), (18, (a.env 1)), (19, t19), (1, t19), (20, t20), (13, t20)]), a.defers⟩ h) h) h)
 (K (.exit 0) ⟨(upds a.env [(14, t14)]), a.defers⟩ h)
theorem v13_l3_eq (X : Caller) (L : Looper) (a : AAct) (K : ActPost) (h : AHeap) : f13_l3 X L a K h = v13_l3 X L a K h := by
  unfold f13_l3 v13_l3
  simp only [rdK_rd', nilVK_eq, newVK_eq, boxVK_eq, pickVK_eq, extVK_eq, gF_rd, gF_some, gF_nil, gF_pick, gF_ext, bumpK_eq, regV_eq, ld1K_eq', ldNK_eq', binVK_eq', binCK_eq', binDK_eq', stVK_eq, fAddrK_eq', ixSK_eq', ixRK_eq', unVK_eq', opF_eq]
theorem v13_l3_eq' (X : Caller) (L : Looper) : f13_l3 X L = v13_l3 X L := by
  funext a K h; exact v13_l3_eq X L a K h
def v13_l10 (X : Caller) (L : Looper) (a : AAct) (K : ActPost) (h : AHeap) : Prop :=
 bumpK 1 h fun h =>
 binCK P .lss 3 3 (a.env 25) (.int .i64 2) h fun t26 =>
 condK t26
 (bumpK 2 h fun h =>
 rd' (indexA P 43 (a.env 24) (a.env 25)) fun t27 =>
 bumpK 3 h fun h =>
 X (.call 28 [t27, (a.env 1)]) (fun t30 h =>
 bumpK 2 h fun h =>
 binCK P .add 3 3 (a.env 25) (.int .i64 1) h fun t31 =>
 K .normal ⟨(upds a.env [(26, t26), (27, t27), (8, t27), (28, t27), (29, (a.env 1)), (30, t30), (31, t31), (25, t31)]), a.defers⟩ h) h)
 (K (.exit 2) ⟨(upds a.env [(26, t26)]), a.defers⟩ h)
theorem v13_l10_eq (X : Caller) (L : Looper) (a : AAct) (K : ActPost) (h : AHeap) : f13_l10 X L a K h = v13_l10 X L a K h := by
  unfold f13_l10 v13_l10
  simp only [rdK_rd', nilVK_eq, newVK_eq, boxVK_eq, pickVK_eq, extVK_eq, gF_rd, gF_some, gF_nil, gF_pick, gF_ext, bumpK_eq, regV_eq, ld1K_eq', ldNK_eq', binVK_eq', binCK_eq', binDK_eq', stVK_eq, fAddrK_eq', ixSK_eq', ixRK_eq', unVK_eq', opF_eq, v13_l3_eq, v13_l3_eq']
theorem v13_l10_eq' (X : Caller) (L : Looper) : f13_l10 X L = v13_l10 X L := by
  funext a K h; exact v13_l10_eq X L a K h
def v13_j8 (X : Caller) (L : Looper) (K : Value → AHeap → Prop) (h : AHeap) (a : AAct) : Prop :=
 bumpK 2 h fun h =>
 leaveA P X Tryz.f13 ⟨(upds a.env [(32, (a.env 1)), (4, (a.env 1))]), a.defers⟩ K a.defers h
theorem v13_j8_eq (X : Caller) (L : Looper) (K : Value → AHeap → Prop) (h : AHeap) (a : AAct) : f13_j8 X L K h a = v13_j8 X L K h a := by
  unfold f13_j8 v13_j8
  simp only [rdK_rd', nilVK_eq, newVK_eq, boxVK_eq, pickVK_eq, extVK_eq, gF_rd, gF_some, gF_nil, gF_pick, gF_ext, bumpK_eq, regV_eq, ld1K_eq', ldNK_eq', binVK_eq', binCK_eq', binDK_eq', stVK_eq, fAddrK_eq', ixSK_eq', ixRK_eq', unVK_eq', opF_eq, v13_l3_eq, v13_l3_eq', v13_l10_eq, v13_l10_eq']
def v13_j1 (X : Caller) (L : Looper) (K : Value → AHeap → Prop) (h : AHeap) (a : AAct) : Prop :=
 bumpK 5 h fun h =>
 nilVK (a.env 0) fun t22 =>
 fAddrK 2 t22 fun t23 =>
 ldNK 2 t23 h fun t24 =>
 L (v13_l10 X L) ⟨(upds a.env [(21, (a.env 0)), (22, t22), (23, t23), (24, t24), (25, (.int .i64 0))]), a.defers⟩ (blkX 2 (seqX (fun a h => v13_j8 X L K h a) (finX P X Tryz.f13 K))) h
theorem v13_j1_eq (X : Caller) (L : Looper) (K : Value → AHeap → Prop) (h : AHeap) (a : AAct) : f13_j1 X L K h a = v13_j1 X L K h a := by
  unfold f13_j1 v13_j1
  simp only [rdK_rd', nilVK_eq, newVK_eq, boxVK_eq, pickVK_eq, extVK_eq, gF_rd, gF_some, gF_nil, gF_pick, gF_ext, bumpK_eq, regV_eq, ld1K_eq', ldNK_eq', binVK_eq', binCK_eq', binDK_eq', stVK_eq, fAddrK_eq', ixSK_eq', ixRK_eq', unVK_eq', opF_eq, v13_l3_eq, v13_l3_eq', v13_l10_eq, v13_l10_eq', v13_j8_eq]
def v13 (X : Caller) (L : Looper) (K : Value → AHeap → Prop) (h : AHeap) (t0 t1 : Value) : Prop :=
 bumpK 1 h fun h =>
 bumpK 5 h fun h =>
 nilVK t0 fun t10 =>
 fAddrK 2 t10 fun t11 =>
 ldNK 2 t11 h fun t12 =>
 L (v13_l3 X L) ⟨(upds (argsEnv [t0, t1]) [(4, (.int .u64 0)), (9, t0), (10, t10), (11, t11), (12, t12), (13, (.int .i64 0))]), []⟩ (blkX 0 (seqX (fun a h => v13_j1 X L K h a) (finX P X Tryz.f13 K))) h
theorem v13_eq (X : Caller) (L : Looper) (K : Value → AHeap → Prop) (h : AHeap) (t0 t1 : Value) : f13 X L K h t0 t1 = v13 X L K h t0 t1 := by
  unfold f13 v13
  simp only [rdK_rd', nilVK_eq, newVK_eq, boxVK_eq, pickVK_eq, extVK_eq, gF_rd, gF_some, gF_nil, gF_pick, gF_ext, bumpK_eq, regV_eq, ld1K_eq', ldNK_eq', binVK_eq', binCK_eq', binDK_eq', stVK_eq, fAddrK_eq', ixSK_eq', ixRK_eq', unVK_eq', opF_eq, v13_l3_eq, v13_l3_eq', v13_l10_eq, v13_l10_eq', v13_j8_eq, v13_j1_eq]
theorem w13_eq (X : Caller) (L : Looper) (K : Value → AHeap → Prop) (h : AHeap) (t0 t1 : Value) : aJob P X L (.call 13 [t0, t1]) K h = v13 X L K h t0 t1 := (f13_eq X L K h t0 t1).trans (v13_eq X L K h t0 t1)
def v14_j6 (X : Caller) (L : Looper) (K : ActPost) (h : AHeap) (a : AAct) : Prop :=
 bumpK 2 h fun h =>
 binCK P .add 3 3 (a.env 15) (.int .i64 1) h fun t42 =>
 K .normal ⟨(upds a.env [(42, t42), (15, t42)]), a.defers⟩ h
theorem v14_j6_eq (X : Caller) (L : Looper) (K : ActPost) (h : AHeap) (a : AAct) : f14_j6 X L K h a = v14_j6 X L K h a := by
  unfold f14_j6 v14_j6
  simp only [rdK_rd', nilVK_eq, newVK_eq, boxVK_eq, pickVK_eq, extVK_eq, gF_rd, gF_some, gF_nil, gF_pick, gF_ext, bumpK_eq, regV_eq, ld1K_eq', ldNK_eq', binVK_eq', binCK_eq', binDK_eq', stVK_eq, fAddrK_eq', ixSK_eq', ixRK_eq', unVK_eq', opF_eq]
def v14_l3 (X : Caller) (L : Looper) (a : AAct) (K : ActPost) (h : AHeap) : Prop :=
 bumpK 1 h fun h =>
 binVK P .lss 3 3 (a.env 15) (a.env 14) h fun t16 =>
 condK t16
 (regV 4 h fun b_1 h =>
 ixSK 6 (a.env 13) (a.env 15) fun t17 =>
 ldNK 6 t17 h fun t18 =>
 newVK [.int .i64 0, .string ⟨#[]⟩, .slice none 0 0, .int .u64 0, .int .u64 0, .int .u64 0] (b_1 + 2) h fun t6 h =>
 stVK 6 t6 t18 h fun h =>
 bumpK 10 h fun h =>
 fAddrK 0 t6 fun t19 =>
 ld1K t19 h fun t20 =>
 binCK P .eql 73 73 t20 (.int .i64 2) h fun t21 =>
 gF (wantV t21 true) (fun k => k ((a.env 0))) fun t23 =>
 gF (wantV t21 true) (nilVK t23) fun t24 =>
 gF (wantV t21 true) (fAddrK 0 t24) fun t25 =>
 gF (wantV t21 true) (fAddrK 1 t25) fun t26 =>
 gF (wantV t21 true) (ld1K t26 h) fun t27 =>
 pickVK t21 t27 (.bool false) fun t28 =>
 condK t28
 (bumpK 13 h fun h =>
  nilVK (a.env 0) fun t30 =>
  fAddrK 2 t30 fun t31 =>
  ixRK 2 1 t31 (.int .i64 1) fun t32 =>
  ld1K t32 h fun t33 =>
  fAddrK 1 t6 fun t35 =>
  ld1K t35 h fun t36 =>
  fAddrK 2 t6 fun t37 =>
  ld1K t37 h fun t38 =>
  fAddrK 4 t6 fun t39 =>
  ld1K t39 h fun t40 =>
  X (.call 19 [t33, (a.env 1), t36, t38, t40]) (fun t41 h =>
  v14_j6 X L K h ⟨(upds a.env [(16, t16), (17, t17), (18, t18), (6, t6), (19, t19), (20, t20), (21, t21), (22, t21), (23, t23), (24, t24), (25, t25), (26, t26), (27, t27), (28, t28), (29, (a.env 0)), (30, t30), (31, t31), (32, t32), (33, t33), (34, (a.env 1)), (35, t35), (36, t36), (37, t37), (38, t38), (39, t39), (40, t40), (41, t41)]), a.defers⟩) h)
 (v14_j6 X L K h ⟨(upds a.env [(16, t16), (17, t17), (18, t18), (6, t6), (19, t19), (20, t20), (21, t21), (22, t21), (23, t23), (24, t24), (25, t25), (26, t26), (27, t27), (28, t28)]), a.defers⟩))
 (K (.exit 0) ⟨(upds a.env [(16, t16)]), a.defers⟩ h)
theorem v14_l3_eq (X : Caller) (L : Looper) (a : AAct) (K : ActPost) (h : AHeap) : f14_l3 X L a K h = v14_l3 X L a K h := by
  unfold f14_l3 v14_l3
  simp only [rdK_rd', nilVK_eq, newVK_eq, boxVK_eq, pickVK_eq, extVK_eq, gF_rd, gF_some, gF_nil, gF_pick, gF_ext, bumpK_eq, regV_eq, ld1K_eq', ldNK_eq', binVK_eq', binCK_eq', binDK_eq', stVK_eq, fAddrK_eq', ixSK_eq', ixRK_eq', unVK_eq', opF_eq, v14_j6_eq]
theorem v14_l3_eq' (X : Caller) (L : Looper) : f14_l3 X L = v14_l3 X L := by
  funext a K h; exact v14_l3_eq X L a K h
def v14_j1 (X : Caller) (L : Looper) (K : Value → AHeap → Prop) (h : AHeap) (a : AAct) : Prop :=
 regV 17 h fun b_2 h =>
 nilVK (a.env 0) fun t45 =>
 fAddrK 4 t45 fun t46 =>
 ld1K t46 h fun t47 =>
 nilVK (a.env 0) fun t51 =>
 fAddrK 2 t51 fun t52 =>
 ixRK 2 1 t52 (.int .i64 1) fun t53 =>
 ld1K t53 h fun t54 =>
 opF (builtinV P .append [44, 44] [t47, (a.env 4)] (b_2 + 6) h) fun t49 h =>
 chkK (chkR ((ld1 t53 h).map (·, h)) t54 true) <|
 X (.call 29 [t54]) (fun t55 h =>
 opF (builtinV P .append [44, 44] [t49, t55] (b_2 + 13) h) fun t56 h =>
 nilVK (a.env 0) fun t57 =>
 fAddrK 4 t57 fun t58 =>
 stVK 1 t58 t56 h fun h =>
 leaveA P X Tryz.f14 ⟨(upds a.env [(43, (a.env 0)), (44, (a.env 0)), (45, t45), (46, t46), (47, t47), (48, (a.env 4)), (50, (a.env 0)), (51, t51), (52, t52), (53, t53), (54, t54), (49, t49), (55, t55), (56, t56), (57, t57), (58, t58)]), a.defers⟩ K a.defers h) h
theorem v14_j1_eq (X : Caller) (L : Looper) (K : Value → AHeap → Prop) (h : AHeap) (a : AAct) : f14_j1 X L K h a = v14_j1 X L K h a := by
  unfold f14_j1 v14_j1
  simp only [rdK_rd', nilVK_eq, newVK_eq, boxVK_eq, pickVK_eq, extVK_eq, gF_rd, gF_some, gF_nil, gF_pick, gF_ext, bumpK_eq, regV_eq, ld1K_eq', ldNK_eq', binVK_eq', binCK_eq', binDK_eq', stVK_eq, fAddrK_eq', ixSK_eq', ixRK_eq', unVK_eq', opF_eq, v14_j6_eq, v14_l3_eq, v14_l3_eq']
def v14 (X : Caller) (L : Looper) (K : Value → AHeap → Prop) (h : AHeap) (t0 t1 : Value) : Prop :=
 bumpK 7 h fun h =>
 nilVK t0 fun t8 =>
 fAddrK 2 t8 fun t9 =>
 ixRK 2 1 t9 (.int .i64 0) fun t10 =>
 ld1K t10 h fun t11 =>
 X (.call 29 [t11]) (fun t12 h =>
 regV 3 h fun b h =>
 opF (builtinV P .len [44] [t12] (b + 1) h) fun t14 h =>
 L (v14_l3 X L) ⟨(upds (argsEnv [t0, t1]) [(7, t0), (8, t8), (9, t9), (10, t10), (11, t11), (12, t12), (4, t12), (13, t12), (14, t14), (15, (.int .i64 0))]), []⟩ (blkX 0 (seqX (fun a h => v14_j1 X L K h a) (finX P X Tryz.f14 K))) h) h
theorem v14_eq (X : Caller) (L : Looper) (K : Value → AHeap → Prop) (h : AHeap) (t0 t1 : Value) : f14 X L K h t0 t1 = v14 X L K h t0 t1 := by
  unfold f14 v14
  simp only [rdK_rd', nilVK_eq, newVK_eq, boxVK_eq, pickVK_eq, extVK_eq, gF_rd, gF_some, gF_nil, gF_pick, gF_ext, bumpK_eq, regV_eq, ld1K_eq', ldNK_eq', binVK_eq', binCK_eq', binDK_eq', stVK_eq, fAddrK_eq', ixSK_eq', ixRK_eq', unVK_eq', opF_eq, v14_j6_eq, v14_l3_eq, v14_l3_eq', v14_j1_eq]
theorem w14_eq (X : Caller) (L : Looper) (K : Value → AHeap → Prop) (h : AHeap) (t0 t1 : Value) : aJob P X L (.call 14 [t0, t1]) K h = v14 X L K h t0 t1 := (f14_eq X L K h t0 t1).trans (v14_eq X L K h t0 t1)
def v15_j3 (X : Caller) (L : Looper) (K : Value → AHeap → Prop) (h : AHeap) (t10 t30 : Value) : Prop :=
 bumpK 2 h fun h =>
 K t10 h
theorem v15_j3_eq (X : Caller) (L : Looper) (K : Value → AHeap → Prop) (h : AHeap) (t10 t30 : Value) : f15_j3 X L K h t10 t30 = v15_j3 X L K h t10 t30 := by
  unfold f15_j3 v15_j3
  simp only [rdK_rd', nilVK_eq, newVK_eq, boxVK_eq, pickVK_eq, extVK_eq, gF_rd, gF_some, gF_nil, gF_pick, gF_ext, bumpK_eq, regV_eq, ld1K_eq', ldNK_eq', binVK_eq', binCK_eq', binDK_eq', stVK_eq, fAddrK_eq', ixSK_eq', ixRK_eq', unVK_eq', opF_eq]
def v15_j1 (X : Caller) (L : Looper) (K : Value → AHeap → Prop) (h : AHeap) (t10 t24 t25 t0 t1 t2 t26 t27 t28 t30 : Value) : Prop :=
 bumpK 2 h fun h =>
 binCK P .eql 24 24 t10 (.int .i64 12) h fun t25_1 =>
 condK t25_1
 (bumpK 4 h fun h =>
  X (.call 16 [t0, t1, t2]) (fun t29 h =>
  v15_j3 X L K h t10 t30) h)
 (v15_j3 X L K h t10 t30)
theorem v15_j1_eq (X : Caller) (L : Looper) (K : Value → AHeap → Prop) (h : AHeap) (t10 t24 t25 t0 t1 t2 t26 t27 t28 t30 : Value) : f15_j1 X L K h t10 t24 t25 t0 t1 t2 t26 t27 t28 t30 = v15_j1 X L K h t10 t24 t25 t0 t1 t2 t26 t27 t28 t30 := by
  unfold f15_j1 v15_j1
  simp only [rdK_rd', nilVK_eq, newVK_eq, boxVK_eq, pickVK_eq, extVK_eq, gF_rd, gF_some, gF_nil, gF_pick, gF_ext, bumpK_eq, regV_eq, ld1K_eq', ldNK_eq', binVK_eq', binCK_eq', binDK_eq', stVK_eq, fAddrK_eq', ixSK_eq', ixRK_eq', unVK_eq', opF_eq, v15_j3_eq]
def v15 (X : Caller) (L : Looper) (K : Value → AHeap → Prop) (h : AHeap) (t0 t1 t2 t3 t4 : Value) : Prop :=
 bumpK 1 h fun h =>
 bumpK 2 h fun h =>
 binCK P .eql 33 33 t4 (.int .u64 0) h fun t12 =>
 condK t12
 (bumpK 6 h fun h =>
  X (.call 30 [t0, t1, t2, t3]) (fun t17 h =>
  v15_j1 X L K h t17 undef undef t0 t1 t2 undef undef undef undef) h)
 (bumpK 7 h fun h =>
  X (.call 31 [t0, t1, t2, t3, t4]) (fun t23 h =>
  v15_j1 X L K h t23 undef undef t0 t1 t2 undef undef undef undef) h)
theorem v15_eq (X : Caller) (L : Looper) (K : Value → AHeap → Prop) (h : AHeap) (t0 t1 t2 t3 t4 : Value) : f15 X L K h t0 t1 t2 t3 t4 = v15 X L K h t0 t1 t2 t3 t4 := by
  unfold f15 v15
  simp only [rdK_rd', nilVK_eq, newVK_eq, boxVK_eq, pickVK_eq, extVK_eq, gF_rd, gF_some, gF_nil, gF_pick, gF_ext, bumpK_eq, regV_eq, ld1K_eq', ldNK_eq', binVK_eq', binCK_eq', binDK_eq', stVK_eq, fAddrK_eq', ixSK_eq', ixRK_eq', unVK_eq', opF_eq, v15_j3_eq, v15_j1_eq]
theorem w15_eq (X : Caller) (L : Looper) (K : Value → AHeap → Prop) (h : AHeap) (t0 t1 t2 t3 t4 : Value) : aJob P X L (.call 15 [t0, t1, t2, t3, t4]) K h = v15 X L K h t0 t1 t2 t3 t4 := (f15_eq X L K h t0 t1 t2 t3 t4).trans (v15_eq X L K h t0 t1 t2 t3 t4)
def v16 (X : Caller) (L : Looper) (K : Value → AHeap → Prop) (h : AHeap) (t0 t1 t2 : Value) : Prop :=
 bumpK 2 h fun h =>
 regV 6 h fun b h =>
 X (.call 33 [t2]) (fun t11 h =>
 opF (bsliceV P 121 1 [(0, t11)] (b + 3) h) fun t12 h =>
 X (.call 32 [t0, t12]) (fun t13 h =>
 bumpK 2 h fun h =>
 binCK P .neq 24 24 t13 (.int .i64 0) h fun t15 =>
 condK t15
 (bumpK 3 h fun h =>
  K (.tuple #[(.bool false), t13]) h)
 (bumpK 8 h fun h =>
 X (.call 35 [t0, (.int .i64 4)]) (fun t21 h =>
 X (.call 34 [t0, t1, t2, t21]) (fun t22 h =>
 K (.tuple #[t22, (.int .i64 0)]) h) h) h)) h) h
theorem v16_eq (X : Caller) (L : Looper) (K : Value → AHeap → Prop) (h : AHeap) (t0 t1 t2 : Value) : f16 X L K h t0 t1 t2 = v16 X L K h t0 t1 t2 := by
  unfold f16 v16
  simp only [rdK_rd', nilVK_eq, newVK_eq, boxVK_eq, pickVK_eq, extVK_eq, gF_rd, gF_some, gF_nil, gF_pick, gF_ext, bumpK_eq, regV_eq, ld1K_eq', ldNK_eq', binVK_eq', binCK_eq', binDK_eq', stVK_eq, fAddrK_eq', ixSK_eq', ixRK_eq', unVK_eq', opF_eq]
theorem w16_eq (X : Caller) (L : Looper) (K : Value → AHeap → Prop) (h : AHeap) (t0 t1 t2 : Value) : aJob P X L (.call 16 [t0, t1, t2]) K h = v16 X L K h t0 t1 t2 := (f16_eq X L K h t0 t1 t2).trans (v16_eq X L K h t0 t1 t2)
def v17 (X : Caller) (L : Looper) (K : Value → AHeap → Prop) (h : AHeap) (t0 t1 t2 : Value) : Prop :=
 regV 4 h fun b h =>
 boxVK t0 (b + 0) h fun t3 h =>
 regV 6 h fun b_1 h =>
 ld1K t3 h fun t12 =>
 X (.call 33 [t2]) (fun t14 h =>
 chkK (chkR ((ld1 t3 h).map (·, h)) t12 true) <|
 opF (bsliceV P 121 1 [(0, t14)] (b_1 + 3) h) fun t15 h =>
 X (.call 32 [t12, t15]) (fun t16 h =>
 bumpK 2 h fun h =>
 binCK P .neq 24 24 t16 (.int .i64 0) h fun t18 =>
 condK t18
 (bumpK 4 h fun h =>
  K (.tuple #[(.slice none 0 0), (.bool false), t16]) h)
 (regV 1 h fun b_2 h =>
 newVK [.string ⟨#[]⟩, .slice none 0 0, .int .u64 0, .int .u64 0] (b_2 + 0) h fun t10 h =>
 bumpK 6 h fun h =>
 ld1K t3 h fun t20 =>
 X (.call 34 [t20, t1, t2, (.func (.func 36) #[] #[t3, t10])]) (fun t24 h =>
 bumpK 6 h fun h =>
 fAddrK 1 t10 fun t25 =>
 ld1K t25 h fun t26 =>
 K (.tuple #[t26, t24, (.int .i64 0)]) h) h)) h) h
theorem v17_eq (X : Caller) (L : Looper) (K : Value → AHeap → Prop) (h : AHeap) (t0 t1 t2 : Value) : f17 X L K h t0 t1 t2 = v17 X L K h t0 t1 t2 := by
  unfold f17 v17
  simp only [rdK_rd', nilVK_eq, newVK_eq, boxVK_eq, pickVK_eq, extVK_eq, gF_rd, gF_some, gF_nil, gF_pick, gF_ext, bumpK_eq, regV_eq, ld1K_eq', ldNK_eq', binVK_eq', binCK_eq', binDK_eq', stVK_eq, fAddrK_eq', ixSK_eq', ixRK_eq', unVK_eq', opF_eq]
theorem w17_eq (X : Caller) (L : Looper) (K : Value → AHeap → Prop) (h : AHeap) (t0 t1 t2 : Value) : aJob P X L (.call 17 [t0, t1, t2]) K h = v17 X L K h t0 t1 t2 := (f17_eq X L K h t0 t1 t2).trans (v17_eq X L K h t0 t1 t2)
def v18 (X : Caller) (L : Looper) (K : Value → AHeap → Prop) (h : AHeap) (t0 t1 t2 : Value) : Prop :=
 regV 4 h fun b h =>
 boxVK t0 (b + 0) h fun t3 h =>
 newVK [.string ⟨#[]⟩, .slice none 0 0, .int .u64 0, .int .u64 0] (b + 1) h fun t6 h =>
 regV 6 h fun b_1 h =>
 ld1K t3 h fun t12 =>
 X (.call 33 [t2]) (fun t14 h =>
 chkK (chkR ((ld1 t3 h).map (·, h)) t12 true) <|
 opF (bsliceV P 121 1 [(0, t14)] (b_1 + 3) h) fun t15 h =>
 X (.call 32 [t12, t15]) (fun t16 h =>
 bumpK 2 h fun h =>
 binCK P .neq 24 24 t16 (.int .i64 0) h fun t18 =>
 condK t18
 (bumpK 5 h fun h =>
  rd' (buildA P 59 []) fun t19 =>
  stVK 4 t6 t19 h fun h =>
  retK (consR (ldN 4 t6 h) (consR (some (.bool false)) (consR (some t16) (some [])))) K h)
 (regV 1 h fun b_2 h =>
 newVK [.string ⟨#[]⟩, .slice none 0 0, .int .u64 0, .int .u64 0] (b_2 + 0) h fun t10 h =>
 bumpK 6 h fun h =>
 ld1K t3 h fun t21 =>
 X (.call 34 [t21, t1, t2, (.func (.func 40) #[] #[t3, t10])]) (fun t25 h =>
 bumpK 5 h fun h =>
 ldNK 4 t10 h fun t26 =>
 stVK 4 t6 t26 h fun h =>
 retK (consR (ldN 4 t6 h) (consR (some t25) (consR (some (.int .i64 0)) (some [])))) K h) h)) h) h
theorem v18_eq (X : Caller) (L : Looper) (K : Value → AHeap → Prop) (h : AHeap) (t0 t1 t2 : Value) : f18 X L K h t0 t1 t2 = v18 X L K h t0 t1 t2 := by
  unfold f18 v18
  simp only [rdK_rd', nilVK_eq, newVK_eq, boxVK_eq, pickVK_eq, extVK_eq, gF_rd, gF_some, gF_nil, gF_pick, gF_ext, bumpK_eq, regV_eq, ld1K_eq', ldNK_eq', binVK_eq', binCK_eq', binDK_eq', stVK_eq, fAddrK_eq', ixSK_eq', ixRK_eq', unVK_eq', opF_eq]
theorem w18_eq (X : Caller) (L : Looper) (K : Value → AHeap → Prop) (h : AHeap) (t0 t1 t2 : Value) : aJob P X L (.call 18 [t0, t1, t2]) K h = v18 X L K h t0 t1 t2 := (f18_eq X L K h t0 t1 t2).trans (v18_eq X L K h t0 t1 t2)
def v19 (X : Caller) (L : Looper) (K : Value → AHeap → Prop) (h : AHeap) (t0 t1 t2 t3 t4 : Value) : Prop :=
 bumpK 3 h fun h =>
 binCK P .eql 33 33 t4 (.int .u64 18446744073709551615) h fun t12 =>
 condK t12
 (bumpK 5 h fun h =>
  X (.call 30 [t0, t1, t2, t3]) (fun t17 h =>
  K (.tuple #[]) h) h)
 (bumpK 5 h fun h =>
  X (.call 41 [t4, t1]) (fun t21 h =>
  unVK P .not 4 t21 fun t22 =>
  condK t22
  (bumpK 8 h fun h =>
   X (.call 42 [t4, t1]) (fun t29 h =>
   X (.call 31 [t0, t1, t2, t3, t29]) (fun t30 h =>
   K (.tuple #[]) h) h) h)
  (K (.tuple #[]) h)) h)
theorem v19_eq (X : Caller) (L : Looper) (K : Value → AHeap → Prop) (h : AHeap) (t0 t1 t2 t3 t4 : Value) : f19 X L K h t0 t1 t2 t3 t4 = v19 X L K h t0 t1 t2 t3 t4 := by
  unfold f19 v19
  simp only [rdK_rd', nilVK_eq, newVK_eq, boxVK_eq, pickVK_eq, extVK_eq, gF_rd, gF_some, gF_nil, gF_pick, gF_ext, bumpK_eq, regV_eq, ld1K_eq', ldNK_eq', binVK_eq', binCK_eq', binDK_eq', stVK_eq, fAddrK_eq', ixSK_eq', ixRK_eq', unVK_eq', opF_eq]
theorem w19_eq (X : Caller) (L : Looper) (K : Value → AHeap → Prop) (h : AHeap) (t0 t1 t2 t3 t4 : Value) : aJob P X L (.call 19 [t0, t1, t2, t3, t4]) K h = v19 X L K h t0 t1 t2 t3 t4 := (f19_eq X L K h t0 t1 t2 t3 t4).trans (v19_eq X L K h t0 t1 t2 t3 t4)
def v20 (X : Caller) (L : Looper) (K : Value → AHeap → Prop) (h : AHeap) (t0 : Value) : Prop :=
 bumpK 1 h fun h =>
 bumpK 2 h fun h =>
 binCK P .eql 34 34 t0 (.slice none 0 0) h fun t4 =>
 condK t4
 (bumpK 1 h fun h =>
  K (.slice none 0 0) h)
 (regV 4 h fun b h =>
 opF (bsliceV P 34 0 [] (b + 0) h) fun t5 h =>
 opF (builtinV P .append [34, 34] [t5, t0] (b + 2) h) fun t7 h =>
 K t7 h)
theorem v20_eq (X : Caller) (L : Looper) (K : Value → AHeap → Prop) (h : AHeap) (t0 : Value) : f20 X L K h t0 = v20 X L K h t0 := by
  unfold f20 v20
  simp only [rdK_rd', nilVK_eq, newVK_eq, boxVK_eq, pickVK_eq, extVK_eq, gF_rd, gF_some, gF_nil, gF_pick, gF_ext, bumpK_eq, regV_eq, ld1K_eq', ldNK_eq', binVK_eq', binCK_eq', binDK_eq', stVK_eq, fAddrK_eq', ixSK_eq', ixRK_eq', unVK_eq', opF_eq]
theorem w20_eq (X : Caller) (L : Looper) (K : Value → AHeap → Prop) (h : AHeap) (t0 : Value) : aJob P X L (.call 20 [t0]) K h = v20 X L K h t0 := (f20_eq X L K h t0).trans (v20_eq X L K h t0)
def v21_j12 (X : Caller) (L : Looper) (K : ActPost) (h : AHeap) (a : AAct) : Prop :=
 bumpK 2 h fun h =>
 binCK P .add 3 3 (a.env 28) (.int .i64 1) h fun t46 =>
 K .normal ⟨(upds a.env [(46, t46), (28, t46)]), a.defers⟩ h
theorem v21_j12_eq (X : Caller) (L : Looper) (K : ActPost) (h : AHeap) (a : AAct) : f21_j12 X L K h a = v21_j12 X L K h a := by
  unfold f21_j12 v21_j12
  simp only [rdK_rd', nilVK_eq, newVK_eq, boxVK_eq, pickVK_eq, extVK_eq, gF_rd, gF_some, gF_nil, gF_pick, gF_ext, bumpK_eq, regV_eq, ld1K_eq', ldNK_eq', binVK_eq', binCK_eq', binDK_eq', stVK_eq, fAddrK_eq', ixSK_eq', ixRK_eq', unVK_eq', opF_eq]
def v21_l9 (X : Caller) (L : Looper) (a : AAct) (K : ActPost) (h : AHeap) : Prop :=
 bumpK 1 h fun h =>
 binCK P .lss 3 3 (a.env 28) (.int .i64 2) h fun t29 =>
 condK t29
 (bumpK 4 h fun h =>
 rd' (indexA P 43 (a.env 27) (a.env 28)) fun t31 =>
 bumpK 9 h fun h =>
 X (.call 16 [t31, (a.env 1), (a.env 2)]) (fun t36 h =>
 extVK 0 t36 fun t37 =>
 extVK 1 t36 fun t38 =>
 bumpK 5 h fun h =>
 gF (wantV t37 true) (fun k => k ((a.env 6))) fun t41 =>
 gF (wantV t37 true) (binCK P .eql 35 35 t41 (.int .i64 0) h) fun t42 =>
 pickVK t37 t42 (.bool false) fun t43 =>
 condK t43
 (bumpK 3 h fun h =>
  binCK P .add 3 3 (a.env 28) (.int .i64 1) h fun t45 =>
  v21_j12 X L K h ⟨(upds a.env [(29, t29), (30, (a.env 28)), (31, t31), (9, (a.env 28)), (10, t31), (33, t31), (34, (a.env 1)), (35, (a.env 2)), (36, t36), (32, t36), (37, t37), (38, t38), (11, t37), (12, t38), (39, t37), (40, t37), (41, t41), (42, t42), (43, t43), (44, (a.env 28)), (45, t45), (6, t45)]), a.defers⟩)
 (v21_j12 X L K h ⟨(upds a.env [(29, t29), (30, (a.env 28)), (31, t31), (9, (a.env 28)), (10, t31), (33, t31), (34, (a.env 1)), (35, (a.env 2)), (36, t36), (32, t36), (37, t37), (38, t38), (11, t37), (12, t38), (39, t37), (40, t37), (41, t41), (42, t42), (43, t43)]), a.defers⟩)) h)
 (K (.exit 0) ⟨(upds a.env [(29, t29)]), a.defers⟩ h)
theorem v21_l9_eq (X : Caller) (L : Looper) (a : AAct) (K : ActPost) (h : AHeap) : f21_l9 X L a K h = v21_l9 X L a K h := by
  unfold f21_l9 v21_l9
  simp only [rdK_rd', nilVK_eq, newVK_eq, boxVK_eq, pickVK_eq, extVK_eq, gF_rd, gF_some, gF_nil, gF_pick, gF_ext, bumpK_eq, regV_eq, ld1K_eq', ldNK_eq', binVK_eq', binCK_eq', binDK_eq', stVK_eq, fAddrK_eq', ixSK_eq', ixRK_eq', unVK_eq', opF_eq, v21_j12_eq]
theorem v21_l9_eq' (X : Caller) (L : Looper) : f21_l9 X L = v21_l9 X L := by
  funext a K h; exact v21_l9_eq X L a K h
def v21_j7 (X : Caller) (L : Looper) (K : Value → AHeap → Prop) (h : AHeap) (a : AAct) : Prop :=
 bumpK 3 h fun h =>
 leaveA P X Tryz.f21 ⟨(upds a.env [(47, (a.env 6)), (6, (a.env 6)), (7, (.int .i64 0))]), a.defers⟩ K a.defers h
theorem v21_j7_eq (X : Caller) (L : Looper) (K : Value → AHeap → Prop) (h : AHeap) (a : AAct) : f21_j7 X L K h a = v21_j7 X L K h a := by
  unfold f21_j7 v21_j7
  simp only [rdK_rd', nilVK_eq, newVK_eq, boxVK_eq, pickVK_eq, extVK_eq, gF_rd, gF_some, gF_nil, gF_pick, gF_ext, bumpK_eq, regV_eq, ld1K_eq', ldNK_eq', binVK_eq', binCK_eq', binDK_eq', stVK_eq, fAddrK_eq', ixSK_eq', ixRK_eq', unVK_eq', opF_eq, v21_j12_eq, v21_l9_eq, v21_l9_eq']
def v21_j6 (X : Caller) (L : Looper) (K : Value → AHeap → Prop) (h : AHeap) (a : AAct) : Prop :=
 bumpK 5 h fun h =>
 nilVK (a.env 0) fun t25 =>
 fAddrK 2 t25 fun t26 =>
 ldNK 2 t26 h fun t27 =>
 L (v21_l9 X L) ⟨(upds a.env [(24, (a.env 0)), (25, t25), (26, t26), (27, t27), (28, (.int .i64 0))]), a.defers⟩ (blkX 0 (seqX (fun a h => v21_j7 X L K h a) (finX P X Tryz.f21 K))) h
theorem v21_j6_eq (X : Caller) (L : Looper) (K : Value → AHeap → Prop) (h : AHeap) (a : AAct) : f21_j6 X L K h a = v21_j6 X L K h a := by
  unfold f21_j6 v21_j6
  simp only [rdK_rd', nilVK_eq, newVK_eq, boxVK_eq, pickVK_eq, extVK_eq, gF_rd, gF_some, gF_nil, gF_pick, gF_ext, bumpK_eq, regV_eq, ld1K_eq', ldNK_eq', binVK_eq', binCK_eq', binDK_eq', stVK_eq, fAddrK_eq', ixSK_eq', ixRK_eq', unVK_eq', opF_eq, v21_j12_eq, v21_l9_eq, v21_l9_eq', v21_j7_eq]
def v21 (X : Caller) (L : Looper) (K : Value → AHeap → Prop) (h : AHeap) (t0 t1 t2 : Value) : Prop :=
 bumpK 2 h fun h =>
 bumpK 4 h fun h =>
 X (.call 12 [t0, t2]) (fun t15 h =>
 bumpK 2 h fun h =>
 binCK P .neq 24 24 t15 (.int .i64 0) h fun t17 =>
 condK t17
 (bumpK 3 h fun h =>
  K (.tuple #[(.int .i64 0), t15]) h)
 (bumpK 4 h fun h =>
 X (.call 13 [t0, t1]) (fun t21 h =>
 bumpK 3 h fun h =>
 v21_j6 X L K h ⟨(upds (argsEnv [t0, t1, t2]) [(6, (.int .i64 0)), (7, (.int .i64 0)), (13, t0), (14, t2), (15, t15), (8, t15), (16, t15), (17, t17), (19, t0), (20, t1), (21, t21), (1, t21), (22, t0), (23, t21)]), [((.func (.func 14) #[] #[]), [t0, t21])]⟩) h)) h
theorem v21_eq (X : Caller) (L : Looper) (K : Value → AHeap → Prop) (h : AHeap) (t0 t1 t2 : Value) : f21 X L K h t0 t1 t2 = v21 X L K h t0 t1 t2 := by
  unfold f21 v21
  simp only [rdK_rd', nilVK_eq, newVK_eq, boxVK_eq, pickVK_eq, extVK_eq, gF_rd, gF_some, gF_nil, gF_pick, gF_ext, bumpK_eq, regV_eq, ld1K_eq', ldNK_eq', binVK_eq', binCK_eq', binDK_eq', stVK_eq, fAddrK_eq', ixSK_eq', ixRK_eq', unVK_eq', opF_eq, v21_j12_eq, v21_l9_eq, v21_l9_eq', v21_j7_eq, v21_j6_eq]
theorem w21_eq (X : Caller) (L : Looper) (K : Value → AHeap → Prop) (h : AHeap) (t0 t1 t2 : Value) : aJob P X L (.call 21 [t0, t1, t2]) K h = v21 X L K h t0 t1 t2 := (f21_eq X L K h t0 t1 t2).trans (v21_eq X L K h t0 t1 t2)
def v22 (X : Caller) (L : Looper) (K : Value → AHeap → Prop) (h : AHeap) (t0 : Value) : Prop :=
 regV 2 h fun b h =>
 boxVK t0 (b + 0) h fun t1 h =>
 bumpK 5 h fun h =>
 fAddrK 0 t1 fun t4 =>
 ld1K t4 h fun t5 =>
 X (.call 43 [t5, (.int .i64 1), (.int .i64 1048576)]) (fun t6 h =>
 unVK P .not 4 t6 fun t7 =>
 condK t7
 (bumpK 1 h fun h =>
  K (.int .i64 240) h)
 (bumpK 5 h fun h =>
  fAddrK 1 t1 fun t9 =>
  ld1K t9 h fun t10 =>
  X (.call 43 [t10, (.int .i64 1), (.int .i64 1099511627776)]) (fun t11 h =>
  unVK P .not 4 t11 fun t12 =>
  condK t12
  (bumpK 1 h fun h =>
   K (.int .i64 241) h)
  (bumpK 5 h fun h =>
   fAddrK 2 t1 fun t14 =>
   ld1K t14 h fun t15 =>
   X (.call 43 [t15, (.int .i64 0), (.int .i64 99)]) (fun t16 h =>
   unVK P .not 4 t16 fun t17 =>
   condK t17
   (bumpK 1 h fun h =>
    K (.int .i64 242) h)
   (bumpK 1 h fun h =>
 K (.int .i64 0) h)) h)) h)) h
theorem v22_eq (X : Caller) (L : Looper) (K : Value → AHeap → Prop) (h : AHeap) (t0 : Value) : f22 X L K h t0 = v22 X L K h t0 := by
  unfold f22 v22
  simp only [rdK_rd', nilVK_eq, newVK_eq, boxVK_eq, pickVK_eq, extVK_eq, gF_rd, gF_some, gF_nil, gF_pick, gF_ext, bumpK_eq, regV_eq, ld1K_eq', ldNK_eq', binVK_eq', binCK_eq', binDK_eq', stVK_eq, fAddrK_eq', ixSK_eq', ixRK_eq', unVK_eq', opF_eq]
theorem w22_eq (X : Caller) (L : Looper) (K : Value → AHeap → Prop) (h : AHeap) (t0 : Value) : aJob P X L (.call 22 [t0]) K h = v22 X L K h t0 := (f22_eq X L K h t0).trans (v22_eq X L K h t0)
def v23 (X : Caller) (L : Looper) (K : Value → AHeap → Prop) (h : AHeap) (t0 t1 t2 : Value) : Prop :=
 regV 2 h fun b h =>
 boxVK t0 (b + 0) h fun t3 h =>
 bumpK 7 h fun h =>
 ldNK 5 t3 h fun t14 =>
 X (.call 44 [t14]) (fun t15 h =>
 extVK 0 t15 fun t16 =>
 extVK 1 t15 fun t17 =>
 bumpK 7 h fun h =>
 X (.call 45 [t16]) (fun t20 h =>
 extVK 0 t20 fun t21 =>
 extVK 1 t20 fun t22 =>
 bumpK 10 h fun h =>
 fAddrK 0 t3 fun t24 =>
 ld1K t24 h fun t25 =>
 fAddrK 1 t3 fun t26 =>
 ld1K t26 h fun t27 =>
 X (.call 46 [t25, t27]) (fun t28 h =>
 extVK 0 t28 fun t29 =>
 extVK 1 t28 fun t30 =>
 regV 18 h fun b_1 h =>
 fAddrK 3 t3 fun t31 =>
 ld1K t31 h fun t32 =>
 fAddrK 4 t3 fun t33 =>
 ld1K t33 h fun t34 =>
 ldNK 5 t3 h fun t45 =>
 X (.call 48 [t32, t34]) (fun t35 h =>
 chkK (chkR ((ldN 5 t3 h).map (·, h)) t45 true) <|
 X (.call 47 [t35]) (fun t36 h =>
 chkK (chkR ((ldN 5 t3 h).map (·, h)) t45 true) <|
 X (.call 49 [t2]) (fun t38 h =>
 chkK (chkR ((ldN 5 t3 h).map (·, h)) t45 true) <|
 X (.call 50 [t1]) (fun t42 h =>
 chkK (chkR ((ldN 5 t3 h).map (·, h)) t45 true) <|
 X (.call 51 []) (fun t43 h =>
 chkK (chkR ((ldN 5 t3 h).map (·, h)) t45 true) <|
 rd' (buildA P 90 [(0, t36), (1, t38), (2, t21), (3, t29), (4, t42), (5, t43)]) fun t44 =>
 rd' (buildA P 92 [(0, t44), (1, t45)]) fun t46 =>
 boxVK t46 (b_1 + 16) h fun t47 h =>
 K t47 h) h) h) h) h) h) h) h) h
theorem v23_eq (X : Caller) (L : Looper) (K : Value → AHeap → Prop) (h : AHeap) (t0 t1 t2 : Value) : f23 X L K h t0 t1 t2 = v23 X L K h t0 t1 t2 := by
  unfold f23 v23
  simp only [rdK_rd', nilVK_eq, newVK_eq, boxVK_eq, pickVK_eq, extVK_eq, gF_rd, gF_some, gF_nil, gF_pick, gF_ext, bumpK_eq, regV_eq, ld1K_eq', ldNK_eq', binVK_eq', binCK_eq', binDK_eq', stVK_eq, fAddrK_eq', ixSK_eq', ixRK_eq', unVK_eq', opF_eq]
theorem w23_eq (X : Caller) (L : Looper) (K : Value → AHeap → Prop) (h : AHeap) (t0 t1 t2 : Value) : aJob P X L (.call 23 [t0, t1, t2]) K h = v23 X L K h t0 t1 t2 := (f23_eq X L K h t0 t1 t2).trans (v23_eq X L K h t0 t1 t2)
def v24 (X : Caller) (L : Looper) (K : Value → AHeap → Prop) (h : AHeap) (t0 : Value) : Prop :=
 bumpK 1 h fun h =>
 bumpK 11 h fun h =>
 binCK P .eql 23 23 t0 (.pointer none) h fun t4 =>
 gF (wantV t4 false) (fun k => k t0) fun t6 =>
 gF (wantV t4 false) (nilVK t6) fun t7 =>
 gF (wantV t4 false) (fAddrK 2 t7) fun t8 =>
 gF (wantV t4 false) (ixRK 2 1 t8 (.int .i64 0)) fun t9 =>
 gF (wantV t4 false) (ld1K t9 h) fun t10 =>
 gF (wantV t4 false) (binCK P .eql 42 42 t10 (.pointer none) h) fun t11 =>
 pickVK t4 (.bool true) t11 fun t12 =>
 K t12 h
theorem v24_eq (X : Caller) (L : Looper) (K : Value → AHeap → Prop) (h : AHeap) (t0 : Value) : f24 X L K h t0 = v24 X L K h t0 := by
  unfold f24 v24
  simp only [rdK_rd', nilVK_eq, newVK_eq, boxVK_eq, pickVK_eq, extVK_eq, gF_rd, gF_some, gF_nil, gF_pick, gF_ext, bumpK_eq, regV_eq, ld1K_eq', ldNK_eq', binVK_eq', binCK_eq', binDK_eq', stVK_eq, fAddrK_eq', ixSK_eq', ixRK_eq', unVK_eq', opF_eq]
theorem w24_eq (X : Caller) (L : Looper) (K : Value → AHeap → Prop) (h : AHeap) (t0 : Value) : aJob P X L (.call 24 [t0]) K h = v24 X L K h t0 := (f24_eq X L K h t0).trans (v24_eq X L K h t0)
def v25 (X : Caller) (L : Looper) (K : Value → AHeap → Prop) (h : AHeap) (t0 : Value) : Prop :=
 bumpK 1 h fun h =>
 regV 9 h fun b h =>
 opF (builtinV P .len [9] [t0] (b + 1) h) fun t4 h =>
 binCK P .gtr 3 3 t4 (.int .i64 0) h fun t5 =>
 gF (wantV t5 true) (fun k => k t0) fun t7 =>
 gopK (wantV t5 true) h (builtinV P .len [9] [t7] (b + 5) h) fun t8 h =>
 gF (wantV t5 true) (binCK P .leq 3 3 t8 (.int .i64 250) h) fun t9 =>
 pickVK t5 t9 (.bool false) fun t10 =>
 K t10 h
theorem v25_eq (X : Caller) (L : Looper) (K : Value → AHeap → Prop) (h : AHeap) (t0 : Value) : f25 X L K h t0 = v25 X L K h t0 := by
  unfold f25 v25
  simp only [rdK_rd', nilVK_eq, newVK_eq, boxVK_eq, pickVK_eq, extVK_eq, gF_rd, gF_some, gF_nil, gF_pick, gF_ext, bumpK_eq, regV_eq, ld1K_eq', ldNK_eq', binVK_eq', binCK_eq', binDK_eq', stVK_eq, fAddrK_eq', ixSK_eq', ixRK_eq', unVK_eq', opF_eq]
theorem w25_eq (X : Caller) (L : Looper) (K : Value → AHeap → Prop) (h : AHeap) (t0 : Value) : aJob P X L (.call 25 [t0]) K h = v25 X L K h t0 := (f25_eq X L K h t0).trans (v25_eq X L K h t0)
def v26 (X : Caller) (L : Looper) (K : Value → AHeap → Prop) (h : AHeap) (t0 t1 : Value) : Prop :=
 bumpK 1 h fun h =>
 regV 4 h fun b h =>
 opF (builtinV P .max [33, 33] [t0, t1] (b + 2) h) fun t7 h =>
 K t7 h
theorem v26_eq (X : Caller) (L : Looper) (K : Value → AHeap → Prop) (h : AHeap) (t0 t1 : Value) : f26 X L K h t0 t1 = v26 X L K h t0 t1 := by
  unfold f26 v26
  simp only [rdK_rd', nilVK_eq, newVK_eq, boxVK_eq, pickVK_eq, extVK_eq, gF_rd, gF_some, gF_nil, gF_pick, gF_ext, bumpK_eq, regV_eq, ld1K_eq', ldNK_eq', binVK_eq', binCK_eq', binDK_eq', stVK_eq, fAddrK_eq', ixSK_eq', ixRK_eq', unVK_eq', opF_eq]
theorem w26_eq (X : Caller) (L : Looper) (K : Value → AHeap → Prop) (h : AHeap) (t0 t1 : Value) : aJob P X L (.call 26 [t0, t1]) K h = v26 X L K h t0 t1 := (f26_eq X L K h t0 t1).trans (v26_eq X L K h t0 t1)
def v27 (X : Caller) (L : Looper) (K : Value → AHeap → Prop) (h : AHeap) (t0 : Value) : Prop :=
 bumpK 1 h fun h =>
 bumpK 2 h fun h =>
 X (.call 52 [t0]) (fun t4 h =>
 condK t4
 (bumpK 1 h fun h =>
  K (.int .u64 0) h)
 (bumpK 7 h fun h =>
 nilVK t0 fun t6 =>
 fAddrK 0 t6 fun t7 =>
 fAddrK 4 t7 fun t8 =>
 ld1K t8 h fun t9 =>
 X (.call 53 [t9]) (fun t10 h =>
 K t10 h) h)) h
theorem v27_eq (X : Caller) (L : Looper) (K : Value → AHeap → Prop) (h : AHeap) (t0 : Value) : f27 X L K h t0 = v27 X L K h t0 := by
  unfold f27 v27
  simp only [rdK_rd', nilVK_eq, newVK_eq, boxVK_eq, pickVK_eq, extVK_eq, gF_rd, gF_some, gF_nil, gF_pick, gF_ext, bumpK_eq, regV_eq, ld1K_eq', ldNK_eq', binVK_eq', binCK_eq', binDK_eq', stVK_eq, fAddrK_eq', ixSK_eq', ixRK_eq', unVK_eq', opF_eq]
theorem w27_eq (X : Caller) (L : Looper) (K : Value → AHeap → Prop) (h : AHeap) (t0 : Value) : aJob P X L (.call 27 [t0]) K h = v27 X L K h t0 := (f27_eq X L K h t0).trans (v27_eq X L K h t0)
def v28 (X : Caller) (L : Looper) (K : Value → AHeap → Prop) (h : AHeap) (t0 t1 : Value) : Prop :=
 bumpK 1 h fun h =>
 bumpK 3 h fun h =>
 X (.call 32 [t0, (.slice none 0 0)]) (fun t7 h =>
 bumpK 2 h fun h =>
 binCK P .neq 24 24 t7 (.int .i64 0) h fun t9 =>
 condK t9
 (bumpK 2 h fun h =>
  K t7 h)
 (bumpK 3 h fun h =>
 X (.call 54 [t0, t1, (.func (.func 55) #[] #[])]) (fun t13 h =>
 bumpK 1 h fun h =>
 K (.int .i64 0) h) h)) h
theorem v28_eq (X : Caller) (L : Looper) (K : Value → AHeap → Prop) (h : AHeap) (t0 t1 : Value) : f28 X L K h t0 t1 = v28 X L K h t0 t1 := by
  unfold f28 v28
  simp only [rdK_rd', nilVK_eq, newVK_eq, boxVK_eq, pickVK_eq, extVK_eq, gF_rd, gF_some, gF_nil, gF_pick, gF_ext, bumpK_eq, regV_eq, ld1K_eq', ldNK_eq', binVK_eq', binCK_eq', binDK_eq', stVK_eq, fAddrK_eq', ixSK_eq', ixRK_eq', unVK_eq', opF_eq]
theorem w28_eq (X : Caller) (L : Looper) (K : Value → AHeap → Prop) (h : AHeap) (t0 t1 : Value) : aJob P X L (.call 28 [t0, t1]) K h = v28 X L K h t0 t1 := (f28_eq X L K h t0 t1).trans (v28_eq X L K h t0 t1)
def v29 (X : Caller) (L : Looper) (K : Value → AHeap → Prop) (h : AHeap) (t0 : Value) : Prop :=
 bumpK 1 h fun h =>
 bumpK 2 h fun h =>
 X (.call 52 [t0]) (fun t6 h =>
 condK t6
 (bumpK 1 h fun h =>
  K (.slice none 0 0) h)
 (bumpK 17 h fun h =>
 nilVK t0 fun t9 =>
 fAddrK 0 t9 fun t10 =>
 fAddrK 5 t10 fun t11 =>
 ld1K t11 h fun t12 =>
 nilVK t0 fun t14 =>
 fAddrK 0 t14 fun t15 =>
 fAddrK 5 t15 fun t16 =>
 ld1K t16 h fun t17 =>
 X (.call 57 [t17]) (fun t18 h =>
 chkK (chkR ((ld1 t11 h).map (·, h)) t12 true) <|
 X (.call 56 [t12, t18]) (fun t19 h =>
 extVK 0 t19 fun t20 =>
 extVK 1 t19 fun t21 =>
 bumpK 2 h fun h =>
 K t20 h) h) h)) h
theorem v29_eq (X : Caller) (L : Looper) (K : Value → AHeap → Prop) (h : AHeap) (t0 : Value) : f29 X L K h t0 = v29 X L K h t0 := by
  unfold f29 v29
  simp only [rdK_rd', nilVK_eq, newVK_eq, boxVK_eq, pickVK_eq, extVK_eq, gF_rd, gF_some, gF_nil, gF_pick, gF_ext, bumpK_eq, regV_eq, ld1K_eq', ldNK_eq', binVK_eq', binCK_eq', binDK_eq', stVK_eq, fAddrK_eq', ixSK_eq', ixRK_eq', unVK_eq', opF_eq]
theorem w29_eq (X : Caller) (L : Looper) (K : Value → AHeap → Prop) (h : AHeap) (t0 : Value) : aJob P X L (.call 29 [t0]) K h = v29 X L K h t0 := (f29_eq X L K h t0).trans (v29_eq X L K h t0)
def v30 (X : Caller) (L : Looper) (K : Value → AHeap → Prop) (h : AHeap) (t0 t1 t2 t3 : Value) : Prop :=
 bumpK 1 h fun h =>
 bumpK 6 h fun h =>
 X (.call 58 [t0, t1, t2, t3, (.func (.func 59) #[] #[])]) (fun t13 h =>
 K t13 h) h
theorem v30_eq (X : Caller) (L : Looper) (K : Value → AHeap → Prop) (h : AHeap) (t0 t1 t2 t3 : Value) : f30 X L K h t0 t1 t2 t3 = v30 X L K h t0 t1 t2 t3 := by
  unfold f30 v30
  simp only [rdK_rd', nilVK_eq, newVK_eq, boxVK_eq, pickVK_eq, extVK_eq, gF_rd, gF_some, gF_nil, gF_pick, gF_ext, bumpK_eq, regV_eq, ld1K_eq', ldNK_eq', binVK_eq', binCK_eq', binDK_eq', stVK_eq, fAddrK_eq', ixSK_eq', ixRK_eq', unVK_eq', opF_eq]
theorem w30_eq (X : Caller) (L : Looper) (K : Value → AHeap → Prop) (h : AHeap) (t0 t1 t2 t3 : Value) : aJob P X L (.call 30 [t0, t1, t2, t3]) K h = v30 X L K h t0 t1 t2 t3 := (f30_eq X L K h t0 t1 t2 t3).trans (v30_eq X L K h t0 t1 t2 t3)
def v31 (X : Caller) (L : Looper) (K : Value → AHeap → Prop) (h : AHeap) (t0 t1 t2 t3 t4 : Value) : Prop :=
 regV 3 h fun b h =>
 boxVK t0 (b + 0) h fun t5 h =>
 boxVK t4 (b + 1) h fun t9 h =>
 bumpK 2 h fun h =>
 ld1K t5 h fun t11 =>
 X (.call 52 [t11]) (fun t12 h =>
 condK t12
 (bumpK 1 h fun h =>
  K (.int .i64 1) h)
 (bumpK 2 h fun h =>
 ld1K t9 h fun t13 =>
 binCK P .eql 33 33 t13 (.int .u64 0) h fun t14 =>
 condK t14
 (bumpK 1 h fun h =>
  K (.int .i64 2) h)
 (bumpK 7 h fun h =>
 ld1K t5 h fun t15 =>
 X (.call 58 [t15, t1, t2, t3, (.func (.func 60) #[] #[t5, t9])]) (fun t20 h =>
 K t20 h) h))) h
theorem v31_eq (X : Caller) (L : Looper) (K : Value → AHeap → Prop) (h : AHeap) (t0 t1 t2 t3 t4 : Value) : f31 X L K h t0 t1 t2 t3 t4 = v31 X L K h t0 t1 t2 t3 t4 := by
  unfold f31 v31
  simp only [rdK_rd', nilVK_eq, newVK_eq, boxVK_eq, pickVK_eq, extVK_eq, gF_rd, gF_some, gF_nil, gF_pick, gF_ext, bumpK_eq, regV_eq, ld1K_eq', ldNK_eq', binVK_eq', binCK_eq', binDK_eq', stVK_eq, fAddrK_eq', ixSK_eq', ixRK_eq', unVK_eq', opF_eq]
theorem w31_eq (X : Caller) (L : Looper) (K : Value → AHeap → Prop) (h : AHeap) (t0 t1 t2 t3 t4 : Value) : aJob P X L (.call 31 [t0, t1, t2, t3, t4]) K h = v31 X L K h t0 t1 t2 t3 t4 := (f31_eq X L K h t0 t1 t2 t3 t4).trans (v31_eq X L K h t0 t1 t2 t3 t4)
def v32_j5 (X : Caller) (L : Looper) (K : Value → AHeap → Prop) (h : AHeap) (t1 t5 t23 t22 t24 t25 t26 t4 : Value) : Prop :=
 regV 6 h fun b h =>
 opF (bsliceV P 121 1 [(0, t5)] (b + 2) h) fun t24_1 h =>
 opF (builtinV P .append [121, 121] [t1, t24_1] (b + 3) h) fun t25_1 h =>
 X (.call 63 [t25_1]) (fun t26_1 h =>
 K t26_1 h) h
theorem v32_j5_eq (X : Caller) (L : Looper) (K : Value → AHeap → Prop) (h : AHeap) (t1 t5 t23 t22 t24 t25 t26 t4 : Value) : f32_j5 X L K h t1 t5 t23 t22 t24 t25 t26 t4 = v32_j5 X L K h t1 t5 t23 t22 t24 t25 t26 t4 := by
  unfold f32_j5 v32_j5
  simp only [rdK_rd', nilVK_eq, newVK_eq, boxVK_eq, pickVK_eq, extVK_eq, gF_rd, gF_some, gF_nil, gF_pick, gF_ext, bumpK_eq, regV_eq, ld1K_eq', ldNK_eq', binVK_eq', binCK_eq', binDK_eq', stVK_eq, fAddrK_eq', ixSK_eq', ixRK_eq', unVK_eq', opF_eq]
def v32 (X : Caller) (L : Looper) (K : Value → AHeap → Prop) (h : AHeap) (t0 t1 : Value) : Prop :=
 bumpK 1 h fun h =>
 bumpK 2 h fun h =>
 X (.call 52 [t0]) (fun t7 h =>
 condK t7
 (bumpK 1 h fun h =>
  K (.int .i64 1) h)
 (bumpK 1 h fun h =>
 bumpK 14 h fun h =>
 nilVK t0 fun t9 =>
 fAddrK 0 t9 fun t10 =>
 fAddrK 5 t10 fun t11 =>
 ld1K t11 h fun t12 =>
 nilVK t0 fun t15 =>
 fAddrK 0 t15 fun t16 =>
 fAddrK 0 t16 fun t17 =>
 ld1K t17 h fun t18 =>
 X (.call 57 [t12]) (fun t13 h =>
 chkK (chkR ((ld1 t17 h).map (·, h)) t18 true) <|
 X (.call 62 [t18]) (fun t19 h =>
 binVK P .add 3 3 t13 t19 h fun t20 =>
 binCK P .gtr 3 3 t20 (.int .i64 1048576) h fun t21 =>
 condK t21
 (bumpK 1 h fun h =>
  v32_j5 X L K h t1 ((.int .i64 7)) undef undef undef undef undef ((.int .i64 0)))
 (v32_j5 X L K h t1 ((.int .i64 0)) undef undef undef undef undef ((.int .i64 0)))) h) h)) h
theorem v32_eq (X : Caller) (L : Looper) (K : Value → AHeap → Prop) (h : AHeap) (t0 t1 : Value) : f32 X L K h t0 t1 = v32 X L K h t0 t1 := by
  unfold f32 v32
  simp only [rdK_rd', nilVK_eq, newVK_eq, boxVK_eq, pickVK_eq, extVK_eq, gF_rd, gF_some, gF_nil, gF_pick, gF_ext, bumpK_eq, regV_eq, ld1K_eq', ldNK_eq', binVK_eq', binCK_eq', binDK_eq', stVK_eq, fAddrK_eq', ixSK_eq', ixRK_eq', unVK_eq', opF_eq, v32_j5_eq]
theorem w32_eq (X : Caller) (L : Looper) (K : Value → AHeap → Prop) (h : AHeap) (t0 t1 : Value) : aJob P X L (.call 32 [t0, t1]) K h = v32 X L K h t0 t1 := (f32_eq X L K h t0 t1).trans (v32_eq X L K h t0 t1)
def v33 (X : Caller) (L : Looper) (K : Value → AHeap → Prop) (h : AHeap) (t0 : Value) : Prop :=
 bumpK 1 h fun h =>
 bumpK 4 h fun h =>
 X (.call 25 [t0]) (fun t4 h =>
 X (.call 64 [t4, (.int .i64 2)]) (fun t5 h =>
 K t5 h) h) h
theorem v33_eq (X : Caller) (L : Looper) (K : Value → AHeap → Prop) (h : AHeap) (t0 : Value) : f33 X L K h t0 = v33 X L K h t0 := by
  unfold f33 v33
  simp only [rdK_rd', nilVK_eq, newVK_eq, boxVK_eq, pickVK_eq, extVK_eq, gF_rd, gF_some, gF_nil, gF_pick, gF_ext, bumpK_eq, regV_eq, ld1K_eq', ldNK_eq', binVK_eq', binCK_eq', binDK_eq', stVK_eq, fAddrK_eq', ixSK_eq', ixRK_eq', unVK_eq', opF_eq]
theorem w33_eq (X : Caller) (L : Looper) (K : Value → AHeap → Prop) (h : AHeap) (t0 : Value) : aJob P X L (.call 33 [t0]) K h = v33 X L K h t0 := (f33_eq X L K h t0).trans (v33_eq X L K h t0)
def v34 (X : Caller) (L : Looper) (K : Value → AHeap → Prop) (h : AHeap) (t0 t1 t2 t3 : Value) : Prop :=
 regV 4 h fun b h =>
 boxVK t0 (b + 0) h fun t4 h =>
 boxVK t2 (b + 1) h fun t6 h =>
 boxVK t3 (b + 2) h fun t7 h =>
 newVK [.bool false] (b + 3) h fun t8 h =>
 bumpK 4 h fun h =>
 ld1K t4 h fun t9 =>
 X (.call 54 [t9, t1, (.func (.func 65) #[] #[t4, t6, t8, t7])]) (fun t12 h =>
 bumpK 2 h fun h =>
 ld1K t8 h fun t13 =>
 stVK 1 t8 t13 h fun h =>
 retK (consR (ld1 t8 h) (some [])) K h) h
theorem v34_eq (X : Caller) (L : Looper) (K : Value → AHeap → Prop) (h : AHeap) (t0 t1 t2 t3 : Value) : f34 X L K h t0 t1 t2 t3 = v34 X L K h t0 t1 t2 t3 := by
  unfold f34 v34
  simp only [rdK_rd', nilVK_eq, newVK_eq, boxVK_eq, pickVK_eq, extVK_eq, gF_rd, gF_some, gF_nil, gF_pick, gF_ext, bumpK_eq, regV_eq, ld1K_eq', ldNK_eq', binVK_eq', binCK_eq', binDK_eq', stVK_eq, fAddrK_eq', ixSK_eq', ixRK_eq', unVK_eq', opF_eq]
theorem w34_eq (X : Caller) (L : Looper) (K : Value → AHeap → Prop) (h : AHeap) (t0 t1 t2 t3 : Value) : aJob P X L (.call 34 [t0, t1, t2, t3]) K h = v34 X L K h t0 t1 t2 t3 := (f34_eq X L K h t0 t1 t2 t3).trans (v34_eq X L K h t0 t1 t2 t3)
def v35 (X : Caller) (L : Looper) (K : Value → AHeap → Prop) (h : AHeap) (t0 t1 : Value) : Prop :=
 regV 3 h fun b h =>
 boxVK t0 (b + 0) h fun t2 h =>
 boxVK t1 (b + 1) h fun t3 h =>
 bumpK 2 h fun h =>
 K (.func (.func 67) #[] #[t2, t3]) h
theorem v35_eq (X : Caller) (L : Looper) (K : Value → AHeap → Prop) (h : AHeap) (t0 t1 : Value) : f35 X L K h t0 t1 = v35 X L K h t0 t1 := by
  unfold f35 v35
  simp only [rdK_rd', nilVK_eq, newVK_eq, boxVK_eq, pickVK_eq, extVK_eq, gF_rd, gF_some, gF_nil, gF_pick, gF_ext, bumpK_eq, regV_eq, ld1K_eq', ldNK_eq', binVK_eq', binCK_eq', binDK_eq', stVK_eq, fAddrK_eq', ixSK_eq', ixRK_eq', unVK_eq', opF_eq]
theorem w35_eq (X : Caller) (L : Looper) (K : Value → AHeap → Prop) (h : AHeap) (t0 t1 : Value) : aJob P X L (.call 35 [t0, t1]) K h = v35 X L K h t0 t1 := (f35_eq X L K h t0 t1).trans (v35_eq X L K h t0 t1)
def v36 (X : Caller) (L : Looper) (K : Value → AHeap → Prop) (h : AHeap) (t0 t1 t2 : Value) : Prop :=
 bumpK 11 h fun h =>
 ld1K t1 h fun t8 =>
 nilVK t8 fun t9 =>
 fAddrK 0 t9 fun t10 =>
 fAddrK 0 t10 fun t11 =>
 ld1K t11 h fun t12 =>
 X (.call 37 [t12, t0]) (fun t14 h =>
 extVK 0 t14 fun t15 =>
 extVK 1 t14 fun t16 =>
 stVK 4 t2 t15 h fun h =>
 bumpK 14 h fun h =>
 ld1K t1 h fun t18 =>
 nilVK t18 fun t19 =>
 fAddrK 0 t19 fun t20 =>
 fAddrK 2 t20 fun t21 =>
 ld1K t21 h fun t22 =>
 X (.call 38 [t22, t0]) (fun t24 h =>
 extVK 0 t24 fun t25 =>
 extVK 1 t24 fun t26 =>
 extVK 2 t24 fun t27 =>
 bumpK 4 h fun h =>
 ld1K t1 h fun t28 =>
 X (.call 39 [t28, t0, t26]) (fun t31 h =>
 K (.tuple #[]) h) h) h) h
theorem v36_eq (X : Caller) (L : Looper) (K : Value → AHeap → Prop) (h : AHeap) (t0 t1 t2 : Value) : f36 X L K h t0 t1 t2 = v36 X L K h t0 t1 t2 := by
  unfold f36 v36
  simp only [rdK_rd', nilVK_eq, newVK_eq, boxVK_eq, pickVK_eq, extVK_eq, gF_rd, gF_some, gF_nil, gF_pick, gF_ext, bumpK_eq, regV_eq, ld1K_eq', ldNK_eq', binVK_eq', binCK_eq', binDK_eq', stVK_eq, fAddrK_eq', ixSK_eq', ixRK_eq', unVK_eq', opF_eq]
theorem w36_eq (X : Caller) (L : Looper) (K : Value → AHeap → Prop) (h : AHeap) (t0 t1 t2 : Value) : aJob P X L (.call 36 [t0, t1, t2]) K h = v36 X L K h t0 t1 t2 := (f36_eq X L K h t0 t1 t2).trans (v36_eq X L K h t0 t1 t2)
def v37 (X : Caller) (L : Looper) (K : Value → AHeap → Prop) (h : AHeap) (t0 t1 : Value) : Prop :=
 regV 2 h fun b h =>
 newVK [.string ⟨#[]⟩, .slice none 0 0, .int .u64 0, .int .u64 0] (b + 0) h fun t4 h =>
 bumpK 2 h fun h =>
 X (.call 73 [t0]) (fun t7 h =>
 condK t7
 (bumpK 3 h fun h =>
  rd' (buildA P 59 []) fun t8 =>
  stVK 4 t4 t8 h fun h =>
  retK (consR (ldN 4 t4 h) (consR (some (.int .i64 1)) (some []))) K h)
 (bumpK 11 h fun h =>
 nilVK t0 fun t10 =>
 fAddrK 0 t10 fun t11 =>
 fAddrK 0 t11 fun t12 =>
 ld1K t12 h fun t13 =>
 X (.call 74 [t13, t1]) (fun t15 h =>
 extVK 0 t15 fun t16 =>
 extVK 1 t15 fun t17 =>
 stVK 4 t4 t16 h fun h =>
 retK (consR (ldN 4 t4 h) (consR (some t17) (some []))) K h) h)) h
theorem v37_eq (X : Caller) (L : Looper) (K : Value → AHeap → Prop) (h : AHeap) (t0 t1 : Value) : f37 X L K h t0 t1 = v37 X L K h t0 t1 := by
  unfold f37 v37
  simp only [rdK_rd', nilVK_eq, newVK_eq, boxVK_eq, pickVK_eq, extVK_eq, gF_rd, gF_some, gF_nil, gF_pick, gF_ext, bumpK_eq, regV_eq, ld1K_eq', ldNK_eq', binVK_eq', binCK_eq', binDK_eq', stVK_eq, fAddrK_eq', ixSK_eq', ixRK_eq', unVK_eq', opF_eq]
theorem w37_eq (X : Caller) (L : Looper) (K : Value → AHeap → Prop) (h : AHeap) (t0 t1 : Value) : aJob P X L (.call 37 [t0, t1]) K h = v37 X L K h t0 t1 := (f37_eq X L K h t0 t1).trans (v37_eq X L K h t0 t1)
def v38 (X : Caller) (L : Looper) (K : Value → AHeap → Prop) (h : AHeap) (t0 t1 : Value) : Prop :=
 bumpK 3 h fun h =>
 bumpK 4 h fun h =>
 X (.call 75 [t0, t1, (.int .i64 0)]) (fun t12 h =>
 bumpK 2 h fun h =>
 binCK P .neq 24 24 t12 (.int .i64 0) h fun t14 =>
 condK t14
 (bumpK 4 h fun h =>
  K (.tuple #[(.int .i64 0), (.int .i64 0), t12]) h)
 (bumpK 11 h fun h =>
 nilVK t0 fun t18 =>
 fAddrK 4 t18 fun t19 =>
 ld1K t19 h fun t20 =>
 rd' (lookupA P 139 t20 t1 true h) fun t22 =>
 extVK 0 t22 fun t23 =>
 extVK 1 t22 fun t24 =>
 bumpK 2 h fun h =>
 unVK P .not 4 t24 fun t26 =>
 condK t26
 (bumpK 3 h fun h =>
  K (.tuple #[(.int .i64 0), (.int .i64 0), (.int .i64 9)]) h)
 (bumpK 7 h fun h =>
 X (.call 76 [t0, t1]) (fun t29 h =>
 K (.tuple #[t29, t23, (.int .i64 0)]) h) h))) h
theorem v38_eq (X : Caller) (L : Looper) (K : Value → AHeap → Prop) (h : AHeap) (t0 t1 : Value) : f38 X L K h t0 t1 = v38 X L K h t0 t1 := by
  unfold f38 v38
  simp only [rdK_rd', nilVK_eq, newVK_eq, boxVK_eq, pickVK_eq, extVK_eq, gF_rd, gF_some, gF_nil, gF_pick, gF_ext, bumpK_eq, regV_eq, ld1K_eq', ldNK_eq', binVK_eq', binCK_eq', binDK_eq', stVK_eq, fAddrK_eq', ixSK_eq', ixRK_eq', unVK_eq', opF_eq]
theorem w38_eq (X : Caller) (L : Looper) (K : Value → AHeap → Prop) (h : AHeap) (t0 t1 : Value) : aJob P X L (.call 38 [t0, t1]) K h = v38 X L K h t0 t1 := (f38_eq X L K h t0 t1).trans (v38_eq X L K h t0 t1)
def v39_j4 (X : Caller) (L : Looper) (K : Value → AHeap → Prop) (h : AHeap) (t0 t54 t55 t56 t57 t11 t2 t58 t59 t60 t9 t62 t63 : Value) : Prop :=
 bumpK 8 h fun h =>
 nilVK t0 fun t55_1 =>
 fAddrK 0 t55_1 fun t56_1 =>
 fAddrK 3 t56_1 fun t57_1 =>
 ld1K t57_1 h fun t58_1 =>
 X (.call 78 [t58_1, t11, t2]) (fun t61 h =>
 bumpK 3 h fun h =>
 X (.call 79 [t0, t9]) (fun t64 h =>
 K (.tuple #[]) h) h) h
theorem v39_j4_eq (X : Caller) (L : Looper) (K : Value → AHeap → Prop) (h : AHeap) (t0 t54 t55 t56 t57 t11 t2 t58 t59 t60 t9 t62 t63 : Value) : f39_j4 X L K h t0 t54 t55 t56 t57 t11 t2 t58 t59 t60 t9 t62 t63 = v39_j4 X L K h t0 t54 t55 t56 t57 t11 t2 t58 t59 t60 t9 t62 t63 := by
  unfold f39_j4 v39_j4
  simp only [rdK_rd', nilVK_eq, newVK_eq, boxVK_eq, pickVK_eq, extVK_eq, gF_rd, gF_some, gF_nil, gF_pick, gF_ext, bumpK_eq, regV_eq, ld1K_eq', ldNK_eq', binVK_eq', binCK_eq', binDK_eq', stVK_eq, fAddrK_eq', ixSK_eq', ixRK_eq', unVK_eq', opF_eq]
def v39 (X : Caller) (L : Looper) (K : Value → AHeap → Prop) (h : AHeap) (t0 t1 t2 : Value) : Prop :=
 bumpK 14 h fun h =>
 nilVK t0 fun t16 =>
 fAddrK 0 t16 fun t17 =>
 fAddrK 2 t17 fun t18 =>
 ld1K t18 h fun t19 =>
 X (.call 38 [t19, t1]) (fun t21 h =>
 extVK 0 t21 fun t22 =>
 extVK 1 t21 fun t23 =>
 extVK 2 t21 fun t24 =>
 bumpK 13 h fun h =>
 nilVK t0 fun t27 =>
 fAddrK 0 t27 fun t28 =>
 fAddrK 2 t28 fun t29 =>
 ld1K t29 h fun t30 =>
 X (.call 77 [t30, t1, t2]) (fun t33 h =>
 extVK 0 t33 fun t34 =>
 extVK 1 t33 fun t35 =>
 bumpK 8 h fun h =>
 nilVK t0 fun t37 =>
 fAddrK 0 t37 fun t38 =>
 fAddrK 3 t38 fun t39 =>
 ld1K t39 h fun t40 =>
 X (.call 69 [t40, t22, t23]) (fun t43 h =>
 bumpK 1 h fun h =>
 bumpK 10 h fun h =>
 nilVK t0 fun t46 =>
 fAddrK 6 t46 fun t47 =>
 ldNK 5 t47 h fun t48 =>
 X (.call 44 [t48]) (fun t49 h =>
 extVK 0 t49 fun t50 =>
 extVK 1 t49 fun t51 =>
 bumpK 2 h fun h =>
 binCK P .eql 3 3 t50 (.int .i64 (-1)) h fun t53 =>
 condK t53
 (bumpK 1 h fun h =>
  v39_j4 X L K h t0 undef undef undef undef ((.int .i64 0)) t2 undef undef undef t34 undef undef)
 (v39_j4 X L K h t0 undef undef undef undef ((.int .i64 1)) t2 undef undef undef t34 undef undef)) h) h) h) h
theorem v39_eq (X : Caller) (L : Looper) (K : Value → AHeap → Prop) (h : AHeap) (t0 t1 t2 : Value) : f39 X L K h t0 t1 t2 = v39 X L K h t0 t1 t2 := by
  unfold f39 v39
  simp only [rdK_rd', nilVK_eq, newVK_eq, boxVK_eq, pickVK_eq, extVK_eq, gF_rd, gF_some, gF_nil, gF_pick, gF_ext, bumpK_eq, regV_eq, ld1K_eq', ldNK_eq', binVK_eq', binCK_eq', binDK_eq', stVK_eq, fAddrK_eq', ixSK_eq', ixRK_eq', unVK_eq', opF_eq, v39_j4_eq]
theorem w39_eq (X : Caller) (L : Looper) (K : Value → AHeap → Prop) (h : AHeap) (t0 t1 t2 : Value) : aJob P X L (.call 39 [t0, t1, t2]) K h = v39 X L K h t0 t1 t2 := (f39_eq X L K h t0 t1 t2).trans (v39_eq X L K h t0 t1 t2)
def v40 (X : Caller) (L : Looper) (K : Value → AHeap → Prop) (h : AHeap) (t0 t1 t2 : Value) : Prop :=
 bumpK 11 h fun h =>
 ld1K t1 h fun t5 =>
 nilVK t5 fun t6 =>
 fAddrK 0 t6 fun t7 =>
 fAddrK 0 t7 fun t8 =>
 ld1K t8 h fun t9 =>
 X (.call 37 [t9, t0]) (fun t11 h =>
 extVK 0 t11 fun t12 =>
 extVK 1 t11 fun t13 =>
 stVK 4 t2 t12 h fun h =>
 K (.tuple #[]) h) h
theorem v40_eq (X : Caller) (L : Looper) (K : Value → AHeap → Prop) (h : AHeap) (t0 t1 t2 : Value) : f40 X L K h t0 t1 t2 = v40 X L K h t0 t1 t2 := by
  unfold f40 v40
  simp only [rdK_rd', nilVK_eq, newVK_eq, boxVK_eq, pickVK_eq, extVK_eq, gF_rd, gF_some, gF_nil, gF_pick, gF_ext, bumpK_eq, regV_eq, ld1K_eq', ldNK_eq', binVK_eq', binCK_eq', binDK_eq', stVK_eq, fAddrK_eq', ixSK_eq', ixRK_eq', unVK_eq', opF_eq]
theorem w40_eq (X : Caller) (L : Looper) (K : Value → AHeap → Prop) (h : AHeap) (t0 t1 t2 : Value) : aJob P X L (.call 40 [t0, t1, t2]) K h = v40 X L K h t0 t1 t2 := (f40_eq X L K h t0 t1 t2).trans (v40_eq X L K h t0 t1 t2)
def v41 (X : Caller) (L : Looper) (K : Value → AHeap → Prop) (h : AHeap) (t0 t1 : Value) : Prop :=
 bumpK 1 h fun h =>
 bumpK 8 h fun h =>
 binCK P .neq 33 33 t0 (.int .u64 18446744073709551615) h fun t6 =>
 gF (wantV t6 true) (fun k => k t0) fun t8 =>
 gF (wantV t6 true) (fun k => k t1) fun t9 =>
 gF (wantV t6 true) (binVK P .leq 33 33 t8 t9 h) fun t10 =>
 pickVK t6 t10 (.bool false) fun t11 =>
 K t11 h
theorem v41_eq (X : Caller) (L : Looper) (K : Value → AHeap → Prop) (h : AHeap) (t0 t1 : Value) : f41 X L K h t0 t1 = v41 X L K h t0 t1 := by
  unfold f41 v41
  simp only [rdK_rd', nilVK_eq, newVK_eq, boxVK_eq, pickVK_eq, extVK_eq, gF_rd, gF_some, gF_nil, gF_pick, gF_ext, bumpK_eq, regV_eq, ld1K_eq', ldNK_eq', binVK_eq', binCK_eq', binDK_eq', stVK_eq, fAddrK_eq', ixSK_eq', ixRK_eq', unVK_eq', opF_eq]
theorem w41_eq (X : Caller) (L : Looper) (K : Value → AHeap → Prop) (h : AHeap) (t0 t1 : Value) : aJob P X L (.call 41 [t0, t1]) K h = v41 X L K h t0 t1 := (f41_eq X L K h t0 t1).trans (v41_eq X L K h t0 t1)
def v42 (X : Caller) (L : Looper) (K : Value → AHeap → Prop) (h : AHeap) (t0 t1 : Value) : Prop :=
 bumpK 1 h fun h =>
 bumpK 3 h fun h =>
 binCK P .eql 33 33 t0 (.int .u64 18446744073709551615) h fun t7 =>
 condK t7
 (bumpK 1 h fun h =>
  K (.int .u64 18446744073709551615) h)
 (bumpK 4 h fun h =>
  binVK P .leq 33 33 t0 t1 h fun t11 =>
  condK t11
  (bumpK 1 h fun h =>
   K (.int .u64 0) h)
  (bumpK 4 h fun h =>
 binVK P .sub 33 33 t0 t1 h fun t14 =>
 K t14 h))
theorem v42_eq (X : Caller) (L : Looper) (K : Value → AHeap → Prop) (h : AHeap) (t0 t1 : Value) : f42 X L K h t0 t1 = v42 X L K h t0 t1 := by
  unfold f42 v42
  simp only [rdK_rd', nilVK_eq, newVK_eq, boxVK_eq, pickVK_eq, extVK_eq, gF_rd, gF_some, gF_nil, gF_pick, gF_ext, bumpK_eq, regV_eq, ld1K_eq', ldNK_eq', binVK_eq', binCK_eq', binDK_eq', stVK_eq, fAddrK_eq', ixSK_eq', ixRK_eq', unVK_eq', opF_eq]
theorem w42_eq (X : Caller) (L : Looper) (K : Value → AHeap → Prop) (h : AHeap) (t0 t1 : Value) : aJob P X L (.call 42 [t0, t1]) K h = v42 X L K h t0 t1 := (f42_eq X L K h t0 t1).trans (v42_eq X L K h t0 t1)
def v43 (X : Caller) (L : Looper) (K : Value → AHeap → Prop) (h : AHeap) (t0 t1 t2 : Value) : Prop :=
 bumpK 1 h fun h =>
 bumpK 9 h fun h =>
 binVK P .geq 3 3 t0 t1 h fun t9 =>
 gF (wantV t9 true) (fun k => k t0) fun t11 =>
 gF (wantV t9 true) (fun k => k t2) fun t12 =>
 gF (wantV t9 true) (binVK P .leq 3 3 t11 t12 h) fun t13 =>
 pickVK t9 t13 (.bool false) fun t14 =>
 K t14 h
theorem v43_eq (X : Caller) (L : Looper) (K : Value → AHeap → Prop) (h : AHeap) (t0 t1 t2 : Value) : f43 X L K h t0 t1 t2 = v43 X L K h t0 t1 t2 := by
  unfold f43 v43
  simp only [rdK_rd', nilVK_eq, newVK_eq, boxVK_eq, pickVK_eq, extVK_eq, gF_rd, gF_some, gF_nil, gF_pick, gF_ext, bumpK_eq, regV_eq, ld1K_eq', ldNK_eq', binVK_eq', binCK_eq', binDK_eq', stVK_eq, fAddrK_eq', ixSK_eq', ixRK_eq', unVK_eq', opF_eq]
theorem w43_eq (X : Caller) (L : Looper) (K : Value → AHeap → Prop) (h : AHeap) (t0 t1 t2 : Value) : aJob P X L (.call 43 [t0, t1, t2]) K h = v43 X L K h t0 t1 t2 := (f43_eq X L K h t0 t1 t2).trans (v43_eq X L K h t0 t1 t2)

def v44 (X : Caller) (L : Looper) (K : Value → AHeap → Prop) (h : AHeap) (t0 : Value) : Prop :=
 regV 3 h fun b h =>
 boxVK t0 (b + 0) h fun t1 h =>
 bumpK 3 h fun h =>
 ldNK 5 t1 h fun t5 =>
 X (.call 22 [t5]) (fun t6 h =>
 bumpK 2 h fun h =>
 binCK P .neq 24 24 t6 (.int .i64 0) h fun t8 =>
 condK t8
 (bumpK 3 h fun h =>
  K (.tuple #[(.int .i64 0), t6]) h)
 (bumpK 3 h fun h =>
 fAddrK 2 t1 fun t10 =>
 ld1K t10 h fun t11 =>
 binCK P .eql 3 3 t11 (.int .i64 0) h fun t12 =>
 condK t12
 (bumpK 2 h fun h =>
  K (.tuple #[(.int .i64 (-1)), (.int .i64 0)]) h)
 (bumpK 8 h fun h =>
 fAddrK 1 t1 fun t13 =>
 ld1K t13 h fun t14 =>
 fAddrK 2 t1 fun t15 =>
 ld1K t15 h fun t16 =>
 binVK P .mul 3 3 t14 t16 h fun t17 =>
 binCK P .quo 3 3 t17 (.int .i64 100) h fun t18 =>
 K (.tuple #[t18, (.int .i64 0)]) h))) h
theorem v44_eq (X : Caller) (L : Looper) (K : Value → AHeap → Prop) (h : AHeap) (t0 : Value) : f44 X L K h t0 = v44 X L K h t0 := by
  unfold f44 v44
  simp only [rdK_rd', nilVK_eq, newVK_eq, boxVK_eq, pickVK_eq, extVK_eq, gF_rd, gF_some, gF_nil, gF_pick, gF_ext, bumpK_eq, regV_eq, ld1K_eq', ldNK_eq', binVK_eq', binCK_eq', binDK_eq', stVK_eq, fAddrK_eq', ixSK_eq', ixRK_eq', unVK_eq', opF_eq]
theorem w44_eq (X : Caller) (L : Looper) (K : Value → AHeap → Prop) (h : AHeap) (t0 : Value) : aJob P X L (.call 44 [t0]) K h = v44 X L K h t0 := (f44_eq X L K h t0).trans (v44_eq X L K h t0)
def v45 (X : Caller) (L : Looper) (K : Value → AHeap → Prop) (h : AHeap) (t0 : Value) : Prop :=
 bumpK 2 h fun h =>
 bumpK 6 h fun h =>
 binCK P .lss 3 3 t0 (.int .i64 (-1)) h fun t5 =>
 gF (wantV t5 false) (fun k => k t0) fun t7 =>
 gF (wantV t5 false) (binCK P .gtr 3 3 t7 (.int .i64 1099511627776) h) fun t8 =>
 pickVK t5 (.bool true) t8 fun t9 =>
 condK t9
 (bumpK 2 h fun h =>
  K (.tuple #[(.pointer none), (.int .i64 2)]) h)
 (regV 9 h fun b h =>
 X (.call 80 []) (fun t10 h =>
 X (.call 80 []) (fun t11 h =>
 rd' (buildA P 137 [(0, t10), (1, t11)]) fun t12 =>
 opF (mapV (b + 3) h) fun t13 h =>
 rd' (buildA P 141 [(0, t12), (2, t13), (3, t0)]) fun t15 =>
 boxVK t15 (b + 6) h fun t16 h =>
 K (.tuple #[t16, (.int .i64 0)]) h) h) h)
theorem v45_eq (X : Caller) (L : Looper) (K : Value → AHeap → Prop) (h : AHeap) (t0 : Value) : f45 X L K h t0 = v45 X L K h t0 := by
  unfold f45 v45
  simp only [rdK_rd', nilVK_eq, newVK_eq, boxVK_eq, pickVK_eq, extVK_eq, gF_rd, gF_some, gF_nil, gF_pick, gF_ext, bumpK_eq, regV_eq, ld1K_eq', ldNK_eq', binVK_eq', binCK_eq', binDK_eq', stVK_eq, fAddrK_eq', ixSK_eq', ixRK_eq', unVK_eq', opF_eq]
theorem w45_eq (X : Caller) (L : Looper) (K : Value → AHeap → Prop) (h : AHeap) (t0 : Value) : aJob P X L (.call 45 [t0]) K h = v45 X L K h t0 := (f45_eq X L K h t0).trans (v45_eq X L K h t0)
def v46 (X : Caller) (L : Looper) (K : Value → AHeap → Prop) (h : AHeap) (t0 t1 : Value) : Prop :=
 bumpK 2 h fun h =>
 bumpK 4 h fun h =>
 X (.call 81 [t0, t1]) (fun t8 h =>
 unVK P .not 4 t8 fun t9 =>
 condK t9
 (bumpK 2 h fun h =>
  K (.tuple #[(.pointer none), (.int .i64 2)]) h)
 (regV 7 h fun b h =>
 rd' (buildA P 150 [(0, t0), (1, t1)]) fun t12 =>
 rd' (buildA P 153 [(0, t12)]) fun t13 =>
 boxVK t13 (b + 4) h fun t14 h =>
 K (.tuple #[t14, (.int .i64 0)]) h)) h
theorem v46_eq (X : Caller) (L : Looper) (K : Value → AHeap → Prop) (h : AHeap) (t0 t1 : Value) : f46 X L K h t0 t1 = v46 X L K h t0 t1 := by
  unfold f46 v46
  simp only [rdK_rd', nilVK_eq, newVK_eq, boxVK_eq, pickVK_eq, extVK_eq, gF_rd, gF_some, gF_nil, gF_pick, gF_ext, bumpK_eq, regV_eq, ld1K_eq', ldNK_eq', binVK_eq', binCK_eq', binDK_eq', stVK_eq, fAddrK_eq', ixSK_eq', ixRK_eq', unVK_eq', opF_eq]
theorem w46_eq (X : Caller) (L : Looper) (K : Value → AHeap → Prop) (h : AHeap) (t0 t1 : Value) : aJob P X L (.call 46 [t0, t1]) K h = v46 X L K h t0 t1 := (f46_eq X L K h t0 t1).trans (v46_eq X L K h t0 t1)
def v47 (X : Caller) (L : Looper) (K : Value → AHeap → Prop) (h : AHeap) (t0 : Value) : Prop :=
 regV 2 h fun b h =>
 boxVK t0 (b + 0) h fun t1 h =>
 bumpK 6 h fun h =>
 X (.call 82 [(.int .i64 1)]) (fun t6 h =>
 extVK 0 t6 fun t7 =>
 extVK 1 t6 fun t8 =>
 regV 7 h fun b_1 h =>
 ldNK 2 t1 h fun t11 =>
 X (.call 83 []) (fun t9 h =>
 chkK (chkR ((ldN 2 t1 h).map (·, h)) t11 true) <|
 rd' (buildA P 130 [(0, t9)]) fun t10 =>
 rd' (buildA P 133 [(0, t10), (1, t11), (2, t7)]) fun t13 =>
 boxVK t13 (b_1 + 5) h fun t14 h =>
 K t14 h) h) h
theorem v47_eq (X : Caller) (L : Looper) (K : Value → AHeap → Prop) (h : AHeap) (t0 : Value) : f47 X L K h t0 = v47 X L K h t0 := by
  unfold f47 v47
  simp only [rdK_rd', nilVK_eq, newVK_eq, boxVK_eq, pickVK_eq, extVK_eq, gF_rd, gF_some, gF_nil, gF_pick, gF_ext, bumpK_eq, regV_eq, ld1K_eq', ldNK_eq', binVK_eq', binCK_eq', binDK_eq', stVK_eq, fAddrK_eq', ixSK_eq', ixRK_eq', unVK_eq', opF_eq]
theorem w47_eq (X : Caller) (L : Looper) (K : Value → AHeap → Prop) (h : AHeap) (t0 : Value) : aJob P X L (.call 47 [t0]) K h = v47 X L K h t0 := (f47_eq X L K h t0).trans (v47_eq X L K h t0)
def v48 (X : Caller) (L : Looper) (K : Value → AHeap → Prop) (h : AHeap) (t0 t1 : Value) : Prop :=
 regV 1 h fun b h =>
 newVK [.int .u64 0, .bool false] (b + 0) h fun t4 h =>
 bumpK 4 h fun h =>
 rd' (buildA P 109 [(0, t0), (1, t1)]) fun t7 =>
 stVK 2 t4 t7 h fun h =>
 retK (consR (ldN 2 t4 h) (some [])) K h
theorem v48_eq (X : Caller) (L : Looper) (K : Value → AHeap → Prop) (h : AHeap) (t0 t1 : Value) : f48 X L K h t0 t1 = v48 X L K h t0 t1 := by
  unfold f48 v48
  simp only [rdK_rd', nilVK_eq, newVK_eq, boxVK_eq, pickVK_eq, extVK_eq, gF_rd, gF_some, gF_nil, gF_pick, gF_ext, bumpK_eq, regV_eq, ld1K_eq', ldNK_eq', binVK_eq', binCK_eq', binDK_eq', stVK_eq, fAddrK_eq', ixSK_eq', ixRK_eq', unVK_eq', opF_eq]
theorem w48_eq (X : Caller) (L : Looper) (K : Value → AHeap → Prop) (h : AHeap) (t0 t1 : Value) : aJob P X L (.call 48 [t0, t1]) K h = v48 X L K h t0 t1 := (f48_eq X L K h t0 t1).trans (v48_eq X L K h t0 t1)
def v49 (X : Caller) (L : Looper) (K : Value → AHeap → Prop) (h : AHeap) (t0 : Value) : Prop :=
 bumpK 1 h fun h =>
 regV 4 h fun b h =>
 rd' (buildA P 158 [(0, (.bool true)), (1, t0)]) fun t4 =>
 boxVK t4 (b + 2) h fun t5 h =>
 K t5 h
theorem v49_eq (X : Caller) (L : Looper) (K : Value → AHeap → Prop) (h : AHeap) (t0 : Value) : f49 X L K h t0 = v49 X L K h t0 := by
  unfold f49 v49
  simp only [rdK_rd', nilVK_eq, newVK_eq, boxVK_eq, pickVK_eq, extVK_eq, gF_rd, gF_some, gF_nil, gF_pick, gF_ext, bumpK_eq, regV_eq, ld1K_eq', ldNK_eq', binVK_eq', binCK_eq', binDK_eq', stVK_eq, fAddrK_eq', ixSK_eq', ixRK_eq', unVK_eq', opF_eq]
theorem w49_eq (X : Caller) (L : Looper) (K : Value → AHeap → Prop) (h : AHeap) (t0 : Value) : aJob P X L (.call 49 [t0]) K h = v49 X L K h t0 := (f49_eq X L K h t0).trans (v49_eq X L K h t0)
def v50 (X : Caller) (L : Looper) (K : Value → AHeap → Prop) (h : AHeap) (t0 : Value) : Prop :=
 bumpK 1 h fun h =>
 regV 7 h fun b h =>
 X (.call 84 [t0]) (fun t4 h =>
 opF (mapV (b + 2) h) fun t5 h =>
 opF (mapV (b + 3) h) fun t6 h =>
 rd' (buildA P 164 [(0, t4), (1, t5), (2, t6)]) fun t7 =>
 boxVK t7 (b + 5) h fun t8 h =>
 K t8 h) h
theorem v50_eq (X : Caller) (L : Looper) (K : Value → AHeap → Prop) (h : AHeap) (t0 : Value) : f50 X L K h t0 = v50 X L K h t0 := by
  unfold f50 v50
  simp only [rdK_rd', nilVK_eq, newVK_eq, boxVK_eq, pickVK_eq, extVK_eq, gF_rd, gF_some, gF_nil, gF_pick, gF_ext, bumpK_eq, regV_eq, ld1K_eq', ldNK_eq', binVK_eq', binCK_eq', binDK_eq', stVK_eq, fAddrK_eq', ixSK_eq', ixRK_eq', unVK_eq', opF_eq]
theorem w50_eq (X : Caller) (L : Looper) (K : Value → AHeap → Prop) (h : AHeap) (t0 : Value) : aJob P X L (.call 50 [t0]) K h = v50 X L K h t0 := (f50_eq X L K h t0).trans (v50_eq X L K h t0)
def v51 (X : Caller) (L : Looper) (K : Value → AHeap → Prop) (h : AHeap) : Prop :=
 bumpK 1 h fun h =>
 regV 3 h fun b h =>
 rd' (buildA P 170 [(3, (.bool true))]) fun t1 =>
 boxVK t1 (b + 1) h fun t2 h =>
 K t2 h
theorem v51_eq (X : Caller) (L : Looper) (K : Value → AHeap → Prop) (h : AHeap) : f51 X L K h  = v51 X L K h  := by
  unfold f51 v51
  simp only [rdK_rd', nilVK_eq, newVK_eq, boxVK_eq, pickVK_eq, extVK_eq, gF_rd, gF_some, gF_nil, gF_pick, gF_ext, bumpK_eq, regV_eq, ld1K_eq', ldNK_eq', binVK_eq', binCK_eq', binDK_eq', stVK_eq, fAddrK_eq', ixSK_eq', ixRK_eq', unVK_eq', opF_eq]
theorem w51_eq (X : Caller) (L : Looper) (K : Value → AHeap → Prop) (h : AHeap) : aJob P X L (.call 51 []) K h = v51 X L K h  := (f51_eq X L K h ).trans (v51_eq X L K h )
def v52 (X : Caller) (L : Looper) (K : Value → AHeap → Prop) (h : AHeap) (t0 : Value) : Prop :=
 bumpK 1 h fun h =>
 bumpK 11 h fun h =>
 binCK P .eql 42 42 t0 (.pointer none) h fun t4 =>
 gF (wantV t4 false) (fun k => k t0) fun t6 =>
 gF (wantV t4 false) (nilVK t6) fun t7 =>
 gF (wantV t4 false) (fAddrK 0 t7) fun t8 =>
 gF (wantV t4 false) (fAddrK 0 t8) fun t9 =>
 gF (wantV t4 false) (ld1K t9 h) fun t10 =>
 gF (wantV t4 false) (binCK P .eql 83 83 t10 (.pointer none) h) fun t11 =>
 pickVK t4 (.bool true) t11 fun t12 =>
 K t12 h
theorem v52_eq (X : Caller) (L : Looper) (K : Value → AHeap → Prop) (h : AHeap) (t0 : Value) : f52 X L K h t0 = v52 X L K h t0 := by
  unfold f52 v52
  simp only [rdK_rd', nilVK_eq, newVK_eq, boxVK_eq, pickVK_eq, extVK_eq, gF_rd, gF_some, gF_nil, gF_pick, gF_ext, bumpK_eq, regV_eq, ld1K_eq', ldNK_eq', binVK_eq', binCK_eq', binDK_eq', stVK_eq, fAddrK_eq', ixSK_eq', ixRK_eq', unVK_eq', opF_eq]
theorem w52_eq (X : Caller) (L : Looper) (K : Value → AHeap → Prop) (h : AHeap) (t0 : Value) : aJob P X L (.call 52 [t0]) K h = v52 X L K h t0 := (f52_eq X L K h t0).trans (v52_eq X L K h t0)
def v53 (X : Caller) (L : Looper) (K : Value → AHeap → Prop) (h : AHeap) (t0 : Value) : Prop :=
 bumpK 1 h fun h =>
 bumpK 3 h fun h =>
 X (.call 85 [t0, (.int .u32 0)]) (fun t4 h =>
 binCK P .neq 24 24 t4 (.int .i64 0) h fun t5 =>
 condK t5
 (bumpK 1 h fun h =>
  K (.int .u64 0) h)
 (bumpK 6 h fun h =>
 nilVK t0 fun t7 =>
 fAddrK 0 t7 fun t8 =>
 ld1K t8 h fun t9 =>
 X (.call 86 [t9]) (fun t10 h =>
 K t10 h) h)) h
theorem v53_eq (X : Caller) (L : Looper) (K : Value → AHeap → Prop) (h : AHeap) (t0 : Value) : f53 X L K h t0 = v53 X L K h t0 := by
  unfold f53 v53
  simp only [rdK_rd', nilVK_eq, newVK_eq, boxVK_eq, pickVK_eq, extVK_eq, gF_rd, gF_some, gF_nil, gF_pick, gF_ext, bumpK_eq, regV_eq, ld1K_eq', ldNK_eq', binVK_eq', binCK_eq', binDK_eq', stVK_eq, fAddrK_eq', ixSK_eq', ixRK_eq', unVK_eq', opF_eq]
theorem w53_eq (X : Caller) (L : Looper) (K : Value → AHeap → Prop) (h : AHeap) (t0 : Value) : aJob P X L (.call 53 [t0]) K h = v53 X L K h t0 := (f53_eq X L K h t0).trans (v53_eq X L K h t0)
def v54_l3 (X : Caller) (L : Looper) (a : AAct) (K : ActPost) (h : AHeap) : Prop :=
 bumpK 1 h fun h =>
 binVK P .lss 3 3 (a.env 30) (a.env 29) h fun t31 =>
 condK t31
 (regV 4 h fun b_1 h =>
 ixSK 3 (a.env 28) (a.env 30) fun t32 =>
 ldNK 3 t32 h fun t33 =>
 newVK [.int .u32 0, .int .u64 0, .int .u64 0] (b_1 + 2) h fun t8 h =>
 stVK 3 t8 t33 h fun h =>
 bumpK 4 h fun h =>
 fAddrK 0 t8 fun t35 =>
 ld1K t35 h fun t36 =>
 callV X (a.env 6) [t36] (fun t37 h =>
 bumpK 2 h fun h =>
 binCK P .add 3 3 (a.env 30) (.int .i64 1) h fun t38 =>
 K .normal ⟨(upds a.env [(31, t31), (32, t32), (33, t33), (8, t8), (34, (a.env 6)), (35, t35), (36, t36), (37, t37), (38, t38), (30, t38)]), a.defers⟩ h) h)
 (K (.exit 0) ⟨(upds a.env [(31, t31)]), a.defers⟩ h)
theorem v54_l3_eq (X : Caller) (L : Looper) (a : AAct) (K : ActPost) (h : AHeap) : f54_l3 X L a K h = v54_l3 X L a K h := by
  unfold f54_l3 v54_l3
  simp only [rdK_rd', nilVK_eq, newVK_eq, boxVK_eq, pickVK_eq, extVK_eq, gF_rd, gF_some, gF_nil, gF_pick, gF_ext, bumpK_eq, regV_eq, ld1K_eq', ldNK_eq', binVK_eq', binCK_eq', binDK_eq', stVK_eq, fAddrK_eq', ixSK_eq', ixRK_eq', unVK_eq', opF_eq]
theorem v54_l3_eq' (X : Caller) (L : Looper) : f54_l3 X L = v54_l3 X L := by
  funext a K h; exact v54_l3_eq X L a K h
def v54_l15 (X : Caller) (L : Looper) (a : AAct) (K : ActPost) (h : AHeap) : Prop :=
 bumpK 1 h fun h =>
 binVK P .lss 3 3 (a.env 87) (a.env 86) h fun t88 =>
 condK t88
 (bumpK 3 h fun h =>
 ixSK 1 (a.env 85) (a.env 87) fun t89 =>
 ld1K t89 h fun t90 =>
 bumpK 3 h fun h =>
 callV X (a.env 14) [t90] (fun t93 h =>
 bumpK 2 h fun h =>
 binCK P .add 3 3 (a.env 87) (.int .i64 1) h fun t94 =>
 K .normal ⟨(upds a.env [(88, t88), (89, t89), (90, t90), (16, t90), (91, (a.env 14)), (92, t90), (93, t93), (94, t94), (87, t94)]), a.defers⟩ h) h)
 (K (.exit 2) ⟨(upds a.env [(88, t88)]), a.defers⟩ h)
theorem v54_l15_eq (X : Caller) (L : Looper) (a : AAct) (K : ActPost) (h : AHeap) : f54_l15 X L a K h = v54_l15 X L a K h := by
  unfold f54_l15 v54_l15
  simp only [rdK_rd', nilVK_eq, newVK_eq, boxVK_eq, pickVK_eq, extVK_eq, gF_rd, gF_some, gF_nil, gF_pick, gF_ext, bumpK_eq, regV_eq, ld1K_eq', ldNK_eq', binVK_eq', binCK_eq', binDK_eq', stVK_eq, fAddrK_eq', ixSK_eq', ixRK_eq', unVK_eq', opF_eq, v54_l3_eq, v54_l3_eq']
theorem v54_l15_eq' (X : Caller) (L : Looper) : f54_l15 X L = v54_l15 X L := by
  funext a K h; exact v54_l15_eq X L a K h
def v54_j9 (X : Caller) (L : Looper) (K : Value → AHeap → Prop) (h : AHeap) (a : AAct) : Prop :=
 bumpK 13 h fun h =>
 nilVK (a.env 0) fun t97 =>
 fAddrK 0 t97 fun t98 =>
 fAddrK 0 t98 fun t99 =>
 ld1K t99 h fun t100 =>
 X (.call 91 [t100]) (fun t101 h =>
 extVK 0 t101 fun t102 =>
 extVK 1 t101 fun t103 =>
 extVK 2 t101 fun t104 =>
 bumpK 8 h fun h =>
 nilVK (a.env 0) fun t107 =>
 fAddrK 0 t107 fun t108 =>
 fAddrK 0 t108 fun t109 =>
 ld1K t109 h fun t110 =>
 X (.call 62 [t110]) (fun t111 h =>
 X (.call 92 [t102, t111]) (fun t112 h =>
 condK t112
 (bumpK 2 h fun h =>
  X (.call 93 [(a.env 0)]) (fun t114 h =>
  leaveA P X Tryz.f54 ⟨(upds a.env [(96, (a.env 0)), (97, t97), (98, t98), (99, t99), (100, t100), (101, t101), (95, t101), (102, t102), (103, t103), (104, t104), (17, t102), (18, t103), (19, t104), (105, t102), (106, (a.env 0)), (107, t107), (108, t108), (109, t109), (110, t110), (111, t111), (112, t112), (113, (a.env 0)), (114, t114)]), a.defers⟩ K a.defers h) h)
 (leaveA P X Tryz.f54 ⟨(upds a.env [(96, (a.env 0)), (97, t97), (98, t98), (99, t99), (100, t100), (101, t101), (95, t101), (102, t102), (103, t103), (104, t104), (17, t102), (18, t103), (19, t104), (105, t102), (106, (a.env 0)), (107, t107), (108, t108), (109, t109), (110, t110), (111, t111), (112, t112)]), a.defers⟩ K a.defers h)) h) h) h
theorem v54_j9_eq (X : Caller) (L : Looper) (K : Value → AHeap → Prop) (h : AHeap) (a : AAct) : f54_j9 X L K h a = v54_j9 X L K h a := by
  unfold f54_j9 v54_j9
  simp only [rdK_rd', nilVK_eq, newVK_eq, boxVK_eq, pickVK_eq, extVK_eq, gF_rd, gF_some, gF_nil, gF_pick, gF_ext, bumpK_eq, regV_eq, ld1K_eq', ldNK_eq', binVK_eq', binCK_eq', binDK_eq', stVK_eq, fAddrK_eq', ixSK_eq', ixRK_eq', unVK_eq', opF_eq, v54_l3_eq, v54_l3_eq', v54_l15_eq, v54_l15_eq']
def v54_j1 (X : Caller) (L : Looper) (K : Value → AHeap → Prop) (h : AHeap) (a : AAct) : Prop :=
 bumpK 3 h fun h =>
 callV X (a.env 2) [] (fun t40 h =>
 bumpK 11 h fun h =>
 nilVK (a.env 0) fun t43 =>
 fAddrK 0 t43 fun t44 =>
 fAddrK 3 t44 fun t45 =>
 ld1K t45 h fun t46 =>
 X (.call 88 [t46]) (fun t47 h =>
 extVK 0 t47 fun t48 =>
 extVK 1 t47 fun t49 =>
 bumpK 6 h fun h =>
 binCK P .gtr 3 3 t48 (.int .i64 0) h fun t51 =>
 gF (wantV t51 false) (fun k => k t49) fun t53 =>
 gF (wantV t51 false) (binCK P .gtr 3 3 t53 (.int .i64 0) h) fun t54 =>
 pickVK t51 (.bool true) t54 fun t55 =>
 condK t55
 (bumpK 29 h fun h =>
  nilVK (a.env 0) fun t58 =>
  fAddrK 0 t58 fun t59 =>
  fAddrK 2 t59 fun t60 =>
  ld1K t60 h fun t61 =>
  nilVK (a.env 0) fun t64 =>
  fAddrK 0 t64 fun t65 =>
  fAddrK 2 t65 fun t66 =>
  ld1K t66 h fun t67 =>
  nilVK (a.env 0) fun t71 =>
  fAddrK 6 t71 fun t72 =>
  fAddrK 0 t72 fun t73 =>
  ld1K t73 h fun t74 =>
  nilVK (a.env 0) fun t76 =>
  fAddrK 6 t76 fun t77 =>
  fAddrK 1 t77 fun t78 =>
  ld1K t78 h fun t79 =>
  X (.call 90 [t61, (.int .i64 0)]) (fun t62 h =>
  chkK (chkR ((ld1 t78 h).map (·, h)) t79 (chkR ((ld1 t73 h).map (·, h)) t74 (chkR ((ld1 t66 h).map (·, h)) t67 true))) <|
  X (.call 90 [t67, (.int .i64 1)]) (fun t68 h =>
  chkK (chkR ((ld1 t78 h).map (·, h)) t79 (chkR ((ld1 t73 h).map (·, h)) t74 true)) <|
  X (.call 89 [t62, t68, t40, t74, t79]) (fun t80 h =>
  extVK 0 t80 fun t81 =>
  extVK 1 t80 fun t82 =>
  bumpK 3 h fun h =>
  X (.call 35 [(a.env 0), (.int .i64 2)]) (fun t84 h =>
  regV 3 h fun b_2 h =>
  opF (builtinV P .len [143] [t81] (b_2 + 1) h) fun t86 h =>
  L (v54_l15 X L) ⟨(upds a.env [(39, (a.env 2)), (40, t40), (9, t40), (42, (a.env 0)), (43, t43), (44, t44), (45, t45), (46, t46), (47, t47), (41, t47), (48, t48), (49, t49), (10, t48), (11, t49), (50, t48), (51, t51), (52, t51), (53, t53), (54, t54), (55, t55), (57, (a.env 0)), (58, t58), (59, t59), (60, t60), (61, t61), (63, (a.env 0)), (64, t64), (65, t65), (66, t66), (67, t67), (69, t40), (70, (a.env 0)), (71, t71), (72, t72), (73, t73), (74, t74), (75, (a.env 0)), (76, t76), (77, t77), (78, t78), (79, t79), (62, t62), (68, t68), (80, t80), (56, t80), (81, t81), (82, t82), (12, t81), (13, t82), (83, (a.env 0)), (84, t84), (14, t84), (85, t81), (86, t86), (87, (.int .i64 0))]), a.defers⟩ (blkX 2 (seqX (fun a h => v54_j9 X L K h a) (finX P X Tryz.f54 K))) h) h) h) h) h)
 (v54_j9 X L K h ⟨(upds a.env [(39, (a.env 2)), (40, t40), (9, t40), (42, (a.env 0)), (43, t43), (44, t44), (45, t45), (46, t46), (47, t47), (41, t47), (48, t48), (49, t49), (10, t48), (11, t49), (50, t48), (51, t51), (52, t51), (53, t53), (54, t54), (55, t55)]), a.defers⟩)) h) h
theorem v54_j1_eq (X : Caller) (L : Looper) (K : Value → AHeap → Prop) (h : AHeap) (a : AAct) : f54_j1 X L K h a = v54_j1 X L K h a := by
  unfold f54_j1 v54_j1
  simp only [rdK_rd', nilVK_eq, newVK_eq, boxVK_eq, pickVK_eq, extVK_eq, gF_rd, gF_some, gF_nil, gF_pick, gF_ext, bumpK_eq, regV_eq, ld1K_eq', ldNK_eq', binVK_eq', binCK_eq', binDK_eq', stVK_eq, fAddrK_eq', ixSK_eq', ixRK_eq', unVK_eq', opF_eq, v54_l3_eq, v54_l3_eq', v54_l15_eq, v54_l15_eq', v54_j9_eq]
def v54 (X : Caller) (L : Looper) (K : Value → AHeap → Prop) (h : AHeap) (t0 t1 t2 : Value) : Prop :=
 bumpK 3 h fun h =>
 X (.call 35 [t0, (.int .i64 1)]) (fun t21 h =>
 regV 9 h fun b h =>
 nilVK t0 fun t23 =>
 fAddrK 0 t23 fun t24 =>
 fAddrK 4 t24 fun t25 =>
 ld1K t25 h fun t26 =>
 X (.call 87 [t26, t1]) (fun t28 h =>
 opF (builtinV P .len [171] [t28] (b + 7) h) fun t29 h =>
 L (v54_l3 X L) ⟨(upds (argsEnv [t0, t1, t2]) [(20, t0), (21, t21), (6, t21), (22, t0), (23, t23), (24, t24), (25, t25), (26, t26), (27, t1), (28, t28), (29, t29), (30, (.int .i64 0))]), []⟩ (blkX 0 (seqX (fun a h => v54_j1 X L K h a) (finX P X Tryz.f54 K))) h) h) h
theorem v54_eq (X : Caller) (L : Looper) (K : Value → AHeap → Prop) (h : AHeap) (t0 t1 t2 : Value) : f54 X L K h t0 t1 t2 = v54 X L K h t0 t1 t2 := by
  unfold f54 v54
  simp only [rdK_rd', nilVK_eq, newVK_eq, boxVK_eq, pickVK_eq, extVK_eq, gF_rd, gF_some, gF_nil, gF_pick, gF_ext, bumpK_eq, regV_eq, ld1K_eq', ldNK_eq', binVK_eq', binCK_eq', binDK_eq', stVK_eq, fAddrK_eq', ixSK_eq', ixRK_eq', unVK_eq', opF_eq, v54_l3_eq, v54_l3_eq', v54_l15_eq, v54_l15_eq', v54_j9_eq, v54_j1_eq]
theorem w54_eq (X : Caller) (L : Looper) (K : Value → AHeap → Prop) (h : AHeap) (t0 t1 t2 : Value) : aJob P X L (.call 54 [t0, t1, t2]) K h = v54 X L K h t0 t1 t2 := (f54_eq X L K h t0 t1 t2).trans (v54_eq X L K h t0 t1 t2)
def v55 (X : Caller) (L : Looper) (K : Value → AHeap → Prop) (h : AHeap) : Prop :=
 bumpK 1 h fun h =>
 bumpK 1 h fun h =>
 K (.int .u32 4294967295) h
theorem v55_eq (X : Caller) (L : Looper) (K : Value → AHeap → Prop) (h : AHeap) : f55 X L K h  = v55 X L K h  := by
  unfold f55 v55
  simp only [rdK_rd', nilVK_eq, newVK_eq, boxVK_eq, pickVK_eq, extVK_eq, gF_rd, gF_some, gF_nil, gF_pick, gF_ext, bumpK_eq, regV_eq, ld1K_eq', ldNK_eq', binVK_eq', binCK_eq', binDK_eq', stVK_eq, fAddrK_eq', ixSK_eq', ixRK_eq', unVK_eq', opF_eq]
theorem w55_eq (X : Caller) (L : Looper) (K : Value → AHeap → Prop) (h : AHeap) : aJob P X L (.call 55 []) K h = v55 X L K h  := (f55_eq X L K h ).trans (v55_eq X L K h )
def v57 (X : Caller) (L : Looper) (K : Value → AHeap → Prop) (h : AHeap) (t0 : Value) : Prop :=
 bumpK 1 h fun h =>
 bumpK 2 h fun h =>
 X (.call 94 [t0]) (fun t4 h =>
 condK t4
 (bumpK 1 h fun h =>
  K (.int .i64 0) h)
 (bumpK 6 h fun h =>
 nilVK t0 fun t6 =>
 fAddrK 2 t6 fun t7 =>
 fAddrK 6 t7 fun t8 =>
 ld1K t8 h fun t9 =>
 K t9 h)) h
theorem v57_eq (X : Caller) (L : Looper) (K : Value → AHeap → Prop) (h : AHeap) (t0 : Value) : f57 X L K h t0 = v57 X L K h t0 := by
  unfold f57 v57
  simp only [rdK_rd', nilVK_eq, newVK_eq, boxVK_eq, pickVK_eq, extVK_eq, gF_rd, gF_some, gF_nil, gF_pick, gF_ext, bumpK_eq, regV_eq, ld1K_eq', ldNK_eq', binVK_eq', binCK_eq', binDK_eq', stVK_eq, fAddrK_eq', ixSK_eq', ixRK_eq', unVK_eq', opF_eq]
theorem w57_eq (X : Caller) (L : Looper) (K : Value → AHeap → Prop) (h : AHeap) (t0 : Value) : aJob P X L (.call 57 [t0]) K h = v57 X L K h t0 := (f57_eq X L K h t0).trans (v57_eq X L K h t0)
def v59 (X : Caller) (L : Looper) (K : Value → AHeap → Prop) (h : AHeap) : Prop :=
 bumpK 1 h fun h =>
 bumpK 1 h fun h =>
 K (.int .u64 18446744073709551615) h
theorem v59_eq (X : Caller) (L : Looper) (K : Value → AHeap → Prop) (h : AHeap) : f59 X L K h  = v59 X L K h  := by
  unfold f59 v59
  simp only [rdK_rd', nilVK_eq, newVK_eq, boxVK_eq, pickVK_eq, extVK_eq, gF_rd, gF_some, gF_nil, gF_pick, gF_ext, bumpK_eq, regV_eq, ld1K_eq', ldNK_eq', binVK_eq', binCK_eq', binDK_eq', stVK_eq, fAddrK_eq', ixSK_eq', ixRK_eq', unVK_eq', opF_eq]
theorem w59_eq (X : Caller) (L : Looper) (K : Value → AHeap → Prop) (h : AHeap) : aJob P X L (.call 59 []) K h = v59 X L K h  := (f59_eq X L K h ).trans (v59_eq X L K h )
def v60 (X : Caller) (L : Looper) (K : Value → AHeap → Prop) (h : AHeap) (t0 t1 : Value) : Prop :=
 bumpK 1 h fun h =>
 bumpK 9 h fun h =>
 ld1K t0 h fun t3 =>
 nilVK t3 fun t4 =>
 fAddrK 0 t4 fun t5 =>
 fAddrK 4 t5 fun t6 =>
 ld1K t6 h fun t7 =>
 ld1K t1 h fun t9 =>
 X (.call 53 [t7]) (fun t8 h =>
 chkK (chkR ((ld1 t1 h).map (·, h)) t9 true) <|
 X (.call 61 [t8, t9]) (fun t10 h =>
 K t10 h) h) h
theorem v60_eq (X : Caller) (L : Looper) (K : Value → AHeap → Prop) (h : AHeap) (t0 t1 : Value) : f60 X L K h t0 t1 = v60 X L K h t0 t1 := by
  unfold f60 v60
  simp only [rdK_rd', nilVK_eq, newVK_eq, boxVK_eq, pickVK_eq, extVK_eq, gF_rd, gF_some, gF_nil, gF_pick, gF_ext, bumpK_eq, regV_eq, ld1K_eq', ldNK_eq', binVK_eq', binCK_eq', binDK_eq', stVK_eq, fAddrK_eq', ixSK_eq', ixRK_eq', unVK_eq', opF_eq]
theorem w60_eq (X : Caller) (L : Looper) (K : Value → AHeap → Prop) (h : AHeap) (t0 t1 : Value) : aJob P X L (.call 60 [t0, t1]) K h = v60 X L K h t0 t1 := (f60_eq X L K h t0 t1).trans (v60_eq X L K h t0 t1)
def v61 (X : Caller) (L : Looper) (K : Value → AHeap → Prop) (h : AHeap) (t0 t1 : Value) : Prop :=
 bumpK 1 h fun h =>
 bumpK 4 h fun h =>
 binDK P .sub 33 33 (.int .u64 18446744073709551615) t0 h fun t6 =>
 binVK P .leq 27 27 t6 t1 h fun t8 =>
 condK t8
 (bumpK 1 h fun h =>
  K (.int .u64 18446744073709551615) h)
 (bumpK 4 h fun h =>
 binVK P .add 33 33 t0 t1 h fun t11 =>
 K t11 h)
theorem v61_eq (X : Caller) (L : Looper) (K : Value → AHeap → Prop) (h : AHeap) (t0 t1 : Value) : f61 X L K h t0 t1 = v61 X L K h t0 t1 := by
  unfold f61 v61
  simp only [rdK_rd', nilVK_eq, newVK_eq, boxVK_eq, pickVK_eq, extVK_eq, gF_rd, gF_some, gF_nil, gF_pick, gF_ext, bumpK_eq, regV_eq, ld1K_eq', ldNK_eq', binVK_eq', binCK_eq', binDK_eq', stVK_eq, fAddrK_eq', ixSK_eq', ixRK_eq', unVK_eq', opF_eq]
theorem w61_eq (X : Caller) (L : Looper) (K : Value → AHeap → Prop) (h : AHeap) (t0 t1 : Value) : aJob P X L (.call 61 [t0, t1]) K h = v61 X L K h t0 t1 := (f61_eq X L K h t0 t1).trans (v61_eq X L K h t0 t1)
def v62 (X : Caller) (L : Looper) (K : Value → AHeap → Prop) (h : AHeap) (t0 : Value) : Prop :=
 bumpK 1 h fun h =>
 bumpK 2 h fun h =>
 X (.call 73 [t0]) (fun t4 h =>
 condK t4
 (bumpK 1 h fun h =>
  K (.int .i64 0) h)
 (bumpK 7 h fun h =>
 nilVK t0 fun t6 =>
 fAddrK 0 t6 fun t7 =>
 fAddrK 0 t7 fun t8 =>
 ld1K t8 h fun t9 =>
 X (.call 103 [t9]) (fun t10 h =>
 K t10 h) h)) h
theorem v62_eq (X : Caller) (L : Looper) (K : Value → AHeap → Prop) (h : AHeap) (t0 : Value) : f62 X L K h t0 = v62 X L K h t0 := by
  unfold f62 v62
  simp only [rdK_rd', nilVK_eq, newVK_eq, boxVK_eq, pickVK_eq, extVK_eq, gF_rd, gF_some, gF_nil, gF_pick, gF_ext, bumpK_eq, regV_eq, ld1K_eq', ldNK_eq', binVK_eq', binCK_eq', binDK_eq', stVK_eq, fAddrK_eq', ixSK_eq', ixRK_eq', unVK_eq', opF_eq]
theorem w62_eq (X : Caller) (L : Looper) (K : Value → AHeap → Prop) (h : AHeap) (t0 : Value) : aJob P X L (.call 62 [t0]) K h = v62 X L K h t0 := (f62_eq X L K h t0).trans (v62_eq X L K h t0)
def v63_l3 (X : Caller) (L : Looper) (a : AAct) (K : ActPost) (h : AHeap) : Prop :=
 bumpK 1 h fun h =>
 binVK P .lss 3 3 (a.env 7) (a.env 6) h fun t8 =>
 condK t8
 (bumpK 3 h fun h =>
 ixSK 1 (a.env 5) (a.env 7) fun t9 =>
 ld1K t9 h fun t10 =>
 bumpK 2 h fun h =>
 binCK P .neq 24 24 t10 (.int .i64 0) h fun t12 =>
 condK t12
 (bumpK 2 h fun h =>
  K .ret ⟨(upds a.env [(8, t8), (9, t9), (10, t10), (4, t10), (11, t10), (12, t12), (13, t10), (2, t10)]), a.defers⟩ h)
 (bumpK 2 h fun h =>
 binCK P .add 3 3 (a.env 7) (.int .i64 1) h fun t14 =>
 K .normal ⟨(upds a.env [(8, t8), (9, t9), (10, t10), (4, t10), (11, t10), (12, t12), (14, t14), (7, t14)]), a.defers⟩ h))
 (K (.exit 0) ⟨(upds a.env [(8, t8)]), a.defers⟩ h)
theorem v63_l3_eq (X : Caller) (L : Looper) (a : AAct) (K : ActPost) (h : AHeap) : f63_l3 X L a K h = v63_l3 X L a K h := by
  unfold f63_l3 v63_l3
  simp only [rdK_rd', nilVK_eq, newVK_eq, boxVK_eq, pickVK_eq, extVK_eq, gF_rd, gF_some, gF_nil, gF_pick, gF_ext, bumpK_eq, regV_eq, ld1K_eq', ldNK_eq', binVK_eq', binCK_eq', binDK_eq', stVK_eq, fAddrK_eq', ixSK_eq', ixRK_eq', unVK_eq', opF_eq]
theorem v63_l3_eq' (X : Caller) (L : Looper) : f63_l3 X L = v63_l3 X L := by
  funext a K h; exact v63_l3_eq X L a K h
def v63_j1 (X : Caller) (L : Looper) (K : Value → AHeap → Prop) (h : AHeap) (a : AAct) : Prop :=
 bumpK 1 h fun h =>
 leaveA P X Tryz.f63 ⟨(upds a.env [(2, (.int .i64 0))]), a.defers⟩ K a.defers h
theorem v63_j1_eq (X : Caller) (L : Looper) (K : Value → AHeap → Prop) (h : AHeap) (a : AAct) : f63_j1 X L K h a = v63_j1 X L K h a := by
  unfold f63_j1 v63_j1
  simp only [rdK_rd', nilVK_eq, newVK_eq, boxVK_eq, pickVK_eq, extVK_eq, gF_rd, gF_some, gF_nil, gF_pick, gF_ext, bumpK_eq, regV_eq, ld1K_eq', ldNK_eq', binVK_eq', binCK_eq', binDK_eq', stVK_eq, fAddrK_eq', ixSK_eq', ixRK_eq', unVK_eq', opF_eq, v63_l3_eq, v63_l3_eq']
def v63 (X : Caller) (L : Looper) (K : Value → AHeap → Prop) (h : AHeap) (t0 : Value) : Prop :=
 bumpK 1 h fun h =>
 regV 3 h fun b h =>
 opF (builtinV P .len [121] [t0] (b + 1) h) fun t6 h =>
 L (v63_l3 X L) ⟨(upds (argsEnv [t0]) [(2, (.int .i64 0)), (5, t0), (6, t6), (7, (.int .i64 0))]), []⟩ (blkX 0 (seqX (fun a h => v63_j1 X L K h a) (finX P X Tryz.f63 K))) h
theorem v63_eq (X : Caller) (L : Looper) (K : Value → AHeap → Prop) (h : AHeap) (t0 : Value) : f63 X L K h t0 = v63 X L K h t0 := by
  unfold f63 v63
  simp only [rdK_rd', nilVK_eq, newVK_eq, boxVK_eq, pickVK_eq, extVK_eq, gF_rd, gF_some, gF_nil, gF_pick, gF_ext, bumpK_eq, regV_eq, ld1K_eq', ldNK_eq', binVK_eq', binCK_eq', binDK_eq', stVK_eq, fAddrK_eq', ixSK_eq', ixRK_eq', unVK_eq', opF_eq, v63_l3_eq, v63_l3_eq', v63_j1_eq]
theorem w63_eq (X : Caller) (L : Looper) (K : Value → AHeap → Prop) (h : AHeap) (t0 : Value) : aJob P X L (.call 63 [t0]) K h = v63 X L K h t0 := (f63_eq X L K h t0).trans (v63_eq X L K h t0)
def v64 (X : Caller) (L : Looper) (K : Value → AHeap → Prop) (h : AHeap) (t0 t1 : Value) : Prop :=
 bumpK 1 h fun h =>
 bumpK 1 h fun h =>
 condK t0
 (bumpK 1 h fun h =>
  K (.int .i64 0) h)
 (bumpK 2 h fun h =>
 K t1 h)
theorem v64_eq (X : Caller) (L : Looper) (K : Value → AHeap → Prop) (h : AHeap) (t0 t1 : Value) : f64 X L K h t0 t1 = v64 X L K h t0 t1 := by
  unfold f64 v64
  simp only [rdK_rd', nilVK_eq, newVK_eq, boxVK_eq, pickVK_eq, extVK_eq, gF_rd, gF_some, gF_nil, gF_pick, gF_ext, bumpK_eq, regV_eq, ld1K_eq', ldNK_eq', binVK_eq', binCK_eq', binDK_eq', stVK_eq, fAddrK_eq', ixSK_eq', ixRK_eq', unVK_eq', opF_eq]
theorem w64_eq (X : Caller) (L : Looper) (K : Value → AHeap → Prop) (h : AHeap) (t0 t1 : Value) : aJob P X L (.call 64 [t0, t1]) K h = v64 X L K h t0 t1 := (f64_eq X L K h t0 t1).trans (v64_eq X L K h t0 t1)
def v65_j2 (X : Caller) (L : Looper) (K : Value → AHeap → Prop) (h : AHeap) (t4 : Value) : Prop :=
 bumpK 1 h fun h =>
 K (.int .u32 4294967295) h
theorem v65_j2_eq (X : Caller) (L : Looper) (K : Value → AHeap → Prop) (h : AHeap) (t4 : Value) : f65_j2 X L K h t4 = v65_j2 X L K h t4 := by
  unfold f65_j2 v65_j2
  simp only [rdK_rd', nilVK_eq, newVK_eq, boxVK_eq, pickVK_eq, extVK_eq, gF_rd, gF_some, gF_nil, gF_pick, gF_ext, bumpK_eq, regV_eq, ld1K_eq', ldNK_eq', binVK_eq', binCK_eq', binDK_eq', stVK_eq, fAddrK_eq', ixSK_eq', ixRK_eq', unVK_eq', opF_eq]
def v65 (X : Caller) (L : Looper) (K : Value → AHeap → Prop) (h : AHeap) (t0 t1 t2 t3 : Value) : Prop :=
 bumpK 1 h fun h =>
 bumpK 12 h fun h =>
 ld1K t0 h fun t8 =>
 nilVK t8 fun t9 =>
 fAddrK 0 t9 fun t10 =>
 fAddrK 0 t10 fun t11 =>
 ld1K t11 h fun t12 =>
 ld1K t1 h fun t13 =>
 X (.call 66 [t12, t13]) (fun t14 h =>
 extVK 0 t14 fun t15 =>
 extVK 1 t14 fun t16 =>
 bumpK 3 h fun h =>
 binCK P .eql 24 24 t16 (.int .i64 0) h fun t18 =>
 stVK 1 t2 t18 h fun h =>
 bumpK 1 h fun h =>
 ld1K t2 h fun t19 =>
 condK t19
 (bumpK 3 h fun h =>
  ld1K t3 h fun t20 =>
  callV X t20 [t15] (fun t22 h =>
  v65_j2 X L K h ((.int .u32 0))) h)
 (v65_j2 X L K h ((.int .u32 0)))) h
theorem v65_eq (X : Caller) (L : Looper) (K : Value → AHeap → Prop) (h : AHeap) (t0 t1 t2 t3 : Value) : f65 X L K h t0 t1 t2 t3 = v65 X L K h t0 t1 t2 t3 := by
  unfold f65 v65
  simp only [rdK_rd', nilVK_eq, newVK_eq, boxVK_eq, pickVK_eq, extVK_eq, gF_rd, gF_some, gF_nil, gF_pick, gF_ext, bumpK_eq, regV_eq, ld1K_eq', ldNK_eq', binVK_eq', binCK_eq', binDK_eq', stVK_eq, fAddrK_eq', ixSK_eq', ixRK_eq', unVK_eq', opF_eq, v65_j2_eq]
theorem w65_eq (X : Caller) (L : Looper) (K : Value → AHeap → Prop) (h : AHeap) (t0 t1 t2 t3 : Value) : aJob P X L (.call 65 [t0, t1, t2, t3]) K h = v65 X L K h t0 t1 t2 t3 := (f65_eq X L K h t0 t1 t2 t3).trans (v65_eq X L K h t0 t1 t2 t3)
def v66 (X : Caller) (L : Looper) (K : Value → AHeap → Prop) (h : AHeap) (t0 t1 : Value) : Prop :=
 regV 4 h fun b h =>
 boxVK t0 (b + 0) h fun t2 h =>
 boxVK t1 (b + 1) h fun t3 h =>
 bumpK 2 h fun h =>
 ld1K t2 h fun t6 =>
 X (.call 73 [t6]) (fun t7 h =>
 condK t7
 (bumpK 2 h fun h =>
  K (.tuple #[(.int .u32 0), (.int .i64 1)]) h)
 (bumpK 16 h fun h =>
 ld1K t2 h fun t8 =>
 nilVK t8 fun t9 =>
 fAddrK 3 t9 fun t10 =>
 ld1K t10 h fun t11 =>
 ld1K t2 h fun t12 =>
 nilVK t12 fun t13 =>
 fAddrK 1 t13 fun t14 =>
 ldNK 2 t14 h fun t15 =>
 ld1K t3 h fun t16 =>
 X (.call 105 [t15, t16]) (fun t17 h =>
 chkK (chkR ((ld1 t10 h).map (·, h)) t11 (chkR ((ld1 t2 h).map (·, h)) t8 true)) <|
 X (.call 104 [t11, t17, (.func (.func 106) #[] #[t2, t3])]) (fun t19 h =>
 extVK 0 t19 fun t20 =>
 extVK 1 t19 fun t21 =>
 K (.tuple #[t20, t21]) h) h) h)) h
theorem v66_eq (X : Caller) (L : Looper) (K : Value → AHeap → Prop) (h : AHeap) (t0 t1 : Value) : f66 X L K h t0 t1 = v66 X L K h t0 t1 := by
  unfold f66 v66
  simp only [rdK_rd', nilVK_eq, newVK_eq, boxVK_eq, pickVK_eq, extVK_eq, gF_rd, gF_some, gF_nil, gF_pick, gF_ext, bumpK_eq, regV_eq, ld1K_eq', ldNK_eq', binVK_eq', binCK_eq', binDK_eq', stVK_eq, fAddrK_eq', ixSK_eq', ixRK_eq', unVK_eq', opF_eq]
theorem w66_eq (X : Caller) (L : Looper) (K : Value → AHeap → Prop) (h : AHeap) (t0 t1 : Value) : aJob P X L (.call 66 [t0, t1]) K h = v66 X L K h t0 t1 := (f66_eq X L K h t0 t1).trans (v66_eq X L K h t0 t1)
def v67 (X : Caller) (L : Looper) (K : Value → AHeap → Prop) (h : AHeap) (t0 t1 t2 : Value) : Prop :=
 bumpK 14 h fun h =>
 ld1K t1 h fun t10 =>
 nilVK t10 fun t11 =>
 fAddrK 0 t11 fun t12 =>
 fAddrK 2 t12 fun t13 =>
 ld1K t13 h fun t14 =>
 X (.call 38 [t14, t0]) (fun t16 h =>
 extVK 0 t16 fun t17 =>
 extVK 1 t16 fun t18 =>
 extVK 2 t16 fun t19 =>
 bumpK 7 h fun h =>
 ld1K t1 h fun t20 =>
 nilVK t20 fun t21 =>
 fAddrK 0 t21 fun t22 =>
 fAddrK 2 t22 fun t23 =>
 ld1K t23 h fun t24 =>
 X (.call 68 [t24, t0]) (fun t26 h =>
 bumpK 8 h fun h =>
 ld1K t1 h fun t27 =>
 nilVK t27 fun t28 =>
 fAddrK 0 t28 fun t29 =>
 fAddrK 3 t29 fun t30 =>
 ld1K t30 h fun t31 =>
 X (.call 69 [t31, t17, t18]) (fun t34 h =>
 bumpK 7 h fun h =>
 ld1K t1 h fun t35 =>
 nilVK t35 fun t36 =>
 fAddrK 0 t36 fun t37 =>
 fAddrK 4 t37 fun t38 =>
 ld1K t38 h fun t39 =>
 X (.call 70 [t39, t0]) (fun t41 h =>
 regV 13 h fun b h =>
 ld1K t1 h fun t43 =>
 nilVK t43 fun t44 =>
 fAddrK 0 t44 fun t45 =>
 fAddrK 0 t45 fun t46 =>
 ld1K t46 h fun t47 =>
 X (.call 71 [t47, t0]) (fun t49 h =>
 extVK 0 t49 fun t50 =>
 extVK 1 t49 fun t51 =>
 newVK [.string ⟨#[]⟩, .slice none 0 0, .int .u64 0, .int .u64 0] (b + 10) h fun t7 h =>
 stVK 4 t7 t50 h fun h =>
 bumpK 4 h fun h =>
 ld1K t1 h fun t52 =>
 ld1K t2 h fun t53 =>
 ldNK 4 t7 h fun t54 =>
 X (.call 72 [t52, t53, t54]) (fun t55 h =>
 K (.tuple #[]) h) h) h) h) h) h) h
theorem v67_eq (X : Caller) (L : Looper) (K : Value → AHeap → Prop) (h : AHeap) (t0 t1 t2 : Value) : f67 X L K h t0 t1 t2 = v67 X L K h t0 t1 t2 := by
  unfold f67 v67
  simp only [rdK_rd', nilVK_eq, newVK_eq, boxVK_eq, pickVK_eq, extVK_eq, gF_rd, gF_some, gF_nil, gF_pick, gF_ext, bumpK_eq, regV_eq, ld1K_eq', ldNK_eq', binVK_eq', binCK_eq', binDK_eq', stVK_eq, fAddrK_eq', ixSK_eq', ixRK_eq', unVK_eq', opF_eq]
theorem w67_eq (X : Caller) (L : Looper) (K : Value → AHeap → Prop) (h : AHeap) (t0 t1 t2 : Value) : aJob P X L (.call 67 [t0, t1, t2]) K h = v67 X L K h t0 t1 t2 := (f67_eq X L K h t0 t1 t2).trans (v67_eq X L K h t0 t1 t2)
def v68 (X : Caller) (L : Looper) (K : Value → AHeap → Prop) (h : AHeap) (t0 t1 : Value) : Prop :=
 bumpK 1 h fun h =>
 bumpK 4 h fun h =>
 X (.call 75 [t0, t1, (.int .i64 0)]) (fun t8 h =>
 bumpK 2 h fun h =>
 binCK P .neq 24 24 t8 (.int .i64 0) h fun t10 =>
 condK t10
 (bumpK 2 h fun h =>
  K t8 h)
 (bumpK 4 h fun h =>
 X (.call 108 [t0, t1]) (fun t14 h =>
 unVK P .not 4 t14 fun t15 =>
 condK t15
 (bumpK 1 h fun h =>
  K (.int .i64 9) h)
 (bumpK 1 h fun h =>
 K (.int .i64 0) h)) h)) h
theorem v68_eq (X : Caller) (L : Looper) (K : Value → AHeap → Prop) (h : AHeap) (t0 t1 : Value) : f68 X L K h t0 t1 = v68 X L K h t0 t1 := by
  unfold f68 v68
  simp only [rdK_rd', nilVK_eq, newVK_eq, boxVK_eq, pickVK_eq, extVK_eq, gF_rd, gF_some, gF_nil, gF_pick, gF_ext, bumpK_eq, regV_eq, ld1K_eq', ldNK_eq', binVK_eq', binCK_eq', binDK_eq', stVK_eq, fAddrK_eq', ixSK_eq', ixRK_eq', unVK_eq', opF_eq]
theorem w68_eq (X : Caller) (L : Looper) (K : Value → AHeap → Prop) (h : AHeap) (t0 t1 : Value) : aJob P X L (.call 68 [t0, t1]) K h = v68 X L K h t0 t1 := (f68_eq X L K h t0 t1).trans (v68_eq X L K h t0 t1)
def v69 (X : Caller) (L : Looper) (K : Value → AHeap → Prop) (h : AHeap) (t0 t1 t2 : Value) : Prop :=
 bumpK 1 h fun h =>
 bumpK 5 h fun h =>
 X (.call 109 [t0, t1, t2]) (fun t11 h =>
 bumpK 2 h fun h =>
 binCK P .neq 24 24 t11 (.int .i64 0) h fun t13 =>
 condK t13
 (bumpK 2 h fun h =>
  K t11 h)
 (bumpK 5 h fun h =>
 X (.call 110 [t0, t1, t2]) (fun t18 h =>
 unVK P .not 4 t18 fun t19 =>
 condK t19
 (bumpK 1 h fun h =>
  K (.int .i64 9) h)
 (bumpK 16 h fun h =>
 nilVK t0 fun t24 =>
 fAddrK 2 t24 fun t25 =>
 ixRK 2 2 t25 t1 fun t26 =>
 ldNK 2 t26 h fun t27 =>
 unVK P .neg 3 t2 fun t29 =>
 rd' (buildA P 150 [(0, (.int .i64 (-1))), (1, t29)]) fun t30 =>
 nilVK t0 fun t32 =>
 fAddrK 2 t32 fun t33 =>
 X (.call 111 [t27, t30]) (fun t31 h =>
 ixRK 2 2 t33 t1 fun t34 =>
 stVK 2 t34 t31 h fun h =>
 bumpK 1 h fun h =>
 K (.int .i64 0) h) h)) h)) h
theorem v69_eq (X : Caller) (L : Looper) (K : Value → AHeap → Prop) (h : AHeap) (t0 t1 t2 : Value) : f69 X L K h t0 t1 t2 = v69 X L K h t0 t1 t2 := by
  unfold f69 v69
  simp only [rdK_rd', nilVK_eq, newVK_eq, boxVK_eq, pickVK_eq, extVK_eq, gF_rd, gF_some, gF_nil, gF_pick, gF_ext, bumpK_eq, regV_eq, ld1K_eq', ldNK_eq', binVK_eq', binCK_eq', binDK_eq', stVK_eq, fAddrK_eq', ixSK_eq', ixRK_eq', unVK_eq', opF_eq]
theorem w69_eq (X : Caller) (L : Looper) (K : Value → AHeap → Prop) (h : AHeap) (t0 t1 t2 : Value) : aJob P X L (.call 69 [t0, t1, t2]) K h = v69 X L K h t0 t1 t2 := (f69_eq X L K h t0 t1 t2).trans (v69_eq X L K h t0 t1 t2)
def v70 (X : Caller) (L : Looper) (K : Value → AHeap → Prop) (h : AHeap) (t0 t1 : Value) : Prop :=
 bumpK 1 h fun h =>
 bumpK 4 h fun h =>
 X (.call 85 [t0, t1]) (fun t10 h =>
 bumpK 2 h fun h =>
 binCK P .neq 24 24 t10 (.int .i64 0) h fun t12 =>
 condK t12
 (bumpK 2 h fun h =>
  K t10 h)
 (regV 12 h fun b h =>
 nilVK t0 fun t16 =>
 fAddrK 2 t16 fun t17 =>
 ld1K t17 h fun t18 =>
 rd' (lookupA P 162 t18 t1 true h) fun t20 =>
 extVK 0 t20 fun t21 =>
 extVK 1 t20 fun t22 =>
 newVK [.int .u32 0, .int .u64 0, .int .u64 0] (b + 9) h fun t6 h =>
 stVK 3 t6 t21 h fun h =>
 bumpK 2 h fun h =>
 unVK P .not 4 t22 fun t24 =>
 condK t24
 (bumpK 1 h fun h =>
  K (.int .i64 9) h)
 (bumpK 3 h fun h =>
 ldNK 3 t6 h fun t26 =>
 X (.call 112 [t0, t26]) (fun t27 h =>
 bumpK 1 h fun h =>
 K (.int .i64 0) h) h))) h
theorem v70_eq (X : Caller) (L : Looper) (K : Value → AHeap → Prop) (h : AHeap) (t0 t1 : Value) : f70 X L K h t0 t1 = v70 X L K h t0 t1 := by
  unfold f70 v70
  simp only [rdK_rd', nilVK_eq, newVK_eq, boxVK_eq, pickVK_eq, extVK_eq, gF_rd, gF_some, gF_nil, gF_pick, gF_ext, bumpK_eq, regV_eq, ld1K_eq', ldNK_eq', binVK_eq', binCK_eq', binDK_eq', stVK_eq, fAddrK_eq', ixSK_eq', ixRK_eq', unVK_eq', opF_eq]
theorem w70_eq (X : Caller) (L : Looper) (K : Value → AHeap → Prop) (h : AHeap) (t0 t1 : Value) : aJob P X L (.call 70 [t0, t1]) K h = v70 X L K h t0 t1 := (f70_eq X L K h t0 t1).trans (v70_eq X L K h t0 t1)
def v71_j10 (X : Caller) (L : Looper) (K : Value → AHeap → Prop) (h : AHeap) (t8 t9 t4 t72 t73 t5 : Value) : Prop :=
 bumpK 4 h fun h =>
 ldNK 4 t8 h fun t72_1 =>
 stVK 4 t4 t72_1 h fun h =>
 retK (consR (ldN 4 t4 h) (consR (some t9) (some []))) K h
theorem v71_j10_eq (X : Caller) (L : Looper) (K : Value → AHeap → Prop) (h : AHeap) (t8 t9 t4 t72 t73 t5 : Value) : f71_j10 X L K h t8 t9 t4 t72 t73 t5 = v71_j10 X L K h t8 t9 t4 t72 t73 t5 := by
  unfold f71_j10 v71_j10
  simp only [rdK_rd', nilVK_eq, newVK_eq, boxVK_eq, pickVK_eq, extVK_eq, gF_rd, gF_some, gF_nil, gF_pick, gF_ext, bumpK_eq, regV_eq, ld1K_eq', ldNK_eq', binVK_eq', binCK_eq', binDK_eq', stVK_eq, fAddrK_eq', ixSK_eq', ixRK_eq', unVK_eq', opF_eq]
def v71 (X : Caller) (L : Looper) (K : Value → AHeap → Prop) (h : AHeap) (t0 t1 : Value) : Prop :=
 regV 2 h fun b h =>
 newVK [.string ⟨#[]⟩, .slice none 0 0, .int .u64 0, .int .u64 0] (b + 0) h fun t4 h =>
 bumpK 2 h fun h =>
 X (.call 73 [t0]) (fun t13 h =>
 condK t13
 (bumpK 3 h fun h =>
  rd' (buildA P 59 []) fun t14 =>
  stVK 4 t4 t14 h fun h =>
  retK (consR (ldN 4 t4 h) (consR (some (.int .i64 1)) (some []))) K h)
 (bumpK 12 h fun h =>
 nilVK t0 fun t17 =>
 fAddrK 0 t17 fun t18 =>
 fAddrK 0 t18 fun t19 =>
 ld1K t19 h fun t20 =>
 X (.call 113 [t20, t1]) (fun t22 h =>
 extVK 0 t22 fun t23 =>
 extVK 1 t22 fun t24 =>
 bumpK 2 h fun h =>
 binCK P .neq 24 24 t24 (.int .i64 0) h fun t26 =>
 condK t26
 (bumpK 4 h fun h =>
  rd' (buildA P 59 []) fun t27 =>
  stVK 4 t4 t27 h fun h =>
  retK (consR (ldN 4 t4 h) (consR (some t24) (some []))) K h)
 (bumpK 9 h fun h =>
 nilVK t0 fun t30 =>
 fAddrK 3 t30 fun t31 =>
 ld1K t31 h fun t32 =>
 X (.call 115 [t0, t1]) (fun t35 h =>
 chkK (chkR ((ld1 t31 h).map (·, h)) t32 true) <|
 X (.call 114 [t32, t35, t1]) (fun t37 h =>
 regV 13 h fun b_1 h =>
 nilVK t0 fun t40 =>
 fAddrK 0 t40 fun t41 =>
 fAddrK 0 t41 fun t42 =>
 ld1K t42 h fun t43 =>
 X (.call 116 [t43, t1]) (fun t45 h =>
 extVK 0 t45 fun t46 =>
 extVK 1 t45 fun t47 =>
 newVK [.string ⟨#[]⟩, .slice none 0 0, .int .u64 0, .int .u64 0] (b_1 + 10) h fun t8 h =>
 stVK 4 t8 t46 h fun h =>
 regV 22 h fun b_2 h =>
 nilVK t0 fun t50 =>
 fAddrK 3 t50 fun t51 =>
 ld1K t51 h fun t52 =>
 nilVK t0 fun t55 =>
 fAddrK 3 t55 fun t56 =>
 ld1K t56 h fun t57 =>
 nilVK t0 fun t60 =>
 fAddrK 3 t60 fun t61 =>
 ld1K t61 h fun t62 =>
 newVK [.int .i64 0, .bool false] (b_2 + 19) h fun t10 h =>
 X (.call 118 [t52]) (fun t53 h =>
 chkK (chkR ((ld1 t61 h).map (·, h)) t62 (chkR ((ld1 t56 h).map (·, h)) t57 true)) <|
 X (.call 119 [t57]) (fun t58 h =>
 chkK (chkR ((ld1 t61 h).map (·, h)) t62 true) <|
 X (.call 120 [t62]) (fun t63 h =>
 X (.call 117 [t53, t58, t63]) (fun t64 h =>
 extVK 0 t64 fun t65 =>
 extVK 1 t64 fun t66 =>
 stVK 2 t10 t65 h fun h =>
 bumpK 2 h fun h =>
 binCK P .eql 24 24 t66 (.int .i64 0) h fun t68 =>
 condK t68
 (bumpK 3 h fun h =>
  ldNK 2 t10 h fun t70 =>
  X (.call 121 [t0, t70]) (fun t71 h =>
  v71_j10 X L K h t8 t47 t4 undef undef ((.int .i64 0))) h)
 (v71_j10 X L K h t8 t47 t4 undef undef ((.int .i64 0)))) h) h) h) h) h) h) h)) h)) h
theorem v71_eq (X : Caller) (L : Looper) (K : Value → AHeap → Prop) (h : AHeap) (t0 t1 : Value) : f71 X L K h t0 t1 = v71 X L K h t0 t1 := by
  unfold f71 v71
  simp only [rdK_rd', nilVK_eq, newVK_eq, boxVK_eq, pickVK_eq, extVK_eq, gF_rd, gF_some, gF_nil, gF_pick, gF_ext, bumpK_eq, regV_eq, ld1K_eq', ldNK_eq', binVK_eq', binCK_eq', binDK_eq', stVK_eq, fAddrK_eq', ixSK_eq', ixRK_eq', unVK_eq', opF_eq, v71_j10_eq]
theorem w71_eq (X : Caller) (L : Looper) (K : Value → AHeap → Prop) (h : AHeap) (t0 t1 : Value) : aJob P X L (.call 71 [t0, t1]) K h = v71 X L K h t0 t1 := (f71_eq X L K h t0 t1).trans (v71_eq X L K h t0 t1)
def v72 (X : Caller) (L : Looper) (K : Value → AHeap → Prop) (h : AHeap) (t0 t1 t2 : Value) : Prop :=
 regV 1 h fun b h =>
 boxVK t2 (b + 0) h fun t5 h =>
 bumpK 22 h fun h =>
 nilVK t0 fun t7 =>
 fAddrK 0 t7 fun t8 =>
 fAddrK 5 t8 fun t9 =>
 ld1K t9 h fun t10 =>
 fAddrK 0 t5 fun t12 =>
 ld1K t12 h fun t13 =>
 fAddrK 1 t5 fun t14 =>
 ld1K t14 h fun t15 =>
 fAddrK 3 t5 fun t16 =>
 ld1K t16 h fun t17 =>
 fAddrK 2 t5 fun t18 =>
 ld1K t18 h fun t19 =>
 nilVK t0 fun t21 =>
 fAddrK 0 t21 fun t22 =>
 fAddrK 4 t22 fun t23 =>
 ld1K t23 h fun t24 =>
 X (.call 53 [t24]) (fun t25 h =>
 chkK (chkR ((ld1 t18 h).map (·, h)) t19 (chkR ((ld1 t16 h).map (·, h)) t17 (chkR ((ld1 t14 h).map (·, h)) t15 (chkR ((ld1 t12 h).map (·, h)) t13 (chkR ((ld1 t9 h).map (·, h)) t10 true))))) <|
 rd' (buildA P 75 [(0, t1), (1, t13), (2, t15), (3, t17), (4, t19), (5, t25)]) fun t26 =>
 X (.call 122 [t10, t26]) (fun t27 h =>
 K (.tuple #[]) h) h) h
theorem v72_eq (X : Caller) (L : Looper) (K : Value → AHeap → Prop) (h : AHeap) (t0 t1 t2 : Value) : f72 X L K h t0 t1 t2 = v72 X L K h t0 t1 t2 := by
  unfold f72 v72
  simp only [rdK_rd', nilVK_eq, newVK_eq, boxVK_eq, pickVK_eq, extVK_eq, gF_rd, gF_some, gF_nil, gF_pick, gF_ext, bumpK_eq, regV_eq, ld1K_eq', ldNK_eq', binVK_eq', binCK_eq', binDK_eq', stVK_eq, fAddrK_eq', ixSK_eq', ixRK_eq', unVK_eq', opF_eq]
theorem w72_eq (X : Caller) (L : Looper) (K : Value → AHeap → Prop) (h : AHeap) (t0 t1 t2 : Value) : aJob P X L (.call 72 [t0, t1, t2]) K h = v72 X L K h t0 t1 t2 := (f72_eq X L K h t0 t1 t2).trans (v72_eq X L K h t0 t1 t2)
def v73 (X : Caller) (L : Looper) (K : Value → AHeap → Prop) (h : AHeap) (t0 : Value) : Prop :=
 bumpK 1 h fun h =>
 bumpK 10 h fun h =>
 binCK P .eql 83 83 t0 (.pointer none) h fun t4 =>
 gF (wantV t4 false) (fun k => k t0) fun t6 =>
 gF (wantV t4 false) (nilVK t6) fun t7 =>
 gF (wantV t4 false) (fAddrK 3 t7) fun t8 =>
 gF (wantV t4 false) (ld1K t8 h) fun t9 =>
 gF (wantV t4 false) (binCK P .eql 131 131 t9 (.pointer none) h) fun t10 =>
 pickVK t4 (.bool true) t10 fun t11 =>
 K t11 h
theorem v73_eq (X : Caller) (L : Looper) (K : Value → AHeap → Prop) (h : AHeap) (t0 : Value) : f73 X L K h t0 = v73 X L K h t0 := by
  unfold f73 v73
  simp only [rdK_rd', nilVK_eq, newVK_eq, boxVK_eq, pickVK_eq, extVK_eq, gF_rd, gF_some, gF_nil, gF_pick, gF_ext, bumpK_eq, regV_eq, ld1K_eq', ldNK_eq', binVK_eq', binCK_eq', binDK_eq', stVK_eq, fAddrK_eq', ixSK_eq', ixRK_eq', unVK_eq', opF_eq]
theorem w73_eq (X : Caller) (L : Looper) (K : Value → AHeap → Prop) (h : AHeap) (t0 : Value) : aJob P X L (.call 73 [t0]) K h = v73 X L K h t0 := (f73_eq X L K h t0).trans (v73_eq X L K h t0)
def v74 (X : Caller) (L : Looper) (K : Value → AHeap → Prop) (h : AHeap) (t0 t1 : Value) : Prop :=
 regV 2 h fun b h =>
 newVK [.string ⟨#[]⟩, .slice none 0 0, .int .u64 0, .int .u64 0] (b + 0) h fun t4 h =>
 bumpK 8 h fun h =>
 X (.call 123 [t0, t1]) (fun t11 h =>
 extVK 0 t11 fun t12 =>
 extVK 1 t11 fun t13 =>
 bumpK 2 h fun h =>
 binCK P .neq 24 24 t13 (.int .i64 0) h fun t15 =>
 condK t15
 (bumpK 4 h fun h =>
  rd' (buildA P 59 []) fun t16 =>
  stVK 4 t4 t16 h fun h =>
  retK (consR (ldN 4 t4 h) (consR (some t13) (some []))) K h)
 (bumpK 6 h fun h =>
 nilVK t12 fun t19 =>
 ldNK 4 t19 h fun t20 =>
 X (.call 124 [t20]) (fun t21 h =>
 stVK 4 t4 t21 h fun h =>
 retK (consR (ldN 4 t4 h) (consR (some (.int .i64 0)) (some []))) K h) h)) h
theorem v74_eq (X : Caller) (L : Looper) (K : Value → AHeap → Prop) (h : AHeap) (t0 t1 : Value) : f74 X L K h t0 t1 = v74 X L K h t0 t1 := by
  unfold f74 v74
  simp only [rdK_rd', nilVK_eq, newVK_eq, boxVK_eq, pickVK_eq, extVK_eq, gF_rd, gF_some, gF_nil, gF_pick, gF_ext, bumpK_eq, regV_eq, ld1K_eq', ldNK_eq', binVK_eq', binCK_eq', binDK_eq', stVK_eq, fAddrK_eq', ixSK_eq', ixRK_eq', unVK_eq', opF_eq]
theorem w74_eq (X : Caller) (L : Looper) (K : Value → AHeap → Prop) (h : AHeap) (t0 t1 : Value) : aJob P X L (.call 74 [t0, t1]) K h = v74 X L K h t0 t1 := (f74_eq X L K h t0 t1).trans (v74_eq X L K h t0 t1)
def v75 (X : Caller) (L : Looper) (K : Value → AHeap → Prop) (h : AHeap) (t0 t1 t2 : Value) : Prop :=
 bumpK 1 h fun h =>
 bumpK 10 h fun h =>
 binCK P .eql 85 85 t0 (.pointer none) h fun t9 =>
 gF (wantV t9 false) (fun k => k t0) fun t11 =>
 gF (wantV t9 false) (nilVK t11) fun t12 =>
 gF (wantV t9 false) (fAddrK 4 t12) fun t13 =>
 gF (wantV t9 false) (ld1K t13 h) fun t14 =>
 gF (wantV t9 false) (binCK P .eql 139 139 t14 (.map none) h) fun t15 =>
 pickVK t9 (.bool true) t15 fun t16 =>
 condK t16
 (bumpK 1 h fun h =>
  K (.int .i64 1) h)
 (bumpK 11 h fun h =>
  binCK P .geq 81 81 t1 (.int .u32 4194304) h fun t19 =>
  gF (wantV t19 false) (fun k => k t2) fun t21 =>
  gF (wantV t19 false) (binCK P .lss 3 3 t21 (.int .i64 0) h) fun t22 =>
  pickVK t19 (.bool true) t22 fun t23 =>
  gF (wantV t23 false) (fun k => k t2) fun t25 =>
  gF (wantV t23 false) (binCK P .gtr 3 3 t25 (.int .i64 1099511627776) h) fun t26 =>
  pickVK t23 (.bool true) t26 fun t27 =>
  condK t27
  (bumpK 1 h fun h =>
   K (.int .i64 2) h)
  (bumpK 1 h fun h =>
 K (.int .i64 0) h))
theorem v75_eq (X : Caller) (L : Looper) (K : Value → AHeap → Prop) (h : AHeap) (t0 t1 t2 : Value) : f75 X L K h t0 t1 t2 = v75 X L K h t0 t1 t2 := by
  unfold f75 v75
  simp only [rdK_rd', nilVK_eq, newVK_eq, boxVK_eq, pickVK_eq, extVK_eq, gF_rd, gF_some, gF_nil, gF_pick, gF_ext, bumpK_eq, regV_eq, ld1K_eq', ldNK_eq', binVK_eq', binCK_eq', binDK_eq', stVK_eq, fAddrK_eq', ixSK_eq', ixRK_eq', unVK_eq', opF_eq]
theorem w75_eq (X : Caller) (L : Looper) (K : Value → AHeap → Prop) (h : AHeap) (t0 t1 t2 : Value) : aJob P X L (.call 75 [t0, t1, t2]) K h = v75 X L K h t0 t1 t2 := (f75_eq X L K h t0 t1 t2).trans (v75_eq X L K h t0 t1 t2)
def v76 (X : Caller) (L : Looper) (K : Value → AHeap → Prop) (h : AHeap) (t0 t1 : Value) : Prop :=
 bumpK 1 h fun h =>
 bumpK 7 h fun h =>
 nilVK t0 fun t6 =>
 fAddrK 0 t6 fun t7 =>
 ixRK 2 1 t7 (.int .i64 1) fun t8 =>
 ld1K t8 h fun t9 =>
 X (.call 125 [t9, t1]) (fun t11 h =>
 condK t11
 (bumpK 1 h fun h =>
  K (.int .i64 1) h)
 (bumpK 1 h fun h =>
 K (.int .i64 0) h)) h
theorem v76_eq (X : Caller) (L : Looper) (K : Value → AHeap → Prop) (h : AHeap) (t0 t1 : Value) : f76 X L K h t0 t1 = v76 X L K h t0 t1 := by
  unfold f76 v76
  simp only [rdK_rd', nilVK_eq, newVK_eq, boxVK_eq, pickVK_eq, extVK_eq, gF_rd, gF_some, gF_nil, gF_pick, gF_ext, bumpK_eq, regV_eq, ld1K_eq', ldNK_eq', binVK_eq', binCK_eq', binDK_eq', stVK_eq, fAddrK_eq', ixSK_eq', ixRK_eq', unVK_eq', opF_eq]
theorem w76_eq (X : Caller) (L : Looper) (K : Value → AHeap → Prop) (h : AHeap) (t0 t1 : Value) : aJob P X L (.call 76 [t0, t1]) K h = v76 X L K h t0 t1 := (f76_eq X L K h t0 t1).trans (v76_eq X L K h t0 t1)
def v77_j9 (X : Caller) (L : Looper) (K : Value → AHeap → Prop) (h : AHeap) (t0 t9 t1 t2 t26 t27 t28 t29 t31 t32 t6 t7 : Value) : Prop :=
 bumpK 5 h fun h =>
 X (.call 126 [t0, t9, t1, t2]) (fun t30 h =>
 bumpK 4 h fun h =>
 X (.call 127 [t0]) (fun t32_1 h =>
 K (.tuple #[t32_1, (.int .i64 0)]) h) h) h
theorem v77_j9_eq (X : Caller) (L : Looper) (K : Value → AHeap → Prop) (h : AHeap) (t0 t9 t1 t2 t26 t27 t28 t29 t31 t32 t6 t7 : Value) : f77_j9 X L K h t0 t9 t1 t2 t26 t27 t28 t29 t31 t32 t6 t7 = v77_j9 X L K h t0 t9 t1 t2 t26 t27 t28 t29 t31 t32 t6 t7 := by
  unfold f77_j9 v77_j9
  simp only [rdK_rd', nilVK_eq, newVK_eq, boxVK_eq, pickVK_eq, extVK_eq, gF_rd, gF_some, gF_nil, gF_pick, gF_ext, bumpK_eq, regV_eq, ld1K_eq', ldNK_eq', binVK_eq', binCK_eq', binDK_eq', stVK_eq, fAddrK_eq', ixSK_eq', ixRK_eq', unVK_eq', opF_eq]
def v77 (X : Caller) (L : Looper) (K : Value → AHeap → Prop) (h : AHeap) (t0 t1 t2 : Value) : Prop :=
 bumpK 2 h fun h =>
 bumpK 5 h fun h =>
 X (.call 75 [t0, t1, t2]) (fun t13 h =>
 bumpK 2 h fun h =>
 binCK P .neq 24 24 t13 (.int .i64 0) h fun t15 =>
 condK t15
 (bumpK 3 h fun h =>
  K (.tuple #[(.slice none 0 0), t13]) h)
 (bumpK 4 h fun h =>
 X (.call 108 [t0, t1]) (fun t19 h =>
 unVK P .not 4 t19 fun t20 =>
 condK t20
 (bumpK 2 h fun h =>
  K (.tuple #[(.slice none 0 0), (.int .i64 9)]) h)
 (bumpK 1 h fun h =>
 bumpK 5 h fun h =>
 nilVK t0 fun t22 =>
 fAddrK 5 t22 fun t23 =>
 ld1K t23 h fun t24 =>
 binCK P .eql 3 3 t24 (.int .i64 (-1)) h fun t25 =>
 condK t25
 (bumpK 1 h fun h =>
  v77_j9 X L K h t0 ((.int .i64 0)) t1 t2 undef undef undef undef undef undef ((.slice none 0 0)) ((.int .i64 0)))
 (v77_j9 X L K h t0 ((.int .i64 1)) t1 t2 undef undef undef undef undef undef ((.slice none 0 0)) ((.int .i64 0))))) h)) h
theorem v77_eq (X : Caller) (L : Looper) (K : Value → AHeap → Prop) (h : AHeap) (t0 t1 t2 : Value) : f77 X L K h t0 t1 t2 = v77 X L K h t0 t1 t2 := by
  unfold f77 v77
  simp only [rdK_rd', nilVK_eq, newVK_eq, boxVK_eq, pickVK_eq, extVK_eq, gF_rd, gF_some, gF_nil, gF_pick, gF_ext, bumpK_eq, regV_eq, ld1K_eq', ldNK_eq', binVK_eq', binCK_eq', binDK_eq', stVK_eq, fAddrK_eq', ixSK_eq', ixRK_eq', unVK_eq', opF_eq, v77_j9_eq]
theorem w77_eq (X : Caller) (L : Looper) (K : Value → AHeap → Prop) (h : AHeap) (t0 t1 t2 : Value) : aJob P X L (.call 77 [t0, t1, t2]) K h = v77 X L K h t0 t1 t2 := (f77_eq X L K h t0 t1 t2).trans (v77_eq X L K h t0 t1 t2)
def v78 (X : Caller) (L : Looper) (K : Value → AHeap → Prop) (h : AHeap) (t0 t1 t2 : Value) : Prop :=
 bumpK 1 h fun h =>
 bumpK 5 h fun h =>
 X (.call 109 [t0, t1, t2]) (fun t12 h =>
 bumpK 2 h fun h =>
 binCK P .neq 24 24 t12 (.int .i64 0) h fun t14 =>
 condK t14
 (bumpK 2 h fun h =>
  K t12 h)
 (regV 11 h fun b h =>
 nilVK t0 fun t18 =>
 fAddrK 2 t18 fun t19 =>
 ixRK 2 2 t19 t1 fun t20 =>
 ldNK 2 t20 h fun t21 =>
 rd' (buildA P 150 [(0, (.int .i64 1)), (1, t2)]) fun t23 =>
 X (.call 111 [t21, t23]) (fun t24 h =>
 newVK [.int .i64 0, .int .i64 0] (b + 9) h fun t8 h =>
 stVK 2 t8 t24 h fun h =>
 bumpK 3 h fun h =>
 ldNK 2 t8 h fun t25 =>
 X (.call 128 [t25]) (fun t26 h =>
 unVK P .not 4 t26 fun t27 =>
 condK t27
 (bumpK 1 h fun h =>
  K (.int .i64 7) h)
 (bumpK 7 h fun h =>
 ldNK 2 t8 h fun t30 =>
 nilVK t0 fun t31 =>
 fAddrK 2 t31 fun t32 =>
 ixRK 2 2 t32 t1 fun t33 =>
 stVK 2 t33 t30 h fun h =>
 bumpK 1 h fun h =>
 K (.int .i64 0) h)) h) h)) h
theorem v78_eq (X : Caller) (L : Looper) (K : Value → AHeap → Prop) (h : AHeap) (t0 t1 t2 : Value) : f78 X L K h t0 t1 t2 = v78 X L K h t0 t1 t2 := by
  unfold f78 v78
  simp only [rdK_rd', nilVK_eq, newVK_eq, boxVK_eq, pickVK_eq, extVK_eq, gF_rd, gF_some, gF_nil, gF_pick, gF_ext, bumpK_eq, regV_eq, ld1K_eq', ldNK_eq', binVK_eq', binCK_eq', binDK_eq', stVK_eq, fAddrK_eq', ixSK_eq', ixRK_eq', unVK_eq', opF_eq]
theorem w78_eq (X : Caller) (L : Looper) (K : Value → AHeap → Prop) (h : AHeap) (t0 t1 t2 : Value) : aJob P X L (.call 78 [t0, t1, t2]) K h = v78 X L K h t0 t1 t2 := (f78_eq X L K h t0 t1 t2).trans (v78_eq X L K h t0 t1 t2)
def v79_l1 (X : Caller) (L : Looper) (a : AAct) (K : ActPost) (h : AHeap) : Prop :=
 bumpK 1 h fun h =>
 binVK P .lss 3 3 (a.env 11) (a.env 10) h fun t12 =>
 condK t12
 (bumpK 3 h fun h =>
 ixSK 1 (a.env 9) (a.env 11) fun t13 =>
 ld1K t13 h fun t14 =>
 bumpK 14 h fun h =>
 nilVK (a.env 0) fun t17 =>
 fAddrK 0 t17 fun t18 =>
 fAddrK 2 t18 fun t19 =>
 ld1K t19 h fun t20 =>
 X (.call 38 [t20, t14]) (fun t22 h =>
 extVK 0 t22 fun t23 =>
 extVK 1 t22 fun t24 =>
 extVK 2 t22 fun t25 =>
 bumpK 7 h fun h =>
 nilVK (a.env 0) fun t27 =>
 fAddrK 0 t27 fun t28 =>
 fAddrK 3 t28 fun t29 =>
 ld1K t29 h fun t30 =>
 X (.call 129 [t30, (.int .i64 1), t24]) (fun t32 h =>
 bumpK 2 h fun h =>
 binCK P .add 3 3 (a.env 11) (.int .i64 1) h fun t33 =>
 K .normal ⟨(upds a.env [(12, t12), (13, t13), (14, t14), (5, t14), (16, (a.env 0)), (17, t17), (18, t18), (19, t19), (20, t20), (21, t14), (22, t22), (15, t22), (23, t23), (24, t24), (25, t25), (6, t23), (7, t24), (8, t25), (26, (a.env 0)), (27, t27), (28, t28), (29, t29), (30, t30), (31, t24), (32, t32), (33, t33), (11, t33)]), a.defers⟩ h) h) h)
 (K (.exit 0) ⟨(upds a.env [(12, t12)]), a.defers⟩ h)
theorem v79_l1_eq (X : Caller) (L : Looper) (a : AAct) (K : ActPost) (h : AHeap) : f79_l1 X L a K h = v79_l1 X L a K h := by
  unfold f79_l1 v79_l1
  simp only [rdK_rd', nilVK_eq, newVK_eq, boxVK_eq, pickVK_eq, extVK_eq, gF_rd, gF_some, gF_nil, gF_pick, gF_ext, bumpK_eq, regV_eq, ld1K_eq', ldNK_eq', binVK_eq', binCK_eq', binDK_eq', stVK_eq, fAddrK_eq', ixSK_eq', ixRK_eq', unVK_eq', opF_eq]
theorem v79_l1_eq' (X : Caller) (L : Looper) : f79_l1 X L = v79_l1 X L := by
  funext a K h; exact v79_l1_eq X L a K h
def v79 (X : Caller) (L : Looper) (K : Value → AHeap → Prop) (h : AHeap) (t0 t1 : Value) : Prop :=
 regV 3 h fun b h =>
 opF (builtinV P .len [143] [t1] (b + 1) h) fun t10 h =>
 L (v79_l1 X L) ⟨(upds (argsEnv [t0, t1]) [(9, t1), (10, t10), (11, (.int .i64 0))]), []⟩ (blkX 0 (finX P X Tryz.f79 K)) h
theorem v79_eq (X : Caller) (L : Looper) (K : Value → AHeap → Prop) (h : AHeap) (t0 t1 : Value) : f79 X L K h t0 t1 = v79 X L K h t0 t1 := by
  unfold f79 v79
  simp only [rdK_rd', nilVK_eq, newVK_eq, boxVK_eq, pickVK_eq, extVK_eq, gF_rd, gF_some, gF_nil, gF_pick, gF_ext, bumpK_eq, regV_eq, ld1K_eq', ldNK_eq', binVK_eq', binCK_eq', binDK_eq', stVK_eq, fAddrK_eq', ixSK_eq', ixRK_eq', unVK_eq', opF_eq, v79_l1_eq, v79_l1_eq']
theorem w79_eq (X : Caller) (L : Looper) (K : Value → AHeap → Prop) (h : AHeap) (t0 t1 : Value) : aJob P X L (.call 79 [t0, t1]) K h = v79 X L K h t0 t1 := (f79_eq X L K h t0 t1).trans (v79_eq X L K h t0 t1)
def v80 (X : Caller) (L : Looper) (K : Value → AHeap → Prop) (h : AHeap) : Prop :=
 bumpK 1 h fun h =>
 bumpK 6 h fun h =>
 X (.call 130 [(.int .i64 8), (.int .i64 1)]) (fun t4 h =>
 extVK 0 t4 fun t5 =>
 extVK 1 t4 fun t6 =>
 regV 4 h fun b h =>
 rd' (buildA P 219 [(0, t5)]) fun t8 =>
 boxVK t8 (b + 2) h fun t9 h =>
 K t9 h) h
theorem v80_eq (X : Caller) (L : Looper) (K : Value → AHeap → Prop) (h : AHeap) : f80 X L K h  = v80 X L K h  := by
  unfold f80 v80
  simp only [rdK_rd', nilVK_eq, newVK_eq, boxVK_eq, pickVK_eq, extVK_eq, gF_rd, gF_some, gF_nil, gF_pick, gF_ext, bumpK_eq, regV_eq, ld1K_eq', ldNK_eq', binVK_eq', binCK_eq', binDK_eq', stVK_eq, fAddrK_eq', ixSK_eq', ixRK_eq', unVK_eq', opF_eq]
theorem w80_eq (X : Caller) (L : Looper) (K : Value → AHeap → Prop) (h : AHeap) : aJob P X L (.call 80 []) K h = v80 X L K h  := (f80_eq X L K h ).trans (v80_eq X L K h )
def v81 (X : Caller) (L : Looper) (K : Value → AHeap → Prop) (h : AHeap) (t0 t1 : Value) : Prop :=
 bumpK 1 h fun h =>
 bumpK 15 h fun h =>
 binCK P .geq 3 3 t0 (.int .i64 1) h fun t6 =>
 gF (wantV t6 true) (fun k => k t0) fun t8 =>
 gF (wantV t6 true) (binCK P .leq 3 3 t8 (.int .i64 1048576) h) fun t9 =>
 pickVK t6 t9 (.bool false) fun t10 =>
 gF (wantV t10 true) (fun k => k t1) fun t12 =>
 gF (wantV t10 true) (binCK P .geq 3 3 t12 (.int .i64 1) h) fun t13 =>
 pickVK t10 t13 (.bool false) fun t14 =>
 gF (wantV t14 true) (fun k => k t1) fun t16 =>
 gF (wantV t14 true) (binCK P .leq 3 3 t16 (.int .i64 1099511627776) h) fun t17 =>
 pickVK t14 t17 (.bool false) fun t18 =>
 K t18 h
theorem v81_eq (X : Caller) (L : Looper) (K : Value → AHeap → Prop) (h : AHeap) (t0 t1 : Value) : f81 X L K h t0 t1 = v81 X L K h t0 t1 := by
  unfold f81 v81
  simp only [rdK_rd', nilVK_eq, newVK_eq, boxVK_eq, pickVK_eq, extVK_eq, gF_rd, gF_some, gF_nil, gF_pick, gF_ext, bumpK_eq, regV_eq, ld1K_eq', ldNK_eq', binVK_eq', binCK_eq', binDK_eq', stVK_eq, fAddrK_eq', ixSK_eq', ixRK_eq', unVK_eq', opF_eq]
theorem w81_eq (X : Caller) (L : Looper) (K : Value → AHeap → Prop) (h : AHeap) (t0 t1 : Value) : aJob P X L (.call 81 [t0, t1]) K h = v81 X L K h t0 t1 := (f81_eq X L K h t0 t1).trans (v81_eq X L K h t0 t1)
def v82_l7 (X : Caller) (L : Looper) (a : AAct) (K : ActPost) (h : AHeap) : Prop :=
 bumpK 1 h fun h =>
 binVK P .lss 3 3 (a.env 18) (a.env 17) h fun t19 =>
 condK t19
 (bumpK 2 h fun h =>
 bumpK 9 h fun h =>
 nilVK (a.env 4) fun t22 =>
 fAddrK 0 t22 fun t23 =>
 ld1K t23 h fun t24 =>
 X (.call 132 []) (fun t26 h =>
 chkK (chkR ((ld1 t23 h).map (·, h)) t24 true) <|
 ixSK 9 t24 (a.env 18) fun t27 =>
 fAddrK 0 t27 fun t28 =>
 stVK 1 t28 t26 h fun h =>
 bumpK 2 h fun h =>
 binCK P .add 3 3 (a.env 18) (.int .i64 1) h fun t29 =>
 K .normal ⟨(upds a.env [(19, t19), (20, (a.env 18)), (5, (a.env 18)), (21, (a.env 4)), (22, t22), (23, t23), (24, t24), (25, (a.env 18)), (26, t26), (27, t27), (28, t28), (29, t29), (18, t29)]), a.defers⟩ h) h)
 (K (.exit 0) ⟨(upds a.env [(19, t19)]), a.defers⟩ h)
theorem v82_l7_eq (X : Caller) (L : Looper) (a : AAct) (K : ActPost) (h : AHeap) : f82_l7 X L a K h = v82_l7 X L a K h := by
  unfold f82_l7 v82_l7
  simp only [rdK_rd', nilVK_eq, newVK_eq, boxVK_eq, pickVK_eq, extVK_eq, gF_rd, gF_some, gF_nil, gF_pick, gF_ext, bumpK_eq, regV_eq, ld1K_eq', ldNK_eq', binVK_eq', binCK_eq', binDK_eq', stVK_eq, fAddrK_eq', ixSK_eq', ixRK_eq', unVK_eq', opF_eq]
theorem v82_l7_eq' (X : Caller) (L : Looper) : f82_l7 X L = v82_l7 X L := by
  funext a K h; exact v82_l7_eq X L a K h
def v82_j5 (X : Caller) (L : Looper) (K : Value → AHeap → Prop) (h : AHeap) (a : AAct) : Prop :=
 bumpK 3 h fun h =>
 leaveA P X Tryz.f82 ⟨(upds a.env [(30, (a.env 4)), (2, (a.env 4)), (3, (.int .i64 0))]), a.defers⟩ K a.defers h
theorem v82_j5_eq (X : Caller) (L : Looper) (K : Value → AHeap → Prop) (h : AHeap) (a : AAct) : f82_j5 X L K h a = v82_j5 X L K h a := by
  unfold f82_j5 v82_j5
  simp only [rdK_rd', nilVK_eq, newVK_eq, boxVK_eq, pickVK_eq, extVK_eq, gF_rd, gF_some, gF_nil, gF_pick, gF_ext, bumpK_eq, regV_eq, ld1K_eq', ldNK_eq', binVK_eq', binCK_eq', binDK_eq', stVK_eq, fAddrK_eq', ixSK_eq', ixRK_eq', unVK_eq', opF_eq, v82_l7_eq, v82_l7_eq']
def v82 (X : Caller) (L : Looper) (K : Value → AHeap → Prop) (h : AHeap) (t0 : Value) : Prop :=
 bumpK 2 h fun h =>
 bumpK 3 h fun h =>
 X (.call 131 [t0]) (fun t7 h =>
 unVK P .not 4 t7 fun t8 =>
 condK t8
 (bumpK 2 h fun h =>
  K (.tuple #[(.pointer none), (.int .i64 2)]) h)
 (regV 5 h fun b h =>
 opF (makeSliceA P 220 t0 t0 (b + 1) h) fun t10 h =>
 rd' (buildA P 222 [(0, t10)]) fun t11 =>
 boxVK t11 (b + 3) h fun t12 h =>
 regV 6 h fun b_1 h =>
 nilVK t12 fun t14 =>
 fAddrK 0 t14 fun t15 =>
 ld1K t15 h fun t16 =>
 opF (builtinV P .len [220] [t16] (b_1 + 4) h) fun t17 h =>
 L (v82_l7 X L) ⟨(upds (argsEnv [t0]) [(2, (.pointer none)), (3, (.int .i64 0)), (6, t0), (7, t7), (8, t8), (9, t0), (10, t10), (11, t11), (12, t12), (4, t12), (13, t12), (14, t14), (15, t15), (16, t16), (17, t17), (18, (.int .i64 0))]), []⟩ (blkX 0 (seqX (fun a h => v82_j5 X L K h a) (finX P X Tryz.f82 K))) h)) h
theorem v82_eq (X : Caller) (L : Looper) (K : Value → AHeap → Prop) (h : AHeap) (t0 : Value) : f82 X L K h t0 = v82 X L K h t0 := by
  unfold f82 v82
  simp only [rdK_rd', nilVK_eq, newVK_eq, boxVK_eq, pickVK_eq, extVK_eq, gF_rd, gF_some, gF_nil, gF_pick, gF_ext, bumpK_eq, regV_eq, ld1K_eq', ldNK_eq', binVK_eq', binCK_eq', binDK_eq', stVK_eq, fAddrK_eq', ixSK_eq', ixRK_eq', unVK_eq', opF_eq, v82_l7_eq, v82_l7_eq', v82_j5_eq]
theorem w82_eq (X : Caller) (L : Looper) (K : Value → AHeap → Prop) (h : AHeap) (t0 : Value) : aJob P X L (.call 82 [t0]) K h = v82 X L K h t0 := (f82_eq X L K h t0).trans (v82_eq X L K h t0)
def v83 (X : Caller) (L : Looper) (K : Value → AHeap → Prop) (h : AHeap) : Prop :=
 bumpK 1 h fun h =>
 regV 3 h fun b h =>
 rd' (buildA P 228 [(0, (.bool true))]) fun t1 =>
 boxVK t1 (b + 1) h fun t2 h =>
 K t2 h
theorem v83_eq (X : Caller) (L : Looper) (K : Value → AHeap → Prop) (h : AHeap) : f83 X L K h  = v83 X L K h  := by
  unfold f83 v83
  simp only [rdK_rd', nilVK_eq, newVK_eq, boxVK_eq, pickVK_eq, extVK_eq, gF_rd, gF_some, gF_nil, gF_pick, gF_ext, bumpK_eq, regV_eq, ld1K_eq', ldNK_eq', binVK_eq', binCK_eq', binDK_eq', stVK_eq, fAddrK_eq', ixSK_eq', ixRK_eq', unVK_eq', opF_eq]
theorem w83_eq (X : Caller) (L : Looper) (K : Value → AHeap → Prop) (h : AHeap) : aJob P X L (.call 83 []) K h = v83 X L K h  := (f83_eq X L K h ).trans (v83_eq X L K h )
def v84_l4 (X : Caller) (L : Looper) (a : AAct) (K : ActPost) (h : AHeap) : Prop :=
 bumpK 1 h fun h =>
 binCK P .lss 3 3 (a.env 10) (.int .i64 8) h fun t11 =>
 condK t11
 (bumpK 2 h fun h =>
 bumpK 7 h fun h =>
 nilVK (a.env 3) fun t16 =>
 fAddrK 1 t16 fun t17 =>
 X (.call 133 []) (fun t15 h =>
 ixRK 8 1 t17 (a.env 10) fun t18 =>
 stVK 1 t18 t15 h fun h =>
 bumpK 2 h fun h =>
 binCK P .add 3 3 (a.env 10) (.int .i64 1) h fun t19 =>
 K .normal ⟨(upds a.env [(11, t11), (12, (a.env 10)), (4, (a.env 10)), (13, (a.env 3)), (14, (a.env 10)), (16, t16), (17, t17), (15, t15), (18, t18), (19, t19), (10, t19)]), a.defers⟩ h) h)
 (K (.exit 0) ⟨(upds a.env [(11, t11)]), a.defers⟩ h)
theorem v84_l4_eq (X : Caller) (L : Looper) (a : AAct) (K : ActPost) (h : AHeap) : f84_l4 X L a K h = v84_l4 X L a K h := by
  unfold f84_l4 v84_l4
  simp only [rdK_rd', nilVK_eq, newVK_eq, boxVK_eq, pickVK_eq, extVK_eq, gF_rd, gF_some, gF_nil, gF_pick, gF_ext, bumpK_eq, regV_eq, ld1K_eq', ldNK_eq', binVK_eq', binCK_eq', binDK_eq', stVK_eq, fAddrK_eq', ixSK_eq', ixRK_eq', unVK_eq', opF_eq]
theorem v84_l4_eq' (X : Caller) (L : Looper) : f84_l4 X L = v84_l4 X L := by
  funext a K h; exact v84_l4_eq X L a K h
def v84_j2 (X : Caller) (L : Looper) (K : Value → AHeap → Prop) (h : AHeap) (a : AAct) : Prop :=
 bumpK 2 h fun h =>
 leaveA P X Tryz.f84 ⟨(upds a.env [(20, (a.env 3)), (2, (a.env 3))]), a.defers⟩ K a.defers h
theorem v84_j2_eq (X : Caller) (L : Looper) (K : Value → AHeap → Prop) (h : AHeap) (a : AAct) : f84_j2 X L K h a = v84_j2 X L K h a := by
  unfold f84_j2 v84_j2
  simp only [rdK_rd', nilVK_eq, newVK_eq, boxVK_eq, pickVK_eq, extVK_eq, gF_rd, gF_some, gF_nil, gF_pick, gF_ext, bumpK_eq, regV_eq, ld1K_eq', ldNK_eq', binVK_eq', binCK_eq', binDK_eq', stVK_eq, fAddrK_eq', ixSK_eq', ixRK_eq', unVK_eq', opF_eq, v84_l4_eq, v84_l4_eq']
def v84 (X : Caller) (L : Looper) (K : Value → AHeap → Prop) (h : AHeap) (t0 : Value) : Prop :=
 bumpK 1 h fun h =>
 regV 6 h fun b h =>
 opF (mapV (b + 1) h) fun t6 h =>
 opF (mapV (b + 2) h) fun t7 h =>
 rd' (buildA P 233 [(0, t0), (2, t6), (3, t7)]) fun t8 =>
 boxVK t8 (b + 4) h fun t9 h =>
 bumpK 1 h fun h =>
 L (v84_l4 X L) ⟨(upds (argsEnv [t0]) [(2, (.pointer none)), (5, t0), (6, t6), (7, t7), (8, t8), (9, t9), (3, t9), (10, (.int .i64 0))]), []⟩ (blkX 0 (seqX (fun a h => v84_j2 X L K h a) (finX P X Tryz.f84 K))) h
theorem v84_eq (X : Caller) (L : Looper) (K : Value → AHeap → Prop) (h : AHeap) (t0 : Value) : f84 X L K h t0 = v84 X L K h t0 := by
  unfold f84 v84
  simp only [rdK_rd', nilVK_eq, newVK_eq, boxVK_eq, pickVK_eq, extVK_eq, gF_rd, gF_some, gF_nil, gF_pick, gF_ext, bumpK_eq, regV_eq, ld1K_eq', ldNK_eq', binVK_eq', binCK_eq', binDK_eq', stVK_eq, fAddrK_eq', ixSK_eq', ixRK_eq', unVK_eq', opF_eq, v84_l4_eq, v84_l4_eq', v84_j2_eq]
theorem w84_eq (X : Caller) (L : Looper) (K : Value → AHeap → Prop) (h : AHeap) (t0 : Value) : aJob P X L (.call 84 [t0]) K h = v84 X L K h t0 := (f84_eq X L K h t0).trans (v84_eq X L K h t0)
def v85 (X : Caller) (L : Looper) (K : Value → AHeap → Prop) (h : AHeap) (t0 t1 : Value) : Prop :=
 bumpK 1 h fun h =>
 bumpK 10 h fun h =>
 binCK P .eql 87 87 t0 (.pointer none) h fun t7 =>
 gF (wantV t7 false) (fun k => k t0) fun t9 =>
 gF (wantV t7 false) (nilVK t9) fun t10 =>
 gF (wantV t7 false) (fAddrK 0 t10) fun t11 =>
 gF (wantV t7 false) (ld1K t11 h) fun t12 =>
 gF (wantV t7 false) (binCK P .eql 159 159 t12 (.pointer none) h) fun t13 =>
 pickVK t7 (.bool true) t13 fun t14 =>
 condK t14
 (bumpK 1 h fun h =>
  K (.int .i64 1) h)
 (bumpK 3 h fun h =>
  binCK P .geq 81 81 t1 (.int .u32 4194304) h fun t17 =>
  condK t17
  (bumpK 1 h fun h =>
   K (.int .i64 2) h)
  (bumpK 1 h fun h =>
 K (.int .i64 0) h))
theorem v85_eq (X : Caller) (L : Looper) (K : Value → AHeap → Prop) (h : AHeap) (t0 t1 : Value) : f85 X L K h t0 t1 = v85 X L K h t0 t1 := by
  unfold f85 v85
  simp only [rdK_rd', nilVK_eq, newVK_eq, boxVK_eq, pickVK_eq, extVK_eq, gF_rd, gF_some, gF_nil, gF_pick, gF_ext, bumpK_eq, regV_eq, ld1K_eq', ldNK_eq', binVK_eq', binCK_eq', binDK_eq', stVK_eq, fAddrK_eq', ixSK_eq', ixRK_eq', unVK_eq', opF_eq]
theorem w85_eq (X : Caller) (L : Looper) (K : Value → AHeap → Prop) (h : AHeap) (t0 t1 : Value) : aJob P X L (.call 85 [t0, t1]) K h = v85 X L K h t0 t1 := (f85_eq X L K h t0 t1).trans (v85_eq X L K h t0 t1)
end Go.Proofs.YtdlnbmadifgbkaaGreatDoor.F
