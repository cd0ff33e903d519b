/- The statement TierLongCardSaid: TierLong returns true for every input, and its argument reads as before; no condition. The examples of the chapter and the three sizes are run by the kernel on a machine that is proved sound for the model; what bytes.Clone makes of a long row is proved apart. -/
import Derived.Test.YtdlnbmadifgbkaaGreatDoorW2

namespace Go.Proofs.YtdlnbmadifgbkaaGreatDoor
set_option linter.unusedVariables false
set_option linter.unusedSimpArgs false
open Go.ChangeShapes Go.WideShapes Go.ChangeAt Go.RowKit
set_option maxRecDepth 1000000
theorem cf4 : namedTie Tryz.prog Rows.tierLongRow.named Rows.tierLongSpec.vars = true := by kernel_rfl
theorem cf5 : (Rows.tierLongRow.inPlace == Tryz.prog.inPlace 3) = true := by kernel_rfl
theorem cf6 : (Rows.tierLongRow.unfollowed == Tryz.prog.unfollowed 3) = true := by kernel_rfl
theorem cf7 : (Rows.tierLongRow.recurses == Tryz.prog.recurses 3) = true := by kernel_rfl
theorem cf8 : (Rows.tierLongRow.named == Tryz.prog.varsNamed 3) = true := by kernel_rfl
set_option maxHeartbeats 4000000 in
theorem cfAll : joinedFacts Tryz.prog 3 Tryz.f3 Rows.tierLongSpec Rows.tierLongRow = true := by
  unfold joinedFacts
  repeat' with_reducible apply and_true'
  all_goals with_reducible first
    | exact fLaid
    | exact fMaps
    | exact cf4
    | exact cf5
    | exact cf6
    | exact cf7
    | exact cf8
    | skip
  all_goals as_aux_lemma => kernel_rfl
def TierRuns : Prop := ∀ a0 : Int, Cub.Conc Tryz.prog F.gk (.call 3 [.int .i64 a0]) (fun v _ => v = .bool true) (Cub.layG F.gvars 1)

set_option maxRecDepth 100000 in
theorem tierLong_lifted (run : TierRuns) (os : Os) (started : os.Started) (H : Type) (enc : TypeId × Value → H) :
    ReturnsInHanded {} Tryz.checked os 3 .any (fun w args => (Rows.tierLongSpec.pre enc Tryz.prog Tryz.f3 Rows.tierLongRow.domain false w args ∧ laidMetH Tryz.prog Rows.tierLongRow.laid w) ∧ sizedMet enc Tryz.prog Tryz.f3 (OpenSpec.ofChange Rows.tierLongSpec) false w args)
      (Rows.tierLongSpec.post enc Tryz.prog Tryz.f3 false true false false) := by
  refine returnsInHanded_of_change_and (C := Tryz.checked) (X := fun w _ => laidMetH Tryz.prog Rows.tierLongRow.laid w) (fun _ _ _ hh h => h.of_heap hh) own started (by kernel_rfl) Tryz.func3
    (ChangeSpec.witness_shaped (enc := enc) (C := Tryz.checked) (os := os) (X := fun w _ => laidMetH Tryz.prog Rows.tierLongRow.laid w) false (World.laidAll Tryz.prog os Rows.tierLongRow.laid) #[.int .i64 0] 8 (World.laidAll_os _ _ _)
      (World.shaped_of_ZipB (by kernel_rfl) (by kernel_rfl)) (by kernel_rfl) (by kernel_rfl) (by kernel_rfl)
      (by rw [MakeChecks.laidMetH_plain _ _ _ (by kernel_rfl)]; exact laidMet_laidAll _ (by kernel_rfl) (by kernel_rfl))) ?_
  intro W base args ds gs before hval0 hW hc _ hL _
  have hval : ∀ (j : Nat) t v, Tryz.f3.params[j]? = some t → args[j]? = some v → Value.okWide Tryz.prog W .any base t v := hval0
  have hW' := hW
  obtain ⟨p, q, hA0, hV, rfl, _, _⟩ := hW
  have hA : DataW.TrodAll enc Tryz.prog W 0 (fun _ => true) true Tryz.f3.params.toList args.toList ds p := hA0
  rw [Tryz.params3] at hA hval
  obtain ⟨v0, vs0, d0, ds0, p0, q0, hargs, rfl, rfl, h0, r0⟩ := trodAll_cons hA
  obtain ⟨rfl, rfl, rfl⟩ := trodAll_nil r0
  obtain rfl : args = #[v0] := by cases args; simp_all
  obtain ⟨rfl, rfl⟩ := trodVars_none hV
  obtain ⟨a0, rfl, rfl, rfl, w0⟩ := open_int Tryz.underlying3 (hval 0 3 v0 rfl rfl) h0
  simp only [List.append_nil] at hW'
  have fin := Cub.law_conc (n := 1) F.gk_lt (laidIn hL) (args := [.int .i64 a0]) (by rfl) (fun v _ h => h) (run a0)
  refine fin.mono fun e W' ⟨he, hk⟩ => ?_
  subst he
  exact ⟨_, rfl, _, _, _, [], [], [], hW', (trodAll_cons_mk (shut_bool Tryz.underlying4 _) trodAll_mk0), (trodAll_cons_mk (shut_int Tryz.underlying3 w0) trodAll_mk0), rfl,
    World.keptBut_mono (fun p hp => hp.elim) (World.keptBut_none_iff.2 hk), fun h => by cases h⟩

theorem tierLong_row (run : TierRuns) : Rows.TierLongSaid :=
  OpenClaim.holds_of_wide 3 Tryz.f3 rfl rfl rfl rfl rfl rfl rfl ⟨rfl, rfl, rfl, rfl, rfl⟩ rfl rfl rfl rfl rfl (by kernel_rfl) Tryz.func3 cfAll
    (of_decide_eq_true (by kernel_rfl)) (by unfold Func.isWrapper; first | (rw [if_pos (by decide +kernel)]; kernel_rfl) | (rw [if_neg (by decide +kernel)]; exact ⟨rfl, rfl⟩))
    (fun os started H enc _ => tierLong_lifted run os started H enc)

set_option maxRecDepth 1000000 in
theorem cfWf : Rows.tierLongRow.wfByText (OpenSpec.ofChange Rows.tierLongSpec) = true := by kernel_rfl
set_option maxRecDepth 1000000 in
theorem cfMain : Tryz.pinned.checked.prog.mainIs = some (true, "e8a9c7dcf78b96be4e7d41a09d0f19d0c800f98967f6aeb65799218a7594bc9b".toList) := by kernel_rfl
set_option maxRecDepth 1000000 in
theorem cfLooks : false = Tryz.pinned.checked.prog.looks [] := by kernel_rfl
set_option maxRecDepth 1000000 in
theorem cfGoes : false = Rows.tierLongRow.goesBy Tryz.pinned.checked.prog := goesBy_no _ rfl
set_option maxRecDepth 1000000 in
theorem cfNamed : Tryz.prog.funcNamed "cubbyhole/cubbyholelaw42.TierLong" = some 3 := by kernel_rfl
set_option maxRecDepth 1000000 in
theorem cfStand : ([3].all fun u => !Tryz.prog.wantsStandIn u) = true := by kernel_rfl

theorem tierLong_card (run : TierRuns) : Rows.TierLongCardSaid :=
  Claim7.holds_tied_plain_at .later [] [.data] true (true, "e8a9c7dcf78b96be4e7d41a09d0f19d0c800f98967f6aeb65799218a7594bc9b") false (tierLong_row run) (fun _ h => by cases h) cfWf (fun _ h => by cases h) tierLong_row_tie rfl ⟨rfl, rfl⟩ cfMain rfl
    (fun f fn hf hfn => by
      obtain rfl : f = 3 := Option.some.inj (cfNamed.symm.trans hf) |>.symm
      obtain rfl : fn = Tryz.f3 := (Option.some.inj (Tryz.func3.symm.trans hfn)).symm
      exact ⟨cfLooks, fun j t ht => by
        rw [Tryz.params3] at ht
        have hm : t ∈ [3] := by simpa using Array.mem_of_getElem? ht
        exact (show Tryz.prog.wantsStandIn t = false by simpa using List.all_eq_true.1 cfStand t hm)⟩)
    cfGoes
theorem tierRuns : TierRuns := fun a0 => F.law progOk a0
theorem tierLong_holds : Rows.TierLongCardSaid := tierLong_card tierRuns
#print axioms tierLong_holds
end Go.Proofs.YtdlnbmadifgbkaaGreatDoor
