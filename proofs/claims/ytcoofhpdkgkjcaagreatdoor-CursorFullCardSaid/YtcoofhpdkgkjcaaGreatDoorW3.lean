/- The statement CursorFullCardSaid: CursorFull returns true for every input, and its arguments read as before; no condition. The examples of the chapter and the making of the cursors are run by the kernel on a machine that is proved sound for the model; the rest is by the bits of the word of open cursors. -/
import Derived.Test.YtcoofhpdkgkjcaaGreatDoorW2

namespace Go.Proofs.YtcoofhpdkgkjcaaGreatDoor
set_option linter.unusedVariables false
set_option linter.unusedSimpArgs false
open Go.ChangeShapes Go.WideShapes Go.ChangeAt Go.RowKit
set_option maxRecDepth 1000000
theorem cf4 : namedTie Tryz.prog Rows.cursorFullRow.named Rows.cursorFullSpec.vars = true := by kernel_rfl
theorem cf5 : (Rows.cursorFullRow.inPlace == Tryz.prog.inPlace 3) = true := by kernel_rfl
theorem cf6 : (Rows.cursorFullRow.unfollowed == Tryz.prog.unfollowed 3) = true := by kernel_rfl
theorem cf7 : (Rows.cursorFullRow.recurses == Tryz.prog.recurses 3) = true := by kernel_rfl
theorem cf8 : (Rows.cursorFullRow.named == Tryz.prog.varsNamed 3) = true := by kernel_rfl
set_option maxHeartbeats 4000000 in
theorem cfAll : joinedFacts Tryz.prog 3 Tryz.f3 Rows.cursorFullSpec Rows.cursorFullRow = true := by
  unfold joinedFacts
  repeat' with_reducible apply and_true'
  all_goals with_reducible first
    | exact fLaid
    | exact fMaps
    | exact cf4
    | exact cf5
    | exact cf6
    | exact cf7
    | exact cf8
    | skip
  all_goals as_aux_lemma => kernel_rfl
def CursorRuns : Prop := ∀ a0 a1 : Int, 0 ≤ a0 → a0 ≤ 255 → 0 ≤ a1 → a1 ≤ 255 → Cub.Conc Tryz.prog F.gk (.call 3 [.int .u8 a0, .int .u8 a1]) (fun v _ => v = .bool true) (Cub.layG F.gvars 1)

set_option maxRecDepth 100000 in
theorem cursorFull_lifted (run : CursorRuns) (os : Os) (started : os.Started) (H : Type) (enc : TypeId × Value → H) :
    ReturnsInHanded {} Tryz.checked os 3 .any (fun w args => (Rows.cursorFullSpec.pre enc Tryz.prog Tryz.f3 Rows.cursorFullRow.domain false w args ∧ laidMetH Tryz.prog Rows.cursorFullRow.laid w) ∧ sizedMet enc Tryz.prog Tryz.f3 (OpenSpec.ofChange Rows.cursorFullSpec) false w args)
      (Rows.cursorFullSpec.post enc Tryz.prog Tryz.f3 false true false false) := by
  refine returnsInHanded_of_change_and (C := Tryz.checked) (X := fun w _ => laidMetH Tryz.prog Rows.cursorFullRow.laid w) (fun _ _ _ hh h => h.of_heap hh) own started (by kernel_rfl) Tryz.func3
    (ChangeSpec.witness_shaped (enc := enc) (C := Tryz.checked) (os := os) (X := fun w _ => laidMetH Tryz.prog Rows.cursorFullRow.laid w) false (World.laidAll Tryz.prog os Rows.cursorFullRow.laid) #[.int .u8 0, .int .u8 0] 8 (World.laidAll_os _ _ _)
      (World.shaped_of_ZipB (by kernel_rfl) (by kernel_rfl)) (by kernel_rfl) (by kernel_rfl) (by kernel_rfl)
      (by rw [MakeChecks.laidMetH_plain _ _ _ (by kernel_rfl)]; exact laidMet_laidAll _ (by kernel_rfl) (by kernel_rfl))) ?_
  intro W base args ds gs before hval0 hW hc _ hL _
  have hval : ∀ (j : Nat) t v, Tryz.f3.params[j]? = some t → args[j]? = some v → Value.okWide Tryz.prog W .any base t v := hval0
  have hW' := hW
  obtain ⟨p, q, hA0, hV, rfl, _, _⟩ := hW
  have hA : DataW.TrodAll enc Tryz.prog W 0 (fun _ => true) true Tryz.f3.params.toList args.toList ds p := hA0
  rw [Tryz.params3] at hA hval
  obtain ⟨v0, vs0, d0, ds0, p0, q0, hargs, rfl, rfl, h0, r0⟩ := trodAll_cons hA
  obtain ⟨v1, vs1, d1, ds1, p1, q1, rfl, rfl, rfl, h1, r1⟩ := trodAll_cons r0
  obtain ⟨rfl, rfl, rfl⟩ := trodAll_nil r1
  obtain rfl : args = #[v0, v1] := by cases args; simp_all
  obtain ⟨rfl, rfl⟩ := trodVars_none hV
  obtain ⟨a0, rfl, rfl, rfl, w0⟩ := open_int Tryz.underlying5 (hval 0 5 v0 rfl rfl) h0
  obtain ⟨a1, rfl, rfl, rfl, w1⟩ := open_int Tryz.underlying5 (hval 1 5 v1 rfl rfl) h1
  have b0 : 0 ≤ a0 ∧ a0 ≤ 255 := by simpa [Lit.wf, IntKind.min, IntKind.max, IntKind.signed, IntKind.bits] using w0
  have b1 : 0 ≤ a1 ∧ a1 ≤ 255 := by simpa [Lit.wf, IntKind.min, IntKind.max, IntKind.signed, IntKind.bits] using w1
  simp only [List.append_nil] at hW'
  have fin := Cub.law_conc (n := 1) F.gk_lt (laidIn hL) (args := [.int .u8 a0, .int .u8 a1]) (by rfl) (fun v _ h => h) (run a0 a1 b0.1 b0.2 b1.1 b1.2)
  refine fin.mono fun e W' ⟨he, hk⟩ => ?_
  subst he
  exact ⟨_, rfl, _, _, _, [], [], [], hW', (trodAll_cons_mk (shut_bool Tryz.underlying4 _) trodAll_mk0), (trodAll_cons_mk (shut_int Tryz.underlying5 w0) (trodAll_cons_mk (shut_int Tryz.underlying5 w1) trodAll_mk0)), rfl,
    World.keptBut_mono (fun p hp => hp.elim) (World.keptBut_none_iff.2 hk), fun h => by cases h⟩

theorem cursorFull_row (run : CursorRuns) : Rows.CursorFullSaid :=
  OpenClaim.holds_of_wide 3 Tryz.f3 rfl rfl rfl rfl rfl rfl rfl ⟨rfl, rfl, rfl, rfl, rfl⟩ rfl rfl rfl rfl rfl (by kernel_rfl) Tryz.func3 cfAll
    (of_decide_eq_true (by kernel_rfl)) (by unfold Func.isWrapper; first | (rw [if_pos (by decide +kernel)]; kernel_rfl) | (rw [if_neg (by decide +kernel)]; exact ⟨rfl, rfl⟩))
    (fun os started H enc _ => cursorFull_lifted run os started H enc)

set_option maxRecDepth 1000000 in
theorem cfWf : Rows.cursorFullRow.wfByText (OpenSpec.ofChange Rows.cursorFullSpec) = true := by kernel_rfl
set_option maxRecDepth 1000000 in
theorem cfMain : Tryz.pinned.checked.prog.mainIs = some (true, "0aff4a153384a565888894216335ec1463e86bee291ef28786a761f4d7a050e8".toList) := by kernel_rfl
set_option maxRecDepth 1000000 in
theorem cfLooks : false = Tryz.pinned.checked.prog.looks [] := by kernel_rfl
set_option maxRecDepth 1000000 in
theorem cfGoes : false = Rows.cursorFullRow.goesBy Tryz.pinned.checked.prog := goesBy_no _ rfl
set_option maxRecDepth 1000000 in
theorem cfNamed : Tryz.prog.funcNamed "cubbyhole/cubbyholelaw25.CursorFull" = some 3 := by kernel_rfl
set_option maxRecDepth 1000000 in
theorem cfStand : ([5, 5].all fun u => !Tryz.prog.wantsStandIn u) = true := by kernel_rfl

theorem cursorFull_card (run : CursorRuns) : Rows.CursorFullCardSaid :=
  Claim7.holds_tied_plain_at .later [] [.data] true (true, "0aff4a153384a565888894216335ec1463e86bee291ef28786a761f4d7a050e8") false (cursorFull_row run) (fun _ h => by cases h) cfWf (fun _ h => by cases h) cursorFull_row_tie rfl ⟨rfl, rfl⟩ cfMain rfl
    (fun f fn hf hfn => by
      obtain rfl : f = 3 := Option.some.inj (cfNamed.symm.trans hf) |>.symm
      obtain rfl : fn = Tryz.f3 := (Option.some.inj (Tryz.func3.symm.trans hfn)).symm
      exact ⟨cfLooks, fun j t ht => by
        rw [Tryz.params3] at ht
        have hm : t ∈ [5, 5] := by simpa using Array.mem_of_getElem? ht
        exact (show Tryz.prog.wantsStandIn t = false by simpa using List.all_eq_true.1 cfStand t hm)⟩)
    cfGoes
theorem cursorRuns : CursorRuns := fun a0 a1 h0 h0' h1 h1' => by
  obtain ⟨n0, rfl⟩ := Int.eq_ofNat_of_zero_le h0
  obtain ⟨n1, rfl⟩ := Int.eq_ofNat_of_zero_le h1
  exact F.law progOk n0 n1 (by omega) (by omega)
theorem cursorFull_holds : Rows.CursorFullCardSaid := cursorFull_card cursorRuns
#print axioms cursorFull_holds
end Go.Proofs.YtcoofhpdkgkjcaaGreatDoor
