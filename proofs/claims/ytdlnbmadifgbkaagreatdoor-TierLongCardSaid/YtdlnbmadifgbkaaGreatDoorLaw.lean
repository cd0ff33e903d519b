/- TierLong returns true: the three sizes are run, the rest are the examples of the chapter. -/
import Derived.Test.YtdlnbmadifgbkaaGreatDoorMain
namespace Go.Proofs.YtdlnbmadifgbkaaGreatDoor.F
set_option linter.unusedVariables false
set_option linter.unusedSimpArgs false
open Go Go.Cub
def zerosOf (n : Nat) : List Value := repL n [.int .u8 0]
theorem zerosOf_length (n : Nat) : n = (zerosOf n).length := by simp [zerosOf, repL_length]
set_option maxRecDepth 1000000 in
theorem run35 : runS P tblV knownC 100 (.call 3 [.int .i64 65535]) (fun v _ => v = .bool true) (layG gvars 1) = (65535 = (zerosOf 65535).length ∧ (65535 = (zerosOf 65535).length ∧ (65535 = (zerosOf 65535).length ∧ (65535 = (zerosOf 65535).length ∧ (Value.bool true = Value.bool true))))) := by kernel_rfl
set_option maxRecDepth 1000000 in
theorem run36 : runS P tblV knownC 100 (.call 3 [.int .i64 65536]) (fun v _ => v = .bool true) (layG gvars 1) = (65536 = (zerosOf 65536).length ∧ (65536 = (zerosOf 65536).length ∧ (65536 = (zerosOf 65536).length ∧ (65536 = (zerosOf 65536).length ∧ (Value.bool true = Value.bool true))))) := by kernel_rfl
set_option maxRecDepth 1000000 in
theorem run37 : runS P tblV knownC 100 (.call 3 [.int .i64 65537]) (fun v _ => v = .bool true) (layG gvars 1) = (Value.bool true = Value.bool true) := by kernel_rfl
noncomputable def rest3 : Code := match Tryz.f3.body with
  | some (.seq _ (.seq _ r)) => r
  | _ => .skip
theorem head3 (X : Caller) (L : Looper) (K : Value → AHeap → Prop) (h : AHeap) (t0 : Value) : aJob P X L (.call 3 [t0]) K h =
  (rdK ((fun h : AHeap => binC P .lss 3 3 t0 (.int .i64 65535) h) (((h.bump 1).bump 6))) (((h.bump 1).bump 6)) fun t9 h =>
   gopK (wantV t9 false) h (some (t0, h)) fun t11 h =>
   gopK (wantV t9 false) h ((binC P .gtr 3 3 t11 (.int .i64 65537) h).map (·, h)) fun t12 h =>
   opK (pickV t9 (.bool true) t12 h) fun t13 h =>
   condK t13
   (X (.call 4 []) (fun t14 h => K t14 h) ((h.bump 2)))
   (aCode P X L false rest3 ⟨upds (argsEnv [t0]) [(2, .bool false), (8, t0), (9, t9), (10, t9), (11, t11), (12, t12), (13, t13)], []⟩ (finX P X Tryz.f3 K) h)) := by kernel_rfl
set_option maxRecDepth 100000 in
theorem law (hP : ProgOk P gk) (n : Int) : Conc P gk (.call 3 [.int .i64 n]) (fun v _ => v = .bool true) (layG gvars 1) := by
  have hG0 : Glb (layG gvars 1) := by unfold Glb; rw [layG_get]; rfl
  have run := runS_Y (Conc.mono gk) (job_sound hP) tblV_ok (knownC_ok hP) 100
  by_cases e5 : n = 65535
  · subst e5
    exact run _ _ _ (by rw [run35]; exact ⟨zerosOf_length _, zerosOf_length _, zerosOf_length _, zerosOf_length _, rfl⟩)
  by_cases e6 : n = 65536
  · subst e6
    exact run _ _ _ (by rw [run36]; exact ⟨zerosOf_length _, zerosOf_length _, zerosOf_length _, zerosOf_length _, rfl⟩)
  by_cases e7 : n = 65537
  · subst e7
    exact run _ _ _ (by rw [run37])
  refine job_sound hP _ _ _ ?_
  rw [head3]
  by_cases c1 : n < 65535
  · have d1 : decide (n < 65535) = true := by simpa using c1
    simp (implicitDefEqProofs := false) only [binC_lss, d1, rdK_some, wantV_bool, show (true == false) = false from rfl, gopK_false, pickV_true, opK_some, condK_true]
    exact known_any hP hG0 rfl
  · have d1 : decide (n < 65535) = false := by simp; omega
    have d2 : decide (65537 < n) = true := by simp; omega
    simp (implicitDefEqProofs := false) only [binC_lss, d1, rdK_some, wantV_bool, beq_self_eq_true, gopK_true, binC_gtr, d2, Option.map_some, pickV_false, opK_some, condK_true]
    exact known_any hP hG0 rfl
end Go.Proofs.YtdlnbmadifgbkaaGreatDoor.F
