/- The closed facts of this seat's rows, that all share. -/
import Derived.Test.YtdlnbmadifgbkaaGreatDoorW1
import Derived.JoinedOf
namespace Go.Proofs.YtdlnbmadifgbkaaGreatDoor
set_option linter.unusedVariables false
set_option linter.unusedSimpArgs false
open Go
theorem and_true' {a b : Bool} (ha : a = true) (hb : b = true) : (a && b) = true := by rw [ha, hb]; rfl
set_option maxRecDepth 1000000
noncomputable def fineFrom (a : Nat) : Nat → Bool
  | 0 => true
  | k + 1 => rowFine Tryz.prog a && fineFrom (a + 1) k
theorem fineFrom_at : ∀ (k a i : Nat), fineFrom a k = true → a ≤ i → i < a + k → (rowFine Tryz.prog i) = true := by
  intro k
  induction k with
  | zero => intro a i _ _ _; omega
  | succ k ih =>
    intro a i h h1 h2
    simp only [fineFrom, Bool.and_eq_true] at h
    by_cases e : a = i
    · subst e; exact h.1
    · exact ih (a + 1) i h.2 (by omega) (by omega)
theorem fine0 : fineFrom 0 60 = true := by kernel_rfl
theorem fine60 : fineFrom 60 60 = true := by kernel_rfl
theorem fine120 : fineFrom 120 60 = true := by kernel_rfl
theorem fine180 : fineFrom 180 60 = true := by kernel_rfl
theorem fine240 : fineFrom 240 60 = true := by kernel_rfl
theorem fine300 : fineFrom 300 60 = true := by kernel_rfl
theorem fine360 : fineFrom 360 34 = true := by kernel_rfl
theorem typesSize : Tryz.prog.types.size = 394 := by kernel_rfl
theorem fRows : (List.range Tryz.prog.types.size).all (rowFine Tryz.prog) = true := by
  rw [List.all_eq_true]
  intro f hf
  have hlt : f < 394 := typesSize ▸ List.mem_range.1 hf
  · skip
    by_cases h0 : f < 60
    · exact fineFrom_at 60 0 f fine0 (by omega) (by omega)
    by_cases h60 : f < 120
    · exact fineFrom_at 60 60 f fine60 (by omega) (by omega)
    by_cases h120 : f < 180
    · exact fineFrom_at 60 120 f fine120 (by omega) (by omega)
    by_cases h180 : f < 240
    · exact fineFrom_at 60 180 f fine180 (by omega) (by omega)
    by_cases h240 : f < 300
    · exact fineFrom_at 60 240 f fine240 (by omega) (by omega)
    by_cases h300 : f < 360
    · exact fineFrom_at 60 300 f fine300 (by omega) (by omega)
    by_cases h360 : f < 394
    · exact fineFrom_at 34 360 f fine360 (by omega) (by omega)
    omega
theorem fGlob : Tryz.prog.globals.all (fun g => decide (g.type < Tryz.prog.types.size)) = true := by kernel_rfl
theorem fFun : Tryz.prog.funcs.all (fun f => f.params.all fun t => decide (t < Tryz.prog.types.size)) = true := by
  rw [typesSize]
  kernel_rfl
theorem fLaid : laidOutB Tryz.prog = true := by
  unfold laidOutB
  exact and_true' (and_true' fRows fGlob) fFun
theorem fMaps : mapsRowed Tryz.prog = true := by
  unfold mapsRowed
  rw [typesSize]
  kernel_rfl
end Go.Proofs.YtdlnbmadifgbkaaGreatDoor
