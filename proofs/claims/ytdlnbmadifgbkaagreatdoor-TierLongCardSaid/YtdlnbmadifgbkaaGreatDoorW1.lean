/- The seat's program is within what the abstract machine reads; its laid variables; no goroutine. -/
import Derived.Test.YtdlnbmadifgbkaaGreatDoorLaw
import Derived.Test.YtdlnbmadifgbkaaGreatDoorCards
import Derived.Test.YtdlnbmadifgbkaaGreatDoorTie
import Derived.WalkKit
import Derived.ProofKit
import Derived.OpenShut
import Derived.LaidMore
import Derived.Lay
import Derived.SevenTiedAt
import GoSem.ClaimGoes
namespace Go.Proofs.YtdlnbmadifgbkaaGreatDoor
set_option linter.unusedVariables false
set_option linter.unusedSimpArgs false
open Go Go.ChangeShapes Go.WideShapes Go.ChangeAt Go.RowKit
set_option maxRecDepth 1000000
theorem own : ownKnob Tryz.prog.godebug = none := by kernel_rfl
theorem follows : Tryz.prog.follows .mixedOrders = true := by kernel_rfl
noncomputable def okAt (i : Nat) : Bool := match Tryz.prog.funcs[i]? with
  | some fn => Cub.Func.ok F.gk fn
  | none => true
noncomputable def okFrom (a : Nat) : Nat → Bool
  | 0 => true
  | k + 1 => okAt a && okFrom (a + 1) k
theorem okFrom_at : ∀ (k a i : Nat), okFrom a k = true → a ≤ i → i < a + k → (okAt i) = true := by
  intro k
  induction k with
  | zero => intro a i _ _ _; omega
  | succ k ih =>
    intro a i h h1 h2
    simp only [okFrom, Bool.and_eq_true] at h
    by_cases e : a = i
    · subst e; exact h.1
    · exact ih (a + 1) i h.2 (by omega) (by omega)
theorem ok0 : okFrom 0 40 = true := by kernel_rfl
theorem ok40 : okFrom 40 40 = true := by kernel_rfl
theorem ok80 : okFrom 80 40 = true := by kernel_rfl
theorem ok120 : okFrom 120 40 = true := by kernel_rfl
theorem ok160 : okFrom 160 40 = true := by kernel_rfl
theorem ok200 : okFrom 200 40 = true := by kernel_rfl
theorem ok240 : okFrom 240 40 = true := by kernel_rfl
theorem ok280 : okFrom 280 40 = true := by kernel_rfl
theorem ok320 : okFrom 320 1 = true := by kernel_rfl
theorem okSize : Tryz.prog.funcs.size = 321 := by kernel_rfl
theorem progOk : Cub.ProgOk Tryz.prog F.gk := ⟨follows, fun f fn h => by
  have hlt : f < 321 := okSize ▸ (Array.getElem?_eq_some_iff.1 h).1
  have hat : okAt f = true := by
    by_cases h0 : f < 40
    · exact okFrom_at 40 0 f ok0 (by omega) (by omega)
    by_cases h40 : f < 80
    · exact okFrom_at 40 40 f ok40 (by omega) (by omega)
    by_cases h80 : f < 120
    · exact okFrom_at 40 80 f ok80 (by omega) (by omega)
    by_cases h120 : f < 160
    · exact okFrom_at 40 120 f ok120 (by omega) (by omega)
    by_cases h160 : f < 200
    · exact okFrom_at 40 160 f ok160 (by omega) (by omega)
    by_cases h200 : f < 240
    · exact okFrom_at 40 200 f ok200 (by omega) (by omega)
    by_cases h240 : f < 280
    · exact okFrom_at 40 240 f ok240 (by omega) (by omega)
    by_cases h280 : f < 320
    · exact okFrom_at 40 280 f ok280 (by omega) (by omega)
    by_cases h320 : f < 321
    · exact okFrom_at 1 320 f ok320 (by omega) (by omega)
    omega
  unfold okAt at hat
  rw [h] at hat
  exact hat⟩
noncomputable def stillFrom (a : Nat) : Nat → Bool
  | 0 => true
  | k + 1 => !(Tryz.prog.funcs[a]?).any Func.goes && stillFrom (a + 1) k
theorem stillFrom_at : ∀ (k a i : Nat), stillFrom a k = true → a ≤ i → i < a + k → (!(Tryz.prog.funcs[i]?).any Func.goes) = true := by
  intro k
  induction k with
  | zero => intro a i _ _ _; omega
  | succ k ih =>
    intro a i h h1 h2
    simp only [stillFrom, Bool.and_eq_true] at h
    by_cases e : a = i
    · subst e; exact h.1
    · exact ih (a + 1) i h.2 (by omega) (by omega)
theorem still0 : stillFrom 0 60 = true := by kernel_rfl
theorem still60 : stillFrom 60 60 = true := by kernel_rfl
theorem still120 : stillFrom 120 60 = true := by kernel_rfl
theorem still180 : stillFrom 180 60 = true := by kernel_rfl
theorem still240 : stillFrom 240 60 = true := by kernel_rfl
theorem still300 : stillFrom 300 21 = true := by kernel_rfl
theorem noGo (f : Nat) : (Tryz.prog.funcs[f]?).any Func.goes = false := by
  by_cases hlt : f < 321
  · rw [← Bool.not_eq_true']
    by_cases h0 : f < 60
    · exact stillFrom_at 60 0 f still0 (by omega) (by omega)
    by_cases h60 : f < 120
    · exact stillFrom_at 60 60 f still60 (by omega) (by omega)
    by_cases h120 : f < 180
    · exact stillFrom_at 60 120 f still120 (by omega) (by omega)
    by_cases h180 : f < 240
    · exact stillFrom_at 60 180 f still180 (by omega) (by omega)
    by_cases h240 : f < 300
    · exact stillFrom_at 60 240 f still240 (by omega) (by omega)
    by_cases h300 : f < 321
    · exact stillFrom_at 21 300 f still300 (by omega) (by omega)
    omega
  · rw [Array.getElem?_eq_none (by rw [okSize]; omega)]
    rfl
theorem noGoes (f : FuncId) : Tryz.prog.goes f = false := by
  unfold Program.goes
  rw [Bool.or_eq_false_iff]
  refine ⟨?_, ?_⟩
  · rw [Bool.eq_false_iff]
    intro h
    simp only [List.any_eq_true, Array.any_eq_true'] at h
    obtain ⟨g, _, hg⟩ := h
    rw [noGo g] at hg; cases hg
  · rw [Bool.and_eq_false_iff]
    refine .inr ?_
    rw [Bool.eq_false_iff]
    intro h
    rw [Array.any_eq_true] at h
    obtain ⟨i, hi, hg⟩ := h
    have := noGo i
    rw [Array.getElem?_eq_getElem hi] at this
    rw [Option.any_some, hg] at this; cases this
theorem goesBy_no (c : OpenClaim) (hs : c.start = .entering) : false = c.goesBy Tryz.pinned.checked.prog := by
  show false = Tryz.prog.goesAt c.start c.func
  unfold Program.goesAt Program.goesFrom
  rw [hs]
  cases h : Tryz.prog.funcNamed c.func with
  | none => rfl
  | some f => simp [noGoes f]
theorem laidIn {W : World} (h : laidMetH Tryz.prog [("math/bits.deBruijn64tab", Rows.laid_math_bits_deBruijn64tab)] W) : Cub.LaidIn F.gvars 1 W := by
  rw [MakeChecks.laidMetH_plain _ _ _ (by kernel_rfl)] at h
  obtain ⟨ps, ⟨g, t, cs, fuel, p, q, hg, ht, hv, hd, _, _⟩, _, _⟩ := h
  have hgn : Tryz.prog.globalNamed "math/bits.deBruijn64tab" = some 0 := by kernel_rfl
  obtain rfl := Option.some.inj (hgn.symm.trans hg)
  obtain rfl := Option.some.inj ((show (Tryz.prog.globals[0]?).map (·.type) = some 374 by kernel_rfl).symm.trans ht)
  obtain ⟨xs, m, _, ex, hcl, hl, hel⟩ := DataW.trod_array Tryz.underlying374 hd
  have c5 : Tryz.prog.cellsOf 5 = 1 := by kernel_rfl
  have c681 : Tryz.prog.cellsOf 374 = 64 := by kernel_rfl
  rw [c681] at hcl
  have hlen : F.deBs.length = 64 := by decide
  have e3 : (xs.map (·.1)) = F.deBs.map fun n => .lit (.int .u8 n) := (DataW.agg.inj (Prod.mk.inj ex).1).symm
  have hcs : cs.toList = F.deBs.map fun z => .int .u8 z := by
    apply List.ext_getElem (by simp [hlen] at hcl ⊢; exact hcl)
    intro r h1 h2
    have hr : r < 64 := by simpa [hlen] using h2
    have hE := hel r hr
    rw [c5, Nat.mul_one, List.getElem?_eq_getElem (by omega)] at hE
    obtain ⟨z, e1, e2, _⟩ := DataW.trod_int Tryz.underlying5 hE
    have e4 : (xs.map (·.1))[r]? = (F.deBs.map fun n => (DataW.lit (.int .u8 n) : DataW Unit))[r]? := by rw [e3]
    rw [List.getElem?_map, List.getElem?_map, List.getElem?_eq_getElem (by omega : r < xs.length), List.getElem?_eq_getElem (by omega : r < F.deBs.length), e2] at e4
    simp only [Option.map_some, Option.some.injEq, DataW.lit.injEq, Lit.int.injEq, true_and] at e4
    have h0 : ((cs.toList.drop r).take 1)[0]? = some (.int .u8 z) := by rw [e1]; rfl
    have h3 : cs.toList[r]? = some (.int .u8 z) := by simpa using h0
    rw [List.getElem?_eq_getElem h1] at h3
    rw [List.getElem_map, ← e4]
    exact Option.some.inj h3
  have hheap : ∃ ty fr, W.heap[0]? = some (.cells cs ty fr) := by
    simp only [World.var?, hgn, Option.bind_some] at hv
    split at hv
    · rename_i c ty fr hb; cases hv; exact ⟨ty, fr, hb⟩
    · cases hv
  obtain ⟨ty, fr, hh⟩ := hheap
  refine ⟨by have := (Array.getElem?_eq_some_iff.1 hh).1; omega, fun i l hi hl => ?_⟩
  have he : i = 0 ∧ l = F.deBs.map fun z => .int .u8 z := by
    cases hb : Nat.beq 0 i with
    | false => exact absurd hl (by simp only [F.gvars, Cub.lookG, hb]; simp)
    | true =>
      have e := Nat.eq_of_beq_eq_true hb
      subst e
      have : Cub.lookG F.gvars 0 = some (F.deBs.map fun z => .int .u8 z) := rfl
      rw [this] at hl; exact ⟨rfl, (Option.some.inj hl).symm⟩
  obtain ⟨rfl, rfl⟩ := he
  refine ⟨by rfl, ty, fr, ?_⟩
  rw [hh]
  congr 2
  apply Array.ext'
  simpa using hcs
end Go.Proofs.YtdlnbmadifgbkaaGreatDoor
