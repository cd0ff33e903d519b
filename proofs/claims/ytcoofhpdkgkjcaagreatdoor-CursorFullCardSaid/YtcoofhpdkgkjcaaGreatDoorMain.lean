/- CursorFull returns true: the examples and the making of the cursors are run; the rest is by the bits of the word. -/
import Derived.Test.YtcoofhpdkgkjcaaGreatDoorCubS25
import Derived.Test.YtcoofhpdkgkjcaaGreatDoorRun
import Derived.Test.YtcoofhpdkgkjcaaGreatDoorOpd
namespace Go.Proofs.YtcoofhpdkgkjcaaGreatDoor.F
set_option linter.unusedVariables false
set_option linter.unusedSimpArgs false
open Go Go.Cub
def chkG : List Value → List Int → Bool
  | [], [] => true
  | .int .u8 a :: l, b :: r => decide (a = b) && chkG l r
  | _, _ => false
theorem chkG_ok : ∀ l r, chkG l r = true → l = r.map fun z => .int .u8 z := by
  intro l
  induction l with
  | nil => intro r h; cases r <;> first | rfl | simp [chkG] at h
  | cons v l ih =>
    intro r h
    cases r with
    | nil => cases v <;> simp [chkG] at h
    | cons b r =>
      unfold chkG at h
      split at h
      · rename_i heq1 heq2; cases heq1
      · rename_i a l' b' r' heq1 heq2
        cases heq1; cases heq2
        simp only [Bool.and_eq_true, decide_eq_true_eq] at h
        rw [h.1, ih _ h.2]; rfl
      · cases h
def chkS (h : AHeap) (s : Addr) : Bool := match s with
  | ⟨b, 0, none⟩ => match h.get b with
    | some (.cells ⟨.pointer (some _) :: .int .u64 (.ofNat 0) :: places, none, true, true⟩) => Nat.beq places.length 64 && Nat.ble 1 b
    | _ => false
  | _ => false
def chk (v : Value) (h : AHeap) : Bool := match v with
  | .tuple vs => match vs.toList with
    | [.pointer (some _), .pointer (some s)] => chkS h s && (match h.get 0 with
      | some (.cells ⟨cs, none, false, false⟩) => chkG cs deBs
      | _ => false)
    | _ => false
  | _ => false
theorem chkS_ok {h : AHeap} {s : Addr} (hc : chkS h s = true) : ∃ b c, s = ⟨b, 0, none⟩ ∧ Cur h b c 0 ∧ 1 ≤ b := by
  unfold chkS at hc
  split at hc
  · rename_i b
    split at hc
    · rename_i c places hg
      simp only [Bool.and_eq_true, Nat.ble_eq] at hc
      exact ⟨b, c, rfl, ⟨places, Nat.eq_of_beq_eq_true hc.1, hg⟩, hc.2⟩
    · cases hc
  · cases hc
def Glb (h : AHeap) : Prop := h.get 0 = some (.cells ⟨deBs.map fun z => .int .u8 z, none, false, false⟩)
theorem chk_ok {v : Value} {h : AHeap} (hc : chk v h = true) : ∃ c' b c, v = .tuple #[.pointer (some c'), .pointer (some ⟨b, 0, none⟩)] ∧ Cur h b c 0 ∧ 1 ≤ b ∧ Glb h := by
  unfold chk at hc
  split at hc
  · rename_i vs
    split at hc
    · rename_i c' s hl
      simp only [Bool.and_eq_true] at hc
      obtain ⟨b, c, e1, e2, e3⟩ := chkS_ok hc.1
      have h2 := hc.2
      split at h2
      · rename_i cs hg
        refine ⟨c', b, c, ?_, e2, e3, by unfold Glb; rw [hg, chkG_ok _ _ h2]⟩
        obtain ⟨vs⟩ := vs
        simp only at hl
        rw [hl, e1]
      · cases h2
    · cases hc
  · cases hc
set_option maxRecDepth 1000000 in
theorem mkRun : runS P tbl knownS 100 (.call 6 []) (fun v h => runS P tbl knownS 100 (.call 5 [v]) (fun v h => chk v h = true) h) ((((layG gvars 1).bump 1).bump 6).bump 7) = (true = true) := by kernel_rfl
set_option maxRecDepth 1000000 in
theorem knRun : runS P tbl knownS 100 (.call 4 []) (fun v _ => v = .bool true) (layG gvars 1) = (Value.bool true = Value.bool true) := by kernel_rfl
theorem known_call : callA P (.call 4 []) (fun v _ => v = .bool true) (layG gvars 1) := runS_A tbl_ok knownS_ok 100 _ _ _ (by rw [knRun])
theorem made_call : callA P (.call 6 []) (fun v h => callA P (.call 5 [v]) (fun v h => chk v h = true) h) ((((layG gvars 1).bump 1).bump 6).bump 7) :=
  callA_mono _ _ _ _ (fun _ _ hx => runS_A tbl_ok knownS_ok 100 _ _ _ hx) (runS_A tbl_ok knownS_ok 100 _ _ _ (by rw [mkRun]))
end Go.Proofs.YtcoofhpdkgkjcaaGreatDoor.F
