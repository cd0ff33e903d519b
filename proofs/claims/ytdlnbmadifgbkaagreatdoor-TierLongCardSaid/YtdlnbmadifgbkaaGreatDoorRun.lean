/- The runs of this law: what is known of some calls; the examples of the chapter. -/
import Derived.Test.YtdlnbmadifgbkaaGreatDoorVT
import Derived.Test.YtdlnbmadifgbkaaGreatDoorNew
import Derived.Test.YtdlnbmadifgbkaaGreatDoorCubS25
namespace Go.Proofs.YtdlnbmadifgbkaaGreatDoor.F
set_option linter.unusedVariables false
set_option linter.unusedSimpArgs false
open Go Go.Cub
def deBs : List Int := [0, 1, 56, 2, 57, 49, 28, 3, 61, 58, 42, 50, 38, 29, 17, 4, 62, 47, 59, 36, 45, 43, 51, 22, 53, 39, 33, 30, 24, 18, 12, 5, 63, 55, 48, 27, 60, 41, 37, 16, 46, 35, 44, 21, 52, 32, 23, 11, 54, 26, 40, 15, 34, 20, 31, 10, 25, 14, 19, 9, 13, 8, 7, 6]
def gvars : List (Nat × List Value) := [(0, deBs.map fun z => .int .u8 z)]
def newHeapK (h : AHeap) (N H : Nat) (k : Nat → AHeap → Prop) : Prop :=
  fN h.next fun n => bumpK (28 + 31 * H + 4) h fun h => setH h (n + 19) (.cells ⟨repL (N + H) zz, none, true, true⟩) fun h => setH h (n + 22) (.cells ⟨repL H [i64z], none, true, true⟩) fun h =>
    setH h (n + 24) (.cells ⟨[.slice (some ⟨n + 19, 0, none⟩) (N + H) (N + H), .int .i64 N, .slice (some ⟨n + 22, 0, none⟩) H H], none, true, true⟩) fun h => setH h (n + 19) (fieldObj N H H) fun h => fN (n + 24) fun p => k p h
theorem newHeapK_eq (h : AHeap) (N H : Nat) (k : Nat → AHeap → Prop) : newHeapK h N H k = k (h.next + 24) (newHeap h N H) := by
  unfold newHeapK
  simp only [fN_eq, bumpK_eq, setH_eq]
  rfl
def knownS : Known := fun f args h => match Nat.beq f 130, args with
  | true, [.int .i64 (.ofNat N), .int .i64 (.ofNat H)] => match Nat.ble 1 N && (Nat.ble N 4194304 && (Nat.ble 2 H && Nat.ble H 4096)) with
    | true => some fun K => newHeapK h N H fun p h => K (.tuple #[.pointer (some ⟨p, 0, none⟩), .int .i64 0]) h
    | false => none
  | _, _ => none
theorem knownS_ok : knownS.ok P := by
  intro f args h g hg K hk
  unfold knownS at hg
  split at hg
  · rename_i N H hb
    split at hg
    · rename_i hc
      cases hg
      simp only [Bool.and_eq_true, Nat.ble_eq] at hc
      have := Nat.eq_of_beq_eq_true hb
      subst this
      rw [newHeapK_eq] at hk
      exact new_run hc.1 hc.2.1 (by omega) hc.2.2.2 hk
    · cases hg
  · cases hg
end Go.Proofs.YtdlnbmadifgbkaaGreatDoor.F
