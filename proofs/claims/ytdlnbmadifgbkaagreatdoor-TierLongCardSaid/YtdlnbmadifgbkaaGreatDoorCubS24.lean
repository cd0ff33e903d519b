/- A call of a law whose arguments hold no memory, in a world whose package variables lie as they were laid. -/
import Derived.Test.YtdlnbmadifgbkaaGreatDoorCubS23
import Derived.ChangeFn
namespace Go.Cub
set_option linter.unusedVariables false
set_option linter.unusedSimpArgs false
open Go

def lookG : List (Nat × List Value) → Nat → Option (List Value)
  | [], _ => none
  | (g, cs) :: r, i => match Nat.beq g i with
    | true => some cs
    | false => lookG r i

/-- The package variables: those that are listed lie there, and may not be written; of the others nothing is known. -/
def layG (G : List (Nat × List Value)) : Nat → AHeap
  | 0 => ⟨.nil, 0, fun _ _ => rfl⟩
  | n + 1 => ((layG G n).bump 1).set n (match lookG G n with
    | some cs => .cells ⟨cs, none, false, false⟩
    | none => .dead)

theorem layG_next (G : List (Nat × List Value)) : ∀ n, (layG G n).next = n := by
  intro n
  induction n with
  | zero => rfl
  | succ n ih => simp [layG, ih]

theorem layG_get (G : List (Nat × List Value)) : ∀ n i, (layG G n).get i = if i < n then some (match lookG G i with | some cs => .cells ⟨cs, none, false, false⟩ | none => .dead) else none := by
  intro n
  induction n with
  | zero => intro i; rfl
  | succ n ih =>
    intro i
    simp only [layG]
    by_cases e : i = n
    · subst e
      rw [AHeap.get_set_same (by simp [layG_next]), if_pos (by omega)]
    · rw [AHeap.get_set_ne e, AHeap.get_bump, ih i]
      by_cases h : i < n
      · rw [if_pos h, if_pos (by omega)]
      · rw [if_neg h, if_neg (by omega)]

/-- The variables that are listed hold this. -/
def LaidIn (G : List (Nat × List Value)) (n : Nat) (w : World) : Prop :=
  n ≤ w.heap.size ∧ ∀ i cs, i < n → lookG G i = some cs → cs.all isAtom = true ∧ ∃ t fr, w.heap[i]? = some (.cells cs.toArray t fr)

def mapG (G : List (Nat × List Value)) (n : Nat) : AMap := fun i =>
  if i < n then some (match lookG G i with | some cs => some ⟨.cells, i, 0, cs.length, none, cs.length⟩ | none => none) else none

section
variable {P : Program} {gok : Nat → Bool} {G : List (Nat × List Value)} {n : Nat} {w : World}

theorem LRel.atoms {m : AMap} {l : List Value} (h : l.all isAtom = true) : LRel m l l :=
  ⟨rfl, fun i u u' a b => by
    rw [a] at b; cases b
    exact .atom (List.all_eq_true.1 h u (List.mem_of_getElem? a))⟩

theorem hrel_laid (hw : LaidIn G n w) : HRel (mapG G n) (layG G n) w := by
  refine ⟨fun i hi => ?_, fun i t hi => ?_, fun i hi => ?_, fun i i' t t' hi hi' e => ?_⟩
  · rw [layG_next]
    unfold mapG at hi
    split at hi
    · assumption
    · exact absurd rfl hi
  · unfold mapG at hi
    split at hi
    · rename_i hlt
      rw [Option.some.injEq] at hi
      cases hg : lookG G i with
      | none => rw [hg] at hi; cases hi
      | some cs =>
        rw [hg] at hi; cases hi
        obtain ⟨ha, ty, fr, hh⟩ := hw.2 i cs hlt hg
        refine ⟨_, _, by rw [layG_get, if_pos hlt, hg], hh, ?_⟩
        exact ⟨rfl, rfl, rfl, by simp, by simp, by simpa using LRel.atoms ha, fun h => (by cases h), fun h => (by cases h)⟩
    · cases hi
  · unfold mapG at hi
    split at hi
    · rename_i hlt
      rw [Option.some.injEq] at hi
      cases hg : lookG G i with
      | none => rw [layG_get, if_pos hlt, hg]
      | some cs => rw [hg] at hi; cases hi
    · cases hi
  · unfold mapG at hi hi'
    split at hi
    · split at hi'
      · rw [Option.some.injEq] at hi hi'
        split at hi
        · cases hi
          split at hi'
          · cases hi'; exact e
          · cases hi'
        · cases hi
      · cases hi'
    · cases hi

theorem grel_laid (hg : ∀ g, gok g = true → g < n) : GRel gok (mapG G n) := fun g h => by
  have := hg g h
  unfold PRel mapG
  rw [if_pos this]
  cases lookG G g with
  | none => exact .inl rfl
  | some cs => exact .inr ⟨_, rfl, by simp⟩

/-- **A law without memory in its arguments.** -/
theorem law_atoms (hP : ProgOk P gok) (hg : ∀ g, gok g = true → g < n) (hw : LaidIn G n w) {f : FuncId} {args : List Value} {K : Value → AHeap → Prop} (ha : args.all isAtom = true) (hK : ∀ v h, K v h → v = .bool true) (hc : callA P (.call f args) K (layG G n)) :
    Calls P f args.toArray w fun e w' => e = .returned (.bool true) ∧ w.kept w' := by
  have H := hrel_laid hw
  have hb := call_sound hP _ _ _ hc (mapG G n) w args H (grel_laid hg) (LRel.atoms ha)
  refine ((hb.callsIn none).calls (fun k => room0 none k)).mono fun e w' he => ?_
  cases e with
  | panicked ch => exact he.elim
  | outgrown => exact he.elim
  | returned v' =>
    obtain ⟨v, h', m', hk, hv, H', E⟩ := he
    have := hK v h' hk
    subst this
    refine ⟨by rw [hv.bool], E.os, E.output, fun i hi => ?_⟩
    by_cases hm : ∃ k t, mapG G n k = some (some t) ∧ t.j = i
    · obtain ⟨k, t, hm, rfl⟩ := hm
      have hm0 := hm
      unfold mapG at hm
      split at hm
      · rename_i hlt
        rw [Option.some.injEq] at hm
        cases hgk : lookG G k with
        | none => rw [hgk] at hm; cases hm
        | some cs =>
          rw [hgk] at hm; cases hm
          exact (E.ro k _ ⟨cs, none, false, false⟩ hm0 (by rw [layG_get, if_pos hlt, hgk]) rfl).2.2
      · cases hm
    · exact E.frC i hi (fun k t hk' e => hm ⟨k, t, hk', e⟩)
end
end Go.Cub
