/- A runner: rounds of calls, each function by its shallow text, some calls by what is known of them. -/
import Derived.Test.YtdlnbmadifgbkaaGreatDoorCubF
namespace Go.Cub
set_option linter.unusedVariables false
set_option linter.unusedSimpArgs false
open Go

abbrev FT := Caller → Looper → (Value → AHeap → Prop) → AHeap → List Value → Prop
abbrev Known := FuncId → List Value → AHeap → Option ((Value → AHeap → Prop) → Prop)

inductive BT where
  | nil
  | leaf (k : FuncId) (g : FT)
  | node (k : Nat) (l r : BT)

def BT.get : BT → Nat → Option FT
  | .nil, _ => none
  | .leaf k g, i => match Nat.beq i k with
    | true => some g
    | false => none
  | .node k l r, i => match Nat.ble i k with
    | true => l.get i
    | false => r.get i

def BT.All (p : FuncId → FT → Prop) : BT → Prop
  | .nil => True
  | .leaf k g => p k g
  | .node _ l r => l.All p ∧ r.All p

theorem BT.all_leaf {p : FuncId → FT → Prop} {k : FuncId} {g : FT} (h : p k g) : (BT.leaf k g).All p := h
theorem BT.all_node {p : FuncId → FT → Prop} {k : Nat} {l r : BT} (hl : l.All p) (hr : r.All p) : (BT.node k l r).All p := ⟨hl, hr⟩
theorem BT.all_nil {p : FuncId → FT → Prop} : BT.nil.All p := True.intro
theorem BT.get_all {p : FuncId → FT → Prop} : ∀ {t : BT} {i : Nat} {g : FT}, t.All p → t.get i = some g → p i g := by
  intro t
  induction t with
  | nil => intro i g _ h; cases h
  | leaf k g' =>
    intro i g hp h
    simp only [BT.get] at h
    split at h
    · rename_i hb
      cases h
      have := Nat.eq_of_beq_eq_true hb
      subst this; exact hp
    · cases h
  | node k l r ihl ihr =>
    intro i g hp h
    simp only [BT.get] at h
    split at h
    · exact ihl hp.1 h
    · exact ihr hp.2 h

/-- A text stands for a function. -/
def TextOf (P : Program) (i : FuncId) (g : FT) : Prop := ∀ X L K h args, g X L K h args → aJob P X L (.call i args) K h

def ap0 (f : Caller → Looper → (Value → AHeap → Prop) → AHeap → Prop) : FT := fun X L K h args => match args with
  | [] => f X L K h 
  | _ => False
theorem ap0_ok {P : Program} {i : FuncId} {f : Caller → Looper → (Value → AHeap → Prop) → AHeap → Prop} (he : ∀ X L K h, aJob P X L (.call i []) K h = f X L K h ) : TextOf P i (ap0 f) := fun X L K h args hc => by
  unfold ap0 at hc
  split at hc
  · rw [he]; exact hc
  · exact hc.elim
def ap1 (f : Caller → Looper → (Value → AHeap → Prop) → AHeap → Value → Prop) : FT := fun X L K h args => match args with
  | [t0] => f X L K h t0
  | _ => False
theorem ap1_ok {P : Program} {i : FuncId} {f : Caller → Looper → (Value → AHeap → Prop) → AHeap → Value → Prop} (he : ∀ X L K h t0, aJob P X L (.call i [t0]) K h = f X L K h t0) : TextOf P i (ap1 f) := fun X L K h args hc => by
  unfold ap1 at hc
  split at hc
  · rw [he]; exact hc
  · exact hc.elim
def ap2 (f : Caller → Looper → (Value → AHeap → Prop) → AHeap → Value → Value → Prop) : FT := fun X L K h args => match args with
  | [t0, t1] => f X L K h t0 t1
  | _ => False
theorem ap2_ok {P : Program} {i : FuncId} {f : Caller → Looper → (Value → AHeap → Prop) → AHeap → Value → Value → Prop} (he : ∀ X L K h t0 t1, aJob P X L (.call i [t0, t1]) K h = f X L K h t0 t1) : TextOf P i (ap2 f) := fun X L K h args hc => by
  unfold ap2 at hc
  split at hc
  · rw [he]; exact hc
  · exact hc.elim
def ap3 (f : Caller → Looper → (Value → AHeap → Prop) → AHeap → Value → Value → Value → Prop) : FT := fun X L K h args => match args with
  | [t0, t1, t2] => f X L K h t0 t1 t2
  | _ => False
theorem ap3_ok {P : Program} {i : FuncId} {f : Caller → Looper → (Value → AHeap → Prop) → AHeap → Value → Value → Value → Prop} (he : ∀ X L K h t0 t1 t2, aJob P X L (.call i [t0, t1, t2]) K h = f X L K h t0 t1 t2) : TextOf P i (ap3 f) := fun X L K h args hc => by
  unfold ap3 at hc
  split at hc
  · rw [he]; exact hc
  · exact hc.elim
def ap4 (f : Caller → Looper → (Value → AHeap → Prop) → AHeap → Value → Value → Value → Value → Prop) : FT := fun X L K h args => match args with
  | [t0, t1, t2, t3] => f X L K h t0 t1 t2 t3
  | _ => False
theorem ap4_ok {P : Program} {i : FuncId} {f : Caller → Looper → (Value → AHeap → Prop) → AHeap → Value → Value → Value → Value → Prop} (he : ∀ X L K h t0 t1 t2 t3, aJob P X L (.call i [t0, t1, t2, t3]) K h = f X L K h t0 t1 t2 t3) : TextOf P i (ap4 f) := fun X L K h args hc => by
  unfold ap4 at hc
  split at hc
  · rw [he]; exact hc
  · exact hc.elim
def ap5 (f : Caller → Looper → (Value → AHeap → Prop) → AHeap → Value → Value → Value → Value → Value → Prop) : FT := fun X L K h args => match args with
  | [t0, t1, t2, t3, t4] => f X L K h t0 t1 t2 t3 t4
  | _ => False
theorem ap5_ok {P : Program} {i : FuncId} {f : Caller → Looper → (Value → AHeap → Prop) → AHeap → Value → Value → Value → Value → Value → Prop} (he : ∀ X L K h t0 t1 t2 t3 t4, aJob P X L (.call i [t0, t1, t2, t3, t4]) K h = f X L K h t0 t1 t2 t3 t4) : TextOf P i (ap5 f) := fun X L K h args hc => by
  unfold ap5 at hc
  split at hc
  · rw [he]; exact hc
  · exact hc.elim
def ap6 (f : Caller → Looper → (Value → AHeap → Prop) → AHeap → Value → Value → Value → Value → Value → Value → Prop) : FT := fun X L K h args => match args with
  | [t0, t1, t2, t3, t4, t5] => f X L K h t0 t1 t2 t3 t4 t5
  | _ => False
theorem ap6_ok {P : Program} {i : FuncId} {f : Caller → Looper → (Value → AHeap → Prop) → AHeap → Value → Value → Value → Value → Value → Value → Prop} (he : ∀ X L K h t0 t1 t2 t3 t4 t5, aJob P X L (.call i [t0, t1, t2, t3, t4, t5]) K h = f X L K h t0 t1 t2 t3 t4 t5) : TextOf P i (ap6 f) := fun X L K h args hc => by
  unfold ap6 at hc
  split at hc
  · rw [he]; exact hc
  · exact hc.elim
def ap7 (f : Caller → Looper → (Value → AHeap → Prop) → AHeap → Value → Value → Value → Value → Value → Value → Value → Prop) : FT := fun X L K h args => match args with
  | [t0, t1, t2, t3, t4, t5, t6] => f X L K h t0 t1 t2 t3 t4 t5 t6
  | _ => False
theorem ap7_ok {P : Program} {i : FuncId} {f : Caller → Looper → (Value → AHeap → Prop) → AHeap → Value → Value → Value → Value → Value → Value → Value → Prop} (he : ∀ X L K h t0 t1 t2 t3 t4 t5 t6, aJob P X L (.call i [t0, t1, t2, t3, t4, t5, t6]) K h = f X L K h t0 t1 t2 t3 t4 t5 t6) : TextOf P i (ap7 f) := fun X L K h args hc => by
  unfold ap7 at hc
  split at hc
  · rw [he]; exact hc
  · exact hc.elim
def ap8 (f : Caller → Looper → (Value → AHeap → Prop) → AHeap → Value → Value → Value → Value → Value → Value → Value → Value → Prop) : FT := fun X L K h args => match args with
  | [t0, t1, t2, t3, t4, t5, t6, t7] => f X L K h t0 t1 t2 t3 t4 t5 t6 t7
  | _ => False
theorem ap8_ok {P : Program} {i : FuncId} {f : Caller → Looper → (Value → AHeap → Prop) → AHeap → Value → Value → Value → Value → Value → Value → Value → Value → Prop} (he : ∀ X L K h t0 t1 t2 t3 t4 t5 t6 t7, aJob P X L (.call i [t0, t1, t2, t3, t4, t5, t6, t7]) K h = f X L K h t0 t1 t2 t3 t4 t5 t6 t7) : TextOf P i (ap8 f) := fun X L K h args hc => by
  unfold ap8 at hc
  split at hc
  · rw [he]; exact hc
  · exact hc.elim
def ap9 (f : Caller → Looper → (Value → AHeap → Prop) → AHeap → Value → Value → Value → Value → Value → Value → Value → Value → Value → Prop) : FT := fun X L K h args => match args with
  | [t0, t1, t2, t3, t4, t5, t6, t7, t8] => f X L K h t0 t1 t2 t3 t4 t5 t6 t7 t8
  | _ => False
theorem ap9_ok {P : Program} {i : FuncId} {f : Caller → Looper → (Value → AHeap → Prop) → AHeap → Value → Value → Value → Value → Value → Value → Value → Value → Value → Prop} (he : ∀ X L K h t0 t1 t2 t3 t4 t5 t6 t7 t8, aJob P X L (.call i [t0, t1, t2, t3, t4, t5, t6, t7, t8]) K h = f X L K h t0 t1 t2 t3 t4 t5 t6 t7 t8) : TextOf P i (ap9 f) := fun X L K h args hc => by
  unfold ap9 at hc
  split at hc
  · rw [he]; exact hc
  · exact hc.elim
def ap10 (f : Caller → Looper → (Value → AHeap → Prop) → AHeap → Value → Value → Value → Value → Value → Value → Value → Value → Value → Value → Prop) : FT := fun X L K h args => match args with
  | [t0, t1, t2, t3, t4, t5, t6, t7, t8, t9] => f X L K h t0 t1 t2 t3 t4 t5 t6 t7 t8 t9
  | _ => False
theorem ap10_ok {P : Program} {i : FuncId} {f : Caller → Looper → (Value → AHeap → Prop) → AHeap → Value → Value → Value → Value → Value → Value → Value → Value → Value → Value → Prop} (he : ∀ X L K h t0 t1 t2 t3 t4 t5 t6 t7 t8 t9, aJob P X L (.call i [t0, t1, t2, t3, t4, t5, t6, t7, t8, t9]) K h = f X L K h t0 t1 t2 t3 t4 t5 t6 t7 t8 t9) : TextOf P i (ap10 f) := fun X L K h args hc => by
  unfold ap10 at hc
  split at hc
  · rw [he]; exact hc
  · exact hc.elim
def ap11 (f : Caller → Looper → (Value → AHeap → Prop) → AHeap → Value → Value → Value → Value → Value → Value → Value → Value → Value → Value → Value → Prop) : FT := fun X L K h args => match args with
  | [t0, t1, t2, t3, t4, t5, t6, t7, t8, t9, t10] => f X L K h t0 t1 t2 t3 t4 t5 t6 t7 t8 t9 t10
  | _ => False
theorem ap11_ok {P : Program} {i : FuncId} {f : Caller → Looper → (Value → AHeap → Prop) → AHeap → Value → Value → Value → Value → Value → Value → Value → Value → Value → Value → Value → Prop} (he : ∀ X L K h t0 t1 t2 t3 t4 t5 t6 t7 t8 t9 t10, aJob P X L (.call i [t0, t1, t2, t3, t4, t5, t6, t7, t8, t9, t10]) K h = f X L K h t0 t1 t2 t3 t4 t5 t6 t7 t8 t9 t10) : TextOf P i (ap11 f) := fun X L K h args hc => by
  unfold ap11 at hc
  split at hc
  · rw [he]; exact hc
  · exact hc.elim
def ap12 (f : Caller → Looper → (Value → AHeap → Prop) → AHeap → Value → Value → Value → Value → Value → Value → Value → Value → Value → Value → Value → Value → Prop) : FT := fun X L K h args => match args with
  | [t0, t1, t2, t3, t4, t5, t6, t7, t8, t9, t10, t11] => f X L K h t0 t1 t2 t3 t4 t5 t6 t7 t8 t9 t10 t11
  | _ => False
theorem ap12_ok {P : Program} {i : FuncId} {f : Caller → Looper → (Value → AHeap → Prop) → AHeap → Value → Value → Value → Value → Value → Value → Value → Value → Value → Value → Value → Value → Prop} (he : ∀ X L K h t0 t1 t2 t3 t4 t5 t6 t7 t8 t9 t10 t11, aJob P X L (.call i [t0, t1, t2, t3, t4, t5, t6, t7, t8, t9, t10, t11]) K h = f X L K h t0 t1 t2 t3 t4 t5 t6 t7 t8 t9 t10 t11) : TextOf P i (ap12 f) := fun X L K h args hc => by
  unfold ap12 at hc
  split at hc
  · rw [he]; exact hc
  · exact hc.elim

def runS (P : Program) (t : BT) (S : Known) : Nat → Caller
  | 0 => fun _ _ _ => False
  | n + 1 => fun j K h => match j with
    | .call f args => match S f args h with
      | some g => g K
      | none => match t.get f with
        | some g => g (runS P t S n) (loopN n) K h args
        | none => aJob P (runS P t S n) (loopN n) (.call f args) K h
    | .round l args => aJob P (runS P t S n) (loopN n) (.round l args) K h

def Known.ok (P : Program) (S : Known) : Prop := ∀ f args h g, S f args h = some g → ∀ K, g K → callA P (.call f args) K h

theorem runS_A {P : Program} {t : BT} {S : Known} (ht : t.All (TextOf P)) (hS : S.ok P) : ∀ n, Caller.le (runS P t S n) (callA P) := by
  intro n
  induction n with
  | zero => intro j K h hc; exact hc.elim
  | succ n ih =>
    intro j K h hc
    cases j with
    | call f args =>
      simp only [runS] at hc
      split at hc
      · rename_i g hg; exact hS _ _ _ _ hg _ hc
      · split at hc
        · rename_i g hg
          exact callA_step (aJob_N callA_mono ih n _ K h (BT.get_all ht hg _ _ _ _ _ hc))
        · exact callA_step (aJob_N callA_mono ih n _ K h hc)
    | round l args => exact callA_step (aJob_N callA_mono ih n _ K h hc)

/-- The same for any caller that is closed under a job. -/
def Known.okY (Y : Caller) (S : Known) : Prop := ∀ f args h g, S f args h = some g → ∀ K, g K → Y (.call f args) K h
theorem runS_Y {P : Program} {Y : Caller} (hY : Y.Mono) (hs : ∀ j K h, aJob P Y loopA j K h → Y j K h) {t : BT} {S : Known} (ht : t.All (TextOf P)) (hS : S.okY Y) : ∀ n, Caller.le (runS P t S n) Y := by
  intro n
  induction n with
  | zero => intro j K h hc; exact hc.elim
  | succ n ih =>
    intro j K h hc
    cases j with
    | call f args =>
      simp only [runS] at hc
      split at hc
      · rename_i g hg; exact hS _ _ _ _ hg _ hc
      · split at hc
        · rename_i g hg
          exact hs _ _ _ (aJob_N hY ih n _ K h (BT.get_all ht hg _ _ _ _ _ hc))
        · exact hs _ _ _ (aJob_N hY ih n _ K h hc)
    | round l args => exact hs _ _ _ (aJob_N hY ih n _ K h hc)

def noneKnown : Known := fun _ _ _ => none
theorem noneKnown_ok {P : Program} : noneKnown.ok P := fun _ _ _ _ h => by cases h
end Go.Cub
