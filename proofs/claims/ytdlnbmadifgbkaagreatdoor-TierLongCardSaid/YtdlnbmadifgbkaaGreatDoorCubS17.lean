/- Regions whose order is open: bits and counts. -/
import Derived.Test.YtdlnbmadifgbkaaGreatDoorCubS16
namespace Go.Cub
set_option linter.unusedVariables false
set_option linter.unusedSimpArgs false
open Go

theorem beqV_eq {a b : Value} (h : beqV a b = true) : a = b := by
  unfold beqV at h
  split at h
  · simp at h; rw [h]
  · simp at h; rw [h.1, h.2]
  · simp at h; rw [h]
  · rfl
  · simp at h; rw [h]
  · simp only [Bool.and_eq_true] at h; rw [eq_of_beqN h.1, eq_of_beqN h.2]
  · simp only [Bool.and_eq_true, decide_eq_true_eq] at h; rw [h.1, eq_of_beqN h.2.1, eq_of_beqN h.2.2]
  · rfl
  · rw [eq_of_beqN h]
  · rfl
  · rfl
  · cases h

theorem beqL_eq : ∀ {a b : List Value}, beqL a b = true → a = b := by
  intro a
  induction a with
  | nil => intro b h; cases b with | nil => rfl | cons => simp [beqL] at h
  | cons x l ih =>
    intro b h
    cases b with
    | nil => simp [beqL] at h
    | cons y r => simp only [beqL, Bool.and_eq_true] at h; rw [beqV_eq h.1, ih h.2]

theorem beqR_eq {a b : Value} (h : beqR a b = true) : a = b := by
  unfold beqR at h
  split at h
  · have := beqL_eq h; congr 1; exact Array.ext' this
  · have := beqL_eq h; congr 1; exact Array.ext' this
  · exact beqV_eq h

/-! ### What stands before what -/
def befMask (acc : Array Nat) (l : List Edge) : Nat := l.foldl (fun s e => if Region.binds .any e then s ||| 2 ^ e.on ||| acc.getD e.on 0 else s) 0

theorem befMask_bits (acc : Array Nat) (k : Nat) : ∀ (l : List Edge) (s : Nat), Nat.testBit (l.foldl (fun s e => if Region.binds .any e then s ||| 2 ^ e.on ||| acc.getD e.on 0 else s) s) k = true →
    Nat.testBit s k = true ∨ ∃ e ∈ l, Region.binds .any e = true ∧ (k = e.on ∨ Nat.testBit (acc.getD e.on 0) k = true) := by
  intro l
  induction l with
  | nil => intro s h; exact .inl h
  | cons e l ih =>
    intro s h
    rcases ih _ h with h1 | ⟨e', he', hb, hk⟩
    · dsimp only at h1
      split at h1
      · rename_i hb
        simp only [Nat.testBit_or, Bool.or_eq_true, Nat.testBit_two_pow, decide_eq_true_eq] at h1
        rcases h1 with (h1 | h1) | h1
        · exact .inl h1
        · exact .inr ⟨e, by simp, hb, .inl h1.symm⟩
        · exact .inr ⟨e, by simp, hb, .inr h1⟩
      · exact .inl h1
    · exact .inr ⟨e', by simp [he'], hb, hk⟩

def BefInv (ops : Array Oper) (acc : Array Nat) : Prop :=
  ∀ i k, Nat.testBit (acc.getD i 0) k = true → ∃ o, ops[i]? = some o ∧ ∃ e ∈ o.after.toList, Region.binds .any e = true ∧ (k = e.on ∨ Nat.testBit (acc.getD e.on 0) k = true)

theorem befInv_go (ops : Array Oper) : ∀ (l : List Oper) (acc : Array Nat), (∀ (n : Nat) o, l[n]? = some o → ops[acc.size + n]? = some o) → BefInv ops acc →
    BefInv ops (l.foldl (fun acc o => acc.push (o.after.foldl (fun s e => if Region.binds .any e then s ||| 2 ^ e.on ||| acc.getD e.on 0 else s) 0)) acc) := by
  intro l
  induction l with
  | nil => intro acc _ h; exact h
  | cons o l ih =>
    intro acc hl hacc
    simp only [List.foldl_cons]
    refine ih _ (fun n o' h => ?_) ?_
    · have := hl (n + 1) o' (by simpa using h)
      simp only [Array.size_push]
      rw [show acc.size + 1 + n = acc.size + (n + 1) by omega]; exact this
    · have grow : ∀ (x : Nat) j k, Nat.testBit (acc.getD j 0) k = true → Nat.testBit ((acc.push x).getD j 0) k = true := by
        intro x j k h
        by_cases hj : j < acc.size
        · simpa [Array.getElem?_push, Nat.ne_of_lt hj] using h
        · have : acc.getD j 0 = 0 := by simp [Array.getElem?_eq_none (Nat.le_of_not_lt hj)]
          rw [this] at h; simp at h
      intro i k hbit
      by_cases hi : i = acc.size
      · subst hi
        refine ⟨o, by simpa using hl 0 o (by simp), ?_⟩
        have hb : Nat.testBit (befMask acc o.after.toList) k = true := by
          have e : (acc.push (o.after.foldl (fun s e => if Region.binds .any e then s ||| 2 ^ e.on ||| acc.getD e.on 0 else s) 0)).getD acc.size 0 = befMask acc o.after.toList := by
            simp [befMask, ← Array.foldl_toList]
          rwa [e] at hbit
        rcases befMask_bits acc k _ _ hb with h0 | ⟨e, he, hbind, hk⟩
        · simp at h0
        · refine ⟨e, he, hbind, ?_⟩
          rcases hk with hk | hk
          · exact .inl hk
          · exact .inr (grow _ _ _ hk)
      · have hb : Nat.testBit (acc.getD i 0) k = true := by
          by_cases hlt : i < acc.size
          · simpa [Array.getElem?_push, Nat.ne_of_lt hlt] using hbit
          · have : (acc.push (o.after.foldl (fun s e => if Region.binds .any e then s ||| 2 ^ e.on ||| acc.getD e.on 0 else s) 0)).getD i 0 = 0 := by
              simp [Array.getElem?_eq_none (show (acc.push _).size ≤ i by simp; omega)]
            rw [this] at hbit; simp at hbit
        obtain ⟨o', ho', e, he, hbind, hk⟩ := hacc i k hb
        refine ⟨o', ho', e, he, hbind, ?_⟩
        rcases hk with hk | hk
        · exact .inl hk
        · exact .inr (grow _ _ _ hk)

theorem before_inv (ops : Array Oper) : BefInv ops (Region.before ops) := by
  unfold Region.before
  rw [← Array.foldl_toList]
  refine befInv_go ops ops.toList #[] (fun n o h => by simpa using h) ?_
  intro i k h; simp at h

/-! ### What regOk gives -/
structure RegFacts (ops : Array Oper) : Prop where
  edge : ∀ (i : Nat) o, ops[i]? = some o → ∀ e ∈ o.after.toList, Region.binds .any e = true → e.on < i
  guard : ∀ (i : Nat) o j b, ops[i]? = some o → o.guard = some (j, b) → Nat.testBit ((Region.before ops).getD i 0) j = true
  name : ∀ (i j : Nat) o oj d, ops[i]? = some o → ops[j]? = some oj → i ≠ j → o.dst = some d → d ∈ namesOf ops oj → Nat.testBit ((Region.before ops).getD j 0) i = true ∨ Nat.testBit ((Region.before ops).getD i 0) j = true
  eff : ∀ (i j : Nat) o oj, ops[i]? = some o → ops[j]? = some oj → i < j → isEff o = true → isEff oj = true → Nat.testBit ((Region.before ops).getD j 0) i = true

theorem regFacts {ops : Array Oper} (h : regOk ops = true) : RegFacts ops := by
  unfold regOk at h
  simp only [List.all_eq_true, List.mem_range] at h
  have lt : ∀ {i : Nat} {o}, ops[i]? = some o → i < ops.size := fun hi => (Array.getElem?_eq_some_iff.1 hi).1
  refine ⟨fun i o hi e he hb => ?_, fun i o j b hi hg => ?_, fun i j o oj d hi hj hne hd hn => ?_, fun i j o oj hi hj hlt hei hej => ?_⟩
  · have := h i (lt hi)
    rw [hi] at this
    simp only [Bool.and_eq_true, List.all_eq_true, Bool.or_eq_true, Bool.not_eq_true'] at this
    rcases this.1 e he with h1 | h1
    · rw [hb] at h1; cases h1
    · exact le_of_ble h1
  · have := h i (lt hi)
    rw [hi] at this
    simp only [Bool.and_eq_true, hg] at this
    exact this.2.1
  · have := h i (lt hi)
    rw [hi] at this
    simp only [Bool.and_eq_true, List.all_eq_true, List.mem_range] at this
    have := this.2.2 j (lt hj)
    rw [hj] at this
    simp only [pairOk, Bool.or_eq_true, Bool.and_eq_true, hd, Bool.not_eq_true', List.contains_eq_mem, decide_eq_false_iff_not] at this
    rcases this with h1 | ⟨h1, _⟩
    · exact absurd (eq_of_beqN h1) hne
    · rcases h1 with h1 | h1
      · exact absurd hn h1
      · exact h1
  · have := h i (lt hi)
    rw [hi] at this
    simp only [Bool.and_eq_true, List.all_eq_true, List.mem_range] at this
    have := this.2.2 j (lt hj)
    rw [hj] at this
    simp only [pairOk, Bool.or_eq_true, Bool.and_eq_true, Bool.not_eq_true', hei, hej, Bool.true_and] at this
    rcases this with h1 | ⟨_, h1⟩
    · have := eq_of_beqN h1; omega
    · rcases h1 with h1 | h1
      · rw [Nat.ble_eq_true_of_le (show i + 1 ≤ j from hlt)] at h1; cases h1
      · exact h1

theorem before_lt {ops : Array Oper} (F : RegFacts ops) : ∀ i k, Nat.testBit ((Region.before ops).getD i 0) k = true → k < i := by
  intro i
  induction i using Nat.strongRecOn with
  | _ i ih =>
    intro k hk
    obtain ⟨o, ho, e, he, hb, h⟩ := before_inv ops i k hk
    have hlt := F.edge i o ho e he hb
    rcases h with rfl | h
    · exact hlt
    · exact Nat.lt_trans (ih _ hlt k h) hlt

/-! ### Counting who has written -/
def writes (ops : Array Oper) (t : Tmp) (i : Nat) : Bool := match ops[i]? with | some o => o.dst == some t | none => false

def cnt (ops : Array Oper) (X : Nat → Bool) (t : Tmp) : Nat := ((List.range ops.size).filter fun i => X i && writes ops t i).length

theorem cnt_congr {ops : Array Oper} {X Y : Nat → Bool} {t : Tmp} (h : ∀ i, i < ops.size → writes ops t i = true → X i = Y i) : cnt ops X t = cnt ops Y t := by
  unfold cnt
  congr 1
  refine List.filter_congr fun i hi => ?_
  have hi := List.mem_range.1 hi
  cases hw : writes ops t i with
  | false => simp
  | true => rw [h i hi hw]

theorem filter_length_le {α : Type} {p q : α → Bool} (h : ∀ x, p x = true → q x = true) : ∀ l : List α, (l.filter p).length ≤ (l.filter q).length := by
  intro l
  induction l with
  | nil => simp
  | cons a l ih =>
    simp only [List.filter_cons]
    by_cases hp : p a = true
    · rw [if_pos hp, if_pos (h a hp)]; simp [ih]
    · rw [if_neg hp]; split
      · simp only [List.length_cons]; omega
      · exact ih

theorem cnt_mono {ops : Array Oper} {X Y : Nat → Bool} {t : Tmp} (h : ∀ i, X i = true → Y i = true) : cnt ops X t ≤ cnt ops Y t :=
  filter_length_le (fun i hi => by simp only [Bool.and_eq_true] at hi ⊢; exact ⟨h i hi.1, hi.2⟩) _

theorem filter_add {p q : Nat → Bool} {i : Nat} (hi : p i = false) (hq : ∀ k, q k = (p k || decide (k = i))) : ∀ l : List Nat, l.Nodup → i ∈ l → (l.filter q).length = (l.filter p).length + 1 := by
  intro l
  induction l with
  | nil => intro _ h; simp at h
  | cons a l ih =>
    intro hnd hm
    have hnd := List.nodup_cons.1 hnd
    simp only [List.filter_cons]
    by_cases ha : a = i
    · subst ha
      have hqa : q a = true := by rw [hq]; simp
      rw [if_pos hqa, if_neg (by simp [hi])]
      have : l.filter q = l.filter p := List.filter_congr fun k hk => by
        rw [hq]
        have : k ≠ a := fun e => hnd.1 (e ▸ hk)
        simp [this]
      simp [this]
    · have hm' : i ∈ l := by simp at hm; exact hm.resolve_left (fun e => ha e.symm)
      have hqa : q a = p a := by rw [hq]; simp [ha]
      rw [hqa]
      split
      · simp [ih hnd.2 hm']
      · exact ih hnd.2 hm'

theorem cnt_add {ops : Array Oper} {X Y : Nat → Bool} {t : Tmp} {i : Nat} (hi : i < ops.size) (hX : X i = false) (hY : ∀ k, Y k = (X k || decide (k = i))) :
    cnt ops Y t = cnt ops X t + (if writes ops t i then 1 else 0) := by
  cases hw : writes ops t i with
  | false =>
    simp only [Bool.false_eq_true, if_false, Nat.add_zero]
    refine cnt_congr fun k _ hk => ?_
    rw [hY]
    have : k ≠ i := fun e => by subst e; rw [hw] at hk; cases hk
    simp [this]
  | true =>
    simp only [if_true]
    refine filter_add (i := i) (by simp [hX]) (fun k => ?_) _ List.nodup_range (List.mem_range.2 hi)
    rw [hY]
    by_cases e : k = i
    · subst e; simp [hw]
    · simp [e]

def bset (ops : Array Oper) (i : Nat) : Nat → Bool := fun k => Nat.testBit ((Region.before ops).getD i 0) k

/-- A set that holds with each operation all that stands before it. -/
def Closed (ops : Array Oper) (X : Nat → Bool) : Prop := ∀ i, X i = true → ∀ k, bset ops i k = true → X k = true

theorem cnt_before {ops : Array Oper} (F : RegFacts ops) {X : Nat → Bool} (hX : Closed ops X) {i : Nat} {o : Oper} (ho : ops[i]? = some o) (hi : X i = false) (hb : ∀ k, bset ops i k = true → X k = true) {t : Tmp} (ht : t ∈ namesOf ops o) :
    cnt ops X t = cnt ops (bset ops i) t := by
  refine cnt_congr fun k hk hw => ?_
  unfold writes at hw
  cases hok : ops[k]? with
  | none => rw [hok] at hw; cases hw
  | some ok =>
    rw [hok] at hw
    have hd : ok.dst = some t := by simpa using hw
    cases hXk : X k with
    | false =>
      cases hbk : bset ops i k with
      | false => rfl
      | true => rw [hb k hbk] at hXk; cases hXk
    | true =>
      have hne : k ≠ i := fun e => by subst e; rw [hi] at hXk; cases hXk
      rcases F.name k i ok o t hok ho hne hd ht with h | h
      · exact h.symm
      · have := hX k hXk i h; rw [hi] at this; cases this

theorem or_pow (d i k : Nat) : Nat.testBit (d ||| 2 ^ i) k = (Nat.testBit d k || decide (k = i)) := by
  rw [Nat.testBit_or, Nat.testBit_two_pow]
  congr 1
  by_cases h : i = k <;> simp [h, eq_comm]
end Go.Cub
