/- Laws of the shallow words on values whose kind is known. -/
import Derived.Test.YtdlnbmadifgbkaaGreatDoorCubF
namespace Go.Cub
set_option linter.unusedVariables false
set_option linter.unusedSimpArgs false
open Go

section
variable {P : Program}

@[simp] theorem opK_some (v : Value) (h : AHeap) (k : Value → AHeap → Prop) : opK (some (v, h)) k = k v h := rfl
@[simp] theorem rdK_some (v : Value) (h : AHeap) (k : Value → AHeap → Prop) : rdK (some v) h k = k v h := rfl
@[simp] theorem stK_some (h : AHeap) (k : AHeap → Prop) : stK (some h) k = k h := rfl
@[simp] theorem gopK_false (h : AHeap) (r : Option (Value × AHeap)) (k : Value → AHeap → Prop) : gopK false h r k = k undef h := rfl
@[simp] theorem gopK_true (h : AHeap) (r : Option (Value × AHeap)) (k : Value → AHeap → Prop) : gopK true h r k = opK r k := rfl
@[simp] theorem gcallK_false (X : Caller) (j : Job) (h : AHeap) (k : Value → AHeap → Prop) : gcallK false X j h k = k undef h := rfl
@[simp] theorem gcallK_true (X : Caller) (j : Job) (h : AHeap) (k : Value → AHeap → Prop) : gcallK true X j h k = X j k h := rfl
@[simp] theorem condK_true (A B : Prop) : condK (.bool true) A B = A := rfl
@[simp] theorem condK_false (A B : Prop) : condK (.bool false) A B = B := rfl
@[simp] theorem wantV_bool (b w : Bool) : wantV (.bool b) w = (b == w) := rfl
@[simp] theorem pickV_true (a b : Value) (h : AHeap) : pickV (.bool true) a b h = some (a, h) := rfl
@[simp] theorem pickV_false (a b : Value) (h : AHeap) : pickV (.bool false) a b h = some (b, h) := rfl
@[simp] theorem chkK_true (k : Prop) : chkK true k = k := rfl
@[simp] theorem retK_some (l : List Value) (K : Value → AHeap → Prop) (h : AHeap) : retK (some l) K h = K (tupleOf l) h := rfl
@[simp] theorem consR_some (v : Value) (l : List Value) : consR (some v) (some l) = some (v :: l) := rfl
@[simp] theorem nilV_ptr (a : Addr) (h : AHeap) : nilV (.pointer (some a)) h = some (.pointer (some a), h) := rfl
@[simp] theorem fAddr_ptr (off : Nat) (a : Addr) : fAddr off (.pointer (some a)) = some (.pointer (some (a.add off))) := rfl
@[simp] theorem newV_eq (cs : List Value) (id : Nat) (h : AHeap) : newV cs id h = some (.pointer (some ⟨id, 0, none⟩), newBlk h id cs none) := rfl
@[simp] theorem boxV_eq (x : Value) (id : Nat) (h : AHeap) : boxV x id h = some (.pointer (some ⟨id, 0, none⟩), newBlk h id x.cells.toList none) := rfl

theorem binC_add (t u : TypeId) (k : IntKind) (a b : Int) (h : AHeap) : binC P .add t u (.int k a) (.int k b) h = some (.int k (k.wrap (a + b))) := by cases k <;> rfl
theorem binC_sub (t u : TypeId) (k : IntKind) (a b : Int) (h : AHeap) : binC P .sub t u (.int k a) (.int k b) h = some (.int k (k.wrap (a - b))) := by cases k <;> rfl
theorem binC_mul (t u : TypeId) (k : IntKind) (a b : Int) (h : AHeap) : binC P .mul t u (.int k a) (.int k b) h = some (.int k (k.wrap (a * b))) := by cases k <;> rfl
theorem binV_add (t u : TypeId) (k : IntKind) (a b : Int) (h : AHeap) : binV P .add t u (.int k a) (.int k b) h = some (.int k (k.wrap (a + b))) := by cases k <;> rfl
theorem binV_sub (t u : TypeId) (k : IntKind) (a b : Int) (h : AHeap) : binV P .sub t u (.int k a) (.int k b) h = some (.int k (k.wrap (a - b))) := by cases k <;> rfl
theorem binV_mul (t u : TypeId) (k : IntKind) (a b : Int) (h : AHeap) : binV P .mul t u (.int k a) (.int k b) h = some (.int k (k.wrap (a * b))) := by cases k <;> rfl
theorem binD_add (t u : TypeId) (k : IntKind) (a b : Int) (h : AHeap) : binD P .add t u (.int k a) (.int k b) h = some (.int k (k.wrap (a + b))) := by cases k <;> rfl
theorem binD_sub (t u : TypeId) (k : IntKind) (a b : Int) (h : AHeap) : binD P .sub t u (.int k a) (.int k b) h = some (.int k (k.wrap (a - b))) := by cases k <;> rfl
theorem binD_mul (t u : TypeId) (k : IntKind) (a b : Int) (h : AHeap) : binD P .mul t u (.int k a) (.int k b) h = some (.int k (k.wrap (a * b))) := by cases k <;> rfl
theorem binC_lss (t u : TypeId) (k : IntKind) (a b : Int) (h : AHeap) : binC P .lss t u (.int k a) (.int k b) h = some (.bool (decide (a < b))) := by cases k <;> rfl
theorem binC_leq (t u : TypeId) (k : IntKind) (a b : Int) (h : AHeap) : binC P .leq t u (.int k a) (.int k b) h = some (.bool (decide (a ≤ b))) := by cases k <;> rfl
theorem binC_gtr (t u : TypeId) (k : IntKind) (a b : Int) (h : AHeap) : binC P .gtr t u (.int k a) (.int k b) h = some (.bool (decide (b < a))) := by cases k <;> rfl
theorem binC_geq (t u : TypeId) (k : IntKind) (a b : Int) (h : AHeap) : binC P .geq t u (.int k a) (.int k b) h = some (.bool (decide (b ≤ a))) := by cases k <;> rfl
theorem binC_eql (t u : TypeId) (k : IntKind) (a b : Int) (h : AHeap) : binC P .eql t u (.int k a) (.int k b) h = some (.bool (decide (a = b))) := by cases k <;> rfl
theorem binC_neq (t u : TypeId) (k : IntKind) (a b : Int) (h : AHeap) : binC P .neq t u (.int k a) (.int k b) h = some (.bool (!decide (a = b))) := by cases k <;> rfl
theorem binV_lss (t u : TypeId) (k : IntKind) (a b : Int) (h : AHeap) : binV P .lss t u (.int k a) (.int k b) h = some (.bool (decide (a < b))) := by cases k <;> rfl
theorem binV_leq (t u : TypeId) (k : IntKind) (a b : Int) (h : AHeap) : binV P .leq t u (.int k a) (.int k b) h = some (.bool (decide (a ≤ b))) := by cases k <;> rfl
theorem binV_gtr (t u : TypeId) (k : IntKind) (a b : Int) (h : AHeap) : binV P .gtr t u (.int k a) (.int k b) h = some (.bool (decide (b < a))) := by cases k <;> rfl
theorem binV_geq (t u : TypeId) (k : IntKind) (a b : Int) (h : AHeap) : binV P .geq t u (.int k a) (.int k b) h = some (.bool (decide (b ≤ a))) := by cases k <;> rfl
theorem binV_eql (t u : TypeId) (k : IntKind) (a b : Int) (h : AHeap) : binV P .eql t u (.int k a) (.int k b) h = some (.bool (decide (a = b))) := by cases k <;> rfl
theorem binV_neq (t u : TypeId) (k : IntKind) (a b : Int) (h : AHeap) : binV P .neq t u (.int k a) (.int k b) h = some (.bool (!decide (a = b))) := by cases k <;> rfl
theorem binV_eqlB (t u : TypeId) (a b : Bool) (h : AHeap) (hu : P.underlying t = some .bool := by rfl) : binV P .eql t u (.bool a) (.bool b) h = binV P .eql t u (.bool a) (.bool b) h := rfl
theorem binV_and (t u : TypeId) (k : IntKind) (a b : Int) (h : AHeap) : binV P .and t u (.int k a) (.int k b) h = some (.int k (k.wrap (BitVec.ofInt k.bits a &&& BitVec.ofInt k.bits b).toNat)) := by cases k <;> rfl
theorem binV_or (t u : TypeId) (k : IntKind) (a b : Int) (h : AHeap) : binV P .or t u (.int k a) (.int k b) h = some (.int k (k.wrap (BitVec.ofInt k.bits a ||| BitVec.ofInt k.bits b).toNat)) := by cases k <;> rfl
theorem binV_xor (t u : TypeId) (k : IntKind) (a b : Int) (h : AHeap) : binV P .xor t u (.int k a) (.int k b) h = some (.int k (k.wrap (BitVec.ofInt k.bits a ^^^ BitVec.ofInt k.bits b).toNat)) := by cases k <;> rfl
theorem binV_andNot (t u : TypeId) (k : IntKind) (a b : Int) (h : AHeap) : binV P .andNot t u (.int k a) (.int k b) h = some (.int k (k.wrap (BitVec.ofInt k.bits a &&& ~~~ BitVec.ofInt k.bits b).toNat)) := by cases k <;> rfl
theorem binC_and (t u : TypeId) (k : IntKind) (a b : Int) (h : AHeap) : binC P .and t u (.int k a) (.int k b) h = some (.int k (k.wrap (BitVec.ofInt k.bits a &&& BitVec.ofInt k.bits b).toNat)) := by cases k <;> rfl
theorem binC_or (t u : TypeId) (k : IntKind) (a b : Int) (h : AHeap) : binC P .or t u (.int k a) (.int k b) h = some (.int k (k.wrap (BitVec.ofInt k.bits a ||| BitVec.ofInt k.bits b).toNat)) := by cases k <;> rfl
theorem binC_andNot (t u : TypeId) (k : IntKind) (a b : Int) (h : AHeap) : binC P .andNot t u (.int k a) (.int k b) h = some (.int k (k.wrap (BitVec.ofInt k.bits a &&& ~~~ BitVec.ofInt k.bits b).toNat)) := by cases k <;> rfl
theorem binV_shr (t u : TypeId) (k j : IntKind) (a b : Int) (hb : 0 ≤ b) (h : AHeap) : binV P .shr t u (.int k a) (.int j b) h = some (.int k (a.fdiv (2 ^ (min b.toNat k.bits)))) := by
  obtain ⟨m, rfl⟩ := Int.eq_ofNat_of_zero_le hb
  cases k <;> rfl
theorem binC_shr (t u : TypeId) (k j : IntKind) (a b : Int) (hb : 0 ≤ b) (h : AHeap) : binC P .shr t u (.int k a) (.int j b) h = some (.int k (a.fdiv (2 ^ (min b.toNat k.bits)))) := by
  obtain ⟨m, rfl⟩ := Int.eq_ofNat_of_zero_le hb
  cases k <;> rfl
theorem binD_shl (t u : TypeId) (k j : IntKind) (a b : Int) (hb : 0 ≤ b) (h : AHeap) : binD P .shl t u (.int k a) (.int j b) h = some (.int k (k.wrap (a * 2 ^ (min b.toNat k.bits)))) := by
  obtain ⟨m, rfl⟩ := Int.eq_ofNat_of_zero_le hb
  cases k <;> rfl
theorem binV_shl (t u : TypeId) (k j : IntKind) (a b : Int) (hb : 0 ≤ b) (h : AHeap) : binV P .shl t u (.int k a) (.int j b) h = some (.int k (k.wrap (a * 2 ^ (min b.toNat k.bits)))) := by
  obtain ⟨m, rfl⟩ := Int.eq_ofNat_of_zero_le hb
  cases k <;> rfl
theorem binC_shl (t u : TypeId) (k j : IntKind) (a b : Int) (hb : 0 ≤ b) (h : AHeap) : binC P .shl t u (.int k a) (.int j b) h = some (.int k (k.wrap (a * 2 ^ (min b.toNat k.bits)))) := by
  obtain ⟨m, rfl⟩ := Int.eq_ofNat_of_zero_le hb
  cases k <;> rfl
theorem unV_not (t : TypeId) (b : Bool) : unV P .not t (.bool b) = some (.bool !b) := rfl
theorem convertA_int {s d : TypeId} {u : TypeDesc} {k : IntKind} (hs : P.underlying s = some u) (hd : P.underlying d = some (.int k)) (j : IntKind) (n : Int) (id : Nat) (h : AHeap) : convertA P s d (.int j n) id h = some (.int k (k.wrap n), h) := by
  unfold convertA
  have : aPure P (convert s d (.int j n)) = some (.int k (k.wrap n)) := by
    unfold convert
    simp only [underlying, program, bind, Sem.bind, aPure, hs, hd, pure]
    cases u <;> rfl
  simp [this, scalar, isAtom]

theorem Addr_add_mk (b o n : Nat) : (Addr.mk b o none).add n = ⟨b, o + n, none⟩ := by
  unfold Addr.add; split
  · rename_i e; subst e; rfl
  · rfl

theorem ld1_of {h : AHeap} {b o : Nat} {B : ABlk} {v : Value} (hb : h.get b = some (.cells B)) (hv : B.cells[o]? = some v) : ld1 (.pointer (some ⟨b, o, none⟩)) h = some v := by
  have hl : o < B.cells.length := by
    rcases Nat.lt_or_ge o B.cells.length with g | g
    · exact g
    · rw [List.getElem?_eq_none g] at hv; cases hv
  have : Nat.ble (o + 1) B.cells.length = true := Nat.ble_eq_true_of_le hl
  simp only [ld1, getCells, hb, this, Option.bind]
  rw [List.getElem?_take, if_pos (by omega), List.getElem?_drop, Nat.add_zero, hv]

theorem ldN_of {h : AHeap} {b o n : Nat} {B : ABlk} (hb : h.get b = some (.cells B)) (hl : o + n ≤ B.cells.length) : ldN n (.pointer (some ⟨b, o, none⟩)) h = some (.agg ((B.cells.drop o).take n).toArray) := by
  have : Nat.ble (o + n) B.cells.length = true := Nat.ble_eq_true_of_le hl
  simp only [ldN, getCells, hb, this, Option.map]

theorem setCells_of {h : AHeap} {b o : Nat} {B : ABlk} {vs : List Value} (hb : h.get b = some (.cells B)) (hw : B.wr = true) (hl : o + vs.length ≤ B.cells.length) (h1 : vs.all Value.oneCell = true) (h0 : vs ≠ []) :
    setCells h ⟨b, o, none⟩ vs = some (h.set b (.cells { B with cells := putL B.cells o vs })) := by
  cases vs with
  | nil => exact absurd rfl h0
  | cons v r =>
    have : Nat.ble (o + (v :: r).length) B.cells.length = true := Nat.ble_eq_true_of_le hl
    simp only [setCells, hb, this, hw, h1]

theorem stV_of {h : AHeap} {b o n : Nat} {B : ABlk} {v : Value} (hb : h.get b = some (.cells B)) (hw : B.wr = true) (hs : v.cells.size = n) (hl : o + n ≤ B.cells.length) (h1 : v.cells.toList.all Value.oneCell = true) (h0 : 0 < n) :
    stV n (.pointer (some ⟨b, o, none⟩)) v h = some (h.set b (.cells { B with cells := putL B.cells o v.cells.toList })) := by
  have : Nat.beq v.cells.size n = true := by rw [hs]; exact Nat.beq_refl n
  simp only [stV, this]
  refine setCells_of hb hw (by simpa [hs] using hl) h1 (fun e => ?_)
  have := congrArg List.length e
  simp at this
  have e2 : v.cells.size = 0 := by rw [this]; rfl
  omega

theorem ixS_of {n b o len cap i : Nat} {k : IntKind} (hi : i < len) : ixS n (.slice (some ⟨b, o, none⟩) len cap) (.int k i) = some (.pointer (some ⟨b, o + i * n, none⟩)) := by
  have : Nat.ble (i + 1) len = true := Nat.ble_eq_true_of_le hi
  show (match Nat.ble (i + 1) len, some n with
    | true, some n => some (Value.pointer (some ((Addr.mk b o none).add (i * n))))
    | _, _ => none) = _
  rw [this]
  simp only [Addr_add_mk]
theorem ixR_of {len n b o i : Nat} {k : IntKind} (hi : i < len) : ixR len n (.pointer (some ⟨b, o, none⟩)) (.int k i) = some (.pointer (some ⟨b, o + i * n, none⟩)) := by
  have : Nat.ble (i + 1) len = true := Nat.ble_eq_true_of_le hi
  show (match Nat.ble (i + 1) len, some n with
    | true, some n => some (Value.pointer (some ((Addr.mk b o none).add (i * n))))
    | _, _ => none) = _
  rw [this]
  simp only [Addr_add_mk]

theorem fAddr_of (off b o : Nat) : fAddr off (.pointer (some ⟨b, o, none⟩)) = some (.pointer (some ⟨b, o + off, none⟩)) := by
  simp only [fAddr, Addr_add_mk]

/-! ### Heaps, by what they are made of -/
theorem T.setF_setF {α : Type} (x y : α) : ∀ (f : Nat) (t : T α) (n : Nat), n < f → T.setF y f (T.setF x f t n) n = T.setF y f t n := by
  intro f
  induction f with
  | zero => intro t n h; omega
  | succ f ih =>
    intro t n h
    cases t with
    | nil =>
      cases e : Nat.beq n 0 with
      | true => simp [T.setF, e]
      | false =>
        have hn : n ≠ 0 := fun h0 => by subst h0; cases e
        cases e2 : Nat.beq (n % 2) 1 with
        | true => simp only [T.setF, e, e2]; rw [ih _ _ (by omega)]
        | false => simp only [T.setF, e, e2]; rw [ih _ _ (by omega)]
    | node v l r =>
      cases e : Nat.beq n 0 with
      | true => simp [T.setF, e]
      | false =>
        have hn : n ≠ 0 := fun h0 => by subst h0; cases e
        cases e2 : Nat.beq (n % 2) 1 with
        | true => simp only [T.setF, e, e2]; rw [ih _ _ (by omega)]
        | false => simp only [T.setF, e, e2]; rw [ih _ _ (by omega)]
theorem T.set_set {α : Type} (t : T α) (n : Nat) (x y : α) : (t.set n x).set n y = t.set n y := T.setF_setF x y _ t n (Nat.lt_succ_self n)
theorem T.setF_same {α : Type} (x : α) : ∀ (f : Nat) (t : T α) (n : Nat), n < f → t.get n = some x → T.setF x f t n = t := by
  intro f
  induction f with
  | zero => intro t n h; omega
  | succ f ih =>
    intro t n h hg
    cases t with
    | nil => simp [T.get] at hg
    | node v l r =>
      cases e : Nat.beq n 0 with
      | true =>
        simp only [T.get, e] at hg
        simp only [T.setF, e, hg]
      | false =>
        have hn : n ≠ 0 := fun h0 => by subst h0; cases e
        cases e2 : Nat.beq (n % 2) 1 with
        | true => simp only [T.get, e, e2] at hg; simp only [T.setF, e, e2]; rw [ih _ _ (by omega) hg]
        | false => simp only [T.get, e, e2] at hg; simp only [T.setF, e, e2]; rw [ih _ _ (by omega) hg]

theorem AHeap.ext' {x y : AHeap} (h1 : x.objs = y.objs) (h2 : x.next = y.next) : x = y := by
  cases x; cases y; cases h1; cases h2; rfl
theorem AHeap.set_objs {h : AHeap} {i : Nat} {o : AObj} (hi : i < h.next) : (h.set i o).objs = h.objs.set i o := by
  unfold AHeap.set
  split
  · rfl
  · rename_i hb; rw [Nat.ble_eq_true_of_le hi] at hb; cases hb
theorem AHeap.set_set {h : AHeap} {i : Nat} {o o' : AObj} : (h.set i o).set i o' = h.set i o' := by
  rcases Nat.lt_or_ge i h.next with g | g
  · refine AHeap.ext' ?_ (by simp)
    rw [AHeap.set_objs (by simpa using g), AHeap.set_objs g, AHeap.set_objs g, T.set_set]
  · have e : ∀ o, h.set i o = h := by
      intro o; unfold AHeap.set; split
      · rename_i hb; have := Nat.le_of_ble_eq_true hb; omega
      · rfl
    rw [e, e]
theorem AHeap.set_same {h : AHeap} {i : Nat} {o : AObj} (hg : h.get i = some o) : h.set i o = h := by
  have hi := AHeap.lt_of_get hg
  refine AHeap.ext' ?_ (by simp)
  rw [AHeap.set_objs hi]
  exact T.setF_same o _ _ _ (Nat.lt_succ_self i) hg
theorem AHeap.bump_bump (h : AHeap) (a b : Nat) : (h.bump a).bump b = h.bump (a + b) := AHeap.ext' rfl (by simp [Nat.add_assoc])
theorem AHeap.bump_zero (h : AHeap) : h.bump 0 = h := AHeap.ext' rfl (by simp)
theorem AHeap.set_bump {h : AHeap} {i : Nat} {o : AObj} (k : Nat) (hi : i < h.next) : (h.set i o).bump k = (h.bump k).set i o := by
  refine AHeap.ext' ?_ (by simp)
  rw [AHeap.set_objs (by simp; omega)]
  show (h.set i o).objs = _
  rw [AHeap.set_objs hi]; rfl

/-! ### Words as numbers -/
theorem wrap_of_lt {k : IntKind} (hk : k.signed = false) {n : Nat} (h : n < 2 ^ k.bits) : k.wrap (n : Int) = n := by
  cases k <;> simp [IntKind.signed] at hk <;> simp [IntKind.wrap, IntKind.signed, IntKind.bits] at h ⊢ <;> omega
theorem wrap_i64_of_lt {n : Nat} (h : n < 2 ^ 63) : IntKind.i64.wrap (n : Int) = n := by
  simp [IntKind.wrap, IntKind.signed, IntKind.bits]; omega
theorem wrap_i64_int {n : Int} (h : -(2 ^ 63) ≤ n) (h' : n < 2 ^ 63) : IntKind.i64.wrap n = n := by
  simp [IntKind.wrap, IntKind.signed, IntKind.bits]; omega
theorem and_word {k : IntKind} (hk : k.signed = false) {a b : Nat} (ha : a < 2 ^ k.bits) (hb : b < 2 ^ k.bits) : k.wrap ((BitVec.ofInt k.bits a &&& BitVec.ofInt k.bits b).toNat : Nat) = ((a &&& b : Nat) : Int) := by
  rw [BitVec.ofInt_natCast, BitVec.ofInt_natCast, BitVec.toNat_and, BitVec.toNat_ofNat, BitVec.toNat_ofNat, Nat.mod_eq_of_lt ha, Nat.mod_eq_of_lt hb]
  exact wrap_of_lt hk (Nat.and_lt_two_pow _ hb)
theorem or_word {k : IntKind} (hk : k.signed = false) {a b : Nat} (ha : a < 2 ^ k.bits) (hb : b < 2 ^ k.bits) : k.wrap ((BitVec.ofInt k.bits a ||| BitVec.ofInt k.bits b).toNat : Nat) = ((a ||| b : Nat) : Int) := by
  rw [BitVec.ofInt_natCast, BitVec.ofInt_natCast, BitVec.toNat_or, BitVec.toNat_ofNat, BitVec.toNat_ofNat, Nat.mod_eq_of_lt ha, Nat.mod_eq_of_lt hb]
  exact wrap_of_lt hk (Nat.or_lt_two_pow ha hb)
theorem xor_word {k : IntKind} (hk : k.signed = false) {a b : Nat} (ha : a < 2 ^ k.bits) (hb : b < 2 ^ k.bits) : k.wrap ((BitVec.ofInt k.bits a ^^^ BitVec.ofInt k.bits b).toNat : Nat) = ((a ^^^ b : Nat) : Int) := by
  rw [BitVec.ofInt_natCast, BitVec.ofInt_natCast, BitVec.toNat_xor, BitVec.toNat_ofNat, BitVec.toNat_ofNat, Nat.mod_eq_of_lt ha, Nat.mod_eq_of_lt hb]
  exact wrap_of_lt hk (Nat.xor_lt_two_pow ha hb)
/-- a without the bits of b. -/
def andNotN (w a b : Nat) : Nat := a &&& (2 ^ w - 1 - b)
theorem andNot_word {k : IntKind} (hk : k.signed = false) {a b : Nat} (ha : a < 2 ^ k.bits) (hb : b < 2 ^ k.bits) : k.wrap ((BitVec.ofInt k.bits a &&& ~~~ BitVec.ofInt k.bits b).toNat : Nat) = ((andNotN k.bits a b : Nat) : Int) := by
  rw [BitVec.ofInt_natCast, BitVec.ofInt_natCast, BitVec.toNat_and, BitVec.toNat_not, BitVec.toNat_ofNat, BitVec.toNat_ofNat, Nat.mod_eq_of_lt ha, Nat.mod_eq_of_lt hb]
  exact wrap_of_lt hk (Nat.and_lt_two_pow _ (by omega))
theorem testBit_andNotN {w a b j : Nat} (ha : a < 2 ^ w) (hb : b < 2 ^ w) : (andNotN w a b).testBit j = (a.testBit j && !b.testBit j) := by
  unfold andNotN
  rw [Nat.testBit_and, show 2 ^ w - 1 - b = 2 ^ w - (b + 1) by omega, Nat.testBit_two_pow_sub_succ hb]
  by_cases hj : j < w
  · simp [hj]
  · have : a.testBit j = false := Nat.testBit_lt_two_pow (Nat.lt_of_lt_of_le ha (Nat.pow_le_pow_right (by omega) (by omega)))
    simp [this]
theorem shr_word {k : IntKind} {a n : Nat} (hn : n ≤ k.bits) : (a : Int).fdiv (2 ^ (min ((n : Int)).toNat k.bits)) = ((a >>> n : Nat) : Int) := by
  rw [Int.toNat_natCast, Nat.min_eq_left hn, Nat.shiftRight_eq_div_pow, Int.fdiv_eq_ediv_of_nonneg _ (by exact_mod_cast Nat.zero_le _)]
  simp
theorem one_shl {k : IntKind} (hk : k.signed = false) {n : Nat} (hn : n < k.bits) : k.wrap ((1 : Int) * 2 ^ (min ((n : Int)).toNat k.bits)) = ((2 ^ n : Nat) : Int) := by
  rw [Int.toNat_natCast, Nat.min_eq_left (by omega), Int.one_mul]
  have := @wrap_of_lt k hk (2 ^ n) (Nat.pow_lt_pow_right (by omega) hn)
  simpa using this
theorem and_one_eq {a : Nat} : (a &&& 1) = if a.testBit 0 then 1 else 0 := by
  rw [Nat.and_one_is_mod, Nat.testBit_zero]
  rcases Nat.mod_two_eq_zero_or_one a with h | h <;> simp [h]

theorem binC_eql_ptr {t u : TypeId} {e : TypeId} (hu : P.underlying t = some (.pointer e)) (a : Addr) (h : AHeap) : binC P .eql t u (.pointer (some a)) (.pointer none) h = some (.bool false) := by
  unfold binC binA
  simp only [evL, List.getD, scalar, isAtom, eqA, hu]
  rfl
theorem binC_neq_ptr {t u : TypeId} {e : TypeId} (hu : P.underlying t = some (.pointer e)) (a : Addr) (h : AHeap) : binC P .neq t u (.pointer (some a)) (.pointer none) h = some (.bool true) := by
  unfold binC binA
  simp only [evL, List.getD, scalar, isAtom, eqA, hu]
  rfl

/-! ### Builtins -/
theorem append_eq {st xt e size bytes : Nat} {z : Value} {u : TypeDesc} (h1 : elemOfSlice P st = some e) (h2 : sizeT P e = some size) (h3 : bytesT P e = some bytes) (h4 : zeroT P e = some z) (h5 : z.cells.size = size)
    (h6 : P.underlying xt = some u) (h7 : ∀ k, u ≠ .int k) (s x : Value) (n : Nat) (new : List Value) (id : Nat) (h : AHeap) (hn : lenOfA x = some n) (hx : firstCellsA h size n x = some new) :
    builtinV P .append [st, xt] [s, x] id h = appendA size bytes s n new id h := by
  show appendOp P #[st, xt] [s, x] id h = _
  have : Nat.beq z.cells.size size = true := by rw [h5]; exact Nat.beq_refl _
  unfold appendOp
  simp only [h1, h2, h3, h4, this, h6, hn, hx]

theorem okGrow_of {need bytes : Nat} (hb : 1 ≤ bytes) (hn : (2 * need + 192) * bytes ≤ 2 ^ 48) : okGrow need bytes = true := by
  unfold okGrow
  rw [Nat.ble_eq_true_of_le hb, Nat.ble_eq_true_of_le hn, Bool.and_self]

theorem appendA_nil {size bytes n : Nat} (hs : 0 < size) (hn : 0 < n) {new : List Value} {id : Nat} {h : AHeap} (hg : okGrow n bytes = true) :
    appendA size bytes (.slice none 0 0) n new id h = some (.slice (some ⟨id, 0, none⟩) n n, newBlk h id new (some size)) := by
  have h0 : Nat.beq size 0 = false := by cases size <;> first | omega | rfl
  obtain ⟨m, rfl⟩ : ∃ m, n = m + 1 := ⟨n - 1, by omega⟩
  simp only [appendA, h0, hg]

theorem getCells_all {h : AHeap} {b n : Nat} {B : ABlk} (hb : h.get b = some (.cells B)) (hl : n = B.cells.length) : getCells h ⟨b, 0, none⟩ n = some B.cells := by
  subst hl
  have : Nat.ble (0 + B.cells.length) B.cells.length = true := Nat.ble_eq_true_of_le (by omega)
  simp only [getCells, hb, this, List.drop_zero, List.take_length]

/-- To a row that append has made, and that is full: it moves. -/
theorem appendA_grow {size bytes len n b : Nat} (hs : 0 < size) (hn : 0 < n) {new : List Value} {id : Nat} {h : AHeap} {B : ABlk} (hb : h.get b = some (.cells B)) (hl : len * size = B.cells.length) (ho : B.opn = some size) (hw : B.wr = true)
    (h1 : new.all Value.oneCell = true) (hg : okGrow (len + n) bytes = true) :
    appendA size bytes (.slice (some ⟨b, 0, none⟩) len len) n new id h = some (.slice (some ⟨id, 0, none⟩) (len + n) (len + n), (h.set b .dead).set id (.cells ⟨B.cells ++ new, some size, true, B.plain⟩)) := by
  have h0 : Nat.beq size 0 = false := by cases size <;> first | omega | rfl
  have c1 : Nat.ble (len + n) len = false := by
    cases hc : Nat.ble (len + n) len
    · rfl
    · have := Nat.le_of_ble_eq_true hc; omega
  have c2 : Nat.ble (0 + len * size + 1) B.cells.length = false := by
    cases hc : Nat.ble (0 + len * size + 1) B.cells.length
    · rfl
    · have := Nat.le_of_ble_eq_true hc; omega
  simp only [appendA, h0, hb, c1, getCells_all hb hl, hg, ho, Nat.beq_refl, c2, hw, h1, Bool.and_self]

/-- To a row that was made: another one comes of it. -/
theorem appendA_made {size bytes len n b : Nat} (hs : 0 < size) (hn : 0 < n) {new : List Value} {id : Nat} {h : AHeap} {B : ABlk} (hb : h.get b = some (.cells B)) (hl : len * size = B.cells.length) (ho : B.opn = none) (hg : okGrow (len + n) bytes = true) :
    appendA size bytes (.slice (some ⟨b, 0, none⟩) len len) n new id h = some (.slice (some ⟨id, 0, none⟩) (len + n) (len + n), newBlk h id (B.cells ++ new) (some size)) := by
  have h0 : Nat.beq size 0 = false := by cases size <;> first | omega | rfl
  have c1 : Nat.ble (len + n) len = false := by
    cases hc : Nat.ble (len + n) len
    · rfl
    · have := Nat.le_of_ble_eq_true hc; omega
  simp only [appendA, h0, hb, c1, getCells_all hb hl, hg, ho]

theorem firstCells_slice {h : AHeap} {size n b c : Nat} {B : ABlk} (hb : h.get b = some (.cells B)) (hl : n * size = B.cells.length) : firstCellsA h size n (.slice (some ⟨b, 0, none⟩) n c) = some B.cells := getCells_all hb hl

theorem len_slice {t e : TypeId} (hu : P.underlying t = some (.slice e)) (a : Option Addr) (n c id : Nat) (h : AHeap) : builtinV P .len [t] [.slice a n c] id h = some (.int .i64 n, h) := by
  show (lenA P t h (.slice a n c)).map (·, h) = _
  simp only [lenA, hu]; rfl
theorem len_string {t : TypeId} (hu : P.underlying t = some .string) (s : ByteArray) (id : Nat) (h : AHeap) : builtinV P .len [t] [.string s] id h = some (.int .i64 s.size, h) := by
  show (lenA P t h (.string s)).map (·, h) = _
  simp only [lenA, hu]; rfl
theorem min_int {t u : TypeId} (k : IntKind) (a b : Int) (id : Nat) (h : AHeap) : builtinV P .min [t, u] [.int k a, .int k b] id h = some (.int k (if b < a then b else a), h) := by
  cases k <;> kernel_rfl
theorem binV_rem_nat {t u : TypeId} {k : IntKind} (a b : Nat) (hb : 0 < b) (h : AHeap) : binV P .rem t u (.int k a) (.int k b) h = some (.int k ((a % b : Nat) : Int)) := by
  obtain ⟨m, rfl⟩ : ∃ m, b = m + 1 := ⟨b - 1, by omega⟩
  have : binV P .rem t u (.int k (a : Int)) (.int k ((m + 1 : Nat) : Int)) h = some (.int k (Int.tmod a ((m + 1 : Nat) : Int))) := by cases k <;> rfl
  rw [this]
  rfl

/-! ### Rounds of a range over a function -/
def rndE (l : Nat) (K : Value → AHeap → Prop) : ActPost := fun e₂ _ h₂ => match e₂ with
  | .normal => endRoundA l none K h₂
  | .ret => endRoundA l (some .ret) K h₂
  | .exit id => endRoundA l (some (.exit id)) K h₂
  | _ => False
def rndA (P : Program) (X : Caller) (L : Looper) (l : Nat) (bd : Code) (K : Value → AHeap → Prop) : ActPost := fun e a₁ h₁ => match e with
  | .normal => match h₁.get l with
    | some (.loop r₁) => match r₁.state with
      | .ready => aCode P X L true bd a₁ (rndE l K) (h₁.set l (.loop { r₁ with state := .busy }))
      | _ => False
    | _ => False
  | _ => False
theorem aJob_round (X : Caller) (L : Looper) (K : Value → AHeap → Prop) (h : AHeap) (l : Nat) (args : List Value) : aJob P X L (.round l args) K h =
    (match h.get l with
    | some (.loop r) => match r.state, Nat.beq args.length r.params.length with
      | .ready, true => aCode P X L true r.assign ⟨setParams r.tmps r.params args, []⟩ (rndA P X L l r.body K) h
      | _, _ => False
    | _ => False) := by kernel_rfl
theorem round_intro {X : Caller} {L : Looper} {K : Value → AHeap → Prop} {h : AHeap} {l : Nat} {args : List Value} {r : ALoop} (hg : h.get l = some (.loop r)) (hs : r.state = .ready) (hl : args.length = r.params.length)
    (hc : aCode P X L true r.assign ⟨setParams r.tmps r.params args, []⟩ (rndA P X L l r.body K) h) : aJob P X L (.round l args) K h := by
  have : Nat.beq args.length r.params.length = true := by rw [hl]; exact Nat.beq_refl _
  rw [aJob_round]
  simp only [hg, hs, this]
  exact hc
theorem rndA_normal {X : Caller} {L : Looper} {K : Value → AHeap → Prop} {h : AHeap} {l : Nat} {bd : Code} {a : AAct} {r : ALoop} (hg : h.get l = some (.loop r)) (hs : r.state = .ready)
    (hc : aCode P X L true bd a (rndE l K) (h.set l (.loop { r with state := .busy }))) : rndA P X L l bd K .normal a h := by
  simp only [rndA, hg, hs]; exact hc
theorem rndE_normal {K : Value → AHeap → Prop} {h : AHeap} {l : Nat} {a : AAct} {r : ALoop} (hg : h.get l = some (.loop r)) (hc : K (.bool true) (h.set l (.loop { r with state := .ready, pending := none }))) : rndE l K .normal a h := by
  simp only [rndE, endRoundA, hg]; exact hc
theorem rndE_ret {K : Value → AHeap → Prop} {h : AHeap} {l : Nat} {a : AAct} {r : ALoop} (hg : h.get l = some (.loop r)) (hc : K (.bool false) (h.set l (.loop { r with state := .done, pending := some .ret }))) : rndE l K .ret a h := by
  simp only [rndE, endRoundA, hg]; exact hc
theorem rndE_exit {K : Value → AHeap → Prop} {h : AHeap} {l i : Nat} {a : AAct} {r : ALoop} (hg : h.get l = some (.loop r)) (hc : K (.bool false) (h.set l (.loop { r with state := .done, pending := some (.exit i) }))) : rndE l K (.exit i) a h := by
  simp only [rndE, endRoundA, hg]; exact hc
end
end Go.Cub
