/- The same words, so written that the kernel reckons them out at once: each value and each heap is laid before what comes after. -/
import Derived.Test.YtdlnbmadifgbkaaGreatDoorCubL
namespace Go.Cub
set_option linter.unusedVariables false
set_option linter.unusedSimpArgs false
open Go

def rd' (r : Option Value) (k : Value → Prop) : Prop :=
  match r with
  | some v => k v
  | none => False
theorem rdK_rd' (r : Option Value) (h : AHeap) (k : Value → AHeap → Prop) : rdK r h k = rd' r fun v => k v h := by cases r <;> rfl

/-! ### Laying out -/
def fN (m : Nat) (k : Nat → Prop) : Prop :=
  match m with
  | 0 => k 0
  | m + 1 => k (Nat.succ m)
theorem fN_eq (m : Nat) (k : Nat → Prop) : fN m k = k m := by cases m <;> rfl
def fI (n : Int) (k : Int → Prop) : Prop :=
  match n with
  | .ofNat m => fN m fun m => k (.ofNat m)
  | .negSucc m => fN m fun m => k (.negSucc m)
theorem fI_eq (n : Int) (k : Int → Prop) : fI n k = k n := by cases n <;> simp only [fI, fN_eq]
def fB (b : Bool) (k : Bool → Prop) : Prop :=
  match b with
  | true => k true
  | false => k false
theorem fB_eq (b : Bool) (k : Bool → Prop) : fB b k = k b := by cases b <;> rfl
def fA (a : Addr) (k : Addr → Prop) : Prop :=
  match a with
  | ⟨b, o, s⟩ => fN b fun b => fN o fun o => match s with
    | none => k ⟨b, o, none⟩
    | some s => k ⟨b, o, some s⟩
theorem fA_eq (a : Addr) (k : Addr → Prop) : fA a k = k a := by
  obtain ⟨b, o, s⟩ := a
  simp only [fA, fN_eq]
  cases s <;> rfl
def fV (v : Value) (k : Value → Prop) : Prop :=
  match v with
  | .int j n => fI n fun n => k (.int j n)
  | .bool b => fB b fun b => k (.bool b)
  | .pointer (some a) => fA a fun a => k (.pointer (some a))
  | .slice (some a) l c => fA a fun a => fN l fun l => fN c fun c => k (.slice (some a) l c)
  | v => k v
theorem fV_eq (v : Value) (k : Value → Prop) : fV v k = k v := by
  unfold fV
  split <;> simp only [fI_eq, fB_eq, fA_eq, fN_eq]

/-! ### Tries -/
def T.getF {α : Type} : T α → Nat → Option α
  | .nil, _ => none
  | .node v l r, n => match n with
    | 0 => v
    | m + 1 => match Nat.beq (m % 2) 0 with
      | true => l.getF (m / 2)
      | false => r.getF (m / 2)
theorem T.getF_eq {α : Type} : ∀ (t : T α) (n : Nat), t.getF n = t.get n := by
  intro t
  induction t with
  | nil => intro n; rfl
  | node v l r ihl ihr =>
    intro n
    cases n with
    | zero => rfl
    | succ m =>
      have e0 : Nat.beq (m + 1) 0 = false := rfl
      simp only [T.getF, T.get, e0]
      rcases Nat.mod_two_eq_zero_or_one m with h | h
      · rw [h, show (m + 1) % 2 = 1 by omega, ihl, show (m + 1) / 2 = m / 2 by omega]
      · rw [h, show (m + 1) % 2 = 0 by omega, ihr, show (m + 1) / 2 - 1 = m / 2 by omega]
def pathOf : Nat → Nat → List Bool
  | 0, _ => []
  | f + 1, n => match n with
    | 0 => []
    | m + 1 => Nat.beq (m % 2) 0 :: pathOf f (m / 2)
def T.setP {α : Type} (x : α) : List Bool → T α → T α
  | [], .nil => .node (some x) .nil .nil
  | [], .node _ l r => .node (some x) l r
  | true :: p, .nil => .node none (T.setP x p .nil) .nil
  | false :: p, .nil => .node none .nil (T.setP x p .nil)
  | true :: p, .node v l r => .node v (T.setP x p l) r
  | false :: p, .node v l r => .node v l (T.setP x p r)
theorem T.setP_eq {α : Type} (x : α) : ∀ (f : Nat) (t : T α) (n : Nat), n < f → T.setP x (pathOf f n) t = T.setF x f t n := by
  intro f
  induction f with
  | zero => intro t n h; omega
  | succ f ih =>
    intro t n h
    cases n with
    | zero => cases t <;> rfl
    | succ m =>
      have e0 : Nat.beq (m + 1) 0 = false := rfl
      rcases Nat.mod_two_eq_zero_or_one m with hm | hm
      · cases t <;> simp only [pathOf, hm, T.setF, e0, show (m + 1) % 2 = 1 by omega, show Nat.beq 0 0 = true from rfl, show Nat.beq 1 1 = true from rfl, T.setP, show (m + 1) / 2 = m / 2 by omega] <;> rw [ih _ _ (by omega)]
      · cases t <;> simp only [pathOf, hm, T.setF, e0, show (m + 1) % 2 = 0 by omega, show Nat.beq 1 0 = false from rfl, show Nat.beq 0 1 = false from rfl, T.setP, show (m + 1) / 2 - 1 = m / 2 by omega] <;> rw [ih _ _ (by omega)]
def T.setK {α : Type} (x : α) : (p : List Bool) → (t : T α) → ((t' : T α) → T.setP x p t = t' → Prop) → Prop
  | [], .nil, k => k (.node (some x) .nil .nil) rfl
  | [], .node _ l r, k => k (.node (some x) l r) rfl
  | true :: p, .nil, k => T.setK x p .nil fun l' e => k (.node none l' .nil) (congrArg (fun l' => T.node none l' .nil) e)
  | false :: p, .nil, k => T.setK x p .nil fun r' e => k (.node none .nil r') (congrArg (fun r' => T.node none .nil r') e)
  | true :: p, .node v l r, k => T.setK x p l fun l' e => k (.node v l' r) (congrArg (fun l' => T.node v l' r) e)
  | false :: p, .node v l r, k => T.setK x p r fun r' e => k (.node v l r') (congrArg (fun r' => T.node v l r') e)
theorem T.setK_eq {α : Type} (x : α) : ∀ (p : List Bool) (t : T α) (k : (t' : T α) → T.setP x p t = t' → Prop), T.setK x p t k = k (T.setP x p t) rfl := by
  intro p
  induction p with
  | nil => intro t k; cases t <;> rfl
  | cons b p ih => intro t k; cases b <;> cases t <;> simp only [T.setK, ih] <;> rfl

/-! ### Heaps -/
theorem AHeap.wf_set {h : AHeap} {i : Nat} {o : AObj} {t' : T AObj} (hb : Nat.ble (i + 1) h.next = true) (e : T.setP o (pathOf (i + 1) i) h.objs = t') : ∀ k, h.next ≤ k → t'.get k = none := fun k hk => by
  rw [← e, T.setP_eq o (i + 1) h.objs i (Nat.lt_succ_self i)]
  have := (h.set i o).wf k (by simpa using hk)
  rw [AHeap.set_objs (Nat.le_of_ble_eq_true hb)] at this
  exact this
def setH (h : AHeap) (i : Nat) (o : AObj) (k : AHeap → Prop) : Prop :=
  match hb : Nat.ble (i + 1) h.next with
  | true => T.setK o (pathOf (i + 1) i) h.objs fun t' e => k ⟨t', h.next, AHeap.wf_set hb e⟩
  | false => k h
theorem setH_eq (h : AHeap) (i : Nat) (o : AObj) (k : AHeap → Prop) : setH h i o k = k (h.set i o) := by
  unfold setH
  split
  · rename_i hb
    rw [T.setK_eq]
    congr 1
    refine AHeap.ext' ?_ (by simp)
    rw [AHeap.set_objs (Nat.le_of_ble_eq_true hb)]
    exact T.setP_eq o (i + 1) h.objs i (Nat.lt_succ_self i)
  · rename_i hb
    congr 1
    unfold AHeap.set
    split
    · rename_i hb'; rw [hb] at hb'; cases hb'
    · rfl
def fN' (m : Nat) (k : (m' : Nat) → m = m' → Prop) : Prop :=
  match m, k with
  | 0, k => k 0 rfl
  | m + 1, k => k (Nat.succ m) rfl
theorem fN'_eq (m : Nat) (k : (m' : Nat) → m = m' → Prop) : fN' m k = k m rfl := by cases m <;> rfl
theorem AHeap.wf_next {h : AHeap} {n m : Nat} (e : h.next + n = m) : ∀ k, m ≤ k → h.objs.get k = none := fun k hk => h.wf k (by omega)
def bumpK (n : Nat) (h : AHeap) (k : AHeap → Prop) : Prop := fN' (h.next + n) fun m e => k ⟨h.objs, m, AHeap.wf_next e⟩
theorem bumpK_eq (n : Nat) (h : AHeap) (k : AHeap → Prop) : bumpK n h k = k (h.bump n) := by
  unfold bumpK; rw [fN'_eq]; rfl
def regV (n : Nat) (h : AHeap) (k : Nat → AHeap → Prop) : Prop := fN h.next fun b => bumpK n h fun h => k b h
theorem regV_eq (n : Nat) (h : AHeap) (k : Nat → AHeap → Prop) : regV n h k = regK n h k := by
  unfold regV; rw [fN_eq, bumpK_eq]; rfl
def getH (h : AHeap) (i : Nat) : Option AObj := h.objs.getF i
theorem getH_eq (h : AHeap) (i : Nat) : getH h i = h.get i := T.getF_eq _ _

/-! ### Lists -/
def nthL {α : Type} : List α → Nat → Option α
  | [], _ => none
  | a :: l, n => match n with
    | 0 => some a
    | n + 1 => nthL l n
theorem nthL_eq {α : Type} : ∀ (l : List α) (n : Nat), nthL l n = l[n]? := by
  intro l
  induction l with
  | nil => intro n; rfl
  | cons a l ih => intro n; cases n <;> simp [nthL, ih]
def putLK {α : Type} : (l : List α) → (o : Nat) → (vs : List α) → (List α → Prop) → Prop
  | [], _, vs, k => k vs
  | a :: l, o, vs, k => match o with
    | o + 1 => putLK l o vs fun l' => k (a :: l')
    | 0 => match vs with
      | [] => k (a :: l)
      | v :: vs => putLK l 0 vs fun l' => k (v :: l')
theorem putLK_eq : ∀ (l : List Value) (o : Nat) (vs : List Value) (k : List Value → Prop), putLK l o vs k = k (putL l o vs) := by
  intro l
  induction l with
  | nil => intro o vs k; simp [putLK, putL]
  | cons a l ih =>
    intro o vs k
    cases o with
    | zero =>
      cases vs with
      | nil => simp [putLK, putL]
      | cons v vs => simp only [putLK, ih]; simp [putL]
    | succ o => simp only [putLK, ih]; simp [putL, Nat.add_right_comm]
def dropF {α : Type} : List α → Nat → List α
  | [], _ => []
  | a :: l, n => match n with
    | 0 => a :: l
    | n + 1 => dropF l n
theorem dropF_eq {α : Type} : ∀ (l : List α) (n : Nat), dropF l n = l.drop n := by
  intro l
  induction l with
  | nil => intro n; cases n <;> rfl
  | cons a l ih => intro n; cases n <;> simp [dropF, ih]
def takeK {α : Type} : (n : Nat) → (l : List α) → (List α → Prop) → Prop
  | 0, _, k => k []
  | _ + 1, [], k => k []
  | n + 1, a :: l, k => takeK n l fun l' => k (a :: l')
theorem takeK_eq {α : Type} : ∀ (n : Nat) (l : List α) (k : List α → Prop), takeK n l k = k (l.take n) := by
  intro n
  induction n with
  | zero => intro l k; simp [takeK]
  | succ n ih => intro l k; cases l <;> simp [takeK, ih]

/-! ### Numbers -/
def topOf : IntKind → Nat
  | .i8 => 127 | .i16 => 32767 | .i32 => 2147483647 | .i64 => 9223372036854775807
  | .u8 => 255 | .u16 => 65535 | .u32 => 4294967295 | .u64 => 18446744073709551615
def kn : IntKind → Nat
  | .i8 => 0 | .i16 => 1 | .i32 => 2 | .i64 => 3 | .u8 => 4 | .u16 => 5 | .u32 => 6 | .u64 => 7
def sgn : IntKind → Bool
  | .i8 | .i16 | .i32 | .i64 => true
  | _ => false
theorem kn_inj {j k : IntKind} (h : Nat.beq (kn j) (kn k) = true) : j = k := by cases j <;> cases k <;> first | rfl | cases h
def wrapF (j : IntKind) (n : Int) : Int :=
  match n with
  | .ofNat m => match Nat.ble m (topOf j) with
    | true => .ofNat m
    | false => match sgn j with
      | false => .ofNat (m % (topOf j + 1))
      | true => j.wrap (.ofNat m)
  | .negSucc m => j.wrap (.negSucc m)
theorem wrapF_eq (j : IntKind) (n : Int) : wrapF j n = j.wrap n := by
  unfold wrapF
  split
  · rename_i m
    split
    · rename_i hb
      have := Nat.le_of_ble_eq_true hb
      cases j <;> simp only [topOf] at this <;> simp [IntKind.wrap, IntKind.bits, IntKind.signed] <;> omega
    · split
      · rename_i hs
        cases j <;> simp [sgn] at hs <;> simp [topOf, IntKind.wrap, IntKind.bits, IntKind.signed]
      · rfl
  · rfl
def ltI (a b : Int) : Bool :=
  match a, b with
  | .ofNat m, .ofNat n => Nat.ble (m + 1) n
  | .negSucc _, .ofNat _ => true
  | .ofNat _, .negSucc _ => false
  | .negSucc m, .negSucc n => Nat.ble (n + 1) m
theorem ltI_eq (a b : Int) : ltI a b = decide (a < b) := by
  cases a <;> cases b <;> simp only [ltI]
  · rw [Bool.eq_iff_iff]; simp; omega
  · rw [Bool.eq_iff_iff]; simp; omega
  · rw [Bool.eq_iff_iff]; simp; omega
  · rw [Bool.eq_iff_iff]; simp; omega
def eqI (a b : Int) : Bool :=
  match a, b with
  | .ofNat m, .ofNat n => Nat.beq m n
  | .negSucc m, .negSucc n => Nat.beq m n
  | _, _ => false
theorem eqI_eq (a b : Int) : eqI a b = decide (a = b) := by
  cases a <;> cases b <;> simp only [eqI] <;> rw [Bool.eq_iff_iff] <;> simp <;> omega
def notB (b : Bool) : Bool :=
  match b with
  | true => false
  | false => true
theorem notB_eq (b : Bool) : notB b = !b := by cases b <;> rfl
/-- An operation on numbers of one kind; s: else. -/
def intK (op : BinOp) (j : IntKind) (a b : Int) (k : Value → Prop) (s : Prop) : Prop :=
  match op with
  | .add => fI (wrapF j (a + b)) fun n => k (.int j n)
  | .sub => fI (wrapF j (a - b)) fun n => k (.int j n)
  | .mul => fI (wrapF j (a * b)) fun n => k (.int j n)
  | .lss => fB (ltI a b) fun c => k (.bool c)
  | .leq => fB (notB (ltI b a)) fun c => k (.bool c)
  | .gtr => fB (ltI b a) fun c => k (.bool c)
  | .geq => fB (notB (ltI a b)) fun c => k (.bool c)
  | .eql => fB (eqI a b) fun c => k (.bool c)
  | .neq => fB (notB (eqI a b)) fun c => k (.bool c)
  | .and => match sgn j, a, b with
    | false, .ofNat m, .ofNat n => match Nat.ble m (topOf j) && Nat.ble n (topOf j) with
      | true => fN (Nat.land m n) fun r => k (.int j (.ofNat r))
      | false => s
    | _, _, _ => s
  | .or => match sgn j, a, b with
    | false, .ofNat m, .ofNat n => match Nat.ble m (topOf j) && Nat.ble n (topOf j) with
      | true => fN (Nat.lor m n) fun r => k (.int j (.ofNat r))
      | false => s
    | _, _, _ => s
  | .xor => match sgn j, a, b with
    | false, .ofNat m, .ofNat n => match Nat.ble m (topOf j) && Nat.ble n (topOf j) with
      | true => fN (Nat.xor m n) fun r => k (.int j (.ofNat r))
      | false => s
    | _, _, _ => s
  | _ => s
def isShift : BinOp → Bool
  | .shl | .shr => true
  | _ => false
def binK (op : BinOp) (x y : Value) (k : Value → Prop) (s : Option Value) : Prop :=
  match x, y with
  | .int j a, .int j' b => match Nat.beq (kn j) (kn j') with
    | true => match isShift op with
      | false => intK op j a b k (rd' s fun v => fV v k)
      | true => rd' s fun v => fV v k
    | false => rd' s fun v => fV v k
  | _, _ => rd' s fun v => fV v k
section
variable {P : Program}
theorem sgn_eq (j : IntKind) : sgn j = j.signed := by cases j <;> rfl
theorem top_lt {j : IntKind} (hs : sgn j = false) {m : Nat} (h : Nat.ble m (topOf j) = true) : m < 2 ^ j.bits := by
  have := Nat.le_of_ble_eq_true h
  cases j <;> simp [sgn] at hs <;> simp [topOf, IntKind.bits] at this ⊢ <;> omega
theorem rd'_fV (s : Option Value) (k : Value → Prop) : rd' s (fun v => fV v k) = rd' s k := by cases s <;> simp [rd', fV_eq]
theorem intK_eq (op : BinOp) (ho : isShift op = false) (j : IntKind) (a b : Int) (k : Value → Prop) (r : Option Value)
    (hadd : op = .add → r = some (.int j (j.wrap (a + b)))) (hsub : op = .sub → r = some (.int j (j.wrap (a - b)))) (hmul : op = .mul → r = some (.int j (j.wrap (a * b))))
    (hlss : op = .lss → r = some (.bool (decide (a < b)))) (hleq : op = .leq → r = some (.bool (decide (a ≤ b)))) (hgtr : op = .gtr → r = some (.bool (decide (b < a)))) (hgeq : op = .geq → r = some (.bool (decide (b ≤ a))))
    (heql : op = .eql → r = some (.bool (decide (a = b)))) (hneq : op = .neq → r = some (.bool (!decide (a = b))))
    (hand : op = .and → r = some (.int j (j.wrap (BitVec.ofInt j.bits a &&& BitVec.ofInt j.bits b).toNat))) (hor : op = .or → r = some (.int j (j.wrap (BitVec.ofInt j.bits a ||| BitVec.ofInt j.bits b).toNat))) (hxor : op = .xor → r = some (.int j (j.wrap (BitVec.ofInt j.bits a ^^^ BitVec.ofInt j.bits b).toNat))) :
    intK op j a b k (rd' r fun v => fV v k) = rd' r k := by
  rw [rd'_fV]
  cases op <;> simp only [intK]
  case add => rw [hadd rfl, fI_eq, wrapF_eq]; rfl
  case sub => rw [hsub rfl, fI_eq, wrapF_eq]; rfl
  case mul => rw [hmul rfl, fI_eq, wrapF_eq]; rfl
  case lss => rw [hlss rfl, fB_eq, ltI_eq]; rfl
  case leq => rw [hleq rfl, fB_eq, ltI_eq, notB_eq]; simp only [rd']; congr 2; rw [Bool.eq_iff_iff]; simp
  case gtr => rw [hgtr rfl, fB_eq, ltI_eq]; rfl
  case geq => rw [hgeq rfl, fB_eq, ltI_eq, notB_eq]; simp only [rd']; congr 2; rw [Bool.eq_iff_iff]; simp
  case eql => rw [heql rfl, fB_eq, eqI_eq]; rfl
  case neq => rw [hneq rfl, fB_eq, eqI_eq, notB_eq]; rfl
  case and =>
    cases hs : sgn j with
    | true => cases a <;> cases b <;> rfl
    | false =>
      cases a with
      | negSucc m => cases b <;> rfl
      | ofNat m =>
        cases b with
        | negSucc n => rfl
        | ofNat n =>
          simp only []
          cases hb : (Nat.ble m (topOf j) && Nat.ble n (topOf j)) with
          | false => rfl
          | true =>
            simp only [Bool.and_eq_true] at hb
            simp only []
            rw [hand rfl, fN_eq]
            have := and_word (k := j) (by rw [← sgn_eq]; exact hs) (top_lt hs hb.1) (top_lt hs hb.2)
            simp only [Int.ofNat_eq_natCast] at this ⊢
            rw [this]; rfl
  case or =>
    cases hs : sgn j with
    | true => cases a <;> cases b <;> rfl
    | false =>
      cases a with
      | negSucc m => cases b <;> rfl
      | ofNat m =>
        cases b with
        | negSucc n => rfl
        | ofNat n =>
          simp only []
          cases hb : (Nat.ble m (topOf j) && Nat.ble n (topOf j)) with
          | false => rfl
          | true =>
            simp only [Bool.and_eq_true] at hb
            simp only []
            rw [hor rfl, fN_eq]
            have := or_word (k := j) (by rw [← sgn_eq]; exact hs) (top_lt hs hb.1) (top_lt hs hb.2)
            simp only [Int.ofNat_eq_natCast] at this ⊢
            rw [this]; rfl
  case xor =>
    cases hs : sgn j with
    | true => cases a <;> cases b <;> rfl
    | false =>
      cases a with
      | negSucc m => cases b <;> rfl
      | ofNat m =>
        cases b with
        | negSucc n => rfl
        | ofNat n =>
          simp only []
          cases hb : (Nat.ble m (topOf j) && Nat.ble n (topOf j)) with
          | false => rfl
          | true =>
            simp only [Bool.and_eq_true] at hb
            simp only []
            rw [hxor rfl, fN_eq]
            have := xor_word (k := j) (by rw [← sgn_eq]; exact hs) (top_lt hs hb.1) (top_lt hs hb.2)
            simp only [Int.ofNat_eq_natCast] at this ⊢
            rw [this]; rfl
theorem binD_and (t u : TypeId) (k : IntKind) (a b : Int) (h : AHeap) : binD P .and t u (.int k a) (.int k b) h = some (.int k (k.wrap (BitVec.ofInt k.bits a &&& BitVec.ofInt k.bits b).toNat)) := by cases k <;> rfl
theorem binD_or (t u : TypeId) (k : IntKind) (a b : Int) (h : AHeap) : binD P .or t u (.int k a) (.int k b) h = some (.int k (k.wrap (BitVec.ofInt k.bits a ||| BitVec.ofInt k.bits b).toNat)) := by cases k <;> rfl
theorem binD_xor (t u : TypeId) (k : IntKind) (a b : Int) (h : AHeap) : binD P .xor t u (.int k a) (.int k b) h = some (.int k (k.wrap (BitVec.ofInt k.bits a ^^^ BitVec.ofInt k.bits b).toNat)) := by cases k <;> rfl
theorem binC_xor (t u : TypeId) (k : IntKind) (a b : Int) (h : AHeap) : binC P .xor t u (.int k a) (.int k b) h = some (.int k (k.wrap (BitVec.ofInt k.bits a ^^^ BitVec.ofInt k.bits b).toNat)) := by cases k <;> rfl
theorem binD_lss (t u : TypeId) (k : IntKind) (a b : Int) (h : AHeap) : binD P .lss t u (.int k a) (.int k b) h = some (.bool (decide (a < b))) := by cases k <;> rfl
theorem binD_leq (t u : TypeId) (k : IntKind) (a b : Int) (h : AHeap) : binD P .leq t u (.int k a) (.int k b) h = some (.bool (decide (a ≤ b))) := by cases k <;> rfl
theorem binD_gtr (t u : TypeId) (k : IntKind) (a b : Int) (h : AHeap) : binD P .gtr t u (.int k a) (.int k b) h = some (.bool (decide (b < a))) := by cases k <;> rfl
theorem binD_geq (t u : TypeId) (k : IntKind) (a b : Int) (h : AHeap) : binD P .geq t u (.int k a) (.int k b) h = some (.bool (decide (b ≤ a))) := by cases k <;> rfl
theorem binD_eql (t u : TypeId) (k : IntKind) (a b : Int) (h : AHeap) : binD P .eql t u (.int k a) (.int k b) h = some (.bool (decide (a = b))) := by cases k <;> rfl
theorem binD_neq (t u : TypeId) (k : IntKind) (a b : Int) (h : AHeap) : binD P .neq t u (.int k a) (.int k b) h = some (.bool (!decide (a = b))) := by cases k <;> rfl
def binVK (P : Program) (op : BinOp) (t u : TypeId) (x y : Value) (h : AHeap) (k : Value → Prop) : Prop := binK op x y k (binV P op t u x y h)
def binCK (P : Program) (op : BinOp) (t u : TypeId) (x y : Value) (h : AHeap) (k : Value → Prop) : Prop := binK op x y k (binC P op t u x y h)
def binDK (P : Program) (op : BinOp) (t u : TypeId) (x y : Value) (h : AHeap) (k : Value → Prop) : Prop := binK op x y k (binD P op t u x y h)
theorem binVK_eq (op : BinOp) (t u : TypeId) (x y : Value) (h : AHeap) (k : Value → Prop) : binVK P op t u x y h k = rd' (binV P op t u x y h) k := by
  unfold binVK
  cases x with
  | int j a =>
    cases y with
    | int j' b =>
      unfold binK
      simp only []
      cases hb : Nat.beq (kn j) (kn j') with
      | false => exact rd'_fV _ _
      | true =>
        cases kn_inj hb
        simp only []
        cases ho : isShift op with
        | true => exact rd'_fV _ _
        | false =>
          simp only []
          refine intK_eq op ho j a b k _ ?_ ?_ ?_ ?_ ?_ ?_ ?_ ?_ ?_ ?_ ?_ ?_ <;> intro e <;> subst e <;> simp only [binV_add, binV_sub, binV_mul, binV_lss, binV_leq, binV_gtr, binV_geq, binV_eql, binV_neq, binV_and, binV_or, binV_xor]
    | _ => exact rd'_fV _ _
  | _ => exact rd'_fV _ _
theorem binCK_eq (op : BinOp) (t u : TypeId) (x y : Value) (h : AHeap) (k : Value → Prop) : binCK P op t u x y h k = rd' (binC P op t u x y h) k := by
  unfold binCK
  cases x with
  | int j a =>
    cases y with
    | int j' b =>
      unfold binK
      simp only []
      cases hb : Nat.beq (kn j) (kn j') with
      | false => exact rd'_fV _ _
      | true =>
        cases kn_inj hb
        simp only []
        cases ho : isShift op with
        | true => exact rd'_fV _ _
        | false =>
          simp only []
          refine intK_eq op ho j a b k _ ?_ ?_ ?_ ?_ ?_ ?_ ?_ ?_ ?_ ?_ ?_ ?_ <;> intro e <;> subst e <;> simp only [binC_add, binC_sub, binC_mul, binC_lss, binC_leq, binC_gtr, binC_geq, binC_eql, binC_neq, binC_and, binC_or, binC_xor]
    | _ => exact rd'_fV _ _
  | _ => exact rd'_fV _ _
theorem binDK_eq (op : BinOp) (t u : TypeId) (x y : Value) (h : AHeap) (k : Value → Prop) : binDK P op t u x y h k = rd' (binD P op t u x y h) k := by
  unfold binDK
  cases x with
  | int j a =>
    cases y with
    | int j' b =>
      unfold binK
      simp only []
      cases hb : Nat.beq (kn j) (kn j') with
      | false => exact rd'_fV _ _
      | true =>
        cases kn_inj hb
        simp only []
        cases ho : isShift op with
        | true => exact rd'_fV _ _
        | false =>
          simp only []
          refine intK_eq op ho j a b k _ ?_ ?_ ?_ ?_ ?_ ?_ ?_ ?_ ?_ ?_ ?_ ?_ <;> intro e <;> subst e <;> simp only [binD_add, binD_sub, binD_mul, binD_lss, binD_leq, binD_gtr, binD_geq, binD_eql, binD_neq, binD_and, binD_or, binD_xor]
    | _ => exact rd'_fV _ _
  | _ => exact rd'_fV _ _
def unVK (P : Program) (op : UnOp) (t : TypeId) (x : Value) (k : Value → Prop) : Prop :=
  match op, x with
  | .not, .bool b => fB (notB b) fun b => k (.bool b)
  | _, _ => rd' (unV P op t x) fun v => fV v k
theorem unVK_eq (op : UnOp) (t : TypeId) (x : Value) (k : Value → Prop) : unVK P op t x k = rd' (unV P op t x) k := by
  unfold unVK
  split
  · rw [fB_eq, notB_eq, unV_not]; rfl
  · exact rd'_fV _ _

/-! ### The other words -/
def ld1K (x : Value) (h : AHeap) (k : Value → Prop) : Prop :=
  match x with
  | .pointer (some ⟨b, o, none⟩) => match getH h b with
    | some (.cells B) => match nthL B.cells o with
      | some v => k v
      | none => False
    | _ => False
  | _ => False
theorem ld1K_eq (x : Value) (h : AHeap) (k : Value → Prop) : ld1K x h k = rd' (ld1 x h) k := by
  unfold ld1K ld1
  cases x with
  | pointer a =>
    cases a with
    | none => rfl
    | some a =>
      obtain ⟨b, o, s⟩ := a
      cases s with
      | none =>
        simp only [getH_eq, nthL_eq, getCells]
        cases hg : h.get b with
        | none => rfl
        | some ob =>
          cases ob with
          | cells B =>
            simp only []
            cases hb : Nat.ble (o + 1) B.cells.length with
            | true =>
              have := Nat.le_of_ble_eq_true hb
              simp only [Option.bind_some]
              rw [List.getElem?_take, if_pos (by omega), List.getElem?_drop, Nat.add_zero]
              cases B.cells[o]? <;> rfl
            | false =>
              have : ¬ o + 1 ≤ B.cells.length := fun hh => by rw [Nat.ble_eq_true_of_le hh] at hb; cases hb
              rw [List.getElem?_eq_none (by omega)]; rfl
          | _ => rfl
      | some s =>
        simp only [getCells]
        cases hg : h.get b with
        | none => rfl
        | some ob => cases ob <;> rfl
  | _ => rfl
def ldNK (n : Nat) (x : Value) (h : AHeap) (k : Value → Prop) : Prop :=
  match x with
  | .pointer (some ⟨b, o, none⟩) => match getH h b with
    | some (.cells B) => match Nat.ble (o + n) B.cells.length with
      | true => takeK n (dropF B.cells o) fun l => k (.agg ⟨l⟩)
      | false => False
    | _ => False
  | _ => False
theorem ldNK_eq (n : Nat) (x : Value) (h : AHeap) (k : Value → Prop) : ldNK n x h k = rd' (ldN n x h) k := by
  unfold ldNK ldN
  cases x with
  | pointer a =>
    cases a with
    | none => rfl
    | some a =>
      obtain ⟨b, o, s⟩ := a
      cases s with
      | none =>
        simp only [getH_eq, takeK_eq, dropF_eq, getCells]
        cases hg : h.get b with
        | none => rfl
        | some ob =>
          cases ob with
          | cells B =>
            simp only []
            cases hb : Nat.ble (o + n) B.cells.length <;> rfl
          | _ => rfl
      | some s =>
        simp only [getCells]
        cases hg : h.get b with
        | none => rfl
        | some ob => cases ob <;> rfl
  | _ => rfl
def cellsF (v : Value) : List Value :=
  match v with
  | .agg ⟨l⟩ => l
  | v => [v]
theorem cellsF_eq (v : Value) : cellsF v = v.cells.toList := by cases v <;> rfl
def stVK (n : Nat) (x v : Value) (h : AHeap) (k : AHeap → Prop) : Prop :=
  match x with
  | .pointer (some ⟨b, o, none⟩) => match getH h b with
    | some (.cells ⟨cs, opn, wr, pl⟩) => match cellsF v with
      | [] => stK (stV n x v h) k
      | w :: ws => match Nat.beq (w :: ws).length n, Nat.ble (o + (w :: ws).length) cs.length, wr, (w :: ws).all Value.oneCell with
        | true, true, true, true => putLK cs o (w :: ws) fun cs' => setH h b (.cells ⟨cs', opn, true, pl⟩) k
        | _, _, _, _ => False
    | _ => stK (stV n x v h) k
  | _ => stK (stV n x v h) k
theorem stVK_eq (n : Nat) (x v : Value) (h : AHeap) (k : AHeap → Prop) : stVK n x v h k = stK (stV n x v h) k := by
  unfold stVK
  split
  · rename_i b o
    split
    · rename_i cs opn wr pl hg
      rw [getH_eq] at hg
      split
      · rfl
      · rename_i w ws hc
        have hl : v.cells.size = (w :: ws).length := by
          rw [cellsF_eq] at hc
          have := congrArg List.length hc
          simpa using this
        simp only [putLK_eq, setH_eq]
        unfold stV setCells
        rw [cellsF_eq] at hc
        simp only [hc, hl, hg]
        cases Nat.beq (w :: ws).length n
        · simp only []; rfl
        · simp only []
          cases Nat.ble (o + (w :: ws).length) cs.length
          · simp only []; rfl
          · cases wr
            · simp only []; rfl
            · cases (w :: ws).all Value.oneCell <;> simp only [] <;> rfl
    · rfl
  · rfl
def fAddrK (off : Nat) (x : Value) (k : Value → Prop) : Prop :=
  match x with
  | .pointer (some ⟨b, o, none⟩) => fN (o + off) fun o => k (.pointer (some ⟨b, o, none⟩))
  | _ => rd' (fAddr off x) fun v => fV v k
theorem fAddrK_eq (off : Nat) (x : Value) (k : Value → Prop) : fAddrK off x k = rd' (fAddr off x) k := by
  unfold fAddrK
  split
  · rw [fN_eq, fAddr_of]; rfl
  · exact rd'_fV _ _
def ixSK (n : Nat) (x ix : Value) (k : Value → Prop) : Prop :=
  match x, ix with
  | .slice (some ⟨b, o, none⟩) len _, .int _ (.ofNat i) => match Nat.ble (i + 1) len with
    | true => fN (o + i * n) fun o => k (.pointer (some ⟨b, o, none⟩))
    | false => False
  | _, _ => rd' (ixS n x ix) fun v => fV v k
theorem ixSK_eq (n : Nat) (x ix : Value) (k : Value → Prop) : ixSK n x ix k = rd' (ixS n x ix) k := by
  unfold ixSK
  split
  · rename_i b o len cap j i
    cases hb : Nat.ble (i + 1) len with
    | true =>
      rw [Int.ofNat_eq_natCast, ixS_of (Nat.le_of_ble_eq_true hb), fN_eq]; rfl
    | false =>
      have e : ixS n (.slice (some ⟨b, o, none⟩) len cap) (.int j (.ofNat i)) = (match Nat.ble (i + 1) len, some n with
        | true, some n => some (.pointer (some ((Addr.mk b o none).add (i * n))))
        | _, _ => none) := rfl
      rw [e, hb]; rfl
  · exact rd'_fV _ _
def ixRK (len n : Nat) (x ix : Value) (k : Value → Prop) : Prop :=
  match x, ix with
  | .pointer (some ⟨b, o, none⟩), .int _ (.ofNat i) => match Nat.ble (i + 1) len with
    | true => fN (o + i * n) fun o => k (.pointer (some ⟨b, o, none⟩))
    | false => False
  | _, _ => rd' (ixR len n x ix) fun v => fV v k
theorem ixRK_eq (len n : Nat) (x ix : Value) (k : Value → Prop) : ixRK len n x ix k = rd' (ixR len n x ix) k := by
  unfold ixRK
  split
  · rename_i b o j i
    cases hb : Nat.ble (i + 1) len with
    | true =>
      rw [Int.ofNat_eq_natCast, ixR_of (Nat.le_of_ble_eq_true hb), fN_eq]; rfl
    | false =>
      have e : ixR len n (.pointer (some ⟨b, o, none⟩)) (.int j (.ofNat i)) = (match Nat.ble (i + 1) len, some n with
        | true, some n => some (.pointer (some ((Addr.mk b o none).add (i * n))))
        | _, _ => none) := rfl
      rw [e, hb]; rfl
  · exact rd'_fV _ _
def nilVK (x : Value) (k : Value → Prop) : Prop :=
  match x with
  | .pointer (some a) => k (.pointer (some a))
  | .func (.func f) a b => k (.func (.func f) a b)
  | _ => False
theorem nilVK_eq (x : Value) (h : AHeap) (k : Value → AHeap → Prop) : opK (nilV x h) k = nilVK x fun v => k v h := by
  cases x with
  | pointer a => cases a <;> rfl
  | func f a b => cases f <;> rfl
  | _ => rfl
def newVK (cs : List Value) (id : Nat) (h : AHeap) (k : Value → AHeap → Prop) : Prop :=
  fN id fun id => setH h id (.cells ⟨cs, none, true, true⟩) fun h => k (.pointer (some ⟨id, 0, none⟩)) h
theorem newVK_eq (cs : List Value) (id : Nat) (h : AHeap) (k : Value → AHeap → Prop) : opK (newV cs id h) k = newVK cs id h k := by
  unfold newVK; rw [fN_eq, setH_eq]; rfl
def boxVK (x : Value) (id : Nat) (h : AHeap) (k : Value → AHeap → Prop) : Prop :=
  fN id fun id => match x with
  | .agg ⟨l⟩ => setH h id (.cells ⟨l, none, true, true⟩) fun h => k (.pointer (some ⟨id, 0, none⟩)) h
  | x => setH h id (.cells ⟨[x], none, true, true⟩) fun h => k (.pointer (some ⟨id, 0, none⟩)) h
theorem boxVK_eq (x : Value) (id : Nat) (h : AHeap) (k : Value → AHeap → Prop) : opK (boxV x id h) k = boxVK x id h k := by
  unfold boxVK; rw [fN_eq]
  cases x <;> simp only [setH_eq] <;> rfl
def pickVK (c a b : Value) (k : Value → Prop) : Prop :=
  match c with
  | .bool true => k a
  | .bool false => k b
  | _ => False
theorem pickVK_eq (c a b : Value) (h : AHeap) (k : Value → AHeap → Prop) : opK (pickV c a b h) k = pickVK c a b fun v => k v h := by
  cases c with
  | bool b => cases b <;> rfl
  | _ => rfl
def extVK (i : Nat) (x : Value) (k : Value → Prop) : Prop :=
  match x with
  | .tuple ⟨l⟩ => match nthL l i with
    | some v => k v
    | none => False
  | _ => False
theorem extVK_eq (i : Nat) (x : Value) (h : AHeap) (k : Value → AHeap → Prop) : opK (extV i x h) k = extVK i x fun v => k v h := by
  unfold extV extVK
  cases x with
  | tuple vs => obtain ⟨l⟩ := vs; simp only [nthL_eq]; cases l[i]? <;> rfl
  | _ => rfl
/-- A guarded word that leaves the heap alone. -/
def gF (g : Bool) (f : (Value → Prop) → Prop) (k : Value → Prop) : Prop :=
  match g with
  | false => k undef
  | true => f k
theorem gF_rd (g : Bool) (h : AHeap) (r : Option Value) (k : Value → AHeap → Prop) : gopK g h (r.map (·, h)) k = gF g (rd' r) fun v => k v h := by
  cases g
  · rfl
  · cases r <;> rfl
theorem gF_some (g : Bool) (h : AHeap) (v : Value) (k : Value → AHeap → Prop) : gopK g h (some (v, h)) k = gF g (fun k => k v) fun v => k v h := by
  cases g <;> rfl
theorem gF_nil (g : Bool) (h : AHeap) (x : Value) (k : Value → AHeap → Prop) : gopK g h (nilV x h) k = gF g (nilVK x) fun v => k v h := by
  cases g
  · rfl
  · exact nilVK_eq _ _ _
theorem gF_pick (g : Bool) (h : AHeap) (a b c : Value) (k : Value → AHeap → Prop) : gopK g h (pickV a b c h) k = gF g (pickVK a b c) fun v => k v h := by
  cases g
  · rfl
  · exact pickVK_eq _ _ _ _ _
theorem gF_ext (g : Bool) (h : AHeap) (i : Nat) (x : Value) (k : Value → AHeap → Prop) : gopK g h (extV i x h) k = gF g (extVK i x) fun v => k v h := by
  cases g
  · rfl
  · exact extVK_eq _ _ _ _
/-- The results of words that may turn the heap, laid out: numbers of values alone. -/
def opF (r : Option (Value × AHeap)) (k : Value → AHeap → Prop) : Prop :=
  match r with
  | some (v, h) => fV v fun v => k v h
  | none => False
theorem opF_eq (r : Option (Value × AHeap)) (k : Value → AHeap → Prop) : opF r k = opK r k := by
  cases r with
  | none => rfl
  | some p => obtain ⟨v, h⟩ := p; simp only [opF, fV_eq]; rfl
theorem ld1K_eq' (x : Value) (h : AHeap) : ld1K x h = rd' (ld1 x h) := by funext k; exact ld1K_eq x h k
theorem ldNK_eq' (n : Nat) (x : Value) (h : AHeap) : ldNK n x h = rd' (ldN n x h) := by funext k; exact ldNK_eq n x h k
theorem binVK_eq' (op : BinOp) (t u : TypeId) (x y : Value) (h : AHeap) : binVK P op t u x y h = rd' (binV P op t u x y h) := by funext k; exact binVK_eq op t u x y h k
theorem binCK_eq' (op : BinOp) (t u : TypeId) (x y : Value) (h : AHeap) : binCK P op t u x y h = rd' (binC P op t u x y h) := by funext k; exact binCK_eq op t u x y h k
theorem binDK_eq' (op : BinOp) (t u : TypeId) (x y : Value) (h : AHeap) : binDK P op t u x y h = rd' (binD P op t u x y h) := by funext k; exact binDK_eq op t u x y h k
theorem fAddrK_eq' (off : Nat) (x : Value) : fAddrK off x = rd' (fAddr off x) := by funext k; exact fAddrK_eq off x k
theorem ixSK_eq' (n : Nat) (x ix : Value) : ixSK n x ix = rd' (ixS n x ix) := by funext k; exact ixSK_eq n x ix k
theorem ixRK_eq' (len n : Nat) (x ix : Value) : ixRK len n x ix = rd' (ixR len n x ix) := by funext k; exact ixRK_eq len n x ix k
theorem unVK_eq' (op : UnOp) (t : TypeId) (x : Value) : unVK P op t x = rd' (unV P op t x) := by funext k; exact unVK_eq op t x k
end
end Go.Cub
