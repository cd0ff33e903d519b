/- The abstract machine: a deterministic, address-abstract reading of the model's code, on which the proofs of this place run. Definitions only. -/
import Derived.CallsIn
import Derived.DefersIn
import Derived.RangeFuncIn
import Derived.RangeFuncLeaves
import Derived.Wp
namespace Go.Cub
set_option linter.unusedVariables false
set_option linter.unusedSimpArgs false
open Go

/-! ### Tries: finite maps from numbers -/
inductive T (α : Type) where
  | nil
  | node (v : Option α) (l r : T α)

def T.get {α : Type} : T α → Nat → Option α
  | .nil, _ => none
  | .node v l r, n => match Nat.beq n 0 with
    | true => v
    | false => match Nat.beq (n % 2) 1 with
      | true => l.get (n / 2)
      | false => r.get (n / 2 - 1)

def T.setF {α : Type} (x : α) : Nat → T α → Nat → T α
  | 0, t, _ => t
  | f + 1, .nil, n => match Nat.beq n 0 with
    | true => .node (some x) .nil .nil
    | false => match Nat.beq (n % 2) 1 with
      | true => .node none (T.setF x f .nil (n / 2)) .nil
      | false => .node none .nil (T.setF x f .nil (n / 2 - 1))
  | f + 1, .node v l r, n => match Nat.beq n 0 with
    | true => .node (some x) l r
    | false => match Nat.beq (n % 2) 1 with
      | true => .node v (T.setF x f l (n / 2)) r
      | false => .node v l (T.setF x f r (n / 2 - 1))

def T.set {α : Type} (t : T α) (n : Nat) (x : α) : T α := T.setF x (n + 1) t n

theorem T.get_setF {α : Type} (x : α) : ∀ (f : Nat) (t : T α) (n k : Nat), n < f → (T.setF x f t n).get k = if k = n then some x else t.get k := by
  intro f
  induction f with
  | zero => intro t n k h; omega
  | succ f ih =>
    intro t n k h
    have hn : ∀ (b : Bool), Nat.beq n 0 = b → (b = true ↔ n = 0) := by intro b hb; subst hb; exact Nat.beq_eq ▸ Iff.rfl
    have hk : ∀ (b : Bool), Nat.beq k 0 = b → (b = true ↔ k = 0) := by intro b hb; subst hb; exact Nat.beq_eq ▸ Iff.rfl
    have hn2 : ∀ (b : Bool), Nat.beq (n % 2) 1 = b → (b = true ↔ n % 2 = 1) := by intro b hb; subst hb; exact Nat.beq_eq ▸ Iff.rfl
    have hk2 : ∀ (b : Bool), Nat.beq (k % 2) 1 = b → (b = true ↔ k % 2 = 1) := by intro b hb; subst hb; exact Nat.beq_eq ▸ Iff.rfl
    cases t with
    | nil =>
      cases en : Nat.beq n 0 <;> cases en2 : Nat.beq (n % 2) 1 <;> cases ek : Nat.beq k 0 <;> cases ek2 : Nat.beq (k % 2) 1 <;>
        have a := hn _ en <;> have b := hn2 _ en2 <;> have c := hk _ ek <;> have d := hk2 _ ek2 <;> simp at a b c d <;>
        simp [T.setF, T.get, en, en2, ek, ek2] <;>
        first
          | omega
          | (rw [ih .nil _ _ (by omega)]; simp only [T.get]; split <;> split <;> first | rfl | omega)
          | (split <;> first | rfl | omega)
    | node v l r =>
      cases en : Nat.beq n 0 <;> cases en2 : Nat.beq (n % 2) 1 <;> cases ek : Nat.beq k 0 <;> cases ek2 : Nat.beq (k % 2) 1 <;>
        have a := hn _ en <;> have b := hn2 _ en2 <;> have c := hk _ ek <;> have d := hk2 _ ek2 <;> simp at a b c d <;>
        simp [T.setF, T.get, en, en2, ek, ek2] <;>
        first
          | omega
          | (rw [ih _ _ _ (by omega)]; split <;> split <;> first | rfl | omega)
          | (split <;> first | rfl | omega)

theorem T.get_set {α : Type} (t : T α) (n : Nat) (x : α) (k : Nat) : (t.set n x).get k = if k = n then some x else t.get k :=
  T.get_setF x _ t n k (Nat.lt_succ_self n)

/-! ### Heaps -/
structure ABlk where
  cells : List Value
  opn : Option Nat
  wr : Bool
  plain : Bool

structure ALoop where
  state : LoopState
  pending : Option Code
  tmps : Nat → Value
  params : List Tmp
  assign : Code
  body : Code

inductive AObj where
  | cells (b : ABlk)
  | map (es : List MapEntry) (clock : Nat)
  | loop (l : ALoop)
  | strIter (s : ByteArray) (pos : Nat)
  | mapIter (map : Option Nat) (since : Nat) (seen : Array Nat) (stepped : Nat)
  | dead

structure AHeap where
  objs : T AObj
  next : Nat
  wf : ∀ i, next ≤ i → objs.get i = none

def AHeap.get (h : AHeap) (i : Nat) : Option AObj := h.objs.get i

/-- What lies at a number that is given out already is turned. -/
def AHeap.set (h : AHeap) (i : Nat) (o : AObj) : AHeap :=
  match hb : Nat.ble (i + 1) h.next with
  | true => ⟨h.objs.set i o, h.next, fun k hk => by
      have := Nat.le_of_ble_eq_true hb
      rw [T.get_set]; split
      · omega
      · exact h.wf k hk⟩
  | false => h

def AHeap.bump (h : AHeap) (n : Nat) : AHeap := ⟨h.objs, h.next + n, fun k hk => h.wf k (by omega)⟩

theorem AHeap.lt_of_get {h : AHeap} {i : Nat} {o : AObj} (e : h.get i = some o) : i < h.next := by
  rcases Nat.lt_or_ge i h.next with g | g
  · exact g
  · have := h.wf i g; simp [AHeap.get, this] at e

theorem AHeap.get_set (h : AHeap) (i : Nat) (o : AObj) (k : Nat) : (h.set i o).get k = if k = i ∧ i < h.next then some o else h.get k := by
  unfold AHeap.set
  split
  · rename_i hb
    have := Nat.le_of_ble_eq_true hb
    simp only [AHeap.get, T.get_set]
    by_cases e : k = i <;> simp [e]; omega
  · rename_i hb
    have : ¬ i + 1 ≤ h.next := fun hh => by rw [Nat.ble_eq_true_of_le hh] at hb; cases hb
    rw [if_neg (by omega)]

theorem AHeap.get_set_same {h : AHeap} {i : Nat} {o : AObj} (hi : i < h.next) : (h.set i o).get i = some o := by simp [AHeap.get_set, hi]
theorem AHeap.get_set_ne {h : AHeap} {i k : Nat} {o : AObj} (hk : k ≠ i) : (h.set i o).get k = h.get k := by simp [AHeap.get_set, hk]
@[simp] theorem AHeap.next_set (h : AHeap) (i : Nat) (o : AObj) : (h.set i o).next = h.next := by unfold AHeap.set; split <;> rfl
@[simp] theorem AHeap.get_bump (h : AHeap) (n k : Nat) : (h.bump n).get k = h.get k := rfl
@[simp] theorem AHeap.next_bump (h : AHeap) (n : Nat) : (h.bump n).next = h.next + n := rfl

/-! ### Plain values, and steps of the model that ask no memory -/
def isAtom : Value → Bool
  | .bool _ | .int _ _ | .float _ _ | .complex _ _ _ | .string _ | .nilFunc | .nilIface | .pointer none | .slice none _ _ | .map none | .chan none => true
  | _ => false

def scalar : Value → Bool
  | .agg cs => cs.all isAtom
  | .iface _ v => isAtom v
  | v => isAtom v

def aPure {α : Type} (P : Program) : Sem α → Option α
  | .pure a => some a
  | .program k => aPure P (k P)
  | _ => none

def beqV : Value → Value → Bool
  | .bool a, .bool b => a == b
  | .int j a, .int k b => decide (j = k) && decide (a = b)
  | .string a, .string b => decide (a = b)
  | .pointer none, .pointer none => true
  | .pointer (some a), .pointer (some b) => decide (a = b)
  | .slice none l c, .slice none l' c' => Nat.beq l l' && Nat.beq c c'
  | .slice (some a) l c, .slice (some b) l' c' => decide (a = b) && (Nat.beq l l' && Nat.beq c c')
  | .map none, .map none => true
  | .map (some a), .map (some b) => Nat.beq a b
  | .nilFunc, .nilFunc => true
  | .nilIface, .nilIface => true
  | _, _ => false

def beqL : List Value → List Value → Bool
  | [], [] => true
  | a :: l, b :: r => beqV a b && beqL l r
  | _, _ => false

/-- Two readings are the same: values of one cell, rows of such, or pairs of such (a lookup with its ok). -/
def beqR : Value → Value → Bool
  | .agg a, .agg b => beqL a.toList b.toList
  | .tuple a, .tuple b => beqL a.toList b.toList
  | a, b => beqV a b

/-! ### The steps -/
structure AAct where
  env : Nat → Value
  defers : List (Value × List Value)

def AAct.eval (a : AAct) : Operand → Value
  | .tmp t => a.env t
  | .const v => v
  | .global g => .pointer (some ⟨g, 0, none⟩)
  | .func f => .func (.func f) #[] #[]

def upd (e : Nat → Value) (t : Nat) (v : Value) : Nat → Value := fun k => match Nat.beq k t with | true => v | false => e k

def AAct.put (a : AAct) (dst : Option Tmp) (v : Value) : AAct :=
  match dst with
  | some d => { a with env := upd a.env d v }
  | none => a

def isAggT (P : Program) (t : TypeId) : Option Bool :=
  match P.underlying t with
  | some (.struct _) | some (.array _ _) => some true
  | some _ => some false
  | none => none

def sizeT (P : Program) (t : TypeId) : Option Nat := (P.info? t).map (·.size)
def bytesT (P : Program) (t : TypeId) : Option Nat := (P.info? t).map (·.bytes)
/-- The zero value, of plain cells. -/
def zeroT (P : Program) (t : TypeId) : Option Value :=
  match P.info? t with
  | some i => match i.zero with
    | some z => match z.cells.all isAtom with | true => some z | false => none
    | none => none
  | none => none

def getCells (h : AHeap) (a : Addr) (n : Nat) : Option (List Value) :=
  match h.get a.block with
  | some (.cells b) => match a.spot, Nat.ble (a.off + n) b.cells.length with
    | none, true => some ((b.cells.drop a.off).take n)
    | _, _ => none
  | _ => none

def putL (l : List Value) (off : Nat) (vs : List Value) : List Value := l.take off ++ vs ++ l.drop (off + vs.length)

def setCells (h : AHeap) (a : Addr) (vs : List Value) : Option AHeap :=
  match vs with
  | [] => some h
  | _ => match h.get a.block with
    | some (.cells b) => match a.spot, Nat.ble (a.off + vs.length) b.cells.length, b.wr, vs.all Value.oneCell with
      | none, true, true, true => some (h.set a.block (.cells { b with cells := putL b.cells a.off vs }))
      | _, _, _, _ => none
    | _ => none

def loadA (P : Program) (t : TypeId) (addr : Value) (h : AHeap) : Option Value :=
  match addr, isAggT P t, sizeT P t with
  | .pointer (some a), some true, some n => (getCells h a n).map fun l => .agg l.toArray
  | .pointer (some a), some false, some _ => (getCells h a 1).bind fun l => l[0]?
  | _, _, _ => none

def storeA (P : Program) (t : TypeId) (addr v : Value) (h : AHeap) : Option AHeap :=
  match addr, sizeT P t with
  | .pointer (some a), some n => match Nat.beq v.cells.size n with
    | true => setCells h a v.cells.toList
    | false => none
  | _, _ => none

def newBlk (h : AHeap) (id : Nat) (cs : List Value) (opn : Option Nat) : AHeap := h.set id (.cells ⟨cs, opn, true, true⟩)

def litRow (h : AHeap) (id : Nat) (cs : List Value) : AHeap := h.set id (.cells ⟨cs, none, true, false⟩)

def intOf? : Value → Option Int
  | .int _ n => some n
  | _ => none

def repL {α : Type} : Nat → List α → List α
  | 0, _ => []
  | n + 1, z => z ++ repL n z

def firstCellsA (h : AHeap) (size n : Nat) : Value → Option (List Value)
  | .slice (some a) _ _ => getCells h a (n * size)
  | .slice none _ _ => match n with | 0 => some [] | _ => none
  | .string s => match Nat.ble n s.size && Nat.beq size 1 with
    | true => some ((s.data.toList.take n).map fun b => .int .u8 b.toNat)
    | false => none
  | _ => none

def lenOfA : Value → Option Nat
  | .slice _ n _ => some n
  | .string s => some s.size
  | _ => none

def okGrow (need bytes : Nat) : Bool := Nat.ble 1 bytes && Nat.ble ((2 * need + 192) * bytes) (2 ^ 48)

/-- append: in place where there is room for sure; else to a new row, and the old one is lost where it might have been in place. -/
def appendA (size bytes : Nat) (s : Value) (n : Nat) (new : List Value) (id : Nat) (h : AHeap) : Option (Value × AHeap) :=
  match Nat.beq size 0, s with
  | true, _ => none
  | false, .slice none 0 0 => match n with
    | 0 => some (.slice none 0 0, h)
    | _ => match okGrow n bytes with
      | true => some (.slice (some ⟨id, 0, none⟩) n n, newBlk h id new (some size))
      | false => none
  | false, .slice (some a) len cap => match h.get a.block with
    | some (.cells b) => match Nat.ble (len + n) cap with
      | true => (setCells h (a.add (len * size)) new).map fun h' => (.slice (some a) (len + n) cap, h')
      | false => match getCells h a (len * size), okGrow (len + n) bytes with
        | some old, true =>
          let out : Value := .slice (some ⟨id, 0, none⟩) (len + n) (len + n)
          match b.opn with
          | none => some (out, newBlk h id (old ++ new) (some size))
          | some z => match Nat.beq z size, Nat.ble (a.off + cap * size + 1) b.cells.length, b.wr && new.all Value.oneCell with
            | true, true, _ => some (out, newBlk h id (old ++ new) (some size))
            | true, false, true => some (out, (h.set a.block .dead).set id (.cells ⟨old ++ new, some size, true, b.plain⟩))
            | _, _, _ => none
        | _, _ => none
    | _ => none
  | _, _ => none

def natOf? : Value → Option Nat
  | .int _ n => match n with | .ofNat k => some k | .negSucc _ => none
  | _ => none

def elemOfSlice (P : Program) (t : TypeId) : Option TypeId :=
  match P.underlying t with
  | some (.slice e) => some e
  | _ => none

def appendOp (P : Program) (argTypes : Array TypeId) (args : List Value) (id : Nat) (h : AHeap) : Option (Value × AHeap) :=
  match argTypes.toList, args with
  | st :: xt :: _, s :: x :: _ =>
    match elemOfSlice P st with
    | none => none
    | some e => match sizeT P e, bytesT P e, zeroT P e with
      | some size, some bytes, some z => match Nat.beq z.cells.size size, P.underlying xt with
        | true, some (.int _) => match natOf? x with
          | some n => match Nat.ble n (2 ^ 40) && Nat.ble (n * bytes) (2 ^ 48) with
            | true => appendA size bytes s n (repL n z.cells.toList) id h
            | false => none
          | none => none
        | true, some _ => match lenOfA x with
          | some n => match firstCellsA h size n x with
            | some new => appendA size bytes s n new id h
            | none => none
          | none => none
        | _, _ => none
      | _, _, _ => none
  | _, _ => none

def copyOp (P : Program) (argTypes : Array TypeId) (args : List Value) (h : AHeap) : Option (Value × AHeap) :=
  match argTypes.toList, args with
  | st :: _, .slice base dLen _ :: x :: _ =>
    match elemOfSlice P st with
    | none => none
    | some e => match sizeT P e, lenOfA x with
      | some size, some n => match firstCellsA h size (Nat.min n dLen) x, base with
        | some cs, some a => (setCells h a cs).map fun h' => (.int .i64 (Nat.min n dLen), h')
        | some [], none => some (.int .i64 (Nat.min n dLen), h)
        | _, _ => none
      | _, _ => none
  | _, _ => none

def clearOp (P : Program) (argTypes : Array TypeId) (args : List Value) (h : AHeap) : Option (Value × AHeap) :=
  match argTypes.toList, args with
  | st :: _, .slice base n _ :: _ =>
    match elemOfSlice P st with
    | none => none
    | some e => match n, base with
      | 0, _ => some (.tuple #[], h)
      | n + 1, some a => match zeroT P e with
        | some z => (setCells h a (repL (n + 1) z.cells.toList)).map fun h' => (.tuple #[], h')
        | none => none
      | _, _ => none
  | st :: _, .map (some r) :: _ => match P.underlying st, h.get r with
    | some _, some (.map _ clock) => some (.tuple #[], h.set r (.map [] clock))
    | _, _ => none
  | _, _ => none

def keyTypeOf (P : Program) (t : TypeId) : Option (TypeId × TypeId) :=
  match P.underlying t with
  | some (.map k e) => some (k, e)
  | _ => none

def findA (P : Program) (kt : TypeId) (k : Value) (es : List MapEntry) : Option (Option (Nat × Value)) :=
  match P.underlying kt with
  | some (.int j) => Instr.findNow (.int j) k es 0
  | some .string => Instr.findNow .string k es 0
  | some .bool => Instr.findNow .bool k es 0
  | _ => none

def plainKey : Value → Bool
  | .int _ _ | .string _ | .bool _ => true
  | _ => false

def entriesOf (h : AHeap) : Value → Option (List MapEntry)
  | .map none => some []
  | .map (some r) => match h.get r with
    | some (.map es _) => some es
    | _ => none
  | _ => none

def lookupA (P : Program) (t : TypeId) (m k : Value) (ok : Bool) (h : AHeap) : Option Value :=
  match keyTypeOf P t, entriesOf h m, plainKey k with
  | some (kt, et), some es, true =>
    let out (v : Value) (b : Bool) : Value := match ok with | true => .tuple #[v, .bool b] | false => v
    match findA P kt k es with
    | some (some (_, v)) => some (out v true)
    | some none => (zeroT P et).map fun z => out z false
    | none => none
  | _, _, _ => none

def setE (es : List MapEntry) (i : Nat) (k v : Value) : List MapEntry := es.modify i fun e => { e with key := k, val := v }

def mapPutA (P : Program) (t : TypeId) (m k v : Value) (h : AHeap) : Option AHeap :=
  match keyTypeOf P t, m, plainKey k with
  | some (kt, _), .map (some r), true => match h.get r with
    | some (.map es clock) => match findA P kt k es with
      | some (some (i, _)) => some (h.set r (.map (setE es i k v) clock))
      | some none => some (h.set r (.map (es ++ [{ key := k, val := v, born := clock }]) (clock + 1)))
      | none => none
    | _ => none
  | _, _, _ => none

def mapEntryA (P : Program) (t : TypeId) (m k : Value) (h : AHeap) : Option (Value × AHeap) :=
  match keyTypeOf P t, m, plainKey k with
  | some (kt, et), .map (some r), true => match h.get r with
    | some (.map es clock) => match findA P kt k es with
      | some (some (i, v)) => some (.tuple #[v, goInt (((es[i]?).map (·.born)).getD 0)], h.set r (.map (es.modify i fun e => { e with key := k }) clock))
      | some none => (zeroT P et).map fun z => (.tuple #[z, goInt clock], h.set r (.map (es ++ [{ key := k, val := z, born := clock }]) (clock + 1)))
      | none => none
    | _ => none
  | _, _, _ => none

def entryStoreA (m stamp v : Value) (h : AHeap) : Option AHeap :=
  match m, stamp with
  | .map (some r), .int _ born => match h.get r with
    | some (.map es clock) => match es.findIdx? (fun e => (e.born : Int) == born) with
      | some i => some (h.set r (.map (es.modify i fun e => { e with val := v }) clock))
      | none => none
    | _ => none
  | _, _ => none

def deleteA (P : Program) (t : TypeId) (m k : Value) (h : AHeap) : Option (Value × AHeap) :=
  match keyTypeOf P t, m, plainKey k with
  | some (kt, _), .map (some r), true => match h.get r with
    | some (.map es clock) => match findA P kt k es with
      | some (some (i, _)) => some (.tuple #[], h.set r (.map (es.eraseIdx i) clock))
      | some none => some (.tuple #[], h)
      | none => none
    | _ => none
  | some (kt, _), .map none, true => match findA P kt k [] with
    | some _ => some (.tuple #[], h)
    | none => none
  | _, _, _ => none

def lenA (P : Program) (t : TypeId) (h : AHeap) (x : Value) : Option Value :=
  match P.underlying t, x with
  | some .string, .string s => some (.int .i64 s.size)
  | some (.slice _), .slice _ n _ => some (.int .i64 n)
  | some (.map _ _), .map none => some (.int .i64 0)
  | some (.map _ _), .map (some r) => match h.get r with
    | some (.map es _) => some (.int .i64 es.length)
    | _ => none
  | _, _ => none

/-- How much room a row has: told where it is known for sure. -/
def capA (P : Program) (t : TypeId) (h : AHeap) (x : Value) : Option Value :=
  match P.underlying t, x with
  | some (.slice _), .slice none _ c => some (.int .i64 c)
  | some (.slice _), .slice (some a) _ c => match h.get a.block with
    | some (.cells b) => match b.opn with
      | none => some (.int .i64 c)
      | some _ => none
    | _ => none
  | _, _ => none

def bytesOfL : List Value → Option (List UInt8)
  | [] => some []
  | .int .u8 n :: r => (bytesOfL r).map (UInt8.ofNat n.toNat :: ·)
  | _ :: _ => none

def isU8 (P : Program) (t : TypeId) : Bool :=
  match elemOfSlice P t with
  | some e => match P.underlying e with | some (.int .u8) => true | _ => false
  | none => false

def isStr (P : Program) (t : TypeId) : Bool := match P.underlying t with | some .string => true | _ => false

def convertA (P : Program) (src dst : TypeId) (x : Value) (id : Nat) (h : AHeap) : Option (Value × AHeap) :=
  match x with
  | .int _ _ | .bool _ => match aPure P (convert src dst x) with
    | some v => match scalar v with | true => some (v, h) | false => none
    | none => none
  | .string s => match isStr P src, isStr P dst with
    | true, true => some (x, h)
    | true, false => match isU8 P dst, Nat.ble s.size (2 ^ 40) with
      | true, true => some (.slice (some ⟨id, 0, none⟩) s.size s.size, h.set id (.cells ⟨s.data.toList.map fun b => .int .u8 b.toNat, some 1, true, false⟩))
      | _, _ => none
    | _, _ => none
  | .slice none _ _ => match isU8 P src, isStr P dst with
    | true, true => some (.string .empty, h)
    | _, _ => none
  | .slice (some a) n _ => match isU8 P src, isStr P dst with
    | true, true => ((getCells h a n).bind bytesOfL).map fun l => (.string ⟨l.toArray⟩, h)
    | true, false => match Nat.beq src dst, h.get a.block with
      | true, some (.cells b) => match b.plain, b.wr with
        | false, true => some (x, h)
        | _, _ => none
      | _, _ => none
    | _, _ => none
  | _ => none

def liveBlk (h : AHeap) (a : Addr) : Bool :=
  match h.get a.block with
  | some (.cells b) => b.plain && a.spot.isNone
  | _ => false

/-- == of values that bear addresses. -/
def eqA (P : Program) (t : TypeId) (x y : Value) (h : AHeap) : Option Bool :=
  match P.underlying t, x, y with
  | some (.pointer _), .pointer none, .pointer b => some b.isNone
  | some (.pointer _), .pointer _, .pointer none => some false
  | some (.pointer e), .pointer (some a), .pointer (some b) => match sizeT P e with
    | some (_ + 1) => match liveBlk h a, liveBlk h b with
      | true, true => some (decide (a = b))
      | _, _ => none
    | _ => none
  | some (.slice _), .slice none _ _, .slice b _ _ => some b.isNone
  | some (.slice _), .slice _ _ _, .slice none _ _ => some false
  | some (.map _ _), .map none, .map b => some b.isNone
  | some (.map _ _), .map _, .map none => some false
  | some (.func _ _ _), .nilFunc, .nilFunc => some true
  | some (.func _ _ _), .nilFunc, .func _ _ _ => some false
  | some (.func _ _ _), .func _ _ _, .nilFunc => some false
  | some (.interface _), .nilIface, .iface _ _ => some false
  | some (.interface _), .iface _ _, .nilIface => some false
  | _, _, _ => none

def pureOp (P : Program) (ρ : Operand → Value) (o : Oper) : Option Value :=
  match (o.op.operands.toList.all fun x => scalar (ρ x)) with
  | true => match aPure P (execOp ρ o) with
    | some (.value v) => match scalar v with | true => some v | false => none
    | _ => none
  | false => none

def placesA (P : Program) : List Field → Option (List (Nat × Nat))
  | [] => some []
  | f :: r => match sizeT P f.type, placesA P r with
    | some n, some l => some ((f.offset, n) :: l)
    | _, _ => none

def buildA (P : Program) (t : TypeId) (parts : List (Nat × Value)) : Option Value :=
  match P.underlying t, zeroT P t with
  | some (.struct fs), some z => match placesA P fs.toList with
    | some pl => (Instr.fill (fun i => pl[i]?) z.cells parts).map .agg
    | none => none
  | some (.array _ e), some z => match sizeT P e with
    | some size => (Instr.fill (fun i => some (i * size, size)) z.cells parts).map .agg
    | none => none
  | _, _ => none

def binA (P : Program) (ρ : Operand → Value) (o : Oper) (op : BinOp) (t : TypeId) (x y : Operand) (h : AHeap) : Option Value :=
  match scalar (ρ x) && scalar (ρ y) with
  | true => pureOp P ρ o
  | false => match op with
    | .eql => (eqA P t (ρ x) (ρ y) h).map .bool
    | .neq => (eqA P t (ρ x) (ρ y) h).map fun b => .bool !b
    | _ => none

def fieldAddrA (P : Program) (s : TypeId) (x : Value) (f : Nat) : Option Value :=
  match P.underlying s, x with
  | some (.struct fs), .pointer (some a) => match fs[f]? with
    | some fd => match sizeT P fd.type with
      | some (_ + 1) => some (.pointer (some (a.add fd.offset)))
      | _ => none
    | none => none
  | _, _ => none

def indexAddrA (P : Program) (t : TypeId) (x ix : Value) : Option Value :=
  match P.underlying t, x, natOf? ix with
  | some (.slice e), .slice (some a) len _, some i => match Nat.ble (i + 1) len, sizeT P e with
    | true, some n => some (.pointer (some (a.add (i * n))))
    | _, _ => none
  | some (.array len e), .pointer (some a), some i => match Nat.ble (i + 1) len, sizeT P e with
    | true, some n => some (.pointer (some (a.add (i * n))))
    | _, _ => none
  | _, _, _ => none

def bound? (x : Option Value) (d most : Nat) : Option Nat :=
  match x with
  | none => some d
  | some v => match natOf? v with
    | some n => match Nat.ble n most with | true => some n | false => none
    | none => none

/-- A row that is open at its end is cut by its own elements alone. -/
def openOk (h : AHeap) (a : Option Addr) (e : Nat) : Bool :=
  match a with
  | none => true
  | some a => match h.get a.block with
    | some (.cells b) => a.spot.isNone && (match b.opn with | some z => Nat.beq z e | none => true)
    | _ => false

def sliceA (P : Program) (t : TypeId) (x : Value) (lo hi mx : Option Value) (h : AHeap) : Option Value :=
  let cut (a : Option Addr) (len cap e : Nat) : Option Value :=
   match openOk h a e with
   | false => none
   | true =>
    match bound? mx cap cap with
    | none => none
    | some m => match bound? hi len m with
      | none => none
      | some hh => match mx.isSome && hi.isNone, Nat.ble hh m with
        | false, true => match bound? lo 0 hh with
          | none => none
          | some l => some (.slice (a.map (·.add (l * e))) (hh - l) (m - l))
        | _, _ => none
  match P.underlying t, x with
  | some (.slice e), .slice a len cap => match sizeT P e with
    | some n => cut a len cap n
    | none => none
  | some (.array n e), .pointer (some a) => match sizeT P e with
    | some z => cut (some a) n n z
    | none => none
  | _, _ => none

def partA (P : Program) (t : TypeId) (cs : List Value) (off : Nat) : Option Value :=
  match isAggT P t, sizeT P t with
  | some true, some n => match Nat.ble (off + n) cs.length with
    | true => some (.agg ((cs.drop off).take n).toArray)
    | false => none
  | some false, some _ => cs[off]?
  | _, _ => none

def fieldA (P : Program) (t : TypeId) (x : Value) (f : Nat) : Option Value :=
  match P.underlying t, x with
  | some (.struct fs), .agg cs => (fs[f]?).bind fun fd => partA P fd.type cs.toList fd.offset
  | _, _ => none

def indexA (P : Program) (t : TypeId) (x ix : Value) : Option Value :=
  match P.underlying t, x, natOf? ix with
  | some (.array len e), .agg cs, some i => match Nat.ble (i + 1) len, sizeT P e with
    | true, some n => partA P e cs.toList (i * n)
    | _, _ => none
  | some .string, .string s, some i => (s.data.toList[i]?).map fun b => .int .u8 b.toNat
  | _, _, _ => none

def makeSliceA (P : Program) (t : TypeId) (l c : Value) (id : Nat) (h : AHeap) : Option (Value × AHeap) :=
  match elemOfSlice P t, natOf? l, natOf? c with
  | some e, some l, some c => match sizeT P e, bytesT P e, zeroT P e with
    | some size, some bytes, some z =>
      match Nat.ble (c * bytes) (2 ^ 47), Nat.ble l c, Nat.ble c (2 ^ 47), Nat.beq z.cells.size size with
      | true, true, true, true => some (.slice (some ⟨id, 0, none⟩) l c, newBlk h id (repL c z.cells.toList) none)
      | _, _, _, _ => none
    | _, _, _ => none
  | _, _, _ => none

def rangeA (P : Program) (t : TypeId) (x : Value) (id : Nat) (h : AHeap) : Option (Value × AHeap) :=
  let p : Value := .pointer (some ⟨id, 0, none⟩)
  match P.underlying t, x with
  | some .string, .string s => some (p, h.set id (.strIter s 0))
  | some (.map _ _), .map none => some (p, h.set id (.mapIter none 0 #[] 0))
  | some (.map _ _), .map (some m) => match h.get m with
    | some (.map _ clock) => some (p, h.set id (.mapIter (some m) clock #[] clock))
    | _ => none
  | _, _ => none

def entryA (iter : Value) (h : AHeap) : Option Value :=
  match iter with
  | .pointer (some ⟨r, 0, _⟩) => match h.get r with
    | some (.mapIter (some m) _ seen stepped) => match seen.back?, h.get m with
      | some stamp, some (.map es clock) => match Nat.beq clock stepped with
        | true => match es.find? (·.born == stamp) with
          | some e => some (.tuple #[e.key, e.val])
          | none => none
        | false => none
      | _, _ => none
    | _ => none
  | _ => none

def builtinA (P : Program) (ρ : Operand → Value) (o : Oper) (b : Builtin) (c : Call) (id : Nat) (h : AHeap) : Option (Value × AHeap) :=
  match b with
  | .append => appendOp P c.argTypes (c.args.toList.map ρ) id h
  | .copy => copyOp P c.argTypes (c.args.toList.map ρ) h
  | .clear => clearOp P c.argTypes (c.args.toList.map ρ) h
  | .delete => match c.args.toList.map ρ, c.argTypes.toList with
    | m :: k :: _, t :: _ => deleteA P t m k h
    | _, _ => none
  | .len => match c.args.toList.map ρ, c.argTypes.toList with
    | x :: _, t :: _ => match x with
      | .agg _ | .pointer _ => (pureOp P ρ o).map (·, h)
      | _ => (lenA P t h x).map (·, h)
    | _, _ => none
  | .cap => match c.args.toList.map ρ, c.argTypes.toList with
    | x :: _, t :: _ => (capA P t h x).map (·, h)
    | _, _ => none
  | .max | .min => (pureOp P ρ o).map (·, h)
  | _ => none

/-- One operation that is neither a call of a function nor a 'defer' nor a step of an iterator. -/
def aOp (P : Program) (ρ : Operand → Value) (o : Oper) (id : Nat) (h : AHeap) : Option (Value × AHeap) :=
  match o.op with
  | .move x | .assign x => some (ρ x, h)
  | .pick c a b => match ρ c with
    | .bool true => some (ρ a, h)
    | .bool false => some (ρ b, h)
    | _ => none
  | .alloc e => (zeroT P e).map fun z => (.pointer (some ⟨id, 0, none⟩), newBlk h id z.cells.toList none)
  | .box _ x => some (.pointer (some ⟨id, 0, none⟩), newBlk h id (ρ x).cells.toList none)
  | .build t ps => (buildA P t (ps.toList.map fun (i, x) => (i, ρ x))).map (·, h)
  | .buildSlice t len ps => match elemOfSlice P t with
    | none => none
    | some e => match sizeT P e, zeroT P e with
      | some size, some z => match Nat.ble (len * size) (2 ^ 24), Nat.beq z.cells.size size with
        | true, true => match Instr.fill (fun i => some (i * size, size)) (repL len z.cells.toList).toArray (ps.toList.map fun (i, x) => (i, ρ x)) with
          | some cs => some (.slice (some ⟨id, 0, none⟩) len len, litRow h id cs.toList)
          | none => none
        | _, _ => none
      | _, _ => none
  | .load t a => (loadA P t (ρ a) h).map (·, h)
  | .store t a x => (storeA P t (ρ a) (ρ x) h).map (undef, ·)
  | .nilCheck x => match ρ x with
    | .pointer (some a) => some (.pointer (some a), h)
    | .func (.func f) a b => some (.func (.func f) a b, h)
    | _ => none
  | .binOp op t x y _ => (binA P ρ o op t x y h).map (·, h)
  | .unOp _ _ _ => (pureOp P ρ o).map (·, h)
  | .convert src dst x => convertA P src dst (ρ x) id h
  | .makeInterface t x => match P.underlying t with
    | some (.interface _) => none
    | some _ => some (.iface t (ρ x), h)
    | none => none
  | .makeFunc fn first captured => match fn with
    | .func f => some (.func (.func f) (first.map ρ) (captured.map ρ), h)
    | _ => none
  | .makeMap t r => match r with
    | none => some (.map (some id), h.set id (.map [] 0))
    | some x => match P.underlying t, ρ x with
      | some (.map _ _), .int _ _ => some (.map (some id), h.set id (.map [] 0))
      | _, _ => none
  | .makeSlice t l c => makeSliceA P t (ρ l) (ρ c) id h
  | .slice t x lo hi mx => match ρ x with
    | .string _ => (pureOp P ρ o).map (·, h)
    | _ => (sliceA P t (ρ x) (lo.map ρ) (hi.map ρ) (mx.map ρ) h).map (·, h)
  | .fieldAddr s x f => (fieldAddrA P s (ρ x) f).map (·, h)
  | .field t x f => (fieldA P t (ρ x) f).map (·, h)
  | .indexAddr t x i => (indexAddrA P t (ρ x) (ρ i)).map (·, h)
  | .index t x i => (indexA P t (ρ x) (ρ i)).map (·, h)
  | .lookup t m k ok => (lookupA P t (ρ m) (ρ k) ok h).map (·, h)
  | .mapUpdate t m k v => (mapPutA P t (ρ m) (ρ k) (ρ v) h).map (undef, ·)
  | .mapEntry t m k => mapEntryA P t (ρ m) (ρ k) h
  | .entryStore _ m s v => (entryStoreA (ρ m) (ρ s) (ρ v) h).map (undef, ·)
  | .range t x => rangeA P t (ρ x) id h
  | .entry it => (entryA (ρ it) h).map (·, h)
  | .extract x i => match ρ x with
    | .tuple vs => (vs.toList[i]?).map (·, h)
    | _ => none
  | .call { callee := .builtin b, args, argTypes } => builtinA P ρ o b { callee := .builtin b, args, argTypes } id h
  | _ => none

inductive Job where
  | call (f : FuncId) (args : List Value)
  | round (l : Nat) (args : List Value)

/-- What is asked of a call: for what becomes of it. -/
abbrev Caller := Job → (Value → AHeap → Prop) → AHeap → Prop
abbrev ActPost := Exit → AAct → AHeap → Prop
abbrev Looper := (AAct → ActPost → AHeap → Prop) → AAct → ActPost → AHeap → Prop

def callV (X : Caller) (fv : Value) (args : List Value) (K : Value → AHeap → Prop) (h : AHeap) : Prop :=
  match fv with
  | .func (.func f) first cap => X (.call f (first.toList ++ args ++ cap.toList)) K h
  | .func (.yield l) first _ => X (.round l (first.toList ++ args)) K h
  | _ => False

def callF (X : Caller) (fv : Value) (args : List Value) (K : Value → AHeap → Prop) (h : AHeap) : Prop :=
  match fv with
  | .func (.func f) first cap => X (.call f (first.toList ++ args ++ cap.toList)) K h
  | _ => False

/-- The step of an iterator: over a string one; over a map whichever entry is left. -/
def nextA (iter : Value) (isString : Bool) (K : Value → AHeap → Prop) (h : AHeap) : Prop :=
  match iter with
  | .pointer (some ⟨r, 0, _⟩) => match h.get r, isString with
    | some (.strIter s pos), true => match Nat.ble (pos + 1) s.size with
      | true => K (.tuple #[.bool true, goInt pos, .int .i32 (Utf8.decode s pos).1]) (h.set r (.strIter s (pos + (Utf8.decode s pos).2)))
      | false => K (.tuple #[.bool false]) h
    | some (.mapIter none _ _ _), false => K (.tuple #[.bool false]) h
    | some (.mapIter (some m) since seen last), false => match h.get m with
      | some (.map es clock) =>
        let left := es.filter fun e => !seen.contains e.born
        (¬ (seen.isEmpty = false ∧ es.isEmpty = false ∧ es.all (fun e => decide (e.born ≥ last)) = true)) ∧
        (∀ e ∈ left, K (.tuple #[.bool true, e.key, e.val]) (h.set r (.mapIter (some m) since (seen.push e.born) clock))) ∧
        ((left.filter fun e => decide (e.born < since)) = [] → K (.tuple #[.bool false]) h)
      | _ => False
    | _, _ => False
  | _ => False

/-- A method of a type, whose receiver is a pointer. -/
def methA (P : Program) (t : TypeId) (name : String) : Option FuncId :=
  match P.info? t with
  | some i => match i.methods.find? (·.name == name) with
    | some m => match m.path.toList, m.func, P.underlying t with
      | [], some (f, true), some (.pointer _) => some f
      | _, _, _ => none
    | none => none
  | none => none

def callM (P : Program) (X : Caller) (rv : Value) (name : String) (args : List Value) (K : Value → AHeap → Prop) (h : AHeap) : Prop :=
  match rv with
  | .iface t v => match methA P t name with
    | some f => X (.call f (v :: args)) K h
    | none => False
  | _ => False

def aOpK (P : Program) (X : Caller) (rnd : Bool) (o : Oper) (id : Nat) (a : AAct) (h : AHeap) (K : Value → AAct → AHeap → Prop) : Prop :=
  match o.op with
  | .call { callee := .value f, args, .. } => callV X (a.eval f) (args.toList.map a.eval) (fun v h' => K v a h') h
  | .call { callee := .invoke r name, args, .. } => callM P X (a.eval r) name (args.toList.map a.eval) (fun v h' => K v a h') h
  | .defer { callee := .value f, args, .. } => match rnd, a.eval f with
    | false, .func _ _ _ => K undef { a with defers := (a.eval f, args.toList.map a.eval) :: a.defers } h
    | _, _ => False
  | .next it s => nextA (a.eval it) s (fun v h' => K v a h') h
  | _ => match aOp P a.eval o id h with
    | some (v, h') => K v a h'
    | none => False

def isEff (o : Oper) : Bool :=
  match o.op with
  | .store .. | .mapUpdate .. | .insert .. | .entryStore .. | .mapEntry .. | .range .. | .next .. | .defer _ | .go _ | .panic _ | .send .. | .recv .. | .select .. | .ready _ => true
  | .call { callee := .builtin b, .. } => match b with | .len | .cap | .min | .max => false | _ => true
  | .call _ => true
  | _ => false

def isRead (o : Oper) : Bool :=
  match o.op with
  | .load .. | .lookup .. | .convert .. | .entry _ | .slice .. => true
  | .binOp op _ _ _ _ => match op with | .eql | .neq => true | _ => false
  | .call { callee := .builtin .len, .. } => true
  | .call { callee := .builtin .cap, .. } => true
  | _ => false

/-- The order in which a region whose order is open is gone through: whatever has no effect as early as it may. -/
def asapPick (ops : Array Oper) (bef : Array Nat) (done : Nat) : List Nat → Option Nat
  | [] => none
  | i :: r => match Nat.beq ((bef.getD i 0) &&& done) (bef.getD i 0) with
    | true => some i
    | false => asapPick ops bef done r

def asapGo (ops : Array Oper) (bef : Array Nat) : Nat → List Nat → List Nat → Nat → List Nat
  | 0, _, _, _ => []
  | f + 1, quiet, loud, done =>
    match asapPick ops bef done quiet with
    | some i => i :: asapGo ops bef f (quiet.erase i) loud (done ||| 2 ^ i)
    | none => match loud with
      | [] => []
      | i :: r => i :: asapGo ops bef f quiet r (done ||| 2 ^ i)

def quietOf (ops : Array Oper) : List Nat := (List.range ops.size).filter fun i => match ops[i]? with | some o => !isEff o | none => false
def loudOf (ops : Array Oper) : List Nat := (List.range ops.size).filter fun i => match ops[i]? with | some o => isEff o | none => false
def asap (ops : Array Oper) : List Nat := asapGo ops (Region.before ops) ops.size (quietOf ops) (loudOf ops) 0

structure ReadRec where
  i : Nat
  o : Oper
  ρ : Operand → Value
  v : Value

/-- What has been read and may still be read behind this effect reads as before. -/
def checks (P : Program) (base before : Nat) (h : AHeap) : List ReadRec → Bool
  | [] => true
  | r :: rest => match Nat.testBit before r.i with
    | true => checks P base before h rest
    | false => match aOp P r.ρ r.o (base + r.i) h with
      | some (v, _) => beqR v r.v && checks P base before h rest
      | none => false

def wantedA (ops : Array Oper) (o : Oper) (env : Nat → Value) : Bool :=
  match o.guard with
  | none => true
  | some (j, want) => match ops[j]? with
    | some oj => match oj.dst with
      | some d => match env d with
        | .bool b => b == want
        | _ => false
      | none => false
    | none => false

def aOps (P : Program) (X : Caller) (rnd : Bool) (draw : Bool) (ops : Array Oper) (bef : Array Nat) (base : Nat) : List Nat → List ReadRec → AAct → (AAct → AHeap → Prop) → AHeap → Prop
  | [], _, a, K, h => K a h
  | i :: rest, rd, a, K, h => match ops[i]? with
    | none => False
    | some o => match wantedA ops o a.env with
      | false => aOps P X rnd draw ops bef base rest rd (a.put o.dst undef) K h
      | true => aOpK P X rnd o (base + i) a h fun v a' h' =>
        match draw with
        | false => aOps P X rnd draw ops bef base rest rd (a'.put o.dst v) K h'
        | true => match isEff o with
          | true => match checks P base (bef.getD i 0) h' rd with
            | true => aOps P X rnd draw ops bef base rest rd (a'.put o.dst v) K h'
            | false => False
          | false => aOps P X rnd draw ops bef base rest (match isRead o with | true => ⟨i, o, a.eval, v⟩ :: rd | false => rd) (a'.put o.dst v) K h'

def aRegion (P : Program) (X : Caller) (rnd : Bool) (ops : Array Oper) (draw : Bool) (a : AAct) (K : AAct → AHeap → Prop) (h : AHeap) : Prop :=
  match draw with
  | false => aOps P X rnd false ops #[] h.next (List.range ops.size) [] a K (h.bump ops.size)
  | true => aOps P X rnd true ops (Region.before ops) h.next (asap ops) [] a K (h.bump ops.size)

def jumpK (a : AAct) (K : ActPost) : Option Code → AHeap → Prop
  | none => K .normal a
  | some .ret => K .ret a
  | some (.exit id) => K (.exit id) a
  | some _ => fun _ => False

def aCode (P : Program) (X : Caller) (L : Looper) (rnd : Bool) : Code → AAct → ActPost → AHeap → Prop
  | .skip, a, K, h => K .normal a h
  | .label _, a, K, h => K .normal a h
  | .region _ ops draw, a, K, h => aRegion P X rnd ops draw a (K .normal) h
  | .seq x y, a, K, h => aCode P X L rnd x a (fun e a' h' => match e with
      | .normal => aCode P X L rnd y a' K h'
      | e => K e a' h') h
  | .cond c x y, a, K, h => match a.eval c with
    | .bool true => aCode P X L rnd x a K h
    | .bool false => aCode P X L rnd y a K h
    | _ => False
  | .block id c, a, K, h => aCode P X L rnd c a (fun e a' h' => match e with
      | .exit id' => match Nat.beq id' id with
        | true => K .normal a' h'
        | false => K (.exit id') a' h'
      | e => K e a' h') h
  | .loop c, a, K, h => L (aCode P X L rnd c) a K h
  | .exit id, a, K, h => K (.exit id) a h
  | .ret, a, K, h => K .ret a h
  | .rangeFunc f ps assign body, a, K, h =>
    callF X (a.eval f) [.func (.yield h.next) #[] #[]] (fun _ h' =>
      match h'.get h.next with
      | some (.loop r) => match r.state with
        | .busy => False
        | _ => jumpK a K r.pending (h'.set h.next (.loop { r with state := .exhausted }))
      | _ => False) ((h.bump 1).set h.next (.loop { state := .ready, pending := none, tmps := a.env, params := ps.toList, assign := assign, body := body }))
  | _, _, _, _ => False

def argsEnv (args : List Value) : Nat → Value := fun t => args.getD t undef

def resultA (P : Program) (a : AAct) (h : AHeap) : ResultVar → Option Value
  | .tmp t => some (a.env t)
  | .cell t ty => loadA P ty (a.env t) h

def resultsA (P : Program) (a : AAct) (h : AHeap) : List ResultVar → Option (List Value)
  | [] => some []
  | r :: rest => match resultA P a h r, resultsA P a h rest with
    | some v, some l => some (v :: l)
    | _, _ => none

def tupleOf : List Value → Value
  | [v] => v
  | l => .tuple l.toArray

/-- A function's end: what it has put off is called, the last first; then its results are read. -/
def leaveA (P : Program) (X : Caller) (fn : Func) (a : AAct) (K : Value → AHeap → Prop) : List (Value × List Value) → AHeap → Prop
  | [], h => match resultsA P a h fn.results.toList with
    | some l => K (tupleOf l) h
    | none => False
  | (f, args) :: ds, h => callF X f args (fun _ h' => leaveA P X fn a K ds h') h

def setParams (e : Nat → Value) : List Tmp → List Value → (Nat → Value)
  | t :: ts, v :: vs => setParams (upd e t v) ts vs
  | _, _ => e

def endRoundA (l : Nat) (jump : Option Code) (K : Value → AHeap → Prop) (h : AHeap) : Prop :=
  match h.get l with
  | some (.loop r) => match jump with
    | none => K (.bool true) (h.set l (.loop { r with state := .ready, pending := none }))
    | some j => K (.bool false) (h.set l (.loop { r with state := .done, pending := some j }))
  | _ => False

def aJob (P : Program) (X : Caller) (L : Looper) : Caller
  | .call f args, K, h => match P.funcs[f]? with
    | none => False
    | some fn => match fn.body with
      | none => False
      | some c => match Nat.ble args.length fn.ntmps with
        | false => False
        | true => aCode P X L false c ⟨argsEnv args, []⟩ (fun e a h' => match e with
          | .normal | .ret => leaveA P X fn a K a.defers h'
          | _ => False) h
  | .round l args, K, h => match h.get l with
    | some (.loop r) => match r.state, Nat.beq args.length r.params.length with
      | .ready, true =>
        aCode P X L true r.assign ⟨setParams r.tmps r.params args, []⟩ (fun e a₁ h₁ => match e with
          | .normal => match h₁.get l with
            | some (.loop r₁) => match r₁.state with
              | .ready => aCode P X L true r.body a₁ (fun e₂ _ h₂ => match e₂ with
                  | .normal => endRoundA l none K h₂
                  | .ret => endRoundA l (some .ret) K h₂
                  | .exit id => endRoundA l (some (.exit id)) K h₂
                  | _ => False) (h₁.set l (.loop { r₁ with state := .busy }))
              | _ => False
            | _ => False
          | _ => False) h
      | _, _ => False
    | _ => False

/-! ### The least loops and calls -/
def loopA : Looper := fun B a K h =>
  ∀ Y : AAct → AHeap → Prop, (∀ a h, B a (fun e a' h' => match e with | .normal => Y a' h' | e => K e a' h') h → Y a h) → Y a h

def Caller.Mono (X : Caller) : Prop := ∀ j K K' h, (∀ v h', K v h' → K' v h') → X j K h → X j K' h

def callA (P : Program) : Caller := fun j K h =>
  ∀ X : Caller, X.Mono → (∀ j K h, aJob P X loopA j K h → X j K h) → X j K h

/-! ### The same by a number of rounds, to be run -/
def loopN : Nat → Looper
  | 0, _, _, _, _ => False
  | n + 1, B, a, K, h => B a (fun e a' h' => match e with | .normal => loopN n B a' K h' | e => K e a' h') h

def callN (P : Program) : Nat → Caller
  | 0, _, _, _ => False
  | n + 1, j, K, h => aJob P (callN P n) (loopN n) j K h

/-! ### What is asked of a code, once -/
def constOk (v : Value) : Bool := scalar v || (match v with | .tuple cs => cs.isEmpty | _ => false)

def opndOk (gok : Nat → Bool) : Operand → Bool
  | .tmp _ | .func _ => true
  | .const v => constOk v
  | .global g => gok g

def operOk (gok : Nat → Bool) (N : Nat) (o : Oper) : Bool :=
  (match o.dst with | some d => Nat.ble (d + 1) N | none => true) && o.op.operands.toList.all (opndOk gok)

def tmpOf : Operand → Option Tmp
  | .tmp t => some t
  | _ => none

def guardTmp (ops : Array Oper) (o : Oper) : Option Tmp :=
  match o.guard with
  | some (j, _) => match ops[j]? with
    | some oj => oj.dst
    | none => none
  | none => none

def namesOf (ops : Array Oper) (o : Oper) : List Tmp := o.dst.toList ++ (o.op.operands.toList.filterMap tmpOf ++ (guardTmp ops o).toList)

def pairOk (ops : Array Oper) (bef : Array Nat) (i : Nat) (o : Oper) (j : Nat) (oj : Oper) : Bool :=
  Nat.beq i j ||
  ((match o.dst with | none => true | some d => !(namesOf ops oj).contains d || (Nat.testBit (bef.getD j 0) i || Nat.testBit (bef.getD i 0) j)) &&
   (!(isEff o && (isEff oj && Nat.ble (i + 1) j)) || Nat.testBit (bef.getD j 0) i))

/-- A region whose order is open: its effects stand in one order; whoever names a temporary is ordered against whoever writes it. -/
def regOk (ops : Array Oper) : Bool :=
  let bef := Region.before ops
  (List.range ops.size).all fun i => match ops[i]? with
    | none => false
    | some o => (o.after.toList.all fun e => !Region.binds .any e || Nat.ble (e.on + 1) i) &&
      ((match o.guard with | none => true | some (j, _) => Nat.testBit (bef.getD i 0) j) &&
      ((List.range ops.size).all fun j => match ops[j]? with
        | none => false
        | some oj => pairOk ops bef i o j oj))

def Code.ok (gok : Nat → Bool) (N : Nat) : Code → Bool
  | .region _ ops draw => ops.toList.all (operOk gok N) && (!draw || regOk ops)
  | .seq a b => Code.ok gok N a && Code.ok gok N b
  | .cond c a b => opndOk gok c && (Code.ok gok N a && Code.ok gok N b)
  | .block _ b | .loop b => Code.ok gok N b
  | .rangeFunc f ps a b => opndOk gok f && ((ps.toList.all fun p => Nat.ble (p + 1) N) && (Code.ok gok N a && Code.ok gok N b))
  | _ => true

def Func.ok (gok : Nat → Bool) (fn : Func) : Bool :=
  match fn.body with
  | none => true
  | some c => Code.ok gok fn.ntmps c && !(fn.name == "runtime.NumGoroutine")

end Go.Cub
