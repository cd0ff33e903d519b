/- Words of the shallow reading: what one operation does, by values; a function's text in them is equal to its run by definition. -/
import Derived.Test.YtdlnbmadifgbkaaGreatDoorCubS24
import Derived.KernelRfl
namespace Go.Cub
set_option linter.unusedVariables false
set_option linter.unusedSimpArgs false
open Go

def upds : (Nat → Value) → List (Nat × Value) → (Nat → Value)
  | e, [] => e
  | e, (t, v) :: r => upds (upd e t v) r

def opK (r : Option (Value × AHeap)) (k : Value → AHeap → Prop) : Prop :=
  match r with
  | some (v, h) => k v h
  | none => False

def rdK (r : Option Value) (h : AHeap) (k : Value → AHeap → Prop) : Prop := opK (r.map (·, h)) k
def stK (r : Option AHeap) (k : AHeap → Prop) : Prop := opK (r.map (undef, ·)) fun _ h => k h
def gopK (g : Bool) (h : AHeap) (r : Option (Value × AHeap)) (k : Value → AHeap → Prop) : Prop :=
  match g with
  | false => k undef h
  | true => opK r k
def gcallK (g : Bool) (X : Caller) (j : Job) (h : AHeap) (k : Value → AHeap → Prop) : Prop :=
  match g with
  | false => k undef h
  | true => X j k h
def gcallvK (g : Bool) (X : Caller) (f : Value) (args : List Value) (h : AHeap) (k : Value → AHeap → Prop) : Prop :=
  match g with
  | false => k undef h
  | true => callV X f args k h
def condK (c : Value) (A B : Prop) : Prop :=
  match c with
  | .bool true => A
  | .bool false => B
  | _ => False
def exK (b : Bool) (A B : Prop) : Prop :=
  match b with
  | true => A
  | false => B
/-- What becomes of a code's ends, where another one follows; around a block; at a function's end. -/
def seqX (kn : AAct → AHeap → Prop) (K : ActPost) : ActPost := fun e a h =>
  match e with
  | .normal => kn a h
  | e => K e a h
def blkX (id : Nat) (K : ActPost) : ActPost := fun e a h =>
  match e with
  | .exit id' => match Nat.beq id' id with
    | true => K .normal a h
    | false => K (.exit id') a h
  | e => K e a h
def finX (P : Program) (X : Caller) (fn : Func) (K : Value → AHeap → Prop) : ActPost := fun e a h =>
  match e with
  | .normal | .ret => leaveA P X fn a K a.defers h
  | _ => False
def regK (n : Nat) (h : AHeap) (k : Nat → AHeap → Prop) : Prop := k h.next (h.bump n)
def wantV (v : Value) (w : Bool) : Bool :=
  match v with
  | .bool b => b == w
  | _ => false
def retK (l : Option (List Value)) (K : Value → AHeap → Prop) (h : AHeap) : Prop :=
  match l with
  | some l => K (tupleOf l) h
  | none => False
def consR (a : Option Value) (b : Option (List Value)) : Option (List Value) :=
  match a, b with
  | some v, some l => some (v :: l)
  | _, _ => none
def chkR (r : Option (Value × AHeap)) (v : Value) (c : Bool) : Bool :=
  match r with
  | some (w, _) => beqR w v && c
  | none => false
def chkK (b : Bool) (k : Prop) : Prop :=
  match b with
  | true => k
  | false => False

def ld1 (x : Value) (h : AHeap) : Option Value :=
  match x with
  | .pointer (some a) => (getCells h a 1).bind fun l => l[0]?
  | _ => none
def ldN (n : Nat) (x : Value) (h : AHeap) : Option Value :=
  match x with
  | .pointer (some a) => (getCells h a n).map fun l => .agg l.toArray
  | _ => none
def stV (n : Nat) (x v : Value) (h : AHeap) : Option AHeap :=
  match x with
  | .pointer (some a) => match Nat.beq v.cells.size n with
    | true => setCells h a v.cells.toList
    | false => none
  | _ => none
def pickV (c a b : Value) (h : AHeap) : Option (Value × AHeap) :=
  match c with
  | .bool true => some (a, h)
  | .bool false => some (b, h)
  | _ => none
def newV (cs : List Value) (id : Nat) (h : AHeap) : Option (Value × AHeap) := some (.pointer (some ⟨id, 0, none⟩), newBlk h id cs none)
def boxV (x : Value) (id : Nat) (h : AHeap) : Option (Value × AHeap) := some (.pointer (some ⟨id, 0, none⟩), newBlk h id x.cells.toList none)
def mapV (id : Nat) (h : AHeap) : Option (Value × AHeap) := some (.map (some id), h.set id (.map [] 0))
def nilV (x : Value) (h : AHeap) : Option (Value × AHeap) :=
  match x with
  | .pointer (some a) => some (.pointer (some a), h)
  | .func (.func f) a b => some (.func (.func f) a b, h)
  | _ => none
def extV (i : Nat) (x : Value) (h : AHeap) : Option (Value × AHeap) :=
  match x with
  | .tuple vs => (vs.toList[i]?).map (·, h)
  | _ => none
def fAddr (off : Nat) (x : Value) : Option Value :=
  match x with
  | .pointer (some a) => some (.pointer (some (a.add off)))
  | _ => none
def ixG (u : Option TypeDesc) (z : TypeId → Option Nat) (x ix : Value) : Option Value :=
  match u, x, natOf? ix with
  | some (.slice e), .slice (some a) len _, some i => match Nat.ble (i + 1) len, z e with
    | true, some n => some (.pointer (some (a.add (i * n))))
    | _, _ => none
  | some (.array len e), .pointer (some a), some i => match Nat.ble (i + 1) len, z e with
    | true, some n => some (.pointer (some (a.add (i * n))))
    | _, _ => none
  | _, _, _ => none
def ixS (n : Nat) (x ix : Value) : Option Value := ixG (some (.slice 0)) (fun _ => some n) x ix
def ixR (len n : Nat) (x ix : Value) : Option Value := ixG (some (.array len 0)) (fun _ => some n) x ix
def fld1 (off : Nat) (x : Value) : Option Value :=
  match x with
  | .agg cs => cs.toList[off]?
  | _ => none
def fldN (off n : Nat) (x : Value) : Option Value :=
  match x with
  | .agg cs => match Nat.ble (off + n) cs.toList.length with
    | true => some (.agg ((cs.toList.drop off).take n).toArray)
    | false => none
  | _ => none

def opr (op : Op) : Oper := ⟨none, op, 0, "", #[], none⟩
def evL (l : List Value) : Operand → Value
  | .tmp t => l.getD t undef
  | .const v => v
  | .global g => .pointer (some ⟨g, 0, none⟩)
  | .func f => .func (.func f) #[] #[]
def binV (P : Program) (op : BinOp) (t u : TypeId) (x y : Value) (h : AHeap) : Option Value :=
  binA P (evL [x, y]) (opr (.binOp op t (.tmp 0) (.tmp 1) u)) op t (.tmp 0) (.tmp 1) h
/-- The same with a constant on the right. -/
def binC (P : Program) (op : BinOp) (t u : TypeId) (x c : Value) (h : AHeap) : Option Value :=
  binA P (evL [x]) (opr (.binOp op t (.tmp 0) (.const c) u)) op t (.tmp 0) (.const c) h
def binD (P : Program) (op : BinOp) (t u : TypeId) (c x : Value) (h : AHeap) : Option Value :=
  binA P (evL [x]) (opr (.binOp op t (.const c) (.tmp 0) u)) op t (.const c) (.tmp 0) h
def unV (P : Program) (op : UnOp) (t : TypeId) (x : Value) : Option Value := pureOp P (evL [x]) (opr (.unOp op t (.tmp 0)))
/-- Bounds of a cut: which stand. -/
def cutOp (t : TypeId) (l h m : Bool) : Op := .slice t (.tmp 0) (if l then some (.tmp 1) else none) (if h then some (.tmp 2) else none) (if m then some (.tmp 3) else none)
def sliceV (P : Program) (t : TypeId) (x : Value) (lo hi mx : Option Value) (h : AHeap) : Option (Value × AHeap) :=
  match x with
  | .string _ => (pureOp P (evL [x, lo.getD undef, hi.getD undef, mx.getD undef]) (opr (cutOp t lo.isSome hi.isSome mx.isSome))).map (·, h)
  | _ => (sliceA P t x lo hi mx h).map (·, h)
def tmps : Nat → List Operand
  | n => (List.range n).map .tmp
def builtinV (P : Program) (b : Builtin) (ts : List TypeId) (args : List Value) (id : Nat) (h : AHeap) : Option (Value × AHeap) :=
  builtinA P (evL args) (opr (.call ⟨.builtin b, (tmps args.length).toArray, ts.toArray⟩)) b ⟨.builtin b, (tmps args.length).toArray, ts.toArray⟩ id h
def bsliceV (P : Program) (t : TypeId) (len : Nat) (ps : List (Nat × Value)) (id : Nat) (h : AHeap) : Option (Value × AHeap) :=
  match elemOfSlice P t with
    | none => none
    | some e => match sizeT P e, zeroT P e with
      | some size, some z => match Nat.ble (len * size) (2 ^ 24), Nat.beq z.cells.size size with
        | true, true => match Instr.fill (fun i => some (i * size, size)) (repL len z.cells.toList).toArray ps with
          | some cs => some (.slice (some ⟨id, 0, none⟩) len len, litRow h id cs.toList)
          | none => none
        | _, _ => none
      | _, _ => none
def mkmapV (P : Program) (t : TypeId) (x : Value) (id : Nat) (h : AHeap) : Option (Value × AHeap) :=
  match P.underlying t, x with
      | some (.map _ _), .int _ _ => some (.map (some id), h.set id (.map [] 0))
      | _, _ => none

def rangeK (X : Caller) (fv : Value) (a : AAct) (ps : List Tmp) (as bd : Code) (K : ActPost) (h : AHeap) : Prop :=
    callF X fv [.func (.yield h.next) #[] #[]] (fun _ h' =>
      match h'.get h.next with
      | some (.loop r) => match r.state with
        | .busy => False
        | _ => jumpK a K r.pending (h'.set h.next (.loop { r with state := .exhausted }))
      | _ => False) ((h.bump 1).set h.next (.loop { state := .ready, pending := none, tmps := a.env, params := ps, assign := as, body := bd }))

/-- The bodies of a code's ranges over functions, in the order of the text. -/
def rangesL : Code → List (Code × Code)
  | .seq a b => rangesL a ++ rangesL b
  | .cond _ a b => rangesL a ++ rangesL b
  | .block _ b | .loop b => rangesL b
  | .rangeFunc _ _ a b => (a, b) :: (rangesL a ++ rangesL b)
  | _ => []
def rangesF (f : Func) (k : Nat) : Code × Code :=
  match f.body with
  | some c => ((rangesL c)[k]?).getD (.skip, .skip)
  | none => (.skip, .skip)
end Go.Cub
