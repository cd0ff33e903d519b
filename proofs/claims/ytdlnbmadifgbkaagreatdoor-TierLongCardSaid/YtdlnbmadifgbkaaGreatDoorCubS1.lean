/- How the abstract machine's values and heaps stand to the model's. -/
import Derived.Test.YtdlnbmadifgbkaaGreatDoorCubA
import Derived.Laws.Sem
namespace Go.Cub
set_option linter.unusedVariables false
set_option linter.unusedSimpArgs false
open Go

inductive Kd where
  | cells | map | loop | str | iter
  deriving DecidableEq

/-- Where an abstract block lies: the block, how far from its head, how many cells, open at its end (the size of an element), how many cells the block has. -/
structure Tgt where
  kd : Kd
  j : Nat
  sh : Nat
  n : Nat
  opn : Option Nat
  csz : Nat

/-- none: nowhere · some none: lost · some (some t): there. -/
abbrev AMap := Nat → Option (Option Tgt)

def RRel (m : AMap) (i j : Nat) : Prop := m i = some none ∨ ∃ t, m i = some (some t) ∧ t.j = j

def PRel (m : AMap) (a b : Addr) : Prop :=
  m a.block = some none ∨ ∃ t, m a.block = some (some t) ∧ b = ⟨t.j, t.sh + a.off, a.spot⟩

def SRel (m : AMap) (a b : Addr) (len cap cap' : Nat) : Prop :=
  m a.block = some none ∨ ∃ t, m a.block = some (some t) ∧ a.spot = none ∧ b.spot = none ∧ b.block = t.j ∧ len ≤ cap ∧ cap ≤ cap' ∧
    t.sh ≤ b.off ∧ (cap = 0 ∨ b.off = t.sh + a.off) ∧ (cap' = cap ∨ ∃ z, t.opn = some z ∧ a.off + cap * z = t.n ∧ b.off + cap' * z ≤ t.csz)

def FnRel (m : AMap) : Fn → Fn → Prop
  | .yield l, .yield l' => RRel m l l'
  | .yield _, _ => False
  | f, f' => f' = f

inductive VRel (m : AMap) : Value → Value → Prop
  | atom {v : Value} (h : isAtom v = true) : VRel m v v
  | ptr {a b : Addr} (h : PRel m a b) : VRel m (.pointer (some a)) (.pointer (some b))
  | slice {a b : Addr} {len cap cap' : Nat} (h : SRel m a b len cap cap') : VRel m (.slice (some a) len cap) (.slice (some b) len cap')
  | map {i j : Nat} (h : RRel m i j) : VRel m (.map (some i)) (.map (some j))
  | func {fn fn' : Fn} {x x' y y' : Array Value} (h : FnRel m fn fn') (hx : x.size = x'.size) (hx' : ∀ (i : Nat) (u u' : Value), x[i]? = some u → x'[i]? = some u' → VRel m u u')
      (hy : y.size = y'.size) (hy' : ∀ (i : Nat) (u u' : Value), y[i]? = some u → y'[i]? = some u' → VRel m u u') : VRel m (.func fn x y) (.func fn' x' y')
  | iface {t : TypeId} {v v' : Value} (h : VRel m v v') : VRel m (.iface t v) (.iface t v')
  | agg {x x' : Array Value} (hx : x.size = x'.size) (hx' : ∀ (i : Nat) (u u' : Value), x[i]? = some u → x'[i]? = some u' → VRel m u u') : VRel m (.agg x) (.agg x')
  | tuple {x x' : Array Value} (hx : x.size = x'.size) (hx' : ∀ (i : Nat) (u u' : Value), x[i]? = some u → x'[i]? = some u' → VRel m u u') : VRel m (.tuple x) (.tuple x')

/-! ### Lists of values -/
structure LRel (m : AMap) (l l' : List Value) : Prop where
  len : l.length = l'.length
  at_ : ∀ (i : Nat) u u', l[i]? = some u → l'[i]? = some u' → VRel m u u'

theorem LRel.nil {m : AMap} : LRel m [] [] := ⟨rfl, by simp⟩
theorem LRel.cons {m : AMap} {u u' : Value} {l l' : List Value} (h : VRel m u u') (hl : LRel m l l') : LRel m (u :: l) (u' :: l') :=
  ⟨by simp [hl.len], fun i a b ha hb => by
    cases i with
    | zero => simp at ha hb; subst ha; subst hb; exact h
    | succ i => simp at ha hb; exact hl.at_ i _ _ ha hb⟩
theorem LRel.of_cons {m : AMap} {u : Value} {l l' : List Value} (h : LRel m (u :: l) l') : ∃ u' r', l' = u' :: r' ∧ VRel m u u' ∧ LRel m l r' := by
  cases l' with
  | nil => have := h.len; simp at this
  | cons u' r' =>
    refine ⟨u', r', rfl, h.at_ 0 u u' rfl rfl, by simpa using h.len, fun i a b ha hb => h.at_ (i + 1) a b (by simpa using ha) (by simpa using hb)⟩
theorem LRel.of_nil {m : AMap} {l' : List Value} (h : LRel m [] l') : l' = [] := by
  have := h.len; cases l' <;> simp_all
theorem LRel.append {m : AMap} {l l' r r' : List Value} (h : LRel m l l') (k : LRel m r r') : LRel m (l ++ r) (l' ++ r') := by
  induction l generalizing l' with
  | nil => rw [h.of_nil]; exact k
  | cons u l ih => obtain ⟨u', t', rfl, hu, ht⟩ := h.of_cons; exact LRel.cons hu (ih ht)
theorem LRel.take {m : AMap} {l l' : List Value} (h : LRel m l l') (n : Nat) : LRel m (l.take n) (l'.take n) :=
  ⟨by simp [h.len], fun i a b ha hb => by
    rw [List.getElem?_take] at ha hb
    split at ha
    · exact h.at_ i a b ha (by simpa [*] using hb)
    · cases ha⟩
theorem LRel.drop {m : AMap} {l l' : List Value} (h : LRel m l l') (n : Nat) : LRel m (l.drop n) (l'.drop n) :=
  ⟨by simp [h.len], fun i a b ha hb => by rw [List.getElem?_drop] at ha hb; exact h.at_ _ a b ha hb⟩
theorem LRel.get {m : AMap} {l l' : List Value} (h : LRel m l l') {i : Nat} {u : Value} (hu : l[i]? = some u) : ∃ u', l'[i]? = some u' ∧ VRel m u u' := by
  have hi : i < l.length := (List.getElem?_eq_some_iff.1 hu).1
  have hi' : i < l'.length := h.len ▸ hi
  exact ⟨l'[i], by simp [hi'], h.at_ i _ _ hu (by simp [hi'])⟩
theorem LRel.get' {m : AMap} {l l' : List Value} (h : LRel m l l') {i : Nat} {u' : Value} (hu : l'[i]? = some u') : ∃ u, l[i]? = some u ∧ VRel m u u' := by
  have hi : i < l'.length := (List.getElem?_eq_some_iff.1 hu).1
  have hi' : i < l.length := h.len ▸ hi
  exact ⟨l[i], by simp [hi'], h.at_ i _ _ (by simp [hi']) hu⟩
theorem LRel.map {m : AMap} {α : Type} (l : List α) (f g : α → Value) (h : ∀ x ∈ l, VRel m (f x) (g x)) : LRel m (l.map f) (l.map g) := by
  induction l with
  | nil => exact .nil
  | cons a l ih => exact .cons (h a (by simp)) (ih fun x hx => h x (by simp [hx]))
theorem LRel.of_arr {m : AMap} {x x' : Array Value} (hx : x.size = x'.size) (hx' : ∀ (i : Nat) (u u' : Value), x[i]? = some u → x'[i]? = some u' → VRel m u u') : LRel m x.toList x'.toList :=
  ⟨by simpa using hx, fun i a b ha hb => hx' i a b (by simpa using ha) (by simpa using hb)⟩
theorem LRel.mem_all {m : AMap} {l l' : List Value} (h : LRel m l l') (p q : Value → Bool) (hpq : ∀ u u', VRel m u u' → p u = true → q u' = true) (ha : l.all p = true) : l'.all q = true := by
  induction l generalizing l' with
  | nil => rw [h.of_nil]; rfl
  | cons u l ih =>
    obtain ⟨u', t', rfl, hu, ht⟩ := h.of_cons
    simp only [List.all_cons, Bool.and_eq_true] at ha ⊢
    exact ⟨hpq _ _ hu ha.1, ih ht ha.2⟩

theorem VRel.aggL {m : AMap} {l l' : List Value} (h : LRel m l l') : VRel m (.agg l.toArray) (.agg l'.toArray) :=
  .agg (by simp [h.len]) fun i u u' a b => h.at_ i u u' (by simpa using a) (by simpa using b)
theorem VRel.tupleL {m : AMap} {l l' : List Value} (h : LRel m l l') : VRel m (.tuple l.toArray) (.tuple l'.toArray) :=
  .tuple (by simp [h.len]) fun i u u' a b => h.at_ i u u' (by simpa using a) (by simpa using b)
theorem VRel.undef {m : AMap} : VRel m undef undef := VRel.tupleL LRel.nil

/-! ### Plain values -/
theorem VRel.of_atom {m : AMap} {v v' : Value} (h : VRel m v v') (ha : isAtom v = true) : v' = v := by
  cases h <;> first | rfl | (simp [isAtom] at ha)

theorem VRel.refl_agg {m : AMap} {cs : Array Value} (h : cs.all isAtom = true) : VRel m (.agg cs) (.agg cs) :=
  .agg rfl fun i u u' a b => by
    rw [a] at b; cases b
    exact .atom (by
      obtain ⟨hi, e⟩ := Array.getElem?_eq_some_iff.1 a
      rw [Array.all_eq_true] at h; exact e ▸ h i hi)

theorem VRel.of_scalar {m : AMap} {v v' : Value} (h : VRel m v v') (hs : scalar v = true) : v' = v := by
  cases h with
  | agg hx hx' =>
    rename_i x x'
    simp only [scalar, Array.all_eq_true] at hs
    congr 1
    apply Array.ext
    · exact hx.symm
    · intro i h1 h2
      exact (hx' i x[i] x'[i] (by simp [h2]) (by simp [h1])).of_atom (hs i h2)
  | iface h => simp only [scalar] at hs; rw [h.of_atom hs]
  | _ => first | rfl | (simp [scalar, isAtom] at hs)

theorem VRel.of_scalar_self {m : AMap} {v : Value} (hs : scalar v = true) : VRel m v v := by
  cases v <;> simp only [scalar] at hs <;> first | exact .atom hs | exact .refl_agg hs | exact .iface (.atom hs)

theorem VRel.bool {m : AMap} {v' : Value} {b : Bool} (h : VRel m (.bool b) v') : v' = .bool b := h.of_atom rfl
theorem VRel.int {m : AMap} {v' : Value} {k : IntKind} {n : Int} (h : VRel m (.int k n) v') : v' = .int k n := h.of_atom rfl
theorem VRel.string {m : AMap} {v' : Value} {s : ByteArray} (h : VRel m (.string s) v') : v' = .string s := h.of_atom rfl
theorem VRel.bool' {m : AMap} {v : Value} {b : Bool} (h : VRel m v (.bool b)) : v = .bool b := by cases h; rfl
theorem VRel.agg_inv {m : AMap} {x : Array Value} {v' : Value} (h : VRel m (.agg x) v') : ∃ x', v' = .agg x' ∧ LRel m x.toList x'.toList := by
  cases h with
  | atom h => simp [isAtom] at h
  | agg hx hx' => exact ⟨_, rfl, .of_arr hx hx'⟩
theorem VRel.tuple_inv {m : AMap} {x : Array Value} {v' : Value} (h : VRel m (.tuple x) v') : ∃ x', v' = .tuple x' ∧ LRel m x.toList x'.toList := by
  cases h with
  | atom h => simp [isAtom] at h
  | tuple hx hx' => exact ⟨_, rfl, .of_arr hx hx'⟩
theorem VRel.ptr_inv {m : AMap} {a : Addr} {v' : Value} (h : VRel m (.pointer (some a)) v') : ∃ b, v' = .pointer (some b) ∧ PRel m a b := by
  cases h with
  | atom h => simp [isAtom] at h
  | ptr h => exact ⟨_, rfl, h⟩
theorem VRel.slice_inv {m : AMap} {a : Addr} {len cap : Nat} {v' : Value} (h : VRel m (.slice (some a) len cap) v') : ∃ b cap', v' = .slice (some b) len cap' ∧ SRel m a b len cap cap' := by
  cases h with
  | atom h => simp [isAtom] at h
  | slice h => exact ⟨_, _, rfl, h⟩
theorem VRel.map_inv {m : AMap} {i : Nat} {v' : Value} (h : VRel m (.map (some i)) v') : ∃ j, v' = .map (some j) ∧ RRel m i j := by
  cases h with
  | atom h => simp [isAtom] at h
  | map h => exact ⟨_, rfl, h⟩
theorem VRel.func_inv {m : AMap} {fn : Fn} {x y : Array Value} {v' : Value} (h : VRel m (.func fn x y) v') :
    ∃ fn' x' y', v' = .func fn' x' y' ∧ FnRel m fn fn' ∧ LRel m x.toList x'.toList ∧ LRel m y.toList y'.toList := by
  cases h with
  | atom h => simp [isAtom] at h
  | func h hx hx' hy hy' => exact ⟨_, _, _, rfl, h, .of_arr hx hx', .of_arr hy hy'⟩
theorem VRel.funcL {m : AMap} {fn fn' : Fn} {x y x' y' : Array Value} (h : FnRel m fn fn') (hx : LRel m x.toList x'.toList) (hy : LRel m y.toList y'.toList) : VRel m (.func fn x y) (.func fn' x' y') :=
  .func h (by simpa using hx.len) (fun i u u' a b => hx.at_ i u u' (by simpa using a) (by simpa using b)) (by simpa using hy.len) (fun i u u' a b => hy.at_ i u u' (by simpa using a) (by simpa using b))

theorem VRel.cells {m : AMap} {v v' : Value} (h : VRel m v v') : LRel m v.cells.toList v'.cells.toList := by
  have one : ∀ {a b : Value}, VRel m a b → (∀ x, a ≠ .agg x) → (∀ x, b ≠ .agg x) → LRel m a.cells.toList b.cells.toList := by
    intro a b hab ha hb
    have ea : a.cells = #[a] := by cases a <;> first | rfl | (exact absurd rfl (ha _))
    have eb : b.cells = #[b] := by cases b <;> first | rfl | (exact absurd rfl (hb _))
    rw [ea, eb]; exact .cons hab .nil
  cases h with
  | agg hx hx' => exact .of_arr hx hx'
  | atom ha =>
    have hn : ∀ x, v ≠ .agg x := by rintro x rfl; simp [isAtom] at ha
    exact one (.atom ha) hn hn
  | ptr h => exact one (.ptr h) (by simp) (by simp)
  | slice h => exact one (.slice h) (by simp) (by simp)
  | map h => exact one (.map h) (by simp) (by simp)
  | func h hx hx' hy hy' => exact one (.func h hx hx' hy hy') (by simp) (by simp)
  | iface h => exact one (.iface h) (by simp) (by simp)
  | tuple hx hx' => exact one (.tuple hx hx') (by simp) (by simp)

theorem VRel.oneCell {m : AMap} {v v' : Value} (h : VRel m v v') (ho : v.oneCell = true) : v'.oneCell = true := by
  cases h <;> first | rfl | exact ho | (simp [Value.oneCell] at ho)

/-! ### More is known of the memory -/
def AMap.le (m m' : AMap) : Prop :=
  ∀ i, match m i with
    | none => True
    | some none => m' i = some none
    | some (some t) => m' i = some (some t) ∨ (t.kd = .cells ∧ m' i = some none)

theorem AMap.le.refl (m : AMap) : m.le m := fun i => by split <;> first | trivial | assumption | exact .inl ‹_›
theorem AMap.le.dead {m m' : AMap} (h : m.le m') {i : Nat} (e : m i = some none) : m' i = some none := by have := h i; rw [e] at this; exact this
theorem AMap.le.live {m m' : AMap} (h : m.le m') {i : Nat} {t : Tgt} (e : m i = some (some t)) : m' i = some (some t) ∨ (t.kd = .cells ∧ m' i = some none) := by have := h i; rw [e] at this; exact this
theorem AMap.le.trans {a b c : AMap} (h : a.le b) (k : b.le c) : a.le c := fun i => by
  split
  · trivial
  · exact k.dead (h.dead ‹_›)
  · rename_i t e
    rcases h.live e with e' | ⟨hk, e'⟩
    · exact k.live e'
    · exact .inr ⟨hk, k.dead e'⟩

theorem RRel.mono {m m' : AMap} (h : m.le m') {i j : Nat} (r : RRel m i j) : RRel m' i j := by
  rcases r with e | ⟨t, e, rfl⟩
  · exact .inl (h.dead e)
  · rcases h.live e with e' | ⟨_, e'⟩
    · exact .inr ⟨t, e', rfl⟩
    · exact .inl e'
theorem PRel.mono {m m' : AMap} (h : m.le m') {a b : Addr} (r : PRel m a b) : PRel m' a b := by
  rcases r with e | ⟨t, e, r⟩
  · exact .inl (h.dead e)
  · rcases h.live e with e' | ⟨_, e'⟩
    · exact .inr ⟨t, e', r⟩
    · exact .inl e'
theorem SRel.mono {m m' : AMap} (h : m.le m') {a b : Addr} {len cap cap' : Nat} (r : SRel m a b len cap cap') : SRel m' a b len cap cap' := by
  rcases r with e | ⟨t, e, r⟩
  · exact .inl (h.dead e)
  · rcases h.live e with e' | ⟨_, e'⟩
    · exact .inr ⟨t, e', r⟩
    · exact .inl e'
theorem FnRel.mono {m m' : AMap} (h : m.le m') {f f' : Fn} (r : FnRel m f f') : FnRel m' f f' := by
  cases f <;> first | exact r | skip
  cases f' <;> first | exact r | exact RRel.mono h r
theorem VRel.mono {m m' : AMap} (h : m.le m') {v v' : Value} (r : VRel m v v') : VRel m' v v' := by
  induction r with
  | atom h => exact .atom h
  | ptr r => exact .ptr (r.mono h)
  | slice r => exact .slice (r.mono h)
  | map r => exact .map (r.mono h)
  | func hf hx _ hy _ ihx ihy => exact .func (hf.mono h) hx ihx hy ihy
  | iface _ ih => exact .iface ih
  | agg hx _ ih => exact .agg hx ih
  | tuple hx _ ih => exact .tuple hx ih
theorem LRel.mono {m m' : AMap} (h : m.le m') {l l' : List Value} (r : LRel m l l') : LRel m' l l' := ⟨r.len, fun i u u' a b => (r.at_ i u u' a b).mono h⟩

/-! ### Heaps -/
def ERel (m : AMap) (e e' : MapEntry) : Prop := VRel m e.key e'.key ∧ VRel m e.val e'.val ∧ e.born = e'.born

structure ESRel (m : AMap) (l l' : List MapEntry) : Prop where
  len : l.length = l'.length
  at_ : ∀ (i : Nat) u u', l[i]? = some u → l'[i]? = some u' → ERel m u u'

def ORel (m : AMap) (t : Tgt) : AObj → Obj → Prop
  | .cells b, .cells c _ fr => t.kd = .cells ∧ t.n = b.cells.length ∧ t.opn = b.opn ∧ c.size = t.csz ∧ t.sh + t.n ≤ t.csz ∧
      LRel m b.cells ((c.toList.drop t.sh).take t.n) ∧ (b.plain = true → fr = (0, 0)) ∧ (b.wr = true → fr = (0, 0) ∨ t.csz ≤ fr.1)
  | .map es clock, .map es' clock' => t.kd = .map ∧ ESRel m es es'.toList ∧ clock = clock'
  | .loop l, .loop l' => t.kd = .loop ∧ l.state = l'.state ∧ l.pending = l'.pending ∧ l.params = l'.params.toList ∧ l.assign = l'.assign ∧ l.body = l'.body ∧
      (∀ k, VRel m (l.tmps k) (l'.tmps.getD k undef)) ∧ (∀ p ∈ l.params, p < l'.tmps.size) ∧
      ∃ gok : Nat → Bool, (∀ g, gok g = true → PRel m ⟨g, 0, none⟩ ⟨g, 0, none⟩) ∧ Code.ok gok l'.tmps.size l.assign = true ∧ Code.ok gok l'.tmps.size l.body = true
  | .strIter s p, .stringIter s' p' => t.kd = .str ∧ t.sh = 0 ∧ s = s' ∧ p = p'
  | .mapIter i a b c, .mapIter i' a' b' c' => t.kd = .iter ∧ t.sh = 0 ∧ a = a' ∧ b = b' ∧ c = c' ∧
      (match i, i' with | none, none => True | some x, some y => RRel m x y | _, _ => False)
  | _, _ => False

structure HRel (m : AMap) (h : AHeap) (w : World) : Prop where
  dom : ∀ i, m i ≠ none → i < h.next
  live : ∀ i t, m i = some (some t) → ∃ o o', h.get i = some o ∧ w.heap[t.j]? = some o' ∧ ORel m t o o'
  dead : ∀ i, m i = some none → h.get i = some .dead
  inj : ∀ i i' t t', m i = some (some t) → m i' = some (some t') → t.j = t'.j → i = i'

theorem ESRel.mono {m m' : AMap} (h : m.le m') {l l' : List MapEntry} (r : ESRel m l l') : ESRel m' l l' :=
  ⟨r.len, fun i u u' a b => let ⟨x, y, z⟩ := r.at_ i u u' a b; ⟨x.mono h, y.mono h, z⟩⟩

theorem ORel.mono {m m' : AMap} (h : m.le m') {t : Tgt} {o : AObj} {o' : Obj} (r : ORel m t o o') : ORel m' t o o' := by
  cases o <;> cases o' <;> simp only [ORel] at r ⊢
  case cells.cells => obtain ⟨a, b, c, d, e, f, g, k⟩ := r; exact ⟨a, b, c, d, e, f.mono h, g, k⟩
  case map.map => exact ⟨r.1, r.2.1.mono h, r.2.2⟩
  case loop.loop => obtain ⟨a, b, c, d, e, f, g, k, gok, x, y⟩ := r; exact ⟨a, b, c, d, e, f, fun x => (g x).mono h, k, gok, fun g hg => (x g hg).mono h, y⟩
  case strIter.stringIter => exact r
  case mapIter.mapIter =>
    obtain ⟨a, z, b, c, d, e⟩ := r
    refine ⟨a, z, b, c, d, ?_⟩
    split at e <;> first | trivial | exact RRel.mono h e | exact e

/-! ### A step: what it leaves alone -/
structure Ext (S : Nat → Prop) (m : AMap) (h : AHeap) (w : World) (m' : AMap) (h' : AHeap) (w' : World) : Prop where
  le : m.le m'
  next : h.next ≤ h'.next
  size : w.heap.size ≤ w'.heap.size
  os : w'.os = w.os
  tape : w'.tape = w.tape
  output : w'.output = w.output
  frA : ∀ i, i < h.next → m i = none → ¬ S i → h'.get i = h.get i
  frC : ∀ j, j < w.heap.size → (∀ i t, m i = some (some t) → t.j ≠ j) → w'.heap[j]? = w.heap[j]?
  new : ∀ i, m i = none → m' i ≠ none → S i
  ran : ∀ i t, m' i = some (some t) → t.j < w.heap.size → ∃ i₀ t₀, m i₀ = some (some t₀) ∧ t₀.j = t.j
  /-- What may not be written is as it was. -/
  ro : ∀ i t blk, m i = some (some t) → h.get i = some (.cells blk) → blk.wr = false → m' i = some (some t) ∧ h'.get i = some (.cells blk) ∧ w'.heap[t.j]? = w.heap[t.j]?

theorem Ext.refl (S : Nat → Prop) (m : AMap) (h : AHeap) (w : World) : Ext S m h w m h w :=
  ⟨.refl m, Nat.le_refl _, Nat.le_refl _, rfl, rfl, rfl, fun _ _ _ _ => rfl, fun _ _ _ => rfl, fun i e e' => absurd e e', fun i t e _ => ⟨i, t, e, rfl⟩, fun i t b e e' _ => ⟨e, e', rfl⟩⟩

theorem Ext.mono {S S' : Nat → Prop} {m m' : AMap} {h h' : AHeap} {w w' : World} (e : Ext S m h w m' h' w') (hS : ∀ i, S i → S' i) : Ext S' m h w m' h' w' :=
  { e with frA := fun i a b c => e.frA i a b (fun s => c (hS i s)), new := fun i a b => hS i (e.new i a b) }

theorem Ext.trans {S : Nat → Prop} {m₁ m₂ m₃ : AMap} {h₁ h₂ h₃ : AHeap} {w₁ w₂ w₃ : World} (a : Ext S m₁ h₁ w₁ m₂ h₂ w₂) (b : Ext S m₂ h₂ w₂ m₃ h₃ w₃) : Ext S m₁ h₁ w₁ m₃ h₃ w₃ where
  le := a.le.trans b.le
  next := Nat.le_trans a.next b.next
  size := Nat.le_trans a.size b.size
  os := b.os.trans a.os
  tape := b.tape.trans a.tape
  output := b.output.trans a.output
  frA := fun i hi hm hs => by
    have e1 := a.frA i hi hm hs
    have : m₂ i = none := Classical.byContradiction fun e => hs (a.new i hm e)
    exact (b.frA i (Nat.lt_of_lt_of_le hi a.next) this hs).trans e1
  frC := fun j hj hm => by
    refine (b.frC j (Nat.lt_of_lt_of_le hj a.size) fun i t e ej => ?_).trans (a.frC j hj hm)
    obtain ⟨i₀, t₀, e₀, ej₀⟩ := a.ran i t e (ej ▸ hj)
    exact hm i₀ t₀ e₀ (ej₀.trans ej)
  new := fun i hm hm' => by
    by_cases e : m₂ i = none
    · exact b.new i e hm'
    · exact a.new i hm e
  ran := fun i t e hj => by
    obtain ⟨i₁, t₁, e₁, ej₁⟩ := b.ran i t e (Nat.lt_of_lt_of_le hj a.size)
    obtain ⟨i₀, t₀, e₀, ej₀⟩ := a.ran i₁ t₁ e₁ (ej₁ ▸ hj)
    exact ⟨i₀, t₀, e₀, ej₀.trans ej₁⟩
  ro := fun i t blk e e' ew => by
    obtain ⟨x, y, z⟩ := a.ro i t blk e e' ew
    obtain ⟨x', y', z'⟩ := b.ro i t blk x y ew
    exact ⟨x', y', z'.trans z⟩
end Go.Cub
