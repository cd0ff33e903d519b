/- The examples of the chapter are true; what bytes.Clone makes of a long row. -/
import Derived.Test.YtdlnbmadifgbkaaGreatDoorRun
namespace Go.Proofs.YtdlnbmadifgbkaaGreatDoor.F
set_option linter.unusedVariables false
set_option linter.unusedSimpArgs false
open Go Go.Cub
set_option maxRecDepth 1000000 in
theorem knRun : runS P tblV knownS 100 (.call 4 []) (fun v _ => v = .bool true) (layG gvars 1) = (Value.bool true = Value.bool true) := by kernel_rfl
theorem known_call : callA P (.call 4 []) (fun v _ => v = .bool true) (layG gvars 1) := runS_A tblV_ok knownS_ok 100 _ _ _ (by rw [knRun])
def gk : Nat → Bool := fun g => Nat.ble (g + 1) 1
theorem gk_lt (g : Nat) (h : gk g = true) : g < 1 := Nat.le_of_ble_eq_true h
theorem gvars_atoms (i : Nat) (cs : List Value) (h : lookG gvars i = some cs) : cs.all isAtom = true := by
  have e : lookG gvars i = if i = 0 then some (deBs.map fun z => .int .u8 z) else none := by
    cases i with
    | zero => rfl
    | succ n => rfl
  rw [e] at h
  split at h
  · cases h; rfl
  · cases h
def Glb (h : AHeap) : Prop := h.get 0 = some (.cells ⟨deBs.map fun z => .int .u8 z, none, false, false⟩)
theorem known_any (hP : ProgOk P gk) {K : Value → AHeap → Prop} {H : AHeap} (hg : Glb H) (hK : K (.bool true) H) : Conc P gk (.call 4 []) K H := by
  refine conc_frame gk_lt gvars_atoms (call_sound hP _ _ _ known_call) rfl (fun v h e => ?_) (fun i cs hi hl => ?_)
  · subst e; exact ⟨rfl, hK⟩
  · obtain rfl : i = 0 := by omega
    have : lookG gvars 0 = some (deBs.map fun z => .int .u8 z) := rfl
    rw [this] at hl; cases hl
    exact hg
def chkG : List Value → List Int → Bool
  | [], [] => true
  | .int .u8 a :: l, b :: r => decide (a = b) && chkG l r
  | _, _ => false
theorem chkG_ok : ∀ l r, chkG l r = true → l = r.map fun z => .int .u8 z := by
  intro l
  induction l with
  | nil => intro r h; cases r <;> first | rfl | simp [chkG] at h
  | cons v l ih =>
    intro r h
    cases r with
    | nil => cases v <;> simp [chkG] at h
    | cons b r =>
      unfold chkG at h
      split at h
      · rename_i heq1 heq2; cases heq1
      · rename_i a l' b' r' heq1 heq2
        cases heq1; cases heq2
        simp only [Bool.and_eq_true, decide_eq_true_eq] at h
        rw [h.1, ih _ h.2]; rfl
      · cases h
theorem u34 : P.underlying 34 = some (.slice 5) := by kernel_rfl
theorem bs0 (id : Nat) (h : AHeap) : bsliceV P 34 0 [] id h = some (.slice (some ⟨id, 0, none⟩) 0 0, litRow h id []) := by kernel_rfl
theorem app34 (s x : Value) (n : Nat) (new : List Value) (id : Nat) (h : AHeap) (hn : lenOfA x = some n) (hx : firstCellsA h 1 n x = some new) : builtinV P .append [34, 34] [s, x] id h = appendA 1 1 s n new id h :=
  append_eq (e := 5) (z := .int .u8 0) (u := .slice 5) (by kernel_rfl) (by kernel_rfl) (by kernel_rfl) (by kernel_rfl) rfl (by kernel_rfl) (fun k e => by cases e) s x n new id h hn hx
theorem eqlS (a : Addr) (n c : Nat) (h : AHeap) : binC P .eql 34 34 (.slice (some a) n c) (.slice none 0 0) h = some (.bool false) := by
  unfold binC binA
  simp only [evL, List.getD, scalar, isAtom, eqA, u34]
  rfl
def cloneHeap (h : AHeap) (l : List Value) : AHeap := ((h.bump 7).set (h.next + 3) (.cells ⟨[], none, true, false⟩)).set (h.next + 5) (.cells ⟨l, some 1, true, true⟩)
theorem clone_call {K : Value → AHeap → Prop} {h : AHeap} {b n c : Nat} {B : ABlk} (hb : h.get b = some (.cells B)) (hl : n = B.cells.length) (h0 : 0 < n) (hn : n ≤ 2 ^ 40)
    (hK : K (.slice (some ⟨h.next + 5, 0, none⟩) n n) (cloneHeap h B.cells)) : callA P (.call 20 [.slice (some ⟨b, 0, none⟩) n c]) K h := by
  have hbl := AHeap.lt_of_get hb
  refine callA_step ?_
  rw [f20_eq]
  have hg : (litRow (((h.bump 1).bump 2).bump 4) (((h.bump 1).bump 2).next + 0) []).get b = some (.cells B) := by
    unfold litRow
    rw [AHeap.get_set_ne (by simp; omega)]; exact hb
  have happ := fun s id => app34 s (.slice (some ⟨b, 0, none⟩) n c) n B.cells id (litRow (((h.bump 1).bump 2).bump 4) (((h.bump 1).bump 2).next + 0) []) rfl (firstCells_slice hg (by rw [Nat.mul_one]; exact hl))
  simp (implicitDefEqProofs := false) only [f20, eqlS, rdK_some, condK_false, regK, bs0, opK_some, happ]
  rw [appendA_made (B := ⟨[], none, true, false⟩) (by omega) h0 (by exact AHeap.get_set_same (by simp)) rfl rfl (okGrow_of (by omega) (by omega))]
  simp only [opK_some, Nat.zero_add]
  have e : newBlk (litRow (((h.bump 1).bump 2).bump 4) (((h.bump 1).bump 2).next + 0) []) (((h.bump 1).bump 2).next + 2) ([] ++ B.cells) (some 1) = cloneHeap h B.cells := by
    unfold cloneHeap newBlk litRow
    simp [AHeap.bump_bump, Nat.add_assoc]
  rw [show ((h.bump 1).bump 2).next + 2 = h.next + 5 by simp [Nat.add_assoc]] at e ⊢
  rw [e]; exact hK
def cloneK (h : AHeap) (l : List Value) (k : Nat → AHeap → Prop) : Prop :=
  fN h.next fun n => bumpK 7 h fun h => setH h (n + 3) (.cells ⟨[], none, true, false⟩) fun h => setH h (n + 5) (.cells ⟨l, some 1, true, true⟩) fun h => fN (n + 5) fun p => k p h
theorem cloneK_eq (h : AHeap) (l : List Value) (k : Nat → AHeap → Prop) : cloneK h l k = k (h.next + 5) (cloneHeap h l) := by
  unfold cloneK
  simp only [fN_eq, bumpK_eq, setH_eq]
  rfl
def knownC : Known := fun f args h => match knownS f args h with
  | some g => some g
  | none => match Nat.beq f 20, args with
    | true, [.slice (some ⟨b, 0, none⟩) n _] => match Nat.ble 1000 n && Nat.ble n 1099511627776, getH h b with
      | true, some (.cells ⟨l, _, _, _⟩) => some fun K => n = l.length ∧ cloneK h l fun p h => K (.slice (some ⟨p, 0, none⟩) n n) h
      | _, _ => none
    | _, _ => match Nat.beq f 4, args with
      | true, [] => match getH h 0 with
        | some (.cells ⟨cs, none, false, false⟩) => match chkG cs deBs with
          | true => some fun K => K (.bool true) h
          | false => none
        | _ => none
      | _, _ => none
theorem knownC_ok (hP : ProgOk P gk) : knownC.okY (Conc P gk) := by
  intro f args h g hg K hk
  unfold knownC at hg
  split at hg
  · rename_i g' hg'
    cases hg
    exact call_sound hP _ _ _ (knownS_ok _ _ _ _ hg' _ hk)
  · split at hg
    · rename_i b n c hb hno
      split at hg
      · rename_i l o w p hc hgl
        cases hg
        have := Nat.eq_of_beq_eq_true hb
        subst this
        simp only [Bool.and_eq_true, Nat.ble_eq] at hc
        rw [getH_eq] at hgl
        rw [cloneK_eq] at hk
        exact call_sound hP _ _ _ (clone_call hgl hk.1 (by omega) (by omega) hk.2)
      · cases hg
    · split at hg
      · rename_i hb hneg hno
        split at hg
        · rename_i cs hgl
          split at hg
          · rename_i hc
            cases hg
            have := Nat.eq_of_beq_eq_true hb
            subst this
            rw [getH_eq, chkG_ok _ _ hc] at hgl
            exact known_any hP hgl hk
          · cases hg
        · cases hg
      · cases hg
end Go.Proofs.YtdlnbmadifgbkaaGreatDoor.F
