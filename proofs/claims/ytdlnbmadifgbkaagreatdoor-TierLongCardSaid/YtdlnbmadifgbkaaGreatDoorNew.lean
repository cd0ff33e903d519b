/- What links.New makes, exactly. -/
import Derived.Test.YtdlnbmadifgbkaaGreatDoorCubL
import Derived.Test.YtdlnbmadifgbkaaGreatDoorCubR
import Derived.Test.YtdlnbmadifgbkaaGreatDoorF1
import Derived.Test.YtdlnbmadifgbkaaGreatDoorF2
namespace Go.Proofs.YtdlnbmadifgbkaaGreatDoor.F
set_option linter.unusedVariables false
set_option linter.unusedSimpArgs false
open Go Go.Cub
def u32z : Value := .int .u32 0
def i64z : Value := .int .i64 0
theorem mk315 (l : Nat) (id : Nat) (h : AHeap) (hl : l ≤ 2 ^ 40) : makeSliceA P 275 (.int .i64 l) (.int .i64 l) id h = some (.slice (some ⟨id, 0, none⟩) l l, newBlk h id (repL l [u32z, u32z, u32z]) none) := by
  have e1 : elemOfSlice P 275 = some 282 := by kernel_rfl
  have e2 : sizeT P 282 = some 3 := by kernel_rfl
  have e3 : bytesT P 282 = some 12 := by kernel_rfl
  have e4 : zeroT P 282 = some (.agg #[u32z, u32z, u32z]) := by kernel_rfl
  have a1 : Nat.ble (l * 12) (2 ^ 47) = true := Nat.ble_eq_true_of_le (by omega)
  have a2 : Nat.ble l l = true := Nat.ble_eq_true_of_le (Nat.le_refl _)
  have a3 : Nat.ble l (2 ^ 47) = true := Nat.ble_eq_true_of_le (by omega)
  simp only [makeSliceA, e1, e2, e3, e4, natOf?, Int.ofNat_eq_natCast, a1, a2, a3]
  rfl
theorem mk34 (l : Nat) (id : Nat) (h : AHeap) (hl : l ≤ 2 ^ 40) : makeSliceA P 276 (.int .i64 l) (.int .i64 l) id h = some (.slice (some ⟨id, 0, none⟩) l l, newBlk h id (repL l [i64z]) none) := by
  have e1 : elemOfSlice P 276 = some 3 := by kernel_rfl
  have e2 : sizeT P 3 = some 1 := by kernel_rfl
  have e3 : bytesT P 3 = some 8 := by kernel_rfl
  have e4 : zeroT P 3 = some i64z := by kernel_rfl
  have a1 : Nat.ble (l * 8) (2 ^ 47) = true := Nat.ble_eq_true_of_le (by omega)
  have a2 : Nat.ble l l = true := Nat.ble_eq_true_of_le (Nat.le_refl _)
  have a3 : Nat.ble l (2 ^ 47) = true := Nat.ble_eq_true_of_le (by omega)
  simp only [makeSliceA, e1, e2, e3, e4, natOf?, Int.ofNat_eq_natCast, a1, a2, a3]
  rfl
theorem bld317 (a b : Option Addr) (l c l' c' : Nat) (n : Int) : buildA P 278 [(0, .slice a l c), (1, .int .i64 n), (2, .slice b l' c')] = some (.agg #[.slice a l c, .int .i64 n, .slice b l' c']) := by kernel_rfl
theorem bld321 (a b c : Int) : buildA P 282 [(0, .int .u32 a), (1, .int .u32 b), (2, .int .u32 c)] = some (.agg #[.int .u32 a, .int .u32 b, .int .u32 c]) := by kernel_rfl
theorem conv3_90 (j : IntKind) (n : Int) (id : Nat) (h : AHeap) : convertA P 3 81 (.int j n) id h = some (.int .u32 (IntKind.u32.wrap n), h) := convertA_int (u := .int .i64) (by kernel_rfl) (by kernel_rfl) j n id h

theorem wrap_u32 (n : Nat) (h : n < 2 ^ 32) : IntKind.u32.wrap (n : Int) = n := by
  unfold IntKind.wrap; simp [IntKind.bits, IntKind.signed]; omega
theorem wrap_i64 (n : Nat) (h : n < 2 ^ 63) : IntKind.i64.wrap (n : Int) = n := by
  unfold IntKind.wrap; simp [IntKind.bits, IntKind.signed]; omega
/-- A Links struct lies at b. -/
def LinksAt (h : AHeap) (b f : Nat) (N H l : Nat) : Prop :=
  h.get b = some (.cells ⟨[.slice (some ⟨f, 0, none⟩) (N + H) (N + H), .int .i64 N, .slice (some ⟨l, 0, none⟩) H H], none, true, true⟩)

theorem ring_run {X : Caller} {L : Looper} {K : Value → AHeap → Prop} {h : AHeap} {b f N H l i : Nat} (hb : LinksAt h b f N H l) (hi : N + i < 2 ^ 32) :
    f178 X L K h (.int .i64 i) (.pointer (some ⟨b, 0, none⟩)) = K (.int .u32 (N + i : Nat)) (h.bump 9) := by
  have hld : ld1 (.pointer (some ⟨b, 1, none⟩)) (h.bump 9) = some (.int .i64 N) := ld1_of (B := ⟨_, _, _, _⟩) (by rw [AHeap.get_bump]; exact hb) rfl
  simp only [f178, regK, AHeap.bump_bump, nilV_ptr, opK_some, fAddr_of, Nat.zero_add, rdK_some, hld, binV_add, conv3_90]
  have e1 : IntKind.i64.wrap ((N : Int) + i) = ((N + i : Nat) : Int) := by
    rw [← Int.natCast_add]; exact wrap_i64 _ (by omega)
  rw [e1, wrap_u32 _ hi]

theorem repL_length {α : Type} (l : List α) : ∀ n, (repL n l).length = n * l.length := by
  intro n
  induction n with
  | zero => simp [repL]
  | succ n ih => simp [repL, ih, Nat.succ_mul]; omega
theorem repL_add {α : Type} (l : List α) (b : Nat) : ∀ a, repL (a + b) l = repL a l ++ repL b l := by
  intro a
  induction a with
  | zero => simp [repL]
  | succ a ih => rw [Nat.succ_add]; simp [repL, ih]
def zz : List Value := [u32z, u32z, u32z]
def nodeL (N j : Nat) : List Value := [.int .u32 (N + j : Nat), .int .u32 (N + j : Nat), .int .u32 (j + 1 : Nat)]
def nodesL (N : Nat) : Nat → List Value
  | 0 => []
  | i + 1 => nodesL N i ++ nodeL N i
theorem nodesL_length (N : Nat) : ∀ i, (nodesL N i).length = 3 * i := by
  intro i
  induction i with
  | zero => rfl
  | succ i ih => simp [nodesL, ih, nodeL]; omega
def fcells (N H i : Nat) : List Value := repL N zz ++ (nodesL N i ++ repL (H - i) zz)
theorem fcells_length {N H i : Nat} (hi : i ≤ H) : (fcells N H i).length = 3 * (N + H) := by
  simp [fcells, repL_length, nodesL_length, zz]; omega
theorem putL_mid (a b c : List Value) (o : Nat) (vs : List Value) (ho : o = a.length) (hb : b.length = vs.length) : putL (a ++ (b ++ c)) o vs = a ++ (vs ++ c) := by
  subst ho
  unfold putL
  rw [List.take_left' rfl, ← List.append_assoc a b c, List.drop_left' (by simp [hb]), List.append_assoc]
theorem fcells_put {N H i : Nat} (hi : i < H) : putL (fcells N H i) (0 + (N + i) * 3) (nodeL N i) = fcells N H (i + 1) := by
  have e : H - i = (H - (i + 1)) + 1 := by omega
  unfold fcells
  rw [e, show H - (i+1) + 1 = 1 + (H - (i + 1)) by omega, repL_add, ← List.append_assoc (repL N zz)]
  have := putL_mid (repL N zz ++ nodesL N i) (repL 1 zz) (repL (H - (i + 1)) zz) (0 + (N + i) * 3) (nodeL N i) (by simp [repL_length, nodesL_length, zz]; omega) (by simp [repL, zz, nodeL])
  rw [this]
  simp [nodesL]

def fieldObj (N H i : Nat) : AObj := .cells ⟨fcells N H i, none, true, true⟩

theorem new_loop {K : ActPost} {hB : AHeap} {b f l N H : Nat} (hb : LinksAt hB b f N H l) (hf : f < hB.next) (hbf : b ≠ f) (hN : N + H < 2 ^ 31)
    (hK : ∀ a', a'.env 6 = .pointer (some ⟨b, 0, none⟩) → a'.defers = [] → K (.exit 0) a' ((hB.bump (31 * H + 1)).set f (fieldObj N H H))) :
    ∀ d i (a : AAct), i + d = H → a.env 33 = .int .i64 i → a.env 32 = .int .i64 H → a.env 6 = .pointer (some ⟨b, 0, none⟩) → a.defers = [] →
      loopA (f130_l7 (callA P) loopA) a K ((hB.bump (31 * i)).set f (fieldObj N H i)) := by
  intro d i a hd h33 h32 h6 hdf Y hY
  induction d generalizing i a with
  | zero =>
    refine hY _ _ ?_
    obtain rfl : i = H := by omega
    simp only [f130_l7, h33, h32, binV_lss, rdK_some, show decide ((i : Int) < i) = false by simp, condK_false]
    rw [AHeap.set_bump _ (by simp; omega), AHeap.bump_bump]
    exact hK _ h6 hdf
  | succ d ih =>
    refine hY _ _ ?_
    have hlt : ((i : Int) < H) := by omega
    simp only [f130_l7, h33, h32, h6, binV_lss, rdK_some, show decide ((i : Int) < H) = true by simpa using hlt, condK_true]
    have hbb : ∀ k0 k o, ((hB.bump k0).set f o).bump k = (hB.bump (k0 + k)).set f o := fun k0 k o => by
      rw [AHeap.set_bump _ (by simp; omega), AHeap.bump_bump]
    have hgb : ∀ k o, ((hB.bump k).set f o).get b = some (.cells ⟨[.slice (some ⟨f, 0, none⟩) (N + H) (N + H), .int .i64 N, .slice (some ⟨l, 0, none⟩) H H], none, true, true⟩) := fun k o => by
      rw [AHeap.get_set_ne hbf]; exact hb
    have hgf : ∀ k o, ((hB.bump k).set f o).get f = some o := fun k o => AHeap.get_set_same (by simp; omega)
    refine callA_step ?_
    rw [f178_eq, ring_run (b := b) (f := f) (N := N) (H := H) (l := l)]
    · have e1 : IntKind.i64.wrap ((i : Int) + 1) = ((i + 1 : Nat) : Int) := wrap_i64 (i + 1) (by omega)
      have e2 : IntKind.u32.wrap ((i + 1 : Nat) : Int) = ((i + 1 : Nat) : Int) := wrap_u32 _ (by omega)
      have hld := fun k => ld1_of (o := 0 + 0) (hgb k (fieldObj N H i)) rfl
      have hst := fun k => stV_of (v := .agg #[.int .u32 (N + i : Nat), .int .u32 (N + i : Nat), .int .u32 (i + 1 : Nat)]) (n := 3) (o := 0 + (N + i) * 3) (hgf k (fieldObj N H i)) rfl rfl (by rw [fcells_length (by omega)]; omega) rfl (by omega)
      have hp : putL (fcells N H i) (0 + (N + i) * 3) (Value.agg #[.int .u32 (N + i : Nat), .int .u32 (N + i : Nat), .int .u32 (i + 1 : Nat)]).cells.toList = fcells N H (i + 1) := fcells_put (by omega)
      simp only [hp, AHeap.set_set] at hst
      simp only [hbb, regK, nilV_ptr, opK_some, fAddr_of, rdK_some, hld, binC_add, e1, conv3_90, e2, bld321, ixS_of (show N + i < N + H by omega), hst, stK_some]
      have := ih (i + 1) ⟨upds a.env [(34, .bool true), (35, .int .i64 i), (7, .int .i64 i), (36, .int .i64 i), (37, .pointer (some ⟨b, 0, none⟩)), (38, .int .u32 (N + i : Nat)), (8, .int .u32 (N + i : Nat)), (39, .pointer (some ⟨b, 0, none⟩)), (40, .pointer (some ⟨b, 0, none⟩)), (41, .pointer (some ⟨b, 0 + 0, none⟩)), (42, .slice (some ⟨f, 0, none⟩) (N + H) (N + H)), (43, .int .u32 (N + i : Nat)), (44, .int .u32 (N + i : Nat)), (45, .int .u32 (N + i : Nat)), (46, .int .i64 i), (47, .int .i64 (i + 1 : Nat)), (48, .int .u32 (i + 1 : Nat)), (49, .agg #[.int .u32 (N + i : Nat), .int .u32 (N + i : Nat), .int .u32 (i + 1 : Nat)]), (50, .pointer (some ⟨f, 0 + (N + i) * 3, none⟩)), (51, .int .i64 (i + 1 : Nat)), (33, .int .i64 (i + 1 : Nat))], a.defers⟩ (by omega) rfl h32 h6 hdf
      rw [show 31 * (i + 1) = 31 * i + 1 + 2 + 4 + 9 + 13 + 2 by omega] at this
      exact this
    · simp only [hbb]; exact hgb _ _
    · omega

def newHeap (h : AHeap) (N H : Nat) : AHeap :=
  let n := h.next
  ((((h.bump (28 + 31 * H + 4)).set (n + 19) (.cells ⟨repL (N + H) zz, none, true, true⟩)).set (n + 22) (.cells ⟨repL H [i64z], none, true, true⟩)).set (n + 24)
    (.cells ⟨[.slice (some ⟨n + 19, 0, none⟩) (N + H) (N + H), .int .i64 N, .slice (some ⟨n + 22, 0, none⟩) H H], none, true, true⟩)).set (n + 19) (fieldObj N H H)

theorem fcells_zero (N H : Nat) : fcells N H 0 = repL (N + H) zz := by simp [fcells, nodesL, repL_add]
theorem leave130 {X : Caller} {K : Value → AHeap → Prop} {h : AHeap} {a : AAct} {v : Value} (h6 : a.env 6 = v) (hd : a.defers = []) : f130_j5 X loopA K h a = K (.tuple #[v, .int .i64 0]) (h.bump 3) := by
  obtain ⟨env, defers⟩ := a
  cases hd
  subst h6
  rfl
theorem new_run {K : Value → AHeap → Prop} {h : AHeap} {N H : Nat} (hN : 1 ≤ N) (hN2 : N ≤ 4194304) (hH : 1 ≤ H) (hH2 : H ≤ 4096)
    (hK : K (.tuple #[.pointer (some ⟨h.next + 24, 0, none⟩), .int .i64 0]) (newHeap h N H)) : callA P (.call 130 [.int .i64 N, .int .i64 H]) K h := by
  refine callA_step ?_
  rw [f130_eq]
  have c1 : decide ((N : Int) < 1) = false := by simp; omega
  have c2 : decide ((4194304 : Int) < N) = false := by simp; omega
  have c3 : decide ((H : Int) < 1) = false := by simp; omega
  have c4 : decide ((4096 : Int) < H) = false := by simp; omega
  have e1 : IntKind.i64.wrap ((N : Int) + H) = ((N + H : Nat) : Int) := by
    rw [← Int.natCast_add]; exact wrap_i64 _ (by omega)
  simp (implicitDefEqProofs := false) only [f130, AHeap.bump_bump, binC_lss, binC_gtr, c1, c2, c3, c4, rdK_some, wantV_bool, opK_some, pickV_false, condK_false, beq_self_eq_true, gopK_true, Option.map_some, regK, binV_add, e1, mk315 _ _ _ (show N + H ≤ 2 ^ 40 by omega), mk34 _ _ _ (show H ≤ 2 ^ 40 by omega), bld317, boxV_eq]
  simp only [AHeap.next_bump]
  have hn : ∀ k, h.next + (2 + 14) + k = h.next + (16 + k) := fun k => by omega
  simp only [hn]
  have hBe : (newBlk (newBlk (newBlk (h.bump (2 + 14 + 10)) (h.next + (16 + 3)) (repL (N + H) [u32z, u32z, u32z]) none) (h.next + (16 + 6)) (repL H [i64z]) none) (h.next + (16 + 8))
          (Value.agg #[Value.slice (some { block := h.next + (16 + 3), off := 0 }) (N + H) (N + H), Value.int IntKind.i64 ↑N, Value.slice (some { block := h.next + (16 + 6), off := 0 }) H H]).cells.toList none).bump 2 =
      (((h.bump 28).set (h.next + 19) (.cells ⟨repL (N + H) zz, none, true, true⟩)).set (h.next + 22) (.cells ⟨repL H [i64z], none, true, true⟩)).set (h.next + 24)
        (.cells ⟨[.slice (some ⟨h.next + 19, 0, none⟩) (N + H) (N + H), .int .i64 N, .slice (some ⟨h.next + 22, 0, none⟩) H H], none, true, true⟩) := by
    unfold newBlk
    rw [AHeap.set_bump _ (by simp), AHeap.set_bump _ (by simp), AHeap.set_bump _ (by simp), AHeap.bump_bump]
    rfl
  rw [hBe]
  generalize hB0 : (((h.bump 28).set (h.next + 19) (.cells ⟨repL (N + H) zz, none, true, true⟩)).set (h.next + 22) (.cells ⟨repL H [i64z], none, true, true⟩)).set (h.next + 24)
        (.cells ⟨[.slice (some ⟨h.next + 19, 0, none⟩) (N + H) (N + H), .int .i64 N, .slice (some ⟨h.next + 22, 0, none⟩) H H], none, true, true⟩) = hB
  have hBn : hB.next = h.next + 28 := by rw [← hB0]; simp
  have hL : LinksAt hB (h.next + 24) (h.next + 19) N H (h.next + 22) := by rw [← hB0]; exact AHeap.get_set_same (by simp)
  have hg : hB.get (h.next + 19) = some (fieldObj N H 0) := by
    rw [← hB0, AHeap.get_set_ne (by omega), AHeap.get_set_ne (by omega), AHeap.get_set_same (by simp)]
    simp [fieldObj, fcells_zero]
  have hs : hB = (hB.bump (31 * 0)).set (h.next + 19) (fieldObj N H 0) := by
    rw [Nat.mul_zero, AHeap.bump_zero, AHeap.set_same hg]
  rw [hs]
  refine new_loop hL (by omega) (by omega) (by omega) ?_ H 0 _ (by omega) rfl rfl rfl rfl
  intro a' h6 hd
  show f130_j5 (callA P) loopA K _ a'
  rw [leave130 h6 hd]
  have he : ((hB.bump (31 * H + 1)).set (h.next + 19) (fieldObj N H H)).bump 3 = newHeap h N H := by
    rw [AHeap.set_bump _ (by simp; omega), AHeap.bump_bump, ← hB0]
    unfold newHeap
    rw [AHeap.set_bump _ (by simp), AHeap.set_bump _ (by simp), AHeap.set_bump _ (by simp), AHeap.bump_bump]
    rw [show 28 + (31 * H + 1 + 3) = 28 + 31 * H + 4 by omega]
  rw [he]
  exact hK
end Go.Proofs.YtdlnbmadifgbkaaGreatDoor.F
