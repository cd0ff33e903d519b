/- Opened gives as many numbers as there are bits. -/
import Derived.Test.YtcoofhpdkgkjcaaGreatDoorCur
namespace Go.Proofs.YtcoofhpdkgkjcaaGreatDoor.F
set_option linter.unusedVariables false
set_option linter.unusedSimpArgs false
open Go Go.Cub

def cnt (op : Nat) : Nat → Nat
  | 0 => 0
  | n + 1 => cnt op n + (if op.testBit n then 1 else 0)
theorem cnt_le (op : Nat) : ∀ n, cnt op n ≤ n := by
  intro n
  induction n with
  | zero => exact Nat.le_refl _
  | succ n ih => simp only [cnt]; split <;> omega

theorem app34 (s x : Value) (n : Nat) (new : List Value) (id : Nat) (h : AHeap) (hn : lenOfA x = some n) (hx : firstCellsA h 1 n x = some new) : builtinV P .append [34, 34] [s, x] id h = appendA 1 8 s n new id h :=
  append_eq (e := 3) (z := .int .i64 0) (u := .slice 3) (by kernel_rfl) (by kernel_rfl) (by kernel_rfl) (by kernel_rfl) rfl (by kernel_rfl) (fun k e => by cases e) s x n new id h hn hx
theorem bs34 (n : Int) (id : Nat) (h : AHeap) : bsliceV P 34 1 [(0, .int .i64 n)] id h = some (.slice (some ⟨id, 0, none⟩) 1 1, litRow h id [.int .i64 n]) := by kernel_rfl

/-- A list of so many numbers, that append has made, none of whose rows lies below a number, nor at these. -/
def Lst (h : AHeap) (N : Nat) (no : List Nat) (sl : Value) (c : Nat) : Prop :=
  (c = 0 ∧ sl = .slice none 0 0) ∨ ∃ r xs pl, sl = .slice (some ⟨r, 0, none⟩) c c ∧ xs.length = c ∧ h.get r = some (.cells ⟨xs, some 1, true, pl⟩) ∧ N ≤ r ∧ r ∉ no

structure St (op : Nat) (h0 : AHeap) (l x b n : Nat) (tm : Nat → Value) (h : AHeap) : Prop where
  loop : h.get l = some (.loop ⟨.ready, none, tm, [7], f40_ca0, f40_cb0⟩)
  box : ∃ sl, h.get x = some (.cells ⟨[sl], none, true, true⟩) ∧ Lst h h0.next [l, x, b] sl (cnt op n)
  word : h.get b = some (.cells ⟨[.int .u64 op], none, true, true⟩)
  old : ∀ i, i < h0.next → h.get i = h0.get i
  next : h0.next ≤ h.next
  hl : h0.next ≤ l
  hx : h0.next ≤ x
  hb : h0.next ≤ b
  lx : l ≠ x
  lb : l ≠ b
  xb : x ≠ b
  t2 : tm 2 = .pointer (some ⟨x, 0, none⟩)

theorem St.bump {op : Nat} {h0 : AHeap} {l x b n : Nat} {tm : Nat → Value} {h : AHeap} (s : St op h0 l x b n tm h) (k : Nat) : St op h0 l x b n tm (h.bump k) :=
  { s with next := by have := s.next; simp; omega }

theorem round_call {K : Value → AHeap → Prop} {op : Nat} {h0 : AHeap} {l x b n : Nat} {tm : Nat → Value} {h : AHeap} (s : St op h0 l x b n tm h) (hn : n < 64) (hb : op.testBit n = true)
    (hK : ∀ h', St op h0 l x b (n + 1) tm h' → K (.bool true) h') : callA P (.round l [.int .i64 n]) K h := by
  obtain ⟨sl, hbx, hls⟩ := s.box
  have hll := AHeap.lt_of_get s.loop
  have hxl := AHeap.lt_of_get hbx
  have hbl := AHeap.lt_of_get s.word
  have hlx := s.lx; have hlb := s.lb; have hxb := s.xb; have hnx := s.next
  have hl0 := s.hl; have hx0 := s.hx; have hb0 := s.hb
  refine callA_step (round_intro s.loop rfl rfl ?_)
  rw [f40_a0_eq]
  simp only [f40_a0]
  refine rndA_normal (r := ⟨.ready, none, tm, [7], f40_ca0, f40_cb0⟩) s.loop rfl ?_
  rw [f40_b0_eq]
  have hcn : cnt op (n + 1) = cnt op n + 1 := by simp [cnt, hb]
  have hcle := cnt_le op n
  have e5 : upds (setParams tm [7] [.int .i64 n]) [(5, setParams tm [7] [.int .i64 n] 7)] 5 = .int .i64 n := rfl
  have e2 : upds (setParams tm [7] [.int .i64 n]) [(5, setParams tm [7] [.int .i64 n] 7)] 2 = .pointer (some ⟨x, 0, none⟩) := s.t2
  simp only [f40_b0, regK, e5, e2]
  generalize hH : ((h.bump 1).set l (.loop ⟨.busy, none, tm, [7], f40_ca0, f40_cb0⟩)).bump 5 = H
  have hHn : H.next = h.next + 6 := by rw [← hH]; simp
  have hHg : ∀ i, i ≠ l → H.get i = h.get i := fun i hi => by rw [← hH, AHeap.get_bump, AHeap.get_set_ne hi, AHeap.get_bump]
  have hHl : H.get l = some (.loop ⟨.busy, none, tm, [7], f40_ca0, f40_cb0⟩) := by rw [← hH, AHeap.get_bump]; exact AHeap.get_set_same (by simp; omega)
  have hnn : ((h.bump 1).set l (.loop ⟨.busy, none, tm, [7], f40_ca0, f40_cb0⟩)).next = h.next + 1 := by simp
  simp only [hnn]
  have hld : ld1 (.pointer (some ⟨x, 0, none⟩)) H = some sl := ld1_of (B := ⟨_, _, _, _⟩) (by rw [hHg x (by omega)]; exact hbx) rfl
  simp only [hld, rdK_some, bs34, opK_some]
  generalize hG : litRow H (h.next + 1 + 2) [.int .i64 n] = G
  have hGn : G.next = h.next + 6 := by rw [← hG]; simp [litRow, hHn]
  have hGg : ∀ i, i ≠ h.next + 3 → G.get i = H.get i := fun i hi => by rw [← hG]; exact AHeap.get_set_ne (by omega)
  have hGr : G.get (h.next + 3) = some (.cells ⟨[.int .i64 n], none, true, false⟩) := by rw [← hG]; exact AHeap.get_set_same (by omega)
  have happ := fun s => app34 s (.slice (some ⟨h.next + 1 + 2, 0, none⟩) 1 1) 1 [.int .i64 n] (h.next + 1 + 3) G rfl (firstCells_slice (B := ⟨[.int .i64 n], none, true, false⟩) (by rw [show h.next + 1 + 2 = h.next + 3 by omega]; exact hGr) rfl)
  simp only [happ]
  -- the end of the round, out of what lies there
  have fin : ∀ (sl' : Value) (F : AHeap) (a : AAct), F.next = h.next + 6 → (∀ i, i < h0.next → F.get i = h0.get i) → F.get l = some (.loop ⟨.busy, none, tm, [7], f40_ca0, f40_cb0⟩) → F.get x = some (.cells ⟨[sl], none, true, true⟩) → F.get b = some (.cells ⟨[.int .u64 op], none, true, true⟩) →
      Lst F h0.next [l, x, b] sl' (cnt op (n + 1)) → sl'.cells = #[sl'] → sl'.oneCell = true → stK (stV 1 (.pointer (some ⟨x, 0, none⟩)) sl' F) fun h => rndE l K .normal a h := by
    intro sl' F a hFn hFo hFl hFx hFb hFL hc1 h1
    have hst := stV_of (n := 1) (o := 0) (v := sl') hFx rfl (by rw [hc1]; rfl) (by simp) (by rw [hc1]; simp [h1]) (by omega)
    rw [hst, hc1]
    simp only [stK_some]
    refine rndE_normal (r := ⟨.busy, none, tm, [7], f40_ca0, f40_cb0⟩) (by rw [AHeap.get_set_ne hlx]; exact hFl) ?_
    refine hK _ ⟨AHeap.get_set_same (by simp; omega), ⟨sl', ?_, ?_⟩, ?_, fun i hi => ?_, by simp; omega, s.hl, s.hx, s.hb, s.lx, s.lb, s.xb, s.t2⟩
    · rw [AHeap.get_set_ne (by omega), AHeap.get_set_same (by omega)]; rfl
    · rcases hFL with hz | ⟨r, xs, pl, e1, e2, e3, e4, e5⟩
      · exact .inl hz
      · refine .inr ⟨r, xs, pl, e1, e2, ?_, e4, e5⟩
        simp only [List.mem_cons, List.not_mem_nil, or_false, not_or] at e5
        rw [AHeap.get_set_ne e5.1, AHeap.get_set_ne e5.2.1]; exact e3
    · rw [AHeap.get_set_ne (by omega), AHeap.get_set_ne (by omega)]; exact hFb
    · rw [AHeap.get_set_ne (by omega), AHeap.get_set_ne (by omega)]; exact hFo i hi
  have hgrow : okGrow (cnt op n + 1) 8 = true := okGrow_of (by omega) (by omega)
  rcases hls with ⟨hc0, rfl⟩ | ⟨r, xs, pl, rfl, hxs, hr, hrN, hrno⟩
  · rw [appendA_nil (by omega) (by omega) (by rw [hc0] at hgrow; exact hgrow)]
    simp only [opK_some]
    refine fin _ _ _ ?_ (fun i hi => ?_) ?_ ?_ ?_ (.inr ⟨h.next + 1 + 3, [.int .i64 n], true, by rw [hcn, hc0], by rw [hcn, hc0]; rfl, ?_, by omega, by simp; omega⟩) rfl rfl
    · simp [newBlk, hGn]
    · simp only [newBlk]; rw [AHeap.get_set_ne (by omega), hGg i (by omega), hHg i (by omega)]; exact s.old i hi
    · simp only [newBlk]; rw [AHeap.get_set_ne (by omega), hGg l (by omega)]; exact hHl
    · simp only [newBlk]; rw [AHeap.get_set_ne (by omega), hGg x (by omega), hHg x (by omega)]; exact hbx
    · simp only [newBlk]; rw [AHeap.get_set_ne (by omega), hGg b (by omega), hHg b (by omega)]; exact s.word
    · simp only [newBlk]; exact AHeap.get_set_same (by omega)
  · simp only [List.mem_cons, List.not_mem_nil, or_false, not_or] at hrno
    have hrl := AHeap.lt_of_get hr
    have hGrr : G.get r = some (.cells ⟨xs, some 1, true, pl⟩) := by rw [hGg r (by omega), hHg r (by omega)]; exact hr
    rw [appendA_grow (by omega) (by omega) hGrr (by simp [hxs]) rfl rfl rfl hgrow]
    simp only [opK_some]
    refine fin _ _ _ ?_ (fun i hi => ?_) ?_ ?_ ?_ (.inr ⟨h.next + 1 + 3, xs ++ [.int .i64 n], pl, by rw [hcn], by rw [hcn]; simp [hxs], ?_, by omega, by simp; omega⟩) rfl rfl
    · simp [hGn]
    · rw [AHeap.get_set_ne (by omega), AHeap.get_set_ne (by omega), hGg i (by omega), hHg i (by omega)]; exact s.old i hi
    · rw [AHeap.get_set_ne (by omega), AHeap.get_set_ne (by omega), hGg l (by omega)]; exact hHl
    · rw [AHeap.get_set_ne (by omega), AHeap.get_set_ne (by omega), hGg x (by omega), hHg x (by omega)]; exact hbx
    · rw [AHeap.get_set_ne (by omega), AHeap.get_set_ne (by omega), hGg b (by omega), hHg b (by omega)]; exact s.word
    · exact AHeap.get_set_same (by simp; omega)

theorem all1_call {K : Value → AHeap → Prop} {op : Nat} {h0 : AHeap} {l x b : Nat} {tm : Nat → Value} {h : AHeap} (s : St op h0 l x b 0 tm h) (ho : op < 2 ^ 64)
    (hK : ∀ h', St op h0 l x b 64 tm h' → K (.tuple #[]) h') : callA P (.call 41 [.func (.yield l) #[] #[], .pointer (some ⟨b, 0, none⟩)]) K h := by
  refine callA_step ?_
  rw [f41_eq]
  simp only [f41]
  have loop : ∀ d i (a : AAct) h, i + d = 64 → St op h0 l x b i tm h → a.env 0 = .func (.yield l) #[] #[] → a.env 1 = .pointer (some ⟨b, 0, none⟩) → a.env 4 = .int .i64 i → a.defers = [] →
      loopA (f41_l1 (callA P) loopA) a (blkX 0 (finX P (callA P) Tryz.f41 K)) h := by
    intro d i a h hd s h0' h1 h4 hdf Y hY
    induction d generalizing i a h with
    | zero =>
      obtain rfl : i = 64 := by omega
      refine hY _ _ ?_
      simp only [f41_l1, h4, binC_lss, rdK_some, show decide (((64 : Nat) : Int) < 64) = false from rfl, condK_false]
      obtain ⟨env, df⟩ := a
      cases hdf
      exact hK _ (s.bump 1)
    | succ d ih =>
      refine hY _ _ ?_
      have c1 : decide ((i : Int) < 64) = true := by simp; omega
      have hld : ∀ k, ld1 (.pointer (some ⟨b, 0, none⟩)) (h.bump k) = some (.int .u64 op) := fun k => ld1_of (B := ⟨_, _, _, _⟩) (by rw [AHeap.get_bump]; exact s.word) rfl
      have e1 : IntKind.i64.wrap ((i : Int) + 1) = ((i + 1 : Nat) : Int) := by
        have := @wrap_i64_of_lt (i + 1) (by omega)
        simpa using this
      simp only [f41_l1, h4, binC_lss, rdK_some, c1, condK_true, h1, AHeap.bump_bump, hld, h0']
      refine has_call ho (by omega) ?_
      cases hb : op.testBit i with
      | false =>
        simp (implicitDefEqProofs := false) only [wantV_bool, show (false == true) = false from rfl, gopK_false, gcallvK, pickV_false, opK_some, condK_false, binC_add, e1, rdK_some, AHeap.bump_bump]
        refine ih (i + 1) _ _ (by omega) ?_ h0' h1 rfl hdf
        have := s.bump (1 + 2 + 9 + 15 + 2)
        obtain ⟨sl, q1, q2⟩ := this.box
        exact { this with box := ⟨sl, q1, by rw [show cnt op (i + 1) = cnt op i by simp [cnt, hb]]; exact q2⟩ }
      | true =>
        simp (implicitDefEqProofs := false) only [wantV_bool, beq_self_eq_true, gopK_true, opK_some, gcallvK, callV]
        refine round_call ((s.bump _).bump _) (by omega) hb fun h' s' => ?_
        simp (implicitDefEqProofs := false) only [unV_not, Option.map_some, opK_some, Bool.not_true, pickV_true, condK_false, binC_add, e1, rdK_some]
        exact ih (i + 1) _ _ (by omega) (s'.bump 2) h0' h1 rfl hdf
  exact loop 64 0 _ _ (by omega) (s.bump 1) rfl rfl rfl rfl

theorem opened_call {K : Value → AHeap → Prop} {h : AHeap} {s op : Nat} {c : Addr} (hc : Cur h s c op) (ho : op < 2 ^ 64)
    (hK : ∀ a n' h', Cur h' s c op → Kp s h h' → K (.slice a (cnt op 64) n') h') : callA P (.call 9 [.pointer (some ⟨s, 0, none⟩)]) K h := by
  have hc0 := hc
  obtain ⟨pl, hpl, hg⟩ := hc
  have hsl := AHeap.lt_of_get hg
  refine callA_step ?_
  rw [f9_eq]
  have hld : ∀ k, ld1 (.pointer (some ⟨s, 0 + 1, none⟩)) (h.bump k) = some (.int .u64 op) := fun k => ld1_of (B := ⟨_, _, _, _⟩) (by rw [AHeap.get_bump]; exact hg) rfl
  simp (implicitDefEqProofs := false) only [f9, AHeap.bump_bump]
  refine none_call (hc0.bump _) ?_
  simp (implicitDefEqProofs := false) only [condK_false, AHeap.bump_bump, nilV_ptr, opK_some, fAddr_of, rdK_some, hld]
  refine callA_step ?_
  rw [f25_eq]
  simp (implicitDefEqProofs := false) only [f25, regK, boxV_eq, opK_some]
  refine callA_step ?_
  rw [f24_eq]
  simp (implicitDefEqProofs := false) only [f24]
  refine callA_step ?_
  rw [f40_eq]
  simp (implicitDefEqProofs := false) only [f40, regK, boxV_eq, opK_some]
  generalize hH : (newBlk ((h.bump (1 + 2 + 11 + 7)).bump 2) ((h.bump (1 + 2 + 11 + 7)).next + 0) (Value.int IntKind.u64 ↑op).cells.toList none).bump 2 = H
  have e21 : (h.bump (1 + 2 + 11 + 7)).next + 0 = h.next + 21 := by simp
  rw [e21] at hH
  simp only [e21]
  have hHn : H.next = h.next + 25 := by rw [← hH]; simp [newBlk]
  have hHb : H.get (h.next + 21) = some (.cells ⟨[.int .u64 op], none, true, true⟩) := by rw [← hH]; exact AHeap.get_set_same (by simp)
  have hHo : ∀ i, i < h.next → H.get i = h.get i := fun i hi => by rw [← hH]; exact AHeap.get_set_ne (by omega)
  simp only [AHeap.next_bump, hHn, Nat.add_zero]
  generalize hG : (newBlk (((H.bump 1).bump 3).bump 2) (h.next + 25 + 1 + 3) (Value.slice none 0 0).cells.toList none).bump 1 = G
  have hGn : G.next = h.next + 32 := by rw [← hG]; simp [newBlk, hHn]
  have hGx : G.get (h.next + 25 + 1 + 3) = some (.cells ⟨[.slice none 0 0], none, true, true⟩) := by rw [← hG]; exact AHeap.get_set_same (by simp; omega)
  have hGo : ∀ i, i < h.next + 25 → G.get i = H.get i := fun i hi => by rw [← hG]; exact AHeap.get_set_ne (by omega)
  unfold rangeK callF
  simp only [hGn]
  show callA P (.call 41 [.func (.yield (h.next + 32)) #[] #[], .pointer (some ⟨h.next + 21, 0, none⟩)]) _ _
  refine all1_call (op := op) (h0 := h) (l := h.next + 32) (x := h.next + 25 + 1 + 3) (b := h.next + 21)
    (tm := upds (argsEnv [Value.slice none 0 0, Value.func (Fn.func 41) #[] #[Value.pointer (some { block := h.next + 21, off := 0 })]])
          [(2, Value.pointer (some { block := h.next + 25 + 1 + 3, off := 0 })), (4, Value.slice none 0 0), (6, Value.func (Fn.func 41) #[] #[Value.pointer (some { block := h.next + 21, off := 0 })])])
    ⟨AHeap.get_set_same (by simp; omega), ⟨.slice none 0 0, ?_, .inl ⟨rfl, rfl⟩⟩, ?_, fun i hi => ?_, by simp; omega, by omega, by omega, by omega, by omega, by omega, by omega, rfl⟩ ho ?_
  · rw [AHeap.get_set_ne (by omega), AHeap.get_bump]; exact hGx
  · rw [AHeap.get_set_ne (by omega), AHeap.get_bump, hGo _ (by omega)]; exact hHb
  · rw [AHeap.get_set_ne (by omega), AHeap.get_bump, hGo _ (by omega), hHo _ hi]
  · intro h' s'
    have hlp := s'.loop
    obtain ⟨sl, hbx, hls⟩ := s'.box
    simp only [hlp]
    show f40_j1 (callA P) loopA (fun t4 h => K t4 h) _ _
    unfold f40_j1
    have hld : ld1 (.pointer (some ⟨h.next + 25 + 1 + 3, 0, none⟩)) ((h'.set (h.next + 32) (.loop ⟨.exhausted, none, upds (argsEnv [Value.slice none 0 0, Value.func (Fn.func 41) #[] #[Value.pointer (some { block := h.next + 21, off := 0 })]])
          [(2, Value.pointer (some { block := h.next + 25 + 1 + 3, off := 0 })), (4, Value.slice none 0 0), (6, Value.func (Fn.func 41) #[] #[Value.pointer (some { block := h.next + 21, off := 0 })])], [7], f40_ca0, f40_cb0⟩)).bump 2) = some sl :=
      ld1_of (B := ⟨_, _, _, _⟩) (by rw [AHeap.get_bump, AHeap.get_set_ne (by omega)]; exact hbx) rfl
    have e2 : upds (argsEnv [Value.slice none 0 0, Value.func (Fn.func 41) #[] #[Value.pointer (some { block := h.next + 21, off := 0 })]])
          [(2, Value.pointer (some { block := h.next + 25 + 1 + 3, off := 0 })), (4, Value.slice none 0 0), (6, Value.func (Fn.func 41) #[] #[Value.pointer (some { block := h.next + 21, off := 0 })])] 2 = Value.pointer (some { block := h.next + 25 + 1 + 3, off := 0 }) := rfl
    simp only [e2, hld, rdK_some]
    have hsl' : ∃ a n', sl = .slice a (cnt op 64) n' := by
      rcases hls with ⟨hz, rfl⟩ | ⟨r, xs, pl, rfl, _, _⟩
      · exact ⟨none, 0, by rw [hz]⟩
      · exact ⟨_, _, rfl⟩
    obtain ⟨a, n', rfl⟩ := hsl'
    refine hK a n' _ ?_ ?_
    · refine ⟨pl, hpl, ?_⟩
      rw [AHeap.get_bump, AHeap.get_set_ne (by omega), s'.old s hsl]; exact hg
    · refine ⟨by simp; have := s'.next; omega, fun i hi hl => ?_⟩
      rw [AHeap.get_bump, AHeap.get_set_ne (by omega), s'.old i hl]
end Go.Proofs.YtcoofhpdkgkjcaaGreatDoor.F
