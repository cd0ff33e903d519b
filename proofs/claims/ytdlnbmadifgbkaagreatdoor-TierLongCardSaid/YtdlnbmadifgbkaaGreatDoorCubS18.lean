/- Regions whose order is open: the theorem. -/
import Derived.Test.YtdlnbmadifgbkaaGreatDoorCubS17
namespace Go.Cub
set_option linter.unusedVariables false
set_option linter.unusedSimpArgs false
open Go

section
variable {P : Program} {gok : Nat → Bool}

def dset (done : Nat) : Nat → Bool := fun k => Nat.testBit done k
def lset (listed : Array Bool) : Nat → Bool := fun k => listed.getD k false

def histPut (hist : Nat → Nat → Value) (dst : Option Tmp) (c : Nat → Nat) (v : Value) : Nat → Nat → Value := fun t k => if dst = some t ∧ k = c t + 1 then v else hist t k

/-- An operation that the abstract machine has done and the model has not. -/
structure Pend (P : Program) (ops : Array Oper) (base : Nat) (hist : Nat → Nat → Value) (rd : List ReadRec) (h : AHeap) (i : Nat) (o : Oper) (ρ : Operand → Value) (v : Value) : Prop where
  quiet : isEff o = false
  tmp : ∀ t, Operand.tmp t ∈ o.op.operands → ρ (.tmp t) = hist t (cnt ops (bset ops i) t)
  other : ∀ x, (∀ t, x ≠ .tmp t) → ρ x = (⟨fun _ => undef, []⟩ : AAct).eval x
  dst : ∀ d, o.dst = some d → hist d (cnt ops (bset ops i) d + 1) = v
  what : (wantedA ops o (fun t => hist t (cnt ops (bset ops i) t)) = true ∧
      (∃ h0 h1, aOp P ρ o (base + i) h0 = some (v, h1) ∧ base + i < h0.next ∧ (∀ ob, h1.get (base + i) = some ob → h.get (base + i) = some ob)) ∧
      (isRead o = true → ⟨i, o, ρ, v⟩ ∈ rd ∧ ∃ h2, aOp P ρ o (base + i) h = some (v, h2))) ∨
    (wantedA ops o (fun t => hist t (cnt ops (bset ops i) t)) = false ∧ v = undef)

theorem wantedA_congr {ops : Array Oper} {o : Oper} {e e' : Nat → Value} (h : ∀ t, guardTmp ops o = some t → e t = e' t) : wantedA ops o e = wantedA ops o e' := by
  unfold wantedA
  cases hg : o.guard with
  | none => rfl
  | some jw =>
    obtain ⟨j, want⟩ := jw
    simp only
    cases hj : ops[j]? with
    | none => rfl
    | some oj =>
      simp only
      cases hd : oj.dst with
      | none => rfl
      | some d => simp only; rw [h d (by simp [guardTmp, hg, hj, hd])]

theorem asapPick_some {ops : Array Oper} {bef : Array Nat} {done i : Nat} : ∀ {l : List Nat}, asapPick ops bef done l = some i → i ∈ l ∧ ∀ k, Nat.testBit (bef.getD i 0) k = true → Nat.testBit done k = true := by
  intro l
  induction l with
  | nil => intro h; simp [asapPick] at h
  | cons a l ih =>
    intro h
    simp only [asapPick] at h
    split at h
    · rename_i hb
      cases h
      refine ⟨by simp, fun k hk => ?_⟩
      have := eq_of_beqN hb
      rw [← this, Nat.testBit_and] at hk
      simp only [Bool.and_eq_true] at hk
      exact hk.2
    · obtain ⟨a, b⟩ := ih h; exact ⟨by simp [a], b⟩

theorem asapPick_none {ops : Array Oper} {bef : Array Nat} {done : Nat} : ∀ {l : List Nat}, asapPick ops bef done l = none → ∀ i ∈ l, ¬ ∀ k, Nat.testBit (bef.getD i 0) k = true → Nat.testBit done k = true := by
  intro l
  induction l with
  | nil => intro _ i hi; simp at hi
  | cons a l ih =>
    intro h i hi hall
    simp only [asapPick] at h
    split at h
    · cases h
    · rename_i hb
      simp at hi
      rcases hi with rfl | hi
      · have : (bef.getD i 0) &&& done = bef.getD i 0 := by
          apply Nat.eq_of_testBit_eq
          intro k
          rw [Nat.testBit_and]
          cases hk : Nat.testBit (bef.getD i 0) k with
          | false => rfl
          | true => rw [hall k hk]; rfl
        rw [this, Nat.beq_refl] at hb; cases hb
      · exact ih h i hi hall

/-- All that is known on the way through a region. -/
structure RInv (P : Program) (gok : Nat → Bool) (r : Option Nat) (ops : Array Oper) (base N : Nat) (m₀ : AMap) (h₀ : AHeap) (w₀ : World) (Ds : List Nat) (K : AAct → AHeap → Prop)
    (f : Nat) (quiet loud : List Nat) (done : Nat) (rd : List ReadRec) (a : AAct) (h : AHeap) (S : Nat → Bool) (a' : Act) (m : AMap) (w : World) (hist : Nat → Nat → Value) : Prop where
  hop : aOps P (Conc P gok) r.isSome true ops (Region.before ops) base (asapGo ops (Region.before ops) f quiet loud done) rd a K h
  fuel : quiet.length + loud.length ≤ f
  qmem : ∀ i, i ∈ quiet ↔ ∃ o, ops[i]? = some o ∧ isEff o = false ∧ dset done i = false
  lmem : ∀ i, i ∈ loud ↔ ∃ o, ops[i]? = some o ∧ isEff o = true ∧ dset done i = false
  qnd : quiet.Nodup
  lsort : loud.Pairwise (· < ·)
  sub : ∀ i, S i = true → dset done i = true
  effS : ∀ (i : Nat) o, ops[i]? = some o → isEff o = true → dset done i = true → S i = true
  dlt : ∀ i, dset done i = true → i < ops.size
  dcl : Closed ops (dset done)
  scl : Closed ops S
  H : HRel m h w
  G : GRel gok m
  D : DRel m w a.defers a'.defers Ds
  size : a'.tmps.size = N
  E : Ext (base ≤ ·) m₀ h₀ w₀ m h w
  env : ∀ t, a.env t = hist t (cnt ops (dset done) t)
  rel : ∀ t, VRel m (hist t (cnt ops S t)) (a'.tmps.getD t undef)
  pend : ∀ i, dset done i = true → S i = false → ∃ o ρ v, ops[i]? = some o ∧ Pend P ops base hist rd h i o ρ v
  mfree : ∀ i, i < ops.size → S i = false → m (base + i) = none
  hfree : ∀ i, i < ops.size → dset done i = false → h.get (base + i) = none
  room : base + ops.size ≤ h.next

variable {r : Option Nat} {ops : Array Oper} {base N : Nat} {m₀ : AMap} {h₀ : AHeap} {w₀ : World} {Ds : List Nat} {K : AAct → AHeap → Prop}

theorem dset_or (done i k : Nat) : dset (done ||| 2 ^ i) k = (dset done k || decide (k = i)) := or_pow done i k

theorem names_op {o : Oper} {t : Tmp} (h : Operand.tmp t ∈ o.op.operands) : t ∈ namesOf ops o := by
  unfold namesOf
  refine List.mem_append_right _ (List.mem_append_left _ (List.mem_filterMap.2 ⟨.tmp t, by simpa using h, rfl⟩))
theorem names_dst {o : Oper} {d : Tmp} (h : o.dst = some d) : d ∈ namesOf ops o := by simp [namesOf, h]
theorem names_guard {o : Oper} {t : Tmp} (h : guardTmp ops o = some t) : t ∈ namesOf ops o := by simp [namesOf, h]

theorem writes_dst {i : Nat} {o : Oper} (ho : ops[i]? = some o) (t : Tmp) : writes ops t i = (o.dst == some t) := by simp [writes, ho]

/-- The history grows; what stood in it stays. -/
theorem Pend.grow {hist : Nat → Nat → Value} {rd rd' : List ReadRec} {h h' : AHeap} {i j : Nat} {o oj : Oper} {ρ : Operand → Value} {v : Value} {done : Nat} {u : Value} (F : RegFacts ops) (hp : Pend P ops base hist rd h j oj ρ v)
    (hoj : ops[j]? = some oj) (hjD : dset done j = true) (hcl : Closed ops (dset done)) (ho : ops[i]? = some o)
    (hrd : ∀ x ∈ rd, x ∈ rd') (hob : ∀ ob, h.get (base + j) = some ob → h'.get (base + j) = some ob)
    (hread : isRead oj = true → wantedA ops oj (fun t => hist t (cnt ops (bset ops j) t)) = true → (∃ h2, aOp P ρ oj (base + j) h = some (v, h2)) → ⟨j, oj, ρ, v⟩ ∈ rd → ∃ h2, aOp P ρ oj (base + j) h' = some (v, h2)) :
    Pend P ops base (histPut hist o.dst (cnt ops (dset done)) u) rd' h' j oj ρ v := by
  have same : ∀ t, histPut hist o.dst (cnt ops (dset done)) u t (cnt ops (bset ops j) t) = hist t (cnt ops (bset ops j) t) := by
    intro t
    unfold histPut
    rw [if_neg]
    rintro ⟨_, e⟩
    have := cnt_mono (ops := ops) (t := t) (X := bset ops j) (Y := dset done) (fun k hk => hcl j hjD k hk)
    omega
  have hwant : wantedA ops oj (fun t => histPut hist o.dst (cnt ops (dset done)) u t (cnt ops (bset ops j) t)) = wantedA ops oj (fun t => hist t (cnt ops (bset ops j) t)) := wantedA_congr fun t _ => same t
  refine ⟨hp.quiet, fun t ht => by rw [same]; exact hp.tmp t ht, hp.other, fun d hd => ?_, ?_⟩
  · rw [← hp.dst d hd]
    unfold histPut
    rw [if_neg]
    rintro ⟨_, e⟩
    -- j itself has written d
    have hjlt : j < ops.size := (Array.getElem?_eq_some_iff.1 hoj).1
    have hnj : bset ops j j = false := by
      cases hb : bset ops j j with
      | false => rfl
      | true => have := before_lt F j j hb; omega
    have h1 := cnt_add (ops := ops) (t := d) (X := bset ops j) (Y := fun k => bset ops j k || decide (k = j)) hjlt hnj (fun k => rfl)
    rw [writes_dst hoj, hd] at h1
    simp only [beq_self_eq_true, if_true] at h1
    have h2 := cnt_mono (ops := ops) (t := d) (X := fun k => bset ops j k || decide (k = j)) (Y := dset done) (fun k hk => by
      simp only [Bool.or_eq_true, decide_eq_true_eq] at hk
      rcases hk with hk | rfl
      · exact hcl j hjD k hk
      · exact hjD)
    omega
  · rw [hwant]
    rcases hp.what with ⟨a, ⟨h0, h1, b1, b2, b3⟩, c⟩ | ⟨a, b⟩
    · refine .inl ⟨a, ⟨h0, h1, b1, b2, fun ob hob' => hob ob (b3 ob hob')⟩, fun hr => ?_⟩
      obtain ⟨c1, c2⟩ := c hr
      exact ⟨hrd _ c1, hread hr a c2 c1⟩
    · exact .inr ⟨a, b⟩

theorem histPut_env {hist : Nat → Nat → Value} {done i : Nat} {o : Oper} {a : AAct} {v : Value} (ho : ops[i]? = some o) (hi : dset done i = false) (he : ∀ t, a.env t = hist t (cnt ops (dset done) t)) (t : Tmp) :
    (a.put o.dst v).env t = histPut hist o.dst (cnt ops (dset done)) v t (cnt ops (dset (done ||| 2 ^ i)) t) := by
  have hlt : i < ops.size := (Array.getElem?_eq_some_iff.1 ho).1
  have hc := cnt_add (ops := ops) (t := t) hlt hi (fun k => dset_or done i k)
  rw [writes_dst ho] at hc
  unfold histPut
  cases hd : o.dst with
  | none =>
    rw [hd] at hc
    rw [if_neg (by simp), hc]
    simpa [AAct.put] using he t
  | some d =>
    rw [hd] at hc
    by_cases e : d = t
    · subst e
      simp only [beq_self_eq_true, if_true] at hc
      rw [if_pos ⟨rfl, hc⟩]
      simp [AAct.put, upd_same]
    · have hb : (some d == some t) = false := by simp [e]
      rw [hb] at hc
      simp only [Bool.false_eq_true, if_false, Nat.add_zero] at hc
      rw [if_neg (fun x => e (by simpa using x.1)), hc]
      simpa [AAct.put, upd_ne _ _ (Ne.symm e)] using he t

/-- Quiet operations are done as early as may be. -/
theorem saturate (F : RegFacts ops) : ∀ (n : Nat) (f : Nat) (quiet loud : List Nat) (done : Nat) (rd : List ReadRec) (a : AAct) (h : AHeap) (S : Nat → Bool) (a' : Act) (m : AMap) (w : World) (hist : Nat → Nat → Value),
    quiet.length = n → RInv P gok r ops base N m₀ h₀ w₀ Ds K f quiet loud done rd a h S a' m w hist →
    ∃ f quiet done rd a h hist, RInv P gok r ops base N m₀ h₀ w₀ Ds K f quiet loud done rd a h S a' m w hist ∧ asapPick ops (Region.before ops) done quiet = none := by
  intro n
  induction n with
  | zero =>
    intro f quiet loud done rd a h S a' m w hist hn I
    exact ⟨f, quiet, done, rd, a, h, hist, I, by rw [List.eq_nil_of_length_eq_zero hn]; rfl⟩
  | succ n ih =>
    intro f quiet loud done rd a h S a' m w hist hn I
    cases hp : asapPick ops (Region.before ops) done quiet with
    | none => exact ⟨f, quiet, done, rd, a, h, hist, I, hp⟩
    | some i =>
      obtain ⟨hiq, hib⟩ := asapPick_some hp
      obtain ⟨o, ho, hq, hiD⟩ := (I.qmem i).1 hiq
      have hilt : i < ops.size := (Array.getElem?_eq_some_iff.1 ho).1
      have hiS : S i = false := by
        cases hs : S i with
        | false => rfl
        | true => have := I.sub i hs; rw [hiD] at this; cases this
      obtain ⟨f', rfl⟩ : ∃ f', f = f' + 1 := ⟨f - 1, by have := I.fuel; omega⟩
      have hop := I.hop
      simp only [asapGo, hp, aOps, ho] at hop
      have hmi := I.mfree i hilt hiS
      have hgi := I.hfree i hilt hiD
      have hroom : base + i < h.next := Nat.lt_of_lt_of_le (by omega) I.room
      have hbD : ∀ k, bset ops i k = true → dset done k = true := hib
      have hcb : ∀ t, t ∈ namesOf ops o → cnt ops (dset done) t = cnt ops (bset ops i) t := fun t ht => cnt_before F I.dcl ho hiD hbD ht
      have hwant : wantedA ops o a.env = wantedA ops o (fun t => hist t (cnt ops (bset ops i) t)) := wantedA_congr fun t ht => by rw [I.env t, hcb t (names_guard ht)]
      -- the new invariant, whatever has become of the operation
      have next : ∀ (v : Value) (h1 : AHeap) (rd' : List ReadRec), aOps P (Conc P gok) r.isSome true ops (Region.before ops) base (asapGo ops (Region.before ops) f' (quiet.erase i) loud (done ||| 2 ^ i)) rd' (a.put o.dst v) K h1 →
          (h1 = h ∨ ∃ ob, h1 = h.set (base + i) ob) → (∀ x ∈ rd, x ∈ rd') →
          ((wantedA ops o a.env = true ∧ (∃ h1', aOp P a.eval o (base + i) h = some (v, h1') ∧ (∀ ob, h1'.get (base + i) = some ob → h1.get (base + i) = some ob)) ∧ (isRead o = true → ⟨i, o, a.eval, v⟩ ∈ rd' ∧ ∃ h2, aOp P a.eval o (base + i) h1 = some (v, h2))) ∨
            (wantedA ops o a.env = false ∧ v = undef)) →
          RInv P gok r ops base N m₀ h₀ w₀ Ds K f' (quiet.erase i) loud (done ||| 2 ^ i) rd' (a.put o.dst v) h1 S a' m w (histPut hist o.dst (cnt ops (dset done)) v) := by
        intro v h1 rd' hop' hh hrd hwhat
        have hD' : ∀ k, dset (done ||| 2 ^ i) k = true ↔ (dset done k = true ∨ k = i) := fun k => by rw [dset_or]; simp
        have hDf : ∀ k, dset (done ||| 2 ^ i) k = false ↔ (dset done k = false ∧ k ≠ i) := fun k => by rw [dset_or]; simp
        have hsub : h.sub h1 ∧ HRel m h1 w ∧ Ext (base ≤ ·) m₀ h₀ w₀ m h1 w ∧ h1.next = h.next ∧ (∀ k, k ≠ base + i → h1.get k = h.get k) := by
          rcases hh with rfl | ⟨ob, rfl⟩
          · exact ⟨fun _ _ x => x, I.H, I.E, rfl, fun _ _ => rfl⟩
          · exact ⟨AHeap.sub_set hgi, I.H.lay hmi ob, I.E.trans ((Ext.lay hmi ob).mono fun k hk => by omega), by simp, fun k hk => AHeap.get_set_ne hk⟩
        obtain ⟨hsub, H1, E1, hnx, hget⟩ := hsub
        have hcard : (quiet.erase i).length = quiet.length - 1 := List.length_erase_of_mem hiq
        refine ⟨hop', by have := I.fuel; omega, fun k => ?_, fun k => ?_, I.qnd.erase i, I.lsort, fun k hk => (hD' k).2 (.inl (I.sub k hk)), fun k ok hok hek hk => ?_, fun k hk => ?_, fun k hk j hj => ?_, I.scl, H1, I.G, by simpa using I.D, I.size, E1,
          histPut_env ho hiD I.env, fun t => ?_, fun k hk hkS => ?_, I.mfree, fun k hk hkD => ?_, by rw [hnx]; exact I.room⟩
        · rw [List.Nodup.mem_erase_iff I.qnd, I.qmem k]
          constructor
          · rintro ⟨hne, ok, a1, a2, a3⟩; exact ⟨ok, a1, a2, (hDf k).2 ⟨a3, hne⟩⟩
          · rintro ⟨ok, a1, a2, a3⟩; exact ⟨((hDf k).1 a3).2, ok, a1, a2, ((hDf k).1 a3).1⟩
        · rw [I.lmem k]
          constructor
          · rintro ⟨ok, a1, a2, a3⟩
            refine ⟨ok, a1, a2, (hDf k).2 ⟨a3, fun e => ?_⟩⟩
            subst e; rw [ho] at a1; cases a1; rw [hq] at a2; cases a2
          · rintro ⟨ok, a1, a2, a3⟩; exact ⟨ok, a1, a2, ((hDf k).1 a3).1⟩
        · rcases (hD' k).1 hk with hk | rfl
          · exact I.effS k ok hok hek hk
          · rw [ho] at hok; cases hok; rw [hq] at hek; cases hek
        · rcases (hD' k).1 hk with hk | rfl
          · exact I.dlt k hk
          · exact hilt
        · rcases (hD' k).1 hk with hk | rfl
          · exact (hD' j).2 (.inl (I.dcl k hk j hj))
          · exact (hD' j).2 (.inl (hbD j hj))
        · have : histPut hist o.dst (cnt ops (dset done)) v t (cnt ops S t) = hist t (cnt ops S t) := by
            unfold histPut
            rw [if_neg]
            rintro ⟨_, e⟩
            have := cnt_mono (ops := ops) (t := t) (X := S) (Y := dset done) I.sub
            omega
          rw [this]; exact I.rel t
        · rcases (hD' k).1 hk with hk2 | rfl
          · obtain ⟨ok, ρ, vk, hok, hpk⟩ := I.pend k hk2 hkS
            have hne : k ≠ i := fun e => by subst e; rw [hiD] at hk2; cases hk2
            exact ⟨ok, ρ, vk, hok, hpk.grow F hok hk2 I.dcl ho hrd (fun ob hob => by rw [hget _ (by omega)]; exact hob) (fun hr _ hx _ => by obtain ⟨h2, hx⟩ := hx; exact read_sub hsub hx hr)⟩
          · refine ⟨o, a.eval, v, ho, hq, fun t ht => ?_, fun x hx => ?_, fun d hd => ?_, ?_⟩
            · show a.env t = _
              rw [I.env t, hcb t (names_op ht)]
              unfold histPut
              rw [if_neg (by rintro ⟨_, e⟩; have := hcb t (names_op ht); omega)]
            · cases x with
              | tmp t => exact absurd rfl (hx t)
              | const u => rfl
              | global g => rfl
              | func g => rfl
            · unfold histPut
              rw [if_pos ⟨hd, by rw [hcb d (names_dst hd)]⟩]
            · have hw2 : wantedA ops o (fun t => histPut hist o.dst (cnt ops (dset done)) v t (cnt ops (bset ops k) t)) = wantedA ops o a.env := by
                rw [hwant]
                refine wantedA_congr fun t ht => ?_
                unfold histPut
                rw [if_neg (by rintro ⟨_, e⟩; have := hcb t (names_guard ht); omega)]
              rw [hw2]
              rcases hwhat with ⟨x1, ⟨h1', x2, x3⟩, x4⟩ | x
              · exact .inl ⟨x1, ⟨h, h1', x2, hroom, x3⟩, x4⟩
              · exact .inr x
        · obtain ⟨hkD, hne⟩ := (hDf k).1 hkD
          rw [hget _ (by omega)]; exact I.hfree k hk hkD
      have hlen : (quiet.erase i).length = n := by rw [List.length_erase_of_mem hiq]; omega
      split at hop
      · rename_i hw
        exact ih _ _ _ _ _ _ _ _ _ _ _ _ hlen (next undef h rd hop (.inl rfl) (fun _ x => x) (.inr ⟨hw, rfl⟩))
      · rename_i hw
        have hqo : aOpK P (Conc P gok) r.isSome o (base + i) a h (fun v a1 h1 => aOps P (Conc P gok) r.isSome true ops (Region.before ops) base (asapGo ops (Region.before ops) f' (quiet.erase i) loud (done ||| 2 ^ i)) (match isRead o with | true => ⟨i, o, a.eval, v⟩ :: rd | false => rd) (a1.put o.dst v) K h1) := by
          simp only [hq] at hop; exact hop
        obtain ⟨v, h1, hq1, hk⟩ : ∃ v h1, aOp P a.eval o (base + i) h = some (v, h1) ∧ aOps P (Conc P gok) r.isSome true ops (Region.before ops) base (asapGo ops (Region.before ops) f' (quiet.erase i) loud (done ||| 2 ^ i)) (match isRead o with | true => ⟨i, o, a.eval, v⟩ :: rd | false => rd) (a.put o.dst v) K h1 := by
          unfold aOpK at hqo
          split at hqo
          · rename_i e; simp [isEff, e] at hq
          · rename_i e; simp [isEff, e] at hq
          · rename_i e; simp [isEff, e] at hq
          · rename_i e; simp [isEff, e] at hq
          · split at hqo
            · rename_i v h1 e; exact ⟨v, h1, e, hqo⟩
            · exact hqo.elim
        have hh := quiet_heap hq1 hq
        refine ih _ _ _ _ _ _ _ _ _ _ _ _ hlen (next v h1 _ hk hh (fun x hx => by split <;> simp [hx]) (.inl ⟨hw, ⟨h1, hq1, fun ob hob => hob⟩, fun hr => ⟨by rw [hr]; simp, ?_⟩⟩))
        have hsub : h.sub h1 := by
          rcases hh with rfl | ⟨ob, rfl⟩
          · exact fun _ _ x => x
          · exact AHeap.sub_set hgi
        exact read_sub hsub hq1 hr

theorem checks_spec {before : Nat} {h : AHeap} : ∀ {rd : List ReadRec}, checks P base before h rd = true → ∀ x ∈ rd, Nat.testBit before x.i = false → ∃ h2, aOp P x.ρ x.o (base + x.i) h = some (x.v, h2) := by
  intro rd
  induction rd with
  | nil => intro _ x hx; simp at hx
  | cons y rd ih =>
    intro hc x hx hb
    simp only [checks] at hc
    simp at hx
    split at hc
    · rename_i hy
      rcases hx with rfl | hx
      · rw [hb] at hy; cases hy
      · exact ih hc x hx hb
    · split at hc
      · rename_i v h2 e
        simp only [Bool.and_eq_true] at hc
        rcases hx with rfl | hx
        · exact ⟨h2, by rw [e, beqR_eq hc.1]⟩
        · exact ih hc.2 x hx hb
      · cases hc

/-- One more operation of the model's. -/
theorem rel_put {S S' : Nat → Bool} {hist : Nat → Nat → Value} {a' : Act} {m m' : AMap} {i : Nat} {o : Oper} {v v' : Value} (ho : ops[i]? = some o) (hS : S i = false) (hS' : ∀ k, S' k = (S k || decide (k = i)))
    (hle : m.le m') (hr : ∀ t, VRel m (hist t (cnt ops S t)) (a'.tmps.getD t undef)) (hv : VRel m' v v') (hd : ∀ d, o.dst = some d → d < a'.tmps.size ∧ hist d (cnt ops S d + 1) = v) :
    ∀ t, VRel m' (hist t (cnt ops S' t)) ((a'.put o.dst v').tmps.getD t undef) := by
  intro t
  have hlt : i < ops.size := (Array.getElem?_eq_some_iff.1 ho).1
  have hc := cnt_add (ops := ops) (t := t) hlt hS hS'
  rw [writes_dst ho] at hc
  cases hdst : o.dst with
  | none =>
    rw [hdst] at hc
    simp only [reduceCtorEq, beq_iff_eq, if_false, Nat.add_zero] at hc
    rw [hc]
    exact (hr t).mono hle
  | some d =>
    rw [hdst] at hc
    obtain ⟨hds, hdh⟩ := hd d hdst
    by_cases e : d = t
    · subst e
      simp only [beq_self_eq_true, if_true] at hc
      rw [hc, hdh]
      simpa [Act.put, hds] using hv
    · have hb : (some d == some t) = false := by simp [e]
      rw [hb] at hc
      simp only [Bool.false_eq_true, if_false, Nat.add_zero] at hc
      rw [hc]
      have := (hr t).mono hle
      simpa [Act.put, Array.getElem?_setIfInBounds_ne e] using this

theorem lset_set {listed : Array Bool} {i : Nat} (hi : i < listed.size) (k : Nat) : lset (listed.setIfInBounds i true) k = (lset listed k || decide (k = i)) := by
  unfold lset
  by_cases e : k = i
  · subst e; simp [hi]
  · simp [Array.getElem?_setIfInBounds_ne (Ne.symm e), e]

/-- What stands before an operation that is ready has been done. -/
theorem ready_before {S : Nat → Bool} (hS : Closed ops S) {i : Nat} {o : Oper} (ho : ops[i]? = some o) (hr : ∀ e ∈ o.after.toList, Region.binds .any e = true → S e.on = true) : ∀ k, bset ops i k = true → S k = true := by
  intro k hk
  obtain ⟨o', ho', e, he, hb, h⟩ := before_inv ops i k hk
  rw [ho] at ho'; cases ho'
  rcases h with rfl | h
  · exact hr e he hb
  · exact hS _ (hr e he hb) k h
end
end Go.Cub
