/- Regions whose order is open: along the model's schedule. -/
import Derived.Test.YtdlnbmadifgbkaaGreatDoorCubS18
namespace Go.Cub
set_option linter.unusedVariables false
set_option linter.unusedSimpArgs false
open Go

section
variable {P : Program} {gok : Nat → Bool}
variable {r : Option Nat} {ops : Array Oper} {base N : Nat} {m₀ : AMap} {h₀ : AHeap} {w₀ : World} {Ds : List Nat} {K : AAct → AHeap → Prop}

/-- Behind an effect. -/
theorem eff_next (F : RegFacts ops) {f : Nat} {quiet loud : List Nat} {done : Nat} {rd : List ReadRec} {a : AAct} {h : AHeap} {S S' : Nat → Bool} {a' : Act} {m : AMap} {w : World} {hist : Nat → Nat → Value} {i : Nat} {o : Oper}
    (I : RInv P gok r ops base N m₀ h₀ w₀ Ds K (f + 1) quiet (i :: loud) done rd a h S a' m w hist) (ho : ops[i]? = some o) (he : isEff o = true) (hiS : S i = false) (hib : ∀ k, bset ops i k = true → S k = true)
    (hS' : ∀ k, S' k = (S k || decide (k = i))) {v v' : Value} {a₁ : AAct} {h₁ : AHeap} {m₁ : AMap} {w₁ : World} {a₁' : Act} (hok : operOk gok N o = true)
    (hv : VRel m₁ v v') (H₁ : HRel m₁ h₁ w₁) (E₁ : Ext (fun k => k = base + i ∨ h.next ≤ k) m h w m₁ h₁ w₁) (henv : a₁.env = a.env) (htm : a₁'.tmps = a'.tmps) (hD : DRel m₁ w₁ a₁.defers a₁'.defers Ds)
    (hop : aOps P (Conc P gok) r.isSome true ops (Region.before ops) base (asapGo ops (Region.before ops) f quiet loud (done ||| 2 ^ i)) rd (a₁.put o.dst v) K h₁)
    (hrd : ∀ x ∈ rd, bset ops i x.i = false → (∃ h2, aOp P x.ρ x.o (base + x.i) h = some (x.v, h2)) → ∃ h2, aOp P x.ρ x.o (base + x.i) h₁ = some (x.v, h2)) :
    RInv P gok r ops base N m₀ h₀ w₀ Ds K f quiet loud (done ||| 2 ^ i) rd (a₁.put o.dst v) h₁ S' (a₁'.put o.dst v') m₁ w₁ (histPut hist o.dst (cnt ops (dset done)) v) := by
  have hiD : dset done i = false := by
    cases hd : dset done i with
    | false => rfl
    | true => have := I.effS i o ho he hd; rw [hiS] at this; cases this
  have hilt : i < ops.size := (Array.getElem?_eq_some_iff.1 ho).1
  have hD' : ∀ k, dset (done ||| 2 ^ i) k = true ↔ (dset done k = true ∨ k = i) := fun k => by rw [dset_or]; simp
  have hDf : ∀ k, dset (done ||| 2 ^ i) k = false ↔ (dset done k = false ∧ k ≠ i) := fun k => by rw [dset_or]; simp
  have hSt : ∀ k, S' k = true ↔ (S k = true ∨ k = i) := fun k => by rw [hS']; simp
  have hSf : ∀ k, S' k = false ↔ (S k = false ∧ k ≠ i) := fun k => by rw [hS']; simp
  have hcb : ∀ t, t ∈ namesOf ops o → cnt ops (dset done) t = cnt ops S t := fun t ht => by
    rw [cnt_before F I.dcl ho hiD (fun k hk => I.sub k (hib k hk)) ht, cnt_before F I.scl ho hiS hib ht]
  have hsort := List.pairwise_cons.1 I.lsort
  refine ⟨hop, by have := I.fuel; simp at this; omega, fun k => ?_, fun k => ?_, I.qnd, hsort.2, fun k hk => ?_, fun k ok hk1 hk2 hk3 => ?_, fun k hk => ?_, fun k hk j hj => ?_, fun k hk j hj => ?_, H₁, I.G.mono E₁.le, by simpa using hD,
    by rw [put_size, htm]; exact I.size, I.E.trans (E₁.mono fun k hk => by have := I.room; rcases hk with rfl | hk <;> omega), histPut_env ho hiD (fun t => by rw [henv]; exact I.env t), ?_, fun k hk hkS => ?_, fun k hk hkS => ?_, fun k hk hkD => ?_, Nat.le_trans I.room E₁.next⟩
  · rw [I.qmem k]
    constructor
    · rintro ⟨ok, a1, a2, a3⟩
      refine ⟨ok, a1, a2, (hDf k).2 ⟨a3, fun e => ?_⟩⟩
      subst e; rw [ho] at a1; cases a1; rw [he] at a2; cases a2
    · rintro ⟨ok, a1, a2, a3⟩; exact ⟨ok, a1, a2, ((hDf k).1 a3).1⟩
  · have hl := I.lmem k
    constructor
    · intro hk
      have hne : k ≠ i := fun e => by subst e; exact absurd (hsort.1 k hk) (Nat.lt_irrefl _)
      obtain ⟨ok, a1, a2, a3⟩ := hl.1 (by simp [hk])
      exact ⟨ok, a1, a2, (hDf k).2 ⟨a3, hne⟩⟩
    · rintro ⟨ok, a1, a2, a3⟩
      obtain ⟨b1, b2⟩ := (hDf k).1 a3
      have := hl.2 ⟨ok, a1, a2, b1⟩
      simp at this
      exact this.resolve_left b2
  · rcases (hSt k).1 hk with hk2 | rfl
    · exact (hD' k).2 (.inl (I.sub k hk2))
    · exact (hD' k).2 (.inr rfl)
  · rcases (hD' k).1 hk3 with hk4 | rfl
    · exact (hSt k).2 (.inl (I.effS k ok hk1 hk2 hk4))
    · exact (hSt k).2 (.inr rfl)
  · rcases (hD' k).1 hk with hk2 | rfl
    · exact I.dlt k hk2
    · exact hilt
  · rcases (hD' k).1 hk with hk2 | rfl
    · exact (hD' j).2 (.inl (I.dcl k hk2 j hj))
    · exact (hD' j).2 (.inl (I.sub j (hib j hj)))
  · rcases (hSt k).1 hk with hk2 | rfl
    · exact (hSt j).2 (.inl (I.scl k hk2 j hj))
    · exact (hSt j).2 (.inl (hib j hj))
  · have hsame : ∀ t, VRel m (histPut hist o.dst (cnt ops (dset done)) v t (cnt ops S t)) (a'.tmps.getD t undef) := fun t => by
      unfold histPut
      rw [if_neg (by
        rintro ⟨_, e⟩
        have := cnt_mono (ops := ops) (t := t) (X := S) (Y := dset done) I.sub
        omega)]
      exact I.rel t
    have := rel_put (a' := a₁') (m := m) ho hiS hS' E₁.le (by rw [htm]; exact hsame) hv (fun d hd => ⟨by rw [htm, I.size]; exact dst_ok hok hd, by
      unfold histPut
      rw [if_pos ⟨hd, by rw [hcb d (names_dst hd)]⟩]⟩)
    exact this
  · have hk2 : dset done k = true := by
      rcases (hD' k).1 hk with hk2 | rfl
      · exact hk2
      · have := (hSf k).1 hkS; exact absurd rfl this.2
    obtain ⟨hkS2, hne⟩ := (hSf k).1 hkS
    obtain ⟨ok, ρ, vk, hok', hpk⟩ := I.pend k hk2 hkS2
    have hklt := I.dlt k hk2
    have hmk := I.mfree k hklt hkS2
    have hget : h₁.get (base + k) = h.get (base + k) := E₁.frA _ (by have := I.room; omega) hmk (by have := I.room; omega)
    refine ⟨ok, ρ, vk, hok', hpk.grow F hok' hk2 I.dcl ho (fun _ x => x) (fun ob hob => by rw [hget]; exact hob) (fun hr _ hx hm => ?_)⟩
    have hnb : bset ops i k = false := by
      cases hb : bset ops i k with
      | false => rfl
      | true => rw [hib k hb] at hkS2; cases hkS2
    exact hrd _ hm hnb hx
  · obtain ⟨hkS2, hne⟩ := (hSf k).1 hkS
    have hmk := I.mfree k hk hkS2
    exact Classical.byContradiction fun e => by
      rcases E₁.new _ hmk e with h1 | h1
      · omega
      · have := I.room; omega
  · obtain ⟨hkD2, hne⟩ := (hDf k).1 hkD
    have hkS2 : S k = false := by
      cases hs : S k with
      | false => rfl
      | true => rw [I.sub k hs] at hkD2; cases hkD2
    rw [E₁.frA _ (by have := I.room; omega) (I.mfree k hk hkS2) (by have := I.room; omega)]
    exact I.hfree k hk hkD2

/-- Behind a quiet operation of the model's. -/
theorem quiet_next {f : Nat} {quiet loud : List Nat} {done : Nat} {rd : List ReadRec} {a : AAct} {h : AHeap} {S S' : Nat → Bool} {a' : Act} {m m' : AMap} {w w' : World} {hist : Nat → Nat → Value} {i : Nat} {o : Oper} {v v' : Value}
    (I : RInv P gok r ops base N m₀ h₀ w₀ Ds K f quiet loud done rd a h S a' m w hist) (ho : ops[i]? = some o) (hiS : S i = false) (hiD : dset done i = true) (hib : ∀ k, bset ops i k = true → S k = true)
    (hS' : ∀ k, S' k = (S k || decide (k = i))) (hok : operOk gok N o = true) (hv : VRel m' v v') (H' : HRel m' h w') (E' : Ext (· = base + i) m h w m' h w') (hdst : ∀ d, o.dst = some d → hist d (cnt ops S d + 1) = v) :
    RInv P gok r ops base N m₀ h₀ w₀ Ds K f quiet loud done rd a h S' (a'.put o.dst v') m' w' hist := by
  have hSt : ∀ k, S' k = true ↔ (S k = true ∨ k = i) := fun k => by rw [hS']; simp
  have hSf : ∀ k, S' k = false ↔ (S k = false ∧ k ≠ i) := fun k => by rw [hS']; simp
  refine ⟨I.hop, I.fuel, I.qmem, I.lmem, I.qnd, I.lsort, fun k hk => ?_, fun k ok h1 h2 h3 => (hSt k).2 (.inl (I.effS k ok h1 h2 h3)), I.dlt, I.dcl, fun k hk j hj => ?_, H', I.G.mono E'.le, by simpa using I.D.mono E',
    by rw [put_size]; exact I.size, I.E.trans (E'.mono fun k hk => by omega), I.env, rel_put ho hiS hS' E'.le I.rel hv (fun d hd => ⟨by rw [I.size]; exact dst_ok hok hd, hdst d hd⟩), fun k hk hkS => I.pend k hk ((hSf k).1 hkS).1, fun k hk hkS => ?_, I.hfree, I.room⟩
  · rcases (hSt k).1 hk with hk2 | rfl
    · exact I.sub k hk2
    · exact hiD
  · rcases (hSt k).1 hk with hk2 | rfl
    · exact (hSt j).2 (.inl (I.scl k hk2 j hj))
    · exact (hSt j).2 (.inl (hib j hj))
  · obtain ⟨hkS2, hne⟩ := (hSf k).1 hkS
    exact Classical.byContradiction fun e => by
      have := E'.new _ (I.mfree k hk hkS2) e
      omega

theorem isEff_defer {o : Oper} (h : isEff o = false) : ∀ c, o.op ≠ .defer c := fun c hc => by simp [isEff, hc] at h

def unlisted (ops : Array Oper) (S : Nat → Bool) : Nat := ((List.range ops.size).filter fun i => !S i).length

theorem unlisted_set {S S' : Nat → Bool} {i : Nat} (hi : i < ops.size) (hS : S i = false) (hS' : ∀ k, S' k = (S k || decide (k = i))) : unlisted ops S = unlisted ops S' + 1 := by
  unfold unlisted
  refine filter_add (i := i) (by simp [hS']) (fun k => ?_) _ List.nodup_range (List.mem_range.2 hi)
  rw [hS']
  by_cases e : k = i
  · subst e; simp [hS]
  · simp [e]

theorem all_of_unlisted {S : Nat → Bool} (h : unlisted ops S = 0) : ∀ i, i < ops.size → S i = true := fun i hi => by
  have := List.eq_nil_of_length_eq_zero h
  cases hs : S i with
  | true => rfl
  | false =>
    have : i ∈ (List.range ops.size).filter fun i => !S i := List.mem_filter.2 ⟨List.mem_range.2 hi, by simp [hs]⟩
    simp_all

theorem region_sim (F : RegFacts ops) {Q : Exit → Act → World → Prop} (hok : ∀ (i : Nat) (o : Oper), ops[i]? = some o → operOk gok N o = true) (hpost : RegPost N gok m₀ h₀ w₀ Ds base K Q) :
    ∀ (fuel t : Nat) (listed : Array Bool) (f : Nat) (quiet loud : List Nat) (done : Nat) (rd : List ReadRec) (a : AAct) (h : AHeap) (a' : Act) (m : AMap) (w : World) (hist : Nat → Nat → Value),
      listed.size = ops.size → unlisted ops (lset listed) ≤ fuel → RInv P gok r ops base N m₀ h₀ w₀ Ds K f quiet loud done rd a h (lset listed) a' m w hist → asapPick ops (Region.before ops) done quiet = none →
      wpOpsIn (F0 r) 0 P ops Q (Region.linearise.go .any ops fuel t listed []) a' w := by
  -- when all has been done
  have fin : ∀ (listed : Array Bool) (f : Nat) (quiet loud : List Nat) (done : Nat) (rd : List ReadRec) (a : AAct) (h : AHeap) (a' : Act) (m : AMap) (w : World) (hist : Nat → Nat → Value),
      (∀ i, i < ops.size → lset listed i = true) → RInv P gok r ops base N m₀ h₀ w₀ Ds K f quiet loud done rd a h (lset listed) a' m w hist → Q .normal a' w := by
    intro listed f quiet loud done rd a h a' m w hist hall I
    have hq : quiet = [] := List.eq_nil_iff_forall_not_mem.2 fun i hi => by
      obtain ⟨o, ho, _, hd⟩ := (I.qmem i).1 hi
      have := I.sub i (hall i (Array.getElem?_eq_some_iff.1 ho).1)
      rw [hd] at this; cases this
    have hl : loud = [] := List.eq_nil_iff_forall_not_mem.2 fun i hi => by
      obtain ⟨o, ho, _, hd⟩ := (I.lmem i).1 hi
      have := I.sub i (hall i (Array.getElem?_eq_some_iff.1 ho).1)
      rw [hd] at this; cases this
    have hop := I.hop
    subst hq; subst hl
    have hgo : asapGo ops (Region.before ops) f [] [] done = [] := by cases f <;> simp [asapGo, asapPick]
    rw [hgo] at hop
    refine hpost a h m w a' hop I.H (fun t => ?_) I.size I.D I.E
    have : cnt ops (dset done) t = cnt ops (lset listed) t := cnt_congr fun i hi _ => by rw [hall i hi, I.sub i (hall i hi)]
    rw [I.env t, this]; exact I.rel t
  intro fuel
  induction fuel with
  | zero =>
    intro t listed f quiet loud done rd a h a' m w hist hsz hun I _
    simp only [Region.linearise.go, List.reverse_nil, wpOpsIn]
    exact fin listed f quiet loud done rd a h a' m w hist (all_of_unlisted (by omega)) I
  | succ fuel ih =>
    intro t listed f quiet loud done rd a h a' m w hist hsz hun I hsat
    simp only [Region.linearise.go]
    change wpOpsIn (F0 r) 0 P ops Q (match (Region.ready .any ops listed)[t % (Region.ready .any ops listed).length]? with
      | some i => Region.linearise.go .any ops fuel (t / (Region.ready .any ops listed).length) (listed.setIfInBounds i true) [i]
      | none => [].reverse) a' w
    cases hi : (Region.ready .any ops listed)[t % (Region.ready .any ops listed).length]? with
    | none =>
      have hnil : Region.ready .any ops listed = [] := by
        cases hr : Region.ready .any ops listed with
        | nil => rfl
        | cons x xs =>
          rw [hr] at hi
          have hlt : t % (x :: xs).length < (x :: xs).length := Nat.mod_lt _ (by simp)
          rw [List.getElem?_eq_none_iff] at hi
          omega
      simp only [List.reverse_nil, wpOpsIn]
      refine fin listed f quiet loud done rd a h a' m w hist ?_ I
      -- the first that is not listed would be ready
      intro i
      induction i using Nat.strongRecOn with
      | _ i ihi =>
        intro hlt
        cases hs : lset listed i with
        | true => rfl
        | false =>
          exfalso
          have ho : ops[i]? = some ops[i] := by simp [hlt]
          have : i ∈ Region.ready .any ops listed := by
            unfold Region.ready
            refine List.mem_filter.2 ⟨List.mem_range.2 hlt, ?_⟩
            have hl : listed.getD i true = false := by
              unfold lset at hs
              have hl' : i < listed.size := by omega
              simp [hl'] at hs ⊢; exact hs
            simp only [hl, ho, Option.map_some, Option.getD_some, Bool.not_false, Bool.true_and, Array.all_eq_true']
            intro e he
            cases hb : Region.binds .any e with
            | false => rfl
            | true =>
              have := ihi e.on (F.edge i _ ho e (by simpa using he) hb) (Nat.lt_trans (F.edge i _ ho e (by simpa using he) hb) hlt)
              simpa [lset] using this
          rw [hnil] at this; simp at this
    | some i =>
      simp only
      rw [linearise_go_acc, List.reverse_singleton, List.singleton_append]
      have hmem : i ∈ Region.ready .any ops listed := List.mem_of_getElem? hi
      unfold Region.ready at hmem
      obtain ⟨hir, hic⟩ := List.mem_filter.1 hmem
      have hilt := List.mem_range.1 hir
      have hil : i < listed.size := by omega
      have ho : ops[i]? = some ops[i] := by simp [hilt]
      generalize ops[i] = o at ho
      simp only [ho, Option.map_some, Option.getD_some, Bool.and_eq_true, Bool.not_eq_true', Array.all_eq_true'] at hic
      have hiS : lset listed i = false := by
        have h1 := hic.1
        simp [hil] at h1
        simp [lset, hil, h1]
      have hib : ∀ k, bset ops i k = true → lset listed k = true := ready_before I.scl ho (fun e he hb => by
        have := hic.2 e (by simpa using he)
        rw [hb] at this
        simpa [lset] using this)
      have hok' := hok i o ho
      have hS' : ∀ k, lset (listed.setIfInBounds i true) k = (lset listed k || decide (k = i)) := lset_set hil
      have hun' : unlisted ops (lset (listed.setIfInBounds i true)) ≤ fuel := by
        have := unlisted_set hilt hiS hS'; omega
      have hsz' : (listed.setIfInBounds i true).size = ops.size := by simpa using hsz
      have hcS : ∀ t, t ∈ namesOf ops o → cnt ops (lset listed) t = cnt ops (bset ops i) t := fun t ht => cnt_before F I.scl ho hiS hib ht
      simp only [wpOpsIn, ho]
      cases he : isEff o with
      | false =>
        have hiD : dset done i = true := by
          cases hd : dset done i with
          | true => rfl
          | false =>
            exact absurd (fun k hk => I.sub k (hib k hk)) (asapPick_none hsat i ((I.qmem i).2 ⟨o, ho, he, hd⟩))
        obtain ⟨o2, ρ, v, ho2, hp⟩ := I.pend i hiD hiS
        rw [ho] at ho2; cases ho2
        have hwe : Region.wanted o (yielded ops a'.tmps) = wantedA ops o (fun t => hist t (cnt ops (bset ops i) t)) :=
          wanted_eq (m := m) fun t ht => by rw [← hcS t (names_guard ht)]; exact I.rel t
        have hdst : ∀ d, o.dst = some d → hist d (cnt ops (lset listed) d + 1) = v := fun d hd => by rw [hcS d (names_dst hd)]; exact hp.dst d hd
        rcases hp.what with ⟨hw, ⟨h0, h1, hq, hfr, hob⟩, hrd⟩ | ⟨hw, rfl⟩
        · rw [hwe, hw]
          simp only [if_true]
          obtain ⟨v', w', m', hr, hv, H', E'⟩ := quiet_sound (ρ' := a'.eval) hq he I.H (I.mfree i hilt hiS) hfr (fun x hx => by
            cases x with
            | tmp t => rw [hp.tmp t hx, ← hcS t (names_op hx)]; exact I.rel t
            | const u => rw [hp.other _ (by simp)]; exact eval_rel (opnds_ok hok' _ hx) I.G (by simp)
            | global g => rw [hp.other _ (by simp)]; exact eval_rel (opnds_ok hok' _ hx) I.G (by simp)
            | func g => rw [hp.other _ (by simp)]; exact eval_rel (opnds_ok hok' _ hx) I.G (by simp)) hob (fun hr => (hrd hr).2)
          refine wpIn_run (isEff_defer he) hr (.inl rfl) ?_
          exact ih _ _ f quiet loud done rd a h _ m' w' hist hsz' hun' (quiet_next I ho hiS hiD hib hS' hok' hv H' E' hdst) hsat
        · rw [hwe, hw]
          simp only [Bool.false_eq_true, if_false]
          exact ⟨about_true o a' r, ih _ _ f quiet loud done rd a h _ m w hist hsz' hun' (quiet_next I ho hiS hiD hib hS' hok' .undef I.H (.refl _ _ _ _) hdst) hsat⟩
      | true =>
        have hiD : dset done i = false := by
          cases hd : dset done i with
          | false => rfl
          | true => have := I.effS i o ho he hd; rw [hiS] at this; cases this
        have hil' := (I.lmem i).2 ⟨o, ho, he, hiD⟩
        obtain ⟨rest, rfl⟩ : ∃ rest, loud = i :: rest := by
          cases hl : loud with
          | nil => rw [hl] at hil'; simp at hil'
          | cons j rest =>
            by_cases e : j = i
            · exact ⟨rest, by rw [e]⟩
            · exfalso
              rw [hl] at hil'
              have hir : i ∈ rest := by simp at hil'; exact hil'.resolve_left (fun x => e x.symm)
              have hlt := (List.pairwise_cons.1 (hl ▸ I.lsort)).1 i hir
              obtain ⟨oj, hoj, hej, hdj⟩ := (I.lmem j).1 (by rw [hl]; simp)
              have := I.sub j (hib j (F.eff j i oj o hoj ho hlt hej he))
              rw [hdj] at this; cases this
        obtain ⟨f', rfl⟩ : ∃ f', f = f' + 1 := ⟨f - 1, by have := I.fuel; simp at this; omega⟩
        have hop := I.hop
        simp only [asapGo, hsat, aOps, ho] at hop
        have hcD : ∀ t, t ∈ namesOf ops o → cnt ops (dset done) t = cnt ops (lset listed) t := fun t ht => by
          rw [cnt_before F I.dcl ho hiD (fun k hk => I.sub k (hib k hk)) ht, hcS t ht]
        have hwe : Region.wanted o (yielded ops a'.tmps) = wantedA ops o a.env :=
          wanted_eq (m := m) fun t ht => by rw [I.env t, hcD t (names_guard ht)]; exact I.rel t
        rw [hwe]
        split at hop
        · rename_i hw
          rw [hw]
          simp only [Bool.false_eq_true, if_false]
          refine ⟨about_true o a' r, ?_⟩
          have I2 := eff_next F I ho he hiS hib hS' hok' (v' := undef) .undef I.H (.refl _ _ _ _) rfl rfl I.D hop (fun x hx _ hne => hne)
          obtain ⟨f3, q3, d3, rd3, a3, h3, hi3, I3, hs3⟩ := saturate F _ _ _ _ _ _ _ _ _ _ _ _ _ rfl I2
          exact ih _ _ f3 q3 rest d3 rd3 a3 h3 _ m w hi3 hsz' hun' I3 hs3
        · rename_i hw
          rw [hw]
          simp only [if_true]
          refine opK_sound hop I.H I.G (I.mfree i hilt hiS) (Nat.lt_of_lt_of_le (by omega) I.room) (fun h0 => by rw [he] at h0; cases h0) (fun x hx => eval_rel (opnds_ok hok' x hx) I.G (fun t e => by
            subst e
            rw [I.env t, hcD t (names_op hx)]; exact I.rel t)) I.D ?_
          intro v a₁ h₁ hk m₁ w₁ v' a₁' hv H₁ E₁ henv htm hD₁
          simp only [he] at hk
          split at hk
          · rename_i hch
            have I2 := eff_next F I ho he hiS hib hS' hok' hv H₁ E₁ henv htm hD₁ hk (fun x hx hb _ => checks_spec hch x hx hb)
            obtain ⟨f3, q3, d3, rd3, a3, h3, hi3, I3, hs3⟩ := saturate F _ _ _ _ _ _ _ _ _ _ _ _ _ rfl I2
            exact ih _ _ f3 q3 rest d3 rd3 a3 h3 _ m₁ w₁ hi3 hsz' hun' I3 hs3
          · exact hk.elim
end
end Go.Cub
