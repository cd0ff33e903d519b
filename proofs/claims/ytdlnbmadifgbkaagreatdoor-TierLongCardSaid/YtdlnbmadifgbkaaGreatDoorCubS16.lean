/- Regions. -/
import Derived.Test.YtdlnbmadifgbkaaGreatDoorCubS15
namespace Go.Cub
set_option linter.unusedVariables false
set_option linter.unusedSimpArgs false
open Go

def EnvRel (m : AMap) (env : Nat → Value) (tmps : Array Value) : Prop := ∀ t, VRel m (env t) (tmps.getD t undef)

def GRel (gok : Nat → Bool) (m : AMap) : Prop := ∀ g, gok g = true → PRel m ⟨g, 0, none⟩ ⟨g, 0, none⟩

theorem GRel.mono {gok : Nat → Bool} {m m' : AMap} (h : m.le m') (g : GRel gok m) : GRel gok m' := fun i hi => (g i hi).mono h
theorem EnvRel.mono {m m' : AMap} (h : m.le m') {e : Nat → Value} {t : Array Value} (r : EnvRel m e t) : EnvRel m' e t := fun i => (r i).mono h

theorem constOk_rel {m : AMap} {v : Value} (h : constOk v = true) : VRel m v v := by
  unfold constOk at h
  simp only [Bool.or_eq_true] at h
  rcases h with h | h
  · exact .of_scalar_self h
  · split at h
    · rename_i cs
      have : cs = #[] := by simpa using h
      subst this; exact .undef
    · cases h

theorem eval_rel {gok : Nat → Bool} {m : AMap} {a : AAct} {a' : Act} {x : Operand} (hx : opndOk gok x = true) (hg : GRel gok m) (ht : ∀ t, x = .tmp t → VRel m (a.env t) (a'.tmps.getD t undef)) : VRel m (a.eval x) (a'.eval x) := by
  cases x with
  | tmp t => exact ht t rfl
  | const v => exact constOk_rel hx
  | global g => exact .ptr (hg g hx)
  | func f => exact .funcL rfl .nil .nil

theorem opnds_ok {gok : Nat → Bool} {N : Nat} {o : Oper} (h : operOk gok N o = true) : ∀ x ∈ o.op.operands, opndOk gok x = true := fun x hx => by
  unfold operOk at h
  simp only [Bool.and_eq_true, List.all_eq_true] at h
  exact h.2 x (by simpa using hx)
theorem dst_ok {gok : Nat → Bool} {N : Nat} {o : Oper} (h : operOk gok N o = true) {d : Tmp} (hd : o.dst = some d) : d < N := by
  unfold operOk at h
  simp only [Bool.and_eq_true, hd] at h
  exact le_of_ble h.1

theorem upd_same (e : Nat → Value) (t : Nat) (v : Value) : upd e t v t = v := by
  unfold upd
  have : Nat.beq t t = true := Nat.beq_refl t
  rw [this]
theorem upd_ne (e : Nat → Value) {t k : Nat} (v : Value) (h : k ≠ t) : upd e t v k = e k := by
  unfold upd
  have : Nat.beq k t = false := by
    cases hb : Nat.beq k t with
    | false => rfl
    | true => exact absurd (Nat.eq_of_beq_eq_true hb) h
  rw [this]

theorem EnvRel.put {m : AMap} {a : AAct} {a' : Act} (r : EnvRel m a.env a'.tmps) {dst : Option Tmp} {v v' : Value} (hv : VRel m v v') (hd : ∀ d, dst = some d → d < a'.tmps.size) : EnvRel m (a.put dst v).env (a'.put dst v').tmps := by
  cases dst with
  | none => exact r
  | some d =>
    intro t
    have hlt := hd d rfl
    by_cases e : t = d
    · subst e
      simp only [AAct.put, Act.put, upd_same]
      simpa [hlt] using hv
    · have := r t
      simp only [AAct.put, Act.put, upd_ne _ _ e]
      simpa [Array.getElem?_setIfInBounds_ne (Ne.symm e)] using this

theorem put_size (a' : Act) (dst : Option Tmp) (v : Value) : (a'.put dst v).tmps.size = a'.tmps.size := by cases dst <;> simp [Act.put]
@[simp] theorem put_defers' (a' : Act) (dst : Option Tmp) (v : Value) : (a'.put dst v).defers = a'.defers := by cases dst <;> rfl
@[simp] theorem aput_defers (a : AAct) (dst : Option Tmp) (v : Value) : (a.put dst v).defers = a.defers := by cases dst <;> rfl

/-- A guard is read alike. -/
theorem wanted_eq {m : AMap} {ops : Array Oper} {o : Oper} {env : Nat → Value} {tmps : Array Value} (h : ∀ t, guardTmp ops o = some t → VRel m (env t) (tmps.getD t undef)) :
    Region.wanted o (yielded ops tmps) = wantedA ops o env := by
  unfold Region.wanted wantedA
  cases hg : o.guard with
  | none => rfl
  | some jw =>
    obtain ⟨j, want⟩ := jw
    simp only [yielded]
    cases hj : ops[j]? with
    | none => simp
    | some oj =>
      simp only [Option.bind_some]
      cases hd : oj.dst with
      | none => simp
      | some d =>
        have hr := h d (by simp [guardTmp, hg, hj, hd])
        simp only [Option.bind_some]
        cases ht : tmps[d]? with
        | none =>
          simp only [Array.getD_eq_getD_getElem?, ht, Option.getD_none] at hr
          generalize hev : env d = u at hr
          cases hr <;> first | rfl | (rename_i hh; simp [isAtom, undef] at hh) | simp
        | some x =>
          simp only [Array.getD_eq_getD_getElem?, ht, Option.getD_some] at hr
          generalize hev : env d = u at hr
          cases u with
          | bool b => rw [hr.bool]; simp
          | _ =>
            cases x with
            | bool b => have := hr.bool'; cases this
            | _ => rfl

section
variable {P : Program} {gok : Nat → Bool}

/-- What is known behind a region. -/
def RegPost (N : Nat) (gok : Nat → Bool) (m₀ : AMap) (h₀ : AHeap) (w₀ : World) (Ds : List Nat) (base : Nat) (K : AAct → AHeap → Prop) (Q : Exit → Act → World → Prop) : Prop :=
  ∀ a₁ h₁ m₁ w₁ (a₁' : Act), K a₁ h₁ → HRel m₁ h₁ w₁ → EnvRel m₁ a₁.env a₁'.tmps → a₁'.tmps.size = N → DRel m₁ w₁ a₁.defers a₁'.defers Ds → Ext (base ≤ ·) m₀ h₀ w₀ m₁ h₁ w₁ → Q .normal a₁' w₁

theorem ops_text {r : Option Nat} {ops : Array Oper} {bef : Array Nat} {base N : Nat} {K : AAct → AHeap → Prop} {Q : Exit → Act → World → Prop} {m₀ : AMap} {h₀ : AHeap} {w₀ : World} {Ds : List Nat}
    (hok : ∀ (i : Nat) (o : Oper), ops[i]? = some o → operOk gok N o = true) (hpost : RegPost N gok m₀ h₀ w₀ Ds base K Q) :
    ∀ (l : List Nat) (rd : List ReadRec) (a : AAct) (a' : Act) (m : AMap) (h : AHeap) (w : World), aOps P (Conc P gok) r.isSome false ops bef base l rd a K h → HRel m h w → GRel gok m → EnvRel m a.env a'.tmps → a'.tmps.size = N →
      DRel m w a.defers a'.defers Ds → Ext (base ≤ ·) m₀ h₀ w₀ m h w → l.Nodup → base ≤ h.next → (∀ i ∈ l, m (base + i) = none ∧ h.get (base + i) = none ∧ base + i < h.next) → wpOpsIn (F0 r) 0 P ops Q l a' w := by
  intro l
  induction l with
  | nil => intro rd a a' m h w hop H _ he hN hD E _ _ _; exact hpost a h m w a' hop H he hN hD E
  | cons i rest ih =>
    intro rd a a' m h w hop H hg he hN hD E hnd hb hfree
    simp only [aOps] at hop
    obtain ⟨hm, hget, hlt⟩ := hfree i (by simp)
    have hnd' := List.nodup_cons.1 hnd
    cases ho : ops[i]? with
    | none => rw [ho] at hop; exact hop.elim
    | some o =>
      rw [ho] at hop
      have hok' := hok i o ho
      simp only [wpOpsIn, ho]
      rw [wanted_eq (m := m) (env := a.env) (fun t _ => he t)]
      dsimp only at hop
      split at hop
      · rename_i hw
        rw [hw]
        simp only [Bool.false_eq_true, if_false]
        exact ⟨about_true o a' r, ih rd _ _ m h w hop H hg (he.put .undef (fun d hd => hN ▸ dst_ok hok' hd)) (by rw [put_size]; exact hN) (by simpa using hD) E hnd'.2 hb (fun j hj => hfree j (by simp [hj]))⟩
      · rename_i hw
        rw [hw]
        simp only [if_true]
        refine opK_sound hop H hg hm hlt (fun _ => hget) (fun x hx => eval_rel (opnds_ok hok' x hx) hg (fun t _ => he t)) hD ?_
        intro v a₁ h₁ hk m₁ w₁ v' a₁' hv H₁ E₁ henv htm hD₁
        have hk' : aOps P (Conc P gok) r.isSome false ops bef base rest rd (a₁.put o.dst v) K h₁ := hk
        have he₁ : EnvRel m₁ a₁.env a₁'.tmps := by rw [henv, htm]; exact he.mono E₁.le
        refine ih rd (a₁.put o.dst v) (a₁'.put o.dst v') m₁ h₁ w₁ hk' H₁ (hg.mono E₁.le) (he₁.put hv (fun d hd => by rw [htm, hN]; exact dst_ok hok' hd)) (by rw [put_size, htm]; exact hN) (by simpa using hD₁)
          (E.trans (E₁.mono fun k hk => by rcases hk with rfl | hk <;> omega)) hnd'.2 (Nat.le_trans hb E₁.next) (fun j hj => ?_)
        obtain ⟨h1, h2, h3⟩ := hfree j (by simp [hj])
        have hne : j ≠ i := fun e => hnd'.1 (e ▸ hj)
        have hns : ¬ (base + j = base + i ∨ h.next ≤ base + j) := by omega
        exact ⟨Classical.byContradiction fun e => hns (E₁.new _ h1 e), (E₁.frA _ h3 h1 hns).trans h2, Nat.lt_of_lt_of_le h3 E₁.next⟩
end
end Go.Cub
