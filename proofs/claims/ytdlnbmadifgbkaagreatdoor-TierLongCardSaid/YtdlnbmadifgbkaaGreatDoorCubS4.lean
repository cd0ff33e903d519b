/- The quiet operations, one by one. -/
import Derived.Test.YtdlnbmadifgbkaaGreatDoorCubS3
namespace Go.Cub
set_option linter.unusedVariables false
set_option linter.unusedSimpArgs false
open Go

/-- What is owed for a quiet operation. -/
def QOut (P : Program) (o : Oper) (ρ' : Operand → Value) (id : Nat) (m : AMap) (h : AHeap) (w : World) (v : Value) : Prop :=
  ∃ v' w' m', (execOp ρ' o).run P w = .ok (.value v') w' ∧ VRel m' v v' ∧ HRel m' h w' ∧ Ext (· = id) m h w m' h w'

section
variable {P : Program} {m : AMap} {h : AHeap} {w : World}

theorem QOut.still {o : Oper} {ρ' : Operand → Value} {id : Nat} {v v' : Value} (H : HRel m h w) (hr : (execOp ρ' o).run P w = .ok (.value v') w) (hv : VRel m v v') : QOut P o ρ' id m h w v :=
  ⟨v', w, m, hr, hv, H, .refl _ _ _ _⟩

theorem pureOp_sound {ρ ρ' : Operand → Value} {o : Oper} {v : Value} (hq : pureOp P ρ o = some v) (hρ : ∀ x ∈ o.op.operands, VRel m (ρ x) (ρ' x)) (hs : ∀ cs b, o.op ≠ .select cs b) :
    (execOp ρ' o).run P w = .ok (.value v) w ∧ VRel m v v := by
  unfold pureOp at hq
  split at hq
  · rename_i hall
    split at hq
    · rename_i v0 hp
      split at hq
      · rename_i hsc; cases hq
        have : execOp ρ' o = execOp ρ o := execOp_congr o hs fun x hx =>
          (hρ x hx).of_scalar (by rw [List.all_eq_true] at hall; exact hall x (by simpa using hx))
        exact ⟨by rw [this]; exact rpure hp w, .of_scalar_self hsc⟩
      · cases hq
    · cases hq
  · cases hq

theorem decide_eq_false_of_ne {α : Type} [DecidableEq α] {a b : α} (h : a ≠ b) : decide (a = b) = false := by simp [h]

theorem liveBlk_spec {a : Addr} (hl : liveBlk h a = true) : ∃ b, h.get a.block = some (.cells b) ∧ b.plain = true ∧ a.spot = none := by
  unfold liveBlk at hl
  split at hl
  · simp only [Bool.and_eq_true, Option.isNone_iff_eq_none] at hl; exact ⟨_, ‹_›, hl.1, hl.2⟩
  · cases hl

theorem run_sameAddr (H : HRel m h w) {a b a' b' : Addr} (ha : PRel m a a') (hb : PRel m b b') (la : liveBlk h a = true) (lb : liveBlk h b = true) :
    (sameAddr a' b').run P w = .ok (decide (a = b)) w := by
  obtain ⟨ba, ga, pa, sa⟩ := liveBlk_spec la
  obtain ⟨bb, gb, pb, sb⟩ := liveBlk_spec lb
  obtain ⟨ta, ma, rfl⟩ := H.tgt ha ga (by simp)
  obtain ⟨tb, mb, rfl⟩ := H.tgt hb gb (by simp)
  obtain ⟨ca, ea, fa, wa, ra⟩ := H.block ma ga
  obtain ⟨cb, eb, fb, wb, rb⟩ := H.block mb gb
  simp only [ORel] at ra rb
  obtain ⟨_, _, _, _, _, _, pla, _⟩ := ra
  obtain ⟨_, _, _, _, _, _, plb, _⟩ := rb
  have fa0 := pla pa
  have fb0 := plb pb
  subst fa0; subst fb0
  by_cases hj : ta.j = tb.j
  · have hblk : a.block = b.block := H.inj _ _ _ _ ma mb hj
    rw [hblk, mb] at ma; cases ma
    have : (({ block := ta.j, off := ta.sh + a.off, spot := a.spot } : Addr) == { block := ta.j, off := ta.sh + b.off, spot := b.spot }) = decide (a = b) := by
      obtain ⟨a1, a2, a3⟩ := a
      obtain ⟨b1, b2, b3⟩ := b
      simp only at hblk sa sb; subst hblk; subst sa; subst sb
      by_cases e : a2 = b2
      · subst e; simp
      · rw [decide_eq_false_of_ne (by simp [e])]
        simp only [beq_eq_false_iff_ne, ne_eq, Addr.mk.injEq, not_and]
        intro _ e'; omega
    simp [sameAddr, this]
  · have hne : a ≠ b := by rintro rfl; rw [ma] at mb; cases mb; exact hj rfl
    rw [decide_eq_false_of_ne hne]
    have hj' : (ta.j == tb.j) = false := by simp [hj]
    simp [sameAddr, hj', World.frozen?, wa, wb, noView, viewAt, World.shape?, mayBeOne, stringish]

def addrish : Value → Bool
  | .pointer _ | .slice _ _ _ | .map _ | .func _ _ _ | .nilFunc | .iface _ _ | .nilIface => true
  | _ => false
def noGuard : Value → Value → Bool
  | .nilIface, .nilIface => false
  | .agg _, .agg _ => false
  | _, _ => true

theorem binOp_eql {x y : Value} (t : TypeId) (hx : addrish x = true) : binOp .eql t x y = (do pure (.bool (← Op.equal t x y))) := by
  cases x <;> simp [addrish] at hx <;> cases y <;> rfl
theorem binOp_neq {x y : Value} (t : TypeId) (hx : addrish x = true) : binOp .neq t x y = (do pure (.bool (!(← Op.equal t x y)))) := by
  cases x <;> simp [addrish] at hx <;> cases y <;> rfl

theorem eqA_sound (H : HRel m h w) {t : TypeId} {x y x' y' : Value} {r : Bool} (hq : eqA P t x y h = some r) (hx : VRel m x x') (hy : VRel m y y') :
    (Op.equal t x' y').run P w = .ok r w ∧ noGuard x' y' = true ∧ addrish x' = true := by
  obtain ⟨d, e0⟩ : ∃ d, Op.equal t x' y' = Op.equalIn (d + 1) t x' y' := ⟨9999, rfl⟩
  rw [e0]
  unfold eqA at hq
  split at hq
  · rename_i e b hu
    cases hq
    rw [hx.of_atom rfl]
    cases b with
    | none => rw [hy.of_atom rfl]; exact ⟨by simp [Op.equalIn, ru hu], rfl, rfl⟩
    | some b => obtain ⟨b', rfl, _⟩ := hy.ptr_inv; exact ⟨by simp [Op.equalIn, ru hu], rfl, rfl⟩
  · rename_i e a hn hu
    cases hq
    rw [hy.of_atom rfl]
    cases a with
    | none => first | exact (hn rfl).elim | exact (hn _ rfl).elim | exact (hn _ _ rfl).elim | exact (hn _ _ _ rfl).elim | exact (hn _ rfl rfl).elim
    | some a => obtain ⟨a', rfl, _⟩ := hx.ptr_inv; exact ⟨by simp [Op.equalIn, ru hu], rfl, rfl⟩
  · rename_i e a b hu
    split at hq
    · rename_i n hs
      split at hq
      · rename_i la lb
        cases hq
        obtain ⟨a', rfl, ha⟩ := hx.ptr_inv
        obtain ⟨b', rfl, hb⟩ := hy.ptr_inv
        exact ⟨by simp [Op.equalIn, ru hu, rsize hs, run_sameAddr H ha hb la lb], rfl, rfl⟩
      · cases hq
    · cases hq
  · rename_i e l c b l' c' hu
    cases hq
    rw [hx.of_atom rfl]
    cases b with
    | none => rw [hy.of_atom rfl]; exact ⟨by simp [Op.equalIn, ru hu], rfl, rfl⟩
    | some b => obtain ⟨b', cp, rfl, _⟩ := hy.slice_inv; exact ⟨by simp [Op.equalIn, ru hu], rfl, rfl⟩
  · rename_i e a l c l' c' hn hu
    cases hq
    rw [hy.of_atom rfl]
    cases a with
    | none => first | exact (hn rfl).elim | exact (hn _ rfl).elim | exact (hn _ _ rfl).elim | exact (hn _ _ _ rfl).elim | exact (hn _ rfl rfl).elim
    | some a => obtain ⟨a', cp, rfl, _⟩ := hx.slice_inv; exact ⟨by simp [Op.equalIn, ru hu], rfl, rfl⟩
  · rename_i k e b hu
    cases hq
    rw [hx.of_atom rfl]
    cases b with
    | none => rw [hy.of_atom rfl]; exact ⟨by simp [Op.equalIn, ru hu], rfl, rfl⟩
    | some b => obtain ⟨b', rfl, _⟩ := hy.map_inv; exact ⟨by simp [Op.equalIn, ru hu], rfl, rfl⟩
  · rename_i k e a hn hu
    cases hq
    rw [hy.of_atom rfl]
    cases a with
    | none => first | exact (hn rfl).elim | exact (hn _ rfl).elim | exact (hn _ _ rfl).elim | exact (hn _ _ _ rfl).elim | exact (hn _ rfl rfl).elim
    | some a => obtain ⟨a', rfl, _⟩ := hx.map_inv; exact ⟨by simp [Op.equalIn, ru hu], rfl, rfl⟩
  · rename_i a b c hu
    cases hq
    rw [hx.of_atom rfl, hy.of_atom rfl]; exact ⟨by simp [Op.equalIn, ru hu], rfl, rfl⟩
  · rename_i a b c f x y hu
    cases hq
    rw [hx.of_atom rfl]; obtain ⟨_, _, _, rfl, _⟩ := hy.func_inv; exact ⟨by simp [Op.equalIn, ru hu], rfl, rfl⟩
  · rename_i a b c f x y hu
    cases hq
    rw [hy.of_atom rfl]; obtain ⟨_, _, _, rfl, _⟩ := hx.func_inv; exact ⟨by simp [Op.equalIn, ru hu], rfl, rfl⟩
  · rename_i a t u hu
    cases hq
    rw [hx.of_atom rfl]
    cases hy with
    | atom h => simp [isAtom] at h
    | iface _ => exact ⟨by simp [Op.equalIn, ru hu], rfl, rfl⟩
  · rename_i a t u hu
    cases hq
    rw [hy.of_atom rfl]
    cases hx with
    | atom h => simp [isAtom] at h
    | iface _ => exact ⟨by simp [Op.equalIn, ru hu], rfl, rfl⟩
  · cases hq
end
end Go.Cub
