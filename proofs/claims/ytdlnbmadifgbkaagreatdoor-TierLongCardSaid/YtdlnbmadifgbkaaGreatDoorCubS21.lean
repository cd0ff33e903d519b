/- The abstract machine asks no more than it is given: it goes with its callers, its loops and its ends. -/
import Derived.Test.YtdlnbmadifgbkaaGreatDoorCubS20
namespace Go.Cub
set_option linter.unusedVariables false
set_option linter.unusedSimpArgs false
open Go

section
variable {P : Program}

def Caller.le (X Y : Caller) : Prop := ∀ j K h, X j K h → Y j K h
def Looper.Mono (L : Looper) : Prop := ∀ B B' : AAct → ActPost → AHeap → Prop, (∀ a K K' h, (∀ e a h, K e a h → K' e a h) → B a K h → B' a K' h) → ∀ a K K' h, (∀ e a h, K e a h → K' e a h) → L B a K h → L B' a K' h

theorem callV_mono {X Y : Caller} (hX : Y.Mono) (hxy : X.le Y) {fv : Value} {args : List Value} {K K' : Value → AHeap → Prop} {h : AHeap} (hk : ∀ v h, K v h → K' v h) (hc : callV X fv args K h) : callV Y fv args K' h := by
  unfold callV at hc ⊢
  split at hc
  · exact hX _ _ _ _ hk (hxy _ _ _ hc)
  · exact hX _ _ _ _ hk (hxy _ _ _ hc)
  · exact hc.elim

theorem callF_mono {X Y : Caller} (hX : Y.Mono) (hxy : X.le Y) {fv : Value} {args : List Value} {K K' : Value → AHeap → Prop} {h : AHeap} (hk : ∀ v h, K v h → K' v h) (hc : callF X fv args K h) : callF Y fv args K' h := by
  unfold callF at hc ⊢
  split at hc
  · exact hX _ _ _ _ hk (hxy _ _ _ hc)
  · exact hc.elim

theorem callM_mono {X Y : Caller} (hX : Y.Mono) (hxy : X.le Y) {rv : Value} {name : String} {args : List Value} {K K' : Value → AHeap → Prop} {h : AHeap} (hk : ∀ v h, K v h → K' v h) (hc : callM P X rv name args K h) : callM P Y rv name args K' h := by
  unfold callM at hc ⊢
  split at hc
  · split at hc
    · exact hX _ _ _ _ hk (hxy _ _ _ hc)
    · exact hc.elim
  · exact hc.elim

theorem nextA_mono {it : Value} {s : Bool} {K K' : Value → AHeap → Prop} {h : AHeap} (hk : ∀ v h, K v h → K' v h) (hc : nextA it s K h) : nextA it s K' h := by
  unfold nextA at hc ⊢
  repeat' split at hc
  all_goals first
    | exact hc.elim
    | exact hk _ _ hc
    | (refine ⟨hc.1, fun e he => hk _ _ (hc.2.1 e he), fun he => hk _ _ (hc.2.2 he)⟩)

theorem aOpK_mono {X Y : Caller} (hX : Y.Mono) (hxy : X.le Y) {rnd : Bool} {o : Oper} {id : Nat} {a : AAct} {h : AHeap} {K K' : Value → AAct → AHeap → Prop} (hk : ∀ v a h, K v a h → K' v a h) (hc : aOpK P X rnd o id a h K) : aOpK P Y rnd o id a h K' := by
  unfold aOpK at hc ⊢
  split at hc
  · exact callV_mono hX hxy (fun v h => hk v a h) hc
  · exact callM_mono hX hxy (fun v h => hk v a h) hc
  · split at hc
    · exact hk _ _ _ hc
    · exact hc.elim
  · exact nextA_mono (fun v h => hk v a h) hc
  · split at hc
    · exact hk _ _ _ hc
    · exact hc.elim

theorem aOps_mono {X Y : Caller} (hX : Y.Mono) (hxy : X.le Y) {rnd draw : Bool} {ops : Array Oper} {bef : Array Nat} {base : Nat} {K K' : AAct → AHeap → Prop} (hk : ∀ a h, K a h → K' a h) : ∀ (l : List Nat) (rd : List ReadRec) (a : AAct) (h : AHeap),
    aOps P X rnd draw ops bef base l rd a K h → aOps P Y rnd draw ops bef base l rd a K' h := by
  intro l
  induction l with
  | nil => intro rd a h hc; exact hk _ _ hc
  | cons i rest ih =>
    intro rd a h hc
    simp only [aOps] at hc ⊢
    cases ho : ops[i]? with
    | none => rw [ho] at hc; exact hc
    | some o =>
      rw [ho] at hc
      try dsimp only at hc ⊢
      split at hc
      · exact ih _ _ _ hc
      · refine aOpK_mono hX hxy (fun v a h hc => ?_) hc
        try dsimp only at hc ⊢
        split at hc
        · exact ih _ _ _ hc
        · split at hc
          · split at hc
            · exact ih _ _ _ hc
            · exact hc.elim
          · exact ih _ _ _ hc

theorem aRegion_mono {X Y : Caller} (hX : Y.Mono) (hxy : X.le Y) {rnd draw : Bool} {ops : Array Oper} {a : AAct} {K K' : AAct → AHeap → Prop} (hk : ∀ a h, K a h → K' a h) {h : AHeap} (hc : aRegion P X rnd ops draw a K h) : aRegion P Y rnd ops draw a K' h := by
  cases draw
  · exact aOps_mono hX hxy hk _ _ _ _ hc
  · exact aOps_mono hX hxy hk _ _ _ _ hc

theorem jumpK_mono {a : AAct} {K K' : ActPost} (hk : ∀ e a h, K e a h → K' e a h) {j : Option Code} {h : AHeap} (hc : jumpK a K j h) : jumpK a K' j h := by
  unfold jumpK at hc ⊢
  split at hc <;> first | exact hk _ _ _ hc | exact hc.elim

theorem aCode_mono {X Y : Caller} (hX : Y.Mono) (hxy : X.le Y) {L M : Looper} (hL : M.Mono) (hlm : ∀ B a K h, L B a K h → M B a K h) {rnd : Bool} : ∀ (c : Code) (a : AAct) (K K' : ActPost) (h : AHeap), (∀ e a h, K e a h → K' e a h) → aCode P X L rnd c a K h → aCode P Y M rnd c a K' h := by
  intro c
  induction c with
  | skip => intro a K K' h hk hc; exact hk _ _ _ hc
  | label _ => intro a K K' h hk hc; exact hk _ _ _ hc
  | exit _ => intro a K K' h hk hc; exact hk _ _ _ hc
  | ret => intro a K K' h hk hc; exact hk _ _ _ hc
  | region _ ops draw => intro a K K' h hk hc; exact aRegion_mono hX hxy (fun a h => hk _ a h) hc
  | seq x y ihx ihy =>
    intro a K K' h hk hc
    refine ihx a _ _ h (fun e a' h' hc => ?_) hc
    cases e <;> dsimp only at hc ⊢ <;> first | exact ihy _ _ _ _ hk hc | exact hk _ _ _ hc
  | cond c x y ihx ihy =>
    intro a K K' h hk hc
    unfold aCode at hc ⊢
    split at hc
    · exact ihx _ _ _ _ hk hc
    · exact ihy _ _ _ _ hk hc
    · exact hc.elim
  | block id c ih =>
    intro a K K' h hk hc
    refine ih a _ _ h (fun e a' h' hc => ?_) hc
    cases e <;> dsimp only at hc ⊢ <;> first | exact hk _ _ _ hc | (split at hc <;> exact hk _ _ _ hc)
  | loop c ih =>
    intro a K K' h hk hc
    exact hL _ _ (fun a K K' h hk hc => ih a K K' h hk hc) _ _ _ _ hk (hlm _ _ _ _ hc)
  | rangeFunc f ps x y _ _ =>
    intro a K K' h hk hc
    refine callF_mono hX hxy (fun v h' hc => ?_) hc
    try dsimp only at hc ⊢
    repeat' split at hc
    all_goals first | exact hc.elim | exact jumpK_mono hk hc
  | _ => intro a K K' h hk hc; exact hc.elim

theorem endRoundA_mono {l : Nat} {j : Option Code} {K K' : Value → AHeap → Prop} (hk : ∀ v h, K v h → K' v h) {h : AHeap} (hc : endRoundA l j K h) : endRoundA l j K' h := by
  unfold endRoundA at hc ⊢
  repeat' split at hc
  all_goals first | exact hc.elim | exact hk _ _ hc

theorem leaveA_mono {X Y : Caller} (hX : Y.Mono) (hxy : X.le Y) {fn : Func} {a : AAct} {K K' : Value → AHeap → Prop} (hk : ∀ v h, K v h → K' v h) : ∀ (l : List (Value × List Value)) (h : AHeap), leaveA P X fn a K l h → leaveA P Y fn a K' l h := by
  intro l
  induction l with
  | nil =>
    intro h hc
    simp only [leaveA] at hc ⊢
    split at hc
    · exact hk _ _ hc
    · exact hc.elim
  | cons d l ih =>
    intro h hc
    exact callF_mono hX hxy (fun _ h' hc => ih h' hc) hc

theorem aJob_mono {X Y : Caller} (hX : Y.Mono) (hxy : X.le Y) {L M : Looper} (hL : M.Mono) (hlm : ∀ B a K h, L B a K h → M B a K h) (j : Job) (K K' : Value → AHeap → Prop) (h : AHeap) (hk : ∀ v h, K v h → K' v h) (hc : aJob P X L j K h) : aJob P Y M j K' h := by
  cases j with
  | call f args =>
    simp only [aJob] at hc ⊢
    repeat' split at hc
    all_goals first | exact hc.elim | skip
    refine aCode_mono hX hxy hL hlm _ _ _ _ _ (fun e a h hc => ?_) hc
    cases e <;> dsimp only at hc ⊢ <;> first | exact hc.elim | exact leaveA_mono hX hxy hk _ _ hc
  | round l args =>
    simp only [aJob] at hc ⊢
    repeat' split at hc
    all_goals first | exact hc.elim | skip
    refine aCode_mono hX hxy hL hlm _ _ _ _ _ (fun e a h hc => ?_) hc
    cases e <;> dsimp only at hc ⊢ <;> first | exact hc.elim | skip
    repeat' split at hc
    all_goals first | exact hc.elim | skip
    refine aCode_mono hX hxy hL hlm _ _ _ _ _ (fun e a h hc => ?_) hc
    cases e <;> dsimp only at hc ⊢ <;> first | exact hc.elim | exact endRoundA_mono hk hc

theorem loopA_mono : Looper.Mono loopA := by
  intro B B' hB a K K' h hk hl Y hY
  refine hl Y fun a h hb => hY a h (hB _ _ _ _ (fun e a h hc => ?_) hb)
  cases e <;> first | exact hc | exact hk _ _ _ hc

theorem loopN_mono : ∀ n, Looper.Mono (loopN n) := by
  intro n
  induction n with
  | zero => intro B B' hB a K K' h hk hl; exact hl.elim
  | succ n ih =>
    intro B B' hB a K K' h hk hl
    refine hB _ _ _ _ (fun e a h hc => ?_) hl
    cases e <;> first | exact ih _ _ hB _ _ _ _ hk hc | exact hk _ _ _ hc

/-- A loop may be gone through once. -/
theorem loopA_step {B : AAct → ActPost → AHeap → Prop} (hB : ∀ a K K' h, (∀ e a h, K e a h → K' e a h) → B a K h → B a K' h) {a : AAct} {K : ActPost} {h : AHeap} (hb : B a (fun e a' h' => match e with | .normal => loopA B a' K h' | e => K e a' h') h) : loopA B a K h := by
  intro Y hY
  refine hY a h (hB _ _ _ _ (fun e a h hc => ?_) hb)
  cases e <;> first | exact hc Y hY | exact hc

theorem loopN_A : ∀ n {B : AAct → ActPost → AHeap → Prop}, (∀ a K K' h, (∀ e a h, K e a h → K' e a h) → B a K h → B a K' h) → ∀ a K h, loopN n B a K h → loopA B a K h := by
  intro n
  induction n with
  | zero => intro B _ a K h hl; exact hl.elim
  | succ n ih =>
    intro B hB a K h hl
    refine loopA_step hB (hB _ _ _ _ (fun e a h hc => ?_) hl)
    cases e <;> first | exact ih hB _ _ _ hc | exact hc

theorem callA_mono : (callA P).Mono := fun j K K' h hk hc X hX hc' => hX _ _ _ _ hk (hc X hX hc')

theorem callA_step {j : Job} {K : Value → AHeap → Prop} {h : AHeap} (hc : aJob P (callA P) loopA j K h) : callA P j K h := fun X hX hX' =>
  hX' _ _ _ (aJob_mono hX (fun j K h hc => hc X hX hX') loopA_mono (fun _ _ _ _ x => x) _ _ _ _ (fun _ _ x => x) hc)

theorem callA_le {X : Caller} (hX : X.Mono) (hs : ∀ j K h, aJob P X loopA j K h → X j K h) : (callA P).le X := fun _ _ _ hc => hc X hX hs


theorem aCode_N {X Y : Caller} (hX : Y.Mono) (hxy : X.le Y) (n : Nat) {rnd : Bool} : ∀ (c : Code) (a : AAct) (K K' : ActPost) (h : AHeap), (∀ e a h, K e a h → K' e a h) → aCode P X (loopN n) rnd c a K h → aCode P Y loopA rnd c a K' h := by
  intro c
  induction c with
  | skip => intro a K K' h hk hc; exact hk _ _ _ hc
  | label _ => intro a K K' h hk hc; exact hk _ _ _ hc
  | exit _ => intro a K K' h hk hc; exact hk _ _ _ hc
  | ret => intro a K K' h hk hc; exact hk _ _ _ hc
  | region _ ops draw => intro a K K' h hk hc; exact aRegion_mono hX hxy (fun a h => hk _ a h) hc
  | seq x y ihx ihy =>
    intro a K K' h hk hc
    refine ihx a _ _ h (fun e a' h' hc => ?_) hc
    cases e <;> dsimp only at hc ⊢ <;> first | exact ihy _ _ _ _ hk hc | exact hk _ _ _ hc
  | cond c x y ihx ihy =>
    intro a K K' h hk hc
    unfold aCode at hc ⊢
    split at hc
    · exact ihx _ _ _ _ hk hc
    · exact ihy _ _ _ _ hk hc
    · exact hc.elim
  | block id c ih =>
    intro a K K' h hk hc
    refine ih a _ _ h (fun e a' h' hc => ?_) hc
    cases e <;> dsimp only at hc ⊢ <;> first | exact hk _ _ _ hc | (split at hc <;> exact hk _ _ _ hc)
  | loop c ih =>
    intro a K K' h hk hc
    have hb : ∀ a K K' h, (∀ e a h, K e a h → K' e a h) → aCode P Y loopA rnd c a K h → aCode P Y loopA rnd c a K' h := fun a K K' h hk hc => aCode_mono hX (fun _ _ _ x => x) loopA_mono (fun _ _ _ _ x => x) c a K K' h hk hc
    have : loopN n (aCode P Y loopA rnd c) a K' h := loopN_mono n _ _ (fun a K K' h hk hc => ih a K K' h hk hc) _ _ _ _ hk hc
    exact loopN_A n hb _ _ _ this
  | rangeFunc f ps x y _ _ =>
    intro a K K' h hk hc
    refine callF_mono hX hxy (fun v h' hc => ?_) hc
    try dsimp only at hc ⊢
    repeat' split at hc
    all_goals first | exact hc.elim | exact jumpK_mono hk hc
  | _ => intro a K K' h hk hc; exact hc.elim

theorem aJob_N {X Y : Caller} (hX : Y.Mono) (hxy : X.le Y) (n : Nat) (j : Job) (K : Value → AHeap → Prop) (h : AHeap) (hc : aJob P X (loopN n) j K h) : aJob P Y loopA j K h := by
  cases j with
  | call f args =>
    simp only [aJob] at hc ⊢
    repeat' split at hc
    all_goals first | exact hc.elim | skip
    refine aCode_N hX hxy n _ _ _ _ _ (fun e a h hc => ?_) hc
    cases e <;> dsimp only at hc ⊢ <;> first | exact hc.elim | exact leaveA_mono hX hxy (fun _ _ x => x) _ _ hc
  | round l args =>
    simp only [aJob] at hc ⊢
    repeat' split at hc
    all_goals first | exact hc.elim | skip
    refine aCode_N hX hxy n _ _ _ _ _ (fun e a h hc => ?_) hc
    cases e <;> dsimp only at hc ⊢ <;> first | exact hc.elim | skip
    repeat' split at hc
    all_goals first | exact hc.elim | skip
    exact aCode_N hX hxy n _ _ _ _ _ (fun e a h hc => hc) hc

/-- What runs by a number of rounds, runs. -/
theorem callN_A : ∀ n, Caller.le (callN P n) (callA P) := by
  intro n
  induction n with
  | zero => intro j K h hc; exact hc.elim
  | succ n ih => intro j K h hc; exact callA_step (aJob_N callA_mono ih n j K h hc)
end
end Go.Cub
