/- Calls, and what they mean in the model. -/
import Derived.Test.YtdlnbmadifgbkaaGreatDoorCubS11
namespace Go.Cub
set_option linter.unusedVariables false
set_option linter.unusedSimpArgs false
open Go

/-- The kit's fence that lets all in; r: the round in which the code runs. -/
def F0 (r : Option Nat) : Fence := { fn := fun _ => True, depth := none, alive := false, round := r }

def retP (R : Value → World → Prop) : Ending → World → Prop
  | .returned v, w => R v w
  | _, _ => False

def BodyWp (P : Program) (f : FuncId) (args : Array Value) (w : World) (R : Value → World → Prop) : Prop :=
  ∃ fn c, P.funcs[f]? = some fn ∧ fn.body = some c ∧ (fn.name == "runtime.NumGoroutine") = false ∧
    c.wpIn (F0 none) 0 P (bodyPostM (F0 none) 0 P fn (retP R)) { tmps := args ++ Array.replicate (fn.ntmps - args.size) undef, defers := [] } w

def Rets (m : AMap) (h : AHeap) (w : World) (K : Value → AHeap → Prop) (v' : Value) (w' : World) : Prop :=
  ∃ v h' m', K v h' ∧ VRel m' v v' ∧ HRel m' h' w' ∧ Ext (h.next ≤ ·) m h w m' h' w'

/-- What an abstract call says of the model. -/
def Conc (P : Program) (gok : Nat → Bool) : Caller := fun j K h =>
  match j with
  | .call f args => ∀ m w args', HRel m h w → (∀ g, gok g = true → PRel m ⟨g, 0, none⟩ ⟨g, 0, none⟩) → LRel m args args' → BodyWp P f args'.toArray w (Rets m h w K)
  | .round l args => ∀ m w args' l', HRel m h w → (∀ g, gok g = true → PRel m ⟨g, 0, none⟩ ⟨g, 0, none⟩) → LRel m args args' → RRel m l l' →
      ∃ L, w.heap[l']? = some (.loop L) ∧ args'.length = L.params.size ∧
        RoundIn (F0 none) 0 P l' L.fn ((L.params.zip args'.toArray).foldl (fun tmps (t, a) => tmps.setIfInBounds t a) L.tmps) L.assign L.body w (retP (Rets m h w K))

section
variable {P : Program}

theorem room0 (r : Option Nat) (n : Nat) : (F0 r).room n := fun d hd => by simp [F0] at hd

theorem retP_mono {R R' : Value → World → Prop} (hr : ∀ v w, R v w → R' v w) : ∀ e w, retP R e w → retP R' e w := fun e w h => by
  cases e <;> first | exact hr _ _ h | exact h

theorem leavesIn_nil_mono {F : Fence} {n : Nat} {fn : Func} {tmps : Array Value} {R R' : Ending → World → Prop} (hr : ∀ e w, R e w → R' e w) : ∀ (u : FrameMode) (w : World), LeavesIn F n P fn tmps R [] u w → LeavesIn F n P fn tmps R' [] u w := by
  intro u w h
  cases u with
  | run => exact h
  | returning => obtain ⟨v, a, b⟩ := h; exact ⟨v, a, hr _ _ b⟩
  | panicking c => exact hr _ _ h

theorem leavesInM_mono {F : Fence} {n : Nat} {fn : Func} {tmps : Array Value} {R R' : Ending → World → Prop} (hr : ∀ e w, R e w → R' e w) : ∀ (ds : List Deferred) (u : FrameMode) (w : World),
    LeavesInM F n P fn tmps R ds u w → LeavesInM F n P fn tmps R' ds u w := by
  intro ds
  induction ds with
  | nil => exact fun u w h => leavesIn_nil_mono hr u w h
  | cons d ds ih =>
    intro u w h
    obtain ⟨hu, h⟩ := h
    refine ⟨hu, ?_⟩
    rcases h with ⟨r, w', a, b, c⟩ | ⟨hn, fv, cap, f, args, a, b, c, hcall⟩
    · exact .inl ⟨r, w', a, b, ih u w' c⟩
    · refine .inr ⟨hn, fv, cap, f, args, a, b, c, hcall.mono fun e u' w' he => ?_⟩
      cases e with
      | returned v => exact ih _ _ he
      | panicked ch => exact ih _ _ he
      | outgrown => exact hr _ _ he

theorem bodyPostM_mono {F : Fence} {n : Nat} {fn : Func} {R R' : Ending → World → Prop} (hr : ∀ e w, R e w → R' e w) : ∀ e a w, bodyPostM F n P fn R e a w → bodyPostM F n P fn R' e a w := fun e a w h => by
  cases e <;> first | exact leavesInM_mono hr _ _ _ h | exact hr _ _ h | exact h

theorem BodyWp.mono {f : FuncId} {args : Array Value} {w : World} {R R' : Value → World → Prop} (h : BodyWp P f args w R) (hr : ∀ v w, R v w → R' v w) : BodyWp P f args w R' := by
  obtain ⟨fn, c, a, b, d, e⟩ := h
  exact ⟨fn, c, a, b, d, wpIn_mono e (bodyPostM_mono (retP_mono hr))⟩

theorem Rets.mono {m : AMap} {h : AHeap} {w : World} {K K' : Value → AHeap → Prop} (hk : ∀ v h', K v h' → K' v h') {v' : Value} {w' : World} (hr : Rets m h w K v' w') : Rets m h w K' v' w' := by
  obtain ⟨v, h', m', a, b⟩ := hr; exact ⟨v, h', m', hk _ _ a, b⟩

theorem Conc.mono (gok : Nat → Bool) : (Conc P gok).Mono := fun j K K' h hk hx => by
  cases j with
  | call f args => exact fun m w args' H hg ha => (hx m w args' H hg ha).mono fun v w => Rets.mono hk
  | round l args =>
    intro m w args' l' H hg ha hl
    obtain ⟨L, a, b, c⟩ := hx m w args' l' H hg ha hl
    exact ⟨L, a, b, c.mono (retP_mono fun v w => Rets.mono hk)⟩

theorem BodyWp.callsIn {f : FuncId} {args : Array Value} {w : World} {R : Value → World → Prop} (h : BodyWp P f args w R) (r : Option Nat) : CallsIn (F0 r) 0 P f args w (retP R) := by
  obtain ⟨fn, c, a, b, _, e⟩ := h
  have := callsIn_of_wp_marks (F := F0 none) (n := 0) a b trivial e rfl
  exact this

/-! ### A function that is called when its caller leaves -/
theorem leaves_goingM {F : Fence} {n : Nat} {fn : Func} {tmps : Array Value} {R : Ending → World → Prop} : ∀ (ds : List Deferred) (u : FrameMode) (w : World) (fr : Frame)
    (cs : List Frame), fr.mode = u → fr.defers = ds → fr.tmps = tmps → P.funcs[fr.fn]? = some fn → F.fn fr.fn → F.room (cs.length + 1 + n) → LeavesInM F n P fn tmps R ds u w →
    ∃ e w' fr', R e w' ∧ ComesIn (Machine.fenced P F) P (lone fr cs w) (lone fr' cs w') e ∧ fr'.fn = fr.fn ∧ fr'.kind = fr.kind ∧ fr'.going P w' e := by
  intro ds
  induction ds with
  | nil =>
    intro u w fr cs hu hd ht hf hb hr h
    cases u with
    | run => exact h.elim
    | returning => obtain ⟨v, hv, hR⟩ := h; exact ⟨.returned v, w, fr, hR, StepsIn.refl _, rfl, rfl, hu, hd, fn, hf, ht ▸ hv⟩
    | panicking chain => exact ⟨.panicked chain, w, fr, h, StepsIn.refl _, rfl, rfl, hu, hd, fn, hf⟩
  | cons d ds ih =>
    intro u w fr cs hu hd ht hf hb hroom h
    obtain ⟨hrun, h⟩ := h
    rcases h with ⟨r, w', htar, htake, hrest⟩ | ⟨hn, fv, cap, f, args, htar, hinv, hlead, hFf, hcall⟩
    · have h1 := step_collected (cs := cs) (hu ▸ hrun) hd htar htake
      have i1 : (lone fr cs w).fenced P F := fenced_out hb hroom (hu ▸ hrun) hd (fun g hg => by rw [htar] at hg; simp [Target.leads] at hg)
      obtain ⟨e', w'', fr', hR', hs', hfn', hk', hl'⟩ := ih u w' { fr with defers := [] ++ ds } cs hu rfl ht hf hb hroom hrest
      exact ⟨e', w'', fr', hR', ComesIn.of_steps (.one i1 h1) hs', hfn', hk', hl'⟩
    · have h1 := step_defer (cs := cs) (hu ▸ hrun) hd htar hinv
      have i1 : (lone fr cs w).fenced P F := fenced_out hb hroom (hu ▸ hrun) hd hlead
      have hroom' : F.room (({ fr with defers := ds } :: cs).length + 1 + (n - 1)) := Fence.room_enter hroom hn
      obtain ⟨e, u', w', frX, hR, hsteps, hkX, hfX, hgo⟩ := hcall { fr with defers := ds } cs hu hroom'
      cases e with
      | outgrown => exact ⟨.outgrown, w', fr, hR, Outgrown.of_steps (.one h1) hsteps, rfl, rfl, trivial⟩
      | returned v =>
        have i2 : (lone frX ({ { fr with defers := ds } with mode := u' } :: cs) w').fenced P F := fenced_going (n := n - 1) (hfX ▸ hFf) hroom' hgo
        have h2 := step_going_returned (c := { { fr with defers := ds } with mode := u' }) (cs := cs) hkX hgo
        obtain ⟨e', w'', fr', hR', hs', hfn', hk', hl'⟩ := ih (settle u') w' { { { fr with defers := ds } with mode := u' } with mode := settle u' } cs rfl rfl ht hf hb hroom hR
        exact ⟨e', w'', fr', hR', ComesIn.of_steps (.head i1 h1 (StepsIn.trans hsteps (.one i2 h2))) hs', hfn', hk', hl'⟩
      | panicked chain =>
        have i2 : (lone frX ({ { fr with defers := ds } with mode := u' } :: cs) w').fenced P F := fenced_going (n := n - 1) (hfX ▸ hFf) hroom' hgo
        have h2 := step_going_panicked (c := { { fr with defers := ds } with mode := u' }) (cs := cs) hgo
        obtain ⟨e', w'', fr', hR', hs', hfn', hk', hl'⟩ := ih (raised u' chain) w' { { { fr with defers := ds } with mode := u' } with mode := raised u' chain } cs rfl rfl ht hf hb hroom hR
        exact ⟨e', w'', fr', hR', ComesIn.of_steps (.head i1 h1 (StepsIn.trans hsteps (.one i2 h2))) hs', hfn', hk', hl'⟩

theorem BodyWp.callsD {f : FuncId} {args : Array Value} {w : World} {R : Value → World → Prop} {u : FrameMode} (h : BodyWp P f args w R) (r : Option Nat) :
    CallsDIn (F0 r) 0 P f args u w (fun e u' w' => u' = u ∧ retP R e w') := by
  obtain ⟨fn, c, hf, hb, _, hwp⟩ := h
  suffices hh : CallsDIn (F0 none) 0 P f args u w (fun e u' w' => u' = u ∧ retP R e w') from hh
  refine ⟨trivial, fun c₀ cs hu hr => ?_⟩
  let b : Frame := { (default : Frame) with fn := f, kind := .deferred, roundOf := none }
  have henter : Frame.enter P f args .deferred = b.atR { tmps := args ++ Array.replicate (fn.ntmps - args.size) undef, defers := [] } [.code c] := by
    simp [Frame.enter, Frame.atR, hf, hb, b]
  have hc : ({ c₀ with mode := u } : Frame) = c₀ := by subst hu; rfl
  obtain ⟨e, a', w', hq, harr⟩ := hwp b [] (c₀ :: cs) rfl trivial (room0 _ _)
  rw [← henter] at harr
  have fin : ∀ (fr : Frame) , fr.mode = .returning → fr.defers = a'.defers → fr.tmps = a'.tmps → fr.fn = f → fr.kind = .deferred →
      StepsIn (Machine.fenced P (F0 none)) P (lone (Frame.enter P f args .deferred) (c₀ :: cs) w) (lone fr (c₀ :: cs) w') → LeavesInM (F0 none) 0 P fn a'.tmps (retP R) a'.defers .returning w' →
      ∃ e u' w'' fr', (u' = u ∧ retP R e w'') ∧ ComesIn (Machine.fenced P (F0 none)) P (lone (Frame.enter P f args .deferred) (c₀ :: cs) w) (lone fr' ({ c₀ with mode := u' } :: cs) w'') e ∧ fr'.kind = .deferred ∧ fr'.fn = f ∧ fr'.going P w'' e := by
    intro fr h1 h2 h3 h4 h5 hs hl
    obtain ⟨e', w'', fr', hR, hs', hfn, hk, hg⟩ := leaves_goingM a'.defers .returning w' fr (c₀ :: cs) h1 h2 h3 (by rw [h4]; exact hf) trivial (room0 _ _) hl
    exact ⟨e', u, w'', fr', ⟨rfl, hR⟩, by rw [hc]; exact ComesIn.of_steps hs hs', hk.trans h5, hfn.trans h4, hg⟩
  cases e with
  | normal => exact fin { b.atR a' [] with mode := .returning } rfl rfl rfl rfl rfl (StepsIn.trans harr (.one (fenced_calm (F := F0 none) (n := 0) (fr := b.atR a' []) trivial (room0 _ _) rfl) (stepR_end rfl))) hq
  | ret =>
    obtain ⟨todo, hs₀⟩ := harr.1 rfl
    exact fin { b.atR a' todo with mode := .returning } rfl rfl rfl rfl rfl hs₀ hq
  | panic chain => 
    obtain ⟨todo, hs₀⟩ := harr
    obtain ⟨e', w'', fr', hR, hs', hfn, hk, hg⟩ := leaves_goingM a'.defers (.panicking chain) w' { b.atR a' todo with mode := .panicking chain } (c₀ :: cs) rfl rfl rfl hf trivial (room0 _ _) hq
    exact ⟨e', u, w'', fr', ⟨rfl, hR⟩, by rw [hc]; exact ComesIn.of_steps hs₀ hs', hk, hfn, hg⟩
  | exit id => exact hq.elim
  | goto l => exact hq.elim
  | outgrown => exact hq.elim
end
end Go.Cub
