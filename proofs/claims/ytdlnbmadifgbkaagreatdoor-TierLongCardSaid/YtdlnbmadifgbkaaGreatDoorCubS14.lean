/- Reads in a greater heap; one operation. -/
import Derived.Test.YtdlnbmadifgbkaaGreatDoorCubS13
namespace Go.Cub
set_option linter.unusedVariables false
set_option linter.unusedSimpArgs false
open Go

/-- All that lies in h lies in h'. -/
def AHeap.sub (h h' : AHeap) : Prop := ∀ i ob, h.get i = some ob → h'.get i = some ob

theorem AHeap.sub_set {h : AHeap} {id : Nat} {ob : AObj} (hn : h.get id = none) : h.sub (h.set id ob) := fun i o hi => by
  rw [AHeap.get_set_ne (fun e => by subst e; rw [hn] at hi; cases hi)]; exact hi

section
variable {P : Program} {h h' : AHeap}

theorem getCells_sub (hs : h.sub h') {a : Addr} {n : Nat} {l : List Value} (hg : getCells h a n = some l) : getCells h' a n = some l := by
  unfold getCells at hg ⊢
  split at hg
  · rename_i b hb; rw [hs _ _ hb]; exact hg
  · cases hg

theorem loadA_sub (hs : h.sub h') {t : TypeId} {x v : Value} (hg : loadA P t x h = some v) : loadA P t x h' = some v := by
  unfold loadA at hg ⊢
  split at hg
  · simp only [Option.map_eq_some_iff] at hg ⊢
    obtain ⟨l, hl, rfl⟩ := hg
    exact ⟨l, getCells_sub hs hl, rfl⟩
  · simp only [Option.bind_eq_some_iff] at hg ⊢
    obtain ⟨l, hl, e⟩ := hg
    exact ⟨l, getCells_sub hs hl, e⟩
  · cases hg

theorem entriesOf_sub (hs : h.sub h') {x : Value} {es : List MapEntry} (hg : entriesOf h x = some es) : entriesOf h' x = some es := by
  unfold entriesOf at hg ⊢
  split at hg
  · exact hg
  · split at hg
    · rename_i hb; simp only [hs _ _ hb]; exact hg
    · cases hg
  · cases hg

theorem lookupA_sub (hs : h.sub h') {t : TypeId} {x k v : Value} {ok : Bool} (hg : lookupA P t x k ok h = some v) : lookupA P t x k ok h' = some v := by
  unfold lookupA at hg ⊢
  split at hg
  · rename_i kt et es a b c
    simp only [a, entriesOf_sub hs b, c]; exact hg
  · cases hg

theorem convertA_sub (hs : h.sub h') {src dt : TypeId} {x v : Value} {id : Nat} {h1 : AHeap} (hg : convertA P src dt x id h = some (v, h1)) : ∃ h2, convertA P src dt x id h' = some (v, h2) := by
  unfold convertA at hg ⊢
  split at hg
  · split at hg
    · split at hg
      · simp only [Option.some.injEq, Prod.mk.injEq] at hg; exact ⟨h', by rw [hg.1]⟩
      · cases hg
    · cases hg
  · split at hg
    · split at hg
      · simp only [Option.some.injEq, Prod.mk.injEq] at hg; exact ⟨h', by rw [hg.1]⟩
      · cases hg
    · cases hg
  · split at hg
    · simp only [Option.some.injEq, Prod.mk.injEq] at hg; exact ⟨h', by rw [hg.1]⟩
    · rename_i a b
      split at hg
      · simp only [Option.some.injEq, Prod.mk.injEq] at hg; exact ⟨_, by rw [hg.1]⟩
      · cases hg
    · cases hg
  · split at hg
    · simp only [Option.some.injEq, Prod.mk.injEq] at hg; exact ⟨h', by rw [hg.1]⟩
    · cases hg
  · split at hg
    · rename_i a b
      simp only [Option.map_eq_some_iff, Option.bind_eq_some_iff, Prod.mk.injEq] at hg
      obtain ⟨l, ⟨cs, hc, hl⟩, e, _⟩ := hg
      exact ⟨h', by simp only [getCells_sub hs hc, Option.bind_some, hl, Option.map_some, e]⟩
    · split at hg
      · rename_i hbq hb
        split at hg
        · rename_i hpl hwr1
          simp only [Option.some.injEq, Prod.mk.injEq] at hg
          exact ⟨h', by rw [hs _ _ hb, hbq]; simp only [hpl, hwr1, hg.1]⟩
        · cases hg
      · cases hg
    · cases hg
  · cases hg

theorem openOk_sub (hs : h.sub h') {a : Option Addr} {e : Nat} (ho : openOk h a e = true) : openOk h' a e = true := by
  unfold openOk at ho ⊢
  split at ho
  · rfl
  · split at ho
    · rename_i b hb; simp only [hs _ _ hb]; exact ho
    · cases ho

theorem sliceA_sub (hs : h.sub h') {t : TypeId} {x v : Value} {lo hi mx : Option Value} (hg : sliceA P t x lo hi mx h = some v) : sliceA P t x lo hi mx h' = some v := by
  unfold sliceA at hg ⊢
  dsimp only at hg ⊢
  split at hg
  · split at hg
    · rename_i a
      split at hg
      · cases hg
      · rename_i ho; rw [openOk_sub hs ho]; exact hg
    · cases hg
  · split at hg
    · rename_i a
      split at hg
      · cases hg
      · rename_i ho; rw [openOk_sub hs ho]; exact hg
    · cases hg
  · cases hg

theorem liveBlk_sub (hs : h.sub h') {a : Addr} (ho : liveBlk h a = true) : liveBlk h' a = true := by
  unfold liveBlk at ho ⊢
  split at ho
  · rename_i b hb; simp only [hs _ _ hb]; exact ho
  · cases ho

theorem eqA_sub (hs : h.sub h') {t : TypeId} {x y : Value} {r : Bool} (hg : eqA P t x y h = some r) : eqA P t x y h' = some r := by
  unfold eqA at hg ⊢
  split at hg
  case h_3 e a b hu =>
    split at hg
    · split at hg
      · rename_i la lb; rw [liveBlk_sub hs la, liveBlk_sub hs lb]; exact hg
      · cases hg
    · cases hg
  all_goals first | exact hg | cases hg

theorem binA_sub (hs : h.sub h') {ρ : Operand → Value} {o : Oper} {op : BinOp} {t : TypeId} {x y : Operand} {v : Value} (hg : binA P ρ o op t x y h = some v) : binA P ρ o op t x y h' = some v := by
  unfold binA at hg ⊢
  split at hg
  · exact hg
  · split at hg
    · simp only [Option.map_eq_some_iff] at hg ⊢
      obtain ⟨r, hr, e⟩ := hg; exact ⟨r, eqA_sub hs hr, e⟩
    · simp only [Option.map_eq_some_iff] at hg ⊢
      obtain ⟨r, hr, e⟩ := hg; exact ⟨r, eqA_sub hs hr, e⟩
    · cases hg

theorem entryA_sub (hs : h.sub h') {x v : Value} (hg : entryA x h = some v) : entryA x h' = some v := by
  unfold entryA at hg ⊢
  split at hg
  · split at hg
    · rename_i hb
      simp only [hs _ _ hb]
      split at hg
      · rename_i a b; simp only [hs _ _ b, a]; exact hg
      · cases hg
    · cases hg
  · cases hg

theorem capA_sub (hs : h.sub h') {t : TypeId} {x v : Value} (hg : capA P t h x = some v) : capA P t h' x = some v := by
  unfold capA at hg ⊢
  split at hg
  · exact hg
  · split at hg
    · rename_i hb; rw [hs _ _ hb]; exact hg
    · cases hg
  · cases hg

theorem lenA_sub (hs : h.sub h') {t : TypeId} {x v : Value} (hg : lenA P t h x = some v) : lenA P t h' x = some v := by
  unfold lenA at hg ⊢
  split at hg
  case h_4 k e r hu =>
    split at hg
    · rename_i hb; simp only [hs _ _ hb]; exact hg
    · cases hg
  all_goals first | exact hg | cases hg

theorem map_snd' {α : Type} {x : Option α} {v : α} (e : x = some v) : ∃ h2 : AHeap, x.map (·, h') = some (v, h2) := ⟨h', by rw [e]; rfl⟩

/-- What reads in a heap reads the same in a greater one. -/
theorem read_sub (hs : h.sub h') {o : Oper} {id : Nat} {ρ : Operand → Value} {v : Value} {h1 : AHeap} (hq : aOp P ρ o id h = some (v, h1)) (hr : isRead o = true) : ∃ h2, aOp P ρ o id h' = some (v, h2) := by
  obtain ⟨dst, op, ty, pos, after, guard⟩ := o
  cases op <;> first | (simp [isRead] at hr; done) | skip
  case load t a => simp only [aOp] at hq ⊢; exact map_snd' (loadA_sub hs (map_snd hq).1)
  case lookup t mp k ok => simp only [aOp] at hq ⊢; exact map_snd' (lookupA_sub hs (map_snd hq).1)
  case convert s d x => simp only [aOp] at hq ⊢; exact convertA_sub hs hq
  case entry it => simp only [aOp] at hq ⊢; exact map_snd' (entryA_sub hs (map_snd hq).1)
  case binOp op t x y yt => simp only [aOp] at hq ⊢; exact map_snd' (binA_sub hs (map_snd hq).1)
  case slice t x lo hi mx =>
    simp only [aOp] at hq ⊢
    split at hq
    · exact map_snd' (map_snd hq).1
    · exact map_snd' (sliceA_sub hs (map_snd hq).1)
  case call c =>
    obtain ⟨cal, args, ats⟩ := c
    cases cal with
    | value f => simp [isRead] at hr
    | invoke r n => simp [isRead] at hr
    | builtin b =>
      cases b <;> first | (simp [isRead] at hr; done) | skip
      case cap =>
        simp only [aOp, builtinA] at hq ⊢
        split at hq
        · exact map_snd' (capA_sub hs (map_snd hq).1)
        · cases hq
      case len =>
        simp only [aOp, builtinA] at hq ⊢
        split at hq
        · split at hq
          · exact map_snd' (map_snd hq).1
          · exact map_snd' (map_snd hq).1
          · exact map_snd' (lenA_sub hs (map_snd hq).1)
        · cases hq

/-- A quiet operation turns nothing but what it lays under its own number. -/
theorem quiet_heap {o : Oper} {id : Nat} {ρ : Operand → Value} {v : Value} {h1 : AHeap} (hq : aOp P ρ o id h = some (v, h1)) (he : isEff o = false) : h1 = h ∨ ∃ ob, h1 = h.set id ob := by
  obtain ⟨dst, op, ty, pos, after, guard⟩ := o
  cases op <;> first | (simp [isEff] at he; done) | (simp [aOp] at hq; done) | skip
  case move x => simp only [aOp, Option.some.injEq, Prod.mk.injEq] at hq; exact .inl hq.2.symm
  case assign x => simp only [aOp, Option.some.injEq, Prod.mk.injEq] at hq; exact .inl hq.2.symm
  case pick c a b =>
    simp only [aOp] at hq
    split at hq <;> simp only [Option.some.injEq, Prod.mk.injEq, reduceCtorEq] at hq <;> exact .inl hq.2.symm
  case alloc e =>
    simp only [aOp, Option.map_eq_some_iff, Prod.mk.injEq] at hq
    obtain ⟨z, _, _, rfl⟩ := hq; exact .inr ⟨_, rfl⟩
  case box e x => simp only [aOp, Option.some.injEq, Prod.mk.injEq] at hq; exact .inr ⟨_, hq.2.symm⟩
  case build t ps => simp only [aOp] at hq; exact .inl (map_snd hq).2
  case buildSlice t len ps =>
    simp only [aOp] at hq
    split at hq
    · cases hq
    · split at hq
      · split at hq
        · split at hq
          · simp only [Option.some.injEq, Prod.mk.injEq] at hq; exact .inr ⟨_, hq.2.symm⟩
          · cases hq
        · cases hq
      · cases hq
  case load t a => simp only [aOp] at hq; exact .inl (map_snd hq).2
  case nilCheck x =>
    simp only [aOp] at hq
    split at hq <;> simp only [Option.some.injEq, Prod.mk.injEq, reduceCtorEq] at hq <;> exact .inl hq.2.symm
  case binOp op t x y yt => simp only [aOp] at hq; exact .inl (map_snd hq).2
  case unOp op t x => simp only [aOp] at hq; exact .inl (map_snd hq).2
  case convert s d x =>
    simp only [aOp] at hq
    unfold convertA at hq
    split at hq
    · split at hq
      · split at hq
        · simp only [Option.some.injEq, Prod.mk.injEq] at hq; exact .inl hq.2.symm
        · cases hq
      · cases hq
    · split at hq
      · split at hq
        · simp only [Option.some.injEq, Prod.mk.injEq] at hq; exact .inl hq.2.symm
        · cases hq
      · cases hq
    · split at hq
      · simp only [Option.some.injEq, Prod.mk.injEq] at hq; exact .inl hq.2.symm
      · split at hq
        · simp only [Option.some.injEq, Prod.mk.injEq] at hq; exact .inr ⟨_, hq.2.symm⟩
        · cases hq
      · cases hq
    · split at hq
      · simp only [Option.some.injEq, Prod.mk.injEq] at hq; exact .inl hq.2.symm
      · cases hq
    · split at hq
      · simp only [Option.map_eq_some_iff, Prod.mk.injEq] at hq
        obtain ⟨_, _, _, e⟩ := hq; exact .inl e.symm
      · split at hq
        · split at hq
          · simp only [Option.some.injEq, Prod.mk.injEq] at hq; exact .inl hq.2.symm
          · cases hq
        · cases hq
      · cases hq
    · cases hq
  case makeInterface t x =>
    simp only [aOp] at hq
    split at hq <;> simp only [Option.some.injEq, Prod.mk.injEq, reduceCtorEq] at hq <;> exact .inl hq.2.symm
  case makeFunc fn a b =>
    simp only [aOp] at hq
    split at hq <;> simp only [Option.some.injEq, Prod.mk.injEq, reduceCtorEq] at hq <;> exact .inl hq.2.symm
  case makeMap t r =>
    simp only [aOp] at hq
    split at hq
    · simp only [Option.some.injEq, Prod.mk.injEq] at hq; exact .inr ⟨_, hq.2.symm⟩
    · split at hq
      · simp only [Option.some.injEq, Prod.mk.injEq] at hq; exact .inr ⟨_, hq.2.symm⟩
      · cases hq
  case makeSlice t l c =>
    simp only [aOp, makeSliceA] at hq
    split at hq
    · split at hq
      · split at hq
        · simp only [Option.some.injEq, Prod.mk.injEq] at hq; exact .inr ⟨_, hq.2.symm⟩
        · cases hq
      · cases hq
    · cases hq
  case slice t x lo hi mx =>
    simp only [aOp] at hq
    split at hq <;> exact .inl (map_snd hq).2
  case fieldAddr s x f => simp only [aOp] at hq; exact .inl (map_snd hq).2
  case field t x f => simp only [aOp] at hq; exact .inl (map_snd hq).2
  case indexAddr t x i => simp only [aOp] at hq; exact .inl (map_snd hq).2
  case index t x i => simp only [aOp] at hq; exact .inl (map_snd hq).2
  case lookup t mp k ok => simp only [aOp] at hq; exact .inl (map_snd hq).2
  case entry it => simp only [aOp] at hq; exact .inl (map_snd hq).2
  case extract x i =>
    simp only [aOp] at hq
    split at hq
    · exact .inl (map_snd hq).2
    · cases hq
  case call c =>
    obtain ⟨cal, args, ats⟩ := c
    cases cal with
    | value f => simp [isEff] at he
    | invoke r n => simp [isEff] at he
    | builtin b =>
      cases b <;> first | (simp [isEff] at he; done) | skip
      case cap =>
        simp only [aOp, builtinA] at hq
        split at hq
        · exact .inl (map_snd hq).2
        · cases hq
      case len =>
        simp only [aOp, builtinA] at hq
        split at hq
        · split at hq <;> exact .inl (map_snd hq).2
        · cases hq
      case max => simp only [aOp, builtinA] at hq; exact .inl (map_snd hq).2
      case min => simp only [aOp, builtinA] at hq; exact .inl (map_snd hq).2
end
end Go.Cub
