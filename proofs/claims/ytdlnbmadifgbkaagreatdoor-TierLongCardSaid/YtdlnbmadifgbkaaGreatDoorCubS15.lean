/- One operation of the abstract machine, in the model's walk; regions gone through in the text's order. -/
import Derived.Test.YtdlnbmadifgbkaaGreatDoorCubS14
namespace Go.Cub
set_option linter.unusedVariables false
set_option linter.unusedSimpArgs false
open Go

section
variable {P : Program} {gok : Nat → Bool} {m : AMap} {h : AHeap} {w : World}

theorem wpIn_run {r : Option Nat} {o : Oper} {a' : Act} {next : Act → World → Prop} {Q : Exit → Act → World → Prop} {nx : Next} {w' : World} {v' : Value} (hd : ∀ c, o.op ≠ .defer c)
    (hr : (execOp a'.eval o).run P w = .ok nx w') (hv : nx = .value v' ∨ (nx = .skip ∧ v' = undef)) (hn : next (a'.put o.dst v') w') : o.wpIn (F0 r) 0 P a' w next Q := by
  refine ⟨about_true o a' r, ?_⟩
  rw [Oper.semAt_eq _ _ _ hd, hr]
  rcases hv with rfl | ⟨rfl, rfl⟩
  · exact hn
  · exact hn

/-- A quiet operation that is done at once. -/
theorem quiet_now {o : Oper} {id : Nat} {ρ ρ' : Operand → Value} {h1 : AHeap} {v : Value} (hq : aOp P ρ o id h = some (v, h1)) (he : isEff o = false) (H : HRel m h w) (hid : m id = none) (hfr : id < h.next) (hn : h.get id = none)
    (hρ : ∀ x ∈ o.op.operands, VRel m (ρ x) (ρ' x)) : ∃ v' w' m', (execOp ρ' o).run P w = .ok (.value v') w' ∧ VRel m' v v' ∧ HRel m' h1 w' ∧ Ext (· = id) m h w m' h1 w' := by
  have H1 : HRel m h1 w ∧ Ext (· = id) m h w m h1 w ∧ h.sub h1 := by
    rcases quiet_heap hq he with rfl | ⟨ob, rfl⟩
    · exact ⟨H, .refl _ _ _ _, fun i o hi => hi⟩
    · exact ⟨H.lay hid ob, .lay hid ob, AHeap.sub_set hn⟩
  obtain ⟨v', w', m', a, b, c, d⟩ := quiet_sound hq he H1.1 hid hfr hρ (fun ob hob => hob) (fun hr => read_sub H1.2.2 hq hr)
  exact ⟨v', w', m', a, b, c, H1.2.1.trans d⟩

theorem VRel.iface_inv {t : TypeId} {v x : Value} (h : VRel m (.iface t v) x) : ∃ v', x = .iface t v' ∧ VRel m v v' := by
  cases h with
  | atom h => simp [isAtom] at h
  | iface h => exact ⟨_, rfl, h⟩

theorem run_method {t : TypeId} {name : String} {v' : Value} {g : FuncId} (hm : methA P t name = some g) (k : Nat) : (method (k + Made.depth) t v' name).run P w = .ok (g, v') w := by
  unfold methA at hm
  split at hm
  · rename_i i hi
    split at hm
    · rename_i mt hmt
      split at hm
      · rename_i hp hf hu
        cases hm
        have : k + Made.depth = (k + Made.depth - 1) + 1 := by simp [Made.depth]
        rw [this]
        unfold method
        simp only [Sem.run_bind, ri hi, Result.andThen_ok, hmt, hp, follow, Sem.run_pure, hf, receiverAt, ru hu, Place.get]
      · cases hm
    · cases hm
  · cases hm

theorem opK_sound {r : Option Nat} {o : Oper} {id : Nat} {a : AAct} {a' : Act} {Ds : List Nat} {K : Value → AAct → AHeap → Prop} {next : Act → World → Prop} {Q : Exit → Act → World → Prop}
    (hop : aOpK P (Conc P gok) r.isSome o id a h K) (H : HRel m h w) (hg : ∀ g, gok g = true → PRel m ⟨g, 0, none⟩ ⟨g, 0, none⟩) (hid : m id = none) (hfr : id < h.next) (hn : isEff o = false → h.get id = none)
    (hρ : ∀ x ∈ o.op.operands, VRel m (a.eval x) (a'.eval x)) (hD : DRel m w a.defers a'.defers Ds) (hnext : NextOk o id a a' m h w Ds K next) : o.wpIn (F0 r) 0 P a' w next Q := by
  have plain : (match aOp P a.eval o id h with | some (v, h') => K v a h' | none => False) → (∀ c, o.op ≠ .defer c) → o.wpIn (F0 r) 0 P a' w next Q := by
    intro hq hd
    split at hq
    · rename_i v h1 hq1
      cases he : isEff o with
      | true =>
        obtain ⟨v', w', m', nx, hr, hnx, hv, H', E⟩ := eff_sound hq1 he H hid hfr hρ
        exact wpIn_run hd hr hnx (hnext _ _ _ hq _ _ _ a' hv H' (E.mono fun i hi => .inl hi) rfl rfl (hD.mono E))
      | false =>
        obtain ⟨v', w', m', hr, hv, H', E⟩ := quiet_now hq1 he H hid hfr (hn he) hρ
        exact wpIn_run hd hr (.inl rfl) (hnext _ _ _ hq _ _ _ a' hv H' (E.mono fun i hi => .inl hi) rfl rfl (hD.mono E))
    · exact hq.elim
  obtain ⟨dst, op, ty, pos, after, guard⟩ := o
  unfold aOpK at hop
  split at hop
  · -- a call
    rename_i f args ats hop'
    dsimp only at hop'
    subst hop'
    have hf := hρ f (by simp [Op.operands, Call.operands])
    have ha : LRel m (args.toList.map a.eval) (args.toList.map a'.eval) := LRel.map _ _ _ fun x hx => hρ x (by simp [Op.operands, Call.operands]; exact .inr (by simpa using hx))
    obtain ⟨fn, first, cap, hfv, hcase⟩ := callV_sound hop H hg hf ha
    have harr : (args.map a'.eval) = (args.toList.map a'.eval).toArray := by apply Array.ext'; simp
    refine ⟨about_true _ a' r, ?_⟩
    rw [semAt_call]
    have hfin : ∀ v' w', Rets m h w (fun v h' => K v a h') v' w' → next (a'.put dst v') w' := by
      rintro v' w' ⟨v, h', m', hk, hv, H', E⟩
      exact hnext v a h' hk m' w' v' a' hv H' (E.mono fun i hi => .inr hi) rfl rfl (hD.mono E)
    rcases hcase with ⟨g, rfl, hb⟩ | ⟨l, L, rfl, hL, hsz, hround⟩
    · have hb0 := hb
      obtain ⟨fnn, c, h1, h2, h3, _⟩ := hb0
      have hrun : (execOp a'.eval ⟨dst, .call { callee := .value f, args := args, argTypes := ats }, ty, pos, after, guard⟩).run P w = .ok (.enter g (first ++ (args.toList.map a'.eval).toArray ++ cap)) w := by
        simp only [execOp, resolve, hfv, Deferred.ofValue, Sem.run_bind, Sem.run_pure, Result.andThen_ok, invoke, harr, run_callFunc h1 h2 h3]
      rw [hrun]
      refine ⟨fun hh => by simp [F0] at hh, (hb.callsIn r).mono fun e w' he => ?_⟩
      cases e with
      | returned v => exact hfin v w' he
      | panicked ch => exact he.elim
      | outgrown => exact he.elim
    · have hrun : (execOp a'.eval ⟨dst, .call { callee := .value f, args := args, argTypes := ats }, ty, pos, after, guard⟩).run P w = .ok (.round l L.fn ((L.params.zip (first ++ (args.toList.map a'.eval).toArray)).foldl (fun tmps (t, a) => tmps.setIfInBounds t a) L.tmps) L.assign L.body) w := by
        simp only [execOp, resolve, hfv, Deferred.ofValue, Sem.run_bind, Sem.run_pure, Result.andThen_ok, invoke, harr, run_yield' hL hsz]
      rw [hrun]
      refine ⟨fun hh => by simp [F0] at hh, ?_⟩
      have : RoundIn (F0 r) 0 P l L.fn ((L.params.zip (first ++ (args.toList.map a'.eval).toArray)).foldl (fun tmps (t, a) => tmps.setIfInBounds t a) L.tmps) L.assign L.body w (retP (Rets m h w (fun v h' => K v a h'))) := hround
      refine this.mono fun e w' he => ?_
      cases e with
      | returned v => exact hfin v w' he
      | panicked ch => exact he.elim
      | outgrown => exact he.elim
  · -- a method of what an interface holds
    rename_i rcv name args ats hop'
    dsimp only at hop'
    subst hop'
    have hf := hρ rcv (by simp [Op.operands, Call.operands])
    have ha : LRel m (args.toList.map a.eval) (args.toList.map a'.eval) := LRel.map _ _ _ fun x hx => hρ x (by simp [Op.operands, Call.operands]; exact .inr (by simpa using hx))
    have harr : (args.map a'.eval) = (args.toList.map a'.eval).toArray := by apply Array.ext'; simp
    unfold callM at hop
    split at hop
    · rename_i t v hfe
      rw [hfe] at hf
      obtain ⟨v', hfv, hvr⟩ := hf.iface_inv
      split at hop
      · rename_i g hg1
        have hb := hop m w (v' :: args.toList.map a'.eval) H hg (.cons hvr ha)
        have earr : (v' :: args.toList.map a'.eval).toArray = #[v'] ++ (args.toList.map a'.eval).toArray := by apply Array.ext'; simp
        rw [earr] at hb
        have hb0 := hb
        obtain ⟨fnn, c, h1, h2, h3, _⟩ := hb0
        refine ⟨about_true _ a' r, ?_⟩
        rw [semAt_call]
        have hrun : (execOp a'.eval ⟨dst, .call { callee := .invoke rcv name, args := args, argTypes := ats }, ty, pos, after, guard⟩).run P w = .ok (.enter g (#[v'] ++ (args.toList.map a'.eval).toArray)) w := by
          have e1 : (#[a'.eval rcv] ++ args.map a'.eval)[0]? = some (a'.eval rcv) := by rw [Array.getElem?_append_left (by simp)]; rfl
          have e2 : (#[a'.eval rcv] ++ args.map a'.eval).extract 1 (#[a'.eval rcv] ++ args.map a'.eval).size = (args.toList.map a'.eval).toArray := by rw [harr]; apply Array.ext'; simp [List.take_of_length_le]
          simp only [execOp, resolve, Sem.run_bind, Sem.run_pure, Result.andThen_ok, invoke]
          rw [e1]
          simp only [e2, hfv, callMethod, Sem.run_bind, run_program, Sem.run_pure, Result.andThen_ok, run_method hg1, run_callFunc h1 h2 h3]
          rw [hfv] at e2
          rw [e2]
        rw [hrun]
        refine ⟨fun hh => by simp [F0] at hh, (hb.callsIn r).mono fun e w' he => ?_⟩
        cases e with
        | returned u' =>
          obtain ⟨u, h', m', hk, hv, H', E⟩ := he
          exact hnext u a h' hk m' w' u' a' hv H' (E.mono fun i hi => .inr hi) rfl rfl (hD.mono E)
        | panicked ch => exact he.elim
        | outgrown => exact he.elim
      · exact hop.elim
    · exact hop.elim
  · -- put off
    rename_i f args ats hop'
    dsimp only at hop'
    subst hop'
    cases r with
    | some l => simp at hop
    | none =>
      simp only [Option.isSome_none] at hop
      have hf := hρ f (by simp [Op.operands, Call.operands])
      have ha : LRel m (args.toList.map a.eval) (args.toList.map a'.eval) := LRel.map _ _ _ fun x hx => hρ x (by simp [Op.operands, Call.operands]; exact .inr (by simpa using hx))
      have harr : (args.map a'.eval) = (args.toList.map a'.eval).toArray := by apply Array.ext'; simp
      split at hop
      · rename_i fn first cap _ hfe
        have hf0 := hf
        rw [hfe] at hf
        obtain ⟨fn', first', cap', hfv, _⟩ := hf.func_inv
        refine ⟨about_true _ a' none, ?_⟩
        have hrun : (Oper.semAt none a'.eval ⟨dst, .defer { callee := .value f, args := args, argTypes := ats }, ty, pos, after, guard⟩).run P w = .ok (.defer { target := .fn fn' cap', args := first' ++ (args.toList.map a'.eval).toArray }) w := by
          simp only [Oper.semAt, execOp, resolve, hfv, Deferred.ofValue, Sem.run_bind, Sem.run_pure, Result.andThen_ok, harr]
        show Oper.uponIn _ _ _ _ _ _ _ _
        rw [show (F0 none).round = none from rfl, hrun]
        show next _ _
        refine hnext _ _ _ hop m w undef { a' with defers := { target := .fn fn' cap', args := first' ++ (args.toList.map a'.eval).toArray } :: a'.defers } .undef H (.refl _ _ _ _) rfl rfl (.call ?_ ha hD)
        rw [← hfv]; exact hf0
      · exact hop.elim
  · -- an iterator's step
    rename_i it s hop'
    dsimp only at hop'
    subst hop'
    obtain ⟨v, v', h', w', hr, hk, hv, H', E⟩ := nextA_sound (P := P) (ty := ty) hop H (hρ it (by simp [Op.operands]))
    exact wpIn_run (by simp) (by simp [execOp, hr]) (.inl rfl) (hnext _ _ _ hk _ _ _ a' hv H' (E.mono fun i hi => hi.elim) rfl rfl (hD.mono E))
  · rename_i h1 h2 h3
    by_cases hdf : ∃ c, op = .defer c
    · obtain ⟨c, rfl⟩ := hdf
      simp [aOp] at hop
    · exact plain hop (fun c hc => hdf ⟨c, hc⟩)
end
end Go.Cub
