/- Regions, either kind. -/
import Derived.Test.YtdlnbmadifgbkaaGreatDoorCubS19
namespace Go.Cub
set_option linter.unusedVariables false
set_option linter.unusedSimpArgs false
open Go

section
variable {P : Program} {gok : Nat → Bool} {m : AMap} {h : AHeap} {w : World}

theorem filter_two {α : Type} (p q : α → Bool) (hpq : ∀ x, p x = true → q x = false) : ∀ l : List α, (l.filter p).length + (l.filter q).length ≤ l.length := by
  intro l
  induction l with
  | nil => simp
  | cons i l ih =>
    have := hpq i
    cases hp : p i <;> cases hq : q i <;> simp [hp, hq] <;> first | omega | (rw [this hp] at hq; cases hq)

theorem quiet_loud_len (ops : Array Oper) : (quietOf ops).length + (loudOf ops).length ≤ ops.size := by
  have := filter_two (fun i => match ops[i]? with | some o => !isEff o | none => false) (fun i => match ops[i]? with | some o => isEff o | none => false) (fun i hi => by
    revert hi
    cases ho : ops[i]? with
    | none => simp
    | some o => simp) (List.range ops.size)
  rw [List.length_range] at this
  exact this

theorem region_sound {r : Option Nat} {id : Nat} {ops : Array Oper} {draw : Bool} {N : Nat} {a : AAct} {a' : Act} {K : AAct → AHeap → Prop} {Q : Exit → Act → World → Prop} {Ds : List Nat} (hmix : P.follows .mixedOrders = true)
    (hop : aRegion P (Conc P gok) r.isSome ops draw a K h) (hok : ∀ (i : Nat) (o : Oper), ops[i]? = some o → operOk gok N o = true) (hreg : draw = true → regOk ops = true)
    (H : HRel m h w) (G : GRel gok m) (he : EnvRel m a.env a'.tmps) (hN : a'.tmps.size = N) (hD : DRel m w a.defers a'.defers Ds) (hpost : RegPost N gok m h w Ds h.next K Q) : (Code.region id ops draw).wpIn (F0 r) 0 P Q a' w := by
  have hm : ∀ i, m (h.next + i) = none := fun i => Classical.byContradiction fun e => by have := H.dom _ e; omega
  have hget : ∀ i, h.get (h.next + i) = none := fun i => h.wf _ (by omega)
  cases draw with
  | false =>
    simp only [aRegion] at hop
    refine wpIn_region (ops_text hok hpost _ _ a a' m (h.bump ops.size) w hop (H.bump _) G he hN hD (.bump _) List.nodup_range (by simp) (fun i hi => ⟨hm i, by simpa using hget i, by have := List.mem_range.1 hi; simp; omega⟩))
  | true =>
    simp only [aRegion] at hop
    have F := regFacts (hreg rfl)
    refine wpIn_region_draw fun t => ?_
    simp only [Region.schedule, hmix, Bool.true_or, if_true]
    have hd0 : ∀ i, dset 0 i = false := fun i => by simp [dset]
    have hl0 : ∀ i, lset (Array.replicate ops.size false) i = false := fun i => by
      unfold lset
      by_cases hi : i < ops.size
      · simp [hi]
      · simp [Array.getElem?_eq_none (show (Array.replicate ops.size false).size ≤ i by simp; omega)]
    have I : RInv P gok r ops h.next N m h w Ds K ops.size (quietOf ops) (loudOf ops) 0 [] a (h.bump ops.size) (lset (Array.replicate ops.size false)) a' m { w with drawn := w.drawn + 1 } (fun t _ => a.env t) := by
      refine ⟨hop, quiet_loud_len ops, fun i => ?_, fun i => ?_, List.nodup_range.filter _, List.pairwise_lt_range.filter _, fun i hi => absurd hi (by simp [hl0 i]), fun i o _ _ hi => absurd hi (by simp [hd0 i]), fun i hi => absurd hi (by simp [hd0 i]),
        fun i hi => absurd hi (by simp [hd0 i]), fun i hi => absurd hi (by simp [hl0 i]), (H.bump _).drew _, G, ?_, hN, (Ext.bump ops.size).trans (.drew _), fun t => rfl, he, fun i hi => absurd hi (by simp [hd0 i]), fun i _ _ => hm i, fun i _ _ => by simpa using hget i, by simp⟩
      · unfold quietOf
        rw [List.mem_filter, List.mem_range]
        constructor
        · rintro ⟨_, h2⟩
          split at h2
          · rename_i o ho; exact ⟨o, ho, by simpa using h2, hd0 i⟩
          · cases h2
        · rintro ⟨o, ho, h2, _⟩; exact ⟨(Array.getElem?_eq_some_iff.1 ho).1, by rw [ho]; simpa using h2⟩
      · unfold loudOf
        rw [List.mem_filter, List.mem_range]
        constructor
        · rintro ⟨_, h2⟩
          split at h2
          · rename_i o ho; exact ⟨o, ho, by simpa using h2, hd0 i⟩
          · cases h2
        · rintro ⟨o, ho, h2, _⟩; exact ⟨(Array.getElem?_eq_some_iff.1 ho).1, by rw [ho]; simpa using h2⟩
      · exact hD.mono (S := fun _ => False) (.drew (m := m) (h := h) (w := w) _)
    obtain ⟨f3, q3, d3, rd3, a3, h3, hi3, I3, hs3⟩ := saturate F _ _ _ _ _ _ _ _ _ _ _ _ _ rfl I
    have hun : unlisted ops (lset (Array.replicate ops.size false)) ≤ ops.size := by
      unfold unlisted
      exact Nat.le_trans (List.length_filter_le _ _) (by simp)
    exact region_sim F hok hpost ops.size t _ f3 q3 _ d3 rd3 a3 h3 a' m _ hi3 (by simp) hun I3 hs3
end
end Go.Cub
