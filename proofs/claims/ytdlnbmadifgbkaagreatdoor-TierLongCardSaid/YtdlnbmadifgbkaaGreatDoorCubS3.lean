/- The quiet operations: what the abstract machine reads, the model reads. -/
import Derived.Test.YtdlnbmadifgbkaaGreatDoorCubS2
import Derived.Orders
namespace Go.Cub
set_option linter.unusedVariables false
set_option linter.unusedSimpArgs false
open Go

section runs
variable {P : Program} {w : World}
theorem ru {t : TypeId} {d : TypeDesc} (h : P.underlying t = some d) : (underlying t).run P w = .ok d w := by simp [underlying, h]
theorem ri {t : TypeId} {i : TypeInfo} (h : P.info? t = some i) : (typeInfo t).run P w = .ok i w := by simp [typeInfo, h]
theorem rsize {t : TypeId} {n : Nat} (h : sizeT P t = some n) : (sizeOf t).run P w = .ok n w := by
  unfold sizeT at h; cases hi : P.info? t with
  | none => simp [hi] at h
  | some i => simp [hi] at h; subst h; simp [sizeOf, typeInfo, hi]
theorem rbytes {t : TypeId} {n : Nat} (h : bytesT P t = some n) : ∃ i, (typeInfo t).run P w = .ok i w ∧ i.bytes = n := by
  unfold bytesT at h; cases hi : P.info? t with
  | none => simp [hi] at h
  | some i => simp [hi] at h; exact ⟨i, by simp [typeInfo, hi], h⟩
theorem zeroT_spec {t : TypeId} {z : Value} (h : zeroT P t = some z) : (∃ i, P.info? t = some i ∧ i.zero = some z) ∧ z.cells.all isAtom = true := by
  unfold zeroT at h
  split at h
  · split at h
    · split at h
      · cases h; exact ⟨⟨_, ‹_›, ‹_›⟩, ‹_›⟩
      · cases h
    · cases h
  · cases h
theorem rzero {t : TypeId} {z : Value} (h : zeroT P t = some z) : (zeroValue t).run P w = .ok z w := by
  obtain ⟨⟨i, hi, hz⟩, _⟩ := zeroT_spec h
  simp [zeroValue, typeInfo, hi, hz]
theorem zeroT_rel {m : AMap} {t : TypeId} {z : Value} (h : zeroT P t = some z) : LRel m z.cells.toList z.cells.toList := by
  obtain ⟨_, h⟩ := zeroT_spec h
  refine ⟨rfl, fun i u u' a b => ?_⟩
  rw [a] at b; cases b
  rw [Array.all_eq_true'] at h
  exact .atom (h u (by rw [← Array.mem_toList_iff]; exact List.mem_of_getElem? a))
theorem zeroT_val {m : AMap} {t : TypeId} {z : Value} (h : zeroT P t = some z) : VRel m z z := by
  obtain ⟨_, h⟩ := zeroT_spec h
  cases z with
  | agg cs => exact .refl_agg h
  | _ => simp [Value.cells] at h; first | exact .atom h | (simp [isAtom] at h)
theorem risAgg {t : TypeId} {b : Bool} (h : isAggT P t = some b) : (isAgg t).run P w = .ok b w := by
  unfold isAggT at h
  cases hu : P.underlying t with
  | none => simp [hu] at h
  | some d => simp only [isAgg, Sem.run_bind, ru hu, Result.andThen_ok]; cases d <;> simp [hu] at h <;> subst h <;> rfl
theorem rpure {α : Type} : ∀ {s : Sem α} {r : α}, aPure P s = some r → ∀ w, s.run P w = .ok r w := by
  intro s
  induction s with
  | pure a => intro r h w; simp [aPure] at h; subst h; rfl
  | program k ih => intro r h w; simp only [aPure] at h; exact ih P h w
  | _ => intro r h; simp [aPure] at h
end runs

theorem natOf_spec {v : Value} {n : Nat} (h : natOf? v = some n) : ∃ k, v = .int k n := by
  unfold natOf? at h
  split at h
  · split at h
    · cases h; exact ⟨_, rfl⟩
    · cases h
  · cases h

section
variable {P : Program} {m : AMap} {h : AHeap} {w : World}

theorem loadVar_sound (H : HRel m h w) {t : TypeId} {a b : Addr} {v : Value} (hp : PRel m a b) (hl : loadA P t (.pointer (some a)) h = some v) :
    ∃ v', (loadVar t b).run P w = .ok v' w ∧ VRel m v v' := by
  unfold loadA at hl
  split at hl
  · rename_i a' n ha he hs
    cases ha
    simp only [Option.map_eq_some_iff] at hl
    obtain ⟨l, hl, rfl⟩ := hl
    obtain ⟨l', hr, hrel⟩ := run_loadCells_sound (P := P) H hp hl
    exact ⟨_, by simp [loadVar, risAgg he, rsize hs, hr], .aggL hrel⟩
  · rename_i a' n ha he hs
    cases ha
    simp only [Option.bind_eq_some_iff] at hl
    obtain ⟨l, hl, hv⟩ := hl
    obtain ⟨c, e, fr, hw, hsp, hn, hrel⟩ := getCells_sound H hp hl
    obtain ⟨v', hv', hvr⟩ := hrel.get hv
    have hcell : w.cell? b = some v' := by
      rw [cell?_at hw hsp]
      simp only [List.getElem?_take, List.getElem?_drop] at hv'
      simpa using hv'
    exact ⟨v', by simp [loadVar, risAgg he, hcell], hvr⟩
  · cases hl

theorem storeVar_sound (H : HRel m h w) {t : TypeId} {a b : Addr} {v v' : Value} {h' : AHeap} (hp : PRel m a b) (hv : VRel m v v') (hs : storeA P t (.pointer (some a)) v h = some h') (S : Nat → Prop) :
    ∃ w', (storeVar t b v').run P w = .ok () w' ∧ HRel m h' w' ∧ Ext S m h w m h' w' := by
  unfold storeA at hs
  split at hs
  · rename_i a' n ha hn
    cases ha
    split at hs
    · rename_i hsz
      have hsz := Nat.eq_of_beq_eq_true hsz
      obtain ⟨w', hr, hrel⟩ := setCells_sound (P := P) H hp hv.cells hs S
      refine ⟨w', ?_, hrel⟩
      have : v'.cells.size = n := by have := hv.cells.len; simp at this; omega
      simp [storeVar, rsize hn, this, hr]
    · cases hs
  · cases hs

theorem loadA_ptr {t : TypeId} {x v : Value} (hl : loadA P t x h = some v) : ∃ a, x = .pointer (some a) := by
  unfold loadA at hl; split at hl <;> first | exact ⟨_, rfl⟩ | cases hl
theorem storeA_ptr {t : TypeId} {x v : Value} {h' : AHeap} (hl : storeA P t x v h = some h') : ∃ a, x = .pointer (some a) := by
  unfold storeA at hl; split at hl <;> first | exact ⟨_, rfl⟩ | cases hl

/-! ### A row that is made -/
theorem fresh_cells (H : HRel m h w) {id : Nat} (hid : m id = none) {cs cs' : List Value} {opn : Option Nat} {pl : Bool} (hg : h.get id = some (.cells ⟨cs, opn, true, pl⟩)) (hl : LRel m cs cs')
    (rest : List Value) (ho : opn = none → rest = []) (e : TypeId) (w' : World) (hw : Grw (.cells (cs' ++ rest).toArray e) w w') :
    ∃ t, t.j = w.heap.size ∧ t.sh = 0 ∧ t.n = cs.length ∧ t.opn = opn ∧ t.csz = (cs' ++ rest).length ∧ t.kd = .cells ∧ HRel (m.put id t) h w' ∧ Ext (· = id) m h w (m.put id t) h w' := by
  refine ⟨⟨.cells, w.heap.size, 0, cs.length, opn, (cs' ++ rest).length⟩, rfl, rfl, rfl, rfl, rfl, rfl, ?_⟩
  refine H.grow hid hg hw rfl ?_
  refine ⟨rfl, rfl, rfl, by simp, by simp [hl.len], ?_, fun _ => rfl, fun _ => .inl rfl⟩
  have : ((cs' ++ rest).toArray.toList.drop 0).take cs.length = cs' := by simp [hl.len]
  rw [this]; exact hl.mono (AMap.le_put hid)

theorem put_self (m : AMap) (id : Nat) (t : Tgt) : (m.put id t) id = some (some t) := by simp [AMap.put]

theorem fresh_ptr {id : Nat} {t : Tgt} {n : Nat} (hj : t.j = n) (hs : t.sh = 0) : VRel (m.put id t) (.pointer (some ⟨id, 0, none⟩)) (.pointer (some ⟨n, 0, none⟩)) :=
  .ptr (.inr ⟨t, put_self .., by simp [hj, hs]⟩)
theorem fresh_slice {id : Nat} {t : Tgt} {n len cap : Nat} (hj : t.j = n) (hs : t.sh = 0) (hl : len ≤ cap) : VRel (m.put id t) (.slice (some ⟨id, 0, none⟩) len cap) (.slice (some ⟨n, 0, none⟩) len cap) :=
  .slice (.inr ⟨t, put_self .., rfl, rfl, hj.symm, hl, Nat.le_refl _, by simp [hs], .inr (by simp [hs]), .inl rfl⟩)

/-! ### Parts of rows of values -/
theorem partA_sound {t : TypeId} {cs cs' : Array Value} {off : Nat} {v : Value} (hc : LRel m cs.toList cs'.toList) (hp : partA P t cs.toList off = some v) :
    ∃ v', (part t cs' off).run P w = .ok v' w ∧ VRel m v v' := by
  unfold partA at hp
  split at hp
  · rename_i n ha hs
    split at hp
    · cases hp
      refine ⟨.agg (cs'.extract off (off + n)), by simp [part, risAgg ha, rsize hs], ?_⟩
      have : cs'.extract off (off + n) = ((cs'.toList.drop off).take n).toArray := by
        apply Array.ext'; simp [List.extract_eq_take_drop]
      rw [this]; exact .aggL ((hc.drop off).take n)
    · cases hp
  · rename_i n ha hs
    obtain ⟨v', hv', hr⟩ := hc.get hp
    have : cs'[off]? = some v' := by simpa using hv'
    exact ⟨v', by simp [part, risAgg ha, this], hr⟩
  · cases hp

theorem foldl_set_rel : ∀ (l l' : List Value) (off j : Nat) (c c' : Array Value), LRel m l l' → LRel m c.toList c'.toList →
    LRel m ((l.zipIdx j).foldl (fun cs (x : Value × Nat) => cs.setIfInBounds (off + x.2) x.1) c).toList ((l'.zipIdx j).foldl (fun cs (x : Value × Nat) => cs.setIfInBounds (off + x.2) x.1) c').toList := by
  intro l
  induction l with
  | nil => intro l' off j c c' hl hc; rw [hl.of_nil]; exact hc
  | cons v l ih =>
    intro l' off j c c' hl hc
    obtain ⟨v', r', rfl, hv, hr⟩ := hl.of_cons
    simp only [List.zipIdx_cons, List.foldl_cons]
    refine ih r' off (j + 1) _ _ hr ?_
    refine ⟨by simpa using hc.len, fun i u u' a b => ?_⟩
    simp only [Array.toList_setIfInBounds, List.getElem?_set] at a b
    have hlen := hc.len
    split at a <;> rename_i he
    · subst he
      split at a <;> rename_i hlt
      · rw [if_pos rfl, if_pos (by omega)] at b; cases a; cases b; exact hv
      · cases a
    · rw [if_neg he] at b; exact hc.at_ i u u' a b

structure PsRel (m : AMap) (l l' : List (Nat × Value)) : Prop where
  len : l.length = l'.length
  at_ : ∀ (i : Nat) u u', l[i]? = some u → l'[i]? = some u' → u.1 = u'.1 ∧ VRel m u.2 u'.2

theorem PsRel.map (ps : List (Nat × Operand)) {ρ ρ' : Operand → Value} (hρ : ∀ p ∈ ps, VRel m (ρ p.2) (ρ' p.2)) : PsRel m (ps.map fun (i, x) => (i, ρ x)) (ps.map fun (i, x) => (i, ρ' x)) :=
  ⟨by simp, fun i u u' a b => by
    simp only [List.getElem?_map, Option.map_eq_some_iff] at a b
    obtain ⟨p, hp, rfl⟩ := a
    obtain ⟨q, hq, rfl⟩ := b
    rw [hp] at hq; cases hq
    exact ⟨rfl, hρ p (List.mem_of_getElem? hp)⟩⟩

theorem fill_rel (place : Nat → Option (Nat × Nat)) : ∀ (ps ps' : List (Nat × Value)) (c c' r : Array Value), PsRel m ps ps' → LRel m c.toList c'.toList → Instr.fill place c ps = some r →
    ∃ r', Instr.fill place c' ps' = some r' ∧ LRel m r.toList r'.toList := by
  intro ps
  induction ps with
  | nil =>
    intro ps' c c' r hp hc hf
    have : ps' = [] := by have := hp.len; cases ps' <;> simp_all
    subst this; simp only [Instr.fill] at hf ⊢; cases hf; exact ⟨c', rfl, hc⟩
  | cons p ps ih =>
    intro ps' c c' r hp hc hf
    cases ps' with
    | nil => have := hp.len; simp at this
    | cons p' ps' =>
      obtain ⟨i, v⟩ := p; obtain ⟨i', v'⟩ := p'
      obtain ⟨h1, h2⟩ := hp.at_ 0 _ _ rfl rfl
      simp only at h1 h2; subst h1
      have htail : PsRel m ps ps' := ⟨by simpa using hp.len, fun k a b ha hb => hp.at_ (k + 1) a b (by simpa using ha) (by simpa using hb)⟩
      simp only [Instr.fill] at hf ⊢
      split at hf
      · cases hf
      · rename_i off size hpl
        have hvs : v.cells.size = v'.cells.size := by have := h2.cells.len; simpa using this
        have hcs : c.size = c'.size := by have := hc.len; simpa using this
        rw [hvs, hcs] at hf
        split at hf
        · cases hf
        · rename_i hcond
          rw [if_neg hcond]
          refine ih ps' _ _ r htail ?_ hf
          have := foldl_set_rel (m := m) v.cells.toList v'.cells.toList off 0 c c' h2.cells hc
          have e : ∀ (x c : Array Value), (x.zipIdx.foldl (fun cs (c, j) => cs.setIfInBounds (off + j) c) c) = (x.toList.zipIdx.foldl (fun cs (x : Value × Nat) => cs.setIfInBounds (off + x.2) x.1) c) := by
            intro x c; rw [← Array.foldl_toList, Array.toList_zipIdx]
          rw [e, e]; exact this

theorem run_places {fs : List Field} {pl : List (Nat × Nat)} (h : placesA P fs = some pl) :
    (fs.mapM fun f => (do pure (f.offset, ← sizeOf f.type) : Sem (Nat × Nat))).run P w = .ok pl w := by
  induction fs generalizing pl with
  | nil => simp [placesA] at h; subst h; rfl
  | cons f fs ih =>
    simp only [placesA] at h
    split at h
    · rename_i n l hs hl
      cases h
      simp only [List.mapM_cons, Sem.run_bind, rsize hs, Result.andThen_ok, Sem.run_pure, ih hl]
    · cases h

theorem buildA_sound {t : TypeId} {ps ps' : List (Nat × Value)} {v : Value} (hp : PsRel m ps ps') (hb : buildA P t ps = some v) :
    ∃ v', (Instr.build t ps'.toArray).run P w = .ok v' w ∧ VRel m v v' := by
  unfold buildA at hb
  split at hb
  · rename_i fs z hu hz
    split at hb
    · rename_i pl hpl
      simp only [Option.map_eq_some_iff] at hb
      obtain ⟨r, hf, rfl⟩ := hb
      obtain ⟨r', hf', hr⟩ := fill_rel (m := m) _ ps ps' z.cells z.cells r hp (zeroT_rel hz) hf
      refine ⟨.agg r', ?_, by simpa using VRel.aggL hr⟩
      have hm := run_places (w := w) hpl
      simp only [Instr.build, Sem.run_bind, rzero hz, ru hu, Result.andThen_ok, Array.mapM_eq_mapM_toList, Sem.run_map, hm]
      have : (fun (i : Nat) => pl.toArray[i]?) = fun (i : Nat) => pl[i]? := by funext i; simp
      simp only [this]
      rw [hf']; rfl
    · cases hb
  · rename_i n e z hu hz
    split at hb
    · rename_i size hs
      simp only [Option.map_eq_some_iff] at hb
      obtain ⟨r, hf, rfl⟩ := hb
      obtain ⟨r', hf', hr⟩ := fill_rel (m := m) _ ps ps' z.cells z.cells r hp (zeroT_rel hz) hf
      refine ⟨.agg r', ?_, by simpa using VRel.aggL hr⟩
      simp only [Instr.build, Sem.run_bind, rzero hz, ru hu, Result.andThen_ok, rsize hs]
      rw [hf']; rfl
    · cases hb
  · cases hb
end
end Go.Cub
