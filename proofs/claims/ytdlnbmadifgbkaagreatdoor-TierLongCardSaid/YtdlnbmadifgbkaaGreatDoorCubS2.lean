/- Memory: rows read and written, blocks made. -/
import Derived.Test.YtdlnbmadifgbkaaGreatDoorCubS1
namespace Go.Cub
set_option linter.unusedVariables false
set_option linter.unusedSimpArgs false
open Go

/-- The world is as it was but for one block (and the tape's place). -/
structure Chg (j : Nat) (w w' : World) : Prop where
  os : w'.os = w.os
  tape : w'.tape = w.tape
  output : w'.output = w.output
  size : w'.heap.size = w.heap.size
  other : ∀ k, k ≠ j → w'.heap[k]? = w.heap[k]?

/-- The world is as it was, with one block more. -/
structure Grw (o : Obj) (w w' : World) : Prop where
  os : w'.os = w.os
  tape : w'.tape = w.tape
  output : w'.output = w.output
  size : w'.heap.size = w.heap.size + 1
  new : w'.heap[w.heap.size]? = some o
  other : ∀ k, k < w.heap.size → w'.heap[k]? = w.heap[k]?

theorem Grw.push (w : World) (o : Obj) (d : Nat) : Grw o w { w with heap := w.heap.push o, drawn := d } :=
  ⟨rfl, rfl, rfl, by simp, by simp, fun k hk => by simp [Array.getElem?_push, Nat.ne_of_lt hk]⟩
theorem Grw.push' (w : World) (o : Obj) : Grw o w { w with heap := w.heap.push o } := Grw.push w o w.drawn

/-! ### One block turned -/
theorem HRel.upd {m : AMap} {h : AHeap} {w w' : World} {i : Nat} {t : Tgt} {o : AObj} {o' : Obj} (H : HRel m h w) (hi : m i = some (some t))
    (hc : Chg t.j w w') (hw : w'.heap[t.j]? = some o') (ho : ORel m t o o') (S : Nat → Prop) (hro : ∀ b, h.get i = some (.cells b) → b.wr = true) : HRel m (h.set i o) w' ∧ Ext S m h w m (h.set i o) w' := by
  have hlt := H.dom i (by rw [hi]; simp)
  refine ⟨⟨fun k hk => by simpa using H.dom k hk, fun k u hk => ?_, fun k hk => ?_, H.inj⟩, ⟨.refl m, by simp, by rw [hc.size]; exact Nat.le_refl _, hc.os, hc.tape, hc.output, fun k hk hm _ => ?_, fun j hj hm => ?_, fun k e e' => absurd e e', fun k u e _ => ⟨k, u, e, rfl⟩, fun k u b e1 e2 ew => ?_⟩⟩
  · by_cases e : k = i
    · subst e; rw [hi] at hk; cases hk
      exact ⟨o, o', AHeap.get_set_same hlt, hw, ho⟩
    · obtain ⟨a, b, ha, hb, hab⟩ := H.live k u hk
      refine ⟨a, b, (AHeap.get_set_ne e).trans ha, ?_, hab⟩
      rw [hc.other u.j (fun ej => e (H.inj k i u t hk hi ej))]; exact hb
  · have e : k ≠ i := fun e => by subst e; rw [hi] at hk; cases hk
    exact (AHeap.get_set_ne e).trans (H.dead k hk)
  · exact AHeap.get_set_ne (fun e => by subst e; rw [hi] at hm; cases hm)
  · exact hc.other j (fun e => hm i t hi e.symm)
  · have e : k ≠ i := fun e => by subst e; rw [hro b e2] at ew; cases ew
    exact ⟨e1, (AHeap.get_set_ne e).trans e2, hc.other u.j (fun ej => e (H.inj k i u t e1 hi ej))⟩

/-! ### One block more -/
def AMap.put (m : AMap) (id : Nat) (t : Tgt) : AMap := fun i => if i = id then some (some t) else m i

theorem AMap.le_put {m : AMap} {id : Nat} {t : Tgt} (hm : m id = none) : m.le (m.put id t) := fun i => by
  unfold AMap.put
  split
  · trivial
  · rename_i e; rw [if_neg (fun x => by subst x; rw [hm] at e; cases e)]; exact e
  · rename_i e; exact .inl (by rw [if_neg (fun x => by subst x; rw [hm] at e; cases e)]; exact e)

/-- The abstract block lies already (or is just laid: 'h' is the heap behind the step); the model's is made now. -/
theorem HRel.grow {m : AMap} {h : AHeap} {w w' : World} {id : Nat} {t : Tgt} {o : AObj} {o' : Obj} (H : HRel m h w) (hid : m id = none)
    (hg : h.get id = some o) (hc : Grw o' w w') (ht : t.j = w.heap.size) (ho : ORel (m.put id t) t o o') :
    HRel (m.put id t) h w' ∧ Ext (· = id) m h w (m.put id t) h w' := by
  have hle := AMap.le_put (t := t) hid
  have bnd : ∀ k u, m k = some (some u) → u.j < w.heap.size := fun k u hk => by
    obtain ⟨_, _, _, hb, _⟩ := H.live k u hk
    exact (Array.getElem?_eq_some_iff.1 hb).1
  refine ⟨⟨fun k hk => ?_, fun k u hk => ?_, fun k hk => ?_, fun k k' u u' hk hk' e => ?_⟩, ⟨hle, Nat.le_refl _, by rw [hc.size]; omega, hc.os, hc.tape, hc.output, fun _ _ _ _ => rfl, fun j hj _ => hc.other j hj, fun k e e' => ?_, fun k u e hj => ?_, fun k u b e1 e2 ew => ⟨by
    have : k ≠ id := fun e => by subst e; rw [hid] at e1; cases e1
    simp [AMap.put, this, e1], e2, hc.other _ (bnd k u e1)⟩⟩⟩
  · by_cases e : k = id
    · subst e; exact AHeap.lt_of_get hg
    · exact H.dom k (by simpa [AMap.put, e] using hk)
  · by_cases e : k = id
    · subst e; simp [AMap.put] at hk; subst hk
      exact ⟨o, o', hg, ht ▸ hc.new, ho⟩
    · simp [AMap.put, e] at hk
      obtain ⟨a, b, ha, hb, hab⟩ := H.live k u hk
      exact ⟨a, b, ha, (hc.other _ (bnd k u hk)).trans hb, hab.mono hle⟩
  · by_cases e : k = id
    · subst e; simp [AMap.put] at hk
    · simp [AMap.put, e] at hk; exact H.dead k hk
  · by_cases e1 : k = id <;> by_cases e2 : k' = id
    · rw [e1, e2]
    · simp [AMap.put, e1, e2] at hk hk'; subst hk; have := bnd _ _ hk'; omega
    · simp [AMap.put, e1, e2] at hk hk'; subst hk'; have := bnd _ _ hk; omega
    · simp [AMap.put, e1, e2] at hk hk'; exact H.inj k k' u u' hk hk' e
  · by_cases e1 : k = id
    · exact e1
    · simp [AMap.put, e1, e] at e'
  · by_cases e1 : k = id
    · subst e1; simp [AMap.put] at e; subst e; omega
    · simp [AMap.put, e1] at e; exact ⟨k, u, e, rfl⟩

/-- The same where the step lays the abstract block. -/
theorem HRel.lay {m : AMap} {h : AHeap} {w : World} {id : Nat} (H : HRel m h w) (hid : m id = none) (o : AObj) : HRel m (h.set id o) w :=
  ⟨fun k hk => by simpa using H.dom k hk,
   fun k u hk => by
    obtain ⟨a, b, ha, hb⟩ := H.live k u hk
    exact ⟨a, b, (AHeap.get_set_ne (fun e => by subst e; rw [hid] at hk; cases hk)).trans ha, hb⟩,
   fun k hk => (AHeap.get_set_ne (fun e => by subst e; rw [hid] at hk; cases hk)).trans (H.dead k hk), H.inj⟩

theorem Ext.lay {m : AMap} {h : AHeap} {w : World} {id : Nat} (hid : m id = none) (o : AObj) : Ext (· = id) m h w m (h.set id o) w :=
  ⟨.refl m, by simp, Nat.le_refl _, rfl, rfl, rfl, fun k _ _ hk => AHeap.get_set_ne hk, fun _ _ _ => rfl, fun k e e' => absurd e e', fun k u e _ => ⟨k, u, e, rfl⟩,
   fun k u b e1 e2 _ => ⟨e1, (AHeap.get_set_ne (fun e => by subst e; rw [hid] at e1; cases e1)).trans e2, rfl⟩⟩

/-- More numbers are given out. -/
theorem HRel.bump {m : AMap} {h : AHeap} {w : World} (H : HRel m h w) (n : Nat) : HRel m (h.bump n) w :=
  ⟨fun k hk => Nat.lt_of_lt_of_le (H.dom k hk) (by simp), H.live, H.dead, H.inj⟩
theorem Ext.bump {S : Nat → Prop} {m : AMap} {h : AHeap} {w : World} (n : Nat) : Ext S m h w m (h.bump n) w :=
  ⟨.refl m, by simp, Nat.le_refl _, rfl, rfl, rfl, fun _ _ _ _ => rfl, fun _ _ _ => rfl, fun k e e' => absurd e e', fun k u e _ => ⟨k, u, e, rfl⟩, fun i t b e e' _ => ⟨e, e', rfl⟩⟩

/-- The world has drawn. -/
theorem HRel.drew {m : AMap} {h : AHeap} {w : World} (H : HRel m h w) (d : Nat) : HRel m h { w with drawn := d } := ⟨H.dom, H.live, H.dead, H.inj⟩
theorem Ext.drew {S : Nat → Prop} {m : AMap} {h : AHeap} {w : World} (d : Nat) : Ext S m h w m h { w with drawn := d } :=
  ⟨.refl m, Nat.le_refl _, Nat.le_refl _, rfl, rfl, rfl, fun _ _ _ _ => rfl, fun _ _ _ => rfl, fun k e e' => absurd e e', fun k u e _ => ⟨k, u, e, rfl⟩, fun i t b e e' _ => ⟨e, e', rfl⟩⟩

/-! ### Rows -/
theorem cell?_at {w : World} {b : Addr} {c : Array Value} {e : TypeId} {fr : Nat × Nat} (hb : w.heap[b.block]? = some (.cells c e fr)) (hs : b.spot = none) : w.cell? b = c[b.off]? := by
  simp [World.cell?, hb, hs]

theorem add_block (a : Addr) (n : Nat) : (a.add n).block = a.block := by unfold Addr.add; split <;> rfl
theorem add_off (a : Addr) (n : Nat) : (a.add n).off = a.off + n := by unfold Addr.add; split <;> simp [*]
theorem add_spot {a : Addr} (n : Nat) (h : a.spot = none) : (a.add n).spot = none := by unfold Addr.add; split <;> simp [*]

theorem run_loadCellsFrom {P : Program} {w : World} {b : Addr} {c : Array Value} {e : TypeId} {fr : Nat × Nat} (hb : w.heap[b.block]? = some (.cells c e fr)) (hs : b.spot = none) :
    ∀ (n i : Nat) (acc : Array Value), b.off + i + n ≤ c.size → (loadCellsFrom b i n acc).run P w = .ok (acc ++ ((c.toList.drop (b.off + i)).take n).toArray) w := by
  intro n
  induction n with
  | zero => intro i acc _; simp [loadCellsFrom]
  | succ n ih =>
    intro i acc hn
    have hlt : b.off + i < c.size := by omega
    have hcell : w.cell? (b.add i) = some c[b.off + i] := by
      rw [cell?_at (by rw [add_block]; exact hb) (add_spot i hs), add_off]; simp [hlt]
    simp only [loadCellsFrom, Sem.run_bind, run_load, hcell, Result.andThen_ok]
    rw [ih (i + 1) _ (by omega)]
    congr 1
    apply Array.ext'
    simp only [Array.toList_append, Array.toList_push, List.append_assoc]
    congr 1
    have : c.toList.drop (b.off + i) = c[b.off + i] :: c.toList.drop (b.off + (i + 1)) := by
      rw [List.drop_eq_getElem_cons (by simpa using hlt)]; rfl
    rw [this]; rfl

theorem run_loadCells {P : Program} {w : World} {b : Addr} {c : Array Value} {e : TypeId} {fr : Nat × Nat} (hb : w.heap[b.block]? = some (.cells c e fr)) (hs : b.spot = none) (n : Nat)
    (hn : b.off + n ≤ c.size) : (loadCells b n).run P w = .ok ((c.toList.drop b.off).take n).toArray w := by
  unfold loadCells; rw [run_loadCellsFrom hb hs n 0 #[] (by omega)]; simp

theorem oneCell_eq (v : Value) : v.oneCell' = v.oneCell := by cases v <;> rfl

theorem putL_length {l : List Value} {off : Nat} {vs : List Value} (h : off + vs.length ≤ l.length) : (putL l off vs).length = l.length := by
  simp [putL]; omega

theorem run_storeCells {P : Program} : ∀ (vs : List Value) (w : World) (b : Addr) (i : Nat) (c : Array Value) (e : TypeId) (fr : Nat × Nat),
    w.heap[b.block]? = some (.cells c e fr) → b.spot = none → b.off + i + vs.length ≤ c.size → vs.all Value.oneCell = true → (∀ k, b.off ≤ k → k < c.size → ¬ (fr.1 ≤ k ∧ k < fr.2)) →
    ∃ w' c', (storeCells b vs i).run P w = .ok () w' ∧ Chg b.block w w' ∧ w'.heap[b.block]? = some (.cells c' e fr) ∧ c'.toList = putL c.toList (b.off + i) vs := by
  intro vs
  induction vs with
  | nil => intro w b i c e fr hb hs hn _ _; exact ⟨w, c, rfl, ⟨rfl, rfl, rfl, rfl, fun _ _ => rfl⟩, hb, by simp [putL]⟩
  | cons v vs ih =>
    intro w b i c e fr hb hs hn hone hfr
    simp only [List.all_cons, Bool.and_eq_true, List.length_cons] at hone hn
    have hlt : b.off + i < c.size := by omega
    have hcell : w.cell? (b.add i) = some c[b.off + i] := by
      rw [cell?_at (by rw [add_block]; exact hb) (add_spot i hs), add_off]; simp [hlt]
    have hfz : w.frozen? (b.add i) = false := by
      have := hfr (b.off + i) (by omega) hlt
      simp only [World.frozen?, add_block, hb, add_off]
      simp only [Bool.and_eq_false_iff, decide_eq_false_iff_not]
      omega
    have hblk : (w.setCell (b.add i) v).heap[b.block]? = some (.cells (c.setIfInBounds (b.off + i) v) e fr) := by
      simp only [World.setCell, add_block, add_off, add_spot i hs]
      rw [Array.getElem?_modify]; simp [hb]
    obtain ⟨w', c', hr, hc, hw, hl⟩ := ih (w.setCell (b.add i) v) b (i + 1) (c.setIfInBounds (b.off + i) v) e fr hblk hs (by simp; omega) hone.2 (fun k hk hk' => hfr k hk (by simpa using hk'))
    refine ⟨w', c', ?_, ?_, hw, ?_⟩
    · simp only [storeCells, Sem.run_bind, run_store P w _ v .plain (by rw [oneCell_eq]; exact hone.1), hcell, hfz, Bool.false_eq_true, if_false, Result.andThen_ok]
      exact hr
    · refine ⟨hc.os, hc.tape, hc.output, hc.size.trans (by simp [World.setCell]), fun k hk => (hc.other k hk).trans ?_⟩
      simp only [World.setCell, add_block, Array.getElem?_modify]; rw [if_neg (fun x => hk x.symm)]
    · rw [hl]
      simp only [putL, Array.toList_setIfInBounds, List.length_cons]
      have hlt' : b.off + i < c.toList.length := by simpa using hlt
      have h1 : (c.toList.set (b.off + i) v).take (b.off + (i + 1)) = c.toList.take (b.off + i) ++ [v] := by
        rw [← Nat.add_assoc, List.take_succ_eq_append_getElem (by simpa using hlt)]
        rw [List.take_set, List.set_eq_of_length_le (by simp; omega)]; simp
      have h2 : (c.toList.set (b.off + i) v).drop (b.off + (i + 1) + vs.length) = c.toList.drop (b.off + i + (vs.length + 1)) := by
        rw [List.drop_set_of_lt (by omega)]; congr 1; omega
      rw [h1, h2]; simp

/-! ### What an abstract row is in the model -/
theorem HRel.block {m : AMap} {h : AHeap} {w : World} (H : HRel m h w) {i : Nat} {b : ABlk} {t : Tgt} (hm : m i = some (some t)) (hg : h.get i = some (.cells b)) :
    ∃ c e fr, w.heap[t.j]? = some (.cells c e fr) ∧ ORel m t (.cells b) (.cells c e fr) := by
  obtain ⟨o, o', ho, ho', hr⟩ := H.live i t hm
  rw [hg] at ho; cases ho
  cases o' <;> simp only [ORel] at hr
  exact ⟨_, _, _, ho', by simpa only [ORel] using hr⟩

theorem HRel.tgt {m : AMap} {h : AHeap} {w : World} (H : HRel m h w) {a b : Addr} (hp : PRel m a b) {o : AObj} (hg : h.get a.block = some o) (hd : o ≠ .dead) :
    ∃ t, m a.block = some (some t) ∧ b = ⟨t.j, t.sh + a.off, a.spot⟩ := by
  rcases hp with e | x
  · rw [H.dead _ e] at hg; cases hg; exact absurd rfl hd
  · exact x

theorem getCells_inv {h : AHeap} {a : Addr} {n : Nat} {l : List Value} (hg : getCells h a n = some l) : ∃ b, h.get a.block = some (.cells b) ∧ a.spot = none ∧ a.off + n ≤ b.cells.length ∧ l = (b.cells.drop a.off).take n := by
  unfold getCells at hg
  split at hg
  · rename_i b hb
    split at hg
    · rename_i hs hn; cases hg; exact ⟨b, hb, hs, Nat.le_of_ble_eq_true hn, rfl⟩
    · cases hg
  · cases hg

/-- A row that is read. -/
theorem getCells_sound {m : AMap} {h : AHeap} {w : World} (H : HRel m h w) {a b : Addr} (hp : PRel m a b) {n : Nat} {l : List Value} (hg : getCells h a n = some l) :
    ∃ c e fr, w.heap[b.block]? = some (.cells c e fr) ∧ b.spot = none ∧ b.off + n ≤ c.size ∧ LRel m l ((c.toList.drop b.off).take n) := by
  obtain ⟨blk, hb, hs, hn, rfl⟩ := getCells_inv hg
  obtain ⟨t, hm, rfl⟩ := H.tgt hp hb (by simp)
  obtain ⟨c, e, fr, hw, hr⟩ := H.block hm hb
  simp only [ORel] at hr
  obtain ⟨_, hn', _, hsz, hsz', hl, _, _⟩ := hr
  refine ⟨c, e, fr, hw, hs, by simp only; omega, ?_⟩
  have := (hl.drop a.off).take n
  rw [List.drop_take, List.drop_drop, List.take_take] at this
  rwa [Nat.min_eq_left (by omega)] at this

theorem run_loadCells_sound {P : Program} {m : AMap} {h : AHeap} {w : World} (H : HRel m h w) {a b : Addr} (hp : PRel m a b) {n : Nat} {l : List Value} (hg : getCells h a n = some l) :
    ∃ l', (loadCells b n).run P w = .ok l'.toArray w ∧ LRel m l l' := by
  obtain ⟨c, e, fr, hw, hs, hn, hl⟩ := getCells_sound H hp hg
  exact ⟨_, run_loadCells hw hs n hn, hl⟩

theorem LRel.putL {m : AMap} {l l' vs vs' : List Value} (h : LRel m l l') (hv : LRel m vs vs') (off : Nat) : LRel m (putL l off vs) (putL l' off vs') := by
  unfold Cub.putL; rw [← hv.len]; exact ((h.take off).append hv).append (h.drop _)

/-- A row that is written. -/
theorem setCells_sound {P : Program} {m : AMap} {h h' : AHeap} {w : World} (H : HRel m h w) {a b : Addr} (hp : PRel m a b) {vs vs' : List Value} (hv : LRel m vs vs') (hg : setCells h a vs = some h') (S : Nat → Prop) :
    ∃ w', (storeCells b vs').run P w = .ok () w' ∧ HRel m h' w' ∧ Ext S m h w m h' w' := by
  unfold setCells at hg
  split at hg
  · cases hg; rw [hv.of_nil]; exact ⟨w, rfl, H, .refl _ _ _ _⟩
  · split at hg
    · rename_i blk hb
      split at hg
      · rename_i hs hn hwr hone
        cases hg
        obtain ⟨t, hm, rfl⟩ := H.tgt hp hb (by simp)
        obtain ⟨c, e, fr, hw, hr⟩ := H.block hm hb
        have hr0 := hr
        simp only [ORel] at hr
        obtain ⟨hk, hn', ho, hsz, hsz', hl, hpl, hfr⟩ := hr
        have hn := Nat.le_of_ble_eq_true hn
        have hlen := hv.len
        have hone' : vs'.all Value.oneCell = true := hv.mem_all _ _ (fun u u' x y => x.oneCell y) hone
        obtain ⟨w', c', hrun, hchg, hw', hl'⟩ := run_storeCells (P := P) vs' w ⟨t.j, t.sh + a.off, a.spot⟩ 0 c e fr hw hs (by simp only; omega) hone' (fun k hk hk' => by rcases hfr hwr with e | e <;> first | (subst e; simp) | omega)
        have hsize : c'.size = c.size := by
          have := congrArg List.length hl'
          rw [putL_length (by simp; omega)] at this; simpa using this
        have := H.upd (o := .cells { blk with cells := putL blk.cells a.off vs }) hm hchg hw' (by
          refine ⟨hk, ?_, ho, by omega, hsz', ?_, hpl, hfr⟩
          · show t.n = (putL blk.cells a.off vs).length
            rw [putL_length hn]; exact hn'
          · rw [hl']
            have h1 := hl.putL hv a.off
            have h2 : (putL c.toList (t.sh + a.off + 0) vs').drop t.sh = putL (c.toList.drop t.sh) a.off vs' := by
              unfold Cub.putL
              rw [List.drop_append, List.drop_append, List.drop_take]
              simp only [List.length_take, List.length_append, List.drop_drop]
              have e1 : t.sh - min (t.sh + a.off + 0) c.toList.length = 0 := by simp; omega
              have e2 : t.sh - (min (t.sh + a.off + 0) c.toList.length + vs'.length) = 0 := by simp; omega
              rw [e1, e2]
              simp only [List.drop_zero, Nat.add_zero, Nat.zero_add]
              have e3 : t.sh + a.off - t.sh = a.off := by omega
              rw [e3]
              congr 2
              omega
            rw [h2]
            have h3 : (putL (c.toList.drop t.sh) a.off vs').take t.n = putL ((c.toList.drop t.sh).take t.n) a.off vs' := by
              unfold Cub.putL
              apply List.ext_getElem?
              intro k
              simp only [List.getElem?_take, List.getElem?_append, List.length_take, List.length_append, List.getElem?_drop, List.length_drop]
              have hc : c.toList.length = c.size := by simp
              rw [hc]
              repeat' split
              all_goals first | rfl | omega | (congr 1; omega)
            rw [h3]; exact h1) S (fun b' hb' => by rw [hb] at hb'; cases hb'; exact hwr)
        exact ⟨w', hrun, this⟩
      · cases hg
    · cases hg
end Go.Cub
