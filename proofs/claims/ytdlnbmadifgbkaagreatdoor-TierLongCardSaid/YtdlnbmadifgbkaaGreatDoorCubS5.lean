/- Quiet operations: one theorem. -/
import Derived.Test.YtdlnbmadifgbkaaGreatDoorCubS4
namespace Go.Cub
set_option linter.unusedVariables false
set_option linter.unusedSimpArgs false
open Go

section
variable {P : Program} {m : AMap} {h : AHeap} {w : World}

theorem HRel.rtgt (H : HRel m h w) {i j : Nat} (hp : RRel m i j) {o : AObj} (hg : h.get i = some o) (hd : o ≠ .dead) : ∃ t, m i = some (some t) ∧ t.j = j := by
  rcases hp with e | x
  · rw [H.dead _ e] at hg; cases hg; exact absurd rfl hd
  · exact x

theorem HRel.mapBlock (H : HRel m h w) {i : Nat} {es : List MapEntry} {clock : Nat} {t : Tgt} (hm : m i = some (some t)) (hg : h.get i = some (.map es clock)) :
    ∃ es', w.heap[t.j]? = some (.map es' clock) ∧ ESRel m es es'.toList ∧ t.kd = .map := by
  obtain ⟨o, o', ho, ho', hr⟩ := H.live i t hm
  rw [hg] at ho; cases ho
  cases o' <;> simp only [ORel] at hr
  obtain ⟨a, b, rfl⟩ := hr
  exact ⟨_, ho', b, a⟩

theorem run_getObj {r : Nat} {o : Obj} (hw : w.heap[r]? = some o) (ho : ∀ c e fr, o ≠ .cells c e fr) : (getObj r).run P w = .ok o w := by
  cases o <;> first | (exact absurd rfl (ho _ _ _)) | (simp only [getObj, Sem.run, hw])

theorem run_setObj {r : Nat} {o o' : Obj} (hw : w.heap[r]? = some o) (ho : ∀ c e fr, o ≠ .cells c e fr) : (setObj r o').run P w = .ok () { w with heap := w.heap.setIfInBounds r o' } := by
  cases o <;> first | (exact absurd rfl (ho _ _ _)) | (simp only [setObj, Sem.run, hw])

theorem Chg.setObj (w : World) (r : Nat) (o' : Obj) : Chg r w { w with heap := w.heap.setIfInBounds r o' } :=
  ⟨rfl, rfl, rfl, by simp, fun k hk => by simp only [Array.getElem?_setIfInBounds]; rw [if_neg (fun e => hk e.symm)]⟩
theorem get_setObj {r : Nat} {o o' : Obj} (hw : w.heap[r]? = some o) : ({ w with heap := w.heap.setIfInBounds r o' } : World).heap[r]? = some o' := by
  have := (Array.getElem?_eq_some_iff.1 hw).1
  simp [this]

theorem entriesOf_sound (H : HRel m h w) {x x' : Value} {es : List MapEntry} (hx : VRel m x x') (he : entriesOf h x = some es) :
    (x' = .map none ∧ es = []) ∨ ∃ r es' clock, x' = .map (some r) ∧ w.heap[r]? = some (.map es' clock) ∧ ESRel m es es'.toList := by
  unfold entriesOf at he
  split at he
  · cases he; exact .inl ⟨hx.of_atom rfl, rfl⟩
  · rename_i r
    split at he
    · rename_i es0 cl hg
      cases he
      obtain ⟨j, rfl, hr⟩ := hx.map_inv
      obtain ⟨t, hm, rfl⟩ := H.rtgt hr hg (by simp)
      obtain ⟨es', hw, hrel, _⟩ := H.mapBlock hm hg
      exact .inr ⟨_, es', _, rfl, hw, hrel⟩
    · cases he
  · cases he

theorem ba_eq {a b : ByteArray} (h : (a == b) = true) : a = b := by
  obtain ⟨a⟩ := a; obtain ⟨b⟩ := b
  have h' : (a == b) = true := h
  rw [eq_of_beq h']
theorem ba_refl (a : ByteArray) : (a == a) = true := by
  obtain ⟨a⟩ := a
  have h' : (a == a) = true := by simp
  exact h'

theorem sameNow_true {d : TypeDesc} {k e : Value} (hs : Instr.sameNow d k e = some true) : Instr.sameBits 10000 e k = true := by
  unfold Instr.sameNow at hs
  split at hs
  · split at hs
    · rename_i hk; subst hk; simp at hs; subst hs; simp [Instr.sameBits]
    · cases hs
  · rw [ba_eq (Option.some.inj hs)]; simp [Instr.sameBits, ba_refl]
  · simp at hs; subst hs; simp [Instr.sameBits]
  · cases hs

theorem sameNow_atom {d : TypeDesc} {k e : Value} {b : Bool} (hs : Instr.sameNow d k e = some b) : isAtom e = true := by
  unfold Instr.sameNow at hs
  split at hs <;> first | rfl | cases hs

theorem findNow_rel {d : TypeDesc} {k : Value} : ∀ (es es' : List MapEntry) (i : Nat) (r : Option (Nat × Value)), ESRel m es es' → Instr.findNow d k es i = some r →
    (r = none ∧ Instr.findNow d k es' i = some none) ∨
    ∃ j v v' e e', r = some (i + j, v) ∧ Instr.findNow d k es' i = some (some (i + j, v')) ∧ VRel m v v' ∧ es[j]? = some e ∧ es'[j]? = some e' ∧ Instr.sameNow d k e.key = some true ∧ v = e.val := by
  intro es
  induction es with
  | nil =>
    intro es' i r hr hf
    have : es' = [] := by have := hr.len; cases es' <;> simp_all
    subst this; simp [Instr.findNow] at hf; subst hf; exact .inl ⟨rfl, rfl⟩
  | cons e es ih =>
    intro es' i r hr hf
    cases es' with
    | nil => have := hr.len; simp at this
    | cons e' es' =>
      obtain ⟨hk, hv, hb⟩ := hr.at_ 0 e e' rfl rfl
      have htail : ESRel m es es' := ⟨by simpa using hr.len, fun n a b ha hb => hr.at_ (n + 1) a b (by simpa using ha) (by simpa using hb)⟩
      simp only [Instr.findNow] at hf ⊢
      split at hf
      · rename_i hs
        cases hf
        have hke := hk.of_atom (sameNow_atom hs)
        rw [hke, hs]
        exact .inr ⟨0, e.val, e'.val, e, e', by simp, by simp, hv, rfl, rfl, hs, rfl⟩
      · rename_i hs
        have hke := hk.of_atom (sameNow_atom hs)
        rw [hke, hs]
        rcases ih es' (i + 1) r htail hf with ⟨rfl, hn⟩ | ⟨j, v, v', a, a', rfl, hn, hvr, ha, ha', hs', hva⟩
        · exact .inl ⟨rfl, hn⟩
        · refine .inr ⟨j + 1, v, v', a, a', by congr 2; omega, ?_, hvr, by simpa using ha, by simpa using ha', hs', hva⟩
          simp only; rw [hn]; congr 3; omega
      · cases hf

/-- The kinds of keys that are compared at once. -/
theorem findA_desc {kt : TypeId} {k : Value} {es : List MapEntry} {r : Option (Nat × Value)} (hf : findA P kt k es = some r) :
    ∃ d, P.underlying kt = some d ∧ Instr.findNow d k es 0 = some r ∧ ((∃ j, d = .int j) ∨ d = .string ∨ d = .bool) := by
  unfold findA at hf
  split at hf
  · exact ⟨_, ‹_›, hf, .inl ⟨_, rfl⟩⟩
  · exact ⟨_, ‹_›, hf, .inr (.inl rfl)⟩
  · exact ⟨_, ‹_›, hf, .inr (.inr rfl)⟩
  · cases hf

theorem run_checkKey {kt : TypeId} {k : Value} {d : TypeDesc} {e : Bool} (hu : P.underlying kt = some d) (hd : (∃ j, d = .int j) ∨ d = .string ∨ d = .bool) : (Instr.checkKey e 10000 kt k).run P w = .ok () w := by
  obtain ⟨n, hn⟩ : ∃ n, Instr.checkKey e 10000 kt k = Instr.checkKey e (n + 1) kt k := ⟨9999, rfl⟩
  rw [hn]
  rcases hd with ⟨j, rfl⟩ | rfl | rfl <;> simp [Instr.checkKey, ru hu]

theorem keyTypeOf_spec {t kt et : TypeId} (hk : keyTypeOf P t = some (kt, et)) : P.underlying t = some (.map kt et) := by
  unfold keyTypeOf at hk; split at hk
  · cases hk; assumption
  · cases hk

theorem plainKey_atom {k : Value} (h : plainKey k = true) : isAtom k = true := by cases k <;> first | rfl | simp [plainKey] at h

theorem run_findKey {kt : TypeId} {k : Value} {d : TypeDesc} {es : List MapEntry} {r : Option (Nat × Value)} (hu : P.underlying kt = some d) (hf : Instr.findNow d k es 0 = some r) :
    (Instr.findKey kt k es).run P w = .ok r w := by simp [Instr.findKey, ru hu, hf]

def MapIs (w : World) (x' : Value) (es' : List MapEntry) : Prop :=
  (x' = .map none ∧ es' = []) ∨ ∃ r arr clock, x' = .map (some r) ∧ w.heap[r]? = some (.map arr clock) ∧ arr.toList = es'

theorem run_lookup {t kt et : TypeId} {x' k v : Value} {ok : Bool} {es' : List MapEntry} {d : TypeDesc} {r : Option (Nat × Value)} (hx : MapIs w x' es') (hu : P.underlying t = some (.map kt et))
    (hud : P.underlying kt = some d) (hd : (∃ j, d = .int j) ∨ d = .string ∨ d = .bool) (hn : Instr.findNow d k es' 0 = some r)
    (hr : (∃ i, r = some (i, v)) ∨ (r = none ∧ zeroT P et = some v)) :
    (Instr.lookup t x' k ok).run P w = .ok (if ok then .tuple #[v, .bool r.isSome] else v) w := by
  rcases hx with ⟨rfl, rfl⟩ | ⟨r0, arr, clock, rfl, hw, rfl⟩
  · rcases hr with ⟨i, rfl⟩ | ⟨rfl, hz⟩
    · simp [Instr.findNow] at hn
    · simp only [Instr.lookup, Sem.run_bind, ru hu, Result.andThen_ok, Sem.run_pure, run_checkKey hud hd, run_findKey hud hn, rzero hz]
      cases ok <;> rfl
  · rcases hr with ⟨i, rfl⟩ | ⟨rfl, hz⟩
    · simp only [Instr.lookup, Sem.run_bind, ru hu, Result.andThen_ok, Sem.run_pure, run_getObj hw (by simp), run_checkKey hud hd, run_findKey hud hn]
      cases ok <;> rfl
    · simp only [Instr.lookup, Sem.run_bind, ru hu, Result.andThen_ok, Sem.run_pure, run_getObj hw (by simp), run_checkKey hud hd, run_findKey hud hn, rzero hz]
      cases ok <;> rfl

theorem mapIs_of (H : HRel m h w) {x x' : Value} {es : List MapEntry} (hx : VRel m x x') (he : entriesOf h x = some es) : ∃ es', MapIs w x' es' ∧ ESRel m es es' := by
  rcases entriesOf_sound H hx he with ⟨rfl, rfl⟩ | ⟨r, es', clock, rfl, hw, hrel⟩
  · exact ⟨[], .inl ⟨rfl, rfl⟩, rfl, by simp⟩
  · exact ⟨_, .inr ⟨_, _, _, rfl, hw, rfl⟩, hrel⟩

theorem lookupA_sound (H : HRel m h w) {t : TypeId} {x k x' k' v : Value} {ok : Bool} (hx : VRel m x x') (hk : VRel m k k') (hl : lookupA P t x k ok h = some v) :
    ∃ v', (Instr.lookup t x' k' ok).run P w = .ok v' w ∧ VRel m v v' := by
  unfold lookupA at hl
  split at hl
  · rename_i kt et es hkt hes hpk
    have hu := keyTypeOf_spec hkt
    have hke := hk.of_atom (plainKey_atom hpk)
    subst hke
    obtain ⟨es', hm, hrel⟩ := mapIs_of H hx hes
    dsimp only at hl
    split at hl
    · rename_i i v0 hf
      cases hl
      obtain ⟨d, hud, hfn, hd⟩ := findA_desc hf
      rcases findNow_rel es es' 0 _ hrel hfn with ⟨h0, _⟩ | ⟨j, v1, v', e, e', hr, hfn', hv, _⟩
      · cases h0
      · cases hr
        refine ⟨_, run_lookup hm hu hud hd hfn' (.inl ⟨_, rfl⟩), ?_⟩
        cases ok
        · simpa using hv
        · simpa using VRel.tupleL (.cons hv (.cons (.atom (v := .bool true) rfl) .nil))
    · rename_i hf
      simp only [Option.map_eq_some_iff] at hl
      obtain ⟨z, hz, rfl⟩ := hl
      obtain ⟨d, hud, hfn, hd⟩ := findA_desc hf
      rcases findNow_rel es es' 0 _ hrel hfn with ⟨_, hfn'⟩ | ⟨j, v1, v', e, e', hr, _⟩
      · refine ⟨_, run_lookup hm hu hud hd hfn' (.inr ⟨rfl, hz⟩), ?_⟩
        cases ok
        · simpa using zeroT_val hz
        · simpa using VRel.tupleL (.cons (zeroT_val hz) (.cons (.atom (v := .bool false) rfl) .nil))
      · cases hr
    · cases hl
  · cases hl

theorem capA_sound (H : HRel m h w) {t : TypeId} {x x' v : Value} (hx : VRel m x x') (hl : capA P t h x = some v) :
    ∃ v', VRel m v v' ∧ ∀ (ts : Array TypeId) (ty : TypeId) (vs : Array Value), ts[0]? = some t → vs[0]? = some x' → (Builtin.cap_ ts ty vs).run P w = .ok v' w := by
  unfold capA at hl
  split at hl
  · rename_i hu
    cases hl; rw [hx.of_atom rfl]
    exact ⟨_, .atom rfl, fun ts ty vs h1 h2 => by simp [Builtin.cap_, h1, h2, ru hu, goInt]⟩
  · rename_i e a n c hu
    split at hl
    · rename_i blk hb
      split at hl
      · rename_i ho
        cases hl
        refine ⟨_, .atom rfl, fun ts ty vs h1 h2 => ?_⟩
        obtain ⟨b, c', rfl, hs⟩ := hx.slice_inv
        rcases hs with hd | ⟨t', hm, _, _, _, _, _, _, _, hc⟩
        · rw [H.dead _ hd] at hb; cases hb
        · obtain ⟨cc, el, fr, hw, hr⟩ := H.block hm hb
          simp only [ORel] at hr
          have hc' : c' = c := by
            rcases hc with hc | ⟨z, hz, _⟩
            · exact hc
            · rw [hr.2.2.1, ho] at hz; cases hz
          simp [Builtin.cap_, h1, h2, ru hu, goInt, hc']
      · cases hl
    · cases hl
  · cases hl

theorem lenA_sound (H : HRel m h w) {t : TypeId} {x x' v : Value} (hx : VRel m x x') (hl : lenA P t h x = some v) :
    ∃ v', VRel m v v' ∧ ∀ (ts : Array TypeId) (ty : TypeId) (vs : Array Value), ts[0]? = some t → vs[0]? = some x' → (Builtin.len_ ts ty vs).run P w = .ok v' w := by
  unfold lenA at hl
  split at hl
  · rename_i hu
    cases hl; rw [hx.of_atom rfl]
    exact ⟨_, .atom rfl, fun ts ty vs h1 h2 => by simp [Builtin.len_, h1, h2, ru hu, goInt]⟩
  · rename_i e a n c hu
    cases hl
    refine ⟨_, .atom rfl, fun ts ty vs h1 h2 => ?_⟩
    cases a with
    | none => rw [hx.of_atom rfl] at h2; simp [Builtin.len_, h1, h2, ru hu, goInt]
    | some a => obtain ⟨b, c', rfl, _⟩ := hx.slice_inv; simp [Builtin.len_, h1, h2, ru hu, goInt]
  · rename_i hu
    cases hl; rw [hx.of_atom rfl]
    exact ⟨_, .atom rfl, fun ts ty vs h1 h2 => by simp [Builtin.len_, h1, h2, ru hu, goInt]⟩
  · rename_i k e r hu
    split at hl
    · rename_i es cl hg
      cases hl
      obtain ⟨j, rfl, hr⟩ := hx.map_inv
      obtain ⟨t, hm, rfl⟩ := H.rtgt hr hg (by simp)
      obtain ⟨es', hw, hrel, _⟩ := H.mapBlock hm hg
      have hlen : es.length = es'.size := by simpa using hrel.len
      refine ⟨_, .atom rfl, fun ts ty vs h1 h2 => ?_⟩
      simp [Builtin.len_, h1, h2, ru hu, goInt, run_getObj hw (by simp), hlen]
    · cases hl
  · cases hl

theorem bytesOfL_sound : ∀ {l l' : List Value} {bs : List UInt8}, LRel m l l' → bytesOfL l = some bs → l' = l := by
  intro l
  induction l with
  | nil => intro l' bs h _; exact h.of_nil
  | cons v l ih =>
    intro l' bs h hb
    obtain ⟨v', r', rfl, hv, hr⟩ := h.of_cons
    cases v with
    | int k n =>
      rw [hv.of_atom rfl]
      cases k <;> simp [bytesOfL] at hb
      obtain ⟨a, ha, _⟩ := hb
      rw [ih hr ha]
    | _ => simp [bytesOfL] at hb

theorem run_bytesLoop : ∀ (l : List Value) (bs : List UInt8) (s : ByteArray), bytesOfL l = some bs →
    (forIn l s (fun c r => match c with | .int .u8 n => pure (ForInStep.yield (r.push (UInt8.ofNat n.toNat))) | _ => stuck "bytesToString: byte expected") : Sem ByteArray).run P w = .ok ⟨(s.data.toList ++ bs).toArray⟩ w := by
  intro l
  induction l with
  | nil => intro bs s hb; simp [bytesOfL] at hb; subst hb; simp
  | cons v l ih =>
    intro bs s hb
    cases v with
    | int k n =>
      cases k <;> simp [bytesOfL] at hb
      obtain ⟨a, ha, rfl⟩ := hb
      simp only [List.forIn_cons, Sem.run_bind, Sem.run_pure, Result.andThen_ok]
      rw [ih a _ ha]
      congr 2
      simp [ByteArray.push]
    | _ => simp [bytesOfL] at hb

theorem run_bytesToString {b : Addr} {len cap : Nat} {l : List Value} {bs : List UInt8} (hr : (loadCells b len).run P w = .ok l.toArray w) (hb : bytesOfL l = some bs) :
    (Conv.bytesToString (.slice (some b) len cap)).run P w = .ok (.string ⟨bs.toArray⟩) w := by
  have := run_bytesLoop (P := P) (w := w) l bs .empty hb
  simp only [Conv.bytesToString, Sem.run_bind, hr, Result.andThen_ok, List.forIn_toArray]
  rw [show (ByteArray.empty.data.toList ++ bs) = bs from rfl] at this
  refine (congrArg (fun r : Result ByteArray => r.andThen _) (Eq.trans ?_ this)).trans rfl
  congr 1

theorem elemOfSlice_spec {t e : TypeId} (hk : elemOfSlice P t = some e) : P.underlying t = some (.slice e) := by
  unfold elemOfSlice at hk; split at hk
  · cases hk; assumption
  · cases hk

theorem isU8_spec {t : TypeId} (hk : isU8 P t = true) : ∃ e, P.underlying t = some (.slice e) ∧ P.underlying e = some (.int .u8) := by
  unfold isU8 at hk
  split at hk
  · rename_i e he
    split at hk
    · exact ⟨e, elemOfSlice_spec he, ‹_›⟩
    · cases hk
  · cases hk
theorem isStr_spec {t : TypeId} (hk : isStr P t = true) : P.underlying t = some .string := by
  unfold isStr at hk
  split at hk
  · assumption
  · cases hk
end
end Go.Cub
