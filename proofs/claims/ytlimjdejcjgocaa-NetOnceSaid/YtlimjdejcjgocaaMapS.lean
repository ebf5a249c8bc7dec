/- Maps whose keys are strings, read as lists of keys and values; the laws at the operations. -/
import Derived.Test.YtlimjdejcjgocaaRd
import Derived.Maps.RangeWalk
namespace Go.Proofs.Ytlimjdejcjgocaa
open Go.RowKit Go.MapKept
open Go.ChangeMaps (setBlock)
set_option linter.unusedVariables false
def encK (k : List UInt8) : Value := .string ⟨k.toArray⟩
theorem encK_inj {a b : List UInt8} (h : encK a = encK b) : a = b := by
  simp [encK] at h; exact h
/-- what an entry says -/
def saysE (e : MapEntry) : List UInt8 × Value := (match e.key with | .string s => s.data.toList | _ => [], e.val)
/-- block b is a map with these entries -/
def MapAt (w : World) (b : Nat) (vs : List (List UInt8 × Value)) : Prop :=
  ∃ es clock, w.heap[b]? = some (.map es clock) ∧ Stamped es clock ∧ (∀ e ∈ es.toList, e.key = encK (saysE e).1) ∧ es.toList.map saysE = vs
theorem MapAt.lt {w : World} {b : Nat} {vs : List (List UInt8 × Value)} (h : MapAt w b vs) : b < w.heap.size := by
  obtain ⟨es, clock, hb, _⟩ := h
  exact (Array.getElem?_eq_some_iff.1 hb).1
theorem MapAt.move {w w' : World} {b : Nat} {vs : List (List UInt8 × Value)} (h : MapAt w b vs) (hb : w'.heap[b]? = w.heap[b]?) : MapAt w' b vs := by
  obtain ⟨es, clock, h0, h1⟩ := h
  exact ⟨es, clock, hb.trans h0, h1⟩
theorem MapAt.made (w : World) : MapAt (w.alloc (.map #[] 0)) w.heap.size [] :=
  ⟨#[], 0, (MapKept.heap_alloc w _).1, stamped_empty 0, by simp, by simp⟩
theorem nodup_map_of {α β γ : Type} {f : α → β} {g : α → γ} {l : List α} (h : (l.map f).Nodup) (hi : ∀ x ∈ l, ∀ y ∈ l, g x = g y → f x = f y) : (l.map g).Nodup := by
  induction l with
  | nil => simp
  | cons a l ih =>
    rw [List.map_cons, List.nodup_cons] at h ⊢
    refine ⟨fun hm => h.1 ?_, ih h.2 fun x hx y hy => hi x (.tail _ hx) y (.tail _ hy)⟩
    obtain ⟨y, hy, e⟩ := List.mem_map.1 hm
    exact List.mem_map.2 ⟨y, hy, hi y (.tail _ hy) a (.head _) e⟩
theorem MapAt.nodup {w : World} {b : Nat} {vs : List (List UInt8 × Value)} (h : MapAt w b vs) : (vs.map (·.1)).Nodup := by
  obtain ⟨es, clock, _, hst, hk, rfl⟩ := h
  rw [List.map_map]
  refine nodup_map_of hst.2.2 fun x hx y hy e => ?_
  rw [hk x hx, hk y hy]
  exact congrArg encK e
theorem isKey_enc (k : List UInt8) : IsKey .string (encK k) := trivial
theorem keys_are {es : Array MapEntry} (hk : ∀ e ∈ es.toList, e.key = encK (saysE e).1) : ∀ x ∈ es.toList, IsKey .string x.key := fun x hx => by
  rw [hk x hx]; exact isKey_enc _
/-- what is found -/
theorem find_says {es : Array MapEntry} (hk : ∀ e ∈ es.toList, e.key = encK (saysE e).1) (k : List UInt8) :
    (Instr.findNow .string (encK k) es.toList 0 = some none ∧ (es.toList.map saysE).lookup k = none ∧ (∀ x ∈ es.toList, x.key ≠ encK k) ∧ (∀ p ∈ es.toList.map saysE, p.1 ≠ k)) ∨
    ∃ j e, Instr.findNow .string (encK k) es.toList 0 = some (some (j, e.val)) ∧ es.toList[j]? = some e ∧ e.key = encK k ∧ (saysE e).1 = k ∧ ((es.toList.map (·.key)).Nodup → (es.toList.map saysE).lookup k = some e.val) := by
  rcases findNow_spec (isKey_enc k) es.toList 0 (keys_are hk) with ⟨h1, h2⟩ | ⟨j, e, h1, h2, h3⟩
  · have h4 : ∀ p ∈ es.toList.map saysE, p.1 ≠ k := by
      rintro p hp rfl
      obtain ⟨x, hx, rfl⟩ := List.mem_map.1 hp
      exact h2 x hx (hk x hx)
    refine .inl ⟨h1, ?_, h2, h4⟩
    rw [List.lookup_eq_none_iff]
    intro p hp
    have := h4 p hp
    simp; exact fun e => this e.symm
  · have hem := List.mem_of_getElem? h2
    have he : (saysE e).1 = k := encK_inj ((hk e hem).symm.trans h3)
    refine .inr ⟨j, e, by simpa using h1, h2, h3, he, fun hn => ?_⟩
    have : ∀ l : List MapEntry, (∀ x ∈ l, x.key = encK (saysE x).1) → (l.map (·.key)).Nodup → e ∈ l → (l.map saysE).lookup k = some e.val := by
      intro l
      induction l with
      | nil => intro _ _ h; cases h
      | cons x l ih =>
        intro hkl hn hm
        rw [List.map_cons, List.nodup_cons] at hn
        rw [List.map_cons]
        by_cases hx : (saysE x).1 = k
        · have hxe : x = e := by
            rcases List.mem_cons.1 hm with rfl | hm
            · rfl
            · refine absurd (List.mem_map.2 ⟨e, hm, ?_⟩) hn.1
              rw [h3, hkl x (.head _), hx]
          subst hxe
          have : saysE x = (k, x.val) := Prod.ext hx rfl
          rw [this]; simp
        · have hne : (k == (saysE x).1) = false := by simp; exact fun e => hx e.symm
          rw [List.lookup_cons, hne]
          refine ih (fun y hy => hkl y (.tail _ hy)) hn.2 ?_
          rcases List.mem_cons.1 hm with rfl | hm
          · exact absurd he hx
          · exact hm
    exact this _ hk hn hem
theorem nodup_at {α : Type} : ∀ {l : List α}, l.Nodup → ∀ {i j : Nat} {a : α}, l[i]? = some a → l[j]? = some a → i = j
  | [], _, i, j, a, h, _ => by simp at h
  | x :: l, hn, i, j, a, hi, hj => by
    rw [List.nodup_cons] at hn
    cases i with
    | zero => cases j with
      | zero => rfl
      | succ j => simp at hi hj; exact absurd (List.mem_of_getElem? hj) (hi ▸ hn.1)
    | succ i => cases j with
      | zero => simp at hi hj; exact absurd (List.mem_of_getElem? hi) (hj ▸ hn.1)
      | succ j => exact congrArg (· + 1) (nodup_at hn.2 (by simpa using hi) (by simpa using hj))
def updV (vs : List (List UInt8 × Value)) (k : List UInt8) (v : Value) : List (List UInt8 × Value) :=
  if vs.any (fun p => p.1 == k) then vs.map (fun p => if p.1 = k then (k, v) else p) else vs ++ [(k, v)]
def delV (vs : List (List UInt8 × Value)) (k : List UInt8) : List (List UInt8 × Value) := vs.filter fun p => !(p.1 == k)
section
variable {P : Program} {w : World} {b : Nat} {vs : List (List UInt8 × Value)}
theorem MapAt.lookup (h : MapAt w b vs) {t kt e : TypeId} (ht : P.underlying t = some (.map kt e)) (hkt : P.underlying kt = some .string) {z : Value} (hz : (zeroValue e).run P w = .ok z w) (k : List UInt8) (c : Bool) :
    (Instr.lookup t (.map (some b)) (encK k) c).run P w = .ok (if c then .tuple #[(vs.lookup k).getD z, .bool (vs.lookup k).isSome] else (vs.lookup k).getD z) w := by
  obtain ⟨es, clock, hb, hst, hk, rfl⟩ := h
  rcases find_says hk k with ⟨h1, h2, h3, h4⟩ | ⟨j, e, h1, h2, h3, h4, h5⟩
  · simp [Instr.lookup, run_underlying ht, MapKept.run_getObj_map hb, MapKept.run_checkKey hkt (isKey_enc k), MapKept.run_findKey hkt h1, Result.andThen, hz, h2]
  · simp [Instr.lookup, run_underlying ht, MapKept.run_getObj_map hb, MapKept.run_checkKey hkt (isKey_enc k), MapKept.run_findKey hkt h1, Result.andThen, h5 hst.2.2]
theorem run_keyThatStays_enc (k : List UInt8) : (Instr.keyThatStays (encK k) (encK k)).run P w = .ok (encK k) w := by
  have : Instr.sameBits 10000 (encK k) (encK k) = true := by
    show Instr.sameBits (9999 + 1) (encK k) (encK k) = true
    unfold encK Instr.sameBits
    exact (bytes_beq _ _).2 rfl
  simp [Instr.keyThatStays, this]
theorem MapAt.update (h : MapAt w b vs) {t kt e : TypeId} (ht : P.underlying t = some (.map kt e)) (hkt : P.underlying kt = some .string) (k : List UInt8) (v : Value) :
    ∃ w', (Instr.mapUpdate t (.map (some b)) (encK k) v).run P w = .ok () w' ∧ MapAt w' b (updV vs k v) ∧ Mod (fun j => j = b) w w' := by
  obtain ⟨es, clock, hb, hst, hk, rfl⟩ := h
  have hmod : ∀ o, Mod (fun j => j = b) w { w with heap := w.heap.setIfInBounds b o } := fun o =>
    ⟨rfl, rfl, rfl, by simp, fun j _ hj => (MapKept.heap_set hb).2 j hj⟩
  rcases find_says hk k with ⟨h1, h2, h3, h4⟩ | ⟨j, e, h1, h2, h3, h4, h5⟩
  · refine ⟨_, ?_, ⟨es.push { key := encK k, val := v, born := clock }, clock + 1, (MapKept.heap_set hb).1, stamped_push hst h3, ?_, ?_⟩, hmod _⟩
    · simp [Instr.mapUpdate, run_underlying ht, MapKept.run_getObj_map hb, MapKept.run_checkKey hkt (isKey_enc k), MapKept.run_findKey hkt h1, Result.andThen, MapKept.run_setObj_map _ hb]
    · intro x hx
      simp only [Array.toList_push, List.mem_append, List.mem_singleton] at hx
      rcases hx with hx | rfl
      · exact hk x hx
      · simp [saysE, encK]
    · have hany : (es.toList.map saysE).any (fun p => p.1 == k) = false := by
        rw [List.any_eq_false]; intro p hp; have := h4 p hp; simpa using this
      unfold updV
      rw [hany]
      simp [saysE, encK]
  · have hes : es[j]? = some e := by simpa using h2
    have hmodk : ∀ x, es[j]? = some x → (({ x with key := encK k, val := v } : MapEntry)).key = x.key := by
      intro x hx; rw [hes] at hx; cases hx; exact h3.symm
    refine ⟨_, ?_, ⟨es.modify j fun e => { e with key := encK k, val := v }, clock, (MapKept.heap_set hb).1, stamped_modify hst j _ (fun _ _ => rfl) (fun x _ hx => hmodk x hx), ?_, ?_⟩, hmod _⟩
    · simp [Instr.mapUpdate, run_underlying ht, MapKept.run_getObj_map hb, MapKept.run_checkKey hkt (isKey_enc k), MapKept.run_findKey hkt h1, Result.andThen, MapKept.run_setObj_map _ hb, hes, h3, run_keyThatStays_enc]
    · intro x hx
      obtain ⟨i, hi⟩ := List.getElem?_of_mem hx
      rw [Array.getElem?_toList, Array.getElem?_modify] at hi
      by_cases hij : j = i
      · subst hij
        rw [if_pos rfl, hes] at hi
        simp at hi
        subst hi
        simp [saysE, encK]
      · rw [if_neg hij] at hi
        exact hk x (Array.mem_toList_iff.2 (Array.mem_of_getElem? hi))
    · have hany : (es.toList.map saysE).any (fun p => p.1 == k) = true := by
        rw [List.any_eq_true]; exact ⟨saysE e, List.mem_map.2 ⟨e, List.mem_of_getElem? h2, rfl⟩, by simp [h4]⟩
      unfold updV
      rw [hany, if_pos rfl]
      apply List.ext_getElem?
      intro i
      simp only [List.getElem?_map, Array.getElem?_toList, Array.getElem?_modify]
      by_cases hij : j = i
      · subst hij
        rw [if_pos rfl, hes]
        simp [saysE, encK, h3]
      · rw [if_neg hij]
        cases hx : es[i]? with
        | none => simp
        | some x =>
          have hxk : (saysE x).1 ≠ k := by
            intro hx1
            have hxm : x ∈ es.toList := Array.mem_toList_iff.2 (Array.mem_of_getElem? hx)
            have hkk : x.key = e.key := by rw [hk x hxm, hx1, h3]
            have hn := hst.2.2
            refine hij (nodup_at hn (a := e.key) ?_ ?_)
            · rw [List.getElem?_map, Array.getElem?_toList, hes]; rfl
            · rw [List.getElem?_map, Array.getElem?_toList, hx]; simp [hkk]
          simp [hxk]
theorem MapAt.drop (h : MapAt w b vs) {t kt e : TypeId} (ht : P.underlying t = some (.map kt e)) (hkt : P.underlying kt = some .string) (k : List UInt8) (ty : TypeId) :
    ∃ w', (Builtin.delete_ #[t, kt] ty #[.map (some b), encK k]).run P w = .ok (.tuple #[]) w' ∧ MapAt w' b (delV vs k) ∧ Mod (fun j => j = b) w w' := by
  obtain ⟨es, clock, hb, hst, hk, rfl⟩ := h
  have hmod : ∀ o, Mod (fun j => j = b) w { w with heap := w.heap.setIfInBounds b o } := fun o =>
    ⟨rfl, rfl, rfl, by simp, fun j _ hj => (MapKept.heap_set hb).2 j hj⟩
  rcases find_says hk k with ⟨h1, h2, h3, h4⟩ | ⟨j, e, h1, h2, h3, h4, h5⟩
  · refine ⟨_, ?_, ⟨es, clock, (MapKept.heap_set hb).1, hst, hk, ?_⟩, hmod _⟩
    · simp [Builtin.delete_, run_underlying ht, MapKept.run_getObj_map hb, MapKept.run_checkKey hkt (isKey_enc k), MapKept.run_findKey hkt h1, Result.andThen, MapKept.run_setObj_map _ hb]
    · unfold delV
      rw [List.filter_eq_self.2]
      intro p hp; have := h4 p hp; simpa using this
  · have hes : es[j]? = some e := by simpa using h2
    have hjs : j < es.size := (Array.getElem?_eq_some_iff.1 hes).1
    have hel : (es.eraseIdxIfInBounds j).toList = es.toList.eraseIdx j := by
      unfold Array.eraseIdxIfInBounds
      rw [dif_pos hjs]; simp
    refine ⟨_, ?_, ⟨es.eraseIdxIfInBounds j, clock, (MapKept.heap_set hb).1, stamped_erase hst j, ?_, ?_⟩, hmod _⟩
    · simp [Builtin.delete_, run_underlying ht, MapKept.run_getObj_map hb, MapKept.run_checkKey hkt (isKey_enc k), MapKept.run_findKey hkt h1, Result.andThen, MapKept.run_setObj_map _ hb]
    · intro x hx
      rw [hel] at hx
      exact hk x ((List.eraseIdx_sublist _ _).subset hx)
    · rw [hel]
      unfold delV
      have hn := hst.2.2
      have : ∀ (l : List MapEntry) (j : Nat), (∀ x ∈ l, x.key = encK (saysE x).1) → (l.map (·.key)).Nodup → l[j]? = some e → (l.eraseIdx j).map saysE = (l.map saysE).filter fun p => !(p.1 == k) := by
        intro l
        induction l with
        | nil => intro j _ _ h; simp at h
        | cons x l ih =>
          intro j hkl hn hj
          rw [List.map_cons, List.nodup_cons] at hn
          cases j with
          | zero =>
            simp at hj; subst hj
            rw [List.eraseIdx_cons_zero, List.map_cons, List.filter_cons]
            rw [if_neg (by simp [h4]), List.filter_eq_self.2]
            intro p hp
            obtain ⟨y, hy, rfl⟩ := List.mem_map.1 hp
            simp
            intro hyk
            refine hn.1 (List.mem_map.2 ⟨y, hy, ?_⟩)
            rw [hkl y (.tail _ hy), hyk, h3]
          | succ j =>
            rw [List.eraseIdx_cons_succ, List.map_cons, List.map_cons, List.filter_cons]
            have hj' : l[j]? = some e := by simpa using hj
            have hxk : (saysE x).1 ≠ k := by
              intro hxk
              refine hn.1 (List.mem_map.2 ⟨e, List.mem_of_getElem? hj', ?_⟩)
              rw [h3, hkl x (.head _), hxk]
            rw [if_pos (by simp [hxk]), ih j (fun y hy => hkl y (.tail _ hy)) hn.2 hj']
      exact this _ j hk hn h2
theorem MapAt.len (h : MapAt w b vs) {t kt e : TypeId} (ht : P.underlying t = some (.map kt e)) (ty : TypeId) : (Builtin.len_ #[t] ty #[.map (some b)]).run P w = .ok (.int .i64 vs.length) w := by
  obtain ⟨es, clock, hb, hst, hk, rfl⟩ := h
  simp [Builtin.len_, run_underlying ht, MapKept.run_getObj_map hb, Result.andThen, goInt]
/-- 'range' over a map under way: these have come -/
def RangeAt (w : World) (b r : Nat) (vs done : List (List UInt8 × Value)) : Prop :=
  ∃ (es : Array MapEntry) (clock since : Nat) (seen : Array Nat) (c0 : Nat) (ds : List MapEntry), w.heap[b]? = some (.map es clock) ∧ Stamped es clock ∧ (∀ e ∈ es.toList, e.key = encK (saysE e).1) ∧ es.toList.map saysE = vs ∧
    w.heap[r]? = some (.mapIter (some b) since seen c0) ∧ (∀ x ∈ es.toList, x.born < since) ∧ since ≤ c0 ∧ since ≤ clock ∧
    (∀ x ∈ ds, x ∈ es.toList) ∧ ds.map (·.born) = seen.toList ∧ ds.Nodup ∧ ds.map saysE = done
theorem RangeAt.mapAt {r : Nat} {done : List (List UInt8 × Value)} (h : RangeAt w b r vs done) : MapAt w b vs := by
  obtain ⟨es, clock, since, seen, c0, ds, hb, hst, hk, hv, _⟩ := h
  exact ⟨es, clock, hb, hst, hk, hv⟩
theorem RangeAt.lt {r : Nat} {done : List (List UInt8 × Value)} (h : RangeAt w b r vs done) : r < w.heap.size := by
  obtain ⟨es, clock, since, seen, c0, ds, hb, hst, hk, hv, hr, _⟩ := h
  exact (Array.getElem?_eq_some_iff.1 hr).1
theorem RangeAt.ne {r : Nat} {done : List (List UInt8 × Value)} (h : RangeAt w b r vs done) : r ≠ b := by
  obtain ⟨es, clock, since, seen, c0, ds, hb, hst, hk, hv, hr, _⟩ := h
  intro e; rw [e, hb] at hr; cases hr
theorem RangeAt.move {w' : World} {r : Nat} {done : List (List UInt8 × Value)} (h : RangeAt w b r vs done) (hb : w'.heap[b]? = w.heap[b]?) (hr : w'.heap[r]? = w.heap[r]?) : RangeAt w' b r vs done := by
  obtain ⟨es, clock, since, seen, c0, ds, h1, h2, h3, h4, h5, h6⟩ := h
  exact ⟨es, clock, since, seen, c0, ds, hb.trans h1, h2, h3, h4, hr.trans h5, h6⟩
theorem perm_of_inj : ∀ {l m : List MapEntry}, l.Nodup → m.Nodup → (∀ x ∈ l, x ∈ m) → l.length ≤ m.length ∧ (l.length = m.length → l.Perm m) := by
  intro l
  induction l with
  | nil => intro m _ _ _; exact ⟨by simp, fun h => by cases m with | nil => exact List.Perm.refl _ | cons => simp at h⟩
  | cons a l ih =>
    intro m hl hm hs
    rw [List.nodup_cons] at hl
    obtain ⟨m1, m2, rfl⟩ := List.append_of_mem (hs a (.head _))
    have hp : (m1 ++ a :: m2).Perm (a :: (m1 ++ m2)) := List.perm_middle
    have hn := (hp.nodup_iff).1 hm
    rw [List.nodup_cons] at hn
    have := ih (m := m1 ++ m2) hl.2 hn.2 (fun x hx => by
      have h1 := hp.mem_iff.1 (hs x (.tail _ hx))
      rcases List.mem_cons.1 h1 with rfl | h1
      · exact absurd hx hl.1
      · exact h1)
    refine ⟨by simp at this ⊢; omega, fun h => ?_⟩
    exact ((this.2 (by simp at h ⊢; omega)).cons a).trans hp.symm
theorem born_nodup {es : Array MapEntry} {clock : Nat} (h : Stamped es clock) : es.toList.Nodup := by
  have := h.2.1
  exact List.Pairwise.of_map (S := (· ≠ ·)) (·.born) (fun a b hab e => hab (by rw [e])) this
theorem RangeAt.size {r : Nat} {done : List (List UInt8 × Value)} (h : RangeAt w b r vs done) : done.length ≤ vs.length := by
  obtain ⟨es, clock, since, seen, c0, ds, h1, h2, h3, h4, h5, h6, h7, h8, h9, h10, h11, h12⟩ := h
  rw [← h4, ← h12, List.length_map, List.length_map]
  exact (perm_of_inj h11 (born_nodup h2) h9).1
theorem RangeAt.mem {r : Nat} {done : List (List UInt8 × Value)} (h : RangeAt w b r vs done) : ∀ p ∈ done, p ∈ vs := by
  obtain ⟨es, clock, since, seen, c0, ds, h1, h2, h3, h4, h5, h6, h7, h8, h9, h10, h11, h12⟩ := h
  rw [← h4, ← h12]
  intro p hp
  obtain ⟨x, hx, rfl⟩ := List.mem_map.1 hp
  exact List.mem_map.2 ⟨x, h9 x hx, rfl⟩
theorem RangeAt.nodup {r : Nat} {done : List (List UInt8 × Value)} (h : RangeAt w b r vs done) : (done.map (·.1)).Nodup := by
  obtain ⟨es, clock, since, seen, c0, ds, h1, h2, h3, h4, h5, h6, h7, h8, h9, h10, h11, h12⟩ := h
  rw [← h12, List.map_map]
  refine nodup_map_of (f := id) (by simpa using h11) fun x hx y hy e => ?_
  have hx := h9 x hx
  have hy := h9 y hy
  have e : x.key = y.key := by rw [h3 x hx, h3 y hy]; exact congrArg encK e
  exact entry_eq_of_key ((stamped_iff es clock).1 h2).2.2 hx hy e
theorem MapAt.range (h : MapAt w b vs) {t kt e : TypeId} (ht : P.underlying t = some (.map kt e)) :
    ∃ w', (Instr.range t (.map (some b))).run P w = .ok (.pointer (some ⟨w.heap.size, 0, none⟩)) w' ∧ RangeAt w' b w.heap.size vs [] ∧ (∀ S, Mod S w w') := by
  have hlt := h.lt
  obtain ⟨es, clock, hb, hst, hk, hv⟩ := h
  exact ⟨_, run_range_map w t kt e b es clock ht hb, ⟨es, clock, clock, #[], clock, [], ((MapKept.heap_alloc w _).2 b hlt).trans hb, hst, hk, hv, (MapKept.heap_alloc w _).1, hst.1, Nat.le_refl _, Nat.le_refl _, by simp, by simp, by simp, by simp⟩, fun S => (Mod.refl S w).alloc _⟩
/-- the step -/
theorem RangeAt.next {r : Nat} {done : List (List UInt8 × Value)} (h : RangeAt w b r vs done) (ty : TypeId) :
    (done.Perm vs ∧ (Instr.next (.pointer (some ⟨r, 0, none⟩)) false ty).run P w = .ok (.tuple #[.bool false]) w) ∨
    ∃ k v w', (k, v) ∈ vs ∧ (∀ p ∈ done, p.1 ≠ k) ∧ (Instr.next (.pointer (some ⟨r, 0, none⟩)) false ty).run P w = .ok (.tuple #[.bool true, encK k, v]) w' ∧ RangeAt w' b r vs (done ++ [(k, v)]) ∧ Mod (fun j => j = r) w w' ∧ w'.heap.size = w.heap.size ∧
      (Instr.entry (.pointer (some ⟨r, 0, none⟩))).run P w' = .ok (.tuple #[encK k, v]) w' := by
  have hne := h.ne
  obtain ⟨es, clock, since, seen, c0, ds, h1, h2, h3, h4, h5, h6, h7, h8, h9, h10, h11, h12⟩ := h
  rcases run_next_at (P := P) w ty r b since c0 seen es clock h5 h1 h6 h7 with ⟨h0, hrun⟩ | ⟨e, he, w1, hal, hrun⟩
  · refine .inl ⟨?_, hrun⟩
    have hall : ∀ x ∈ es.toList, x ∈ ds := by
      intro x hx
      have := all_seen es seen h0 x hx
      rw [Array.contains_iff_mem, ← Array.mem_toList_iff, ← h10] at this
      obtain ⟨y, hy, e⟩ := List.mem_map.1 this
      rw [← born_inj ((stamped_iff es clock).1 h2).2.1 (h9 y hy) hx e]; exact hy
    have ha := perm_of_inj h11 (born_nodup h2) h9
    have hb := perm_of_inj (born_nodup h2) h11 hall
    rw [← h4, ← h12]
    exact (ha.2 (by omega)).map _
  · obtain ⟨hem, hes⟩ := mem_left he
    have hr1 : w1.heap[r]? = some (.mapIter (some b) since seen c0) := by rcases hal with rfl | rfl <;> exact h5
    have hb1 : w1.heap[b]? = some (.map es clock) := by rcases hal with rfl | rfl <;> exact h1
    have hset := MapKept.heap_set (o' := .mapIter (some b) since (seen.push e.born) clock) hr1
    have hb' : (setBlock w1 r (.mapIter (some b) since (seen.push e.born) clock)).heap[b]? = some (.map es clock) := (hset.2 b (fun e1 => hne e1.symm)).trans hb1
    have hnd : e ∉ ds := by
      intro hd
      have : e.born ∈ seen.toList := by rw [← h10]; exact List.mem_map.2 ⟨e, hd, rfl⟩
      rw [Array.mem_toList_iff, ← Array.contains_iff_mem, hes] at this
      cases this
    have hke := h3 e hem
    refine .inr ⟨(saysE e).1, (saysE e).2, setBlock w1 r (.mapIter (some b) since (seen.push e.born) clock), ?_, ?_, ?_, ⟨es, clock, since, seen.push e.born, clock, ds ++ [e], hb', h2, h3, h4, hset.1, h6, h8, h8, ?_, ?_, ?_, ?_⟩, ?_, ?_, ?_⟩
    · rw [← h4]; exact List.mem_map.2 ⟨e, hem, rfl⟩
    · rw [← h12]
      intro p hp hpe
      obtain ⟨x, hx, rfl⟩ := List.mem_map.1 hp
      have hxk : x.key = e.key := by rw [h3 x (h9 x hx), hke, hpe]
      exact hnd (entry_eq_of_key ((stamped_iff es clock).1 h2).2.2 (h9 x hx) hem hxk ▸ hx)
    · rw [hrun, ← hke]; rfl
    · intro x hx
      rcases List.mem_append.1 hx with hx | hx
      · exact h9 x hx
      · rw [List.mem_singleton.1 hx]; exact hem
    · simp [h10]
    · rw [List.nodup_append]
      refine ⟨h11, by simp, ?_⟩
      intro x hx y hy e1
      rw [List.mem_singleton.1 hy] at e1
      exact hnd (e1 ▸ hx)
    · simp [h12]
    · rcases hal with rfl | rfl <;> exact ⟨rfl, rfl, rfl, by simp [setBlock], fun i _ hi => hset.2 i hi⟩
    · rcases hal with rfl | rfl <;> simp [setBlock]
    · rw [← hke]
      exact run_entry_at _ r b since seen es clock e hset.1 hb' hem h2.2.1
end
section
variable {P : Program} {ops : Array Oper} {rest : List Oper} {o : Oper} {a : Act} {Q : Exit → Act → World → Prop} {w : World} {b : Nat} {vs : List (List UInt8 × Value)}
theorem wpList_lookup_str (hg : o.guard = none) (m x : Operand) (t : TypeId) (c : Bool) (hop : o.op = Op.lookup t m x c) {kt e : TypeId} (ht : P.underlying t = some (.map kt e)) (hkt : P.underlying kt = some .string) (z : Value) (hz : (zeroValue e).run P w = .ok z w)
    (hm : a.eval m = .map (some b)) (k : List UInt8) (hx : a.eval x = encK k) (h : MapAt w b vs)
    (hK : wpList P ops Q rest (a.put o.dst (if c then .tuple #[(vs.lookup k).getD z, .bool (vs.lookup k).isSome] else (vs.lookup k).getD z)) w) : wpList P ops Q (o :: rest) a w := by
  refine wpList_plain hg fun K' hK' => ?_
  unfold Oper.wp
  simp only [execOp, hop, hm, hx, h.lookup ht hkt hz k c, Sem.run_bind, Result.andThen, Sem.run_pure]
  exact hK' _ _ hK
theorem wpList_update_str (hg : o.guard = none) (m x v : Operand) (t : TypeId) (hop : o.op = Op.mapUpdate t m x v) {kt e : TypeId} (ht : P.underlying t = some (.map kt e)) (hkt : P.underlying kt = some .string)
    (hm : a.eval m = .map (some b)) (k : List UInt8) (hx : a.eval x = encK k) (u : Value) (hv : a.eval v = u) (h : MapAt w b vs)
    (hK : ∀ w', MapAt w' b (updV vs k u) → Mod (fun j => j = b) w w' → wpList P ops Q rest (a.put o.dst undef) w') : wpList P ops Q (o :: rest) a w := by
  refine wpList_plain hg fun K' hK' => ?_
  obtain ⟨w', hrun, r1, r2⟩ := h.update (P := P) ht hkt k u
  unfold Oper.wp
  simp [execOp, hop, hm, hx, hv, hrun, Result.andThen]
  exact hK' _ _ (hK w' r1 r2)
theorem wpList_delete_str (hg : o.guard = none) (m x : Operand) (t kt : TypeId) (hop : o.op = Op.call { callee := Callee.builtin Builtin.delete, args := #[m, x], argTypes := #[t, kt] }) {e : TypeId} (ht : P.underlying t = some (.map kt e)) (hkt : P.underlying kt = some .string)
    (hm : a.eval m = .map (some b)) (k : List UInt8) (hx : a.eval x = encK k) (h : MapAt w b vs)
    (hK : ∀ w', MapAt w' b (delV vs k) → Mod (fun j => j = b) w w' → wpList P ops Q rest (a.put o.dst (.tuple #[])) w') : wpList P ops Q (o :: rest) a w := by
  refine wpList_plain hg fun K' hK' => ?_
  obtain ⟨w', hrun, r1, r2⟩ := h.drop (P := P) ht hkt k o.type
  unfold Oper.wp
  simp [execOp, hop, resolve, invoke, builtin, hm, hx, hrun, Result.andThen]
  exact hK' _ _ (hK w' r1 r2)
theorem wpList_len_str (hg : o.guard = none) (m : Operand) (t : TypeId) (hop : o.op = Op.call { callee := Callee.builtin Builtin.len, args := #[m], argTypes := #[t] }) {kt e : TypeId} (ht : P.underlying t = some (.map kt e))
    (hm : a.eval m = .map (some b)) (h : MapAt w b vs) (hK : wpList P ops Q rest (a.put o.dst (.int .i64 vs.length)) w) : wpList P ops Q (o :: rest) a w := by
  refine wpList_plain hg fun K' hK' => ?_
  have hrun := h.len (P := P) ht o.type
  unfold Oper.wp
  simp [execOp, hop, resolve, invoke, builtin, hm, hrun, Result.andThen]
  exact hK' _ _ hK
theorem wpList_range_str (hg : o.guard = none) (m : Operand) (t : TypeId) (hop : o.op = Op.range t m) {kt e : TypeId} (ht : P.underlying t = some (.map kt e)) (hm : a.eval m = .map (some b)) (h : MapAt w b vs)
    (hK : ∀ w' r, w.heap.size ≤ r → RangeAt w' b r vs [] → (∀ S : Nat → Prop, Mod S w w') → wpList P ops Q rest (a.put o.dst (.pointer (some ⟨r, 0, none⟩))) w') : wpList P ops Q (o :: rest) a w := by
  refine wpList_plain hg fun K' hK' => ?_
  obtain ⟨w', hrun, r1, r2⟩ := h.range (P := P) ht
  unfold Oper.wp
  simp [execOp, hop, hm, hrun, Result.andThen]
  exact hK' _ _ (hK w' _ (Nat.le_refl _) r1 r2)
theorem wpList_next_str (hg : o.guard = none) (it : Operand) (hop : o.op = Op.next it false) {r : Nat} {done : List (List UInt8 × Value)} (hit : a.eval it = .pointer (some ⟨r, 0, none⟩)) (h : RangeAt w b r vs done)
    (hDone : done.Perm vs → wpList P ops Q rest (a.put o.dst (.tuple #[.bool false])) w)
    (hMore : ∀ k v w', (k, v) ∈ vs → (∀ p ∈ done, p.1 ≠ k) → RangeAt w' b r vs (done ++ [(k, v)]) → Mod (fun j => j = r) w w' → w'.heap.size = w.heap.size →
      (Instr.entry (.pointer (some ⟨r, 0, none⟩))).run P w' = .ok (.tuple #[encK k, v]) w' → wpList P ops Q rest (a.put o.dst (.tuple #[.bool true, encK k, v])) w') : wpList P ops Q (o :: rest) a w := by
  refine wpList_plain hg fun K' hK' => ?_
  unfold Oper.wp
  rcases h.next (P := P) o.type with ⟨hp, hrun⟩ | ⟨k, v, w', hm, hn, hrun, hra, hmd, hsz, hen⟩
  · simp [execOp, hop, hit, hrun, Result.andThen]
    exact hK' _ _ (hDone hp)
  · simp [execOp, hop, hit, hrun, Result.andThen]
    exact hK' _ _ (hMore k v w' hm hn hra hmd hsz hen)
end
end Go.Proofs.Ytlimjdejcjgocaa
