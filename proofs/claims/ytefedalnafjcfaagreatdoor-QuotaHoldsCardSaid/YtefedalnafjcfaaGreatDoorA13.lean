/- Part of this claim's proof (texts MapS, TabS, TabT, joined by program). -/
import Derived.Maps.RangeWalk
import Derived.Test.YtefedalnafjcfaaGreatDoorA01
import Derived.Test.YtefedalnafjcfaaGreatDoorA10
namespace Go.Proofs.YtefedalnafjcfaaGreatDoor
open Go.RowKit Go.MapKept
open Go.ChangeMaps (setBlock)
set_option linter.unusedVariables false
def encK (k : List UInt8) : Value := .string ⟨k.toArray⟩
theorem encK_inj {a b : List UInt8} (h : encK a = encK b) : a = b := by
  simp [encK] at h; exact h
/-- what an entry says -/
def saysE (e : MapEntry) : List UInt8 × Value := (match e.key with | .string s => s.data.toList | _ => [], e.val)
/-- block b is a map with these entries -/
def MapAt (w : World) (b : Nat) (vs : List (List UInt8 × Value)) : Prop :=
  ∃ es clock, w.heap[b]? = some (.map es clock) ∧ Stamped es clock ∧ (∀ e ∈ es.toList, e.key = encK (saysE e).1) ∧ es.toList.map saysE = vs
theorem MapAt.lt {w : World} {b : Nat} {vs : List (List UInt8 × Value)} (h : MapAt w b vs) : b < w.heap.size := by
  obtain ⟨es, clock, hb, _⟩ := h
  exact (Array.getElem?_eq_some_iff.1 hb).1
theorem MapAt.move {w w' : World} {b : Nat} {vs : List (List UInt8 × Value)} (h : MapAt w b vs) (hb : w'.heap[b]? = w.heap[b]?) : MapAt w' b vs := by
  obtain ⟨es, clock, h0, h1⟩ := h
  exact ⟨es, clock, hb.trans h0, h1⟩
theorem MapAt.made (w : World) : MapAt (w.alloc (.map #[] 0)) w.heap.size [] :=
  ⟨#[], 0, (MapKept.heap_alloc w _).1, stamped_empty 0, by simp, by simp⟩
theorem isKey_enc (k : List UInt8) : IsKey .string (encK k) := trivial
theorem keys_are {es : Array MapEntry} (hk : ∀ e ∈ es.toList, e.key = encK (saysE e).1) : ∀ x ∈ es.toList, IsKey .string x.key := fun x hx => by
  rw [hk x hx]; exact isKey_enc _
/-- what is found -/
theorem find_says {es : Array MapEntry} (hk : ∀ e ∈ es.toList, e.key = encK (saysE e).1) (k : List UInt8) :
    (Instr.findNow .string (encK k) es.toList 0 = some none ∧ (es.toList.map saysE).lookup k = none ∧ (∀ x ∈ es.toList, x.key ≠ encK k) ∧ (∀ p ∈ es.toList.map saysE, p.1 ≠ k)) ∨
    ∃ j e, Instr.findNow .string (encK k) es.toList 0 = some (some (j, e.val)) ∧ es.toList[j]? = some e ∧ e.key = encK k ∧ (saysE e).1 = k ∧ ((es.toList.map (·.key)).Nodup → (es.toList.map saysE).lookup k = some e.val) := by
  rcases findNow_spec (isKey_enc k) es.toList 0 (keys_are hk) with ⟨h1, h2⟩ | ⟨j, e, h1, h2, h3⟩
  · have h4 : ∀ p ∈ es.toList.map saysE, p.1 ≠ k := by
      rintro p hp rfl
      obtain ⟨x, hx, rfl⟩ := List.mem_map.1 hp
      exact h2 x hx (hk x hx)
    refine .inl ⟨h1, ?_, h2, h4⟩
    rw [List.lookup_eq_none_iff]
    intro p hp
    have := h4 p hp
    simp; exact fun e => this e.symm
  · have hem := List.mem_of_getElem? h2
    have he : (saysE e).1 = k := encK_inj ((hk e hem).symm.trans h3)
    refine .inr ⟨j, e, by simpa using h1, h2, h3, he, fun hn => ?_⟩
    have : ∀ l : List MapEntry, (∀ x ∈ l, x.key = encK (saysE x).1) → (l.map (·.key)).Nodup → e ∈ l → (l.map saysE).lookup k = some e.val := by
      intro l
      induction l with
      | nil => intro _ _ h; cases h
      | cons x l ih =>
        intro hkl hn hm
        rw [List.map_cons, List.nodup_cons] at hn
        rw [List.map_cons]
        by_cases hx : (saysE x).1 = k
        · have hxe : x = e := by
            rcases List.mem_cons.1 hm with rfl | hm
            · rfl
            · refine absurd (List.mem_map.2 ⟨e, hm, ?_⟩) hn.1
              rw [h3, hkl x (.head _), hx]
          subst hxe
          have : saysE x = (k, x.val) := Prod.ext hx rfl
          rw [this]; simp
        · have hne : (k == (saysE x).1) = false := by simp; exact fun e => hx e.symm
          rw [List.lookup_cons, hne]
          refine ih (fun y hy => hkl y (.tail _ hy)) hn.2 ?_
          rcases List.mem_cons.1 hm with rfl | hm
          · exact absurd he hx
          · exact hm
    exact this _ hk hn hem
theorem nodup_at {α : Type} : ∀ {l : List α}, l.Nodup → ∀ {i j : Nat} {a : α}, l[i]? = some a → l[j]? = some a → i = j
  | [], _, i, j, a, h, _ => by simp at h
  | x :: l, hn, i, j, a, hi, hj => by
    rw [List.nodup_cons] at hn
    cases i with
    | zero => cases j with
      | zero => rfl
      | succ j => simp at hi hj; exact absurd (List.mem_of_getElem? hj) (hi ▸ hn.1)
    | succ i => cases j with
      | zero => simp at hi hj; exact absurd (List.mem_of_getElem? hi) (hj ▸ hn.1)
      | succ j => exact congrArg (· + 1) (nodup_at hn.2 (by simpa using hi) (by simpa using hj))
def updV (vs : List (List UInt8 × Value)) (k : List UInt8) (v : Value) : List (List UInt8 × Value) :=
  if vs.any (fun p => p.1 == k) then vs.map (fun p => if p.1 = k then (k, v) else p) else vs ++ [(k, v)]
def delV (vs : List (List UInt8 × Value)) (k : List UInt8) : List (List UInt8 × Value) := vs.filter fun p => !(p.1 == k)
section
variable {P : Program} {w : World} {b : Nat} {vs : List (List UInt8 × Value)}
theorem MapAt.lookup (h : MapAt w b vs) {t kt e : TypeId} (ht : P.underlying t = some (.map kt e)) (hkt : P.underlying kt = some .string) {z : Value} (hz : (zeroValue e).run P w = .ok z w) (k : List UInt8) (c : Bool) :
    (Instr.lookup t (.map (some b)) (encK k) c).run P w = .ok (if c then .tuple #[(vs.lookup k).getD z, .bool (vs.lookup k).isSome] else (vs.lookup k).getD z) w := by
  obtain ⟨es, clock, hb, hst, hk, rfl⟩ := h
  rcases find_says hk k with ⟨h1, h2, h3, h4⟩ | ⟨j, e, h1, h2, h3, h4, h5⟩
  · simp [Instr.lookup, run_underlying ht, MapKept.run_getObj_map hb, MapKept.run_checkKey hkt (isKey_enc k), MapKept.run_findKey hkt h1, Result.andThen, hz, h2]
  · simp [Instr.lookup, run_underlying ht, MapKept.run_getObj_map hb, MapKept.run_checkKey hkt (isKey_enc k), MapKept.run_findKey hkt h1, Result.andThen, h5 hst.2.2]
theorem run_keyThatStays_enc (k : List UInt8) : (Instr.keyThatStays (encK k) (encK k)).run P w = .ok (encK k) w := by
  have : Instr.sameBits 10000 (encK k) (encK k) = true := by
    show Instr.sameBits (9999 + 1) (encK k) (encK k) = true
    unfold encK Instr.sameBits
    exact (bytes_beq _ _).2 rfl
  simp [Instr.keyThatStays, this]
theorem MapAt.update (h : MapAt w b vs) {t kt e : TypeId} (ht : P.underlying t = some (.map kt e)) (hkt : P.underlying kt = some .string) (k : List UInt8) (v : Value) :
    ∃ w', (Instr.mapUpdate t (.map (some b)) (encK k) v).run P w = .ok () w' ∧ MapAt w' b (updV vs k v) ∧ Mod (fun j => j = b) w w' := by
  obtain ⟨es, clock, hb, hst, hk, rfl⟩ := h
  have hmod : ∀ o, Mod (fun j => j = b) w { w with heap := w.heap.setIfInBounds b o } := fun o =>
    ⟨rfl, rfl, rfl, by simp, fun j _ hj => (MapKept.heap_set hb).2 j hj⟩
  rcases find_says hk k with ⟨h1, h2, h3, h4⟩ | ⟨j, e, h1, h2, h3, h4, h5⟩
  · refine ⟨_, ?_, ⟨es.push { key := encK k, val := v, born := clock }, clock + 1, (MapKept.heap_set hb).1, stamped_push hst h3, ?_, ?_⟩, hmod _⟩
    · simp [Instr.mapUpdate, run_underlying ht, MapKept.run_getObj_map hb, MapKept.run_checkKey hkt (isKey_enc k), MapKept.run_findKey hkt h1, Result.andThen, MapKept.run_setObj_map _ hb]
    · intro x hx
      simp only [Array.toList_push, List.mem_append, List.mem_singleton] at hx
      rcases hx with hx | rfl
      · exact hk x hx
      · simp [saysE, encK]
    · have hany : (es.toList.map saysE).any (fun p => p.1 == k) = false := by
        rw [List.any_eq_false]; intro p hp; have := h4 p hp; simpa using this
      unfold updV
      rw [hany]
      simp [saysE, encK]
  · have hes : es[j]? = some e := by simpa using h2
    have hmodk : ∀ x, es[j]? = some x → (({ x with key := encK k, val := v } : MapEntry)).key = x.key := by
      intro x hx; rw [hes] at hx; cases hx; exact h3.symm
    refine ⟨_, ?_, ⟨es.modify j fun e => { e with key := encK k, val := v }, clock, (MapKept.heap_set hb).1, stamped_modify hst j _ (fun _ _ => rfl) (fun x _ hx => hmodk x hx), ?_, ?_⟩, hmod _⟩
    · simp [Instr.mapUpdate, run_underlying ht, MapKept.run_getObj_map hb, MapKept.run_checkKey hkt (isKey_enc k), MapKept.run_findKey hkt h1, Result.andThen, MapKept.run_setObj_map _ hb, hes, h3, run_keyThatStays_enc]
    · intro x hx
      obtain ⟨i, hi⟩ := List.getElem?_of_mem hx
      rw [Array.getElem?_toList, Array.getElem?_modify] at hi
      by_cases hij : j = i
      · subst hij
        rw [if_pos rfl, hes] at hi
        simp at hi
        subst hi
        simp [saysE, encK]
      · rw [if_neg hij] at hi
        exact hk x (Array.mem_toList_iff.2 (Array.mem_of_getElem? hi))
    · have hany : (es.toList.map saysE).any (fun p => p.1 == k) = true := by
        rw [List.any_eq_true]; exact ⟨saysE e, List.mem_map.2 ⟨e, List.mem_of_getElem? h2, rfl⟩, by simp [h4]⟩
      unfold updV
      rw [hany, if_pos rfl]
      apply List.ext_getElem?
      intro i
      simp only [List.getElem?_map, Array.getElem?_toList, Array.getElem?_modify]
      by_cases hij : j = i
      · subst hij
        rw [if_pos rfl, hes]
        simp [saysE, encK, h3]
      · rw [if_neg hij]
        cases hx : es[i]? with
        | none => simp
        | some x =>
          have hxk : (saysE x).1 ≠ k := by
            intro hx1
            have hxm : x ∈ es.toList := Array.mem_toList_iff.2 (Array.mem_of_getElem? hx)
            have hkk : x.key = e.key := by rw [hk x hxm, hx1, h3]
            have hn := hst.2.2
            refine hij (nodup_at hn (a := e.key) ?_ ?_)
            · rw [List.getElem?_map, Array.getElem?_toList, hes]; rfl
            · rw [List.getElem?_map, Array.getElem?_toList, hx]; simp [hkk]
          simp [hxk]
theorem MapAt.drop (h : MapAt w b vs) {t kt e : TypeId} (ht : P.underlying t = some (.map kt e)) (hkt : P.underlying kt = some .string) (k : List UInt8) (ty : TypeId) :
    ∃ w', (Builtin.delete_ #[t, kt] ty #[.map (some b), encK k]).run P w = .ok (.tuple #[]) w' ∧ MapAt w' b (delV vs k) ∧ Mod (fun j => j = b) w w' := by
  obtain ⟨es, clock, hb, hst, hk, rfl⟩ := h
  have hmod : ∀ o, Mod (fun j => j = b) w { w with heap := w.heap.setIfInBounds b o } := fun o =>
    ⟨rfl, rfl, rfl, by simp, fun j _ hj => (MapKept.heap_set hb).2 j hj⟩
  rcases find_says hk k with ⟨h1, h2, h3, h4⟩ | ⟨j, e, h1, h2, h3, h4, h5⟩
  · refine ⟨_, ?_, ⟨es, clock, (MapKept.heap_set hb).1, hst, hk, ?_⟩, hmod _⟩
    · simp [Builtin.delete_, run_underlying ht, MapKept.run_getObj_map hb, MapKept.run_checkKey hkt (isKey_enc k), MapKept.run_findKey hkt h1, Result.andThen, MapKept.run_setObj_map _ hb]
    · unfold delV
      rw [List.filter_eq_self.2]
      intro p hp; have := h4 p hp; simpa using this
  · have hes : es[j]? = some e := by simpa using h2
    have hjs : j < es.size := (Array.getElem?_eq_some_iff.1 hes).1
    have hel : (es.eraseIdxIfInBounds j).toList = es.toList.eraseIdx j := by
      unfold Array.eraseIdxIfInBounds
      rw [dif_pos hjs]; simp
    refine ⟨_, ?_, ⟨es.eraseIdxIfInBounds j, clock, (MapKept.heap_set hb).1, stamped_erase hst j, ?_, ?_⟩, hmod _⟩
    · simp [Builtin.delete_, run_underlying ht, MapKept.run_getObj_map hb, MapKept.run_checkKey hkt (isKey_enc k), MapKept.run_findKey hkt h1, Result.andThen, MapKept.run_setObj_map _ hb]
    · intro x hx
      rw [hel] at hx
      exact hk x ((List.eraseIdx_sublist _ _).subset hx)
    · rw [hel]
      unfold delV
      have hn := hst.2.2
      have : ∀ (l : List MapEntry) (j : Nat), (∀ x ∈ l, x.key = encK (saysE x).1) → (l.map (·.key)).Nodup → l[j]? = some e → (l.eraseIdx j).map saysE = (l.map saysE).filter fun p => !(p.1 == k) := by
        intro l
        induction l with
        | nil => intro j _ _ h; simp at h
        | cons x l ih =>
          intro j hkl hn hj
          rw [List.map_cons, List.nodup_cons] at hn
          cases j with
          | zero =>
            simp at hj; subst hj
            rw [List.eraseIdx_cons_zero, List.map_cons, List.filter_cons]
            rw [if_neg (by simp [h4]), List.filter_eq_self.2]
            intro p hp
            obtain ⟨y, hy, rfl⟩ := List.mem_map.1 hp
            simp
            intro hyk
            refine hn.1 (List.mem_map.2 ⟨y, hy, ?_⟩)
            rw [hkl y (.tail _ hy), hyk, h3]
          | succ j =>
            rw [List.eraseIdx_cons_succ, List.map_cons, List.map_cons, List.filter_cons]
            have hj' : l[j]? = some e := by simpa using hj
            have hxk : (saysE x).1 ≠ k := by
              intro hxk
              refine hn.1 (List.mem_map.2 ⟨e, List.mem_of_getElem? hj', ?_⟩)
              rw [h3, hkl x (.head _), hxk]
            rw [if_pos (by simp [hxk]), ih j (fun y hy => hkl y (.tail _ hy)) hn.2 hj']
      exact this _ j hk hn h2
theorem MapAt.len (h : MapAt w b vs) {t kt e : TypeId} (ht : P.underlying t = some (.map kt e)) (ty : TypeId) : (Builtin.len_ #[t] ty #[.map (some b)]).run P w = .ok (.int .i64 vs.length) w := by
  obtain ⟨es, clock, hb, hst, hk, rfl⟩ := h
  simp [Builtin.len_, run_underlying ht, MapKept.run_getObj_map hb, Result.andThen, goInt]
/-- 'range' over a map under way: these have come -/
def RangeAt (w : World) (b r : Nat) (vs done : List (List UInt8 × Value)) : Prop :=
  ∃ (es : Array MapEntry) (clock since : Nat) (seen : Array Nat) (c0 : Nat) (ds : List MapEntry), w.heap[b]? = some (.map es clock) ∧ Stamped es clock ∧ (∀ e ∈ es.toList, e.key = encK (saysE e).1) ∧ es.toList.map saysE = vs ∧
    w.heap[r]? = some (.mapIter (some b) since seen c0) ∧ (∀ x ∈ es.toList, x.born < since) ∧ since ≤ c0 ∧ since ≤ clock ∧
    (∀ x ∈ ds, x ∈ es.toList) ∧ ds.map (·.born) = seen.toList ∧ ds.Nodup ∧ ds.map saysE = done
theorem RangeAt.mapAt {r : Nat} {done : List (List UInt8 × Value)} (h : RangeAt w b r vs done) : MapAt w b vs := by
  obtain ⟨es, clock, since, seen, c0, ds, hb, hst, hk, hv, _⟩ := h
  exact ⟨es, clock, hb, hst, hk, hv⟩
theorem RangeAt.lt {r : Nat} {done : List (List UInt8 × Value)} (h : RangeAt w b r vs done) : r < w.heap.size := by
  obtain ⟨es, clock, since, seen, c0, ds, hb, hst, hk, hv, hr, _⟩ := h
  exact (Array.getElem?_eq_some_iff.1 hr).1
theorem RangeAt.ne {r : Nat} {done : List (List UInt8 × Value)} (h : RangeAt w b r vs done) : r ≠ b := by
  obtain ⟨es, clock, since, seen, c0, ds, hb, hst, hk, hv, hr, _⟩ := h
  intro e; rw [e, hb] at hr; cases hr
theorem RangeAt.move {w' : World} {r : Nat} {done : List (List UInt8 × Value)} (h : RangeAt w b r vs done) (hb : w'.heap[b]? = w.heap[b]?) (hr : w'.heap[r]? = w.heap[r]?) : RangeAt w' b r vs done := by
  obtain ⟨es, clock, since, seen, c0, ds, h1, h2, h3, h4, h5, h6⟩ := h
  exact ⟨es, clock, since, seen, c0, ds, hb.trans h1, h2, h3, h4, hr.trans h5, h6⟩
theorem perm_of_inj : ∀ {l m : List MapEntry}, l.Nodup → m.Nodup → (∀ x ∈ l, x ∈ m) → l.length ≤ m.length ∧ (l.length = m.length → l.Perm m) := by
  intro l
  induction l with
  | nil => intro m _ _ _; exact ⟨by simp, fun h => by cases m with | nil => exact List.Perm.refl _ | cons => simp at h⟩
  | cons a l ih =>
    intro m hl hm hs
    rw [List.nodup_cons] at hl
    obtain ⟨m1, m2, rfl⟩ := List.append_of_mem (hs a (.head _))
    have hp : (m1 ++ a :: m2).Perm (a :: (m1 ++ m2)) := List.perm_middle
    have hn := (hp.nodup_iff).1 hm
    rw [List.nodup_cons] at hn
    have := ih (m := m1 ++ m2) hl.2 hn.2 (fun x hx => by
      have h1 := hp.mem_iff.1 (hs x (.tail _ hx))
      rcases List.mem_cons.1 h1 with rfl | h1
      · exact absurd hx hl.1
      · exact h1)
    refine ⟨by simp at this ⊢; omega, fun h => ?_⟩
    exact ((this.2 (by simp at h ⊢; omega)).cons a).trans hp.symm
theorem born_nodup {es : Array MapEntry} {clock : Nat} (h : Stamped es clock) : es.toList.Nodup := by
  have := h.2.1
  exact List.Pairwise.of_map (S := (· ≠ ·)) (·.born) (fun a b hab e => hab (by rw [e])) this
theorem RangeAt.size {r : Nat} {done : List (List UInt8 × Value)} (h : RangeAt w b r vs done) : done.length ≤ vs.length := by
  obtain ⟨es, clock, since, seen, c0, ds, h1, h2, h3, h4, h5, h6, h7, h8, h9, h10, h11, h12⟩ := h
  rw [← h4, ← h12, List.length_map, List.length_map]
  exact (perm_of_inj h11 (born_nodup h2) h9).1
theorem MapAt.range (h : MapAt w b vs) {t kt e : TypeId} (ht : P.underlying t = some (.map kt e)) :
    ∃ w', (Instr.range t (.map (some b))).run P w = .ok (.pointer (some ⟨w.heap.size, 0, none⟩)) w' ∧ RangeAt w' b w.heap.size vs [] ∧ (∀ S, Mod S w w') := by
  have hlt := h.lt
  obtain ⟨es, clock, hb, hst, hk, hv⟩ := h
  exact ⟨_, run_range_map w t kt e b es clock ht hb, ⟨es, clock, clock, #[], clock, [], ((MapKept.heap_alloc w _).2 b hlt).trans hb, hst, hk, hv, (MapKept.heap_alloc w _).1, hst.1, Nat.le_refl _, Nat.le_refl _, by simp, by simp, by simp, by simp⟩, fun S => (Mod.refl S w).alloc _⟩
/-- the step -/
theorem RangeAt.next {r : Nat} {done : List (List UInt8 × Value)} (h : RangeAt w b r vs done) (ty : TypeId) :
    (done.Perm vs ∧ (Instr.next (.pointer (some ⟨r, 0, none⟩)) false ty).run P w = .ok (.tuple #[.bool false]) w) ∨
    ∃ k v w', (k, v) ∈ vs ∧ (∀ p ∈ done, p.1 ≠ k) ∧ (Instr.next (.pointer (some ⟨r, 0, none⟩)) false ty).run P w = .ok (.tuple #[.bool true, encK k, v]) w' ∧ RangeAt w' b r vs (done ++ [(k, v)]) ∧ Mod (fun j => j = r) w w' ∧ w'.heap.size = w.heap.size ∧
      (Instr.entry (.pointer (some ⟨r, 0, none⟩))).run P w' = .ok (.tuple #[encK k, v]) w' := by
  have hne := h.ne
  obtain ⟨es, clock, since, seen, c0, ds, h1, h2, h3, h4, h5, h6, h7, h8, h9, h10, h11, h12⟩ := h
  rcases run_next_at (P := P) w ty r b since c0 seen es clock h5 h1 h6 h7 with ⟨h0, hrun⟩ | ⟨e, he, w1, hal, hrun⟩
  · refine .inl ⟨?_, hrun⟩
    have hall : ∀ x ∈ es.toList, x ∈ ds := by
      intro x hx
      have := all_seen es seen h0 x hx
      rw [Array.contains_iff_mem, ← Array.mem_toList_iff, ← h10] at this
      obtain ⟨y, hy, e⟩ := List.mem_map.1 this
      rw [← born_inj ((stamped_iff es clock).1 h2).2.1 (h9 y hy) hx e]; exact hy
    have ha := perm_of_inj h11 (born_nodup h2) h9
    have hb := perm_of_inj (born_nodup h2) h11 hall
    rw [← h4, ← h12]
    exact (ha.2 (by omega)).map _
  · obtain ⟨hem, hes⟩ := mem_left he
    have hr1 : w1.heap[r]? = some (.mapIter (some b) since seen c0) := by rcases hal with rfl | rfl <;> exact h5
    have hb1 : w1.heap[b]? = some (.map es clock) := by rcases hal with rfl | rfl <;> exact h1
    have hset := MapKept.heap_set (o' := .mapIter (some b) since (seen.push e.born) clock) hr1
    have hb' : (setBlock w1 r (.mapIter (some b) since (seen.push e.born) clock)).heap[b]? = some (.map es clock) := (hset.2 b (fun e1 => hne e1.symm)).trans hb1
    have hnd : e ∉ ds := by
      intro hd
      have : e.born ∈ seen.toList := by rw [← h10]; exact List.mem_map.2 ⟨e, hd, rfl⟩
      rw [Array.mem_toList_iff, ← Array.contains_iff_mem, hes] at this
      cases this
    have hke := h3 e hem
    refine .inr ⟨(saysE e).1, (saysE e).2, setBlock w1 r (.mapIter (some b) since (seen.push e.born) clock), ?_, ?_, ?_, ⟨es, clock, since, seen.push e.born, clock, ds ++ [e], hb', h2, h3, h4, hset.1, h6, h8, h8, ?_, ?_, ?_, ?_⟩, ?_, ?_, ?_⟩
    · rw [← h4]; exact List.mem_map.2 ⟨e, hem, rfl⟩
    · rw [← h12]
      intro p hp hpe
      obtain ⟨x, hx, rfl⟩ := List.mem_map.1 hp
      have hxk : x.key = e.key := by rw [h3 x (h9 x hx), hke, hpe]
      exact hnd (entry_eq_of_key ((stamped_iff es clock).1 h2).2.2 (h9 x hx) hem hxk ▸ hx)
    · rw [hrun, ← hke]; rfl
    · intro x hx
      rcases List.mem_append.1 hx with hx | hx
      · exact h9 x hx
      · rw [List.mem_singleton.1 hx]; exact hem
    · simp [h10]
    · rw [List.nodup_append]
      refine ⟨h11, by simp, ?_⟩
      intro x hx y hy e1
      rw [List.mem_singleton.1 hy] at e1
      exact hnd (e1 ▸ hx)
    · simp [h12]
    · rcases hal with rfl | rfl <;> exact ⟨rfl, rfl, rfl, by simp [setBlock], fun i _ hi => hset.2 i hi⟩
    · rcases hal with rfl | rfl <;> simp [setBlock]
    · rw [← hke]
      exact run_entry_at _ r b since seen es clock e hset.1 hb' hem h2.2.1
end
section
variable {P : Program} {ops : Array Oper} {rest : List Oper} {o : Oper} {a : Act} {Q : Exit → Act → World → Prop} {w : World} {b : Nat} {vs : List (List UInt8 × Value)}
theorem wpList_len_str (hg : o.guard = none) (m : Operand) (t : TypeId) (hop : o.op = Op.call { callee := Callee.builtin Builtin.len, args := #[m], argTypes := #[t] }) {kt e : TypeId} (ht : P.underlying t = some (.map kt e))
    (hm : a.eval m = .map (some b)) (h : MapAt w b vs) (hK : wpList P ops Q rest (a.put o.dst (.int .i64 vs.length)) w) : wpList P ops Q (o :: rest) a w := by
  refine wpList_plain hg fun K' hK' => ?_
  have hrun := h.len (P := P) ht o.type
  unfold Oper.wp
  simp [execOp, hop, resolve, invoke, builtin, hm, hrun, Result.andThen]
  exact hK' _ _ hK
end
end Go.Proofs.YtefedalnafjcfaaGreatDoor

namespace Go.Proofs.YtefedalnafjcfaaGreatDoor
open Go.RowKit
set_option linter.unusedVariables false
structure ValidT (L : Tab) : Prop where
  asc : AscT L
  path : ∀ p o, getT L p = some o → rightP p = true
  right : ∀ p o, getT L p = some o → RightOb o
  root : ∃ o, getT L [] = some o ∧ o.kind = 1 ∧ usesO o ≤ 1048576
  kid : ∀ p o, getT L p = some o → ∀ k ∈ o.kids, p.length < 6 ∧ ∃ y, getT L (p ++ [k.n]) = some y ∧ y.kind = k.kind ∧ usesO y ≤ k.quota ∧ FlowsL o.label y.label
  up : ∀ p n o, getT L (p ++ [n]) = some o → ∃ c, getT L p = some c ∧ ∃ k ∈ c.kids, k.n = n
def kidOf (c : Ob) (n : Int) : Option Kid := c.kids.find? fun k => k.n == n
theorem kidOf_some {c : Ob} {n : Int} {k : Kid} (h : kidOf c n = some k) : k ∈ c.kids ∧ k.n = n := by
  unfold kidOf at h
  exact ⟨List.mem_of_find?_eq_some h, by simpa using List.find?_some h⟩
theorem kidOf_mem {c : Ob} {k : Kid} (ha : (c.kids.map (·.n)).Pairwise (· < ·)) (h : k ∈ c.kids) : kidOf c k.n = some k := by
  unfold kidOf
  generalize c.kids = l at ha h
  induction l with
  | nil => cases h
  | cons x l ih =>
    rw [List.map_cons, List.pairwise_cons] at ha
    rw [List.find?_cons]
    rcases List.mem_cons.1 h with rfl | hm
    · simp
    · have : (x.n == k.n) = false := by
        have := ha.1 k.n (List.mem_map.2 ⟨k, hm, rfl⟩)
        simp; omega
      rw [this]; exact ih ha.2 hm
def lastP (p : List Int) : Int := p.getLastD 0
theorem snoc_of {p : List Int} (h : p ≠ []) : p = p.dropLast ++ [lastP p] := by
  rw [lastP, List.getLastD_eq_getLast?, List.getLast?_eq_some_getLast h]
  exact (List.dropLast_concat_getLast h).symm
theorem lastP_snoc (p : List Int) (n : Int) : lastP (p ++ [n]) = n := by simp [lastP]
def quotaT (L : Tab) (p : List Int) : Int := match getT L p with
  | none => -1
  | some _ => if p = [] then 1048576 else match getT L p.dropLast with
    | none => -1
    | some c => match kidOf c (lastP p) with
      | none => -1
      | some k => k.quota
theorem quotaT_none {L : Tab} {p : List Int} (h : getT L p = none) : quotaT L p = -1 := by simp [quotaT, h]
theorem quotaT_root {L : Tab} {o : Ob} (h : getT L [] = some o) : quotaT L [] = 1048576 := by simp [quotaT, h]
theorem quotaT_kid {L : Tab} (hv : ValidT L) {p : List Int} {c o : Ob} {k : Kid} (hc : getT L p = some c) (hk : k ∈ c.kids) (h : getT L (p ++ [k.n]) = some o) : quotaT L (p ++ [k.n]) = k.quota := by
  have := kidOf_mem (hv.right _ _ hc).kids.asc hk
  simp [quotaT, h, hc, lastP_snoc, this]
/-- what an object may use, and does -/
theorem uses_le_quota {L : Tab} (hv : ValidT L) {p : List Int} {o : Ob} (h : getT L p = some o) : usesO o ≤ quotaT L p ∧ 0 ≤ quotaT L p ∧ quotaT L p ≤ 1048576 := by
  by_cases hp : p = []
  · subst hp
    obtain ⟨r, hr, -, hu⟩ := hv.root
    rw [h] at hr; cases hr
    rw [quotaT_root h]; exact ⟨hu, by omega, by omega⟩
  · have hs := snoc_of hp
    rw [hs] at h ⊢
    obtain ⟨c, hc, k, hk, hn⟩ := hv.up _ _ _ h
    rw [← hn] at h ⊢
    obtain ⟨-, y, hy, -, hu, -⟩ := hv.kid _ _ hc k hk
    rw [h] at hy; cases hy
    rw [quotaT_kid hv hc hk h]
    have := (hv.right _ _ hc).kids.each k hk
    exact ⟨hu, this.2.2.2.2.1, this.2.2.2.2.2⟩
def labT (L : Tab) (p : List Int) : List Entry := match getT L p with
  | none => []
  | some o => o.label
noncomputable def fitsT (L : Tab) (p : List Int) (o : Ob) : Bool :=
  (decide (p = []) || flowsLB (labT L p.dropLast) o.label) && o.kids.all fun k => flowsLB o.label (labT L (p ++ [k.n]))
def sameKids (a b : Ob) : Bool := decide (a.next = b.next) && decide (a.kids = b.kids)
noncomputable def setE (L : Tab) (p : List Int) (o : Ob) : Int := match getT L p with
  | none => 30
  | some was => if was.kind ≠ o.kind then 31 else if !(rightOb o && sameKids was o && fitsT L p o) then 2 else if quotaT L p < usesO o then 33 else 0
theorem fitsT_iff {L : Tab} {p : List Int} {o : Ob} : fitsT L p o = true ↔ (p ≠ [] → FlowsL (labT L p.dropLast) o.label) ∧ ∀ k ∈ o.kids, FlowsL o.label (labT L (p ++ [k.n])) := by
  simp only [fitsT, Bool.and_eq_true, Bool.or_eq_true, decide_eq_true_eq, flowsLB_iff, List.all_eq_true]
  constructor
  · rintro ⟨h1, h2⟩; exact ⟨fun h => h1.resolve_left h, h2⟩
  · rintro ⟨h1, h2⟩
    refine ⟨?_, h2⟩
    by_cases h : p = []
    · exact .inl h
    · exact .inr (h1 h)
theorem snoc_ne (p : List Int) (n : Int) : p ++ [n] ≠ p := by
  intro h; have := congrArg List.length h; simp at this
def newT : Tab := [([], { zeroOb with kind := 1 })]
theorem rightL_nil : RightL [] := ⟨by simp, by simp, List.Pairwise.nil⟩
theorem rightO_nil : RightO [] := ⟨by simp, by simp, List.Pairwise.nil⟩
theorem valid_new : ValidT newT := by
  have hg : ∀ p o, getT newT p = some o → p = [] ∧ o = { zeroOb with kind := 1 } := by
    intro p o h
    have := getT_mem h
    simp [newT] at this
    exact this
  refine ⟨List.pairwise_singleton _ _, ?_, ?_, ⟨_, rfl, rfl, by decide⟩, ?_, ?_⟩
  · intro p o h; rw [(hg p o h).1]; rfl
  · intro p o h
    rw [(hg p o h).2]
    exact ⟨by decide, rightL_nil, ⟨by simp [zeroOb], by simp [zeroOb], List.Pairwise.nil, by decide⟩, by simp [zeroOb], rightO_nil, by decide, rightL_nil, by decide, ⟨by simp [zeroOb], by simp [zeroOb], List.Pairwise.nil⟩, by decide⟩
  · intro p o h k hk
    rw [(hg p o h).2] at hk
    simp [zeroOb] at hk
  · intro p n o h
    have := (hg _ o h).1
    simp at this
end Go.Proofs.YtefedalnafjcfaaGreatDoor

namespace Go.Proofs.YtefedalnafjcfaaGreatDoor
open Go.RowKit
set_option linter.unusedVariables false
def inQ (q : Int) : Bool := decide (0 ≤ q) && decide (q ≤ 1048576)
noncomputable def addE (L : Tab) (at_ : List Int) (o : Ob) (q : Int) : Int := match getT L at_ with
  | none => 30
  | some c => if c.kind ≠ 1 then 31 else if !(rightOb o && decide (o.kids = []) && decide (o.next = 0) && inQ q) then 2 else if !flowsLB c.label o.label then 21 else if at_.length = 6 then 30
      else if c.kids.length = 16 then 34 else if 1048576 < c.next then 35 else if q < usesO o ∨ quotaT L at_ < usesO c + q then 33 else 0
def withKid (c : Ob) (k : Kid) : Ob := { c with kids := c.kids ++ [k], next := c.next + 1 }
noncomputable def addT (L : Tab) (at_ : List Int) (o : Ob) (q : Int) : Tab := match getT L at_ with
  | none => L
  | some c => if addE L at_ o q = 0 then layT (layT L at_ (withKid c ⟨c.next, o.kind, q⟩)) (at_ ++ [c.next]) o else L
noncomputable def addN (L : Tab) (at_ : List Int) (o : Ob) (q : Int) : Int := match getT L at_ with
  | none => -1
  | some c => if addE L at_ o q = 0 then c.next else -1
theorem addE_zero {L : Tab} {at_ : List Int} {o : Ob} {q : Int} (h : addE L at_ o q = 0) : ∃ c, getT L at_ = some c ∧ c.kind = 1 ∧ RightOb o ∧ o.kids = [] ∧ o.next = 0 ∧ 0 ≤ q ∧ q ≤ 1048576 ∧ FlowsL c.label o.label ∧ at_.length ≠ 6 ∧ c.kids.length ≠ 16 ∧ c.next ≤ 1048576 ∧ usesO o ≤ q ∧ usesO c + q ≤ quotaT L at_ := by
  unfold addE at h
  cases hg : getT L at_ with
  | none => rw [hg] at h; cases h
  | some c =>
    rw [hg] at h
    dsimp only at h
    split at h; · cases h
    next h1 =>
    split at h; · cases h
    next h2 =>
    split at h; · cases h
    next h3 =>
    split at h; · cases h
    next h4 =>
    split at h; · cases h
    next h5 =>
    split at h; · cases h
    next h6 =>
    split at h; · cases h
    next h7 =>
    simp only [Bool.not_eq_true, Bool.not_eq_false', Bool.and_eq_true, decide_eq_true_eq, inQ] at h2
    exact ⟨c, rfl, by simpa using h1, rightOb_iff.1 h2.1.1.1, h2.1.1.2, h2.1.2, h2.2.1, h2.2.2, flowsLB_iff.1 (by simpa using h3), h4, h5, by omega, by omega, by omega⟩
theorem uses_withKid (c : Ob) (k : Kid) : usesO (withKid c k) = usesO c + k.quota := by
  simp [usesO, withKid]; omega
theorem fresh_kid {L : Tab} (hv : ValidT L) {p : List Int} {c : Ob} (hc : getT L p = some c) : getT L (p ++ [c.next]) = none := by
  cases h : getT L (p ++ [c.next]) with
  | none => rfl
  | some o =>
    obtain ⟨c', hc', k, hk, hn⟩ := hv.up _ _ _ h
    rw [hc] at hc'; cases hc'
    have := (hv.right _ _ hc).kids.each k hk
    omega
theorem kidsOk_with {c : Ob} (h : KidsOk c) (hl : c.kids.length ≠ 16) (hn : c.next ≤ 1048576) {kd q : Int} (hk : 1 ≤ kd ∧ kd ≤ 5) (hq : 0 ≤ q ∧ q ≤ 1048576) : KidsOk (withKid c ⟨c.next, kd, q⟩) := by
  have hnx := h.next
  refine ⟨by have := h.len; simp [withKid]; omega, ?_, ?_, by simp only [withKid]; omega⟩
  · intro k hkm
    simp only [withKid, List.mem_append, List.mem_singleton] at hkm ⊢
    rcases hkm with hkm | rfl
    · have := h.each k hkm; omega
    · exact ⟨hnx.1, by simp only []; omega, hk.1, hk.2, hq.1, hq.2⟩
  · simp only [withKid, List.map_append, List.map_cons, List.map_nil]
    refine List.pairwise_append.2 ⟨h.asc, List.pairwise_singleton _ _, ?_⟩
    intro a ha b hb
    obtain ⟨k, hkm, rfl⟩ := List.mem_map.1 ha
    rw [List.mem_singleton.1 hb]
    exact (h.each k hkm).2.1
theorem foreign_kind1 {c c' : Ob} (h : foreignB c = false) (hk : c.kind = 1) (h' : c' = { c with kids := c'.kids, next := c'.next }) : foreignB c' = false := by
  rw [h']
  simp only [foreignB, hk] at h ⊢
  simpa using h
theorem flowsL_refl {l : List Entry} (h : RightL l) : FlowsL l l := ⟨h, h, fun _ => Int.le_refl _⟩
/-- a kid is added to a container: the table between is no right one, the last one is -/
theorem valid_add {L : Tab} (hv : ValidT L) (at_ : List Int) (o : Ob) (q : Int) : ValidT (addT L at_ o q) := by
  unfold addT
  cases hg : getT L at_ with
  | none => exact hv
  | some c =>
    dsimp only
    split
    case isFalse => exact hv
    case isTrue hz =>
    obtain ⟨c', hc', h1, h2, h3, h4, h5, h6, h7, h8, h9, h10, h11, h12⟩ := addE_zero hz
    rw [hg] at hc'; cases hc'
    have hro := hv.right _ _ hg
    have hfresh := fresh_kid hv hg
    have hasc1 := (layT_mem hv.asc at_ (withKid c ⟨c.next, o.kind, q⟩)).1
    have hget : ∀ p, getT (layT (layT L at_ (withKid c ⟨c.next, o.kind, q⟩)) (at_ ++ [c.next]) o) p = if p = at_ ++ [c.next] then some o else if p = at_ then some (withKid c ⟨c.next, o.kind, q⟩) else getT L p := fun p => by
      rw [layT_get hasc1, layT_get hv.asc]
    have hks : KidsOk (withKid c ⟨c.next, o.kind, q⟩) := kidsOk_with hro.kids h9 h10 h2.kind ⟨h5, h6⟩
    have hpl : at_.length ≤ 6 ∧ ∀ k ∈ at_, 0 ≤ k ∧ k ≤ 1048576 := rightP_iff.1 (hv.path _ _ hg)
    have hnx := hro.kids.next
    refine ⟨(layT_mem hasc1 _ _).1, ?_, ?_, ?_, ?_, ?_⟩
    · intro p x h
      rw [hget] at h
      split at h
      · next e =>
        rw [e, rightP_iff]
        refine ⟨by simp; omega, fun k hk => ?_⟩
        rcases List.mem_append.1 hk with hk | hk
        · exact hpl.2 k hk
        · rw [List.mem_singleton.1 hk]; omega
      · split at h
        · next e => rw [e]; exact hv.path _ _ hg
        · exact hv.path _ _ h
    · intro p x h
      rw [hget] at h
      split at h
      · cases h; exact h2
      · split at h
        · cases h
          exact ⟨hro.kind, hro.label, hks, hro.bytes, hro.own, hro.cats, hro.entry, hro.ring, hro.maps, foreign_kind1 hro.foreign h1 rfl⟩
        · exact hv.right _ _ h
    · obtain ⟨r, hr1, hr2, hr3⟩ := hv.root
      rw [hget, if_neg (by simp)]
      split
      · next e =>
        refine ⟨_, rfl, h1, ?_⟩
        rw [uses_withKid]
        rw [← e] at h12 hg
        rw [quotaT_root hg] at h12
        exact h12
      · exact ⟨r, hr1, hr2, hr3⟩
    · intro p x h k hk
      rw [hget] at h
      split at h
      · cases h; rw [h3] at hk; cases hk
      · next hp1 =>
        split at h
        · next hp2 =>
          cases h
          subst hp2
          simp only [withKid, List.mem_append, List.mem_singleton] at hk
          rcases hk with hk | rfl
          · obtain ⟨a1, y, a2, a3, a4, a5⟩ := hv.kid _ _ hg k hk
            refine ⟨a1, y, ?_, a3, a4, a5⟩
            rw [hget, if_neg (fun e => by rw [e] at a2; rw [hfresh] at a2; cases a2), if_neg (snoc_ne _ _)]
            exact a2
          · refine ⟨by omega, o, by rw [hget, if_pos rfl], rfl, h11, h7⟩
        · next hp2 =>
          obtain ⟨a1, y, a2, a3, a4, a5⟩ := hv.kid _ _ h k hk
          refine ⟨a1, ?_⟩
          rw [hget, if_neg (fun e => by rw [e] at a2; rw [hfresh] at a2; cases a2)]
          split
          · next e =>
            rw [e, hg] at a2; cases a2
            refine ⟨_, rfl, a3, ?_, a5⟩
            rw [uses_withKid]
            rw [← e] at hg h12
            rw [quotaT_kid hv h hk hg] at h12
            exact h12
          · exact ⟨y, a2, a3, a4, a5⟩
    · intro p n x h
      rw [hget] at h
      split at h
      · next e =>
        obtain ⟨rfl, hn⟩ := List.append_inj' e rfl
        have hn : n = c.next := by simpa using hn
        refine ⟨withKid c ⟨c.next, o.kind, q⟩, ?_, ⟨c.next, o.kind, q⟩, by simp [withKid], hn.symm⟩
        rw [hget, if_neg (fun e => snoc_ne _ _ e.symm), if_pos rfl]
      · have hx : ∃ x', getT L (p ++ [n]) = some x' := by
          split at h
          · next e => rw [e]; exact ⟨_, hg⟩
          · exact ⟨_, h⟩
        obtain ⟨x', hx'⟩ := hx
        obtain ⟨c2, b1, k, b2, b3⟩ := hv.up _ _ _ hx'
        rw [hget, if_neg (fun e => by rw [e, hfresh] at b1; cases b1)]
        split
        · next e =>
          rw [e, hg] at b1; cases b1
          exact ⟨_, rfl, k, by simp [withKid, b2], b3⟩
        · exact ⟨c2, b1, k, b2, b3⟩
/-- another quota -/
def setQ (c : Ob) (n q : Int) : Ob := { c with kids := c.kids.map fun k => if k.n = n then { k with quota := q } else k }
noncomputable def allotE (L : Tab) (p : List Int) (q : Int) : Int := match getT L p with
  | none => 30
  | some o => if p = [] ∨ inQ q = false then 2 else match getT L p.dropLast with
    | none => 30
    | some c => if q < usesO o ∨ quotaT L p.dropLast < usesO (setQ c (lastP p) q) then 33 else 0
noncomputable def allotT (L : Tab) (p : List Int) (q : Int) : Tab := match getT L p.dropLast with
  | none => L
  | some c => if allotE L p q = 0 then layT L p.dropLast (setQ c (lastP p) q) else L
theorem setQ_mem {c : Ob} {n q : Int} {k : Kid} : k ∈ (setQ c n q).kids ↔ ∃ k0 ∈ c.kids, k = if k0.n = n then { k0 with quota := q } else k0 := by
  simp only [setQ, List.mem_map]
  constructor
  · rintro ⟨a, h1, h2⟩; exact ⟨a, h1, h2.symm⟩
  · rintro ⟨a, h1, h2⟩; exact ⟨a, h1, h2.symm⟩
theorem setQ_ns (c : Ob) (n q : Int) : (setQ c n q).kids.map (·.n) = c.kids.map (·.n) := by
  simp only [setQ, List.map_map]
  apply List.map_congr_left
  intro k _
  simp only [Function.comp]
  split <;> rfl
theorem valid_allot {L : Tab} (hv : ValidT L) (p : List Int) (q : Int) : ValidT (allotT L p q) := by
  unfold allotT
  cases hc : getT L p.dropLast with
  | none => exact hv
  | some c =>
    dsimp only
    split
    case isFalse => exact hv
    case isTrue hz =>
    unfold allotE at hz
    cases ho : getT L p with
    | none => rw [ho] at hz; cases hz
    | some o =>
      rw [ho] at hz
      dsimp only at hz
      split at hz; · cases hz
      next h1 =>
      rw [hc] at hz
      dsimp only at hz
      split at hz; · cases hz
      next h2 =>
      have hp : p ≠ [] := fun e => h1 (.inl e)
      have hq : 0 ≤ q ∧ q ≤ 1048576 := by
        have : inQ q = true := by cases hh : inQ q <;> simp_all
        simpa [inQ] using this
      have hs := snoc_of hp
      obtain ⟨u, hu⟩ : ∃ u, u = p.dropLast := ⟨_, rfl⟩
      obtain ⟨n, hn⟩ : ∃ n, n = lastP p := ⟨_, rfl⟩
      rw [← hu, ← hn] at hs h2
      rw [← hu] at hc
      rw [← hu, ← hn]
      rw [hs] at ho
      clear hu hn hp h1 hs
      have hro := hv.right _ _ hc
      have hget := layT_get hv.asc u (setQ c n q)
      have hkok : KidsOk (setQ c n q) := by
        refine ⟨by simp [setQ]; exact hro.kids.len, ?_, by rw [setQ_ns]; exact hro.kids.asc, hro.kids.next⟩
        intro k hk
        obtain ⟨k0, hk0, rfl⟩ := setQ_mem.1 hk
        have := hro.kids.each k0 hk0
        split
        · exact ⟨this.1, this.2.1, this.2.2.1, this.2.2.2.1, hq.1, hq.2⟩
        · exact this
      have hkind : c.kind = 1 := by
        obtain ⟨c', hc', k, hk, -⟩ := hv.up _ _ _ ho
        rw [hc] at hc'; cases hc'
        have := hro.foreign
        simp only [foreignB, Bool.or_eq_false_iff, Bool.and_eq_false_iff, decide_eq_false_iff_not] at this
        have h5 := this.1.1.1.1.1
        rcases h5 with h5 | h5
        · exact Decidable.not_not.1 h5
        · have : c.kids ≠ [] := by rintro e; rw [e] at hk; cases hk
          exact absurd (List.length_pos_iff.2 this) h5.1
      refine ⟨(layT_mem hv.asc u _).1, ?_, ?_, ?_, ?_, ?_⟩
      · intro r x h
        rw [hget] at h
        split at h
        · next e => rw [e]; exact hv.path _ _ hc
        · exact hv.path _ _ h
      · intro r x h
        rw [hget] at h
        split at h
        · cases h
          exact ⟨hro.kind, hro.label, hkok, hro.bytes, hro.own, hro.cats, hro.entry, hro.ring, hro.maps, foreign_kind1 hro.foreign hkind rfl⟩
        · exact hv.right _ _ h
      · obtain ⟨r, hr1, hr2, hr3⟩ := hv.root
        rw [hget]
        split
        · next e =>
          rw [← e] at hc h2
          rw [quotaT_root hc] at h2
          exact ⟨_, rfl, hkind, by omega⟩
        · exact ⟨r, hr1, hr2, hr3⟩
      · intro r x h k hk
        rw [hget] at h
        split at h
        · next e =>
          cases h
          subst e
          obtain ⟨k0, hk0, rfl⟩ := setQ_mem.1 hk
          obtain ⟨a1, y, a2, a3, a4, a5⟩ := hv.kid _ _ hc k0 hk0
          refine ⟨a1, y, ?_, ?_, ?_, a5⟩
          · have : (if k0.n = n then { k0 with quota := q } else k0).n = k0.n := by split <;> rfl
            rw [this, hget, if_neg (snoc_ne _ _)]; exact a2
          · rw [a3]; split <;> rfl
          · split
            · next e =>
              rw [e, ho] at a2; cases a2
              show usesO o ≤ q
              omega
            · exact a4
        · next hne =>
          obtain ⟨a1, y, a2, a3, a4, a5⟩ := hv.kid _ _ h k hk
          refine ⟨a1, ?_⟩
          rw [hget]
          split
          · next e =>
            rw [e, hc] at a2; cases a2
            refine ⟨_, rfl, a3, ?_, a5⟩
            rw [← e] at hc h2
            rw [quotaT_kid hv h hk hc] at h2
            omega
          · exact ⟨y, a2, a3, a4, a5⟩
      · intro r m x h
        rw [hget] at h
        have hx : ∃ x', getT L (r ++ [m]) = some x' := by
          split at h
          · next e => rw [e]; exact ⟨_, hc⟩
          · exact ⟨_, h⟩
        obtain ⟨x', hx'⟩ := hx
        obtain ⟨c2, b1, k, b2, b3⟩ := hv.up _ _ _ hx'
        rw [hget]
        split
        · next e =>
          rw [e, hc] at b1; cases b1
          refine ⟨_, rfl, _, setQ_mem.2 ⟨k, b2, rfl⟩, ?_⟩
          rw [← b3]; split <;> rfl
        · exact ⟨c2, b1, k, b2, b3⟩
end Go.Proofs.YtefedalnafjcfaaGreatDoor

