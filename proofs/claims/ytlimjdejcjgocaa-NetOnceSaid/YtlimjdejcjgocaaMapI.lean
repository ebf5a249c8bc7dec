/- Maps whose keys are integers, read as lists of keys and values; the laws at the operations. -/
import Derived.Test.YtlimjdejcjgocaaMapS
namespace Go.Proofs.Ytlimjdejcjgocaa
open Go.RowKit Go.MapKept
open Go.ChangeMaps (setBlock)
set_option linter.unusedVariables false
def encI (k : Int) : Value := .int .i64 k
theorem encI_inj {a b : Int} (h : encI a = encI b) : a = b := by
  simp [encI] at h; exact h
/-- what an entry says -/
def saysI (e : MapEntry) : Int × Value := (match e.key with | .int _ n => n | _ => 0, e.val)
/-- block b is a map with these entries -/
def MapAtI (w : World) (b : Nat) (vs : List (Int × Value)) : Prop :=
  ∃ es clock, w.heap[b]? = some (.map es clock) ∧ Stamped es clock ∧ (∀ e ∈ es.toList, e.key = encI (saysI e).1) ∧ es.toList.map saysI = vs
theorem MapAtI.lt {w : World} {b : Nat} {vs : List (Int × Value)} (h : MapAtI w b vs) : b < w.heap.size := by
  obtain ⟨es, clock, hb, _⟩ := h
  exact (Array.getElem?_eq_some_iff.1 hb).1
theorem MapAtI.move {w w' : World} {b : Nat} {vs : List (Int × Value)} (h : MapAtI w b vs) (hb : w'.heap[b]? = w.heap[b]?) : MapAtI w' b vs := by
  obtain ⟨es, clock, h0, h1⟩ := h
  exact ⟨es, clock, hb.trans h0, h1⟩
theorem MapAtI.made (w : World) : MapAtI (w.alloc (.map #[] 0)) w.heap.size [] :=
  ⟨#[], 0, (MapKept.heap_alloc w _).1, stamped_empty 0, by simp, by simp⟩
theorem MapAtI.nodup {w : World} {b : Nat} {vs : List (Int × Value)} (h : MapAtI w b vs) : (vs.map (·.1)).Nodup := by
  obtain ⟨es, clock, _, hst, hk, rfl⟩ := h
  rw [List.map_map]
  refine nodup_map_of hst.2.2 fun x hx y hy e => ?_
  rw [hk x hx, hk y hy]
  exact congrArg encI e
theorem isKey_encI (k : Int) : IsKey (.int .i64) (encI k) := rfl
theorem keys_areI {es : Array MapEntry} (hk : ∀ e ∈ es.toList, e.key = encI (saysI e).1) : ∀ x ∈ es.toList, IsKey (.int .i64) x.key := fun x hx => by
  rw [hk x hx]; exact isKey_encI _
/-- what is found -/
theorem find_saysI {es : Array MapEntry} (hk : ∀ e ∈ es.toList, e.key = encI (saysI e).1) (k : Int) :
    (Instr.findNow (.int .i64) (encI k) es.toList 0 = some none ∧ (es.toList.map saysI).lookup k = none ∧ (∀ x ∈ es.toList, x.key ≠ encI k) ∧ (∀ p ∈ es.toList.map saysI, p.1 ≠ k)) ∨
    ∃ j e, Instr.findNow (.int .i64) (encI k) es.toList 0 = some (some (j, e.val)) ∧ es.toList[j]? = some e ∧ e.key = encI k ∧ (saysI e).1 = k ∧ ((es.toList.map (·.key)).Nodup → (es.toList.map saysI).lookup k = some e.val) := by
  rcases findNow_spec (isKey_encI k) es.toList 0 (keys_areI hk) with ⟨h1, h2⟩ | ⟨j, e, h1, h2, h3⟩
  · have h4 : ∀ p ∈ es.toList.map saysI, p.1 ≠ k := by
      rintro p hp rfl
      obtain ⟨x, hx, rfl⟩ := List.mem_map.1 hp
      exact h2 x hx (hk x hx)
    refine .inl ⟨h1, ?_, h2, h4⟩
    rw [List.lookup_eq_none_iff]
    intro p hp
    have := h4 p hp
    simp; exact fun e => this e.symm
  · have hem := List.mem_of_getElem? h2
    have he : (saysI e).1 = k := encI_inj ((hk e hem).symm.trans h3)
    refine .inr ⟨j, e, by simpa using h1, h2, h3, he, fun hn => ?_⟩
    have : ∀ l : List MapEntry, (∀ x ∈ l, x.key = encI (saysI x).1) → (l.map (·.key)).Nodup → e ∈ l → (l.map saysI).lookup k = some e.val := by
      intro l
      induction l with
      | nil => intro _ _ h; cases h
      | cons x l ih =>
        intro hkl hn hm
        rw [List.map_cons, List.nodup_cons] at hn
        rw [List.map_cons]
        by_cases hx : (saysI x).1 = k
        · have hxe : x = e := by
            rcases List.mem_cons.1 hm with rfl | hm
            · rfl
            · refine absurd (List.mem_map.2 ⟨e, hm, ?_⟩) hn.1
              rw [h3, hkl x (.head _), hx]
          subst hxe
          have : saysI x = (k, x.val) := Prod.ext hx rfl
          rw [this]; simp
        · have hne : (k == (saysI x).1) = false := by simp; exact fun e => hx e.symm
          rw [List.lookup_cons, hne]
          refine ih (fun y hy => hkl y (.tail _ hy)) hn.2 ?_
          rcases List.mem_cons.1 hm with rfl | hm
          · exact absurd he hx
          · exact hm
    exact this _ hk hn hem
def updI (vs : List (Int × Value)) (k : Int) (v : Value) : List (Int × Value) :=
  if vs.any (fun p => p.1 == k) then vs.map (fun p => if p.1 = k then (k, v) else p) else vs ++ [(k, v)]
section
variable {P : Program} {w : World} {b : Nat} {vs : List (Int × Value)}
theorem MapAtI.lookup (h : MapAtI w b vs) {t kt e : TypeId} (ht : P.underlying t = some (.map kt e)) (hkt : P.underlying kt = some (.int .i64)) {z : Value} (hz : (zeroValue e).run P w = .ok z w) (k : Int) (c : Bool) :
    (Instr.lookup t (.map (some b)) (encI k) c).run P w = .ok (if c then .tuple #[(vs.lookup k).getD z, .bool (vs.lookup k).isSome] else (vs.lookup k).getD z) w := by
  obtain ⟨es, clock, hb, hst, hk, rfl⟩ := h
  rcases find_saysI hk k with ⟨h1, h2, h3, h4⟩ | ⟨j, e, h1, h2, h3, h4, h5⟩
  · simp [Instr.lookup, run_underlying ht, MapKept.run_getObj_map hb, MapKept.run_checkKey hkt (isKey_encI k), MapKept.run_findKey hkt h1, Result.andThen, hz, h2]
  · simp [Instr.lookup, run_underlying ht, MapKept.run_getObj_map hb, MapKept.run_checkKey hkt (isKey_encI k), MapKept.run_findKey hkt h1, Result.andThen, h5 hst.2.2]
theorem run_keyThatStays_encI (k : Int) : (Instr.keyThatStays (encI k) (encI k)).run P w = .ok (encI k) w := by
  have : Instr.sameBits 10000 (encI k) (encI k) = true := by
    show Instr.sameBits (9999 + 1) (encI k) (encI k) = true
    unfold encI Instr.sameBits
    simp
  simp [Instr.keyThatStays, this]
theorem MapAtI.update (h : MapAtI w b vs) {t kt e : TypeId} (ht : P.underlying t = some (.map kt e)) (hkt : P.underlying kt = some (.int .i64)) (k : Int) (v : Value) :
    ∃ w', (Instr.mapUpdate t (.map (some b)) (encI k) v).run P w = .ok () w' ∧ MapAtI w' b (updI vs k v) ∧ Mod (fun j => j = b) w w' := by
  obtain ⟨es, clock, hb, hst, hk, rfl⟩ := h
  have hmod : ∀ o, Mod (fun j => j = b) w { w with heap := w.heap.setIfInBounds b o } := fun o =>
    ⟨rfl, rfl, rfl, by simp, fun j _ hj => (MapKept.heap_set hb).2 j hj⟩
  rcases find_saysI hk k with ⟨h1, h2, h3, h4⟩ | ⟨j, e, h1, h2, h3, h4, h5⟩
  · refine ⟨_, ?_, ⟨es.push { key := encI k, val := v, born := clock }, clock + 1, (MapKept.heap_set hb).1, stamped_push hst h3, ?_, ?_⟩, hmod _⟩
    · simp [Instr.mapUpdate, run_underlying ht, MapKept.run_getObj_map hb, MapKept.run_checkKey hkt (isKey_encI k), MapKept.run_findKey hkt h1, Result.andThen, MapKept.run_setObj_map _ hb]
    · intro x hx
      simp only [Array.toList_push, List.mem_append, List.mem_singleton] at hx
      rcases hx with hx | rfl
      · exact hk x hx
      · simp [saysI, encI]
    · have hany : (es.toList.map saysI).any (fun p => p.1 == k) = false := by
        rw [List.any_eq_false]; intro p hp; have := h4 p hp; simpa using this
      unfold updI
      rw [hany]
      simp [saysI, encI]
  · have hes : es[j]? = some e := by simpa using h2
    have hmodk : ∀ x, es[j]? = some x → (({ x with key := encI k, val := v } : MapEntry)).key = x.key := by
      intro x hx; rw [hes] at hx; cases hx; exact h3.symm
    refine ⟨_, ?_, ⟨es.modify j fun e => { e with key := encI k, val := v }, clock, (MapKept.heap_set hb).1, stamped_modify hst j _ (fun _ _ => rfl) (fun x _ hx => hmodk x hx), ?_, ?_⟩, hmod _⟩
    · simp [Instr.mapUpdate, run_underlying ht, MapKept.run_getObj_map hb, MapKept.run_checkKey hkt (isKey_encI k), MapKept.run_findKey hkt h1, Result.andThen, MapKept.run_setObj_map _ hb, hes, h3, run_keyThatStays_encI]
    · intro x hx
      obtain ⟨i, hi⟩ := List.getElem?_of_mem hx
      rw [Array.getElem?_toList, Array.getElem?_modify] at hi
      by_cases hij : j = i
      · subst hij
        rw [if_pos rfl, hes] at hi
        simp at hi
        subst hi
        simp [saysI, encI]
      · rw [if_neg hij] at hi
        exact hk x (Array.mem_toList_iff.2 (Array.mem_of_getElem? hi))
    · have hany : (es.toList.map saysI).any (fun p => p.1 == k) = true := by
        rw [List.any_eq_true]; exact ⟨saysI e, List.mem_map.2 ⟨e, List.mem_of_getElem? h2, rfl⟩, by simp [h4]⟩
      unfold updI
      rw [hany, if_pos rfl]
      apply List.ext_getElem?
      intro i
      simp only [List.getElem?_map, Array.getElem?_toList, Array.getElem?_modify]
      by_cases hij : j = i
      · subst hij
        rw [if_pos rfl, hes]
        simp [saysI, encI, h3]
      · rw [if_neg hij]
        cases hx : es[i]? with
        | none => simp
        | some x =>
          have hxk : (saysI x).1 ≠ k := by
            intro hx1
            have hxm : x ∈ es.toList := Array.mem_toList_iff.2 (Array.mem_of_getElem? hx)
            have hkk : x.key = e.key := by rw [hk x hxm, hx1, h3]
            have hn := hst.2.2
            refine hij (nodup_at hn (a := e.key) ?_ ?_)
            · rw [List.getElem?_map, Array.getElem?_toList, hes]; rfl
            · rw [List.getElem?_map, Array.getElem?_toList, hx]; simp [hkk]
          simp [hxk]
end
section
variable {P : Program} {ops : Array Oper} {rest : List Oper} {o : Oper} {a : Act} {Q : Exit → Act → World → Prop} {w : World} {b : Nat} {vs : List (Int × Value)}
theorem wpList_lookup_int (hg : o.guard = none) (m x : Operand) (t : TypeId) (c : Bool) (hop : o.op = Op.lookup t m x c) {kt e : TypeId} (ht : P.underlying t = some (.map kt e)) (hkt : P.underlying kt = some (.int .i64)) (z : Value) (hz : (zeroValue e).run P w = .ok z w)
    (hm : a.eval m = .map (some b)) (k : Int) (hx : a.eval x = encI k) (h : MapAtI w b vs)
    (hK : wpList P ops Q rest (a.put o.dst (if c then .tuple #[(vs.lookup k).getD z, .bool (vs.lookup k).isSome] else (vs.lookup k).getD z)) w) : wpList P ops Q (o :: rest) a w := by
  refine wpList_plain hg fun K' hK' => ?_
  unfold Oper.wp
  simp only [execOp, hop, hm, hx, h.lookup ht hkt hz k c, Sem.run_bind, Result.andThen, Sem.run_pure]
  exact hK' _ _ hK
theorem wpList_update_int (hg : o.guard = none) (m x v : Operand) (t : TypeId) (hop : o.op = Op.mapUpdate t m x v) {kt e : TypeId} (ht : P.underlying t = some (.map kt e)) (hkt : P.underlying kt = some (.int .i64))
    (hm : a.eval m = .map (some b)) (k : Int) (hx : a.eval x = encI k) (u : Value) (hv : a.eval v = u) (h : MapAtI w b vs)
    (hK : ∀ w', MapAtI w' b (updI vs k u) → Mod (fun j => j = b) w w' → wpList P ops Q rest (a.put o.dst undef) w') : wpList P ops Q (o :: rest) a w := by
  refine wpList_plain hg fun K' hK' => ?_
  obtain ⟨w', hrun, r1, r2⟩ := h.update (P := P) ht hkt k u
  unfold Oper.wp
  simp [execOp, hop, hm, hx, hv, hrun, Result.andThen]
  exact hK' _ _ (hK w' r1 r2)
end
end Go.Proofs.Ytlimjdejcjgocaa
