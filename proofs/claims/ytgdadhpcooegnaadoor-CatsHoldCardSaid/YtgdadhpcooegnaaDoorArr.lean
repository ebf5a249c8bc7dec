/- Arrays as arguments: a kind for them, and the opening. No program in it. -/
import Derived.Test.YtgdadhpcooegnaaDoorRd
import Derived.OpenShut
namespace Go.Proofs.YtgdadhpcooegnaaDoor
open Go.RowKit
set_option linter.unusedVariables false
/-- n in line. -/
def Rd.arr {α : Type} (n : Nat) (hn : 0 < n) (R : Rd α) : Rd (List α) where
  sz := n * R.sz
  pos := Nat.mul_pos hn R.pos
  rel := fun w ok cs xs => cs.length = n * R.sz ∧ xs.length = n ∧ ∀ j x, xs[j]? = some x → R.rel w ok ((cs.drop (j * R.sz)).take R.sz) x
  len := fun h => h.1
  one := by
    intro w ok cs xs h u hu
    obtain ⟨h1, h2, h3⟩ := h
    obtain ⟨i, hi⟩ := List.getElem?_of_mem hu
    have hil := (List.getElem?_eq_some_iff.1 hi).1
    have hp := R.pos
    have hj : i / R.sz < xs.length := by rw [h2]; exact Nat.div_lt_of_lt_mul (by rw [Nat.mul_comm]; omega)
    refine R.one (h3 (i / R.sz) _ (List.getElem?_eq_getElem hj)) u ?_
    refine List.mem_of_getElem? (i := i % R.sz) ?_
    rw [List.getElem?_take, if_pos (Nat.mod_lt _ hp), List.getElem?_drop, Nat.mul_comm, Nat.div_add_mod]
    exact hi
  step := fun hs h => ⟨h.1, h.2.1, fun j x hj => R.step hs (h.2.2 j x hj)⟩
theorem opens_array {P : Program} {T e : TypeId} {n : Nat} {hn : 0 < n} {α : Type} {R : Rd α} (ht : P.underlying T = some (.array n e)) (hc : P.cellsOf e = R.sz) (hT : P.cellsOf T = n * R.sz) (hR : Opens P R e) : Opens P (Rd.arr n hn R) T := by
  intro H enc W base spare held fuel cs d h hw
  obtain ⟨xs, m, rfl, rfl, hl, hxl, hx⟩ := DataW.trod_array ht h
  have each : ∀ j y, xs[j]? = some y → ∃ x, R.rel W (fun k => k < W.heap.size) ((cs.drop (j * R.sz)).take R.sz) x := by
    intro j y hj
    have hjl := (List.getElem?_eq_some_iff.1 hj).1
    have h1 := hx j (by omega)
    rw [hj, hc] at h1
    exact hR H enc W base spare held m _ y h1 (fun k hk => hw k (by
      simp only [DataW.weights, ht]
      exact mem_weightsAll (List.mem_map.2 ⟨y, List.mem_of_getElem? hj, rfl⟩) k hk))
  obtain ⟨ys, hyl, hy⟩ := list_of (fun j _ x => R.rel W (fun k => k < W.heap.size) ((cs.drop (j * R.sz)).take R.sz) x) xs each
  refine ⟨ys, by rw [hl, hT], by omega, fun j x hj => ?_⟩
  have hjl := (List.getElem?_eq_some_iff.1 hj).1
  exact hy j _ x (List.getElem?_eq_getElem (by omega)) hj
theorem okWide_array {P : Program} {w : World} {r : Reach} {base n : Nat} {e t : TypeId} {v : Value} (ht : P.underlying t = some (.array n e)) (h : Value.okWide P w r base t v) : ∃ cs, v = .agg cs := by
  simp only [Value.okWide, ht] at h
  obtain ⟨cs, h1, h2, _⟩ := h
  exact ⟨cs, h1⟩
theorem arr_ints {k : IntKind} {n : Nat} {hn : 0 < n} {w : World} {ok : Nat → Prop} {cs : List Value} {xs : List Int} (h : (Rd.arr n hn (Rd.int k)).rel w ok cs xs) : cs = xs.map (fun x => .int k x) ∧ xs.length = n ∧ ∀ x ∈ xs, Rd.inR k x := by
  obtain ⟨h1, h2, h3⟩ := h
  have hl : cs.length = n := by rw [h1]; exact Nat.mul_one n
  have key : ∀ (j : Nat) (x : Int), xs[j]? = some x → cs[j]? = some (.int k x) ∧ Rd.inR k x := by
    intro j x hx
    obtain ⟨h4, h5⟩ := h3 j x hx
    refine ⟨?_, h5⟩
    have h6 : ((cs.drop (j * 1)).take 1)[0]? = some (Value.int k x) := by
      have : (cs.drop (j * 1)).take 1 = [Value.int k x] := h4
      rw [this]; rfl
    rw [List.getElem?_take, if_pos (by decide), List.getElem?_drop, Nat.mul_one, Nat.add_zero] at h6
    exact h6
  refine ⟨List.ext_getElem? fun j => ?_, h2, fun x hx => ?_⟩
  · by_cases hj : j < n
    · obtain ⟨x, hx⟩ : ∃ x, xs[j]? = some x := ⟨_, List.getElem?_eq_getElem (by omega)⟩
      rw [List.getElem?_map, hx, (key j x hx).1]; rfl
    · rw [List.getElem?_eq_none (by omega), List.getElem?_eq_none (by rw [List.length_map]; omega)]
  · obtain ⟨j, hj⟩ := List.getElem?_of_mem hx
    exact (key j x hj).2
end Go.Proofs.YtgdadhpcooegnaaDoor
