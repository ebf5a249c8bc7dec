/- A sorted row without repetitions is told by its members; compact of a sorted row is one. No program in it. -/
import Derived.Test.YtgdadhpcooegnaaDoorRd
import Derived.Lib.SlicesCompact
namespace Go.Proofs.YtgdadhpcooegnaaDoor
open Go.RowKit
set_option linter.unusedVariables false
section
variable {α : Type}
theorem strict_unique {lt : α → α → Prop} (hirr : ∀ x, ¬ lt x x) (htr : ∀ x y z, lt x y → lt y z → lt x z) : ∀ {a b : List α}, a.Pairwise lt → b.Pairwise lt → (∀ x, x ∈ a ↔ x ∈ b) → a = b
  | [], b, _, _, h => by
    cases b with
    | nil => rfl
    | cons y b => exact absurd ((h y).2 (by simp)) (by simp)
  | x :: a, [], _, _, h => absurd ((h x).1 (by simp)) (by simp)
  | x :: a, y :: b, ha, hb, h => by
    rw [List.pairwise_cons] at ha hb
    have hxy : x = y := by
      rcases List.mem_cons.1 ((h x).1 (by simp)) with h1 | h1
      · exact h1
      · rcases List.mem_cons.1 ((h y).2 (by simp)) with h2 | h2
        · exact h2.symm
        · exact absurd (htr _ _ _ (ha.1 y h2) (hb.1 x h1)) (hirr _)
    subst hxy
    congr 1
    refine strict_unique hirr htr ha.2 hb.2 fun z => ?_
    have hz := h z
    simp only [List.mem_cons] at hz
    constructor
    · intro hm
      rcases hz.1 (.inr hm) with rfl | h1
      · exact absurd (ha.1 _ hm) (hirr _)
      · exact h1
    · intro hm
      rcases hz.2 (.inr hm) with rfl | h1
      · exact absurd (hb.1 _ hm) (hirr _)
      · exact h1
variable [Inhabited α] [DecidableEq α]
theorem compactUpTo_gen {le : α → α → Prop} (htr : ∀ x y z, le x y → le y z → le x z) (hanti : ∀ x y, le x y → le y x → x = y) (d : Array α) (hs : ∀ i j, i ≤ j → j < d.size → le d[i]! d[j]!) :
    ∀ m, m ≤ d.size → (Lib.compactUpTo d m).Pairwise (fun x y => le x y ∧ x ≠ y) ∧ (∀ x, x ∈ Lib.compactUpTo d m ↔ ∃ j, j < m ∧ d[j]! = x)
  | 0, _ => ⟨by simp [Lib.compactUpTo], fun x => by simp [Lib.compactUpTo]⟩
  | m + 1, hm => by
    obtain ⟨h1, h2⟩ := compactUpTo_gen htr hanti d hs m (by omega)
    rw [Lib.compactUpTo_succ]
    cases hk : Lib.keeps d m with
    | false =>
      simp only [Bool.false_eq_true, if_false, List.append_nil]
      refine ⟨h1, fun x => ?_⟩
      rw [h2]
      refine ⟨fun ⟨j, hj, he⟩ => ⟨j, by omega, he⟩, fun ⟨j, hj, he⟩ => ?_⟩
      by_cases hjm : j = m
      · subst hjm
        have : 0 < j ∧ d[j]! = d[j - 1]! := by
          unfold Lib.keeps at hk
          simp at hk
          exact ⟨by omega, by simp_all⟩
        exact ⟨j - 1, by omega, by rw [← this.2]; exact he⟩
      · exact ⟨j, by omega, he⟩
    | true =>
      simp only [if_true]
      refine ⟨?_, fun x => ?_⟩
      · rw [List.pairwise_append]
        refine ⟨h1, List.pairwise_singleton _ _, fun x hx y hy => ?_⟩
        rw [List.mem_singleton.1 hy]
        obtain ⟨j, hj, rfl⟩ := (h2 x).1 hx
        have h5 : d[m]! ≠ d[m - 1]! := by
          unfold Lib.keeps at hk
          simp at hk
          rcases hk with hk | hk
          · omega
          · simp_all
        have h6 := hs j (m - 1) (by omega) (by omega)
        have h7 := hs (m - 1) m (by omega) (by omega)
        refine ⟨htr _ _ _ h6 h7, fun e => h5 (hanti _ _ ?_ h7)⟩
        rw [← e]; exact h6
      · rw [List.mem_append, h2, List.mem_singleton]
        constructor
        · rintro (⟨j, hj, he⟩ | rfl)
          · exact ⟨j, by omega, he⟩
          · exact ⟨m, by omega, rfl⟩
        · rintro ⟨j, hj, he⟩
          by_cases hjm : j = m
          · subst hjm; exact .inr he.symm
          · exact .inl ⟨j, by omega, he⟩
theorem compact_gen {le : α → α → Prop} (hrefl : ∀ x, le x x) (htr : ∀ x y z, le x y → le y z → le x z) (hanti : ∀ x y, le x y → le y x → x = y) {s : List α} (hs : s.Pairwise le) :
    (Lib.compact s).Pairwise (fun x y => le x y ∧ x ≠ y) ∧ ∀ x, x ∈ Lib.compact s ↔ x ∈ s := by
  have hsort : ∀ a b, a ≤ b → b < s.toArray.size → le s.toArray[a]! s.toArray[b]! := by
    intro a b hab hb
    have hb' : b < s.length := by simpa using hb
    rw [getElem!_pos s.toArray a (by simp; omega), getElem!_pos s.toArray b hb]
    by_cases h : a = b
    · subst h; exact hrefl _
    · simpa using List.pairwise_iff_getElem.1 hs a b (by omega) hb' (by omega)
  obtain ⟨h1, h2⟩ := compactUpTo_gen htr hanti s.toArray hsort s.length (by simp)
  refine ⟨h1, fun x => ?_⟩
  unfold Lib.compact
  rw [h2]
  constructor
  · rintro ⟨j, hj, rfl⟩
    rw [getElem!_pos s.toArray j (by simpa using hj)]
    simp
  · intro hx
    obtain ⟨j, hj, he⟩ := List.getElem_of_mem hx
    exact ⟨j, hj, by rw [getElem!_pos s.toArray j (by simpa using hj)]; simpa using he⟩
end
end Go.Proofs.YtgdadhpcooegnaaDoor
