/- Layer 5: what Sort answers: in order, each once; the document's answer and the code's are one. -/
import Derived.Test.YtgdadhpcooegnaaDoorCats12
import Derived.Test.YtgdadhpcooegnaaDoorCats15
import Derived.Test.YtgdadhpcooegnaaDoorComp
namespace Go.Proofs.YtgdadhpcooegnaaDoor
open Go.RowKit Go.Shelf
set_option linter.unusedVariables false
def ltB (a b : List UInt8) : Prop := cmpB a b < 0
theorem ltB_irr (x : List UInt8) : ¬ ltB x x := by unfold ltB; rw [cmpB_self]; omega
theorem ltB_iff {x y : List UInt8} : ltB x y ↔ cmpB x y ≤ 0 ∧ x ≠ y := by
  unfold ltB
  constructor
  · intro h; refine ⟨by omega, ?_⟩; rintro rfl; rw [cmpB_self] at h; omega
  · rintro ⟨h1, h2⟩
    have : cmpB x y ≠ 0 := fun h => h2 (cmpB_zero h)
    omega
theorem ltB_tr (x y z : List UInt8) (h1 : ltB x y) (h2 : ltB y z) : ltB x z := by
  rw [ltB_iff] at h1 h2 ⊢
  refine ⟨cmpB_trans h1.1 h2.1, ?_⟩
  rintro rfl
  have := cmpB_neg x y
  exact h1.2 (cmpB_zero (by omega))
theorem leB_anti (x y : List UInt8) (h1 : cmpB x y ≤ 0) (h2 : cmpB y x ≤ 0) : x = y := cmpB_zero (by have := cmpB_neg x y; omega)
theorem sortS_spec (l : List (List UInt8)) : (sortS l).Pairwise ltB ∧ ∀ x, x ∈ sortS l ↔ x ∈ l ∧ rightB x = true := by
  have hp : ((l.filter rightB).mergeSort leB).Pairwise (fun a b => cmpB a b ≤ 0) := by
    have := List.pairwise_mergeSort (le := leB) (fun a b c h1 h2 => by simp only [leB, decide_eq_true_eq] at *; exact cmpB_trans h1 h2) (fun a b => by simp only [leB, Bool.or_eq_true, decide_eq_true_eq]; have := cmpB_neg a b; omega) (l.filter rightB)
    exact this.imp (fun h => by simpa [leB] using h)
  obtain ⟨h1, h2⟩ := compact_gen (le := fun a b => cmpB a b ≤ 0) (fun x => by rw [cmpB_self]; omega) (fun _ _ _ => cmpB_trans) leB_anti hp
  refine ⟨h1.imp (fun h => ltB_iff.2 h), fun x => ?_⟩
  unfold sortS
  rw [h2, List.mem_mergeSort, List.mem_filter]
theorem insS_true (s : List UInt8) : ∀ l : List (List UInt8), insS s true l = l
  | [] => by rw [insS_nil]; rfl
  | t :: ts => by rw [insS_cons, if_neg (by simp), Bool.true_or, insS_true s ts]
theorem insS_spec (s : List UInt8) : ∀ l : List (List UInt8), l.Pairwise ltB → (insS s false l).Pairwise ltB ∧ ∀ x, x ∈ insS s false l ↔ x = s ∨ x ∈ l
  | [], _ => by rw [insS_nil]; simp
  | t :: ts, h => by
    rw [List.pairwise_cons] at h
    rw [insS_cons]
    by_cases hc : cmpB s t < 0
    · rw [if_pos ⟨hc, rfl⟩, insS_true]
      refine ⟨?_, fun x => by simp⟩
      rw [List.pairwise_cons, List.pairwise_cons]
      refine ⟨?_, h.1, h.2⟩
      intro y hy
      rcases List.mem_cons.1 hy with rfl | hy
      · exact hc
      · exact ltB_tr _ _ _ hc (h.1 y hy)
    · rw [if_neg (fun e => hc e.1), Bool.false_or]
      by_cases hz : cmpB s t = 0
      · have := cmpB_zero hz
        subst this
        rw [hz]
        simp only [BEq.rfl, insS_true]
        exact ⟨List.pairwise_cons.2 h, fun x => by simp⟩
      · rw [show (cmpB s t == 0) = false by simpa using hz]
        obtain ⟨h1, h2⟩ := insS_spec s ts h.2
        refine ⟨List.pairwise_cons.2 ⟨fun y hy => ?_, h1⟩, fun x => ?_⟩
        · rcases (h2 y).1 hy with rfl | hy
          · show cmpB t y < 0
            have := cmpB_neg y t
            omega
          · exact h.1 y hy
        · simp only [List.mem_cons, h2]
          constructor
          · rintro (h | h | h)
            · exact .inr (.inl h)
            · exact .inl h
            · exact .inr (.inr h)
          · rintro (h | h | h)
            · exact .inr (.inl h)
            · exact .inl h
            · exact .inr (.inr h)
theorem sortR_spec (l : List (List UInt8)) : (sortR l).Pairwise ltB ∧ ∀ x, x ∈ sortR l ↔ x ∈ l ∧ rightB x = true := by
  induction l using snoc_ind with
  | h0 => simp [sortR]
  | h1 l s ih =>
    rw [sortR_snoc]
    by_cases hr : rightB s = true
    · rw [if_pos hr]
      obtain ⟨h1, h2⟩ := insS_spec s _ ih.1
      refine ⟨h1, fun x => ?_⟩
      rw [h2, ih.2]
      simp only [List.mem_append, List.mem_singleton]
      constructor
      · rintro (rfl | h)
        · exact ⟨.inr rfl, hr⟩
        · exact ⟨.inl h.1, h.2⟩
      · rintro ⟨h | h, h2⟩
        · exact .inr ⟨h, h2⟩
        · exact .inl h
    · rw [if_neg hr]
      refine ⟨ih.1, fun x => ?_⟩
      rw [ih.2]
      simp only [List.mem_append, List.mem_singleton]
      constructor
      · rintro ⟨h, h2⟩; exact ⟨.inl h, h2⟩
      · rintro ⟨h | rfl, h2⟩
        · exact ⟨h, h2⟩
        · exact absurd h2 hr
/-- The document's answer and the code's are one. -/
theorem sortR_eq (l : List (List UInt8)) : sortR l = sortS l :=
  strict_unique ltB_irr ltB_tr (sortR_spec l).1 (sortS_spec l).1 (fun x => by rw [(sortR_spec l).2, (sortS_spec l).2])
end Go.Proofs.YtgdadhpcooegnaaDoor
