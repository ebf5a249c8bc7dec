/- Layer 22: votes: the two answers are the same list. No program in it. -/
import Derived.Test.YtgdadhpcooegnaaQuorum18
namespace Go.Proofs.Ytgdadhpcooegnaa
open Go.RowKit
set_option linter.unusedVariables false
theorem asc_unique : ∀ {a b : List Int}, a.Pairwise (· < ·) → b.Pairwise (· < ·) → (∀ x, x ∈ a ↔ x ∈ b) → a = b
  | [], b, _, _, h => by
    cases b with
    | nil => rfl
    | cons y b => exact absurd ((h y).2 (List.mem_cons_self ..)) (by simp)
  | x :: a, b, ha, hb, h => by
    cases b with
    | nil => exact absurd ((h x).1 (List.mem_cons_self ..)) (by simp)
    | cons y b =>
      rw [List.pairwise_cons] at ha hb
      have hxy : x = y := by
        rcases List.mem_cons.1 ((h x).1 (List.mem_cons_self ..)) with h1 | h1
        · exact h1
        · rcases List.mem_cons.1 ((h y).2 (List.mem_cons_self ..)) with h2 | h2
          · exact h2.symm
          · have := ha.1 y h2; have := hb.1 x h1; omega
      subst hxy
      congr 1
      refine asc_unique ha.2 hb.2 fun z => ⟨fun hz => ?_, fun hz => ?_⟩
      · rcases List.mem_cons.1 ((h z).1 (List.mem_cons_of_mem _ hz)) with h1 | h1
        · have := ha.1 z hz; omega
        · exact h1
      · rcases List.mem_cons.1 ((h z).2 (List.mem_cons_of_mem _ hz)) with h1 | h1
        · have := hb.1 z hz; omega
        · exact h1
theorem countP_lt {α : Type} (p q : α → Bool) : ∀ (l : List α), (∀ x ∈ l, q x = true → p x = true) → (∃ x ∈ l, p x = true ∧ q x = false) → l.countP q < l.countP p
  | [], _, h => by obtain ⟨x, hx, _⟩ := h; simp at hx
  | a :: l, hpq, h => by
    have hle : l.countP q ≤ l.countP p := List.countP_mono_left (fun x hx => hpq x (List.mem_cons_of_mem _ hx))
    obtain ⟨x, hx, h1, h2⟩ := h
    rw [List.countP_cons, List.countP_cons]
    rcases List.mem_cons.1 hx with rfl | hx
    · rw [h1, h2]; simp; omega
    · have := countP_lt p q l (fun x hx => hpq x (List.mem_cons_of_mem _ hx)) ⟨x, hx, h1, h2⟩
      have ha := hpq a (List.mem_cons_self ..)
      cases hq : q a with
      | true => rw [ha hq]; simp; omega
      | false => cases p a <;> simp <;> omega
theorem aboveV_snoc (out : List Int) (b v : Int) : aboveV (out ++ [b]) v = decide (b < v) := by simp [aboveV]
theorem pick_spec (out : List Int) : ∀ (l : List Int) (s : Int × Bool), (s.2 = true → aboveV out s.1 = true) →
    let p := l.foldl (pstep out) s
    (p.2 = false ∧ s.2 = false ∧ ∀ v ∈ l, aboveV out v = false) ∨ (p.2 = true ∧ aboveV out p.1 = true ∧ ((s.2 = true ∧ p.1 = s.1) ∨ p.1 ∈ l) ∧ (s.2 = true → p.1 ≤ s.1) ∧ ∀ v ∈ l, aboveV out v = true → p.1 ≤ v)
  | [], s, h => by
    cases hs : s.2 with
    | false => exact .inl ⟨hs, rfl, by simp⟩
    | true => exact .inr ⟨hs, h hs, .inl ⟨rfl, rfl⟩, fun _ => Int.le_refl _, by simp⟩
  | a :: l, s, h => by
    rw [List.foldl_cons]
    by_cases hc : aboveV out a = true ∧ (s.2 = false ∨ a < s.1)
    · have e : pstep out s a = (a, true) := by unfold pstep; rw [if_pos hc]
      rw [e]
      rcases pick_spec out l (a, true) (fun _ => hc.1) with ⟨_, h2, _⟩ | ⟨h1, h2, h3, h4, h5⟩
      · cases h2
      · refine .inr ⟨h1, h2, .inr ?_, fun hs => ?_, fun v hv hva => ?_⟩
        · rcases h3 with ⟨_, h3⟩ | h3
          · rw [h3]; exact List.mem_cons_self ..
          · exact List.mem_cons_of_mem _ h3
        · have := h4 rfl
          rcases hc.2 with hc2 | hc2
          · rw [hs] at hc2; cases hc2
          · have h6 : (a, true).1 = a := rfl
            omega
        · rcases List.mem_cons.1 hv with rfl | hv
          · exact h4 rfl
          · exact h5 v hv hva
    · have e : pstep out s a = s := by unfold pstep; rw [if_neg hc]
      rw [e]
      rcases pick_spec out l s h with ⟨h1, h2, h3⟩ | ⟨h1, h2, h3, h4, h5⟩
      · refine .inl ⟨h1, h2, fun v hv => ?_⟩
        rcases List.mem_cons.1 hv with rfl | hv
        · cases hv2 : aboveV out v with
          | false => rfl
          | true => exact absurd ⟨hv2, .inl h2⟩ hc
        · exact h3 v hv
      · refine .inr ⟨h1, h2, h3.imp id (List.mem_cons_of_mem _), h4, fun v hv hva => ?_⟩
        rcases List.mem_cons.1 hv with rfl | hv
        · cases hs : s.2 with
          | false => exact absurd ⟨hva, .inl hs⟩ hc
          | true =>
            have := h4 hs
            have h6 : ¬ v < s.1 := fun h6 => hc ⟨hva, .inr h6⟩
            omega
        · exact h5 v hv hva
theorem outV_inv (all : List Int) : ∀ r, (outV all r).Pairwise (· < ·) ∧ (∀ x ∈ outV all r, x ∈ all) ∧ (∀ x ∈ all, x ∈ outV all r ∨ aboveV (outV all r) x = true) ∧ all.countP (aboveV (outV all r)) ≤ all.length - r
  | 0 => ⟨List.Pairwise.nil, by simp [outV], fun x _ => .inr rfl, by simpa using List.countP_le_length⟩
  | r + 1 => by
    obtain ⟨h1, h2, h3, h4⟩ := outV_inv all r
    have hp := pick_spec (outV all r) all (0, false) (by simp)
    rw [outV]
    unfold pickV
    rcases hp with ⟨p1, _, p3⟩ | ⟨p1, p2, p3, _, p5⟩
    · rw [if_neg (by rw [p1]; simp)]
      have h0 : all.countP (aboveV (outV all r)) = 0 := by
        rw [List.countP_eq_zero]
        intro x hx
        rw [p3 x hx]; simp
      exact ⟨h1, h2, h3, by omega⟩
    · rw [if_pos p1]
      obtain ⟨b, hb⟩ : ∃ b, b = (all.foldl (pstep (outV all r)) (0, false)).1 := ⟨_, rfl⟩
      rw [← hb] at p2 p3 p5 ⊢
      have hbm : b ∈ all := by
        rcases p3 with ⟨p3, _⟩ | p3
        · cases p3
        · exact p3
      have hlast : ∀ x ∈ outV all r, x < b := by
        intro x hx
        unfold aboveV at p2
        obtain ⟨j, hj⟩ := List.getElem_of_mem hx
        have hne : outV all r ≠ [] := List.ne_nil_of_mem hx
        rw [List.getLast?_eq_some_getLast hne] at p2
        simp only [decide_eq_true_eq] at p2
        rw [List.getLast_eq_getElem] at p2
        obtain ⟨hj, rfl⟩ := hj
        rcases Nat.lt_or_ge j ((outV all r).length - 1) with h | h
        · have := List.pairwise_iff_getElem.1 h1 j ((outV all r).length - 1) hj (by omega) h
          omega
        · have : j = (outV all r).length - 1 := by omega
          subst this
          exact p2
      refine ⟨?_, ?_, ?_, ?_⟩
      · rw [List.pairwise_append]
        exact ⟨h1, List.pairwise_singleton _ _, fun x hx y hy => by rw [List.mem_singleton.1 hy]; exact hlast x hx⟩
      · intro x hx
        rcases List.mem_append.1 hx with hx | hx
        · exact h2 x hx
        · rw [List.mem_singleton.1 hx]; exact hbm
      · intro x hx
        rw [aboveV_snoc]
        rcases h3 x hx with h | h
        · exact .inl (List.mem_append_left _ h)
        · have := p5 x hx h
          by_cases hxb : x = b
          · exact .inl (by rw [hxb]; simp)
          · right; simp; omega
      · have : all.countP (aboveV (outV all r ++ [b])) < all.countP (aboveV (outV all r)) := by
          refine countP_lt _ _ all (fun x hx hq => ?_) ⟨b, hbm, p2, by rw [aboveV_snoc]; simp⟩
          rw [aboveV_snoc] at hq
          rcases h3 x hx with h | h
          · have := hlast x h; simp at hq; omega
          · exact h
        omega
theorem outV_mem (all : List Int) (x : Int) : x ∈ outV all all.length ↔ x ∈ all := by
  obtain ⟨_, h2, h3, h4⟩ := outV_inv all all.length
  refine ⟨h2 x, fun hx => ?_⟩
  rcases h3 x hx with h | h
  · exact h
  · have : all.countP (aboveV (outV all all.length)) = 0 := by omega
    rw [List.countP_eq_zero] at this
    exact absurd h (this x hx)
/-! ### compact of a sorted list -/
theorem compactUpTo_spec (d : Array Int) (hs : ∀ i j, i ≤ j → j < d.size → d[i]! ≤ d[j]!) : ∀ m, m ≤ d.size → (Lib.compactUpTo d m).Pairwise (· < ·) ∧ (∀ x, x ∈ Lib.compactUpTo d m ↔ ∃ j, j < m ∧ d[j]! = x)
  | 0, _ => ⟨by simp [Lib.compactUpTo], fun x => by simp [Lib.compactUpTo]⟩
  | m + 1, hm => by
    obtain ⟨h1, h2⟩ := compactUpTo_spec d hs m (by omega)
    rw [Lib.compactUpTo_succ]
    cases hk : Lib.keeps d m with
    | false =>
      simp only [Bool.false_eq_true, if_false, List.append_nil]
      refine ⟨h1, fun x => ?_⟩
      rw [h2]
      refine ⟨fun ⟨j, hj, he⟩ => ⟨j, by omega, he⟩, fun ⟨j, hj, he⟩ => ?_⟩
      by_cases hjm : j = m
      · subst hjm
        have : 0 < j ∧ d[j]! = d[j - 1]! := by
          unfold Lib.keeps at hk
          simp at hk
          exact ⟨by omega, by simp_all⟩
        exact ⟨j - 1, by omega, by rw [← this.2]; exact he⟩
      · exact ⟨j, by omega, he⟩
    | true =>
      simp only [if_true]
      refine ⟨?_, fun x => ?_⟩
      · rw [List.pairwise_append]
        refine ⟨h1, List.pairwise_singleton _ _, fun x hx y hy => ?_⟩
        rw [List.mem_singleton.1 hy]
        obtain ⟨j, hj, rfl⟩ := (h2 x).1 hx
        have h5 : d[m]! ≠ d[m - 1]! := by
          unfold Lib.keeps at hk
          simp at hk
          rcases hk with hk | hk
          · omega
          · simp_all
        have h6 := hs j (m - 1) (by omega) (by omega)
        have h7 := hs (m - 1) m (by omega) (by omega)
        omega
      · rw [List.mem_append, h2, List.mem_singleton]
        constructor
        · rintro (⟨j, hj, he⟩ | rfl)
          · exact ⟨j, by omega, he⟩
          · exact ⟨m, by omega, rfl⟩
        · rintro ⟨j, hj, he⟩
          by_cases hjm : j = m
          · subst hjm; exact .inr he.symm
          · exact .inl ⟨j, by omega, he⟩
theorem voted_same (l : List Int) (i : Int) : votedI l i = outV (l ++ [i]) (l ++ [i]).length := by
  obtain ⟨s, hs⟩ : ∃ s, s = sortI (l ++ [i]) := ⟨_, rfl⟩
  unfold votedI
  rw [← hs]
  have hsort : ∀ a b, a ≤ b → b < s.toArray.size → s.toArray[a]! ≤ s.toArray[b]! := by
    intro a b hab hb
    have hb' : b < s.length := by simpa using hb
    rw [getElem!_pos s.toArray a (by simp; omega), getElem!_pos s.toArray b hb]
    subst hs
    simpa using sortI_le hab hb'
  obtain ⟨h1, h2⟩ := compactUpTo_spec s.toArray hsort s.length (by simp)
  refine asc_unique h1 (outV_inv _ _).1 fun x => ?_
  rw [outV_mem]
  have : x ∈ Lib.compact s ↔ x ∈ s := by
    unfold Lib.compact
    rw [h2]
    constructor
    · rintro ⟨j, hj, rfl⟩
      rw [getElem!_pos s.toArray j (by simpa using hj)]
      simp
    · intro hx
      obtain ⟨j, hj, he⟩ := List.getElem_of_mem hx
      exact ⟨j, hj, by rw [getElem!_pos s.toArray j (by simpa using hj)]; simpa using he⟩
  rw [this, hs]
  exact sortI_mem
end Go.Proofs.Ytgdadhpcooegnaa
