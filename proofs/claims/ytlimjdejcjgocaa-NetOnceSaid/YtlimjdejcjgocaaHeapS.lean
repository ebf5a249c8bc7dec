/- Plain law: a binary heap in a list, as container/heap keeps it: up, down, push, pop. No program in it. -/
import Derived.Test.YtlimjdejcjgocaaBase
namespace Go.Proofs.Ytlimjdejcjgocaa
set_option linter.unusedVariables false
section
variable {α : Type} (lt : α → α → Bool)
def swapL (l : List α) (i j : Nat) : List α :=
  match l[i]?, l[j]? with
  | some x, some y => (l.set i y).set j x
  | _, _ => l
def ltAt (l : List α) (i j : Nat) : Bool :=
  match l[i]?, l[j]? with
  | some x, some y => lt x y
  | _, _ => false
def upL : Nat → List α → Nat → List α
  | 0, l, _ => l
  | f + 1, l, j => if j = 0 then l else if ltAt lt l j ((j - 1) / 2) then upL f (swapL l ((j - 1) / 2) j) ((j - 1) / 2) else l
def kidL (l : List α) (i n : Nat) : Nat := if 2 * i + 2 < n ∧ ltAt lt l (2 * i + 2) (2 * i + 1) = true then 2 * i + 2 else 2 * i + 1
def downL : Nat → List α → Nat → Nat → List α
  | 0, l, _, _ => l
  | f + 1, l, i, n => if n ≤ 2 * i + 1 then l else if ltAt lt l (kidL lt l i n) i then downL f (swapL l i (kidL lt l i n)) (kidL lt l i n) n else l
def pushL (l : List α) (x : α) : List α := upL lt (l.length + 1) (l ++ [x]) l.length
def popL (l : List α) : List α := downL lt (l.length + 1) (swapL l 0 (l.length - 1)) 0 (l.length - 1)
theorem swapL_length (l : List α) (i j : Nat) : (swapL l i j).length = l.length := by unfold swapL; split <;> simp
theorem swapL_get {l : List α} {i j : Nat} (hi : i < l.length) (hj : j < l.length) (k : Nat) : (swapL l i j)[k]? = if k = j then l[i]? else if k = i then l[j]? else l[k]? := by
  unfold swapL
  rw [List.getElem?_eq_getElem hi, List.getElem?_eq_getElem hj]
  simp only [List.getElem?_set, List.length_set]
  by_cases h1 : k = j
  · subst h1; simp [hj]
  · rw [if_neg (fun e => h1 e.symm), if_neg h1]
    by_cases h2 : k = i
    · subst h2; simp [hi]
    · rw [if_neg (fun e => h2 e.symm), if_neg h2]
theorem set_perm {l : List α} {j : Nat} (hj : j < l.length) (x : α) : (l[j] :: l.set j x).Perm (x :: l) := by
  induction l generalizing j with
  | nil => simp at hj
  | cons a l ih =>
    cases j with
    | zero => simpa using List.Perm.swap x a l
    | succ j =>
      have h := ih (j := j) (by simpa using hj)
      simp only [List.getElem_cons_succ, List.set_cons_succ]
      exact (List.Perm.swap a _ _).trans ((h.cons a).trans (List.Perm.swap x a l))
theorem swapL_perm (l : List α) (i j : Nat) : (swapL l i j).Perm l := by
  unfold swapL
  split
  · rename_i x y hx hy
    obtain ⟨hi, rfl⟩ := List.getElem?_eq_some_iff.1 hx
    obtain ⟨hj, rfl⟩ := List.getElem?_eq_some_iff.1 hy
    have h1 := set_perm hi l[j]
    have h2 := set_perm (l := l.set i l[j]) (j := j) (by simpa using hj) l[i]
    have e : (l.set i l[j])[j]'(by simpa using hj) = l[j] := by
      rw [List.getElem_set]; split
      · rfl
      · rfl
    rw [e] at h2
    exact (h2.trans h1).cons_inv
  · exact List.Perm.refl _
structure Ord : Prop where
  asym : ∀ x y, lt x y = true → lt y x = false
  trans : ∀ x y z, lt y x = false → lt z y = false → lt z x = false
/-- l's first n are a heap -/
def Heap (l : List α) (n : Nat) : Prop := ∀ k, 0 < k → k < n → ltAt lt l k ((k - 1) / 2) = false
variable {lt}
theorem ltAt_of {l : List α} {i j : Nat} {x y : α} (hx : l[i]? = some x) (hy : l[j]? = some y) : ltAt lt l i j = lt x y := by unfold ltAt; rw [hx, hy]
theorem ltAt_asym (O : Ord lt) {l : List α} {i j : Nat} (h : ltAt lt l i j = true) : ltAt lt l j i = false := by
  unfold ltAt at *
  split at h
  · rename_i x y hx hy; rw [hx, hy]; exact O.asym _ _ h
  · simp at h
theorem ltAt_trans (O : Ord lt) {l : List α} {i j k : Nat} (hj : j < l.length) (h : ltAt lt l j i = false) (g : ltAt lt l k j = false) : ltAt lt l k i = false := by
  unfold ltAt at *
  rw [List.getElem?_eq_getElem hj] at h g
  cases hi : l[i]? <;> cases hk : l[k]? <;> simp only [hi, hk] at h g ⊢
  exact O.trans _ _ _ h g
theorem ltAt_swap {l : List α} {i j : Nat} (hi : i < l.length) (hj : j < l.length) (a b : Nat) :
    ltAt lt (swapL l i j) a b = ltAt lt l (if a = j then i else if a = i then j else a) (if b = j then i else if b = i then j else b) := by
  have e : ∀ k, (swapL l i j)[k]? = l[if k = j then i else if k = i then j else k]? := fun k => by
    rw [swapL_get hi hj]
    split
    · rfl
    · split <;> rfl
  unfold ltAt
  rw [e, e]
theorem upL_perm (f : Nat) (l : List α) (j : Nat) : (upL lt f l j).Perm l := by
  induction f generalizing l j with
  | zero => exact List.Perm.refl _
  | succ f ih =>
    rw [upL]
    split
    · exact List.Perm.refl _
    · split
      · exact (ih _ _).trans (swapL_perm _ _ _)
      · exact List.Perm.refl _
theorem downL_perm (f : Nat) (l : List α) (i n : Nat) : (downL lt f l i n).Perm l := by
  induction f generalizing l i with
  | zero => exact List.Perm.refl _
  | succ f ih =>
    rw [downL]
    split
    · exact List.Perm.refl _
    · split
      · exact (ih _ _).trans (swapL_perm _ _ _)
      · exact List.Perm.refl _
theorem upL_heap (O : Ord lt) (f : Nat) (l : List α) (j n : Nat) (hf : j < f) (hj : j < n) (hn : n ≤ l.length)
    (h1 : ∀ k, 0 < k → k < n → k ≠ j → ltAt lt l k ((k - 1) / 2) = false) (h2 : ∀ k, 0 < k → k < n → (k - 1) / 2 = j → 0 < j → ltAt lt l k ((j - 1) / 2) = false) : Heap lt (upL lt f l j) n := by
  induction f generalizing l j with
  | zero => omega
  | succ f ih =>
    rw [upL]
    by_cases hj0 : j = 0
    · rw [if_pos hj0]; intro k a b; exact h1 k a b (by omega)
    rw [if_neg hj0]
    by_cases hlt : ltAt lt l j ((j - 1) / 2) = true
    · rw [if_pos hlt]
      have hp : (j - 1) / 2 < j := by omega
      refine ih _ _ (by omega) (by omega) (by rw [swapL_length]; exact hn) ?_ ?_
      · intro k k0 kn kp
        rw [ltAt_swap (by omega) (by omega)]
        by_cases e : k = j
        · subst e
          rw [if_pos rfl, if_neg (by omega), if_pos rfl]
          exact ltAt_asym O hlt
        · rw [if_neg e, if_neg kp]
          by_cases e2 : (k - 1) / 2 = j
          · rw [if_pos e2]; exact h2 k k0 kn e2 (by omega)
          · rw [if_neg e2]
            by_cases e3 : (k - 1) / 2 = (j - 1) / 2
            · rw [if_pos e3]
              refine ltAt_trans O (j := (j - 1) / 2) (by omega) (ltAt_asym O hlt) ?_
              rw [← e3]; exact h1 k k0 kn e
            · rw [if_neg e3]; exact h1 k k0 kn e
      · intro k k0 kn kp p0
        rw [ltAt_swap (by omega) (by omega)]
        have hq : ((j - 1) / 2 - 1) / 2 < (j - 1) / 2 := by omega
        rw [if_neg (show ((j - 1) / 2 - 1) / 2 ≠ j by omega), if_neg (show ((j - 1) / 2 - 1) / 2 ≠ (j - 1) / 2 by omega)]
        by_cases e : k = j
        · rw [if_pos e]; exact h1 _ p0 (by omega) (by omega)
        · rw [if_neg e, if_neg (by omega)]
          refine ltAt_trans O (j := (j - 1) / 2) (by omega) (h1 _ p0 (by omega) (by omega)) ?_
          rw [← kp]; exact h1 k k0 kn e
    · rw [if_neg hlt]
      intro k a b
      by_cases e : k = j
      · subst e; simpa using hlt
      · exact h1 k a b e
theorem kidL_spec (O : Ord lt) (l : List α) (i n : Nat) (h : 2 * i + 1 < n) (hn : n ≤ l.length) : (kidL lt l i n - 1) / 2 = i ∧ i < kidL lt l i n ∧ kidL lt l i n < n ∧ ∀ k, 0 < k → k < n → (k - 1) / 2 = i → ltAt lt l k (kidL lt l i n) = false := by
  unfold kidL
  have irr : ∀ k, ltAt lt l k k = false := fun k => by
    cases hb : ltAt lt l k k with
    | false => rfl
    | true => have := ltAt_asym O hb; rw [hb] at this; cases this
  split
  · rename_i hc
    refine ⟨by omega, by omega, by omega, fun k k0 kn kp => ?_⟩
    by_cases e : k = 2 * i + 2
    · subst e; exact irr _
    · obtain rfl : k = 2 * i + 1 := by omega
      exact ltAt_asym O hc.2
  · rename_i hc
    refine ⟨by omega, by omega, by omega, fun k k0 kn kp => ?_⟩
    by_cases e : k = 2 * i + 1
    · subst e; exact irr _
    · obtain rfl : k = 2 * i + 2 := by omega
      cases hb : ltAt lt l (2 * i + 2) (2 * i + 1) with
      | false => rfl
      | true => exact absurd ⟨kn, hb⟩ hc
theorem downL_heap (O : Ord lt) (f : Nat) (l : List α) (i n : Nat) (hf : n < f + i) (hn : n ≤ l.length)
    (h1 : ∀ k, 0 < k → k < n → (k - 1) / 2 ≠ i → ltAt lt l k ((k - 1) / 2) = false) (h2 : ∀ k, 0 < k → k < n → (k - 1) / 2 = i → 0 < i → ltAt lt l k ((i - 1) / 2) = false) : Heap lt (downL lt f l i n) n := by
  induction f generalizing l i with
  | zero => intro k a b; exact h1 k a b (by omega)
  | succ f ih =>
    rw [downL]
    by_cases hc : n ≤ 2 * i + 1
    · rw [if_pos hc]; intro k a b; exact h1 k a b (by omega)
    rw [if_neg hc]
    obtain ⟨q1, q2, q3, q4⟩ := kidL_spec O l i n (by omega) hn
    generalize kidL lt l i n = j at q1 q2 q3 q4 ⊢
    by_cases hlt : ltAt lt l j i = true
    · rw [if_pos hlt]
      refine ih _ _ (by omega) (by rw [swapL_length]; exact hn) ?_ ?_
      · intro k k0 kn kp
        rw [ltAt_swap (by omega) (by omega)]
        rw [if_neg (show (k - 1) / 2 ≠ j from kp)]
        by_cases e : k = j
        · subst e
          rw [if_pos rfl, if_pos q1]; exact ltAt_asym O hlt
        · rw [if_neg e]
          by_cases e2 : k = i
          · subst e2
            rw [if_pos rfl, if_neg (by omega)]
            exact h2 j (by omega) q3 q1 k0
          · rw [if_neg e2]
            by_cases e3 : (k - 1) / 2 = i
            · rw [if_pos e3]; exact q4 k k0 kn e3
            · rw [if_neg e3]; exact h1 k k0 kn e3
      · intro k k0 kn kp j0
        rw [ltAt_swap (by omega) (by omega)]
        rw [if_neg (show k ≠ j by omega), if_neg (show k ≠ i by omega), q1, if_neg (by omega), if_pos rfl, ← kp]
        exact h1 k k0 kn (by omega)
    · rw [if_neg hlt]
      have hlt' : ltAt lt l j i = false := by simpa using hlt
      intro k k0 kn
      by_cases e : (k - 1) / 2 = i
      · rw [e]; exact ltAt_trans O (j := j) (by omega) hlt' (q4 k k0 kn e)
      · exact h1 k k0 kn e
theorem downL_above (f : Nat) (l : List α) (i n k : Nat) (hn : n ≤ l.length) (hi : i < n ∨ n ≤ 2 * i + 1) (hk : n ≤ k) : (downL lt f l i n)[k]? = l[k]? := by
  induction f generalizing l i with
  | zero => rfl
  | succ f ih =>
    rw [downL]
    split
    · rfl
    · rename_i hc
      have hj : kidL lt l i n < n := by
        unfold kidL; split
        · rename_i h; exact h.1
        · omega
      split
      · rw [ih _ _ (by rw [swapL_length]; exact hn) (.inl hj), swapL_get (by omega) (by omega), if_neg (by omega), if_neg (by omega)]
      · rfl
theorem downL_length (f : Nat) (l : List α) (i n : Nat) : (downL lt f l i n).length = l.length := (downL_perm f l i n).length_eq
theorem upL_length (f : Nat) (l : List α) (j : Nat) : (upL lt f l j).length = l.length := (upL_perm f l j).length_eq
theorem pushL_perm (l : List α) (x : α) : (pushL lt l x).Perm (l ++ [x]) := upL_perm _ _ _
theorem pushL_heap (O : Ord lt) (l : List α) (x : α) (h : Heap lt l l.length) : Heap lt (pushL lt l x) (pushL lt l x).length := by
  rw [pushL, upL_length]
  refine upL_heap O _ _ _ _ (by omega) (by simp) (Nat.le_refl _) ?_ (fun k k0 kn kp j0 => ?_)
  · intro k k0 kn kj
    have hk : k < l.length := by simp at kn; omega
    have := h k k0 hk
    unfold ltAt at this ⊢
    rwa [List.getElem?_append_left hk, List.getElem?_append_left (by omega)]
  · simp at kn; omega
theorem heap_least (O : Ord lt) {l : List α} {n : Nat} (h : Heap lt l n) (hn : n ≤ l.length) (k : Nat) (hk : k < n) : ltAt lt l k 0 = false := by
  induction k using Nat.strongRecOn with
  | ind k ih =>
    by_cases h0 : k = 0
    · subst h0
      cases hb : ltAt lt l 0 0 with
      | false => rfl
      | true => have := ltAt_asym O hb; rw [hb] at this; cases this
    · exact ltAt_trans O (j := (k - 1) / 2) (by omega) (ih _ (by omega) (by omega)) (h k (by omega) hk)
theorem popL_length (l : List α) : (popL lt l).length = l.length := by unfold popL; rw [downL_length, swapL_length]
/-- what is popped: the first -/
theorem popL_last {l : List α} (h : l ≠ []) : (popL lt l)[l.length - 1]? = l[0]? := by
  have hl : 0 < l.length := List.length_pos_iff.2 h
  unfold popL
  rw [downL_above _ _ _ _ _ (by rw [swapL_length]; omega) (by omega) (Nat.le_refl _), swapL_get (by omega) (by omega), if_pos rfl]
theorem popL_perm {l : List α} {x : α} (h : l[0]? = some x) : (x :: (popL lt l).take (l.length - 1)).Perm l := by
  have hl : 0 < l.length := (List.getElem?_eq_some_iff.1 h).1
  have hp : (popL lt l).Perm l := (downL_perm _ _ _ _).trans (swapL_perm _ _ _)
  have hlast := popL_last (lt := lt) (List.length_pos_iff.1 hl)
  rw [h] at hlast
  have hlen := popL_length (lt := lt) l
  have e : popL lt l = (popL lt l).take (l.length - 1) ++ [x] := by
    have := List.take_append_drop (l.length - 1) (popL lt l)
    rw [List.drop_eq_getElem_cons (by omega), List.drop_eq_nil_of_le (by omega)] at this
    rw [(List.getElem?_eq_some_iff.1 hlast).2] at this
    exact this.symm
  rw [e] at hp
  have := List.perm_append_comm.trans hp
  simpa using this
theorem heap_take {l : List α} {n : Nat} (h : Heap lt l n) : Heap lt (l.take n) (l.take n).length := by
  intro k k0 kn
  have hk : k < n := by rw [List.length_take] at kn; omega
  have := h k k0 hk
  unfold ltAt at this ⊢
  rwa [List.getElem?_take_of_lt hk, List.getElem?_take_of_lt (by omega)]
theorem popL_heap (O : Ord lt) {l : List α} (h : Heap lt l l.length) (hl : 0 < l.length) : Heap lt ((popL lt l).take (l.length - 1)) ((popL lt l).take (l.length - 1)).length := by
  refine heap_take ?_
  unfold popL
  refine downL_heap O _ _ _ _ (by omega) (by rw [swapL_length]; omega) ?_ (fun k k0 kn kp j0 => by omega)
  intro k k0 kn kp
  rw [ltAt_swap (by omega) (by omega), if_neg (by omega), if_neg (by omega), if_neg (by omega), if_neg (by omega)]
  exact h k k0 (by omega)
theorem popL_least (O : Ord lt) {l : List α} (h : Heap lt l l.length) {x : α} (hx : l[0]? = some x) : ∀ y ∈ l, lt y x = false := by
  intro y hy
  obtain ⟨k, hk⟩ := List.getElem?_of_mem hy
  have := heap_least O h (Nat.le_refl _) k (List.getElem?_eq_some_iff.1 hk).1
  rwa [ltAt_of hk hx] at this
end
end Go.Proofs.Ytlimjdejcjgocaa
