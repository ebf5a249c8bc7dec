/- Layer 5, cats: pure laws: a text is parsed into just what it names; the order of texts. -/
import Derived.Test.YtgdadhpcooegnaaDoorCats4
import Derived.Sort.Statements
import Derived.Sort.Walk0
namespace Go.Proofs.YtgdadhpcooegnaaDoor
open Go.RowKit
set_option linter.unusedVariables false
def joinB : List (List UInt8) → List UInt8
  | [] => []
  | [x] => x
  | x :: y :: l => x ++ 46 :: joinB (y :: l)
theorem pathT_join : ∀ p : List Int, pathT p = joinB (p.map Lib.itoa)
  | [] => rfl
  | [k] => rfl
  | k :: b :: l => by
    have := pathT_join (b :: l)
    simp only [List.map_cons] at this ⊢
    rw [pathT, this]
    · rfl
    · simp
theorem join_split : ∀ l : List UInt8, joinB (splitB 46 l) = l
  | [] => rfl
  | b :: l => by
    have ih := join_split l
    by_cases hb : (b == 46) = true
    · rw [splitB_yes l hb]
      obtain rfl : b = 46 := by simpa using hb
      cases hs : splitB 46 l with
      | nil => exact absurd hs (splitB_ne 46 l)
      | cons q qs => rw [hs] at ih; simp [joinB, ih]
    · cases hs : splitB 46 l with
      | nil => exact absurd hs (splitB_ne 46 l)
      | cons q qs =>
        rw [splitB_no hb hs]
        rw [hs] at ih
        cases qs with
        | nil => simp only [joinB] at ih ⊢; rw [ih]
        | cons q2 qs => simp only [joinB] at ih ⊢; rw [List.cons_append, ih]
theorem split_append : ∀ (x l : List UInt8), 46 ∉ x → splitB 46 (x ++ 46 :: l) = x :: splitB 46 l
  | [], l, _ => splitB_yes l rfl
  | b :: x, l, h => by
    have hb : ¬ (b == (46 : UInt8)) = true := by
      intro hb; apply h; rw [show b = 46 by simpa using hb]; simp
    exact splitB_no hb (split_append x l (fun hm => h (by simp [hm])))
theorem split_none : ∀ (x : List UInt8), 46 ∉ x → splitB 46 x = [x]
  | [], _ => rfl
  | b :: x, h => by
    have hb : ¬ (b == (46 : UInt8)) = true := by
      intro hb; apply h; rw [show b = 46 by simpa using hb]; simp
    exact splitB_no hb (split_none x (fun hm => h (by simp [hm])))
theorem split_join : ∀ (xs : List (List UInt8)), xs ≠ [] → (∀ x ∈ xs, 46 ∉ x) → splitB 46 (joinB xs) = xs
  | [], h, _ => absurd rfl h
  | [x], _, h => split_none x (h x (by simp))
  | x :: y :: l, _, h => by
    rw [joinB, split_append x _ (h x (by simp)), split_join (y :: l) (by simp) (fun z hz => h z (List.mem_cons_of_mem _ hz))]
theorem pathS_map : ∀ (xs : List (List UInt8)) (acc p : List Int), pathS acc xs = some p → ∃ ks : List Int, p = acc ++ ks ∧ ks.map Lib.itoa = xs
  | [], acc, p, h => by simp only [pathS, Option.some.injEq] at h; exact ⟨[], by simp [h], rfl⟩
  | x :: xs, acc, p, h => by
    simp only [pathS] at h
    split at h
    · cases h
    · rename_i k hk
      split at h
      · cases h
      · obtain ⟨ks, h1, h2⟩ := pathS_map xs _ p h
        exact ⟨k :: ks, by rw [h1]; simp, by simp [h2, (numB_some hk).2.2]⟩
theorem pathS_ok : ∀ (ks acc : List Int), (∀ k ∈ ks, 0 ≤ k ∧ k ≤ 1048576) → acc.length + ks.length ≤ 6 → pathS acc (ks.map Lib.itoa) = some (acc ++ ks)
  | [], acc, _, _ => by simp [pathS]
  | k :: ks, acc, h, hl => by
    have hk := h k (by simp)
    simp only [List.length_cons] at hl
    simp only [List.map_cons, pathS, numB_itoa k 1048576 hk.1 hk.2 (by decide)]
    rw [if_neg (by omega), pathS_ok ks (acc ++ [k]) (fun x hx => h x (List.mem_cons_of_mem _ hx)) (by simp; omega)]
    simp
theorem dec_mem (u : Nat) : ∀ c ∈ Lib.decDigits u, 48 ≤ c.toNat ∧ c.toNat ≤ 57 := by
  have one : ∀ d, d < 10 → (UInt8.ofNat (48 + d)).toNat = 48 + d := fun d hd => by simp; omega
  rw [Lib.decDigits]
  split
  · rename_i h
    intro c hc; rw [List.mem_singleton.1 hc, one u h]; omega
  · intro c hc
    rcases List.mem_append.1 hc with hc | hc
    · exact dec_mem (u / 10) c hc
    · rw [List.mem_singleton.1 hc, one (u % 10) (by omega)]; omega
theorem itoa_mem {k : Int} (h : 0 ≤ k) : ∀ c ∈ Lib.itoa k, 48 ≤ c.toNat ∧ c.toNat ≤ 57 := by
  obtain ⟨u, rfl⟩ : ∃ u : Nat, k = u := ⟨k.toNat, by omega⟩
  rw [Lib.itoa_nonneg]; exact dec_mem u
theorem itoa_ne (k : Int) (h : 0 ≤ k) : Lib.itoa k ≠ [] := by
  obtain ⟨u, rfl⟩ : ∃ u : Nat, k = u := ⟨k.toNat, by omega⟩
  rw [Lib.itoa_nonneg]
  obtain ⟨c, r, h, _⟩ := dec_head u
  rw [h]; simp
theorem index_not : ∀ (l : List UInt8) (c : UInt8), c ∉ l → Lib.indexByte l c = -1
  | [], _, _ => rfl
  | b :: l, c, h => by
    unfold Lib.indexByte
    have hb : ¬ (b == c) = true := by intro hb; apply h; rw [show b = c by simpa using hb]; simp
    rw [if_neg hb, index_not l c (fun hm => h (by simp [hm]))]; rfl
theorem index_app : ∀ (x l : List UInt8) (c : UInt8), c ∉ x → Lib.indexByte (x ++ c :: l) c = x.length
  | [], l, c, _ => by unfold Lib.indexByte; simp
  | b :: x, l, c, h => by
    have hb : ¬ (b == c) = true := by intro hb; apply h; rw [show b = c by simpa using hb]; simp
    have := index_app x l c (fun hm => h (by simp [hm]))
    rw [List.cons_append]
    unfold Lib.indexByte
    rw [if_neg hb, this, if_neg (by simp)]
    simp
theorem cutB_app {x l : List UInt8} {c : UInt8} (h : c ∉ x) : cutB c (x ++ c :: l) = (x, l, true) := by
  unfold cutB
  rw [index_app x l c h, if_neg (by omega)]
  simp
theorem index_split {c : UInt8} : ∀ {l : List UInt8} {i : Nat}, Lib.indexByte l c = (i : Int) → l = l.take i ++ c :: l.drop (i + 1)
  | [], i, h => by simp [Lib.indexByte] at h
  | b :: l, i, h => by
    unfold Lib.indexByte at h
    by_cases hb : (b == c) = true
    · rw [if_pos hb] at h
      obtain rfl : i = 0 := by omega
      simp; simpa using hb
    · rw [if_neg hb] at h
      by_cases hi : (Lib.indexByte l c == -1) = true
      · rw [if_pos hi] at h; omega
      · rw [if_neg hi] at h
        have h3 := Lib.indexByte_ge l c
        have hi' : Lib.indexByte l c ≠ -1 := by simpa using hi
        have hj : Lib.indexByte l c = ((Lib.indexByte l c).toNat : Int) := by omega
        obtain ⟨j, hjj⟩ : ∃ j, j = (Lib.indexByte l c).toNat := ⟨_, rfl⟩
        rw [← hjj] at hj
        obtain rfl : i = j + 1 := by omega
        have := index_split hj
        simp only [List.take_succ_cons, List.drop_succ_cons, List.cons_append]
        rw [← this]
theorem cutB_yes {l : List UInt8} {c : UInt8} (h : (cutB c l).2.2 = true) : l = (cutB c l).1 ++ c :: (cutB c l).2.1 := by
  unfold cutB at h ⊢
  split
  · rename_i hi; rw [if_pos hi] at h; cases h
  · rename_i hi
    dsimp only
    have h0 := Lib.indexByte_ge l c
    have hj : Lib.indexByte l c = ((Lib.indexByte l c).toNat : Int) := by omega
    have h2 := index_split hj
    exact h2
theorem catT_parse {l : List UInt8} {p : List Int} {n : Int} (h : parseB l = some (p, n)) : catT p n = l := by
  unfold parseB parseC at h
  split at h
  · cases h
  · rename_i k hk
    have hkl := (numB_some hk).2.2
    split at h
    · cases h
    · rename_i hok
      have hc := cutB_yes (l := l) (c := 47) (by simpa using hok)
      split at h
      · rename_i hw
        simp only [Option.some.injEq, Prod.mk.injEq] at h
        obtain ⟨rfl, rfl⟩ := h
        rw [hw, ← hkl] at hc
        rw [hc]; rfl
      · rename_i hw
        cases hp : pathS [] (splitB 46 (cutB 47 l).1) with
        | none => rw [hp] at h; cases h
        | some q =>
          rw [hp] at h
          simp only [Option.map_some, Option.some.injEq, Prod.mk.injEq] at h
          obtain ⟨rfl, rfl⟩ := h
          obtain ⟨ks, h1, h2⟩ := pathS_map _ _ _ hp
          rw [List.nil_append] at h1
          subst h1
          unfold catT
          rw [pathT_join, h2, join_split, hkl, ← hc]
theorem fitsB_iff (p : List Int) (n : Int) : fitsB p n = true ↔ 0 ≤ n ∧ n ≤ 65535 ∧ p.length ≤ 6 ∧ ∀ k ∈ p, 0 ≤ k ∧ k ≤ 1048576 := by
  unfold fitsB
  simp only [Bool.and_eq_true, decide_eq_true_eq, List.all_eq_true]
  constructor
  · rintro ⟨⟨⟨a, b⟩, c⟩, d⟩; exact ⟨a, b, c, d⟩
  · rintro ⟨a, b, c, d⟩; exact ⟨⟨⟨a, b⟩, c⟩, d⟩
theorem pathT_mem : ∀ p : List Int, (∀ k ∈ p, 0 ≤ k) → ∀ c ∈ pathT p, c = 46 ∨ (48 ≤ c.toNat ∧ c.toNat ≤ 57)
  | [], _, c, h => by simp [pathT] at h
  | [k], hk, c, h => .inr (itoa_mem (hk k (by simp)) c h)
  | k :: b :: l, hk, c, h => by
    simp only [pathT] at h
    rcases List.mem_append.1 h with h | h
    · exact .inr (itoa_mem (hk k (by simp)) c h)
    · rcases List.mem_cons.1 h with h | h
      · exact .inl h
      · exact pathT_mem (b :: l) (fun x hx => hk x (List.mem_cons_of_mem _ hx)) c h
theorem pathT_nil {p : List Int} (hk : ∀ k ∈ p, 0 ≤ k) (h : pathT p = []) : p = [] := by
  match p, h with
  | [], _ => rfl
  | [k], h => exact absurd h (itoa_ne k (hk k (by simp)))
  | k :: b :: l, h => simp [pathT] at h
theorem parse_catT {p : List Int} {n : Int} (h : fitsB p n = true) : parseB (catT p n) = some (p, n) := by
  obtain ⟨h1, h2, h3, h4⟩ := (fitsB_iff p n).1 h
  have h0 : ∀ k ∈ p, 0 ≤ k := fun k hk => (h4 k hk).1
  have hno : (47 : UInt8) ∉ pathT p := fun hm => by
    rcases pathT_mem p h0 47 hm with h | h
    · exact absurd h (by decide)
    · exact absurd h.1 (by decide)
  unfold parseB catT
  rw [cutB_app hno]
  unfold parseC
  rw [numB_itoa n 65535 h1 h2 (by decide)]
  dsimp only
  rw [if_neg (by simp)]
  by_cases hp : pathT p = []
  · rw [if_pos hp, pathT_nil h0 hp]
  · rw [if_neg hp]
    have hpn : p ≠ [] := by rintro rfl; exact hp rfl
    have hs : splitB 46 (pathT p) = p.map Lib.itoa := by
      rw [pathT_join]
      refine split_join _ (by simpa using hpn) ?_
      intro x hx hm
      obtain ⟨k, hk, rfl⟩ := List.mem_map.1 hx
      exact absurd (itoa_mem (h0 k hk) 46 hm).1 (by decide)
    rw [hs, pathS_ok p [] h4 (by simpa using h3)]
    rfl
/-- Parse finds just what is named. -/
theorem parse_iff {l : List UInt8} {p : List Int} {n : Int} : parseB l = some (p, n) ↔ fitsB p n = true ∧ catT p n = l := by
  constructor
  · intro h
    obtain ⟨a, b, c, d⟩ := parseB_range h
    exact ⟨(fitsB_iff p n).2 ⟨c, d, b, a⟩, catT_parse h⟩
  · rintro ⟨h1, rfl⟩
    exact parse_catT h1
theorem parse_inj {a b : List UInt8} {x : List Int × Int} (h1 : parseB a = some x) (h2 : parseB b = some x) : a = b := by
  obtain ⟨p, n⟩ := x
  rw [← catT_parse h1, ← catT_parse h2]
/-! the order -/
theorem cmpL_self : ∀ p : List Int, cmpL p p = 0
  | [] => rfl
  | x :: p => by simp [cmpL, cmpL_self p]
theorem cmpL_zero : ∀ p q : List Int, cmpL p q = 0 → p = q
  | [], [], _ => rfl
  | [], _ :: _, h => by simp [cmpL] at h
  | _ :: _, [], h => by simp [cmpL] at h
  | x :: p, y :: q, h => by
    simp only [cmpL] at h
    split at h
    · cases h
    · split at h
      · cases h
      · rw [show x = y by omega, cmpL_zero p q h]
theorem cmpL_val : ∀ p q : List Int, cmpL p q = -1 ∨ cmpL p q = 0 ∨ cmpL p q = 1
  | [], [] => by simp [cmpL]
  | [], _ :: _ => by simp [cmpL]
  | _ :: _, [] => by simp [cmpL]
  | x :: p, y :: q => by
    simp only [cmpL]
    split
    · simp
    · split
      · simp
      · exact cmpL_val p q
theorem cmpL_neg : ∀ p q : List Int, cmpL q p = -cmpL p q
  | [], [] => by simp [cmpL]
  | [], _ :: _ => by simp [cmpL]
  | _ :: _, [] => by simp [cmpL]
  | x :: p, y :: q => by
    simp only [cmpL]
    by_cases h1 : x < y
    · rw [if_neg (by omega), if_pos h1, if_pos h1]; rfl
    · by_cases h2 : y < x
      · rw [if_pos h2, if_neg h1, if_pos h2]
      · rw [if_neg h2, if_neg h1, if_neg h1, if_neg h2]; exact cmpL_neg p q
theorem cmpL_trans : ∀ p q r : List Int, cmpL p q ≤ 0 → cmpL q r ≤ 0 → cmpL p r ≤ 0 ∧ (cmpL p r = 0 → cmpL p q = 0 ∧ cmpL q r = 0)
  | [], [], [], _, _ => by simp [cmpL]
  | [], [], _ :: _, _, _ => by simp [cmpL]
  | [], _ :: _, [], _, h => by simp [cmpL] at h
  | [], _ :: _, _ :: _, _, _ => by simp [cmpL]
  | _ :: _, [], _, h, _ => by simp [cmpL] at h
  | _ :: _, _ :: _, [], _, h => by simp [cmpL] at h
  | x :: p, y :: q, z :: r, h1, h2 => by
    have ih := cmpL_trans p q r
    simp only [cmpL] at h1 h2 ⊢
    by_cases a : x < y <;> by_cases b : y < x <;> by_cases c : y < z <;> by_cases d : z < y <;> simp only [a, b, c, d, if_true, if_false] at h1 h2 ⊢ <;> first
      | omega
      | (rw [if_pos (by omega)]; simp)
      | (rw [if_neg (by omega), if_neg (by omega)]; exact ih h1 h2)
theorem cmpS_eq (a b : List UInt8) : cmpS a b = if a < b then -1 else if a = b then 0 else 1 := by
  unfold cmpS
  rw [bytesLess_eq]
  simp
theorem ltL_irrefl (a : List UInt8) : ¬ a < a := List.lt_irrefl a
theorem ltL_trans {a b c : List UInt8} (h1 : a < b) (h2 : b < c) : a < c := List.lt_trans h1 h2
theorem ltL_tri (a b : List UInt8) (h : ¬ a < b) (hne : a ≠ b) : b < a := by
  by_cases h2 : b < a
  · exact h2
  · exact absurd (List.le_antisymm (List.not_lt.1 h2) (List.not_lt.1 h)) hne
theorem cmpS_neg (a b : List UInt8) : cmpS b a = -cmpS a b := by
  rw [cmpS_eq, cmpS_eq]
  by_cases he : a = b
  · subst he; simp [ltL_irrefl]
  · by_cases h : a < b
    · have h2 : ¬ b < a := fun h2 => ltL_irrefl a (ltL_trans h h2)
      simp [h, h2, Ne.symm he]
    · have h2 := ltL_tri a b h he
      simp [h, h2, he]
theorem cmpS_zero {a b : List UInt8} (h : cmpS a b = 0) : a = b := by
  rw [cmpS_eq] at h
  split at h
  · cases h
  · split at h
    · assumption
    · cases h
theorem cmpS_trans {a b c : List UInt8} (h1 : cmpS a b ≤ 0) (h2 : cmpS b c ≤ 0) : cmpS a c ≤ 0 := by
  have g : ∀ x y : List UInt8, cmpS x y ≤ 0 ↔ x < y ∨ x = y := fun x y => by
    rw [cmpS_eq]
    by_cases h : x < y
    · simp [h]
    · by_cases he : x = y
      · simp [he]; split <;> simp
      · simp [h, he]
  rw [g] at h1 h2 ⊢
  rcases h1 with h1 | rfl
  · rcases h2 with h2 | rfl
    · exact .inl (ltL_trans h1 h2)
    · exact .inl h1
  · exact h2
theorem cmpI_neg (x y : Int) : Lib.compareInt y x = -Lib.compareInt x y := by
  unfold Lib.compareInt
  by_cases h1 : x < y
  · rw [if_neg (by omega), if_pos (by omega), if_pos h1]; rfl
  · by_cases h2 : y < x
    · rw [if_pos h2, if_neg h1, if_pos (by omega)]
    · rw [if_neg h2, if_neg (by omega), if_neg h1, if_neg (by omega)]; rfl
theorem cmpI_zero {x y : Int} (h : Lib.compareInt x y = 0) : x = y := by
  unfold Lib.compareInt at h
  split at h
  · cases h
  · split at h
    · cases h
    · omega
theorem cmpI_le {x y : Int} : Lib.compareInt x y ≤ 0 ↔ x ≤ y := by
  unfold Lib.compareInt
  split
  · simp; omega
  · split
    · simp; omega
    · simp; omega
theorem cmpB_neg (a b : List UInt8) : cmpB b a = -cmpB a b := by
  unfold cmpB
  cases ha : parseB a with
  | none =>
    cases hb : parseB b with
    | none => exact cmpS_neg a b
    | some y => rfl
  | some x =>
    cases hb : parseB b with
    | none => rfl
    | some y =>
      obtain ⟨p, m⟩ := x
      obtain ⟨q, n⟩ := y
      dsimp only
      rw [cmpL_neg p q]
      by_cases h : cmpL p q = 0
      · rw [if_pos (by omega), if_pos h, cmpI_neg]
      · rw [if_neg (by omega), if_neg h]
theorem cmpB_zero {a b : List UInt8} (h : cmpB a b = 0) : a = b := by
  unfold cmpB at h
  cases ha : parseB a with
  | none =>
    cases hb : parseB b with
    | none => rw [ha, hb] at h; exact cmpS_zero h
    | some y => rw [ha, hb] at h; cases h
  | some x =>
    cases hb : parseB b with
    | none => rw [ha, hb] at h; cases h
    | some y =>
      obtain ⟨p, m⟩ := x
      obtain ⟨q, n⟩ := y
      rw [ha, hb] at h
      dsimp only at h
      split at h
      · rename_i hc
        have := cmpL_zero p q hc
        have := cmpI_zero h
        subst_vars
        exact parse_inj ha hb
      · contradiction
theorem cmpB_self (a : List UInt8) : cmpB a a = 0 := by have := cmpB_neg a a; omega
theorem cmpB_trans {a b c : List UInt8} (h1 : cmpB a b ≤ 0) (h2 : cmpB b c ≤ 0) : cmpB a c ≤ 0 := by
  unfold cmpB at h1 h2 ⊢
  cases ha : parseB a <;> cases hb : parseB b <;> cases hc : parseB c <;> simp only [ha, hb, hc] at h1 h2 ⊢ <;> first
    | exact cmpS_trans h1 h2
    | omega
    | skip
  rename_i x y z
  obtain ⟨p, m⟩ := x
  obtain ⟨q, n⟩ := y
  obtain ⟨r, k⟩ := z
  dsimp only at h1 h2 ⊢
  have g1 : cmpL p q ≤ 0 := by split at h1 <;> omega
  have g2 : cmpL q r ≤ 0 := by split at h2 <;> omega
  obtain ⟨t1, t2⟩ := cmpL_trans p q r g1 g2
  split
  · rename_i h0
    obtain ⟨u1, u2⟩ := t2 h0
    rw [if_pos u1] at h1
    rw [if_pos u2] at h2
    rw [cmpI_le] at h1 h2 ⊢
    omega
  · exact t1
end Go.Proofs.YtgdadhpcooegnaaDoor
