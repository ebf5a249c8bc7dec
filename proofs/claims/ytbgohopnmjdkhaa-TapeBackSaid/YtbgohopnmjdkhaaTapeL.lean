/- Layer 3, plain law: what is written is read again, and what is read is what was written. No program in it. -/
import Derived.Test.YtbgohopnmjdkhaaTape4
namespace Go.Proofs.Ytbgohopnmjdkhaa
open Go.RowKit
theorem decF_enc (f : Nat) : ∀ (i : Nat) (a n : Int) (rest : List UInt8), 0 ≤ n → n < 128 ^ (f + 1) → n * 128 ^ i ≤ 4611686018427387903 → (0 < i → 0 < n) →
    decF i a (encF (f + 1) n ++ rest) = (a + n * 128 ^ i, (i : Int) + (encF (f + 1) n).length, 0) := by
  induction f with
  | zero =>
    intro i a n rest h0 h1 h2 h3
    have hlt : n < 128 := by simpa using h1
    rw [encF_lt _ _ hlt]
    have hi : ¬ i = 9 := by
      rintro rfl
      have := h3 (by decide)
      have e : (128 : Int) ^ 9 = 9223372036854775808 := by decide
      rw [e] at h2; omega
    have ht := u8_toNat n h0 (by omega)
    simp only [List.cons_append, List.nil_append, decF]
    rw [if_neg hi, if_neg (by omega), if_neg (by rintro ⟨e, hp⟩; have := h3 hp; omega), ht]
    simp
  | succ f ih =>
    intro i a n rest h0 h1 h2 h3
    by_cases hlt : n < 128
    · rw [encF_lt _ _ hlt]
      have hi : ¬ i = 9 := by
        rintro rfl
        have := h3 (by decide)
        have e : (128 : Int) ^ 9 = 9223372036854775808 := by decide
        rw [e] at h2; omega
      have ht := u8_toNat n h0 (by omega)
      simp only [List.cons_append, List.nil_append, decF]
      rw [if_neg hi, if_neg (by omega), if_neg (by rintro ⟨e, hp⟩; have := h3 hp; omega), ht]
      simp
    · rw [encF_ge _ _ hlt]
      have hi : ¬ i = 9 := by
        rintro rfl
        have e : (128 : Int) ^ 9 = 9223372036854775808 := by decide
        rw [e] at h2; omega
      have ht := u8_toNat (n % 128 + 128) (by omega) (by omega)
      have hp : (0 : Int) < 128 ^ i := Int.pow_pos (by decide)
      have hsum : (n % 128) * 128 ^ i + (n / 128) * 128 ^ (i + 1) = n * 128 ^ i := by
        rw [Int.pow_succ]
        have e : n = n % 128 + 128 * (n / 128) := by omega
        conv => rhs; rw [e]
        rw [Int.add_mul, Int.mul_comm 128 (n / 128), Int.mul_assoc (n / 128) 128, Int.mul_comm 128 (128 ^ i)]
      simp only [List.cons_append, decF]
      rw [if_neg hi, if_pos (by omega), ht]
      have h128 : (n / 128) * 128 ^ (i + 1) ≤ 4611686018427387903 := by
        have : 0 ≤ (n % 128) * 128 ^ i := Int.mul_nonneg (by omega) (by omega)
        omega
      rw [ih (i + 1) _ (n / 128) rest (by omega) (by rw [Int.pow_succ] at h1; generalize (128 : Int) ^ (f + 1) = p at *; omega) h128 (fun _ => by omega)]
      simp only [Prod.mk.injEq, and_true, List.length_cons]
      refine ⟨?_, by omega⟩
      rw [← hsum]
      have : n % 128 + 128 - 128 = n % 128 := by omega
      rw [this]; omega
theorem decF_inv (bs : List UInt8) : ∀ (i : Nat) (a : Int), i ≤ 9 → (decF i a bs).2.2 = 0 →
    ∃ n : Int, 0 ≤ n ∧ (0 < i → 0 < n) ∧ (decF i a bs).1 = a + n * 128 ^ i ∧ bs = encF (10 - i) n ++ bs.drop ((decF i a bs).2.1.toNat - i) := by
  induction bs with
  | nil => intro i a _ h; simp [decF] at h
  | cons c r ih =>
    intro i a hi h
    have hc := c.toNat_lt
    unfold decF at h ⊢
    split at h
    · simp at h
    rename_i h9
    rw [if_neg h9]
    split at h
    · rename_i h2
      rw [if_pos h2]
      obtain ⟨n, n0, np, hx, hb⟩ := ih (i + 1) _ (by omega) h
      have hpos := np (by omega)
      have hk := (decF_ok r (i + 1) (a + ((c.toNat : Int) - 128) * 128 ^ i))
      refine ⟨((c.toNat : Int) - 128) + 128 * n, by omega, fun _ => by omega, ?_, ?_⟩
      · rw [hx, Int.pow_succ, Int.add_mul, Int.mul_comm 128 n, Int.mul_assoc n 128, Int.mul_comm 128 (128 ^ i)]; omega
      · have e : 10 - i = (9 - i) + 1 := by omega
        rw [e, encF_ge _ _ (by omega)]
        have e1 : ((c.toNat : Int) - 128 + 128 * n) % 128 + 128 = (c.toNat : Int) := by omega
        have e2 : ((c.toNat : Int) - 128 + 128 * n) / 128 = n := by omega
        rw [e1, e2, u8_back, List.cons_append]
        have hk2 : ((i + 1 : Nat) : Int) < (decF (i + 1) (a + ((c.toNat : Int) - 128) * 128 ^ i) r).2.1 := by
          have : ∀ (bs : List UInt8) (i : Nat) (n : Int), (decF i n bs).2.2 = 0 → (i : Int) < (decF i n bs).2.1 := by
            intro bs
            induction bs with
            | nil => intro i n h; simp [decF] at h
            | cons c r ih =>
              intro i n h
              unfold decF at h ⊢
              split at h
              · simp at h
              split at h
              · rename_i h1 h2; rw [if_neg h1, if_pos h2]; have := ih _ _ h; omega
              split at h
              · simp at h
              rename_i h1 h2 h3; rw [if_neg h1, if_neg h2, if_neg h3]; simp only; omega
          exact this r _ _ h
        have e3 : (decF (i + 1) (a + ((c.toNat : Int) - 128) * 128 ^ i) r).2.1.toNat - i = ((decF (i + 1) (a + ((c.toNat : Int) - 128) * 128 ^ i) r).2.1.toNat - (i + 1)) + 1 := by omega
        rw [e3, List.drop_succ_cons]
        congr 1
        have e4 : 10 - (i + 1) = 9 - i := by omega
        rw [e4] at hb
        exact hb
    · rename_i h2
      rw [if_neg h2]
      split at h
      · simp at h
      rename_i h3
      rw [if_neg h3]
      refine ⟨c.toNat, by omega, fun hp => ?_, rfl, ?_⟩
      · have : ¬ c.toNat = 0 := fun e => h3 ⟨e, hp⟩
        omega
      · have e : 10 - i = (9 - i) + 1 := by omega
        rw [e, encF_lt _ _ (by omega), u8_back]
        have : ((i : Int) + 1).toNat - i = 1 := by omega
        simp only [this]
        rfl
theorem numD_enc {most n : Int} (rest : List UInt8) (h0 : 0 ≤ n) (h1 : n ≤ 4611686018427387903) (hm : n ≤ most) : numD most (encF 10 n ++ rest) = (n, rest, 0) := by
  have h := decF_enc 9 0 0 n rest h0 (by omega) (by simpa using h1) (by omega)
  have h' : decF 0 0 (encF 10 n ++ rest) = (n, ((encF 10 n).length : Int), 0) := by rw [h]; simp
  unfold numD
  rw [h']
  simp only [ne_eq, not_true_eq_false, if_false]
  rw [if_neg (by omega)]
  simp
theorem numD_inv {most : Int} {bs : List UInt8} (h : (numD most bs).2.2 = 0) : bs = encF 10 (numD most bs).1 ++ (numD most bs).2.1 := by
  unfold numD at h ⊢
  split at h
  · rename_i h1; exact absurd h h1
  rename_i h1
  rw [if_neg h1]
  split at h
  · simp at h
  rename_i h2
  rw [if_neg h2]
  obtain ⟨n, n0, _, hx, hb⟩ := decF_inv bs 0 0 (by omega) (by simpa using h1)
  have hx' : (decF 0 0 bs).1 = n := by rw [hx]; simp
  simp only [hx']
  simpa using hb
theorem textD_enc {most : Int} (s rest : List UInt8) (hs : (s.length : Int) ≤ most) (hl : s.length ≤ 4611686018427387903) : textD most (encF 10 s.length ++ (s ++ rest)) = (s, rest, 0) := by
  unfold textD
  rw [numD_enc (s ++ rest) (by omega) (by omega) hs]
  simp
  omega
theorem textD_inv {most : Int} {bs : List UInt8} (h : (textD most bs).2.2 = 0) : bs = encF 10 ((textD most bs).1.length) ++ (textD most bs).1 ++ (textD most bs).2.1 ∧ ((textD most bs).1.length : Int) = (numD most bs).1 := by
  have hn0 := numD_nonneg most bs
  unfold textD at h ⊢
  split at h
  · rename_i h1; exact absurd h h1
  rename_i h1
  rw [if_neg h1]
  split at h
  · simp at h
  rename_i h2
  rw [if_neg h2]
  have hb := numD_inv (most := most) (bs := bs) (by simpa using h1)
  have hl : ((numD most bs).2.1.take (numD most bs).1.toNat).length = (numD most bs).1.toNat := by rw [List.length_take]; omega
  have e : (((numD most bs).1.toNat : Nat) : Int) = (numD most bs).1 := by omega
  simp only [hl, e, and_true]
  rw [List.append_assoc, List.take_append_drop]
  exact hb
theorem numD_le {most : Int} {bs : List UInt8} (h : (numD most bs).2.2 = 0) : (numD most bs).1 ≤ most := by
  unfold numD at h ⊢
  split at h
  · rename_i h1; exact absurd h h1
  rename_i h1
  rw [if_neg h1]
  split at h
  · simp at h
  rename_i h2
  rw [if_neg h2]
  simp only; omega
end Go.Proofs.Ytbgohopnmjdkhaa
