/- Layer 5, the document's answer: numbers, texts. -/
import Derived.Test.YtgdadhpcooegnaaDoorCats5
namespace Go.Proofs.YtgdadhpcooegnaaDoor
open Go.RowKit Go.Shelf
set_option linter.unusedVariables false
def dig10 : ByteArray := ⟨#[48, 49, 50, 51, 52, 53, 54, 55, 56, 57]⟩
theorem dig10_at (k : Nat) (h : k < 10) : dig10.extract k (k + 1) = ⟨#[48 + UInt8.ofNat k]⟩ := by
  match k, h with
  | 0, _ => rfl
  | 1, _ => rfl
  | 2, _ => rfl
  | 3, _ => rfl
  | 4, _ => rfl
  | 5, _ => rfl
  | 6, _ => rfl
  | 7, _ => rfl
  | 8, _ => rfl
  | 9, _ => rfl
theorem dec_step (m : Nat) (h : 10 ≤ m) : Lib.decDigits m = Lib.decDigits (m / 10) ++ [48 + UInt8.ofNat (m % 10)] := by rw [Lib.decDigits, dif_neg (by omega)]; simp
set_option maxRecDepth 100000 in
set_option maxHeartbeats 1000000 in
theorem num_any (n : Nat) (hn : n < 4611686018427387904) (w : World) :
    Calls Tryd.prog 41 #[.int .i64 n] w fun r w' => r = .returned (encS (Lib.itoa n)) ∧ Mod (fun _ => False) w w' := by
  rw [Lib.itoa_nonneg]
  obtain ⟨z, hz⟩ : ∃ z, z = Lib.decDigits n := ⟨_, rfl⟩
  rw [← hz]
  have HZ := Lib.hid hz; clear hz
  go_enter Tryd.func41, Tryd.ntmps41
  go_wp2_with fail
  go_loopg [0, 4] n (fun f sn ss wr => ∃ (m : Nat) (d : List UInt8), sn = .int .i64 m ∧ ss = .string ⟨d.toArray⟩ ∧ m ≤ f ∧ m ≤ n ∧ z = Lib.decDigits m ++ d ∧ Mod (fun _ => False) w wr)
  case atStart => exact ⟨n, [], rfl, rfl, by omega, by omega, by rw [HZ.out]; simp, .refl _ _⟩
  case round =>
    obtain ⟨m, d, rfl, rfl, hf, hmn, hz, hmod⟩ := hrel
    by_cases h10 : 10 ≤ m
    · have hdl : d.length ≤ 30 := by
        have h1 := congrArg List.length HZ.out
        have h2 := Lib.itoa_length_le (n : Int) (by omega) (by omega)
        rw [Lib.itoa_nonneg] at h2
        rw [hz, List.length_append] at h1
        omega
      have hr : ((m : Int).tmod 10) = ((m % 10 : Nat) : Int) := by rw [Int.tmod_eq_emod_of_nonneg (by omega)]; omega
      have hq : ((m : Int).tdiv 10) = ((m / 10 : Nat) : Int) := by rw [Int.tdiv_eq_ediv_of_nonneg (by omega)]; omega
      have hd := dig10_at (m % 10) (by omega)
      unfold dig10 at hd
      have hcat : (⟨#[48 + UInt8.ofNat (m % 10)]⟩ : ByteArray) ++ ⟨d.toArray⟩ = ⟨((48 + UInt8.ofNat (m % 10)) :: d).toArray⟩ := by apply ByteArray.ext; simp
      obtain ⟨k, hk⟩ : ∃ k, k = m % 10 := ⟨_, rfl⟩
      have hk10 : k < 10 := by omega
      rw [← hk] at hr hd hcat
      have HX := Lib.hid (And.intro hf (And.intro hz (And.intro hmod hk))); clear hf hz hmod hk
      go_wp2_with fail
      go_roundg (gk - 1)
      case measure => have := HX.out.1; omega
      case rel => exact ⟨m / 10, _, by go_num, rfl, by have := HX.out.1; omega, by omega, by rw [HX.out.2.1, dec_step m h10, ← HX.out.2.2.2]; simp, HX.out.2.2.1⟩
    · have hm1 : Lib.decDigits m = [48 + UInt8.ofNat m] := by rw [Lib.decDigits_one (by omega)]; simp
      have hd := dig10_at m (by omega)
      unfold dig10 at hd
      have hdl : d.length ≤ 30 := by
        have h1 := congrArg List.length HZ.out
        have h2 := Lib.itoa_length_le (n : Int) (by omega) (by omega)
        rw [Lib.itoa_nonneg] at h2
        rw [hz, List.length_append] at h1
        omega
      have hcat : (⟨#[48 + UInt8.ofNat m]⟩ : ByteArray) ++ ⟨d.toArray⟩ = ⟨((48 + UInt8.ofNat m) :: d).toArray⟩ := by apply ByteArray.ext; simp
      have HX := Lib.hid (And.intro hz (And.intro hmod hm1)); clear hz hmod hm1 hf
      go_wp2_with fail
      go_ret
      exact ⟨by rw [HX.out.1, HX.out.2.2]; rfl, HX.out.2.1⟩
set_option maxRecDepth 100000 in
theorem Num_any (n : Int) (h0 : 0 ≤ n) (hn : n < 4611686018427387904) (w : World) :
    Calls Tryd.prog 25 #[.int .i64 n] w fun r w' => r = .returned (encS (Lib.itoa n)) ∧ Mod (fun _ => False) w w' := by
  obtain ⟨u, rfl⟩ : ∃ u : Nat, n = u := ⟨n.toNat, by omega⟩
  go_enter Tryd.func25, Tryd.ntmps25
  go_wp2_with fail
  refine (num_any u (by omega) w).mono ?_
  rintro r w1 ⟨rfl, hm⟩
  have H := Lib.hid hm; clear hm
  go_wp2_with fail
  go_ret
  exact ⟨rfl, H.out⟩
end Go.Proofs.YtgdadhpcooegnaaDoor
