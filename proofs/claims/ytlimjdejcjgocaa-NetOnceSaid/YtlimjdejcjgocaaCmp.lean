/- cmp.Compare and cmp.Or of two numbers. -/
import Derived.Test.YtlimjdejcjgocaaBase
import Derived.Test.YtlimjdejcjgocaaChecked
namespace Go.Proofs.Ytlimjdejcjgocaa
open Go.RowKit
set_option linter.unusedVariables false
def cmpK (x y : Int) : Int := if x < y then -1 else if y < x then 1 else 0
def orK (x y : Int) : Int := if x = 0 then y else x
set_option maxRecDepth 100000 in
theorem kcompare (x y : Int) (w : World) : Calls Try.prog 25 #[.int .i64 x, .int .i64 y] w fun e w' => e = .returned (.int .i64 (cmpK x y)) ∧ w' = w := by
  have HN : ∀ (z : Int), Calls Try.prog 31 #[.int .i64 z] w fun e w' => e = .returned (.bool false) ∧ w = w' := by
    intro z
    have hz : (z == z) = true := by simp
    go_enter Try.func31, Try.ntmps31
    go_wp2
    go_ret
    exact ⟨by simp, rfl⟩
  have H1 := Lib.hid HN; clear HN
  rcases Int.lt_trichotomy x y with h | h | h
  · have hd : decide (x < y) = true := by simpa using h
    have HB : Hid (cmpK x y = -1) := by show cmpK x y = -1; unfold cmpK; rw [if_pos h]
    clear h
    go_enter Try.func25, Try.ntmps25
    go_wp2_with fail
    refine (H1.out x).mono ?_
    rintro e w' ⟨rfl, rfl⟩
    go_wp2_with fail
    refine (H1.out y).mono ?_
    rintro e w' ⟨rfl, rfl⟩
    go_wp2
    go_ret
    exact ⟨by rw [HB.out]; rfl, rfl⟩
  · have hd : decide (x < y) = false := by simp; omega
    have hd2 : decide (y < x) = false := by simp; omega
    have HB : Hid (cmpK x y = 0) := by show cmpK x y = 0; unfold cmpK; rw [if_neg (by omega), if_neg (by omega)]
    clear h
    go_enter Try.func25, Try.ntmps25
    go_wp2_with fail
    refine (H1.out x).mono ?_
    rintro e w' ⟨rfl, rfl⟩
    go_wp2_with fail
    refine (H1.out y).mono ?_
    rintro e w' ⟨rfl, rfl⟩
    go_wp2
    go_ret
    exact ⟨by rw [HB.out]; rfl, rfl⟩
  · have hd : decide (x < y) = false := by simp; omega
    have hd2 : decide (y < x) = true := by simp; omega
    have HB : Hid (cmpK x y = 1) := by show cmpK x y = 1; unfold cmpK; rw [if_neg (by omega), if_pos h]
    clear h
    go_enter Try.func25, Try.ntmps25
    go_wp2_with fail
    refine (H1.out x).mono ?_
    rintro e w' ⟨rfl, rfl⟩
    go_wp2_with fail
    refine (H1.out y).mono ?_
    rintro e w' ⟨rfl, rfl⟩
    go_wp2
    go_ret
    exact ⟨by rw [HB.out]; rfl, rfl⟩
set_option maxRecDepth 100000 in
theorem kor2 (x y : Int) (g : Nat) (w : World) (h0 : w.cell? ⟨g, 0, none⟩ = some (.int .i64 x)) (h1 : w.cell? ⟨g, 1, none⟩ = some (.int .i64 y)) : Calls Try.prog 71 #[.slice (some ⟨g, 0, none⟩) 2 2] w fun r w' => r = .returned (.int .i64 (if x = 0 then y else x)) ∧ Mod (fun _ => False) w w' := by
  go_enter Try.func71, Try.ntmps71
  by_cases hx : x = 0
  · subst hx
    by_cases hy : y = 0
    · subst hy
      go_wp2_with fail
      refine wp_loop_rounds 3 ?_
      rw [rounds_succ]
      go_wp2_with fail
      rw [rounds_succ]
      go_wp2_with fail
      rw [rounds_succ]
      go_wp2_with fail
      go_ret
      exact ⟨rfl, .refl _ _⟩
    · have hd : (y == 0) = false := by simpa using hy
      go_wp2_with fail
      refine wp_loop_rounds 2 ?_
      rw [rounds_succ]
      go_wp2_with fail
      rw [rounds_succ]
      go_wp2_with fail
      go_ret
      exact ⟨by simp, .refl _ _⟩
  · have hd : (x == 0) = false := by simpa using hx
    obtain ⟨z, hz⟩ : ∃ z, z = if x = 0 then y else x := ⟨_, rfl⟩
    rw [← hz]
    rw [if_neg hx] at hz
    have HZ := Lib.hid hz; clear hz
    go_wp2_with fail
    refine wp_loop_rounds 1 ?_
    rw [rounds_succ]
    go_wp2_with fail
    go_ret
    rw [HZ.out]
    exact ⟨rfl, .refl _ _⟩
end Go.Proofs.Ytlimjdejcjgocaa
