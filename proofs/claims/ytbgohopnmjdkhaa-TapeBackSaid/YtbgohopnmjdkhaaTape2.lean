/- Layer 3's reference: its encodings. -/
import Derived.Test.YtbgohopnmjdkhaaTape1
import Derived.Deep.RegionWith
namespace Go.Proofs.Ytbgohopnmjdkhaa
open Go.RowKit
theorem run_str1 {P : Program} (w : World) (b : UInt8) (src dst e : TypeId) (hs : P.underlying src = some (.slice e)) (he : P.underlying e = some (.int .u8)) (hd : P.underlying dst = some .string) (n : Int) (hn : n = (b.toNat : Int)) (g : Nat) (hg : w.heap[g]? = some (.cells #[.int .u8 n] e (0, 0))) :
    (convert src dst (.slice (some ⟨g, 0, none⟩) 1 1)).run P w = .ok (.string (mkStr [b])) w := by
  subst hn
  refine run_convert_bytes_back w src dst e ⟨g, 0, none⟩ 1 [b] hs he hd (fun j hj => ?_)
  have : j = 0 := by simpa using hj
  subst this
  simp [Addr.add, World.cell?, hg]
theorem run_str1_new {P : Program} (b : UInt8) (src dst e : TypeId) (hs : P.underlying src = some (.slice e)) (he : P.underlying e = some (.int .u8)) (hd : P.underlying dst = some .string) (n : Int) (hn : n = (b.toNat : Int)) (w : World) :
    (convert src dst (.slice (some ⟨w.heap.size, 0, none⟩) 1 1)).run P (w.alloc (.cells #[.int .u8 n] e)) = .ok (.string (mkStr [b])) (w.alloc (.cells #[.int .u8 n] e)) :=
  run_str1 _ b src dst e hs he hd n hn _ (heap_alloc_new w _)
theorem run_str1_drew {P : Program} (b : UInt8) (src dst e : TypeId) (hs : P.underlying src = some (.slice e)) (he : P.underlying e = some (.int .u8)) (hd : P.underlying dst = some .string) (n : Int) (hn : n = (b.toNat : Int)) (w : World) :
    (convert src dst (.slice (some ⟨w.heap.size, 0, none⟩) 1 1)).run P (w.alloc (.cells #[.int .u8 n] e)).drew = .ok (.string (mkStr [b])) (w.alloc (.cells #[.int .u8 n] e)).drew :=
  run_str1 _ b src dst e hs he hd n hn _ (heap_alloc_new w _)
set_option maxRecDepth 100000 in
theorem refnum_small (n : Int) (w : World) (h0 : 0 ≤ n) (hlt : n < 128) :
    Calls Try.prog 9 #[.int .i64 n] w fun e w' => e = .returned (.string (mkStr [u8 n])) ∧ Mod (fun _ => False) w w' := by
  have hcv := run_str1_new (P := Try.prog) (u8 n) 25 9 5 Try.underlying25 Try.underlying5 Try.underlying9 n (u8_toNat n h0 (by omega)).symm w
  go_enter Try.func9, Try.ntmps9
  go_wp2
  go_ret
  exact ⟨rfl, (Mod.refl _ _).alloc _⟩
theorem mkStr_append (a b : List UInt8) : mkStr a ++ mkStr b = mkStr (a ++ b) := by
  apply ByteArray.ext; simp [mkStr]
theorem run_add_strs {P : Program} (a b : List UInt8) (h : a.length + b.length ≤ 9223372036854775807) (w : World) : (Op.stringOp .add (mkStr a) (mkStr b)).run P w = .ok (.string (mkStr (a ++ b))) w := by
  rw [run_string_add_sum w _ _ (by rw [mkStr_size, mkStr_size]; exact h), mkStr_append]
set_option maxRecDepth 100000 in
set_option maxHeartbeats 400000 in
theorem refnum_any (f : Nat) : f ≤ 100 → ∀ (n : Int) (w : World), 0 ≤ n → n ≤ 4611686018427387903 → n < 128 ^ (f + 1) →
    Calls Try.prog 9 #[.int .i64 n] w fun e w' => e = .returned (.string (mkStr (encF (f + 1) n))) ∧ Mod (fun _ => False) w w' := by
  induction f with
  | zero =>
    intro _ n w h0 h1 hf
    have hlt : n < 128 := by simpa using hf
    rw [encF_lt _ _ hlt]
    exact refnum_small n w h0 hlt
  | succ f ih =>
    intro hf0 n w h0 h1 hf
    by_cases hlt : n < 128
    · rw [encF_lt _ _ hlt]
      exact refnum_small n w h0 hlt
    have hf2 : n / 128 < 128 ^ (f + 1) := by
      rw [Int.pow_succ] at hf; generalize (128 : Int) ^ (f + 1) = p at *; omega
    rw [encF_ge _ _ hlt]
    have IH := fun W => ih (by omega) (n / 128) W (by omega) (by omega) hf2
    clear hf ih hf2
    have hq : n.tdiv 128 = n / 128 := Int.tdiv_eq_ediv_of_nonneg h0
    have hr : n.tmod 128 = n % 128 := Int.tmod_eq_emod_of_nonneg h0
    have hw1 : IntKind.i64.wrap (n / 128) = n / 128 := IntWalk.i64_in _ (by omega)
    have hw2 : IntKind.i64.wrap (128 + n % 128) = n % 128 + 128 := (IntWalk.i64_in _ (by omega)).trans (by omega)
    have hw3 : IntKind.u8.wrap (n % 128 + 128) = n % 128 + 128 := IntWalk.u8_in _ (by omega)
    have hcv := run_str1_new (P := Try.prog) (u8 (n % 128 + 128)) 25 9 5 Try.underlying25 Try.underlying5 Try.underlying9 (n % 128 + 128) (u8_toNat _ (by omega) (by omega)).symm
    have hcd := run_str1_drew (P := Try.prog) (u8 (n % 128 + 128)) 25 9 5 Try.underlying25 Try.underlying5 Try.underlying9 (n % 128 + 128) (u8_toNat _ (by omega) (by omega)).symm
    have hadd := run_add_strs (P := Try.prog) [u8 (n % 128 + 128)] (encF (f + 1) (n / 128)) (by have := encF_len (f + 1) (n / 128); simp; omega)
    go_enter Try.func9, Try.ntmps9
    go_wp2
    go_region_with (first | (go_at_call 9; refine (IH _).mono ?_; rintro e w' ⟨rfl, HM⟩; try (have hc2 := run_str1 (P := Try.prog) w' (u8 (n % 128 + 128)) 25 9 5 Try.underlying25 Try.underlying5 Try.underlying9 (n % 128 + 128) (u8_toNat _ (by omega) (by omega)).symm w.heap.size ((HM.block w.heap.size (by simp) (fun h => h)).trans (heap_alloc_new w _)))))
    all_goals
      clear hcv hcd hadd hw1 hw2 hw3 hq hr
      go_wp2
      go_ret
      first
        | exact ⟨rfl, ((Mod.refl _ w).drew.trans HM (by simp)).alloc _⟩
        | exact ⟨rfl, (((Mod.refl _ w).alloc _).drew.trans HM (by simp))⟩
        | exact ⟨rfl, (((Mod.refl _ w).drew.alloc _).trans HM (by simp))⟩
def flagStr (b : Bool) : ByteArray := mkStr [flagB b]
set_option maxRecDepth 100000 in
theorem refflag_any (b : Bool) (w : World) :
    Calls Try.prog 11 #[.bool b] w fun e w' => e = .returned (.string (mkStr [flagB b])) ∧ w = w' := by
  cases b <;>
  · go_enter Try.func11, Try.ntmps11
    go_wp2
    go_ret
    exact ⟨rfl, rfl⟩
set_option maxRecDepth 100000 in
theorem reftext_any (s : ByteArray) (hs : s.size ≤ 1000000000) (w : World) :
    Calls Try.prog 13 #[.string s] w fun e w' => e = .returned (.string (mkStr (encF 10 s.size ++ s.data.toList))) ∧ Mod (fun _ => False) w w' := by
  have hadd := run_add_strs (P := Try.prog) (encF 10 s.size) s.data.toList (by have := encF_len 10 (s.size : Int); simp; omega)
  rw [list_mkStr] at hadd
  go_enter Try.func13, Try.ntmps13
  go_wp2_with (go_at_call 9; refine (refnum_any 9 (by decide) s.size _ (by omega) (by omega) (by omega)).mono ?_; rintro e w' ⟨rfl, HM⟩)
  go_ret
  exact ⟨rfl, HM⟩
end Go.Proofs.Ytbgohopnmjdkhaa
