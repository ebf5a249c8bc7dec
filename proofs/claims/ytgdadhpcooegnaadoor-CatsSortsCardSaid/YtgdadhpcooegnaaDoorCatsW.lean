/- Layer 5, the laws: the walks in the rows' words. -/
import Derived.Test.YtgdadhpcooegnaaDoorCats19
import Derived.Test.YtgdadhpcooegnaaDoorCats20
import Derived.Test.YtgdadhpcooegnaaDoorCats21
namespace Go.Proofs.YtgdadhpcooegnaaDoor
open Go.RowKit
set_option linter.unusedVariables false
theorem str_opens : Opens Tryd.prog Rd.string 9 := opens_string Tryd.underlying9
theorem int_opens : Opens Tryd.prog (Rd.int .i64) 3 := opens_int Tryd.underlying3
theorem ints_opens : Opens Tryd.prog intsR 22 := opens_slice Tryd.underlying22 (by kernel_rfl) (by kernel_rfl) int_opens
theorem strs_opens : Opens Tryd.prog strsR 36 := opens_slice Tryd.underlying36 (by kernel_rfl) (by kernel_rfl) str_opens
theorem arr3_opens : Opens Tryd.prog (Rd.arr 3 (by decide) Rd.string) 40 := opens_array Tryd.underlying40 (by kernel_rfl) (by kernel_rfl) str_opens
theorem below0 {w w' : World} (h : Mod (fun _ => False) w w') : Below w.heap.size w w' := h.below (Nat.le_refl _) (fun _ h => h.elim)
theorem catsNames_walk (s : ByteArray) (A : Option Addr) (n c : Nat) (k : Int) (x : ByteArray) (p : List Int) (y : Int) (W : World) (h0 : Rd.string.rel W (fun k => k < W.heap.size) [.string s] x) (h1 : intsR.rel W (fun k => k < W.heap.size) [.slice A n c] p) (h2 : (Rd.int .i64).rel W (fun k => k < W.heap.size) [.int .i64 k] y) (E : Env W) :
    Calls Tryd.prog 3 #[.string s, .slice A n c, .int .i64 k] W fun r W' => r = .returned (.bool true) ∧ Below W.heap.size W W' := by
  obtain ⟨e0, i0⟩ := h0
  obtain ⟨e2, i2⟩ := h2
  obtain rfl : s = x := by simpa using e0
  obtain rfl : k = y := by simpa using e2
  refine (catsNames_mod s.data.toList A n c p k W _ h1 i2 (Nat.lt_of_le_of_lt i0 (by decide)) E).mono fun _ _ h => ⟨h.1, below0 h.2⟩
theorem catsOrders_walk (A : Option Addr) (n c : Nat) (l : List ByteArray) (W : World) (h : strsR.rel W (fun k => k < W.heap.size) [.slice A n c] l) (E : Env W) :
    Calls Tryd.prog 4 #[.slice A n c] W fun r W' => r = .returned (.bool true) ∧ Below W.heap.size W W' :=
  (catsOrders_mod A n c l W _ h E).mono fun _ _ h => ⟨h.1, below0 h.2⟩
theorem catsSorts_walk (A : Option Addr) (n c : Nat) (l : List ByteArray) (W : World) (h : strsR.rel W (fun k => k < W.heap.size) [.slice A n c] l) (E : Env W) :
    Calls Tryd.prog 6 #[.slice A n c] W fun r W' => r = .returned (.bool true) ∧ Below W.heap.size W W' :=
  (catsSorts_mod A n c l W _ h E).mono fun _ _ h => ⟨h.1, below0 h.2⟩
theorem catsHold_walk (A : Option Addr) (n c : Nat) (k : Int) (cs : Array Value) (p : List Int) (y : Int) (l : List ByteArray) (W : World) (h1 : intsR.rel W (fun k => k < W.heap.size) [.slice A n c] p) (h2 : (Rd.int .i64).rel W (fun k => k < W.heap.size) [.int .i64 k] y)
    (h3 : (Rd.arr 3 (by decide) Rd.string).rel W (fun k => k < W.heap.size) cs.toList l) (E : Env W) :
    Calls Tryd.prog 5 #[.slice A n c, .int .i64 k, .agg cs] W fun r W' => r = .returned (.bool true) ∧ Below W.heap.size W W' := by
  obtain ⟨e2, i2⟩ := h2
  obtain rfl : k = y := by simpa using e2
  obtain ⟨h4, h5, h6⟩ := arr_strs h3
  match l, h5, h4, h6 with
  | [s0, s1, s2], _, h4, h6 =>
    obtain rfl : cs = #[.string s0, .string s1, .string s2] := by apply Array.ext'; simpa using h4
    exact (catsHold_mod A n c p k s0.data.toList s1.data.toList s2.data.toList W _ h1 i2 (h6 s0 (by simp)) (h6 s1 (by simp)) (h6 s2 (by simp)) E).mono fun _ _ h => ⟨h.1, below0 h.2⟩
end Go.Proofs.YtgdadhpcooegnaaDoor
