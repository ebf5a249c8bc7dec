/- Layer 1, fault: FaultHas, the walk in the row's words. -/
import Derived.Test.YtcahnhohinckdaaDoorFault8
namespace Go.Proofs.YtcahnhohinckdaaDoor
open Go.RowKit
set_option linter.unusedVariables false
theorem links_opens : Opens Tryd.prog linksR 22 := opens_slice Tryd.underlying22 (by kernel_rfl) (by kernel_rfl) LinkR_opens
theorem int_opens : Opens Tryd.prog (Rd.int .i64) 3 := opens_int Tryd.underlying3
theorem faultHas_walk (A : Option Addr) (n c : Nat) (last e : Int) (l : List Link) (x y : Int) (W : World) (h : linksR.rel W (fun k => k < W.heap.size) [.slice A n c] l) (h2 : (Rd.int .i64).rel W (fun k => k < W.heap.size) [.int .i64 last] x) (h3 : (Rd.int .i64).rel W (fun k => k < W.heap.size) [.int .i64 e] y) :
    Calls Tryd.prog 3 #[.slice A n c, .int .i64 last, .int .i64 e] W fun r W' => r = .returned (.bool true) ∧ Below W.heap.size W W' := by
  obtain ⟨e1, i1⟩ := h2
  obtain ⟨e2, i2⟩ := h3
  obtain rfl : last = x := by simpa using e1
  obtain rfl : e = y := by simpa using e2
  exact (faultHas_mod A n c l last e _ W h i1 i2).mono fun _ _ h => ⟨h.1, h.2.below (Nat.le_refl _) (fun _ h => h.elim)⟩
end Go.Proofs.YtcahnhohinckdaaDoor
