/- QuorumPicks: the walk, in the row's words. -/
import Derived.Test.YtgdadhpcooegnaaQuorum27
namespace Go.Proofs.Ytgdadhpcooegnaa
open Go.RowKit
set_option linter.unusedVariables false
theorem msgs_opens2 : Opens Try.prog msgsR 22 := opens_slice Try.underlying22 (by kernel_rfl) (by kernel_rfl) MsgR_opens
theorem quorumPicks_walk (A : Option Addr) (n c : Nat) (cs : Array Value) (l : List Msg) (m : Msg) (W : World) (h : msgsR.rel W (fun k => k < W.heap.size) [.slice A n c] l) (h2 : MsgR.rel W (fun k => k < W.heap.size) cs.toList m) :
    Calls Try.prog 3 #[.slice A n c, .agg cs] W fun e W' => e = .returned (.bool true) ∧ Below W.heap.size W W' := by
  have := quorumPicks_mod A n c l cs.toList m _ _ W h h2
  rw [Array.toArray_toList] at this
  exact this.mono fun _ _ h => ⟨h.1, h.2.below (Nat.le_refl _) (fun _ h => h.elim)⟩
end Go.Proofs.Ytgdadhpcooegnaa
