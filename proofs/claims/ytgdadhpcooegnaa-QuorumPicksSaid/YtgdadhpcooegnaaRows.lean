/-
  No cell of these rows narrows 'for every input' (looked for: loops, veiled, ifaces, maps, wideKeys, modest, calm, conditions, laid).
  DERIVED. THE GIVEN ROWS OF THIS SEAT. 4 by the template 'for every input the law returns true; each argument reads behind the call as it read before'; 0 by the template 'total and deterministic' (their statements: YtgdadhpcooegnaaTotals.lean).
  GIVEN WITH THE SEED: the statements are not yours to turn. If you find one false, say at which input.
  Laid BY PROGRAM, IN A SANDBOX (cutbox-rows.mjs): the forced cells as the released guide's own fill.sh prints them over the translation bccd8a2e88ae8fbe… (all of the seat's roots in one cut). By AI agents, Wed Nov 11 2026. No macro, syntax, notation, axiom, sorry.
-/
import Derived.Test.YtgdadhpcooegnaaChecked
import GoSem.Claim
import GoSem.ClaimJoined
import GoSem.ClaimMapViews
import Derived.JoinedTies
import Derived.KernelRfl
namespace Go.Proofs.Ytgdadhpcooegnaa
/- THE CELL 'sum', in the pinned program and in every row, IS THE sha256 OF THE DUMP (.gsa) THAT YtgdadhpcooegnaaProg.lean LOADS. Nothing in Lean hashes anything: it is a label: what it is worth is what the hold of that sum in a sandbox is worth. -/
noncomputable def Try.pinned : Pinned := { name := "ytgdadhpcooegnaa", sum := "bccd8a2e88ae8fbee7ed8d4d26a6caa36c04423d6fb0228fbaca525b403c9b53", checked := Try.checked }
namespace Rows
def none {H : Type} : Left H := { results := [], args := [] }

/-- 'regencylaw22.QuorumPicks': WHATEVER THE INPUT: true; the input reads as it did. -/
def quorumPicksSpec : ChangeSpec := { name := "quorumPicks", fn := fun _ => fun
  | [d1, d2] => { results := [.lit (.bool true)], args := [d1, d2] }
  | _ => none }
def quorumPicksRow : OpenClaim := { program := "ytgdadhpcooegnaa", sum := "bccd8a2e88ae8fbee7ed8d4d26a6caa36c04423d6fb0228fbaca525b403c9b53", func := "regency/regencylaw22.QuorumPicks", spec := "quorumPicks", inPlace := ["slices.overlaps[regency/api.Msg]"], unfollowed := true, recurses := true, apart := false }
def QuorumPicksSaid : Prop := quorumPicksRow.holds Try.pinned (OpenSpec.ofChange quorumPicksSpec)

/-- ITS FALSE NEIGHBOUR: 'it returns false'. Refute it at one input. -/
def quorumPicksWrong : ChangeSpec := { name := "quorumPicks", fn := fun _ => fun
  | [d1, d2] => { results := [.lit (.bool false)], args := [d1, d2] }
  | _ => none }
def QuorumPicksWrongFalsely : Prop := quorumPicksRow.holds Try.pinned (OpenSpec.ofChange quorumPicksWrong)

/-- 'regencylaw22.QuorumMeets': WHATEVER THE INPUT: true; the input reads as it did. -/
def quorumMeetsSpec : ChangeSpec := { name := "quorumMeets", fn := fun _ => fun
  | [d1, d2, d3] => { results := [.lit (.bool true)], args := [d1, d2, d3] }
  | _ => none }
def quorumMeetsRow : OpenClaim := { program := "ytgdadhpcooegnaa", sum := "bccd8a2e88ae8fbee7ed8d4d26a6caa36c04423d6fb0228fbaca525b403c9b53", func := "regency/regencylaw22.QuorumMeets", spec := "quorumMeets", inPlace := ["slices.overlaps[regency/api.Msg]"], unfollowed := true, recurses := true, apart := false }
def QuorumMeetsSaid : Prop := quorumMeetsRow.holds Try.pinned (OpenSpec.ofChange quorumMeetsSpec)

/-- ITS FALSE NEIGHBOUR: 'it returns false'. Refute it at one input. -/
def quorumMeetsWrong : ChangeSpec := { name := "quorumMeets", fn := fun _ => fun
  | [d1, d2, d3] => { results := [.lit (.bool false)], args := [d1, d2, d3] }
  | _ => none }
def QuorumMeetsWrongFalsely : Prop := quorumMeetsRow.holds Try.pinned (OpenSpec.ofChange quorumMeetsWrong)

/-- 'regencylaw22.QuorumNumbers': WHATEVER THE INPUT: true; the input reads as it did. -/
def quorumNumbersSpec : ChangeSpec := { name := "quorumNumbers", fn := fun _ => fun
  | [d1, d2, d3] => { results := [.lit (.bool true)], args := [d1, d2, d3] }
  | _ => none }
def quorumNumbersRow : OpenClaim := { program := "ytgdadhpcooegnaa", sum := "bccd8a2e88ae8fbee7ed8d4d26a6caa36c04423d6fb0228fbaca525b403c9b53", func := "regency/regencylaw22.QuorumNumbers", spec := "quorumNumbers", inPlace := ["slices.overlaps[regency/api.Msg]"], unfollowed := true, recurses := true, apart := false }
def QuorumNumbersSaid : Prop := quorumNumbersRow.holds Try.pinned (OpenSpec.ofChange quorumNumbersSpec)

/-- ITS FALSE NEIGHBOUR: 'it returns false'. Refute it at one input. -/
def quorumNumbersWrong : ChangeSpec := { name := "quorumNumbers", fn := fun _ => fun
  | [d1, d2, d3] => { results := [.lit (.bool false)], args := [d1, d2, d3] }
  | _ => none }
def QuorumNumbersWrongFalsely : Prop := quorumNumbersRow.holds Try.pinned (OpenSpec.ofChange quorumNumbersWrong)

/-- 'regencylaw22.QuorumJoins': WHATEVER THE INPUT: true; the input reads as it did. -/
def quorumJoinsSpec : ChangeSpec := { name := "quorumJoins", fn := fun _ => fun
  | [d1, d2, d3] => { results := [.lit (.bool true)], args := [d1, d2, d3] }
  | _ => none }
def quorumJoinsRow : OpenClaim := { program := "ytgdadhpcooegnaa", sum := "bccd8a2e88ae8fbee7ed8d4d26a6caa36c04423d6fb0228fbaca525b403c9b53", func := "regency/regencylaw22.QuorumJoins", spec := "quorumJoins", inPlace := ["slices.overlaps[regency/api.Msg]"], unfollowed := true, recurses := true, apart := false }
def QuorumJoinsSaid : Prop := quorumJoinsRow.holds Try.pinned (OpenSpec.ofChange quorumJoinsSpec)

/-- ITS FALSE NEIGHBOUR: 'it returns false'. Refute it at one input. -/
def quorumJoinsWrong : ChangeSpec := { name := "quorumJoins", fn := fun _ => fun
  | [d1, d2, d3] => { results := [.lit (.bool false)], args := [d1, d2, d3] }
  | _ => none }
def QuorumJoinsWrongFalsely : Prop := quorumJoinsRow.holds Try.pinned (OpenSpec.ofChange quorumJoinsWrong)

/- THE SECOND FORM. 'bulk': how many values and letters a reading holds, each counted each time it is reached (what is shared counts as often as it is met; a slice's spare places count too). A statement '..UptoSaid' is the law's where the arguments, and the package variables that the reading takes, are together of bulk at most 1048576: NARROWER than '..Said'. Prove '..Said' where nothing that the law and all that it calls make is longer than what came in: it says more and counts as full. Else prove '..UptoSaid'. A law counts once. -/
mutual
def uptoBulk {H : Type} : DataW H → Nat
  | .lit (.string bytes) => bytes.length + 1
  | .lit _ => 1
  | .nil => 1
  | .ptr d => uptoBulk d + 1
  | .slice elems spare => uptoBulkAll elems + uptoBulkAll spare + 1
  | .agg parts => uptoBulkAll parts + 1
  | .iface _ d => uptoBulk d + 1
  | .map entries => uptoBulkEntries entries + 1
  | .held _ => 1
def uptoBulkAll {H : Type} : List (DataW H) → Nat
  | [] => 0
  | d :: r => uptoBulk d + uptoBulkAll r
def uptoBulkEntries {H : Type} : List (Lit × DataW H) → Nat
  | [] => 0
  | x :: r => uptoBulkEntry x + uptoBulkEntries r
def uptoBulkEntry {H : Type} : Lit × DataW H → Nat
  | (.string bytes, d) => bytes.length + uptoBulk d + 1
  | (_, d) => uptoBulk d + 1
 end
def uptoSmall : (H : Type) → List (DataW H) → Bool := fun _ ds => decide (uptoBulkAll ds ≤ 1048576)
def OpenSpec.upto (s : _root_.Go.ChangeSpec) : _root_.Go.OpenSpec := { _root_.Go.OpenSpec.ofChange s with cond := some uptoSmall }

/-- 'regencylaw22.QuorumPicks', WHERE WHAT IT READS IS OF BULK AT MOST 1048576: true; the input reads as it did. -/
def quorumPicksUptoRow : OpenClaim := { program := "ytgdadhpcooegnaa", sum := "bccd8a2e88ae8fbee7ed8d4d26a6caa36c04423d6fb0228fbaca525b403c9b53", func := "regency/regencylaw22.QuorumPicks", spec := "quorumPicks", inPlace := ["slices.overlaps[regency/api.Msg]"], unfollowed := true, recurses := true, apart := false, narrowed := true }
def QuorumPicksUptoSaid : Prop := quorumPicksUptoRow.holds Try.pinned (OpenSpec.upto quorumPicksSpec)

/-- 'regencylaw22.QuorumMeets', WHERE WHAT IT READS IS OF BULK AT MOST 1048576: true; the input reads as it did. -/
def quorumMeetsUptoRow : OpenClaim := { program := "ytgdadhpcooegnaa", sum := "bccd8a2e88ae8fbee7ed8d4d26a6caa36c04423d6fb0228fbaca525b403c9b53", func := "regency/regencylaw22.QuorumMeets", spec := "quorumMeets", inPlace := ["slices.overlaps[regency/api.Msg]"], unfollowed := true, recurses := true, apart := false, narrowed := true }
def QuorumMeetsUptoSaid : Prop := quorumMeetsUptoRow.holds Try.pinned (OpenSpec.upto quorumMeetsSpec)

/-- 'regencylaw22.QuorumNumbers', WHERE WHAT IT READS IS OF BULK AT MOST 1048576: true; the input reads as it did. -/
def quorumNumbersUptoRow : OpenClaim := { program := "ytgdadhpcooegnaa", sum := "bccd8a2e88ae8fbee7ed8d4d26a6caa36c04423d6fb0228fbaca525b403c9b53", func := "regency/regencylaw22.QuorumNumbers", spec := "quorumNumbers", inPlace := ["slices.overlaps[regency/api.Msg]"], unfollowed := true, recurses := true, apart := false, narrowed := true }
def QuorumNumbersUptoSaid : Prop := quorumNumbersUptoRow.holds Try.pinned (OpenSpec.upto quorumNumbersSpec)

/-- 'regencylaw22.QuorumJoins', WHERE WHAT IT READS IS OF BULK AT MOST 1048576: true; the input reads as it did. -/
def quorumJoinsUptoRow : OpenClaim := { program := "ytgdadhpcooegnaa", sum := "bccd8a2e88ae8fbee7ed8d4d26a6caa36c04423d6fb0228fbaca525b403c9b53", func := "regency/regencylaw22.QuorumJoins", spec := "quorumJoins", inPlace := ["slices.overlaps[regency/api.Msg]"], unfollowed := true, recurses := true, apart := false, narrowed := true }
def QuorumJoinsUptoSaid : Prop := quorumJoinsUptoRow.holds Try.pinned (OpenSpec.upto quorumJoinsSpec)

end Rows
end Go.Proofs.Ytgdadhpcooegnaa
