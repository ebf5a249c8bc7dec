/- The law returns true for every input, and its arguments read afterwards as before: the tied card. No condition beyond the row's own. -/
import Derived.Test.YtefedalnafjcfaaGreatDoorCards
import Derived.Test.YtefedalnafjcfaaGreatDoorTie
import Derived.SevenTiedAt
import Derived.Test.YtefedalnafjcfaaGreatDoorH03
namespace Go.Proofs.YtefedalnafjcfaaGreatDoor
open Go
theorem quotaHolds_card_holds : Rows.QuotaHoldsCardSaid :=
  Claim7.holds_tied_plain_at .later [] [.data, .data, .data, .data, .sentinel, .sentinel, .pinned] true (true, "456b6ed940e538711d616d6834f97f7d1b8bd670ad42f0af91d0ae63aec6f8d9") true
    quotaHolds_holds (fun _ h => by cases h) (by kernel_rfl) (fun _ h => by cases h) quotaHolds_row_tie rfl ⟨rfl, rfl⟩ (by kernel_rfl) rfl
    (fun f fn hf hfn => by
      obtain rfl : f = 3 := Option.some.inj ((show Tryz.prog.funcNamed "regency/regencylaw10.QuotaHolds" = some 3 by kernel_rfl).symm.trans hf) |>.symm
      obtain rfl : fn = Tryz.f3 := (Option.some.inj (Tryz.func3.symm.trans hfn)).symm
      exact ⟨by kernel_rfl, fun j t ht => by
        rw [Tryz.params3] at ht
        have hm : t ∈ [22, 5] := by simpa using Array.mem_of_getElem? ht
        have hall : ([22, 5].all fun u => !Tryz.prog.wantsStandIn u) = true := by kernel_rfl
        exact (show Tryz.prog.wantsStandIn t = false by simpa using List.all_eq_true.1 hall t hm)⟩)
    (by kernel_rfl)
#print axioms quotaHolds_card_holds
end Go.Proofs.YtefedalnafjcfaaGreatDoor

