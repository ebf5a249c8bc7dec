/- The law FaultHas returns true for every input, and its arguments read afterwards as before: the tied card. No condition beyond the row's own. -/
import Derived.Test.YtcahnhohinckdaaDoorLawFaultHas
import Derived.Test.YtcahnhohinckdaaDoorCards
import Derived.Test.YtcahnhohinckdaaDoorTie
import Derived.SevenTiedAt
namespace Go.Proofs.YtcahnhohinckdaaDoor
open Go
theorem faultHas_card_holds : Rows.FaultHasCardSaid :=
  Claim7.holds_tied_plain_at .later [] [.handle] true (true, "1aee8cbaf2204ab8b90efa416a35eb2380c7490677828bf58c44d21345ebf8d4") true
    faultHas_holds (fun _ h => by cases h) (by kernel_rfl) (fun _ h => by cases h) faultHas_row_tie rfl ⟨rfl, rfl⟩ (by kernel_rfl) rfl
    (fun f fn hf hfn => by
      obtain rfl : f = 3 := Option.some.inj ((show Tryd.prog.funcNamed "regency/regencylaw01.FaultHas" = some 3 by kernel_rfl).symm.trans hf) |>.symm
      obtain rfl : fn = Tryd.f3 := (Option.some.inj (Tryd.func3.symm.trans hfn)).symm
      exact ⟨by kernel_rfl, fun j t ht => by
        rw [Tryd.params3] at ht
        have hm : t ∈ [22, 3, 3] := by simpa using Array.mem_of_getElem? ht
        have hall : ([22, 3, 3].all fun u => !Tryd.prog.wantsStandIn u) = true := by kernel_rfl
        exact (show Tryd.prog.wantsStandIn t = false by simpa using List.all_eq_true.1 hall t hm)⟩)
    (by kernel_rfl)
#print axioms faultHas_card_holds
end Go.Proofs.YtcahnhohinckdaaDoor
