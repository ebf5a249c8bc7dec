/- The law CatsSorts returns true for every input, and its arguments read afterwards as before: the tied card. No condition beyond the row's own. -/
import Derived.Test.YtgdadhpcooegnaaDoorLawCatsSorts
import Derived.Test.YtgdadhpcooegnaaDoorCards
import Derived.Test.YtgdadhpcooegnaaDoorTie
import Derived.SevenTiedAt
namespace Go.Proofs.YtgdadhpcooegnaaDoor
open Go
theorem catsSorts_card_holds : Rows.CatsSortsCardSaid :=
  Claim7.holds_tied_plain_at .later [] [.data, .data, .data, .data, .sentinel, .sentinel, .pinned] true (true, "00ddf5f553b4f1332b4ef8f9f2b9779977cb9a5ceffc346da843bacc9d229240") true
    catsSorts_holds (fun _ h => by cases h) (by kernel_rfl) (fun _ h => by cases h) catsSorts_row_tie rfl ⟨rfl, rfl⟩ (by kernel_rfl) rfl
    (fun f fn hf hfn => by
      obtain rfl : f = 6 := Option.some.inj ((show Tryd.prog.funcNamed "regency/regencylaw05.CatsSorts" = some 6 by kernel_rfl).symm.trans hf) |>.symm
      obtain rfl : fn = Tryd.f6 := (Option.some.inj (Tryd.func6.symm.trans hfn)).symm
      exact ⟨by kernel_rfl, fun j t ht => by
        rw [Tryd.params6] at ht
        have hm : t ∈ [36] := by simpa using Array.mem_of_getElem? ht
        have hall : ([36].all fun u => !Tryd.prog.wantsStandIn u) = true := by kernel_rfl
        exact (show Tryd.prog.wantsStandIn t = false by simpa using List.all_eq_true.1 hall t hm)⟩)
    (by kernel_rfl)
#print axioms catsSorts_card_holds
end Go.Proofs.YtgdadhpcooegnaaDoor
