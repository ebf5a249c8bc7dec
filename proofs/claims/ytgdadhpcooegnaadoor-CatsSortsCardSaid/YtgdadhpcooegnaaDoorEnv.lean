/- The package-level variables that these rows list: what the walks need of them; a world that meets the condition. -/
import Derived.Test.YtgdadhpcooegnaaDoorCats0
import Derived.LaidMore
import Derived.LaidLaws
import Derived.LaidHandle
import Derived.Lib.LaidTab
import Derived.Lib.LaidU8
import Derived.Stop.Joined
import Derived.Test.YtgdadhpcooegnaaDoorRows
namespace Go.Proofs.YtgdadhpcooegnaaDoor
open Go.ChangeShapes Go.WideShapes Go.ChangeAt Go.RowKit
set_option linter.unusedVariables false
def rowLaid : List (String × DataW Unit) := [("math/bits.deBruijn32tab", Rows.laid_math_bits_deBruijn32tab), ("math/bits.deBruijn64tab", Rows.laid_math_bits_deBruijn64tab), ("internal/strconv.uint64pow10", Rows.laid_internal_strconv_uint64pow10), ("unicode/utf8.acceptRanges", Rows.laid_unicode_utf8_acceptRanges), ("strconv.ErrRange", Rows.laid_strconv_ErrRange), ("strconv.ErrSyntax", Rows.laid_strconv_ErrSyntax), ("unicode/utf8.first", Rows.laid_unicode_utf8_first)]
theorem gTab : (Tryd.prog.globals[5]?).map (·.type) = some 122 := by kernel_rfl
theorem gSyn : (Tryd.prog.globals[1]?).map (·.type) = some 55 := by kernel_rfl
theorem gRng : (Tryd.prog.globals[2]?).map (·.type) = some 55 := by kernel_rfl
set_option maxRecDepth 100000 in
theorem env_of {W : World} (h : laidMetH Tryd.prog rowLaid W) : Env W := by
  rw [MakeChecks.laidMetH_plain _ _ _ (by kernel_rfl)] at h
  obtain ⟨ps, ⟨b0, t0, cs0, f0, p0, q0, hg0, ht0, hv0, hd0, ⟨b1, t1, cs1, f1, p1, q1, hg1, ht1, hv1, hd1, ⟨b2, t2, cs2, f2, p2, q2, hg2, ht2, hv2, hd2, ⟨b3, t3, cs3, f3, p3, q3, hg3, ht3, hv3, hd3, ⟨b4, t4, cs4, f4, p4, q4, hg4, ht4, hv4, hd4, ⟨b5, t5, cs5, f5, p5, q5, hg5, ht5, hv5, hd5, _, _⟩, _⟩, _⟩, _⟩, _⟩, _⟩, _, _⟩ := h
  clear hd0 hd1 hd3 hv0 hv1 hv3
  obtain rfl := Option.some.inj (g1.symm.trans hg2)
  obtain rfl := Option.some.inj (gTab.symm.trans ht2)
  obtain rfl := Option.some.inj (g3.symm.trans hg4)
  obtain rfl := Option.some.inj (gRng.symm.trans ht4)
  obtain rfl := Option.some.inj (g2.symm.trans hg5)
  obtain rfl := Option.some.inj (gSyn.symm.trans ht5)
  refine ⟨?_, ?_, ?_⟩
  · have := Lib.cells_of_tab (zs := Lib.pow10Tab) (k := .u64) Tryd.underlying122 Tryd.underlying90 (by kernel_rfl) (by kernel_rfl) hd2
    unfold Lib.TabIs
    rw [hv2, ← this]
  · obtain ⟨f', u, v, hcs, _, _⟩ := iface_of_trod Tryd.underlying55 hd5
    exact ⟨u, v, by rw [hv5, ← hcs]⟩
  · obtain ⟨f', u, v, hcs, _, _⟩ := iface_of_trod Tryd.underlying55 hd4
    exact ⟨u, v, by rw [hv4, ← hcs]⟩
/-- A world that meets the condition: the heap that the door's own run leaves, Go's own table laid. -/
noncomputable def laidWorld (os : Os) : World :=
  let w0 := World.doorLaid Tryd.prog 400 os
  { w0 with heap := w0.heap.modify 3 fun
      | .cells _ t frozen => .cells (Lib.firstTab.map fun z => Value.int .u8 z).toArray t frozen
      | o => o }
theorem laidWorld_met (os : Os) (args : Array Value) : laidMetH Tryd.prog rowLaid ((laidWorld os).forCall (fun _ _ => 0) ⟨#[], args, []⟩).memory := by
  rw [MakeChecks.laidMetH_plain _ _ _ (by kernel_rfl)]
  exact laidMet_of_run' 8 (by kernel_rfl) (by kernel_rfl)
end Go.Proofs.YtgdadhpcooegnaaDoor
