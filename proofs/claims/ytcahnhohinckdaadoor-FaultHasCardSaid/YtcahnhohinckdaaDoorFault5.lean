/- Layer 1, fault: the texts that must be answered ahead of everything else. -/
import Derived.Test.YtcahnhohinckdaaDoorFault4
import Derived.Test.YtcahnhohinckdaaDoorShelf
import Derived.Test.YtcahnhohinckdaaDoorQuiet
namespace Go.Proofs.YtcahnhohinckdaaDoor
open Go.RowKit
set_option linter.unusedVariables false
theorem Tryd.methodErrN (v : Value) (w : World) : (Go.method 232 30 v "Error").run Tryd.prog w = .ok (49, v) w := by kernel_rfl
theorem Tryd.methodErrF (v : Value) (w : World) : (Go.method 232 39 v "Error").run Tryd.prog w = .ok (64, v) w := by kernel_rfl
theorem dec11 : Lib.decDigits 11 = [49, 49] := by simp [Lib.decDigits]
theorem dec10 : Lib.decDigits 10 = [49, 48] := by simp [Lib.decDigits]
set_option maxRecDepth 100000 in
set_option maxHeartbeats 1000000 in
theorem errno11 (w : World) : Calls Tryd.prog 49 #[.int .i64 11] w fun r w' => r = .returned (.string ⟨#[114, 101, 103, 101, 110, 99, 121, 58, 32, 101, 114, 114, 111, 114, 32, 49, 49]⟩) ∧ Mod (fun _ => False) w w' := by
  have HI := Tryd.strconv_Itoa_small 11 (by decide) w
  rw [dec11] at HI
  have HI := Lib.hid HI
  go_enter Tryd.func49, Tryd.ntmps49
  go_wp2_with fail
  refine HI.out.mono ?_
  rintro r w2 ⟨rfl, hw⟩
  have HM : Hid (Mod (fun _ => False) w w2) := by show Mod (fun _ => False) w w2; rw [hw]; exact .refl _ _
  clear hw
  go_wp2_with fail
  go_ret
  exact ⟨rfl, HM.out⟩
set_option maxRecDepth 100000 in
set_option maxHeartbeats 1000000 in
theorem errno10 (w : World) : Calls Tryd.prog 49 #[.int .i64 10] w fun r w' => r = .returned (.string ⟨#[114, 101, 103, 101, 110, 99, 121, 58, 32, 101, 114, 114, 111, 114, 32, 49, 48]⟩) ∧ Mod (fun _ => False) w w' := by
  have HI := Tryd.strconv_Itoa_small 10 (by decide) w
  rw [dec10] at HI
  have HI := Lib.hid HI
  go_enter Tryd.func49, Tryd.ntmps49
  go_wp2_with fail
  refine HI.out.mono ?_
  rintro r w2 ⟨rfl, hw⟩
  have HM : Hid (Mod (fun _ => False) w w2) := by show Mod (fun _ => False) w w2; rw [hw]; exact .refl _ _
  clear hw
  go_wp2_with fail
  go_ret
  exact ⟨rfl, HM.out⟩
set_option maxRecDepth 100000 in
set_option maxHeartbeats 1000000 in
theorem faultA (g : Nat) (w : World) (hg : w.heap[g]? = some (.cells #[.string ⟨#[97]⟩, .int .i64 11, .nilIface] 50 (0, 0))) :
    Calls Tryd.prog 64 #[.pointer (some ⟨g, 0, none⟩)] w fun r w' => r = .returned (.string ⟨#[97, 58, 32, 114, 101, 103, 101, 110, 99, 121, 58, 32, 101, 114, 114, 111, 114, 32, 49, 49]⟩) ∧ Mod (fun _ => False) w w' := by
  have hq := run_eql_iface_nil_nil (P := Tryd.prog) (ti := 25) Tryd.underlying25
  have c0 := fun W : ModW w => W.cell (a := ⟨g, 0, none⟩) (v := .string ⟨#[97]⟩) (by rw [cell_of_blk hg]; rfl)
  have c1 := fun W : ModW w => W.cell (a := ⟨g, 1, none⟩) (v := .int .i64 11) (by rw [cell_of_blk hg]; rfl)
  have c2 := fun W : ModW w => W.cell (a := ⟨g, 2, none⟩) (v := .nilIface) (by rw [cell_of_blk hg]; rfl)
  clear hg
  go_enter Tryd.func64, Tryd.ntmps64
  go_wp2_with fail
  refine wp_region_mod (by kernel_rfl) (by kernel_rfl) ?_
  repeat (quiet_step ((go_at_call 49; refine quiet_mod (errno11 _))))
  refine wpQuiet_nil ?_
  rintro _ ⟨W, rfl⟩
  go_wp2_with fail
  go_ret
  exact ⟨rfl, W.2⟩
set_option maxRecDepth 100000 in
set_option maxHeartbeats 1000000 in
theorem faultB (g ga : Nat) (w : World) (hg : w.heap[g]? = some (.cells #[.string ⟨#[98]⟩, .int .i64 10, .iface 39 (.pointer (some ⟨ga, 0, none⟩))] 50 (0, 0)))
    (hga : w.heap[ga]? = some (.cells #[.string ⟨#[97]⟩, .int .i64 11, .nilIface] 50 (0, 0))) :
    Calls Tryd.prog 64 #[.pointer (some ⟨g, 0, none⟩)] w fun r w' => r = .returned (.string ⟨#[98, 58, 32, 114, 101, 103, 101, 110, 99, 121, 58, 32, 101, 114, 114, 111, 114, 32, 49, 48, 32, 60, 32, 97, 58, 32, 114, 101, 103, 101, 110, 99, 121, 58, 32, 101, 114, 114, 111, 114, 32, 49, 49]⟩) ∧ Mod (fun _ => False) w w' := by
  have hq := run_eql_iface_nil_right (P := Tryd.prog) (ti := 25) 39 (.pointer (some ⟨ga, 0, none⟩)) Tryd.underlying25
  have mF := Tryd.methodErrF
  have c0 := fun W : ModW w => W.cell (a := ⟨g, 0, none⟩) (v := .string ⟨#[98]⟩) (by rw [cell_of_blk hg]; rfl)
  have c1 := fun W : ModW w => W.cell (a := ⟨g, 1, none⟩) (v := .int .i64 10) (by rw [cell_of_blk hg]; rfl)
  have c2 := fun W : ModW w => W.cell (a := ⟨g, 2, none⟩) (v := .iface 39 (.pointer (some ⟨ga, 0, none⟩))) (by rw [cell_of_blk hg]; rfl)
  have HA := Lib.hid hga
  clear hg hga
  go_enter Tryd.func64, Tryd.ntmps64
  go_wp2_with fail
  refine wp_region_mod (by kernel_rfl) (by kernel_rfl) ?_
  repeat (quiet_step ((go_at_call 49; refine quiet_mod (errno10 _))))
  refine wpQuiet_nil ?_
  rintro _ ⟨W, rfl⟩
  have c0' := c0 W
  have c1' := c1 W
  have c2' := c2 W
  go_wp2_with fail
  refine (faultA ga W.1 ((W.2.block ga (lt_of_blk HA.out) id).trans HA.out)).mono ?_
  rintro r w2 ⟨rfl, hm⟩
  have HM := Lib.hid (W.2.trans hm (fun _ h => h.elim)); clear hm
  go_wp2_with fail
  go_ret
  exact ⟨rfl, HM.out⟩
end Go.Proofs.YtcahnhohinckdaaDoor
