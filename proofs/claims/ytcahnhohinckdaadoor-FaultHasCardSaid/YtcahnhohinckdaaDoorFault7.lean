/- Layer 1, fault: first. -/
import Derived.Test.YtcahnhohinckdaaDoorFault6
namespace Go.Proofs.YtcahnhohinckdaaDoor
open Go.RowKit
set_option linter.unusedVariables false
set_option maxRecDepth 100000 in
set_option maxHeartbeats 2000000 in
theorem first_any (w : World) : Calls Tryd.prog 6 #[] w fun r w' => r = .returned (.bool true) ∧ Mod (fun _ => False) w w' := by
  go_enter Tryd.func6, Tryd.ntmps6
  go_wp2_with fail
  refine (new_any ⟨#[97]⟩ 11 w (by decide)).mono ?_
  rintro r w1 ⟨ga, rfl, h1, h2, h3⟩
  have H1 := Lib.hid (And.intro h1 (And.intro h2 h3)); clear h1 h2 h3
  go_wp2_with fail
  refine (wrap_any ⟨#[98]⟩ 10 (.iface 39 (.pointer (some ⟨ga, 0, none⟩))) w1 (by decide) (.inr ⟨_, _, rfl⟩)).mono ?_
  rintro r w2 ⟨gb, rfl, h1, h2, h3⟩
  have H2 := Lib.hid (And.intro h2 (And.intro ((h3.block ga (lt_of_blk H1.out.2.1) id).trans H1.out.2.1) (H1.out.2.2.trans h3 (fun _ h => h.elim)))); clear h1 h2 h3 H1
  have q1 := run_eql_iface_nil_right (P := Tryd.prog) (ti := 25) 39 (.pointer (some ⟨ga, 0, none⟩)) Tryd.underlying25
  have q2 := run_eql_iface_nil_right (P := Tryd.prog) (ti := 25) 39 (.pointer (some ⟨gb, 0, none⟩)) Tryd.underlying25
  have q3 := run_eql_iface_nil_nil (P := Tryd.prog) (ti := 25) Tryd.underlying25
  have mF := Tryd.methodErrF
  have hblk : ∀ W, Mod (fun _ => False) w2 W → W.heap[gb]? = some (.cells #[.string ⟨#[98]⟩, .int .i64 10, .iface 39 (.pointer (some ⟨ga, 0, none⟩))] 50 (0, 0)) ∧ W.heap[ga]? = some (.cells #[.string ⟨#[97]⟩, .int .i64 11, .nilIface] 50 (0, 0)) ∧ ErrAt W (.iface 39 (.pointer (some ⟨gb, 0, none⟩))) [⟨⟨#[98]⟩, 10⟩, ⟨⟨#[97]⟩, 11⟩] 0 := fun W hm =>
    have hb := (hm.block gb (lt_of_blk H2.out.1) id).trans H2.out.1
    have ha := (hm.block ga (lt_of_blk H2.out.2.1) id).trans H2.out.2.1
    ⟨hb, ha, gb, _, rfl, hb, ga, _, rfl, ha, .inl ⟨rfl, rfl⟩⟩
  have HB := Lib.hid hblk; clear hblk
  have HM0 := Lib.hid H2.out.2.2; clear H2
  go_wp2_with fail
  refine (faultB gb ga w2 (HB.out w2 (.refl _ _)).1 (HB.out w2 (.refl _ _)).2.1).mono ?_
  rintro r w3 ⟨rfl, hm⟩
  have H3 := Lib.hid hm; clear hm
  go_wp2_with fail
  refine (code_any gb ⟨#[98]⟩ 10 _ w3 (HB.out w3 H3.out).1).mono ?_
  rintro r w4 ⟨rfl, hm⟩
  have H4 := Lib.hid (H3.out.trans hm (fun _ h => h.elim)); clear hm H3
  go_wp2_with fail
  refine (has_any 11 _ 0 _ w4 (HB.out w4 H4.out).2.2).mono ?_
  rintro r w5 ⟨rfl, hm⟩
  have H5 := Lib.hid (H4.out.trans hm (fun _ h => h.elim)); clear hm H4
  have e1 : hasS [⟨⟨#[98]⟩, 10⟩, ⟨⟨#[97]⟩, 11⟩] 0 11 = true := by decide
  rw [e1]
  go_wp2_with fail
  refine (has_any 12 _ 0 _ w5 (HB.out w5 H5.out).2.2).mono ?_
  rintro r w6 ⟨rfl, hm⟩
  have H6 := Lib.hid (H5.out.trans hm (fun _ h => h.elim)); clear hm H5
  have e2 : hasS [⟨⟨#[98]⟩, 10⟩, ⟨⟨#[97]⟩, 11⟩] 0 12 = false := by decide
  rw [e2]
  go_wp2_with fail
  refine (depth_any gb ga ⟨#[98]⟩ ⟨#[97]⟩ 10 11 w6 (HB.out w6 H6.out).1 (HB.out w6 H6.out).2.1).mono ?_
  rintro r w7 ⟨rfl, hm⟩
  have H7 := Lib.hid (H6.out.trans hm (fun _ h => h.elim)); clear hm H6
  go_wp2_with fail
  refine (place_any ga ⟨#[97]⟩ 11 _ w7 (HB.out w7 H7.out).2.1).mono ?_
  rintro r w8 ⟨rfl, hm⟩
  have H8 := Lib.hid (H7.out.trans hm (fun _ h => h.elim)); clear hm H7
  go_wp2_with fail
  refine (new_ok ⟨#[120]⟩ w8).mono ?_
  rintro r w9 ⟨rfl, hm⟩
  have H9 := Lib.hid (H8.out.trans hm (fun _ h => h.elim)); clear hm H8
  go_wp2_with fail
  go_ret
  exact ⟨rfl, HM0.out.trans H9.out (fun _ h => h.elim)⟩
end Go.Proofs.YtcahnhohinckdaaDoor
