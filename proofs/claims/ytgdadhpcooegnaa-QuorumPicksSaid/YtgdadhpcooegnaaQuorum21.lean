/- Layer 22: what must be answered ahead of everything else, the walk. -/
import Derived.Test.YtgdadhpcooegnaaQuorum20
namespace Go.Proofs.Ytgdadhpcooegnaa
open Go.RowKit
set_option linter.unusedVariables false
set_option maxRecDepth 100000 in
set_option maxHeartbeats 2000000 in
theorem first_any (w : World) : Calls Try.prog 7 #[] w fun e w' => e = .returned (.bool true) ∧ Mod (fun _ => False) w w' := by
  obtain ⟨ie, hie, hz⟩ := Option.map_eq_some_iff.1 Try.info_msg2
  simp only [Prod.mk.injEq] at hz
  have HIE := Lib.hid (And.intro hie hz); clear hie hz
  go_enter Try.func7, Try.ntmps7
  go_wp2_with (first
    | (refine wpList_build rfl 40 #[(1, .const (.int .i64 0)), (4, .const (.int .i64 2)), (7, .const (.int .i64 1)), (8, .tmp 7)] rfl #[(1, .int .i64 0), (4, .int .i64 2), (7, .int .i64 1), (8, .slice (some ⟨w.heap.size, 0, none⟩) 3 3)] (by kernel_rfl) (csA w.heap.size).toArray (builtA w.heap.size) ?_)
    | (refine wpList_alloc_new rfl 40 rfl zeroMsg Try.info_msg0 ?_))
  intro g1 w1 hg1 hb1 hm1
  have hv0 := heap_alloc_new w (.cells #[.int .i64 1, .int .i64 0, .int .i64 3] 3)
  have hv1 : w1.heap[w.heap.size]? = some (.cells #[.int .i64 1, .int .i64 0, .int .i64 3] 3 (0, 0)) := ((hm1 fun _ => False).block w.heap.size (lt_of_blk hv0) id).trans hv0
  have hmw1 : Mod (fun _ => False) w w1 := ((Mod.refl (fun _ => False) w).alloc _).trans (hm1 fun _ => False) (fun _ h => h.elim)
  obtain ⟨gv, hgv⟩ : ∃ gv, gv = w.heap.size := ⟨_, rfl⟩
  rw [← hgv] at hv1 ⊢
  have hge1 : gv < g1 := by omega
  have H1 := Lib.hid (And.intro hgv (And.intro hge1 (And.intro hb1 (And.intro hv1 hmw1)))); clear hg1 hb1 hm1 hv0 hv1 hmw1 hgv hge1
  go_wp2_with (refine wpList_store_var rfl 40 _ _ rfl g1 40 zeroMsg (csA gv) H1.out.2.2.1 rfl rfl Try.info_msg1 rfl (MsgR.one (relA H1.out.2.2.2.1)) ?_)
  intro w2 hb2 hm2
  have hv2 := (hm2.block gv (lt_of_blk H1.out.2.2.2.1) (by have := H1.out.2.1; omega)).trans H1.out.2.2.2.1
  have hmw2 : Mod (fun _ => False) w w2 := H1.out.2.2.2.2.trans hm2 (fun k hk => .inr (by have := H1.out.1; have := H1.out.2.1; omega))
  have H2 := Lib.hid (And.intro hb2 (And.intro hv2 hmw2)); clear hb2 hm2 hv2 hmw2
  go_wp2_with (first
    | (refine wpList_build rfl 40 #[(1, .const (.int .i64 2)), (4, .const (.int .i64 4)), (7, .const (.int .i64 2))] rfl #[(1, .int .i64 2), (4, .int .i64 4), (7, .int .i64 2)] (by kernel_rfl) csB.toArray builtB ?_)
    | (refine wpList_alloc_new rfl 40 rfl zeroMsg Try.info_msg0 ?_))
  intro g2 w3 hg2 hb3 hm3
  have hb13 := ((hm3 fun _ => False).block g1 (lt_of_blk H2.out.1) id).trans H2.out.1
  have hv3 := ((hm3 fun _ => False).block gv (lt_of_blk H2.out.2.1) id).trans H2.out.2.1
  have hne : g1 < g2 ∧ gv < g2 := by have := lt_of_blk H2.out.1; have := lt_of_blk H2.out.2.1; omega
  have H3 := Lib.hid (And.intro hb3 (And.intro hb13 (And.intro hv3 (And.intro (H2.out.2.2.trans (hm3 fun _ => False) (fun _ h => h.elim)) hne)))); clear hg2 hb3 hm3 hb13 hv3 hne
  go_wp2_with (refine wpList_store_var rfl 40 _ _ rfl g2 40 zeroMsg csB H3.out.1 rfl rfl Try.info_msg1 rfl (MsgR.one (relB w3 (fun _ => False))) ?_)
  intro w4 hb4 hm4
  have hb14 := (hm4.block g1 (lt_of_blk H3.out.2.1) (by have := H3.out.2.2.2.2; omega)).trans H3.out.2.1
  have hv4 := (hm4.block gv (lt_of_blk H3.out.2.2.1) (by have := H3.out.2.2.2.2; omega)).trans H3.out.2.2.1
  have hmw4 : Mod (fun _ => False) w w4 := H3.out.2.2.2.1.trans hm4 (fun k hk => .inr (by have := H3.out.2.2.2.2; have := H1.out.1; omega))
  have H4 := Lib.hid (And.intro hb4 (And.intro hb14 (And.intro hv4 hmw4))); clear hb4 hm4 hb14 hv4 hmw4
  go_wp2_with (first
    | (refine wpList_load_agg rfl 40 (.tmp 1) rfl Try.underlying40 Try.info_msg1 ⟨g1, 0, none⟩ rfl (csA gv) rfl (fun j u hj => by rw [agg_at]; refine (cell_of_blk H4.out.2.1 _).trans ?_; simpa using hj) ?_)
    | (refine wpList_load_agg rfl 40 (.tmp 2) rfl Try.underlying40 Try.info_msg1 ⟨g2, 0, none⟩ rfl csB rfl (fun j u hj => by rw [agg_at]; refine (cell_of_blk H4.out.1 _).trans ?_; simpa using hj) ?_)
    | (refine wpList_slice2 rfl 22 40 (.tmp 10) (.tmp 11) rfl (.agg (csA gv).toArray) (.agg csB.toArray) rfl rfl (csA gv ++ csB).toArray 35 (.agg zeroMsg.toArray) Try.underlying22 Try.info_msg2 (by decide) (fillAB gv) ?_))
  have HF4 := Lib.hid (show FirstAt w gv g1 g2 w4 from ⟨H4.out.2.1, H4.out.1, H4.out.2.2.1, H4.out.2.2.2⟩)
  clear HIE H1 H2 H3 H4
  refine (fresh_any _ 2 2 [msgA, msgB] _ _ HF4.out.two.2 (by decide)).mono ?_
  rw [freshAB]
  rintro e w5 ⟨A5, c5, rfl, hO5, hm5⟩
  obtain ⟨g5, cs5, rfl, hr5, hc5⟩ := own_first hO5
  have d5 : w5.cell? ⟨g5, 1, none⟩ = some (.int .i64 0) := hc5 1 _ (MsgR_from__at hr5)
  have HF5 := Lib.hid (HF4.out.two.1.move hm5)
  have H5 := Lib.hid d5
  clear HF4 hO5 hm5 hr5 hc5 d5
  go_wp2_with (first
    | (refine wpList_load_agg rfl 40 (.tmp 1) rfl Try.underlying40 Try.info_msg1 ⟨g1, 0, none⟩ rfl (csA gv) rfl (fun j u hj => by rw [agg_at]; refine (cell_of_blk HF5.out.b1 _).trans ?_; simpa using hj) ?_)
    | (refine wpList_load_agg rfl 40 (.tmp 2) rfl Try.underlying40 Try.info_msg1 ⟨g2, 0, none⟩ rfl csB rfl (fun j u hj => by rw [agg_at]; refine (cell_of_blk HF5.out.b2 _).trans ?_; simpa using hj) ?_)
    | (refine wpList_slice2 rfl 22 40 (.tmp 15) (.tmp 16) rfl (.agg (csA gv).toArray) (.agg csB.toArray) rfl rfl (csA gv ++ csB).toArray 35 (.agg zeroMsg.toArray) Try.underlying22 Try.info_msg2 (by decide) (fillAB gv) ?_))
  refine (best_any _ 2 2 [msgA, msgB] _ _ HF5.out.two.2 (by decide)).mono ?_
  rw [bestAB]
  rintro e w6 ⟨cs6, rfl, hr6, hm6⟩
  have HF6 := Lib.hid (HF5.out.two.1.move hm6)
  have H6 := Lib.hid (And.intro (show w6.cell? ⟨g5, 1, none⟩ = some (.int .i64 0) from by rw [(((Mod.refl (fun _ => False) w5).alloc _).trans hm6 (fun _ h => h.elim)).cell (a := ⟨g5, 1, none⟩) (lt_of_cell H5.out) id]; exact H5.out) hr6)
  clear HF5 H5 hr6 hm6
  go_wp2_with (refine wpList_alloc_new rfl 40 rfl zeroMsg Try.info_msg0 ?_)
  intro g4 w7 hg7 hb7 hm7
  have HF7 := Lib.hid (HF6.out.move (hm7 fun _ => False))
  have H7 := Lib.hid (And.intro hb7 (And.intro (show w7.cell? ⟨g5, 1, none⟩ = some (.int .i64 0) from by rw [(hm7 fun _ => False).cell (a := ⟨g5, 1, none⟩) (lt_of_cell H6.out.1) id]; exact H6.out.1) (And.intro (Rd.mod (Rd.bound H6.out.2) (hm7 fun _ => False) (fun _ _ => id)) (And.intro (lt_of_cell H6.out.1) (And.intro hg7 (And.intro (lt_of_blk HF6.out.b1) (And.intro (lt_of_blk HF6.out.b2) (And.intro (lt_of_blk HF6.out.bv) HF6.out.mod.size))))))))
  clear HF6 H6 hb7 hm7 hg7
  go_wp2_with (refine wpList_store_var rfl 40 _ _ rfl g4 40 zeroMsg cs6 H7.out.1 rfl rfl (by rw [MsgR_len H7.out.2.2.1]; exact Try.info_msg1) (by rw [MsgR_len H7.out.2.2.1]; rfl) (MsgR.one H7.out.2.2.1) ?_)
  intro w8 hb8 hm8
  have HF8 : Hid (FirstAt w gv g1 g2 w8) := by
    have := H7.out.2.2.2.2
    exact ⟨(hm8.block g1 (lt_of_blk HF7.out.b1) (by omega)).trans HF7.out.b1, (hm8.block g2 (lt_of_blk HF7.out.b2) (by omega)).trans HF7.out.b2, (hm8.block gv (lt_of_blk HF7.out.bv) (by omega)).trans HF7.out.bv, HF7.out.mod.trans hm8 (fun k hk => .inr (by omega))⟩
  have H8 := Lib.hid (And.intro (show w8.cell? ⟨g5, 1, none⟩ = some (.int .i64 0) from by have h5 := H7.out.2.2.2.1; have hg := H7.out.2.2.2.2.1; rw [hm8.cell (a := ⟨g5, 1, none⟩) (lt_of_cell H7.out.2.1) (by show ¬ g5 = g4; have h6 : g5 < w6.heap.size := h5; omega)]; exact H7.out.2.1)
    (show w8.cell? ⟨g4, 1, none⟩ = some (.int .i64 2) from by rw [cell_of_blk hb8]; have := MsgR_from__at H7.out.2.2.1; rw [show msgB.from_ = 2 from rfl] at this; simpa using this))
  clear HF7 H7 hb8 hm8
  go_wp2_with (first
    | (refine wpList_load_agg rfl 40 (.tmp 1) rfl Try.underlying40 Try.info_msg1 ⟨g1, 0, none⟩ rfl (csA gv) rfl (fun j u hj => by rw [agg_at]; refine ((((Mod.refl (fun _ => False) w8).alloc _).cell (a := ⟨g1, j, none⟩) (lt_of_blk HF8.out.b1) id).trans (cell_of_blk HF8.out.b1 _)).trans ?_; simpa using hj) ?_)
    | (refine wpList_load_agg rfl 40 (.tmp 2) rfl Try.underlying40 Try.info_msg1 ⟨g2, 0, none⟩ rfl csB rfl (fun j u hj => by rw [agg_at]; refine (cell_of_blk HF8.out.b2 _).trans ?_; simpa using hj) ?_)
    | (refine wpList_slice1_agg rfl 22 40 _ rfl Try.underlying22 zeroMsg.toArray csB Try.info_msg2 (by decide) rfl rfl ?_))
  have hm89 : Mod (fun _ => False) w8 (w8.alloc (.cells csB.toArray 40)) := (Mod.refl (fun _ => False) w8).alloc _
  refine (keep_any _ 1 1 [msgB] msgA (csA gv) (fun k => k = gv ∨ k = w8.heap.size) _ (Rd.mono (one_rel (heap_alloc_new w8 _) (relB _ (fun _ => False))) (fun k hk => .inr (hk.elim False.elim id))) (Rd.mono (relA (HF8.out.move hm89).bv) (fun _ => .inl)) (by decide) ascB).mono ?_
  rw [keepBA]
  rintro e w9 ⟨A9, c9, rfl, hO9, hm9⟩
  obtain ⟨g9, cs9, rfl, hr9, hc9⟩ := own_first hO9
  have d9 : w9.cell? ⟨g9, 1, none⟩ = some (.int .i64 0) := hc9 1 _ (MsgR_from__at hr9)
  have hm19 := hm89.trans hm9 (fun _ h => h.elim)
  have d5 : w9.cell? ⟨g5, 1, none⟩ = some (.int .i64 0) := by rw [hm19.cell (a := ⟨g5, 1, none⟩) (lt_of_cell H8.out.1) id]; exact H8.out.1
  have d4 : w9.cell? ⟨g4, 1, none⟩ = some (.int .i64 2) := by rw [hm19.cell (a := ⟨g4, 1, none⟩) (lt_of_cell H8.out.2) id]; exact H8.out.2
  have HF9 := Lib.hid (HF8.out.mod.trans hm19 (fun _ h => h.elim))
  clear HF8 H8 hm89 hO9 hm9 hr9 hc9 hm19
  go_wp2_with fail
  have hmA : Mod (fun _ => False) w9 (w9.alloc (.cells #[.int .i64 5, .int .i64 3, .int .i64 9] 3)) := (Mod.refl (fun _ => False) w9).alloc _
  refine (agreed_any _ 3 3 [5, 3, 9] 3 _ _ (lit3_rel (heap_alloc_new w9 _) (fun x hx => inR_mk (by simp at hx; omega)))).mono ?_
  rw [agreed593]
  rintro e wa ⟨rfl, hma⟩
  have HFa := Lib.hid (HF9.out.trans (hmA.trans hma (fun _ h => h.elim)) (fun _ h => h.elim))
  clear HF9 hmA hma d4 d5 d9
  go_wp2_with fail
  refine (primary_any 7 5 wa).mono ?_
  rw [show primaryI 7 5 = 2 from by decide]
  rintro e wb ⟨rfl, rfl⟩
  go_wp2_with fail
  refine (faults_any 7 wa).mono ?_
  rw [show faultsI 7 = 3 from by decide]
  rintro e wb ⟨rfl, rfl⟩
  go_wp2_with fail
  refine (size_any 5 wa).mono ?_
  rw [show sizeB 5 = true from by decide]
  rintro e wb ⟨rfl, rfl⟩
  go_wp2_with fail
  have hmV : Mod (fun _ => False) wa (wa.alloc (.cells #[.int .i64 1] 3)) := (Mod.refl (fun _ => False) wa).alloc _
  refine (voted_any _ 1 1 [1] 0 _ _ (lit1_rel (heap_alloc_new wa _) (inR_mk (by decide))) (by decide)).mono ?_
  rw [show votedI [1] 0 = [0, 1] from voted10]
  rintro e wc ⟨Ac, cc, rfl, -, hmc⟩
  have HFc := Lib.hid (HFa.out.trans (hmV.trans hmc (fun _ h => h.elim)) (fun _ h => h.elim))
  clear HFa hmV hmc
  go_wp2_with fail
  go_ret
  exact ⟨rfl, HFc.out⟩
end Go.Proofs.Ytgdadhpcooegnaa
