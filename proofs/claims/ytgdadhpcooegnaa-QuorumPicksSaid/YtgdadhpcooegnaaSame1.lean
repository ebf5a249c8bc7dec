/- The document's Same of calls and requests: true at equal data. -/
import Derived.Test.YtgdadhpcooegnaaSame0
import Derived.Deep.RegionWith
namespace Go.Proofs.Ytgdadhpcooegnaa
open Go.RowKit
set_option linter.unusedVariables false
theorem blk_cell {w : World} {g i : Nat} {T : TypeId} {fr : Nat × Nat} {cs : List Value} {v : Value} (hg : w.heap[g]? = some (.cells cs.toArray T fr)) (h : cs[i]? = some v) (W : ModW w) : W.1.cell? ⟨g, i, none⟩ = some v :=
  W.cell (by rw [cell_of_blk hg]; simpa using h)
theorem rel_mod {α : Type} {R : Rd α} {w : World} {ok : Nat → Prop} {cs : List Value} {x : α} (h : R.rel w ok cs x) (W : ModW w) : R.rel W.1 ok cs x := Rd.mod h W.2 (fun _ _ => id)
set_option maxRecDepth 100000 in
set_option maxHeartbeats 2000000 in
theorem sameCall_any (cs cs2 : List Value) (x : Call) (ok ok2 : Nat → Prop) (w : World) (h : CallR.rel w ok cs x) (h2 : CallR.rel w ok2 cs2 x) :
    Calls Try.prog 51 #[.agg cs.toArray, .agg cs2.toArray] w fun e w' => e = .returned (.bool true) ∧ Mod (fun _ => False) w w' := by
  have H1 := Lib.hid h; have H2 := Lib.hid h2; clear h h2
  go_enter Try.func51, Try.ntmps51
  go_wp2_with (refine wpList_box_new rfl 29 (.tmp 0) rfl cs rfl ?_)
  rename_i Q0 K0 hK0
  intro g1 w1 hg1 hb1 hm1
  go_wp2_with (refine wpList_box_new rfl 29 (.tmp 1) rfl cs2 rfl ?_)
  intro g2 w2 hg2 hb2 hm2
  have hb1' : w2.heap[g1]? = _ := ((hm2 fun _ => False).block g1 (lt_of_blk hb1) id).trans hb1
  have hm : Mod (fun _ => False) w w2 := (hm1 fun _ => False).trans (hm2 fun _ => False) (fun _ h => h.elim)
  have r1 := Rd.mod H1.out hm (fun _ _ => id)
  have r2 := Rd.mod H2.out hm (fun _ _ => id)
  have a0 := blk_cell hb1' (CallR_op_at r1)
  obtain ⟨A1, c1, a1, s1⟩ := CallR_at__at r1
  have a1 := blk_cell hb1' a1
  obtain ⟨A2, c2, a2, s2⟩ := CallR_label_at r1
  have a2 := blk_cell hb1' a2
  obtain ⟨A3, c3, a3, s3⟩ := CallR_entry_at r1
  have a3 := blk_cell hb1' a3
  obtain ⟨A4, c4, a4, s4⟩ := CallR_own_at r1
  have a4 := blk_cell hb1' a4
  have a5 := blk_cell hb1' (CallR_n_at r1)
  have a6 := blk_cell hb1' (CallR_m_at r1)
  obtain ⟨A7, c7, a7, s7⟩ := CallR_text_at r1
  have a7 := blk_cell hb1' a7
  have a8 := blk_cell hb1' (CallR_cat_at r1)
  obtain ⟨A9, c9, a9, s9⟩ := CallR_seg_at r1
  have a9 := blk_cell hb1' a9
  have a10 := blk_cell hb1' (CallR_write_at r1)
  have b0 := blk_cell hb2 (CallR_op_at r2)
  obtain ⟨B1, d1, b1, t1⟩ := CallR_at__at r2
  have b1 := blk_cell hb2 b1
  obtain ⟨B2, d2, b2, t2⟩ := CallR_label_at r2
  have b2 := blk_cell hb2 b2
  obtain ⟨B3, d3, b3, t3⟩ := CallR_entry_at r2
  have b3 := blk_cell hb2 b3
  obtain ⟨B4, d4, b4, t4⟩ := CallR_own_at r2
  have b4 := blk_cell hb2 b4
  have b5 := blk_cell hb2 (CallR_n_at r2)
  have b6 := blk_cell hb2 (CallR_m_at r2)
  obtain ⟨B7, d7, b7, t7⟩ := CallR_text_at r2
  have b7 := blk_cell hb2 b7
  have b8 := blk_cell hb2 (CallR_cat_at r2)
  obtain ⟨B9, d9, b9, t9⟩ := CallR_seg_at r2
  have b9 := blk_cell hb2 b9
  have b10 := blk_cell hb2 (CallR_write_at r2)
  have e7 : ∀ W : ModW w2, (convert 27 9 (.slice A7 x.text.length c7)).run Try.prog W.1 = .ok (.string (mkStr x.text)) W.1 := fun W => run_str (rel_mod s7 W) _ _ 5 Try.underlying27 Try.underlying5 Try.underlying9
  have f7 : ∀ W : ModW w2, (convert 27 9 (.slice B7 x.text.length d7)).run Try.prog W.1 = .ok (.string (mkStr x.text)) W.1 := fun W => run_str (rel_mod t7 W) _ _ 5 Try.underlying27 Try.underlying5 Try.underlying9
  have HW := Lib.hid hm
  have HS := Lib.hid (And.intro s1 (And.intro s2 (And.intro s3 (And.intro s4 s9))))
  have HT := Lib.hid (And.intro t1 (And.intro t2 (And.intro t3 (And.intro t4 t9))))
  clear hg1 hb1 hm1 hg2 hb2 hm2 hb1' hm r1 r2 s1 s2 s3 s4 s7 s9 t1 t2 t3 t4 t7 t9
  refine wpList_plain rfl (fun K' hK' => ?_)
  go_simp
  refine hK' _ _ ?_
  refine wpList_nil ?_
  refine hK0 _ _ ?_
  clear hK' K' hK0 K0
  refine wp_seq ?_
  refine wp_region_lit ?_
  refine wpList_mod ?_
  simp only [List.append_eq, List.cons_append, List.nil_append]
  repeat (quiet_step (first
    | (go_at_call_of 50 (x.at_); refine quiet_mod (samePath_any A1 _ c1 B1 _ d1 x.at_ _ _ _ (rel_mod HS.out.1 _) (rel_mod HT.out.1 _)))
    | (go_at_call_of 52 (x.label); refine quiet_mod (sameLabel_any A2 _ c2 B2 _ d2 x.label _ _ _ (rel_mod HS.out.2.1 _) (rel_mod HT.out.2.1 _)))
    | (go_at_call_of 52 (x.entry); refine quiet_mod (sameLabel_any A3 _ c3 B3 _ d3 x.entry _ _ _ (rel_mod HS.out.2.2.1 _) (rel_mod HT.out.2.2.1 _)))
    | (go_at_call_of 59 (x.own); refine quiet_mod (sameOwn_any A4 _ c4 B4 _ d4 x.own _ _ _ (rel_mod HS.out.2.2.2.1 _) (rel_mod HT.out.2.2.2.1 _)))
    | (go_at_call_of 50 (x.seg); refine quiet_mod (samePath_any A9 _ c9 B9 _ d9 x.seg _ _ _ (rel_mod HS.out.2.2.2.2 _) (rel_mod HT.out.2.2.2.2 _)))))
  refine wpQuiet_nil ?_
  rintro _ ⟨W, rfl⟩
  go_wp2_with fail
  go_ret
  exact ⟨rfl, HW.out.trans W.2 (fun _ h => h.elim)⟩
end Go.Proofs.Ytgdadhpcooegnaa
