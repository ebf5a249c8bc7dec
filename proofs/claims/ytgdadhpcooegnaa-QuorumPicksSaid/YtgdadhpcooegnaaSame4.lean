/- The document's Same of messages; alike: true at equal data. -/
import Derived.Test.YtgdadhpcooegnaaSame3
namespace Go.Proofs.Ytgdadhpcooegnaa
open Go.RowKit
set_option linter.unusedVariables false
theorem HeadR_cells {w : World} {ok : Nat → Prop} {cs : List Value} {x : Head} (h : HeadR.rel w ok cs x) : cs = [.int .i64 x.len, .int .i64 x.size, .int .i64 x.digest] := by
  obtain ⟨c0, c1, c2, rfl, h0, h1, h2⟩ := HeadR_iff.1 h
  rw [show c0 = [.int .i64 x.len] from h0.1, show c1 = [.int .i64 x.size] from h1.1, show c2 = [.int .i64 x.digest] from h2.1]; rfl
theorem Try.info_head : (Try.prog.info? 38).map (·.size) = some 3 := by kernel_rfl
theorem Try.info_reply : (Try.prog.info? 35).map (·.size) = some 6 := by kernel_rfl
/-- a part of a boxed struct, in every world in which what was there is as it was -/
theorem part_all {w : World} {g o n : Nat} {T : TypeId} {fr : Nat × Nat} {cs ca : List Value} (hg : w.heap[g]? = some (.cells cs.toArray T fr)) (h : ca = (cs.drop o).take n) : ∀ w', (∃ W : ModW w, w' = W.1) → ∀ j u, ca[j]? = some u → w'.cell? ((⟨g, o, none⟩ : Addr).add j) = some u := by
  rintro _ ⟨W, rfl⟩ j u hj; rw [h] at hj; exact blk_part hg hj W
theorem ModW.mod {w : World} (W : ModW w) : Mod (fun _ => False) w W.1 := W.2
theorem part_next {w : World} {V : World} (hV : Mod (fun _ => False) w V) {ad : Addr} {ca : List Value} (h : ∀ w', (∃ W : ModW w, w' = W.1) → ∀ j u, ca[j]? = some u → w'.cell? (ad.add j) = some u) : ∀ w', (∃ W : ModW V, w' = W.1) → ∀ j u, ca[j]? = some u → w'.cell? (ad.add j) = some u := by
  rintro _ ⟨W, rfl⟩ j u hj; exact h _ ⟨⟨W.1, hV.trans W.2 (fun _ h => h.elim)⟩, rfl⟩ j u hj
theorem cell_next {w : World} {V : World} (hV : Mod (fun _ => False) w V) {ad : Addr} {v : Value} (h : ∀ W : ModW w, W.1.cell? ad = some v) : ∀ W : ModW V, W.1.cell? ad = some v := fun W => h ⟨W.1, hV.trans W.2 (fun _ h => h.elim)⟩
set_option maxRecDepth 100000 in
set_option maxHeartbeats 4000000 in
theorem sameMsg_any (cs cs2 : List Value) (x : Msg) (ok ok2 : Nat → Prop) (w : World) (h : MsgR.rel w ok cs x) (h2 : MsgR.rel w ok2 cs2 x) :
    Calls Try.prog 14 #[.agg cs.toArray, .agg cs2.toArray] w fun e w' => e = .returned (.bool true) ∧ Mod (fun _ => False) w w' := by
  have H1 := Lib.hid h; have H2 := Lib.hid h2; clear h h2
  go_enter Try.func14, Try.ntmps14
  go_wp2_with (refine wpList_box_new rfl 40 (.tmp 0) rfl cs rfl ?_)
  rename_i Q0 K0 hK0
  intro g1 w1 hg1 hb1 hm1
  go_wp2_with (refine wpList_box_new rfl 40 (.tmp 1) rfl cs2 rfl ?_)
  intro g2 w2 hg2 hb2 hm2
  have hb1' : w2.heap[g1]? = _ := ((hm2 fun _ => False).block g1 (lt_of_blk hb1) id).trans hb1
  have hm : Mod (fun _ => False) w w2 := (hm1 fun _ => False).trans (hm2 fun _ => False) (fun _ h => h.elim)
  have r1 := Rd.mod H1.out hm (fun _ _ => id)
  have r2 := Rd.mod H2.out hm (fun _ _ => id)
  have a0 := blk_cell hb1' (MsgR_kind_at r1)
  have a1 := blk_cell hb1' (MsgR_from__at r1)
  have a2 := blk_cell hb1' (MsgR_to_at r1)
  have a3 := blk_cell hb1' (MsgR_view_at r1)
  have a4 := blk_cell hb1' (MsgR_last_at r1)
  have a5 := blk_cell hb1' (MsgR_op_at r1)
  have a6 := blk_cell hb1' (MsgR_commit_at r1)
  have a7 := blk_cell hb1' (MsgR_nonce_at r1)
  obtain ⟨A8, c8, a8, s8⟩ := MsgR_vector_at r1
  have a8 := blk_cell hb1' a8
  have a29 := blk_cell hb1' (MsgR_base_at r1)
  obtain ⟨A30, c30, a30, s30⟩ := MsgR_log_at r1
  have a30 := blk_cell hb1' a30
  obtain ⟨A31, c31, a31, s31⟩ := MsgR_state_at r1
  have a31 := blk_cell hb1' a31
  have b0 := blk_cell hb2 (MsgR_kind_at r2)
  have b1 := blk_cell hb2 (MsgR_from__at r2)
  have b2 := blk_cell hb2 (MsgR_to_at r2)
  have b3 := blk_cell hb2 (MsgR_view_at r2)
  have b4 := blk_cell hb2 (MsgR_last_at r2)
  have b5 := blk_cell hb2 (MsgR_op_at r2)
  have b6 := blk_cell hb2 (MsgR_commit_at r2)
  have b7 := blk_cell hb2 (MsgR_nonce_at r2)
  obtain ⟨B8, d8, b8, t8⟩ := MsgR_vector_at r2
  have b8 := blk_cell hb2 b8
  have b29 := blk_cell hb2 (MsgR_base_at r2)
  obtain ⟨B30, d30, b30, t30⟩ := MsgR_log_at r2
  have b30 := blk_cell hb2 b30
  obtain ⟨B31, d31, b31, t31⟩ := MsgR_state_at r2
  have b31 := blk_cell hb2 b31
  have s32 := HeadR_cells (MsgR_head r1)
  have t32 := HeadR_cells (MsgR_head r2)
  have e2 : ∀ W : ModW w2, (convert 27 9 (.slice A31 x.state.length c31)).run Try.prog W.1 = .ok (.string (mkStr x.state)) W.1 := fun W => run_str (rel_mod s31 W) _ _ 5 Try.underlying27 Try.underlying5 Try.underlying9
  have f2 : ∀ W : ModW w2, (convert 27 9 (.slice B31 x.state.length d31)).run Try.prog W.1 = .ok (.string (mkStr x.state)) W.1 := fun W => run_str (rel_mod t31 W) _ _ 5 Try.underlying27 Try.underlying5 Try.underlying9
  have HH := Lib.hid (And.intro (part_all hb1' s32.symm) (part_all hb2 t32.symm))
  obtain ⟨-, p8, -⟩ := slice_row s8
  obtain ⟨-, q8, hlen⟩ := slice_row t8
  have HW := Lib.hid hm
  have HV := Lib.hid (And.intro p8 q8)
  have HL := Lib.hid (And.intro s30 t30)
  obtain ⟨ca, hca⟩ : ∃ ca, ca = (cs.drop 9).take 14 := ⟨_, rfl⟩
  obtain ⟨cb, hcb⟩ : ∃ cb, cb = (cs2.drop 9).take 14 := ⟨_, rfl⟩
  have HQ := Lib.hid (And.intro (part_all hb1' hca) (And.intro (part_all hb2 hcb) (And.intro (show RequestR.rel w2 _ ca x.req by rw [hca]; exact MsgR_req r1) (show RequestR.rel w2 _ cb x.req by rw [hcb]; exact MsgR_req r2))))
  obtain ⟨ra, hra⟩ : ∃ ra, ra = (cs.drop 23).take 6 := ⟨_, rfl⟩
  obtain ⟨rb, hrb⟩ : ∃ rb, rb = (cs2.drop 23).take 6 := ⟨_, rfl⟩
  have HR := Lib.hid (And.intro (part_all hb1' hra) (And.intro (part_all hb2 hrb) (And.intro (show ReplyR.rel w2 _ ra x.answer by rw [hra]; exact MsgR_answer r1) (show ReplyR.rel w2 _ rb x.answer by rw [hrb]; exact MsgR_answer r2))))
  clear hg1 hb1 hm1 hg2 hb2 hm2 hb1' hm r1 r2 s8 t8 s30 t30 s31 t31 s32 t32 p8 q8 hca hcb hra hrb
  refine wpList_plain rfl (fun K' hK' => ?_)
  go_simp
  refine hK' _ _ ?_
  refine wpList_nil ?_
  refine hK0 _ _ ?_
  clear hK' K' hK0 K0
  refine wp_seq_k (fun K0 hK0 => ?_)
  refine wp_seq_k (fun K1 hK1 => ?_)
  first
    | (refine wp_region_mod (by kernel_rfl) (by kernel_rfl) ?_)
    | (refine wp_region_lit ?_; refine wpList_mod ?_)
  try simp only [List.append_eq, List.cons_append, List.nil_append]
  repeat (first
    | (refine wpQuiet_load_agg (by rfl) 38 _ rfl Try.underlying38 Try.info_head ⟨g1, 32, none⟩ rfl [.int .i64 x.head.len, .int .i64 x.head.size, .int .i64 x.head.digest] rfl HH.out.1 ?_)
    | (refine wpQuiet_load_agg (by rfl) 38 _ rfl Try.underlying38 Try.info_head ⟨g2, 32, none⟩ rfl [.int .i64 x.head.len, .int .i64 x.head.size, .int .i64 x.head.digest] rfl HH.out.2 ?_)
    | quiet_step (fail))
  refine wpQuiet_nil ?_
  rintro _ ⟨W, rfl⟩
  go_wp2_with fail
  clear a0 a1 a2 a3 a4 a5 a6 a7 a29 a31 b0 b1 b2 b3 b4 b5 b6 b7 b29 b31 e2 f2
  go_loopg [95] x.vector.length (fun f si wr => ∃ (i : Nat), si = .int .i64 i ∧ i + f = x.vector.length ∧ Mod (fun _ => False) w2 wr)
  case atStart => exact ⟨0, rfl, by omega, W.2⟩
  case round =>
    obtain ⟨i, rfl, hi, hmod⟩ := hrel
    have HX := Lib.hid (And.intro hi hmod); clear hi hmod
    by_cases hlt : i < x.vector.length
    · obtain ⟨y, hy⟩ : ∃ y, x.vector[i]? = some y := ⟨_, List.getElem?_eq_getElem hlt⟩
      obtain ⟨ad, rfl, -, hc, -⟩ := RowOf.ints (HV.out.1.step (w1 := wr) (ok1 := fun _ => True) fun k hk hl => ⟨trivial, HX.out.2.block k hl id⟩) hy
      obtain ⟨ad2, rfl, -, hc2, -⟩ := RowOf.ints (HV.out.2.step (w1 := wr) (ok1 := fun _ => True) fun k hk hl => ⟨trivial, HX.out.2.block k hl id⟩) hy
      have a8' := cell_next HX.out.2 a8
      have b8' := cell_next HX.out.2 b8
      have hc' := fun W : ModW wr => W.cell hc
      have hc2' := fun W : ModW wr => W.cell hc2
      clear hy hc hc2
      go_wp2_with fail
      refine wp_region_mod (by kernel_rfl) (by kernel_rfl) ?_
      repeat (quiet_step (fail))
      refine wpQuiet_nil ?_
      rintro _ ⟨V, rfl⟩
      go_wp2_with fail
      go_roundg (gk - 1)
      case measure => have := HX.out.1; omega
      case rel => exact ⟨i + 1, by go_num, by have := HX.out.1; omega, HX.out.2.trans V.2 (fun _ h => h.elim)⟩
    · have a30' := cell_next HX.out.2 a30
      have b30' := cell_next HX.out.2 b30
      clear a8 b8 a30 b30
      go_wp2_with (refine wpList_mod ?_)
      repeat (quiet_step (fail))
      refine wpQuiet_nil ?_
      rintro _ ⟨V, rfl⟩
      have hV := HX.out.2.trans V.2 (fun _ h => h.elim)
      have a30' := cell_next V.2 a30'
      have b30' := cell_next V.2 b30'
      have HP := Lib.hid (And.intro (part_next hV HQ.out.1) (And.intro (part_next hV HQ.out.2.1) (And.intro (part_next hV HR.out.1) (part_next hV HR.out.2.1))))
      have HM := Lib.hid hV; clear hV
      go_wp2_with (refine wpList_mod ?_)
      repeat (first
        | (refine wpQuiet_load_agg (by rfl) 31 _ rfl Try.underlying31 Try.info_request ⟨g1, 9, none⟩ rfl ca (RequestR.len HQ.out.2.2.1) HP.out.1 ?_)
        | (refine wpQuiet_load_agg (by rfl) 31 _ rfl Try.underlying31 Try.info_request ⟨g2, 9, none⟩ rfl cb (RequestR.len HQ.out.2.2.2) HP.out.2.1 ?_)
        | (refine wpQuiet_load_agg (by rfl) 35 _ rfl Try.underlying35 Try.info_reply ⟨g1, 23, none⟩ rfl ra (ReplyR.len HR.out.2.2.1) HP.out.2.2.1 ?_)
        | (refine wpQuiet_load_agg (by rfl) 35 _ rfl Try.underlying35 Try.info_reply ⟨g2, 23, none⟩ rfl rb (ReplyR.len HR.out.2.2.2) HP.out.2.2.2 ?_)
        | quiet_step (first
          | (go_at_call 35; refine quiet_mod (sameRequest_any ca cb x.req _ _ _ (Rd.mod (rel_mod HQ.out.2.2.1 ⟨_, HM.out⟩) (ModW.mod _) (fun _ _ => id)) (Rd.mod (rel_mod HQ.out.2.2.2 ⟨_, HM.out⟩) (ModW.mod _) (fun _ _ => id))))
          | (go_at_call 36; refine quiet_mod (sameReply_any ra rb x.answer _ _ _ (Rd.mod (rel_mod HR.out.2.2.1 ⟨_, HM.out⟩) (ModW.mod _) (fun _ _ => id)) (Rd.mod (rel_mod HR.out.2.2.2 ⟨_, HM.out⟩) (ModW.mod _) (fun _ _ => id))))
          | (go_at_call 37; refine quiet_mod (sameLog_any A30 _ c30 B30 _ d30 x.log _ _ _ (Rd.mod (rel_mod HL.out.1 ⟨_, HM.out⟩) (ModW.mod _) (fun _ _ => id)) (Rd.mod (rel_mod HL.out.2 ⟨_, HM.out⟩) (ModW.mod _) (fun _ _ => id))))))
      refine wpQuiet_nil ?_
      rintro _ ⟨U, rfl⟩
      go_wp2_with fail
      go_ret
      exact ⟨rfl, HW.out.trans (HM.out.trans U.2 (fun _ h => h.elim)) (fun _ h => h.elim)⟩
end Go.Proofs.Ytgdadhpcooegnaa
