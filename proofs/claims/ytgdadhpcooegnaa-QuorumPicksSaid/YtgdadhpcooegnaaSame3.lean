/- The document's Same of replies, of messages; alike: true at equal data. -/
import Derived.Test.YtgdadhpcooegnaaSame2
import Derived.Test.YtgdadhpcooegnaaQuorum1
namespace Go.Proofs.Ytgdadhpcooegnaa
open Go.RowKit
set_option linter.unusedVariables false
theorem KidR_cells {w : World} {ok : Nat → Prop} {cs : List Value} {x : Kid} (h : KidR.rel w ok cs x) : cs = [.int .i64 x.n, .int .i64 x.kind, .int .i64 x.quota] := by
  obtain ⟨c0, c1, c2, rfl, h0, h1, h2⟩ := KidR_iff.1 h
  rw [show c0 = [.int .i64 x.n] from h0.1, show c1 = [.int .i64 x.kind] from h1.1, show c2 = [.int .i64 x.quota] from h2.1]; rfl
abbrev kidsR : Rd (List Kid) := Rd.slice 24 KidR
theorem Try.info_kid : (Try.prog.info? 82).map (·.size) = some 3 := by kernel_rfl
set_option maxRecDepth 100000 in
set_option maxHeartbeats 2000000 in
theorem sameReply_any (cs cs2 : List Value) (x : Reply) (ok ok2 : Nat → Prop) (w : World) (h : ReplyR.rel w ok cs x) (h2 : ReplyR.rel w ok2 cs2 x) :
    Calls Try.prog 36 #[.agg cs.toArray, .agg cs2.toArray] w fun e w' => e = .returned (.bool true) ∧ Mod (fun _ => False) w w' := by
  have H1 := Lib.hid h; have H2 := Lib.hid h2; clear h h2
  go_enter Try.func36, Try.ntmps36
  go_wp2_with (refine wpList_box_new rfl 35 (.tmp 0) rfl cs rfl ?_)
  rename_i Q0 K0 hK0
  intro g1 w1 hg1 hb1 hm1
  go_wp2_with (refine wpList_box_new rfl 35 (.tmp 1) rfl cs2 rfl ?_)
  intro g2 w2 hg2 hb2 hm2
  have hb1' : w2.heap[g1]? = _ := ((hm2 fun _ => False).block g1 (lt_of_blk hb1) id).trans hb1
  have hm : Mod (fun _ => False) w w2 := (hm1 fun _ => False).trans (hm2 fun _ => False) (fun _ h => h.elim)
  have r1 := Rd.mod H1.out hm (fun _ _ => id)
  have r2 := Rd.mod H2.out hm (fun _ _ => id)
  have a0 := blk_cell hb1' (ReplyR_e_at r1)
  have a1 := blk_cell hb1' (ReplyR_n_at r1)
  obtain ⟨A2, c2, a2, s2⟩ := ReplyR_text_at r1
  have a2 := blk_cell hb1' a2
  have a3 := blk_cell hb1' (ReplyR_cat_at r1)
  obtain ⟨A4, c4, a4, s4⟩ := ReplyR_label_at r1
  have a4 := blk_cell hb1' a4
  obtain ⟨A5, c5, a5, s5⟩ := ReplyR_kids_at r1
  have a5 := blk_cell hb1' a5
  have b0 := blk_cell hb2 (ReplyR_e_at r2)
  have b1 := blk_cell hb2 (ReplyR_n_at r2)
  obtain ⟨B2, d2, b2, t2⟩ := ReplyR_text_at r2
  have b2 := blk_cell hb2 b2
  have b3 := blk_cell hb2 (ReplyR_cat_at r2)
  obtain ⟨B4, d4, b4, t4⟩ := ReplyR_label_at r2
  have b4 := blk_cell hb2 b4
  obtain ⟨B5, d5, b5, t5⟩ := ReplyR_kids_at r2
  have b5 := blk_cell hb2 b5
  have e2 : ∀ W : ModW w2, (convert 27 9 (.slice A2 x.text.length c2)).run Try.prog W.1 = .ok (.string (mkStr x.text)) W.1 := fun W => run_str (rel_mod s2 W) _ _ 5 Try.underlying27 Try.underlying5 Try.underlying9
  have f2 : ∀ W : ModW w2, (convert 27 9 (.slice B2 x.text.length d2)).run Try.prog W.1 = .ok (.string (mkStr x.text)) W.1 := fun W => run_str (rel_mod t2 W) _ _ 5 Try.underlying27 Try.underlying5 Try.underlying9
  obtain ⟨-, p5, -⟩ := slice_row s5
  obtain ⟨-, q5, hlen⟩ := slice_row t5
  have HW := Lib.hid hm
  have HS := Lib.hid (And.intro s4 (And.intro t4 (And.intro p5 q5)))
  clear hg1 hb1 hm1 hg2 hb2 hm2 hb1' hm r1 r2 s2 t2 s4 t4 s5 t5 p5 q5
  refine wpList_plain rfl (fun K' hK' => ?_)
  go_simp
  refine hK' _ _ ?_
  refine wpList_nil ?_
  refine hK0 _ _ ?_
  clear hK' K' hK0 K0
  refine wp_seq_k (fun K0 hK0 => ?_)
  refine wp_seq_k (fun K1 hK1 => ?_)
  first
    | (refine wp_region_mod (by kernel_rfl) (by kernel_rfl) ?_)
    | (refine wp_region_lit ?_; refine wpList_mod ?_)
  try simp only [List.append_eq, List.cons_append, List.nil_append]
  repeat (quiet_step ((go_at_call 52; refine quiet_mod (sameLabel_any A4 _ c4 B4 _ d4 x.label _ _ _ (rel_mod HS.out.1 _) (rel_mod HS.out.2.1 _)))))
  refine wpQuiet_nil ?_
  rintro _ ⟨W, rfl⟩
  go_wp2_with fail
  go_loopg [54] x.kids.length (fun f si wr => ∃ (i : Nat), si = .int .i64 i ∧ i + f = x.kids.length ∧ Mod (fun _ => False) w2 wr)
  case atStart => exact ⟨0, rfl, by omega, W.2⟩
  case round =>
    obtain ⟨i, rfl, hi, hmod⟩ := hrel
    have HX := Lib.hid (And.intro hi hmod); clear hi hmod
    by_cases hlt : i < x.kids.length
    · obtain ⟨y, hy⟩ : ∃ y, x.kids[i]? = some y := ⟨_, List.getElem?_eq_getElem hlt⟩
      obtain ⟨ad, cs, rfl, -, hr, hc⟩ := (HS.out.2.2.1.step (w1 := wr) (ok1 := fun _ => True) fun k hk hl => ⟨trivial, HX.out.2.block k hl id⟩).at_ hy
      obtain ⟨ad2, cs2, rfl, -, hr2, hc2⟩ := (HS.out.2.2.2.step (w1 := wr) (ok1 := fun _ => True) fun k hk hl => ⟨trivial, HX.out.2.block k hl id⟩).at_ hy
      obtain rfl := KidR_cells hr
      obtain rfl := KidR_cells hr2
      have a5' : ∀ W : ModW wr, W.1.cell? ⟨g1, 5, none⟩ = some (.slice (some ad) x.kids.length c5) := fun W => a5 ⟨W.1, HX.out.2.trans W.2 (fun _ h => h.elim)⟩
      have b5' : ∀ W : ModW wr, W.1.cell? ⟨g2, 5, none⟩ = some (.slice (some ad2) x.kids.length d5) := fun W => b5 ⟨W.1, HX.out.2.trans W.2 (fun _ h => h.elim)⟩
      have HY := Lib.hid (And.intro hc hc2)
      clear hy hr hr2 hc hc2
      go_wp2_with fail
      refine wp_region_mod (by kernel_rfl) (by kernel_rfl) ?_
      repeat (first
        | (refine wpQuiet_load_agg (by rfl) 82 _ rfl Try.underlying82 Try.info_kid (ad.add (i * 3)) rfl [.int .i64 y.n, .int .i64 y.kind, .int .i64 y.quota] rfl (fun w' hw j u hj => by obtain ⟨W, rfl⟩ := hw; rw [add_add]; exact W.cell (HY.out.1 j u hj)) ?_)
        | (refine wpQuiet_load_agg (by rfl) 82 _ rfl Try.underlying82 Try.info_kid (ad2.add (i * 3)) rfl [.int .i64 y.n, .int .i64 y.kind, .int .i64 y.quota] rfl (fun w' hw j u hj => by obtain ⟨W, rfl⟩ := hw; rw [add_add]; exact W.cell (HY.out.2 j u hj)) ?_)
        | quiet_step (fail))
      refine wpQuiet_nil ?_
      rintro _ ⟨V, rfl⟩
      go_wp2_with fail
      go_roundg (gk - 1)
      case measure => have := HX.out.1; omega
      case rel => exact ⟨i + 1, by go_num, by have := HX.out.1; omega, HX.out.2.trans V.2 (fun _ h => h.elim)⟩
    · go_wp2_with fail
      go_ret
      exact ⟨rfl, HW.out.trans HX.out.2 (fun _ h => h.elim)⟩
end Go.Proofs.Ytgdadhpcooegnaa
