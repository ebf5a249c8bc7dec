/- The document's Same of requests and of logs: true at equal data. -/
import Derived.Test.YtgdadhpcooegnaaSame1
namespace Go.Proofs.Ytgdadhpcooegnaa
open Go.RowKit
set_option linter.unusedVariables false
theorem blk_part {w : World} {g o n j : Nat} {T : TypeId} {fr : Nat × Nat} {cs : List Value} {u : Value} (hg : w.heap[g]? = some (.cells cs.toArray T fr)) (h : ((cs.drop o).take n)[j]? = some u) (W : ModW w) : W.1.cell? ((⟨g, o, none⟩ : Addr).add j) = some u := by
  rw [add_own]
  refine blk_cell hg ?_ W
  rw [List.getElem?_take] at h
  split at h
  · rw [List.getElem?_drop] at h; exact h
  · cases h
theorem part_len {α : Type} {R : Rd α} {w : World} {ok : Nat → Prop} {cs : List Value} {x : α} (h : R.rel w ok cs x) : cs.length = R.sz := R.len h
theorem Try.info_call : (Try.prog.info? 29).map (·.size) = some 11 := by kernel_rfl
set_option maxRecDepth 100000 in
set_option maxHeartbeats 2000000 in
theorem sameRequest_any (cs cs2 : List Value) (x : Request) (ok ok2 : Nat → Prop) (w : World) (h : RequestR.rel w ok cs x) (h2 : RequestR.rel w ok2 cs2 x) :
    Calls Try.prog 35 #[.agg cs.toArray, .agg cs2.toArray] w fun e w' => e = .returned (.bool true) ∧ Mod (fun _ => False) w w' := by
  have H1 := Lib.hid h; have H2 := Lib.hid h2; clear h h2
  go_enter Try.func35, Try.ntmps35
  go_wp2_with (refine wpList_box_new rfl 31 (.tmp 0) rfl cs rfl ?_)
  rename_i Q0 K0 hK0
  intro g1 w1 hg1 hb1 hm1
  go_wp2_with (refine wpList_box_new rfl 31 (.tmp 1) rfl cs2 rfl ?_)
  intro g2 w2 hg2 hb2 hm2
  have hb1' : w2.heap[g1]? = _ := ((hm2 fun _ => False).block g1 (lt_of_blk hb1) id).trans hb1
  have hm : Mod (fun _ => False) w w2 := (hm1 fun _ => False).trans (hm2 fun _ => False) (fun _ h => h.elim)
  have r1 := Rd.mod H1.out hm (fun _ _ => id)
  have r2 := Rd.mod H2.out hm (fun _ _ => id)
  have a0 := blk_cell hb1' (RequestR_client_at r1)
  have a1 := blk_cell hb1' (RequestR_number_at r1)
  obtain ⟨A2, c2, a2, s2⟩ := RequestR_who_at r1
  have a2 := blk_cell hb1' a2
  have s3 := RequestR_c r1
  have b0 := blk_cell hb2 (RequestR_client_at r2)
  have b1 := blk_cell hb2 (RequestR_number_at r2)
  obtain ⟨B2, d2, b2, t2⟩ := RequestR_who_at r2
  have b2 := blk_cell hb2 b2
  have t3 := RequestR_c r2
  obtain ⟨ca, hca⟩ : ∃ ca, ca = (cs.drop 3).take 11 := ⟨_, rfl⟩
  obtain ⟨cb, hcb⟩ : ∃ cb, cb = (cs2.drop 3).take 11 := ⟨_, rfl⟩
  rw [← hca] at s3
  rw [← hcb] at t3
  have la : ca.length = 11 := CallR.len s3
  have lb : cb.length = 11 := CallR.len t3
  have pa : ∀ w', (∃ W : ModW w2, w' = W.1) → ∀ j u, ca[j]? = some u → w'.cell? ((⟨g1, 3, none⟩ : Addr).add j) = some u := by
    rintro _ ⟨W, rfl⟩ j u hj; rw [hca] at hj; exact blk_part hb1' hj W
  have pb : ∀ w', (∃ W : ModW w2, w' = W.1) → ∀ j u, cb[j]? = some u → w'.cell? ((⟨g2, 3, none⟩ : Addr).add j) = some u := by
    rintro _ ⟨W, rfl⟩ j u hj; rw [hcb] at hj; exact blk_part hb2 hj W
  have HW := Lib.hid hm
  have HS := Lib.hid (And.intro s2 (And.intro t2 (And.intro s3 t3)))
  have HP := Lib.hid (And.intro la (And.intro lb (And.intro pa pb)))
  clear hg1 hb1 hm1 hg2 hb2 hm2 hb1' hm r1 r2 s2 s3 t2 t3 la lb pa pb hca hcb
  refine wpList_plain rfl (fun K' hK' => ?_)
  go_simp
  refine hK' _ _ ?_
  refine wpList_nil ?_
  refine hK0 _ _ ?_
  clear hK' K' hK0 K0
  refine wp_seq ?_
  refine wp_region_lit ?_
  refine wpList_mod ?_
  try simp only [List.append_eq, List.cons_append, List.nil_append]
  repeat (first
    | (refine wpQuiet_load_agg (by rfl) 29 _ rfl Try.underlying29 Try.info_call ⟨g1, 3, none⟩ rfl ca HP.out.1 HP.out.2.2.1 ?_)
    | (refine wpQuiet_load_agg (by rfl) 29 _ rfl Try.underlying29 Try.info_call ⟨g2, 3, none⟩ rfl cb HP.out.2.1 HP.out.2.2.2 ?_)
    | quiet_step (first
      | (go_at_call 50; refine quiet_mod (samePath_any A2 _ c2 B2 _ d2 x.who _ _ _ (rel_mod HS.out.1 _) (rel_mod HS.out.2.1 _)))
      | (go_at_call 51; refine quiet_mod (sameCall_any ca cb x.c _ _ _ (rel_mod HS.out.2.2.1 _) (rel_mod HS.out.2.2.2 _)))))
  refine wpQuiet_nil ?_
  rintro _ ⟨W, rfl⟩
  go_wp2_with fail
  go_ret
  exact ⟨rfl, HW.out.trans W.2 (fun _ h => h.elim)⟩
abbrev logR : Rd (List Request) := Rd.slice 232 RequestR
theorem Try.info_request : (Try.prog.info? 31).map (·.size) = some 14 := by kernel_rfl
set_option maxRecDepth 100000 in
set_option maxHeartbeats 1000000 in
theorem sameLog_any (A : Option Addr) (n c : Nat) (A2 : Option Addr) (n2 c2 : Nat) (a : List Request) (ok ok2 : Nat → Prop) (w : World) (h : logR.rel w ok [.slice A n c] a) (h2 : logR.rel w ok2 [.slice A2 n2 c2] a) :
    Calls Try.prog 37 #[.slice A n c, .slice A2 n2 c2] w fun e w' => e = .returned (.bool true) ∧ Mod (fun _ => False) w w' := by
  obtain ⟨rfl, hr1, hb⟩ := slice_row h
  obtain ⟨rfl, hr2, -⟩ := slice_row h2
  have H1 := Lib.hid (And.intro hr1 hr2); clear h h2 hr1 hr2
  go_enter Try.func37, Try.ntmps37
  go_wp2_with fail
  go_loopg [13] a.length (fun f si wr => ∃ (i : Nat), si = .int .i64 i ∧ i + f = a.length ∧ Mod (fun _ => False) w wr)
  case atStart => exact ⟨0, rfl, by omega, .refl _ _⟩
  case round =>
    obtain ⟨i, rfl, hi, hmod⟩ := hrel
    have HX := Lib.hid (And.intro hi hmod); clear hi hmod
    by_cases hlt : i < a.length
    · obtain ⟨x, hx⟩ : ∃ x, a[i]? = some x := ⟨_, List.getElem?_eq_getElem hlt⟩
      obtain ⟨ad, cs, rfl, -, hr, hc⟩ := (H1.out.1.step (w1 := wr) (ok1 := fun _ => True) fun k hk hl => ⟨trivial, HX.out.2.block k hl id⟩).at_ hx
      obtain ⟨ad2, cs2, rfl, -, hr2, hc2⟩ := (H1.out.2.step (w1 := wr) (ok1 := fun _ => True) fun k hk hl => ⟨trivial, HX.out.2.block k hl id⟩).at_ hx
      have HY := Lib.hid (And.intro hr (And.intro hr2 (And.intro hc hc2)))
      clear hx hr hr2 hc hc2
      go_wp2_with fail
      refine wp_region_mod (by kernel_rfl) (by kernel_rfl) ?_
      repeat (first
        | (refine wpQuiet_load_agg (by rfl) 31 _ rfl Try.underlying31 Try.info_request (ad.add (i * 14)) rfl cs (RequestR.len HY.out.1) (fun w' hw j u hj => by obtain ⟨W, rfl⟩ := hw; rw [add_add]; exact W.cell (HY.out.2.2.1 j u hj)) ?_)
        | (refine wpQuiet_load_agg (by rfl) 31 _ rfl Try.underlying31 Try.info_request (ad2.add (i * 14)) rfl cs2 (RequestR.len HY.out.2.1) (fun w' hw j u hj => by obtain ⟨W, rfl⟩ := hw; rw [add_add]; exact W.cell (HY.out.2.2.2 j u hj)) ?_)
        | quiet_step ((go_at_call 35; refine quiet_mod (sameRequest_any cs cs2 x _ _ _ (rel_mod HY.out.1 _) (rel_mod HY.out.2.1 _)))))
      refine wpQuiet_nil ?_
      rintro _ ⟨W, rfl⟩
      go_wp2_with fail
      go_roundg (gk - 1)
      case measure => have := HX.out.1; omega
      case rel => exact ⟨i + 1, by go_num, by have := HX.out.1; omega, HX.out.2.trans W.2 (fun _ h => h.elim)⟩
    · go_wp2_with fail
      go_ret
      exact ⟨rfl, HX.out.2⟩
end Go.Proofs.Ytgdadhpcooegnaa
