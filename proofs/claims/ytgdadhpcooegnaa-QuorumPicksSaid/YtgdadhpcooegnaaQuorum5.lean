/- Layer 22: the best message, the two answers. -/
import Derived.Test.YtgdadhpcooegnaaQuorum4
namespace Go.Proofs.Ytgdadhpcooegnaa
open Go.RowKit
set_option linter.unusedVariables false
def zReq : Request := ⟨0, 0, [], ⟨0, [], [], [], [], 0, 0, [], ⟨#[]⟩, [], false⟩⟩
def zMsg : Msg := ⟨0, 0, 0, 0, 0, 0, 0, 0, [], zReq, ⟨0, 0, [], ⟨#[]⟩, [], []⟩, 0, [], [], ⟨0, 0, 0⟩⟩
theorem zl_rel {α : Type} (b : Nat) (R : Rd α) (w : World) (ok : Nat → Prop) : (Rd.slice b R).rel w ok [zl] [] := ⟨none, 0, rfl, Nat.le_refl _, by decide, by simp, fun _ => rfl, .inl rfl⟩
theorem zi_rel (w : World) (ok : Nat → Prop) : (Rd.int .i64).rel w ok [zi] 0 := ⟨rfl, inR_mk (by decide)⟩
theorem zs_rel (w : World) (ok : Nat → Prop) : Rd.string.rel w ok [zs] ⟨#[]⟩ := ⟨rfl, by decide⟩
theorem zMsg_rel (w : World) (ok : Nat → Prop) : MsgR.rel w ok zeroMsg zMsg := by
  refine MsgR_iff.2 ⟨[zi], [zi], [zi], [zi], [zi], [zi], [zi], [zi], [zl], [zi, zi, zl, zi, zl, zl, zl, zl, zi, zi, zl, zs, zl, .bool false], [zi, zi, zl, zs, zl, zl], [zi], [zl], [zl], [zi, zi, zi], rfl, zi_rel _ _, zi_rel _ _, zi_rel _ _, zi_rel _ _, zi_rel _ _, zi_rel _ _, zi_rel _ _, zi_rel _ _, zl_rel _ _ _ _, ?_, ?_, zi_rel _ _, zl_rel _ _ _ _, zl_rel _ _ _ _, ?_⟩
  · refine RequestR_iff.2 ⟨[zi], [zi], [zl], [zi, zl, zl, zl, zl, zi, zi, zl, zs, zl, .bool false], rfl, zi_rel _ _, zi_rel _ _, zl_rel _ _ _ _, ?_⟩
    exact CallR_iff.2 ⟨[zi], [zl], [zl], [zl], [zl], [zi], [zi], [zl], [zs], [zl], [.bool false], rfl, zi_rel _ _, zl_rel _ _ _ _, zl_rel _ _ _ _, zl_rel _ _ _ _, zl_rel _ _ _ _, zi_rel _ _, zi_rel _ _, zl_rel _ _ _ _, zs_rel _ _, zl_rel _ _ _ _, rfl⟩
  · exact ReplyR_iff.2 ⟨[zi], [zi], [zl], [zs], [zl], [zl], rfl, zi_rel _ _, zi_rel _ _, zl_rel _ _ _ _, zs_rel _ _, zl_rel _ _ _ _, zl_rel _ _ _ _⟩
  · exact HeadR_iff.2 ⟨[zi], [zi], [zi], rfl, zi_rel _ _, zi_rel _ _, zi_rel _ _⟩
theorem MsgR_list_bound {w w1 : World} {ok : Nat → Prop} {cs : List Value} {l : List Msg} (h : msgsR.rel w ok cs l) (hm : Mod (fun _ => False) w w1) : msgsR.rel w1 (fun k => ok k ∧ k < w.heap.size) cs l :=
  Rd.mod (Rd.bound h) hm (fun _ _ => id)
def bestOf (l : List Msg) : Msg := match l with | [] => zMsg | m :: l => minM m l
set_option maxRecDepth 100000 in
set_option maxHeartbeats 1000000 in
theorem best_any (A : Option Addr) (n c : Nat) (l : List Msg) (ok : Nat → Prop) (w : World) (h : msgsR.rel w ok [.slice A n c] l) (hl : l.length ≤ 1000000) :
    Calls Try.prog 9 #[.slice A n c] w fun e w' => ∃ cs, e = .returned (.tuple #[.agg cs.toArray, .bool (!l.isEmpty)]) ∧ MsgR.rel w' (fun k => ok k ∧ k < w.heap.size) cs (bestOf l) ∧ Mod (fun _ => False) w w' := by
  cases l with
  | nil =>
    obtain ⟨rfl, -, -, -, -⟩ := msgs_row h
    clear h
    go_enter Try.func9, Try.ntmps9
    go_wp2_with (refine wpList_alloc_new rfl 40 rfl zeroMsg Try.info_msg0 ?_)
    intro g w1 hg hb hm
    have H1 := Lib.hid (And.intro hg (And.intro hb (hm fun _ => False))); clear hg hb hm
    go_wp2_with (first
      | (refine wpList_build rfl 40 #[] rfl #[] rfl zeroMsg.toArray (by kernel_rfl) ?_)
      | (refine wpList_store_var rfl 40 _ _ rfl g 40 zeroMsg zeroMsg H1.out.2.1 rfl rfl Try.info_msg1 rfl (MsgR.one (zMsg_rel w1 (fun _ => False))) ?_))
    intro w2 hb2 hm2
    have H2 := Lib.hid (And.intro hb2 hm2); clear hb2 hm2
    go_wp2_with fail
    (try simp only [Exit.inBlock, Exit.then])
    refine bodyPost_ret (results_agg2 rfl _ _ g 40 zeroMsg (0, 0) rfl H2.out.1 Try.underlying40 Try.info_msg1) rfl ?_
    exact ⟨zeroMsg, rfl, zMsg_rel _ _, H1.out.2.2.trans H2.out.2 (fun k hk => .inr (hk ▸ H1.out.1))⟩
  | cons m l =>
    have hl' : l.length ≤ 1000000 := by simp at hl; omega
    have hn0 : n = l.length + 1 := by simpa using (msgs_row h).1
    subst hn0
    have H0 := Lib.hid h; clear h
    have hlen : ((((l.length : Int) + 1) == 0) : Bool) = false := by simp; omega
    go_enter Try.func9, Try.ntmps9
    go_wp2_with (refine wpList_alloc_new rfl 40 rfl zeroMsg Try.info_msg0 ?_)
    intro g w1 hg hb hm
    have hr := MsgR_list_bound H0.out (hm fun _ => False)
    have hs1 := (hm fun _ => False).size
    have H1 := Lib.hid (And.intro hg (And.intro hb (And.intro (hm fun _ => False) hr))); clear hg hb hm hr
    go_wp2_with fail
    refine (minfunc_any A _ c m l (fun k => ok k ∧ k < w.heap.size) w1 H1.out.2.2.2 hl').mono ?_
    rintro e w2 ⟨cs, rfl, hr2, hm2⟩
    have hb2 : w2.heap[g]? = some (.cells zeroMsg.toArray 40 (0, 0)) := (hm2.block g (lt_of_blk H1.out.2.1) id).trans H1.out.2.1
    have H2 := Lib.hid (And.intro hb2 (And.intro hr2 hm2)); clear hb2 hr2 hm2
    go_wp2_with (refine wpList_store_var rfl 40 _ _ rfl g 40 zeroMsg cs H2.out.1 rfl rfl (by rw [MsgR_len H2.out.2.1]; exact Try.info_msg1) (by rw [MsgR_len H2.out.2.1]; rfl) (MsgR.one H2.out.2.1) ?_)
    intro w3 hb3 hm3
    have H3 := Lib.hid (And.intro hb3 hm3); clear hb3 hm3
    go_wp2_with fail
    (try simp only [Exit.inBlock, Exit.then])
    refine bodyPost_ret (results_agg2 rfl _ _ g 40 cs (0, 0) rfl H3.out.1 Try.underlying40 (by rw [MsgR_len H2.out.2.1]; exact Try.info_msg1)) rfl ?_
    refine ⟨cs, rfl, ?_, (H1.out.2.2.1.trans H2.out.2.2 (fun _ h => h.elim)).trans H3.out.2 (fun k hk => .inr (hk ▸ H1.out.1))⟩
    refine MsgR.step (fun k hk hl => ⟨hk.1, H3.out.2.block k hl (fun e => ?_)⟩) H2.out.2.1
    have := H1.out.1
    have := hk.1.2
    omega
set_option maxRecDepth 100000 in
set_option maxHeartbeats 1000000 in
theorem refbest_any (A : Option Addr) (n c : Nat) (l : List Msg) (ok : Nat → Prop) (w : World) (h : msgsR.rel w ok [.slice A n c] l) (hl : l.length ≤ 1000000) :
    Calls Try.prog 10 #[.slice A n c] w fun e w' => ∃ cs, e = .returned (.tuple #[.agg cs.toArray, .bool (!l.isEmpty)]) ∧ MsgR.rel w' (fun k => ok k ∧ k < w.heap.size) cs (bestOf l) ∧ Mod (fun _ => False) w w' := by
  cases l with
  | nil =>
    obtain ⟨rfl, -, -, -, -⟩ := msgs_row h
    clear h
    go_enter Try.func10, Try.ntmps10
    go_wp2_with (refine wpList_alloc_new rfl 40 rfl zeroMsg Try.info_msg0 ?_)
    intro g w1 hg hb hm
    have H1 := Lib.hid (And.intro hg (And.intro hb (hm fun _ => False))); clear hg hb hm
    go_wp2_with (first
      | (refine wpList_build rfl 40 #[] rfl #[] rfl zeroMsg.toArray (by kernel_rfl) ?_)
      | (refine wpList_store_var rfl 40 _ _ rfl g 40 zeroMsg zeroMsg H1.out.2.1 rfl rfl Try.info_msg1 rfl (MsgR.one (zMsg_rel w1 (fun _ => False))) ?_))
    intro w2 hb2 hm2
    have H2 := Lib.hid (And.intro hb2 hm2); clear hb2 hm2
    go_wp2_with fail
    (try simp only [Exit.inBlock, Exit.then])
    refine bodyPost_ret (results_agg2 rfl _ _ g 40 zeroMsg (0, 0) rfl H2.out.1 Try.underlying40 Try.info_msg1) rfl ?_
    exact ⟨zeroMsg, rfl, zMsg_rel _ _, H1.out.2.2.trans H2.out.2 (fun k hk => .inr (hk ▸ H1.out.1))⟩
  | cons m l =>
    have hl' : l.length ≤ 1000000 := by simp at hl; omega
    obtain ⟨hn0, hcap, hrow, -, -⟩ := msgs_row h
    have hn0 : n = l.length + 1 := by simpa using hn0
    subst hn0
    have HR := Lib.hid hrow; clear h hrow hn0
    obtain ⟨ad, cs0, rfl, hok, hr0, hc0⟩ := HR.out.at_ (j := 0) rfl
    have HX := Lib.hid (And.intro hok (And.intro hr0 hc0)); clear hok hr0 hc0
    have hlen : ((((l.length : Int) + 1) == 0) : Bool) = false := by simp; omega
    go_enter Try.func10, Try.ntmps10
    go_wp2_with (refine wpList_alloc_new rfl 40 rfl zeroMsg Try.info_msg0 ?_)
    intro g2 w1 hg2 hb2 hm1
    have r1 := Rd.mod HX.out.2.1 (hm1 fun _ => False) (fun _ _ => id)
    have hc1 : ∀ j u, cs0[j]? = some u → w1.cell? (ad.add j) = some u := fun j u hj => by
      rw [(hm1 fun _ => False).cell (by rw [add_block]; exact HX.out.1.2) id]
      simpa using HX.out.2.2 j u hj
    have hs1 := (hm1 fun _ => False).size
    have H1 := Lib.hid (And.intro hg2 (And.intro hb2 (And.intro (hm1 fun _ => False) (And.intro r1 hc1)))); clear hg2 hb2 hm1 r1 hc1
    go_wp2_with (refine wpList_copy_var (n := 35) rfl rfl rfl 40 _ _ _ rfl rfl rfl Try.underlying40 zeroMsg Try.info_msg2 rfl ad rfl cs0 (MsgR_len H1.out.2.2.2.1) (MsgR.one H1.out.2.2.2.1) (fun j u hj => H1.out.2.2.2.2 j u hj) (fun _ _ => rfl) (fun _ _ => rfl) ?_)
    intro g4 w2 hg4 hb4 hm2
    have hb2' : w2.heap[g2]? = some (.cells zeroMsg.toArray 40 (0, 0)) := ((hm2 fun _ => False).block g2 (lt_of_blk H1.out.2.1) id).trans H1.out.2.1
    have r2 := Rd.mod H1.out.2.2.2.1 (hm2 fun _ => False) (fun _ _ => id)
    have hne : g2 ≠ g4 := by have := lt_of_blk H1.out.2.1; omega
    have hge : w.heap.size ≤ g2 ∧ w.heap.size ≤ g4 := ⟨H1.out.1, by omega⟩
    have H2 := Lib.hid (And.intro hb4 (And.intro hb2' (And.intro r2 (And.intro (H1.out.2.2.1.trans (hm2 fun _ => False) (fun _ h => h.elim)) (And.intro hne hge))))); clear hg4 hb4 hm2 hb2' r2 hne hge
    go_wp2_with fail
    go_loopg [16] (l.length + 1) (fun f si wr => ∃ (i : Nat) (cs : List Value), si = .int .i64 i ∧ i + f = l.length + 1 ∧ wr.heap[g4]? = some (.cells cs.toArray 40 (0, 0)) ∧ wr.heap[g2]? = some (.cells zeroMsg.toArray 40 (0, 0)) ∧ MsgR.rel wr (fun k => ok k ∧ k < w.heap.size) cs (minM m (l.take (i - 1))) ∧ Mod (fun _ => False) w wr)
    case atStart => exact ⟨0, cs0, rfl, by omega, H2.out.1, H2.out.2.1, H2.out.2.2.1, H2.out.2.2.2.1⟩
    case round =>
      obtain ⟨i, cs, rfl, hi, hb4, hb2, hr, hmod⟩ := hrel
      by_cases hlt : i < l.length + 1
      · obtain ⟨x, hx⟩ : ∃ x, (m :: l)[i]? = some x := ⟨_, List.getElem?_eq_getElem (by simpa using hlt)⟩
        have HRr : Rd.RowOf MsgR wr (fun k => ok k ∧ k < w.heap.size) (some ad) (m :: l) := HR.out.step fun k hk _ => ⟨hk, hmod.block k hk.2 id⟩
        obtain ⟨ad2, cs2, hA2, hok2, hr2, hc2⟩ := HRr.at_ hx
        cases hA2
        have hmin : minM m (l.take i) = if betterM x (minM m (l.take (i - 1))) then x else minM m (l.take (i - 1)) := by
          rw [better_order]
          cases i with
          | zero =>
            have : x = m := by simpa using hx.symm
            subst this
            show x = if decide (orderI x x < 0) = true then x else x
            split <;> rfl
          | succ k => exact minM_take m (by simpa using hx) rfl
        have HJ := Lib.hid (And.intro hi (And.intro hb4 (And.intro hb2 (And.intro hr (And.intro hmod (And.intro hmin (And.intro hr2 hc2)))))))
        clear hi hb4 hb2 hr hmod hmin hx HRr hok2 hr2 hc2
        have hd : decide ((i : Int) < (l.length : Int) + 1) = true := by simp; omega
        go_wp2_with (refine wpList_copy_var (n := 35) rfl rfl rfl 40 _ _ _ rfl rfl rfl Try.underlying40 zeroMsg Try.info_msg2 rfl (ad.add (i * 35)) rfl cs2 (MsgR_len HJ.out.2.2.2.2.2.2.1) (MsgR.one HJ.out.2.2.2.2.2.2.1) (fun j u hj => by rw [add_add]; exact HJ.out.2.2.2.2.2.2.2 j u hj) (fun _ _ => rfl) (fun _ _ => rfl) ?_)
        intro g6 w3 hg6 hb6 hm3
        have hb4 : w3.heap[g4]? = some (.cells cs.toArray 40 (0, 0)) := ((hm3 fun _ => False).block g4 (lt_of_blk HJ.out.2.1) id).trans HJ.out.2.1
        have hb2 : w3.heap[g2]? = some (.cells zeroMsg.toArray 40 (0, 0)) := ((hm3 fun _ => False).block g2 (lt_of_blk HJ.out.2.2.1) id).trans HJ.out.2.2.1
        have ra := Rd.mod HJ.out.2.2.2.1 (hm3 fun _ => False) (fun _ _ => id)
        have rb := Rd.mod HJ.out.2.2.2.2.2.2.1 (hm3 fun _ => False) (fun _ _ => id)
        have hmw := HJ.out.2.2.2.2.1.trans (hm3 fun _ => False) (fun _ h => h.elim)
        have HK := Lib.hid (And.intro hb6 (And.intro hb4 (And.intro hb2 (And.intro ra (And.intro rb hmw))))); clear hg6 hb6 hm3 hb4 hb2 ra rb hmw
        go_wp2_with (first
          | (refine wpList_load_agg rfl 40 (.tmp 6) rfl Try.underlying40 Try.info_msg1 ⟨g6, 0, none⟩ rfl cs2 (MsgR_len HK.out.2.2.2.2.1) (fun j u hj => by rw [agg_at]; refine (cell_of_blk HK.out.1 _).trans ?_; simpa using hj) ?_)
          | (refine wpList_load_agg rfl 40 (.tmp 4) rfl Try.underlying40 Try.info_msg1 ⟨g4, 0, none⟩ rfl cs (MsgR_len HK.out.2.2.2.1) (fun j u hj => by rw [agg_at]; refine (cell_of_blk HK.out.2.1 _).trans ?_; simpa using hj) ?_))
        refine (better_any cs2 cs x (minM m (l.take (i - 1))) _ _ HK.out.2.2.2.2.1 HK.out.2.2.2.1).mono ?_
        rintro e w4 ⟨rfl, hm4⟩
        obtain ⟨b, hb⟩ : ∃ b, betterM x (minM m (l.take (i - 1))) = b := ⟨_, rfl⟩
        have hb6 : w4.heap[g6]? = some (.cells cs2.toArray 40 (0, 0)) := (hm4.block g6 (lt_of_blk HK.out.1) id).trans HK.out.1
        have hb4 : w4.heap[g4]? = some (.cells cs.toArray 40 (0, 0)) := (hm4.block g4 (lt_of_blk HK.out.2.1) id).trans HK.out.2.1
        have hb2 : w4.heap[g2]? = some (.cells zeroMsg.toArray 40 (0, 0)) := (hm4.block g2 (lt_of_blk HK.out.2.2.1) id).trans HK.out.2.2.1
        have ra := Rd.mod HK.out.2.2.2.1 hm4 (fun _ _ => id)
        have rb := Rd.mod HK.out.2.2.2.2.1 hm4 (fun _ _ => id)
        have hmw := HK.out.2.2.2.2.2.trans hm4 (fun _ h => h.elim)
        have hmin := HJ.out.2.2.2.2.2.1
        rw [hb] at hmin
        have HL := Lib.hid (And.intro hb6 (And.intro hb4 (And.intro hb2 (And.intro ra (And.intro rb (And.intro hmw hmin)))))); clear hb6 hb4 hb2 hm4 ra rb hmw hmin
        rw [hb]
        cases b with
        | false =>
          go_wp2_with fail
          go_roundg (gk - 1)
          case measure => have := HJ.out.1; omega
          case rel =>
            refine ⟨i + 1, cs, by go_num, by have := HJ.out.1; omega, HL.out.2.1, HL.out.2.2.1, ?_, HL.out.2.2.2.2.2.1⟩
            rw [Nat.add_sub_cancel, HL.out.2.2.2.2.2.2]
            exact HL.out.2.2.2.1
        | true =>
          go_wp2_with (first
            | (refine wpList_load_agg rfl 40 (.tmp 6) rfl Try.underlying40 Try.info_msg1 ⟨g6, 0, none⟩ rfl cs2 (MsgR_len HL.out.2.2.2.2.1) (fun j u hj => by rw [agg_at]; refine (cell_of_blk HL.out.1 _).trans ?_; simpa using hj) ?_)
            | (refine wpList_store_var rfl 40 _ _ rfl g4 40 cs cs2 HL.out.2.1 rfl rfl (by rw [MsgR_len HL.out.2.2.2.2.1]; exact Try.info_msg1) (by rw [MsgR_len HL.out.2.2.2.2.1, MsgR_len HL.out.2.2.2.1]) (MsgR.one HL.out.2.2.2.2.1) ?_))
          intro w5 hb5 hm5
          have HM := Lib.hid (And.intro hb5 hm5); clear hb5 hm5
          go_wp2_with fail
          go_roundg (gk - 1)
          case measure => have := HJ.out.1; omega
          case rel =>
            refine ⟨i + 1, cs2, by go_num, by have := HJ.out.1; omega, HM.out.1, ?_, ?_, HL.out.2.2.2.2.2.1.trans HM.out.2 (fun k hk => .inr (hk ▸ H2.out.2.2.2.2.2.2))⟩
            · exact (HM.out.2.block g2 (lt_of_blk HL.out.2.2.1) (fun e => H2.out.2.2.2.2.1 e)).trans HL.out.2.2.1
            · rw [Nat.add_sub_cancel, HL.out.2.2.2.2.2.2]
              refine MsgR.step (fun k hk hl => ⟨hk, HM.out.2.block k hl (fun e => ?_)⟩) HL.out.2.2.2.2.1
              have := H2.out.2.2.2.2.2.2
              have := hk.2
              omega
      · have hie : i = l.length + 1 := by omega
        have hd : decide ((i : Int) < (l.length : Int) + 1) = false := by simp; omega
        have HJ := Lib.hid (And.intro hi (And.intro hb4 (And.intro hb2 (And.intro hr hmod))))
        clear hi hb4 hb2 hr hmod
        go_wp2_with (first
          | (refine wpList_load_agg rfl 40 _ rfl Try.underlying40 Try.info_msg1 ⟨g4, 0, none⟩ rfl cs (MsgR_len HJ.out.2.2.2.1) (fun j u hj => by rw [agg_at]; refine (cell_of_blk HJ.out.2.1 _).trans ?_; simpa using hj) ?_)
          | (refine wpList_store_var rfl 40 _ _ rfl g2 40 zeroMsg cs HJ.out.2.2.1 rfl rfl (by rw [MsgR_len HJ.out.2.2.2.1]; exact Try.info_msg1) (by rw [MsgR_len HJ.out.2.2.2.1]; rfl) (MsgR.one HJ.out.2.2.2.1) ?_))
        intro w4 hb4 hm4
        have HM := Lib.hid (And.intro hb4 hm4); clear hb4 hm4
        go_wp2_with fail
        (try simp only [Exit.inBlock, Exit.then])
        refine bodyPost_ret (results_agg2 rfl _ _ g2 40 cs (0, 0) rfl HM.out.1 Try.underlying40 (by rw [MsgR_len HJ.out.2.2.2.1]; exact Try.info_msg1)) rfl ?_
        refine ⟨cs, rfl, ?_, HJ.out.2.2.2.2.trans HM.out.2 (fun k hk => .inr (hk ▸ H2.out.2.2.2.2.2.1))⟩
        have hr := HJ.out.2.2.2.1
        rw [hie, Nat.add_sub_cancel, List.take_length] at hr
        refine MsgR.step (fun k hk hl => ⟨hk, HM.out.2.block k hl (fun e => ?_)⟩) hr
        have := H2.out.2.2.2.2.2.1
        have := hk.2
        omega
end Go.Proofs.Ytgdadhpcooegnaa
