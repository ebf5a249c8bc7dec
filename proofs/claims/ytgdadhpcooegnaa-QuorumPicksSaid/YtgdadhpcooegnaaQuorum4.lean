/- Layer 22: the best message. -/
import Derived.Test.YtgdadhpcooegnaaQuorum3
import Derived.StillTailTactics
namespace Go.Proofs.Ytgdadhpcooegnaa
open Go.RowKit
set_option linter.unusedVariables false
def minM (m : Msg) (l : List Msg) : Msg := l.foldl (fun m x => if orderI x m < 0 then x else m) m
def bestM (l : List Msg) (z : Msg) : Msg := match l with | [] => z | m :: l => minM m l
theorem minM_take {l : List Msg} {k : Nat} {m : Msg} (m0 : Msg) (h : l[k]? = some m) {b : Bool} (hb : decide (orderI m (minM m0 (l.take k)) < 0) = b) : minM m0 (l.take (k + 1)) = if b then m else minM m0 (l.take k) := by
  subst hb
  unfold minM
  rw [List.take_add_one, h]
  simp only [Option.toList_some, List.foldl_append, List.foldl_cons, List.foldl_nil]
  exact ite_congr (by simp) (fun _ => rfl) (fun _ => rfl)
/-- the walk's view of a list of messages that is read -/
theorem msgs_row {w : World} {ok : Nat → Prop} {A : Option Addr} {n c : Nat} {l : List Msg} (h : msgsR.rel w ok [.slice A n c] l) : n = l.length ∧ l.length ≤ c ∧ Rd.RowOf MsgR w (fun k => ok k ∧ k < w.heap.size) A l ∧ (A = none → c = 0) ∧ c ≤ maxLen := by
  obtain ⟨A', c', hv, h1, h2, _, h4, h6⟩ := Rd.bound h
  simp only [List.cons.injEq, Value.slice.injEq, and_true] at hv
  obtain ⟨rfl, rfl, rfl⟩ := hv
  exact ⟨rfl, h1, h6, h4, h2⟩
set_option maxRecDepth 100000 in
set_option maxHeartbeats 1000000 in
theorem minfunc_any (A : Option Addr) (n c : Nat) (m0 : Msg) (l : List Msg) (ok : Nat → Prop) (w : World) (h : msgsR.rel w ok [.slice A n c] (m0 :: l)) (hl : l.length ≤ 1000000) :
    Calls Try.prog 30 #[.slice A n c, .func (.func 31) #[] #[]] w fun e w' => ∃ cs, e = .returned (.agg cs.toArray) ∧ MsgR.rel w' (fun k => ok k ∧ k < w.heap.size) cs (minM m0 l) ∧ Mod (fun _ => False) w w' := by
  obtain ⟨hn, hcap, hrow, -, -⟩ := msgs_row h
  have hn' : n = l.length + 1 := by simpa using hn
  subst hn'
  have HR := Lib.hid hrow
  clear h hrow hn
  obtain ⟨ad, cs0, rfl, hok, hr0, hc0⟩ := HR.out.at_ (j := 0) rfl
  have HX := Lib.hid (And.intro hok (And.intro hr0 hc0)); clear hok hr0 hc0
  have hpos : decide ((l.length : Int) + 1 < 1) = false := by simp; omega
  go_enter Try.func30, Try.ntmps30
  go_wp2_with (refine wpList_alloc_new rfl 40 rfl zeroMsg Try.info_msg0 ?_)
  intro g4 w1 hg4 hb4 hm1
  have r1 := Rd.mod HX.out.2.1 (hm1 fun _ => False) (fun _ _ => id)
  have hc1 : ∀ j u, cs0[j]? = some u → w1.cell? (ad.add j) = some u := fun j u hj => by
    rw [(hm1 fun _ => False).cell (by rw [add_block]; exact HX.out.1.2) id]
    simpa using HX.out.2.2 j u hj
  have H1 := Lib.hid (And.intro hg4 (And.intro hb4 (And.intro hm1 (And.intro r1 hc1)))); clear hg4 hb4 hm1 r1 hc1
  go_wp2_with (refine wpList_copy_var (n := 35) rfl rfl rfl 40 _ _ _ rfl rfl rfl Try.underlying40 zeroMsg Try.info_msg2 rfl ad rfl cs0 (MsgR_len H1.out.2.2.2.1) (MsgR.one H1.out.2.2.2.1) (fun j u hj => H1.out.2.2.2.2 j u hj) (fun _ _ => rfl) (fun _ _ => rfl) ?_)
  intro g5 w2 hg5 hb5 hm2
  have hm02 : Mod (fun _ => False) w w2 := (H1.out.2.2.1 fun _ => False).trans (hm2 fun _ => False) (fun _ h => h.elim)
  have hs1 := (H1.out.2.2.1 fun _ => False).size
  have hb4' : w2.heap[g4]? = some (.cells zeroMsg.toArray 40 (0, 0)) := ((hm2 fun _ => False).block g4 (lt_of_blk H1.out.2.1) id).trans H1.out.2.1
  have r2 := Rd.mod H1.out.2.2.2.1 (hm2 fun _ => False) (fun _ _ => id)
  have hne : g4 ≠ g5 := by have := lt_of_blk H1.out.2.1; omega
  have hge : w.heap.size ≤ g4 ∧ w.heap.size ≤ g5 := ⟨H1.out.1, by omega⟩
  have H2 := Lib.hid (And.intro hb5 (And.intro hb4' (And.intro r2 (And.intro hm02 (And.intro hne hge))))); clear hg5 hb5 hm2 hm02 hb4' r2 hne hge
  go_wp2_with fail
  go_loopg [6] l.length (fun f si wr => ∃ (i : Nat) (cs : List Value), si = .int .i64 i ∧ 1 ≤ i ∧ i + f = l.length + 1 ∧ wr.heap[g5]? = some (.cells cs.toArray 40 (0, 0)) ∧ wr.heap[g4]? = some (.cells zeroMsg.toArray 40 (0, 0)) ∧ MsgR.rel wr (fun k => ok k ∧ k < w.heap.size) cs (minM m0 (l.take (i - 1))) ∧ Mod (fun _ => False) w wr)
  case atStart => exact ⟨1, cs0, rfl, by omega, by omega, H2.out.1, H2.out.2.1, H2.out.2.2.1, H2.out.2.2.2.1⟩
  case round =>
    obtain ⟨i, cs, rfl, hi1, hi, hb5, hb4, hr, hmod⟩ := hrel
    by_cases hlt : i < l.length + 1
    · obtain ⟨m, hm⟩ : ∃ m, (m0 :: l)[i]? = some m := ⟨_, List.getElem?_eq_getElem (by simpa using hlt)⟩
      have hm' : l[i - 1]? = some m := by
        obtain ⟨k, rfl⟩ : ∃ k, i = k + 1 := ⟨i - 1, by omega⟩
        simpa using hm
      have HRr : Rd.RowOf MsgR wr (fun k => ok k ∧ k < w.heap.size) (some ad) (m0 :: l) := HR.out.step fun k hk _ => ⟨hk, hmod.block k hk.2 id⟩
      obtain ⟨ad2, cs2, hA2, hok2, hr2, hc2⟩ := HRr.at_ hm
      cases hA2
      have HJ := Lib.hid (And.intro hi1 (And.intro hi (And.intro hb5 (And.intro hb4 (And.intro hr (And.intro hmod (And.intro hm' (And.intro hok2 (And.intro hr2 hc2)))))))))
      clear hi1 hi hb5 hb4 hr hmod hm hm' HRr hok2 hr2 hc2
      have hd : decide ((i : Int) < (l.length : Int) + 1) = true := by simp; omega
      obtain ⟨b, hb⟩ : ∃ b, decide (orderI m (minM m0 (l.take (i - 1))) < 0) = b := ⟨_, rfl⟩
      have HL : (minM m0 (l.take i)) = if b then m else minM m0 (l.take (i - 1)) := by
        obtain ⟨k, rfl⟩ : ∃ k, i = k + 1 := ⟨i - 1, by have := HJ.out.1; omega⟩
        exact minM_take m0 HJ.out.2.2.2.2.2.2.1 hb
      have HLh := Lib.hid HL; clear HL
      go_wp2_with fail
      have hix : (i : Int) < (l.length : Int) + 1 := by omega
      go_still_tail 6, (by kernel_rfl)
      refine wpStill_agg rfl 40 _ rfl Try.underlying40 Try.info_msg1 (ad.add (i * 35)) rfl cs2 (MsgR_len HJ.out.2.2.2.2.2.2.2.2.1) (fun j u hj => by rw [add_add]; exact HJ.out.2.2.2.2.2.2.2.2.2 j u hj) ?_
      refine wpStill_agg rfl 40 _ rfl Try.underlying40 Try.info_msg1 ⟨g5, 0, none⟩ rfl cs (MsgR_len HJ.out.2.2.2.2.1) (fun j u hj => by rw [agg_at]; refine (cell_of_blk HJ.out.2.2.1 _).trans ?_; simpa using hj) ?_
      refine wpStill_nil ?_
      change wpList _ _ _ _ _ wr.drew
      have HJ' : MsgR.rel wr.drew (fun k => ok k ∧ k < w.heap.size) cs (minM m0 (l.take (i - 1))) ∧ MsgR.rel wr.drew (fun k => ok k ∧ k < w.heap.size) cs2 m := ⟨MsgR.step (fun k h _ => ⟨h, rfl⟩) HJ.out.2.2.2.2.1, MsgR.step (fun k h _ => ⟨h, rfl⟩) HJ.out.2.2.2.2.2.2.2.2.1⟩
      have HD := Lib.hid HJ'; clear HJ'
      go_wp2_with fail
      refine (order_any cs2 cs m (minM m0 (l.take (i - 1))) _ _ HD.out.2 HD.out.1).mono ?_
      rintro e w3 ⟨rfl, hm3⟩
      have hb5 : w3.heap[g5]? = some (.cells cs.toArray 40 (0, 0)) := (hm3.block g5 (lt_of_blk HJ.out.2.2.1) id).trans HJ.out.2.2.1
      have hb4 : w3.heap[g4]? = some (.cells zeroMsg.toArray 40 (0, 0)) := (hm3.block g4 (lt_of_blk HJ.out.2.2.2.1) id).trans HJ.out.2.2.2.1
      have hmw : Mod (fun _ => False) w w3 := HJ.out.2.2.2.2.2.1.trans (((Mod.refl (fun _ => False) wr).drew).trans hm3 (fun _ h => h.elim)) (fun _ h => h.elim)
      have ra := Rd.mod HD.out.1 hm3 (fun _ _ => id)
      have rb := Rd.mod HD.out.2 hm3 (fun _ _ => id)
      have hc2 : ∀ j u, cs2[j]? = some u → w3.cell? (ad.add (i * 35 + j)) = some u := fun j u hj => by
        have h0 := HJ.out.2.2.2.2.2.2.2.2.2 j u hj
        rw [hm3.cell (a := ad.add (i * 35 + j)) (lt_of_cell h0) id]
        exact h0
      have HK := Lib.hid (And.intro hb5 (And.intro hb4 (And.intro hmw (And.intro ra (And.intro rb hc2))))); clear hb5 hb4 hmw hm3 ra rb hc2
      cases b with
      | false =>
        go_wp2_with fail
        go_roundg (gk - 1)
        case measure => have := HJ.out.2.1; omega
        case rel =>
          refine ⟨i + 1, cs, by go_num, by omega, by have := HJ.out.2.1; omega, HK.out.1, HK.out.2.1, ?_, HK.out.2.2.1⟩
          rw [Nat.add_sub_cancel, HLh.out]
          exact HK.out.2.2.2.1
      | true =>
        go_wp2_with (first
          | (refine wpList_load_agg rfl 40 _ rfl Try.underlying40 Try.info_msg1 (ad.add (i * 35)) rfl cs2 (MsgR_len HK.out.2.2.2.2.1) (fun j u hj => by rw [add_add]; exact HK.out.2.2.2.2.2 j u hj) ?_)
          | (refine wpList_store_var rfl 40 _ _ rfl g5 40 cs cs2 HK.out.1 rfl rfl (by rw [MsgR_len HK.out.2.2.2.2.1]; exact Try.info_msg1) (by rw [MsgR_len HK.out.2.2.2.2.1, MsgR_len HK.out.2.2.2.1]) (MsgR.one HK.out.2.2.2.2.1) ?_))
        intro w4 hb5 hm4
        have HM := Lib.hid (And.intro hb5 hm4); clear hb5 hm4
        go_wp2_with fail
        go_roundg (gk - 1)
        case measure => have := HJ.out.2.1; omega
        case rel =>
          refine ⟨i + 1, cs2, by go_num, by omega, by have := HJ.out.2.1; omega, HM.out.1, ?_, ?_, HK.out.2.2.1.trans HM.out.2 (fun k hk => .inr (hk ▸ H2.out.2.2.2.2.2.2))⟩
          · exact (HM.out.2.block g4 (lt_of_blk HK.out.2.1) (fun e => H2.out.2.2.2.2.1 e)).trans HK.out.2.1
          · rw [Nat.add_sub_cancel, HLh.out]
            refine MsgR.step (fun k hk hl => ⟨hk, HM.out.2.block k hl (fun e => ?_)⟩) HK.out.2.2.2.2.1
            have := H2.out.2.2.2.2.2.2
            have := hk.2
            omega
    · have hie : i = l.length + 1 := by omega
      have hd : decide ((i : Int) < (l.length : Int) + 1) = false := by simp; omega
      have HJ := Lib.hid (And.intro hi1 (And.intro hi (And.intro hb5 (And.intro hb4 (And.intro hr hmod)))))
      clear hi1 hi hb5 hb4 hr hmod
      go_wp2_with (first
        | (refine wpList_load_agg rfl 40 _ rfl Try.underlying40 Try.info_msg1 ⟨g5, 0, none⟩ rfl cs (MsgR_len HJ.out.2.2.2.2.1) (fun j u hj => by rw [agg_at]; refine (cell_of_blk HJ.out.2.2.1 _).trans ?_; simpa using hj) ?_)
        | (refine wpList_store_var rfl 40 _ _ rfl g4 40 zeroMsg cs HJ.out.2.2.2.1 rfl rfl (by rw [MsgR_len HJ.out.2.2.2.2.1]; exact Try.info_msg1) (by rw [MsgR_len HJ.out.2.2.2.2.1]; rfl) (MsgR.one HJ.out.2.2.2.2.1) ?_))
      intro w4 hb4 hm4
      have HM := Lib.hid (And.intro hb4 hm4); clear hb4 hm4
      go_wp2_with fail
      (try simp only [Exit.inBlock, Exit.then])
      refine bodyPost_ret (results_agg rfl _ _ g4 40 cs (0, 0) rfl HM.out.1 Try.underlying40 (by rw [MsgR_len HJ.out.2.2.2.2.1]; exact Try.info_msg1)) rfl ?_
      refine ⟨cs, rfl, ?_, HJ.out.2.2.2.2.2.trans HM.out.2 (fun k hk => .inr (hk ▸ H2.out.2.2.2.2.2.1))⟩
      have hr := HJ.out.2.2.2.2.1
      rw [hie, Nat.add_sub_cancel, List.take_length] at hr
      refine MsgR.step (fun k hk hl => ⟨hk, HM.out.2.block k hl (fun e => ?_)⟩) hr
      have := H2.out.2.2.2.2.2.1
      have := hk.2
      omega
end Go.Proofs.Ytgdadhpcooegnaa
