/- QuorumPicks: the walk. -/
import Derived.Test.YtgdadhpcooegnaaQuorum21
import Derived.Test.YtgdadhpcooegnaaSame5
import Derived.Deep.RegionHeld3
namespace Go.Proofs.Ytgdadhpcooegnaa
open Go.RowKit
set_option linter.unusedVariables false
theorem yieldsIf_load_agg {P : Program} {ops : Array Oper} {S : World → Prop} {op : Oper} {a : Act} (hw : Region.wanted op (yielded ops a.tmps) = true) (ty : TypeId) (x : Operand) (ho : op.op = .load ty x) (ad : Addr) (hx : a.eval x = .pointer (some ad)) (cs : List Value)
    (hS : ∀ w, S w → (loadVar ty ad).run P w = .ok (.agg cs.toArray) w) : YieldsIf P ops S op (.agg cs.toArray) a :=
  .inl ⟨hw, fun w hw' => by
    unfold execOp
    simp only [ho, hx, Instr.loadAt, Instr.sureAddr, Sem.run_bind, Sem.run_pure, Result.andThen_ok, hS w hw']⟩
theorem refkeep_any2 (A : Option Addr) (n c : Nat) (l : List Msg) (m : Msg) (cs : List Value) (ok : Nat → Prop) (w : World) (h : msgsR.rel w ok [.slice A n c] l) (hm : MsgR.rel w ok cs m) (hl : l.length ≤ 1000000) (has : AscP l) :
    Calls Try.prog 8 #[.slice A n c, .agg cs.toArray] w fun e w' => ∃ A' c', e = .returned (.slice A' (keepM l m).length c') ∧ OwnR MsgR 40 w' w.heap.size (fun k => ok k ∧ k < w.heap.size) (.slice A' (keepM l m).length c') (keepM l m) ∧ Mod (fun _ => False) w w' := by
  rw [← keep_same (has.filter _)]
  exact refkeep_any A n c l m cs ok w h hm hl
set_option maxRecDepth 100000 in
set_option maxHeartbeats 8000000 in
theorem quorumPicks_mod (A : Option Addr) (n c : Nat) (l : List Msg) (csm : List Value) (m : Msg) (ok ok2 : Nat → Prop) (w : World) (h : msgsR.rel w ok [.slice A n c] l) (hm : MsgR.rel w ok2 csm m) :
    Calls Try.prog 3 #[.slice A n c, .agg csm.toArray] w fun e w' => e = .returned (.bool true) ∧ Mod (fun _ => False) w w' := by
  obtain ⟨rfl, hcap, hrow, -, -⟩ := msgs_row h
  have H0 := Lib.hid (And.intro h hm); clear h hrow hm
  go_enter Try.func3, Try.ntmps3
  go_wp2_with (refine wpList_box_new rfl 40 (.tmp 1) rfl csm rfl ?_)
  intro gm w0 hgm hbm hm0
  have H1 := Lib.hid (And.intro (Rd.mod (Rd.bound H0.out.1) (hm0 fun _ => False) (fun _ _ => id)) (And.intro (Rd.mod (Rd.bound H0.out.2) (hm0 fun _ => False) (fun _ _ => id)) (And.intro hbm (hm0 fun _ => False)))); clear hgm hbm hm0 H0
  go_wp2_with fail
  refine (first_any _).mono ?_
  rintro e w1 ⟨rfl, hm⟩
  have H2 := Lib.hid (And.intro (Rd.mod H1.out.1 hm (fun _ _ => id)) (And.intro (Rd.mod H1.out.2.1 hm (fun _ _ => id)) (And.intro ((hm.block gm (lt_of_blk H1.out.2.2.1) id).trans H1.out.2.2.1) (H1.out.2.2.2.trans hm (fun _ h => h.elim))))); clear hm H1
  by_cases ha : 30 < l.length
  · have hd : decide ((30 : Int) < (l.length : Int)) = true := by simp; omega
    go_wp2_with fail
    go_ret
    exact ⟨rfl, H2.out.2.2.2⟩
  have hda : decide ((30 : Int) < (l.length : Int)) = false := by simp; omega
  obtain ⟨-, -, hrow, -, -⟩ := msgs_row H2.out.1
  have HR := Lib.hid hrow; clear hrow
  go_wp2_with fail
  go_loopg [5, 19] l.length (fun k sv si wr => ∃ (i : Nat) (r : List Msg) (A' : Option Addr) (c' : Nat), sv = .slice A' r.length c' ∧ si = .int .i64 i ∧ i + k = l.length ∧ msgsR.rel wr (fun _ => True) [.slice A' r.length c'] r ∧ AscP r ∧ r.length ≤ i ∧ Mod (fun _ => False) w1 wr)
  case atStart => exact ⟨0, [], none, 0, rfl, rfl, by omega, zl_rel _ _ _ _, List.Pairwise.nil, Nat.le_refl _, .refl _ _⟩
  case round =>
    obtain ⟨i, r, A', c', rfl, rfl, hi, hr, has, hrl, hmod⟩ := hrel
    by_cases hlt : i < l.length
    · obtain ⟨x, hx⟩ : ∃ x, l[i]? = some x := ⟨_, List.getElem?_eq_getElem hlt⟩
      have HRr := HR.out.step (w1 := wr) (ok1 := fun _ => True) fun k hk hl => ⟨trivial, hmod.block k hl id⟩
      obtain ⟨ad, cs, rfl, -, hrx, hc⟩ := HRr.at_ hx
      have HX := Lib.hid (And.intro hi (And.intro hr (And.intro has (And.intro hrl (And.intro hmod (And.intro hrx hc))))))
      clear hi hr has hrl hmod hx HRr hrx hc
      go_wp2_with (refine wpList_copy_var (n := 35) rfl rfl rfl 40 _ _ _ rfl rfl rfl Try.underlying40 zeroMsg Try.info_msg2 rfl (ad.add (i * 35)) rfl cs (MsgR_len HX.out.2.2.2.2.2.1) (MsgR.one HX.out.2.2.2.2.2.1) (fun j u hj => by rw [add_add]; exact HX.out.2.2.2.2.2.2 j u hj) (fun _ _ => rfl) (fun _ _ => rfl) ?_)
      intro g1 w3 hg1 hgb hm1
      have r1 := Rd.mod HX.out.2.2.2.2.2.1 (hm1 fun _ => False) (fun _ _ => id)
      obtain ⟨-, -, a29, -⟩ := msg_var2 r1 hgb
      obtain ⟨ba, hba⟩ : ∃ ba, ba = x.base := ⟨_, rfl⟩
      rw [← hba] at a29
      have HG := Lib.hid (And.intro hgb (And.intro (HX.out.2.2.2.2.1.trans (hm1 fun _ => False) (fun _ h => h.elim)) (And.intro r1 (Rd.mod HX.out.2.1 (hm1 fun _ => False) (fun _ _ => id))))); clear hg1 hgb hm1 r1 hba
      by_cases hb1 : 1099511627776 < ba
      · have hd1 : decide ((1099511627776 : Int) < ba) = true := by simpa using hb1
        clear hb1
        go_wp2_with fail
        go_ret
        exact ⟨rfl, H2.out.2.2.2.trans HG.out.2.1 (fun _ h => h.elim)⟩
      have hd1 : decide ((1099511627776 : Int) < ba) = false := by simpa using hb1
      by_cases hb2 : ba < 0
      · have hd2 : decide (ba < (0 : Int)) = true := by simpa using hb2
        clear hb1 hb2
        go_wp2_with fail
        go_ret
        exact ⟨rfl, H2.out.2.2.2.trans HG.out.2.1 (fun _ h => h.elim)⟩
      have hd2 : decide (ba < (0 : Int)) = false := by simpa using hb2
      clear hb1 hb2
      go_wp2_with (refine wpList_load_agg rfl 40 _ rfl Try.underlying40 Try.info_msg35 ⟨g1, 0, none⟩ rfl cs (MsgR.len HG.out.2.2.1) (fun j u hj => by rw [agg_at, cell_of_blk HG.out.1]; simpa using hj) ?_)
      refine (refkeep_any A' _ c' r x cs (fun _ => True) w3 HG.out.2.2.2 (Rd.mono HG.out.2.2.1 (fun _ _ => trivial)) (by have := HX.out.2.2.2.1; omega)).mono ?_
      rintro e w4 ⟨A4, c4, rfl, ho, hm4⟩
      have hrl4 := refKeepM_len (m := x) HX.out.2.2.1
      have HO := Lib.hid (And.intro ho (And.intro hm4 hrl4)); clear ho hm4 hrl4
      go_wp2_with fail
      go_roundg (gk - 1)
      case measure => have := HX.out.1; omega
      case rel =>
        have h5 := HX.out.2.2.2.1
        have h6 := HO.out.2.2
        exact ⟨i + 1, refKeepM r x, A4, c4, rfl, by go_num, by have := HX.out.1; omega, Rd.mono (HO.out.1.reads (bytes := 504) (by omega)) (fun _ _ => trivial), keepM_asc HX.out.2.2.1, by omega, HG.out.2.1.trans HO.out.2.1 (fun _ h => h.elim)⟩
    · have hrl2 : r.length ≤ 30 := by omega
      have HX := Lib.hid (And.intro hr (And.intro has hmod)); clear hi hr has hrl hmod
      go_wp2_with fail
      refine (best_any A _ c l _ wr (Rd.mod H2.out.1 HX.out.2.2 (fun _ _ => id)) (by omega)).mono ?_
      rintro e w5a ⟨cs5a, rfl, hr5, hm5⟩
      have H5a := Lib.hid (And.intro hr5 hm5); clear hr5 hm5
      go_wp2_with (refine wpList_alloc_new rfl 40 rfl zeroMsg Try.info_msg0 ?_)
      intro g5a w6a hg6 hb6 hm6
      have H6a := Lib.hid (And.intro hb6 (And.intro (Rd.mod (Rd.bound H5a.out.1) (hm6 fun _ => False) (fun _ _ => id)) (And.intro hg6 (hm6 fun _ => False)))); clear hg6 hb6 hm6
      go_wp2_with (refine wpList_store_var rfl 40 _ _ rfl g5a 40 zeroMsg cs5a H6a.out.1 rfl rfl (by rw [MsgR_len H6a.out.2.1]; exact Try.info_msg1) (by rw [MsgR_len H6a.out.2.1]; rfl) (MsgR.one H6a.out.2.1) ?_)
      intro w8a hb8 hm8
      have H8a := Lib.hid (And.intro hb8 (And.intro (H5a.out.2.trans (H6a.out.2.2.2.trans hm8 (fun k hk => .inr (by have := H6a.out.2.2.1; omega))) (fun _ h => h.elim)) (Rd.mod H6a.out.2.1 hm8 (fun k hk e => by have := H6a.out.2.2.1; have := hk.2; omega)))); clear hb8 hm8
      go_wp2_with fail
      refine (refbest_any A _ c l _ w8a (Rd.mod (Rd.mod H2.out.1 HX.out.2.2 (fun _ _ => id)) H8a.out.2.1 (fun _ _ => id)) (by omega)).mono ?_
      rintro e w5b ⟨cs5b, rfl, hr5, hm5⟩
      have H5b := Lib.hid (And.intro hr5 hm5); clear hr5 hm5
      go_wp2_with (refine wpList_alloc_new rfl 40 rfl zeroMsg Try.info_msg0 ?_)
      intro g5b w6b hg6 hb6 hm6
      have H6b := Lib.hid (And.intro hb6 (And.intro (Rd.mod (Rd.bound H5b.out.1) (hm6 fun _ => False) (fun _ _ => id)) (And.intro hg6 (hm6 fun _ => False)))); clear hg6 hb6 hm6
      go_wp2_with (refine wpList_store_var rfl 40 _ _ rfl g5b 40 zeroMsg cs5b H6b.out.1 rfl rfl (by rw [MsgR_len H6b.out.2.1]; exact Try.info_msg1) (by rw [MsgR_len H6b.out.2.1]; rfl) (MsgR.one H6b.out.2.1) ?_)
      intro w8b hb8 hm8
      have H8b := Lib.hid (And.intro hb8 (And.intro (H5b.out.2.trans (H6b.out.2.2.2.trans hm8 (fun k hk => .inr (by have := H6b.out.2.2.1; omega))) (fun _ h => h.elim)) (Rd.mod H6b.out.2.1 hm8 (fun k hk e => by have := H6b.out.2.2.1; have := hk.2; omega)))); clear hb8 hm8
      go_wp2_with fail
      have hmb := H8b.out.2.1
      have hba := (hmb.block g5a (lt_of_blk H8a.out.1) id).trans H8a.out.1
      have hbm := (((HX.out.2.2.trans (H8a.out.2.1.trans hmb (fun _ h => h.elim)) (fun _ h => h.elim))).block gm (lt_of_blk H2.out.2.2.1) id).trans H2.out.2.2.1
      have hLa : ∀ w', Mod (fun _ => False) w8b w' → (loadVar 40 ⟨g5a, 0, none⟩).run Try.prog w' = .ok (.agg cs5a.toArray) w' := fun w' hw => run_load_blk Try.underlying40 (by rw [MsgR.len H8a.out.2.2]; exact Try.info_msg35) ((hw.block g5a (lt_of_blk hba) id).trans hba)
      have hLb : ∀ w', Mod (fun _ => False) w8b w' → (loadVar 40 ⟨g5b, 0, none⟩).run Try.prog w' = .ok (.agg cs5b.toArray) w' := fun w' hw => run_load_blk Try.underlying40 (by rw [MsgR.len H8b.out.2.2]; exact Try.info_msg35) ((hw.block g5b (lt_of_blk H8b.out.1) id).trans H8b.out.1)
      have hLm : ∀ w', Mod (fun _ => False) w8b w' → (loadVar 40 ⟨gm, 0, none⟩).run Try.prog w' = .ok (.agg csm.toArray) w' := fun w' hw => run_load_blk Try.underlying40 (by rw [MsgR.len H2.out.2.1]; exact Try.info_msg35) ((hw.block gm (lt_of_blk hbm) id).trans hbm)
      have hdat : ∀ W, Mod (fun _ => False) w8b W → msgsR.rel W (fun _ => True) [.slice A l.length c] l ∧ msgsR.rel W (fun _ => True) [.slice A' r.length c'] r ∧ MsgR.rel W (fun _ => True) csm m ∧ MsgR.rel W (fun _ => True) cs5a (bestOf l) ∧ MsgR.rel W (fun _ => True) cs5b (bestOf l) := fun W hW =>
        have h1 := H8a.out.2.1.trans (hmb.trans hW (fun _ h => h.elim)) (fun _ h => h.elim)
        have h2 := HX.out.2.2.trans h1 (fun _ h => h.elim)
        ⟨Rd.mono (Rd.mod H2.out.1 h2 (fun _ _ => id)) (fun _ _ => trivial), Rd.mod HX.out.1 h1 (fun _ _ => id), Rd.mono (Rd.mod H2.out.2.1 h2 (fun _ _ => id)) (fun _ _ => trivial), Rd.mono (Rd.mod (Rd.mod H8a.out.2.2 hmb (fun _ _ => id)) hW (fun _ _ => id)) (fun _ _ => trivial), Rd.mono (Rd.mod H8b.out.2.2 hW (fun _ _ => id)) (fun _ _ => trivial)⟩
      have hfl : (freshM l).length ≤ 30 := Nat.le_trans (List.length_filter_le _ _) (by omega)
      have hkl : (keepM r m).length ≤ 31 := by rw [keepM_len]; have := List.length_filter_le (notFrom m.from_) r; omega
      have HD := Lib.hid hdat
      have HB := Lib.hid (And.intro hfl hkl)
      have HAS := Lib.hid HX.out.2.1
      have HM := Lib.hid (H2.out.2.2.2.trans (HX.out.2.2.trans (H8a.out.2.1.trans hmb (fun _ h => h.elim)) (fun _ h => h.elim)) (fun _ h => h.elim))
      clear hmb hba hbm hdat hfl hkl H2 HR HX H5a H5b H6a H6b H8a H8b
      obtain ⟨be, hbe⟩ : ∃ be, be = !l.isEmpty := ⟨_, rfl⟩
      rw [← hbe]
      clear hbe
      refine wp_region_noPanic ?_
      refine wp_region_held_drew (S := fun w' => Mod (fun _ => False) w8b w') (by kernel_rfl) ((Mod.refl (fun _ => False) w8b).drew) (fun hHeld => ?_)
      refine wpAnyH_take (i := 0) (v := ?v0) rfl (by kernel_rfl) (by kernel_rfl) (by kernel_rfl) (fun _ _ _ h => h) (Or.inl ⟨by rfl, ?hy0⟩) hHeld ?r0
      case hy0 => (intro w hSw; go_simp; try with_reducible rfl)
      simp only [Act.put, List.setIfInBounds_toArray, List.set_cons_zero, List.set_cons_succ]
      refine wpAnyH_take (i := 2) (v := ?v2) rfl (by kernel_rfl) (by kernel_rfl) (by kernel_rfl) (fun _ _ _ h => h) (Or.inl ⟨by rfl, ?hy2⟩) hHeld ?r2
      case hy2 => (intro w hSw; go_simp; try with_reducible rfl)
      simp only [Act.put, List.setIfInBounds_toArray, List.set_cons_zero, List.set_cons_succ]
      refine wpAnyH_ready (rs := [1]) (by kernel_rfl) (by simp) ?_
      refine AllReadyH.cons rfl (fun K hK => ?_) AllReadyH.nil
      go_simp
      refine (fresh_any A _ c l (fun _ => True) _ (HD.out _ hHeld).1 (by omega)).mono ?_
      rintro e WF ⟨AF, cF, rfl, hoF, hmF⟩
      refine hK.out _ _ (Mod.trans hHeld hmF (fun _ h => False.elim h)) (fun hHeld => ?_)
      clear hK K
      try simp only [Act.put, List.setIfInBounds_toArray, List.set_cons_zero, List.set_cons_succ]
      refine wpAnyH_ready (rs := [3]) (by kernel_rfl) (by simp) ?_
      refine AllReadyH.cons rfl (fun K hK => ?_) AllReadyH.nil
      go_simp
      refine (reffresh_any A _ c l (fun _ => True) _ (HD.out _ hHeld).1 (by omega)).mono ?_
      rintro e WG ⟨AG, cG, rfl, hoG, hmG⟩
      refine hK.out _ _ (Mod.trans hHeld hmG (fun _ h => False.elim h)) (fun hHeld => ?_)
      clear hK K
      try simp only [Act.put, List.setIfInBounds_toArray, List.set_cons_zero, List.set_cons_succ]
      refine wpAnyH_ready (rs := [4]) (by kernel_rfl) (by simp) ?_
      refine AllReadyH.cons rfl (fun K hK => ?_) AllReadyH.nil
      go_simp
      refine (alike_any AF _ cF AG _ cG (freshM l) _ _ _ (Rd.mod (hoF.reads (bytes := 504) (by have := HB.out.1; omega)) hmG (fun _ _ => id)) (hoG.reads (bytes := 504) (by have := HB.out.1; omega))).mono ?_
      rintro e WL ⟨rfl, hmL⟩
      refine hK.out _ _ (Mod.trans hHeld hmL (fun _ h => False.elim h)) (fun hHeld => ?_)
      clear hK K
      try simp only [Act.put, List.setIfInBounds_toArray, List.set_cons_zero, List.set_cons_succ]
      refine wpAnyH_take (i := 5) (v := ?v5) rfl (by kernel_rfl) (by kernel_rfl) (by kernel_rfl) (fun _ _ _ h => h) (Or.inl ⟨by rfl, ?hy5⟩) hHeld ?r5
      case hy5 => (intro w hSw; go_simp; try with_reducible rfl)
      simp only [Act.put, List.setIfInBounds_toArray, List.set_cons_zero, List.set_cons_succ]
      refine wpAnyH_take (i := 6) (v := ?v6) rfl (by kernel_rfl) (by kernel_rfl) (by kernel_rfl) (fun _ _ _ h => h) (Or.inl ⟨by rfl, ?hy6⟩) hHeld ?r6
      case hy6 => (intro w hSw; go_simp; try with_reducible rfl)
      simp only [Act.put, List.setIfInBounds_toArray, List.set_cons_zero, List.set_cons_succ]
      refine wpAnyH_take (i := 7) (v := ?v7) rfl (by kernel_rfl) (by kernel_rfl) (by kernel_rfl) (fun _ _ _ h => h) (Or.inl ⟨by rfl, ?hy7⟩) hHeld ?r7
      case hy7 => (intro w hSw; go_simp; try with_reducible rfl)
      simp only [Act.put, List.setIfInBounds_toArray, List.set_cons_zero, List.set_cons_succ]
      refine wpAnyH_take (i := 8) (v := ?v8) rfl (by kernel_rfl) (by kernel_rfl) (by kernel_rfl) (fun _ _ _ h => h) (Or.inl ⟨by rfl, ?hy8⟩) hHeld ?r8
      case hy8 => (intro w hSw; go_simp; try with_reducible rfl)
      simp only [Act.put, List.setIfInBounds_toArray, List.set_cons_zero, List.set_cons_succ]
      refine wpAnyH_take (i := 9) (v := ?v9) rfl (by kernel_rfl) (by kernel_rfl) (by kernel_rfl) (fun _ _ _ h => h) (Or.inl ⟨by rfl, ?hy9⟩) hHeld ?r9
      case hy9 => (intro w hSw; go_simp; try with_reducible rfl)
      simp only [Act.put, List.setIfInBounds_toArray, List.set_cons_zero, List.set_cons_succ]
      refine wpAnyH_take (i := 10) (v := ?v10) rfl (by kernel_rfl) (by kernel_rfl) (by kernel_rfl) (fun _ _ _ h => h) (Or.inl ⟨by rfl, ?hy10⟩) hHeld ?r10
      case hy10 => (intro w hSw; go_simp; try with_reducible rfl)
      simp only [Act.put, List.setIfInBounds_toArray, List.set_cons_zero, List.set_cons_succ]
      refine wpAnyH_take (i := 11) rfl (by kernel_rfl) (by kernel_rfl) (by kernel_rfl) (fun _ _ _ h => h) (yieldsIf_load_agg (by kernel_rfl) 40 _ rfl ⟨g5a, 0, none⟩ rfl cs5a hLa) hHeld ?_
      simp only [Act.put, List.setIfInBounds_toArray, List.set_cons_zero, List.set_cons_succ]
      refine wpAnyH_take (i := 12) rfl (by kernel_rfl) (by kernel_rfl) (by kernel_rfl) (fun _ _ _ h => h) (yieldsIf_load_agg (by kernel_rfl) 40 _ rfl ⟨g5b, 0, none⟩ rfl cs5b hLb) hHeld ?_
      simp only [Act.put, List.setIfInBounds_toArray, List.set_cons_zero, List.set_cons_succ]
      refine wpAnyH_ready (rs := [13]) (by kernel_rfl) (by simp) ?_
      refine AllReadyH.cons rfl (fun K hK => ?_) AllReadyH.nil
      go_simp
      refine (sameMsg_any cs5a cs5b (bestOf l) _ _ _ (HD.out _ hHeld).2.2.2.1 (HD.out _ hHeld).2.2.2.2).mono ?_
      rintro e WS ⟨rfl, hmS⟩
      refine hK.out _ _ (Mod.trans hHeld hmS (fun _ h => False.elim h)) (fun hHeld => ?_)
      clear hK K
      try simp only [Act.put, List.setIfInBounds_toArray, List.set_cons_zero, List.set_cons_succ]
      refine wpAnyH_take (i := 14) (v := ?v14) rfl (by kernel_rfl) (by kernel_rfl) (by kernel_rfl) (fun _ _ _ h => h) (Or.inl ⟨by rfl, ?hy14⟩) hHeld ?r14
      case hy14 => (intro w hSw; go_simp; try with_reducible rfl)
      simp only [Act.put, List.setIfInBounds_toArray, List.set_cons_zero, List.set_cons_succ]
      refine wpAnyH_take (i := 15) (v := ?v15) rfl (by kernel_rfl) (by kernel_rfl) (by kernel_rfl) (fun _ _ _ h => h) (Or.inl ⟨by rfl, ?hy15⟩) hHeld ?r15
      case hy15 => (intro w hSw; go_simp; try with_reducible rfl)
      simp only [Act.put, List.setIfInBounds_toArray, List.set_cons_zero, List.set_cons_succ]
      refine wpAnyH_take (i := 16) (v := ?v16) rfl (by kernel_rfl) (by kernel_rfl) (by kernel_rfl) (fun _ _ _ h => h) (Or.inl ⟨by rfl, ?hy16⟩) hHeld ?r16
      case hy16 => (intro w hSw; go_simp; try with_reducible rfl)
      simp only [Act.put, List.setIfInBounds_toArray, List.set_cons_zero, List.set_cons_succ]
      refine wpAnyH_take (i := 17) rfl (by kernel_rfl) (by kernel_rfl) (by kernel_rfl) (fun _ _ _ h => h) (yieldsIf_load_agg (by kernel_rfl) 40 _ rfl ⟨gm, 0, none⟩ rfl csm hLm) hHeld ?_
      simp only [Act.put, List.setIfInBounds_toArray, List.set_cons_zero, List.set_cons_succ]
      refine wpAnyH_take (i := 19) (v := ?v19) rfl (by kernel_rfl) (by kernel_rfl) (by kernel_rfl) (fun _ _ _ h => h) (Or.inl ⟨by rfl, ?hy19⟩) hHeld ?r19
      case hy19 => (intro w hSw; go_simp; try with_reducible rfl)
      simp only [Act.put, List.setIfInBounds_toArray, List.set_cons_zero, List.set_cons_succ]
      refine wpAnyH_take (i := 20) rfl (by kernel_rfl) (by kernel_rfl) (by kernel_rfl) (fun _ _ _ h => h) (yieldsIf_load_agg (by kernel_rfl) 40 _ rfl ⟨gm, 0, none⟩ rfl csm hLm) hHeld ?_
      simp only [Act.put, List.setIfInBounds_toArray, List.set_cons_zero, List.set_cons_succ]
      refine wpAnyH_ready (rs := [18]) (by kernel_rfl) (by simp) ?_
      refine AllReadyH.cons rfl (fun K hK => ?_) AllReadyH.nil
      go_simp
      refine (keep_any A' _ c' r m csm (fun _ => True) _ (HD.out _ hHeld).2.1 (HD.out _ hHeld).2.2.1 (by omega) (HAS.out.filter _).asc).mono ?_
      rintro e WK ⟨AK, cK, rfl, hoK, hmK⟩
      refine hK.out _ _ (Mod.trans hHeld hmK (fun _ h => False.elim h)) (fun hHeld => ?_)
      clear hK K
      try simp only [Act.put, List.setIfInBounds_toArray, List.set_cons_zero, List.set_cons_succ]
      refine wpAnyH_ready (rs := [21]) (by kernel_rfl) (by simp) ?_
      refine AllReadyH.cons rfl (fun K hK => ?_) AllReadyH.nil
      go_simp
      refine (refkeep_any2 A' _ c' r m csm (fun _ => True) _ (HD.out _ hHeld).2.1 (HD.out _ hHeld).2.2.1 (by omega) HAS.out).mono ?_
      rintro e WR ⟨AR, cR, rfl, hoR, hmR⟩
      refine hK.out _ _ (Mod.trans hHeld hmR (fun _ h => False.elim h)) (fun hHeld => ?_)
      clear hK K
      try simp only [Act.put, List.setIfInBounds_toArray, List.set_cons_zero, List.set_cons_succ]
      refine wpAnyH_ready (rs := [22]) (by kernel_rfl) (by simp) ?_
      refine AllReadyH.cons rfl (fun K hK => ?_) AllReadyH.nil
      go_simp
      refine (alike_any AK _ cK AR _ cR (keepM r m) _ _ _ (Rd.mod (hoK.reads (bytes := 504) (by have := HB.out.2; omega)) hmR (fun _ _ => id)) (hoR.reads (bytes := 504) (by have := HB.out.2; omega))).mono ?_
      rintro e WA ⟨rfl, hmA⟩
      refine hK.out _ _ (Mod.trans hHeld hmA (fun _ h => False.elim h)) (fun hHeld => ?_)
      clear hK K
      try simp only [Act.put, List.setIfInBounds_toArray, List.set_cons_zero, List.set_cons_succ]
      refine wpAnyH_take (i := 23) (v := ?v23) rfl (by kernel_rfl) (by kernel_rfl) (by kernel_rfl) (fun _ _ _ h => h) (Or.inl ⟨by rfl, ?hy23⟩) hHeld ?r23
      case hy23 => (intro w hSw; go_simp; try with_reducible rfl)
      simp only [Act.put, List.setIfInBounds_toArray, List.set_cons_zero, List.set_cons_succ]
      refine wpAnyH_take (i := 24) (v := ?v24) rfl (by kernel_rfl) (by kernel_rfl) (by kernel_rfl) (fun _ _ _ h => h) (Or.inl ⟨by rfl, ?hy24⟩) hHeld ?r24
      case hy24 => (intro w hSw; go_simp; try with_reducible rfl)
      simp only [Act.put, List.setIfInBounds_toArray, List.set_cons_zero, List.set_cons_succ]
      refine wpAnyH_done (by kernel_rfl) ?_ _
      refine NoPanic.normal ?_
      go_wp2_with fail
      go_ret
      exact ⟨rfl, HM.out.trans hHeld (fun _ h => h.elim)⟩
end Go.Proofs.Ytgdadhpcooegnaa
