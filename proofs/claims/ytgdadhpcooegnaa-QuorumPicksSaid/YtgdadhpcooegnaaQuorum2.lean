/- Layer 22: fresh messages, the document's answer. -/
import Derived.Test.YtgdadhpcooegnaaQuorum1
namespace Go.Proofs.Ytgdadhpcooegnaa
open Go.RowKit
set_option linter.unusedVariables false
set_option maxRecDepth 100000 in
set_option maxHeartbeats 1000000 in
theorem reffresh_any (A : Option Addr) (n c : Nat) (l : List Msg) (ok : Nat → Prop) (w : World) (h : msgsR.rel w ok [.slice A n c] l) (hl : l.length ≤ 1000000) :
    Calls Try.prog 13 #[.slice A n c] w fun e w' => ∃ A' c', e = .returned (.slice A' (freshM l).length c') ∧ OwnR MsgR 40 w' w.heap.size (fun k => ok k ∧ k < w.heap.size) (.slice A' (freshM l).length c') (freshM l) ∧ Mod (fun _ => False) w w' := by
  obtain rfl : n = l.length := by obtain ⟨A', c', hv, _⟩ := h; simp only [List.cons.injEq, Value.slice.injEq, and_true] at hv; exact hv.2.1
  have hrow : Rd.RowOf MsgR w (fun k => ok k ∧ k < w.heap.size) A l := by
    obtain ⟨A', c', hv, _, _, _, _, h6⟩ := Rd.bound h
    simp only [List.cons.injEq, Value.slice.injEq, and_true] at hv
    obtain ⟨rfl, _, rfl⟩ := hv
    exact h6
  have HR := Lib.hid hrow
  have hcap : l.length ≤ c := by obtain ⟨A', c', hv, h1, _⟩ := h; simp only [List.cons.injEq, Value.slice.injEq, and_true] at hv; obtain ⟨_, _, rfl⟩ := hv; exact h1
  clear h hrow
  go_enter Try.func13, Try.ntmps13
  go_wp2_with fail
  go_wp2_with fail
  go_loopg [3, 11] l.length (fun f sv si wr => ∃ (i : Nat), si = .int .i64 i ∧ i + f = l.length ∧ OwnR MsgR 40 wr w.heap.size (fun k => ok k ∧ k < w.heap.size) sv ((l.take i).filter fun m => l.all fun x => !staleM m x) ∧ Mod (fun _ => False) w wr)
  case atStart => exact ⟨0, rfl, by omega, OwnR.nil _ _ _ _ _, .refl _ _⟩
  case round =>
    obtain ⟨i, rfl, hi, ho, hmod⟩ := hrel
    have hsz := hmod.size
    by_cases hlt : i < l.length
    · obtain ⟨m, hm⟩ : ∃ m, l[i]? = some m := ⟨_, List.getElem?_eq_getElem hlt⟩
      have HRr : Rd.RowOf MsgR wr (fun k => ok k ∧ k < w.heap.size) A l := HR.out.step fun k hk _ => ⟨hk, hmod.block k hk.2 id⟩
      obtain ⟨ad, cs, rfl, hok, hr, hc⟩ := HRr.at_ hm
      have HX := Lib.hid (And.intro hi (And.intro ho (And.intro hmod (And.intro hm (And.intro HRr (And.intro hok (And.intro hr hc)))))))
      clear hi ho hmod hm HRr hok hr hc
      go_wp2_with (refine wpList_copy_var (n := 35) rfl rfl rfl 40 _ _ _ rfl rfl rfl Try.underlying40 zeroMsg Try.info_msg2 rfl (ad.add (i * 35)) rfl cs (MsgR_len HX.out.2.2.2.2.2.2.1) (MsgR.one HX.out.2.2.2.2.2.2.1) (fun j u hj => by rw [add_add]; exact HX.out.2.2.2.2.2.2.2 j u hj) (fun _ _ => rfl) (fun _ _ => rfl) ?_)
      intro g w1 hg1 hgb hm1
      have hsz1 := (hm1 (fun _ => False)).size
      have r1 := Rd.mod HX.out.2.2.2.2.2.2.1 (hm1 fun _ => False) (fun _ _ => id)
      have HG := Lib.hid (And.intro hg1 (And.intro hgb (And.intro hm1 r1))); clear hg1 hgb hm1 r1
      go_wp2_with fail
      go_loopg [6, 17] l.length (fun f sb si wi => ∃ (j : Nat), si = .int .i64 j ∧ j + f = l.length ∧ sb = .bool ((l.take j).all fun x => !staleM m x) ∧ Mod (fun _ => False) w1 wi)
      case atStart => exact ⟨0, rfl, by omega, rfl, .refl _ _⟩
      case round =>
        obtain ⟨j, rfl, hj, hall, hmj⟩ := hrel
        by_cases hjt : j < l.length
        · obtain ⟨x, hx⟩ : ∃ x, l[j]? = some x := ⟨_, List.getElem?_eq_getElem hjt⟩
          have hmw : Mod (fun _ => False) w wr := HX.out.2.2.1.trans ((HG.out.2.2.1 fun _ => False).trans hmj (fun _ h => h.elim)) (fun _ h => h.elim)
          have HRi : Rd.RowOf MsgR wr (fun k => ok k ∧ k < w.heap.size) (some ad) l := HR.out.step fun k hk _ => ⟨hk, hmw.block k hk.2 id⟩
          obtain ⟨ad2, cs2, hA2, hok2, hr2, hc2⟩ := HRi.at_ hx
          cases hA2
          have HJ := Lib.hid (And.intro hj (And.intro hall (And.intro hmj (And.intro hx (And.intro hok2 (And.intro hr2 hc2))))))
          clear hj hall hmj hx hmw HRi hok2 hr2 hc2
          go_wp2_with (refine wpList_copy_var (n := 35) rfl rfl rfl 40 _ _ _ rfl rfl rfl Try.underlying40 zeroMsg Try.info_msg2 rfl (ad.add (j * 35)) rfl cs2 (MsgR_len HJ.out.2.2.2.2.2.1) (MsgR.one HJ.out.2.2.2.2.2.1) (fun j u hj => by rw [add_add]; exact HJ.out.2.2.2.2.2.2 j u hj) (fun _ _ => rfl) (fun _ _ => rfl) ?_)
          intro g2 w2 hg2 hgb2 hm2
          have hm12 : Mod (fun _ => False) w1 w2 := HJ.out.2.2.1.trans (hm2 fun _ => False) (fun _ h => h.elim)
          have e1 : w2.heap[g]? = some (.cells cs.toArray 40 (0, 0)) := (hm12.block g (lt_of_blk HG.out.2.1) id).trans HG.out.2.1
          obtain ⟨d1, d7, -⟩ := msg_var (Rd.mod HG.out.2.2.2 hm12 (fun _ _ => id)) e1
          obtain ⟨-, -, VA, vc, d8, hv⟩ := msg_var (Rd.mod HJ.out.2.2.2.2.2.1 (hm2 fun _ => False) (fun _ _ => id)) hgb2
          have HV : ∀ k, intsR.rel (w2.drewN k) (fun k => ok k ∧ k < w.heap.size) [.slice VA x.vector.length vc] x.vector := fun k => intsR.step (fun k h _ => ⟨h, rfl⟩) hv
          have HW := Lib.hid (And.intro hg2 (And.intro hgb2 (And.intro hm2 (And.intro hm12 HV)))); clear hg2 hgb2 hm2 hm12 HV e1 hv
          by_cases hs : m.nonce < getI x.vector m.from_
          · have HS : Hid (staleM m x = true) := by show staleM m x = true; unfold staleM; simpa using hs
            have hd : decide (m.nonce < getI x.vector m.from_) = true := by simpa using hs
            clear hs
            go_wp2_with fail
            go_quiet ((go_at_call 34; refine quiet_eq (get_any VA _ vc x.vector m.from_ _ _ (HW.out.2.2.2.2 _))))
            go_wp2_with fail
            go_roundg (gk - 1)
            case measure => have := HJ.out.1; omega
            case rel =>
              refine ⟨j + 1, by go_num, by have := HJ.out.1; omega, ?_, HW.out.2.2.2.1.drewN _⟩
              rw [List.take_add_one, HJ.out.2.2.2.1]
              simp [HS.out]
          · have HS : Hid (staleM m x = false) := by show staleM m x = false; unfold staleM; simpa using hs
            have hd : decide (m.nonce < getI x.vector m.from_) = false := by simpa using hs
            clear hs
            go_wp2_with fail
            go_quiet ((go_at_call 34; refine quiet_eq (get_any VA _ vc x.vector m.from_ _ _ (HW.out.2.2.2.2 _))))
            go_wp2_with fail
            go_roundg (gk - 1)
            case measure => have := HJ.out.1; omega
            case rel =>
              refine ⟨j + 1, by go_num, by have := HJ.out.1; omega, ?_, HW.out.2.2.2.1.drewN _⟩
              rw [List.take_add_one, HJ.out.2.2.2.1]
              simp [HJ.out.2.1, HS.out]
        · have HJ := Lib.hid (And.intro hj (And.intro hall hmj)); clear hj hall hmj
          have hje : j = l.length := by have := HJ.out.1; omega
          have hm13 : Mod (fun _ => False) w1 wr := HJ.out.2.2
          have e1 : wr.heap[g]? = some (.cells cs.toArray 40 (0, 0)) := (hm13.block g (lt_of_blk HG.out.2.1) id).trans HG.out.2.1
          have r3 := Rd.mod HG.out.2.2.2 hm13 (fun _ _ => id)
          have o3 := (HX.out.2.1.mod (HG.out.2.2.1 fun _ => False) (fun _ _ => id) (fun _ _ _ => id)).mod hm13 (fun _ _ => id) (fun _ _ _ => id)
          have hs3 := hm13.size
          have hs4 : w.heap.size ≤ wr.heap.size := by omega
          have HE := Lib.hid (And.intro e1 (And.intro r3 (And.intro o3 hm13))); clear e1 r3 o3 hm13
          obtain ⟨b, hb⟩ : ∃ b, b = (l.all fun x => !staleM m x) := ⟨_, rfl⟩
          have hub : u6 = .bool b := by rw [hb, HJ.out.2.1, hje, List.take_length]
          subst hub
          cases b
          · have HBb := Lib.hid hb; clear hb
            go_wp2_with fail
            go_roundg (l.length - i - 1)
            case measure => have := HX.out.1; omega
            case rel =>
              refine ⟨i + 1, by go_num, by have := HX.out.1; omega, ?_, ?_⟩
              · rw [List.take_add_one, HX.out.2.2.2.1, List.filter_append]
                simp only [Option.toList_some, List.filter_cons, ← HBb.out, List.filter_nil, Bool.false_eq_true, if_false, List.append_nil]
                exact HE.out.2.2.1
              · exact HX.out.2.2.1.trans ((HG.out.2.2.1 fun _ => False).trans HE.out.2.2.2 (fun _ h => h.elim)) (fun _ h => h.elim)
          have HBb := Lib.hid hb; clear hb
          go_wp2_with (first
            | (refine wpList_load_agg rfl 40 _ rfl Try.underlying40 Try.info_msg1 ⟨g, 0, none⟩ rfl cs (MsgR_len HE.out.2.1) (fun j u hj => by rw [agg_at]; rw [cell_of_blk HE.out.1]; simpa using hj) ?_)
            | (refine wpList_slice1_agg rfl 22 40 _ rfl Try.underlying22 zeroMsg.toArray cs (by rw [MsgR_len HE.out.2.1]; exact Try.info_msg2) (by rw [MsgR_len HE.out.2.1]; decide) (by rw [MsgR_len HE.out.2.1]; rfl) rfl ?_)
            | (at_builtin; refine append_rd (R := MsgR) w.heap.size rfl _ _ 22 40 (.agg zeroMsg.toArray) 504 rfl Try.underlying22 Try.info_msg3 rfl (by decide) u3 ((l.take i).filter fun m => l.all fun x => !staleM m x) m cs (fun k => ok k ∧ k < w.heap.size) rfl rfl HE.out.2.2.1 ?hy ?hb ?hl2 ?_))
          case hy => exact Rd.mono HE.out.2.1 (fun k hk => ⟨hk, fun e => by have := hk.2; have := (OwnR.lt HE.out.2.2.1 k e.symm).1; omega⟩)
          case hb => exact hs4
          case hl2 =>
            have := List.length_filter_le (fun m => l.all fun x => !staleM m x) (l.take i)
            have := List.length_take_le i l
            omega
          intro A' c' w3 hO3 hm3 hn3
          have HF := Lib.hid (And.intro hO3 (And.intro hm3 hn3)); clear hO3 hm3 hn3
          go_wp2_with fail
          go_roundg (l.length - i - 1)
          case measure => have := HX.out.1; omega
          case rel =>
            refine ⟨i + 1, by go_num, by have := HX.out.1; omega, ?_, ?_⟩
            · rw [List.take_add_one, HX.out.2.2.2.1, List.filter_append]
              have hst : (l.all fun x => !staleM m x) = true := HBb.out.symm
              simp only [Option.toList_some, List.filter_cons, hst, List.filter_nil, if_true]
              exact HF.out.1
            · exact (HX.out.2.2.1.trans ((HG.out.2.2.1 fun _ => False).trans HE.out.2.2.2 (fun _ h => h.elim)) (fun _ h => h.elim)).trans HF.out.2.1 (fun k hk => .inr (OwnR.lt HE.out.2.2.1 k hk).1)
    · have hie : i = l.length := by omega
      have HX := Lib.hid (And.intro hi (And.intro ho hmod)); clear hi ho hmod
      obtain ⟨A', c', rfl⟩ := ownR_slice HX.out.2.1
      go_wp2_with fail
      go_ret
      have hf : ((l.take i).filter fun m => l.all fun x => !staleM m x) = freshM l := by rw [hie, List.take_length]; rfl
      rw [hf]
      exact ⟨A', c', rfl, hf ▸ HX.out.2.1, HX.out.2.2⟩
end Go.Proofs.Ytgdadhpcooegnaa
