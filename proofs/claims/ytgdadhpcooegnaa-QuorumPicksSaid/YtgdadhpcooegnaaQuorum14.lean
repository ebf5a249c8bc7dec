/- Layer 22: Keep, the document's. -/
import Derived.Test.YtgdadhpcooegnaaQuorum13
namespace Go.Proofs.Ytgdadhpcooegnaa
open Go.RowKit
set_option linter.unusedVariables false
def stepK (m : Msg) (s : List Msg × Bool) (x : Msg) : List Msg × Bool :=
  if x.from_ = m.from_ then s else if m.from_ < x.from_ ∧ s.2 = false then (s.1 ++ [m] ++ [x], true) else (s.1 ++ [x], s.2)
def foldK (l : List Msg) (m : Msg) : List Msg × Bool := l.foldl (stepK m) ([], false)
def refKeepM (l : List Msg) (m : Msg) : List Msg := if (foldK l m).2 then (foldK l m).1 else (foldK l m).1 ++ [m]
theorem foldK_take {l : List Msg} {i : Nat} {x : Msg} (h : l[i]? = some x) (m : Msg) : foldK (l.take (i + 1)) m = stepK m (foldK (l.take i) m) x := by
  unfold foldK
  rw [List.take_add_one, h, List.foldl_append]
  rfl
theorem foldK_len (m : Msg) : ∀ (l : List Msg) (s : List Msg × Bool), (l.foldl (stepK m) s).1.length ≤ s.1.length + 2 * l.length
  | [], s => by simp
  | x :: l, s => by
    rw [List.foldl_cons]
    have := foldK_len m l (stepK m s x)
    have h2 : (stepK m s x).1.length ≤ s.1.length + 2 := by
      unfold stepK
      split
      · omega
      · split <;> simp
    simp only [List.length_cons]
    omega
theorem own_base {α : Type} {R : Rd α} {e : TypeId} {w : World} {base : Nat} {S : Nat → Prop} {v : Value} {xs : List α} (h : OwnR R e w base S v xs) (hb : base ≤ w.heap.size) : base ≤ w.heap.size := hb
theorem own_len {α : Type} {R : Rd α} {e : TypeId} {w : World} {base n : Nat} {S : Nat → Prop} {A : Option Addr} {c : Nat} {xs : List α} {x : α} (h : OwnR R e w base S (.slice A n c) (xs ++ [x])) : OwnR R e w base S (.slice A n c) (xs ++ [x]) := h
theorem app_rel {α : Type} {R : Rd α} {e : TypeId} {w w0 : World} {base : Nat} {ok : Nat → Prop} {v : Value} {xs : List α} {y : α} {cs : List Value} (hb : w0.heap.size ≤ base) (h : OwnR R e w base (fun k => ok k ∧ k < w0.heap.size) v xs) (hr : R.rel w (fun k => ok k ∧ k < w0.heap.size) cs y) :
    R.rel w (fun k => (ok k ∧ k < w0.heap.size) ∧ some k ≠ v.ownBlock) cs y :=
  Rd.mono hr (fun k hk => ⟨hk, fun e => by have := (OwnR.lt h k e.symm).1; have := hk.2; omega⟩)
set_option maxRecDepth 100000 in
set_option maxHeartbeats 2000000 in
theorem refkeep_any (A : Option Addr) (n c : Nat) (l : List Msg) (m : Msg) (cs : List Value) (ok : Nat → Prop) (w : World) (h : msgsR.rel w ok [.slice A n c] l) (hm : MsgR.rel w ok cs m) (hl : l.length ≤ 1000000) :
    Calls Try.prog 8 #[.slice A n c, .agg cs.toArray] w fun e w' => ∃ A' c', e = .returned (.slice A' (refKeepM l m).length c') ∧ OwnR MsgR 40 w' w.heap.size (fun k => ok k ∧ k < w.heap.size) (.slice A' (refKeepM l m).length c') (refKeepM l m) ∧ Mod (fun _ => False) w w' := by
  obtain ⟨rfl, hcap, hrow, -, -⟩ := msgs_row h
  have HR := Lib.hid hrow
  have H0 := Lib.hid hm; clear h hrow hm
  go_enter Try.func8, Try.ntmps8
  go_wp2_with (refine wpList_box_new rfl 40 (.tmp 1) rfl cs rfl ?_)
  intro g3 w1 hg1 hb1 hm1
  have r1 := Rd.mod (Rd.bound H0.out) (hm1 fun _ => False) (fun _ _ => id)
  have hs1 := (hm1 fun _ => False).size
  have H1 := Lib.hid (And.intro hg1 (And.intro hb1 (And.intro (hm1 fun _ => False) r1))); clear hg1 hb1 hm1 r1
  go_wp2_with fail
  go_loopg [5, 6, 11] l.length (fun f s5 s6 si wr => ∃ (i : Nat) (b : Bool) (out : List Msg), si = .int .i64 i ∧ i + f = l.length ∧ s6 = .bool b ∧ Hid (foldK (l.take i) m = (out, b) ∧ OwnR MsgR 40 wr w1.heap.size (fun k => ok k ∧ k < w.heap.size) s5 out ∧ Mod (fun _ => False) w1 wr ∧ out.length ≤ 2000000))
  case atStart => exact ⟨0, false, [], rfl, by omega, rfl, ⟨rfl, OwnR.nil _ _ _ _ _, .refl _ _, by decide⟩⟩
  case round =>
    obtain ⟨i, b, out, rfl, hi, rfl, HI⟩ := hrel
    have hb3 := (HI.out.2.2.1.block g3 (lt_of_blk H1.out.2.1) id).trans H1.out.2.1
    have rm := Rd.mod H1.out.2.2.2 HI.out.2.2.1 (fun _ _ => id)
    have hsr := HI.out.2.2.1.size
    have HM := Lib.hid (And.intro hb3 rm); clear hb3 rm
    by_cases hlt : i < l.length
    · obtain ⟨x, hx⟩ : ∃ x, l[i]? = some x := ⟨_, List.getElem?_eq_getElem hlt⟩
      have HRr : Rd.RowOf MsgR wr (fun k => ok k ∧ k < w.heap.size) A l := HR.out.step fun k hk _ => ⟨hk, ((H1.out.2.2.1.trans HI.out.2.2.1 (fun _ h => h.elim)).block k hk.2 id)⟩
      obtain ⟨ad, cs2, rfl, hok, hr, hc⟩ := HRr.at_ hx
      have hst := foldK_take hx m
      have hlen2 : (foldK (l.take (i + 1)) m).1.length ≤ 2000000 := by
        have := foldK_len m (l.take (i + 1)) ([], false)
        have h3 := List.length_take_le (i + 1) l
        unfold foldK; simp only [List.length_nil] at this; omega
      rw [HI.out.1] at hst
      have HX := Lib.hid (And.intro hx (And.intro hst (And.intro hr (And.intro hc hlen2)))); clear hx hst hr hc hok HRr hlen2
      go_wp2_with (refine wpList_copy_var (n := 35) rfl rfl rfl 40 _ _ _ rfl rfl rfl Try.underlying40 zeroMsg Try.info_msg2 rfl (ad.add (i * 35)) rfl cs2 (MsgR_len HX.out.2.2.1) (MsgR.one HX.out.2.2.1) (fun j u hj => by rw [add_add]; exact HX.out.2.2.2.1 j u hj) (fun _ _ => rfl) (fun _ _ => rfl) ?_)
      intro g8 w2 hg8 hb8 hm8
      have hm2 := hm8 (fun _ => False)
      have rx := Rd.mod HX.out.2.2.1 hm2 (fun _ _ => id)
      have rm := Rd.mod HM.out.2 hm2 (fun _ _ => id)
      have hb3 := (hm2.block g3 (lt_of_blk HM.out.1) id).trans HM.out.1
      have ho2 := HI.out.2.1.mod hm2 (fun _ _ => id) (fun _ _ _ => id)
      have hmw := HI.out.2.2.1.trans hm2 (fun _ h => h.elim)
      have hsz2 := hm2.size
      obtain ⟨d1, -, -⟩ := msg_var rx hb8
      obtain ⟨e1, -, -⟩ := msg_var rm hb3
      have H2 := Lib.hid (And.intro hb8 (And.intro hb3 (And.intro rx (And.intro rm (And.intro ho2 (And.intro hmw hg8)))))); clear hg8 hb8 hm8 hm2 rx rm hb3 ho2 hmw
      by_cases hf : x.from_ = m.from_
      · have hd : (x.from_ == m.from_) = true := by simpa using hf
        have HS : Hid (foldK (l.take (i + 1)) m = (out, b)) := by show _ = _; rw [HX.out.2.1]; unfold stepK; rw [if_pos hf]
        clear hf
        go_wp2_with fail
        go_roundg (gk - 1)
        case measure => omega
        case rel => exact ⟨i + 1, b, out, by go_num, by omega, rfl, ⟨HS.out, H2.out.2.2.2.2.1, H2.out.2.2.2.2.2.1, HI.out.2.2.2⟩⟩
      · have hd : (x.from_ == m.from_) = false := by simpa using hf
        by_cases hgt : m.from_ < x.from_ ∧ b = false
        · obtain ⟨hgt, rfl⟩ := hgt
          have hd2 : decide (m.from_ < x.from_) = true := by simpa using hgt
          have HS : Hid (foldK (l.take (i + 1)) m = (out ++ [m] ++ [x], true)) := by show _ = _; rw [HX.out.2.1]; unfold stepK; rw [if_neg hf, if_pos ⟨hgt, rfl⟩]
          clear hf hgt
          go_wp2_with (first
            | (refine wpList_load_agg rfl 40 _ rfl Try.underlying40 Try.info_msg1 ⟨g3, 0, none⟩ rfl cs (MsgR_len H2.out.2.2.2.1) (fun j u hj => by rw [agg_at]; refine (cell_of_blk H2.out.2.1 _).trans ?_; simpa using hj) ?_)
            | (refine wpList_slice1_agg rfl 22 40 _ rfl Try.underlying22 zeroMsg.toArray cs (by rw [MsgR_len H2.out.2.2.2.1]; exact Try.info_msg2) (by rw [MsgR_len H2.out.2.2.2.1]; decide) (by rw [MsgR_len H2.out.2.2.2.1]; rfl) rfl ?_)
            | (at_builtin; refine append_rd (R := MsgR) w1.heap.size rfl _ _ 22 40 (.agg zeroMsg.toArray) 504 rfl Try.underlying22 Try.info_msg3 rfl (by decide) u5 out m cs (fun k => ok k ∧ k < w.heap.size) rfl rfl H2.out.2.2.2.2.1 (app_rel hs1 H2.out.2.2.2.2.1 H2.out.2.2.2.1) (by omega) (by have := HI.out.2.2.2; omega) ?_))
          intro A5 c5 w3 hO3 hm3 hn3
          have hnb : ∀ k, (u5.ownBlock = some k) → w1.heap.size ≤ k := fun k hk => (OwnR.lt H2.out.2.2.2.2.1 k hk).1
          have hb8' : w3.heap[g8]? = some (.cells cs2.toArray 40 (0, 0)) := (hm3.block g8 (lt_of_blk H2.out.1) (fun e => by have := (OwnR.lt HI.out.2.1 g8 e).2; have := H2.out.2.2.2.2.2.2; omega)).trans H2.out.1
          have rx3 : MsgR.rel w3 (fun k => ok k ∧ k < w.heap.size) cs2 x := MsgR.step (fun k hk hl => ⟨hk, hm3.block k hl (fun e => by have := hnb k e; have := hk.2; omega)⟩) H2.out.2.2.1
          have hmw3 := H2.out.2.2.2.2.2.1.trans hm3 (fun k hk => .inr (hnb k hk))
          have hsz3 := hm3.size
          have H3 := Lib.hid (And.intro hO3 (And.intro hb8' (And.intro rx3 hmw3))); clear hO3 hm3 hn3 hnb hb8' rx3 hmw3
          go_wp2_with (first
            | (refine wpList_load_agg rfl 40 _ rfl Try.underlying40 Try.info_msg1 ⟨g8, 0, none⟩ rfl cs2 (MsgR_len H3.out.2.2.1) (fun j u hj => by rw [agg_at]; refine (cell_of_blk H3.out.2.1 _).trans ?_; simpa using hj) ?_)
            | (refine wpList_slice1_agg rfl 22 40 _ rfl Try.underlying22 zeroMsg.toArray cs2 (by rw [MsgR_len H3.out.2.2.1]; exact Try.info_msg2) (by rw [MsgR_len H3.out.2.2.1]; decide) (by rw [MsgR_len H3.out.2.2.1]; rfl) rfl ?_)
            | (at_builtin; refine append_rd (R := MsgR) w1.heap.size rfl _ _ 22 40 (.agg zeroMsg.toArray) 504 rfl Try.underlying22 Try.info_msg3 rfl (by decide) (.slice A5 (out.length + 1) c5) (out ++ [m]) x cs2 (fun k => ok k ∧ k < w.heap.size) rfl rfl (own_len H3.out.1) (app_rel hs1 (own_len H3.out.1) H3.out.2.2.1) (by omega) (by have := HI.out.2.2.2; simp only [List.length_append, List.length_cons, List.length_nil]; omega) ?_))
          intro A6 c6 w4 hO4 hm4 hn4
          have hmw4 := H3.out.2.2.2.trans hm4 (fun k hk => .inr (OwnR.lt (own_len H3.out.1) k hk).1)
          have H4 := Lib.hid (And.intro hO4 hmw4); clear hO4 hm4 hn4 hmw4
          go_wp2_with fail
          go_roundg (gk - 1)
          case measure => omega
          case rel => exact ⟨i + 1, true, out ++ [m] ++ [x], by go_num, by omega, rfl, ⟨HS.out, by simpa using H4.out.1, H4.out.2, by have := HX.out.2.2.2.2; rw [HS.out] at this; exact this⟩⟩
        · have HS : Hid (foldK (l.take (i + 1)) m = (out ++ [x], b)) := by show _ = _; rw [HX.out.2.1]; unfold stepK; rw [if_neg hf, if_neg hgt]
          have hd2 : decide (m.from_ < x.from_) = false ∨ (decide (m.from_ < x.from_) = true ∧ b = true) := by
            by_cases h1 : m.from_ < x.from_
            · right; exact ⟨by simpa using h1, by cases b <;> simp_all⟩
            · left; simpa using h1
          clear hf hgt
          rcases hd2 with hd2 | ⟨hd2, rfl⟩ <;>
          · go_wp2_with (first
              | (refine wpList_load_agg rfl 40 _ rfl Try.underlying40 Try.info_msg1 ⟨g8, 0, none⟩ rfl cs2 (MsgR_len H2.out.2.2.1) (fun j u hj => by rw [agg_at]; refine (cell_of_blk H2.out.1 _).trans ?_; simpa using hj) ?_)
              | (refine wpList_slice1_agg rfl 22 40 _ rfl Try.underlying22 zeroMsg.toArray cs2 (by rw [MsgR_len H2.out.2.2.1]; exact Try.info_msg2) (by rw [MsgR_len H2.out.2.2.1]; decide) (by rw [MsgR_len H2.out.2.2.1]; rfl) rfl ?_)
              | (at_builtin; refine append_rd (R := MsgR) w1.heap.size rfl _ _ 22 40 (.agg zeroMsg.toArray) 504 rfl Try.underlying22 Try.info_msg3 rfl (by decide) u5 out x cs2 (fun k => ok k ∧ k < w.heap.size) rfl rfl H2.out.2.2.2.2.1 (app_rel hs1 H2.out.2.2.2.2.1 H2.out.2.2.1) (by omega) (by have := HI.out.2.2.2; omega) ?_))
            intro A6 c6 w4 hO4 hm4 hn4
            have hmw4 := H2.out.2.2.2.2.2.1.trans hm4 (fun k hk => .inr (OwnR.lt H2.out.2.2.2.2.1 k hk).1)
            have H4 := Lib.hid (And.intro hO4 hmw4); clear hO4 hm4 hn4 hmw4
            go_wp2_with fail
            go_roundg (gk - 1)
            case measure => omega
            case rel => exact ⟨i + 1, _, out ++ [x], by go_num, by omega, rfl, ⟨HS.out, H4.out.1, H4.out.2, by have := HX.out.2.2.2.2; rw [HS.out] at this; exact this⟩⟩
    · have hie : i = l.length := by omega
      have hfl : foldK l m = (out, b) := by have := HI.out.1; rwa [hie, List.take_length] at this
      have HF := Lib.hid hfl; clear hfl hie
      obtain ⟨A', c', rfl⟩ := ownR_slice HI.out.2.1
      cases b with
      | true =>
        go_wp2_with fail
        go_ret
        have hr : refKeepM l m = out := by unfold refKeepM; rw [HF.out]; rfl
        rw [hr]
        exact ⟨A', c', rfl, HI.out.2.1.base hs1 (fun _ h => h), H1.out.2.2.1.trans HI.out.2.2.1 (fun _ h => h.elim)⟩
      | false =>
        go_wp2_with (first
          | (refine wpList_load_agg rfl 40 _ rfl Try.underlying40 Try.info_msg1 ⟨g3, 0, none⟩ rfl cs (MsgR_len HM.out.2) (fun j u hj => by rw [agg_at]; refine (cell_of_blk HM.out.1 _).trans ?_; simpa using hj) ?_)
          | (refine wpList_slice1_agg rfl 22 40 _ rfl Try.underlying22 zeroMsg.toArray cs (by rw [MsgR_len HM.out.2]; exact Try.info_msg2) (by rw [MsgR_len HM.out.2]; decide) (by rw [MsgR_len HM.out.2]; rfl) rfl ?_)
          | (at_builtin; refine append_rd (R := MsgR) w1.heap.size rfl _ _ 22 40 (.agg zeroMsg.toArray) 504 rfl Try.underlying22 Try.info_msg3 rfl (by decide) (.slice A' out.length c') out m cs (fun k => ok k ∧ k < w.heap.size) rfl rfl HI.out.2.1 (app_rel hs1 HI.out.2.1 HM.out.2) (by omega) (by have := HI.out.2.2.2; omega) ?_))
        intro A6 c6 w4 hO4 hm4 hn4
        have hmw4 := HI.out.2.2.1.trans hm4 (fun k hk => .inr (OwnR.lt HI.out.2.1 k hk).1)
        have H4 := Lib.hid (And.intro hO4 hmw4); clear hO4 hm4 hn4 hmw4
        go_wp2_with fail
        go_ret
        have hr : refKeepM l m = out ++ [m] := by unfold refKeepM; rw [HF.out]; rfl
        rw [hr, List.length_append]
        exact ⟨A6, c6, rfl, H4.out.1.base hs1 (fun _ h => h), H1.out.2.2.1.trans H4.out.2 (fun _ h => h.elim)⟩
end Go.Proofs.Ytgdadhpcooegnaa
