/- Layer 22: Keep's parts: one more in its place. -/
import Derived.Test.YtgdadhpcooegnaaQuorum7
namespace Go.Proofs.Ytgdadhpcooegnaa
open Go.RowKit
set_option linter.unusedVariables false
set_option maxRecDepth 100000 in
set_option maxHeartbeats 1000000 in
theorem insert_end (A : Option Addr) (n c i : Nat) (l : List Msg) (m : Msg) (gx : Nat) (cs : List Value) (base : Nat) (S : Nat → Prop) (w : World) (hO : OwnR MsgR 40 w base S (.slice A n c) l) (hn : n = l.length) (hi : i = n) (hl : l.length ≤ 1000000) (hb : base ≤ w.heap.size)
    (hg : w.heap[gx]? = some (.cells cs.toArray 40 (0, 0))) (hm : MsgR.rel w (fun k => S k ∧ some k ≠ (Value.slice A n c).ownBlock) cs m) :
    Calls Try.prog 44 #[.slice A n c, .int .i64 (i : Nat), .slice (some ⟨gx, 0, none⟩) 1 1] w fun e w' => ∃ A' c', e = .returned (.slice A' (l.length + 1) c') ∧ OwnR MsgR 40 w' base S (.slice A' (l.length + 1) c') (l ++ [m]) ∧ Mod (fun k => (Value.slice A n c).ownBlock = some k) w w' := by
  subst hi
  obtain ⟨cap, hcap⟩ : i ≤ c ∧ c ≤ maxLen := by
    obtain ⟨_, h1, _⟩ := hO
    rcases h1.2 with ⟨h, hn⟩ | ⟨g, cap, cur, h, _, _, h2, h3, _⟩
    · cases h; exact ⟨by omega, by decide⟩
    · cases h; exact ⟨h2, h3⟩
  have H1 := Lib.hid (And.intro hO (And.intro hg hm)); clear hO hg hm
  have hnl : i ≤ 1000000 := by omega
  have HN := Lib.hid hn
  obtain ⟨X, hX⟩ := slice_low (P := Try.prog) (t := 22) Try.underlying22 (by kernel_rfl) A i c i (Nat.le_refl _)
  rw [Nat.sub_self] at hX
  go_enter Try.func44, Try.ntmps44
  clear hn hl
  go_wp2_with (at_builtin; refine append_all (R := MsgR) base rfl _ _ 22 40 (.agg zeroMsg.toArray) 504 rfl Try.underlying22 Try.info_msg3 rfl (.slice A i c) l [m] S (some ⟨gx, 0, none⟩) 1 rfl rfl ?c1 ?c2 (by intro e; cases e) ?c3 ?c4 (by decide) ?_)
  case c1 => exact H1.out.1
  case c2 =>
    refine .inr ⟨⟨gx, 0, none⟩, rfl, fun j x hj => ?_⟩
    cases j with
    | zero =>
      cases hj
      refine ⟨cs, H1.out.2.2, fun k u hk => ?_⟩
      rw [agg_at, cell_of_blk H1.out.2.1]
      simpa using hk
    | succ j => simp at hj
  case c3 => exact hb
  case c4 => have := HN.out; simp only [List.length_cons, List.length_nil]; omega
  intro A' c' w1 hO hm hn
  have HY := Lib.hid (And.intro hO hm); clear hO hm hn
  go_wp2_with fail
  go_ret
  exact ⟨A', c', rfl, HY.out.1, HY.out.2⟩
theorem mid_len {cur : List Value} {n i : Nat} (h : n * 35 ≤ cur.length) (hi : i < n) : ((cur.take (n * 35)).drop (i * 35)).length = Nat.min (n + 1 - i) (n - i) * 35 := by
  rw [List.length_drop, List.length_take, show Nat.min (n + 1 - i) (n - i) = n - i by simp only [Nat.min_def]; split <;> omega, Nat.mul_comm (n - i), Nat.mul_sub]
  omega
theorem ins_cells {cur cs mid : List Value} {c n i : Nat} (hcur : cur.length = c * 35) (hcs : cs.length = 35) (hi : i < n) (hc : n < c) (hmid : mid = (cur.take (n * 35)).drop (i * 35)) :
    laid (laid cur ((i + 1) * 35) mid) (i * 35) cs = cur.take (i * 35) ++ cs ++ (cur.take (n * 35)).drop (i * 35) ++ cur.drop ((n + 1) * 35) := by
  have hl : mid.length = (n - i) * 35 := by rw [hmid, List.length_drop, List.length_take, Nat.mul_comm (n - i), Nat.mul_sub]; omega
  have h1 : (i + 1) * 35 + (n - i) * 35 = (n + 1) * 35 := by omega
  have h2 : i * 35 + 35 = (i + 1) * 35 := by omega
  have ht : (List.take ((i + 1) * 35) cur).length = (i + 1) * 35 := by rw [List.length_take]; omega
  unfold laid
  rw [hl, h1, hcs, h2, List.append_assoc (List.take ((i + 1) * 35) cur)]
  rw [List.take_append_of_le_length (by omega), List.take_take, List.drop_append_of_le_length (by omega), List.drop_of_length_le (by omega)]
  rw [show min (i * 35) ((i + 1) * 35) = i * 35 by omega, hmid]
  simp
theorem run_sizeOf_msg (w : World) : (Go.sizeOf 40).run Try.prog w = .ok 35 w := by
  obtain ⟨i, hi, h2⟩ := Option.map_eq_some_iff.1 Try.info_msg1
  simp [sizeOf, typeInfo, hi, h2]
/-- the block of a row that is not nil -/
theorem own_blk {α : Type} {R : Rd α} {e : TypeId} {w : World} {base : Nat} {S : Nat → Prop} {A : Option Addr} {n c : Nat} {l : List α} (h : OwnR R e w base S (.slice A n c) l) (hl : l ≠ []) :
    ∃ g cur, A = some ⟨g, 0, none⟩ ∧ n = l.length ∧ base ≤ g ∧ w.heap[g]? = some (.cells (cur : List Value).toArray e (0, 0)) ∧ n ≤ c ∧ c ≤ maxLen ∧ cur.length = c * R.sz ∧
      (∀ j x, l[j]? = some x → R.rel w (fun k => S k ∧ k ≠ g) (((cur.take (n * R.sz)).drop (j * R.sz)).take R.sz) x) ∧ ∀ u ∈ cur.take (n * R.sz), u.oneCell' = true := by
  obtain ⟨cells, h1, h2, h3⟩ := h.one
  rcases h1.2 with ⟨_, h⟩ | ⟨g, cap, cur, hv, hb, hg, r1, r2, r3, r4⟩
  · exact absurd (List.eq_nil_of_length_eq_zero h) hl
  · cases hv
    refine ⟨g, cur.toList, rfl, rfl, hb, by simpa using hg, r1, r2, by simpa using r3, ?_, by rw [r4]; exact h3⟩
    rw [r4]
    exact fun j x hj => Rd.mono (h2 j x hj) (fun k hk => ⟨hk.1, fun e => hk.2 (by rw [e]; rfl)⟩)
set_option maxRecDepth 100000 in
set_option maxHeartbeats 1000000 in
theorem insert_room (g n c i : Nat) (l : List Msg) (m : Msg) (gx : Nat) (cs cur : List Value) (w : World) (hn : n = l.length) (hi : i < n) (hl : l.length ≤ 1000000) (hc : n < c) (hcm : c ≤ maxLen)
    (hg : w.heap[gx]? = some (.cells cs.toArray 40 (0, 0))) (hgg : w.heap[g]? = some (.cells cur.toArray 40 (0, 0))) (hcur : cur.length = c * 35) (hcs : cs.length = 35) (hne : gx ≠ g) (h1 : ∀ u ∈ cur.take (n * 35), u.oneCell' = true) (h2 : ∀ u ∈ cs, u.oneCell' = true) :
    Calls Try.prog 44 #[.slice (some ⟨g, 0, none⟩) n c, .int .i64 (i : Nat), .slice (some ⟨gx, 0, none⟩) 1 1] w fun e w' => e = .returned (.slice (some ⟨g, 0, none⟩) (n + 1) c) ∧
      w'.heap[g]? = some (.cells (cur.take (i * 35) ++ cs ++ (cur.take (n * 35)).drop (i * 35) ++ cur.drop ((n + 1) * 35)).toArray 40 (0, 0)) ∧ Mod (fun k => k = g) w w' := by
  have H1 := Lib.hid (And.intro hg (And.intro hgg (And.intro hcur (And.intro hcs (And.intro hne (And.intro h1 h2)))))); clear hg hgg hcur hcs hne h1 h2
  have hnl : n ≤ 1000000 := by omega
  have HN := Lib.hid hn
  have hw1 : IntKind.i64.wrap ((i : Int) + 1) = (i : Int) + 1 := by rw [IntKind.wrap_i64]; omega
  have hb1 : (0 : Int) ≤ (i : Int) + 1 := by omega
  have htn : ((i : Int) + 1).toNat = i + 1 := by omega
  have hb2 : ¬ (c = i + 1) := by omega
  have hb3 : (i : Int) ≤ (n : Int) + 1 := by omega
  have hb4 : ¬ (c = i) := by omega
  have hb5 : ¬ (n = i) := by omega
  have hb6 : ((i : Int) == (n : Int)) = false := by simp; omega
  have hb7 : decide ((c : Int) < (n : Int) + 1) = false := by simp; omega
  have hov : ∀ lb cb, (callFunc 55 #[.slice (some ⟨gx, 0, none⟩) 1 1, .slice (some ⟨g, (i + 1) * 35, none⟩) lb cb]).run Try.prog w = .ok (.value (.bool false)) w := fun lb cb => by
    rw [run_callFunc_extern Try.func55 (by kernel_rfl) (by kernel_rfl) (by kernel_rfl) (e := Extern.SlicesOverlaps.overlaps #[22, 22] #[4]) (by kernel_rfl),
      Lib.run_overlaps_apart w 22 4 40 Try.underlying22 35 (fun w => by rw [run_sizeOf_msg]) ⟨gx, 0, none⟩ ⟨g, (i + 1) * 35, none⟩ 1 1 lb cb H1.out.2.2.2.2.1 40 40 35 (c * 35) (by simp [World.shape?, H1.out.1, H1.out.2.2.2.1]) (by simp [World.shape?, H1.out.2.1, H1.out.2.2.1]) (by omega) (free_of_blk H1.out.1 _) (free_of_blk H1.out.1 _)]
    rfl
  go_enter Try.func44, Try.ntmps44
  clear hn hl
  go_wp2_with fail
  have hs1 := slice_low_own (P := Try.prog) Try.underlying22 Try.info_msg1 g (n + 1) c (i + 1) (by omega) (by omega) ((i : Int) + 1) (by omega)
  have hs2 := slice_low_own (P := Try.prog) Try.underlying22 Try.info_msg1 g (n + 1) c i (by omega) (by omega) (i : Int) rfl
  rw [show n + 1 - (i + 1) = n - i by omega] at hs1
  go_still_tail 8, (by kernel_rfl)
  clear hs1 hs2
  change wpList _ _ _ _ _ w.drew
  obtain ⟨mid, hmid⟩ : ∃ mid, mid = (cur.take (n * 35)).drop (i * 35) := ⟨_, rfl⟩
  have HM := Lib.hid hmid; clear hmid
  go_wp2_with (refine wpList_copy_k rfl _ _ 22 22 rfl 40 35 Try.underlying22 Try.info_msg1 g ((i + 1) * 35) (n - i) (c - (i + 1)) ⟨g, i * 35, none⟩ (n + 1 - i) (c - i) rfl rfl cur 40 H1.out.2.1 mid ?hn ?hsrc ?hfit (fun v hv => H1.out.2.2.2.2.2.1 v (List.mem_of_mem_drop (HM.out ▸ hv))) ?_)
  case hn => rw [HM.out]; exact mid_len (by have := H1.out.2.2.1; omega) hi
  case hsrc =>
    intro j v hj
    rw [add_own, cell_of_blk (w := w.drew) H1.out.2.1]
    rw [HM.out, List.getElem?_drop, List.getElem?_take] at hj
    split at hj
    · simpa using hj
    · cases hj
  case hfit => have := H1.out.2.2.1; rw [HM.out]; simp only [List.length_drop, List.length_take]; omega
  intro w1 hg1 hm1
  have HA := Lib.hid (And.intro hg1 (And.intro hm1 ((hm1.block gx (lt_of_blk H1.out.1) H1.out.2.2.2.2.1).trans H1.out.1))); clear hg1 hm1
  have hb8 : ((n : Int) + 1).toNat = n + 1 := by omega
  have hb9 : n + 1 - i = (n - i) + 1 := by omega
  go_wp2_with (refine wpList_copy_k rfl _ _ 22 22 rfl 40 35 Try.underlying22 Try.info_msg1 g (i * 35) _ _ ⟨gx, 0, none⟩ 1 1 rfl rfl _ 40 HA.out.1 cs ?hn ?hsrc ?hfit H1.out.2.2.2.2.2.2 ?_)
  case hn => rw [H1.out.2.2.2.1]; simp only [Nat.min_def]; split <;> omega
  case hsrc => intro j v hj; rw [agg_at, cell_of_blk HA.out.2.2]; simpa using hj
  case hfit => have := H1.out.2.2.1; have := H1.out.2.2.2.1; rw [HM.out]; simp only [laid, List.length_append, List.length_drop, List.length_take]; omega
  intro w2 hg2 hm2
  have HB := Lib.hid (And.intro hg2 hm2); clear hg2 hm2
  go_wp2_with fail
  go_ret
  refine ⟨rfl, ?_, ((Mod.refl (fun k => k = g) w).drew.trans HA.out.2.1 (fun k hk => .inl hk)).trans HB.out.2 (fun k hk => .inl hk)⟩
  rw [HB.out.1, ins_cells H1.out.2.2.1 H1.out.2.2.2.1 hi hc HM.out]
end Go.Proofs.Ytgdadhpcooegnaa
