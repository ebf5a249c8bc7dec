/- Layer 22: Keep's parts: one more in its place, in a new row. -/
import Derived.Test.YtgdadhpcooegnaaQuorum8
namespace Go.Proofs.Ytgdadhpcooegnaa
open Go.RowKit
set_option linter.unusedVariables false
theorem grow_zeros (w : World) (g i k c : Nat) (cur : List Value) (hgg : w.heap[g]? = some (.cells cur.toArray 40 (0, 0))) (hcur : cur.length = c * 35) (hk : k ≤ 1000001 ∧ 2 ≤ k ∧ i + k = c + 1) (hl : c ≤ 1000000) (ty : TypeId) :
    (Builtin.append_ #[22, 3] ty #[.slice (some ⟨g, 0, none⟩) i c, .int .i64 (k : Nat)]).run Try.prog w =
      .ok (.slice (some ⟨w.heap.size, 0, none⟩) (i + k) (grownCap w (i + k) c 40))
        (w.drew.alloc (.cells ((cur.take (i * 35)).toArray ++ Builtin.zeroCells zeroMsg.toArray k ++ Builtin.zeroCells zeroMsg.toArray (grownCap w (i + k) c 40 - (i + k))) 40)) := by
  obtain ⟨i0, hi, hzz⟩ := Option.map_eq_some_iff.1 Try.info_msg3
  simp only [Prod.mk.injEq] at hzz
  have hcapb := nextslicecap_le (need := i + k) (old := c) (by omega)
  have := Lib.run_append_grow_zeros (P := Try.prog) w 22 3 ty 40 i0 (.agg zeroMsg.toArray) .i64 .i64 Try.underlying22 Try.underlying3 hi hzz.1 (some ⟨g, 0, none⟩) i c (cur.take (i * 35))
    (by
      rw [hzz.2.1]
      refine run_firstCells_some (w := w.drew) 35 i ⟨g, 0, none⟩ i c (cur.take (i * 35)) (by rw [List.length_take]; omega) (fun j v hj => ?_)
      rw [agg_at, cell_of_blk (w := w.drew) hgg]
      rw [List.getElem?_take] at hj
      split at hj
      · simpa using hj
      · cases hj) k (by omega) (by omega) (by omega) (by omega) (by rw [hzz.2.2]; omega) (by rw [hzz.2.2]; omega)
  exact this
theorem grow_cells {cur cur2 cs mid zs : List Value} {c i : Nat} (hcur : cur.length = c * 35) (hcs : cs.length = 35) (hi : i < c) (hmid : mid = cur.drop (i * 35)) (h2 : cur2 = cur.take (i * 35) ++ zs) :
    laid (laid cur2 (i * 35) cs) ((i + 1) * 35) mid = cur.take (i * 35) ++ cs ++ cur.drop (i * 35) ++ zs.drop ((c + 1 - i) * 35) := by
  have hl : mid.length = (c - i) * 35 := by rw [hmid, List.length_drop, hcur]; omega
  have ht : (cur.take (i * 35)).length = i * 35 := by rw [List.length_take]; omega
  have h4 : i * 35 + 35 = (i + 1) * 35 := by omega
  have e1 : laid cur2 (i * 35) cs = cur.take (i * 35) ++ cs ++ zs.drop 35 := by
    unfold laid
    rw [h2, hcs, List.take_append_of_le_length (by omega), List.take_of_length_le (by omega), ← List.drop_drop, List.drop_left' ht]
  have ht2 : (cur.take (i * 35) ++ cs).length = (i + 1) * 35 := by rw [List.length_append, ht, hcs, h4]
  rw [e1]
  unfold laid
  rw [List.take_append_of_le_length (by omega), List.take_of_length_le (by omega), ← List.drop_drop, List.drop_left' ht2, hl, List.drop_drop, hmid, show 35 + (c - i) * 35 = (c + 1 - i) * 35 by omega]
theorem wpList_grow {ops : Array Oper} {rest : List Oper} {o : Oper} {a : Act} {Q : Exit → Act → World → Prop} {w : World} (hgd : o.guard = none) (s x : Operand) (ho : o.op = .call { callee := .builtin .append, args := #[s, x], argTypes := #[22, 3] }) (g i k c : Nat) (cur : List Value)
    (hs : a.eval s = .slice (some ⟨g, 0, none⟩) i c) (hx : a.eval x = .int .i64 (k : Nat)) (hgg : w.heap[g]? = some (.cells cur.toArray 40 (0, 0))) (hcur : cur.length = c * 35) (hk : k ≤ 1000001 ∧ 2 ≤ k ∧ i + k = c + 1) (hl : c ≤ 1000000)
    (h : ∀ c' zs w1, w1.heap[w.heap.size]? = some (.cells (cur.take (i * 35) ++ zs : List Value).toArray 40 (0, 0)) → i * 35 + zs.length = c' * 35 → c + 1 ≤ c' → c' ≤ maxLen → Mod (fun _ => False) w w1 → wpList Try.prog ops Q rest (a.put o.dst (.slice (some ⟨w.heap.size, 0, none⟩) (c + 1) c')) w1) :
    wpList Try.prog ops Q (o :: rest) a w := by
  have hk3 := hk.2.2
  refine Lib.wpList_append_run w hgd s x 22 3 ho _ _ hs hx _ _ (grow_zeros w g i k c cur hgg hcur hk hl _) ?_
  rw [← hk3] at h
  have hge := grownCap_ge w (i + k) c 40
  refine h _ ((Builtin.zeroCells zeroMsg.toArray k).toList ++ (Builtin.zeroCells zeroMsg.toArray (grownCap w (i + k) c 40 - (i + k))).toList) _ ?_ ?_ hge (grownCap_le_maxLen w _ _ _ (by simp only [maxLen]; omega)) (((Mod.refl (fun _ => False) w).drew).alloc _)
  · have := heap_alloc_new w.drew (.cells ((cur.take (i * 35)).toArray ++ Builtin.zeroCells zeroMsg.toArray k ++ Builtin.zeroCells zeroMsg.toArray (grownCap w (i + k) c 40 - (i + k))) 40)
    rw [show w.drew.heap.size = w.heap.size from rfl] at this
    rw [this]
    simp
  · have hz : zeroMsg.toArray.size = 35 := rfl
    simp only [Builtin.zeroCells, List.length_append, Array.length_toList, Array.size_map, Array.size_range, hz]
    omega
set_option maxRecDepth 100000 in
set_option maxHeartbeats 1000000 in
theorem insert_grow (g n c i : Nat) (gx : Nat) (cs cur : List Value) (w : World) (hi : i < n) (hl : n ≤ 1000000) (hc : c = n)
    (hg : w.heap[gx]? = some (.cells cs.toArray 40 (0, 0))) (hgg : w.heap[g]? = some (.cells cur.toArray 40 (0, 0))) (hcur : cur.length = c * 35) (hcs : cs.length = 35) (h1 : ∀ u ∈ cur, u.oneCell' = true) (h2 : ∀ u ∈ cs, u.oneCell' = true) :
    Calls Try.prog 44 #[.slice (some ⟨g, 0, none⟩) n c, .int .i64 (i : Nat), .slice (some ⟨gx, 0, none⟩) 1 1] w fun e w' => ∃ c' sp, e = .returned (.slice (some ⟨w.heap.size, 0, none⟩) (n + 1) c') ∧
      w'.heap[w.heap.size]? = some (.cells (cur.take (i * 35) ++ cs ++ cur.drop (i * 35) ++ sp : List Value).toArray 40 (0, 0)) ∧ (n + 1) * 35 + sp.length = c' * 35 ∧ n + 1 ≤ c' ∧ c' ≤ maxLen ∧ Mod (fun _ => False) w w' := by
  subst hc
  have H1 := Lib.hid (And.intro hg (And.intro hgg (And.intro hcur (And.intro hcs (And.intro h1 h2))))); clear hg hgg hcur hcs h1 h2
  have hb4 : ¬ (c = i) := by omega
  have hb6 : ((i : Int) == (c : Int)) = false := by simp; omega
  have hb7 : decide ((c : Int) < (c : Int) + 1) = true := decide_eq_true (by omega)
  obtain ⟨k, hk⟩ : ∃ k, k = c + 1 - i := ⟨_, rfl⟩
  have hk2 : (c : Int) + 1 - (i : Int) = (k : Int) := by omega
  have hkl : k ≤ 1000001 ∧ 2 ≤ k ∧ i + k = c + 1 := by omega
  have HK := Lib.hid hkl; clear hkl hk
  go_enter Try.func44, Try.ntmps44
  go_wp2_with (refine wpList_grow rfl _ _ rfl g i k c cur rfl rfl H1.out.2.1 H1.out.2.2.1 HK.out hl ?_)
  intro c' zs w1 hg2 hzl hc1 hc2 hm1
  obtain ⟨cur2, hcur2⟩ : ∃ cur2, cur2 = cur.take (i * 35) ++ zs := ⟨_, rfl⟩
  rw [← hcur2] at hg2
  have hgx1 := (hm1.block gx (lt_of_blk H1.out.1) id).trans H1.out.1
  have hgg1 := (hm1.block g (lt_of_blk H1.out.2.1) id).trans H1.out.2.1
  have hcl2 : cur2.length = c' * 35 := by rw [hcur2, List.length_append, List.length_take]; have := H1.out.2.2.1; omega
  have hgs := lt_of_blk H1.out.2.1
  have HA := Lib.hid (And.intro hg2 (And.intro hcur2 (And.intro hcl2 (And.intro hgx1 (And.intro hgg1 (And.intro hm1 hzl)))))); clear hg2 hcur2 hcl2 hgx1 hgg1 hm1 hzl
  have hb5 : ¬ (c' = i) := by omega
  have hb8 : ((c : Int) + 1).toNat = c + 1 := by omega
  have hb9 : (i : Int) ≤ (c : Int) + 1 := by omega
  go_wp2_with (refine wpList_copy_k rfl _ _ 22 22 rfl 40 35 Try.underlying22 Try.info_msg1 w.heap.size (i * 35) _ _ ⟨gx, 0, none⟩ 1 1 rfl rfl cur2 40 HA.out.1 cs ?hn ?hsrc ?hfit H1.out.2.2.2.2.2 ?_)
  case hn => rw [H1.out.2.2.2.1]; simp only [Nat.min_def]; split <;> omega
  case hsrc => intro j v hj; rw [agg_at, cell_of_blk HA.out.2.2.2.1]; simpa using hj
  case hfit => have := HA.out.2.2.1; have := H1.out.2.2.2.1; omega
  intro w2 hg3 hm2
  have hgg2 := (hm2.block g (lt_of_blk HA.out.2.2.2.2.1) (by omega)).trans HA.out.2.2.2.2.1
  have HB := Lib.hid (And.intro hg3 (And.intro hgg2 hm2)); clear hg3 hgg2 hm2
  have hs1 := slice_low_own (P := Try.prog) Try.underlying22 Try.info_msg1 w.heap.size (c + 1) c' (i + 1) (by omega) (by omega) ((i : Int) + 1) (by omega)
  have hs2 := slice_low_own (P := Try.prog) Try.underlying22 Try.info_msg1 g c c i (by omega) (by omega) (i : Int) rfl
  rw [show c + 1 - (i + 1) = c - i by omega] at hs1
  go_wp2_with fail
  have hw1 : IntKind.i64.wrap ((i : Int) + 1) = (i : Int) + 1 := by rw [IntKind.wrap_i64]; omega
  go_still_tail 8, (by kernel_rfl)
  clear hs1 hs2 hw1
  change wpList _ _ _ _ _ w2.drew
  obtain ⟨mid, hmid⟩ : ∃ mid, mid = cur.drop (i * 35) := ⟨_, rfl⟩
  have HM := Lib.hid hmid; clear hmid
  go_wp2_with (refine wpList_copy_k rfl _ _ 22 22 rfl 40 35 Try.underlying22 Try.info_msg1 w.heap.size ((i + 1) * 35) (c - i) (c' - (i + 1)) ⟨g, i * 35, none⟩ (c - i) (c - i) rfl rfl (laid cur2 (i * 35) cs) 40 HB.out.1 mid ?hn ?hsrc ?hfit (fun v hv => H1.out.2.2.2.2.1 v (List.mem_of_mem_drop (HM.out ▸ hv))) ?_)
  case hn => have := H1.out.2.2.1; rw [HM.out, List.length_drop]; simp only [Nat.min_def]; split <;> omega
  case hsrc =>
    intro j v hj
    rw [add_own, cell_of_blk (w := w2.drew) HB.out.2.1]
    rw [HM.out, List.getElem?_drop] at hj
    simpa using hj
  case hfit => have := H1.out.2.2.1; have := HA.out.2.2.1; have := H1.out.2.2.2.1; rw [HM.out]; simp only [laid, List.length_append, List.length_drop, List.length_take]; omega
  intro w3 hg4 hm3
  have HC := Lib.hid (And.intro hg4 hm3); clear hg4 hm3
  go_wp2_with fail
  go_ret
  refine ⟨c', zs.drop ((c + 1 - i) * 35), rfl, ?_, ?_, hc1, hc2, ((HA.out.2.2.2.2.2.1.trans HB.out.2.2 (fun k hk => .inr (by omega))).drew).trans HC.out.2 (fun k hk => .inr (by omega))⟩
  · rw [HC.out.1, grow_cells H1.out.2.2.1 H1.out.2.2.2.1 hi HM.out HA.out.2.1]
  · have := HA.out.2.2.2.2.2.2
    rw [List.length_drop]
    omega
end Go.Proofs.Ytgdadhpcooegnaa
