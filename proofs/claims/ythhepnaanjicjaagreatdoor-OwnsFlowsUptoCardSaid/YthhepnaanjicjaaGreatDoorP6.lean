/- Texts of this claim, joined: Lab6, Lab7, Lab8, LabD, Lab9, LabM, LabC, Strs, LabN, LabF, LabX. -/
import Derived.Test.YthhepnaanjicjaaGreatDoorP5
import Derived.Lib.LazyBuf
import Derived.StillTailTactics
import Derived.Test.YthhepnaanjicjaaGreatDoorP2
import Derived.Lib.AppendZeros
import Derived.Test.YthhepnaanjicjaaGreatDoorP4
/- Rows of entries: slices.Insert of one. (The texts of layer 22's, at entries.) -/
namespace Go.Proofs.YthhepnaanjicjaaGreatDoor
open Go.RowKit
set_option linter.unusedVariables false
def zeroEnt : List Value := [.string ⟨#[]⟩, .int .i64 0]
theorem Tryz.info_ent1 : (Tryz.prog.info? 63).map (·.size) = some 2 := by kernel_rfl
theorem Tryz.info_ent2 : (Tryz.prog.info? 63).map (fun i => (i.zero, i.size)) = some (some (.agg zeroEnt.toArray), 2) := by kernel_rfl
theorem Tryz.info_ent3 : (Tryz.prog.info? 63).map (fun i => (i.zero, i.size, i.bytes)) = some (some (.agg zeroEnt.toArray), 2, 24) := by kernel_rfl
theorem Tryz.info_ent0 : (Tryz.prog.info? 63).map (·.zero) = some (some (.agg zeroEnt.toArray)) := by kernel_rfl
set_option maxRecDepth 100000 in
set_option maxHeartbeats 1000000 in
theorem insert_end (A : Option Addr) (n c i : Nat) (l : List Entry) (m : Entry) (gx : Nat) (cs : List Value) (base : Nat) (S : Nat → Prop) (w : World) (hO : OwnR EntryR 63 w base S (.slice A n c) l) (hn : n = l.length) (hi : i = n) (hl : l.length ≤ 1000000) (hb : base ≤ w.heap.size)
    (hg : w.heap[gx]? = some (.cells cs.toArray 63 (0, 0))) (hm : EntryR.rel w (fun k => S k ∧ some k ≠ (Value.slice A n c).ownBlock) cs m) :
    Calls Tryz.prog 90 #[.slice A n c, .int .i64 (i : Nat), .slice (some ⟨gx, 0, none⟩) 1 1] w fun e w' => ∃ A' c', e = .returned (.slice A' (l.length + 1) c') ∧ OwnR EntryR 63 w' base S (.slice A' (l.length + 1) c') (l ++ [m]) ∧ Mod (fun k => (Value.slice A n c).ownBlock = some k) w w' := by
  subst hi
  obtain ⟨cap, hcap⟩ : i ≤ c ∧ c ≤ maxLen := by
    obtain ⟨_, h1, _⟩ := hO
    rcases h1.2 with ⟨h, hn⟩ | ⟨g, cap, cur, h, _, _, h2, h3, _⟩
    · cases h; exact ⟨by omega, by decide⟩
    · cases h; exact ⟨h2, h3⟩
  have H1 := Lib.hid (And.intro hO (And.intro hg hm)); clear hO hg hm
  have hnl : i ≤ 1000000 := by omega
  have HN := Lib.hid hn
  obtain ⟨X, hX⟩ := slice_low (P := Tryz.prog) (t := 23) Tryz.underlying23 (by kernel_rfl) A i c i (Nat.le_refl _)
  rw [Nat.sub_self] at hX
  go_enter Tryz.func90, Tryz.ntmps90
  clear hn hl
  go_wp2_with (at_builtin; refine append_all2 (R := EntryR) base rfl _ _ 23 22 63 (.agg zeroEnt.toArray) 24 rfl Tryz.underlying23 Tryz.underlying22 Tryz.info_ent3 rfl (.slice A i c) l [m] S (some ⟨gx, 0, none⟩) 1 rfl rfl ?c1 ?c2 (by intro e; cases e) ?c3 ?c4 (by decide) ?_)
  case c1 => exact H1.out.1
  case c2 =>
    refine .inr ⟨⟨gx, 0, none⟩, rfl, fun j x hj => ?_⟩
    cases j with
    | zero =>
      cases hj
      refine ⟨cs, H1.out.2.2, fun k u hk => ?_⟩
      rw [agg_at, cell_of_blk H1.out.2.1]
      simpa using hk
    | succ j => simp at hj
  case c3 => exact hb
  case c4 => have := HN.out; simp only [List.length_cons, List.length_nil]; omega
  intro A' c' w1 hO hm hn
  have HY := Lib.hid (And.intro hO hm); clear hO hm hn
  go_wp2_with fail
  go_ret
  exact ⟨A', c', rfl, HY.out.1, HY.out.2⟩
theorem mid_len {cur : List Value} {n i : Nat} (h : n * 2 ≤ cur.length) (hi : i < n) : ((cur.take (n * 2)).drop (i * 2)).length = Nat.min (n + 1 - i) (n - i) * 2 := by
  rw [List.length_drop, List.length_take, show Nat.min (n + 1 - i) (n - i) = n - i by simp only [Nat.min_def]; split <;> omega, Nat.mul_comm (n - i), Nat.mul_sub]
  omega
theorem ins_cells {cur cs mid : List Value} {c n i : Nat} (hcur : cur.length = c * 2) (hcs : cs.length = 2) (hi : i < n) (hc : n < c) (hmid : mid = (cur.take (n * 2)).drop (i * 2)) :
    laid (laid cur ((i + 1) * 2) mid) (i * 2) cs = cur.take (i * 2) ++ cs ++ (cur.take (n * 2)).drop (i * 2) ++ cur.drop ((n + 1) * 2) := by
  have hl : mid.length = (n - i) * 2 := by rw [hmid, List.length_drop, List.length_take, Nat.mul_comm (n - i), Nat.mul_sub]; omega
  have h1 : (i + 1) * 2 + (n - i) * 2 = (n + 1) * 2 := by omega
  have h2 : i * 2 + 2 = (i + 1) * 2 := by omega
  have ht : (List.take ((i + 1) * 2) cur).length = (i + 1) * 2 := by rw [List.length_take]; omega
  unfold laid
  rw [hl, h1, hcs, h2, List.append_assoc (List.take ((i + 1) * 2) cur)]
  rw [List.take_append_of_le_length (by omega), List.take_take, List.drop_append_of_le_length (by omega), List.drop_of_length_le (by omega)]
  rw [show min (i * 2) ((i + 1) * 2) = i * 2 by omega, hmid]
  simp
theorem run_sizeOf_ent (w : World) : (Go.sizeOf 63).run Tryz.prog w = .ok 2 w := by
  obtain ⟨i, hi, h2⟩ := Option.map_eq_some_iff.1 Tryz.info_ent1
  simp [sizeOf, typeInfo, hi, h2]
/-- the block of a row that is not nil -/
theorem own_blk {α : Type} {R : Rd α} {e : TypeId} {w : World} {base : Nat} {S : Nat → Prop} {A : Option Addr} {n c : Nat} {l : List α} (h : OwnR R e w base S (.slice A n c) l) (hl : l ≠ []) :
    ∃ g cur, A = some ⟨g, 0, none⟩ ∧ n = l.length ∧ base ≤ g ∧ w.heap[g]? = some (.cells (cur : List Value).toArray e (0, 0)) ∧ n ≤ c ∧ c ≤ maxLen ∧ cur.length = c * R.sz ∧
      (∀ j x, l[j]? = some x → R.rel w (fun k => S k ∧ k ≠ g) (((cur.take (n * R.sz)).drop (j * R.sz)).take R.sz) x) ∧ ∀ u ∈ cur.take (n * R.sz), u.oneCell' = true := by
  obtain ⟨cells, h1, h2, h3⟩ := h.one
  rcases h1.2 with ⟨_, h⟩ | ⟨g, cap, cur, hv, hb, hg, r1, r2, r3, r4⟩
  · exact absurd (List.eq_nil_of_length_eq_zero h) hl
  · cases hv
    refine ⟨g, cur.toList, rfl, rfl, hb, by simpa using hg, r1, r2, by simpa using r3, ?_, by rw [r4]; exact h3⟩
    rw [r4]
    exact fun j x hj => Rd.mono (h2 j x hj) (fun k hk => ⟨hk.1, fun e => hk.2 (by rw [e]; rfl)⟩)
set_option maxRecDepth 100000 in
set_option maxHeartbeats 1000000 in
theorem insert_room (g n c i : Nat) (l : List Entry) (m : Entry) (gx : Nat) (cs cur : List Value) (w : World) (hn : n = l.length) (hi : i < n) (hl : l.length ≤ 1000000) (hc : n < c) (hcm : c ≤ maxLen)
    (hg : w.heap[gx]? = some (.cells cs.toArray 63 (0, 0))) (hgg : w.heap[g]? = some (.cells cur.toArray 63 (0, 0))) (hcur : cur.length = c * 2) (hcs : cs.length = 2) (hne : gx ≠ g) (h1 : ∀ u ∈ cur.take (n * 2), u.oneCell' = true) (h2 : ∀ u ∈ cs, u.oneCell' = true) :
    Calls Tryz.prog 90 #[.slice (some ⟨g, 0, none⟩) n c, .int .i64 (i : Nat), .slice (some ⟨gx, 0, none⟩) 1 1] w fun e w' => e = .returned (.slice (some ⟨g, 0, none⟩) (n + 1) c) ∧
      w'.heap[g]? = some (.cells (cur.take (i * 2) ++ cs ++ (cur.take (n * 2)).drop (i * 2) ++ cur.drop ((n + 1) * 2)).toArray 63 (0, 0)) ∧ Mod (fun k => k = g) w w' := by
  have H1 := Lib.hid (And.intro hg (And.intro hgg (And.intro hcur (And.intro hcs (And.intro hne (And.intro h1 h2)))))); clear hg hgg hcur hcs hne h1 h2
  have hnl : n ≤ 1000000 := by omega
  have HN := Lib.hid hn
  have hw1 : IntKind.i64.wrap ((i : Int) + 1) = (i : Int) + 1 := by rw [IntKind.wrap_i64]; omega
  have hb1 : (0 : Int) ≤ (i : Int) + 1 := by omega
  have htn : ((i : Int) + 1).toNat = i + 1 := by omega
  have hb2 : ¬ (c = i + 1) := by omega
  have hb3 : (i : Int) ≤ (n : Int) + 1 := by omega
  have hb4 : ¬ (c = i) := by omega
  have hb5 : ¬ (n = i) := by omega
  have hb6 : ((i : Int) == (n : Int)) = false := by simp; omega
  have hb7 : decide ((c : Int) < (n : Int) + 1) = false := by simp; omega
  have hov : ∀ lb cb, (callFunc 114 #[.slice (some ⟨gx, 0, none⟩) 1 1, .slice (some ⟨g, (i + 1) * 2, none⟩) lb cb]).run Tryz.prog w = .ok (.value (.bool false)) w := fun lb cb => by
    rw [run_callFunc_extern Tryz.func114 (by kernel_rfl) (by kernel_rfl) (by kernel_rfl) (e := Extern.SlicesOverlaps.overlaps #[22, 22] #[4]) (by kernel_rfl),
      Lib.run_overlaps_apart w 22 4 63 Tryz.underlying22 2 (fun w => by rw [run_sizeOf_ent]) ⟨gx, 0, none⟩ ⟨g, (i + 1) * 2, none⟩ 1 1 lb cb H1.out.2.2.2.2.1 63 63 2 (c * 2) (by simp [World.shape?, H1.out.1, H1.out.2.2.2.1]) (by simp [World.shape?, H1.out.2.1, H1.out.2.2.1]) (by omega) (free_of_blk H1.out.1 _) (free_of_blk H1.out.1 _)]
    rfl
  go_enter Tryz.func90, Tryz.ntmps90
  clear hn hl
  go_wp2_with fail
  have hs1 := slice_low_own (P := Tryz.prog) Tryz.underlying23 Tryz.info_ent1 g (n + 1) c (i + 1) (by omega) (by omega) ((i : Int) + 1) (by omega)
  have hs2 := slice_low_own (P := Tryz.prog) Tryz.underlying23 Tryz.info_ent1 g (n + 1) c i (by omega) (by omega) (i : Int) rfl
  rw [show n + 1 - (i + 1) = n - i by omega] at hs1
  go_still_tail 8, (by kernel_rfl)
  clear hs1 hs2
  change wpList _ _ _ _ _ w.drew
  obtain ⟨mid, hmid⟩ : ∃ mid, mid = (cur.take (n * 2)).drop (i * 2) := ⟨_, rfl⟩
  have HM := Lib.hid hmid; clear hmid
  go_wp2_with (refine wpList_copy_k rfl _ _ 23 23 rfl 63 2 Tryz.underlying23 Tryz.info_ent1 g ((i + 1) * 2) (n - i) (c - (i + 1)) ⟨g, i * 2, none⟩ (n + 1 - i) (c - i) rfl rfl cur 63 H1.out.2.1 mid ?hn ?hsrc ?hfit (fun v hv => H1.out.2.2.2.2.2.1 v (List.mem_of_mem_drop (HM.out ▸ hv))) ?_)
  case hn => rw [HM.out]; exact mid_len (by have := H1.out.2.2.1; omega) hi
  case hsrc =>
    intro j v hj
    rw [add_own, cell_of_blk (w := w.drew) H1.out.2.1]
    rw [HM.out, List.getElem?_drop, List.getElem?_take] at hj
    split at hj
    · simpa using hj
    · cases hj
  case hfit => have := H1.out.2.2.1; rw [HM.out]; simp only [List.length_drop, List.length_take]; omega
  intro w1 hg1 hm1
  have HA := Lib.hid (And.intro hg1 (And.intro hm1 ((hm1.block gx (lt_of_blk H1.out.1) H1.out.2.2.2.2.1).trans H1.out.1))); clear hg1 hm1
  have hb8 : ((n : Int) + 1).toNat = n + 1 := by omega
  have hb9 : n + 1 - i = (n - i) + 1 := by omega
  go_wp2_with (refine wpList_copy_k rfl _ _ 23 22 rfl 63 2 Tryz.underlying23 Tryz.info_ent1 g (i * 2) _ _ ⟨gx, 0, none⟩ 1 1 rfl rfl _ 63 HA.out.1 cs ?hn ?hsrc ?hfit H1.out.2.2.2.2.2.2 ?_)
  case hn => rw [H1.out.2.2.2.1]; simp only [Nat.min_def]; split <;> omega
  case hsrc => intro j v hj; rw [agg_at, cell_of_blk HA.out.2.2]; simpa using hj
  case hfit => have := H1.out.2.2.1; have := H1.out.2.2.2.1; rw [HM.out]; simp only [laid, List.length_append, List.length_drop, List.length_take]; omega
  intro w2 hg2 hm2
  have HB := Lib.hid (And.intro hg2 hm2); clear hg2 hm2
  go_wp2_with fail
  go_ret
  refine ⟨rfl, ?_, ((Mod.refl (fun k => k = g) w).drew.trans HA.out.2.1 (fun k hk => .inl hk)).trans HB.out.2 (fun k hk => .inl hk)⟩
  rw [HB.out.1, ins_cells H1.out.2.2.1 H1.out.2.2.2.1 hi hc HM.out]
end Go.Proofs.YthhepnaanjicjaaGreatDoor

/- Rows of entries: slices.Insert, whichever way. -/
namespace Go.Proofs.YthhepnaanjicjaaGreatDoor
open Go.RowKit
set_option linter.unusedVariables false
theorem grow_zeros (w : World) (g i k c : Nat) (cur : List Value) (hgg : w.heap[g]? = some (.cells cur.toArray 63 (0, 0))) (hcur : cur.length = c * 2) (hk : k ≤ 1000001 ∧ 2 ≤ k ∧ i + k = c + 1) (hl : c ≤ 1000000) (ty : TypeId) :
    (Builtin.append_ #[23, 3] ty #[.slice (some ⟨g, 0, none⟩) i c, .int .i64 (k : Nat)]).run Tryz.prog w =
      .ok (.slice (some ⟨w.heap.size, 0, none⟩) (i + k) (grownCap w (i + k) c 63))
        (w.drew.alloc (.cells ((cur.take (i * 2)).toArray ++ Builtin.zeroCells zeroEnt.toArray k ++ Builtin.zeroCells zeroEnt.toArray (grownCap w (i + k) c 63 - (i + k))) 63)) := by
  obtain ⟨i0, hi, hzz⟩ := Option.map_eq_some_iff.1 Tryz.info_ent3
  simp only [Prod.mk.injEq] at hzz
  have hcapb := nextslicecap_le (need := i + k) (old := c) (by omega)
  have := Lib.run_append_grow_zeros (P := Tryz.prog) w 23 3 ty 63 i0 (.agg zeroEnt.toArray) .i64 .i64 Tryz.underlying23 Tryz.underlying3 hi hzz.1 (some ⟨g, 0, none⟩) i c (cur.take (i * 2))
    (by
      rw [hzz.2.1]
      refine run_firstCells_some (w := w.drew) 2 i ⟨g, 0, none⟩ i c (cur.take (i * 2)) (by rw [List.length_take]; omega) (fun j v hj => ?_)
      rw [agg_at, cell_of_blk (w := w.drew) hgg]
      rw [List.getElem?_take] at hj
      split at hj
      · simpa using hj
      · cases hj) k (by omega) (by omega) (by omega) (by omega) (by rw [hzz.2.2]; omega) (by rw [hzz.2.2]; omega)
  exact this
theorem grow_cells {cur cur2 cs mid zs : List Value} {c i : Nat} (hcur : cur.length = c * 2) (hcs : cs.length = 2) (hi : i < c) (hmid : mid = cur.drop (i * 2)) (h2 : cur2 = cur.take (i * 2) ++ zs) :
    laid (laid cur2 (i * 2) cs) ((i + 1) * 2) mid = cur.take (i * 2) ++ cs ++ cur.drop (i * 2) ++ zs.drop ((c + 1 - i) * 2) := by
  have hl : mid.length = (c - i) * 2 := by rw [hmid, List.length_drop, hcur]; omega
  have ht : (cur.take (i * 2)).length = i * 2 := by rw [List.length_take]; omega
  have h4 : i * 2 + 2 = (i + 1) * 2 := by omega
  have e1 : laid cur2 (i * 2) cs = cur.take (i * 2) ++ cs ++ zs.drop 2 := by
    unfold laid
    rw [h2, hcs, List.take_append_of_le_length (by omega), List.take_of_length_le (by omega), ← List.drop_drop, List.drop_left' ht]
  have ht2 : (cur.take (i * 2) ++ cs).length = (i + 1) * 2 := by rw [List.length_append, ht, hcs, h4]
  rw [e1]
  unfold laid
  rw [List.take_append_of_le_length (by omega), List.take_of_length_le (by omega), ← List.drop_drop, List.drop_left' ht2, hl, List.drop_drop, hmid, show 2 + (c - i) * 2 = (c + 1 - i) * 2 by omega]
theorem wpList_grow {ops : Array Oper} {rest : List Oper} {o : Oper} {a : Act} {Q : Exit → Act → World → Prop} {w : World} (hgd : o.guard = none) (s x : Operand) (ho : o.op = .call { callee := .builtin .append, args := #[s, x], argTypes := #[23, 3] }) (g i k c : Nat) (cur : List Value)
    (hs : a.eval s = .slice (some ⟨g, 0, none⟩) i c) (hx : a.eval x = .int .i64 (k : Nat)) (hgg : w.heap[g]? = some (.cells cur.toArray 63 (0, 0))) (hcur : cur.length = c * 2) (hk : k ≤ 1000001 ∧ 2 ≤ k ∧ i + k = c + 1) (hl : c ≤ 1000000)
    (h : ∀ c' zs w1, w1.heap[w.heap.size]? = some (.cells (cur.take (i * 2) ++ zs : List Value).toArray 63 (0, 0)) → i * 2 + zs.length = c' * 2 → c + 1 ≤ c' → c' ≤ maxLen → Mod (fun _ => False) w w1 → wpList Tryz.prog ops Q rest (a.put o.dst (.slice (some ⟨w.heap.size, 0, none⟩) (c + 1) c')) w1) :
    wpList Tryz.prog ops Q (o :: rest) a w := by
  have hk3 := hk.2.2
  refine Lib.wpList_append_run w hgd s x 23 3 ho _ _ hs hx _ _ (grow_zeros w g i k c cur hgg hcur hk hl _) ?_
  rw [← hk3] at h
  have hge := grownCap_ge w (i + k) c 63
  refine h _ ((Builtin.zeroCells zeroEnt.toArray k).toList ++ (Builtin.zeroCells zeroEnt.toArray (grownCap w (i + k) c 63 - (i + k))).toList) _ ?_ ?_ hge (grownCap_le_maxLen w _ _ _ (by simp only [maxLen]; omega)) (((Mod.refl (fun _ => False) w).drew).alloc _)
  · have := heap_alloc_new w.drew (.cells ((cur.take (i * 2)).toArray ++ Builtin.zeroCells zeroEnt.toArray k ++ Builtin.zeroCells zeroEnt.toArray (grownCap w (i + k) c 63 - (i + k))) 63)
    rw [show w.drew.heap.size = w.heap.size from rfl] at this
    rw [this]
    simp
  · have hz : zeroEnt.toArray.size = 2 := rfl
    simp only [Builtin.zeroCells, List.length_append, Array.length_toList, Array.size_map, Array.size_range, hz]
    omega
set_option maxRecDepth 100000 in
set_option maxHeartbeats 1000000 in
theorem insert_grow (g n c i : Nat) (gx : Nat) (cs cur : List Value) (w : World) (hi : i < n) (hl : n ≤ 1000000) (hc : c = n)
    (hg : w.heap[gx]? = some (.cells cs.toArray 63 (0, 0))) (hgg : w.heap[g]? = some (.cells cur.toArray 63 (0, 0))) (hcur : cur.length = c * 2) (hcs : cs.length = 2) (h1 : ∀ u ∈ cur, u.oneCell' = true) (h2 : ∀ u ∈ cs, u.oneCell' = true) :
    Calls Tryz.prog 90 #[.slice (some ⟨g, 0, none⟩) n c, .int .i64 (i : Nat), .slice (some ⟨gx, 0, none⟩) 1 1] w fun e w' => ∃ c' sp, e = .returned (.slice (some ⟨w.heap.size, 0, none⟩) (n + 1) c') ∧
      w'.heap[w.heap.size]? = some (.cells (cur.take (i * 2) ++ cs ++ cur.drop (i * 2) ++ sp : List Value).toArray 63 (0, 0)) ∧ (n + 1) * 2 + sp.length = c' * 2 ∧ n + 1 ≤ c' ∧ c' ≤ maxLen ∧ Mod (fun _ => False) w w' := by
  subst hc
  have H1 := Lib.hid (And.intro hg (And.intro hgg (And.intro hcur (And.intro hcs (And.intro h1 h2))))); clear hg hgg hcur hcs h1 h2
  have hb4 : ¬ (c = i) := by omega
  have hb6 : ((i : Int) == (c : Int)) = false := by simp; omega
  have hb7 : decide ((c : Int) < (c : Int) + 1) = true := decide_eq_true (by omega)
  obtain ⟨k, hk⟩ : ∃ k, k = c + 1 - i := ⟨_, rfl⟩
  have hk2 : (c : Int) + 1 - (i : Int) = (k : Int) := by omega
  have hkl : k ≤ 1000001 ∧ 2 ≤ k ∧ i + k = c + 1 := by omega
  have HK := Lib.hid hkl; clear hkl hk
  go_enter Tryz.func90, Tryz.ntmps90
  go_wp2_with (refine wpList_grow rfl _ _ rfl g i k c cur rfl rfl H1.out.2.1 H1.out.2.2.1 HK.out hl ?_)
  intro c' zs w1 hg2 hzl hc1 hc2 hm1
  obtain ⟨cur2, hcur2⟩ : ∃ cur2, cur2 = cur.take (i * 2) ++ zs := ⟨_, rfl⟩
  rw [← hcur2] at hg2
  have hgx1 := (hm1.block gx (lt_of_blk H1.out.1) id).trans H1.out.1
  have hgg1 := (hm1.block g (lt_of_blk H1.out.2.1) id).trans H1.out.2.1
  have hcl2 : cur2.length = c' * 2 := by rw [hcur2, List.length_append, List.length_take]; have := H1.out.2.2.1; omega
  have hgs := lt_of_blk H1.out.2.1
  have HA := Lib.hid (And.intro hg2 (And.intro hcur2 (And.intro hcl2 (And.intro hgx1 (And.intro hgg1 (And.intro hm1 hzl)))))); clear hg2 hcur2 hcl2 hgx1 hgg1 hm1 hzl
  have hb5 : ¬ (c' = i) := by omega
  have hb8 : ((c : Int) + 1).toNat = c + 1 := by omega
  have hb9 : (i : Int) ≤ (c : Int) + 1 := by omega
  go_wp2_with (refine wpList_copy_k rfl _ _ 23 22 rfl 63 2 Tryz.underlying23 Tryz.info_ent1 w.heap.size (i * 2) _ _ ⟨gx, 0, none⟩ 1 1 rfl rfl cur2 63 HA.out.1 cs ?hn ?hsrc ?hfit H1.out.2.2.2.2.2 ?_)
  case hn => rw [H1.out.2.2.2.1]; simp only [Nat.min_def]; split <;> omega
  case hsrc => intro j v hj; rw [agg_at, cell_of_blk HA.out.2.2.2.1]; simpa using hj
  case hfit => have := HA.out.2.2.1; have := H1.out.2.2.2.1; omega
  intro w2 hg3 hm2
  have hgg2 := (hm2.block g (lt_of_blk HA.out.2.2.2.2.1) (by omega)).trans HA.out.2.2.2.2.1
  have HB := Lib.hid (And.intro hg3 (And.intro hgg2 hm2)); clear hg3 hgg2 hm2
  have hs1 := slice_low_own (P := Tryz.prog) Tryz.underlying23 Tryz.info_ent1 w.heap.size (c + 1) c' (i + 1) (by omega) (by omega) ((i : Int) + 1) (by omega)
  have hs2 := slice_low_own (P := Tryz.prog) Tryz.underlying23 Tryz.info_ent1 g c c i (by omega) (by omega) (i : Int) rfl
  rw [show c + 1 - (i + 1) = c - i by omega] at hs1
  go_wp2_with fail
  have hw1 : IntKind.i64.wrap ((i : Int) + 1) = (i : Int) + 1 := by rw [IntKind.wrap_i64]; omega
  go_still_tail 8, (by kernel_rfl)
  clear hs1 hs2 hw1
  change wpList _ _ _ _ _ w2.drew
  obtain ⟨mid, hmid⟩ : ∃ mid, mid = cur.drop (i * 2) := ⟨_, rfl⟩
  have HM := Lib.hid hmid; clear hmid
  go_wp2_with (refine wpList_copy_k rfl _ _ 23 23 rfl 63 2 Tryz.underlying23 Tryz.info_ent1 w.heap.size ((i + 1) * 2) (c - i) (c' - (i + 1)) ⟨g, i * 2, none⟩ (c - i) (c - i) rfl rfl (laid cur2 (i * 2) cs) 63 HB.out.1 mid ?hn ?hsrc ?hfit (fun v hv => H1.out.2.2.2.2.1 v (List.mem_of_mem_drop (HM.out ▸ hv))) ?_)
  case hn => have := H1.out.2.2.1; rw [HM.out, List.length_drop]; simp only [Nat.min_def]; split <;> omega
  case hsrc =>
    intro j v hj
    rw [add_own, cell_of_blk (w := w2.drew) HB.out.2.1]
    rw [HM.out, List.getElem?_drop] at hj
    simpa using hj
  case hfit => have := H1.out.2.2.1; have := HA.out.2.2.1; have := H1.out.2.2.2.1; rw [HM.out]; simp only [laid, List.length_append, List.length_drop, List.length_take]; omega
  intro w3 hg4 hm3
  have HC := Lib.hid (And.intro hg4 hm3); clear hg4 hm3
  go_wp2_with fail
  go_ret
  refine ⟨c', zs.drop ((c + 1 - i) * 2), rfl, ?_, ?_, hc1, hc2, ((HA.out.2.2.2.2.2.1.trans HB.out.2.2 (fun k hk => .inr (by omega))).drew).trans HC.out.2 (fun k hk => .inr (by omega))⟩
  · rw [HC.out.1, grow_cells H1.out.2.2.1 H1.out.2.2.2.1 hi HM.out HA.out.2.1]
  · have := HA.out.2.2.2.2.2.2
    rw [List.length_drop]
    omega
theorem ins_rel {α : Type} {R : Rd α} {w : World} {ok : Nat → Prop} {rest cs : List Value} {l : List α} {m : α} {i : Nat} (hrest : rest.length = l.length * R.sz) (hi : i ≤ l.length)
    (hr : ∀ j x, l[j]? = some x → R.rel w ok ((rest.drop (j * R.sz)).take R.sz) x) (hm : R.rel w ok cs m) :
    ∀ j x, (l.take i ++ m :: l.drop i)[j]? = some x → R.rel w ok (((rest.take (i * R.sz) ++ (cs ++ rest.drop (i * R.sz))).drop (j * R.sz)).take R.sz) x := by
  have hcs := R.len hm
  have hle : i * R.sz ≤ rest.length := by rw [hrest]; exact Nat.mul_le_mul_right _ hi
  have ht : (rest.take (i * R.sz)).length = i * R.sz := by rw [List.length_take]; omega
  have htl : (l.take i).length = i := by rw [List.length_take]; omega
  intro j x hj
  by_cases h1 : j < i
  · rw [List.getElem?_append_left (by omega), List.getElem?_take_of_lt h1] at hj
    rw [drop_take_left ht h1]
    have h2 : j * R.sz + R.sz ≤ i * R.sz := by rw [← Nat.succ_mul]; exact Nat.mul_le_mul_right _ h1
    have : ((rest.take (i * R.sz)).drop (j * R.sz)).take R.sz = (rest.drop (j * R.sz)).take R.sz := by
      rw [List.drop_take, List.take_take]
      congr 1
      omega
    rw [this]
    exact hr j x hj
  · rw [List.getElem?_append_right (by omega), htl] at hj
    rw [drop_take_right ht (by omega)]
    obtain ⟨d, rfl⟩ : ∃ d, j = i + d := ⟨j - i, by omega⟩
    rw [Nat.add_sub_cancel_left] at hj ⊢
    cases d with
    | zero =>
      have : m = x := by simpa using hj
      subst this
      rw [Nat.zero_mul, List.drop_zero, List.take_append_of_le_length (by omega), List.take_of_length_le (by omega)]
      exact hm
    | succ d =>
      have hd : l[i + d]? = some x := by simpa [List.getElem?_drop] using hj
      have := hr (i + d) x hd
      rw [Nat.succ_mul, Nat.add_comm (d * R.sz), ← hcs, ← List.drop_drop, List.drop_left, hcs, List.drop_drop, ← Nat.add_mul]
      exact this
theorem own_mk {α : Type} {R : Rd α} {e : TypeId} {w : World} {base : Nat} {S : Nat → Prop} {g c : Nat} {xs : List α} {cells sp : List Value} (hb : base ≤ g) (hg : w.heap[g]? = some (.cells (cells ++ sp).toArray e (0, 0)))
    (hl : cells.length = xs.length * R.sz) (hc : (cells ++ sp).length = c * R.sz) (hle : xs.length ≤ c) (hcm : c ≤ maxLen) (hr : ∀ j x, xs[j]? = some x → R.rel w (fun k => S k ∧ k ≠ g) ((cells.drop (j * R.sz)).take R.sz) x) :
    OwnR R e w base S (.slice (some ⟨g, 0, none⟩) xs.length c) xs := by
  refine ⟨cells, ⟨hl, .inr ⟨g, c, (cells ++ sp).toArray, rfl, hb, hg, hle, hcm, by simpa using hc, ?_⟩⟩, fun j x hj => Rd.mono (hr j x hj) (fun k hk => ⟨hk.1, fun e => hk.2 ?_⟩)⟩
  · simp only [← hl]
    simp
  · simpa [Value.ownBlock] using e
theorem insert_any (A : Option Addr) (n c i : Nat) (l : List Entry) (m : Entry) (gx : Nat) (cs : List Value) (base : Nat) (S : Nat → Prop) (w : World) (hO : OwnR EntryR 63 w base S (.slice A n c) l) (hn : n = l.length) (hi : i ≤ n) (hl : l.length ≤ 1000000) (hb : base ≤ w.heap.size)
    (hg : w.heap[gx]? = some (.cells cs.toArray 63 (0, 0))) (hm : EntryR.rel w (fun k => S k ∧ some k ≠ (Value.slice A n c).ownBlock) cs m) (hgx : some gx ≠ (Value.slice A n c).ownBlock) (hS : ∀ k, S k → k < w.heap.size) :
    Calls Tryz.prog 90 #[.slice A n c, .int .i64 (i : Nat), .slice (some ⟨gx, 0, none⟩) 1 1] w fun e w' => ∃ A' c', e = .returned (.slice A' (l.length + 1) c') ∧ OwnR EntryR 63 w' base S (.slice A' (l.length + 1) c') (l.take i ++ m :: l.drop i) ∧ Mod (fun k => (Value.slice A n c).ownBlock = some k) w w' := by
  by_cases hin : i = n
  · have := insert_end A n c i l m gx cs base S w hO hn hin hl hb hg hm
    refine this.mono ?_
    rintro e w' ⟨A', c', he, hO', hm'⟩
    refine ⟨A', c', he, ?_, hm'⟩
    rw [hin, hn, List.take_length, List.drop_length]
    exact hO'
  · obtain ⟨g, cur, rfl, -, hbg, hgg, hnc, hcm, hcur, hrel, hone⟩ := own_blk hO (by intro h; subst h; simp at hn; omega)
    have hne : gx ≠ g := fun e => hgx (by rw [e]; rfl)
    have hcs : cs.length = 2 := EntryR.len hm
    have hrest : (cur.take (n * 2)).length = l.length * 2 := by rw [List.length_take, hcur]; show min (n * 2) (c * 2) = _; omega
    have hcur' : cur.length = c * 2 := hcur
    have hmr : EntryR.rel w (fun k => S k ∧ k ≠ g) cs m := Rd.mono hm (fun k hk => ⟨hk.1, fun e => hk.2 (by rw [e]; rfl)⟩)
    have hins := ins_rel (R := EntryR) (rest := cur.take (n * 2)) (i := i) hrest (by omega) hrel hmr
    have hlen1 : (l.take i ++ m :: l.drop i).length = l.length + 1 := by simp; omega
    by_cases hroom : n < c
    · refine (insert_room g n c i l m gx cs cur w hn (by omega) hl hroom hcm hg hgg hcur' hcs hne hone (EntryR.one hm)).mono ?_
      rintro e w' ⟨rfl, hg', hm'⟩
      refine ⟨_, c, by rw [hn], ?_, hm'.mono (fun k hk => by rw [hk]; rfl)⟩
      have ht1 : (cur.take (n * 2)).take (i * 2) = cur.take (i * 2) := by rw [List.take_take]; congr 1; omega
      have := own_mk (R := EntryR) (e := 63) (S := S) (c := c) (xs := l.take i ++ m :: l.drop i) (cells := (cur.take (n * 2)).take (i * 2) ++ (cs ++ (cur.take (n * 2)).drop (i * 2))) (sp := cur.drop ((n + 1) * 2)) hbg (by rw [hg', ht1]; simp)
        (by rw [hlen1]; show _ = (l.length + 1) * 2; simp only [List.length_append, List.length_take, List.length_drop, hcs]; omega)
        (by show _ = c * 2; simp only [List.length_append, List.length_take, List.length_drop, hcs]; omega) (by rw [hlen1]; omega) hcm
        (fun j x hj => EntryR.step (fun k hk hl => ⟨hk, hm'.block k hl hk.2⟩) (hins j x hj))
      rw [hlen1] at this
      exact this
    · have hceq : c = n := by omega
      refine (insert_grow g n c i gx cs cur w (by omega) (by omega) hceq hg hgg hcur' hcs (by rw [← List.take_of_length_le (show cur.length ≤ n * 2 by omega)]; exact hone) (EntryR.one hm)).mono ?_
      rintro e w' ⟨c', sp, rfl, hg', hsp, hc1, hc2, hm'⟩
      have htk : cur.take (n * 2) = cur := List.take_of_length_le (by omega)
      rw [htk] at hins
      refine ⟨_, c', by rw [hn], ?_, hm'.mono (fun k hk => hk.elim)⟩
      have := own_mk (R := EntryR) (e := 63) (S := S) (base := base) (c := c') (xs := l.take i ++ m :: l.drop i) (cells := cur.take (i * 2) ++ (cs ++ cur.drop (i * 2))) (sp := sp) hb (by rw [hg']; simp)
        (by rw [hlen1]; show _ = (l.length + 1) * 2; simp only [List.length_append, List.length_take, List.length_drop, hcs]; omega)
        (by show _ = c' * 2; simp only [List.length_append, List.length_take, List.length_drop, hcs]; omega) (by rw [hlen1]; omega) hc2
        (fun j x hj => EntryR.step (fun k hk hl => ⟨⟨hk.1, by omega⟩, hm'.block k hl id⟩) (hins j x hj))
      rw [hlen1] at this
      exact this
end Go.Proofs.YthhepnaanjicjaaGreatDoor

/- Rows of entries: what is kept while some are taken out. (The texts of layer 22's, at entries.) -/
namespace Go.Proofs.YthhepnaanjicjaaGreatDoor
open Go.RowKit
set_option linter.unusedVariables false
theorem EntryR_len {w : World} {ok : Nat → Prop} {cs : List Value} {x : Entry} (h : EntryR.rel w ok cs x) : cs.length = 2 := EntryR.len h
theorem filter_take {l : List Entry} {j : Nat} {x : Entry} (h : l[j]? = some x) (q : Entry → Bool) : (l.take (j + 1)).filter q = (l.take j).filter q ++ if q x then [x] else [] := by
  rw [List.take_add_one, h, List.filter_append]
  cases hx : q x <;> simp [hx]
/-- the row while elements are moved up: i are kept, j are looked at -/
structure DelAt (w0 : World) (S : Nat → Prop) (g : Nat) (l : List Entry) (q : Entry → Bool) (cur : List Value) (i j : Nat) (row : List Value) (w : World) : Prop where
  blk : w.heap[g]? = some (.cells row.toArray 63 (0, 0))
  mod : Mod (fun k => k = g) w0 w
  ex : ∃ F mid, row = F ++ mid ++ cur.drop (j * 2) ∧ F.length = i * 2 ∧ F.length + mid.length = j * 2 ∧ ∀ t x, ((l.take j).filter q)[t]? = some x → EntryR.rel w (fun k => S k ∧ k ≠ g) ((F.drop (t * 2)).take 2) x
  num : ((l.take j).filter q).length = i
theorem DelAt.at_ {w0 w : World} {S : Nat → Prop} {g : Nat} {l : List Entry} {q : Entry → Bool} {cur : List Value} {i j n c : Nat} {row : List Value} (h : DelAt w0 S g l q cur i j row w) (hcur : cur.length = c * 2) (hn : n ≤ c) (hj : j < n) {x : Entry}
    (hx : EntryR.rel w0 (fun k => S k ∧ k ≠ g) (((cur.take (n * 2)).drop (j * 2)).take 2) x) :
    EntryR.rel w (fun k => S k ∧ k ≠ g) ((cur.drop (j * 2)).take 2) x ∧ ∀ t u, ((cur.drop (j * 2)).take 2)[t]? = some u → w.cell? ⟨g, j * 2 + t, none⟩ = some u := by
  have e : ((cur.take (n * 2)).drop (j * 2)).take 2 = (cur.drop (j * 2)).take 2 := by
    rw [List.drop_take, List.take_take]
    congr 1
    omega
  rw [e] at hx
  refine ⟨Rd.mod hx h.mod (fun k hk => hk.2), fun t u hu => ?_⟩
  obtain ⟨F, mid, hrow, hF, hm, _⟩ := h.ex
  rw [cell_of_blk h.blk, hrow]
  have hlt : t < 2 := by
    have := (List.getElem?_eq_some_iff.1 hu).1
    simp at this
    omega
  rw [List.getElem?_take_of_lt hlt] at hu
  have hl : (F ++ mid).length = j * 2 := by simp; omega
  rw [List.getElem?_toArray, List.getElem?_append_right (by omega), hl, Nat.add_sub_cancel_left]
  exact hu
/-- one is passed over -/
theorem DelAt.skip {w0 w w1 : World} {S : Nat → Prop} {g : Nat} {l : List Entry} {q : Entry → Bool} {cur : List Value} {i j c : Nat} {row : List Value} (h : DelAt w0 S g l q cur i j row w) (hm : Mod (fun _ => False) w w1) (hcur : cur.length = c * 2) (hj : j < c) {x : Entry} (hx : l[j]? = some x) (hno : q x = false) : DelAt w0 S g l q cur i (j + 1) row w1 := by
  obtain ⟨F, mid, hrow, hF, hmid, hr⟩ := h.ex
  have e : (l.take (j + 1)).filter q = (l.take j).filter q := by rw [filter_take hx q, hno]; simp
  refine ⟨(hm.block g (lt_of_blk h.blk) id).trans h.blk, h.mod.trans hm (fun _ h => h.elim), ⟨F, mid ++ (cur.drop (j * 2)).take 2, ?_, hF, ?_, ?_⟩, by rw [e]; exact h.num⟩
  · rw [hrow, List.append_assoc, List.append_assoc, List.append_assoc]
    congr 2
    rw [show (j + 1) * 2 = j * 2 + 2 by omega, ← List.drop_drop, List.take_append_drop]
  · simp only [List.length_append, List.length_take, List.length_drop]
    omega
  · rw [e]
    exact fun t y hy => Rd.mod (hr t y hy) hm (fun _ _ => id)
/-- one is kept -/
theorem DelAt.keep {w0 w w1 w2 : World} {S : Nat → Prop} {g : Nat} {l : List Entry} {q : Entry → Bool} {cur : List Value} {i j c : Nat} {row : List Value} (h : DelAt w0 S g l q cur i j row w) (hm : Mod (fun _ => False) w w1) (hm2 : Mod (fun k => k = g) w1 w2) (hcur : cur.length = c * 2) (hj : j < c) (hij : i < j) {x : Entry} (hx : l[j]? = some x) (hyes : q x = true)
    (hrel : EntryR.rel w (fun k => S k ∧ k ≠ g) ((cur.drop (j * 2)).take 2) x) (hb : w2.heap[g]? = some (.cells (laid row (i * 2) ((cur.drop (j * 2)).take 2)).toArray 63 (0, 0))) :
    DelAt w0 S g l q cur (i + 1) (j + 1) (laid row (i * 2) ((cur.drop (j * 2)).take 2)) w2 := by
  obtain ⟨F, mid, hrow, hF, hmid, hr⟩ := h.ex
  have hcl : ((cur.drop (j * 2)).take 2).length = 2 := by rw [List.length_take, List.length_drop]; omega
  have e : (l.take (j + 1)).filter q = (l.take j).filter q ++ [x] := by rw [filter_take hx q, hyes]; simp
  have hmod12 : Mod (fun k => k = g) w w2 := (hm.mono (fun k h => h.elim)).trans hm2 (fun k hk => .inl hk)
  refine ⟨hb, h.mod.trans hmod12 (fun k hk => .inl hk), ⟨F ++ (cur.drop (j * 2)).take 2, mid.drop 2 ++ (cur.drop (j * 2)).take 2, ?_, ?_, ?_, ?_⟩, by rw [e, List.length_append, h.num]; rfl⟩
  · unfold laid
    rw [hcl, hrow, List.append_assoc F, List.take_append_of_le_length (by omega), List.take_of_length_le (by omega), ← List.drop_drop, List.drop_left' hF, List.drop_append_of_le_length (by omega)]
    simp only [List.append_assoc]
    congr 3
    rw [show (j + 1) * 2 = j * 2 + 2 by omega, ← List.drop_drop, List.take_append_drop]
  · rw [List.length_append, hcl]; omega
  · simp only [List.length_append, List.length_drop, hcl]; omega
  · intro t y hy
    rw [e] at hy
    by_cases ht : t < i
    · rw [List.getElem?_append_left (by rw [h.num]; exact ht)] at hy
      rw [drop_take_left hF ht]
      exact Rd.mod (hr t y hy) hmod12 (fun k hk => hk.2)
    · rw [List.getElem?_append_right (by rw [h.num]; omega), h.num] at hy
      have hti : t - i = 0 := by
        have := (List.getElem?_eq_some_iff.1 hy).1
        simp at this; omega
      rw [hti] at hy
      have : x = y := by simpa using hy
      subst this
      rw [drop_take_right hF (by omega), hti, Nat.zero_mul, List.drop_zero, List.take_of_length_le (by omega)]
      exact Rd.mod hrel hmod12 (fun k hk => hk.2)
theorem keepIdx_none {l : List Entry} {q : Entry → Bool} (h : l.findIdx? (fun x => !q x) = none) : l.filter q = l := by
  rw [List.findIdx?_eq_none_iff] at h
  rw [List.filter_eq_self]
  intro x hx
  have := h x hx; simpa using this
theorem keepIdx_some {l : List Entry} {q : Entry → Bool} {i : Nat} (h : l.findIdx? (fun x => !q x) = some i) : i < l.length ∧ (l.take (i + 1)).filter q = l.take i := by
  rw [List.findIdx?_eq_some_iff_getElem] at h
  obtain ⟨h1, h2, h3⟩ := h
  refine ⟨h1, ?_⟩
  rw [filter_take (List.getElem?_eq_getElem h1) q]
  have : q l[i] = false := by simpa using h2
  rw [this]
  simp only [Bool.false_eq_true, if_false, List.append_nil]
  rw [List.filter_eq_self]
  intro x hx
  obtain ⟨j, hj⟩ := List.getElem?_of_mem hx
  have hjl := (List.getElem?_eq_some_iff.1 hj).1
  rw [List.length_take] at hjl
  rw [List.getElem?_take_of_lt (by omega)] at hj
  have := h3 j (by omega)
  rw [List.getElem?_eq_getElem (by omega)] at hj
  cases hj
  simpa using this
theorem DelAt.start {w0 w : World} {S : Nat → Prop} {g : Nat} {l : List Entry} {q : Entry → Bool} {cur : List Value} {i n c : Nat} (hb : w0.heap[g]? = some (.cells cur.toArray 63 (0, 0))) (hm : Mod (fun _ => False) w0 w) (hcur : cur.length = c * 2) (hn : n = l.length) (hnc : n ≤ c)
    (hr : ∀ j x, l[j]? = some x → EntryR.rel w0 (fun k => S k ∧ k ≠ g) (((cur.take (n * 2)).drop (j * 2)).take 2) x) (hi : l.findIdx? (fun x => !q x) = some i) : DelAt w0 S g l q cur i (i + 1) cur w := by
  obtain ⟨h1, h2⟩ := keepIdx_some hi
  refine ⟨(hm.block g (lt_of_blk hb) id).trans hb, hm.mono (fun k h => h.elim), ⟨cur.take (i * 2), (cur.drop (i * 2)).take 2, ?_, ?_, ?_, ?_⟩, by rw [h2, List.length_take]; omega⟩
  · rw [List.append_assoc, show (i + 1) * 2 = i * 2 + 2 by omega, ← List.drop_drop, List.take_append_drop, List.take_append_drop]
  · rw [List.length_take]; omega
  · simp only [List.length_take, List.length_drop]; omega
  · rw [h2]
    intro t x hx
    have ht : t < i := by have := (List.getElem?_eq_some_iff.1 hx).1; rw [List.length_take] at this; omega
    rw [List.getElem?_take_of_lt ht] at hx
    have := hr t x hx
    have e : ((cur.take (i * 2)).drop (t * 2)).take 2 = ((cur.take (n * 2)).drop (t * 2)).take 2 := by
      rw [List.drop_take, List.drop_take, List.take_take, List.take_take]
      congr 1
      omega
    rw [e]
    exact Rd.mod this hm (fun _ _ => id)
/-- the row cut at its kept end -/
theorem DelAt.cut {w0 w w1 : World} {S : Nat → Prop} {g base : Nat} {l : List Entry} {q : Entry → Bool} {cur zs : List Value} {i n c : Nat} {row : List Value} (h : DelAt w0 S g l q cur i n row w) (hbg : base ≤ g) (hcur : cur.length = c * 2) (hn : n = l.length) (hnc : n ≤ c) (hcm : c ≤ maxLen) (hin : i ≤ n)
    (hm : Mod (fun k => k = g) w w1) (hz : zs.length = (n - i) * 2) (hb : w1.heap[g]? = some (.cells (laid row (i * 2) zs).toArray 63 (0, 0))) :
    OwnR EntryR 63 w1 base S (.slice (some ⟨g, 0, none⟩) (l.filter q).length c) (l.filter q) := by
  obtain ⟨F, mid, hrow, hF, hmid, hr⟩ := h.ex
  have hnum := h.num
  rw [hn, List.take_length] at hr hnum
  have hrl : row.length = c * 2 := by rw [hrow]; simp only [List.length_append, List.length_drop]; omega
  have hl : laid row (i * 2) zs = F ++ (zs ++ row.drop (i * 2 + zs.length)) := by
    unfold laid
    rw [hrow, List.append_assoc F, List.take_append_of_le_length (by omega), List.take_of_length_le (by omega)]
    simp
  refine own_mk (R := EntryR) (e := 63) (cells := F) (sp := zs ++ row.drop (i * 2 + zs.length)) hbg (by rw [hb, hl]) (by rw [hnum]; exact hF) ?_ (by omega) hcm (fun j x hj => Rd.mod (hr j x hj) hm (fun k hk => hk.2))
  show _ = c * 2
  simp only [List.length_append, List.length_drop, hrl]
  omega
end Go.Proofs.YthhepnaanjicjaaGreatDoor

/- Rows of entries: slices.IndexFunc and DeleteFunc by one closure. -/
namespace Go.Proofs.YthhepnaanjicjaaGreatDoor
open Go.RowKit Go.Shelf
set_option linter.unusedVariables false
set_option maxRecDepth 100000 in
set_option maxHeartbeats 1000000 in
theorem indexMK_any (A : Option Addr) (n c : Nat) (l : List Entry) (g : Nat) (p : Entry → Bool) (ok : Nat → Prop) (w : World) (h : labR.rel w ok [.slice A n c] l)
    (hp : ∀ W, Mod (fun _ => False) w W → ∀ d m, ent d m ∈ l → Calls Tryz.prog 92 #[.agg #[.string ⟨d.toArray⟩, .int .i64 m]] W fun r W' => r = .returned (.bool (p (ent d m))) ∧ Mod (fun _ => False) W W') :
    Calls Tryz.prog 87 #[.slice A n c, .func (.func 92) #[] #[]] w fun r w' => r = .returned (.int .i64 (idxL p l)) ∧ Mod (fun _ => False) w w' := by
  obtain ⟨rfl, hcap, -, hbig, -, hrow⟩ := lab_row h
  obtain ⟨z, hz⟩ : ∃ z, z = idxL p l := ⟨_, rfl⟩
  rw [← hz]
  have H0 := Lib.hid (And.intro hrow (And.intro hp hz)); clear hrow hp hz h
  go_enter Tryz.func87, Tryz.ntmps87
  go_wp2_with fail
  go_loopg [8] l.length (fun f si wr => ∃ i : Nat, si = .int .i64 i ∧ i + f = l.length ∧ (∀ x ∈ l.take i, p x = false) ∧ Mod (fun _ => False) w wr)
  case atStart => exact ⟨0, rfl, by omega, by simp, .refl _ _⟩
  case round =>
    obtain ⟨i, rfl, hi, hno, hmod⟩ := hrel
    by_cases hlt : i < l.length
    · obtain ⟨d, m, hx⟩ : ∃ d m, l[i]? = some (ent d m) := by
        obtain ⟨d, m, e⟩ := ent_cases l[i]
        exact ⟨d, m, by rw [← e]; simp [hlt]⟩
      obtain ⟨ad, rfl, -, hc0, hc1, -, -⟩ := row_ent (H0.out.1.step (w1 := wr) (ok1 := ok) (fun k hk hl => ⟨hk, hmod.block k hl id⟩)) hx
      have HX := Lib.hid (And.intro hi (And.intro hno (And.intro hmod hx))); clear hi hno hmod hx
      go_wp2_with fail
      refine (H0.out.2.1 wr HX.out.2.2.1 d m (List.mem_of_getElem? HX.out.2.2.2)).mono ?_
      rintro r w1 ⟨rfl, hm⟩
      have HM := Lib.hid (tr0 HX.out.2.2.1 hm); clear hm hc0 hc1
      cases hb : p (ent d m) with
      | true =>
        have hzi : z = i := by rw [H0.out.2.2]; exact idxL_some HX.out.2.2.2 hb HX.out.2.1
        subst hzi
        clear hb
        go_wp2_with fail
        go_ret
        exact ⟨rfl, HM.out⟩
      | false =>
        have HB := Lib.hid hb; clear hb
        go_wp2_with fail
        go_roundg (gk - 1)
        case measure => have := HX.out.1; omega
        case rel =>
          refine ⟨i + 1, by go_num, by have := HX.out.1; omega, ?_, HM.out⟩
          rw [List.take_add_one, HX.out.2.2.2]
          intro y hy
          rcases List.mem_append.1 hy with hy | hy
          · exact HX.out.2.1 y hy
          · simp at hy; rw [hy]; exact HB.out
    · have hie : l.take i = l := List.take_of_length_le (by omega)
      rw [hie] at hno
      have hzi : z = -1 := by rw [H0.out.2.2]; exact idxL_none hno
      subst hzi
      have HX := Lib.hid hmod; clear hno hmod hi hie
      go_wp2_with fail
      go_ret
      exact ⟨rfl, HX.out⟩
set_option maxRecDepth 100000 in
set_option maxHeartbeats 2000000 in
theorem deleteMK_any (A : Option Addr) (n c : Nat) (l : List Entry) (g0 : Nat) (p : Entry → Bool) (base : Nat) (S : Nat → Prop) (w : World) (hO : OwnR EntryR 63 w base S (.slice A n c) l) (hn : n = l.length) (hl : l.length ≤ 1000000)
    (hp : ∀ W, Mod (fun k => (Value.slice A n c).ownBlock = some k) w W → ∀ d m, ent d m ∈ l → Calls Tryz.prog 92 #[.agg #[.string ⟨d.toArray⟩, .int .i64 m]] W fun r W' => r = .returned (.bool (p (ent d m))) ∧ Mod (fun _ => False) W W') :
    Calls Tryz.prog 91 #[.slice A n c, .func (.func 92) #[] #[]] w fun e w' => ∃ A' c', e = .returned (.slice A' (l.filter fun x => !p x).length c') ∧ (Value.slice A' (l.filter fun x => !p x).length c').ownBlock = (Value.slice A n c).ownBlock ∧ OwnR EntryR 63 w' base S (.slice A' (l.filter fun x => !p x).length c') (l.filter fun x => !p x) ∧ Mod (fun k => (Value.slice A n c).ownBlock = some k) w w' := by
  subst hn
  have hreads := hO.reads (bytes := 24) (by omega)
  have HI := indexMK_any A _ c l g0 p _ w hreads (fun W hW => hp W (hW.mono (fun k h => h.elim)))
  cases hidx : l.findIdx? p with
  | none =>
    have hz : idxL p l = -1 := by unfold idxL; rw [hidx]
    rw [hz] at HI
    have hff : (l.filter fun x => !p x) = l := keepIdx_none (q := fun x => !p x) (by simpa using hidx)
    have HF := Lib.hid hff
    have H0 := Lib.hid hO
    have HIh := Lib.hid HI
    clear hreads HI hidx hp hO hz hff
    go_enter Tryz.func91, Tryz.ntmps91
    go_wp2_with fail
    refine HIh.out.mono ?_
    rintro e w1 ⟨rfl, hm1⟩
    have HM := Lib.hid hm1; clear hm1
    go_wp2_with fail
    go_ret
    rw [HF.out]
    refine ⟨A, c, rfl, rfl, ?_, HM.out.mono (fun k h => h.elim)⟩
    exact H0.out.mod HM.out (fun _ _ => id) (fun _ _ _ => id)
  | some i =>
    have hz : idxL p l = i := by unfold idxL; rw [hidx]
    rw [hz] at HI
    obtain ⟨g, cur, rfl, -, hbg, hgg, hnc, hcm, hcur, hrel, hone⟩ := own_blk hO (by intro h; subst h; simp at hidx)
    have hidx' : l.findIdx? (fun x => !(fun x => !p x) x) = some i := by simpa using hidx
    have hin := (keepIdx_some (q := fun x => !p x) hidx').1
    have hcur' : cur.length = c * 2 := hcur
    have hp' : ∀ W, Mod (fun k => k = g) w W → ∀ d m, ent d m ∈ l → Calls Tryz.prog 92 #[.agg #[.string ⟨d.toArray⟩, .int .i64 m]] W fun r W' => r = .returned (.bool (p (ent d m))) ∧ Mod (fun _ => False) W W' := fun W hW => hp W (hW.mono (fun k h => by rw [h]; rfl))
    have H0 := Lib.hid (And.intro hbg (And.intro hgg (And.intro hcur' (And.intro hrel (And.intro hidx' hp')))))
    have HIh := Lib.hid HI
    clear hreads HI hidx hidx' hp hp' hO hbg hgg hcur hcur' hrel hone hz
    go_enter Tryz.func91, Tryz.ntmps91
    go_wp2_with fail
    refine HIh.out.mono ?_
    rintro e w1 ⟨rfl, hm1⟩
    have HD0 := Lib.hid (DelAt.start (q := fun x => !p x) H0.out.2.1 hm1 H0.out.2.2.1 rfl hnc H0.out.2.2.2.1 H0.out.2.2.2.2.1); clear hm1
    have hine : ((i : Int) == -1) = false := by simp
    have hil : i + 1 ≤ 1000000 := by omega
    go_wp2_with fail
    go_loopg [5, 6] l.length (fun f s5 s6 wr => ∃ (i j : Nat) (row : List Value), s5 = .int .i64 i ∧ s6 = .int .i64 j ∧ l.length - j ≤ f ∧ j ≤ l.length ∧ i < j ∧ Hid (DelAt w S g l (fun x => !p x) cur i j row wr))
    case atStart => exact ⟨i, i + 1, cur, rfl, by go_num, by omega, by omega, by omega, HD0⟩
    case round =>
      obtain ⟨i, j, row, rfl, rfl, hf, hjl, hij, HD⟩ := hrel
      by_cases hlt : j < l.length
      · obtain ⟨x, hx⟩ : ∃ x, l[j]? = some x := ⟨_, List.getElem?_eq_getElem hlt⟩
        have hat := HD.out.at_ H0.out.2.2.1 hnc hlt (H0.out.2.2.2.1 j x hx)
        obtain ⟨d, m, rfl⟩ := ent_cases x
        have hcse := (EntryR_cells hat.1).1
        rw [hcse] at hat
        have HX := Lib.hid (And.intro hx (And.intro hcse hat)); clear hx hcse hat
        have hlen2 : [Value.string (ent d m).cat, .int .i64 (ent d m).level].length = 2 := rfl
        go_wp2_with (refine wpList_copy_var (n := 2) rfl rfl rfl 63 _ _ _ rfl rfl rfl Tryz.underlying63 zeroEnt Tryz.info_ent2 rfl ⟨g, j * 2, none⟩ rfl [.string ⟨d.toArray⟩, .int .i64 m] rfl (EntryR.one HX.out.2.2.1) (fun t u ht => by rw [add_own]; exact HX.out.2.2.2 t u ht) (fun _ _ => rfl) (fun _ _ => rfl) ?_)
        intro g7 w2 hg7 hb7 hm7
        have r7 := Rd.mod HX.out.2.2.1 (hm7 fun _ => False) (fun _ _ => id)
        have HY := Lib.hid (And.intro hb7 (And.intro (hm7 fun _ => False) r7)); clear hg7 hb7 hm7 r7 hlen2
        go_wp2_with (refine wpList_load_agg rfl 63 _ rfl Tryz.underlying63 Tryz.info_ent1 ⟨g7, 0, none⟩ rfl [.string ⟨d.toArray⟩, .int .i64 m] rfl (fun t u ht => by rw [agg_at]; refine (cell_of_blk HY.out.1 _).trans ?_; simpa using ht) ?_)
        have hm02 : Mod (fun k => k = g) w w2 := HD.out.mod.trans (HY.out.2.1) (fun k h => h.elim)
        refine (H0.out.2.2.2.2.2 w2 hm02 d m (List.mem_of_getElem? HX.out.1)).mono ?_
        rintro e w3 ⟨rfl, hm3⟩
        have hb73 := (hm3.block g7 (lt_of_blk HY.out.1) id).trans HY.out.1
        have hm23 := HY.out.2.1.trans hm3 (fun _ h => h.elim)
        have hbg3 := (hm23.block g (lt_of_blk HD.out.blk) id).trans HD.out.blk
        have HZ := Lib.hid (And.intro hb73 (And.intro hm23 hbg3)); clear hb73 hm23 hm3 hbg3 hm02
        cases hb : p (ent d m) with
        | true =>
          have HN : Hid ((fun x => !p x) (ent d m) = false) := by show (!p (ent d m)) = false; rw [hb]; rfl
          clear hb
          go_wp2_with fail
          go_roundg (gk - 1)
          case measure => omega
          case rel => exact ⟨i, j + 1, row, rfl, by go_num, by omega, by omega, by omega, HD.out.skip HZ.out.2.1 H0.out.2.2.1 (by omega) HX.out.1 HN.out⟩
        | false =>
          have HN : Hid ((fun x => !p x) (ent d m) = true) := by show (!p (ent d m)) = true; rw [hb]; rfl
          clear hb
          have hrowl : i * 2 + 2 ≤ row.length := by
            obtain ⟨F, mid, hr, hF, hmid, _⟩ := HD.out.ex
            have := H0.out.2.2.1
            rw [hr]; simp only [List.length_append, List.length_drop]; omega
          have HR2 := Lib.hid hrowl; clear hrowl
          go_wp2_with (first
            | (refine wpList_load_agg rfl 63 _ rfl Tryz.underlying63 Tryz.info_ent1 ⟨g7, 0, none⟩ rfl [.string ⟨d.toArray⟩, .int .i64 m] rfl (fun t u ht => by rw [agg_at]; refine (cell_of_blk HZ.out.1 _).trans ?_; simpa using ht) ?_)
            | (refine wpList_store_at rfl 63 _ _ rfl g (i * 2) 63 row [.string ⟨d.toArray⟩, .int .i64 m] HZ.out.2.2 rfl rfl Tryz.info_ent1 HR2.out (EntryR.one HX.out.2.2.1) ?_))
          intro w4 hb4 hm4
          have HK : Hid (DelAt w S g l (fun x => !p x) cur (i + 1) (j + 1) (laid row (i * 2) [.string ⟨d.toArray⟩, .int .i64 m]) w4) := by
            have hc := HX.out.2.1
            have h1 := HX.out.2.2.1
            change _ = [Value.string ⟨d.toArray⟩, .int .i64 m] at hc
            rw [← hc]
            exact HD.out.keep HZ.out.2.1 hm4 H0.out.2.2.1 (by omega) hij HX.out.1 HN.out (by rw [hc]; exact h1) (by rw [hc]; exact hb4)
          clear hb4 hm4
          go_wp2_with fail
          go_roundg (gk - 1)
          case measure => omega
          case rel => exact ⟨i + 1, j + 1, _, by go_num, by go_num, by omega, by omega, by omega, HK⟩
      · obtain rfl : j = l.length := by omega
        have hs1 := slice_low_own (P := Tryz.prog) Tryz.underlying23 Tryz.info_ent1 g l.length c i (by omega) (by omega) (i : Int) rfl
        have hrowl : i * 2 + (l.length - i) * 2 ≤ row.length := by
          obtain ⟨F, mid, hr, hF, hmid, _⟩ := HD.out.ex
          rw [hr]; simp only [List.length_append]; omega
        have HR2 := Lib.hid hrowl; clear hrowl
        go_wp2_with (refine wpList_clear rfl _ 23 rfl 63 zeroEnt Tryz.underlying23 Tryz.info_ent0 (by decide) (by decide) g (i * 2) (l.length - i) (c - i) rfl row 63 HD.out.blk HR2.out ?_)
        intro w4 zs hz hb4 hm4
        have HK := Lib.hid (And.intro (HD.out.cut H0.out.1 H0.out.2.2.1 rfl hnc hcm (by omega) hm4 hz hb4) (And.intro (HD.out.mod.trans hm4 (fun k hk => .inl hk)) (by have := HD.out.num; rwa [List.take_length] at this))); clear hz hb4 hm4
        go_wp2_with fail
        go_ret
        refine ⟨some ⟨g, 0, none⟩, c, ?_, rfl, HK.out.1, HK.out.2.1.mono (fun k hk => by rw [hk]; rfl)⟩
        rw [HK.out.2.2]
        rfl
end Go.Proofs.YthhepnaanjicjaaGreatDoor

/- Rows of entries: slices.BinarySearchFunc by at. -/
namespace Go.Proofs.YthhepnaanjicjaaGreatDoor
open Go.RowKit Go.Shelf
set_option linter.unusedVariables false
def posL (l : List Entry) (s : List UInt8) : Nat := (l.takeWhile fun e => decide (cmpB (nm e) s < 0)).length
def foundL (l : List Entry) (s : List UInt8) : Bool := match l[posL l s]? with | some e => nm e == s | none => false
theorem takeWhile_at {α : Type} (p : α → Bool) : ∀ (l : List α) (i : Nat), i ≤ l.length → (∀ t x, t < i → l[t]? = some x → p x = true) → (∀ x, l[i]? = some x → p x = false) → (l.takeWhile p).length = i
  | [], i, hi, _, _ => by simp at hi; simp [hi]
  | a :: r, 0, _, _, h2 => by
    have := h2 a rfl
    simp [this]
  | a :: r, i + 1, hi, h1, h2 => by
    have ha : p a = true := h1 0 a (Nat.succ_pos _) rfl
    rw [List.takeWhile_cons, if_pos ha, List.length_cons, takeWhile_at p r i (by simpa using hi) (fun t x ht hx => h1 (t + 1) x (by omega) (by simpa using hx)) (fun x hx => h2 x (by simpa using hx))]
theorem ltE_get {l : List Entry} (h : l.Pairwise ltE) {i j : Nat} {a b : Entry} (hij : i < j) (ha : l[i]? = some a) (hb : l[j]? = some b) : cmpB (nm a) (nm b) < 0 := by
  obtain ⟨h1, e1⟩ := List.getElem?_eq_some_iff.1 ha
  obtain ⟨h2, e2⟩ := List.getElem?_eq_some_iff.1 hb
  have := List.pairwise_iff_getElem.1 h i j h1 h2 hij
  rw [e1, e2] at this
  exact this
theorem cmp_lt_trans {a b c : List UInt8} (h1 : cmpB a b < 0) (h2 : cmpB b c < 0) : cmpB a c < 0 := ltB_tr a b c h1 h2
theorem cmp_ge_trans {a b c : List UInt8} (h1 : ¬ cmpB a c < 0) (h2 : cmpB a b < 0) : ¬ cmpB b c < 0 := fun h => h1 (ltB_tr a b c h2 h)
set_option maxRecDepth 100000 in
set_option maxHeartbeats 1000000 in
theorem search_any (A : Option Addr) (n c : Nat) (l : List Entry) (s : List UInt8) (ok : Nat → Prop) (w : World) (h : labR.rel w ok [.slice A n c] l) (hl : l.length ≤ 1000000) (hs : l.Pairwise ltE) (hsl : s.length ≤ 140737488355328) (E : Env w) :
    Calls Tryz.prog 89 #[.slice A n c, .string ⟨s.toArray⟩, .func (.func 86) #[] #[]] w fun e w' => e = .returned (.tuple #[.int .i64 (posL l s : Nat), .bool (foundL l s)]) ∧ Mod (fun _ => False) w w' := by
  obtain ⟨rfl, hcap, -, -, -, hrow⟩ := lab_row h
  have H0 := Lib.hid (And.intro hrow (And.intro hs (And.intro E (labR_each h))))
  clear h hrow hs E
  obtain ⟨z1, hz1⟩ : ∃ z, z = posL l s := ⟨_, rfl⟩
  obtain ⟨z2, hz2⟩ : ∃ z, z = foundL l s := ⟨_, rfl⟩
  rw [← hz1, ← hz2]
  have HZ := Lib.hid (And.intro hz1 hz2); clear hz1 hz2
  go_enter Tryz.func89, Tryz.ntmps89
  go_wp2_with fail
  go_loopg [9, 10] l.length (fun k s9 s10 wr => ∃ lo hi : Nat, s9 = .int .i64 lo ∧ s10 = .int .i64 hi ∧ lo ≤ hi ∧ hi ≤ l.length ∧ hi - lo ≤ k ∧ Hid ((∀ t x, t < lo → l[t]? = some x → cmpB (nm x) s < 0) ∧ (∀ t x, hi ≤ t → l[t]? = some x → ¬ cmpB (nm x) s < 0) ∧ Mod (fun _ => False) w wr))
  case atStart => exact ⟨0, l.length, rfl, rfl, Nat.zero_le _, Nat.le_refl _, by omega, ⟨fun t x ht => absurd ht (Nat.not_lt_zero _), fun t x h1 h2 => by have := (List.getElem?_eq_some_iff.1 h2).1; omega, .refl _ _⟩⟩
  case round =>
    obtain ⟨lo, hi, rfl, rfl, hlh, hin, hg, I⟩ := hrel
    by_cases hlt : lo < hi
    · obtain ⟨q, hq⟩ : ∃ q, q = (lo + hi) / 2 := ⟨_, rfl⟩
      have hqi : ((lo : Int) + (hi : Int)) / 2 = (q : Int) := by omega
      have hql : q < l.length := by omega
      have hqb : lo ≤ q ∧ q < hi := by omega
      have HQ := Lib.hid (And.intro hq hqb); clear hq hqb
      obtain ⟨d, m, hx⟩ : ∃ d m, l[q]? = some (ent d m) := by
        obtain ⟨d, m, e⟩ := ent_cases (l[q]'hql)
        exact ⟨d, m, by rw [← e]; exact List.getElem?_eq_getElem hql⟩
      obtain ⟨ad, rfl, -, hc0, hc1, hdl, -⟩ := row_ent (H0.out.1.step (w1 := wr) (ok1 := ok) (fun k hk hl => ⟨hk, I.out.2.2.block k hl id⟩)) hx
      have hat := fun W E => at_any d s m hdl hsl W E
      obtain ⟨z, hz⟩ : ∃ z, z = cmpB d s := ⟨_, rfl⟩
      simp only [← hz] at hat
      have HX := Lib.hid (And.intro hx (And.intro hat hz)); clear hx hat hz
      go_wp2_with fail
      refine (HX.out.2.1 wr (H0.out.2.2.1.mod0 I.out.2.2)).mono ?_
      rintro e w2 ⟨rfl, hm2⟩
      have HY := Lib.hid (I.out.2.2.trans hm2 (fun _ h => h.elim)); clear hm2 hc0 hc1
      by_cases hf : z < 0
      · have e1 : decide (z < 0) = true := by simp; omega
        have HF := Lib.hid hf; clear hf
        go_wp2_with fail
        go_roundg (hi - (q + 1))
        case measure => have := HQ.out; omega
        case rel =>
          refine ⟨q + 1, hi, by go_num, rfl, by have := HQ.out; omega, hin, Nat.le_refl _, ⟨fun t y ht hy => ?_, I.out.2.1, HY.out⟩⟩
          have hzz : cmpB (nm (ent d m)) s < 0 := by rw [nm_ent, ← HX.out.2.2]; exact HF.out
          by_cases htq : t = q
          · subst htq
            rw [HX.out.1] at hy
            cases hy
            exact hzz
          · exact cmp_lt_trans (ltE_get H0.out.2.1 (by omega : t < q) hy HX.out.1) hzz
      · have e1 : decide (z < 0) = false := by simp; omega
        have HF := Lib.hid hf; clear hf
        go_wp2_with fail
        go_roundg (q - lo)
        case measure => have := HQ.out; omega
        case rel =>
          refine ⟨lo, q, rfl, rfl, by have := HQ.out; omega, by omega, Nat.le_refl _, ⟨I.out.1, fun t y ht hy => ?_, HY.out⟩⟩
          have hzz : ¬ cmpB (nm (ent d m)) s < 0 := by rw [nm_ent, ← HX.out.2.2]; have := HF.out; omega
          by_cases htq : t = q
          · subst htq
            rw [HX.out.1] at hy
            cases hy
            have := hzz; omega
          · have := cmp_ge_trans hzz (ltE_get H0.out.2.1 (by omega : q < t) HX.out.1 hy); omega
    · obtain rfl : hi = lo := by omega
      have hp : posL l s = hi := takeWhile_at _ l hi hin (fun t x ht hx => by simpa using I.out.1 t x ht hx) (fun x hx => by simpa using I.out.2.1 hi x (Nat.le_refl _) hx)
      by_cases hn : hi < l.length
      · obtain ⟨d, m, hx⟩ : ∃ d m, l[hi]? = some (ent d m) := by
          obtain ⟨d, m, e⟩ := ent_cases (l[hi]'hn)
          exact ⟨d, m, by rw [← e]; exact List.getElem?_eq_getElem hn⟩
        obtain ⟨ad, rfl, -, hc0, hc1, hdl, -⟩ := row_ent (H0.out.1.step (w1 := wr) (ok1 := ok) (fun k hk hl => ⟨hk, I.out.2.2.block k hl id⟩)) hx
        have hat := fun W E => at_any d s m hdl hsl W E
        obtain ⟨z, hz⟩ : ∃ z, z = cmpB d s := ⟨_, rfl⟩
        simp only [← hz] at hat
        have hfd : foundL l s = (z == 0) := by
          unfold foundL
          rw [hp, hx]
          show (nm (ent d m) == s) = (z == 0)
          rw [nm_ent, hz]
          by_cases he : d = s
          · subst he; rw [cmpB_self, BEq.rfl, BEq.rfl]
          · have : cmpB d s ≠ 0 := fun h => he (cmpB_zero h)
            rw [beq_eq_false_iff_ne.2 he, beq_eq_false_iff_ne.2 this]
        have hz1 : z1 = hi := by rw [HZ.out.1, hp]
        have hz2 : z2 = (z == 0) := by rw [HZ.out.2, hfd]
        subst hz1 hz2
        have HX := Lib.hid hat; clear hx hat hz hp hfd
        go_wp2_with fail
        refine (HX.out wr (H0.out.2.2.1.mod0 I.out.2.2)).mono ?_
        rintro e w2 ⟨rfl, hm2⟩
        have HY := Lib.hid (I.out.2.2.trans hm2 (fun _ h => h.elim)); clear hm2 hc0 hc1
        go_wp2_with fail
        go_ret2
        exact ⟨rfl, HY.out⟩
      · have hz1 : z1 = hi := by rw [HZ.out.1, hp]
        have hz2 : z2 = false := by rw [HZ.out.2]; unfold foundL; rw [hp, List.getElem?_eq_none (by omega)]
        subst hz1 hz2
        clear hp
        go_wp2_with fail
        go_ret2
        exact ⟨rfl, I.out.2.2⟩
end Go.Proofs.YthhepnaanjicjaaGreatDoor

/- Layer 6, label: Make. -/
namespace Go.Proofs.YthhepnaanjicjaaGreatDoor
open Go.RowKit Go.Shelf
set_option linter.unusedVariables false
theorem step_pos (e : Entry) : ∀ l : List Entry, stepL l e = if foundL l (nm e) then l.set (posL l (nm e)) e else l.take (posL l (nm e)) ++ e :: l.drop (posL l (nm e))
  | [] => rfl
  | t :: ts => by
    have ih := step_pos e ts
    unfold stepL
    by_cases h1 : cmpB (nm t) (nm e) < 0
    · have hp : posL (t :: ts) (nm e) = posL ts (nm e) + 1 := by unfold posL; rw [List.takeWhile_cons, if_pos (by simpa using h1)]; rfl
      have hf : foundL (t :: ts) (nm e) = foundL ts (nm e) := by unfold foundL; rw [hp]; rfl
      rw [if_pos h1, hp, hf, ih]
      split <;> simp
    · have hp : posL (t :: ts) (nm e) = 0 := by unfold posL; rw [List.takeWhile_cons, if_neg (by simpa using h1)]; rfl
      have hf : foundL (t :: ts) (nm e) = (nm t == nm e) := by unfold foundL; rw [hp]; rfl
      rw [if_neg h1, hp, hf]
      by_cases h2 : nm t = nm e
      · rw [if_pos h2]; simp [h2]
      · rw [if_neg h2]; simp [h2]
theorem step_len (l : List Entry) (e : Entry) : (stepL l e).length ≤ l.length + 1 := by
  rw [step_pos]
  split
  · rw [List.length_set]; omega
  · simp; omega
theorem raw_len (l : List Entry) : (rawL l).length ≤ l.length := by
  induction l using snoc_ind with
  | h0 => simp [rawL]
  | h1 l e ih =>
    rw [rawL_snoc]
    have := step_len (rawL l) e
    simp; omega
theorem pos_le (l : List Entry) (s : List UInt8) : posL l s ≤ l.length := by
  unfold posL
  exact (List.takeWhile_sublist _).length_le
theorem pos_found {l : List Entry} {s : List UInt8} (h : foundL l s = true) : posL l s < l.length := by
  unfold foundL at h
  by_cases hp : posL l s < l.length
  · exact hp
  · rw [List.getElem?_eq_none (by omega)] at h; cases h
theorem rel_free {w w1 : World} {ok ok1 : Nat → Prop} {cs : List Value} {x : Entry} (h : EntryR.rel w ok cs x) : EntryR.rel w1 ok1 cs x := by
  obtain ⟨rfl, h1, h2⟩ := EntryR_cells h
  exact EntryR_mk _ _ _ h1 h2
/-- an element of a row of the call's own is replaced -/
theorem own_setE {w w1 : World} {base g c i : Nat} {S : Nat → Prop} {l : List Entry} {e : Entry} {cs cur : List Value} (hbg : base ≤ g) (hnc : l.length ≤ c) (hcm : c ≤ maxLen) (hcur : cur.length = c * 2) (hi : i < l.length)
    (hrel : ∀ j x, l[j]? = some x → EntryR.rel w (fun k => S k ∧ k ≠ g) (((cur.take (l.length * 2)).drop (j * 2)).take 2) x) (he : EntryR.rel w (fun k => S k ∧ k ≠ g) cs e) (hg : w1.heap[g]? = some (.cells (laid cur (i * 2) cs).toArray 63 (0, 0))) :
    OwnR EntryR 63 w1 base S (.slice (some ⟨g, 0, none⟩) l.length c) (l.set i e) := by
  have hcs : cs.length = 2 := EntryR.len he
  have hlen : (l.set i e).length = l.length := List.length_set
  have hli : i * 2 + 2 ≤ l.length * 2 := by omega
  have hT : laid cur (i * 2) cs = laid (cur.take (l.length * 2)) (i * 2) cs ++ cur.drop (l.length * 2) := by
    unfold laid
    rw [List.take_take, show min (i * 2) (l.length * 2) = i * 2 by omega, hcs, List.append_assoc, List.append_assoc, List.append_assoc]
    congr 2
    have := List.take_append_drop (l.length * 2 - (i * 2 + 2)) (cur.drop (i * 2 + 2))
    rw [List.drop_drop, show i * 2 + 2 + (l.length * 2 - (i * 2 + 2)) = l.length * 2 by omega] at this
    rw [List.drop_take]
    exact this.symm
  have := own_mk (R := EntryR) (e := 63) (w := w1) (base := base) (S := S) (c := c) (xs := l.set i e) (cells := laid (cur.take (l.length * 2)) (i * 2) cs) (sp := cur.drop (l.length * 2)) hbg (by rw [hg, hT])
    (by rw [hlen]; show _ = l.length * 2; unfold laid; simp only [List.length_append, List.length_take, List.length_drop, hcs]; omega)
    (by show _ = c * 2; rw [← hT]; unfold laid; simp only [List.length_append, List.length_take, List.length_drop, hcs]; omega) (by rw [hlen]; exact hnc) hcm (fun j x hj => ?_)
  · rw [hlen] at this; exact this
  · show EntryR.rel w1 _ (((laid (cur.take (l.length * 2)) (i * 2) cs).drop (j * 2)).take 2) x
    have htl : ((cur.take (l.length * 2)).take (i * 2)).length = i * 2 := by rw [List.length_take, List.length_take]; omega
    have hjl := (List.getElem?_eq_some_iff.1 hj).1
    rw [hlen] at hjl
    by_cases hji : j = i
    · subst hji
      rw [List.getElem?_set_self (by omega)] at hj
      cases hj
      unfold laid
      rw [List.append_assoc, List.drop_left' htl, List.take_left' hcs]
      exact rel_free he
    · rw [List.getElem?_set_ne (by omega)] at hj
      have h0 := hrel j x hj
      have : ((laid (cur.take (l.length * 2)) (i * 2) cs).drop (j * 2)).take 2 = ((cur.take (l.length * 2)).drop (j * 2)).take 2 := by
        unfold laid
        obtain ⟨L, hL⟩ : ∃ L, L = cur.take (l.length * 2) := ⟨_, rfl⟩
        rw [← hL] at htl ⊢
        by_cases hlt : j < i
        · rw [List.append_assoc, List.drop_append_of_le_length (by omega), List.take_append_of_le_length (by rw [List.length_drop]; omega), List.drop_take, List.take_take]
          congr 1
          omega
        · have htl2 : (L.take (i * 2) ++ cs).length = i * 2 + 2 := by rw [List.length_append, htl, hcs]
          rw [show j * 2 = (i * 2 + 2) + (j * 2 - (i * 2 + 2)) by omega, ← List.drop_drop, List.drop_left' htl2, hcs, List.drop_drop]
      rw [this]
      exact rel_free h0
set_option maxRecDepth 100000 in
set_option maxHeartbeats 4000000 in
theorem make_any (A : Option Addr) (n c : Nat) (l : List Entry) (ok : Nat → Prop) (w : World) (h : labR.rel w ok [.slice A n c] l) (hl : l.length ≤ 1000000) (E : Env w) :
    Calls Tryz.prog 47 #[.slice A n c] w fun r w' => ∃ A' c', r = .returned (.tuple #[.slice A' (resM l).1.length c', .int .i64 (resM l).2]) ∧ OwnR EntryR 63 w' w.heap.size (fun _ => False) (.slice A' (resM l).1.length c') (resM l).1 ∧ Mod (fun _ => False) w w' := by
  obtain ⟨rfl, hcap, -, hbig, -, hrow⟩ := lab_row h
  obtain ⟨z, hz⟩ : ∃ z, z = resM l := ⟨_, rfl⟩
  rw [← hz]
  have H0 := Lib.hid (And.intro hrow (And.intro hz E)); clear hrow hz E h
  go_enter Tryz.func47, Tryz.ntmps47
  go_wp2_with fail
  go_loopg [4, 11] l.length (fun f so si wr => ∃ (i : Nat) (A' : Option Addr) (c' : Nat), si = .int .i64 i ∧ so = .slice A' (rawL (l.take i)).length c' ∧ i + f = l.length ∧ makeE (l.take i) = 0 ∧ OwnR EntryR 63 wr w.heap.size (fun _ => False) (.slice A' (rawL (l.take i)).length c') (rawL (l.take i)) ∧ Mod (fun _ => False) w wr)
  case atStart => exact ⟨0, none, 0, rfl, rfl, by omega, rfl, OwnR.nil _ _ _ _ _, .refl _ _⟩
  case round =>
    obtain ⟨i, Ao, co, rfl, rfl, hi, hme, hO, hmod⟩ := hrel
    obtain ⟨out, hout⟩ : ∃ out, out = rawL (l.take i) := ⟨_, rfl⟩
    have hol : out.length ≤ i := by rw [hout]; have := raw_len (l.take i); rw [List.length_take] at this; omega
    have hasc : out.Pairwise ltE := by rw [hout]; exact (raw_spec _).1
    by_cases hlt : i < l.length
    · obtain ⟨d, m, hx⟩ : ∃ d m, l[i]? = some (ent d m) := by
        obtain ⟨d, m, e⟩ := ent_cases l[i]
        exact ⟨d, m, by rw [← e]; simp [hlt]⟩
      obtain ⟨ad, rfl, -, hc0, hc1, hdl, hmr⟩ := row_ent (H0.out.1.step (w1 := wr) (ok1 := ok) (fun k hk hl => ⟨hk, hmod.block k hl id⟩)) hx
      have htk : l.take (i + 1) = l.take i ++ [ent d m] := by rw [List.take_add_one, hx]; rfl
      have hspl : l = l.take i ++ (ent d m :: l.drop (i + 1)) := by
        have := List.take_append_drop i l
        rw [List.drop_eq_getElem_cons hlt] at this
        rw [List.getElem?_eq_getElem hlt] at hx
        rw [Option.some.inj hx] at this
        exact this.symm
      have hbad : ∀ v, makeE (ent d m :: l.drop (i + 1)) = v → makeE l = v := fun v hv => by rw [hspl, makeE_append, if_pos hme, hv]
      rw [← hout] at hO
      have hnext : rawL (l.take (i + 1)) = stepL out (ent d m) := by rw [htk, rawL_snoc, hout]
      rw [← hout]
      have HX := Lib.hid (And.intro hi (And.intro hme (And.intro hO (And.intro hmod (And.intro htk (And.intro hbad hnext))))))
      clear hi hme hO hmod htk hbad hnext hspl hx hout
      go_wp2_with fail
      obtain ⟨W1, hW1⟩ : ∃ W1, W1 = wr.alloc (.cells #[.string ⟨d.toArray⟩, .int .i64 m] 63) := ⟨_, rfl⟩
      rw [← hW1]
      have hb1 : W1.heap[wr.heap.size]? = some (.cells #[.string ⟨d.toArray⟩, .int .i64 m] 63 (0, 0)) := by rw [hW1]; exact World.alloc_heap_new wr _
      have hm1 : Mod (fun _ => False) wr W1 := by rw [hW1]; exact (Mod.refl _ _).alloc _
      obtain ⟨g, hg⟩ : ∃ g, g = wr.heap.size := ⟨_, rfl⟩
      rw [← hg] at hb1 ⊢
      have hright := right_any d hdl W1 (H0.out.2.2.mod0 (tr0 HX.out.2.2.2.1 hm1))
      have H1 := Lib.hid (And.intro hb1 (And.intro hm1 hg)); clear hb1 hm1 hW1 hc0 hc1 hg
      cases hb : rightB d with
      | false =>
        rw [hb] at hright
        have hz : z = ([], 20) := by
          rw [H0.out.2.1]
          unfold resM
          rw [HX.out.2.2.2.2.2.1 20 (by unfold makeE; rw [nm_ent, if_pos hb]), if_pos (by decide)]
        have HR := Lib.hid hright
        subst hz
        clear hright hb
        refine HR.out.mono ?_
        rintro r w2 ⟨rfl, hm2⟩
        have HM := Lib.hid (tr0 (tr0 HX.out.2.2.2.1 H1.out.2.1) hm2); clear hm2
        go_wp2_with fail
        go_ret2
        exact ⟨none, 0, rfl, OwnR.nil _ _ _ _ _, HM.out⟩
      | true =>
        rw [hb] at hright
        have HR := Lib.hid (And.intro hright hb)
        clear hright hb
        refine HR.out.1.mono ?_
        rintro r w2 ⟨rfl, hm2⟩
        have hb2 := (hm2.block g (lt_of_blk H1.out.1) id).trans H1.out.1
        have k0 : w2.cell? ⟨g, 0, none⟩ = some (.string ⟨d.toArray⟩) := by rw [Lib.cell_of_heap hb2]; rfl
        have k1 : w2.cell? ⟨g, 1, none⟩ = some (.int .i64 m) := by rw [Lib.cell_of_heap hb2]; rfl
        have H2 := Lib.hid (And.intro hb2 (And.intro (tr0 H1.out.2.1 hm2) (tr0 (tr0 HX.out.2.2.2.1 H1.out.2.1) hm2))); clear hm2 hb2
        by_cases hm : m < 0 ∨ 3 < m
        · have hz : z = ([], 21) := by
            rw [H0.out.2.1]
            unfold resM
            rw [HX.out.2.2.2.2.2.1 21 (by unfold makeE; rw [nm_ent, lev_ent, HR.out.2, if_neg (by decide), if_pos hm]), if_pos (by decide)]
          subst hz
          by_cases hm0 : m < 0
          · have e1 : decide (m < 0) = true := by simp [hm0]
            clear hm hm0
            go_wp2_with fail
            go_ret2
            exact ⟨none, 0, rfl, OwnR.nil _ _ _ _ _, H2.out.2.2⟩
          · have e1 : decide (m < 0) = false := by simp; omega
            have e2 : decide (4 ≤ m) = true := by simp; omega
            clear hm hm0
            go_wp2_with fail
            go_ret2
            exact ⟨none, 0, rfl, OwnR.nil _ _ _ _ _, H2.out.2.2⟩
        have e1 : decide (m < 0) = false := by simp; omega
        have e2 : decide (4 ≤ m) = false := by simp; omega
        have hO2 := HX.out.2.2.1.mod H2.out.2.1 (fun _ _ => id) (fun _ _ _ => id)
        have hread := hO2.reads (bytes := 24) (by omega)
        have hsearch := search_any Ao out.length co out d _ w2 hread (by omega) hasc hdl (H0.out.2.2.mod0 H2.out.2.2)
        have HH := Lib.hid (And.intro hO2 (show makeE (l.take (i + 1)) = 0 by rw [HX.out.2.2.2.2.1, makeE_append, if_pos HX.out.2.1]; unfold makeE makeE; rw [nm_ent, lev_ent, HR.out.2, if_neg (by decide), if_neg hm]))
        clear hm hO2 hread
        go_wp2_with fail
        refine hsearch.mono ?_
        rintro r w3 ⟨rfl, hm3⟩
        have hb3 := (hm3.block g (lt_of_blk H2.out.1) id).trans H2.out.1
        have q0 : w3.cell? ⟨g, 0, none⟩ = some (.string ⟨d.toArray⟩) := by rw [Lib.cell_of_heap hb3]; rfl
        have q1 : w3.cell? ⟨g, 1, none⟩ = some (.int .i64 m) := by rw [Lib.cell_of_heap hb3]; rfl
        have hO3 := HH.out.1.mod hm3 (fun _ _ => id) (fun _ _ _ => id)
        have hrelE : EntryR.rel w3 (fun k => False ∧ some k ≠ (Value.slice Ao out.length co).ownBlock) [.string ⟨d.toArray⟩, .int .i64 m] (ent d m) := EntryR_mk _ _ (ent d m) (by rw [show (ent d m).cat.size = d.length from mkStr_size d]; exact hdl) hmr
        obtain ⟨pp, hpp⟩ : ∃ pp, pp = posL out d := ⟨_, rfl⟩
        have hple : pp ≤ out.length := by rw [hpp]; exact pos_le out d
        have hstep := step_pos (ent d m) out
        rw [nm_ent, ← hpp] at hstep
        rw [← hpp]
        have hgs := lt_of_blk hb3
        have hm03 := tr0 H2.out.2.2 hm3
        have hsz3 := hm03.size
        cases hf : foundL out d with
        | true =>
          have hpl : pp < out.length := by rw [hpp]; exact pos_found hf
          rw [hf, if_pos rfl] at hstep
          obtain ⟨gg, cur, rfl, -, hbg, hgg, hnc, hcm, hcur, hrel, hone⟩ := own_blk hO3 (by intro h; subst h; simp at hpl)
          have H3 := Lib.hid (And.intro hbg (And.intro hgg (And.intro hnc (And.intro hcm (And.intro hcur (And.intro hrel (And.intro hrelE (And.intro hstep hm03))))))))
          have hfit : pp * 2 + [Value.string ⟨d.toArray⟩, .int .i64 m].length ≤ cur.length := by have : cur.length = co * 2 := hcur; simp; omega
          have HF := Lib.hid hfit
          clear hbg hgg hnc hcm hcur hrel hrelE hstep hm03 hO3 hb3 hfit hf hpp hm3 k0 k1 hsearch
          go_wp2_with (refine wpList_store_at rfl 63 _ _ rfl gg (pp * 2) 63 cur [.string ⟨d.toArray⟩, .int .i64 m] H3.out.2.1 rfl rfl Tryz.info_ent1 HF.out (EntryR.one H3.out.2.2.2.2.2.2.1) ?_)
          intro w4 hg4 hm4
          have H4 := Lib.hid (And.intro hg4 hm4); clear hg4 hm4
          go_wp2_with fail
          go_roundg (gk - 1)
          case measure => have := HX.out.1; omega
          case rel =>
            obtain ⟨hbg, hgg, hnc, hcm, hcur, hrel, hrelE, hstep, hm03⟩ := H3.out
            have hset := own_setE (w1 := w4) (e := ent d m) hbg hnc hcm hcur hpl hrel (rel_free hrelE) H4.out.1
            refine ⟨i + 1, some ⟨gg, 0, none⟩, co, by go_num, ?_, by have := HX.out.1; omega, HH.out.2, ?_, hm03.trans H4.out.2 (fun k hk => .inr (by rw [hk]; exact hbg))⟩
            · rw [HX.out.2.2.2.2.2.2, hstep, List.length_set]
            · rw [HX.out.2.2.2.2.2.2, hstep, List.length_set]; exact hset
        | false =>
          rw [hf, if_neg (by decide)] at hstep
          have H3 := Lib.hid (And.intro hO3 (And.intro hrelE (And.intro hstep (And.intro hm03 hb3))))
          clear hO3 hrelE hstep hm03 hb3 hf hpp hm3 k0 k1 hsearch
          go_wp2_with (refine wpList_slice1_agg rfl 22 63 _ rfl Tryz.underlying22 zeroEnt.toArray [.string ⟨d.toArray⟩, .int .i64 m] Tryz.info_ent2 (by decide) rfl rfl ?_)
          obtain ⟨W4, hW4⟩ : ∃ W4, W4 = w3.alloc (.cells #[.string ⟨d.toArray⟩, .int .i64 m] 63) := ⟨_, rfl⟩
          have hm4 : Mod (fun _ => False) w3 W4 := by rw [hW4]; exact (Mod.refl _ _).alloc _
          have hb4 : W4.heap[w3.heap.size]? = some (.cells #[.string ⟨d.toArray⟩, .int .i64 m] 63 (0, 0)) := by rw [hW4]; exact World.alloc_heap_new w3 _
          go_wp2_with fail
          rw [← hW4]
          have hO4 := H3.out.1.mod hm4 (fun _ _ => id) (fun _ _ _ => id)
          have hne : some w3.heap.size ≠ (Value.slice Ao out.length co).ownBlock := fun e => by
            obtain ⟨cells, hown, _⟩ := H3.out.1
            have := (own_lt hown _ e.symm).2
            omega
          refine (insert_any Ao out.length co pp out (ent d m) w3.heap.size [.string ⟨d.toArray⟩, .int .i64 m] w.heap.size (fun _ => False) W4 hO4 rfl hple (by omega) (by have := hm4.size; omega) hb4 (rel_free H3.out.2.1) hne (fun _ h => h.elim)).mono ?_
          rintro r w5 ⟨A5, c5, rfl, hO5, hm5⟩
          have H5 := Lib.hid (And.intro hO5 (And.intro (tr0 H3.out.2.2.2.1 hm4) hm5)); clear hO5 hm4 hm5 hW4 hb4 hO4 hne q0 q1
          go_wp2_with fail
          go_roundg (gk - 1)
          case measure => have := HX.out.1; omega
          case rel =>
            have hlen : (out.take pp ++ ent d m :: out.drop pp).length = out.length + 1 := by simp; omega
            refine ⟨i + 1, A5, c5, by go_num, ?_, by have := HX.out.1; omega, HH.out.2, ?_, H5.out.2.1.trans H5.out.2.2 (fun k hk => .inr ?_)⟩
            · rw [HX.out.2.2.2.2.2.2, H3.out.2.2.1, hlen]
            · rw [HX.out.2.2.2.2.2.2, H3.out.2.2.1, hlen]; exact H5.out.1
            · obtain ⟨cells, hown, _⟩ := H3.out.1
              exact (own_lt hown _ hk).1
    · have hie : l.take i = l := List.take_of_length_le (by omega)
      rw [← hout] at hO ⊢
      rw [hie] at hme hout
      have hdel := deleteMK_any Ao out.length co out 0 (fun e => e.level == 1) w.heap.size (fun _ => False) wr hO rfl (by omega) (fun W _ d m _ => makeC_any d m W)
      have hfil : (out.filter fun x => !(fun e => e.level == 1) x) = makeL l := by
        rw [← raw_make hme, ← hout]
        congr 1
        funext x
        by_cases h : x.level = 1 <;> simp [h]
      rw [hfil] at hdel
      have hz : z = if 8 < (makeL l).length then ([], 13) else (makeL l, 0) := by
        rw [H0.out.2.1]; unfold resM; rw [hme, if_neg (by decide)]
      have hbase : ∀ k, (Value.slice Ao out.length co).ownBlock = some k → w.heap.size ≤ k := fun k hk => by
        obtain ⟨cells, hown, _⟩ := hO
        exact (own_lt hown _ hk).1
      have HX := Lib.hid (And.intro hmod (And.intro hdel hbase))
      clear hmod hdel hbase hfil hO hi hie hme hout
      go_wp2_with fail
      refine HX.out.2.1.mono ?_
      rintro r w2 ⟨A2, c2, rfl, -, hO2, hm2⟩
      have H2 := Lib.hid (And.intro hO2 (HX.out.1.trans hm2 (fun k hk => .inr (HX.out.2.2 k hk)))); clear hO2 hm2
      by_cases h8 : 8 < (makeL l).length
      · rw [if_pos h8] at hz
        subst hz
        have e1 : decide ((8 : Int) < ((makeL l).length : Int)) = true := by simp; omega
        clear h8
        go_wp2_with fail
        go_ret2
        exact ⟨none, 0, rfl, OwnR.nil _ _ _ _ _, H2.out.2⟩
      · rw [if_neg h8] at hz
        subst hz
        have e1 : decide ((8 : Int) < ((makeL l).length : Int)) = false := by simp; omega
        clear h8
        go_wp2_with fail
        go_ret2
        exact ⟨A2, c2, rfl, H2.out.1, H2.out.2⟩
end Go.Proofs.YthhepnaanjicjaaGreatDoor

/- Rows: slices.Grow of nil, slices.Concat of two. -/
namespace Go.Proofs.YthhepnaanjicjaaGreatDoor
open Go.RowKit Go.Shelf
set_option linter.unusedVariables false
set_option maxRecDepth 100000 in
set_option maxHeartbeats 1000000 in
theorem growNilE_any (k : Nat) (hk : k ≤ 4000000) (w : World) :
    Calls Tryz.prog 99 #[.slice none 0 0, .int .i64 (k : Nat)] w fun r w' => ∃ A c, r = .returned (.slice A 0 c) ∧ w'.ownsRow w.heap.size 63 2 (.slice A 0 c) 0 [] ∧ Mod (fun _ => False) w w' := by
  go_enter Tryz.func99, Tryz.ntmps99
  by_cases h0 : k = 0
  · subst h0
    go_wp2_with fail
    go_ret
    exact ⟨none, 0, rfl, World.ownsRow_nil _ _ _ _, .refl _ _⟩
  have e1 : decide (0 < k) = true := by simp; omega
  obtain ⟨i0, hi, hzz⟩ := Option.map_eq_some_iff.1 Tryz.info_ent3
  simp only [Prod.mk.injEq] at hzz
  have hrun := fun ty => Lib.run_append_nil_zeros (P := Tryz.prog) w 23 3 ty 63 i0 (.agg zeroEnt.toArray) .i64 .i64 Tryz.underlying23 Tryz.underlying3 hi hzz.1 k (by omega) (by omega) (by omega) (by rw [hzz.2.2]; omega)
  have hge := grownCap_ge w k 0 63
  have hcm := grownCap_le_maxLen w k 0 63 (by simp only [maxLen]; omega)
  obtain ⟨cp, hcp⟩ : ∃ cp, cp = grownCap w k 0 63 := ⟨_, rfl⟩
  rw [← hcp] at hge hcm
  simp only [← hcp] at hrun
  obtain ⟨Z, hZ⟩ : ∃ Z, Z = Builtin.zeroCells ((.agg zeroEnt.toArray) : Value).cells k ++ Builtin.zeroCells ((.agg zeroEnt.toArray) : Value).cells (cp - k) := ⟨_, rfl⟩
  simp only [← hZ] at hrun
  have hZs : Z.size = cp * 2 := by
    have hz2 : ((.agg zeroEnt.toArray) : Value).cells.size = 2 := rfl
    rw [hZ, Array.size_append, size_zeroCells, size_zeroCells, hz2, ← Nat.add_mul]
    congr 1
    omega
  clear hZ
  obtain ⟨W1, hW1⟩ : ∃ W1, W1 = w.drew.alloc (.cells Z 63) := ⟨_, rfl⟩
  simp only [← hW1] at hrun
  have hown : W1.ownsRow w.heap.size 63 2 (.slice (some ⟨w.heap.size, 0, none⟩) 0 cp) 0 [] :=
    ⟨rfl, .inr ⟨w.heap.size, cp, Z, rfl, Nat.le_refl _, by rw [hW1]; exact heap_alloc_new w.drew _, by omega, hcm, hZs, by simp⟩⟩
  have hmd : Mod (fun _ => False) w W1 := by rw [hW1]; exact (Mod.refl _ w).drew.alloc _
  have HR := Lib.hid hrun
  have H1 := Lib.hid (And.intro hown hmd); clear hown hmd hrun hcm hW1 hzz hcp hi hZs
  go_wp2_with (at_builtin; refine Lib.wpList_append_run _ rfl _ _ _ _ rfl _ _ rfl rfl _ _ (HR.out _) ?_)
  go_wp2_with fail
  go_ret
  exact ⟨_, cp, rfl, H1.out.1, H1.out.2⟩
set_option maxRecDepth 100000 in
set_option maxHeartbeats 2000000 in
theorem concatE_any (A : Option Addr) (n c : Nat) (A2 : Option Addr) (n2 c2 : Nat) (a b : List Entry) (ok ok2 : Nat → Prop) (gx : Nat) (w : World) (h : labR.rel w ok [.slice A n c] a) (h2 : labR.rel w ok2 [.slice A2 n2 c2] b) (hl : a.length ≤ 1000000) (hl2 : b.length ≤ 1000000)
    (h0 : w.cell? ⟨gx, 0, none⟩ = some (.slice A n c)) (h1 : w.cell? ⟨gx, 1, none⟩ = some (.slice A2 n2 c2)) :
    Calls Tryz.prog 58 #[.slice (some ⟨gx, 0, none⟩) 2 2] w fun r w' => ∃ A' c', r = .returned (.slice A' (a.length + b.length) c') ∧ OwnR EntryR 63 w' w.heap.size (fun k => (ok k ∨ ok2 k) ∧ k < w.heap.size) (.slice A' (a.length + b.length) c') (a ++ b) ∧ Mod (fun _ => False) w w' := by
  obtain ⟨rfl, -, -, -, hnil, hrow⟩ := lab_row h
  obtain ⟨rfl, -, -, -, hnil2, hrow2⟩ := lab_row h2
  have e1 : ((0 : Int) + (a.length : Int)) = (a.length : Int) := by omega
  have HN := Lib.hid (And.intro h0 (And.intro h1 (And.intro (Rd.bound h) (Rd.bound h2)))); clear h h2 hrow hrow2 hnil hnil2
  have hgx := cell_lt h0
  go_enter Tryz.func58, Tryz.ntmps58
  go_wp2_with fail
  refine wp_loop_rounds 3 ?_
  rw [rounds_succ]
  go_wp2_with fail
  rw [rounds_succ]
  go_wp2_with fail
  rw [rounds_succ]
  go_wp2_with fail
  have hgr := growNilE_any (a.length + b.length) (by omega) w
  rw [Int.natCast_add] at hgr
  refine hgr.mono ?_
  rintro r w1 ⟨A1, c1, rfl, ho1, hm1⟩
  have k0 := (hm1.cell hgx id).trans h0
  have k1 := (hm1.cell hgx id).trans h1
  have hO1 : OwnR EntryR 63 w1 w.heap.size (fun k => (ok k ∨ ok2 k) ∧ k < w.heap.size) (.slice A1 0 c1) [] := ⟨[], ho1, fun j x hj => by simp at hj⟩
  have H1 := Lib.hid (And.intro hO1 (And.intro hm1 (And.intro (Rd.mod HN.out.2.2.1 hm1 (fun _ _ => id)) (Rd.mod HN.out.2.2.2 hm1 (fun _ _ => id))))); clear ho1 hO1 hm1 h0 h1 hgr
  go_wp2_with fail
  refine wp_loop_rounds 3 ?_
  rw [rounds_succ]
  have hsz := H1.out.2.1.size
  go_wp2_with (at_builtin; refine append_all (R := EntryR) w.heap.size rfl _ _ 23 63 (.agg zeroEnt.toArray) 24 rfl Tryz.underlying23 Tryz.info_ent3 rfl (.slice A1 0 c1) [] a (fun k => (ok k ∨ ok2 k) ∧ k < w.heap.size) A c rfl rfl H1.out.1 ?hy ?hA hsz ?hl (by decide) ?_)
  case hy =>
    obtain ⟨-, -, -, -, -, hrow⟩ := lab_row H1.out.2.2.1
    exact Rd.RowOf.weak <| hrow.step fun k hk hlt => ⟨⟨⟨.inl hk.1, hk.2⟩, fun e => by
      obtain ⟨cells, hown, _⟩ := H1.out.1
      have := (own_lt hown k e.symm).1
      have := hk.2
      omega⟩, rfl⟩
  case hA => exact (lab_row H1.out.2.2.1).2.2.2.2.1
  case hl => simp only [List.length_nil]; omega
  intro A3 c3 w3 hO3 hm3 hn3
  have hm13 : Mod (fun _ => False) w w3 := H1.out.2.1.trans hm3 (fun k hk => .inr (by
    obtain ⟨cells, hown, _⟩ := H1.out.1
    exact (own_lt hown k hk).1))
  have q1 : w3.cell? ⟨gx, 1, none⟩ = some (.slice A2 b.length c2) := (hm13.cell hgx id).trans HN.out.2.1
  have H3 := Lib.hid (And.intro hO3 (And.intro hm13 (Rd.mod HN.out.2.2.2 hm13 (fun _ _ => id)))); clear hO3 hm3 hn3 hm13 k0 k1
  go_wp2_with fail
  rw [rounds_succ]
  have hsz3 := H3.out.2.1.size
  go_wp2_with (at_builtin; refine append_all (R := EntryR) w.heap.size rfl _ _ 23 63 (.agg zeroEnt.toArray) 24 rfl Tryz.underlying23 Tryz.info_ent3 rfl (.slice A3 a.length c3) a b (fun k => (ok k ∨ ok2 k) ∧ k < w.heap.size) A2 c2 rfl rfl H3.out.1 ?hy ?hA hsz3 ?hl (by decide) ?_)
  case hy =>
    obtain ⟨-, -, -, -, -, hrow⟩ := lab_row H3.out.2.2
    exact Rd.RowOf.weak <| hrow.step fun k hk hlt => ⟨⟨⟨.inr hk.1, hk.2⟩, fun e => by
      obtain ⟨cells, hown, _⟩ := H3.out.1
      have := (own_lt hown k e.symm).1
      have := hk.2
      omega⟩, rfl⟩
  case hA => exact (lab_row H3.out.2.2).2.2.2.2.1
  case hl => omega
  intro A4 c4 w4 hO4 hm4 hn4
  have hm14 : Mod (fun _ => False) w w4 := H3.out.2.1.trans hm4 (fun k hk => .inr (by
    obtain ⟨cells, hown, _⟩ := H3.out.1
    exact (own_lt hown k hk).1))
  have H4 := Lib.hid (And.intro hO4 hm14); clear hO4 hm4 hn4 hm14 q1
  go_wp2_with fail
  rw [rounds_succ]
  go_wp2_with fail
  go_ret
  exact ⟨A4, c4, rfl, H4.out.1, H4.out.2⟩
end Go.Proofs.YthhepnaanjicjaaGreatDoor

/- Rows of strings of the call's own, read as data; what Sort answers of them. -/
namespace Go.Proofs.YthhepnaanjicjaaGreatDoor
open Go.RowKit Go.Shelf
set_option linter.unusedVariables false
theorem own_strs {w : World} {base : Nat} {e : TypeId} {v : Value} {xs : List (List UInt8)} (h : w.ownsRow base e 1 v xs.length (scells xs)) (hr : ∀ x ∈ xs, x.length ≤ 140737488355328) (S : Nat → Prop) : OwnR Rd.string e w base S v (xs.map mkStr) := by
  refine ⟨scells xs, by rw [List.length_map]; exact h, fun j x hj => ?_⟩
  rw [List.getElem?_map, Option.map_eq_some_iff] at hj
  obtain ⟨y, hy, rfl⟩ := hj
  refine ⟨?_, by rw [mkStr_size]; exact hr y (List.mem_of_getElem? hy)⟩
  show ((scells xs).drop (j * 1)).take 1 = _
  rw [Nat.mul_one]
  have : (scells xs)[j]? = some (.string (mkStr y)) := by simp [scells, hy, encS, mkStr]
  have hlt := (List.getElem?_eq_some_iff.1 this).1
  rw [List.drop_eq_getElem_cons hlt]
  simp [(List.getElem?_eq_some_iff.1 this).2]
theorem reads_strs {w : World} {base : Nat} {e : TypeId} {v : Value} {xs : List (List UInt8)} (h : w.ownsRow base e 1 v xs.length (scells xs)) (hr : ∀ x ∈ xs, x.length ≤ 140737488355328) (hl : xs.length * 16 ≤ 140737488355328) : strsR.rel w (fun k => v.ownBlock = some k) [v] (xs.map mkStr) :=
  Rd.mono ((own_strs h hr (fun _ => False)).reads (bytes := 16) (by rw [List.length_map]; exact hl)) (fun _ hk => hk.elim False.elim id)
theorem map_back (xs : List (List UInt8)) : (xs.map mkStr).map (fun s => s.data.toList) = xs := by
  rw [List.map_map]
  exact (List.map_congr_left (fun x _ => mkStr_list x)).trans (List.map_id xs)
theorem sortS_idem (l : List (List UInt8)) : sortS (sortS l) = sortS l := by
  refine strict_unique ltB_irr ltB_tr (sortS_spec _).1 (sortS_spec l).1 fun x => ?_
  rw [(sortS_spec _).2, (sortS_spec l).2]
  exact ⟨fun h => h.1, fun h => ⟨h, h.2⟩⟩
theorem strsR_le {w : World} {ok : Nat → Prop} {cs : List Value} {xs : List ByteArray} (h : strsR.rel w ok cs xs) : ∀ x ∈ xs, x.size ≤ 140737488355328 := by
  obtain ⟨A, c, _, _, _, _, _, h6⟩ := h
  intro x hx
  obtain ⟨j, hj⟩ := List.getElem?_of_mem hx
  obtain ⟨_, _, _, _, hr⟩ := RowOf.strs h6 hj
  exact hr
theorem sortS_len (l : List (List UInt8)) : (sortS l).length ≤ l.length := by rw [← sortR_eq]; exact sortR_len l
theorem strs_lit (w : World) (T : TypeId) (ls : List ByteArray) (n : Nat) (hn : n = ls.length) (h : ∀ s ∈ ls, s.size ≤ 1000000) (hl : ls.length ≤ 1000) (h0 : 0 < ls.length) : strsR.rel (w.alloc (.cells (ls.map Value.string).toArray T)) (fun _ => True) [.slice (some ⟨w.heap.size, 0, none⟩) n n] ls := by
  subst hn
  refine ⟨_, _, rfl, Nat.le_refl _, by simp only [maxLen]; omega, by omega, by simp, .inr ⟨_, rfl, trivial, fun j x hj => ⟨_, ⟨rfl, by have := h x (List.mem_of_getElem? hj); omega⟩, fun i u hu => ?_⟩⟩⟩
  obtain rfl : i = 0 := by have := (List.getElem?_eq_some_iff.1 hu).1; simp at this; omega
  simp only [List.getElem?_cons_zero, Option.some.injEq] at hu
  subst hu
  rw [show (⟨w.heap.size, 0, none⟩ : Addr).add (j * Rd.string.sz + 0) = ⟨w.heap.size, j, none⟩ by unfold Addr.add; have e : j * Rd.string.sz + 0 = j := Nat.mul_one j; rw [e]; split <;> simp_all]
  rw [Lib.cell_of_heap (World.alloc_heap_new w _)]
  simp [hj]
theorem own_row {w : World} {base : Nat} {v : Value} {zs : List (List UInt8)} {T : TypeId} (h : w.ownsRow base T 1 v zs.length (scells zs)) {j : Nat} {x : List UInt8} (hj : zs[j]? = some x) : ∃ g c, v = .slice (some ⟨g, 0, none⟩) zs.length c ∧ w.cell? ⟨g, j, none⟩ = some (.string ⟨x.toArray⟩) :=
  own_at1 h (by simp [scells, hj, encS])
end Go.Proofs.YthhepnaanjicjaaGreatDoor

/- Layer 6, label: names. -/
namespace Go.Proofs.YthhepnaanjicjaaGreatDoor
open Go.RowKit Go.Shelf
set_option linter.unusedVariables false
theorem cells2 (w : World) (x y : Value) (T : TypeId) : (w.alloc (.cells #[x, y] T)).cell? ⟨w.heap.size, 0, none⟩ = some x ∧ (w.alloc (.cells #[x, y] T)).cell? ⟨w.heap.size, 1, none⟩ = some y := by
  constructor <;> (rw [Lib.cell_of_heap (World.alloc_heap_new w _)]; rfl)
set_option maxRecDepth 100000 in
set_option maxHeartbeats 2000000 in
theorem names_any (A : Option Addr) (n c : Nat) (A2 : Option Addr) (n2 c2 : Nat) (a b : List Entry) (ok ok2 : Nat → Prop) (w : World) (h : labR.rel w ok [.slice A n c] a) (h2 : labR.rel w ok2 [.slice A2 n2 c2] b) (hl : a.length ≤ 1000) (hl2 : b.length ≤ 1000) (E : Env w) :
    Calls Tryz.prog 80 #[.slice A n c, .slice A2 n2 c2] w fun r w' => ∃ A' c', r = .returned (.slice A' (namesL a b).length c') ∧ w'.ownsRow w.heap.size 9 1 (.slice A' (namesL a b).length c') (namesL a b).length (scells (namesL a b)) ∧ Mod (fun _ => False) w w' := by
  obtain ⟨W1, hW1⟩ : ∃ W1, W1 = w.alloc (.cells #[.slice A n c, .slice A2 n2 c2] 23) := ⟨_, rfl⟩
  have hm1 : Mod (fun _ => False) w W1 := by rw [hW1]; exact (Mod.refl _ _).alloc _
  obtain ⟨k0, k1⟩ := cells2 w (.slice A n c) (.slice A2 n2 c2) 23
  rw [← hW1] at k0 k1
  have hcc := concatE_any A n c A2 n2 c2 a b _ _ w.heap.size W1 (Rd.mod (Rd.bound h) hm1 (fun _ _ => id)) (Rd.mod (Rd.bound h2) hm1 (fun _ _ => id)) (by omega) (by omega) k0 k1
  have heach : ∀ e ∈ a ++ b, (nm e).length ≤ 140737488355328 := fun e he => by
    rcases List.mem_append.1 he with he | he
    · exact (labR_each h e he).1
    · exact (labR_each h2 e he).1
  obtain ⟨rfl, -⟩ := lab_row h
  obtain ⟨rfl, -⟩ := lab_row h2
  clear k0 k1 h h2
  obtain ⟨l, hle⟩ : ∃ l, l = a ++ b := ⟨_, rfl⟩
  have hll : l.length = a.length + b.length := by rw [hle, List.length_append]
  have hnl : namesL a b = sortS (l.map nm) := by unfold namesL; rw [hle]
  rw [hnl]
  rw [← hle] at hcc heach
  rw [← hll] at hcc
  have hlb : l.length ≤ 2000 := by omega
  obtain ⟨z, hz⟩ : ∃ z, z = sortS (l.map nm) := ⟨_, rfl⟩
  rw [← hz]
  have H0 := Lib.hid (And.intro hm1 (And.intro E (And.intro hz heach))); clear hm1 E hle hll hnl hz heach
  go_enter Tryz.func80, Tryz.ntmps80
  go_wp2_with fail
  rw [← hW1]
  refine hcc.mono ?_
  rintro r w2 ⟨A3, c3, rfl, hO, hm2⟩
  have hread := (lab_row (hO.reads (bytes := 24) (by omega))).2.2.2.2.2
  have H2 := Lib.hid (And.intro (tr0 H0.out.1 hm2) hread); clear hO hm2 hread hcc hW1
  go_wp2_with fail
  go_loopg [5, 13] l.length (fun f so si wr => ∃ (i : Nat), si = .int .i64 i ∧ i + f = l.length ∧ wr.ownsRow w2.heap.size 9 1 so i (scells ((l.take i).map nm)) ∧ Mod (fun _ => False) w wr ∧ Mod (fun k => w2.heap.size ≤ k) w2 wr)
  case atStart => exact ⟨0, rfl, by omega, World.ownsRow_nil _ _ _ _, H2.out.1, .refl _ _⟩
  case round =>
    obtain ⟨i, rfl, hi, ho, hmod, hmod2⟩ := hrel
    obtain ⟨Ao, co, rfl⟩ := own_slice ho
    by_cases hlt : i < l.length
    · obtain ⟨d, m, hx⟩ : ∃ d m, l[i]? = some (ent d m) := by
        obtain ⟨d, m, e⟩ := ent_cases l[i]
        exact ⟨d, m, by rw [← e]; simp [hlt]⟩
      obtain ⟨ad, rfl, -, hc0, hc1, hdl, -⟩ := row_ent (H2.out.2.step (w1 := wr) (ok1 := fun _ => True) (fun k hk hl => ⟨trivial, hmod2.block k hl (by omega)⟩)) hx
      have htk : scells ((l.take (i + 1)).map nm) = scells ((l.take i).map nm) ++ [encS d] := by rw [List.take_add_one, hx, List.map_append, scells_app]; simp [scells, nm_ent]
      have hlen : (scells ((l.take i).map nm)).length = i := by rw [scells_len, List.length_map, List.length_take]; omega
      obtain ⟨sc, hsc⟩ : ∃ sc, sc = scells ((l.take i).map nm) := ⟨_, rfl⟩
      rw [← hsc] at ho htk hlen
      have hcs : ∀ j u, [Value.string ⟨d.toArray⟩, .int .i64 m][j]? = some u → wr.cell? ((ad.add (i * 2)).add j) = some u := by
        intro j u hj
        match j, hj with
        | 0, hj => cases hj; rw [show (ad.add (i * 2)).add 0 = ad.add (i * 2) by simp [Addr.add]]; exact hc0
        | 1, hj => cases hj; exact hc1
        | j + 2, hj => simp at hj
      have HX := Lib.hid (And.intro hi (And.intro ho (And.intro hmod (And.intro hmod2 (And.intro htk (And.intro hlen hcs))))))
      clear hi ho hmod hmod2 htk hlen hx hcs hc0 hc1 hsc
      go_wp2_with (refine wpList_copy_var (n := 2) rfl rfl rfl 63 _ _ _ rfl rfl rfl Tryz.underlying63 zeroEnt Tryz.info_ent2 rfl (ad.add (i * 2)) rfl [.string ⟨d.toArray⟩, .int .i64 m] rfl (by intro u hu; simp at hu; rcases hu with rfl | rfl <;> rfl) HX.out.2.2.2.2.2.2 (fun _ _ => rfl) (fun _ _ => rfl) ?_)
      intro g3 W3 hg3 hb3 hm3
      have k0 : W3.cell? ⟨g3, 0, none⟩ = some (.string ⟨d.toArray⟩) := by rw [Lib.cell_of_heap hb3]; rfl
      have ho3 := own_move HX.out.2.1 (fun k hk => (hm3 (fun _ => False)).block k (own_lt HX.out.2.1 k hk).2 id)
      have hbs := (HX.out.2.2.2.1.trans (hm3 (fun _ => False)) (fun _ h => h.elim)).size
      have H3 := Lib.hid (And.intro ho3 (And.intro (HX.out.2.2.1.trans (hm3 (fun _ => False)) (fun _ h => h.elim)) (HX.out.2.2.2.1.trans (hm3 (fun _ => False)) (fun _ h => h.elim))))
      clear hg3 hb3 hm3 ho3
      go_wp2_with (at_builtin; refine append_one w2.heap.size rfl _ _ 24 9 (.string ⟨#[]⟩) 16 rfl Tryz.underlying24 (by kernel_rfl) rfl (by decide) (.slice Ao i co) sc (encS d) rfl rfl rfl (by rw [HX.out.2.2.2.2.2.1]; exact H3.out.1) hbs (by rw [HX.out.2.2.2.2.2.1]; omega) ?_)
      intro A4 c4 w4 hown4 hg4 _
      rw [HX.out.2.2.2.2.2.1] at hown4 ⊢
      have H4 := Lib.hid (And.intro hown4 hg4); clear hown4 hg4
      go_wp2_with fail
      go_roundg (gk - 1)
      case measure => have := HX.out.1; omega
      case rel =>
        refine ⟨i + 1, by go_num, by have := HX.out.1; omega, ?_, H3.out.2.1.grown H4.out.2 (fun k hk => .inr (by have := (own_lt H3.out.1 k hk.symm).1; have := H2.out.1.size; omega)), H3.out.2.2.grown H4.out.2 (fun k hk => .inl (own_lt H3.out.1 k hk.symm).1)⟩
        · rw [HX.out.2.2.2.2.1]
          exact H4.out.1
    · have hie : l.take i = l := List.take_of_length_le (by omega)
      have hil : i = l.length := by omega
      subst hil
      rw [hie] at ho
      have hmn : (l.map nm).length = l.length := List.length_map _
      have ho' : wr.ownsRow w2.heap.size 9 1 (.slice Ao l.length co) (l.map nm).length (scells (l.map nm)) := by rw [hmn]; exact ho
      have hrd := reads_strs ho' (fun x hx => by obtain ⟨e, he, rfl⟩ := List.mem_map.1 hx; exact H0.out.2.2.2 e he) (by rw [hmn]; omega)
      have hst := sort_any Ao l.length co ((l.map nm).map mkStr) _ wr hrd (by rw [List.length_map, hmn]; omega) (fun s hs => by
        obtain ⟨x, hx, rfl⟩ := List.mem_map.1 hs
        rw [mkStr_size]
        obtain ⟨e, he, rfl⟩ := List.mem_map.1 hx
        exact H0.out.2.2.2 e he) (H0.out.2.1.mod0 hmod)
      rw [map_back, ← H0.out.2.2.1] at hst
      have HX := Lib.hid hmod; clear hmod hmod2 ho ho' hrd hie hi
      go_wp2_with fail
      refine hst.mono ?_
      rintro r w5 ⟨A5, c5, rfl, ho5, hm5⟩
      have H5 := Lib.hid (And.intro (own_base_le ho5 HX.out.size) (tr0 HX.out hm5)); clear ho5 hm5 hst
      go_wp2_with fail
      go_ret
      exact ⟨A5, c5, rfl, H5.out.1, H5.out.2⟩
end Go.Proofs.YthhepnaanjicjaaGreatDoor

/- Layer 6, label: Flows. -/
namespace Go.Proofs.YthhepnaanjicjaaGreatDoor
open Go.RowKit Go.Shelf
set_option linter.unusedVariables false
theorem namesL_len {a b : List Entry} (ha : RightL a) (hb : RightL b) : (namesL a b).length ≤ 16 := by
  have h1 := sortS_len ((a ++ b).map nm)
  rw [List.length_map, List.length_append] at h1
  have := ha.len; have := hb.len
  unfold namesL; omega
set_option maxRecDepth 100000 in
set_option maxHeartbeats 2000000 in
theorem flows_any (A : Option Addr) (n c : Nat) (A2 : Option Addr) (n2 c2 : Nat) (a b : List Entry) (ok ok2 : Nat → Prop) (w : World) (h : labR.rel w ok [.slice A n c] a) (h2 : labR.rel w ok2 [.slice A2 n2 c2] b) (E : Env w) :
    Calls Tryz.prog 36 #[.slice A n c, .slice A2 n2 c2] w fun r w' => r = .returned (.bool (flowsLB a b)) ∧ Mod (fun _ => False) w w' := by
  obtain ⟨z, hz⟩ : ∃ z, z = flowsLB a b := ⟨_, rfl⟩
  rw [← hz]
  have hr1 := rightLab_any A n c a ok w h E
  have H0 := Lib.hid (And.intro (Rd.bound h) (And.intro (Rd.bound h2) (And.intro hz E))); clear h h2 hz E
  cases hra : rightLB a with
  | false =>
    rw [hra] at hr1
    have hzf : z = false := by rw [H0.out.2.2.1]; exact flowsLB_no fun hf => by have := rightLB_iff.2 hf.ra; rw [hra] at this; cases this
    subst hzf
    have HR := Lib.hid hr1; clear hr1 hra
    go_enter Tryz.func36, Tryz.ntmps36
    go_wp2_with fail
    refine HR.out.mono ?_
    rintro r w1 ⟨rfl, hm⟩
    have H1 := Lib.hid hm; clear hm
    go_wp2_with fail
    go_ret
    exact ⟨rfl, H1.out⟩
  | true =>
    rw [hra] at hr1
    have HR := Lib.hid (And.intro hr1 (rightLB_iff.1 hra)); clear hr1 hra
    cases hrb : rightLB b with
    | false =>
      have hzf : z = false := by rw [H0.out.2.2.1]; exact flowsLB_no fun hf => by have := rightLB_iff.2 hf.rb; rw [hrb] at this; cases this
      subst hzf
      have HB := Lib.hid hrb; clear hrb
      go_enter Tryz.func36, Tryz.ntmps36
      go_wp2_with fail
      refine HR.out.1.mono ?_
      rintro r w1 ⟨rfl, hm⟩
      have hr2 := rightLab_any A2 n2 c2 b _ w1 (Rd.mod H0.out.2.1 hm (fun _ _ => id)) (H0.out.2.2.2.mod0 hm)
      rw [HB.out] at hr2
      have H1 := Lib.hid (And.intro hm hr2); clear hm hr2
      go_wp2_with fail
      refine H1.out.2.mono ?_
      rintro r w2 ⟨rfl, hm⟩
      have H2 := Lib.hid (tr0 H1.out.1 hm); clear hm
      go_wp2_with fail
      go_ret
      exact ⟨rfl, H2.out⟩
    | true =>
      have HB := Lib.hid (And.intro hrb (rightLB_iff.1 hrb)); clear hrb
      have ha8 := HR.out.2.len
      have hb8 := HB.out.2.len
      have h16 := namesL_len HR.out.2 HB.out.2
      obtain ⟨zs, hzs⟩ : ∃ zs, zs = namesL a b := ⟨_, rfl⟩
      rw [← hzs] at h16
      have HZ := Lib.hid (And.intro hzs (show z = true ↔ ∀ c ∈ zs, levelL a c ≤ levelL b c by rw [H0.out.2.2.1, flowsLB_iff, hzs]; exact flows_names HR.out.2 HB.out.2)); clear hzs
      go_enter Tryz.func36, Tryz.ntmps36
      go_wp2_with fail
      refine HR.out.1.mono ?_
      rintro r w1 ⟨rfl, hm⟩
      have hr2 := rightLab_any A2 n2 c2 b _ w1 (Rd.mod H0.out.2.1 hm (fun _ _ => id)) (H0.out.2.2.2.mod0 hm)
      rw [HB.out.1] at hr2
      have H1 := Lib.hid (And.intro hm hr2); clear hm hr2
      go_wp2_with fail
      refine H1.out.2.mono ?_
      rintro r w2 ⟨rfl, hm⟩
      have hm2 := tr0 H1.out.1 hm
      have hnm := names_any A n c A2 n2 c2 a b _ _ w2 (Rd.mod H0.out.1 hm2 (fun _ _ => id)) (Rd.mod H0.out.2.1 hm2 (fun _ _ => id)) (by omega) (by omega) (H0.out.2.2.2.mod0 hm2)
      rw [← HZ.out.1] at hnm
      have H2 := Lib.hid (And.intro hm2 hnm); clear hm hm2 hnm H1
      go_wp2_with fail
      refine H2.out.2.mono ?_
      rintro r w3 ⟨A3, c3, rfl, ho, hm3⟩
      have H3 := Lib.hid (And.intro (tr0 H2.out.1 hm3) ho); clear ho hm3 H2
      go_wp2_with fail
      go_loopg [19] zs.length (fun f si wr => ∃ i : Nat, si = .int .i64 i ∧ i + f = zs.length ∧ (∀ c ∈ zs.take i, levelL a c ≤ levelL b c) ∧ Mod (fun _ => False) w3 wr)
      case atStart => exact ⟨0, rfl, by omega, by simp, .refl _ _⟩
      case round =>
        obtain ⟨i, rfl, hi, hle, hmod⟩ := hrel
        by_cases hlt : i < zs.length
        · obtain ⟨x, hx⟩ : ∃ x, zs[i]? = some x := ⟨zs[i], by simp [hlt]⟩
          obtain ⟨g, c4, hv, hc0⟩ := own_row H3.out.2 hx
          obtain ⟨rfl, rfl⟩ : A3 = some ⟨g, 0, none⟩ ∧ c3 = c4 := by simpa using hv
          replace hc0 := (hmod.cell (cell_lt hc0) id).trans hc0
          have hm0 := tr0 H3.out.1 hmod
          have hl1 := fun W hW => level_any A n c a x _ W (Rd.mod H0.out.1 (hW : Mod (fun _ => False) w W) (fun _ _ => id))
          have hl2 := fun W hW => level_any A2 n2 c2 b x _ W (Rd.mod H0.out.2.1 (hW : Mod (fun _ => False) w W) (fun _ _ => id))
          obtain ⟨p, hp⟩ : ∃ p, p = levelL a x := ⟨_, rfl⟩
          obtain ⟨q, hq⟩ : ∃ q, q = levelL b x := ⟨_, rfl⟩
          simp only [← hp] at hl1
          simp only [← hq] at hl2
          have HX := Lib.hid (And.intro hi (And.intro hle (And.intro hmod (And.intro hm0 (And.intro hx (And.intro hl1 (And.intro hl2 (And.intro hp hq))))))))
          clear hi hle hmod hm0 hx hl1 hl2 hp hq hv
          go_wp2_with fail
          refine (HX.out.2.2.2.2.2.1 wr HX.out.2.2.2.1).mono ?_
          rintro r w5 ⟨rfl, hm5⟩
          have H5 := Lib.hid (tr0 HX.out.2.2.2.1 hm5)
          have H5' := Lib.hid (tr0 HX.out.2.2.1 hm5); clear hm5
          go_wp2_with fail
          refine (HX.out.2.2.2.2.2.2.1 w5 H5.out).mono ?_
          rintro r w6 ⟨rfl, hm6⟩
          have H6 := Lib.hid (And.intro (tr0 H5.out hm6) (tr0 H5'.out hm6)); clear hm6 hc0
          by_cases hgt : q < p
          · have e1 : decide (q < p) = true := by simp [hgt]
            have hzf : z = false := by
              rw [Bool.eq_false_iff]
              intro hz
              have := HZ.out.2.1 hz x (List.mem_of_getElem? HX.out.2.2.2.2.1)
              have h1 := HX.out.2.2.2.2.2.2.2
              omega
            subst hzf
            clear hgt
            go_wp2_with fail
            go_ret
            exact ⟨rfl, H6.out.1⟩
          · have e1 : decide (q < p) = false := by simp; omega
            have HG := Lib.hid hgt; clear hgt
            go_wp2_with fail
            go_roundg (gk - 1)
            case measure => have := HX.out.1; omega
            case rel =>
              refine ⟨i + 1, by go_num, by have := HX.out.1; omega, ?_, H6.out.2⟩
              rw [List.take_add_one, HX.out.2.2.2.2.1]
              intro y hy
              rcases List.mem_append.1 hy with hy | hy
              · exact HX.out.2.1 y hy
              · simp at hy
                rw [hy]
                have h1 := HX.out.2.2.2.2.2.2.2
                have := HG.out
                omega
        · have hie : zs.take i = zs := List.take_of_length_le (by omega)
          rw [hie] at hle
          have hzt : z = true := HZ.out.2.2 hle
          subst hzt
          have HX := Lib.hid (tr0 H3.out.1 hmod); clear hmod hle hie hi
          go_wp2_with fail
          go_ret
          exact ⟨rfl, HX.out⟩
end Go.Proofs.YthhepnaanjicjaaGreatDoor

/- Layer 6, label: Join, Meet. -/
namespace Go.Proofs.YthhepnaanjicjaaGreatDoor
open Go.RowKit Go.Shelf
set_option linter.unusedVariables false
set_option maxRecDepth 100000 in
set_option maxHeartbeats 2000000 in
theorem mixedJ_any (A : Option Addr) (n c : Nat) (A2 : Option Addr) (n2 c2 : Nat) (a b : List Entry) (ok ok2 : Nat → Prop) (w : World) (h : labR.rel w ok [.slice A n c] a) (h2 : labR.rel w ok2 [.slice A2 n2 c2] b) (E : Env w) :
    Calls Tryz.prog 81 #[.slice A n c, .slice A2 n2 c2, .func (.func 82) #[] #[]] w fun r w' => ∃ A' c', r = .returned (.tuple #[.slice A' (resX max a b).1.length c', .int .i64 (resX max a b).2]) ∧ OwnR EntryR 63 w' w.heap.size (fun _ => False) (.slice A' (resX max a b).1.length c') (resX max a b).1 ∧ Mod (fun _ => False) w w' := by
  obtain ⟨z, hz⟩ : ∃ z, z = resX max a b := ⟨_, rfl⟩
  rw [← hz]
  have hr1 := rightLab_any A n c a ok w h E
  have H0 := Lib.hid (And.intro (Rd.bound h) (And.intro (Rd.bound h2) (And.intro hz E))); clear h h2 hz E
  cases hra : rightLB a with
  | false =>
    rw [hra] at hr1
    have hzf : z = ([], 21) := by rw [H0.out.2.2.1]; unfold resX; rw [if_neg (by rw [hra]; simp)]
    subst hzf
    have HR := Lib.hid hr1; clear hr1 hra
    go_enter Tryz.func81, Tryz.ntmps81
    go_wp2_with fail
    refine HR.out.mono ?_
    rintro r w1 ⟨rfl, hm⟩
    have H1 := Lib.hid hm; clear hm
    go_wp2_with fail
    go_ret2
    exact ⟨none, 0, rfl, OwnR.nil _ _ _ _ _, H1.out⟩
  | true =>
    rw [hra] at hr1
    have HR := Lib.hid (And.intro hr1 (And.intro hra (rightLB_iff.1 hra))); clear hr1 hra
    cases hrb : rightLB b with
    | false =>
      have hzf : z = ([], 21) := by rw [H0.out.2.2.1]; unfold resX; rw [if_neg (by rw [hrb]; simp)]
      subst hzf
      have HB := Lib.hid hrb; clear hrb
      go_enter Tryz.func81, Tryz.ntmps81
      go_wp2_with fail
      refine HR.out.1.mono ?_
      rintro r w1 ⟨rfl, hm⟩
      have hr2 := rightLab_any A2 n2 c2 b _ w1 (Rd.mod H0.out.2.1 hm (fun _ _ => id)) (H0.out.2.2.2.mod0 hm)
      rw [HB.out] at hr2
      have H1 := Lib.hid (And.intro hm hr2); clear hm hr2
      go_wp2_with fail
      refine H1.out.2.mono ?_
      rintro r w2 ⟨rfl, hm⟩
      have H2 := Lib.hid (tr0 H1.out.1 hm); clear hm
      go_wp2_with fail
      go_ret2
      exact ⟨none, 0, rfl, OwnR.nil _ _ _ _ _, H2.out⟩
    | true =>
      have hzf : z = resM (mixIn max a b) := by rw [H0.out.2.2.1]; unfold resX; rw [if_pos ⟨HR.out.2.1, hrb⟩]
      have HB := Lib.hid (And.intro hrb (And.intro (rightLB_iff.1 hrb) hzf)); clear hrb hzf
      have ha8 := HR.out.2.2.len
      have hb8 := HB.out.2.1.len
      have h16 := namesL_len HR.out.2.2 HB.out.2.1
      have hnl : ∀ x ∈ namesL a b, x.length ≤ 140737488355328 := fun x hx => by
        rcases (namesL_mem HR.out.2.2 HB.out.2.1 x).1 hx with hx | hx
        · obtain ⟨e, he, rfl⟩ := List.mem_map.1 hx; exact (labR_each H0.out.1 e he).1
        · obtain ⟨e, he, rfl⟩ := List.mem_map.1 hx; exact (labR_each H0.out.2.1 e he).1
      obtain ⟨zs, hzs⟩ : ∃ zs, zs = namesL a b := ⟨_, rfl⟩
      rw [← hzs] at h16 hnl
      have HZ := Lib.hid (And.intro hzs (And.intro hnl (show mixIn max a b = zs.map fun c => ent c (max (levelL a c) (levelL b c)) by unfold mixIn; rw [hzs]))); clear hzs hnl
      go_enter Tryz.func81, Tryz.ntmps81
      go_wp2_with fail
      refine HR.out.1.mono ?_
      rintro r w1 ⟨rfl, hm⟩
      have hr2 := rightLab_any A2 n2 c2 b _ w1 (Rd.mod H0.out.2.1 hm (fun _ _ => id)) (H0.out.2.2.2.mod0 hm)
      rw [HB.out.1] at hr2
      have H1 := Lib.hid (And.intro hm hr2); clear hm hr2
      go_wp2_with fail
      refine H1.out.2.mono ?_
      rintro r w2 ⟨rfl, hm⟩
      have hm2 := tr0 H1.out.1 hm
      have hnm := names_any A n c A2 n2 c2 a b _ _ w2 (Rd.mod H0.out.1 hm2 (fun _ _ => id)) (Rd.mod H0.out.2.1 hm2 (fun _ _ => id)) (by omega) (by omega) (H0.out.2.2.2.mod0 hm2)
      rw [← HZ.out.1] at hnm
      have H2 := Lib.hid (And.intro hm2 hnm); clear hm hm2 hnm H1
      go_wp2_with fail
      refine H2.out.2.mono ?_
      rintro r w3 ⟨A3, c3, rfl, ho, hm3⟩
      have H3 := Lib.hid (And.intro (tr0 H2.out.1 hm3) ho); clear ho hm3 H2
      go_wp2_with fail
      go_loopg [8, 23] zs.length (fun f so si wr => ∃ (i : Nat) (A' : Option Addr) (c' : Nat), si = .int .i64 i ∧ so = .slice A' i c' ∧ i + f = zs.length ∧ OwnR EntryR 63 wr w3.heap.size (fun _ => False) (.slice A' i c') ((zs.take i).map fun c => ent c (max (levelL a c) (levelL b c))) ∧ Mod (fun _ => False) w3 wr)
      case atStart => exact ⟨0, none, 0, rfl, rfl, by omega, OwnR.nil _ _ _ _ _, .refl _ _⟩
      case round =>
        obtain ⟨i, A', c', rfl, rfl, hi, hO, hmod⟩ := hrel
        by_cases hlt : i < zs.length
        · obtain ⟨x, hx⟩ : ∃ x, zs[i]? = some x := ⟨zs[i], by simp [hlt]⟩
          have hxl := HZ.out.2.1 x (List.mem_of_getElem? hx)
          obtain ⟨g, c4, hv, hc0⟩ := own_row H3.out.2 hx
          obtain ⟨rfl, rfl⟩ : A3 = some ⟨g, 0, none⟩ ∧ c3 = c4 := by simpa using hv
          replace hc0 := (hmod.cell (cell_lt hc0) id).trans hc0
          have hm0 := tr0 H3.out.1 hmod
          have hl1 := fun W hW => level_any A n c a x _ W (Rd.mod H0.out.1 (hW : Mod (fun _ => False) w W) (fun _ _ => id))
          have hl2 := fun W hW => level_any A2 n2 c2 b x _ W (Rd.mod H0.out.2.1 (hW : Mod (fun _ => False) w W) (fun _ _ => id))
          have hpr := pick_range max_pick HR.out.2.2 HB.out.2.1 x
          obtain ⟨lst, hlst⟩ : ∃ lst, lst = (zs.take i).map fun c => ent c (max (levelL a c) (levelL b c)) := ⟨_, rfl⟩
          have hll : lst.length = i := by rw [hlst, List.length_map, List.length_take]; omega
          have htk : ((zs.take (i + 1)).map fun c => ent c (max (levelL a c) (levelL b c))) = lst ++ [ent x (max (levelL a x) (levelL b x))] := by rw [List.take_add_one, hx, List.map_append, hlst]; rfl
          rw [← hlst] at hO
          obtain ⟨p, hp⟩ : ∃ p, p = levelL a x := ⟨_, rfl⟩
          obtain ⟨q, hq⟩ : ∃ q, q = levelL b x := ⟨_, rfl⟩
          simp only [← hp] at hl1
          simp only [← hq] at hl2
          rw [← hp, ← hq] at hpr htk
          have HX := Lib.hid (And.intro hi (And.intro hO (And.intro hmod (And.intro hm0 (And.intro htk (And.intro hl1 (And.intro hl2 (And.intro hpr hll))))))))
          clear hi hO hmod hm0 hx hl1 hl2 hp hq hv htk hpr hll hlst
          go_wp2_with fail
          refine (HX.out.2.2.2.2.2.1 wr HX.out.2.2.2.1).mono ?_
          rintro r w5 ⟨rfl, hm5⟩
          have H5 := Lib.hid (And.intro (tr0 HX.out.2.2.2.1 hm5) (tr0 HX.out.2.2.1 hm5))
          have hO5 := HX.out.2.1.mod hm5 (fun _ _ => id) (fun _ _ _ => id)
          have HO5 := Lib.hid hO5; clear hm5 hO5
          go_wp2_with fail
          refine (HX.out.2.2.2.2.2.2.1 w5 H5.out.1).mono ?_
          rintro r w6 ⟨rfl, hm6⟩
          have hO6 := HO5.out.mod hm6 (fun _ _ => id) (fun _ _ _ => id)
          have H6 := Lib.hid (And.intro (tr0 H5.out.2 hm6) hO6); clear hm6 hc0 hO6
          go_wp2_with fail
          refine (joinC_any p q w6).mono ?_
          rintro r w7 ⟨rfl, hm7⟩
          have hO7 := H6.out.2.mod hm7 (fun _ _ => id) (fun _ _ _ => id)
          have hm37 := tr0 H6.out.1 hm7
          have hsz := hm37.size
          obtain ⟨y, hy⟩ : ∃ y, y = max p q := ⟨_, rfl⟩
          have hpr := HX.out.2.2.2.2.2.2.2.1
          have htk := HX.out.2.2.2.2.1
          rw [← hy] at hpr htk ⊢
          have hrE : EntryR.rel w7 (fun k => False ∧ some k ≠ (Value.slice A' i c').ownBlock) [.string ⟨x.toArray⟩, .int .i64 y] (ent x y) := EntryR_mk _ _ (ent x y) (by rw [show (ent x y).cat.size = x.length from mkStr_size x]; exact hxl) (inR_mk (by rw [lev_ent]; omega))
          have H7 := Lib.hid (And.intro hO7 (And.intro hm37 (And.intro hrE (And.intro htk HX.out.2.2.2.2.2.2.2.2)))); clear hO7 hm37 hm7 hrE hy hpr htk
          go_wp2_with (first
            | (refine wpList_slice1_agg rfl 22 63 _ rfl Tryz.underlying22 zeroEnt.toArray [.string ⟨x.toArray⟩, .int .i64 y] Tryz.info_ent2 (by decide) rfl rfl ?_)
            | (at_builtin; refine append_rd (R := EntryR) w3.heap.size rfl _ _ 22 63 (.agg zeroEnt.toArray) 24 rfl Tryz.underlying22 Tryz.info_ent3 rfl (by decide) (.slice A' i c') lst (ent x y) [.string ⟨x.toArray⟩, .int .i64 y] (fun _ => False) rfl rfl H7.out.1 H7.out.2.2.1 hsz (by rw [H7.out.2.2.2.2]; omega) ?_))
          intro A8 c8 w8 hO8 hm8 hn8
          rw [H7.out.2.2.2.2] at hO8 hn8 ⊢
          have H8 := Lib.hid (And.intro hO8 hm8); clear hO8 hm8 hn8
          go_wp2_with fail
          go_roundg (gk - 1)
          case measure => have := HX.out.1; omega
          case rel =>
            refine ⟨i + 1, A8, c8, by go_num, rfl, by have := HX.out.1; omega, by rw [H7.out.2.2.2.1]; exact H8.out.1, H7.out.2.1.trans H8.out.2 (fun k hk => .inr ?_)⟩
            obtain ⟨cells, hown, _⟩ := H7.out.1
            exact (own_lt hown k hk).1
        · have hie : zs.take i = zs := List.take_of_length_le (by omega)
          have hil : i = zs.length := by omega
          subst hil
          rw [hie, ← HZ.out.2.2] at hO
          have hml : (mixIn max a b).length = zs.length := by rw [HZ.out.2.2, List.length_map]
          have hrd := hO.reads (bytes := 24) (by rw [hml]; omega)
          rw [← hml] at hrd
          have hm0 := tr0 H3.out.1 hmod
          have hmk := make_any A' (mixIn max a b).length c' (mixIn max a b) _ wr hrd (by rw [hml]; omega) (H0.out.2.2.2.mod0 hm0)
          rw [← HB.out.2.2, hml] at hmk
          have HX := Lib.hid hm0; clear hmod hO hie hi hrd hm0 hml
          go_wp2_with fail
          refine hmk.mono ?_
          rintro r w5 ⟨A5, c5, rfl, hO5, hm5⟩
          have hO5' : OwnR EntryR 63 w5 w.heap.size (fun _ => False) (.slice A5 z.1.length c5) z.1 := by
            obtain ⟨cells, hown, hr⟩ := hO5
            exact ⟨cells, own_base_le hown HX.out.size, hr⟩
          have H5 := Lib.hid (And.intro hO5' (tr0 HX.out hm5)); clear hO5 hO5' hm5 hmk
          go_wp2_with fail
          go_ret2
          exact ⟨A5, c5, rfl, H5.out.1, H5.out.2⟩
set_option maxRecDepth 100000 in
theorem join_any (A : Option Addr) (n c : Nat) (A2 : Option Addr) (n2 c2 : Nat) (a b : List Entry) (ok ok2 : Nat → Prop) (w : World) (h : labR.rel w ok [.slice A n c] a) (h2 : labR.rel w ok2 [.slice A2 n2 c2] b) (E : Env w) :
    Calls Tryz.prog 39 #[.slice A n c, .slice A2 n2 c2] w fun r w' => ∃ A' c', r = .returned (.tuple #[.slice A' (resX max a b).1.length c', .int .i64 (resX max a b).2]) ∧ OwnR EntryR 63 w' w.heap.size (fun _ => False) (.slice A' (resX max a b).1.length c') (resX max a b).1 ∧ Mod (fun _ => False) w w' := by
  have hm := mixedJ_any A n c A2 n2 c2 a b ok ok2 w h h2 E
  obtain ⟨z, hz⟩ : ∃ z, z = resX max a b := ⟨_, rfl⟩
  rw [← hz] at hm ⊢
  clear hz h h2 E
  go_enter Tryz.func39, Tryz.ntmps39
  go_wp2_with fail
  refine hm.mono ?_
  rintro r w1 ⟨A1, c1, rfl, hO, hm1⟩
  have H1 := Lib.hid (And.intro hO hm1); clear hO hm1 hm
  go_wp2_with fail
  go_ret2
  exact ⟨A1, c1, rfl, H1.out.1, H1.out.2⟩
set_option maxRecDepth 100000 in
set_option maxHeartbeats 2000000 in
theorem mixedM_any (A : Option Addr) (n c : Nat) (A2 : Option Addr) (n2 c2 : Nat) (a b : List Entry) (ok ok2 : Nat → Prop) (w : World) (h : labR.rel w ok [.slice A n c] a) (h2 : labR.rel w ok2 [.slice A2 n2 c2] b) (E : Env w) :
    Calls Tryz.prog 81 #[.slice A n c, .slice A2 n2 c2, .func (.func 83) #[] #[]] w fun r w' => ∃ A' c', r = .returned (.tuple #[.slice A' (resX min a b).1.length c', .int .i64 (resX min a b).2]) ∧ OwnR EntryR 63 w' w.heap.size (fun _ => False) (.slice A' (resX min a b).1.length c') (resX min a b).1 ∧ Mod (fun _ => False) w w' := by
  obtain ⟨z, hz⟩ : ∃ z, z = resX min a b := ⟨_, rfl⟩
  rw [← hz]
  have hr1 := rightLab_any A n c a ok w h E
  have H0 := Lib.hid (And.intro (Rd.bound h) (And.intro (Rd.bound h2) (And.intro hz E))); clear h h2 hz E
  cases hra : rightLB a with
  | false =>
    rw [hra] at hr1
    have hzf : z = ([], 21) := by rw [H0.out.2.2.1]; unfold resX; rw [if_neg (by rw [hra]; simp)]
    subst hzf
    have HR := Lib.hid hr1; clear hr1 hra
    go_enter Tryz.func81, Tryz.ntmps81
    go_wp2_with fail
    refine HR.out.mono ?_
    rintro r w1 ⟨rfl, hm⟩
    have H1 := Lib.hid hm; clear hm
    go_wp2_with fail
    go_ret2
    exact ⟨none, 0, rfl, OwnR.nil _ _ _ _ _, H1.out⟩
  | true =>
    rw [hra] at hr1
    have HR := Lib.hid (And.intro hr1 (And.intro hra (rightLB_iff.1 hra))); clear hr1 hra
    cases hrb : rightLB b with
    | false =>
      have hzf : z = ([], 21) := by rw [H0.out.2.2.1]; unfold resX; rw [if_neg (by rw [hrb]; simp)]
      subst hzf
      have HB := Lib.hid hrb; clear hrb
      go_enter Tryz.func81, Tryz.ntmps81
      go_wp2_with fail
      refine HR.out.1.mono ?_
      rintro r w1 ⟨rfl, hm⟩
      have hr2 := rightLab_any A2 n2 c2 b _ w1 (Rd.mod H0.out.2.1 hm (fun _ _ => id)) (H0.out.2.2.2.mod0 hm)
      rw [HB.out] at hr2
      have H1 := Lib.hid (And.intro hm hr2); clear hm hr2
      go_wp2_with fail
      refine H1.out.2.mono ?_
      rintro r w2 ⟨rfl, hm⟩
      have H2 := Lib.hid (tr0 H1.out.1 hm); clear hm
      go_wp2_with fail
      go_ret2
      exact ⟨none, 0, rfl, OwnR.nil _ _ _ _ _, H2.out⟩
    | true =>
      have hzf : z = resM (mixIn min a b) := by rw [H0.out.2.2.1]; unfold resX; rw [if_pos ⟨HR.out.2.1, hrb⟩]
      have HB := Lib.hid (And.intro hrb (And.intro (rightLB_iff.1 hrb) hzf)); clear hrb hzf
      have ha8 := HR.out.2.2.len
      have hb8 := HB.out.2.1.len
      have h16 := namesL_len HR.out.2.2 HB.out.2.1
      have hnl : ∀ x ∈ namesL a b, x.length ≤ 140737488355328 := fun x hx => by
        rcases (namesL_mem HR.out.2.2 HB.out.2.1 x).1 hx with hx | hx
        · obtain ⟨e, he, rfl⟩ := List.mem_map.1 hx; exact (labR_each H0.out.1 e he).1
        · obtain ⟨e, he, rfl⟩ := List.mem_map.1 hx; exact (labR_each H0.out.2.1 e he).1
      obtain ⟨zs, hzs⟩ : ∃ zs, zs = namesL a b := ⟨_, rfl⟩
      rw [← hzs] at h16 hnl
      have HZ := Lib.hid (And.intro hzs (And.intro hnl (show mixIn min a b = zs.map fun c => ent c (min (levelL a c) (levelL b c)) by unfold mixIn; rw [hzs]))); clear hzs hnl
      go_enter Tryz.func81, Tryz.ntmps81
      go_wp2_with fail
      refine HR.out.1.mono ?_
      rintro r w1 ⟨rfl, hm⟩
      have hr2 := rightLab_any A2 n2 c2 b _ w1 (Rd.mod H0.out.2.1 hm (fun _ _ => id)) (H0.out.2.2.2.mod0 hm)
      rw [HB.out.1] at hr2
      have H1 := Lib.hid (And.intro hm hr2); clear hm hr2
      go_wp2_with fail
      refine H1.out.2.mono ?_
      rintro r w2 ⟨rfl, hm⟩
      have hm2 := tr0 H1.out.1 hm
      have hnm := names_any A n c A2 n2 c2 a b _ _ w2 (Rd.mod H0.out.1 hm2 (fun _ _ => id)) (Rd.mod H0.out.2.1 hm2 (fun _ _ => id)) (by omega) (by omega) (H0.out.2.2.2.mod0 hm2)
      rw [← HZ.out.1] at hnm
      have H2 := Lib.hid (And.intro hm2 hnm); clear hm hm2 hnm H1
      go_wp2_with fail
      refine H2.out.2.mono ?_
      rintro r w3 ⟨A3, c3, rfl, ho, hm3⟩
      have H3 := Lib.hid (And.intro (tr0 H2.out.1 hm3) ho); clear ho hm3 H2
      go_wp2_with fail
      go_loopg [8, 23] zs.length (fun f so si wr => ∃ (i : Nat) (A' : Option Addr) (c' : Nat), si = .int .i64 i ∧ so = .slice A' i c' ∧ i + f = zs.length ∧ OwnR EntryR 63 wr w3.heap.size (fun _ => False) (.slice A' i c') ((zs.take i).map fun c => ent c (min (levelL a c) (levelL b c))) ∧ Mod (fun _ => False) w3 wr)
      case atStart => exact ⟨0, none, 0, rfl, rfl, by omega, OwnR.nil _ _ _ _ _, .refl _ _⟩
      case round =>
        obtain ⟨i, A', c', rfl, rfl, hi, hO, hmod⟩ := hrel
        by_cases hlt : i < zs.length
        · obtain ⟨x, hx⟩ : ∃ x, zs[i]? = some x := ⟨zs[i], by simp [hlt]⟩
          have hxl := HZ.out.2.1 x (List.mem_of_getElem? hx)
          obtain ⟨g, c4, hv, hc0⟩ := own_row H3.out.2 hx
          obtain ⟨rfl, rfl⟩ : A3 = some ⟨g, 0, none⟩ ∧ c3 = c4 := by simpa using hv
          replace hc0 := (hmod.cell (cell_lt hc0) id).trans hc0
          have hm0 := tr0 H3.out.1 hmod
          have hl1 := fun W hW => level_any A n c a x _ W (Rd.mod H0.out.1 (hW : Mod (fun _ => False) w W) (fun _ _ => id))
          have hl2 := fun W hW => level_any A2 n2 c2 b x _ W (Rd.mod H0.out.2.1 (hW : Mod (fun _ => False) w W) (fun _ _ => id))
          have hpr := pick_range min_pick HR.out.2.2 HB.out.2.1 x
          obtain ⟨lst, hlst⟩ : ∃ lst, lst = (zs.take i).map fun c => ent c (min (levelL a c) (levelL b c)) := ⟨_, rfl⟩
          have hll : lst.length = i := by rw [hlst, List.length_map, List.length_take]; omega
          have htk : ((zs.take (i + 1)).map fun c => ent c (min (levelL a c) (levelL b c))) = lst ++ [ent x (min (levelL a x) (levelL b x))] := by rw [List.take_add_one, hx, List.map_append, hlst]; rfl
          rw [← hlst] at hO
          obtain ⟨p, hp⟩ : ∃ p, p = levelL a x := ⟨_, rfl⟩
          obtain ⟨q, hq⟩ : ∃ q, q = levelL b x := ⟨_, rfl⟩
          simp only [← hp] at hl1
          simp only [← hq] at hl2
          rw [← hp, ← hq] at hpr htk
          have HX := Lib.hid (And.intro hi (And.intro hO (And.intro hmod (And.intro hm0 (And.intro htk (And.intro hl1 (And.intro hl2 (And.intro hpr hll))))))))
          clear hi hO hmod hm0 hx hl1 hl2 hp hq hv htk hpr hll hlst
          go_wp2_with fail
          refine (HX.out.2.2.2.2.2.1 wr HX.out.2.2.2.1).mono ?_
          rintro r w5 ⟨rfl, hm5⟩
          have H5 := Lib.hid (And.intro (tr0 HX.out.2.2.2.1 hm5) (tr0 HX.out.2.2.1 hm5))
          have hO5 := HX.out.2.1.mod hm5 (fun _ _ => id) (fun _ _ _ => id)
          have HO5 := Lib.hid hO5; clear hm5 hO5
          go_wp2_with fail
          refine (HX.out.2.2.2.2.2.2.1 w5 H5.out.1).mono ?_
          rintro r w6 ⟨rfl, hm6⟩
          have hO6 := HO5.out.mod hm6 (fun _ _ => id) (fun _ _ _ => id)
          have H6 := Lib.hid (And.intro (tr0 H5.out.2 hm6) hO6); clear hm6 hc0 hO6
          go_wp2_with fail
          refine (meetC_any p q w6).mono ?_
          rintro r w7 ⟨rfl, hm7⟩
          have hO7 := H6.out.2.mod hm7 (fun _ _ => id) (fun _ _ _ => id)
          have hm37 := tr0 H6.out.1 hm7
          have hsz := hm37.size
          obtain ⟨y, hy⟩ : ∃ y, y = min p q := ⟨_, rfl⟩
          have hpr := HX.out.2.2.2.2.2.2.2.1
          have htk := HX.out.2.2.2.2.1
          rw [← hy] at hpr htk ⊢
          have hrE : EntryR.rel w7 (fun k => False ∧ some k ≠ (Value.slice A' i c').ownBlock) [.string ⟨x.toArray⟩, .int .i64 y] (ent x y) := EntryR_mk _ _ (ent x y) (by rw [show (ent x y).cat.size = x.length from mkStr_size x]; exact hxl) (inR_mk (by rw [lev_ent]; omega))
          have H7 := Lib.hid (And.intro hO7 (And.intro hm37 (And.intro hrE (And.intro htk HX.out.2.2.2.2.2.2.2.2)))); clear hO7 hm37 hm7 hrE hy hpr htk
          go_wp2_with (first
            | (refine wpList_slice1_agg rfl 22 63 _ rfl Tryz.underlying22 zeroEnt.toArray [.string ⟨x.toArray⟩, .int .i64 y] Tryz.info_ent2 (by decide) rfl rfl ?_)
            | (at_builtin; refine append_rd (R := EntryR) w3.heap.size rfl _ _ 22 63 (.agg zeroEnt.toArray) 24 rfl Tryz.underlying22 Tryz.info_ent3 rfl (by decide) (.slice A' i c') lst (ent x y) [.string ⟨x.toArray⟩, .int .i64 y] (fun _ => False) rfl rfl H7.out.1 H7.out.2.2.1 hsz (by rw [H7.out.2.2.2.2]; omega) ?_))
          intro A8 c8 w8 hO8 hm8 hn8
          rw [H7.out.2.2.2.2] at hO8 hn8 ⊢
          have H8 := Lib.hid (And.intro hO8 hm8); clear hO8 hm8 hn8
          go_wp2_with fail
          go_roundg (gk - 1)
          case measure => have := HX.out.1; omega
          case rel =>
            refine ⟨i + 1, A8, c8, by go_num, rfl, by have := HX.out.1; omega, by rw [H7.out.2.2.2.1]; exact H8.out.1, H7.out.2.1.trans H8.out.2 (fun k hk => .inr ?_)⟩
            obtain ⟨cells, hown, _⟩ := H7.out.1
            exact (own_lt hown k hk).1
        · have hie : zs.take i = zs := List.take_of_length_le (by omega)
          have hil : i = zs.length := by omega
          subst hil
          rw [hie, ← HZ.out.2.2] at hO
          have hml : (mixIn min a b).length = zs.length := by rw [HZ.out.2.2, List.length_map]
          have hrd := hO.reads (bytes := 24) (by rw [hml]; omega)
          rw [← hml] at hrd
          have hm0 := tr0 H3.out.1 hmod
          have hmk := make_any A' (mixIn min a b).length c' (mixIn min a b) _ wr hrd (by rw [hml]; omega) (H0.out.2.2.2.mod0 hm0)
          rw [← HB.out.2.2, hml] at hmk
          have HX := Lib.hid hm0; clear hmod hO hie hi hrd hm0 hml
          go_wp2_with fail
          refine hmk.mono ?_
          rintro r w5 ⟨A5, c5, rfl, hO5, hm5⟩
          have hO5' : OwnR EntryR 63 w5 w.heap.size (fun _ => False) (.slice A5 z.1.length c5) z.1 := by
            obtain ⟨cells, hown, hr⟩ := hO5
            exact ⟨cells, own_base_le hown HX.out.size, hr⟩
          have H5 := Lib.hid (And.intro hO5' (tr0 HX.out hm5)); clear hO5 hO5' hm5 hmk
          go_wp2_with fail
          go_ret2
          exact ⟨A5, c5, rfl, H5.out.1, H5.out.2⟩
set_option maxRecDepth 100000 in
theorem meet_any (A : Option Addr) (n c : Nat) (A2 : Option Addr) (n2 c2 : Nat) (a b : List Entry) (ok ok2 : Nat → Prop) (w : World) (h : labR.rel w ok [.slice A n c] a) (h2 : labR.rel w ok2 [.slice A2 n2 c2] b) (E : Env w) :
    Calls Tryz.prog 41 #[.slice A n c, .slice A2 n2 c2] w fun r w' => ∃ A' c', r = .returned (.tuple #[.slice A' (resX min a b).1.length c', .int .i64 (resX min a b).2]) ∧ OwnR EntryR 63 w' w.heap.size (fun _ => False) (.slice A' (resX min a b).1.length c') (resX min a b).1 ∧ Mod (fun _ => False) w w' := by
  have hm := mixedM_any A n c A2 n2 c2 a b ok ok2 w h h2 E
  obtain ⟨z, hz⟩ : ∃ z, z = resX min a b := ⟨_, rfl⟩
  rw [← hz] at hm ⊢
  clear hz h h2 E
  go_enter Tryz.func41, Tryz.ntmps41
  go_wp2_with fail
  refine hm.mono ?_
  rintro r w1 ⟨A1, c1, rfl, hO, hm1⟩
  have H1 := Lib.hid (And.intro hO hm1); clear hO hm1 hm
  go_wp2_with fail
  go_ret2
  exact ⟨A1, c1, rfl, H1.out.1, H1.out.2⟩
end Go.Proofs.YthhepnaanjicjaaGreatDoor
