/- Layer 29: the queue's Push and Pop, container/heap's. -/
import Derived.Test.YtlimjdejcjgocaaNet3
namespace Go.Proofs.Ytlimjdejcjgocaa
open Go.RowKit
set_option linter.unusedVariables false
/-- the net's block: the queue's slice, then the other cells -/
def NetBlk (w : World) (g : Nat) (v : Value) (o : List Value) : Prop := w.heap[g]? = some (.cells (v :: o).toArray 47 (0, 0))
theorem NetBlk.cell {w : World} {g : Nat} {v : Value} {o : List Value} (h : NetBlk w g v o) : w.cell? ⟨g, 0, none⟩ = some v := by rw [cell_of_blk h]; rfl
theorem NetBlk.free {w : World} {g : Nat} {v : Value} {o : List Value} (h : NetBlk w g v o) (j : Nat) : w.frozen? ⟨g, j, none⟩ = false := free_of_blk h j
theorem NetBlk.set {w : World} {g : Nat} {v : Value} {o : List Value} (h : NetBlk w g v o) (u : Value) : NetBlk (w.setCell ⟨g, 0, none⟩ u) g u o := by
  have := set_of_blk h 0 u
  simpa [NetBlk] using this
theorem NetBlk.mod {w w1 : World} {S : Nat → Prop} {g : Nat} {v : Value} {o : List Value} (h : NetBlk w g v o) (hm : Mod S w w1) (hg : ¬ S g) : NetBlk w1 g v o := (hm.block g (lt_of_blk h) hg).trans h
theorem Try.info_pk : (Try.prog.info? 35).map (fun i => (i.zero, i.size, i.bytes)) = some (some (.agg #[.int .i64 0, .int .i64 0, .int .i64 0, .slice none 0 0]), 4, 48) := by kernel_rfl
theorem Try.info_pk2 : (Try.prog.info? 35).map (fun i => (i.zero, i.size)) = some (some (.agg #[.int .i64 0, .int .i64 0, .int .i64 0, .slice none 0 0]), 4) := by kernel_rfl
theorem pk_info : ∃ i0 : TypeInfo, Try.prog.info? 35 = some i0 ∧ i0.zero = some (.agg #[.int .i64 0, .int .i64 0, .int .i64 0, .slice none 0 0]) ∧ i0.size = 4 ∧ i0.bytes = 48 := by
  obtain ⟨i0, hi, hzz⟩ := Option.map_eq_some_iff.1 Try.info_pk
  simp only [Prod.mk.injEq] at hzz
  exact ⟨i0, hi, hzz⟩
theorem run_store_queue {w : World} {g n c : Nat} {A : Option Addr} {u : Value} (h : w.cell? ⟨g, 0, none⟩ = some u) (hf : w.frozen? ⟨g, 0, none⟩ = false) : (storeVar 45 ⟨g, 0, none⟩ (.slice A n c)).run Try.prog w = .ok () (w.setCell ⟨g, 0, none⟩ (.slice A n c)) := by
  go_simp
theorem Try.assert_pk (v : Value) (w : World) : (Instr.typeAssert (.iface 35 v) 20 35 false).run Try.prog w = .ok v w := by kernel_rfl
/-- behind an append of a packet -/
theorem pk_after {W w1 : World} {v v1 : Value} {xs : List Pk} {p : Pk} (HO : W.ownsRow 0 35 4 v xs.length (flatK xs)) {b : Obj} (hown1 : w1.ownsRow 0 35 4 v1 (xs.length + 1) (flatK xs ++ p.cells))
    (hg : (W.alloc b).grownBy w1 v.ownBlock) (hat : v1.ownBlock = v.ownBlock ∨ v1.ownBlock = some (W.alloc b).heap.size) :
    ∃ gq cap, v1 = .slice (some ⟨gq, 0, none⟩) (xs ++ [p]).length cap ∧ QRow w1 gq cap (xs ++ [p]) ∧ Mod (fun k => v.ownBlock = some k) W w1 ∧ (v.ownBlock = some gq ∨ W.heap.size ≤ gq) := by
  have e : flatK xs ++ p.cells = flatK (xs ++ [p]) := by rw [flatK_append]; simp [flatK]
  rw [e] at hown1
  have hlen : xs.length + 1 = (xs ++ [p]).length := by simp
  rw [hlen] at hown1
  obtain ⟨A, c, rfl⟩ := own_slice hown1
  have hown2 := hown1
  rcases hown2.2 with ⟨hv, _⟩ | ⟨gq, cap, cur, hv, _⟩
  · simp at hv
  · simp only [Value.slice.injEq] at hv
    obtain ⟨rfl, _, rfl⟩ := hv
    obtain ⟨_, hr⟩ := QRow.of_owns hown1
    refine ⟨gq, c, rfl, hr, ((Mod.refl (fun k => v.ownBlock = some k) W).alloc _).grown hg (fun k hk => .inl hk.symm), ?_⟩
    rcases hat with hat | hat
    · exact .inl hat.symm
    · simp only [Value.ownBlock, Option.some.injEq] at hat
      right
      rw [hat]; simp
set_option maxRecDepth 100000 in
set_option maxHeartbeats 1000000 in
theorem qpush_any (g : Nat) (v : Value) (xs : List Pk) (p : Pk) (o : List Value) (w : World) (hb : NetBlk w g v o) (ho : w.ownsRow 0 35 4 v xs.length (flatK xs)) (hne : v.ownBlock ≠ some g) (hl : xs.length ≤ 1000000) :
    Calls Try.prog 73 #[.pointer (some ⟨g, 0, none⟩), .iface 35 (.agg p.cells.toArray)] w fun e w' => e = .returned (.tuple #[]) ∧ ∃ gq cap, NetBlk w' g (.slice (some ⟨gq, 0, none⟩) (xs ++ [p]).length cap) o ∧ gq ≠ g ∧ QRow w' gq cap (xs ++ [p]) ∧ (v.ownBlock = some gq ∨ w.heap.size ≤ gq) ∧ Mod (fun k => k = g ∨ v.ownBlock = some k) w w' := by
  have hc := hb.cell
  obtain ⟨A, c, rfl⟩ := own_slice ho
  have HB := Lib.hid (And.intro hb (And.intro ho hne)); clear hb ho hne
  go_enter Try.func73, Try.ntmps73
  refine wp_region_any (by kernel_rfl) ?_
  change wpAny _ _ _ _ _ _ _ (World.drew _)
  refine wpAny_take (i := 0) (v := .pointer (some ⟨g, 0, none⟩)) rfl (by kernel_rfl) (by kernel_rfl) (by kernel_rfl) (fun _ _ _ h => h) (Or.inl ⟨by rfl, ?_⟩) ?_
  · (intro w; go_simp)
  change wpAny _ _ _ _ _ _ { tmps := #[.pointer (some ⟨g, 0, none⟩), .iface 35 (.agg p.cells.toArray), undef, undef, .pointer (some ⟨g, 0, none⟩), undef, undef, undef, undef, undef, undef, undef, undef], defers := [] } _
  refine wpAny_take (i := 1) (v := .pointer (some ⟨g, 0, none⟩)) rfl (by kernel_rfl) (by kernel_rfl) (by kernel_rfl) (fun _ _ _ h => h) (Or.inl ⟨by rfl, ?_⟩) ?_
  · (intro w; go_simp)
  change wpAny _ _ _ _ _ _ { tmps := #[.pointer (some ⟨g, 0, none⟩), .iface 35 (.agg p.cells.toArray), undef, undef, .pointer (some ⟨g, 0, none⟩), .pointer (some ⟨g, 0, none⟩), undef, undef, undef, undef, undef, undef, undef], defers := [] } _
  refine wpAny_take (i := 2) (v := .pointer (some ⟨g, 0, none⟩)) rfl (by kernel_rfl) (by kernel_rfl) (by kernel_rfl) (fun _ _ _ h => h) (Or.inl ⟨by rfl, ?_⟩) ?_
  · (intro w; go_simp)
  change wpAny _ _ _ _ _ _ { tmps := #[.pointer (some ⟨g, 0, none⟩), .iface 35 (.agg p.cells.toArray), undef, undef, .pointer (some ⟨g, 0, none⟩), .pointer (some ⟨g, 0, none⟩), .pointer (some ⟨g, 0, none⟩), undef, undef, undef, undef, undef, undef], defers := [] } _
  refine wpAny_take (i := 4) (v := .iface 35 (.agg p.cells.toArray)) rfl (by kernel_rfl) (by kernel_rfl) (by kernel_rfl) (fun _ _ _ h => h) (Or.inl ⟨by rfl, ?_⟩) ?_
  · (intro w; go_simp)
  change wpAny _ _ _ _ _ _ { tmps := #[.pointer (some ⟨g, 0, none⟩), .iface 35 (.agg p.cells.toArray), undef, undef, .pointer (some ⟨g, 0, none⟩), .pointer (some ⟨g, 0, none⟩), .pointer (some ⟨g, 0, none⟩), undef, .iface 35 (.agg p.cells.toArray), undef, undef, undef, undef], defers := [] } _
  refine wpAny_take (i := 5) (v := .agg p.cells.toArray) rfl (by kernel_rfl) (by kernel_rfl) (by kernel_rfl) (fun _ _ _ h => h) (Or.inl ⟨by rfl, ?_⟩) ?_
  · (intro w; have h := Try.assert_pk (.agg p.cells.toArray) w; go_simp)
  change wpAny _ _ _ _ _ _ { tmps := #[.pointer (some ⟨g, 0, none⟩), .iface 35 (.agg p.cells.toArray), undef, undef, .pointer (some ⟨g, 0, none⟩), .pointer (some ⟨g, 0, none⟩), .pointer (some ⟨g, 0, none⟩), undef, .iface 35 (.agg p.cells.toArray), .agg p.cells.toArray, undef, undef, undef], defers := [] } _
  refine wpAny_ready (rs := [3, 6]) (by kernel_rfl) (by simp) (AllReady.cons rfl (fun K hK => ?_) (AllReady.cons rfl (fun K hK => ?_) (AllReady.nil)))
  · refine step_load rfl 45 _ rfl ⟨g, 0, none⟩ rfl (.slice A xs.length c) (run_load_queue (w := w.drew) hc rfl) ?_
    refine hK _ _ ?_; clear hK K
    change wpAny _ _ _ _ _ _ { tmps := #[.pointer (some ⟨g, 0, none⟩), .iface 35 (.agg p.cells.toArray), undef, undef, .pointer (some ⟨g, 0, none⟩), .pointer (some ⟨g, 0, none⟩), .pointer (some ⟨g, 0, none⟩), .slice A xs.length c, .iface 35 (.agg p.cells.toArray), .agg p.cells.toArray, undef, undef, undef], defers := [] } _
    refine wpAny_ready (rs := [6]) (by kernel_rfl) (by simp) (AllReady.cons rfl (fun K hK => ?_) AllReady.nil)
    refine step_slice1_agg rfl 45 35 _ rfl Try.underlying45 _ p.cells Try.info_pk2 (show 0 < 4 ∧ 4 ≤ 1000 by decide) rfl rfl ?_
    refine hK _ _ ?_; clear hK K
    change wpAny _ _ _ _ _ _ { tmps := #[.pointer (some ⟨g, 0, none⟩), .iface 35 (.agg p.cells.toArray), undef, undef, .pointer (some ⟨g, 0, none⟩), .pointer (some ⟨g, 0, none⟩), .pointer (some ⟨g, 0, none⟩), .slice A xs.length c, .iface 35 (.agg p.cells.toArray), .agg p.cells.toArray, .slice (some ⟨w.heap.size, 0, none⟩) 1 1, undef, undef], defers := [] } _
    refine wpAny_ready (rs := [7]) (by kernel_rfl) (by simp) (AllReady.cons rfl (fun K hK => ?_) AllReady.nil)
    obtain ⟨i0, hi, hz0, hz1, hz2⟩ := pk_info
    refine step_append_own_at rfl _ _ 45 rfl 0 35 i0 _ 4 48 Try.underlying45 hi hz0 hz1 hz2 rfl (by decide) (.slice A xs.length c) xs.length (flatK xs) rfl (HB.out.2.1.alloc _) ⟨w.heap.size, 0, none⟩ 1 1 p.cells rfl rfl (World.news_of_block (cs := p.cells.toArray) (t := 35) (fr := (0, 0)) (heap_alloc_new w.drew _)) (pk_one p) (by simp only [maxLen]; omega) (by omega) (Nat.zero_le _) ?_
    intro v1 w1 ho1 hg1 hat1; obtain ⟨gq, cap, rfl, hr1, hm1, hn1⟩ := pk_after (W := w.drew) HB.out.2.1 ho1 hg1 hat1
    refine hK _ _ ?_; clear hK K
    change wpAny _ _ _ _ _ _ { tmps := #[.pointer (some ⟨g, 0, none⟩), .iface 35 (.agg p.cells.toArray), undef, undef, .pointer (some ⟨g, 0, none⟩), .pointer (some ⟨g, 0, none⟩), .pointer (some ⟨g, 0, none⟩), .slice A xs.length c, .iface 35 (.agg p.cells.toArray), .agg p.cells.toArray, .slice (some ⟨w.heap.size, 0, none⟩) 1 1, .slice (some ⟨gq, 0, none⟩) (xs ++ [p]).length cap, undef], defers := [] } _
    have hgg : gq ≠ g := by
      rcases hn1 with hn1 | hn1
      · rintro rfl; exact HB.out.2.2 hn1
      · have := lt_of_blk HB.out.1; have h2 : w.heap.size ≤ gq := hn1; omega
    have hb1 : NetBlk w1 g (.slice A xs.length c) o := NetBlk.mod (w := w.drew) (S := fun k => (Value.slice A xs.length c).ownBlock = some k) HB.out.1 hm1 HB.out.2.2
    refine wpAny_take (i := 8) (v := .pointer (some ⟨g, 0, none⟩)) rfl (by kernel_rfl) (by kernel_rfl) (by kernel_rfl) (fun _ _ _ h => h) (Or.inl ⟨by rfl, ?_⟩) ?_
    · (intro w; go_simp)
    change wpAny _ _ _ _ _ _ { tmps := #[.pointer (some ⟨g, 0, none⟩), .iface 35 (.agg p.cells.toArray), undef, undef, .pointer (some ⟨g, 0, none⟩), .pointer (some ⟨g, 0, none⟩), .pointer (some ⟨g, 0, none⟩), .slice A xs.length c, .iface 35 (.agg p.cells.toArray), .agg p.cells.toArray, .slice (some ⟨w.heap.size, 0, none⟩) 1 1, .slice (some ⟨gq, 0, none⟩) (xs ++ [p]).length cap, .pointer (some ⟨g, 0, none⟩)], defers := [] } _
    refine wpAny_ready (rs := [9]) (by kernel_rfl) (by simp) (AllReady.cons rfl (fun K hK => ?_) AllReady.nil)
    refine step_store rfl 45 _ _ rfl ⟨g, 0, none⟩ rfl (.slice (some ⟨gq, 0, none⟩) (xs ++ [p]).length cap) rfl (w1.setCell ⟨g, 0, none⟩ (.slice (some ⟨gq, 0, none⟩) (xs ++ [p]).length cap)) (run_store_queue hb1.cell (hb1.free 0)) ?_
    refine hK _ _ ?_; clear hK K
    change wpAny _ _ _ _ _ _ { tmps := #[.pointer (some ⟨g, 0, none⟩), .iface 35 (.agg p.cells.toArray), undef, undef, .pointer (some ⟨g, 0, none⟩), .pointer (some ⟨g, 0, none⟩), .pointer (some ⟨g, 0, none⟩), .slice A xs.length c, .iface 35 (.agg p.cells.toArray), .agg p.cells.toArray, .slice (some ⟨w.heap.size, 0, none⟩) 1 1, .slice (some ⟨gq, 0, none⟩) (xs ++ [p]).length cap, .pointer (some ⟨g, 0, none⟩)], defers := [] } _
    refine wpAny_done (by kernel_rfl) ?_ _
    go_end0
    refine ⟨rfl, gq, cap, hb1.set _, hgg, hr1.move (Below.heap_setCell _ _ _ _ hgg), hn1, ?_⟩
    exact (((Mod.refl (fun k => k = g ∨ (Value.slice A xs.length c).ownBlock = some k) w).drew).trans hm1 (fun _ h => .inl (.inr h))).setCell (.inl (.inl rfl)) _
  · refine step_slice1_agg rfl 45 35 _ rfl Try.underlying45 _ p.cells Try.info_pk2 (show 0 < 4 ∧ 4 ≤ 1000 by decide) rfl rfl ?_
    refine hK _ _ ?_; clear hK K
    change wpAny _ _ _ _ _ _ { tmps := #[.pointer (some ⟨g, 0, none⟩), .iface 35 (.agg p.cells.toArray), undef, undef, .pointer (some ⟨g, 0, none⟩), .pointer (some ⟨g, 0, none⟩), .pointer (some ⟨g, 0, none⟩), undef, .iface 35 (.agg p.cells.toArray), .agg p.cells.toArray, .slice (some ⟨w.heap.size, 0, none⟩) 1 1, undef, undef], defers := [] } _
    refine wpAny_ready (rs := [3]) (by kernel_rfl) (by simp) (AllReady.cons rfl (fun K hK => ?_) AllReady.nil)
    refine step_load rfl 45 _ rfl ⟨g, 0, none⟩ rfl (.slice A xs.length c) (run_load_queue (w := w.drew.alloc _) (NetBlk.cell (NetBlk.mod (w := w.drew) (S := fun _ => False) HB.out.1 ((Mod.refl _ _).alloc _) id)) rfl) ?_
    refine hK _ _ ?_; clear hK K
    change wpAny _ _ _ _ _ _ { tmps := #[.pointer (some ⟨g, 0, none⟩), .iface 35 (.agg p.cells.toArray), undef, undef, .pointer (some ⟨g, 0, none⟩), .pointer (some ⟨g, 0, none⟩), .pointer (some ⟨g, 0, none⟩), .slice A xs.length c, .iface 35 (.agg p.cells.toArray), .agg p.cells.toArray, .slice (some ⟨w.heap.size, 0, none⟩) 1 1, undef, undef], defers := [] } _
    refine wpAny_ready (rs := [7]) (by kernel_rfl) (by simp) (AllReady.cons rfl (fun K hK => ?_) AllReady.nil)
    obtain ⟨i0, hi, hz0, hz1, hz2⟩ := pk_info
    refine step_append_own_at rfl _ _ 45 rfl 0 35 i0 _ 4 48 Try.underlying45 hi hz0 hz1 hz2 rfl (by decide) (.slice A xs.length c) xs.length (flatK xs) rfl (HB.out.2.1.alloc _) ⟨w.heap.size, 0, none⟩ 1 1 p.cells rfl rfl (World.news_of_block (cs := p.cells.toArray) (t := 35) (fr := (0, 0)) (heap_alloc_new w.drew _)) (pk_one p) (by simp only [maxLen]; omega) (by omega) (Nat.zero_le _) ?_
    intro v1 w1 ho1 hg1 hat1; obtain ⟨gq, cap, rfl, hr1, hm1, hn1⟩ := pk_after (W := w.drew) HB.out.2.1 ho1 hg1 hat1
    refine hK _ _ ?_; clear hK K
    change wpAny _ _ _ _ _ _ { tmps := #[.pointer (some ⟨g, 0, none⟩), .iface 35 (.agg p.cells.toArray), undef, undef, .pointer (some ⟨g, 0, none⟩), .pointer (some ⟨g, 0, none⟩), .pointer (some ⟨g, 0, none⟩), .slice A xs.length c, .iface 35 (.agg p.cells.toArray), .agg p.cells.toArray, .slice (some ⟨w.heap.size, 0, none⟩) 1 1, .slice (some ⟨gq, 0, none⟩) (xs ++ [p]).length cap, undef], defers := [] } _
    have hgg : gq ≠ g := by
      rcases hn1 with hn1 | hn1
      · rintro rfl; exact HB.out.2.2 hn1
      · have := lt_of_blk HB.out.1; have h2 : w.heap.size ≤ gq := hn1; omega
    have hb1 : NetBlk w1 g (.slice A xs.length c) o := NetBlk.mod (w := w.drew) (S := fun k => (Value.slice A xs.length c).ownBlock = some k) HB.out.1 hm1 HB.out.2.2
    refine wpAny_take (i := 8) (v := .pointer (some ⟨g, 0, none⟩)) rfl (by kernel_rfl) (by kernel_rfl) (by kernel_rfl) (fun _ _ _ h => h) (Or.inl ⟨by rfl, ?_⟩) ?_
    · (intro w; go_simp)
    change wpAny _ _ _ _ _ _ { tmps := #[.pointer (some ⟨g, 0, none⟩), .iface 35 (.agg p.cells.toArray), undef, undef, .pointer (some ⟨g, 0, none⟩), .pointer (some ⟨g, 0, none⟩), .pointer (some ⟨g, 0, none⟩), .slice A xs.length c, .iface 35 (.agg p.cells.toArray), .agg p.cells.toArray, .slice (some ⟨w.heap.size, 0, none⟩) 1 1, .slice (some ⟨gq, 0, none⟩) (xs ++ [p]).length cap, .pointer (some ⟨g, 0, none⟩)], defers := [] } _
    refine wpAny_ready (rs := [9]) (by kernel_rfl) (by simp) (AllReady.cons rfl (fun K hK => ?_) AllReady.nil)
    refine step_store rfl 45 _ _ rfl ⟨g, 0, none⟩ rfl (.slice (some ⟨gq, 0, none⟩) (xs ++ [p]).length cap) rfl (w1.setCell ⟨g, 0, none⟩ (.slice (some ⟨gq, 0, none⟩) (xs ++ [p]).length cap)) (run_store_queue hb1.cell (hb1.free 0)) ?_
    refine hK _ _ ?_; clear hK K
    change wpAny _ _ _ _ _ _ { tmps := #[.pointer (some ⟨g, 0, none⟩), .iface 35 (.agg p.cells.toArray), undef, undef, .pointer (some ⟨g, 0, none⟩), .pointer (some ⟨g, 0, none⟩), .pointer (some ⟨g, 0, none⟩), .slice A xs.length c, .iface 35 (.agg p.cells.toArray), .agg p.cells.toArray, .slice (some ⟨w.heap.size, 0, none⟩) 1 1, .slice (some ⟨gq, 0, none⟩) (xs ++ [p]).length cap, .pointer (some ⟨g, 0, none⟩)], defers := [] } _
    refine wpAny_done (by kernel_rfl) ?_ _
    go_end0
    refine ⟨rfl, gq, cap, hb1.set _, hgg, hr1.move (Below.heap_setCell _ _ _ _ hgg), hn1, ?_⟩
    exact (((Mod.refl (fun k => k = g ∨ (Value.slice A xs.length c).ownBlock = some k) w).drew).trans hm1 (fun _ h => .inl (.inr h))).setCell (.inl (.inl rfl)) _
end Go.Proofs.Ytlimjdejcjgocaa
