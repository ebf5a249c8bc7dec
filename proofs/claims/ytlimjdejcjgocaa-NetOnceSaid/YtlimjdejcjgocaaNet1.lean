/- Layer 29: the queue's Less and Swap. -/
import Derived.Test.YtlimjdejcjgocaaNet0
import Derived.Test.YtlimjdejcjgocaaCmp
import Derived.StillTailTactics
import Derived.Test.YtlimjdejcjgocaaSteps
import Derived.ChangeAlike
import Derived.RegionTactic
namespace Go.Proofs.Ytlimjdejcjgocaa
open Go.RowKit
set_option linter.unusedVariables false
theorem kcompare2 (x y : Int) (w : World) : Calls Try.prog 25 #[.int .i64 x, .int .i64 y] w fun e w' => e = .returned (.int .i64 (cmpK x y)) ∧ w' = w := kcompare x y w
theorem ltK_cmp (p q : Pk) : decide ((if cmpK p.due q.due = 0 then cmpK p.seq q.seq else cmpK p.due q.due) < 0) = ltK p q := by
  rw [Bool.eq_iff_iff, decide_eq_true_iff, ltK_iff]
  unfold cmpK
  by_cases h1 : p.due < q.due
  · simp [h1]
  · by_cases h2 : q.due < p.due
    · simp [h1, h2]; omega
    · have : p.due = q.due := by omega
      by_cases h3 : p.seq < q.seq <;> by_cases h4 : q.seq < p.seq <;> simp [h3, h4, this]
theorem Try.info_pk1 : (Try.prog.info? 35).map (·.size) = some 4 := by kernel_rfl
theorem pk_addr (g i j : Nat) : (⟨g, 0, none⟩ : Addr).add (i * 4 + j) = ⟨g, i * 4 + j, none⟩ := agg_at g _
set_option maxRecDepth 100000 in
set_option maxHeartbeats 1000000 in
theorem less_any (g cap i j : Nat) (xs : List Pk) (p q : Pk) (w : World) (h : QRow w g cap xs) (hi : xs[i]? = some p) (hj : xs[j]? = some q) :
    Calls Try.prog 69 #[.slice (some ⟨g, 0, none⟩) xs.length cap, .int .i64 i, .int .i64 j] w fun e w' => e = .returned (.bool (ltK p q)) ∧ Mod (fun _ => False) w w' := by
  have i2 : w.cell? ⟨g, i * 4 + 2, none⟩ = some (.int .i64 p.due) := h.cell hi 2 (by omega)
  have i0 : w.cell? ⟨g, i * 4, none⟩ = some (.int .i64 p.seq) := h.cell hi 0 (by omega)
  have j2 : w.cell? ⟨g, j * 4 + 2, none⟩ = some (.int .i64 q.due) := h.cell hj 2 (by omega)
  have j0 : w.cell? ⟨g, j * 4, none⟩ = some (.int .i64 q.seq) := h.cell hj 0 (by omega)
  have hil := (List.getElem?_eq_some_iff.1 hi).1
  have hjl := (List.getElem?_eq_some_iff.1 hj).1
  have hm : xs.length ≤ 9223372036854775807 := by have h1 := h.1; have h2 := h.2.1; unfold maxLen at h2; omega
  have H0 := Lib.hid h; clear h hi hj
  go_enter Try.func69, Try.ntmps69
  go_wp2_with fail
  go_still_tail 22, (by kernel_rfl)
  still_call (kcompare2 _ _ _)
  repeat still_step
  still_call (kcompare2 _ _ _)
  refine wpStill_nil ?_
  change wpList _ _ _ _ _ w.drew
  have HD : Hid (Mod (fun _ => False) w w.drew) := Lib.hid (Mod.refl (fun _ => False) w).drew
  generalize w.drew = w3 at HD ⊢
  clear i0 i2 j0 j2 H0
  obtain ⟨x, hx⟩ : ∃ x, x = cmpK p.due q.due := ⟨_, rfl⟩
  obtain ⟨y, hy⟩ : ∃ y, y = cmpK p.seq q.seq := ⟨_, rfl⟩
  rw [← hx, ← hy]
  obtain ⟨z, hz⟩ : ∃ z, z = if x = 0 then y else x := ⟨_, rfl⟩
  have HZ : Hid (decide (z < 0) = ltK p q) := Lib.hid (by rw [hz, hx, hy]; exact ltK_cmp p q)
  have HC := Lib.hid (kor2 x y)
  rw [← hz] at HC
  clear hx hy hz
  go_wp2_with fail
  refine (HC.out w3.heap.size _ (cell_of_blk (heap_alloc_new w3 _) 0) (cell_of_blk (heap_alloc_new w3 _) 1)).mono ?_
  rintro e w' ⟨rfl, hm'⟩
  have HM := Lib.hid (Mod.trans (HD.out.alloc _) hm' (fun _ h => h.elim)); clear hm'
  go_wp2_with fail
  go_ret
  exact ⟨by rw [← HZ.out]; rfl, HM.out⟩
set_option maxRecDepth 100000 in
set_option maxHeartbeats 1000000 in
theorem swap_any (g cap i j : Nat) (xs : List Pk) (p q : Pk) (w : World) (h : QRow w g cap xs) (hi : xs[i]? = some p) (hj : xs[j]? = some q) :
    Calls Try.prog 70 #[.slice (some ⟨g, 0, none⟩) xs.length cap, .int .i64 i, .int .i64 j] w fun e w' => e = .returned (.tuple #[]) ∧ QRow w' g cap (swapL xs i j) ∧ Mod (fun k => k = g) w w' := by
  have hil := (List.getElem?_eq_some_iff.1 hi).1
  have hjl := (List.getElem?_eq_some_iff.1 hj).1
  have hm : xs.length ≤ 9223372036854775807 := by have h1 := h.1; have h2 := h.2.1; unfold maxLen at h2; omega
  have ri : ∀ k u, p.cells[k]? = some u → w.cell? ((⟨g, i * 4, none⟩ : Addr).add k) = some u := fun k u hu => by
    rw [add_own, h.cell hi k (by have := (List.getElem?_eq_some_iff.1 hu).1; simpa [Pk.cells] using this)]; exact hu
  have rj : ∀ k u, q.cells[k]? = some u → w.cell? ((⟨g, j * 4, none⟩ : Addr).add k) = some u := fun k u hu => by
    rw [add_own, h.cell hj k (by have := (List.getElem?_eq_some_iff.1 hu).1; simpa [Pk.cells] using this)]; exact hu
  have hsw : swapL xs i j = (xs.set i q).set j p := by unfold swapL; rw [hi, hj]
  have H0 := Lib.hid (And.intro h (And.intro hsw (And.intro ri rj))); clear h hi hj hsw ri rj
  go_enter Try.func70, Try.ntmps70
  obtain ⟨hc, hx, rest, hl, hb⟩ := H0.out.1
  have HD := Lib.hid (And.intro hc (And.intro hx hl)); clear hc hx hl
  have F1 : Hid (i * 4 + q.cells.length ≤ (flatK xs ++ rest).length) := Lib.hid (by rw [List.length_append, flatK_length]; simp [Pk.cells]; omega)
  have HB : Hid (w.drew.heap[g]? = some (.cells (flatK xs ++ rest).toArray 35 (0, 0))) := Lib.hid hb
  clear hb
  refine wp_region_any (by kernel_rfl) ?_
  change wpAny _ _ _ _ _ _ _ (World.drew _)
  refine wpAny_take (i := 0) (v := .slice (some ⟨g, 0, none⟩) xs.length cap) rfl (by kernel_rfl) (by kernel_rfl) (by kernel_rfl) (fun _ _ _ h => h) (Or.inl ⟨by rfl, ?_⟩) ?_
  · (intro w; go_simp)
  change wpAny _ _ _ _ _ _ { tmps := #[.slice (some ⟨g, 0, none⟩) xs.length cap, .int .i64 i, .int .i64 j, undef, undef, undef, .slice (some ⟨g, 0, none⟩) xs.length cap, undef, undef, undef, undef, undef, undef, undef, undef, undef, undef, undef, undef, undef], defers := [] } _
  refine wpAny_take (i := 1) (v := .int .i64 i) rfl (by kernel_rfl) (by kernel_rfl) (by kernel_rfl) (fun _ _ _ h => h) (Or.inl ⟨by rfl, ?_⟩) ?_
  · (intro w; go_simp)
  change wpAny _ _ _ _ _ _ { tmps := #[.slice (some ⟨g, 0, none⟩) xs.length cap, .int .i64 i, .int .i64 j, undef, undef, undef, .slice (some ⟨g, 0, none⟩) xs.length cap, .int .i64 i, undef, undef, undef, undef, undef, undef, undef, undef, undef, undef, undef, undef], defers := [] } _
  refine wpAny_take (i := 2) (v := .slice (some ⟨g, 0, none⟩) xs.length cap) rfl (by kernel_rfl) (by kernel_rfl) (by kernel_rfl) (fun _ _ _ h => h) (Or.inl ⟨by rfl, ?_⟩) ?_
  · (intro w; go_simp)
  change wpAny _ _ _ _ _ _ { tmps := #[.slice (some ⟨g, 0, none⟩) xs.length cap, .int .i64 i, .int .i64 j, undef, undef, undef, .slice (some ⟨g, 0, none⟩) xs.length cap, .int .i64 i, .slice (some ⟨g, 0, none⟩) xs.length cap, undef, undef, undef, undef, undef, undef, undef, undef, undef, undef, undef], defers := [] } _
  refine wpAny_take (i := 3) (v := .int .i64 j) rfl (by kernel_rfl) (by kernel_rfl) (by kernel_rfl) (fun _ _ _ h => h) (Or.inl ⟨by rfl, ?_⟩) ?_
  · (intro w; go_simp)
  change wpAny _ _ _ _ _ _ { tmps := #[.slice (some ⟨g, 0, none⟩) xs.length cap, .int .i64 i, .int .i64 j, undef, undef, undef, .slice (some ⟨g, 0, none⟩) xs.length cap, .int .i64 i, .slice (some ⟨g, 0, none⟩) xs.length cap, .int .i64 j, undef, undef, undef, undef, undef, undef, undef, undef, undef, undef], defers := [] } _
  refine wpAny_take (i := 4) (v := .slice (some ⟨g, 0, none⟩) xs.length cap) rfl (by kernel_rfl) (by kernel_rfl) (by kernel_rfl) (fun _ _ _ h => h) (Or.inl ⟨by rfl, ?_⟩) ?_
  · (intro w; go_simp)
  change wpAny _ _ _ _ _ _ { tmps := #[.slice (some ⟨g, 0, none⟩) xs.length cap, .int .i64 i, .int .i64 j, undef, undef, undef, .slice (some ⟨g, 0, none⟩) xs.length cap, .int .i64 i, .slice (some ⟨g, 0, none⟩) xs.length cap, .int .i64 j, .slice (some ⟨g, 0, none⟩) xs.length cap, undef, undef, undef, undef, undef, undef, undef, undef, undef], defers := [] } _
  refine wpAny_take (i := 5) (v := .int .i64 j) rfl (by kernel_rfl) (by kernel_rfl) (by kernel_rfl) (fun _ _ _ h => h) (Or.inl ⟨by rfl, ?_⟩) ?_
  · (intro w; go_simp)
  change wpAny _ _ _ _ _ _ { tmps := #[.slice (some ⟨g, 0, none⟩) xs.length cap, .int .i64 i, .int .i64 j, undef, undef, undef, .slice (some ⟨g, 0, none⟩) xs.length cap, .int .i64 i, .slice (some ⟨g, 0, none⟩) xs.length cap, .int .i64 j, .slice (some ⟨g, 0, none⟩) xs.length cap, .int .i64 j, undef, undef, undef, undef, undef, undef, undef, undef], defers := [] } _
  refine wpAny_take (i := 6) (v := .pointer (some ⟨g, j * 4, none⟩)) rfl (by kernel_rfl) (by kernel_rfl) (by kernel_rfl) (fun _ _ _ h => h) (Or.inl ⟨by rfl, ?_⟩) ?_
  · (intro w; go_simp)
  change wpAny _ _ _ _ _ _ { tmps := #[.slice (some ⟨g, 0, none⟩) xs.length cap, .int .i64 i, .int .i64 j, undef, undef, undef, .slice (some ⟨g, 0, none⟩) xs.length cap, .int .i64 i, .slice (some ⟨g, 0, none⟩) xs.length cap, .int .i64 j, .slice (some ⟨g, 0, none⟩) xs.length cap, .int .i64 j, .pointer (some ⟨g, j * 4, none⟩), undef, undef, undef, undef, undef, undef, undef], defers := [] } _
  refine wpAny_take (i := 8) (v := .slice (some ⟨g, 0, none⟩) xs.length cap) rfl (by kernel_rfl) (by kernel_rfl) (by kernel_rfl) (fun _ _ _ h => h) (Or.inl ⟨by rfl, ?_⟩) ?_
  · (intro w; go_simp)
  change wpAny _ _ _ _ _ _ { tmps := #[.slice (some ⟨g, 0, none⟩) xs.length cap, .int .i64 i, .int .i64 j, undef, undef, undef, .slice (some ⟨g, 0, none⟩) xs.length cap, .int .i64 i, .slice (some ⟨g, 0, none⟩) xs.length cap, .int .i64 j, .slice (some ⟨g, 0, none⟩) xs.length cap, .int .i64 j, .pointer (some ⟨g, j * 4, none⟩), undef, .slice (some ⟨g, 0, none⟩) xs.length cap, undef, undef, undef, undef, undef], defers := [] } _
  refine wpAny_take (i := 9) (v := .int .i64 i) rfl (by kernel_rfl) (by kernel_rfl) (by kernel_rfl) (fun _ _ _ h => h) (Or.inl ⟨by rfl, ?_⟩) ?_
  · (intro w; go_simp)
  change wpAny _ _ _ _ _ _ { tmps := #[.slice (some ⟨g, 0, none⟩) xs.length cap, .int .i64 i, .int .i64 j, undef, undef, undef, .slice (some ⟨g, 0, none⟩) xs.length cap, .int .i64 i, .slice (some ⟨g, 0, none⟩) xs.length cap, .int .i64 j, .slice (some ⟨g, 0, none⟩) xs.length cap, .int .i64 j, .pointer (some ⟨g, j * 4, none⟩), undef, .slice (some ⟨g, 0, none⟩) xs.length cap, .int .i64 i, undef, undef, undef, undef], defers := [] } _
  refine wpAny_take (i := 10) (v := .pointer (some ⟨g, i * 4, none⟩)) rfl (by kernel_rfl) (by kernel_rfl) (by kernel_rfl) (fun _ _ _ h => h) (Or.inl ⟨by rfl, ?_⟩) ?_
  · (intro w; go_simp)
  change wpAny _ _ _ _ _ _ { tmps := #[.slice (some ⟨g, 0, none⟩) xs.length cap, .int .i64 i, .int .i64 j, undef, undef, undef, .slice (some ⟨g, 0, none⟩) xs.length cap, .int .i64 i, .slice (some ⟨g, 0, none⟩) xs.length cap, .int .i64 j, .slice (some ⟨g, 0, none⟩) xs.length cap, .int .i64 j, .pointer (some ⟨g, j * 4, none⟩), undef, .slice (some ⟨g, 0, none⟩) xs.length cap, .int .i64 i, .pointer (some ⟨g, i * 4, none⟩), undef, undef, undef], defers := [] } _
  refine wpAny_ready (rs := [7, 11]) (by kernel_rfl) (by simp) (AllReady.cons rfl (fun K hK => ?_) (AllReady.cons rfl (fun K hK => ?_) AllReady.nil))
  · (refine step_load_agg rfl 35 _ rfl Try.underlying35 Try.info_pk1 ⟨g, j * 4, none⟩ rfl q.cells rfl (fun k u hu => H0.out.2.2.2 k u hu) ?_); refine hK _ _ ?_; clear hK K
    change wpAny _ _ _ _ _ _ { tmps := #[.slice (some ⟨g, 0, none⟩) xs.length cap, .int .i64 i, .int .i64 j, undef, undef, undef, .slice (some ⟨g, 0, none⟩) xs.length cap, .int .i64 i, .slice (some ⟨g, 0, none⟩) xs.length cap, .int .i64 j, .slice (some ⟨g, 0, none⟩) xs.length cap, .int .i64 j, .pointer (some ⟨g, j * 4, none⟩), .agg q.cells.toArray, .slice (some ⟨g, 0, none⟩) xs.length cap, .int .i64 i, .pointer (some ⟨g, i * 4, none⟩), undef, undef, undef], defers := [] } _
    refine wpAny_ready (rs := [11]) (by kernel_rfl) (by simp) (AllReady.cons rfl (fun K hK => ?_) AllReady.nil)
    (refine step_load_agg rfl 35 _ rfl Try.underlying35 Try.info_pk1 ⟨g, i * 4, none⟩ rfl p.cells rfl (fun k u hu => H0.out.2.2.1 k u hu) ?_); refine hK _ _ ?_; clear hK K
    change wpAny _ _ _ _ _ _ { tmps := #[.slice (some ⟨g, 0, none⟩) xs.length cap, .int .i64 i, .int .i64 j, undef, undef, undef, .slice (some ⟨g, 0, none⟩) xs.length cap, .int .i64 i, .slice (some ⟨g, 0, none⟩) xs.length cap, .int .i64 j, .slice (some ⟨g, 0, none⟩) xs.length cap, .int .i64 j, .pointer (some ⟨g, j * 4, none⟩), .agg q.cells.toArray, .slice (some ⟨g, 0, none⟩) xs.length cap, .int .i64 i, .pointer (some ⟨g, i * 4, none⟩), .agg p.cells.toArray, undef, undef], defers := [] } _
    refine wpAny_take (i := 12) (v := .pointer (some ⟨g, i * 4, none⟩)) rfl (by kernel_rfl) (by kernel_rfl) (by kernel_rfl) (fun _ _ _ h => h) (Or.inl ⟨by rfl, ?_⟩) ?_
    · (intro w; go_simp)
    change wpAny _ _ _ _ _ _ { tmps := #[.slice (some ⟨g, 0, none⟩) xs.length cap, .int .i64 i, .int .i64 j, undef, undef, undef, .slice (some ⟨g, 0, none⟩) xs.length cap, .int .i64 i, .slice (some ⟨g, 0, none⟩) xs.length cap, .int .i64 j, .slice (some ⟨g, 0, none⟩) xs.length cap, .int .i64 j, .pointer (some ⟨g, j * 4, none⟩), .agg q.cells.toArray, .slice (some ⟨g, 0, none⟩) xs.length cap, .int .i64 i, .pointer (some ⟨g, i * 4, none⟩), .agg p.cells.toArray, .pointer (some ⟨g, i * 4, none⟩), undef], defers := [] } _
    refine wpAny_ready (rs := [13]) (by kernel_rfl) (by simp) (AllReady.cons rfl (fun K hK => ?_) AllReady.nil)
    refine step_store_at rfl 35 _ _ rfl g (i * 4) 35 (flatK xs ++ rest) q.cells HB.out rfl rfl Try.info_pk1 F1.out (pk_one q) ?_
    intro w4 hb4 hm4
    refine hK _ _ ?_; clear hK K
    change wpAny _ _ _ _ _ _ { tmps := #[.slice (some ⟨g, 0, none⟩) xs.length cap, .int .i64 i, .int .i64 j, undef, undef, undef, .slice (some ⟨g, 0, none⟩) xs.length cap, .int .i64 i, .slice (some ⟨g, 0, none⟩) xs.length cap, .int .i64 j, .slice (some ⟨g, 0, none⟩) xs.length cap, .int .i64 j, .pointer (some ⟨g, j * 4, none⟩), .agg q.cells.toArray, .slice (some ⟨g, 0, none⟩) xs.length cap, .int .i64 i, .pointer (some ⟨g, i * 4, none⟩), .agg p.cells.toArray, .pointer (some ⟨g, i * 4, none⟩), undef], defers := [] } _
    have h4 := (QRow.store q hil HD.out.1 HD.out.2.1 HD.out.2.2 hb4).1
    have hl4 : (flatK (xs.set i q) ++ rest).length = cap * 4 := by rw [← HD.out.2.2]; simp [flatK_length]
    have f2 : j * 4 + p.cells.length ≤ (flatK (xs.set i q) ++ rest).length := by rw [List.length_append, flatK_length]; simp [Pk.cells]; omega
    have H4 := Lib.hid (And.intro h4 (And.intro hl4 (And.intro f2 hm4))); clear h4 hl4 f2 hm4 hb4
    refine wpAny_take (i := 14) (v := .pointer (some ⟨g, j * 4, none⟩)) rfl (by kernel_rfl) (by kernel_rfl) (by kernel_rfl) (fun _ _ _ h => h) (Or.inl ⟨by rfl, ?_⟩) ?_
    · (intro w; go_simp)
    change wpAny _ _ _ _ _ _ { tmps := #[.slice (some ⟨g, 0, none⟩) xs.length cap, .int .i64 i, .int .i64 j, undef, undef, undef, .slice (some ⟨g, 0, none⟩) xs.length cap, .int .i64 i, .slice (some ⟨g, 0, none⟩) xs.length cap, .int .i64 j, .slice (some ⟨g, 0, none⟩) xs.length cap, .int .i64 j, .pointer (some ⟨g, j * 4, none⟩), .agg q.cells.toArray, .slice (some ⟨g, 0, none⟩) xs.length cap, .int .i64 i, .pointer (some ⟨g, i * 4, none⟩), .agg p.cells.toArray, .pointer (some ⟨g, i * 4, none⟩), .pointer (some ⟨g, j * 4, none⟩)], defers := [] } _
    refine wpAny_ready (rs := [15]) (by kernel_rfl) (by simp) (AllReady.cons rfl (fun K hK => ?_) AllReady.nil)
    refine step_store_at rfl 35 _ _ rfl g (j * 4) 35 (flatK (xs.set i q) ++ rest) p.cells H4.out.1 rfl rfl Try.info_pk1 H4.out.2.2.1 (pk_one p) ?_
    intro w5 hb5 hm5
    refine hK _ _ ?_; clear hK K
    change wpAny _ _ _ _ _ _ { tmps := #[.slice (some ⟨g, 0, none⟩) xs.length cap, .int .i64 i, .int .i64 j, undef, undef, undef, .slice (some ⟨g, 0, none⟩) xs.length cap, .int .i64 i, .slice (some ⟨g, 0, none⟩) xs.length cap, .int .i64 j, .slice (some ⟨g, 0, none⟩) xs.length cap, .int .i64 j, .pointer (some ⟨g, j * 4, none⟩), .agg q.cells.toArray, .slice (some ⟨g, 0, none⟩) xs.length cap, .int .i64 i, .pointer (some ⟨g, i * 4, none⟩), .agg p.cells.toArray, .pointer (some ⟨g, i * 4, none⟩), .pointer (some ⟨g, j * 4, none⟩)], defers := [] } _
    have h5 := (QRow.store p (by simpa using hjl) (by simpa using HD.out.1) HD.out.2.1 H4.out.2.1 hb5).2
    have H5 := Lib.hid (And.intro h5 hm5); clear h5 hm5 hb5
    refine wpAny_done (by kernel_rfl) ?_ _
    go_end0
    refine ⟨rfl, by rw [H0.out.2.1]; exact H5.out.1, ((Mod.refl (fun k => k = g) w).drew.trans H4.out.2.2.2 (fun _ h => .inl h)).trans H5.out.2 (fun _ h => .inl h)⟩
  · (refine step_load_agg rfl 35 _ rfl Try.underlying35 Try.info_pk1 ⟨g, i * 4, none⟩ rfl p.cells rfl (fun k u hu => H0.out.2.2.1 k u hu) ?_); refine hK _ _ ?_; clear hK K
    change wpAny _ _ _ _ _ _ { tmps := #[.slice (some ⟨g, 0, none⟩) xs.length cap, .int .i64 i, .int .i64 j, undef, undef, undef, .slice (some ⟨g, 0, none⟩) xs.length cap, .int .i64 i, .slice (some ⟨g, 0, none⟩) xs.length cap, .int .i64 j, .slice (some ⟨g, 0, none⟩) xs.length cap, .int .i64 j, .pointer (some ⟨g, j * 4, none⟩), undef, .slice (some ⟨g, 0, none⟩) xs.length cap, .int .i64 i, .pointer (some ⟨g, i * 4, none⟩), .agg p.cells.toArray, undef, undef], defers := [] } _
    refine wpAny_ready (rs := [7]) (by kernel_rfl) (by simp) (AllReady.cons rfl (fun K hK => ?_) AllReady.nil)
    (refine step_load_agg rfl 35 _ rfl Try.underlying35 Try.info_pk1 ⟨g, j * 4, none⟩ rfl q.cells rfl (fun k u hu => H0.out.2.2.2 k u hu) ?_); refine hK _ _ ?_; clear hK K
    change wpAny _ _ _ _ _ _ { tmps := #[.slice (some ⟨g, 0, none⟩) xs.length cap, .int .i64 i, .int .i64 j, undef, undef, undef, .slice (some ⟨g, 0, none⟩) xs.length cap, .int .i64 i, .slice (some ⟨g, 0, none⟩) xs.length cap, .int .i64 j, .slice (some ⟨g, 0, none⟩) xs.length cap, .int .i64 j, .pointer (some ⟨g, j * 4, none⟩), .agg q.cells.toArray, .slice (some ⟨g, 0, none⟩) xs.length cap, .int .i64 i, .pointer (some ⟨g, i * 4, none⟩), .agg p.cells.toArray, undef, undef], defers := [] } _
    refine wpAny_take (i := 12) (v := .pointer (some ⟨g, i * 4, none⟩)) rfl (by kernel_rfl) (by kernel_rfl) (by kernel_rfl) (fun _ _ _ h => h) (Or.inl ⟨by rfl, ?_⟩) ?_
    · (intro w; go_simp)
    change wpAny _ _ _ _ _ _ { tmps := #[.slice (some ⟨g, 0, none⟩) xs.length cap, .int .i64 i, .int .i64 j, undef, undef, undef, .slice (some ⟨g, 0, none⟩) xs.length cap, .int .i64 i, .slice (some ⟨g, 0, none⟩) xs.length cap, .int .i64 j, .slice (some ⟨g, 0, none⟩) xs.length cap, .int .i64 j, .pointer (some ⟨g, j * 4, none⟩), .agg q.cells.toArray, .slice (some ⟨g, 0, none⟩) xs.length cap, .int .i64 i, .pointer (some ⟨g, i * 4, none⟩), .agg p.cells.toArray, .pointer (some ⟨g, i * 4, none⟩), undef], defers := [] } _
    refine wpAny_ready (rs := [13]) (by kernel_rfl) (by simp) (AllReady.cons rfl (fun K hK => ?_) AllReady.nil)
    refine step_store_at rfl 35 _ _ rfl g (i * 4) 35 (flatK xs ++ rest) q.cells HB.out rfl rfl Try.info_pk1 F1.out (pk_one q) ?_
    intro w4 hb4 hm4
    refine hK _ _ ?_; clear hK K
    change wpAny _ _ _ _ _ _ { tmps := #[.slice (some ⟨g, 0, none⟩) xs.length cap, .int .i64 i, .int .i64 j, undef, undef, undef, .slice (some ⟨g, 0, none⟩) xs.length cap, .int .i64 i, .slice (some ⟨g, 0, none⟩) xs.length cap, .int .i64 j, .slice (some ⟨g, 0, none⟩) xs.length cap, .int .i64 j, .pointer (some ⟨g, j * 4, none⟩), .agg q.cells.toArray, .slice (some ⟨g, 0, none⟩) xs.length cap, .int .i64 i, .pointer (some ⟨g, i * 4, none⟩), .agg p.cells.toArray, .pointer (some ⟨g, i * 4, none⟩), undef], defers := [] } _
    have h4 := (QRow.store q hil HD.out.1 HD.out.2.1 HD.out.2.2 hb4).1
    have hl4 : (flatK (xs.set i q) ++ rest).length = cap * 4 := by rw [← HD.out.2.2]; simp [flatK_length]
    have f2 : j * 4 + p.cells.length ≤ (flatK (xs.set i q) ++ rest).length := by rw [List.length_append, flatK_length]; simp [Pk.cells]; omega
    have H4 := Lib.hid (And.intro h4 (And.intro hl4 (And.intro f2 hm4))); clear h4 hl4 f2 hm4 hb4
    refine wpAny_take (i := 14) (v := .pointer (some ⟨g, j * 4, none⟩)) rfl (by kernel_rfl) (by kernel_rfl) (by kernel_rfl) (fun _ _ _ h => h) (Or.inl ⟨by rfl, ?_⟩) ?_
    · (intro w; go_simp)
    change wpAny _ _ _ _ _ _ { tmps := #[.slice (some ⟨g, 0, none⟩) xs.length cap, .int .i64 i, .int .i64 j, undef, undef, undef, .slice (some ⟨g, 0, none⟩) xs.length cap, .int .i64 i, .slice (some ⟨g, 0, none⟩) xs.length cap, .int .i64 j, .slice (some ⟨g, 0, none⟩) xs.length cap, .int .i64 j, .pointer (some ⟨g, j * 4, none⟩), .agg q.cells.toArray, .slice (some ⟨g, 0, none⟩) xs.length cap, .int .i64 i, .pointer (some ⟨g, i * 4, none⟩), .agg p.cells.toArray, .pointer (some ⟨g, i * 4, none⟩), .pointer (some ⟨g, j * 4, none⟩)], defers := [] } _
    refine wpAny_ready (rs := [15]) (by kernel_rfl) (by simp) (AllReady.cons rfl (fun K hK => ?_) AllReady.nil)
    refine step_store_at rfl 35 _ _ rfl g (j * 4) 35 (flatK (xs.set i q) ++ rest) p.cells H4.out.1 rfl rfl Try.info_pk1 H4.out.2.2.1 (pk_one p) ?_
    intro w5 hb5 hm5
    refine hK _ _ ?_; clear hK K
    change wpAny _ _ _ _ _ _ { tmps := #[.slice (some ⟨g, 0, none⟩) xs.length cap, .int .i64 i, .int .i64 j, undef, undef, undef, .slice (some ⟨g, 0, none⟩) xs.length cap, .int .i64 i, .slice (some ⟨g, 0, none⟩) xs.length cap, .int .i64 j, .slice (some ⟨g, 0, none⟩) xs.length cap, .int .i64 j, .pointer (some ⟨g, j * 4, none⟩), .agg q.cells.toArray, .slice (some ⟨g, 0, none⟩) xs.length cap, .int .i64 i, .pointer (some ⟨g, i * 4, none⟩), .agg p.cells.toArray, .pointer (some ⟨g, i * 4, none⟩), .pointer (some ⟨g, j * 4, none⟩)], defers := [] } _
    have h5 := (QRow.store p (by simpa using hjl) (by simpa using HD.out.1) HD.out.2.1 H4.out.2.1 hb5).2
    have H5 := Lib.hid (And.intro h5 hm5); clear h5 hm5 hb5
    refine wpAny_done (by kernel_rfl) ?_ _
    go_end0
    refine ⟨rfl, by rw [H0.out.2.1]; exact H5.out.1, ((Mod.refl (fun k => k = g) w).drew.trans H4.out.2.2.2 (fun _ h => .inl h)).trans H5.out.2 (fun _ h => .inl h)⟩
end Go.Proofs.Ytlimjdejcjgocaa
