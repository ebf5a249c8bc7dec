/- Layer 29: packets sorted by their numbers, one or two of them. -/
import Derived.Test.YtlimjdejcjgocaaNet10
namespace Go.Proofs.Ytlimjdejcjgocaa
open Go.RowKit
set_option linter.unusedVariables false
set_option maxRecDepth 100000 in
set_option maxHeartbeats 1000000 in
theorem place1_any (p q : Pk) (w : World) :
    Calls Try.prog 24 #[.agg p.cells.toArray, .agg q.cells.toArray] w fun e w' => e = .returned (.int .i64 (cmpK p.seq q.seq)) ∧ Mod (fun _ => False) w w' := by
  go_enter Try.func24, Try.ntmps24
  go_wp2_with (refine wpList_box_new rfl 35 (.tmp 0) rfl p.cells rfl ?_)
  intro g1 w1 hg1 hb1 hm1
  go_wp2_with (refine wpList_box_new rfl 35 (.tmp 1) rfl q.cells rfl ?_)
  intro g2 w2 hg2 hb2 hm2
  have c1 : w2.cell? ⟨g1, 0, none⟩ = some (.int .i64 p.seq) := by rw [cell_of_blk (((hm2 fun _ => False).block g1 (lt_of_blk hb1) id).trans hb1)]; rfl
  have c2 : w2.cell? ⟨g2, 0, none⟩ = some (.int .i64 q.seq) := by rw [cell_of_blk hb2]; rfl
  have HM := Lib.hid ((hm1 fun _ => False).trans (hm2 fun _ => False) (fun _ h => h.elim)); clear hm1 hm2 hb1 hb2 hg1 hg2
  go_wp2_with fail
  refine (kcompare p.seq q.seq w2).mono ?_
  rintro e w3 ⟨rfl, rfl⟩
  go_wp2_with fail
  go_ret
  exact ⟨rfl, HM.out⟩
set_option maxRecDepth 100000 in
theorem bitslen64_any (n : Nat) (hn : n = 1 ∨ n = 2) (w : World) : Calls Try.prog 44 #[.int .u64 n] w fun e w' => (∃ v, e = .returned (.int .i64 v)) ∧ w = w' := by
  rcases hn with rfl | rfl
  all_goals
    go_enter Try.func44, Try.ntmps44
    go_wp2
    go_ret
    exact ⟨⟨_, rfl⟩, rfl⟩
set_option maxRecDepth 100000 in
theorem bitslen_any (n : Nat) (hn : n = 1 ∨ n = 2) (w : World) : Calls Try.prog 34 #[.int .u64 n] w fun e w' => (∃ v, e = .returned (.int .i64 v)) ∧ w = w' := by
  have H := Lib.hid (bitslen64_any n hn w)
  rcases hn with rfl | rfl
  all_goals
    go_enter Try.func34, Try.ntmps34
    go_wp2_with fail
    refine H.out.mono ?_
    rintro e w1 ⟨⟨v, rfl⟩, rfl⟩
    go_wp2_with fail
    go_ret
    exact ⟨⟨_, rfl⟩, rfl⟩
set_option maxRecDepth 100000 in
set_option maxHeartbeats 1000000 in
theorem insert1_any (g cap : Nat) (p : Pk) (fv : Value) (w : World) :
    Calls Try.prog 35 #[.slice (some ⟨g, 0, none⟩) 1 cap, .int .i64 0, .int .i64 1, fv] w fun e w' => e = .returned (.tuple #[]) ∧ w = w' := by
  go_enter Try.func35, Try.ntmps35
  go_wp2_with fail
  refine wp_loop_rounds 1 ?_
  rw [rounds_succ]
  go_wp2_with fail
  go_end0
  exact ⟨rfl, rfl⟩
set_option maxRecDepth 100000 in
set_option maxHeartbeats 1000000 in
theorem insert2_any (g cap : Nat) (p q : Pk) (w : World) (h : QRow w g cap [p, q]) (hpq : q.seq < p.seq) :
    Calls Try.prog 35 #[.slice (some ⟨g, 0, none⟩) 2 cap, .int .i64 0, .int .i64 2, .func (.func 24) #[] #[]] w fun e w' => e = .returned (.tuple #[]) ∧ QRow w' g cap [q, p] ∧ Mod (fun k => k = g) w w' := by
  have hc : cmpK q.seq p.seq = -1 := by unfold cmpK; rw [if_pos hpq]
  have hcap : 2 ≤ cap := by have := h.1; simpa using this
  have r0 : ∀ k u, p.cells[k]? = some u → w.cell? ((⟨g, 0, none⟩ : Addr).add k) = some u := fun k u hu => by
    have := h.cell (i := 0) (p := p) rfl k (by have := (List.getElem?_eq_some_iff.1 hu).1; simpa [Pk.cells] using this)
    rw [add_own, show 0 + k = 0 * 4 + k by omega, this]; exact hu
  have r1 : ∀ k u, q.cells[k]? = some u → w.cell? ((⟨g, 4, none⟩ : Addr).add k) = some u := fun k u hu => by
    have := h.cell (i := 1) (p := q) rfl k (by have := (List.getElem?_eq_some_iff.1 hu).1; simpa [Pk.cells] using this)
    rw [add_own, show 4 + k = 1 * 4 + k by omega, this]; exact hu
  have H0 := Lib.hid (And.intro h (And.intro r0 r1)); have HC := Lib.hid (place1_any q p); rw [hc] at HC; clear h r0 r1 hpq hc
  go_enter Try.func35, Try.ntmps35
  go_wp2_with fail
  refine wp_loop_rounds 2 ?_
  rw [rounds_succ]
  go_wp2_with fail
  refine wp_loop_rounds 2 ?_
  rw [rounds_succ]
  go_wp2_with fail
  have hw0 : IntKind.i64.wrap 0 = 0 := by decide
  go_still_tail 14, (by kernel_rfl)
  repeat still_step
  refine wpStill_agg rfl 35 _ rfl Try.underlying35 Try.info_pk1 ⟨g, 4, none⟩ rfl q.cells rfl (fun k u hu => H0.out.2.2 k u hu) ?_
  repeat still_step
  refine wpStill_agg rfl 35 _ rfl Try.underlying35 Try.info_pk1 ⟨g, 0, none⟩ rfl p.cells rfl (fun k u hu => H0.out.2.1 k u hu) ?_
  refine wpStill_nil ?_
  change wpList _ _ _ _ _ w.drew
  go_wp2_with fail
  refine (HC.out w.drew).mono ?_
  rintro e w1 ⟨rfl, hm1⟩
  have h1 : QRow w1 g cap [p, q] := QRow.move (w := w.drew) H0.out.1 (hm1.block g H0.out.1.lt id)
  have M1 : Mod (fun k => k = g) w w1 := ((Mod.refl (fun k => k = g) w).drew).trans hm1 (fun _ h => h.elim)
  have r0 : ∀ k u, p.cells[k]? = some u → w1.cell? ((⟨g, 0, none⟩ : Addr).add k) = some u := fun k u hu => by
    have := h1.cell (i := 0) (p := p) rfl k (by have := (List.getElem?_eq_some_iff.1 hu).1; simpa [Pk.cells] using this)
    rw [add_own, show 0 + k = 0 * 4 + k by omega, this]; exact hu
  have r1 : ∀ k u, q.cells[k]? = some u → w1.cell? ((⟨g, 4, none⟩ : Addr).add k) = some u := fun k u hu => by
    have := h1.cell (i := 1) (p := q) rfl k (by have := (List.getElem?_eq_some_iff.1 hu).1; simpa [Pk.cells] using this)
    rw [add_own, show 4 + k = 1 * 4 + k by omega, this]; exact hu
  have H1 := Lib.hid (And.intro h1 (And.intro r0 (And.intro r1 M1))); clear h1 r0 r1 M1 hm1
  go_wp2_with fail
  obtain ⟨hc, hx, rest, hl, hb⟩ := H1.out.1
  have HD := Lib.hid (And.intro hc (And.intro hx hl)); clear hc hx hl
  have F1 : Hid (4 + p.cells.length ≤ (flatK [p, q] ++ rest).length) := Lib.hid (by rw [List.length_append, flatK_length]; simp [Pk.cells])
  have HB : Hid (w1.drew.heap[g]? = some (.cells (flatK [p, q] ++ rest).toArray 35 (0, 0))) := Lib.hid hb
  clear hb
  refine wp_region_any (by kernel_rfl) ?_
  change wpAny _ _ _ _ _ _ _ (World.drew _)
  refine wpAny_take (i := 0) (v := .slice (some ⟨g, 0, none⟩) 2 cap) rfl (by kernel_rfl) (by kernel_rfl) (by kernel_rfl) (fun _ _ _ h => h) (Or.inl ⟨by rfl, ?_⟩) ?_
  · (intro w; go_simp)
  change wpAny _ _ _ _ _ _ { tmps := #[.slice (some ⟨g, 0, none⟩) 2 cap, .int .i64 0, .int .i64 2, .func (.func 24) #[] #[], undef, undef, undef, undef, .int .i64 1, .int .i64 1, .int .i64 0, .int .i64 1, .int .i64 1, .int .i64 2, .bool true, undef, undef, .int .i64 1, .int .i64 1, .int .i64 0, .bool true, .bool true, .func (.func 24) #[] #[], .slice (some ⟨g, 0, none⟩) 2 cap, .int .i64 1, .pointer (some ⟨g, 4, none⟩), .agg q.cells.toArray, .slice (some ⟨g, 0, none⟩) 2 cap, .int .i64 1, .int .i64 0, .pointer (some ⟨g, 0, none⟩), .agg p.cells.toArray, .int .i64 (-1), .bool true, .bool true, undef, undef, .slice (some ⟨g, 0, none⟩) 2 cap, undef, undef, undef, undef, undef, undef, undef, undef, undef, undef, undef, undef, undef, undef, undef], defers := [] } _
  refine wpAny_take (i := 1) (v := .int .i64 1) rfl (by kernel_rfl) (by kernel_rfl) (by kernel_rfl) (fun _ _ _ h => h) (Or.inl ⟨by rfl, ?_⟩) ?_
  · (intro w; go_simp)
  change wpAny _ _ _ _ _ _ { tmps := #[.slice (some ⟨g, 0, none⟩) 2 cap, .int .i64 0, .int .i64 2, .func (.func 24) #[] #[], undef, undef, undef, undef, .int .i64 1, .int .i64 1, .int .i64 0, .int .i64 1, .int .i64 1, .int .i64 2, .bool true, undef, undef, .int .i64 1, .int .i64 1, .int .i64 0, .bool true, .bool true, .func (.func 24) #[] #[], .slice (some ⟨g, 0, none⟩) 2 cap, .int .i64 1, .pointer (some ⟨g, 4, none⟩), .agg q.cells.toArray, .slice (some ⟨g, 0, none⟩) 2 cap, .int .i64 1, .int .i64 0, .pointer (some ⟨g, 0, none⟩), .agg p.cells.toArray, .int .i64 (-1), .bool true, .bool true, undef, undef, .slice (some ⟨g, 0, none⟩) 2 cap, .int .i64 1, undef, undef, undef, undef, undef, undef, undef, undef, undef, undef, undef, undef, undef, undef], defers := [] } _
  refine wpAny_take (i := 2) (v := .slice (some ⟨g, 0, none⟩) 2 cap) rfl (by kernel_rfl) (by kernel_rfl) (by kernel_rfl) (fun _ _ _ h => h) (Or.inl ⟨by rfl, ?_⟩) ?_
  · (intro w; go_simp)
  change wpAny _ _ _ _ _ _ { tmps := #[.slice (some ⟨g, 0, none⟩) 2 cap, .int .i64 0, .int .i64 2, .func (.func 24) #[] #[], undef, undef, undef, undef, .int .i64 1, .int .i64 1, .int .i64 0, .int .i64 1, .int .i64 1, .int .i64 2, .bool true, undef, undef, .int .i64 1, .int .i64 1, .int .i64 0, .bool true, .bool true, .func (.func 24) #[] #[], .slice (some ⟨g, 0, none⟩) 2 cap, .int .i64 1, .pointer (some ⟨g, 4, none⟩), .agg q.cells.toArray, .slice (some ⟨g, 0, none⟩) 2 cap, .int .i64 1, .int .i64 0, .pointer (some ⟨g, 0, none⟩), .agg p.cells.toArray, .int .i64 (-1), .bool true, .bool true, undef, undef, .slice (some ⟨g, 0, none⟩) 2 cap, .int .i64 1, .slice (some ⟨g, 0, none⟩) 2 cap, undef, undef, undef, undef, undef, undef, undef, undef, undef, undef, undef, undef, undef], defers := [] } _
  refine wpAny_take (i := 3) (v := .int .i64 1) rfl (by kernel_rfl) (by kernel_rfl) (by kernel_rfl) (fun _ _ _ h => h) (Or.inl ⟨by rfl, ?_⟩) ?_
  · (intro w; go_simp)
  change wpAny _ _ _ _ _ _ { tmps := #[.slice (some ⟨g, 0, none⟩) 2 cap, .int .i64 0, .int .i64 2, .func (.func 24) #[] #[], undef, undef, undef, undef, .int .i64 1, .int .i64 1, .int .i64 0, .int .i64 1, .int .i64 1, .int .i64 2, .bool true, undef, undef, .int .i64 1, .int .i64 1, .int .i64 0, .bool true, .bool true, .func (.func 24) #[] #[], .slice (some ⟨g, 0, none⟩) 2 cap, .int .i64 1, .pointer (some ⟨g, 4, none⟩), .agg q.cells.toArray, .slice (some ⟨g, 0, none⟩) 2 cap, .int .i64 1, .int .i64 0, .pointer (some ⟨g, 0, none⟩), .agg p.cells.toArray, .int .i64 (-1), .bool true, .bool true, undef, undef, .slice (some ⟨g, 0, none⟩) 2 cap, .int .i64 1, .slice (some ⟨g, 0, none⟩) 2 cap, .int .i64 1, undef, undef, undef, undef, undef, undef, undef, undef, undef, undef, undef, undef], defers := [] } _
  refine wpAny_take (i := 4) (v := .int .i64 0) rfl (by kernel_rfl) (by kernel_rfl) (by kernel_rfl) (fun _ _ _ h => h) (Or.inl ⟨by rfl, ?_⟩) ?_
  · (intro w; go_simp)
  change wpAny _ _ _ _ _ _ { tmps := #[.slice (some ⟨g, 0, none⟩) 2 cap, .int .i64 0, .int .i64 2, .func (.func 24) #[] #[], undef, undef, undef, undef, .int .i64 1, .int .i64 1, .int .i64 0, .int .i64 1, .int .i64 1, .int .i64 2, .bool true, undef, undef, .int .i64 1, .int .i64 1, .int .i64 0, .bool true, .bool true, .func (.func 24) #[] #[], .slice (some ⟨g, 0, none⟩) 2 cap, .int .i64 1, .pointer (some ⟨g, 4, none⟩), .agg q.cells.toArray, .slice (some ⟨g, 0, none⟩) 2 cap, .int .i64 1, .int .i64 0, .pointer (some ⟨g, 0, none⟩), .agg p.cells.toArray, .int .i64 (-1), .bool true, .bool true, undef, undef, .slice (some ⟨g, 0, none⟩) 2 cap, .int .i64 1, .slice (some ⟨g, 0, none⟩) 2 cap, .int .i64 1, .int .i64 0, undef, undef, undef, undef, undef, undef, undef, undef, undef, undef, undef], defers := [] } _
  refine wpAny_take (i := 5) (v := .slice (some ⟨g, 0, none⟩) 2 cap) rfl (by kernel_rfl) (by kernel_rfl) (by kernel_rfl) (fun _ _ _ h => h) (Or.inl ⟨by rfl, ?_⟩) ?_
  · (intro w; go_simp)
  change wpAny _ _ _ _ _ _ { tmps := #[.slice (some ⟨g, 0, none⟩) 2 cap, .int .i64 0, .int .i64 2, .func (.func 24) #[] #[], undef, undef, undef, undef, .int .i64 1, .int .i64 1, .int .i64 0, .int .i64 1, .int .i64 1, .int .i64 2, .bool true, undef, undef, .int .i64 1, .int .i64 1, .int .i64 0, .bool true, .bool true, .func (.func 24) #[] #[], .slice (some ⟨g, 0, none⟩) 2 cap, .int .i64 1, .pointer (some ⟨g, 4, none⟩), .agg q.cells.toArray, .slice (some ⟨g, 0, none⟩) 2 cap, .int .i64 1, .int .i64 0, .pointer (some ⟨g, 0, none⟩), .agg p.cells.toArray, .int .i64 (-1), .bool true, .bool true, undef, undef, .slice (some ⟨g, 0, none⟩) 2 cap, .int .i64 1, .slice (some ⟨g, 0, none⟩) 2 cap, .int .i64 1, .int .i64 0, .slice (some ⟨g, 0, none⟩) 2 cap, undef, undef, undef, undef, undef, undef, undef, undef, undef, undef], defers := [] } _
  refine wpAny_take (i := 6) (v := .int .i64 1) rfl (by kernel_rfl) (by kernel_rfl) (by kernel_rfl) (fun _ _ _ h => h) (Or.inl ⟨by rfl, ?_⟩) ?_
  · (intro w; go_simp)
  change wpAny _ _ _ _ _ _ { tmps := #[.slice (some ⟨g, 0, none⟩) 2 cap, .int .i64 0, .int .i64 2, .func (.func 24) #[] #[], undef, undef, undef, undef, .int .i64 1, .int .i64 1, .int .i64 0, .int .i64 1, .int .i64 1, .int .i64 2, .bool true, undef, undef, .int .i64 1, .int .i64 1, .int .i64 0, .bool true, .bool true, .func (.func 24) #[] #[], .slice (some ⟨g, 0, none⟩) 2 cap, .int .i64 1, .pointer (some ⟨g, 4, none⟩), .agg q.cells.toArray, .slice (some ⟨g, 0, none⟩) 2 cap, .int .i64 1, .int .i64 0, .pointer (some ⟨g, 0, none⟩), .agg p.cells.toArray, .int .i64 (-1), .bool true, .bool true, undef, undef, .slice (some ⟨g, 0, none⟩) 2 cap, .int .i64 1, .slice (some ⟨g, 0, none⟩) 2 cap, .int .i64 1, .int .i64 0, .slice (some ⟨g, 0, none⟩) 2 cap, .int .i64 1, undef, undef, undef, undef, undef, undef, undef, undef, undef], defers := [] } _
  refine wpAny_take (i := 7) (v := .int .i64 0) rfl (by kernel_rfl) (by kernel_rfl) (by kernel_rfl) (fun _ _ _ h => h) (Or.inl ⟨by rfl, ?_⟩) ?_
  · (intro w; go_simp)
  change wpAny _ _ _ _ _ _ { tmps := #[.slice (some ⟨g, 0, none⟩) 2 cap, .int .i64 0, .int .i64 2, .func (.func 24) #[] #[], undef, undef, undef, undef, .int .i64 1, .int .i64 1, .int .i64 0, .int .i64 1, .int .i64 1, .int .i64 2, .bool true, undef, undef, .int .i64 1, .int .i64 1, .int .i64 0, .bool true, .bool true, .func (.func 24) #[] #[], .slice (some ⟨g, 0, none⟩) 2 cap, .int .i64 1, .pointer (some ⟨g, 4, none⟩), .agg q.cells.toArray, .slice (some ⟨g, 0, none⟩) 2 cap, .int .i64 1, .int .i64 0, .pointer (some ⟨g, 0, none⟩), .agg p.cells.toArray, .int .i64 (-1), .bool true, .bool true, undef, undef, .slice (some ⟨g, 0, none⟩) 2 cap, .int .i64 1, .slice (some ⟨g, 0, none⟩) 2 cap, .int .i64 1, .int .i64 0, .slice (some ⟨g, 0, none⟩) 2 cap, .int .i64 1, .int .i64 0, undef, undef, undef, undef, undef, undef, undef, undef], defers := [] } _
  refine wpAny_take (i := 8) (v := .pointer (some ⟨g, 0, none⟩)) rfl (by kernel_rfl) (by kernel_rfl) (by kernel_rfl) (fun _ _ _ h => h) (Or.inl ⟨by rfl, ?_⟩) ?_
  · (intro w; go_simp)
  change wpAny _ _ _ _ _ _ { tmps := #[.slice (some ⟨g, 0, none⟩) 2 cap, .int .i64 0, .int .i64 2, .func (.func 24) #[] #[], undef, undef, undef, undef, .int .i64 1, .int .i64 1, .int .i64 0, .int .i64 1, .int .i64 1, .int .i64 2, .bool true, undef, undef, .int .i64 1, .int .i64 1, .int .i64 0, .bool true, .bool true, .func (.func 24) #[] #[], .slice (some ⟨g, 0, none⟩) 2 cap, .int .i64 1, .pointer (some ⟨g, 4, none⟩), .agg q.cells.toArray, .slice (some ⟨g, 0, none⟩) 2 cap, .int .i64 1, .int .i64 0, .pointer (some ⟨g, 0, none⟩), .agg p.cells.toArray, .int .i64 (-1), .bool true, .bool true, undef, undef, .slice (some ⟨g, 0, none⟩) 2 cap, .int .i64 1, .slice (some ⟨g, 0, none⟩) 2 cap, .int .i64 1, .int .i64 0, .slice (some ⟨g, 0, none⟩) 2 cap, .int .i64 1, .int .i64 0, .pointer (some ⟨g, 0, none⟩), undef, undef, undef, undef, undef, undef, undef], defers := [] } _
  refine wpAny_take (i := 10) (v := .slice (some ⟨g, 0, none⟩) 2 cap) rfl (by kernel_rfl) (by kernel_rfl) (by kernel_rfl) (fun _ _ _ h => h) (Or.inl ⟨by rfl, ?_⟩) ?_
  · (intro w; go_simp)
  change wpAny _ _ _ _ _ _ { tmps := #[.slice (some ⟨g, 0, none⟩) 2 cap, .int .i64 0, .int .i64 2, .func (.func 24) #[] #[], undef, undef, undef, undef, .int .i64 1, .int .i64 1, .int .i64 0, .int .i64 1, .int .i64 1, .int .i64 2, .bool true, undef, undef, .int .i64 1, .int .i64 1, .int .i64 0, .bool true, .bool true, .func (.func 24) #[] #[], .slice (some ⟨g, 0, none⟩) 2 cap, .int .i64 1, .pointer (some ⟨g, 4, none⟩), .agg q.cells.toArray, .slice (some ⟨g, 0, none⟩) 2 cap, .int .i64 1, .int .i64 0, .pointer (some ⟨g, 0, none⟩), .agg p.cells.toArray, .int .i64 (-1), .bool true, .bool true, undef, undef, .slice (some ⟨g, 0, none⟩) 2 cap, .int .i64 1, .slice (some ⟨g, 0, none⟩) 2 cap, .int .i64 1, .int .i64 0, .slice (some ⟨g, 0, none⟩) 2 cap, .int .i64 1, .int .i64 0, .pointer (some ⟨g, 0, none⟩), undef, .slice (some ⟨g, 0, none⟩) 2 cap, undef, undef, undef, undef, undef], defers := [] } _
  refine wpAny_take (i := 11) (v := .int .i64 1) rfl (by kernel_rfl) (by kernel_rfl) (by kernel_rfl) (fun _ _ _ h => h) (Or.inl ⟨by rfl, ?_⟩) ?_
  · (intro w; go_simp)
  change wpAny _ _ _ _ _ _ { tmps := #[.slice (some ⟨g, 0, none⟩) 2 cap, .int .i64 0, .int .i64 2, .func (.func 24) #[] #[], undef, undef, undef, undef, .int .i64 1, .int .i64 1, .int .i64 0, .int .i64 1, .int .i64 1, .int .i64 2, .bool true, undef, undef, .int .i64 1, .int .i64 1, .int .i64 0, .bool true, .bool true, .func (.func 24) #[] #[], .slice (some ⟨g, 0, none⟩) 2 cap, .int .i64 1, .pointer (some ⟨g, 4, none⟩), .agg q.cells.toArray, .slice (some ⟨g, 0, none⟩) 2 cap, .int .i64 1, .int .i64 0, .pointer (some ⟨g, 0, none⟩), .agg p.cells.toArray, .int .i64 (-1), .bool true, .bool true, undef, undef, .slice (some ⟨g, 0, none⟩) 2 cap, .int .i64 1, .slice (some ⟨g, 0, none⟩) 2 cap, .int .i64 1, .int .i64 0, .slice (some ⟨g, 0, none⟩) 2 cap, .int .i64 1, .int .i64 0, .pointer (some ⟨g, 0, none⟩), undef, .slice (some ⟨g, 0, none⟩) 2 cap, .int .i64 1, undef, undef, undef, undef], defers := [] } _
  refine wpAny_take (i := 12) (v := .pointer (some ⟨g, 4, none⟩)) rfl (by kernel_rfl) (by kernel_rfl) (by kernel_rfl) (fun _ _ _ h => h) (Or.inl ⟨by rfl, ?_⟩) ?_
  · (intro w; go_simp)
  change wpAny _ _ _ _ _ _ { tmps := #[.slice (some ⟨g, 0, none⟩) 2 cap, .int .i64 0, .int .i64 2, .func (.func 24) #[] #[], undef, undef, undef, undef, .int .i64 1, .int .i64 1, .int .i64 0, .int .i64 1, .int .i64 1, .int .i64 2, .bool true, undef, undef, .int .i64 1, .int .i64 1, .int .i64 0, .bool true, .bool true, .func (.func 24) #[] #[], .slice (some ⟨g, 0, none⟩) 2 cap, .int .i64 1, .pointer (some ⟨g, 4, none⟩), .agg q.cells.toArray, .slice (some ⟨g, 0, none⟩) 2 cap, .int .i64 1, .int .i64 0, .pointer (some ⟨g, 0, none⟩), .agg p.cells.toArray, .int .i64 (-1), .bool true, .bool true, undef, undef, .slice (some ⟨g, 0, none⟩) 2 cap, .int .i64 1, .slice (some ⟨g, 0, none⟩) 2 cap, .int .i64 1, .int .i64 0, .slice (some ⟨g, 0, none⟩) 2 cap, .int .i64 1, .int .i64 0, .pointer (some ⟨g, 0, none⟩), undef, .slice (some ⟨g, 0, none⟩) 2 cap, .int .i64 1, .pointer (some ⟨g, 4, none⟩), undef, undef, undef], defers := [] } _
  refine wpAny_ready (rs := [9, 13]) (by kernel_rfl) (by simp) (AllReady.cons rfl (fun K hK => ?_) (AllReady.cons rfl (fun K hK => ?_) (AllReady.nil)))
  · refine step_load_agg rfl 35 _ rfl Try.underlying35 Try.info_pk1 ⟨g, 0, none⟩ rfl p.cells rfl (fun k u hu => H1.out.2.1 k u hu) ?_
    refine hK _ _ ?_; clear hK K
    change wpAny _ _ _ _ _ _ { tmps := #[.slice (some ⟨g, 0, none⟩) 2 cap, .int .i64 0, .int .i64 2, .func (.func 24) #[] #[], undef, undef, undef, undef, .int .i64 1, .int .i64 1, .int .i64 0, .int .i64 1, .int .i64 1, .int .i64 2, .bool true, undef, undef, .int .i64 1, .int .i64 1, .int .i64 0, .bool true, .bool true, .func (.func 24) #[] #[], .slice (some ⟨g, 0, none⟩) 2 cap, .int .i64 1, .pointer (some ⟨g, 4, none⟩), .agg q.cells.toArray, .slice (some ⟨g, 0, none⟩) 2 cap, .int .i64 1, .int .i64 0, .pointer (some ⟨g, 0, none⟩), .agg p.cells.toArray, .int .i64 (-1), .bool true, .bool true, undef, undef, .slice (some ⟨g, 0, none⟩) 2 cap, .int .i64 1, .slice (some ⟨g, 0, none⟩) 2 cap, .int .i64 1, .int .i64 0, .slice (some ⟨g, 0, none⟩) 2 cap, .int .i64 1, .int .i64 0, .pointer (some ⟨g, 0, none⟩), .agg p.cells.toArray, .slice (some ⟨g, 0, none⟩) 2 cap, .int .i64 1, .pointer (some ⟨g, 4, none⟩), undef, undef, undef], defers := [] } _
    refine wpAny_ready (rs := [13]) (by kernel_rfl) (by simp) (AllReady.cons rfl (fun K hK => ?_) AllReady.nil)
    refine step_load_agg rfl 35 _ rfl Try.underlying35 Try.info_pk1 ⟨g, 4, none⟩ rfl q.cells rfl (fun k u hu => H1.out.2.2.1 k u hu) ?_
    refine hK _ _ ?_; clear hK K
    change wpAny _ _ _ _ _ _ { tmps := #[.slice (some ⟨g, 0, none⟩) 2 cap, .int .i64 0, .int .i64 2, .func (.func 24) #[] #[], undef, undef, undef, undef, .int .i64 1, .int .i64 1, .int .i64 0, .int .i64 1, .int .i64 1, .int .i64 2, .bool true, undef, undef, .int .i64 1, .int .i64 1, .int .i64 0, .bool true, .bool true, .func (.func 24) #[] #[], .slice (some ⟨g, 0, none⟩) 2 cap, .int .i64 1, .pointer (some ⟨g, 4, none⟩), .agg q.cells.toArray, .slice (some ⟨g, 0, none⟩) 2 cap, .int .i64 1, .int .i64 0, .pointer (some ⟨g, 0, none⟩), .agg p.cells.toArray, .int .i64 (-1), .bool true, .bool true, undef, undef, .slice (some ⟨g, 0, none⟩) 2 cap, .int .i64 1, .slice (some ⟨g, 0, none⟩) 2 cap, .int .i64 1, .int .i64 0, .slice (some ⟨g, 0, none⟩) 2 cap, .int .i64 1, .int .i64 0, .pointer (some ⟨g, 0, none⟩), .agg p.cells.toArray, .slice (some ⟨g, 0, none⟩) 2 cap, .int .i64 1, .pointer (some ⟨g, 4, none⟩), .agg q.cells.toArray, undef, undef], defers := [] } _
    refine wpAny_take (i := 14) (v := .pointer (some ⟨g, 4, none⟩)) rfl (by kernel_rfl) (by kernel_rfl) (by kernel_rfl) (fun _ _ _ h => h) (Or.inl ⟨by rfl, ?_⟩) ?_
    · (intro w; go_simp)
    change wpAny _ _ _ _ _ _ { tmps := #[.slice (some ⟨g, 0, none⟩) 2 cap, .int .i64 0, .int .i64 2, .func (.func 24) #[] #[], undef, undef, undef, undef, .int .i64 1, .int .i64 1, .int .i64 0, .int .i64 1, .int .i64 1, .int .i64 2, .bool true, undef, undef, .int .i64 1, .int .i64 1, .int .i64 0, .bool true, .bool true, .func (.func 24) #[] #[], .slice (some ⟨g, 0, none⟩) 2 cap, .int .i64 1, .pointer (some ⟨g, 4, none⟩), .agg q.cells.toArray, .slice (some ⟨g, 0, none⟩) 2 cap, .int .i64 1, .int .i64 0, .pointer (some ⟨g, 0, none⟩), .agg p.cells.toArray, .int .i64 (-1), .bool true, .bool true, undef, undef, .slice (some ⟨g, 0, none⟩) 2 cap, .int .i64 1, .slice (some ⟨g, 0, none⟩) 2 cap, .int .i64 1, .int .i64 0, .slice (some ⟨g, 0, none⟩) 2 cap, .int .i64 1, .int .i64 0, .pointer (some ⟨g, 0, none⟩), .agg p.cells.toArray, .slice (some ⟨g, 0, none⟩) 2 cap, .int .i64 1, .pointer (some ⟨g, 4, none⟩), .agg q.cells.toArray, .pointer (some ⟨g, 4, none⟩), undef], defers := [] } _
    refine wpAny_ready (rs := [15]) (by kernel_rfl) (by simp) (AllReady.cons rfl (fun K hK => ?_) AllReady.nil)
    refine step_store_at rfl 35 _ _ rfl g (1 * 4) 35 (flatK [p, q] ++ rest) p.cells HB.out rfl rfl Try.info_pk1 F1.out (pk_one p) ?_
    intro w4 hb4 hm4
    refine hK _ _ ?_; clear hK K
    change wpAny _ _ _ _ _ _ { tmps := #[.slice (some ⟨g, 0, none⟩) 2 cap, .int .i64 0, .int .i64 2, .func (.func 24) #[] #[], undef, undef, undef, undef, .int .i64 1, .int .i64 1, .int .i64 0, .int .i64 1, .int .i64 1, .int .i64 2, .bool true, undef, undef, .int .i64 1, .int .i64 1, .int .i64 0, .bool true, .bool true, .func (.func 24) #[] #[], .slice (some ⟨g, 0, none⟩) 2 cap, .int .i64 1, .pointer (some ⟨g, 4, none⟩), .agg q.cells.toArray, .slice (some ⟨g, 0, none⟩) 2 cap, .int .i64 1, .int .i64 0, .pointer (some ⟨g, 0, none⟩), .agg p.cells.toArray, .int .i64 (-1), .bool true, .bool true, undef, undef, .slice (some ⟨g, 0, none⟩) 2 cap, .int .i64 1, .slice (some ⟨g, 0, none⟩) 2 cap, .int .i64 1, .int .i64 0, .slice (some ⟨g, 0, none⟩) 2 cap, .int .i64 1, .int .i64 0, .pointer (some ⟨g, 0, none⟩), .agg p.cells.toArray, .slice (some ⟨g, 0, none⟩) 2 cap, .int .i64 1, .pointer (some ⟨g, 4, none⟩), .agg q.cells.toArray, .pointer (some ⟨g, 4, none⟩), undef], defers := [] } _
    have h4 := (QRow.store p (xs := [p, q]) (i := 1) (by simp) HD.out.1 HD.out.2.1 HD.out.2.2 hb4).1
    have hl4 : (flatK ([p, q].set 1 p) ++ rest).length = cap * 4 := by rw [← HD.out.2.2]; simp [flatK_length]
    have f2 : 0 * 4 + q.cells.length ≤ (flatK ([p, q].set 1 p) ++ rest).length := by rw [List.length_append, flatK_length]; simp [Pk.cells]; omega
    have H4 := Lib.hid (And.intro h4 (And.intro hl4 (And.intro f2 hm4))); clear h4 hl4 f2 hm4 hb4
    refine wpAny_take (i := 16) (v := .pointer (some ⟨g, 0, none⟩)) rfl (by kernel_rfl) (by kernel_rfl) (by kernel_rfl) (fun _ _ _ h => h) (Or.inl ⟨by rfl, ?_⟩) ?_
    · (intro w; go_simp)
    change wpAny _ _ _ _ _ _ { tmps := #[.slice (some ⟨g, 0, none⟩) 2 cap, .int .i64 0, .int .i64 2, .func (.func 24) #[] #[], undef, undef, undef, undef, .int .i64 1, .int .i64 1, .int .i64 0, .int .i64 1, .int .i64 1, .int .i64 2, .bool true, undef, undef, .int .i64 1, .int .i64 1, .int .i64 0, .bool true, .bool true, .func (.func 24) #[] #[], .slice (some ⟨g, 0, none⟩) 2 cap, .int .i64 1, .pointer (some ⟨g, 4, none⟩), .agg q.cells.toArray, .slice (some ⟨g, 0, none⟩) 2 cap, .int .i64 1, .int .i64 0, .pointer (some ⟨g, 0, none⟩), .agg p.cells.toArray, .int .i64 (-1), .bool true, .bool true, undef, undef, .slice (some ⟨g, 0, none⟩) 2 cap, .int .i64 1, .slice (some ⟨g, 0, none⟩) 2 cap, .int .i64 1, .int .i64 0, .slice (some ⟨g, 0, none⟩) 2 cap, .int .i64 1, .int .i64 0, .pointer (some ⟨g, 0, none⟩), .agg p.cells.toArray, .slice (some ⟨g, 0, none⟩) 2 cap, .int .i64 1, .pointer (some ⟨g, 4, none⟩), .agg q.cells.toArray, .pointer (some ⟨g, 4, none⟩), .pointer (some ⟨g, 0, none⟩)], defers := [] } _
    refine wpAny_ready (rs := [17]) (by kernel_rfl) (by simp) (AllReady.cons rfl (fun K hK => ?_) AllReady.nil)
    refine step_store_at rfl 35 _ _ rfl g (0 * 4) 35 (flatK ([p, q].set 1 p) ++ rest) q.cells H4.out.1 rfl rfl Try.info_pk1 H4.out.2.2.1 (pk_one q) ?_
    intro w5 hb5 hm5
    refine hK _ _ ?_; clear hK K
    change wpAny _ _ _ _ _ _ { tmps := #[.slice (some ⟨g, 0, none⟩) 2 cap, .int .i64 0, .int .i64 2, .func (.func 24) #[] #[], undef, undef, undef, undef, .int .i64 1, .int .i64 1, .int .i64 0, .int .i64 1, .int .i64 1, .int .i64 2, .bool true, undef, undef, .int .i64 1, .int .i64 1, .int .i64 0, .bool true, .bool true, .func (.func 24) #[] #[], .slice (some ⟨g, 0, none⟩) 2 cap, .int .i64 1, .pointer (some ⟨g, 4, none⟩), .agg q.cells.toArray, .slice (some ⟨g, 0, none⟩) 2 cap, .int .i64 1, .int .i64 0, .pointer (some ⟨g, 0, none⟩), .agg p.cells.toArray, .int .i64 (-1), .bool true, .bool true, undef, undef, .slice (some ⟨g, 0, none⟩) 2 cap, .int .i64 1, .slice (some ⟨g, 0, none⟩) 2 cap, .int .i64 1, .int .i64 0, .slice (some ⟨g, 0, none⟩) 2 cap, .int .i64 1, .int .i64 0, .pointer (some ⟨g, 0, none⟩), .agg p.cells.toArray, .slice (some ⟨g, 0, none⟩) 2 cap, .int .i64 1, .pointer (some ⟨g, 4, none⟩), .agg q.cells.toArray, .pointer (some ⟨g, 4, none⟩), .pointer (some ⟨g, 0, none⟩)], defers := [] } _
    have h5 := (QRow.store q (xs := [p, q].set 1 p) (i := 0) (by simp) (by simpa using HD.out.1) HD.out.2.1 H4.out.2.1 hb5).2
    have M5 : Mod (fun k => k = g) w w5 := ((H1.out.2.2.2.drew).trans H4.out.2.2.2 (fun _ h => .inl h)).trans hm5 (fun _ h => .inl h)
    have H5 := Lib.hid (And.intro h5 M5); clear h5 M5 hm5 hb5
    refine wpAny_done (by kernel_rfl) ?_ _
    go_wp2_with fail
    rw [rounds_succ]
    go_wp2_with fail
    go_quiet (fail)
    go_wp2_with fail
    rw [rounds_succ]
    go_wp2_with fail
    go_end0
    exact ⟨rfl, H5.out.1, H5.out.2.drewN _⟩
  · refine step_load_agg rfl 35 _ rfl Try.underlying35 Try.info_pk1 ⟨g, 4, none⟩ rfl q.cells rfl (fun k u hu => H1.out.2.2.1 k u hu) ?_
    refine hK _ _ ?_; clear hK K
    change wpAny _ _ _ _ _ _ { tmps := #[.slice (some ⟨g, 0, none⟩) 2 cap, .int .i64 0, .int .i64 2, .func (.func 24) #[] #[], undef, undef, undef, undef, .int .i64 1, .int .i64 1, .int .i64 0, .int .i64 1, .int .i64 1, .int .i64 2, .bool true, undef, undef, .int .i64 1, .int .i64 1, .int .i64 0, .bool true, .bool true, .func (.func 24) #[] #[], .slice (some ⟨g, 0, none⟩) 2 cap, .int .i64 1, .pointer (some ⟨g, 4, none⟩), .agg q.cells.toArray, .slice (some ⟨g, 0, none⟩) 2 cap, .int .i64 1, .int .i64 0, .pointer (some ⟨g, 0, none⟩), .agg p.cells.toArray, .int .i64 (-1), .bool true, .bool true, undef, undef, .slice (some ⟨g, 0, none⟩) 2 cap, .int .i64 1, .slice (some ⟨g, 0, none⟩) 2 cap, .int .i64 1, .int .i64 0, .slice (some ⟨g, 0, none⟩) 2 cap, .int .i64 1, .int .i64 0, .pointer (some ⟨g, 0, none⟩), undef, .slice (some ⟨g, 0, none⟩) 2 cap, .int .i64 1, .pointer (some ⟨g, 4, none⟩), .agg q.cells.toArray, undef, undef], defers := [] } _
    refine wpAny_ready (rs := [9]) (by kernel_rfl) (by simp) (AllReady.cons rfl (fun K hK => ?_) AllReady.nil)
    refine step_load_agg rfl 35 _ rfl Try.underlying35 Try.info_pk1 ⟨g, 0, none⟩ rfl p.cells rfl (fun k u hu => H1.out.2.1 k u hu) ?_
    refine hK _ _ ?_; clear hK K
    change wpAny _ _ _ _ _ _ { tmps := #[.slice (some ⟨g, 0, none⟩) 2 cap, .int .i64 0, .int .i64 2, .func (.func 24) #[] #[], undef, undef, undef, undef, .int .i64 1, .int .i64 1, .int .i64 0, .int .i64 1, .int .i64 1, .int .i64 2, .bool true, undef, undef, .int .i64 1, .int .i64 1, .int .i64 0, .bool true, .bool true, .func (.func 24) #[] #[], .slice (some ⟨g, 0, none⟩) 2 cap, .int .i64 1, .pointer (some ⟨g, 4, none⟩), .agg q.cells.toArray, .slice (some ⟨g, 0, none⟩) 2 cap, .int .i64 1, .int .i64 0, .pointer (some ⟨g, 0, none⟩), .agg p.cells.toArray, .int .i64 (-1), .bool true, .bool true, undef, undef, .slice (some ⟨g, 0, none⟩) 2 cap, .int .i64 1, .slice (some ⟨g, 0, none⟩) 2 cap, .int .i64 1, .int .i64 0, .slice (some ⟨g, 0, none⟩) 2 cap, .int .i64 1, .int .i64 0, .pointer (some ⟨g, 0, none⟩), .agg p.cells.toArray, .slice (some ⟨g, 0, none⟩) 2 cap, .int .i64 1, .pointer (some ⟨g, 4, none⟩), .agg q.cells.toArray, undef, undef], defers := [] } _
    refine wpAny_take (i := 14) (v := .pointer (some ⟨g, 4, none⟩)) rfl (by kernel_rfl) (by kernel_rfl) (by kernel_rfl) (fun _ _ _ h => h) (Or.inl ⟨by rfl, ?_⟩) ?_
    · (intro w; go_simp)
    change wpAny _ _ _ _ _ _ { tmps := #[.slice (some ⟨g, 0, none⟩) 2 cap, .int .i64 0, .int .i64 2, .func (.func 24) #[] #[], undef, undef, undef, undef, .int .i64 1, .int .i64 1, .int .i64 0, .int .i64 1, .int .i64 1, .int .i64 2, .bool true, undef, undef, .int .i64 1, .int .i64 1, .int .i64 0, .bool true, .bool true, .func (.func 24) #[] #[], .slice (some ⟨g, 0, none⟩) 2 cap, .int .i64 1, .pointer (some ⟨g, 4, none⟩), .agg q.cells.toArray, .slice (some ⟨g, 0, none⟩) 2 cap, .int .i64 1, .int .i64 0, .pointer (some ⟨g, 0, none⟩), .agg p.cells.toArray, .int .i64 (-1), .bool true, .bool true, undef, undef, .slice (some ⟨g, 0, none⟩) 2 cap, .int .i64 1, .slice (some ⟨g, 0, none⟩) 2 cap, .int .i64 1, .int .i64 0, .slice (some ⟨g, 0, none⟩) 2 cap, .int .i64 1, .int .i64 0, .pointer (some ⟨g, 0, none⟩), .agg p.cells.toArray, .slice (some ⟨g, 0, none⟩) 2 cap, .int .i64 1, .pointer (some ⟨g, 4, none⟩), .agg q.cells.toArray, .pointer (some ⟨g, 4, none⟩), undef], defers := [] } _
    refine wpAny_ready (rs := [15]) (by kernel_rfl) (by simp) (AllReady.cons rfl (fun K hK => ?_) AllReady.nil)
    refine step_store_at rfl 35 _ _ rfl g (1 * 4) 35 (flatK [p, q] ++ rest) p.cells HB.out rfl rfl Try.info_pk1 F1.out (pk_one p) ?_
    intro w4 hb4 hm4
    refine hK _ _ ?_; clear hK K
    change wpAny _ _ _ _ _ _ { tmps := #[.slice (some ⟨g, 0, none⟩) 2 cap, .int .i64 0, .int .i64 2, .func (.func 24) #[] #[], undef, undef, undef, undef, .int .i64 1, .int .i64 1, .int .i64 0, .int .i64 1, .int .i64 1, .int .i64 2, .bool true, undef, undef, .int .i64 1, .int .i64 1, .int .i64 0, .bool true, .bool true, .func (.func 24) #[] #[], .slice (some ⟨g, 0, none⟩) 2 cap, .int .i64 1, .pointer (some ⟨g, 4, none⟩), .agg q.cells.toArray, .slice (some ⟨g, 0, none⟩) 2 cap, .int .i64 1, .int .i64 0, .pointer (some ⟨g, 0, none⟩), .agg p.cells.toArray, .int .i64 (-1), .bool true, .bool true, undef, undef, .slice (some ⟨g, 0, none⟩) 2 cap, .int .i64 1, .slice (some ⟨g, 0, none⟩) 2 cap, .int .i64 1, .int .i64 0, .slice (some ⟨g, 0, none⟩) 2 cap, .int .i64 1, .int .i64 0, .pointer (some ⟨g, 0, none⟩), .agg p.cells.toArray, .slice (some ⟨g, 0, none⟩) 2 cap, .int .i64 1, .pointer (some ⟨g, 4, none⟩), .agg q.cells.toArray, .pointer (some ⟨g, 4, none⟩), undef], defers := [] } _
    have h4 := (QRow.store p (xs := [p, q]) (i := 1) (by simp) HD.out.1 HD.out.2.1 HD.out.2.2 hb4).1
    have hl4 : (flatK ([p, q].set 1 p) ++ rest).length = cap * 4 := by rw [← HD.out.2.2]; simp [flatK_length]
    have f2 : 0 * 4 + q.cells.length ≤ (flatK ([p, q].set 1 p) ++ rest).length := by rw [List.length_append, flatK_length]; simp [Pk.cells]; omega
    have H4 := Lib.hid (And.intro h4 (And.intro hl4 (And.intro f2 hm4))); clear h4 hl4 f2 hm4 hb4
    refine wpAny_take (i := 16) (v := .pointer (some ⟨g, 0, none⟩)) rfl (by kernel_rfl) (by kernel_rfl) (by kernel_rfl) (fun _ _ _ h => h) (Or.inl ⟨by rfl, ?_⟩) ?_
    · (intro w; go_simp)
    change wpAny _ _ _ _ _ _ { tmps := #[.slice (some ⟨g, 0, none⟩) 2 cap, .int .i64 0, .int .i64 2, .func (.func 24) #[] #[], undef, undef, undef, undef, .int .i64 1, .int .i64 1, .int .i64 0, .int .i64 1, .int .i64 1, .int .i64 2, .bool true, undef, undef, .int .i64 1, .int .i64 1, .int .i64 0, .bool true, .bool true, .func (.func 24) #[] #[], .slice (some ⟨g, 0, none⟩) 2 cap, .int .i64 1, .pointer (some ⟨g, 4, none⟩), .agg q.cells.toArray, .slice (some ⟨g, 0, none⟩) 2 cap, .int .i64 1, .int .i64 0, .pointer (some ⟨g, 0, none⟩), .agg p.cells.toArray, .int .i64 (-1), .bool true, .bool true, undef, undef, .slice (some ⟨g, 0, none⟩) 2 cap, .int .i64 1, .slice (some ⟨g, 0, none⟩) 2 cap, .int .i64 1, .int .i64 0, .slice (some ⟨g, 0, none⟩) 2 cap, .int .i64 1, .int .i64 0, .pointer (some ⟨g, 0, none⟩), .agg p.cells.toArray, .slice (some ⟨g, 0, none⟩) 2 cap, .int .i64 1, .pointer (some ⟨g, 4, none⟩), .agg q.cells.toArray, .pointer (some ⟨g, 4, none⟩), .pointer (some ⟨g, 0, none⟩)], defers := [] } _
    refine wpAny_ready (rs := [17]) (by kernel_rfl) (by simp) (AllReady.cons rfl (fun K hK => ?_) AllReady.nil)
    refine step_store_at rfl 35 _ _ rfl g (0 * 4) 35 (flatK ([p, q].set 1 p) ++ rest) q.cells H4.out.1 rfl rfl Try.info_pk1 H4.out.2.2.1 (pk_one q) ?_
    intro w5 hb5 hm5
    refine hK _ _ ?_; clear hK K
    change wpAny _ _ _ _ _ _ { tmps := #[.slice (some ⟨g, 0, none⟩) 2 cap, .int .i64 0, .int .i64 2, .func (.func 24) #[] #[], undef, undef, undef, undef, .int .i64 1, .int .i64 1, .int .i64 0, .int .i64 1, .int .i64 1, .int .i64 2, .bool true, undef, undef, .int .i64 1, .int .i64 1, .int .i64 0, .bool true, .bool true, .func (.func 24) #[] #[], .slice (some ⟨g, 0, none⟩) 2 cap, .int .i64 1, .pointer (some ⟨g, 4, none⟩), .agg q.cells.toArray, .slice (some ⟨g, 0, none⟩) 2 cap, .int .i64 1, .int .i64 0, .pointer (some ⟨g, 0, none⟩), .agg p.cells.toArray, .int .i64 (-1), .bool true, .bool true, undef, undef, .slice (some ⟨g, 0, none⟩) 2 cap, .int .i64 1, .slice (some ⟨g, 0, none⟩) 2 cap, .int .i64 1, .int .i64 0, .slice (some ⟨g, 0, none⟩) 2 cap, .int .i64 1, .int .i64 0, .pointer (some ⟨g, 0, none⟩), .agg p.cells.toArray, .slice (some ⟨g, 0, none⟩) 2 cap, .int .i64 1, .pointer (some ⟨g, 4, none⟩), .agg q.cells.toArray, .pointer (some ⟨g, 4, none⟩), .pointer (some ⟨g, 0, none⟩)], defers := [] } _
    have h5 := (QRow.store q (xs := [p, q].set 1 p) (i := 0) (by simp) (by simpa using HD.out.1) HD.out.2.1 H4.out.2.1 hb5).2
    have M5 : Mod (fun k => k = g) w w5 := ((H1.out.2.2.2.drew).trans H4.out.2.2.2 (fun _ h => .inl h)).trans hm5 (fun _ h => .inl h)
    have H5 := Lib.hid (And.intro h5 M5); clear h5 M5 hm5 hb5
    refine wpAny_done (by kernel_rfl) ?_ _
    go_wp2_with fail
    rw [rounds_succ]
    go_wp2_with fail
    go_quiet (fail)
    go_wp2_with fail
    rw [rounds_succ]
    go_wp2_with fail
    go_end0
    exact ⟨rfl, H5.out.1, H5.out.2.drewN _⟩
end Go.Proofs.Ytlimjdejcjgocaa
