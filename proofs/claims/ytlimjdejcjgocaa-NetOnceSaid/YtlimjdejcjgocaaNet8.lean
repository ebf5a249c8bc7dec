/- Layer 29: Pop. -/
import Derived.Test.YtlimjdejcjgocaaNet7
namespace Go.Proofs.Ytlimjdejcjgocaa
open Go.RowKit
set_option linter.unusedVariables false
set_option maxRecDepth 100000 in
set_option maxHeartbeats 1000000 in
theorem pop_none (B g : Nat) (most seq now lost : Int) (w : World) (h : NetSt B w g [] most seq now lost) :
    Calls Try.prog 8 #[.pointer (some ⟨g, 0, none⟩)] w fun e w' => e = .returned (.tuple #[.agg zeroPk.toArray, .bool false]) ∧ Mod (fun _ => False) w w' := by
  have H0 := Lib.hid h; clear h
  go_enter Try.func8, Try.ntmps8
  go_wp2_with (refine wpList_alloc_new rfl 35 rfl zeroPk (by kernel_rfl) ?_)
  intro g1 w1 hg1 hb1 hm1
  have H1 := Lib.hid (And.intro hg1 (And.intro hb1 (And.intro (hm1 (fun _ => False)) (H0.out.move (hm1 (fun _ => False)) (fun _ h => h.elim))))); clear hg1 hb1 hm1
  go_wp2_with fail
  refine (netlen_any B g [] most seq now lost w1 H1.out.2.2.2 (by simp)).mono ?_
  rintro e w2 ⟨rfl, rfl⟩
  go_wp2_with (first
    | (refine wpList_build rfl 35 #[] rfl #[] rfl zeroPk.toArray (by kernel_rfl) ?_)
    | (refine wpList_store_var rfl 35 _ _ rfl g1 35 zeroPk zeroPk H1.out.2.1 rfl rfl Try.info_pk1 rfl (by decide) ?_))
  intro w2 hb2 hm2
  have H2 := Lib.hid (And.intro hb2 hm2); clear hb2 hm2
  go_wp2_with fail
  refine bodyPost_ret (results_agg2 rfl _ _ g1 35 zeroPk (0, 0) rfl H2.out.1 Try.underlying35 Try.info_pk1) rfl ?_
  exact ⟨rfl, H1.out.2.2.1.trans H2.out.2 (fun k hk => .inr (by have hk : k = g1 := hk; rw [hk]; exact H1.out.1))⟩
set_option maxRecDepth 100000 in
set_option maxHeartbeats 1000000 in
theorem pop_any (B g : Nat) (xs : List Pk) (x : Pk) (most seq now lost : Int) (w : World) (h : NetSt B w g xs most seq now lost) (hx : xs[0]? = some x) (hl : xs.length ≤ 1000000) :
    Calls Try.prog 8 #[.pointer (some ⟨g, 0, none⟩)] w fun e w' => e = .returned (.tuple #[.agg x.cells.toArray, .bool true]) ∧ NetSt B w' g ((popL ltK xs).take (xs.length - 1)) most seq (max now x.due) lost ∧ NMod g w w' := by
  have hlen := (List.getElem?_eq_some_iff.1 hx).1
  have H0 := Lib.hid (And.intro h hx); clear h hx
  go_enter Try.func8, Try.ntmps8
  go_wp2_with (refine wpList_alloc_new rfl 35 rfl zeroPk (by kernel_rfl) ?_)
  intro g1 w1 hg1 hb1 hm1
  have hst : NetSt B w1 g xs most seq now lost := H0.out.1.move (hm1 (fun _ => False)) (fun _ h => h.elim)
  have H1 := Lib.hid (And.intro hg1 (And.intro hb1 (And.intro (hm1 (fun _ => False)) hst))); clear hg1 hb1 hm1
  have hnz : ((xs.length : Int) == 0) = false := by simp; intro e; rw [e] at hlen; simp at hlen
  go_wp2_with fail
  refine (netlen_any B g xs most seq now lost w1 H1.out.2.2.2 hl).mono ?_
  rintro e w2 ⟨rfl, rfl⟩
  clear hst
  obtain ⟨A, c, b0, o1, n1, B1, V1⟩ := H0.out.1.blk
  obtain ⟨gq, q1, q2⟩ : ∃ gq, A = some ⟨gq, 0, none⟩ ∧ QRow w gq c xs := by
    have o1' := o1
    rcases o1'.2 with ⟨hv, _⟩ | ⟨gq, cap, cur, hv, _⟩
    · simp only [Value.slice.injEq] at hv; omega
    · simp only [Value.slice.injEq] at hv
      obtain ⟨rfl, _, rfl⟩ := hv
      exact ⟨gq, rfl, (QRow.of_owns o1).2⟩
  subst q1
  have hgq : gq ≠ g := fun e => n1 (by rw [e]; rfl)
  have hBq : B ≤ gq := V1 gq rfl
  have g1g : g1 ≠ g := by have := lt_of_blk b0; have := H1.out.1; omega
  have g1q : g1 ≠ gq := by have := q2.lt; have := H1.out.1; omega
  have b1 : NetBlk w1 g (.slice (some ⟨gq, 0, none⟩) xs.length c) [.int .i64 most, .int .i64 seq, .int .i64 now, .int .i64 lost] := b0.mod H1.out.2.2.1 id
  have q2' : QRow w1 gq c xs := q2.move (H1.out.2.2.1.block gq q2.lt id)
  have H2 := Lib.hid (And.intro b1 (And.intro q2' (And.intro hgq (And.intro hBq B1)))); have HG := Lib.hid (And.intro g1g g1q); have HW := Lib.hid b0; clear b1 q2' hgq hBq B1 V1 n1 o1 b0 q2 g1g g1q
  go_wp2_with fail
  refine (hpop_any g gq c xs x _ w1 H2.out.1 H2.out.2.2.1 H2.out.2.1 H0.out.2 hl).mono ?_
  rintro e w2 ⟨rfl, hb2, hr2, hm2⟩
  have hta := Try.assert_pk (.agg x.cells.toArray) w2
  have H3 := Lib.hid (And.intro hb2 (And.intro hr2 hm2)); clear hb2 hr2 hm2
  go_wp2_with (first
    | (refine wpList_alloc_agg rfl 35 rfl zeroPk.toArray (by kernel_rfl) ?_)
    | (refine wpList_store_new rfl 35 _ _ rfl 35 zeroPk.toArray x.cells rfl rfl Try.info_pk1 rfl (pk_one x) ?_))
  obtain ⟨gp, hgp⟩ : ∃ gp, gp = w2.heap.size := ⟨_, rfl⟩
  obtain ⟨w3, hw3⟩ : ∃ w3, w3 = w2.alloc (.cells x.cells.toArray 35) := ⟨_, rfl⟩
  rw [← hw3, ← hgp]
  have hp3 : w3.heap[gp]? = some (.cells x.cells.toArray 35 (0, 0)) := by rw [hw3, hgp]; exact heap_alloc_new w2 _
  have M3 : Mod (fun _ => False) w2 w3 := by rw [hw3]; exact (Mod.refl _ _).alloc _
  have b3 : NetBlk w3 g (.slice (some ⟨gq, 0, none⟩) (xs.length - 1) c) [.int .i64 most, .int .i64 seq, .int .i64 now, .int .i64 lost] := H3.out.1.mod M3 id
  have hgpg : gp ≠ g := by have := lt_of_blk H3.out.1; omega
  have c3 : w3.cell? ⟨g, 3, none⟩ = some (.int .i64 now) := (blk_cells b3).2.2.2.1
  have f3 : w3.frozen? ⟨g, 3, none⟩ = false := b3.free 3
  have c4 : w3.cell? ⟨gp, 2, none⟩ = some (.int .i64 x.due) := by rw [cell_of_blk hp3]; rfl
  have H4 := Lib.hid (And.intro hp3 (And.intro M3 (And.intro b3 (And.intro hgpg hgp)))); clear hp3 M3 b3 hgpg hgp hw3 hta
  obtain ⟨M, hM⟩ : ∃ M, (if now < x.due then x.due else now) = M := ⟨_, rfl⟩
  have HMx : Hid (M = max now x.due) := Lib.hid (by rw [← hM]; split <;> omega)
  go_region
  all_goals
    have b4 : NetBlk (w3.setCell ⟨g, 3, none⟩ (.int .i64 M)).drew g (.slice (some ⟨gq, 0, none⟩) (xs.length - 1) c) [.int .i64 most, .int .i64 seq, .int .i64 M, .int .i64 lost] := by
      have : NetBlk (w3.setCell ⟨g, 3, none⟩ (.int .i64 M)) g (.slice (some ⟨gq, 0, none⟩) (xs.length - 1) c) [.int .i64 most, .int .i64 seq, .int .i64 M, .int .i64 lost] := by
        have := set_of_blk H4.out.2.2.1 3 (.int .i64 M)
        simpa [NetBlk] using this
      exact this
    have M4 : Mod (fun k => k = g) w3 (w3.setCell ⟨g, 3, none⟩ (.int .i64 M)).drew := ((Mod.refl (fun k => k = g) w3).setCell (.inl rfl) _).drew
    generalize (w3.setCell ⟨g, 3, none⟩ (.int .i64 M)).drew = w4 at b4 M4 ⊢
    have q4 : QRow w4 gq c ((popL ltK xs).take (xs.length - 1)) := (H3.out.2.1.move (H4.out.2.1.block gq H3.out.2.1.lt id)).move (M4.block gq (Nat.lt_of_lt_of_le H3.out.2.1.lt H4.out.2.1.size) H2.out.2.2.1)
    have p4 : w4.heap[gp]? = some (.cells x.cells.toArray 35 (0, 0)) := (M4.block gp (lt_of_blk H4.out.1) H4.out.2.2.2.1).trans H4.out.1
    have hz1 := lt_of_blk H1.out.2.1
    have z2 : w2.heap[g1]? = some (.cells zeroPk.toArray 35 (0, 0)) := (H3.out.2.2.block g1 hz1 (fun e => e.elim HG.out.1 HG.out.2)).trans H1.out.2.1
    have z3 : w3.heap[g1]? = some (.cells zeroPk.toArray 35 (0, 0)) := (H4.out.2.1.block g1 (lt_of_blk z2) id).trans z2
    have z4 : w4.heap[g1]? = some (.cells zeroPk.toArray 35 (0, 0)) := (M4.block g1 (lt_of_blk z3) HG.out.1).trans z3
    have HB4 : Hid (Mod (fun k => k = g ∨ k = gq) w w4) := Lib.hid (by
      exact ((((H1.out.2.2.1.mono (fun _ h => h.elim)).trans H3.out.2.2 (fun k hk => .inl hk)).trans H4.out.2.1 (fun _ h => h.elim)).trans M4 (fun k hk => .inl (.inl hk))))
    have H5 := Lib.hid (And.intro b4 (And.intro q4 (And.intro p4 z4))); clear b4 q4 p4 z4 z2 z3 M4 c3 f3 c4
    have HL2 : Hid (((popL ltK xs).take (xs.length - 1)).length = xs.length - 1) := Lib.hid (by rw [List.length_take, popL_length]; omega)
    go_wp2_with (first
      | (refine wpList_load_agg rfl 35 (.tmp 4) rfl Try.underlying35 Try.info_pk1 ⟨gp, 0, none⟩ rfl x.cells rfl (fun j u hj => by rw [agg_at, cell_of_blk H5.out.2.2.1]; simpa using hj) ?_)
      | (refine wpList_store_var rfl 35 _ _ rfl g1 35 zeroPk x.cells H5.out.2.2.2 rfl rfl Try.info_pk1 rfl (pk_one x) ?_))
    intro w5 hb5 hm5
    have H6 := Lib.hid (And.intro hb5 hm5); clear hb5 hm5
    go_wp2_with fail
    refine bodyPost_ret (results_agg2 rfl _ _ g1 35 x.cells (0, 0) rfl H6.out.1 Try.underlying35 Try.info_pk1) rfl ?_
    have hfin : NetBlk w5 g (.slice (some ⟨gq, 0, none⟩) (xs.length - 1) c) [.int .i64 most, .int .i64 seq, .int .i64 (max now x.due), .int .i64 lost] := by
      rw [← HMx.out]; exact H5.out.1.mod H6.out.2 (fun e => HG.out.1 e.symm)
    refine ⟨rfl, ⟨.slice (some ⟨gq, 0, none⟩) (xs.length - 1) c, hfin, ?_, ?_, H2.out.2.2.2.2, ?_⟩, nmod_of HW.out hfin ?_ (fun k hk => .inl hk)⟩
    · have := (H5.out.2.1.move (H6.out.2.block gq H5.out.2.1.lt (fun e => HG.out.2 e.symm))).owns
      rw [HL2.out] at this ⊢
      exact this
    · intro e; simp only [Value.ownBlock, Option.some.injEq] at e; exact H2.out.2.2.1 e
    · intro k hk; simp only [Value.ownBlock, Option.some.injEq] at hk; subst hk; exact H2.out.2.2.2.1
    · refine Mod.trans (HB4.out.mono (fun k hk => ?_)) H6.out.2 (fun k hk => .inr (by have hk : k = g1 := hk; rw [hk]; exact H1.out.1))
      rcases hk with rfl | rfl
      · exact .inl rfl
      · exact .inr rfl
end Go.Proofs.Ytlimjdejcjgocaa
