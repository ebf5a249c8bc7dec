/- Layer 29: IndexFunc, place, copied. -/
import Derived.Test.YtlimjdejcjgocaaNet12
namespace Go.Proofs.Ytlimjdejcjgocaa
open Go.RowKit
set_option linter.unusedVariables false
set_option maxRecDepth 100000 in
set_option maxHeartbeats 1000000 in
theorem indexf_any (gq cap : Nat) (xs : List Pk) (bl bi g c i n k : Nat) (ys : List Pk) (y p : Pk) (w : World) (hq : QRow w gq cap xs) (hl : w.cell? ⟨bl, 0, none⟩ = some (.slice (some ⟨g, 0, none⟩) n c)) (hi : w.cell? ⟨bi, 0, none⟩ = some (.int .i64 i)) (hr : QRow w g c ys) (hy : ys[i]? = some y) (hn : n = ys.length) (hb : n ≤ 1000000) (hxl : xs.length ≤ 1000000)
    (hk : xs[k]? = some p) (hpk : p.seq = y.seq) (hfirst : ∀ j x, j < k → xs[j]? = some x → x.seq ≠ y.seq) :
    Calls Try.prog 26 #[.slice (some ⟨gq, 0, none⟩) xs.length cap, .func (.func 27) #[] #[.pointer (some ⟨bl, 0, none⟩), .pointer (some ⟨bi, 0, none⟩)]] w fun e w' => e = .returned (.int .i64 k) ∧ Mod (fun _ => False) w w' := by
  have hkl := (List.getElem?_eq_some_iff.1 hk).1
  have HF := Lib.hid (fun W (hW : Mod (fun _ => False) w W) (x : Pk) => place2_any x bl bi g c i n ys y W ((hW.cell (a := ⟨bl, 0, none⟩) (lt_of_cell hl) id).trans hl) ((hW.cell (a := ⟨bi, 0, none⟩) (lt_of_cell hi) id).trans hi) (hr.move (hW.block g hr.lt id)) hy hn hb)
  have H0 := Lib.hid (And.intro hq (And.intro hk (And.intro hpk hfirst))); clear hq hl hi hr hy hn hb hk hpk hfirst
  go_enter Try.func26, Try.ntmps26
  go_wp2_with fail
  go_loopg [8] xs.length (fun f sj wr => ∃ j : Nat, sj = .int .i64 j ∧ j + f = xs.length ∧ j ≤ k ∧ Mod (fun _ => False) w wr)
  case atStart => exact ⟨0, rfl, by omega, by omega, Mod.refl _ _⟩
  case round =>
    obtain ⟨j, rfl, hf, hjk, hm⟩ := hrel
    have hjl : j < xs.length := by omega
    obtain ⟨x, hx⟩ : ∃ x, xs[j]? = some x := ⟨_, List.getElem?_eq_getElem hjl⟩
    have rx : ∀ t u, x.cells[t]? = some u → wr.cell? ((⟨gq, j * 4, none⟩ : Addr).add t) = some u := fun t u hu => by
      rw [add_own, (H0.out.1.move (hm.block gq H0.out.1.lt id)).cell hx t (by have := (List.getElem?_eq_some_iff.1 hu).1; simpa [Pk.cells] using this)]; exact hu
    have HC := Lib.hid (HF.out wr hm x)
    have H1 := Lib.hid (And.intro hx (And.intro hm rx)); clear hx hm rx
    by_cases hjk2 : j = k
    · subst hjk2
      have hb : (x.seq == y.seq) = true := by
        have := H0.out.2.1
        rw [H1.out.1] at this
        cases this
        simpa using H0.out.2.2.1
      rw [hb] at HC
      clear hb
      go_wp2_with (refine wpList_load_agg rfl 35 _ rfl Try.underlying35 Try.info_pk1 ⟨gq, j * 4, none⟩ rfl x.cells rfl (fun t u hu => H1.out.2.2 t u hu) ?_)
      refine HC.out.mono ?_
      rintro e w1 ⟨rfl, hm1⟩
      have H2 := Lib.hid (H1.out.2.1.trans hm1 (fun _ h => h.elim)); clear hm1
      go_wp2_with fail
      go_ret
      exact ⟨rfl, H2.out⟩
    · have hb : (x.seq == y.seq) = false := by
        have := H0.out.2.2.2 j x (by omega) H1.out.1
        simpa using this
      rw [hb] at HC
      clear hb
      go_wp2_with (refine wpList_load_agg rfl 35 _ rfl Try.underlying35 Try.info_pk1 ⟨gq, j * 4, none⟩ rfl x.cells rfl (fun t u hu => H1.out.2.2 t u hu) ?_)
      refine HC.out.mono ?_
      rintro e w1 ⟨rfl, hm1⟩
      have H2 := Lib.hid (H1.out.2.1.trans hm1 (fun _ h => h.elim)); clear hm1
      go_wp2_with fail
      go_roundg (gk - 1)
      case measure => omega
      case rel => exact ⟨j + 1, by go_num, by omega, by omega, H2.out⟩
set_option maxRecDepth 100000 in
set_option maxHeartbeats 2000000 in
theorem place_any (B g : Nat) (xs ys : List Pk) (i k : Nat) (y p : Pk) (most seq now lost : Int) (w : World) (h : NetSt B w g xs most seq now lost) (hs : Srt xs ys) (hy : ys[i]? = some y) (hk : xs[k]? = some p) (hpk : p.seq = y.seq) (hfirst : ∀ j x, j < k → xs[j]? = some x → x.seq ≠ y.seq) :
    Calls Try.prog 18 #[.pointer (some ⟨g, 0, none⟩), .int .i64 i] w fun e w' => e = .returned (.int .i64 k) ∧ Mod (fun _ => False) w w' := by
  obtain ⟨A, c, b1, o1, n1, B1, V1⟩ := h.blk
  have hlen := hs.len
  have hil : i < xs.length := by have := (List.getElem?_eq_some_iff.1 hy).1; omega
  obtain ⟨gq, rfl, hq⟩ : ∃ gq, A = some ⟨gq, 0, none⟩ ∧ QRow w gq c xs := by
    have o1' := o1
    rcases o1'.2 with ⟨hv, _⟩ | ⟨gq, cap, cur, hv, _⟩
    · simp only [Value.slice.injEq] at hv; omega
    · simp only [Value.slice.injEq] at hv
      obtain ⟨rfl, _, rfl⟩ := hv
      exact ⟨gq, rfl, (QRow.of_owns o1).2⟩
  have c0 := b1.cell
  have hl2 : xs.length ≤ 2 := by omega
  have HI := Lib.hid (And.intro hq (And.intro hs (And.intro hy (And.intro hk (And.intro hpk hfirst))))); clear h b1 o1 n1 B1 V1 hq hs hy hk hpk hfirst
  go_enter Try.func18, Try.ntmps18
  go_wp2_with fail
  obtain ⟨bi, hbi⟩ : ∃ bi, bi = w.heap.size := ⟨_, rfl⟩
  obtain ⟨w1, hw1⟩ : ∃ w1, w1 = w.alloc (.cells #[.int .i64 i] 3) := ⟨_, rfl⟩
  rw [← hw1, ← hbi]
  have hb1 : w1.heap[bi]? = some (.cells #[.int .i64 i] 3 (0, 0)) := by rw [hw1, hbi]; exact heap_alloc_new w _
  have M1 : Mod (fun _ => False) w w1 := by rw [hw1]; exact (Mod.refl _ _).alloc _
  have ci : w1.cell? ⟨bi, 0, none⟩ = some (.int .i64 i) := by rw [cell_of_blk hb1]; rfl
  have cq : w1.cell? ⟨g, 0, none⟩ = some (.slice (some ⟨gq, 0, none⟩) xs.length c) := (M1.cell (a := ⟨g, 0, none⟩) (lt_of_cell c0) id).trans c0
  have HM := Lib.hid (And.intro M1 (And.intro hb1 hbi)); clear M1 hb1 hw1 hbi c0
  have hd1 : decide (xs.length ≤ i) = false := by simp; omega
  have hd2 : ¬ (i : Int) < 0 := by omega
  go_quiet (fail)
  have M2 : Mod (fun _ => False) w (w1.drewN nq) := HM.out.1.drewN nq
  have ci2 : (w1.drewN nq).cell? ⟨bi, 0, none⟩ = some (.int .i64 i) := ci
  have cq2 : (w1.drewN nq).cell? ⟨g, 0, none⟩ = some (.slice (some ⟨gq, 0, none⟩) xs.length c) := cq
  have H2 := Lib.hid M2; clear M2 ci cq
  generalize w1.drewN nq = w2 at ci2 cq2 H2 ⊢
  go_wp2_with fail
  refine (values_mk (some ⟨gq, 0, none⟩) xs.length c w2).mono ?_
  rintro e w3 ⟨Bq, rfl, hBq, hbq, hm3⟩
  have cb : w3.cell? ⟨Bq, 0, none⟩ = some (.slice (some ⟨gq, 0, none⟩) xs.length c) := by rw [cell_of_blk hbq]; rfl
  have q3 : QRow w3 gq c xs := HI.out.1.move (((H2.out.trans hm3 (fun _ h => h.elim))).block gq HI.out.1.lt id)
  have ci3 : w3.cell? ⟨bi, 0, none⟩ = some (.int .i64 i) := (hm3.cell (a := ⟨bi, 0, none⟩) (lt_of_cell ci2) id).trans ci2
  have cq3 : w3.cell? ⟨g, 0, none⟩ = some (.slice (some ⟨gq, 0, none⟩) xs.length c) := (hm3.cell (a := ⟨g, 0, none⟩) (lt_of_cell cq2) id).trans cq2
  have hbib : bi < w2.heap.size := lt_of_cell ci2
  have hgb : g < w2.heap.size := lt_of_cell cq2
  have h23 := hm3.size
  have hgqb : gq < w2.heap.size := Nat.lt_of_lt_of_le HI.out.1.lt H2.out.size
  have H3 := Lib.hid (And.intro hBq (And.intro (H2.out.trans hm3 (fun _ h => h.elim)) (And.intro q3 (And.intro ci3 cq3)))); have HS := Lib.hid (sortedf_any Bq gq c xs ys w3 cb q3 HI.out.2.1); clear hBq hbq hm3 cb q3 ci3 cq3 ci2 cq2
  go_wp2_with fail
  refine HS.out.mono ?_
  rintro e w4 ⟨gs, cs, rfl, hrs, hgs, hm4⟩
  have hsz4 : bi < w4.heap.size ∧ g < w4.heap.size ∧ gq < w4.heap.size := by have := hm4.size; refine ⟨?_, ?_, ?_⟩ <;> omega
  have nbi : bi ≠ Bq := by have := H3.out.1; omega
  have ngb : g ≠ Bq := by have := H3.out.1; omega
  have ngq : gq ≠ Bq := by have := H3.out.1; omega
  have ci4 : w4.cell? ⟨bi, 0, none⟩ = some (.int .i64 i) := (hm4.cell (a := ⟨bi, 0, none⟩) (lt_of_cell H3.out.2.2.2.1) nbi).trans H3.out.2.2.2.1
  have cq4 : w4.cell? ⟨g, 0, none⟩ = some (.slice (some ⟨gq, 0, none⟩) xs.length c) := (hm4.cell (a := ⟨g, 0, none⟩) (lt_of_cell H3.out.2.2.2.2) ngb).trans H3.out.2.2.2.2
  have q4 : QRow w4 gq c xs := H3.out.2.2.1.move (hm4.block gq H3.out.2.2.1.lt ngq)
  have M4 : Mod (fun _ => False) w w4 := H3.out.2.1.trans hm4 (fun k hk => .inr (by have hk : k = Bq := hk; have := H3.out.1; have := H2.out.size; omega))
  have H4 := Lib.hid (And.intro q4 (And.intro M4 hrs)); clear q4 M4 hrs hm4 hgs
  go_wp2_with fail
  have wz : ∀ o, (w4.alloc o).cell? ⟨gs, 0, none⟩ = w4.cell? ⟨gs, 0, none⟩ := fun o => ((Mod.refl (fun _ => False) w4).alloc o).cell (a := ⟨gs, 0, none⟩) H4.out.2.2.lt id
  obtain ⟨w5, hw5⟩ : ∃ w5, w5 = w4.alloc (.cells #[.slice (some ⟨gs, 0, none⟩) xs.length cs] 44) := ⟨_, rfl⟩
  obtain ⟨bl, hbl⟩ : ∃ bl, bl = w4.heap.size := ⟨_, rfl⟩
  rw [← hw5, ← hbl]
  have M5 : Mod (fun _ => False) w4 w5 := by rw [hw5]; exact (Mod.refl _ _).alloc _
  have cl5 : w5.cell? ⟨bl, 0, none⟩ = some (.slice (some ⟨gs, 0, none⟩) xs.length cs) := by rw [hw5, hbl, cell_of_blk (heap_alloc_new w4 _)]; rfl
  have ci5 : w5.cell? ⟨bi, 0, none⟩ = some (.int .i64 i) := (M5.cell (a := ⟨bi, 0, none⟩) (lt_of_cell ci4) id).trans ci4
  have HI5 := indexf_any gq c xs bl bi gs cs i xs.length k ys y p w5 (H4.out.1.move (M5.block gq H4.out.1.lt id)) cl5 ci5 (H4.out.2.2.move (M5.block gs H4.out.2.2.lt id)) HI.out.2.2.1 (by omega) (by omega) (by omega) HI.out.2.2.2.1 HI.out.2.2.2.2.1 HI.out.2.2.2.2.2
  have H5 := Lib.hid (And.intro HI5 (H4.out.2.1.trans M5 (fun _ h => h.elim))); clear HI5 M5 cl5 ci5 hw5 hbl wz ci4 cq4
  refine H5.out.1.mono ?_
  rintro e w6 ⟨rfl, hm6⟩
  have H6 := Lib.hid (H5.out.2.trans hm6 (fun _ h => h.elim)); clear hm6
  go_wp2_with fail
  go_ret
  exact ⟨rfl, H6.out⟩
set_option maxRecDepth 100000 in
set_option maxHeartbeats 1000000 in
theorem copied_any (seq to due : Int) (A : Option Addr) (n c : Nat) (bs : List UInt8) (B : Nat) (w : World) (h : w.ownsRow B 5 1 (.slice A n c) bs.length (bcells bs)) (hl : bs.length ≤ 100000000) :
    Calls Try.prog 19 #[.agg #[.int .i64 seq, .int .i64 to, .int .i64 due, .slice A n c]] w fun e w' => ∃ A' c', e = .returned (.agg #[.int .i64 seq, .int .i64 to, .int .i64 due, .slice A' bs.length c']) ∧ w'.ownsRow w.heap.size 5 1 (.slice A' bs.length c') bs.length (bcells bs) ∧ Mod (fun _ => False) w w' := by
  have HO := Lib.hid h; clear h
  go_enter Try.func19, Try.ntmps19
  go_wp2_with (refine wpList_box_new rfl 35 (.tmp 0) rfl [.int .i64 seq, .int .i64 to, .int .i64 due, .slice A n c] rfl ?_)
  intro g1 w1 hg1 hb1 hm1
  go_wp2_with (refine wpList_alloc_new rfl 35 rfl zeroPk (by kernel_rfl) ?_)
  intro g2 w2 hg2 hb2 hm2
  have hb1' := ((hm2 fun _ => False).block g1 (lt_of_blk hb1) id).trans hb1
  have c3 : w2.cell? ⟨g1, 3, none⟩ = some (.slice A n c) := by rw [cell_of_blk hb1']; rfl
  have M2 : Mod (fun _ => False) w w2 := (hm1 fun _ => False).trans (hm2 fun _ => False) (fun _ h => h.elim)
  have o2 : w2.ownsRow B 5 1 (.slice A n c) bs.length (bcells bs) := own_move HO.out (fun k hk => M2.block k (HO.out.lt k hk).2 id)
  have hgg : g1 < g2 := by have := lt_of_blk hb1; omega
  have hwg : w.heap.size ≤ g1 := hg1
  have HC := Lib.hid (cloneB_any A n c bs _ w2 (reads_bytes o2 (by omega)) hl)
  have H2 := Lib.hid (And.intro hb1' (And.intro hb2 (And.intro M2 (And.intro hgg hwg)))); clear hb1' hb2 M2 hgg hwg hb1 hg1 hg2 hm1 hm2 o2
  go_wp2_with fail
  refine HC.out.mono ?_
  rintro e w3 ⟨A', c', rfl, ho3, hm3⟩
  have b3 := (hm3.block g1 (lt_of_blk H2.out.1) id).trans H2.out.1
  have cc : w3.cell? ⟨g1, 3, none⟩ = some (.slice A n c) := by rw [cell_of_blk b3]; rfl
  have ff : w3.frozen? ⟨g1, 3, none⟩ = false := free_of_blk b3 3
  have z3 := (hm3.block g2 (lt_of_blk H2.out.2.1) id).trans H2.out.2.1
  have b4 : (w3.setCell ⟨g1, 3, none⟩ (.slice A' bs.length c')).heap[g1]? = some (.cells [.int .i64 seq, .int .i64 to, .int .i64 due, .slice A' bs.length c'].toArray 35 (0, 0)) := by
    have := set_of_blk b3 3 (.slice A' bs.length c')
    simpa using this
  have z4 : (w3.setCell ⟨g1, 3, none⟩ (.slice A' bs.length c')).heap[g2]? = some (.cells zeroPk.toArray 35 (0, 0)) := (Below.heap_setCell _ _ _ _ (by have := H2.out.2.2.2.1; simp; omega)).trans z3
  have H3 := Lib.hid (And.intro ho3 (And.intro hm3 (And.intro b4 z4))); clear ho3 hm3 b3 z3 b4 z4 c3
  go_wp2_with (first
    | (refine wpList_load_agg rfl 35 (.tmp 1) rfl Try.underlying35 Try.info_pk1 ⟨g1, 0, none⟩ rfl [.int .i64 seq, .int .i64 to, .int .i64 due, .slice A' bs.length c'] rfl (fun j u hj => by rw [agg_at, cell_of_blk H3.out.2.2.1]; simpa using hj) ?_)
    | (refine wpList_store_var rfl 35 _ _ rfl g2 35 zeroPk [.int .i64 seq, .int .i64 to, .int .i64 due, .slice A' bs.length c'] H3.out.2.2.2 rfl rfl Try.info_pk1 rfl (pk_one ⟨seq, to, due, A', bs.length, c'⟩) ?_))
  intro w5 hb5 hm5
  have H5 := Lib.hid (And.intro hb5 hm5); clear hb5 hm5
  go_wp2_with fail
  refine bodyPost_ret (results_agg rfl _ _ g2 35 [.int .i64 seq, .int .i64 to, .int .i64 due, .slice A' bs.length c'] (0, 0) rfl H5.out.1 Try.underlying35 Try.info_pk1) rfl ?_
  have hg1 := lt_of_blk H2.out.1
  have hg2 := lt_of_blk H2.out.2.1
  have hsz := H2.out.2.2.1.size
  have o4 : (w3.setCell ⟨g1, 3, none⟩ (.slice A' bs.length c')).ownsRow w2.heap.size 5 1 (.slice A' bs.length c') bs.length (bcells bs) := own_move H3.out.1 (fun k hk => Below.heap_setCell _ _ _ _ (by have := (H3.out.1.lt k hk).1; simp; omega))
  have o5 := own_move o4 (fun k hk => H5.out.2.block k (o4.lt k hk).2 (by have := (o4.lt k hk).1; intro e; have e : k = g2 := e; omega))
  refine ⟨A', c', rfl, ⟨o5.1, o5.2.imp id (fun ⟨g, c1, cu, q1, q2, q3⟩ => ⟨g, c1, cu, q1, by omega, q3⟩)⟩, ?_⟩
  refine ((H2.out.2.2.1.trans H3.out.2.1 (fun _ h => h.elim)).setCell (.inr H2.out.2.2.2.2) _).trans H5.out.2 (fun k hk => .inr ?_)
  have hk : k = g2 := hk
  have := H2.out.2.2.2.1; have := H2.out.2.2.2.2
  omega
end Go.Proofs.Ytlimjdejcjgocaa
