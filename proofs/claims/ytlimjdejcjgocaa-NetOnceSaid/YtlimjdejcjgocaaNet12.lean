/- Layer 29: SortedFunc, IndexFunc, place: one or two packets. -/
import Derived.Test.YtlimjdejcjgocaaNet11
namespace Go.Proofs.Ytlimjdejcjgocaa
open Go.RowKit
set_option linter.unusedVariables false
/-- the packets as they are sorted: one, or two in the other order -/
def Srt (xs ys : List Pk) : Prop := (∃ p, xs = [p] ∧ ys = [p]) ∨ ∃ p q, xs = [p, q] ∧ ys = [q, p] ∧ q.seq < p.seq
theorem Srt.len {xs ys : List Pk} (h : Srt xs ys) : (xs.length = 1 ∨ xs.length = 2) ∧ ys.length = xs.length := by
  rcases h with ⟨p, rfl, rfl⟩ | ⟨p, q, rfl, rfl, _⟩
  · exact ⟨.inl rfl, rfl⟩
  · exact ⟨.inr rfl, rfl⟩
set_option maxRecDepth 100000 in
set_option maxHeartbeats 1000000 in
theorem insertS_any (g cap : Nat) (xs ys : List Pk) (w : World) (h : QRow w g cap xs) (hs : Srt xs ys) :
    Calls Try.prog 35 #[.slice (some ⟨g, 0, none⟩) xs.length cap, .int .i64 0, .int .i64 xs.length, .func (.func 24) #[] #[]] w fun e w' => e = .returned (.tuple #[]) ∧ QRow w' g cap ys ∧ Mod (fun k => k = g) w w' := by
  rcases hs with ⟨p, rfl, rfl⟩ | ⟨p, q, rfl, rfl, hpq⟩
  · refine (insert1_any g cap p _ w).mono ?_
    rintro e w' ⟨rfl, rfl⟩
    exact ⟨rfl, h, Mod.refl _ _⟩
  · exact insert2_any g cap p q w h hpq
set_option maxRecDepth 100000 in
set_option maxHeartbeats 1000000 in
theorem pdq_any (g cap n : Nat) (v : Int) (xs ys : List Pk) (w : World) (h : QRow w g cap xs) (hs : Srt xs ys) (hn : n = xs.length) :
    Calls Try.prog 33 #[.slice (some ⟨g, 0, none⟩) n cap, .int .i64 0, .int .i64 n, .int .i64 v, .func (.func 24) #[] #[]] w fun e w' => e = .returned (.tuple #[]) ∧ QRow w' g cap ys ∧ Mod (fun k => k = g) w w' := by
  have H := Lib.hid (insertS_any g cap xs ys w h hs)
  rw [← hn] at H
  have hn12 : n ≤ 12 := by have := hs.len.1; omega
  clear h hs hn
  go_enter Try.func33, Try.ntmps33
  go_wp2_with fail
  refine wp_loop_rounds 1 ?_
  rw [rounds_succ]
  go_wp2_with fail
  refine H.out.mono ?_
  rintro e w1 ⟨rfl, h1, h2⟩
  have H1 := Lib.hid (And.intro h1 h2); clear h1 h2
  go_wp2_with fail
  refine bodyPost_ret (results_none rfl _ _ _) rfl ?_
  exact ⟨rfl, H1.out.1, H1.out.2⟩
set_option maxRecDepth 100000 in
set_option maxHeartbeats 1000000 in
theorem sortf_any (g cap n : Nat) (xs ys : List Pk) (w : World) (h : QRow w g cap xs) (hs : Srt xs ys) (hn : n = xs.length) :
    Calls Try.prog 29 #[.slice (some ⟨g, 0, none⟩) n cap, .func (.func 24) #[] #[]] w fun e w' => e = .returned (.tuple #[]) ∧ QRow w' g cap ys ∧ Mod (fun k => k = g) w w' := by
  have hn2 : n = 1 ∨ n = 2 := by rw [hn]; exact hs.len.1
  have hnb : n ≤ 2 := by omega
  have HL := Lib.hid (bitslen_any n hn2 w)
  have HP := Lib.hid (fun v => pdq_any g cap n v xs ys w h hs hn)
  clear h hs hn hn2
  go_enter Try.func29, Try.ntmps29
  go_wp2_with fail
  refine HL.out.mono ?_
  rintro e w1 ⟨⟨v, rfl⟩, rfl⟩
  go_wp2_with fail
  refine (HP.out v).mono ?_
  rintro e w1 ⟨rfl, h1, h2⟩
  have H1 := Lib.hid (And.intro h1 h2); clear h1 h2
  go_wp2_with fail
  go_end0
  exact ⟨rfl, H1.out.1, H1.out.2⟩
set_option maxRecDepth 100000 in
set_option maxHeartbeats 1000000 in
theorem sortedf_any (Bq gq cap : Nat) (xs ys : List Pk) (w : World) (hq : w.cell? ⟨Bq, 0, none⟩ = some (.slice (some ⟨gq, 0, none⟩) xs.length cap)) (hr : QRow w gq cap xs) (hs : Srt xs ys) :
    Calls Try.prog 22 #[.func (.func 30) #[] #[.pointer (some ⟨Bq, 0, none⟩)], .func (.func 24) #[] #[]] w fun e w' => ∃ g c, e = .returned (.slice (some ⟨g, 0, none⟩) xs.length c) ∧ QRow w' g c ys ∧ w.heap.size ≤ g ∧ Mod (fun k => k = Bq) w w' := by
  have hl := hs.len
  have HC := Lib.hid (collect_any Bq gq cap xs w hq hr (by omega))
  have HS := Lib.hid hs
  clear hq hr hs
  go_enter Try.func22, Try.ntmps22
  go_wp2_with fail
  refine HC.out.mono ?_
  rintro e w1 ⟨v, rfl, ho, hm⟩
  obtain ⟨g, c, rfl, hg, hr1⟩ : ∃ g c, v = .slice (some ⟨g, 0, none⟩) xs.length c ∧ w.heap.size ≤ g ∧ QRow w1 g c xs := by
    have ho' := ho
    rcases ho'.2 with ⟨_, hn⟩ | ⟨g, c, cur, rfl, hg, _⟩
    · omega
    · have h0 : w1.ownsRow 0 35 4 (.slice (some ⟨g, 0, none⟩) xs.length c) xs.length (flatK xs) := ⟨ho.1, ho.2.imp id (fun ⟨g, c', cu, b1, b2, b3⟩ => ⟨g, c', cu, b1, Nat.zero_le _, b3⟩)⟩
      exact ⟨g, c, rfl, hg, (QRow.of_owns h0).2⟩
  have H1 := Lib.hid (And.intro hr1 (And.intro hg hm)); clear ho hr1 hg hm
  have HF := Lib.hid (sortf_any g c xs.length xs ys w1 H1.out.1 HS.out rfl)
  go_wp2_with fail
  refine HF.out.mono ?_
  rintro e w2 ⟨rfl, h2, hm2⟩
  have H2 := Lib.hid (And.intro h2 hm2); clear h2 hm2
  go_wp2_with fail
  go_ret
  exact ⟨g, c, rfl, H2.out.1, H1.out.2.1, H1.out.2.2.trans H2.out.2 (fun k hk => .inr (by have hk : k = g := hk; rw [hk]; exact H1.out.2.1))⟩
set_option maxRecDepth 100000 in
set_option maxHeartbeats 1000000 in
theorem place2_any (p : Pk) (bl bi g c i n : Nat) (ys : List Pk) (y : Pk) (w : World) (hl : w.cell? ⟨bl, 0, none⟩ = some (.slice (some ⟨g, 0, none⟩) n c)) (hi : w.cell? ⟨bi, 0, none⟩ = some (.int .i64 i)) (hr : QRow w g c ys) (hy : ys[i]? = some y) (hn : n = ys.length) (hb : n ≤ 1000000) :
    Calls Try.prog 27 #[.agg p.cells.toArray, .pointer (some ⟨bl, 0, none⟩), .pointer (some ⟨bi, 0, none⟩)] w fun e w' => e = .returned (.bool (p.seq == y.seq)) ∧ Mod (fun _ => False) w w' := by
  have hin : i < n := by rw [hn]; exact (List.getElem?_eq_some_iff.1 hy).1
  have HR := Lib.hid (And.intro hr hy); clear hr hy hn
  go_enter Try.func27, Try.ntmps27
  go_wp2_with (refine wpList_box_new rfl 35 (.tmp 0) rfl p.cells rfl ?_)
  intro g1 w1 hg1 hb1 hm1
  have c0 : w1.cell? ⟨g1, 0, none⟩ = some (.int .i64 p.seq) := by rw [cell_of_blk hb1]; rfl
  have c1 : w1.cell? ⟨bl, 0, none⟩ = some (.slice (some ⟨g, 0, none⟩) n c) := ((hm1 fun _ => False).cell (a := ⟨bl, 0, none⟩) (lt_of_cell hl) id).trans hl
  have c2 : w1.cell? ⟨bi, 0, none⟩ = some (.int .i64 i) := ((hm1 fun _ => False).cell (a := ⟨bi, 0, none⟩) (lt_of_cell hi) id).trans hi
  have c3 : w1.cell? ⟨g, i * 4, none⟩ = some (.int .i64 y.seq) := (HR.out.1.move ((hm1 fun _ => False).block g HR.out.1.lt id)).cell HR.out.2 0 (by omega)
  have HM := Lib.hid (hm1 fun _ => False); clear hm1 hb1 hg1 hl hi
  go_wp2_with fail
  go_quiet (fail)
  go_wp2_with fail
  go_ret
  exact ⟨rfl, HM.out.drewN _⟩
end Go.Proofs.Ytlimjdejcjgocaa
