/- The law TapeWrites of layer 3: its walk. -/
import Derived.Test.YtbgohopnmjdkhaaTape5
namespace Go.Proofs.Ytbgohopnmjdkhaa
open Go.RowKit
structure Op3 where
  kind : Int
  n : Int
  most : Int
  s : ByteArray
def opR : Rd Op3 := ((Rd.int .i64).pair ((Rd.int .i64).pair ((Rd.int .i64).pair Rd.string))).iso fun o => (o.kind, o.n, o.most, o.s)
theorem opR_opens : Opens Try.prog opR 29 :=
  opens_iso (fun a => ⟨a.1, a.2.1, a.2.2.1, a.2.2.2⟩) (fun _ => rfl) (opens_struct Try.underlying29 (by kernel_rfl)
    (opens_cons (by kernel_rfl) (by kernel_rfl) (opens_int Try.underlying3) (opens_cons (by kernel_rfl) (by kernel_rfl) (opens_int Try.underlying3)
      (opens_cons (by kernel_rfl) (by kernel_rfl) (opens_int Try.underlying3) (opens_last (by kernel_rfl) (by kernel_rfl) (opens_string Try.underlying9))))))
theorem opsR_opens : Opens Try.prog (Rd.slice 40 opR) 22 := opens_slice Try.underlying22 (by kernel_rfl) (by kernel_rfl) opR_opens
theorem opR_cells {w : World} {ok : Nat → Prop} {cs : List Value} {o : Op3} (h : opR.rel w ok cs o) : cs = [.int .i64 o.kind, .int .i64 o.n, .int .i64 o.most, .string o.s] ∧ Rd.inR .i64 o.kind ∧ Rd.inR .i64 o.n ∧ o.s.size ≤ 140737488355328 := by
  obtain ⟨c0, c1, rfl, ⟨rfl, h0⟩, d0, d1, rfl, ⟨rfl, h1⟩, e0, e1, rfl, ⟨rfl, h2⟩, rfl, h3⟩ := h
  exact ⟨rfl, h0, h1, h3⟩
set_option maxRecDepth 100000 in
set_option maxHeartbeats 1000000 in
theorem tapeWrites_walk (A : Option Addr) (n c : Nat) (x0 : List Op3) (W : World) (h0 : (Rd.slice 40 opR).rel W (fun k => k < W.heap.size) [.slice A n c] x0) :
    Calls Try.prog 3 #[.slice A n c] W fun e W' => e = .returned (.bool true) ∧ Below W.heap.size W W' := by
  obtain ⟨A', c', hv, h2, h3, h4, h5, h6⟩ := h0
  simp only [List.cons.injEq, Value.slice.injEq, and_true] at hv
  obtain ⟨rfl, rfl, rfl⟩ := hv
  clear h5
  have HR := Lib.hid h6; clear h6
  go_enter Try.func3, Try.ntmps3
  go_wp2_with fail
  refine (first3_any W).mono ?_
  rintro e W1 ⟨rfl, HM⟩
  have hws := HM.size
  go_wp2_with fail
  go_loopg [5, 15] (x0.length) (fun f ss si wr => ∃ (i : Nat) (u : Value) (bs : List UInt8), si = .int .i64 i ∧ ss = .string (mkStr bs) ∧ i + f = x0.length ∧ i ≤ 60 ∧ bs.length ≤ i * 400 ∧ PenAt wr W1.heap.size W1.heap.size u bs ∧ Below W1.heap.size W1 wr)
  case atStart => exact ⟨0, _, [], rfl, rfl, by omega, by omega, by simp, PenAt.new W1 _ (Nat.le_refl _), (Below.refl _ _).alloc (Nat.le_refl _) _⟩
  case round =>
    obtain ⟨i, u, bs, rfl, rfl, hi, hi60, hbl, hp, hbe⟩ := hrel
    have hsz := hbe.size
    have hpl := hp.lt
    by_cases hlt : i < x0.length
    · obtain ⟨o, ho⟩ : ∃ o, x0[i]? = some o := ⟨_, List.getElem?_eq_getElem hlt⟩
      obtain ⟨ad, cs, rfl, hadb, hoR, hcells⟩ := Rd.RowOf.at_ HR.out ho
      obtain ⟨rfl, hk, hn, hs⟩ := opR_cells hoR
      have hlt2 : ad.block < W1.heap.size := by have := hadb; omega
      have hcw : ∀ j v, ([.int .i64 o.kind, .int .i64 o.n, .int .i64 o.most, .string o.s] : List Value)[j]? = some v → wr.cell? (ad.add (i * 4 + j)) = some v := fun j v hj => by
        have e1 := hcells j v hj
        have : W1.cell? (ad.add (i * 4 + j)) = some v := cell_step e1 (fun h => HM.block _ h id)
        exact cell_step this (fun h => hbe.block _ (by rw [add_block]; omega))
      have c0 := hcw 0 _ rfl
      have c1 := hcw 1 _ rfl
      have c2 := hcw 2 _ rfl
      have c3 := hcw 3 _ rfl
      rw [add_field _ _ _ (by decide)] at c1 c2 c3
      rw [Nat.add_zero] at c0
      clear hcw hcells
      have hp2 : PenAt (wr.alloc (.cells #[.int .i64 o.kind, .int .i64 o.n, .int .i64 o.most, .string o.s] 29)) W1.heap.size W1.heap.size u bs := hp.mod ((Mod.refl (fun _ => False) wr).alloc _) id (fun _ _ => id)
      have hbe2 := hbe.alloc hsz (.cells #[.int .i64 o.kind, .int .i64 o.n, .int .i64 o.most, .string o.s] 29)
      have hnn := hp.not_new
      have HX := Lib.hid (And.intro hi (And.intro hbl (And.intro hp (And.intro hbe (And.intro hoR (And.intro hp2 (And.intro hbe2 (And.intro hnn (And.intro hk hn)))))))))
      clear hi hbl hp hbe hoR hp2 hbe2 hnn hk hn
      go_wp2_with fail
      · go_ret
        obtain ⟨hi, hbl, hp, hbe, hoR, hp2, hbe2, hnn, hk, hn⟩ := HX.out
        exact ⟨rfl, (HM.below (Nat.le_refl _) (fun _ h => h.elim)).trans (hbe2.mono hws)⟩
      · -- a number that may be
        by_cases hN : o.n ≤ 4611686018427387903
        · obtain ⟨hi, hbl, hp, hbe, hoR, hp2, hbe2, hnn, hk, hn⟩ := HX.out
          refine (num_any W1.heap.size W1.heap.size o.n u bs _ hp2 (by simp; omega) (by assumption) hN (by omega)).mono ?_
          rintro e w1 ⟨rfl, u1, H1⟩
          have hb1 := blk_mod H1.mod hnn
          have d1 : w1.cell? ⟨wr.heap.size, 1, none⟩ = some (.int .i64 o.n) := by rw [cell_of_blk hb1]; rfl
          have hz : decide (o.n ≤ 4611686018427387903) = true := by simp; omega
          have HY := Lib.hid H1
          clear H1 hb1 hi hbl hp hbe hoR hp2 hbe2 hnn hk hn c0 c1 c2 c3
          go_wp2_with fail
          refine (num_no none _ w1 (.inl rfl)).mono ?_
          rintro e w1' ⟨rfl, rfl⟩
          go_wp2_with fail
          refine (refnum_any 9 (by decide) o.n w1 (by assumption) hN (by omega)).mono ?_
          rintro e w2 ⟨rfl, H2⟩
          have hadd := run_add_strs (P := Try.prog) bs (encF 10 o.n) (by have := encF_len 10 o.n; have := HX.out.2.1; omega)
          go_wp2_with fail
          go_roundg (gk - 1)
          case measure => have := HX.out.1; omega
          case rel =>
            obtain ⟨hi, hbl, hp, hbe, hoR, hp2, hbe2, hnn, hk, hn⟩ := HX.out
            have hle := encF_len 10 o.n
            have hb1 := HY.out.below hp2 (by simp; omega)
            exact ⟨i + 1, u1, bs ++ encF 10 o.n, by go_num, rfl, by omega, by omega, by simp; omega, HY.out.at_.mod H2 id (fun _ _ => id), (hbe2.trans hb1).trans (H2.below (by have := hb1.size; simp at this; omega) (fun _ h => h.elim))⟩
        · obtain ⟨hi, hbl, hp, hbe, hoR, hp2, hbe2, hnn, hk, hn⟩ := HX.out
          have hz : decide (o.n ≤ 4611686018427387903) = false := by simp; omega
          refine (num_no _ o.n _ (.inr (.inr (by omega)))).mono ?_
          rintro e w1 ⟨rfl, rfl⟩
          clear hi hbl hp hbe hoR hp2 hbe2 hnn hk hn c0 c1 c2 c3
          go_wp2_with fail
          refine (num_no none _ _ (.inl rfl)).mono ?_
          rintro e w1' ⟨rfl, rfl⟩
          go_wp2_with fail
          go_roundg (gk - 1)
          case measure => have := HX.out.1; omega
          case rel =>
            obtain ⟨hi, hbl, hp, hbe, hoR, hp2, hbe2, hnn, hk, hn⟩ := HX.out
            exact ⟨i + 1, u, bs, by go_num, rfl, by omega, by omega, by omega, hp2, hbe2⟩
      · -- a negative number
        obtain ⟨hi, hbl, hp, hbe, hoR, hp2, hbe2, hnn, hk, hn⟩ := HX.out
        refine (num_no _ o.n _ (.inr (.inl (by assumption)))).mono ?_
        rintro e w1 ⟨rfl, rfl⟩
        clear hi hbl hp hbe hoR hp2 hbe2 hnn hk hn c0 c1 c2 c3
        go_wp2_with fail
        refine (num_no none _ _ (.inl rfl)).mono ?_
        rintro e w1' ⟨rfl, rfl⟩
        go_wp2_with fail
        go_roundg (gk - 1)
        case measure => have := HX.out.1; omega
        case rel =>
          obtain ⟨hi, hbl, hp, hbe, hoR, hp2, hbe2, hnn, hk, hn⟩ := HX.out
          exact ⟨i + 1, u, bs, by go_num, rfl, by omega, by omega, by omega, hp2, hbe2⟩
      · -- a flag
        obtain ⟨hi, hbl, hp, hbe, hoR, hp2, hbe2, hnn, hk, hn⟩ := HX.out
        refine (flag_any W1.heap.size W1.heap.size _ u bs _ hp2 (by simp; omega) (by omega)).mono ?_
        rintro e w1 ⟨rfl, u1, H1⟩
        have hb1 := blk_mod H1.mod hnn
        have d1 : w1.cell? ⟨wr.heap.size, 1, none⟩ = some (.int .i64 o.n) := by rw [cell_of_blk hb1]; rfl
        have HY := Lib.hid H1
        clear H1 hb1 hi hbl hp hbe hoR hp2 hbe2 hnn hk hn c0 c1 c2 c3
        go_wp2_with fail
        refine (flag_nil _ w1).mono ?_
        rintro e w1' ⟨rfl, rfl⟩
        go_wp2_with fail
        refine (refflag_any _ w1).mono ?_
        rintro e w1' ⟨rfl, rfl⟩
        have hadd := run_add_strs (P := Try.prog) bs [flagB (o.n.tmod 2 != 0)] (by have := HX.out.2.1; simp; omega)
        go_wp2_with fail
        go_roundg (gk - 1)
        case measure => have := HX.out.1; omega
        case rel =>
          obtain ⟨hi, hbl, hp, hbe, hoR, hp2, hbe2, hnn, hk, hn⟩ := HX.out
          have hb1 := HY.out.below hp2 (by simp; omega)
          exact ⟨i + 1, u1, bs ++ [flagB (o.n.tmod 2 != 0)], by go_num, rfl, by omega, by omega, by simp; omega, HY.out.at_, hbe2.trans hb1⟩
      · -- a text
        obtain ⟨hi, hbl, hp, hbe, hoR, hp2, hbe2, hnn, hk, hn⟩ := HX.out
        have hs3 : o.s.size ≤ 300 := by
          have : (i : Int) < 60 ∧ (o.s.size : Int) ≤ 300 := by assumption
          omega
        refine (text_any W1.heap.size W1.heap.size o.s u bs _ hp2 (by simp; omega) (by omega) (by omega)).mono ?_
        rintro e w1 ⟨rfl, u1, H1⟩
        have hb1 := blk_mod H1.mod hnn
        have d1 : w1.cell? ⟨wr.heap.size, 3, none⟩ = some (.string o.s) := by rw [cell_of_blk hb1]; rfl
        have HY := Lib.hid H1
        clear H1 hb1 hi hbl hp hbe hoR hp2 hbe2 hnn hk hn c0 c1 c2 c3
        go_wp2_with fail
        refine (text_nil _ w1).mono ?_
        rintro e w1' ⟨rfl, rfl⟩
        go_wp2_with fail
        refine (reftext_any _ (by omega) w1).mono ?_
        rintro e w2 ⟨rfl, H2⟩
        have hadd := run_add_strs (P := Try.prog) bs (encF 10 o.s.size ++ o.s.data.toList) (by have := encF_len 10 (o.s.size : Int); have := HX.out.2.1; simp; omega)
        go_wp2_with fail
        go_roundg (gk - 1)
        case measure => have := HX.out.1; omega
        case rel =>
          obtain ⟨hi, hbl, hp, hbe, hoR, hp2, hbe2, hnn, hk, hn⟩ := HX.out
          have hle := encF_len 10 (o.s.size : Int)
          have hb1 := HY.out.below hp2 (by simp; omega)
          exact ⟨i + 1, u1, bs ++ (encF 10 o.s.size ++ o.s.data.toList), by go_num, rfl, by omega, by omega, by simp; omega, by rw [← List.append_assoc]; exact HY.out.at_.mod H2 id (fun _ _ => id), (hbe2.trans hb1).trans (H2.below (by have := hb1.size; simp at this; omega) (fun _ h => h.elim))⟩
      · -- sixty of them
        go_ret
        obtain ⟨hi, hbl, hp, hbe, hoR, hp2, hbe2, hnn, hk, hn⟩ := HX.out
        exact ⟨rfl, (HM.below (Nat.le_refl _) (fun _ h => h.elim)).trans (hbe2.mono hws)⟩
    · -- the end
      have hbl' : bs.length ≤ 140737488355328 := by omega
      go_wp2_with fail
      refine (bytes_any W1.heap.size W1.heap.size u bs wr hp hbl').mono ?_
      rintro e w1 ⟨A1, c1, rfl, h1, m1⟩
      have hcv := run_str (P := Try.prog) (reads_bytes h1 hbl') 25 9 5 Try.underlying25 Try.underlying5 Try.underlying9
      have HX := Lib.hid (And.intro hi (And.intro hbl (And.intro hp (And.intro hbe (And.intro h1 m1)))))
      clear hi hbl hp hbe h1 m1
      go_wp2_with fail
      refine (bytes_nil w1).mono ?_
      rintro e w1' ⟨rfl, rfl⟩
      go_wp2_with fail
      go_ret
      obtain ⟨hi, hbl, hp, hbe, h1, m1⟩ := HX.out
      exact ⟨rfl, (HM.below (Nat.le_refl _) (fun _ h => h.elim)).trans ((hbe.mono hws).trans (m1.below (by omega) (fun _ h => h.elim)))⟩
end Go.Proofs.Ytbgohopnmjdkhaa
