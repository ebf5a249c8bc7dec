/- Layer 29, the laws: NetTurns of no bytes, and of any. -/
import Derived.Test.YtlimjdejcjgocaaNet16
import Derived.Test.YtlimjdejcjgocaaNetR
import Derived.BigGuard
namespace Go.Proofs.Ytlimjdejcjgocaa
open Go.RowKit
set_option linter.unusedVariables false
/-- A goal at which the walk stops: no arm is tried on what comes after. -/
structure Halt (p : Prop) : Prop where
  out : p
set_option maxRecDepth 100000 in
set_option maxHeartbeats 4000000 in
theorem turns_nil (A : Option Addr) (c bit : Nat) (W : World) (h : bytesR.rel W (fun k => k < W.heap.size) [.slice A 0 c] []) (hb : bit < 65536) :
    Calls Try.prog 4 #[.slice A 0 c, .int .u16 bit] W fun e W' => e = .returned (.bool true) ∧ Mod (fun _ => False) W W' := by
  have HB := Lib.hid h; clear h
  go_enter Try.func4, Try.ntmps4
  go_wp2_with fail
  refine (first_any W).mono ?_
  rintro e w0 ⟨rfl, hm0⟩
  have H0 := Lib.hid hm0; clear hm0
  go_wp2_with fail
  refine (new_any 4 w0 (by decide) (by decide)).mono ?_
  rintro e w1 ⟨g, rfl, h1, hg, hm1⟩
  have H1 := Lib.hid (NS.mk h1 hm1); clear h1 hm1 hg
  go_wp2_with fail
  have hr : bytesR.rel w1 (fun k => k < W.heap.size) [.slice A 0 c] ([] : List UInt8) := Rd.mod HB.out (H0.out.trans H1.out.m (fun _ h => h.elim)) (fun _ _ => id)
  have HS := Lib.hid (send_ok _ g [] 4 0 0 0 3 1 A 0 c ([] : List UInt8) _ w1 H1.out.st (by simp) (by simp) (by decide) (by decide) hr (by simp)); clear hr
  refine HS.out.mono ?_
  rintro e w2 ⟨rfl, p0, a1, a2, a3, a4, a5, a6⟩
  rw [push1] at a5
  have S2 : NS w0 w2 g [p0] 4 1 0 0 := H1.out.step a5 a6
  have n1 : ∀ k, p0.v.ownBlock = some k → w0.heap.size ≤ k := fun k e => by
    have h2 := (a4.lt k e).1
    have h1 := H1.out.m.size
    omega
  have H2 := Lib.hid (And.intro S2 (And.intro a1 (And.intro a2 (And.intro (a3.trans (show dueOf 0 1 = 1 by decide)) (And.intro (own_weakK a4 (Nat.zero_le _)) n1))))); clear S2 a1 a2 a3 a4 a5 a6 n1 HS
  go_wp2_with fail
  have srt : Srt [p0] [p0] := .inl ⟨p0, rfl, rfl⟩
  have HSR := Lib.hid srt; clear srt
  obtain ⟨A9, c9, hv9⟩ : ∃ A9 c9, p0.v = .slice A9 0 c9 := by
    exact own_slice H2.out.2.2.2.2.1
  have HV := Lib.hid hv9; clear hv9
  refine (turn_none _ g [p0] [p0] 0 0 bit p0 p0 A9 c9 4 1 0 0 w2 H2.out.1.st HSR.out rfl rfl rfl (fun j x hj hx => by omega) HV.out).mono ?_
  rintro e w3 ⟨rfl, a3⟩
  have H3 := Lib.hid (And.intro (H2.out.1.quiet a3) (own_move H2.out.2.2.2.2.1 (fun k hk => a3.block k (H2.out.2.2.2.2.1.lt k hk).2 id))); clear a3
  go_wp2_with fail
  refine (at_any _ g [p0] [p0] 0 0 p0 p0 ([] : List UInt8) 4 1 0 0 w3 H3.out.1.st HSR.out rfl rfl rfl (fun j x hj hx => by omega) H3.out.2 (by simp)).mono ?_
  rintro e w4 ⟨A4, c4, rfl, o4, m4⟩
  have H4 := Lib.hid (And.intro (H3.out.1.quiet m4) (And.intro (own_move H3.out.2 (fun k hk => m4.block k (H3.out.2.lt k hk).2 id)) o4)); clear o4 m4
  obtain ⟨s2, hs2⟩ : ∃ s, s = mkStr ([] : List UInt8) := ⟨_, rfl⟩
  obtain ⟨w5, hw5⟩ : ∃ w5, w5 = w4.alloc (.cells #[.int .i64 p0.seq, .int .i64 p0.to, .int .i64 p0.due, .slice A4 0 c4] 35) := ⟨_, rfl⟩
  have m5 : Mod (fun _ => False) w4 w5 := by rw [hw5]; exact (Mod.refl _ _).alloc _
  have S5 := H4.out.1.quiet m5
  have H5 := Lib.hid (And.intro S5 (own_move H4.out.2.1 (fun k hk => m5.block k (H4.out.2.1.lt k hk).2 id)))
  have HS2 := Lib.hid hs2
  clear S5 m5 hs2
  have HW5 := Lib.hid hw5; clear hw5
  go_wp2_with (first
    | (refine wpList_alloc_agg rfl 35 rfl zeroPk.toArray (by kernel_rfl) ?_)
    | (refine wpList_store_new rfl 35 _ _ rfl 35 zeroPk.toArray [.int .i64 p0.seq, .int .i64 p0.to, .int .i64 p0.due, .slice A4 0 c4] rfl rfl Try.info_pk1 rfl (pk_one ⟨p0.seq, p0.to, p0.due, A4, 0, c4⟩) ?_; refine Halt.out ?_))
  refine Halt.mk ?_
  rw [← HW5.out]
  clear HW5
  go_wp2_with fail
  refine (turn_none _ g [p0] [p0] 0 0 bit p0 p0 A9 c9 4 1 0 0 w5 H5.out.1.st HSR.out rfl rfl rfl (fun j x hj hx => by omega) HV.out).mono ?_
  rintro e w6 ⟨rfl, a3⟩
  have H6 := Lib.hid (And.intro (H5.out.1.quiet a3) (own_move H5.out.2 (fun k hk => a3.block k (H5.out.2.lt k hk).2 id))); clear a3
  go_wp2_with fail
  refine (copy_any _ g [p0] [p0] 0 0 p0 p0 ([] : List UInt8) 7 4 1 0 0 w6 H6.out.1.st HSR.out rfl rfl rfl (fun j x hj hx => by omega) H6.out.2 (by simp) (by simp) (by decide) (by decide)).mono ?_
  rintro e w7 ⟨rfl, p1, a1, a2, a3, a4, a5, a6⟩
  have d1 : p1.due = 7 := a3.trans (show dueOf 0 7 = 7 by decide)
  rw [push2_no (by rw [pk_lt d1 H2.out.2.2.2.1 a1 H2.out.2.1]; decide)] at a5
  have S7 : NS w0 w7 g [p0, p1] 4 2 0 0 := H6.out.1.step a5 a6
  have H7 := Lib.hid (And.intro S7 (And.intro (own_net H6.out.1.st H6.out.2 a6) (And.intro (own_weakK a4 (Nat.zero_le _)) (And.intro a1 (And.intro (a2.trans H2.out.2.2.1) d1))))); clear S7 a1 a2 a3 a4 a5 a6 d1
  go_wp2_with fail
  refine (pop_any _ g [p0, p1] p0 4 2 0 0 w7 H7.out.1.st rfl (by simp)).mono ?_
  rintro e w8 ⟨rfl, a5, a6⟩
  have tk2 : (popL ltK [p0, p1]).take ([p0, p1].length - 1) = [p1] := pop2
  have mx : max (0 : Int) p0.due = 1 := by rw [H2.out.2.2.2.1]; decide
  rw [tk2, mx] at a5
  have S8 : NS w0 w8 g [p1] 4 2 1 0 := H7.out.1.step a5 a6
  have H8 := Lib.hid (And.intro S8 (And.intro (own_net H7.out.1.st H7.out.2.1 a6) (own_net H7.out.1.st H7.out.2.2.1 a6))); clear S8 a5 a6 tk2 mx
  go_wp2_with (first
    | (refine wpList_alloc_agg rfl 35 rfl zeroPk.toArray (by kernel_rfl) ?_)
    | (refine wpList_store_new rfl 35 _ _ rfl 35 zeroPk.toArray p0.cells rfl rfl Try.info_pk1 rfl (pk_one p0) ?_; refine Halt.out ?_))
  refine Halt.mk ?_
  obtain ⟨w9, hw9⟩ : ∃ w9, w9 = w8.alloc (.cells p0.cells.toArray 35) := ⟨_, rfl⟩
  obtain ⟨gp, hgp⟩ : ∃ gp, gp = w8.heap.size := ⟨_, rfl⟩
  rw [← hw9, ← hgp]
  have m9 : Mod (fun _ => False) w8 w9 := by rw [hw9]; exact (Mod.refl _ _).alloc _
  have l9 : Loc g w9 gp p0.cells := by rw [hw9, hgp]; exact Loc.new H8.out.1.st _
  have H9 := Lib.hid (And.intro (H8.out.1.quiet m9) (And.intro (own_move H8.out.2.1 (fun k hk => m9.block k (H8.out.2.1.lt k hk).2 id)) (And.intro (own_move H8.out.2.2 (fun k hk => m9.block k (H8.out.2.2.lt k hk).2 id)) l9))); clear m9 l9 hw9 hgp
  go_wp2_with fail
  refine (pop_any _ g [p1] p1 4 2 1 0 w9 H9.out.1.st rfl (by simp)).mono ?_
  rintro e w10 ⟨rfl, a5, a6⟩
  have mx : max (1 : Int) p1.due = 7 := by rw [H7.out.2.2.2.2.2]; decide
  rw [mx] at a5
  have SA := H9.out.1.step a5 a6
  have HA := Lib.hid (And.intro SA (And.intro (own_net H9.out.1.st H9.out.2.1 a6) (And.intro (own_net H9.out.1.st H9.out.2.2.1 a6) (H9.out.2.2.2.net a6)))); clear SA a5 a6 mx
  obtain ⟨wB, hwB⟩ : ∃ wB, wB = w10.alloc (.cells p1.cells.toArray 35) := ⟨_, rfl⟩
  have mB : Mod (fun _ => False) w10 wB := by rw [hwB]; exact (Mod.refl _ _).alloc _
  have SB := HA.out.1.quiet mB
  have o0 : wB.ownsRow 0 5 1 (.slice p0.A p0.n p0.c) 0 (bcells ([] : List UInt8)) := own_move HA.out.2.1 (fun k hk => mB.block k (HA.out.2.1.lt k hk).2 id)
  have o1 : wB.ownsRow 0 5 1 (.slice p1.A p1.n p1.c) 0 (bcells ([] : List UInt8)) := own_move HA.out.2.2.1 (fun k hk => mB.block k (HA.out.2.2.1.lt k hk).2 id)
  have v0 : (convert 29 9 (.slice p0.A p0.n p0.c)).run Try.prog wB = .ok (.string s2) wB := by rw [HS2.out]; exact run_str (reads_bytes o0 (by simp)) 29 9 5 Try.underlying29 Try.underlying5 Try.underlying9
  have v1 : (convert 29 9 (.slice p1.A p1.n p1.c)).run Try.prog wB = .ok (.string s2) wB := by rw [HS2.out]; exact run_str (reads_bytes o1 (by simp)) 29 9 5 Try.underlying29 Try.underlying5 Try.underlying9
  have v2 : (convert 29 9 (.slice A 0 c)).run Try.prog wB = .ok (.string s2) wB := by rw [HS2.out]; exact run_str (Rd.mod HB.out (H0.out.trans SB.m (fun _ h => h.elim)) (fun _ _ => id)) 29 9 5 Try.underlying29 Try.underlying5 Try.underlying9
  have lp := (HA.out.2.2.2.quiet mB HA.out.1.st.lt).blk
  have lq : wB.heap[w10.heap.size]? = some (.cells p1.cells.toArray 35 (0, 0)) := by rw [hwB]; exact heap_alloc_new w10 _
  have c0 : wB.cell? ⟨gp, 0, none⟩ = some (.int .i64 0) := by rw [cell_of_blk lp, ← H2.out.2.1]; rfl
  have c3 : wB.cell? ⟨gp, 3, none⟩ = some (.slice p0.A p0.n p0.c) := by rw [cell_of_blk lp]; rfl
  have d0 : wB.cell? ⟨w10.heap.size, 0, none⟩ = some (.int .i64 1) := by rw [cell_of_blk lq, ← H7.out.2.2.2.1]; rfl
  have d1 : wB.cell? ⟨w10.heap.size, 1, none⟩ = some (.int .i64 3) := by rw [cell_of_blk lq, ← H7.out.2.2.2.2.1]; rfl
  have d3 : wB.cell? ⟨w10.heap.size, 3, none⟩ = some (.slice p1.A p1.n p1.c) := by rw [cell_of_blk lq]; rfl
  have HSB := Lib.hid SB
  clear o0 o1 lp lq SB mB
  have HWB := Lib.hid hwB; clear hwB
  go_wp2_with (first
    | (refine wpList_alloc_agg rfl 35 rfl zeroPk.toArray (by kernel_rfl) ?_)
    | (refine wpList_store_new rfl 35 _ _ rfl 35 zeroPk.toArray p1.cells rfl rfl Try.info_pk1 rfl (pk_one p1) ?_; refine Halt.out ?_))
  refine Halt.mk ?_
  rw [← HWB.out]
  clear HWB
  go_wp2_with fail
  refine (now_any _ g _ 4 2 7 0 wB HSB.out.st).mono ?_
  rintro e wD ⟨rfl, rfl⟩
  go_wp2_with fail
  go_ret
  exact ⟨rfl, H0.out.trans HSB.out.m (fun _ h => h.elim)⟩
theorem netTurns_walk (A : Option Addr) (n c : Nat) (b : Int) (bs : List UInt8) (x : Int) (W : World) (h : bytesR.rel W (fun k => k < W.heap.size) [.slice A n c] bs) (h2 : (Rd.int .u16).rel W (fun k => k < W.heap.size) [.int .u16 b] x) :
    Calls Try.prog 4 #[.slice A n c, .int .u16 b] W fun e W' => e = .returned (.bool true) ∧ Below W.heap.size W W' := by
  obtain ⟨hx, hr⟩ := h2
  simp only [List.cons.injEq, Value.int.injEq, and_true, true_and] at hx
  subst hx
  have hb : 0 ≤ b ∧ b ≤ 65535 := by simpa [Rd.inR, Lit.wf, IntKind.min, IntKind.max, IntKind.signed, IntKind.bits] using hr
  obtain ⟨m, rfl⟩ : ∃ m : Nat, b = m := ⟨b.toNat, by omega⟩
  have hn : n = bs.length := by
    obtain ⟨A0, c0, hv, _⟩ := h
    simp only [List.cons.injEq, Value.slice.injEq, and_true] at hv
    exact hv.2.1
  subst hn
  by_cases hbs : bs = []
  · subst hbs; exact (turns_nil A c m W h (by omega)).mono fun _ _ h => ⟨h.1, h.2.below (Nat.le_refl _) (fun _ h => h.elim)⟩
  · exact (turns_some A c m bs W h (by omega) hbs).mono fun _ _ h => ⟨h.1, h.2.below (Nat.le_refl _) (fun _ h => h.elim)⟩
end Go.Proofs.Ytlimjdejcjgocaa
