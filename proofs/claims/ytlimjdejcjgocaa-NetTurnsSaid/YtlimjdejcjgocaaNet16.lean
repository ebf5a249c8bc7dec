/- Layer 29, the laws: NetTurns. -/
import Derived.Test.YtlimjdejcjgocaaNet15
import Derived.Lib.SlicesS
namespace Go.Proofs.Ytlimjdejcjgocaa
open Go.RowKit
set_option linter.unusedVariables false
theorem not_eq_str {a b : List UInt8} (h : a ≠ b) : ¬ (mkStr a).toList = (mkStr b).toList := by
  intro e
  have : mkStr a = mkStr b := (Lib.bytes_beq_iff _ _).1 (by rw [e]; simp)
  exact h (by rw [← mkStr_list a, this, mkStr_list])
set_option maxRecDepth 100000 in
set_option maxHeartbeats 4000000 in
theorem turns_some (A : Option Addr) (c bit : Nat) (bs : List UInt8) (W : World) (h : bytesR.rel W (fun k => k < W.heap.size) [.slice A bs.length c] bs) (hb : bit < 65536) (hbs : bs ≠ []) :
    Calls Try.prog 4 #[.slice A bs.length c, .int .u16 bit] W fun e W' => e = .returned (.bool true) ∧ Mod (fun _ => False) W W' := by
  have hl : 0 < bs.length := List.length_pos_iff.2 hbs
  have HB := Lib.hid (And.intro h hbs); clear h hbs
  go_enter Try.func4, Try.ntmps4
  go_wp2_with fail
  refine (first_any W).mono ?_
  rintro e w0 ⟨rfl, hm0⟩
  have H0 := Lib.hid hm0; clear hm0
  by_cases h500 : 500 < bs.length
  · have hd : decide ((500 : Int) < (bs.length : Int)) = true := by simp; omega
    go_wp2_with fail
    go_ret
    exact ⟨rfl, H0.out⟩
  have hd : decide ((500 : Int) < (bs.length : Int)) = false := by simp; omega
  go_wp2_with fail
  refine (new_any 4 w0 (by decide) (by decide)).mono ?_
  rintro e w1 ⟨g, rfl, h1, hg, hm1⟩
  have H1 := Lib.hid (NS.mk h1 hm1); clear h1 hm1 hg
  go_wp2_with fail
  have hr : bytesR.rel w1 (fun k => k < W.heap.size) [.slice A bs.length c] bs := Rd.mod HB.out.1 (H0.out.trans H1.out.m (fun _ h => h.elim)) (fun _ _ => id)
  have HS := Lib.hid (send_ok _ g [] 4 0 0 0 3 1 A bs.length c bs _ w1 H1.out.st (by simp) (by simp) (by decide) (by decide) hr (by omega)); clear hr
  refine HS.out.mono ?_
  rintro e w2 ⟨rfl, p0, a1, a2, a3, a4, a5, a6⟩
  rw [push1] at a5
  have S2 : NS w0 w2 g [p0] 4 1 0 0 := H1.out.step a5 a6
  have n1 : ∀ k, p0.v.ownBlock = some k → w0.heap.size ≤ k := fun k e => by
    have h2 := (a4.lt k e).1
    have h1 := H1.out.m.size
    omega
  have H2 := Lib.hid (And.intro S2 (And.intro a1 (And.intro a2 (And.intro (a3.trans (show dueOf 0 1 = 1 by decide)) (And.intro (own_weakK a4 (Nat.zero_le _)) n1))))); clear S2 a1 a2 a3 a4 a5 a6 n1 HS
  go_wp2_with fail
  have srt : Srt [p0] [p0] := .inl ⟨p0, rfl, rfl⟩
  have HSR := Lib.hid srt; clear srt
  refine (turn_any _ g [p0] [p0] 0 0 bit p0 p0 bs 4 1 0 0 w2 H2.out.1.st HSR.out rfl rfl rfl (fun j x hj hx => by omega) H2.out.2.2.2.2.1 HB.out.2 (by omega) (by omega)).mono ?_
  rintro e w3 ⟨rfl, a1, a2, a3⟩
  have S3 : NS w0 w3 g [p0] 4 1 0 0 := ⟨a2, H2.out.1.m.trans a3 (fun k hk => .inr (H2.out.2.2.2.2.2 k hk))⟩
  have o3 : w3.ownsRow 0 5 1 p0.v (flipB bs bit).length (bcells (flipB bs bit)) := by rw [flipB_len]; exact a1
  have H3 := Lib.hid (And.intro S3 o3); clear S3 o3 a1 a2 a3
  go_wp2_with fail
  refine (at_any _ g [p0] [p0] 0 0 p0 p0 (flipB bs bit) 4 1 0 0 w3 H3.out.1.st HSR.out rfl rfl rfl (fun j x hj hx => by omega) H3.out.2 (by rw [flipB_len]; omega)).mono ?_
  rintro e w4 ⟨A4, c4, rfl, o4, m4⟩
  have H4 := Lib.hid (And.intro (H3.out.1.quiet m4) (And.intro (own_move H3.out.2 (fun k hk => m4.block k (H3.out.2.lt k hk).2 id)) o4)); clear o4 m4
  obtain ⟨s1, hs1⟩ : ∃ s, s = mkStr (flipB bs bit) := ⟨_, rfl⟩
  obtain ⟨s2, hs2⟩ : ∃ s, s = mkStr bs := ⟨_, rfl⟩
  have hne : ¬ s1.toList = s2.toList := by rw [hs1, hs2]; exact not_eq_str (flipB_ne bit HB.out.2)
  have hne2 : (s1.toList == s2.toList) = false := by simpa using hne
  obtain ⟨w5, hw5⟩ : ∃ w5, w5 = w4.alloc (.cells #[.int .i64 p0.seq, .int .i64 p0.to, .int .i64 p0.due, .slice A4 (flipB bs bit).length c4] 35) := ⟨_, rfl⟩
  have m5 : Mod (fun _ => False) w4 w5 := by rw [hw5]; exact (Mod.refl _ _).alloc _
  have o5 : w5.ownsRow w3.heap.size 5 1 (.slice A4 (flipB bs bit).length c4) (flipB bs bit).length (bcells (flipB bs bit)) := own_move H4.out.2.2 (fun k hk => m5.block k (H4.out.2.2.lt k hk).2 id)
  have v1 : (convert 29 9 (.slice A4 (flipB bs bit).length c4)).run Try.prog w5 = .ok (.string s1) w5 := by rw [hs1]; exact run_str (reads_bytes o5 (by rw [flipB_len]; omega)) 29 9 5 Try.underlying29 Try.underlying5 Try.underlying9
  have S5 := H4.out.1.quiet m5
  have v2 : (convert 29 9 (.slice A bs.length c)).run Try.prog w5 = .ok (.string s2) w5 := by rw [hs2]; exact run_str (Rd.mod HB.out.1 (H0.out.trans S5.m (fun _ h => h.elim)) (fun _ _ => id)) 29 9 5 Try.underlying29 Try.underlying5 Try.underlying9
  have H5 := Lib.hid (And.intro S5 (own_move H4.out.2.1 (fun k hk => m5.block k (H4.out.2.1.lt k hk).2 id)))
  have HS2 := Lib.hid hs2
  clear S5 m5 o5 hs1 hs2
  rw [hw5] at v1 v2
  have HW5 := Lib.hid hw5; clear hw5
  go_wp2_with (first
    | (refine wpList_alloc_agg rfl 35 rfl zeroPk.toArray (by kernel_rfl) ?_)
    | (refine wpList_store_new rfl 35 _ _ rfl 35 zeroPk.toArray [.int .i64 p0.seq, .int .i64 p0.to, .int .i64 p0.due, .slice A4 (flipB bs bit).length c4] rfl rfl Try.info_pk1 rfl (pk_one ⟨p0.seq, p0.to, p0.due, A4, (flipB bs bit).length, c4⟩) ?_))
  rw [← HW5.out]
  clear v1 v2 HW5
  have o5 : w5.ownsRow 0 5 1 p0.v (flipB bs bit).length (bcells (flipB bs bit)) := H5.out.2
  refine (turn_any _ g [p0] [p0] 0 0 bit p0 p0 (flipB bs bit) 4 1 0 0 w5 H5.out.1.st HSR.out rfl rfl rfl (fun j x hj hx => by omega) o5 (by intro e; have := flipB_len bs bit; rw [e] at this; simp at this; omega) (by rw [flipB_len]; omega) (by omega)).mono ?_
  rintro e w6 ⟨rfl, a1, a2, a3⟩
  rw [flipB_twice, flipB_len] at a1
  have S6 : NS w0 w6 g [p0] 4 1 0 0 := ⟨a2, H5.out.1.m.trans a3 (fun k hk => .inr (H2.out.2.2.2.2.2 k hk))⟩
  have H6 := Lib.hid (And.intro S6 a1); clear S6 a1 a2 a3 o5
  go_wp2_with fail
  refine (copy_any _ g [p0] [p0] 0 0 p0 p0 bs 7 4 1 0 0 w6 H6.out.1.st HSR.out rfl rfl rfl (fun j x hj hx => by omega) H6.out.2 (by omega) (by simp) (by decide) (by decide)).mono ?_
  rintro e w7 ⟨rfl, p1, a1, a2, a3, a4, a5, a6⟩
  have d1 : p1.due = 7 := a3.trans (show dueOf 0 7 = 7 by decide)
  rw [push2_no (by rw [pk_lt d1 H2.out.2.2.2.1 a1 H2.out.2.1]; decide)] at a5
  have S7 : NS w0 w7 g [p0, p1] 4 2 0 0 := H6.out.1.step a5 a6
  have H7 := Lib.hid (And.intro S7 (And.intro (own_net H6.out.1.st H6.out.2 a6) (And.intro (own_weakK a4 (Nat.zero_le _)) (And.intro a1 (And.intro (a2.trans H2.out.2.2.1) d1))))); clear S7 a1 a2 a3 a4 a5 a6 d1
  go_wp2_with fail
  clear hne hne2
  refine (pop_any _ g [p0, p1] p0 4 2 0 0 w7 H7.out.1.st rfl (by simp)).mono ?_
  rintro e w8 ⟨rfl, a5, a6⟩
  have tk2 : (popL ltK [p0, p1]).take ([p0, p1].length - 1) = [p1] := pop2
  have mx : max (0 : Int) p0.due = 1 := by rw [H2.out.2.2.2.1]; decide
  rw [tk2, mx] at a5
  have S8 : NS w0 w8 g [p1] 4 2 1 0 := H7.out.1.step a5 a6
  have H8 := Lib.hid (And.intro S8 (And.intro (own_net H7.out.1.st H7.out.2.1 a6) (own_net H7.out.1.st H7.out.2.2.1 a6))); clear S8 a5 a6 tk2 mx
  go_wp2_with (first
    | (refine wpList_alloc_agg rfl 35 rfl zeroPk.toArray (by kernel_rfl) ?_)
    | (refine wpList_store_new rfl 35 _ _ rfl 35 zeroPk.toArray p0.cells rfl rfl Try.info_pk1 rfl (pk_one p0) ?_))
  obtain ⟨w9, hw9⟩ : ∃ w9, w9 = w8.alloc (.cells p0.cells.toArray 35) := ⟨_, rfl⟩
  obtain ⟨gp, hgp⟩ : ∃ gp, gp = w8.heap.size := ⟨_, rfl⟩
  rw [← hw9, ← hgp]
  have m9 : Mod (fun _ => False) w8 w9 := by rw [hw9]; exact (Mod.refl _ _).alloc _
  have l9 : Loc g w9 gp p0.cells := by rw [hw9, hgp]; exact Loc.new H8.out.1.st _
  have H9 := Lib.hid (And.intro (H8.out.1.quiet m9) (And.intro (own_move H8.out.2.1 (fun k hk => m9.block k (H8.out.2.1.lt k hk).2 id)) (And.intro (own_move H8.out.2.2 (fun k hk => m9.block k (H8.out.2.2.lt k hk).2 id)) l9))); clear m9 l9 hw9 hgp
  refine (pop_any _ g [p1] p1 4 2 1 0 w9 H9.out.1.st rfl (by simp)).mono ?_
  rintro e w10 ⟨rfl, a5, a6⟩
  have mx : max (1 : Int) p1.due = 7 := by rw [H7.out.2.2.2.2.2]; decide
  rw [mx] at a5
  have SA := H9.out.1.step a5 a6
  have HA := Lib.hid (And.intro SA (And.intro (own_net H9.out.1.st H9.out.2.1 a6) (And.intro (own_net H9.out.1.st H9.out.2.2.1 a6) (H9.out.2.2.2.net a6)))); clear SA a5 a6 mx
  obtain ⟨wB, hwB⟩ : ∃ wB, wB = w10.alloc (.cells p1.cells.toArray 35) := ⟨_, rfl⟩
  have mB : Mod (fun _ => False) w10 wB := by rw [hwB]; exact (Mod.refl _ _).alloc _
  have SB := HA.out.1.quiet mB
  have o0 : wB.ownsRow 0 5 1 (.slice p0.A p0.n p0.c) bs.length (bcells bs) := own_move HA.out.2.1 (fun k hk => mB.block k (HA.out.2.1.lt k hk).2 id)
  have o1 : wB.ownsRow 0 5 1 (.slice p1.A p1.n p1.c) bs.length (bcells bs) := own_move HA.out.2.2.1 (fun k hk => mB.block k (HA.out.2.2.1.lt k hk).2 id)
  have v0 : (convert 29 9 (.slice p0.A p0.n p0.c)).run Try.prog wB = .ok (.string s2) wB := by rw [HS2.out]; exact run_str (reads_bytes o0 (by omega)) 29 9 5 Try.underlying29 Try.underlying5 Try.underlying9
  have v1 : (convert 29 9 (.slice p1.A p1.n p1.c)).run Try.prog wB = .ok (.string s2) wB := by rw [HS2.out]; exact run_str (reads_bytes o1 (by omega)) 29 9 5 Try.underlying29 Try.underlying5 Try.underlying9
  have v2 : (convert 29 9 (.slice A bs.length c)).run Try.prog wB = .ok (.string s2) wB := by rw [HS2.out]; exact run_str (Rd.mod HB.out.1 (H0.out.trans SB.m (fun _ h => h.elim)) (fun _ _ => id)) 29 9 5 Try.underlying29 Try.underlying5 Try.underlying9
  have lp := (HA.out.2.2.2.quiet mB HA.out.1.st.lt).blk
  have lq : wB.heap[w10.heap.size]? = some (.cells p1.cells.toArray 35 (0, 0)) := by rw [hwB]; exact heap_alloc_new w10 _
  have c0 : wB.cell? ⟨gp, 0, none⟩ = some (.int .i64 0) := by rw [cell_of_blk lp, ← H2.out.2.1]; rfl
  have c3 : wB.cell? ⟨gp, 3, none⟩ = some (.slice p0.A p0.n p0.c) := by rw [cell_of_blk lp]; rfl
  have d0 : wB.cell? ⟨w10.heap.size, 0, none⟩ = some (.int .i64 1) := by rw [cell_of_blk lq, ← H7.out.2.2.2.1]; rfl
  have d1 : wB.cell? ⟨w10.heap.size, 1, none⟩ = some (.int .i64 3) := by rw [cell_of_blk lq, ← H7.out.2.2.2.2.1]; rfl
  have d3 : wB.cell? ⟨w10.heap.size, 3, none⟩ = some (.slice p1.A p1.n p1.c) := by rw [cell_of_blk lq]; rfl
  have HSB := Lib.hid SB
  clear o0 o1 lp lq SB mB
  rw [hwB] at v0 v1 v2 c0 c3 d0 d1 d3
  have HWB := Lib.hid hwB; clear hwB
  go_wp2_with (first
    | (refine wpList_alloc_agg rfl 35 rfl zeroPk.toArray (by kernel_rfl) ?_)
    | (refine wpList_store_new rfl 35 _ _ rfl 35 zeroPk.toArray p1.cells rfl rfl Try.info_pk1 rfl (pk_one p1) ?_))
  rw [← HWB.out]
  refine (now_any _ g _ 4 2 7 0 wB HSB.out.st).mono ?_
  rintro e wD ⟨rfl, rfl⟩
  go_wp2_with fail
  go_ret
  exact ⟨rfl, H0.out.trans HSB.out.m (fun _ h => h.elim)⟩
end Go.Proofs.Ytlimjdejcjgocaa
