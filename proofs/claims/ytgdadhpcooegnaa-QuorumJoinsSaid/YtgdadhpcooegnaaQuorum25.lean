/- QuorumJoins: the walk. -/
import Derived.Test.YtgdadhpcooegnaaQuorum21
import Derived.Test.YtgdadhpcooegnaaQuorum24
namespace Go.Proofs.Ytgdadhpcooegnaa
open Go.RowKit
theorem joinI_inR {a b : List Int} (ha : ∀ x ∈ a, Rd.inR .i64 x) (hb : ∀ x ∈ b, Rd.inR .i64 x) : ∀ x ∈ joinI a b, Rd.inR .i64 x := by
  intro x hx
  unfold joinI at hx
  rw [List.mem_map] at hx
  obtain ⟨i, _, rfl⟩ := hx
  have h1 := getI_inR ha i
  have h2 := getI_inR hb i
  have : max (getI a i) (getI b i) = getI a i ∨ max (getI a i) (getI b i) = getI b i := by omega
  rcases this with e | e <;> rw [e] <;> assumption
theorem ints_at {w : World} {ok : Nat → Prop} {A : Option Addr} {n c : Nat} {xs : List Int} (h : intsR.rel w ok [.slice A n c] xs) {i : Nat} {v : Int} (hv : xs[i]? = some v) : ∃ ad, A = some ad ∧ w.cell? (ad.add i) = some (.int .i64 v) := by
  obtain ⟨A', c', hA, _, _, _, _, h6⟩ := h
  simp only [List.cons.injEq, Value.slice.injEq, and_true] at hA
  obtain ⟨rfl, rfl, rfl⟩ := hA
  obtain ⟨ad, hA, _, hc, _⟩ := RowOf.ints h6 hv
  exact ⟨ad, hA, hc⟩
set_option maxRecDepth 100000 in
set_option maxHeartbeats 2000000 in
theorem quorumJoins_mod (A : Option Addr) (n c : Nat) (A2 : Option Addr) (n2 c2 : Nat) (A3 : Option Addr) (n3 c3 : Nat) (a b z : List Int) (ok : Nat → Prop) (w : World) (h : u16sR.rel w ok [.slice A n c] a) (h2 : u16sR.rel w ok [.slice A2 n2 c2] b) (h3 : u16sR.rel w ok [.slice A3 n3 c3] z) :
    Calls Try.prog 6 #[.slice A n c, .slice A2 n2 c2, .slice A3 n3 c3] w fun e w' => e = .returned (.bool true) ∧ Mod (fun _ => False) w w' := by
  obtain rfl : n = a.length := (u16_row h).1
  obtain rfl : n2 = b.length := (u16_row h2).1
  obtain rfl : n3 = z.length := (u16_row h3).1
  have H0 := Lib.hid (And.intro h (And.intro h2 h3)); clear h h2 h3
  go_enter Try.func6, Try.ntmps6
  go_wp2_with fail
  refine (first_any _).mono ?_
  rintro e w1 ⟨rfl, hm⟩
  have H1 := Lib.hid (And.intro (Rd.mod (Rd.bound H0.out.1) hm (fun _ _ => id)) (And.intro (Rd.mod (Rd.bound H0.out.2.1) hm (fun _ _ => id)) (And.intro (Rd.mod (Rd.bound H0.out.2.2) hm (fun _ _ => id)) hm)))
  clear H0 hm
  by_cases ha : 30 < a.length
  · have hd : decide ((30 : Int) < (a.length : Int)) = true := by simp; omega
    go_wp2_with fail
    go_ret
    exact ⟨rfl, H1.out.2.2.2⟩
  have hda : decide ((30 : Int) < (a.length : Int)) = false := by simp; omega
  by_cases hb : 30 < b.length
  · have hd : decide ((30 : Int) < (b.length : Int)) = true := by simp; omega
    go_wp2_with fail
    go_ret
    exact ⟨rfl, H1.out.2.2.2⟩
  have hdb : decide ((30 : Int) < (b.length : Int)) = false := by simp; omega
  by_cases hc : 30 < z.length
  · have hd : decide ((30 : Int) < (z.length : Int)) = true := by simp; omega
    go_wp2_with fail
    go_ret
    exact ⟨rfl, H1.out.2.2.2⟩
  have hdc : decide ((30 : Int) < (z.length : Int)) = false := by simp; omega
  go_wp2_with fail
  have hA := wideI_inR H1.out.1
  have hB := wideI_inR H1.out.2.1
  have hC := wideI_inR H1.out.2.2.1
  have HI := Lib.hid (And.intro (wide_inR hA) (And.intro (wide_inR hB) (wide_inR hC))); clear hA hB hC
  obtain ⟨g1, hg1⟩ : ∃ g, g = w1.heap.size := ⟨_, rfl⟩
  refine (wide_any A _ c a _ w1 H1.out.1).mono ?_
  rintro e w2 ⟨rfl, ho, hm⟩
  rw [← hg1] at ho ⊢
  have H2 := Lib.hid (And.intro hg1 (And.intro ho hm)); clear hg1 ho hm
  go_wp2_with fail
  obtain ⟨g2, hg2⟩ : ∃ g, g = w2.heap.size := ⟨_, rfl⟩
  refine (wide_any A2 _ c2 b _ w2 (Rd.mod H1.out.2.1 H2.out.2.2 (fun _ _ => id))).mono ?_
  rintro e w3 ⟨rfl, ho, hm⟩
  rw [← hg2] at ho ⊢
  have H3 := Lib.hid (And.intro hg2 (And.intro ho hm)); clear hg2 ho hm
  go_wp2_with fail
  obtain ⟨g3, hg3⟩ : ∃ g, g = w3.heap.size := ⟨_, rfl⟩
  refine (wide_any A3 _ c3 z _ w3 (Rd.mod (Rd.mod H1.out.2.2.1 H2.out.2.2 (fun _ _ => id)) H3.out.2.2 (fun _ _ => id))).mono ?_
  rintro e w4 ⟨rfl, ho, hm⟩
  rw [← hg3] at ho ⊢
  have H4 := Lib.hid (And.intro hg3 (And.intro ho hm)); clear hg3 ho hm
  -- what is read from here on
  obtain ⟨x, hx⟩ : ∃ x, x = wideI a := ⟨_, rfl⟩
  obtain ⟨y, hy⟩ : ∃ y, y = wideI b := ⟨_, rfl⟩
  obtain ⟨t, ht⟩ : ∃ t, t = wideI z := ⟨_, rfl⟩
  have hlx : x.length = 7 := by rw [hx]; exact wideI_len a
  have hly : y.length = 7 := by rw [hy]; exact wideI_len b
  have hlt : t.length = 7 := by rw [ht]; exact wideI_len z
  have mk : ∀ {g base : Nat} {xs l : List Int} {W : World}, xs = wideI l → (∀ x ∈ wideI l, Rd.inR .i64 x) → W.ownsRow base 3 1 (.slice (some ⟨g, 0, none⟩) 7 7) 7 (icells (wideI l)) → intsR.rel W (fun k => k < W.heap.size) [.slice (some ⟨g, 0, none⟩) xs.length 7] xs := fun {g base xs l W} e hi ho => by
    subst e
    rw [wideI_len]
    exact Rd.mono (Rd.bound (reads_ints (xs := wideI l) (by rw [wideI_len]; exact ho) hi (by rw [wideI_len]; decide))) (fun k hk => hk.2)
  have hRx := Rd.mod (Rd.mod (mk hx HI.out.1 H2.out.2.1) H3.out.2.2 (fun _ _ => id)) H4.out.2.2 (fun _ _ => id)
  have hRy := Rd.mod (mk hy HI.out.2.1 H3.out.2.1) H4.out.2.2 (fun _ _ => id)
  have hRt := mk ht HI.out.2.2 H4.out.2.1
  rw [hlx] at hRx; rw [hly] at hRy; rw [hlt] at hRt
  have HM := ((H1.out.2.2.2.trans H2.out.2.2 (fun _ h => h.elim)).trans H3.out.2.2 (fun _ h => h.elim)).trans H4.out.2.2 (fun _ h => h.elim)
  have HV := Lib.hid (And.intro HM (And.intro hRx (And.intro hRy hRt)))
  have HL := Lib.hid (And.intro hlx (And.intro hly hlt))
  have HS : w2.heap.size ≤ w4.heap.size ∧ w3.heap.size ≤ w4.heap.size := ⟨Nat.le_trans H3.out.2.2.size H4.out.2.2.size, H4.out.2.2.size⟩
  clear mk hRx hRy hRt HM hlx hly hlt hx hy ht H1 H2 H3 H4
  go_wp2_with fail
  refine (join_any (some ⟨g1, 0, none⟩) 7 7 (some ⟨g2, 0, none⟩) 7 7 x y (fun k => k < w4.heap.size) w4 (Rd.mono HV.out.2.1 fun k hk => Nat.lt_of_lt_of_le hk HS.1) (Rd.mono HV.out.2.2.1 fun k hk => Nat.lt_of_lt_of_le hk HS.2) (by have := HL.out; omega)).mono ?_
  rintro e w5 ⟨AJ, cJ, rfl, ho, hm⟩
  obtain ⟨j, hj⟩ : ∃ j, j = joinI x y := ⟨_, rfl⟩
  have hlj : j.length = 7 := by rw [hj, joinI_length, HL.out.1, HL.out.2.1]; rfl
  rw [← hj, hlj] at ho ⊢
  have hJi : ∀ e ∈ j, Rd.inR .i64 e := by rw [hj]; exact joinI_inR (intsR_inR HV.out.2.1) (intsR_inR HV.out.2.2.1)
  have hRj := reads_ints (xs := j) (by rw [hlj]; exact ho) hJi (by rw [hlj]; decide)
  have hrel : ∀ W, Mod (fun _ => False) w5 W → intsR.rel W (fun k => k < w5.heap.size) [.slice (some ⟨g1, 0, none⟩) 7 7] x ∧ intsR.rel W (fun k => k < w5.heap.size) [.slice (some ⟨g2, 0, none⟩) 7 7] y ∧ intsR.rel W (fun k => k < w5.heap.size) [.slice (some ⟨g3, 0, none⟩) 7 7] t ∧ intsR.rel W (fun k => k < w5.heap.size) [.slice AJ 7 cJ] j := fun W hW =>
    ⟨Rd.mod (Rd.mono (Rd.mod HV.out.2.1 hm (fun _ _ => id)) (fun k hk => Nat.lt_of_lt_of_le hk (Nat.le_trans HS.1 hm.size))) hW (fun _ _ => id), Rd.mod (Rd.mono (Rd.mod HV.out.2.2.1 hm (fun _ _ => id)) (fun k hk => Nat.lt_of_lt_of_le hk (Nat.le_trans HS.2 hm.size))) hW (fun _ _ => id),
     Rd.mod (Rd.mono (Rd.mod HV.out.2.2.2 hm (fun _ _ => id)) (fun k hk => Nat.lt_of_lt_of_le hk hm.size)) hW (fun _ _ => id), Rd.mod (Rd.mono (Rd.bound hRj) (fun k hk => hk.2)) hW (fun _ _ => id)⟩
  have HR := Lib.hid (And.intro hrel (And.intro hj (And.intro hlj (And.intro hJi (HV.out.1.trans hm (fun _ h => h.elim))))))
  have HI2 := Lib.hid (And.intro (intsR_inR HV.out.2.1) (And.intro (intsR_inR HV.out.2.2.1) (intsR_inR HV.out.2.2.2)))
  clear hrel hj hlj hJi hRj ho hm HV HI HS
  go_wp2_with fail
  refine (join_any (some ⟨g2, 0, none⟩) 7 7 (some ⟨g1, 0, none⟩) 7 7 y x _ w5 (HR.out.1 w5 (.refl _ _)).2.1 (HR.out.1 w5 (.refl _ _)).1 (by have := HL.out; omega)).mono ?_
  rintro e w6 ⟨A1, c1, rfl, ho, hm⟩
  rw [join_comm, ← HR.out.2.1, HR.out.2.2.1] at ho ⊢
  have H6 := Lib.hid (And.intro ho hm); clear ho hm
  go_wp2_with fail
  refine (numbers_same AJ 7 cJ A1 7 c1 j _ _ w6 (HR.out.1 w6 H6.out.2).2.2.2 (reads_ints (xs := j) (by rw [HR.out.2.2.1]; exact H6.out.1) HR.out.2.2.2.1 (by rw [HR.out.2.2.1]; decide))).mono ?_
  rintro e w7 ⟨rfl, hm⟩
  have H7 := Lib.hid (H6.out.2.trans hm (fun _ h => h.elim)); clear hm H6
  go_wp2_with fail
  refine (join_any AJ 7 cJ AJ 7 cJ j j _ w7 (HR.out.1 w7 H7.out).2.2.2 (HR.out.1 w7 H7.out).2.2.2 (by have := HR.out.2.2.1; omega)).mono ?_
  rintro e w8 ⟨A2', c2', rfl, ho, hm⟩
  rw [join_idem, HR.out.2.2.1] at ho ⊢
  have H8 := Lib.hid (And.intro ho (H7.out.trans hm (fun _ h => h.elim))); clear ho hm H7
  go_wp2_with fail
  refine (numbers_same A2' 7 c2' AJ 7 cJ j _ _ w8 (reads_ints (xs := j) (by rw [HR.out.2.2.1]; exact H8.out.1) HR.out.2.2.2.1 (by rw [HR.out.2.2.1]; decide)) (HR.out.1 w8 H8.out.2).2.2.2).mono ?_
  rintro e w9 ⟨rfl, hm⟩
  have H9 := Lib.hid (H8.out.2.trans hm (fun _ h => h.elim)); clear hm H8
  go_wp2_with fail
  refine (join_any AJ 7 cJ (some ⟨g3, 0, none⟩) 7 7 j t _ w9 (HR.out.1 w9 H9.out).2.2.2 (HR.out.1 w9 H9.out).2.2.1 (by have := HR.out.2.2.1; have := HL.out; omega)).mono ?_
  rintro e w10 ⟨A3', c3', rfl, ho, hm⟩
  obtain ⟨r, hr⟩ : ∃ r, r = joinI j t := ⟨_, rfl⟩
  have hlr : r.length = 7 := by rw [hr, joinI_length, HR.out.2.2.1, HL.out.2.2]; rfl
  have hri : ∀ e ∈ r, Rd.inR .i64 e := by rw [hr]; exact joinI_inR HR.out.2.2.2.1 HI2.out.2.2
  rw [← hr, hlr] at ho ⊢
  have H10 := Lib.hid (And.intro ho (And.intro (H9.out.trans hm (fun _ h => h.elim)) (And.intro hr (And.intro hlr hri)))); clear ho hm H9 hr hlr hri
  go_wp2_with fail
  refine (join_any (some ⟨g2, 0, none⟩) 7 7 (some ⟨g3, 0, none⟩) 7 7 y t _ w10 (HR.out.1 w10 H10.out.2.1).2.1 (HR.out.1 w10 H10.out.2.1).2.2.1 (by have := HL.out; omega)).mono ?_
  rintro e w11 ⟨A4, c4, rfl, ho, hm⟩
  obtain ⟨q, hq⟩ : ∃ q, q = joinI y t := ⟨_, rfl⟩
  have hlq : q.length = 7 := by rw [hq, joinI_length, HL.out.2.1, HL.out.2.2]; rfl
  have hqi : ∀ e ∈ q, Rd.inR .i64 e := by rw [hq]; exact joinI_inR HI2.out.2.1 HI2.out.2.2
  rw [← hq, hlq] at ho ⊢
  have hq2 : joinI x q = r := by rw [hq, H10.out.2.2.1, HR.out.2.1]; exact join_assoc HL.out.1 HL.out.2.1 HL.out.2.2
  have H11 := Lib.hid (And.intro (reads_ints (xs := q) (by rw [hlq]; exact ho) hqi (by rw [hlq]; decide)) (And.intro (H10.out.2.1.trans hm (fun _ h => h.elim)) (And.intro hq2 (And.intro hlq (Rd.mod (reads_ints (xs := r) (by rw [H10.out.2.2.2.1]; exact H10.out.1) H10.out.2.2.2.2 (by rw [H10.out.2.2.2.1]; decide)) hm (fun _ _ => id)))))); clear ho hm hq hlq hqi hq2
  go_wp2_with fail
  refine (join_any (some ⟨g1, 0, none⟩) 7 7 A4 7 c4 x q (fun _ => True) w11 (Rd.mono (HR.out.1 w11 H11.out.2.1).1 (fun _ _ => trivial)) (Rd.mono H11.out.1 (fun _ _ => trivial)) (by have := HL.out; have := H11.out.2.2.2.1; omega)).mono ?_
  rintro e w12 ⟨A5, c5, rfl, ho, hm⟩
  rw [H11.out.2.2.1, H10.out.2.2.2.1] at ho ⊢
  have H12 := Lib.hid (And.intro ho (And.intro (H11.out.2.1.trans hm (fun _ h => h.elim)) (Rd.mod H11.out.2.2.2.2 hm (fun _ _ => id)))); clear ho hm
  go_wp2_with fail
  refine (numbers_same A3' 7 c3' A5 7 c5 r _ _ w12 H12.out.2.2 (reads_ints (xs := r) (by rw [H10.out.2.2.2.1]; exact H12.out.1) H10.out.2.2.2.2 (by rw [H10.out.2.2.2.1]; decide))).mono ?_
  rintro e w13 ⟨rfl, hm⟩
  have H13 := Lib.hid (H12.out.2.1.trans hm (fun _ h => h.elim)); clear hm H12 H11 H10
  go_wp2_with fail
  go_loopg [68] 7 (fun f si wr => ∃ (i : Nat), si = .int .i64 i ∧ i + f = 7 ∧ Mod (fun _ => False) w5 wr)
  case atStart => exact ⟨0, rfl, by omega, H13.out⟩
  case round =>
    obtain ⟨i, rfl, hi, hmod⟩ := hrel
    by_cases hlt : i < 7
    · obtain ⟨rx, ry, -, rj⟩ := HR.out.1 wr hmod
      obtain ⟨vx, hvx⟩ : ∃ v, x[i]? = some v := ⟨_, List.getElem?_eq_getElem (by have := HL.out; omega)⟩
      obtain ⟨vy, hvy⟩ : ∃ v, y[i]? = some v := ⟨_, List.getElem?_eq_getElem (by have := HL.out; omega)⟩
      obtain ⟨vj, hvj⟩ : ∃ v, j[i]? = some v := ⟨_, List.getElem?_eq_getElem (by have := HR.out; omega)⟩
      have hmx : vj = max vx vy := by
        have h1 := joinI_get x y i (by have := HL.out; omega)
        rw [← HR.out.2.1, hvj, Option.some.injEq, getI_nat, getI_nat, List.getD_eq_getElem?_getD, List.getD_eq_getElem?_getD, hvx, hvy] at h1
        exact h1
      obtain ⟨ax, hax, hcx⟩ := ints_at rx hvx
      obtain ⟨ay, hay, hcy⟩ := ints_at ry hvy
      obtain ⟨aj, rfl, hcj⟩ := ints_at rj hvj
      obtain rfl : ax = ⟨g1, 0, none⟩ := by simpa using hax.symm
      obtain rfl : ay = ⟨g2, 0, none⟩ := by simpa using hay.symm
      rw [agg_at] at hcx hcy
      have hd1 : decide (vj < vx) = false := by simp; omega
      have hd2 : decide (vj < vy) = false := by simp; omega
      have hd3 : (vj = vx ∧ (vj == vx) = true) ∨ ((vj == vx) = false ∧ (vj == vy) = true) := by simp; omega
      have HX := Lib.hid (And.intro hi hmod)
      clear hi hmod rx ry rj hvx hvy hvj hmx hax hay
      rcases hd3 with ⟨rfl, -⟩ | ⟨hd3, hd4⟩
      · go_wp2_with fail
        go_quiet (fail)
        go_wp2_with fail
        go_roundg (gk - 1)
        case measure => have := HX.out.1; omega
        case rel => exact ⟨i + 1, by go_num, by have := HX.out.1; omega, HX.out.2.drewN _⟩
      · obtain rfl : vj = vy := by simpa using hd4
        have hne : ¬ vj = vx := by simpa using hd3
        have hbn : (vj != vx) = true := by simpa using hd3
        clear hd2 hd4
        go_wp2_with fail
        go_quiet (fail)
        go_wp2_with fail
        go_roundg (gk - 1)
        case measure => have := HX.out.1; omega
        case rel => exact ⟨i + 1, by go_num, by have := HX.out.1; omega, HX.out.2.drewN _⟩
    · have hie : i = 7 := by omega
      subst hie
      have HX := Lib.hid hmod; clear hmod hi
      go_wp2_with fail
      go_ret
      exact ⟨rfl, HR.out.2.2.2.2.trans HX.out (fun _ h => h.elim)⟩
theorem u16s_opens : Opens Try.prog u16sR 62 := opens_slice Try.underlying62 (by kernel_rfl) (by kernel_rfl) (opens_int Try.underlying49)
theorem quorumJoins_walk (A : Option Addr) (n c : Nat) (A2 : Option Addr) (n2 c2 : Nat) (A3 : Option Addr) (n3 c3 : Nat) (a b z : List Int) (W : World) (h : u16sR.rel W (fun k => k < W.heap.size) [.slice A n c] a) (h2 : u16sR.rel W (fun k => k < W.heap.size) [.slice A2 n2 c2] b) (h3 : u16sR.rel W (fun k => k < W.heap.size) [.slice A3 n3 c3] z) :
    Calls Try.prog 6 #[.slice A n c, .slice A2 n2 c2, .slice A3 n3 c3] W fun e W' => e = .returned (.bool true) ∧ Below W.heap.size W W' :=
  (quorumJoins_mod A n c A2 n2 c2 A3 n3 c3 a b z _ W h h2 h3).mono fun _ _ h => ⟨h.1, h.2.below (Nat.le_refl _) (fun _ h => h.elim)⟩
end Go.Proofs.Ytgdadhpcooegnaa
