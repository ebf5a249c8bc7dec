/- Layer 5, the laws: CatsHold. -/
import Derived.Test.YtgdadhpcooegnaaDoorCats18
import Derived.Test.YtgdadhpcooegnaaDoorQuiet
import Derived.Test.YtgdadhpcooegnaaDoorArr
namespace Go.Proofs.YtgdadhpcooegnaaDoor
open Go.RowKit Go.Shelf
set_option linter.unusedVariables false
theorem arr_strs {n : Nat} {hn : 0 < n} {w : World} {ok : Nat → Prop} {cs : List Value} {xs : List ByteArray} (h : (Rd.arr n hn Rd.string).rel w ok cs xs) : cs = xs.map Value.string ∧ xs.length = n ∧ ∀ x ∈ xs, x.size ≤ 140737488355328 := by
  obtain ⟨h1, h2, h3⟩ := h
  have hl : cs.length = n := by rw [h1]; exact Nat.mul_one n
  have key : ∀ (j : Nat) (x : ByteArray), xs[j]? = some x → cs[j]? = some (.string x) ∧ x.size ≤ 140737488355328 := by
    intro j x hx
    obtain ⟨h4, h5⟩ := h3 j x hx
    refine ⟨?_, h5⟩
    have h6 : ((cs.drop (j * 1)).take 1)[0]? = some (Value.string x) := by
      have : (cs.drop (j * 1)).take 1 = [Value.string x] := h4
      rw [this]; rfl
    rw [List.getElem?_take, if_pos (by decide), List.getElem?_drop, Nat.mul_one, Nat.add_zero] at h6
    exact h6
  refine ⟨List.ext_getElem? fun j => ?_, h2, fun x hx => ?_⟩
  · by_cases hj : j < n
    · obtain ⟨x, hx⟩ : ∃ x, xs[j]? = some x := ⟨_, List.getElem?_eq_getElem (by omega)⟩
      rw [List.getElem?_map, hx, (key j x hx).1]; rfl
    · rw [List.getElem?_eq_none (by omega), List.getElem?_eq_none (by rw [List.length_map]; omega)]
  · obtain ⟨j, hj⟩ := List.getElem?_of_mem hx
    exact (key j x hj).2
set_option maxRecDepth 100000 in
set_option maxHeartbeats 4000000 in
theorem catsHold_mod (A : Option Addr) (m cp : Nat) (path : List Int) (n : Int) (a b c : List UInt8) (w : World) (ok : Nat → Prop) (h : intsR.rel w ok [.slice A m cp] path) (hn : Rd.inR .i64 n)
    (ha : a.length ≤ 140737488355328) (hb : b.length ≤ 140737488355328) (hc : c.length ≤ 140737488355328) (E : Env w) :
    Calls Tryd.prog 5 #[.slice A m cp, .int .i64 n, .agg #[.string ⟨a.toArray⟩, .string ⟨b.toArray⟩, .string ⟨c.toArray⟩]] w fun r w' => r = .returned (.bool true) ∧ Mod (fun _ => False) w w' := by
  obtain ⟨rfl, hcap, -, hbig, -, -⟩ := ints_row h
  have H0 := Lib.hid (And.intro E (And.intro h hn)); clear E h hn
  go_enter Tryd.func5, Tryd.ntmps5
  go_wp2_with (refine wpList_box_new rfl 40 _ rfl [.string ⟨a.toArray⟩, .string ⟨b.toArray⟩, .string ⟨c.toArray⟩] rfl ?_)
  intro g w0 hg hbk hm0
  have H1 := Lib.hid (And.intro (hm0 (fun _ => False)) hbk); clear hm0 hbk hg
  go_wp2_with fail
  refine (first_any w0 (H0.out.1.mod0 H1.out.1)).mono ?_
  rintro r w1 ⟨rfl, hm⟩
  have hbk := (hm.block _ (lt_of_blk H1.out.2) id).trans H1.out.2
  have H2 := Lib.hid (And.intro (tr0 H1.out.1 hm) hbk)
  have k0 : w1.cell? ⟨g, 0, none⟩ = some (.string ⟨a.toArray⟩) := by rw [Lib.cell_of_heap hbk]; rfl
  have k1 : w1.cell? ⟨g, 1, none⟩ = some (.string ⟨b.toArray⟩) := by rw [Lib.cell_of_heap hbk]; rfl
  have k2 : w1.cell? ⟨g, 2, none⟩ = some (.string ⟨c.toArray⟩) := by rw [Lib.cell_of_heap hbk]; rfl
  clear hm hbk H1
  by_cases h1 : 100 < path.length
  · have e1 : decide ((100 : Int) < (path.length : Int)) = true := by simp; omega
    go_wp2_with fail
    go_ret
    exact ⟨rfl, H2.out.1⟩
  have e1 : decide ((100 : Int) < (path.length : Int)) = false := by simp; omega
  by_cases h2 : 300 < a.length + b.length
  · have e2 : decide ((300 : Int) < (a.length : Int) + (b.length : Int)) = true := by simp; omega
    go_wp2_with fail
    go_ret
    exact ⟨rfl, H2.out.1⟩
  have e2 : decide ((300 : Int) < (a.length : Int) + (b.length : Int)) = false := by simp; omega
  by_cases h3 : 300 < c.length
  · have e3 : decide ((300 : Int) < (c.length : Int)) = true := by simp; omega
    go_wp2_with fail
    go_ret
    exact ⟨rfl, H2.out.1⟩
  have e3 : decide ((300 : Int) < (c.length : Int)) = false := by simp; omega
  have hN := name_any A cp path.length path n _ w1 (Rd.mod (Rd.bound H0.out.2.1) H2.out.1 (fun _ _ => id)) H0.out.2.2 (H0.out.1.mod0 H2.out.1)
  go_wp2_with fail
  refine hN.mono ?_
  rintro r w2 ⟨rfl, hm⟩
  have hcv : ∀ x y, cmpB x y = -1 ∨ cmpB x y = 0 ∨ cmpB x y = 1 := cmpB_val
  obtain ⟨z1, hz1⟩ : ∃ z, z = cmpB a b := ⟨_, rfl⟩
  obtain ⟨z2, hz2⟩ : ∃ z, z = cmpB b c := ⟨_, rfl⟩
  obtain ⟨z3, hz3⟩ : ∃ z, z = cmpB a c := ⟨_, rfl⟩
  have h12 := fun W E => compare_any a b (by omega) (by omega) W E
  have h23 := fun W E => compare_any b c (by omega) (by omega) W E
  have h13 := fun W E => compare_any a c (by omega) (by omega) W E
  have h21 := fun W E => compare_any b a (by omega) (by omega) W E
  simp only [cmpB_neg a b] at h21
  simp only [← hz1, ← hz2, ← hz3] at h12 h23 h13 h21
  have HC := Lib.hid (And.intro h12 (And.intro h23 (And.intro h13 h21)))
  have v1 : (z1 = -1 ∧ (a == b) = false) ∨ (z1 = 0 ∧ (a == b) = true) ∨ (z1 = 1 ∧ (a == b) = false) := by
    rcases hcv a b with h | h | h
    · refine .inl ⟨by rw [hz1, h], ?_⟩
      simp only [beq_eq_false_iff_ne, ne_eq]; rintro rfl; rw [cmpB_self] at h; cases h
    · exact .inr (.inl ⟨by rw [hz1, h], by simp [cmpB_zero h]⟩)
    · refine .inr (.inr ⟨by rw [hz1, h], ?_⟩)
      simp only [beq_eq_false_iff_ne, ne_eq]; rintro rfl; rw [cmpB_self] at h; cases h
  have v2 := hcv b c
  have v3 := hcv a c
  rw [← hz2] at v2
  rw [← hz3] at v3
  have v4 : ¬ (z1 ≤ 0 ∧ z2 ≤ 0 ∧ z3 = 1) := by
    rintro ⟨x1, x2, x3⟩
    have := cmpB_trans (a := a) (b := b) (c := c) (by omega) (by omega)
    omega
  have HZ := Lib.hid (And.intro v1 (And.intro v2 (And.intro v3 v4)))
  clear hcv hz1 hz2 hz3 h12 h23 h13 h21 v1 v2 v3 v4 hN k0 k1 k2
  cases hf : fitsB path n with
  | false =>
    have hbk : w2.heap[g]? = some (.cells #[.string ⟨a.toArray⟩, .string ⟨b.toArray⟩, .string ⟨c.toArray⟩] 40 (0, 0)) := ((hm).block _ (lt_of_blk H2.out.2) id).trans H2.out.2
    have hblk : ∀ W : ModW w2, W.1.heap[g]? = some (.cells #[.string ⟨a.toArray⟩, .string ⟨b.toArray⟩, .string ⟨c.toArray⟩] 40 (0, 0)) := fun W => (W.2.block _ (lt_of_blk hbk) id).trans hbk
    have k0 : ∀ W : ModW w2, W.1.cell? ⟨g, 0, none⟩ = some (.string ⟨a.toArray⟩) := fun W => by rw [Lib.cell_of_heap (hblk W)]; rfl
    have k1 : ∀ W : ModW w2, W.1.cell? ⟨g, 1, none⟩ = some (.string ⟨b.toArray⟩) := fun W => by rw [Lib.cell_of_heap (hblk W)]; rfl
    have k2 : ∀ W : ModW w2, W.1.cell? ⟨g, 2, none⟩ = some (.string ⟨c.toArray⟩) := fun W => by rw [Lib.cell_of_heap (hblk W)]; rfl
    have hmw := tr0 H2.out.1 (hm)
    have hE := H0.out.1.mod0 hmw
    have HW := Lib.hid (And.intro hmw (And.intro hE hblk))
    clear hbk hblk hmw hE hm
    go_wp2_with fail
    refine wp_region_mod (by kernel_rfl) (by kernel_rfl) ?_
    repeat (quiet_step (first
      | (go_at_call_of 14 ((#[.string ⟨a.toArray⟩, .string ⟨b.toArray⟩] : Array Value)); refine quiet_mod (HC.out.1 _ (HW.out.2.1.mod0 (Subtype.property _))))
      | (go_at_call_of 14 ((#[.string ⟨b.toArray⟩, .string ⟨c.toArray⟩] : Array Value)); refine quiet_mod (HC.out.2.1 _ (HW.out.2.1.mod0 (Subtype.property _))))
      | (go_at_call_of 14 ((#[.string ⟨a.toArray⟩, .string ⟨c.toArray⟩] : Array Value)); refine quiet_mod (HC.out.2.2.1 _ (HW.out.2.1.mod0 (Subtype.property _))))))
    refine wpQuiet_nil ?_
    rintro _ ⟨W, rfl⟩
    have j0 := k0 W
    have j1 := k1 W
    clear k0 k1 k2
    have HE := Lib.hid (And.intro (tr0 HW.out.1 W.2) (HW.out.2.1.mod0 W.2))
    rcases HZ.out.1 with ⟨rfl, e4⟩ | ⟨rfl, e4⟩ | ⟨rfl, e4⟩ <;> rcases HZ.out.2.1 with rfl | rfl | rfl <;>
      (try have e5 : decide (z3 ≤ 0) = true := by have := HZ.out.2.2.1; have := HZ.out.2.2.2; simp; omega
       go_wp2_with fail
       refine (HC.out.2.2.2 _ HE.out.2).mono ?_
       rintro r w5 ⟨rfl, hm5⟩
       have i0 := (hm5.cell (cell_lt j0) id).trans j0
       have i1 := (hm5.cell (cell_lt j1) id).trans j1
       have HG := Lib.hid (tr0 HE.out.1 hm5)
       clear hm5 j0 j1
       go_wp2_with fail
       go_ret
       exact ⟨rfl, HG.out⟩)
  | true =>
    have hlen : (catT path n).length ≤ 1000000 := by
      obtain ⟨f1, f2, f3, f4⟩ := (fitsB_iff path n).1 hf
      have := pathT_len path f4
      have := Lib.itoa_length_le n (by omega) (by omega)
      unfold catT
      rw [List.length_append, List.length_cons]
      omega
    have hpc := parse_u (catT path n) (by omega) w2 (H0.out.1.mod0 (tr0 H2.out.1 hm))
    have hps := parse_catT hf
    have hp1 : partsB (catT path n) = (path, n) := by unfold partsB; rw [hps]; rfl
    have hp2 : rightB (catT path n) = true := by unfold rightB; rw [hps]; rfl
    rw [hp1, hp2] at hpc
    have hpr := Rd.mod (Rd.bound H0.out.2.1) (tr0 H2.out.1 hm) (fun _ _ => id)
    have H3 := Lib.hid (And.intro hm hpr)
    have e6 : (n != n) = false := by simp
    have e7 : ((path.length : Int) != (path.length : Int)) = false := by simp
    clear hm hpr hps hp1 hp2 hf hlen
    dsimp only [if_pos]
    go_wp2_with fail
    refine hpc.mono ?_
    rintro r w3 ⟨A3, c3, rfl, hr3, hm3⟩
    have H4 := Lib.hid (And.intro (tr0 H3.out.1 hm3) (And.intro (Rd.mod (Rd.bound H3.out.2) hm3 (fun _ _ => id)) hr3))
    clear hm3 hr3 hpc
    go_wp2_with fail
    go_loopg [66] path.length (fun f si wr => ∃ i : Nat, si = .int .i64 i ∧ i + f = path.length ∧ Mod (fun _ => False) w3 wr)
    case atStart => exact ⟨0, rfl, by omega, .refl _ _⟩
    case round =>
      obtain ⟨i, rfl, hi, hmod⟩ := hrel
      by_cases hlt : i < path.length
      · obtain ⟨x, hx⟩ : ∃ x, path[i]? = some x := ⟨path[i], by simp [hlt]⟩
        obtain ⟨ad, rfl, -, hcx, -⟩ := RowOf.ints (ints_row (Rd.mod (Rd.bound H4.out.2.1) hmod (fun _ _ => id))).2.2.2.2.2 hx
        obtain ⟨ad2, rfl, -, hcy, -⟩ := RowOf.ints (ints_row (Rd.mod (Rd.bound H4.out.2.2) hmod (fun _ _ => id))).2.2.2.2.2 hx
        have e8 : (x != x) = false := by simp
        have HX := Lib.hid (And.intro hi hmod); clear hi hmod hx
        go_wp2_with fail
        go_quiet (fail)
        go_wp2_with fail
        go_roundg (gk - 1)
        case measure => have := HX.out.1; omega
        case rel => exact ⟨i + 1, by go_num, by have := HX.out.1; omega, HX.out.2.drewN _⟩
      · have HX := Lib.hid (tr0 H4.out.1 hmod); clear hi hmod
        have hbk : wr.heap[g]? = some (.cells #[.string ⟨a.toArray⟩, .string ⟨b.toArray⟩, .string ⟨c.toArray⟩] 40 (0, 0)) := (HX.out.block _ (lt_of_blk H2.out.2) id).trans H2.out.2
        have hblk : ∀ W : ModW wr, W.1.heap[g]? = some (.cells #[.string ⟨a.toArray⟩, .string ⟨b.toArray⟩, .string ⟨c.toArray⟩] 40 (0, 0)) := fun W => (W.2.block _ (lt_of_blk hbk) id).trans hbk
        have k0 : ∀ W : ModW wr, W.1.cell? ⟨g, 0, none⟩ = some (.string ⟨a.toArray⟩) := fun W => by rw [Lib.cell_of_heap (hblk W)]; rfl
        have k1 : ∀ W : ModW wr, W.1.cell? ⟨g, 1, none⟩ = some (.string ⟨b.toArray⟩) := fun W => by rw [Lib.cell_of_heap (hblk W)]; rfl
        have k2 : ∀ W : ModW wr, W.1.cell? ⟨g, 2, none⟩ = some (.string ⟨c.toArray⟩) := fun W => by rw [Lib.cell_of_heap (hblk W)]; rfl
        have hmw := tr0 H2.out.1 HX.out
        have hE := H0.out.1.mod0 hmw
        have HW := Lib.hid (And.intro hmw (And.intro hE hblk))
        clear hbk hblk hmw hE
        go_wp2_with fail
        refine wp_region_mod (by kernel_rfl) (by kernel_rfl) ?_
        repeat (quiet_step (first
          | (go_at_call_of 14 ((#[.string ⟨a.toArray⟩, .string ⟨b.toArray⟩] : Array Value)); refine quiet_mod (HC.out.1 _ (HW.out.2.1.mod0 (Subtype.property _))))
          | (go_at_call_of 14 ((#[.string ⟨b.toArray⟩, .string ⟨c.toArray⟩] : Array Value)); refine quiet_mod (HC.out.2.1 _ (HW.out.2.1.mod0 (Subtype.property _))))
          | (go_at_call_of 14 ((#[.string ⟨a.toArray⟩, .string ⟨c.toArray⟩] : Array Value)); refine quiet_mod (HC.out.2.2.1 _ (HW.out.2.1.mod0 (Subtype.property _))))))
        refine wpQuiet_nil ?_
        rintro _ ⟨W, rfl⟩
        have j0 := k0 W
        have j1 := k1 W
        clear k0 k1 k2
        have HE := Lib.hid (And.intro (tr0 HW.out.1 W.2) (HW.out.2.1.mod0 W.2))
        rcases HZ.out.1 with ⟨rfl, e4⟩ | ⟨rfl, e4⟩ | ⟨rfl, e4⟩ <;> rcases HZ.out.2.1 with rfl | rfl | rfl <;>
          (try have e5 : decide (z3 ≤ 0) = true := by have := HZ.out.2.2.1; have := HZ.out.2.2.2; simp; omega
           go_wp2_with fail
           refine (HC.out.2.2.2 _ HE.out.2).mono ?_
           rintro r w5 ⟨rfl, hm5⟩
           have i0 := (hm5.cell (cell_lt j0) id).trans j0
           have i1 := (hm5.cell (cell_lt j1) id).trans j1
           have HG := Lib.hid (tr0 HE.out.1 hm5)
           clear hm5 j0 j1
           go_wp2_with fail
           go_ret
           exact ⟨rfl, HG.out⟩)
end Go.Proofs.YtgdadhpcooegnaaDoor
