/- Layer 5, the laws: CatsNames. -/
import Derived.Test.YtgdadhpcooegnaaDoorCats17
namespace Go.Proofs.YtgdadhpcooegnaaDoor
open Go.RowKit Go.Shelf
set_option linter.unusedVariables false
def partsB (l : List UInt8) : List Int × Int := (parseB l).getD ([], 0)
theorem ints_nil (w : World) (ok : Nat → Prop) : intsR.rel w ok [.slice none 0 0] [] := ⟨none, 0, rfl, Nat.le_refl _, by decide, by decide, fun _ => rfl, .inl rfl⟩
theorem partsB_len (l : List UInt8) : (partsB l).1.length ≤ 6 := by
  unfold partsB
  cases hp : parseB l with
  | none => simp
  | some x => obtain ⟨p, n⟩ := x; exact (parseB_range hp).2.1
theorem parse_u (l : List UInt8) (hl : l.length ≤ 140737488355328) (w : World) (E : Env w) :
    Calls Tryd.prog 8 #[encS l] w fun r w' => ∃ A c, r = .returned (.tuple #[.slice A (partsB l).1.length c, .int .i64 (partsB l).2, .bool (rightB l)]) ∧ intsR.rel w' (fun k => w.heap.size ≤ k) [.slice A (partsB l).1.length c] (partsB l).1 ∧ Mod (fun _ => False) w w' := by
  refine (parse_rd l hl w E).mono ?_
  rintro r w' ⟨hm, ⟨hp, rfl⟩ | ⟨p, n, A, c, hp, rfl, hr⟩⟩
  · unfold partsB rightB; rw [hp]; exact ⟨none, 0, rfl, ints_nil _ _, hm⟩
  · unfold partsB rightB; rw [hp]; exact ⟨A, c, rfl, hr, hm⟩
theorem get_u (l : List UInt8) (hl : l.length ≤ 1000000) (w : World) :
    Calls Tryd.prog 9 #[encS l] w fun r w' => ∃ A c, r = .returned (.tuple #[.agg #[.slice A (partsB l).1.length c, .int .i64 (partsB l).2], .bool (rightB l)]) ∧ intsR.rel w' (fun k => w.heap.size ≤ k) [.slice A (partsB l).1.length c] (partsB l).1 ∧ Mod (fun _ => False) w w' := by
  refine (get_any l hl w).mono ?_
  rw [getB_eq]
  rintro r w' ⟨hm, ⟨hp, rfl⟩ | ⟨p, n, A, c, hp, rfl, hr⟩⟩
  · unfold partsB rightB; rw [hp]; exact ⟨none, 0, rfl, ints_nil _ _, hm⟩
  · unfold partsB rightB; rw [hp]; exact ⟨A, c, rfl, hr, hm⟩
set_option maxRecDepth 100000 in
set_option maxHeartbeats 4000000 in
theorem catsNames_mod (l : List UInt8) (A : Option Addr) (m c : Nat) (path : List Int) (n : Int) (w : World) (ok : Nat → Prop) (h : intsR.rel w ok [.slice A m c] path) (hn : Rd.inR .i64 n) (hl : l.length < 4611686018427387904) (E : Env w) :
    Calls Tryd.prog 3 #[encS l, .slice A m c, .int .i64 n] w fun r w' => r = .returned (.bool true) ∧ Mod (fun _ => False) w w' := by
  obtain ⟨rfl, hcap, -, hbig, -, -⟩ := ints_row h
  have H0 := Lib.hid (And.intro E (And.intro h hn)); clear E h hn
  unfold encS
  go_enter Tryd.func3, Tryd.ntmps3
  go_wp2_with fail
  refine (first_any w H0.out.1).mono ?_
  rintro r w1 ⟨rfl, hm⟩
  have H1 := Lib.hid hm; clear hm
  by_cases h1 : 300 < l.length
  · have e1 : decide ((300 : Int) < (l.length : Int)) = true := by simp; omega
    go_wp2_with fail
    go_ret
    exact ⟨rfl, H1.out⟩
  have e1 : decide ((300 : Int) < (l.length : Int)) = false := by simp; omega
  by_cases h2 : 100 < path.length
  · have e2 : decide ((100 : Int) < (path.length : Int)) = true := by simp; omega
    go_wp2_with fail
    go_ret
    exact ⟨rfl, H1.out⟩
  have e2 : decide ((100 : Int) < (path.length : Int)) = false := by simp; omega
  go_wp2_with fail
  refine (parse_u l (by omega) w1 (H0.out.1.mod0 H1.out)).mono ?_
  rintro r w2 ⟨A2, c2, rfl, hp2, hm2⟩
  have H2 := Lib.hid (And.intro (tr0 H1.out hm2) hp2); clear hm2 hp2 H1
  have hgu := get_u l (by omega) w2
  have hru := fun W E => right_any l (by omega) W E
  obtain ⟨q, hq⟩ : ∃ q, q = (partsB l).1 := ⟨_, rfl⟩
  obtain ⟨k, hk⟩ : ∃ k, k = (partsB l).2 := ⟨_, rfl⟩
  obtain ⟨b, hb⟩ : ∃ b, b = rightB l := ⟨_, rfl⟩
  have hql : q.length ≤ 6 := by rw [hq]; exact partsB_len l
  rw [← hq, ← hk, ← hb] at hgu ⊢
  simp only [← hb] at hru
  rw [← hq] at H2
  have HR := Lib.hid hru
  clear hq hk hb hru
  go_wp2_with fail
  refine hgu.mono ?_
  rintro r w3 ⟨A3, c3, rfl, hp3, hm3⟩
  obtain ⟨W4, hW4⟩ : ∃ W4, W4 = w3.alloc (.cells #[.slice A3 q.length c3, .int .i64 k] 27) := ⟨_, rfl⟩
  have hb4 : W4.heap[w3.heap.size]? = some (.cells #[.slice A3 q.length c3, .int .i64 k] 27 (0, 0)) := by rw [hW4]; exact World.alloc_heap_new w3 _
  have hm4 : Mod (fun _ => False) w3 W4 := by rw [hW4]; exact (Mod.refl _ _).alloc _
  have H3 := Lib.hid (And.intro (tr0 (tr0 H2.out.1 hm3) hm4) (And.intro (Rd.mod (Rd.bound H2.out.2) (tr0 hm3 hm4) (fun _ _ => id)) (And.intro (Rd.mod (Rd.bound hp3) hm4 (fun _ _ => id)) hb4)))
  clear hp3 hm3 hm4 hb4 H2 hgu
  go_wp2_with fail
  rw [← hW4]
  clear hW4
  refine (HR.out W4 (H0.out.1.mod0 H3.out.1)).mono ?_
  rintro r w5 ⟨rfl, hm5⟩
  have hb5 := (hm5.block _ (lt_of_blk H3.out.2.2.2) id).trans H3.out.2.2.2
  have k0 : w5.cell? ⟨w3.heap.size, 0, none⟩ = some (.slice A3 q.length c3) := by rw [Lib.cell_of_heap hb5]; rfl
  have k1 : w5.cell? ⟨w3.heap.size, 1, none⟩ = some (.int .i64 k) := by rw [Lib.cell_of_heap hb5]; rfl
  have H5 := Lib.hid (And.intro (tr0 H3.out.1 hm5) (And.intro (Rd.mod (Rd.bound H3.out.2.1) hm5 (fun _ _ => id)) (And.intro (Rd.mod (Rd.bound H3.out.2.2.1) hm5 (fun _ _ => id)) hb5)))
  clear hm5 hb5 H3
  have e3 : (b != b) = false := by simp
  have e4 : (k != k) = false := by simp
  have e5 : ((q.length : Int) != (q.length : Int)) = false := by simp
  go_wp2_with fail
  clear k0 k1
  go_loopg [62] q.length (fun f si wr => ∃ i : Nat, si = .int .i64 i ∧ i + f = q.length ∧ wr.heap[w3.heap.size]? = some (.cells #[.slice A3 q.length c3, .int .i64 k] 27 (0, 0)) ∧ Mod (fun _ => False) w5 wr)
  case atStart => exact ⟨0, rfl, by omega, H5.out.2.2.2, .refl _ _⟩
  case round =>
    obtain ⟨i, rfl, hi, hbk, hmod⟩ := hrel
    have k0 : wr.cell? ⟨w3.heap.size, 0, none⟩ = some (.slice A3 q.length c3) := by rw [Lib.cell_of_heap hbk]; rfl
    by_cases hlt : i < q.length
    · obtain ⟨x, hx⟩ : ∃ x, q[i]? = some x := ⟨q[i], by simp [hlt]⟩
      obtain ⟨ad, rfl, -, hcx, -⟩ := RowOf.ints (ints_row (Rd.mod (Rd.bound H5.out.2.1) hmod (fun _ _ => id))).2.2.2.2.2 hx
      obtain ⟨ad2, rfl, -, hcy, -⟩ := RowOf.ints (ints_row (Rd.mod (Rd.bound H5.out.2.2.1) hmod (fun _ _ => id))).2.2.2.2.2 hx
      have e6 : (x != x) = false := by simp
      have HX := Lib.hid (And.intro hi (And.intro hbk hmod)); clear hi hbk hmod hx
      go_wp2_with fail
      go_quiet (fail)
      go_wp2_with fail
      go_roundg (gk - 1)
      case measure => have := HX.out.1; omega
      case rel => exact ⟨i + 1, by go_num, by have := HX.out.1; omega, HX.out.2.1, HX.out.2.2.drewN _⟩
    · have hm6 := tr0 H5.out.1 hmod
      have hN := name_any A c path.length path n _ wr (Rd.mod (Rd.bound H0.out.2.1) hm6 (fun _ _ => id)) H0.out.2.2 (H0.out.1.mod0 hm6)
      have H6 := Lib.hid hm6; clear hi hbk hmod hm6 k0
      obtain ⟨t, ht⟩ : ∃ t, t = (if fitsB path n then catT path n else []) := ⟨_, rfl⟩
      rw [← ht] at hN
      have HT := Lib.hid ht; clear ht
      go_wp2_with fail
      refine hN.mono ?_
      rintro r w6 ⟨rfl, hm7⟩
      have hp6 := Rd.mod (Rd.bound H0.out.2.1) (tr0 H6.out hm7) (fun _ _ => id)
      obtain ⟨W7, hW7⟩ : ∃ W7, W7 = w6.alloc (.cells #[.slice A path.length c, .int .i64 n] 27) := ⟨_, rfl⟩
      have hb7 : W7.heap[w6.heap.size]? = some (.cells #[.slice A path.length c, .int .i64 n] 27 (0, 0)) := by rw [hW7]; exact World.alloc_heap_new w6 _
      have hm8 : Mod (fun _ => False) w6 W7 := by rw [hW7]; exact (Mod.refl _ _).alloc _
      have H7 := Lib.hid (And.intro (tr0 (tr0 H6.out hm7) hm8) (And.intro (Rd.mod (Rd.bound hp6) hm8 (fun _ _ => id)) hb7))
      clear hm7 hp6 hm8 hb7 H6 hN
      unfold encS
      go_wp2_with fail
      rw [← hW7]
      clear hW7
      refine (fits_any A c path.length path n _ W7 H7.out.2.1).mono ?_
      rintro r w8 ⟨rfl, hm8⟩
      have hb8 := (hm8.block _ (lt_of_blk H7.out.2.2) id).trans H7.out.2.2
      have hp8 := Rd.mod (Rd.bound H7.out.2.1) hm8 (fun _ _ => id)
      have H8 := Lib.hid (And.intro (tr0 H7.out.1 hm8) hp8)
      have k0 : w8.cell? ⟨w6.heap.size, 0, none⟩ = some (.slice A path.length c) := by rw [Lib.cell_of_heap hb8]; rfl
      have k1 : w8.cell? ⟨w6.heap.size, 1, none⟩ = some (.int .i64 n) := by rw [Lib.cell_of_heap hb8]; rfl
      clear hm8 hb8 hp8 H7
      cases hf : fitsB path n with
      | false =>
        have ht0 : t = [] := by rw [HT.out, hf]; rfl
        subst ht0
        go_wp2_with fail
        go_ret
        exact ⟨rfl, H8.out.1⟩
      | true =>
        have hte : t = catT path n := by rw [HT.out, hf]; rfl
        have htx := fun W ok h => text_any A c path.length path n ok W h hf
        simp only [← hte] at htx
        clear hte hf
        have HX := Lib.hid htx; clear htx
        go_wp2_with fail
        refine (HX.out _ _ H8.out.2).mono ?_
        rintro r w9 ⟨rfl, hm9⟩
        have e7 : (t == t) = true := by simp
        unfold encS
        have H9 := Lib.hid (tr0 H8.out.1 hm9); clear hm9 H8
        go_wp2_with fail
        go_ret
        exact ⟨rfl, H9.out⟩
end Go.Proofs.YtgdadhpcooegnaaDoor
