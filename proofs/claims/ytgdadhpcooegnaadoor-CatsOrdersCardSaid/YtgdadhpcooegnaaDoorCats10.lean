/- Layer 5, the document's answer: Get. -/
import Derived.Test.YtgdadhpcooegnaaDoorCats9
import Derived.Test.YtgdadhpcooegnaaDoorCats6
namespace Go.Proofs.YtgdadhpcooegnaaDoor
open Go.RowKit Go.Shelf
set_option linter.unusedVariables false
/-- What is read off a text. -/
def scanB : List Int → Int → Nat → List UInt8 → Option (List Int × Int)
  | p, n, d, [] => some (p, n)
  | p, n, d, b :: l =>
    if 48 ≤ b.toNat ∧ b.toNat ≤ 57 then (if 8 < d + 1 then none else scanB p (10 * n + (b.toNat - 48 : Nat)) (d + 1) l)
    else if b = 46 ∨ b = 47 then (if 0 < d then scanB (p ++ [n]) 0 0 l else scanB p 0 0 l)
    else scanB p n d l
def getB (l : List UInt8) : Option (List Int × Int) := match scanB [] 0 0 l with
  | none => none
  | some (p, n) => if fitsB p n = true ∧ catT p n = l then some (p, n) else none
theorem get_leave {W : World} {h : Nat} {x y z : Value} (hb : W.heap[h]? = some (.cells #[x, y] 27 (0, 0))) (tmps : Array Value) (h2 : tmps.getD 2 undef = .pointer (some ⟨h, 0, none⟩)) (h3 : tmps.getD 3 undef = z)
    (R : Ending → World → Prop) (hR : R (.returned (.tuple #[.agg #[x, y], z])) W) : bodyPost Tryd.prog Tryd.f9 R .ret { tmps := tmps, defers := [] } W := by
  refine bodyPost_ret (v := .tuple #[.agg #[x, y], z]) ?_ rfl hR
  rw [results_cell_tmp (p := 2) (u := 3) (ty := 27) rfl, h2]
  have hl := run_loadVar_row (P := Tryd.prog) W h 27 27 #[x, y] (0, 0) _ hb Tryd.underlying27 rfl (by kernel_rfl)
  simp only [asAddr, Sem.run_pure, Result.andThen, hl, h3]
set_option maxRecDepth 100000 in
set_option maxHeartbeats 1000000 in
theorem get_any (l : List UInt8) (hl : l.length ≤ 1000000) (w : World) :
    Calls Tryd.prog 9 #[encS l] w fun r w' => Mod (fun _ => False) w w' ∧ ((getB l = none ∧ r = .returned (.tuple #[.agg #[.slice none 0 0, .int .i64 0], .bool false])) ∨
      ∃ p n A c, getB l = some (p, n) ∧ r = .returned (.tuple #[.agg #[.slice A p.length c, .int .i64 n], .bool true]) ∧ intsR.rel w' (fun k => w.heap.size ≤ k) [.slice A p.length c] p) := by
  unfold encS
  go_enter Tryd.func9, Tryd.ntmps9
  go_wp2_with fail
  go_loopg [5, 6, 7] l.length (fun f sn sd si wr => ∃ (i d : Nat) (n : Int) (p : List Int) (v : Value), si = .int .i64 i ∧ sd = .int .i64 d ∧ sn = .int .i64 n ∧ i + f = l.length ∧ scanB [] 0 0 l = scanB p n d (l.drop i) ∧ d ≤ 8 ∧ 0 ≤ n ∧ n < 10 ^ d ∧ p.length ≤ i ∧ (∀ k ∈ p, 0 ≤ k ∧ k < 100000000) ∧
    wr.heap[w.heap.size]? = some (.cells #[.slice none 0 0, .int .i64 0] 27 (0, 0)) ∧ wr.heap[w.heap.size + 1]? = some (.cells #[v, .int .i64 0] 27 (0, 0)) ∧ wr.ownsRow (w.heap.size + 2) 3 1 v p.length (icells p) ∧ Mod (fun _ => False) w wr)
  case atStart =>
    refine ⟨0, 0, 0, [], .slice none 0 0, rfl, rfl, rfl, by omega, by simp, by omega, by omega, by decide, by simp, by simp, ?_, ?_, World.ownsRow_nil _ _ _ _, ((Mod.refl _ w).alloc _).alloc _⟩
    · exact (Below.heap_alloc _ _ _ (by simp)).trans (World.alloc_heap_new w _)
    · have := World.alloc_heap_new (w.alloc (.cells #[.slice none 0 0, .int .i64 0] 27)) (.cells #[.slice none 0 0, .int .i64 0] 27)
      rw [World.size_alloc] at this
      exact this
  case round =>
    obtain ⟨i, d, n, p, v, rfl, rfl, rfl, hi, hsc, hd8, hn0, hnd, hpi, hpr, hb0, hb1, hrow, hmod⟩ := hrel
    have c0 := fun j => Lib.cell_of_heap hb1 j
    by_cases hlt : i < l.length
    · have hx : l[i]? = some l[i] := by simp [hlt]
      obtain ⟨b, hbe⟩ : ∃ b, b = l[i] := ⟨_, rfl⟩
      rw [List.drop_eq_getElem_cons hlt, ← hbe] at hsc
      rw [← hbe] at hx
      have hxb : ∀ h, (⟨l.toArray⟩ : ByteArray)[i]'h = b := fun h => by rw [hbe]; rfl
      have k0 : wr.cell? ⟨w.heap.size, 0, none⟩ = some (.slice none 0 0) := by rw [Lib.cell_of_heap hb0]; rfl
      have k1 : wr.cell? ⟨w.heap.size, 1, none⟩ = some (.int .i64 0) := by rw [Lib.cell_of_heap hb0]; rfl
      have k2 : wr.frozen? ⟨w.heap.size, 0, none⟩ = false := Lib.frozen_of_heap hb0 0
      have k3 : wr.frozen? ⟨w.heap.size, 1, none⟩ = false := Lib.frozen_of_heap hb0 1
      have k4 : wr.cell? ⟨w.heap.size + 1, 0, none⟩ = some v := by rw [Lib.cell_of_heap hb1]; rfl
      have k5 : wr.frozen? ⟨w.heap.size + 1, 0, none⟩ = false := Lib.frozen_of_heap hb1 0
      have HX := Lib.hid (And.intro hi (And.intro hsc (And.intro hd8 (And.intro hn0 (And.intro hnd (And.intro hpi (And.intro hpr (And.intro hb0 (And.intro hb1 (And.intro hrow hmod))))))))))
      clear hi hsc hd8 hn0 hnd hpi hpr hb0 hb1 hrow hmod c0 hbe
      by_cases hdg : 48 ≤ b.toNat ∧ b.toNat ≤ 57
      · obtain ⟨g1, g2⟩ := hdg
        by_cases hd : d = 8
        · have hdd : wrap64 ((d : Int) + 1) = 9 := by unfold wrap64; omega
          have hsn : scanB [] 0 0 l = none := by rw [HX.out.2.1, scanB, if_pos ⟨g1, g2⟩, if_pos (by omega)]
          have HS := Lib.hid hsn; clear hsn hd
          go_wp2_with fail
          have hB2 := setCell_row (setCell_row (row := [.slice none 0 0, .int .i64 0]) HX.out.2.2.2.2.2.2.2.1 0 (.slice none 0 0)) 1 (.int .i64 0)
          refine get_leave hB2 _ rfl rfl _ ⟨?_, .inl ⟨by unfold getB; rw [HS.out], rfl⟩⟩
          exact (HX.out.2.2.2.2.2.2.2.2.2.2.setCell (.inr (by simp)) _).setCell (.inr (by simp)) _
        · have hd7 : d ≤ 7 := by have := HX.out.2.2.1; omega
          have hn7 : n < 10000000 := Int.lt_of_lt_of_le HX.out.2.2.2.2.1 (by
            have h1 : 10 ^ d ≤ 10 ^ 7 := Nat.pow_le_pow_right (by decide) hd7
            have h2 : ((10 ^ d : Nat) : Int) ≤ ((10 ^ 7 : Nat) : Int) := Int.ofNat_le.2 h1
            simpa using h2)
          have hn0 := HX.out.2.2.2.1
          go_wp2_with fail
          go_roundg (gk - 1)
          case measure => have := HX.out.1; omega
          case rel =>
            obtain ⟨hi, hsc, hd8, -, hnd, hpi, hpr, hb0, hb1, hrow, hmod⟩ := HX.out
            refine ⟨i + 1, d + 1, 10 * n + (b.toNat - 48 : Nat), p, v, by go_num, by go_num, by go_num, by omega, ?_, by omega, by omega, ?_, by omega, hpr, hb0, hb1, hrow, hmod⟩
            · rw [hsc, scanB, if_pos ⟨g1, g2⟩, if_neg (by omega)]
            · rw [Int.pow_succ]; omega
      · have hsep : ∀ (hs : b.toNat = 46 ∨ b.toNat = 47), b = 46 ∨ b = 47 := fun hs => hs.imp (fun h => UInt8.toNat_inj.1 h) (fun h => UInt8.toNat_inj.1 h)
        have hnd2 : b.toNat < 48 ∨ 57 < b.toNat := by omega
        by_cases hs : b.toNat = 46 ∨ b.toNat = 47
        · have hb := hsep hs
          have hbs : b.toNat < 48 := by omega
          have h47 : ((b.toNat : Int) == 46) = true ∨ (((b.toNat : Int) == 46) = false ∧ ((b.toNat : Int) == 47) = true) := by
            rcases hs with h | h
            · left; simp [h]
            · right; simp [h]
          by_cases hd0 : 0 < d
          · have hsn : scanB [] 0 0 l = scanB (p ++ [n]) 0 0 (l.drop (i + 1)) := by rw [HX.out.2.1, scanB, if_neg hdg, if_pos hb, if_pos hd0]
            have HS := Lib.hid hsn; clear hsn hb hsep hdg hnd2 hs
            have hsz2 : w.heap.size + 2 ≤ wr.heap.size := cell_lt k4
            rcases h47 with h46 | ⟨h46, h47⟩
            · go_wp2_with (at_builtin; refine append_one (w.heap.size + 2) rfl _ _ 22 3 (.int .i64 0) 8 rfl Tryd.underlying22 Tryd.infoI rfl (by decide) v (icells p) _ rfl rfl rfl (by rw [icells_length]; exact HX.out.2.2.2.2.2.2.2.2.2.1) hsz2 ?c1 ?_)
              case c1 => have := HX.out.2.2.2.2.2.1; simp only [icells_length]; omega
              intro A' c' w1 hown hg hn
              have hown2 := hown
              rw [icells_length] at hown2
              have hmg := (Mod.refl (fun _ => False) wr)
              have hblk : w1.heap[w.heap.size + 1]? = some (.cells #[v, .int .i64 0] 27 (0, 0)) := (hg.block _ (cell_lt k4) (fun e => by have h := (own_cells HX.out.2.2.2.2.2.2.2.2.2.1 e.symm).1; omega)).trans HX.out.2.2.2.2.2.2.2.2.1
              have hblk0 : w1.heap[w.heap.size]? = some (.cells #[.slice none 0 0, .int .i64 0] 27 (0, 0)) := (hg.block _ (cell_lt k0) (fun e => by have h := (own_cells HX.out.2.2.2.2.2.2.2.2.2.1 e.symm).1; omega)).trans HX.out.2.2.2.2.2.2.2.1
              have m0 : w1.cell? ⟨w.heap.size + 1, 0, none⟩ = some v := by rw [Lib.cell_of_heap hblk]; rfl
              have m1 : w1.frozen? ⟨w.heap.size + 1, 0, none⟩ = false := Lib.frozen_of_heap hblk 0
              have HO := Lib.hid (And.intro hown2 (And.intro hg (And.intro hblk hblk0))); clear hown hown2 hg hn hblk hblk0 hmg
              go_wp2_with fail
              go_roundg (gk - 1)
              case measure => have := HX.out.1; omega
              case rel =>
                obtain ⟨hi, hsc, hd8, hn0, hnd, hpi, hpr, hb0, hb1, hrow, hmod⟩ := HX.out
                obtain ⟨hown, hg, hblk, hblk0⟩ := HO.out
                rw [icells_length]
                have hl1 : (p ++ [n]).length = p.length + 1 := by simp
                refine ⟨i + 1, 0, 0, p ++ [n], .slice A' (p.length + 1) c', by go_num, rfl, rfl, by omega, HS.out, by omega, by omega, by decide, by simp; omega, ?_, ?_, ?_, ?_, ?_⟩
                · intro k hk
                  rcases List.mem_append.1 hk with hk | hk
                  · exact hpr k hk
                  · rw [List.mem_singleton.1 hk]
                    have h1 : 10 ^ d ≤ 10 ^ 8 := Nat.pow_le_pow_right (by decide) hd8
                    have h2 : ((10 ^ d : Nat) : Int) ≤ ((10 ^ 8 : Nat) : Int) := Int.ofNat_le.2 h1
                    refine ⟨hn0, Int.lt_of_lt_of_le hnd ?_⟩
                    simpa using h2
                · exact (Below.heap_setCell _ _ _ _ (by simp)).trans hblk0
                · exact setCell_row (row := [v, .int .i64 0]) hblk 0 _
                · rw [hl1, icells_append]
                  exact own_move hown (fun k hk => Below.heap_setCell _ _ _ _ (by
                    have h := (own_cells hown hk).1
                    show k ≠ w.heap.size + 1
                    omega))
                · exact (hmod.grown hg (fun k hk => .inr (by have := (own_lt hrow k hk.symm).1; omega))).setCell (.inr (by simp)) _
            · go_wp2_with (at_builtin; refine append_one (w.heap.size + 2) rfl _ _ 22 3 (.int .i64 0) 8 rfl Tryd.underlying22 Tryd.infoI rfl (by decide) v (icells p) _ rfl rfl rfl (by rw [icells_length]; exact HX.out.2.2.2.2.2.2.2.2.2.1) hsz2 ?c1 ?_)
              case c1 => have := HX.out.2.2.2.2.2.1; simp only [icells_length]; omega
              intro A' c' w1 hown hg hn
              have hown2 := hown
              rw [icells_length] at hown2
              have hmg := (Mod.refl (fun _ => False) wr)
              have hblk : w1.heap[w.heap.size + 1]? = some (.cells #[v, .int .i64 0] 27 (0, 0)) := (hg.block _ (cell_lt k4) (fun e => by have h := (own_cells HX.out.2.2.2.2.2.2.2.2.2.1 e.symm).1; omega)).trans HX.out.2.2.2.2.2.2.2.2.1
              have hblk0 : w1.heap[w.heap.size]? = some (.cells #[.slice none 0 0, .int .i64 0] 27 (0, 0)) := (hg.block _ (cell_lt k0) (fun e => by have h := (own_cells HX.out.2.2.2.2.2.2.2.2.2.1 e.symm).1; omega)).trans HX.out.2.2.2.2.2.2.2.1
              have m0 : w1.cell? ⟨w.heap.size + 1, 0, none⟩ = some v := by rw [Lib.cell_of_heap hblk]; rfl
              have m1 : w1.frozen? ⟨w.heap.size + 1, 0, none⟩ = false := Lib.frozen_of_heap hblk 0
              have HO := Lib.hid (And.intro hown2 (And.intro hg (And.intro hblk hblk0))); clear hown hown2 hg hn hblk hblk0 hmg
              go_wp2_with fail
              go_roundg (gk - 1)
              case measure => have := HX.out.1; omega
              case rel =>
                obtain ⟨hi, hsc, hd8, hn0, hnd, hpi, hpr, hb0, hb1, hrow, hmod⟩ := HX.out
                obtain ⟨hown, hg, hblk, hblk0⟩ := HO.out
                rw [icells_length]
                have hl1 : (p ++ [n]).length = p.length + 1 := by simp
                refine ⟨i + 1, 0, 0, p ++ [n], .slice A' (p.length + 1) c', by go_num, rfl, rfl, by omega, HS.out, by omega, by omega, by decide, by simp; omega, ?_, ?_, ?_, ?_, ?_⟩
                · intro k hk
                  rcases List.mem_append.1 hk with hk | hk
                  · exact hpr k hk
                  · rw [List.mem_singleton.1 hk]
                    have h1 : 10 ^ d ≤ 10 ^ 8 := Nat.pow_le_pow_right (by decide) hd8
                    have h2 : ((10 ^ d : Nat) : Int) ≤ ((10 ^ 8 : Nat) : Int) := Int.ofNat_le.2 h1
                    refine ⟨hn0, Int.lt_of_lt_of_le hnd ?_⟩
                    simpa using h2
                · exact (Below.heap_setCell _ _ _ _ (by simp)).trans hblk0
                · exact setCell_row (row := [v, .int .i64 0]) hblk 0 _
                · rw [hl1, icells_append]
                  exact own_move hown (fun k hk => Below.heap_setCell _ _ _ _ (by
                    have h := (own_cells hown hk).1
                    show k ≠ w.heap.size + 1
                    omega))
                · exact (hmod.grown hg (fun k hk => .inr (by have := (own_lt hrow k hk.symm).1; omega))).setCell (.inr (by simp)) _
          · have hsn : scanB [] 0 0 l = scanB p 0 0 (l.drop (i + 1)) := by rw [HX.out.2.1, scanB, if_neg hdg, if_pos hb, if_neg hd0]
            have HS := Lib.hid hsn; clear hsn hb hsep hdg hnd2 hs
            rcases h47 with h46 | ⟨h46, h47⟩
            · go_wp2_with fail
              go_roundg (gk - 1)
              case measure => have := HX.out.1; omega
              case rel =>
                obtain ⟨hi, hsc, hd8, hn0, hnd, hpi, hpr, hb0, hb1, hrow, hmod⟩ := HX.out
                exact ⟨i + 1, 0, 0, p, v, by go_num, rfl, rfl, by omega, HS.out, by omega, by omega, by decide, by omega, hpr, hb0, hb1, hrow, hmod⟩
            · go_wp2_with fail
              go_roundg (gk - 1)
              case measure => have := HX.out.1; omega
              case rel =>
                obtain ⟨hi, hsc, hd8, hn0, hnd, hpi, hpr, hb0, hb1, hrow, hmod⟩ := HX.out
                exact ⟨i + 1, 0, 0, p, v, by go_num, rfl, rfl, by omega, HS.out, by omega, by omega, by decide, by omega, hpr, hb0, hb1, hrow, hmod⟩
        · have hsn : scanB [] 0 0 l = scanB p n d (l.drop (i + 1)) := by
            rw [HX.out.2.1, scanB, if_neg hdg, if_neg]
            rintro (rfl | rfl)
            · exact hs (.inl rfl)
            · exact hs (.inr rfl)
          have h46 : ((b.toNat : Int) == 46) = false := by simp; omega
          have h47 : ((b.toNat : Int) == 47) = false := by simp; omega
          have HS := Lib.hid hsn; clear hsn hsep hdg hs
          rcases hnd2 with hq | hq
          · go_wp2_with fail
            go_roundg (gk - 1)
            case measure => have := HX.out.1; omega
            case rel =>
              obtain ⟨hi, hsc, hd8, hn0, hnd, hpi, hpr, hb0, hb1, hrow, hmod⟩ := HX.out
              exact ⟨i + 1, d, n, p, v, by go_num, rfl, rfl, by omega, HS.out, hd8, hn0, hnd, by omega, hpr, hb0, hb1, hrow, hmod⟩
          · go_wp2_with fail
            go_roundg (gk - 1)
            case measure => have := HX.out.1; omega
            case rel =>
              obtain ⟨hi, hsc, hd8, hn0, hnd, hpi, hpr, hb0, hb1, hrow, hmod⟩ := HX.out
              exact ⟨i + 1, d, n, p, v, by go_num, rfl, rfl, by omega, HS.out, hd8, hn0, hnd, by omega, hpr, hb0, hb1, hrow, hmod⟩
    · rw [List.drop_eq_nil_of_le (by omega : l.length ≤ i)] at hsc
      simp only [scanB] at hsc
      have k0 : wr.cell? ⟨w.heap.size, 0, none⟩ = some (.slice none 0 0) := by rw [Lib.cell_of_heap hb0]; rfl
      have k1 : wr.cell? ⟨w.heap.size, 1, none⟩ = some (.int .i64 0) := by rw [Lib.cell_of_heap hb0]; rfl
      have k2 : wr.frozen? ⟨w.heap.size, 0, none⟩ = false := Lib.frozen_of_heap hb0 0
      have k3 : wr.frozen? ⟨w.heap.size, 1, none⟩ = false := Lib.frozen_of_heap hb0 1
      have k4 : wr.cell? ⟨w.heap.size + 1, 0, none⟩ = some v := by rw [Lib.cell_of_heap hb1]; rfl
      have k5 : wr.cell? ⟨w.heap.size + 1, 1, none⟩ = some (.int .i64 0) := by rw [Lib.cell_of_heap hb1]; rfl
      have k6 : wr.frozen? ⟨w.heap.size + 1, 1, none⟩ = false := Lib.frozen_of_heap hb1 1
      obtain ⟨A, c, rfl⟩ := own_slice hrow
      have HX := Lib.hid (And.intro hsc (And.intro hd8 (And.intro hn0 (And.intro hnd (And.intro hpi (And.intro hpr (And.intro hb0 (And.intro hb1 (And.intro hrow hmod)))))))))
      have hil : i ≤ 1000000 := by omega
      clear hi hsc hd8 hn0 hnd hpi hpr hb0 hb1 hrow hmod c0
      go_wp2_with fail
      obtain ⟨W0, hW0⟩ : ∃ W0, W0 = wr.setCell ⟨w.heap.size + 1, 1, none⟩ (.int .i64 n) := ⟨_, rfl⟩
      rw [← hW0]
      have HW : W0.heap[w.heap.size]? = some (.cells #[.slice none 0 0, .int .i64 0] 27 (0, 0)) ∧ W0.heap[w.heap.size + 1]? = some (.cells #[.slice A p.length c, .int .i64 n] 27 (0, 0)) ∧
          W0.ownsRow (w.heap.size + 2) 3 1 (.slice A p.length c) p.length (icells p) ∧ Mod (fun _ => False) w W0 := by
        obtain ⟨hsc, hd8, hn0, hnd, hpi, hpr, hb0, hb1, hrow, hmod⟩ := HX.out
        rw [hW0]
        refine ⟨(Below.heap_setCell _ _ _ _ (by simp)).trans hb0, setCell_row (row := [.slice A p.length c, .int .i64 0]) hb1 1 _, own_move hrow (fun k hk => Below.heap_setCell _ _ _ _ ?_), hmod.setCell (.inr (by simp)) _⟩
        have h := (own_cells hrow hk).1
        show k ≠ w.heap.size + 1
        omega
      have hpl : p.length ≤ 1000000 := by have := HX.out.2.2.2.2.1; omega
      have hrI : ∀ x ∈ p, Rd.inR .i64 x := fun x hx => inR_mk (by have := HX.out.2.2.2.2.2.1 x hx; omega)
      have hI0 := reads_ints HW.2.2.1 hrI (by omega)
      have HP := Lib.hid (And.intro HX.out.1 (And.intro HW (And.intro hI0 hrI))); clear HW hI0 hrI HX k0 k1 k2 k3 k4 k5 k6 hW0
      refine (fits_any A c p.length p n _ W0 HP.out.2.2.1).mono ?_
      rintro r w1 ⟨rfl, hm1⟩
      have hb0 := (hm1.block _ (lt_of_blk HP.out.2.1.1) id).trans HP.out.2.1.1
      have hb1 := (hm1.block _ (lt_of_blk HP.out.2.1.2.1) id).trans HP.out.2.1.2.1
      have HM1 := Lib.hid (And.intro hb0 (And.intro hb1 (And.intro (Rd.mod (Rd.bound HP.out.2.2.1) hm1 (fun _ _ => id)) (tr0 HP.out.2.1.2.2.2 hm1)))); clear hm1 hb0 hb1
      have k0 : w1.cell? ⟨w.heap.size, 0, none⟩ = some (.slice none 0 0) := by rw [Lib.cell_of_heap HM1.out.1]; rfl
      have k1 : w1.cell? ⟨w.heap.size, 1, none⟩ = some (.int .i64 0) := by rw [Lib.cell_of_heap HM1.out.1]; rfl
      have k2 : w1.frozen? ⟨w.heap.size, 0, none⟩ = false := Lib.frozen_of_heap HM1.out.1 0
      have k3 : w1.frozen? ⟨w.heap.size, 1, none⟩ = false := Lib.frozen_of_heap HM1.out.1 1
      have k4 : w1.cell? ⟨w.heap.size + 1, 0, none⟩ = some (.slice A p.length c) := by rw [Lib.cell_of_heap HM1.out.2.1]; rfl
      have k5 : w1.cell? ⟨w.heap.size + 1, 1, none⟩ = some (.int .i64 n) := by rw [Lib.cell_of_heap HM1.out.2.1]; rfl
      cases hf : fitsB p n with
      | false =>
        go_wp2_with fail
        have hB2 := setCell_row (setCell_row (row := [.slice none 0 0, .int .i64 0]) HM1.out.1 0 (.slice none 0 0)) 1 (.int .i64 0)
        refine get_leave hB2 _ rfl rfl _ ⟨?_, .inl ⟨by unfold getB; rw [HP.out.1]; simp [hf], rfl⟩⟩
        exact (HM1.out.2.2.2.setCell (.inr (by simp)) _).setCell (.inr (by simp)) _
      | true =>
        go_wp2_with fail
        refine (text_any A c p.length p n _ w1 HM1.out.2.2.1 hf).mono ?_
        rintro r w2 ⟨rfl, hm2⟩
        have hb0 := (hm2.block _ (lt_of_blk HM1.out.1) id).trans HM1.out.1
        have hb1 := (hm2.block _ (lt_of_blk HM1.out.2.1) id).trans HM1.out.2.1
        have HM2 := Lib.hid (And.intro hb0 (And.intro hb1 (And.intro (Rd.mod (Rd.bound HM1.out.2.2.1) hm2 (fun _ _ => id)) (tr0 HM1.out.2.2.2 hm2)))); clear hm2 hb0 hb1 k0 k1 k2 k3 k4 k5
        have k0 : w2.cell? ⟨w.heap.size, 0, none⟩ = some (.slice none 0 0) := by rw [Lib.cell_of_heap HM2.out.1]; rfl
        have k1 : w2.cell? ⟨w.heap.size, 1, none⟩ = some (.int .i64 0) := by rw [Lib.cell_of_heap HM2.out.1]; rfl
        have k2 : w2.frozen? ⟨w.heap.size, 0, none⟩ = false := Lib.frozen_of_heap HM2.out.1 0
        have k3 : w2.frozen? ⟨w.heap.size, 1, none⟩ = false := Lib.frozen_of_heap HM2.out.1 1
        have k4 : w2.cell? ⟨w.heap.size + 1, 0, none⟩ = some (.slice A p.length c) := by rw [Lib.cell_of_heap HM2.out.2.1]; rfl
        have k5 : w2.cell? ⟨w.heap.size + 1, 1, none⟩ = some (.int .i64 n) := by rw [Lib.cell_of_heap HM2.out.2.1]; rfl
        obtain ⟨t, ht⟩ : ∃ t, t = catT p n := ⟨_, rfl⟩
        rw [← ht]
        have HT := Lib.hid ht; clear ht
        dsimp only [encS]
        by_cases hq : t = l
        · have e1 : (t == l) = true := by simp [hq]
          have HQ := Lib.hid hq; clear hq
          go_wp2_with fail
          have hB2 := setCell_row (setCell_row (row := [.slice none 0 0, .int .i64 0]) HM2.out.1 0 (.slice A p.length c)) 1 (.int .i64 n)
          have m2 : Mod (fun k => k = w.heap.size) w2 ((w2.setCell ⟨w.heap.size, 0, none⟩ (.slice A p.length c)).setCell ⟨w.heap.size, 1, none⟩ (.int .i64 n)) := Mod.setCell (a := ⟨w.heap.size, 1, none⟩) (Mod.setCell (a := ⟨w.heap.size, 0, none⟩) (Mod.refl (fun k => k = w.heap.size) w2) (.inl rfl) _) (.inl rfl) _
          have hge : ∀ k, (Value.slice A p.length c).ownBlock = some k → w.heap.size + 2 ≤ k := fun k hk => (own_cells HP.out.2.1.2.2.1 hk).1
          refine get_leave hB2 _ rfl rfl _ ⟨?_, .inr ⟨p, n, A, c, by unfold getB; rw [HP.out.1]; dsimp only; rw [if_pos ⟨hf, HT.out.symm.trans HQ.out⟩], rfl, ?_⟩⟩
          · exact HM2.out.2.2.2.trans m2 (fun k hk => .inr (by omega))
          · exact Rd.mono (Rd.mod HM2.out.2.2.1 m2 (fun k hk => by have := hge k hk.1.1; omega)) (fun k hk => by have := hge k hk.1.1; omega)
        · have e1 : (t == l) = false := by simp [hq]
          have HQ := Lib.hid hq; clear hq
          go_wp2_with fail
          have hB2 := setCell_row (setCell_row (row := [.slice none 0 0, .int .i64 0]) HM2.out.1 0 (.slice none 0 0)) 1 (.int .i64 0)
          refine get_leave hB2 _ rfl rfl _ ⟨?_, .inl ⟨by unfold getB; rw [HP.out.1]; dsimp only; rw [if_neg]; rintro ⟨-, h⟩; exact HQ.out (HT.out.trans h), rfl⟩⟩
          exact (HM2.out.2.2.2.setCell (.inr (by simp)) _).setCell (.inr (by simp)) _
theorem scan_digits : ∀ (x l : List UInt8) (p : List Int) (n : Int) (d : Nat), (∀ b ∈ x, 48 ≤ b.toNat ∧ b.toNat ≤ 57) → d + x.length ≤ 8 → ∃ m : Int, scanB p n d (x ++ l) = scanB p m (d + x.length) l ∧ m = x.foldl (fun a b => 10 * a + ((b.toNat - 48 : Nat) : Int)) n
  | [], l, p, n, d, _, _ => ⟨n, rfl, rfl⟩
  | b :: x, l, p, n, d, h, hd => by
    simp only [List.length_cons] at hd
    obtain ⟨m, h1, h2⟩ := scan_digits x l p (10 * n + (b.toNat - 48 : Nat)) (d + 1) (fun c hc => h c (List.mem_cons_of_mem _ hc)) (by omega)
    refine ⟨m, ?_, by rw [h2]; rfl⟩
    rw [List.cons_append, scanB, if_pos (h b (by simp)), if_neg (by omega), h1]
    congr 1
    simp only [List.length_cons]; omega
theorem dec_fold (u : Nat) (n : Int) (h : n = 0) : (Lib.decDigits u).foldl (fun a b => 10 * a + ((b.toNat - 48 : Nat) : Int)) n = u := by
  have one : ∀ d, d < 10 → (UInt8.ofNat (48 + d)).toNat = 48 + d := fun d hd => by simp; omega
  subst h
  rw [Lib.decDigits]
  split
  · rename_i h
    simp only [List.foldl_cons, List.foldl_nil, one u h]
    omega
  · rw [List.foldl_append, dec_fold (u / 10) 0 rfl]
    simp only [List.foldl_cons, List.foldl_nil, one (u % 10) (by omega)]
    omega
theorem dec_small : ∀ (k u : Nat), u < 10 ^ (k + 1) → (Lib.decDigits u).length ≤ k + 1
  | 0, u, h => by rw [Lib.decDigits_one (by simpa using h)]; simp
  | k + 1, u, h => by
    rw [Lib.decDigits]
    split
    · simp
    · have := dec_small k (u / 10) (by rw [Nat.pow_succ] at h; omega)
      simp; omega
theorem scan_itoa (k : Int) (l : List UInt8) (p : List Int) (h0 : 0 ≤ k) (h1 : k ≤ 1048576) : ∃ d, 0 < d ∧ d ≤ 8 ∧ scanB p 0 0 (Lib.itoa k ++ l) = scanB p k d l := by
  obtain ⟨u, rfl⟩ : ∃ u : Nat, k = u := ⟨k.toNat, by omega⟩
  rw [Lib.itoa_nonneg]
  have hl := dec_small 7 u (by omega)
  obtain ⟨m, h2, h3⟩ := scan_digits (Lib.decDigits u) l p 0 0 (dec_mem u) (by omega)
  rw [dec_fold u 0 rfl] at h3
  subst h3
  obtain ⟨c, r, hc, _⟩ := dec_head u
  refine ⟨0 + (Lib.decDigits u).length, by rw [hc]; simp, by omega, h2⟩
theorem scan_path : ∀ (p q : List Int) (n : Int), (∀ k ∈ p, 0 ≤ k ∧ k ≤ 1048576) → 0 ≤ n → n ≤ 1048576 → scanB q 0 0 (pathT p ++ 47 :: Lib.itoa n) = some (q ++ p, n)
  | [], q, n, _, h0, h1 => by
    have e : scanB q 0 0 (pathT [] ++ 47 :: Lib.itoa n) = scanB q 0 0 (Lib.itoa n) := by
      show scanB q 0 0 (47 :: Lib.itoa n) = _
      rw [scanB, if_neg (by decide), if_pos (by decide), if_neg (by decide)]
    obtain ⟨d, _, _, h2⟩ := scan_itoa n [] q h0 h1
    rw [List.append_nil] at h2
    rw [e, h2]; simp [scanB]
  | [k], q, n, h, h0, h1 => by
    obtain ⟨hk0, hk1⟩ := h k (by simp)
    obtain ⟨d, hd0, _, h2⟩ := scan_itoa k (47 :: Lib.itoa n) q hk0 hk1
    show scanB q 0 0 (Lib.itoa k ++ 47 :: Lib.itoa n) = _
    rw [h2, scanB, if_neg (by decide), if_pos (by decide), if_pos hd0]
    obtain ⟨d2, _, _, h3⟩ := scan_itoa n [] (q ++ [k]) h0 h1
    rw [List.append_nil] at h3
    rw [h3]; simp [scanB]
  | k :: b :: p, q, n, h, h0, h1 => by
    obtain ⟨hk0, hk1⟩ := h k (by simp)
    have ih := scan_path (b :: p) (q ++ [k]) n (fun x hx => h x (List.mem_cons_of_mem _ hx)) h0 h1
    have e : pathT (k :: b :: p) ++ 47 :: Lib.itoa n = Lib.itoa k ++ 46 :: (pathT (b :: p) ++ 47 :: Lib.itoa n) := by simp [pathT]
    obtain ⟨d, hd0, _, h2⟩ := scan_itoa k (46 :: (pathT (b :: p) ++ 47 :: Lib.itoa n)) q hk0 hk1
    rw [e, h2, scanB, if_neg (by decide), if_pos (by decide), if_pos hd0, ih]
    simp
/-- The document's answer and the code's are one. -/
theorem getB_eq (l : List UInt8) : getB l = parseB l := by
  cases hp : parseB l with
  | some x =>
    obtain ⟨p, n⟩ := x
    obtain ⟨hf, hc⟩ := parse_iff.1 hp
    obtain ⟨h1, h2, h3, h4⟩ := (fitsB_iff p n).1 hf
    have := scan_path p [] n h4 h1 (by omega)
    unfold catT at hc
    rw [hc] at this
    unfold getB
    rw [this]
    dsimp only
    rw [if_pos ⟨by simpa using hf, by unfold catT; simpa using hc⟩]
    simp
  | none =>
    unfold getB
    split
    · rfl
    · rename_i p n hs
      split
      · rename_i h
        have := parse_iff.2 h
        rw [hp] at this; cases this
      · rfl
end Go.Proofs.YtgdadhpcooegnaaDoor
