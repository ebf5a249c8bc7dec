/- Texts of this claim, joined: Wide, OwnFr, OwnFw, OpB, UptoOwnsFlows, UCardOwnsFlows. -/
import Derived.Test.YthhepnaanjicjaaGreatDoorO3
import Derived.Test.YthhepnaanjicjaaGreatDoorO2
import Derived.Test.YthhepnaanjicjaaGreatDoorP5
import Derived.Deep.DeepCutAuto
import Derived.Test.YthhepnaanjicjaaGreatDoorP7
import Derived.Test.YthhepnaanjicjaaGreatDoorP0
import Derived.WalkKit
import Derived.ProofKit
import Derived.OpenShut
import Derived.ShutString
import Derived.ChangeOld
import Derived.Below
import Derived.SizedLaws
import Derived.ChangeVars
import Derived.JoinedOf
import Derived.RowKitTokens
import Derived.LaidLaws
import Derived.LaidHandle
import Derived.Stop.Joined
import Derived.Deep.DeepHandedRow
import Derived.Deep.DeepWitnessRowRef
import Derived.Test.YthhepnaanjicjaaGreatDoorRows
import Derived.Test.YthhepnaanjicjaaGreatDoorCards
import Derived.Test.YthhepnaanjicjaaGreatDoorTie
import Derived.SevenTiedAt
/- The document's answer for layers 5 and 6, for longer names: Get, Compare, isCat, Right. -/
namespace Go.Proofs.YthhepnaanjicjaaGreatDoor
open Go.RowKit Go.Shelf
set_option linter.unusedVariables false
set_option maxRecDepth 100000 in
set_option maxHeartbeats 1000000 in
theorem getw_any (l : List UInt8) (hl : l.length ≤ 1100000) (w : World) :
    Calls Tryz.prog 68 #[encS l] w fun r w' => Mod (fun _ => False) w w' ∧ ((getB l = none ∧ r = .returned (.tuple #[.agg #[.slice none 0 0, .int .i64 0], .bool false])) ∨
      ∃ p n A c, getB l = some (p, n) ∧ r = .returned (.tuple #[.agg #[.slice A p.length c, .int .i64 n], .bool true]) ∧ intsR.rel w' (fun k => w.heap.size ≤ k) [.slice A p.length c] p) := by
  unfold encS
  go_enter Tryz.func68, Tryz.ntmps68
  go_wp2_with fail
  go_loopg [5, 6, 7] l.length (fun f sn sd si wr => ∃ (i d : Nat) (n : Int) (p : List Int) (v : Value), si = .int .i64 i ∧ sd = .int .i64 d ∧ sn = .int .i64 n ∧ i + f = l.length ∧ scanB [] 0 0 l = scanB p n d (l.drop i) ∧ d ≤ 8 ∧ 0 ≤ n ∧ n < 10 ^ d ∧ p.length ≤ i ∧ (∀ k ∈ p, 0 ≤ k ∧ k < 100000000) ∧
    wr.heap[w.heap.size]? = some (.cells #[.slice none 0 0, .int .i64 0] 78 (0, 0)) ∧ wr.heap[w.heap.size + 1]? = some (.cells #[v, .int .i64 0] 78 (0, 0)) ∧ wr.ownsRow (w.heap.size + 2) 3 1 v p.length (icells p) ∧ Mod (fun _ => False) w wr)
  case atStart =>
    refine ⟨0, 0, 0, [], .slice none 0 0, rfl, rfl, rfl, by omega, by simp, by omega, by omega, by decide, by simp, by simp, ?_, ?_, World.ownsRow_nil _ _ _ _, ((Mod.refl _ w).alloc _).alloc _⟩
    · exact (Below.heap_alloc _ _ _ (by simp)).trans (World.alloc_heap_new w _)
    · have := World.alloc_heap_new (w.alloc (.cells #[.slice none 0 0, .int .i64 0] 78)) (.cells #[.slice none 0 0, .int .i64 0] 78)
      rw [World.size_alloc] at this
      exact this
  case round =>
    obtain ⟨i, d, n, p, v, rfl, rfl, rfl, hi, hsc, hd8, hn0, hnd, hpi, hpr, hb0, hb1, hrow, hmod⟩ := hrel
    have c0 := fun j => Lib.cell_of_heap hb1 j
    by_cases hlt : i < l.length
    · have hx : l[i]? = some l[i] := by simp [hlt]
      obtain ⟨b, hbe⟩ : ∃ b, b = l[i] := ⟨_, rfl⟩
      rw [List.drop_eq_getElem_cons hlt, ← hbe] at hsc
      rw [← hbe] at hx
      have hxb : ∀ h, (⟨l.toArray⟩ : ByteArray)[i]'h = b := fun h => by rw [hbe]; rfl
      have k0 : wr.cell? ⟨w.heap.size, 0, none⟩ = some (.slice none 0 0) := by rw [Lib.cell_of_heap hb0]; rfl
      have k1 : wr.cell? ⟨w.heap.size, 1, none⟩ = some (.int .i64 0) := by rw [Lib.cell_of_heap hb0]; rfl
      have k2 : wr.frozen? ⟨w.heap.size, 0, none⟩ = false := Lib.frozen_of_heap hb0 0
      have k3 : wr.frozen? ⟨w.heap.size, 1, none⟩ = false := Lib.frozen_of_heap hb0 1
      have k4 : wr.cell? ⟨w.heap.size + 1, 0, none⟩ = some v := by rw [Lib.cell_of_heap hb1]; rfl
      have k5 : wr.frozen? ⟨w.heap.size + 1, 0, none⟩ = false := Lib.frozen_of_heap hb1 0
      have HX := Lib.hid (And.intro hi (And.intro hsc (And.intro hd8 (And.intro hn0 (And.intro hnd (And.intro hpi (And.intro hpr (And.intro hb0 (And.intro hb1 (And.intro hrow hmod))))))))))
      clear hi hsc hd8 hn0 hnd hpi hpr hb0 hb1 hrow hmod c0 hbe
      by_cases hdg : 48 ≤ b.toNat ∧ b.toNat ≤ 57
      · obtain ⟨g1, g2⟩ := hdg
        by_cases hd : d = 8
        · have hdd : wrap64 ((d : Int) + 1) = 9 := by unfold wrap64; omega
          have hsn : scanB [] 0 0 l = none := by rw [HX.out.2.1, scanB, if_pos ⟨g1, g2⟩, if_pos (by omega)]
          have HS := Lib.hid hsn; clear hsn hd
          go_wp2_with fail
          have hB2 := setCell_row (setCell_row (row := [.slice none 0 0, .int .i64 0]) HX.out.2.2.2.2.2.2.2.1 0 (.slice none 0 0)) 1 (.int .i64 0)
          refine get_leave hB2 _ rfl rfl _ ⟨?_, .inl ⟨by unfold getB; rw [HS.out], rfl⟩⟩
          exact (HX.out.2.2.2.2.2.2.2.2.2.2.setCell (.inr (by simp)) _).setCell (.inr (by simp)) _
        · have hd7 : d ≤ 7 := by have := HX.out.2.2.1; omega
          have hn7 : n < 10000000 := Int.lt_of_lt_of_le HX.out.2.2.2.2.1 (by
            have h1 : 10 ^ d ≤ 10 ^ 7 := Nat.pow_le_pow_right (by decide) hd7
            have h2 : ((10 ^ d : Nat) : Int) ≤ ((10 ^ 7 : Nat) : Int) := Int.ofNat_le.2 h1
            simpa using h2)
          have hn0 := HX.out.2.2.2.1
          go_wp2_with fail
          go_roundg (gk - 1)
          case measure => have := HX.out.1; omega
          case rel =>
            obtain ⟨hi, hsc, hd8, -, hnd, hpi, hpr, hb0, hb1, hrow, hmod⟩ := HX.out
            refine ⟨i + 1, d + 1, 10 * n + (b.toNat - 48 : Nat), p, v, by go_num, by go_num, by go_num, by omega, ?_, by omega, by omega, ?_, by omega, hpr, hb0, hb1, hrow, hmod⟩
            · rw [hsc, scanB, if_pos ⟨g1, g2⟩, if_neg (by omega)]
            · rw [Int.pow_succ]; omega
      · have hsep : ∀ (hs : b.toNat = 46 ∨ b.toNat = 47), b = 46 ∨ b = 47 := fun hs => hs.imp (fun h => UInt8.toNat_inj.1 h) (fun h => UInt8.toNat_inj.1 h)
        have hnd2 : b.toNat < 48 ∨ 57 < b.toNat := by omega
        by_cases hs : b.toNat = 46 ∨ b.toNat = 47
        · have hb := hsep hs
          have hbs : b.toNat < 48 := by omega
          have h47 : ((b.toNat : Int) == 46) = true ∨ (((b.toNat : Int) == 46) = false ∧ ((b.toNat : Int) == 47) = true) := by
            rcases hs with h | h
            · left; simp [h]
            · right; simp [h]
          by_cases hd0 : 0 < d
          · have hsn : scanB [] 0 0 l = scanB (p ++ [n]) 0 0 (l.drop (i + 1)) := by rw [HX.out.2.1, scanB, if_neg hdg, if_pos hb, if_pos hd0]
            have HS := Lib.hid hsn; clear hsn hb hsep hdg hnd2 hs
            have hsz2 : w.heap.size + 2 ≤ wr.heap.size := cell_lt k4
            rcases h47 with h46 | ⟨h46, h47⟩
            · go_wp2_with (at_builtin; refine append_one (w.heap.size + 2) rfl _ _ 76 3 (.int .i64 0) 8 rfl Tryz.underlying76 Tryz.infoI rfl (by decide) v (icells p) _ rfl rfl rfl (by rw [icells_length]; exact HX.out.2.2.2.2.2.2.2.2.2.1) hsz2 ?c1 ?_)
              case c1 => have := HX.out.2.2.2.2.2.1; simp only [icells_length]; omega
              intro A' c' w1 hown hg hn
              have hown2 := hown
              rw [icells_length] at hown2
              have hmg := (Mod.refl (fun _ => False) wr)
              have hblk : w1.heap[w.heap.size + 1]? = some (.cells #[v, .int .i64 0] 78 (0, 0)) := (hg.block _ (cell_lt k4) (fun e => by have h := (own_cells HX.out.2.2.2.2.2.2.2.2.2.1 e.symm).1; omega)).trans HX.out.2.2.2.2.2.2.2.2.1
              have hblk0 : w1.heap[w.heap.size]? = some (.cells #[.slice none 0 0, .int .i64 0] 78 (0, 0)) := (hg.block _ (cell_lt k0) (fun e => by have h := (own_cells HX.out.2.2.2.2.2.2.2.2.2.1 e.symm).1; omega)).trans HX.out.2.2.2.2.2.2.2.1
              have m0 : w1.cell? ⟨w.heap.size + 1, 0, none⟩ = some v := by rw [Lib.cell_of_heap hblk]; rfl
              have m1 : w1.frozen? ⟨w.heap.size + 1, 0, none⟩ = false := Lib.frozen_of_heap hblk 0
              have HO := Lib.hid (And.intro hown2 (And.intro hg (And.intro hblk hblk0))); clear hown hown2 hg hn hblk hblk0 hmg
              go_wp2_with fail
              go_roundg (gk - 1)
              case measure => have := HX.out.1; omega
              case rel =>
                obtain ⟨hi, hsc, hd8, hn0, hnd, hpi, hpr, hb0, hb1, hrow, hmod⟩ := HX.out
                obtain ⟨hown, hg, hblk, hblk0⟩ := HO.out
                rw [icells_length]
                have hl1 : (p ++ [n]).length = p.length + 1 := by simp
                refine ⟨i + 1, 0, 0, p ++ [n], .slice A' (p.length + 1) c', by go_num, rfl, rfl, by omega, HS.out, by omega, by omega, by decide, by simp; omega, ?_, ?_, ?_, ?_, ?_⟩
                · intro k hk
                  rcases List.mem_append.1 hk with hk | hk
                  · exact hpr k hk
                  · rw [List.mem_singleton.1 hk]
                    have h1 : 10 ^ d ≤ 10 ^ 8 := Nat.pow_le_pow_right (by decide) hd8
                    have h2 : ((10 ^ d : Nat) : Int) ≤ ((10 ^ 8 : Nat) : Int) := Int.ofNat_le.2 h1
                    refine ⟨hn0, Int.lt_of_lt_of_le hnd ?_⟩
                    simpa using h2
                · exact (Below.heap_setCell _ _ _ _ (by simp)).trans hblk0
                · exact setCell_row (row := [v, .int .i64 0]) hblk 0 _
                · rw [hl1, icells_append]
                  exact own_move hown (fun k hk => Below.heap_setCell _ _ _ _ (by
                    have h := (own_cells hown hk).1
                    show k ≠ w.heap.size + 1
                    omega))
                · exact (hmod.grown hg (fun k hk => .inr (by have := (own_lt hrow k hk.symm).1; omega))).setCell (.inr (by simp)) _
            · go_wp2_with (at_builtin; refine append_one (w.heap.size + 2) rfl _ _ 76 3 (.int .i64 0) 8 rfl Tryz.underlying76 Tryz.infoI rfl (by decide) v (icells p) _ rfl rfl rfl (by rw [icells_length]; exact HX.out.2.2.2.2.2.2.2.2.2.1) hsz2 ?c1 ?_)
              case c1 => have := HX.out.2.2.2.2.2.1; simp only [icells_length]; omega
              intro A' c' w1 hown hg hn
              have hown2 := hown
              rw [icells_length] at hown2
              have hmg := (Mod.refl (fun _ => False) wr)
              have hblk : w1.heap[w.heap.size + 1]? = some (.cells #[v, .int .i64 0] 78 (0, 0)) := (hg.block _ (cell_lt k4) (fun e => by have h := (own_cells HX.out.2.2.2.2.2.2.2.2.2.1 e.symm).1; omega)).trans HX.out.2.2.2.2.2.2.2.2.1
              have hblk0 : w1.heap[w.heap.size]? = some (.cells #[.slice none 0 0, .int .i64 0] 78 (0, 0)) := (hg.block _ (cell_lt k0) (fun e => by have h := (own_cells HX.out.2.2.2.2.2.2.2.2.2.1 e.symm).1; omega)).trans HX.out.2.2.2.2.2.2.2.1
              have m0 : w1.cell? ⟨w.heap.size + 1, 0, none⟩ = some v := by rw [Lib.cell_of_heap hblk]; rfl
              have m1 : w1.frozen? ⟨w.heap.size + 1, 0, none⟩ = false := Lib.frozen_of_heap hblk 0
              have HO := Lib.hid (And.intro hown2 (And.intro hg (And.intro hblk hblk0))); clear hown hown2 hg hn hblk hblk0 hmg
              go_wp2_with fail
              go_roundg (gk - 1)
              case measure => have := HX.out.1; omega
              case rel =>
                obtain ⟨hi, hsc, hd8, hn0, hnd, hpi, hpr, hb0, hb1, hrow, hmod⟩ := HX.out
                obtain ⟨hown, hg, hblk, hblk0⟩ := HO.out
                rw [icells_length]
                have hl1 : (p ++ [n]).length = p.length + 1 := by simp
                refine ⟨i + 1, 0, 0, p ++ [n], .slice A' (p.length + 1) c', by go_num, rfl, rfl, by omega, HS.out, by omega, by omega, by decide, by simp; omega, ?_, ?_, ?_, ?_, ?_⟩
                · intro k hk
                  rcases List.mem_append.1 hk with hk | hk
                  · exact hpr k hk
                  · rw [List.mem_singleton.1 hk]
                    have h1 : 10 ^ d ≤ 10 ^ 8 := Nat.pow_le_pow_right (by decide) hd8
                    have h2 : ((10 ^ d : Nat) : Int) ≤ ((10 ^ 8 : Nat) : Int) := Int.ofNat_le.2 h1
                    refine ⟨hn0, Int.lt_of_lt_of_le hnd ?_⟩
                    simpa using h2
                · exact (Below.heap_setCell _ _ _ _ (by simp)).trans hblk0
                · exact setCell_row (row := [v, .int .i64 0]) hblk 0 _
                · rw [hl1, icells_append]
                  exact own_move hown (fun k hk => Below.heap_setCell _ _ _ _ (by
                    have h := (own_cells hown hk).1
                    show k ≠ w.heap.size + 1
                    omega))
                · exact (hmod.grown hg (fun k hk => .inr (by have := (own_lt hrow k hk.symm).1; omega))).setCell (.inr (by simp)) _
          · have hsn : scanB [] 0 0 l = scanB p 0 0 (l.drop (i + 1)) := by rw [HX.out.2.1, scanB, if_neg hdg, if_pos hb, if_neg hd0]
            have HS := Lib.hid hsn; clear hsn hb hsep hdg hnd2 hs
            rcases h47 with h46 | ⟨h46, h47⟩
            · go_wp2_with fail
              go_roundg (gk - 1)
              case measure => have := HX.out.1; omega
              case rel =>
                obtain ⟨hi, hsc, hd8, hn0, hnd, hpi, hpr, hb0, hb1, hrow, hmod⟩ := HX.out
                exact ⟨i + 1, 0, 0, p, v, by go_num, rfl, rfl, by omega, HS.out, by omega, by omega, by decide, by omega, hpr, hb0, hb1, hrow, hmod⟩
            · go_wp2_with fail
              go_roundg (gk - 1)
              case measure => have := HX.out.1; omega
              case rel =>
                obtain ⟨hi, hsc, hd8, hn0, hnd, hpi, hpr, hb0, hb1, hrow, hmod⟩ := HX.out
                exact ⟨i + 1, 0, 0, p, v, by go_num, rfl, rfl, by omega, HS.out, by omega, by omega, by decide, by omega, hpr, hb0, hb1, hrow, hmod⟩
        · have hsn : scanB [] 0 0 l = scanB p n d (l.drop (i + 1)) := by
            rw [HX.out.2.1, scanB, if_neg hdg, if_neg]
            rintro (rfl | rfl)
            · exact hs (.inl rfl)
            · exact hs (.inr rfl)
          have h46 : ((b.toNat : Int) == 46) = false := by simp; omega
          have h47 : ((b.toNat : Int) == 47) = false := by simp; omega
          have HS := Lib.hid hsn; clear hsn hsep hdg hs
          rcases hnd2 with hq | hq
          · go_wp2_with fail
            go_roundg (gk - 1)
            case measure => have := HX.out.1; omega
            case rel =>
              obtain ⟨hi, hsc, hd8, hn0, hnd, hpi, hpr, hb0, hb1, hrow, hmod⟩ := HX.out
              exact ⟨i + 1, d, n, p, v, by go_num, rfl, rfl, by omega, HS.out, hd8, hn0, hnd, by omega, hpr, hb0, hb1, hrow, hmod⟩
          · go_wp2_with fail
            go_roundg (gk - 1)
            case measure => have := HX.out.1; omega
            case rel =>
              obtain ⟨hi, hsc, hd8, hn0, hnd, hpi, hpr, hb0, hb1, hrow, hmod⟩ := HX.out
              exact ⟨i + 1, d, n, p, v, by go_num, rfl, rfl, by omega, HS.out, hd8, hn0, hnd, by omega, hpr, hb0, hb1, hrow, hmod⟩
    · rw [List.drop_eq_nil_of_le (by omega : l.length ≤ i)] at hsc
      simp only [scanB] at hsc
      have k0 : wr.cell? ⟨w.heap.size, 0, none⟩ = some (.slice none 0 0) := by rw [Lib.cell_of_heap hb0]; rfl
      have k1 : wr.cell? ⟨w.heap.size, 1, none⟩ = some (.int .i64 0) := by rw [Lib.cell_of_heap hb0]; rfl
      have k2 : wr.frozen? ⟨w.heap.size, 0, none⟩ = false := Lib.frozen_of_heap hb0 0
      have k3 : wr.frozen? ⟨w.heap.size, 1, none⟩ = false := Lib.frozen_of_heap hb0 1
      have k4 : wr.cell? ⟨w.heap.size + 1, 0, none⟩ = some v := by rw [Lib.cell_of_heap hb1]; rfl
      have k5 : wr.cell? ⟨w.heap.size + 1, 1, none⟩ = some (.int .i64 0) := by rw [Lib.cell_of_heap hb1]; rfl
      have k6 : wr.frozen? ⟨w.heap.size + 1, 1, none⟩ = false := Lib.frozen_of_heap hb1 1
      obtain ⟨A, c, rfl⟩ := own_slice hrow
      have HX := Lib.hid (And.intro hsc (And.intro hd8 (And.intro hn0 (And.intro hnd (And.intro hpi (And.intro hpr (And.intro hb0 (And.intro hb1 (And.intro hrow hmod)))))))))
      have hil : i ≤ 1100000 := by omega
      clear hi hsc hd8 hn0 hnd hpi hpr hb0 hb1 hrow hmod c0
      go_wp2_with fail
      obtain ⟨W0, hW0⟩ : ∃ W0, W0 = wr.setCell ⟨w.heap.size + 1, 1, none⟩ (.int .i64 n) := ⟨_, rfl⟩
      rw [← hW0]
      have HW : W0.heap[w.heap.size]? = some (.cells #[.slice none 0 0, .int .i64 0] 78 (0, 0)) ∧ W0.heap[w.heap.size + 1]? = some (.cells #[.slice A p.length c, .int .i64 n] 78 (0, 0)) ∧
          W0.ownsRow (w.heap.size + 2) 3 1 (.slice A p.length c) p.length (icells p) ∧ Mod (fun _ => False) w W0 := by
        obtain ⟨hsc, hd8, hn0, hnd, hpi, hpr, hb0, hb1, hrow, hmod⟩ := HX.out
        rw [hW0]
        refine ⟨(Below.heap_setCell _ _ _ _ (by simp)).trans hb0, setCell_row (row := [.slice A p.length c, .int .i64 0]) hb1 1 _, own_move hrow (fun k hk => Below.heap_setCell _ _ _ _ ?_), hmod.setCell (.inr (by simp)) _⟩
        have h := (own_cells hrow hk).1
        show k ≠ w.heap.size + 1
        omega
      have hpl : p.length ≤ 1100000 := by have := HX.out.2.2.2.2.1; omega
      have hrI : ∀ x ∈ p, Rd.inR .i64 x := fun x hx => inR_mk (by have := HX.out.2.2.2.2.2.1 x hx; omega)
      have hI0 := reads_ints HW.2.2.1 hrI (by omega)
      have HP := Lib.hid (And.intro HX.out.1 (And.intro HW (And.intro hI0 hrI))); clear HW hI0 hrI HX k0 k1 k2 k3 k4 k5 k6 hW0
      refine (fits_any A c p.length p n _ W0 HP.out.2.2.1).mono ?_
      rintro r w1 ⟨rfl, hm1⟩
      have hb0 := (hm1.block _ (lt_of_blk HP.out.2.1.1) id).trans HP.out.2.1.1
      have hb1 := (hm1.block _ (lt_of_blk HP.out.2.1.2.1) id).trans HP.out.2.1.2.1
      have HM1 := Lib.hid (And.intro hb0 (And.intro hb1 (And.intro (Rd.mod (Rd.bound HP.out.2.2.1) hm1 (fun _ _ => id)) (tr0 HP.out.2.1.2.2.2 hm1)))); clear hm1 hb0 hb1
      have k0 : w1.cell? ⟨w.heap.size, 0, none⟩ = some (.slice none 0 0) := by rw [Lib.cell_of_heap HM1.out.1]; rfl
      have k1 : w1.cell? ⟨w.heap.size, 1, none⟩ = some (.int .i64 0) := by rw [Lib.cell_of_heap HM1.out.1]; rfl
      have k2 : w1.frozen? ⟨w.heap.size, 0, none⟩ = false := Lib.frozen_of_heap HM1.out.1 0
      have k3 : w1.frozen? ⟨w.heap.size, 1, none⟩ = false := Lib.frozen_of_heap HM1.out.1 1
      have k4 : w1.cell? ⟨w.heap.size + 1, 0, none⟩ = some (.slice A p.length c) := by rw [Lib.cell_of_heap HM1.out.2.1]; rfl
      have k5 : w1.cell? ⟨w.heap.size + 1, 1, none⟩ = some (.int .i64 n) := by rw [Lib.cell_of_heap HM1.out.2.1]; rfl
      cases hf : fitsB p n with
      | false =>
        go_wp2_with fail
        have hB2 := setCell_row (setCell_row (row := [.slice none 0 0, .int .i64 0]) HM1.out.1 0 (.slice none 0 0)) 1 (.int .i64 0)
        refine get_leave hB2 _ rfl rfl _ ⟨?_, .inl ⟨by unfold getB; rw [HP.out.1]; simp [hf], rfl⟩⟩
        exact (HM1.out.2.2.2.setCell (.inr (by simp)) _).setCell (.inr (by simp)) _
      | true =>
        go_wp2_with fail
        refine (text_any A c p.length p n _ w1 HM1.out.2.2.1 hf).mono ?_
        rintro r w2 ⟨rfl, hm2⟩
        have hb0 := (hm2.block _ (lt_of_blk HM1.out.1) id).trans HM1.out.1
        have hb1 := (hm2.block _ (lt_of_blk HM1.out.2.1) id).trans HM1.out.2.1
        have HM2 := Lib.hid (And.intro hb0 (And.intro hb1 (And.intro (Rd.mod (Rd.bound HM1.out.2.2.1) hm2 (fun _ _ => id)) (tr0 HM1.out.2.2.2 hm2)))); clear hm2 hb0 hb1 k0 k1 k2 k3 k4 k5
        have k0 : w2.cell? ⟨w.heap.size, 0, none⟩ = some (.slice none 0 0) := by rw [Lib.cell_of_heap HM2.out.1]; rfl
        have k1 : w2.cell? ⟨w.heap.size, 1, none⟩ = some (.int .i64 0) := by rw [Lib.cell_of_heap HM2.out.1]; rfl
        have k2 : w2.frozen? ⟨w.heap.size, 0, none⟩ = false := Lib.frozen_of_heap HM2.out.1 0
        have k3 : w2.frozen? ⟨w.heap.size, 1, none⟩ = false := Lib.frozen_of_heap HM2.out.1 1
        have k4 : w2.cell? ⟨w.heap.size + 1, 0, none⟩ = some (.slice A p.length c) := by rw [Lib.cell_of_heap HM2.out.2.1]; rfl
        have k5 : w2.cell? ⟨w.heap.size + 1, 1, none⟩ = some (.int .i64 n) := by rw [Lib.cell_of_heap HM2.out.2.1]; rfl
        obtain ⟨t, ht⟩ : ∃ t, t = catT p n := ⟨_, rfl⟩
        rw [← ht]
        have HT := Lib.hid ht; clear ht
        dsimp only [encS]
        by_cases hq : t = l
        · have e1 : (t == l) = true := by simp [hq]
          have HQ := Lib.hid hq; clear hq
          go_wp2_with fail
          have hB2 := setCell_row (setCell_row (row := [.slice none 0 0, .int .i64 0]) HM2.out.1 0 (.slice A p.length c)) 1 (.int .i64 n)
          have m2 : Mod (fun k => k = w.heap.size) w2 ((w2.setCell ⟨w.heap.size, 0, none⟩ (.slice A p.length c)).setCell ⟨w.heap.size, 1, none⟩ (.int .i64 n)) := Mod.setCell (a := ⟨w.heap.size, 1, none⟩) (Mod.setCell (a := ⟨w.heap.size, 0, none⟩) (Mod.refl (fun k => k = w.heap.size) w2) (.inl rfl) _) (.inl rfl) _
          have hge : ∀ k, (Value.slice A p.length c).ownBlock = some k → w.heap.size + 2 ≤ k := fun k hk => (own_cells HP.out.2.1.2.2.1 hk).1
          refine get_leave hB2 _ rfl rfl _ ⟨?_, .inr ⟨p, n, A, c, by unfold getB; rw [HP.out.1]; dsimp only; rw [if_pos ⟨hf, HT.out.symm.trans HQ.out⟩], rfl, ?_⟩⟩
          · exact HM2.out.2.2.2.trans m2 (fun k hk => .inr (by omega))
          · exact Rd.mono (Rd.mod HM2.out.2.2.1 m2 (fun k hk => by have := hge k hk.1.1; omega)) (fun k hk => by have := hge k hk.1.1; omega)
        · have e1 : (t == l) = false := by simp [hq]
          have HQ := Lib.hid hq; clear hq
          go_wp2_with fail
          have hB2 := setCell_row (setCell_row (row := [.slice none 0 0, .int .i64 0]) HM2.out.1 0 (.slice none 0 0)) 1 (.int .i64 0)
          refine get_leave hB2 _ rfl rfl _ ⟨?_, .inl ⟨by unfold getB; rw [HP.out.1]; dsimp only; rw [if_neg]; rintro ⟨-, h⟩; exact HQ.out (HT.out.trans h), rfl⟩⟩
          exact (HM2.out.2.2.2.setCell (.inr (by simp)) _).setCell (.inr (by simp)) _
set_option maxRecDepth 100000 in
set_option maxHeartbeats 1000000 in
theorem refcomparew_any (a b : List UInt8) (ha : a.length ≤ 1100000) (hb : b.length ≤ 1100000) (w : World) :
    Calls Tryz.prog 73 #[encS a, encS b] w fun r w' => r = .returned (.int .i64 (cmpB a b)) ∧ Mod (fun _ => False) w w' := by
  obtain ⟨z, hz⟩ : ∃ z, z = cmpB a b := ⟨_, rfl⟩
  rw [← hz]
  have HZ := Lib.hid hz; clear hz
  unfold encS
  go_enter Tryz.func73, Tryz.ntmps73
  go_wp2_with fail
  refine (getw_any a ha w).mono ?_
  rintro r w1 ⟨hm1, hr1⟩
  rw [getB_eq] at hr1
  have HM1 := Lib.hid hm1; clear hm1
  rcases hr1 with ⟨hpa, rfl⟩ | ⟨p, m, A, c, hpa, rfl, hp⟩
  · go_wp2_with fail
    refine (getw_any b hb _).mono ?_
    rintro r w2 ⟨hm2, hr2⟩
    rw [getB_eq] at hr2
    have HM2 := Lib.hid (tr0 (HM1.out.alloc _) hm2); clear hm2
    rcases hr2 with ⟨hpb, rfl⟩ | ⟨q, n, A2, c2, hpb, rfl, hq⟩
    · go_wp2_with fail
      · go_ret
        have h1 : Op.bytesLess a b = true := by assumption
        have : z = -1 := by rw [HZ.out, cmpB_ref_none hpa hpb, h1]; rfl
        subst this
        exact ⟨rfl, HM2.out.alloc _⟩
      · go_ret
        have h1 : Op.bytesLess a b = false := by assumption
        have h2 : (a == b) = true := by assumption
        have : z = 0 := by rw [HZ.out, cmpB_ref_none hpa hpb, h1]; simp at h2; simp [h2]
        subst this
        exact ⟨rfl, HM2.out.alloc _⟩
      · go_ret
        have h1 : Op.bytesLess a b = false := by assumption
        have h2 : (a == b) = false := by assumption
        have : z = 1 := by rw [HZ.out, cmpB_ref_none hpa hpb, h1]; simp at h2; simp [h2]
        subst this
        exact ⟨rfl, HM2.out.alloc _⟩
    · clear hq
      have hz : z = 1 := by rw [HZ.out]; unfold cmpB; rw [hpa, hpb]
      subst hz
      have hne : (a == b) = false := by
        simp only [beq_eq_false_iff_ne, ne_eq]
        rintro rfl; rw [hpa] at hpb; cases hpb
      go_wp2_with fail
      go_ret
      exact ⟨rfl, HM2.out.alloc _⟩
  · have HP := Lib.hid hp; clear hp
    go_wp2_with fail
    refine (getw_any b hb _).mono ?_
    rintro r w2 ⟨hm2, hr2⟩
    rw [getB_eq] at hr2
    have hblk := (hm2.block w1.heap.size (by rw [World.size_alloc]; omega) id).trans (World.alloc_heap_new w1 _)
    have hpr := Rd.mod (Rd.mod (Rd.bound HP.out) ((Mod.refl (fun _ => False) w1).alloc (.cells #[.slice A p.length c, .int .i64 m] 78)) (fun _ _ => id)) hm2 (fun _ _ => id)
    have HM2 := Lib.hid (And.intro (tr0 (HM1.out.alloc _) hm2) (And.intro hblk hpr)); clear hm2 hblk hpr
    rcases hr2 with ⟨hpb, rfl⟩ | ⟨q, n, A2, c2, hpb, rfl, hq⟩
    · have hz : z = -1 := by rw [HZ.out]; unfold cmpB; rw [hpa, hpb]
      subst hz
      go_wp2_with fail
      go_ret
      exact ⟨rfl, HM2.out.1.alloc _⟩
    · have HQ := Lib.hid hq; clear hq
      have x0 : (w2.alloc (.cells #[.slice A2 q.length c2, .int .i64 n] 78)).cell? ⟨w1.heap.size, 0, none⟩ = some (.slice A p.length c) := cell_alloc_l _ (by rw [Lib.cell_of_heap HM2.out.2.1]; rfl)
      have x1 : (w2.alloc (.cells #[.slice A2 q.length c2, .int .i64 n] 78)).cell? ⟨w1.heap.size, 1, none⟩ = some (.int .i64 m) := cell_alloc_l _ (by rw [Lib.cell_of_heap HM2.out.2.1]; rfl)
      go_wp2_with fail
      refine (ahead_any A c A2 c2 p q m n _ _ _ (Rd.mod HM2.out.2.2 ((Mod.refl (fun _ => False) w2).alloc (.cells #[.slice A2 q.length c2, .int .i64 n] 78)) (fun _ _ => id)) (Rd.mod (Rd.bound HQ.out) ((Mod.refl (fun _ => False) w2).alloc (.cells #[.slice A2 q.length c2, .int .i64 n] 78)) (fun _ _ => id))).mono ?_
      rintro r w3 ⟨rfl, hm3⟩
      have HM3 := Lib.hid (tr0 (HM2.out.1.alloc _) hm3); clear hm3 x0 x1
      have hzz := HZ.out
      rw [cmpB_ref_some hpa hpb] at hzz
      cases hah : aheadB p m q n with
      | true =>
        rw [hah] at hzz
        have : z = -1 := hzz
        subst this
        clear hzz
        go_wp2_with fail
        go_ret
        exact ⟨rfl, HM3.out⟩
      | false =>
        rw [hah] at hzz
        by_cases he : a = b
        · have e1 : (a == b) = true := by simp [he]
          have : z = 0 := by rw [hzz]; simp [he]
          subst this
          have HE := Lib.hid he; clear he hzz
          go_wp2_with fail
          go_ret
          exact ⟨rfl, HM3.out⟩
        · have e1 : (a == b) = false := by simp [he]
          have : z = 1 := by rw [hzz]; simp [he]
          subst this
          have HE := Lib.hid he; clear he hzz
          go_wp2_with fail
          go_ret
          exact ⟨rfl, HM3.out⟩
set_option maxRecDepth 100000 in
set_option maxHeartbeats 1000000 in
theorem isCatw_any (s : List UInt8) (hs : s.length ≤ 1100000) (w : World) :
    Calls Tryz.prog 93 #[.string ⟨s.toArray⟩] w fun r w' => r = .returned (.bool (rightB s)) ∧ Mod (fun _ => False) w w' := by
  have hg := getw_any s hs w
  rw [getB_eq] at hg
  unfold encS at hg
  obtain ⟨z, hz⟩ : ∃ z, z = rightB s := ⟨_, rfl⟩
  rw [← hz]
  unfold rightB at hz
  have HG := Lib.hid (And.intro hg hz); clear hg hz
  go_enter Tryz.func93, Tryz.ntmps93
  go_wp2_with fail
  refine HG.out.1.mono ?_
  rintro r w1 ⟨hm, ⟨hn, rfl⟩ | ⟨p, n, A, c, hn, rfl, -⟩⟩
  · have hzf : z = false := by rw [HG.out.2, hn]; rfl
    subst hzf
    have H1 := Lib.hid hm; clear hm hn
    go_wp2_with fail
    go_ret
    exact ⟨rfl, H1.out.alloc _⟩
  · have hzf : z = true := by rw [HG.out.2, hn]; rfl
    subst hzf
    have H1 := Lib.hid hm; clear hm hn
    go_wp2_with fail
    go_ret
    exact ⟨rfl, H1.out.alloc _⟩
set_option maxRecDepth 100000 in
set_option maxHeartbeats 800000 in
theorem refrightw_any (A : Option Addr) (n c : Nat) (l : List Entry) (ok : Nat → Prop) (w : World) (h : labR.rel w ok [.slice A n c] l) (hb : ∀ e ∈ l, (nm e).length ≤ 1100000) :
    Calls Tryz.prog 49 #[.slice A n c] w fun r w' => r = .returned (.bool (rightLB l)) ∧ Mod (fun _ => False) w w' := by
  obtain ⟨rfl, hcap, -, hbig, -, hrow⟩ := lab_row h
  obtain ⟨z, hz⟩ : ∃ z, z = rightLB l := ⟨_, rfl⟩
  rw [← hz]
  have H0 := Lib.hid (And.intro hb (And.intro hrow hz)); clear hb hrow h hz
  go_enter Tryz.func49, Tryz.ntmps49
  by_cases h8 : 8 < l.length
  · have e1 : decide ((8 : Int) < (l.length : Int)) = true := by simp; omega
    have hzf : z = false := by rw [H0.out.2.2]; exact rightLB_no fun hr => by have := hr.len; omega
    subst hzf
    go_wp2_with fail
    go_ret
    exact ⟨rfl, .refl _ _⟩
  have e1 : decide ((8 : Int) < (l.length : Int)) = false := by simp; omega
  go_wp2_with fail
  go_loopg [9] l.length (fun f si wr => ∃ i : Nat, si = .int .i64 i ∧ i + f = l.length ∧ (∀ e ∈ l.take i, rightB (nm e) = true ∧ 0 ≤ e.level ∧ e.level ≤ 3 ∧ e.level ≠ 1) ∧ (l.take i).Pairwise ltE ∧ Mod (fun _ => False) w wr)
  case atStart => exact ⟨0, rfl, by omega, by simp, by simp, .refl _ _⟩
  case round =>
    obtain ⟨i, rfl, hi, heach, hpair, hmod⟩ := hrel
    by_cases hlt : i < l.length
    · obtain ⟨d, m, hx⟩ : ∃ d m, l[i]? = some (ent d m) := by
        obtain ⟨d, m, e⟩ := ent_cases l[i]
        exact ⟨d, m, by rw [← e]; simp [hlt]⟩
      have hrow := H0.out.2.1.step (w1 := wr) (ok1 := ok) (fun k hk hl => ⟨hk, hmod.block k hl id⟩)
      obtain ⟨ad, rfl, -, hc0, hc1, hdl, hmr⟩ := row_ent hrow hx
      have hd6 : d.length ≤ 1100000 := by have := H0.out.1 _ (List.mem_of_getElem? hx); rwa [nm_ent] at this
      have htk : l.take (i + 1) = l.take i ++ [ent d m] := by rw [List.take_add_one, hx]; rfl
      have hcat := isCatw_any d hd6 wr
      have HX := Lib.hid (And.intro hi (And.intro heach (And.intro hpair (And.intro hmod (And.intro hx (And.intro htk hrow)))))); clear hi heach hpair hmod hx htk hrow
      cases hb : rightB d with
      | false =>
        rw [hb] at hcat
        have HC := Lib.hid hcat; clear hcat
        have hzf : z = false := by rw [H0.out.2.2]; exact right_no HX.out.2.2.2.2.1 (.inl hb)
        subst hzf
        clear hb
        go_wp2_with fail
        refine HC.out.mono ?_
        rintro r w2 ⟨rfl, hm2⟩
        have H2 := Lib.hid (tr0 HX.out.2.2.2.1 hm2); clear hm2
        go_wp2_with fail
        go_ret
        exact ⟨rfl, H2.out⟩
      | true =>
        rw [hb] at hcat
        have HC := Lib.hid hcat; clear hcat
        have HB := Lib.hid hb; clear hb
        go_wp2_with fail
        refine HC.out.mono ?_
        rintro r w2 ⟨rfl, hm2⟩
        replace hc0 := cell_step hc0 (fun hl => hm2.block _ hl id)
        replace hc1 := cell_step hc1 (fun hl => hm2.block _ hl id)
        have H2 := Lib.hid (And.intro (tr0 HX.out.2.2.2.1 hm2) hm2); clear hm2
        by_cases hm : m = 0 ∨ m = 2 ∨ m = 3
        case neg =>
          have hzf : z = false := by rw [H0.out.2.2]; exact right_no HX.out.2.2.2.2.1 (.inr (by omega))
          subst hzf
          have e2 : (m != 0) = true := by simp; omega
          have e3 : (m != 2) = true := by simp; omega
          have e4 : (m != 3) = true := by simp; omega
          clear hm
          go_wp2_with fail
          go_ret
          exact ⟨rfl, H2.out.1⟩
        case pos =>
          have hlev : 0 ≤ m ∧ m ≤ 3 ∧ m ≠ 1 := by omega
          have HM := Lib.hid hlev; clear hlev
          by_cases hi0 : i = 0
          · subst hi0
            have ha0 : ad.add (0 * 2) = ad := by simp [Addr.add]
            rw [ha0] at hc0 hc1
            rcases hm with rfl | rfl | rfl
            all_goals
              go_wp2_with fail
              refine wp_region_mod (by kernel_rfl) (by kernel_rfl) ?_
              refine wpQuiet_hide (fun R hR => ?_)
              iterate 17 (first
                | ((first | refine wpQuiet_none hR rfl (fun K hK => ?_) | refine wpQuiet_take hR (by rfl) (fun K hK => ?_)); clear hR R; go_simp; refine hK _ (fun R hR => ?_); clear hK K)
                | (refine wpQuiet_skip hR (by rfl) (fun K hK => ?_); clear hR R; go_simp; refine hK _ (fun R hR => ?_); clear hK K))
              refine wpQuiet_end hR ?_
              clear hR R
              rintro _ ⟨W, rfl⟩
              have HW := Lib.hid (H2.out.1.trans W.2 (fun _ h => h.elim))
              clear hc0 hc1
              go_wp2_with fail
              go_roundg (gk - 1)
              case measure => have := HX.out.1; omega
              case rel =>
                obtain ⟨hi, heach, hpair, hmod, hx, htk, hrow⟩ := HX.out
                refine ⟨0 + 1, by go_num, by omega, ?_, take_pair hx hpair (fun k2 y hk hy => ?_), HW.out⟩
                · rw [htk]
                  intro e he
                  rcases List.mem_append.1 he with he | he
                  · exact heach e he
                  · rw [List.mem_singleton.1 he, nm_ent, lev_ent]
                    exact ⟨HB.out, HM.out⟩
                · omega
          · obtain ⟨k, hk⟩ : ∃ k, i = k + 1 := ⟨i - 1, by omega⟩
            obtain ⟨d2, m2, hy⟩ : ∃ d m, l[k]? = some (ent d m) := by
              obtain ⟨d, m, e⟩ := ent_cases (l[k]'(by omega))
              exact ⟨d, m, by rw [← e]; exact List.getElem?_eq_getElem (by omega)⟩
            obtain ⟨ad', hA, -, hp0, hp1, hdl2, -⟩ := row_ent HX.out.2.2.2.2.2.2 hy
            obtain rfl : ad = ad' := by injection hA
            have hd62 : d2.length ≤ 1100000 := by have := H0.out.1 _ (List.mem_of_getElem? hy); rwa [nm_ent] at this
            replace hp0 := cell_step hp0 (fun hl => H2.out.2.block _ hl id)
            have hwr : IntKind.i64.wrap ((i : Int) - 1) = (k : Int) := by rw [IntKind.wrap_i64]; omega
            have hkl : k < l.length := by omega
            have q0 : ∀ W : ModW w2, W.1.cell? (ad.add (k * 2)) = some (.string ⟨d2.toArray⟩) := fun W => ModW.cell hp0 W
            have q2 : ∀ W : ModW w2, W.1.cell? (ad.add (i * 2)) = some (.string ⟨d.toArray⟩) := fun W => ModW.cell hc0 W
            have hcm := fun W => refcomparew_any d2 d hd62 hd6 W
            obtain ⟨zc, hzc⟩ : ∃ zc, zc = cmpB d2 d := ⟨_, rfl⟩
            have hcv := cmpB_val d2 d
            rw [← hzc] at hcv
            simp only [← hzc] at hcm
            unfold encS at hcm
            have e5 : decide (0 < i) = true := by simp; omega
            have hi1 : 0 < i := by omega
            have HA := Lib.hid hcm
            have HY := Lib.hid (And.intro hy (And.intro hk hzc))
            clear hcm hy hA hp0 hp1 hk hzc hi0 hd62
            by_cases hneg : zc = -1
            · subst hneg
              clear hcv
              rcases hm with rfl | rfl | rfl
              all_goals
                go_wp2_with fail
                refine wp_region_mod (by kernel_rfl) (by kernel_rfl) ?_
                refine wpQuiet_hide (fun R hR => ?_)
                iterate 17 (first
                  | ((first | refine wpQuiet_none hR rfl (fun K hK => ?_) | refine wpQuiet_take hR (by rfl) (fun K hK => ?_)); clear hR R; go_simp; first | (refine hK _ (fun R hR => ?_); clear hK K) | (apply Exists.intro; refine ⟨fun _ => ?_, hK _ (fun R hR => ?_)⟩; (go_at_call 73; refine quiet_mod (HA.out _)); clear hK K))
                  | (refine wpQuiet_skip hR (by rfl) (fun K hK => ?_); clear hR R; go_simp; refine hK _ (fun R hR => ?_); clear hK K))
                refine wpQuiet_end hR ?_
                clear hR R
                rintro _ ⟨W, rfl⟩
                have HW := Lib.hid (H2.out.1.trans W.2 (fun _ h => h.elim))
                clear hc0 hc1 q0 q2
                go_wp2_with fail
                go_roundg (gk - 1)
                case measure => have := HX.out.1; omega
                case rel =>
                  obtain ⟨hi, heach, hpair, hmod, hx, htk, hrow⟩ := HX.out
                  refine ⟨i + 1, by go_num, by omega, ?_, take_pair hx hpair (fun k2 y hk hy => ?_), HW.out⟩
                  · rw [htk]
                    intro e he
                    rcases List.mem_append.1 he with he | he
                    · exact heach e he
                    · rw [List.mem_singleton.1 he, nm_ent, lev_ent]
                      exact ⟨HB.out, HM.out⟩
                  · obtain ⟨h1, h2, h3⟩ := HY.out
                    obtain rfl : k = k2 := by omega
                    rw [h1] at hy
                    obtain rfl := Option.some.inj hy
                    unfold ltE ltB
                    rw [nm_ent, nm_ent, ← h3]
                    decide
            · have e6 : (zc != -1) = true := by simp [hneg]
              have hzf : z = false := by rw [H0.out.2.2]; have h1 := HX.out.2.2.2.2.1; rw [HY.out.2.1] at h1; exact right_no2 HY.out.1 h1 (by rw [← HY.out.2.2]; omega)
              subst hzf
              clear hcv hneg
              rcases hm with rfl | rfl | rfl
              all_goals
                go_wp2_with fail
                refine wp_region_mod (by kernel_rfl) (by kernel_rfl) ?_
                refine wpQuiet_hide (fun R hR => ?_)
                iterate 17 (first
                  | ((first | refine wpQuiet_none hR rfl (fun K hK => ?_) | refine wpQuiet_take hR (by rfl) (fun K hK => ?_)); clear hR R; go_simp; first | (refine hK _ (fun R hR => ?_); clear hK K) | (apply Exists.intro; refine ⟨fun _ => ?_, hK _ (fun R hR => ?_)⟩; (go_at_call 73; refine quiet_mod (HA.out _)); clear hK K))
                  | (refine wpQuiet_skip hR (by rfl) (fun K hK => ?_); clear hR R; go_simp; refine hK _ (fun R hR => ?_); clear hK K))
                refine wpQuiet_end hR ?_
                clear hR R
                rintro _ ⟨W, rfl⟩
                have HW := Lib.hid (H2.out.1.trans W.2 (fun _ h => h.elim))
                clear hc0 hc1 q0 q2
                go_wp2_with fail
                go_ret
                exact ⟨rfl, HW.out⟩
    · have hie : l.take i = l := List.take_of_length_le (by omega)
      rw [hie] at heach hpair
      have hzt : z = true := by rw [H0.out.2.2]; exact rightLB_iff.2 ⟨by omega, heach, asc_iff.2 hpair⟩
      subst hzt
      have HX := Lib.hid hmod; clear hmod heach hpair hie hi
      go_wp2_with fail
      go_ret
      exact ⟨rfl, HX.out⟩
end Go.Proofs.YthhepnaanjicjaaGreatDoor

/- Layer 7, the document's answer: Flows, Alters. -/
namespace Go.Proofs.YthhepnaanjicjaaGreatDoor
open Go.RowKit Go.Shelf
set_option linter.unusedVariables false
noncomputable def okAt (a b : List Entry) (l : List Nm) (x : List Entry) : Bool := rightLB a && rightLB b && rightO l && x.all fun e => l.contains (nm e) || decide (levelL a (nm e) ≤ levelL b (nm e))
theorem okAt_all (a b : List Entry) (l : List Nm) : okAt a b l (a ++ b) = flowsOB a b l := by
  rw [Bool.eq_iff_iff, flowsOB_iff]
  unfold okAt
  simp only [Bool.and_eq_true, rightLB_iff, rightO_iff, List.all_eq_true, Bool.or_eq_true, decide_eq_true_eq, List.contains_iff_mem]
  constructor
  · rintro ⟨⟨⟨h1, h2⟩, h3⟩, h4⟩
    exact (flowsO_ref h1 h2 h3).2 fun e he hc => (h4 e he).resolve_left hc
  · intro h
    refine ⟨⟨⟨h.ra, h.rb⟩, h.rl⟩, fun e he => ?_⟩
    by_cases hc : nm e ∈ l
    · exact .inl hc
    · exact .inr (h.le _ hc)
theorem okAt_snoc (a b : List Entry) (l : List Nm) (x : List Entry) (e : Entry) : okAt a b l (x ++ [e]) = (okAt a b l x && (l.contains (nm e) || decide (levelL a (nm e) ≤ levelL b (nm e)))) := by
  unfold okAt
  rw [List.all_append]
  simp [Bool.and_assoc]
set_option maxRecDepth 100000 in
set_option maxHeartbeats 4000000 in
theorem refflows7_any (A : Option Addr) (n c : Nat) (A2 : Option Addr) (n2 c2 : Nat) (A3 : Option Addr) (n3 c3 : Nat) (a b : List Entry) (l : List Nm) (ok ok2 ok3 : Nat → Prop) (w : World) (h : labR.rel w ok [.slice A n c] a) (h2 : labR.rel w ok2 [.slice A2 n2 c2] b) (h3 : nmsR.rel w ok3 [.slice A3 n3 c3] l)
    (hal : a.length ≤ 30) (hbl : b.length ≤ 30) (hax : ∀ e ∈ a, (nm e).length ≤ 1100000) (hbx : ∀ e ∈ b, (nm e).length ≤ 1100000) (hlx : ∀ x ∈ l, x.length ≤ 1000000) :
    Calls Tryz.prog 14 #[.slice A n c, .slice A2 n2 c2, .slice A3 n3 c3] w fun r w' => r = .returned (.bool (flowsOB a b l)) ∧ Mod (fun _ => False) w w' := by
  obtain ⟨rfl, hcap, -, hbig, hnil, hrow⟩ := lab_row (Rd.bound h)
  obtain ⟨rfl, hcap2, -, hbig2, hnil2, hrow2⟩ := lab_row (Rd.bound h2)
  obtain rfl := (nms_row h3).1
  have RA := fun W (hW : Mod (fun _ => False) w W) => Rd.mod h hW (fun _ _ => id)
  have RB := fun W (hW : Mod (fun _ => False) w W) => Rd.mod h2 hW (fun _ _ => id)
  have RL := fun W (hW : Mod (fun _ => False) w W) => Rd.mod h3 hW (fun _ _ => id)
  have QA := fun W (hW : Mod (fun _ => False) w W) => refrightw_any A a.length c a _ W (RA W hW) hax
  have QB := fun W (hW : Mod (fun _ => False) w W) => refrightw_any A2 b.length c2 b _ W (RB W hW) hbx
  have QL := fun W (hW : Mod (fun _ => False) w W) => refright7_any A3 l.length c3 l _ W (RL W hW) hlx
  have LA := fun W (hW : Mod (fun _ => False) w W) s => reflevel_any A a.length c a s _ W (RA W hW)
  have LB := fun W (hW : Mod (fun _ => False) w W) s => reflevel_any A2 b.length c2 b s _ W (RB W hW)
  have HS := fun W (hW : Mod (fun _ => False) w W) s => refhas7_any A3 l.length c3 l s _ W (RL W hW)
  obtain ⟨p, hp⟩ : ∃ p, p = rightLB a := ⟨_, rfl⟩
  obtain ⟨q, hq⟩ : ∃ q, q = rightLB b := ⟨_, rfl⟩
  obtain ⟨t, ht⟩ : ∃ t, t = rightO l := ⟨_, rfl⟩
  have h0 : okAt a b l [] = (p && q && t) := by unfold okAt; rw [hp, hq, ht]; simp
  obtain ⟨z, hz⟩ : ∃ z, z = flowsOB a b l := ⟨_, rfl⟩
  rw [← hz]
  rw [← okAt_all] at hz
  simp only [← hp] at QA
  simp only [← hq] at QB
  simp only [← ht] at QL
  have H0 := Lib.hid (And.intro QA (And.intro QB (And.intro QL (And.intro LA (And.intro LB (And.intro HS (And.intro hz (And.intro h0 (And.intro hrow (And.intro hrow2 (And.intro hnil hnil2))))))))))); clear h h2 h3 RA RB RL QA QB QL LA LB HS hz h0 hrow hrow2 hnil hnil2 hax hbx hlx hp hq ht
  go_enter Tryz.func14, Tryz.ntmps14
  go_upto_region 1 with fail
  go_cut [7] (fun s7 wx => s7 = .bool (p && q && t) ∧ Mod (fun _ => False) w wx)
  case first =>
    go_wp2_with fail
    refine (H0.out.1 w (.refl _ _)).mono ?_
    rintro r w1 ⟨rfl, hm1⟩
    have H1 := Lib.hid hm1; clear hm1
    cases p with
    | false =>
      go_wp2_with fail
      go_meet
      exact ⟨rfl, H1.out⟩
    | true =>
      go_wp2_with fail
      refine (H0.out.2.1 w1 H1.out).mono ?_
      rintro r w2 ⟨rfl, hm2⟩
      have H2 := Lib.hid (tr0 H1.out hm2); clear hm2
      cases q with
      | false =>
        go_wp2_with fail
        go_meet
        exact ⟨rfl, H2.out⟩
      | true =>
        go_wp2_with fail
        refine (H0.out.2.2.1 w2 H2.out).mono ?_
        rintro r w3 ⟨rfl, hm3⟩
        have H3 := Lib.hid (tr0 H2.out hm3); clear hm3
        go_wp2_with fail
        go_meet
        exact ⟨by simp, H3.out⟩
  case rest =>
    obtain ⟨rfl, hmc⟩ := hcut
    rw [← H0.out.2.2.2.2.2.2.2.1]
    obtain ⟨w2, hw2⟩ : ∃ w2, w2 = wc := ⟨_, rfl⟩
    rw [← hw2] at hmc ⊢
    clear hw2
    have hs2 := hmc.size
    have hrA := Rd.RowOf.weak (H0.out.2.2.2.2.2.2.2.2.1.step (w1 := w2.alloc (.cells #[] 63)) (ok1 := fun k => ((ok k ∨ ok2 k) ∧ k < w.heap.size) ∧ some k ≠ (Value.slice (some ⟨w2.heap.size, 0, none⟩) 0 0).ownBlock) fun k hk hl => ⟨⟨⟨.inl hk.1, hk.2⟩, fun e => by simp only [Value.ownBlock, Option.some.injEq] at e; have := hk.2; omega⟩, (hmc.alloc _).block k hl id⟩)
    have hnil := H0.out.2.2.2.2.2.2.2.2.2.2.1
    have H2 := Lib.hid (And.intro hmc hrA); clear hmc hrA
    go_wp2_with (at_builtin; refine append_all2 (R := EntryR) w2.heap.size rfl _ _ 22 23 63 (.agg zeroEnt.toArray) 24 rfl Tryz.underlying22 Tryz.underlying23 Tryz.info_ent3 rfl (.slice (some ⟨w2.heap.size, 0, none⟩) 0 0) [] a (fun k => (ok k ∨ ok2 k) ∧ k < w.heap.size) A c rfl rfl ?c1 H2.out.2 hnil (by simp) (by simp only [List.length_nil]; omega) (by decide) ?_)
    case c1 => exact ⟨[], World.ownsRow_made w2 #[] 0 (Nat.le_refl _) (by decide) rfl, fun j x h => by simp at h⟩
    intro A5 c5 w3 hO3 hm3 hn3
    have hm23 : Mod (fun _ => False) w2 w3 := ((Mod.refl _ w2).alloc (.cells #[] 63)).trans hm3 (fun k hk => .inr (by simp only [Value.ownBlock, Option.some.injEq] at hk; omega))
    have hm03 := tr0 H2.out.1 hm23
    have hs3 := hm23.size
    have hlow : ∀ k, (Value.slice A5 a.length c5).ownBlock = some k → w2.heap.size ≤ k := fun k hk => by obtain ⟨cells, hown, _⟩ := hO3; exact (own_lt hown k hk).1
    have hrB := Rd.RowOf.weak (H0.out.2.2.2.2.2.2.2.2.2.1.step (w1 := w3) (ok1 := fun k => ((ok k ∨ ok2 k) ∧ k < w.heap.size) ∧ some k ≠ (Value.slice A5 a.length c5).ownBlock) fun k hk hl => ⟨⟨⟨.inr hk.1, hk.2⟩, fun e => by have := hlow k e.symm; have := hk.2; omega⟩, hm03.block k hl id⟩)
    have H3 := Lib.hid (And.intro hO3 (And.intro hm03 (And.intro hs3 hrB))); clear hO3 hm03 hs3 hrB hm3 hn3 hlow hm23 hnil
    have hnil2 := H0.out.2.2.2.2.2.2.2.2.2.2.2
    go_wp2_with (at_builtin; refine append_all2 (R := EntryR) w2.heap.size rfl _ _ 22 23 63 (.agg zeroEnt.toArray) 24 rfl Tryz.underlying22 Tryz.underlying23 Tryz.info_ent3 rfl (.slice A5 a.length c5) a b (fun k => (ok k ∨ ok2 k) ∧ k < w.heap.size) A2 c2 rfl rfl H3.out.1 H3.out.2.2.2 hnil2 H3.out.2.2.1 (by omega) (by decide) ?_)
    intro A6 c6 w4 hO4 hm4 hn4
    have hm04 : Mod (fun _ => False) w w4 := H3.out.2.1.trans hm4 (fun k hk => .inr (by obtain ⟨cells, hown, _⟩ := H3.out.1; have := (own_lt hown k hk).1; omega))
    obtain ⟨x, hx⟩ : ∃ x, x = a ++ b := ⟨_, rfl⟩
    have hxl : a.length + b.length = x.length := by rw [hx, List.length_append]
    have hzz := H0.out.2.2.2.2.2.2.1
    rw [← hx] at hO4 hzz
    rw [hxl] at hO4 ⊢
    have hread := (lab_row (hO4.reads (bytes := 24) (by omega))).2.2.2.2.2
    have LA := fun W (hW : Mod (fun _ => False) w4 W) => H0.out.2.2.2.1 W (tr0 hm04 hW)
    have LB := fun W (hW : Mod (fun _ => False) w4 W) => H0.out.2.2.2.2.1 W (tr0 hm04 hW)
    have HS := fun W (hW : Mod (fun _ => False) w4 W) => H0.out.2.2.2.2.2.1 W (tr0 hm04 hW)
    have H4 := Lib.hid (And.intro hm04 (And.intro hread (And.intro hzz (And.intro LA (And.intro LB HS))))); clear hm04 hread hzz LA LB HS hO4 hm4 hn4 hx H3 hs2 hnil2
    go_wp2_with fail
    go_loopg [7, 26] x.length (fun f s7 si wr => ∃ i : Nat, si = .int .i64 i ∧ s7 = .bool (okAt a b l (x.take i)) ∧ i + f = x.length ∧ Mod (fun _ => False) w4 wr)
    case atStart => exact ⟨0, rfl, by simp, by omega, .refl _ _⟩
    case round =>
      obtain ⟨i, rfl, rfl, hi, hmod⟩ := hrel
      obtain ⟨y, hy⟩ : ∃ y, y = okAt a b l (x.take i) := ⟨_, rfl⟩
      rw [← hy]
      by_cases hlt : i < x.length
      · obtain ⟨d, m, hx⟩ : ∃ d m, x[i]? = some (ent d m) := by
          obtain ⟨d, m, e⟩ := ent_cases x[i]
          exact ⟨d, m, by rw [← e]; simp [hlt]⟩
        obtain ⟨ad, rfl, -, hc0, hc1, hdl, -⟩ := row_ent (H4.out.2.1.step (w1 := wr) (ok1 := fun _ => True) (fun k hk hl => ⟨trivial, hmod.block k hl (fun h => h)⟩)) hx
        obtain ⟨pa, hpa⟩ : ∃ pa, pa = levelL a d := ⟨_, rfl⟩
        obtain ⟨pb, hpb⟩ : ∃ pb, pb = levelL b d := ⟨_, rfl⟩
        obtain ⟨hs, hhs⟩ : ∃ hs, hs = l.contains d := ⟨_, rfl⟩
        have htk : okAt a b l (x.take (i + 1)) = (y && (hs || decide (pa ≤ pb))) := by
          rw [List.take_add_one, hx, Option.toList_some, okAt_snoc, nm_ent, hy, hpa, hpb, hhs]
        have q1 := fun W hW => H4.out.2.2.2.1 W hW d
        have q2 := fun W hW => H4.out.2.2.2.2.1 W hW d
        have q3 := fun W hW => H4.out.2.2.2.2.2 W hW d
        simp only [← hpa] at q1
        simp only [← hpb] at q2
        simp only [← hhs] at q3
        have HX := Lib.hid (And.intro hi (And.intro hmod (And.intro q1 (And.intro q2 (And.intro q3 htk))))); clear hi hmod q1 q2 q3 htk hpa hpb hhs hy hx
        go_wp2_with fail
        obtain ⟨W1, hW1⟩ : ∃ W1, W1 = wr.alloc (.cells #[.string ⟨d.toArray⟩, .int .i64 m] 63) := ⟨_, rfl⟩
        rw [← hW1]
        have hmW : Mod (fun _ => False) w4 W1 := by rw [hW1]; exact HX.out.2.1.alloc _
        obtain ⟨k0, k1⟩ := cells2 wr (.string ⟨d.toArray⟩) (.int .i64 m) 63
        rw [← hW1] at k0 k1
        obtain ⟨g, hg'⟩ : ∃ g, g = wr.heap.size := ⟨_, rfl⟩
        rw [← hg'] at k0 k1 ⊢
        have c0 : ∀ W : ModW W1, W.1.cell? ⟨g, 0, none⟩ = some (.string ⟨d.toArray⟩) := fun W => ModW.cell k0 W
        have HE := Lib.hid hmW
        clear hW1 hg' hmW hc0 hc1 k0 k1
        cases hs with
        | true =>
          refine wp_region_mod (by kernel_rfl) (by kernel_rfl) ?_
          refine wpQuiet_hide (fun R hR => ?_)
          iterate 16 (first
            | ((first | refine wpQuiet_none hR rfl (fun K hK => ?_) | refine wpQuiet_take hR (by rfl) (fun K hK => ?_)); clear hR R; go_simp; first | (refine hK _ (fun R hR => ?_); clear hK K) | (apply Exists.intro; refine ⟨fun _ => ?_, hK _ (fun R hR => ?_)⟩; (first | (go_at_call_of 30 ((#[.slice A3 l.length c3, .string ⟨d.toArray⟩] : Array Value)); refine quiet_mod (HX.out.2.2.2.2.1 _ (HE.out.trans (Subtype.property _) (fun _ h => h.elim)))) | (go_at_call_of 51 ((#[.slice A a.length c, .string ⟨d.toArray⟩] : Array Value)); refine quiet_mod (HX.out.2.2.1 _ (HE.out.trans (Subtype.property _) (fun _ h => h.elim)))) | (go_at_call_of 51 ((#[.slice A2 b.length c2, .string ⟨d.toArray⟩] : Array Value)); refine quiet_mod (HX.out.2.2.2.1 _ (HE.out.trans (Subtype.property _) (fun _ h => h.elim))))); clear hK K))
            | (refine wpQuiet_skip hR (by rfl) (fun K hK => ?_); clear hR R; go_simp; refine hK _ (fun R hR => ?_); clear hK K))
          refine wpQuiet_end hR ?_
          clear hR R
          rintro _ ⟨W, rfl⟩
          clear c0
          obtain ⟨w5, hw5⟩ : ∃ w5, w5 = W.1 := ⟨_, rfl⟩
          have hm5 : Mod (fun _ => False) w4 w5 := by rw [hw5]; exact tr0 HE.out W.2
          rw [← hw5]
          clear hw5 W
          have H6 := Lib.hid hm5; clear hm5
          have HN := Lib.hid HX.out.2.2.2.2.2
          go_wp2_with fail
          go_roundg (gk - 1)
          case measure => have := HX.out.1; omega
          case rel => exact ⟨i + 1, by go_num, by rw [HN.out]; simp, by have := HX.out.1; omega, H6.out⟩
        | false =>
          by_cases hpq : pb < pa
          · have hd : decide (pa ≤ pb) = false := by simp; omega
            have HN := Lib.hid hd; clear hd
            refine wp_region_mod (by kernel_rfl) (by kernel_rfl) ?_
            refine wpQuiet_hide (fun R hR => ?_)
            iterate 16 (first
              | ((first | refine wpQuiet_none hR rfl (fun K hK => ?_) | refine wpQuiet_take hR (by rfl) (fun K hK => ?_)); clear hR R; go_simp; first | (refine hK _ (fun R hR => ?_); clear hK K) | (apply Exists.intro; refine ⟨fun _ => ?_, hK _ (fun R hR => ?_)⟩; (first | (go_at_call_of 30 ((#[.slice A3 l.length c3, .string ⟨d.toArray⟩] : Array Value)); refine quiet_mod (HX.out.2.2.2.2.1 _ (HE.out.trans (Subtype.property _) (fun _ h => h.elim)))) | (go_at_call_of 51 ((#[.slice A a.length c, .string ⟨d.toArray⟩] : Array Value)); refine quiet_mod (HX.out.2.2.1 _ (HE.out.trans (Subtype.property _) (fun _ h => h.elim)))) | (go_at_call_of 51 ((#[.slice A2 b.length c2, .string ⟨d.toArray⟩] : Array Value)); refine quiet_mod (HX.out.2.2.2.1 _ (HE.out.trans (Subtype.property _) (fun _ h => h.elim))))); clear hK K))
              | (refine wpQuiet_skip hR (by rfl) (fun K hK => ?_); clear hR R; go_simp; refine hK _ (fun R hR => ?_); clear hK K))
            refine wpQuiet_end hR ?_
            clear hR R
            rintro _ ⟨W, rfl⟩
            clear c0
            obtain ⟨w5, hw5⟩ : ∃ w5, w5 = W.1 := ⟨_, rfl⟩
            have hm5 : Mod (fun _ => False) w4 w5 := by rw [hw5]; exact tr0 HE.out W.2
            rw [← hw5]
            clear hw5 W
            have H6 := Lib.hid hm5; clear hm5
            go_wp2_with fail
            go_roundg (gk - 1)
            case measure => have := HX.out.1; omega
            case rel => exact ⟨i + 1, by go_num, by rw [HX.out.2.2.2.2.2, HN.out]; simp, by have := HX.out.1; omega, H6.out⟩
          · have hd : decide (pa ≤ pb) = true := by simp; omega
            have HN := Lib.hid hd; clear hd
            refine wp_region_mod (by kernel_rfl) (by kernel_rfl) ?_
            refine wpQuiet_hide (fun R hR => ?_)
            iterate 16 (first
              | ((first | refine wpQuiet_none hR rfl (fun K hK => ?_) | refine wpQuiet_take hR (by rfl) (fun K hK => ?_)); clear hR R; go_simp; first | (refine hK _ (fun R hR => ?_); clear hK K) | (apply Exists.intro; refine ⟨fun _ => ?_, hK _ (fun R hR => ?_)⟩; (first | (go_at_call_of 30 ((#[.slice A3 l.length c3, .string ⟨d.toArray⟩] : Array Value)); refine quiet_mod (HX.out.2.2.2.2.1 _ (HE.out.trans (Subtype.property _) (fun _ h => h.elim)))) | (go_at_call_of 51 ((#[.slice A a.length c, .string ⟨d.toArray⟩] : Array Value)); refine quiet_mod (HX.out.2.2.1 _ (HE.out.trans (Subtype.property _) (fun _ h => h.elim)))) | (go_at_call_of 51 ((#[.slice A2 b.length c2, .string ⟨d.toArray⟩] : Array Value)); refine quiet_mod (HX.out.2.2.2.1 _ (HE.out.trans (Subtype.property _) (fun _ h => h.elim))))); clear hK K))
              | (refine wpQuiet_skip hR (by rfl) (fun K hK => ?_); clear hR R; go_simp; refine hK _ (fun R hR => ?_); clear hK K))
            refine wpQuiet_end hR ?_
            clear hR R
            rintro _ ⟨W, rfl⟩
            clear c0
            obtain ⟨w5, hw5⟩ : ∃ w5, w5 = W.1 := ⟨_, rfl⟩
            have hm5 : Mod (fun _ => False) w4 w5 := by rw [hw5]; exact tr0 HE.out W.2
            rw [← hw5]
            clear hw5 W
            have H6 := Lib.hid hm5; clear hm5
            go_wp2_with fail
            go_roundg (gk - 1)
            case measure => have := HX.out.1; omega
            case rel => exact ⟨i + 1, by go_num, by rw [HX.out.2.2.2.2.2, HN.out]; simp, by have := HX.out.1; omega, H6.out⟩
      · have hie : x.take i = x := List.take_of_length_le (by omega)
        rw [hie, ← H4.out.2.2.1] at hy
        have HX := Lib.hid (And.intro hmod hy); clear hmod hie hi hy
        go_wp2_with fail
        go_ret
        exact ⟨by rw [HX.out.2]; rfl, tr0 H4.out.1 HX.out.1⟩
set_option maxRecDepth 100000 in
theorem refalters7_any (A : Option Addr) (n c : Nat) (A2 : Option Addr) (n2 c2 : Nat) (A3 : Option Addr) (n3 c3 : Nat) (a b : List Entry) (l : List Nm) (ok ok2 ok3 : Nat → Prop) (w : World) (h : labR.rel w ok [.slice A n c] a) (h2 : labR.rel w ok2 [.slice A2 n2 c2] b) (h3 : nmsR.rel w ok3 [.slice A3 n3 c3] l)
    (hal : a.length ≤ 30) (hbl : b.length ≤ 30) (hax : ∀ e ∈ a, (nm e).length ≤ 1100000) (hbx : ∀ e ∈ b, (nm e).length ≤ 1100000) (hlx : ∀ x ∈ l, x.length ≤ 1000000) :
    Calls Tryz.prog 17 #[.slice A n c, .slice A2 n2 c2, .slice A3 n3 c3] w fun r w' => r = .returned (.bool (altersOB a b l)) ∧ Mod (fun _ => False) w w' := by
  have q1 := refflows7_any A n c A2 n2 c2 A3 n3 c3 a b l ok ok2 ok3 w h h2 h3 hal hbl hax hbx hlx
  have q2 := fun W (hW : Mod (fun _ => False) w W) => refflows7_any A2 n2 c2 A n c A3 n3 c3 b a l ok2 ok ok3 W (Rd.mod h2 hW (fun _ _ => id)) (Rd.mod h hW (fun _ _ => id)) (Rd.mod h3 hW (fun _ _ => id)) hbl hal hbx hax hlx
  unfold altersOB
  obtain ⟨p, hp⟩ : ∃ p, p = flowsOB a b l := ⟨_, rfl⟩
  obtain ⟨q, hq⟩ : ∃ q, q = flowsOB b a l := ⟨_, rfl⟩
  rw [← hp] at q1 ⊢
  rw [← hq] at q2 ⊢
  have H0 := Lib.hid (And.intro q1 q2); clear h h2 h3 q1 q2 hp hq
  go_enter Tryz.func17, Tryz.ntmps17
  go_wp2_with fail
  refine H0.out.1.mono ?_
  rintro r w1 ⟨rfl, hm⟩
  have H := Lib.hid hm; clear hm
  cases p with
  | false =>
    go_wp2_with fail
    go_ret
    exact ⟨rfl, H.out⟩
  | true =>
    go_wp2_with fail
    refine (H0.out.2 w1 H.out).mono ?_
    rintro r w2 ⟨rfl, hm⟩
    have H2 := Lib.hid (tr0 H.out hm); clear hm
    go_wp2_with fail
    go_ret
    exact ⟨by simp, H2.out⟩
end Go.Proofs.YthhepnaanjicjaaGreatDoor

/- Layer 7, the laws: OwnsFlows, for names of bounded length. -/
namespace Go.Proofs.YthhepnaanjicjaaGreatDoor
open Go.RowKit Go.Shelf
set_option linter.unusedVariables false
set_option maxRecDepth 100000 in
set_option maxHeartbeats 4000000 in
theorem ownsFlows_mod (A1 : Option Addr) (n1 c1' : Nat) (A2 : Option Addr) (n2 c2' : Nat) (A3 : Option Addr) (n3 c3' : Nat) (a b : List Entry) (l : List Nm) (ok ok2 ok3 : Nat → Prop) (w : World) (h : labR.rel w ok [.slice A1 n1 c1'] a) (h2 : labR.rel w ok2 [.slice A2 n2 c2'] b) (h3 : nmsR.rel w ok3 [.slice A3 n3 c3'] l)
    (hax : ∀ e ∈ a, (nm e).length ≤ 1100000) (hbx : ∀ e ∈ b, (nm e).length ≤ 1100000) (E : Env w) :
    Calls Tryz.prog 3 #[.slice A1 n1 c1', .slice A2 n2 c2', .slice A3 n3 c3'] w fun r w' => r = .returned (.bool true) ∧ Mod (fun _ => False) w w' := by
  obtain rfl := (lab_row h).1
  obtain rfl := (lab_row h2).1
  obtain rfl := (nms_row h3).1
  have RA := fun W (hW : Mod (fun _ => False) w W) => Rd.mod h hW (fun _ _ => id)
  have RB := fun W (hW : Mod (fun _ => False) w W) => Rd.mod h2 hW (fun _ _ => id)
  have RL := fun W (hW : Mod (fun _ => False) w W) => Rd.mod h3 hW (fun _ _ => id)
  have EW := fun W (hW : Mod (fun _ => False) w W) => E.mod0 hW
  have H0 := Lib.hid (And.intro EW (And.intro RA (And.intro RB (And.intro RL (And.intro hax hbx))))); clear E h h2 h3 RA RB RL EW hax hbx
  go_enter Tryz.func3, Tryz.ntmps3
  go_wp2_with fail
  refine (first7_any w (H0.out.1 w (.refl _ _))).mono ?_
  rintro r w1 ⟨rfl, hm1⟩
  have HM := Lib.hid hm1; clear hm1
  cases hll : longO l with
  | true =>
    repeat (go_wp2_with fail; first | (go_at_call_of 12 ((#[.slice A3 l.length c3'] : Array Value)); refine (longO_any A3 l.length c3' l _ _ (H0.out.2.2.2.1 _ HM.out)).mono ?_; rintro _ w1 ⟨rfl, hm1⟩; replace HM := Lib.hid (tr0 HM.out hm1); clear hm1))
    go_wp2_with fail
    go_ret
    exact ⟨rfl, HM.out⟩
  | false =>
  by_cases ha30 : 30 < a.length
  · repeat (go_wp2_with fail; first | (go_at_call_of 12 ((#[.slice A3 l.length c3'] : Array Value)); refine (longO_any A3 l.length c3' l _ _ (H0.out.2.2.2.1 _ HM.out)).mono ?_; rintro _ w1 ⟨rfl, hm1⟩; replace HM := Lib.hid (tr0 HM.out hm1); clear hm1))
    go_wp2_with fail
    go_ret
    exact ⟨rfl, HM.out⟩
  by_cases hb30 : 30 < b.length
  · repeat (go_wp2_with fail; first | (go_at_call_of 12 ((#[.slice A3 l.length c3'] : Array Value)); refine (longO_any A3 l.length c3' l _ _ (H0.out.2.2.2.1 _ HM.out)).mono ?_; rintro _ w1 ⟨rfl, hm1⟩; replace HM := Lib.hid (tr0 HM.out hm1); clear hm1))
    go_wp2_with fail
    go_ret
    exact ⟨rfl, HM.out⟩
  have HL := Lib.hid (longO_no hll)
  obtain ⟨f, hf⟩ : ∃ f, f = flowsOB a b l := ⟨_, rfl⟩
  obtain ⟨g, hg⟩ : ∃ g, g = altersOB a b l := ⟨_, rfl⟩
  have e1 : (f == f) = true := by simp
  have e2 : (g == g) = true := by simp
  have hlx : ∀ x ∈ l, x.length ≤ 1000000 := fun x hx => Nat.le_trans (HL.out.2 x hx) (by decide)
  have HF := Lib.hid (And.intro hf.symm (And.intro hg.symm hlx)); clear hf hg hlx
  have ha30' : a.length ≤ 30 := by omega
  have hb30' : b.length ≤ 30 := by omega
  repeat (go_wp2_with fail; first | (go_at_call_of 12 ((#[.slice A3 l.length c3'] : Array Value)); refine (longO_any A3 l.length c3' l _ _ (H0.out.2.2.2.1 _ HM.out)).mono ?_; rintro _ w1 ⟨rfl, hm1⟩; replace HM := Lib.hid (tr0 HM.out hm1); clear hm1) | (go_at_call_of 13 ((#[.slice A1 a.length c1', .slice A2 b.length c2', .slice A3 l.length c3'] : Array Value)); have hc := flowsO_any _ _ _ _ _ _ _ _ _ a b l _ _ _ _ (H0.out.2.1 _ HM.out) (H0.out.2.2.1 _ HM.out) (H0.out.2.2.2.1 _ HM.out) (H0.out.1 _ HM.out); rw [HF.out.1] at hc; refine hc.mono ?_; clear hc; rintro _ w1 ⟨rfl, hm1⟩; replace HM := Lib.hid (tr0 HM.out hm1); clear hm1) | (go_at_call_of 14 ((#[.slice A1 a.length c1', .slice A2 b.length c2', .slice A3 l.length c3'] : Array Value)); have hc := refflows7_any _ _ _ _ _ _ _ _ _ a b l _ _ _ _ (H0.out.2.1 _ HM.out) (H0.out.2.2.1 _ HM.out) (H0.out.2.2.2.1 _ HM.out) ha30' hb30' H0.out.2.2.2.2.1 H0.out.2.2.2.2.2 HF.out.2.2; rw [HF.out.1] at hc; refine hc.mono ?_; clear hc; rintro _ w1 ⟨rfl, hm1⟩; replace HM := Lib.hid (tr0 HM.out hm1); clear hm1) | (go_at_call_of 15 ((#[.slice A1 a.length c1', .slice A2 b.length c2', .slice A3 l.length c3'] : Array Value)); have hc := seesO_any _ _ _ _ _ _ _ _ _ a b l _ _ _ _ (H0.out.2.1 _ HM.out) (H0.out.2.2.1 _ HM.out) (H0.out.2.2.2.1 _ HM.out) (H0.out.1 _ HM.out); rw [HF.out.1] at hc; refine hc.mono ?_; clear hc; rintro _ w1 ⟨rfl, hm1⟩; replace HM := Lib.hid (tr0 HM.out hm1); clear hm1) | (go_at_call_of 16 ((#[.slice A1 a.length c1', .slice A2 b.length c2', .slice A3 l.length c3'] : Array Value)); have hc := altersO_any _ _ _ _ _ _ _ _ _ a b l _ _ _ _ (H0.out.2.1 _ HM.out) (H0.out.2.2.1 _ HM.out) (H0.out.2.2.2.1 _ HM.out) (H0.out.1 _ HM.out); rw [HF.out.2.1] at hc; refine hc.mono ?_; clear hc; rintro _ w1 ⟨rfl, hm1⟩; replace HM := Lib.hid (tr0 HM.out hm1); clear hm1) | (go_at_call_of 17 ((#[.slice A1 a.length c1', .slice A2 b.length c2', .slice A3 l.length c3'] : Array Value)); have hc := refalters7_any _ _ _ _ _ _ _ _ _ a b l _ _ _ _ (H0.out.2.1 _ HM.out) (H0.out.2.2.1 _ HM.out) (H0.out.2.2.2.1 _ HM.out) ha30' hb30' H0.out.2.2.2.2.1 H0.out.2.2.2.2.2 HF.out.2.2; rw [HF.out.2.1] at hc; refine hc.mono ?_; clear hc; rintro _ w1 ⟨rfl, hm1⟩; replace HM := Lib.hid (tr0 HM.out hm1); clear hm1))
  go_wp2_with fail
  go_ret
  exact ⟨rfl, HM.out⟩
theorem ownsFlows_uwalk (A : Option Addr) (n c : Nat) (A2 : Option Addr) (n2 c2 : Nat) (A3 : Option Addr) (n3 c3 : Nat) (a b : List Entry) (l : List Nm) (W : World) (h1 : labR.rel W (fun k => k < W.heap.size) [.slice A n c] a) (h2 : labR.rel W (fun k => k < W.heap.size) [.slice A2 n2 c2] b) (h3 : nmsR.rel W (fun k => k < W.heap.size) [.slice A3 n3 c3] l)
    (z1 : a.length ≤ 1048576 ∧ ∀ e ∈ a, (nm e).length ≤ 1048576) (z2 : b.length ≤ 1048576 ∧ ∀ e ∈ b, (nm e).length ≤ 1048576) (E : Env W) :
    Calls Tryz.prog 3 #[.slice A n c, .slice A2 n2 c2, .slice A3 n3 c3] W fun r W' => r = .returned (.bool true) ∧ Below W.heap.size W W' :=
  (ownsFlows_mod A n c A2 n2 c2 A3 n3 c3 a b l _ _ _ W h1 h2 h3 (fun e he => Nat.le_trans (z1.2 e he) (by decide)) (fun e he => Nat.le_trans (z2.2 e he) (by decide)) E).mono fun _ _ h => ⟨h.1, below0 h.2⟩
end Go.Proofs.YthhepnaanjicjaaGreatDoor

/- Arguments of bounded bulk: from a reading to a kind, and what the bulk bounds. -/
namespace Go.Proofs.YthhepnaanjicjaaGreatDoor
open Go.RowKit
set_option linter.unusedVariables false
namespace Bulk
theorem one_le {H : Type} (d : DataW H) : 1 ≤ Rows.uptoBulk d := by
  cases d with
  | lit l => cases l <;> simp [Rows.uptoBulk]
  | nil => simp [Rows.uptoBulk]
  | ptr d => simp [Rows.uptoBulk]
  | slice elems spare => simp [Rows.uptoBulk]
  | agg parts => simp [Rows.uptoBulk]
  | iface t d => simp [Rows.uptoBulk]
  | map entries => simp [Rows.uptoBulk]
  | held h => simp [Rows.uptoBulk]
theorem part_le {H : Type} {d : DataW H} {l : List (DataW H)} (h : d ∈ l) : Rows.uptoBulk d ≤ Rows.uptoBulkAll l := by
  induction l with
  | nil => cases h
  | cons x r ih =>
    simp only [Rows.uptoBulkAll]
    cases List.mem_cons.1 h with
    | inl e => subst e; omega
    | inr e => have := ih e; omega
theorem length_le {H : Type} (l : List (DataW H)) : l.length ≤ Rows.uptoBulkAll l := by
  induction l with
  | nil => simp [Rows.uptoBulkAll]
  | cons x r ih => have := one_le x; simp only [Rows.uptoBulkAll, List.length_cons]; omega
theorem bound {H : Type} {l : List (DataW H)} (hk : Rows.uptoSmall H l = true) : Rows.uptoBulkAll l ≤ 1048576 := of_decide_eq_true hk
end Bulk
/-- A value that is read, and whose reading is of bulk at most B, is one of the kind, with p B of it. -/
def OpensB (P : Program) {α : Type} (R : Rd α) (T : TypeId) (p : Nat → α → Prop) : Prop :=
  ∀ (H : Type) (enc : TypeId × Value → H) (W : World) (base : Nat) (spare : Nat → Bool) (held : Bool) (fuel : Nat) (cs : List Value) (d : DataW H × List MemPlace),
    DataW.trod enc P W base spare held fuel T cs = some d → (∀ n ∈ d.1.weights P T, n ≤ reachBytes) → ∀ B, Rows.uptoBulk d.1 ≤ B → ∃ x, R.rel W (fun k => k < W.heap.size) cs x ∧ p B x
theorem opensB_of {P : Program} {T : TypeId} {α : Type} {R : Rd α} (h : Opens P R T) : OpensB P R T (fun _ _ => True) := by
  intro H enc W base spare held fuel cs d h1 h2 B _
  obtain ⟨x, hx⟩ := h H enc W base spare held fuel cs d h1 h2
  exact ⟨x, hx, trivial⟩
theorem opensB_string {P : Program} {T : TypeId} (ht : P.underlying T = some .string) : OpensB P Rd.string T (fun B x => x.size ≤ B) := by
  intro H enc W base spare held fuel cs d h hw B hB
  obtain ⟨s, rfl, rfl, _⟩ := DataW.trod_string ht h
  have := hw s.data.toList.length (by simp [DataW.weights])
  have h2 : reachBytes ≤ 140737488355328 := by decide
  have h3 : s.data.toList.length = s.size := by simp
  simp only [Rows.uptoBulk] at hB
  refine ⟨s, ⟨rfl, by omega⟩, by omega⟩
theorem opensB_slice {P : Program} {T e : TypeId} {bytes : Nat} {α : Type} {R : Rd α} {p : Nat → α → Prop} (ht : P.underlying T = some (.slice e)) (hb : P.bytesOf e = bytes) (hc : P.cellsOf e = R.sz) (hR : OpensB P R e p) : OpensB P (Rd.slice bytes R) T (fun B xs => xs.length ≤ B ∧ ∀ x ∈ xs, p B x) := by
  intro H enc W base spare held fuel cs d h hw B hB
  rcases DataW.trod_slice ht h with ⟨rfl, rfl⟩ | ⟨a, len, cap, elems, rest, n, rfl, rfl, rfl, hba, hl, hcap, hlen, hel, _, _⟩
  · exact ⟨[], ⟨none, 0, rfl, Nat.le_refl _, by decide, by simp, fun _ => rfl, .inl rfl⟩, by simp, by simp⟩
  · have hpos := R.pos
    simp only [Rows.uptoBulk] at hB
    have hBl := Bulk.length_le (elems.map (·.1))
    rw [List.length_map] at hBl
    have hsz : elems.length * bytes ≤ reachBytes := by
      have := hw (((elems.map (·.1)).length + (rest.map (·.1)).length) * P.bytesOf e) (by simp [DataW.weights, ht])
      rw [hb] at this
      refine Nat.le_trans (Nat.mul_le_mul_right _ ?_) this
      simp
    have each : ∀ j y, elems[j]? = some y → ∃ x, ∃ c, (R.rel W (fun k => k < W.heap.size) c x ∧ ∀ i u, c[i]? = some u → W.cell? (a.add (j * R.sz + i)) = some u) ∧ p B x := by
      intro j y hj
      have hjl := (List.getElem?_eq_some_iff.1 hj).1
      have h1 := hel j (by omega)
      rw [hj, Option.bind_eq_some_iff] at h1
      obtain ⟨c, h2, h3⟩ := h1
      obtain ⟨x, hx, hpx⟩ := hR H enc W base spare held n c y h3 (fun m hm => hw m (by
        simp only [DataW.weights, ht]
        refine List.mem_cons_of_mem _ (List.mem_append_left _ (mem_weightsAll (List.mem_map.2 ⟨y, List.mem_of_getElem? hj, rfl⟩) m hm)))) B (by have := Bulk.part_le (List.mem_map.2 ⟨y, List.mem_of_getElem? hj, rfl⟩ : y.1 ∈ elems.map (·.1)); omega)
      refine ⟨x, c, ⟨hx, fun i u hu => ?_⟩, hpx⟩
      obtain ⟨_, h4, h5⟩ := World.cells?_some h2
      have hi := (List.getElem?_eq_some_iff.1 hu).1
      have := h5 i (by omega)
      rw [add_add, hc] at this
      rw [this]; exact hu
    obtain ⟨ys, hyl, hy⟩ := list_of (fun j _ x => ∃ c, (R.rel W (fun k => k < W.heap.size) c x ∧ ∀ i u, c[i]? = some u → W.cell? (a.add (j * R.sz + i)) = some u) ∧ p B x) elems each
    have hle : ys.length = len := by omega
    refine ⟨ys, ⟨some a, cap, by rw [hle], by omega, hcap, ?_, by simp, ?_⟩, by omega, fun x hx => ?_⟩
    rotate_right
    · obtain ⟨j, hj⟩ := List.getElem?_of_mem hx
      have hjl := (List.getElem?_eq_some_iff.1 hj).1
      obtain ⟨_, _, hp⟩ := hy j _ x (List.getElem?_eq_getElem (by omega)) hj
      exact hp
    · have h2 : reachBytes ≤ 140737488355328 := by decide
      rw [hyl]; omega
    · by_cases hn : ys = []
      · exact .inl hn
      · have hrow : ∀ j x, ys[j]? = some x → ∃ c, R.rel W (fun k => k < W.heap.size) c x ∧ ∀ i u, c[i]? = some u → W.cell? (a.add (j * R.sz + i)) = some u := by
          intro j x hj
          have hjl := (List.getElem?_eq_some_iff.1 hj).1
          obtain ⟨c, hc, _⟩ := hy j _ x (List.getElem?_eq_getElem (by omega)) hj
          exact ⟨c, hc⟩
        refine .inr ⟨a, rfl, ?_, hrow⟩
        obtain ⟨x, l, rfl⟩ := List.exists_cons_of_ne_nil hn
        obtain ⟨c, h1, h2⟩ := hrow 0 x rfl
        obtain ⟨u, hu⟩ := Rd.cells_ne h1
        have := lt_of_cell (h2 0 u hu)
        rwa [add_block] at this
/-- A struct's fields, off - the cells before them. -/
def OpensBFrom (P : Program) {α : Type} (R : Rd α) (off : Nat) (fs : List Field) (p : Nat → α → Prop) : Prop :=
  ∀ (H : Type) (enc : TypeId × Value → H) (W : World) (base : Nat) (spare : Nat → Bool) (held : Bool) (fuel : Nat) (cs : List Value) (xs : List (DataW H × List MemPlace)),
    (∀ (i : Nat) (f : Field), fs[i]? = some f → DataW.trod enc P W base spare held fuel f.type ((cs.drop f.offset).take (P.cellsOf f.type)) = xs[i]?) → xs.length = fs.length →
    (∀ n ∈ DataW.weightsEach P (fs.map (·.type)) (xs.map (·.1)), n ≤ reachBytes) → cs.length = off + R.sz → ∀ B, Rows.uptoBulkAll (xs.map (·.1)) ≤ B → ∃ x, R.rel W (fun k => k < W.heap.size) (cs.drop off) x ∧ p B x
theorem opensB_last {P : Program} {α : Type} {R : Rd α} {p : Nat → α → Prop} {off : Nat} {f : Field} (ho : f.offset = off) (hc : P.cellsOf f.type = R.sz) (hR : OpensB P R f.type p) : OpensBFrom P R off [f] p := by
  intro H enc W base spare held fuel cs xs h hl hw hs B hB
  match xs, hl with
  | [y], _ =>
    have h0 := h 0 f rfl
    simp only [List.getElem?_cons_zero] at h0
    rw [ho, hc, List.take_of_length_le (by simp; omega)] at h0
    exact hR H enc W base spare held fuel _ y h0 (fun n hn => hw n (by simp [DataW.weightsEach, hn])) B (by simp only [List.map_cons, List.map_nil, Rows.uptoBulkAll] at hB; omega)
theorem opensB_cons {P : Program} {α β : Type} {R : Rd α} {Q : Rd β} {p : Nat → α → Prop} {q : Nat → β → Prop} {off : Nat} {f : Field} {fs : List Field} (ho : f.offset = off) (hc : P.cellsOf f.type = R.sz)
    (hR : OpensB P R f.type p) (hQ : OpensBFrom P Q (off + R.sz) fs q) : OpensBFrom P (Rd.pair R Q) off (f :: fs) (fun B x => p B x.1 ∧ q B x.2) := by
  intro H enc W base spare held fuel cs xs h hl hw hs B hB
  match xs, hl with
  | y :: ys, hl =>
    have h0 := h 0 f rfl
    simp only [List.getElem?_cons_zero] at h0
    rw [ho, hc] at h0
    simp only [List.map_cons, Rows.uptoBulkAll] at hB
    obtain ⟨x, hx, hp⟩ := hR H enc W base spare held fuel _ y h0 (fun n hn => hw n (by simp [DataW.weightsEach, hn])) B (by omega)
    obtain ⟨z, hz, hq⟩ := hQ H enc W base spare held fuel cs ys (fun i g hg => by simpa using h (i + 1) g (by simpa using hg)) (by simpa using hl)
      (fun n hn => hw n (by simp only [List.map_cons, DataW.weightsEach]; exact List.mem_append_right _ hn)) (by rw [hs]; simp [Rd.pair]; omega) B (by omega)
    refine ⟨(x, z), ⟨_, _, ?_, hx, hz⟩, hp, hq⟩
    rw [← List.drop_drop, List.take_append_drop]
theorem opensB_struct {P : Program} {T : TypeId} {α : Type} {R : Rd α} {p : Nat → α → Prop} {fs : List Field} (ht : P.underlying T = some (.struct fs.toArray)) (hc : P.cellsOf T = R.sz) (h : OpensBFrom P R 0 fs p) : OpensB P R T p := by
  intro H enc W base spare held fuel cs d hd hw B hB
  obtain ⟨xs, n, rfl, rfl, hl, hxl, hx⟩ := DataW.trod_struct ht hd
  simp only [Rows.uptoBulk] at hB
  have := h H enc W base spare held n cs xs (fun i f hf => hx i f (by simpa using hf)) (by simpa using hxl) (by simpa [DataW.weights, ht] using hw) (by omega) B (by omega)
  simpa using this
theorem opensB_iso {P : Program} {T : TypeId} {α β : Type} {R : Rd α} {p : Nat → α → Prop} {f : β → α} (g : α → β) (hg : ∀ a, f (g a) = a) (h : OpensB P R T p) : OpensB P (R.iso f) T (fun B y => p B (f y)) := by
  intro H enc W base spare held fuel cs d hd hw B hB
  obtain ⟨x, hx, hp⟩ := h H enc W base spare held fuel cs d hd hw B hB
  exact ⟨g x, by show R.rel _ _ _ (f (g x)); rw [hg]; exact hx, by simp only [hg]; exact hp⟩
theorem opensB_mono {P : Program} {T : TypeId} {α : Type} {R : Rd α} {p q : Nat → α → Prop} (h : OpensB P R T p) (hq : ∀ B x, p B x → q B x) : OpensB P R T q := by
  intro H enc W base spare held fuel cs d hd hw B hB
  obtain ⟨x, hx, hp⟩ := h H enc W base spare held fuel cs d hd hw B hB
  exact ⟨x, hx, hq B x hp⟩
theorem EntryR_opensB : OpensB Tryz.prog EntryR 63 (fun B e => (nm e).length ≤ B) :=
  opensB_mono (opensB_iso (fun a => ⟨a.1, a.2⟩) (fun _ => rfl) (opensB_struct Tryz.underlying63 (by kernel_rfl) (opensB_cons (by kernel_rfl) (by kernel_rfl) (opensB_string Tryz.underlying9)
    (opensB_last (by kernel_rfl) (by kernel_rfl) (opensB_of (opens_int Tryz.underlying3)))))) (fun B e h => by have := h.1; simpa [nm] using this)
theorem lab_opensB : OpensB Tryz.prog labR 23 (fun B l => l.length ≤ B ∧ ∀ e ∈ l, (nm e).length ≤ B) := opensB_slice Tryz.underlying23 (by kernel_rfl) (by kernel_rfl) EntryR_opensB
end Go.Proofs.YthhepnaanjicjaaGreatDoor

/- The law OwnsFlows, where what it reads is of bulk at most 1048576, returns true, and its arguments read afterwards as before. No condition beyond that bound. -/
namespace Go.Proofs.YthhepnaanjicjaaGreatDoor.ownsFlowsU
open Go.ChangeShapes Go.WideShapes Go.ChangeAt Go.RowKit
open Go.ChangeMaps (open_string)
set_option linter.unusedVariables false
theorem own : ownKnob Tryz.prog.godebug = none := by kernel_rfl
theorem laidOut : laidOutB Tryz.prog = true := by kernel_rfl
theorem reads (os : Os) {H : Type} (enc : TypeId × Value → H) : ∃ places, DataW.whole enc Tryz.prog ((laidWorld os).forCall (fun _ _ => 0) ⟨#[], #[.slice none 0 0, .slice none 0 0, .slice none 0 0], []⟩).memory Tryz.f3.params.toList Rows.ownsFlowsSpec.vars false (#[.slice none 0 0, .slice none 0 0, .slice none 0 0] : Array Value).toList 8 = some ([.nil, .nil, .nil], [], places) := ⟨[], by kernel_rfl⟩
set_option maxRecDepth 100000 in
theorem lifted (os : Os) (started : os.Started) (H : Type) (enc : TypeId × Value → H) (Fi : Stop.Interp) :
    ReturnsInHanded {} Tryz.checked os 3 .any ((Rows.OpenSpec.upto Rows.ownsFlowsSpec).preRow enc Tryz.prog Tryz.f3 Rows.ownsFlowsUptoRow.domain false Rows.ownsFlowsUptoRow.laid) (((Rows.OpenSpec.upto Rows.ownsFlowsSpec).at Fi).post enc Tryz.prog Tryz.f3 false true false false) := by
  obtain ⟨places, hx⟩ := reads os enc
  refine returnsInHanded_of_row (C := Tryz.checked) (s := Rows.OpenSpec.upto Rows.ownsFlowsSpec) own started (by kernel_rfl) Tryz.func3
    (witness_row_atRef (enc := enc) (C := Tryz.checked) false (laidWorld os) #[.slice none 0 0, .slice none 0 0, .slice none 0 0] rfl (by kernel_rfl) (by kernel_rfl) (by kernel_rfl)
      (OpenSpec.preRow_of_cond 8 hx (by kernel_rfl) (fun k hk => by cases hk; kernel_rfl) (by kernel_rfl) (laidWorld_met os _))) ?_
  intro W base args ds gs before hval0 hW hcnd hcond hsz0 hL _ _
  have hk := Bulk.bound (hcond _ rfl)
  have hsz : (DataW.weightsEach Tryz.prog (Tryz.f3.params.toList ++ Rows.ownsFlowsSpec.plain.varTypes Tryz.prog) (ds ++ gs)).all (· ≤ reachBytes) = true := hsz0
  have hW' := hW
  obtain ⟨p, q, hA0, hV, rfl, hfz, hnd⟩ := hW
  have hval : ∀ (j : Nat) t v, Tryz.f3.params[j]? = some t → args[j]? = some v → Value.okWide Tryz.prog W .any base t v := hval0
  have hA : DataW.TrodAll enc Tryz.prog W 0 (fun _ => true) true Tryz.f3.params.toList args.toList ds p := hA0
  rw [Tryz.params3] at hA hval hsz
  obtain ⟨v0, vs0, d0, ds0, p0, q0, hargs, rfl, rfl, h0, r0⟩ := trodAll_cons hA
  obtain ⟨v1, vs1, d1, ds1, p1, q1, rfl, rfl, rfl, h1, r1⟩ := trodAll_cons r0
  obtain ⟨v2, vs2, d2, ds2, p2, q2, rfl, rfl, rfl, h2, r2⟩ := trodAll_cons r1
  obtain ⟨rfl, rfl, rfl⟩ := trodAll_nil r2
  obtain rfl : args = #[v0, v1, v2] := by cases args; simp_all
  obtain ⟨rfl, rfl⟩ := trodVars_none hV
  rw [List.append_nil] at hk
  simp only [Rows.uptoBulkAll] at hk
  obtain ⟨a0, n0, c0, rfl⟩ := okWide_slice Tryz.underlying23 (hval 0 23 v0 rfl rfl)
  have k0 := h0
  have lt0 : ∀ x ∈ p0, x.block < W.heap.size := by obtain ⟨m, hm⟩ := k0; exact DataW.trod_lt m _ _ _ hm
  obtain ⟨x0, y0, z0⟩ : ∃ x, Rd.rel (labR) W (fun k => k < W.heap.size) [.slice a0 n0 c0] x ∧ (fun B l => l.length ≤ B ∧ ∀ e ∈ l, (nm e).length ≤ B) 1048576 x := by
    obtain ⟨fuel, hf⟩ := h0
    exact lab_opensB H enc W _ _ _ fuel _ _ hf (fun n hn => of_decide_eq_true (List.all_eq_true.1 hsz _ (DataW.weights_mem_each (j := 0) rfl rfl n hn))) 1048576 (by show Rows.uptoBulk d0 ≤ _; omega)
  obtain ⟨a1, n1, c1, rfl⟩ := okWide_slice Tryz.underlying23 (hval 1 23 v1 rfl rfl)
  have k1 := h1
  have lt1 : ∀ x ∈ p1, x.block < W.heap.size := by obtain ⟨m, hm⟩ := k1; exact DataW.trod_lt m _ _ _ hm
  obtain ⟨x1, y1, z1⟩ : ∃ x, Rd.rel (labR) W (fun k => k < W.heap.size) [.slice a1 n1 c1] x ∧ (fun B l => l.length ≤ B ∧ ∀ e ∈ l, (nm e).length ≤ B) 1048576 x := by
    obtain ⟨fuel, hf⟩ := h1
    exact lab_opensB H enc W _ _ _ fuel _ _ hf (fun n hn => of_decide_eq_true (List.all_eq_true.1 hsz _ (DataW.weights_mem_each (j := 1) rfl rfl n hn))) 1048576 (by show Rows.uptoBulk d1 ≤ _; omega)
  obtain ⟨a2, n2, c2, rfl⟩ := okWide_slice Tryz.underlying24 (hval 2 24 v2 rfl rfl)
  have k2 := h2
  have lt2 : ∀ x ∈ p2, x.block < W.heap.size := by obtain ⟨m, hm⟩ := k2; exact DataW.trod_lt m _ _ _ hm
  obtain ⟨x2, y2⟩ : ∃ x, Rd.rel (nmsR) W (fun k => k < W.heap.size) [.slice a2 n2 c2] x := by
    obtain ⟨fuel, hf⟩ := h2
    exact nms_opens H enc W _ _ _ fuel _ _ hf (fun n hn => of_decide_eq_true (List.all_eq_true.1 hsz _ (DataW.weights_mem_each (j := 2) rfl rfl n hn)))
  clear hA0 hval0 hsz0 hsz hk hcond
  refine (ownsFlows_uwalk a0 n0 c0 a1 n1 c1 a2 n2 c2 x0 x1 x2 W y0 y1 y2 z0 z1 (env_of hL)).mono fun e W' ⟨he, bel⟩ => ?_
  subst he
  exact ⟨_, rfl, _, _, _, [], _, [], hW', trodAll_mk1 (shut_bool Tryz.underlying4 _), (trodAll_cons_mk (Below.trod laidOut (by kernel_rfl) (of_decide_eq_true (by kernel_rfl)) k0 bel lt0) (trodAll_cons_mk (Below.trod laidOut (by kernel_rfl) (of_decide_eq_true (by kernel_rfl)) k1 bel lt1) (trodAll_cons_mk (Below.trod laidOut (by kernel_rfl) (of_decide_eq_true (by kernel_rfl)) k2 bel lt2) trodAll_mk0))), rfl, bel.frame _, fun h => by cases h⟩
theorem proved : Rows.OwnsFlowsUptoSaid :=
  OpenClaim.holds_of_cond 3 Tryz.f3 rfl rfl rfl rfl rfl rfl rfl ⟨rfl, rfl, rfl, rfl, rfl⟩ rfl rfl rfl rfl rfl (by kernel_rfl) Tryz.func3 (by kernel_rfl)
    (of_decide_eq_true (by kernel_rfl)) (by unfold Func.isWrapper; first | (rw [if_pos (by decide +kernel)]; kernel_rfl) | (rw [if_neg (by decide +kernel)]; exact ⟨rfl, rfl⟩))
    (fun os started H enc _ Fi => by rw [OpenClaim.pre_eq_preRow]; exact lifted os started H enc Fi)
#print axioms proved
end Go.Proofs.YthhepnaanjicjaaGreatDoor.ownsFlowsU
namespace Go.Proofs.YthhepnaanjicjaaGreatDoor
/-- The row, under a short name, for the claim. -/
theorem ownsFlows_upto_holds : Rows.OwnsFlowsUptoSaid := ownsFlowsU.proved
end Go.Proofs.YthhepnaanjicjaaGreatDoor

/- The law OwnsFlows, where what it reads is of bulk at most 1048576, returns true, and its arguments read afterwards as before: the tied card of the second form. No condition beyond the row's own. -/
namespace Go.Proofs.YthhepnaanjicjaaGreatDoor
open Go
theorem ownsFlows_upto_card_holds : Rows.OwnsFlowsUptoCardSaid :=
  Claim7.holds_tied_plain_at .later [] _ _ _ _
    ownsFlows_upto_holds (fun _ h => by cases h) (by kernel_rfl) (fun _ h => by cases h) ownsFlowsUpto_row_tie rfl ⟨rfl, rfl⟩ (by kernel_rfl) rfl
    (fun f fn hf hfn => by
      obtain rfl : f = 3 := Option.some.inj ((show Tryz.prog.funcNamed "regency/regencylaw07.OwnsFlows" = some 3 by kernel_rfl).symm.trans hf) |>.symm
      obtain rfl : fn = Tryz.f3 := (Option.some.inj (Tryz.func3.symm.trans hfn)).symm
      exact ⟨by kernel_rfl, fun j t ht => by
        rw [Tryz.params3] at ht
        have hm : t ∈ [23, 23, 24] := by simpa using Array.mem_of_getElem? ht
        have hall : ([23, 23, 24].all fun u => !Tryz.prog.wantsStandIn u) = true := by kernel_rfl
        exact (show Tryz.prog.wantsStandIn t = false by simpa using List.all_eq_true.1 hall t hm)⟩)
    (by kernel_rfl)
#print axioms ownsFlows_upto_card_holds
end Go.Proofs.YthhepnaanjicjaaGreatDoor
