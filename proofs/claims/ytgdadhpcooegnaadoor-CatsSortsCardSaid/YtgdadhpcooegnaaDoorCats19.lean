/- Layer 5, the laws: CatsOrders. -/
import Derived.Test.YtgdadhpcooegnaaDoorCats18
import Derived.Deep.RegionHeld3
namespace Go.Proofs.YtgdadhpcooegnaaDoor
open Go.RowKit Go.Shelf
set_option linter.unusedVariables false
set_option maxRecDepth 100000 in
set_option maxHeartbeats 4000000 in
theorem catsOrders_mod (A : Option Addr) (m c : Nat) (ls : List ByteArray) (w : World) (ok : Nat → Prop) (h : strsR.rel w ok [.slice A m c] ls) (E : Env w) :
    Calls Tryd.prog 4 #[.slice A m c] w fun r w' => r = .returned (.bool true) ∧ Mod (fun _ => False) w w' := by
  obtain ⟨rfl, hcap, hmx, hbig, -, -⟩ := strs_row h
  have H0 := Lib.hid (And.intro E h); clear E h
  go_enter Tryd.func4, Tryd.ntmps4
  go_wp2_with fail
  refine (first_any w H0.out.1).mono ?_
  rintro r w1 ⟨rfl, hm⟩
  have H1 := Lib.hid (And.intro hm (Rd.mod (Rd.bound H0.out.2) hm (fun _ _ => id))); clear hm
  by_cases h1 : 40 < ls.length
  · have e1 : decide ((40 : Int) < (ls.length : Int)) = true := by simp; omega
    go_wp2_with fail
    go_ret
    exact ⟨rfl, H1.out.1⟩
  have e1 : decide ((40 : Int) < (ls.length : Int)) = false := by simp; omega
  go_wp2_with fail
  go_loopg [15] ls.length (fun f si wr => ∃ i : Nat, si = .int .i64 i ∧ i + f = ls.length ∧ (∀ x ∈ ls.take i, x.size ≤ 100) ∧ Mod (fun _ => False) w1 wr)
  case atStart => exact ⟨0, rfl, by omega, by simp, .refl _ _⟩
  case round =>
    obtain ⟨i, rfl, hi, hs, hmod⟩ := hrel
    have hrow := strs_row (Rd.mod (Rd.bound H1.out.2) hmod (fun _ _ => id))
    by_cases hlt : i < ls.length
    · obtain ⟨x, hx⟩ : ∃ x, ls[i]? = some x := ⟨ls[i], by simp [hlt]⟩
      obtain ⟨x0, hx0⟩ : ∃ x, ls[0]? = some x := ⟨ls[0], by simp⟩
      obtain ⟨ad, rfl, hokk, hcx, -⟩ := RowOf.strs hrow.2.2.2.2.2 hx
      obtain ⟨ad', hA, -, hc0, -⟩ := RowOf.strs hrow.2.2.2.2.2 hx0
      obtain rfl : ad = ad' := by injection hA
      by_cases hx1 : 100 < x.size
      · have e2 : decide ((100 : Int) < (x.size : Int)) = true := by simp; omega
        have HX := Lib.hid hmod; clear hmod hi hs hx hx0 hA hrow
        go_wp2_with fail
        go_ret
        exact ⟨rfl, tr0 H1.out.1 HX.out⟩
      have e2 : decide ((100 : Int) < (x.size : Int)) = false := by simp; omega
      have hs1 : ∀ y ∈ ls.take (i + 1), y.size ≤ 100 := by
        intro y hy
        rw [List.take_add_one, hx] at hy
        rcases List.mem_append.1 hy with hy | hy
        · exact hs y hy
        · simp at hy; rw [hy]; omega
      have hs0 : x0.size ≤ 100 := hs1 x0 (List.mem_of_getElem? (i := 0) (by rw [List.getElem?_take, if_pos (by omega), hx0]))
      obtain ⟨a, ha⟩ : ∃ a, a = x.data.toList := ⟨_, rfl⟩
      obtain ⟨b, hb⟩ : ∃ b, b = x0.data.toList := ⟨_, rfl⟩
      have hxa : x = ⟨a.toArray⟩ := by rw [ha]
      have hxb : x0 = ⟨b.toArray⟩ := by rw [hb]
      have hal : a.length ≤ 1000000 := by rw [ha]; exact Nat.le_trans (show x.size ≤ 100 by omega) (by omega)
      have hbl : b.length ≤ 1000000 := by rw [hb]; exact Nat.le_trans hs0 (by omega)
      have hc00 : wr.cell? ad = some (.string x0) := by have := hc0; rwa [show ad.add 0 = ad by simp [Addr.add]] at this
      have hadl : ad.block < wr.heap.size := lt_of_cell hc00
      rw [hxa] at hcx
      clear e2
      have hax : a.length = x.size := by rw [ha]; rfl
      have e2 : decide ((100 : Int) < (a.length : Int)) = false := by simp; omega
      rw [hxb] at hc00
      have hkeep : ∀ W, Mod (fun _ => False) wr W → W.cell? ad = some (.string ⟨b.toArray⟩) ∧ Mod (fun _ => False) wr W := fun W hW => ⟨(hW.cell hadl id).trans hc00, hW⟩
      have hE : Env wr := H0.out.1.mod0 (tr0 H1.out.1 hmod)
      obtain ⟨z, hz⟩ : ∃ z, z = cmpB a b := ⟨_, rfl⟩
      have hcc := fun W E => compare_any a b (by omega) (by omega) W E
      have hcr := fun W => refcompare_any a b hal hbl W
      simp only [← hz] at hcc hcr
      unfold encS at hcr
      have e3 : (z != z) = false := by simp
      have hl0 : 0 < ls.length := by omega
      have e4 : decide (0 < ls.length) = true := by simp; omega
      have HK := Lib.hid hkeep; have HC := Lib.hid (And.intro hcc hcr)
      have HX := Lib.hid (And.intro hi (And.intro hs1 (And.intro hmod hE)))
      clear hkeep hcc hcr hi hs hs1 hmod hE hx hx0 hA hrow ha hb hxa hxb hs0 hz hokk hx1 hc0 hadl hax
      go_wp2_with fail
      go_region_held3 (fun w' => w'.cell? ad = some (.string ⟨b.toArray⟩) ∧ Mod (fun _ => False) wr w')
        (first | assumption | exact HK.out _ (Mod.trans (And.right (by assumption)) hmB (fun _ h => False.elim h)) | exact HK.out _ (Mod.trans (And.right (by assumption)) hmA (fun _ h => False.elim h)) | exact HK.out _ ((Mod.refl (fun _ => False) wr).drew))
        (first
          | (go_at_call 14; refine (HC.out.1 _ (HX.out.2.2.2.mod0 (And.right (by assumption)))).mono ?_; rintro r WA ⟨rfl, hmA⟩)
          | (go_at_call 15; refine (HC.out.2 _).mono ?_; rintro r WB ⟨rfl, hmB⟩))
      have HE := Lib.hid ((((HX.out.2.2.1.drew).trans hmA (fun _ h => h.elim)).trans hmB (fun _ h => h.elim)))
      clear hmA hmB
      go_wp2_with fail
      go_roundg (gk - 1)
      case measure => have := HX.out.1; omega
      case rel => exact ⟨i + 1, by go_num, by have := HX.out.1; omega, HX.out.2.1, HE.out⟩
    · have hie : ls.take i = ls := List.take_of_length_le (by omega)
      rw [hie] at hs
      have hs6 : ∀ x ∈ ls, x.size ≤ 1000000 := fun x hx => by have := hs x hx; omega
      have hm2 := tr0 H1.out.1 hmod
      have hrow := Rd.mod (Rd.bound H1.out.2) hmod (fun _ _ => id)
      have hsort := sort_any A ls.length c ls _ wr hrow (by omega) (fun s hs => Nat.le_trans (hs6 s hs) (by omega)) (H0.out.1.mod0 hm2)
      have hl40 : (sortS (ls.map fun s => s.data.toList)).length ≤ 40 := by
        rw [← sortR_eq]
        have := sortR_len (ls.map fun s => s.data.toList)
        rw [List.length_map] at this; omega
      obtain ⟨zs, hzs⟩ : ∃ zs, zs = sortS (ls.map fun s => s.data.toList) := ⟨_, rfl⟩
      have hzr : sortR (ls.map fun s => s.data.toList) = zs := by rw [hzs, sortR_eq]
      rw [← hzs] at hsort hl40
      have HX := Lib.hid (And.intro hm2 (And.intro hs6 (And.intro hrow hzr))); clear hi hs hs6 hmod hm2 hrow hie hzs hzr
      go_wp2_with fail
      refine hsort.mono ?_
      rintro r w2 ⟨A2, c2, rfl, ho2, hm2⟩
      have hrs := refsort_any A ls.length c ls _ w2 (Rd.mod (Rd.bound HX.out.2.2.1) hm2 (fun _ _ => id)) (by omega) HX.out.2.1
      rw [HX.out.2.2.2] at hrs
      have H2 := Lib.hid (And.intro (tr0 HX.out.1 hm2) ho2); clear hm2 ho2 hsort
      go_wp2_with fail
      refine hrs.mono ?_
      rintro r w3 ⟨A3, c3, rfl, ho3, hm3⟩
      have H3 := Lib.hid (And.intro (tr0 H2.out.1 hm3) (And.intro (own_move H2.out.2 (fun k hk => hm3.block k (own_lt H2.out.2 k hk).2 id)) ho3)); clear hm3 ho3 hrs H2
      have e3 : ((zs.length : Int) != (zs.length : Int)) = false := by simp
      go_wp2_with fail
      go_loopg [50] zs.length (fun f si wz => ∃ i : Nat, si = .int .i64 i ∧ i + f = zs.length ∧ Mod (fun _ => False) w3 wz)
      case atStart => exact ⟨0, rfl, by omega, .refl _ _⟩
      case round =>
        obtain ⟨j, rfl, hj, hmod⟩ := hrel
        by_cases hlt : j < zs.length
        · obtain ⟨x, hx⟩ : ∃ x, zs[j]? = some x := ⟨zs[j], by simp [hlt]⟩
          obtain ⟨g2, d2, hv2, hc2⟩ := own_row H3.out.2.1 hx
          obtain ⟨rfl, rfl⟩ : A2 = some ⟨g2, 0, none⟩ ∧ c2 = d2 := by simpa using hv2
          obtain ⟨g3, d3, hv3, hc3⟩ := own_row H3.out.2.2 hx
          obtain ⟨rfl, rfl⟩ : A3 = some ⟨g3, 0, none⟩ ∧ c3 = d3 := by simpa using hv3
          replace hc2 := (hmod.cell (cell_lt hc2) id).trans hc2
          replace hc3 := (hmod.cell (cell_lt hc3) id).trans hc3
          have e4 : (x != x) = false := by simp
          have HJ := Lib.hid (And.intro hj hmod); clear hj hmod hv2 hv3 hx
          go_wp2_with fail
          go_quiet (fail)
          go_wp2_with fail
          go_roundg (gk - 1)
          case measure => have := HJ.out.1; omega
          case rel => exact ⟨j + 1, by go_num, by have := HJ.out.1; omega, HJ.out.2.drewN _⟩
        · have HJ := Lib.hid (tr0 H3.out.1 hmod); clear hmod hj
          go_wp2_with fail
          go_ret
          exact ⟨rfl, HJ.out⟩
end Go.Proofs.YtgdadhpcooegnaaDoor
