/- Layer 29: container/heap over the queue: down. -/
import Derived.Test.YtlimjdejcjgocaaNet2
namespace Go.Proofs.Ytlimjdejcjgocaa
open Go.RowKit
set_option linter.unusedVariables false
set_option maxRecDepth 100000 in
set_option maxHeartbeats 2000000 in
theorem down_any (g gq cap n : Nat) (xs : List Pk) (w : World) (h : QAt w g gq cap xs) (hn : n < xs.length) (hm : xs.length ≤ 1000000) :
    Calls Try.prog 21 #[.iface 49 (.pointer (some ⟨g, 0, none⟩)), .int .i64 0, .int .i64 n] w fun e w' => (∃ v, e = .returned v) ∧ QRow w' gq cap (downL ltK (xs.length + 1) xs 0 n) ∧ Mod (fun k => k = gq) w w' := by
  have H0 := Lib.hid h; clear h
  obtain ⟨F, hF⟩ : ∃ F, F = xs.length + 1 := ⟨_, rfl⟩
  rw [← hF]
  have hnF : n < F := by omega
  have HF := Lib.hid hF; clear hF
  go_enter Try.func21, Try.ntmps21
  go_wp2_with fail
  go_loopg [7] F (fun f si wr => ∃ (i : Nat) (ys : List Pk), si = .int .i64 i ∧ n < f + i ∧ i ≤ n ∧ ys.length = xs.length ∧ QAt wr g gq cap ys ∧ Mod (fun b => b = gq) w wr ∧ downL ltK f ys i n = downL ltK F xs 0 n)
  case atStart => exact ⟨0, xs, rfl, by omega, by omega, rfl, H0.out, Mod.refl _ _, rfl⟩
  case round =>
    obtain ⟨i, ys, rfl, hf, hin', hyl, hq, hmd, hup⟩ := hrel
    have hc := hq.cell
    have hyn : n < ys.length := by omega
    have hi6 : i < 1000000 := by omega
    have H1 := Lib.hid (And.intro hyl (And.intro hq (And.intro hmd hup))); clear hyl hq hmd hup
    by_cases hin : n ≤ 2 * i + 1
    · have HU : Hid (ys = downL ltK F xs 0 n) := Lib.hid (by
        rw [← H1.out.2.2.2]
        cases gk with
        | zero => rfl
        | succ f => rw [downL, if_pos hin])
      obtain ⟨a, ha⟩ : ∃ a : Nat, a = 2 * i + 1 := ⟨_, rfl⟩
      have ea : 2 * (i : Int) + 1 = (a : Int) := by omega
      have hna : n ≤ a := by omega
      have dan : decide (n ≤ a) = true := by simp; omega
      have ha6 : a < 3000000 := by omega
      clear ha hin
      go_wp2_with fail
      all_goals trace_state
      all_goals go_ret
      exact ⟨⟨_, rfl⟩, by rw [← HU.out]; exact H1.out.2.1.row, H1.out.2.2.1⟩
    obtain ⟨a, ha⟩ : ∃ a : Nat, a = 2 * i + 1 := ⟨_, rfl⟩
    obtain ⟨b, hb⟩ : ∃ b : Nat, b = 2 * i + 2 := ⟨_, rfl⟩
    have ea : 2 * (i : Int) + 1 = (a : Int) := by omega
    have eb : (a : Int) + 1 = (b : Int) := by omega
    have han : a < n := by omega
    have hia : i < a := by omega
    have hib : i < b := by omega
    have ha6 : a < 1000000 := by omega
    have dan : decide ((n : Int) ≤ (a : Int)) = false := by simp; omega
    obtain ⟨x, hx⟩ : ∃ x, ys[i]? = some x := ⟨_, List.getElem?_eq_getElem (by omega)⟩
    obtain ⟨y, hy⟩ : ∃ y, ys[a]? = some y := ⟨_, List.getElem?_eq_getElem (by omega)⟩
    have HX := Lib.hid hx; clear hx
    have HA := Lib.hid (And.intro ha (And.intro hb hy)); clear ha hb hy hin
    by_cases hbn : b < n
    · have dbn : decide ((b : Int) < (n : Int)) = true := by simp; omega
      obtain ⟨u, hu⟩ : ∃ u, ys[b]? = some u := ⟨_, List.getElem?_eq_getElem (by omega)⟩
      have HB := Lib.hid hu; clear hu
      have mL := mLess hc
      go_wp2_with fail
      refine (less_any gq cap b a ys u y wr H1.out.2.1.row HB.out HA.out.2.2).mono ?_
      rintro e w2 ⟨rfl, hm2⟩
      have q2a : QAt w2 g gq cap ys := H1.out.2.1.step rfl (H1.out.2.1.row.move (hm2.block gq H1.out.2.1.row.lt id)) (hm2.mono (fun _ h => h.elim))
      have HQ := Lib.hid (And.intro q2a (H1.out.2.2.1.trans hm2 (fun _ h => h.elim) : Mod (fun b => b = gq) w w2)); clear q2a hm2 hc mL
      cases hub : ltK u y with
      | true =>
        have HK : Hid (kidL ltK ys i n = b) := Lib.hid (by
          unfold kidL
          rw [← HA.out.1, ← HA.out.2.1, ltAt_of HB.out HA.out.2.2, hub, if_pos ⟨hbn, rfl⟩])
        clear hub
        have q2 : QAt w2 g gq cap ys := HQ.out.1
        obtain ⟨z, hz⟩ : ∃ z, ys[b]? = some z := ⟨_, List.getElem?_eq_getElem (by omega)⟩
        have hc2 := q2.cell
        have mL2 := mLess hc2
        have H3 := Lib.hid (And.intro q2 (And.intro hz HQ.out.2)); clear q2 hz hc2
        go_wp2_with fail
        refine (less_any gq cap b i ys z x w2 H3.out.1.row H3.out.2.1 HX.out).mono ?_
        rintro e w3 ⟨rfl, hm3⟩
        have q3 : QAt w3 g gq cap ys := H3.out.1.step rfl (H3.out.1.row.move (hm3.block gq H3.out.1.row.lt id)) (hm3.mono (fun _ h => h.elim))
        have M3 : Mod (fun b => b = gq) w w3 := H3.out.2.2.trans hm3 (fun _ h => h.elim)
        have hc3 := q3.cell
        have mS := mSwap hc3
        have H4 := Lib.hid (And.intro q3 M3); clear q3 M3 hm3 mL2
        have dn : Hid (downL ltK gk ys i n = if ltK z x = true then downL ltK (gk - 1) (swapL ys i b) b n else ys) := Lib.hid (by
          obtain ⟨f, rfl⟩ : ∃ f, gk = f + 1 := ⟨gk - 1, by omega⟩
          rw [downL, if_neg (by omega), HK.out, ltAt_of H3.out.2.1 HX.out]; rfl)
        cases hlt : ltK z x with
        | true =>
          have HU : Hid (downL ltK (gk - 1) (swapL ys i b) b n = downL ltK F xs 0 n) := Lib.hid (by rw [← H1.out.2.2.2, dn.out, if_pos hlt])
          clear hlt dn
          go_wp2_with fail
          refine (swap_any gq cap i b ys x z w3 H4.out.1.row HX.out H3.out.2.1).mono ?_
          rintro e w4 ⟨rfl, hr4, hm4⟩
          have q4 : QAt w4 g gq cap (swapL ys i b) := H4.out.1.step (swapL_length _ _ _) hr4 hm4
          have H5 := Lib.hid (And.intro q4 (H4.out.2.trans hm4 (fun _ h => .inl h))); clear q4 hr4 hm4 hc3 mS
          go_wp2_with fail
          go_roundg (gk - 1)
          case measure => omega
          case rel => exact ⟨b, swapL ys i b, rfl, by omega, by omega, by rw [swapL_length]; exact H1.out.1, H5.out.1, H5.out.2, HU.out⟩
        | false =>
          have HU : Hid (ys = downL ltK F xs 0 n) := Lib.hid (by rw [← H1.out.2.2.2, dn.out, if_neg (by rw [hlt]; simp)])
          clear hlt dn
          go_wp2_with fail
          go_ret
          exact ⟨⟨_, rfl⟩, by rw [← HU.out]; exact H4.out.1.row, H4.out.2⟩
      | false =>
        have HK : Hid (kidL ltK ys i n = a) := Lib.hid (by
          unfold kidL
          rw [← HA.out.1, ← HA.out.2.1, ltAt_of HB.out HA.out.2.2, hub, if_neg (by simp)])
        clear hub
        have q2 : QAt w2 g gq cap ys := HQ.out.1
        obtain ⟨z, hz⟩ : ∃ z, ys[a]? = some z := ⟨_, List.getElem?_eq_getElem (by omega)⟩
        have hc2 := q2.cell
        have mL2 := mLess hc2
        have H3 := Lib.hid (And.intro q2 (And.intro hz HQ.out.2)); clear q2 hz hc2
        go_wp2_with fail
        refine (less_any gq cap a i ys z x w2 H3.out.1.row H3.out.2.1 HX.out).mono ?_
        rintro e w3 ⟨rfl, hm3⟩
        have q3 : QAt w3 g gq cap ys := H3.out.1.step rfl (H3.out.1.row.move (hm3.block gq H3.out.1.row.lt id)) (hm3.mono (fun _ h => h.elim))
        have M3 : Mod (fun b => b = gq) w w3 := H3.out.2.2.trans hm3 (fun _ h => h.elim)
        have hc3 := q3.cell
        have mS := mSwap hc3
        have H4 := Lib.hid (And.intro q3 M3); clear q3 M3 hm3 mL2
        have dn : Hid (downL ltK gk ys i n = if ltK z x = true then downL ltK (gk - 1) (swapL ys i a) a n else ys) := Lib.hid (by
          obtain ⟨f, rfl⟩ : ∃ f, gk = f + 1 := ⟨gk - 1, by omega⟩
          rw [downL, if_neg (by omega), HK.out, ltAt_of H3.out.2.1 HX.out]; rfl)
        cases hlt : ltK z x with
        | true =>
          have HU : Hid (downL ltK (gk - 1) (swapL ys i a) a n = downL ltK F xs 0 n) := Lib.hid (by rw [← H1.out.2.2.2, dn.out, if_pos hlt])
          clear hlt dn
          go_wp2_with fail
          refine (swap_any gq cap i a ys x z w3 H4.out.1.row HX.out H3.out.2.1).mono ?_
          rintro e w4 ⟨rfl, hr4, hm4⟩
          have q4 : QAt w4 g gq cap (swapL ys i a) := H4.out.1.step (swapL_length _ _ _) hr4 hm4
          have H5 := Lib.hid (And.intro q4 (H4.out.2.trans hm4 (fun _ h => .inl h))); clear q4 hr4 hm4 hc3 mS
          go_wp2_with fail
          go_roundg (gk - 1)
          case measure => omega
          case rel => exact ⟨a, swapL ys i a, rfl, by omega, by omega, by rw [swapL_length]; exact H1.out.1, H5.out.1, H5.out.2, HU.out⟩
        | false =>
          have HU : Hid (ys = downL ltK F xs 0 n) := Lib.hid (by rw [← H1.out.2.2.2, dn.out, if_neg (by rw [hlt]; simp)])
          clear hlt dn
          go_wp2_with fail
          go_ret
          exact ⟨⟨_, rfl⟩, by rw [← HU.out]; exact H4.out.1.row, H4.out.2⟩
    · have dbn : decide ((b : Int) < (n : Int)) = false := by simp; omega
      have HK : Hid (kidL ltK ys i n = a) := Lib.hid (by
        unfold kidL
        rw [← HA.out.1, ← HA.out.2.1, if_neg (fun h => hbn h.1)])
      have HQ := Lib.hid (And.intro H1.out.2.1 H1.out.2.2.1); clear hc
      have q2 : QAt wr g gq cap ys := HQ.out.1
      obtain ⟨z, hz⟩ : ∃ z, ys[a]? = some z := ⟨_, List.getElem?_eq_getElem (by omega)⟩
      have hc2 := q2.cell
      have mL2 := mLess hc2
      have H3 := Lib.hid (And.intro q2 (And.intro hz HQ.out.2)); clear q2 hz hc2
      go_wp2_with fail
      refine (less_any gq cap a i ys z x wr H3.out.1.row H3.out.2.1 HX.out).mono ?_
      rintro e w3 ⟨rfl, hm3⟩
      have q3 : QAt w3 g gq cap ys := H3.out.1.step rfl (H3.out.1.row.move (hm3.block gq H3.out.1.row.lt id)) (hm3.mono (fun _ h => h.elim))
      have M3 : Mod (fun b => b = gq) w w3 := H3.out.2.2.trans hm3 (fun _ h => h.elim)
      have hc3 := q3.cell
      have mS := mSwap hc3
      have H4 := Lib.hid (And.intro q3 M3); clear q3 M3 hm3 mL2
      have dn : Hid (downL ltK gk ys i n = if ltK z x = true then downL ltK (gk - 1) (swapL ys i a) a n else ys) := Lib.hid (by
        obtain ⟨f, rfl⟩ : ∃ f, gk = f + 1 := ⟨gk - 1, by omega⟩
        rw [downL, if_neg (by omega), HK.out, ltAt_of H3.out.2.1 HX.out]; rfl)
      cases hlt : ltK z x with
      | true =>
        have HU : Hid (downL ltK (gk - 1) (swapL ys i a) a n = downL ltK F xs 0 n) := Lib.hid (by rw [← H1.out.2.2.2, dn.out, if_pos hlt])
        clear hlt dn
        go_wp2_with fail
        refine (swap_any gq cap i a ys x z w3 H4.out.1.row HX.out H3.out.2.1).mono ?_
        rintro e w4 ⟨rfl, hr4, hm4⟩
        have q4 : QAt w4 g gq cap (swapL ys i a) := H4.out.1.step (swapL_length _ _ _) hr4 hm4
        have H5 := Lib.hid (And.intro q4 (H4.out.2.trans hm4 (fun _ h => .inl h))); clear q4 hr4 hm4 hc3 mS
        go_wp2_with fail
        go_roundg (gk - 1)
        case measure => omega
        case rel => exact ⟨a, swapL ys i a, rfl, by omega, by omega, by rw [swapL_length]; exact H1.out.1, H5.out.1, H5.out.2, HU.out⟩
      | false =>
        have HU : Hid (ys = downL ltK F xs 0 n) := Lib.hid (by rw [← H1.out.2.2.2, dn.out, if_neg (by rw [hlt]; simp)])
        clear hlt dn
        go_wp2_with fail
        go_ret
        exact ⟨⟨_, rfl⟩, by rw [← HU.out]; exact H4.out.1.row, H4.out.2⟩
end Go.Proofs.Ytlimjdejcjgocaa
