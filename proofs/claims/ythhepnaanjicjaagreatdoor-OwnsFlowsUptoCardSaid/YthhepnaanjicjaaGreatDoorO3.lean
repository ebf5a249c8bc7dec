/- Texts of this claim, joined: RefL1, OwnR1, OwnR2, OwnR3, Seg, OwnOp. -/
import Derived.Test.YthhepnaanjicjaaGreatDoorP5
import Derived.Test.YthhepnaanjicjaaGreatDoorO1
import Derived.Test.YthhepnaanjicjaaGreatDoorO2
import Derived.Deep.DeepCutAuto
import Derived.Test.YthhepnaanjicjaaGreatDoorP7
/- Layer 6, the document's answer: isCat, Level, Right. -/
namespace Go.Proofs.YthhepnaanjicjaaGreatDoor
open Go.RowKit Go.Shelf
set_option linter.unusedVariables false
set_option maxRecDepth 100000 in
set_option maxHeartbeats 1000000 in
theorem isCat_any (s : List UInt8) (hs : s.length ≤ 1000000) (w : World) :
    Calls Tryz.prog 93 #[.string ⟨s.toArray⟩] w fun r w' => r = .returned (.bool (rightB s)) ∧ Mod (fun _ => False) w w' := by
  have hg := get_any s hs w
  rw [getB_eq] at hg
  unfold encS at hg
  obtain ⟨z, hz⟩ : ∃ z, z = rightB s := ⟨_, rfl⟩
  rw [← hz]
  unfold rightB at hz
  have HG := Lib.hid (And.intro hg hz); clear hg hz
  go_enter Tryz.func93, Tryz.ntmps93
  go_wp2_with fail
  refine HG.out.1.mono ?_
  rintro r w1 ⟨hm, ⟨hn, rfl⟩ | ⟨p, n, A, c, hn, rfl, -⟩⟩
  · have hzf : z = false := by rw [HG.out.2, hn]; rfl
    subst hzf
    have H1 := Lib.hid hm; clear hm hn
    go_wp2_with fail
    go_ret
    exact ⟨rfl, H1.out.alloc _⟩
  · have hzf : z = true := by rw [HG.out.2, hn]; rfl
    subst hzf
    have H1 := Lib.hid hm; clear hm hn
    go_wp2_with fail
    go_ret
    exact ⟨rfl, H1.out.alloc _⟩
set_option maxRecDepth 100000 in
set_option maxHeartbeats 1000000 in
theorem reflevel_any (A : Option Addr) (n c : Nat) (l : List Entry) (s : List UInt8) (ok : Nat → Prop) (w : World) (h : labR.rel w ok [.slice A n c] l) :
    Calls Tryz.prog 51 #[.slice A n c, .string ⟨s.toArray⟩] w fun r w' => r = .returned (.int .i64 (levelL l s)) ∧ Mod (fun _ => False) w w' := by
  obtain ⟨rfl, hcap, -, hbig, -, hrow⟩ := lab_row h
  obtain ⟨z, hz⟩ : ∃ z, z = levelL l s := ⟨_, rfl⟩
  rw [← hz]
  have H0 := Lib.hid (And.intro hrow hz); clear h hrow hz
  go_enter Tryz.func51, Tryz.ntmps51
  go_wp2_with fail
  go_loopg [9] l.length (fun f si wr => ∃ (i : Nat), si = .int .i64 i ∧ i + f = l.length ∧ z = levelL (l.drop i) s ∧ Mod (fun _ => False) w wr)
  case atStart => exact ⟨0, rfl, by omega, H0.out.2, .refl _ _⟩
  case round =>
    obtain ⟨i, rfl, hi, hz, hmod⟩ := hrel
    by_cases hlt : i < l.length
    · obtain ⟨d, m, hx⟩ : ∃ d m, l[i]? = some (ent d m) := by
        obtain ⟨d, m, e⟩ := ent_cases l[i]
        exact ⟨d, m, by rw [← e]; simp [hlt]⟩
      obtain ⟨ad, rfl, -, hc0, hc1, hdl, -⟩ := row_ent (H0.out.1.step (w1 := wr) (ok1 := fun _ => True) (fun k hk hl => ⟨trivial, hmod.block k hl (fun h => h)⟩)) hx
      have hda : l.drop i = ent d m :: l.drop (i + 1) := by
        rw [List.drop_eq_getElem_cons hlt]
        rw [List.getElem?_eq_getElem hlt] at hx
        rw [Option.some.inj hx]
      rw [hda, levelL_cons, nm_ent, lev_ent] at hz
      by_cases hd : d = s
      · subst hd
        rw [if_pos rfl] at hz
        have HX := Lib.hid (And.intro hi (And.intro hz hmod)); clear hi hmod hx hda
        subst hz
        go_wp2_with fail
        go_ret
        exact ⟨rfl, HX.out.2.2.alloc _⟩
      · rw [if_neg hd] at hz
        have e2 : (d == s) = false := by simp [hd]
        have HX := Lib.hid (And.intro hi (And.intro hz hmod)); clear hi hz hmod hx hda
        go_wp2_with fail
        go_roundg (gk - 1)
        case measure => have := HX.out.1; omega
        case rel => exact ⟨i + 1, by go_num, by have := HX.out.1; omega, HX.out.2.1, HX.out.2.2.alloc _⟩
    · have hda : l.drop i = [] := List.drop_eq_nil_of_le (by omega)
      have hzf : z = 1 := by rw [hz, hda]; rfl
      subst hzf
      have HX := Lib.hid (And.intro hi hmod); clear hi hz hmod hda
      go_wp2_with fail
      go_ret
      exact ⟨rfl, HX.out.2⟩
set_option maxRecDepth 100000 in
set_option maxHeartbeats 800000 in
theorem refright_any (A : Option Addr) (n c : Nat) (l : List Entry) (ok : Nat → Prop) (w : World) (h : labR.rel w ok [.slice A n c] l) (hb : ∀ e ∈ l, (nm e).length ≤ 1000000) :
    Calls Tryz.prog 49 #[.slice A n c] w fun r w' => r = .returned (.bool (rightLB l)) ∧ Mod (fun _ => False) w w' := by
  obtain ⟨rfl, hcap, -, hbig, -, hrow⟩ := lab_row h
  obtain ⟨z, hz⟩ : ∃ z, z = rightLB l := ⟨_, rfl⟩
  rw [← hz]
  have H0 := Lib.hid (And.intro hb (And.intro hrow hz)); clear hb hrow h hz
  go_enter Tryz.func49, Tryz.ntmps49
  by_cases h8 : 8 < l.length
  · have e1 : decide ((8 : Int) < (l.length : Int)) = true := by simp; omega
    have hzf : z = false := by rw [H0.out.2.2]; exact rightLB_no fun hr => by have := hr.len; omega
    subst hzf
    go_wp2_with fail
    go_ret
    exact ⟨rfl, .refl _ _⟩
  have e1 : decide ((8 : Int) < (l.length : Int)) = false := by simp; omega
  go_wp2_with fail
  go_loopg [9] l.length (fun f si wr => ∃ i : Nat, si = .int .i64 i ∧ i + f = l.length ∧ (∀ e ∈ l.take i, rightB (nm e) = true ∧ 0 ≤ e.level ∧ e.level ≤ 3 ∧ e.level ≠ 1) ∧ (l.take i).Pairwise ltE ∧ Mod (fun _ => False) w wr)
  case atStart => exact ⟨0, rfl, by omega, by simp, by simp, .refl _ _⟩
  case round =>
    obtain ⟨i, rfl, hi, heach, hpair, hmod⟩ := hrel
    by_cases hlt : i < l.length
    · obtain ⟨d, m, hx⟩ : ∃ d m, l[i]? = some (ent d m) := by
        obtain ⟨d, m, e⟩ := ent_cases l[i]
        exact ⟨d, m, by rw [← e]; simp [hlt]⟩
      have hrow := H0.out.2.1.step (w1 := wr) (ok1 := ok) (fun k hk hl => ⟨hk, hmod.block k hl id⟩)
      obtain ⟨ad, rfl, -, hc0, hc1, hdl, hmr⟩ := row_ent hrow hx
      have hd6 : d.length ≤ 1000000 := by have := H0.out.1 _ (List.mem_of_getElem? hx); rwa [nm_ent] at this
      have htk : l.take (i + 1) = l.take i ++ [ent d m] := by rw [List.take_add_one, hx]; rfl
      have hcat := isCat_any d hd6 wr
      have HX := Lib.hid (And.intro hi (And.intro heach (And.intro hpair (And.intro hmod (And.intro hx (And.intro htk hrow)))))); clear hi heach hpair hmod hx htk hrow
      cases hb : rightB d with
      | false =>
        rw [hb] at hcat
        have HC := Lib.hid hcat; clear hcat
        have hzf : z = false := by rw [H0.out.2.2]; exact right_no HX.out.2.2.2.2.1 (.inl hb)
        subst hzf
        clear hb
        go_wp2_with fail
        refine HC.out.mono ?_
        rintro r w2 ⟨rfl, hm2⟩
        have H2 := Lib.hid (tr0 HX.out.2.2.2.1 hm2); clear hm2
        go_wp2_with fail
        go_ret
        exact ⟨rfl, H2.out⟩
      | true =>
        rw [hb] at hcat
        have HC := Lib.hid hcat; clear hcat
        have HB := Lib.hid hb; clear hb
        go_wp2_with fail
        refine HC.out.mono ?_
        rintro r w2 ⟨rfl, hm2⟩
        replace hc0 := cell_step hc0 (fun hl => hm2.block _ hl id)
        replace hc1 := cell_step hc1 (fun hl => hm2.block _ hl id)
        have H2 := Lib.hid (And.intro (tr0 HX.out.2.2.2.1 hm2) hm2); clear hm2
        by_cases hm : m = 0 ∨ m = 2 ∨ m = 3
        case neg =>
          have hzf : z = false := by rw [H0.out.2.2]; exact right_no HX.out.2.2.2.2.1 (.inr (by omega))
          subst hzf
          have e2 : (m != 0) = true := by simp; omega
          have e3 : (m != 2) = true := by simp; omega
          have e4 : (m != 3) = true := by simp; omega
          clear hm
          go_wp2_with fail
          go_ret
          exact ⟨rfl, H2.out.1⟩
        case pos =>
          have hlev : 0 ≤ m ∧ m ≤ 3 ∧ m ≠ 1 := by omega
          have HM := Lib.hid hlev; clear hlev
          by_cases hi0 : i = 0
          · subst hi0
            have ha0 : ad.add (0 * 2) = ad := by simp [Addr.add]
            rw [ha0] at hc0 hc1
            rcases hm with rfl | rfl | rfl
            all_goals
              go_wp2_with fail
              refine wp_region_mod (by kernel_rfl) (by kernel_rfl) ?_
              refine wpQuiet_hide (fun R hR => ?_)
              iterate 17 (first
                | ((first | refine wpQuiet_none hR rfl (fun K hK => ?_) | refine wpQuiet_take hR (by rfl) (fun K hK => ?_)); clear hR R; go_simp; refine hK _ (fun R hR => ?_); clear hK K)
                | (refine wpQuiet_skip hR (by rfl) (fun K hK => ?_); clear hR R; go_simp; refine hK _ (fun R hR => ?_); clear hK K))
              refine wpQuiet_end hR ?_
              clear hR R
              rintro _ ⟨W, rfl⟩
              have HW := Lib.hid (H2.out.1.trans W.2 (fun _ h => h.elim))
              clear hc0 hc1
              go_wp2_with fail
              go_roundg (gk - 1)
              case measure => have := HX.out.1; omega
              case rel =>
                obtain ⟨hi, heach, hpair, hmod, hx, htk, hrow⟩ := HX.out
                refine ⟨0 + 1, by go_num, by omega, ?_, take_pair hx hpair (fun k2 y hk hy => ?_), HW.out⟩
                · rw [htk]
                  intro e he
                  rcases List.mem_append.1 he with he | he
                  · exact heach e he
                  · rw [List.mem_singleton.1 he, nm_ent, lev_ent]
                    exact ⟨HB.out, HM.out⟩
                · omega
          · obtain ⟨k, hk⟩ : ∃ k, i = k + 1 := ⟨i - 1, by omega⟩
            obtain ⟨d2, m2, hy⟩ : ∃ d m, l[k]? = some (ent d m) := by
              obtain ⟨d, m, e⟩ := ent_cases (l[k]'(by omega))
              exact ⟨d, m, by rw [← e]; exact List.getElem?_eq_getElem (by omega)⟩
            obtain ⟨ad', hA, -, hp0, hp1, hdl2, -⟩ := row_ent HX.out.2.2.2.2.2.2 hy
            obtain rfl : ad = ad' := by injection hA
            have hd62 : d2.length ≤ 1000000 := by have := H0.out.1 _ (List.mem_of_getElem? hy); rwa [nm_ent] at this
            replace hp0 := cell_step hp0 (fun hl => H2.out.2.block _ hl id)
            have hwr : IntKind.i64.wrap ((i : Int) - 1) = (k : Int) := by rw [IntKind.wrap_i64]; omega
            have hkl : k < l.length := by omega
            have q0 : ∀ W : ModW w2, W.1.cell? (ad.add (k * 2)) = some (.string ⟨d2.toArray⟩) := fun W => ModW.cell hp0 W
            have q2 : ∀ W : ModW w2, W.1.cell? (ad.add (i * 2)) = some (.string ⟨d.toArray⟩) := fun W => ModW.cell hc0 W
            have hcm := fun W => refcompare_any d2 d hd62 hd6 W
            obtain ⟨zc, hzc⟩ : ∃ zc, zc = cmpB d2 d := ⟨_, rfl⟩
            have hcv := cmpB_val d2 d
            rw [← hzc] at hcv
            simp only [← hzc] at hcm
            unfold encS at hcm
            have e5 : decide (0 < i) = true := by simp; omega
            have hi1 : 0 < i := by omega
            have HA := Lib.hid hcm
            have HY := Lib.hid (And.intro hy (And.intro hk hzc))
            clear hcm hy hA hp0 hp1 hk hzc hi0 hd62
            by_cases hneg : zc = -1
            · subst hneg
              clear hcv
              rcases hm with rfl | rfl | rfl
              all_goals
                go_wp2_with fail
                refine wp_region_mod (by kernel_rfl) (by kernel_rfl) ?_
                refine wpQuiet_hide (fun R hR => ?_)
                iterate 17 (first
                  | ((first | refine wpQuiet_none hR rfl (fun K hK => ?_) | refine wpQuiet_take hR (by rfl) (fun K hK => ?_)); clear hR R; go_simp; first | (refine hK _ (fun R hR => ?_); clear hK K) | (apply Exists.intro; refine ⟨fun _ => ?_, hK _ (fun R hR => ?_)⟩; (go_at_call 73; refine quiet_mod (HA.out _)); clear hK K))
                  | (refine wpQuiet_skip hR (by rfl) (fun K hK => ?_); clear hR R; go_simp; refine hK _ (fun R hR => ?_); clear hK K))
                refine wpQuiet_end hR ?_
                clear hR R
                rintro _ ⟨W, rfl⟩
                have HW := Lib.hid (H2.out.1.trans W.2 (fun _ h => h.elim))
                clear hc0 hc1 q0 q2
                go_wp2_with fail
                go_roundg (gk - 1)
                case measure => have := HX.out.1; omega
                case rel =>
                  obtain ⟨hi, heach, hpair, hmod, hx, htk, hrow⟩ := HX.out
                  refine ⟨i + 1, by go_num, by omega, ?_, take_pair hx hpair (fun k2 y hk hy => ?_), HW.out⟩
                  · rw [htk]
                    intro e he
                    rcases List.mem_append.1 he with he | he
                    · exact heach e he
                    · rw [List.mem_singleton.1 he, nm_ent, lev_ent]
                      exact ⟨HB.out, HM.out⟩
                  · obtain ⟨h1, h2, h3⟩ := HY.out
                    obtain rfl : k = k2 := by omega
                    rw [h1] at hy
                    obtain rfl := Option.some.inj hy
                    unfold ltE ltB
                    rw [nm_ent, nm_ent, ← h3]
                    decide
            · have e6 : (zc != -1) = true := by simp [hneg]
              have hzf : z = false := by rw [H0.out.2.2]; have h1 := HX.out.2.2.2.2.1; rw [HY.out.2.1] at h1; exact right_no2 HY.out.1 h1 (by rw [← HY.out.2.2]; omega)
              subst hzf
              clear hcv hneg
              rcases hm with rfl | rfl | rfl
              all_goals
                go_wp2_with fail
                refine wp_region_mod (by kernel_rfl) (by kernel_rfl) ?_
                refine wpQuiet_hide (fun R hR => ?_)
                iterate 17 (first
                  | ((first | refine wpQuiet_none hR rfl (fun K hK => ?_) | refine wpQuiet_take hR (by rfl) (fun K hK => ?_)); clear hR R; go_simp; first | (refine hK _ (fun R hR => ?_); clear hK K) | (apply Exists.intro; refine ⟨fun _ => ?_, hK _ (fun R hR => ?_)⟩; (go_at_call 73; refine quiet_mod (HA.out _)); clear hK K))
                  | (refine wpQuiet_skip hR (by rfl) (fun K hK => ?_); clear hR R; go_simp; refine hK _ (fun R hR => ?_); clear hK K))
                refine wpQuiet_end hR ?_
                clear hR R
                rintro _ ⟨W, rfl⟩
                have HW := Lib.hid (H2.out.1.trans W.2 (fun _ h => h.elim))
                clear hc0 hc1 q0 q2
                go_wp2_with fail
                go_ret
                exact ⟨rfl, HW.out⟩
    · have hie : l.take i = l := List.take_of_length_le (by omega)
      rw [hie] at heach hpair
      have hzt : z = true := by rw [H0.out.2.2]; exact rightLB_iff.2 ⟨by omega, heach, asc_iff.2 hpair⟩
      subst hzt
      have HX := Lib.hid hmod; clear hmod heach hpair hie hi
      go_wp2_with fail
      go_ret
      exact ⟨rfl, HX.out⟩
end Go.Proofs.YthhepnaanjicjaaGreatDoor

/- Layer 7, the document's answer: Right, Has, Same. -/
namespace Go.Proofs.YthhepnaanjicjaaGreatDoor
open Go.RowKit Go.Shelf
set_option linter.unusedVariables false
theorem pair_next {l : List Nm} {k : Nat} {x y : Nm} (hp : (l.take (k + 1)).Pairwise ltB) (hy : l[k]? = some y) (hx : l[k + 1]? = some x) (h : ltB y x) : (l.take (k + 1 + 1)).Pairwise ltB := by
  rw [List.take_add_one, hx]
  refine List.pairwise_append.2 ⟨hp, by simp, fun a ha b hb => ?_⟩
  obtain rfl : b = x := by simpa using hb
  rw [List.take_add_one, hy] at ha hp
  rcases List.mem_append.1 ha with ha | ha
  · exact ltB_tr _ _ _ ((List.pairwise_append.1 hp).2.2 a ha y (by simp)) h
  · obtain rfl : a = y := by simpa using ha
    exact h
theorem pair_off {l : List Nm} {k : Nat} {x y : Nm} (hp : l.Pairwise ltB) (hy : l[k]? = some y) (hx : l[k + 1]? = some x) : ltB y x := by
  obtain ⟨h1, rfl⟩ := List.getElem?_eq_some_iff.1 hy
  obtain ⟨h2, rfl⟩ := List.getElem?_eq_some_iff.1 hx
  exact List.pairwise_iff_getElem.1 hp k (k + 1) h1 h2 (by omega)
theorem refget_cases (s : Nm) (hs : s.length ≤ 1000000) (w : World) :
    Calls Tryz.prog 68 #[.string ⟨s.toArray⟩] w fun r w' => ∃ A n c v, r = .returned (.tuple #[.agg #[.slice A n c, .int .i64 v], .bool (rightB s)]) ∧ Mod (fun _ => False) w w' := by
  have hg := get_any s hs w
  rw [getB_eq] at hg
  unfold encS at hg
  refine hg.mono ?_
  rintro r w1 ⟨hm, ⟨hn, rfl⟩ | ⟨p, n, A, c, hn, rfl, -⟩⟩
  · exact ⟨none, 0, 0, 0, by unfold rightB; rw [hn]; rfl, hm⟩
  · exact ⟨A, p.length, c, n, by unfold rightB; rw [hn]; rfl, hm⟩
set_option maxRecDepth 100000 in
set_option maxHeartbeats 2000000 in
theorem refright7_any (A : Option Addr) (n c : Nat) (l : List Nm) (ok : Nat → Prop) (w : World) (h : nmsR.rel w ok [.slice A n c] l) (hb : ∀ x ∈ l, x.length ≤ 1000000) :
    Calls Tryz.prog 29 #[.slice A n c] w fun r w' => r = .returned (.bool (rightO l)) ∧ Mod (fun _ => False) w w' := by
  obtain ⟨rfl, hcap, hbig, -, hrow⟩ := nms_row h
  obtain ⟨z, hz⟩ : ∃ z, z = rightO l := ⟨_, rfl⟩
  rw [← hz]
  have H0 := Lib.hid (And.intro hb (And.intro hrow hz)); clear hb hrow h hz
  go_enter Tryz.func29, Tryz.ntmps29
  go_wp2_with fail
  go_loopg [9] l.length (fun f si wr => ∃ i : Nat, si = .int .i64 i ∧ i + f = l.length ∧ (∀ x ∈ l.take i, rightB x = true) ∧ (l.take i).Pairwise ltB ∧ Mod (fun _ => False) w wr)
  case atStart => exact ⟨0, rfl, by omega, by simp, by simp, .refl _ _⟩
  case round =>
    obtain ⟨i, rfl, hi, heach, hpair, hmod⟩ := hrel
    by_cases hlt : i < l.length
    · obtain ⟨x, hx⟩ : ∃ x, l[i]? = some x := ⟨_, List.getElem?_eq_getElem hlt⟩
      have hcell : ∀ (W : World), Mod (fun _ => False) w W → ∀ j x, l[j]? = some x → ∃ ad, A = some ad ∧ W.cell? (ad.add j) = some (.string ⟨x.toArray⟩) := fun W hW j x hj => by
        obtain ⟨ad, h1, _, h2, _⟩ := H0.out.2.1 j x hj
        exact ⟨ad, h1, (hW.cell (lt_of_cell h2) id).trans h2⟩
      obtain ⟨ad, rfl, hc⟩ := hcell wr hmod i x hx
      have hx6 := H0.out.1 x (List.mem_of_getElem? hx)
      have hgt := refget_cases x hx6 wr
      have HX := Lib.hid (And.intro hi (And.intro heach (And.intro hpair (And.intro hmod (And.intro hx (And.intro hcell hgt)))))); clear hi heach hpair hmod hx hcell hgt
      go_wp2_with fail
      refine HX.out.2.2.2.2.2.2.mono ?_
      rintro r w1 ⟨A1, n1, c1, v1, rfl, hm⟩
      have hm1 := tr0 HX.out.2.2.2.1 hm
      obtain ⟨W1, hW1⟩ : ∃ W1, W1 = w1.alloc (.cells #[.slice A1 n1 c1, .int .i64 v1] 78) := ⟨_, rfl⟩
      have hmW : Mod (fun _ => False) w W1 := by rw [hW1]; exact hm1.alloc _
      clear hc
      cases hb : rightB x with
      | false =>
        have hzf : z = false := by
          rw [H0.out.2.2]
          exact rightO_no fun hr => by have := hr.each x (List.mem_of_getElem? HX.out.2.2.2.2.1); rw [hb] at this; cases this
        subst hzf
        have HM := Lib.hid hm1; clear hm hm1 hmW hb hW1
        go_wp2_with fail
        go_ret
        exact ⟨rfl, HM.out.alloc _⟩
      | true =>
        by_cases hi0 : 0 < i
        · obtain ⟨k, rfl⟩ : ∃ k, i = k + 1 := ⟨i - 1, by omega⟩
          obtain ⟨y, hy⟩ : ∃ y, l[k]? = some y := ⟨_, List.getElem?_eq_getElem (by omega)⟩
          obtain ⟨ad', had, hcy⟩ := HX.out.2.2.2.2.2.1 w1 hm1 k y hy
          obtain rfl : ad = ad' := by injection had
          have hcyA : ∀ o : Obj, (w1.alloc o).cell? (ad.add k) = some (.string ⟨y.toArray⟩) := fun o => (((Mod.refl (fun _ => False) w1).alloc o).cell (lt_of_cell hcy) id).trans hcy
          have hwr : IntKind.i64.wrap (((k + 1 : Nat) : Int) - 1) = (k : Int) := by rw [IntKind.wrap_i64]; omega
          have hcm := refcompare_any y x (H0.out.1 y (List.mem_of_getElem? hy)) hx6 W1
          unfold encS at hcm
          obtain ⟨zc, hzc⟩ : ∃ zc, zc = cmpB y x := ⟨_, rfl⟩
          have hcv := cmpB_val y x
          rw [← hzc] at hcv hcm
          have HK := Lib.hid (And.intro hcm (And.intro hy (And.intro hzc hmW))); clear hcm hy hzc hmW hm hm1
          have HB := Lib.hid hb; clear hb
          have hwl := Lib.hid hW1.symm; clear hW1
          by_cases hlt1 : zc = -1
          · subst hlt1
            clear hcv
            go_wp2_with fail
            rw [hwl.out]
            refine HK.out.1.mono ?_
            rintro r w2 ⟨rfl, hm⟩
            have H2 := Lib.hid (tr0 HK.out.2.2.2 hm); clear hm
            go_wp2_with fail
            go_roundg (gk - 1)
            case measure => have := HX.out.1; omega
            case rel =>
              obtain ⟨hi, heach, hpair, hmod, hx, -⟩ := HX.out
              refine ⟨k + 1 + 1, by go_num, by omega, ?_, pair_next hpair HK.out.2.1 hx (by unfold ltB; rw [← HK.out.2.2.1]; decide), H2.out⟩
              rw [List.take_add_one, hx]
              intro y' hy'
              rcases List.mem_append.1 hy' with hy' | hy'
              · exact heach y' hy'
              · simp at hy'; rw [hy']; exact HB.out
          · have hzf : z = false := by
              rw [H0.out.2.2]
              refine rightO_no fun hr => ?_
              have := pair_off hr.asc HK.out.2.1 HX.out.2.2.2.2.1
              unfold ltB at this
              rw [← HK.out.2.2.1] at this
              omega
            subst hzf
            have e2 : (zc != -1) = true := by simpa using hlt1
            clear hcv hlt1
            go_wp2_with fail
            rw [hwl.out]
            refine HK.out.1.mono ?_
            rintro r w2 ⟨rfl, hm⟩
            have H2 := Lib.hid (tr0 HK.out.2.2.2 hm); clear hm
            go_wp2_with fail
            go_ret
            exact ⟨rfl, H2.out⟩
        · obtain rfl : i = 0 := by omega
          have HM := Lib.hid hm1; clear hm hm1 hmW hW1
          have HB := Lib.hid hb; clear hb
          go_wp2_with fail
          go_roundg (gk - 1)
          case measure => have := HX.out.1; omega
          case rel =>
            obtain ⟨hi, heach, hpair, hmod, hx, -⟩ := HX.out
            refine ⟨0 + 1, by go_num, by omega, ?_, ?_, HM.out.alloc _⟩
            · rw [List.take_add_one, hx]
              intro y' hy'
              simp at hy'
              rw [hy']; exact HB.out
            · rw [List.take_add_one, hx]; simp
    · have hie : l.take i = l := List.take_of_length_le (by omega)
      rw [hie] at heach hpair
      have hzz : z = decide (l.length ≤ 8) := by
        rw [H0.out.2.2, Bool.eq_iff_iff, rightO_iff, decide_eq_true_eq]
        exact ⟨fun h => h.len, fun h => ⟨h, heach, hpair⟩⟩
      have HX := Lib.hid (And.intro hmod hzz); clear hmod hzz heach hpair hi hie
      go_wp2_with fail
      go_ret
      exact ⟨by rw [HX.out.2]; congr 2; simp; omega, HX.out.1⟩
set_option maxRecDepth 100000 in
set_option maxHeartbeats 1000000 in
theorem refhas7_any (A : Option Addr) (n c : Nat) (l : List Nm) (s : Nm) (ok : Nat → Prop) (w : World) (h : nmsR.rel w ok [.slice A n c] l) :
    Calls Tryz.prog 30 #[.slice A n c, .string ⟨s.toArray⟩] w fun r w' => r = .returned (.bool (l.contains s)) ∧ Mod (fun _ => False) w w' := by
  obtain ⟨rfl, hcap, hbig, -, hrow⟩ := nms_row h
  obtain ⟨z, hz⟩ : ∃ z, z = l.contains s := ⟨_, rfl⟩
  rw [← hz]
  have H0 := Lib.hid (And.intro hrow hz); clear h hrow hz
  go_enter Tryz.func30, Tryz.ntmps30
  go_wp2_with fail
  go_loopg [9] l.length (fun f si wr => ∃ i : Nat, si = .int .i64 i ∧ i + f = l.length ∧ (∀ x ∈ l.take i, x ≠ s) ∧ w = wr)
  case atStart => exact ⟨0, rfl, by omega, by simp, rfl⟩
  case round =>
    obtain ⟨i, rfl, hi, hno, rfl⟩ := hrel
    by_cases hlt : i < l.length
    · obtain ⟨x, hx⟩ : ∃ x, l[i]? = some x := ⟨_, List.getElem?_eq_getElem hlt⟩
      obtain ⟨ad, rfl, -, hc, -⟩ := H0.out.1 i x hx
      by_cases hsx : x = s
      · subst hsx
        have hzi : z = true := by rw [H0.out.2]; simpa using List.mem_of_getElem? hx
        subst hzi
        clear hi hno hx
        go_wp2_with fail
        go_ret
        exact ⟨rfl, .refl _ _⟩
      · have e1 : (x == s) = false := by simpa using hsx
        have hno' : ∀ y ∈ l.take (i + 1), y ≠ s := by
          intro y hy
          rw [List.take_add_one, hx, List.mem_append] at hy
          rcases hy with hy | hy
          · exact hno y hy
          · simp at hy; rw [hy]; exact hsx
        have HX := Lib.hid (And.intro hi hno'); clear hi hno hno' hx hsx
        go_wp2_with fail
        go_roundg (gk - 1)
        case measure => have := HX.out.1; omega
        case rel => exact ⟨i + 1, by go_num, by have := HX.out.1; omega, HX.out.2, rfl⟩
    · have hzi : z = false := by
        rw [H0.out.2]
        rw [List.take_of_length_le (by omega)] at hno
        rw [Bool.eq_false_iff]
        intro e
        exact hno s (by simpa using e) rfl
      subst hzi
      clear hi hno
      go_wp2_with fail
      go_ret
      exact ⟨rfl, .refl _ _⟩
set_option maxRecDepth 100000 in
set_option maxHeartbeats 1000000 in
theorem refsame7_any (A : Option Addr) (n c : Nat) (A2 : Option Addr) (n2 c2 : Nat) (a b : List Nm) (ok ok2 : Nat → Prop) (w : World) (h : nmsR.rel w ok [.slice A n c] a) (h2 : nmsR.rel w ok2 [.slice A2 n2 c2] b) :
    Calls Tryz.prog 23 #[.slice A n c, .slice A2 n2 c2] w fun r w' => r = .returned (.bool (decide (a = b))) ∧ Mod (fun _ => False) w w' := by
  obtain ⟨rfl, hcap, hbig, -, hrow⟩ := nms_row h
  obtain ⟨rfl, hcap2, hbig2, -, hrow2⟩ := nms_row h2
  obtain ⟨z, hz⟩ : ∃ z, z = decide (a = b) := ⟨_, rfl⟩
  rw [← hz]
  have H0 := Lib.hid (And.intro hrow (And.intro hrow2 hz)); clear h h2 hrow hrow2 hz
  by_cases hle : a.length = b.length
  case neg =>
    have hzf : z = false := by rw [H0.out.2.2]; exact decide_eq_false fun e => hle (by rw [e])
    subst hzf
    have e1 : ((a.length : Int) != (b.length : Int)) = true := by simp; omega
    go_enter Tryz.func23, Tryz.ntmps23
    go_wp2_with fail
    go_ret
    exact ⟨rfl, Mod.refl _ _⟩
  case pos =>
    have e1 : ((a.length : Int) != (b.length : Int)) = false := by simp; omega
    have HL := Lib.hid hle; clear hle
    go_enter Tryz.func23, Tryz.ntmps23
    go_wp2_with fail
    go_loopg [13] a.length (fun f si wr => ∃ i : Nat, si = .int .i64 i ∧ i + f = a.length ∧ a.take i = b.take i ∧ Mod (fun _ => False) w wr)
    case atStart => exact ⟨0, rfl, by omega, by simp, .refl _ _⟩
    case round =>
      obtain ⟨i, rfl, hi, hsm, hmod⟩ := hrel
      by_cases hlt : i < a.length
      · have hlt2 : i < b.length := by rw [← HL.out]; exact hlt
        obtain ⟨x, hx⟩ : ∃ x, a[i]? = some x := ⟨_, List.getElem?_eq_getElem hlt⟩
        obtain ⟨y, hy⟩ : ∃ y, b[i]? = some y := ⟨_, List.getElem?_eq_getElem hlt2⟩
        obtain ⟨ad, rfl, -, hc, -⟩ := H0.out.1 i x hx
        obtain ⟨ad2, rfl, -, hd, -⟩ := H0.out.2.1 i y hy
        have hc := (hmod.cell (lt_of_cell hc) id).trans hc
        have hd := (hmod.cell (lt_of_cell hd) id).trans hd
        by_cases hxy : x = y
        · subst hxy
          have hsm' : a.take (i + 1) = b.take (i + 1) := by rw [List.take_add_one, List.take_add_one, hx, hy, hsm]
          have HX := Lib.hid (And.intro hi (And.intro hsm' hmod)); clear hi hsm hsm' hmod hx hy
          go_wp2_with fail
          go_quiet (fail)
          go_wp2_with fail
          go_roundg (gk - 1)
          case measure => have := HX.out.1; omega
          case rel => exact ⟨i + 1, by go_num, by have := HX.out.1; omega, HX.out.2.1, HX.out.2.2.drewN _⟩
        · have hzf : z = false := by
            rw [H0.out.2.2]
            refine decide_eq_false fun e => hxy ?_
            rw [e, hy] at hx
            exact (Option.some.inj hx).symm
          have e2 : (x == y) = false := by simpa using hxy
          have HX := Lib.hid hmod; clear hi hsm hmod hx hy hxy
          subst hzf
          go_wp2_with fail
          go_quiet (fail)
          go_wp2_with fail
          go_ret
          exact ⟨rfl, HX.out.drewN _⟩
      · have hzt : z = true := by
          rw [H0.out.2.2]
          refine decide_eq_true ?_
          rw [List.take_of_length_le (by omega), List.take_of_length_le (by have := HL.out; omega)] at hsm
          exact hsm
        have HX := Lib.hid hmod; clear hi hsm hmod
        subst hzt
        go_wp2_with fail
        go_ret
        exact ⟨rfl, HX.out⟩
end Go.Proofs.YthhepnaanjicjaaGreatDoor

/- Layer 7, the document's answer: Union, Add, Drop, Within, Put. -/
namespace Go.Proofs.YthhepnaanjicjaaGreatDoor
open Go.RowKit Go.Shelf
set_option linter.unusedVariables false
theorem refsortN_any (A : Option Addr) (n c : Nat) (l : List Nm) (ok : Nat → Prop) (w : World) (h : nmsR.rel w ok [.slice A n c] l) (hl : l.length ≤ 1000000) (hx : ∀ s ∈ l, s.length ≤ 1000000) :
    Calls Tryz.prog 69 #[.slice A n c] w fun r w' => ∃ A' c', r = .returned (.slice A' (sortS l).length c') ∧ OwnN w' w.heap.size (.slice A' (sortS l).length c') (sortS l) ∧ Mod (fun _ => False) w w' := by
  have := refsort_any A n c (l.map mkStr) ok w h (by rw [List.length_map]; exact hl) (fun s hs => by
    obtain ⟨x, hx', rfl⟩ := List.mem_map.1 hs
    rw [mkStr_size]; exact hx x hx')
  rw [map_back, sortR_eq] at this
  exact this
set_option maxRecDepth 100000 in
set_option maxHeartbeats 2000000 in
theorem refunion7_any (A : Option Addr) (n c : Nat) (A2 : Option Addr) (n2 c2 : Nat) (a b : List Nm) (ok ok2 : Nat → Prop) (w : World) (h : nmsR.rel w ok [.slice A n c] a) (h2 : nmsR.rel w ok2 [.slice A2 n2 c2] b) (hax : ∀ x ∈ a, x.length ≤ 1000000) (hbx : ∀ x ∈ b, x.length ≤ 1000000) :
    Calls Tryz.prog 26 #[.slice A n c, .slice A2 n2 c2] w fun r w' => ∃ A' c', r = .returned (.tuple #[.slice A' (unionO a b).1.length c', .int .i64 (unionO a b).2]) ∧ OwnN w' w.heap.size (.slice A' (unionO a b).1.length c') (unionO a b).1 ∧ Mod (fun _ => False) w w' := by
  obtain ⟨rfl, -⟩ := nms_row h
  obtain ⟨rfl, -⟩ := nms_row h2
  have RA := fun W (hW : Mod (fun _ => False) w W) => Rd.mod (Rd.bound h) hW (fun _ _ => id)
  have RB := fun W (hW : Mod (fun _ => False) w W) => Rd.mod (Rd.bound h2) hW (fun _ _ => id)
  obtain ⟨z, hz⟩ : ∃ z, z = unionO a b := ⟨_, rfl⟩
  rw [← hz]
  unfold unionO at hz
  have ra := refright7_any A a.length c a _ w h hax
  have H0 := Lib.hid (And.intro hax (And.intro RA (And.intro RB (And.intro hz hbx)))); clear h h2 RA RB hz hax hbx
  cases hra : rightO a with
  | false =>
    rw [hra] at ra
    have HR := Lib.hid ra; clear ra
    have hzf : z = ([], 2) := by rw [H0.out.2.2.2.1, if_neg (by rw [hra]; simp)]
    subst hzf
    go_enter Tryz.func26, Tryz.ntmps26
    go_wp2_with fail
    refine HR.out.mono ?_
    rintro r w1 ⟨rfl, hm⟩
    have H1 := Lib.hid hm; clear hm
    go_wp2_with fail
    go_ret2
    exact ⟨none, 0, rfl, OwnN.nil _ _, H1.out⟩
  | true =>
    rw [hra] at ra
    have HR := Lib.hid ra; clear ra
    go_enter Tryz.func26, Tryz.ntmps26
    go_wp2_with fail
    refine HR.out.mono ?_
    rintro r w1 ⟨rfl, hm⟩
    have rb := refright7_any A2 b.length c2 b _ w1 (H0.out.2.2.1 w1 hm) H0.out.2.2.2.2
    cases hrb : rightO b with
    | false =>
      rw [hrb] at rb
      have H1 := Lib.hid (And.intro hm rb); clear hm rb
      have hzf : z = ([], 2) := by rw [H0.out.2.2.2.1, if_neg (by rw [hrb]; simp)]
      subst hzf
      go_wp2_with fail
      refine H1.out.2.mono ?_
      rintro r w2 ⟨rfl, hm⟩
      have H2 := Lib.hid (tr0 H1.out.1 hm); clear hm
      go_wp2_with fail
      go_ret2
      exact ⟨none, 0, rfl, OwnN.nil _ _, H2.out⟩
    | true =>
      rw [hrb] at rb
      have hza := H0.out.2.2.2.1
      rw [if_pos ⟨hra, hrb⟩] at hza
      have ha8 := (rightO_iff.1 hra).len
      have hb8 := (rightO_iff.1 hrb).len
      have H1 := Lib.hid (And.intro hm (And.intro rb hza)); clear hm rb hza hra hrb
      go_wp2_with fail
      refine H1.out.2.1.mono ?_
      rintro r w2 ⟨rfl, hm⟩
      have hm2 := tr0 H1.out.1 hm
      have hs2 := hm2.size
      have hm2' := hm2.alloc (.cells #[] 9)
      have rA := H0.out.2.1 _ hm2'
      have ho2 : OwnN (w2.alloc (.cells #[] 9)) w2.heap.size (.slice (some ⟨w2.heap.size, 0, none⟩) 0 0) [] := World.ownsRow_made w2 #[] 0 (Nat.le_refl _) (by decide) rfl
      have H2 := Lib.hid (And.intro hm2 (And.intro rA (And.intro ho2 hs2))); clear hm hm2 hm2' rA ho2
      go_wp2_with (at_builtin; refine append_nms w2.heap.size _ rfl _ _ rfl (.slice (some ⟨w2.heap.size, 0, none⟩) 0 0) [] a A c rfl rfl H2.out.2.2.1 (by simp) H2.out.2.1 (fun k hk e => by simp only [Value.ownBlock, Option.some.injEq] at e; have := hk.2; omega) (by simp) (by simp only [List.length_nil]; omega) ?_)
      intro A3 c3 w3 ho3 hm3 _
      have hm23 : Mod (fun _ => False) w2 w3 := ((Mod.refl _ w2).alloc (.cells #[] 9)).trans hm3 (fun k hk => .inr (by simp only [Value.ownBlock, Option.some.injEq] at hk; omega))
      have hm03 := tr0 H2.out.1 hm23
      have hs3 := hm23.size
      have rB := H0.out.2.2.1 w3 hm03
      have H3 := Lib.hid (And.intro hm03 (And.intro rB (And.intro ho3 (And.intro hs3 hm23)))); clear hm03 rB ho3 hm23 hm3
      go_wp2_with (at_builtin; refine append_nms w2.heap.size _ rfl _ _ rfl (.slice A3 a.length c3) a b A2 c2 rfl rfl H3.out.2.2.1 (fun x hx => Nat.le_trans (H0.out.1 x hx) (by decide)) H3.out.2.1 (fun k hk e => by have h1 := (own_lt H3.out.2.2.1 k e.symm).1; have := hk.2; omega) hs3 (by omega) ?_)
      intro A4 c4 w4 ho4 hm4 _
      have hm04 : Mod (fun _ => False) w w4 := H3.out.1.trans hm4 (fun k hk => .inr (by have := (own_lt H3.out.2.2.1 k hk).1; omega))
      have hab : ∀ x ∈ a ++ b, x.length ≤ 1000000 := fun x hx => (List.mem_append.1 hx).elim (H0.out.1 x) (H0.out.2.2.2.2 x)
      have hr4 := OwnN.reads ho4 (fun x hx => Nat.le_trans (hab x hx) (by decide)) (by rw [List.length_append]; omega)
      have hso := refsortN_any A4 (a.length + b.length) c4 (a ++ b) _ w4 hr4 (by rw [List.length_append]; omega) hab
      obtain ⟨x, hx⟩ : ∃ x, x = sortS (a ++ b) := ⟨_, rfl⟩
      have hza := H1.out.2.2
      rw [← hx] at hso hza
      have H4 := Lib.hid (And.intro hm04 (And.intro hso hza)); clear hm04 hm4 ho4 hr4 hso hx hza hab hs3 hs2
      go_wp2_with fail
      refine H4.out.2.1.mono ?_
      rintro r w5 ⟨A5, c5, rfl, ho5, hm5⟩
      have H5 := Lib.hid (And.intro (tr0 H4.out.1 hm5) (OwnN.le ho5 H4.out.1.size)); clear ho5 hm5
      by_cases h8 : 8 < x.length
      · have hzf : z = ([], 34) := by rw [H4.out.2.2, if_pos h8]
        subst hzf
        go_wp2_with fail
        go_ret2
        exact ⟨none, 0, rfl, OwnN.nil _ _, H5.out.1⟩
      · have hzf : z = (x, 0) := by rw [H4.out.2.2, if_neg h8]
        subst hzf
        go_wp2_with fail
        go_ret2
        exact ⟨A5, c5, rfl, H5.out.2, H5.out.1⟩
end Go.Proofs.YthhepnaanjicjaaGreatDoor

/- Layer 7, the document's answer: Add, Drop, Within, Put. -/
namespace Go.Proofs.YthhepnaanjicjaaGreatDoor
open Go.RowKit Go.Shelf
set_option linter.unusedVariables false
set_option maxRecDepth 100000 in
set_option maxHeartbeats 1000000 in
theorem refadd7_any (A : Option Addr) (n c : Nat) (l : List Nm) (s : Nm) (ok : Nat → Prop) (w : World) (h : nmsR.rel w ok [.slice A n c] l) (hs : s.length ≤ 1000000) (hx : ∀ x ∈ l, x.length ≤ 1000000) :
    Calls Tryz.prog 24 #[.slice A n c, .string ⟨s.toArray⟩] w fun r w' => ∃ A' c', r = .returned (.tuple #[.slice A' (addO l s).1.length c', .int .i64 (addO l s).2]) ∧ OwnN w' w.heap.size (.slice A' (addO l s).1.length c') (addO l s).1 ∧ Mod (fun _ => False) w w' := by
  obtain ⟨rfl, -⟩ := nms_row h
  have RA := fun W (hW : Mod (fun _ => False) w W) => Rd.mod h hW (fun _ _ => id)
  obtain ⟨z, hz⟩ : ∃ z, z = addO l s := ⟨_, rfl⟩
  rw [← hz]
  unfold addO at hz
  have ra := refright7_any A l.length c l _ w h hx
  have H0 := Lib.hid (And.intro hx (And.intro RA (And.intro hz hs))); clear h RA hz hs hx
  cases hra : rightO l with
  | false =>
    rw [hra] at ra
    have HR := Lib.hid ra; clear ra
    have hzf : z = ([], 2) := by rw [H0.out.2.2.1, if_neg (by rw [hra]; simp)]
    subst hzf
    go_enter Tryz.func24, Tryz.ntmps24
    go_wp2_with fail
    refine HR.out.mono ?_
    rintro r w1 ⟨rfl, hm⟩
    have H1 := Lib.hid hm; clear hm
    go_wp2_with fail
    go_ret2
    exact ⟨none, 0, rfl, OwnN.nil _ _, H1.out⟩
  | true =>
    rw [hra] at ra
    have HR := Lib.hid ra; clear ra
    go_enter Tryz.func24, Tryz.ntmps24
    go_wp2_with fail
    refine HR.out.mono ?_
    rintro r w1 ⟨rfl, hm⟩
    have rb := refget_cases s H0.out.2.2.2 w1
    have hza := H0.out.2.2.1
    rw [if_pos hra] at hza
    cases hrb : rightB s with
    | false =>
      rw [hrb] at rb
      rw [if_neg (by rw [hrb]; simp)] at hza
      have H1 := Lib.hid (And.intro hm rb); clear hm rb hra hrb
      subst hza
      go_wp2_with fail
      refine H1.out.2.mono ?_
      rintro r w2 ⟨Ag, ng, cg, vg, rfl, hm⟩
      have H2 := Lib.hid (tr0 H1.out.1 hm); clear hm
      go_wp2_with fail
      go_ret2
      exact ⟨none, 0, rfl, OwnN.nil _ _, H2.out.alloc _⟩
    | true =>
      rw [hrb] at rb
      rw [if_pos hrb] at hza
      have H1 := Lib.hid (And.intro hm (And.intro rb hza)); clear hm rb hza hra hrb
      go_wp2_with fail
      refine H1.out.2.1.mono ?_
      rintro r w2 ⟨Ag, ng, cg, vg, rfl, hm⟩
      have hm2 := tr0 H1.out.1 hm
      have H2 := Lib.hid hm2; clear hm hm2
      go_wp2_with fail
      obtain ⟨W2, hW2⟩ : ∃ W2, W2 = w2.alloc (.cells #[.slice Ag ng cg, .int .i64 vg] 78) := ⟨_, rfl⟩
      have hmW : Mod (fun _ => False) w W2 := by rw [hW2]; exact H2.out.alloc _
      have hsz : W2.heap.size = w2.heap.size + 1 := by rw [hW2]; simp
      rw [← hW2]
      have hmW2 := hmW.alloc (.cells #[.string ⟨s.toArray⟩] 9)
      have hu := refunion7_any A l.length c _ 1 1 l [s] _ _ (W2.alloc (.cells #[.string ⟨s.toArray⟩] 9)) (H0.out.2.1 _ hmW2) (one_row W2 s (by have := H0.out.2.2.2; omega)) H0.out.1 (fun x hx => by rw [List.mem_singleton.1 hx]; exact H0.out.2.2.2)
      rw [← H1.out.2.2, hsz] at hu
      have H3 := Lib.hid (And.intro hmW2 hu); clear hmW hmW2 hu hsz
      refine H3.out.2.mono ?_
      rintro r w3 ⟨A3, c3, rfl, ho3, hm3⟩
      have H4 := Lib.hid (And.intro (tr0 H3.out.1 hm3) (OwnN.le ho3 H3.out.1.size)); clear ho3 hm3
      go_wp2_with fail
      go_ret2
      exact ⟨A3, c3, rfl, H4.out.2, H4.out.1⟩
theorem filter_same {l : List Nm} {s : Nm} (h : (l.filter fun x => !(x == s)).length = l.length) : s ∉ l := by
  intro hs
  have h1 : l.filter (fun x => !(x == s)) = l := List.filter_sublist.eq_of_length h
  rw [← h1] at hs
  have := (List.mem_filter.1 hs).2
  simp at this
set_option maxRecDepth 100000 in
set_option maxHeartbeats 2000000 in
theorem refdrop7_any (A : Option Addr) (n c : Nat) (l : List Nm) (s : Nm) (ok : Nat → Prop) (w : World) (h : nmsR.rel w ok [.slice A n c] l) (hs : s.length ≤ 1000000) (hx : ∀ x ∈ l, x.length ≤ 1000000) :
    Calls Tryz.prog 25 #[.slice A n c, .string ⟨s.toArray⟩] w fun r w' => ∃ A' c', r = .returned (.tuple #[.slice A' (dropO l s).1.length c', .int .i64 (dropO l s).2]) ∧ OwnN w' w.heap.size (.slice A' (dropO l s).1.length c') (dropO l s).1 ∧ Mod (fun _ => False) w w' := by
  obtain ⟨rfl, hcap, hbig, -, hrow⟩ := nms_row h
  have RA := fun W (hW : Mod (fun _ => False) w W) => Rd.mod h hW (fun _ _ => id)
  obtain ⟨z, hz⟩ : ∃ z, z = dropO l s := ⟨_, rfl⟩
  rw [← hz]
  unfold dropO at hz
  have ra := refright7_any A l.length c l _ w h hx
  have H0 := Lib.hid (And.intro hx (And.intro RA (And.intro hz (And.intro hs hrow)))); clear h RA hz hs hx hrow
  cases hra : rightO l with
  | false =>
    rw [hra] at ra
    have HR := Lib.hid ra; clear ra
    have hzf : z = ([], 2) := by rw [H0.out.2.2.1, if_neg (by rw [hra]; simp)]
    subst hzf
    go_enter Tryz.func25, Tryz.ntmps25
    go_wp2_with fail
    refine HR.out.mono ?_
    rintro r w1 ⟨rfl, hm⟩
    have H1 := Lib.hid hm; clear hm
    go_wp2_with fail
    go_ret2
    exact ⟨none, 0, rfl, OwnN.nil _ _, H1.out⟩
  | true =>
    rw [hra] at ra
    have HR := Lib.hid ra; clear ra
    have h8 := (rightO_iff.1 hra).len
    go_enter Tryz.func25, Tryz.ntmps25
    go_wp2_with fail
    refine HR.out.mono ?_
    rintro r w1 ⟨rfl, hm⟩
    have rb := refget_cases s H0.out.2.2.2.1 w1
    have hza := H0.out.2.2.1
    rw [if_pos hra] at hza
    cases hrb : rightB s with
    | false =>
      rw [hrb] at rb
      rw [if_neg (by rw [hrb]; simp)] at hza
      have H1 := Lib.hid (And.intro hm rb); clear hm rb hra hrb
      subst hza
      go_wp2_with fail
      refine H1.out.2.mono ?_
      rintro r w2 ⟨Ag, ng, cg, vg, rfl, hm⟩
      have H2 := Lib.hid (tr0 H1.out.1 hm); clear hm
      go_wp2_with fail
      go_ret2
      exact ⟨none, 0, rfl, OwnN.nil _ _, H2.out.alloc _⟩
    | true =>
      rw [hrb] at rb
      rw [if_pos hrb] at hza
      have H1 := Lib.hid (And.intro hm (And.intro rb hza)); clear hm rb hza hra hrb
      go_wp2_with fail
      refine H1.out.2.1.mono ?_
      rintro r w2 ⟨Ag, ng, cg, vg, rfl, hm⟩
      have hm2 := (tr0 H1.out.1 hm).alloc (.cells #[.slice Ag ng cg, .int .i64 vg] 78)
      have H2 := Lib.hid hm2; clear hm hm2
      go_wp2_with fail
      go_loopg [8, 23] l.length (fun f so si wr => ∃ (i : Nat) (Ao : Option Addr) (co : Nat), si = .int .i64 i ∧ so = .slice Ao ((l.take i).filter fun x => !(x == s)).length co ∧ i + f = l.length ∧ OwnN wr w.heap.size (.slice Ao ((l.take i).filter fun x => !(x == s)).length co) ((l.take i).filter fun x => !(x == s)) ∧ Mod (fun _ => False) w wr)
      case atStart => exact ⟨0, none, 0, rfl, rfl, by omega, OwnN.nil _ _, H2.out⟩
      case round =>
        obtain ⟨i, Ao, co, rfl, rfl, hi, ho, hmod⟩ := hrel
        by_cases hlt : i < l.length
        · obtain ⟨x, hx⟩ : ∃ x, l[i]? = some x := ⟨_, List.getElem?_eq_getElem hlt⟩
          obtain ⟨ad, rfl, -, hc, -⟩ := H0.out.2.2.2.2 i x hx
          have hc := (hmod.cell (lt_of_cell hc) id).trans hc
          obtain ⟨q, hq⟩ : ∃ q, q = (l.take i).filter fun x => !(x == s) := ⟨_, rfl⟩
          have hql : q.length ≤ 8 := by rw [hq]; have := List.length_filter_le (fun x => !(x == s)) (l.take i); rw [List.length_take] at this; omega
          rw [← hq] at ho ⊢
          by_cases hxs : x = s
          · have htk : (l.take (i + 1)).filter (fun x => !(x == s)) = q := by rw [List.take_add_one, hx, List.filter_append, hq]; simp [hxs]
            have e1 : (x != s) = false := by simp [hxs]
            have e2 : (x == s) = true := by simp [hxs]
            have HX := Lib.hid (And.intro hi (And.intro ho (And.intro hmod htk))); clear hi ho hmod htk hx hxs hq
            go_wp2_with fail
            go_roundg (gk - 1)
            case measure => have := HX.out.1; omega
            case rel => exact ⟨i + 1, Ao, co, by go_num, by rw [HX.out.2.2.2], by have := HX.out.1; omega, by rw [HX.out.2.2.2]; exact HX.out.2.1, HX.out.2.2.1⟩
          · have htk : (l.take (i + 1)).filter (fun x => !(x == s)) = q ++ [x] := by rw [List.take_add_one, hx, List.filter_append, hq]; simp [hxs]
            have e1 : (x != s) = true := by simp [hxs]
            have e2 : (x == s) = false := by simp [hxs]
            have hsz := hmod.size
            have HX := Lib.hid (And.intro hi (And.intro ho (And.intro hmod htk))); clear hi ho hmod htk hx hxs hq
            go_wp2_with (at_builtin; refine append1_nm w.heap.size rfl _ _ rfl (.slice Ao q.length co) q x rfl rfl HX.out.2.1 hsz (by omega) ?_)
            intro A4 c4 w4 ho4 hm4 _
            have hm04 : Mod (fun _ => False) w w4 := HX.out.2.2.1.trans hm4 (fun k hk => .inr (own_lt HX.out.2.1 k hk).1)
            have H4 := Lib.hid (And.intro ho4 hm04); clear ho4 hm4 hm04 hsz hc
            go_wp2_with fail
            go_roundg (gk - 1)
            case measure => have := HX.out.1; omega
            case rel => exact ⟨i + 1, A4, c4, by go_num, by rw [HX.out.2.2.2]; simp, by have := HX.out.1; omega, by rw [HX.out.2.2.2]; simpa using H4.out.1, H4.out.2⟩
        · have hie : l.take i = l := List.take_of_length_le (by omega)
          rw [hie] at ho ⊢
          obtain ⟨q, hq⟩ : ∃ q, q = l.filter fun x => !(x == s) := ⟨_, rfl⟩
          have hql := List.length_filter_le (fun x => !(x == s)) l
          rw [← hq] at ho hql ⊢
          by_cases hh : q.length = l.length
          · have hzf : z = ([], 36) := by
              rw [H1.out.2.2, if_neg]
              intro e
              exact filter_same (by rw [← hq]; exact hh) (by simpa using e)
            have e1 : ((q.length : Int) == (l.length : Int)) = true := by simp; omega
            have HX := Lib.hid hmod; clear hmod ho hi hie hq hh
            subst hzf
            go_wp2_with fail
            go_ret2
            exact ⟨none, 0, rfl, OwnN.nil _ _, HX.out⟩
          · have hzf : z = (q, 0) := by
              rw [H1.out.2.2, if_pos, hq]
              rw [List.contains_iff_mem]
              refine Classical.byContradiction fun hn => hh ?_
              rw [hq, List.filter_eq_self.2]
              intro x hx
              have : x ≠ s := fun e => hn (e ▸ hx)
              simpa using this
            have e1 : ((q.length : Int) == (l.length : Int)) = false := by simp; omega
            have HX := Lib.hid (And.intro hmod ho); clear hmod ho hi hie hq hh
            subst hzf
            go_wp2_with fail
            go_ret2
            exact ⟨Ao, co, rfl, HX.out.2, HX.out.1⟩
set_option maxRecDepth 100000 in
set_option maxHeartbeats 2000000 in
theorem refwithin7_any (A : Option Addr) (n c : Nat) (A2 : Option Addr) (n2 c2 : Nat) (a b : List Nm) (ok ok2 : Nat → Prop) (w : World) (h : nmsR.rel w ok [.slice A n c] a) (h2 : nmsR.rel w ok2 [.slice A2 n2 c2] b) (hax : ∀ x ∈ a, x.length ≤ 1000000) (hbx : ∀ x ∈ b, x.length ≤ 1000000) :
    Calls Tryz.prog 31 #[.slice A n c, .slice A2 n2 c2] w fun r w' => r = .returned (.bool (withinO a b)) ∧ Mod (fun _ => False) w w' := by
  obtain ⟨rfl, hcap, hbig, -, hrow⟩ := nms_row h
  have RB := fun W (hW : Mod (fun _ => False) w W) => Rd.mod h2 hW (fun _ _ => id)
  have ra := refright7_any A a.length c a _ w h hax
  obtain ⟨p, hp⟩ : ∃ p, p = rightO a := ⟨_, rfl⟩
  obtain ⟨q, hq⟩ : ∃ q, q = rightO b := ⟨_, rfl⟩
  rw [← hp] at ra
  have hz : withinO a b = (p && q && a.all fun c => b.contains c) := by rw [hp, hq]; rfl
  obtain ⟨z, hzz⟩ : ∃ z, z = withinO a b := ⟨_, rfl⟩
  rw [← hzz]
  rw [hz] at hzz
  have H0 := Lib.hid (And.intro hbx (And.intro RB (And.intro ra (And.intro hrow (And.intro hq hzz))))); clear h h2 RB hax hbx ra hrow hp hq hz hzz
  go_enter Tryz.func31, Tryz.ntmps31
  go_upto_region 1 with fail
  go_cut [5] (fun s5 wx => s5 = .bool (p && q) ∧ Mod (fun _ => False) w wx)
  case first =>
    go_wp2_with fail
    refine H0.out.2.2.1.mono ?_
    rintro r w1 ⟨rfl, hm⟩
    cases p with
    | false =>
      have H1 := Lib.hid hm; clear hm
      go_wp2_with fail
      go_meet
      exact ⟨rfl, H1.out⟩
    | true =>
      have rb := refright7_any A2 n2 c2 b _ w1 (H0.out.2.1 w1 hm) H0.out.1
      rw [← H0.out.2.2.2.2.1] at rb
      have H1 := Lib.hid (And.intro hm rb); clear hm rb
      go_wp2_with fail
      refine H1.out.2.mono ?_
      rintro r w2 ⟨rfl, hm⟩
      have H2 := Lib.hid (tr0 H1.out.1 hm); clear hm
      go_wp2_with fail
      go_meet
      exact ⟨by simp, H2.out⟩
  case rest =>
    obtain ⟨rfl, hmc⟩ := hcut
    have HC := Lib.hid hmc; clear hmc
    go_wp2_with fail
    go_loopg [5, 16] a.length (fun f s5 si wr => ∃ i : Nat, si = .int .i64 i ∧ s5 = .bool (p && q && (a.take i).all fun c => b.contains c) ∧ i + f = a.length ∧ Mod (fun _ => False) w wr)
    case atStart => exact ⟨0, rfl, by simp, by omega, HC.out⟩
    case round =>
      obtain ⟨i, rfl, rfl, hi, hmod⟩ := hrel
      obtain ⟨t, ht⟩ : ∃ t, t = (p && q && (a.take i).all fun c => b.contains c) := ⟨_, rfl⟩
      rw [← ht]
      by_cases hlt : i < a.length
      · obtain ⟨x, hx⟩ : ∃ x, a[i]? = some x := ⟨_, List.getElem?_eq_getElem hlt⟩
        obtain ⟨ad, rfl, -, hc, -⟩ := H0.out.2.2.2.1 i x hx
        have hc := (hmod.cell (lt_of_cell hc) id).trans hc
        have hh := refhas7_any A2 n2 c2 b x _ wr (H0.out.2.1 wr hmod)
        obtain ⟨y, hy⟩ : ∃ y, y = b.contains x := ⟨_, rfl⟩
        have htk : (p && q && (a.take (i + 1)).all fun c => b.contains c) = (t && y) := by
          rw [List.take_add_one, hx, List.all_append, ht, hy]; simp [Bool.and_assoc]
        rw [← hy] at hh
        have HX := Lib.hid (And.intro hi (And.intro hmod (And.intro htk hh))); clear hi hmod htk hh hy hx ht
        cases t with
        | false =>
          go_wp2_with fail
          go_roundg (gk - 1)
          case measure => have := HX.out.1; omega
          case rel => exact ⟨i + 1, by go_num, by rw [HX.out.2.2.1]; rfl, by have := HX.out.1; omega, HX.out.2.1⟩
        | true =>
          go_wp2_with fail
          refine HX.out.2.2.2.mono ?_
          rintro r w3 ⟨rfl, hm⟩
          have H3 := Lib.hid (tr0 HX.out.2.1 hm); clear hm hc
          go_wp2_with fail
          go_roundg (gk - 1)
          case measure => have := HX.out.1; omega
          case rel => exact ⟨i + 1, by go_num, by rw [HX.out.2.2.1]; simp, by have := HX.out.1; omega, H3.out⟩
      · have hie : a.take i = a := List.take_of_length_le (by omega)
        rw [hie, ← H0.out.2.2.2.2.2] at ht
        have HX := Lib.hid (And.intro hmod ht); clear hmod hie hi ht
        go_wp2_with fail
        go_ret
        exact ⟨by rw [HX.out.2]; rfl, HX.out.1⟩
set_option maxRecDepth 100000 in
set_option maxHeartbeats 1000000 in
theorem refput7_any (A : Option Addr) (n c : Nat) (l : List Nm) (ok : Nat → Prop) (w : World) (h : nmsR.rel w ok [.slice A n c] l) (hl : l.length ≤ 1000) (hnm : ∀ e ∈ l, e.length ≤ 1000000) :
    Calls Tryz.prog 33 #[.slice A n c] w fun r w' => r = .returned (.string ⟨(encO l).toArray⟩) ∧ Mod (fun _ => False) w w' := by
  obtain ⟨rfl, hcap, hbig, -, hrow⟩ := nms_row h
  obtain ⟨b0, hb0⟩ : ∃ b0, b0 = encF 10 l.length := ⟨_, rfl⟩
  have hb0l : b0.length ≤ 10 := by rw [hb0]; exact encF_len 10 _
  obtain ⟨z, hz⟩ : ∃ z, z = encO l := ⟨_, rfl⟩
  rw [← hz]
  have hn := refnum_any 9 (by decide) l.length w (by omega) (by omega) (by omega)
  rw [show (9 + 1) = 10 from rfl, ← hb0] at hn
  unfold mkStr at hn
  have hend : z = b0 ++ l.flatMap encC := by rw [hz]; unfold encO; rw [hb0]
  have H0 := Lib.hid (And.intro hrow (And.intro hnm (And.intro hn hend))); clear h hrow hnm hn hb0 hz hend
  go_enter Tryz.func33, Tryz.ntmps33
  go_wp2_with fail
  refine H0.out.2.2.1.mono ?_
  rintro r w1 ⟨rfl, hm1⟩
  have H1 := Lib.hid hm1; clear hm1
  go_wp2_with fail
  go_loopg [3, 11] l.length (fun f so si wr => ∃ (i : Nat), si = .int .i64 i ∧ i + f = l.length ∧ so = .string ⟨(b0 ++ (l.take i).flatMap encC).toArray⟩ ∧ Mod (fun _ => False) w wr)
  case atStart => exact ⟨0, rfl, by omega, by simp, H1.out⟩
  case round =>
    obtain ⟨i, rfl, hi, rfl, hmod⟩ := hrel
    by_cases hlt : i < l.length
    · obtain ⟨d, hx⟩ : ∃ d, l[i]? = some d := ⟨_, List.getElem?_eq_getElem hlt⟩
      obtain ⟨ad, rfl, -, hc, -⟩ := H0.out.1 i d hx
      have hc := (hmod.cell (lt_of_cell hc) id).trans hc
      have hd6 : d.length ≤ 1000000 := H0.out.2.1 _ (List.mem_of_getElem? hx)
      have hfl := flatC_len (l.take i) (fun e he => H0.out.2.1 e (List.mem_of_mem_take he))
      rw [List.length_take] at hfl
      obtain ⟨bi, hbi⟩ : ∃ bi, bi = b0 ++ (l.take i).flatMap encC := ⟨_, rfl⟩
      have hbil : bi.length ≤ 2000000000 := by
        rw [hbi, List.length_append]
        have : 1000010 * min i l.length ≤ 1000010 * 1000 := Nat.mul_le_mul_left _ (by omega)
        omega
      obtain ⟨t, ht⟩ : ∃ t, t = encF 10 d.length ++ d := ⟨_, rfl⟩
      have htl : t.length ≤ 1000010 := by rw [ht, List.length_append]; have := encF_len 10 (d.length : Int); omega
      have htk : b0 ++ (l.take (i + 1)).flatMap encC = bi ++ t := by rw [List.take_add_one, hx, List.flatMap_append, hbi, ht]; simp [encC]
      have htx := fun W => reftext_any ⟨d.toArray⟩ (by show d.length ≤ _; omega) W
      unfold mkStr at htx
      simp only [show (⟨d.toArray⟩ : ByteArray).size = d.length from rfl, ← ht] at htx
      rw [← hbi]
      have hc1' : (⟨bi.toArray⟩ : ByteArray) ++ ⟨t.toArray⟩ = ⟨(bi ++ t).toArray⟩ := by apply ByteArray.ext; simp
      have e5 : ¬ (9223372036854775807 < bi.length + t.length) := by omega
      have HX := Lib.hid (And.intro hi (And.intro hmod (And.intro htk htx))); clear hi hmod htk hx hbi hfl htx ht
      go_wp2_with fail
      refine (HX.out.2.2.2 wr).mono ?_
      rintro r w2 ⟨rfl, hm2⟩
      have H2 := Lib.hid (tr0 HX.out.2.1 hm2); clear hm2 hc
      go_wp2_with fail
      go_roundg (gk - 1)
      case measure => have := HX.out.1; omega
      case rel => exact ⟨i + 1, by go_num, by have := HX.out.1; omega, by rw [HX.out.2.2.1], H2.out⟩
    · have hie : l.take i = l := List.take_of_length_le (by omega)
      rw [hie, ← H0.out.2.2.2]
      have HX := Lib.hid hmod; clear hmod hie hi
      go_wp2_with fail
      go_ret
      exact ⟨rfl, HX.out⟩
end Go.Proofs.YthhepnaanjicjaaGreatDoor

/- Regions that draw their order and whose guards part them into stretches (a && b && ..): a stretch at a time. No program in it. -/
namespace Go.Proofs.YthhepnaanjicjaaGreatDoor
open Go.RowKit
set_option linter.unusedVariables false
section
variable {P : Program} {ops : Array Oper} {md : Region.Mode} {C : World → Prop}
/-- Of n operations the first k are done. -/
def upTo (n k : Nat) : Array Bool := ((List.range n).map fun j => decide (j < k)).toArray
theorem upTo_get (n k j : Nat) (d : Bool) (hj : j < n) : (upTo n k).getD j d = decide (j < k) := by
  unfold upTo
  simp [Array.getD_eq_getD_getElem?, hj]
theorem upTo_zero (n : Nat) : Array.replicate n false = upTo n 0 := by
  apply Array.ext
  · simp [upTo]
  · intro i h1 h2; simp [upTo]
theorem getD_tf {listed : Array Bool} {i : Nat} (h : listed.getD i true = false) : listed.getD i false = false := by
  rw [Array.getD_eq_getD_getElem?] at h ⊢
  cases hx : listed[i]? with
  | none => rfl
  | some b => rw [hx] at h; exact h
def Closed (md : Region.Mode) (ops : Array Oper) (listed : Array Bool) : Prop :=
  ∀ j o, ops[j]? = some o → listed.getD j true = true → ∀ e ∈ o.after, Region.binds md e = true → listed.getD e.on false = true
theorem Closed.set {listed : Array Bool} {i : Nat} (h : Closed md ops listed) (hi : i ∈ Region.ready md ops listed) : Closed md ops (listed.setIfInBounds i true) := by
  intro j o ho hj e he hb
  refine getD_set_true ?_
  by_cases hji : j = i
  · subst hji
    obtain ⟨_, o', ho', hall⟩ := mem_ready.1 hi
    rw [ho] at ho'; cases ho'
    exact hall e he hb
  · rw [getD_set_ne true (Ne.symm hji)] at hj
    exact h j o ho hj e he hb
def shutB (md : Region.Mode) (ops : Array Oper) (listed : Array Bool) : Bool :=
  (List.range ops.size).all fun j => match ops[j]? with
    | none => true
    | some o => !listed.getD j true || o.after.all fun e => !Region.binds md e || listed.getD e.on false
theorem shutB_spec {listed : Array Bool} (h : shutB md ops listed = true) : Closed md ops listed := by
  intro j o ho hj e he hb
  have hlt : j < ops.size := (Array.getElem?_eq_some_iff.1 ho).1
  have h1 := List.all_eq_true.1 h j (List.mem_range.2 hlt)
  simp only [ho, hj, Bool.not_true, Bool.false_or] at h1
  have h2 := Array.all_eq_true_iff_forall_mem.1 h1 e he
  simpa [hb] using h2
/-- Each of the first k stands ahead of number k - 1, and each later one behind it. -/
def gapB (md : Region.Mode) (ops : Array Oper) (k : Nat) : Bool :=
  (List.range ops.size).all fun j => match ops[j]? with
    | none => true
    | some o => if j < k then j + 1 == k || (List.range k).any fun i => decide (j < i) && match ops[i]? with
        | some u => u.after.any fun e => Region.binds md e && e.on == j
        | none => false
      else o.after.any fun e => Region.binds md e && (e.on + 1 == k || (decide (k ≤ e.on) && decide (e.on < j)))
theorem gap_up {k : Nat} (hc : gapB md ops k = true) (hk : k ≤ ops.size) {listed : Array Bool} (hcl : Closed md ops listed) : ∀ d i, k - i = d → i < k → listed.getD i true = false → listed.getD (k - 1) true = false := by
  intro d
  induction d using Nat.strongRecOn with
  | ind d ih =>
    intro i hd hi hun
    have hlt : i < ops.size := by omega
    have h1 := List.all_eq_true.1 hc i (List.mem_range.2 hlt)
    obtain ⟨o, ho⟩ : ∃ o, ops[i]? = some o := ⟨_, Array.getElem?_eq_getElem hlt⟩
    simp only [ho, if_pos hi, Bool.or_eq_true, beq_iff_eq] at h1
    rcases h1 with h1 | h1
    · rw [show k - 1 = i by omega]; exact hun
    · obtain ⟨i', hi', h2⟩ := List.any_eq_true.1 h1
      rw [List.mem_range] at hi'
      simp only [Bool.and_eq_true, decide_eq_true_eq] at h2
      obtain ⟨hlt', h3⟩ := h2
      cases hu : ops[i']? with
      | none => rw [hu] at h3; cases h3
      | some u =>
        rw [hu] at h3
        obtain ⟨n, hn, h4⟩ := Array.any_eq_true.1 h3
        simp only [Bool.and_eq_true, beq_iff_eq] at h4
        refine ih (k - i') (by omega) i' rfl hi' ?_
        cases hg : listed.getD i' true with
        | false => rfl
        | true =>
          have h5 := hcl i' u hu hg (u.after[n]) (Array.getElem_mem hn) h4.1
          rw [h4.2, getD_tf hun] at h5
          cases h5
theorem gap_after {k : Nat} (hc : gapB md ops k = true) {j : Nat} {o : Oper} (ho : ops[j]? = some o) (hj : ¬ j < k) : ∃ e ∈ o.after, Region.binds md e = true ∧ (e.on + 1 = k ∨ k ≤ e.on ∧ e.on < j) := by
  have hlt : j < ops.size := (Array.getElem?_eq_some_iff.1 ho).1
  have h1 := List.all_eq_true.1 hc j (List.mem_range.2 hlt)
  simp only [ho, if_neg hj] at h1
  obtain ⟨n, hn, h2⟩ := Array.any_eq_true.1 h1
  simp only [Bool.and_eq_true, Bool.or_eq_true, beq_iff_eq, decide_eq_true_eq] at h2
  exact ⟨_, Array.getElem_mem hn, h2.1, h2.2⟩
theorem gap_lt {k : Nat} (hc : (k == ops.size || gapB md ops k) = true) (hk : k ≤ ops.size) {listed : Array Bool} (hcl : Closed md ops listed) {i : Nat} (hi : i < k) (hun : listed.getD i true = false) : ∀ j ∈ Region.ready md ops listed, j < k := by
  intro j hj
  obtain ⟨hjun, o, ho, hall⟩ := mem_ready.1 hj
  have hlt : j < ops.size := (Array.getElem?_eq_some_iff.1 ho).1
  simp only [Bool.or_eq_true, beq_iff_eq] at hc
  rcases hc with hc | hc
  · omega
  have hl := gap_up hc hk hcl _ i rfl hi hun
  have hdown : ∀ d, ∀ j, j = d → ¬ j < k → j < ops.size → listed.getD j true = false := by
    intro d
    induction d using Nat.strongRecOn with
    | ind d ih =>
      intro j hd hjk hjs
      obtain ⟨o, ho⟩ : ∃ o, ops[j]? = some o := ⟨_, Array.getElem?_eq_getElem hjs⟩
      obtain ⟨e, he, hb, h2⟩ := gap_after hc ho hjk
      cases hg : listed.getD j true with
      | false => rfl
      | true =>
        have h5 := hcl j o ho hg e he hb
        rcases h2 with h2 | ⟨h2, h3⟩
        · rw [show e.on = k - 1 by omega, getD_tf hl] at h5; cases h5
        · rw [getD_tf (ih e.on (by omega) e.on rfl (by omega) (by omega))] at h5; cases h5
  by_cases hjk : j < k
  · exact hjk
  · exfalso
    obtain ⟨e, he, hb, h2⟩ := gap_after hc ho hjk
    have h5 := hall e he hb
    rcases h2 with h2 | ⟨h2, h3⟩
    · rw [show e.on = k - 1 by omega, getD_tf hl] at h5; cases h5
    · rw [getD_tf (hdown e.on e.on rfl (by omega) (by omega))] at h5; cases h5
/-- Whatever order is picked till the first k are done. -/
def wpAnyK (P : Program) (md : Region.Mode) (ops : Array Oper) (C : World → Prop) (k : Nat) (R : Act → Prop) : Nat → Array Bool → Act → Prop
  | 0, listed, a => listed = upTo ops.size k ∧ R a
  | f + 1, listed, a => Region.ready md ops listed ≠ [] ∧ ∀ i ∈ Region.ready md ops listed, i < k ∧ qOp P ops C i (wpAnyK P md ops C k R f (listed.setIfInBounds i true)) a
theorem wpAny_of_K {k m : Nat} {R : Act → Prop} {Q : Exit → Act → World → Prop} (hR : ∀ a w, C w → R a → wpAny P md ops Q m (upTo ops.size k) a w) :
    ∀ (f : Nat) (listed : Array Bool) (a : Act) (w : World), C w → wpAnyK P md ops C k R f listed a → wpAny P md ops Q (f + m) listed a w
  | 0, listed, a, w, hw, h => by obtain ⟨rfl, h⟩ := h; rw [Nat.zero_add]; exact hR a w hw h
  | f + 1, listed, a, w, hw, h => by
    rw [show f + 1 + m = (f + m) + 1 by omega]
    exact ⟨fun e => absurd e h.1, fun i hi => wpOp_of_qOp hw (fun a' w' hw' hk => wpAny_of_K hR f _ a' w' hw' hk) (h.2 i hi).2⟩
theorem wpAnyK_first {k : Nat} (hk : k ≤ ops.size) (hc : (k == ops.size || gapB md ops k) = true) {R : Act → Prop} {i : Nat} {oi : Oper} {v : Value} (hik : i < k) (hi : ops[i]? = some oi) (hsel : ∀ (j : Nat) (o : Oper) cs b, ops[j]? = some o → o.op ≠ .select cs b) :
    ∀ (fuel : Nat) (listed : Array Bool) (a : Act), Closed md ops listed →
      (∀ j oj, ops[j]? = some oj → j ≠ i → listed.getD j true = false → (∀ e ∈ oj.after, Region.binds md e = true → e.on ≠ i) → oi.apart ops oj = true) →
      i ∈ Region.ready md ops listed → YieldsIn P ops C oi v a →
      wpAnyK P md ops C k R fuel (listed.setIfInBounds i true) (a.put oi.dst v) → wpAnyK P md ops C k R (fuel + 1) listed a := by
  intro fuel
  induction fuel with
  | zero =>
    intro listed a hcl _ hr hy H
    refine ⟨fun h => (by rw [h] at hr; cases hr), fun j hj => ?_⟩
    have hjk := gap_lt hc hk hcl hik (mem_ready.1 hr).1 j hj
    refine ⟨hjk, ?_⟩
    by_cases hji : j = i
    · subst hji; exact hy.qOp hi H
    · have h1 := (mem_ready.1 hj).1
      rw [← getD_set_ne true (Ne.symm hji), H.1, upTo_get _ _ _ _ (by omega)] at h1
      simp [hjk] at h1
  | succ fuel ih =>
    intro listed a hcl hfree hr hy H
    refine ⟨fun h => (by rw [h] at hr; cases hr), fun j hj => ?_⟩
    have hjk := gap_lt hc hk hcl hik (mem_ready.1 hr).1 j hj
    refine ⟨hjk, ?_⟩
    by_cases hji : j = i
    · subst hji; exact hy.qOp hi H
    · have h1 := (H.2 j (ready_mono hj hji)).2
      obtain ⟨hjun, oj, hoj, hall⟩ := mem_ready.1 hj
      have hnot : ∀ e ∈ oj.after, Region.binds md e = true → e.on ≠ i := fun e he hb heq => by
        have h1 := hall e he hb
        have h0 := (mem_ready.1 hr).1
        rw [heq, getD_tf h0] at h1
        cases h1
      have h2 := qOp_put hoj (hfree j oj hoj hji hjun hnot) (fun cs b => hsel i oi cs b hi) (fun cs b => hsel j oj cs b hoj) hy h1
      have hfree' : ∀ k ok, ops[k]? = some ok → k ≠ i → (listed.setIfInBounds j true).getD k true = false →
          (∀ e ∈ ok.after, Region.binds md e = true → e.on ≠ i) → oi.apart ops ok = true := fun k ok hk hki hun hno => by
        refine hfree k ok hk hki ?_ hno
        by_cases hjk : j = k
        · subst hjk; exact hjun
        · rw [getD_set_ne true hjk] at hun; exact hun
      refine qOp_mono (fun a' h3 => ih (listed.setIfInBounds j true) a' (hcl.set hj) hfree' (ready_mono hr (Ne.symm hji)) h3.1 ?_) h2
      rw [Array.setIfInBounds_comm _ _ hji]
      exact h3.2
def segB (md : Region.Mode) (ops : Array Oper) (k : Nat) : Nat → Nat → Array Bool → Bool
  | 0, _, listed => listed == upTo ops.size k
  | f + 1, m, listed => (Region.ready md ops listed).contains m && Region.free md ops listed m && segB md ops k f (m + 1) (listed.setIfInBounds m true)
theorem wpAnyK_lex {k : Nat} (hk : k ≤ ops.size) (hc : (k == ops.size || gapB md ops k) = true) (hs : Region.noSelect ops = true) {R : Act → Prop} : ∀ (l : List Oper) (m : Nat) (listed : Array Bool) (a : Act), (∀ j, j < l.length → l[j]? = ops[m + j]?) →
    m + l.length = k → Closed md ops listed → segB md ops k l.length m listed = true → wpQuiet P ops C R l a → wpAnyK P md ops C k R l.length listed a
  | [], _, listed, _, _, _, _, hB, h => ⟨by simpa [segB] using hB, h⟩
  | o :: l, m, listed, a, hl, hm, hcl, hB, h => by
    have h0 : ops[m]? = some o := by simpa using (hl 0 (by simp)).symm
    simp only [List.length_cons, segB, Bool.and_eq_true] at hB hm
    obtain ⟨⟨hr, hf⟩, hB'⟩ := hB
    have hst : qOp P ops C m (wpQuiet P ops C R l) a := by unfold qOp; simp only [h0]; exact h
    obtain ⟨v, hy, hK⟩ := yieldsIn_of_qOp h0 hst
    have hr' : m ∈ Region.ready md ops listed := by simpa using hr
    exact wpAnyK_first hk hc (by omega) h0 (Region.noSelect_spec hs) l.length listed a hcl (Region.free_spec h0 hf) hr' hy
      (wpAnyK_lex hk hc hs l (m + 1) _ _ (fun j hj => by have := hl (j + 1) (by simp; omega); simpa [Nat.add_assoc, Nat.add_comm 1 j] using this) (by omega) (hcl.set hr') hB' hK)
def stretchB (ops : Array Oper) (m k : Nat) : Bool :=
  decide (m ≤ k) && decide (k ≤ ops.size) && Region.noSelect ops && shutB .any ops (upTo ops.size m) && (k == ops.size || gapB .any ops k) && segB .any ops k (k - m) m (upTo ops.size m)
/-- The operations m .. k - 1 of a drawn region, walked in the text's order. -/
theorem wpAny_stretch (m k : Nat) {l : List Oper} {Q : Exit → Act → World → Prop} {a : Act} {w : World} (hB : stretchB l.toArray m k = true) (hC : C w)
    (h : ∀ R, R = (l.drop m).take (k - m) → wpQuiet P l.toArray C (fun a' => ∀ w', C w' → wpAny P .any l.toArray Q (l.length - k) (upTo l.length k) a' w') R a) : wpAny P .any l.toArray Q (l.length - m) (upTo l.length m) a w := by
  simp only [stretchB, Bool.and_eq_true, decide_eq_true_eq, List.size_toArray] at hB
  obtain ⟨⟨⟨⟨⟨h1, h2⟩, h3⟩, h4⟩, h5⟩, h6⟩ := hB
  have hlen : ((l.drop m).take (k - m)).length = k - m := by rw [List.length_take, List.length_drop]; omega
  have key := wpAnyK_lex (P := P) (ops := l.toArray) (md := .any) (C := C) (k := k) (by simpa using h2) (by simpa using h5) h3 ((l.drop m).take (k - m)) m (upTo l.length m) a
    (fun j hj => by rw [hlen] at hj; rw [List.getElem?_take_of_lt hj, List.getElem?_drop]; simp) (by omega) (shutB_spec h4) (by rw [hlen]; exact h6) (h _ rfl)
  have := wpAny_of_K (Q := Q) (m := l.length - k) (fun a' w' hw' hk => by simpa using hk w' hw') _ _ _ w hC key
  rw [hlen, show k - m + (l.length - k) = l.length - m by omega] at this
  exact this
/-- the same, the numbers named -/
theorem stretch (n m k f f' : Nat) {l : List Oper} {listed : Array Bool} {Q : Exit → Act → World → Prop} {a : Act} {w : World} (hn : l.length = n) (hf : f = n - m) (hf' : n - k = f') (hL : listed = upTo n m) (hB : stretchB l.toArray m k = true) (hC : C w)
    (h : ∀ R, R = (l.drop m).take (k - m) → wpQuiet P l.toArray C (fun a' => ∀ w', C w' → wpAny P .any l.toArray Q f' (upTo n k) a' w') R a) : wpAny P .any l.toArray Q f listed a w := by
  subst hn hf hf' hL
  exact wpAny_stretch m k hB hC h
theorem wp_region_stretch {id : Nat} {Q : Exit → Act → World → Prop} {a : Act} {w : World} {l : List Oper} (hm : P.follows .mixedOrders = true)
    (h : wpAny P .any l.toArray Q (l.length - 0) (upTo l.length 0) a w.drew) : (Code.region id l.toArray true).wp P Q a w := by
  refine wp_region_any hm ?_
  rw [upTo_zero]
  simpa using h
theorem wp_region_stretch' {id : Nat} {Q : Exit → Act → World → Prop} {a : Act} {w : World} {l : List Oper} (n : Nat) (hn : l.length = n) (hm : P.follows .mixedOrders = true)
    (h : wpAny P .any l.toArray Q n (upTo n 0) a w.drew) : (Code.region id l.toArray true).wp P Q a w := by
  subst hn; exact wp_region_stretch hm h
theorem wpAny_end {l : List Oper} {Q : Exit → Act → World → Prop} {a : Act} {w : World} {n : Nat} (hr : Region.ready .any l.toArray (upTo l.length l.length) = []) (h : Q .normal a w) : wpAny P .any l.toArray Q n (upTo l.length l.length) a w := wpAny_done hr h _
end
end Go.Proofs.YthhepnaanjicjaaGreatDoor

/- Lists of names as arguments, in the rows' words. -/
namespace Go.Proofs.YthhepnaanjicjaaGreatDoor
open Go.RowKit
set_option linter.unusedVariables false
theorem nms_opens : Opens Tryz.prog nmsR 24 := by
  intro H enc W base spare held fuel cs d h hw
  obtain ⟨xs, hx⟩ := (opens_slice (R := Rd.string) Tryz.underlying24 (by kernel_rfl) (by kernel_rfl) str_opens) H enc W base spare held fuel cs d h hw
  exact ⟨_, nms_strs hx⟩
end Go.Proofs.YthhepnaanjicjaaGreatDoor
