/- Texts of this claim, joined: RefL1, RefL2, RefL3, RefL4, RefL5, LabFl, LawLabelFlows, CardLabelFlows. -/
import Derived.Test.YthhepnaanjicjaaGreatDoorP5
import Derived.Test.YthhepnaanjicjaaGreatDoorP6
import Derived.Deep.DeepCutAuto
import Derived.Test.YthhepnaanjicjaaGreatDoorP7
import Derived.WalkKit
import Derived.ProofKit
import Derived.OpenShut
import Derived.ShutString
import Derived.ChangeOld
import Derived.Below
import Derived.SizedLaws
import Derived.ChangeVars
import Derived.JoinedOf
import Derived.RowKitTokens
import Derived.LaidLaws
import Derived.LaidHandle
import Derived.Stop.Joined
import Derived.Test.YthhepnaanjicjaaGreatDoorRows
import Derived.Test.YthhepnaanjicjaaGreatDoorCards
import Derived.Test.YthhepnaanjicjaaGreatDoorTie
import Derived.SevenTiedAt
/- Layer 6, the document's answer: isCat, Level, Right. -/
namespace Go.Proofs.YthhepnaanjicjaaGreatDoor
open Go.RowKit Go.Shelf
set_option linter.unusedVariables false
set_option maxRecDepth 100000 in
set_option maxHeartbeats 1000000 in
theorem isCat_any (s : List UInt8) (hs : s.length ≤ 1000000) (w : World) :
    Calls Tryz.prog 93 #[.string ⟨s.toArray⟩] w fun r w' => r = .returned (.bool (rightB s)) ∧ Mod (fun _ => False) w w' := by
  have hg := get_any s hs w
  rw [getB_eq] at hg
  unfold encS at hg
  obtain ⟨z, hz⟩ : ∃ z, z = rightB s := ⟨_, rfl⟩
  rw [← hz]
  unfold rightB at hz
  have HG := Lib.hid (And.intro hg hz); clear hg hz
  go_enter Tryz.func93, Tryz.ntmps93
  go_wp2_with fail
  refine HG.out.1.mono ?_
  rintro r w1 ⟨hm, ⟨hn, rfl⟩ | ⟨p, n, A, c, hn, rfl, -⟩⟩
  · have hzf : z = false := by rw [HG.out.2, hn]; rfl
    subst hzf
    have H1 := Lib.hid hm; clear hm hn
    go_wp2_with fail
    go_ret
    exact ⟨rfl, H1.out.alloc _⟩
  · have hzf : z = true := by rw [HG.out.2, hn]; rfl
    subst hzf
    have H1 := Lib.hid hm; clear hm hn
    go_wp2_with fail
    go_ret
    exact ⟨rfl, H1.out.alloc _⟩
set_option maxRecDepth 100000 in
set_option maxHeartbeats 1000000 in
theorem reflevel_any (A : Option Addr) (n c : Nat) (l : List Entry) (s : List UInt8) (ok : Nat → Prop) (w : World) (h : labR.rel w ok [.slice A n c] l) :
    Calls Tryz.prog 51 #[.slice A n c, .string ⟨s.toArray⟩] w fun r w' => r = .returned (.int .i64 (levelL l s)) ∧ Mod (fun _ => False) w w' := by
  obtain ⟨rfl, hcap, -, hbig, -, hrow⟩ := lab_row h
  obtain ⟨z, hz⟩ : ∃ z, z = levelL l s := ⟨_, rfl⟩
  rw [← hz]
  have H0 := Lib.hid (And.intro hrow hz); clear h hrow hz
  go_enter Tryz.func51, Tryz.ntmps51
  go_wp2_with fail
  go_loopg [9] l.length (fun f si wr => ∃ (i : Nat), si = .int .i64 i ∧ i + f = l.length ∧ z = levelL (l.drop i) s ∧ Mod (fun _ => False) w wr)
  case atStart => exact ⟨0, rfl, by omega, H0.out.2, .refl _ _⟩
  case round =>
    obtain ⟨i, rfl, hi, hz, hmod⟩ := hrel
    by_cases hlt : i < l.length
    · obtain ⟨d, m, hx⟩ : ∃ d m, l[i]? = some (ent d m) := by
        obtain ⟨d, m, e⟩ := ent_cases l[i]
        exact ⟨d, m, by rw [← e]; simp [hlt]⟩
      obtain ⟨ad, rfl, -, hc0, hc1, hdl, -⟩ := row_ent (H0.out.1.step (w1 := wr) (ok1 := fun _ => True) (fun k hk hl => ⟨trivial, hmod.block k hl (fun h => h)⟩)) hx
      have hda : l.drop i = ent d m :: l.drop (i + 1) := by
        rw [List.drop_eq_getElem_cons hlt]
        rw [List.getElem?_eq_getElem hlt] at hx
        rw [Option.some.inj hx]
      rw [hda, levelL_cons, nm_ent, lev_ent] at hz
      by_cases hd : d = s
      · subst hd
        rw [if_pos rfl] at hz
        have HX := Lib.hid (And.intro hi (And.intro hz hmod)); clear hi hmod hx hda
        subst hz
        go_wp2_with fail
        go_ret
        exact ⟨rfl, HX.out.2.2.alloc _⟩
      · rw [if_neg hd] at hz
        have e2 : (d == s) = false := by simp [hd]
        have HX := Lib.hid (And.intro hi (And.intro hz hmod)); clear hi hz hmod hx hda
        go_wp2_with fail
        go_roundg (gk - 1)
        case measure => have := HX.out.1; omega
        case rel => exact ⟨i + 1, by go_num, by have := HX.out.1; omega, HX.out.2.1, HX.out.2.2.alloc _⟩
    · have hda : l.drop i = [] := List.drop_eq_nil_of_le (by omega)
      have hzf : z = 1 := by rw [hz, hda]; rfl
      subst hzf
      have HX := Lib.hid (And.intro hi hmod); clear hi hz hmod hda
      go_wp2_with fail
      go_ret
      exact ⟨rfl, HX.out.2⟩
set_option maxRecDepth 100000 in
set_option maxHeartbeats 800000 in
theorem refright_any (A : Option Addr) (n c : Nat) (l : List Entry) (ok : Nat → Prop) (w : World) (h : labR.rel w ok [.slice A n c] l) (hb : ∀ e ∈ l, (nm e).length ≤ 1000000) :
    Calls Tryz.prog 49 #[.slice A n c] w fun r w' => r = .returned (.bool (rightLB l)) ∧ Mod (fun _ => False) w w' := by
  obtain ⟨rfl, hcap, -, hbig, -, hrow⟩ := lab_row h
  obtain ⟨z, hz⟩ : ∃ z, z = rightLB l := ⟨_, rfl⟩
  rw [← hz]
  have H0 := Lib.hid (And.intro hb (And.intro hrow hz)); clear hb hrow h hz
  go_enter Tryz.func49, Tryz.ntmps49
  by_cases h8 : 8 < l.length
  · have e1 : decide ((8 : Int) < (l.length : Int)) = true := by simp; omega
    have hzf : z = false := by rw [H0.out.2.2]; exact rightLB_no fun hr => by have := hr.len; omega
    subst hzf
    go_wp2_with fail
    go_ret
    exact ⟨rfl, .refl _ _⟩
  have e1 : decide ((8 : Int) < (l.length : Int)) = false := by simp; omega
  go_wp2_with fail
  go_loopg [9] l.length (fun f si wr => ∃ i : Nat, si = .int .i64 i ∧ i + f = l.length ∧ (∀ e ∈ l.take i, rightB (nm e) = true ∧ 0 ≤ e.level ∧ e.level ≤ 3 ∧ e.level ≠ 1) ∧ (l.take i).Pairwise ltE ∧ Mod (fun _ => False) w wr)
  case atStart => exact ⟨0, rfl, by omega, by simp, by simp, .refl _ _⟩
  case round =>
    obtain ⟨i, rfl, hi, heach, hpair, hmod⟩ := hrel
    by_cases hlt : i < l.length
    · obtain ⟨d, m, hx⟩ : ∃ d m, l[i]? = some (ent d m) := by
        obtain ⟨d, m, e⟩ := ent_cases l[i]
        exact ⟨d, m, by rw [← e]; simp [hlt]⟩
      have hrow := H0.out.2.1.step (w1 := wr) (ok1 := ok) (fun k hk hl => ⟨hk, hmod.block k hl id⟩)
      obtain ⟨ad, rfl, -, hc0, hc1, hdl, hmr⟩ := row_ent hrow hx
      have hd6 : d.length ≤ 1000000 := by have := H0.out.1 _ (List.mem_of_getElem? hx); rwa [nm_ent] at this
      have htk : l.take (i + 1) = l.take i ++ [ent d m] := by rw [List.take_add_one, hx]; rfl
      have hcat := isCat_any d hd6 wr
      have HX := Lib.hid (And.intro hi (And.intro heach (And.intro hpair (And.intro hmod (And.intro hx (And.intro htk hrow)))))); clear hi heach hpair hmod hx htk hrow
      cases hb : rightB d with
      | false =>
        rw [hb] at hcat
        have HC := Lib.hid hcat; clear hcat
        have hzf : z = false := by rw [H0.out.2.2]; exact right_no HX.out.2.2.2.2.1 (.inl hb)
        subst hzf
        clear hb
        go_wp2_with fail
        refine HC.out.mono ?_
        rintro r w2 ⟨rfl, hm2⟩
        have H2 := Lib.hid (tr0 HX.out.2.2.2.1 hm2); clear hm2
        go_wp2_with fail
        go_ret
        exact ⟨rfl, H2.out⟩
      | true =>
        rw [hb] at hcat
        have HC := Lib.hid hcat; clear hcat
        have HB := Lib.hid hb; clear hb
        go_wp2_with fail
        refine HC.out.mono ?_
        rintro r w2 ⟨rfl, hm2⟩
        replace hc0 := cell_step hc0 (fun hl => hm2.block _ hl id)
        replace hc1 := cell_step hc1 (fun hl => hm2.block _ hl id)
        have H2 := Lib.hid (And.intro (tr0 HX.out.2.2.2.1 hm2) hm2); clear hm2
        by_cases hm : m = 0 ∨ m = 2 ∨ m = 3
        case neg =>
          have hzf : z = false := by rw [H0.out.2.2]; exact right_no HX.out.2.2.2.2.1 (.inr (by omega))
          subst hzf
          have e2 : (m != 0) = true := by simp; omega
          have e3 : (m != 2) = true := by simp; omega
          have e4 : (m != 3) = true := by simp; omega
          clear hm
          go_wp2_with fail
          go_ret
          exact ⟨rfl, H2.out.1⟩
        case pos =>
          have hlev : 0 ≤ m ∧ m ≤ 3 ∧ m ≠ 1 := by omega
          have HM := Lib.hid hlev; clear hlev
          by_cases hi0 : i = 0
          · subst hi0
            have ha0 : ad.add (0 * 2) = ad := by simp [Addr.add]
            rw [ha0] at hc0 hc1
            rcases hm with rfl | rfl | rfl
            all_goals
              go_wp2_with fail
              refine wp_region_mod (by kernel_rfl) (by kernel_rfl) ?_
              refine wpQuiet_hide (fun R hR => ?_)
              iterate 17 (first
                | ((first | refine wpQuiet_none hR rfl (fun K hK => ?_) | refine wpQuiet_take hR (by rfl) (fun K hK => ?_)); clear hR R; go_simp; refine hK _ (fun R hR => ?_); clear hK K)
                | (refine wpQuiet_skip hR (by rfl) (fun K hK => ?_); clear hR R; go_simp; refine hK _ (fun R hR => ?_); clear hK K))
              refine wpQuiet_end hR ?_
              clear hR R
              rintro _ ⟨W, rfl⟩
              have HW := Lib.hid (H2.out.1.trans W.2 (fun _ h => h.elim))
              clear hc0 hc1
              go_wp2_with fail
              go_roundg (gk - 1)
              case measure => have := HX.out.1; omega
              case rel =>
                obtain ⟨hi, heach, hpair, hmod, hx, htk, hrow⟩ := HX.out
                refine ⟨0 + 1, by go_num, by omega, ?_, take_pair hx hpair (fun k2 y hk hy => ?_), HW.out⟩
                · rw [htk]
                  intro e he
                  rcases List.mem_append.1 he with he | he
                  · exact heach e he
                  · rw [List.mem_singleton.1 he, nm_ent, lev_ent]
                    exact ⟨HB.out, HM.out⟩
                · omega
          · obtain ⟨k, hk⟩ : ∃ k, i = k + 1 := ⟨i - 1, by omega⟩
            obtain ⟨d2, m2, hy⟩ : ∃ d m, l[k]? = some (ent d m) := by
              obtain ⟨d, m, e⟩ := ent_cases (l[k]'(by omega))
              exact ⟨d, m, by rw [← e]; exact List.getElem?_eq_getElem (by omega)⟩
            obtain ⟨ad', hA, -, hp0, hp1, hdl2, -⟩ := row_ent HX.out.2.2.2.2.2.2 hy
            obtain rfl : ad = ad' := by injection hA
            have hd62 : d2.length ≤ 1000000 := by have := H0.out.1 _ (List.mem_of_getElem? hy); rwa [nm_ent] at this
            replace hp0 := cell_step hp0 (fun hl => H2.out.2.block _ hl id)
            have hwr : IntKind.i64.wrap ((i : Int) - 1) = (k : Int) := by rw [IntKind.wrap_i64]; omega
            have hkl : k < l.length := by omega
            have q0 : ∀ W : ModW w2, W.1.cell? (ad.add (k * 2)) = some (.string ⟨d2.toArray⟩) := fun W => ModW.cell hp0 W
            have q2 : ∀ W : ModW w2, W.1.cell? (ad.add (i * 2)) = some (.string ⟨d.toArray⟩) := fun W => ModW.cell hc0 W
            have hcm := fun W => refcompare_any d2 d hd62 hd6 W
            obtain ⟨zc, hzc⟩ : ∃ zc, zc = cmpB d2 d := ⟨_, rfl⟩
            have hcv := cmpB_val d2 d
            rw [← hzc] at hcv
            simp only [← hzc] at hcm
            unfold encS at hcm
            have e5 : decide (0 < i) = true := by simp; omega
            have hi1 : 0 < i := by omega
            have HA := Lib.hid hcm
            have HY := Lib.hid (And.intro hy (And.intro hk hzc))
            clear hcm hy hA hp0 hp1 hk hzc hi0 hd62
            by_cases hneg : zc = -1
            · subst hneg
              clear hcv
              rcases hm with rfl | rfl | rfl
              all_goals
                go_wp2_with fail
                refine wp_region_mod (by kernel_rfl) (by kernel_rfl) ?_
                refine wpQuiet_hide (fun R hR => ?_)
                iterate 17 (first
                  | ((first | refine wpQuiet_none hR rfl (fun K hK => ?_) | refine wpQuiet_take hR (by rfl) (fun K hK => ?_)); clear hR R; go_simp; first | (refine hK _ (fun R hR => ?_); clear hK K) | (apply Exists.intro; refine ⟨fun _ => ?_, hK _ (fun R hR => ?_)⟩; (go_at_call 73; refine quiet_mod (HA.out _)); clear hK K))
                  | (refine wpQuiet_skip hR (by rfl) (fun K hK => ?_); clear hR R; go_simp; refine hK _ (fun R hR => ?_); clear hK K))
                refine wpQuiet_end hR ?_
                clear hR R
                rintro _ ⟨W, rfl⟩
                have HW := Lib.hid (H2.out.1.trans W.2 (fun _ h => h.elim))
                clear hc0 hc1 q0 q2
                go_wp2_with fail
                go_roundg (gk - 1)
                case measure => have := HX.out.1; omega
                case rel =>
                  obtain ⟨hi, heach, hpair, hmod, hx, htk, hrow⟩ := HX.out
                  refine ⟨i + 1, by go_num, by omega, ?_, take_pair hx hpair (fun k2 y hk hy => ?_), HW.out⟩
                  · rw [htk]
                    intro e he
                    rcases List.mem_append.1 he with he | he
                    · exact heach e he
                    · rw [List.mem_singleton.1 he, nm_ent, lev_ent]
                      exact ⟨HB.out, HM.out⟩
                  · obtain ⟨h1, h2, h3⟩ := HY.out
                    obtain rfl : k = k2 := by omega
                    rw [h1] at hy
                    obtain rfl := Option.some.inj hy
                    unfold ltE ltB
                    rw [nm_ent, nm_ent, ← h3]
                    decide
            · have e6 : (zc != -1) = true := by simp [hneg]
              have hzf : z = false := by rw [H0.out.2.2]; have h1 := HX.out.2.2.2.2.1; rw [HY.out.2.1] at h1; exact right_no2 HY.out.1 h1 (by rw [← HY.out.2.2]; omega)
              subst hzf
              clear hcv hneg
              rcases hm with rfl | rfl | rfl
              all_goals
                go_wp2_with fail
                refine wp_region_mod (by kernel_rfl) (by kernel_rfl) ?_
                refine wpQuiet_hide (fun R hR => ?_)
                iterate 17 (first
                  | ((first | refine wpQuiet_none hR rfl (fun K hK => ?_) | refine wpQuiet_take hR (by rfl) (fun K hK => ?_)); clear hR R; go_simp; first | (refine hK _ (fun R hR => ?_); clear hK K) | (apply Exists.intro; refine ⟨fun _ => ?_, hK _ (fun R hR => ?_)⟩; (go_at_call 73; refine quiet_mod (HA.out _)); clear hK K))
                  | (refine wpQuiet_skip hR (by rfl) (fun K hK => ?_); clear hR R; go_simp; refine hK _ (fun R hR => ?_); clear hK K))
                refine wpQuiet_end hR ?_
                clear hR R
                rintro _ ⟨W, rfl⟩
                have HW := Lib.hid (H2.out.1.trans W.2 (fun _ h => h.elim))
                clear hc0 hc1 q0 q2
                go_wp2_with fail
                go_ret
                exact ⟨rfl, HW.out⟩
    · have hie : l.take i = l := List.take_of_length_le (by omega)
      rw [hie] at heach hpair
      have hzt : z = true := by rw [H0.out.2.2]; exact rightLB_iff.2 ⟨by omega, heach, asc_iff.2 hpair⟩
      subst hzt
      have HX := Lib.hid hmod; clear hmod heach hpair hie hi
      go_wp2_with fail
      go_ret
      exact ⟨rfl, HX.out⟩
end Go.Proofs.YthhepnaanjicjaaGreatDoor

/- Layer 6, the document's answer: Flows. -/
namespace Go.Proofs.YthhepnaanjicjaaGreatDoor
open Go.RowKit Go.Shelf
set_option linter.unusedVariables false
noncomputable def flA (a b : List Entry) (i : Nat) : Bool := (rightLB a && rightLB b) && (a.take i).all fun e => decide (e.level ≤ levelL b (nm e))
noncomputable def flB (a b : List Entry) (i : Nat) : Bool := flA a b a.length && (b.take i).all fun e => decide (levelL a (nm e) ≤ e.level)
theorem flA_succ {a b : List Entry} {i : Nat} {d : List UInt8} {m : Int} (h : a[i]? = some (ent d m)) : flA a b (i + 1) = (flA a b i && decide (m ≤ levelL b d)) := by
  unfold flA
  rw [List.take_add_one, h, List.all_append]
  simp [nm_ent, lev_ent, Bool.and_assoc]
theorem flB_succ {a b : List Entry} {i : Nat} {d : List UInt8} {m : Int} (h : b[i]? = some (ent d m)) : flB a b (i + 1) = (flB a b i && decide (levelL a d ≤ m)) := by
  unfold flB
  rw [List.take_add_one, h, List.all_append]
  simp [nm_ent, lev_ent, Bool.and_assoc]
theorem flB_end (a b : List Entry) : flB a b b.length = flowsLB a b := by
  unfold flB flA
  rw [List.take_length, List.take_length]
  cases ha : rightLB a with
  | false => rw [flowsLB_no fun h => by have := rightLB_iff.2 h.ra; rw [ha] at this; cases this]; rfl
  | true =>
    cases hb : rightLB b with
    | false => rw [flowsLB_no fun h => by have := rightLB_iff.2 h.rb; rw [hb] at this; cases this]; rfl
    | true =>
      have hf := flows_each (rightLB_iff.1 ha) (rightLB_iff.1 hb)
      rw [Bool.eq_iff_iff, flowsLB_iff, hf]
      simp [List.all_eq_true]
set_option maxRecDepth 100000 in
set_option maxHeartbeats 2000000 in
theorem refflows_any (A : Option Addr) (n c : Nat) (A2 : Option Addr) (n2 c2 : Nat) (a b : List Entry) (ok ok2 : Nat → Prop) (w : World) (h : labR.rel w ok [.slice A n c] a) (h2 : labR.rel w ok2 [.slice A2 n2 c2] b) (hla : ∀ e ∈ a, (nm e).length ≤ 1000000) (hlb : ∀ e ∈ b, (nm e).length ≤ 1000000) :
    Calls Tryz.prog 42 #[.slice A n c, .slice A2 n2 c2] w fun r w' => r = .returned (.bool (flowsLB a b)) ∧ Mod (fun _ => False) w w' := by
  have hr1 := refright_any A n c a ok w h hla
  obtain ⟨rfl, hcap, -, hbig, -, hrow⟩ := lab_row h
  obtain ⟨rfl, hcap2, -, hbig2, -, hrow2⟩ := lab_row h2
  obtain ⟨z, hz⟩ : ∃ z, z = flowsLB a b := ⟨_, rfl⟩
  rw [← hz]
  have hl1 := fun W (hW : Mod (fun _ => False) w W) s => reflevel_any A a.length c a s _ W (Rd.mod h hW (fun _ _ => id))
  have hl2 := fun W (hW : Mod (fun _ => False) w W) s => reflevel_any A2 b.length c2 b s _ W (Rd.mod h2 hW (fun _ _ => id))
  have H0 := Lib.hid (And.intro h (And.intro h2 (And.intro hrow (And.intro hrow2 (And.intro hla (And.intro hlb (And.intro hz (And.intro hl1 hl2)))))))); clear h h2 hrow hrow2 hla hlb hz hl1 hl2
  obtain ⟨p, hp⟩ : ∃ p, p = rightLB a := ⟨_, rfl⟩
  obtain ⟨q, hq⟩ : ∃ q, q = rightLB b := ⟨_, rfl⟩
  rw [← hp] at hr1
  have HP := Lib.hid (And.intro hp (And.intro hq hr1)); clear hp hq hr1
  have hfa : flA a b 0 = (p && q) := by unfold flA; rw [← HP.out.1, ← HP.out.2.1]; simp
  go_enter Tryz.func42, Tryz.ntmps42
  go_upto_region 1 with fail
  go_cut [5] (fun s5 wx => s5 = .bool (flA a b 0) ∧ Mod (fun _ => False) w wx)
  case first =>
    go_wp2_with fail
    refine HP.out.2.2.mono ?_
    rintro r w1 ⟨rfl, hm1⟩
    have hr2 := refright_any A2 b.length c2 b _ w1 (Rd.mod H0.out.2.1 hm1 (fun _ _ => id)) H0.out.2.2.2.2.2.1
    rw [← HP.out.2.1] at hr2
    have H1 := Lib.hid (And.intro hm1 hr2); clear hm1 hr2
    cases p with
    | false =>
      go_wp2_with fail
      go_meet
      exact ⟨by rw [hfa]; rfl, H1.out.1⟩
    | true =>
      go_wp2_with fail
      refine H1.out.2.mono ?_
      rintro r w2 ⟨rfl, hm2⟩
      have H2 := Lib.hid (tr0 H1.out.1 hm2); clear hm2
      go_wp2_with fail
      go_meet
      exact ⟨by rw [hfa]; rfl, H2.out⟩
  case rest =>
    obtain ⟨rfl, hmc⟩ := hcut
    have HC := Lib.hid hmc; clear hmc hfa
    go_wp2_with fail
    go_loopg [5, 18] a.length (fun f s5 si wr => ∃ i : Nat, si = .int .i64 i ∧ s5 = .bool (flA a b i) ∧ i + f = a.length ∧ Mod (fun _ => False) w wr)
    case atStart => exact ⟨0, rfl, rfl, by omega, HC.out⟩
    case round =>
      obtain ⟨i, rfl, rfl, hi, hmod⟩ := hrel
      by_cases hlt : i < a.length
      · obtain ⟨d, m, hx⟩ : ∃ d m, a[i]? = some (ent d m) := by
          obtain ⟨d, m, e⟩ := ent_cases a[i]
          exact ⟨d, m, by rw [← e]; simp [hlt]⟩
        obtain ⟨ad, rfl, -, hc0, hc1, hdl, -⟩ := row_ent (H0.out.2.2.1.step (w1 := wr) (ok1 := fun _ => True) (fun k hk hl => ⟨trivial, hmod.block k hl (fun h => h)⟩)) hx
        have hsc := flA_succ (a := a) (b := b) hx
        obtain ⟨o, ho⟩ : ∃ o, o = flA a b i := ⟨_, rfl⟩
        rw [← ho] at hsc ⊢
        have hlv := fun W hW => H0.out.2.2.2.2.2.2.2.2 W hW d
        obtain ⟨lv, hlve⟩ : ∃ lv, lv = levelL b d := ⟨_, rfl⟩
        rw [← hlve] at hsc
        simp only [← hlve] at hlv
        have HX := Lib.hid (And.intro hi (And.intro hmod (And.intro hsc hlv))); clear hi hmod hx hsc hlv hlve ho
        go_wp2_with fail
        obtain ⟨W1, hW1⟩ : ∃ W1, W1 = wr.alloc (.cells #[.string ⟨d.toArray⟩, .int .i64 m] 63) := ⟨_, rfl⟩
        rw [← hW1]
        have hmW : Mod (fun _ => False) wr W1 := by rw [hW1]; exact (Mod.refl _ _).alloc _
        obtain ⟨k0, k1⟩ := cells2 wr (.string ⟨d.toArray⟩) (.int .i64 m) 63
        rw [← hW1] at k0 k1
        obtain ⟨g, hg⟩ : ∃ g, g = wr.heap.size := ⟨_, rfl⟩
        rw [← hg] at k0 k1 ⊢
        have c0 : ∀ W : ModW W1, W.1.cell? ⟨g, 0, none⟩ = some (.string ⟨d.toArray⟩) := fun W => ModW.cell k0 W
        have c1 : ∀ W : ModW W1, W.1.cell? ⟨g, 1, none⟩ = some (.int .i64 m) := fun W => ModW.cell k1 W
        have HE := Lib.hid (tr0 HX.out.2.1 hmW)
        clear hW1 hg hmW hc0 hc1 k0 k1
        cases o with
        | false =>
          refine wp_region_mod (by kernel_rfl) (by kernel_rfl) ?_
          refine wpQuiet_hide (fun R hR => ?_)
          iterate 11 (first
            | ((first | refine wpQuiet_none hR rfl (fun K hK => ?_) | refine wpQuiet_take hR (by rfl) (fun K hK => ?_)); clear hR R; go_simp; refine hK _ (fun R hR => ?_); clear hK K)
            | (refine wpQuiet_skip hR (by rfl) (fun K hK => ?_); clear hR R; go_simp; refine hK _ (fun R hR => ?_); clear hK K))
          refine wpQuiet_end hR ?_
          clear hR R
          rintro _ ⟨W, rfl⟩
          clear c0 c1
          go_wp2_with fail
          go_roundg (gk - 1)
          case measure => have := HX.out.1; omega
          case rel => exact ⟨i + 1, by go_num, by rw [HX.out.2.2.1]; rfl, by have := HX.out.1; omega, HE.out.trans W.2 (fun _ h => h.elim)⟩
        | true =>
          refine wp_region_mod (by kernel_rfl) (by kernel_rfl) ?_
          refine wpQuiet_hide (fun R hR => ?_)
          iterate 11 (first
            | ((first | refine wpQuiet_none hR rfl (fun K hK => ?_) | refine wpQuiet_take hR (by rfl) (fun K hK => ?_)); clear hR R; go_simp; first | (refine hK _ (fun R hR => ?_); clear hK K) | (apply Exists.intro; refine ⟨fun _ => ?_, hK _ (fun R hR => ?_)⟩; (go_at_call 51; refine quiet_mod (HX.out.2.2.2 _ (HE.out.trans (Subtype.property _) (fun _ h => h.elim)))); clear hK K))
            | (refine wpQuiet_skip hR (by rfl) (fun K hK => ?_); clear hR R; go_simp; refine hK _ (fun R hR => ?_); clear hK K))
          refine wpQuiet_end hR ?_
          clear hR R
          rintro _ ⟨W, rfl⟩
          clear c0 c1
          go_wp2_with fail
          go_roundg (gk - 1)
          case measure => have := HX.out.1; omega
          case rel => exact ⟨i + 1, by go_num, by rw [HX.out.2.2.1]; rfl, by have := HX.out.1; omega, HE.out.trans W.2 (fun _ h => h.elim)⟩
      · obtain rfl : i = a.length := by omega
        have HX := Lib.hid hmod; clear hi hmod
        have hb0 : flA a b a.length = flB a b 0 := by unfold flB; simp
        rw [hb0]
        go_wp2_with fail
        go_loopg [5, 35] b.length (fun f s5 si wr => ∃ i : Nat, si = .int .i64 i ∧ s5 = .bool (flB a b i) ∧ i + f = b.length ∧ Mod (fun _ => False) w wr)
        case atStart => exact ⟨0, rfl, rfl, by omega, HX.out⟩
        case round =>
          clear HX hb0
          obtain ⟨i, rfl, rfl, hi, hmod⟩ := hrel
          by_cases hlt : i < b.length
          · obtain ⟨d, m, hx⟩ : ∃ d m, b[i]? = some (ent d m) := by
              obtain ⟨d, m, e⟩ := ent_cases b[i]
              exact ⟨d, m, by rw [← e]; simp [hlt]⟩
            obtain ⟨ad, rfl, -, hc0, hc1, hdl, -⟩ := row_ent (H0.out.2.2.2.1.step (w1 := wr) (ok1 := fun _ => True) (fun k hk hl => ⟨trivial, hmod.block k hl (fun h => h)⟩)) hx
            have hsc := flB_succ (a := a) (b := b) hx
            obtain ⟨o, ho⟩ : ∃ o, o = flB a b i := ⟨_, rfl⟩
            rw [← ho] at hsc ⊢
            have hlv := fun W hW => H0.out.2.2.2.2.2.2.2.1 W hW d
            obtain ⟨lv, hlve⟩ : ∃ lv, lv = levelL a d := ⟨_, rfl⟩
            rw [← hlve] at hsc
            simp only [← hlve] at hlv
            have HX := Lib.hid (And.intro hi (And.intro hmod (And.intro hsc hlv))); clear hi hmod hx hsc hlv hlve ho
            go_wp2_with fail
            obtain ⟨W1, hW1⟩ : ∃ W1, W1 = wr.alloc (.cells #[.string ⟨d.toArray⟩, .int .i64 m] 63) := ⟨_, rfl⟩
            rw [← hW1]
            have hmW : Mod (fun _ => False) wr W1 := by rw [hW1]; exact (Mod.refl _ _).alloc _
            obtain ⟨k0, k1⟩ := cells2 wr (.string ⟨d.toArray⟩) (.int .i64 m) 63
            rw [← hW1] at k0 k1
            obtain ⟨g, hg⟩ : ∃ g, g = wr.heap.size := ⟨_, rfl⟩
            rw [← hg] at k0 k1 ⊢
            have c0 : ∀ W : ModW W1, W.1.cell? ⟨g, 0, none⟩ = some (.string ⟨d.toArray⟩) := fun W => ModW.cell k0 W
            have c1 : ∀ W : ModW W1, W.1.cell? ⟨g, 1, none⟩ = some (.int .i64 m) := fun W => ModW.cell k1 W
            have HE := Lib.hid (tr0 HX.out.2.1 hmW)
            clear hW1 hg hmW hc0 hc1 k0 k1
            cases o with
            | false =>
              refine wp_region_mod (by kernel_rfl) (by kernel_rfl) ?_
              refine wpQuiet_hide (fun R hR => ?_)
              iterate 11 (first
                | ((first | refine wpQuiet_none hR rfl (fun K hK => ?_) | refine wpQuiet_take hR (by rfl) (fun K hK => ?_)); clear hR R; go_simp; refine hK _ (fun R hR => ?_); clear hK K)
                | (refine wpQuiet_skip hR (by rfl) (fun K hK => ?_); clear hR R; go_simp; refine hK _ (fun R hR => ?_); clear hK K))
              refine wpQuiet_end hR ?_
              clear hR R
              rintro _ ⟨W, rfl⟩
              clear c0 c1
              go_wp2_with fail
              go_roundg (gk - 1)
              case measure => have := HX.out.1; omega
              case rel => exact ⟨i + 1, by go_num, by rw [HX.out.2.2.1]; rfl, by have := HX.out.1; omega, HE.out.trans W.2 (fun _ h => h.elim)⟩
            | true =>
              refine wp_region_mod (by kernel_rfl) (by kernel_rfl) ?_
              refine wpQuiet_hide (fun R hR => ?_)
              iterate 11 (first
                | ((first | refine wpQuiet_none hR rfl (fun K hK => ?_) | refine wpQuiet_take hR (by rfl) (fun K hK => ?_)); clear hR R; go_simp; first | (refine hK _ (fun R hR => ?_); clear hK K) | (apply Exists.intro; refine ⟨fun _ => ?_, hK _ (fun R hR => ?_)⟩; (go_at_call 51; refine quiet_mod (HX.out.2.2.2 _ (HE.out.trans (Subtype.property _) (fun _ h => h.elim)))); clear hK K))
                | (refine wpQuiet_skip hR (by rfl) (fun K hK => ?_); clear hR R; go_simp; refine hK _ (fun R hR => ?_); clear hK K))
              refine wpQuiet_end hR ?_
              clear hR R
              rintro _ ⟨W, rfl⟩
              clear c0 c1
              go_wp2_with fail
              go_roundg (gk - 1)
              case measure => have := HX.out.1; omega
              case rel => exact ⟨i + 1, by go_num, by rw [HX.out.2.2.1]; rfl, by have := HX.out.1; omega, HE.out.trans W.2 (fun _ h => h.elim)⟩
          · obtain rfl : i = b.length := by omega
            have hzf : z = flB a b b.length := by rw [flB_end]; exact H0.out.2.2.2.2.2.2.1
            have HX := Lib.hid hmod; clear hi hmod
            rw [← hzf]
            go_wp2_with fail
            go_ret
            exact ⟨rfl, HX.out⟩
end Go.Proofs.YthhepnaanjicjaaGreatDoor

/- Layer 6, the document's answer: Same. -/
namespace Go.Proofs.YthhepnaanjicjaaGreatDoor
open Go.RowKit Go.Shelf
set_option linter.unusedVariables false
set_option maxRecDepth 100000 in
set_option maxHeartbeats 1000000 in
theorem refsame_any (A : Option Addr) (n c : Nat) (A2 : Option Addr) (n2 c2 : Nat) (a b : List Entry) (ok ok2 : Nat → Prop) (w : World) (h : labR.rel w ok [.slice A n c] a) (h2 : labR.rel w ok2 [.slice A2 n2 c2] b) :
    Calls Tryz.prog 43 #[.slice A n c, .slice A2 n2 c2] w fun r w' => r = .returned (.bool (sameL a b)) ∧ Mod (fun _ => False) w w' := by
  obtain ⟨z, hz⟩ : ∃ z, z = sameL a b := ⟨_, rfl⟩
  rw [← hz]
  obtain ⟨rfl, hcap, -, hbig, -, hrow⟩ := lab_row h
  obtain ⟨rfl, hcap2, -, hbig2, -, hrow2⟩ := lab_row h2
  have H0 := Lib.hid (And.intro hrow (And.intro hrow2 hz)); clear h h2 hrow hrow2 hz
  by_cases hle : a.length = b.length
  case neg =>
    have hzf : z = false := by rw [H0.out.2.2, sameL_len hle]
    subst hzf
    have e1 : ((a.length : Int) != (b.length : Int)) = true := by simp; omega
    go_enter Tryz.func43, Tryz.ntmps43
    go_wp2_with fail
    go_ret
    exact ⟨rfl, Mod.refl _ _⟩
  case pos =>
    have e1 : ((a.length : Int) != (b.length : Int)) = false := by simp; omega
    have HL := Lib.hid hle; clear hle
    go_enter Tryz.func43, Tryz.ntmps43
    go_wp2_with fail
    go_loopg [5, 13] a.length (fun f so si wr => ∃ i : Nat, si = .int .i64 i ∧ i + f = a.length ∧ z = sameL (a.drop i) (b.drop i) ∧ Mod (fun _ => False) w wr)
    case atStart => exact ⟨0, rfl, by omega, H0.out.2.2, Mod.refl _ _⟩
    case round =>
      obtain ⟨i, rfl, hi, hz, hmod⟩ := hrel
      by_cases hlt : i < a.length
      · have hlt2 : i < b.length := by rw [← HL.out]; exact hlt
        obtain ⟨d, m, hx⟩ : ∃ d m, a[i]? = some (ent d m) := by
          obtain ⟨d, m, e⟩ := ent_cases a[i]
          exact ⟨d, m, by rw [← e]; simp [hlt]⟩
        obtain ⟨d2, m2, hx2⟩ : ∃ d2 m2, b[i]? = some (ent d2 m2) := by
          obtain ⟨d2, m2, e⟩ := ent_cases b[i]
          exact ⟨d2, m2, by rw [← e]; simp [hlt2]⟩
        obtain ⟨ad, rfl, -, hc0, hc1, -, -⟩ := row_ent (H0.out.1.step (w1 := wr) (ok1 := ok) (fun k hk hl => ⟨hk, hmod.block k hl id⟩)) hx
        obtain ⟨ad2, rfl, -, hd0, hd1, -, -⟩ := row_ent (H0.out.2.1.step (w1 := wr) (ok1 := ok2) (fun k hk hl => ⟨hk, hmod.block k hl id⟩)) hx2
        have hda : a.drop i = ent d m :: a.drop (i + 1) := by
          rw [List.drop_eq_getElem_cons hlt]
          rw [List.getElem?_eq_getElem hlt] at hx
          rw [Option.some.inj hx]
        have hdb : b.drop i = ent d2 m2 :: b.drop (i + 1) := by
          rw [List.drop_eq_getElem_cons hlt2]
          rw [List.getElem?_eq_getElem hlt2] at hx2
          rw [Option.some.inj hx2]
        rw [hda, hdb, sameL] at hz
        have hq := run_neq_ent d d2 m m2
        obtain ⟨q, hqe⟩ : ∃ q, q = eqE (ent d m) (ent d2 m2) := ⟨_, rfl⟩
        rw [← hqe] at hz hq
        have HX := Lib.hid (And.intro hi (And.intro hz hmod)); clear hi hz hmod hx hx2 hda hdb hqe
        cases q with
        | true =>
          go_wp2_with fail
          go_quiet (fail)
          go_wp2_with fail
          go_roundg (gk - 1)
          case measure => have := HX.out.1; omega
          case rel => exact ⟨i + 1, by go_num, by have := HX.out.1; omega, by rw [HX.out.2.1]; rfl, HX.out.2.2.drewN _⟩
        | false =>
          go_wp2_with fail
          go_quiet (fail)
          go_wp2_with fail
          go_ret
          exact ⟨by rw [HX.out.2.1]; rfl, HX.out.2.2.drewN _⟩
      · have hda : a.drop i = [] := List.drop_eq_nil_of_le (by omega)
        have hdb : b.drop i = [] := List.drop_eq_nil_of_le (by rw [← HL.out]; omega)
        rw [hda, hdb] at hz
        have hzf : z = true := by rw [hz]; rfl
        subst hzf
        have HX := Lib.hid (And.intro hi hmod); clear hi hz hmod hda hdb
        have e2 : decide ((i : Int) < (a.length : Int)) = false := by simp; omega
        go_wp2_with fail
        go_ret
        exact ⟨rfl, HX.out.2⟩
end Go.Proofs.YthhepnaanjicjaaGreatDoor

/- Layer 6, the document's answer: Make. -/
namespace Go.Proofs.YthhepnaanjicjaaGreatDoor
open Go.RowKit Go.Shelf
set_option linter.unusedVariables false
theorem table_snoc (ns : List (List UInt8)) (c : List UInt8) (f : List UInt8 → Int) : tableL (ns ++ [c]) f = tableL ns f ++ if f c = 1 then [] else [ent c (f c)] := by
  unfold tableL
  rw [List.map_append, List.filter_append]
  congr 1
  by_cases h : f c = 1
  · simp [h, lev_ent]
  · simp [h, lev_ent]
set_option maxRecDepth 100000 in
set_option maxHeartbeats 4000000 in
theorem refmake_any (A : Option Addr) (n c : Nat) (l : List Entry) (ok : Nat → Prop) (w : World) (h : labR.rel w ok [.slice A n c] l) (hl : l.length ≤ 1000) (hb : ∀ e ∈ l, (nm e).length ≤ 1000000) :
    Calls Tryz.prog 48 #[.slice A n c] w fun r w' => ∃ A' c', r = .returned (.tuple #[.slice A' (resM l).1.length c', .int .i64 (resM l).2]) ∧ OwnR EntryR 63 w' w.heap.size (fun _ => False) (.slice A' (resM l).1.length c') (resM l).1 ∧ Mod (fun _ => False) w w' := by
  have hall := labR_each h
  obtain ⟨rfl, hcap, -, hbig, -, hrow⟩ := lab_row h
  obtain ⟨z, hz⟩ : ∃ z, z = resM l := ⟨_, rfl⟩
  rw [← hz]
  have H0 := Lib.hid (And.intro hrow (And.intro hz (And.intro hb hall))); clear h hrow hz hb hall
  go_enter Tryz.func48, Tryz.ntmps48
  go_wp2_with fail
  go_loopg [4, 15] l.length (fun f so si wr => ∃ (i : Nat) (Ao : Option Addr) (co : Nat), si = .int .i64 i ∧ so = .slice Ao i co ∧ i + f = l.length ∧ makeE (l.take i) = 0 ∧ wr.ownsRow w.heap.size 9 1 (.slice Ao i co) i (scells ((l.take i).map nm)) ∧ Mod (fun _ => False) w wr)
  case atStart => exact ⟨0, none, 0, rfl, rfl, by omega, rfl, World.ownsRow_nil _ _ _ _, .refl _ _⟩
  case round =>
    obtain ⟨i, Ao, co, rfl, rfl, hi, hme, ho, hmod⟩ := hrel
    by_cases hlt : i < l.length
    · obtain ⟨d, m, hx⟩ : ∃ d m, l[i]? = some (ent d m) := by
        obtain ⟨d, m, e⟩ := ent_cases l[i]
        exact ⟨d, m, by rw [← e]; simp [hlt]⟩
      obtain ⟨ad, rfl, -, hc0, hc1, hdl, -⟩ := row_ent (H0.out.1.step (w1 := wr) (ok1 := fun _ => True) (fun k hk hl => ⟨trivial, hmod.block k hl (fun h => h)⟩)) hx
      have hd6 : d.length ≤ 1000000 := by have := H0.out.2.2.1 _ (List.mem_of_getElem? hx); rwa [nm_ent] at this
      have htk : l.take (i + 1) = l.take i ++ [ent d m] := by rw [List.take_add_one, hx]; rfl
      have hspl : l = l.take i ++ (ent d m :: l.drop (i + 1)) := by
        have := List.take_append_drop i l
        rw [List.drop_eq_getElem_cons hlt] at this
        rw [List.getElem?_eq_getElem hlt] at hx
        rw [Option.some.inj hx] at this
        exact this.symm
      have hbad : ∀ v, makeE (ent d m :: l.drop (i + 1)) = v → makeE l = v := fun v hv => by rw [hspl, makeE_append, if_pos hme, hv]
      have hgood : rightB d = true → ¬ m < 0 → ¬ 3 < m → makeE (l.take (i + 1)) = 0 := fun h1 h2 h3 => by
        rw [htk, makeE_append, if_pos hme, makeE_cons, nm_ent, lev_ent, if_neg (by simp [h1]), if_neg (by omega)]; rfl
      have htks : scells ((l.take (i + 1)).map nm) = scells ((l.take i).map nm) ++ [encS d] := by rw [htk, List.map_append, scells_app]; simp [scells, nm_ent]
      have hlen : (scells ((l.take i).map nm)).length = i := by rw [scells_len, List.length_map, List.length_take]; omega
      obtain ⟨sc, hsc⟩ : ∃ sc, sc = scells ((l.take i).map nm) := ⟨_, rfl⟩
      rw [← hsc] at ho htks hlen
      have HX := Lib.hid (And.intro hi (And.intro hbad (And.intro hgood (And.intro ho (And.intro hmod (And.intro htks hlen))))))
      clear hi hme hbad hgood ho hmod htks hlen htk hspl hx hsc
      go_wp2_with fail
      obtain ⟨W1, hW1⟩ : ∃ W1, W1 = wr.alloc (.cells #[.string ⟨d.toArray⟩, .int .i64 m] 63) := ⟨_, rfl⟩
      rw [← hW1]
      have hmW : Mod (fun _ => False) wr W1 := by rw [hW1]; exact (Mod.refl _ _).alloc _
      obtain ⟨k0, k1⟩ := cells2 wr (.string ⟨d.toArray⟩) (.int .i64 m) 63
      rw [← hW1] at k0 k1
      obtain ⟨g, hg⟩ : ∃ g, g = wr.heap.size := ⟨_, rfl⟩
      rw [← hg] at k0 k1 ⊢
      have hcat := isCat_any d hd6 W1
      have H1 := Lib.hid (And.intro k0 (And.intro k1 hmW)); clear hW1 hg hmW hc0 hc1 k0 k1
      cases hbd : rightB d with
      | false =>
        rw [hbd] at hcat
        have hzf : z = ([], 20) := by
          rw [H0.out.2.1]
          unfold resM
          rw [HX.out.2.1 20 (by rw [makeE_cons, nm_ent, if_pos hbd]), if_pos (by decide)]
        have HC := Lib.hid hcat; clear hcat hbd
        subst hzf
        refine HC.out.mono ?_
        rintro r w2 ⟨rfl, hm2⟩
        have HM := Lib.hid (tr0 (tr0 HX.out.2.2.2.2.1 H1.out.2.2) hm2); clear hm2
        go_wp2_with fail
        go_ret2
        exact ⟨none, 0, rfl, OwnR.nil _ _ _ _ _, HM.out⟩
      | true =>
        rw [hbd] at hcat
        have HC := Lib.hid (And.intro hcat hbd); clear hcat hbd
        refine HC.out.1.mono ?_
        rintro r w2 ⟨rfl, hm2⟩
        have q0 := (hm2.cell (cell_lt H1.out.1) id).trans H1.out.1
        have q1 := (hm2.cell (cell_lt H1.out.2.1) id).trans H1.out.2.1
        have hm02 := tr0 H1.out.2.2 hm2
        have H2 := Lib.hid hm02; clear hm2 hm02
        by_cases hm : m < 0 ∨ 3 < m
        · have hzf : z = ([], 21) := by
            rw [H0.out.2.1]
            unfold resM
            rw [HX.out.2.1 21 (by rw [makeE_cons, nm_ent, lev_ent, if_neg (by simp [HC.out.2]), if_pos hm]), if_pos (by decide)]
          subst hzf
          by_cases hm0 : m < 0
          · go_wp2_with fail
            go_ret2
            exact ⟨none, 0, rfl, OwnR.nil _ _ _ _ _, tr0 HX.out.2.2.2.2.1 H2.out⟩
          · have hm3 : 3 < m := by omega
            go_wp2_with fail
            go_ret2
            exact ⟨none, 0, rfl, OwnR.nil _ _ _ _ _, tr0 HX.out.2.2.2.2.1 H2.out⟩
        · have hm0 : ¬ m < 0 := by omega
          have hm3 : ¬ 3 < m := by omega
          have hg1 := HX.out.2.2.1 HC.out.2 (by omega) (by omega)
          have HG := Lib.hid hg1; clear hg1 hm
          have ho2 := own_move HX.out.2.2.2.1 (fun k hk => H2.out.block k (own_lt HX.out.2.2.2.1 k hk).2 id)
          have hbs := (tr0 HX.out.2.2.2.2.1 H2.out).size
          have HO := Lib.hid ho2; clear ho2
          go_wp2_with (at_builtin; refine append_one w.heap.size rfl _ _ 24 9 (.string ⟨#[]⟩) 16 rfl Tryz.underlying24 (by kernel_rfl) rfl (by decide) (.slice Ao i co) sc (encS d) rfl rfl rfl (by rw [HX.out.2.2.2.2.2.2]; exact HO.out) hbs (by rw [HX.out.2.2.2.2.2.2]; omega) ?_)
          intro A4 c4 w4 hown4 hg4 _
          rw [HX.out.2.2.2.2.2.2] at hown4 ⊢
          have H4 := Lib.hid (And.intro hown4 hg4); clear hown4 hg4
          go_wp2_with fail
          go_roundg (gk - 1)
          case measure => have := HX.out.1; omega
          case rel =>
            refine ⟨i + 1, A4, c4, by go_num, rfl, by have := HX.out.1; omega, HG.out, ?_, (tr0 HX.out.2.2.2.2.1 H2.out).grown H4.out.2 (fun k hk => .inr (own_lt HO.out k hk.symm).1)⟩
            · rw [HX.out.2.2.2.2.2.1]
              exact H4.out.1
    · have hie : l.take i = l := List.take_of_length_le (by omega)
      have hil : i = l.length := by omega
      subst hil
      rw [hie] at ho hme
      have hmn : (l.map nm).length = l.length := List.length_map _
      have ho' : wr.ownsRow w.heap.size 9 1 (.slice Ao l.length co) (l.map nm).length (scells (l.map nm)) := by rw [hmn]; exact ho
      have hrd := reads_strs ho' (fun x hx => by obtain ⟨e, he, rfl⟩ := List.mem_map.1 hx; exact (H0.out.2.2.2 e he).1) (by rw [hmn]; omega)
      have hst := refsort_any Ao l.length co ((l.map nm).map mkStr) _ wr hrd (by rw [List.length_map, hmn]; omega) (fun s hs => by
        obtain ⟨x, hx, rfl⟩ := List.mem_map.1 hs
        rw [mkStr_size]
        obtain ⟨e, he, rfl⟩ := List.mem_map.1 hx
        exact H0.out.2.2.1 e he)
      rw [map_back, sortR_eq] at hst
      obtain ⟨zs, hzs⟩ : ∃ zs, zs = sortS (l.map nm) := ⟨_, rfl⟩
      rw [← hzs] at hst
      have hzl : zs.length ≤ 1000 := by rw [hzs]; have := sortS_len (l.map nm); omega
      have hzb : ∀ x ∈ zs, x.length ≤ 1000000 := fun x hx => by
        rw [hzs, (sortS_spec _).2] at hx
        obtain ⟨e, he, rfl⟩ := List.mem_map.1 hx.1
        exact H0.out.2.2.1 e he
      have hmk : makeL l = tableL zs (lastL l) := by unfold makeL; rw [hzs]
      have HX := Lib.hid (And.intro hmod (And.intro hst (And.intro hme (And.intro hzb hmk)))); clear hmod hst hme hzb hmk ho ho' hrd hie hi hzs
      go_wp2_with fail
      refine HX.out.2.1.mono ?_
      rintro r w1 ⟨A1, c1, rfl, ho1, hm1⟩
      have H1 := Lib.hid (And.intro (tr0 HX.out.1 hm1) ho1); clear ho1 hm1
      obtain ⟨gO, hgO⟩ : ∃ g, g = gk := ⟨_, rfl⟩
      subst hgO
      obtain ⟨wO, hwO⟩ : ∃ x, x = wr := ⟨_, rfl⟩
      subst hwO
      go_wp2_with fail
      go_loopg [7, 40] zs.length (fun f so si wr => ∃ (i : Nat) (Ao : Option Addr) (co : Nat), si = .int .i64 i ∧ so = .slice Ao (tableL (zs.take i) (lastL l)).length co ∧ i + f = zs.length ∧ OwnR EntryR 63 wr w1.heap.size (fun _ => False) (.slice Ao (tableL (zs.take i) (lastL l)).length co) (tableL (zs.take i) (lastL l)) ∧ Mod (fun _ => False) w1 wr)
      case atStart => exact ⟨0, none, 0, rfl, rfl, by omega, OwnR.nil _ _ _ _ _, .refl _ _⟩
      case round =>
        obtain ⟨i, A2, c2, rfl, rfl, hi, hO, hmod⟩ := hrel
        obtain ⟨lst, hlst⟩ : ∃ lst, lst = tableL (zs.take i) (lastL l) := ⟨_, rfl⟩
        have hll : lst.length ≤ i := by rw [hlst]; unfold tableL; refine Nat.le_trans (List.length_filter_le _ _) ?_; rw [List.length_map, List.length_take]; omega
        rw [← hlst] at hO ⊢
        by_cases hlt : i < zs.length
        · obtain ⟨x, hx⟩ : ∃ x, zs[i]? = some x := ⟨zs[i], by simp [hlt]⟩
          have hxb := HX.out.2.2.2.1 x (List.mem_of_getElem? hx)
          obtain ⟨g, c4, hv, hc0⟩ := own_row H1.out.2 hx
          obtain ⟨rfl, rfl⟩ : A1 = some ⟨g, 0, none⟩ ∧ c1 = c4 := by simpa using hv
          replace hc0 := (hmod.cell (cell_lt hc0) id).trans hc0
          have htk : tableL (zs.take (i + 1)) (lastL l) = lst ++ if lastL l x = 1 then [] else [ent x (lastL l x)] := by rw [List.take_add_one, hx, Option.toList_some, table_snoc, hlst]
          have HY := Lib.hid (And.intro hi (And.intro hO (And.intro hmod htk))); clear hi hO hmod htk hx hv hlst
          go_wp2_with fail
          obtain ⟨gI, hgI⟩ : ∃ g, g = gk := ⟨_, rfl⟩
          subst hgI
          obtain ⟨wI, hwI⟩ : ∃ x, x = wr := ⟨_, rfl⟩
          subst hwI
          go_loopg [10, 46] l.length (fun f s10 sj wr => ∃ (j : Nat), sj = .int .i64 j ∧ s10 = .int .i64 (lastL (l.take j) x) ∧ j + f = l.length ∧ Mod (fun _ => False) wI wr)
          case atStart => exact ⟨0, rfl, rfl, by omega, .refl _ _⟩
          case round =>
            obtain ⟨j, rfl, rfl, hj, hmj⟩ := hrel
            by_cases hjl : j < l.length
            · obtain ⟨d, m, hx⟩ : ∃ d m, l[j]? = some (ent d m) := by
                obtain ⟨d, m, e⟩ := ent_cases l[j]
                exact ⟨d, m, by rw [← e]; simp [hjl]⟩
              obtain ⟨ad, rfl, -, hd0, hd1, hdl, -⟩ := row_ent (H0.out.1.step (w1 := wr) (ok1 := fun _ => True) (fun k hk hl => ⟨trivial, (tr0 (tr0 H1.out.1 HY.out.2.2.1) hmj).block k hl (fun h => h)⟩)) hx
              have hls : lastL (l.take (j + 1)) x = if d = x then m else lastL (l.take j) x := by rw [List.take_add_one, hx, Option.toList_some, lastL_snoc, nm_ent, lev_ent]
              by_cases hdx : d = x
              · subst hdx
                rw [if_pos rfl] at hls
                have HZ := Lib.hid (And.intro hj (And.intro hmj hls)); clear hj hmj hls hx
                go_wp2_with fail
                go_roundg (gk - 1)
                case measure => have := HZ.out.1; omega
                case rel => exact ⟨j + 1, by go_num, by rw [HZ.out.2.2], by have := HZ.out.1; omega, HZ.out.2.1.alloc _⟩
              · rw [if_neg hdx] at hls
                have e2 : (d == x) = false := by simp [hdx]
                have HZ := Lib.hid (And.intro hj (And.intro hmj hls)); clear hj hmj hls hx
                go_wp2_with fail
                go_roundg (gk - 1)
                case measure => have := HZ.out.1; omega
                case rel => exact ⟨j + 1, by go_num, by rw [HZ.out.2.2], by have := HZ.out.1; omega, HZ.out.2.1.alloc _⟩
            · have hje : l.take j = l := List.take_of_length_le (by omega)
              rw [hje]
              obtain ⟨p, hp⟩ : ∃ p, p = lastL l x := ⟨_, rfl⟩
              have hpr : 0 ≤ p ∧ p ≤ 3 := by rw [hp]; exact lastL_range HX.out.2.2.1 x
              have htk := HY.out.2.2.2
              rw [← hp] at htk ⊢
              have hO2 := HY.out.2.1.mod hmj (fun _ _ => id) (fun _ _ _ => id)
              have hm12 := tr0 HY.out.2.2.1 hmj
              have hE : ∀ (W : World) (T : Nat → Prop), EntryR.rel W T [.string ⟨x.toArray⟩, .int .i64 p] (ent x p) := fun W T => EntryR_mk _ _ (ent x p) (by rw [show (ent x p).cat.size = x.length from mkStr_size x]; omega) (by rw [lev_ent]; exact inR_mk (by omega))
              have hsz := hm12.size
              have HZ := Lib.hid (And.intro htk (And.intro hO2 (And.intro hm12 hE))); clear hj hmj hje hp htk hO2 hm12 hE
              by_cases hp1 : p = 1
              · subst hp1
                go_wp2_with fail
                go_roundg (gI - 1)
                case measure => have := HY.out.1; omega
                case rel =>
                  have ht := HZ.out.1
                  simp only [if_true, List.append_nil] at ht
                  exact ⟨i + 1, A2, c2, by go_num, by rw [ht], by have := HY.out.1; omega, by rw [ht]; exact HZ.out.2.1, HZ.out.2.2.1⟩
              · have e3 : (p != 1) = true := by simp [hp1]
                have HP := Lib.hid hp1; clear hp1
                go_wp2_with (first
                  | (refine wpList_slice1_agg rfl 23 63 _ rfl Tryz.underlying23 zeroEnt.toArray [.string ⟨x.toArray⟩, .int .i64 p] Tryz.info_ent2 (by decide) rfl rfl ?_)
                  | (at_builtin; refine append_rd (R := EntryR) w1.heap.size rfl _ _ 23 63 (.agg zeroEnt.toArray) 24 rfl Tryz.underlying23 Tryz.info_ent3 rfl (by decide) (.slice A2 lst.length c2) lst (ent x p) [.string ⟨x.toArray⟩, .int .i64 p] (fun _ => False) rfl rfl HZ.out.2.1 (HZ.out.2.2.2 _ _) hsz (by omega) ?_))
                intro A8 c8 w8 hO8 hm8 hn8
                have H8 := Lib.hid (And.intro hO8 hm8); clear hO8 hm8 hn8
                go_wp2_with fail
                go_roundg (gI - 1)
                case measure => have := HY.out.1; omega
                case rel =>
                  have ht := HZ.out.1
                  rw [if_neg HP.out] at ht
                  refine ⟨i + 1, A8, c8, by go_num, by rw [ht]; simp, by have := HY.out.1; omega, by rw [ht]; simpa using H8.out.1, HZ.out.2.2.1.trans H8.out.2 (fun k hk => .inr ?_)⟩
                  obtain ⟨cells, hown, _⟩ := HZ.out.2.1
                  exact (own_lt hown k hk).1
        · have hie : zs.take i = zs := List.take_of_length_le (by omega)
          rw [hie, ← HX.out.2.2.2.2] at hlst
          have HY := Lib.hid (And.intro hO (And.intro hmod hlst)); clear hO hmod hlst hie
          by_cases h8 : 8 < lst.length
          · have hzf : z = ([], 13) := by
              rw [H0.out.2.1]
              unfold resM
              rw [if_neg (by simp [HX.out.2.2.1]), if_pos (by rw [← HY.out.2.2]; exact h8)]
            subst hzf
            have e4 : decide ((8 : Int) < (lst.length : Int)) = true := by simp; omega
            go_wp2_with fail
            go_ret2
            exact ⟨none, 0, rfl, OwnR.nil _ _ _ _ _, tr0 H1.out.1 HY.out.2.1⟩
          · have hzf : z = (lst, 0) := by
              rw [H0.out.2.1]
              unfold resM
              rw [if_neg (by simp [HX.out.2.2.1]), if_neg (by rw [← HY.out.2.2]; exact h8), ← HY.out.2.2]
            subst hzf
            have e4 : decide ((8 : Int) < (lst.length : Int)) = false := by simp; omega
            go_wp2_with fail
            go_ret2
            refine ⟨A2, c2, rfl, ?_, tr0 H1.out.1 HY.out.2.1⟩
            obtain ⟨cells, hown, hr⟩ := HY.out.1
            exact ⟨cells, own_base_le hown H1.out.1.size, hr⟩
end Go.Proofs.YthhepnaanjicjaaGreatDoor

/- Layer 6, the document's answer: Mix. -/
namespace Go.Proofs.YthhepnaanjicjaaGreatDoor
open Go.RowKit Go.Shelf
set_option linter.unusedVariables false
def pk (g : Bool) (m n : Int) : Int := if decide (m < n) = g then n else m
theorem pk_pick (g : Bool) (m n : Int) : pk g m n = m ∨ pk g m n = n := by unfold pk; split <;> simp
theorem pk_max : pk true = fun m n => max m n := by
  funext m n; unfold pk
  by_cases h : m < n
  · simp [h]; omega
  · simp [h]; omega
theorem pk_min : pk false = fun m n => min m n := by
  funext m n; unfold pk
  by_cases h : m < n
  · simp [h]; omega
  · simp [h]; omega
set_option maxRecDepth 100000 in
set_option maxHeartbeats 4000000 in
theorem refmix_any (A : Option Addr) (n c : Nat) (A2 : Option Addr) (n2 c2 : Nat) (a b : List Entry) (gr : Bool) (ok ok2 : Nat → Prop) (w : World) (h : labR.rel w ok [.slice A n c] a) (h2 : labR.rel w ok2 [.slice A2 n2 c2] b) (hla : ∀ e ∈ a, (nm e).length ≤ 1000000) (hlb : ∀ e ∈ b, (nm e).length ≤ 1000000) :
    Calls Tryz.prog 40 #[.slice A n c, .slice A2 n2 c2, .bool gr] w fun r w' => ∃ A' c', r = .returned (.tuple #[.slice A' (resX (pk gr) a b).1.length c', .int .i64 (resX (pk gr) a b).2]) ∧ OwnR EntryR 63 w' w.heap.size (fun _ => False) (.slice A' (resX (pk gr) a b).1.length c') (resX (pk gr) a b).1 ∧ Mod (fun _ => False) w w' := by
  obtain ⟨z, hz⟩ : ∃ z, z = resX (pk gr) a b := ⟨_, rfl⟩
  rw [← hz]
  have hr1 := refright_any A n c a ok w h hla
  have hr2 := fun W (hW : Mod (fun _ => False) w W) => refright_any A2 n2 c2 b _ W (Rd.mod h2 hW (fun _ _ => id)) hlb
  have hl1 := fun W (hW : Mod (fun _ => False) w W) s => reflevel_any A n c a s _ W (Rd.mod h hW (fun _ _ => id))
  have hl2 := fun W (hW : Mod (fun _ => False) w W) s => reflevel_any A2 n2 c2 b s _ W (Rd.mod h2 hW (fun _ _ => id))
  have H0 := Lib.hid (And.intro h (And.intro h2 (And.intro hz (And.intro hl1 (And.intro hl2 (And.intro hla hlb)))))); clear hz hl1 hl2 hla hlb
  cases hra : rightLB a with
  | false =>
    rw [hra] at hr1
    have hzf : z = ([], 21) := by rw [H0.out.2.2.1]; unfold resX; rw [if_neg (by rw [hra]; simp)]
    subst hzf
    have HR := Lib.hid hr1; clear hr1 hr2 hra h h2
    go_enter Tryz.func40, Tryz.ntmps40
    go_wp2_with fail
    refine HR.out.mono ?_
    rintro r w1 ⟨rfl, hm⟩
    have H1 := Lib.hid hm; clear hm
    go_wp2_with fail
    go_ret2
    exact ⟨none, 0, rfl, OwnR.nil _ _ _ _ _, H1.out⟩
  | true =>
    rw [hra] at hr1
    cases hrb : rightLB b with
    | false =>
      have hzf : z = ([], 21) := by rw [H0.out.2.2.1]; unfold resX; rw [if_neg (by rw [hrb]; simp)]
      subst hzf
      simp only [hrb] at hr2
      have HR := Lib.hid (And.intro hr1 hr2); clear hr1 hr2 hra hrb h h2
      go_enter Tryz.func40, Tryz.ntmps40
      go_wp2_with fail
      refine HR.out.1.mono ?_
      rintro r w1 ⟨rfl, hm⟩
      have H1 := Lib.hid hm; clear hm
      go_wp2_with fail
      refine (HR.out.2 w1 H1.out).mono ?_
      rintro r w2 ⟨rfl, hm⟩
      have H2 := Lib.hid (tr0 H1.out hm); clear hm
      go_wp2_with fail
      go_ret2
      exact ⟨none, 0, rfl, OwnR.nil _ _ _ _ _, H2.out⟩
    | true =>
      simp only [hrb] at hr2
      have hR1 := rightLB_iff.1 hra
      have hR2 := rightLB_iff.1 hrb
      have hzf : z = resM (mixR (pk gr) a b) := by
        rw [H0.out.2.2.1]; unfold resX; rw [if_pos ⟨hra, hrb⟩, resM_same (pk_pick gr) hR1 hR2]
      have ha8 := hR1.len
      have hb8 := hR2.len
      obtain ⟨rfl, hcap, -, hbig, hnil, hrow⟩ := lab_row (Rd.bound h)
      obtain ⟨rfl, hcap2, -, hbig2, hnil2, hrow2⟩ := lab_row (Rd.bound h2)
      have HR := Lib.hid (And.intro hr1 (And.intro hr2 (And.intro hzf (And.intro hR1 (And.intro hR2 (And.intro hrow hrow2)))))); clear hr1 hr2 hra hrb hzf hR1 hR2 h h2 hrow hrow2
      go_enter Tryz.func40, Tryz.ntmps40
      go_wp2_with fail
      refine HR.out.1.mono ?_
      rintro r w1 ⟨rfl, hm⟩
      have H1 := Lib.hid hm; clear hm
      go_wp2_with fail
      refine (HR.out.2.1 w1 H1.out).mono ?_
      rintro r w2 ⟨rfl, hm⟩
      have H2 := Lib.hid (tr0 H1.out hm); clear hm
      have hrA := fun W (hW : Mod (fun _ => False) w W) => HR.out.2.2.2.2.2.1.step (w1 := W) (ok1 := fun k => ((ok k ∨ ok2 k) ∧ k < w.heap.size) ∧ some k ≠ (Value.slice (some ⟨w2.heap.size, 0, none⟩) 0 0).ownBlock) fun k hk hl => ⟨⟨⟨.inl hk.1, hl⟩, fun e => by simp only [Value.ownBlock, Option.some.injEq] at e; have := H2.out.size; omega⟩, hW.block k hl id⟩
      have HA := Lib.hid (Rd.RowOf.weak (hrA (w2.alloc (.cells #[] 63)) (H2.out.alloc _))); clear hrA
      go_wp2_with (at_builtin; refine append_all2 (R := EntryR) w2.heap.size rfl _ _ 22 23 63 (.agg zeroEnt.toArray) 24 rfl Tryz.underlying22 Tryz.underlying23 Tryz.info_ent3 rfl (.slice (some ⟨w2.heap.size, 0, none⟩) 0 0) [] a (fun k => (ok k ∨ ok2 k) ∧ k < w.heap.size) A c rfl rfl ?c1 HA.out hnil ?c3 ?c4 (by decide) ?_)
      case c1 => exact ⟨[], World.ownsRow_made w2 #[] 0 (Nat.le_refl _) (by decide) rfl, fun j x h => by simp at h⟩
      case c3 => simp
      case c4 => simp only [List.length_nil]; omega
      intro A3 c3 w3 hO3 hm3 hn3
      have hm03 : Mod (fun _ => False) w w3 := (H2.out.alloc (.cells #[] 63)).trans hm3 (fun k hk => .inr (by simp only [Value.ownBlock, Option.some.injEq] at hk; have := H2.out.size; omega))
      have hs3 : w2.heap.size ≤ w3.heap.size := by have := hm3.size; simp at this; omega
      have hlow : ∀ k, (Value.slice A3 a.length c3).ownBlock = some k → w2.heap.size ≤ k := fun k hk => by obtain ⟨cells, hown, _⟩ := hO3; exact (own_lt hown k hk).1
      have hrB := Rd.RowOf.weak (HR.out.2.2.2.2.2.2.step (w1 := w3) (ok1 := fun k => ((ok k ∨ ok2 k) ∧ k < w.heap.size) ∧ some k ≠ (Value.slice A3 a.length c3).ownBlock) fun k hk hl => ⟨⟨⟨.inr hk.1, hl⟩, fun e => by have := hlow k e.symm; have := H2.out.size; omega⟩, hm03.block k hl id⟩)
      have H3 := Lib.hid (And.intro hO3 (And.intro hm03 (And.intro hs3 hrB))); clear hO3 hm03 hs3 hrB hm3 hn3 hlow HA
      go_wp2_with (at_builtin; refine append_all2 (R := EntryR) w2.heap.size rfl _ _ 22 23 63 (.agg zeroEnt.toArray) 24 rfl Tryz.underlying22 Tryz.underlying23 Tryz.info_ent3 rfl (.slice A3 a.length c3) a b (fun k => (ok k ∨ ok2 k) ∧ k < w.heap.size) A2 c2 rfl rfl H3.out.1 H3.out.2.2.2 hnil2 H3.out.2.2.1 (by omega) (by decide) ?_)
      intro A4 c4 w4 hO4 hm4 hn4
      obtain ⟨l, hle⟩ : ∃ l, l = a ++ b := ⟨_, rfl⟩
      have hll : a.length + b.length = l.length := by rw [hle, List.length_append]
      rw [← hle] at hO4
      rw [hll] at hO4 ⊢
      have hm04 : Mod (fun _ => False) w w4 := H3.out.2.1.trans hm4 (fun k hk => .inr (by obtain ⟨cells, hown, _⟩ := H3.out.1; have := (own_lt hown k hk).1; have := H2.out.size; omega))
      have hmx : mixR (pk gr) a b = l.map fun e => ent (nm e) (pk gr (levelL a (nm e)) (levelL b (nm e))) := by rw [hle]; rfl
      have hread := (lab_row (hO4.reads (bytes := 24) (by omega))).2.2.2.2.2
      have hlb : ∀ e ∈ l, (nm e).length ≤ 1000000 := fun e he => by
        rw [hle] at he
        rcases List.mem_append.1 he with he | he
        · exact H0.out.2.2.2.2.2.1 e he
        · exact H0.out.2.2.2.2.2.2 e he
      have hl16 : l.length ≤ 16 := by omega
      have hzz := HR.out.2.2.1
      rw [hmx] at hzz
      have H4 := Lib.hid (And.intro hm04 (And.intro hread (And.intro hlb hzz))); clear hm04 hread hlb hzz hmx hO4 hm4 hn4 hle hll H3
      go_wp2_with fail
      go_loopg [8, 27] l.length (fun f so si wr => ∃ (i : Nat) (A' : Option Addr) (c' : Nat), si = .int .i64 i ∧ so = .slice A' i c' ∧ i + f = l.length ∧ OwnR EntryR 63 wr w4.heap.size (fun _ => False) (.slice A' i c') ((l.take i).map fun e => ent (nm e) (pk gr (levelL a (nm e)) (levelL b (nm e)))) ∧ Mod (fun _ => False) w4 wr)
      case atStart => exact ⟨0, none, 0, rfl, rfl, by omega, OwnR.nil _ _ _ _ _, .refl _ _⟩
      case round =>
        obtain ⟨i, A', c', rfl, rfl, hi, hO, hmod⟩ := hrel
        by_cases hlt : i < l.length
        · obtain ⟨d, m, hx⟩ : ∃ d m, l[i]? = some (ent d m) := by
            obtain ⟨d, m, e⟩ := ent_cases l[i]
            exact ⟨d, m, by rw [← e]; simp [hlt]⟩
          obtain ⟨ad, rfl, -, hc0, hc1, hdl, hmr⟩ := row_ent (H4.out.2.1.step (w1 := wr) (ok1 := fun _ => True) (fun k hk hl => ⟨trivial, hmod.block k hl (fun h => h)⟩)) hx
          have hd6 : d.length ≤ 1000000 := by have := H4.out.2.2.1 _ (List.mem_of_getElem? hx); rwa [nm_ent] at this
          obtain ⟨p, hp⟩ : ∃ p, p = levelL a d := ⟨_, rfl⟩
          obtain ⟨q, hq⟩ : ∃ q, q = levelL b d := ⟨_, rfl⟩
          have hpr := pick_range (pk_pick gr) HR.out.2.2.2.1 HR.out.2.2.2.2.1 d
          obtain ⟨lst, hlst⟩ : ∃ lst, lst = (l.take i).map fun e => ent (nm e) (pk gr (levelL a (nm e)) (levelL b (nm e))) := ⟨_, rfl⟩
          have hln : lst.length = i := by rw [hlst, List.length_map, List.length_take]; omega
          have htk : ((l.take (i + 1)).map fun e => ent (nm e) (pk gr (levelL a (nm e)) (levelL b (nm e)))) = lst ++ [ent d (pk gr p q)] := by rw [List.take_add_one, hx, List.map_append, hlst, hp, hq]; simp [nm_ent]
          have hlv1 := fun W hW => H0.out.2.2.2.1 W hW d
          have hlv2 := fun W hW => H0.out.2.2.2.2.1 W hW d
          simp only [← hp] at hlv1
          simp only [← hq] at hlv2
          rw [← hp, ← hq] at hpr
          rw [← hlst] at hO
          have HX := Lib.hid (And.intro hi (And.intro hO (And.intro hmod (And.intro htk (And.intro hlv1 (And.intro hlv2 (And.intro hpr hln)))))))
          clear hi hO hmod htk hlv1 hlv2 hpr hln hp hq hx hlst hmr
          go_wp2_with fail
          obtain ⟨W1, hW1⟩ : ∃ W1, W1 = wr.alloc (.cells #[.string ⟨d.toArray⟩, .int .i64 m] 63) := ⟨_, rfl⟩
          rw [← hW1]
          have hmW : Mod (fun _ => False) wr W1 := by rw [hW1]; exact (Mod.refl _ _).alloc _
          obtain ⟨k0, k1⟩ := cells2 wr (.string ⟨d.toArray⟩) (.int .i64 m) 63
          rw [← hW1] at k0 k1
          obtain ⟨g, hg⟩ : ∃ g, g = wr.heap.size := ⟨_, rfl⟩
          rw [← hg] at k0 k1 ⊢
          have c0 : ∀ W : ModW W1, W.1.cell? ⟨g, 0, none⟩ = some (.string ⟨d.toArray⟩) := fun W => ModW.cell k0 W
          have hmw1 := tr0 (tr0 H4.out.1 HX.out.2.2.1) hmW
          have HE := Lib.hid (And.intro hmw1 (And.intro hmW k0))
          clear hW1 hg hmW hc0 hc1 k0 k1 hmw1
          refine wp_region_mod (by kernel_rfl) (by kernel_rfl) ?_
          refine wpQuiet_hide (fun R hR => ?_)
          iterate 10 ((first | refine wpQuiet_none hR rfl (fun K hK => ?_) | refine wpQuiet_take hR (by rfl) (fun K hK => ?_)); clear hR R; go_simp; first | (refine hK _ (fun R hR => ?_); clear hK K) | (apply Exists.intro; refine ⟨fun _ => ?_, hK _ (fun R hR => ?_)⟩; (first | (go_at_call_of 51 ((#[.slice A a.length c, .string ⟨d.toArray⟩] : Array Value)); refine quiet_mod (HX.out.2.2.2.2.1 _ (HE.out.1.trans (Subtype.property _) (fun _ h => h.elim)))) | (go_at_call_of 51 ((#[.slice A2 b.length c2, .string ⟨d.toArray⟩] : Array Value)); refine quiet_mod (HX.out.2.2.2.2.2.1 _ (HE.out.1.trans (Subtype.property _) (fun _ h => h.elim))))); clear hK K))
          refine wpQuiet_end hR ?_
          clear hR R
          rintro _ ⟨W, rfl⟩
          clear c0
          have k0 : W.1.cell? ⟨g, 0, none⟩ = some (.string ⟨d.toArray⟩) := ModW.cell HE.out.2.2 W
          obtain ⟨w5, hw5⟩ : ∃ w5, w5 = W.1 := ⟨_, rfl⟩
          have hm5 : Mod (fun _ => False) wr w5 := by rw [hw5]; exact HE.out.2.1.trans W.2 (fun _ h => h.elim)
          rw [← hw5] at k0 ⊢
          clear hw5 W
          have hO5 := HX.out.2.1.mod hm5 (fun _ _ => id) (fun _ _ _ => id)
          have hm45 := tr0 HX.out.2.2.1 hm5
          have hsz := hm45.size
          have htk := HX.out.2.2.2.1
          obtain ⟨v, hv⟩ : ∃ v, v = pk gr p q := ⟨_, rfl⟩
          rw [← hv] at htk
          have hvr : 0 ≤ v ∧ v ≤ 3 := by rw [hv]; exact HX.out.2.2.2.2.2.2.1
          have hE : ∀ (W : World) (T : Nat → Prop), EntryR.rel W T [.string ⟨d.toArray⟩, .int .i64 v] (ent d v) := fun W T => EntryR_mk _ _ (ent d v) (by rw [show (ent d v).cat.size = d.length from mkStr_size d]; omega) (by rw [lev_ent]; exact inR_mk (by omega))
          have hln := HX.out.2.2.2.2.2.2.2
          have H7 := Lib.hid (And.intro hO5 (And.intro hm45 (And.intro hE (And.intro htk hln)))); clear hO5 hm5 hm45 hE htk hln hvr
          unfold pk at hv
          by_cases hpq : p < q
          · cases gr with
            | true =>
              obtain rfl : v = q := by rw [hv, if_pos (by simp [hpq])]
              clear hv
              go_wp2_with (first
                | (refine wpList_slice1_agg rfl 22 63 _ rfl Tryz.underlying22 zeroEnt.toArray [.string ⟨d.toArray⟩, .int .i64 v] Tryz.info_ent2 (by decide) rfl rfl ?_)
                | (at_builtin; refine append_rd (R := EntryR) w4.heap.size rfl _ _ 22 63 (.agg zeroEnt.toArray) 24 rfl Tryz.underlying22 Tryz.info_ent3 rfl (by decide) (.slice A' i c') lst (ent d v) [.string ⟨d.toArray⟩, .int .i64 v] (fun _ => False) rfl rfl H7.out.1 (H7.out.2.2.1 _ _) hsz (by rw [H7.out.2.2.2.2]; omega) ?_))
              intro A8 c8 w8 hO8 hm8 hn8
              rw [H7.out.2.2.2.2] at hO8 hn8 ⊢
              have H8 := Lib.hid (And.intro hO8 hm8); clear hO8 hm8 hn8
              go_wp2_with fail
              go_roundg (gk - 1)
              case measure => have := HX.out.1; omega
              case rel =>
                refine ⟨i + 1, A8, c8, by go_num, rfl, by have := HX.out.1; omega, by rw [H7.out.2.2.2.1]; exact H8.out.1, H7.out.2.1.trans H8.out.2 (fun k hk => .inr ?_)⟩
                obtain ⟨cells, hown, _⟩ := H7.out.1
                exact (own_lt hown k hk).1
            | false =>
              obtain rfl : v = p := by rw [hv, if_neg (by simp [hpq])]
              clear hv
              go_wp2_with (first
                | (refine wpList_slice1_agg rfl 22 63 _ rfl Tryz.underlying22 zeroEnt.toArray [.string ⟨d.toArray⟩, .int .i64 v] Tryz.info_ent2 (by decide) rfl rfl ?_)
                | (at_builtin; refine append_rd (R := EntryR) w4.heap.size rfl _ _ 22 63 (.agg zeroEnt.toArray) 24 rfl Tryz.underlying22 Tryz.info_ent3 rfl (by decide) (.slice A' i c') lst (ent d v) [.string ⟨d.toArray⟩, .int .i64 v] (fun _ => False) rfl rfl H7.out.1 (H7.out.2.2.1 _ _) hsz (by rw [H7.out.2.2.2.2]; omega) ?_))
              intro A8 c8 w8 hO8 hm8 hn8
              rw [H7.out.2.2.2.2] at hO8 hn8 ⊢
              have H8 := Lib.hid (And.intro hO8 hm8); clear hO8 hm8 hn8
              go_wp2_with fail
              go_roundg (gk - 1)
              case measure => have := HX.out.1; omega
              case rel =>
                refine ⟨i + 1, A8, c8, by go_num, rfl, by have := HX.out.1; omega, by rw [H7.out.2.2.2.1]; exact H8.out.1, H7.out.2.1.trans H8.out.2 (fun k hk => .inr ?_)⟩
                obtain ⟨cells, hown, _⟩ := H7.out.1
                exact (own_lt hown k hk).1
          · cases gr with
            | true =>
              obtain rfl : v = p := by rw [hv, if_neg (by simp [hpq])]
              clear hv
              have hqp : q ≤ v := by omega
              go_wp2_with (first
                | (refine wpList_slice1_agg rfl 22 63 _ rfl Tryz.underlying22 zeroEnt.toArray [.string ⟨d.toArray⟩, .int .i64 v] Tryz.info_ent2 (by decide) rfl rfl ?_)
                | (at_builtin; refine append_rd (R := EntryR) w4.heap.size rfl _ _ 22 63 (.agg zeroEnt.toArray) 24 rfl Tryz.underlying22 Tryz.info_ent3 rfl (by decide) (.slice A' i c') lst (ent d v) [.string ⟨d.toArray⟩, .int .i64 v] (fun _ => False) rfl rfl H7.out.1 (H7.out.2.2.1 _ _) hsz (by rw [H7.out.2.2.2.2]; omega) ?_))
              intro A8 c8 w8 hO8 hm8 hn8
              rw [H7.out.2.2.2.2] at hO8 hn8 ⊢
              have H8 := Lib.hid (And.intro hO8 hm8); clear hO8 hm8 hn8
              go_wp2_with fail
              go_roundg (gk - 1)
              case measure => have := HX.out.1; omega
              case rel =>
                refine ⟨i + 1, A8, c8, by go_num, rfl, by have := HX.out.1; omega, by rw [H7.out.2.2.2.1]; exact H8.out.1, H7.out.2.1.trans H8.out.2 (fun k hk => .inr ?_)⟩
                obtain ⟨cells, hown, _⟩ := H7.out.1
                exact (own_lt hown k hk).1
            | false =>
              obtain rfl : v = q := by rw [hv, if_pos (by simp [hpq])]
              clear hv
              have hqp : v ≤ p := by omega
              go_wp2_with (first
                | (refine wpList_slice1_agg rfl 22 63 _ rfl Tryz.underlying22 zeroEnt.toArray [.string ⟨d.toArray⟩, .int .i64 v] Tryz.info_ent2 (by decide) rfl rfl ?_)
                | (at_builtin; refine append_rd (R := EntryR) w4.heap.size rfl _ _ 22 63 (.agg zeroEnt.toArray) 24 rfl Tryz.underlying22 Tryz.info_ent3 rfl (by decide) (.slice A' i c') lst (ent d v) [.string ⟨d.toArray⟩, .int .i64 v] (fun _ => False) rfl rfl H7.out.1 (H7.out.2.2.1 _ _) hsz (by rw [H7.out.2.2.2.2]; omega) ?_))
              intro A8 c8 w8 hO8 hm8 hn8
              rw [H7.out.2.2.2.2] at hO8 hn8 ⊢
              have H8 := Lib.hid (And.intro hO8 hm8); clear hO8 hm8 hn8
              go_wp2_with fail
              go_roundg (gk - 1)
              case measure => have := HX.out.1; omega
              case rel =>
                refine ⟨i + 1, A8, c8, by go_num, rfl, by have := HX.out.1; omega, by rw [H7.out.2.2.2.1]; exact H8.out.1, H7.out.2.1.trans H8.out.2 (fun k hk => .inr ?_)⟩
                obtain ⟨cells, hown, _⟩ := H7.out.1
                exact (own_lt hown k hk).1
        · have hie : l.take i = l := List.take_of_length_le (by omega)
          have hil : i = l.length := by omega
          subst hil
          rw [hie] at hO
          have hzz := H4.out.2.2.2
          obtain ⟨x, hx⟩ : ∃ x, x = l.map fun e => ent (nm e) (pk gr (levelL a (nm e)) (levelL b (nm e))) := ⟨_, rfl⟩
          rw [← hx] at hO hzz
          have hxl : l.length = x.length := by rw [hx, List.length_map]
          have hxb : ∀ e ∈ x, (nm e).length ≤ 1000000 := fun e he => by
            rw [hx] at he
            obtain ⟨y, hy, rfl⟩ := List.mem_map.1 he
            rw [nm_ent]; exact H4.out.2.2.1 y hy
          rw [hxl] at hO
          have hrd := hO.reads (bytes := 24) (by omega)
          have hm0 := tr0 H4.out.1 hmod
          have hmk := refmake_any A' x.length c' x _ wr hrd (by omega) hxb
          rw [← hzz] at hmk
          rw [← hxl] at hmk
          have HX := Lib.hid (And.intro hm0 hmk); clear hmod hO hie hi hrd hm0 hmk hxb hx hzz hxl
          go_wp2_with fail
          refine HX.out.2.mono ?_
          rintro r w5 ⟨A5, c5, rfl, hO5, hm5⟩
          have hO5' : OwnR EntryR 63 w5 w.heap.size (fun _ => False) (.slice A5 z.1.length c5) z.1 := by
            obtain ⟨cells, hown, hr⟩ := hO5
            exact ⟨cells, own_base_le hown HX.out.1.size, hr⟩
          have H5 := Lib.hid (And.intro hO5' (tr0 HX.out.1 hm5)); clear hO5 hO5' hm5
          go_wp2_with fail
          go_ret2
          exact ⟨A5, c5, rfl, H5.out.1, H5.out.2⟩
end Go.Proofs.YthhepnaanjicjaaGreatDoor

/- Layer 6, the laws: LabelFlows. -/
namespace Go.Proofs.YthhepnaanjicjaaGreatDoor
open Go.RowKit Go.Shelf
set_option linter.unusedVariables false
theorem pkX (a b : List Entry) : resX (pk true) a b = resX max a b := by rw [pk_max]
theorem pkN (a b : List Entry) : resX (pk false) a b = resX min a b := by rw [pk_min]
theorem resX_len (pick : Int → Int → Int) (a b : List Entry) : (resX pick a b).1.length ≤ 8 := by
  unfold resX resM
  split
  · split
    · simp
    · split
      · simp
      · rename_i h; simp at h ⊢; omega
  · simp
set_option maxRecDepth 100000 in
set_option maxHeartbeats 4000000 in
theorem labelFlows_mod (A : Option Addr) (n c : Nat) (A2 : Option Addr) (n2 c2 : Nat) (a b : List Entry) (ok ok2 : Nat → Prop) (w : World) (h : labR.rel w ok [.slice A n c] a) (h2 : labR.rel w ok2 [.slice A2 n2 c2] b) (E : Env w) :
    Calls Tryz.prog 7 #[.slice A n c, .slice A2 n2 c2] w fun r w' => r = .returned (.bool true) ∧ Mod (fun _ => False) w w' := by
  have RA := fun W (hW : Mod (fun _ => False) w W) => Rd.mod h hW (fun _ _ => id)
  have RB := fun W (hW : Mod (fun _ => False) w W) => Rd.mod h2 hW (fun _ _ => id)
  have H0 := Lib.hid (And.intro E (And.intro RA RB)); clear E h h2 RA RB
  go_enter Tryz.func7, Tryz.ntmps7
  go_wp2_with fail
  refine (first_any w H0.out.1).mono ?_
  rintro r w1 ⟨rfl, hm1⟩
  have hlo := long_any A n c a _ w1 (H0.out.2.1 w1 hm1)
  have H1 := Lib.hid (And.intro hm1 hlo); clear hm1 hlo
  go_wp2_with fail
  refine H1.out.2.mono ?_
  cases hla : longL a with
  | true =>
    clear hla
    rintro r w2 ⟨rfl, hm2⟩
    have H2 := Lib.hid (tr0 H1.out.1 hm2); clear hm2
    go_wp2_with fail
    go_ret
    exact ⟨rfl, H2.out⟩
  | false =>
    rintro r w2 ⟨rfl, hm2⟩
    have hm2 := tr0 H1.out.1 hm2
    have hlo2 := long_any A2 n2 c2 b _ w2 (H0.out.2.2 w2 hm2)
    have H2 := Lib.hid (And.intro hm2 (And.intro hlo2 (longL_iff.1 hla))); clear hm2 hlo2 hla
    go_wp2_with fail
    refine H2.out.2.1.mono ?_
    cases hlb : longL b with
    | true =>
      clear hlb
      rintro r w3 ⟨rfl, hm3⟩
      have H3 := Lib.hid (tr0 H2.out.1 hm3); clear hm3
      go_wp2_with fail
      go_ret
      exact ⟨rfl, H3.out⟩
    | false =>
      rintro r w3 ⟨rfl, hm3⟩
      have hm3 := tr0 H2.out.1 hm3
      have hja := join_any A n c A2 n2 c2 a b _ _ w3 (H0.out.2.1 w3 hm3) (H0.out.2.2 w3 hm3) (H0.out.1.mod0 hm3)
      have hnb : ∀ e ∈ b, (nm e).length ≤ 1000000 := fun e he => Nat.le_trans ((longL_iff.1 hlb).2 e he) (by decide)
      have hna : ∀ e ∈ a, (nm e).length ≤ 1000000 := fun e he => Nat.le_trans (H2.out.2.2.2 e he) (by decide)
      have hx8 := resX_len max a b
      have hy8 := resX_len min a b
      obtain ⟨x, hx⟩ : ∃ x, x = resX max a b := ⟨_, rfl⟩
      obtain ⟨y, hy⟩ : ∃ y, y = resX min a b := ⟨_, rfl⟩
      rw [← hx] at hja hx8
      rw [← hy] at hy8
      have H3 := Lib.hid (And.intro hm3 (And.intro hja (And.intro hna (And.intro hnb (And.intro hx hy))))); clear hm3 hja hna hnb hx hy hlb
      go_wp2_with fail
      refine H3.out.2.1.mono ?_
      rintro r w4 ⟨A4, c4, rfl, ho4, hm4⟩
      have hm4' := tr0 H3.out.1 hm4
      have hmi := refmix_any A n c A2 n2 c2 a b true _ _ w4 (H0.out.2.1 w4 hm4') (H0.out.2.2 w4 hm4') H3.out.2.2.1 H3.out.2.2.2.1
      rw [pkX, ← H3.out.2.2.2.2.1] at hmi
      have H4 := Lib.hid (And.intro hm4' (And.intro (ho4.reads (bytes := 24) (by omega)) hmi)); clear hm4' hm4 ho4 hmi
      go_wp2_with fail
      refine H4.out.2.2.mono ?_
      rintro r w5 ⟨A5, c5, rfl, ho5, hm5⟩
      have hm5' := tr0 H4.out.1 hm5
      have hme := meet_any A n c A2 n2 c2 a b _ _ w5 (H0.out.2.1 w5 hm5') (H0.out.2.2 w5 hm5') (H0.out.1.mod0 hm5')
      rw [← H3.out.2.2.2.2.2] at hme
      have H5 := Lib.hid (And.intro hm5' (And.intro hm5 (And.intro (ho5.reads (bytes := 24) (by omega)) hme))); clear hm5' hm5 ho5 hme
      go_wp2_with fail
      refine H5.out.2.2.2.mono ?_
      rintro r w6 ⟨A6, c6, rfl, ho6, hm6⟩
      have hm6' := tr0 H5.out.1 hm6
      have hmn := refmix_any A n c A2 n2 c2 a b false _ _ w6 (H0.out.2.1 w6 hm6') (H0.out.2.2 w6 hm6') H3.out.2.2.1 H3.out.2.2.2.1
      rw [pkN, ← H3.out.2.2.2.2.2] at hmn
      have H6 := Lib.hid (And.intro hm6' (And.intro hm6 (And.intro (ho6.reads (bytes := 24) (by omega)) hmn))); clear hm6' hm6 ho6 hmn
      go_wp2_with fail
      refine H6.out.2.2.2.mono ?_
      rintro r w7 ⟨A7, c7, rfl, ho7, hm7⟩
      have hm7' := tr0 H6.out.1 hm7
      have hm47 := tr0 (tr0 H5.out.2.1 H6.out.2.1) hm7
      have hm57 := tr0 H6.out.2.1 hm7
      have r4 := Rd.mod H4.out.2.1 hm47 (fun _ _ => id)
      have r5 := Rd.mod H5.out.2.2.1 hm57 (fun _ _ => id)
      have r6 := Rd.mod H6.out.2.2.1 hm7 (fun _ _ => id)
      have r7 := ho7.reads (bytes := 24) (by omega)
      have hfl := flows_any A n c A2 n2 c2 a b _ _ w7 (H0.out.2.1 w7 hm7') (H0.out.2.2 w7 hm7') (H0.out.1.mod0 hm7')
      obtain ⟨f, hf⟩ : ∃ f, f = flowsLB a b := ⟨_, rfl⟩
      rw [← hf] at hfl
      have H7 := Lib.hid (And.intro hm7' (And.intro r4 (And.intro r5 (And.intro r6 (And.intro r7 (And.intro hf hfl)))))); clear hm7' hm47 hm57 r4 r5 r6 r7 hf hfl ho7 hm7
      go_wp2_with fail
      refine H7.out.2.2.2.2.2.2.mono ?_
      rintro r w8 ⟨rfl, hm8⟩
      have hrf := refflows_any A n c A2 n2 c2 a b _ _ w8 (H0.out.2.1 w8 (tr0 H7.out.1 hm8)) (H0.out.2.2 w8 (tr0 H7.out.1 hm8)) H3.out.2.2.1 H3.out.2.2.2.1
      rw [← H7.out.2.2.2.2.2.1] at hrf
      have H8 := Lib.hid (And.intro hm8 hrf); clear hm8 hrf
      go_wp2_with fail
      refine H8.out.2.mono ?_
      rintro r w9 ⟨rfl, hm9⟩
      have hm9 := tr0 H8.out.1 hm9
      have sJ := refsame_any A4 x.1.length c4 A5 x.1.length c5 x.1 x.1 _ _ w9 (Rd.mod H7.out.2.1 hm9 (fun _ _ => id)) (Rd.mod H7.out.2.2.1 hm9 (fun _ _ => id))
      rw [sameL_iff.2 rfl] at sJ
      have H9 := Lib.hid (And.intro hm9 sJ); clear hm9 sJ
      have e1 : (f == f) = true := by simp
      go_wp2_with fail
      refine H9.out.2.mono ?_
      rintro r w10 ⟨rfl, hm10⟩
      have hm10 := tr0 H9.out.1 hm10
      have sM := refsame_any A6 y.1.length c6 A7 y.1.length c7 y.1 y.1 _ _ w10 (Rd.mod H7.out.2.2.2.1 hm10 (fun _ _ => id)) (Rd.mod H7.out.2.2.2.2.1 hm10 (fun _ _ => id))
      rw [sameL_iff.2 rfl] at sM
      have H10 := Lib.hid (And.intro hm10 sM); clear hm10 sM
      go_wp2_with fail
      refine H10.out.2.mono ?_
      rintro r w11 ⟨rfl, hm11⟩
      have H11 := Lib.hid (tr0 (tr0 H7.out.1 H10.out.1) hm11); clear hm11
      go_wp2_with fail
      go_ret
      exact ⟨rfl, H11.out⟩
theorem labelFlows_walk (A : Option Addr) (n c : Nat) (A2 : Option Addr) (n2 c2 : Nat) (a b : List Entry) (W : World) (h1 : labR.rel W (fun k => k < W.heap.size) [.slice A n c] a) (h2 : labR.rel W (fun k => k < W.heap.size) [.slice A2 n2 c2] b) (E : Env W) :
    Calls Tryz.prog 7 #[.slice A n c, .slice A2 n2 c2] W fun r W' => r = .returned (.bool true) ∧ Below W.heap.size W W' :=
  (labelFlows_mod A n c A2 n2 c2 a b _ _ W h1 h2 E).mono fun _ _ h => ⟨h.1, below0 h.2⟩
end Go.Proofs.YthhepnaanjicjaaGreatDoor

/- The law LabelFlows returns true for every input, and its arguments read afterwards as before. No condition. -/
namespace Go.Proofs.YthhepnaanjicjaaGreatDoor.labelFlows
open Go.ChangeShapes Go.WideShapes Go.ChangeAt Go.RowKit
open Go.ChangeMaps (open_string)
set_option linter.unusedVariables false
theorem own : ownKnob Tryz.prog.godebug = none := by kernel_rfl
theorem laidOut : laidOutB Tryz.prog = true := by kernel_rfl
set_option maxRecDepth 100000 in
theorem lifted (os : Os) (started : os.Started) (H : Type) (enc : TypeId × Value → H) :
    ReturnsInHanded {} Tryz.checked os 7 .any (fun w args => (Rows.labelFlowsSpec.pre enc Tryz.prog Tryz.f7 Rows.labelFlowsRow.domain false w args ∧ laidMetH Tryz.prog Rows.labelFlowsRow.laid w) ∧ sizedMet enc Tryz.prog Tryz.f7 (OpenSpec.ofChange Rows.labelFlowsSpec) false w args) (Rows.labelFlowsSpec.post enc Tryz.prog Tryz.f7 false true false false) := by
  refine returnsInHanded_of_change_and (C := Tryz.checked) (X := fun w _ => laidMetH Tryz.prog Rows.labelFlowsRow.laid w) (fun _ _ _ hh h => h.of_heap hh) own started (by kernel_rfl) Tryz.func7
    (ChangeSpec.witness_shaped (enc := enc) (C := Tryz.checked) (os := os) (X := fun w _ => laidMetH Tryz.prog Rows.labelFlowsRow.laid w) false (laidWorld os) #[.slice none 0 0, .slice none 0 0] 8 rfl (World.shaped_of_RefB (by kernel_rfl) (by kernel_rfl)) (by kernel_rfl) (by kernel_rfl) (by kernel_rfl) (laidWorld_met os _)) ?_
  intro W base args ds gs before hval0 hW hcnd hsz0 hL _
  have hsz : (DataW.weightsEach Tryz.prog (Tryz.f7.params.toList ++ Rows.labelFlowsSpec.plain.varTypes Tryz.prog) (ds ++ gs)).all (· ≤ reachBytes) = true := hsz0
  have hW' := hW
  obtain ⟨p, q, hA0, hV, rfl, hfz, hnd⟩ := hW
  have hval : ∀ (j : Nat) t v, Tryz.f7.params[j]? = some t → args[j]? = some v → Value.okWide Tryz.prog W .any base t v := hval0
  have hA : DataW.TrodAll enc Tryz.prog W 0 (fun _ => true) true Tryz.f7.params.toList args.toList ds p := hA0
  rw [Tryz.params7] at hA hval hsz
  obtain ⟨v0, vs0, d0, ds0, p0, q0, hargs, rfl, rfl, h0, r0⟩ := trodAll_cons hA
  obtain ⟨v1, vs1, d1, ds1, p1, q1, rfl, rfl, rfl, h1, r1⟩ := trodAll_cons r0
  obtain ⟨rfl, rfl, rfl⟩ := trodAll_nil r1
  obtain rfl : args = #[v0, v1] := by cases args; simp_all
  obtain ⟨rfl, rfl⟩ := trodVars_none hV
  obtain ⟨a0, n0, c0, rfl⟩ := okWide_slice Tryz.underlying23 (hval 0 23 v0 rfl rfl)
  have k0 := h0
  have lt0 : ∀ x ∈ p0, x.block < W.heap.size := by obtain ⟨m, hm⟩ := k0; exact DataW.trod_lt m _ _ _ hm
  obtain ⟨x0, y0⟩ : ∃ x, Rd.rel (labR) W (fun k => k < W.heap.size) [.slice a0 n0 c0] x := by
    obtain ⟨fuel, hf⟩ := h0
    exact lab_opens H enc W _ _ _ fuel _ _ hf (fun n hn => of_decide_eq_true (List.all_eq_true.1 hsz _ (DataW.weights_mem_each (j := 0) rfl rfl n hn)))
  obtain ⟨a1, n1, c1, rfl⟩ := okWide_slice Tryz.underlying23 (hval 1 23 v1 rfl rfl)
  have k1 := h1
  have lt1 : ∀ x ∈ p1, x.block < W.heap.size := by obtain ⟨m, hm⟩ := k1; exact DataW.trod_lt m _ _ _ hm
  obtain ⟨x1, y1⟩ : ∃ x, Rd.rel (labR) W (fun k => k < W.heap.size) [.slice a1 n1 c1] x := by
    obtain ⟨fuel, hf⟩ := h1
    exact lab_opens H enc W _ _ _ fuel _ _ hf (fun n hn => of_decide_eq_true (List.all_eq_true.1 hsz _ (DataW.weights_mem_each (j := 1) rfl rfl n hn)))
  clear hA0 hval0 hsz0 hsz
  refine (labelFlows_walk a0 n0 c0 a1 n1 c1 x0 x1 W y0 y1 (env_of hL)).mono fun e W' ⟨he, bel⟩ => ?_
  subst he
  exact ⟨_, rfl, _, _, _, [], _, [], hW', trodAll_mk1 (shut_bool Tryz.underlying4 _), (trodAll_cons_mk (Below.trod laidOut (by kernel_rfl) (of_decide_eq_true (by kernel_rfl)) k0 bel lt0) (trodAll_cons_mk (Below.trod laidOut (by kernel_rfl) (of_decide_eq_true (by kernel_rfl)) k1 bel lt1) trodAll_mk0)), rfl, bel.frame _, fun h => by cases h⟩
theorem over : Rows.labelFlowsRow.holds Tryz.pinned (OpenSpec.ofChange Rows.labelFlowsSpec) :=
  OpenClaim.holds_of_wide 7 Tryz.f7 rfl rfl rfl rfl rfl rfl rfl ⟨rfl, rfl, rfl, rfl, rfl⟩ rfl rfl rfl rfl rfl (by kernel_rfl) Tryz.func7 (by kernel_rfl)
    (of_decide_eq_true (by kernel_rfl)) (by unfold Func.isWrapper; first | (rw [if_pos (by decide +kernel)]; kernel_rfl) | (rw [if_neg (by decide +kernel)]; exact ⟨rfl, rfl⟩))
    (fun os started H enc _ => lifted os started H enc)
theorem proved : Rows.LabelFlowsSaid := over
#print axioms proved
end Go.Proofs.YthhepnaanjicjaaGreatDoor.labelFlows
namespace Go.Proofs.YthhepnaanjicjaaGreatDoor
/-- The row, under a short name, for the claim. -/
theorem labelFlows_holds : Rows.LabelFlowsSaid := labelFlows.proved
end Go.Proofs.YthhepnaanjicjaaGreatDoor

/- The law LabelFlows returns true for every input, and its arguments read afterwards as before: the tied card. No condition beyond the row's own. -/
namespace Go.Proofs.YthhepnaanjicjaaGreatDoor
open Go
theorem labelFlows_card_holds : Rows.LabelFlowsCardSaid :=
  Claim7.holds_tied_plain_at .later [] [.data, .data, .data, .data, .sentinel, .sentinel, .pinned] true (true, "fd594034ef6ac330493a0e3f50887663515fa0ef89308825e5a45e0f653eee68") true
    labelFlows_holds (fun _ h => by cases h) (by kernel_rfl) (fun _ h => by cases h) labelFlows_row_tie rfl ⟨rfl, rfl⟩ (by kernel_rfl) rfl
    (fun f fn hf hfn => by
      obtain rfl : f = 7 := Option.some.inj ((show Tryz.prog.funcNamed "regency/regencylaw06.LabelFlows" = some 7 by kernel_rfl).symm.trans hf) |>.symm
      obtain rfl : fn = Tryz.f7 := (Option.some.inj (Tryz.func7.symm.trans hfn)).symm
      exact ⟨by kernel_rfl, fun j t ht => by
        rw [Tryz.params7] at ht
        have hm : t ∈ [23, 23] := by simpa using Array.mem_of_getElem? ht
        have hall : ([23, 23].all fun u => !Tryz.prog.wantsStandIn u) = true := by kernel_rfl
        exact (show Tryz.prog.wantsStandIn t = false by simpa using List.all_eq_true.1 hall t hm)⟩)
    (by kernel_rfl)
#print axioms labelFlows_card_holds
end Go.Proofs.YthhepnaanjicjaaGreatDoor
