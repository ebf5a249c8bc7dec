/- Part of this claim's proof (texts Lab3, Lab4, LabI, Lab5, Lab6, Lab7, Lab8, LabC, Strs, joined by program). -/
import Derived.Test.YtefedalnafjcfaaGreatDoorA07
import Derived.Lib.LazyBuf
import Derived.StillTailTactics
import Derived.Test.YtefedalnafjcfaaGreatDoorA04
import Derived.Lib.AppendZeros
import Derived.Test.YtefedalnafjcfaaGreatDoorA06
namespace Go.Proofs.YtefedalnafjcfaaGreatDoor
open Go.RowKit Go.Shelf
set_option linter.unusedVariables false
theorem right_no {l : List Entry} {i : Nat} {c : List UInt8} {n : Int} (h : l[i]? = some (ent c n)) (hb : rightB c = false ∨ n = 1 ∨ n < 0 ∨ 3 < n) : rightLB l = false :=
  rightLB_no fun hr => by
    have := hr.each _ (List.mem_of_getElem? h)
    rw [nm_ent, lev_ent] at this
    rcases hb with hb | hb | hb | hb
    · rw [hb] at this; cases this.1
    · exact this.2.2.2 hb
    · omega
    · omega
theorem right_no2 {l : List Entry} {k : Nat} {c d : List UInt8} {n m : Int} (h : l[k]? = some (ent c n)) (h2 : l[k + 1]? = some (ent d m)) (hz : ¬ cmpB c d < 0) : rightLB l = false :=
  rightLB_no fun hr => by
    have hl1 := (List.getElem?_eq_some_iff.1 h)
    have hl2 := (List.getElem?_eq_some_iff.1 h2)
    have := List.pairwise_iff_getElem.1 (asc_iff.1 hr.asc) k (k + 1) hl1.1 hl2.1 (by omega)
    obtain ⟨_, e1⟩ := hl1
    obtain ⟨_, e2⟩ := hl2
    rw [e1, e2] at this
    unfold ltE ltB at this
    rw [nm_ent, nm_ent] at this
    exact hz this
theorem take_pair {l : List Entry} {i : Nat} {x : Entry} (h : l[i]? = some x) (hp : (l.take i).Pairwise ltE) (hlast : ∀ k y, i = k + 1 → l[k]? = some y → ltE y x) : (l.take (i + 1)).Pairwise ltE := by
  rw [List.take_add_one, h, List.pairwise_append]
  refine ⟨hp, by simp, fun a ha b hb => ?_⟩
  simp at hb
  subst hb
  have hil := (List.getElem?_eq_some_iff.1 h).1
  obtain ⟨j, hj⟩ := List.getElem?_of_mem ha
  have hjl := (List.getElem?_eq_some_iff.1 hj).1
  rw [List.length_take] at hjl
  rw [List.getElem?_take_of_lt (by omega)] at hj
  obtain ⟨k, rfl⟩ : ∃ k, i = k + 1 := ⟨i - 1, by omega⟩
  have hk : l[k]? = some l[k] := List.getElem?_eq_getElem (by omega)
  have hlt := hlast k _ rfl hk
  by_cases hjk : j = k
  · subst hjk
    rw [hj] at hk; cases hk; exact hlt
  · have h1 := List.pairwise_iff_getElem.1 hp j k (by rw [List.length_take]; omega) (by rw [List.length_take]; omega) (by omega)
    rw [List.getElem_take, List.getElem_take] at h1
    rw [List.getElem?_eq_getElem (by omega)] at hj
    rw [Option.some.inj hj] at h1
    exact ltE_tr _ _ _ h1 hlt
set_option maxRecDepth 100000 in
set_option maxHeartbeats 800000 in
theorem rightLab_any (A : Option Addr) (n c : Nat) (l : List Entry) (ok : Nat → Prop) (w : World) (h : labR.rel w ok [.slice A n c] l) (E : Env w) :
    Calls Tryz.prog 72 #[.slice A n c] w fun r w' => r = .returned (.bool (rightLB l)) ∧ Mod (fun _ => False) w w' := by
  obtain ⟨rfl, hcap, -, hbig, -, hrow⟩ := lab_row h
  obtain ⟨z, hz⟩ : ∃ z, z = rightLB l := ⟨_, rfl⟩
  rw [← hz]
  have H0 := Lib.hid (And.intro E (And.intro hrow hz)); clear E hrow h hz
  go_enter Tryz.func72, Tryz.ntmps72
  by_cases h8 : 8 < l.length
  · have e1 : decide ((8 : Int) < (l.length : Int)) = true := by simp; omega
    have hzf : z = false := by rw [H0.out.2.2]; exact rightLB_no fun hr => by have := hr.len; omega
    subst hzf
    go_wp2_with fail
    go_ret
    exact ⟨rfl, .refl _ _⟩
  have e1 : decide ((8 : Int) < (l.length : Int)) = false := by simp; omega
  go_wp2_with fail
  go_loopg [10] l.length (fun f si wr => ∃ i : Nat, si = .int .i64 i ∧ i + f = l.length ∧ (∀ e ∈ l.take i, rightB (nm e) = true ∧ 0 ≤ e.level ∧ e.level ≤ 3 ∧ e.level ≠ 1) ∧ (l.take i).Pairwise ltE ∧ Mod (fun _ => False) w wr)
  case atStart => exact ⟨0, rfl, by omega, by simp, by simp, .refl _ _⟩
  case round =>
    obtain ⟨i, rfl, hi, heach, hpair, hmod⟩ := hrel
    by_cases hlt : i < l.length
    · obtain ⟨d, m, hx⟩ : ∃ d m, l[i]? = some (ent d m) := by
        obtain ⟨d, m, e⟩ := ent_cases l[i]
        exact ⟨d, m, by rw [← e]; simp [hlt]⟩
      have hrow := H0.out.2.1.step (w1 := wr) (ok1 := ok) (fun k hk hl => ⟨hk, hmod.block k hl id⟩)
      obtain ⟨ad, rfl, -, hc0, hc1, hdl, hmr⟩ := row_ent hrow hx
      have htk : l.take (i + 1) = l.take i ++ [ent d m] := by rw [List.take_add_one, hx]; rfl
      have HX := Lib.hid (And.intro hi (And.intro heach (And.intro hpair (And.intro hmod (And.intro hx (And.intro htk hrow)))))); clear hi heach hpair hmod hx htk hrow
      go_wp2_with fail
      obtain ⟨W1, hW1⟩ : ∃ W1, W1 = wr.alloc (.cells #[.string ⟨d.toArray⟩, .int .i64 m] 129) := ⟨_, rfl⟩
      rw [← hW1]
      have hb1 : W1.heap[wr.heap.size]? = some (.cells #[.string ⟨d.toArray⟩, .int .i64 m] 129 (0, 0)) := by rw [hW1]; exact World.alloc_heap_new wr _
      have hm1 : Mod (fun _ => False) wr W1 := by rw [hW1]; exact (Mod.refl _ _).alloc _
      obtain ⟨g, hg⟩ : ∃ g, g = wr.heap.size := ⟨_, rfl⟩
      rw [← hg] at hb1 ⊢
      have hbW : ∀ W : ModW W1, W.1.heap[g]? = some (.cells #[.string ⟨d.toArray⟩, .int .i64 m] 129 (0, 0)) := fun W => (W.2.block g (lt_of_blk hb1) id).trans hb1
      have c0 : ∀ W : ModW W1, W.1.cell? ⟨g, 0, none⟩ = some (.string ⟨d.toArray⟩) := fun W => by rw [Lib.cell_of_heap (hbW W)]; rfl
      have c1 : ∀ W : ModW W1, W.1.cell? ⟨g, 1, none⟩ = some (.int .i64 m) := fun W => by rw [Lib.cell_of_heap (hbW W)]; rfl
      have HE := Lib.hid (And.intro (tr0 HX.out.2.2.2.1 hm1) (And.intro hm1 (H0.out.1.mod0 (tr0 HX.out.2.2.2.1 hm1))))
      have hright := fun W E => right_any d hdl W E
      clear hbW hb1 hm1 hW1 hg hc0 hc1
      have HA := Lib.hid trivial
      cases hb : rightB d with
      | false =>
        rw [hb] at hright
        have HC := Lib.hid (And.intro hright trivial); clear hright
        have hzf : z = false := by rw [H0.out.2.2]; exact right_no HX.out.2.2.2.2.1 (.inl hb)
        subst hzf
        clear hb
        refine wp_region_mod (by kernel_rfl) (by kernel_rfl) ?_
        refine wpQuiet_hide (fun R hR => ?_)
        iterate 34 (first
          | ((first | refine wpQuiet_none hR rfl (fun K hK => ?_) | refine wpQuiet_take hR (by rfl) (fun K hK => ?_)); clear hR R; go_simp; first | (refine hK _ (fun R hR => ?_); clear hK K) | (apply Exists.intro; refine ⟨fun _ => ?_, hK _ (fun R hR => ?_)⟩; (first | (go_at_call 103; refine quiet_mod (HC.out.1 _ (HE.out.2.2.mod0 (Subtype.property _)))) | (go_at_call 104; refine quiet_mod (HA.out _ (HE.out.2.2.mod0 (Subtype.property _))))); clear hK K))
          | (refine wpQuiet_skip hR (by rfl) (fun K hK => ?_); clear hR R; go_simp; refine hK _ (fun R hR => ?_); clear hK K))
        refine wpQuiet_end hR ?_
        clear hR R
        rintro _ ⟨W, rfl⟩
        clear c0 c1
        go_wp2_with fail
        go_ret
        exact ⟨rfl, HE.out.1.trans W.2 (fun _ h => h.elim)⟩
      | true =>
        rw [hb] at hright
        have HC := Lib.hid (And.intro hright trivial); clear hright
        have HB := Lib.hid hb; clear hb
        by_cases hm1 : m = 1
        · have hzf : z = false := by rw [H0.out.2.2]; exact right_no HX.out.2.2.2.2.1 (.inr (.inl hm1))
          subst hzf
          have e2 : (m == 1) = true := by simp [hm1]
          clear hm1
          refine wp_region_mod (by kernel_rfl) (by kernel_rfl) ?_
          refine wpQuiet_hide (fun R hR => ?_)
          iterate 34 (first
            | ((first | refine wpQuiet_none hR rfl (fun K hK => ?_) | refine wpQuiet_take hR (by rfl) (fun K hK => ?_)); clear hR R; go_simp; first | (refine hK _ (fun R hR => ?_); clear hK K) | (apply Exists.intro; refine ⟨fun _ => ?_, hK _ (fun R hR => ?_)⟩; (first | (go_at_call 103; refine quiet_mod (HC.out.1 _ (HE.out.2.2.mod0 (Subtype.property _)))) | (go_at_call 104; refine quiet_mod (HA.out _ (HE.out.2.2.mod0 (Subtype.property _))))); clear hK K))
            | (refine wpQuiet_skip hR (by rfl) (fun K hK => ?_); clear hR R; go_simp; refine hK _ (fun R hR => ?_); clear hK K))
          refine wpQuiet_end hR ?_
          clear hR R
          rintro _ ⟨W, rfl⟩
          clear c0 c1
          go_wp2_with fail
          go_ret
          exact ⟨rfl, HE.out.1.trans W.2 (fun _ h => h.elim)⟩
        have e2 : (m == 1) = false := by simp [hm1]
        by_cases hm0 : m < 0
        · have hzf : z = false := by rw [H0.out.2.2]; exact right_no HX.out.2.2.2.2.1 (.inr (.inr (.inl hm0)))
          subst hzf
          have e3 : decide (m < 0) = true := by simp [hm0]
          clear hm0
          refine wp_region_mod (by kernel_rfl) (by kernel_rfl) ?_
          refine wpQuiet_hide (fun R hR => ?_)
          iterate 34 (first
            | ((first | refine wpQuiet_none hR rfl (fun K hK => ?_) | refine wpQuiet_take hR (by rfl) (fun K hK => ?_)); clear hR R; go_simp; first | (refine hK _ (fun R hR => ?_); clear hK K) | (apply Exists.intro; refine ⟨fun _ => ?_, hK _ (fun R hR => ?_)⟩; (first | (go_at_call 103; refine quiet_mod (HC.out.1 _ (HE.out.2.2.mod0 (Subtype.property _)))) | (go_at_call 104; refine quiet_mod (HA.out _ (HE.out.2.2.mod0 (Subtype.property _))))); clear hK K))
            | (refine wpQuiet_skip hR (by rfl) (fun K hK => ?_); clear hR R; go_simp; refine hK _ (fun R hR => ?_); clear hK K))
          refine wpQuiet_end hR ?_
          clear hR R
          rintro _ ⟨W, rfl⟩
          clear c0 c1
          go_wp2_with fail
          go_ret
          exact ⟨rfl, HE.out.1.trans W.2 (fun _ h => h.elim)⟩
        have e3 : decide (m < 0) = false := by simp; omega
        by_cases hm4 : 4 ≤ m
        · have hzf : z = false := by rw [H0.out.2.2]; exact right_no HX.out.2.2.2.2.1 (.inr (.inr (.inr (by omega))))
          subst hzf
          have e4 : decide (4 ≤ m) = true := by simp [hm4]
          clear hm4
          refine wp_region_mod (by kernel_rfl) (by kernel_rfl) ?_
          refine wpQuiet_hide (fun R hR => ?_)
          iterate 34 (first
            | ((first | refine wpQuiet_none hR rfl (fun K hK => ?_) | refine wpQuiet_take hR (by rfl) (fun K hK => ?_)); clear hR R; go_simp; first | (refine hK _ (fun R hR => ?_); clear hK K) | (apply Exists.intro; refine ⟨fun _ => ?_, hK _ (fun R hR => ?_)⟩; (first | (go_at_call 103; refine quiet_mod (HC.out.1 _ (HE.out.2.2.mod0 (Subtype.property _)))) | (go_at_call 104; refine quiet_mod (HA.out _ (HE.out.2.2.mod0 (Subtype.property _))))); clear hK K))
            | (refine wpQuiet_skip hR (by rfl) (fun K hK => ?_); clear hR R; go_simp; refine hK _ (fun R hR => ?_); clear hK K))
          refine wpQuiet_end hR ?_
          clear hR R
          rintro _ ⟨W, rfl⟩
          clear c0 c1
          go_wp2_with fail
          go_ret
          exact ⟨rfl, HE.out.1.trans W.2 (fun _ h => h.elim)⟩
        have e4 : decide (4 ≤ m) = false := by simp; omega
        by_cases hi0 : i = 0
        · subst hi0
          refine wp_region_mod (by kernel_rfl) (by kernel_rfl) ?_
          refine wpQuiet_hide (fun R hR => ?_)
          iterate 34 (first
            | ((first | refine wpQuiet_none hR rfl (fun K hK => ?_) | refine wpQuiet_take hR (by rfl) (fun K hK => ?_)); clear hR R; go_simp; first | (refine hK _ (fun R hR => ?_); clear hK K) | (apply Exists.intro; refine ⟨fun _ => ?_, hK _ (fun R hR => ?_)⟩; (first | (go_at_call 103; refine quiet_mod (HC.out.1 _ (HE.out.2.2.mod0 (Subtype.property _)))) | (go_at_call 104; refine quiet_mod (HA.out _ (HE.out.2.2.mod0 (Subtype.property _))))); clear hK K))
            | (refine wpQuiet_skip hR (by rfl) (fun K hK => ?_); clear hR R; go_simp; refine hK _ (fun R hR => ?_); clear hK K))
          refine wpQuiet_end hR ?_
          clear hR R
          rintro _ ⟨W, rfl⟩
          clear c0 c1
          go_wp2_with fail
          go_roundg (gk - 1)
          case measure => have := HX.out.1; omega
          case rel =>
            obtain ⟨hi, heach, hpair, hmod, hx, htk, hrow⟩ := HX.out
            refine ⟨0 + 1, by go_num, by omega, ?_, take_pair hx hpair (fun k2 y hk hy => ?_), HE.out.1.trans W.2 (fun _ h => h.elim)⟩
            · rw [htk]
              intro e he
              rcases List.mem_append.1 he with he | he
              · exact heach e he
              · rw [List.mem_singleton.1 he, nm_ent, lev_ent]
                exact ⟨HB.out, by omega, by omega, by omega⟩
            · omega
        · obtain ⟨k, hk⟩ : ∃ k, i = k + 1 := ⟨i - 1, by omega⟩
          obtain ⟨d2, m2, hy⟩ : ∃ d m, l[k]? = some (ent d m) := by
            obtain ⟨d, m, e⟩ := ent_cases (l[k]'(by omega))
            exact ⟨d, m, by rw [← e]; exact List.getElem?_eq_getElem (by omega)⟩
          obtain ⟨ad', hA, -, hp0, hp1, hdl2, -⟩ := row_ent HX.out.2.2.2.2.2.2 hy
          obtain rfl : ad = ad' := by injection hA
          have hwr : IntKind.i64.wrap ((i : Int) - 1) = (k : Int) := by rw [IntKind.wrap_i64]; omega
          have hkl : k < l.length := by omega
          have q0 : ∀ W : ModW W1, W.1.cell? (ad.add (k * 2)) = some (.string ⟨d2.toArray⟩) := fun W => ModW.cell hp0 ⟨W.1, HE.out.2.1.trans W.2 (fun _ h => h.elim)⟩
          have q1 : ∀ W : ModW W1, W.1.cell? ⟨(ad.add (k * 2)).block, (ad.add (k * 2)).off + 1, none⟩ = some (.int .i64 m2) := fun W => ModW.cell hp1 ⟨W.1, HE.out.2.1.trans W.2 (fun _ h => h.elim)⟩
          have hat := fun W E => at_any d2 d m2 hdl2 hdl W E
          obtain ⟨zc, hzc⟩ : ∃ zc, zc = cmpB d2 d := ⟨_, rfl⟩
          simp only [← hzc] at hat
          have hi1 : 0 < i := by omega
          have e5 : decide (0 < i) = true := by simp; omega
          clear HA
          have HA := Lib.hid hat
          have HY := Lib.hid (And.intro hy (And.intro hk hzc))
          clear hat hy hA hp0 hp1 hk hzc hi0
          by_cases hneg : zc < 0
          · have e6 : decide (0 ≤ zc) = false := by simp; omega
            have HN := Lib.hid hneg; clear hneg
            refine wp_region_mod (by kernel_rfl) (by kernel_rfl) ?_
            refine wpQuiet_hide (fun R hR => ?_)
            iterate 34 (first
              | ((first | refine wpQuiet_none hR rfl (fun K hK => ?_) | refine wpQuiet_take hR (by rfl) (fun K hK => ?_)); clear hR R; go_simp; first | (refine hK _ (fun R hR => ?_); clear hK K) | (apply Exists.intro; refine ⟨fun _ => ?_, hK _ (fun R hR => ?_)⟩; (first | (go_at_call 103; refine quiet_mod (HC.out.1 _ (HE.out.2.2.mod0 (Subtype.property _)))) | (go_at_call 104; refine quiet_mod (HA.out _ (HE.out.2.2.mod0 (Subtype.property _))))); clear hK K))
              | (refine wpQuiet_skip hR (by rfl) (fun K hK => ?_); clear hR R; go_simp; refine hK _ (fun R hR => ?_); clear hK K))
            refine wpQuiet_end hR ?_
            clear hR R
            rintro _ ⟨W, rfl⟩
            clear c0 c1 q0 q1
            go_wp2_with fail
            go_roundg (gk - 1)
            case measure => have := HX.out.1; omega
            case rel =>
              obtain ⟨hi, heach, hpair, hmod, hx, htk, hrow⟩ := HX.out
              refine ⟨i + 1, by go_num, by omega, ?_, take_pair hx hpair (fun k2 y hk hy => ?_), HE.out.1.trans W.2 (fun _ h => h.elim)⟩
              · rw [htk]
                intro e he
                rcases List.mem_append.1 he with he | he
                · exact heach e he
                · rw [List.mem_singleton.1 he, nm_ent, lev_ent]
                  exact ⟨HB.out, by omega, by omega, by omega⟩
              · obtain ⟨h1, h2, h3⟩ := HY.out
                obtain rfl : k = k2 := by omega
                rw [h1] at hy
                obtain rfl := Option.some.inj hy
                unfold ltE ltB
                rw [nm_ent, nm_ent, ← h3]
                exact HN.out
          · have e6 : decide (0 ≤ zc) = true := by simp; omega
            have hzf : z = false := by rw [H0.out.2.2]; have h1 := HX.out.2.2.2.2.1; rw [HY.out.2.1] at h1; exact right_no2 HY.out.1 h1 (by rw [← HY.out.2.2]; exact hneg)
            subst hzf
            refine wp_region_mod (by kernel_rfl) (by kernel_rfl) ?_
            refine wpQuiet_hide (fun R hR => ?_)
            iterate 34 (first
              | ((first | refine wpQuiet_none hR rfl (fun K hK => ?_) | refine wpQuiet_take hR (by rfl) (fun K hK => ?_)); clear hR R; go_simp; first | (refine hK _ (fun R hR => ?_); clear hK K) | (apply Exists.intro; refine ⟨fun _ => ?_, hK _ (fun R hR => ?_)⟩; (first | (go_at_call 103; refine quiet_mod (HC.out.1 _ (HE.out.2.2.mod0 (Subtype.property _)))) | (go_at_call 104; refine quiet_mod (HA.out _ (HE.out.2.2.mod0 (Subtype.property _))))); clear hK K))
              | (refine wpQuiet_skip hR (by rfl) (fun K hK => ?_); clear hR R; go_simp; refine hK _ (fun R hR => ?_); clear hK K))
            refine wpQuiet_end hR ?_
            clear hR R
            rintro _ ⟨W, rfl⟩
            clear c0 c1 q0 q1
            go_wp2_with fail
            go_ret
            exact ⟨rfl, HE.out.1.trans W.2 (fun _ h => h.elim)⟩
    · have hie : l.take i = l := List.take_of_length_le (by omega)
      rw [hie] at heach hpair
      have hzt : z = true := by rw [H0.out.2.2]; exact rightLB_iff.2 ⟨by omega, heach, asc_iff.2 hpair⟩
      subst hzt
      have HX := Lib.hid hmod; clear hmod heach hpair hie hi
      go_wp2_with fail
      go_ret
      exact ⟨rfl, HX.out⟩
end Go.Proofs.YtefedalnafjcfaaGreatDoor

namespace Go.Proofs.YtefedalnafjcfaaGreatDoor
open Go.RowKit
set_option linter.unusedVariables false
def idxL (p : Entry → Bool) (l : List Entry) : Int := match l.findIdx? p with
  | none => -1
  | some i => i
theorem idxL_some {p : Entry → Bool} {l : List Entry} {i : Nat} {x : Entry} (h : l[i]? = some x) (hp : p x = true) (hno : ∀ y ∈ l.take i, p y = false) : idxL p l = i := by
  unfold idxL
  have hl := (List.getElem?_eq_some_iff.1 h)
  have : l.findIdx? p = some i := by
    rw [List.findIdx?_eq_some_iff_getElem]
    obtain ⟨hlt, e⟩ := hl
    refine ⟨hlt, by rw [e]; exact hp, fun j hj => ?_⟩
    rw [hno l[j] (by rw [List.mem_take_iff_getElem]; exact ⟨j, by omega, rfl⟩)]
    simp
  rw [this]
theorem idxL_none {p : Entry → Bool} {l : List Entry} (hno : ∀ y ∈ l, p y = false) : idxL p l = -1 := by
  unfold idxL
  have : l.findIdx? p = none := by
    rw [List.findIdx?_eq_none_iff]
    intro x hx; rw [hno x hx]
  rw [this]
theorem idxL_level (l : List Entry) (c : List UInt8) : (idxL (fun e => nm e == c) l = -1 ∧ levelL l c = 1) ∨ ∃ (i : Nat) (d : List UInt8), idxL (fun e => nm e == c) l = (i : Int) ∧ i < l.length ∧ l[i]? = some (ent d (levelL l c)) := by
  cases h : l.findIdx? (fun e => nm e == c) with
  | none =>
    refine .inl ⟨by unfold idxL; rw [h], ?_⟩
    refine levelL_not fun hm => ?_
    rw [List.findIdx?_eq_none_iff] at h
    obtain ⟨e, he, hn⟩ := List.mem_map.1 hm
    have := h e he
    simp [hn] at this
  | some i =>
    refine .inr ⟨i, nm (l[i]'(List.findIdx?_eq_some_iff_getElem.1 h).1), by unfold idxL; rw [h], (List.findIdx?_eq_some_iff_getElem.1 h).1, ?_⟩
    obtain ⟨hlt, h1, h2⟩ := List.findIdx?_eq_some_iff_getElem.1 h
    have hf : l.find? (fun e => nm e == c) = some l[i] := by
      rw [List.find?_eq_some_iff_getElem]
      exact ⟨h1, i, hlt, rfl, fun j hj => by have := h2 j hj; simpa using this⟩
    rw [List.getElem?_eq_getElem hlt]
    have hlev : levelL l c = l[i].level := by unfold levelL; rw [hf]
    rw [hlev, ent_nm]
end Go.Proofs.YtefedalnafjcfaaGreatDoor

namespace Go.Proofs.YtefedalnafjcfaaGreatDoor
open Go.RowKit Go.Shelf
set_option linter.unusedVariables false
set_option maxRecDepth 100000 in
set_option maxHeartbeats 1000000 in
theorem indexLV_any (A : Option Addr) (n c : Nat) (l : List Entry) (g : Nat) (p : Entry → Bool) (ok : Nat → Prop) (w : World) (h : labR.rel w ok [.slice A n c] l)
    (hp : ∀ W, Mod (fun _ => False) w W → ∀ d m, ent d m ∈ l → Calls Tryz.prog 109 #[.agg #[.string ⟨d.toArray⟩, .int .i64 m], .pointer (some ⟨g, 0, none⟩)] W fun r W' => r = .returned (.bool (p (ent d m))) ∧ Mod (fun _ => False) W W') :
    Calls Tryz.prog 108 #[.slice A n c, .func (.func 109) #[] #[.pointer (some ⟨g, 0, none⟩)]] w fun r w' => r = .returned (.int .i64 (idxL p l)) ∧ Mod (fun _ => False) w w' := by
  obtain ⟨rfl, hcap, -, hbig, -, hrow⟩ := lab_row h
  obtain ⟨z, hz⟩ : ∃ z, z = idxL p l := ⟨_, rfl⟩
  rw [← hz]
  have H0 := Lib.hid (And.intro hrow (And.intro hp hz)); clear hrow hp hz h
  go_enter Tryz.func108, Tryz.ntmps108
  go_wp2_with fail
  go_loopg [8] l.length (fun f si wr => ∃ i : Nat, si = .int .i64 i ∧ i + f = l.length ∧ (∀ x ∈ l.take i, p x = false) ∧ Mod (fun _ => False) w wr)
  case atStart => exact ⟨0, rfl, by omega, by simp, .refl _ _⟩
  case round =>
    obtain ⟨i, rfl, hi, hno, hmod⟩ := hrel
    by_cases hlt : i < l.length
    · obtain ⟨d, m, hx⟩ : ∃ d m, l[i]? = some (ent d m) := by
        obtain ⟨d, m, e⟩ := ent_cases l[i]
        exact ⟨d, m, by rw [← e]; simp [hlt]⟩
      obtain ⟨ad, rfl, -, hc0, hc1, -, -⟩ := row_ent (H0.out.1.step (w1 := wr) (ok1 := ok) (fun k hk hl => ⟨hk, hmod.block k hl id⟩)) hx
      have HX := Lib.hid (And.intro hi (And.intro hno (And.intro hmod hx))); clear hi hno hmod hx
      go_wp2_with fail
      refine (H0.out.2.1 wr HX.out.2.2.1 d m (List.mem_of_getElem? HX.out.2.2.2)).mono ?_
      rintro r w1 ⟨rfl, hm⟩
      have HM := Lib.hid (tr0 HX.out.2.2.1 hm); clear hm hc0 hc1
      cases hb : p (ent d m) with
      | true =>
        have hzi : z = i := by rw [H0.out.2.2]; exact idxL_some HX.out.2.2.2 hb HX.out.2.1
        subst hzi
        clear hb
        go_wp2_with fail
        go_ret
        exact ⟨rfl, HM.out⟩
      | false =>
        have HB := Lib.hid hb; clear hb
        go_wp2_with fail
        go_roundg (gk - 1)
        case measure => have := HX.out.1; omega
        case rel =>
          refine ⟨i + 1, by go_num, by have := HX.out.1; omega, ?_, HM.out⟩
          rw [List.take_add_one, HX.out.2.2.2]
          intro y hy
          rcases List.mem_append.1 hy with hy | hy
          · exact HX.out.2.1 y hy
          · simp at hy; rw [hy]; exact HB.out
    · have hie : l.take i = l := List.take_of_length_le (by omega)
      rw [hie] at hno
      have hzi : z = -1 := by rw [H0.out.2.2]; exact idxL_none hno
      subst hzi
      have HX := Lib.hid hmod; clear hno hmod hi hie
      go_wp2_with fail
      go_ret
      exact ⟨rfl, HX.out⟩
end Go.Proofs.YtefedalnafjcfaaGreatDoor

namespace Go.Proofs.YtefedalnafjcfaaGreatDoor
open Go.RowKit Go.Shelf
set_option linter.unusedVariables false
set_option maxRecDepth 100000 in
set_option maxHeartbeats 1000000 in
theorem level_any (A : Option Addr) (n c : Nat) (l : List Entry) (s : List UInt8) (ok : Nat → Prop) (w : World) (h : labR.rel w ok [.slice A n c] l) :
    Calls Tryz.prog 78 #[.slice A n c, .string ⟨s.toArray⟩] w fun r w' => r = .returned (.int .i64 (levelL l s)) ∧ Mod (fun _ => False) w w' := by
  obtain ⟨z, hz⟩ : ∃ z, z = levelL l s := ⟨_, rfl⟩
  rw [← hz]
  obtain ⟨W1, hW1⟩ : ∃ W1, W1 = w.alloc (.cells #[.string ⟨s.toArray⟩] 9) := ⟨_, rfl⟩
  have hm1 : Mod (fun _ => False) w W1 := by rw [hW1]; exact (Mod.refl _ _).alloc _
  have hg : W1.cell? ⟨w.heap.size, 0, none⟩ = some (.string ⟨s.toArray⟩) := by rw [hW1]; exact (cell_new_l w _ _).1
  have hrow := Rd.mod (Rd.bound h) hm1 (fun _ _ => id)
  have hidx := indexLV_any A n c l w.heap.size (fun e => nm e == s) _ W1 hrow (fun W hW d m _ => by
    have := levelC_any d s m w.heap.size W ((hW.cell (cell_lt hg) id).trans hg)
    rw [← nm_ent d m] at this ⊢
    exact this)
  obtain ⟨rfl, hcap, -, hbig, -, -⟩ := lab_row h
  have H0 := Lib.hid (And.intro hrow (And.intro hm1 hz)); clear h hrow hm1 hg hz
  rcases idxL_level l s with ⟨hi, hl⟩ | ⟨i, d, hi, hil, hx⟩
  · rw [hi] at hidx
    have hz1 : z = 1 := by rw [H0.out.2.2, hl]
    subst hz1
    clear hl hi
    go_enter Tryz.func78, Tryz.ntmps78
    go_wp2_with fail
    rw [← hW1]
    refine hidx.mono ?_
    rintro r w2 ⟨rfl, hm⟩
    have HM := Lib.hid (tr0 H0.out.2.1 hm); clear hm hW1
    go_wp2_with fail
    go_ret
    exact ⟨rfl, HM.out⟩
  · rw [hi] at hidx
    rw [← H0.out.2.2] at hx
    have HX := Lib.hid hx; clear hx hi
    go_enter Tryz.func78, Tryz.ntmps78
    go_wp2_with fail
    rw [← hW1]
    refine hidx.mono ?_
    rintro r w2 ⟨rfl, hm⟩
    obtain ⟨ad, rfl, -, hc0, hc1, -, -⟩ := row_ent (lab_row (Rd.mod (Rd.bound H0.out.1) hm (fun _ _ => id))).2.2.2.2.2 HX.out
    have HM := Lib.hid (tr0 H0.out.2.1 hm); clear hm hW1
    have e1 : decide ((0 : Int) ≤ (i : Int)) = true := by simp
    go_wp2_with fail
    go_ret
    exact ⟨rfl, HM.out⟩
end Go.Proofs.YtefedalnafjcfaaGreatDoor

namespace Go.Proofs.YtefedalnafjcfaaGreatDoor
open Go.RowKit
set_option linter.unusedVariables false
def zeroEnt : List Value := [.string ⟨#[]⟩, .int .i64 0]
theorem Tryz.info_ent2 : (Tryz.prog.info? 129).map (fun i => (i.zero, i.size)) = some (some (.agg zeroEnt.toArray), 2) := by kernel_rfl
theorem Tryz.info_ent3 : (Tryz.prog.info? 129).map (fun i => (i.zero, i.size, i.bytes)) = some (some (.agg zeroEnt.toArray), 2, 24) := by kernel_rfl
end Go.Proofs.YtefedalnafjcfaaGreatDoor

namespace Go.Proofs.YtefedalnafjcfaaGreatDoor
open Go.RowKit
set_option linter.unusedVariables false
theorem own_mk {α : Type} {R : Rd α} {e : TypeId} {w : World} {base : Nat} {S : Nat → Prop} {g c : Nat} {xs : List α} {cells sp : List Value} (hb : base ≤ g) (hg : w.heap[g]? = some (.cells (cells ++ sp).toArray e (0, 0)))
    (hl : cells.length = xs.length * R.sz) (hc : (cells ++ sp).length = c * R.sz) (hle : xs.length ≤ c) (hcm : c ≤ maxLen) (hr : ∀ j x, xs[j]? = some x → R.rel w (fun k => S k ∧ k ≠ g) ((cells.drop (j * R.sz)).take R.sz) x) :
    OwnR R e w base S (.slice (some ⟨g, 0, none⟩) xs.length c) xs := by
  refine ⟨cells, ⟨hl, .inr ⟨g, c, (cells ++ sp).toArray, rfl, hb, hg, hle, hcm, by simpa using hc, ?_⟩⟩, fun j x hj => Rd.mono (hr j x hj) (fun k hk => ⟨hk.1, fun e => hk.2 ?_⟩)⟩
  · simp only [← hl]
    simp
  · simpa [Value.ownBlock] using e
end Go.Proofs.YtefedalnafjcfaaGreatDoor

namespace Go.Proofs.YtefedalnafjcfaaGreatDoor
open Go.RowKit
set_option linter.unusedVariables false
theorem filter_take {l : List Entry} {j : Nat} {x : Entry} (h : l[j]? = some x) (q : Entry → Bool) : (l.take (j + 1)).filter q = (l.take j).filter q ++ if q x then [x] else [] := by
  rw [List.take_add_one, h, List.filter_append]
  cases hx : q x <;> simp [hx]
/-- the row while elements are moved up: i are kept, j are looked at -/
structure DelAt (w0 : World) (S : Nat → Prop) (g : Nat) (l : List Entry) (q : Entry → Bool) (cur : List Value) (i j : Nat) (row : List Value) (w : World) : Prop where
  blk : w.heap[g]? = some (.cells row.toArray 129 (0, 0))
  mod : Mod (fun k => k = g) w0 w
  ex : ∃ F mid, row = F ++ mid ++ cur.drop (j * 2) ∧ F.length = i * 2 ∧ F.length + mid.length = j * 2 ∧ ∀ t x, ((l.take j).filter q)[t]? = some x → EntryR.rel w (fun k => S k ∧ k ≠ g) ((F.drop (t * 2)).take 2) x
  num : ((l.take j).filter q).length = i
theorem DelAt.at_ {w0 w : World} {S : Nat → Prop} {g : Nat} {l : List Entry} {q : Entry → Bool} {cur : List Value} {i j n c : Nat} {row : List Value} (h : DelAt w0 S g l q cur i j row w) (hcur : cur.length = c * 2) (hn : n ≤ c) (hj : j < n) {x : Entry}
    (hx : EntryR.rel w0 (fun k => S k ∧ k ≠ g) (((cur.take (n * 2)).drop (j * 2)).take 2) x) :
    EntryR.rel w (fun k => S k ∧ k ≠ g) ((cur.drop (j * 2)).take 2) x ∧ ∀ t u, ((cur.drop (j * 2)).take 2)[t]? = some u → w.cell? ⟨g, j * 2 + t, none⟩ = some u := by
  have e : ((cur.take (n * 2)).drop (j * 2)).take 2 = (cur.drop (j * 2)).take 2 := by
    rw [List.drop_take, List.take_take]
    congr 1
    omega
  rw [e] at hx
  refine ⟨Rd.mod hx h.mod (fun k hk => hk.2), fun t u hu => ?_⟩
  obtain ⟨F, mid, hrow, hF, hm, _⟩ := h.ex
  rw [cell_of_blk h.blk, hrow]
  have hlt : t < 2 := by
    have := (List.getElem?_eq_some_iff.1 hu).1
    simp at this
    omega
  rw [List.getElem?_take_of_lt hlt] at hu
  have hl : (F ++ mid).length = j * 2 := by simp; omega
  rw [List.getElem?_toArray, List.getElem?_append_right (by omega), hl, Nat.add_sub_cancel_left]
  exact hu
/-- one is passed over -/
theorem DelAt.skip {w0 w w1 : World} {S : Nat → Prop} {g : Nat} {l : List Entry} {q : Entry → Bool} {cur : List Value} {i j c : Nat} {row : List Value} (h : DelAt w0 S g l q cur i j row w) (hm : Mod (fun _ => False) w w1) (hcur : cur.length = c * 2) (hj : j < c) {x : Entry} (hx : l[j]? = some x) (hno : q x = false) : DelAt w0 S g l q cur i (j + 1) row w1 := by
  obtain ⟨F, mid, hrow, hF, hmid, hr⟩ := h.ex
  have e : (l.take (j + 1)).filter q = (l.take j).filter q := by rw [filter_take hx q, hno]; simp
  refine ⟨(hm.block g (lt_of_blk h.blk) id).trans h.blk, h.mod.trans hm (fun _ h => h.elim), ⟨F, mid ++ (cur.drop (j * 2)).take 2, ?_, hF, ?_, ?_⟩, by rw [e]; exact h.num⟩
  · rw [hrow, List.append_assoc, List.append_assoc, List.append_assoc]
    congr 2
    rw [show (j + 1) * 2 = j * 2 + 2 by omega, ← List.drop_drop, List.take_append_drop]
  · simp only [List.length_append, List.length_take, List.length_drop]
    omega
  · rw [e]
    exact fun t y hy => Rd.mod (hr t y hy) hm (fun _ _ => id)
/-- one is kept -/
theorem DelAt.keep {w0 w w1 w2 : World} {S : Nat → Prop} {g : Nat} {l : List Entry} {q : Entry → Bool} {cur : List Value} {i j c : Nat} {row : List Value} (h : DelAt w0 S g l q cur i j row w) (hm : Mod (fun _ => False) w w1) (hm2 : Mod (fun k => k = g) w1 w2) (hcur : cur.length = c * 2) (hj : j < c) (hij : i < j) {x : Entry} (hx : l[j]? = some x) (hyes : q x = true)
    (hrel : EntryR.rel w (fun k => S k ∧ k ≠ g) ((cur.drop (j * 2)).take 2) x) (hb : w2.heap[g]? = some (.cells (laid row (i * 2) ((cur.drop (j * 2)).take 2)).toArray 129 (0, 0))) :
    DelAt w0 S g l q cur (i + 1) (j + 1) (laid row (i * 2) ((cur.drop (j * 2)).take 2)) w2 := by
  obtain ⟨F, mid, hrow, hF, hmid, hr⟩ := h.ex
  have hcl : ((cur.drop (j * 2)).take 2).length = 2 := by rw [List.length_take, List.length_drop]; omega
  have e : (l.take (j + 1)).filter q = (l.take j).filter q ++ [x] := by rw [filter_take hx q, hyes]; simp
  have hmod12 : Mod (fun k => k = g) w w2 := (hm.mono (fun k h => h.elim)).trans hm2 (fun k hk => .inl hk)
  refine ⟨hb, h.mod.trans hmod12 (fun k hk => .inl hk), ⟨F ++ (cur.drop (j * 2)).take 2, mid.drop 2 ++ (cur.drop (j * 2)).take 2, ?_, ?_, ?_, ?_⟩, by rw [e, List.length_append, h.num]; rfl⟩
  · unfold laid
    rw [hcl, hrow, List.append_assoc F, List.take_append_of_le_length (by omega), List.take_of_length_le (by omega), ← List.drop_drop, List.drop_left' hF, List.drop_append_of_le_length (by omega)]
    simp only [List.append_assoc]
    congr 3
    rw [show (j + 1) * 2 = j * 2 + 2 by omega, ← List.drop_drop, List.take_append_drop]
  · rw [List.length_append, hcl]; omega
  · simp only [List.length_append, List.length_drop, hcl]; omega
  · intro t y hy
    rw [e] at hy
    by_cases ht : t < i
    · rw [List.getElem?_append_left (by rw [h.num]; exact ht)] at hy
      rw [drop_take_left hF ht]
      exact Rd.mod (hr t y hy) hmod12 (fun k hk => hk.2)
    · rw [List.getElem?_append_right (by rw [h.num]; omega), h.num] at hy
      have hti : t - i = 0 := by
        have := (List.getElem?_eq_some_iff.1 hy).1
        simp at this; omega
      rw [hti] at hy
      have : x = y := by simpa using hy
      subst this
      rw [drop_take_right hF (by omega), hti, Nat.zero_mul, List.drop_zero, List.take_of_length_le (by omega)]
      exact Rd.mod hrel hmod12 (fun k hk => hk.2)
theorem keepIdx_some {l : List Entry} {q : Entry → Bool} {i : Nat} (h : l.findIdx? (fun x => !q x) = some i) : i < l.length ∧ (l.take (i + 1)).filter q = l.take i := by
  rw [List.findIdx?_eq_some_iff_getElem] at h
  obtain ⟨h1, h2, h3⟩ := h
  refine ⟨h1, ?_⟩
  rw [filter_take (List.getElem?_eq_getElem h1) q]
  have : q l[i] = false := by simpa using h2
  rw [this]
  simp only [Bool.false_eq_true, if_false, List.append_nil]
  rw [List.filter_eq_self]
  intro x hx
  obtain ⟨j, hj⟩ := List.getElem?_of_mem hx
  have hjl := (List.getElem?_eq_some_iff.1 hj).1
  rw [List.length_take] at hjl
  rw [List.getElem?_take_of_lt (by omega)] at hj
  have := h3 j (by omega)
  rw [List.getElem?_eq_getElem (by omega)] at hj
  cases hj
  simpa using this
theorem DelAt.start {w0 w : World} {S : Nat → Prop} {g : Nat} {l : List Entry} {q : Entry → Bool} {cur : List Value} {i n c : Nat} (hb : w0.heap[g]? = some (.cells cur.toArray 129 (0, 0))) (hm : Mod (fun _ => False) w0 w) (hcur : cur.length = c * 2) (hn : n = l.length) (hnc : n ≤ c)
    (hr : ∀ j x, l[j]? = some x → EntryR.rel w0 (fun k => S k ∧ k ≠ g) (((cur.take (n * 2)).drop (j * 2)).take 2) x) (hi : l.findIdx? (fun x => !q x) = some i) : DelAt w0 S g l q cur i (i + 1) cur w := by
  obtain ⟨h1, h2⟩ := keepIdx_some hi
  refine ⟨(hm.block g (lt_of_blk hb) id).trans hb, hm.mono (fun k h => h.elim), ⟨cur.take (i * 2), (cur.drop (i * 2)).take 2, ?_, ?_, ?_, ?_⟩, by rw [h2, List.length_take]; omega⟩
  · rw [List.append_assoc, show (i + 1) * 2 = i * 2 + 2 by omega, ← List.drop_drop, List.take_append_drop, List.take_append_drop]
  · rw [List.length_take]; omega
  · simp only [List.length_take, List.length_drop]; omega
  · rw [h2]
    intro t x hx
    have ht : t < i := by have := (List.getElem?_eq_some_iff.1 hx).1; rw [List.length_take] at this; omega
    rw [List.getElem?_take_of_lt ht] at hx
    have := hr t x hx
    have e : ((cur.take (i * 2)).drop (t * 2)).take 2 = ((cur.take (n * 2)).drop (t * 2)).take 2 := by
      rw [List.drop_take, List.drop_take, List.take_take, List.take_take]
      congr 1
      omega
    rw [e]
    exact Rd.mod this hm (fun _ _ => id)
/-- the row cut at its kept end -/
theorem DelAt.cut {w0 w w1 : World} {S : Nat → Prop} {g base : Nat} {l : List Entry} {q : Entry → Bool} {cur zs : List Value} {i n c : Nat} {row : List Value} (h : DelAt w0 S g l q cur i n row w) (hbg : base ≤ g) (hcur : cur.length = c * 2) (hn : n = l.length) (hnc : n ≤ c) (hcm : c ≤ maxLen) (hin : i ≤ n)
    (hm : Mod (fun k => k = g) w w1) (hz : zs.length = (n - i) * 2) (hb : w1.heap[g]? = some (.cells (laid row (i * 2) zs).toArray 129 (0, 0))) :
    OwnR EntryR 129 w1 base S (.slice (some ⟨g, 0, none⟩) (l.filter q).length c) (l.filter q) := by
  obtain ⟨F, mid, hrow, hF, hmid, hr⟩ := h.ex
  have hnum := h.num
  rw [hn, List.take_length] at hr hnum
  have hrl : row.length = c * 2 := by rw [hrow]; simp only [List.length_append, List.length_drop]; omega
  have hl : laid row (i * 2) zs = F ++ (zs ++ row.drop (i * 2 + zs.length)) := by
    unfold laid
    rw [hrow, List.append_assoc F, List.take_append_of_le_length (by omega), List.take_of_length_le (by omega)]
    simp
  refine own_mk (R := EntryR) (e := 129) (cells := F) (sp := zs ++ row.drop (i * 2 + zs.length)) hbg (by rw [hb, hl]) (by rw [hnum]; exact hF) ?_ (by omega) hcm (fun j x hj => Rd.mod (hr j x hj) hm (fun k hk => hk.2))
  show _ = c * 2
  simp only [List.length_append, List.length_drop, hrl]
  omega
end Go.Proofs.YtefedalnafjcfaaGreatDoor

namespace Go.Proofs.YtefedalnafjcfaaGreatDoor
open Go.RowKit Go.Shelf
set_option linter.unusedVariables false
set_option maxRecDepth 100000 in
set_option maxHeartbeats 1000000 in
theorem growNilE_any (k : Nat) (hk : k ≤ 4000000) (w : World) :
    Calls Tryz.prog 138 #[.slice none 0 0, .int .i64 (k : Nat)] w fun r w' => ∃ A c, r = .returned (.slice A 0 c) ∧ w'.ownsRow w.heap.size 129 2 (.slice A 0 c) 0 [] ∧ Mod (fun _ => False) w w' := by
  go_enter Tryz.func138, Tryz.ntmps138
  by_cases h0 : k = 0
  · subst h0
    go_wp2_with fail
    go_ret
    exact ⟨none, 0, rfl, World.ownsRow_nil _ _ _ _, .refl _ _⟩
  have e1 : decide (0 < k) = true := by simp; omega
  obtain ⟨i0, hi, hzz⟩ := Option.map_eq_some_iff.1 Tryz.info_ent3
  simp only [Prod.mk.injEq] at hzz
  have hrun := fun ty => Lib.run_append_nil_zeros (P := Tryz.prog) w 34 3 ty 129 i0 (.agg zeroEnt.toArray) .i64 .i64 Tryz.underlying34 Tryz.underlying3 hi hzz.1 k (by omega) (by omega) (by omega) (by rw [hzz.2.2]; omega)
  have hge := grownCap_ge w k 0 129
  have hcm := grownCap_le_maxLen w k 0 129 (by simp only [maxLen]; omega)
  obtain ⟨cp, hcp⟩ : ∃ cp, cp = grownCap w k 0 129 := ⟨_, rfl⟩
  rw [← hcp] at hge hcm
  simp only [← hcp] at hrun
  obtain ⟨Z, hZ⟩ : ∃ Z, Z = Builtin.zeroCells ((.agg zeroEnt.toArray) : Value).cells k ++ Builtin.zeroCells ((.agg zeroEnt.toArray) : Value).cells (cp - k) := ⟨_, rfl⟩
  simp only [← hZ] at hrun
  have hZs : Z.size = cp * 2 := by
    have hz2 : ((.agg zeroEnt.toArray) : Value).cells.size = 2 := rfl
    rw [hZ, Array.size_append, size_zeroCells, size_zeroCells, hz2, ← Nat.add_mul]
    congr 1
    omega
  clear hZ
  obtain ⟨W1, hW1⟩ : ∃ W1, W1 = w.drew.alloc (.cells Z 129) := ⟨_, rfl⟩
  simp only [← hW1] at hrun
  have hown : W1.ownsRow w.heap.size 129 2 (.slice (some ⟨w.heap.size, 0, none⟩) 0 cp) 0 [] :=
    ⟨rfl, .inr ⟨w.heap.size, cp, Z, rfl, Nat.le_refl _, by rw [hW1]; exact heap_alloc_new w.drew _, by omega, hcm, hZs, by simp⟩⟩
  have hmd : Mod (fun _ => False) w W1 := by rw [hW1]; exact (Mod.refl _ w).drew.alloc _
  have HR := Lib.hid hrun
  have H1 := Lib.hid (And.intro hown hmd); clear hown hmd hrun hcm hW1 hzz hcp hi hZs
  go_wp2_with (at_builtin; refine Lib.wpList_append_run _ rfl _ _ _ _ rfl _ _ rfl rfl _ _ (HR.out _) ?_)
  go_wp2_with fail
  go_ret
  exact ⟨_, cp, rfl, H1.out.1, H1.out.2⟩
set_option maxRecDepth 100000 in
set_option maxHeartbeats 2000000 in
theorem concatE_any (A : Option Addr) (n c : Nat) (A2 : Option Addr) (n2 c2 : Nat) (a b : List Entry) (ok ok2 : Nat → Prop) (gx : Nat) (w : World) (h : labR.rel w ok [.slice A n c] a) (h2 : labR.rel w ok2 [.slice A2 n2 c2] b) (hl : a.length ≤ 1100000) (hl2 : b.length ≤ 1100000)
    (h0 : w.cell? ⟨gx, 0, none⟩ = some (.slice A n c)) (h1 : w.cell? ⟨gx, 1, none⟩ = some (.slice A2 n2 c2)) :
    Calls Tryz.prog 107 #[.slice (some ⟨gx, 0, none⟩) 2 2] w fun r w' => ∃ A' c', r = .returned (.slice A' (a.length + b.length) c') ∧ OwnR EntryR 129 w' w.heap.size (fun k => (ok k ∨ ok2 k) ∧ k < w.heap.size) (.slice A' (a.length + b.length) c') (a ++ b) ∧ Mod (fun _ => False) w w' := by
  obtain ⟨rfl, -, -, -, hnil, hrow⟩ := lab_row h
  obtain ⟨rfl, -, -, -, hnil2, hrow2⟩ := lab_row h2
  have e1 : ((0 : Int) + (a.length : Int)) = (a.length : Int) := by omega
  have HN := Lib.hid (And.intro h0 (And.intro h1 (And.intro (Rd.bound h) (Rd.bound h2)))); clear h h2 hrow hrow2 hnil hnil2
  have hgx := cell_lt h0
  go_enter Tryz.func107, Tryz.ntmps107
  go_wp2_with fail
  refine wp_loop_rounds 3 ?_
  rw [rounds_succ]
  go_wp2_with fail
  rw [rounds_succ]
  go_wp2_with fail
  rw [rounds_succ]
  go_wp2_with fail
  have hgr := growNilE_any (a.length + b.length) (by omega) w
  rw [Int.natCast_add] at hgr
  refine hgr.mono ?_
  rintro r w1 ⟨A1, c1, rfl, ho1, hm1⟩
  have k0 := (hm1.cell hgx id).trans h0
  have k1 := (hm1.cell hgx id).trans h1
  have hO1 : OwnR EntryR 129 w1 w.heap.size (fun k => (ok k ∨ ok2 k) ∧ k < w.heap.size) (.slice A1 0 c1) [] := ⟨[], ho1, fun j x hj => by simp at hj⟩
  have H1 := Lib.hid (And.intro hO1 (And.intro hm1 (And.intro (Rd.mod HN.out.2.2.1 hm1 (fun _ _ => id)) (Rd.mod HN.out.2.2.2 hm1 (fun _ _ => id))))); clear ho1 hO1 hm1 h0 h1 hgr
  go_wp2_with fail
  refine wp_loop_rounds 3 ?_
  rw [rounds_succ]
  have hsz := H1.out.2.1.size
  go_wp2_with (at_builtin; refine append_all (R := EntryR) w.heap.size rfl _ _ 34 129 (.agg zeroEnt.toArray) 24 rfl Tryz.underlying34 Tryz.info_ent3 rfl (.slice A1 0 c1) [] a (fun k => (ok k ∨ ok2 k) ∧ k < w.heap.size) A c rfl rfl H1.out.1 ?hy ?hA hsz ?hl (by decide) ?_)
  case hy =>
    obtain ⟨-, -, -, -, -, hrow⟩ := lab_row H1.out.2.2.1
    exact Rd.RowOf.weak <| hrow.step fun k hk hlt => ⟨⟨⟨.inl hk.1, hk.2⟩, fun e => by
      obtain ⟨cells, hown, _⟩ := H1.out.1
      have := (own_lt hown k e.symm).1
      have := hk.2
      omega⟩, rfl⟩
  case hA => exact (lab_row H1.out.2.2.1).2.2.2.2.1
  case hl => simp only [List.length_nil]; omega
  intro A3 c3 w3 hO3 hm3 hn3
  have hm13 : Mod (fun _ => False) w w3 := H1.out.2.1.trans hm3 (fun k hk => .inr (by
    obtain ⟨cells, hown, _⟩ := H1.out.1
    exact (own_lt hown k hk).1))
  have q1 : w3.cell? ⟨gx, 1, none⟩ = some (.slice A2 b.length c2) := (hm13.cell hgx id).trans HN.out.2.1
  have H3 := Lib.hid (And.intro hO3 (And.intro hm13 (Rd.mod HN.out.2.2.2 hm13 (fun _ _ => id)))); clear hO3 hm3 hn3 hm13 k0 k1
  go_wp2_with fail
  rw [rounds_succ]
  have hsz3 := H3.out.2.1.size
  go_wp2_with (at_builtin; refine append_all (R := EntryR) w.heap.size rfl _ _ 34 129 (.agg zeroEnt.toArray) 24 rfl Tryz.underlying34 Tryz.info_ent3 rfl (.slice A3 a.length c3) a b (fun k => (ok k ∨ ok2 k) ∧ k < w.heap.size) A2 c2 rfl rfl H3.out.1 ?hy ?hA hsz3 ?hl (by decide) ?_)
  case hy =>
    obtain ⟨-, -, -, -, -, hrow⟩ := lab_row H3.out.2.2
    exact Rd.RowOf.weak <| hrow.step fun k hk hlt => ⟨⟨⟨.inr hk.1, hk.2⟩, fun e => by
      obtain ⟨cells, hown, _⟩ := H3.out.1
      have := (own_lt hown k e.symm).1
      have := hk.2
      omega⟩, rfl⟩
  case hA => exact (lab_row H3.out.2.2).2.2.2.2.1
  case hl => omega
  intro A4 c4 w4 hO4 hm4 hn4
  have hm14 : Mod (fun _ => False) w w4 := H3.out.2.1.trans hm4 (fun k hk => .inr (by
    obtain ⟨cells, hown, _⟩ := H3.out.1
    exact (own_lt hown k hk).1))
  have H4 := Lib.hid (And.intro hO4 hm14); clear hO4 hm4 hn4 hm14 q1
  go_wp2_with fail
  rw [rounds_succ]
  go_wp2_with fail
  go_ret
  exact ⟨A4, c4, rfl, H4.out.1, H4.out.2⟩
end Go.Proofs.YtefedalnafjcfaaGreatDoor

namespace Go.Proofs.YtefedalnafjcfaaGreatDoor
open Go.RowKit Go.Shelf
set_option linter.unusedVariables false
theorem own_strs {w : World} {base : Nat} {e : TypeId} {v : Value} {xs : List (List UInt8)} (h : w.ownsRow base e 1 v xs.length (scells xs)) (hr : ∀ x ∈ xs, x.length ≤ 140737488355328) (S : Nat → Prop) : OwnR Rd.string e w base S v (xs.map mkStr) := by
  refine ⟨scells xs, by rw [List.length_map]; exact h, fun j x hj => ?_⟩
  rw [List.getElem?_map, Option.map_eq_some_iff] at hj
  obtain ⟨y, hy, rfl⟩ := hj
  refine ⟨?_, by rw [mkStr_size]; exact hr y (List.mem_of_getElem? hy)⟩
  show ((scells xs).drop (j * 1)).take 1 = _
  rw [Nat.mul_one]
  have : (scells xs)[j]? = some (.string (mkStr y)) := by simp [scells, hy, encS, mkStr]
  have hlt := (List.getElem?_eq_some_iff.1 this).1
  rw [List.drop_eq_getElem_cons hlt]
  simp [(List.getElem?_eq_some_iff.1 this).2]
theorem reads_strs {w : World} {base : Nat} {e : TypeId} {v : Value} {xs : List (List UInt8)} (h : w.ownsRow base e 1 v xs.length (scells xs)) (hr : ∀ x ∈ xs, x.length ≤ 140737488355328) (hl : xs.length * 16 ≤ 140737488355328) : strsR.rel w (fun k => v.ownBlock = some k) [v] (xs.map mkStr) :=
  Rd.mono ((own_strs h hr (fun _ => False)).reads (bytes := 16) (by rw [List.length_map]; exact hl)) (fun _ hk => hk.elim False.elim id)
theorem map_back (xs : List (List UInt8)) : (xs.map mkStr).map (fun s => s.data.toList) = xs := by
  rw [List.map_map]
  exact (List.map_congr_left (fun x _ => mkStr_list x)).trans (List.map_id xs)
theorem sortS_len (l : List (List UInt8)) : (sortS l).length ≤ l.length := by rw [← sortR_eq]; exact sortR_len l
theorem own_row {w : World} {base : Nat} {v : Value} {zs : List (List UInt8)} {T : TypeId} (h : w.ownsRow base T 1 v zs.length (scells zs)) {j : Nat} {x : List UInt8} (hj : zs[j]? = some x) : ∃ g c, v = .slice (some ⟨g, 0, none⟩) zs.length c ∧ w.cell? ⟨g, j, none⟩ = some (.string ⟨x.toArray⟩) :=
  own_at1 h (by simp [scells, hj, encS])
end Go.Proofs.YtefedalnafjcfaaGreatDoor

