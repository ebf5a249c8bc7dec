/- Part of this claim's proof (texts Tab6, Tab7, Tab8, joined by program). -/
import Derived.Test.YtefedalnafjcfaaGreatDoorA15
import Derived.Test.YtefedalnafjcfaaGreatDoorA07
namespace Go.Proofs.YtefedalnafjcfaaGreatDoor
open Go.RowKit Go.Shelf
set_option linter.unusedVariables false
structure KidAt (m : Int) (l : List Kid) (i : Nat) (k : Kid) : Prop where
  n : 0 ≤ k.n ∧ k.n ≤ m
  kind : 1 ≤ k.kind ∧ k.kind ≤ 5
  quota : 0 ≤ k.quota ∧ k.quota ≤ 1048576
  prev : ∀ p, 0 < i → l[i - 1]? = some p → p.n < k.n
theorem asc_of_prev {l : List Kid} (h : ∀ i k p, 0 < i → l[i]? = some k → l[i - 1]? = some p → p.n < k.n) : (l.map (·.n)).Pairwise (· < ·) := by
  rw [List.pairwise_iff_getElem]
  intro i j hi hj hij
  simp only [List.length_map] at hi hj
  simp only [List.getElem_map]
  induction j with
  | zero => omega
  | succ j ih =>
    have hs := h (j + 1) l[j + 1] l[j] (by omega) (List.getElem?_eq_getElem hj) (by simp)
    by_cases e : i = j
    · subst e; exact hs
    · have := ih (by omega) (by omega); omega
theorem kidsOk_iff {o : Ob} : KidsOk o ↔ (∀ i k, o.kids[i]? = some k → KidAt (o.next - 1) o.kids i k) ∧ o.kids.length ≤ 16 ∧ 0 ≤ o.next ∧ o.next ≤ 1048577 := by
  constructor
  · intro h
    refine ⟨fun i k hk => ?_, h.len, h.next⟩
    have he := h.each k (List.mem_of_getElem? hk)
    refine ⟨by omega, by omega, by omega, fun p hi hp => ?_⟩
    have := List.pairwise_iff_getElem.1 h.asc (i - 1) i (by have := (List.getElem?_eq_some_iff.1 hp).1; simpa using this) (by have := (List.getElem?_eq_some_iff.1 hk).1; simpa using this) (by omega)
    simp only [List.getElem_map] at this
    rw [(List.getElem?_eq_some_iff.1 hp).2, (List.getElem?_eq_some_iff.1 hk).2] at this
    exact this
  · rintro ⟨h1, h2, h3⟩
    refine ⟨h2, fun k hk => ?_, asc_of_prev fun i k p hi hk hp => (h1 i k hk).prev p hi hp, h3⟩
    obtain ⟨i, hi⟩ := List.getElem?_of_mem hk
    have := h1 i k hi
    have a := this.n; have b := this.kind; have c := this.quota
    omega
theorem between_yes {n a b : Int} (h : a ≤ n ∧ n ≤ b) (w : World) : Calls Tryz.prog 38 #[.int .i64 n, .int .i64 a, .int .i64 b] w fun e w' => e = .returned (.bool true) ∧ Mod (fun _ => False) w w' :=
  (between_any n a b w).mono fun e w' ⟨h1, h2⟩ => ⟨by rw [h1, decide_eq_true h], h2 ▸ Mod.refl _ _⟩
theorem between_no {n a b : Int} (h : ¬ (a ≤ n ∧ n ≤ b)) (w : World) : Calls Tryz.prog 38 #[.int .i64 n, .int .i64 a, .int .i64 b] w fun e w' => e = .returned (.bool false) ∧ Mod (fun _ => False) w w' :=
  (between_any n a b w).mono fun e w' ⟨h1, h2⟩ => ⟨by rw [h1, decide_eq_false h], h2 ▸ Mod.refl _ _⟩
theorem kind_yes {n : Int} (h : 1 ≤ n ∧ n ≤ 5) (w : World) : Calls Tryz.prog 71 #[.int .i64 n] w fun e w' => e = .returned (.bool true) ∧ Mod (fun _ => False) w w' :=
  (kind_any n w).mono fun e w' ⟨h1, h2⟩ => ⟨by rw [h1, decide_eq_true h], h2 ▸ Mod.refl _ _⟩
theorem kind_no {n : Int} (h : ¬ (1 ≤ n ∧ n ≤ 5)) (w : World) : Calls Tryz.prog 71 #[.int .i64 n] w fun e w' => e = .returned (.bool false) ∧ Mod (fun _ => False) w w' :=
  (kind_any n w).mono fun e w' ⟨h1, h2⟩ => ⟨by rw [h1, decide_eq_false h], h2 ▸ Mod.refl _ _⟩
noncomputable def kidsOkB (o : Ob) : Bool := @decide (KidsOk o) (Classical.propDecidable _)
theorem kidsOkB_yes {o : Ob} (h : KidsOk o) : kidsOkB o = true := by unfold kidsOkB; exact @decide_eq_true _ (Classical.propDecidable _) h
theorem kidsOkB_no {o : Ob} (h : ¬ KidsOk o) : kidsOkB o = false := by unfold kidsOkB; exact @decide_eq_false _ (Classical.propDecidable _) h
theorem kidsOkB_iff {o : Ob} : kidsOkB o = true ↔ KidsOk o := by unfold kidsOkB; exact @decide_eq_true_iff _ (Classical.propDecidable _)
theorem kidC_one (a b c : Int) : ∀ u ∈ [Value.int .i64 a, .int .i64 b, .int .i64 c], u.oneCell' = true := by intro u hu; simp at hu; rcases hu with rfl | rfl | rfl <;> rfl
set_option maxRecDepth 100000 in
set_option maxHeartbeats 2000000 in
theorem rightKids_any (cs : List Value) (o : Ob) (ok : Nat → Prop) (w : World) (h : ObR.rel w ok cs o) :
    Calls Tryz.prog 73 #[.agg cs.toArray] w fun e w' => e = .returned (.bool (kidsOkB o)) ∧ Mod (fun _ => False) w w' := by
  obtain ⟨A1, c1, A2, c2, A4, c4, A5, c5, A7, c7, A9, c9, rfl, h0, h1, h2, h3, h4, h5, h6, h7, h8, h9⟩ := ObR_cells (Rd.bound h)
  clear h
  obtain ⟨z, hz⟩ : ∃ z, z = kidsOkB o := ⟨_, rfl⟩
  rw [← hz]
  have hrow := (slice_row h2).2.2.2.2.2
  have hlen : o.kids.length * 24 ≤ 140737488355328 := (slice_row h2).2.2.2.1
  have hmn : 0 ≤ o.next → IntKind.i64.wrap (o.next - 1) = o.next - 1 := fun hn => by
    have : Rd.inR .i64 o.next := h3
    unfold Rd.inR at this
    simp [Lit.wf, IntKind.min, IntKind.max, IntKind.signed, IntKind.bits] at this
    rw [IntKind.wrap_i64]; omega
  have HH := Lib.hid (And.intro hrow (And.intro hz hmn))
  clear h1 h2 h3 h4 h5 h7 h9 hrow hz hmn h0 h6 h8
  go_enter Tryz.func73, Tryz.ntmps73
  go_wp2_with fail
  obtain ⟨g, hg⟩ : ∃ g, g = w.heap.size := ⟨_, rfl⟩
  obtain ⟨W0, hW0⟩ : ∃ W0, W0 = w.alloc (.cells #[.int .i64 o.kind, .slice A1 o.label.length c1, .slice A2 o.kids.length c2, .int .i64 o.next, .slice A4 o.bytes.length c4, .slice A5 o.own.length c5, .int .i64 o.cats, .slice A7 o.entry.length c7, .int .i64 o.ring, .slice A9 o.maps.length c9] 39) := ⟨_, rfl⟩
  have b0 : W0.heap[g]? = some (.cells #[.int .i64 o.kind, .slice A1 o.label.length c1, .slice A2 o.kids.length c2, .int .i64 o.next, .slice A4 o.bytes.length c4, .slice A5 o.own.length c5, .int .i64 o.cats, .slice A7 o.entry.length c7, .int .i64 o.ring, .slice A9 o.maps.length c9] 39 (0, 0)) := by rw [hW0, hg]; exact heap_alloc_new w _
  have m0 : Mod (fun _ => False) w W0 := by rw [hW0]; exact (Mod.refl _ _).alloc _
  rw [← hW0, ← hg]
  have H0 := Lib.hid (And.intro b0 m0)
  clear b0 m0 hW0 hg
  go_loopg [8] o.kids.length (fun f s8 wx => ∃ i : Nat, s8 = .int .i64 i ∧ i + f = o.kids.length ∧ Hid ((∀ j k, j < i → o.kids[j]? = some k → KidAt (IntKind.i64.wrap (o.next - 1)) o.kids j k) ∧ Mod (fun _ => False) W0 wx))
  case atStart => exact ⟨0, rfl, by omega, Lib.hid ⟨fun j k hj => by omega, Mod.refl _ _⟩⟩
  case round =>
    obtain ⟨i, rfl, hi, HP⟩ := hrel
    have hb := (HP.out.2.block g (lt_of_blk H0.out.1) id).trans H0.out.1
    have x2 : wr.cell? ⟨g, 2, none⟩ = some (.slice A2 o.kids.length c2) := by rw [cell_of_blk hb]; rfl
    have x3 : wr.cell? ⟨g, 3, none⟩ = some (.int .i64 o.next) := by rw [cell_of_blk hb]; rfl
    have HB := Lib.hid hb; clear hb
    by_cases hil : i < o.kids.length
    · obtain ⟨x, hx⟩ : ∃ x, o.kids[i]? = some x := ⟨_, List.getElem?_eq_getElem hil⟩
      obtain ⟨ad, cs, rfl, hokb, hr, hc⟩ := Rd.RowOf.at_ HH.out.1 hx
      obtain rfl := KidR_cells hr
      have hmw : Mod (fun _ => False) w wr := H0.out.2.trans HP.out.2 (fun _ h => h.elim)
      have hcell : ∀ j u, [Value.int .i64 x.n, .int .i64 x.kind, .int .i64 x.quota][j]? = some u → wr.cell? ((ad.add (i * 3)).add j) = some u := fun j u hj => by
        rw [add_add]
        exact cell_step (hc j u hj) (fun _ => by rw [add_block]; exact hmw.block _ hokb.2 id)
      have HC := Lib.hid (And.intro hcell hx); clear hcell hc hr hokb hx hmw
      go_wp2_with (refine wpList_copy_var_i (n := 3) rfl rfl rfl rfl 43 _ _ _ _ rfl rfl rfl rfl Tryz.underlying43 [.int .i64 0, .int .i64 0, .int .i64 0] Tryz.info_kd2 rfl (ad.add (i * 3)) rfl [.int .i64 x.n, .int .i64 x.kind, .int .i64 x.quota] rfl (kidC_one _ _ _) HC.out.1 (.int .i64 i) (fun _ _ => rfl) (fun _ _ => rfl) (fun _ _ => rfl) ?_)
      intro g2 w2 hg2 hgb2 hm2
      have k0 : w2.cell? ⟨g2, 0, none⟩ = some (.int .i64 x.n) := by rw [cell_of_blk hgb2]; rfl
      have k1 : w2.cell? ⟨g2, 1, none⟩ = some (.int .i64 x.kind) := by rw [cell_of_blk hgb2]; rfl
      have k2 : w2.cell? ⟨g2, 2, none⟩ = some (.int .i64 x.quota) := by rw [cell_of_blk hgb2]; rfl
      have hb2 := ((hm2 (fun _ => False)).block g (lt_of_blk HB.out) id).trans HB.out
      have y2 : w2.cell? ⟨g, 2, none⟩ = some (.slice (some ad) o.kids.length c2) := by rw [cell_of_blk hb2]; rfl
      have y3 : w2.cell? ⟨g, 3, none⟩ = some (.int .i64 o.next) := by rw [cell_of_blk hb2]; rfl
      have HM := Lib.hid (hm2 fun _ => False); clear hm2 hgb2 hg2 hb2 x2 x3
      have hq : ∀ (W : ModW w2) (a : Addr) (v : Value), w2.cell? a = some v → W.1.cell? a = some v := fun W a v h => ModW.cell h W
      have z0 := fun W => hq W _ _ k0
      have z1 := fun W => hq W _ _ k1
      have z2 := fun W => hq W _ _ k2
      have v2 := fun W => hq W _ _ y2
      have v3 := fun W => hq W _ _ y3
      clear hq
      by_cases e1 : 0 ≤ x.n ∧ x.n ≤ IntKind.i64.wrap (o.next - 1)
      case neg =>
        have HE := Lib.hid (And.intro (fun W => between_no e1 W) e1); clear e1
        have hzf : z = false := by
          rw [HH.out.2.1]
          exact kidsOkB_no fun h => by
            have q := (kidsOk_iff.1 h).1 _ x HC.out.2
            exact HE.out.2 (by rw [HH.out.2.2 h.next.1]; exact q.n)
        subst hzf
        go_wp2_with fail
        refine wp_region_mod (by kernel_rfl) (by kernel_rfl) ?_
        refine wpQuiet_hide (fun R hR => ?_)
        iterate 35 (first
          | ((first | refine wpQuiet_none hR rfl (fun K hK => ?_) | refine wpQuiet_take hR (by rfl) (fun K hK => ?_)); clear hR R; go_simp; first | (refine hK _ (fun R hR => ?_); clear hK K) | (apply Exists.intro; refine ⟨fun _ => ?_, hK _ (fun R hR => ?_)⟩; (first | (go_at_call 38; first | (exact quiet_mod (HE.out.1 _)))); clear hK K))
          | (refine wpQuiet_skip hR (by rfl) (fun K hK => ?_); clear hR R; go_simp; refine hK _ (fun R hR => ?_); clear hK K))
        refine wpQuiet_end hR ?_
        clear hR R
        rintro _ ⟨W, rfl⟩
        have HW := Lib.hid ((H0.out.2.trans HP.out.2 (fun _ h => h.elim)).trans (HM.out.trans W.2 (fun _ h => h.elim)) (fun _ h => h.elim))
        go_wp2_with fail
        go_ret
        exact ⟨rfl, HW.out⟩
      case pos =>
        have HE := Lib.hid (And.intro (fun W => between_yes e1 W) e1); clear e1
        by_cases e2 : 1 ≤ x.kind ∧ x.kind ≤ 5
        case neg =>
          have HE2 := Lib.hid (And.intro (fun W => kind_no e2 W) e2); clear e2
          have hzf : z = false := by
            rw [HH.out.2.1]
            exact kidsOkB_no fun h => by
              have q := (kidsOk_iff.1 h).1 _ x HC.out.2
              exact HE2.out.2 q.kind
          subst hzf
          go_wp2_with fail
          refine wp_region_mod (by kernel_rfl) (by kernel_rfl) ?_
          refine wpQuiet_hide (fun R hR => ?_)
          iterate 35 (first
            | ((first | refine wpQuiet_none hR rfl (fun K hK => ?_) | refine wpQuiet_take hR (by rfl) (fun K hK => ?_)); clear hR R; go_simp; first | (refine hK _ (fun R hR => ?_); clear hK K) | (apply Exists.intro; refine ⟨fun _ => ?_, hK _ (fun R hR => ?_)⟩; (first | (go_at_call 38; first | (exact quiet_mod (HE.out.1 _))) | (go_at_call 71; exact quiet_mod (HE2.out.1 _))); clear hK K))
            | (refine wpQuiet_skip hR (by rfl) (fun K hK => ?_); clear hR R; go_simp; refine hK _ (fun R hR => ?_); clear hK K))
          refine wpQuiet_end hR ?_
          clear hR R
          rintro _ ⟨W, rfl⟩
          have HW := Lib.hid ((H0.out.2.trans HP.out.2 (fun _ h => h.elim)).trans (HM.out.trans W.2 (fun _ h => h.elim)) (fun _ h => h.elim))
          go_wp2_with fail
          go_ret
          exact ⟨rfl, HW.out⟩
        case pos =>
          have HE2 := Lib.hid (And.intro (fun W => kind_yes e2 W) e2); clear e2
          by_cases e3 : 0 ≤ x.quota ∧ x.quota ≤ 1048576
          case neg =>
            have HE3 := Lib.hid (And.intro (fun W => between_no e3 W) e3); clear e3
            have hzf : z = false := by
              rw [HH.out.2.1]
              exact kidsOkB_no fun h => by
                have q := (kidsOk_iff.1 h).1 _ x HC.out.2
                exact HE3.out.2 q.quota
            subst hzf
            go_wp2_with fail
            refine wp_region_mod (by kernel_rfl) (by kernel_rfl) ?_
            refine wpQuiet_hide (fun R hR => ?_)
            iterate 35 (first
              | ((first | refine wpQuiet_none hR rfl (fun K hK => ?_) | refine wpQuiet_take hR (by rfl) (fun K hK => ?_)); clear hR R; go_simp; first | (refine hK _ (fun R hR => ?_); clear hK K) | (apply Exists.intro; refine ⟨fun _ => ?_, hK _ (fun R hR => ?_)⟩; (first | (go_at_call 38; first | (with_reducible exact quiet_mod (HE3.out.1 _)) | (exact quiet_mod (HE.out.1 _))) | (go_at_call 71; exact quiet_mod (HE2.out.1 _))); clear hK K))
              | (refine wpQuiet_skip hR (by rfl) (fun K hK => ?_); clear hR R; go_simp; refine hK _ (fun R hR => ?_); clear hK K))
            refine wpQuiet_end hR ?_
            clear hR R
            rintro _ ⟨W, rfl⟩
            have HW := Lib.hid ((H0.out.2.trans HP.out.2 (fun _ h => h.elim)).trans (HM.out.trans W.2 (fun _ h => h.elim)) (fun _ h => h.elim))
            go_wp2_with fail
            go_ret
            exact ⟨rfl, HW.out⟩
          case pos =>
            have HE3 := Lib.hid (And.intro (fun W => between_yes e3 W) e3); clear e3
            by_cases hi0 : i = 0
            case pos =>
              subst hi0
              go_wp2_with fail
              refine wp_region_mod (by kernel_rfl) (by kernel_rfl) ?_
              refine wpQuiet_hide (fun R hR => ?_)
              iterate 35 (first
                | ((first | refine wpQuiet_none hR rfl (fun K hK => ?_) | refine wpQuiet_take hR (by rfl) (fun K hK => ?_)); clear hR R; go_simp; first | (refine hK _ (fun R hR => ?_); clear hK K) | (apply Exists.intro; refine ⟨fun _ => ?_, hK _ (fun R hR => ?_)⟩; (first | (go_at_call 38; first | (with_reducible exact quiet_mod (HE3.out.1 _)) | (exact quiet_mod (HE.out.1 _))) | (go_at_call 71; exact quiet_mod (HE2.out.1 _))); clear hK K))
                | (refine wpQuiet_skip hR (by rfl) (fun K hK => ?_); clear hR R; go_simp; refine hK _ (fun R hR => ?_); clear hK K))
              refine wpQuiet_end hR ?_
              clear hR R
              rintro _ ⟨W, rfl⟩
              have HW := Lib.hid (HP.out.2.trans (HM.out.trans W.2 (fun _ h => h.elim)) (fun _ h => h.elim))
              go_wp2_with fail
              go_roundg (gk - 1)
              case measure => omega
              case rel => exact ⟨1, by go_num, by omega, Lib.hid ⟨fun j k hj hk => by
                obtain rfl : j = 0 := by omega
                rw [HC.out.2] at hk; cases hk
                exact ⟨HE.out.2, HE2.out.2, HE3.out.2, fun p hp => absurd hp (Nat.lt_irrefl _)⟩, HW.out⟩⟩
            case neg =>
              obtain ⟨j, rfl⟩ : ∃ j, i = j + 1 := ⟨i - 1, by omega⟩
              obtain ⟨y, hy⟩ : ∃ y, o.kids[j]? = some y := ⟨_, List.getElem?_eq_getElem (by omega)⟩
              obtain ⟨ad', cs', had, hokb', hr', hc'⟩ := Rd.RowOf.at_ HH.out.1 hy
              obtain rfl := KidR_cells hr'
              cases had
              have hmw2 : Mod (fun _ => False) w w2 := (H0.out.2.trans HP.out.2 (fun _ h => h.elim)).trans HM.out (fun _ h => h.elim)
              have p0 : ∀ W : ModW w2, W.1.cell? (ad.add (j * 3)) = some (.int .i64 y.n) := fun W => cell_step (hc' 0 _ rfl) (fun _ => by rw [add_block]; exact (hmw2.trans W.2 (fun _ h => h.elim)).block _ hokb'.2 id)
              have HY := Lib.hid hy; clear hy hr' hc' hokb' hmw2
              have hj1 : j < o.kids.length := by omega
              have hwj : IntKind.i64.wrap (j : Int) = j := by rw [IntKind.wrap_i64]; omega
              by_cases e4 : y.n < x.n
              case neg =>
                have d4 : decide (x.n ≤ y.n) = true := decide_eq_true (by omega)
                have HE4 := Lib.hid e4; clear e4
                have hzf : z = false := by
                  rw [HH.out.2.1]
                  exact kidsOkB_no fun h => by
                    have q := (kidsOk_iff.1 h).1 _ x HC.out.2
                    exact HE4.out (q.prev y (Nat.succ_pos _) HY.out)
                subst hzf
                go_wp2_with fail
                refine wp_region_mod (by kernel_rfl) (by kernel_rfl) ?_
                refine wpQuiet_hide (fun R hR => ?_)
                iterate 35 (first
                  | ((first | refine wpQuiet_none hR rfl (fun K hK => ?_) | refine wpQuiet_take hR (by rfl) (fun K hK => ?_)); clear hR R; go_simp; first | (refine hK _ (fun R hR => ?_); clear hK K) | (apply Exists.intro; refine ⟨fun _ => ?_, hK _ (fun R hR => ?_)⟩; (first | (go_at_call 38; first | (with_reducible exact quiet_mod (HE3.out.1 _)) | (exact quiet_mod (HE.out.1 _))) | (go_at_call 71; exact quiet_mod (HE2.out.1 _))); clear hK K))
                  | (refine wpQuiet_skip hR (by rfl) (fun K hK => ?_); clear hR R; go_simp; refine hK _ (fun R hR => ?_); clear hK K))
                refine wpQuiet_end hR ?_
                clear hR R
                rintro _ ⟨W, rfl⟩
                have HW := Lib.hid ((H0.out.2.trans HP.out.2 (fun _ h => h.elim)).trans (HM.out.trans W.2 (fun _ h => h.elim)) (fun _ h => h.elim))
                go_wp2_with fail
                go_ret
                exact ⟨rfl, HW.out⟩
              case pos =>
                have d4 : decide (x.n ≤ y.n) = false := decide_eq_false (by omega)
                have HE4 := Lib.hid e4; clear e4
                go_wp2_with fail
                refine wp_region_mod (by kernel_rfl) (by kernel_rfl) ?_
                refine wpQuiet_hide (fun R hR => ?_)
                iterate 35 (first
                  | ((first | refine wpQuiet_none hR rfl (fun K hK => ?_) | refine wpQuiet_take hR (by rfl) (fun K hK => ?_)); clear hR R; go_simp; first | (refine hK _ (fun R hR => ?_); clear hK K) | (apply Exists.intro; refine ⟨fun _ => ?_, hK _ (fun R hR => ?_)⟩; (first | (go_at_call 38; first | (with_reducible exact quiet_mod (HE3.out.1 _)) | (exact quiet_mod (HE.out.1 _))) | (go_at_call 71; exact quiet_mod (HE2.out.1 _))); clear hK K))
                  | (refine wpQuiet_skip hR (by rfl) (fun K hK => ?_); clear hR R; go_simp; refine hK _ (fun R hR => ?_); clear hK K))
                refine wpQuiet_end hR ?_
                clear hR R
                rintro _ ⟨W, rfl⟩
                have HW := Lib.hid (HP.out.2.trans (HM.out.trans W.2 (fun _ h => h.elim)) (fun _ h => h.elim))
                go_wp2_with fail
                go_roundg (gk - 1)
                case measure => omega
                case rel => exact ⟨j + 1 + 1, by go_num, by omega, Lib.hid ⟨fun t k ht hk => by
                  by_cases he : t = j + 1
                  · subst he
                    rw [HC.out.2] at hk; cases hk
                    exact ⟨HE.out.2, HE2.out.2, HE3.out.2, fun p _ hp => by
                      rw [show j + 1 - 1 = j from rfl, HY.out] at hp; cases hp; exact HE4.out⟩
                  · exact HP.out.1 t k (by omega) hk, HW.out⟩⟩
    · obtain rfl : i = o.kids.length := by omega
      clear hil
      by_cases e1 : o.kids.length ≤ 16
      · by_cases e2 : 0 ≤ o.next ∧ o.next ≤ 1048577
        · have hzt : z = true := by
            rw [HH.out.2.1]
            refine kidsOkB_yes (kidsOk_iff.2 ⟨fun i k hk => ?_, e1, e2⟩)
            have q := HP.out.1 i k (List.getElem?_eq_some_iff.1 hk).1 hk
            rw [HH.out.2.2 e2.1] at q
            exact q
          subst hzt
          have HE := Lib.hid (between_yes e2); clear e2
          go_wp2_with fail
          refine (HE.out wr).mono ?_
          rintro e w3 ⟨rfl, hm3⟩
          have HF := Lib.hid ((H0.out.2.trans HP.out.2 (fun _ h => h.elim)).trans hm3 (fun _ h => h.elim)); clear hm3
          go_wp2_with fail
          go_ret
          exact ⟨rfl, HF.out⟩
        · have hzf : z = false := by
            rw [HH.out.2.1]
            exact kidsOkB_no fun h => e2 h.next
          subst hzf
          have HE := Lib.hid (between_no e2); clear e2
          go_wp2_with fail
          refine (HE.out wr).mono ?_
          rintro e w3 ⟨rfl, hm3⟩
          have HF := Lib.hid ((H0.out.2.trans HP.out.2 (fun _ h => h.elim)).trans hm3 (fun _ h => h.elim)); clear hm3
          go_wp2_with fail
          go_ret
          exact ⟨rfl, HF.out⟩
      · have hzf : z = false := by
          rw [HH.out.2.1]
          exact kidsOkB_no fun h => e1 h.len
        subst hzf
        have d1 : decide (o.kids.length ≤ 16) = false := decide_eq_false e1
        have d2 : decide ((o.kids.length : Int) ≤ 16) = false := by simp; omega
        clear e1
        go_wp2_with fail
        go_ret
        exact ⟨rfl, H0.out.2.trans HP.out.2 (fun _ h => h.elim)⟩
end Go.Proofs.YtefedalnafjcfaaGreatDoor

namespace Go.Proofs.YtefedalnafjcfaaGreatDoor
open Go.RowKit Go.Shelf
set_option linter.unusedVariables false
structure SgAt (l : List Sg) (i : Nat) (m : Sg) : Prop where
  at_ : 0 ≤ m.at_ ∧ m.at_ ≤ 1048576
  seg : rightP m.seg = true
  prev : ∀ p, 0 < i → l[i - 1]? = some p → p.at_ < m.at_
theorem ascS_of_prev {l : List Sg} (h : ∀ i k p, 0 < i → l[i]? = some k → l[i - 1]? = some p → p.at_ < k.at_) : (l.map (·.at_)).Pairwise (· < ·) := by
  rw [List.pairwise_iff_getElem]
  intro i j hi hj hij
  simp only [List.length_map] at hi hj
  simp only [List.getElem_map]
  induction j with
  | zero => omega
  | succ j ih =>
    have hs := h (j + 1) l[j + 1] l[j] (by omega) (List.getElem?_eq_getElem hj) (by simp)
    by_cases e : i = j
    · subst e; exact hs
    · have := ih (by omega) (by omega); omega
theorem mapsOk_iff {l : List Sg} : MapsOk l ↔ (∀ i k, l[i]? = some k → SgAt l i k) ∧ l.length ≤ 4 := by
  constructor
  · intro h
    refine ⟨fun i k hk => ?_, h.len⟩
    have he := h.each k (List.mem_of_getElem? hk)
    refine ⟨⟨he.1, he.2.1⟩, he.2.2, fun p hi hp => ?_⟩
    have := List.pairwise_iff_getElem.1 h.asc (i - 1) i (by have := (List.getElem?_eq_some_iff.1 hp).1; simpa using this) (by have := (List.getElem?_eq_some_iff.1 hk).1; simpa using this) (by omega)
    simp only [List.getElem_map] at this
    rw [(List.getElem?_eq_some_iff.1 hp).2, (List.getElem?_eq_some_iff.1 hk).2] at this
    exact this
  · rintro ⟨h1, h2⟩
    refine ⟨h2, fun k hk => ?_, ascS_of_prev fun i k p hi hk hp => (h1 i k hk).prev p hi hp⟩
    obtain ⟨i, hi⟩ := List.getElem?_of_mem hk
    have := h1 i k hi
    exact ⟨this.at_.1, this.at_.2, this.seg⟩
noncomputable def mapsOkB (l : List Sg) : Bool := @decide (MapsOk l) (Classical.propDecidable _)
theorem mapsOkB_yes {l : List Sg} (h : MapsOk l) : mapsOkB l = true := by unfold mapsOkB; exact @decide_eq_true _ (Classical.propDecidable _) h
theorem mapsOkB_no {l : List Sg} (h : ¬ MapsOk l) : mapsOkB l = false := by unfold mapsOkB; exact @decide_eq_false _ (Classical.propDecidable _) h
theorem mapsOkB_iff {l : List Sg} : mapsOkB l = true ↔ MapsOk l := by unfold mapsOkB; exact @decide_eq_true_iff _ (Classical.propDecidable _)
theorem SgR_cells {w : World} {ok : Nat → Prop} {cs : List Value} {x : Sg} (h : SgR.rel w ok cs x) : ∃ A c, cs = [.int .i64 x.at_, .slice A x.seg.length c, .bool x.write] ∧ intsR.rel w ok [.slice A x.seg.length c] x.seg := by
  obtain ⟨d0, d1, d2, rfl, ⟨rfl, -⟩, h1, rfl⟩ := SgR_iff.1 h
  obtain ⟨A, c, hv, _⟩ := id h1
  subst hv
  exact ⟨A, c, rfl, h1⟩
theorem sgC_one (a : Int) (A : Option Addr) (n c : Nat) (b : Bool) : ∀ u ∈ [Value.int .i64 a, .slice A n c, .bool b], u.oneCell' = true := by intro u hu; simp at hu; rcases hu with rfl | rfl | rfl <;> rfl
theorem Tryz.info_sg2 : (Tryz.prog.info? 109).map (fun i => (i.zero, i.size)) = some (some (.agg #[.int .i64 0, .slice none 0 0, .bool false]), 3) := by kernel_rfl
theorem right_pm (A : Option Addr) (n c : Nat) (l : List Int) (ok : Nat → Prop) (w : World) (h : intsR.rel w ok [.slice A n c] l) :
    Calls Tryz.prog 60 #[.slice A n c] w fun r w' => r = .returned (.bool (rightP l)) ∧ Mod (fun _ => False) w w' :=
  (right_p A n c l ok w h).mono fun e w' ⟨h1, h2⟩ => ⟨h1, h2 ▸ Mod.refl _ _⟩
set_option maxRecDepth 100000 in
set_option maxHeartbeats 2000000 in
theorem rightMaps_any (A : Option Addr) (n c : Nat) (l : List Sg) (ok : Nat → Prop) (w : World) (h : (Rd.slice 40 SgR).rel w ok [.slice A n c] l) :
    Calls Tryz.prog 74 #[.slice A n c] w fun e w' => e = .returned (.bool (mapsOkB l)) ∧ Mod (fun _ => False) w w' := by
  obtain ⟨rfl, hcap, hcm, hlen, -, hrow⟩ := slice_row (Rd.bound h)
  clear h
  obtain ⟨z, hz⟩ : ∃ z, z = mapsOkB l := ⟨_, rfl⟩
  rw [← hz]
  have HH := Lib.hid (And.intro hrow hz)
  clear hrow hz
  go_enter Tryz.func74, Tryz.ntmps74
  go_wp2_with fail
  go_loopg [7] l.length (fun f s7 wx => ∃ i : Nat, s7 = .int .i64 i ∧ i + f = l.length ∧ Hid ((∀ j k, j < i → l[j]? = some k → SgAt l j k) ∧ Mod (fun _ => False) w wx))
  case atStart => exact ⟨0, rfl, by omega, Lib.hid ⟨fun j k hj => by omega, Mod.refl _ _⟩⟩
  case round =>
    obtain ⟨i, rfl, hi, HP⟩ := hrel
    by_cases hil : i < l.length
    · obtain ⟨x, hx⟩ : ∃ x, l[i]? = some x := ⟨_, List.getElem?_eq_getElem hil⟩
      obtain ⟨ad, cs, rfl, hokb, hr, hc⟩ := Rd.RowOf.at_ HH.out.1 hx
      obtain ⟨As, ks, rfl, hseg⟩ := SgR_cells hr
      have hcell : ∀ j u, [Value.int .i64 x.at_, .slice As x.seg.length ks, .bool x.write][j]? = some u → wr.cell? ((ad.add (i * 3)).add j) = some u := fun j u hj => by
        rw [add_add]
        exact cell_step (hc j u hj) (fun _ => by rw [add_block]; exact HP.out.2.block _ hokb.2 id)
      have HC := Lib.hid (And.intro hcell (And.intro hx hseg)); clear hcell hc hr hokb hx hseg
      go_wp2_with (refine wpList_copy_var_i (n := 3) rfl rfl rfl rfl 109 _ _ _ _ rfl rfl rfl rfl Tryz.underlying109 [.int .i64 0, .slice none 0 0, .bool false] Tryz.info_sg2 rfl (ad.add (i * 3)) rfl [.int .i64 x.at_, .slice As x.seg.length ks, .bool x.write] rfl (sgC_one _ _ _ _ _) HC.out.1 (.int .i64 i) (fun _ _ => rfl) (fun _ _ => rfl) (fun _ _ => rfl) ?_)
      intro g2 w2 hg2 hgb2 hm2
      have k0 : w2.cell? ⟨g2, 0, none⟩ = some (.int .i64 x.at_) := by rw [cell_of_blk hgb2]; rfl
      have k1 : w2.cell? ⟨g2, 1, none⟩ = some (.slice As x.seg.length ks) := by rw [cell_of_blk hgb2]; rfl
      have HM := Lib.hid (hm2 fun _ => False); clear hm2 hgb2 hg2
      have z0 := fun W : ModW w2 => ModW.cell k0 W
      have z1 := fun W : ModW w2 => ModW.cell k1 W
      have hrp := fun W : ModW w2 => right_pm As x.seg.length ks x.seg _ W.1 (Rd.mod HC.out.2.2 (HP.out.2.trans (HM.out.trans W.2 (fun _ h => h.elim)) (fun _ h => h.elim)) (fun _ _ => id))
      by_cases e1 : 0 ≤ x.at_ ∧ x.at_ ≤ 1048576
      case neg =>
        have HE := Lib.hid (And.intro (fun W => between_no e1 W) e1); clear e1 hrp
        have hzf : z = false := by
          rw [HH.out.2]
          exact mapsOkB_no fun h => by
            have q := (mapsOk_iff.1 h).1 _ x HC.out.2.1
            exact HE.out.2 q.at_
        subst hzf
        go_wp2_with fail
        refine wp_region_mod (by kernel_rfl) (by kernel_rfl) ?_
        refine wpQuiet_hide (fun R hR => ?_)
        iterate 25 (first
          | ((first | refine wpQuiet_none hR rfl (fun K hK => ?_) | refine wpQuiet_take hR (by rfl) (fun K hK => ?_)); clear hR R; go_simp; first | (refine hK _ (fun R hR => ?_); clear hK K) | (apply Exists.intro; refine ⟨fun _ => ?_, hK _ (fun R hR => ?_)⟩; (first | (go_at_call 38; exact quiet_mod (HE.out.1 _))); clear hK K))
          | (refine wpQuiet_skip hR (by rfl) (fun K hK => ?_); clear hR R; go_simp; refine hK _ (fun R hR => ?_); clear hK K))
        refine wpQuiet_end hR ?_
        clear hR R
        rintro _ ⟨W, rfl⟩
        have HW := Lib.hid (HP.out.2.trans (HM.out.trans W.2 (fun _ h => h.elim)) (fun _ h => h.elim))
        go_wp2_with fail
        go_ret
        exact ⟨rfl, HW.out⟩
      case pos =>
        have HE := Lib.hid (And.intro (fun W => between_yes e1 W) e1); clear e1
        cases e2 : rightP x.seg
        case false =>
          simp only [e2] at hrp
          have HE2 := Lib.hid (And.intro hrp e2); clear e2 hrp
          have hzf : z = false := by
            rw [HH.out.2]
            exact mapsOkB_no fun h => by
              have q := (mapsOk_iff.1 h).1 _ x HC.out.2.1
              have := q.seg; rw [HE2.out.2] at this; cases this
          subst hzf
          go_wp2_with fail
          refine wp_region_mod (by kernel_rfl) (by kernel_rfl) ?_
          refine wpQuiet_hide (fun R hR => ?_)
          iterate 25 (first
            | ((first | refine wpQuiet_none hR rfl (fun K hK => ?_) | refine wpQuiet_take hR (by rfl) (fun K hK => ?_)); clear hR R; go_simp; first | (refine hK _ (fun R hR => ?_); clear hK K) | (apply Exists.intro; refine ⟨fun _ => ?_, hK _ (fun R hR => ?_)⟩; (first | (go_at_call 38; exact quiet_mod (HE.out.1 _)) | (go_at_call 60; exact quiet_mod (HE2.out.1 _))); clear hK K))
            | (refine wpQuiet_skip hR (by rfl) (fun K hK => ?_); clear hR R; go_simp; refine hK _ (fun R hR => ?_); clear hK K))
          refine wpQuiet_end hR ?_
          clear hR R
          rintro _ ⟨W, rfl⟩
          have HW := Lib.hid (HP.out.2.trans (HM.out.trans W.2 (fun _ h => h.elim)) (fun _ h => h.elim))
          go_wp2_with fail
          go_ret
          exact ⟨rfl, HW.out⟩
        case true =>
          simp only [e2] at hrp
          have HE2 := Lib.hid (And.intro hrp e2); clear e2 hrp
          by_cases hi0 : i = 0
          case pos =>
            subst hi0
            go_wp2_with fail
            refine wp_region_mod (by kernel_rfl) (by kernel_rfl) ?_
            refine wpQuiet_hide (fun R hR => ?_)
            iterate 25 (first
              | ((first | refine wpQuiet_none hR rfl (fun K hK => ?_) | refine wpQuiet_take hR (by rfl) (fun K hK => ?_)); clear hR R; go_simp; first | (refine hK _ (fun R hR => ?_); clear hK K) | (apply Exists.intro; refine ⟨fun _ => ?_, hK _ (fun R hR => ?_)⟩; (first | (go_at_call 38; exact quiet_mod (HE.out.1 _)) | (go_at_call 60; exact quiet_mod (HE2.out.1 _))); clear hK K))
              | (refine wpQuiet_skip hR (by rfl) (fun K hK => ?_); clear hR R; go_simp; refine hK _ (fun R hR => ?_); clear hK K))
            refine wpQuiet_end hR ?_
            clear hR R
            rintro _ ⟨W, rfl⟩
            have HW := Lib.hid (HP.out.2.trans (HM.out.trans W.2 (fun _ h => h.elim)) (fun _ h => h.elim))
            go_wp2_with fail
            go_roundg (gk - 1)
            case measure => omega
            case rel => exact ⟨1, by go_num, by omega, Lib.hid ⟨fun j k hj hk => by
              obtain rfl : j = 0 := by omega
              rw [HC.out.2.1] at hk; cases hk
              exact ⟨HE.out.2, HE2.out.2, fun p hp => absurd hp (Nat.lt_irrefl _)⟩, HW.out⟩⟩
          case neg =>
            obtain ⟨j, rfl⟩ : ∃ j, i = j + 1 := ⟨i - 1, by omega⟩
            obtain ⟨y, hy⟩ : ∃ y, l[j]? = some y := ⟨_, List.getElem?_eq_getElem (by omega)⟩
            obtain ⟨ad', cs', had, hokb', hr', hc'⟩ := Rd.RowOf.at_ HH.out.1 hy
            obtain ⟨As', ks', rfl, -⟩ := SgR_cells hr'
            cases had
            have hmw2 : Mod (fun _ => False) w w2 := HP.out.2.trans HM.out (fun _ h => h.elim)
            have p0 : ∀ W : ModW w2, W.1.cell? (ad.add (j * 3)) = some (.int .i64 y.at_) := fun W => cell_step (hc' 0 _ rfl) (fun _ => by rw [add_block]; exact (hmw2.trans W.2 (fun _ h => h.elim)).block _ hokb'.2 id)
            have HY := Lib.hid hy; clear hy hr' hc' hokb' hmw2
            have hj1 : j < l.length := by omega
            have hwj : IntKind.i64.wrap (j : Int) = j := by rw [IntKind.wrap_i64]; omega
            by_cases e4 : y.at_ < x.at_
            case neg =>
              have d4 : decide (x.at_ ≤ y.at_) = true := decide_eq_true (by omega)
              have HE4 := Lib.hid e4; clear e4
              have hzf : z = false := by
                rw [HH.out.2]
                exact mapsOkB_no fun h => by
                  have q := (mapsOk_iff.1 h).1 _ x HC.out.2.1
                  exact HE4.out (q.prev y (Nat.succ_pos _) HY.out)
              subst hzf
              go_wp2_with fail
              refine wp_region_mod (by kernel_rfl) (by kernel_rfl) ?_
              refine wpQuiet_hide (fun R hR => ?_)
              iterate 25 (first
                | ((first | refine wpQuiet_none hR rfl (fun K hK => ?_) | refine wpQuiet_take hR (by rfl) (fun K hK => ?_)); clear hR R; go_simp; first | (refine hK _ (fun R hR => ?_); clear hK K) | (apply Exists.intro; refine ⟨fun _ => ?_, hK _ (fun R hR => ?_)⟩; (first | (go_at_call 38; exact quiet_mod (HE.out.1 _)) | (go_at_call 60; exact quiet_mod (HE2.out.1 _))); clear hK K))
                | (refine wpQuiet_skip hR (by rfl) (fun K hK => ?_); clear hR R; go_simp; refine hK _ (fun R hR => ?_); clear hK K))
              refine wpQuiet_end hR ?_
              clear hR R
              rintro _ ⟨W, rfl⟩
              have HW := Lib.hid (HP.out.2.trans (HM.out.trans W.2 (fun _ h => h.elim)) (fun _ h => h.elim))
              go_wp2_with fail
              go_ret
              exact ⟨rfl, HW.out⟩
            case pos =>
              have d4 : decide (x.at_ ≤ y.at_) = false := decide_eq_false (by omega)
              have HE4 := Lib.hid e4; clear e4
              go_wp2_with fail
              refine wp_region_mod (by kernel_rfl) (by kernel_rfl) ?_
              refine wpQuiet_hide (fun R hR => ?_)
              iterate 25 (first
                | ((first | refine wpQuiet_none hR rfl (fun K hK => ?_) | refine wpQuiet_take hR (by rfl) (fun K hK => ?_)); clear hR R; go_simp; first | (refine hK _ (fun R hR => ?_); clear hK K) | (apply Exists.intro; refine ⟨fun _ => ?_, hK _ (fun R hR => ?_)⟩; (first | (go_at_call 38; exact quiet_mod (HE.out.1 _)) | (go_at_call 60; exact quiet_mod (HE2.out.1 _))); clear hK K))
                | (refine wpQuiet_skip hR (by rfl) (fun K hK => ?_); clear hR R; go_simp; refine hK _ (fun R hR => ?_); clear hK K))
              refine wpQuiet_end hR ?_
              clear hR R
              rintro _ ⟨W, rfl⟩
              have HW := Lib.hid (HP.out.2.trans (HM.out.trans W.2 (fun _ h => h.elim)) (fun _ h => h.elim))
              go_wp2_with fail
              go_roundg (gk - 1)
              case measure => omega
              case rel => exact ⟨j + 1 + 1, by go_num, by omega, Lib.hid ⟨fun t k ht hk => by
                by_cases he : t = j + 1
                · subst he
                  rw [HC.out.2.1] at hk; cases hk
                  exact ⟨HE.out.2, HE2.out.2, fun p _ hp => by
                    rw [show j + 1 - 1 = j from rfl, HY.out] at hp; cases hp; exact HE4.out⟩
                · exact HP.out.1 t k (by omega) hk, HW.out⟩⟩
    · obtain rfl : i = l.length := by omega
      clear hil
      by_cases e1 : l.length ≤ 4
      · have hzt : z = true := by
          rw [HH.out.2]
          exact mapsOkB_yes (mapsOk_iff.2 ⟨fun i k hk => HP.out.1 i k (List.getElem?_eq_some_iff.1 hk).1 hk, e1⟩)
        subst hzt
        have d2 : decide ((l.length : Int) ≤ 4) = true := by simp; omega
        go_wp2_with fail
        go_ret
        exact ⟨rfl, HP.out.2⟩
      · have hzf : z = false := by
          rw [HH.out.2]
          exact mapsOkB_no fun h => e1 h.len
        subst hzf
        have d1 : decide (l.length ≤ 4) = false := decide_eq_false e1
        have d2 : decide ((l.length : Int) ≤ 4) = false := by simp; omega
        clear e1
        go_wp2_with fail
        go_ret
        exact ⟨rfl, HP.out.2⟩
end Go.Proofs.YtefedalnafjcfaaGreatDoor

namespace Go.Proofs.YtefedalnafjcfaaGreatDoor
open Go.RowKit Go.Shelf
set_option linter.unusedVariables false
set_option maxRecDepth 100000 in
set_option maxHeartbeats 4000000 in
theorem foreign_any (cs : List Value) (o : Ob) (ok : Nat → Prop) (w : World) (h : ObR.rel w ok cs o) :
    Calls Tryz.prog 75 #[.agg cs.toArray] w fun e w' => e = .returned (.bool (foreignB o)) ∧ Mod (fun _ => False) w w' := by
  obtain ⟨A1, c1, A2, c2, A4, c4, A5, c5, A7, c7, A9, c9, rfl, h0, h1, h2, h3, h4, h5, h6, h7, h8, h9⟩ := ObR_cells h
  obtain ⟨z, hz⟩ : ∃ z, z = foreignB o := ⟨_, rfl⟩
  rw [← hz]
  unfold foreignB at hz
  have HZ := Lib.hid hz
  clear h h1 h2 h3 h4 h5 h7 h9 hz h0 h6 h8
  obtain ⟨n2, hn2⟩ : ∃ n, n = o.kids.length := ⟨_, rfl⟩
  obtain ⟨n4, hn4⟩ : ∃ n, n = o.bytes.length := ⟨_, rfl⟩
  obtain ⟨n5, hn5⟩ : ∃ n, n = o.own.length := ⟨_, rfl⟩
  obtain ⟨n7, hn7⟩ : ∃ n, n = o.entry.length := ⟨_, rfl⟩
  obtain ⟨n9, hn9⟩ : ∃ n, n = o.maps.length := ⟨_, rfl⟩
  obtain ⟨k, hk⟩ : ∃ k, k = o.kind := ⟨_, rfl⟩
  obtain ⟨nx, hnx⟩ : ∃ k, k = o.next := ⟨_, rfl⟩
  obtain ⟨ct, hct⟩ : ∃ k, k = o.cats := ⟨_, rfl⟩
  obtain ⟨rg, hrg⟩ : ∃ k, k = o.ring := ⟨_, rfl⟩
  rw [← hn2, ← hn4, ← hn5, ← hn7, ← hn9, ← hk, ← hnx, ← hct, ← hrg] at HZ ⊢
  clear hn2 hn4 hn5 hn7 hn9 hk hnx hct hrg
  go_enter Tryz.func75, Tryz.ntmps75
  go_wp2_with (refine wpList_box_new rfl 39 _ rfl [.int .i64 k, .slice A1 o.label.length c1, .slice A2 n2 c2, .int .i64 nx, .slice A4 n4 c4, .slice A5 n5 c5, .int .i64 ct, .slice A7 n7 c7, .int .i64 rg, .slice A9 n9 c9] rfl ?_)
  intro g w2 hg hgb hm
  have x0 : w2.cell? ⟨g, 0, none⟩ = some (.int .i64 k) := by rw [cell_of_blk hgb]; rfl
  have x2 : w2.cell? ⟨g, 2, none⟩ = some (.slice A2 n2 c2) := by rw [cell_of_blk hgb]; rfl
  have x3 : w2.cell? ⟨g, 3, none⟩ = some (.int .i64 nx) := by rw [cell_of_blk hgb]; rfl
  have x4 : w2.cell? ⟨g, 4, none⟩ = some (.slice A4 n4 c4) := by rw [cell_of_blk hgb]; rfl
  have x5 : w2.cell? ⟨g, 5, none⟩ = some (.slice A5 n5 c5) := by rw [cell_of_blk hgb]; rfl
  have x6 : w2.cell? ⟨g, 6, none⟩ = some (.int .i64 ct) := by rw [cell_of_blk hgb]; rfl
  have x7 : w2.cell? ⟨g, 7, none⟩ = some (.slice A7 n7 c7) := by rw [cell_of_blk hgb]; rfl
  have x8 : w2.cell? ⟨g, 8, none⟩ = some (.int .i64 rg) := by rw [cell_of_blk hgb]; rfl
  have x9 : w2.cell? ⟨g, 9, none⟩ = some (.slice A9 n9 c9) := by rw [cell_of_blk hgb]; rfl
  have HM := Lib.hid (hm fun _ => False); clear hm hgb hg
  by_cases k1 : k = 1
  · subst k1
    go_wp2_with fail
    all_goals go_ret
    all_goals refine ⟨?_, HM.out⟩
    all_goals (rw [HZ.out]; first | (simp_all; done) | (simp_all; omega))
  by_cases k2 : k = 2
  · subst k2
    go_wp2_with fail
    all_goals go_ret
    all_goals refine ⟨?_, HM.out⟩
    all_goals (rw [HZ.out]; first | (simp_all; done) | (simp_all; omega))
  by_cases k3 : k = 3
  · subst k3
    go_wp2_with fail
    all_goals go_ret
    all_goals refine ⟨?_, HM.out⟩
    all_goals (rw [HZ.out]; first | (simp_all; done) | (simp_all; omega))
  by_cases k4 : k = 4
  · subst k4
    go_wp2_with fail
    all_goals go_ret
    all_goals refine ⟨?_, HM.out⟩
    all_goals (rw [HZ.out]; first | (simp_all; done) | (simp_all; omega))
  by_cases k5 : k = 5
  · subst k5
    go_wp2_with fail
    all_goals go_ret
    all_goals refine ⟨?_, HM.out⟩
    all_goals (rw [HZ.out]; first | (simp_all; done) | (simp_all; omega))
  have d1 : (k != 1) = true := by simpa using k1
  have d2 : (k != 2) = true := by simpa using k2
  have d3 : (k != 3) = true := by simpa using k3
  have d4 : (k != 4) = true := by simpa using k4
  have d5 : (k != 5) = true := by simpa using k5
  go_wp2_with fail
  all_goals go_ret
  all_goals refine ⟨?_, HM.out⟩
  all_goals (rw [HZ.out]; first | (simp_all; done) | (simp_all; omega))
end Go.Proofs.YtefedalnafjcfaaGreatDoor

