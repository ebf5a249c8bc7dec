/- Part of this claim's proof (texts Tab17, Qta1, joined by program). -/
import Derived.Test.YtefedalnafjcfaaGreatDoorA22
import Derived.Test.YtefedalnafjcfaaGreatDoorA14
namespace Go.Proofs.YtefedalnafjcfaaGreatDoor
open Go.RowKit Go.Shelf
set_option linter.unusedVariables false
theorem ints_nil (w : World) (ok : Nat → Prop) : intsR.rel w ok [.slice none 0 0] ([] : List Int) := ⟨none, 0, rfl, Nat.le_refl _, by decide, by simp, fun _ => rfl, .inl rfl⟩
theorem toldT_take {L : Tab} {i : Nat} {x : List Int × Ob} (h : L[i]? = some x) : toldT (L.take (i + 1)) = toldT (L.take i) + x.2.kids.length := by
  unfold toldT
  rw [List.take_add_one, h]
  simp
theorem uses_m (cs : List Value) (o : Ob) (ok : Nat → Prop) (w : World) (h : ObR.rel w ok cs o) (hr : KidsOk o) : Calls Tryz.prog 13 #[.agg cs.toArray] w fun e w' => e = .returned (.int .i64 (usesO o)) ∧ Mod (fun _ => False) w w' :=
  uses_any cs o ok w h (fun k hk => by have := hr.each k hk; omega) hr.len
theorem toldT_le {L : Tab} (h : ∀ x ∈ L, x.2.kids.length ≤ 16) : toldT L ≤ 16 * L.length := by
  induction L with
  | nil => simp [toldT]
  | cons x L ih =>
    have h1 := h x (List.mem_cons_self ..)
    have h2 := ih (fun y hy => h y (List.mem_cons_of_mem _ hy))
    simp only [toldT, List.map_cons, List.sum_cons, List.length_cons] at *
    omega
theorem kid_right {p : List Int} {o : Ob} {k : Kid} (hp : rightP p = true) (ho : RightOb o) (hk : k ∈ o.kids) : rightP (p ++ [k.n]) = decide (p.length < 6) := by
  have h := ho.kids.each k hk
  have h2 := ho.kids.next
  obtain ⟨h3, h4⟩ := rightP_iff.1 hp
  by_cases h6 : p.length < 6
  · rw [decide_eq_true h6]
    refine rightP_iff.2 ⟨by simp; omega, fun q hq => ?_⟩
    rcases List.mem_append.1 hq with hq | hq
    · exact h4 q hq
    · rw [List.mem_singleton.1 hq]; omega
  · rw [decide_eq_false h6, Bool.eq_false_iff]
    intro he
    have := (rightP_iff.1 he).1
    simp at this; omega
theorem childP_len (p : List Int) (k : Int) : (childP p k).length ≤ p.length + 1 := by unfold childP; split <;> simp
theorem wholeC_kid {L : Tab} {r o : Ob} {p : List Int} {k : Kid} {z : Bool} (hz : z = (decide (r.kind = 1) && L.all (fun x => x.2.kids.all (kidB L x.1) && fitsT L x.1 x.2) && decide (1 + toldT L = L.length) && decide (usesO r ≤ 1048576))) (hm : (p, o) ∈ L) (hk : k ∈ o.kids) (hb : kidB L p k = false) : z = false := by
  have : L.all (fun x => x.2.kids.all (kidB L x.1) && fitsT L x.1 x.2) = false := by
    rw [List.all_eq_false]
    refine ⟨_, hm, ?_⟩
    have : o.kids.all (kidB L p) = false := by rw [List.all_eq_false]; exact ⟨k, hk, by simp [hb]⟩
    simp [this]
  rw [hz, this]; simp
theorem wholeC_fit {L : Tab} {r o : Ob} {p : List Int} {z : Bool} (hz : z = (decide (r.kind = 1) && L.all (fun x => x.2.kids.all (kidB L x.1) && fitsT L x.1 x.2) && decide (1 + toldT L = L.length) && decide (usesO r ≤ 1048576))) (hm : (p, o) ∈ L) (hb : fitsT L p o = false) : z = false := by
  have : L.all (fun x => x.2.kids.all (kidB L x.1) && fitsT L x.1 x.2) = false := by
    rw [List.all_eq_false]
    exact ⟨_, hm, by simp [hb]⟩
  rw [hz, this]; simp
set_option maxRecDepth 100000 in
set_option maxHeartbeats 8000000 in
theorem whole_any (S : Nat → Prop) (g mb : Nat) (L : Tab) (w : World) (hT : TabAt w S g mb L) (hL : ∀ x ∈ L, rightP x.1 = true ∧ RightOb x.2) (hl : L.length ≤ 1000000) (E : Env w) :
    Calls Tryz.prog 27 #[.pointer (some ⟨g, 0, none⟩)] w fun e w' => e = .returned (.bool (wholeC L)) ∧ Mod (fun _ => False) w w' := by
  obtain ⟨z, hz⟩ : ∃ z, z = wholeC L := ⟨_, rfl⟩
  rw [← hz]
  unfold wholeC at hz
  have hch := fun W (hW : Mod (fun _ => False) w W) (A' : Option Addr) (m' c' : Nat) (p : List Int) (ok' : Nat → Prop) (hr : intsR.rel W ok' [.slice A' m' c'] p) (k : Int) (hk : 0 ≤ k ∧ k ≤ 1048577) (hp : p.length ≤ 1000000) => child_p A' m' c' p k ok' W hr (inR_mk (by omega)) hp
  have hgt := fun W (hW : Mod (fun _ => False) w W) (A' : Option Addr) (m' c' : Nat) (q : List Int) (ok' : Nat → Prop) (hr : intsR.rel W ok' [.slice A' m' c'] q) (hq : q.length ≤ 1100000) => getTab_any _ g mb L A' m' c' q ok' W (hT.bound.move hW (fun _ _ => id) id id) hr hq (E.mod0 hW)
  have hpth := fun W (hW : Mod (fun _ => False) w W) => paths_any _ g mb L W (hT.bound.move hW (fun _ _ => id) id id) (fun x hx => (hL x hx).1) hl (E.mod0 hW)
  have hfit := fun W (hW : Mod (fun _ => False) w W) (A' : Option Addr) (m' c' : Nat) (p : List Int) (ok' ok2 : Nat → Prop) (cs : List Value) (o : Ob) (hr : intsR.rel W ok' [.slice A' m' c'] p) (ho : ObR.rel W ok2 cs o) (hk : ∀ k ∈ o.kids, rightP (p ++ [k.n]) = true) (hp : p.length ≤ 1000000) => fitsTab_any _ g mb L A' m' c' p ok' ok2 cs o W (hT.bound.move hW (fun _ _ => id) id id) hr ho hk hp (E.mod0 hW)
  have hg0 := hT.blk
  have hc0 : w.cell? ⟨g, 0, none⟩ = some (.map (some mb)) := by rw [cell_of_blk hg0]; rfl
  obtain ⟨vs, hma, hvl⟩ := hT.run_len
  have hroot := hgt w (.refl _ _) none 0 0 [] (fun _ => False) (ints_nil w _) (by simp)
  have hasc := hT.asc
  cases hr : getT L [] with
  | none =>
    rw [hr] at hroot hz
    dsimp only [Option.isSome, Option.getD] at hroot hz
    subst hz
    have HR := Lib.hid hroot; clear hroot hr hgt hch hpth hfit hL hma hvl hasc hT hg0 hl E
    go_enter Tryz.func27, Tryz.ntmps27
    go_wp2_with fail
    refine HR.out.mono ?_
    rintro e w1 ⟨o1, A1, c1, A2, c2, A4, c4, A5, c5, A7, c7, A9, c9, rfl, rfl, hcp⟩
    have HC := Lib.hid hcp.mod; clear hcp
    go_wp2_with (refine wpList_box2 rfl rfl 39 _ _ rfl rfl [.int .i64 0, .slice none 0 0, .slice none 0 0, .int .i64 0, .slice none 0 0, .slice none 0 0, .int .i64 0, .slice none 0 0, .int .i64 0, .slice none 0 0] Tryz.infoOb3 rfl _ rfl (obC_one _ _ _ _ _ _ _ _ _ _ _ _ _) (fun _ => rfl) (fun _ => rfl) ?_)
    intro g1 w2 hg1 hb1 hm1
    have HM := Lib.hid (tr0 HC.out (hm1 fun _ => False)); clear hm1 hb1 hg1
    go_wp2_with fail
    go_ret
    exact ⟨rfl, HM.out⟩
  | some r =>
    rw [hr] at hroot hz
    dsimp only [Option.isSome, Option.getD] at hroot hz
    have hmem := (hL _ (getT_mem hr)).2
    have HX := Lib.hid (And.intro hz (And.intro hgt (And.intro hpth (And.intro hfit (And.intro hL (And.intro hasc (And.intro hma (And.intro hvl (And.intro hl (And.intro hch (And.intro hmem hr)))))))))))
    have HR := Lib.hid hroot
    clear hz hgt hch hpth hfit hL hma hvl hroot hasc hT hg0 hl E hmem hr
    go_enter Tryz.func27, Tryz.ntmps27
    go_wp2_with fail
    refine HR.out.mono ?_
    rintro e w1 ⟨o1, A1, c1, A2, c2, A4, c4, A5, c5, A7, c7, A9, c9, rfl, rfl, hcp⟩
    have HC := Lib.hid hcp; clear hcp HR
    go_wp2_with (refine wpList_box2 rfl rfl 39 _ _ rfl rfl [.int .i64 0, .slice none 0 0, .slice none 0 0, .int .i64 0, .slice none 0 0, .slice none 0 0, .int .i64 0, .slice none 0 0, .int .i64 0, .slice none 0 0] Tryz.infoOb3 rfl _ rfl (obC_one _ _ _ _ _ _ _ _ _ _ _ _ _) (fun _ => rfl) (fun _ => rfl) ?_)
    intro g1 w2 hg1 hb1 hm1
    have x0 : w2.cell? ⟨g1, 0, none⟩ = some (.int .i64 o1.kind) := by rw [cell_of_blk hb1]; rfl
    have HM := Lib.hid (And.intro (tr0 HC.out.mod (hm1 fun _ => False)) (And.intro hb1 (hm1 fun _ => False))); clear hm1 hb1 hg1
    by_cases hk1 : o1.kind = 1
    case neg =>
      have d1 : (o1.kind != 1) = true := by simpa using hk1
      have hzf : z = false := by rw [HX.out.1]; simp [hk1]
      subst hzf
      clear hk1
      go_wp2_with fail
      go_ret
      exact ⟨rfl, HM.out.1⟩
    case pos =>
      have d1 : (o1.kind != 1) = false := by simpa using hk1
      have H2 := Lib.hid hk1; clear hk1
      have HP := Lib.hid (HX.out.2.2.1 w2 HM.out.1)
      go_wp2_with fail
      refine HP.out.mono ?_
      rintro e w3 ⟨Ap, cp, Sp, rfl, hOp, -, hm3⟩
      clear HP
      obtain ⟨ps, hps⟩ : ∃ ps, ps = L.map (·.1) := ⟨_, rfl⟩
      rw [← hps] at hOp ⊢
      have hpl : ps.length = L.length := by rw [hps, List.length_map]
      have hrp := hOp.reads (bytes := 24) (by have := HX.out.2.2.2.2.2.2.2.2.1; omega)
      have hlb : ps.length ≤ 1000000 := by have := HX.out.2.2.2.2.2.2.2.2.1; omega
      have HP := Lib.hid (And.intro hps (And.intro hpl (And.intro hrp hm3))); clear hps hpl hrp hm3 hOp
      go_wp2_with fail
      go_loopg [5, 31] ps.length (fun f s5 s31 wx => ∃ i t : Nat, s31 = .int .i64 i ∧ s5 = .int .i64 t ∧ i + f = ps.length ∧ t ≤ 17000000 ∧ Hid (t = 1 + toldT (L.take i) ∧ (∀ j x, j < i → L[j]? = some x → x.2.kids.all (kidB L x.1) = true ∧ fitsT L x.1 x.2 = true) ∧ Mod (fun _ => False) w3 wx))
      case atStart => exact ⟨0, 1, rfl, rfl, by omega, by omega, Lib.hid ⟨by simp [toldT], fun j k hj => by omega, .refl _ _⟩⟩
      case round =>
        obtain ⟨i, t, rfl, rfl, hi, ht, HQ⟩ := hrel
        have hm2r := Lib.hid (tr0 HP.out.2.2.2 HQ.out.2.2)
        have hmr := Lib.hid (tr0 HM.out.1 hm2r.out)
        by_cases hil : i < ps.length
        · obtain ⟨p, hp⟩ : ∃ p, ps[i]? = some p := ⟨_, List.getElem?_eq_getElem hil⟩
          obtain ⟨o, ho⟩ : ∃ o, L[i]? = some (p, o) := by
            have h1 := hp
            rw [HP.out.1, List.getElem?_map] at h1
            cases hx : L[i]? with
            | none => rw [hx] at h1; cases h1
            | some x => rw [hx] at h1; cases h1; exact ⟨x.2, rfl⟩
          obtain ⟨ad, cs, rfl, hokb, hr, hc⟩ := Rd.RowOf.at_ (slice_row (Rd.mod HP.out.2.2.1 HQ.out.2.2 (fun _ _ => id))).2.2.2.2.2 hp
          obtain ⟨Aq, cq, rfl, -⟩ := id hr
          have y1 : wr.cell? (ad.add i) = some (.slice Aq p.length cq) := by
            have := hc 0 _ rfl
            rwa [show i * intsR.sz + 0 = i from by show i * 1 + 0 = i; omega] at this
          have hmo := HX.out.2.2.2.2.1 _ (List.mem_of_getElem? ho)
          have hgo : getT L p = some o := getT_of_mem HX.out.2.2.2.2.2.1 (List.mem_of_getElem? ho)
          have hg := HX.out.2.1 wr hmr.out Aq p.length cq p _ hr (by have := (rightP_iff.1 hmo.1).1; dsimp only at this; omega)
          rw [hgo] at hg
          dsimp only [Option.isSome, Option.getD] at hg
          have HY := Lib.hid (And.intro hg (And.intro hr (And.intro ho (And.intro hmo hgo)))); clear hg hr ho hmo hgo hc hokb hp
          have HPR := Lib.hid (rightP_iff.1 HY.out.2.2.2.1.1).1
          go_wp2_with fail
          refine HY.out.1.mono ?_
          rintro e w4 ⟨oB, A1', c1', A2', c2', A4', c4', A5', c5', A7', c7', A9', c9', rfl, rfl, hcp⟩
          have HC4 := Lib.hid hcp; clear hcp
          go_wp2_with (refine wpList_box2 rfl rfl 39 _ _ rfl rfl [.int .i64 0, .slice none 0 0, .slice none 0 0, .int .i64 0, .slice none 0 0, .slice none 0 0, .int .i64 0, .slice none 0 0, .int .i64 0, .slice none 0 0] Tryz.infoOb3 rfl _ rfl (obC_one _ _ _ _ _ _ _ _ _ _ _ _ _) (fun _ => rfl) (fun _ => rfl) ?_)
          intro g5 w5 hg5 hb5 hm5
          have hob5 := Rd.mod (HC4.out.reads (by have := HY.out.2.2.2.1.2.kids.len; omega)) (hm5 fun _ => False) (fun _ _ => id)
          have x2 : w5.cell? ⟨g5, 2, none⟩ = some (.slice A2' oB.kids.length c2') := by rw [cell_of_blk hb5]; rfl
          have HB5 := Lib.hid (And.intro hob5 (And.intro hb5 (tr0 HC4.out.mod (hm5 fun _ => False)))); clear hob5 hb5 hm5 hg5
          have hkl := HY.out.2.2.2.1.2.kids.len
          go_wp2_with fail
          go_loopg [5, 44] oB.kids.length (fun f s5 s44 wx => ∃ j u : Nat, s44 = .int .i64 j ∧ s5 = .int .i64 u ∧ j + f = oB.kids.length ∧ u = t + j ∧ Hid ((∀ y k, y < j → oB.kids[y]? = some k → kidB L p k = true) ∧ Mod (fun _ => False) w5 wx))
          case atStart => exact ⟨0, t, rfl, rfl, by omega, by omega, Lib.hid ⟨fun y k hj => by omega, .refl _ _⟩⟩
          case round =>
            obtain ⟨j, u, rfl, rfl, hj, hu, HI⟩ := hrel
            have hm3r := Lib.hid (tr0 HB5.out.2.2 HI.out.2)
            have hm0r := Lib.hid (tr0 hmr.out hm3r.out)
            by_cases hjl : j < oB.kids.length
            · obtain ⟨x, hx⟩ : ∃ x, oB.kids[j]? = some x := ⟨_, List.getElem?_eq_getElem hjl⟩
              obtain ⟨adk, csx, hA, hokb, hrk, hck⟩ := Rd.RowOf.at_ (slice_row (ObR_kids (Rd.mod HB5.out.1 HI.out.2 (fun _ _ => id)))).2.2.2.2.2 hx
              subst hA
              obtain rfl := KidR_cells hrk
              have hxm := List.mem_of_getElem? hx
              have hcell : ∀ j2 u2, [Value.int .i64 x.n, .int .i64 x.kind, .int .i64 x.quota][j2]? = some u2 → wr.cell? ((adk.add (j * 3)).add j2) = some u2 := fun j2 u2 hj2 => by
                rw [add_add]; exact hck j2 u2 hj2
              have hxr := HY.out.2.2.2.1.2.kids.each x hxm
              have hxn := HY.out.2.2.2.1.2.kids.next
              have hright := kid_right HY.out.2.2.2.1.1 HY.out.2.2.2.1.2 hxm
              have hno := fun h => wholeC_kid HX.out.1 (List.mem_of_getElem? HY.out.2.2.1) hxm h
              have HK := Lib.hid (And.intro hcell (And.intro hx (And.intro hxr (And.intro hxn (And.intro hright (And.intro hno hxm)))))); clear hcell hx hxr hxn hright hno hxm hck hrk hokb
              go_wp2_with (refine wpList_copy_var (n := 3) rfl rfl rfl 43 _ _ _ rfl rfl rfl Tryz.underlying43 [.int .i64 0, .int .i64 0, .int .i64 0] Tryz.info_kd2 rfl (adk.add (j * 3)) rfl [.int .i64 x.n, .int .i64 x.kind, .int .i64 x.quota] rfl (kidC_one _ _ _) HK.out.1 (fun _ _ => rfl) (fun _ _ => rfl) ?_)
              intro g2 w6 hg2 hgb2 hm2
              have k0 : w6.cell? ⟨g2, 0, none⟩ = some (.int .i64 x.n) := by rw [cell_of_blk hgb2]; rfl
              have HM6 := Lib.hid (And.intro (tr0 hm3r.out (hm2 fun _ => False)) (And.intro hgb2 (hm2 fun _ => False))); clear hm2 hgb2 hg2
              have hchx := HX.out.2.2.2.2.2.2.2.2.2.1 w6 (tr0 hmr.out HM6.out.1) Aq p.length cq p _ (Rd.mod HY.out.2.1 HM6.out.1 (fun _ _ => id)) x.n (by have := HK.out.2.2.1; have := HK.out.2.2.2.1; (try dsimp only at *); omega) (by have := HPR.out; (try dsimp only at *); omega)
              obtain ⟨px, hpx⟩ : ∃ px, px = childP p x.n := ⟨_, rfl⟩
              rw [HK.out.2.2.2.2.1, ← hpx] at hchx
              obtain ⟨b6, hb6⟩ : ∃ b, b = decide (p.length < 6) := ⟨_, rfl⟩
              rw [← hb6] at hchx
              have HCH := Lib.hid (And.intro hchx (And.intro hpx hb6)); clear hchx hpx hb6
              go_wp2_with fail
              refine HCH.out.1.mono ?_
              rintro e w7 ⟨A', c', rfl, hO, hm7⟩
              have H7 := Lib.hid (And.intro hO (And.intro (tr0 HM6.out.1 hm7) hm7)); clear hO hm7
              have hgq := HX.out.2.1 w7 (tr0 hmr.out H7.out.2.1) A' px.length c' px _ (H7.out.1.reads (bytes := 8) (by have := childP_len p x.n; rw [← HCH.out.2.1] at this; have := HPR.out; (try dsimp only at *); omega)) (by have := childP_len p x.n; rw [← HCH.out.2.1] at this; have := HPR.out; (try dsimp only at *); omega)
              have hb7 := (H7.out.2.2.block g2 (lt_of_blk HM6.out.2.1) id).trans HM6.out.2.1
              have Hb7 := Lib.hid hb7; clear hb7
              cases b6 with
              | false =>
                have hzf : z = false := HK.out.2.2.2.2.2.1 (by unfold kidB; rw [← HCH.out.2.2]; rfl)
                subst hzf
                have HG := Lib.hid hgq; clear hgq
                go_wp2_with fail
                refine HG.out.mono ?_
                rintro e w8 ⟨oC, A1x, c1x, A2x, c2x, A4x, c4x, A5x, c5x, A7x, c7x, A9x, c9x, -, rfl, hcp⟩
                have HC8 := Lib.hid hcp.mod; clear hcp
                go_wp2_with (refine wpList_box2 rfl rfl 39 _ _ rfl rfl [.int .i64 0, .slice none 0 0, .slice none 0 0, .int .i64 0, .slice none 0 0, .slice none 0 0, .int .i64 0, .slice none 0 0, .int .i64 0, .slice none 0 0] Tryz.infoOb3 rfl _ rfl (obC_one _ _ _ _ _ _ _ _ _ _ _ _ _) (fun _ => rfl) (fun _ => rfl) ?_)
                intro g8 w9 hg9 hb9 hm9
                have HM9 := Lib.hid (tr0 hmr.out (tr0 H7.out.2.1 (tr0 HC8.out (hm9 fun _ => False)))); clear hm9 hb9 hg9
                go_wp2_with fail
                refine wp_region_mod (by kernel_rfl) (by kernel_rfl) ?_
                refine wpQuiet_hide (fun R hR => ?_)
                iterate 20 (first
                  | ((first | refine wpQuiet_none hR rfl (fun K hK => ?_) | refine wpQuiet_take hR (by rfl) (fun K hK => ?_)); clear hR R; go_simp; (refine hK _ (fun R hR => ?_); clear hK K))
                  | (refine wpQuiet_skip hR (by rfl) (fun K hK => ?_); clear hR R; go_simp; refine hK _ (fun R hR => ?_); clear hK K))
                refine wpQuiet_end hR ?_
                clear hR R
                rintro _ ⟨W, rfl⟩
                have HW := Lib.hid (tr0 HM9.out W.2)
                go_wp2_with fail
                go_ret
                exact ⟨rfl, HW.out⟩
              | true =>
                have hl6 : p.length < 6 := of_decide_eq_true HCH.out.2.2.symm
                have hpx : px = p ++ [x.n] := by rw [HCH.out.2.1]; exact childP_right (by rw [HK.out.2.2.2.2.1, decide_eq_true hl6])
                cases hgx : getT L px with
                | none =>
                  have hzf : z = false := HK.out.2.2.2.2.2.1 (by unfold kidB; rw [← hpx, hgx]; simp)
                  subst hzf
                  rw [hgx] at hgq
                  dsimp only [Option.isSome, Option.getD] at hgq
                  have HG := Lib.hid hgq; clear hgq hgx hl6 hpx
                  go_wp2_with fail
                  refine HG.out.mono ?_
                  rintro e w8 ⟨oC, A1x, c1x, A2x, c2x, A4x, c4x, A5x, c5x, A7x, c7x, A9x, c9x, -, rfl, hcp⟩
                  have HC8 := Lib.hid hcp.mod; clear hcp
                  go_wp2_with (refine wpList_box2 rfl rfl 39 _ _ rfl rfl [.int .i64 0, .slice none 0 0, .slice none 0 0, .int .i64 0, .slice none 0 0, .slice none 0 0, .int .i64 0, .slice none 0 0, .int .i64 0, .slice none 0 0] Tryz.infoOb3 rfl _ rfl (obC_one _ _ _ _ _ _ _ _ _ _ _ _ _) (fun _ => rfl) (fun _ => rfl) ?_)
                  intro g8 w9 hg9 hb9 hm9
                  have HM9 := Lib.hid (tr0 hmr.out (tr0 H7.out.2.1 (tr0 HC8.out (hm9 fun _ => False)))); clear hm9 hb9 hg9
                  go_wp2_with fail
                  refine wp_region_mod (by kernel_rfl) (by kernel_rfl) ?_
                  refine wpQuiet_hide (fun R hR => ?_)
                  iterate 20 (first
                    | ((first | refine wpQuiet_none hR rfl (fun K hK => ?_) | refine wpQuiet_take hR (by rfl) (fun K hK => ?_)); clear hR R; go_simp; (refine hK _ (fun R hR => ?_); clear hK K))
                    | (refine wpQuiet_skip hR (by rfl) (fun K hK => ?_); clear hR R; go_simp; refine hK _ (fun R hR => ?_); clear hK K))
                  refine wpQuiet_end hR ?_
                  clear hR R
                  rintro _ ⟨W, rfl⟩
                  have HW := Lib.hid (tr0 HM9.out W.2)
                  go_wp2_with fail
                  go_ret
                  exact ⟨rfl, HW.out⟩
                | some oD =>
                  rw [hgx] at hgq
                  dsimp only [Option.isSome, Option.getD] at hgq
                  have hkb : kidB L p x = (decide (oD.kind = x.kind) && decide (usesO oD ≤ x.quota)) := by unfold kidB; rw [← hpx, hgx]; simp [hl6]
                  have hko := (HX.out.2.2.2.2.1 _ (getT_mem hgx)).2
                  have HG := Lib.hid (And.intro hgq (And.intro hkb hko)); clear hgq hgx hl6 hpx hkb hko
                  go_wp2_with fail
                  refine HG.out.1.mono ?_
                  rintro e w8 ⟨oC, A1x, c1x, A2x, c2x, A4x, c4x, A5x, c5x, A7x, c7x, A9x, c9x, rfl, rfl, hcp⟩
                  have HC8 := Lib.hid hcp; clear hcp
                  go_wp2_with (refine wpList_box2 rfl rfl 39 _ _ rfl rfl [.int .i64 0, .slice none 0 0, .slice none 0 0, .int .i64 0, .slice none 0 0, .slice none 0 0, .int .i64 0, .slice none 0 0, .int .i64 0, .slice none 0 0] Tryz.infoOb3 rfl _ rfl (obC_one _ _ _ _ _ _ _ _ _ _ _ _ _) (fun _ => rfl) (fun _ => rfl) ?_)
                  intro g8 w9 hg9 hb9 hm9
                  have hob := Rd.mod (HC8.out.reads (by have := HG.out.2.2.kids.len; omega)) (hm9 fun _ => False) (fun _ _ => id)
                  have hus := fun W : ModW w9 => uses_m _ oC _ W.1 (Rd.mod hob W.2 (fun _ _ => id)) HG.out.2.2.kids
                  have hm79 := tr0 HC8.out.mod (hm9 fun _ => False)
                  have hbk := (hm79.block g2 (lt_of_blk Hb7.out) id).trans Hb7.out
                  have k1 := fun W : ModW w9 => ModW.cell (show w9.cell? ⟨g2, 1, none⟩ = some (.int .i64 x.kind) by rw [cell_of_blk hbk]; rfl) W
                  have k2 := fun W : ModW w9 => ModW.cell (show w9.cell? ⟨g2, 2, none⟩ = some (.int .i64 x.quota) by rw [cell_of_blk hbk]; rfl) W
                  have y0 : w9.cell? ⟨g8, 0, none⟩ = some (.int .i64 oC.kind) := by rw [cell_of_blk hb9]; rfl
                  have y1 : w9.cell? ⟨g8, 1, none⟩ = some (.slice A1x oC.label.length c1x) := by rw [cell_of_blk hb9]; rfl
                  have y2 : w9.cell? ⟨g8, 2, none⟩ = some (.slice A2x oC.kids.length c2x) := by rw [cell_of_blk hb9]; rfl
                  have y3 : w9.cell? ⟨g8, 3, none⟩ = some (.int .i64 oC.next) := by rw [cell_of_blk hb9]; rfl
                  have y4 : w9.cell? ⟨g8, 4, none⟩ = some (.slice A4x oC.bytes.length c4x) := by rw [cell_of_blk hb9]; rfl
                  have y5 : w9.cell? ⟨g8, 5, none⟩ = some (.slice A5x oC.own.length c5x) := by rw [cell_of_blk hb9]; rfl
                  have y6 : w9.cell? ⟨g8, 6, none⟩ = some (.int .i64 oC.cats) := by rw [cell_of_blk hb9]; rfl
                  have y7 : w9.cell? ⟨g8, 7, none⟩ = some (.slice A7x oC.entry.length c7x) := by rw [cell_of_blk hb9]; rfl
                  have y8 : w9.cell? ⟨g8, 8, none⟩ = some (.int .i64 oC.ring) := by rw [cell_of_blk hb9]; rfl
                  have y9 : w9.cell? ⟨g8, 9, none⟩ = some (.slice A9x oC.maps.length c9x) := by rw [cell_of_blk hb9]; rfl
                  have c0 := fun W : ModW w9 => ModW.cell y0 W
                  have c1 := fun W : ModW w9 => ModW.cell y1 W
                  have c2 := fun W : ModW w9 => ModW.cell y2 W
                  have c3 := fun W : ModW w9 => ModW.cell y3 W
                  have c4 := fun W : ModW w9 => ModW.cell y4 W
                  have c5 := fun W : ModW w9 => ModW.cell y5 W
                  have c6 := fun W : ModW w9 => ModW.cell y6 W
                  have c7 := fun W : ModW w9 => ModW.cell y7 W
                  have c8 := fun W : ModW w9 => ModW.cell y8 W
                  have c9 := fun W : ModW w9 => ModW.cell y9 W
                  have HM9 := Lib.hid (And.intro (tr0 H7.out.2.1 hm79) (And.intro hus hm79)); clear hm9 hb9 hg9 hob hus hm79 hbk y0 y1 y2 y3 y4 y5 y6 y7 y8 y9
                  by_cases hk : oC.kind = x.kind
                  case neg =>
                    have d2 : (oC.kind != x.kind) = true := by simpa using hk
                    have hzf : z = false := HK.out.2.2.2.2.2.1 (by rw [HG.out.2.1, decide_eq_false hk]; rfl)
                    subst hzf
                    clear hk
                    go_wp2_with fail
                    refine wp_region_mod (by kernel_rfl) (by kernel_rfl) ?_
                    refine wpQuiet_hide (fun R hR => ?_)
                    iterate 20 (first
                      | ((first | refine wpQuiet_none hR rfl (fun K hK => ?_) | refine wpQuiet_take hR (by rfl) (fun K hK => ?_)); clear hR R; go_simp; (refine hK _ (fun R hR => ?_); clear hK K))
                      | (refine wpQuiet_skip hR (by rfl) (fun K hK => ?_); clear hR R; go_simp; refine hK _ (fun R hR => ?_); clear hK K))
                    refine wpQuiet_end hR ?_
                    clear hR R
                    rintro _ ⟨W, rfl⟩
                    have HW := Lib.hid (tr0 hmr.out (tr0 HM9.out.1 W.2))
                    go_wp2_with fail
                    go_ret
                    exact ⟨rfl, HW.out⟩
                  case pos =>
                    have d2 : (oC.kind != x.kind) = false := by simpa using hk
                    have HKK := Lib.hid hk; clear hk
                    by_cases hq : usesO oC ≤ x.quota
                    case neg =>
                      have d3 : decide (x.quota < usesO oC) = true := decide_eq_true (by omega)
                      have hzf : z = false := HK.out.2.2.2.2.2.1 (by rw [HG.out.2.1, decide_eq_false hq, Bool.and_false])
                      subst hzf
                      clear hq
                      go_wp2_with fail
                      refine wp_region_mod (by kernel_rfl) (by kernel_rfl) ?_
                      refine wpQuiet_hide (fun R hR => ?_)
                      iterate 20 (first
                        | ((first | refine wpQuiet_none hR rfl (fun K hK => ?_) | refine wpQuiet_take hR (by rfl) (fun K hK => ?_)); clear hR R; go_simp; first | (refine hK _ (fun R hR => ?_); clear hK K) | (apply Exists.intro; refine ⟨fun _ => ?_, hK _ (fun R hR => ?_)⟩; (first | (go_at_call 13; exact quiet_mod (HM9.out.2.1 _))); clear hK K))
                        | (refine wpQuiet_skip hR (by rfl) (fun K hK => ?_); clear hR R; go_simp; refine hK _ (fun R hR => ?_); clear hK K))
                      refine wpQuiet_end hR ?_
                      clear hR R
                      rintro _ ⟨W, rfl⟩
                      have HW := Lib.hid (tr0 hmr.out (tr0 HM9.out.1 W.2))
                      go_wp2_with fail
                      go_ret
                      exact ⟨rfl, HW.out⟩
                    case pos =>
                      have d3 : decide (x.quota < usesO oC) = false := decide_eq_false (by omega)
                      have HKQ := Lib.hid (show kidB L p x = true by rw [HG.out.2.1, decide_eq_true HKK.out, decide_eq_true hq]; rfl)
                      clear hq
                      go_wp2_with fail
                      refine wp_region_mod (by kernel_rfl) (by kernel_rfl) ?_
                      refine wpQuiet_hide (fun R hR => ?_)
                      iterate 20 (first
                        | ((first | refine wpQuiet_none hR rfl (fun K hK => ?_) | refine wpQuiet_take hR (by rfl) (fun K hK => ?_)); clear hR R; go_simp; first | (refine hK _ (fun R hR => ?_); clear hK K) | (apply Exists.intro; refine ⟨fun _ => ?_, hK _ (fun R hR => ?_)⟩; (first | (go_at_call 13; exact quiet_mod (HM9.out.2.1 _))); clear hK K))
                        | (refine wpQuiet_skip hR (by rfl) (fun K hK => ?_); clear hR R; go_simp; refine hK _ (fun R hR => ?_); clear hK K))
                      refine wpQuiet_end hR ?_
                      clear hR R
                      rintro _ ⟨W, rfl⟩
                      have HW := Lib.hid (tr0 (tr0 (tr0 HM6.out.2.2 H7.out.2.2) HM9.out.2.2) W.2)
                      go_wp2_with fail
                      go_roundg (oB.kids.length - (j + 1))
                      case measure => omega
                      case rel => exact ⟨j + 1, t + j + 1, by go_num, by go_num, by omega, by omega, Lib.hid ⟨fun y k hy hk => by
                        by_cases he : y = j
                        · subst he
                          rw [HK.out.2.1] at hk; cases hk
                          exact HKQ.out
                        · exact HI.out.1 y k (by omega) hk, tr0 HI.out.2 HW.out⟩⟩
            · obtain rfl : j = oB.kids.length := by omega
              have hbr := (HI.out.2.block g5 (lt_of_blk HB5.out.2.1) id).trans HB5.out.2.1
              have hkr : ∀ k ∈ oB.kids, kidB L p k = true := fun k hk => by
                obtain ⟨y, hy⟩ := List.getElem?_of_mem hk
                exact HI.out.1 y k (List.getElem?_eq_some_iff.1 hy).1 hy
              have hrk : ∀ k ∈ oB.kids, rightP (p ++ [k.n]) = true := fun k hk => by
                rw [kid_right HY.out.2.2.2.1.1 HY.out.2.2.2.1.2 hk]
                exact decide_eq_true (kidB_iff.1 (hkr k hk)).1
              have hfit := HX.out.2.2.2.1 wr hm0r.out Aq p.length cq p _ _ _ oB (Rd.mod HY.out.2.1 hm3r.out (fun _ _ => id)) (Rd.mod HB5.out.1 HI.out.2 (fun _ _ => id)) hrk (by have := HPR.out; omega)
              obtain ⟨bf, hbf⟩ : ∃ b, b = fitsT L p oB := ⟨_, rfl⟩
              rw [← hbf] at hfit
              have y0 : wr.cell? ⟨g5, 0, none⟩ = some (.int .i64 oB.kind) := by rw [cell_of_blk hbr]; rfl
              have y1 : wr.cell? ⟨g5, 1, none⟩ = some (.slice A1' oB.label.length c1') := by rw [cell_of_blk hbr]; rfl
              have y2 : wr.cell? ⟨g5, 2, none⟩ = some (.slice A2' oB.kids.length c2') := by rw [cell_of_blk hbr]; rfl
              have y3 : wr.cell? ⟨g5, 3, none⟩ = some (.int .i64 oB.next) := by rw [cell_of_blk hbr]; rfl
              have y4 : wr.cell? ⟨g5, 4, none⟩ = some (.slice A4' oB.bytes.length c4') := by rw [cell_of_blk hbr]; rfl
              have y5 : wr.cell? ⟨g5, 5, none⟩ = some (.slice A5' oB.own.length c5') := by rw [cell_of_blk hbr]; rfl
              have y6 : wr.cell? ⟨g5, 6, none⟩ = some (.int .i64 oB.cats) := by rw [cell_of_blk hbr]; rfl
              have y7 : wr.cell? ⟨g5, 7, none⟩ = some (.slice A7' oB.entry.length c7') := by rw [cell_of_blk hbr]; rfl
              have y8 : wr.cell? ⟨g5, 8, none⟩ = some (.int .i64 oB.ring) := by rw [cell_of_blk hbr]; rfl
              have y9 : wr.cell? ⟨g5, 9, none⟩ = some (.slice A9' oB.maps.length c9') := by rw [cell_of_blk hbr]; rfl
              have HF := Lib.hid (And.intro hfit (And.intro hbf (List.all_eq_true.2 hkr))); clear hfit hbf hkr hrk hbr
              have HQo := Lib.hid hi
              cases bf with
              | false =>
                have hzf : z = false := wholeC_fit HX.out.1 (List.mem_of_getElem? HY.out.2.2.1) HF.out.2.1.symm
                subst hzf
                go_wp2_with fail
                refine HF.out.1.mono ?_
                rintro e w6 ⟨rfl, hm6⟩
                have H6 := Lib.hid (tr0 hm0r.out hm6); clear hm6
                go_wp2_with fail
                go_ret
                exact ⟨rfl, H6.out⟩
              | true =>
                go_wp2_with fail
                refine HF.out.1.mono ?_
                rintro e w6 ⟨rfl, hm6⟩
                have H6 := Lib.hid (tr0 hm3r.out hm6); clear hm6
                go_wp2_with fail
                have hte := HQ.out.1
                have htk := toldT_take HY.out.2.2.1
                dsimp only at htk
                have hte2 : toldT (L.take (i + 1)) ≤ 16 * (i + 1) := Nat.le_trans (toldT_le (L := L.take (i + 1)) (fun x hx => (HX.out.2.2.2.2.1 x (List.mem_of_mem_take hx)).2.kids.len)) (by simp; omega)
                go_roundg (ps.length - (i + 1))
                case measure => omega
                case rel => exact ⟨i + 1, t + oB.kids.length, by go_num, by go_num, by omega, by omega, Lib.hid ⟨by omega, fun y x hy hx => by
                  by_cases he : y = i
                  · subst he
                    rw [HY.out.2.2.1] at hx; cases hx
                    exact ⟨HF.out.2.2, HF.out.2.1.symm⟩
                  · exact HQ.out.2.1 y x (by omega) hx, tr0 HQ.out.2.2 H6.out⟩⟩
        · obtain rfl : i = ps.length := by omega
          have hbr := (hm2r.out.block g1 (lt_of_blk HM.out.2.1) id).trans HM.out.2.1
          have hma := HX.out.2.2.2.2.2.2.1.move (hmr.out.block mb HX.out.2.2.2.2.2.2.1.lt id)
          have y0 : wr.cell? ⟨g, 0, none⟩ = some (.map (some mb)) := (hmr.out.cell (cell_lt hc0) id).trans hc0
          have hall : L.all (fun x => x.2.kids.all (kidB L x.1) && fitsT L x.1 x.2) = true := by
            rw [List.all_eq_true]
            intro x hx
            obtain ⟨y, hy⟩ := List.getElem?_of_mem hx
            have := HQ.out.2.1 y x (by rw [HP.out.2.1]; exact (List.getElem?_eq_some_iff.1 hy).1) hy
            rw [this.1, this.2]; rfl
          have htd : t = 1 + toldT L := by rw [HQ.out.1, HP.out.2.1, List.take_length]
          have hvl := HX.out.2.2.2.2.2.2.2.1
          by_cases hn : t = vs.length
          case neg =>
            have hzf : z = false := by rw [HX.out.1, hall, decide_eq_false (by omega : ¬ 1 + toldT L = L.length)]; simp
            subst hzf
            have e1 : ((t : Int) == (vs.length : Int)) = false := by simpa using (by omega : ¬ (t : Int) = (vs.length : Int))
            have e2 : decide ((t : Int) = (vs.length : Int)) = false := decide_eq_false (by omega)
            have HMP := Lib.hid hma; clear hma hn htd hvl hall hbr
            go_wp2_with (refine wpList_len_str rfl _ 63 rfl Tryz.underlying63 rfl HMP.out ?_)
            go_ret
            exact ⟨rfl, hmr.out⟩
          case pos =>
            have hzf : z = decide (usesO o1 ≤ 1048576) := by rw [HX.out.1, hall, decide_eq_true (by omega : 1 + toldT L = L.length), decide_eq_true H2.out]; simp
            have e1 : ((t : Int) == (vs.length : Int)) = true := by simpa using (by omega : (t : Int) = (vs.length : Int))
            have e2 : decide ((t : Int) = (vs.length : Int)) = true := decide_eq_true (by omega)
            have hob := Rd.mod (HC.out.reads (by have := HX.out.2.2.2.2.2.2.2.2.2.2.1.kids.len; omega)) (tr0 HM.out.2.2 hm2r.out) (fun _ _ => id)
            have hus := uses_m _ o1 _ wr hob HX.out.2.2.2.2.2.2.2.2.2.2.1.kids
            have x0 : wr.cell? ⟨g1, 0, none⟩ = some (.int .i64 o1.kind) := by rw [cell_of_blk hbr]; rfl
            have x1 : wr.cell? ⟨g1, 1, none⟩ = some (.slice A1 o1.label.length c1) := by rw [cell_of_blk hbr]; rfl
            have x2 : wr.cell? ⟨g1, 2, none⟩ = some (.slice A2 o1.kids.length c2) := by rw [cell_of_blk hbr]; rfl
            have x3 : wr.cell? ⟨g1, 3, none⟩ = some (.int .i64 o1.next) := by rw [cell_of_blk hbr]; rfl
            have x4 : wr.cell? ⟨g1, 4, none⟩ = some (.slice A4 o1.bytes.length c4) := by rw [cell_of_blk hbr]; rfl
            have x5 : wr.cell? ⟨g1, 5, none⟩ = some (.slice A5 o1.own.length c5) := by rw [cell_of_blk hbr]; rfl
            have x6 : wr.cell? ⟨g1, 6, none⟩ = some (.int .i64 o1.cats) := by rw [cell_of_blk hbr]; rfl
            have x7 : wr.cell? ⟨g1, 7, none⟩ = some (.slice A7 o1.entry.length c7) := by rw [cell_of_blk hbr]; rfl
            have x8 : wr.cell? ⟨g1, 8, none⟩ = some (.int .i64 o1.ring) := by rw [cell_of_blk hbr]; rfl
            have x9 : wr.cell? ⟨g1, 9, none⟩ = some (.slice A9 o1.maps.length c9) := by rw [cell_of_blk hbr]; rfl
            have HMP := Lib.hid (And.intro hma hus); clear hma hn htd hvl hall hbr hob hus
            subst hzf
            go_wp2_with (first
              | refine wpList_len_str rfl _ 63 rfl Tryz.underlying63 rfl HMP.out.1 ?_
              | (go_at_call 13; refine HMP.out.2.mono ?_; rintro e w7 ⟨rfl, hm7⟩; have H7 := Lib.hid hm7; clear hm7))
            go_ret
            exact ⟨rfl, tr0 hmr.out H7.out⟩
end Go.Proofs.YtefedalnafjcfaaGreatDoor

namespace Go.Proofs.YtefedalnafjcfaaGreatDoor
open Go.RowKit Go.Shelf
set_option linter.unusedVariables false
def freeT (L : Tab) (p : List Int) : Int := match getT L p with
  | none => -1
  | some o => quotaT L p - usesO o
set_option maxRecDepth 100000 in
set_option maxHeartbeats 2000000 in
theorem free_any (S : Nat → Prop) (g mb : Nat) (L : Tab) (A : Option Addr) (m c : Nat) (p : List Int) (ok : Nat → Prop) (w : World) (hT : TabAt w S g mb L) (hv : ValidT L) (h : intsR.rel w ok [.slice A m c] p) (hp : p.length ≤ 1000000) (E : Env w) (hq : ∀ o, getT L p = some o → -4611686018427387904 ≤ quotaT L p - usesO o ∧ quotaT L p - usesO o ≤ 4611686018427387903) :
    Calls Tryz.prog 8 #[.pointer (some ⟨g, 0, none⟩), .slice A m c] w fun e w' => e = .returned (.int .i64 (freeT L p)) ∧ Mod (fun _ => False) w w' := by
  have hget := getTab_any S g mb L A m c p ok w hT h (by omega) E
  have hquo := fun W (hW : Mod (fun _ => False) w W) => quotaTab_any _ g mb L A m c p _ W (hT.bound.move hW (fun _ _ => id) id id) hv (Rd.mod (Rd.bound h) hW (fun _ _ => id)) hp (E.mod0 hW)
  unfold freeT
  cases hg : getT L p with
  | none =>
    rw [hg] at hget
    dsimp only [Option.isSome, Option.getD] at hget
    have HG := Lib.hid hget; clear hget hg hT h hv hquo hq E
    go_enter Tryz.func8, Tryz.ntmps8
    go_wp2_with fail
    refine HG.out.mono ?_
    rintro e w1 ⟨o1, A1, c1, A2, c2, A4, c4, A5, c5, A7, c7, A9, c9, rfl, rfl, hcp⟩
    have HC := Lib.hid hcp.mod; clear hcp
    go_wp2_with (refine wpList_box2 rfl rfl 39 _ _ rfl rfl [.int .i64 0, .slice none 0 0, .slice none 0 0, .int .i64 0, .slice none 0 0, .slice none 0 0, .int .i64 0, .slice none 0 0, .int .i64 0, .slice none 0 0] Tryz.infoOb3 rfl _ rfl (obC_one _ _ _ _ _ _ _ _ _ _ _ _ _) (fun _ => rfl) (fun _ => rfl) ?_)
    intro g1 w2 hg1 hb1 hm1
    have HM := Lib.hid (tr0 HC.out (hm1 fun _ => False)); clear hg1 hb1 hm1
    go_wp2_with fail
    go_ret
    exact ⟨rfl, HM.out⟩
  | some o =>
    rw [hg] at hget
    dsimp only [Option.isSome, Option.getD] at hget
    have hro := (hv.right _ _ hg).kids
    have hqq := hq o hg
    obtain ⟨qq, hqe⟩ : ∃ x, x = quotaT L p := ⟨_, rfl⟩
    rw [← hqe] at hquo hqq
    rw [← hqe]
    clear hqe
    obtain ⟨uu, huu⟩ : ∃ x, x = usesO o := ⟨_, rfl⟩
    rw [← huu] at hqq
    dsimp only
    rw [← huu]
    have HG := Lib.hid (And.intro hget (And.intro hquo (And.intro hro (And.intro hqq huu)))); clear hget hg hT h hv hquo hq E hro hqq huu
    go_enter Tryz.func8, Tryz.ntmps8
    go_wp2_with fail
    refine HG.out.1.mono ?_
    rintro e w1 ⟨o1, A1, c1, A2, c2, A4, c4, A5, c5, A7, c7, A9, c9, rfl, rfl, hcp⟩
    have HC := Lib.hid hcp; clear hcp
    go_wp2_with (refine wpList_box2 rfl rfl 39 _ _ rfl rfl [.int .i64 0, .slice none 0 0, .slice none 0 0, .int .i64 0, .slice none 0 0, .slice none 0 0, .int .i64 0, .slice none 0 0, .int .i64 0, .slice none 0 0] Tryz.infoOb3 rfl _ rfl (obC_one _ _ _ _ _ _ _ _ _ _ _ _ _) (fun _ => rfl) (fun _ => rfl) ?_)
    intro g1 w2 hg1 hb1 hm1
    have hob := Rd.mod (HC.out.reads (by have := HG.out.2.2.1.len; omega)) (hm1 fun _ => False) (fun _ _ => id)
    have hus := fun W : ModW w2 => uses_m _ o1 _ W.1 (Rd.mod hob W.2 (fun _ _ => id)) HG.out.2.2.1
    have hm02 := tr0 HC.out.mod (hm1 fun _ => False)
    have hqu := fun W : ModW w2 => HG.out.2.1 W.1 (tr0 hm02 W.2)
    have y0 : w2.cell? ⟨g1, 0, none⟩ = some (.int .i64 o1.kind) := by rw [cell_of_blk hb1]; rfl
    have y1 : w2.cell? ⟨g1, 1, none⟩ = some (.slice A1 o1.label.length c1) := by rw [cell_of_blk hb1]; rfl
    have y2 : w2.cell? ⟨g1, 2, none⟩ = some (.slice A2 o1.kids.length c2) := by rw [cell_of_blk hb1]; rfl
    have y3 : w2.cell? ⟨g1, 3, none⟩ = some (.int .i64 o1.next) := by rw [cell_of_blk hb1]; rfl
    have y4 : w2.cell? ⟨g1, 4, none⟩ = some (.slice A4 o1.bytes.length c4) := by rw [cell_of_blk hb1]; rfl
    have y5 : w2.cell? ⟨g1, 5, none⟩ = some (.slice A5 o1.own.length c5) := by rw [cell_of_blk hb1]; rfl
    have y6 : w2.cell? ⟨g1, 6, none⟩ = some (.int .i64 o1.cats) := by rw [cell_of_blk hb1]; rfl
    have y7 : w2.cell? ⟨g1, 7, none⟩ = some (.slice A7 o1.entry.length c7) := by rw [cell_of_blk hb1]; rfl
    have y8 : w2.cell? ⟨g1, 8, none⟩ = some (.int .i64 o1.ring) := by rw [cell_of_blk hb1]; rfl
    have y9 : w2.cell? ⟨g1, 9, none⟩ = some (.slice A9 o1.maps.length c9) := by rw [cell_of_blk hb1]; rfl
    have b0 := fun W : ModW w2 => ModW.cell y0 W
    have b1 := fun W : ModW w2 => ModW.cell y1 W
    have b2 := fun W : ModW w2 => ModW.cell y2 W
    have b3 := fun W : ModW w2 => ModW.cell y3 W
    have b4 := fun W : ModW w2 => ModW.cell y4 W
    have b5 := fun W : ModW w2 => ModW.cell y5 W
    have b6 := fun W : ModW w2 => ModW.cell y6 W
    have b7 := fun W : ModW w2 => ModW.cell y7 W
    have b8 := fun W : ModW w2 => ModW.cell y8 W
    have b9 := fun W : ModW w2 => ModW.cell y9 W
    rw [← HG.out.2.2.2.2] at hus
    have hwr : IntKind.i64.wrap (qq - uu) = qq - uu := by have := HG.out.2.2.2.1; rw [IntKind.wrap_i64]; omega
    have HM := Lib.hid (And.intro hm02 (And.intro hus hqu)); clear hm02 hus hqu hob hg1 hb1 hm1 y0 y1 y2 y3 y4 y5 y6 y7 y8 y9
    go_wp2_with fail
    refine wp_region_mod (by kernel_rfl) (by kernel_rfl) ?_
    refine wpQuiet_hide (fun R hR => ?_)
    iterate 7 (first
      | ((first | refine wpQuiet_none hR rfl (fun K hK => ?_) | refine wpQuiet_take hR (by rfl) (fun K hK => ?_)); clear hR R; go_simp; first | (refine hK _ (fun R hR => ?_); clear hK K) | (apply Exists.intro; refine ⟨fun _ => ?_, hK _ (fun R hR => ?_)⟩; (first | (go_at_call 10; exact quiet_mod (HM.out.2.2 _)) | (go_at_call 13; exact quiet_mod (HM.out.2.1 _))); clear hK K))
      | (refine wpQuiet_skip hR (by rfl) (fun K hK => ?_); clear hR R; go_simp; refine hK _ (fun R hR => ?_); clear hK K))
    refine wpQuiet_end hR ?_
    clear hR R
    rintro _ ⟨W, rfl⟩
    have HW := Lib.hid (tr0 HM.out.1 W.2)
    go_wp2_with fail
    go_ret
    exact ⟨rfl, HW.out⟩
end Go.Proofs.YtefedalnafjcfaaGreatDoor

