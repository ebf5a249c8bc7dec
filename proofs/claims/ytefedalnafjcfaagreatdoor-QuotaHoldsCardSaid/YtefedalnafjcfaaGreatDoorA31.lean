/- Part of this claim's proof (texts Qta8, Qta9, QtaW, Env, joined by program). -/
import Derived.Test.YtefedalnafjcfaaGreatDoorA29
import Derived.Test.YtefedalnafjcfaaGreatDoorA30
import Derived.LaidMore
import Derived.LaidLaws
import Derived.LaidHandle
import Derived.Lib.LaidTab
import Derived.Lib.LaidU8
import Derived.Stop.Joined
import Derived.Test.YtefedalnafjcfaaGreatDoorRows
import Derived.Test.YtefedalnafjcfaaGreatDoorA01
namespace Go.Proofs.YtefedalnafjcfaaGreatDoor
open Go.RowKit Go.Shelf
set_option linter.unusedVariables false
theorem FS.add {w W : World} {g mb : Nat} {L : Tab} (h : FS w W g mb L) (hv : ValidT L) {A : Option Addr} {m c : Nat} {p : List Int} {ok : Nat → Prop} (hr : intsR.rel W ok [.slice A m c] p) (hp : p.length ≤ 1000000) {cs : List Value} {o : Ob} (ho : ObR.rel W (fun _ => False) cs o) (q : Int) (hq : Rd.inR .i64 q) :
    Calls Tryz.prog 16 #[.pointer (some ⟨g, 0, none⟩), .slice A m c, .agg cs.toArray, .int .i64 q] W fun e W' => e = .returned (.tuple #[.int .i64 (addN L p o q), .int .i64 (addE L p o q)]) ∧ FS w W' g mb (addT L p o q) ∧ Mod (fun k => k = mb) W W' :=
  (add_any _ g mb L A m c p ok _ cs o q W h.t hv hr ho (fun _ h => h.elim) hp hq h.e).mono fun e W' ⟨h1, h2, h3⟩ => ⟨h1, h.step h2 h3, h3⟩
theorem ObR_seg (w : World) (ok : Nat → Prop) : ObR.rel w ok [.int .i64 2, .slice none 0 0, .slice none 0 0, .int .i64 0, .slice none 0 0, .slice none 0 0, .int .i64 0, .slice none 0 0, .int .i64 0, .slice none 0 0] segO := by
  have z : ∀ {α : Type} (R : Rd α) (B : Nat), (Rd.slice B R).rel w ok [.slice none 0 0] ([] : List α) := fun R B => ⟨none, 0, rfl, Nat.le_refl _, by decide, by simp, fun _ => rfl, .inl rfl⟩
  have i0 : (Rd.int .i64).rel w ok [.int .i64 0] (0 : Int) := ⟨rfl, by unfold Rd.inR; decide⟩
  have i2 : (Rd.int .i64).rel w ok [.int .i64 2] (2 : Int) := ⟨rfl, by unfold Rd.inR; decide⟩
  exact ObR_iff.2 ⟨_, _, _, _, _, _, _, _, _, _, rfl, i2, z _ _, z _ _, i0, z _ _, z _ _, i0, z _ _, i0, z _ _⟩
set_option maxRecDepth 100000 in
set_option maxHeartbeats 8000000 in
theorem first10_any (w : World) (E : Env w) : Calls Tryz.prog 5 #[] w fun e w' => e = .returned (.bool true) ∧ Mod (fun _ => False) w w' := by
  have HE := Lib.hid E; clear E
  have hi0 : ∀ n : Int, -9223372036854775808 ≤ n ∧ n ≤ 9223372036854775807 → Rd.inR .i64 n := fun n h => inR_mk h
  have HI := Lib.hid hi0; clear hi0
  go_enter Tryz.func5, Tryz.ntmps5
  go_wp2_with fail
  refine (newTab_any w).mono ?_
  rintro e w1 ⟨g, mb, rfl, hg, hmb, hT, hm⟩
  have F1 : FS w w1 g mb newT := ⟨hT.wide, HE.out.mod0 hm, hm, hmb, hg⟩
  have H1 := Lib.hid F1; clear F1 hT hm hg hmb
  go_wp2_with fail
  have hf1 := H1.out.free valid_new (ints_nil w1 (fun _ => False)) (by simp)
  rw [show freeT newT [] = 1048560 by decide] at hf1
  refine hf1.mono ?_
  rintro e w2 ⟨rfl, hm2⟩
  have H2 := Lib.hid (H1.out.quiet hm2); clear hm2 hf1
  go_wp2_with fail
  have ha := H2.out.add valid_new (ints_nil w2 (fun _ => False)) (by simp) (ObR_seg w2 _) 30 (HI.out 30 (by omega))
  rw [add_first.2] at ha
  refine ha.mono ?_
  rintro e w3 ⟨rfl, hF, -⟩
  have H3 := Lib.hid hF; clear hF ha
  go_wp2_with fail
  have ha := H3.out.add valid_one (ints_nil w3 (fun _ => False)) (by simp) (ObR_seg w3 _) 30 (HI.out 30 (by omega))
  rw [add_second.2] at ha
  refine ha.mono ?_
  rintro e w4 ⟨rfl, hF, -⟩
  have H4 := Lib.hid hF; clear hF ha
  go_wp2_with fail
  have i0 := HI.out 0 (by omega)
  have i1 := HI.out 1 (by omega)
  have hmv := (H4.out.quiet ((Mod.refl (fun _ => False) w4).alloc (.cells #[.int .i64 0] 3))).move valid_two (ints_one w4 3 0 i0) (by simp) 5 (HI.out 5 (by omega))
  rw [move_first, move_firstT] at hmv
  refine hmv.mono ?_
  rintro e w5 ⟨rfl, hF, -⟩
  have H5 := Lib.hid hF; clear hF hmv
  go_wp2_with fail
  have hf := (H5.out.quiet ((Mod.refl (fun _ => False) w5).alloc (.cells #[.int .i64 0] 3))).free valid_three (ints_one w5 3 0 i0) (by simp)
  rw [show freeT (qTwo 35 30) [0] = 19 by decide] at hf
  refine hf.mono ?_
  rintro e w6 ⟨rfl, hm6⟩
  have H6 := Lib.hid (H5.out.quiet (((Mod.refl (fun _ => False) w5).alloc (.cells #[.int .i64 0] 3)).trans hm6 (fun _ h => h.elim))); clear hf hm6
  go_wp2_with fail
  have hsz : (w6.alloc (.cells #[.int .i64 0] 3)).heap.size = w6.heap.size + 1 := by simp
  have hr1 := ints_one w6 3 0 i0
  have hr2 := ints_one (w6.alloc (.cells #[.int .i64 0] 3)) 3 1 i1
  rw [hsz] at hr2
  have hr1 := Rd.mono (Rd.mod hr1 ((Mod.refl (fun _ => False) _).alloc (.cells #[.int .i64 1] 3)) (fun _ _ => id)) (ok1 := fun _ => True) (fun _ _ => trivial)
  have hr2 := Rd.mono hr2 (ok1 := fun _ => True) (fun _ _ => trivial)
  have hsh := (H6.out.quiet (((Mod.refl (fun _ => False) w6).alloc (.cells #[.int .i64 0] 3)).alloc (.cells #[.int .i64 1] 3))).shift valid_three hr1 hr2 (by simp) (by simp) 19 (HI.out 19 (by omega))
  rw [shift_first, shift_firstT] at hsh
  refine hsh.mono ?_
  rintro e w7 ⟨rfl, hF, -⟩
  have H7 := Lib.hid hF; clear hF hsh hr1 hr2 hsz
  go_wp2_with fail
  have hf := (H7.out.quiet ((Mod.refl (fun _ => False) w7).alloc (.cells #[.int .i64 1] 3))).free valid_four (ints_one w7 3 1 i1) (by simp)
  rw [show freeT (qTwo 16 49) [1] = 33 by decide] at hf
  refine hf.mono ?_
  rintro e w8 ⟨rfl, hm8⟩
  have H8 := Lib.hid (H7.out.quiet (((Mod.refl (fun _ => False) w7).alloc (.cells #[.int .i64 1] 3)).trans hm8 (fun _ h => h.elim))); clear hf hm8
  go_wp2_with fail
  have hsz : (w8.alloc (.cells #[.int .i64 0] 3)).heap.size = w8.heap.size + 1 := by simp
  have hr1 := ints_one w8 3 0 i0
  have hr2 := ints_one (w8.alloc (.cells #[.int .i64 0] 3)) 3 1 i1
  rw [hsz] at hr2
  have hr1 := Rd.mono (Rd.mod hr1 ((Mod.refl (fun _ => False) _).alloc (.cells #[.int .i64 1] 3)) (fun _ _ => id)) (ok1 := fun _ => True) (fun _ _ => trivial)
  have hr2 := Rd.mono hr2 (ok1 := fun _ => True) (fun _ _ => trivial)
  have hsh := (H8.out.quiet (((Mod.refl (fun _ => False) w8).alloc (.cells #[.int .i64 0] 3)).alloc (.cells #[.int .i64 1] 3))).shift valid_four hr1 hr2 (by simp) (by simp) 1 i1
  rw [shift_last, shift_lastT] at hsh
  refine hsh.mono ?_
  rintro e w9 ⟨rfl, hF, -⟩
  have H9 := Lib.hid hF; clear hF hsh hr1 hr2 hsz
  go_wp2_with fail
  have hld := H9.out.ledger valid_four
  rw [show ((qTwo 16 49).map (lineOf (qTwo 16 49))).length = 3 from rfl] at hld
  refine hld.mono ?_
  rintro e w10 ⟨Al, cl, rfl, -, hm10⟩
  have H10 := Lib.hid (H9.out.quiet hm10); clear hld hm10
  go_wp2_with fail
  have hdp := H10.out.deep valid_four (ints_nil w10 (fun _ => False))
  rw [deep_first] at hdp
  refine hdp.mono ?_
  rintro e w11 ⟨rfl, hm11⟩
  have H11 := Lib.hid (H10.out.quiet hm11); clear hdp hm11
  go_wp2_with fail
  refine (refnew9_any w11).mono ?_
  rintro e w12 ⟨An, cn, rfl, hrn, hm12⟩
  have F12 := H11.out.quiet hm12
  have hmd := made_new An cn _ w12 hrn F12.e
  have H12 := Lib.hid (And.intro F12.m hmd); clear F12 hmd hrn hm12
  go_wp2_with fail
  refine H12.out.2.mono ?_
  rintro e w13 ⟨⟨g2, rfl⟩, hm13⟩
  have H13 := Lib.hid (tr0 H12.out.1 hm13); clear hm13
  go_wp2_with fail
  go_ret
  exact ⟨rfl, H13.out⟩
end Go.Proofs.YtefedalnafjcfaaGreatDoor

namespace Go.Proofs.YtefedalnafjcfaaGreatDoor
open Go.RowKit Go.Shelf
set_option linter.unusedVariables false
theorem getItems_right : ∀ (f : Nat) (L : Tab) (s : TSt) (M : Tab) (s' : TSt), getItems f L s = (some M, s') → AscT L → (∀ x ∈ L, rightP x.1 = true ∧ RightOb x.2) → AscT M ∧ ∀ x ∈ M, rightP x.1 = true ∧ RightOb x.2
  | 0, L, s, M, s', h, ha, hr => by
    rw [getItems] at h
    cases h
    exact ⟨ha, hr⟩
  | f + 1, L, s, M, s', h, ha, hr => by
    rw [getItems] at h
    have h1 := getP_right s
    have h2 := @getOb_right (getP s).2.2
    obtain ⟨p, hp⟩ : ∃ p, p = getP s := ⟨_, rfl⟩
    rw [← hp] at h h1 h2
    obtain ⟨o, ho⟩ : ∃ o, o = getOb p.2.2 := ⟨_, rfl⟩
    rw [← ho] at h h2
    split at h
    · cases h
    · next hn =>
      have hob : o.2.1 = true := by
        cases hb : o.2.1 with
        | true => rfl
        | false => exact absurd (.inr (.inl hb)) hn
      refine getItems_right f _ _ M s' h ?_ ?_
      · rw [AscT, List.pairwise_append]
        refine ⟨ha, List.pairwise_singleton _ _, fun x hx y hy => ?_⟩
        rw [List.mem_singleton.1 hy]
        cases hl : L.getLast? with
        | none => rw [List.getLast?_eq_none_iff] at hl; rw [hl] at hx; cases hx
        | some z =>
          refine last_lt ha hl ?_ x hx
          have : ¬ 0 ≤ cmpL z.1 p.1 := fun hc => hn (.inr (.inr ⟨z, hl, hc⟩))
          show cmpL z.1 p.1 < 0
          omega
      · intro x hx
        rcases List.mem_append.1 hx with hx | hx
        · exact hr x hx
        · rw [List.mem_singleton.1 hx]
          exact ⟨h1.1, h2 hob⟩
theorem loadT_valid {b : List UInt8} {L : Tab} (h : loadT b = some L) : ValidT L := by
  unfold loadT at h
  cases hg : getItems (numS 65536 (b, 0)).1.toNat [] (numS 65536 (b, 0)).2 with
  | mk m s =>
    rw [hg] at h
    cases m with
    | none => cases h
    | some M =>
      dsimp only at h
      split at h
      · next hc =>
        cases h
        obtain ⟨ha, hr⟩ := getItems_right _ _ _ _ _ hg List.Pairwise.nil (by simp)
        exact (wholeC_iff ha (fun x hx => (hr x hx).1) (fun x hx => (hr x hx).2)).1 hc.2.2
      · cases h
theorem LineR_cells {w : World} {ok : Nat → Prop} {cs : List Value} {x : Line} (h : LineR.rel w ok cs x) : ∃ A c, cs = [.slice A x.path.length c, .int .i64 x.quota, .int .i64 x.uses, .int .i64 x.below] ∧ intsR.rel w ok [.slice A x.path.length c] x.path := by
  obtain ⟨c0, c1, c2, c3, rfl, h0, ⟨rfl, -⟩, ⟨rfl, -⟩, ⟨rfl, -⟩⟩ := LineR_iff.1 h
  obtain ⟨A, c, rfl, -⟩ := id h0
  exact ⟨A, c, rfl, h0⟩
theorem Tryz.info_line2 : (Tryz.prog.info? 50).map (fun i => (i.zero, i.size)) = some (some (.agg #[.slice none 0 0, .int .i64 0, .int .i64 0, .int .i64 0]), 4) := by kernel_rfl
theorem lineC_one (A : Option Addr) (n c : Nat) (a b d : Int) : ∀ u ∈ ([.slice A n c, .int .i64 a, .int .i64 b, .int .i64 d] : List Value), u.oneCell' = true := by
  intro u hu
  simp only [List.mem_cons, List.not_mem_nil, or_false] at hu
  rcases hu with rfl | rfl | rfl | rfl <;> rfl
theorem kidSum_take {o : Ob} {j : Nat} {k : Kid} (h : o.kids[j]? = some k) : ((o.kids.take (j + 1)).map (·.quota)).sum = ((o.kids.take j).map (·.quota)).sum + k.quota := by
  rw [List.take_add_one, h]; simp
set_option maxRecDepth 100000 in
set_option maxHeartbeats 8000000 in
theorem quotaSums_mod (A : Option Addr) (n c : Nat) (bs : List UInt8) (ok : Nat → Prop) (w : World) (h : bytesR.rel w ok [.slice A n c] bs) (E : Env w) :
    Calls Tryz.prog 4 #[.slice A n c] w fun e w' => e = .returned (.bool true) ∧ Mod (fun _ => False) w w' := by
  have hfi := first10_any w E
  have hld := fun W (hW : Mod (fun _ => False) w W) => loadTab_any (.slice A n c) bs _ W (Rd.mod (Rd.bound h) hW (fun _ _ => id)) (E.mod0 hW)
  have HX := Lib.hid (And.intro hfi (And.intro hld E)); clear hfi hld E h
  go_enter Tryz.func4, Tryz.ntmps4
  go_wp2_with fail
  refine HX.out.1.mono ?_
  rintro e w1 ⟨rfl, hm1⟩
  have H1 := Lib.hid hm1; clear hm1
  go_wp2_with fail
  refine (HX.out.2.1 w1 H1.out).mono ?_
  rintro e w2 ⟨hno, hyes, hm2⟩
  have H2 := Lib.hid (tr0 H1.out hm2); clear hm2
  cases hl : loadT bs with
  | none =>
    obtain rfl := hno hl
    clear hyes hno hl
    by_cases hn : 3000 < n
    · go_wp2_with fail
      go_ret
      exact ⟨rfl, H2.out⟩
    · go_wp2_with fail
      go_ret
      exact ⟨rfl, H2.out⟩
  | some L =>
    obtain ⟨g, mb, rfl, -, -, hT⟩ := hyes L hl
    have hv := loadT_valid hl
    clear hyes hno hl
    have hE2 := HX.out.2.2.mod0 H2.out
    have hlg := ledger_any _ g mb L w2 hT hv hE2
    have hll : L.length ≤ 65536 := valid_small hv
    have hgt := fun W (hW : Mod (fun _ => False) w2 W) (A' : Option Addr) (m' c' : Nat) (q : List Int) (ok' : Nat → Prop) (hr : intsR.rel W ok' [.slice A' m' c'] q) (hq : q.length ≤ 1000000) => getTab_any _ g mb L A' m' c' q ok' W (hT.bound.move hW (fun _ _ => id) id id) hr (by omega) (hE2.mod0 hW)
    obtain ⟨M, hM⟩ : ∃ M, M = L.map (lineOf L) := ⟨_, rfl⟩
    have hml : M.length = L.length := by rw [hM, List.length_map]
    have hmb : M.length ≤ 65536 := by omega
    rw [← hM] at hlg
    have HL := Lib.hid (And.intro hlg (And.intro hgt (And.intro hv (And.intro hM hml)))); clear hlg hgt hv hM hml hT hE2 hll
    by_cases hn : 3000 < n
    · go_wp2_with fail
      go_ret
      exact ⟨rfl, H2.out⟩
    go_wp2_with fail
    refine HL.out.1.mono ?_
    rintro e w3 ⟨Al, cl, rfl, hrl, hm3⟩
    have HR := Lib.hid (And.intro (slice_row (Rd.bound hrl)).2.2.2.2.2 hm3); clear hrl hm3
    go_wp2_with fail
    go_loopg [29] M.length (fun f s29 wr => ∃ i : Nat, s29 = .int .i64 i ∧ i + f = M.length ∧ Hid (Mod (fun _ => False) w3 wr))
    case atStart => exact ⟨0, rfl, by omega, Lib.hid (.refl _ _)⟩
    case round =>
      obtain ⟨i, rfl, hi, HI⟩ := hrel
      by_cases hil : i < M.length
      · obtain ⟨ln, hln⟩ : ∃ ln, M[i]? = some ln := ⟨_, List.getElem?_eq_getElem hil⟩
        obtain ⟨x, hx, hxe⟩ : ∃ x, L[i]? = some x ∧ ln = lineOf L x := by
          have h1 := hln
          rw [HL.out.2.2.2.1, List.getElem?_map] at h1
          cases hx : L[i]? with
          | none => rw [hx] at h1; cases h1
          | some x => rw [hx] at h1; cases h1; exact ⟨x, rfl, rfl⟩
        obtain ⟨p, o⟩ := x
        have hv := HL.out.2.2.1
        have hgo : getT L p = some o := getT_of_mem hv.asc (List.mem_of_getElem? hx)
        have hq6 := (rightP_iff.1 (hv.path _ _ hgo)).1
        have hro := hv.right _ _ hgo
        obtain ⟨ad, csx, rfl, hokb, hr, hc⟩ := Rd.RowOf.at_ HR.out.1 hln
        obtain ⟨Ap, cp, rfl, hrp⟩ := LineR_cells hr
        have hcell : ∀ j2 u2, [Value.slice Ap ln.path.length cp, .int .i64 ln.quota, .int .i64 ln.uses, .int .i64 ln.below][j2]? = some u2 → wr.cell? ((ad.add (i * 4)).add j2) = some u2 := fun j2 u2 hj2 => by
          rw [add_add]
          exact cell_step (hc j2 u2 hj2) (fun _ => by rw [add_block]; exact HI.out.block _ hokb.2 id)
        have e1 : ln.path = p := by rw [hxe]; rfl
        have e2 : ln.quota = quotaT L p := by rw [hxe]; rfl
        have e3 : ln.uses = usesO o := by rw [hxe]; rfl
        have e4 : ln.below = belowC L p o := by rw [hxe]; rfl
        have hqu := (uses_le_quota hv hgo).1
        have hbr := below_range hv hgo
        have hbl := below_le hv hgo
        have hks := kidSum_le hro
        have hown := own_part hro
        rw [e1] at hcell hrp
        rw [e2, e3, e4] at hcell
        obtain ⟨qq, hqq⟩ : ∃ y, y = quotaT L p := ⟨_, rfl⟩
        obtain ⟨uu, huu⟩ : ∃ y, y = usesO o := ⟨_, rfl⟩
        obtain ⟨bb, hbb⟩ : ∃ y, y = belowC L p o := ⟨_, rfl⟩
        obtain ⟨ks, hksv⟩ : ∃ y, y = kidSum o := ⟨_, rfl⟩
        have hkz : o.kind ≠ 1 → bb = 0 := by
          intro hk
          have hf := hro.foreign
          simp only [foreignB, Bool.or_eq_false_iff, Bool.and_eq_false_iff, decide_eq_false_iff_not] at hf
          have h0 : o.kids = [] := by
            rcases hf.1.1.1.1.1 with h | h
            · exact absurd hk h
            · exact List.length_eq_zero_iff.1 (by omega)
          rw [hbb]; unfold belowC; rw [h0]; rfl
        rw [← hqq, ← huu] at hqu
        rw [← hbb] at hbr hbl
        rw [← hksv] at hbl hks hown
        rw [← huu] at hown
        rw [← hqq, ← huu, ← hbb] at hcell
        have hm2r := tr0 HR.out.2 HI.out
        have hg3 := HL.out.2.1
        have HK := Lib.hid (And.intro hcell (And.intro (Rd.mod (Rd.mono hrp (fun _ h => h)) HI.out (fun k hk => id)) (And.intro hg3 (And.intro hro (And.intro hqu (And.intro hbr (And.intro hbl (And.intro hown (And.intro hkz (And.intro hksv (And.intro hgo (And.intro hm2r hks)))))))))))); clear hcell hrp hg3 hro hqu hbr hbl hown hkz hksv hgo hm2r hc hr hokb hx hln hv e1 e2 e3 e4 hxe hqq huu hbb hks
        go_wp2_with (refine wpList_copy_var (n := 4) rfl rfl rfl 50 _ _ _ rfl rfl rfl Tryz.underlying50 [.slice none 0 0, .int .i64 0, .int .i64 0, .int .i64 0] Tryz.info_line2 rfl (ad.add (i * 4)) rfl [.slice Ap p.length cp, .int .i64 qq, .int .i64 uu, .int .i64 bb] rfl (lineC_one _ _ _ _ _ _) HK.out.1 (fun _ _ => rfl) (fun _ _ => rfl) ?_)
        intro g6 w4 hg6 hgb6 hm4
        have k0 : w4.cell? ⟨g6, 0, none⟩ = some (.slice Ap p.length cp) := by rw [cell_of_blk hgb6]; rfl
        have hm24 := tr0 HK.out.2.2.2.2.2.2.2.2.2.2.2.1 (hm4 fun _ => False)
        have hgc := HK.out.2.2.1 w4 hm24 Ap p.length cp p _ (Rd.mod HK.out.2.1 (hm4 fun _ => False) (fun _ _ => id)) (by omega)
        rw [HK.out.2.2.2.2.2.2.2.2.2.2.1] at hgc
        dsimp only [Option.isSome, Option.getD] at hgc
        have H4 := Lib.hid (And.intro hgc (And.intro (hm4 fun _ => False) hgb6)); clear hgc hm4 hgb6 hg6 hm24
        go_wp2_with fail
        refine H4.out.1.mono ?_
        rintro e w5 ⟨o2, A1x, c1x, A2x, c2x, A4x, c4x, A5x, c5x, A7x, c7x, A9x, c9x, rfl, rfl, hcp⟩
        have HC5 := Lib.hid hcp; clear hcp
        go_wp2_with (refine wpList_box2 rfl rfl 39 _ _ rfl rfl [.int .i64 0, .slice none 0 0, .slice none 0 0, .int .i64 0, .slice none 0 0, .slice none 0 0, .int .i64 0, .slice none 0 0, .int .i64 0, .slice none 0 0] Tryz.infoOb3 rfl _ rfl (obC_one _ _ _ _ _ _ _ _ _ _ _ _ _) (fun _ => rfl) (fun _ => rfl) ?_)
        intro g7 w6 hg7 hb7 hm6
        have hob := Rd.mod (HC5.out.reads (by have := HK.out.2.2.2.1.kids.len; omega)) (hm6 fun _ => False) (fun _ _ => id)
        have hkr := (slice_row (Rd.bound (ObR_kids hob))).2.2.2.2.2
        have hb6 := ((tr0 HC5.out.mod (hm6 fun _ => False)).block g6 (lt_of_blk H4.out.2.2) id).trans H4.out.2.2
        have x2 : w6.cell? ⟨g7, 2, none⟩ = some (.slice A2x o2.kids.length c2x) := by rw [cell_of_blk hb7]; rfl
        have H6 := Lib.hid (And.intro hkr (And.intro hb6 (And.intro hb7 (tr0 HI.out (tr0 H4.out.2.1 (tr0 HC5.out.mod (hm6 fun _ => False))))))); clear hkr hb6 hb7 hob hm6 hg7 k0
        have hk16 := HK.out.2.2.2.1.kids.len
        go_wp2_with fail
        go_loopg [9, 43] o2.kids.length (fun f s9 s43 wx => ∃ (j : Nat) (t : Int), s43 = .int .i64 j ∧ s9 = .int .i64 t ∧ j + f = o2.kids.length ∧ (0 ≤ t ∧ t ≤ 16 + 1048576 * j) ∧ Hid (t = 16 + ((o2.kids.take j).map (·.quota)).sum ∧ Mod (fun _ => False) w6 wx))
        case atStart => exact ⟨0, 16, rfl, rfl, by omega, by omega, Lib.hid ⟨by simp, .refl _ _⟩⟩
        case round =>
          obtain ⟨j, t, rfl, rfl, hj, ht, HJ⟩ := hrel
          by_cases hjl : j < o2.kids.length
          · obtain ⟨k, hk⟩ : ∃ k, o2.kids[j]? = some k := ⟨_, List.getElem?_eq_getElem hjl⟩
            obtain ⟨adk, csk, rfl, hokk, hrk, hck⟩ := Rd.RowOf.at_ H6.out.1 hk
            obtain rfl := KidR_cells hrk
            have hcell : ∀ j2 u2, [Value.int .i64 k.n, .int .i64 k.kind, .int .i64 k.quota][j2]? = some u2 → wr.cell? ((adk.add (j * 3)).add j2) = some u2 := fun j2 u2 hj2 => by
              rw [add_add]
              exact cell_step (hck j2 u2 hj2) (fun _ => by rw [add_block]; exact HJ.out.2.block _ hokk.2 id)
            have hkq := HK.out.2.2.2.1.kids.each k (List.mem_of_getElem? hk)
            have hst := kidSum_take hk
            have hwr : IntKind.i64.wrap (t + k.quota) = t + k.quota := by rw [IntKind.wrap_i64]; omega
            have HQ := Lib.hid (And.intro hcell (And.intro hst hkq)); clear hcell hst hkq hck hrk hokk hk
            go_wp2_with (refine wpList_copy_var (n := 3) rfl rfl rfl 43 _ _ _ rfl rfl rfl Tryz.underlying43 [.int .i64 0, .int .i64 0, .int .i64 0] Tryz.info_kd2 rfl (adk.add (j * 3)) rfl [.int .i64 k.n, .int .i64 k.kind, .int .i64 k.quota] rfl (kidC_one _ _ _) HQ.out.1 (fun _ _ => rfl) (fun _ _ => rfl) ?_)
            intro gk2 w7 hgk hgbk hm7
            have k2 : w7.cell? ⟨gk2, 2, none⟩ = some (.int .i64 k.quota) := by rw [cell_of_blk hgbk]; rfl
            have H7 := Lib.hid (tr0 HJ.out.2 (hm7 fun _ => False)); clear hm7 hgbk hgk
            go_wp2_with fail
            have hkq := HQ.out.2.2
            go_roundg (o2.kids.length - (j + 1))
            case measure => omega
            case rel => exact ⟨j + 1, t + k.quota, by go_num, rfl, by omega, by omega, Lib.hid ⟨by rw [HQ.out.2.1, HJ.out.1]; omega, H7.out⟩⟩
          · obtain rfl : j = o2.kids.length := by omega
            have hts : t = 16 + ks := by rw [HJ.out.1, List.take_length, HK.out.2.2.2.2.2.2.2.2.2.1]; rfl
            have hb6 := (HJ.out.2.block g6 (lt_of_blk H6.out.2.1) id).trans H6.out.2.1
            have hb7 := (HJ.out.2.block g7 (lt_of_blk H6.out.2.2.1) id).trans H6.out.2.2.1
            have k1 : wr.cell? ⟨g6, 1, none⟩ = some (.int .i64 qq) := by rw [cell_of_blk hb6]; rfl
            have k2 : wr.cell? ⟨g6, 2, none⟩ = some (.int .i64 uu) := by rw [cell_of_blk hb6]; rfl
            have k3 : wr.cell? ⟨g6, 3, none⟩ = some (.int .i64 bb) := by rw [cell_of_blk hb6]; rfl
            have x0 : wr.cell? ⟨g7, 0, none⟩ = some (.int .i64 o2.kind) := by rw [cell_of_blk hb7]; rfl
            have hqu := HK.out.2.2.2.2.1
            have hbr := HK.out.2.2.2.2.2.1
            have hbl := HK.out.2.2.2.2.2.2.1
            have hown := HK.out.2.2.2.2.2.2.2.1
            have hkz := HK.out.2.2.2.2.2.2.2.2.1
            have d1 : decide (qq < uu) = false := decide_eq_false (by omega)
            have HF := Lib.hid (tr0 H6.out.2.2.2 HJ.out.2)
            by_cases hk : o2.kind = 1
            · rw [if_pos hk] at hown
              have d2 : (o2.kind == 1) = true := by simpa using hk
              have d3 : (uu != t) = false := by simp; omega
              have d4 : decide (uu < bb) = false := decide_eq_false (by omega)
              have d5 : (o2.kind != 1) = false := by simpa using hk
              clear hown hkz hqu hbr hbl hts hk ht hj hjl hb6 hb7
              go_wp2_with fail
              go_roundg (M.length - (i + 1))
              case measure => omega
              case rel => exact ⟨i + 1, by go_num, by omega, HF⟩
            · have hb0 : bb = 0 := hkz hk
              subst hb0
              have d2 : (o2.kind == 1) = false := by simpa using hk
              have d5 : (o2.kind != 1) = true := by simpa using hk
              clear hown hkz hqu hbr hbl hts hk ht hj hjl hb6 hb7
              go_wp2_with fail
              go_roundg (M.length - (i + 1))
              case measure => omega
              case rel => exact ⟨i + 1, by go_num, by omega, HF⟩
      · obtain rfl : i = M.length := by omega
        have HF := Lib.hid (tr0 H2.out (tr0 HR.out.2 HI.out))
        go_wp2_with fail
        go_ret
        exact ⟨rfl, HF.out⟩
end Go.Proofs.YtefedalnafjcfaaGreatDoor

namespace Go.Proofs.YtefedalnafjcfaaGreatDoor
open Go.RowKit
set_option linter.unusedVariables false
theorem byteK_opens10 : Opens Tryz.prog bytesR 22 := opens_slice Tryz.underlying22 (by kernel_rfl) (by kernel_rfl) (opens_byte Tryz.underlying5)
theorem quotaSums_walk (A : Option Addr) (n c : Nat) (bs : List UInt8) (W : World) (h1 : bytesR.rel W (fun k => k < W.heap.size) [.slice A n c] bs) (E : Env W) :
    Calls Tryz.prog 4 #[.slice A n c] W fun r W' => r = .returned (.bool true) ∧ Below W.heap.size W W' :=
  (quotaSums_mod A n c bs _ W h1 E).mono fun _ _ h => ⟨h.1, below0 h.2⟩
end Go.Proofs.YtefedalnafjcfaaGreatDoor

namespace Go.Proofs.YtefedalnafjcfaaGreatDoor
open Go.ChangeShapes Go.WideShapes Go.ChangeAt Go.RowKit
set_option linter.unusedVariables false
def rowLaid : List (String × DataW Unit) := [("math/bits.deBruijn32tab", Rows.laid_math_bits_deBruijn32tab), ("math/bits.deBruijn64tab", Rows.laid_math_bits_deBruijn64tab), ("internal/strconv.uint64pow10", Rows.laid_internal_strconv_uint64pow10), ("unicode/utf8.acceptRanges", Rows.laid_unicode_utf8_acceptRanges), ("strconv.ErrRange", Rows.laid_strconv_ErrRange), ("strconv.ErrSyntax", Rows.laid_strconv_ErrSyntax), ("unicode/utf8.first", Rows.laid_unicode_utf8_first)]
theorem gTab : (Tryz.prog.globals[2]?).map (·.type) = some 212 := by kernel_rfl
theorem gSyn : (Tryz.prog.globals[0]?).map (·.type) = some 73 := by kernel_rfl
theorem gRng : (Tryz.prog.globals[1]?).map (·.type) = some 73 := by kernel_rfl
set_option maxRecDepth 100000 in
theorem env_of {W : World} (h : laidMetH Tryz.prog rowLaid W) : Env W := by
  rw [MakeChecks.laidMetH_plain _ _ _ (by kernel_rfl)] at h
  obtain ⟨ps, ⟨b0, t0, cs0, f0, p0, q0, hg0, ht0, hv0, hd0, ⟨b1, t1, cs1, f1, p1, q1, hg1, ht1, hv1, hd1, ⟨b2, t2, cs2, f2, p2, q2, hg2, ht2, hv2, hd2, ⟨b3, t3, cs3, f3, p3, q3, hg3, ht3, hv3, hd3, ⟨b4, t4, cs4, f4, p4, q4, hg4, ht4, hv4, hd4, ⟨b5, t5, cs5, f5, p5, q5, hg5, ht5, hv5, hd5, _, _⟩, _⟩, _⟩, _⟩, _⟩, _⟩, _, _⟩ := h
  clear hd0 hd1 hd3 hv0 hv1 hv3
  obtain rfl := Option.some.inj (g1.symm.trans hg2)
  obtain rfl := Option.some.inj (gTab.symm.trans ht2)
  obtain rfl := Option.some.inj (g3.symm.trans hg4)
  obtain rfl := Option.some.inj (gRng.symm.trans ht4)
  obtain rfl := Option.some.inj (g2.symm.trans hg5)
  obtain rfl := Option.some.inj (gSyn.symm.trans ht5)
  refine ⟨?_, ?_, ?_⟩
  · have := Lib.cells_of_tab (zs := Lib.pow10Tab) (k := .u64) Tryz.underlying212 Tryz.underlying156 (by kernel_rfl) (by kernel_rfl) hd2
    unfold Lib.TabIs
    rw [hv2, ← this]
  · obtain ⟨f', u, v, hcs, _, _⟩ := iface_of_trod Tryz.underlying73 hd5
    exact ⟨u, v, by rw [hv5, ← hcs]⟩
  · obtain ⟨f', u, v, hcs, _, _⟩ := iface_of_trod Tryz.underlying73 hd4
    exact ⟨u, v, by rw [hv4, ← hcs]⟩
/-- A world that meets the condition: the heap that the door's own run leaves, Go's own table laid. -/
noncomputable def laidWorld (os : Os) : World :=
  let w0 := World.doorLaid Tryz.prog 400 os
  { w0 with heap := w0.heap.modify 3 fun
      | .cells _ t frozen => .cells (Lib.firstTab.map fun z => Value.int .u8 z).toArray t frozen
      | o => o }
theorem laidWorld_met (os : Os) (args : Array Value) : laidMetH Tryz.prog rowLaid ((laidWorld os).forCall (fun _ _ => 0) ⟨#[], args, []⟩).memory := by
  rw [MakeChecks.laidMetH_plain _ _ _ (by kernel_rfl)]
  exact laidMet_of_run' 8 (by kernel_rfl) (by kernel_rfl)
end Go.Proofs.YtefedalnafjcfaaGreatDoor

