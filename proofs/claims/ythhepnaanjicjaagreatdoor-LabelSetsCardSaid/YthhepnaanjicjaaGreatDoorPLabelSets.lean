/- Texts of this claim, joined: LabS, LabWalkS, LawLabelSets, CardLabelSets. -/
import Derived.Test.YthhepnaanjicjaaGreatDoorP7
import Derived.Test.YthhepnaanjicjaaGreatDoorP5
import Derived.WalkKit
import Derived.ProofKit
import Derived.OpenShut
import Derived.ShutString
import Derived.ChangeOld
import Derived.Below
import Derived.SizedLaws
import Derived.ChangeVars
import Derived.JoinedOf
import Derived.RowKitTokens
import Derived.LaidLaws
import Derived.LaidHandle
import Derived.Stop.Joined
import Derived.Test.YthhepnaanjicjaaGreatDoorRows
import Derived.Test.YthhepnaanjicjaaGreatDoorCards
import Derived.Test.YthhepnaanjicjaaGreatDoorTie
import Derived.SevenTiedAt
/- Layer 6, the laws: LabelSets. -/
namespace Go.Proofs.YthhepnaanjicjaaGreatDoor
open Go.RowKit Go.Shelf
set_option linter.unusedVariables false
theorem with_flows {l : List Entry} {c : List UInt8} {n : Int} (h : (resW l c n).2 = 0) (hn : ¬ n < levelL l c) : flowsLB l (resW l c n).1 = true := by
  obtain ⟨h1, h2, -, -, h3⟩ := resW_ok h
  refine flowsLB_iff.2 ⟨h1, h2, fun d => ?_⟩
  rw [h3]
  by_cases hd : c = d
  · subst hd; rw [if_pos rfl]; omega
  · rw [if_neg hd]; omega
set_option maxRecDepth 100000 in
set_option maxHeartbeats 4000000 in
theorem labelSets_mod (A : Option Addr) (m cp : Nat) (l : List Entry) (a b : List UInt8) (k : Int) (ok : Nat → Prop) (w : World) (h : labR.rel w ok [.slice A m cp] l) (ha : a.length ≤ 140737488355328) (hb : b.length ≤ 140737488355328) (hk : Rd.inR .i64 k) (E : Env w) :
    Calls Tryz.prog 8 #[.slice A m cp, .agg #[.string ⟨a.toArray⟩, .string ⟨b.toArray⟩], .int .i64 k] w fun r w' => r = .returned (.bool true) ∧ Mod (fun _ => False) w w' := by
  have hml : m = l.length := (lab_row h).1
  subst hml
  have H0 := Lib.hid (And.intro E (And.intro h hk)); clear E h hk
  go_enter Tryz.func8, Tryz.ntmps8
  go_wp2_with (refine wpList_box_new rfl 56 _ rfl [.string ⟨a.toArray⟩, .string ⟨b.toArray⟩] rfl ?_)
  intro g w0 hg hbk hm0
  have H1 := Lib.hid (And.intro (hm0 (fun _ => False)) hbk); clear hm0 hbk hg
  go_wp2_with fail
  refine (first_any w0 (H0.out.1.mod0 H1.out.1)).mono ?_
  rintro r w1 ⟨rfl, hm⟩
  have hbk := (hm.block _ (lt_of_blk H1.out.2) id).trans H1.out.2
  have hm1 := tr0 H1.out.1 hm
  have k0 : w1.cell? ⟨g, 0, none⟩ = some (.string ⟨a.toArray⟩) := by rw [Lib.cell_of_heap hbk]; rfl
  have k1 : w1.cell? ⟨g, 1, none⟩ = some (.string ⟨b.toArray⟩) := by rw [Lib.cell_of_heap hbk]; rfl
  have H2 := Lib.hid hm1; clear hm hbk H1 hm1
  go_wp2_with fail
  go_quiet (fail)
  have hmq := H2.out.drewN nq
  have hlo := long_any A l.length cp l _ (w1.drewN nq) (Rd.mod H0.out.2.1 hmq (fun _ _ => id))
  obtain ⟨wq, hwq⟩ : ∃ wq, wq = w1.drewN nq := ⟨_, rfl⟩
  rw [← hwq] at hmq hlo ⊢
  clear k0 k1 hwq
  cases hlb : longL l with
  | true =>
    rw [hlb] at hlo
    have H3 := Lib.hid (And.intro hmq hlo); clear hmq hlo hlb
    go_wp2_with fail
    refine H3.out.2.mono ?_
    rintro r w2 ⟨rfl, hm2⟩
    have H4 := Lib.hid (tr0 H3.out.1 hm2); clear hm2
    go_wp2_with fail
    go_ret
    exact ⟨rfl, H4.out⟩
  | false =>
    rw [hlb] at hlo
    have hlg := longL_iff.1 hlb
    have H3 := Lib.hid (And.intro hmq (And.intro hlo hlg)); clear hmq hlo hlb hlg
    go_wp2_with fail
    refine H3.out.2.1.mono ?_
    rintro r w2 ⟨rfl, hm2⟩
    have H4 := Lib.hid (tr0 H3.out.1 hm2); clear hm2
    by_cases h200 : 200 < a.length + b.length
    · go_wp2_with fail
      go_ret
      exact ⟨rfl, H4.out⟩
    obtain ⟨z, hz⟩ : ∃ z, z = resW l a k := ⟨_, rfl⟩
    have hwi := with_any A l.length cp l a k _ w2 (Rd.mod H0.out.2.1 H4.out (fun _ _ => id)) ha H0.out.2.2 (H0.out.1.mod0 H4.out)
    rw [← hz] at hwi
    have H5 := Lib.hid (And.intro hz hwi); clear hz hwi
    go_wp2_with fail
    refine H5.out.2.mono ?_
    rintro r w3 ⟨A3, c3, rfl, ho3, hm3⟩
    have hm3' := tr0 H4.out hm3
    by_cases he : z.2 = 0
    case neg =>
      have hz1 : z.1 = [] := by rw [H5.out.1] at he ⊢; exact resW_empty he
      have hz1l : z.1.length = 0 := by rw [hz1]; rfl
      have e1 : (z.2 != 0) = true := by simpa using he
      have H6 := Lib.hid hm3'; clear hm3' hm3 ho3 hz1 he
      rw [hz1l]
      go_wp2_with fail
      go_ret
      exact ⟨rfl, H6.out⟩
    case pos =>
      have hok := H5.out.1 ▸ he
      obtain ⟨hrl, hrm, hk0, hk3, hlev⟩ := resW_ok hok
      have hfl := with_flows hok
      rw [← H5.out.1] at hrm hlev hfl
      obtain ⟨x, e⟩ := z
      dsimp only at he hrm hlev hfl ho3 ⊢
      subst he
      have hx8 := hrm.len
      have rx3 := ho3.reads (bytes := 24) (by omega)
      have hlk : levelL x a = k := by rw [hlev, if_pos rfl]
      have hoth : a ≠ b → levelL x b = levelL l b := fun hab => by rw [hlev, if_neg hab]
      have rl3 := Rd.mod H0.out.2.1 hm3' (fun _ _ => id)
      have sR := rightLab_any A3 x.length c3 x _ w3 rx3 (H0.out.1.mod0 hm3')
      rw [rightLB_iff.2 hrm] at sR
      have H6 := Lib.hid (And.intro hm3' (And.intro rx3 (And.intro rl3 (And.intro hlk (And.intro hoth (And.intro hfl sR)))))); clear hm3' hm3 ho3 rx3 rl3 hlk hoth hfl sR hrl hrm hlev hok
      go_wp2_with fail
      refine H6.out.2.2.2.2.2.2.mono ?_
      rintro r w4 ⟨rfl, hm4⟩
      have sL := level_any A3 x.length c3 x a _ w4 (Rd.mod H6.out.2.1 hm4 (fun _ _ => id))
      rw [H6.out.2.2.2.1] at sL
      have H7 := Lib.hid (And.intro hm4 sL); clear hm4 sL
      go_wp2_with fail
      refine H7.out.2.mono ?_
      rintro r w5 ⟨rfl, hm5⟩
      have H8 := Lib.hid (tr0 H7.out.1 hm5); clear hm5 H7
      by_cases hba : b = a
      · obtain rfl : a = b := hba.symm
        go_wp2_with fail
        refine (level_any A l.length cp l a _ w5 (Rd.mod H0.out.2.1 (tr0 H6.out.1 H8.out) (fun _ _ => id))).mono ?_
        rintro r w8 ⟨rfl, hm8⟩
        have H9 := Lib.hid (tr0 H8.out hm8); clear hm8
        by_cases hlt : k < levelL l a
        · go_wp2_with fail
          go_ret
          exact ⟨rfl, tr0 H6.out.1 H9.out⟩
        · have sF := flows_any A l.length cp A3 x.length c3 l x _ _ w8 (Rd.mod H0.out.2.1 (tr0 H6.out.1 H9.out) (fun _ _ => id)) (Rd.mod H6.out.2.1 H9.out (fun _ _ => id)) (H0.out.1.mod0 (tr0 H6.out.1 H9.out))
          rw [H6.out.2.2.2.2.2.1 (by omega)] at sF
          have HF := Lib.hid sF; clear sF
          go_wp2_with fail
          refine HF.out.mono ?_
          rintro r w9 ⟨rfl, hm9⟩
          have H10 := Lib.hid (tr0 (tr0 H6.out.1 H9.out) hm9); clear hm9
          go_wp2_with fail
          go_ret
          exact ⟨rfl, H10.out⟩
      · go_wp2_with fail
        refine (level_any A3 x.length c3 x b _ w5 (Rd.mod H6.out.2.1 H8.out (fun _ _ => id))).mono ?_
        rintro r w6 ⟨rfl, hm6⟩
        have H7 := Lib.hid (tr0 H8.out hm6); clear hm6
        go_wp2_with fail
        refine (level_any A l.length cp l b _ w6 (Rd.mod H0.out.2.1 (tr0 H6.out.1 H7.out) (fun _ _ => id))).mono ?_
        rintro r w7 ⟨rfl, hm7⟩
        have H11 := Lib.hid (tr0 H7.out hm7); clear hm7
        have e4 : (levelL x b == levelL l b) = true := by rw [H6.out.2.2.2.2.1 (fun e => hba e.symm)]; simp
        go_wp2_with fail
        refine (level_any A l.length cp l a _ w7 (Rd.mod H0.out.2.1 (tr0 H6.out.1 H11.out) (fun _ _ => id))).mono ?_
        rintro r w8 ⟨rfl, hm8⟩
        have H9 := Lib.hid (tr0 H11.out hm8); clear hm8
        by_cases hlt : k < levelL l a
        · go_wp2_with fail
          go_ret
          exact ⟨rfl, tr0 H6.out.1 H9.out⟩
        · have sF := flows_any A l.length cp A3 x.length c3 l x _ _ w8 (Rd.mod H0.out.2.1 (tr0 H6.out.1 H9.out) (fun _ _ => id)) (Rd.mod H6.out.2.1 H9.out (fun _ _ => id)) (H0.out.1.mod0 (tr0 H6.out.1 H9.out))
          rw [H6.out.2.2.2.2.2.1 (by omega)] at sF
          have HF := Lib.hid sF; clear sF
          go_wp2_with fail
          refine HF.out.mono ?_
          rintro r w9 ⟨rfl, hm9⟩
          have H10 := Lib.hid (tr0 (tr0 H6.out.1 H9.out) hm9); clear hm9
          go_wp2_with fail
          go_ret
          exact ⟨rfl, H10.out⟩
end Go.Proofs.YthhepnaanjicjaaGreatDoor

/- Layer 6, the laws: LabelSets in the row's words. -/
namespace Go.Proofs.YthhepnaanjicjaaGreatDoor
open Go.RowKit
set_option linter.unusedVariables false
theorem arr2_opens : Opens Tryz.prog (Rd.arr 2 (by decide) Rd.string) 56 := opens_array Tryz.underlying56 (by kernel_rfl) (by kernel_rfl) str_opens
theorem labelSets_walk (A : Option Addr) (n c : Nat) (cs : Array Value) (k : Int) (l : List Entry) (ss : List ByteArray) (y : Int) (W : World) (h1 : labR.rel W (fun k => k < W.heap.size) [.slice A n c] l)
    (h2 : (Rd.arr 2 (by decide) Rd.string).rel W (fun k => k < W.heap.size) cs.toList ss) (h3 : (Rd.int .i64).rel W (fun k => k < W.heap.size) [.int .i64 k] y) (E : Env W) :
    Calls Tryz.prog 8 #[.slice A n c, .agg cs, .int .i64 k] W fun r W' => r = .returned (.bool true) ∧ Below W.heap.size W W' := by
  obtain ⟨e2, i2⟩ := h3
  obtain rfl : k = y := by simpa using e2
  obtain ⟨h4, h5, h6⟩ := arr_strs h2
  match ss, h5, h4, h6 with
  | [s0, s1], _, h4, h6 =>
    obtain rfl : cs = #[.string s0, .string s1] := by apply Array.ext'; simpa using h4
    exact (labelSets_mod A n c l s0.data.toList s1.data.toList k _ W h1 (h6 s0 (by simp)) (h6 s1 (by simp)) i2 E).mono fun _ _ h => ⟨h.1, below0 h.2⟩
end Go.Proofs.YthhepnaanjicjaaGreatDoor

/- The law LabelSets returns true for every input, and its arguments read afterwards as before. No condition. -/
namespace Go.Proofs.YthhepnaanjicjaaGreatDoor.labelSets
open Go.ChangeShapes Go.WideShapes Go.ChangeAt Go.RowKit
open Go.ChangeMaps (open_string)
set_option linter.unusedVariables false
theorem own : ownKnob Tryz.prog.godebug = none := by kernel_rfl
theorem laidOut : laidOutB Tryz.prog = true := by kernel_rfl
set_option maxRecDepth 100000 in
theorem lifted (os : Os) (started : os.Started) (H : Type) (enc : TypeId × Value → H) :
    ReturnsInHanded {} Tryz.checked os 8 .any (fun w args => (Rows.labelSetsSpec.pre enc Tryz.prog Tryz.f8 Rows.labelSetsRow.domain false w args ∧ laidMetH Tryz.prog Rows.labelSetsRow.laid w) ∧ sizedMet enc Tryz.prog Tryz.f8 (OpenSpec.ofChange Rows.labelSetsSpec) false w args) (Rows.labelSetsSpec.post enc Tryz.prog Tryz.f8 false true false false) := by
  refine returnsInHanded_of_change_and (C := Tryz.checked) (X := fun w _ => laidMetH Tryz.prog Rows.labelSetsRow.laid w) (fun _ _ _ hh h => h.of_heap hh) own started (by kernel_rfl) Tryz.func8
    (ChangeSpec.witness_shaped (enc := enc) (C := Tryz.checked) (os := os) (X := fun w _ => laidMetH Tryz.prog Rows.labelSetsRow.laid w) false (laidWorld os) #[.slice none 0 0, .agg #[.string ⟨#[]⟩, .string ⟨#[]⟩], .int .i64 0] 8 rfl (World.shaped_of_RefB (by kernel_rfl) (by kernel_rfl)) (by kernel_rfl) (by kernel_rfl) (by kernel_rfl) (laidWorld_met os _)) ?_
  intro W base args ds gs before hval0 hW hcnd hsz0 hL _
  have hsz : (DataW.weightsEach Tryz.prog (Tryz.f8.params.toList ++ Rows.labelSetsSpec.plain.varTypes Tryz.prog) (ds ++ gs)).all (· ≤ reachBytes) = true := hsz0
  have hW' := hW
  obtain ⟨p, q, hA0, hV, rfl, hfz, hnd⟩ := hW
  have hval : ∀ (j : Nat) t v, Tryz.f8.params[j]? = some t → args[j]? = some v → Value.okWide Tryz.prog W .any base t v := hval0
  have hA : DataW.TrodAll enc Tryz.prog W 0 (fun _ => true) true Tryz.f8.params.toList args.toList ds p := hA0
  rw [Tryz.params8] at hA hval hsz
  obtain ⟨v0, vs0, d0, ds0, p0, q0, hargs, rfl, rfl, h0, r0⟩ := trodAll_cons hA
  obtain ⟨v1, vs1, d1, ds1, p1, q1, rfl, rfl, rfl, h1, r1⟩ := trodAll_cons r0
  obtain ⟨v2, vs2, d2, ds2, p2, q2, rfl, rfl, rfl, h2, r2⟩ := trodAll_cons r1
  obtain ⟨rfl, rfl, rfl⟩ := trodAll_nil r2
  obtain rfl : args = #[v0, v1, v2] := by cases args; simp_all
  obtain ⟨rfl, rfl⟩ := trodVars_none hV
  obtain ⟨a0, n0, c0, rfl⟩ := okWide_slice Tryz.underlying23 (hval 0 23 v0 rfl rfl)
  have k0 := h0
  have lt0 : ∀ x ∈ p0, x.block < W.heap.size := by obtain ⟨m, hm⟩ := k0; exact DataW.trod_lt m _ _ _ hm
  obtain ⟨x0, y0⟩ : ∃ x, Rd.rel (labR) W (fun k => k < W.heap.size) [.slice a0 n0 c0] x := by
    obtain ⟨fuel, hf⟩ := h0
    exact lab_opens H enc W _ _ _ fuel _ _ hf (fun n hn => of_decide_eq_true (List.all_eq_true.1 hsz _ (DataW.weights_mem_each (j := 0) rfl rfl n hn)))
  obtain ⟨cs1, rfl⟩ : ∃ cs, v1 = .agg cs := by first | exact okWide_array Tryz.underlying56 (hval 1 56 v1 rfl rfl) | (obtain ⟨cs, h, _⟩ := okWide_struct Tryz.underlying56 (hval 1 56 v1 rfl rfl); exact ⟨cs, h⟩)
  have k1 := h1
  have lt1 : ∀ x ∈ p1, x.block < W.heap.size := by obtain ⟨m, hm⟩ := k1; exact DataW.trod_lt m _ _ _ hm
  obtain ⟨x1, y1⟩ : ∃ x, Rd.rel (Rd.arr 2 (by decide) Rd.string) W (fun k => k < W.heap.size) cs1.toList x := by
    obtain ⟨fuel, hf⟩ := h1
    exact arr2_opens H enc W _ _ _ fuel _ _ hf (fun n hn => of_decide_eq_true (List.all_eq_true.1 hsz _ (DataW.weights_mem_each (j := 1) rfl rfl n hn)))
  obtain ⟨s2, rfl⟩ : ∃ s, v2 = .int .i64 s := by obtain ⟨s, h, _⟩ := open_int Tryz.underlying3 (hval 2 3 v2 rfl rfl) h2; exact ⟨s, h⟩
  have k2 := h2
  have lt2 : ∀ x ∈ p2, x.block < W.heap.size := by obtain ⟨m, hm⟩ := k2; exact DataW.trod_lt m _ _ _ hm
  obtain ⟨x2, y2⟩ : ∃ x, Rd.rel (Rd.int .i64) W (fun k => k < W.heap.size) [.int .i64 s2] x := by
    obtain ⟨fuel, hf⟩ := h2
    exact int_opens H enc W _ _ _ fuel _ _ hf (fun n hn => of_decide_eq_true (List.all_eq_true.1 hsz _ (DataW.weights_mem_each (j := 2) rfl rfl n hn)))
  clear hA0 hval0 hsz0 hsz
  refine (labelSets_walk a0 n0 c0 cs1 s2 x0 x1 x2 W y0 y1 y2 (env_of hL)).mono fun e W' ⟨he, bel⟩ => ?_
  subst he
  exact ⟨_, rfl, _, _, _, [], _, [], hW', trodAll_mk1 (shut_bool Tryz.underlying4 _), (trodAll_cons_mk (Below.trod laidOut (by kernel_rfl) (of_decide_eq_true (by kernel_rfl)) k0 bel lt0) (trodAll_cons_mk (Below.trod laidOut (by kernel_rfl) (of_decide_eq_true (by kernel_rfl)) k1 bel lt1) (trodAll_cons_mk (Below.trod laidOut (by kernel_rfl) (of_decide_eq_true (by kernel_rfl)) k2 bel lt2) trodAll_mk0))), rfl, bel.frame _, fun h => by cases h⟩
theorem over : Rows.labelSetsRow.holds Tryz.pinned (OpenSpec.ofChange Rows.labelSetsSpec) :=
  OpenClaim.holds_of_wide 8 Tryz.f8 rfl rfl rfl rfl rfl rfl rfl ⟨rfl, rfl, rfl, rfl, rfl⟩ rfl rfl rfl rfl rfl (by kernel_rfl) Tryz.func8 (by kernel_rfl)
    (of_decide_eq_true (by kernel_rfl)) (by unfold Func.isWrapper; first | (rw [if_pos (by decide +kernel)]; kernel_rfl) | (rw [if_neg (by decide +kernel)]; exact ⟨rfl, rfl⟩))
    (fun os started H enc _ => lifted os started H enc)
theorem proved : Rows.LabelSetsSaid := over
#print axioms proved
end Go.Proofs.YthhepnaanjicjaaGreatDoor.labelSets
namespace Go.Proofs.YthhepnaanjicjaaGreatDoor
/-- The row, under a short name, for the claim. -/
theorem labelSets_holds : Rows.LabelSetsSaid := labelSets.proved
end Go.Proofs.YthhepnaanjicjaaGreatDoor

/- The law LabelSets returns true for every input, and its arguments read afterwards as before: the tied card. No condition beyond the row's own. -/
namespace Go.Proofs.YthhepnaanjicjaaGreatDoor
open Go
theorem labelSets_card_holds : Rows.LabelSetsCardSaid :=
  Claim7.holds_tied_plain_at .later [] [.data, .data, .data, .data, .sentinel, .sentinel, .pinned] true (true, "fd594034ef6ac330493a0e3f50887663515fa0ef89308825e5a45e0f653eee68") true
    labelSets_holds (fun _ h => by cases h) (by kernel_rfl) (fun _ h => by cases h) labelSets_row_tie rfl ⟨rfl, rfl⟩ (by kernel_rfl) rfl
    (fun f fn hf hfn => by
      obtain rfl : f = 8 := Option.some.inj ((show Tryz.prog.funcNamed "regency/regencylaw06.LabelSets" = some 8 by kernel_rfl).symm.trans hf) |>.symm
      obtain rfl : fn = Tryz.f8 := (Option.some.inj (Tryz.func8.symm.trans hfn)).symm
      exact ⟨by kernel_rfl, fun j t ht => by
        rw [Tryz.params8] at ht
        have hm : t ∈ [23, 56, 3] := by simpa using Array.mem_of_getElem? ht
        have hall : ([23, 56, 3].all fun u => !Tryz.prog.wantsStandIn u) = true := by kernel_rfl
        exact (show Tryz.prog.wantsStandIn t = false by simpa using List.all_eq_true.1 hall t hm)⟩)
    (by kernel_rfl)
#print axioms labelSets_card_holds
end Go.Proofs.YthhepnaanjicjaaGreatDoor
