/- Part of this claim's proof (texts Qta3, Line, Qta6, QtaS, Tape2, joined by program). -/
import Derived.Test.YtefedalnafjcfaaGreatDoorA11
import Derived.Test.YtefedalnafjcfaaGreatDoorA17
import Derived.Test.YtefedalnafjcfaaGreatDoorA26
import Derived.Test.YtefedalnafjcfaaGreatDoorA01
import Derived.Test.YtefedalnafjcfaaGreatDoorA22
import Derived.Test.YtefedalnafjcfaaGreatDoorA25
import Derived.Test.YtefedalnafjcfaaGreatDoorA14
import Derived.Deep.RegionWith
import Derived.Test.YtefedalnafjcfaaGreatDoorA06
namespace Go.Proofs.YtefedalnafjcfaaGreatDoor
open Go.RowKit Go.Shelf
set_option linter.unusedVariables false
def deepOne (p : List Int) (x : List Int × Ob) : Int := if p.isPrefixOf x.1 then (if x.2.kind = 1 then 16 else usesO x.2) else 0
theorem deepC_sum (L : Tab) (p : List Int) : deepC L p = (L.map (deepOne p)).sum := by
  induction L with
  | nil => rfl
  | cons x L ih =>
    unfold deepC at *
    rw [List.filter_cons, List.map_cons, List.sum_cons, ← ih]
    unfold deepOne
    split
    · rw [List.map_cons, List.sum_cons]
    · simp
theorem prefix_iff (p q : List Int) : p.isPrefixOf q = (decide (cmpL q p = 0) || belowP q p) := by
  rw [Bool.eq_iff_iff, List.isPrefixOf_iff_prefix, Bool.or_eq_true, decide_eq_true_eq]
  unfold belowP
  rw [Bool.and_eq_true, decide_eq_true_eq, decide_eq_true_eq]
  constructor
  · intro h
    rcases Nat.lt_or_ge p.length q.length with hl | hl
    · exact .inr ⟨hl, (List.prefix_iff_eq_take.1 h).symm⟩
    · have := h.eq_of_length_le hl
      subst this
      exact .inl (cmpL_self _)
  · rintro (h | ⟨h1, h2⟩)
    · rw [cmpL_zero _ _ h]; exact List.prefix_rfl
    · exact List.prefix_iff_eq_take.2 h2.symm
theorem deepOne_le {L : Tab} (hv : ValidT L) {p : List Int} {x : List Int × Ob} (h : x ∈ L) : 0 ≤ deepOne p x ∧ deepOne p x ≤ 1048576 := by
  have hg := getT_of_mem hv.asc (p := x.1) (o := x.2) h
  have h1 := uses_le_quota hv hg
  have h2 := usesO_pos (hv.right _ _ hg)
  unfold deepOne
  split
  · split <;> omega
  · omega
set_option maxRecDepth 100000 in
set_option maxHeartbeats 4000000 in
theorem deep_any (S : Nat → Prop) (g mb : Nat) (L : Tab) (A : Option Addr) (m c : Nat) (p : List Int) (ok : Nat → Prop) (w : World) (hT : TabAt w S g mb L) (hv : ValidT L) (hl : L.length ≤ 1000000) (h : intsR.rel w ok [.slice A m c] p) (E : Env w) :
    Calls Tryz.prog 9 #[.pointer (some ⟨g, 0, none⟩), .slice A m c] w fun e w' => e = .returned (.int .i64 (deepC L p)) ∧ Mod (fun _ => False) w w' := by
  obtain ⟨z, hz⟩ : ∃ z, z = (L.map (deepOne p)).sum := ⟨_, rfl⟩
  rw [deepC_sum, ← hz]
  have hgt := fun W (hW : Mod (fun _ => False) w W) (A' : Option Addr) (m' c' : Nat) (q : List Int) (ok' : Nat → Prop) (hr : intsR.rel W ok' [.slice A' m' c'] q) (hq : q.length ≤ 1100000) => getTab_any _ g mb L A' m' c' q ok' W (hT.bound.move hW (fun _ _ => id) id id) hr hq (E.mod0 hW)
  have hpth := paths_any _ g mb L w hT (fun x hx => hv.path _ _ (getT_of_mem hv.asc (p := x.1) (o := x.2) hx)) hl E
  have hrd := fun W (hW : Mod (fun _ => False) w W) => Rd.mod (Rd.bound h) hW (fun _ _ => id)
  have HX := Lib.hid (And.intro hz (And.intro hgt (And.intro hrd (And.intro hv hl)))); clear hz hgt hrd hv hT h E
  have HP0 := Lib.hid hpth; clear hpth
  go_enter Tryz.func9, Tryz.ntmps9
  go_wp2_with fail
  refine HP0.out.mono ?_
  rintro e w3 ⟨Ap, cp, Sp, rfl, hOp, -, hm3⟩
  clear HP0
  obtain ⟨ps, hps⟩ : ∃ ps, ps = L.map (·.1) := ⟨_, rfl⟩
  rw [← hps] at hOp ⊢
  have hpl : ps.length = L.length := by rw [hps, List.length_map]
  have hrp := hOp.reads (bytes := 24) (by omega)
  have hlb : ps.length ≤ 1000000 := by omega
  have HP := Lib.hid (And.intro hps (And.intro hpl (And.intro hrp hm3))); clear hps hpl hrp hm3 hOp hl
  go_wp2_with fail
  go_loopg [5, 13] ps.length (fun f s5 s13 wx => ∃ (i : Nat) (t : Int), s13 = .int .i64 i ∧ s5 = .int .i64 t ∧ i + f = ps.length ∧ (0 ≤ t ∧ t ≤ 1048576 * i) ∧ Hid (t = ((L.take i).map (deepOne p)).sum ∧ Mod (fun _ => False) w3 wx))
  case atStart => exact ⟨0, 0, rfl, rfl, by omega, by omega, Lib.hid ⟨by simp, .refl _ _⟩⟩
  case round =>
    obtain ⟨i, t, rfl, rfl, hi, ht, HQ⟩ := hrel
    by_cases hil : i < ps.length
    · obtain ⟨q, hq⟩ : ∃ q, ps[i]? = some q := ⟨_, List.getElem?_eq_getElem hil⟩
      obtain ⟨o, ho⟩ : ∃ o, L[i]? = some (q, o) := by
        have h1 := hq
        rw [HP.out.1, List.getElem?_map] at h1
        cases hx : L[i]? with
        | none => rw [hx] at h1; cases h1
        | some x => rw [hx] at h1; cases h1; exact ⟨x.2, rfl⟩
      obtain ⟨ad, cs, rfl, hokb, hr, hc⟩ := Rd.RowOf.at_ (slice_row (Rd.mod HP.out.2.2.1 HQ.out.2 (fun _ _ => id))).2.2.2.2.2 hq
      obtain ⟨Aq, cq, rfl, -⟩ := id hr
      have y1 : wr.cell? (ad.add i) = some (.slice Aq q.length cq) := by
        have := hc 0 _ rfl
        rwa [show i * intsR.sz + 0 = i from by show i * 1 + 0 = i; omega] at this
      have hmr := tr0 HP.out.2.2.2 HQ.out.2
      have hgo : getT L q = some o := getT_of_mem HX.out.2.2.2.1.asc (List.mem_of_getElem? ho)
      have hcmp := fun W (hW : Mod (fun _ => False) wr W) => compare_p Aq cq _ A c m q p _ _ W (Rd.mod hr hW (fun _ _ => id)) (HX.out.2.2.1 W (tr0 hmr hW))
      have hbel := fun W (hW : Mod (fun _ => False) wr W) => below_p Aq _ cq A m c q p _ _ W (Rd.mod hr hW (fun _ _ => id)) (HX.out.2.2.1 W (tr0 hmr hW))
      have hg := HX.out.2.1
      obtain ⟨cm, hcm⟩ : ∃ v, v = cmpL q p := ⟨_, rfl⟩
      obtain ⟨bb, hbb⟩ : ∃ v, v = belowP q p := ⟨_, rfl⟩
      rw [← hcm] at hcmp
      rw [← hbb] at hbel
      have hpre := prefix_iff p q
      rw [← hcm, ← hbb] at hpre
      have hst : ((L.take (i + 1)).map (deepOne p)).sum = ((L.take i).map (deepOne p)).sum + deepOne p (q, o) := by
        rw [List.take_add_one, ho]; simp
      have hb1 := deepOne_le HX.out.2.2.2.1 (p := p) (List.mem_of_getElem? ho)
      have hro := HX.out.2.2.2.1.right _ _ hgo
      have hq6 := (rightP_iff.1 (HX.out.2.2.2.1.path _ _ hgo)).1
      have HR := Lib.hid (And.intro hmr (And.intro hcmp (And.intro hbel (And.intro hpre (And.intro hst (And.intro hb1 (And.intro hro (And.intro hgo (And.intro hr hq6))))))))); clear hmr hcmp hbel hpre hst hb1 hro hgo hr hq6 hg hcm hbb hc hokb ho hq
      by_cases hskip : cm ≠ 0 ∧ bb = false
      case pos =>
        obtain ⟨s1, rfl⟩ := hskip
        have d1 : (cm != 0) = true := by simpa using s1
        have HS := Lib.hid s1; clear s1
        go_wp2_with (first
          | (go_at_call 24; refine (HR.out.2.1 _ (.refl _ _)).mono ?_; rintro e w4 ⟨rfl, hm4⟩; have H4 := Lib.hid hm4; clear hm4)
          | (go_at_call 31; refine (HR.out.2.2.1 _ H4.out).mono ?_; rintro e w5 ⟨rfl, hm5⟩; have H5 := Lib.hid hm5; clear hm5))
        have hd : deepOne p (q, o) = 0 := by
          unfold deepOne
          rw [HR.out.2.2.2.1, decide_eq_false HS.out]
          rfl
        have hst := HR.out.2.2.2.2.1
        go_roundg (ps.length - (i + 1))
        case measure => omega
        case rel => exact ⟨i + 1, t, by go_num, rfl, by omega, by omega, Lib.hid ⟨by rw [hst, hd, ← HQ.out.1]; omega, tr0 HQ.out.2 (tr0 H4.out H5.out)⟩⟩
      case neg =>
        have HN := Lib.hid hskip; clear hskip
        by_cases hc0 : cm = 0
        case' pos =>
          subst hc0
          go_wp2_with (go_at_call 24; refine (HR.out.2.1 _ (.refl _ _)).mono ?_; rintro e w5 ⟨rfl, hm4⟩; have H5 := Lib.hid hm4; clear hm4)
          have HD := Lib.hid (show p.isPrefixOf q = true by rw [HR.out.2.2.2.1]; rfl)
        case' neg =>
          have d1 : (cm != 0) = true := by simpa using hc0
          obtain rfl : bb = true := by cases bb with | true => rfl | false => exact absurd ⟨hc0, rfl⟩ HN.out
          clear hc0
          go_wp2_with (first
            | (go_at_call 24; refine (HR.out.2.1 _ (.refl _ _)).mono ?_; rintro e w4 ⟨rfl, hm4⟩; have H4 := Lib.hid hm4; clear hm4)
            | (go_at_call 31; refine (HR.out.2.2.1 _ H4.out).mono ?_; rintro e w5 ⟨rfl, hm5⟩; have H5 := Lib.hid (tr0 H4.out hm5); clear hm5))
          have HD := Lib.hid (show p.isPrefixOf q = true by rw [HR.out.2.2.2.1, Bool.or_true])
        all_goals
          have hm05 := tr0 HR.out.1 H5.out
          have hg3 := HX.out.2.1 w5 hm05 Aq q.length cq q _ (Rd.mod HR.out.2.2.2.2.2.2.2.2.1 H5.out (fun _ _ => id)) (by have := HR.out.2.2.2.2.2.2.2.2.2; omega)
          rw [HR.out.2.2.2.2.2.2.2.1] at hg3
          dsimp only [Option.isSome, Option.getD] at hg3
          refine hg3.mono ?_
          rintro e w6 ⟨o2, A1', c1', A2', c2', A4', c4', A5', c5', A7', c7', A9', c9', rfl, rfl, hcp⟩
          have HC5 := Lib.hid (And.intro hcp hm05); clear hcp hg3 hm05
          go_wp2_with (refine wpList_box2 rfl rfl 39 _ _ rfl rfl [.int .i64 0, .slice none 0 0, .slice none 0 0, .int .i64 0, .slice none 0 0, .slice none 0 0, .int .i64 0, .slice none 0 0, .int .i64 0, .slice none 0 0] Tryz.infoOb3 rfl _ rfl (obC_one _ _ _ _ _ _ _ _ _ _ _ _ _) (fun _ => rfl) (fun _ => rfl) ?_)
          intro g5 w7 hg5 hb5 hm5
          have hob := Rd.mod (HC5.out.1.reads (by have := HR.out.2.2.2.2.2.2.1.kids.len; omega)) (hm5 fun _ => False) (fun _ _ => id)
          have hus := uses_m _ o2 _ w7 hob HR.out.2.2.2.2.2.2.1.kids
          have y0 : w7.cell? ⟨g5, 0, none⟩ = some (.int .i64 o2.kind) := by rw [cell_of_blk hb5]; rfl
          have y1 : w7.cell? ⟨g5, 1, none⟩ = some (.slice A1' o2.label.length c1') := by rw [cell_of_blk hb5]; rfl
          have y2 : w7.cell? ⟨g5, 2, none⟩ = some (.slice A2' o2.kids.length c2') := by rw [cell_of_blk hb5]; rfl
          have y3 : w7.cell? ⟨g5, 3, none⟩ = some (.int .i64 o2.next) := by rw [cell_of_blk hb5]; rfl
          have y4 : w7.cell? ⟨g5, 4, none⟩ = some (.slice A4' o2.bytes.length c4') := by rw [cell_of_blk hb5]; rfl
          have y5 : w7.cell? ⟨g5, 5, none⟩ = some (.slice A5' o2.own.length c5') := by rw [cell_of_blk hb5]; rfl
          have y6 : w7.cell? ⟨g5, 6, none⟩ = some (.int .i64 o2.cats) := by rw [cell_of_blk hb5]; rfl
          have y7 : w7.cell? ⟨g5, 7, none⟩ = some (.slice A7' o2.entry.length c7') := by rw [cell_of_blk hb5]; rfl
          have y8 : w7.cell? ⟨g5, 8, none⟩ = some (.int .i64 o2.ring) := by rw [cell_of_blk hb5]; rfl
          have y9 : w7.cell? ⟨g5, 9, none⟩ = some (.slice A9' o2.maps.length c9') := by rw [cell_of_blk hb5]; rfl
          have hd : deepOne p (q, o2) = if o2.kind = 1 then 16 else usesO o2 := by unfold deepOne; rw [HD.out]; rfl
          obtain ⟨uy, huy⟩ : ∃ v, v = usesO o2 := ⟨_, rfl⟩
          rw [← huy] at hus hd
          have hb1 := HR.out.2.2.2.2.2.1
          have hst := HR.out.2.2.2.2.1
          rw [← HQ.out.1] at hst
          have HU := Lib.hid (And.intro hus (And.intro (tr0 (tr0 H5.out HC5.out.1.mod) (hm5 fun _ => False)) hst)); clear hus hob hg5 hb5 hm5 hst huy
          by_cases hk : o2.kind = 1
          case pos =>
            rw [if_pos hk] at hd
            have d2 : (o2.kind == 1) = true := by simpa using hk
            have HDD := Lib.hid hd; clear hd
            have hwr : IntKind.i64.wrap (t + 16) = t + 16 := by rw [IntKind.wrap_i64]; omega
            go_wp2_with fail
            go_roundg (ps.length - (i + 1))
            case measure => omega
            case rel => exact ⟨i + 1, t + 16, by go_num, rfl, by omega, by omega, Lib.hid ⟨by rw [HU.out.2.2, HDD.out], tr0 HQ.out.2 HU.out.2.1⟩⟩
          case neg =>
            rw [if_neg hk] at hd
            rw [hd] at hb1
            have d2 : (o2.kind == 1) = false := by simpa using hk
            have HDD := Lib.hid hd; clear hd
            have hwr : IntKind.i64.wrap (t + uy) = t + uy := by rw [IntKind.wrap_i64]; omega
            go_wp2_with (go_at_call 13; refine HU.out.1.mono ?_; rintro e w8 ⟨rfl, hm8⟩; have H8 := Lib.hid hm8; clear hm8)
            go_roundg (ps.length - (i + 1))
            case measure => omega
            case rel => exact ⟨i + 1, t + uy, by go_num, rfl, by omega, by omega, Lib.hid ⟨by rw [HU.out.2.2, HDD.out], tr0 HQ.out.2 (tr0 HU.out.2.1 H8.out)⟩⟩
    · obtain rfl : i = ps.length := by omega
      have hzz : z = t := by rw [HX.out.1, HQ.out.1, HP.out.2.1, List.take_length]
      subst hzz
      go_wp2_with fail
      go_ret
      exact ⟨rfl, tr0 HP.out.2.2.2 HQ.out.2⟩
end Go.Proofs.YtefedalnafjcfaaGreatDoor

namespace Go.Proofs.YtefedalnafjcfaaGreatDoor
open Go.RowKit
structure Line where
  path : List Int
  quota : Int
  uses : Int
  below : Int
def LineR : Rd Line := ((Rd.slice 8 (Rd.int .i64)).pair ((Rd.int .i64).pair ((Rd.int .i64).pair ((Rd.int .i64))))).iso fun x => (x.path, x.quota, x.uses, x.below)
theorem LineR_iff {w : World} {ok : Nat → Prop} {cs : List Value} {x : Line} : LineR.rel w ok cs x ↔ ∃ c0 c1 c2 c3, cs = c0 ++ (c1 ++ (c2 ++ (c3))) ∧ (Rd.slice 8 (Rd.int .i64)).rel w ok c0 x.path ∧ (Rd.int .i64).rel w ok c1 x.quota ∧ (Rd.int .i64).rel w ok c2 x.uses ∧ (Rd.int .i64).rel w ok c3 x.below := by
  constructor
  · rintro ⟨c0, r0, rfl, h0, ⟨c1, r1, rfl, h1, ⟨c2, r2, rfl, h2, h3⟩⟩⟩
    exact ⟨c0, c1, c2, _, rfl, h0, h1, h2, h3⟩
  · rintro ⟨c0, c1, c2, c3, rfl, h0, h1, h2, h3⟩
    exact ⟨c0, _, rfl, h0, ⟨c1, _, rfl, h1, ⟨c2, _, rfl, h2, h3⟩⟩⟩
end Go.Proofs.YtefedalnafjcfaaGreatDoor

namespace Go.Proofs.YtefedalnafjcfaaGreatDoor
open Go.RowKit Go.Shelf
set_option linter.unusedVariables false
theorem stepc_call3 {P : Program} {w : World} {ops : Array Oper} {o : Oper} {a : Act} {K : Act → World → Prop} {Q : Exit → Act → World → Prop} {E : Prop} (hgd : o.guard = none) (f : FuncId) (x y z : Operand) (ts : Array TypeId)
    (ho : o.op = .call { callee := .value (.func f), args := #[x, y, z], argTypes := ts }) (v : Value) (hx : a.eval x = v) (u0 : Value) (hy : a.eval y = u0) (u1 : Value) (hz : a.eval z = u1) {C : Ending → World → Prop}
    (hcf : (callFunc f #[v, u0, u1]).run P w = .ok (.enter f #[v, u0, u1]) w) (hc : Calls P f #[v, u0, u1] w C) (h : ∀ e w', C e w' → ∃ u, e = .returned u ∧ K (a.put o.dst u) w') : if Region.wanted o (yielded ops a.tmps) = true then Oper.wp P o a w K Q else E := by
  have hw : Region.wanted o (yielded ops a.tmps) = true := by simp [Region.wanted, hgd]
  rw [if_pos hw]
  have h1 : (execOp a.eval o).run P w = .ok (.enter f #[v, u0, u1]) w := by
    have key : ∀ ρ : Operand → Value, ρ (.func f) = .func (.func f) #[] #[] → ρ x = v → ρ y = u0 → ρ z = u1 → (execOp ρ o).run P w = .ok (.enter f #[v, u0, u1]) w := by
      intro ρ h0 h1 h2 h3
      simp [execOp, ho, resolve, go_sem, h0, h1, h2, h3, hcf]
    exact key _ rfl hx hy hz
  unfold Oper.wp
  rw [h1, Oper.upon_enter]
  refine hc.mono fun e w' he => ?_
  obtain ⟨u, rfl, hk⟩ := h e w' he
  exact hk
theorem tquota_cf (args : Array Value) (w : World) : (callFunc 10 args).run Tryz.prog w = .ok (.enter 10 args) w := callFunc_go Tryz.func10 (by kernel_rfl) (by kernel_rfl) args w
theorem tuses_cf (args : Array Value) (w : World) : (callFunc 13 args).run Tryz.prog w = .ok (.enter 13 args) w := callFunc_go Tryz.func13 (by kernel_rfl) (by kernel_rfl) args w
theorem qbelow_cf (args : Array Value) (w : World) : (callFunc 36 args).run Tryz.prog w = .ok (.enter 36 args) w := callFunc_go Tryz.func36 (by kernel_rfl) (by kernel_rfl) args w
theorem Tryz.info_line : (Tryz.prog.info? 50).map (fun i => (i.zero, i.size, i.bytes)) = some (some (.agg #[.slice none 0 0, .int .i64 0, .int .i64 0, .int .i64 0]), 4, 48) := by kernel_rfl
theorem LineR_mk {w : World} {ok : Nat → Prop} {A : Option Addr} {c : Nat} (x : Line) (h : intsR.rel w ok [.slice A x.path.length c] x.path) (h1 : Rd.inR .i64 x.quota) (h2 : Rd.inR .i64 x.uses) (h3 : Rd.inR .i64 x.below) : LineR.rel w ok [.slice A x.path.length c, .int .i64 x.quota, .int .i64 x.uses, .int .i64 x.below] x :=
  LineR_iff.2 ⟨[_], [_], [_], [_], rfl, h, ⟨rfl, h1⟩, ⟨rfl, h2⟩, ⟨rfl, h3⟩⟩
noncomputable def lineOf (L : Tab) (x : List Int × Ob) : Line := ⟨x.1, quotaT L x.1, usesO x.2, belowC L x.1 x.2⟩
theorem kidSum_le {o : Ob} (h : RightOb o) : 0 ≤ kidSum o ∧ kidSum o ≤ 16777216 := by
  have : ∀ l : List Kid, (∀ k ∈ l, 0 ≤ k.quota ∧ k.quota ≤ 1048576) → 0 ≤ (l.map (·.quota)).sum ∧ (l.map (·.quota)).sum ≤ 1048576 * l.length := by
    intro l
    induction l with
    | nil => intro _; simp
    | cons k l ih =>
      intro hl
      have h1 := hl k (.head _)
      have h2 := ih fun x hx => hl x (.tail _ hx)
      simp only [List.map_cons, List.sum_cons, List.length_cons]; omega
  have h1 := this o.kids fun k hk => by have := h.kids.each k hk; omega
  have := h.kids.len
  unfold kidSum; omega
theorem below_range {L : Tab} (hv : ValidT L) {p : List Int} {o : Ob} (ho : getT L p = some o) : 0 ≤ belowC L p o ∧ belowC L p o ≤ 16777216 := by
  have h1 := below_le hv ho
  have h2 := kidSum_le (hv.right _ _ ho)
  have h3 : ∀ l : List Kid, (∀ k ∈ l, k ∈ o.kids) → 0 ≤ (l.map fun k => wOf L (p ++ [k.n])).sum := by
    intro l
    induction l with
    | nil => simp
    | cons k l ih =>
      intro hl
      have ih := ih fun y hy => hl y (.tail _ hy)
      obtain ⟨_, y, _, _, h4, h5, _⟩ := wOf_kid hv ho (hl k (.head _))
      simp only [List.map_cons, List.sum_cons, h4]; omega
  have := h3 o.kids fun _ h => h
  unfold belowC at *
  omega
set_option maxRecDepth 100000 in
set_option maxHeartbeats 8000000 in
theorem ledger_any (S : Nat → Prop) (g mb : Nat) (L : Tab) (w : World) (hT : TabAt w S g mb L) (hv : ValidT L) (E : Env w) :
    Calls Tryz.prog 14 #[.pointer (some ⟨g, 0, none⟩)] w fun e w' => ∃ A c, e = .returned (.slice A (L.map (lineOf L)).length c) ∧ (Rd.slice 48 LineR).rel w' (fun k => w.heap.size ≤ k) [.slice A (L.map (lineOf L)).length c] (L.map (lineOf L)) ∧ Mod (fun _ => False) w w' := by
  have hl : L.length ≤ 65536 := valid_small hv
  obtain ⟨z, hz⟩ : ∃ z, z = L.map (lineOf L) := ⟨_, rfl⟩
  rw [← hz]
  have hgt := fun W (hW : Mod (fun _ => False) w W) (A' : Option Addr) (m' c' : Nat) (q : List Int) (ok' : Nat → Prop) (hr : intsR.rel W ok' [.slice A' m' c'] q) (hq : q.length ≤ 1000000) => getTab_any _ g mb L A' m' c' q ok' W (hT.bound.move hW (fun _ _ => id) id id) hr (by omega) (E.mod0 hW)
  have hqt := fun W (hW : Mod (fun _ => False) w W) (A' : Option Addr) (m' c' : Nat) (q : List Int) (ok' : Nat → Prop) (hr : intsR.rel W ok' [.slice A' m' c'] q) (hq : q.length ≤ 1000000) => quotaTab_any _ g mb L A' m' c' q ok' W (hT.bound.move hW (fun _ _ => id) id id) hv hr hq (E.mod0 hW)
  have hbl := fun W (hW : Mod (fun _ => False) w W) (A' : Option Addr) (m' c' : Nat) (q : List Int) (ok' ok2 : Nat → Prop) (cs : List Value) (o : Ob) (hgo : getT L q = some o) (hr : intsR.rel W ok' [.slice A' m' c'] q) (ho : ObR.rel W ok2 cs o) => below_any _ g mb L A' m' c' q ok' ok2 cs o W (hT.bound.move hW (fun _ _ => id) id id) hv hgo hr ho (E.mod0 hW)
  have hpth := paths_any _ g mb L w hT (fun x hx => hv.path _ _ (getT_of_mem hv.asc (p := x.1) (o := x.2) hx)) (by omega) E
  have HX := Lib.hid (And.intro hz (And.intro hgt (And.intro hqt (And.intro hbl (And.intro hv hl))))); clear hz hgt hqt hbl hv hT E
  have HP0 := Lib.hid hpth; clear hpth
  go_enter Tryz.func14, Tryz.ntmps14
  go_wp2_with fail
  refine HP0.out.mono ?_
  rintro e w3 ⟨Ap, cp, Sp, rfl, hOp, hSp, hm3⟩
  clear HP0
  obtain ⟨ps, hps⟩ : ∃ ps, ps = L.map (·.1) := ⟨_, rfl⟩
  rw [← hps] at hOp ⊢
  have hpl : ps.length = L.length := by rw [hps, List.length_map]
  have hrp := Rd.mono (Rd.bound (hOp.reads (bytes := 24) (by omega))) (ok1 := fun k => w.heap.size ≤ k ∧ k < w3.heap.size) (fun k hk => by
    refine ⟨?_, hk.2⟩
    rcases hk.1 with h | h
    · exact hSp k h
    · exact (own_ge hOp h).1)
  have hlb : ps.length ≤ 65536 := by omega
  have hws := hm3.size
  obtain ⟨B, hB⟩ : ∃ B, B = w3.heap.size := ⟨_, rfl⟩
  have HP := Lib.hid (And.intro hps (And.intro hpl (And.intro hrp (And.intro hm3 (And.intro hws hB))))); clear hps hpl hrp hm3 hOp hSp hl hws hB
  go_wp2_with fail
  go_loopg [3, 11] ps.length (fun f s3 s11 wx => ∃ (A : Option Addr) (c : Nat) (lst : List Line), s11 = .int .i64 lst.length ∧ s3 = .slice A lst.length c ∧ lst.length + f = ps.length ∧ Hid (lst = (L.take lst.length).map (lineOf L) ∧ OwnR LineR 50 wx B (fun k => w.heap.size ≤ k ∧ k < B) (.slice A lst.length c) lst ∧ Mod (fun _ => False) w3 wx))
  case atStart => exact ⟨none, 0, [], rfl, rfl, by simp, Lib.hid ⟨by simp, OwnR.nil _ _ _ _ _, .refl _ _⟩⟩
  case round =>
    obtain ⟨A, c, lst, rfl, rfl, hi, HQ⟩ := hrel
    by_cases hil : lst.length < ps.length
    · obtain ⟨i, hie⟩ : ∃ i, i = lst.length := ⟨_, rfl⟩
      obtain ⟨q, hq⟩ : ∃ q, ps[lst.length]? = some q := ⟨_, List.getElem?_eq_getElem hil⟩
      obtain ⟨o, ho⟩ : ∃ o, L[lst.length]? = some (q, o) := by
        have h1 := hq
        rw [HP.out.1, List.getElem?_map] at h1
        cases hx : L[lst.length]? with
        | none => rw [hx] at h1; cases h1
        | some x => rw [hx] at h1; cases h1; exact ⟨x.2, rfl⟩
      obtain ⟨ad, cs, rfl, hokb, hr, hc⟩ := Rd.RowOf.at_ (slice_row (Rd.mod HP.out.2.2.1 HQ.out.2.2 (fun _ _ => id))).2.2.2.2.2 hq
      obtain ⟨Aq, cq, rfl, -⟩ := id hr
      have y1 : wr.cell? (ad.add lst.length) = some (.slice Aq q.length cq) := by
        have := hc 0 _ rfl
        rwa [show lst.length * intsR.sz + 0 = lst.length from by show lst.length * 1 + 0 = lst.length; omega] at this
      have hmr := tr0 HP.out.2.2.2.1 HQ.out.2.2
      have hgo : getT L q = some o := getT_of_mem HX.out.2.2.2.2.1.asc (List.mem_of_getElem? ho)
      have hst : (L.take (lst.length + 1)).map (lineOf L) = (L.take lst.length).map (lineOf L) ++ [lineOf L (q, o)] := by
        rw [List.take_add_one, ho]; simp
      have hro := HX.out.2.2.2.2.1.right _ _ hgo
      have hq6 := (rightP_iff.1 (HX.out.2.2.2.2.1.path _ _ hgo)).1
      have hqr := uses_le_quota HX.out.2.2.2.2.1 hgo
      have hup := usesO_pos hro
      have hbr := below_range HX.out.2.2.2.2.1 hgo
      obtain ⟨qq, hqq⟩ : ∃ x, x = quotaT L q := ⟨_, rfl⟩
      obtain ⟨uu, huu⟩ : ∃ x, x = usesO o := ⟨_, rfl⟩
      obtain ⟨bb, hbb⟩ : ∃ x, x = belowC L q o := ⟨_, rfl⟩
      have hln : lineOf L (q, o) = ⟨q, qq, uu, bb⟩ := by unfold lineOf; rw [hqq, huu, hbb]
      have hg3 := HX.out.2.1 wr hmr Aq q.length cq q _ hr (by omega)
      have hqt := fun W (hW : Mod (fun _ => False) wr W) => HX.out.2.2.1 W (tr0 hmr hW) Aq q.length cq q _ (Rd.mod hr hW (fun _ _ => id)) (by omega)
      rw [← hqq] at hqt hqr
      rw [← huu] at hqr hup
      rw [← hbb] at hbr
      have hinr : Rd.inR .i64 qq ∧ Rd.inR .i64 uu ∧ Rd.inR .i64 bb := ⟨inR_mk (by omega), inR_mk (by omega), inR_mk (by omega)⟩
      rw [hgo] at hg3
      dsimp only [Option.isSome, Option.getD] at hg3
      have HR := Lib.hid (And.intro hmr (And.intro hg3 (And.intro hqt (And.intro hst (And.intro hro (And.intro hgo (And.intro hr (And.intro hln (And.intro hinr (And.intro huu hbb)))))))))); clear hmr hg3 hqt hst hro hgo hr hln hinr huu hbb hqq hqr hup hbr hq6 hc hokb ho hq hie
      go_wp2_with fail
      refine HR.out.2.1.mono ?_
      rintro e w6 ⟨o2, A1x, c1x, A2x, c2x, A4x, c4x, A5x, c5x, A7x, c7x, A9x, c9x, rfl, rfl, hcp⟩
      have HC5 := Lib.hid hcp; clear hcp
      go_wp2_with (refine wpList_box2 rfl rfl 39 _ _ rfl rfl [.int .i64 0, .slice none 0 0, .slice none 0 0, .int .i64 0, .slice none 0 0, .slice none 0 0, .int .i64 0, .slice none 0 0, .int .i64 0, .slice none 0 0] Tryz.infoOb3 rfl _ rfl (obC_one _ _ _ _ _ _ _ _ _ _ _ _ _) (fun _ => rfl) (fun _ => rfl) ?_)
      intro g5 w7 hg5 hb5 hm5
      have hob := Rd.mod (HC5.out.reads (by have := HR.out.2.2.2.2.1.kids.len; omega)) (hm5 fun _ => False) (fun _ _ => id)
      have hus := fun W (hW : Mod (fun _ => False) w7 W) => uses_m _ o2 _ W (Rd.mod hob hW (fun _ _ => id)) HR.out.2.2.2.2.1.kids
      have hm07 := tr0 HC5.out.mod (hm5 fun _ => False)
      have hqt := fun W (hW : Mod (fun _ => False) w7 W) => HR.out.2.2.1 W (tr0 hm07 hW)
      have hbl := fun W (hW : Mod (fun _ => False) w7 W) => HX.out.2.2.2.1 W (tr0 (tr0 HR.out.1 hm07) hW) Aq q.length cq q _ _ _ o2 HR.out.2.2.2.2.2.1 (Rd.mod HR.out.2.2.2.2.2.2.1 (tr0 hm07 hW) (fun _ _ => id)) (Rd.mod hob hW (fun _ _ => id))
      rw [← HR.out.2.2.2.2.2.2.2.2.2.1] at hus
      rw [← HR.out.2.2.2.2.2.2.2.2.2.2] at hbl
      have hb7 : w7.drew.heap[g5]? = some (.cells #[.int .i64 o2.kind, .slice A1x o2.label.length c1x, .slice A2x o2.kids.length c2x, .int .i64 o2.next, .slice A4x o2.bytes.length c4x, .slice A5x o2.own.length c5x, .int .i64 o2.cats, .slice A7x o2.entry.length c7x, .int .i64 o2.ring, .slice A9x o2.maps.length c9x] 39 (0, 0)) := hb5
      have y0 : w7.drew.cell? ⟨g5, 0, none⟩ = some (.int .i64 o2.kind) := by rw [cell_of_blk hb7]; rfl
      have y1 : w7.drew.cell? ⟨g5, 1, none⟩ = some (.slice A1x o2.label.length c1x) := by rw [cell_of_blk hb7]; rfl
      have y2 : w7.drew.cell? ⟨g5, 2, none⟩ = some (.slice A2x o2.kids.length c2x) := by rw [cell_of_blk hb7]; rfl
      have y3 : w7.drew.cell? ⟨g5, 3, none⟩ = some (.int .i64 o2.next) := by rw [cell_of_blk hb7]; rfl
      have y4 : w7.drew.cell? ⟨g5, 4, none⟩ = some (.slice A4x o2.bytes.length c4x) := by rw [cell_of_blk hb7]; rfl
      have y5 : w7.drew.cell? ⟨g5, 5, none⟩ = some (.slice A5x o2.own.length c5x) := by rw [cell_of_blk hb7]; rfl
      have y6 : w7.drew.cell? ⟨g5, 6, none⟩ = some (.int .i64 o2.cats) := by rw [cell_of_blk hb7]; rfl
      have y7 : w7.drew.cell? ⟨g5, 7, none⟩ = some (.slice A7x o2.entry.length c7x) := by rw [cell_of_blk hb7]; rfl
      have y8 : w7.drew.cell? ⟨g5, 8, none⟩ = some (.int .i64 o2.ring) := by rw [cell_of_blk hb7]; rfl
      have y9 : w7.drew.cell? ⟨g5, 9, none⟩ = some (.slice A9x o2.maps.length c9x) := by rw [cell_of_blk hb7]; rfl
      have HM := Lib.hid (And.intro hus (And.intro hqt (And.intro hbl (And.intro hm07 hb7)))); clear hus hqt hbl hm07 hob hb5 hm5 hg5 hb7
      have H7 := Lib.hid (Mod.refl (fun _ => False) w7).drew
      go_wp2_with fail
      go_region_law (first
        | (refine stepc_call2 rfl 10 _ _ _ (by rfl) (.pointer (some ⟨g, 0, none⟩)) (by rfl) (.slice Aq q.length cq) (by rfl) (tquota_cf _ _) (HM.out.2.1 _ H7.out) ?_
           rintro _ w8 ⟨rfl, hm8⟩
           refine ⟨_, rfl, ?_⟩
           have hb8 := (hm8.block g5 (lt_of_blk HM.out.2.2.2.2) id).trans HM.out.2.2.2.2
           have a0 : w8.cell? ⟨g5, 0, none⟩ = some (.int .i64 o2.kind) := by rw [cell_of_blk hb8]; rfl
           have a1 : w8.cell? ⟨g5, 1, none⟩ = some (.slice A1x o2.label.length c1x) := by rw [cell_of_blk hb8]; rfl
           have a2 : w8.cell? ⟨g5, 2, none⟩ = some (.slice A2x o2.kids.length c2x) := by rw [cell_of_blk hb8]; rfl
           have a3 : w8.cell? ⟨g5, 3, none⟩ = some (.int .i64 o2.next) := by rw [cell_of_blk hb8]; rfl
           have a4 : w8.cell? ⟨g5, 4, none⟩ = some (.slice A4x o2.bytes.length c4x) := by rw [cell_of_blk hb8]; rfl
           have a5 : w8.cell? ⟨g5, 5, none⟩ = some (.slice A5x o2.own.length c5x) := by rw [cell_of_blk hb8]; rfl
           have a6 : w8.cell? ⟨g5, 6, none⟩ = some (.int .i64 o2.cats) := by rw [cell_of_blk hb8]; rfl
           have a7 : w8.cell? ⟨g5, 7, none⟩ = some (.slice A7x o2.entry.length c7x) := by rw [cell_of_blk hb8]; rfl
           have a8 : w8.cell? ⟨g5, 8, none⟩ = some (.int .i64 o2.ring) := by rw [cell_of_blk hb8]; rfl
           have a9 : w8.cell? ⟨g5, 9, none⟩ = some (.slice A9x o2.maps.length c9x) := by rw [cell_of_blk hb8]; rfl
           have H8 := Lib.hid (And.intro (tr0 H7.out hm8) hb8)
           clear hm8 hb8)
        | (refine step_call rfl 13 _ _ (by rfl) (.agg #[.int .i64 o2.kind, .slice A1x o2.label.length c1x, .slice A2x o2.kids.length c2x, .int .i64 o2.next, .slice A4x o2.bytes.length c4x, .slice A5x o2.own.length c5x, .int .i64 o2.cats, .slice A7x o2.entry.length c7x, .int .i64 o2.ring, .slice A9x o2.maps.length c9x]) (by rfl) (tuses_cf _ _) (HM.out.1 _ H8.out.1) ?_
           rintro _ w9 ⟨rfl, hm9⟩
           refine ⟨_, rfl, ?_⟩
           have hb9 := (hm9.block g5 (lt_of_blk H8.out.2) id).trans H8.out.2
           have b0 : w9.cell? ⟨g5, 0, none⟩ = some (.int .i64 o2.kind) := by rw [cell_of_blk hb9]; rfl
           have b1 : w9.cell? ⟨g5, 1, none⟩ = some (.slice A1x o2.label.length c1x) := by rw [cell_of_blk hb9]; rfl
           have b2 : w9.cell? ⟨g5, 2, none⟩ = some (.slice A2x o2.kids.length c2x) := by rw [cell_of_blk hb9]; rfl
           have b3 : w9.cell? ⟨g5, 3, none⟩ = some (.int .i64 o2.next) := by rw [cell_of_blk hb9]; rfl
           have b4 : w9.cell? ⟨g5, 4, none⟩ = some (.slice A4x o2.bytes.length c4x) := by rw [cell_of_blk hb9]; rfl
           have b5 : w9.cell? ⟨g5, 5, none⟩ = some (.slice A5x o2.own.length c5x) := by rw [cell_of_blk hb9]; rfl
           have b6 : w9.cell? ⟨g5, 6, none⟩ = some (.int .i64 o2.cats) := by rw [cell_of_blk hb9]; rfl
           have b7 : w9.cell? ⟨g5, 7, none⟩ = some (.slice A7x o2.entry.length c7x) := by rw [cell_of_blk hb9]; rfl
           have b8 : w9.cell? ⟨g5, 8, none⟩ = some (.int .i64 o2.ring) := by rw [cell_of_blk hb9]; rfl
           have b9 : w9.cell? ⟨g5, 9, none⟩ = some (.slice A9x o2.maps.length c9x) := by rw [cell_of_blk hb9]; rfl
           have H9 := Lib.hid (tr0 H8.out.1 hm9)
           clear hm9 hb9)
        | (refine stepc_call3 rfl 36 _ _ _ _ (by rfl) (.pointer (some ⟨g, 0, none⟩)) (by rfl) (.slice Aq q.length cq) (by rfl) (.agg #[.int .i64 o2.kind, .slice A1x o2.label.length c1x, .slice A2x o2.kids.length c2x, .int .i64 o2.next, .slice A4x o2.bytes.length c4x, .slice A5x o2.own.length c5x, .int .i64 o2.cats, .slice A7x o2.entry.length c7x, .int .i64 o2.ring, .slice A9x o2.maps.length c9x]) (by rfl) (qbelow_cf _ _) (HM.out.2.2.1 _ H9.out) ?_
           rintro _ w10 ⟨rfl, hm10⟩
           refine ⟨_, rfl, ?_⟩
           have H10 := Lib.hid (tr0 H9.out hm10)
           clear hm10)
        | (refine step_append_rd (R := LineR) B rfl _ _ 47 50 (.agg #[.slice none 0 0, .int .i64 0, .int .i64 0, .int .i64 0]) 48 rfl Tryz.underlying47 Tryz.info_line rfl (by decide) (.slice A lst.length c) lst ⟨q, qq, uu, bb⟩ [.slice Aq q.length cq, .int .i64 qq, .int .i64 uu, .int .i64 bb] (fun k => w.heap.size ≤ k ∧ k < B) rfl rfl (HQ.out.2.1.mod (tr0 HM.out.2.2.2.1 H10.out) (fun _ _ => id) (fun _ _ _ => id)) (LineR_mk ⟨q, qq, uu, bb⟩ (Rd.mono (Rd.mod HR.out.2.2.2.2.2.2.1 (tr0 HM.out.2.2.2.1 H10.out) (fun _ _ => id)) (fun k hk => ⟨by have := HP.out.2.2.2.2.2; exact ⟨hk.1, by omega⟩, fun e => by have := (own_ge HQ.out.2.1 e.symm).1; have := HP.out.2.2.2.2.2; omega⟩)) HR.out.2.2.2.2.2.2.2.2.1.1 HR.out.2.2.2.2.2.2.2.2.1.2.1 HR.out.2.2.2.2.2.2.2.2.1.2.2) (by have := HP.out.2.2.2.2.2; have := (tr0 HQ.out.2.2 (tr0 HM.out.2.2.2.1 H10.out)).size; omega) (by omega) ?_
           intro A8 c8 w11 hO8 hm11 hn8
           have hm311 : Mod (fun _ => False) w3 w11 := (tr0 HQ.out.2.2 (tr0 HM.out.2.2.2.1 H10.out)).trans hm11 (fun k hk => .inr (by have := (own_ge HQ.out.2.1 hk).1; have := HP.out.2.2.2.2.2; omega))
           have H11 := Lib.hid (And.intro hO8 hm311)
           clear hO8 hm11 hn8 hm311))
      all_goals go_wp2_with fail
      all_goals
        go_roundg (ps.length - (lst.length + 1))
        case measure => omega
        case rel => exact ⟨A8, c8, lst ++ [⟨q, qq, uu, bb⟩], by rw [List.length_append]; go_num, by simp, by simp; omega, Lib.hid ⟨by rw [List.length_append, List.length_singleton, HR.out.2.2.2.1, HR.out.2.2.2.2.2.2.2.1, ← HQ.out.1], by rw [List.length_append]; exact H11.out.1, H11.out.2⟩⟩
    · obtain ⟨hll⟩ : Nonempty (lst.length = ps.length) := ⟨by omega⟩
      have hzz : z = lst := by rw [HX.out.1, HQ.out.1, hll, HP.out.2.1, List.take_length]
      subst hzz
      have HL := Lib.hid hll; clear hll
      go_wp2_with fail
      go_ret
      refine ⟨A, c, rfl, Rd.mono (HQ.out.2.1.reads (bytes := 48) (by omega)) (fun k hk => ?_), tr0 HP.out.2.2.2.1 HQ.out.2.2⟩
      rcases hk with hk | hk
      · exact hk.1
      · have := (own_ge HQ.out.2.1 hk).1
        have h1 := HP.out.2.2.2.2.1
        have h2 := HP.out.2.2.2.2.2
        omega
end Go.Proofs.YtefedalnafjcfaaGreatDoor

namespace Go.Proofs.YtefedalnafjcfaaGreatDoor
open Go.RowKit
set_option linter.unusedVariables false
def segO : Ob := { zeroOb with kind := 2 }
def qOne : Tab := [([], { zeroOb with kind := 1, kids := [⟨0, 2, 30⟩], next := 1 }), ([0], segO)]
def qTwo (a b : Int) : Tab := [([], { zeroOb with kind := 1, kids := [⟨0, 2, a⟩, ⟨1, 2, b⟩], next := 2 }), ([0], segO), ([1], segO)]
theorem segO_right : RightOb segO :=
  ⟨by decide, rightL_nil, ⟨by simp [segO, zeroOb], by simp [segO, zeroOb], List.Pairwise.nil, by decide⟩, by simp [segO, zeroOb], rightO_nil, by decide, rightL_nil, by decide, ⟨by simp [segO, zeroOb], by simp [segO, zeroOb], List.Pairwise.nil⟩, by decide⟩
theorem flows_nil : flowsLB [] [] = true := flowsLB_iff.2 (flowsL_refl rightL_nil)
theorem add_first : addE newT [] segO 30 = 0 ∧ addT newT [] segO 30 = qOne := by
  have h1 : addE newT [] segO 30 = 0 := by
    have hr : rightOb segO = true := rightOb_iff.2 segO_right
    have hf : flowsLB ({ zeroOb with kind := 1 } : Ob).label segO.label = true := flows_nil
    show (if ({ zeroOb with kind := 1 } : Ob).kind ≠ 1 then 31 else if !(rightOb segO && decide (segO.kids = []) && decide (segO.next = 0) && inQ 30) then 2 else if !flowsLB ({ zeroOb with kind := 1 } : Ob).label segO.label then 21 else _) = (0 : Int)
    rw [hr, hf]
    decide
  refine ⟨h1, ?_⟩
  show (if addE newT [] segO 30 = 0 then layT (layT newT [] (withKid { zeroOb with kind := 1 } ⟨0, 2, 30⟩)) [0] segO else newT) = qOne
  rw [if_pos h1]
  rfl
theorem add_second : addE qOne [] segO 30 = 0 ∧ addT qOne [] segO 30 = qTwo 30 30 := by
  have h1 : addE qOne [] segO 30 = 0 := by
    have hr : rightOb segO = true := rightOb_iff.2 segO_right
    have hf : flowsLB ({ zeroOb with kind := 1, kids := [⟨0, 2, 30⟩], next := 1 } : Ob).label segO.label = true := flows_nil
    show (if ({ zeroOb with kind := 1, kids := [⟨0, 2, 30⟩], next := 1 } : Ob).kind ≠ 1 then 31 else if !(rightOb segO && decide (segO.kids = []) && decide (segO.next = 0) && inQ 30) then 2 else if !flowsLB ({ zeroOb with kind := 1, kids := [⟨0, 2, 30⟩], next := 1 } : Ob).label segO.label then 21 else _) = (0 : Int)
    rw [hr, hf]
    decide
  refine ⟨h1, ?_⟩
  show (if addE qOne [] segO 30 = 0 then layT (layT qOne [] (withKid { zeroOb with kind := 1, kids := [⟨0, 2, 30⟩], next := 1 } ⟨1, 2, 30⟩)) [1] segO else qOne) = qTwo 30 30
  rw [if_pos h1]
  rfl
theorem valid_one : ValidT qOne := by have := valid_add valid_new [] segO 30; rwa [add_first.2] at this
theorem valid_two : ValidT (qTwo 30 30) := by have := valid_add valid_one [] segO 30; rwa [add_second.2] at this
theorem move_first : moveE (qTwo 30 30) [0] 5 = 0 := by decide
theorem move_firstT : moveT (qTwo 30 30) [0] 5 = qTwo 35 30 := by
  unfold moveT
  rw [if_pos move_first]
  rfl
theorem valid_three : ValidT (qTwo 35 30) := by have := valid_move valid_two [0] 5; rwa [move_firstT] at this
theorem shift_first : shiftE (qTwo 35 30) [0] [1] 19 = 0 := by decide
theorem shift_firstT : shiftT (qTwo 35 30) [0] [1] 19 = qTwo 16 49 := by
  unfold shiftT
  rw [if_pos shift_first]
  rfl
theorem valid_four : ValidT (qTwo 16 49) := by have := valid_shift valid_three [0] [1] 19; rwa [shift_firstT] at this
theorem shift_last : shiftE (qTwo 16 49) [0] [1] 1 = 33 := by decide
theorem shift_lastT : shiftT (qTwo 16 49) [0] [1] 1 = qTwo 16 49 := by
  unfold shiftT
  rw [shift_last]
  rfl
theorem deep_first : deepC (qTwo 16 49) [] = 48 := by decide
end Go.Proofs.YtefedalnafjcfaaGreatDoor

namespace Go.Proofs.YtefedalnafjcfaaGreatDoor
open Go.RowKit
theorem run_str1 {P : Program} (w : World) (b : UInt8) (src dst e : TypeId) (hs : P.underlying src = some (.slice e)) (he : P.underlying e = some (.int .u8)) (hd : P.underlying dst = some .string) (n : Int) (hn : n = (b.toNat : Int)) (g : Nat) (hg : w.heap[g]? = some (.cells #[.int .u8 n] e (0, 0))) :
    (convert src dst (.slice (some ⟨g, 0, none⟩) 1 1)).run P w = .ok (.string (mkStr [b])) w := by
  subst hn
  refine run_convert_bytes_back w src dst e ⟨g, 0, none⟩ 1 [b] hs he hd (fun j hj => ?_)
  have : j = 0 := by simpa using hj
  subst this
  simp [Addr.add, World.cell?, hg]
theorem run_str1_new {P : Program} (b : UInt8) (src dst e : TypeId) (hs : P.underlying src = some (.slice e)) (he : P.underlying e = some (.int .u8)) (hd : P.underlying dst = some .string) (n : Int) (hn : n = (b.toNat : Int)) (w : World) :
    (convert src dst (.slice (some ⟨w.heap.size, 0, none⟩) 1 1)).run P (w.alloc (.cells #[.int .u8 n] e)) = .ok (.string (mkStr [b])) (w.alloc (.cells #[.int .u8 n] e)) :=
  run_str1 _ b src dst e hs he hd n hn _ (heap_alloc_new w _)
theorem run_str1_drew {P : Program} (b : UInt8) (src dst e : TypeId) (hs : P.underlying src = some (.slice e)) (he : P.underlying e = some (.int .u8)) (hd : P.underlying dst = some .string) (n : Int) (hn : n = (b.toNat : Int)) (w : World) :
    (convert src dst (.slice (some ⟨w.heap.size, 0, none⟩) 1 1)).run P (w.alloc (.cells #[.int .u8 n] e)).drew = .ok (.string (mkStr [b])) (w.alloc (.cells #[.int .u8 n] e)).drew :=
  run_str1 _ b src dst e hs he hd n hn _ (heap_alloc_new w _)
set_option maxRecDepth 100000 in
theorem refnum_small (n : Int) (w : World) (h0 : 0 ≤ n) (hlt : n < 128) :
    Calls Tryz.prog 80 #[.int .i64 n] w fun e w' => e = .returned (.string (mkStr [u8 n])) ∧ Mod (fun _ => False) w w' := by
  have hcv := run_str1_new (P := Tryz.prog) (u8 n) 22 9 5 Tryz.underlying22 Tryz.underlying5 Tryz.underlying9 n (u8_toNat n h0 (by omega)).symm w
  go_enter Tryz.func80, Tryz.ntmps80
  go_wp2
  go_ret
  exact ⟨rfl, (Mod.refl _ _).alloc _⟩
theorem mkStr_append (a b : List UInt8) : mkStr a ++ mkStr b = mkStr (a ++ b) := by
  apply ByteArray.ext; simp [mkStr]
theorem run_add_strs {P : Program} (a b : List UInt8) (h : a.length + b.length ≤ 9223372036854775807) (w : World) : (Op.stringOp .add (mkStr a) (mkStr b)).run P w = .ok (.string (mkStr (a ++ b))) w := by
  rw [run_string_add_sum w _ _ (by rw [mkStr_size, mkStr_size]; exact h), mkStr_append]
set_option maxRecDepth 100000 in
set_option maxHeartbeats 400000 in
theorem refnum_any (f : Nat) : f ≤ 100 → ∀ (n : Int) (w : World), 0 ≤ n → n ≤ 4611686018427387903 → n < 128 ^ (f + 1) →
    Calls Tryz.prog 80 #[.int .i64 n] w fun e w' => e = .returned (.string (mkStr (encF (f + 1) n))) ∧ Mod (fun _ => False) w w' := by
  induction f with
  | zero =>
    intro _ n w h0 h1 hf
    have hlt : n < 128 := by simpa using hf
    rw [encF_lt _ _ hlt]
    exact refnum_small n w h0 hlt
  | succ f ih =>
    intro hf0 n w h0 h1 hf
    by_cases hlt : n < 128
    · rw [encF_lt _ _ hlt]
      exact refnum_small n w h0 hlt
    have hf2 : n / 128 < 128 ^ (f + 1) := by
      rw [Int.pow_succ] at hf; generalize (128 : Int) ^ (f + 1) = p at *; omega
    rw [encF_ge _ _ hlt]
    have IH := fun W => ih (by omega) (n / 128) W (by omega) (by omega) hf2
    clear hf ih hf2
    have hq : n.tdiv 128 = n / 128 := Int.tdiv_eq_ediv_of_nonneg h0
    have hr : n.tmod 128 = n % 128 := Int.tmod_eq_emod_of_nonneg h0
    have hw1 : IntKind.i64.wrap (n / 128) = n / 128 := IntWalk.i64_in _ (by omega)
    have hw2 : IntKind.i64.wrap (128 + n % 128) = n % 128 + 128 := (IntWalk.i64_in _ (by omega)).trans (by omega)
    have hw3 : IntKind.u8.wrap (n % 128 + 128) = n % 128 + 128 := IntWalk.u8_in _ (by omega)
    have hcv := run_str1_new (P := Tryz.prog) (u8 (n % 128 + 128)) 22 9 5 Tryz.underlying22 Tryz.underlying5 Tryz.underlying9 (n % 128 + 128) (u8_toNat _ (by omega) (by omega)).symm
    have hcd := run_str1_drew (P := Tryz.prog) (u8 (n % 128 + 128)) 22 9 5 Tryz.underlying22 Tryz.underlying5 Tryz.underlying9 (n % 128 + 128) (u8_toNat _ (by omega) (by omega)).symm
    have hadd := run_add_strs (P := Tryz.prog) [u8 (n % 128 + 128)] (encF (f + 1) (n / 128)) (by have := encF_len (f + 1) (n / 128); simp; omega)
    go_enter Tryz.func80, Tryz.ntmps80
    go_wp2
    go_region_with (first | (go_at_call 80; refine (IH _).mono ?_; rintro e w' ⟨rfl, HM⟩; try (have hc2 := run_str1 (P := Tryz.prog) w' (u8 (n % 128 + 128)) 22 9 5 Tryz.underlying22 Tryz.underlying5 Tryz.underlying9 (n % 128 + 128) (u8_toNat _ (by omega) (by omega)).symm w.heap.size ((HM.block w.heap.size (by simp) (fun h => h)).trans (heap_alloc_new w _)))))
    all_goals
      clear hcv hcd hadd hw1 hw2 hw3 hq hr
      go_wp2
      go_ret
      first
        | exact ⟨rfl, ((Mod.refl _ w).drew.trans HM (by simp)).alloc _⟩
        | exact ⟨rfl, (((Mod.refl _ w).alloc _).drew.trans HM (by simp))⟩
        | exact ⟨rfl, (((Mod.refl _ w).drew.alloc _).trans HM (by simp))⟩
set_option maxRecDepth 100000 in
theorem reftext_any (s : ByteArray) (hs : s.size ≤ 1000000000) (w : World) :
    Calls Tryz.prog 112 #[.string s] w fun e w' => e = .returned (.string (mkStr (encF 10 s.size ++ s.data.toList))) ∧ Mod (fun _ => False) w w' := by
  have hadd := run_add_strs (P := Tryz.prog) (encF 10 s.size) s.data.toList (by have := encF_len 10 (s.size : Int); simp; omega)
  rw [list_mkStr] at hadd
  go_enter Tryz.func112, Tryz.ntmps112
  go_wp2_with (go_at_call 80; refine (refnum_any 9 (by decide) s.size _ (by omega) (by omega) (by omega)).mono ?_; rintro e w' ⟨rfl, HM⟩)
  go_ret
  exact ⟨rfl, HM⟩
end Go.Proofs.YtefedalnafjcfaaGreatDoor

