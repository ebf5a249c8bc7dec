/- Part of this claim's proof (of texts Qta10, QtaX, joined by program). -/
import Derived.Deep.DeepCutAuto
import Derived.Test.YtefedalnafjcfaaGreatDoorH01
namespace Go.Proofs.YtefedalnafjcfaaGreatDoor
open Go.RowKit Go.Shelf
set_option linter.unusedVariables false
theorem move_some {L : Tab} (hv : ValidT L) (p : List Int) (n : Int) (r : List Int) : (getT (moveT L p n) r).isSome = (getT L r).isSome := by
  by_cases h : moveE L p n = 0
  · obtain ⟨u, c, k, o, hs, ho, hc, hk, hq, -, -, -, -, hm⟩ := move_zero hv h
    rw [hm, layT_get hv.asc]
    split
    · next e => rw [e, hc]; rfl
    · rfl
  · rw [move_not h]
theorem shift_some {L : Tab} (hv : ValidT L) (a b : List Int) (n : Int) (r : List Int) : (getT (shiftT L a b n) r).isSome = (getT L r).isSome := by
  unfold shiftT
  split
  · rw [move_some (valid_move hv _ _), move_some hv]
  · rfl
theorem deep_quota {L : Tab} (hv : ValidT L) {p : List Int} {o : Ob} (ho : getT L p = some o) : deepC L p ≤ quotaT L p := by
  rw [deep_eq hv]
  exact Int.le_trans (deep_le hv ho) (uses_le_quota hv ho).1
set_option maxRecDepth 100000 in
set_option maxHeartbeats 8000000 in
theorem quotaHolds_mod (A : Option Addr) (n c : Nat) (bs : List UInt8) (m : Int) (ok : Nat → Prop) (w : World) (h : bytesR.rel w ok [.slice A n c] bs) (hm : 0 ≤ m ∧ m ≤ 255) (E : Env w) :
    Calls Tryz.prog 3 #[.slice A n c, .int .u8 m] w fun e w' => e = .returned (.bool true) ∧ Mod (fun _ => False) w w' := by
  have hfi := first10_any w E
  have hld := fun W (hW : Mod (fun _ => False) w W) => loadTab_any (.slice A n c) bs _ W (Rd.mod (Rd.bound h) hW (fun _ _ => id)) (E.mod0 hW)
  have HX := Lib.hid (And.intro hfi (And.intro hld E)); clear hfi hld E h
  go_enter Tryz.func3, Tryz.ntmps3
  go_wp2_with fail
  refine HX.out.1.mono ?_
  rintro e w1 ⟨rfl, hm1⟩
  have H1 := Lib.hid hm1; clear hm1
  by_cases hn : 3000 < n
  · go_wp2_with fail
    go_ret
    exact ⟨rfl, H1.out⟩
  go_wp2_with fail
  refine (HX.out.2.1 w1 H1.out).mono ?_
  rintro e w2 ⟨hno, hyes, hm2⟩
  have H2 := Lib.hid (tr0 H1.out hm2); clear hm2
  cases hl : loadT bs with
  | none =>
    obtain rfl := hno hl
    clear hyes hno hl
    go_wp2_with fail
    go_ret
    exact ⟨rfl, H2.out⟩
  | some L =>
    obtain ⟨g, mb, rfl, hgl, hml, hT⟩ := hyes L hl
    have hv := loadT_valid hl
    clear hyes hno hl
    have hs1 := H1.out.size
    have hs2 := H2.out.size
    have F2 : FS w w2 g mb L := ⟨hT.wide, HX.out.2.2.mod0 H2.out, H2.out, by omega, by omega⟩
    have hpt := paths_any _ g mb L w2 F2.t (fun x hx => hv.path _ _ (getT_of_mem hv.asc (p := x.1) (o := x.2) hx)) (by have := valid_small hv; omega) F2.e
    have hgm := F2.t.ltm
    obtain ⟨ps, hps⟩ : ∃ ps, ps = L.map (·.1) := ⟨_, rfl⟩
    rw [← hps] at hpt
    have hpl : ps.length ≤ 65536 := by rw [hps, List.length_map]; exact valid_small hv
    have hin : ∀ q ∈ ps, (getT L q).isSome = true := fun q hq => by
      rw [hps] at hq
      obtain ⟨x, hx, rfl⟩ := List.mem_map.1 hq
      rw [getT_of_mem hv.asc (p := x.1) (o := x.2) hx]; rfl
    have HL := Lib.hid (And.intro F2 (And.intro hpt (And.intro hv (And.intro hin hgm)))); clear F2 hpt hv hin hps hT hgm hs1 hs2 hgl hml
    go_wp2_with fail
    refine HL.out.2.1.mono ?_
    rintro e w3 ⟨Ap, cp, Sp, rfl, hOp, hSp, hm3⟩
    have hrp := Rd.mono (Rd.bound (hOp.reads (bytes := 24) (by omega))) (ok1 := fun k => w2.heap.size ≤ k ∧ k < w3.heap.size) (fun k hk => by
      refine ⟨?_, hk.2⟩
      rcases hk.1 with h | h
      · exact hSp k h
      · exact (own_ge hOp h).1)
    have HP := Lib.hid (And.intro hrp (And.intro hm3 (HL.out.1.quiet hm3))); clear hrp hm3 hOp hSp
    go_wp2_with fail
    go_loopg [33] ps.length (fun f s33 wr => ∃ i : Nat, s33 = .int .i64 i ∧ i + f = ps.length ∧ ∃ M : Tab, Hid (FS w wr g mb M ∧ ValidT M ∧ (∀ q ∈ ps, (getT M q).isSome = true) ∧ Mod (fun k => k = mb) w3 wr))
    case atStart => exact ⟨0, rfl, by omega, L, Lib.hid ⟨HP.out.2.2, HL.out.2.2.1, HL.out.2.2.2.1, .refl _ _⟩⟩
    case round =>
      obtain ⟨i, rfl, hi, M, HI⟩ := hrel
      by_cases hil : i < ps.length
      · obtain ⟨q, hq⟩ : ∃ q, ps[i]? = some q := ⟨_, List.getElem?_eq_getElem hil⟩
        have hqm := List.mem_of_getElem? hq
        obtain ⟨o, hgo⟩ : ∃ o, getT M q = some o := Option.isSome_iff_exists.1 (HI.out.2.2.1 q hqm)
        have hv := HI.out.2.1
        have hq6 := (rightP_iff.1 (hv.path _ _ hgo)).1
        have hro := hv.right _ _ hgo
        have hgm := HL.out.2.2.2.2
        obtain ⟨ad, csx, rfl, hokb, hr, hc⟩ := Rd.RowOf.at_ (slice_row (Rd.mod HP.out.1 HI.out.2.2.2 (fun k hk e => by omega))).2.2.2.2.2 hq
        obtain ⟨Aq, cq, rfl, -⟩ := id hr
        have y1 : wr.cell? (ad.add i) = some (.slice Aq q.length cq) := by
          have := hc 0 _ rfl
          rwa [show i * intsR.sz + 0 = i from by show i * 1 + 0 = i; omega] at this
        have hfv := (free_val hv q).2.2 o hgo
        have hfr := HI.out.1.free hv hr (by omega)
        have hdq := deep_quota hv hgo
        obtain ⟨fv, hfve⟩ : ∃ x, x = freeT M q := ⟨_, rfl⟩
        obtain ⟨dv, hdve⟩ : ∃ x, x = deepC M q := ⟨_, rfl⟩
        obtain ⟨qv, hqve⟩ : ∃ x, x = quotaT M q := ⟨_, rfl⟩
        rw [← hfve] at hfv hfr
        rw [← hdve, ← hqve] at hdq
        have d1 : decide (fv < 0) = false := decide_eq_false (by omega)
        have d2 : decide (qv < dv) = false := decide_eq_false (by omega)
        have HR := Lib.hid (And.intro hr (And.intro hgo (And.intro hro (And.intro hfr (And.intro hdve hqve))))); clear hr hgo hro hfr hdve hqve hfve hfv hdq hc hokb hq hqm
        go_wp2_with fail
        refine HR.out.2.2.2.1.mono ?_
        rintro e w4 ⟨rfl, hm4⟩
        have F4 := HI.out.1.quiet hm4
        have hdp := F4.deep hv (Rd.mod HR.out.1 hm4 (fun _ _ => id))
        rw [← HR.out.2.2.2.2.1] at hdp
        have H4 := Lib.hid (And.intro hm4 (And.intro F4 hdp)); clear hm4 F4 hdp
        go_wp2_with fail
        refine H4.out.2.2.mono ?_
        rintro e w5 ⟨rfl, hm5⟩
        have F5 := H4.out.2.1.quiet hm5
        have hqp := F5.quota hv (Rd.mod HR.out.1 (tr0 H4.out.1 hm5) (fun _ _ => id)) (by omega)
        rw [← HR.out.2.2.2.2.2] at hqp
        have H5 := Lib.hid (And.intro (tr0 H4.out.1 hm5) (And.intro F5 hqp)); clear hm5 F5 hqp
        go_wp2_with fail
        refine H5.out.2.2.mono ?_
        rintro e w6 ⟨rfl, hm6⟩
        have F6 := H5.out.2.1.quiet hm6
        have hm6r := tr0 H5.out.1 hm6
        have hgt := getTab_any _ g mb M Aq q.length cq q _ w6 F6.t (Rd.mod HR.out.1 hm6r (fun _ _ => id)) (by omega) F6.e
        rw [HR.out.2.1] at hgt
        dsimp only [Option.isSome, Option.getD] at hgt
        have H6 := Lib.hid (And.intro hm6r (And.intro F6 hgt)); clear hm6 hm6r F6 hgt
        go_wp2_with fail
        refine H6.out.2.2.mono ?_
        rintro e w7 ⟨o2, A1x, c1x, A2x, c2x, A4x, c4x, A5x, c5x, A7x, c7x, A9x, c9x, rfl, rfl, hcp⟩
        have HC7 := Lib.hid hcp; clear hcp
        go_wp2_with (refine wpList_box2 rfl rfl 39 _ _ rfl rfl [.int .i64 0, .slice none 0 0, .slice none 0 0, .int .i64 0, .slice none 0 0, .slice none 0 0, .int .i64 0, .slice none 0 0, .int .i64 0, .slice none 0 0] Tryz.infoOb3 rfl _ rfl (obC_one _ _ _ _ _ _ _ _ _ _ _ _ _) (fun _ => rfl) (fun _ => rfl) ?_)
        intro g9 w8 hg9 hb9 hm8
        have hm68 := tr0 HC7.out.mod (hm8 fun _ => False)
        have x0 : w8.cell? ⟨g9, 0, none⟩ = some (.int .i64 o2.kind) := by rw [cell_of_blk hb9]; rfl
        have x1 : w8.cell? ⟨g9, 1, none⟩ = some (.slice A1x o2.label.length c1x) := by rw [cell_of_blk hb9]; rfl
        have x2 : w8.cell? ⟨g9, 2, none⟩ = some (.slice A2x o2.kids.length c2x) := by rw [cell_of_blk hb9]; rfl
        have x3 : w8.cell? ⟨g9, 3, none⟩ = some (.int .i64 o2.next) := by rw [cell_of_blk hb9]; rfl
        have x4 : w8.cell? ⟨g9, 4, none⟩ = some (.slice A4x o2.bytes.length c4x) := by rw [cell_of_blk hb9]; rfl
        have x5 : w8.cell? ⟨g9, 5, none⟩ = some (.slice A5x o2.own.length c5x) := by rw [cell_of_blk hb9]; rfl
        have x6 : w8.cell? ⟨g9, 6, none⟩ = some (.int .i64 o2.cats) := by rw [cell_of_blk hb9]; rfl
        have x7 : w8.cell? ⟨g9, 7, none⟩ = some (.slice A7x o2.entry.length c7x) := by rw [cell_of_blk hb9]; rfl
        have x8 : w8.cell? ⟨g9, 8, none⟩ = some (.int .i64 o2.ring) := by rw [cell_of_blk hb9]; rfl
        have x9 : w8.cell? ⟨g9, 9, none⟩ = some (.slice A9x o2.maps.length c9x) := by rw [cell_of_blk hb9]; rfl
        have hob := Rd.mod (HC7.out.reads (by have := HR.out.2.2.1.kids.len; omega)) (hm8 fun _ => False) (fun _ _ => id)
        have H8 := Lib.hid (And.intro (tr0 H6.out.1 hm68) (And.intro (H6.out.2.1.quiet hm68) (And.intro hob (And.intro hb9 hg9)))); clear hm68 hob hb9 hg9 hm8
        by_cases hk2 : o2.kids.length < 2
        · go_wp2_with fail
          go_roundg (ps.length - (i + 1))
          case measure => omega
          case rel => exact ⟨i + 1, by go_num, by omega, M, Lib.hid ⟨H8.out.2.1, HI.out.2.1, HI.out.2.2.1, HI.out.2.2.2.trans (H8.out.1.mono (fun _ h => h.elim) : Mod (fun k => k = mb) wr w8) (fun k hk => .inl hk)⟩⟩
        · have hlen2 : 2 ≤ o2.kids.length := by omega
          obtain ⟨k0, hk0⟩ : ∃ k, o2.kids[0]? = some k := ⟨_, List.getElem?_eq_getElem (by omega)⟩
          obtain ⟨k1, hk1⟩ : ∃ k, o2.kids[1]? = some k := ⟨_, List.getElem?_eq_getElem (by omega)⟩
          have hasc := HR.out.2.2.1.kids.asc
          have hne : k0.n ≠ k1.n := by
            have h0 : (o2.kids.map (·.n))[0]? = some k0.n := by rw [List.getElem?_map, hk0]; rfl
            have h1 : (o2.kids.map (·.n))[1]? = some k1.n := by rw [List.getElem?_map, hk1]; rfl
            obtain ⟨l0, e0⟩ := List.getElem?_eq_some_iff.1 h0
            obtain ⟨l1, e1⟩ := List.getElem?_eq_some_iff.1 h1
            have := List.pairwise_iff_getElem.1 hasc 0 1 l0 l1 (by omega)
            omega
          have HK := Lib.hid (And.intro hk0 (And.intro hk1 hne)); clear hk0 hk1 hasc hne hlen2
          go_upto_region 15 with fail
          go_cut [11, 12] (fun s11 s12 wx => ∃ (Aa : Option Addr) (ca : Nat) (Az : Option Addr) (cz : Nat), s11 = .slice Aa (q.length + 1) ca ∧ s12 = .slice Az (q.length + 1) cz ∧ Hid (intsR.rel wx (fun k => w8.heap.size ≤ k) [.slice Aa (q.length + 1) ca] (q ++ [k0.n]) ∧ intsR.rel wx (fun k => w8.heap.size ≤ k) [.slice Az (q.length + 1) cz] (q ++ [k1.n]) ∧ Mod (fun _ => False) w8 wx))
          case first =>
            have hlen2 : 2 ≤ o2.kids.length := by omega
            have hrq := Rd.mod HR.out.1 H8.out.1 (fun _ _ => id)
            have hkrow := slice_row (ObR_kids H8.out.2.2.1)
            obtain ⟨ad, cs0, hA2, -, hr0, hc0⟩ := Rd.RowOf.at_ hkrow.2.2.2.2.2 HK.out.1
            obtain ⟨ad', cs1, hA2', -, hr1, hc1⟩ := Rd.RowOf.at_ hkrow.2.2.2.2.2 HK.out.2.1
            rw [hA2] at hA2'
            cases hA2'
            obtain rfl := KidR_cells hr0
            obtain rfl := KidR_cells hr1
            have hk0r := HR.out.2.2.1.kids.each k0 (List.mem_of_getElem? HK.out.1)
            have hk1r := HR.out.2.2.1.kids.each k1 (List.mem_of_getElem? HK.out.2.1)
            have hnxr := HR.out.2.2.1.kids.next
            have hin0 : Rd.inR .i64 k0.n := inR_mk (by omega)
            have hin1 : Rd.inR .i64 k1.n := inR_mk (by omega)
            have hc0' : w8.cell? ad = some (.int .i64 k0.n) := hc0 0 _ rfl
            have hc1' : w8.cell? ⟨ad.block, ad.off + 3, none⟩ = some (.int .i64 k1.n) := hc1 0 _ rfl
            have hcg : w8.cell? ⟨g9, 2, none⟩ = some (.slice (some ad) o2.kids.length c2x) := by rw [← hA2]; exact x2
            have cg : ∀ (a : Act) (w : World), Mod (fun _ => False) w8 w → w.cell? ⟨g9, 2, none⟩ = some (.slice (some ad) o2.kids.length c2x) := fun a w hm => (hm.cell (lt_of_cell hcg) id).trans hcg
            have ck0 : ∀ (a : Act) (w : World), Mod (fun _ => False) w8 w → w.cell? ad = some (.int .i64 k0.n) := fun a w hm => (hm.cell (lt_of_cell hc0') id).trans hc0'
            have ck1 : ∀ (a : Act) (w : World), Mod (fun _ => False) w8 w → w.cell? ⟨ad.block, ad.off + 3, none⟩ = some (.int .i64 k1.n) := fun a w hm => (hm.cell (lt_of_cell hc1') id).trans hc1'
            refine wp_region_inv [60, 61, 62, 63, 64, 65, 66, 67, 68, 69, 70, 71, 72, 73, 74, 75, 76, 77, 78, 79, 11, 12] (J15 ⟨w8, q, .slice Aq q.length cq, k0.n, k1.n, .pointer (some ⟨g9, 2, none⟩), .slice (some ad) o2.kids.length c2x, .pointer (some ad), .pointer (some ⟨ad.block, ad.off + 3, none⟩)⟩) (by kernel_rfl) (by kernel_rfl) (by kernel_rfl) (fun t ht => show t < 146 from (by decide : ∀ t ∈ [60, 61, 62, 63, 64, 65, 66, 67, 68, 69, 70, 71, 72, 73, 74, 75, 76, 77, 78, 79, 11, 12], t < 146) t ht) ⟨(Mod.refl (fun _ => False) w8).drew, fun e => (by cases e), fun e => (by cases e), fun e => (by cases e), fun e => (by cases e), fun e => (by cases e), fun e => (by cases e), fun e => (by cases e), fun e => (by cases e), fun e => (by cases e), fun e => (by cases e), fun e => (by cases e), fun e => (by cases e), fun e => (by cases e), fun e => (by cases e), fun e => (by cases e), fun e => (by cases e), fun e => (by cases e), fun e => (by cases e), fun e => (by cases e), fun e => (by cases e), fun e => (by cases e), fun e => (by cases e)⟩ ?hstep ?hend
            case hstep =>
              intro i o ho d a w hF hJ hdi hdep hcl K hK
              have e8 : slotN a 8 = .slice Aq q.length cq := (hF.eval (by decide)).trans rfl
              have e9 : slotN a 9 = .pointer (some ⟨g9, 0, none⟩) := (hF.eval (by decide)).trans rfl
              have no2 : d 0 = false → d 2 = false := fun h0 => by
                cases h2 : d 2 with
                | false => rfl
                | true => have := hcl 2 _ rfl h2 ⟨0, .data⟩ (by simp) rfl; rw [h0] at this; cases this
              have no9 : d 0 = false → d 9 = false := fun h0 => by
                cases h9 : d 9 with
                | false => rfl
                | true => have := hcl 9 _ rfl h9 ⟨2, .data⟩ (by simp) rfl; rw [no2 h0] at this; cases this
              have no12 : d 10 = false → d 12 = false := fun h0 => by
                cases h2 : d 12 with
                | false => rfl
                | true => have := hcl 12 _ rfl h2 ⟨10, .data⟩ (by simp) rfl; rw [h0] at this; cases this
              have no19 : d 10 = false → d 19 = false := fun h0 => by
                cases h9 : d 19 with
                | false => rfl
                | true => have := hcl 19 _ rfl h9 ⟨12, .data⟩ (by simp) rfl; rw [no12 h0] at this; cases this
              match i, ho, hdi, hdep, hcl with
              | 0, ho, hdi, hdep, hcl => obtain rfl := Option.some.inj ho; exact step_val rfl _ (run15_bs0 rfl) (hK _ _ _ rfl (hJ.s0 (no2 hdi) (no9 hdi)))
              | 1, ho, hdi, hdep, hcl => obtain rfl := Option.some.inj ho; exact step_val rfl _ (run15_move rfl e8) (hK _ _ _ rfl hJ.s1)
              | 3, ho, hdi, hdep, hcl => obtain rfl := Option.some.inj ho; exact step_val rfl _ (run15_fa2 rfl e9) (hK _ _ _ rfl hJ.s3)
              | 4, ho, hdi, hdep, hcl => obtain rfl := Option.some.inj ho; exact step_val rfl _ (run15_ldk rfl (hJ.v3 (hdep ⟨3, .data⟩ (by simp) rfl)) (cg a w hJ.m)) (hK _ _ _ rfl hJ.s4)
              | 5, ho, hdi, hdep, hcl => obtain rfl := Option.some.inj ho; exact step_val rfl _ (run15_ix0 rfl rfl (hJ.v4 (hdep ⟨4, .data⟩ (by simp) rfl)) hlen2) (hK _ _ _ rfl hJ.s5)
              | 6, ho, hdi, hdep, hcl => obtain rfl := Option.some.inj ho; exact step_val rfl _ (run15_fa0 rfl (hJ.v5 (hdep ⟨5, .data⟩ (by simp) rfl))) (hK _ _ _ rfl hJ.s6)
              | 7, ho, hdi, hdep, hcl => obtain rfl := Option.some.inj ho; exact step_val rfl _ (run15_ldi rfl (hJ.v6 (hdep ⟨6, .data⟩ (by simp) rfl)) (ck0 a w hJ.m)) (hK _ _ _ rfl hJ.s7)
              | 8, ho, hdi, hdep, hcl => obtain rfl := Option.some.inj ho; exact step_val rfl _ (run15_bs1 rfl (hJ.v7 (hdep ⟨7, .data⟩ (by simp) rfl))) (hK _ _ _ rfl hJ.s8)
              | 10, ho, hdi, hdep, hcl => obtain rfl := Option.some.inj ho; exact step_val rfl _ (run15_bs0 rfl) (hK _ _ _ rfl (hJ.s10 (no12 hdi) (no19 hdi)))
              | 11, ho, hdi, hdep, hcl => obtain rfl := Option.some.inj ho; exact step_val rfl _ (run15_move rfl e8) (hK _ _ _ rfl hJ.s11)
              | 13, ho, hdi, hdep, hcl => obtain rfl := Option.some.inj ho; exact step_val rfl _ (run15_fa2 rfl e9) (hK _ _ _ rfl hJ.s13)
              | 14, ho, hdi, hdep, hcl => obtain rfl := Option.some.inj ho; exact step_val rfl _ (run15_ldk rfl (hJ.v13 (hdep ⟨13, .data⟩ (by simp) rfl)) (cg a w hJ.m)) (hK _ _ _ rfl hJ.s14)
              | 15, ho, hdi, hdep, hcl => obtain rfl := Option.some.inj ho; exact step_val rfl _ (run15_ix1 rfl rfl (hJ.v14 (hdep ⟨14, .data⟩ (by simp) rfl)) hlen2) (hK _ _ _ rfl hJ.s15)
              | 16, ho, hdi, hdep, hcl => obtain rfl := Option.some.inj ho; exact step_val rfl _ (run15_fa0 rfl (hJ.v15 (hdep ⟨15, .data⟩ (by simp) rfl))) (hK _ _ _ rfl hJ.s16)
              | 17, ho, hdi, hdep, hcl => obtain rfl := Option.some.inj ho; exact step_val rfl _ (run15_ldi rfl (hJ.v16 (hdep ⟨16, .data⟩ (by simp) rfl)) (ck1 a w hJ.m)) (hK _ _ _ rfl hJ.s17)
              | 18, ho, hdi, hdep, hcl => obtain rfl := Option.some.inj ho; exact step_val rfl _ (run15_bs1 rfl (hJ.v17 (hdep ⟨17, .data⟩ (by simp) rfl))) (hK _ _ _ rfl hJ.s18)
              | 20, ho, hdi, hdep, hcl => obtain rfl := Option.some.inj ho; exact step_val rfl _ (run15_assign rfl rfl) (hK _ _ _ rfl hJ.s20)
              | 21, ho, hdi, hdep, hcl => obtain rfl := Option.some.inj ho; exact step_val rfl _ (run15_assign rfl rfl) (hK _ _ _ rfl hJ.s21)
              | 2, ho, hdi, hdep, hcl =>
                obtain rfl := Option.some.inj ho
                have d0 := (hdep ⟨0, .data⟩ (by simp) rfl)
                have d9 : d 9 = false := by
                  cases h9 : d 9 with
                  | false => rfl
                  | true => have := hcl 9 _ rfl h9 ⟨2, .data⟩ (by simp) rfl; rw [hdi] at this; cases this
                have ha := hJ.a d0
                have e0 : rA d (slotN a) = slotN a 60 := by unfold rA; rw [d9, hdi]; rfl
                have e1 : xA d q k0.n = [] := by unfold xA; rw [d9, hdi]; rfl
                rw [e0, e1] at ha
                exact step_append_ints rfl (.tmp 60) (.tmp 61) rfl rfl (hJ.v1 (hdep ⟨1, .data⟩ (by simp) rfl)) ha (Rd.mod hrq hJ.m (fun _ _ => id)) hJ.m.size (by simp; omega) fun v' w1 h1 h2 h3 => hK _ _ _ rfl (hJ.s2 d0 hdi d9 h1 h2 h3)
              | 9, ho, hdi, hdep, hcl =>
                obtain rfl := Option.some.inj ho
                have d2 := (hdep ⟨2, .data⟩ (by simp) rfl)
                have d0 := hcl 2 _ rfl d2 ⟨0, .data⟩ (by simp) rfl
                have d20 : d 20 = false := by
                  cases h9 : d 20 with
                  | false => rfl
                  | true => have := hcl 20 _ rfl h9 ⟨9, .data⟩ (by simp) rfl; rw [hdi] at this; cases this
                have ha := hJ.a d0
                have e0 : rA d (slotN a) = slotN a 62 := by unfold rA; rw [hdi, d2]; rfl
                have e1 : xA d q k0.n = q := by unfold xA; rw [hdi, d2]; rfl
                rw [e0, e1] at ha
                obtain ⟨A0, hv0, hr0⟩ := news_rd (hJ.n8 (hdep ⟨8, .data⟩ (by simp) rfl) hdi) hin0
                exact step_append_ints (ys := [k0.n]) rfl (.tmp 62) (.tmp 68) rfl rfl hv0 ha hr0 hJ.m.size (by simp; omega) fun v' w1 h1 h2 h3 => hK _ _ _ rfl (hJ.s9 d0 d2 hdi d20 h1 h2 h3)
              | 12, ho, hdi, hdep, hcl =>
                obtain rfl := Option.some.inj ho
                have d10 := (hdep ⟨10, .data⟩ (by simp) rfl)
                have d9 := (hdep ⟨9, .chain⟩ (by simp) rfl)
                have d19 : d 19 = false := by
                  cases h9 : d 19 with
                  | false => rfl
                  | true => have := hcl 19 _ rfl h9 ⟨12, .data⟩ (by simp) rfl; rw [hdi] at this; cases this
                have ha := hJ.b d10
                have e0 : rB d (slotN a) = slotN a 70 := by unfold rB; rw [d19, hdi]; rfl
                have e1 : xB d q k1.n = [] := by unfold xB; rw [d19, hdi]; rfl
                rw [e0, e1] at ha
                exact step_append_ints rfl (.tmp 70) (.tmp 71) rfl rfl (hJ.v11 (hdep ⟨11, .data⟩ (by simp) rfl)) ha (Rd.mod hrq hJ.m (fun _ _ => id)) hJ.m.size (by simp; omega) fun v' w1 h1 h2 h3 => hK _ _ _ rfl (hJ.s12 d10 hdi d19 d9 h1 h2 h3)
              | 19, ho, hdi, hdep, hcl =>
                obtain rfl := Option.some.inj ho
                have d12 := (hdep ⟨12, .data⟩ (by simp) rfl)
                have d10 := hcl 12 _ rfl d12 ⟨10, .data⟩ (by simp) rfl
                have d9 := hcl 12 _ rfl d12 ⟨9, .chain⟩ (by simp) rfl
                have d21 : d 21 = false := by
                  cases h9 : d 21 with
                  | false => rfl
                  | true => have := hcl 21 _ rfl h9 ⟨19, .data⟩ (by simp) rfl; rw [hdi] at this; cases this
                have ha := hJ.b d10
                have e0 : rB d (slotN a) = slotN a 72 := by unfold rB; rw [hdi, d12]; rfl
                have e1 : xB d q k1.n = q := by unfold xB; rw [hdi, d12]; rfl
                rw [e0, e1] at ha
                obtain ⟨A0, hv0, hr0⟩ := news_rd (hJ.n18 (hdep ⟨18, .data⟩ (by simp) rfl) hdi) hin1
                exact step_append_ints (ys := [k1.n]) rfl (.tmp 72) (.tmp 78) rfl rfl hv0 ha hr0 hJ.m.size (by simp; omega) fun v' w1 h1 h2 h3 => hK _ _ _ rfl (hJ.s19 d10 d12 hdi d9 d21 h1 h2 h3)
              | n + 22, ho, hdi, hdep, hcl => cases ho
            case hend =>
              intro a w hF d hall hJ
              have ha := hJ.a (hall 0)
              have hb := hJ.b (hall 10)
              have e0 : rA d (slotN a) = slotN a 11 := by unfold rA; rw [hall 9]; exact (hJ.c20 (hall 20)).symm
              have e1 : xA d q k0.n = q ++ [k0.n] := by unfold xA; rw [hall 9]; rfl
              have e2 : rB d (slotN a) = slotN a 12 := by unfold rB; rw [hall 19]; exact (hJ.c21 (hall 21)).symm
              have e3 : xB d q k1.n = q ++ [k1.n] := by unfold xB; rw [hall 19]; rfl
              rw [e0, e1] at ha
              rw [e2, e3] at hb
              obtain ⟨Aa, ca, hva⟩ : ∃ A c, slotN a 11 = .slice A (q ++ [k0.n]).length c := by obtain ⟨_, z, _⟩ := ha; exact own_slice z
              obtain ⟨Az, cz, hvz⟩ : ∃ A c, slotN a 12 = .slice A (q ++ [k1.n]).length c := by obtain ⟨_, z, _⟩ := hb; exact own_slice z
              rw [hva] at ha
              rw [hvz] at hb
              have hra := ha.reads (bytes := 8) (by simp; omega)
              have hrz := hb.reads (bytes := 8) (by simp; omega)
              have hwh := hF.whole
              rw [List.length_append] at hva hvz hra hrz ha hb
              have HE := Lib.hid (And.intro hra (And.intro hrz (And.intro hJ.m (And.intro ha hb)))); clear hra hrz e0 e1 e2 e3 ha hb hJ hall d hF
              simp only [List.foldl_cons, List.foldl_nil] at hwh
              rw [hva, hvz] at hwh
              clear hva hvz
              generalize slotN a 60 = z60 at hwh
              generalize slotN a 61 = z61 at hwh
              generalize slotN a 62 = z62 at hwh
              generalize slotN a 63 = z63 at hwh
              generalize slotN a 64 = z64 at hwh
              generalize slotN a 65 = z65 at hwh
              generalize slotN a 66 = z66 at hwh
              generalize slotN a 67 = z67 at hwh
              generalize slotN a 68 = z68 at hwh
              generalize slotN a 69 = z69 at hwh
              generalize slotN a 70 = z70 at hwh
              generalize slotN a 71 = z71 at hwh
              generalize slotN a 72 = z72 at hwh
              generalize slotN a 73 = z73 at hwh
              generalize slotN a 74 = z74 at hwh
              generalize slotN a 75 = z75 at hwh
              generalize slotN a 76 = z76 at hwh
              generalize slotN a 77 = z77 at hwh
              generalize slotN a 78 = z78 at hwh
              generalize slotN a 79 = z79 at hwh
              subst hwh
              simp only [List.setIfInBounds_toArray, List.set_cons_zero, List.set_cons_succ]
              go_wp2_with fail
              go_meet
              exact ⟨Aa, ca, Az, cz, rfl, rfl, Lib.hid ⟨Rd.mono HE.out.1 (fun k hk => by
                rcases hk with hk | hk
                · exact hk.elim
                · exact (own_ge HE.out.2.2.2.1 hk).1), Rd.mono HE.out.2.1 (fun k hk => by
                rcases hk with hk | hk
                · exact hk.elim
                · exact (own_ge HE.out.2.2.2.2 hk).1), HE.out.2.2.1⟩⟩
          case rest =>
            obtain ⟨Aa, ca, Az, cz, rfl, rfl, H9⟩ := hcut
            have hgm := HL.out.2.2.2.2
            have hgo := HR.out.2.1
            have F9 := H8.out.2.1.quiet H9.out.2.2
            have hsk := shift_kids HI.out.2.1 hgo (List.mem_of_getElem? HK.out.1) (List.mem_of_getElem? HK.out.2.1) HK.out.2.2 m
            obtain ⟨cc, hcg, hcu, hc0, hc1⟩ := hsk
            obtain ⟨pa, hpa⟩ : ∃ pa, pa = q ++ [k0.n] := ⟨_, rfl⟩
            obtain ⟨pz, hpz⟩ : ∃ pz, pz = q ++ [k1.n] := ⟨_, rfl⟩
            rw [← hpa, ← hpz] at H9
            rw [← hpa, ← hpz] at hcg hc0 hc1
            have hal : pa.length = q.length + 1 := by rw [hpa]; simp
            have hzl : pz.length = q.length + 1 := by rw [hpz]; simp
            obtain ⟨nl, hnl⟩ : ∃ nl, nl = q.length + 1 := ⟨_, rfl⟩
            rw [← hnl] at H9 hal hzl ⊢
            have hva : quotaT M pa ≤ 1048576 ∧ -1 ≤ quotaT M pa := by
              cases hg : getT M pa with
              | none => rw [quotaT_none hg]; omega
              | some y => have := uses_le_quota HI.out.2.1 hg; omega
            have hvz : quotaT M pz ≤ 1048576 ∧ -1 ≤ quotaT M pz := by
              cases hg : getT M pz with
              | none => rw [quotaT_none hg]; omega
              | some y => have := uses_le_quota HI.out.2.1 hg; omega
            have hqa := F9.quota HI.out.2.1 H9.out.1 (by omega)
            obtain ⟨qa, hqae⟩ : ∃ x, x = quotaT M pa := ⟨_, rfl⟩
            obtain ⟨qz, hqze⟩ : ∃ x, x = quotaT M pz := ⟨_, rfl⟩
            rw [← hqae] at hqa hva hc0
            rw [← hqze] at hvz hc0
            have hv' := valid_shift HI.out.2.1 pa pz m
            have hsome := shift_some HI.out.2.1 pa pz m
            obtain ⟨M', hM'⟩ : ∃ x, x = shiftT M pa pz m := ⟨_, rfl⟩
            obtain ⟨e0, he0⟩ : ∃ x, x = shiftE M pa pz m := ⟨_, rfl⟩
            rw [← hM'] at hcg hc0 hc1 hv' hsome
            rw [← he0] at hc0 hc1
            have HS := Lib.hid (And.intro F9 (And.intro hqa (And.intro hcg (And.intro hcu (And.intro hc0 (And.intro hc1 (And.intro hv' (And.intro hsome (And.intro hM' (And.intro he0 (And.intro hqae (And.intro hqze hgm)))))))))))); clear F9 hqa hcg hcu hc0 hc1 hv' hsome hM' he0 hqae hqze hgm hgo hpa hpz hal hzl x0 x1 x2 x3 x4 x5 x6 x7 x8 x9 y1
            have hnl7 : nl ≤ 100 := by omega
            clear hnl
            go_wp2_with fail
            refine HS.out.2.1.mono ?_
            rintro e w10 ⟨rfl, hm10⟩
            have F10 := HS.out.1.quiet hm10
            have hqz := F10.quota HI.out.2.1 (Rd.mod H9.out.2.1 hm10 (fun _ _ => id)) (by have := (slice_row H9.out.2.1).1; omega)
            rw [← HS.out.2.2.2.2.2.2.2.2.2.2.2.1] at hqz
            have H10 := Lib.hid (And.intro F10 (And.intro hm10 hqz)); clear F10 hm10 hqz
            go_wp2_with fail
            refine H10.out.2.2.mono ?_
            rintro e w11 ⟨rfl, hm11⟩
            have F11 := H10.out.1.quiet hm11
            have hm911 := tr0 H10.out.2.1 hm11
            have hwm : IntKind.i64.wrap m = m := by rw [IntKind.wrap_i64]; omega
            have hsh := F11.shift HI.out.2.1 (Rd.mod H9.out.1 hm911 (fun _ _ => id)) (Rd.mod H9.out.2.1 hm911 (fun _ _ => id)) (by have := (slice_row H9.out.1).1; omega) (by have := (slice_row H9.out.2.1).1; omega) m (inR_mk (by omega))
            rw [← HS.out.2.2.2.2.2.2.2.2.2.1, ← HS.out.2.2.2.2.2.2.2.2.1] at hsh
            have H11 := Lib.hid (And.intro hm911 hsh); clear F11 hm911 hsh hm11
            go_wp2_with fail
            refine H11.out.2.mono ?_
            rintro e w12 ⟨rfl, F12, hm12⟩
            have hgm := HS.out.2.2.2.2.2.2.2.2.2.2.2.2
            have hm8_12 : Mod (fun k => k = mb) w8 w12 := (((tr0 H9.out.2.2 H11.out.1).mono (fun _ h => h.elim)).trans hm12 (fun k hk => .inl hk))
            have hmr12 : Mod (fun k => k = mb) wr w12 := (H8.out.1.mono (fun _ h => h.elim) : Mod (fun k => k = mb) wr w8).trans hm8_12 (fun k hk => .inl hk)
            have hgt := getTab_any _ g mb M' Aq q.length cq q _ w12 F12.t (Rd.mod HR.out.1 hmr12 (fun k hk e => by omega)) (by omega) F12.e
            rw [HS.out.2.2.1] at hgt
            dsimp only [Option.isSome, Option.getD] at hgt
            have H12 := Lib.hid (And.intro F12 (And.intro hm8_12 (And.intro hmr12 (And.intro hgt hm12)))); clear F12 hm8_12 hmr12 hgt hm12 hgm
            go_wp2_with fail
            refine H12.out.2.2.2.1.mono ?_
            rintro e w13 ⟨cc2, A1y, c1y, A2y, c2y, A4y, c4y, A5y, c5y, A7y, c7y, A9y, c9y, hcc2, rfl, hcp⟩
            subst hcc2
            have HC13 := Lib.hid hcp; clear hcp
            go_wp2_with (refine wpList_box2 rfl rfl 39 _ _ rfl rfl [.int .i64 0, .slice none 0 0, .slice none 0 0, .int .i64 0, .slice none 0 0, .slice none 0 0, .int .i64 0, .slice none 0 0, .int .i64 0, .slice none 0 0] Tryz.infoOb3 rfl _ rfl (obC_one _ _ _ _ _ _ _ _ _ _ _ _ _) (fun _ => rfl) (fun _ => rfl) ?_)
            intro g16 w14 hg16 hb16 hm14
            have hgm := HS.out.2.2.2.2.2.2.2.2.2.2.2.2
            have hv' := HS.out.2.2.2.2.2.2.1
            have hm12_14 := tr0 HC13.out.mod (hm14 fun _ => False)
            have hm8_14 : Mod (fun k => k = mb) w8 w14 := H12.out.2.1.trans (hm12_14.mono (fun _ h => h.elim) : Mod (fun k => k = mb) w12 w14) (fun k hk => .inl hk)
            have hs26 : w2.heap.size ≤ w6.heap.size := by
              have := HP.out.2.1.size
              have := HI.out.2.2.2.size
              have := H6.out.1.size
              omega
            have hs67 := HC7.out.mod.size
            have hg9 := H8.out.2.2.2.2
            have hb9 := (hm8_14.block g9 (lt_of_blk H8.out.2.2.2.1) (by omega)).trans H8.out.2.2.2.1
            have hob2 := Rd.mod H8.out.2.2.1 hm8_14 (fun k hk e => by
              rcases hk with hk | hk
              · exact hk.1.2 e
              · omega)
            have hrc := hv'.right _ _ HS.out.2.2.1
            have hobc := Rd.mod (HC13.out.reads (by have := hrc.kids.len; omega)) (hm14 fun _ => False) (fun _ _ => id)
            have hu2 := fun W : ModW w14 => uses_m _ o2 _ W.1 (Rd.mod hob2 W.2 (fun _ _ => id)) HR.out.2.2.1.kids
            have huc := fun W : ModW w14 => uses_m _ cc2 _ W.1 (Rd.mod hobc W.2 (fun _ _ => id)) hrc.kids
            rw [HS.out.2.2.2.1] at huc
            have F14 := H12.out.1.quiet hm12_14
            have hm9_14 : Mod (fun k => k = mb) wc w14 := ((H11.out.1.mono (fun _ h => h.elim) : Mod (fun k => k = mb) wc w11).trans H12.out.2.2.2.2 (fun k hk => .inl hk)).trans (hm12_14.mono (fun _ h => h.elim) : Mod (fun k => k = mb) w12 w14) (fun k hk => .inl hk)
            have hs8 := H8.out.1.size
            have hsr := HI.out.2.2.2.size
            have hs3 := HP.out.2.1.size
            have hra := Rd.mod H9.out.1 hm9_14 (fun k hk e => by omega)
            have hrz := Rd.mod H9.out.2.1 hm9_14 (fun k hk e => by omega)
            have hla : pa.length ≤ 1000000 := by have := (slice_row H9.out.1).1; omega
            have hlz : pz.length ≤ 1000000 := by have := (slice_row H9.out.2.1).1; omega
            have hqa := fun W : ModW w14 => (F14.quiet W.2).quota hv' (Rd.mod hra W.2 (fun _ _ => id)) hla
            have hqz := fun W : ModW w14 => (F14.quiet W.2).quota hv' (Rd.mod hrz W.2 (fun _ _ => id)) hlz
            have x0 : w14.cell? ⟨g9, 0, none⟩ = some (.int .i64 o2.kind) := by rw [cell_of_blk hb9]; rfl
            have x1 : w14.cell? ⟨g9, 1, none⟩ = some (.slice A1x o2.label.length c1x) := by rw [cell_of_blk hb9]; rfl
            have x2 : w14.cell? ⟨g9, 2, none⟩ = some (.slice A2x o2.kids.length c2x) := by rw [cell_of_blk hb9]; rfl
            have x3 : w14.cell? ⟨g9, 3, none⟩ = some (.int .i64 o2.next) := by rw [cell_of_blk hb9]; rfl
            have x4 : w14.cell? ⟨g9, 4, none⟩ = some (.slice A4x o2.bytes.length c4x) := by rw [cell_of_blk hb9]; rfl
            have x5 : w14.cell? ⟨g9, 5, none⟩ = some (.slice A5x o2.own.length c5x) := by rw [cell_of_blk hb9]; rfl
            have x6 : w14.cell? ⟨g9, 6, none⟩ = some (.int .i64 o2.cats) := by rw [cell_of_blk hb9]; rfl
            have x7 : w14.cell? ⟨g9, 7, none⟩ = some (.slice A7x o2.entry.length c7x) := by rw [cell_of_blk hb9]; rfl
            have x8 : w14.cell? ⟨g9, 8, none⟩ = some (.int .i64 o2.ring) := by rw [cell_of_blk hb9]; rfl
            have x9 : w14.cell? ⟨g9, 9, none⟩ = some (.slice A9x o2.maps.length c9x) := by rw [cell_of_blk hb9]; rfl
            have y0 : w14.cell? ⟨g16, 0, none⟩ = some (.int .i64 cc2.kind) := by rw [cell_of_blk hb16]; rfl
            have y1 : w14.cell? ⟨g16, 1, none⟩ = some (.slice A1y cc2.label.length c1y) := by rw [cell_of_blk hb16]; rfl
            have y2 : w14.cell? ⟨g16, 2, none⟩ = some (.slice A2y cc2.kids.length c2y) := by rw [cell_of_blk hb16]; rfl
            have y3 : w14.cell? ⟨g16, 3, none⟩ = some (.int .i64 cc2.next) := by rw [cell_of_blk hb16]; rfl
            have y4 : w14.cell? ⟨g16, 4, none⟩ = some (.slice A4y cc2.bytes.length c4y) := by rw [cell_of_blk hb16]; rfl
            have y5 : w14.cell? ⟨g16, 5, none⟩ = some (.slice A5y cc2.own.length c5y) := by rw [cell_of_blk hb16]; rfl
            have y6 : w14.cell? ⟨g16, 6, none⟩ = some (.int .i64 cc2.cats) := by rw [cell_of_blk hb16]; rfl
            have y7 : w14.cell? ⟨g16, 7, none⟩ = some (.slice A7y cc2.entry.length c7y) := by rw [cell_of_blk hb16]; rfl
            have y8 : w14.cell? ⟨g16, 8, none⟩ = some (.int .i64 cc2.ring) := by rw [cell_of_blk hb16]; rfl
            have y9 : w14.cell? ⟨g16, 9, none⟩ = some (.slice A9y cc2.maps.length c9y) := by rw [cell_of_blk hb16]; rfl
            have zx0 := fun W : ModW w14 => ModW.cell x0 W
            have zx1 := fun W : ModW w14 => ModW.cell x1 W
            have zx2 := fun W : ModW w14 => ModW.cell x2 W
            have zx3 := fun W : ModW w14 => ModW.cell x3 W
            have zx4 := fun W : ModW w14 => ModW.cell x4 W
            have zx5 := fun W : ModW w14 => ModW.cell x5 W
            have zx6 := fun W : ModW w14 => ModW.cell x6 W
            have zx7 := fun W : ModW w14 => ModW.cell x7 W
            have zx8 := fun W : ModW w14 => ModW.cell x8 W
            have zx9 := fun W : ModW w14 => ModW.cell x9 W
            have zy0 := fun W : ModW w14 => ModW.cell y0 W
            have zy1 := fun W : ModW w14 => ModW.cell y1 W
            have zy2 := fun W : ModW w14 => ModW.cell y2 W
            have zy3 := fun W : ModW w14 => ModW.cell y3 W
            have zy4 := fun W : ModW w14 => ModW.cell y4 W
            have zy5 := fun W : ModW w14 => ModW.cell y5 W
            have zy6 := fun W : ModW w14 => ModW.cell y6 W
            have zy7 := fun W : ModW w14 => ModW.cell y7 W
            have zy8 := fun W : ModW w14 => ModW.cell y8 W
            have zy9 := fun W : ModW w14 => ModW.cell y9 W
            obtain ⟨uu, huu⟩ : ∃ x, x = usesO o2 := ⟨_, rfl⟩
            rw [← huu] at hu2 huc
            have hinv : ∀ W : ModW w14, FS w W.1 g mb M' ∧ Mod (fun k => k = mb) w3 W.1 := fun W => ⟨F14.quiet W.2, (HI.out.2.2.2.trans H12.out.2.2.1 (fun k hk => .inl hk)).trans ((tr0 hm12_14 W.2).mono (fun _ h => h.elim) : Mod (fun k => k = mb) w12 W.1) (fun k hk => .inl hk)⟩
            have hin' : ∀ r ∈ ps, (getT M' r).isSome = true := fun r hr => by rw [HS.out.2.2.2.2.2.2.2.1]; exact HI.out.2.2.1 r hr
            by_cases he : e0 = 0
            · obtain ⟨hca, hcz⟩ := HS.out.2.2.2.2.1 he
              rw [hca] at hqa
              rw [hcz] at hqz
              have w1' : IntKind.i64.wrap (qa - m) = qa - m := by rw [IntKind.wrap_i64]; omega
              have w2' : IntKind.i64.wrap (qz + m) = qz + m := by rw [IntKind.wrap_i64]; omega
              have b1 : (e0 == 0) = true := by simpa using he
              have b2 : (e0 != 0) = false := by simpa using he
              have HQ := Lib.hid (And.intro hu2 (And.intro huc (And.intro hqa (And.intro hqz (And.intro hinv (And.intro hv' hin')))))); clear hu2 huc hqa hqz hinv hv' hin' hca hcz he F14 hm9_14 hra hrz hla hlz hs8 hsr hs3 hs26 hs67 hg9 hb9 hob2 hrc hobc hm12_14 hm8_14 hg16 hb16 hm14 huu x0 x1 x2 x3 x4 x5 x6 x7 x8 x9 y0 y1 y2 y3 y4 y5 y6 y7 y8 y9 hgm
              go_wp2_with fail
              refine wp_region_mod (by kernel_rfl) (by kernel_rfl) ?_
              refine wpQuiet_hide (fun R hR => ?_)
              iterate 47 (first
                | ((first | refine wpQuiet_none hR rfl (fun K hK => ?_) | refine wpQuiet_take hR (by rfl) (fun K hK => ?_)); clear hR R; go_simp; first | (refine hK _ (fun R hR => ?_); clear hK K) | (apply Exists.intro; refine ⟨fun _ => ?_, hK _ (fun R hR => ?_)⟩; (first | (go_at_call_of 13 ((#[.agg #[.int .i64 cc2.kind, .slice A1y cc2.label.length c1y, .slice A2y cc2.kids.length c2y, .int .i64 cc2.next, .slice A4y cc2.bytes.length c4y, .slice A5y cc2.own.length c5y, .int .i64 cc2.cats, .slice A7y cc2.entry.length c7y, .int .i64 cc2.ring, .slice A9y cc2.maps.length c9y]] : Array Value)); exact quiet_mod (HQ.out.2.1 _)) | (go_at_call_of 13 ((#[.agg #[.int .i64 o2.kind, .slice A1x o2.label.length c1x, .slice A2x o2.kids.length c2x, .int .i64 o2.next, .slice A4x o2.bytes.length c4x, .slice A5x o2.own.length c5x, .int .i64 o2.cats, .slice A7x o2.entry.length c7x, .int .i64 o2.ring, .slice A9x o2.maps.length c9x]] : Array Value)); exact quiet_mod (HQ.out.1 _)) | (go_at_call_of 10 ((#[.pointer (some ⟨g, 0, none⟩), .slice Aa nl ca] : Array Value)); exact quiet_mod (HQ.out.2.2.1 _)) | (go_at_call_of 10 ((#[.pointer (some ⟨g, 0, none⟩), .slice Az nl cz] : Array Value)); exact quiet_mod (HQ.out.2.2.2.1 _))); clear hK K))
                | (refine wpQuiet_skip hR (by rfl) (fun K hK => ?_); clear hR R; go_simp; refine hK _ (fun R hR => ?_); clear hK K))
              refine wpQuiet_end hR ?_
              clear hR R
              rintro _ ⟨W, rfl⟩
              have HW := Lib.hid (HQ.out.2.2.2.2.1 W)
              go_wp2_with fail
              go_roundg (ps.length - (i + 1))
              case measure => omega
              case rel => exact ⟨i + 1, by go_num, by omega, M', Lib.hid ⟨HW.out.1, HQ.out.2.2.2.2.2.1, HQ.out.2.2.2.2.2.2, HW.out.2⟩⟩
            · have hMM := HS.out.2.2.2.2.2.1 he
              have hqa : ∀ W : ModW w14, Calls Tryz.prog 10 #[.pointer (some ⟨g, 0, none⟩), .slice Aa nl ca] W.1 fun e W' => e = .returned (.int .i64 qa) ∧ Mod (fun _ => False) W.1 W' := fun W => by
                have := hqa W
                rwa [hMM, ← HS.out.2.2.2.2.2.2.2.2.2.2.1] at this
              have hqz : ∀ W : ModW w14, Calls Tryz.prog 10 #[.pointer (some ⟨g, 0, none⟩), .slice Az nl cz] W.1 fun e W' => e = .returned (.int .i64 qz) ∧ Mod (fun _ => False) W.1 W' := fun W => by
                have := hqz W
                rwa [hMM, ← HS.out.2.2.2.2.2.2.2.2.2.2.2.1] at this
              have b1 : (e0 == 0) = false := by simpa using he
              have b2 : (e0 != 0) = true := by simpa using he
              have HQ := Lib.hid (And.intro hu2 (And.intro huc (And.intro hqa (And.intro hqz (And.intro hinv (And.intro hv' hin')))))); clear hu2 huc hqa hqz hinv hv' hin' hMM he F14 hm9_14 hra hrz hla hlz hs8 hsr hs3 hs26 hs67 hg9 hb9 hob2 hrc hobc hm12_14 hm8_14 hg16 hb16 hm14 huu x0 x1 x2 x3 x4 x5 x6 x7 x8 x9 y0 y1 y2 y3 y4 y5 y6 y7 y8 y9 hgm
              go_wp2_with fail
              refine wp_region_mod (by kernel_rfl) (by kernel_rfl) ?_
              refine wpQuiet_hide (fun R hR => ?_)
              iterate 47 (first
                | ((first | refine wpQuiet_none hR rfl (fun K hK => ?_) | refine wpQuiet_take hR (by rfl) (fun K hK => ?_)); clear hR R; go_simp; first | (refine hK _ (fun R hR => ?_); clear hK K) | (apply Exists.intro; refine ⟨fun _ => ?_, hK _ (fun R hR => ?_)⟩; (first | (go_at_call_of 13 ((#[.agg #[.int .i64 cc2.kind, .slice A1y cc2.label.length c1y, .slice A2y cc2.kids.length c2y, .int .i64 cc2.next, .slice A4y cc2.bytes.length c4y, .slice A5y cc2.own.length c5y, .int .i64 cc2.cats, .slice A7y cc2.entry.length c7y, .int .i64 cc2.ring, .slice A9y cc2.maps.length c9y]] : Array Value)); exact quiet_mod (HQ.out.2.1 _)) | (go_at_call_of 13 ((#[.agg #[.int .i64 o2.kind, .slice A1x o2.label.length c1x, .slice A2x o2.kids.length c2x, .int .i64 o2.next, .slice A4x o2.bytes.length c4x, .slice A5x o2.own.length c5x, .int .i64 o2.cats, .slice A7x o2.entry.length c7x, .int .i64 o2.ring, .slice A9x o2.maps.length c9x]] : Array Value)); exact quiet_mod (HQ.out.1 _)) | (go_at_call_of 10 ((#[.pointer (some ⟨g, 0, none⟩), .slice Aa nl ca] : Array Value)); exact quiet_mod (HQ.out.2.2.1 _)) | (go_at_call_of 10 ((#[.pointer (some ⟨g, 0, none⟩), .slice Az nl cz] : Array Value)); exact quiet_mod (HQ.out.2.2.2.1 _))); clear hK K))
                | (refine wpQuiet_skip hR (by rfl) (fun K hK => ?_); clear hR R; go_simp; refine hK _ (fun R hR => ?_); clear hK K))
              refine wpQuiet_end hR ?_
              clear hR R
              rintro _ ⟨W, rfl⟩
              have HW := Lib.hid (HQ.out.2.2.2.2.1 W)
              go_wp2_with fail
              go_roundg (ps.length - (i + 1))
              case measure => omega
              case rel => exact ⟨i + 1, by go_num, by omega, M', Lib.hid ⟨HW.out.1, HQ.out.2.2.2.2.2.1, HQ.out.2.2.2.2.2.2, HW.out.2⟩⟩
      · obtain rfl : i = ps.length := by omega
        have HF := Lib.hid HI.out.1.m
        go_wp2_with fail
        go_ret
        exact ⟨rfl, HF.out⟩
end Go.Proofs.YtefedalnafjcfaaGreatDoor

namespace Go.Proofs.YtefedalnafjcfaaGreatDoor
open Go.RowKit
set_option linter.unusedVariables false
theorem inR_u8 {x : Int} (h : Rd.inR .u8 x) : 0 ≤ x ∧ x ≤ 255 := by
  simpa [Rd.inR, Lit.wf, IntKind.min, IntKind.max, IntKind.signed, IntKind.bits] using h
theorem quotaHolds_walk (A : Option Addr) (n c : Nat) (m : Int) (bs : List UInt8) (x : Int) (W : World) (h1 : bytesR.rel W (fun k => k < W.heap.size) [.slice A n c] bs) (h2 : (Rd.int .u8).rel W (fun k => k < W.heap.size) [.int .u8 m] x) (E : Env W) :
    Calls Tryz.prog 3 #[.slice A n c, .int .u8 m] W fun r W' => r = .returned (.bool true) ∧ Below W.heap.size W W' := by
  obtain ⟨e, i⟩ := h2
  obtain rfl : m = x := by simpa using e
  exact (quotaHolds_mod A n c bs m _ W h1 (inR_u8 i) E).mono fun _ _ h => ⟨h.1, below0 h.2⟩
end Go.Proofs.YtefedalnafjcfaaGreatDoor

