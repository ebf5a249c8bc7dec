/- QuorumMeets: the walk. -/
import Derived.Test.YtgdadhpcooegnaaQuorum21
import Derived.Test.YtgdadhpcooegnaaQuorum16
import Derived.Test.YtgdadhpcooegnaaArr
namespace Go.Proofs.Ytgdadhpcooegnaa
open Go.RowKit
set_option linter.unusedVariables false
theorem alloc_size (w : World) (o : Obj) : (w.alloc o).heap.size = w.heap.size + 1 := by
  show (w.heap.push o).size = _
  rw [Array.size_push]
theorem wr1 (v : Nat) (h : v ≤ 1000) : Value.int .i64 (wrap64 ((v : Int) + 1)) = .int .i64 ((v + 1 : Nat) : Int) := by
  rw [show wrap64 ((v : Int) + 1) = ((v + 1 : Nat) : Int) by unfold wrap64; omega]
theorem have_le (l : List Int) (N F : Nat) (hl : l.length = N) (hN : F + 1 + F = N) : F + 1 ≤ l.countP fun e => decide ((sortI (endsI l N)).getD F 0 ≤ e) := by
  have he : endsI l N = l := by
    apply List.ext_getElem?
    intro i
    by_cases hi : i < N
    · rw [List.getElem?_eq_getElem (by rw [endsI_len]; exact hi), List.getElem?_eq_getElem (by omega)]
      simp [endsI, List.getElem?_eq_getElem (show i < l.length by omega), getI_nat]
    · rw [List.getElem?_eq_none (by rw [endsI_len]; omega), List.getElem?_eq_none (by omega)]
  rw [he]
  have hs : (sortI l).length = N := by rw [sortI_len, hl]
  have hp : (sortI l).countP (fun e => decide ((sortI l).getD F 0 ≤ e)) = l.countP (fun e => decide ((sortI l).getD F 0 ≤ e)) := (List.mergeSort_perm l _).countP_eq _
  rw [← hp]
  refine (countP_mid (s := sortI l) (fun i j hij hj => sortI_le hij hj) _ F (by omega) (by omega)).2 ?_
  rw [List.getD_eq_getElem?_getD, List.getElem?_eq_getElem (by omega)]
  exact Int.le_refl _
theorem ints_at2 {w : World} {ok : Nat → Prop} {A : Option Addr} {n c : Nat} {xs : List Int} (h : intsR.rel w ok [.slice A n c] xs) {i : Nat} {v : Int} (hv : xs[i]? = some v) : ∃ ad, A = some ad ∧ w.cell? (ad.add i) = some (.int .i64 v) := by
  obtain ⟨A', c', hA, _, _, _, _, h6⟩ := h
  simp only [List.cons.injEq, Value.slice.injEq, and_true] at hA
  obtain ⟨rfl, rfl, rfl⟩ := hA
  obtain ⟨ad, hA, _, hc, _⟩ := RowOf.ints h6 hv
  exact ⟨ad, hA, hc⟩
theorem fresh_pair {l : List Msg} {a b : Msg} (ha : a ∈ freshM l) (hb : b ∈ freshM l) : ¬ a.nonce < getI b.vector a.from_ := by
  unfold freshM at ha hb
  rw [List.mem_filter] at ha hb
  have := List.all_eq_true.1 ha.2 b hb.1
  simpa [staleM] using this
set_option maxRecDepth 100000 in
set_option maxHeartbeats 2000000 in
theorem quorumMeets_mod (A : Option Addr) (n c : Nat) (l : List Msg) (e0 e1 e2 e3 e4 e5 e6 s0 s1 s2 : Int) (es : List Int) (hes : es = [e0, e1, e2, e3, e4, e5, e6]) (her : ∀ x ∈ es, 0 ≤ x ∧ x ≤ 65535) (ok : Nat → Prop) (w : World) (h : msgsR.rel w ok [.slice A n c] l) (hs2 : 0 ≤ s2 ∧ s2 ≤ 255) :
    Calls Try.prog 4 #[.slice A n c, .agg #[.int .u16 e0, .int .u16 e1, .int .u16 e2, .int .u16 e3, .int .u16 e4, .int .u16 e5, .int .u16 e6], .agg #[.int .u8 s0, .int .u8 s1, .int .u8 s2]] w fun e w' => e = .returned (.bool true) ∧ Mod (fun _ => False) w w' := by
  obtain ⟨rfl, hcap, hrow, -, -⟩ := msgs_row h
  have H0 := Lib.hid h; clear h hrow
  have HE := Lib.hid (And.intro (show es.length = 7 by rw [hes]; rfl) her)
  have HES := Lib.hid hes; clear hes her
  go_enter Try.func4, Try.ntmps4
  go_wp2_with fail
  have hm0 : Mod (fun _ => False) w ((w.alloc (.cells #[.int .u16 e0, .int .u16 e1, .int .u16 e2, .int .u16 e3, .int .u16 e4, .int .u16 e5, .int .u16 e6] 50)).alloc (.cells #[.int .u8 s0, .int .u8 s1, .int .u8 s2] 51)) := ((Mod.refl (fun _ => False) w).alloc _).alloc _
  have hb2 := heap_alloc_new (w.alloc (.cells #[.int .u16 e0, .int .u16 e1, .int .u16 e2, .int .u16 e3, .int .u16 e4, .int .u16 e5, .int .u16 e6] 50)) (.cells #[.int .u8 s0, .int .u8 s1, .int .u8 s2] 51)
  have hb1 := ((Mod.refl (fun _ => False) (w.alloc (.cells #[.int .u16 e0, .int .u16 e1, .int .u16 e2, .int .u16 e3, .int .u16 e4, .int .u16 e5, .int .u16 e6] 50))).alloc (.cells #[.int .u8 s0, .int .u8 s1, .int .u8 s2] 51)).block w.heap.size (by rw [alloc_size]; omega) id
  rw [heap_alloc_new w] at hb1
  have hsz : (w.alloc (.cells #[.int .u16 e0, .int .u16 e1, .int .u16 e2, .int .u16 e3, .int .u16 e4, .int .u16 e5, .int .u16 e6] 50)).heap.size = w.heap.size + 1 := alloc_size _ _
  rw [hsz] at hb2
  refine (first_any _).mono ?_
  rintro e w1 ⟨rfl, hm1⟩
  obtain ⟨g, hg⟩ : ∃ g, g = w.heap.size := ⟨_, rfl⟩
  rw [← hg] at hb1 hb2 ⊢
  have hb1 := (hm1.block g (lt_of_blk hb1) id).trans hb1
  have hb2 := (hm1.block (g + 1) (lt_of_blk hb2) id).trans hb2
  have hm := hm0.trans hm1 (fun _ h => h.elim)
  have hcells : ∀ W, Mod (fun _ => False) w1 W → (W.cell? ⟨g + 1, 0, none⟩ = some (.int .u8 s0) ∧ W.cell? ⟨g + 1, 1, none⟩ = some (.int .u8 s1) ∧ W.cell? ⟨g + 1, 2, none⟩ = some (.int .u8 s2)) ∧ (∀ i x, es[i]? = some x → W.cell? ⟨g, i, none⟩ = some (.int .u16 x)) := fun W hW =>
    have h2 := (hW.block (g + 1) (lt_of_blk hb2) id).trans hb2
    have h1 := (hW.block g (lt_of_blk hb1) id).trans hb1
    ⟨⟨by rw [cell_of_blk h2]; rfl, by rw [cell_of_blk h2]; rfl, by rw [cell_of_blk h2]; rfl⟩, fun i x hx => by
      rw [cell_of_blk h1]
      rw [HES.out] at hx
      have := congrArg (Option.map (Value.int .u16)) hx
      rw [← List.getElem?_map] at this
      simpa using this⟩
  have H1 := Lib.hid (And.intro (Rd.mod (Rd.bound H0.out) hm (fun _ _ => id)) (And.intro hcells hm))
  clear H0 hm0 hb1 hb2 hm1 hm hcells hsz hg
  have c2 := (H1.out.2.1 w1 (.refl _ _)).1.2.2
  by_cases ha : 30 < l.length
  · have hd : decide ((30 : Int) < (l.length : Int)) = true := by simp; omega
    go_wp2_with fail
    go_ret
    exact ⟨rfl, H1.out.2.2⟩
  have hda : decide ((30 : Int) < (l.length : Int)) = false := by simp; omega
  go_wp2_with fail
  refine (fresh_any A _ c l _ w1 H1.out.1 (by omega)).mono ?_
  rintro e w2 ⟨AF, cF, rfl, ho, hm⟩
  obtain ⟨f, hf⟩ : ∃ f, f = freshM l := ⟨_, rfl⟩
  rw [← hf] at ho ⊢
  have hfl : f.length ≤ 30 := by rw [hf]; exact Nat.le_trans (List.length_filter_le _ _) (by omega)
  have hr := ho.reads (bytes := 504) (by omega)
  have H2 := Lib.hid (And.intro (Rd.bound hr) (And.intro hm (fun a b ha hb => fresh_pair (l := l) (a := a) (b := b) (by rw [← hf]; exact ha) (by rw [← hf]; exact hb)))); clear hr ho hm hf
  obtain ⟨-, hfc, hfrow, -, -⟩ := msgs_row H2.out.1
  have HF := Lib.hid hfrow; clear hfrow
  go_wp2_with fail
  go_loopg [38] f.length (fun k si wr => ∃ (i : Nat), si = .int .i64 i ∧ i + k = f.length ∧ Mod (fun _ => False) w2 wr)
  case atStart => exact ⟨0, rfl, by omega, .refl _ _⟩
  case round =>
    obtain ⟨i, rfl, hi, hmod⟩ := hrel
    by_cases hlt : i < f.length
    · obtain ⟨m, hm⟩ : ∃ m, f[i]? = some m := ⟨_, List.getElem?_eq_getElem hlt⟩
      have HRr := HF.out.step (w1 := wr) (ok1 := fun _ => True) fun k hk hl => ⟨trivial, hmod.block k hl id⟩
      obtain ⟨ad, cs, rfl, -, hr, hc⟩ := HRr.at_ hm
      have HX := Lib.hid (And.intro hi (And.intro hmod (And.intro (List.mem_of_getElem? hm) (And.intro hr hc))))
      clear hi hmod hm HRr hr hc
      go_wp2_with (refine wpList_copy_var (n := 35) rfl rfl rfl 40 _ _ _ rfl rfl rfl Try.underlying40 zeroMsg Try.info_msg2 rfl (ad.add (i * 35)) rfl cs (MsgR_len HX.out.2.2.2.1) (MsgR.one HX.out.2.2.2.1) (fun j u hj => by rw [add_add]; exact HX.out.2.2.2.2 j u hj) (fun _ _ => rfl) (fun _ _ => rfl) ?_)
      intro g1 w3 hg1 hgb hm1
      have r1 := Rd.mod HX.out.2.2.2.1 (hm1 fun _ => False) (fun _ _ => id)
      have HG := Lib.hid (And.intro hgb (And.intro (HX.out.2.1.trans (hm1 fun _ => False) (fun _ h => h.elim)) r1)); clear hg1 hgb hm1 r1
      go_wp2_with fail
      go_loopg [44] f.length (fun k si wi => ∃ (j : Nat), si = .int .i64 j ∧ j + k = f.length ∧ Mod (fun _ => False) w3 wi)
      case atStart => exact ⟨0, rfl, by omega, .refl _ _⟩
      case round =>
        obtain ⟨j, rfl, hj, hmj⟩ := hrel
        by_cases hjt : j < f.length
        · obtain ⟨x, hx⟩ : ∃ x, f[j]? = some x := ⟨_, List.getElem?_eq_getElem hjt⟩
          have HRi := HF.out.step (w1 := wr) (ok1 := fun _ => True) fun k hk hl => ⟨trivial, (HG.out.2.1.trans hmj (fun _ h => h.elim)).block k hl id⟩
          obtain ⟨ad2, cs2, hA2, -, hr2, hc2⟩ := HRi.at_ hx
          cases hA2
          have hno := H2.out.2.2 m x HX.out.2.2.1 (List.mem_of_getElem? hx)
          have HJ := Lib.hid (And.intro hj (And.intro hmj (And.intro hno (And.intro hr2 hc2))))
          have HJ0 := Lib.hid hj
          clear hj hmj hx HRi hr2 hc2 hno
          go_wp2_with (refine wpList_copy_var (n := 35) rfl rfl rfl 40 _ _ _ rfl rfl rfl Try.underlying40 zeroMsg Try.info_msg2 rfl (ad.add (j * 35)) rfl cs2 (MsgR_len HJ.out.2.2.2.1) (MsgR.one HJ.out.2.2.2.1) (fun j u hj => by rw [add_add]; exact HJ.out.2.2.2.2 j u hj) (fun _ _ => rfl) (fun _ _ => rfl) ?_)
          intro g2 w4 hg2 hgb2 hm2
          have hm12 : Mod (fun _ => False) w3 w4 := HJ.out.2.1.trans (hm2 fun _ => False) (fun _ h => h.elim)
          have e1 : w4.heap[g1]? = some (.cells cs.toArray 40 (0, 0)) := (hm12.block g1 (lt_of_blk HG.out.1) id).trans HG.out.1
          obtain ⟨d1, d7, -⟩ := msg_var (Rd.mod HG.out.2.2 hm12 (fun _ _ => id)) e1
          obtain ⟨-, -, VA, vc, d8, hv⟩ := msg_var (Rd.mod HJ.out.2.2.2.1 (hm2 fun _ => False) (fun _ _ => id)) hgb2
          have hno := HJ.out.2.2.1
          obtain ⟨fr, hfr⟩ : ∃ fr, fr = m.from_ := ⟨_, rfl⟩
          obtain ⟨no, hnn⟩ : ∃ no, no = m.nonce := ⟨_, rfl⟩
          rw [← hfr] at d1 hno
          rw [← hnn] at d7 hno
          have hcase := (getI_case hv fr).2
          have HW := Lib.hid hm12; clear hg2 hgb2 hm2 hm12 e1 hv hfr hnn HJ
          rcases hcase with ⟨h0, -⟩ | ⟨h0, -⟩ | ⟨k, ad3, y, rfl, hk, rfl, hcy, hgy⟩
          · have hd : decide (0 ≤ fr) = false := by simp; omega
            clear hno h0
            go_wp2_with fail
            go_quiet (fail)
            go_wp2_with fail
            go_roundg (gk - 1)
            case measure => have := HJ0.out; omega
            case rel => exact ⟨j + 1, by go_num, by have := HJ0.out; omega, HW.out.drewN _⟩
          · have hd : decide (0 ≤ fr) = true := by simp; omega
            have hd2 : decide (fr < (x.vector.length : Int)) = false := by simp; omega
            clear hno h0
            go_wp2_with fail
            go_quiet (fail)
            go_wp2_with fail
            go_roundg (gk - 1)
            case measure => have := HJ0.out; omega
            case rel => exact ⟨j + 1, by go_num, by have := HJ0.out; omega, HW.out.drewN _⟩
          · rw [hgy] at hno
            have hd3 : decide (no < y) = false := by simpa using hno
            have hd2 : decide ((k : Int) < (x.vector.length : Int)) = true := by simpa using hk
            have hd : decide ((0 : Int) ≤ (k : Int)) = true := by simp
            clear hno hgy
            go_wp2_with fail
            go_quiet (fail)
            go_wp2_with fail
            go_roundg (gk - 1)
            case measure => have := HJ0.out; omega
            case rel => exact ⟨j + 1, by go_num, by have := HJ0.out; omega, HW.out.drewN _⟩
        · have HJ := Lib.hid (And.intro hj hmj); clear hj hmj
          go_wp2_with fail
          go_roundg (f.length - i - 1)
          case measure => have := HX.out.1; omega
          case rel => exact ⟨i + 1, by go_num, by have := HX.out.1; omega, HG.out.2.1.trans HJ.out.2 (fun _ h => h.elim)⟩
    · have HX := Lib.hid hmod; clear hmod hi
      go_wp2_with fail
      obtain ⟨N, hN⟩ : ∃ N : Nat, 3 + 2 * (s2 % 3) = (N : Int) := ⟨(3 + 2 * (s2 % 3)).toNat, by omega⟩
      obtain ⟨F, hF⟩ : ∃ F : Nat, F + 1 + F = N := ⟨N / 2, by omega⟩
      have hN7 : N ≤ 7 ∧ F < N := by omega
      have hsz : sizeB N = true := by
        have : N = 3 ∨ N = 5 ∨ N = 7 := by omega
        rcases this with rfl | rfl | rfl <;> rfl
      have hfN : faultsI N = (F : Int) := by unfold faultsI; rw [hsz]; simp; omega
      have hag : ∀ l : List Int, agreedI l N = (sortI (endsI l N)).getD F 0 := fun l => by
        unfold agreedI
        rw [hsz, if_pos rfl, Int.toNat_natCast]
        congr 1; omega
      rw [hN]
      have HA := Lib.hid (And.intro hF (And.intro hsz hag)); clear hsz hag hF hN
      refine (faults_any N _).mono ?_
      rintro e w3 ⟨rfl, rfl⟩
      rw [hfN]
      clear hfN
      go_wp2_with fail
      go_loopg [15, 16, 17, 81] N (fun k vb vo vt si wr => ∃ (i b o t : Nat), vb = .int .i64 b ∧ vo = .int .i64 o ∧ vt = .int .i64 t ∧ si = .int .i64 i ∧ i + k = N ∧ (o + t ≤ i + b ∧ b ≤ i ∧ o ≤ i ∧ t ≤ i) ∧ Mod (fun _ => False) w2 wr)
      case atStart => exact ⟨0, 0, 0, 0, rfl, rfl, rfl, rfl, by omega, by omega, HX.out⟩
      case round =>
        obtain ⟨i2, vb, vo, vt, rfl, rfl, rfl, rfl, hi, hs, hmod⟩ := hrel
        by_cases hlt2 : i2 < N
        · have HC := H1.out.2.1 wr (H2.out.2.1.trans hmod (fun _ h => h.elim))
          obtain ⟨⟨c0, c1, -⟩, -⟩ := HC
          have HY := Lib.hid (And.intro hi (And.intro hs hmod)); clear hi hs hmod
          go_wp2_with fail
          go_quiet (fail)
          go_wp2_with fail
          all_goals
            go_roundg (gk - 1)
            case measure => have := HY.out.1; omega
            case rel =>
              have h1 := HY.out.1
              have h2 := HY.out.2.1
              first
                | exact ⟨i2 + 1, vb + 1, vo + 1, vt + 1, wr1 vb (by omega), wr1 vo (by omega), wr1 vt (by omega), by go_num, by omega, by omega, HY.out.2.2.drewN _⟩
                | exact ⟨i2 + 1, vb, vo + 1, vt, rfl, wr1 vo (by omega), rfl, by go_num, by omega, by omega, HY.out.2.2.drewN _⟩
                | exact ⟨i2 + 1, vb, vo, vt + 1, rfl, rfl, wr1 vt (by omega), by go_num, by omega, by omega, HY.out.2.2.drewN _⟩
                | exact ⟨i2 + 1, vb, vo, vt, rfl, rfl, rfl, by go_num, by omega, by omega, HY.out.2.2.drewN _⟩
        · have HY := Lib.hid (And.intro hi (And.intro hs hmod)); clear hi hs hmod
          go_wp2_with fail
          go_loopg [21, 110] N (fun k sv si wr => ∃ (i : Nat), si = .int .i64 i ∧ i + k = N ∧ wr.ownsRow w2.heap.size 3 1 sv i (icells (es.take i)) ∧ Mod (fun _ => False) w2 wr)
          case atStart => exact ⟨0, rfl, by omega, World.ownsRow_nil _ _ _ _, HY.out.2.2⟩
          case round =>
            obtain ⟨i3, rfl, hi, ho, hmod⟩ := hrel
            by_cases hlt3 : i3 < N
            · have hsz := hmod.size
              obtain ⟨x, hx⟩ : ∃ x, es[i3]? = some x := ⟨_, List.getElem?_eq_getElem (by rw [HE.out.1]; omega)⟩
              have hce := (H1.out.2.1 wr (H2.out.2.1.trans hmod (fun _ h => h.elim))).2 i3 x hx
              have hxr := HE.out.2 x (List.mem_of_getElem? hx)
              have hlen : (es.take i3).length = i3 := by rw [List.length_take, HE.out.1]; omega
              have HZ := Lib.hid (And.intro hi (And.intro ho (And.intro hmod (And.intro hx hlen)))); clear hi ho hmod hx hlen
              go_wp2_with (at_builtin; refine append_one w2.heap.size rfl _ _ 23 3 (.int .i64 0) 8 rfl Try.underlying23 Try.info_int rfl (by decide) u21 (icells (es.take i3)) _ rfl rfl rfl (by rw [icells_length, HZ.out.2.2.2.2]; exact HZ.out.2.1) hsz ?c1 ?_)
              case c1 => rw [icells_length, HZ.out.2.2.2.2]; omega
              intro A' c' w4 hown hg4 hn4
              have HO := Lib.hid (And.intro hown hg4); clear hown hg4 hn4
              go_wp2_with fail
              go_roundg (gk - 1)
              case measure => have := HZ.out.1; omega
              case rel =>
                refine ⟨i3 + 1, by go_num, by have := HZ.out.1; omega, ?_, HZ.out.2.2.1.grown HO.out.2 (fun k hk => .inr (own_lt HZ.out.2.1 k hk.symm).1)⟩
                have h4 := HO.out.1
                rw [icells_length, HZ.out.2.2.2.2] at h4 ⊢
                rw [List.take_add_one, HZ.out.2.2.2.1, icells_append]
                exact h4
            · obtain rfl : i3 = N := by omega
              obtain ⟨A4, c4, rfl⟩ := own_slice ho
              have hlen : (es.take i3).length = i3 := by rw [List.length_take, HE.out.1]; omega
              have hrd := reads_ints (xs := es.take i3) (by rw [hlen]; exact ho) (fun x hx => by have := HE.out.2 x (List.mem_of_mem_take hx); exact inR_mk ⟨by omega, by omega⟩) (by rw [hlen]; omega)
              have hhv := have_le (es.take i3) i3 F hlen HA.out.1
              have HZ := Lib.hid (And.intro hlen (And.intro (Rd.bound hrd) (And.intro hmod hhv))); clear hlen hrd hhv hi ho hmod
              obtain ⟨l2, hl2⟩ : ∃ l2, l2 = es.take i3 := ⟨_, rfl⟩
              rw [← hl2] at HZ
              go_wp2_with fail
              refine (agreed_any A4 _ c4 l2 (i3 : Nat) _ wr HZ.out.2.1).mono ?_
              rintro e w5 ⟨rfl, hm5⟩
              rw [HA.out.2.2]
              obtain ⟨q, hq⟩ : ∃ q, q = (sortI (endsI l2 i3)).getD F 0 := ⟨_, rfl⟩
              rw [← hq]
              have hh := HZ.out.2.2.2
              rw [← hq] at hh
              have H5 := Lib.hid (And.intro (Rd.mod HZ.out.2.1 hm5 (fun _ _ => id)) (And.intro (HZ.out.2.2.1.trans hm5 (fun _ h => h.elim)) hh)); clear hm5 hq hh
              go_wp2_with fail
              go_loopg [24, 126] i3 (fun k vh si wr => ∃ (j h : Nat), vh = .int .i64 h ∧ si = .int .i64 j ∧ j + k = i3 ∧ h = (l2.take j).countP (fun e => decide (q ≤ e)) ∧ Mod (fun _ => False) w5 wr)
              case atStart => exact ⟨0, 0, rfl, rfl, by omega, rfl, .refl _ _⟩
              case round =>
                obtain ⟨j, hv, rfl, rfl, hj, hc, hmj⟩ := hrel
                by_cases hjt : j < i3
                · obtain ⟨x, hx⟩ : ∃ x, l2[j]? = some x := ⟨_, List.getElem?_eq_getElem (by rw [HZ.out.1]; exact hjt)⟩
                  obtain ⟨ad, rfl, hcx⟩ := ints_at2 (Rd.mod H5.out.1 hmj (fun _ _ => id)) hx
                  have hle : hv ≤ j := by rw [hc]; exact Nat.le_trans List.countP_le_length (by rw [List.length_take]; omega)
                  have hst : (l2.take (j + 1)).countP (fun e => decide (q ≤ e)) = hv + if q ≤ x then 1 else 0 := by
                    rw [List.take_add_one, hx, List.countP_append, ← hc]
                    simp [List.countP_cons]
                  have HJ := Lib.hid (And.intro hj (And.intro hst (And.intro hmj hle))); clear hj hc hst hmj hx hle
                  by_cases hqx : q ≤ x
                  · have hd : decide (q ≤ x) = true := by simpa using hqx
                    rw [if_pos hqx] at HJ
                    clear hqx
                    go_wp2_with fail
                    go_roundg (gk - 1)
                    case measure => have := HJ.out.1; omega
                    case rel =>
                      have h2 := HJ.out.2.2.2
                      exact ⟨j + 1, hv + 1, wr1 hv (by omega), by go_num, by have := HJ.out.1; omega, HJ.out.2.1.symm, HJ.out.2.2.1⟩
                  · have hd : decide (q ≤ x) = false := by simpa using hqx
                    rw [if_neg hqx] at HJ
                    clear hqx
                    go_wp2_with fail
                    go_roundg (gk - 1)
                    case measure => have := HJ.out.1; omega
                    case rel => exact ⟨j + 1, hv, rfl, by go_num, by have := HJ.out.1; omega, HJ.out.2.1.symm, HJ.out.2.2.1⟩
                · have hje : l2.take j = l2 := List.take_of_length_le (by rw [HZ.out.1]; omega)
                  rw [hje] at hc
                  have hge : F + 1 ≤ hv := by rw [hc]; exact H5.out.2.2
                  have HJ := Lib.hid hmj; clear hj hc hmj hje
                  have h2 := HY.out.2.1
                  have h3 := HA.out.1
                  have h4 := HY.out.1
                  have hlo : hv ≤ 1000 ∨ True := .inr trivial
                  have hd : decide ((F : Int) + 1 ≤ (hv : Int)) = true := by simp; omega
                  have hcs : decide ((vo : Int) < (F : Int) + 1) = true ∨ (decide ((vo : Int) < (F : Int) + 1) = false ∧ decide ((vt : Int) < (F : Int) + 1) = true) ∨ (decide ((vo : Int) < (F : Int) + 1) = false ∧ decide ((vt : Int) < (F : Int) + 1) = false ∧ 0 < vb) := by
                    simp only [decide_eq_true_eq, decide_eq_false_iff_not]; omega
                  clear h2 h3 h4 hge hlo
                  rcases hcs with hd1 | ⟨hd1, hd2⟩ | ⟨hd1, hd2, hd3⟩
                  all_goals
                    go_wp2_with fail
                    go_ret
                    exact ⟨rfl, H1.out.2.2.trans (H2.out.2.1.trans (H5.out.2.1.trans HJ.out (fun _ h => h.elim)) (fun _ h => h.elim)) (fun _ h => h.elim)⟩
theorem msgs_opens : Opens Try.prog msgsR 22 := opens_slice Try.underlying22 (by kernel_rfl) (by kernel_rfl) MsgR_opens
abbrev u16x7R : Rd (List Int) := Rd.arr 7 (by decide) (Rd.int .u16)
theorem u16x7_opens : Opens Try.prog u16x7R 50 := opens_array Try.underlying50 (by kernel_rfl) (by kernel_rfl) (opens_int Try.underlying49)
abbrev u8x3R : Rd (List Int) := Rd.arr 3 (by decide) (Rd.int .u8)
theorem u8x3_opens : Opens Try.prog u8x3R 51 := opens_array Try.underlying51 (by kernel_rfl) (by kernel_rfl) (opens_int Try.underlying5)
theorem quorumMeets_walk (A : Option Addr) (n c : Nat) (cs1 cs2 : Array Value) (l : List Msg) (x y : List Int) (W : World) (h : msgsR.rel W (fun k => k < W.heap.size) [.slice A n c] l) (h2 : u16x7R.rel W (fun k => k < W.heap.size) cs1.toList x) (h3 : u8x3R.rel W (fun k => k < W.heap.size) cs2.toList y) :
    Calls Try.prog 4 #[.slice A n c, .agg cs1, .agg cs2] W fun e W' => e = .returned (.bool true) ∧ Below W.heap.size W W' := by
  obtain ⟨hc1, hl1, hx⟩ := arr_ints h2
  obtain ⟨hc2, hl2, hy⟩ := arr_ints h3
  match x, hl1, y, hl2 with
  | [e0, e1, e2, e3, e4, e5, e6], _, [s0, s1, s2], _ =>
    obtain rfl : cs1 = #[.int .u16 e0, .int .u16 e1, .int .u16 e2, .int .u16 e3, .int .u16 e4, .int .u16 e5, .int .u16 e6] := by cases cs1; simpa using hc1
    obtain rfl : cs2 = #[.int .u8 s0, .int .u8 s1, .int .u8 s2] := by cases cs2; simpa using hc2
    have hs2 : 0 ≤ s2 ∧ s2 ≤ 255 := by simpa [Rd.inR, Lit.wf, IntKind.min, IntKind.max, IntKind.signed, IntKind.bits] using hy s2 (by simp)
    refine (quorumMeets_mod A n c l e0 e1 e2 e3 e4 e5 e6 s0 s1 s2 _ rfl (fun x hm => ?_) _ W h hs2).mono fun _ _ h => ⟨h.1, h.2.below (Nat.le_refl _) (fun _ h => h.elim)⟩
    simpa [Rd.inR, Lit.wf, IntKind.min, IntKind.max, IntKind.signed, IntKind.bits] using hx x hm
end Go.Proofs.Ytgdadhpcooegnaa
