/- Texts of this claim, joined: OwnG, OwnM, LawOwnsMore, CardOwnsMore. -/
import Derived.Test.YthhepnaanjicjaaGreatDoorO2
import Derived.Test.YthhepnaanjicjaaGreatDoorO1
import Derived.Test.YthhepnaanjicjaaGreatDoorO3
import Derived.Test.YthhepnaanjicjaaGreatDoorP6
import Derived.WalkKit
import Derived.ProofKit
import Derived.OpenShut
import Derived.ShutString
import Derived.ChangeOld
import Derived.Below
import Derived.SizedLaws
import Derived.ChangeVars
import Derived.JoinedOf
import Derived.RowKitTokens
import Derived.LaidLaws
import Derived.LaidHandle
import Derived.Stop.Joined
import Derived.Test.YthhepnaanjicjaaGreatDoorP7
import Derived.Test.YthhepnaanjicjaaGreatDoorRows
import Derived.Test.YthhepnaanjicjaaGreatDoorCards
import Derived.Test.YthhepnaanjicjaaGreatDoorTie
import Derived.SevenTiedAt
/- Layer 7, owns: Get, of a tape in any state; what is put is got. -/
namespace Go.Proofs.YthhepnaanjicjaaGreatDoor
open Go.RowKit Go.Shelf
set_option linter.unusedVariables false
def getC : Nat → TSt → List Nm × TSt
  | 0, s => ([], s)
  | k + 1, s => ((textS 80 s).1 :: (getC k (textS 80 s).2).1, (getC k (textS 80 s).2).2)
noncomputable def getO (s : TSt) : List Nm × Int × TSt :=
  if (getC (numS 8 s).1.toNat (numS 8 s).2).2.2 ≠ 0 ∨ rightO (getC (numS 8 s).1.toNat (numS 8 s).2).1 = false then ([], 10, (getC (numS 8 s).1.toNat (numS 8 s).2).2) else ((getC (numS 8 s).1.toNat (numS 8 s).2).1, 0, (getC (numS 8 s).1.toNat (numS 8 s).2).2)
theorem getC_enc : ∀ (l : List Nm) (rest : List UInt8), (∀ e ∈ l, e.length ≤ 80) → getC l.length (l.flatMap encC ++ rest, 0) = (l, (rest, 0))
  | [], rest, _ => by simp [getC]
  | e :: l, rest, h => by
    have h1 := h e List.mem_cons_self
    have ih := getC_enc l rest fun x hx => h x (List.mem_cons_of_mem _ hx)
    have hl : (e :: l).flatMap encC ++ rest = encF 10 e.length ++ (e ++ (l.flatMap encC ++ rest)) := by
      rw [List.flatMap_cons, encC]; simp
    rw [hl, List.length_cons, getC, textS_enc e _ (by omega) (by omega)]
    simp only
    rw [ih]
theorem getO_enc {l : List Nm} (h : RightO l) (rest : List UInt8) : getO (encO l ++ rest, 0) = (l, 0, (rest, 0)) := by
  have h8 := h.len
  have hl : encO l ++ rest = encF 10 (l.length : Int) ++ (l.flatMap encC ++ rest) := by unfold encO; simp
  unfold getO
  rw [hl, numS_enc _ (by omega) (by omega) (by omega)]
  simp only [Int.toNat_natCast]
  rw [getC_enc l rest (rightO_names h)]
  rw [if_neg (by simp [rightO_iff.2 h])]
set_option maxRecDepth 100000 in
set_option maxHeartbeats 2000000 in
theorem getO_any (g : Nat) (ok : Nat → Prop) (s : TSt) (w : World) (h : TapeS w ok g s) (hE : ∀ W, Mod (fun k => k = g) w W → Env W) :
    Calls Tryz.prog 34 #[.pointer (some ⟨g, 0, none⟩)] w fun r w' => ∃ A c, r = .returned (.tuple #[.slice A (getO s).1.length c, .int .i64 (getO s).2.1]) ∧ OwnN w' w.heap.size (.slice A (getO s).1.length c) (getO s).1 ∧ TapeS w' ok g (getO s).2.2 ∧ Mod (fun k => k = g) w w' := by
  obtain ⟨z, hz⟩ : ∃ z, z = getO s := ⟨_, rfl⟩
  rw [← hz]
  unfold getO at hz
  have hgw := h.lt
  have hbd : ∀ W, TapeS W (fun k => ok k ∧ k < w.heap.size) g z.2.2 → TapeS W ok g z.2.2 := fun W hW => hW.mono fun k hk => hk.1
  have h := h.bound
  obtain ⟨ok1, hok1⟩ : ∃ ok1, ok1 = fun k => ok k ∧ k < w.heap.size := ⟨_, rfl⟩
  have hok2 : ∀ k, ok1 k → k < w.heap.size := fun k hk => by rw [hok1] at hk; exact hk.2
  rw [← hok1] at h hbd
  have hn := tnumS_any g ok1 s 8 w h
  have hr := numS_range s (most := 8) (by decide)
  obtain ⟨s1, hs1⟩ : ∃ s1, s1 = (numS 8 s).2 := ⟨_, rfl⟩
  obtain ⟨K, hK⟩ : ∃ K : Nat, K = (numS 8 s).1.toNat := ⟨_, rfl⟩
  have hK' : (numS 8 s).1 = K := by omega
  rw [← hs1, hK'] at hn
  rw [← hs1, ← hK] at hz
  have hK8 : K ≤ 8 := by omega
  have H0 := Lib.hid (And.intro hn (And.intro hz (And.intro hE (And.intro hgw (And.intro hbd hok2))))); clear h hn hz hE hr hs1 hK hK' hgw hbd hok1 hok2
  go_enter Tryz.func34, Tryz.ntmps34
  go_wp2_with fail
  refine H0.out.1.mono ?_
  rintro r w1 ⟨rfl, ht1, hm1⟩
  have H1 := Lib.hid (And.intro ht1 hm1); clear ht1 hm1
  go_wp2_with fail
  go_loopg [4, 7] K (fun f so si wr => ∃ (i : Nat) (A : Option Addr) (c : Nat) (lst : List Nm) (s2 : TSt), si = .int .i64 i ∧ so = .slice A i c ∧ i + f = K ∧ lst.length = i ∧ (∀ x ∈ lst, x.length ≤ 80) ∧ getC K s1 = (lst ++ (getC f s2).1, (getC f s2).2) ∧ OwnN wr w.heap.size (.slice A i c) lst ∧ TapeS wr ok1 g s2 ∧ Mod (fun k => k = g) w wr)
  case atStart => exact ⟨0, none, 0, [], s1, rfl, rfl, by omega, rfl, by simp, by simp, OwnN.nil _ _, H1.out.1, H1.out.2⟩
  case round =>
    obtain ⟨i, A, c, lst, s2, rfl, rfl, hi, hll, hle, hget, hO, hT, hmod⟩ := hrel
    by_cases hlt : i < K
    · obtain ⟨f, rfl⟩ : ∃ f, gk = f + 1 := ⟨gk - 1, by omega⟩
      obtain ⟨d, hd⟩ : ∃ d, d = (textS 80 s2).1 := ⟨_, rfl⟩
      obtain ⟨s3, hs3⟩ : ∃ s3, s3 = (textS 80 s2).2 := ⟨_, rfl⟩
      have hdl : d.length ≤ 80 := by have := textS_le s2 (most := 80) (by decide); rw [← hd] at this; omega
      have hget' : getC K s1 = ((lst ++ [d]) ++ (getC f s3).1, (getC f s3).2) := by rw [hget, getC, ← hs3, ← hd]; simp
      have hle' : ∀ x ∈ lst ++ [d], x.length ≤ 80 := fun x hx => (List.mem_append.1 hx).elim (hle x) (fun h => by rw [List.mem_singleton.1 h]; exact hdl)
      have htx := ttextS_any g ok1 s2 80 wr hT
      unfold mkStr at htx
      rw [← hd, ← hs3] at htx
      have HX := Lib.hid (And.intro hi (And.intro hll (And.intro hget' (And.intro hO (And.intro htx (And.intro hle' hmod))))))
      clear hi hll hget hget' hO htx hle hle' hmod hT hd hs3
      go_wp2_with fail
      refine HX.out.2.2.2.2.1.mono ?_
      rintro r w2 ⟨rfl, ht2, hm2⟩
      have hm02 := HX.out.2.2.2.2.2.2.trans hm2 (fun _ h => .inl h)
      have hO2 := OwnN.mod HX.out.2.2.2.1 hm2 (fun k hk e => by have h1 := (own_lt HX.out.2.2.2.1 k hk).1; have h2 := H0.out.2.2.2.1; omega)
      have hsz := hm02.size
      have hll := HX.out.2.1
      have H3 := Lib.hid (And.intro hO2 (And.intro ht2 (And.intro hm02 hsz))); clear ht2 hm2 hm02 hO2 hsz
      go_wp2_with (at_builtin; refine append1_nm w.heap.size rfl _ _ rfl (.slice A i c) lst d rfl rfl H3.out.1 H3.out.2.2.2 (by rw [hll]; omega) ?_)
      intro A8 c8 w8 hO8 hm8 hn8
      have hne : ∀ k, (Value.slice A i c).ownBlock = some k → w.heap.size ≤ k := fun k hk => (own_lt H3.out.1 k hk).1
      have hap : ∀ k, ok1 k → ¬ (Value.slice A i c).ownBlock = some k := fun k hk e => by have h1 := hne k e; have h2 := H0.out.2.2.2.2.2 k hk; omega
      have hm08 := H3.out.2.2.1.trans hm8 (fun k hk => .inr (hne k hk))
      have H8 := Lib.hid (And.intro hO8 (And.intro (H3.out.2.1.mod hm8 (fun hk => by have := hne _ hk; have := H0.out.2.2.2.1; omega) hap) hm08)); clear hO8 hm8 hn8 hm08 hne hap
      go_wp2_with fail
      go_roundg f
      case measure => omega
      case rel => exact ⟨i + 1, A8, c8, lst ++ [d], s3, by go_num, by first | rfl | simp [hll], by have := HX.out.1; omega, by simp; omega, HX.out.2.2.2.2.2.1, HX.out.2.2.1, by first | exact H8.out.1 | (have h := H8.out.1; rw [HX.out.2.1] at h; exact h), H8.out.2.1, H8.out.2.2⟩
    · obtain rfl : gk = 0 := by omega
      obtain rfl : i = K := by omega
      have hget' : getC i s1 = (lst, s2) := by rw [hget]; simp [getC]
      have hzz := H0.out.2.1
      rw [hget'] at hzz
      have her := terrS_any g ok1 s2 wr hT
      have hrd : nmsR.rel wr _ [.slice A i c] lst := OwnN.reads hO (fun x hx => Nat.le_trans (hle x hx) (by decide)) (by omega)
      have hrt2 := rightO_any A i c lst _ wr hrd (H0.out.2.2.1 wr hmod)
      have HX := Lib.hid (And.intro hO (And.intro hT (And.intro hmod (And.intro hzz (And.intro her (And.intro hrt2 hll))))))
      clear hi hll hget hget' hO hT hmod hzz her hrd hrt2 hle
      by_cases hs : s2.2 = 0
      · go_wp2_with fail
        refine HX.out.2.2.2.2.1.mono ?_
        rintro r w2 ⟨e, rfl, he, -, rfl⟩
        obtain rfl := he hs
        cases hrb : rightO lst with
        | true =>
          have hrt := HX.out.2.2.2.2.2.1
          rw [hrb] at hrt
          have hz' : z = (lst, 0, s2) := by rw [HX.out.2.2.2.1, if_neg (by simp [hs, hrb])]
          have HR := Lib.hid hrt; clear hrt hrb hs
          subst hz'
          go_wp2_with fail
          refine HR.out.mono ?_
          rintro r w3 ⟨rfl, hm3⟩
          have H3 := Lib.hid hm3; clear hm3
          go_wp2_with fail
          go_ret2
          have hll := HX.out.2.2.2.2.2.2
          subst hll
          exact ⟨A, c, rfl, OwnN.mod HX.out.1 H3.out (fun _ _ => id), H0.out.2.2.2.2.1 _ (HX.out.2.1.mod H3.out id (fun _ _ => id)), tr0 HX.out.2.2.1 H3.out⟩
        | false =>
          have hrt := HX.out.2.2.2.2.2.1
          rw [hrb] at hrt
          have hz' : z = ([], 10, s2) := by rw [HX.out.2.2.2.1, if_pos (.inr hrb)]
          have HR := Lib.hid hrt; clear hrt hrb hs
          subst hz'
          go_wp2_with fail
          refine HR.out.mono ?_
          rintro r w3 ⟨rfl, hm3⟩
          have H3 := Lib.hid hm3; clear hm3
          go_wp2_with fail
          go_ret2
          exact ⟨none, 0, rfl, OwnN.nil _ _, H0.out.2.2.2.2.1 _ (HX.out.2.1.mod H3.out id (fun _ _ => id)), tr0 HX.out.2.2.1 H3.out⟩
      · have hz' : z = ([], 10, s2) := by rw [HX.out.2.2.2.1, if_pos (.inl hs)]
        go_wp2_with fail
        refine HX.out.2.2.2.2.1.mono ?_
        rintro r w2 ⟨e, rfl, -, he, rfl⟩
        obtain ⟨T, p, rfl⟩ := he hs
        clear he hs
        subst hz'
        go_wp2_with fail
        go_ret2
        exact ⟨none, 0, rfl, OwnN.nil _ _, H0.out.2.2.2.2.1 _ HX.out.2.1, HX.out.2.2.1⟩
end Go.Proofs.YthhepnaanjicjaaGreatDoor

/- Layer 7, the laws: OwnsMore. -/
namespace Go.Proofs.YthhepnaanjicjaaGreatDoor
open Go.RowKit Go.Shelf
set_option linter.unusedVariables false
theorem PenAt.newM (w : World) (base : Nat) (hb : base ≤ w.heap.size) : PenAt (w.alloc (.cells #[.slice none 0 0] 41)) base w.heap.size (.slice none 0 0) [] :=
  ⟨heap_alloc_new w _, World.ownsRow_nil _ _ _ _, hb, by simp [Value.ownBlock]⟩
theorem encO_lenM {l : List Nm} (h : RightO l) : (encO l).length ≤ 100000000 := by
  unfold encO
  rw [List.length_append]
  have := encF_len 10 (l.length : Int)
  have h2 := flatC_len l fun c hc => Nat.le_trans (rightO_names h c hc) (by decide)
  have : 1000010 * l.length ≤ 1000010 * 8 := Nat.mul_le_mul_left _ h.len
  omega
theorem more_flows {a b : List Entry} {l u : List Nm} (hu : RightO u) (hs : ∀ x ∈ l, x ∈ u) (h : flowsOB a b l = true) : flowsOB a b u = true := by
  obtain ⟨h1, h2, h3, h4⟩ := flowsOB_iff.1 h
  exact flowsOB_iff.2 ⟨h1, h2, hu, fun c hc => h4 c fun hl => hc (hs c hl)⟩
theorem flows_none (a b : List Entry) : flowsOB a b [] = flowsLB a b := by
  rw [Bool.eq_iff_iff, flowsOB_iff, flowsLB_iff]
  exact ⟨fun h => ⟨h.ra, h.rb, fun c => h.le c (by simp)⟩, fun h => ⟨h.ra, h.rb, nilO, fun c _ => h.le c⟩⟩
set_option maxRecDepth 100000 in
set_option maxHeartbeats 8000000 in
theorem ownsMore_mod (A1 : Option Addr) (n1 c1' : Nat) (A2 : Option Addr) (n2 c2' : Nat) (A3 : Option Addr) (n3 c3' : Nat) (A4 : Option Addr) (n4 c4' : Nat) (a b : List Entry) (l more : List Nm) (ok : Nat → Prop) (w : World) (h : labR.rel w ok [.slice A1 n1 c1'] a) (h2 : labR.rel w ok [.slice A2 n2 c2'] b) (h3 : nmsR.rel w ok [.slice A3 n3 c3'] l) (h4 : nmsR.rel w ok [.slice A4 n4 c4'] more) (E : Env w) :
    Calls Tryz.prog 6 #[.agg #[.slice A1 n1 c1', .slice A2 n2 c2'], .slice A3 n3 c3', .slice A4 n4 c4'] w fun r w' => r = .returned (.bool true) ∧ Mod (fun _ => False) w w' := by
  obtain rfl := (lab_row h).1
  obtain rfl := (lab_row h2).1
  obtain rfl := (nms_row h3).1
  obtain rfl := (nms_row h4).1
  have RA := fun W (hW : Mod (fun _ => False) w W) => Rd.mod h hW (fun _ _ => id)
  have RB := fun W (hW : Mod (fun _ => False) w W) => Rd.mod h2 hW (fun _ _ => id)
  have RL := fun W (hW : Mod (fun _ => False) w W) => Rd.mod h3 hW (fun _ _ => id)
  have RM := fun W (hW : Mod (fun _ => False) w W) => Rd.mod h4 hW (fun _ _ => id)
  have EW := fun W (hW : Mod (fun _ => False) w W) => E.mod0 hW
  have H0 := Lib.hid (And.intro EW (And.intro RA (And.intro RB (And.intro RL RM)))); clear E h h2 h3 h4 RA RB RL RM EW
  go_enter Tryz.func6, Tryz.ntmps6
  go_wp2_with (refine wpList_box_new rfl 45 _ rfl [.slice A1 a.length c1', .slice A2 b.length c2'] rfl ?_)
  intro g0 w0 hg hbk hm0
  have H1 := Lib.hid (And.intro (hm0 (fun _ => False)) hbk); clear hm0 hbk hg
  go_wp2_with fail
  refine (first7_any w0 (H0.out.1 w0 H1.out.1)).mono ?_
  rintro r w1 ⟨rfl, hm⟩
  have hbk := (hm.block _ (lt_of_blk H1.out.2) id).trans H1.out.2
  have hm1 := tr0 H1.out.1 hm
  have k0 : w1.cell? ⟨g0, 0, none⟩ = some (.slice A1 a.length c1') := by rw [Lib.cell_of_heap hbk]; rfl
  have k1 : w1.cell? ⟨g0, 1, none⟩ = some (.slice A2 b.length c2') := by rw [Lib.cell_of_heap hbk]; rfl
  have H2 := Lib.hid hm1; clear hm hbk H1 hm1
  go_wp2_with fail
  go_quiet (fail)
  have hmq := H2.out.drewN nq
  obtain ⟨wq, hwq⟩ : ∃ wq, wq = w1.drewN nq := ⟨_, rfl⟩
  rw [← hwq] at hmq ⊢
  clear k0 k1 hwq
  have HM := Lib.hid hmq; clear hmq H2
  cases hll : longO l with
  | true =>
    repeat (go_wp2_with fail; first | (go_at_call_of 12 ((#[.slice A3 l.length c3'] : Array Value)); refine (longO_any A3 l.length c3' l _ _ (H0.out.2.2.2.1 _ HM.out)).mono ?_; rintro _ w1 ⟨rfl, hm1⟩; replace HM := Lib.hid (tr0 HM.out hm1); clear hm1) | (go_at_call_of 12 ((#[.slice A4 more.length c4'] : Array Value)); refine (longO_any A4 more.length c4' more _ _ (H0.out.2.2.2.2 _ HM.out)).mono ?_; rintro _ w1 ⟨rfl, hm1⟩; replace HM := Lib.hid (tr0 HM.out hm1); clear hm1))
    go_wp2_with fail
    go_ret
    exact ⟨rfl, HM.out⟩
  | false =>
  cases hlm : longO more with
  | true =>
    repeat (go_wp2_with fail; first | (go_at_call_of 12 ((#[.slice A3 l.length c3'] : Array Value)); refine (longO_any A3 l.length c3' l _ _ (H0.out.2.2.2.1 _ HM.out)).mono ?_; rintro _ w1 ⟨rfl, hm1⟩; replace HM := Lib.hid (tr0 HM.out hm1); clear hm1) | (go_at_call_of 12 ((#[.slice A4 more.length c4'] : Array Value)); refine (longO_any A4 more.length c4' more _ _ (H0.out.2.2.2.2 _ HM.out)).mono ?_; rintro _ w1 ⟨rfl, hm1⟩; replace HM := Lib.hid (tr0 HM.out hm1); clear hm1))
    go_wp2_with fail
    go_ret
    exact ⟨rfl, HM.out⟩
  | false =>
  by_cases ha30 : 30 < a.length
  · repeat (go_wp2_with fail; first | (go_at_call_of 12 ((#[.slice A3 l.length c3'] : Array Value)); refine (longO_any A3 l.length c3' l _ _ (H0.out.2.2.2.1 _ HM.out)).mono ?_; rintro _ w1 ⟨rfl, hm1⟩; replace HM := Lib.hid (tr0 HM.out hm1); clear hm1) | (go_at_call_of 12 ((#[.slice A4 more.length c4'] : Array Value)); refine (longO_any A4 more.length c4' more _ _ (H0.out.2.2.2.2 _ HM.out)).mono ?_; rintro _ w1 ⟨rfl, hm1⟩; replace HM := Lib.hid (tr0 HM.out hm1); clear hm1))
    go_wp2_with fail
    go_ret
    exact ⟨rfl, HM.out⟩
  by_cases hb30 : 30 < b.length
  · repeat (go_wp2_with fail; first | (go_at_call_of 12 ((#[.slice A3 l.length c3'] : Array Value)); refine (longO_any A3 l.length c3' l _ _ (H0.out.2.2.2.1 _ HM.out)).mono ?_; rintro _ w1 ⟨rfl, hm1⟩; replace HM := Lib.hid (tr0 HM.out hm1); clear hm1) | (go_at_call_of 12 ((#[.slice A4 more.length c4'] : Array Value)); refine (longO_any A4 more.length c4' more _ _ (H0.out.2.2.2.2 _ HM.out)).mono ?_; rintro _ w1 ⟨rfl, hm1⟩; replace HM := Lib.hid (tr0 HM.out hm1); clear hm1))
    go_wp2_with fail
    go_ret
    exact ⟨rfl, HM.out⟩
  repeat (go_wp2_with fail; first | (go_at_call_of 12 ((#[.slice A3 l.length c3'] : Array Value)); refine (longO_any A3 l.length c3' l _ _ (H0.out.2.2.2.1 _ HM.out)).mono ?_; rintro _ w1 ⟨rfl, hm1⟩; replace HM := Lib.hid (tr0 HM.out hm1); clear hm1) | (go_at_call_of 12 ((#[.slice A4 more.length c4'] : Array Value)); refine (longO_any A4 more.length c4' more _ _ (H0.out.2.2.2.2 _ HM.out)).mono ?_; rintro _ w1 ⟨rfl, hm1⟩; replace HM := Lib.hid (tr0 HM.out hm1); clear hm1))
  go_wp2_with fail
  clear hll hlm
  obtain ⟨w3, hw3⟩ : ∃ w3, w3 = w1 := ⟨_, rfl⟩
  rw [← hw3] at HM ⊢
  clear hw3
  have hU := unionO_any A3 l.length c3' A4 more.length c4' l more _ _ w3 (H0.out.2.2.2.1 w3 HM.out) (H0.out.2.2.2.2 w3 HM.out) (H0.out.1 w3 HM.out)
  obtain ⟨u, hue⟩ : ∃ u, u = unionO l more := ⟨_, rfl⟩
  have hu8 : u.1.length ≤ 8 := by rw [hue]; exact unionO_len l more
  have hux : ∀ x ∈ u.1, rightB x = true := by rw [hue]; exact unionO_each l more
  have hok : u.2 = 0 → _ := fun e => unionO_ok (a := l) (b := more) (by rw [← hue]; exact e)
  rw [← hue] at hU hok
  have HU := Lib.hid (And.intro hU (And.intro hux hok)); clear hU hue hux hok
  refine HU.out.1.mono ?_
  rintro r w4 ⟨A5, k5, rfl, ho, hm⟩
  have hm04 := tr0 HM.out hm
  have r5 := OwnN.reads ho (union_right HU.out.2.1) (by omega)
  have H4 := Lib.hid (And.intro hm04 (Rd.bound r5)); clear hm04 hm ho r5 HM
  by_cases hu0 : u.2 = 0
  case neg =>
    have k0 : (u.2 != 0) = true := by simpa using hu0
    clear hu0
    go_wp2_with fail
    go_ret
    exact ⟨rfl, H4.out.1⟩
  have k0 : (u.2 != 0) = false := by simpa using hu0
  have HO := Lib.hid (HU.out.2.2 hu0)
  clear hu0
  go_wp2_with fail
  obtain ⟨W1, hW1⟩ : ∃ W1, W1 = w4.alloc (.cells #[.slice none 0 0] 41) := ⟨_, rfl⟩
  rw [← hW1]
  have hpen := PenAt.newM w4 w4.heap.size (Nat.le_refl _)
  have hsz0 := H4.out.1.size
  have hszW : w4.heap.size ≤ W1.heap.size := by rw [hW1]; simp
  have hmW : Mod (fun _ => False) w4 W1 := by rw [hW1]; exact (Mod.refl _ _).alloc _
  rw [← hW1] at hpen
  obtain ⟨g, hg⟩ : ∃ g, g = w4.heap.size := ⟨_, rfl⟩
  rw [← hg] at hpen hszW ⊢
  have hnm : ∀ e ∈ u.1, e.length ≤ 1000000 := fun e he => Nat.le_trans (rightO_names HO.out.2.2.1 e he) (by decide)
  have hput := putO_any g g (.slice none 0 0) [] A5 u.1.length k5 u.1 _ W1 hpen hszW (Rd.mod H4.out.2 hmW (fun _ _ => id)) (fun k hk e => by
    rcases e with e | e
    · have := hk.2; omega
    · simp [Value.ownBlock] at e) (by omega) hnm (by simp)
  have hgw : w4.heap.size ≤ g := by omega
  have HW := Lib.hid (And.intro hput (And.intro hmW hgw)); clear hput hmW hg hpen hszW hW1 hsz0 hgw hnm
  go_wp2_with fail
  refine HW.out.1.mono ?_
  rintro r w5 ⟨rfl, v2, ht2⟩
  have hm45 := HW.out.2.1.trans ht2.mod (fun k hk => .inr (by
    rcases hk with e | e
    · have := HW.out.2.2; omega
    · simp [Value.ownBlock] at e))
  have hby := bytes_any g g v2 _ w5 ht2.at_ (by rw [List.nil_append]; have := encO_lenM HO.out.2.2.1; omega)
  rw [List.nil_append] at hby
  obtain ⟨bs, hbs⟩ : ∃ bs, bs = encO u.1 := ⟨_, rfl⟩
  have hbl : bs.length ≤ 100000000 := by rw [hbs]; exact encO_lenM HO.out.2.2.1
  have hgt : getO (bs, 0) = (u.1, 0, ([], 0)) := by have := getO_enc HO.out.2.2.1 []; rw [List.append_nil, ← hbs] at this; exact this
  rw [← hbs] at hby
  have H5 := Lib.hid (And.intro hm45 (And.intro hby hgt)); clear hm45 ht2 hby hbs hgt
  go_wp2_with fail
  refine H5.out.2.1.mono ?_
  rintro r w6 ⟨A6, k6, rfl, ho6, hm6⟩
  have hm46 := tr0 H5.out.1 hm6
  have hnew := tnew_any _ bs _ w6 (reads_bytes ho6 (by omega))
  have H6 := Lib.hid (And.intro hm46 hnew); clear hm6 hm46 ho6 hnew
  go_wp2_with fail
  refine H6.out.2.mono ?_
  rintro r w7 ⟨gt, vt, rfl, hgt, hta, hm7⟩
  have hm47 := tr0 H6.out.1 hm7
  have hsz7 := H6.out.1.size
  have hgw7 : ∀ W, Mod (fun k => k = gt) w7 W → Mod (fun _ => False) w4 W := fun W hW => hm47.trans hW (fun k hk => .inr (by omega))
  have hge := getO_any gt _ (bs, 0) w7 hta.state (fun W hW => H0.out.1 W (tr0 H4.out.1 (hgw7 W hW)))
  rw [H5.out.2.2] at hge
  have H7 := Lib.hid (And.intro hgw7 hge); clear hm7 hm47 hgw7 hge hta hsz7 hgt
  go_wp2_with fail
  refine H7.out.2.mono ?_
  rintro r w8 ⟨A8, k8, rfl, ho8, -, hm8⟩
  have hm48 := H7.out.1 w8 hm8
  have hm08 := tr0 H4.out.1 hm48
  have rg := OwnN.reads ho8 (union_right HU.out.2.1) (by omega)
  have EB := fun W (hW : Mod (fun _ => False) w8 W) => H0.out.1 W (tr0 hm08 hW)
  have RAB := fun W (hW : Mod (fun _ => False) w8 W) => H0.out.2.1 W (tr0 hm08 hW)
  have RBB := fun W (hW : Mod (fun _ => False) w8 W) => H0.out.2.2.1 W (tr0 hm08 hW)
  have RLB := fun W (hW : Mod (fun _ => False) w8 W) => H0.out.2.2.2.1 W (tr0 hm08 hW)
  have RUB := fun W (hW : Mod (fun _ => False) w8 W) => Rd.mod H4.out.2 (tr0 hm48 hW) (fun _ _ => id)
  have RGB := fun W (hW : Mod (fun _ => False) w8 W) => Rd.mod rg hW (fun _ _ => id)
  have HF := Lib.hid hm08
  have HC := Lib.hid (And.intro EB (And.intro RAB (And.intro RBB (And.intro RLB (And.intro RUB RGB))))); clear EB RAB RBB RLB RUB RGB hm08 hm48 hm8 ho8 rg
  have HM := Lib.hid (Mod.refl (fun _ => False) w8)
  have hsub : ∀ x ∈ l, x ∈ u.1 := fun x hx => (HO.out.2.2.2 x).2 (.inl hx)
  have wiu : withinO l u.1 = true := withinO_iff.2 ⟨HO.out.1, HO.out.2.2.1, hsub⟩
  have up1 : flowsOB a b l = true → flowsOB a b u.1 = true := more_flows HO.out.2.2.1 hsub
  have up2 : flowsOB b a l = true → flowsOB b a u.1 = true := more_flows HO.out.2.2.1 hsub
  obtain ⟨f, hf⟩ : ∃ f, f = flowsLB a b := ⟨_, rfl⟩
  have sn : flowsOB a b [] = f := by rw [hf]; exact flows_none a b
  have ef : (f == f) = true := by simp
  have HN := Lib.hid (And.intro hf.symm (And.intro sn wiu)); clear hf sn wiu hsub
  cases p : flowsOB a b l with
  | false =>
    have al : altersOB a b l = false := by unfold altersOB; rw [p]; rfl
    have HL := Lib.hid (And.intro p al); clear p al up1 up2
    repeat (go_wp2_with fail; first | (go_at_call_of 23 ((#[.slice A8 u.1.length k8, .slice A5 u.1.length k5] : Array Value)); have hc := refsame7_any _ _ _ _ _ _ u.1 u.1 _ _ _ (HC.out.2.2.2.2.2 _ HM.out) (HC.out.2.2.2.2.1 _ HM.out); simp only [decide_true] at hc; refine hc.mono ?_; clear hc; rintro _ w1 ⟨rfl, hm1⟩; replace HM := Lib.hid (tr0 HM.out hm1); clear hm1) | (go_at_call_of 21 ((#[.slice A3 l.length c3', .slice A5 u.1.length k5] : Array Value)); have hc := withinO_any _ _ _ _ _ _ l u.1 _ _ _ (HC.out.2.2.2.1 _ HM.out) (HC.out.2.2.2.2.1 _ HM.out) (HC.out.1 _ HM.out); rw [HN.out.2.2] at hc; refine hc.mono ?_; clear hc; rintro _ w1 ⟨rfl, hm1⟩; replace HM := Lib.hid (tr0 HM.out hm1); clear hm1) | (go_at_call_of 15 ((#[.slice A1 a.length c1', .slice A2 b.length c2', .slice A3 l.length c3'] : Array Value)); have hc := seesO_any _ _ _ _ _ _ _ _ _ a b l _ _ _ _ (HC.out.2.1 _ HM.out) (HC.out.2.2.1 _ HM.out) (HC.out.2.2.2.1 _ HM.out) (HC.out.1 _ HM.out); rw [HL.out.1] at hc; refine hc.mono ?_; clear hc; rintro _ w1 ⟨rfl, hm1⟩; replace HM := Lib.hid (tr0 HM.out hm1); clear hm1) | (go_at_call_of 16 ((#[.slice A1 a.length c1', .slice A2 b.length c2', .slice A3 l.length c3'] : Array Value)); have hc := altersO_any _ _ _ _ _ _ _ _ _ a b l _ _ _ _ (HC.out.2.1 _ HM.out) (HC.out.2.2.1 _ HM.out) (HC.out.2.2.2.1 _ HM.out) (HC.out.1 _ HM.out); rw [HL.out.2] at hc; refine hc.mono ?_; clear hc; rintro _ w1 ⟨rfl, hm1⟩; replace HM := Lib.hid (tr0 HM.out hm1); clear hm1) | (go_at_call_of 15 ((#[.slice A1 a.length c1', .slice A2 b.length c2', .slice none 0 0] : Array Value)); have hc := seesO_any _ _ _ _ _ _ _ _ _ a b [] _ _ _ _ (HC.out.2.1 _ HM.out) (HC.out.2.2.1 _ HM.out) (nms_nil _ (fun _ => False)) (HC.out.1 _ HM.out); rw [HN.out.2.1] at hc; refine hc.mono ?_; clear hc; rintro _ w1 ⟨rfl, hm1⟩; replace HM := Lib.hid (tr0 HM.out hm1); clear hm1) | (go_at_call_of 36 ((#[.slice A1 a.length c1', .slice A2 b.length c2'] : Array Value)); have hc := flows_any _ _ _ _ _ _ a b _ _ _ (HC.out.2.1 _ HM.out) (HC.out.2.2.1 _ HM.out) (HC.out.1 _ HM.out); rw [HN.out.1] at hc; refine hc.mono ?_; clear hc; rintro _ w1 ⟨rfl, hm1⟩; replace HM := Lib.hid (tr0 HM.out hm1); clear hm1))
    go_wp2_with fail
    go_ret
    exact ⟨rfl, tr0 HF.out HM.out⟩
  | true =>
  have pu := up1 p
  clear up1
  cases q : flowsOB b a l with
  | false =>
    have al : altersOB a b l = false := by unfold altersOB; rw [p, q]; rfl
    have HL := Lib.hid (And.intro p (And.intro al pu)); clear p al q pu up2
    repeat (go_wp2_with fail; first | (go_at_call_of 23 ((#[.slice A8 u.1.length k8, .slice A5 u.1.length k5] : Array Value)); have hc := refsame7_any _ _ _ _ _ _ u.1 u.1 _ _ _ (HC.out.2.2.2.2.2 _ HM.out) (HC.out.2.2.2.2.1 _ HM.out); simp only [decide_true] at hc; refine hc.mono ?_; clear hc; rintro _ w1 ⟨rfl, hm1⟩; replace HM := Lib.hid (tr0 HM.out hm1); clear hm1) | (go_at_call_of 21 ((#[.slice A3 l.length c3', .slice A5 u.1.length k5] : Array Value)); have hc := withinO_any _ _ _ _ _ _ l u.1 _ _ _ (HC.out.2.2.2.1 _ HM.out) (HC.out.2.2.2.2.1 _ HM.out) (HC.out.1 _ HM.out); rw [HN.out.2.2] at hc; refine hc.mono ?_; clear hc; rintro _ w1 ⟨rfl, hm1⟩; replace HM := Lib.hid (tr0 HM.out hm1); clear hm1) | (go_at_call_of 15 ((#[.slice A1 a.length c1', .slice A2 b.length c2', .slice A3 l.length c3'] : Array Value)); have hc := seesO_any _ _ _ _ _ _ _ _ _ a b l _ _ _ _ (HC.out.2.1 _ HM.out) (HC.out.2.2.1 _ HM.out) (HC.out.2.2.2.1 _ HM.out) (HC.out.1 _ HM.out); rw [HL.out.1] at hc; refine hc.mono ?_; clear hc; rintro _ w1 ⟨rfl, hm1⟩; replace HM := Lib.hid (tr0 HM.out hm1); clear hm1) | (go_at_call_of 15 ((#[.slice A1 a.length c1', .slice A2 b.length c2', .slice A5 u.1.length k5] : Array Value)); have hc := seesO_any _ _ _ _ _ _ _ _ _ a b u.1 _ _ _ _ (HC.out.2.1 _ HM.out) (HC.out.2.2.1 _ HM.out) (HC.out.2.2.2.2.1 _ HM.out) (HC.out.1 _ HM.out); rw [HL.out.2.2] at hc; refine hc.mono ?_; clear hc; rintro _ w1 ⟨rfl, hm1⟩; replace HM := Lib.hid (tr0 HM.out hm1); clear hm1) | (go_at_call_of 16 ((#[.slice A1 a.length c1', .slice A2 b.length c2', .slice A3 l.length c3'] : Array Value)); have hc := altersO_any _ _ _ _ _ _ _ _ _ a b l _ _ _ _ (HC.out.2.1 _ HM.out) (HC.out.2.2.1 _ HM.out) (HC.out.2.2.2.1 _ HM.out) (HC.out.1 _ HM.out); rw [HL.out.2.1] at hc; refine hc.mono ?_; clear hc; rintro _ w1 ⟨rfl, hm1⟩; replace HM := Lib.hid (tr0 HM.out hm1); clear hm1) | (go_at_call_of 15 ((#[.slice A1 a.length c1', .slice A2 b.length c2', .slice none 0 0] : Array Value)); have hc := seesO_any _ _ _ _ _ _ _ _ _ a b [] _ _ _ _ (HC.out.2.1 _ HM.out) (HC.out.2.2.1 _ HM.out) (nms_nil _ (fun _ => False)) (HC.out.1 _ HM.out); rw [HN.out.2.1] at hc; refine hc.mono ?_; clear hc; rintro _ w1 ⟨rfl, hm1⟩; replace HM := Lib.hid (tr0 HM.out hm1); clear hm1) | (go_at_call_of 36 ((#[.slice A1 a.length c1', .slice A2 b.length c2'] : Array Value)); have hc := flows_any _ _ _ _ _ _ a b _ _ _ (HC.out.2.1 _ HM.out) (HC.out.2.2.1 _ HM.out) (HC.out.1 _ HM.out); rw [HN.out.1] at hc; refine hc.mono ?_; clear hc; rintro _ w1 ⟨rfl, hm1⟩; replace HM := Lib.hid (tr0 HM.out hm1); clear hm1))
    go_wp2_with fail
    go_ret
    exact ⟨rfl, tr0 HF.out HM.out⟩
  | true =>
    have al : altersOB a b l = true := by unfold altersOB; rw [p, q]; rfl
    have au : altersOB a b u.1 = true := by unfold altersOB; rw [pu, up2 q]; rfl
    have HL := Lib.hid (And.intro p (And.intro al (And.intro pu au))); clear p al q pu au up2
    repeat (go_wp2_with fail; first | (go_at_call_of 23 ((#[.slice A8 u.1.length k8, .slice A5 u.1.length k5] : Array Value)); have hc := refsame7_any _ _ _ _ _ _ u.1 u.1 _ _ _ (HC.out.2.2.2.2.2 _ HM.out) (HC.out.2.2.2.2.1 _ HM.out); simp only [decide_true] at hc; refine hc.mono ?_; clear hc; rintro _ w1 ⟨rfl, hm1⟩; replace HM := Lib.hid (tr0 HM.out hm1); clear hm1) | (go_at_call_of 21 ((#[.slice A3 l.length c3', .slice A5 u.1.length k5] : Array Value)); have hc := withinO_any _ _ _ _ _ _ l u.1 _ _ _ (HC.out.2.2.2.1 _ HM.out) (HC.out.2.2.2.2.1 _ HM.out) (HC.out.1 _ HM.out); rw [HN.out.2.2] at hc; refine hc.mono ?_; clear hc; rintro _ w1 ⟨rfl, hm1⟩; replace HM := Lib.hid (tr0 HM.out hm1); clear hm1) | (go_at_call_of 15 ((#[.slice A1 a.length c1', .slice A2 b.length c2', .slice A3 l.length c3'] : Array Value)); have hc := seesO_any _ _ _ _ _ _ _ _ _ a b l _ _ _ _ (HC.out.2.1 _ HM.out) (HC.out.2.2.1 _ HM.out) (HC.out.2.2.2.1 _ HM.out) (HC.out.1 _ HM.out); rw [HL.out.1] at hc; refine hc.mono ?_; clear hc; rintro _ w1 ⟨rfl, hm1⟩; replace HM := Lib.hid (tr0 HM.out hm1); clear hm1) | (go_at_call_of 15 ((#[.slice A1 a.length c1', .slice A2 b.length c2', .slice A5 u.1.length k5] : Array Value)); have hc := seesO_any _ _ _ _ _ _ _ _ _ a b u.1 _ _ _ _ (HC.out.2.1 _ HM.out) (HC.out.2.2.1 _ HM.out) (HC.out.2.2.2.2.1 _ HM.out) (HC.out.1 _ HM.out); rw [HL.out.2.2.1] at hc; refine hc.mono ?_; clear hc; rintro _ w1 ⟨rfl, hm1⟩; replace HM := Lib.hid (tr0 HM.out hm1); clear hm1) | (go_at_call_of 16 ((#[.slice A1 a.length c1', .slice A2 b.length c2', .slice A3 l.length c3'] : Array Value)); have hc := altersO_any _ _ _ _ _ _ _ _ _ a b l _ _ _ _ (HC.out.2.1 _ HM.out) (HC.out.2.2.1 _ HM.out) (HC.out.2.2.2.1 _ HM.out) (HC.out.1 _ HM.out); rw [HL.out.2.1] at hc; refine hc.mono ?_; clear hc; rintro _ w1 ⟨rfl, hm1⟩; replace HM := Lib.hid (tr0 HM.out hm1); clear hm1) | (go_at_call_of 16 ((#[.slice A1 a.length c1', .slice A2 b.length c2', .slice A5 u.1.length k5] : Array Value)); have hc := altersO_any _ _ _ _ _ _ _ _ _ a b u.1 _ _ _ _ (HC.out.2.1 _ HM.out) (HC.out.2.2.1 _ HM.out) (HC.out.2.2.2.2.1 _ HM.out) (HC.out.1 _ HM.out); rw [HL.out.2.2.2] at hc; refine hc.mono ?_; clear hc; rintro _ w1 ⟨rfl, hm1⟩; replace HM := Lib.hid (tr0 HM.out hm1); clear hm1) | (go_at_call_of 15 ((#[.slice A1 a.length c1', .slice A2 b.length c2', .slice none 0 0] : Array Value)); have hc := seesO_any _ _ _ _ _ _ _ _ _ a b [] _ _ _ _ (HC.out.2.1 _ HM.out) (HC.out.2.2.1 _ HM.out) (nms_nil _ (fun _ => False)) (HC.out.1 _ HM.out); rw [HN.out.2.1] at hc; refine hc.mono ?_; clear hc; rintro _ w1 ⟨rfl, hm1⟩; replace HM := Lib.hid (tr0 HM.out hm1); clear hm1) | (go_at_call_of 36 ((#[.slice A1 a.length c1', .slice A2 b.length c2'] : Array Value)); have hc := flows_any _ _ _ _ _ _ a b _ _ _ (HC.out.2.1 _ HM.out) (HC.out.2.2.1 _ HM.out) (HC.out.1 _ HM.out); rw [HN.out.1] at hc; refine hc.mono ?_; clear hc; rintro _ w1 ⟨rfl, hm1⟩; replace HM := Lib.hid (tr0 HM.out hm1); clear hm1))
    go_wp2_with fail
    go_ret
    exact ⟨rfl, tr0 HF.out HM.out⟩
theorem arr_labs {hn : 0 < 2} {W : World} {ok : Nat → Prop} {cs : Array Value} {xs : List (List Entry)} (h : (Rd.arr 2 hn labR).rel W ok cs.toList xs) : ∃ A n c A2 n2 c2 x y, cs = #[.slice A n c, .slice A2 n2 c2] ∧ labR.rel W ok [.slice A n c] x ∧ labR.rel W ok [.slice A2 n2 c2] y := by
  obtain ⟨h1, h2, h3⟩ := h
  match xs, h2, h3 with
  | [x, y], _, h3 =>
    have h4 := h3 0 x rfl
    have h5 := h3 1 y rfl
    obtain ⟨A, c, e1, _⟩ := id h4
    obtain ⟨A2, c2, e2, _⟩ := id h5
    rw [e1] at h4
    rw [e2] at h5
    refine ⟨A, x.length, c, A2, y.length, c2, x, y, ?_, h4, h5⟩
    apply Array.ext'
    have hl : cs.toList.length = 2 := h1
    match hcs : cs.toList, hl with
    | [v0, v1], _ =>
      rw [hcs] at e1 e2
      have e1' : [v0] = [Value.slice A x.length c] := e1
      have e2' : [v1] = [Value.slice A2 y.length c2] := e2
      simp only [List.cons.injEq, and_true] at e1' e2'
      rw [e1', e2']
theorem labs_opens : Opens Tryz.prog (Rd.arr 2 (by decide) labR) 45 := opens_array Tryz.underlying45 (by kernel_rfl) (by kernel_rfl) lab_opens
theorem ownsMore_walk (cs : Array Value) (A3 : Option Addr) (n3 c3 : Nat) (A4 : Option Addr) (n4 c4 : Nat) (xs : List (List Entry)) (l more : List Nm) (W : World) (h1 : (Rd.arr 2 (by decide) labR).rel W (fun k => k < W.heap.size) cs.toList xs)
    (h3 : nmsR.rel W (fun k => k < W.heap.size) [.slice A3 n3 c3] l) (h4 : nmsR.rel W (fun k => k < W.heap.size) [.slice A4 n4 c4] more) (E : Env W) :
    Calls Tryz.prog 6 #[.agg cs, .slice A3 n3 c3, .slice A4 n4 c4] W fun r W' => r = .returned (.bool true) ∧ Below W.heap.size W W' := by
  obtain ⟨A, n, c, A2, n2, c2, x, y, rfl, p, q⟩ := arr_labs h1
  exact (ownsMore_mod A n c A2 n2 c2 A3 n3 c3 A4 n4 c4 x y l more _ W p q h3 h4 E).mono fun _ _ h => ⟨h.1, below0 h.2⟩
end Go.Proofs.YthhepnaanjicjaaGreatDoor

/- The law OwnsMore returns true for every input, and its arguments read afterwards as before. No condition. -/
namespace Go.Proofs.YthhepnaanjicjaaGreatDoor.ownsMore
open Go.ChangeShapes Go.WideShapes Go.ChangeAt Go.RowKit
open Go.ChangeMaps (open_string)
set_option linter.unusedVariables false
theorem own : ownKnob Tryz.prog.godebug = none := by kernel_rfl
theorem laidOut : laidOutB Tryz.prog = true := by kernel_rfl
set_option maxRecDepth 100000 in
theorem lifted (os : Os) (started : os.Started) (H : Type) (enc : TypeId × Value → H) :
    ReturnsInHanded {} Tryz.checked os 6 .any (fun w args => (Rows.ownsMoreSpec.pre enc Tryz.prog Tryz.f6 Rows.ownsMoreRow.domain false w args ∧ laidMetH Tryz.prog Rows.ownsMoreRow.laid w) ∧ sizedMet enc Tryz.prog Tryz.f6 (OpenSpec.ofChange Rows.ownsMoreSpec) false w args) (Rows.ownsMoreSpec.post enc Tryz.prog Tryz.f6 false true false false) := by
  refine returnsInHanded_of_change_and (C := Tryz.checked) (X := fun w _ => laidMetH Tryz.prog Rows.ownsMoreRow.laid w) (fun _ _ _ hh h => h.of_heap hh) own started (by kernel_rfl) Tryz.func6
    (ChangeSpec.witness_shaped (enc := enc) (C := Tryz.checked) (os := os) (X := fun w _ => laidMetH Tryz.prog Rows.ownsMoreRow.laid w) false (laidWorld os) #[.agg #[.slice none 0 0, .slice none 0 0], .slice none 0 0, .slice none 0 0] 8 rfl (World.shaped_of_RefB (by kernel_rfl) (by kernel_rfl)) (by kernel_rfl) (by kernel_rfl) (by kernel_rfl) (laidWorld_met os _)) ?_
  intro W base args ds gs before hval0 hW hcnd hsz0 hL _
  have hsz : (DataW.weightsEach Tryz.prog (Tryz.f6.params.toList ++ Rows.ownsMoreSpec.plain.varTypes Tryz.prog) (ds ++ gs)).all (· ≤ reachBytes) = true := hsz0
  have hW' := hW
  obtain ⟨p, q, hA0, hV, rfl, hfz, hnd⟩ := hW
  have hval : ∀ (j : Nat) t v, Tryz.f6.params[j]? = some t → args[j]? = some v → Value.okWide Tryz.prog W .any base t v := hval0
  have hA : DataW.TrodAll enc Tryz.prog W 0 (fun _ => true) true Tryz.f6.params.toList args.toList ds p := hA0
  rw [Tryz.params6] at hA hval hsz
  obtain ⟨v0, vs0, d0, ds0, p0, q0, hargs, rfl, rfl, h0, r0⟩ := trodAll_cons hA
  obtain ⟨v1, vs1, d1, ds1, p1, q1, rfl, rfl, rfl, h1, r1⟩ := trodAll_cons r0
  obtain ⟨v2, vs2, d2, ds2, p2, q2, rfl, rfl, rfl, h2, r2⟩ := trodAll_cons r1
  obtain ⟨rfl, rfl, rfl⟩ := trodAll_nil r2
  obtain rfl : args = #[v0, v1, v2] := by cases args; simp_all
  obtain ⟨rfl, rfl⟩ := trodVars_none hV
  obtain ⟨cs0, rfl⟩ : ∃ cs, v0 = .agg cs := by first | exact okWide_array Tryz.underlying45 (hval 0 45 v0 rfl rfl) | (obtain ⟨cs, h, _⟩ := okWide_struct Tryz.underlying45 (hval 0 45 v0 rfl rfl); exact ⟨cs, h⟩)
  have k0 := h0
  have lt0 : ∀ x ∈ p0, x.block < W.heap.size := by obtain ⟨m, hm⟩ := k0; exact DataW.trod_lt m _ _ _ hm
  obtain ⟨x0, y0⟩ : ∃ x, Rd.rel (Rd.arr 2 (by decide) labR) W (fun k => k < W.heap.size) cs0.toList x := by
    obtain ⟨fuel, hf⟩ := h0
    exact labs_opens H enc W _ _ _ fuel _ _ hf (fun n hn => of_decide_eq_true (List.all_eq_true.1 hsz _ (DataW.weights_mem_each (j := 0) rfl rfl n hn)))
  obtain ⟨a1, n1, c1, rfl⟩ := okWide_slice Tryz.underlying24 (hval 1 24 v1 rfl rfl)
  have k1 := h1
  have lt1 : ∀ x ∈ p1, x.block < W.heap.size := by obtain ⟨m, hm⟩ := k1; exact DataW.trod_lt m _ _ _ hm
  obtain ⟨x1, y1⟩ : ∃ x, Rd.rel (nmsR) W (fun k => k < W.heap.size) [.slice a1 n1 c1] x := by
    obtain ⟨fuel, hf⟩ := h1
    exact nms_opens H enc W _ _ _ fuel _ _ hf (fun n hn => of_decide_eq_true (List.all_eq_true.1 hsz _ (DataW.weights_mem_each (j := 1) rfl rfl n hn)))
  obtain ⟨a2, n2, c2, rfl⟩ := okWide_slice Tryz.underlying24 (hval 2 24 v2 rfl rfl)
  have k2 := h2
  have lt2 : ∀ x ∈ p2, x.block < W.heap.size := by obtain ⟨m, hm⟩ := k2; exact DataW.trod_lt m _ _ _ hm
  obtain ⟨x2, y2⟩ : ∃ x, Rd.rel (nmsR) W (fun k => k < W.heap.size) [.slice a2 n2 c2] x := by
    obtain ⟨fuel, hf⟩ := h2
    exact nms_opens H enc W _ _ _ fuel _ _ hf (fun n hn => of_decide_eq_true (List.all_eq_true.1 hsz _ (DataW.weights_mem_each (j := 2) rfl rfl n hn)))
  clear hA0 hval0 hsz0 hsz
  refine (ownsMore_walk cs0 a1 n1 c1 a2 n2 c2 x0 x1 x2 W y0 y1 y2 (env_of hL)).mono fun e W' ⟨he, bel⟩ => ?_
  subst he
  exact ⟨_, rfl, _, _, _, [], _, [], hW', trodAll_mk1 (shut_bool Tryz.underlying4 _), (trodAll_cons_mk (Below.trod laidOut (by kernel_rfl) (of_decide_eq_true (by kernel_rfl)) k0 bel lt0) (trodAll_cons_mk (Below.trod laidOut (by kernel_rfl) (of_decide_eq_true (by kernel_rfl)) k1 bel lt1) (trodAll_cons_mk (Below.trod laidOut (by kernel_rfl) (of_decide_eq_true (by kernel_rfl)) k2 bel lt2) trodAll_mk0))), rfl, bel.frame _, fun h => by cases h⟩
theorem over : Rows.ownsMoreRow.holds Tryz.pinned (OpenSpec.ofChange Rows.ownsMoreSpec) :=
  OpenClaim.holds_of_wide 6 Tryz.f6 rfl rfl rfl rfl rfl rfl rfl ⟨rfl, rfl, rfl, rfl, rfl⟩ rfl rfl rfl rfl rfl (by kernel_rfl) Tryz.func6 (by kernel_rfl)
    (of_decide_eq_true (by kernel_rfl)) (by unfold Func.isWrapper; first | (rw [if_pos (by decide +kernel)]; kernel_rfl) | (rw [if_neg (by decide +kernel)]; exact ⟨rfl, rfl⟩))
    (fun os started H enc _ => lifted os started H enc)
theorem proved : Rows.OwnsMoreSaid := over
#print axioms proved
end Go.Proofs.YthhepnaanjicjaaGreatDoor.ownsMore
namespace Go.Proofs.YthhepnaanjicjaaGreatDoor
/-- The row, under a short name, for the claim. -/
theorem ownsMore_holds : Rows.OwnsMoreSaid := ownsMore.proved
end Go.Proofs.YthhepnaanjicjaaGreatDoor

/- The law OwnsMore returns true for every input, and its arguments read afterwards as before: the tied card. No condition beyond the row's own. -/
namespace Go.Proofs.YthhepnaanjicjaaGreatDoor
open Go
theorem ownsMore_card_holds : Rows.OwnsMoreCardSaid :=
  Claim7.holds_tied_plain_at .later [] [.data, .data, .data, .data, .sentinel, .sentinel, .pinned] true (true, "fd594034ef6ac330493a0e3f50887663515fa0ef89308825e5a45e0f653eee68") true
    ownsMore_holds (fun _ h => by cases h) (by kernel_rfl) (fun _ h => by cases h) ownsMore_row_tie rfl ⟨rfl, rfl⟩ (by kernel_rfl) rfl
    (fun f fn hf hfn => by
      obtain rfl : f = 6 := Option.some.inj ((show Tryz.prog.funcNamed "regency/regencylaw07.OwnsMore" = some 6 by kernel_rfl).symm.trans hf) |>.symm
      obtain rfl : fn = Tryz.f6 := (Option.some.inj (Tryz.func6.symm.trans hfn)).symm
      exact ⟨by kernel_rfl, fun j t ht => by
        rw [Tryz.params6] at ht
        have hm : t ∈ [45, 24, 24] := by simpa using Array.mem_of_getElem? ht
        have hall : ([45, 24, 24].all fun u => !Tryz.prog.wantsStandIn u) = true := by kernel_rfl
        exact (show Tryz.prog.wantsStandIn t = false by simpa using List.all_eq_true.1 hall t hm)⟩)
    (by kernel_rfl)
#print axioms ownsMore_card_holds
end Go.Proofs.YthhepnaanjicjaaGreatDoor
