/- Texts of this claim, joined: OwnS, LawOwnsSets, CardOwnsSets. -/
import Derived.Test.YthhepnaanjicjaaGreatDoorO2
import Derived.Test.YthhepnaanjicjaaGreatDoorO3
import Derived.Test.YthhepnaanjicjaaGreatDoorO1
import Derived.Deep.DeepCutAuto
import Derived.WalkKit
import Derived.ProofKit
import Derived.OpenShut
import Derived.ShutString
import Derived.ChangeOld
import Derived.Below
import Derived.SizedLaws
import Derived.ChangeVars
import Derived.JoinedOf
import Derived.RowKitTokens
import Derived.LaidLaws
import Derived.LaidHandle
import Derived.Stop.Joined
import Derived.Test.YthhepnaanjicjaaGreatDoorP7
import Derived.Test.YthhepnaanjicjaaGreatDoorRows
import Derived.Test.YthhepnaanjicjaaGreatDoorCards
import Derived.Test.YthhepnaanjicjaaGreatDoorTie
import Derived.SevenTiedAt
/- Layer 7, the laws: OwnsSets. -/
namespace Go.Proofs.YthhepnaanjicjaaGreatDoor
open Go.RowKit Go.Shelf
set_option linter.unusedVariables false
theorem addO_len (l : List Nm) (c : Nm) : (addO l c).1.length ≤ 8 := by
  unfold addO
  split
  · split
    · exact unionO_len _ _
    · simp
  · simp
theorem addO_each (l : List Nm) (c : Nm) : ∀ x ∈ (addO l c).1, rightB x = true := by
  unfold addO
  split
  · split
    · exact unionO_each _ _
    · simp
  · simp
theorem addO_ok {l : List Nm} {c : Nm} (h : (addO l c).2 = 0) : RightO l ∧ rightB c = true ∧ RightO (addO l c).1 ∧ ∀ x, x ∈ (addO l c).1 ↔ x ∈ l ∨ x = c := by
  unfold addO at h ⊢
  split at h
  · rename_i h1
    rw [if_pos h1]
    split at h
    · rename_i h2
      rw [if_pos h2]
      obtain ⟨p1, p2, p3, p4⟩ := unionO_ok h
      exact ⟨p1, h2, p3, fun x => by rw [p4, List.mem_singleton]⟩
    · simp at h
  · simp at h
theorem dropO_all {P : Nm → Prop} {l : List Nm} {c : Nm} (h : ∀ x ∈ l, P x) : ∀ x ∈ (dropO l c).1, P x := by
  unfold dropO
  split
  · split
    · split
      · exact fun x hx => h x (List.mem_filter.1 hx).1
      · simp
    · simp
  · simp
/-- What is added is had; dropped again it isn't, and nothing else has come. -/
theorem sets_law {a : List Nm} {s : Nm} (h : (addO a s).2 = 0) : (addO a s).1.contains s = true ∧ withinO a (addO a s).1 = true ∧ (dropO (addO a s).1 s).2 = 0 ∧ (dropO (addO a s).1 s).1.contains s = false ∧ withinO (dropO (addO a s).1 s).1 a = true := by
  obtain ⟨h1, h2, h3, h4⟩ := addO_ok h
  have hc : (addO a s).1.contains s = true := by rw [List.contains_iff_mem, h4]; exact .inr rfl
  have hd : dropO (addO a s).1 s = ((addO a s).1.filter (fun x => !(x == s)), 0) := by
    unfold dropO
    rw [if_pos (rightO_iff.2 h3), if_pos h2, if_pos hc]
  have hdr : RightO ((addO a s).1.filter (fun x => !(x == s))) := ⟨Nat.le_trans (List.length_filter_le _ _) h3.len, fun x hx => h3.each x (List.mem_filter.1 hx).1, h3.asc.sublist List.filter_sublist⟩
  refine ⟨hc, withinO_iff.2 ⟨h1, h3, fun x hx => (h4 x).2 (.inl hx)⟩, by rw [hd], ?_, ?_⟩
  · rw [hd, Bool.eq_false_iff]
    intro e
    have := (List.mem_filter.1 (List.contains_iff_mem.1 e)).2
    simp at this
  · rw [hd]
    refine withinO_iff.2 ⟨hdr, h1, fun x hx => ?_⟩
    obtain ⟨p1, p2⟩ := List.mem_filter.1 hx
    rcases (h4 x).1 p1 with p | p
    · exact p
    · rw [p] at p2; simp at p2
theorem union_law {a b : List Nm} (h : (unionO a b).2 = 0) : withinO a (unionO a b).1 = true ∧ withinO b (unionO a b).1 = true := by
  obtain ⟨h1, h2, h3, h4⟩ := unionO_ok h
  exact ⟨withinO_iff.2 ⟨h1, h3, fun x hx => (h4 x).2 (.inl hx)⟩, withinO_iff.2 ⟨h2, h3, fun x hx => (h4 x).2 (.inr hx)⟩⟩
set_option maxRecDepth 100000 in
set_option maxHeartbeats 4000000 in
theorem ownsSets_mod (A1 : Option Addr) (n1 c1' : Nat) (A2 : Option Addr) (n2 c2' : Nat) (a b : List Nm) (s : Nm) (ok ok2 : Nat → Prop) (w : World) (h : nmsR.rel w ok [.slice A1 n1 c1'] a) (h2 : nmsR.rel w ok2 [.slice A2 n2 c2'] b) (hs : s.length ≤ 140737488355328) (E : Env w) :
    Calls Tryz.prog 4 #[.slice A1 n1 c1', .slice A2 n2 c2', .string ⟨s.toArray⟩] w fun r w' => r = .returned (.bool true) ∧ Mod (fun _ => False) w w' := by
  obtain rfl := (nms_row h).1
  obtain rfl := (nms_row h2).1
  have RA := fun W (hW : Mod (fun _ => False) w W) => Rd.mod h hW (fun _ _ => id)
  have RB := fun W (hW : Mod (fun _ => False) w W) => Rd.mod h2 hW (fun _ _ => id)
  have EW := fun W (hW : Mod (fun _ => False) w W) => E.mod0 hW
  have H0 := Lib.hid (And.intro EW (And.intro RA RB)); clear E h h2 RA RB EW
  go_enter Tryz.func4, Tryz.ntmps4
  go_wp2_with fail
  refine (first7_any w (H0.out.1 w (.refl _ _))).mono ?_
  rintro r w1 ⟨rfl, hm1⟩
  have HM := Lib.hid hm1; clear hm1
  cases hla : longO a with
  | true =>
    repeat (go_wp2_with fail; first | (go_at_call_of 12 ((#[.slice A1 a.length c1'] : Array Value)); refine (longO_any A1 a.length c1' a _ _ (H0.out.2.1 _ HM.out)).mono ?_; rintro _ w1 ⟨rfl, hm1⟩; replace HM := Lib.hid (tr0 HM.out hm1); clear hm1) | (go_at_call_of 12 ((#[.slice A2 b.length c2'] : Array Value)); refine (longO_any A2 b.length c2' b _ _ (H0.out.2.2 _ HM.out)).mono ?_; rintro _ w1 ⟨rfl, hm1⟩; replace HM := Lib.hid (tr0 HM.out hm1); clear hm1))
    go_wp2_with fail
    go_ret
    exact ⟨rfl, HM.out⟩
  | false =>
  cases hlb : longO b with
  | true =>
    repeat (go_wp2_with fail; first | (go_at_call_of 12 ((#[.slice A1 a.length c1'] : Array Value)); refine (longO_any A1 a.length c1' a _ _ (H0.out.2.1 _ HM.out)).mono ?_; rintro _ w1 ⟨rfl, hm1⟩; replace HM := Lib.hid (tr0 HM.out hm1); clear hm1) | (go_at_call_of 12 ((#[.slice A2 b.length c2'] : Array Value)); refine (longO_any A2 b.length c2' b _ _ (H0.out.2.2 _ HM.out)).mono ?_; rintro _ w1 ⟨rfl, hm1⟩; replace HM := Lib.hid (tr0 HM.out hm1); clear hm1))
    go_wp2_with fail
    go_ret
    exact ⟨rfl, HM.out⟩
  | false =>
  by_cases hs1 : 100 < s.length
  · repeat (go_wp2_with fail; first | (go_at_call_of 12 ((#[.slice A1 a.length c1'] : Array Value)); refine (longO_any A1 a.length c1' a _ _ (H0.out.2.1 _ HM.out)).mono ?_; rintro _ w1 ⟨rfl, hm1⟩; replace HM := Lib.hid (tr0 HM.out hm1); clear hm1) | (go_at_call_of 12 ((#[.slice A2 b.length c2'] : Array Value)); refine (longO_any A2 b.length c2' b _ _ (H0.out.2.2 _ HM.out)).mono ?_; rintro _ w1 ⟨rfl, hm1⟩; replace HM := Lib.hid (tr0 HM.out hm1); clear hm1))
    go_wp2_with fail
    go_ret
    exact ⟨rfl, HM.out⟩
  have hs100 : s.length ≤ 100 := by omega
  repeat (go_wp2_with fail; first | (go_at_call_of 12 ((#[.slice A1 a.length c1'] : Array Value)); refine (longO_any A1 a.length c1' a _ _ (H0.out.2.1 _ HM.out)).mono ?_; rintro _ w1 ⟨rfl, hm1⟩; replace HM := Lib.hid (tr0 HM.out hm1); clear hm1) | (go_at_call_of 12 ((#[.slice A2 b.length c2'] : Array Value)); refine (longO_any A2 b.length c2' b _ _ (H0.out.2.2 _ HM.out)).mono ?_; rintro _ w1 ⟨rfl, hm1⟩; replace HM := Lib.hid (tr0 HM.out hm1); clear hm1))
  go_wp2_with fail
  have HL := Lib.hid (And.intro (longO_no hla) (longO_no hlb)); clear hla hlb
  obtain ⟨w3, hw3⟩ : ∃ w3, w3 = w1 := ⟨_, rfl⟩
  rw [← hw3] at HM ⊢
  clear hw3
  have hA := addO_any A1 a.length c1' a s _ w3 (H0.out.2.1 w3 HM.out) (by omega) (H0.out.1 w3 HM.out)
  obtain ⟨m, hme⟩ : ∃ m, m = addO a s := ⟨_, rfl⟩
  have hm8 : m.1.length ≤ 8 := by rw [hme]; exact addO_len a s
  have hmx : ∀ x ∈ m.1, rightB x = true := by rw [hme]; exact addO_each a s
  have hlaw : m.2 = 0 → _ := fun e => sets_law (a := a) (s := s) (by rw [← hme]; exact e)
  rw [← hme] at hA hlaw
  have HA := Lib.hid (And.intro hA (And.intro hmx hlaw)); clear hA hme hmx hlaw
  refine HA.out.1.mono ?_
  rintro r w4 ⟨A4, k4, rfl, ho, hm⟩
  have r4 := OwnN.reads ho (union_right HA.out.2.1) (by omega)
  have hm04 := tr0 HM.out hm
  have EB := fun W (hW : Mod (fun _ => False) w4 W) => H0.out.1 W (tr0 hm04 hW)
  have RAB := fun W (hW : Mod (fun _ => False) w4 W) => H0.out.2.1 W (tr0 hm04 hW)
  have RMB := fun W (hW : Mod (fun _ => False) w4 W) => Rd.mod r4 hW (fun _ _ => id)
  have HF := Lib.hid hm04
  have HB := Lib.hid (And.intro EB (And.intro RAB RMB)); clear EB RAB RMB hm04 hm ho r4 HM
  go_upto_if 35 with fail
  go_cut [] (fun wx => Mod (fun _ => False) w4 wx)
  case first =>
    by_cases hm0 : m.2 = 0
    · have k0 : (m.2 == 0) = true := by simpa using hm0
      obtain ⟨l1, l2, l3, l4, l5⟩ := HA.out.2.2 hm0
      clear hm0
      have hD := dropO_any A4 m.1.length k4 m.1 s _ w4 (HB.out.2.2 w4 (.refl _ _)) (by omega) (HB.out.1 w4 (.refl _ _))
      obtain ⟨d, hde⟩ : ∃ d, d = dropO m.1 s := ⟨_, rfl⟩
      have hd8 : d.1.length ≤ 8 := by rw [hde]; exact dropO_len m.1 s
      have hdx : ∀ x ∈ d.1, x.length ≤ 140737488355328 := by rw [hde]; exact dropO_all (union_right HA.out.2.1)
      rw [← hde] at hD l3 l4 l5
      have HD := Lib.hid (And.intro hD hdx); clear hD hde hdx
      have k3 : (d.2 != 0) = false := by simpa using l3
      clear l3
      go_wp2_with fail
      refine HD.out.1.mono ?_
      rintro r w5 ⟨A5, k5, rfl, ho, hm⟩
      have r5 := OwnN.reads ho HD.out.2 (by omega)
      have EB := fun W (hW : Mod (fun _ => False) w5 W) => HB.out.1 W (tr0 hm hW)
      have RAB := fun W (hW : Mod (fun _ => False) w5 W) => HB.out.2.1 W (tr0 hm hW)
      have RMB := fun W (hW : Mod (fun _ => False) w5 W) => HB.out.2.2 W (tr0 hm hW)
      have RDB := fun W (hW : Mod (fun _ => False) w5 W) => Rd.mod r5 hW (fun _ _ => id)
      have HG := Lib.hid hm
      have HC := Lib.hid (And.intro EB (And.intro RAB (And.intro RMB RDB))); clear EB RAB RMB RDB hm ho r5
      have HM := Lib.hid (Mod.refl (fun _ => False) w5)
      have LB := Lib.hid (And.intro l1 (And.intro l2 (And.intro l4 l5))); clear l1 l2 l4 l5
      repeat (go_wp2_with fail; first | (go_at_call_of 20 ((#[.slice A4 m.1.length k4, .string ⟨s.toArray⟩] : Array Value)); have hc := hasO_any _ _ _ m.1 s _ _ (HC.out.2.2.1 _ HM.out); rw [LB.out.1] at hc; refine hc.mono ?_; clear hc; rintro _ w1 ⟨rfl, hm1⟩; replace HM := Lib.hid (tr0 HM.out hm1); clear hm1) | (go_at_call_of 21 ((#[.slice A1 a.length c1', .slice A4 m.1.length k4] : Array Value)); have hc := withinO_any _ _ _ _ _ _ a m.1 _ _ _ (HC.out.2.1 _ HM.out) (HC.out.2.2.1 _ HM.out) (HC.out.1 _ HM.out); rw [LB.out.2.1] at hc; refine hc.mono ?_; clear hc; rintro _ w1 ⟨rfl, hm1⟩; replace HM := Lib.hid (tr0 HM.out hm1); clear hm1) | (go_at_call_of 20 ((#[.slice A5 d.1.length k5, .string ⟨s.toArray⟩] : Array Value)); have hc := hasO_any _ _ _ d.1 s _ _ (HC.out.2.2.2 _ HM.out); rw [LB.out.2.2.1] at hc; refine hc.mono ?_; clear hc; rintro _ w1 ⟨rfl, hm1⟩; replace HM := Lib.hid (tr0 HM.out hm1); clear hm1) | (go_at_call_of 21 ((#[.slice A5 d.1.length k5, .slice A1 a.length c1'] : Array Value)); have hc := withinO_any _ _ _ _ _ _ d.1 a _ _ _ (HC.out.2.2.2 _ HM.out) (HC.out.2.1 _ HM.out) (HC.out.1 _ HM.out); rw [LB.out.2.2.2] at hc; refine hc.mono ?_; clear hc; rintro _ w1 ⟨rfl, hm1⟩; replace HM := Lib.hid (tr0 HM.out hm1); clear hm1))
      go_wp2_with fail
      go_meet
      exact tr0 HG.out HM.out
    · have k0 : (m.2 == 0) = false := by simpa using hm0
      clear hm0
      go_wp2_with fail
      go_meet
      exact .refl _ _
  case rest =>
    have hmc := tr0 HF.out hcut
    have hU := unionO_any A1 a.length c1' A2 b.length c2' a b _ _ wc (H0.out.2.1 wc hmc) (H0.out.2.2 wc hmc) (H0.out.1 wc hmc)
    obtain ⟨u, hue⟩ : ∃ u, u = unionO a b := ⟨_, rfl⟩
    have hu8 : u.1.length ≤ 8 := by rw [hue]; exact unionO_len a b
    have hux : ∀ x ∈ u.1, rightB x = true := by rw [hue]; exact unionO_each a b
    have hlaw : u.2 = 0 → _ := fun e => union_law (a := a) (b := b) (by rw [← hue]; exact e)
    rw [← hue] at hU hlaw
    have HU := Lib.hid (And.intro hmc (And.intro hU (And.intro hux (And.intro hlaw hue)))); clear hmc hU hux hlaw hue hcut
    go_wp2_with fail
    refine HU.out.2.1.mono ?_
    rintro r w6 ⟨A6, k6, rfl, ho, hm⟩
    have hm06 := tr0 HU.out.1 hm
    have r6 := OwnN.reads ho (union_right HU.out.2.2.1) (by omega)
    have hV := unionO_any A2 b.length c2' A1 a.length c1' b a _ _ w6 (H0.out.2.2 w6 hm06) (H0.out.2.1 w6 hm06) (H0.out.1 w6 hm06)
    rw [unionO_comm b a, ← HU.out.2.2.2.2] at hV
    have H6 := Lib.hid (And.intro hm06 (And.intro r6 hV)); clear hm06 hm ho r6 hV
    go_wp2_with fail
    refine H6.out.2.2.mono ?_
    rintro r w7 ⟨A7, k7, rfl, ho, hm⟩
    have hm07 := tr0 H6.out.1 hm
    have r6 := Rd.mod H6.out.2.1 hm (fun _ _ => id)
    have r7 := OwnN.reads ho (union_right HU.out.2.2.1) (by omega)
    have EB := fun W (hW : Mod (fun _ => False) w7 W) => H0.out.1 W (tr0 hm07 hW)
    have RAB := fun W (hW : Mod (fun _ => False) w7 W) => H0.out.2.1 W (tr0 hm07 hW)
    have RBB := fun W (hW : Mod (fun _ => False) w7 W) => H0.out.2.2 W (tr0 hm07 hW)
    have RUB := fun W (hW : Mod (fun _ => False) w7 W) => Rd.mod r6 hW (fun _ _ => id)
    have RVB := fun W (hW : Mod (fun _ => False) w7 W) => Rd.mod r7 hW (fun _ _ => id)
    have HG := Lib.hid hm07
    have HC := Lib.hid (And.intro EB (And.intro RAB (And.intro RBB (And.intro RUB RVB)))); clear EB RAB RBB RUB RVB hm07 hm ho r6 r7
    have HM := Lib.hid (Mod.refl (fun _ => False) w7)
    have e0 : (u.2 == u.2) = true := by simp
    by_cases hu0 : u.2 = 0
    · have k0 : (u.2 != 0) = false := by simpa using hu0
      have LB := Lib.hid (HU.out.2.2.2.1 hu0)
      clear hu0
      repeat (go_wp2_with fail; first | (go_at_call_of 23 ((#[.slice A6 u.1.length k6, .slice A7 u.1.length k7] : Array Value)); have hc := refsame7_any _ _ _ _ _ _ u.1 u.1 _ _ _ (HC.out.2.2.2.1 _ HM.out) (HC.out.2.2.2.2 _ HM.out); simp only [decide_true] at hc; refine hc.mono ?_; clear hc; rintro _ w1 ⟨rfl, hm1⟩; replace HM := Lib.hid (tr0 HM.out hm1); clear hm1) | (go_at_call_of 21 ((#[.slice A1 a.length c1', .slice A6 u.1.length k6] : Array Value)); have hc := withinO_any _ _ _ _ _ _ a u.1 _ _ _ (HC.out.2.1 _ HM.out) (HC.out.2.2.2.1 _ HM.out) (HC.out.1 _ HM.out); rw [LB.out.1] at hc; refine hc.mono ?_; clear hc; rintro _ w1 ⟨rfl, hm1⟩; replace HM := Lib.hid (tr0 HM.out hm1); clear hm1) | (go_at_call_of 21 ((#[.slice A2 b.length c2', .slice A6 u.1.length k6] : Array Value)); have hc := withinO_any _ _ _ _ _ _ b u.1 _ _ _ (HC.out.2.2.1 _ HM.out) (HC.out.2.2.2.1 _ HM.out) (HC.out.1 _ HM.out); rw [LB.out.2] at hc; refine hc.mono ?_; clear hc; rintro _ w1 ⟨rfl, hm1⟩; replace HM := Lib.hid (tr0 HM.out hm1); clear hm1))
      go_wp2_with fail
      go_ret
      exact ⟨rfl, tr0 HG.out HM.out⟩
    · have k0 : (u.2 != 0) = true := by simpa using hu0
      clear hu0
      repeat (go_wp2_with fail; first | (go_at_call_of 23 ((#[.slice A6 u.1.length k6, .slice A7 u.1.length k7] : Array Value)); have hc := refsame7_any _ _ _ _ _ _ u.1 u.1 _ _ _ (HC.out.2.2.2.1 _ HM.out) (HC.out.2.2.2.2 _ HM.out); simp only [decide_true] at hc; refine hc.mono ?_; clear hc; rintro _ w1 ⟨rfl, hm1⟩; replace HM := Lib.hid (tr0 HM.out hm1); clear hm1) | (go_at_call_of 21 ((#[.slice A1 a.length c1', .slice A6 u.1.length k6] : Array Value)); have hc := withinO_any _ _ _ _ _ _ a u.1 _ _ _ (HC.out.2.1 _ HM.out) (HC.out.2.2.2.1 _ HM.out) (HC.out.1 _ HM.out); rw [LB.out.1] at hc; refine hc.mono ?_; clear hc; rintro _ w1 ⟨rfl, hm1⟩; replace HM := Lib.hid (tr0 HM.out hm1); clear hm1) | (go_at_call_of 21 ((#[.slice A2 b.length c2', .slice A6 u.1.length k6] : Array Value)); have hc := withinO_any _ _ _ _ _ _ b u.1 _ _ _ (HC.out.2.2.1 _ HM.out) (HC.out.2.2.2.1 _ HM.out) (HC.out.1 _ HM.out); rw [LB.out.2] at hc; refine hc.mono ?_; clear hc; rintro _ w1 ⟨rfl, hm1⟩; replace HM := Lib.hid (tr0 HM.out hm1); clear hm1))
      go_wp2_with fail
      go_ret
      exact ⟨rfl, tr0 HG.out HM.out⟩
theorem ownsSets_walk (A : Option Addr) (n c : Nat) (A2 : Option Addr) (n2 c2 : Nat) (s : ByteArray) (a b : List Nm) (x : ByteArray) (W : World) (h1 : nmsR.rel W (fun k => k < W.heap.size) [.slice A n c] a) (h2 : nmsR.rel W (fun k => k < W.heap.size) [.slice A2 n2 c2] b)
    (h3 : Rd.string.rel W (fun k => k < W.heap.size) [.string s] x) (E : Env W) :
    Calls Tryz.prog 4 #[.slice A n c, .slice A2 n2 c2, .string s] W fun r W' => r = .returned (.bool true) ∧ Below W.heap.size W W' := by
  obtain ⟨e2, i2⟩ := h3
  obtain rfl : s = x := by simpa using e2
  exact (ownsSets_mod A n c A2 n2 c2 a b s.data.toList _ _ W h1 h2 i2 E).mono fun _ _ h => ⟨h.1, below0 h.2⟩
end Go.Proofs.YthhepnaanjicjaaGreatDoor

/- The law OwnsSets returns true for every input, and its arguments read afterwards as before. No condition. -/
namespace Go.Proofs.YthhepnaanjicjaaGreatDoor.ownsSets
open Go.ChangeShapes Go.WideShapes Go.ChangeAt Go.RowKit
open Go.ChangeMaps (open_string)
set_option linter.unusedVariables false
theorem own : ownKnob Tryz.prog.godebug = none := by kernel_rfl
theorem laidOut : laidOutB Tryz.prog = true := by kernel_rfl
set_option maxRecDepth 100000 in
theorem lifted (os : Os) (started : os.Started) (H : Type) (enc : TypeId × Value → H) :
    ReturnsInHanded {} Tryz.checked os 4 .any (fun w args => (Rows.ownsSetsSpec.pre enc Tryz.prog Tryz.f4 Rows.ownsSetsRow.domain false w args ∧ laidMetH Tryz.prog Rows.ownsSetsRow.laid w) ∧ sizedMet enc Tryz.prog Tryz.f4 (OpenSpec.ofChange Rows.ownsSetsSpec) false w args) (Rows.ownsSetsSpec.post enc Tryz.prog Tryz.f4 false true false false) := by
  refine returnsInHanded_of_change_and (C := Tryz.checked) (X := fun w _ => laidMetH Tryz.prog Rows.ownsSetsRow.laid w) (fun _ _ _ hh h => h.of_heap hh) own started (by kernel_rfl) Tryz.func4
    (ChangeSpec.witness_shaped (enc := enc) (C := Tryz.checked) (os := os) (X := fun w _ => laidMetH Tryz.prog Rows.ownsSetsRow.laid w) false (laidWorld os) #[.slice none 0 0, .slice none 0 0, .string ⟨#[]⟩] 8 rfl (World.shaped_of_RefB (by kernel_rfl) (by kernel_rfl)) (by kernel_rfl) (by kernel_rfl) (by kernel_rfl) (laidWorld_met os _)) ?_
  intro W base args ds gs before hval0 hW hcnd hsz0 hL _
  have hsz : (DataW.weightsEach Tryz.prog (Tryz.f4.params.toList ++ Rows.ownsSetsSpec.plain.varTypes Tryz.prog) (ds ++ gs)).all (· ≤ reachBytes) = true := hsz0
  have hW' := hW
  obtain ⟨p, q, hA0, hV, rfl, hfz, hnd⟩ := hW
  have hval : ∀ (j : Nat) t v, Tryz.f4.params[j]? = some t → args[j]? = some v → Value.okWide Tryz.prog W .any base t v := hval0
  have hA : DataW.TrodAll enc Tryz.prog W 0 (fun _ => true) true Tryz.f4.params.toList args.toList ds p := hA0
  rw [Tryz.params4] at hA hval hsz
  obtain ⟨v0, vs0, d0, ds0, p0, q0, hargs, rfl, rfl, h0, r0⟩ := trodAll_cons hA
  obtain ⟨v1, vs1, d1, ds1, p1, q1, rfl, rfl, rfl, h1, r1⟩ := trodAll_cons r0
  obtain ⟨v2, vs2, d2, ds2, p2, q2, rfl, rfl, rfl, h2, r2⟩ := trodAll_cons r1
  obtain ⟨rfl, rfl, rfl⟩ := trodAll_nil r2
  obtain rfl : args = #[v0, v1, v2] := by cases args; simp_all
  obtain ⟨rfl, rfl⟩ := trodVars_none hV
  obtain ⟨a0, n0, c0, rfl⟩ := okWide_slice Tryz.underlying24 (hval 0 24 v0 rfl rfl)
  have k0 := h0
  have lt0 : ∀ x ∈ p0, x.block < W.heap.size := by obtain ⟨m, hm⟩ := k0; exact DataW.trod_lt m _ _ _ hm
  obtain ⟨x0, y0⟩ : ∃ x, Rd.rel (nmsR) W (fun k => k < W.heap.size) [.slice a0 n0 c0] x := by
    obtain ⟨fuel, hf⟩ := h0
    exact nms_opens H enc W _ _ _ fuel _ _ hf (fun n hn => of_decide_eq_true (List.all_eq_true.1 hsz _ (DataW.weights_mem_each (j := 0) rfl rfl n hn)))
  obtain ⟨a1, n1, c1, rfl⟩ := okWide_slice Tryz.underlying24 (hval 1 24 v1 rfl rfl)
  have k1 := h1
  have lt1 : ∀ x ∈ p1, x.block < W.heap.size := by obtain ⟨m, hm⟩ := k1; exact DataW.trod_lt m _ _ _ hm
  obtain ⟨x1, y1⟩ : ∃ x, Rd.rel (nmsR) W (fun k => k < W.heap.size) [.slice a1 n1 c1] x := by
    obtain ⟨fuel, hf⟩ := h1
    exact nms_opens H enc W _ _ _ fuel _ _ hf (fun n hn => of_decide_eq_true (List.all_eq_true.1 hsz _ (DataW.weights_mem_each (j := 1) rfl rfl n hn)))
  obtain ⟨s2, rfl⟩ : ∃ s, v2 = .string s := by obtain ⟨s, h, _⟩ := open_string Tryz.underlying9 (hval 2 9 v2 rfl rfl) h2; exact ⟨s, h⟩
  have k2 := h2
  have lt2 : ∀ x ∈ p2, x.block < W.heap.size := by obtain ⟨m, hm⟩ := k2; exact DataW.trod_lt m _ _ _ hm
  obtain ⟨x2, y2⟩ : ∃ x, Rd.rel (Rd.string) W (fun k => k < W.heap.size) [.string s2] x := by
    obtain ⟨fuel, hf⟩ := h2
    exact str_opens H enc W _ _ _ fuel _ _ hf (fun n hn => of_decide_eq_true (List.all_eq_true.1 hsz _ (DataW.weights_mem_each (j := 2) rfl rfl n hn)))
  clear hA0 hval0 hsz0 hsz
  refine (ownsSets_walk a0 n0 c0 a1 n1 c1 s2 x0 x1 x2 W y0 y1 y2 (env_of hL)).mono fun e W' ⟨he, bel⟩ => ?_
  subst he
  exact ⟨_, rfl, _, _, _, [], _, [], hW', trodAll_mk1 (shut_bool Tryz.underlying4 _), (trodAll_cons_mk (Below.trod laidOut (by kernel_rfl) (of_decide_eq_true (by kernel_rfl)) k0 bel lt0) (trodAll_cons_mk (Below.trod laidOut (by kernel_rfl) (of_decide_eq_true (by kernel_rfl)) k1 bel lt1) (trodAll_cons_mk (Below.trod laidOut (by kernel_rfl) (of_decide_eq_true (by kernel_rfl)) k2 bel lt2) trodAll_mk0))), rfl, bel.frame _, fun h => by cases h⟩
theorem over : Rows.ownsSetsRow.holds Tryz.pinned (OpenSpec.ofChange Rows.ownsSetsSpec) :=
  OpenClaim.holds_of_wide 4 Tryz.f4 rfl rfl rfl rfl rfl rfl rfl ⟨rfl, rfl, rfl, rfl, rfl⟩ rfl rfl rfl rfl rfl (by kernel_rfl) Tryz.func4 (by kernel_rfl)
    (of_decide_eq_true (by kernel_rfl)) (by unfold Func.isWrapper; first | (rw [if_pos (by decide +kernel)]; kernel_rfl) | (rw [if_neg (by decide +kernel)]; exact ⟨rfl, rfl⟩))
    (fun os started H enc _ => lifted os started H enc)
theorem proved : Rows.OwnsSetsSaid := over
#print axioms proved
end Go.Proofs.YthhepnaanjicjaaGreatDoor.ownsSets
namespace Go.Proofs.YthhepnaanjicjaaGreatDoor
/-- The row, under a short name, for the claim. -/
theorem ownsSets_holds : Rows.OwnsSetsSaid := ownsSets.proved
end Go.Proofs.YthhepnaanjicjaaGreatDoor

/- The law OwnsSets returns true for every input, and its arguments read afterwards as before: the tied card. No condition beyond the row's own. -/
namespace Go.Proofs.YthhepnaanjicjaaGreatDoor
open Go
theorem ownsSets_card_holds : Rows.OwnsSetsCardSaid :=
  Claim7.holds_tied_plain_at .later [] [.data, .data, .data, .data, .sentinel, .sentinel, .pinned] true (true, "fd594034ef6ac330493a0e3f50887663515fa0ef89308825e5a45e0f653eee68") true
    ownsSets_holds (fun _ h => by cases h) (by kernel_rfl) (fun _ h => by cases h) ownsSets_row_tie rfl ⟨rfl, rfl⟩ (by kernel_rfl) rfl
    (fun f fn hf hfn => by
      obtain rfl : f = 4 := Option.some.inj ((show Tryz.prog.funcNamed "regency/regencylaw07.OwnsSets" = some 4 by kernel_rfl).symm.trans hf) |>.symm
      obtain rfl : fn = Tryz.f4 := (Option.some.inj (Tryz.func4.symm.trans hfn)).symm
      exact ⟨by kernel_rfl, fun j t ht => by
        rw [Tryz.params4] at ht
        have hm : t ∈ [24, 24, 9] := by simpa using Array.mem_of_getElem? ht
        have hall : ([24, 24, 9].all fun u => !Tryz.prog.wantsStandIn u) = true := by kernel_rfl
        exact (show Tryz.prog.wantsStandIn t = false by simpa using List.all_eq_true.1 hall t hm)⟩)
    (by kernel_rfl)
#print axioms ownsSets_card_holds
end Go.Proofs.YthhepnaanjicjaaGreatDoor
