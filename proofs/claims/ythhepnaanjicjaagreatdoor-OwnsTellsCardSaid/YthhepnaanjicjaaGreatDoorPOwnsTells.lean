/- Texts of this claim, joined: OwnT, LawOwnsTells, CardOwnsTells. -/
import Derived.Test.YthhepnaanjicjaaGreatDoorO2
import Derived.Test.YthhepnaanjicjaaGreatDoorO3
import Derived.Test.YthhepnaanjicjaaGreatDoorO1
import Derived.WalkKit
import Derived.ProofKit
import Derived.OpenShut
import Derived.ShutString
import Derived.ChangeOld
import Derived.Below
import Derived.SizedLaws
import Derived.ChangeVars
import Derived.JoinedOf
import Derived.RowKitTokens
import Derived.LaidLaws
import Derived.LaidHandle
import Derived.Stop.Joined
import Derived.Test.YthhepnaanjicjaaGreatDoorP7
import Derived.Test.YthhepnaanjicjaaGreatDoorRows
import Derived.Test.YthhepnaanjicjaaGreatDoorCards
import Derived.Test.YthhepnaanjicjaaGreatDoorTie
import Derived.SevenTiedAt
/- Layer 7, the laws: OwnsTells. -/
namespace Go.Proofs.YthhepnaanjicjaaGreatDoor
open Go.RowKit Go.Shelf
set_option linter.unusedVariables false
theorem PenAt.newO (w : World) (base : Nat) (hb : base ≤ w.heap.size) : PenAt (w.alloc (.cells #[.slice none 0 0] 41)) base w.heap.size (.slice none 0 0) [] :=
  ⟨heap_alloc_new w _, World.ownsRow_nil _ _ _ _, hb, by simp [Value.ownBlock]⟩
theorem PenAt.modO {w w1 : World} {base g : Nat} {v : Value} {bs : List UInt8} (h : PenAt w base g v bs) {S : Nat → Prop} (hm : Mod S w w1) (h1 : ¬ S g) (h2 : ∀ k, v.ownBlock = some k → ¬ S k) : PenAt w1 base g v bs :=
  ⟨(hm.block g h.lt h1).trans h.blk, own_move h.own (fun k hk => hm.block k (own_lt h.own k hk).2 (h2 k hk)), h.base, h.ne⟩
theorem encO_len {l : List Nm} (h : l.length ≤ 30) (hn : ∀ c ∈ l, c.length ≤ 1000000) : (encO l).length ≤ 100000000 := by
  unfold encO
  rw [List.length_append]
  have := encF_len 10 (l.length : Int)
  have h2 := flatC_len l hn
  have : 1000010 * l.length ≤ 1000010 * 30 := Nat.mul_le_mul_left _ h
  omega
theorem dropO_le {l : List Nm} {c : Nm} (h : ∀ x ∈ l, x.length ≤ 1000000) : ∀ x ∈ (dropO l c).1, x.length ≤ 1000000 := by
  unfold dropO
  split
  · split
    · split
      · exact fun x hx => h x (List.mem_filter.1 hx).1
      · simp
    · simp
  · simp
theorem addO_len (l : List Nm) (c : Nm) : (addO l c).1.length ≤ 8 := by
  unfold addO
  split
  · split
    · exact unionO_len _ _
    · simp
  · simp
theorem addO_each (l : List Nm) (c : Nm) : ∀ x ∈ (addO l c).1, rightB x = true := by
  unfold addO
  split
  · split
    · exact unionO_each _ _
    · simp
  · simp
set_option maxRecDepth 100000 in
set_option maxHeartbeats 4000000 in
theorem ownsTells_mod (A1 : Option Addr) (n1 c1' : Nat) (A2 : Option Addr) (n2 c2' : Nat) (a b : List Nm) (s : Nm) (ok ok2 : Nat → Prop) (w : World) (h : nmsR.rel w ok [.slice A1 n1 c1'] a) (h2 : nmsR.rel w ok2 [.slice A2 n2 c2'] b) (hs : s.length ≤ 140737488355328) (E : Env w) :
    Calls Tryz.prog 5 #[.slice A1 n1 c1', .slice A2 n2 c2', .string ⟨s.toArray⟩] w fun r w' => r = .returned (.bool true) ∧ Mod (fun _ => False) w w' := by
  obtain rfl := (nms_row h).1
  obtain rfl := (nms_row h2).1
  have RA := fun W (hW : Mod (fun _ => False) w W) => Rd.mod (Rd.bound h) hW (fun _ _ => id)
  have RB := fun W (hW : Mod (fun _ => False) w W) => Rd.mod h2 hW (fun _ _ => id)
  have EW := fun W (hW : Mod (fun _ => False) w W) => E.mod0 hW
  have H0 := Lib.hid (And.intro EW (And.intro RA RB)); clear E h h2 RA RB EW
  go_enter Tryz.func5, Tryz.ntmps5
  go_wp2_with fail
  refine (first7_any w (H0.out.1 w (.refl _ _))).mono ?_
  rintro r w1 ⟨rfl, hm1⟩
  have HM := Lib.hid hm1; clear hm1
  cases hla : longO a with
  | true =>
    repeat (go_wp2_with fail; first | (go_at_call_of 12 ((#[.slice A1 a.length c1'] : Array Value)); refine (longO_any A1 a.length c1' a _ _ (H0.out.2.1 _ HM.out)).mono ?_; rintro _ w1 ⟨rfl, hm1⟩; replace HM := Lib.hid (tr0 HM.out hm1); clear hm1) | (go_at_call_of 12 ((#[.slice A2 b.length c2'] : Array Value)); refine (longO_any A2 b.length c2' b _ _ (H0.out.2.2 _ HM.out)).mono ?_; rintro _ w1 ⟨rfl, hm1⟩; replace HM := Lib.hid (tr0 HM.out hm1); clear hm1))
    go_wp2_with fail
    go_ret
    exact ⟨rfl, HM.out⟩
  | false =>
  cases hlb : longO b with
  | true =>
    repeat (go_wp2_with fail; first | (go_at_call_of 12 ((#[.slice A1 a.length c1'] : Array Value)); refine (longO_any A1 a.length c1' a _ _ (H0.out.2.1 _ HM.out)).mono ?_; rintro _ w1 ⟨rfl, hm1⟩; replace HM := Lib.hid (tr0 HM.out hm1); clear hm1) | (go_at_call_of 12 ((#[.slice A2 b.length c2'] : Array Value)); refine (longO_any A2 b.length c2' b _ _ (H0.out.2.2 _ HM.out)).mono ?_; rintro _ w1 ⟨rfl, hm1⟩; replace HM := Lib.hid (tr0 HM.out hm1); clear hm1))
    go_wp2_with fail
    go_ret
    exact ⟨rfl, HM.out⟩
  | false =>
  by_cases hs1 : 100 < s.length
  · repeat (go_wp2_with fail; first | (go_at_call_of 12 ((#[.slice A1 a.length c1'] : Array Value)); refine (longO_any A1 a.length c1' a _ _ (H0.out.2.1 _ HM.out)).mono ?_; rintro _ w1 ⟨rfl, hm1⟩; replace HM := Lib.hid (tr0 HM.out hm1); clear hm1) | (go_at_call_of 12 ((#[.slice A2 b.length c2'] : Array Value)); refine (longO_any A2 b.length c2' b _ _ (H0.out.2.2 _ HM.out)).mono ?_; rintro _ w1 ⟨rfl, hm1⟩; replace HM := Lib.hid (tr0 HM.out hm1); clear hm1))
    go_wp2_with fail
    go_ret
    exact ⟨rfl, HM.out⟩
  have hs100 : s.length ≤ 100 := by omega
  repeat (go_wp2_with fail; first | (go_at_call_of 12 ((#[.slice A1 a.length c1'] : Array Value)); refine (longO_any A1 a.length c1' a _ _ (H0.out.2.1 _ HM.out)).mono ?_; rintro _ w1 ⟨rfl, hm1⟩; replace HM := Lib.hid (tr0 HM.out hm1); clear hm1) | (go_at_call_of 12 ((#[.slice A2 b.length c2'] : Array Value)); refine (longO_any A2 b.length c2' b _ _ (H0.out.2.2 _ HM.out)).mono ?_; rintro _ w1 ⟨rfl, hm1⟩; replace HM := Lib.hid (tr0 HM.out hm1); clear hm1))
  go_wp2_with fail
  have HL := Lib.hid (And.intro (longO_no hla) (longO_no hlb)); clear hla hlb
  have hax : ∀ x ∈ a, x.length ≤ 1000000 := fun x hx => Nat.le_trans (HL.out.1.2 x hx) (by decide)
  have hbx : ∀ x ∈ b, x.length ≤ 1000000 := fun x hx => Nat.le_trans (HL.out.2.2 x hx) (by decide)
  have ha30 := HL.out.1.1
  have hb30 := HL.out.2.1
  have HX := Lib.hid (And.intro hax hbx); clear hax hbx
  obtain ⟨w3, hw3⟩ : ∃ w3, w3 = w1 := ⟨_, rfl⟩
  rw [← hw3] at HM ⊢
  clear hw3
  obtain ⟨m, hme⟩ : ∃ m, m = addO a s := ⟨_, rfl⟩
  obtain ⟨n, hne⟩ : ∃ n, n = dropO a s := ⟨_, rfl⟩
  obtain ⟨u, hue⟩ : ∃ u, u = unionO a b := ⟨_, rfl⟩
  have hm8 : m.1.length ≤ 8 := by rw [hme]; exact addO_len a s
  have hn8 : n.1.length ≤ 8 := by rw [hne]; exact dropO_len a s
  have hu8 : u.1.length ≤ 8 := by rw [hue]; exact unionO_len a b
  have hmx : ∀ x ∈ m.1, x.length ≤ 140737488355328 := by rw [hme]; exact union_right (addO_each a s)
  have hnx : ∀ x ∈ n.1, x.length ≤ 140737488355328 := by rw [hne]; exact fun x hx => Nat.le_trans (dropO_le HX.out.1 x hx) (by decide)
  have hux : ∀ x ∈ u.1, x.length ≤ 140737488355328 := by rw [hue]; exact union_right (unionO_each a b)
  have HE := Lib.hid (And.intro hme (And.intro hne (And.intro hue (And.intro hmx (And.intro hnx hux))))); clear hme hne hue hmx hnx hux
  have hc := addO_any A1 a.length c1' a s _ w3 (H0.out.2.1 w3 HM.out) (by omega) (H0.out.1 w3 HM.out)
  rw [← HE.out.1] at hc
  have HC4 := Lib.hid hc; clear hc
  refine HC4.out.mono ?_
  clear HC4
  rintro r w4 ⟨R4, k4, rfl, ho, hm⟩
  have r4 := OwnN.reads ho HE.out.2.2.2.1 (by omega)
  have HM4 := Lib.hid (tr0 HM.out hm); clear hm ho
  have Rr4 := Lib.hid r4; clear r4
  have hc := refadd7_any A1 a.length c1' a s _ w4 (H0.out.2.1 w4 HM4.out) (by omega) HX.out.1
  rw [← HE.out.1] at hc
  have HC5 := Lib.hid hc; clear hc
  go_wp2_with fail
  refine HC5.out.mono ?_
  clear HC5
  rintro r w5 ⟨R5, k5, rfl, ho, hm⟩
  have rx4 := Rd.mod Rr4.out hm (fun _ _ => id)
  have r5 := OwnN.reads ho HE.out.2.2.2.1 (by omega)
  have HM5 := Lib.hid (tr0 HM4.out hm); clear hm ho
  replace Rr4 := Lib.hid rx4; clear rx4
  have Rr5 := Lib.hid r5; clear r5
  have hc := dropO_any A1 a.length c1' a s _ w5 (H0.out.2.1 w5 HM5.out) (by omega) (H0.out.1 w5 HM5.out)
  rw [← HE.out.2.1] at hc
  have HC6 := Lib.hid hc; clear hc
  go_wp2_with fail
  refine HC6.out.mono ?_
  clear HC6
  rintro r w6 ⟨R6, k6, rfl, ho, hm⟩
  have rx4 := Rd.mod Rr4.out hm (fun _ _ => id)
  have rx5 := Rd.mod Rr5.out hm (fun _ _ => id)
  have r6 := OwnN.reads ho HE.out.2.2.2.2.1 (by omega)
  have HM6 := Lib.hid (tr0 HM5.out hm); clear hm ho
  replace Rr4 := Lib.hid rx4; clear rx4
  replace Rr5 := Lib.hid rx5; clear rx5
  have Rr6 := Lib.hid r6; clear r6
  have hc := refdrop7_any A1 a.length c1' a s _ w6 (H0.out.2.1 w6 HM6.out) (by omega) HX.out.1
  rw [← HE.out.2.1] at hc
  have HC7 := Lib.hid hc; clear hc
  go_wp2_with fail
  refine HC7.out.mono ?_
  clear HC7
  rintro r w7 ⟨R7, k7, rfl, ho, hm⟩
  have rx4 := Rd.mod Rr4.out hm (fun _ _ => id)
  have rx5 := Rd.mod Rr5.out hm (fun _ _ => id)
  have rx6 := Rd.mod Rr6.out hm (fun _ _ => id)
  have r7 := OwnN.reads ho HE.out.2.2.2.2.1 (by omega)
  have HM7 := Lib.hid (tr0 HM6.out hm); clear hm ho
  replace Rr4 := Lib.hid rx4; clear rx4
  replace Rr5 := Lib.hid rx5; clear rx5
  replace Rr6 := Lib.hid rx6; clear rx6
  have Rr7 := Lib.hid r7; clear r7
  have hc := unionO_any A1 a.length c1' A2 b.length c2' a b _ _ w7 (H0.out.2.1 w7 HM7.out) (H0.out.2.2 w7 HM7.out) (H0.out.1 w7 HM7.out)
  rw [← HE.out.2.2.1] at hc
  have HC8 := Lib.hid hc; clear hc
  go_wp2_with fail
  refine HC8.out.mono ?_
  clear HC8
  rintro r w8 ⟨R8, k8, rfl, ho, hm⟩
  have rx4 := Rd.mod Rr4.out hm (fun _ _ => id)
  have rx5 := Rd.mod Rr5.out hm (fun _ _ => id)
  have rx6 := Rd.mod Rr6.out hm (fun _ _ => id)
  have rx7 := Rd.mod Rr7.out hm (fun _ _ => id)
  have r8 := OwnN.reads ho HE.out.2.2.2.2.2 (by omega)
  have HM8 := Lib.hid (tr0 HM7.out hm); clear hm ho
  replace Rr4 := Lib.hid rx4; clear rx4
  replace Rr5 := Lib.hid rx5; clear rx5
  replace Rr6 := Lib.hid rx6; clear rx6
  replace Rr7 := Lib.hid rx7; clear rx7
  have Rr8 := Lib.hid r8; clear r8
  have hc := refunion7_any A1 a.length c1' A2 b.length c2' a b _ _ w8 (H0.out.2.1 w8 HM8.out) (H0.out.2.2 w8 HM8.out) HX.out.1 HX.out.2
  rw [← HE.out.2.2.1] at hc
  have HC9 := Lib.hid hc; clear hc
  go_wp2_with fail
  refine HC9.out.mono ?_
  clear HC9
  rintro r w9 ⟨R9, k9, rfl, ho, hm⟩
  have rx4 := Rd.mod Rr4.out hm (fun _ _ => id)
  have rx5 := Rd.mod Rr5.out hm (fun _ _ => id)
  have rx6 := Rd.mod Rr6.out hm (fun _ _ => id)
  have rx7 := Rd.mod Rr7.out hm (fun _ _ => id)
  have rx8 := Rd.mod Rr8.out hm (fun _ _ => id)
  have r9 := OwnN.reads ho HE.out.2.2.2.2.2 (by omega)
  have HM9 := Lib.hid (tr0 HM8.out hm); clear hm ho
  replace Rr4 := Lib.hid rx4; clear rx4
  replace Rr5 := Lib.hid rx5; clear rx5
  replace Rr6 := Lib.hid rx6; clear rx6
  replace Rr7 := Lib.hid rx7; clear rx7
  replace Rr8 := Lib.hid rx8; clear rx8
  have Rr9 := Lib.hid r9; clear r9
  go_wp2_with fail
  obtain ⟨W1, hW1⟩ : ∃ W1, W1 = w9.alloc (.cells #[.slice none 0 0] 41) := ⟨_, rfl⟩
  rw [← hW1]
  have hpen := PenAt.newO w9 w9.heap.size (Nat.le_refl _)
  have hsz9 := HM9.out.size
  have hszW : w9.heap.size ≤ W1.heap.size := by rw [hW1]; simp
  have hmW : Mod (fun _ => False) w9 W1 := by rw [hW1]; exact (Mod.refl _ _).alloc _
  rw [← hW1] at hpen
  obtain ⟨g, hg⟩ : ∃ g, g = w9.heap.size := ⟨_, rfl⟩
  rw [← hg] at hpen hszW ⊢
  have hput := putO_any g g (.slice none 0 0) [] A1 a.length c1' a _ W1 hpen hszW (H0.out.2.1 W1 (tr0 HM9.out hmW)) (fun k hk e => by
    rcases e with e | e
    · have := hk.2; omega
    · simp [Value.ownBlock] at e) (by omega) HX.out.1 (by simp)
  have hgw : w.heap.size ≤ g := by omega
  have HW := Lib.hid (And.intro hput (And.intro hmW (And.intro hg hgw))); clear hput hmW hg hpen hszW hW1 hsz9 hgw
  go_wp2_with fail
  refine HW.out.1.mono ?_
  rintro r w10 ⟨rfl, v10, ht10⟩
  have hmd := HW.out.2.1.trans ht10.mod (fun k hk => .inr (by
    rcases hk with e | e
    · have := HW.out.2.2.1; omega
    · simp [Value.ownBlock] at e))
  have hm010 := tr0 HM9.out hmd
  have hpen := ht10.at_
  rw [List.nil_append] at hpen
  have r4 := Rd.mod Rr4.out hmd (fun _ _ => id)
  have r5 := Rd.mod Rr5.out hmd (fun _ _ => id)
  have r6 := Rd.mod Rr6.out hmd (fun _ _ => id)
  have r7 := Rd.mod Rr7.out hmd (fun _ _ => id)
  have r8 := Rd.mod Rr8.out hmd (fun _ _ => id)
  have r9 := Rd.mod Rr9.out hmd (fun _ _ => id)
  have q1 := fun W (hW : Mod (fun _ => False) w10 W) => rightO_any A1 a.length c1' a _ W (H0.out.2.1 W (tr0 hm010 hW)) (H0.out.1 W (tr0 hm010 hW))
  have q2 := fun W (hW : Mod (fun _ => False) w10 W) => refright7_any A1 a.length c1' a _ W (H0.out.2.1 W (tr0 hm010 hW)) HX.out.1
  have q3 := fun W (hW : Mod (fun _ => False) w10 W) => hasO_any A1 a.length c1' a s _ W (H0.out.2.1 W (tr0 hm010 hW))
  have q4 := fun W (hW : Mod (fun _ => False) w10 W) => refhas7_any A1 a.length c1' a s _ W (H0.out.2.1 W (tr0 hm010 hW))
  have q5 := fun W (hW : Mod (fun _ => False) w10 W) => withinO_any A1 a.length c1' A2 b.length c2' a b _ _ W (H0.out.2.1 W (tr0 hm010 hW)) (H0.out.2.2 W (tr0 hm010 hW)) (H0.out.1 W (tr0 hm010 hW))
  have q6 := fun W (hW : Mod (fun _ => False) w10 W) => refwithin7_any A1 a.length c1' A2 b.length c2' a b _ _ W (H0.out.2.1 W (tr0 hm010 hW)) (H0.out.2.2 W (tr0 hm010 hW)) HX.out.1 HX.out.2
  have q7 := fun W (hW : Mod (fun _ => False) w10 W) => refsame7_any _ _ _ _ _ _ m.1 m.1 _ _ W (Rd.mod r4 hW (fun _ _ => id)) (Rd.mod r5 hW (fun _ _ => id))
  have q8 := fun W (hW : Mod (fun _ => False) w10 W) => refsame7_any _ _ _ _ _ _ n.1 n.1 _ _ W (Rd.mod r6 hW (fun _ _ => id)) (Rd.mod r7 hW (fun _ _ => id))
  have q9 := fun W (hW : Mod (fun _ => False) w10 W) => refsame7_any _ _ _ _ _ _ u.1 u.1 _ _ W (Rd.mod r8 hW (fun _ _ => id)) (Rd.mod r9 hW (fun _ _ => id))
  have q10 := fun W (hW : Mod (fun _ => False) w10 W) => bytes_any g g v10 (encO a) W (hpen.modO hW id (fun _ _ => id)) (by have := encO_len ha30 HX.out.1; omega)
  have q11 := fun W (hW : Mod (fun _ => False) w10 W) => refput7_any A1 a.length c1' a _ W (H0.out.2.1 W (tr0 hm010 hW)) (by omega) HX.out.1
  have HLe : (encO a).length ≤ 100000000 := encO_len ha30 HX.out.1
  simp only [decide_true] at q7 q8 q9
  obtain ⟨b1, hb1⟩ : ∃ b1, b1 = rightO a := ⟨_, rfl⟩
  obtain ⟨b2, hb2⟩ : ∃ b2, b2 = a.contains s := ⟨_, rfl⟩
  obtain ⟨b3, hb3⟩ : ∃ b3, b3 = withinO a b := ⟨_, rfl⟩
  obtain ⟨b4, hb4⟩ : ∃ b4, b4 = encO a := ⟨_, rfl⟩
  have e1 : (b1 == b1) = true := by simp
  have e2 : (b2 == b2) = true := by simp
  have e3 : (b3 == b3) = true := by simp
  rw [← hb1] at q1 q2
  rw [← hb2] at q3 q4
  rw [← hb3] at q5 q6
  rw [← hb4] at q10 q11 HLe
  have HC := Lib.hid (And.intro hm010 (And.intro q1 (And.intro q2 (And.intro q3 (And.intro q4 (And.intro q5 (And.intro q6 (And.intro q7 (And.intro q8 (And.intro q9 (And.intro q10 q11)))))))))))
  clear hm010 hpen hmd ht10 r4 r5 r6 r7 r8 r9 q1 q2 q3 q4 q5 q6 q7 q8 q9 q10 q11 hb1 hb2 hb3 hb4
  go_wp2_with fail
  refine wp_region_stretch' 62 rfl (by kernel_rfl) ?_
  refine stretch 62 0 54 62 8 rfl rfl rfl rfl (by kernel_rfl) (C := fun w' => ∃ W : ModW w10, w' = W.1) ⟨⟨w10.drew, (Mod.refl _ w10).drew⟩, rfl⟩ (fun R hR => ?_)
  iterate 54 ((first | refine wpQuiet_none hR rfl (fun K hK => ?_) | refine wpQuiet_take hR (by rfl) (fun K hK => ?_)); clear hR R; go_simp; first | (refine hK _ (fun R hR => ?_); clear hK K) | (apply Exists.intro; refine ⟨fun _ => ?_, hK _ (fun R hR => ?_)⟩; (first | (go_at_call 28; exact quiet_mod (HC.out.2.1 _ (Subtype.property _))) | (go_at_call 29; exact quiet_mod (HC.out.2.2.1 _ (Subtype.property _))) | (go_at_call 20; exact quiet_mod (HC.out.2.2.2.1 _ (Subtype.property _))) | (go_at_call 30; exact quiet_mod (HC.out.2.2.2.2.1 _ (Subtype.property _))) | (go_at_call 21; exact quiet_mod (HC.out.2.2.2.2.2.1 _ (Subtype.property _))) | (go_at_call 31; exact quiet_mod (HC.out.2.2.2.2.2.2.1 _ (Subtype.property _))) | (go_at_call 23; first | (with_reducible exact quiet_mod (HC.out.2.2.2.2.2.2.2.1 _ (Subtype.property _))) | (with_reducible exact quiet_mod (HC.out.2.2.2.2.2.2.2.2.1 _ (Subtype.property _))) | (with_reducible exact quiet_mod (HC.out.2.2.2.2.2.2.2.2.2.1 _ (Subtype.property _))))); clear hK K))
  refine wpQuiet_end hR ?_
  clear hR R
  rintro _ ⟨W, rfl⟩
  obtain ⟨w12, hw12⟩ : ∃ w12, w12 = W.1 := ⟨_, rfl⟩
  have hm12 : Mod (fun _ => False) w10 w12 := by rw [hw12]; exact W.2
  rw [← hw12]
  clear hw12 W
  refine wpAny_take (i := 54) (v := ?_) rfl (by kernel_rfl) (by kernel_rfl) (by kernel_rfl) (fun _ _ _ h => h) (Or.inl ⟨by rfl, ?_⟩) ?_
  rotate_left
  · intro w; go_simp; with_reducible rfl
  refine wpAny_take (i := 57) (v := ?_) rfl (by kernel_rfl) (by kernel_rfl) (by kernel_rfl) (fun _ _ _ h => h) (Or.inl ⟨by rfl, ?_⟩) ?_
  rotate_left
  · intro w; go_simp; with_reducible rfl
  refine wpAny_ready (rs := [55]) (by kernel_rfl) (by simp) ?_
  refine AllReady.cons rfl (fun K hK => ?_) AllReady.nil
  go_simp; go_at_call 32
  refine (HC.out.2.2.2.2.2.2.2.2.2.2.1 w12 hm12).mono ?_
  rintro _ w13 ⟨A13, c13, rfl, ho13, hm13⟩
  have hr13 := reads_bytes ho13 (by have := HLe; omega)
  refine hK _ _ ?_; clear hK K
  refine wpAny_ready (rs := [56, 58]) (by kernel_rfl) (by simp) ?_
  refine AllReady.cons rfl (fun K hK => ?_) (AllReady.cons rfl (fun K hK => ?_) AllReady.nil)
  · have hcv := run_str (P := Tryz.prog) hr13 39 9 5 Tryz.underlying39 Tryz.underlying5 Tryz.underlying9
    unfold mkStr at hcv
    go_simp; refine hK _ _ ?_; clear hK K hcv
    refine wpAny_ready (rs := [58]) (by kernel_rfl) (by simp) ?_
    refine AllReady.cons rfl (fun K hK => ?_) AllReady.nil
    go_simp; go_at_call 33; refine (HC.out.2.2.2.2.2.2.2.2.2.2.2 _ (tr0 hm12 hm13)).mono ?_; rintro _ w14 ⟨rfl, hm14⟩; refine hK _ _ ?_; clear hK K
    have hm := tr0 (tr0 hm12 hm13) hm14
    clear hm12 hm13 hm14 hr13 ho13
    refine stretch 62 59 62 3 0 rfl rfl rfl (by kernel_rfl) (by kernel_rfl) (C := fun w' => ∃ W : ModW w14, w' = W.1) ⟨⟨w14, .refl _ _⟩, rfl⟩ (fun R hR => ?_)
    iterate 3 ((first | refine wpQuiet_none hR rfl (fun K hK => ?_) | refine wpQuiet_take hR (by rfl) (fun K hK => ?_)); clear hR R; go_simp; first | (refine hK _ (fun R hR => ?_); clear hK K) | (apply Exists.intro; refine ⟨fun _ => ?_, hK _ (fun R hR => ?_)⟩; (first | fail); clear hK K))
    refine wpQuiet_end hR ?_
    clear hR R
    rintro _ ⟨W, rfl⟩
    refine ⟨by kernel_rfl, ?_⟩
    obtain ⟨w20, hw20⟩ : ∃ w20, w20 = W.1 := ⟨_, rfl⟩
    have hm20 : Mod (fun _ => False) w w20 := by rw [hw20]; exact tr0 (tr0 HC.out.1 hm) W.2
    rw [← hw20]
    clear hw20 W
    go_wp2_with fail
    go_ret
    exact ⟨rfl, hm20⟩
  · go_simp; go_at_call 33; refine (HC.out.2.2.2.2.2.2.2.2.2.2.2 _ (tr0 hm12 hm13)).mono ?_; rintro _ w14 ⟨rfl, hm14⟩; refine hK _ _ ?_; clear hK K
    have hcv := run_str (P := Tryz.prog) (Rd.mod hr13 hm14 (fun _ _ => id)) 39 9 5 Tryz.underlying39 Tryz.underlying5 Tryz.underlying9
    unfold mkStr at hcv
    refine wpAny_ready (rs := [56]) (by kernel_rfl) (by simp) ?_
    refine AllReady.cons rfl (fun K hK => ?_) AllReady.nil
    go_simp; refine hK _ _ ?_; clear hK K hcv
    have hm := tr0 (tr0 hm12 hm13) hm14
    clear hm12 hm13 hm14 hr13 ho13
    refine stretch 62 59 62 3 0 rfl rfl rfl (by kernel_rfl) (by kernel_rfl) (C := fun w' => ∃ W : ModW w14, w' = W.1) ⟨⟨w14, .refl _ _⟩, rfl⟩ (fun R hR => ?_)
    iterate 3 ((first | refine wpQuiet_none hR rfl (fun K hK => ?_) | refine wpQuiet_take hR (by rfl) (fun K hK => ?_)); clear hR R; go_simp; first | (refine hK _ (fun R hR => ?_); clear hK K) | (apply Exists.intro; refine ⟨fun _ => ?_, hK _ (fun R hR => ?_)⟩; (first | fail); clear hK K))
    refine wpQuiet_end hR ?_
    clear hR R
    rintro _ ⟨W, rfl⟩
    refine ⟨by kernel_rfl, ?_⟩
    obtain ⟨w20, hw20⟩ : ∃ w20, w20 = W.1 := ⟨_, rfl⟩
    have hm20 : Mod (fun _ => False) w w20 := by rw [hw20]; exact tr0 (tr0 HC.out.1 hm) W.2
    rw [← hw20]
    clear hw20 W
    go_wp2_with fail
    go_ret
    exact ⟨rfl, hm20⟩
theorem ownsTells_walk (A : Option Addr) (n c : Nat) (A2 : Option Addr) (n2 c2 : Nat) (s : ByteArray) (a b : List Nm) (x : ByteArray) (W : World) (h1 : nmsR.rel W (fun k => k < W.heap.size) [.slice A n c] a) (h2 : nmsR.rel W (fun k => k < W.heap.size) [.slice A2 n2 c2] b)
    (h3 : Rd.string.rel W (fun k => k < W.heap.size) [.string s] x) (E : Env W) :
    Calls Tryz.prog 5 #[.slice A n c, .slice A2 n2 c2, .string s] W fun r W' => r = .returned (.bool true) ∧ Below W.heap.size W W' := by
  obtain ⟨e2, i2⟩ := h3
  obtain rfl : s = x := by simpa using e2
  exact (ownsTells_mod A n c A2 n2 c2 a b s.data.toList _ _ W h1 h2 i2 E).mono fun _ _ h => ⟨h.1, below0 h.2⟩
end Go.Proofs.YthhepnaanjicjaaGreatDoor

/- The law OwnsTells returns true for every input, and its arguments read afterwards as before. No condition. -/
namespace Go.Proofs.YthhepnaanjicjaaGreatDoor.ownsTells
open Go.ChangeShapes Go.WideShapes Go.ChangeAt Go.RowKit
open Go.ChangeMaps (open_string)
set_option linter.unusedVariables false
theorem own : ownKnob Tryz.prog.godebug = none := by kernel_rfl
theorem laidOut : laidOutB Tryz.prog = true := by kernel_rfl
set_option maxRecDepth 100000 in
theorem lifted (os : Os) (started : os.Started) (H : Type) (enc : TypeId × Value → H) :
    ReturnsInHanded {} Tryz.checked os 5 .any (fun w args => (Rows.ownsTellsSpec.pre enc Tryz.prog Tryz.f5 Rows.ownsTellsRow.domain false w args ∧ laidMetH Tryz.prog Rows.ownsTellsRow.laid w) ∧ sizedMet enc Tryz.prog Tryz.f5 (OpenSpec.ofChange Rows.ownsTellsSpec) false w args) (Rows.ownsTellsSpec.post enc Tryz.prog Tryz.f5 false true false false) := by
  refine returnsInHanded_of_change_and (C := Tryz.checked) (X := fun w _ => laidMetH Tryz.prog Rows.ownsTellsRow.laid w) (fun _ _ _ hh h => h.of_heap hh) own started (by kernel_rfl) Tryz.func5
    (ChangeSpec.witness_shaped (enc := enc) (C := Tryz.checked) (os := os) (X := fun w _ => laidMetH Tryz.prog Rows.ownsTellsRow.laid w) false (laidWorld os) #[.slice none 0 0, .slice none 0 0, .string ⟨#[]⟩] 8 rfl (World.shaped_of_RefB (by kernel_rfl) (by kernel_rfl)) (by kernel_rfl) (by kernel_rfl) (by kernel_rfl) (laidWorld_met os _)) ?_
  intro W base args ds gs before hval0 hW hcnd hsz0 hL _
  have hsz : (DataW.weightsEach Tryz.prog (Tryz.f5.params.toList ++ Rows.ownsTellsSpec.plain.varTypes Tryz.prog) (ds ++ gs)).all (· ≤ reachBytes) = true := hsz0
  have hW' := hW
  obtain ⟨p, q, hA0, hV, rfl, hfz, hnd⟩ := hW
  have hval : ∀ (j : Nat) t v, Tryz.f5.params[j]? = some t → args[j]? = some v → Value.okWide Tryz.prog W .any base t v := hval0
  have hA : DataW.TrodAll enc Tryz.prog W 0 (fun _ => true) true Tryz.f5.params.toList args.toList ds p := hA0
  rw [Tryz.params5] at hA hval hsz
  obtain ⟨v0, vs0, d0, ds0, p0, q0, hargs, rfl, rfl, h0, r0⟩ := trodAll_cons hA
  obtain ⟨v1, vs1, d1, ds1, p1, q1, rfl, rfl, rfl, h1, r1⟩ := trodAll_cons r0
  obtain ⟨v2, vs2, d2, ds2, p2, q2, rfl, rfl, rfl, h2, r2⟩ := trodAll_cons r1
  obtain ⟨rfl, rfl, rfl⟩ := trodAll_nil r2
  obtain rfl : args = #[v0, v1, v2] := by cases args; simp_all
  obtain ⟨rfl, rfl⟩ := trodVars_none hV
  obtain ⟨a0, n0, c0, rfl⟩ := okWide_slice Tryz.underlying24 (hval 0 24 v0 rfl rfl)
  have k0 := h0
  have lt0 : ∀ x ∈ p0, x.block < W.heap.size := by obtain ⟨m, hm⟩ := k0; exact DataW.trod_lt m _ _ _ hm
  obtain ⟨x0, y0⟩ : ∃ x, Rd.rel (nmsR) W (fun k => k < W.heap.size) [.slice a0 n0 c0] x := by
    obtain ⟨fuel, hf⟩ := h0
    exact nms_opens H enc W _ _ _ fuel _ _ hf (fun n hn => of_decide_eq_true (List.all_eq_true.1 hsz _ (DataW.weights_mem_each (j := 0) rfl rfl n hn)))
  obtain ⟨a1, n1, c1, rfl⟩ := okWide_slice Tryz.underlying24 (hval 1 24 v1 rfl rfl)
  have k1 := h1
  have lt1 : ∀ x ∈ p1, x.block < W.heap.size := by obtain ⟨m, hm⟩ := k1; exact DataW.trod_lt m _ _ _ hm
  obtain ⟨x1, y1⟩ : ∃ x, Rd.rel (nmsR) W (fun k => k < W.heap.size) [.slice a1 n1 c1] x := by
    obtain ⟨fuel, hf⟩ := h1
    exact nms_opens H enc W _ _ _ fuel _ _ hf (fun n hn => of_decide_eq_true (List.all_eq_true.1 hsz _ (DataW.weights_mem_each (j := 1) rfl rfl n hn)))
  obtain ⟨s2, rfl⟩ : ∃ s, v2 = .string s := by obtain ⟨s, h, _⟩ := open_string Tryz.underlying9 (hval 2 9 v2 rfl rfl) h2; exact ⟨s, h⟩
  have k2 := h2
  have lt2 : ∀ x ∈ p2, x.block < W.heap.size := by obtain ⟨m, hm⟩ := k2; exact DataW.trod_lt m _ _ _ hm
  obtain ⟨x2, y2⟩ : ∃ x, Rd.rel (Rd.string) W (fun k => k < W.heap.size) [.string s2] x := by
    obtain ⟨fuel, hf⟩ := h2
    exact str_opens H enc W _ _ _ fuel _ _ hf (fun n hn => of_decide_eq_true (List.all_eq_true.1 hsz _ (DataW.weights_mem_each (j := 2) rfl rfl n hn)))
  clear hA0 hval0 hsz0 hsz
  refine (ownsTells_walk a0 n0 c0 a1 n1 c1 s2 x0 x1 x2 W y0 y1 y2 (env_of hL)).mono fun e W' ⟨he, bel⟩ => ?_
  subst he
  exact ⟨_, rfl, _, _, _, [], _, [], hW', trodAll_mk1 (shut_bool Tryz.underlying4 _), (trodAll_cons_mk (Below.trod laidOut (by kernel_rfl) (of_decide_eq_true (by kernel_rfl)) k0 bel lt0) (trodAll_cons_mk (Below.trod laidOut (by kernel_rfl) (of_decide_eq_true (by kernel_rfl)) k1 bel lt1) (trodAll_cons_mk (Below.trod laidOut (by kernel_rfl) (of_decide_eq_true (by kernel_rfl)) k2 bel lt2) trodAll_mk0))), rfl, bel.frame _, fun h => by cases h⟩
theorem over : Rows.ownsTellsRow.holds Tryz.pinned (OpenSpec.ofChange Rows.ownsTellsSpec) :=
  OpenClaim.holds_of_wide 5 Tryz.f5 rfl rfl rfl rfl rfl rfl rfl ⟨rfl, rfl, rfl, rfl, rfl⟩ rfl rfl rfl rfl rfl (by kernel_rfl) Tryz.func5 (by kernel_rfl)
    (of_decide_eq_true (by kernel_rfl)) (by unfold Func.isWrapper; first | (rw [if_pos (by decide +kernel)]; kernel_rfl) | (rw [if_neg (by decide +kernel)]; exact ⟨rfl, rfl⟩))
    (fun os started H enc _ => lifted os started H enc)
theorem proved : Rows.OwnsTellsSaid := over
#print axioms proved
end Go.Proofs.YthhepnaanjicjaaGreatDoor.ownsTells
namespace Go.Proofs.YthhepnaanjicjaaGreatDoor
/-- The row, under a short name, for the claim. -/
theorem ownsTells_holds : Rows.OwnsTellsSaid := ownsTells.proved
end Go.Proofs.YthhepnaanjicjaaGreatDoor

/- The law OwnsTells returns true for every input, and its arguments read afterwards as before: the tied card. No condition beyond the row's own. -/
namespace Go.Proofs.YthhepnaanjicjaaGreatDoor
open Go
theorem ownsTells_card_holds : Rows.OwnsTellsCardSaid :=
  Claim7.holds_tied_plain_at .later [] [.data, .data, .data, .data, .sentinel, .sentinel, .pinned] true (true, "fd594034ef6ac330493a0e3f50887663515fa0ef89308825e5a45e0f653eee68") true
    ownsTells_holds (fun _ h => by cases h) (by kernel_rfl) (fun _ h => by cases h) ownsTells_row_tie rfl ⟨rfl, rfl⟩ (by kernel_rfl) rfl
    (fun f fn hf hfn => by
      obtain rfl : f = 5 := Option.some.inj ((show Tryz.prog.funcNamed "regency/regencylaw07.OwnsTells" = some 5 by kernel_rfl).symm.trans hf) |>.symm
      obtain rfl : fn = Tryz.f5 := (Option.some.inj (Tryz.func5.symm.trans hfn)).symm
      exact ⟨by kernel_rfl, fun j t ht => by
        rw [Tryz.params5] at ht
        have hm : t ∈ [24, 24, 9] := by simpa using Array.mem_of_getElem? ht
        have hall : ([24, 24, 9].all fun u => !Tryz.prog.wantsStandIn u) = true := by kernel_rfl
        exact (show Tryz.prog.wantsStandIn t = false by simpa using List.all_eq_true.1 hall t hm)⟩)
    (by kernel_rfl)
#print axioms ownsTells_card_holds
end Go.Proofs.YthhepnaanjicjaaGreatDoor
