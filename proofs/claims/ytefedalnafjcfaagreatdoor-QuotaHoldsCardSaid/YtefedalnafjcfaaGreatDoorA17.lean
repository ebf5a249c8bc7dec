/- Part of this claim's proof (texts Tab9, Path4, Path5, Path6, Path7, Path8, joined by program). -/
import Derived.Test.YtefedalnafjcfaaGreatDoorA16
import Derived.Test.YtefedalnafjcfaaGreatDoorA09
import Derived.Test.YtefedalnafjcfaaGreatDoorA11
import Derived.Test.YtefedalnafjcfaaGreatDoorA14
namespace Go.Proofs.YtefedalnafjcfaaGreatDoor
open Go.RowKit Go.Shelf
set_option linter.unusedVariables false
theorem rightOb_parts (o : Ob) : rightOb o = (decide (1 ≤ o.kind ∧ o.kind ≤ 5) && rightLB o.label && kidsOkB o && mapsOkB o.maps && !foreignB o && decide (o.bytes.length ≤ 256) && rightO o.own && decide (0 ≤ o.cats ∧ o.cats ≤ 65536) && rightLB o.entry && decide (0 ≤ o.ring ∧ o.ring ≤ 1048576)) := by
  rw [Bool.eq_iff_iff, rightOb_iff]
  simp only [Bool.and_eq_true, decide_eq_true_eq, rightLB_iff, kidsOkB_iff, mapsOkB_iff, Bool.not_eq_true', rightO_iff]
  constructor
  · intro h
    exact ⟨⟨⟨⟨⟨⟨⟨⟨⟨h.kind, h.label⟩, h.kids⟩, h.maps⟩, h.foreign⟩, h.bytes⟩, h.own⟩, h.cats⟩, h.entry⟩, h.ring⟩
  · rintro ⟨⟨⟨⟨⟨⟨⟨⟨⟨h1, h2⟩, h3⟩, h4⟩, h5⟩, h6⟩, h7⟩, h8⟩, h9⟩, h10⟩
    exact ⟨h1, h2, h3, h6, h7, h8, h9, h10, h4, h5⟩
theorem between_m (n a b : Int) (w : World) : Calls Tryz.prog 38 #[.int .i64 n, .int .i64 a, .int .i64 b] w fun e w' => e = .returned (.bool (decide (a ≤ n ∧ n ≤ b))) ∧ Mod (fun _ => False) w w' :=
  (between_any n a b w).mono fun e w' ⟨h1, h2⟩ => ⟨h1, h2 ▸ Mod.refl _ _⟩
theorem kind_m (n : Int) (w : World) : Calls Tryz.prog 71 #[.int .i64 n] w fun e w' => e = .returned (.bool (decide (1 ≤ n ∧ n ≤ 5))) ∧ Mod (fun _ => False) w w' :=
  (kind_any n w).mono fun e w' ⟨h1, h2⟩ => ⟨h1, h2 ▸ Mod.refl _ _⟩
set_option maxRecDepth 100000 in
set_option maxHeartbeats 4000000 in
theorem rightOb_any (cs : List Value) (o : Ob) (ok : Nat → Prop) (w : World) (h : ObR.rel w ok cs o) (E : Env w) :
    Calls Tryz.prog 37 #[.agg cs.toArray] w fun e w' => e = .returned (.bool (rightOb o)) ∧ Mod (fun _ => False) w w' := by
  have h' := Rd.bound h
  obtain ⟨A1, c1, A2, c2, A4, c4, A5, c5, A7, c7, A9, c9, rfl, h0, h1, h2, h3, h4, h5, h6, h7, h8, h9⟩ := ObR_cells (Rd.bound h)
  clear h
  obtain ⟨z, hz⟩ : ∃ z, z = rightOb o := ⟨_, rfl⟩
  rw [← hz]
  rw [rightOb_parts] at hz
  have q1 := fun W (hW : Mod (fun _ => False) w W) => kind_m o.kind W
  have q2 := fun W (hW : Mod (fun _ => False) w W) => rightLab_any A1 _ c1 o.label _ W (Rd.mod h1 hW (fun _ _ => id)) (E.mod0 hW)
  have q3 := fun W (hW : Mod (fun _ => False) w W) => rightKids_any _ o _ W (Rd.mod h' hW (fun _ _ => id))
  have q4 := fun W (hW : Mod (fun _ => False) w W) => rightMaps_any A9 _ c9 o.maps _ W (Rd.mod h9 hW (fun _ _ => id))
  have q5 := fun W (hW : Mod (fun _ => False) w W) => foreign_any _ o _ W (Rd.mod h' hW (fun _ _ => id))
  have q6 := fun W (hW : Mod (fun _ => False) w W) => rightO_any A5 _ c5 o.own _ W (Rd.mod h5 hW (fun _ _ => id)) (E.mod0 hW)
  have q7 := fun W (hW : Mod (fun _ => False) w W) => between_m o.cats 0 65536 W
  have q8 := fun W (hW : Mod (fun _ => False) w W) => rightLab_any A7 _ c7 o.entry _ W (Rd.mod h7 hW (fun _ _ => id)) (E.mod0 hW)
  have q9 := fun W (hW : Mod (fun _ => False) w W) => between_m o.ring 0 1048576 W
  have hbl : o.bytes.length * 1 ≤ 140737488355328 := (slice_row h4).2.2.2.1
  generalize decide (1 ≤ o.kind ∧ o.kind ≤ 5) = b1 at hz q1
  generalize rightLB o.label = b2 at hz q2
  generalize kidsOkB o = b3 at hz q3
  generalize mapsOkB o.maps = b4 at hz q4
  generalize foreignB o = b5 at hz q5
  generalize rightO o.own = b6 at hz q6
  generalize decide (0 ≤ o.cats ∧ o.cats ≤ 65536) = b7 at hz q7
  generalize rightLB o.entry = b8 at hz q8
  generalize decide (0 ≤ o.ring ∧ o.ring ≤ 1048576) = b9 at hz q9
  have HZ := Lib.hid hz
  have HQ := Lib.hid (And.intro q1 (And.intro q2 (And.intro q3 (And.intro q4 (And.intro q5 (And.intro q6 (And.intro q7 (And.intro q8 q9))))))))
  clear h1 h2 h3 h4 h5 h7 h9 h0 h6 h8 h' hz q1 q2 q3 q4 q5 q6 q7 q8 q9 E
  go_enter Tryz.func37, Tryz.ntmps37
  go_wp2_with (refine wpList_box_new rfl 39 _ rfl [.int .i64 o.kind, .slice A1 o.label.length c1, .slice A2 o.kids.length c2, .int .i64 o.next, .slice A4 o.bytes.length c4, .slice A5 o.own.length c5, .int .i64 o.cats, .slice A7 o.entry.length c7, .int .i64 o.ring, .slice A9 o.maps.length c9] rfl ?_)
  intro g w2 hg hgb hm
  have hx : ∀ W, Mod (fun _ => False) w W → W.heap[g]? = some (.cells #[.int .i64 o.kind, .slice A1 o.label.length c1, .slice A2 o.kids.length c2, .int .i64 o.next, .slice A4 o.bytes.length c4, .slice A5 o.own.length c5, .int .i64 o.cats, .slice A7 o.entry.length c7, .int .i64 o.ring, .slice A9 o.maps.length c9] 39 (0, 0)) → W.cell? ⟨g, 0, none⟩ = some (.int .i64 o.kind) ∧ W.cell? ⟨g, 1, none⟩ = some (.slice A1 o.label.length c1) ∧ W.cell? ⟨g, 2, none⟩ = some (.slice A2 o.kids.length c2) ∧ W.cell? ⟨g, 3, none⟩ = some (.int .i64 o.next) ∧ W.cell? ⟨g, 4, none⟩ = some (.slice A4 o.bytes.length c4) ∧ W.cell? ⟨g, 5, none⟩ = some (.slice A5 o.own.length c5) ∧ W.cell? ⟨g, 6, none⟩ = some (.int .i64 o.cats) ∧ W.cell? ⟨g, 7, none⟩ = some (.slice A7 o.entry.length c7) ∧ W.cell? ⟨g, 8, none⟩ = some (.int .i64 o.ring) ∧ W.cell? ⟨g, 9, none⟩ = some (.slice A9 o.maps.length c9) := fun W _ hb => by
    refine ⟨?_, ?_, ?_, ?_, ?_, ?_, ?_, ?_, ?_, ?_⟩ <;> (rw [cell_of_blk hb]; rfl)
  have HM := Lib.hid (And.intro (hm fun _ => False) hgb)
  obtain ⟨x0, x1, x2, x3, x4, x5, x6, x7, x8, x9⟩ := hx w2 HM.out.1 HM.out.2
  have HX := Lib.hid hx; clear hm hgb hg hx
  go_wp2_with (first
    | (go_at_call_of 71 ((#[.int .i64 o.kind] : Array Value)); refine (HQ.out.1 _ HM.out.1).mono ?_; rintro _ w1 ⟨rfl, hm1⟩; replace HM := Lib.hid (And.intro (tr0 HM.out.1 hm1) ((hm1.block g (lt_of_blk HM.out.2) id).trans HM.out.2)); clear hm1; obtain ⟨x0, x1, x2, x3, x4, x5, x6, x7, x8, x9⟩ := HX.out w1 HM.out.1 HM.out.2)
    | (go_at_call_of 72 ((#[.slice A1 o.label.length c1] : Array Value)); refine (HQ.out.2.1 _ HM.out.1).mono ?_; rintro _ w1 ⟨rfl, hm1⟩; replace HM := Lib.hid (And.intro (tr0 HM.out.1 hm1) ((hm1.block g (lt_of_blk HM.out.2) id).trans HM.out.2)); clear hm1; obtain ⟨x0, x1, x2, x3, x4, x5, x6, x7, x8, x9⟩ := HX.out w1 HM.out.1 HM.out.2)
    | (go_at_call_of 73 ((#[.agg #[.int .i64 o.kind, .slice A1 o.label.length c1, .slice A2 o.kids.length c2, .int .i64 o.next, .slice A4 o.bytes.length c4, .slice A5 o.own.length c5, .int .i64 o.cats, .slice A7 o.entry.length c7, .int .i64 o.ring, .slice A9 o.maps.length c9]] : Array Value)); refine (HQ.out.2.2.1 _ HM.out.1).mono ?_; rintro _ w1 ⟨rfl, hm1⟩; replace HM := Lib.hid (And.intro (tr0 HM.out.1 hm1) ((hm1.block g (lt_of_blk HM.out.2) id).trans HM.out.2)); clear hm1; obtain ⟨x0, x1, x2, x3, x4, x5, x6, x7, x8, x9⟩ := HX.out w1 HM.out.1 HM.out.2)
    | (go_at_call_of 74 ((#[.slice A9 o.maps.length c9] : Array Value)); refine (HQ.out.2.2.2.1 _ HM.out.1).mono ?_; rintro _ w1 ⟨rfl, hm1⟩; replace HM := Lib.hid (And.intro (tr0 HM.out.1 hm1) ((hm1.block g (lt_of_blk HM.out.2) id).trans HM.out.2)); clear hm1; obtain ⟨x0, x1, x2, x3, x4, x5, x6, x7, x8, x9⟩ := HX.out w1 HM.out.1 HM.out.2)
    | (go_at_call_of 75 ((#[.agg #[.int .i64 o.kind, .slice A1 o.label.length c1, .slice A2 o.kids.length c2, .int .i64 o.next, .slice A4 o.bytes.length c4, .slice A5 o.own.length c5, .int .i64 o.cats, .slice A7 o.entry.length c7, .int .i64 o.ring, .slice A9 o.maps.length c9]] : Array Value)); refine (HQ.out.2.2.2.2.1 _ HM.out.1).mono ?_; rintro _ w1 ⟨rfl, hm1⟩; replace HM := Lib.hid (And.intro (tr0 HM.out.1 hm1) ((hm1.block g (lt_of_blk HM.out.2) id).trans HM.out.2)); clear hm1; obtain ⟨x0, x1, x2, x3, x4, x5, x6, x7, x8, x9⟩ := HX.out w1 HM.out.1 HM.out.2)
    | (go_at_call_of 76 ((#[.slice A5 o.own.length c5] : Array Value)); refine (HQ.out.2.2.2.2.2.1 _ HM.out.1).mono ?_; rintro _ w1 ⟨rfl, hm1⟩; replace HM := Lib.hid (And.intro (tr0 HM.out.1 hm1) ((hm1.block g (lt_of_blk HM.out.2) id).trans HM.out.2)); clear hm1; obtain ⟨x0, x1, x2, x3, x4, x5, x6, x7, x8, x9⟩ := HX.out w1 HM.out.1 HM.out.2)
    | (go_at_call_of 38 ((#[.int .i64 o.cats, .int .i64 0, .int .i64 65536] : Array Value)); refine (HQ.out.2.2.2.2.2.2.1 _ HM.out.1).mono ?_; rintro _ w1 ⟨rfl, hm1⟩; replace HM := Lib.hid (And.intro (tr0 HM.out.1 hm1) ((hm1.block g (lt_of_blk HM.out.2) id).trans HM.out.2)); clear hm1; obtain ⟨x0, x1, x2, x3, x4, x5, x6, x7, x8, x9⟩ := HX.out w1 HM.out.1 HM.out.2)
    | (go_at_call_of 72 ((#[.slice A7 o.entry.length c7] : Array Value)); refine (HQ.out.2.2.2.2.2.2.2.1 _ HM.out.1).mono ?_; rintro _ w1 ⟨rfl, hm1⟩; replace HM := Lib.hid (And.intro (tr0 HM.out.1 hm1) ((hm1.block g (lt_of_blk HM.out.2) id).trans HM.out.2)); clear hm1; obtain ⟨x0, x1, x2, x3, x4, x5, x6, x7, x8, x9⟩ := HX.out w1 HM.out.1 HM.out.2)
    | (go_at_call_of 38 ((#[.int .i64 o.ring, .int .i64 0, .int .i64 1048576] : Array Value)); refine (HQ.out.2.2.2.2.2.2.2.2 _ HM.out.1).mono ?_; rintro _ w1 ⟨rfl, hm1⟩; replace HM := Lib.hid (And.intro (tr0 HM.out.1 hm1) ((hm1.block g (lt_of_blk HM.out.2) id).trans HM.out.2)); clear hm1; obtain ⟨x0, x1, x2, x3, x4, x5, x6, x7, x8, x9⟩ := HX.out w1 HM.out.1 HM.out.2))
  all_goals go_ret
  all_goals refine ⟨?_, HM.out.1⟩
  all_goals (rw [HZ.out]; first | (simp_all; done) | (simp_all; omega))
end Go.Proofs.YtefedalnafjcfaaGreatDoor

namespace Go.Proofs.YtefedalnafjcfaaGreatDoor
open Go.RowKit Go.Shelf
set_option linter.unusedVariables false
theorem cloneI_cf (args : Array Value) (w : World) : (callFunc 64 args).run Tryz.prog w = .ok (.enter 64 args) w := callFunc_go Tryz.func64 (by kernel_rfl) (by kernel_rfl) args w
/-- a list's head, cut from it -/
theorem ints_cut {w : World} {ok : Nat → Prop} {A : Option Addr} {n c : Nat} {l : List Int} (h : intsR.rel w ok [.slice A n c] l) (k : Nat) (hk : k ≤ l.length) : intsR.rel w ok [.slice A k c] (l.take k) := by
  obtain ⟨rfl, h1, h2, h3, h4, h5⟩ := ints_row h
  have hl : (l.take k).length = k := by simp; omega
  refine ⟨A, c, by rw [hl], by omega, h2, by rw [hl]; omega, h4, ?_⟩
  rcases h5 with h5 | ⟨ad, rfl, hok, h5⟩
  · left; rw [h5]; simp
  · refine .inr ⟨ad, rfl, hok, fun j x hj => h5 j x ?_⟩
    rw [List.getElem?_take] at hj
    split at hj
    · exact hj
    · cases hj
set_option maxRecDepth 100000 in
set_option maxHeartbeats 1000000 in
theorem parent_nil (A : Option Addr) (c : Nat) (w : World) :
    Calls Tryz.prog 32 #[.slice A 0 c] w fun r w' => r = .returned (.tuple #[.slice none 0 0, .int .i64 0, .bool false]) ∧ w = w' := by
  go_enter Tryz.func32, Tryz.ntmps32
  go_wp2_with fail
  go_ret3
  exact ⟨rfl, rfl⟩
set_option maxRecDepth 100000 in
set_option maxHeartbeats 1000000 in
theorem parent_snoc (A : Option Addr) (c : Nat) (q : List Int) (n : Int) (ok : Nat → Prop) (w : World) (h : intsR.rel w ok [.slice A (q.length + 1) c] (q ++ [n])) (hl : q.length ≤ 1000000) :
    Calls Tryz.prog 32 #[.slice A (q.length + 1) c] w fun r w' => ∃ A' c', r = .returned (.tuple #[.slice A' q.length c', .int .i64 n, .bool true]) ∧ OwnI w' w.heap.size (fun _ => False) (.slice A' q.length c') q ∧ Mod (fun _ => False) w w' := by
  have hcut := ints_cut h q.length (by simp)
  rw [List.take_left] at hcut
  have hclone := fun W (hW : Mod (fun _ => False) w W) => cloneI_any A q.length c q (fun k => ok k ∧ k < w.heap.size) W (Rd.mod (Rd.bound hcut) hW (fun _ _ => id)) (by omega)
  obtain ⟨-, hcap, hcm, -, hnil, hrow⟩ := ints_row (Rd.bound h)
  rw [List.length_append, List.length_singleton] at hcap
  obtain ⟨ad, rfl, hokb, hcell, -⟩ := RowOf.ints hrow (j := q.length) (x := n) (by simp)
  have e1 : ((q.length + 1 : Nat) : Int) - 1 = q.length := by omega
  have hbl : (ad.add q.length).block < w.drew.heap.size := by rw [add_block]; exact hokb.2
  have HC := Lib.hid (And.intro hclone hcell); clear hclone hcell hcut hrow h hnil hokb
  go_enter Tryz.func32, Tryz.ntmps32
  go_wp2_with fail
  have hmd : Mod (fun _ => False) w w.drew := (Mod.refl _ w).drew
  have hd : w.drew.cell? (ad.add q.length) = some (.int .i64 n) := HC.out.2
  have HD := Lib.hid (And.intro hmd hd); clear hmd
  have hqc : q.length ≤ c := by omega
  have hql : (q.length : Int) < (q.length : Int) + 1 := by omega
  go_region_law (first
    | (refine step_call rfl 64 _ _ (by rfl) (.slice (some ad) q.length c) (by rfl) (cloneI_cf _ _) (HC.out.1 w.drew HD.out.1) ?_; rintro _ w2 ⟨A', c', rfl, hO, hm2⟩; refine ⟨_, rfl, ?_⟩; have hd' := (hm2.cell (a := ad.add q.length) hbl id).trans HD.out.2; have H2 := Lib.hid (And.intro hO hm2); clear hO hm2))
  all_goals
    go_wp2_with fail
    go_ret3
    exact ⟨_, _, rfl, H2.out.1, HD.out.1.trans H2.out.2 (fun _ h => h.elim)⟩
end Go.Proofs.YtefedalnafjcfaaGreatDoor

namespace Go.Proofs.YtefedalnafjcfaaGreatDoor
open Go.RowKit Go.Shelf
set_option linter.unusedVariables false
def childP (p : List Int) (k : Int) : List Int := if rightP (p ++ [k]) then p ++ [k] else []
theorem int_rel {w : World} {ok : Nat → Prop} {k : Int} (h : Rd.inR .i64 k) : (Rd.int .i64).rel w ok [.int .i64 k] k := ⟨rfl, h⟩
set_option maxRecDepth 100000 in
set_option maxHeartbeats 1000000 in
theorem child_p (A : Option Addr) (n c : Nat) (p : List Int) (k : Int) (ok : Nat → Prop) (w : World) (h : intsR.rel w ok [.slice A n c] p) (hk : Rd.inR .i64 k) (hl : p.length ≤ 1000000) :
    Calls Tryz.prog 40 #[.slice A n c, .int .i64 k] w fun r w' => ∃ A' c', r = .returned (.tuple #[.slice A' (childP p k).length c', .bool (rightP (p ++ [k]))]) ∧ OwnI w' w.heap.size (fun _ => False) (.slice A' (childP p k).length c') (childP p k) ∧ Mod (fun _ => False) w w' := by
  have hclone := cloneI_any A n c p ok w h (by omega)
  obtain ⟨z, hz⟩ : ∃ z, z = childP p k := ⟨_, rfl⟩
  obtain ⟨b, hb⟩ : ∃ b, b = rightP (p ++ [k]) := ⟨_, rfl⟩
  rw [← hz, ← hb]
  unfold childP at hz
  rw [← hb] at hz
  have HC := Lib.hid (And.intro hclone (And.intro hz (And.intro hb hk))); clear hclone hz hb hk h
  go_enter Tryz.func40, Tryz.ntmps40
  go_wp2_with fail
  refine HC.out.1.mono ?_
  rintro r w1 ⟨A1, c1, rfl, hO, hm⟩
  have hc1 : p.length ≤ c1 := by
    obtain ⟨cells, h, _⟩ := hO
    rcases h.2 with ⟨h, h0⟩ | ⟨g, cap, cur, hv, _, _, hle, _⟩
    · rw [Value.slice.injEq] at h; omega
    · rw [Value.slice.injEq] at hv; omega
  have H1 := Lib.hid (And.intro hO hm); clear hO hm
  go_wp2_with fail
  refine (clipI_any A1 p.length c1 w1 hc1).mono ?_
  rintro r w2 ⟨rfl, rfl⟩
  have fin : ∀ (A3 : Option Addr) (c3 : Nat) (w3 : World), OwnI w3 w.heap.size (fun _ => False) (.slice A3 (p.length + 1) c3) (p ++ [k]) → Mod (fun _ => False) w w3 →
      Calls Tryz.prog 60 #[.slice A3 (p.length + 1) c3] w3 fun r w' => r = .returned (.bool b) ∧ w3 = w' := by
    intro A3 c3 w3 h3 hm3
    have hrd := h3.reads (bytes := 8) (by simp; omega)
    rw [HC.out.2.2.1]
    exact right_p A3 (p.length + 1) c3 (p ++ [k]) _ w3 hrd
  have HF := Lib.hid fin; clear fin
  cases A1 with
  | none =>
    have hnil : p = [] := by
      obtain ⟨cells, h, _⟩ := H1.out.1
      rcases h.2 with ⟨h, h0⟩ | ⟨g, cap, cur, hv, _⟩
      · exact List.eq_nil_of_length_eq_zero h0
      · cases hv
    subst hnil
    go_wp2_with (at_builtin; refine append_rd (R := Rd.int .i64) w.heap.size rfl _ _ 30 3 (.int .i64 0) 8 rfl Tryz.underlying30 Tryz.infoI rfl (by decide) (.slice none 0 0) [] k [.int .i64 k] (fun _ => False) rfl rfl (OwnR.nil _ _ _ _ _) (int_rel HC.out.2.2.2) H1.out.2.size (by simp) ?_)
    intro A3 c3 w3 hO3 hm3 _
    have hm3 : Mod (fun _ => False) w2 w3 := hm3.mono fun k hk => by cases hk
    have H3 := Lib.hid (And.intro (show OwnI w3 w.heap.size (fun _ => False) (.slice A3 (([] : List Int).length + 1) c3) ([] ++ [k]) from hO3) (tr0 H1.out.2 hm3)); clear hO3 hm3
    go_wp2_with fail
    refine (HF.out A3 c3 w3 H3.out.1 H3.out.2).mono ?_
    rintro r w4 ⟨rfl, rfl⟩
    cases b with
    | true =>
      have hz : z = [] ++ [k] := HC.out.2.1
      subst hz
      go_wp2_with fail
      go_ret2
      exact ⟨_, _, rfl, H3.out.1, H3.out.2⟩
    | false =>
      have hz : z = [] := HC.out.2.1
      subst hz
      go_wp2_with fail
      go_ret2
      exact ⟨none, 0, rfl, OwnR.nil _ _ _ _ _, H3.out.2⟩
  | some ad =>
    go_wp2_with (at_builtin; refine append_clip (R := Rd.int .i64) rfl _ _ 30 3 (.int .i64 0) 8 rfl Tryz.underlying30 Tryz.infoI rfl (by decide) ad c1 _ p k [.int .i64 k] _ rfl rfl H1.out.1 (int_rel HC.out.2.2.2) (by omega) ?_)
    intro A3 c3 w3 hO3 hm3
    have hO3' : OwnI w3 w.heap.size (fun _ => False) (.slice A3 (p.length + 1) c3) (p ++ [k]) := by
      obtain ⟨cells, hown, hr⟩ := hO3
      exact ⟨cells, own_base_le hown H1.out.2.size, hr⟩
    have H3 := Lib.hid (And.intro hO3' (tr0 H1.out.2 hm3)); clear hO3 hm3 hO3'
    go_wp2_with fail
    refine (HF.out A3 c3 w3 H3.out.1 H3.out.2).mono ?_
    rintro r w4 ⟨rfl, rfl⟩
    cases b with
    | true =>
      have hz : z = p ++ [k] := HC.out.2.1
      have hzl : z.length = p.length + 1 := by rw [hz]; simp
      go_wp2_with fail
      go_ret2
      rw [hzl, hz]
      exact ⟨_, _, rfl, H3.out.1, H3.out.2⟩
    | false =>
      have hz : z = [] := HC.out.2.1
      subst hz
      go_wp2_with fail
      go_ret2
      exact ⟨none, 0, rfl, OwnR.nil _ _ _ _ _, H3.out.2⟩
end Go.Proofs.YtefedalnafjcfaaGreatDoor

namespace Go.Proofs.YtefedalnafjcfaaGreatDoor
open Go.RowKit Go.Shelf
set_option linter.unusedVariables false
set_option maxRecDepth 100000 in
set_option maxHeartbeats 1000000 in
theorem equalI_any (A : Option Addr) (n c : Nat) (A2 : Option Addr) (n2 c2 : Nat) (a b : List Int) (ok ok2 : Nat → Prop) (w : World) (h : intsR.rel w ok [.slice A n c] a) (h2 : intsR.rel w ok2 [.slice A2 n2 c2] b) :
    Calls Tryz.prog 63 #[.slice A n c, .slice A2 n2 c2] w fun r w' => r = .returned (.bool (decide (a = b))) ∧ Mod (fun _ => False) w w' := by
  obtain ⟨rfl, hcap, hcm, -, -, hrow⟩ := ints_row h
  have hbig : a.length ≤ maxLen := by omega
  unfold maxLen at hbig
  obtain ⟨rfl, hcap2, hcm2, -, -, hrow2⟩ := ints_row h2
  have hbig2 : b.length ≤ maxLen := by omega
  unfold maxLen at hbig2
  obtain ⟨z, hz⟩ : ∃ z, z = decide (a = b) := ⟨_, rfl⟩
  rw [← hz]
  have H0 := Lib.hid (And.intro hrow (And.intro hrow2 hz)); clear h h2 hrow hrow2 hz
  by_cases hle : a.length = b.length
  case neg =>
    have hzf : z = false := by rw [H0.out.2.2]; exact decide_eq_false fun e => hle (by rw [e])
    subst hzf
    have e1 : ((a.length : Int) != (b.length : Int)) = true := by simp; omega
    go_enter Tryz.func63, Tryz.ntmps63
    go_wp2_with fail
    go_ret
    exact ⟨rfl, Mod.refl _ _⟩
  case pos =>
    have e1 : ((a.length : Int) != (b.length : Int)) = false := by simp; omega
    have HL := Lib.hid hle; clear hle
    go_enter Tryz.func63, Tryz.ntmps63
    go_wp2_with fail
    go_loopg [13] a.length (fun f si wr => ∃ i : Nat, si = .int .i64 i ∧ i + f = a.length ∧ a.take i = b.take i ∧ Mod (fun _ => False) w wr)
    case atStart => exact ⟨0, rfl, by omega, by simp, .refl _ _⟩
    case round =>
      obtain ⟨i, rfl, hi, hsm, hmod⟩ := hrel
      by_cases hlt : i < a.length
      · have hlt2 : i < b.length := by rw [← HL.out]; exact hlt
        obtain ⟨x, hx⟩ : ∃ x, a[i]? = some x := ⟨_, List.getElem?_eq_getElem hlt⟩
        obtain ⟨y, hy⟩ : ∃ y, b[i]? = some y := ⟨_, List.getElem?_eq_getElem hlt2⟩
        obtain ⟨ad, rfl, -, hc, -⟩ := RowOf.ints (H0.out.1.step (w1 := wr) (ok1 := ok) (fun k hk hl => ⟨hk, hmod.block k hl id⟩)) hx
        obtain ⟨ad2, rfl, -, hd, -⟩ := RowOf.ints (H0.out.2.1.step (w1 := wr) (ok1 := ok2) (fun k hk hl => ⟨hk, hmod.block k hl id⟩)) hy
        by_cases hxy : x = y
        · subst hxy
          have hsm' : a.take (i + 1) = b.take (i + 1) := by rw [List.take_add_one, List.take_add_one, hx, hy, hsm]
          have HX := Lib.hid (And.intro hi (And.intro hsm' hmod)); clear hi hsm hsm' hmod hx hy
          go_wp2_with fail
          go_quiet (fail)
          go_wp2_with fail
          go_roundg (gk - 1)
          case measure => have := HX.out.1; omega
          case rel => exact ⟨i + 1, by go_num, by have := HX.out.1; omega, HX.out.2.1, HX.out.2.2.drewN _⟩
        · have hzf : z = false := by
            rw [H0.out.2.2]
            refine decide_eq_false fun e => hxy ?_
            rw [e, hy] at hx
            exact (Option.some.inj hx).symm
          have e2 : (x == y) = false := by simpa using hxy
          have HX := Lib.hid hmod; clear hi hsm hmod hx hy hxy
          subst hzf
          go_wp2_with fail
          go_quiet (fail)
          go_wp2_with fail
          go_ret
          exact ⟨rfl, HX.out.drewN _⟩
      · have hzt : z = true := by
          rw [H0.out.2.2]
          refine decide_eq_true ?_
          rw [List.take_of_length_le (by omega), List.take_of_length_le (by have := HL.out; omega)] at hsm
          exact hsm
        have HX := Lib.hid hmod; clear hi hsm hmod
        subst hzt
        go_wp2_with fail
        go_ret
        exact ⟨rfl, HX.out⟩
def belowP (p top : List Int) : Bool := decide (top.length < p.length) && decide (p.take top.length = top)
set_option maxRecDepth 100000 in
set_option maxHeartbeats 1000000 in
theorem below_p (A : Option Addr) (n c : Nat) (A2 : Option Addr) (n2 c2 : Nat) (a b : List Int) (ok ok2 : Nat → Prop) (w : World) (h : intsR.rel w ok [.slice A n c] a) (h2 : intsR.rel w ok2 [.slice A2 n2 c2] b) :
    Calls Tryz.prog 31 #[.slice A n c, .slice A2 n2 c2] w fun r w' => r = .returned (.bool (belowP a b)) ∧ Mod (fun _ => False) w w' := by
  unfold belowP
  by_cases hlt : b.length < a.length
  · have hcut := ints_cut h b.length (by omega)
    obtain ⟨rfl, hcap, hcm, -⟩ := ints_row h
    obtain ⟨rfl, hcap2, hcm2, -⟩ := ints_row h2
    have hE := Lib.hid (equalI_any A b.length c A2 b.length c2 (a.take b.length) b ok ok2 w hcut h2)
    rw [show decide (b.length < a.length) = true by simpa using hlt, Bool.true_and]
    generalize decide (List.take b.length a = b) = z at hE ⊢
    have d1 : decide ((a.length : Int) > (b.length : Int)) = true := by simp; omega
    have hbc : b.length ≤ c := by omega
    clear h h2 hcut
    go_enter Tryz.func31, Tryz.ntmps31
    go_wp2_with fail
    refine hE.out.mono ?_
    rintro r w1 ⟨rfl, hm⟩
    have HM := Lib.hid hm; clear hm
    go_wp2_with fail
    go_ret
    exact ⟨rfl, HM.out⟩
  · obtain ⟨rfl, hcap, hcm, -⟩ := ints_row h
    obtain ⟨rfl, hcap2, hcm2, -⟩ := ints_row h2
    rw [show decide (b.length < a.length) = false by simpa using hlt, Bool.false_and]
    have d1 : decide ((a.length : Int) > (b.length : Int)) = false := by simp; omega
    clear h h2
    go_enter Tryz.func31, Tryz.ntmps31
    go_wp2_with fail
    go_ret
    exact ⟨rfl, .refl _ _⟩
end Go.Proofs.YtefedalnafjcfaaGreatDoor

namespace Go.Proofs.YtefedalnafjcfaaGreatDoor
open Go.RowKit Go.Shelf
set_option linter.unusedVariables false
theorem flatN_len : ∀ l : List Int, (l.flatMap encN).length ≤ 10 * l.length
  | [] => by simp
  | n :: l => by
    have h1 := encN_len n
    have h2 := flatN_len l
    rw [List.flatMap_cons, List.length_append, List.length_cons]; omega
end Go.Proofs.YtefedalnafjcfaaGreatDoor

namespace Go.Proofs.YtefedalnafjcfaaGreatDoor
open Go.RowKit Go.Shelf
set_option linter.unusedVariables false
set_option maxRecDepth 100000 in
set_option maxHeartbeats 2000000 in
theorem getP_any (g : Nat) (ok : Nat → Prop) (s : TSt) (w : World) (h : TapeS w ok g s) :
    Calls Tryz.prog 22 #[.pointer (some ⟨g, 0, none⟩)] w fun r w' => ∃ A c, r = .returned (.tuple #[.slice A (getP s).1.length c, .int .i64 (getP s).2.1]) ∧ OwnI w' w.heap.size (fun _ => False) (.slice A (getP s).1.length c) (getP s).1 ∧ TapeS w' ok g (getP s).2.2 ∧ Mod (fun k => k = g) w w' := by
  obtain ⟨z, hz⟩ : ∃ z, z = getP s := ⟨_, rfl⟩
  rw [← hz]
  unfold getP at hz
  dsimp only at hz
  have hgw := h.lt
  have hbd : ∀ W, TapeS W (fun k => ok k ∧ k < w.heap.size) g z.2.2 → TapeS W ok g z.2.2 := fun W hW => hW.mono fun k hk => hk.1
  have h := h.bound
  obtain ⟨ok1, hok1⟩ : ∃ ok1, ok1 = fun k => ok k ∧ k < w.heap.size := ⟨_, rfl⟩
  have hok2 : ∀ k, ok1 k → k < w.heap.size := fun k hk => by rw [hok1] at hk; exact hk.2
  rw [← hok1] at h hbd
  have hn := tnumS_any g ok1 s 6 w h
  have hr := numS_range s (most := 6) (by decide)
  obtain ⟨s1, hs1⟩ : ∃ s1, s1 = (numS 6 s).2 := ⟨_, rfl⟩
  obtain ⟨K, hK⟩ : ∃ K : Nat, K = (numS 6 s).1.toNat := ⟨_, rfl⟩
  have hK' : (numS 6 s).1 = K := by omega
  rw [← hs1, hK'] at hn
  rw [← hs1, ← hK] at hz
  have hK8 : K ≤ 6 := by omega
  have H0 := Lib.hid (And.intro hn (And.intro hz (And.intro hgw (And.intro hbd hok2)))); clear h hn hz hr hs1 hK hK' hgw hbd hok1 hok2
  go_enter Tryz.func22, Tryz.ntmps22
  go_wp2_with fail
  refine H0.out.1.mono ?_
  rintro r w1 ⟨rfl, ht1, hm1⟩
  have H1 := Lib.hid (And.intro ht1 hm1); clear ht1 hm1
  go_wp2_with fail
  go_loopg [4, 7] K (fun f so si wr => ∃ (i : Nat) (A : Option Addr) (c : Nat) (lst : List Int) (s2 : TSt), si = .int .i64 i ∧ so = .slice A i c ∧ i + f = K ∧ lst.length = i ∧ getIs 1048576 K s1 = (lst ++ (getIs 1048576 f s2).1, (getIs 1048576 f s2).2) ∧ OwnI wr w.heap.size (fun _ => False) (.slice A i c) lst ∧ TapeS wr ok1 g s2 ∧ Mod (fun k => k = g) w wr)
  case atStart => exact ⟨0, none, 0, [], s1, rfl, rfl, by omega, rfl, by simp, OwnR.nil _ _ _ _ _, H1.out.1, H1.out.2⟩
  case round =>
    obtain ⟨i, A, c, lst, s2, rfl, rfl, hi, hll, hget, hO, hT, hmod⟩ := hrel
    by_cases hlt : i < K
    · obtain ⟨f, rfl⟩ : ∃ f, gk = f + 1 := ⟨gk - 1, by omega⟩
      obtain ⟨d, hd⟩ : ∃ d, d = (numS 1048576 s2).1 := ⟨_, rfl⟩
      obtain ⟨s3, hs3⟩ : ∃ s3, s3 = (numS 1048576 s2).2 := ⟨_, rfl⟩
      have hdr : Rd.inR .i64 d := inR_mk (by have := numS_range s2 (most := 1048576) (by decide); rw [← hd] at this; omega)
      have hget' : getIs 1048576 K s1 = ((lst ++ [d]) ++ (getIs 1048576 f s3).1, (getIs 1048576 f s3).2) := by rw [hget, getIs, ← hs3, ← hd]; simp
      have htx := tnumS_any g ok1 s2 1048576 wr hT
      rw [← hd, ← hs3] at htx
      have HX := Lib.hid (And.intro hi (And.intro hll (And.intro hget' (And.intro hO (And.intro htx (And.intro hdr hmod))))))
      clear hi hll hget hget' hO htx hdr hmod hT hd hs3
      go_wp2_with fail
      refine HX.out.2.2.2.2.1.mono ?_
      rintro r w2 ⟨rfl, ht2, hm2⟩
      have hm02 := HX.out.2.2.2.2.2.2.trans hm2 (fun _ h => .inl h)
      have hO2 : OwnI w2 w.heap.size (fun _ => False) (.slice A i c) lst := HX.out.2.2.2.1.mod hm2 (fun k hk e => by have h1 := (own_lt HX.out.2.2.2.1.choose_spec.1 k hk).1; have h2 := H0.out.2.2.1; omega) (fun k hk => hk.elim)
      have hsz := hm02.size
      have hll := HX.out.2.1
      subst hll
      have H3 := Lib.hid (And.intro hO2 (And.intro ht2 (And.intro hm02 hsz))); clear ht2 hm2 hm02 hO2 hsz
      go_wp2_with (at_builtin; refine append_rd (R := Rd.int .i64) w.heap.size rfl _ _ 30 3 (.int .i64 0) 8 rfl Tryz.underlying30 Tryz.infoI rfl (by decide) (.slice A lst.length c) lst d [.int .i64 d] (fun _ => False) rfl rfl H3.out.1 (int_rel HX.out.2.2.2.2.2.1) H3.out.2.2.2 (by omega) ?_)
      intro A8 c8 w8 hO8 hm8 hn8
      have hne : ∀ k, (Value.slice A lst.length c).ownBlock = some k → w.heap.size ≤ k := fun k hk => (own_lt H3.out.1.choose_spec.1 k hk).1
      have hap : ∀ k, ok1 k → ¬ (Value.slice A lst.length c).ownBlock = some k := fun k hk e => by have h1 := hne k e; have h2 := H0.out.2.2.2.2 k hk; omega
      have hm08 := H3.out.2.2.1.trans hm8 (fun k hk => .inr (hne k hk))
      have H8 := Lib.hid (And.intro hO8 (And.intro (H3.out.2.1.mod hm8 (fun hk => by have := hne _ hk; have := H0.out.2.2.1; omega) hap) hm08)); clear hO8 hm8 hn8 hm08 hne hap
      go_wp2_with fail
      go_roundg f
      case measure => omega
      case rel => exact ⟨lst.length + 1, A8, c8, lst ++ [d], s3, by go_num, rfl, by have := HX.out.1; omega, by simp, HX.out.2.2.1, H8.out.1, H8.out.2.1, H8.out.2.2⟩
    · obtain rfl : gk = 0 := by omega
      obtain rfl : i = K := by omega
      have hget' : getIs 1048576 i s1 = (lst, s2) := by rw [hget]; simp [getIs]
      have hzz := H0.out.2.1
      rw [hget'] at hzz
      have her := terrS_any g ok1 s2 wr hT
      have HX := Lib.hid (And.intro hO (And.intro hT (And.intro hmod (And.intro hzz (And.intro her hll)))))
      clear hi hll hget hget' hO hT hmod hzz her
      by_cases hs : s2.2 = 0
      · go_wp2_with fail
        refine HX.out.2.2.2.2.1.mono ?_
        rintro r w2 ⟨e, rfl, he, -, rfl⟩
        obtain rfl := he hs
        have hz' : z = (lst, 0, s2) := by rw [HX.out.2.2.2.1, if_neg (by simp [hs])]
        clear hs he
        subst hz'
        go_wp2_with fail
        go_ret2
        have hll := HX.out.2.2.2.2.2
        subst hll
        exact ⟨A, c, rfl, HX.out.1, H0.out.2.2.2.1 _ HX.out.2.1, HX.out.2.2.1⟩
      · have hz' : z = ([], 10, s2) := by rw [HX.out.2.2.2.1, if_pos hs]
        go_wp2_with fail
        refine HX.out.2.2.2.2.1.mono ?_
        rintro r w2 ⟨e, rfl, -, he, rfl⟩
        obtain ⟨T, p, rfl⟩ := he hs
        clear hs he
        subst hz'
        go_wp2_with fail
        go_ret2
        exact ⟨none, 0, rfl, OwnR.nil _ _ _ _ _, H0.out.2.2.2.1 _ HX.out.2.1, HX.out.2.2.1⟩
end Go.Proofs.YtefedalnafjcfaaGreatDoor

