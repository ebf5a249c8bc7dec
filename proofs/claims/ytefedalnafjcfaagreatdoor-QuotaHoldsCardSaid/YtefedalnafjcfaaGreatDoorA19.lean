/- Part of this claim's proof (texts Tab11, RangeA, Tab12, Tab13, joined by program). -/
import Derived.Test.YtefedalnafjcfaaGreatDoorA09
import Derived.Test.YtefedalnafjcfaaGreatDoorA18
import Derived.Test.YtefedalnafjcfaaGreatDoorA01
import Derived.Test.YtefedalnafjcfaaGreatDoorA05
namespace Go.Proofs.YtefedalnafjcfaaGreatDoor
open Go.RowKit Go.Shelf
set_option linter.unusedVariables false
theorem parent_all (A : Option Addr) (m c : Nat) (p : List Int) (ok : Nat → Prop) (w : World) (h : intsR.rel w ok [.slice A m c] p) (hl : p.length ≤ 1000000) :
    Calls Tryz.prog 32 #[.slice A m c] w fun r w' => ∃ A' c' x, r = .returned (.tuple #[.slice A' p.dropLast.length c', .int .i64 x, .bool (decide (p ≠ []))]) ∧ OwnI w' w.heap.size (fun _ => False) (.slice A' p.dropLast.length c') p.dropLast ∧ (p ≠ [] → x = lastP p) ∧ Mod (fun _ => False) w w' := by
  obtain ⟨rfl, -⟩ := ints_row h
  by_cases hp : p = []
  · subst hp
    refine (parent_nil A c w).mono ?_
    rintro e w' ⟨rfl, rfl⟩
    exact ⟨none, 0, 0, rfl, OwnR.nil _ _ _ _ _, fun h => absurd rfl h, Mod.refl _ _⟩
  · obtain ⟨q, n, rfl⟩ : ∃ q n, p = q ++ [n] := ⟨_, _, snoc_of hp⟩
    have hlen : (q ++ [n]).length = q.length + 1 := by simp
    rw [hlen] at h ⊢
    refine (parent_snoc A c q n ok w h (by omega)).mono ?_
    rintro e w' ⟨A', c', rfl, hO, hm⟩
    have hd : (q ++ [n]).dropLast = q := by simp
    rw [hd, lastP_snoc]
    exact ⟨A', c', n, by simp, hO, fun _ => rfl, hm⟩
theorem labT_get (L : Tab) (p : List Int) : ((getT L p).getD zeroOb).label = labT L p := by
  unfold labT
  cases getT L p <;> rfl
theorem childP_right {p : List Int} {k : Int} (h : rightP (p ++ [k]) = true) : childP p k = p ++ [k] := by unfold childP; rw [if_pos h]
set_option maxRecDepth 100000 in
set_option maxHeartbeats 4000000 in
theorem fitsTab_any (S : Nat → Prop) (g mb : Nat) (L : Tab) (A : Option Addr) (m c : Nat) (p : List Int) (ok ok2 : Nat → Prop) (cs : List Value) (o : Ob) (w : World) (hT : TabAt w S g mb L) (h : intsR.rel w ok [.slice A m c] p) (ho : ObR.rel w ok2 cs o) (hk : ∀ k ∈ o.kids, rightP (p ++ [k.n]) = true) (hp : p.length ≤ 1000000) (E : Env w) :
    Calls Tryz.prog 56 #[.pointer (some ⟨g, 0, none⟩), .slice A m c, .agg cs.toArray] w fun e w' => e = .returned (.bool (fitsT L p o)) ∧ Mod (fun _ => False) w w' := by
  obtain ⟨A1, c1, A2, c2, A4, c4, A5, c5, A7, c7, A9, c9, rfl, h0, h1, h2, h3, h4, h5, h6, h7, h8, h9⟩ := ObR_cells (Rd.bound ho)
  clear ho
  have hlen : o.kids.length * 24 ≤ 140737488355328 := (slice_row h2).2.2.2.1
  obtain ⟨z, hz⟩ : ∃ z, z = fitsT L p o := ⟨_, rfl⟩
  rw [← hz]
  unfold fitsT at hz
  have hpar := fun W (hW : Mod (fun _ => False) w W) => parent_all A m c p _ W (Rd.mod (Rd.bound h) hW (fun _ _ => id)) hp
  have hgt := fun W (hW : Mod (fun _ => False) w W) (A' : Option Addr) (m' c' : Nat) (q : List Int) (ok' : Nat → Prop) (hr : intsR.rel W ok' [.slice A' m' c'] q) (hq : q.length ≤ 1100000) => getTab_any _ g mb L A' m' c' q ok' W (hT.bound.move hW (fun _ _ => id) id id) hr hq (E.mod0 hW)
  have hch := fun W (hW : Mod (fun _ => False) w W) (k : Int) (hkr : Rd.inR .i64 k) => child_p A m c p k _ W (Rd.mod (Rd.bound h) hW (fun _ _ => id)) hkr hp
  have hrow := (slice_row h2).2.2.2.2.2
  obtain ⟨qd, hqd⟩ : ∃ q, q = p.dropLast := ⟨_, rfl⟩
  have hql : qd.length ≤ 1000000 := by rw [hqd, List.length_dropLast]; omega
  rw [← hqd] at hz
  simp only [← hqd] at hpar
  have HX := Lib.hid (And.intro hz (And.intro hpar (And.intro hgt (And.intro hch (And.intro h1 (And.intro hrow (And.intro hk E)))))))
  clear hqd hz hpar hgt hch h1 h2 h3 h4 h5 h7 h9 hrow hk h0 h6 h8 hT h E
  go_enter Tryz.func56, Tryz.ntmps56
  go_wp2_with (refine wpList_box_new rfl 39 _ rfl [.int .i64 o.kind, .slice A1 o.label.length c1, .slice A2 o.kids.length c2, .int .i64 o.next, .slice A4 o.bytes.length c4, .slice A5 o.own.length c5, .int .i64 o.cats, .slice A7 o.entry.length c7, .int .i64 o.ring, .slice A9 o.maps.length c9] rfl ?_)
  intro gb w2 hgb hb hm
  have x1 : w2.cell? ⟨gb, 1, none⟩ = some (.slice A1 o.label.length c1) := by rw [cell_of_blk hb]; rfl
  have HM := Lib.hid (And.intro (hm fun _ => False) (And.intro hb hgb)); clear hm hb hgb
  obtain ⟨bp, hbp⟩ : ∃ b, b = decide (p ≠ []) := ⟨_, rfl⟩
  have hpar2 := HX.out.2.1 w2 HM.out.1
  rw [← hbp] at hpar2
  have HP := Lib.hid (And.intro hpar2 hbp); clear hpar2 hbp
  go_upto_if 24 with (go_at_call 32; refine HP.out.1.mono ?_; rintro e w3 ⟨A', c', xx, rfl, hO, hxx, hm3⟩; have H3 := Lib.hid (And.intro hO (And.intro hxx hm3)); clear hO hxx hm3)
  have hb3 := (H3.out.2.2.block gb (lt_of_blk HM.out.2.1) id).trans HM.out.2.1
  have y1 : w3.cell? ⟨gb, 1, none⟩ = some (.slice A1 o.label.length c1) := by rw [cell_of_blk hb3]; rfl
  have HB := Lib.hid (And.intro (tr0 HM.out.1 H3.out.2.2) hb3); clear hb3 x1
  go_cut [] (fun wx => Hid (Mod (fun _ => False) w wx ∧ wx.heap[gb]? = some (.cells #[.int .i64 o.kind, .slice A1 o.label.length c1, .slice A2 o.kids.length c2, .int .i64 o.next, .slice A4 o.bytes.length c4, .slice A5 o.own.length c5, .int .i64 o.cats, .slice A7 o.entry.length c7, .int .i64 o.ring, .slice A9 o.maps.length c9] 39 (0, 0)) ∧ (p ≠ [] → flowsLB (labT L qd) o.label = true)))
  case first =>
    cases bp with
    | false =>
      have hpe : p = [] := by have := HP.out.2; simpa using this.symm
      go_wp2_with fail
      go_meet
      exact Lib.hid ⟨HB.out.1, HB.out.2, fun h => absurd hpe h⟩
    | true =>
      have hpe : p ≠ [] := by have := HP.out.2; simpa using this.symm
      have HE := Lib.hid hpe; clear hpe
      go_wp2_with fail
      have hrd := H3.out.1.reads (bytes := 8) (by omega)
      have hg3 := HX.out.2.2.1 w3 HB.out.1 A' qd.length c' qd _ hrd (by omega)
      clear hrd
      refine hg3.mono ?_
      clear hg3
      rintro e w4 ⟨o2, A1', c1', A2', c2', A4', c4', A5', c5', A7', c7', A9', c9', ho2, rfl, hcp⟩
      have hlab : o2.label = labT L qd := by rw [ho2, labT_get]
      have HC := Lib.hid (And.intro hcp hlab); clear hcp ho2 hlab
      go_wp2_with (refine wpList_box2 rfl rfl 39 _ _ rfl rfl [.int .i64 0, .slice none 0 0, .slice none 0 0, .int .i64 0, .slice none 0 0, .slice none 0 0, .int .i64 0, .slice none 0 0, .int .i64 0, .slice none 0 0] Tryz.infoOb3 rfl _ rfl (obC_one _ _ _ _ _ _ _ _ _ _ _ _ _) (fun _ => rfl) (fun _ => rfl) ?_)
      intro g5 w5 hg5 hb5 hm5
      have u1 : w5.cell? ⟨g5, 1, none⟩ = some (.slice A1' o2.label.length c1') := by rw [cell_of_blk hb5]; rfl
      have hm05 := tr0 HB.out.1 (tr0 HC.out.1.mod (hm5 fun _ => False))
      have hbb := ((tr0 HC.out.1.mod (hm5 fun _ => False)).block gb (lt_of_blk HB.out.2) id).trans HB.out.2
      have v1 : w5.cell? ⟨gb, 1, none⟩ = some (.slice A1 o.label.length c1) := by rw [cell_of_blk hbb]; rfl
      have hfl := flows_any A1' _ c1' A1 _ c1 o2.label o.label _ _ w5 (Rd.mod HC.out.1.lab (hm5 fun _ => False) (fun _ _ => id)) (Rd.mod HX.out.2.2.2.2.1 hm05 (fun _ _ => id)) (HX.out.2.2.2.2.2.2.2.mod0 hm05)
      rw [HC.out.2] at hfl
      obtain ⟨bf, hbf⟩ : ∃ b, b = flowsLB (labT L qd) o.label := ⟨_, rfl⟩
      rw [← hbf, ← HC.out.2] at hfl
      have HF := Lib.hid (And.intro hfl (And.intro hbf (And.intro hm05 hbb))); clear hfl hbf hm05 hbb hm5 hb5 hg5
      go_wp2_with (go_at_call 39; refine HF.out.1.mono ?_; rintro e w6 ⟨rfl, hm6⟩; have H6 := Lib.hid hm6; clear hm6)
      · rename_i hnb
        have hzf : z = false := by
          rw [HX.out.1, ← HF.out.2.1]
          have h1 : bf = false := by simpa using hnb
          rw [h1, decide_eq_false HE.out]; rfl
        subst hzf
        go_ret
        exact ⟨rfl, tr0 HF.out.2.2.1 H6.out⟩
      · rename_i hnb
        have h1 : bf = true := by simpa using hnb
        go_meet
        exact Lib.hid ⟨tr0 HF.out.2.2.1 H6.out, (H6.out.block gb (lt_of_blk HF.out.2.2.2) id).trans HF.out.2.2.2, fun _ => by rw [← HF.out.2.1, h1]⟩
  case rest =>
    have HR := Lib.hid hcut.out; clear hcut y1 HB
    have x2 : wc.cell? ⟨gb, 2, none⟩ = some (.slice A2 o.kids.length c2) := by rw [cell_of_blk HR.out.2.1]; rfl
    go_wp2_with fail
    go_loopg [40] o.kids.length (fun f s40 wx => ∃ i : Nat, s40 = .int .i64 i ∧ i + f = o.kids.length ∧ Hid ((∀ j k, j < i → o.kids[j]? = some k → flowsLB o.label (labT L (p ++ [k.n])) = true) ∧ wx.heap[gb]? = some (.cells #[.int .i64 o.kind, .slice A1 o.label.length c1, .slice A2 o.kids.length c2, .int .i64 o.next, .slice A4 o.bytes.length c4, .slice A5 o.own.length c5, .int .i64 o.cats, .slice A7 o.entry.length c7, .int .i64 o.ring, .slice A9 o.maps.length c9] 39 (0, 0)) ∧ Mod (fun _ => False) w wx))
    case atStart => exact ⟨0, rfl, by omega, Lib.hid ⟨fun j k hj => by omega, HR.out.2.1, HR.out.1⟩⟩
    case round =>
      obtain ⟨i, rfl, hi, HQ⟩ := hrel
      have HB := Lib.hid HQ.out.2
      by_cases hil : i < o.kids.length
      · obtain ⟨x, hx⟩ : ∃ x, o.kids[i]? = some x := ⟨_, List.getElem?_eq_getElem hil⟩
        obtain ⟨ad, csx, rfl, hokb, hr, hc⟩ := Rd.RowOf.at_ HX.out.2.2.2.2.2.1 hx
        obtain ⟨d0, d1, d2, rfl, ⟨rfl, hxr⟩, ⟨rfl, -⟩, ⟨rfl, -⟩⟩ := KidR_iff.1 hr
        have hcell : ∀ j u, [Value.int .i64 x.n, .int .i64 x.kind, .int .i64 x.quota][j]? = some u → wr.cell? ((ad.add (i * 3)).add j) = some u := fun j u hj => by
          rw [add_add]
          exact cell_step (hc j u hj) (fun _ => by rw [add_block]; exact HB.out.2.block _ hokb.2 id)
        have HC := Lib.hid (And.intro hcell (And.intro hx hxr)); clear hcell hc hr hokb hx hxr
        go_wp2_with (refine wpList_copy_var (n := 3) rfl rfl rfl 43 _ _ _ rfl rfl rfl Tryz.underlying43 [.int .i64 0, .int .i64 0, .int .i64 0] Tryz.info_kd2 rfl (ad.add (i * 3)) rfl [.int .i64 x.n, .int .i64 x.kind, .int .i64 x.quota] rfl (kidC_one _ _ _) HC.out.1 (fun _ _ => rfl) (fun _ _ => rfl) ?_)
        intro g2 w3 hg2 hgb2 hm2
        have k0 : w3.cell? ⟨g2, 0, none⟩ = some (.int .i64 x.n) := by rw [cell_of_blk hgb2]; rfl
        have HM3 := Lib.hid (tr0 HB.out.2 (hm2 fun _ => False))
        have hb3 := ((hm2 fun _ => False).block gb (lt_of_blk HB.out.1) id).trans HB.out.1
        have HB3 := Lib.hid hb3; clear hm2 hgb2 hg2 hb3
        have hpr := childP_right (HX.out.2.2.2.2.2.2.1 x (List.mem_of_getElem? HC.out.2.1))
        have hchx := HX.out.2.2.2.1 w3 HM3.out x.n HC.out.2.2
        obtain ⟨px, hpx⟩ : ∃ px, px = p ++ [x.n] := ⟨_, rfl⟩
        rw [hpr, ← hpx] at hchx
        have hpl : px.length ≤ 1000001 := by rw [hpx]; simp; omega
        obtain ⟨bx, hbx⟩ : ∃ b, b = rightP px := ⟨_, rfl⟩
        rw [← hbx] at hchx
        have HCH := Lib.hid (And.intro hchx hpx); clear hchx hpx hpr hbx
        go_wp2_with fail
        refine HCH.out.1.mono ?_
        rintro e w4 ⟨A', c', rfl, hO, hm4⟩
        have H4 := Lib.hid (And.intro hO (tr0 HM3.out hm4)); clear hO
        have hb4 := (hm4.block gb (lt_of_blk HB3.out) id).trans HB3.out
        have HB4 := Lib.hid hb4; clear hb4 hm4
        have hg3 := HX.out.2.2.1 w4 H4.out.2 A' px.length c' px _ (H4.out.1.reads (bytes := 8) (by omega)) (by omega)
        have HG3 := Lib.hid hg3; clear hg3
        go_wp2_with fail
        refine HG3.out.mono ?_
        rintro e w5 ⟨o2, A1', c1', A2', c2', A4', c4', A5', c5', A7', c7', A9', c9', ho2, rfl, hcp⟩
        have hlab : o2.label = labT L px := by rw [ho2, labT_get]
        have HC5 := Lib.hid (And.intro hcp hlab); clear hcp ho2 hlab
        go_wp2_with (refine wpList_box2 rfl rfl 39 _ _ rfl rfl [.int .i64 0, .slice none 0 0, .slice none 0 0, .int .i64 0, .slice none 0 0, .slice none 0 0, .int .i64 0, .slice none 0 0, .int .i64 0, .slice none 0 0] Tryz.infoOb3 rfl _ rfl (obC_one _ _ _ _ _ _ _ _ _ _ _ _ _) (fun _ => rfl) (fun _ => rfl) ?_)
        intro g5 w6 hg5 hb5 hm5
        have u1 : w6.cell? ⟨g5, 1, none⟩ = some (.slice A1' o2.label.length c1') := by rw [cell_of_blk hb5]; rfl
        have hm46 := tr0 HC5.out.1.mod (hm5 fun _ => False)
        have hm06 := tr0 H4.out.2 hm46
        have hbb := (hm46.block gb (lt_of_blk HB4.out) id).trans HB4.out
        have v1 : w6.cell? ⟨gb, 1, none⟩ = some (.slice A1 o.label.length c1) := by rw [cell_of_blk hbb]; rfl
        have hfl := flows_any A1 _ c1 A1' _ c1' o.label o2.label _ _ w6 (Rd.mod HX.out.2.2.2.2.1 hm06 (fun _ _ => id)) (Rd.mod HC5.out.1.lab (hm5 fun _ => False) (fun _ _ => id)) (HX.out.2.2.2.2.2.2.2.mod0 hm06)
        obtain ⟨bf, hbf⟩ : ∃ b, b = flowsLB o.label (labT L px) := ⟨_, rfl⟩
        rw [HC5.out.2, ← hbf, ← HC5.out.2] at hfl
        have HF := Lib.hid (And.intro hfl (And.intro hbf (And.intro hm06 hbb))); clear hfl hbf hm06 hbb hm5 hb5 hg5 hm46
        go_wp2_with (go_at_call 39; refine HF.out.1.mono ?_; rintro e w7 ⟨rfl, hm7⟩; have H7 := Lib.hid hm7; clear hm7)
        · rename_i hnb
          have hzf : z = false := by
            rw [HX.out.1, Bool.and_eq_false_iff]
            refine .inr ?_
            rw [List.all_eq_false]
            refine ⟨x, List.mem_of_getElem? HC.out.2.1, ?_⟩
            rw [← HCH.out.2, ← HF.out.2.1]
            have h1 : bf = false := by simpa using hnb
            simp [h1]
          subst hzf
          go_ret
          exact ⟨rfl, tr0 HF.out.2.2.1 H7.out⟩
        · rename_i hnb
          have h1 : bf = true := by simpa using hnb
          go_roundg (gk - 1)
          case measure => omega
          case rel => exact ⟨i + 1, by go_num, by omega, Lib.hid ⟨fun j k hj hk => by
            by_cases he : j = i
            · subst he
              rw [HC.out.2.1] at hk; cases hk
              rw [← HCH.out.2, ← HF.out.2.1, h1]
            · exact HQ.out.1 j k (by omega) hk, (H7.out.block gb (lt_of_blk HF.out.2.2.2) id).trans HF.out.2.2.2, tr0 HF.out.2.2.1 H7.out⟩⟩
      · obtain rfl : i = o.kids.length := by omega
        have hzt : z = true := by
          rw [HX.out.1, Bool.and_eq_true, Bool.or_eq_true, List.all_eq_true, decide_eq_true_eq]
          refine ⟨?_, fun k hk => ?_⟩
          · by_cases hpe : p = []
            · exact .inl hpe
            · exact .inr (HR.out.2.2 hpe)
          · obtain ⟨j, hj⟩ := List.getElem?_of_mem hk
            exact HQ.out.1 j k (List.getElem?_eq_some_iff.1 hj).1 hj
        subst hzt
        go_wp2_with fail
        go_ret
        exact ⟨rfl, HB.out.2⟩
end Go.Proofs.YtefedalnafjcfaaGreatDoor

namespace Go.Proofs.YtefedalnafjcfaaGreatDoor
open Go.RowKit
set_option linter.unusedVariables false
def iterO : Obj → Bool
  | .mapIter .. => true
  | _ => false
/-- what the iterator may turn: block Bs, and walks of maps that it began itself -/
def TurnIt (Bs N : Nat) (A : World) (k : Nat) : Prop := k = Bs ∨ (N ≤ k ∧ ∃ o, A.heap[k]? = some o ∧ iterO o = true)
/-- walks of maps lie as they lay -/
def KeepsIt (A B : World) : Prop := ∀ (k : Nat) (o : Obj), A.heap[k]? = some o → iterO o = true → B.heap[k]? = some o
theorem KeepsIt.of {A B : World} (h : KeepsOthers A B) : KeepsIt A B := fun k o h1 h2 => h.same k o h1 (by cases o <;> first | rfl | cases h2)
theorem KeepsIt.trans {A B C : World} (h : KeepsIt A B) (k : KeepsIt B C) : KeepsIt A C := fun i o h1 h2 => k i o (h i o h1 h2) h2
theorem KeepsIt.put {A : World} {l : Nat} {r : Loop} (h : A.heap[l]? = some (.loop r)) (o : Obj) : KeepsIt A (A.putObj l o) := fun k u h1 h2 => by
  have hne : k ≠ l := fun e => by rw [e, h] at h1; cases h1; cases h2
  exact (World.putObj_heap_other hne).trans h1
/-- WHAT THE ITERATOR PROMISES, from world W on: after pre there comes an x with St pre x, and it ends after a pre with Fin pre; its state in block Bs; a round keeps the blocks `own`. -/
def SeqAny {α : Type} (F : Fence) (n : Nat) (P : Program) (g : Nat) (lb : Array Value) (enc : α → Value) (Bs : Nat) (own : Nat → Prop) (St : List α → α → Prop) (Fin : List α → Prop) (W : World) : Prop :=
  ∀ (l : Nat) (J Jx : List α → World → Prop), (∀ pre A B, J pre A → Mod (TurnIt Bs W.heap.size A) A B → J pre B) → (∀ pre A B, Jx pre A → Mod (TurnIt Bs W.heap.size A) A B → Jx pre B) →
    (∀ pre x A, J pre A → St pre x → YieldAt F (n - 1) P l #[enc x] A fun e B => (e = .returned (.bool true) ∧ J (pre ++ [x]) B ∧ Mod (fun k => ¬ own k) A B ∧ KeepsIt A B) ∨ (e = .returned (.bool false) ∧ Jx (pre ++ [x]) B)) →
    J [] W → CallsIn F n P g (#[.func (.yield l) #[] #[]] ++ lb) W fun e B => (∃ v, e = .returned v) ∧ ((∃ pre, Fin pre ∧ J pre B) ∨ ∃ pre, Jx pre B)
theorem wpIn_range_any {α : Type} {F : Fence} {n : Nat} {P : Program} {g : Operand} {p : Tmp} {assign body : Code} {Q : Exit → Act → World → Prop} {a : Act} {w : World}
    (hro : F.round = none) (h1 : 1 ≤ n) {gf : Nat} {lb : Array Value} (hg : a.eval g = .func (.func gf) #[] lb) (hFg : F.fn gf) (eg : ∀ args w, (callFunc gf args).run P w = .ok (.enter gf args) w)
    {enc : α → Value} {Bs : Nat} {own : Nat → Prop} {St : List α → α → Prop} {Fin : List α → Prop} (hBs : Bs < w.heap.size) (hn0 : ∀ k, own k → k < w.heap.size) (hseq : ∀ W, Mod (fun _ => False) w W → SeqAny F (n - 1) P gf lb enc Bs own St Fin W)
    (I : List α → World → Prop) (Ix : Code → List α → World → Prop) (hI : ∀ pre A B, I pre A → Mod (MayTurn Bs w.heap.size A) A B → I pre B) (hIx : ∀ c pre A B, Ix c pre A → Mod (MayTurn Bs w.heap.size A) A B → Ix c pre B) (h0 : I [] w) (a₁ : α → Act)
    (hassign : ∀ (l : Nat) (x : α) (W : World) (K : Act → World → Prop), K (a₁ x) W → assign.wpIn (F.inRound l) (n - 1 - 1) P (Exit.then K (fun _ _ _ => False)) { tmps := a.tmps.setIfInBounds p (enc x), defers := [] } W)
    (hbody : ∀ (l : Nat) (pre : List α) (x : α) (W : World), I pre W → St pre x → body.wpIn (F.inRound l) (n - 1 - 1) P (roundLeft own I Ix (pre ++ [x]) W) (a₁ x) W)
    (hdone : ∀ (D : Nat) (pre : List α) (W : World), w.heap.size ≤ D → Fin pre → I pre W → W.heap[D]? = some (.deferred (some [])) → Q .normal { a with defers := { target := .collected D, args := #[] } :: a.defers } W)
    (hstop : ∀ (D : Nat) (c : Code) (pre : List α) (W : World), w.heap.size ≤ D → Ix c pre W → W.heap[D]? = some (.deferred (some [])) → c.wpIn F n P Q { a with defers := { target := .collected D, args := #[] } :: a.defers } W) :
    (Code.rangeFunc g #[p] assign body).wpIn F n P Q a w := by
  refine wpIn_rangeFunc fun fn hfn => ?_
  rw [hro]
  obtain ⟨D, hD⟩ : ∃ D, D = w.heap.size := ⟨_, rfl⟩
  obtain ⟨l, hl⟩ : ∃ l, l = w.heap.size + 1 := ⟨_, rfl⟩
  obtain ⟨rc, hrc⟩ : ∃ rc : LoopState → Option Code → Loop, rc = fun st pe => { state := st, pending := pe, fn, tmps := a.tmps, params := #[p], assign, body, defers := D } := ⟨_, rfl⟩
  obtain ⟨W1, hW1⟩ : ∃ W1, W1 = (w.alloc (.deferred (some []))).alloc (.loop (rc .ready none)) := ⟨_, rfl⟩
  have hDl : D ≠ l := by omega
  have hm1 : Mod (fun _ => False) w W1 := by rw [hW1]; exact ((Mod.refl _ w).alloc _).alloc _
  have hR1 : RecAt W1 l D (rc .ready none) := by
    rw [hW1]
    constructor
    · have := World.alloc_heap_new (w.alloc (.deferred (some []))) (.loop (rc .ready none))
      rw [World.size_alloc] at this
      rw [hl]; exact this
    · rw [hD]; exact (Below.heap_alloc _ _ _ (by simp)).trans (World.alloc_heap_new w _)
  have hlB : l ≠ Bs := by omega
  have hDB : D ≠ Bs := by omega
  have turn : ∀ {pre : List α} {A : World} {r : Loop} (o : Obj), I pre A → RecAt A l D r → I pre (A.putObj l o) := fun o hi hr => hI _ _ _ hi (mod_putObj (.inr ⟨by omega, _, hr.loop, rfl⟩) o)
  have turnx : ∀ {c : Code} {pre : List α} {A : World} {r : Loop} (o : Obj), Ix c pre A → RecAt A l D r → Ix c pre (A.putObj l o) := fun o hi hr => hIx _ _ _ _ hi (mod_putObj (.inr ⟨by omega, _, hr.loop, rfl⟩) o)
  have hol : ¬ own l := fun h => by have := hn0 l h; omega
  have below : ∀ {A : World} {r : Loop} (o : Obj), RecAt A l D r → Mod (fun k => ¬ own k) A (A.putObj l o) := fun o hr => mod_putObj hol o
  have turns : ∀ {A : World} {k : Nat}, TurnIt Bs W1.heap.size A k → MayTurn Bs w.heap.size A k := fun hk => by
    rcases hk with hk | ⟨hk, o, ho, hi⟩
    · exact .inl hk
    · exact .inr ⟨by have := hm1.size; omega, o, ho, by cases o <;> first | rfl | cases hi⟩
  have noturn : ∀ {A : World} {r : Loop}, RecAt A l D r → ¬ TurnIt Bs W1.heap.size A l ∧ ¬ TurnIt Bs W1.heap.size A D := fun hr => by
    refine ⟨?_, ?_⟩
    · rintro (hk | ⟨hk, o, ho, hi⟩)
      · exact hlB hk
      · rw [hr.loop] at ho; cases ho; cases hi
    · rintro (hk | ⟨hk, o, ho, hi⟩)
      · exact hDB hk
      · rw [hr.defs] at ho; cases ho; cases hi
  refine ⟨l, [{ target := .collected D, args := #[] }], W1, { target := .fn (.func gf) lb, args := #[.func (.yield l) #[] #[]] }, W1, gf, #[.func (.yield l) #[] #[]] ++ lb, W1, ?_, ?_, ?_, ?_, fun _ => h1, ?_⟩
  · rw [hW1, hrc, hl, hD]; exact run_enterLoop_outer _ _ _ _ _
  · simp only [resolve, hg]
    simp [go_sem]
  · intro f' hf'; simp [Target.leads] at hf'; subst hf'; exact hFg
  · simp [invoke, go_sem, eg]
  refine (hseq W1 hm1 l (fun pre W => I pre W ∧ RecAt W l D (rc .ready none)) (fun pre W => ∃ c, Ix c pre W ∧ RecAt W l D (rc .done (some c)))
    (fun pre A B hs hm => ⟨hI _ _ _ hs.1 (mod_weaken hm fun k hk => turns hk), hs.2.mod hm (noturn hs.2).1 (noturn hs.2).2⟩)
    (fun pre A B ⟨c, hs, hr⟩ hm => ⟨c, hIx _ _ _ _ hs (mod_weaken hm fun k hk => turns hk), hr.mod hm (noturn hr).1 (noturn hr).2⟩) ?_ ⟨hI _ _ _ h0 (mod_weaken hm1 fun k hk => hk.elim), hR1⟩).mono ?_
  · rintro pre x A ⟨hi, hr⟩ hpre
    have hy := run_yield (P := P) (args := #[enc x]) hr.loop (by rw [hrc]; rfl)
    rw [hrc] at hy
    have hr2 := hr.put { rc .ready none with state := .busy } hDl
    refine ⟨fn, _, assign, body, hy, roundIn_of_wpIn hfn ?_⟩
    have hz : Array.foldl (fun tmps (x : Tmp × Value) => match x with | (t, a) => tmps.setIfInBounds t a) a.tmps (#[p].zip #[enc x]) = a.tmps.setIfInBounds p (enc x) := by simp
    dsimp only
    rw [hz]
    refine hassign l x A _ ?_
    refine ⟨_, run_beginRound hr.loop (by rw [hrc]), ?_⟩
    refine wpIn_mono (hbody l pre x _ (turn _ hi hr) hpre) ?_
    have leave : ∀ (j : Option Code) (B : World), KeepsOthers (A.putObj l (.loop { rc .ready none with state := .busy })) B → RecAt B l D { rc .ready none with state := .busy } ∧
        (Instr.endRound l j).run P B = .ok (.bool j.isNone) (B.putObj l (.loop (rc (if j.isNone then .ready else .done) j))) := fun j B hk => by
      have h3 := hr2.keeps hk
      refine ⟨h3, ?_⟩
      have := run_endRound (P := P) j h3.loop
      rw [hrc] at this ⊢
      exact this
    rintro e a3 B hp
    cases e with
    | normal =>
      obtain ⟨hk, hb, hi3⟩ := hp
      obtain ⟨h3, hrun⟩ := leave none B hk
      exact ⟨_, _, hrun, .inl ⟨rfl, ⟨turn _ hi3 h3, h3.put _ hDl⟩, ((below _ hr).trans hb (fun k hk => .inl hk)).trans (below _ h3) (fun k hk => .inl hk), ((KeepsIt.put hr.loop _).trans (KeepsIt.of hk)).trans (KeepsIt.put h3.loop _)⟩⟩
    | ret =>
      obtain ⟨hk, hi3⟩ := hp
      obtain ⟨h3, hrun⟩ := leave (some .ret) B hk
      exact ⟨_, _, hrun, .inr ⟨rfl, .ret, turnx _ hi3 h3, h3.put _ hDl⟩⟩
    | exit id =>
      obtain ⟨hk, hi3⟩ := hp
      obtain ⟨h3, hrun⟩ := leave (some (.exit id)) B hk
      exact ⟨_, _, hrun, .inr ⟨rfl, .exit id, turnx _ hi3 h3, h3.put _ hDl⟩⟩
    | goto t =>
      obtain ⟨hk, hi3⟩ := hp
      obtain ⟨h3, hrun⟩ := leave (some (.goto t)) B hk
      exact ⟨_, _, hrun, .inr ⟨rfl, .goto t, turnx _ hi3 h3, h3.put _ hDl⟩⟩
    | panic ch => exact hp.elim
    | outgrown => exact hp.elim
  · rintro e B ⟨⟨v, rfl⟩, hfin⟩
    rcases hfin with ⟨pre, hpre, hi, hr⟩ | ⟨pre, c, hi, hr⟩
    · have hrun := run_endLoop (P := P) hr.loop (by rw [hrc]; simp)
      exact ⟨none, _, by rw [hrc] at hrun; exact hrun, hdone D pre _ (by omega) hpre (turn _ hi hr) ((World.putObj_heap_other hDl).trans hr.defs)⟩
    · have hrun := run_endLoop (P := P) hr.loop (by rw [hrc]; simp)
      exact ⟨some c, _, by rw [hrc] at hrun; exact hrun, hstop D c pre _ (by omega) (turnx _ hi hr) ((World.putObj_heap_other hDl).trans hr.defs)⟩
end Go.Proofs.YtefedalnafjcfaaGreatDoor

namespace Go.Proofs.YtefedalnafjcfaaGreatDoor
open Go.RowKit Go.Shelf
set_option linter.unusedVariables false
attribute [local go_sem] Oper.semAt_some
theorem RangeAt.seen {w : World} {b r : Nat} {vs done : List (List UInt8 × Value)} (h : RangeAt w b r vs done) : ∃ m since seen c0, w.heap[r]? = some (.mapIter m since seen c0) ∧ seen.size = done.length ∧ done.length ≤ vs.length := by
  obtain ⟨es, clock, since, seen, c0, ds, h1, h2, h3, h4, h5, h6, h7, h8, h9, h10, h11, h12⟩ := h
  refine ⟨_, _, _, _, h5, ?_, ?_⟩
  · rw [← h12, List.length_map, ← Array.length_toList, ← h10, List.length_map]
  · rw [← h12, ← h4, List.length_map, List.length_map]
    exact (perm_of_inj h11 (born_nodup h2) h9).1
def mIter (w : World) (r n : Nat) : Nat := match w.heap[r]? with
  | some (.mapIter _ _ seen _) => n - seen.size
  | _ => 0
theorem RangeAt.measure {w : World} {b r : Nat} {vs done : List (List UInt8 × Value)} (h : RangeAt w b r vs done) : mIter w r vs.length = vs.length - done.length := by
  obtain ⟨m, since, seen, c0, h1, h2, _⟩ := h.seen
  unfold mIter
  rw [h1]
  show _ - seen.size = _
  rw [h2]
set_option maxRecDepth 100000 in
set_option maxHeartbeats 1000000 in
theorem keys_st (n : Nat) (hn : 1 ≤ n) (Bs mb : Nat) (vs : List (List UInt8 × Value)) (W : World) (hs : W.cell? ⟨Bs, 0, none⟩ = some (.map (some mb))) (hm : MapAt W mb vs) (hne : mb ≠ Bs) :
    SeqAny Fence.wide n Tryz.prog 57 #[.pointer (some ⟨Bs, 0, none⟩)] encS Bs (fun k => k = Bs ∨ k = mb) (fun pre x => x ∈ vs.map (·.1) ∧ x ∉ pre) (fun pre => pre.Perm (vs.map (·.1))) W := by
  intro l J Jx hJ hJx hY h0
  refine callsIn_of_wp Tryz.func57 rfl trivial ?_ rfl
  simp only [Tryz.ntmps57, List.size_toArray, List.length_cons, List.length_nil, Nat.reduceAdd, Nat.reduceSub, Array.replicate_succ, Array.replicate_zero, List.push_toArray, List.append_toArray, List.nil_append, List.cons_append]
  obtain ⟨w', hrun, r1, r2⟩ := hm.range (P := Tryz.prog) Tryz.underlying63
  gi_wp2
  obtain ⟨r, hr⟩ : ∃ r, r = W.heap.size := ⟨_, rfl⟩
  rw [← hr] at r1 ⊢
  have HRr := Lib.hid hr; clear hr
  clear hrun
  have hBs := cell_lt hs
  have hmb := hm.lt
  gi_loopw [3] (fun _ wr => ∃ done : List (List UInt8 × Value), RangeAt wr mb r vs done ∧ J (done.map (·.1)) wr ∧ wr.cell? ⟨Bs, 0, none⟩ = some (.map (some mb)) ∧ Mod (fun k => r ≤ k ∨ ¬ (k = Bs ∨ k = mb)) W wr)
    (fun _ wr => mIter wr r vs.length)
  case atStart => exact ⟨[], r1, hJ [] W w' h0 (r2 _), (Mod.cell (r2 (fun _ => False)) (by exact hBs) id).trans hs, r2 _⟩
  case round =>
    obtain ⟨done, hra, hj, hc, hmw⟩ := hrel
    rcases hra.next (P := Tryz.prog) 0 with ⟨hp, hrun⟩ | ⟨k, v, w3, hkv, hnew, hrun, hra3, hm3, hsz, hent⟩
    · have HP := Lib.hid (And.intro hp (And.intro hj hmw)); clear hp hj hmw hra
      gi_wp2
      go_end0
      exact ⟨⟨_, rfl⟩, .inl ⟨done.map (·.1), HP.out.1.map _, HP.out.2.1⟩⟩
    · obtain ⟨m0, since, seen, c0, hmi, -, -⟩ := hra.seen
      have hturn : TurnIt Bs W.heap.size wr r := .inr ⟨by have := HRr.out; omega, _, hmi, rfl⟩
      have hj3 := hJ _ wr w3 hj (hm3.mono fun k hk => by rw [hk]; exact hturn)
      have hin : k ∈ vs.map (·.1) ∧ k ∉ done.map (·.1) := ⟨List.mem_map.2 ⟨_, hkv, rfl⟩, fun h => by obtain ⟨p, hp, e⟩ := List.mem_map.1 h; exact hnew p hp e⟩
      obtain ⟨fn, tmps, assign, body, hy, hR⟩ := hY (done.map (·.1)) k w3 hj3 hin
      have hc3 : w3.cell? ⟨Bs, 0, none⟩ = some (.map (some mb)) := (hm3.cell (lt_of_cell hc) (fun e => by have := HRr.out; simp at e; omega)).trans hc
      have hmw3 : Mod (fun k => r ≤ k ∨ ¬ (k = Bs ∨ k = mb)) W w3 := hmw.trans hm3 (fun k hk => .inl (.inl (by rw [hk]; exact Nat.le_refl _)))
      have hd : (done ++ [(k, v)]).map (·.1) = done.map (·.1) ++ [k] := by simp
      have HK := Lib.hid (And.intro hra3 (And.intro hc3 (And.intro hmw3 (And.intro hd hra)))); clear hra3 hc3 hmw3 hd hra hj hj3 hin hturn hmi hnew hkv hmw hc hm3 hsz
      dsimp only [encK, encS] at hrun hent hy
      gi_wp2
      refine hR.mono ?_
      rintro e W3 (⟨rfl, hJ3, hk3, hki⟩ | ⟨rfl, hJx3⟩)
      · have hra4 : RangeAt W3 mb r vs (done ++ [(k, v)]) := HK.out.1.move (hk3.block mb HK.out.1.mapAt.lt (fun h => h (.inr rfl))) (by
          obtain ⟨m1, s1, se1, c1, h1, -, -⟩ := HK.out.1.seen
          rw [h1]; exact hki r _ h1 rfl)
        have hc4 : W3.cell? ⟨Bs, 0, none⟩ = some (.map (some mb)) := (hk3.cell (lt_of_cell HK.out.2.1) (fun h => h (.inl rfl))).trans HK.out.2.1
        rw [← HK.out.2.2.2.1] at hJ3
        have hmw4 := HK.out.2.2.1.trans hk3 (fun k hk => .inl (.inr hk))
        have hms := hra4.measure
        have hms0 := HK.out.2.2.2.2.measure
        have hle := (HK.out.1.seen)
        have HL := Lib.hid (And.intro hra4 (And.intro hJ3 (And.intro hc4 (And.intro hmw4 (And.intro hms (And.intro hms0 hle)))))); clear hra4 hJ3 hc4 hmw4 hk3 hki hms hms0 hle
        gi_wp2
        obtain ⟨q1, q2, q3, q4, q5, q6, _, _, _, _, _, _, q7⟩ := HL.out
        refine ⟨⟨done ++ [(k, v)], q1, q2, q3, q4⟩, ?_⟩
        rw [q5, q6]
        simp only [List.length_append, List.length_singleton] at q7 ⊢
        omega
      · gi_wp2
        refine bodyPost_ret (results_none rfl _ _ _) rfl ?_
        exact ⟨⟨_, rfl⟩, .inr ⟨_, hJx3⟩⟩
set_option maxRecDepth 100000 in
theorem keys_any (mb : Nat) (w : World) : Calls Tryz.prog 28 #[.map (some mb)] w fun e w' => ∃ Bs, e = .returned (.func (.func 57) #[] #[.pointer (some ⟨Bs, 0, none⟩)]) ∧ w.heap.size ≤ Bs ∧ w'.cell? ⟨Bs, 0, none⟩ = some (.map (some mb)) ∧ Mod (fun _ => False) w w' := by
  go_enter Tryz.func28, Tryz.ntmps28
  go_wp2_with fail
  go_ret
  exact ⟨w.heap.size, rfl, Nat.le_refl _, (cell_new_l w _ _).1, (Mod.refl _ _).alloc _⟩
end Go.Proofs.YtefedalnafjcfaaGreatDoor

namespace Go.Proofs.YtefedalnafjcfaaGreatDoor
open Go.RowKit Go.Shelf Go.Lib Go.Sort
set_option linter.unusedVariables false
abbrev OwnP (w : World) (base : Nat) (S : Nat → Prop) (v : Value) (l : List (List Int)) : Prop := OwnR intsR 30 w base S v l
section
variable (ps : List (List Int))
def cmpF (x y : Fin ps.length) : Int := cmpL ps[x] ps[y]
theorem swoF : SWO (ltOf (cmpF ps)) where
  irrefl x := by unfold ltOf cmpF; rw [cmpL_self]; rfl
  trans x y z h1 h2 := by
    unfold ltOf cmpF at *
    simp only [decide_eq_true_eq] at *
    exact ltP_tr h1 h2
  ntrans x y z h1 h2 := by
    unfold ltOf cmpF at *
    simp only [decide_eq_false_iff_not] at *
    intro h
    rcases ltP_tri ps[x] ps[y] with h3 | h3 | h3
    · exact h1 h3
    · have h3' : ps[x] = ps[y] := h3
      rw [h3'] at h; exact h2 h
    · exact h2 (ltP_tr h3 h)
theorem totF (hn : ps.Nodup) (x y : Fin ps.length) (h1 : ltOf (cmpF ps) x y = false) (h2 : ltOf (cmpF ps) y x = false) : x = y := by
  unfold ltOf cmpF at *
  simp only [decide_eq_false_iff_not] at *
  rcases ltP_tri ps[x] ps[y] with h3 | h3 | h3
  · exact absurd h3 h1
  · exact Fin.ext ((List.getElem_inj hn).1 h3)
  · exact absurd h3 h2
end
theorem putCells_vals {α : Type} [Inhabited α] (enc : α → Value) (ts : List α) (xs tail : List Value) (h : xs.length = ts.length) : putCells enc 0 ts.toArray (xs ++ tail).toArray = (ts.map enc ++ tail).toArray := by
  apply Array.ext_getElem?
  intro j
  simp only [putCells, Array.getElem?_mapIdx, List.getElem?_toArray, List.size_toArray, Nat.zero_add, Nat.sub_zero, Nat.zero_le, true_and]
  by_cases hj : j < ts.length
  · rw [List.getElem?_append_left (by omega), List.getElem?_append_left (by rw [List.length_map]; omega), List.getElem?_eq_getElem (by omega)]
    simp [hj]
  · rw [List.getElem?_append_right (by omega), List.getElem?_append_right (by rw [List.length_map]; omega), List.length_map, h]
    cases tail[j - ts.length]? <;> simp [hj]
theorem heap_sortedV {α : Type} [Inhabited α] {w : World} {g n : Nat} {os : Array Obj} {cur : Array Value} {e : TypeId} {fr : Nat × Nat} (enc : α → Value) (d : Array α) (hb : w.heap[g]? = some (.cells cur e fr)) :
    (grow (putRow enc (Sort.ahead w n) g 0 d) os).heap[g]? = some (.cells (putCells enc 0 d cur) e fr) := by
  have hg : g < w.heap.size := (Array.getElem?_eq_some_iff.1 hb).1
  rw [heap_grow_old _ _ (by simpa using hg)]
  simp [putRow, mapBlock, Sort.ahead, Array.getElem?_modify, hb, onCells]
theorem sortP_own {w : World} {base : Nat} {S : Nat → Prop} {A : Option Addr} {c : Nat} {ps qs : List (List Int)} (h : OwnP w base S (.slice A ps.length c) ps) (hl : ps.length ≤ 8796093022208) (hp : qs.Perm ps) (hq : qs.Pairwise ltP) :
    Calls Tryz.prog 30 #[.slice A ps.length c, .func (.func 24) #[] #[]] w fun e w' => e = .returned (.tuple #[]) ∧ OwnP w' base S (.slice A qs.length c) qs ∧ Mod (fun k => (Value.slice A ps.length c).ownBlock = some k) w w' := by
  have hql := hp.length_eq
  obtain ⟨cells, hown, hrd⟩ := h
  by_cases hne : ps = []
  · subst hne
    have : qs = [] := List.eq_nil_of_length_eq_zero hql
    subst this
    refine (Tryz.slices_SortFunc_none_f30 (α := Nat) A c _ w).mono ?_
    rintro e w' ⟨rfl, rfl⟩
    exact ⟨rfl, ⟨cells, hown, hrd⟩, Mod.refl _ _⟩
  · have hpos : 0 < ps.length := List.length_pos_iff.2 hne
    obtain ⟨hcl, hv⟩ := hown
    have sz : intsR.sz = 1 := rfl
    rw [sz, Nat.mul_one] at hcl
    rcases hv with ⟨hv, hz⟩ | ⟨g, cap, cur, hv, hbg, hg, hcap, hmax, hcs, htk⟩
    · omega
    · simp only [Value.slice.injEq] at hv
      obtain ⟨rfl, -, rfl⟩ := hv
      have hndq : qs.Nodup := hq.imp (S := fun a b => a ≠ b) fun {a b} h (e : a = b) => ltP_irr b (by rw [e] at h; exact h)
      have hnd : ps.Nodup := (hp.nodup_iff).1 hndq
      haveI : Inhabited (Fin ps.length) := ⟨⟨0, hpos⟩⟩
      obtain ⟨enc, henc⟩ : ∃ enc : Fin ps.length → Value, enc = fun i => cells[i.1]'(by have := i.2; omega) := ⟨_, rfl⟩
      have hrow : ∀ i : Fin ps.length, intsR.rel w (fun k => S k ∧ some k ≠ some g) [enc i] ps[i] := fun i => by
        have h1 := hrd i.1 ps[i] (by simp)
        rw [sz, Nat.mul_one] at h1
        have h2 : (cells.drop i.1).take 1 = [enc i] := by
          rw [List.drop_eq_getElem_cons (by have := i.2; omega), henc]; rfl
        rw [h2] at h1
        exact h1
      have hone : ∀ i : Fin ps.length, ∃ B d, enc i = .slice B ps[i].length d := fun i => by
        obtain ⟨B, d, hv, _⟩ := hrow i
        exact ⟨B, d, by simpa using hv⟩
      obtain ⟨d, hd⟩ : ∃ d : List (Fin ps.length), d = List.finRange ps.length := ⟨_, rfl⟩
      have hdl : d.length = ps.length := by rw [hd]; simp
      have hdg : ∀ j (hj : j < d.length), d[j] = ⟨j, by omega⟩ := fun j hj => by subst hd; simp
      have hcur : cur = (cells ++ cur.toList.drop ps.length).toArray := by
        rw [← htk, sz, Nat.mul_one, List.take_append_drop]
      rw [hcur] at hg
      have hH : Holds enc w g 0 d.toArray := by
        intro j hj
        have hj' : j < d.length := by simpa using hj
        refine ⟨?_, free_of_blk hg _⟩
        rw [cell_of_blk hg, List.getElem?_toArray, Nat.zero_add, List.getElem?_append_left (by omega), getElem!_pos d.toArray j hj]
        simp only [List.getElem_toArray]
        rw [hdg j hj', henc]
        exact List.getElem?_eq_getElem (by omega)
      have hglt := lt_of_blk hg
      have hcmp : CmpLays1 Tryz.prog 24 #[] enc (cmpF ps) g 0 d.toArray.size w := by
        intro m os dk hs x y
        have hW : Mod (fun k => k = g) w (sortWorld enc w g 0 m dk os) := mod_sorted enc w g m dk os
        obtain ⟨B1, d1, e1⟩ := hone x
        obtain ⟨B2, d2, e2⟩ := hone y
        have r1 := Rd.mod (hrow x) hW (fun k hk e => hk.2 (by rw [e]))
        have r2 := Rd.mod (hrow y) hW (fun k hk e => hk.2 (by rw [e]))
        rw [e1] at r1 ⊢
        rw [e2] at r2 ⊢
        refine (calls_drawn (compare_p B1 d1 _ B2 d2 _ ps[x] ps[y] _ _ _ r1 r2)).mono ?_
        rintro e w' ⟨⟨rfl, hm'⟩, hdr⟩
        exact ⟨rfl, grow_of_mod hm' (hdr (by simp))⟩
      have := Tryz.slices_SortFunc_total_f30 enc (fun i => by obtain ⟨B, d, e⟩ := hone i; rw [e]; rfl) (cmpF ps) (swoF ps) 24 #[] g 0 c d.toArray w (enters_of Tryz.func24 (by kernel_rfl) rfl) hcmp hH hglt (by simp; omega) (totF ps hnd)
      rw [List.size_toArray, hdl] at this
      refine this.mono ?_
      rintro e w' ⟨rfl, n, os, rfl⟩
      obtain ⟨τ, hτ⟩ : ∃ τ : List (Fin ps.length), τ = (d.mergeSort fun x y => !(ltOf (cmpF ps)) y x) := ⟨_, rfl⟩
      have hτp : τ.Perm d := by rw [hτ]; exact List.mergeSort_perm _ _
      have hτl : τ.length = ps.length := hτp.length_eq.trans hdl
      have hs0 : (d.mergeSort fun x y => !(ltOf (cmpF ps)) y x).Pairwise (fun a b => cmpL ps[a] ps[b] ≤ 0) := by
        refine (List.pairwise_mergeSort (le := fun x y => !(ltOf (cmpF ps)) y x) ?_ ?_ d).imp ?_
        · intro a b c h1 h2
          simp only [Bool.not_eq_true'] at *
          exact (swoF ps).ntrans _ _ _ h2 h1
        · intro a b
          simp only [Bool.or_eq_true, Bool.not_eq_true']
          unfold ltOf cmpF
          simp only [decide_eq_false_iff_not]
          have := cmpL_neg ps[a] ps[b]
          omega
        · intro a b h1
          have h1' : ¬ cmpL ps[b] ps[a] < 0 := by
            intro h2
            have h3 : ltOf (cmpF ps) b a = true := decide_eq_true h2
            rw [h3] at h1; cases h1
          have := cmpL_neg ps[a] ps[b]
          omega
      rw [← hτ] at hs0
      have hτs : (τ.map fun i => ps[i]).Pairwise (fun a b => cmpL a b ≤ 0) := by
        rw [List.pairwise_map]; exact hs0
      have hτq : (τ.map fun i => ps[i]) = qs := by
        have hpp : (τ.map fun i => ps[i]).Perm qs := by
          refine (hτp.map _).trans (List.Perm.trans ?_ hp.symm)
          have : d.map (fun i => ps[i]) = ps := by
            apply List.ext_getElem
            · simp [hdl]
            · intro j h1 h2
              rw [List.getElem_map, hdg j (by simpa using h1)]; rfl
          rw [this]
        refine List.Perm.eq_of_pairwise (le := fun a b => cmpL a b ≤ 0) (fun a b _ _ h1 h2 => cmpL_zero _ _ (by have := cmpL_neg a b; omega)) hτs (hq.imp fun {a b} h => by have : cmpL a b < 0 := h; omega) hpp
      have hmod := mod_sorted enc w g n τ.toArray os
      have hw' : (sortWorld enc w g 0 n (d.toArray.toList.mergeSort fun x y => !(ltOf (cmpF ps)) y x).toArray os) = grow (putRow enc (Sort.ahead w n) g 0 τ.toArray) os := by rw [hτ]; rfl
      rw [hw']
      have hh := heap_sortedV (n := n) (os := os) enc τ.toArray hg
      rw [putCells_vals enc τ cells _ (by omega)] at hh
      refine ⟨rfl, ⟨τ.map enc, ⟨by rw [List.length_map, sz, Nat.mul_one, hτl, hql], .inr ⟨g, c, _, by rw [hql], hbg, hh, by omega, hmax, ?_, ?_⟩⟩, fun j x hj => ?_⟩, hmod.mono fun k hk => by rw [hk]; rfl⟩
      · have h1 : (cells ++ cur.toList.drop ps.length).length = cur.size := by
          have := congrArg Array.size hcur
          simpa using this.symm
        rw [List.size_toArray, List.length_append, List.length_map, hτl, ← hcs, ← h1, List.length_append, hcl]
      · simp only [sz, Nat.mul_one]
        rw [List.take_left' (by rw [List.length_map]; omega)]
      · rw [sz, Nat.mul_one]
        have hjl : j < τ.length := by have := (List.getElem?_eq_some_iff.1 hj).1; omega
        have h2 : ((τ.map enc).drop j).take 1 = [enc τ[j]] := by
          rw [List.drop_eq_getElem_cons (by simpa using hjl), List.getElem_map]; rfl
        have hx : x = ps[τ[j]] := by
          rw [← hτq, List.getElem?_map, List.getElem?_eq_getElem hjl] at hj
          exact (Option.some.inj hj).symm
        rw [h2, hx]
        exact Rd.mod (hrow τ[j]) hmod (fun k hk e => hk.2 (by rw [e]; rfl))
end Go.Proofs.YtefedalnafjcfaaGreatDoor

