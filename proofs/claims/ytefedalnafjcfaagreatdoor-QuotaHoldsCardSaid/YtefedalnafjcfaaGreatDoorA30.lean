/- Part of this claim's proof (texts Tab20, joined by program). -/
import Derived.Test.YtefedalnafjcfaaGreatDoorA09
import Derived.Test.YtefedalnafjcfaaGreatDoorA26
import Derived.Test.YtefedalnafjcfaaGreatDoorA29
import Derived.Test.YtefedalnafjcfaaGreatDoorA22
import Derived.Test.YtefedalnafjcfaaGreatDoorA25
namespace Go.Proofs.YtefedalnafjcfaaGreatDoor
open Go.RowKit Go.Shelf
set_option linter.unusedVariables false
theorem addE_some {L : Tab} {p : List Int} {c : Ob} (hg : getT L p = some c) (o : Ob) (q : Int) : addE L p o q = if c.kind ≠ 1 then 31 else if !(rightOb o && decide (o.kids = []) && decide (o.next = 0) && inQ q) then 2 else if !flowsLB c.label o.label then 21 else if p.length = 6 then 30 else if c.kids.length = 16 then 34 else if 1048576 < c.next then 35 else if q < usesO o ∨ quotaT L p < usesO c + q then 33 else 0 := by
  unfold addE; rw [hg]
theorem add_not {L : Tab} {p : List Int} {o : Ob} {q : Int} (h : addE L p o q ≠ 0) : addN L p o q = -1 ∧ addT L p o q = L := by
  unfold addN addT
  cases getT L p with
  | none => exact ⟨rfl, rfl⟩
  | some c => exact ⟨if_neg h, if_neg h⟩
theorem add_yes {L : Tab} {p : List Int} {c o : Ob} {q : Int} (hg : getT L p = some c) (h : addE L p o q = 0) : addN L p o q = c.next ∧ addT L p o q = layT (layT L p (withKid c ⟨c.next, o.kind, q⟩)) (p ++ [c.next]) o := by
  unfold addN addT
  rw [hg]
  exact ⟨if_pos h, if_pos h⟩
/-- a kid is appended to a copy's kids -/
theorem Copied.addKid {w w' w2 : World} {ok : Nat → Prop} {o : Ob} {A1 : Option Addr} {c1 : Nat} {A2 : Option Addr} {c2 : Nat} {A4 : Option Addr} {c4 : Nat} {A5 : Option Addr} {c5 : Nat} {A7 : Option Addr} {c7 : Nat} {A9 : Option Addr} {c9 : Nat} {A2n : Option Addr} {c2n : Nat} (h : Copied w w' ok o A1 c1 A2 c2 A4 c4 A5 c5 A7 c7 A9 c9) {k : Kid} (hO : OwnR KidR 43 w2 w.heap.size (fun _ => False) (.slice A2n (o.kids.length + 1) c2n) (o.kids ++ [k])) (hm : Mod (fun b => (Value.slice A2 o.kids.length c2).ownBlock = some b) w' w2) (hn : NewOr w' (.slice A2 o.kids.length c2) (.slice A2n (o.kids.length + 1) c2n)) (hi : Rd.inR .i64 (o.next + 1)) :
    Copied w w2 ok (withKid o k) A1 c1 A2n c2n A4 c4 A5 c5 A7 c7 A9 c9 := by
  have hlen : (withKid o k).kids.length = o.kids.length + 1 := by simp [withKid]
  have f : ∀ b, some b ≠ (Value.slice A2 o.kids.length c2).ownBlock → b < w'.heap.size → some b ≠ (Value.slice A2n (withKid o k).kids.length c2n).ownBlock := fun b hb hl e => by
    rcases hn with hn | ⟨g, hn, hg⟩
    · rw [hlen, hn] at e; exact hb e
    · rw [hlen, hn] at e
      have := Option.some.inj e; omega
  have d : ∀ b, some b ≠ (Value.slice A2 o.kids.length c2).ownBlock → ¬ (Value.slice A2 o.kids.length c2).ownBlock = some b := fun b hb e => hb e.symm
  refine ⟨Rd.mod (Rd.mono (Rd.bound h.lab) (ok1 := fun b => (w.heap.size ≤ b ∧ some b ≠ (Value.slice A2n (withKid o k).kids.length c2n).ownBlock) ∧ some b ≠ (Value.slice A2 o.kids.length c2).ownBlock) (fun b hb => ⟨⟨hb.1.1, f b hb.1.2 hb.2⟩, hb.1.2⟩)) hm (fun b hb => d b hb.2) |> fun z => Rd.mono z fun b hb => hb.1, ?_,
    Rd.mod (Rd.mono (Rd.bound h.byt) (ok1 := fun b => (w.heap.size ≤ b ∧ some b ≠ (Value.slice A2n (withKid o k).kids.length c2n).ownBlock) ∧ some b ≠ (Value.slice A2 o.kids.length c2).ownBlock) (fun b hb => ⟨⟨hb.1.1, f b hb.1.2 hb.2⟩, hb.1.2⟩)) hm (fun b hb => d b hb.2) |> fun z => Rd.mono z fun b hb => hb.1,
    Rd.mod (Rd.mono (Rd.bound h.own) (ok1 := fun b => (w.heap.size ≤ b ∧ some b ≠ (Value.slice A2n (withKid o k).kids.length c2n).ownBlock) ∧ some b ≠ (Value.slice A2 o.kids.length c2).ownBlock) (fun b hb => ⟨⟨hb.1.1, f b hb.1.2 hb.2⟩, hb.1.2⟩)) hm (fun b hb => d b hb.2) |> fun z => Rd.mono z fun b hb => hb.1,
    Rd.mod (Rd.mono (Rd.bound h.ent) (ok1 := fun b => (w.heap.size ≤ b ∧ some b ≠ (Value.slice A2n (withKid o k).kids.length c2n).ownBlock) ∧ some b ≠ (Value.slice A2 o.kids.length c2).ownBlock) (fun b hb => ⟨⟨hb.1.1, f b hb.1.2 hb.2⟩, hb.1.2⟩)) hm (fun b hb => d b hb.2) |> fun z => Rd.mono z fun b hb => hb.1,
    Rd.mod (Rd.mono (Rd.bound h.maps) (ok1 := fun b => (((ok b ∧ b < w.heap.size) ∨ w.heap.size ≤ b) ∧ some b ≠ (Value.slice A2n (withKid o k).kids.length c2n).ownBlock) ∧ some b ≠ (Value.slice A2 o.kids.length c2).ownBlock) (fun b hb => ⟨⟨hb.1.1, f b hb.1.2 hb.2⟩, hb.1.2⟩)) hm (fun b hb => d b hb.2) |> fun z => Rd.mono z fun b hb => hb.1,
    h.mod.trans hm (fun b hb => .inr (own_ge h.kid hb).1), ⟨h.ints.1, hi, h.ints.2.2⟩⟩
  rw [hlen]; exact hO
set_option maxRecDepth 100000 in
set_option maxHeartbeats 16000000 in
theorem add_any (S : Nat → Prop) (g mb : Nat) (L : Tab) (A : Option Addr) (m c : Nat) (p : List Int) (ok ok2 : Nat → Prop) (cs : List Value) (o : Ob) (q : Int) (w : World) (hT : TabAt w S g mb L) (hv : ValidT L) (h : intsR.rel w ok [.slice A m c] p) (ho : ObR.rel w ok2 cs o) (hok : ∀ b, ok2 b → b ≠ g ∧ b ≠ mb) (hp : p.length ≤ 1000000) (hq : Rd.inR .i64 q) (E : Env w) :
    Calls Tryz.prog 16 #[.pointer (some ⟨g, 0, none⟩), .slice A m c, .agg cs.toArray, .int .i64 q] w fun e w' => e = .returned (.tuple #[.int .i64 (addN L p o q), .int .i64 (addE L p o q)]) ∧ TabAt w' (fun b => S b ∨ ok2 b ∨ w.heap.size ≤ b) g mb (addT L p o q) ∧ Mod (fun b => b = mb) w w' := by
  have ho' := Rd.bound ho
  obtain ⟨A1, c1, A2, c2, A4, c4, A5, c5, A7, c7, A9, c9, rfl, h0, h1, h2, h3, h4, h5, h6, h7, h8, h9⟩ := ObR_cells (Rd.bound ho)
  obtain ⟨vs, hvs, -⟩ := hT.run_len
  have hrd := Rd.bound (ints_nomap h hvs)
  obtain ⟨rfl, -⟩ := ints_row h
  have hget := fun W (hW : Mod (fun _ => False) w W) => getTab_any _ g mb L A p.length c p _ W (hT.bound.move hW (fun _ _ => id) id id) (Rd.mod (Rd.bound h) hW (fun _ _ => id)) (by omega) (E.mod0 hW)
  have hquo := fun W (hW : Mod (fun _ => False) w W) => quotaTab_any _ g mb L A p.length c p _ W (hT.bound.move hW (fun _ _ => id) id id) hv (Rd.mod (Rd.bound h) hW (fun _ _ => id)) hp (E.mod0 hW)
  have hgm := hT.ltm
  have hgg := hT.ltg
  have hS : ∀ b, (S b ∨ ok2 b ∨ w.heap.size ≤ b) → b ≠ mb ∧ b ≠ g := by
    have := hT.nmb
    have := hT.ng
    rintro b (h | h | h)
    · exact ⟨fun e => hT.nmb (e ▸ h), fun e => hT.ng (e ▸ h)⟩
    · exact ⟨(hok b h).2, (hok b h).1⟩
    · exact ⟨by omega, by omega⟩
  have hTk := fun W (hW : Mod (fun _ => False) w W) => (hT.bound.move hW (fun _ _ => id) id id).grow (T := fun b => S b ∨ ok2 b ∨ w.heap.size ≤ b) (fun b hb => .inl hb.1) (fun h => (hS _ h).1 rfl) (fun h => (hS _ h).2 rfl)
  have hqb := inR_i64 hq
  obtain ⟨e0, he0⟩ : ∃ x, x = addE L p o q := ⟨_, rfl⟩
  obtain ⟨N, hN⟩ : ∃ x, x = addN L p o q := ⟨_, rfl⟩
  obtain ⟨M, hM⟩ : ∃ x, x = addT L p o q := ⟨_, rfl⟩
  have hnot : e0 ≠ 0 → N = -1 ∧ M = L := fun h => by rw [hN, hM]; exact add_not (by rw [← he0]; exact h)
  rw [← he0, ← hN, ← hM]
  have hob := fun W (hW : Mod (fun _ => False) w W) => Rd.mod ho' hW (fun _ _ => id)
  cases hg : getT L p with
  | none =>
    have hz : e0 = 30 := by rw [he0]; unfold addE; rw [hg]
    obtain ⟨hz2, hz3⟩ := hnot (by rw [hz]; decide)
    rw [hz, hz2, hz3]
    rw [hg] at hget
    dsimp only [Option.isSome, Option.getD] at hget
    have HX := Lib.hid (And.intro hget hTk); clear hget hTk hquo hT hv h E hg hz hz2 hz3 hq ho ho' h1 h2 h4 h5 h7 h9 hvs hrd hnot hob hS hok he0 hN hM
    go_enter Tryz.func16, Tryz.ntmps16
    go_wp2_with (refine wpList_box_new rfl 39 _ rfl [.int .i64 o.kind, .slice A1 o.label.length c1, .slice A2 o.kids.length c2, .int .i64 o.next, .slice A4 o.bytes.length c4, .slice A5 o.own.length c5, .int .i64 o.cats, .slice A7 o.entry.length c7, .int .i64 o.ring, .slice A9 o.maps.length c9] rfl ?_)
    intro g0 w0 hg0 hb0 hm0
    have HM0 := Lib.hid (hm0 fun _ => False); clear hg0 hb0 hm0
    go_wp2_with fail
    refine (HX.out.1 w0 HM0.out).mono ?_
    rintro e w1 ⟨o1, A1x, c1x, A2x, c2x, A4x, c4x, A5x, c5x, A7x, c7x, A9x, c9x, rfl, rfl, hcp⟩
    have HC := Lib.hid (tr0 HM0.out hcp.mod); clear hcp
    go_wp2_with (refine wpList_box2 rfl rfl 39 _ _ rfl rfl [.int .i64 0, .slice none 0 0, .slice none 0 0, .int .i64 0, .slice none 0 0, .slice none 0 0, .int .i64 0, .slice none 0 0, .int .i64 0, .slice none 0 0] Tryz.infoOb3 rfl _ rfl (obC_one _ _ _ _ _ _ _ _ _ _ _ _ _) (fun _ => rfl) (fun _ => rfl) ?_)
    intro g1 w2 hg1 hb1 hm1
    have HM := Lib.hid (tr0 HC.out (hm1 fun _ => False)); clear hg1 hb1 hm1
    go_wp2_with fail
    go_ret2
    exact ⟨rfl, HX.out.2 _ HM.out, HM.out.mono (fun _ h => h.elim)⟩
  | some cc =>
    have hE := addE_some hg o q
    rw [← he0] at hE
    have hyes : e0 = 0 → N = cc.next ∧ M = layT (layT L p (withKid cc ⟨cc.next, o.kind, q⟩)) (p ++ [cc.next]) o := fun h => by rw [hN, hM]; exact add_yes hg (by rw [← he0]; exact h)
    have hqr := uses_le_quota hv hg
    have hp6 := rightP_iff.1 (hv.path _ _ hg)
    have hro := hv.right _ _ hg
    obtain ⟨qu, hqu⟩ : ∃ x, x = quotaT L p := ⟨_, rfl⟩
    rw [← hqu] at hquo hE hqr
    rw [hg] at hget
    dsimp only [Option.isSome, Option.getD] at hget
    have HGet := Lib.hid hget
    have HTk := Lib.hid hTk
    have HQuo := Lib.hid hquo
    have HOb := Lib.hid hob
    have HNot := Lib.hid hnot
    have HE := Lib.hid hE
    have HYes := Lib.hid hyes
    have HRd := Lib.hid hrd
    have HEn := Lib.hid E
    have HEM := Lib.hid (fun W (hW : Mod (fun b => b = mb) w W) => E.modM hvs hW)
    have HRo := Lib.hid hro
    have HQr := Lib.hid hqr
    have HS := Lib.hid hS
    have HP6 := Lib.hid hp6
    have HLb := Lib.hid h1
    have HQb := Lib.hid hqb
    have HTb := Lib.hid hT
    have HOb0 := Lib.hid ho'
    have HInt := Lib.hid (And.intro h0 hq)
    clear hget hTk hquo hob hnot hE hyes hrd E hro hqr hS hp6 h1 hqb hT hv h hg hq ho ho' h2 h4 h5 h7 h9 hvs hok he0 hN hM hqu h0
    go_enter Tryz.func16, Tryz.ntmps16
    go_wp2_with (refine wpList_box_new rfl 39 _ rfl [.int .i64 o.kind, .slice A1 o.label.length c1, .slice A2 o.kids.length c2, .int .i64 o.next, .slice A4 o.bytes.length c4, .slice A5 o.own.length c5, .int .i64 o.cats, .slice A7 o.entry.length c7, .int .i64 o.ring, .slice A9 o.maps.length c9] rfl ?_)
    intro g0 w0 hg0 hb0 hm0
    have HM0 := Lib.hid (And.intro (hm0 fun _ => False) (And.intro hb0 hg0)); clear hg0 hb0 hm0
    go_wp2_with fail
    refine (HGet.out w0 HM0.out.1).mono ?_
    rintro e w1 ⟨o1, A1x, c1x, A2x, c2x, A4x, c4x, A5x, c5x, A7x, c7x, A9x, c9x, rfl, rfl, hcp⟩
    have HC := Lib.hid hcp; clear hcp
    go_wp2_with (refine wpList_box2 rfl rfl 39 _ _ rfl rfl [.int .i64 0, .slice none 0 0, .slice none 0 0, .int .i64 0, .slice none 0 0, .slice none 0 0, .int .i64 0, .slice none 0 0, .int .i64 0, .slice none 0 0] Tryz.infoOb3 rfl _ rfl (obC_one _ _ _ _ _ _ _ _ _ _ _ _ _) (fun _ => rfl) (fun _ => rfl) ?_)
    intro g1 w2 hg1 hb1 hm1
    have hm02 := tr0 HM0.out.1 (tr0 HC.out.mod (hm1 fun _ => False))
    have hb02 := ((tr0 HC.out.mod (hm1 fun _ => False)).block g0 (lt_of_blk HM0.out.2.1) id).trans HM0.out.2.1
    have a0 : w2.cell? ⟨g0, 0, none⟩ = some (.int .i64 o.kind) := by rw [cell_of_blk hb02]; rfl
    have a1 : w2.cell? ⟨g0, 1, none⟩ = some (.slice A1 o.label.length c1) := by rw [cell_of_blk hb02]; rfl
    have a2 : w2.cell? ⟨g0, 2, none⟩ = some (.slice A2 o.kids.length c2) := by rw [cell_of_blk hb02]; rfl
    have a3 : w2.cell? ⟨g0, 3, none⟩ = some (.int .i64 o.next) := by rw [cell_of_blk hb02]; rfl
    have a4 : w2.cell? ⟨g0, 4, none⟩ = some (.slice A4 o.bytes.length c4) := by rw [cell_of_blk hb02]; rfl
    have a5 : w2.cell? ⟨g0, 5, none⟩ = some (.slice A5 o.own.length c5) := by rw [cell_of_blk hb02]; rfl
    have a6 : w2.cell? ⟨g0, 6, none⟩ = some (.int .i64 o.cats) := by rw [cell_of_blk hb02]; rfl
    have a7 : w2.cell? ⟨g0, 7, none⟩ = some (.slice A7 o.entry.length c7) := by rw [cell_of_blk hb02]; rfl
    have a8 : w2.cell? ⟨g0, 8, none⟩ = some (.int .i64 o.ring) := by rw [cell_of_blk hb02]; rfl
    have a9 : w2.cell? ⟨g0, 9, none⟩ = some (.slice A9 o.maps.length c9) := by rw [cell_of_blk hb02]; rfl
    have b0 : w2.cell? ⟨g1, 0, none⟩ = some (.int .i64 o1.kind) := by rw [cell_of_blk hb1]; rfl
    have b1 : w2.cell? ⟨g1, 1, none⟩ = some (.slice A1x o1.label.length c1x) := by rw [cell_of_blk hb1]; rfl
    have b2 : w2.cell? ⟨g1, 2, none⟩ = some (.slice A2x o1.kids.length c2x) := by rw [cell_of_blk hb1]; rfl
    have b3 : w2.cell? ⟨g1, 3, none⟩ = some (.int .i64 o1.next) := by rw [cell_of_blk hb1]; rfl
    have b4 : w2.cell? ⟨g1, 4, none⟩ = some (.slice A4x o1.bytes.length c4x) := by rw [cell_of_blk hb1]; rfl
    have b5 : w2.cell? ⟨g1, 5, none⟩ = some (.slice A5x o1.own.length c5x) := by rw [cell_of_blk hb1]; rfl
    have b6 : w2.cell? ⟨g1, 6, none⟩ = some (.int .i64 o1.cats) := by rw [cell_of_blk hb1]; rfl
    have b7 : w2.cell? ⟨g1, 7, none⟩ = some (.slice A7x o1.entry.length c7x) := by rw [cell_of_blk hb1]; rfl
    have b8 : w2.cell? ⟨g1, 8, none⟩ = some (.int .i64 o1.ring) := by rw [cell_of_blk hb1]; rfl
    have b9 : w2.cell? ⟨g1, 9, none⟩ = some (.slice A9x o1.maps.length c9x) := by rw [cell_of_blk hb1]; rfl
    obtain ⟨bR, hbR⟩ : ∃ x, x = rightOb o := ⟨_, rfl⟩
    have hR := rightOb_any _ o _ w2 (HOb.out w2 hm02) (HEn.out.mod0 hm02)
    rw [← hbR] at hR
    have H2 := Lib.hid (And.intro hm02 (And.intro hb02 (And.intro hb1 (And.intro (hm1 fun _ => False) (And.intro hR (And.intro hbR hg1)))))); clear hm02 hb02 hb1 hm1 hR hbR hg1
    by_cases hk : o1.kind = 1
    case neg =>
      have d1 : (o1.kind != 1) = true := by simpa using hk
      have hz : e0 = 31 := by rw [HE.out]; exact if_pos hk
      obtain ⟨z1, z2⟩ := HNot.out (by rw [hz]; decide)
      have HZ := Lib.hid (And.intro hz (And.intro z1 z2)); clear hz z1 z2 hk
      go_wp2_with fail
      go_ret2
      exact ⟨by rw [HZ.out.1, HZ.out.2.1]; first | done | rfl, by rw [HZ.out.2.2]; exact HTk.out _ H2.out.1, H2.out.1.mono (fun _ h => h.elim)⟩
    case pos =>
    have d1 : (o1.kind != 1) = false := by simpa using hk
    have HE1 := Lib.hid (HE.out.trans (if_neg (fun h => h hk)))
    have HK := Lib.hid hk; clear hk
    go_wp2_with fail
    refine H2.out.2.2.2.2.1.mono ?_
    rintro e w3 ⟨rfl, hm3⟩
    have hm03 := tr0 H2.out.1 hm3
    have hb03 := (hm3.block g0 (lt_of_blk H2.out.2.1) id).trans H2.out.2.1
    have hb13 := (hm3.block g1 (lt_of_blk H2.out.2.2.1) id).trans H2.out.2.2.1
    have a30 : w3.cell? ⟨g0, 0, none⟩ = some (.int .i64 o.kind) := by rw [cell_of_blk hb03]; rfl
    have a31 : w3.cell? ⟨g0, 1, none⟩ = some (.slice A1 o.label.length c1) := by rw [cell_of_blk hb03]; rfl
    have a32 : w3.cell? ⟨g0, 2, none⟩ = some (.slice A2 o.kids.length c2) := by rw [cell_of_blk hb03]; rfl
    have a33 : w3.cell? ⟨g0, 3, none⟩ = some (.int .i64 o.next) := by rw [cell_of_blk hb03]; rfl
    have a34 : w3.cell? ⟨g0, 4, none⟩ = some (.slice A4 o.bytes.length c4) := by rw [cell_of_blk hb03]; rfl
    have a35 : w3.cell? ⟨g0, 5, none⟩ = some (.slice A5 o.own.length c5) := by rw [cell_of_blk hb03]; rfl
    have a36 : w3.cell? ⟨g0, 6, none⟩ = some (.int .i64 o.cats) := by rw [cell_of_blk hb03]; rfl
    have a37 : w3.cell? ⟨g0, 7, none⟩ = some (.slice A7 o.entry.length c7) := by rw [cell_of_blk hb03]; rfl
    have a38 : w3.cell? ⟨g0, 8, none⟩ = some (.int .i64 o.ring) := by rw [cell_of_blk hb03]; rfl
    have a39 : w3.cell? ⟨g0, 9, none⟩ = some (.slice A9 o.maps.length c9) := by rw [cell_of_blk hb03]; rfl
    have b30 : w3.cell? ⟨g1, 0, none⟩ = some (.int .i64 o1.kind) := by rw [cell_of_blk hb13]; rfl
    have b31 : w3.cell? ⟨g1, 1, none⟩ = some (.slice A1x o1.label.length c1x) := by rw [cell_of_blk hb13]; rfl
    have b32 : w3.cell? ⟨g1, 2, none⟩ = some (.slice A2x o1.kids.length c2x) := by rw [cell_of_blk hb13]; rfl
    have b33 : w3.cell? ⟨g1, 3, none⟩ = some (.int .i64 o1.next) := by rw [cell_of_blk hb13]; rfl
    have b34 : w3.cell? ⟨g1, 4, none⟩ = some (.slice A4x o1.bytes.length c4x) := by rw [cell_of_blk hb13]; rfl
    have b35 : w3.cell? ⟨g1, 5, none⟩ = some (.slice A5x o1.own.length c5x) := by rw [cell_of_blk hb13]; rfl
    have b36 : w3.cell? ⟨g1, 6, none⟩ = some (.int .i64 o1.cats) := by rw [cell_of_blk hb13]; rfl
    have b37 : w3.cell? ⟨g1, 7, none⟩ = some (.slice A7x o1.entry.length c7x) := by rw [cell_of_blk hb13]; rfl
    have b38 : w3.cell? ⟨g1, 8, none⟩ = some (.int .i64 o1.ring) := by rw [cell_of_blk hb13]; rfl
    have b39 : w3.cell? ⟨g1, 9, none⟩ = some (.slice A9x o1.maps.length c9x) := by rw [cell_of_blk hb13]; rfl
    have H3 := Lib.hid (And.intro hm03 (And.intro hb03 (And.intro hb13 hm3))); clear hm03 hb03 hb13 hm3 a0 a1 a2 a3 a4 a5 a6 a7 a8 a9 b0 b1 b2 b3 b4 b5 b6 b7 b8 b9
    cases bR with
    | false =>
      have hz : e0 = 2 := by rw [HE1.out]; exact if_pos (by rw [← H2.out.2.2.2.2.2.1]; rfl)
      obtain ⟨z1, z2⟩ := HNot.out (by rw [hz]; decide)
      have HZ := Lib.hid (And.intro hz (And.intro z1 z2)); clear hz z1 z2
      go_wp2_with fail
      go_ret2
      exact ⟨by rw [HZ.out.1, HZ.out.2.1]; first | done | rfl, by rw [HZ.out.2.2]; exact HTk.out _ H3.out.1, H3.out.1.mono (fun _ h => h.elim)⟩
    | true =>
    by_cases hk0 : o.kids = []
    case neg =>
      have d2 : 0 < o.kids.length := List.length_pos_iff.2 hk0
      have hz : e0 = 2 := by rw [HE1.out]; exact if_pos (by rw [decide_eq_false hk0]; simp)
      obtain ⟨z1, z2⟩ := HNot.out (by rw [hz]; decide)
      have HZ := Lib.hid (And.intro hz (And.intro z1 z2)); clear hz z1 z2 hk0
      go_wp2_with fail
      go_ret2
      exact ⟨by rw [HZ.out.1, HZ.out.2.1]; first | done | rfl, by rw [HZ.out.2.2]; exact HTk.out _ H3.out.1, H3.out.1.mono (fun _ h => h.elim)⟩
    case pos =>
    have d2 : ¬ 0 < o.kids.length := by rw [hk0]; decide
    by_cases hn0 : o.next = 0
    case neg =>
      have d3 : (o.next != 0) = true := by simpa using hn0
      have hz : e0 = 2 := by rw [HE1.out]; exact if_pos (by rw [decide_eq_false hn0]; simp)
      obtain ⟨z1, z2⟩ := HNot.out (by rw [hz]; decide)
      have HZ := Lib.hid (And.intro hz (And.intro z1 z2)); clear hz z1 z2 hk0 hn0
      go_wp2_with fail
      go_ret2
      exact ⟨by rw [HZ.out.1, HZ.out.2.1]; first | done | rfl, by rw [HZ.out.2.2]; exact HTk.out _ H3.out.1, H3.out.1.mono (fun _ h => h.elim)⟩
    case pos =>
    have d3 : (o.next != 0) = false := by simpa using hn0
    have hbt := between_m q 0 1048576 w3
    obtain ⟨bq, hbq⟩ : ∃ x, x = decide (0 ≤ q ∧ q ≤ 1048576) := ⟨_, rfl⟩
    rw [← hbq] at hbt
    have HB := Lib.hid (And.intro hbt (And.intro hbq (And.intro hk0 hn0))); clear hbt hbq hk0 hn0
    go_wp2_with fail
    refine HB.out.1.mono ?_
    rintro e w4 ⟨rfl, hm4⟩
    have hm04 := tr0 H3.out.1 hm4
    have hb04 := (hm4.block g0 (lt_of_blk H3.out.2.1) id).trans H3.out.2.1
    have hb14 := (hm4.block g1 (lt_of_blk H3.out.2.2.1) id).trans H3.out.2.2.1
    have a40 : w4.cell? ⟨g0, 0, none⟩ = some (.int .i64 o.kind) := by rw [cell_of_blk hb04]; rfl
    have a41 : w4.cell? ⟨g0, 1, none⟩ = some (.slice A1 o.label.length c1) := by rw [cell_of_blk hb04]; rfl
    have a42 : w4.cell? ⟨g0, 2, none⟩ = some (.slice A2 o.kids.length c2) := by rw [cell_of_blk hb04]; rfl
    have a43 : w4.cell? ⟨g0, 3, none⟩ = some (.int .i64 o.next) := by rw [cell_of_blk hb04]; rfl
    have a44 : w4.cell? ⟨g0, 4, none⟩ = some (.slice A4 o.bytes.length c4) := by rw [cell_of_blk hb04]; rfl
    have a45 : w4.cell? ⟨g0, 5, none⟩ = some (.slice A5 o.own.length c5) := by rw [cell_of_blk hb04]; rfl
    have a46 : w4.cell? ⟨g0, 6, none⟩ = some (.int .i64 o.cats) := by rw [cell_of_blk hb04]; rfl
    have a47 : w4.cell? ⟨g0, 7, none⟩ = some (.slice A7 o.entry.length c7) := by rw [cell_of_blk hb04]; rfl
    have a48 : w4.cell? ⟨g0, 8, none⟩ = some (.int .i64 o.ring) := by rw [cell_of_blk hb04]; rfl
    have a49 : w4.cell? ⟨g0, 9, none⟩ = some (.slice A9 o.maps.length c9) := by rw [cell_of_blk hb04]; rfl
    have b40 : w4.cell? ⟨g1, 0, none⟩ = some (.int .i64 o1.kind) := by rw [cell_of_blk hb14]; rfl
    have b41 : w4.cell? ⟨g1, 1, none⟩ = some (.slice A1x o1.label.length c1x) := by rw [cell_of_blk hb14]; rfl
    have b42 : w4.cell? ⟨g1, 2, none⟩ = some (.slice A2x o1.kids.length c2x) := by rw [cell_of_blk hb14]; rfl
    have b43 : w4.cell? ⟨g1, 3, none⟩ = some (.int .i64 o1.next) := by rw [cell_of_blk hb14]; rfl
    have b44 : w4.cell? ⟨g1, 4, none⟩ = some (.slice A4x o1.bytes.length c4x) := by rw [cell_of_blk hb14]; rfl
    have b45 : w4.cell? ⟨g1, 5, none⟩ = some (.slice A5x o1.own.length c5x) := by rw [cell_of_blk hb14]; rfl
    have b46 : w4.cell? ⟨g1, 6, none⟩ = some (.int .i64 o1.cats) := by rw [cell_of_blk hb14]; rfl
    have b47 : w4.cell? ⟨g1, 7, none⟩ = some (.slice A7x o1.entry.length c7x) := by rw [cell_of_blk hb14]; rfl
    have b48 : w4.cell? ⟨g1, 8, none⟩ = some (.int .i64 o1.ring) := by rw [cell_of_blk hb14]; rfl
    have b49 : w4.cell? ⟨g1, 9, none⟩ = some (.slice A9x o1.maps.length c9x) := by rw [cell_of_blk hb14]; rfl
    have H4 := Lib.hid (And.intro hm04 (And.intro hb04 (And.intro hb14 (tr0 H3.out.2.2.2 hm4)))); clear hm04 hb04 hb14 hm4 a30 a31 a32 a33 a34 a35 a36 a37 a38 a39 b30 b31 b32 b33 b34 b35 b36 b37 b38 b39
    have hiq : inQ q = bq := by rw [HB.out.2.1]; unfold inQ; by_cases h1 : 0 ≤ q <;> by_cases h2 : q ≤ 1048576 <;> simp [h1, h2]
    have HIQ := Lib.hid hiq; clear hiq
    cases bq with
    | false =>
      have hz : e0 = 2 := by rw [HE1.out]; exact if_pos (by rw [HIQ.out]; simp)
      obtain ⟨z1, z2⟩ := HNot.out (by rw [hz]; decide)
      have HZ := Lib.hid (And.intro hz (And.intro z1 z2)); clear hz z1 z2
      go_wp2_with fail
      go_ret2
      exact ⟨by rw [HZ.out.1, HZ.out.2.1]; first | done | rfl, by rw [HZ.out.2.2]; exact HTk.out _ H4.out.1, H4.out.1.mono (fun _ h => h.elim)⟩
    | true =>
    have hqr : 0 ≤ q ∧ q ≤ 1048576 := inQ_iff.1 HIQ.out
    have hE2 := HE1.out
    rw [← H2.out.2.2.2.2.2.1, decide_eq_true HB.out.2.2.1, decide_eq_true HB.out.2.2.2, HIQ.out] at hE2
    have HE2 := Lib.hid (hE2.trans (if_neg (by decide))); clear hE2
    have HQR := Lib.hid hqr; clear hqr
    have hl1 := Rd.mod HC.out.lab (tr0 H2.out.2.2.2.1 H4.out.2.2.2) (fun _ _ => id)
    have hl2 := Rd.mod HLb.out H4.out.1 (fun _ _ => id)
    have hfl := flows_any A1x _ c1x A1 _ c1 o1.label o.label _ _ w4 hl1 hl2 (HEn.out.mod0 H4.out.1)
    obtain ⟨bF, hbF⟩ : ∃ x, x = flowsLB o1.label o.label := ⟨_, rfl⟩
    rw [← hbF] at hfl
    have HF := Lib.hid (And.intro hfl hbF); clear hfl hbF hl1 hl2
    go_wp2_with fail
    refine HF.out.1.mono ?_
    rintro e w5 ⟨rfl, hm5⟩
    have hm05 := tr0 H4.out.1 hm5
    have hb05 := (hm5.block g0 (lt_of_blk H4.out.2.1) id).trans H4.out.2.1
    have hb15 := (hm5.block g1 (lt_of_blk H4.out.2.2.1) id).trans H4.out.2.2.1
    have a50 : w5.cell? ⟨g0, 0, none⟩ = some (.int .i64 o.kind) := by rw [cell_of_blk hb05]; rfl
    have a51 : w5.cell? ⟨g0, 1, none⟩ = some (.slice A1 o.label.length c1) := by rw [cell_of_blk hb05]; rfl
    have a52 : w5.cell? ⟨g0, 2, none⟩ = some (.slice A2 o.kids.length c2) := by rw [cell_of_blk hb05]; rfl
    have a53 : w5.cell? ⟨g0, 3, none⟩ = some (.int .i64 o.next) := by rw [cell_of_blk hb05]; rfl
    have a54 : w5.cell? ⟨g0, 4, none⟩ = some (.slice A4 o.bytes.length c4) := by rw [cell_of_blk hb05]; rfl
    have a55 : w5.cell? ⟨g0, 5, none⟩ = some (.slice A5 o.own.length c5) := by rw [cell_of_blk hb05]; rfl
    have a56 : w5.cell? ⟨g0, 6, none⟩ = some (.int .i64 o.cats) := by rw [cell_of_blk hb05]; rfl
    have a57 : w5.cell? ⟨g0, 7, none⟩ = some (.slice A7 o.entry.length c7) := by rw [cell_of_blk hb05]; rfl
    have a58 : w5.cell? ⟨g0, 8, none⟩ = some (.int .i64 o.ring) := by rw [cell_of_blk hb05]; rfl
    have a59 : w5.cell? ⟨g0, 9, none⟩ = some (.slice A9 o.maps.length c9) := by rw [cell_of_blk hb05]; rfl
    have b50 : w5.cell? ⟨g1, 0, none⟩ = some (.int .i64 o1.kind) := by rw [cell_of_blk hb15]; rfl
    have b51 : w5.cell? ⟨g1, 1, none⟩ = some (.slice A1x o1.label.length c1x) := by rw [cell_of_blk hb15]; rfl
    have b52 : w5.cell? ⟨g1, 2, none⟩ = some (.slice A2x o1.kids.length c2x) := by rw [cell_of_blk hb15]; rfl
    have b53 : w5.cell? ⟨g1, 3, none⟩ = some (.int .i64 o1.next) := by rw [cell_of_blk hb15]; rfl
    have b54 : w5.cell? ⟨g1, 4, none⟩ = some (.slice A4x o1.bytes.length c4x) := by rw [cell_of_blk hb15]; rfl
    have b55 : w5.cell? ⟨g1, 5, none⟩ = some (.slice A5x o1.own.length c5x) := by rw [cell_of_blk hb15]; rfl
    have b56 : w5.cell? ⟨g1, 6, none⟩ = some (.int .i64 o1.cats) := by rw [cell_of_blk hb15]; rfl
    have b57 : w5.cell? ⟨g1, 7, none⟩ = some (.slice A7x o1.entry.length c7x) := by rw [cell_of_blk hb15]; rfl
    have b58 : w5.cell? ⟨g1, 8, none⟩ = some (.int .i64 o1.ring) := by rw [cell_of_blk hb15]; rfl
    have b59 : w5.cell? ⟨g1, 9, none⟩ = some (.slice A9x o1.maps.length c9x) := by rw [cell_of_blk hb15]; rfl
    have H5 := Lib.hid (And.intro hm05 (And.intro hb05 (And.intro hb15 (tr0 H4.out.2.2.2 hm5)))); clear hm05 hb05 hb15 hm5 a40 a41 a42 a43 a44 a45 a46 a47 a48 a49 b40 b41 b42 b43 b44 b45 b46 b47 b48 b49
    cases bF with
    | false =>
      have hz : e0 = 21 := by rw [HE2.out]; exact if_pos (by rw [← HF.out.2]; rfl)
      obtain ⟨z1, z2⟩ := HNot.out (by rw [hz]; decide)
      have HZ := Lib.hid (And.intro hz (And.intro z1 z2)); clear hz z1 z2
      go_wp2_with fail
      go_ret2
      exact ⟨by rw [HZ.out.1, HZ.out.2.1]; first | done | rfl, by rw [HZ.out.2.2]; exact HTk.out _ H5.out.1, H5.out.1.mono (fun _ h => h.elim)⟩
    | true =>
    have hE3 := HE2.out
    rw [← HF.out.2] at hE3
    have HE3 := Lib.hid (hE3.trans (if_neg (by decide))); clear hE3
    by_cases hl6 : p.length = 6
    case pos =>
      have d4 : ((p.length : Int) == 6) = true := by rw [hl6]; rfl
      have hz : e0 = 30 := by rw [HE3.out]; exact if_pos hl6
      obtain ⟨z1, z2⟩ := HNot.out (by rw [hz]; decide)
      have HZ := Lib.hid (And.intro hz (And.intro z1 z2)); clear hz z1 z2 hl6
      go_wp2_with fail
      go_ret2
      exact ⟨by rw [HZ.out.1, HZ.out.2.1]; first | done | rfl, by rw [HZ.out.2.2]; exact HTk.out _ H5.out.1, H5.out.1.mono (fun _ h => h.elim)⟩
    case neg =>
    have d4 : ((p.length : Int) == 6) = false := by simp; omega
    have d4' : (p.length == 6) = false := by simpa using hl6
    have d4b : ¬ p.length = 6 := hl6
    have HE4 := Lib.hid (HE3.out.trans (if_neg hl6))
    have HL6 := Lib.hid hl6; clear hl6
    by_cases hk16 : o1.kids.length = 16
    case pos =>
      have d5 : ((o1.kids.length : Int) == 16) = true := by rw [hk16]; rfl
      have hz : e0 = 34 := by rw [HE4.out]; exact if_pos hk16
      obtain ⟨z1, z2⟩ := HNot.out (by rw [hz]; decide)
      have HZ := Lib.hid (And.intro hz (And.intro z1 z2)); clear hz z1 z2 hk16
      go_wp2_with fail
      go_ret2
      exact ⟨by rw [HZ.out.1, HZ.out.2.1]; first | done | rfl, by rw [HZ.out.2.2]; exact HTk.out _ H5.out.1, H5.out.1.mono (fun _ h => h.elim)⟩
    case neg =>
    have d5 : ((o1.kids.length : Int) == 16) = false := by simp; omega
    have d5' : (o1.kids.length == 16) = false := by simpa using hk16
    have d5b : ¬ o1.kids.length = 16 := hk16
    have HE5 := Lib.hid (HE4.out.trans (if_neg hk16))
    have HK16 := Lib.hid hk16; clear hk16
    by_cases hnx : 1048576 < o1.next
    case pos =>
      have d6 : decide (1048576 < o1.next) = true := decide_eq_true hnx
      have hz : e0 = 35 := by rw [HE5.out]; exact if_pos hnx
      obtain ⟨z1, z2⟩ := HNot.out (by rw [hz]; decide)
      have HZ := Lib.hid (And.intro hz (And.intro z1 z2)); clear hz z1 z2 hnx
      go_wp2_with fail
      go_ret2
      exact ⟨by rw [HZ.out.1, HZ.out.2.1]; first | done | rfl, by rw [HZ.out.2.2]; exact HTk.out _ H5.out.1, H5.out.1.mono (fun _ h => h.elim)⟩
    case neg =>
    have d6 : decide (1048576 < o1.next) = false := decide_eq_false hnx
    have HE6 := Lib.hid (HE5.out.trans (if_neg hnx))
    have HNX := Lib.hid hnx; clear hnx
    have hroO : RightOb o := rightOb_iff.1 H2.out.2.2.2.2.2.1.symm
    have hus1 := fun W (hW : Mod (fun _ => False) w5 W) => uses_m _ o _ W (HOb.out W (tr0 H5.out.1 hW)) hroO.kids
    have hobc := Rd.mod (HC.out.reads (by have := HRo.out.kids.len; omega)) (tr0 H2.out.2.2.2.1 H5.out.2.2.2) (fun _ _ => id)
    have hus2 := fun W (hW : Mod (fun _ => False) w5 W) => uses_m [.int .i64 o1.kind, .slice A1x o1.label.length c1x, .slice A2x o1.kids.length c2x, .int .i64 o1.next, .slice A4x o1.bytes.length c4x, .slice A5x o1.own.length c5x, .int .i64 o1.cats, .slice A7x o1.entry.length c7x, .int .i64 o1.ring, .slice A9x o1.maps.length c9x] o1 _ W (Rd.mod hobc hW (fun _ _ => id)) HRo.out.kids
    have hqu := fun W (hW : Mod (fun _ => False) w5 W) => HQuo.out W (tr0 H5.out.1 hW)
    obtain ⟨us1, hs1⟩ : ∃ x, x = usesO o := ⟨_, rfl⟩
    obtain ⟨us2, hs2⟩ : ∃ x, x = usesO o1 := ⟨_, rfl⟩
    have hz := HE6.out
    rw [← hs1] at hus1 hz
    rw [← hs2] at hus2 hz
    have hqr := HQr.out
    rw [← hs2] at hqr
    have hup := usesO_pos HRo.out
    rw [← hs2] at hup
    have hwr : IntKind.i64.wrap (us2 + q) = us2 + q := by have := HQR.out; rw [IntKind.wrap_i64]; omega
    have HU := Lib.hid (And.intro hus1 (And.intro hus2 (And.intro hqu (And.intro hz (And.intro hobc hroO))))); clear hus1 hus2 hqu hz hobc hs1 hs2 hqr hup hroO
    by_cases h9 : q < us1
    case pos =>
      have d9 : decide (q < us1) = true := decide_eq_true h9
      have hz : e0 = 33 := by rw [HU.out.2.2.2.1]; exact if_pos (.inl h9)
      obtain ⟨z1, z2⟩ := HNot.out (by rw [hz]; decide)
      have HZ := Lib.hid (And.intro hz (And.intro z1 z2)); clear hz z1 z2 h9
      go_wp2_with (go_at_call 13; refine (HU.out.1 _ (.refl _ _)).mono ?_; rintro e w6 ⟨rfl, hm6⟩; have H6 := Lib.hid (tr0 H5.out.1 hm6); clear hm6)
      go_ret2
      exact ⟨by rw [HZ.out.1, HZ.out.2.1]; first | done | rfl, by rw [HZ.out.2.2]; exact HTk.out _ H6.out, H6.out.mono (fun _ h => h.elim)⟩
    case neg =>
    have d9 : decide (q < us1) = false := decide_eq_false h9
    go_wp2_with fail
    refine (HU.out.1 _ (.refl _ _)).mono ?_
    rintro e w6 ⟨rfl, hm6⟩
    have hb16 := (hm6.block g1 (lt_of_blk H5.out.2.2.1) id).trans H5.out.2.2.1
    have b60 : w6.cell? ⟨g1, 0, none⟩ = some (.int .i64 o1.kind) := by rw [cell_of_blk hb16]; rfl
    have b61 : w6.cell? ⟨g1, 1, none⟩ = some (.slice A1x o1.label.length c1x) := by rw [cell_of_blk hb16]; rfl
    have b62 : w6.cell? ⟨g1, 2, none⟩ = some (.slice A2x o1.kids.length c2x) := by rw [cell_of_blk hb16]; rfl
    have b63 : w6.cell? ⟨g1, 3, none⟩ = some (.int .i64 o1.next) := by rw [cell_of_blk hb16]; rfl
    have b64 : w6.cell? ⟨g1, 4, none⟩ = some (.slice A4x o1.bytes.length c4x) := by rw [cell_of_blk hb16]; rfl
    have b65 : w6.cell? ⟨g1, 5, none⟩ = some (.slice A5x o1.own.length c5x) := by rw [cell_of_blk hb16]; rfl
    have b66 : w6.cell? ⟨g1, 6, none⟩ = some (.int .i64 o1.cats) := by rw [cell_of_blk hb16]; rfl
    have b67 : w6.cell? ⟨g1, 7, none⟩ = some (.slice A7x o1.entry.length c7x) := by rw [cell_of_blk hb16]; rfl
    have b68 : w6.cell? ⟨g1, 8, none⟩ = some (.int .i64 o1.ring) := by rw [cell_of_blk hb16]; rfl
    have b69 : w6.cell? ⟨g1, 9, none⟩ = some (.slice A9x o1.maps.length c9x) := by rw [cell_of_blk hb16]; rfl
    have H6 := Lib.hid hm6; clear hm6 hb16
    go_wp2_with fail
    refine (HU.out.2.1 _ H6.out).mono ?_
    rintro e w7 ⟨rfl, hm7⟩
    have H7 := Lib.hid (tr0 H6.out hm7); clear hm7
    go_wp2_with fail
    refine (HU.out.2.2.1 _ H7.out).mono ?_
    rintro e w8 ⟨rfl, hm8⟩
    have hm58 := tr0 H7.out hm8
    have hm08 := tr0 H5.out.1 hm58
    have hb08 := (hm58.block g0 (lt_of_blk H5.out.2.1) id).trans H5.out.2.1
    have hb18 := (hm58.block g1 (lt_of_blk H5.out.2.2.1) id).trans H5.out.2.2.1
    have a80 : w8.cell? ⟨g0, 0, none⟩ = some (.int .i64 o.kind) := by rw [cell_of_blk hb08]; rfl
    have a81 : w8.cell? ⟨g0, 1, none⟩ = some (.slice A1 o.label.length c1) := by rw [cell_of_blk hb08]; rfl
    have a82 : w8.cell? ⟨g0, 2, none⟩ = some (.slice A2 o.kids.length c2) := by rw [cell_of_blk hb08]; rfl
    have a83 : w8.cell? ⟨g0, 3, none⟩ = some (.int .i64 o.next) := by rw [cell_of_blk hb08]; rfl
    have a84 : w8.cell? ⟨g0, 4, none⟩ = some (.slice A4 o.bytes.length c4) := by rw [cell_of_blk hb08]; rfl
    have a85 : w8.cell? ⟨g0, 5, none⟩ = some (.slice A5 o.own.length c5) := by rw [cell_of_blk hb08]; rfl
    have a86 : w8.cell? ⟨g0, 6, none⟩ = some (.int .i64 o.cats) := by rw [cell_of_blk hb08]; rfl
    have a87 : w8.cell? ⟨g0, 7, none⟩ = some (.slice A7 o.entry.length c7) := by rw [cell_of_blk hb08]; rfl
    have a88 : w8.cell? ⟨g0, 8, none⟩ = some (.int .i64 o.ring) := by rw [cell_of_blk hb08]; rfl
    have a89 : w8.cell? ⟨g0, 9, none⟩ = some (.slice A9 o.maps.length c9) := by rw [cell_of_blk hb08]; rfl
    have b80 : w8.cell? ⟨g1, 0, none⟩ = some (.int .i64 o1.kind) := by rw [cell_of_blk hb18]; rfl
    have b81 : w8.cell? ⟨g1, 1, none⟩ = some (.slice A1x o1.label.length c1x) := by rw [cell_of_blk hb18]; rfl
    have b82 : w8.cell? ⟨g1, 2, none⟩ = some (.slice A2x o1.kids.length c2x) := by rw [cell_of_blk hb18]; rfl
    have b83 : w8.cell? ⟨g1, 3, none⟩ = some (.int .i64 o1.next) := by rw [cell_of_blk hb18]; rfl
    have b84 : w8.cell? ⟨g1, 4, none⟩ = some (.slice A4x o1.bytes.length c4x) := by rw [cell_of_blk hb18]; rfl
    have b85 : w8.cell? ⟨g1, 5, none⟩ = some (.slice A5x o1.own.length c5x) := by rw [cell_of_blk hb18]; rfl
    have b86 : w8.cell? ⟨g1, 6, none⟩ = some (.int .i64 o1.cats) := by rw [cell_of_blk hb18]; rfl
    have b87 : w8.cell? ⟨g1, 7, none⟩ = some (.slice A7x o1.entry.length c7x) := by rw [cell_of_blk hb18]; rfl
    have b88 : w8.cell? ⟨g1, 8, none⟩ = some (.int .i64 o1.ring) := by rw [cell_of_blk hb18]; rfl
    have b89 : w8.cell? ⟨g1, 9, none⟩ = some (.slice A9x o1.maps.length c9x) := by rw [cell_of_blk hb18]; rfl
    have H8 := Lib.hid (And.intro hm08 (And.intro hb08 (And.intro hb18 (And.intro hm58 (tr0 H5.out.2.2.2 hm58))))); clear hm08 hb08 hb18 hm58 hm8 a50 a51 a52 a53 a54 a55 a56 a57 a58 a59 b50 b51 b52 b53 b54 b55 b56 b57 b58 b59 b60 b61 b62 b63 b64 b65 b66 b67 b68 b69
    by_cases h10 : qu < us2 + q
    case pos =>
      have d10 : decide (qu < us2 + q) = true := decide_eq_true h10
      have hz : e0 = 33 := by rw [HU.out.2.2.2.1]; exact if_pos (.inr h10)
      obtain ⟨z1, z2⟩ := HNot.out (by rw [hz]; decide)
      have HZ := Lib.hid (And.intro hz (And.intro z1 z2)); clear hz z1 z2 h9 h10
      go_wp2_with fail
      go_ret2
      exact ⟨by rw [HZ.out.1, HZ.out.2.1]; first | done | rfl, by rw [HZ.out.2.2]; exact HTk.out _ H8.out.1, H8.out.1.mono (fun _ h => h.elim)⟩
    case neg =>
    have d10 : decide (qu < us2 + q) = false := decide_eq_false h10
    have hz : e0 = 0 := by rw [HU.out.2.2.2.1]; exact if_neg (by rintro (h | h) <;> omega)
    have HZ := Lib.hid (And.intro hz (HYes.out hz)); clear hz h9 h10
    have hE0 := HEn.out
    have hnxr := HRo.out.kids.next
    have hwn : IntKind.i64.wrap (o1.next + 1) = o1.next + 1 := by rw [IntKind.wrap_i64]; omega
    have hnin : Rd.inR .i64 o1.next := inR_mk (by omega)
    have hnin1 : Rd.inR .i64 (o1.next + 1) := inR_mk (by omega)
    have hm18 := tr0 H2.out.2.2.2.1 H8.out.2.2.2.2
    have hcp8 := HC.out.later hm18
    have HN := Lib.hid (And.intro hnin (And.intro hnin1 (And.intro hm18 hcp8))); clear hnin hnin1 hm18 hcp8 hE0 hnxr
    go_wp2_with (at_builtin; refine append_rd (R := KidR) w0.heap.size rfl _ _ 35 43 (.agg #[.int .i64 0, .int .i64 0, .int .i64 0]) 24 rfl Tryz.underlying35 Tryz.info_kd3 rfl (by decide) (.slice A2x o1.kids.length c2x) o1.kids ⟨o1.next, o.kind, q⟩ [.int .i64 o1.next, .int .i64 o.kind, .int .i64 q] (fun _ => False) rfl rfl HN.out.2.2.2.kid (KidR_mk ⟨o1.next, o.kind, q⟩ ⟨HN.out.1, HInt.out.1, HInt.out.2⟩) (by have := HC.out.mod.size; have := HN.out.2.2.1.size; omega) (by have := HRo.out.kids.len; omega) ?_)
    intro A8 c8 w9 hO9 hm9 hn9
    have hg1 := H2.out.2.2.2.2.2.2
    have hkl := fun b (hb : (Value.slice A2x o1.kids.length c2x).ownBlock = some b) => own_ge HC.out.kid hb
    have hb19 := (hm9.block g1 (lt_of_blk H8.out.2.2.1) (fun hb => by have := (hkl _ hb).2; omega)).trans H8.out.2.2.1
    have y2 : w9.cell? ⟨g1, 2, none⟩ = some (.slice A2x o1.kids.length c2x) := by rw [cell_of_blk hb19]; rfl
    have y3 : w9.cell? ⟨g1, 3, none⟩ = some (.int .i64 o1.next) := by rw [cell_of_blk hb19]; rfl
    have f2 : w9.frozen? ⟨g1, 2, none⟩ = false := free_of_blk hb19 2
    have f3 : w9.frozen? ⟨g1, 3, none⟩ = false := free_of_blk hb19 3
    have H9 := Lib.hid (And.intro hO9 (And.intro hm9 (And.intro hn9 (And.intro hb19 (And.intro hkl hg1))))); clear hO9 hm9 hn9 hb19 hkl hg1
    go_upto_region 22 with fail
    clear a80 a81 a82 a83 a84 a85 a86 a87 a88 a89 b80 b81 b82 b83 b84 b85 b86 b87 b88 b89 d1 d2 d3 d4 d4' d4b d5 d5' d5b d6 d9 d10 hwr
    obtain ⟨w10, hw10⟩ : ∃ x, x = (w9.setCell ⟨g1, 2, none⟩ (.slice A8 (o1.kids.length + 1) c8)).setCell ⟨g1, 3, none⟩ (.int .i64 (o1.next + 1)) := ⟨_, rfl⟩
    rw [← hw10]
    have mx : Mod (fun b => b = g1) w9 w10 := by rw [hw10]; exact ((Mod.refl (fun b => b = g1) w9).setCell (a := ⟨g1, 2, none⟩) (.inl rfl) _).setCell (a := ⟨g1, 3, none⟩) (.inl rfl) _
    have hb10 : w10.heap[g1]? = some (.cells #[.int .i64 o1.kind, .slice A1x o1.label.length c1x, .slice A8 (o1.kids.length + 1) c8, .int .i64 (o1.next + 1), .slice A4x o1.bytes.length c4x, .slice A5x o1.own.length c5x, .int .i64 o1.cats, .slice A7x o1.entry.length c7x, .int .i64 o1.ring, .slice A9x o1.maps.length c9x] 39 (0, 0)) := by
      rw [hw10]
      exact set_of_blk (set_of_blk H9.out.2.2.2.1 2 _) 3 _
    have hg1 := H9.out.2.2.2.2.2
    have hkl := H9.out.2.2.2.2.1
    have h18 := HN.out.2.2.1
    have hs18 := h18.size
    have hg1l := lt_of_blk H8.out.2.2.1
    have hm1_10 : Mod (fun b => (Value.slice A2x o1.kids.length c2x).ownBlock = some b) w1 w10 := ((h18.mono (fun _ h => h.elim)).trans H9.out.2.1 (fun b hb => .inl hb)).trans mx (fun b hb => .inr (by omega))
    have hO10 := H9.out.1.mod mx (fun b hb e => by
      rcases H9.out.2.2.1 with hn | ⟨b2, hn, hl⟩
      · rw [hn] at hb; have := (hkl _ hb).2; omega
      · rw [hn] at hb; cases hb; omega) (fun _ h => h.elim)
    have hn10 : NewOr w1 (.slice A2x o1.kids.length c2x) (.slice A8 (o1.kids.length + 1) c8) := by
      rcases H9.out.2.2.1 with hn | ⟨b2, hn, hl⟩
      · exact .inl hn
      · exact .inr ⟨b2, hn, by omega⟩
    have hcp10 := HC.out.addKid hO10 hm1_10 hn10 HN.out.2.1
    have hlen : (withKid o1 ⟨o1.next, o.kind, q⟩).kids.length = o1.kids.length + 1 := by simp [withKid]
    have hob10 := hcp10.reads (by rw [hlen]; have := HRo.out.kids.len; omega)
    rw [hlen] at hob10
    have hob10 : ObR.rel w10 _ [.int .i64 o1.kind, .slice A1x o1.label.length c1x, .slice A8 (o1.kids.length + 1) c8, .int .i64 (o1.next + 1), .slice A4x o1.bytes.length c4x, .slice A5x o1.own.length c5x, .int .i64 o1.cats, .slice A7x o1.entry.length c7x, .int .i64 o1.ring, .slice A9x o1.maps.length c9x] (withKid o1 ⟨o1.next, o.kind, q⟩) := hob10
    have hm0_10 : Mod (fun _ => False) w w10 := HM0.out.1.trans (hcp10.mod) (fun _ h => h.elim)
    have hs0 := HM0.out.1.size
    have hob10 := Rd.mono hob10 (ok1 := fun b => S b ∨ ok2 b ∨ w.heap.size ≤ b) (fun b hb => by
      rcases hb with hb | hb
      · exact .inl hb.1.1
      · exact .inr (.inr (by omega)))
    have hT10 := HTk.out _ hm0_10
    have c0 : w10.cell? ⟨g, 0, none⟩ = some (.map (some mb)) := by rw [cell_of_blk hT10.blk]; rfl
    have n10 := fun W : ModW w10 => ModW.cell c0 W
    have htx := fun W : ModW w10 => textP_any A c _ p _ W.1 (Rd.mod HRd.out (tr0 hm0_10 W.2) (fun _ _ => id)) (by omega) (HEn.out.mod0 (tr0 hm0_10 W.2))
    have m0 : w10.cell? ⟨g1, 0, none⟩ = some (.int .i64 o1.kind) := by rw [cell_of_blk hb10]; rfl
    have n0 := fun W : ModW w10 => ModW.cell m0 W
    have m1 : w10.cell? ⟨g1, 1, none⟩ = some (.slice A1x o1.label.length c1x) := by rw [cell_of_blk hb10]; rfl
    have n1 := fun W : ModW w10 => ModW.cell m1 W
    have m2 : w10.cell? ⟨g1, 2, none⟩ = some (.slice A8 (o1.kids.length + 1) c8) := by rw [cell_of_blk hb10]; rfl
    have n2 := fun W : ModW w10 => ModW.cell m2 W
    have m3 : w10.cell? ⟨g1, 3, none⟩ = some (.int .i64 (o1.next + 1)) := by rw [cell_of_blk hb10]; rfl
    have n3 := fun W : ModW w10 => ModW.cell m3 W
    have m4 : w10.cell? ⟨g1, 4, none⟩ = some (.slice A4x o1.bytes.length c4x) := by rw [cell_of_blk hb10]; rfl
    have n4 := fun W : ModW w10 => ModW.cell m4 W
    have m5 : w10.cell? ⟨g1, 5, none⟩ = some (.slice A5x o1.own.length c5x) := by rw [cell_of_blk hb10]; rfl
    have n5 := fun W : ModW w10 => ModW.cell m5 W
    have m6 : w10.cell? ⟨g1, 6, none⟩ = some (.int .i64 o1.cats) := by rw [cell_of_blk hb10]; rfl
    have n6 := fun W : ModW w10 => ModW.cell m6 W
    have m7 : w10.cell? ⟨g1, 7, none⟩ = some (.slice A7x o1.entry.length c7x) := by rw [cell_of_blk hb10]; rfl
    have n7 := fun W : ModW w10 => ModW.cell m7 W
    have m8 : w10.cell? ⟨g1, 8, none⟩ = some (.int .i64 o1.ring) := by rw [cell_of_blk hb10]; rfl
    have n8 := fun W : ModW w10 => ModW.cell m8 W
    have m9 : w10.cell? ⟨g1, 9, none⟩ = some (.slice A9x o1.maps.length c9x) := by rw [cell_of_blk hb10]; rfl
    have n9 := fun W : ModW w10 => ModW.cell m9 W
    have hb0_10 := (hcp10.mod.block g0 (lt_of_blk HM0.out.2.1) id).trans HM0.out.2.1
    have H10 := Lib.hid (And.intro hm0_10 (And.intro htx (And.intro hob10 hb0_10))); clear hT10 htx hob10 hm0_10 hcp10 hn10 hO10 hm1_10 hg1l hs18 h18 hkl hg1 hb10 mx hw10 hs0 hlen y2 y3 f2 f3 hb0_10 c0 m0 m1 m2 m3 m4 m5 m6 m7 m8 m9
    refine wp_region_last 8 7 1 rfl rfl (by kernel_rfl) (by kernel_rfl) (fun R hR => ?_)
    iterate 7 (first
      | ((first | refine wpQuiet_none hR rfl (fun K hK => ?_) | refine wpQuiet_take hR (by rfl) (fun K hK => ?_)); clear hR R; go_simp; first | (refine hK _ (fun R hR => ?_); clear hK K) | (apply Exists.intro; refine ⟨fun _ => ?_, hK _ (fun R hR => ?_)⟩; (first | (go_at_call 25; exact quiet_mod (H10.out.2.1 _))); clear hK K))
      | (refine wpQuiet_skip hR (by rfl) (fun K hK => ?_); clear hR R; go_simp; refine hK _ (fun R hR => ?_); clear hK K))
    refine wpQuiet_end hR ?_
    clear hR R
    rintro _ ⟨W, rfl⟩
    obtain ⟨w11, hw11⟩ : ∃ w11, w11 = W.1 := ⟨_, rfl⟩
    have hm11 : Mod (fun _ => False) w10 w11 := by rw [hw11]; exact W.2
    rw [← hw11]
    clear hw11 W n0 n1 n2 n3 n4 n5 n6 n7 n8 n9 n10
    have hT11 := HTk.out _ (tr0 H10.out.1 hm11)
    obtain ⟨w12, hr12, hT12, hm12⟩ := hT11.run_put p (withKid o1 ⟨o1.next, o.kind, q⟩) [.int .i64 o1.kind, .slice A1x o1.label.length c1x, .slice A8 (o1.kids.length + 1) c8, .int .i64 (o1.next + 1), .slice A4x o1.bytes.length c4x, .slice A5x o1.own.length c5x, .int .i64 o1.cats, .slice A7x o1.entry.length c7x, .int .i64 o1.ring, .slice A9x o1.maps.length c9x] (Rd.mod H10.out.2.2.1 hm11 (fun _ _ => id))
    have hr12' : (Instr.mapUpdate 63 (.map (some mb)) (encS (pathT p)) (.agg #[.int .i64 o1.kind, .slice A1x o1.label.length c1x, .slice A8 (o1.kids.length + 1) c8, .int .i64 (o1.next + 1), .slice A4x o1.bytes.length c4x, .slice A5x o1.own.length c5x, .int .i64 o1.cats, .slice A7x o1.entry.length c7x, .int .i64 o1.ring, .slice A9x o1.maps.length c9x])).run Tryz.prog w11 = .ok () w12 := hr12
    have hm012 : Mod (fun b => b = mb) w w12 := ((tr0 H10.out.1 hm11).mono (fun _ h => h.elim)).trans hm12 (fun b hb => .inl hb)
    have hb012 := (((hm11.mono (fun _ h => h.elim) : Mod (fun b => b = mb) w10 w11).trans hm12 (fun b hb => .inl hb)).block g0 (lt_of_blk H10.out.2.2.2) (by have := HM0.out.2.2; omega)).trans H10.out.2.2.2
    have H12 := Lib.hid (And.intro hT12 (And.intro hm012 hb012))
    clear hm11 hT11 hr12 hT12 hm12 hm012 hb012
    refine wpAny_ready (rs := [7]) (by kernel_rfl) (by simp) ?_
    refine AllReady.cons rfl (fun K hK => ?_) AllReady.nil
    go_simp
    refine hK _ _ ?_; clear hK K
    refine wpAny_done (by kernel_rfl) ?_ 0
    clear hr12'
    have hp6 := HP6.out
    have hl6 := HL6.out
    have hnxr := HRo.out.kids.next
    have hnx := HNX.out
    have hrp : rightP (p ++ [o1.next]) = true := by
      rw [rightP_iff]
      refine ⟨by simp; omega, fun x hx => ?_⟩
      rcases List.mem_append.1 hx with hx | hx
      · exact hp6.2 x hx
      · rw [List.mem_singleton.1 hx]; omega
    have hch := child_p A _ c p o1.next _ w12 (Rd.mod HRd.out H12.out.2.1 (fun b hb e => hb.1.2 e)) HN.out.1 (by omega)
    rw [childP_right hrp, hrp] at hch
    obtain ⟨pn, hpn⟩ : ∃ x, x = p ++ [o1.next] := ⟨_, rfl⟩
    rw [← hpn] at hch
    have hpl : pn.length ≤ 7 := by rw [hpn]; simp; omega
    have HCH := Lib.hid (And.intro hch hpn); clear hch hpn hrp hnx hnxr hl6 hp6 hwn
    go_wp2_with fail
    refine HCH.out.1.mono ?_
    rintro e w13 ⟨A', c', rfl, hO13, hm13⟩
    have hm013 : Mod (fun b => b = mb) w w13 := H12.out.2.1.trans (hm13.mono (fun _ h => h.elim) : Mod (fun b => b = mb) w12 w13) (fun b hb => .inl hb)
    have hT13 := H12.out.1.move hm13.drew (fun _ _ => id) id id
    have c3 : w13.drew.cell? ⟨g, 0, none⟩ = some (.map (some mb)) := by rw [cell_of_blk hT13.blk]; rfl
    have hb013 := (hm13.drew.block g0 (lt_of_blk H12.out.2.2) id).trans H12.out.2.2
    have htx := textP_any A' c' _ pn _ w13.drew (Rd.mod (hO13.reads (bytes := 8) (by omega)) ((Mod.refl (fun _ => False) w13).drew) (fun _ _ => id)) (by omega) (HEM.out _ (hm013.drew))
    have k0 : w13.drew.cell? ⟨g0, 0, none⟩ = some (.int .i64 o.kind) := by rw [cell_of_blk hb013]; rfl
    have k1 : w13.drew.cell? ⟨g0, 1, none⟩ = some (.slice A1 o.label.length c1) := by rw [cell_of_blk hb013]; rfl
    have k2 : w13.drew.cell? ⟨g0, 2, none⟩ = some (.slice A2 o.kids.length c2) := by rw [cell_of_blk hb013]; rfl
    have k3 : w13.drew.cell? ⟨g0, 3, none⟩ = some (.int .i64 o.next) := by rw [cell_of_blk hb013]; rfl
    have k4 : w13.drew.cell? ⟨g0, 4, none⟩ = some (.slice A4 o.bytes.length c4) := by rw [cell_of_blk hb013]; rfl
    have k5 : w13.drew.cell? ⟨g0, 5, none⟩ = some (.slice A5 o.own.length c5) := by rw [cell_of_blk hb013]; rfl
    have k6 : w13.drew.cell? ⟨g0, 6, none⟩ = some (.int .i64 o.cats) := by rw [cell_of_blk hb013]; rfl
    have k7 : w13.drew.cell? ⟨g0, 7, none⟩ = some (.slice A7 o.entry.length c7) := by rw [cell_of_blk hb013]; rfl
    have k8 : w13.drew.cell? ⟨g0, 8, none⟩ = some (.int .i64 o.ring) := by rw [cell_of_blk hb013]; rfl
    have k9 : w13.drew.cell? ⟨g0, 9, none⟩ = some (.slice A9 o.maps.length c9) := by rw [cell_of_blk hb013]; rfl
    have H13 := Lib.hid (And.intro hT13 (And.intro htx (And.intro hb013 hm013.drew))); clear hT13 htx hb013 hm013 hm13 hO13
    go_wp2_with fail
    go_region_with (first
      | (go_at_call 25
         refine H13.out.2.1.mono ?_
         rintro _ w14 ⟨rfl, hm14⟩
         have hb014 := (hm14.block g0 (lt_of_blk H13.out.2.2.1) id).trans H13.out.2.2.1
         have l0 : w14.cell? ⟨g0, 0, none⟩ = some (.int .i64 o.kind) := by rw [cell_of_blk hb014]; rfl
         have l1 : w14.cell? ⟨g0, 1, none⟩ = some (.slice A1 o.label.length c1) := by rw [cell_of_blk hb014]; rfl
         have l2 : w14.cell? ⟨g0, 2, none⟩ = some (.slice A2 o.kids.length c2) := by rw [cell_of_blk hb014]; rfl
         have l3 : w14.cell? ⟨g0, 3, none⟩ = some (.int .i64 o.next) := by rw [cell_of_blk hb014]; rfl
         have l4 : w14.cell? ⟨g0, 4, none⟩ = some (.slice A4 o.bytes.length c4) := by rw [cell_of_blk hb014]; rfl
         have l5 : w14.cell? ⟨g0, 5, none⟩ = some (.slice A5 o.own.length c5) := by rw [cell_of_blk hb014]; rfl
         have l6 : w14.cell? ⟨g0, 6, none⟩ = some (.int .i64 o.cats) := by rw [cell_of_blk hb014]; rfl
         have l7 : w14.cell? ⟨g0, 7, none⟩ = some (.slice A7 o.entry.length c7) := by rw [cell_of_blk hb014]; rfl
         have l8 : w14.cell? ⟨g0, 8, none⟩ = some (.int .i64 o.ring) := by rw [cell_of_blk hb014]; rfl
         have l9 : w14.cell? ⟨g0, 9, none⟩ = some (.slice A9 o.maps.length c9) := by rw [cell_of_blk hb014]; rfl
         have c4 : w14.cell? ⟨g, 0, none⟩ = some (.map (some mb)) := (hm14.cell (cell_lt c3) id).trans c3
         have hm014 : Mod (fun b => b = mb) w w14 := H13.out.2.2.2.trans (hm14.mono (fun _ h => h.elim) : Mod (fun b => b = mb) w13.drew w14) (fun b hb => .inl hb)
         have hcp := copy_any _ o _ w14 (Rd.mod HOb0.out hm014 (fun b hb e => (HS.out b (.inr (.inl hb.1))).1 e))
         have H14 := Lib.hid (And.intro (H13.out.1.move hm14 (fun _ _ => id) id id) (And.intro hm014 hcp))
         clear hm14 hb014 hm014 hcp)
      | (go_at_call 34
         refine H14.out.2.2.mono ?_
         rintro _ w15 ⟨A1y, c1y, A2y, c2y, A4y, c4y, A5y, c5y, A7y, c7y, A9y, c9y, rfl, hcp15⟩
         have hm15 := hcp15.mod
         have c5 : w15.cell? ⟨g, 0, none⟩ = some (.map (some mb)) := (hm15.cell (cell_lt c4) id).trans c4
         have hs14 := H14.out.2.1.size
         obtain ⟨w16, hr16, hT16, hm16⟩ := (H14.out.1.move hm15 (fun _ _ => id) id id).run_put pn o [.int .i64 o.kind, .slice A1y o.label.length c1y, .slice A2y o.kids.length c2y, .int .i64 o.next, .slice A4y o.bytes.length c4y, .slice A5y o.own.length c5y, .int .i64 o.cats, .slice A7y o.entry.length c7y, .int .i64 o.ring, .slice A9y o.maps.length c9y] (Rd.mono (hcp15.reads (by have := HU.out.2.2.2.2.2.kids.len; omega)) (fun b hb => by
           rcases hb with hb | hb
           · exact .inr (.inl hb.1.1)
           · exact .inr (.inr (by omega))))
         have hr16' : (Instr.mapUpdate 63 (.map (some mb)) (encS (pathT pn)) (.agg #[.int .i64 o.kind, .slice A1y o.label.length c1y, .slice A2y o.kids.length c2y, .int .i64 o.next, .slice A4y o.bytes.length c4y, .slice A5y o.own.length c5y, .int .i64 o.cats, .slice A7y o.entry.length c7y, .int .i64 o.ring, .slice A9y o.maps.length c9y])).run Tryz.prog w15 = .ok () w16 := hr16
         have H16 := Lib.hid (And.intro hT16 ((H14.out.2.1.trans (hm15.mono (fun _ h => h.elim) : Mod (fun b => b = mb) w14 w15) (fun b hb => .inl hb)).trans hm16 (fun b hb => .inl hb)))
         clear hcp15 hm15 hs14 hr16 hT16 hm16 l0 l1 l2 l3 l4 l5 l6 l7 l8 l9 k0 k1 k2 k3 k4 k5 k6 k7 k8 k9))
    all_goals go_wp2_with fail
    all_goals
      go_ret2
      exact ⟨by rw [HZ.out.1, HZ.out.2.1]; first | done | rfl, by rw [HZ.out.2.2, ← HCH.out.2]; exact H16.out.1, H16.out.2⟩
end Go.Proofs.YtefedalnafjcfaaGreatDoor

