/- Part of this claim's proof (texts RefN2, RefN3, Tab4, Qta7, Seg, SegL, joined by program). -/
import Derived.Test.YtefedalnafjcfaaGreatDoorA28
import Derived.Test.YtefedalnafjcfaaGreatDoorA24
import Derived.Test.YtefedalnafjcfaaGreatDoorA14
import Derived.Test.YtefedalnafjcfaaGreatDoorA26
import Derived.Test.YtefedalnafjcfaaGreatDoorA27
import Derived.Test.YtefedalnafjcfaaGreatDoorA07
namespace Go.Proofs.YtefedalnafjcfaaGreatDoor
open Go.RowKit Go.Shelf
set_option linter.unusedVariables false
def RItR : Rd (List Int × Ob) := intsR.pair ObR
theorem RItR_cells {w : World} {ok : Nat → Prop} {cs : List Value} {x : List Int × Ob} (h : RItR.rel w ok cs x) : ∃ Ap cp, ∃ co, cs = .slice Ap x.1.length cp :: co ∧ intsR.rel w ok [.slice Ap x.1.length cp] x.1 ∧ ObR.rel w ok co x.2 := by
  obtain ⟨c0, c1, rfl, h0, h1⟩ := h
  obtain ⟨A, c, rfl, -⟩ := id h0
  exact ⟨A, c, c1, rfl, h0, h1⟩
theorem Tryz.info_item : (Tryz.prog.info? 95).map (fun i => (i.zero, i.size)) = some (some (.agg #[.slice none 0 0, .int .i64 0, .slice none 0 0, .slice none 0 0, .int .i64 0, .slice none 0 0, .slice none 0 0, .int .i64 0, .slice none 0 0, .int .i64 0, .slice none 0 0]), 11) := by kernel_rfl
theorem itemC_one (A0 : Option Addr) (n0 c0 : Nat) (o : Ob) (A1 : Option Addr) (c1 : Nat) (A2 : Option Addr) (c2 : Nat) (A4 : Option Addr) (c4 : Nat) (A5 : Option Addr) (c5 : Nat) (A7 : Option Addr) (c7 : Nat) (A9 : Option Addr) (c9 : Nat) :
    ∀ u ∈ ([.slice A0 n0 c0, .int .i64 o.kind, .slice A1 o.label.length c1, .slice A2 o.kids.length c2, .int .i64 o.next, .slice A4 o.bytes.length c4, .slice A5 o.own.length c5, .int .i64 o.cats, .slice A7 o.entry.length c7, .int .i64 o.ring, .slice A9 o.maps.length c9] : List Value), u.oneCell' = true := by
  intro u hu
  rcases List.mem_cons.1 hu with rfl | hu
  · rfl
  · exact obC_one o A1 c1 A2 c2 A4 c4 A5 c5 A7 c7 A9 c9 u hu
theorem putO_len {o : Ob} (h : OkPut o) : (putO o).length ≤ 10000000000 := by
  unfold putO
  have h1 := encN_len o.kind
  have h2 := encL_le h.lab
  have h3 := encF_len 10 (o.kids.length : Int)
  have h4 := flatK_len o.kids
  have h5 := encN_len o.next
  have h6 := encC_len o.bytes (by have := h.byt; omega)
  have h7 := encO_le h.own
  have h8 := encN_len o.cats
  have h9 := encL_le h.ent
  have h10 := encN_len o.ring
  have h11 := encF_len 10 (o.maps.length : Int)
  have h12 := flatS_len o.maps h.maps.2
  have h13 := h.kids
  have h14 := h.maps.1
  simp only [List.length_append]
  have : 11100 * o.maps.length ≤ 11100 * 1000 := Nat.mul_le_mul_left _ h14
  omega
set_option maxRecDepth 100000 in
set_option maxHeartbeats 8000000 in
theorem refbytes9_any (A : Option Addr) (n c : Nat) (L : Tab) (ok : Nat → Prop) (w : World) (h : (Rd.slice 200 RItR).rel w ok [.slice A n c] L) (hl : L.length ≤ 100000) (hp : ∀ x ∈ L, x.1.length ≤ 1000 ∧ OkPut x.2) :
    Calls Tryz.prog 41 #[.agg #[.slice A n c]] w fun r w' => r = .returned (.string ⟨(bytesT L).toArray⟩) ∧ Mod (fun _ => False) w w' := by
  obtain ⟨rfl, -⟩ := slice_row h
  have hrow := (slice_row (Rd.bound h)).2.2.2.2.2
  obtain ⟨b0, hb0⟩ : ∃ b0, b0 = encF 10 L.length := ⟨_, rfl⟩
  have hb0l : b0.length ≤ 10 := by rw [hb0]; exact encF_len 10 _
  obtain ⟨z, hz⟩ : ∃ z, z = bytesT L := ⟨_, rfl⟩
  rw [← hz]
  have hn := fun W => refnum_any 9 (by decide) L.length W (by omega) (by omega) (by have : (128 : Int) ^ (9 + 1) = 1180591620717411303424 := by decide
                                                                                    omega)
  rw [show (9 + 1) = 10 from rfl, ← hb0] at hn
  unfold mkStr at hn
  have hend : z = b0 ++ L.flatMap encI := by rw [hz]; unfold bytesT; rw [hb0]
  have H0 := Lib.hid (And.intro hrow (And.intro hn (And.intro hend hp))); clear h hrow hn hb0 hz hend hp
  go_enter Tryz.func41, Tryz.ntmps41
  go_wp2_with fail
  obtain ⟨w1, hw1⟩ : ∃ w1, w1 = w.alloc (.cells #[.slice A L.length c] 59) := ⟨_, rfl⟩
  obtain ⟨g0, hg0⟩ : ∃ g0, g0 = w.heap.size := ⟨_, rfl⟩
  have hm1 : Mod (fun _ => False) w w1 := by rw [hw1]; exact (Mod.refl _ _).alloc _
  have hb1 : w1.heap[g0]? = some (.cells #[.slice A L.length c] 59 (0, 0)) := by rw [hw1, hg0]; exact heap_alloc_new w _
  rw [← hw1, ← hg0]
  have H1 := Lib.hid (And.intro hm1 hb1); clear hm1 hb1 hw1 hg0
  refine (H0.out.2.1 w1).mono ?_
  rintro r w2 ⟨rfl, hm2⟩
  have hb2 := (hm2.block g0 (lt_of_blk H1.out.2) id).trans H1.out.2
  have x0 : w2.cell? ⟨g0, 0, none⟩ = some (.slice A L.length c) := by rw [cell_of_blk hb2]; rfl
  have H2 := Lib.hid (tr0 H1.out.1 hm2); clear hm2 hb2
  go_wp2_with fail
  go_loopg [3, 13] L.length (fun f s3 s13 wr => ∃ (i : Nat) (b : List UInt8), s13 = .int .i64 i ∧ s3 = .string ⟨b.toArray⟩ ∧ i + f = L.length ∧ b.length ≤ 10 + 10000011000 * i ∧ Hid (b = b0 ++ (L.take i).flatMap encI ∧ Mod (fun _ => False) w2 wr))
  case atStart => exact ⟨0, b0, rfl, rfl, by omega, by omega, Lib.hid ⟨by simp, .refl _ _⟩⟩
  case round =>
    obtain ⟨i, b, rfl, rfl, hi, hbl, HI⟩ := hrel
    by_cases hil : i < L.length
    · obtain ⟨x, hx⟩ : ∃ x, L[i]? = some x := ⟨_, List.getElem?_eq_getElem hil⟩
      obtain ⟨ad, csx, rfl, hokb, hr, hc⟩ := Rd.RowOf.at_ H0.out.1 hx
      have hmr := tr0 H2.out HI.out.2
      obtain ⟨hpl, hpo⟩ := H0.out.2.2.2 x (List.mem_of_getElem? hx)
      obtain ⟨Ap, cp, co, rfl, hrp, hro⟩ := RItR_cells hr
      obtain ⟨A1, c1, A2, c2, A4, c4, A5, c5, A7, c7, A9, c9, rfl, -⟩ := ObR_cells hro
      have hcell : ∀ j2 u2, [Value.slice Ap x.1.length cp, .int .i64 x.2.kind, .slice A1 x.2.label.length c1, .slice A2 x.2.kids.length c2, .int .i64 x.2.next, .slice A4 x.2.bytes.length c4, .slice A5 x.2.own.length c5, .int .i64 x.2.cats, .slice A7 x.2.entry.length c7, .int .i64 x.2.ring, .slice A9 x.2.maps.length c9][j2]? = some u2 → wr.cell? ((ad.add (i * 11)).add j2) = some u2 := fun j2 u2 hj2 => by
        rw [add_add]
        exact cell_step (hc j2 u2 hj2) (fun _ => by rw [add_block]; exact hmr.block _ hokb.2 id)
      have q1 := fun W (hW : Mod (fun _ => False) wr W) => refput8_any Ap _ cp x.1 _ W (Rd.mod hrp (tr0 hmr hW) (fun _ _ => id)) (by omega)
      have q2 := fun W (hW : Mod (fun _ => False) wr W) => refput9_any _ x.2 _ W (Rd.mod hro (tr0 hmr hW) (fun _ _ => id)) hpo
      obtain ⟨n1, hn1⟩ : ∃ y, y = putP x.1 := ⟨_, rfl⟩
      obtain ⟨n2, hn2⟩ : ∃ y, y = putO x.2 := ⟨_, rfl⟩
      have l1 : n1.length ≤ 11000 := hn1 ▸ putP_le hpl
      have l2 : n2.length ≤ 10000000000 := hn2 ▸ putO_len hpo
      unfold encS at q1
      rw [← hn1] at q1
      rw [← hn2] at q2
      obtain ⟨s1, hs1, e1, f1, g1⟩ := cat_ex n1 n2 10000011000 (by omega) (by omega)
      obtain ⟨b2, hb2, e3, f3, g3⟩ := cat_ex b s1 (10 + 10000011000 * (i + 1)) (by omega) (by omega)
      have htk : b2 = b0 ++ (L.take (i + 1)).flatMap encI := by
        rw [hb2, hs1, HI.out.1, hn1, hn2, List.take_add_one, hx, List.flatMap_append]
        simp [encI]
      obtain ⟨o, ho⟩ : ∃ o, o = x.2 := ⟨_, rfl⟩
      obtain ⟨pl, hpl2⟩ : ∃ pl, pl = x.1.length := ⟨_, rfl⟩
      rw [← ho] at hcell q2
      rw [← hpl2] at hcell q1
      have HK := Lib.hid (And.intro hcell (And.intro q1 (And.intro q2 (And.intro htk g3))))
      clear hcell hc hr hokb hx q1 q2 htk hn1 hn2 l1 l2 hs1 hb2 g1 g3 hrp hro hpl hpo ho hpl2 hmr
      go_wp2_with (refine wpList_copy_var (n := 11) rfl rfl rfl 95 _ _ _ rfl rfl rfl Tryz.underlying95 [.slice none 0 0, .int .i64 0, .slice none 0 0, .slice none 0 0, .int .i64 0, .slice none 0 0, .slice none 0 0, .int .i64 0, .slice none 0 0, .int .i64 0, .slice none 0 0] Tryz.info_item rfl (ad.add (i * 11)) rfl [.slice Ap pl cp, .int .i64 o.kind, .slice A1 o.label.length c1, .slice A2 o.kids.length c2, .int .i64 o.next, .slice A4 o.bytes.length c4, .slice A5 o.own.length c5, .int .i64 o.cats, .slice A7 o.entry.length c7, .int .i64 o.ring, .slice A9 o.maps.length c9] rfl (itemC_one _ _ _ _ _ _ _ _ _ _ _ _ _ _ _ _) HK.out.1 (fun _ _ => rfl) (fun _ _ => rfl) ?_)
      intro gg w3 hg2 hgb2 hm2
      have k0 : w3.cell? ⟨gg, 0, none⟩ = some (.slice Ap pl cp) := by rw [cell_of_blk hgb2]; rfl
      have k1 : w3.cell? ⟨gg, 1, none⟩ = some (.int .i64 o.kind) := by rw [cell_of_blk hgb2]; rfl
      have k2 : w3.cell? ⟨gg, 2, none⟩ = some (.slice A1 o.label.length c1) := by rw [cell_of_blk hgb2]; rfl
      have k3 : w3.cell? ⟨gg, 3, none⟩ = some (.slice A2 o.kids.length c2) := by rw [cell_of_blk hgb2]; rfl
      have k4 : w3.cell? ⟨gg, 4, none⟩ = some (.int .i64 o.next) := by rw [cell_of_blk hgb2]; rfl
      have k5 : w3.cell? ⟨gg, 5, none⟩ = some (.slice A4 o.bytes.length c4) := by rw [cell_of_blk hgb2]; rfl
      have k6 : w3.cell? ⟨gg, 6, none⟩ = some (.slice A5 o.own.length c5) := by rw [cell_of_blk hgb2]; rfl
      have k7 : w3.cell? ⟨gg, 7, none⟩ = some (.int .i64 o.cats) := by rw [cell_of_blk hgb2]; rfl
      have k8 : w3.cell? ⟨gg, 8, none⟩ = some (.slice A7 o.entry.length c7) := by rw [cell_of_blk hgb2]; rfl
      have k9 : w3.cell? ⟨gg, 9, none⟩ = some (.int .i64 o.ring) := by rw [cell_of_blk hgb2]; rfl
      have k10 : w3.cell? ⟨gg, 10, none⟩ = some (.slice A9 o.maps.length c9) := by rw [cell_of_blk hgb2]; rfl
      have j0 := fun W : ModW w3 => ModW.cell k0 W
      have j1 := fun W : ModW w3 => ModW.cell k1 W
      have j2 := fun W : ModW w3 => ModW.cell k2 W
      have j3 := fun W : ModW w3 => ModW.cell k3 W
      have j4 := fun W : ModW w3 => ModW.cell k4 W
      have j5 := fun W : ModW w3 => ModW.cell k5 W
      have j6 := fun W : ModW w3 => ModW.cell k6 W
      have j7 := fun W : ModW w3 => ModW.cell k7 W
      have j8 := fun W : ModW w3 => ModW.cell k8 W
      have j9 := fun W : ModW w3 => ModW.cell k9 W
      have j10 := fun W : ModW w3 => ModW.cell k10 W
      have HM3 := Lib.hid (And.intro (tr0 HI.out.2 (hm2 fun _ => False)) (hm2 fun _ => False)); clear hm2 hgb2 hg2 k0 k1 k2 k3 k4 k5 k6 k7 k8 k9 k10
      go_wp2_with fail
      refine wp_region_mod (by kernel_rfl) (by kernel_rfl) ?_
      refine wpQuiet_hide (fun R hR => ?_)
      iterate 10 (first
        | ((first | refine wpQuiet_none hR rfl (fun K hK => ?_) | refine wpQuiet_take hR (by rfl) (fun K hK => ?_)); clear hR R; go_simp; first | (refine hK _ (fun R hR => ?_); clear hK K) | (apply Exists.intro; refine ⟨fun _ => ?_, hK _ (fun R hR => ?_)⟩; (first | (go_at_call 81; exact quiet_mod (HK.out.2.1 _ (tr0 HM3.out.2 (Subtype.property _)))) | (go_at_call 82; exact quiet_mod (HK.out.2.2.1 _ (tr0 HM3.out.2 (Subtype.property _))))); clear hK K))
        | (refine wpQuiet_skip hR (by rfl) (fun K hK => ?_); clear hR R; go_simp; refine hK _ (fun R hR => ?_); clear hK K))
      refine wpQuiet_end hR ?_
      clear hR R
      rintro _ ⟨W, rfl⟩
      have HW := Lib.hid (tr0 HM3.out.1 W.2)
      go_wp2_with fail
      go_roundg (gk - 1)
      case measure => omega
      case rel => exact ⟨i + 1, b2, by go_num, rfl, by omega, HK.out.2.2.2.2, Lib.hid ⟨HK.out.2.2.2.1, HW.out⟩⟩
    · obtain rfl : i = L.length := by omega
      have hze : z = b := by rw [H0.out.2.2.1, HI.out.1, List.take_length]
      subst hze
      have HE := Lib.hid (tr0 H2.out HI.out.2)
      go_wp2_with fail
      go_ret
      exact ⟨rfl, HE.out⟩
end Go.Proofs.YtefedalnafjcfaaGreatDoor

namespace Go.Proofs.YtefedalnafjcfaaGreatDoor
open Go.RowKit Go.Shelf
set_option linter.unusedVariables false
theorem ObR_new (w : World) (ok : Nat → Prop) : ObR.rel w ok [.int .i64 1, .slice none 0 0, .slice none 0 0, .int .i64 0, .slice none 0 0, .slice none 0 0, .int .i64 0, .slice none 0 0, .int .i64 0, .slice none 0 0] { zeroOb with kind := 1 } := by
  have z : ∀ {α : Type} (R : Rd α) (B : Nat), (Rd.slice B R).rel w ok [.slice none 0 0] ([] : List α) := fun R B => ⟨none, 0, rfl, Nat.le_refl _, by decide, by simp, fun _ => rfl, .inl rfl⟩
  have i0 : (Rd.int .i64).rel w ok [.int .i64 0] (0 : Int) := ⟨rfl, by unfold Rd.inR; decide⟩
  have i1 : (Rd.int .i64).rel w ok [.int .i64 1] (1 : Int) := ⟨rfl, by unfold Rd.inR; decide⟩
  exact ObR_iff.2 ⟨_, _, _, _, _, _, _, _, _, _, rfl, i1, z _ _, z _ _, i0, z _ _, z _ _, i0, z _ _, i0, z _ _⟩
set_option maxRecDepth 100000 in
set_option maxHeartbeats 2000000 in
theorem refnew9_any (w : World) : Calls Tryz.prog 19 #[] w fun r w' => ∃ A c, r = .returned (.agg #[.slice A newT.length c]) ∧ (Rd.slice 200 RItR).rel w' (fun k => w.heap.size ≤ k) [.slice A newT.length c] newT ∧ Mod (fun _ => False) w w' := by
  go_enter Tryz.func19, Tryz.ntmps19
  go_wp2_with fail
  obtain ⟨W1, hW1⟩ : ∃ W1, W1 = (w.alloc (.cells #[.slice (some ⟨w.heap.size + 1, 0, none⟩) 1 1] 59)).alloc (.cells #[.slice none 0 0, .int .i64 1, .slice none 0 0, .slice none 0 0, .int .i64 0, .slice none 0 0, .slice none 0 0, .int .i64 0, .slice none 0 0, .int .i64 0, .slice none 0 0] 95) := ⟨_, rfl⟩
  have hm : Mod (fun _ => False) w W1 := by rw [hW1]; exact ((Mod.refl _ _).alloc _).alloc _
  have hb0 : W1.heap[w.heap.size]? = some (.cells #[.slice (some ⟨w.heap.size + 1, 0, none⟩) 1 1] 59 (0, 0)) := by
    rw [hW1]
    exact (((Mod.refl (fun _ => False) _).alloc _).block _ (by simp) id).trans (heap_alloc_new w _)
  have hb1 : W1.heap[w.heap.size + 1]? = some (.cells #[.slice none 0 0, .int .i64 1, .slice none 0 0, .slice none 0 0, .int .i64 0, .slice none 0 0, .slice none 0 0, .int .i64 0, .slice none 0 0, .int .i64 0, .slice none 0 0] 95 (0, 0)) := by
    rw [hW1]
    have := heap_alloc_new (w.alloc (.cells #[.slice (some ⟨w.heap.size + 1, 0, none⟩) 1 1] 59)) (.cells #[.slice none 0 0, .int .i64 1, .slice none 0 0, .slice none 0 0, .int .i64 0, .slice none 0 0, .slice none 0 0, .int .i64 0, .slice none 0 0, .int .i64 0, .slice none 0 0] 95)
    rwa [World.size_alloc] at this
  rw [← hW1]
  refine bodyPost_ret (results_agg rfl _ _ w.heap.size 59 [.slice (some ⟨w.heap.size + 1, 0, none⟩) 1 1] (0, 0) rfl hb0 Tryz.underlying59 (by kernel_rfl)) rfl ?_
  refine ⟨some ⟨w.heap.size + 1, 0, none⟩, 1, rfl, ⟨_, 1, rfl, Nat.le_refl _, by decide, by decide, (fun h => by cases h), .inr ⟨_, rfl, by show w.heap.size ≤ w.heap.size + 1; omega, fun j x hj => ?_⟩⟩, hm⟩
  match j, hj with
  | 0, hj =>
    cases hj
    refine ⟨.slice none 0 0 :: [.int .i64 1, .slice none 0 0, .slice none 0 0, .int .i64 0, .slice none 0 0, .slice none 0 0, .int .i64 0, .slice none 0 0, .int .i64 0, .slice none 0 0], ⟨[_], _, rfl, ints_nil _ _, ObR_new _ _⟩, fun i u hu => ?_⟩
    rw [show 0 * RItR.sz + i = i by omega]
    exact box_cells (cs := .slice none 0 0 :: [.int .i64 1, .slice none 0 0, .slice none 0 0, .int .i64 0, .slice none 0 0, .slice none 0 0, .int .i64 0, .slice none 0 0, .int .i64 0, .slice none 0 0]) hb1 i u hu
  | j + 1, hj => cases hj
end Go.Proofs.YtefedalnafjcfaaGreatDoor

namespace Go.Proofs.YtefedalnafjcfaaGreatDoor
open Go.RowKit Go.Shelf
set_option linter.unusedVariables false
set_option maxRecDepth 100000 in
theorem newTab_any (w : World) : Calls Tryz.prog 15 #[] w fun e w' => ∃ g mb, e = .returned (.pointer (some ⟨g, 0, none⟩)) ∧ w.heap.size ≤ g ∧ w.heap.size ≤ mb ∧ TabAt w' (fun k => k < w.heap.size) g mb [([], { zeroOb with kind := 1 })] ∧ Mod (fun _ => False) w w' := by
  have hmk := run_makeMap (P := Tryz.prog) 63 w
  obtain ⟨w2, hup, hm2, hmod⟩ := (MapAt.made w).update (P := Tryz.prog) Tryz.underlying63 Tryz.underlying9 [] (.agg #[.int .i64 1, .slice none 0 0, .slice none 0 0, .int .i64 0, .slice none 0 0, .slice none 0 0, .int .i64 0, .slice none 0 0, .int .i64 0, .slice none 0 0])
  have hup2 : (Instr.mapUpdate 63 (.map (some w.heap.size)) (.string ⟨#[]⟩) (.agg #[.int .i64 1, .slice none 0 0, .slice none 0 0, .int .i64 0, .slice none 0 0, .slice none 0 0, .int .i64 0, .slice none 0 0, .int .i64 0, .slice none 0 0])).run Tryz.prog (w.alloc (.map #[] 0)) = .ok () w2 := hup
  have HM := Lib.hid (And.intro hm2 (((Mod.refl (fun _ => False) w).alloc (.map #[] 0)).trans hmod (fun k hk => .inr (by omega))))
  clear hup hm2 hmod
  go_enter Tryz.func15, Tryz.ntmps15
  go_wp2_with fail
  clear hmk hup2
  go_ret
  have hsz := HM.out.2.size
  refine ⟨w2.heap.size, w.heap.size, rfl, hsz, Nat.le_refl _, ⟨heap_alloc_new w2 _, Nat.lt_irrefl _, by omega, List.pairwise_singleton _ _, _, HM.out.1.move (((Mod.refl (fun _ => False) w2).alloc _).block _ HM.out.1.lt id), by simp [updV, pathT], fun p o hp => ?_⟩, HM.out.2.alloc _⟩
  rw [getT_cons] at hp
  split at hp
  · next hpe =>
    subst hpe
    obtain rfl := Option.some.inj hp
    refine ⟨[.int .i64 1, .slice none 0 0, .slice none 0 0, .int .i64 0, .slice none 0 0, .slice none 0 0, .int .i64 0, .slice none 0 0, .int .i64 0, .slice none 0 0], by simp [updV, pathT], ?_⟩
    have z : ∀ {α : Type} (R : Rd α) (B : Nat), (Rd.slice B R).rel (w2.alloc (.cells #[.map (some w.heap.size)] 65)) (fun k => k < w.heap.size) [.slice none 0 0] ([] : List α) := fun R B => ⟨none, 0, rfl, Nat.le_refl _, by decide, by simp, fun _ => rfl, .inl rfl⟩
    have i0 : Rd.inR .i64 0 := by unfold Rd.inR; decide
    have i1 : Rd.inR .i64 1 := by unfold Rd.inR; decide
    exact ObR_iff.2 ⟨_, _, _, _, _, _, _, _, _, _, rfl, ⟨rfl, i1⟩, z _ _, z _ _, ⟨rfl, i0⟩, z _ _, z _ _, ⟨rfl, i0⟩, z _ _, ⟨rfl, i0⟩, z _ _⟩
  · cases hp
end Go.Proofs.YtefedalnafjcfaaGreatDoor

namespace Go.Proofs.YtefedalnafjcfaaGreatDoor
open Go.RowKit Go.Shelf
set_option linter.unusedVariables false
theorem TabAt.wide {w : World} {S : Nat → Prop} {g mb : Nat} {L : Tab} (h : TabAt w S g mb L) : TabAt w (fun k => k ≠ g ∧ k ≠ mb) g mb L :=
  h.grow (fun k hk => ⟨fun e => h.ng (e ▸ hk), fun e => h.nmb (e ▸ hk)⟩) (fun h => h.2 rfl) (fun h => h.1 rfl)
/-- W, on the way from w: a table of the call's own. -/
structure FS (w W : World) (g mb : Nat) (L : Tab) : Prop where
  t : TabAt W (fun k => k ≠ g ∧ k ≠ mb) g mb L
  e : Env W
  m : Mod (fun _ => False) w W
  gm : w.heap.size ≤ mb
  gg : w.heap.size ≤ g
theorem FS.step {w W W' : World} {g mb : Nat} {S : Nat → Prop} {L L' : Tab} (h : FS w W g mb L) (ht : TabAt W' S g mb L') (hm : Mod (fun k => k = mb) W W') : FS w W' g mb L' := by
  obtain ⟨vs, hvs, -⟩ := h.t.run_len
  have := h.gm
  exact ⟨ht.wide, h.e.modM hvs hm, h.m.trans hm (fun k hk => .inr (by omega)), h.gm, h.gg⟩
theorem FS.quiet {w W W' : World} {g mb : Nat} {L : Tab} (h : FS w W g mb L) (hm : Mod (fun _ => False) W W') : FS w W' g mb L :=
  ⟨h.t.move hm (fun _ _ => id) id id, h.e.mod0 hm, tr0 h.m hm, h.gm, h.gg⟩
theorem FS.free {w W : World} {g mb : Nat} {L : Tab} (h : FS w W g mb L) (hv : ValidT L) {A : Option Addr} {m c : Nat} {p : List Int} {ok : Nat → Prop} (hr : intsR.rel W ok [.slice A m c] p) (hp : p.length ≤ 1000000) :
    Calls Tryz.prog 8 #[.pointer (some ⟨g, 0, none⟩), .slice A m c] W fun e W' => e = .returned (.int .i64 (freeT L p)) ∧ Mod (fun _ => False) W W' :=
  free_any _ g mb L A m c p ok W h.t hv hr hp h.e (fun o ho => by
    have h1 := uses_le_quota hv ho
    have h2 := usesO_pos (hv.right _ _ ho)
    omega)
theorem FS.quota {w W : World} {g mb : Nat} {L : Tab} (h : FS w W g mb L) (hv : ValidT L) {A : Option Addr} {m c : Nat} {p : List Int} {ok : Nat → Prop} (hr : intsR.rel W ok [.slice A m c] p) (hp : p.length ≤ 1000000) :
    Calls Tryz.prog 10 #[.pointer (some ⟨g, 0, none⟩), .slice A m c] W fun e W' => e = .returned (.int .i64 (quotaT L p)) ∧ Mod (fun _ => False) W W' :=
  quotaTab_any _ g mb L A m c p ok W h.t hv hr hp h.e
theorem FS.deep {w W : World} {g mb : Nat} {L : Tab} (h : FS w W g mb L) (hv : ValidT L) {A : Option Addr} {m c : Nat} {p : List Int} {ok : Nat → Prop} (hr : intsR.rel W ok [.slice A m c] p) :
    Calls Tryz.prog 9 #[.pointer (some ⟨g, 0, none⟩), .slice A m c] W fun e W' => e = .returned (.int .i64 (deepC L p)) ∧ Mod (fun _ => False) W W' :=
  deep_any _ g mb L A m c p ok W h.t hv (by have := valid_small hv; omega) hr h.e
theorem FS.move {w W : World} {g mb : Nat} {L : Tab} (h : FS w W g mb L) (hv : ValidT L) {A : Option Addr} {m c : Nat} {p : List Int} {ok : Nat → Prop} (hr : intsR.rel W ok [.slice A m c] p) (hp : p.length ≤ 1000000) (n : Int) (hn : Rd.inR .i64 n) :
    Calls Tryz.prog 17 #[.pointer (some ⟨g, 0, none⟩), .slice A m c, .int .i64 n] W fun e W' => e = .returned (.int .i64 (moveE L p n)) ∧ FS w W' g mb (moveT L p n) ∧ Mod (fun k => k = mb) W W' :=
  (move_any _ g mb L A m c p ok n W h.t hv hr hp hn h.e).mono fun e W' ⟨h1, h2, h3⟩ => ⟨h1, h.step h2 h3, h3⟩
theorem FS.shift {w W : World} {g mb : Nat} {L : Tab} (h : FS w W g mb L) (hv : ValidT L) {A : Option Addr} {m c : Nat} {p : List Int} {A2 : Option Addr} {m2 c2 : Nat} {p2 : List Int} {ok : Nat → Prop} (hr : intsR.rel W ok [.slice A m c] p) (hr2 : intsR.rel W ok [.slice A2 m2 c2] p2) (hp : p.length ≤ 1000000) (hp2 : p2.length ≤ 1000000) (n : Int) (hn : Rd.inR .i64 n) :
    Calls Tryz.prog 12 #[.pointer (some ⟨g, 0, none⟩), .slice A m c, .slice A2 m2 c2, .int .i64 n] W fun e W' => e = .returned (.int .i64 (shiftE L p p2 n)) ∧ FS w W' g mb (shiftT L p p2 n) ∧ Mod (fun k => k = mb) W W' :=
  (shift_any _ g mb L A m c p A2 m2 c2 p2 ok n W h.t hv hr hr2 hp hp2 hn h.e).mono fun e W' ⟨h1, h2, h3⟩ => ⟨h1, h.step h2 h3, h3⟩
theorem FS.ledger {w W : World} {g mb : Nat} {L : Tab} (h : FS w W g mb L) (hv : ValidT L) :
    Calls Tryz.prog 14 #[.pointer (some ⟨g, 0, none⟩)] W fun e W' => ∃ A c, e = .returned (.slice A (L.map (lineOf L)).length c) ∧ (Rd.slice 48 LineR).rel W' (fun k => W.heap.size ≤ k) [.slice A (L.map (lineOf L)).length c] (L.map (lineOf L)) ∧ Mod (fun _ => False) W W' :=
  ledger_any _ g mb L W h.t hv h.e
theorem ints_one (W : World) (t : TypeId) (n : Int) (hn : Rd.inR .i64 n) : intsR.rel (W.alloc (.cells #[.int .i64 n] t)) (fun k => W.heap.size ≤ k) [.slice (some ⟨W.heap.size, 0, none⟩) 1 1] [n] := by
  refine ⟨_, 1, rfl, Nat.le_refl _, by decide, by show 1 * 8 ≤ _; decide, (fun h => by cases h), .inr ⟨_, rfl, Nat.le_refl _, fun j x hj => ?_⟩⟩
  match j, hj with
  | 0, hj =>
    cases hj
    refine ⟨[.int .i64 n], ⟨rfl, hn⟩, fun i u hu => ?_⟩
    rw [show 0 * (Rd.int .i64).sz + i = i by omega]
    exact box_cells (cs := [.int .i64 n]) (heap_alloc_new W _) i u hu
  | j + 1, hj => cases hj
set_option maxRecDepth 100000 in
set_option maxHeartbeats 4000000 in
theorem made_new (A : Option Addr) (c : Nat) (ok : Nat → Prop) (w : World) (h : (Rd.slice 200 RItR).rel w ok [.slice A newT.length c] newT) (E : Env w) :
    Calls Tryz.prog 18 #[.agg #[.slice A newT.length c]] w fun e w' => (∃ g, e = .returned (.pointer (some ⟨g, 0, none⟩))) ∧ Mod (fun _ => False) w w' := by
  have hby := fun W (hW : Mod (fun _ => False) w W) => refbytes9_any A _ c newT _ W (Rd.mod (Rd.bound h) hW (fun _ _ => id)) (by decide) (fun x hx => by
    rw [List.mem_singleton.1 hx]
    exact ⟨by simp, ⟨by simp [zeroOb], by simp [zeroOb]⟩, ⟨by simp [zeroOb], by simp [zeroOb]⟩, ⟨by simp [zeroOb], by simp [zeroOb]⟩, by simp [zeroOb], by simp [zeroOb], ⟨by simp [zeroOb], by simp [zeroOb]⟩⟩)
  have hbl : (bytesT newT).length ≤ 1000000 := by decide
  have hld : loadT (bytesT newT) = some newT := loadT_bytes valid_new (by decide)
  obtain ⟨bs, hbs⟩ : ∃ bs, bs = bytesT newT := ⟨_, rfl⟩
  rw [← hbs] at hby hbl hld
  obtain ⟨nl, hnl⟩ : ∃ nl, nl = newT.length := ⟨_, rfl⟩
  rw [← hnl] at hby ⊢
  have HX := Lib.hid (And.intro hby (And.intro hbl (And.intro hld E))); clear hby hbl hld E h hbs hnl
  go_enter Tryz.func18, Tryz.ntmps18
  go_wp2_with fail
  obtain ⟨w1, hw1⟩ : ∃ w1, w1 = w.alloc (.cells #[.slice A nl c] 59) := ⟨_, rfl⟩
  have hm1 : Mod (fun _ => False) w w1 := by rw [hw1]; exact (Mod.refl _ _).alloc _
  rw [← hw1]
  have H1 := Lib.hid hm1; clear hm1 hw1
  refine (HX.out.1 w1 H1.out).mono ?_
  rintro r w2 ⟨rfl, hm2⟩
  obtain ⟨c3, w3, hcv, hb3, hm3⟩ := conv_bytes bs HX.out.2.1 w2
  have hm03 := tr0 H1.out (tr0 hm2 hm3)
  have hlo := loadTab_any _ bs _ w3 hb3 (HX.out.2.2.2.mod0 hm03)
  have H3 := Lib.hid (And.intro hlo hm03); clear hlo hm03 hm2 hm3 hb3
  go_wp2_with fail
  refine H3.out.1.mono ?_
  rintro e w4 ⟨-, h2, hm4⟩
  obtain ⟨g, mb, rfl, -⟩ := h2 _ HX.out.2.2.1
  have H4 := Lib.hid (tr0 H3.out.2 hm4); clear h2 hm4
  go_wp2_with fail
  go_ret
  exact ⟨⟨g, rfl⟩, H4.out⟩
end Go.Proofs.YtefedalnafjcfaaGreatDoor

namespace Go.Proofs.YtefedalnafjcfaaGreatDoor
open Go.RowKit
set_option linter.unusedVariables false
section
variable {P : Program} {ops : Array Oper} {md : Region.Mode} {C : World → Prop}
/-- Of n operations the first k are done. -/
def upTo (n k : Nat) : Array Bool := ((List.range n).map fun j => decide (j < k)).toArray
theorem upTo_get (n k j : Nat) (d : Bool) (hj : j < n) : (upTo n k).getD j d = decide (j < k) := by
  unfold upTo
  simp [Array.getD_eq_getD_getElem?, hj]
theorem upTo_zero (n : Nat) : Array.replicate n false = upTo n 0 := by
  apply Array.ext
  · simp [upTo]
  · intro i h1 h2; simp [upTo]
theorem getD_tf {listed : Array Bool} {i : Nat} (h : listed.getD i true = false) : listed.getD i false = false := by
  rw [Array.getD_eq_getD_getElem?] at h ⊢
  cases hx : listed[i]? with
  | none => rfl
  | some b => rw [hx] at h; exact h
def Closed (md : Region.Mode) (ops : Array Oper) (listed : Array Bool) : Prop :=
  ∀ j o, ops[j]? = some o → listed.getD j true = true → ∀ e ∈ o.after, Region.binds md e = true → listed.getD e.on false = true
theorem Closed.set {listed : Array Bool} {i : Nat} (h : Closed md ops listed) (hi : i ∈ Region.ready md ops listed) : Closed md ops (listed.setIfInBounds i true) := by
  intro j o ho hj e he hb
  refine getD_set_true ?_
  by_cases hji : j = i
  · subst hji
    obtain ⟨_, o', ho', hall⟩ := mem_ready.1 hi
    rw [ho] at ho'; cases ho'
    exact hall e he hb
  · rw [getD_set_ne true (Ne.symm hji)] at hj
    exact h j o ho hj e he hb
def shutB (md : Region.Mode) (ops : Array Oper) (listed : Array Bool) : Bool :=
  (List.range ops.size).all fun j => match ops[j]? with
    | none => true
    | some o => !listed.getD j true || o.after.all fun e => !Region.binds md e || listed.getD e.on false
theorem shutB_spec {listed : Array Bool} (h : shutB md ops listed = true) : Closed md ops listed := by
  intro j o ho hj e he hb
  have hlt : j < ops.size := (Array.getElem?_eq_some_iff.1 ho).1
  have h1 := List.all_eq_true.1 h j (List.mem_range.2 hlt)
  simp only [ho, hj, Bool.not_true, Bool.false_or] at h1
  have h2 := Array.all_eq_true_iff_forall_mem.1 h1 e he
  simpa [hb] using h2
/-- Whatever order is picked till the first k are done. -/
def wpAnyK (P : Program) (md : Region.Mode) (ops : Array Oper) (C : World → Prop) (k : Nat) (R : Act → Prop) : Nat → Array Bool → Act → Prop
  | 0, listed, a => listed = upTo ops.size k ∧ R a
  | f + 1, listed, a => Region.ready md ops listed ≠ [] ∧ ∀ i ∈ Region.ready md ops listed, i < k ∧ qOp P ops C i (wpAnyK P md ops C k R f (listed.setIfInBounds i true)) a
theorem wpAny_of_K {k m : Nat} {R : Act → Prop} {Q : Exit → Act → World → Prop} (hR : ∀ a w, C w → R a → wpAny P md ops Q m (upTo ops.size k) a w) :
    ∀ (f : Nat) (listed : Array Bool) (a : Act) (w : World), C w → wpAnyK P md ops C k R f listed a → wpAny P md ops Q (f + m) listed a w
  | 0, listed, a, w, hw, h => by obtain ⟨rfl, h⟩ := h; rw [Nat.zero_add]; exact hR a w hw h
  | f + 1, listed, a, w, hw, h => by
    rw [show f + 1 + m = (f + m) + 1 by omega]
    exact ⟨fun e => absurd e h.1, fun i hi => wpOp_of_qOp hw (fun a' w' hw' hk => wpAny_of_K hR f _ a' w' hw' hk) (h.2 i hi).2⟩
def segB (md : Region.Mode) (ops : Array Oper) (k : Nat) : Nat → Nat → Array Bool → Bool
  | 0, _, listed => listed == upTo ops.size k
  | f + 1, m, listed => (Region.ready md ops listed).contains m && Region.free md ops listed m && segB md ops k f (m + 1) (listed.setIfInBounds m true)
theorem wp_region_stretch {id : Nat} {Q : Exit → Act → World → Prop} {a : Act} {w : World} {l : List Oper} (hm : P.follows .mixedOrders = true)
    (h : wpAny P .any l.toArray Q (l.length - 0) (upTo l.length 0) a w.drew) : (Code.region id l.toArray true).wp P Q a w := by
  refine wp_region_any hm ?_
  rw [upTo_zero]
  simpa using h
theorem wp_region_stretch' {id : Nat} {Q : Exit → Act → World → Prop} {a : Act} {w : World} {l : List Oper} (n : Nat) (hn : l.length = n) (hm : P.follows .mixedOrders = true)
    (h : wpAny P .any l.toArray Q n (upTo n 0) a w.drew) : (Code.region id l.toArray true).wp P Q a w := by
  subst hn; exact wp_region_stretch hm h
end
end Go.Proofs.YtefedalnafjcfaaGreatDoor

namespace Go.Proofs.YtefedalnafjcfaaGreatDoor
open Go.RowKit
set_option linter.unusedVariables false
section
variable {P : Program} {ops : Array Oper} {md : Region.Mode} {C : World → Prop}
/-- Number k stands behind each of the first k, each later one behind one of k on. -/
def tailB (md : Region.Mode) (ops : Array Oper) (k : Nat) : Bool :=
  decide (k < ops.size) && ((List.range k).all fun j => (List.range (k + 1)).any fun i => decide (j < i) && match ops[i]? with
    | some u => u.after.any fun e => Region.binds md e && e.on == j
    | none => false) &&
  (List.range ops.size).all fun j => decide (j ≤ k) || match ops[j]? with
    | some o => o.after.any fun e => Region.binds md e && (decide (k ≤ e.on) && decide (e.on < j))
    | none => false
theorem tail_up {k : Nat} (hc : tailB md ops k = true) {listed : Array Bool} (hcl : Closed md ops listed) : ∀ d i, k - i = d → i < k → listed.getD i true = false → listed.getD k true = false := by
  intro d
  induction d using Nat.strongRecOn with
  | ind d ih =>
    intro i hd hi hun
    simp only [tailB, Bool.and_eq_true, decide_eq_true_eq] at hc
    have h1 := List.all_eq_true.1 hc.1.2 i (List.mem_range.2 hi)
    obtain ⟨i', hi', h2⟩ := List.any_eq_true.1 h1
    rw [List.mem_range] at hi'
    simp only [Bool.and_eq_true, decide_eq_true_eq] at h2
    obtain ⟨hlt', h3⟩ := h2
    cases hu : ops[i']? with
    | none => rw [hu] at h3; cases h3
    | some u =>
      rw [hu] at h3
      obtain ⟨n, hn, h4⟩ := Array.any_eq_true.1 h3
      simp only [Bool.and_eq_true, beq_iff_eq] at h4
      have hun' : listed.getD i' true = false := by
        cases hg : listed.getD i' true with
        | false => rfl
        | true =>
          have h5 := hcl i' u hu hg (u.after[n]) (Array.getElem_mem hn) h4.1
          rw [h4.2, getD_tf hun] at h5
          cases h5
      by_cases hik : i' = k
      · rw [← hik]; exact hun'
      · exact ih (k - i') (by omega) i' rfl (by omega) hun'
theorem tail_lt {k : Nat} (hc : tailB md ops k = true) {listed : Array Bool} (hcl : Closed md ops listed) {i : Nat} (hi : i < k) (hun : listed.getD i true = false) : ∀ j ∈ Region.ready md ops listed, j < k := by
  intro j hj
  have hk := tail_up hc hcl _ i rfl hi hun
  simp only [tailB, Bool.and_eq_true, decide_eq_true_eq] at hc
  obtain ⟨hjun, o, ho, hall⟩ := mem_ready.1 hj
  have hdown : ∀ d j, j = d → k ≤ j → j < ops.size → listed.getD j true = false := by
    intro d
    induction d using Nat.strongRecOn with
    | ind d ih =>
      intro j hd hjk hjs
      by_cases hjk2 : j = k
      · rw [hjk2]; exact hk
      · have h1 := List.all_eq_true.1 hc.2 j (List.mem_range.2 hjs)
        obtain ⟨o, ho⟩ : ∃ o, ops[j]? = some o := ⟨_, Array.getElem?_eq_getElem hjs⟩
        simp only [ho, Bool.or_eq_true, decide_eq_true_eq] at h1
        rcases h1 with h1 | h1
        · omega
        · obtain ⟨n, hn, h4⟩ := Array.any_eq_true.1 h1
          simp only [Bool.and_eq_true, decide_eq_true_eq] at h4
          cases hg : listed.getD j true with
          | false => rfl
          | true =>
            have h5 := hcl j o ho hg (o.after[n]) (Array.getElem_mem hn) h4.1
            rw [getD_tf (ih _ (by omega) _ rfl h4.2.1 (by omega))] at h5
            cases h5
  by_cases hjk : j < k
  · exact hjk
  · exfalso
    have hlt : j < ops.size := (Array.getElem?_eq_some_iff.1 ho).1
    by_cases hjk2 : j = k
    · subst hjk2
      -- number k is ready: all of its own predecessors are listed; one chain from i ends at it
      have h1 := List.all_eq_true.1 hc.1.2
      have : ∀ d i, j - i = d → i < j → listed.getD i true = false → False := by
        intro d
        induction d using Nat.strongRecOn with
        | ind d ih =>
          intro i hd hi hun
          obtain ⟨i', hi', h2⟩ := List.any_eq_true.1 (h1 i (List.mem_range.2 hi))
          rw [List.mem_range] at hi'
          simp only [Bool.and_eq_true, decide_eq_true_eq] at h2
          obtain ⟨hlt', h3⟩ := h2
          cases hu : ops[i']? with
          | none => rw [hu] at h3; cases h3
          | some u =>
            rw [hu] at h3
            obtain ⟨n, hn, h4⟩ := Array.any_eq_true.1 h3
            simp only [Bool.and_eq_true, beq_iff_eq] at h4
            by_cases hik : i' = j
            · subst hik
              rw [ho] at hu; cases hu
              have h5 := hall (o.after[n]) (Array.getElem_mem hn) h4.1
              rw [h4.2, getD_tf hun] at h5
              cases h5
            · have hun' : listed.getD i' true = false := by
                cases hg : listed.getD i' true with
                | false => rfl
                | true =>
                  have h5 := hcl i' u hu hg (u.after[n]) (Array.getElem_mem hn) h4.1
                  rw [h4.2, getD_tf hun] at h5
                  cases h5
              exact ih (j - i') (by omega) i' rfl (by omega) hun'
      exact this _ i rfl hi hun
    · have h1 := List.all_eq_true.1 hc.2 j (List.mem_range.2 hlt)
      simp only [ho, Bool.or_eq_true, decide_eq_true_eq] at h1
      rcases h1 with h1 | h1
      · omega
      · obtain ⟨n, hn, h4⟩ := Array.any_eq_true.1 h1
        simp only [Bool.and_eq_true, decide_eq_true_eq] at h4
        have h5 := hall (o.after[n]) (Array.getElem_mem hn) h4.1
        rw [getD_tf (hdown _ _ rfl h4.2.1 (by omega))] at h5
        cases h5
theorem wpAnyL_first {k : Nat} (hk : k ≤ ops.size) (hc : tailB md ops k = true) {R : Act → Prop} {i : Nat} {oi : Oper} {v : Value} (hik : i < k) (hi : ops[i]? = some oi) (hsel : ∀ (j : Nat) (o : Oper) cs b, ops[j]? = some o → o.op ≠ .select cs b) :
    ∀ (fuel : Nat) (listed : Array Bool) (a : Act), Closed md ops listed →
      (∀ j oj, ops[j]? = some oj → j ≠ i → listed.getD j true = false → (∀ e ∈ oj.after, Region.binds md e = true → e.on ≠ i) → oi.apart ops oj = true) →
      i ∈ Region.ready md ops listed → YieldsIn P ops C oi v a →
      wpAnyK P md ops C k R fuel (listed.setIfInBounds i true) (a.put oi.dst v) → wpAnyK P md ops C k R (fuel + 1) listed a := by
  intro fuel
  induction fuel with
  | zero =>
    intro listed a hcl _ hr hy H
    refine ⟨fun h => (by rw [h] at hr; cases hr), fun j hj => ?_⟩
    have hjk := tail_lt hc hcl hik (mem_ready.1 hr).1 j hj
    refine ⟨hjk, ?_⟩
    by_cases hji : j = i
    · subst hji; exact hy.qOp hi H
    · have h1 := (mem_ready.1 hj).1
      rw [← getD_set_ne true (Ne.symm hji), H.1, upTo_get _ _ _ _ (by omega)] at h1
      simp [hjk] at h1
  | succ fuel ih =>
    intro listed a hcl hfree hr hy H
    refine ⟨fun h => (by rw [h] at hr; cases hr), fun j hj => ?_⟩
    have hjk := tail_lt hc hcl hik (mem_ready.1 hr).1 j hj
    refine ⟨hjk, ?_⟩
    by_cases hji : j = i
    · subst hji; exact hy.qOp hi H
    · have h1 := (H.2 j (ready_mono hj hji)).2
      obtain ⟨hjun, oj, hoj, hall⟩ := mem_ready.1 hj
      have hnot : ∀ e ∈ oj.after, Region.binds md e = true → e.on ≠ i := fun e he hb heq => by
        have h1 := hall e he hb
        have h0 := (mem_ready.1 hr).1
        rw [heq, getD_tf h0] at h1
        cases h1
      have h2 := qOp_put hoj (hfree j oj hoj hji hjun hnot) (fun cs b => hsel i oi cs b hi) (fun cs b => hsel j oj cs b hoj) hy h1
      have hfree' : ∀ k ok, ops[k]? = some ok → k ≠ i → (listed.setIfInBounds j true).getD k true = false →
          (∀ e ∈ ok.after, Region.binds md e = true → e.on ≠ i) → oi.apart ops ok = true := fun k ok hk hki hun hno => by
        refine hfree k ok hk hki ?_ hno
        by_cases hjk : j = k
        · subst hjk; exact hjun
        · rw [getD_set_ne true hjk] at hun; exact hun
      refine qOp_mono (fun a' h3 => ih (listed.setIfInBounds j true) a' (hcl.set hj) hfree' (ready_mono hr (Ne.symm hji)) h3.1 ?_) h2
      rw [Array.setIfInBounds_comm _ _ hji]
      exact h3.2
theorem wpAnyL_lex {k : Nat} (hk : k ≤ ops.size) (hc : tailB md ops k = true) (hs : Region.noSelect ops = true) {R : Act → Prop} : ∀ (l : List Oper) (m : Nat) (listed : Array Bool) (a : Act), (∀ j, j < l.length → l[j]? = ops[m + j]?) →
    m + l.length = k → Closed md ops listed → segB md ops k l.length m listed = true → wpQuiet P ops C R l a → wpAnyK P md ops C k R l.length listed a
  | [], _, listed, _, _, _, _, hB, h => ⟨by simpa [segB] using hB, h⟩
  | o :: l, m, listed, a, hl, hm, hcl, hB, h => by
    have h0 : ops[m]? = some o := by simpa using (hl 0 (by simp)).symm
    simp only [List.length_cons, segB, Bool.and_eq_true] at hB hm
    obtain ⟨⟨hr, hf⟩, hB'⟩ := hB
    have hst : qOp P ops C m (wpQuiet P ops C R l) a := by unfold qOp; simp only [h0]; exact h
    obtain ⟨v, hy, hK⟩ := yieldsIn_of_qOp h0 hst
    have hr' : m ∈ Region.ready md ops listed := by simpa using hr
    exact wpAnyL_first hk hc (by omega) h0 (Region.noSelect_spec hs) l.length listed a hcl (Region.free_spec h0 hf) hr' hy
      (wpAnyL_lex hk hc hs l (m + 1) _ _ (fun j hj => by have := hl (j + 1) (by simp; omega); simpa [Nat.add_assoc, Nat.add_comm 1 j] using this) (by omega) (hcl.set hr') hB' hK)
def lastB (ops : Array Oper) (k : Nat) : Bool := Region.noSelect ops && shutB .any ops (upTo ops.size 0) && tailB .any ops k && segB .any ops k k 0 (upTo ops.size 0)
theorem stretch_last (n k f : Nat) {l : List Oper} {Q : Exit → Act → World → Prop} {a : Act} {w : World} (hn : l.length = n) (hf : n = k + f) (hB : lastB l.toArray k = true) (hC : C w)
    (h : ∀ R, R = l.take k → wpQuiet P l.toArray C (fun a' => ∀ w', C w' → wpAny P .any l.toArray Q f (upTo n k) a' w') R a) : wpAny P .any l.toArray Q n (upTo n 0) a w := by
  subst hn
  simp only [lastB, Bool.and_eq_true] at hB
  obtain ⟨⟨⟨h3, h4⟩, h5⟩, h6⟩ := hB
  have hlen : (l.take k).length = k := by rw [List.length_take]; omega
  have key := wpAnyL_lex (P := P) (ops := l.toArray) (md := .any) (C := C) (k := k) (by simp; omega) h5 h3 (l.take k) 0 (upTo l.length 0) a
    (fun j hj => by rw [hlen] at hj; rw [List.getElem?_take_of_lt hj]; simp) (by omega) (by simpa using shutB_spec h4) (by rw [hlen]; simpa using h6) (h _ rfl)
  have := wpAny_of_K (Q := Q) (m := f) (fun a' w' hw' hk => by simpa using hk w' hw') _ _ _ w hC key
  rw [hlen, ← hf] at this
  exact this
/-- A region that draws: the first k operations only make memory, the last f stand behind them. -/
theorem wp_region_last (n k f : Nat) {id : Nat} {Q : Exit → Act → World → Prop} {a : Act} {w : World} {l : List Oper} (hn : l.length = n) (hf : n = k + f) (hm : P.follows .mixedOrders = true) (hB : lastB l.toArray k = true)
    (h : ∀ R, R = l.take k → wpQuiet P l.toArray (fun w' => ∃ W : ModW w, w' = W.1) (fun a' => ∀ w', (∃ W : ModW w, w' = W.1) → wpAny P .any l.toArray Q f (upTo n k) a' w') R a) : (Code.region id l.toArray true).wp P Q a w :=
  wp_region_stretch' n hn hm (stretch_last n k f hn hf hB ⟨⟨w.drew, (Mod.refl _ w).drew⟩, rfl⟩ h)
end
end Go.Proofs.YtefedalnafjcfaaGreatDoor

