/- Layer 1, fault: FaultHas, the walk. -/
import Derived.Test.YtcahnhohinckdaaDoorFault7
import Derived.Test.YtcahnhohinckdaaDoorRow
import Derived.Deep.RegionHeld3
namespace Go.Proofs.YtcahnhohinckdaaDoor
open Go.RowKit
set_option linter.unusedVariables false
theorem inR0 : Rd.inR .i64 0 := by simp [Rd.inR, Lit.wf, IntKind.min, IntKind.max, IntKind.signed, IntKind.bits]
theorem alloc_size (w : World) (o : Obj) : (w.alloc o).heap.size = w.heap.size + 1 := by
  show (w.heap.push o).size = _
  rw [Array.size_push]
theorem link_rel (w : World) (ok : Nat → Prop) (n : Int) (h : Rd.inR .i64 n) : LinkR.rel w ok [.string ⟨#[]⟩, .int .i64 n] ⟨⟨#[]⟩, n⟩ :=
  LinkR_iff.2 ⟨[.string ⟨#[]⟩], [.int .i64 n], rfl, ⟨rfl, show (⟨#[]⟩ : ByteArray).size ≤ 140737488355328 by decide⟩, ⟨rfl, h⟩⟩
theorem own3 (w : World) (a b c : Int) (S : Nat → Prop) (ha : Rd.inR .i64 a) (hb : Rd.inR .i64 b) (hc : Rd.inR .i64 c) :
    OwnR LinkR 28 (w.alloc (.cells #[.string ⟨#[]⟩, .int .i64 a, .string ⟨#[]⟩, .int .i64 b, .string ⟨#[]⟩, .int .i64 c] 28)) w.heap.size S (.slice (some ⟨w.heap.size, 0, none⟩) 3 3) [⟨⟨#[]⟩, a⟩, ⟨⟨#[]⟩, b⟩, ⟨⟨#[]⟩, c⟩] := by
  refine ⟨_, World.ownsRow_lit w _ 3 (Nat.le_refl _) (by decide) rfl, fun j x hj => ?_⟩
  match j, hj with
  | 0, hj => cases hj; exact link_rel _ _ a ha
  | 1, hj => cases hj; exact link_rel _ _ b hb
  | 2, hj => cases hj; exact link_rel _ _ c hc
  | j + 3, hj => simp at hj
set_option maxRecDepth 100000 in
set_option maxHeartbeats 2000000 in
theorem faultHas_mod (A : Option Addr) (n c : Nat) (l : List Link) (last e : Int) (ok : Nat → Prop) (w : World) (h : linksR.rel w ok [.slice A n c] l) (hlast : Rd.inR .i64 last) (he : Rd.inR .i64 e) :
    Calls Tryd.prog 3 #[.slice A n c, .int .i64 last, .int .i64 e] w fun r w' => r = .returned (.bool true) ∧ Mod (fun _ => False) w w' := by
  obtain ⟨rfl, hcap, -, -⟩ := link_row h
  have H0 := Lib.hid h; clear h
  go_enter Tryd.func3, Tryd.ntmps3
  go_wp2_with fail
  refine (first_any _).mono ?_
  rintro r w1 ⟨rfl, hm⟩
  have H1 := Lib.hid (And.intro (Rd.mod (Rd.bound H0.out) hm (fun _ _ => id)) hm); clear H0 hm
  by_cases ha : 50 < l.length
  · have hd : decide ((50 : Int) < (l.length : Int)) = true := by simp; omega
    go_wp2_with fail
    go_ret
    exact ⟨rfl, H1.out.2⟩
  have hda : decide ((50 : Int) < (l.length : Int)) = false := by simp; omega
  go_wp2_with fail
  refine (made_any A _ c l last _ w1 H1.out.1).mono ?_
  rintro r w2 ⟨v, rfl, he, hm⟩
  have H2 := Lib.hid (And.intro (Rd.mod (Rd.bound H1.out.1) hm (fun _ _ => id)) (And.intro he (H1.out.2.trans hm (fun _ h => h.elim)))); clear he hm H1
  have HN := Lib.hid (And.intro he hlast); clear he hlast
  go_wp2_with (at_builtin; refine append_all (R := LinkR) w2.heap.size rfl _ _ 22 28 (.agg zeroLink.toArray) 24 rfl Tryd.underlying22 Tryd.info_link3 rfl (.slice (some ⟨w2.heap.size, 0, none⟩) 3 3) [⟨⟨#[]⟩, e⟩, ⟨⟨#[]⟩, last⟩, ⟨⟨#[]⟩, 0⟩] l (fun k => k < w2.heap.size) A c rfl rfl (own3 w2 e last 0 _ HN.out.1 HN.out.2 (inR0)) ?hy ?hA ?hb ?hl (by decide) ?_)
  case hy =>
    obtain ⟨-, -, hrow, -⟩ := link_row H2.out.1
    exact Rd.RowOf.weak <| hrow.step (ok1 := fun k => k < w2.heap.size ∧ some k ≠ (Value.slice (some ⟨w2.heap.size, 0, none⟩) 3 3).ownBlock) fun k hk hl => ⟨⟨hk.2, fun e => by have := hk.2; simp only [Value.ownBlock, Option.some.injEq] at e; omega⟩, ((Mod.refl (fun _ => False) w2).alloc _).block k hl id⟩
  case hA => obtain ⟨_, _, hv, _, _, _, h5, _⟩ := H2.out.1; simp only [List.cons.injEq, Value.slice.injEq, and_true] at hv; obtain ⟨rfl, _, rfl⟩ := hv; exact h5
  case hb => rw [alloc_size]; omega
  case hl => simp only [List.length_cons, List.length_nil]; omega
  intro A3 c3 w3 hO hm3 hn3
  obtain ⟨L, hL⟩ : ∃ L : List Link, L = [⟨⟨#[]⟩, e⟩, ⟨⟨#[]⟩, last⟩, ⟨⟨#[]⟩, 0⟩] ++ l := ⟨_, rfl⟩
  have hLl : L.length = 3 + l.length := by rw [hL]; simp; omega
  have hO2 : OwnR LinkR 28 w3 w2.heap.size (fun k => k < w2.heap.size) (.slice A3 L.length c3) L := by rw [hLl, hL]; exact hO
  have hm : Mod (fun _ => False) w2 w3 := ((Mod.refl (fun _ => False) w2).alloc _).trans hm3 (fun k hk => .inr (by simp only [Value.ownBlock, Option.some.injEq] at hk; omega))
  obtain ⟨-, -, hrow, -⟩ := link_row (hO2.reads (bytes := 24) (by omega))
  have H3 := Lib.hid (And.intro hrow (And.intro (H2.out.2.1.mod hm) (And.intro (Rd.mod H2.out.1 hm (fun _ _ => id)) (H2.out.2.2.trans hm (fun _ h => h.elim))))); clear hO hO2 hm hm3 hn3 hrow hL H2 HN
  rw [show 3 + l.length = L.length from hLl.symm]
  have hLb : L.length ≤ 53 := by omega
  clear hLl
  go_wp2_with fail
  go_loopg [27] L.length (fun f si wr => ∃ (i : Nat), si = .int .i64 i ∧ i + f = L.length ∧ Mod (fun _ => False) w3 wr)
  case atStart => exact ⟨0, rfl, by omega, .refl _ _⟩
  case round =>
    obtain ⟨i, rfl, hi, hmod⟩ := hrel
    by_cases hlt : i < L.length
    · obtain ⟨x, hx⟩ : ∃ x, L[i]? = some x := ⟨_, List.getElem?_eq_getElem hlt⟩
      obtain ⟨ad, cs, rfl, -, hr, hc⟩ := (H3.out.1.step (w1 := wr) (ok1 := fun _ => True) fun k hk hl => ⟨trivial, hmod.block k hl id⟩).at_ hx
      have hce := LinkR_cells hr
      have HX := Lib.hid (And.intro hi (And.intro hmod (And.intro hr (And.intro hc hce))))
      clear hi hmod hx hr hc hce
      go_wp2_with (refine wpList_copy_var (n := 2) rfl rfl rfl 28 _ _ _ rfl rfl rfl Tryd.underlying28 zeroLink Tryd.info_link2 rfl (ad.add (i * 2)) rfl cs (LinkR.len HX.out.2.2.1) (LinkR.one HX.out.2.2.1) (fun j u hj => by rw [add_add]; exact HX.out.2.2.2.1 j u hj) (fun _ _ => rfl) (fun _ _ => rfl) ?_)
      intro g w4 hgs hgb hm1
      obtain ⟨co, hco⟩ : ∃ co, co = x.code := ⟨_, rfl⟩
      have hm4 := HX.out.2.1.trans (hm1 fun _ => False) (fun _ h => h.elim)
      have hcells : ∀ W, Mod (fun _ => False) w4 W → W.cell? ⟨g, 1, none⟩ = some (.int .i64 co) ∧ Mod (fun _ => False) w4 W := fun W hW => ⟨by rw [cell_of_blk ((hW.block g (lt_of_blk hgb) id).trans hgb), HX.out.2.2.2.2, hco]; rfl, hW⟩
      have hdat : ∀ W, Mod (fun _ => False) w4 W → ErrAt W v (keptL l) last ∧ linksR.rel W (fun k => (ok k ∧ k < w.heap.size) ∧ k < w1.heap.size) [.slice A l.length c] l := fun W hW =>
        have h1 := hm4.trans hW (fun _ h => h.elim)
        ⟨H3.out.2.1.mod h1, Rd.mod H3.out.2.2.1 h1 (fun _ _ => id)⟩
      have c1 := (hcells w4 (.refl _ _)).1
      have HC := Lib.hid hcells
      have HD := Lib.hid hdat
      have HM := Lib.hid hm4
      clear hgs hgb hm1 hcells hdat hm4 hco
      go_wp2_with fail
      obtain ⟨q, hq⟩ : ∃ q, q = hasS (keptL l) last co := ⟨_, rfl⟩
      have HH := Lib.hid (fun W hW => (has_any co (keptL l) last v W ((HD.out W hW).1)))
      have HR2 := Lib.hid (fun (AK : Option Addr) (cK : Nat) (W : World) hr => refhas_any AK (keptL l).length cK (keptL l) last co (fun _ => True) W hr)
      rw [← hq] at HH HR2
      clear hq
      go_region_held3 (fun w' => w'.cell? ⟨g, 1, none⟩ = some (.int .i64 co) ∧ Mod (fun _ => False) w4 w')
        (first | assumption | exact HC.out _ (Mod.trans (And.right (by assumption)) hmC (fun _ h => False.elim h)) | exact HC.out _ (Mod.trans (And.right (by assumption)) hmB (fun _ h => False.elim h)) | exact HC.out _ (Mod.trans (And.right (by assumption)) hmA (fun _ h => False.elim h)) | exact HC.out _ ((Mod.refl (fun _ => False) w4).drew))
        (first
          | (go_at_call 8; refine (HH.out _ (And.right (by assumption))).mono ?_; rintro r WA ⟨rfl, hmA⟩)
          | (go_at_call 10; refine (kept_any A _ c l _ _ (HD.out _ (And.right (by assumption))).2 (by omega)).mono ?_; rintro r WB ⟨AK, cK, rfl, hrK, hmB⟩)
          | (go_at_call 9; refine (HR2.out AK cK _ hrK).mono ?_; rintro r WC ⟨rfl, hmC⟩))
      have HE := Lib.hid (HM.out.trans (((((Mod.refl (fun _ => False) w4).drew).trans hmA (fun _ h => h.elim)).trans hmB (fun _ h => h.elim)).trans hmC (fun _ h => h.elim)) (fun _ h => h.elim))
      clear hmA hmB hmC hrK
      go_wp2_with fail
      go_roundg (gk - 1)
      case measure => have := HX.out.1; omega
      case rel => exact ⟨i + 1, by go_num, by have := HX.out.1; omega, HE.out⟩
    · have HX := Lib.hid hmod; clear hmod hi
      go_wp2_with fail
      go_ret
      exact ⟨rfl, H3.out.2.2.2.trans HX.out (fun _ h => h.elim)⟩
end Go.Proofs.YtcahnhohinckdaaDoor
