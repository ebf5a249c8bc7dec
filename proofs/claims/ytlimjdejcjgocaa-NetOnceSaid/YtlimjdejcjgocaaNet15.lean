/- Layer 29, the laws: first. -/
import Derived.Test.YtlimjdejcjgocaaNet14
import Derived.Test.YtlimjdejcjgocaaNetP
import Derived.Lib.SlBytesConst
namespace Go.Proofs.Ytlimjdejcjgocaa
open Go.RowKit
set_option linter.unusedVariables false
theorem NetSt.below {B : Nat} {w w1 : World} {g : Nat} {xs : List Pk} {most seq now lost : Int} (h : NetSt B w g xs most seq now lost) (hm : NMod g w w1) (hB : B ≤ w.heap.size) : Mod (fun k => B ≤ k) w w1 := hm.mod.mono (fun k hk => (h.netB hk).1)
theorem own_weakK {w : World} {base base' : Nat} {e : TypeId} {size n : Nat} {v : Value} {xs : List Value} (h : w.ownsRow base e size v n xs) (hb : base' ≤ base) : w.ownsRow base' e size v n xs :=
  ⟨h.1, h.2.imp id (fun ⟨g, c1, cu, q1, q2, q3⟩ => ⟨g, c1, cu, q1, Nat.le_trans hb q2, q3⟩)⟩
/-- a net's state, with how it came from the world in which it was made -/
structure NS (w0 w : World) (g : Nat) (xs : List Pk) (most seq now lost : Int) : Prop where
  st : NetSt w0.heap.size w g xs most seq now lost
  m : Mod (fun _ => False) w0 w
theorem NS.step {w0 w w1 : World} {g : Nat} {xs ys : List Pk} {most seq now lost seq' now' lost' : Int} (h : NS w0 w g xs most seq now lost) (h1 : NetSt w0.heap.size w1 g ys most seq' now' lost') (hm : NMod g w w1) : NS w0 w1 g ys most seq' now' lost' :=
  ⟨h1, h.m.trans hm.mod (fun k hk => .inr (h.st.netB hk).1)⟩
theorem NS.quiet {w0 w w1 : World} {g : Nat} {xs : List Pk} {most seq now lost : Int} (h : NS w0 w g xs most seq now lost) (hm : Mod (fun _ => False) w w1) : NS w0 w1 g xs most seq now lost :=
  ⟨h.st.move hm (fun _ h => h.elim), h.m.trans hm (fun _ h => h.elim)⟩
theorem lit_bytes (W : World) (b : UInt8) : bytesR.rel (W.alloc (.cells #[.int .u8 (b.toNat : Int)] 5 (1, 2))) (fun k => k = W.heap.size) [.slice (some ⟨W.heap.size, 0, none⟩) 1 1] [b] := by
  refine ⟨_, 1, rfl, Nat.le_refl _, by decide, by simp, by simp, .inr ⟨_, rfl, rfl, fun j x hj => ?_⟩⟩
  refine ⟨[.int .u8 (x.toNat : Int)], rfl, fun i u hu => ?_⟩
  have hj0 : j = 0 := by have := (List.getElem?_eq_some_iff.1 hj).1; simp at this; omega
  have hi0 : i = 0 := by have := (List.getElem?_eq_some_iff.1 hu).1; simp at this; omega
  subst hj0; subst hi0
  simp at hj hu
  subst hj; subst hu
  rw [show (0 * Rd.byte.sz + 0) = 0 by simp, add_own, cell_of_blk (heap_alloc_new W _)]
  rfl
theorem pk_lt {p q : Pk} {a b c d : Int} (h1 : p.due = a) (h2 : q.due = b) (h3 : p.seq = c) (h4 : q.seq = d) : ltK p q = (decide (a < b) || (decide (a = b) && decide (c < d))) := by unfold ltK; rw [h1, h2, h3, h4]
theorem NetSt.fresh {B : Nat} {w w1 : World} {g : Nat} {xs : List Pk} {most seq now lost : Int} (h : NetSt B w g xs most seq now lost) (hm : Mod (fun _ => False) w w1) {k : Nat} (hk : w.heap.size ≤ k) : ¬ NetB g w1 k := by
  obtain ⟨v, h1, h2, h3, h4, h5⟩ := h
  obtain ⟨A, c, rfl⟩ := own_slice h2
  intro hn
  rcases (netB_iff (h1.mod hm id) k).1 hn with rfl | hn
  · have := lt_of_blk h1; omega
  · have := (h2.lt k hn).2; omega
/-- a block of the law's own, apart from the net's -/
structure Loc (g : Nat) (w : World) (k : Nat) (cs : List Value) : Prop where
  blk : w.heap[k]? = some (.cells cs.toArray 35 (0, 0))
  no : ¬ NetB g w k
theorem Loc.net {g k : Nat} {w w1 : World} {cs : List Value} (h : Loc g w k cs) (hm : NMod g w w1) : Loc g w1 k cs := by
  obtain ⟨h1, h2⟩ := hm.keep (lt_of_blk h.blk) h.no
  exact ⟨h1.trans h.blk, h2⟩
theorem Loc.quiet {g k : Nat} {w w1 : World} {cs : List Value} (h : Loc g w k cs) (hm : Mod (fun _ => False) w w1) (hg : g < w.heap.size) : Loc g w1 k cs := h.net (.none hm hg)
theorem Loc.new {B : Nat} {w : World} {g : Nat} {xs : List Pk} {most seq now lost : Int} (h : NetSt B w g xs most seq now lost) (cs : List Value) : Loc g (w.alloc (.cells cs.toArray 35)) w.heap.size cs :=
  ⟨heap_alloc_new w _, h.fresh ((Mod.refl (fun _ => False) w).alloc _) (Nat.le_refl _)⟩
theorem netB_same {g k : Nat} {w w1 : World} (hg : w1.heap[g]? = w.heap[g]?) (h : NetB g w1 k) : NetB g w k := by
  rcases h with h | ⟨A, n, c, h1, h2⟩
  · exact .inl h
  · refine .inr ⟨A, n, c, ?_, h2⟩
    rw [← h1]; exact (World.cell?_of_block (w := w) hg).symm
/-- where bytes that a slice owns are written -/
theorem Loc.bytes {B g k : Nat} {w w1 : World} {cs : List Value} {xs : List Pk} {most seq now lost : Int} {base : Nat} {v : Value} {bs : List UInt8} (h : Loc g w k cs) (hst : NetSt B w g xs most seq now lost) (ho : w.ownsRow base 5 1 v bs.length (bcells bs)) (hm : Mod (fun k => v.ownBlock = some k) w w1) : Loc g w1 k cs := by
  have hu : ∀ j, v.ownBlock = some j → ∃ cs fr, w.heap[j]? = some (.cells cs 5 fr) := fun j hj => by
    rcases ho.2 with ⟨rfl, _⟩ | ⟨g', cap, cur, rfl, _, hb, _⟩
    · simp [Value.ownBlock] at hj
    · simp only [Value.ownBlock, Option.some.injEq] at hj
      subst hj
      exact ⟨_, _, hb⟩
  refine ⟨(hm.block k (lt_of_blk h.blk) (fun e => ?_)).trans h.blk, fun e => h.no (netB_same (hm.block g hst.lt (fun e2 => ?_)) e)⟩
  · obtain ⟨cs', fr, hb⟩ := hu k e
    rw [h.blk] at hb
    simp at hb
  · obtain ⟨cs', fr, hb⟩ := hu g e2
    exact hst.not hb (by decide) (by decide) (.inl rfl)
set_option maxRecDepth 100000 in
set_option maxHeartbeats 4000000 in
theorem first_any (w : World) : Calls Try.prog 5 #[] w fun e w' => e = .returned (.bool true) ∧ Mod (fun _ => False) w w' := by
  go_enter Try.func5, Try.ntmps5
  go_wp2_with fail
  refine (new_any 3 w (by decide) (by decide)).mono ?_
  rintro e w1 ⟨g, rfl, h1, hg, hm1⟩
  have S1 : NS w w1 g [] 3 0 0 0 := ⟨h1, hm1⟩
  have H1 := Lib.hid S1; clear S1 h1 hm1 hg
  have cv1 := Lib.run_convert_bytes_const (P := Try.prog) w1 29 5 #[.int .u8 97] 1 1 Try.underlying29 Try.underlying5
  go_wp2_with fail
  refine (send_ok _ g [] 3 0 0 0 1 5 _ 1 1 [97] _ _ (H1.out.st.move ((Mod.refl (fun _ => False) w1).alloc _) (fun _ h => h.elim)) (by simp) (by simp) (by decide) (by decide) (lit_bytes w1 97) (by simp)).mono ?_
  rintro e w2 ⟨rfl, p0, a1, a2, a3, a4, a5, a6⟩
  rw [push1] at a5
  have S2 : NS w w2 g [p0] 3 1 0 0 := (H1.out.quiet ((Mod.refl (fun _ => False) w1).alloc _)).step a5 a6
  have H2 := Lib.hid (And.intro S2 (And.intro a1 (And.intro a2 (And.intro (a3.trans (show dueOf 0 5 = 5 by decide)) a4)))); clear S2 a1 a2 a3 a4 a5 a6 H1 cv1
  have cv2 := Lib.run_convert_bytes_const (P := Try.prog) w2 29 5 #[.int .u8 98] 1 1 Try.underlying29 Try.underlying5
  go_wp2_with fail
  have o0 : (w2.alloc (.cells #[.int .u8 98] 5 (1, 2))).ownsRow 0 5 1 p0.v [(97 : UInt8)].length (bcells [97]) := (own_weakK H2.out.2.2.2.2 (Nat.zero_le _)).alloc _
  have HS2 := Lib.hid (send_ok _ g [p0] 3 1 0 0 2 2 _ 1 1 [98] _ _ (H2.out.1.st.move ((Mod.refl (fun _ => False) w2).alloc (.cells #[.int .u8 98] 5 (1, 2))) (fun _ h => h.elim)) (by simp) (by simp) (by decide) (by decide) (lit_bytes w2 98) (by simp))
  refine HS2.out.mono ?_
  rintro e w3 ⟨rfl, p1, a1, a2, a3, a4, a5, a6⟩
  have d1 : p1.due = 2 := a3.trans (show dueOf 0 2 = 2 by decide)
  rw [push2_lt (by rw [pk_lt d1 H2.out.2.2.2.1 a1 H2.out.2.1]; decide)] at a5
  have q2 := (H2.out.1.quiet ((Mod.refl (fun _ => False) w2).alloc (.cells #[.int .u8 98] 5 (1, 2))))
  have S3 : NS w w3 g [p1, p0] 3 2 0 0 := q2.step a5 a6
  have o3 := own_net q2.st o0 a6
  have n3 : ∀ k, p0.v.ownBlock = some k → p1.v.ownBlock ≠ some k := fun k hk e => by
    have h1 := (H2.out.2.2.2.2.lt k hk).2
    have h2 := (a4.lt k e).1
    simp only [World.size_alloc] at h2
    omega
  have n1 : ∀ k, p1.v.ownBlock = some k → w.heap.size ≤ k := fun k e => by
    have h2 := (a4.lt k e).1
    have h1 := H2.out.1.m.size
    simp only [World.size_alloc] at h2
    omega
  have HN1 := Lib.hid n1; clear n1
  have H3 := Lib.hid (And.intro S3 (And.intro (And.intro a1 (And.intro a2 (And.intro d1 (own_weakK a4 (Nat.zero_le _))))) (And.intro (And.intro H2.out.2.1 (And.intro H2.out.2.2.1 (And.intro H2.out.2.2.2.1 o3))) n3))); clear S3 a1 a2 a3 a4 a5 a6 H2 HS2 cv2 d1 o0 q2 o3 n3
  go_wp2_with fail
  have srt10 : Srt [p1, p0] [p0, p1] := .inr ⟨p1, p0, rfl, rfl, by rw [H3.out.2.1.1, H3.out.2.2.1.1]; decide⟩
  have hf0 : ∀ j x, j < 1 → [p1, p0][j]? = some x → x.seq ≠ p0.seq := fun j x hj hx => by
    obtain rfl : j = 0 := by omega
    simp at hx; subst hx
    rw [H3.out.2.1.1, H3.out.2.2.1.1]; decide
  refine (copy_any _ g [p1, p0] [p0, p1] 0 1 p0 p0 [97] 0 3 2 0 0 w3 H3.out.1.st srt10 rfl rfl rfl hf0 H3.out.2.2.1.2.2.2 (by simp) (by simp) (by decide) (by decide)).mono ?_
  rintro e w4 ⟨rfl, p2, a1, a2, a3, a4, a5, a6⟩
  have d2 : p2.due = 0 := a3.trans (show dueOf 0 0 = 0 by decide)
  rw [push3_lt (by rw [pk_lt d2 H3.out.2.1.2.2.1 a1 H3.out.2.1.1]; decide)] at a5
  have S4 : NS w w4 g [p2, p0, p1] 3 3 0 0 := H3.out.1.step a5 a6
  have H4 := Lib.hid (And.intro S4 (And.intro (And.intro a1 (And.intro (a2.trans H3.out.2.2.1.2.1) d2)) (And.intro (own_net H3.out.1.st H3.out.2.1.2.2.2 a6) (own_net H3.out.1.st H3.out.2.2.1.2.2.2 a6)))); clear S4 a1 a2 a3 a4 a5 a6 d2 srt10 hf0
  go_wp2_with fail
  refine (send_full _ g [p2, p0, p1] 3 3 0 0 3 0 _ w4 H4.out.1.st (by simp) (by simp) (by decide)).mono ?_
  rintro e w5 ⟨rfl, a5, a6⟩
  have S5 : NS w w5 g [p2, p0, p1] 3 3 0 1 := H4.out.1.step a5 a6
  have H5 := Lib.hid (And.intro S5 (And.intro (own_net H4.out.1.st H4.out.2.2.1 a6) (own_net H4.out.1.st H4.out.2.2.2 a6))); clear S5 a5 a6
  go_wp2_with fail
  refine (pop_any _ g [p2, p0, p1] p2 3 3 0 1 w5 H5.out.1.st rfl (by simp)).mono ?_
  rintro e w6 ⟨rfl, a5, a6⟩
  have tk3 : (popL ltK [p2, p0, p1]).take ([p2, p0, p1].length - 1) = [p1, p0] := pop3_no (by rw [pk_lt H3.out.2.2.1.2.2.1 H3.out.2.1.2.2.1 H3.out.2.2.1.1 H3.out.2.1.1]; decide)
  rw [tk3] at a5
  have mx0 : max (0 : Int) p2.due = 0 := by rw [H4.out.2.1.2.2]; decide
  rw [mx0] at a5
  have S6 : NS w w6 g [p1, p0] 3 3 0 1 := H5.out.1.step a5 a6
  have H6 := Lib.hid (And.intro S6 (And.intro (own_net H5.out.1.st H5.out.2.1 a6) (own_net H5.out.1.st H5.out.2.2 a6))); clear S6 a5 a6 tk3 mx0
  go_wp2_with (first
    | (refine wpList_alloc_agg rfl 35 rfl zeroPk.toArray (by kernel_rfl) ?_)
    | (refine wpList_store_new rfl 35 _ _ rfl 35 zeroPk.toArray p2.cells rfl rfl Try.info_pk1 rfl (pk_one p2) ?_))
  obtain ⟨w7, hw7⟩ : ∃ w7, w7 = w6.alloc (.cells p2.cells.toArray 35) := ⟨_, rfl⟩
  obtain ⟨g7, hg7⟩ : ∃ g7, g7 = w6.heap.size := ⟨_, rfl⟩
  rw [← hw7, ← hg7]
  have m7 : Mod (fun _ => False) w6 w7 := by rw [hw7]; exact (Mod.refl _ _).alloc _
  have l7 : Loc g w7 g7 p2.cells := by rw [hw7, hg7]; exact Loc.new H6.out.1.st _
  have H7 := Lib.hid (And.intro (H6.out.1.quiet m7) (And.intro (own_move H6.out.2.1 (fun k hk => m7.block k (H6.out.2.1.lt k hk).2 id)) (And.intro (own_move H6.out.2.2 (fun k hk => m7.block k (H6.out.2.2.lt k hk).2 id)) l7))); clear m7 l7 hw7 hg7
  have srt : Srt [p1, p0] [p0, p1] := .inr ⟨p1, p0, rfl, rfl, by rw [H3.out.2.1.1, H3.out.2.2.1.1]; decide⟩
  refine (turn_any _ g [p1, p0] [p0, p1] 1 0 0 p1 p1 [98] 3 3 0 1 w7 H7.out.1.st srt rfl rfl rfl (fun j x hj hx => by omega) H7.out.2.1 (by simp) (by simp) (by decide)).mono ?_
  rintro e w8 ⟨rfl, a1, a2, a3⟩
  have fl : flipB [98] 0 = [99] := by decide +kernel
  rw [fl] at a1
  have o0 : w8.ownsRow 0 5 1 p0.v [(97 : UInt8)].length (bcells [97]) := own_move H7.out.2.2.1 (fun k hk => a3.block k (H7.out.2.2.1.lt k hk).2 (fun e => H3.out.2.2.2 k hk e))
  have S8 : NS w w8 g [p1, p0] 3 3 0 1 := ⟨a2, H7.out.1.m.trans a3 (fun k hk => .inr (HN1.out k hk))⟩
  have H8 := Lib.hid (And.intro S8 (And.intro a1 (And.intro o0 (H7.out.2.2.2.bytes H7.out.1.st H7.out.2.1 a3)))); clear S8 a1 a2 a3 fl o0 srt
  go_wp2_with fail
  refine (pop_any _ g [p1, p0] p1 3 3 0 1 w8 H8.out.1.st rfl (by simp)).mono ?_
  rintro e w9 ⟨rfl, a5, a6⟩
  have tk2 : (popL ltK [p1, p0]).take ([p1, p0].length - 1) = [p0] := pop2
  rw [tk2] at a5
  have mx2 : max (0 : Int) p1.due = 2 := by rw [H3.out.2.1.2.2.1]; decide
  rw [mx2] at a5
  have S9 : NS w w9 g [p0] 3 3 2 1 := H8.out.1.step a5 a6
  have o1 : w9.ownsRow 0 5 1 p1.v [(99 : UInt8)].length (bcells [99]) := own_net (bs := [99]) H8.out.1.st H8.out.2.1 a6
  have H9 := Lib.hid (And.intro S9 (And.intro o1 (And.intro (own_net H8.out.1.st H8.out.2.2.1 a6) (H8.out.2.2.2.net a6)))); clear S9 o1 a5 a6 tk2 mx2
  go_wp2_with (first
    | (refine wpList_alloc_agg rfl 35 rfl zeroPk.toArray (by kernel_rfl) ?_)
    | (refine wpList_store_new rfl 35 _ _ rfl 35 zeroPk.toArray p1.cells rfl rfl Try.info_pk1 rfl (pk_one p1) ?_))
  obtain ⟨wA, hwA⟩ : ∃ wA, wA = w9.alloc (.cells p1.cells.toArray 35) := ⟨_, rfl⟩
  obtain ⟨g10, hg10⟩ : ∃ g10, g10 = w9.heap.size := ⟨_, rfl⟩
  rw [← hwA, ← hg10]
  have mA : Mod (fun _ => False) w9 wA := by rw [hwA]; exact (Mod.refl _ _).alloc _
  have lA : Loc g wA g10 p1.cells := by rw [hwA, hg10]; exact Loc.new H9.out.1.st _
  have HA := Lib.hid (And.intro (H9.out.1.quiet mA) (And.intro (own_move H9.out.2.1 (fun k hk => mA.block k (H9.out.2.1.lt k hk).2 id)) (And.intro (own_move H9.out.2.2.1 (fun k hk => mA.block k (H9.out.2.2.1.lt k hk).2 id)) (And.intro (H9.out.2.2.2.quiet mA H9.out.1.st.lt) lA)))); clear mA lA hwA hg10
  refine (at_any _ g [p0] [p0] 0 0 p0 p0 [97] 3 3 2 1 wA HA.out.1.st (.inl ⟨p0, rfl, rfl⟩) rfl rfl rfl (fun j x hj hx => by omega) HA.out.2.2.1 (by simp)).mono ?_
  rintro e wB ⟨A2, c2, rfl, oB, mB⟩
  have HB := Lib.hid (And.intro (HA.out.1.quiet mB) (And.intro (own_move HA.out.2.1 (fun k hk => mB.block k (HA.out.2.1.lt k hk).2 id)) (And.intro oB (And.intro (HA.out.2.2.2.1.quiet mB HA.out.1.st.lt) (HA.out.2.2.2.2.quiet mB HA.out.1.st.lt))))); clear mB oB
  go_wp2_with (first
    | (refine wpList_alloc_agg rfl 35 rfl zeroPk.toArray (by kernel_rfl) ?_)
    | (refine wpList_store_new rfl 35 _ _ rfl 35 zeroPk.toArray [.int .i64 p0.seq, .int .i64 p0.to, .int .i64 p0.due, .slice A2 [(97 : UInt8)].length c2] rfl rfl Try.info_pk1 rfl (pk_one ⟨p0.seq, p0.to, p0.due, A2, 1, c2⟩) ?_))
  obtain ⟨wC, hwC⟩ : ∃ wC, wC = wB.alloc (.cells #[.int .i64 p0.seq, .int .i64 p0.to, .int .i64 p0.due, .slice A2 1 c2] 35) := ⟨_, rfl⟩
  obtain ⟨g12, hg12⟩ : ∃ g12, g12 = wB.heap.size := ⟨_, rfl⟩
  rw [← hwC, ← hg12]
  have mC : Mod (fun _ => False) wB wC := by rw [hwC]; exact (Mod.refl _ _).alloc _
  have bC : wC.heap[g12]? = some (.cells #[.int .i64 p0.seq, .int .i64 p0.to, .int .i64 p0.due, .slice A2 1 c2] 35 (0, 0)) := by rw [hwC, hg12]; exact heap_alloc_new wB _
  have SC := HB.out.1.quiet mC
  have l7 := (HB.out.2.2.2.1.quiet mC HB.out.1.st.lt).blk
  have l10 := (HB.out.2.2.2.2.quiet mC HB.out.1.st.lt).blk
  have c70 : wC.cell? ⟨g7, 0, none⟩ = some (.int .i64 2) := by rw [cell_of_blk l7, ← H4.out.2.1.1]; rfl
  have c71 : wC.cell? ⟨g7, 1, none⟩ = some (.int .i64 1) := by rw [cell_of_blk l7, ← H4.out.2.1.2.1]; rfl
  have c103 : wC.cell? ⟨g10, 3, none⟩ = some (.slice p1.A p1.n p1.c) := by rw [cell_of_blk l10]; rfl
  have c123 : wC.cell? ⟨g12, 3, none⟩ = some (.slice A2 1 c2) := by rw [cell_of_blk bC]; rfl
  have o1 : wC.ownsRow 0 5 1 (.slice p1.A p1.n p1.c) [(99 : UInt8)].length (bcells [99]) := own_move HB.out.2.1 (fun k hk => mC.block k (HB.out.2.1.lt k hk).2 id)
  have o2 : wC.ownsRow wA.heap.size 5 1 (.slice A2 1 c2) [(97 : UInt8)].length (bcells [97]) := own_move HB.out.2.2.1 (fun k hk => mC.block k (HB.out.2.2.1.lt k hk).2 id)
  have v1 : (convert 29 9 (.slice p1.A p1.n p1.c)).run Try.prog wC = .ok (.string ⟨#[99]⟩) wC := run_str (reads_bytes o1 (by simp)) 29 9 5 Try.underlying29 Try.underlying5 Try.underlying9
  have v2 : (convert 29 9 (.slice A2 1 c2)).run Try.prog wC = .ok (.string ⟨#[97]⟩) wC := run_str (reads_bytes o2 (by simp)) 29 9 5 Try.underlying29 Try.underlying5 Try.underlying9
  have HS := Lib.hid SC
  clear mC bC SC l7 l10 o1 o2 hwC hg12
  refine (lost_any _ g [p0] 3 3 2 1 wC HS.out.st).mono ?_
  rintro e wD ⟨rfl, rfl⟩
  go_wp2_with fail
  refine (now_any _ g [p0] 3 3 2 1 wC HS.out.st).mono ?_
  rintro e wD ⟨rfl, rfl⟩
  go_wp2_with fail
  refine (netlen_any _ g [p0] 3 3 2 1 wC HS.out.st (by simp)).mono ?_
  rintro e wD ⟨rfl, rfl⟩
  go_wp2_with fail
  go_ret
  exact ⟨rfl, HS.out.m⟩
end Go.Proofs.Ytlimjdejcjgocaa
