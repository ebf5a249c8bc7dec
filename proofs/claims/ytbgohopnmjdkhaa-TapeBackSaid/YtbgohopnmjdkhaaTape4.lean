/- Layer 3's tape, the rest: New, Text, End, Err, Flag. -/
import Derived.Test.YtbgohopnmjdkhaaTape3
namespace Go.Proofs.Ytbgohopnmjdkhaa
open Go.RowKit
/-- What Text of a tape tells: the text, the bytes that are left, the fault's number. -/
def textD (most : Int) (bs : List UInt8) : List UInt8 × List UInt8 × Int :=
  if (numD most bs).2.2 ≠ 0 then ([], bs, (numD most bs).2.2) else if ((numD most bs).2.1.length : Int) < (numD most bs).1 then ([], bs, 11) else ((numD most bs).2.1.take (numD most bs).1.toNat, (numD most bs).2.1.drop (numD most bs).1.toNat, 0)
theorem numD_fail {most : Int} {bs : List UInt8} (h : (numD most bs).2.2 ≠ 0) : (numD most bs).2.1 = bs ∧ (numD most bs).1 = 0 := by
  unfold numD at h ⊢
  split
  · exact ⟨rfl, rfl⟩
  · rename_i h1
    rw [if_neg h1] at h
    split
    · exact ⟨rfl, rfl⟩
    · rename_i h2
      rw [if_neg h2] at h; exact absurd rfl h
theorem numD_nonneg (most : Int) (bs : List UInt8) : 0 ≤ (numD most bs).1 := by
  unfold numD
  split
  · simp
  split
  · simp
  rename_i h1 h2
  simp only; omega
theorem TapeTo.ok {w w1 : World} {ok : Nat → Prop} {g : Nat} {bs : List UInt8} (h : TapeTo w ok g w1 bs 0) : ∃ v, TapeAt w1 ok g v .nilIface bs := by
  obtain ⟨⟨v, e, h1, h2, _⟩, _⟩ := h
  obtain rfl := h2 rfl
  exact ⟨v, h1⟩
theorem TapeTo.trans {w w1 w2 : World} {ok : Nat → Prop} {g : Nat} {bs1 bs2 : List UInt8} {c1 c2 : Int} (h : TapeTo w ok g w1 bs1 c1) (k : TapeTo w1 ok g w2 bs2 c2) : TapeTo w ok g w2 bs2 c2 := by
  obtain ⟨⟨v, e, h1, h2, h3⟩, hm⟩ := k
  refine ⟨⟨v, e, h1, h2, fun hc => ?_⟩, h.mod.trans hm (fun k hk => .inl hk)⟩
  obtain ⟨b, hb, h4⟩ := h3 hc
  exact ⟨b, Nat.le_trans h.mod.size hb, h4⟩
set_option maxRecDepth 100000 in
set_option maxHeartbeats 400000 in
theorem ttext_any (g : Nat) (ok : Nat → Prop) (v : Value) (bs : List UInt8) (most : Int) (w : World) (h : TapeAt w ok g v .nilIface bs) :
    Calls Try.prog 17 #[.pointer (some ⟨g, 0, none⟩), .int .i64 most] w fun r w' => r = .returned (.string (mkStr (textD most bs).1)) ∧ TapeTo w ok g w' (textD most bs).2.1 (textD most bs).2.2 := by
  have hc0 := h.cell0
  have hc1 := h.cell1
  have hN := tnum_any g ok v bs most w h
  have hn0 := numD_nonneg most bs
  have hfl := numD_fail (most := most) (bs := bs)
  obtain ⟨D, hD⟩ : ∃ D, D = numD most bs := ⟨_, rfl⟩
  have HN := Lib.hid hN
  have HFIN : Hid (textD most bs = if D.2.2 ≠ 0 then ([], bs, D.2.2) else if (D.2.1.length : Int) < D.1 then ([], bs, 11) else (D.2.1.take D.1.toNat, D.2.1.drop D.1.toNat, 0)) := by rw [hD]; exact rfl
  rw [← hD] at hn0 HN hfl; clear hD hN
  have hemp : ByteArray.empty = mkStr [] := rfl
  by_cases h1 : D.2.2 = 0
  · have HL := Lib.hid h; clear h
    by_cases h2 : (D.2.1.length : Int) < D.1
    · have hfin : textD most bs = ([], bs, 11) := by rw [HFIN.out, if_neg (by simp [h1]), if_pos h2]
      rw [hfin]
      have HX := Lib.hid (And.intro hfin h1); clear hfin h1
      obtain ⟨A0, c0, hv0⟩ := HL.out.slice
      subst hv0
      go_enter Try.func17, Try.ntmps17
      go_wp2_with fail
      refine HN.out.mono ?_
      rintro r w1 ⟨rfl, HT⟩
      rw [HX.out.2] at HT
      obtain ⟨v1, h3⟩ := HT.ok
      obtain ⟨A1, c1, rfl⟩ := h3.slice
      have hd0 := h3.cell0
      have hd1 := h3.cell1
      have hf0 := h3.free 0
      have hf1 := h3.free 1
      have hgl := lt_of_blk h3.blk
      have hrd1 : bytesR.rel w1 (fun k => ok k ∧ k ≠ g) [.slice A0 bs.length c0] bs := Rd.mod HL.out.rd HT.mod (fun k hk => hk.2)
      have h4 := h3.moved hrd1
      obtain ⟨v5, h5⟩ := h4.ok
      have h6 := HT.trans (h4.trans (h5.failed 11 (by decide)))
      have HF := Lib.hid h6; clear h6 h5 h4 hrd1 HT h3
      go_wp2
      go_ret
      exact ⟨rfl, by simpa using HF.out⟩
    · have hfin : textD most bs = (D.2.1.take D.1.toNat, D.2.1.drop D.1.toNat, 0) := by rw [HFIN.out, if_neg (by simp [h1]), if_neg h2]
      rw [hfin]
      have HX := Lib.hid (And.intro hfin h1); clear hfin h1
      go_enter Try.func17, Try.ntmps17
      go_wp2_with fail
      refine HN.out.mono ?_
      rintro r w1 ⟨rfl, HT⟩
      rw [HX.out.2] at HT
      obtain ⟨v1, h3⟩ := HT.ok
      obtain ⟨A1, c1, rfl⟩ := h3.slice
      have hd0 := h3.cell0
      have hd1 := h3.cell1
      have hf0 := h3.free 0
      have hf1 := h3.free 1
      obtain ⟨i0, hi, hz0, hz1, hz2⟩ := info_parts Try.info_u8
      obtain ⟨A2, hs2, hr2⟩ := slice_to h3.rd (t := 25) (e := 5) Try.underlying25 hi .i64 D.1 (by omega) (by omega)
      obtain ⟨A3, hs3, hr3⟩ := slice_from h3.rd (t := 25) (e := 5) Try.underlying25 hi hz1 .i64 D.1 (by omega) (by omega)
      have hcv := run_str (P := Try.prog) hr2 25 9 5 Try.underlying25 Try.underlying5 Try.underlying9
      have HF := Lib.hid (HT.trans (h3.moved hr3)); clear h3 hr2 hr3 HT hi hz0 hz1 hz2
      go_wp2
      go_ret
      exact ⟨rfl, HF.out⟩
  · have hfin : textD most bs = ([], bs, D.2.2) := by rw [HFIN.out, if_pos h1]
    rw [hfin]
    have HX := Lib.hid (And.intro hfin h1); clear hfin
    obtain ⟨q1, q2⟩ := hfl h1
    rw [q1, q2] at HN
    clear hfl q1 q2 hn0 h1
    go_enter Try.func17, Try.ntmps17
    go_wp2_with fail
    refine HN.out.mono ?_
    rintro r w1 ⟨rfl, HT⟩
    obtain ⟨⟨v1, e1, h3, _, h4⟩, hm⟩ := HT
    obtain ⟨b, hb, rfl, hF⟩ := h4 HX.out.2
    have hd0 := h3.cell0
    have hd1 := h3.cell1
    have HF : Hid (TapeTo w ok g w1 bs D.2.2) := ⟨⟨v1, _, h3, fun e => absurd e HX.out.2, fun _ => ⟨b, hb, rfl, hF⟩⟩, hm⟩
    clear h3 h4 hF hm
    go_wp2
    go_ret
    exact ⟨rfl, HF.out⟩
set_option maxRecDepth 100000 in
theorem tnew_any (v : Value) (bs : List UInt8) (ok : Nat → Prop) (w : World) (h : bytesR.rel w ok [v] bs) :
    Calls Try.prog 15 #[v] w fun e w' => ∃ g v', e = .returned (.pointer (some ⟨g, 0, none⟩)) ∧ w.heap.size ≤ g ∧ TapeAt w' (fun k => w.heap.size ≤ k) g v' .nilIface bs ∧ Mod (fun _ => False) w w' := by
  have hl : bs.length ≤ 140737488355328 := by obtain ⟨A, c, hv, h2, h3, h4, h5, h6⟩ := h; omega
  have HC := Lib.hid (clone_any v bs ok w h)
  clear h
  go_enter Try.func15, Try.ntmps15
  go_wp2_with fail
  refine HC.out.mono ?_
  rintro e w1 ⟨A, c, rfl, h1, h2⟩
  have HF := Lib.hid (And.intro h1 h2); clear h1 h2
  go_wp2
  go_ret
  obtain ⟨h1, h2⟩ := HF.out
  have hr := reads_bytes h1 hl
  refine ⟨w1.heap.size, _, rfl, h2.size, ⟨heap_alloc_new w1 _, ?_⟩, h2.alloc _⟩
  refine Rd.step bytesR (fun k hk hlt => ⟨⟨?_, by omega⟩, Below.heap_alloc _ _ _ hlt⟩) hr
  exact (own_lt h1 k hk).1
set_option maxRecDepth 100000 in
theorem tend_ok (g : Nat) (ok : Nat → Prop) (v : Value) (w : World) (h : TapeAt w ok g v .nilIface []) :
    Calls Try.prog 18 #[.pointer (some ⟨g, 0, none⟩)] w fun e w' => e = .returned .nilIface ∧ w = w' := by
  have hc0 := h.cell0
  have hc1 := h.cell1
  obtain ⟨A, c, rfl⟩ := h.slice
  clear h
  go_enter Try.func18, Try.ntmps18
  go_wp2
  go_ret
  exact ⟨rfl, rfl⟩
/-- End where bytes are left, or the tape has failed: not nil. -/
def NotNil (e : Ending) : Prop := ∃ a, e = .returned (.iface 103 (.pointer (some a)))
set_option maxRecDepth 100000 in
theorem tend_left (g : Nat) (ok : Nat → Prop) (v : Value) (bs : List UInt8) (w : World) (h : TapeAt w ok g v .nilIface bs) (hne : bs ≠ []) :
    Calls Try.prog 18 #[.pointer (some ⟨g, 0, none⟩)] w fun e w' => NotNil e ∧ Mod (fun _ => False) w w' := by
  have hc0 := h.cell0
  have hc1 := h.cell1
  obtain ⟨A, c, rfl⟩ := h.slice
  have hpos : (0 : Int) < (bs.length : Int) := by have := List.length_pos_iff.2 hne; omega
  clear h hne
  go_enter Try.func18, Try.ntmps18
  go_wp2
  go_ret
  exact ⟨⟨_, rfl⟩, (Mod.refl _ _).alloc _⟩
set_option maxRecDepth 100000 in
theorem tend_failed (g : Nat) (ok : Nat → Prop) (v : Value) (bs : List UInt8) (a : Addr) (w : World) (h : TapeAt w ok g v (.iface 103 (.pointer (some a))) bs) :
    Calls Try.prog 18 #[.pointer (some ⟨g, 0, none⟩)] w fun e w' => NotNil e ∧ Mod (fun _ => False) w w' := by
  have hc0 := h.cell0
  have hc1 := h.cell1
  clear h
  go_enter Try.func18, Try.ntmps18
  go_wp2
  go_ret
  exact ⟨⟨_, rfl⟩, .refl _ _⟩
set_option maxRecDepth 100000 in
theorem tflag_any (g : Nat) (ok : Nat → Prop) (v : Value) (bs : List UInt8) (w : World) (h : TapeAt w ok g v .nilIface bs) :
    Calls Try.prog 28 #[.pointer (some ⟨g, 0, none⟩)] w fun r w' => r = .returned (.bool ((numD 1 bs).1 == 1)) ∧ TapeTo w ok g w' (numD 1 bs).2.1 (numD 1 bs).2.2 := by
  have HN := Lib.hid (tnum_any g ok v bs 1 w h)
  clear h
  go_enter Try.func28, Try.ntmps28
  go_wp2_with fail
  refine HN.out.mono ?_
  rintro r w1 ⟨rfl, HT⟩
  have HF := Lib.hid HT; clear HT
  go_wp2
  go_ret
  exact ⟨rfl, HF.out⟩
set_option maxRecDepth 100000 in
theorem has_ok (e : Value) (a : Addr) (he : e = .iface 103 (.pointer (some a)) ∨ e = .nilIface) (w : World) :
    Calls Try.prog 29 #[e, .int .i64 0] w fun r w' => r = .returned (.bool (match e with | .nilIface => true | _ => false)) ∧ w = w' := by
  rcases he with rfl | rfl <;>
  · go_enter Try.func29, Try.ntmps29
    go_wp2
    go_ret
    exact ⟨rfl, rfl⟩
end Go.Proofs.Ytbgohopnmjdkhaa
