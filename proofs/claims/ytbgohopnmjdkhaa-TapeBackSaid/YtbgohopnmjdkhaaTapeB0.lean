/- Layer 3: the tape in any state, read; two pens apart. -/
import Derived.Test.YtbgohopnmjdkhaaTapeL
import Derived.Test.YtbgohopnmjdkhaaTape5
import Derived.Test.YtbgohopnmjdkhaaTapeW
namespace Go.Proofs.Ytbgohopnmjdkhaa
open Go.RowKit
theorem bytesR_opens : Opens Try.prog bytesR 25 := opens_slice Try.underlying25 (by kernel_rfl) (by kernel_rfl) (opens_byte Try.underlying5)
/-- The tape's state: what is left, and the fault's number. -/
def TapeSt (w : World) (ok : Nat → Prop) (g : Nat) (st : List UInt8 × Int) : Prop :=
  ∃ v e, TapeAt w ok g v e st.1 ∧ (st.2 = 0 → e = .nilIface) ∧ (st.2 ≠ 0 → ∃ a, e = .iface 103 (.pointer (some a)))
def stN (most : Int) (st : List UInt8 × Int) : Int × List UInt8 × Int := if st.2 ≠ 0 then (0, st) else numD most st.1
def stT (most : Int) (st : List UInt8 × Int) : List UInt8 × List UInt8 × Int := if st.2 ≠ 0 then ([], st) else textD most st.1
theorem TapeTo.st {w w1 : World} {ok : Nat → Prop} {g : Nat} {bs : List UInt8} {c : Int} (h : TapeTo w ok g w1 bs c) : TapeSt w1 ok g (bs, c) := by
  obtain ⟨⟨v, e, h1, h2, h3⟩, _⟩ := h
  exact ⟨v, e, h1, h2, fun hc => by obtain ⟨b, _, he, _⟩ := h3 hc; exact ⟨_, he⟩⟩
theorem TapeSt.mod {w w1 : World} {ok : Nat → Prop} {g : Nat} {st : List UInt8 × Int} (h : TapeSt w ok g st) {S : Nat → Prop} (hm : Mod S w w1) (h1 : ¬ S g) (h2 : ∀ k, ok k → ¬ S k) : TapeSt w1 ok g st := by
  obtain ⟨v, e, h3, h4⟩ := h
  exact ⟨v, e, h3.mod hm h1 h2, h4⟩
theorem TapeSt.lt {w : World} {ok : Nat → Prop} {g : Nat} {st : List UInt8 × Int} (h : TapeSt w ok g st) : g < w.heap.size := by
  obtain ⟨v, e, h3, h4⟩ := h
  exact lt_of_blk h3.blk
set_option maxRecDepth 100000 in
theorem tnum_st (g : Nat) (ok : Nat → Prop) (st : List UInt8 × Int) (most : Int) (w : World) (h : TapeSt w ok g st) :
    Calls Try.prog 16 #[.pointer (some ⟨g, 0, none⟩), .int .i64 most] w fun r w' => r = .returned (.int .i64 (stN most st).1) ∧ TapeSt w' ok g (stN most st).2 ∧ Mod (fun k => k = g) w w' := by
  obtain ⟨v, e, h1, h2, h3⟩ := h
  unfold stN
  by_cases hc : st.2 = 0
  · obtain rfl := h2 hc
    rw [if_neg (by simp [hc])]
    exact (tnum_any g ok v st.1 most w h1).mono fun r w' ⟨e1, e2⟩ => ⟨e1, e2.st, e2.mod⟩
  · obtain ⟨a, rfl⟩ := h3 hc
    rw [if_pos hc]
    have hc0 := h1.cell0
    have hc1 := h1.cell1
    have HF := Lib.hid (And.intro h1 hc); clear h1 h2 h3 hc
    go_enter Try.func16, Try.ntmps16
    go_wp2
    go_ret
    exact ⟨rfl, ⟨v, _, HF.out.1, fun e => absurd e HF.out.2, fun _ => ⟨a, rfl⟩⟩, .refl _ _⟩
set_option maxRecDepth 100000 in
theorem ttext_st (g : Nat) (ok : Nat → Prop) (st : List UInt8 × Int) (most : Int) (w : World) (h : TapeSt w ok g st) :
    Calls Try.prog 17 #[.pointer (some ⟨g, 0, none⟩), .int .i64 most] w fun r w' => r = .returned (.string (mkStr (stT most st).1)) ∧ TapeSt w' ok g (stT most st).2 ∧ Mod (fun k => k = g) w w' := by
  obtain ⟨v, e, h1, h2, h3⟩ := h
  unfold stT
  by_cases hc : st.2 = 0
  · obtain rfl := h2 hc
    rw [if_neg (by simp [hc])]
    exact (ttext_any g ok v st.1 most w h1).mono fun r w' ⟨e1, e2⟩ => ⟨e1, e2.st, e2.mod⟩
  · obtain ⟨a, rfl⟩ := h3 hc
    rw [if_pos hc]
    have hc0 := h1.cell0
    have hc1 := h1.cell1
    have HF := Lib.hid (And.intro h1 hc); clear h1 h2 h3 hc
    go_enter Try.func17, Try.ntmps17
    go_wp2
    go_ret
    exact ⟨rfl, ⟨v, _, HF.out.1, fun e => absurd e HF.out.2, fun _ => ⟨a, rfl⟩⟩, .refl _ _⟩
theorem stN_bd (st : List UInt8 × Int) : 0 ≤ (stN 4611686018427387903 st).1 ∧ (stN 4611686018427387903 st).1 ≤ 4611686018427387903 := by
  unfold stN
  split
  · simp
  · refine ⟨numD_nonneg _ _, ?_⟩
    by_cases h : (numD 4611686018427387903 st.1).2.2 = 0
    · exact numD_le h
    · rw [(numD_fail h).2]; decide
theorem stT_bd (most : Int) (hm : 0 ≤ most) (st : List UInt8 × Int) : ((stT most st).1.length : Int) ≤ most := by
  unfold stT
  split
  · simpa using hm
  · by_cases h : (textD most st.1).2.2 = 0
    · rw [(textD_inv h).2]
      refine numD_le ?_
      unfold textD at h
      split at h
      · rename_i h1; exact absurd h h1
      · rename_i h1; simpa using h1
    · unfold textD at h ⊢
      split
      · simpa using hm
      split
      · simpa using hm
      · rename_i h1 h2; rw [if_neg h1, if_neg h2] at h; exact absurd rfl h
theorem tend_st (g : Nat) (ok : Nat → Prop) (st : List UInt8 × Int) (w : World) (h : TapeSt w ok g st) (hn : ¬ (st.2 = 0 ∧ st.1 = [])) :
    Calls Try.prog 18 #[.pointer (some ⟨g, 0, none⟩)] w fun e w' => NotNil e ∧ Mod (fun _ => False) w w' := by
  obtain ⟨v, e, h1, h2, h3⟩ := h
  by_cases hc : st.2 = 0
  · obtain rfl := h2 hc
    exact tend_left g ok v st.1 w h1 (fun e => hn ⟨hc, e⟩)
  · obtain ⟨a, rfl⟩ := h3 hc
    exact tend_failed g ok v st.1 a w h1
theorem tend_st0 (g : Nat) (ok : Nat → Prop) (st : List UInt8 × Int) (w : World) (h : TapeSt w ok g st) (hn : st.2 = 0 ∧ st.1 = []) :
    Calls Try.prog 18 #[.pointer (some ⟨g, 0, none⟩)] w fun e w' => e = .returned .nilIface ∧ w = w' := by
  obtain ⟨v, e, h1, h2, h3⟩ := h
  obtain rfl := h2 hn.1
  rw [hn.2] at h1
  exact tend_ok g ok v w h1
/-- The pen's blocks. -/
def foot (g : Nat) (v : Value) (k : Nat) : Prop := k = g ∨ v.ownBlock = some k
theorem PenAt.foot_lt {w : World} {base g : Nat} {v : Value} {bs : List UInt8} (h : PenAt w base g v bs) (k : Nat) (hk : foot g v k) : k < w.heap.size :=
  hk.elim (fun e => e ▸ h.lt) (fun e => (own_lt h.own k e).2)
theorem PenAt.foot_ge {w : World} {base g : Nat} {v : Value} {bs : List UInt8} (h : PenAt w base g v bs) (k : Nat) (hk : foot g v k) : base ≤ k :=
  hk.elim (fun e => e ▸ h.base) (fun e => (own_lt h.own k e).1)
theorem PenTo.foot {base g : Nat} {w w1 : World} {v v1 : Value} {bs1 : List UInt8} (h : PenTo base g w v w1 v1 bs1) (k : Nat) (hk : foot g v1 k) : foot g v k ∨ w.heap.size ≤ k := by
  rcases hk with e | e
  · exact .inl (.inl e)
  · exact h.new.set (S := Go.Proofs.Ytbgohopnmjdkhaa.foot g v) (fun _ h => .inr h) k e
def Apart (g1 : Nat) (v1 : Value) (g2 : Nat) (v2 : Value) : Prop := ∀ k, foot g1 v1 k → ¬ foot g2 v2 k
theorem Apart.symm {g1 g2 : Nat} {v1 v2 : Value} (h : Apart g1 v1 g2 v2) : Apart g2 v2 g1 v1 := fun k h1 h2 => h k h2 h1
theorem Apart.step {base g g2 : Nat} {w w1 : World} {v v1 v2 : Value} {bs1 bs2 : List UInt8} {b2 : Nat} (h : Apart g v g2 v2) (hs : PenTo base g w v w1 v1 bs1) (h2 : PenAt w b2 g2 v2 bs2) : Apart g v1 g2 v2 := by
  intro k hk hk2
  rcases hs.foot k hk with h3 | h3
  · exact h k h3 hk2
  · have := h2.foot_lt k hk2; omega
theorem PenAt.other {w w1 : World} {base g g2 b2 : Nat} {v v1 v2 : Value} {bs1 bs2 : List UInt8} (h2 : PenAt w b2 g2 v2 bs2) (hs : PenTo base g w v w1 v1 bs1) (ha : Apart g v g2 v2) : PenAt w1 b2 g2 v2 bs2 :=
  h2.mod hs.mod (fun h => ha g2 h (.inl rfl)) (fun k hk h => ha k h (.inr hk))
end Go.Proofs.Ytbgohopnmjdkhaa
