/- The pen of layer 3: what its calls write, and its laws of words. -/
import Derived.Test.YtbgohopnmjdkhaaBase
namespace Go.Proofs.Ytbgohopnmjdkhaa
open Go.RowKit
structure PenAt (w : World) (base g : Nat) (v : Value) (bs : List UInt8) : Prop where
  blk : w.heap[g]? = some (.cells #[v] 27 (0, 0))
  own : w.ownsRow base 5 1 v bs.length (bcells bs)
  base : base ≤ g
  ne : v.ownBlock ≠ some g
theorem PenAt.cell {w : World} {base g : Nat} {v : Value} {bs : List UInt8} (h : PenAt w base g v bs) : w.cell? ⟨g, 0, none⟩ = some v := by
  simp [World.cell?, h.blk]
theorem PenAt.free {w : World} {base g : Nat} {v : Value} {bs : List UInt8} (h : PenAt w base g v bs) : w.frozen? ⟨g, 0, none⟩ = false := by
  simp [World.frozen?, h.blk]
theorem PenAt.lt {w : World} {base g : Nat} {v : Value} {bs : List UInt8} (h : PenAt w base g v bs) : g < w.heap.size := (Array.getElem?_eq_some_iff.1 h.blk).1
/-- The pen has come from (w, v) to (w1, v1): it alone is written. -/
structure PenTo (base g : Nat) (w : World) (v : Value) (w1 : World) (v1 : Value) (bs1 : List UInt8) : Prop where
  at_ : PenAt w1 base g v1 bs1
  mod : Mod (fun k => k = g ∨ v.ownBlock = some k) w w1
  new : NewOr w v v1
theorem PenTo.refl {w : World} {base g : Nat} {v : Value} {bs : List UInt8} (h : PenAt w base g v bs) : PenTo base g w v w v bs := ⟨h, Mod.refl _ _, .refl _ _⟩
theorem PenTo.trans {w w1 w2 : World} {base g : Nat} {v v1 v2 : Value} {bs1 bs2 : List UInt8} (h : PenTo base g w v w1 v1 bs1) (k : PenTo base g w1 v1 w2 v2 bs2) : PenTo base g w v w2 v2 bs2 :=
  ⟨k.at_, h.mod.trans k.mod (fun i hi => hi.elim (fun e => .inl (.inl e)) (fun e => h.new.set (S := fun k => k = g ∨ v.ownBlock = some k) (fun _ hk => .inr hk) i e)), h.new.trans h.mod.size k.new⟩
/-- behind an append and a store of the pen's field -/
theorem PenAt.step {w w1 : World} {base g : Nat} {v v1 : Value} {bs bs1 : List UInt8} (h : PenAt w base g v bs)
    (ho : w1.ownsRow base 5 1 v1 bs1.length (bcells bs1)) (hg : w.grownBy w1 v.ownBlock) (hn : NewOr w v v1) :
    PenTo base g w v (w1.setCell ⟨g, 0, none⟩ v1) v1 bs1 ∧ w1.cell? ⟨g, 0, none⟩ = some v ∧ w1.frozen? ⟨g, 0, none⟩ = false := by
  have hlt := h.lt
  have hblk : w1.heap[g]? = some (.cells #[v] 27 (0, 0)) := by rw [hg.block g hlt (fun e => h.ne e.symm)]; exact h.blk
  have hne1 : v1.ownBlock ≠ some g := hn.ne hlt h.ne
  refine ⟨⟨⟨set_of_blk hblk 0 v1, own_move ho (fun k hk => Below.heap_setCell _ _ _ _ (fun e => hne1 (by rw [hk, e]))), h.base, hne1⟩, ?_, hn⟩, ?_, ?_⟩
  · exact ((Mod.refl _ w).grown hg (fun k hk => .inl (.inr hk.symm))).setCell (.inl (.inl rfl)) _
  · rw [cell_of_blk hblk]; rfl
  · exact free_of_blk hblk 0
def encF : Nat → Int → List UInt8
  | 0, _ => []
  | f + 1, n => if n < 128 then [u8 n] else u8 (n % 128 + 128) :: encF f (n / 128)
theorem encF_lt (f : Nat) (n : Int) (h : n < 128) : encF (f + 1) n = [u8 n] := by simp [encF, h]
theorem encF_ge (f : Nat) (n : Int) (h : ¬ n < 128) : encF (f + 1) n = u8 (n % 128 + 128) :: encF f (n / 128) := by simp [encF, h]
theorem encF_len (f : Nat) (n : Int) : (encF f n).length ≤ f := by
  induction f generalizing n with
  | zero => simp [encF]
  | succ f ih => simp only [encF]; split
                 · simp
                 · have := ih (n / 128); simp; omega
theorem Try.info_u8 : (Try.prog.info? 5).map (fun i => (i.zero, i.size, i.bytes)) = some (some (.int .u8 0), 1, 1) := by kernel_rfl
theorem fuel_pos {m : Int} {f : Nat} (h : m < 128 ^ f) (hp : 0 < f) (hm : ¬ m < 128) : ∃ k, f = k + 2 ∧ m / 128 < 128 ^ (k + 1) := by
  match f, hp with
  | 1, _ => simp at h; omega
  | k + 2, _ => refine ⟨k, rfl, ?_⟩; rw [show k + 2 = (k + 1) + 1 from rfl, Int.pow_succ] at h; generalize (128 : Int) ^ (k + 1) = p at *; omega
set_option maxRecDepth 100000 in
set_option maxHeartbeats 400000 in
theorem num_any (g base : Nat) (n : Int) (v : Value) (bs : List UInt8) (w : World) (hp : PenAt w base g v bs) (hb : base ≤ w.heap.size) (h0 : 0 ≤ n) (h1 : n ≤ 4611686018427387903) (hl : bs.length ≤ 140737488300000) :
    Calls Try.prog 8 #[.pointer (some ⟨g, 0, none⟩), .int .i64 n] w fun e w' => e = .returned (.bool true) ∧ ∃ v', PenTo base g w v w' v' (bs ++ encF 10 n) := by
  have hd0 : decide (n < 0) = false := by simp; omega
  have hd1 : decide (4611686018427387903 < n) = false := by simp; omega
  go_enter Try.func8, Try.ntmps8
  go_wp2
  go_loopg [1] 10 (fun f x wr => ∃ (m : Int) (u : Value) (cs : List UInt8), x = .int .i64 m ∧ 0 ≤ m ∧ m ≤ 4611686018427387903 ∧ cs ++ encF f m = bs ++ encF 10 n ∧ cs.length + f ≤ bs.length + 10 ∧ 0 < f ∧ m < 128 ^ f ∧ PenTo base g w v wr u cs)
  case atStart => exact ⟨n, v, bs, rfl, h0, h1, rfl, by omega, by decide, by omega, .refl hp⟩
  case round =>
    obtain ⟨m, u, cs, rfl, hm0, hm1, he, hle, hf, hlt, hto⟩ := hrel
    have He := Lib.hid (And.intro he (And.intro hle (And.intro hf hlt))); clear he hlt hle hf
    have hpr := hto.at_
    have hcr := hpr.cell
    have hfr := hpr.free
    have hwb : base ≤ wr.heap.size := Nat.le_trans hb hto.mod.size
    clear hd0 hd1
    by_cases hs : m < 128
    · go_wp2_with (at_builtin; refine append_one base rfl _ _ 25 5 (.int .u8 0) 1 rfl Try.underlying25 Try.info_u8 rfl (by decide) u (bcells cs) _ rfl rfl rfl (by rw [bcells_length]; exact hpr.own) hwb ?c1 ?_)
      case c1 => have := He.out.2.1; (try rw [bcells_length]); omega
      intro A c w1 hown hg hn
      obtain ⟨R1, R3, R4⟩ := hpr.step (bs1 := cs ++ [u8 m]) (by rw [bcells_append]; simpa [bcells, u8_toNat m hm0 (by omega)] using hown) hg hn
      have HR := Lib.hid R1; clear R1 hn hown hg hcr hfr
      go_wp2
      go_ret
      obtain ⟨he, _, hf, hlt⟩ := He.out
      obtain ⟨f, rfl⟩ : ∃ f, gk = f + 1 := ⟨gk - 1, by omega⟩
      rw [encF_lt _ _ hs] at he
      exact ⟨rfl, _, hto.trans (he ▸ HR.out)⟩
    · go_wp2_with (at_builtin; refine append_one base rfl _ _ 25 5 (.int .u8 0) 1 rfl Try.underlying25 Try.info_u8 rfl (by decide) u (bcells cs) _ rfl rfl rfl (by rw [bcells_length]; exact hpr.own) hwb ?c1 ?_)
      case c1 => have := He.out.2.1; (try rw [bcells_length]); omega
      intro A c w1 hown hg hn
      obtain ⟨R1, R3, R4⟩ := hpr.step (bs1 := cs ++ [u8 (m % 128 + 128)]) (by rw [bcells_append]; simpa [bcells, u8_toNat (m % 128 + 128) (by omega) (by omega)] using hown) hg hn
      have HR := Lib.hid R1; clear R1 hn hown hg hcr hfr
      go_wp2
      obtain ⟨he, hle, hf, hlt⟩ := He.out
      have hs' : ¬ m < 128 := by omega
      obtain ⟨f, rfl, hlt2⟩ := fuel_pos hlt hf hs'
      go_roundg (f + 1)
      case measure => omega
      case rel => exact ⟨m / 128, _, cs ++ [u8 (m % 128 + 128)], rfl, by omega, by omega, by rw [← he, encF_ge _ _ hs']; simp, by simp; omega, by omega, hlt2, hto.trans HR.out⟩
set_option maxRecDepth 100000 in
theorem num_no (p : Option Addr) (n : Int) (w : World) (h : p = none ∨ n < 0 ∨ 4611686018427387903 < n) :
    Calls Try.prog 8 #[.pointer p, .int .i64 n] w fun e w' => e = .returned (.bool false) ∧ w = w' := by
  rcases h with rfl | h | h
  · go_enter Try.func8, Try.ntmps8
    go_wp2
    go_ret
    exact ⟨rfl, rfl⟩
  · have hd0 : decide (n < 0) = true := by simp; omega
    cases p <;>
    · go_enter Try.func8, Try.ntmps8
      go_wp2
      go_ret
      exact ⟨rfl, rfl⟩
  · have hd0 : decide (n < 0) = false := by simp; omega
    have hd1 : decide (4611686018427387903 < n) = true := by simp; omega
    cases p <;>
    · go_enter Try.func8, Try.ntmps8
      go_wp2
      go_ret
      exact ⟨rfl, rfl⟩
def flagB (b : Bool) : UInt8 := if b then 1 else 0
set_option maxRecDepth 100000 in
theorem flag_any (g base : Nat) (b : Bool) (v : Value) (bs : List UInt8) (w : World) (hp : PenAt w base g v bs) (hb : base ≤ w.heap.size) (hl : bs.length ≤ 140737488300000) :
    Calls Try.prog 10 #[.pointer (some ⟨g, 0, none⟩), .bool b] w fun e w' => e = .returned (.tuple #[]) ∧ ∃ v', PenTo base g w v w' v' (bs ++ [flagB b]) := by
  cases b <;>
  · go_enter Try.func10, Try.ntmps10
    go_wp2_with (go_at_call 8; refine (num_any g base _ v bs w hp hb (by decide) (by decide) hl).mono ?_; rintro e w' ⟨rfl, HH⟩)
    go_end0
    exact ⟨rfl, HH⟩
set_option maxRecDepth 100000 in
theorem flag_nil (b : Bool) (w : World) :
    Calls Try.prog 10 #[.pointer none, .bool b] w fun e w' => e = .returned (.tuple #[]) ∧ w = w' := by
  cases b <;>
  · go_enter Try.func10, Try.ntmps10
    go_wp2_with (go_at_call 8; refine (num_no none _ w (.inl rfl)).mono ?_; rintro e w' ⟨rfl, rfl⟩)
    go_end0
    exact ⟨rfl, rfl⟩
set_option maxRecDepth 100000 in
theorem text_nil (s : ByteArray) (w : World) :
    Calls Try.prog 12 #[.pointer none, .string s] w fun e w' => e = .returned (.tuple #[]) ∧ w = w' := by
  go_enter Try.func12, Try.ntmps12
  go_wp2_with (go_at_call 8; refine (num_no none _ w (.inl rfl)).mono ?_; rintro e w' ⟨rfl, rfl⟩)
  go_end0
  exact ⟨rfl, rfl⟩
end Go.Proofs.Ytbgohopnmjdkhaa
