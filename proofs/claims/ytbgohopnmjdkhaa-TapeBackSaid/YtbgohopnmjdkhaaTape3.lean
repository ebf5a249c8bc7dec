/- Layer 3's tape: what its calls read. -/
import Derived.Test.YtbgohopnmjdkhaaTape1
namespace Go.Proofs.Ytbgohopnmjdkhaa
open Go.RowKit
/-- From the i-th byte on, n read so far: the value, the count, the fault. -/
def decF : Nat → Int → List UInt8 → Int × Int × Int
  | _, _, [] => (0, 0, 11)
  | i, n, c :: r => if i = 9 then (0, 0, 10) else if 128 ≤ c.toNat then decF (i + 1) (n + ((c.toNat : Int) - 128) * 128 ^ i) r else if c.toNat = 0 ∧ 0 < i then (0, 0, 10) else (n + c.toNat * 128 ^ i, (i : Int) + 1, 0)
theorem pow128 (i : Nat) (hi : i ≤ 8) : ∃ p : Int, (128 : Int) ^ i = p ∧ 1 ≤ p ∧ p ≤ 72057594037927936 ∧ (128 : Int) ^ (i + 1) = p * 128 := by
  refine ⟨_, rfl, ?_, ?_, Int.pow_succ ..⟩
  all_goals
    have : i = 0 ∨ i = 1 ∨ i = 2 ∨ i = 3 ∨ i = 4 ∨ i = 5 ∨ i = 6 ∨ i = 7 ∨ i = 8 := by omega
    rcases this with rfl | rfl | rfl | rfl | rfl | rfl | rfl | rfl | rfl <;> decide
theorem dec_more {i : Nat} {n m b : Int} (hi : i ≤ 8) (hm : m = 128 ^ i) (h0 : 0 ≤ n) (h1 : n < 128 ^ i) (hb0 : 128 ≤ b) (hb1 : b < 256) :
    wrap64 (n + wrap64 ((b - 128) * m)) = n + (b - 128) * 128 ^ i ∧ 0 ≤ n + (b - 128) * 128 ^ i ∧ n + (b - 128) * 128 ^ i < 128 ^ (i + 1) ∧ (i + 1 ≤ 8 → wrap64 (m * 128) = 128 ^ (i + 1)) := by
  obtain ⟨p, hp, hp1, hp2, hp3⟩ := pow128 i hi
  subst hm
  rw [hp] at h1
  rw [hp3, hp]
  have e1 : 0 ≤ (b - 128) * p := Int.mul_nonneg (by omega) (by omega)
  have e2 : (b - 128) * p ≤ 127 * p := Int.mul_le_mul_of_nonneg_right (by omega) (by omega)
  refine ⟨?_, by omega, by omega, fun h => ?_⟩
  · generalize (b - 128) * p = q at *
    unfold wrap64; omega
  · have hi7 : i ≤ 7 := by omega
    have : p ≤ 562949953421312 := by
      rw [← hp]
      clear hp hp1 hp2 hp3 e1 e2 h h1
      have : i = 0 ∨ i = 1 ∨ i = 2 ∨ i = 3 ∨ i = 4 ∨ i = 5 ∨ i = 6 ∨ i = 7 := by omega
      rcases this with rfl | rfl | rfl | rfl | rfl | rfl | rfl | rfl <;> decide
    unfold wrap64; omega
theorem dec_last {i : Nat} {n m b : Int} (hi : i ≤ 8) (hm : m = 128 ^ i) (h0 : 0 ≤ n) (h1 : n < 128 ^ i) (hb0 : 0 ≤ b) (hb1 : b < 128) :
    wrap64 (n + wrap64 (b * m)) = n + b * 128 ^ i := by
  obtain ⟨p, hp, hp1, hp2, hp3⟩ := pow128 i hi
  subst hm
  rw [hp] at h1 ⊢
  have e1 : 0 ≤ b * p := Int.mul_nonneg (by omega) (by omega)
  have e2 : b * p ≤ 127 * p := Int.mul_le_mul_of_nonneg_right (by omega) (by omega)
  generalize b * p = q at *
  unfold wrap64; omega
structure TapeAt (w : World) (ok : Nat → Prop) (g : Nat) (v e : Value) (bs : List UInt8) : Prop where
  blk : w.heap[g]? = some (.cells #[v, e] 69 (0, 0))
  rd : bytesR.rel w (fun k => ok k ∧ k ≠ g) [v] bs
theorem TapeAt.cell0 {w : World} {ok : Nat → Prop} {g : Nat} {v e : Value} {bs : List UInt8} (h : TapeAt w ok g v e bs) : w.cell? ⟨g, 0, none⟩ = some v := by
  rw [cell_of_blk h.blk]; rfl
theorem TapeAt.cell1 {w : World} {ok : Nat → Prop} {g : Nat} {v e : Value} {bs : List UInt8} (h : TapeAt w ok g v e bs) : w.cell? ⟨g, 1, none⟩ = some e := by
  rw [cell_of_blk h.blk]; rfl
theorem TapeAt.free {w : World} {ok : Nat → Prop} {g : Nat} {v e : Value} {bs : List UInt8} (h : TapeAt w ok g v e bs) (j : Nat) : w.frozen? ⟨g, j, none⟩ = false := free_of_blk h.blk j
theorem TapeAt.slice {w : World} {ok : Nat → Prop} {g : Nat} {v e : Value} {bs : List UInt8} (h : TapeAt w ok g v e bs) : ∃ A c, v = .slice A bs.length c := by
  obtain ⟨A, c, hv, _⟩ := h.rd
  exact ⟨A, c, by simpa using hv⟩
set_option maxRecDepth 100000 in
set_option maxHeartbeats 400000 in
theorem number_any (g : Nat) (ok : Nat → Prop) (v e : Value) (bs : List UInt8) (w : World) (h : TapeAt w ok g v e bs) :
    Calls Try.prog 31 #[.pointer (some ⟨g, 0, none⟩)] w fun r w' => r = .returned (.tuple #[.int .i64 (decF 0 0 bs).1, .int .i64 (decF 0 0 bs).2.1, .int .i64 (decF 0 0 bs).2.2]) ∧ w = w' := by
  have hc0 := h.cell0
  obtain ⟨A, c, hv, h2, h3, h4, h5, h6⟩ := h.rd
  obtain rfl : v = .slice A bs.length c := by simpa using hv
  have hR := Lib.hid h6
  have hm : bs.length ≤ 140737488355328 := by omega
  clear h hv h6 h5 h4
  obtain ⟨D, hD⟩ : ∃ D, D = decF 0 0 bs := ⟨_, rfl⟩
  have HD := Lib.hid hD
  rw [← hD]; clear hD
  go_enter Try.func31, Try.ntmps31
  go_wp2
  go_loopg [5, 6, 14] (bs.length) (fun f sn sw si wr => ∃ (i : Nat) (n m : Int), wr = w ∧ si = .int .i64 i ∧ sn = .int .i64 n ∧ sw = .int .i64 m ∧ i + f = bs.length ∧ i ≤ 9 ∧ 0 ≤ n ∧ n < 128 ^ i ∧ (i ≤ 8 → m = 128 ^ i) ∧ D = decF i n (bs.drop i))
  case atStart => exact ⟨0, 0, 1, rfl, rfl, rfl, rfl, by omega, by omega, by omega, by omega, fun _ => rfl, HD.out⟩
  case round =>
    obtain ⟨i, n, m, rfl, rfl, rfl, rfl, hi, hi9, hn0, hn1, hm1, hd⟩ := hrel
    have HI := Lib.hid (And.intro hi (And.intro hn1 (And.intro hm1 hd))); clear hi hn1 hm1 hd
    by_cases hlt : i < bs.length
    · obtain ⟨b, hb⟩ : ∃ b, bs[i]? = some b := ⟨_, List.getElem?_eq_getElem hlt⟩
      obtain ⟨ad, rfl, _, hcells⟩ := RowOf.bcells hR.out (by intro e; subst e; simp at hlt)
      have hcell := hcells i (.int .u8 (b.toNat : Int)) (by simp [bcells, hb])
      have hb256 : b.toNat < 256 := b.toNat_lt
      have hdr : bs.drop i = b :: bs.drop (i + 1) := by
        rw [List.drop_eq_getElem_cons hlt]; congr 1; rw [List.getElem?_eq_getElem hlt] at hb; exact Option.some.inj hb
      have HB := Lib.hid (And.intro hb hdr)
      clear hcells hb hdr
      go_wp2
      · have h9 : i = 9 := by have : ((i : Int) == 9) = true := by assumption
                              simp at this; omega
        go_ret3
        obtain ⟨_, hdr⟩ := HB.out
        obtain ⟨hi, hn1, hm1, hd⟩ := HI.out
        rw [hd, hdr, decF, if_pos h9]
        exact ⟨rfl, rfl⟩
      · have h9 : ¬ i = 9 := by have : ((i : Int) == 9) = false := by assumption
                                simp at this; omega
        have hbb : (128 : Int) ≤ (b.toNat : Int) := by assumption
        obtain ⟨_, hdr⟩ := HB.out
        obtain ⟨hi, hn1, hm1, hd⟩ := HI.out
        obtain ⟨e1, e2, e3, e4⟩ := dec_more (i := i) (by omega) (hm1 (by omega)) hn0 hn1 hbb (by omega)
        go_roundg (gk - 1)
        case measure => omega
        case rel =>
          refine ⟨i + 1, n + ((b.toNat : Int) - 128) * 128 ^ i, wrap64 (m * 128), rfl, by go_num, by rw [e1], rfl, by omega, by omega, e2, e3, fun h => e4 (by omega), ?_⟩
          rw [hd, hdr, decF, if_neg h9, if_pos (by omega)]
      · have h9 : ¬ i = 9 := by have : ((i : Int) == 9) = false := by assumption
                                simp at this; omega
        have hbb : b.toNat = 0 := by assumption
        have hip : 0 < i := by assumption
        go_ret3
        obtain ⟨_, hdr⟩ := HB.out
        obtain ⟨hi, hn1, hm1, hd⟩ := HI.out
        rw [hd, hdr, decF, if_neg h9, if_neg (by omega), if_pos ⟨hbb, hip⟩]
        exact ⟨rfl, rfl⟩
      all_goals
        have h9 : ¬ i = 9 := by have : ((i : Int) == 9) = false := by assumption
                                simp at this; omega
        go_ret3
        obtain ⟨_, hdr⟩ := HB.out
        obtain ⟨hi, hn1, hm1, hd⟩ := HI.out
        rw [hd, hdr, decF, if_neg h9, if_neg (by omega), if_neg (by omega)]
        have e1 := dec_last (i := i) (by omega) (hm1 (by omega)) hn0 hn1 (b := (b.toNat : Int)) (by omega) (by omega)
        first
          | (simp [e1]; done)
          | (have hb0 : b.toNat = 0 := by assumption
             have e0 : wrap64 0 = 0 := by unfold wrap64; decide
             rw [hb0] at e1 ⊢; simp [e0] at e1 ⊢; exact e1)
    · go_wp2
      go_ret3
      obtain ⟨hi, hn1, hm1, hd⟩ := HI.out
      rw [hd, List.drop_eq_nil_of_le (by omega)]
      exact ⟨rfl, rfl⟩
/-- A fault that lies in a block of its own. -/
def FaultAt (w : World) (b : Nat) (place : ByteArray) (code : Int) (behind : Value) : Prop := w.heap[b]? = some (.cells #[.string place, .int .i64 code, behind] 105 (0, 0))
def tapeStr : ByteArray := ⟨#[116, 97, 112, 101]⟩
/-- What Number of a tape tells: the value, the bytes that are left, the fault's number (0: none). -/
def numD (most : Int) (bs : List UInt8) : Int × List UInt8 × Int :=
  if (decF 0 0 bs).2.2 ≠ 0 then (0, bs, (decF 0 0 bs).2.2) else if (decF 0 0 bs).1 < 0 ∨ most < (decF 0 0 bs).1 then (0, bs, 13) else ((decF 0 0 bs).1, bs.drop (decF 0 0 bs).2.1.toNat, 0)
/-- The tape has come from w to w1: its block alone is written; where it has failed, its fault lies in a new block. -/
structure TapeTo (w : World) (ok : Nat → Prop) (g : Nat) (w1 : World) (bs1 : List UInt8) (code : Int) : Prop where
  at_ : ∃ v e, TapeAt w1 ok g v e bs1 ∧ (code = 0 → e = .nilIface) ∧ (code ≠ 0 → ∃ b, w.heap.size ≤ b ∧ e = .iface 103 (.pointer (some ⟨b, 0, none⟩)) ∧ FaultAt w1 b tapeStr code .nilIface)
  mod : Mod (fun k => k = g) w w1
theorem decF_ok (bs : List UInt8) : ∀ (i : Nat) (n : Int), 0 ≤ n → (decF i n bs).2.2 = 0 → n ≤ (decF i n bs).1 ∧ (i : Int) < (decF i n bs).2.1 ∧ (decF i n bs).2.1 ≤ i + bs.length := by
  induction bs with
  | nil => intro i n _ h; simp [decF] at h
  | cons c r ih =>
    intro i n h0 h
    have hp : (0 : Int) < 128 ^ i := Int.pow_pos (by decide)
    unfold decF at h ⊢
    split at h
    · simp at h
    split at h
    · rename_i h1 h2
      rw [if_neg h1, if_pos h2]
      have hq : 0 ≤ ((c.toNat : Int) - 128) * 128 ^ i := Int.mul_nonneg (by omega) (by omega)
      obtain ⟨a, b, d⟩ := ih (i + 1) (n + ((c.toNat : Int) - 128) * 128 ^ i) (by omega) h
      simp only [List.length_cons]
      exact ⟨by omega, by omega, by omega⟩
    split at h
    · simp at h
    rename_i h1 h2 h3
    rw [if_neg h1, if_neg h2, if_neg h3]
    have hq : 0 ≤ (c.toNat : Int) * 128 ^ i := Int.mul_nonneg (by omega) (by omega)
    simp only [List.length_cons]
    exact ⟨by omega, by omega, by omega⟩
theorem decF_code (bs : List UInt8) : ∀ (i : Nat) (n : Int), (decF i n bs).2.2 = 0 ∨ (decF i n bs).2.2 = 10 ∨ (decF i n bs).2.2 = 11 := by
  induction bs with
  | nil => intro i n; simp [decF]
  | cons c r ih =>
    intro i n
    unfold decF
    split
    · simp
    split
    · exact ih _ _
    split <;> simp
/-- behind fail: the fault's block is new, the tape's field holds it -/
theorem TapeAt.failed {w : World} {ok : Nat → Prop} {g : Nat} {v : Value} {bs : List UInt8} (h : TapeAt w ok g v .nilIface bs) (code : Int) (hc : code ≠ 0) :
    TapeTo w ok g ((w.setCell ⟨g, 1, none⟩ (.iface 103 (.pointer (some ⟨w.heap.size, 0, none⟩)))).alloc (.cells #[.string ⟨#[116, 97, 112, 101]⟩, .int .i64 code, .nilIface] 105)) bs code := by
  have hlt := lt_of_blk h.blk
  have hm : Mod (fun k => k = g) w ((w.setCell ⟨g, 1, none⟩ (.iface 103 (.pointer (some ⟨w.heap.size, 0, none⟩)))).alloc (.cells #[.string ⟨#[116, 97, 112, 101]⟩, .int .i64 code, .nilIface] 105)) := ((Mod.refl (fun k => k = g) w).setCell (.inl rfl) _).alloc _
  have hs : (w.setCell ⟨g, 1, none⟩ (.iface 103 (.pointer (some ⟨w.heap.size, 0, none⟩)))).heap.size = w.heap.size := by simp [World.setCell]
  refine ⟨⟨v, _, ⟨?_, ?_⟩, fun e => absurd e hc, fun _ => ⟨w.heap.size, Nat.le_refl _, rfl, ?_⟩⟩, hm⟩
  · rw [Below.heap_alloc _ _ _ (by rw [hs]; exact hlt)]; exact set_of_blk h.blk 1 _
  · exact Rd.mod h.rd hm (fun k hk => hk.2)
  · unfold FaultAt
    have := heap_alloc_new (w.setCell ⟨g, 1, none⟩ (.iface 103 (.pointer (some ⟨w.heap.size, 0, none⟩)))) (.cells #[.string tapeStr, .int .i64 code, .nilIface] 105)
    rwa [hs] at this
theorem TapeAt.moved {w : World} {ok : Nat → Prop} {g : Nat} {v v1 : Value} {bs bs1 : List UInt8} (h : TapeAt w ok g v .nilIface bs) (h1 : bytesR.rel w (fun k => ok k ∧ k ≠ g) [v1] bs1) :
    TapeTo w ok g (w.setCell ⟨g, 0, none⟩ v1) bs1 0 := by
  have hm : Mod (fun k => k = g) w (w.setCell ⟨g, 0, none⟩ v1) := (Mod.refl (fun k => k = g) w).setCell (.inl rfl) _
  exact ⟨⟨v1, _, ⟨set_of_blk h.blk 0 _, Rd.mod h1 hm (fun k hk => hk.2)⟩, fun _ => rfl, fun e => absurd rfl e⟩, hm⟩
set_option maxRecDepth 100000 in
set_option maxHeartbeats 400000 in
theorem tnum_any (g : Nat) (ok : Nat → Prop) (v : Value) (bs : List UInt8) (most : Int) (w : World) (h : TapeAt w ok g v .nilIface bs) :
    Calls Try.prog 16 #[.pointer (some ⟨g, 0, none⟩), .int .i64 most] w fun r w' => r = .returned (.int .i64 (numD most bs).1) ∧ TapeTo w ok g w' (numD most bs).2.1 (numD most bs).2.2 := by
  have hc0 := h.cell0
  have hc1 := h.cell1
  have hf0 := h.free 0
  have hf1 := h.free 1
  have hlt := lt_of_blk h.blk
  have hN := number_any g ok v .nilIface bs w h
  have hok := decF_ok bs 0 0 (by omega)
  obtain ⟨D, hD⟩ : ∃ D, D = decF 0 0 bs := ⟨_, rfl⟩
  have HD := Lib.hid hD
  have HN := Lib.hid hN
  rw [← hD] at hok HN; clear hD hN
  by_cases h1 : D.2.2 = 0
  · obtain ⟨p1, p2, p3⟩ := hok h1
    obtain ⟨A, c, rfl⟩ := h.slice
    obtain ⟨i0, hi, hz0, hz1, hz2⟩ := info_parts Try.info_u8
    obtain ⟨A', hsl, hrd⟩ := slice_from h.rd (t := 25) (e := 5) Try.underlying25 hi hz1 .i64 D.2.1 (by omega) (by omega)
    by_cases h2 : D.1 ≤ most
    · have hfin : numD most bs = (D.1, bs.drop D.2.1.toNat, 0) := by unfold numD; rw [← HD.out, if_neg (by simp [h1]), if_neg (by omega)]
      rw [hfin]
      have HF := Lib.hid (h.moved hrd)
      have hb1 : ((D.2.2 : Int) != 0) = false := by simp [h1]
      have HX := Lib.hid (And.intro hfin (And.intro h1 (And.intro h hok))); clear hfin h1 h hok hi hz0 hz1 hz2 hrd
      go_enter Try.func16, Try.ntmps16
      go_wp2_with fail
      refine HN.out.mono ?_
      rintro r w' ⟨rfl, rfl⟩
      go_wp2
      go_ret
      exact ⟨rfl, HF.out⟩
    · have hfin : numD most bs = (0, bs, 13) := by unfold numD; rw [← HD.out, if_neg (by simp [h1]), if_pos (by omega)]
      rw [hfin]
      have HF := Lib.hid (h.failed 13 (by decide))
      have hb1 : ((D.2.2 : Int) != 0) = false := by simp [h1]
      have HX := Lib.hid (And.intro hfin (And.intro h1 (And.intro h hok))); clear hfin h1 h hok hi hz0 hz1 hz2 hrd hsl
      go_enter Try.func16, Try.ntmps16
      go_wp2_with fail
      refine HN.out.mono ?_
      rintro r w' ⟨rfl, rfl⟩
      go_wp2
      go_ret
      exact ⟨rfl, HF.out⟩
  · have hfin : numD most bs = (0, bs, D.2.2) := by unfold numD; rw [← HD.out, if_pos (by simpa using h1)]
    rw [hfin]
    have HF := Lib.hid (h.failed D.2.2 h1)
    have hb1 : ((D.2.2 : Int) != 0) = true := by simpa using h1
    have hb2 : ((D.2.2 : Int) == 0) = false := by simpa using h1
    have HX := Lib.hid (And.intro hfin (And.intro h1 (And.intro h hok))); clear hfin h1 h hok
    go_enter Try.func16, Try.ntmps16
    go_wp2_with fail
    refine HN.out.mono ?_
    rintro r w' ⟨rfl, rfl⟩
    go_wp2
    go_ret
    exact ⟨rfl, HF.out⟩
end Go.Proofs.Ytbgohopnmjdkhaa
