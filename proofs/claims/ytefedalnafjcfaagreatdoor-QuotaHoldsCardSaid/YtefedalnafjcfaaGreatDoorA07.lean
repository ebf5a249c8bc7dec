/- Part of this claim's proof (texts Tape3, Tape4, TapeG, TapeL, Ent, Quiet, Lab2, QuietG, joined by program). -/
import Derived.Test.YtefedalnafjcfaaGreatDoorA06
import Derived.Test.YtefedalnafjcfaaGreatDoorA01
import Derived.Deep.QuietTactic
import Derived.Test.YtefedalnafjcfaaGreatDoorA04
namespace Go.Proofs.YtefedalnafjcfaaGreatDoor
open Go.RowKit
/-- From the i-th byte on, n read so far: the value, the count, the fault. -/
def decF : Nat → Int → List UInt8 → Int × Int × Int
  | _, _, [] => (0, 0, 11)
  | i, n, c :: r => if i = 9 then (0, 0, 10) else if 128 ≤ c.toNat then decF (i + 1) (n + ((c.toNat : Int) - 128) * 128 ^ i) r else if c.toNat = 0 ∧ 0 < i then (0, 0, 10) else (n + c.toNat * 128 ^ i, (i : Int) + 1, 0)
theorem pow128 (i : Nat) (hi : i ≤ 8) : ∃ p : Int, (128 : Int) ^ i = p ∧ 1 ≤ p ∧ p ≤ 72057594037927936 ∧ (128 : Int) ^ (i + 1) = p * 128 := by
  refine ⟨_, rfl, ?_, ?_, Int.pow_succ ..⟩
  all_goals
    have : i = 0 ∨ i = 1 ∨ i = 2 ∨ i = 3 ∨ i = 4 ∨ i = 5 ∨ i = 6 ∨ i = 7 ∨ i = 8 := by omega
    rcases this with rfl | rfl | rfl | rfl | rfl | rfl | rfl | rfl | rfl <;> decide
theorem dec_more {i : Nat} {n m b : Int} (hi : i ≤ 8) (hm : m = 128 ^ i) (h0 : 0 ≤ n) (h1 : n < 128 ^ i) (hb0 : 128 ≤ b) (hb1 : b < 256) :
    wrap64 (n + wrap64 ((b - 128) * m)) = n + (b - 128) * 128 ^ i ∧ 0 ≤ n + (b - 128) * 128 ^ i ∧ n + (b - 128) * 128 ^ i < 128 ^ (i + 1) ∧ (i + 1 ≤ 8 → wrap64 (m * 128) = 128 ^ (i + 1)) := by
  obtain ⟨p, hp, hp1, hp2, hp3⟩ := pow128 i hi
  subst hm
  rw [hp] at h1
  rw [hp3, hp]
  have e1 : 0 ≤ (b - 128) * p := Int.mul_nonneg (by omega) (by omega)
  have e2 : (b - 128) * p ≤ 127 * p := Int.mul_le_mul_of_nonneg_right (by omega) (by omega)
  refine ⟨?_, by omega, by omega, fun h => ?_⟩
  · generalize (b - 128) * p = q at *
    unfold wrap64; omega
  · have hi7 : i ≤ 7 := by omega
    have : p ≤ 562949953421312 := by
      rw [← hp]
      clear hp hp1 hp2 hp3 e1 e2 h h1
      have : i = 0 ∨ i = 1 ∨ i = 2 ∨ i = 3 ∨ i = 4 ∨ i = 5 ∨ i = 6 ∨ i = 7 := by omega
      rcases this with rfl | rfl | rfl | rfl | rfl | rfl | rfl | rfl <;> decide
    unfold wrap64; omega
theorem dec_last {i : Nat} {n m b : Int} (hi : i ≤ 8) (hm : m = 128 ^ i) (h0 : 0 ≤ n) (h1 : n < 128 ^ i) (hb0 : 0 ≤ b) (hb1 : b < 128) :
    wrap64 (n + wrap64 (b * m)) = n + b * 128 ^ i := by
  obtain ⟨p, hp, hp1, hp2, hp3⟩ := pow128 i hi
  subst hm
  rw [hp] at h1 ⊢
  have e1 : 0 ≤ b * p := Int.mul_nonneg (by omega) (by omega)
  have e2 : b * p ≤ 127 * p := Int.mul_le_mul_of_nonneg_right (by omega) (by omega)
  generalize b * p = q at *
  unfold wrap64; omega
structure TapeAt (w : World) (ok : Nat → Prop) (g : Nat) (v e : Value) (bs : List UInt8) : Prop where
  blk : w.heap[g]? = some (.cells #[v, e] 98 (0, 0))
  rd : bytesR.rel w (fun k => ok k ∧ k ≠ g) [v] bs
theorem TapeAt.cell0 {w : World} {ok : Nat → Prop} {g : Nat} {v e : Value} {bs : List UInt8} (h : TapeAt w ok g v e bs) : w.cell? ⟨g, 0, none⟩ = some v := by
  rw [cell_of_blk h.blk]; rfl
theorem TapeAt.cell1 {w : World} {ok : Nat → Prop} {g : Nat} {v e : Value} {bs : List UInt8} (h : TapeAt w ok g v e bs) : w.cell? ⟨g, 1, none⟩ = some e := by
  rw [cell_of_blk h.blk]; rfl
theorem TapeAt.free {w : World} {ok : Nat → Prop} {g : Nat} {v e : Value} {bs : List UInt8} (h : TapeAt w ok g v e bs) (j : Nat) : w.frozen? ⟨g, j, none⟩ = false := free_of_blk h.blk j
theorem TapeAt.slice {w : World} {ok : Nat → Prop} {g : Nat} {v e : Value} {bs : List UInt8} (h : TapeAt w ok g v e bs) : ∃ A c, v = .slice A bs.length c := by
  obtain ⟨A, c, hv, _⟩ := h.rd
  exact ⟨A, c, by simpa using hv⟩
set_option maxRecDepth 100000 in
set_option maxHeartbeats 400000 in
theorem tnumber_any (g : Nat) (ok : Nat → Prop) (v e : Value) (bs : List UInt8) (w : World) (h : TapeAt w ok g v e bs) :
    Calls Tryz.prog 43 #[.pointer (some ⟨g, 0, none⟩)] w fun r w' => r = .returned (.tuple #[.int .i64 (decF 0 0 bs).1, .int .i64 (decF 0 0 bs).2.1, .int .i64 (decF 0 0 bs).2.2]) ∧ w = w' := by
  have hc0 := h.cell0
  obtain ⟨A, c, hv, h2, h3, h4, h5, h6⟩ := h.rd
  obtain rfl : v = .slice A bs.length c := by simpa using hv
  have hR := Lib.hid h6
  have hm : bs.length ≤ 140737488355328 := by omega
  clear h hv h6 h5 h4
  obtain ⟨D, hD⟩ : ∃ D, D = decF 0 0 bs := ⟨_, rfl⟩
  have HD := Lib.hid hD
  rw [← hD]; clear hD
  go_enter Tryz.func43, Tryz.ntmps43
  go_wp2
  go_loopg [5, 6, 14] (bs.length) (fun f sn sw si wr => ∃ (i : Nat) (n m : Int), wr = w ∧ si = .int .i64 i ∧ sn = .int .i64 n ∧ sw = .int .i64 m ∧ i + f = bs.length ∧ i ≤ 9 ∧ 0 ≤ n ∧ n < 128 ^ i ∧ (i ≤ 8 → m = 128 ^ i) ∧ D = decF i n (bs.drop i))
  case atStart => exact ⟨0, 0, 1, rfl, rfl, rfl, rfl, by omega, by omega, by omega, by omega, fun _ => rfl, HD.out⟩
  case round =>
    obtain ⟨i, n, m, rfl, rfl, rfl, rfl, hi, hi9, hn0, hn1, hm1, hd⟩ := hrel
    have HI := Lib.hid (And.intro hi (And.intro hn1 (And.intro hm1 hd))); clear hi hn1 hm1 hd
    by_cases hlt : i < bs.length
    · obtain ⟨b, hb⟩ : ∃ b, bs[i]? = some b := ⟨_, List.getElem?_eq_getElem hlt⟩
      obtain ⟨ad, rfl, _, hcells⟩ := RowOf.bcells hR.out (by intro e; subst e; simp at hlt)
      have hcell := hcells i (.int .u8 (b.toNat : Int)) (by simp [bcells, hb])
      have hb256 : b.toNat < 256 := b.toNat_lt
      have hdr : bs.drop i = b :: bs.drop (i + 1) := by
        rw [List.drop_eq_getElem_cons hlt]; congr 1; rw [List.getElem?_eq_getElem hlt] at hb; exact Option.some.inj hb
      have HB := Lib.hid (And.intro hb hdr)
      clear hcells hb hdr
      go_wp2
      · have h9 : i = 9 := by have : ((i : Int) == 9) = true := by assumption
                              simp at this; omega
        go_ret3
        obtain ⟨_, hdr⟩ := HB.out
        obtain ⟨hi, hn1, hm1, hd⟩ := HI.out
        rw [hd, hdr, decF, if_pos h9]
        exact ⟨rfl, rfl⟩
      · have h9 : ¬ i = 9 := by have : ((i : Int) == 9) = false := by assumption
                                simp at this; omega
        have hbb : (128 : Int) ≤ (b.toNat : Int) := by assumption
        obtain ⟨_, hdr⟩ := HB.out
        obtain ⟨hi, hn1, hm1, hd⟩ := HI.out
        obtain ⟨e1, e2, e3, e4⟩ := dec_more (i := i) (by omega) (hm1 (by omega)) hn0 hn1 hbb (by omega)
        go_roundg (gk - 1)
        case measure => omega
        case rel =>
          refine ⟨i + 1, n + ((b.toNat : Int) - 128) * 128 ^ i, wrap64 (m * 128), rfl, by go_num, by rw [e1], rfl, by omega, by omega, e2, e3, fun h => e4 (by omega), ?_⟩
          rw [hd, hdr, decF, if_neg h9, if_pos (by omega)]
      · have h9 : ¬ i = 9 := by have : ((i : Int) == 9) = false := by assumption
                                simp at this; omega
        have hbb : b.toNat = 0 := by assumption
        have hip : 0 < i := by assumption
        go_ret3
        obtain ⟨_, hdr⟩ := HB.out
        obtain ⟨hi, hn1, hm1, hd⟩ := HI.out
        rw [hd, hdr, decF, if_neg h9, if_neg (by omega), if_pos ⟨hbb, hip⟩]
        exact ⟨rfl, rfl⟩
      all_goals
        have h9 : ¬ i = 9 := by have : ((i : Int) == 9) = false := by assumption
                                simp at this; omega
        go_ret3
        obtain ⟨_, hdr⟩ := HB.out
        obtain ⟨hi, hn1, hm1, hd⟩ := HI.out
        rw [hd, hdr, decF, if_neg h9, if_neg (by omega), if_neg (by omega)]
        have e1 := dec_last (i := i) (by omega) (hm1 (by omega)) hn0 hn1 (b := (b.toNat : Int)) (by omega) (by omega)
        first
          | (simp [e1]; done)
          | (have hb0 : b.toNat = 0 := by assumption
             have e0 : wrap64 0 = 0 := by unfold wrap64; decide
             rw [hb0] at e1 ⊢; simp [e0] at e1 ⊢; exact e1)
    · go_wp2
      go_ret3
      obtain ⟨hi, hn1, hm1, hd⟩ := HI.out
      rw [hd, List.drop_eq_nil_of_le (by omega)]
      exact ⟨rfl, rfl⟩
/-- A fault that lies in a block of its own. -/
def FaultAt (w : World) (b : Nat) (place : ByteArray) (code : Int) (behind : Value) : Prop := w.heap[b]? = some (.cells #[.string place, .int .i64 code, behind] 171 (0, 0))
def tapeStr : ByteArray := ⟨#[116, 97, 112, 101]⟩
/-- What Number of a tape tells: the value, the bytes that are left, the fault's number (0: none). -/
def numD (most : Int) (bs : List UInt8) : Int × List UInt8 × Int :=
  if (decF 0 0 bs).2.2 ≠ 0 then (0, bs, (decF 0 0 bs).2.2) else if (decF 0 0 bs).1 < 0 ∨ most < (decF 0 0 bs).1 then (0, bs, 13) else ((decF 0 0 bs).1, bs.drop (decF 0 0 bs).2.1.toNat, 0)
/-- The tape has come from w to w1: its block alone is written; where it has failed, its fault lies in a new block. -/
structure TapeTo (w : World) (ok : Nat → Prop) (g : Nat) (w1 : World) (bs1 : List UInt8) (code : Int) : Prop where
  at_ : ∃ v e, TapeAt w1 ok g v e bs1 ∧ (code = 0 → e = .nilIface) ∧ (code ≠ 0 → ∃ b, w.heap.size ≤ b ∧ e = .iface 169 (.pointer (some ⟨b, 0, none⟩)) ∧ FaultAt w1 b tapeStr code .nilIface)
  mod : Mod (fun k => k = g) w w1
theorem decF_ok (bs : List UInt8) : ∀ (i : Nat) (n : Int), 0 ≤ n → (decF i n bs).2.2 = 0 → n ≤ (decF i n bs).1 ∧ (i : Int) < (decF i n bs).2.1 ∧ (decF i n bs).2.1 ≤ i + bs.length := by
  induction bs with
  | nil => intro i n _ h; simp [decF] at h
  | cons c r ih =>
    intro i n h0 h
    have hp : (0 : Int) < 128 ^ i := Int.pow_pos (by decide)
    unfold decF at h ⊢
    split at h
    · simp at h
    split at h
    · rename_i h1 h2
      rw [if_neg h1, if_pos h2]
      have hq : 0 ≤ ((c.toNat : Int) - 128) * 128 ^ i := Int.mul_nonneg (by omega) (by omega)
      obtain ⟨a, b, d⟩ := ih (i + 1) (n + ((c.toNat : Int) - 128) * 128 ^ i) (by omega) h
      simp only [List.length_cons]
      exact ⟨by omega, by omega, by omega⟩
    split at h
    · simp at h
    rename_i h1 h2 h3
    rw [if_neg h1, if_neg h2, if_neg h3]
    have hq : 0 ≤ (c.toNat : Int) * 128 ^ i := Int.mul_nonneg (by omega) (by omega)
    simp only [List.length_cons]
    exact ⟨by omega, by omega, by omega⟩
/-- behind fail: the fault's block is new, the tape's field holds it -/
theorem TapeAt.failed {w : World} {ok : Nat → Prop} {g : Nat} {v : Value} {bs : List UInt8} (h : TapeAt w ok g v .nilIface bs) (code : Int) (hc : code ≠ 0) :
    TapeTo w ok g ((w.setCell ⟨g, 1, none⟩ (.iface 169 (.pointer (some ⟨w.heap.size, 0, none⟩)))).alloc (.cells #[.string ⟨#[116, 97, 112, 101]⟩, .int .i64 code, .nilIface] 171)) bs code := by
  have hlt := lt_of_blk h.blk
  have hm : Mod (fun k => k = g) w ((w.setCell ⟨g, 1, none⟩ (.iface 169 (.pointer (some ⟨w.heap.size, 0, none⟩)))).alloc (.cells #[.string ⟨#[116, 97, 112, 101]⟩, .int .i64 code, .nilIface] 171)) := ((Mod.refl (fun k => k = g) w).setCell (.inl rfl) _).alloc _
  have hs : (w.setCell ⟨g, 1, none⟩ (.iface 169 (.pointer (some ⟨w.heap.size, 0, none⟩)))).heap.size = w.heap.size := by simp [World.setCell]
  refine ⟨⟨v, _, ⟨?_, ?_⟩, fun e => absurd e hc, fun _ => ⟨w.heap.size, Nat.le_refl _, rfl, ?_⟩⟩, hm⟩
  · rw [Below.heap_alloc _ _ _ (by rw [hs]; exact hlt)]; exact set_of_blk h.blk 1 _
  · exact Rd.mod h.rd hm (fun k hk => hk.2)
  · unfold FaultAt
    have := heap_alloc_new (w.setCell ⟨g, 1, none⟩ (.iface 169 (.pointer (some ⟨w.heap.size, 0, none⟩)))) (.cells #[.string tapeStr, .int .i64 code, .nilIface] 171)
    rwa [hs] at this
theorem TapeAt.moved {w : World} {ok : Nat → Prop} {g : Nat} {v v1 : Value} {bs bs1 : List UInt8} (h : TapeAt w ok g v .nilIface bs) (h1 : bytesR.rel w (fun k => ok k ∧ k ≠ g) [v1] bs1) :
    TapeTo w ok g (w.setCell ⟨g, 0, none⟩ v1) bs1 0 := by
  have hm : Mod (fun k => k = g) w (w.setCell ⟨g, 0, none⟩ v1) := (Mod.refl (fun k => k = g) w).setCell (.inl rfl) _
  exact ⟨⟨v1, _, ⟨set_of_blk h.blk 0 _, Rd.mod h1 hm (fun k hk => hk.2)⟩, fun _ => rfl, fun e => absurd rfl e⟩, hm⟩
set_option maxRecDepth 100000 in
set_option maxHeartbeats 400000 in
theorem tnum_any (g : Nat) (ok : Nat → Prop) (v : Value) (bs : List UInt8) (most : Int) (w : World) (h : TapeAt w ok g v .nilIface bs) :
    Calls Tryz.prog 21 #[.pointer (some ⟨g, 0, none⟩), .int .i64 most] w fun r w' => r = .returned (.int .i64 (numD most bs).1) ∧ TapeTo w ok g w' (numD most bs).2.1 (numD most bs).2.2 := by
  have hc0 := h.cell0
  have hc1 := h.cell1
  have hf0 := h.free 0
  have hf1 := h.free 1
  have hlt := lt_of_blk h.blk
  have hN := tnumber_any g ok v .nilIface bs w h
  have hok := decF_ok bs 0 0 (by omega)
  obtain ⟨D, hD⟩ : ∃ D, D = decF 0 0 bs := ⟨_, rfl⟩
  have HD := Lib.hid hD
  have HN := Lib.hid hN
  rw [← hD] at hok HN; clear hD hN
  by_cases h1 : D.2.2 = 0
  · obtain ⟨p1, p2, p3⟩ := hok h1
    obtain ⟨A, c, rfl⟩ := h.slice
    obtain ⟨i0, hi, hz0, hz1, hz2⟩ := info_parts Tryz.info_u8
    obtain ⟨A', hsl, hrd⟩ := slice_from h.rd (t := 22) (e := 5) Tryz.underlying22 hi hz1 .i64 D.2.1 (by omega) (by omega)
    by_cases h2 : D.1 ≤ most
    · have hfin : numD most bs = (D.1, bs.drop D.2.1.toNat, 0) := by unfold numD; rw [← HD.out, if_neg (by simp [h1]), if_neg (by omega)]
      rw [hfin]
      have HF := Lib.hid (h.moved hrd)
      have hb1 : ((D.2.2 : Int) != 0) = false := by simp [h1]
      have HX := Lib.hid (And.intro hfin (And.intro h1 (And.intro h hok))); clear hfin h1 h hok hi hz0 hz1 hz2 hrd
      go_enter Tryz.func21, Tryz.ntmps21
      go_wp2_with fail
      refine HN.out.mono ?_
      rintro r w' ⟨rfl, rfl⟩
      go_wp2
      go_ret
      exact ⟨rfl, HF.out⟩
    · have hfin : numD most bs = (0, bs, 13) := by unfold numD; rw [← HD.out, if_neg (by simp [h1]), if_pos (by omega)]
      rw [hfin]
      have HF := Lib.hid (h.failed 13 (by decide))
      have hb1 : ((D.2.2 : Int) != 0) = false := by simp [h1]
      have HX := Lib.hid (And.intro hfin (And.intro h1 (And.intro h hok))); clear hfin h1 h hok hi hz0 hz1 hz2 hrd hsl
      go_enter Tryz.func21, Tryz.ntmps21
      go_wp2_with fail
      refine HN.out.mono ?_
      rintro r w' ⟨rfl, rfl⟩
      go_wp2
      go_ret
      exact ⟨rfl, HF.out⟩
  · have hfin : numD most bs = (0, bs, D.2.2) := by unfold numD; rw [← HD.out, if_pos (by simpa using h1)]
    rw [hfin]
    have HF := Lib.hid (h.failed D.2.2 h1)
    have hb1 : ((D.2.2 : Int) != 0) = true := by simpa using h1
    have hb2 : ((D.2.2 : Int) == 0) = false := by simpa using h1
    have HX := Lib.hid (And.intro hfin (And.intro h1 (And.intro h hok))); clear hfin h1 h hok
    go_enter Tryz.func21, Tryz.ntmps21
    go_wp2_with fail
    refine HN.out.mono ?_
    rintro r w' ⟨rfl, rfl⟩
    go_wp2
    go_ret
    exact ⟨rfl, HF.out⟩
end Go.Proofs.YtefedalnafjcfaaGreatDoor

namespace Go.Proofs.YtefedalnafjcfaaGreatDoor
open Go.RowKit
/-- What Text of a tape tells: the text, the bytes that are left, the fault's number. -/
def textD (most : Int) (bs : List UInt8) : List UInt8 × List UInt8 × Int :=
  if (numD most bs).2.2 ≠ 0 then ([], bs, (numD most bs).2.2) else if ((numD most bs).2.1.length : Int) < (numD most bs).1 then ([], bs, 11) else ((numD most bs).2.1.take (numD most bs).1.toNat, (numD most bs).2.1.drop (numD most bs).1.toNat, 0)
theorem numD_fail {most : Int} {bs : List UInt8} (h : (numD most bs).2.2 ≠ 0) : (numD most bs).2.1 = bs ∧ (numD most bs).1 = 0 := by
  unfold numD at h ⊢
  split
  · exact ⟨rfl, rfl⟩
  · rename_i h1
    rw [if_neg h1] at h
    split
    · exact ⟨rfl, rfl⟩
    · rename_i h2
      rw [if_neg h2] at h; exact absurd rfl h
theorem numD_nonneg (most : Int) (bs : List UInt8) : 0 ≤ (numD most bs).1 := by
  unfold numD
  split
  · simp
  split
  · simp
  rename_i h1 h2
  simp only; omega
theorem TapeTo.ok {w w1 : World} {ok : Nat → Prop} {g : Nat} {bs : List UInt8} (h : TapeTo w ok g w1 bs 0) : ∃ v, TapeAt w1 ok g v .nilIface bs := by
  obtain ⟨⟨v, e, h1, h2, _⟩, _⟩ := h
  obtain rfl := h2 rfl
  exact ⟨v, h1⟩
theorem TapeTo.trans {w w1 w2 : World} {ok : Nat → Prop} {g : Nat} {bs1 bs2 : List UInt8} {c1 c2 : Int} (h : TapeTo w ok g w1 bs1 c1) (k : TapeTo w1 ok g w2 bs2 c2) : TapeTo w ok g w2 bs2 c2 := by
  obtain ⟨⟨v, e, h1, h2, h3⟩, hm⟩ := k
  refine ⟨⟨v, e, h1, h2, fun hc => ?_⟩, h.mod.trans hm (fun k hk => .inl hk)⟩
  obtain ⟨b, hb, h4⟩ := h3 hc
  exact ⟨b, Nat.le_trans h.mod.size hb, h4⟩
set_option maxRecDepth 100000 in
set_option maxHeartbeats 400000 in
theorem ttext_any (g : Nat) (ok : Nat → Prop) (v : Value) (bs : List UInt8) (most : Int) (w : World) (h : TapeAt w ok g v .nilIface bs) :
    Calls Tryz.prog 47 #[.pointer (some ⟨g, 0, none⟩), .int .i64 most] w fun r w' => r = .returned (.string (mkStr (textD most bs).1)) ∧ TapeTo w ok g w' (textD most bs).2.1 (textD most bs).2.2 := by
  have hc0 := h.cell0
  have hc1 := h.cell1
  have hN := tnum_any g ok v bs most w h
  have hn0 := numD_nonneg most bs
  have hfl := numD_fail (most := most) (bs := bs)
  obtain ⟨D, hD⟩ : ∃ D, D = numD most bs := ⟨_, rfl⟩
  have HN := Lib.hid hN
  have HFIN : Hid (textD most bs = if D.2.2 ≠ 0 then ([], bs, D.2.2) else if (D.2.1.length : Int) < D.1 then ([], bs, 11) else (D.2.1.take D.1.toNat, D.2.1.drop D.1.toNat, 0)) := by rw [hD]; exact rfl
  rw [← hD] at hn0 HN hfl; clear hD hN
  have hemp : ByteArray.empty = mkStr [] := rfl
  by_cases h1 : D.2.2 = 0
  · have HL := Lib.hid h; clear h
    by_cases h2 : (D.2.1.length : Int) < D.1
    · have hfin : textD most bs = ([], bs, 11) := by rw [HFIN.out, if_neg (by simp [h1]), if_pos h2]
      rw [hfin]
      have HX := Lib.hid (And.intro hfin h1); clear hfin h1
      obtain ⟨A0, c0, hv0⟩ := HL.out.slice
      subst hv0
      go_enter Tryz.func47, Tryz.ntmps47
      go_wp2_with fail
      refine HN.out.mono ?_
      rintro r w1 ⟨rfl, HT⟩
      rw [HX.out.2] at HT
      obtain ⟨v1, h3⟩ := HT.ok
      obtain ⟨A1, c1, rfl⟩ := h3.slice
      have hd0 := h3.cell0
      have hd1 := h3.cell1
      have hf0 := h3.free 0
      have hf1 := h3.free 1
      have hgl := lt_of_blk h3.blk
      have hrd1 : bytesR.rel w1 (fun k => ok k ∧ k ≠ g) [.slice A0 bs.length c0] bs := Rd.mod HL.out.rd HT.mod (fun k hk => hk.2)
      have h4 := h3.moved hrd1
      obtain ⟨v5, h5⟩ := h4.ok
      have h6 := HT.trans (h4.trans (h5.failed 11 (by decide)))
      have HF := Lib.hid h6; clear h6 h5 h4 hrd1 HT h3
      go_wp2
      go_ret
      exact ⟨rfl, by simpa using HF.out⟩
    · have hfin : textD most bs = (D.2.1.take D.1.toNat, D.2.1.drop D.1.toNat, 0) := by rw [HFIN.out, if_neg (by simp [h1]), if_neg h2]
      rw [hfin]
      have HX := Lib.hid (And.intro hfin h1); clear hfin h1
      go_enter Tryz.func47, Tryz.ntmps47
      go_wp2_with fail
      refine HN.out.mono ?_
      rintro r w1 ⟨rfl, HT⟩
      rw [HX.out.2] at HT
      obtain ⟨v1, h3⟩ := HT.ok
      obtain ⟨A1, c1, rfl⟩ := h3.slice
      have hd0 := h3.cell0
      have hd1 := h3.cell1
      have hf0 := h3.free 0
      have hf1 := h3.free 1
      obtain ⟨i0, hi, hz0, hz1, hz2⟩ := info_parts Tryz.info_u8
      obtain ⟨A2, hs2, hr2⟩ := slice_to h3.rd (t := 22) (e := 5) Tryz.underlying22 hi .i64 D.1 (by omega) (by omega)
      obtain ⟨A3, hs3, hr3⟩ := slice_from h3.rd (t := 22) (e := 5) Tryz.underlying22 hi hz1 .i64 D.1 (by omega) (by omega)
      have hcv := run_str (P := Tryz.prog) hr2 22 9 5 Tryz.underlying22 Tryz.underlying5 Tryz.underlying9
      have HF := Lib.hid (HT.trans (h3.moved hr3)); clear h3 hr2 hr3 HT hi hz0 hz1 hz2
      go_wp2
      go_ret
      exact ⟨rfl, HF.out⟩
  · have hfin : textD most bs = ([], bs, D.2.2) := by rw [HFIN.out, if_pos h1]
    rw [hfin]
    have HX := Lib.hid (And.intro hfin h1); clear hfin
    obtain ⟨q1, q2⟩ := hfl h1
    rw [q1, q2] at HN
    clear hfl q1 q2 hn0 h1
    go_enter Tryz.func47, Tryz.ntmps47
    go_wp2_with fail
    refine HN.out.mono ?_
    rintro r w1 ⟨rfl, HT⟩
    obtain ⟨⟨v1, e1, h3, _, h4⟩, hm⟩ := HT
    obtain ⟨b, hb, rfl, hF⟩ := h4 HX.out.2
    have hd0 := h3.cell0
    have hd1 := h3.cell1
    have HF : Hid (TapeTo w ok g w1 bs D.2.2) := ⟨⟨v1, _, h3, fun e => absurd e HX.out.2, fun _ => ⟨b, hb, rfl, hF⟩⟩, hm⟩
    clear h3 h4 hF hm
    go_wp2
    go_ret
    exact ⟨rfl, HF.out⟩
set_option maxRecDepth 100000 in
theorem tnew_any (v : Value) (bs : List UInt8) (ok : Nat → Prop) (w : World) (h : bytesR.rel w ok [v] bs) :
    Calls Tryz.prog 20 #[v] w fun e w' => ∃ g v', e = .returned (.pointer (some ⟨g, 0, none⟩)) ∧ w.heap.size ≤ g ∧ TapeAt w' (fun k => w.heap.size ≤ k) g v' .nilIface bs ∧ Mod (fun _ => False) w w' := by
  have hl : bs.length ≤ 140737488355328 := by obtain ⟨A, c, hv, h2, h3, h4, h5, h6⟩ := h; omega
  have HC := Lib.hid (clone_any v bs ok w h)
  clear h
  go_enter Tryz.func20, Tryz.ntmps20
  go_wp2_with fail
  refine HC.out.mono ?_
  rintro e w1 ⟨A, c, rfl, h1, h2⟩
  have HF := Lib.hid (And.intro h1 h2); clear h1 h2
  go_wp2
  go_ret
  obtain ⟨h1, h2⟩ := HF.out
  have hr := reads_bytes h1 hl
  refine ⟨w1.heap.size, _, rfl, h2.size, ⟨heap_alloc_new w1 _, ?_⟩, h2.alloc _⟩
  refine Rd.step bytesR (fun k hk hlt => ⟨⟨?_, by omega⟩, Below.heap_alloc _ _ _ hlt⟩) hr
  exact (own_lt h1 k hk).1
end Go.Proofs.YtefedalnafjcfaaGreatDoor

namespace Go.Proofs.YtefedalnafjcfaaGreatDoor
open Go.RowKit
set_option linter.unusedVariables false
abbrev TSt := List UInt8 × Int
def numS (most : Int) (s : TSt) : Int × TSt := if s.2 ≠ 0 then (0, s) else ((numD most s.1).1, (numD most s.1).2)
def textS (most : Int) (s : TSt) : List UInt8 × TSt := if s.2 ≠ 0 then ([], s) else ((textD most s.1).1, (textD most s.1).2)
/-- The tape's block g is in this state. -/
def TapeS (w : World) (ok : Nat → Prop) (g : Nat) (s : TSt) : Prop :=
  ∃ v e, TapeAt w ok g v e s.1 ∧ (s.2 = 0 → e = .nilIface) ∧ (s.2 ≠ 0 → ∃ T p, e = .iface T p)
theorem TapeS.lt {w : World} {ok : Nat → Prop} {g : Nat} {s : TSt} (h : TapeS w ok g s) : g < w.heap.size := by
  obtain ⟨v, e, h1, _⟩ := h
  exact lt_of_blk h1.blk
theorem TapeS.mod {w w1 : World} {ok : Nat → Prop} {g : Nat} {s : TSt} {S : Nat → Prop} (h : TapeS w ok g s) (hm : Mod S w w1) (hg : ¬ S g) (hd : ∀ k, ok k → ¬ S k) : TapeS w1 ok g s := by
  obtain ⟨v, e, h1, h2⟩ := h
  exact ⟨v, e, ⟨(hm.block g (lt_of_blk h1.blk) hg).trans h1.blk, Rd.mod h1.rd hm (fun k hk => hd k hk.1)⟩, h2⟩
theorem TapeS.bound {w : World} {ok : Nat → Prop} {g : Nat} {s : TSt} (h : TapeS w ok g s) : TapeS w (fun k => ok k ∧ k < w.heap.size) g s := by
  obtain ⟨v, e, h1, h2⟩ := h
  exact ⟨v, e, ⟨h1.blk, Rd.mono (Rd.bound h1.rd) (fun k hk => ⟨⟨hk.1.1, hk.2⟩, hk.1.2⟩)⟩, h2⟩
theorem TapeS.mono {w : World} {ok ok1 : Nat → Prop} {g : Nat} {s : TSt} (h : TapeS w ok g s) (hk : ∀ k, ok k → ok1 k) : TapeS w ok1 g s := by
  obtain ⟨v, e, h1, h2⟩ := h
  exact ⟨v, e, ⟨h1.blk, Rd.mono h1.rd (fun k h => ⟨hk k h.1, h.2⟩)⟩, h2⟩
theorem TapeTo.state {w w1 : World} {ok : Nat → Prop} {g : Nat} {bs : List UInt8} {c : Int} (h : TapeTo w ok g w1 bs c) : TapeS w1 ok g (bs, c) := by
  obtain ⟨⟨v, e, h1, h2, h3⟩, _⟩ := h
  refine ⟨v, e, h1, h2, fun hc => ?_⟩
  obtain ⟨b, _, h4, _⟩ := h3 hc
  exact ⟨_, _, h4⟩
theorem TapeAt.state {w : World} {ok : Nat → Prop} {g : Nat} {v : Value} {bs : List UInt8} (h : TapeAt w ok g v .nilIface bs) : TapeS w ok g (bs, 0) := ⟨v, _, h, fun _ => rfl, fun h => absurd rfl h⟩
set_option maxRecDepth 100000 in
theorem tnumS_any (g : Nat) (ok : Nat → Prop) (s : TSt) (most : Int) (w : World) (h : TapeS w ok g s) :
    Calls Tryz.prog 21 #[.pointer (some ⟨g, 0, none⟩), .int .i64 most] w fun r w' => r = .returned (.int .i64 (numS most s).1) ∧ TapeS w' ok g (numS most s).2 ∧ Mod (fun k => k = g) w w' := by
  unfold numS
  obtain ⟨v, e, h1, h2, h3⟩ := h
  by_cases hs : s.2 = 0
  · obtain rfl := h2 hs
    rw [if_neg (by simp [hs])]
    refine (tnum_any g ok v s.1 most w h1).mono ?_
    rintro r w' ⟨rfl, ht⟩
    exact ⟨rfl, ht.state, ht.mod⟩
  · rw [if_pos hs]
    obtain ⟨T, p, rfl⟩ := h3 hs
    have hc1 := h1.cell1
    have HX := Lib.hid (And.intro h1 hs); clear h1 h2 h3 hs
    go_enter Tryz.func21, Tryz.ntmps21
    go_wp2_with fail
    go_ret
    exact ⟨rfl, ⟨v, _, HX.out.1, fun h => absurd h HX.out.2, fun _ => ⟨T, p, rfl⟩⟩, .refl _ _⟩
set_option maxRecDepth 100000 in
theorem ttextS_any (g : Nat) (ok : Nat → Prop) (s : TSt) (most : Int) (w : World) (h : TapeS w ok g s) :
    Calls Tryz.prog 47 #[.pointer (some ⟨g, 0, none⟩), .int .i64 most] w fun r w' => r = .returned (.string (mkStr (textS most s).1)) ∧ TapeS w' ok g (textS most s).2 ∧ Mod (fun k => k = g) w w' := by
  unfold textS
  obtain ⟨v, e, h1, h2, h3⟩ := h
  by_cases hs : s.2 = 0
  · obtain rfl := h2 hs
    rw [if_neg (by simp [hs])]
    refine (ttext_any g ok v s.1 most w h1).mono ?_
    rintro r w' ⟨rfl, ht⟩
    exact ⟨rfl, ht.state, ht.mod⟩
  · rw [if_pos hs]
    obtain ⟨T, p, rfl⟩ := h3 hs
    have hc1 := h1.cell1
    have HX := Lib.hid (And.intro h1 hs); clear h1 h2 h3 hs
    go_enter Tryz.func47, Tryz.ntmps47
    go_wp2_with fail
    go_ret
    exact ⟨rfl, ⟨v, _, HX.out.1, fun h => absurd h HX.out.2, fun _ => ⟨T, p, rfl⟩⟩, .refl _ _⟩
set_option maxRecDepth 100000 in
theorem terrS_any (g : Nat) (ok : Nat → Prop) (s : TSt) (w : World) (h : TapeS w ok g s) :
    Calls Tryz.prog 45 #[.pointer (some ⟨g, 0, none⟩)] w fun r w' => ∃ e, r = .returned e ∧ (s.2 = 0 → e = .nilIface) ∧ (s.2 ≠ 0 → ∃ T p, e = .iface T p) ∧ w = w' := by
  obtain ⟨v, e, h1, h2⟩ := h
  have hc1 := h1.cell1
  have HX := Lib.hid h2; clear h1 h2
  go_enter Tryz.func45, Tryz.ntmps45
  go_wp2_with fail
  go_ret
  exact ⟨e, rfl, HX.out.1, HX.out.2, rfl⟩
theorem numS_range {most : Int} (s : TSt) (hm : 0 ≤ most) : 0 ≤ (numS most s).1 ∧ (numS most s).1 ≤ most := by
  unfold numS
  split
  · exact ⟨Int.le_refl _, hm⟩
  · unfold numD
    split
    · exact ⟨Int.le_refl _, hm⟩
    split
    · exact ⟨Int.le_refl _, hm⟩
    · simp only; omega
end Go.Proofs.YtefedalnafjcfaaGreatDoor

namespace Go.Proofs.YtefedalnafjcfaaGreatDoor
open Go.RowKit
theorem decF_enc (f : Nat) : ∀ (i : Nat) (a n : Int) (rest : List UInt8), 0 ≤ n → n < 128 ^ (f + 1) → n * 128 ^ i ≤ 4611686018427387903 → (0 < i → 0 < n) →
    decF i a (encF (f + 1) n ++ rest) = (a + n * 128 ^ i, (i : Int) + (encF (f + 1) n).length, 0) := by
  induction f with
  | zero =>
    intro i a n rest h0 h1 h2 h3
    have hlt : n < 128 := by simpa using h1
    rw [encF_lt _ _ hlt]
    have hi : ¬ i = 9 := by
      rintro rfl
      have := h3 (by decide)
      have e : (128 : Int) ^ 9 = 9223372036854775808 := by decide
      rw [e] at h2; omega
    have ht := u8_toNat n h0 (by omega)
    simp only [List.cons_append, List.nil_append, decF]
    rw [if_neg hi, if_neg (by omega), if_neg (by rintro ⟨e, hp⟩; have := h3 hp; omega), ht]
    simp
  | succ f ih =>
    intro i a n rest h0 h1 h2 h3
    by_cases hlt : n < 128
    · rw [encF_lt _ _ hlt]
      have hi : ¬ i = 9 := by
        rintro rfl
        have := h3 (by decide)
        have e : (128 : Int) ^ 9 = 9223372036854775808 := by decide
        rw [e] at h2; omega
      have ht := u8_toNat n h0 (by omega)
      simp only [List.cons_append, List.nil_append, decF]
      rw [if_neg hi, if_neg (by omega), if_neg (by rintro ⟨e, hp⟩; have := h3 hp; omega), ht]
      simp
    · rw [encF_ge _ _ hlt]
      have hi : ¬ i = 9 := by
        rintro rfl
        have e : (128 : Int) ^ 9 = 9223372036854775808 := by decide
        rw [e] at h2; omega
      have ht := u8_toNat (n % 128 + 128) (by omega) (by omega)
      have hp : (0 : Int) < 128 ^ i := Int.pow_pos (by decide)
      have hsum : (n % 128) * 128 ^ i + (n / 128) * 128 ^ (i + 1) = n * 128 ^ i := by
        rw [Int.pow_succ]
        have e : n = n % 128 + 128 * (n / 128) := by omega
        conv => rhs; rw [e]
        rw [Int.add_mul, Int.mul_comm 128 (n / 128), Int.mul_assoc (n / 128) 128, Int.mul_comm 128 (128 ^ i)]
      simp only [List.cons_append, decF]
      rw [if_neg hi, if_pos (by omega), ht]
      have h128 : (n / 128) * 128 ^ (i + 1) ≤ 4611686018427387903 := by
        have : 0 ≤ (n % 128) * 128 ^ i := Int.mul_nonneg (by omega) (by omega)
        omega
      rw [ih (i + 1) _ (n / 128) rest (by omega) (by rw [Int.pow_succ] at h1; generalize (128 : Int) ^ (f + 1) = p at *; omega) h128 (fun _ => by omega)]
      simp only [Prod.mk.injEq, and_true, List.length_cons]
      refine ⟨?_, by omega⟩
      rw [← hsum]
      have : n % 128 + 128 - 128 = n % 128 := by omega
      rw [this]; omega
theorem numD_enc {most n : Int} (rest : List UInt8) (h0 : 0 ≤ n) (h1 : n ≤ 4611686018427387903) (hm : n ≤ most) : numD most (encF 10 n ++ rest) = (n, rest, 0) := by
  have h := decF_enc 9 0 0 n rest h0 (by omega) (by simpa using h1) (by omega)
  have h' : decF 0 0 (encF 10 n ++ rest) = (n, ((encF 10 n).length : Int), 0) := by rw [h]; simp
  unfold numD
  rw [h']
  simp only [ne_eq, not_true_eq_false, if_false]
  rw [if_neg (by omega)]
  simp
theorem textD_enc {most : Int} (s rest : List UInt8) (hs : (s.length : Int) ≤ most) (hl : s.length ≤ 4611686018427387903) : textD most (encF 10 s.length ++ (s ++ rest)) = (s, rest, 0) := by
  unfold textD
  rw [numD_enc (s ++ rest) (by omega) (by omega) hs]
  simp
  omega
theorem numD_le {most : Int} {bs : List UInt8} (h : (numD most bs).2.2 = 0) : (numD most bs).1 ≤ most := by
  unfold numD at h ⊢
  split at h
  · rename_i h1; exact absurd h h1
  rename_i h1
  rw [if_neg h1]
  split at h
  · simp at h
  rename_i h2
  rw [if_neg h2]
  simp only; omega
end Go.Proofs.YtefedalnafjcfaaGreatDoor

namespace Go.Proofs.YtefedalnafjcfaaGreatDoor
open Go.RowKit
set_option linter.unusedVariables false
def EntryR : Rd Entry := (Rd.string.pair ((Rd.int .i64))).iso fun x => (x.cat, x.level)
theorem EntryR_iff {w : World} {ok : Nat → Prop} {cs : List Value} {x : Entry} : EntryR.rel w ok cs x ↔ ∃ c0 c1, cs = c0 ++ (c1) ∧ Rd.string.rel w ok c0 x.cat ∧ (Rd.int .i64).rel w ok c1 x.level := by
  constructor
  · rintro ⟨c0, r0, rfl, h0, h1⟩
    exact ⟨c0, _, rfl, h0, h1⟩
  · rintro ⟨c0, c1, rfl, h0, h1⟩
    exact ⟨c0, _, rfl, h0, h1⟩
theorem EntryR_cells {w : World} {ok : Nat → Prop} {cs : List Value} {x : Entry} (h : EntryR.rel w ok cs x) : cs = [.string x.cat, .int .i64 x.level] ∧ x.cat.size ≤ 140737488355328 ∧ Rd.inR .i64 x.level := by
  obtain ⟨c0, c1, rfl, ⟨rfl, h1⟩, ⟨rfl, h2⟩⟩ := EntryR_iff.1 h
  exact ⟨rfl, h1, h2⟩
theorem EntryR_mk (w : World) (ok : Nat → Prop) (x : Entry) (h1 : x.cat.size ≤ 140737488355328) (h2 : Rd.inR .i64 x.level) : EntryR.rel w ok [.string x.cat, .int .i64 x.level] x :=
  EntryR_iff.2 ⟨_, _, rfl, ⟨rfl, h1⟩, ⟨rfl, h2⟩⟩
end Go.Proofs.YtefedalnafjcfaaGreatDoor

namespace Go.Proofs.YtefedalnafjcfaaGreatDoor
open Go.RowKit
set_option linter.unusedVariables false
/-- The worlds in which all that was there is as it was. -/
def ModW (w : World) : Type := {W : World // Mod (fun _ => False) w W}
instance ModW.nonempty (w : World) : Nonempty (ModW w) := ⟨⟨w, .refl _ _⟩⟩
theorem ModW.cell {w : World} {a : Addr} {v : Value} (h : w.cell? a = some v) (W : ModW w) : W.1.cell? a = some v := cell_step h (fun hl => W.2.block a.block hl id)
section
variable {P : Program} {ops : Array Oper} {C : World → Prop} {rest : List Oper} {o : Oper} {a : Act}
theorem wp_region_mod {id : Nat} {Q : Exit → Act → World → Prop} {w : World} {l : List Oper} (hm : P.follows .mixedOrders = true) (hB : Region.lexB .any l.toArray = true)
    (h : wpQuiet P l.toArray (fun w' => ∃ W : ModW w, w' = W.1) (fun a' => ∀ w', (∃ W : ModW w, w' = W.1) → Q .normal a' w') l a) : (Code.region id l.toArray true).wp P Q a w :=
  wp_region_quiet (C := fun w' => ∃ W : ModW w, w' = W.1) hm hB ⟨⟨w.drew, (Mod.refl _ w).drew⟩, rfl⟩ (by simpa using h)
end
/-- a callee that answers v and writes nothing that was there -/
theorem quiet_mod {P : Program} {f : FuncId} {args : Array Value} {w : World} {W : ModW w} {v : Value} (h : Calls P f args W.1 fun e w' => e = .returned v ∧ Mod (fun _ => False) W.1 w') :
    Calls P f args W.1 fun e w'' => e = .returned v ∧ ∃ W' : ModW w, w'' = W'.1 :=
  h.mono fun _ w'' ⟨he, hm⟩ => ⟨he, ⟨w'', W.2.trans hm (fun _ h => h.elim)⟩, rfl⟩
end Go.Proofs.YtefedalnafjcfaaGreatDoor

namespace Go.Proofs.YtefedalnafjcfaaGreatDoor
open Go.RowKit Go.Shelf
set_option linter.unusedVariables false
abbrev labR : Rd (List Entry) := Rd.slice 24 EntryR
theorem ent_cases (e : Entry) : ∃ c n, e = ent c n := ⟨nm e, e.level, (ent_nm e).symm⟩
/-- A label that is read: what a walk wants. -/
theorem lab_row {w : World} {ok : Nat → Prop} {A : Option Addr} {n c : Nat} {l : List Entry} (h : labR.rel w ok [.slice A n c] l) :
    n = l.length ∧ l.length ≤ c ∧ c ≤ maxLen ∧ l.length * 24 ≤ 140737488355328 ∧ (A = none → c = 0) ∧ EntryR.RowOf w ok A l := by
  obtain ⟨A', c', hv, h2, h3, h4, h5, h6⟩ := h
  simp only [List.cons.injEq, Value.slice.injEq, and_true] at hv
  obtain ⟨rfl, rfl, rfl⟩ := hv
  exact ⟨rfl, h2, h3, h4, h5, h6⟩
theorem row_ent {w : World} {ok : Nat → Prop} {A : Option Addr} {l : List Entry} (h : EntryR.RowOf w ok A l) {j : Nat} {c : List UInt8} {n : Int} (hj : l[j]? = some (ent c n)) :
    ∃ ad, A = some ad ∧ ok ad.block ∧ w.cell? (ad.add (j * 2)) = some (.string ⟨c.toArray⟩) ∧ w.cell? ⟨(ad.add (j * 2)).block, (ad.add (j * 2)).off + 1, none⟩ = some (.int .i64 n) ∧ c.length ≤ 140737488355328 ∧ Rd.inR .i64 n := by
  obtain ⟨ad, cs, hA, hok, hr, hc⟩ := Rd.RowOf.at_ h hj
  obtain ⟨rfl, h1, h2⟩ := EntryR_cells hr
  refine ⟨ad, hA, hok, hc 0 _ rfl, ?_, by have := h1; rwa [show (ent c n).cat.size = c.length from mkStr_size c] at this, h2⟩
  have := hc 1 _ rfl
  rwa [show EntryR.sz = 2 from rfl, add_field _ _ _ (by decide)] at this
theorem labR_each {w : World} {ok : Nat → Prop} {cs : List Value} {l : List Entry} (h : labR.rel w ok cs l) : ∀ e ∈ l, (nm e).length ≤ 140737488355328 ∧ Rd.inR .i64 e.level := by
  obtain ⟨A, c, _, _, _, _, _, h6⟩ := h
  intro e he
  obtain ⟨j, hj⟩ := List.getElem?_of_mem he
  obtain ⟨c, n, rfl⟩ := ent_cases e
  obtain ⟨_, _, _, _, _, h1, h2⟩ := row_ent h6 hj
  rw [nm_ent]
  exact ⟨h1, h2⟩
set_option maxRecDepth 100000 in
theorem at_any (c d : List UInt8) (n : Int) (hc : c.length ≤ 140737488355328) (hd : d.length ≤ 140737488355328) (w : World) (E : Env w) :
    Calls Tryz.prog 104 #[.agg #[.string ⟨c.toArray⟩, .int .i64 n], .string ⟨d.toArray⟩] w fun r w' => r = .returned (.int .i64 (cmpB c d)) ∧ Mod (fun _ => False) w w' := by
  have hcm := fun W E => compare_any c d hc hd W E
  obtain ⟨z, hz⟩ : ∃ z, z = cmpB c d := ⟨_, rfl⟩
  simp only [← hz] at hcm ⊢
  have HC := Lib.hid (And.intro hcm E); clear hcm E hz
  go_enter Tryz.func104, Tryz.ntmps104
  go_wp2_with fail
  have hm := (Mod.refl (fun _ => False) w).alloc (.cells #[.string ⟨c.toArray⟩, .int .i64 n] 129)
  have HM := Lib.hid (And.intro hm (HC.out.2.mod0 hm)); clear hm
  refine (HC.out.1 _ HM.out.2).mono ?_
  rintro r w1 ⟨rfl, hm1⟩
  have H1 := Lib.hid (tr0 HM.out.1 hm1); clear hm1
  go_wp2_with fail
  go_ret
  exact ⟨rfl, H1.out⟩
set_option maxRecDepth 100000 in
theorem levelC_any (c d : List UInt8) (n : Int) (g : Nat) (w : World) (hg : w.cell? ⟨g, 0, none⟩ = some (.string ⟨d.toArray⟩)) :
    Calls Tryz.prog 109 #[.agg #[.string ⟨c.toArray⟩, .int .i64 n], .pointer (some ⟨g, 0, none⟩)] w fun r w' => r = .returned (.bool (c == d)) ∧ Mod (fun _ => False) w w' := by
  have hg' := cell_alloc_l (.cells #[.string ⟨c.toArray⟩, .int .i64 n] 129) hg
  go_enter Tryz.func109, Tryz.ntmps109
  go_wp2_with fail
  go_ret
  exact ⟨rfl, (Mod.refl (fun _ => False) w).alloc _⟩
end Go.Proofs.YtefedalnafjcfaaGreatDoor

namespace Go.Proofs.YtefedalnafjcfaaGreatDoor
open Go.RowKit
set_option linter.unusedVariables false
section
variable {P : Program} {ops : Array Oper} {C : World → Prop} {R rest : List Oper} {o : Oper} {a : Act} {Q : Act → Prop}
theorem wpQuiet_hide (h : ∀ R, R = rest → wpQuiet P ops C Q R a) : wpQuiet P ops C Q rest a := h _ rfl
theorem wpQuiet_skip (hR : R = o :: rest) (hw : Region.wanted o (yielded ops a.tmps) = false) (h : ∀ K : Act → Prop, (∀ a, (∀ R, R = rest → wpQuiet P ops C Q R a) → K a) → K (a.put o.dst undef)) : wpQuiet P ops C Q R a := by
  rw [hR, wpQuiet, if_neg (by simp [hw])]
  exact h _ (fun _ h => h _ rfl)
theorem wpQuiet_take (hR : R = o :: rest) (hw : Region.wanted o (yielded ops a.tmps) = true) (h : ∀ K : Act → Prop, (∀ a, (∀ R, R = rest → wpQuiet P ops C Q R a) → K a) → o.quiet P a C K) : wpQuiet P ops C Q R a := by
  rw [hR, wpQuiet, if_pos hw]
  exact h _ (fun _ h => h _ rfl)
theorem wpQuiet_none (hR : R = o :: rest) (hg : o.guard = none) (h : ∀ K : Act → Prop, (∀ a, (∀ R, R = rest → wpQuiet P ops C Q R a) → K a) → o.quiet P a C K) : wpQuiet P ops C Q R a :=
  wpQuiet_take hR (by unfold Region.wanted; rw [hg]) h
theorem wpQuiet_end (hR : R = []) (h : Q a) : wpQuiet P ops C Q R a := by rw [hR]; exact h
end
end Go.Proofs.YtefedalnafjcfaaGreatDoor

