/- Layer 22: which of two messages is better. -/
import Derived.Test.YtgdadhpcooegnaaQuorum2
import Derived.StillTailTactics
namespace Go.Proofs.Ytgdadhpcooegnaa
open Go.RowKit
set_option linter.unusedVariables false
def cmpI (x y : Int) : Int := if x < y then -1 else if y < x then 1 else 0
set_option maxRecDepth 100000 in
theorem compare_any (x y : Int) (w : World) : Calls Try.prog 43 #[.int .i64 x, .int .i64 y] w fun e w' => e = .returned (.int .i64 (cmpI x y)) ∧ w' = w := by
  have HN : ∀ (z : Int), Calls Try.prog 54 #[.int .i64 z] w fun e w' => e = .returned (.bool false) ∧ w = w' := by
    intro z
    have hz : (z == z) = true := by simp
    go_enter Try.func54, Try.ntmps54
    go_wp2
    go_ret
    exact ⟨by simp, rfl⟩
  have H1 := Lib.hid HN; clear HN
  rcases Int.lt_trichotomy x y with h | h | h
  · have hd : decide (x < y) = true := by simpa using h
    have HB : Hid (cmpI x y = -1) := by show cmpI x y = -1; unfold cmpI; rw [if_pos h]
    clear h
    go_enter Try.func43, Try.ntmps43
    go_wp2_with fail
    refine (H1.out x).mono ?_
    rintro e w' ⟨rfl, rfl⟩
    go_wp2_with fail
    refine (H1.out y).mono ?_
    rintro e w' ⟨rfl, rfl⟩
    go_wp2
    go_ret
    exact ⟨by rw [HB.out]; rfl, rfl⟩
  · have hd : decide (x < y) = false := by simp; omega
    have hd2 : decide (y < x) = false := by simp; omega
    have HB : Hid (cmpI x y = 0) := by show cmpI x y = 0; unfold cmpI; rw [if_neg (by omega), if_neg (by omega)]
    clear h
    go_enter Try.func43, Try.ntmps43
    go_wp2_with fail
    refine (H1.out x).mono ?_
    rintro e w' ⟨rfl, rfl⟩
    go_wp2_with fail
    refine (H1.out y).mono ?_
    rintro e w' ⟨rfl, rfl⟩
    go_wp2
    go_ret
    exact ⟨by rw [HB.out]; rfl, rfl⟩
  · have hd : decide (x < y) = false := by simp; omega
    have hd2 : decide (y < x) = true := by simp; omega
    have HB : Hid (cmpI x y = 1) := by show cmpI x y = 1; unfold cmpI; rw [if_neg (by omega), if_pos h]
    clear h
    go_enter Try.func43, Try.ntmps43
    go_wp2_with fail
    refine (H1.out x).mono ?_
    rintro e w' ⟨rfl, rfl⟩
    go_wp2_with fail
    refine (H1.out y).mono ?_
    rintro e w' ⟨rfl, rfl⟩
    go_wp2
    go_ret
    exact ⟨by rw [HB.out]; rfl, rfl⟩
def or3 (x y z : Int) : Int := if x ≠ 0 then x else if y ≠ 0 then y else z
set_option maxRecDepth 100000 in
theorem or_any (x y z : Int) (ad : Addr) (w : World) (hx : w.cell? ad = some (.int .i64 x)) (hy : w.cell? ⟨ad.block, ad.off + 1, none⟩ = some (.int .i64 y)) (hz : w.cell? ⟨ad.block, ad.off + 2, none⟩ = some (.int .i64 z)) :
    Calls Try.prog 49 #[.slice (some ad) 3 3] w fun e w' => e = .returned (.int .i64 (or3 x y z)) ∧ w' = w := by
  have HB : Hid (or3 x y z = if x ≠ 0 then x else if y ≠ 0 then y else z) := by show or3 x y z = _; rfl
  go_enter Try.func49, Try.ntmps49
  go_wp2_with fail
  go_loopg [8] 3 (fun f si wr => wr = w ∧ ∃ (i : Nat), si = .int .i64 i ∧ i + f = 3 ∧ (0 < i → x = 0) ∧ (1 < i → y = 0) ∧ (2 < i → z = 0))
  case atStart => exact ⟨rfl, 0, rfl, rfl, by omega, by omega, by omega⟩
  case round =>
    obtain ⟨rfl, i, rfl, hi, h1, h2, h3⟩ := hrel
    have hc : i = 0 ∨ i = 1 ∨ i = 2 ∨ i = 3 := by omega
    rcases hc with rfl | rfl | rfl | rfl
    · clear hy hz h1 h2 h3
      by_cases hx0 : x = 0
      · subst hx0
        go_wp2
        go_roundg 2
        case measure => omega
        case rel => exact ⟨rfl, 1, by go_num, rfl, by simp, by omega, by omega⟩
      · have hd : (x == 0) = false := by simpa using hx0
        have HC : Hid (or3 x y z = x) := by show or3 x y z = x; rw [HB.out, if_pos hx0]
        clear hx0
        go_wp2
        go_ret
        exact ⟨by rw [HC.out]; rfl, rfl⟩
    · have hx0 : x = 0 := h1 (by decide)
      subst hx0
      clear hx hz h1 h2 h3
      by_cases hy0 : y = 0
      · subst hy0
        go_wp2
        go_roundg 1
        case measure => omega
        case rel => exact ⟨rfl, 2, by go_num, rfl, by simp, by simp, by omega⟩
      · have hd : (y == 0) = false := by simpa using hy0
        have HC : Hid (or3 0 y z = y) := by show or3 0 y z = y; rw [HB.out, if_neg (by simp), if_pos hy0]
        clear hy0
        go_wp2
        go_ret
        exact ⟨by rw [HC.out]; rfl, rfl⟩
    · have hx0 : x = 0 := h1 (by decide)
      have hy0 : y = 0 := h2 (by decide)
      subst hx0 hy0
      clear hx hy h1 h2 h3
      by_cases hz0 : z = 0
      · subst hz0
        go_wp2
        go_roundg 0
        case measure => omega
        case rel => exact ⟨rfl, 3, by go_num, rfl, by simp, by simp, by simp⟩
      · have hd : (z == 0) = false := by simpa using hz0
        have HC : Hid (or3 0 0 z = z) := by show or3 0 0 z = z; rw [HB.out, if_neg (by simp), if_neg (by simp)]
        clear hz0
        go_wp2
        go_ret
        exact ⟨by rw [HC.out]; rfl, rfl⟩
    · have hx0 : x = 0 := h1 (by decide)
      have hy0 : y = 0 := h2 (by decide)
      have hz0 : z = 0 := h3 (by decide)
      subst hx0 hy0 hz0
      clear hx hy hz h1 h2 h3
      go_wp2
      go_ret
      exact ⟨rfl, rfl⟩
def w64 (n : Int) : Int := IntKind.wrap .i64 n
def orderI (a b : Msg) : Int := or3 (cmpI b.last a.last) (cmpI (w64 (b.base + b.log.length)) (w64 (a.base + a.log.length))) (cmpI a.from_ b.from_)
theorem msg_var2 {w : World} {ok : Nat → Prop} {cs : List Value} {x : Msg} {g : Nat} {T : TypeId} {fr : Nat × Nat} (h : MsgR.rel w ok cs x) (hg : w.heap[g]? = some (.cells cs.toArray T fr)) :
    w.cell? ⟨g, 1, none⟩ = some (.int .i64 x.from_) ∧ w.cell? ⟨g, 4, none⟩ = some (.int .i64 x.last) ∧ w.cell? ⟨g, 29, none⟩ = some (.int .i64 x.base) ∧ ∃ A c, w.cell? ⟨g, 30, none⟩ = some (.slice A x.log.length c) ∧ x.log.length ≤ 140737488355328 := by
  obtain ⟨A, c, h8, hv⟩ := MsgR_log_at h
  have hlog : x.log.length ≤ 140737488355328 := by obtain ⟨_, _, _, _, _, h4, _⟩ := hv; omega
  refine ⟨?_, ?_, ?_, A, c, ?_, hlog⟩ <;> rw [cell_of_blk hg]
  · simpa using MsgR_from__at h
  · simpa using MsgR_last_at h
  · simpa using MsgR_base_at h
  · simpa using h8
set_option maxRecDepth 100000 in
set_option maxHeartbeats 1000000 in
theorem order_any (cs1 cs2 : List Value) (a b : Msg) (ok : Nat → Prop) (w : World) (h1 : MsgR.rel w ok cs1 a) (h2 : MsgR.rel w ok cs2 b) :
    Calls Try.prog 31 #[.agg cs1.toArray, .agg cs2.toArray] w fun e w' => e = .returned (.int .i64 (orderI a b)) ∧ Mod (fun _ => False) w w' := by
  have H1 := Lib.hid h1; have H2 := Lib.hid h2; clear h1 h2
  go_enter Try.func31, Try.ntmps31
  go_wp2_with (refine wpList_box_new rfl 40 (.tmp 0) rfl cs1 rfl ?_)
  intro g1 w1 hg1 hb1 hm1
  go_wp2_with (refine wpList_box_new rfl 40 (.tmp 1) rfl cs2 rfl ?_)
  intro g2 w2 hg2 hb2 hm2
  have hb1' : w2.heap[g1]? = _ := ((hm2 fun _ => False).block g1 (lt_of_blk hb1) id).trans hb1
  have hm : Mod (fun _ => False) w w2 := (hm1 fun _ => False).trans (hm2 fun _ => False) (fun _ h => h.elim)
  obtain ⟨a1, a4, a29, aA, ac, a30, al⟩ := msg_var2 (Rd.mod H1.out hm (fun _ _ => id)) hb1'
  obtain ⟨b1, b4, b29, bA, bc, b30, bl⟩ := msg_var2 (Rd.mod H2.out hm (fun _ _ => id)) hb2
  have HW := Lib.hid hm
  clear hg1 hb1 hm1 hg2 hb2 hm2 hb1' hm
  obtain ⟨a0, ha0⟩ : ∃ n, n = w64 (a.base + a.log.length) := ⟨_, rfl⟩
  obtain ⟨b0, hb0⟩ : ∃ n, n = w64 (b.base + b.log.length) := ⟨_, rfl⟩
  have ha1 : IntKind.wrap .i64 (a.base + (a.log.length : Int)) = a0 := ha0.symm
  have hb1 : IntKind.wrap .i64 (b.base + (b.log.length : Int)) = b0 := hb0.symm
  have HC := Lib.hid (And.intro ha0 hb0); clear ha0 hb0
  go_wp2_with fail
  go_still_tail 23, (by kernel_rfl)
  still_call (compare_any _ _ _)
  repeat still_step
  still_call (compare_any _ _ _)
  repeat still_step
  still_call (compare_any _ _ _)
  refine wpStill_nil ?_
  change wpList _ _ _ _ _ w2.drew
  have HD : Hid (Mod (fun _ => False) w w2.drew) := HW.out.drew
  generalize w2.drew = w3 at HD ⊢
  clear a1 a4 a29 a30 b1 b4 b29 b30 al bl HW
  go_wp2_with fail
  refine (or_any (cmpI b.last a.last) (cmpI b0 a0) (cmpI a.from_ b.from_) ⟨w3.heap.size, 0, none⟩ _ (cell_of_blk (heap_alloc_new w3 _) 0) (cell_of_blk (heap_alloc_new w3 _) 1) (cell_of_blk (heap_alloc_new w3 _) 2)).mono ?_
  rintro e w' ⟨rfl, rfl⟩
  go_wp2_with fail
  go_ret
  refine ⟨?_, HD.out.alloc _⟩
  unfold orderI
  rw [← HC.out.1, ← HC.out.2]
  rfl
/-! ### the document's -/
def betterM (a b : Msg) : Bool :=
  if a.last ≠ b.last then decide (b.last < a.last)
  else if w64 (a.base + a.log.length) ≠ w64 (b.base + b.log.length) then decide (w64 (b.base + b.log.length) < w64 (a.base + a.log.length))
  else decide (a.from_ < b.from_)
theorem better_order (a b : Msg) : betterM a b = decide (orderI a b < 0) := by
  unfold betterM orderI or3 cmpI
  by_cases h1 : a.last = b.last
  · by_cases h2 : w64 (a.base + a.log.length) = w64 (b.base + b.log.length)
    · rw [if_neg (by simpa using h1), if_neg (by simpa using h2)]
      simp only [h1, h2, Int.lt_irrefl, if_false, ne_eq, not_true_eq_false]
      by_cases h3 : a.from_ < b.from_
      · simp [h3]
      · by_cases h4 : b.from_ < a.from_
        · simp [h3, h4]
        · simp [h3, h4]
    · rw [if_neg (by simpa using h1), if_pos h2]
      simp only [h1, Int.lt_irrefl, if_false, ne_eq, not_true_eq_false]
      by_cases h3 : w64 (b.base + b.log.length) < w64 (a.base + a.log.length)
      · simp [h3]
      · have h4 : w64 (a.base + a.log.length) < w64 (b.base + b.log.length) := by omega
        simp [h3, h4]
  · rw [if_pos h1]
    by_cases h3 : b.last < a.last
    · simp [h3]
    · have h4 : a.last < b.last := by omega
      simp [h3, h4]
set_option maxRecDepth 100000 in
set_option maxHeartbeats 1000000 in
theorem better_any (cs1 cs2 : List Value) (a b : Msg) (ok : Nat → Prop) (w : World) (h1 : MsgR.rel w ok cs1 a) (h2 : MsgR.rel w ok cs2 b) :
    Calls Try.prog 32 #[.agg cs1.toArray, .agg cs2.toArray] w fun e w' => e = .returned (.bool (betterM a b)) ∧ Mod (fun _ => False) w w' := by
  have H1 := Lib.hid h1; have H2 := Lib.hid h2; clear h1 h2
  go_enter Try.func32, Try.ntmps32
  go_wp2_with (refine wpList_box_new rfl 40 (.tmp 0) rfl cs1 rfl ?_)
  intro g1 w1 hg1 hb1 hm1
  go_wp2_with (refine wpList_box_new rfl 40 (.tmp 1) rfl cs2 rfl ?_)
  intro g2 w2 hg2 hb2 hm2
  have hb1' : w2.heap[g1]? = _ := ((hm2 fun _ => False).block g1 (lt_of_blk hb1) id).trans hb1
  have hm : Mod (fun _ => False) w w2 := (hm1 fun _ => False).trans (hm2 fun _ => False) (fun _ h => h.elim)
  obtain ⟨a1, a4, a29, aA, ac, a30, al⟩ := msg_var2 (Rd.mod H1.out hm (fun _ _ => id)) hb1'
  obtain ⟨b1, b4, b29, bA, bc, b30, bl⟩ := msg_var2 (Rd.mod H2.out hm (fun _ _ => id)) hb2
  have HW := Lib.hid hm
  clear hg1 hb1 hm1 hg2 hb2 hm2 hb1' hm
  obtain ⟨a0, ha0⟩ : ∃ n, n = w64 (a.base + a.log.length) := ⟨_, rfl⟩
  obtain ⟨b0, hb0⟩ : ∃ n, n = w64 (b.base + b.log.length) := ⟨_, rfl⟩
  have ha1 : IntKind.wrap .i64 (a.base + (a.log.length : Int)) = a0 := ha0.symm
  have hb1 : IntKind.wrap .i64 (b.base + (b.log.length : Int)) = b0 := hb0.symm
  have HC : Hid (betterM a b = if a.last ≠ b.last then decide (b.last < a.last) else if a0 ≠ b0 then decide (b0 < a0) else decide (a.from_ < b.from_)) := by show betterM a b = _; rw [ha0, hb0]; rfl
  clear ha0 hb0
  by_cases h1 : a.last = b.last
  · have hd1 : (a.last == b.last) = true := by simpa using h1
    by_cases h2 : a0 = b0
    · have hd2 : (a0 == b0) = true := by simpa using h2
      have HB : Hid (betterM a b = decide (a.from_ < b.from_)) := by show betterM a b = _; rw [HC.out, if_neg (by simpa using h1), if_neg (by simpa using h2)]
      clear h1 h2
      go_wp2_with fail
      go_ret
      exact ⟨by rw [HB.out]; rfl, HW.out⟩
    · have hd2 : (a0 == b0) = false := by simpa using h2
      have HB : Hid (betterM a b = decide (b0 < a0)) := by show betterM a b = _; rw [HC.out, if_neg (by simpa using h1), if_pos h2]
      clear h1 h2
      go_wp2_with fail
      go_ret
      exact ⟨by rw [HB.out]; rfl, HW.out⟩
  · have hd1 : (a.last == b.last) = false := by simpa using h1
    have HB : Hid (betterM a b = decide (b.last < a.last)) := by show betterM a b = _; rw [HC.out, if_pos h1]
    clear h1
    go_wp2_with fail
    go_ret
    exact ⟨by rw [HB.out]; rfl, HW.out⟩
end Go.Proofs.Ytgdadhpcooegnaa
