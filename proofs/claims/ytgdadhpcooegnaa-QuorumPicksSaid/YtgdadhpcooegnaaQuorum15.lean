/- Layer 22: what is agreed on, the code's. -/
import Derived.Test.YtgdadhpcooegnaaSort
import Derived.Test.YtgdadhpcooegnaaRow
import Derived.Laws.CopyOwn
namespace Go.Proofs.Ytgdadhpcooegnaa
open Go.RowKit
set_option linter.unusedVariables false
def endsI (l : List Int) (n : Nat) : List Int := (List.range n).map fun i : Nat => getI l i
theorem endsI_len (l : List Int) (n : Nat) : (endsI l n).length = n := by simp [endsI]
theorem ends_laid (l : List Int) (n : Nat) : laid (icells (List.replicate n 0)) 0 (icells (l.take n)) = icells (endsI l n) := by
  unfold laid
  simp only [List.take_zero, List.nil_append, Nat.zero_add, icells, ← List.map_drop, ← List.map_append, List.length_map]
  congr 1
  apply List.ext_getElem?
  intro j
  by_cases hj : j < (l.take n).length
  · have hj' := hj
    rw [List.length_take] at hj'
    rw [List.getElem?_append_left hj, List.getElem?_take_of_lt (by omega), endsI, List.getElem?_map, List.getElem?_range (by omega), Option.map_some, getI_nat, List.getD_eq_getElem?_getD, List.getElem?_eq_getElem (by omega)]
    rfl
  · rw [List.getElem?_append_right (by omega), List.getElem?_drop]
    rw [List.length_take] at hj ⊢
    by_cases hn : j < n
    · rw [endsI, List.getElem?_map, List.getElem?_range hn, Option.map_some, getI_nat, List.getD_eq_getElem?_getD, List.getElem?_eq_none (l := l) (by omega), List.getElem?_replicate, if_pos (by omega)]
      rfl
    · rw [List.getElem?_eq_none (l := List.replicate n (0 : Int)) (by simp; omega), List.getElem?_eq_none (by rw [endsI_len]; omega)]
def agreedI (l : List Int) (n : Int) : Int := if sizeB n then (sortI (endsI l n.toNat)).getD (n.toNat / 2) 0 else 0
theorem int_cells {w : World} {ok : Nat → Prop} {A : Option Addr} {n c : Nat} {xs : List Int} (h : intsR.rel w ok [.slice A n c] xs) (hne : xs ≠ []) : ∃ ad, A = some ad ∧ ∀ j u, (icells xs)[j]? = some u → w.cell? (ad.add j) = some u := by
  obtain ⟨A', c', hv, _, _, _, _, h6⟩ := h
  simp only [List.cons.injEq, Value.slice.injEq, and_true] at hv
  obtain ⟨rfl, rfl, rfl⟩ := hv
  rcases h6 with h6 | ⟨ad, hA, _, h6⟩
  · exact absurd h6 hne
  · refine ⟨ad, hA, fun j u hj => ?_⟩
    simp only [icells, List.getElem?_map, Option.map_eq_some_iff] at hj
    obtain ⟨x, hx, rfl⟩ := hj
    obtain ⟨c, ⟨rfl, _⟩, hc⟩ := h6 j x hx
    have := hc 0 _ rfl
    rwa [show j * (Rd.int .i64).sz + 0 = j from Nat.mul_one j] at this
theorem icells_one (l : List Int) : ∀ u ∈ icells l, u.oneCell' = true := by
  intro u hu
  simp only [icells, List.mem_map] at hu
  obtain ⟨x, _, rfl⟩ := hu
  rfl
theorem Try.info_int1 : (Try.prog.info? 3).map (·.size) = some 1 := by kernel_rfl
/-- copy(dst, l), dst the whole of a row that is known -/
theorem wpList_copy_ints {ops : Array Oper} {rest : List Oper} {o : Oper} {a : Act} {Q : Exit → Act → World → Prop} {w : World} (hgd : o.guard = none) (d s : Operand)
    (ho : o.op = .call { callee := .builtin .copy, args := #[d, s], argTypes := #[23, 23] }) (g N c0 : Nat) (hd : a.eval d = .slice (some ⟨g, 0, none⟩) N c0) (A : Option Addr) (c : Nat) (l : List Int) (hs : a.eval s = .slice A l.length c)
    (z : List Value) (hg : w.heap[g]? = some (.cells z.toArray 3 (0, 0))) (hz : z.length = N) (ok : Nat → Prop) (h : intsR.rel w ok [.slice A l.length c] l)
    (hk : ∀ v w1, w1.heap[g]? = some (.cells (laid z 0 (icells (l.take N))).toArray 3 (0, 0)) → Mod (fun k => k = g) w w1 → wpList Try.prog ops Q rest (a.put o.dst v) w1) : wpList Try.prog ops Q (o :: rest) a w := by
  by_cases hl : l = []
  · subst hl
    refine wpList_copy_nothing hgd d s _ _ ho 3 Try.underlying23 Try.info_int1 _ _ _ _ _ _ hd hs (by simp) (hk _ _ ?_ (.refl _ _))
    simpa [laid, icells] using hg
  · obtain ⟨ad, rfl, hc⟩ := int_cells h hl
    refine wpList_copy_k hgd d s _ _ ho 3 1 Try.underlying23 Try.info_int1 g 0 N c0 ad l.length c hd hs z 3 hg (icells (l.take N)) (by simp [icells, Nat.min_def]; split <;> split <;> omega) (fun j u hj => hc j u ?_) (by simp [icells, hz]; omega) (icells_one _) (fun w1 h1 h2 => hk _ w1 h1 h2)
    simp only [icells, List.getElem?_map, Option.map_eq_some_iff] at hj ⊢
    obtain ⟨x, hx, rfl⟩ := hj
    rw [List.getElem?_take] at hx
    split at hx
    · exact ⟨x, hx, rfl⟩
    · cases hx
set_option maxRecDepth 100000 in
set_option maxHeartbeats 1000000 in
theorem agreed_key (A : Option Addr) (c : Nat) (l : List Int) (N F : Nat) (ok : Nat → Prop) (w : World) (h : intsR.rel w ok [.slice A l.length c] l) (hN : N ≤ 7 ∧ F < N ∧ F + 1 + F = N)
    (hmk : ∀ w, (Instr.makeSlice 23 (.int .i64 (N : Nat)) (.int .i64 (N : Nat))).run Try.prog w = .ok (.slice (some ⟨w.heap.size, 0, none⟩) N N) (w.alloc (.cells (icells (List.replicate N 0)).toArray 3)))
    (hsz : ∀ w, Calls Try.prog 18 #[.int .i64 (N : Nat)] w fun e w' => e = .returned (.bool true) ∧ w = w') (hfa : ∀ w, Calls Try.prog 16 #[.int .i64 (N : Nat)] w fun e w' => e = .returned (.int .i64 (F : Nat)) ∧ w = w') :
    Calls Try.prog 17 #[.slice A l.length c, .int .i64 (N : Nat)] w fun e w' => e = .returned (.int .i64 ((sortI (endsI l N)).getD F 0)) ∧ Mod (fun _ => False) w w' := by
  have H0 := Lib.hid h; have HS := Lib.hid hsz; have HF := Lib.hid hfa; clear h hsz hfa
  obtain ⟨hN7, hFN, hFF⟩ := hN
  obtain ⟨q, hq⟩ : ∃ q, q = (sortI (endsI l N)).getD F 0 := ⟨_, rfl⟩
  rw [← hq]
  have HQ := Lib.hid hq; clear hq
  obtain ⟨z, hz⟩ : ∃ z, z = icells (List.replicate N 0) := ⟨_, rfl⟩
  rw [← hz] at hmk
  have HZ := Lib.hid hz; clear hz
  go_enter Try.func17, Try.ntmps17
  go_wp2_with fail
  refine (HS.out w).mono ?_
  rintro e w' ⟨rfl, rfl⟩
  have hm1 : Mod (fun _ => False) w (w.alloc (.cells z.toArray 3)) := (Mod.refl (fun _ => False) w).alloc _
  have hg1 := heap_alloc_new w (.cells z.toArray 3)
  obtain ⟨w1, hw1⟩ : ∃ w1, w1 = w.alloc (.cells z.toArray 3) := ⟨_, rfl⟩
  rw [← hw1] at hm1 hg1
  have hmk1 := hmk w
  rw [← hw1] at hmk1
  clear hmk
  have HW := Lib.hid (And.intro hm1 hg1); clear hm1 hg1
  clear hw1
  have hrd := Rd.mod (Rd.bound H0.out) HW.out.1 (fun _ _ => id)
  have HRD := Lib.hid hrd; clear hrd
  go_wp2_with (refine wpList_copy_ints rfl _ _ rfl w.heap.size N N rfl A c l rfl z HW.out.2 (by rw [HZ.out]; simp [icells]) _ HRD.out ?_)
  intro v w2 hg2 hm2
  rw [HZ.out, ends_laid] at hg2
  have ho : w2.ownsRow w.heap.size 3 1 (.slice (some ⟨w.heap.size, 0, none⟩) N N) (endsI l N).length (icells (endsI l N)) := by
    refine ⟨by rw [icells_length, endsI_len, Nat.mul_one], .inr ⟨w.heap.size, N, _, by rw [endsI_len], Nat.le_refl _, hg2, by rw [endsI_len]; exact Nat.le_refl _, by simp only [maxLen]; omega, by simp [icells_length, endsI_len], ?_⟩⟩
    rw [endsI_len, List.take_of_length_le (by simp [icells_length, endsI_len])]
  have HX := Lib.hid (And.intro ho (HW.out.1.trans hm2 (fun k hk => .inr (by omega)))); clear hg2 hm2 ho
  go_wp2_with fail
  refine (sort_own HX.out.1 (by rw [endsI_len]; omega)).mono ?_
  rintro e w3 ⟨rfl, ho3, hm3⟩
  have hsl : (sortI (endsI l N)).length = N := by rw [sortI_len, endsI_len]
  have hcell : w3.cell? ⟨w.heap.size, F, none⟩ = some (.int .i64 ((sortI (endsI l N)).getD F 0)) := by
    have := World.ownsRow.cells ho3 (g := w.heap.size) rfl F (.int .i64 ((sortI (endsI l N)).getD F 0))
    rw [show (⟨w.heap.size, F, none⟩ : Addr) = (⟨w.heap.size, 0, none⟩ : Addr).add F from (agg_at _ _).symm]
    refine this ?_
    simp [icells, List.getElem?_eq_getElem (show F < (sortI (endsI l N)).length by omega)]
  have HY := Lib.hid (HX.out.2.trans hm3 (fun k hk => .inr (by simp only [Value.ownBlock, Option.some.injEq] at hk; omega))); clear ho3 hm3 hsl
  have hidx : (N : Int) - 1 - (F : Int) = (F : Int) := by omega
  have HFw := Lib.hid (HF.out w3)
  rw [← HQ.out] at hcell
  clear hFF
  go_wp2_with fail
  refine HFw.out.mono ?_
  rintro e w4 ⟨rfl, rfl⟩
  go_wp2_with fail
  go_ret
  exact ⟨rfl, HY.out⟩
set_option maxRecDepth 100000 in
theorem agreed_no (A : Option Addr) (k c : Nat) (l : List Int) (n : Int) (w : World) (hs : sizeB n = false) :
    Calls Try.prog 17 #[.slice A k c, .int .i64 n] w fun e w' => e = .returned (.int .i64 (agreedI l n)) ∧ Mod (fun _ => False) w w' := by
  have HS := Lib.hid (size_any n w)
  rw [hs] at HS
  have HB : Hid (agreedI l n = 0) := by show agreedI l n = 0; unfold agreedI; rw [hs]; rfl
  clear hs
  go_enter Try.func17, Try.ntmps17
  go_wp2_with fail
  refine HS.out.mono ?_
  rintro e w' ⟨rfl, rfl⟩
  go_wp2_with fail
  go_ret
  exact ⟨by rw [HB.out]; rfl, .refl _ _⟩
theorem agreed_any (A : Option Addr) (k c : Nat) (l : List Int) (n : Int) (ok : Nat → Prop) (w : World) (h : intsR.rel w ok [.slice A k c] l) :
    Calls Try.prog 17 #[.slice A k c, .int .i64 n] w fun e w' => e = .returned (.int .i64 (agreedI l n)) ∧ Mod (fun _ => False) w w' := by
  cases hs : sizeB n with
  | false => exact agreed_no A k c l n w hs
  | true =>
    obtain rfl : k = l.length := (getI_case h 0).1
    have hn := sizeB_cases hs
    have e : agreedI l n = (sortI (endsI l n.toNat)).getD (n.toNat / 2) 0 := by unfold agreedI; rw [hs]; rfl
    rw [e]
    have hsz : ∀ w, Calls Try.prog 18 #[.int .i64 n] w fun e w' => e = .returned (.bool true) ∧ w = w' := fun w => hs ▸ size_any n w
    have hfa : ∀ w, Calls Try.prog 16 #[.int .i64 n] w fun e w' => e = .returned (.int .i64 (n / 2)) ∧ w = w' := fun w => by
      have := faults_any n w
      rwa [show faultsI n = n / 2 by unfold faultsI; rw [hs]; rfl] at this
    rcases hn with rfl | rfl | rfl
    · exact agreed_key A c l 3 1 ok w h (by omega) (fun w => by kernel_rfl) hsz hfa
    · exact agreed_key A c l 5 2 ok w h (by omega) (fun w => by kernel_rfl) hsz hfa
    · exact agreed_key A c l 7 3 ok w h (by omega) (fun w => by kernel_rfl) hsz hfa
end Go.Proofs.Ytgdadhpcooegnaa
