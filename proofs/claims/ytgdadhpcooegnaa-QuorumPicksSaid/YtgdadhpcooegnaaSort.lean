/- slices.Sort and slices.Compact of []int at rows of the call's own, by the shelf's contracts. -/
import Derived.Test.YtgdadhpcooegnaaQuorum0
import Derived.Test.YtgdadhpcooegnaaShelf
import Derived.Lib.SlKeysI
import Derived.Lib.OwnBridge
namespace Go.Proofs.Ytgdadhpcooegnaa
open Go.RowKit
set_option linter.unusedVariables false
def sortI (l : List Int) : List Int := l.mergeSort fun x y => decide (x ≤ y)
theorem sortI_len (l : List Int) : (sortI l).length = l.length := List.length_mergeSort _
theorem sortI_mem {l : List Int} {x : Int} : x ∈ sortI l ↔ x ∈ l := List.mem_mergeSort
theorem sort_own {w : World} {base : Nat} {v : Value} {zs : List Int} (h : w.ownsRow base 3 1 v zs.length (icells zs)) (hl : zs.length < 4611686018427387904) :
    Calls Try.prog 45 #[v] w fun e w' => e = .returned (.tuple #[]) ∧ w'.ownsRow base 3 1 v zs.length (icells (sortI zs)) ∧ Mod (fun k => v.ownBlock = some k) w w' := by
  rcases h.2 with ⟨rfl, hz⟩ | ⟨g, cap, cur, rfl, hb, hg, hn, hm, hs, ht⟩
  · have hz0 : zs = [] := List.eq_nil_of_length_eq_zero hz
    subst hz0
    refine (Try.slices_Sort_int_none none 0 w).mono ?_
    rintro e w' ⟨rfl, rfl⟩
    exact ⟨rfl, by simpa [sortI] using h, .refl _ _⟩
  · have hH := holds_of_block_i (ss := zs) hg (by rw [Nat.mul_one] at ht; exact ht)
    refine (Try.slices_Sort_int g 0 cap zs w hH (lt_of_blk hg) hl).mono ?_
    rintro e w' ⟨rfl, n, os, rfl⟩
    refine ⟨rfl, ownsRow_sorted_i (ts := sortI zs) (sortI_len zs) hb hg hn hm hs, ?_⟩
    exact (Mod.refl (fun k => (Value.slice (some ⟨g, 0, none⟩) zs.length cap).ownBlock = some k) w).grown (grownBy_sorted_i _) (fun k hk => .inl (by rw [hk]; rfl))
theorem compact_len_le (zs : List Int) : (Lib.compact zs).length ≤ zs.length := by
  unfold Lib.compact Lib.compactUpTo
  rw [List.length_map]
  exact Nat.le_trans (List.length_filter_le _ _) (by simp)
theorem compact_own {w : World} {base : Nat} {v : Value} {zs : List Int} (h : w.ownsRow base 3 1 v zs.length (icells zs)) (hl : zs.length ≤ 1000000000) :
    Calls Try.prog 48 #[v] w fun e w' => ∃ A c, e = .returned (.slice A (Lib.compact zs).length c) ∧ w'.ownsRow base 3 1 (.slice A (Lib.compact zs).length c) (Lib.compact zs).length (icells (Lib.compact zs)) ∧ Mod (fun k => v.ownBlock = some k) w w' := by
  rcases h.2 with ⟨rfl, hz⟩ | ⟨g, cap, cur, rfl, hb, hg, hn, hm, hs, ht⟩
  · have hz0 : zs = [] := List.eq_nil_of_length_eq_zero hz
    subst hz0
    refine (Try.slices_Compact_int_empty none 0 w).mono ?_
    rintro e w' ⟨rfl, rfl⟩
    exact ⟨none, 0, rfl, h, .refl _ _⟩
  · have hH := holds_of_block_i (ss := zs) hg (by rw [Nat.mul_one] at ht; exact ht)
    have hle : (Lib.compact zs).length ≤ zs.length := compact_len_le zs
    refine (Try.slices_Compact_int g 0 cap zs w hH (by omega) hn).mono ?_
    rintro e w' ⟨rfl, q, rfl⟩
    have ho := Lib.ownsRow_putRow (enc := Value.int .i64) (q := q) (ys := Lib.compact zs ++ List.replicate (zs.length - (Lib.compact zs).length) 0) (k := (Lib.compact zs).length) h (by simp; omega) hle
    rw [List.take_left] at ho
    refine ⟨_, cap, rfl, ho, ?_⟩
    have := grownBy_sorted_i (w := w) (g := g) (n := q) (os := #[]) (Lib.compact zs ++ List.replicate (zs.length - (Lib.compact zs).length) 0).toArray
    rw [Sort.grow_empty] at this
    exact (Mod.refl (fun k => (Value.slice (some ⟨g, 0, none⟩) zs.length cap).ownBlock = some k) w).grown this (fun k hk => .inl (by rw [hk]; rfl))
end Go.Proofs.Ytgdadhpcooegnaa
