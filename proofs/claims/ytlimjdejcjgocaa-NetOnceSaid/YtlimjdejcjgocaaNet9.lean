/- Layer 29: slices.Values of a queue, an iterator; slices.AppendSeq, Collect. -/
import Derived.Test.YtlimjdejcjgocaaNet8
import Derived.Test.YtlimjdejcjgocaaAggIn
import Derived.Test.YtlimjdejcjgocaaRange
import Derived.RangeFuncNested
import Derived.RangeFuncBound
import Derived.RangeFuncCalls
import Derived.RangeFuncLeaves
import Derived.Shelf.Abstract
import Derived.Shelf.RegionOpen
import Derived.OwnWalkIn
import Derived.TacticsInMore
import Derived.LoopNIn
import Derived.LoopIn
namespace Go.Proofs.Ytlimjdejcjgocaa
open Go.RowKit Go.Shelf
attribute [local go_sem] Oper.semAt_some
set_option linter.unusedVariables false
def encP (p : Pk) : Value := .agg p.cells.toArray
theorem values_mk (A : Option Addr) (n c : Nat) (w : World) :
    Calls Try.prog 23 #[.slice A n c] w fun e w' => ∃ b, e = .returned (.func (.func 30) #[] #[.pointer (some ⟨b, 0, none⟩)]) ∧ w.heap.size ≤ b ∧ w'.heap[b]? = some (.cells #[.slice A n c] 45 (0, 0)) ∧ Mod (fun _ => False) w w' := by
  go_enter Try.func23, Try.ntmps23
  go_wp2
  go_ret
  exact ⟨w.heap.size, rfl, Nat.le_refl _, heap_alloc_new w _, (Mod.refl (fun _ => False) w).alloc _⟩
set_option maxRecDepth 100000 in
set_option maxHeartbeats 1000000 in
theorem values_st (n : Nat) (hn : 1 ≤ n) (Bq gq cap : Nat) (xs : List Pk) (W : World) (hq : W.cell? ⟨Bq, 0, none⟩ = some (.slice (some ⟨gq, 0, none⟩) xs.length cap)) (hr : QRow W gq cap xs) (hl : xs.length ≤ 1000000) :
    SeqSt Fence.wide n Try.prog 30 #[.pointer (some ⟨Bq, 0, none⟩)] encP Bq (fun k => k = Bq ∨ k = gq) xs W := by
  intro l J Jx hJ hJx hY h0
  refine callsIn_of_wp Try.func30 rfl trivial ?_ rfl
  simp only [Try.ntmps30, List.size_toArray, List.length_cons, List.length_nil, Nat.reduceAdd, Nat.reduceSub, Array.replicate_succ, Array.replicate_zero, List.push_toArray, List.append_toArray, List.nil_append, List.cons_append]
  have HR := Lib.hid hr; clear hr
  gi_wp2
  gi_loopw [7] (fun i wr => ∃ k : Nat, i = .int .i64 k ∧ k ≤ xs.length ∧ J (xs.take k) wr ∧ QRow wr gq cap xs)
    (fun i _ => xs.length - (intOf i).toNat)
  case atStart => exact ⟨0, rfl, Nat.zero_le _, h0, HR.out⟩
  case round =>
    obtain ⟨k, rfl, hk, hJ1, hr1⟩ := hrel
    by_cases hlt : k < xs.length
    · obtain ⟨p, hp⟩ : ∃ p, xs[k]? = some p := ⟨_, List.getElem?_eq_getElem hlt⟩
      have htk : xs.take (k + 1) = xs.take k ++ [p] := by rw [List.take_add_one, hp]; rfl
      have HP := Lib.hid (And.intro hp (And.intro htk (And.intro hr1 hJ1))); clear hp htk hr1 hJ1
      have R4 : Hid (∀ j u, p.cells[j]? = some u → wr.cell? ((⟨gq, k * 4, none⟩ : Addr).add j) = some u) := Lib.hid (fun j u hj => by
        rw [add_own, HP.out.2.2.1.cell HP.out.1 j (by have := (List.getElem?_eq_some_iff.1 hj).1; simpa [Pk.cells] using this)]; exact hj)
      have hb4 : (wr.alloc (.cells p.cells.toArray 35)).heap[wr.heap.size]? = some (.cells p.cells.toArray 35 (0, 0)) := heap_alloc_new wr _
      have M4 : ∀ S, Mod S wr (wr.alloc (.cells p.cells.toArray 35)) := fun S => (Mod.refl S wr).alloc _
      obtain ⟨fn, tmps, assign, body, hy, hY1⟩ := hY (xs.take k) p (wr.alloc (.cells p.cells.toArray 35)) (hJ _ _ _ HP.out.2.2.2 (M4 _)) (by rw [← HP.out.2.1]; exact List.take_prefix _ _)
      dsimp only [encP] at hy
      have HB4 := Lib.hid (And.intro hb4 M4); clear hb4 M4
      gi_wp2_with (first
        | (refine wpListIn_load_agg rfl 35 (.tmp 9) rfl Try.underlying35 Try.info_pk1 ⟨gq, k * 4, none⟩ rfl p.cells rfl (fun j u hj => R4.out j u hj) ?_)
        | (refine wpListIn_alloc_agg rfl 35 rfl zeroPk.toArray (by kernel_rfl) ?_)
        | (refine wpListIn_store_new rfl 35 _ _ rfl 35 zeroPk.toArray p.cells rfl rfl Try.info_pk1 rfl (pk_one p) ?_)
        | (refine wpListIn_load_agg rfl 35 (.tmp 4) rfl Try.underlying35 Try.info_pk1 ⟨wr.heap.size, 0, none⟩ rfl p.cells rfl (fun j u hj => by rw [agg_at, cell_of_blk HB4.out.1]; simpa using hj) ?_))
      refine hY1.mono ?_
      rintro e W3 (⟨rfl, hJ3, hk3⟩ | ⟨rfl, hJx3⟩)
      · have hr3 : QRow W3 gq cap xs := (HP.out.2.2.1.move ((HB4.out.2 (fun _ => False)).block gq HP.out.2.2.1.lt id)).move (hk3.block gq (Nat.lt_of_lt_of_le HP.out.2.2.1.lt (HB4.out.2 (fun _ => False)).size) (by simp))
        have H3 := Lib.hid (And.intro hJ3 hr3); clear hJ3 hr3 hk3 hY
        gi_wp2
        refine ⟨⟨k + 1, by go_num, by omega, by rw [HP.out.2.1]; exact H3.out.1, H3.out.2⟩, by simp [intOf]; omega⟩
      · clear hY
        gi_wp2
        refine bodyPost_ret (results_none rfl _ _ _) rfl ?_
        exact ⟨⟨_, rfl⟩, .inr ⟨xs.take k ++ [p], by rw [← HP.out.2.1]; exact List.take_prefix _ _, hJx3⟩⟩
    · obtain rfl : k = xs.length := by omega
      have HP := Lib.hid (And.intro hJ1 hr1); clear hJ1 hr1
      gi_wp2
      go_end0
      exact ⟨⟨_, rfl⟩, .inl (by have := HP.out.1; rwa [List.take_length] at this)⟩
end Go.Proofs.Ytlimjdejcjgocaa
