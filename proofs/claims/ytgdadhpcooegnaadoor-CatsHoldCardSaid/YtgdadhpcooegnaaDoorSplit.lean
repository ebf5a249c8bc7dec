/- strings.SplitSeq at one byte: what it is split into; its iterator keeps the contract. -/
import Derived.Test.YtgdadhpcooegnaaDoorRange
import Derived.Test.YtgdadhpcooegnaaDoorShelf
import Derived.RangeFuncNested
import Derived.RangeFuncBound
import Derived.RangeFuncCalls
import Derived.RangeFuncLeaves
import Derived.Shelf.Abstract
import Derived.Shelf.RegionOpen
import Derived.WalkKit
import Derived.OwnWalkIn
import Derived.TacticsInMore
import Derived.LoopNIn
import Derived.LoopIn
import Derived.Deep.RegionHeld
namespace Go.Proofs.YtgdadhpcooegnaaDoor
open Go.RowKit Go.Shelf
set_option linter.unusedVariables false
attribute [local go_sem] Oper.semAt_some
def splitB (c : UInt8) : List UInt8 → List (List UInt8)
  | [] => [[]]
  | b :: l => if b == c then [] :: splitB c l else match splitB c l with
    | [] => [[b]]
    | p :: ps => (b :: p) :: ps
theorem splitB_ne (c : UInt8) (l : List UInt8) : splitB c l ≠ [] := by
  cases l with
  | nil => simp [splitB]
  | cons b l => unfold splitB; split; · simp
                split <;> simp
theorem splitB_yes {c b : UInt8} (l : List UInt8) (h : (b == c) = true) : splitB c (b :: l) = [] :: splitB c l := by rw [splitB]; rw [if_pos h]
theorem splitB_no {c b : UInt8} {l p : List UInt8} {ps : List (List UInt8)} (h : ¬ (b == c) = true) (hs : splitB c l = p :: ps) : splitB c (b :: l) = (b :: p) :: ps := by rw [splitB]; rw [if_neg h, hs]
theorem index_no {c : UInt8} : ∀ {l : List UInt8}, Lib.indexByte l c = -1 → splitB c l = [l]
  | [], _ => rfl
  | b :: l, h => by
    unfold Lib.indexByte at h
    by_cases hb : (b == c) = true
    · rw [if_pos hb] at h; cases h
    · rw [if_neg hb] at h
      by_cases hi : Lib.indexByte l c == -1
      · exact splitB_no hb (index_no (l := l) (by simpa using hi))
      · rw [if_neg hi] at h
        have := Lib.indexByte_ge l c
        exact absurd (by simpa using hi : Lib.indexByte l c ≠ -1) (by omega)
theorem index_yes {c : UInt8} : ∀ {l : List UInt8} {i : Nat}, Lib.indexByte l c = (i : Int) → i < l.length ∧ splitB c l = l.take i :: splitB c (l.drop (i + 1))
  | [], i, h => by simp [Lib.indexByte] at h
  | b :: l, i, h => by
    unfold Lib.indexByte at h
    by_cases hb : (b == c) = true
    · rw [if_pos hb] at h
      obtain rfl : i = 0 := by omega
      exact ⟨by simp, by rw [splitB_yes l hb]; simp⟩
    · rw [if_neg hb] at h
      by_cases hi : (Lib.indexByte l c == -1) = true
      · rw [if_pos hi] at h; omega
      · rw [if_neg hi] at h
        have h3 := Lib.indexByte_ge l c
        have hi' : Lib.indexByte l c ≠ -1 := by simpa using hi
        have hj : Lib.indexByte l c = ((Lib.indexByte l c).toNat : Int) := by omega
        obtain ⟨j, hjj⟩ : ∃ j, j = (Lib.indexByte l c).toNat := ⟨_, rfl⟩
        rw [← hjj] at hj
        obtain rfl : i = j + 1 := by omega
        obtain ⟨h1, h2⟩ := index_yes hj
        refine ⟨by simp; exact h1, ?_⟩
        rw [splitB_no hb h2]; simp
theorem cell_lt {w : World} {b o : Nat} {v : Value} (h : w.cell? ⟨b, o, none⟩ = some v) : b < w.heap.size := by
  by_cases hb : b < w.heap.size
  · exact hb
  · have : w.heap[b]? = none := by simp; omega
    simp [World.cell?, this] at h
def encS (x : List UInt8) : Value := .string ⟨x.toArray⟩
theorem encS_take (l : List UInt8) (i : Nat) (h : i ≤ l.length) : (⟨l.toArray⟩ : ByteArray).extract 0 i = ⟨(l.take i).toArray⟩ := by simp [ByteArray.extract_mk]
theorem encS_drop (l : List UInt8) (i : Nat) : (⟨l.toArray⟩ : ByteArray).extract i l.length = ⟨(l.drop i).toArray⟩ := by simp [ByteArray.extract_mk, List.take_of_length_le]
set_option maxRecDepth 100000 in
set_option maxHeartbeats 1000000 in
theorem split_st (n : Nat) (hn : 1 ≤ n) (Bs Bp Bv : Nat) (s : List UInt8) (W : World) (hs : W.cell? ⟨Bs, 0, none⟩ = some (encS s)) (hfs : W.frozen? ⟨Bs, 0, none⟩ = false) (hp : W.cell? ⟨Bp, 0, none⟩ = some (.string ⟨#[46]⟩)) (hv : W.cell? ⟨Bv, 0, none⟩ = some (.int .i64 0))
    (hB : Bs ≠ Bp ∧ Bs ≠ Bv) (hl : s.length ≤ 140737488355328) :
    SeqSt Fence.wide n Tryd.prog 50 #[.pointer (some ⟨Bp, 0, none⟩), .pointer (some ⟨Bs, 0, none⟩), .pointer (some ⟨Bv, 0, none⟩)] encS Bs (fun k => k = Bs ∨ k = Bp ∨ k = Bv) (splitB 46 s) W := by
  intro l J Jx hJ hJx hY h0
  refine callsIn_of_wp Tryd.func50 rfl trivial ?_ rfl
  simp only [Tryd.ntmps50, List.size_toArray, List.length_cons, List.length_nil, Nat.reduceAdd, Nat.reduceSub, Array.replicate_succ, Array.replicate_zero, List.push_toArray, List.append_toArray, List.nil_append, List.cons_append]
  gi_wp2
  gi_loopw [7] (fun _ wr => ∃ (pre : List (List UInt8)) (rest : List UInt8), splitB 46 s = pre ++ splitB 46 rest ∧ rest.length ≤ 140737488355328 ∧ J pre wr ∧ wr.cell? ⟨Bs, 0, none⟩ = some (encS rest) ∧ wr.frozen? ⟨Bs, 0, none⟩ = false ∧ wr.cell? ⟨Bp, 0, none⟩ = some (.string ⟨#[46]⟩) ∧ wr.cell? ⟨Bv, 0, none⟩ = some (.int .i64 0))
    (fun _ wr => match wr.cell? ⟨Bs, 0, none⟩ with | some (.string b) => b.size | _ => 0)
  case atStart => exact ⟨[], s, rfl, hl, h0, hs, hfs, hp, hv⟩
  case round =>
    obtain ⟨pre, rest, hsp, hlr, hJ1, hs1, hfs1, hp1, hv1⟩ := hrel
    by_cases hi : Lib.indexByte rest 46 = -1
    · obtain ⟨fn, tmps, assign, body, hy, hR⟩ := hY pre rest wr hJ1 (by rw [hsp, index_no hi]; exact List.prefix_refl _)
      dsimp only [encS] at hy hs1
      gi_wp2_with (refine ⟨trivial, ?_⟩; gi_at_call 52; refine (callsIn_wide.2 (Tryd.strings_Index_one ⟨rest.toArray⟩ 46 wr)).mono ?_; rintro e w1 ⟨rfl, rfl⟩; dsimp only; rw [hi])
      refine hR.mono ?_
      rintro e W3 (⟨rfl, hJ3, hk3⟩ | ⟨rfl, hJx3⟩)
      · gi_wp2
        go_end0
        exact ⟨⟨_, rfl⟩, .inl (by rw [hsp, index_no hi]; exact hJ3)⟩
      · gi_wp2
        go_end0
        exact ⟨⟨_, rfl⟩, .inr ⟨pre ++ [rest], by rw [hsp, index_no hi]; exact List.prefix_refl _, hJx3⟩⟩
    · obtain ⟨i, hii⟩ : ∃ i : Nat, Lib.indexByte rest 46 = i := ⟨(Lib.indexByte rest 46).toNat, by have := Lib.indexByte_ge rest 46; omega⟩
      obtain ⟨hir, hsx⟩ := index_yes hii
      obtain ⟨fn, tmps, assign, body, hy, hR⟩ := hY pre (rest.take i) wr hJ1 (by rw [hsp, hsx]; exact ⟨splitB 46 (rest.drop (i + 1)), by simp⟩)
      dsimp only [encS] at hy hs1
      have hc1 : ((i : Int) + 0) = (i : Int) := by omega
      have hsl := encS_take rest i (by omega)
      have hsd := encS_drop rest (i + 1)
      gi_wp2_with (refine ⟨trivial, ?_⟩; gi_at_call 52; refine (callsIn_wide.2 (Tryd.strings_Index_one ⟨rest.toArray⟩ 46 wr)).mono ?_; rintro e w1 ⟨rfl, rfl⟩; dsimp only; rw [hii])
      refine hR.mono ?_
      rintro e W3 (⟨rfl, hJ3, hk3⟩ | ⟨rfl, hJx3⟩)
      · have hlt : ∀ {b : Nat} {v : Value}, w1.cell? ⟨b, 0, none⟩ = some v → b < w1.heap.size := fun h => cell_lt h
        have hs3 : W3.cell? ⟨Bs, 0, none⟩ = some (.string ⟨rest.toArray⟩) := (hk3.cell (hlt hs1) (by simp)).trans hs1
        have hfs3 : W3.frozen? ⟨Bs, 0, none⟩ = false := (hk3.frozen (hlt hs1) (by simp)).trans hfs1
        have hp3 : W3.cell? ⟨Bp, 0, none⟩ = some (.string ⟨#[46]⟩) := (hk3.cell (hlt hp1) (by simp)).trans hp1
        have hv3 : W3.cell? ⟨Bv, 0, none⟩ = some (.int .i64 0) := (hk3.cell (hlt hv1) (by simp)).trans hv1
        gi_wp2
        have hcn : (W3.setCell ⟨Bs, 0, none⟩ (.string ⟨(rest.drop (i + 1)).toArray⟩)).cell? ⟨Bs, 0, none⟩ = some (.string ⟨(rest.drop (i + 1)).toArray⟩) := World.cell?_setCell_same' _ _ _ (by rw [hs3]; rfl)
        refine ⟨⟨pre ++ [rest.take i], rest.drop (i + 1), by rw [hsp, hsx]; simp, by simp; omega, hJ _ _ _ hJ3 (Mod.setCell (a := ⟨Bs, 0, none⟩) (Mod.refl (fun k => k = Bs) W3) (.inl rfl) _), hcn, by rw [World.frozen?_setCell]; exact hfs3, ?_, ?_⟩, ?_⟩
        · rw [World.cell?_setCell_far _ _ _ _ hB.1]; exact hp3
        · rw [World.cell?_setCell_far _ _ _ _ hB.2]; exact hv3
        · rw [hcn, hs1]; simp [ByteArray.size]; omega
      · gi_wp2
        refine bodyPost_ret (results_none rfl _ _ _) rfl ?_
        exact ⟨⟨_, rfl⟩, .inr ⟨pre ++ [rest.take i], by rw [hsp, hsx]; exact ⟨splitB 46 (rest.drop (i + 1)), by simp⟩, hJx3⟩⟩
end Go.Proofs.YtgdadhpcooegnaaDoor
