/- Layer 5, cats: strings.Cut at one byte; strings.SplitSeq at ".". -/
import Derived.Test.YtgdadhpcooegnaaDoorCats0
import Derived.Test.YtgdadhpcooegnaaDoorSplit
namespace Go.Proofs.YtgdadhpcooegnaaDoor
open Go.RowKit
set_option linter.unusedVariables false
theorem cell_of_box_l {W : World} {B : Nat} {v : Value} {t : TypeId} (h : W.heap[B]? = some (.cells #[v] t (0, 0))) : W.cell? ⟨B, 0, none⟩ = some v ∧ W.frozen? ⟨B, 0, none⟩ = false := by
  constructor <;> simp [World.cell?, World.frozen?, h]
theorem cell_new_l (W : World) (v : Value) (t : TypeId) : (W.alloc (.cells #[v] t)).cell? ⟨W.heap.size, 0, none⟩ = some v ∧ (W.alloc (.cells #[v] t)).frozen? ⟨W.heap.size, 0, none⟩ = false :=
  cell_of_box_l (World.alloc_heap_new W _)
theorem cell_alloc_l {W : World} {a : Addr} {v : Value} (o : Obj) (h : W.cell? a = some v) : (W.alloc o).cell? a = some v := cell_kept h (World.grownBy_alloc W o none) (fun r e => by cases e)
theorem frozen_alloc_l {W : World} {a : Addr} {v : Value} (o : Obj) (h : W.cell? a = some v) (hf : W.frozen? a = false) : (W.alloc o).frozen? a = false := (frozen_kept h (World.grownBy_alloc W o none) (fun r e => by cases e)).trans hf
def cutB (c : UInt8) (l : List UInt8) : List UInt8 × List UInt8 × Bool := if Lib.indexByte l c = -1 then (l, [], false) else (l.take (Lib.indexByte l c).toNat, l.drop ((Lib.indexByte l c).toNat + 1), true)
set_option maxRecDepth 100000 in
set_option maxHeartbeats 1000000 in
theorem cut_lite (l : List UInt8) (c : UInt8) (hl : l.length ≤ 140737488355328) (w : World) :
    Calls Tryd.prog 36 #[.string ⟨l.toArray⟩, .string ⟨#[c]⟩] w fun r w' => r = .returned (.tuple #[encS (cutB c l).1, encS (cutB c l).2.1, .bool (cutB c l).2.2]) ∧ Mod (fun _ => False) w w' := by
  go_enter Tryd.func36, Tryd.ntmps36
  unfold cutB encS
  by_cases hi : Lib.indexByte l c = -1
  · rw [if_pos hi]
    go_wp2_with fail
    refine (Tryd.stringslite_Index_one ⟨l.toArray⟩ c w).mono ?_
    rintro e w1 ⟨rfl, rfl⟩
    dsimp only; rw [hi]
    go_wp2_with fail
    go_ret3
    exact ⟨rfl, .refl _ _⟩
  · rw [if_neg hi]
    obtain ⟨i, hii⟩ : ∃ i : Nat, Lib.indexByte l c = i := ⟨(Lib.indexByte l c).toNat, by have := Lib.indexByte_ge l c; omega⟩
    obtain ⟨hir, -⟩ := index_yes hii
    have hsl := encS_take l i (by omega)
    have hsd := encS_drop l (i + 1)
    go_wp2_with fail
    refine (Tryd.stringslite_Index_one ⟨l.toArray⟩ c w).mono ?_
    rintro e w1 ⟨rfl, rfl⟩
    dsimp only; rw [hii]
    go_wp2_with fail
    go_quiet (fail)
    go_wp2_with fail
    go_ret3
    exact ⟨by simp, (Mod.refl _ _).drewN _⟩
set_option maxRecDepth 100000 in
theorem cut_any (l : List UInt8) (c : UInt8) (hl : l.length ≤ 140737488355328) (w : World) :
    Calls Tryd.prog 18 #[.string ⟨l.toArray⟩, .string ⟨#[c]⟩] w fun r w' => r = .returned (.tuple #[encS (cutB c l).1, encS (cutB c l).2.1, .bool (cutB c l).2.2]) ∧ Mod (fun _ => False) w w' := by
  go_enter Tryd.func18, Tryd.ntmps18
  go_wp2_with fail
  refine (cut_lite l c hl w).mono ?_
  rintro e w1 ⟨rfl, hm⟩
  have H1 := Lib.hid hm; clear hm
  go_wp2_with fail
  go_ret3
  exact ⟨rfl, H1.out⟩
/-- What SplitSeq hands back: its closure over its own three cells. -/
def splitV (b : Nat) : Value := .func (.func 50) #[] #[.pointer (some ⟨b + 1, 0, none⟩), .pointer (some ⟨b, 0, none⟩), .pointer (some ⟨b + 2, 0, none⟩)]
structure SplitAt (w : World) (b : Nat) (s : List UInt8) : Prop where
  s : w.cell? ⟨b, 0, none⟩ = some (encS s)
  fs : w.frozen? ⟨b, 0, none⟩ = false
  p : w.cell? ⟨b + 1, 0, none⟩ = some (.string ⟨#[46]⟩)
  v : w.cell? ⟨b + 2, 0, none⟩ = some (.int .i64 0)
set_option maxRecDepth 100000 in
theorem splitSeq_any (l : List UInt8) (w : World) :
    Calls Tryd.prog 38 #[.string ⟨l.toArray⟩, .string ⟨#[46]⟩, .int .i64 0] w fun r w' => ∃ b, r = .returned (splitV b) ∧ w.heap.size ≤ b ∧ SplitAt w' b l ∧ Mod (fun _ => False) w w' := by
  go_enter Tryd.func38, Tryd.ntmps38
  go_wp2_with fail
  go_ret
  have c0 := cell_new_l w (.string ⟨l.toArray⟩) 9
  have c1 := cell_new_l (w.alloc (.cells #[.string ⟨l.toArray⟩] 9)) (.string ⟨#[46]⟩) 9
  have c2 := cell_new_l ((w.alloc (.cells #[.string ⟨l.toArray⟩] 9)).alloc (.cells #[.string ⟨#[46]⟩] 9)) (.int .i64 0) 3
  simp only [World.size_alloc] at c1 c2
  exact ⟨w.heap.size, rfl, Nat.le_refl _, ⟨cell_alloc_l _ (cell_alloc_l _ c0.1), frozen_alloc_l _ (cell_alloc_l _ c0.1) (frozen_alloc_l _ c0.1 c0.2), cell_alloc_l _ c1.1, c2.1⟩, (((Mod.refl _ w).alloc _).alloc _).alloc _⟩
set_option maxRecDepth 100000 in
theorem SplitSeq_any (l : List UInt8) (w : World) :
    Calls Tryd.prog 20 #[.string ⟨l.toArray⟩, .string ⟨#[46]⟩] w fun r w' => ∃ b, r = .returned (splitV b) ∧ w.heap.size ≤ b ∧ SplitAt w' b l ∧ Mod (fun _ => False) w w' := by
  go_enter Tryd.func20, Tryd.ntmps20
  go_wp2_with fail
  refine (splitSeq_any l w).mono ?_
  rintro e w1 ⟨b, rfl, hb, hs, hm⟩
  have H1 := Lib.hid (And.intro hb (And.intro hs hm)); clear hb hs hm
  go_wp2_with fail
  go_ret
  exact ⟨b, rfl, H1.out⟩
end Go.Proofs.YtgdadhpcooegnaaDoor
