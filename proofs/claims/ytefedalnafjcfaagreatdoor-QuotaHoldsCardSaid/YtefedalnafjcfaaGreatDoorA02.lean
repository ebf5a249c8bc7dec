/- Part of this claim's proof (texts Split, Cats1, Ints, Cats2, joined by program). -/
import Derived.RangeFuncNested
import Derived.RangeFuncBound
import Derived.RangeFuncCalls
import Derived.RangeFuncLeaves
import Derived.Shelf.Abstract
import Derived.Shelf.RegionOpen
import Derived.WalkKit
import Derived.OwnWalkIn
import Derived.TacticsInMore
import Derived.LoopNIn
import Derived.LoopIn
import Derived.Deep.RegionHeld
import Derived.Test.YtefedalnafjcfaaGreatDoorA01
import Derived.Test.YtefedalnafjcfaaGreatDoorA00
import Derived.Maps.AppendAt
namespace Go.Proofs.YtefedalnafjcfaaGreatDoor
open Go.RowKit Go.Shelf
set_option linter.unusedVariables false
attribute [local go_sem] Oper.semAt_some
def splitB (c : UInt8) : List UInt8 → List (List UInt8)
  | [] => [[]]
  | b :: l => if b == c then [] :: splitB c l else match splitB c l with
    | [] => [[b]]
    | p :: ps => (b :: p) :: ps
theorem splitB_ne (c : UInt8) (l : List UInt8) : splitB c l ≠ [] := by
  cases l with
  | nil => simp [splitB]
  | cons b l => unfold splitB; split; · simp
                split <;> simp
theorem splitB_yes {c b : UInt8} (l : List UInt8) (h : (b == c) = true) : splitB c (b :: l) = [] :: splitB c l := by rw [splitB]; rw [if_pos h]
theorem splitB_no {c b : UInt8} {l p : List UInt8} {ps : List (List UInt8)} (h : ¬ (b == c) = true) (hs : splitB c l = p :: ps) : splitB c (b :: l) = (b :: p) :: ps := by rw [splitB]; rw [if_neg h, hs]
theorem index_no {c : UInt8} : ∀ {l : List UInt8}, Lib.indexByte l c = -1 → splitB c l = [l]
  | [], _ => rfl
  | b :: l, h => by
    unfold Lib.indexByte at h
    by_cases hb : (b == c) = true
    · rw [if_pos hb] at h; cases h
    · rw [if_neg hb] at h
      by_cases hi : Lib.indexByte l c == -1
      · exact splitB_no hb (index_no (l := l) (by simpa using hi))
      · rw [if_neg hi] at h
        have := Lib.indexByte_ge l c
        exact absurd (by simpa using hi : Lib.indexByte l c ≠ -1) (by omega)
theorem index_yes {c : UInt8} : ∀ {l : List UInt8} {i : Nat}, Lib.indexByte l c = (i : Int) → i < l.length ∧ splitB c l = l.take i :: splitB c (l.drop (i + 1))
  | [], i, h => by simp [Lib.indexByte] at h
  | b :: l, i, h => by
    unfold Lib.indexByte at h
    by_cases hb : (b == c) = true
    · rw [if_pos hb] at h
      obtain rfl : i = 0 := by omega
      exact ⟨by simp, by rw [splitB_yes l hb]; simp⟩
    · rw [if_neg hb] at h
      by_cases hi : (Lib.indexByte l c == -1) = true
      · rw [if_pos hi] at h; omega
      · rw [if_neg hi] at h
        have h3 := Lib.indexByte_ge l c
        have hi' : Lib.indexByte l c ≠ -1 := by simpa using hi
        have hj : Lib.indexByte l c = ((Lib.indexByte l c).toNat : Int) := by omega
        obtain ⟨j, hjj⟩ : ∃ j, j = (Lib.indexByte l c).toNat := ⟨_, rfl⟩
        rw [← hjj] at hj
        obtain rfl : i = j + 1 := by omega
        obtain ⟨h1, h2⟩ := index_yes hj
        refine ⟨by simp; exact h1, ?_⟩
        rw [splitB_no hb h2]; simp
theorem cell_lt {w : World} {b o : Nat} {v : Value} (h : w.cell? ⟨b, o, none⟩ = some v) : b < w.heap.size := by
  by_cases hb : b < w.heap.size
  · exact hb
  · have : w.heap[b]? = none := by simp; omega
    simp [World.cell?, this] at h
def encS (x : List UInt8) : Value := .string ⟨x.toArray⟩
theorem encS_take (l : List UInt8) (i : Nat) (h : i ≤ l.length) : (⟨l.toArray⟩ : ByteArray).extract 0 i = ⟨(l.take i).toArray⟩ := by simp [ByteArray.extract_mk]
theorem encS_drop (l : List UInt8) (i : Nat) : (⟨l.toArray⟩ : ByteArray).extract i l.length = ⟨(l.drop i).toArray⟩ := by simp [ByteArray.extract_mk, List.take_of_length_le]
set_option maxRecDepth 100000 in
set_option maxHeartbeats 1000000 in
theorem split_st (n : Nat) (hn : 1 ≤ n) (Bs Bp Bv : Nat) (s : List UInt8) (W : World) (hs : W.cell? ⟨Bs, 0, none⟩ = some (encS s)) (hfs : W.frozen? ⟨Bs, 0, none⟩ = false) (hp : W.cell? ⟨Bp, 0, none⟩ = some (.string ⟨#[46]⟩)) (hv : W.cell? ⟨Bv, 0, none⟩ = some (.int .i64 0))
    (hB : Bs ≠ Bp ∧ Bs ≠ Bv) (hl : s.length ≤ 140737488355328) :
    SeqSt Fence.wide n Tryz.prog 118 #[.pointer (some ⟨Bp, 0, none⟩), .pointer (some ⟨Bs, 0, none⟩), .pointer (some ⟨Bv, 0, none⟩)] encS Bs (fun k => k = Bs ∨ k = Bp ∨ k = Bv) (splitB 46 s) W := by
  intro l J Jx hJ hJx hY h0
  refine callsIn_of_wp Tryz.func118 rfl trivial ?_ rfl
  simp only [Tryz.ntmps118, List.size_toArray, List.length_cons, List.length_nil, Nat.reduceAdd, Nat.reduceSub, Array.replicate_succ, Array.replicate_zero, List.push_toArray, List.append_toArray, List.nil_append, List.cons_append]
  gi_wp2
  gi_loopw [7] (fun _ wr => ∃ (pre : List (List UInt8)) (rest : List UInt8), splitB 46 s = pre ++ splitB 46 rest ∧ rest.length ≤ 140737488355328 ∧ J pre wr ∧ wr.cell? ⟨Bs, 0, none⟩ = some (encS rest) ∧ wr.frozen? ⟨Bs, 0, none⟩ = false ∧ wr.cell? ⟨Bp, 0, none⟩ = some (.string ⟨#[46]⟩) ∧ wr.cell? ⟨Bv, 0, none⟩ = some (.int .i64 0))
    (fun _ wr => match wr.cell? ⟨Bs, 0, none⟩ with | some (.string b) => b.size | _ => 0)
  case atStart => exact ⟨[], s, rfl, hl, h0, hs, hfs, hp, hv⟩
  case round =>
    obtain ⟨pre, rest, hsp, hlr, hJ1, hs1, hfs1, hp1, hv1⟩ := hrel
    by_cases hi : Lib.indexByte rest 46 = -1
    · obtain ⟨fn, tmps, assign, body, hy, hR⟩ := hY pre rest wr hJ1 (by rw [hsp, index_no hi]; exact List.prefix_refl _)
      dsimp only [encS] at hy hs1
      gi_wp2_with (refine ⟨trivial, ?_⟩; gi_at_call 120; refine (callsIn_wide.2 (Tryz.strings_Index_one ⟨rest.toArray⟩ 46 wr)).mono ?_; rintro e w1 ⟨rfl, rfl⟩; dsimp only; rw [hi])
      refine hR.mono ?_
      rintro e W3 (⟨rfl, hJ3, hk3⟩ | ⟨rfl, hJx3⟩)
      · gi_wp2
        go_end0
        exact ⟨⟨_, rfl⟩, .inl (by rw [hsp, index_no hi]; exact hJ3)⟩
      · gi_wp2
        go_end0
        exact ⟨⟨_, rfl⟩, .inr ⟨pre ++ [rest], by rw [hsp, index_no hi]; exact List.prefix_refl _, hJx3⟩⟩
    · obtain ⟨i, hii⟩ : ∃ i : Nat, Lib.indexByte rest 46 = i := ⟨(Lib.indexByte rest 46).toNat, by have := Lib.indexByte_ge rest 46; omega⟩
      obtain ⟨hir, hsx⟩ := index_yes hii
      obtain ⟨fn, tmps, assign, body, hy, hR⟩ := hY pre (rest.take i) wr hJ1 (by rw [hsp, hsx]; exact ⟨splitB 46 (rest.drop (i + 1)), by simp⟩)
      dsimp only [encS] at hy hs1
      have hc1 : ((i : Int) + 0) = (i : Int) := by omega
      have hsl := encS_take rest i (by omega)
      have hsd := encS_drop rest (i + 1)
      gi_wp2_with (refine ⟨trivial, ?_⟩; gi_at_call 120; refine (callsIn_wide.2 (Tryz.strings_Index_one ⟨rest.toArray⟩ 46 wr)).mono ?_; rintro e w1 ⟨rfl, rfl⟩; dsimp only; rw [hii])
      refine hR.mono ?_
      rintro e W3 (⟨rfl, hJ3, hk3⟩ | ⟨rfl, hJx3⟩)
      · have hlt : ∀ {b : Nat} {v : Value}, w1.cell? ⟨b, 0, none⟩ = some v → b < w1.heap.size := fun h => cell_lt h
        have hs3 : W3.cell? ⟨Bs, 0, none⟩ = some (.string ⟨rest.toArray⟩) := (hk3.cell (hlt hs1) (by simp)).trans hs1
        have hfs3 : W3.frozen? ⟨Bs, 0, none⟩ = false := (hk3.frozen (hlt hs1) (by simp)).trans hfs1
        have hp3 : W3.cell? ⟨Bp, 0, none⟩ = some (.string ⟨#[46]⟩) := (hk3.cell (hlt hp1) (by simp)).trans hp1
        have hv3 : W3.cell? ⟨Bv, 0, none⟩ = some (.int .i64 0) := (hk3.cell (hlt hv1) (by simp)).trans hv1
        gi_wp2
        have hcn : (W3.setCell ⟨Bs, 0, none⟩ (.string ⟨(rest.drop (i + 1)).toArray⟩)).cell? ⟨Bs, 0, none⟩ = some (.string ⟨(rest.drop (i + 1)).toArray⟩) := World.cell?_setCell_same' _ _ _ (by rw [hs3]; rfl)
        refine ⟨⟨pre ++ [rest.take i], rest.drop (i + 1), by rw [hsp, hsx]; simp, by simp; omega, hJ _ _ _ hJ3 (Mod.setCell (a := ⟨Bs, 0, none⟩) (Mod.refl (fun k => k = Bs) W3) (.inl rfl) _), hcn, by rw [World.frozen?_setCell]; exact hfs3, ?_, ?_⟩, ?_⟩
        · rw [World.cell?_setCell_far _ _ _ _ hB.1]; exact hp3
        · rw [World.cell?_setCell_far _ _ _ _ hB.2]; exact hv3
        · rw [hcn, hs1]; simp [ByteArray.size]; omega
      · gi_wp2
        refine bodyPost_ret (results_none rfl _ _ _) rfl ?_
        exact ⟨⟨_, rfl⟩, .inr ⟨pre ++ [rest.take i], by rw [hsp, hsx]; exact ⟨splitB 46 (rest.drop (i + 1)), by simp⟩, hJx3⟩⟩
end Go.Proofs.YtefedalnafjcfaaGreatDoor

namespace Go.Proofs.YtefedalnafjcfaaGreatDoor
open Go.RowKit
set_option linter.unusedVariables false
theorem cell_of_box_l {W : World} {B : Nat} {v : Value} {t : TypeId} (h : W.heap[B]? = some (.cells #[v] t (0, 0))) : W.cell? ⟨B, 0, none⟩ = some v ∧ W.frozen? ⟨B, 0, none⟩ = false := by
  constructor <;> simp [World.cell?, World.frozen?, h]
theorem cell_new_l (W : World) (v : Value) (t : TypeId) : (W.alloc (.cells #[v] t)).cell? ⟨W.heap.size, 0, none⟩ = some v ∧ (W.alloc (.cells #[v] t)).frozen? ⟨W.heap.size, 0, none⟩ = false :=
  cell_of_box_l (World.alloc_heap_new W _)
theorem cell_alloc_l {W : World} {a : Addr} {v : Value} (o : Obj) (h : W.cell? a = some v) : (W.alloc o).cell? a = some v := cell_kept h (World.grownBy_alloc W o none) (fun r e => by cases e)
theorem frozen_alloc_l {W : World} {a : Addr} {v : Value} (o : Obj) (h : W.cell? a = some v) (hf : W.frozen? a = false) : (W.alloc o).frozen? a = false := (frozen_kept h (World.grownBy_alloc W o none) (fun r e => by cases e)).trans hf
def cutB (c : UInt8) (l : List UInt8) : List UInt8 × List UInt8 × Bool := if Lib.indexByte l c = -1 then (l, [], false) else (l.take (Lib.indexByte l c).toNat, l.drop ((Lib.indexByte l c).toNat + 1), true)
set_option maxRecDepth 100000 in
set_option maxHeartbeats 1000000 in
theorem cut_lite (l : List UInt8) (c : UInt8) (hl : l.length ≤ 140737488355328) (w : World) :
    Calls Tryz.prog 165 #[.string ⟨l.toArray⟩, .string ⟨#[c]⟩] w fun r w' => r = .returned (.tuple #[encS (cutB c l).1, encS (cutB c l).2.1, .bool (cutB c l).2.2]) ∧ Mod (fun _ => False) w w' := by
  go_enter Tryz.func165, Tryz.ntmps165
  unfold cutB encS
  by_cases hi : Lib.indexByte l c = -1
  · rw [if_pos hi]
    go_wp2_with fail
    refine (Tryz.stringslite_Index_one ⟨l.toArray⟩ c w).mono ?_
    rintro e w1 ⟨rfl, rfl⟩
    dsimp only; rw [hi]
    go_wp2_with fail
    go_ret3
    exact ⟨rfl, .refl _ _⟩
  · rw [if_neg hi]
    obtain ⟨i, hii⟩ : ∃ i : Nat, Lib.indexByte l c = i := ⟨(Lib.indexByte l c).toNat, by have := Lib.indexByte_ge l c; omega⟩
    obtain ⟨hir, -⟩ := index_yes hii
    have hsl := encS_take l i (by omega)
    have hsd := encS_drop l (i + 1)
    go_wp2_with fail
    refine (Tryz.stringslite_Index_one ⟨l.toArray⟩ c w).mono ?_
    rintro e w1 ⟨rfl, rfl⟩
    dsimp only; rw [hii]
    go_wp2_with fail
    go_quiet (fail)
    go_wp2_with fail
    go_ret3
    exact ⟨by simp, (Mod.refl _ _).drewN _⟩
set_option maxRecDepth 100000 in
theorem cut_any (l : List UInt8) (c : UInt8) (hl : l.length ≤ 140737488355328) (w : World) :
    Calls Tryz.prog 149 #[.string ⟨l.toArray⟩, .string ⟨#[c]⟩] w fun r w' => r = .returned (.tuple #[encS (cutB c l).1, encS (cutB c l).2.1, .bool (cutB c l).2.2]) ∧ Mod (fun _ => False) w w' := by
  go_enter Tryz.func149, Tryz.ntmps149
  go_wp2_with fail
  refine (cut_lite l c hl w).mono ?_
  rintro e w1 ⟨rfl, hm⟩
  have H1 := Lib.hid hm; clear hm
  go_wp2_with fail
  go_ret3
  exact ⟨rfl, H1.out⟩
/-- What SplitSeq hands back: its closure over its own three cells. -/
def splitV (b : Nat) : Value := .func (.func 118) #[] #[.pointer (some ⟨b + 1, 0, none⟩), .pointer (some ⟨b, 0, none⟩), .pointer (some ⟨b + 2, 0, none⟩)]
structure SplitAt (w : World) (b : Nat) (s : List UInt8) : Prop where
  s : w.cell? ⟨b, 0, none⟩ = some (encS s)
  fs : w.frozen? ⟨b, 0, none⟩ = false
  p : w.cell? ⟨b + 1, 0, none⟩ = some (.string ⟨#[46]⟩)
  v : w.cell? ⟨b + 2, 0, none⟩ = some (.int .i64 0)
set_option maxRecDepth 100000 in
theorem splitSeq_any (l : List UInt8) (w : World) :
    Calls Tryz.prog 87 #[.string ⟨l.toArray⟩, .string ⟨#[46]⟩, .int .i64 0] w fun r w' => ∃ b, r = .returned (splitV b) ∧ w.heap.size ≤ b ∧ SplitAt w' b l ∧ Mod (fun _ => False) w w' := by
  go_enter Tryz.func87, Tryz.ntmps87
  go_wp2_with fail
  go_ret
  have c0 := cell_new_l w (.string ⟨l.toArray⟩) 9
  have c1 := cell_new_l (w.alloc (.cells #[.string ⟨l.toArray⟩] 9)) (.string ⟨#[46]⟩) 9
  have c2 := cell_new_l ((w.alloc (.cells #[.string ⟨l.toArray⟩] 9)).alloc (.cells #[.string ⟨#[46]⟩] 9)) (.int .i64 0) 3
  simp only [World.size_alloc] at c1 c2
  exact ⟨w.heap.size, rfl, Nat.le_refl _, ⟨cell_alloc_l _ (cell_alloc_l _ c0.1), frozen_alloc_l _ (cell_alloc_l _ c0.1) (frozen_alloc_l _ c0.1 c0.2), cell_alloc_l _ c1.1, c2.1⟩, (((Mod.refl _ w).alloc _).alloc _).alloc _⟩
set_option maxRecDepth 100000 in
theorem SplitSeq_any (l : List UInt8) (w : World) :
    Calls Tryz.prog 58 #[.string ⟨l.toArray⟩, .string ⟨#[46]⟩] w fun r w' => ∃ b, r = .returned (splitV b) ∧ w.heap.size ≤ b ∧ SplitAt w' b l ∧ Mod (fun _ => False) w w' := by
  go_enter Tryz.func58, Tryz.ntmps58
  go_wp2_with fail
  refine (splitSeq_any l w).mono ?_
  rintro e w1 ⟨b, rfl, hb, hs, hm⟩
  have H1 := Lib.hid (And.intro hb (And.intro hs hm)); clear hb hs hm
  go_wp2_with fail
  go_ret
  exact ⟨b, rfl, H1.out⟩
end Go.Proofs.YtefedalnafjcfaaGreatDoor

namespace Go.Proofs.YtefedalnafjcfaaGreatDoor
open Go.RowKit
set_option linter.unusedVariables false
abbrev intsR : Rd (List Int) := Rd.slice 8 (Rd.int .i64)
theorem RowOf.ints {k : IntKind} {w : World} {ok : Nat → Prop} {A : Option Addr} {xs : List Int} (h : (Rd.int k).RowOf w ok A xs) {j : Nat} {x : Int} (hj : xs[j]? = some x) :
    ∃ ad, A = some ad ∧ ok ad.block ∧ w.cell? (ad.add j) = some (.int k x) ∧ Rd.inR k x := by
  obtain ⟨ad, c, hA, hok, ⟨rfl, hr⟩, hc⟩ := Rd.RowOf.at_ h hj
  have := hc 0 _ rfl
  rw [show j * (Rd.int k).sz + 0 = j from Nat.mul_one j] at this
  exact ⟨ad, hA, hok, this, hr⟩
theorem inR_i64 {x : Int} (h : Rd.inR .i64 x) : -9223372036854775808 ≤ x ∧ x ≤ 9223372036854775807 := by
  simpa [Rd.inR, Lit.wf, IntKind.min, IntKind.max, IntKind.signed, IntKind.bits] using h
theorem inR_mk {x : Int} (h : -9223372036854775808 ≤ x ∧ x ≤ 9223372036854775807) : Rd.inR .i64 x := by
  simpa [Rd.inR, Lit.wf, IntKind.min, IntKind.max, IntKind.signed, IntKind.bits] using h
theorem intsR_inR {w : World} {ok : Nat → Prop} {cs : List Value} {xs : List Int} (h : intsR.rel w ok cs xs) : ∀ x ∈ xs, Rd.inR .i64 x := by
  obtain ⟨A, c, _, _, _, _, _, h6⟩ := h
  intro x hx
  obtain ⟨j, hj⟩ := List.getElem?_of_mem hx
  obtain ⟨_, _, _, _, hr⟩ := RowOf.ints h6 hj
  exact hr
def icells (l : List Int) : List Value := l.map fun x => .int .i64 x
theorem own_ints {w : World} {base : Nat} {e : TypeId} {v : Value} {xs : List Int} (h : w.ownsRow base e 1 v xs.length (icells xs)) (hr : ∀ x ∈ xs, Rd.inR .i64 x) (S : Nat → Prop) : OwnR (Rd.int .i64) e w base S v xs := by
  refine ⟨_, h, fun j x hj => ⟨?_, hr x (List.mem_of_getElem? hj)⟩⟩
  show ((icells xs).drop (j * 1)).take 1 = _
  rw [Nat.mul_one]
  have : (icells xs)[j]? = some (.int .i64 x) := by simp [icells, hj]
  have hlt := (List.getElem?_eq_some_iff.1 this).1
  rw [List.drop_eq_getElem_cons hlt]
  simp [(List.getElem?_eq_some_iff.1 this).2]
theorem reads_ints {w : World} {base : Nat} {e : TypeId} {v : Value} {xs : List Int} (h : w.ownsRow base e 1 v xs.length (icells xs)) (hr : ∀ x ∈ xs, Rd.inR .i64 x) (hl : xs.length * 8 ≤ 140737488355328) : intsR.rel w (fun k => v.ownBlock = some k) [v] xs :=
  Rd.mono ((own_ints h hr (fun _ => False)).reads (bytes := 8) hl) (fun _ hk => hk.elim False.elim id)
/-- A slice of ints that is read: what a walk wants. -/
theorem ints_row {w : World} {ok : Nat → Prop} {A : Option Addr} {n c : Nat} {xs : List Int} (h : intsR.rel w ok [.slice A n c] xs) :
    n = xs.length ∧ xs.length ≤ c ∧ c ≤ maxLen ∧ xs.length * 8 ≤ 140737488355328 ∧ (A = none → c = 0) ∧ (Rd.int .i64).RowOf w ok A xs := by
  obtain ⟨A', c', hv, h2, h3, h4, h5, h6⟩ := h
  simp only [List.cons.injEq, Value.slice.injEq, and_true] at hv
  obtain ⟨rfl, rfl, rfl⟩ := hv
  exact ⟨rfl, h2, h3, h4, h5, h6⟩
abbrev strsR : Rd (List ByteArray) := Rd.slice 16 Rd.string
theorem strs_row {w : World} {ok : Nat → Prop} {A : Option Addr} {n c : Nat} {xs : List ByteArray} (h : strsR.rel w ok [.slice A n c] xs) :
    n = xs.length ∧ xs.length ≤ c ∧ c ≤ maxLen ∧ xs.length * 16 ≤ 140737488355328 ∧ (A = none → c = 0) ∧ Rd.string.RowOf w ok A xs := by
  obtain ⟨A', c', hv, h2, h3, h4, h5, h6⟩ := h
  simp only [List.cons.injEq, Value.slice.injEq, and_true] at hv
  obtain ⟨rfl, rfl, rfl⟩ := hv
  exact ⟨rfl, h2, h3, h4, h5, h6⟩
theorem RowOf.strs {w : World} {ok : Nat → Prop} {A : Option Addr} {xs : List ByteArray} (h : Rd.string.RowOf w ok A xs) {j : Nat} {x : ByteArray} (hj : xs[j]? = some x) :
    ∃ ad, A = some ad ∧ ok ad.block ∧ w.cell? (ad.add j) = some (.string x) ∧ x.size ≤ 140737488355328 := by
  obtain ⟨ad, c, hA, hok, ⟨rfl, hr⟩, hc⟩ := Rd.RowOf.at_ h hj
  have := hc 0 _ rfl
  rw [show j * Rd.string.sz + 0 = j from Nat.mul_one j] at this
  exact ⟨ad, hA, hok, this, hr⟩
end Go.Proofs.YtefedalnafjcfaaGreatDoor

namespace Go.Proofs.YtefedalnafjcfaaGreatDoor
open Go.RowKit Go.Shelf
set_option linter.unusedVariables false
attribute [local go_sem] Oper.semAt_some
def pathS : List Int → List (List UInt8) → Option (List Int)
  | acc, [] => some acc
  | acc, x :: xs => match numB x 1048576 with
    | none => none
    | some k => if acc.length = 6 then none else pathS (acc ++ [k]) xs
/-- What a text is parsed into. -/
def parseC (way last : List UInt8) (ok : Bool) : Option (List Int × Int) := match numB last 65535 with
  | none => none
  | some n => if ok = false then none else if way = [] then some ([], n) else (pathS [] (splitB 46 way)).map fun p => (p, n)
def parseB (l : List UInt8) : Option (List Int × Int) := parseC (cutB 47 l).1 (cutB 47 l).2.1 (cutB 47 l).2.2
theorem cutB_len (c : UInt8) (l : List UInt8) : (cutB c l).1.length ≤ l.length ∧ (cutB c l).2.1.length ≤ l.length := by
  unfold cutB
  split
  · simp
  · simp only [List.length_take, List.length_drop]; omega
/-- Parse's three results lie in its own cells. -/
structure PB (w W : World) : Prop where
  c0 : W.cell? ⟨w.heap.size, 0, none⟩ = some (.slice none 0 0)
  f0 : W.frozen? ⟨w.heap.size, 0, none⟩ = false
  c1 : W.cell? ⟨w.heap.size + 1, 0, none⟩ = some (.int .i64 0)
  f1 : W.frozen? ⟨w.heap.size + 1, 0, none⟩ = false
  c2 : W.cell? ⟨w.heap.size + 1 + 1, 0, none⟩ = some (.bool false)
  f2 : W.frozen? ⟨w.heap.size + 1 + 1, 0, none⟩ = false
  m : Mod (fun _ => False) w W
theorem PB.mod {S : Nat → Prop} {w W W' : World} (h : PB w W) (hm : Mod S W W') (hS : ∀ k, S k → w.heap.size + 3 ≤ k) : PB w W' :=
  have n : ∀ k, k < w.heap.size + 3 → ¬ S k := fun k hk hs => by have := hS k hs; omega
  ⟨(hm.cell (cell_lt h.c0) (n _ (by simp))).trans h.c0, (hm.frozen (cell_lt h.c0) (n _ (by simp))).trans h.f0, (hm.cell (cell_lt h.c1) (n _ (by simp))).trans h.c1, (hm.frozen (cell_lt h.c1) (n _ (by simp))).trans h.f1,
    (hm.cell (cell_lt h.c2) (n _ (by simp))).trans h.c2, (hm.frozen (cell_lt h.c2) (n _ (by simp))).trans h.f2, h.m.trans hm (fun k hk => .inr (by have := hS k hk; omega))⟩
theorem PB.start (w : World) : PB w (((w.alloc (.cells #[.slice none 0 0] 30)).alloc (.cells #[.int .i64 0] 3)).alloc (.cells #[.bool false] 4)) := by
  have c0 := cell_new_l w (.slice none 0 0) 30
  have c1 := cell_new_l (w.alloc (.cells #[.slice none 0 0] 30)) (.int .i64 0) 3
  have c2 := cell_new_l ((w.alloc (.cells #[.slice none 0 0] 30)).alloc (.cells #[.int .i64 0] 3)) (.bool false) 4
  simp only [World.size_alloc] at c1 c2
  exact ⟨cell_alloc_l _ (cell_alloc_l _ c0.1), frozen_alloc_l _ (cell_alloc_l _ c0.1) (frozen_alloc_l _ c0.1 c0.2), cell_alloc_l _ c1.1, frozen_alloc_l _ c1.1 c1.2, c2.1, c2.2, (((Mod.refl _ w).alloc _).alloc _).alloc _⟩
theorem results3 {P : Program} {fn : Func} {p q r : Tmp} {t1 t2 t3 : TypeId} (h : fn.results = #[.cell p t1, .cell q t2, .cell r t3]) (g1 : ∀ w, (isAgg t1).run P w = .ok false w) (g2 : ∀ w, (isAgg t2).run P w = .ok false w) (g3 : ∀ w, (isAgg t3).run P w = .ok false w)
    (tmps : Array Value) (w : World) {a b c : Addr} {x y z : Value} (hp : tmps.getD p undef = .pointer (some a)) (hq : tmps.getD q undef = .pointer (some b)) (hr : tmps.getD r undef = .pointer (some c))
    (ha : w.cell? a = some x) (hb : w.cell? b = some y) (hc : w.cell? c = some z) : (results fn tmps).run P w = .ok (.tuple #[x, y, z]) w := by
  rw [Array.getD_eq_getD_getElem?] at hp hq hr
  simp only [results, h]
  simp [Sem.run_bind, Result.andThen, loadVar, g1, g2, g3, asAddr, hp, hq, hr, ha, hb, hc]
theorem keeps_of_mod {S : Nat → Prop} {A B : World} (h : Mod S A B) (hS : ∀ k o, S k → A.heap[k]? = some o → o.isCells = true) : KeepsOthers A B :=
  ⟨h.size, fun k o hk ho => (h.block k (Array.getElem?_eq_some_iff.1 hk).1 (fun hs => by rw [hS k o hs hk] at ho; cases ho)).trans hk⟩
theorem PB.reset {w W : World} (h : PB w W) : PB w (((W.setCell ⟨w.heap.size, 0, none⟩ (.slice none 0 0)).setCell ⟨w.heap.size + 1, 0, none⟩ (.int .i64 0)).setCell ⟨w.heap.size + 1 + 1, 0, none⟩ (.bool false)) where
  c0 := by
    rw [World.cell?_setCell_far _ _ _ _ (by simp; omega), World.cell?_setCell_far _ _ _ _ (by simp)]
    exact World.cell?_setCell_same' _ _ _ (by rw [h.c0]; rfl)
  c1 := by
    rw [World.cell?_setCell_far _ _ _ _ (by simp)]
    exact World.cell?_setCell_same' _ _ _ (by rw [World.cell?_setCell_far _ _ _ _ (by simp), h.c1]; rfl)
  c2 := World.cell?_setCell_same' _ _ _ (by rw [World.cell?_setCell_far _ _ _ _ (by simp), World.cell?_setCell_far _ _ _ _ (by simp; omega), h.c2]; rfl)
  f0 := by simp only [World.frozen?_setCell]; exact h.f0
  f1 := by simp only [World.frozen?_setCell]; exact h.f1
  f2 := by simp only [World.frozen?_setCell]; exact h.f2
  m := ((h.m.setCell (.inr (by simp)) _).setCell (.inr (by simp)) _).setCell (.inr (by simp; omega)) _
theorem parse_out {w W : World} (hc : w.heap.size + 3 ≤ W.heap.size) (tmps : Array Value) (ds : List Deferred) (hds : ds = [] ∨ ∃ D, ds = [{ target := .collected D, args := #[] }] ∧ w.heap.size + 3 ≤ D ∧ W.heap[D]? = some (.deferred (some [])))
    (v : Value) (n : Int) (b : Bool) (h2 : tmps.getD 2 undef = .pointer (some ⟨w.heap.size, 0, none⟩)) (h3 : tmps.getD 3 undef = .pointer (some ⟨w.heap.size + 1, 0, none⟩)) (h4 : tmps.getD 4 undef = .pointer (some ⟨w.heap.size + 1 + 1, 0, none⟩))
    (k0 : W.cell? ⟨w.heap.size, 0, none⟩ = some v) (k1 : W.cell? ⟨w.heap.size + 1, 0, none⟩ = some (.int .i64 n)) (k2 : W.cell? ⟨w.heap.size + 1 + 1, 0, none⟩ = some (.bool b))
    (R : Ending → World → Prop) (hR : ∀ W', Mod (fun k => w.heap.size ≤ k ∧ W.heap[k]? = some (.deferred (some []))) W W' → R (.returned (.tuple #[v, .int .i64 n, .bool b])) W') :
    bodyPostM Fence.wide 3 Tryz.prog Tryz.f132 R .ret { tmps := tmps, defers := ds } W := by
  rcases hds with rfl | ⟨D, rfl, hD, hK⟩
  · exact ⟨_, results3 rfl Tryz.isAgg30 Tryz.isAgg3 Tryz.isAgg4 tmps W h2 h3 h4 k0 k1 k2, hR W (.refl _ _)⟩
  · have hDW : D < W.heap.size := (Array.getElem?_eq_some_iff.1 hK).1
    have hmd : Mod (fun k => k = D) W (W.putObj D (.deferred none)) := mod_putObj (S := fun k => k = D) rfl _
    refine ⟨by simp, .inl ⟨_, _, rfl, run_takeDeferred hK, ?_⟩⟩
    exact ⟨_, results3 rfl Tryz.isAgg30 Tryz.isAgg3 Tryz.isAgg4 tmps _ h2 h3 h4 ((hmd.cell (cell_lt k0) (by simp; omega)).trans k0) ((hmd.cell (cell_lt k1) (by simp; omega)).trans k1) ((hmd.cell (cell_lt k2) (by simp; omega)).trans k2),
      hR _ (hmd.mono (fun k hk => by rw [hk]; exact ⟨by omega, hK⟩))⟩
theorem parse_leave {w W : World} (hB : PB w W) (tmps : Array Value) (ds : List Deferred) (hds : ds = [] ∨ ∃ D, ds = [{ target := .collected D, args := #[] }] ∧ w.heap.size + 3 ≤ D ∧ W.heap[D]? = some (.deferred (some [])))
    (v : Value) (n : Int) (b : Bool) (h2 : tmps.getD 2 undef = .pointer (some ⟨w.heap.size, 0, none⟩)) (h3 : tmps.getD 3 undef = .pointer (some ⟨w.heap.size + 1, 0, none⟩)) (h4 : tmps.getD 4 undef = .pointer (some ⟨w.heap.size + 1 + 1, 0, none⟩))
    (R : Ending → World → Prop) (hR : ∀ W', Mod (fun _ => False) w W' → Mod (fun k => k < w.heap.size + 3 ∨ W.heap[k]? = some (.deferred (some []))) W W' → R (.returned (.tuple #[v, .int .i64 n, .bool b])) W') :
    bodyPostM Fence.wide 3 Tryz.prog Tryz.f132 R .ret { tmps := tmps, defers := ds } (((W.setCell ⟨w.heap.size, 0, none⟩ v).setCell ⟨w.heap.size + 1, 0, none⟩ (.int .i64 n)).setCell ⟨w.heap.size + 1 + 1, 0, none⟩ (.bool b)) := by
  obtain ⟨W3, hW3⟩ : ∃ W3, W3 = ((W.setCell ⟨w.heap.size, 0, none⟩ v).setCell ⟨w.heap.size + 1, 0, none⟩ (.int .i64 n)).setCell ⟨w.heap.size + 1 + 1, 0, none⟩ (.bool b) := ⟨_, rfl⟩
  rw [← hW3]
  have k0 : W3.cell? ⟨w.heap.size, 0, none⟩ = some v := by
    rw [hW3, World.cell?_setCell_far _ _ _ _ (by simp; omega), World.cell?_setCell_far _ _ _ _ (by simp)]
    exact World.cell?_setCell_same' _ _ _ (by rw [hB.c0]; rfl)
  have k1 : W3.cell? ⟨w.heap.size + 1, 0, none⟩ = some (.int .i64 n) := by
    rw [hW3, World.cell?_setCell_far _ _ _ _ (by simp)]
    exact World.cell?_setCell_same' _ _ _ (by rw [World.cell?_setCell_far _ _ _ _ (by simp), hB.c1]; rfl)
  have k2 : W3.cell? ⟨w.heap.size + 1 + 1, 0, none⟩ = some (.bool b) := by
    rw [hW3]
    exact World.cell?_setCell_same' _ _ _ (by rw [World.cell?_setCell_far _ _ _ _ (by simp), World.cell?_setCell_far _ _ _ _ (by simp; omega), hB.c2]; rfl)
  have m3 : Mod (fun k => k < w.heap.size + 3 ∨ W.heap[k]? = some (.deferred (some []))) W W3 := by
    rw [hW3]
    exact (((Mod.refl _ W).setCell (.inl (.inl (by simp <;> omega))) _).setCell (.inl (.inl (by simp <;> omega))) _).setCell (.inl (.inl (by simp <;> omega))) _
  have m0 : Mod (fun _ => False) w W3 := by
    rw [hW3]
    exact ((hB.m.setCell (.inr (by simp)) _).setCell (.inr (by simp)) _).setCell (.inr (by simp; omega)) _
  have hDW : ∀ D, W.heap[D]? = some (.deferred (some [])) → w.heap.size + 3 ≤ D → W3.heap[D]? = some (.deferred (some [])) := fun D hK hD => by
    have hlt : D < W.heap.size := (Array.getElem?_eq_some_iff.1 hK).1
    rw [hW3, Below.heap_setCell _ _ _ _ (by simp; omega), Below.heap_setCell _ _ _ _ (by simp; omega), Below.heap_setCell _ _ _ _ (by simp; omega)]
    exact hK
  have hsz : W3.heap.size = W.heap.size := by rw [hW3]; simp [World.setCell]
  refine parse_out (by have := cell_lt hB.c2; omega) tmps ds ?_ v n b h2 h3 h4 k0 k1 k2 R (fun W' hm => hR W' (m0.trans hm (fun k hk => .inr hk.1)) (m3.trans hm (fun k hk => ?_)))
  · rcases hds with rfl | ⟨D, rfl, hD, hK⟩
    · exact .inl rfl
    · exact .inr ⟨D, rfl, hD, hDW D hK hD⟩
  · by_cases hk3 : k < w.heap.size + 3
    · exact .inl (.inl hk3)
    · by_cases hkW : k < W.heap.size
      · refine .inl (.inr ?_)
        have := hk.2
        rw [hW3, Below.heap_setCell _ _ _ _ (by simp; omega), Below.heap_setCell _ _ _ _ (by simp; omega), Below.heap_setCell _ _ _ _ (by simp; omega)] at this
        exact this
      · exact .inr (by omega)
def parseRet (B : Nat) (o : Option (List Int × Int)) (r : Ending) (w' : World) : Prop :=
  (o = none → r = .returned (.tuple #[.slice none 0 0, .int .i64 0, .bool false])) ∧ (∀ p n, o = some (p, n) → ∃ v, r = .returned (.tuple #[v, .int .i64 n, .bool true]) ∧ w'.ownsRow B 3 1 v p.length (icells p))
theorem splitB_len (c : UInt8) : ∀ (l p : List UInt8), p ∈ splitB c l → p.length ≤ l.length
  | [], p, h => by simp [splitB] at h; simp [h]
  | b :: l, p, h => by
    by_cases hb : (b == c) = true
    · rw [splitB_yes l hb] at h
      rcases List.mem_cons.1 h with rfl | h
      · simp
      · have := splitB_len c l p h; simp; omega
    · cases hs : splitB c l with
      | nil => exact absurd hs (splitB_ne c l)
      | cons q qs =>
        rw [splitB_no hb hs] at h
        rcases List.mem_cons.1 h with rfl | h
        · have := splitB_len c l q (by rw [hs]; simp); simp; omega
        · have := splitB_len c l p (by rw [hs]; simp [h]); simp; omega
/-- Between two rounds: the path so far lies in its box. -/
structure PI (w W0 : World) (Bp : Nat) (acc : List Int) (v : Value) (W : World) : Prop where
  pb : PB w W
  cell : W.cell? ⟨Bp, 0, none⟩ = some v
  frz : W.frozen? ⟨Bp, 0, none⟩ = false
  row : W.ownsRow W0.heap.size 3 1 v acc.length (icells acc)
  len : acc.length ≤ 6
  big : W0.heap.size ≤ W.heap.size
theorem PI.mod {S : Nat → Prop} {w W0 : World} {Bp : Nat} {acc : List Int} {v : Value} {A B : World} (h : PI w W0 Bp acc v A) (hm : Mod S A B) (hS : ∀ k, S k → w.heap.size + 3 ≤ k ∧ k ≠ Bp ∧ v.ownBlock ≠ some k) : PI w W0 Bp acc v B :=
  ⟨h.pb.mod hm (fun k hk => (hS k hk).1), (hm.cell (cell_lt h.cell) (fun hk => (hS _ hk).2.1 rfl)).trans h.cell, (hm.frozen (cell_lt h.cell) (fun hk => (hS _ hk).2.1 rfl)).trans h.frz,
    own_move h.row (fun k hk => hm.block k (own_lt h.row k hk).2 (fun hs => (hS k hs).2.2 hk)), h.len, Nat.le_trans h.big hm.size⟩
theorem own_weaken {w : World} {base base' : Nat} {e : TypeId} {size n : Nat} {v : Value} {xs : List Value} (h : w.ownsRow base e size v n xs) (hb : base' ≤ base) : w.ownsRow base' e size v n xs := by
  refine ⟨h.1, ?_⟩
  rcases h.2 with h2 | ⟨g, cap, cur, hv, hg, r⟩
  · exact .inl h2
  · exact .inr ⟨g, cap, cur, hv, Nat.le_trans hb hg, r⟩
theorem own_cells {w : World} {base : Nat} {e : TypeId} {size n : Nat} {v : Value} {xs : List Value} (h : w.ownsRow base e size v n xs) {k : Nat} (hk : v.ownBlock = some k) : base ≤ k ∧ ∀ o, w.heap[k]? = some o → o.isCells = true := by
  rcases h.2 with ⟨rfl, -⟩ | ⟨g, cap, cur, rfl, hb, hg, -⟩
  · cases hk
  · simp only [Value.ownBlock, Option.some.injEq] at hk
    subst hk
    exact ⟨hb, fun o ho => by rw [hg] at ho; cases ho; rfl⟩
theorem Tryz.infoI : (Tryz.prog.info? 3).map (fun i => (i.zero, i.size, i.bytes)) = some (some (.int .i64 0), 1, 8) := by kernel_rfl
set_option maxRecDepth 100000 in
set_option maxHeartbeats 1000000 in
theorem parse_any (l : List UInt8) (hl : l.length ≤ 140737488355328) (w : World) (E : Env w) :
    Calls Tryz.prog 132 #[.string ⟨l.toArray⟩] w fun r w' => parseRet w.heap.size (parseB l) r w' ∧ Mod (fun _ => False) w w' := by
  have HS := Lib.hid (PB.start w)
  have E0 := Lib.hid E
  obtain ⟨i0, hi0, hz0, hz1, hz2⟩ := info_parts Tryz.infoI
  have hlen := cutB_len 47 l
  unfold parseB
  have hcut := cut_any l 47 hl
  obtain ⟨⟨way, last, ok⟩, hx⟩ : ∃ x, x = cutB 47 l := ⟨_, rfl⟩
  rw [← hx] at hlen hcut ⊢
  dsimp only [encS] at hlen hcut ⊢
  clear hx
  obtain ⟨o, ho⟩ : ∃ o, o = parseC way last ok := ⟨_, rfl⟩
  rw [← ho]
  have HO := Lib.hid ho; clear ho
  refine (callsIn_wide (n := 3)).1 ?_
  have h1 : 1 ≤ 3 := by omega
  refine callsIn_of_wp_marks Tryz.func132 rfl trivial ?_ rfl
  simp only [Tryz.ntmps132, List.size_toArray, List.length_cons, List.length_nil, Nat.reduceAdd, Nat.reduceSub, Array.replicate_succ, Array.replicate_zero, List.push_toArray, List.append_toArray, List.nil_append, List.cons_append]
  gi_wp2_with (refine ⟨trivial, ?_⟩; gi_at_call 149; refine (callsIn_wide.2 (hcut _)).mono ?_)
  rintro e w1 ⟨rfl, hm⟩
  have H1 := Lib.hid (HS.out.mod hm (fun _ h => h.elim)); clear hm HS
  have E1 := Lib.hid (E.mod0 H1.out.m); clear E
  have hnum := number_any ⟨last.toArray⟩ 65535 (by decide) (by decide) (by simp [ByteArray.size]; omega) w1 E1.out
  cases hN : numB last 65535 with
  | none =>
    rw [show numB (ByteArray.mk last.toArray).data.toList 65535 = none from hN] at hnum
    dsimp only [Option.isSome] at hnum
    gi_wp2_with (refine ⟨trivial, ?_⟩; gi_at_call 150; refine (callsIn_wide.2 hnum).mono ?_; rintro e w2 ⟨n, rfl, -, hm⟩; have H2 := Lib.hid (H1.out.mod hm (fun _ h => h.elim)); clear hm; have c0 := H2.out.c0; have f0 := H2.out.f0; have c1 := H2.out.c1; have f1 := H2.out.f1; have c2 := H2.out.c2; have f2 := H2.out.f2)
    all_goals refine parse_leave H2.out _ _ (.inl rfl) _ _ _ rfl rfl rfl _ (fun W' m0 m3 => ⟨⟨fun _ => rfl, fun p n h => ?_⟩, m0⟩)
    all_goals (have := HO.out; unfold parseC at this; rw [hN] at this; rw [this] at h; cases h)
  | some n0 =>
    rw [show numB (ByteArray.mk last.toArray).data.toList 65535 = some n0 from hN] at hnum
    dsimp only [Option.isSome] at hnum
    cases ok with
    | false =>
      gi_wp2_with (refine ⟨trivial, ?_⟩; gi_at_call 150; refine (callsIn_wide.2 hnum).mono ?_; rintro e w2 ⟨n, rfl, -, hm⟩; have H2 := Lib.hid (H1.out.mod hm (fun _ h => h.elim)); clear hm; have c0 := H2.out.c0; have f0 := H2.out.f0; have c1 := H2.out.c1; have f1 := H2.out.f1; have c2 := H2.out.c2; have f2 := H2.out.f2)
      refine parse_leave H2.out _ _ (.inl rfl) _ _ _ rfl rfl rfl _ (fun W' m0 m3 => ⟨⟨fun _ => rfl, fun p n h => ?_⟩, m0⟩)
      have := HO.out; unfold parseC at this; rw [hN] at this; rw [this] at h; cases h
    | true =>
      by_cases hw : way = []
      · subst hw
        gi_wp2_with (refine ⟨trivial, ?_⟩; gi_at_call 150; refine (callsIn_wide.2 hnum).mono ?_; rintro e w2 ⟨n, rfl, hn, hm⟩; obtain rfl := hn n0 rfl; have H2 := Lib.hid (H1.out.mod hm (fun _ h => h.elim)); clear hm; have c0 := H2.out.c0; have f0 := H2.out.f0; have c1 := H2.out.c1; have f1 := H2.out.f1; have c2 := H2.out.c2; have f2 := H2.out.f2)
        refine parse_leave H2.out _ _ (.inl rfl) _ _ _ rfl rfl rfl _ (fun W' m0 m3 => ⟨⟨fun h => ?_, fun p n h => ?_⟩, m0⟩)
        · have := HO.out; unfold parseC at this; rw [hN] at this; rw [this] at h; cases h
        · have := HO.out; unfold parseC at this; rw [hN] at this; rw [this] at h; cases h
          exact ⟨_, rfl, World.ownsRow_nil _ _ _ _⟩
      · have hwe : way.isEmpty = false := by simp [hw]
        have HW := Lib.hid hw; clear hw
        gi_wp2_with (first
          | (refine ⟨trivial, ?_⟩; gi_at_call 150; refine (callsIn_wide.2 hnum).mono ?_; rintro e w2 ⟨n, rfl, hn, hm⟩; obtain rfl := hn n0 rfl; have H2 := Lib.hid (H1.out.mod hm (fun _ h => h.elim)); clear hm)
          | (refine ⟨trivial, ?_⟩; gi_at_call 58; refine (callsIn_wide.2 (SplitSeq_any way _)).mono ?_; rintro e w3 ⟨b, rfl, hb, hs, hm⟩))
        have hBp : w.heap.size + 3 ≤ w2.heap.size := cell_lt H2.out.c2
        rw [World.size_alloc] at hb
        obtain ⟨cN, fN⟩ := cell_new_l w2 (.slice none 0 0) 30
        have hI0 : PI w w3 w2.heap.size [] (.slice none 0 0) w3 := ⟨(H2.out.mod ((Mod.refl (fun _ => False) w2).alloc _) (fun _ h => h.elim)).mod hm (fun _ h => h.elim), (hm.cell (cell_lt cN) id).trans cN, (hm.frozen (cell_lt cN) id).trans fN, World.ownsRow_nil _ _ _ _, by simp, Nat.le_refl _⟩
        have hbs : b + 2 < w3.heap.size := cell_lt hs.v
        refine wpIn_range_state (own := fun k => k = b ∨ k = b + 1 ∨ k = b + 2) rfl h1 (gf := 118) (lb := #[.pointer (some ⟨b + 1, 0, none⟩), .pointer (some ⟨b, 0, none⟩), .pointer (some ⟨b + 2, 0, none⟩)]) rfl trivial (enters_of Tryz.func118 (by kernel_rfl) rfl)
          (enc := encS) (Bs := b) (xs := splitB 46 way) (by omega) (by rintro k (rfl | rfl | rfl) <;> omega)
          (fun W hW => split_st 2 (by omega) b (b + 1) (b + 2) way W ((hW.cell (cell_lt hs.s) id).trans hs.s) ((hW.frozen (cell_lt hs.s) id).trans hs.fs) ((hW.cell (cell_lt hs.p) id).trans hs.p) ((hW.cell (cell_lt hs.v) id).trans hs.v) ⟨by omega, by omega⟩ (by omega))
          (fun pre W => ∃ acc v, (∀ rest, pathS [] (pre ++ rest) = pathS acc rest) ∧ PI w w3 w2.heap.size acc v W)
          (fun c pre W => c = .ret ∧ (∀ rest, pathS [] (pre ++ rest) = none) ∧ PB w W)
          ?hI ?hIx ⟨[], _, fun rest => rfl, hI0⟩ ?a1 ?assign ?body ?done ?stop
        case hI =>
          rintro pre A B ⟨acc, v, h1, h2⟩ hm
          refine ⟨acc, v, h1, h2.mod hm ?_⟩
          rintro k (rfl | ⟨hk, o, ho, hc⟩)
          · exact ⟨by omega, by omega, fun he => by have := (own_cells h2.row he).1; omega⟩
          · exact ⟨by omega, by omega, fun he => by rw [(own_cells h2.row he).2 o ho] at hc; cases hc⟩
        case hIx =>
          rintro c pre A B ⟨h1, h2, h3⟩ hm
          refine ⟨h1, h2, h3.mod hm ?_⟩
          rintro k (rfl | ⟨hk, o, ho, hc⟩)
          · omega
          · omega
        case assign =>
          intro l x W K hK
          gi_wp2
          exact hK
        case body =>
          rintro l pre x W ⟨acc, v, hacc, hI⟩ hpre
          have hx : x ∈ splitB 46 way := by obtain ⟨t, ht⟩ := hpre; rw [← ht]; simp
          have hxl := splitB_len 46 way x hx
          have hnx := number_any ⟨x.toArray⟩ 1048576 (by decide) (by decide) (by simp [ByteArray.size]; omega) W (E0.out.mod0 hI.pb.m)
          have hacc1 := fun rest => hacc (x :: rest)
          simp only [pathS] at hacc1
          have HH := Lib.hid (And.intro hacc1 hI); clear hacc hacc1 hI hx hpre E1 hcut hnum hn
          dsimp only [encS]
          cases hX : numB x 1048576 with
          | none =>
            rw [show numB (ByteArray.mk x.toArray).data.toList 1048576 = none from hX] at hnx
            dsimp only [Option.isSome] at hnx
            gi_wp2_with (refine ⟨trivial, ?_⟩; gi_at_call 150; refine (CallsIn.inRound l (callsIn_wide.2 hnx)).mono ?_; rintro e W1 ⟨n1, rfl, -, hm1⟩; have HI := Lib.hid (And.intro (HH.out.2.mod hm1 (fun _ h => h.elim)) hm1); clear hm1; have c0 := HI.out.1.pb.c0; have f0 := HI.out.1.pb.f0; have c1 := HI.out.1.pb.c1; have f1 := HI.out.1.pb.f1; have c2 := HI.out.1.pb.c2; have f2 := HI.out.1.pb.f2)
            all_goals exact ⟨(keeps_of_mod HI.out.2 (fun _ _ h => h.elim)).trans (((KeepsOthers.setCell _ _ _).trans (KeepsOthers.setCell _ _ _)).trans (KeepsOthers.setCell _ _ _)), rfl,
              fun rest => by rw [List.append_assoc]; have := HH.out.1 rest; rw [hX] at this; exact this, HI.out.1.pb.reset⟩
          | some k =>
            rw [show numB (ByteArray.mk x.toArray).data.toList 1048576 = some k from hX] at hnx
            dsimp only [Option.isSome] at hnx
            obtain ⟨Av, cv, rfl⟩ := own_slice HH.out.2.row
            have hLs := HH.out.2.big
            by_cases h6 : acc.length = 6
            · rw [h6] at HH
              gi_wp2_with (refine ⟨trivial, ?_⟩; gi_at_call 150; refine (CallsIn.inRound l (callsIn_wide.2 hnx)).mono ?_; rintro e W1 ⟨n1, rfl, hn1, hm1⟩; obtain rfl := hn1 k rfl; have HI := Lib.hid (And.intro (HH.out.2.mod hm1 (fun _ h => h.elim)) hm1); clear hm1; have c0 := HI.out.1.pb.c0; have f0 := HI.out.1.pb.f0; have c1 := HI.out.1.pb.c1; have f1 := HI.out.1.pb.f1; have c2 := HI.out.1.pb.c2; have f2 := HI.out.1.pb.f2; have cp := HI.out.1.cell)
              all_goals exact ⟨(keeps_of_mod HI.out.2 (fun _ _ h => h.elim)).trans (((KeepsOthers.setCell _ _ _).trans (KeepsOthers.setCell _ _ _)).trans (KeepsOthers.setCell _ _ _)), rfl,
                fun rest => by rw [List.append_assoc]; have := HH.out.1 rest; rw [hX] at this; simpa using this, HI.out.1.pb.reset⟩
            · have hd6 : ((acc.length : Int) == 6) = false := by simp; omega
              have HL := Lib.hid (And.intro h6 HH.out.2.len); clear h6
              gi_wp2_with (first
                | (refine ⟨trivial, ?_⟩; gi_at_call 150; refine (CallsIn.inRound l (callsIn_wide.2 hnx)).mono ?_; rintro e W1 ⟨n1, rfl, hn1, hm1⟩; obtain rfl := hn1 k rfl; have HI := Lib.hid (And.intro (HH.out.2.mod hm1 (fun _ h => h.elim)) hm1); clear hm1; have cp := HI.out.1.cell; have fp := HI.out.1.frz)
                | (gi_at_builtin; refine wpListIn_append_own _ rfl _ _ 30 rfl w3.heap.size 3 i0 (.int .i64 0) 1 8 Tryz.underlying30 hi0 hz0 hz1 hz2 rfl (by decide) _ _ _ rfl (HI.out.1.row.alloc _) ⟨W1.heap.size, 0, none⟩ 1 1 [.int .i64 n1] rfl rfl (cell_one_new _ _ _) (by simp [Value.oneCell']) (Nat.le_trans (show acc.length + 1 ≤ 7 by have := HL.out.2; omega) (by decide)) (by have := HL.out.2; omega) (by rw [World.size_alloc]; have := HI.out.2.size; have := hLs; omega) ?_; intro v' W2 hown' hgrow hnil; obtain ⟨g', cap', rfl⟩ := ownsRow_succ hown';
                    have hmm : Mod (fun k => (Value.slice Av acc.length cv).ownBlock = some k) W1 W2 := ((Mod.refl _ W1).alloc _).grown hgrow (fun k hk => .inl hk.symm);
                    have HJ := Lib.hid (And.intro hown' hmm); clear hown' hgrow hnil hmm;
                    have cp2 : W2.cell? ⟨w2.heap.size, 0, none⟩ = some (.slice Av acc.length cv) := (HJ.out.2.cell (a := ⟨w2.heap.size, 0, none⟩) (cell_lt cp) (fun hk => by have h : w3.heap.size ≤ w2.heap.size := (own_cells HI.out.1.row hk).1; omega)).trans cp; have fp2 : W2.frozen? ⟨w2.heap.size, 0, none⟩ = false := (HJ.out.2.frozen (a := ⟨w2.heap.size, 0, none⟩) (cell_lt cp) (fun hk => by have h : w3.heap.size ≤ w2.heap.size := (own_cells HI.out.1.row hk).1; omega)).trans fp))
              have hvb : ∀ k, (Value.slice Av acc.length cv).ownBlock = some k → w3.heap.size ≤ k := fun k hk => (own_cells HI.out.1.row hk).1
              have hgb : w3.heap.size ≤ g' := (own_cells HJ.out.1 rfl).1
              have mF : Mod (fun k => k = w2.heap.size ∨ (Value.slice Av acc.length cv).ownBlock = some k) W1 (W2.setCell ⟨w2.heap.size, 0, none⟩ (.slice (some ⟨g', 0, none⟩) (acc.length + 1) cap')) :=
                (HJ.out.2.mono (fun k hk => .inr hk)).setCell (.inl (.inl rfl)) _
              have mG : Mod (fun k => k = w2.heap.size ∨ (Value.slice Av acc.length cv).ownBlock = some k) W (W2.setCell ⟨w2.heap.size, 0, none⟩ (.slice (some ⟨g', 0, none⟩) (acc.length + 1) cap')) :=
                (HI.out.2.mono (fun k (hk : False) => hk.elim)).trans mF (fun k hk => .inl hk)
              have hall : ∀ k, (k = w2.heap.size ∨ (Value.slice Av acc.length cv).ownBlock = some k) → w.heap.size + 3 ≤ k ∧ ¬ (k = b ∨ k = b + 1 ∨ k = b + 2) := by
                rintro k (rfl | hk)
                · exact ⟨hBp, by omega⟩
                · have := hvb k hk; exact ⟨by omega, by omega⟩
              refine ⟨((keeps_of_mod HI.out.2 (fun _ _ h => h.elim)).trans (keeps_of_mod HJ.out.2 (fun k o hk ho => (own_cells HI.out.1.row hk).2 o ho))).trans (KeepsOthers.setCell _ _ _), mG.mono (fun k hk => (hall k hk).2),
                acc ++ [n1], _, ?_, HI.out.1.pb.mod mF (fun k hk => (hall k hk).1), World.cell?_setCell_same' _ _ _ (by rw [cp2]; rfl), by rw [World.frozen?_setCell]; exact fp2, ?_, ?_, ?_⟩
              · intro rest
                have := HH.out.1 rest
                rw [hX] at this
                dsimp only at this
                rw [if_neg HL.out.1] at this
                rw [List.append_assoc]; exact this
              · have hrow := own_move (w1 := W2.setCell ⟨w2.heap.size, 0, none⟩ (.slice (some ⟨g', 0, none⟩) (acc.length + 1) cap')) HJ.out.1 (fun k hk => Below.heap_setCell _ _ _ _ (by
                  have : g' = k := by simpa [Value.ownBlock] using hk
                  show k ≠ w2.heap.size
                  omega))
                have hl1 : (acc ++ [n1]).length = acc.length + 1 := by simp
                rw [hl1]
                simpa [icells] using hrow
              · have := HL.out; simp; omega
              · have h1 := HJ.out.2.size; have h2 := HI.out.2.size; simp only [World.setCell]; simp; omega
        case done =>
          rintro D W hD ⟨acc, v, hacc, hI⟩ hK
          have c0 := hI.pb.c0; have f0 := hI.pb.f0; have c1 := hI.pb.c1; have f1 := hI.pb.f1; have c2 := hI.pb.c2; have f2 := hI.pb.f2; have cp := hI.cell
          have HI := Lib.hid (And.intro hI hacc)
          obtain ⟨Av, cv, rfl⟩ := own_slice hI.row
          clear hI hacc E1 hcut hnum hn
          gi_wp2
          refine parse_leave HI.out.1.pb _ _ (.inr ⟨D, rfl, by omega, hK⟩) _ _ _ rfl rfl rfl _ (fun W' m0 m3 => ⟨⟨fun h => ?_, fun p n' h => ?_⟩, m0⟩)
          · have h1 := HO.out; have h2 := HI.out.2 []; rw [List.append_nil] at h2; unfold parseC at h1; rw [hN] at h1; dsimp only at h1; rw [if_neg (by simp), if_neg HW.out, h2] at h1; rw [h1] at h; cases h
          · have h1 := HO.out; have h2 := HI.out.2 []; rw [List.append_nil] at h2; unfold parseC at h1; rw [hN] at h1; dsimp only at h1; rw [if_neg (by simp), if_neg HW.out, h2] at h1; rw [h1] at h; cases h
            have hmv := own_move (w1 := W') HI.out.1.row (fun k hk => m3.block k (own_lt HI.out.1.row k hk).2 (by
              rintro (h3 | h3)
              · have := (own_cells HI.out.1.row hk).1; omega
              · have := (own_cells HI.out.1.row hk).2 _ h3; cases this))
            exact ⟨_, rfl, own_weaken hmv (by omega)⟩
        case stop =>
          rintro D c pre W hD hpre ⟨rfl, hnone, hpb⟩ hK
          gi_wp2
          refine parse_out (by have := cell_lt hpb.c2; omega) _ _ (.inr ⟨D, rfl, by omega, hK⟩) _ _ _ rfl rfl rfl hpb.c0 hpb.c1 hpb.c2 _ (fun W' hm => ⟨⟨fun _ => rfl, fun p n h => ?_⟩, hpb.m.trans hm (fun k hk => .inr hk.1)⟩)
          have h1 := HO.out; obtain ⟨t, ht⟩ := hpre; have h2 := hnone t; rw [ht] at h2; unfold parseC at h1; rw [hN] at h1; dsimp only at h1; rw [if_neg (by simp), if_neg HW.out, h2] at h1; rw [h1] at h; cases h
end Go.Proofs.YtefedalnafjcfaaGreatDoor

