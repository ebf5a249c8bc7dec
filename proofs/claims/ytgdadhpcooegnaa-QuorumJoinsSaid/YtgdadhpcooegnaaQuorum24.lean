/- Join's laws (pure), and 'wide' (QuorumJoins$1). -/
import Derived.Test.YtgdadhpcooegnaaQuorum0
namespace Go.Proofs.Ytgdadhpcooegnaa
open Go.RowKit
theorem joinI_length (a b : List Int) : (joinI a b).length = max a.length b.length := by simp [joinI]
theorem joinI_get (a b : List Int) (i : Nat) (hi : i < max a.length b.length) : (joinI a b)[i]? = some (max (getI a i) (getI b i)) := by
  unfold joinI
  rw [List.getElem?_map, List.getElem?_range hi]
  rfl
theorem getI_get (a : List Int) (i : Nat) (hi : i < a.length) : getI a i = a[i] := by
  rw [getI_nat, List.getD_eq_getElem?_getD, List.getElem?_eq_getElem hi]; rfl
theorem getI_join (a b : List Int) (i : Nat) (hi : i < max a.length b.length) : getI (joinI a b) i = max (getI a i) (getI b i) := by
  rw [getI_nat, List.getD_eq_getElem?_getD, joinI_get a b i hi]; rfl
theorem join_comm (a b : List Int) : joinI b a = joinI a b := by
  unfold joinI
  rw [Nat.max_comm b.length]
  exact List.map_congr_left fun i _ => Int.max_comm _ _
theorem join_idem (a : List Int) : joinI a a = a := by
  apply List.ext_getElem?
  intro i
  by_cases hi : i < a.length
  · rw [joinI_get a a i (by omega), List.getElem?_eq_getElem hi, getI_get a i hi, Int.max_self]
  · rw [List.getElem?_eq_none (by rw [joinI_length]; omega), List.getElem?_eq_none (by omega)]
theorem join_assoc {a b c : List Int} {n : Nat} (ha : a.length = n) (hb : b.length = n) (hc : c.length = n) : joinI a (joinI b c) = joinI (joinI a b) c := by
  apply List.ext_getElem?
  intro i
  by_cases hi : i < n
  · rw [joinI_get _ _ i (by rw [joinI_length]; omega), joinI_get _ _ i (by rw [joinI_length]; omega), getI_join b c i (by omega), getI_join a b i (by omega), Int.max_assoc]
  · rw [List.getElem?_eq_none (by rw [joinI_length, joinI_length]; omega), List.getElem?_eq_none (by rw [joinI_length, joinI_length]; omega)]
abbrev u16sR : Rd (List Int) := Rd.slice 2 (Rd.int .u16)
theorem inR_u16 {x : Int} (h : Rd.inR .u16 x) : 0 ≤ x ∧ x ≤ 65535 := by
  simpa [Rd.inR, Lit.wf, IntKind.min, IntKind.max, IntKind.signed, IntKind.bits] using h
def wideI (l : List Int) : List Int := (List.range 7).map fun i : Nat => getI l i
theorem wideI_len (l : List Int) : (wideI l).length = 7 := by simp [wideI]
/-- the first i are laid -/
def wideTo (l : List Int) (i : Nat) : List Int := (List.range 7).map fun j : Nat => if j < i then getI l j else 0
theorem wideTo_len (l : List Int) (i : Nat) : (wideTo l i).length = 7 := by simp [wideTo]
theorem wideTo_get (l : List Int) (i j : Nat) (hj : j < 7) : (wideTo l i)[j]? = some (if j < i then getI l j else 0) := by
  unfold wideTo
  rw [List.getElem?_map, List.getElem?_range hj]; rfl
theorem wideTo_step (l : List Int) (i : Nat) (hi : i < 7) : (wideTo l i).set i (getI l i) = wideTo l (i + 1) := by
  apply List.ext_getElem?
  intro j
  by_cases hj : j < 7
  · rw [List.getElem?_set, wideTo_len, wideTo_get _ _ _ hj]
    by_cases e : i = j
    · subst e; rw [if_pos rfl, if_pos hi, wideTo_get _ _ _ hj, if_pos (by omega)]
    · rw [if_neg e, wideTo_get _ _ _ hj]
      by_cases h : j < i
      · rw [if_pos h, if_pos (by omega)]
      · rw [if_neg h, if_neg (by omega)]
  · rw [List.getElem?_eq_none (by rw [List.length_set, wideTo_len]; omega), List.getElem?_eq_none (by rw [wideTo_len]; omega)]
theorem wideTo_end (l : List Int) (i : Nat) (hi : l.length ≤ i ∨ 7 ≤ i) : wideTo l i = wideI l := by
  unfold wideTo wideI
  refine List.map_congr_left fun j hj => ?_
  have hj := List.mem_range.1 hj
  by_cases h : j < i
  · rw [if_pos h]
  · rw [if_neg h, getI_nat, List.getD_eq_getElem?_getD, List.getElem?_eq_none (by omega)]; rfl
theorem icells_set (l : List Int) (i : Nat) (x : Int) : icells (l.set i x) = (icells l).set i (.int .i64 x) := by
  simp [icells, List.map_set]
theorem wideI_inR {w : World} {ok : Nat → Prop} {cs : List Value} {l : List Int} (h : u16sR.rel w ok cs l) : ∀ x ∈ l, 0 ≤ x ∧ x ≤ 65535 := by
  obtain ⟨A, c, _, _, _, _, _, h6⟩ := h
  intro x hx
  obtain ⟨j, hj⟩ := List.getElem?_of_mem hx
  obtain ⟨_, _, _, _, hr⟩ := RowOf.ints h6 hj
  exact inR_u16 hr
theorem wide_inR {l : List Int} (h : ∀ x ∈ l, 0 ≤ x ∧ x ≤ 65535) : ∀ x ∈ wideI l, Rd.inR .i64 x := by
  intro x hx
  unfold wideI at hx
  rw [List.mem_map] at hx
  obtain ⟨i, _, rfl⟩ := hx
  rw [getI_nat, List.getD_eq_getElem?_getD]
  cases hj : l[i]? with
  | none => exact inR_mk (by decide)
  | some y =>
    have := h y (List.mem_of_getElem? hj)
    exact inR_mk ⟨by simp; omega, by simp; omega⟩
theorem getI_u16 {l : List Int} (h : ∀ x ∈ l, 0 ≤ x ∧ x ≤ 65535) {i : Nat} {x : Int} (hj : l[i]? = some x) : getI l i = x ∧ 0 ≤ x ∧ x ≤ 65535 := by
  refine ⟨?_, h x (List.mem_of_getElem? hj)⟩
  rw [getI_nat, List.getD_eq_getElem?_getD, hj]; rfl
theorem u16_row {w : World} {ok : Nat → Prop} {A : Option Addr} {n c : Nat} {l : List Int} (h : u16sR.rel w ok [.slice A n c] l) : n = l.length ∧ Rd.RowOf (Rd.int .u16) w ok A l ∧ l.length ≤ 140737488355328 := by
  obtain ⟨A', c', hv, h2, h3, h4, h5, h6⟩ := h
  simp only [List.cons.injEq, Value.slice.injEq, and_true] at hv
  obtain ⟨rfl, rfl, rfl⟩ := hv
  exact ⟨rfl, h6, by omega⟩
theorem Try.info_int2 : (Try.prog.info? 3).map (fun i => (i.zero, i.size, i.bytes)) = some (some (.int .i64 0), 1, 8) := by kernel_rfl
theorem made7 (w : World) : ∃ w', (Instr.makeSlice 23 (.int .i64 7) (.int .i64 7)).run Try.prog w = .ok (.slice (some ⟨w.heap.size, 0, none⟩) 7 7) w' ∧
    w'.ownsRow w.heap.size 3 1 (.slice (some ⟨w.heap.size, 0, none⟩) 7 7) 7 (icells (List.replicate 7 0)) ∧ Mod (fun _ => False) w w' := by
  obtain ⟨i, hi, hz⟩ := Option.map_eq_some_iff.1 Try.info_int2
  simp only [Prod.mk.injEq] at hz
  obtain ⟨w', h1, h2, h3⟩ := run_make_full (P := Try.prog) w w.heap.size 23 3 i (.int .i64 0) 1 Try.underlying23 hi hz.1 hz.2.1 .i64 .i64 7 (by rw [hz.2.2]; decide) (by decide) (Nat.le_refl _)
  exact ⟨w', h1, by simpa [icells, toList_madeCells_one, Value.cells] using h2, (Mod.refl _ _).grown h3 (fun k hk => by cases hk)⟩
set_option maxRecDepth 100000 in
set_option maxHeartbeats 1000000 in
theorem wide_any (A : Option Addr) (n c : Nat) (l : List Int) (ok : Nat → Prop) (w : World) (h : u16sR.rel w ok [.slice A n c] l) :
    Calls Try.prog 29 #[.slice A n c] w fun e w' => e = .returned (.slice (some ⟨w.heap.size, 0, none⟩) 7 7) ∧ w'.ownsRow w.heap.size 3 1 (.slice (some ⟨w.heap.size, 0, none⟩) 7 7) 7 (icells (wideI l)) ∧ Mod (fun _ => False) w w' := by
  obtain ⟨rfl, hrow, hlm⟩ := u16_row h
  have hlen := h
  have hu := wideI_inR h
  have HR := Lib.hid (hrow.step fun k hk hl => ⟨(⟨hk, hl⟩ : ok k ∧ k < w.heap.size), rfl⟩); have HU := Lib.hid hu
  clear h hrow hlen hu
  obtain ⟨w1, hmk, ho, hm⟩ := made7 w
  have HO := Lib.hid (And.intro ho hm); clear ho hm
  go_enter Try.func29, Try.ntmps29
  go_wp2_with fail
  go_loopg [9] l.length (fun f si wr => ∃ (i : Nat), si = .int .i64 i ∧ i + f = l.length ∧ wr.ownsRow w.heap.size 3 1 (.slice (some ⟨w.heap.size, 0, none⟩) 7 7) 7 (icells (wideTo l i)) ∧ Mod (fun _ => False) w wr)
  case atStart =>
    refine ⟨0, rfl, by omega, ?_, HO.out.2⟩
    rw [show wideTo l 0 = List.replicate 7 0 by simp [wideTo, List.range_succ, List.replicate]]
    exact HO.out.1
  case round =>
    obtain ⟨i, rfl, hi, ho, hmod⟩ := hrel
    by_cases hlt : i < l.length
    · obtain ⟨x, hx⟩ : ∃ x, l[i]? = some x := ⟨_, List.getElem?_eq_getElem hlt⟩
      obtain ⟨hgx, hx0, hx1⟩ := getI_u16 HU.out hx
      have hrr : Rd.RowOf (Rd.int .u16) wr (fun k => ok k ∧ k < w.heap.size) A l := HR.out.step fun k hk _ => ⟨hk, hmod.block k hk.2 id⟩
      obtain ⟨ad, rfl, hok, hcx, -⟩ := RowOf.ints hrr hx
      by_cases h7 : i < 7
      · have hcA := (World.ownsRow.cellAt ho i (by omega)).trans (show (icells (wideTo l i))[i]? = some (.int .i64 0) by simp [icells, wideTo_get l i i h7])
        have hfA := World.ownsRow.frozenAt ho i
        have hst := World.ownsRow.stored ho i (.int .i64 x)
        rw [← icells_set, ← hgx, wideTo_step l i h7, hgx] at hst
        have HX := Lib.hid (And.intro hi (And.intro ho (And.intro hmod hst)))
        clear hi ho hmod hst hx hrr hok hgx
        go_wp2_with fail
        go_roundg (gk - 1)
        case measure => have := HX.out.1; omega
        case rel => exact ⟨i + 1, by go_num, by have := HX.out.1; omega, HX.out.2.2.2.1, HX.out.2.2.1.grown HX.out.2.2.2.2 (fun k hk => .inr (by cases hk; exact Nat.le_refl _))⟩
      · have HX := Lib.hid (And.intro hi (And.intro ho hmod)); clear hi ho hmod hx hrr hok hgx
        have hd : decide ((i : Int) < 7) = false := by simp; omega
        go_wp2_with fail
        go_roundg (gk - 1)
        case measure => have := HX.out.1; omega
        case rel => exact ⟨i + 1, by go_num, by have := HX.out.1; omega, by rw [wideTo_end l (i + 1) (by omega), ← wideTo_end l i (by omega)]; exact HX.out.2.1, HX.out.2.2⟩
    · rw [wideTo_end l i (by omega)] at ho
      have HX := Lib.hid (And.intro hi (And.intro ho hmod)); clear hi ho hmod
      go_wp2_with fail
      go_ret
      exact ⟨rfl, HX.out.2⟩
end Go.Proofs.Ytgdadhpcooegnaa
