/- Layer 22: votes, the document's answer. -/
import Derived.Test.YtgdadhpcooegnaaQuorum17
namespace Go.Proofs.Ytgdadhpcooegnaa
open Go.RowKit
set_option linter.unusedVariables false
def aboveV (out : List Int) (v : Int) : Bool := match out.getLast? with | none => true | some x => decide (x < v)
def pstep (out : List Int) (s : Int × Bool) (v : Int) : Int × Bool := if aboveV out v = true ∧ (s.2 = false ∨ v < s.1) then (v, true) else s
def pickV (all out : List Int) : Int × Bool := all.foldl (pstep out) (0, false)
def outV (all : List Int) : Nat → List Int
  | 0 => []
  | r + 1 => if (pickV all (outV all r)).2 then outV all r ++ [(pickV all (outV all r)).1] else outV all r
theorem pick_take {all : List Int} {j : Nat} {v : Int} (h : all[j]? = some v) (out : List Int) : (all.take (j + 1)).foldl (pstep out) (0, false) = pstep out ((all.take j).foldl (pstep out) (0, false)) v := by
  rw [List.take_add_one, h, List.foldl_append]; rfl
theorem outV_len (all : List Int) : ∀ r, (outV all r).length ≤ r
  | 0 => Nat.le_refl _
  | r + 1 => by
    have := outV_len all r
    rw [outV]
    split
    · rw [List.length_append]; simp; omega
    · omega
theorem own_int_cells {w : World} {base : Nat} {e : TypeId} {v : Value} {xs : List Int} {S : Nat → Prop} (h : OwnR (Rd.int .i64) e w base S v xs) : w.ownsRow base e 1 v xs.length (icells xs) := by
  obtain ⟨cells, h1, h2⟩ := h
  have h1' : w.ownsRow base e 1 v xs.length cells := h1
  have hl : cells.length = xs.length := by have := h1'.1; omega
  have : cells = icells xs := by
    apply List.ext_getElem?
    intro j
    by_cases hj : j < xs.length
    · have hr := (h2 j xs[j] (List.getElem?_eq_getElem hj)).1
      have := take_one (o := j * 1) hr
      rw [Nat.mul_one] at this
      rw [this]
      simp [icells, hj]
    · rw [List.getElem?_eq_none (by omega), List.getElem?_eq_none (by rw [icells_length]; omega)]
  rw [← this]
  exact h1'
theorem last_cell {w : World} {base : Nat} {e : TypeId} {A : Option Addr} {c : Nat} {out : List Int} (h : w.ownsRow base e 1 (.slice A out.length c) out.length (icells out)) (hne : out ≠ []) :
    ∃ g x, A = some ⟨g, 0, none⟩ ∧ out.getLast? = some x ∧ w.cell? ⟨g, out.length - 1, none⟩ = some (.int .i64 x) := by
  rcases h.2 with ⟨_, h0⟩ | ⟨g, cap, cur, hv, _⟩
  · exact absurd (List.eq_nil_of_length_eq_zero h0) hne
  · cases hv
    refine ⟨g, out.getLast hne, rfl, List.getLast?_eq_some_getLast hne, ?_⟩
    have hpos := List.length_pos_iff.2 hne
    have := World.ownsRow.cells h (g := g) rfl (out.length - 1) (.int .i64 (out.getLast hne))
    rw [agg_at] at this
    refine this ?_
    simp [icells, List.getLast_eq_getElem, List.getElem?_eq_getElem (show out.length - 1 < out.length by omega)]
set_option maxRecDepth 100000 in
set_option maxHeartbeats 2000000 in
theorem refvoted_any (A : Option Addr) (n c : Nat) (l : List Int) (i : Int) (ok : Nat → Prop) (w : World) (h : intsR.rel w ok [.slice A n c] l) (hl : l.length ≤ 1000000) :
    Calls Try.prog 28 #[.slice A n c, .int .i64 i] w fun e w' => ∃ A' c', e = .returned (.slice A' (outV (l ++ [i]) (l ++ [i]).length).length c') ∧ w'.ownsRow w.heap.size 3 1 (.slice A' (outV (l ++ [i]) (l ++ [i]).length).length c') (outV (l ++ [i]) (l ++ [i]).length).length (icells (outV (l ++ [i]) (l ++ [i]).length)) ∧ Mod (fun _ => False) w w' := by
  obtain ⟨rfl, hcap, hrow, hnil, -⟩ := ints_row h
  have H0 := Lib.hid (And.intro hrow hnil)
  clear h hrow hnil
  obtain ⟨all, hall⟩ : ∃ all, all = l ++ [i] := ⟨_, rfl⟩
  rw [← hall]
  have HALL := Lib.hid hall; clear hall
  go_enter Try.func28, Try.ntmps28
  go_wp2_with (at_builtin; refine append_all (R := Rd.int .i64) w.heap.size rfl _ _ 23 3 (.int .i64 0) 8 rfl Try.underlying23 Try.info_int rfl (.slice (some ⟨w.heap.size, 0, none⟩) 0 0) [] l (fun k => ok k ∧ k < w.heap.size) A c rfl rfl ?c1 ?c2 H0.out.2 ?c3 ?c4 (by decide) ?_)
  case c1 => exact ⟨[], World.ownsRow_made w #[] 0 (Nat.le_refl _) (by decide) rfl, fun j x h => by simp at h⟩
  case c2 => exact Rd.RowOf.weak <| H0.out.1.step fun k hk hl => ⟨⟨hk, fun e => by have := hk.2; simp only [Value.ownBlock, Option.some.injEq] at e; omega⟩, ((Mod.refl (fun _ => False) w).alloc _).block k hl id⟩
  case c3 => simp
  case c4 => simp only [List.length_nil]; omega
  intro A1 c1 w1 hO1 hm1 hn1
  have hm1' : Mod (fun _ => False) w w1 := ((Mod.refl (fun _ => False) w).alloc (.cells #[] 3)).trans hm1 (fun k hk => .inr (by simp only [Value.ownBlock, Option.some.injEq] at hk; omega))
  have hO1' : w1.ownsRow w.heap.size 3 1 (.slice A1 l.length c1) l.length (icells l) := own_int_cells (by simpa using hO1)
  have hs1 := hm1'.size
  have H1 := Lib.hid (And.intro hO1' hm1'); clear hO1 hO1' hm1 hn1 hm1'
  go_wp2_with (at_builtin; refine append_one w.heap.size rfl _ _ 23 3 (.int .i64 0) 8 rfl Try.underlying23 Try.info_int rfl (by decide) (.slice A1 l.length c1) (icells l) _ rfl rfl rfl (by rw [icells_length]; exact H1.out.1) hs1 (by rw [icells_length]; omega) ?_)
  rw [icells_length]
  intro A2 c2 w2 hO2 hg2 hn2
  have hall := HALL.out
  have hlen : all.length = l.length + 1 := by rw [hall]; simp
  have hO2' : w2.ownsRow w.heap.size 3 1 (.slice A2 all.length c2) all.length (icells all) := by
    rw [hall, icells_append, List.length_append]; exact hO2
  have hm2 : Mod (fun _ => False) w w2 := H1.out.2.grown hg2 (fun k hk => .inr (H1.out.1.lt k hk.symm).1)
  have hr2 : ∀ v ∈ icells all, v.oneCell' = true := icells_one all
  have hrow : ∀ (w3 : World), Mod (fun _ => False) w2 w3 → ∀ (j : Nat) (x : Int), all[j]? = some x → ∃ g, A2 = some ⟨g, 0, none⟩ ∧ w3.cell? ⟨g, j, none⟩ = some (.int .i64 x) := by
    intro w3 hm3 j x hj
    rcases hO2'.2 with ⟨_, h0⟩ | ⟨g, cap, cur, hv, _⟩
    · have : all = [] := List.eq_nil_of_length_eq_zero h0
      rw [this] at hj; simp at hj
    · cases hv
      refine ⟨g, rfl, ?_⟩
      have hc := World.ownsRow.cells hO2' (g := g) rfl j (.int .i64 x) (by simp [icells, hj])
      rw [agg_at] at hc
      rw [hm3.cell (a := ⟨g, j, none⟩) (lt_of_cell hc) id]
      exact hc
  have hs2 := hm2.size
  have HA := Lib.hid (And.intro hlen (And.intro hm2 hrow)); clear hO2 hO2' hg2 hn2 hm2 hr2 hrow hlen hall
  have hN : l.length + 1 ≤ 1000001 := by omega
  obtain ⟨N, hNe⟩ : ∃ N, N = l.length + 1 := ⟨_, rfl⟩
  rw [← hNe] at HA hN ⊢
  clear H0 H1 hcap hs1 hNe hl
  go_wp2_with fail
  go_loopg [5, 19] N (fun f s5 si wr => ∃ (r : Nat) (out : List Int) (A5 : Option Addr) (c5 : Nat), si = .int .i64 r ∧ r + f = N ∧ s5 = .slice A5 out.length c5 ∧ Hid (outV all r = out ∧ wr.ownsRow w2.heap.size 3 1 (.slice A5 out.length c5) out.length (icells out) ∧ Mod (fun _ => False) w2 wr ∧ out.length ≤ r))
  case atStart => exact ⟨0, [], none, 0, rfl, by omega, rfl, ⟨rfl, World.ownsRow_nil _ _ _ _, .refl _ _, Nat.le_refl _⟩⟩
  case round =>
    obtain ⟨r, out, A5, c5, rfl, hr, rfl, HI⟩ := hrel
    by_cases hlt : r < N
    · have hd : decide ((r : Int) < (N : Int)) = true := by simp; omega
      have hob : out.length ≤ 1000001 := by have := HI.out.2.2.2; omega
      go_wp2_with fail
      go_loopg [7, 8, 23] N (fun f s7 s8 si wx => wx = wr ∧ ∃ (j : Nat) (b : Int) (t : Bool), s7 = .int .i64 b ∧ s8 = .bool t ∧ si = .int .i64 j ∧ j + f = N ∧ Hid ((all.take j).foldl (pstep out) (0, false) = (b, t)))
      case atStart => exact ⟨rfl, 0, 0, false, rfl, rfl, rfl, by omega, (rfl : (all.take 0).foldl (pstep out) (0, false) = _)⟩
      case round =>
        obtain ⟨rfl, j, b, t, rfl, rfl, rfl, hj, HJ⟩ := hrel
        by_cases hjt : j < N
        · have hdj : decide ((j : Int) < (N : Int)) = true := by simp; omega
          obtain ⟨v, hv⟩ : ∃ v, all[j]? = some v := ⟨_, List.getElem?_eq_getElem (by rw [HA.out.1]; exact hjt)⟩
          obtain ⟨g6, rfl, hcv⟩ := HA.out.2.2 _ HI.out.2.2.1 j v hv
          have hst := pick_take hv out
          rw [HJ.out] at hst
          have hway : (out.length = 0 ∧ aboveV out v = true) ∨ (0 < out.length ∧ ∃ g x, A5 = some ⟨g, 0, none⟩ ∧ wr.cell? ⟨g, out.length - 1, none⟩ = some (.int .i64 x) ∧ aboveV out v = decide (x < v)) := by
            by_cases ho : out = []
            · left; subst ho; exact ⟨rfl, rfl⟩
            · right
              obtain ⟨g, x, h1, h2, h3⟩ := last_cell HI.out.2.1 ho
              exact ⟨List.length_pos_iff.2 ho, g, x, h1, h3, by unfold aboveV; rw [h2]⟩
          have HS := Lib.hid hst; clear hst hv
          rcases hway with ⟨h0, hab⟩ | ⟨hpos, g, x, rfl, hcx, hab⟩
          · have hk : ((out.length : Int) == 0) = true := by rw [h0]; rfl
            have HAB := Lib.hid hab; clear hab h0
            cases t with
            | false =>
              go_wp2_with fail
              go_roundg (gk - 1)
              case measure => omega
              case rel => exact ⟨rfl, j + 1, v, true, rfl, rfl, by go_num, by omega, (by rw [HS.out]; unfold pstep; rw [if_pos ⟨HAB.out, by simp⟩] : (all.take (j + 1)).foldl (pstep out) (0, false) = (v, true))⟩
            | true =>
              by_cases hvb : v < b
              · have hdv : decide (v < b) = true := by simpa using hvb
                go_wp2_with fail
                go_roundg (gk - 1)
                case measure => omega
                case rel => exact ⟨rfl, j + 1, v, true, rfl, rfl, by go_num, by omega, (by rw [HS.out]; unfold pstep; rw [if_pos ⟨HAB.out, by simp; omega⟩] : (all.take (j + 1)).foldl (pstep out) (0, false) = (v, true))⟩
              · have hdv : decide (v < b) = false := by simpa using hvb
                go_wp2_with fail
                go_roundg (gk - 1)
                case measure => omega
                case rel => exact ⟨rfl, j + 1, b, true, rfl, rfl, by go_num, by omega, (by rw [HS.out]; unfold pstep; rw [if_neg (fun h4 => h4.2.elim (fun e => by cases e) (Int.not_lt.2 hvb))] : (all.take (j + 1)).foldl (pstep out) (0, false) = (b, true))⟩
          · have hk : ((out.length : Int) == 0) = false := beq_eq_false_iff_ne.2 (by omega)
            have hk1 : (out.length : Int) - 1 = ((out.length - 1 : Nat) : Int) := by omega
            by_cases hxv : x < v
            · have hdx : decide (x < v) = true := by simpa using hxv
              rw [hdx] at hab
              have HAB := Lib.hid hab; clear hab hxv
              cases t with
              | false =>
                go_wp2_with fail
                go_roundg (gk - 1)
                case measure => omega
                case rel => exact ⟨rfl, j + 1, v, true, rfl, rfl, by go_num, by omega, (by rw [HS.out]; unfold pstep; rw [if_pos ⟨HAB.out, by simp⟩] : (all.take (j + 1)).foldl (pstep out) (0, false) = (v, true))⟩
              | true =>
                by_cases hvb : v < b
                · have hdv : decide (v < b) = true := by simpa using hvb
                  go_wp2_with fail
                  go_roundg (gk - 1)
                  case measure => omega
                  case rel => exact ⟨rfl, j + 1, v, true, rfl, rfl, by go_num, by omega, (by rw [HS.out]; unfold pstep; rw [if_pos ⟨HAB.out, by simp; omega⟩] : (all.take (j + 1)).foldl (pstep out) (0, false) = (v, true))⟩
                · have hdv : decide (v < b) = false := by simpa using hvb
                  go_wp2_with fail
                  go_roundg (gk - 1)
                  case measure => omega
                  case rel => exact ⟨rfl, j + 1, b, true, rfl, rfl, by go_num, by omega, (by rw [HS.out]; unfold pstep; rw [if_neg (fun h4 => h4.2.elim (fun e => by cases e) (Int.not_lt.2 hvb))] : (all.take (j + 1)).foldl (pstep out) (0, false) = (b, true))⟩
            · have hdx : decide (x < v) = false := by simpa using hxv
              rw [hdx] at hab
              have HAB := Lib.hid hab; clear hab hxv
              go_wp2_with fail
              go_roundg (gk - 1)
              case measure => omega
              case rel => exact ⟨rfl, j + 1, b, t, rfl, rfl, by go_num, by omega, (by rw [HS.out]; unfold pstep; rw [if_neg (by rw [HAB.out]; simp)] : (all.take (j + 1)).foldl (pstep out) (0, false) = (b, t))⟩
        · obtain rfl : j = N := by omega
          have hpick : pickV all out = (b, t) := by have := HJ.out; rwa [← HA.out.1, List.take_length] at this
          have hnext : outV all (r + 1) = if t then out ++ [b] else out := by rw [outV, HI.out.1, hpick]
          have HN := Lib.hid hnext; clear hpick hnext
          cases t with
          | false =>
            go_wp2_with fail
            go_roundg (j - r - 1)
            case measure => omega
            case rel => exact ⟨r + 1, out, A5, c5, by go_num, by omega, rfl, ⟨HN.out, HI.out.2.1, HI.out.2.2.1, by have := HI.out.2.2.2; omega⟩⟩
          | true =>
            go_wp2_with (at_builtin; refine append_one w2.heap.size rfl _ _ 23 3 (.int .i64 0) 8 rfl Try.underlying23 Try.info_int rfl (by decide) (.slice A5 out.length c5) (icells out) _ rfl rfl rfl (by rw [icells_length]; exact HI.out.2.1) HI.out.2.2.1.size (by rw [icells_length]; omega) ?_)
            rw [icells_length]
            intro A7 c7 w7 hO7 hg7 hn7
            have hO7' : w7.ownsRow w2.heap.size 3 1 (.slice A7 (out.length + 1) c7) (out ++ [b]).length (icells (out ++ [b])) := by rw [icells_append, List.length_append]; exact hO7
            have hm7 := HI.out.2.2.1.grown hg7 (fun k hk => .inr (HI.out.2.1.lt k hk.symm).1)
            have H7 := Lib.hid (And.intro hO7' hm7); clear hO7 hO7' hg7 hn7 hm7
            go_wp2_with fail
            go_roundg (j - r - 1)
            case measure => omega
            case rel => exact ⟨r + 1, out ++ [b], A7, c7, by go_num, by omega, by simp, ⟨HN.out, by simpa using H7.out.1, H7.out.2, by have := HI.out.2.2.2; simp; omega⟩⟩
    · obtain rfl : r = N := by omega
      have hd : decide ((r : Int) < (r : Int)) = false := by simp
      go_wp2_with fail
      go_ret
      have ho := HI.out.1
      rw [← HA.out.1] at ho
      rw [ho]
      refine ⟨A5, c5, rfl, ?_, HA.out.2.1.trans HI.out.2.2.1 (fun _ h => h.elim)⟩
      obtain ⟨q0, q1⟩ := HI.out.2.1
      refine ⟨q0, ?_⟩
      rcases q1 with q1 | ⟨g, cp, cur, q2, q3, q4⟩
      · exact .inl q1
      · exact .inr ⟨g, cp, cur, q2, by omega, q4⟩
end Go.Proofs.Ytgdadhpcooegnaa
