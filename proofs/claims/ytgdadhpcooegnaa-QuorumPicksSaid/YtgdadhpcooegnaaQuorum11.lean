/- Layer 22: Keep's parts: a sender's messages are taken out. -/
import Derived.Test.YtgdadhpcooegnaaQuorum10
import Derived.Test.YtgdadhpcooegnaaRow2
namespace Go.Proofs.Ytgdadhpcooegnaa
open Go.RowKit
set_option linter.unusedVariables false
def notFrom (f : Int) (x : Msg) : Bool := !(x.from_ == f)
theorem filter_take {l : List Msg} {j : Nat} {x : Msg} (h : l[j]? = some x) (f : Int) : (l.take (j + 1)).filter (notFrom f) = (l.take j).filter (notFrom f) ++ if notFrom f x then [x] else [] := by
  rw [List.take_add_one, h, List.filter_append]
  cases hx : notFrom f x <;> simp [hx]
/-- the row while elements are moved up: i are kept, j are looked at -/
structure DelAt (w0 : World) (S : Nat → Prop) (g : Nat) (l : List Msg) (f : Int) (cur : List Value) (i j : Nat) (row : List Value) (w : World) : Prop where
  blk : w.heap[g]? = some (.cells row.toArray 40 (0, 0))
  mod : Mod (fun k => k = g) w0 w
  ex : ∃ F mid, row = F ++ mid ++ cur.drop (j * 35) ∧ F.length = i * 35 ∧ F.length + mid.length = j * 35 ∧ ∀ t x, ((l.take j).filter (notFrom f))[t]? = some x → MsgR.rel w (fun k => S k ∧ k ≠ g) ((F.drop (t * 35)).take 35) x
  num : ((l.take j).filter (notFrom f)).length = i
theorem DelAt.at_ {w0 w : World} {S : Nat → Prop} {g : Nat} {l : List Msg} {f : Int} {cur : List Value} {i j n c : Nat} {row : List Value} (h : DelAt w0 S g l f cur i j row w) (hcur : cur.length = c * 35) (hn : n ≤ c) (hj : j < n) {x : Msg}
    (hx : MsgR.rel w0 (fun k => S k ∧ k ≠ g) (((cur.take (n * 35)).drop (j * 35)).take 35) x) :
    MsgR.rel w (fun k => S k ∧ k ≠ g) ((cur.drop (j * 35)).take 35) x ∧ ∀ t u, ((cur.drop (j * 35)).take 35)[t]? = some u → w.cell? ⟨g, j * 35 + t, none⟩ = some u := by
  have e : ((cur.take (n * 35)).drop (j * 35)).take 35 = (cur.drop (j * 35)).take 35 := by
    rw [List.drop_take, List.take_take]
    congr 1
    omega
  rw [e] at hx
  refine ⟨Rd.mod hx h.mod (fun k hk => hk.2), fun t u hu => ?_⟩
  obtain ⟨F, mid, hrow, hF, hm, _⟩ := h.ex
  rw [cell_of_blk h.blk, hrow]
  have hlt : t < 35 := by
    have := (List.getElem?_eq_some_iff.1 hu).1
    simp at this
    omega
  rw [List.getElem?_take_of_lt hlt] at hu
  have hl : (F ++ mid).length = j * 35 := by simp; omega
  rw [List.getElem?_toArray, List.getElem?_append_right (by omega), hl, Nat.add_sub_cancel_left]
  exact hu
/-- one is passed over -/
theorem DelAt.skip {w0 w w1 : World} {S : Nat → Prop} {g : Nat} {l : List Msg} {f : Int} {cur : List Value} {i j c : Nat} {row : List Value} (h : DelAt w0 S g l f cur i j row w) (hm : Mod (fun _ => False) w w1) (hcur : cur.length = c * 35) (hj : j < c) {x : Msg} (hx : l[j]? = some x) (hno : notFrom f x = false) : DelAt w0 S g l f cur i (j + 1) row w1 := by
  obtain ⟨F, mid, hrow, hF, hmid, hr⟩ := h.ex
  have e : (l.take (j + 1)).filter (notFrom f) = (l.take j).filter (notFrom f) := by rw [filter_take hx f, hno]; simp
  refine ⟨(hm.block g (lt_of_blk h.blk) id).trans h.blk, h.mod.trans hm (fun _ h => h.elim), ⟨F, mid ++ (cur.drop (j * 35)).take 35, ?_, hF, ?_, ?_⟩, by rw [e]; exact h.num⟩
  · rw [hrow, List.append_assoc, List.append_assoc, List.append_assoc]
    congr 2
    rw [show (j + 1) * 35 = j * 35 + 35 by omega, ← List.drop_drop, List.take_append_drop]
  · simp only [List.length_append, List.length_take, List.length_drop]
    omega
  · rw [e]
    exact fun t y hy => Rd.mod (hr t y hy) hm (fun _ _ => id)
/-- one is kept -/
theorem DelAt.keep {w0 w w1 w2 : World} {S : Nat → Prop} {g : Nat} {l : List Msg} {f : Int} {cur : List Value} {i j c : Nat} {row : List Value} (h : DelAt w0 S g l f cur i j row w) (hm : Mod (fun _ => False) w w1) (hm2 : Mod (fun k => k = g) w1 w2) (hcur : cur.length = c * 35) (hj : j < c) (hij : i < j) {x : Msg} (hx : l[j]? = some x) (hyes : notFrom f x = true)
    (hrel : MsgR.rel w (fun k => S k ∧ k ≠ g) ((cur.drop (j * 35)).take 35) x) (hb : w2.heap[g]? = some (.cells (laid row (i * 35) ((cur.drop (j * 35)).take 35)).toArray 40 (0, 0))) :
    DelAt w0 S g l f cur (i + 1) (j + 1) (laid row (i * 35) ((cur.drop (j * 35)).take 35)) w2 := by
  obtain ⟨F, mid, hrow, hF, hmid, hr⟩ := h.ex
  have hcl : ((cur.drop (j * 35)).take 35).length = 35 := by rw [List.length_take, List.length_drop]; omega
  have e : (l.take (j + 1)).filter (notFrom f) = (l.take j).filter (notFrom f) ++ [x] := by rw [filter_take hx f, hyes]; simp
  have hmod12 : Mod (fun k => k = g) w w2 := (hm.mono (fun k h => h.elim)).trans hm2 (fun k hk => .inl hk)
  refine ⟨hb, h.mod.trans hmod12 (fun k hk => .inl hk), ⟨F ++ (cur.drop (j * 35)).take 35, mid.drop 35 ++ (cur.drop (j * 35)).take 35, ?_, ?_, ?_, ?_⟩, by rw [e, List.length_append, h.num]; rfl⟩
  · unfold laid
    rw [hcl, hrow, List.append_assoc F, List.take_append_of_le_length (by omega), List.take_of_length_le (by omega), ← List.drop_drop, List.drop_left' hF, List.drop_append_of_le_length (by omega)]
    simp only [List.append_assoc]
    congr 3
    rw [show (j + 1) * 35 = j * 35 + 35 by omega, ← List.drop_drop, List.take_append_drop]
  · rw [List.length_append, hcl]; omega
  · simp only [List.length_append, List.length_drop, hcl]; omega
  · intro t y hy
    rw [e] at hy
    by_cases ht : t < i
    · rw [List.getElem?_append_left (by rw [h.num]; exact ht)] at hy
      rw [drop_take_left hF ht]
      exact Rd.mod (hr t y hy) hmod12 (fun k hk => hk.2)
    · rw [List.getElem?_append_right (by rw [h.num]; omega), h.num] at hy
      have hti : t - i = 0 := by
        have := (List.getElem?_eq_some_iff.1 hy).1
        simp at this; omega
      rw [hti] at hy
      have : x = y := by simpa using hy
      subst this
      rw [drop_take_right hF (by omega), hti, Nat.zero_mul, List.drop_zero, List.take_of_length_le (by omega)]
      exact Rd.mod hrel hmod12 (fun k hk => hk.2)
end Go.Proofs.Ytgdadhpcooegnaa
