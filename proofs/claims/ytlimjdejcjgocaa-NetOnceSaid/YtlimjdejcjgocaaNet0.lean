/- The net: packets as the queue holds them, the queue's row in memory. -/
import Derived.Test.YtlimjdejcjgocaaRow2
import Derived.Test.YtlimjdejcjgocaaHeapS
import Derived.Test.YtlimjdejcjgocaaChecked
namespace Go.Proofs.Ytlimjdejcjgocaa
open Go.RowKit
set_option linter.unusedVariables false
/-- a packet as its four cells are; the bytes by their slice -/
structure Pk where
  seq : Int
  to : Int
  due : Int
  A : Option Addr
  n : Nat
  c : Nat
def Pk.v (p : Pk) : Value := .slice p.A p.n p.c
def Pk.cells (p : Pk) : List Value := [.int .i64 p.seq, .int .i64 p.to, .int .i64 p.due, p.v]
def ltK (p q : Pk) : Bool := decide (p.due < q.due) || (decide (p.due = q.due) && decide (p.seq < q.seq))
theorem ltK_iff {p q : Pk} : ltK p q = true ↔ p.due < q.due ∨ (p.due = q.due ∧ p.seq < q.seq) := by unfold ltK; simp
theorem ltK_no {p q : Pk} : ltK p q = false ↔ q.due < p.due ∨ (p.due = q.due ∧ q.seq ≤ p.seq) := by
  rw [← Bool.not_eq_true, ltK_iff]; omega
theorem ltK_ord : Ord ltK := ⟨fun x y h => by rw [ltK_iff] at h; rw [ltK_no]; omega, fun x y z h g => by rw [ltK_no] at *; omega⟩
def flatK (xs : List Pk) : List Value := xs.flatMap Pk.cells
theorem flatK_length (xs : List Pk) : (flatK xs).length = xs.length * 4 := by
  induction xs with
  | nil => rfl
  | cons x xs ih => simp only [flatK, List.flatMap_cons, List.length_append, List.length_cons] at *; rw [ih]; simp [Pk.cells]; omega
theorem flatK_append (xs ys : List Pk) : flatK (xs ++ ys) = flatK xs ++ flatK ys := by simp [flatK]
theorem flatK_get {xs : List Pk} {i : Nat} {p : Pk} (h : xs[i]? = some p) (j : Nat) (hj : j < 4) : (flatK xs)[i * 4 + j]? = p.cells[j]? := by
  induction xs generalizing i with
  | nil => simp at h
  | cons x xs ih =>
    simp only [flatK, List.flatMap_cons]
    cases i with
    | zero =>
      simp only [List.getElem?_cons_zero, Option.some.injEq] at h
      subst h
      rw [List.getElem?_append_left (by simp [Pk.cells]; omega)]
      simp
    | succ i =>
      rw [List.getElem?_append_right (by simp [Pk.cells]; omega)]
      have e : (i + 1) * 4 + j - x.cells.length = i * 4 + j := by simp [Pk.cells]; omega
      rw [e]
      exact ih (by simpa using h)
theorem flatK_take (xs : List Pk) (n : Nat) : flatK (xs.take n) = (flatK xs).take (n * 4) := by
  induction xs generalizing n with
  | nil => simp [flatK]
  | cons x xs ih =>
    cases n with
    | zero => simp [flatK]
    | succ n =>
      have := ih n
      simp only [flatK, List.take_succ_cons, List.flatMap_cons] at *
      have e : x.cells.length = 4 := rfl
      rw [this, List.take_append, List.take_of_length_le (l := x.cells) (by omega), e, show (n + 1) * 4 - 4 = n * 4 by omega]
theorem flatK_set (xs : List Pk) (i : Nat) (p : Pk) (h : i < xs.length) : flatK (xs.set i p) = laid (flatK xs) (i * 4) p.cells := by
  induction xs generalizing i with
  | nil => simp at h
  | cons x xs ih =>
    cases i with
    | zero => simp [flatK, laid, Pk.cells]
    | succ i =>
      have := ih i (by simpa using h)
      unfold laid at this ⊢
      simp only [flatK, List.set_cons_succ, List.flatMap_cons] at *
      rw [this]
      have e : x.cells.length = 4 := rfl
      have e' : p.cells.length = 4 := rfl
      have e1 : (x.cells ++ xs.flatMap Pk.cells).take ((i + 1) * 4) = x.cells ++ (xs.flatMap Pk.cells).take (i * 4) := by
        rw [List.take_append, List.take_of_length_le (l := x.cells) (by omega), e, show (i + 1) * 4 - 4 = i * 4 by omega]
      have e2 : (x.cells ++ xs.flatMap Pk.cells).drop ((i + 1) * 4 + p.cells.length) = (xs.flatMap Pk.cells).drop (i * 4 + p.cells.length) := by
        rw [List.drop_append, (show x.cells.drop ((i + 1) * 4 + p.cells.length) = [] from List.drop_eq_nil_of_le (by omega)), List.nil_append, e, e', show (i + 1) * 4 + 4 - 4 = i * 4 + 4 by omega]
      rw [e1, e2]; simp
theorem pk_one (p : Pk) : ∀ u ∈ p.cells, u.oneCell' = true := by
  intro u hu
  simp only [Pk.cells, List.mem_cons, List.not_mem_nil, or_false] at hu
  rcases hu with rfl | rfl | rfl | rfl <;> rfl
/-- the queue's row: packets xs at the head of block g -/
def QRow (w : World) (g cap : Nat) (xs : List Pk) : Prop :=
  xs.length ≤ cap ∧ cap ≤ maxLen ∧ ∃ rest, (flatK xs ++ rest).length = cap * 4 ∧ w.heap[g]? = some (.cells (flatK xs ++ rest).toArray 35 (0, 0))
theorem QRow.cell {w : World} {g cap : Nat} {xs : List Pk} (h : QRow w g cap xs) {i : Nat} {p : Pk} (hp : xs[i]? = some p) (j : Nat) (hj : j < 4) : w.cell? ⟨g, i * 4 + j, none⟩ = p.cells[j]? := by
  obtain ⟨_, _, rest, _, hb⟩ := h
  have hi := (List.getElem?_eq_some_iff.1 hp).1
  rw [cell_of_blk hb]
  simp only [List.getElem?_toArray]
  rw [List.getElem?_append_left (by rw [flatK_length]; omega), flatK_get hp j hj]
theorem QRow.lt {w : World} {g cap : Nat} {xs : List Pk} (h : QRow w g cap xs) : g < w.heap.size := by
  obtain ⟨_, _, _, _, hb⟩ := h; exact lt_of_blk hb
theorem QRow.move {w w1 : World} {g cap : Nat} {xs : List Pk} (h : QRow w g cap xs) (hb : w1.heap[g]? = w.heap[g]?) : QRow w1 g cap xs := by
  obtain ⟨a, b, r, c, d⟩ := h; exact ⟨a, b, r, c, hb.trans d⟩
theorem laid_append {cur rest cs : List Value} {off : Nat} (h : off + cs.length ≤ cur.length) : laid (cur ++ rest) off cs = laid cur off cs ++ rest := by
  unfold laid
  rw [List.take_append_of_le_length (by omega), List.drop_append_of_le_length (by omega)]
  simp
theorem laid_length {cur cs : List Value} {off : Nat} (h : off + cs.length ≤ cur.length) : (laid cur off cs).length = cur.length := by
  unfold laid; simp; omega
/-- behind a store of a whole packet -/
theorem QRow.store {w1 : World} {g cap : Nat} {xs : List Pk} {i : Nat} (p : Pk) (hi : i < xs.length) {rest : List Value} (hc : xs.length ≤ cap) (hm : cap ≤ maxLen) (hl : (flatK xs ++ rest).length = cap * 4)
    (hb : w1.heap[g]? = some (.cells (laid (flatK xs ++ rest) (i * 4) p.cells).toArray 35 (0, 0))) :
    w1.heap[g]? = some (.cells (flatK (xs.set i p) ++ rest).toArray 35 (0, 0)) ∧ QRow w1 g cap (xs.set i p) := by
  have hf : i * 4 + p.cells.length ≤ (flatK xs).length := by rw [flatK_length]; simp [Pk.cells]; omega
  have e : laid (flatK xs ++ rest) (i * 4) p.cells = flatK (xs.set i p) ++ rest := by rw [laid_append hf, flatK_set xs i p hi]
  rw [e] at hb
  refine ⟨hb, by simpa using hc, hm, rest, ?_, hb⟩
  rw [← hl]; simp [flatK_length]
theorem QRow.owns {w : World} {g cap : Nat} {xs : List Pk} (h : QRow w g cap xs) : w.ownsRow 0 35 4 (.slice (some ⟨g, 0, none⟩) xs.length cap) xs.length (flatK xs) := by
  obtain ⟨a, b, r, c, d⟩ := h
  exact ⟨flatK_length xs, .inr ⟨g, cap, _, rfl, Nat.zero_le _, d, a, b, by simpa using c, by simp [← flatK_length]⟩⟩
theorem QRow.of_owns {w : World} {g cap n : Nat} {xs : List Pk} (h : w.ownsRow 0 35 4 (.slice (some ⟨g, 0, none⟩) n cap) xs.length (flatK xs)) : n = xs.length ∧ QRow w g cap xs := by
  obtain ⟨h0, h1⟩ := h
  rcases h1 with ⟨h1, _⟩ | ⟨g', cap', cur, hv, _, hb, r1, r2, r3, r4⟩
  · cases h1
  · simp only [Value.slice.injEq, Option.some.injEq, Addr.mk.injEq] at hv
    obtain ⟨⟨rfl, _⟩, rfl, rfl⟩ := hv
    refine ⟨rfl, r1, r2, cur.toList.drop (xs.length * 4), ?_, ?_⟩
    · rw [← r4, List.take_append_drop]; simpa using r3
    · rw [← r4, List.take_append_drop]; simpa using hb
/-- the end cut off -/
theorem QRow.cut {w : World} {g cap : Nat} {xs : List Pk} (h : QRow w g cap xs) (n : Nat) : QRow w g cap (xs.take n) := by
  obtain ⟨a, b, r, c, d⟩ := h
  refine ⟨by rw [List.length_take]; omega, b, (flatK xs).drop (n * 4) ++ r, ?_, ?_⟩
  · rw [flatK_take, ← List.append_assoc, List.take_append_drop]; exact c
  · rw [flatK_take, ← List.append_assoc, List.take_append_drop]; exact d
end Go.Proofs.Ytlimjdejcjgocaa
