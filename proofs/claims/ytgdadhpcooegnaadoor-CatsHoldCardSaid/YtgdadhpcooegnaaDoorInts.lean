/- Rows of int and of string read as data. -/
import Derived.Test.YtgdadhpcooegnaaDoorRd
namespace Go.Proofs.YtgdadhpcooegnaaDoor
open Go.RowKit
set_option linter.unusedVariables false
abbrev intsR : Rd (List Int) := Rd.slice 8 (Rd.int .i64)
theorem RowOf.ints {k : IntKind} {w : World} {ok : Nat → Prop} {A : Option Addr} {xs : List Int} (h : (Rd.int k).RowOf w ok A xs) {j : Nat} {x : Int} (hj : xs[j]? = some x) :
    ∃ ad, A = some ad ∧ ok ad.block ∧ w.cell? (ad.add j) = some (.int k x) ∧ Rd.inR k x := by
  obtain ⟨ad, c, hA, hok, ⟨rfl, hr⟩, hc⟩ := Rd.RowOf.at_ h hj
  have := hc 0 _ rfl
  rw [show j * (Rd.int k).sz + 0 = j from Nat.mul_one j] at this
  exact ⟨ad, hA, hok, this, hr⟩
theorem inR_i64 {x : Int} (h : Rd.inR .i64 x) : -9223372036854775808 ≤ x ∧ x ≤ 9223372036854775807 := by
  simpa [Rd.inR, Lit.wf, IntKind.min, IntKind.max, IntKind.signed, IntKind.bits] using h
theorem inR_mk {x : Int} (h : -9223372036854775808 ≤ x ∧ x ≤ 9223372036854775807) : Rd.inR .i64 x := by
  simpa [Rd.inR, Lit.wf, IntKind.min, IntKind.max, IntKind.signed, IntKind.bits] using h
theorem intsR_inR {w : World} {ok : Nat → Prop} {cs : List Value} {xs : List Int} (h : intsR.rel w ok cs xs) : ∀ x ∈ xs, Rd.inR .i64 x := by
  obtain ⟨A, c, _, _, _, _, _, h6⟩ := h
  intro x hx
  obtain ⟨j, hj⟩ := List.getElem?_of_mem hx
  obtain ⟨_, _, _, _, hr⟩ := RowOf.ints h6 hj
  exact hr
def icells (l : List Int) : List Value := l.map fun x => .int .i64 x
theorem icells_length (l : List Int) : (icells l).length = l.length := by simp [icells]
theorem icells_append (l m : List Int) : icells (l ++ m) = icells l ++ icells m := by simp [icells]
theorem own_ints {w : World} {base : Nat} {e : TypeId} {v : Value} {xs : List Int} (h : w.ownsRow base e 1 v xs.length (icells xs)) (hr : ∀ x ∈ xs, Rd.inR .i64 x) (S : Nat → Prop) : OwnR (Rd.int .i64) e w base S v xs := by
  refine ⟨_, h, fun j x hj => ⟨?_, hr x (List.mem_of_getElem? hj)⟩⟩
  show ((icells xs).drop (j * 1)).take 1 = _
  rw [Nat.mul_one]
  have : (icells xs)[j]? = some (.int .i64 x) := by simp [icells, hj]
  have hlt := (List.getElem?_eq_some_iff.1 this).1
  rw [List.drop_eq_getElem_cons hlt]
  simp [(List.getElem?_eq_some_iff.1 this).2]
theorem reads_ints {w : World} {base : Nat} {e : TypeId} {v : Value} {xs : List Int} (h : w.ownsRow base e 1 v xs.length (icells xs)) (hr : ∀ x ∈ xs, Rd.inR .i64 x) (hl : xs.length * 8 ≤ 140737488355328) : intsR.rel w (fun k => v.ownBlock = some k) [v] xs :=
  Rd.mono ((own_ints h hr (fun _ => False)).reads (bytes := 8) hl) (fun _ hk => hk.elim False.elim id)
/-- A slice of ints that is read: what a walk wants. -/
theorem ints_row {w : World} {ok : Nat → Prop} {A : Option Addr} {n c : Nat} {xs : List Int} (h : intsR.rel w ok [.slice A n c] xs) :
    n = xs.length ∧ xs.length ≤ c ∧ c ≤ maxLen ∧ xs.length * 8 ≤ 140737488355328 ∧ (A = none → c = 0) ∧ (Rd.int .i64).RowOf w ok A xs := by
  obtain ⟨A', c', hv, h2, h3, h4, h5, h6⟩ := h
  simp only [List.cons.injEq, Value.slice.injEq, and_true] at hv
  obtain ⟨rfl, rfl, rfl⟩ := hv
  exact ⟨rfl, h2, h3, h4, h5, h6⟩
abbrev strsR : Rd (List ByteArray) := Rd.slice 16 Rd.string
theorem strs_row {w : World} {ok : Nat → Prop} {A : Option Addr} {n c : Nat} {xs : List ByteArray} (h : strsR.rel w ok [.slice A n c] xs) :
    n = xs.length ∧ xs.length ≤ c ∧ c ≤ maxLen ∧ xs.length * 16 ≤ 140737488355328 ∧ (A = none → c = 0) ∧ Rd.string.RowOf w ok A xs := by
  obtain ⟨A', c', hv, h2, h3, h4, h5, h6⟩ := h
  simp only [List.cons.injEq, Value.slice.injEq, and_true] at hv
  obtain ⟨rfl, rfl, rfl⟩ := hv
  exact ⟨rfl, h2, h3, h4, h5, h6⟩
theorem RowOf.strs {w : World} {ok : Nat → Prop} {A : Option Addr} {xs : List ByteArray} (h : Rd.string.RowOf w ok A xs) {j : Nat} {x : ByteArray} (hj : xs[j]? = some x) :
    ∃ ad, A = some ad ∧ ok ad.block ∧ w.cell? (ad.add j) = some (.string x) ∧ x.size ≤ 140737488355328 := by
  obtain ⟨ad, c, hA, hok, ⟨rfl, hr⟩, hc⟩ := Rd.RowOf.at_ h hj
  have := hc 0 _ rfl
  rw [show j * Rd.string.sz + 0 = j from Nat.mul_one j] at this
  exact ⟨ad, hA, hok, this, hr⟩
end Go.Proofs.YtgdadhpcooegnaaDoor
