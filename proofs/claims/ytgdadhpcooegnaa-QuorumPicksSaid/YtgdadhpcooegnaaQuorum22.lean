/- Layer 22: Keep: the two answers are the same on ascending lists. No program in it. -/
import Derived.Test.YtgdadhpcooegnaaQuorum14
namespace Go.Proofs.Ytgdadhpcooegnaa
open Go.RowKit
set_option linter.unusedVariables false
def AscP (l : List Msg) : Prop := l.Pairwise fun a b => a.from_ < b.from_
theorem AscP.asc {l : List Msg} (h : AscP l) : Asc l := by
  intro i j a b hij ha hb
  obtain ⟨hi, rfl⟩ := List.getElem?_eq_some_iff.1 ha
  obtain ⟨hj, rfl⟩ := List.getElem?_eq_some_iff.1 hb
  exact List.pairwise_iff_getElem.1 h i j hi hj hij
/-- what is put behind a list that ends below m, or after m is in -/
theorem foldK_done (m : Msg) : ∀ (l out : List Msg), l.foldl (stepK m) (out, true) = (out ++ l.filter (notFrom m.from_), true)
  | [], out => by simp
  | x :: l, out => by
    rw [List.foldl_cons]
    unfold stepK
    by_cases h : x.from_ = m.from_
    · rw [if_pos h]
      have := foldK_done m l out
      unfold stepK at this
      rw [this, List.filter_cons, if_neg (by simp [notFrom, h])]
    · rw [if_neg h, if_neg (by simp)]
      have := foldK_done m l (out ++ [x])
      unfold stepK at this
      rw [this, List.filter_cons, if_pos (by simp [notFrom, h])]
      simp
def finK (m : Msg) (s : List Msg × Bool) : List Msg := if s.2 then s.1 else s.1 ++ [m]
theorem foldK_same (m : Msg) : ∀ (l out : List Msg), AscP (l.filter (notFrom m.from_)) →
    finK m (l.foldl (stepK m) (out, false)) = out ++ ((l.filter (notFrom m.from_)).take (posOf (l.filter (notFrom m.from_)) m.from_) ++ m :: (l.filter (notFrom m.from_)).drop (posOf (l.filter (notFrom m.from_)) m.from_))
  | [], out, _ => by simp [posOf, finK]
  | x :: l, out, h => by
    rw [List.foldl_cons]
    by_cases hx : x.from_ = m.from_
    · have hf : (x :: l).filter (notFrom m.from_) = l.filter (notFrom m.from_) := by rw [List.filter_cons, if_neg (by simp [notFrom, hx])]
      rw [hf] at h ⊢
      have e : stepK m (out, false) x = (out, false) := by unfold stepK; rw [if_pos hx]
      rw [e]
      exact foldK_same m l out h
    · have hf : (x :: l).filter (notFrom m.from_) = x :: l.filter (notFrom m.from_) := by rw [List.filter_cons, if_pos (by simp [notFrom, hx])]
      rw [hf] at h ⊢
      by_cases hlt : m.from_ < x.from_
      · have e : stepK m (out, false) x = (out ++ [m] ++ [x], true) := by unfold stepK; rw [if_neg hx, if_pos ⟨hlt, rfl⟩]
        rw [e, foldK_done]
        have hp : posOf (x :: l.filter (notFrom m.from_)) m.from_ = 0 := by unfold posOf; rw [List.takeWhile_cons, if_neg (by simp; omega)]; rfl
        rw [hp]
        simp [finK]
      · have e : stepK m (out, false) x = (out ++ [x], false) := by unfold stepK; rw [if_neg hx, if_neg (by simp; omega)]
        have hp : posOf (x :: l.filter (notFrom m.from_)) m.from_ = posOf (l.filter (notFrom m.from_)) m.from_ + 1 := by unfold posOf; rw [List.takeWhile_cons, if_pos (by simp; omega)]; rfl
        rw [e, hp]
        rw [foldK_same m l (out ++ [x]) (List.Pairwise.of_cons h)]
        simp
theorem keep_same {l : List Msg} {m : Msg} (h : AscP (l.filter (notFrom m.from_))) : refKeepM l m = keepM l m := by
  have := foldK_same m l [] h
  unfold finK at this
  unfold refKeepM foldK keepM
  simpa using this
end Go.Proofs.Ytgdadhpcooegnaa
