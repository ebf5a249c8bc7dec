/- Plain law: pushes and pops of up to three packets. No program in it. -/
import Derived.Test.YtlimjdejcjgocaaNet0
namespace Go.Proofs.Ytlimjdejcjgocaa
set_option linter.unusedVariables false
section
variable {α : Type} {lt : α → α → Bool} {p q r : α}
theorem push1 : pushL lt [] p = [p] := by simp [pushL, upL]
theorem push2_lt (h : lt q p = true) : pushL lt [p] q = [q, p] := by simp [pushL, upL, ltAt, swapL, h]
theorem push2_no (h : lt q p = false) : pushL lt [p] q = [p, q] := by simp [pushL, upL, ltAt, h]
theorem push3_lt (h : lt r p = true) : pushL lt [p, q] r = [r, q, p] := by simp [pushL, upL, ltAt, swapL, h]
theorem pop1 : (popL lt [p]).take 0 = [] := by simp
theorem pop2 : (popL lt [p, q]).take 1 = [q] := by simp [popL, downL, swapL]
theorem pop3_no (h : lt q r = false) : (popL lt [p, q, r]).take 2 = [r, q] := by simp [popL, downL, swapL, kidL, ltAt, h]
end
theorem dueOf_zero (d : Int) (h0 : 0 ≤ d) (h1 : d ≤ 1000) : 0 + min (max d 0) 1000 = d := by omega
end Go.Proofs.Ytlimjdejcjgocaa
