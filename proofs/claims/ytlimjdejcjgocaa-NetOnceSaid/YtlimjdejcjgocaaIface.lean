/- A method of a value, called on a pointer to it through an interface: the value is loaded. No program in it. -/
import Derived.Test.YtlimjdejcjgocaaAgg
namespace Go.Proofs.Ytlimjdejcjgocaa
open Go.RowKit
set_option linter.unusedVariables false
theorem run_method_val {P : Program} {w : World} {T e : TypeId} {name : String} {f : FuncId} {ad : Addr} {v : Value} (k : Nat)
    (h1 : (P.info? T).map (fun i => (i.methods.find? (·.name == name)).map fun m => (m.path, m.func)) = some (some (#[], some (f, false)))) (h2 : P.underlying T = some (.pointer e)) (h3 : (loadVar e ad).run P w = .ok v w) :
    (method (k + 1) T (.pointer (some ad)) name).run P w = .ok (f, v) w := by
  obtain ⟨i, hi, h1⟩ := Option.map_eq_some_iff.1 h1
  obtain ⟨m, hm, h1⟩ := Option.map_eq_some_iff.1 h1
  simp only [Prod.mk.injEq] at h1
  obtain ⟨hp, hf⟩ := h1
  have ht : (typeInfo T).run P w = .ok i w := by simp [typeInfo, hi]
  unfold method
  simp only [Sem.run_bind, ht, Result.andThen_ok, hm, hp, hf]
  have hw : ∀ (xt : TypeId) (a b : ByteArray), Builtin.ssaWrapNilChk_ #[xt] xt #[.pointer (some ad), .string a, .string b] = pure (.pointer (some ad)) := fun _ _ _ => rfl
  simp [follow, receiverAt, Sem.run_bind, run_underlying h2, Place.get, strVal, hw, asAddr, h3]
end Go.Proofs.Ytlimjdejcjgocaa
