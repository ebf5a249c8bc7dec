/- Layer 29, the laws: what the arguments read as. -/
import Derived.Test.YtlimjdejcjgocaaNet6
namespace Go.Proofs.Ytlimjdejcjgocaa
open Go.RowKit
set_option linter.unusedVariables false
theorem bytesK_opens : Opens Try.prog bytesR 29 := opens_slice Try.underlying29 (by kernel_rfl) (by kernel_rfl) (opens_byte Try.underlying5)
structure NOp where
  kind : Int
  i : Int
  n : Int
  b : List UInt8
def nopR : Rd NOp := ((Rd.int .i64).pair ((Rd.int .i64).pair ((Rd.int .i64).pair bytesR))).iso fun o => (o.kind, o.i, o.n, o.b)
theorem nopR_opens : Opens Try.prog nopR 31 :=
  opens_iso (fun x => ⟨x.1, x.2.1, x.2.2.1, x.2.2.2⟩) (fun _ => rfl)
    (opens_struct (fs := _) Try.underlying31 (by kernel_rfl)
      (opens_cons rfl (by kernel_rfl) (opens_int Try.underlying3) (opens_cons rfl (by kernel_rfl) (opens_int Try.underlying3) (opens_cons rfl (by kernel_rfl) (opens_int Try.underlying3) (opens_last rfl (by kernel_rfl) bytesK_opens)))))
theorem nops_opens : Opens Try.prog (Rd.slice 48 nopR) 22 := opens_slice Try.underlying22 (by kernel_rfl) (by kernel_rfl) nopR_opens
theorem nopR_cells {w : World} {ok : Nat → Prop} {cs : List Value} {o : NOp} (h : nopR.rel w ok cs o) : ∃ A c, cs = [.int .i64 o.kind, .int .i64 o.i, .int .i64 o.n, .slice A o.b.length c] ∧ bytesR.rel w ok [.slice A o.b.length c] o.b ∧ Rd.inR .i64 o.i ∧ Rd.inR .i64 o.n := by
  obtain ⟨c0, c1, rfl, ⟨rfl, i0⟩, d0, d1, rfl, ⟨rfl, i1⟩, e0, e1, rfl, ⟨rfl, i2⟩, hb⟩ := h
  have hb' := hb
  obtain ⟨A, c, rfl, _⟩ := hb
  exact ⟨A, c, rfl, hb', i1, i2⟩
end Go.Proofs.Ytlimjdejcjgocaa
