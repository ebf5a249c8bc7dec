/- Rows of the call's own whose elements are structs: an element is stored, the end is cleared. No program in it. -/
import Derived.Test.YtlimjdejcjgocaaRow
namespace Go.Proofs.Ytlimjdejcjgocaa
open Go.RowKit
set_option linter.unusedVariables false
section
variable {P : Program} {ops : Array Oper} {rest : List Oper} {o : Oper} {a : Act} {Q : Exit → Act → World → Prop} {w : World}
theorem run_cells_laid {g off : Nat} {t : TypeId} {cs cur : List Value} (hg : w.heap[g]? = some (.cells cur.toArray t (0, 0))) (hfit : off + cs.length ≤ cur.length) (h1 : ∀ v ∈ cs, v.oneCell' = true) :
    (storeCells ⟨g, off, none⟩ cs 0).run P w = .ok () (w.setRow g (laid cur off cs).toArray) := by
  have := run_storeCells_at P g off t cs 0 cur.toArray w hg (by simpa using hfit) h1
  simpa [laid] using this
/-- s[i] = x, x a struct -/
theorem wpList_store_at (hgd : o.guard = none) (T : TypeId) (x y : Operand) (ho : o.op = .store T x y) (g off : Nat) (T0 : TypeId) (cur cs : List Value) (hg : w.heap[g]? = some (.cells cur.toArray T0 (0, 0))) (hx : a.eval x = .pointer (some ⟨g, off, none⟩)) (hy : a.eval y = .agg cs.toArray)
    (hi : (P.info? T).map (·.size) = some cs.length) (hfit : off + cs.length ≤ cur.length) (h1 : ∀ u ∈ cs, u.oneCell' = true)
    (h : ∀ w1, w1.heap[g]? = some (.cells (laid cur off cs).toArray T0 (0, 0)) → Mod (fun k => k = g) w w1 → wpList P ops Q rest (a.put o.dst undef) w1) : wpList P ops Q (o :: rest) a w := by
  refine wpList_plain hgd fun K hK => ?_
  obtain ⟨i, hq, h2⟩ := Option.map_eq_some_iff.1 hi
  have hst := run_cells_laid (P := P) hg hfit h1
  have hrun : (storeVar T ⟨g, off, none⟩ (.agg cs.toArray)).run P w = .ok () (w.setRow g (laid cur off cs).toArray) := by
    simp [storeVar, Sem.run_bind, sizeOf, typeInfo, hq, Value.cells, h2, hst]
  unfold Oper.wp execOp
  simp only [ho, hx, hy, Instr.storeAt, Instr.sureAddr, Sem.run_bind, Sem.run_pure, Result.andThen_ok, hrun]
  refine hK _ _ (h _ ?_ ((Mod.refl (fun k => k = g) w).setRow (.inl rfl) _))
  rw [heap_setRow_self hg]
/-- clear(s), s the end of a row that is known whole -/
theorem wpList_clear (hgd : o.guard = none) (s : Operand) (dT : TypeId) (ho : o.op = .call { callee := .builtin .clear, args := #[s], argTypes := #[dT] }) (elem : TypeId) (Z : List Value) (hu : P.underlying dT = some (.slice elem)) (hz : (P.info? elem).map (·.zero) = some (some (.agg Z.toArray))) (hZ1 : ∀ u ∈ Z, u.oneCell' = true) (hZ0 : 0 < Z.length)
    (g off n c : Nat) (hs : a.eval s = .slice (some ⟨g, off, none⟩) n c) (cur : List Value) (t : TypeId) (hg : w.heap[g]? = some (.cells cur.toArray t (0, 0))) (hfit : off + n * Z.length ≤ cur.length)
    (h : ∀ w1 zs, zs.length = n * Z.length → w1.heap[g]? = some (.cells (laid cur off zs).toArray t (0, 0)) → Mod (fun k => k = g) w w1 → wpList P ops Q rest (a.put o.dst (.tuple #[])) w1) : wpList P ops Q (o :: rest) a w := by
  refine wpList_plain hgd fun K hK => ?_
  obtain ⟨i, hq, h2⟩ := Option.map_eq_some_iff.1 hz
  have hlen : (Builtin.zeroCells Z.toArray n).toList.length = n * Z.length := by rw [Array.length_toList, size_zeroCells, List.size_toArray]
  have hone : ∀ v ∈ (Builtin.zeroCells Z.toArray n).toList, v.oneCell' = true := by
    intro v hv
    simp only [Builtin.zeroCells, Array.toList_map, List.mem_map] at hv
    obtain ⟨k, _, rfl⟩ := hv
    refine hZ1 _ ?_
    have : k % Z.toArray.size < Z.length := by simp; exact Nat.mod_lt _ hZ0
    rw [getElem!_pos Z.toArray _ (by simpa using this)]
    simp
  have hst := run_cells_laid (P := P) hg (by rw [hlen]; exact hfit) hone
  have hrun : (Builtin.clear_ #[dT] o.type #[.slice (some ⟨g, off, none⟩) n c]).run P w = .ok (.tuple #[]) (w.setRow g (laid cur off (Builtin.zeroCells Z.toArray n).toList).toArray) := by
    cases n with
    | zero =>
      have he : (Builtin.zeroCells Z.toArray 0).toList = [] := List.eq_nil_of_length_eq_zero (by rw [hlen]; omega)
      have hl : laid cur off [] = cur := by simp [laid]
      rw [he, hl, setRow_self w g cur.toArray t (0, 0) hg]
      simp [Builtin.clear_, run_underlying hu]
    | succ n =>
      simp [Builtin.clear_, run_underlying hu, zeroValue, typeInfo, hq, h2, Value.cells, hst]
  unfold Oper.wp
  simp [execOp, ho, resolve, invoke, builtin, hs, hrun, Result.andThen]
  refine hK _ _ (h _ _ hlen ?_ ((Mod.refl (fun k => k = g) w).setRow (.inl rfl) _))
  rw [heap_setRow_self hg]
end
end Go.Proofs.Ytlimjdejcjgocaa
