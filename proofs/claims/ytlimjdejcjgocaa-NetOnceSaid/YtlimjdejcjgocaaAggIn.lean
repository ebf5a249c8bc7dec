/- Values of many cells inside a fence: loaded, laid, stored. No program in it. -/
import Derived.Test.YtlimjdejcjgocaaSteps
import Derived.Maps.OwnIn
namespace Go.Proofs.Ytlimjdejcjgocaa
open Go.RowKit
set_option linter.unusedVariables false
section
variable {F : Fence} {nF : Nat} {P : Program} {ops : Array Oper} {rest : List Oper} {o : Oper} {a : Act} {Q : Exit → Act → World → Prop} {w : World}
theorem wpListIn_load_agg (hgd : o.guard = none) (T : TypeId) (x : Operand) (ho : o.op = .load T x) {fs : Array Field} (hu : P.underlying T = some (.struct fs)) {n : Nat} (hi : (P.info? T).map (·.size) = some n) (ad : Addr) (hx : a.eval x = .pointer (some ad)) (cs : List Value) (hl : cs.length = n)
    (hc : ∀ i u, cs[i]? = some u → w.cell? (ad.add i) = some u) (h : wpListIn F nF P ops Q rest (a.put o.dst (.agg cs.toArray)) w) : wpListIn F nF P ops Q (o :: rest) a w := by
  refine wpListIn_plain hgd fun K hK => ?_
  unfold Oper.wpIn
  refine ⟨by simp [Oper.about, ho], ?_⟩
  rw [Oper.semAt_plain F _ _ (by rw [ho]; intro c hc'; cases hc')]
  unfold execOp
  simp only [ho, hx, Instr.loadAt, Instr.sureAddr, Sem.run_bind, Sem.run_pure, Result.andThen_ok, run_loadVar_agg hu hi hl hc]
  exact hK _ _ h
theorem wpListIn_alloc_agg (hgd : o.guard = none) (T : TypeId) (ho : o.op = .alloc T) (Z : Array Value) (hz : (P.info? T).map (·.zero) = some (some (.agg Z))) (h : wpListIn F nF P ops Q rest (a.put o.dst (.pointer (some ⟨w.heap.size, 0, none⟩))) (w.alloc (.cells Z T))) : wpListIn F nF P ops Q (o :: rest) a w := by
  refine wpListIn_plain hgd fun K hK => ?_
  unfold Oper.wpIn
  refine ⟨by simp [Oper.about, ho], ?_⟩
  rw [Oper.semAt_plain F _ _ (by rw [ho]; intro c hc'; cases hc')]
  unfold execOp
  cases hq : P.info? T with
  | none => simp [hq] at hz
  | some i =>
    have hzz : i.zero = some (.agg Z) := by simpa [hq] using hz
    have hzv : (zeroValue T).run P w = .ok (.agg Z) w := by simp [zeroValue, typeInfo, hq, hzz]
    have hnv : (newVar T (.agg Z)).run P w = .ok ⟨w.heap.size, 0, none⟩ (w.alloc (.cells Z T)) := by
      simp [newVar, newRow, Value.cells]
    simp only [ho, Instr.alloc, Sem.run_bind, Sem.run_pure, Result.andThen_ok, hzv, hnv]
    exact hK _ _ h
theorem wpListIn_store_new (hgd : o.guard = none) (T : TypeId) (x y : Operand) (ho : o.op = .store T x y) (T0 : TypeId) (old : Array Value) (cs : List Value) (hx : a.eval x = .pointer (some ⟨w.heap.size, 0, none⟩)) (hy : a.eval y = .agg cs.toArray)
    (hi : (P.info? T).map (·.size) = some cs.length) (hold : old.size = cs.length) (h1 : ∀ u ∈ cs, u.oneCell' = true) (h : wpListIn F nF P ops Q rest (a.put o.dst undef) (w.alloc (.cells cs.toArray T0))) : wpListIn F nF P ops Q (o :: rest) a (w.alloc (.cells old T0)) := by
  have hw : (w.alloc (.cells old T0)).setRow w.heap.size cs.toArray = w.alloc (.cells cs.toArray T0) := World.setRow_alloc_new w old cs.toArray T0
  obtain ⟨i, hq, h2⟩ := Option.map_eq_some_iff.1 hi
  have hst := run_cells_laid (P := P) (w := w.alloc (.cells old T0)) (g := w.heap.size) (off := 0) (t := T0) (cs := cs) (cur := old.toList) (by simpa using heap_alloc_new w (.cells old T0)) (by simp [hold]) h1
  have hl : laid old.toList 0 cs = cs := by unfold laid; simp [hold]
  rw [hl, hw] at hst
  have hrun : (storeVar T ⟨w.heap.size, 0, none⟩ (.agg cs.toArray)).run P (w.alloc (.cells old T0)) = .ok () (w.alloc (.cells cs.toArray T0)) := by
    simp [storeVar, Sem.run_bind, sizeOf, typeInfo, hq, Value.cells, h2, hst]
  refine wpListIn_plain hgd fun K hK => ?_
  unfold Oper.wpIn
  refine ⟨by simp [Oper.about, ho], ?_⟩
  rw [Oper.semAt_plain F _ _ (by rw [ho]; intro c hc'; cases hc')]
  unfold execOp
  simp only [ho, hx, hy, Instr.storeAt, Instr.sureAddr, Sem.run_bind, Sem.run_pure, Result.andThen_ok, hrun]
  exact hK _ _ h
theorem wpListIn_slice1_agg (hgd : o.guard = none) (T e : TypeId) (x : Operand) (ho : o.op = .buildSlice T 1 #[(0, x)]) (ht : P.underlying T = some (.slice e)) (Z : Array Value) (cs : List Value) (hinfo : (P.info? e).map (fun i => (i.zero, i.size)) = some (some (.agg Z), cs.length)) (hn : 0 < cs.length ∧ cs.length ≤ 1000) (hZ : Z.size = cs.length)
    (hx : a.eval x = .agg cs.toArray) (h : wpListIn F nF P ops Q rest (a.put o.dst (.slice (some ⟨w.heap.size, 0, none⟩) 1 1)) (w.alloc (.cells cs.toArray e))) : wpListIn F nF P ops Q (o :: rest) a w := by
  have hrun := run_slice1_agg (P := P) (w := w) T e ht Z cs hinfo hn hZ
  refine wpListIn_plain hgd fun K hK => ?_
  unfold Oper.wpIn
  refine ⟨by simp [Oper.about, ho], ?_⟩
  rw [Oper.semAt_plain F _ _ (by rw [ho]; intro c hc'; cases hc')]
  unfold execOp
  simp only [ho, List.map_toArray, List.map_cons, List.map_nil, hx, Sem.run_bind, hrun, Result.andThen_ok, Sem.run_pure]
  exact hK _ _ h
end
end Go.Proofs.Ytlimjdejcjgocaa
