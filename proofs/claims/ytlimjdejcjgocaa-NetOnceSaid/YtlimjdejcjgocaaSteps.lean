/- Steps of a region that draws its order: a struct is loaded, a struct is stored. No program in it. -/
import Derived.Test.YtlimjdejcjgocaaRow2
import Derived.RegionTactic
import Derived.RegionCalls
namespace Go.Proofs.Ytlimjdejcjgocaa
open Go.RowKit
set_option linter.unusedVariables false
section
variable {P : Program} {ops : Array Oper} {o : Oper} {a : Act} {K : Act → World → Prop} {Q : Exit → Act → World → Prop} {E : Prop} {w : World}
theorem wanted_plain (hgd : o.guard = none) : Region.wanted o (yielded ops a.tmps) = true := by simp [Region.wanted, hgd]
theorem step_load_agg (hgd : o.guard = none) (T : TypeId) (x : Operand) (ho : o.op = .load T x) {fs : Array Field} (hu : P.underlying T = some (.struct fs)) {n : Nat} (hi : (P.info? T).map (·.size) = some n) (ad : Addr) (hx : a.eval x = .pointer (some ad)) (cs : List Value) (hl : cs.length = n)
    (hc : ∀ i u, cs[i]? = some u → w.cell? (ad.add i) = some u) (h : K (a.put o.dst (.agg cs.toArray)) w) : if Region.wanted o (yielded ops a.tmps) = true then Oper.wp P o a w K Q else E := by
  rw [if_pos (wanted_plain hgd)]
  unfold Oper.wp execOp
  simp only [ho, hx, Instr.loadAt, Instr.sureAddr, Sem.run_bind, Sem.run_pure, Result.andThen_ok, run_loadVar_agg hu hi hl hc]
  exact h
theorem step_store_at (hgd : o.guard = none) (T : TypeId) (x y : Operand) (ho : o.op = .store T x y) (g off : Nat) (T0 : TypeId) (cur cs : List Value) (hg : w.heap[g]? = some (.cells cur.toArray T0 (0, 0))) (hx : a.eval x = .pointer (some ⟨g, off, none⟩)) (hy : a.eval y = .agg cs.toArray)
    (hi : (P.info? T).map (·.size) = some cs.length) (hfit : off + cs.length ≤ cur.length) (h1 : ∀ u ∈ cs, u.oneCell' = true)
    (h : ∀ w1, w1.heap[g]? = some (.cells (laid cur off cs).toArray T0 (0, 0)) → Mod (fun k => k = g) w w1 → K (a.put o.dst undef) w1) : if Region.wanted o (yielded ops a.tmps) = true then Oper.wp P o a w K Q else E := by
  rw [if_pos (wanted_plain hgd)]
  obtain ⟨i, hq, h2⟩ := Option.map_eq_some_iff.1 hi
  have hst := run_cells_laid (P := P) hg hfit h1
  have hrun : (storeVar T ⟨g, off, none⟩ (.agg cs.toArray)).run P w = .ok () (w.setRow g (laid cur off cs).toArray) := by
    simp [storeVar, Sem.run_bind, sizeOf, typeInfo, hq, Value.cells, h2, hst]
  unfold Oper.wp execOp
  simp only [ho, hx, hy, Instr.storeAt, Instr.sureAddr, Sem.run_bind, Sem.run_pure, Result.andThen_ok, hrun]
  refine h _ ?_ ((Mod.refl (fun k => k = g) w).setRow (.inl rfl) _)
  rw [heap_setRow_self hg]
theorem run_slice1_agg (T e : TypeId) (ht : P.underlying T = some (.slice e)) (Z : Array Value) (cs : List Value) (hinfo : (P.info? e).map (fun i => (i.zero, i.size)) = some (some (.agg Z), cs.length)) (hn : 0 < cs.length ∧ cs.length ≤ 1000) (hZ : Z.size = cs.length) :
    (Instr.buildSlice T 1 #[(0, .agg cs.toArray)]).run P w = .ok (.slice (some ⟨w.heap.size, 0, none⟩) 1 1) (w.alloc (.cells cs.toArray e)) := by
  obtain ⟨i, hi, hzz⟩ := Option.map_eq_some_iff.1 hinfo
  simp only [Prod.mk.injEq] at hzz
  obtain ⟨hz, hs⟩ := hzz
  have hfill : ∀ z : Array Value, z.size = cs.length → Instr.fill (fun i => some (i * cs.length, cs.length)) z [(0, .agg cs.toArray)] = some cs.toArray := by
    intro z hzs
    have e1 : (cs.toArray.zipIdx.foldl (fun (r : Array Value) (p : Value × Nat) => r.setIfInBounds (0 + p.2) p.1) z) = cs.toArray := by
      apply Array.ext'
      rw [← Array.foldl_toList, fold_arr, Array.toList_zipIdx]
      rw [fold_set cs 0 z.toList (by simp [hzs])]
      simp [hzs]
    simp only [Instr.fill, Value.cells, Nat.zero_mul]
    simp [hzs] at e1 ⊢
    exact e1
  have h1 : ¬ (2 ^ 24 < 1 * cs.length) := by omega
  have h2 : ¬ (1 * cs.length = 0) := by omega
  have hf := hfill ((Array.range (1 * cs.length)).map (fun k => (Value.agg Z).cells[k % (Value.agg Z).cells.size]!)) (by simp)
  simp only [Instr.buildSlice, Sem.run_bind, run_underlying ht, Result.andThen_ok]
  simp [sizeOf, typeInfo, zeroValue, hi, hz, hs, newRow] at hf ⊢
  rw [if_neg (by omega), if_neg (by intro e; simp [e] at hn), hf]
  simp
theorem step_slice1_agg (hgd : o.guard = none) (T e : TypeId) (x : Operand) (ho : o.op = .buildSlice T 1 #[(0, x)]) (ht : P.underlying T = some (.slice e)) (Z : Array Value) (cs : List Value) (hinfo : (P.info? e).map (fun i => (i.zero, i.size)) = some (some (.agg Z), cs.length)) (hn : 0 < cs.length ∧ cs.length ≤ 1000) (hZ : Z.size = cs.length)
    (hx : a.eval x = .agg cs.toArray) (h : K (a.put o.dst (.slice (some ⟨w.heap.size, 0, none⟩) 1 1)) (w.alloc (.cells cs.toArray e))) : if Region.wanted o (yielded ops a.tmps) = true then Oper.wp P o a w K Q else E := by
  rw [if_pos (wanted_plain hgd)]
  have hrun := run_slice1_agg (P := P) (w := w) T e ht Z cs hinfo hn hZ
  unfold Oper.wp execOp
  simp only [ho, List.map_toArray, List.map_cons, List.map_nil, hx, Sem.run_bind, hrun, Result.andThen_ok, Sem.run_pure]
  exact h
theorem step_load (hgd : o.guard = none) (T : TypeId) (x : Operand) (ho : o.op = .load T x) (ad : Addr) (hx : a.eval x = .pointer (some ad)) (v : Value) (hl : (loadVar T ad).run P w = .ok v w) (h : K (a.put o.dst v) w) : if Region.wanted o (yielded ops a.tmps) = true then Oper.wp P o a w K Q else E := by
  rw [if_pos (wanted_plain hgd)]
  unfold Oper.wp execOp
  simp only [ho, hx, Instr.loadAt, Instr.sureAddr, Sem.run_bind, Sem.run_pure, Result.andThen_ok, hl]
  exact h
theorem step_append_own_at (hgd : o.guard = none) (s x : Operand) (t : TypeId)
    (ho : o.op = .call { callee := .builtin .append, args := #[s, x], argTypes := #[t, t] })
    (base : Nat) (e : TypeId) (i : TypeInfo) (z : Value) (size bytes : Nat) (ht : P.underlying t = some (.slice e)) (hi : P.info? e = some i) (hz : i.zero = some z)
    (hsize : i.size = size) (hby : i.bytes = bytes) (hzs : z.cells.size = size) (hsz : 0 < size)
    (v : Value) (n : Nat) (xs : List Value) (hs : a.eval s = v) (hown : w.ownsRow base e size v n xs)
    (ad : Addr) (m c : Nat) (news : List Value) (hx : a.eval x = .slice (some ad) m c) (hl : news.length = m * size) (hnews : ∀ j u, news[j]? = some u → w.cell? (ad.add j) = some u) (h1 : ∀ u ∈ news, u.oneCell' = true)
    (h63 : n + m ≤ maxLen) (hbytes : (n + m) * bytes ≤ 140737488355328) (hbase : base ≤ w.heap.size)
    (h : ∀ v' w', w'.ownsRow base e size v' (n + m) (xs ++ news) → w.grownBy w' v.ownBlock → (v'.ownBlock = v.ownBlock ∨ v'.ownBlock = some w.heap.size) → K (a.put o.dst v') w') : if Region.wanted o (yielded ops a.tmps) = true then Oper.wp P o a w K Q else E := by
  rw [if_pos (wanted_plain hgd)]
  obtain ⟨v', w', hr, h2, h3, h4, h5⟩ := run_append_own_at (P := P) w base t o.type e i z size bytes ht hi hz hsize hby hzs hsz v n xs hown ad m c news hl hnews h1 h63 hbytes hbase
  unfold Oper.wp execOp
  simp only [ho, resolve, invoke, builtin, Sem.run_bind, Sem.run_pure, Result.andThen_ok, List.map_toArray, List.map_cons, List.map_nil, hs, hx, hr]
  exact h v' w' h2 h3 h5
theorem step_store (hgd : o.guard = none) (T : TypeId) (x y : Operand) (ho : o.op = .store T x y) (ad : Addr) (hx : a.eval x = .pointer (some ad)) (v : Value) (hy : a.eval y = v) (w1 : World) (hs : (storeVar T ad v).run P w = .ok () w1) (h : K (a.put o.dst undef) w1) : if Region.wanted o (yielded ops a.tmps) = true then Oper.wp P o a w K Q else E := by
  rw [if_pos (wanted_plain hgd)]
  unfold Oper.wp execOp
  simp only [ho, hx, hy, Instr.storeAt, Instr.sureAddr, Sem.run_bind, Sem.run_pure, Result.andThen_ok, hs]
  exact h
end
section
theorem stepc_call {P : Program} {w : World} {ops : Array Oper} {o : Oper} {a : Act} {K : Act → World → Prop} {Q : Exit → Act → World → Prop} {E : Prop} (hgd : o.guard = none) (f : FuncId) (x : Operand) (ts : Array TypeId)
    (ho : o.op = .call { callee := .value (.func f), args := #[x], argTypes := ts }) (v : Value) (hx : a.eval x = v) {C : Ending → World → Prop}
    (hcf : (callFunc f #[v]).run P w = .ok (.enter f #[v]) w) (hc : Calls P f #[v] w C) (h : ∀ e w', C e w' → ∃ u, e = .returned u ∧ K (a.put o.dst u) w') : if Region.wanted o (yielded ops a.tmps) = true then Oper.wp P o a w K Q else E := by
  have hw : Region.wanted o (yielded ops a.tmps) = true := by simp [Region.wanted, hgd]
  rw [if_pos hw]
  have h1 : (execOp a.eval o).run P w = .ok (.enter f #[v]) w := by
    have key : ∀ ρ : Operand → Value, ρ (.func f) = .func (.func f) #[] #[] → ρ x = v → (execOp ρ o).run P w = .ok (.enter f #[v]) w := by
      intro ρ h0 h1
      simp [execOp, ho, resolve, go_sem, h0, h1, hcf]
    exact key _ rfl hx
  unfold Oper.wp
  rw [h1, Oper.upon_enter]
  refine hc.mono fun e w' he => ?_
  obtain ⟨u, rfl, hk⟩ := h e w' he
  exact hk
theorem ccallFunc {P : Program} {f : FuncId} {fn : Func} (hf : P.funcs[f]? = some fn) (hname : (fn.name == "runtime.NumGoroutine") = false) (hb : fn.body.isSome = true) (args : Array Value) (w : World) : (callFunc f args).run P w = .ok (.enter f args) w := by
  have h1 : fn.name ≠ "runtime.NumGoroutine" := by simpa using hname
  obtain ⟨c, hc⟩ := Option.isSome_iff_exists.1 hb
  simp [callFunc, hf, h1, hc]
theorem stepc_call2 {P : Program} {w : World} {ops : Array Oper} {o : Oper} {a : Act} {K : Act → World → Prop} {Q : Exit → Act → World → Prop} {E : Prop} (hgd : o.guard = none) (f : FuncId) (x y : Operand) (ts : Array TypeId)
    (ho : o.op = .call { callee := .value (.func f), args := #[x, y], argTypes := ts }) (v : Value) (hx : a.eval x = v) (u0 : Value) (hy : a.eval y = u0) {C : Ending → World → Prop}
    (hcf : (callFunc f #[v, u0]).run P w = .ok (.enter f #[v, u0]) w) (hc : Calls P f #[v, u0] w C) (h : ∀ e w', C e w' → ∃ u, e = .returned u ∧ K (a.put o.dst u) w') : if Region.wanted o (yielded ops a.tmps) = true then Oper.wp P o a w K Q else E := by
  have hw : Region.wanted o (yielded ops a.tmps) = true := by simp [Region.wanted, hgd]
  rw [if_pos hw]
  have h1 : (execOp a.eval o).run P w = .ok (.enter f #[v, u0]) w := by
    have key : ∀ ρ : Operand → Value, ρ (.func f) = .func (.func f) #[] #[] → ρ x = v → ρ y = u0 → (execOp ρ o).run P w = .ok (.enter f #[v, u0]) w := by
      intro ρ h0 h1 h2
      simp [execOp, ho, resolve, go_sem, h0, h1, h2, hcf]
    exact key _ rfl hx hy
  unfold Oper.wp
  rw [h1, Oper.upon_enter]
  refine hc.mono fun e w' he => ?_
  obtain ⟨u, rfl, hk⟩ := h e w' he
  exact hk
end
end Go.Proofs.Ytlimjdejcjgocaa
