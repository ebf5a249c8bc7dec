/- Values of many cells: how they are loaded, laid, stored, appended. No program in it. -/
import Derived.Test.YtlimjdejcjgocaaRd
import Derived.Laws.Tables
import Derived.Laws.Rows
import Derived.Deep.WholeRow
import Derived.Deep.Draws
import Derived.BigFrame
namespace Go.Proofs.Ytlimjdejcjgocaa
open Go.RowKit
set_option linter.unusedVariables false
section
variable {P : Program} {ops : Array Oper} {rest : List Oper} {o : Oper} {a : Act} {Q : Exit → Act → World → Prop} {w : World}
theorem run_loadVar_agg {T : TypeId} {fs : Array Field} (hu : P.underlying T = some (.struct fs)) {n : Nat} (hi : (P.info? T).map (·.size) = some n) {ad : Addr} {cs : List Value} (hl : cs.length = n) (hc : ∀ i u, cs[i]? = some u → w.cell? (ad.add i) = some u) :
    (loadVar T ad).run P w = .ok (.agg cs.toArray) w := by
  have h1 := run_loadCells_list (P := P) w ad cs hc
  cases hq : P.info? T with
  | none => simp [hq] at hi
  | some i =>
    have hs : i.size = cs.length := by simpa [hq, hl] using hi
    have hagg : (isAgg T).run P w = .ok true w := by
      unfold isAgg
      rw [Sem.run_bind, run_underlying hu w]
      simp
    simp [loadVar, Sem.run_bind, hagg, sizeOf, typeInfo, hq, hs, h1]
/-- a struct is loaded -/
theorem wpList_load_agg (hgd : o.guard = none) (T : TypeId) (x : Operand) (ho : o.op = .load T x) {fs : Array Field} (hu : P.underlying T = some (.struct fs)) {n : Nat} (hi : (P.info? T).map (·.size) = some n) (ad : Addr) (hx : a.eval x = .pointer (some ad)) (cs : List Value) (hl : cs.length = n)
    (hc : ∀ i u, cs[i]? = some u → w.cell? (ad.add i) = some u) (h : wpList P ops Q rest (a.put o.dst (.agg cs.toArray)) w) : wpList P ops Q (o :: rest) a w := by
  refine wpList_plain hgd fun K hK => ?_
  unfold Oper.wp execOp
  simp only [ho, hx, Instr.loadAt, Instr.sureAddr, Sem.run_bind, Sem.run_pure, Result.andThen_ok, run_loadVar_agg hu hi hl hc]
  exact hK _ _ h
/-- a struct variable is laid -/
theorem wpList_alloc_agg (hgd : o.guard = none) (T : TypeId) (ho : o.op = .alloc T) (Z : Array Value) (hz : (P.info? T).map (·.zero) = some (some (.agg Z))) (h : wpList P ops Q rest (a.put o.dst (.pointer (some ⟨w.heap.size, 0, none⟩))) (w.alloc (.cells Z T))) : wpList P ops Q (o :: rest) a w := by
  refine wpList_plain hgd fun K hK => ?_
  unfold Oper.wp execOp
  cases hq : P.info? T with
  | none => simp [hq] at hz
  | some i =>
    have hzz : i.zero = some (.agg Z) := by simpa [hq] using hz
    have hzv : (zeroValue T).run P w = .ok (.agg Z) w := by simp [zeroValue, typeInfo, hq, hzz]
    have hnv : (newVar T (.agg Z)).run P w = .ok ⟨w.heap.size, 0, none⟩ (w.alloc (.cells Z T)) := by
      simp [newVar, newRow, Value.cells]
    simp only [ho, Instr.alloc, Sem.run_bind, Sem.run_pure, Result.andThen_ok, hzv, hnv]
    exact hK _ _ h
/-- a struct is stored into the variable that was just laid -/
theorem wpList_store_new (hgd : o.guard = none) (T : TypeId) (x y : Operand) (ho : o.op = .store T x y) (T0 : TypeId) (old : Array Value) (cs : List Value) (hx : a.eval x = .pointer (some ⟨w.heap.size, 0, none⟩)) (hy : a.eval y = .agg cs.toArray)
    (hi : (P.info? T).map (·.size) = some cs.length) (hold : old.size = cs.length) (h1 : ∀ u ∈ cs, u.oneCell' = true) (h : wpList P ops Q rest (a.put o.dst undef) (w.alloc (.cells cs.toArray T0))) : wpList P ops Q (o :: rest) a (w.alloc (.cells old T0)) := by
  have hw : (w.alloc (.cells old T0)).setRow w.heap.size cs.toArray = w.alloc (.cells cs.toArray T0) := by
    exact World.setRow_alloc_new w old cs.toArray T0
  refine wpList_plain hgd fun K hK => ?_
  refine wp_store_row T x y ho w.heap.size cs.toArray hx hy T0 old (heap_alloc_new w _) (by simpa using hi) (by simpa using hold) (by rw [Array.all_eq_true_iff_forall_mem]; intro u hu; exact h1 u (by simpa using hu)) ?_
  rw [hw]
  exact hK _ _ h
/-- a struct is stored into a variable -/
theorem wpList_store_agg (hgd : o.guard = none) (T : TypeId) (x y : Operand) (ho : o.op = .store T x y) (g : Nat) (T0 : TypeId) (old : Array Value) (cs : List Value) (hg : w.heap[g]? = some (.cells old T0 (0, 0))) (hx : a.eval x = .pointer (some ⟨g, 0, none⟩)) (hy : a.eval y = .agg cs.toArray)
    (hi : (P.info? T).map (·.size) = some cs.length) (hold : old.size = cs.length) (h1 : ∀ u ∈ cs, u.oneCell' = true) (h : wpList P ops Q rest (a.put o.dst undef) (w.setRow g cs.toArray)) : wpList P ops Q (o :: rest) a w := by
  refine wpList_plain hgd fun K hK => ?_
  refine wp_store_row T x y ho g cs.toArray hx hy T0 old hg (by simpa using hi) (by simpa using hold) (by rw [Array.all_eq_true_iff_forall_mem]; intro u hu; exact h1 u (by simpa using hu)) ?_
  exact hK _ _ h
theorem fold_set (cs : List Value) : ∀ (k : Nat) (l : List Value), k + cs.length ≤ l.length → ((cs.zipIdx k).foldl (fun (l : List Value) (p : Value × Nat) => l.set p.2 p.1) l) = l.take k ++ cs ++ l.drop (k + cs.length) := by
  induction cs with
  | nil => intro k l _; simp
  | cons c cs ih =>
    intro k l hl
    simp only [List.length_cons] at hl
    rw [List.zipIdx_cons, List.foldl_cons, ih (k + 1) _ (by rw [List.length_set]; omega)]
    simp only [List.length_cons]
    have e1 : (l.set k c).take (k + 1) = l.take k ++ [c] := by
      rw [List.take_add_one, List.take_set_of_le (by omega), List.getElem?_set_self (by omega)]; rfl
    have e2 : (l.set k c).drop (k + 1 + cs.length) = l.drop (k + (cs.length + 1)) := by
      rw [List.drop_set_of_lt (by omega)]; congr 1; omega
    rw [e1, e2]; simp
theorem fold_arr (L : List (Value × Nat)) : ∀ (z : Array Value), (L.foldl (fun (cs : Array Value) (p : Value × Nat) => cs.setIfInBounds (0 + p.2) p.1) z).toList = L.foldl (fun (l : List Value) (p : Value × Nat) => l.set p.2 p.1) z.toList := by
  induction L with
  | nil => intro z; rfl
  | cons p L ih => intro z; rw [List.foldl_cons, List.foldl_cons, ih]; simp
/-- []T{x}, x a struct -/
theorem wpList_slice1_agg (hgd : o.guard = none) (T e : TypeId) (x : Operand) (ho : o.op = .buildSlice T 1 #[(0, x)]) (ht : P.underlying T = some (.slice e)) (Z : Array Value) (cs : List Value) (hinfo : (P.info? e).map (fun i => (i.zero, i.size)) = some (some (.agg Z), cs.length)) (hn : 0 < cs.length ∧ cs.length ≤ 1000) (hZ : Z.size = cs.length)
    (hx : a.eval x = .agg cs.toArray) (h : wpList P ops Q rest (a.put o.dst (.slice (some ⟨w.heap.size, 0, none⟩) 1 1)) (w.alloc (.cells cs.toArray e))) : wpList P ops Q (o :: rest) a w := by
  refine wpList_plain hgd fun K hK => ?_
  obtain ⟨i, hi, hzz⟩ := Option.map_eq_some_iff.1 hinfo
  simp only [Prod.mk.injEq] at hzz
  obtain ⟨hz, hs⟩ := hzz
  have hfill : ∀ z : Array Value, z.size = cs.length → Instr.fill (fun i => some (i * cs.length, cs.length)) z [(0, .agg cs.toArray)] = some cs.toArray := by
    intro z hzs
    have e1 : (cs.toArray.zipIdx.foldl (fun (r : Array Value) (p : Value × Nat) => r.setIfInBounds (0 + p.2) p.1) z) = cs.toArray := by
      apply Array.ext'
      rw [← Array.foldl_toList, fold_arr, Array.toList_zipIdx]
      rw [fold_set cs 0 z.toList (by simp [hzs])]
      simp [hzs]
    simp only [Instr.fill, Value.cells, Nat.zero_mul]
    simp [hzs] at e1 ⊢
    exact e1
  have hrun : (Instr.buildSlice T 1 #[(0, .agg cs.toArray)]).run P w = .ok (.slice (some ⟨w.heap.size, 0, none⟩) 1 1) (w.alloc (.cells cs.toArray e)) := by
    have h1 : ¬ (2 ^ 24 < 1 * cs.length) := by omega
    have h2 : ¬ (1 * cs.length = 0) := by omega
    have hf := hfill ((Array.range (1 * cs.length)).map (fun k => (Value.agg Z).cells[k % (Value.agg Z).cells.size]!)) (by simp)
    simp only [Instr.buildSlice, Sem.run_bind, run_underlying ht, Result.andThen_ok]
    simp [sizeOf, typeInfo, zeroValue, hi, hz, hs, newRow] at hf ⊢
    rw [if_neg (by omega), if_neg (by intro e; simp [e] at hn), hf]
    simp
  unfold Oper.wp execOp
  simp only [ho, List.map_toArray, List.map_cons, List.map_nil, hx, Sem.run_bind, hrun, Result.andThen_ok, Sem.run_pure]
  exact hK _ _ h
theorem run_newVar_agg (T : TypeId) (Z : Array Value) : (newVar T (.agg Z)).run P w = .ok ⟨w.heap.size, 0, none⟩ (w.alloc (.cells Z T)) := by
  simp [newVar, newRow, Value.cells]
/-- a struct's variable is laid with its value -/
theorem wpList_box_agg (hgd : o.guard = none) (T : TypeId) (x : Operand) (ho : o.op = .box T x) (Z : Array Value) (hx : a.eval x = .agg Z) (h : wpList P ops Q rest (a.put o.dst (.pointer (some ⟨w.heap.size, 0, none⟩))) (w.alloc (.cells Z T))) : wpList P ops Q (o :: rest) a w := by
  refine wpList_plain hgd fun K hK => ?_
  unfold Oper.wp execOp
  simp only [ho, Instr.box, Sem.run_bind, Sem.run_pure, Result.andThen_ok, hx, run_newVar_agg]
  exact hK _ _ h
/-- the same, the world behind it a variable -/
theorem wpList_box_new (hgd : o.guard = none) (T : TypeId) (x : Operand) (ho : o.op = .box T x) (cs : List Value) (hx : a.eval x = .agg cs.toArray)
    (h : ∀ g w1, w.heap.size ≤ g → w1.heap[g]? = some (.cells cs.toArray T (0, 0)) → (∀ S : Nat → Prop, Mod S w w1) → wpList P ops Q rest (a.put o.dst (.pointer (some ⟨g, 0, none⟩))) w1) : wpList P ops Q (o :: rest) a w :=
  wpList_box_agg hgd T x ho cs.toArray hx (h _ _ (Nat.le_refl _) (heap_alloc_new w _) fun S => (Mod.refl S w).alloc _)
theorem wpList_alloc_new (hgd : o.guard = none) (T : TypeId) (ho : o.op = .alloc T) (Z : List Value) (hz : (P.info? T).map (·.zero) = some (some (.agg Z.toArray)))
    (h : ∀ g w1, w.heap.size ≤ g → w1.heap[g]? = some (.cells Z.toArray T (0, 0)) → (∀ S : Nat → Prop, Mod S w w1) → wpList P ops Q rest (a.put o.dst (.pointer (some ⟨g, 0, none⟩))) w1) : wpList P ops Q (o :: rest) a w :=
  wpList_alloc_agg hgd T ho Z.toArray hz (h _ _ (Nat.le_refl _) (heap_alloc_new w _) fun S => (Mod.refl S w).alloc _)
theorem heap_setRow_self {g : Nat} {T : TypeId} {old cs : Array Value} {fr : Nat × Nat} (h : w.heap[g]? = some (.cells old T fr)) : (w.setRow g cs).heap[g]? = some (.cells cs T fr) := by
  unfold World.setRow
  simp [Array.getElem?_modify, h]
theorem Mod.setRow {S : Nat → Prop} {w w1 : World} (h : Mod S w w1) {g : Nat} (hg : S g ∨ w.heap.size ≤ g) (cs : Array Value) : Mod S w (w1.setRow g cs) :=
  h.trans (T := fun k => k = g) ⟨rfl, rfl, rfl, by simp, fun k _ hk => setRow_other w1 g k cs (fun e => hk e)⟩ (by rintro k rfl; exact hg)
/-- a struct is stored into a variable, the world behind it a variable -/
theorem wpList_store_var (hgd : o.guard = none) (T : TypeId) (x y : Operand) (ho : o.op = .store T x y) (g : Nat) (T0 : TypeId) (old cs : List Value) (hg : w.heap[g]? = some (.cells old.toArray T0 (0, 0))) (hx : a.eval x = .pointer (some ⟨g, 0, none⟩)) (hy : a.eval y = .agg cs.toArray)
    (hi : (P.info? T).map (·.size) = some cs.length) (hold : old.length = cs.length) (h1 : ∀ u ∈ cs, u.oneCell' = true)
    (h : ∀ w1, w1.heap[g]? = some (.cells cs.toArray T0 (0, 0)) → Mod (fun k => k = g) w w1 → wpList P ops Q rest (a.put o.dst undef) w1) : wpList P ops Q (o :: rest) a w :=
  wpList_store_agg hgd T x y ho g T0 old.toArray cs hg hx hy hi (by simpa using hold) h1 (h _ (heap_setRow_self hg) ((Mod.refl (fun k => k = g) w).setRow (.inl rfl) _))
/-- load, then a new variable with it: 'for _, m := range l' -/
theorem wpList_copy_var {o1 o2 o3 : Oper} (g1 : o1.guard = none) (g2 : o2.guard = none) (g3 : o3.guard = none) (T : TypeId) (x y z : Operand) (ho1 : o1.op = .load T x) (ho2 : o2.op = .alloc T) (ho3 : o3.op = .store T y z)
    {fs : Array Field} (hu : P.underlying T = some (.struct fs)) {n : Nat} (Z : List Value) (hinfo : (P.info? T).map (fun i => (i.zero, i.size)) = some (some (.agg Z.toArray), n)) (hZ : Z.length = n)
    (ad : Addr) (hx : a.eval x = .pointer (some ad)) (cs : List Value) (hl : cs.length = n) (h1 : ∀ u ∈ cs, u.oneCell' = true) (hc : ∀ i u, cs[i]? = some u → w.cell? (ad.add i) = some u)
    (hy : ∀ v p, ((a.put o1.dst v).put o2.dst p).eval y = p) (hz : ∀ v p, ((a.put o1.dst v).put o2.dst p).eval z = v)
    (h : ∀ g w1, w.heap.size ≤ g → w1.heap[g]? = some (.cells cs.toArray T (0, 0)) → (∀ S : Nat → Prop, Mod S w w1) → wpList P ops Q rest (((a.put o1.dst (.agg cs.toArray)).put o2.dst (.pointer (some ⟨g, 0, none⟩))).put o3.dst undef) w1) : wpList P ops Q (o1 :: o2 :: o3 :: rest) a w := by
  obtain ⟨i, hi, hzz⟩ := Option.map_eq_some_iff.1 hinfo
  simp only [Prod.mk.injEq] at hzz
  have hsz : (P.info? T).map (·.size) = some n := by rw [hi]; simp [hzz.2]
  have hzr : (P.info? T).map (·.zero) = some (some (.agg Z.toArray)) := by rw [hi]; simp [hzz.1]
  refine wpList_load_agg g1 T x ho1 hu hsz ad hx cs hl hc ?_
  refine wpList_alloc_agg g2 T ho2 Z.toArray hzr ?_
  refine wpList_store_new g3 T y z ho3 T Z.toArray cs (hy _ _) (hz _ _) (by rw [hsz, hl]) (by simp [hZ, hl]) h1 ?_
  exact h _ _ (Nat.le_refl _) (heap_alloc_new w _) fun S => (Mod.refl S w).alloc _
theorem wpStill_load_agg {K : Act → Prop} (T : TypeId) (x : Operand) (ho : o.op = .load T x) {fs : Array Field} (hu : P.underlying T = some (.struct fs)) {n : Nat} (hi : (P.info? T).map (·.size) = some n) (ad : Addr) (hx : a.eval x = .pointer (some ad)) (cs : List Value) (hl : cs.length = n)
    (hc : ∀ i u, cs[i]? = some u → w.cell? (ad.add i) = some u) (h : K (a.put o.dst (.agg cs.toArray))) : o.still P a w K := by
  unfold Oper.still execOp
  simp only [ho, hx, Instr.loadAt, Instr.sureAddr, Sem.run_bind, Sem.run_pure, Result.andThen_ok, run_loadVar_agg hu hi hl hc]
  exact ⟨rfl, h⟩
/-- append(v, y), y of whatever kind; behind 'at_builtin', the list of one just laid -/
theorem append_rd {α : Type} {R : Rd α} {W : World} (base : Nat) (hgd : o.guard = none) (s x : Operand) (t e : TypeId) (z : Value) (bytes : Nat)
    (ho : o.op = .call { callee := .builtin .append, args := #[s, x], argTypes := #[t, t] })
    (ht : P.underlying t = some (.slice e)) (hinfo : (P.info? e).map (fun i => (i.zero, i.size, i.bytes)) = some (some z, R.sz, bytes)) (hz : z.cells.size = R.sz) (hb0 : 0 < bytes)
    (v : Value) (xs : List α) (y : α) (cs : List Value) (S : Nat → Prop) (hs : a.eval s = v) (hx : a.eval x = .slice (some ⟨W.heap.size, 0, none⟩) 1 1)
    (HO : OwnR R e W base S v xs) (hy : R.rel W (fun k => S k ∧ some k ≠ v.ownBlock) cs y) (hbase : base ≤ W.heap.size) (hl : (xs.length + 1) * bytes ≤ 140737488355328)
    (h : ∀ A c w1, OwnR R e w1 base S (.slice A (xs.length + 1) c) (xs ++ [y]) → Mod (fun k => v.ownBlock = some k) W w1 → NewOr W v (.slice A (xs.length + 1) c) → wpList P ops Q rest (a.put o.dst (.slice A (xs.length + 1) c)) w1) :
    wpList P ops Q (o :: rest) a (W.alloc (.cells cs.toArray e)) := by
  obtain ⟨i0, hi, hzz⟩ := Option.map_eq_some_iff.1 hinfo
  simp only [Prod.mk.injEq] at hzz
  obtain ⟨hz0, hz1, hz2⟩ := hzz
  obtain ⟨cells, hown, hread⟩ := HO
  have hlen : xs.length + 1 ≤ 140737488355328 := Nat.le_trans (Nat.le_mul_of_pos_right _ hb0) hl
  have hcs := R.len hy
  refine wpList_append_own_at (W.alloc (.cells cs.toArray e)) hgd s x t ho base e i0 z R.sz bytes ht hi hz0 hz1 hz2 hz R.pos v xs.length cells hs (hown.alloc _) ⟨W.heap.size, 0, none⟩ 1 1 cs hx (by omega)
    (World.news_of_block (cs := cs.toArray) (t := e) (fr := (0, 0)) (heap_alloc_new W _)) (R.one hy) (by simp only [maxLen]; omega) hl (by simp; omega) ?_
  intro v1 w1 hown1 hg _ hat
  obtain ⟨A, c, rfl⟩ := own_slice hown1
  have hn : NewOr W v (.slice A (xs.length + 1) c) := by
    rcases hat with hat | hat
    · exact .inl hat
    · exact .inr ⟨_, hat, by simp⟩
  have hg' : W.grownBy w1 v.ownBlock := World.grownBy.trans (World.grownBy_alloc W _ _) hg
  refine h A c w1 ?_ ((Mod.refl (fun k => v.ownBlock = some k) W).grown hg' (fun k hk => .inl hk.symm)) hn
  exact OwnR.snoc hread (by rw [hown.1]) hy (by simpa using hown1) hg' hn
/-- past a label that no goto names -/
theorem wp_label_seq {l : Nat} {y : Code} (h : y.wp P Q a w) : (Code.seq (Code.label l) y).wp P Q a w := wp_seq (wp_label h)
theorem quiet_eq {f : FuncId} {args : Array Value} {n : Nat} {v : Value} (h : Calls P f args (w.drewN n) fun e w' => e = .returned v ∧ w.drewN n = w') : Calls P f args (w.drewN n) fun e w'' => e = .returned v ∧ ∃ m, w'' = w.drewN m :=
  h.mono fun _ _ ⟨he, hm⟩ => ⟨he, n, hm.symm⟩
theorem add_own (g o i : Nat) : (⟨g, o, none⟩ : Addr).add i = ⟨g, o + i, none⟩ := by unfold Addr.add; split <;> simp_all
theorem agg_at (g i : Nat) : (⟨g, 0, none⟩ : Addr).add i = ⟨g, i, none⟩ := by unfold Addr.add; split <;> simp_all
theorem run_load_blk {T : TypeId} {fs : Array Field} (hu : P.underlying T = some (.struct fs)) {g : Nat} {T0 : TypeId} {cs : List Value} {fr : Nat × Nat} (hi : (P.info? T).map (·.size) = some cs.length) (hg : w.heap[g]? = some (.cells cs.toArray T0 fr)) :
    (loadVar T ⟨g, 0, none⟩).run P w = .ok (.agg cs.toArray) w :=
  run_loadVar_agg hu hi rfl (fun i u h => by rw [agg_at, cell_of_blk hg]; simpa using h)
/-- a struct is handed back -/
theorem results_agg {fn : Func} {p : Tmp} {T : TypeId} {fs : Array Field} (h : fn.results = #[.cell p T]) (tmps : Array Value) (w : World) (g : Nat) (T0 : TypeId) (cs : List Value) (fr : Nat × Nat)
    (hp : tmps.getD p undef = .pointer (some ⟨g, 0, none⟩)) (hg : w.heap[g]? = some (.cells cs.toArray T0 fr)) (hu : P.underlying T = some (.struct fs)) (hi : (P.info? T).map (·.size) = some cs.length) :
    (results fn tmps).run P w = .ok (.agg cs.toArray) w := by
  have hp' : tmps[p]?.getD undef = .pointer (some ⟨g, 0, none⟩) := by simpa using hp
  simp [results, h, hp', asAddr, run_load_blk hu hi hg]
/-- a struct and one more -/
theorem results_agg2 {fn : Func} {p q : Tmp} {T : TypeId} {fs : Array Field} (h : fn.results = #[.cell p T, .tmp q]) (tmps : Array Value) (w : World) (g : Nat) (T0 : TypeId) (cs : List Value) (fr : Nat × Nat)
    (hp : tmps.getD p undef = .pointer (some ⟨g, 0, none⟩)) (hg : w.heap[g]? = some (.cells cs.toArray T0 fr)) (hu : P.underlying T = some (.struct fs)) (hi : (P.info? T).map (·.size) = some cs.length) :
    (results fn tmps).run P w = .ok (.tuple #[.agg cs.toArray, tmps.getD q undef]) w := by
  have hp' : tmps[p]?.getD undef = .pointer (some ⟨g, 0, none⟩) := by simpa using hp
  simp [results, h, hp', asAddr, run_load_blk hu hi hg]
theorem wpStill_agg {Qs : Act → Prop} (hw : Region.wanted o (yielded ops a.tmps) = true) (T : TypeId) (x : Operand) (ho : o.op = .load T x) {fs : Array Field} (hu : P.underlying T = some (.struct fs)) {n : Nat} (hi : (P.info? T).map (·.size) = some n) (ad : Addr) (hx : a.eval x = .pointer (some ad)) (cs : List Value) (hl : cs.length = n)
    (hc : ∀ i u, cs[i]? = some u → w.cell? (ad.add i) = some u) (h : wpStill P ops w Qs rest (a.put o.dst (.agg cs.toArray))) : wpStill P ops w Qs (o :: rest) a :=
  wpStill_step fun K hK => by rw [if_pos hw]; exact wpStill_load_agg T x ho hu hi ad hx cs hl hc (hK _ h)
/-- T{..}, T a struct -/
theorem wpList_build (hgd : o.guard = none) (T : TypeId) (parts : Array (Nat × Operand)) (ho : o.op = .build T parts) (vals : Array (Nat × Value)) (hv : parts.map (fun (i, x) => (i, a.eval x)) = vals) (Z : Array Value)
    (hr : P.built T vals.toList = some Z) (h : wpList P ops Q rest (a.put o.dst (.agg Z)) w) : wpList P ops Q (o :: rest) a w := by
  refine wpList_plain hgd fun K hK => ?_
  unfold Oper.wp execOp
  simp only [ho, hv, Sem.run_bind, run_build w T vals Z hr, Result.andThen_ok, Sem.run_pure]
  exact hK _ _ h
/-- a struct is loaded by a guarded operation -/
theorem wpList_load_aggw (hw : Region.wanted o (yielded ops a.tmps) = true) (T : TypeId) (x : Operand) (ho : o.op = .load T x) {fs : Array Field} (hu : P.underlying T = some (.struct fs)) {n : Nat} (hi : (P.info? T).map (·.size) = some n) (ad : Addr) (hx : a.eval x = .pointer (some ad)) (cs : List Value) (hl : cs.length = n)
    (hc : ∀ i u, cs[i]? = some u → w.cell? (ad.add i) = some u) (h : wpList P ops Q rest (a.put o.dst (.agg cs.toArray)) w) : wpList P ops Q (o :: rest) a w := by
  refine BigFrame.wpList_want hw fun K hK => ?_
  unfold Oper.wp execOp
  simp only [ho, hx, Instr.loadAt, Instr.sureAddr, Sem.run_bind, Sem.run_pure, Result.andThen_ok, run_loadVar_agg hu hi hl hc]
  exact hK _ _ h
end
end Go.Proofs.Ytlimjdejcjgocaa
