/- Part of this claim's proof (texts Agg, Row, Row2, Cats6, Cats7, joined by program). -/
import Derived.Laws.Tables
import Derived.Laws.Rows
import Derived.Deep.WholeRow
import Derived.Deep.Draws
import Derived.BigFrame
import Derived.Test.YtefedalnafjcfaaGreatDoorA01
import Derived.Lib.AppendZerosOnto
import Derived.Lib.Overlaps
import Derived.Laws.AppendOwnNone
import Derived.Test.YtefedalnafjcfaaGreatDoorA03
namespace Go.Proofs.YtefedalnafjcfaaGreatDoor
open Go.RowKit
set_option linter.unusedVariables false
section
variable {P : Program} {ops : Array Oper} {rest : List Oper} {o : Oper} {a : Act} {Q : Exit → Act → World → Prop} {w : World}
theorem run_loadVar_agg {T : TypeId} {fs : Array Field} (hu : P.underlying T = some (.struct fs)) {n : Nat} (hi : (P.info? T).map (·.size) = some n) {ad : Addr} {cs : List Value} (hl : cs.length = n) (hc : ∀ i u, cs[i]? = some u → w.cell? (ad.add i) = some u) :
    (loadVar T ad).run P w = .ok (.agg cs.toArray) w := by
  have h1 := run_loadCells_list (P := P) w ad cs hc
  cases hq : P.info? T with
  | none => simp [hq] at hi
  | some i =>
    have hs : i.size = cs.length := by simpa [hq, hl] using hi
    have hagg : (isAgg T).run P w = .ok true w := by
      unfold isAgg
      rw [Sem.run_bind, run_underlying hu w]
      simp
    simp [loadVar, Sem.run_bind, hagg, sizeOf, typeInfo, hq, hs, h1]
/-- a struct is loaded -/
theorem wpList_load_agg (hgd : o.guard = none) (T : TypeId) (x : Operand) (ho : o.op = .load T x) {fs : Array Field} (hu : P.underlying T = some (.struct fs)) {n : Nat} (hi : (P.info? T).map (·.size) = some n) (ad : Addr) (hx : a.eval x = .pointer (some ad)) (cs : List Value) (hl : cs.length = n)
    (hc : ∀ i u, cs[i]? = some u → w.cell? (ad.add i) = some u) (h : wpList P ops Q rest (a.put o.dst (.agg cs.toArray)) w) : wpList P ops Q (o :: rest) a w := by
  refine wpList_plain hgd fun K hK => ?_
  unfold Oper.wp execOp
  simp only [ho, hx, Instr.loadAt, Instr.sureAddr, Sem.run_bind, Sem.run_pure, Result.andThen_ok, run_loadVar_agg hu hi hl hc]
  exact hK _ _ h
/-- a struct variable is laid -/
theorem wpList_alloc_agg (hgd : o.guard = none) (T : TypeId) (ho : o.op = .alloc T) (Z : Array Value) (hz : (P.info? T).map (·.zero) = some (some (.agg Z))) (h : wpList P ops Q rest (a.put o.dst (.pointer (some ⟨w.heap.size, 0, none⟩))) (w.alloc (.cells Z T))) : wpList P ops Q (o :: rest) a w := by
  refine wpList_plain hgd fun K hK => ?_
  unfold Oper.wp execOp
  cases hq : P.info? T with
  | none => simp [hq] at hz
  | some i =>
    have hzz : i.zero = some (.agg Z) := by simpa [hq] using hz
    have hzv : (zeroValue T).run P w = .ok (.agg Z) w := by simp [zeroValue, typeInfo, hq, hzz]
    have hnv : (newVar T (.agg Z)).run P w = .ok ⟨w.heap.size, 0, none⟩ (w.alloc (.cells Z T)) := by
      simp [newVar, newRow, Value.cells]
    simp only [ho, Instr.alloc, Sem.run_bind, Sem.run_pure, Result.andThen_ok, hzv, hnv]
    exact hK _ _ h
/-- a struct is stored into the variable that was just laid -/
theorem wpList_store_new (hgd : o.guard = none) (T : TypeId) (x y : Operand) (ho : o.op = .store T x y) (T0 : TypeId) (old : Array Value) (cs : List Value) (hx : a.eval x = .pointer (some ⟨w.heap.size, 0, none⟩)) (hy : a.eval y = .agg cs.toArray)
    (hi : (P.info? T).map (·.size) = some cs.length) (hold : old.size = cs.length) (h1 : ∀ u ∈ cs, u.oneCell' = true) (h : wpList P ops Q rest (a.put o.dst undef) (w.alloc (.cells cs.toArray T0))) : wpList P ops Q (o :: rest) a (w.alloc (.cells old T0)) := by
  have hw : (w.alloc (.cells old T0)).setRow w.heap.size cs.toArray = w.alloc (.cells cs.toArray T0) := by
    exact World.setRow_alloc_new w old cs.toArray T0
  refine wpList_plain hgd fun K hK => ?_
  refine wp_store_row T x y ho w.heap.size cs.toArray hx hy T0 old (heap_alloc_new w _) (by simpa using hi) (by simpa using hold) (by rw [Array.all_eq_true_iff_forall_mem]; intro u hu; exact h1 u (by simpa using hu)) ?_
  rw [hw]
  exact hK _ _ h
/-- a struct is stored into a variable -/
theorem wpList_store_agg (hgd : o.guard = none) (T : TypeId) (x y : Operand) (ho : o.op = .store T x y) (g : Nat) (T0 : TypeId) (old : Array Value) (cs : List Value) (hg : w.heap[g]? = some (.cells old T0 (0, 0))) (hx : a.eval x = .pointer (some ⟨g, 0, none⟩)) (hy : a.eval y = .agg cs.toArray)
    (hi : (P.info? T).map (·.size) = some cs.length) (hold : old.size = cs.length) (h1 : ∀ u ∈ cs, u.oneCell' = true) (h : wpList P ops Q rest (a.put o.dst undef) (w.setRow g cs.toArray)) : wpList P ops Q (o :: rest) a w := by
  refine wpList_plain hgd fun K hK => ?_
  refine wp_store_row T x y ho g cs.toArray hx hy T0 old hg (by simpa using hi) (by simpa using hold) (by rw [Array.all_eq_true_iff_forall_mem]; intro u hu; exact h1 u (by simpa using hu)) ?_
  exact hK _ _ h
theorem fold_set (cs : List Value) : ∀ (k : Nat) (l : List Value), k + cs.length ≤ l.length → ((cs.zipIdx k).foldl (fun (l : List Value) (p : Value × Nat) => l.set p.2 p.1) l) = l.take k ++ cs ++ l.drop (k + cs.length) := by
  induction cs with
  | nil => intro k l _; simp
  | cons c cs ih =>
    intro k l hl
    simp only [List.length_cons] at hl
    rw [List.zipIdx_cons, List.foldl_cons, ih (k + 1) _ (by rw [List.length_set]; omega)]
    simp only [List.length_cons]
    have e1 : (l.set k c).take (k + 1) = l.take k ++ [c] := by
      rw [List.take_add_one, List.take_set_of_le (by omega), List.getElem?_set_self (by omega)]; rfl
    have e2 : (l.set k c).drop (k + 1 + cs.length) = l.drop (k + (cs.length + 1)) := by
      rw [List.drop_set_of_lt (by omega)]; congr 1; omega
    rw [e1, e2]; simp
theorem fold_arr (L : List (Value × Nat)) : ∀ (z : Array Value), (L.foldl (fun (cs : Array Value) (p : Value × Nat) => cs.setIfInBounds (0 + p.2) p.1) z).toList = L.foldl (fun (l : List Value) (p : Value × Nat) => l.set p.2 p.1) z.toList := by
  induction L with
  | nil => intro z; rfl
  | cons p L ih => intro z; rw [List.foldl_cons, List.foldl_cons, ih]; simp
/-- []T{x}, x a struct -/
theorem wpList_slice1_agg (hgd : o.guard = none) (T e : TypeId) (x : Operand) (ho : o.op = .buildSlice T 1 #[(0, x)]) (ht : P.underlying T = some (.slice e)) (Z : Array Value) (cs : List Value) (hinfo : (P.info? e).map (fun i => (i.zero, i.size)) = some (some (.agg Z), cs.length)) (hn : 0 < cs.length ∧ cs.length ≤ 1000) (hZ : Z.size = cs.length)
    (hx : a.eval x = .agg cs.toArray) (h : wpList P ops Q rest (a.put o.dst (.slice (some ⟨w.heap.size, 0, none⟩) 1 1)) (w.alloc (.cells cs.toArray e))) : wpList P ops Q (o :: rest) a w := by
  refine wpList_plain hgd fun K hK => ?_
  obtain ⟨i, hi, hzz⟩ := Option.map_eq_some_iff.1 hinfo
  simp only [Prod.mk.injEq] at hzz
  obtain ⟨hz, hs⟩ := hzz
  have hfill : ∀ z : Array Value, z.size = cs.length → Instr.fill (fun i => some (i * cs.length, cs.length)) z [(0, .agg cs.toArray)] = some cs.toArray := by
    intro z hzs
    have e1 : (cs.toArray.zipIdx.foldl (fun (r : Array Value) (p : Value × Nat) => r.setIfInBounds (0 + p.2) p.1) z) = cs.toArray := by
      apply Array.ext'
      rw [← Array.foldl_toList, fold_arr, Array.toList_zipIdx]
      rw [fold_set cs 0 z.toList (by simp [hzs])]
      simp [hzs]
    simp only [Instr.fill, Value.cells, Nat.zero_mul]
    simp [hzs] at e1 ⊢
    exact e1
  have hrun : (Instr.buildSlice T 1 #[(0, .agg cs.toArray)]).run P w = .ok (.slice (some ⟨w.heap.size, 0, none⟩) 1 1) (w.alloc (.cells cs.toArray e)) := by
    have h1 : ¬ (2 ^ 24 < 1 * cs.length) := by omega
    have h2 : ¬ (1 * cs.length = 0) := by omega
    have hf := hfill ((Array.range (1 * cs.length)).map (fun k => (Value.agg Z).cells[k % (Value.agg Z).cells.size]!)) (by simp)
    simp only [Instr.buildSlice, Sem.run_bind, run_underlying ht, Result.andThen_ok]
    simp [sizeOf, typeInfo, zeroValue, hi, hz, hs, newRow] at hf ⊢
    rw [if_neg (by omega), if_neg (by intro e; simp [e] at hn), hf]
    simp
  unfold Oper.wp execOp
  simp only [ho, List.map_toArray, List.map_cons, List.map_nil, hx, Sem.run_bind, hrun, Result.andThen_ok, Sem.run_pure]
  exact hK _ _ h
theorem run_newVar_agg (T : TypeId) (Z : Array Value) : (newVar T (.agg Z)).run P w = .ok ⟨w.heap.size, 0, none⟩ (w.alloc (.cells Z T)) := by
  simp [newVar, newRow, Value.cells]
/-- a struct's variable is laid with its value -/
theorem wpList_box_agg (hgd : o.guard = none) (T : TypeId) (x : Operand) (ho : o.op = .box T x) (Z : Array Value) (hx : a.eval x = .agg Z) (h : wpList P ops Q rest (a.put o.dst (.pointer (some ⟨w.heap.size, 0, none⟩))) (w.alloc (.cells Z T))) : wpList P ops Q (o :: rest) a w := by
  refine wpList_plain hgd fun K hK => ?_
  unfold Oper.wp execOp
  simp only [ho, Instr.box, Sem.run_bind, Sem.run_pure, Result.andThen_ok, hx, run_newVar_agg]
  exact hK _ _ h
/-- the same, the world behind it a variable -/
theorem wpList_box_new (hgd : o.guard = none) (T : TypeId) (x : Operand) (ho : o.op = .box T x) (cs : List Value) (hx : a.eval x = .agg cs.toArray)
    (h : ∀ g w1, w.heap.size ≤ g → w1.heap[g]? = some (.cells cs.toArray T (0, 0)) → (∀ S : Nat → Prop, Mod S w w1) → wpList P ops Q rest (a.put o.dst (.pointer (some ⟨g, 0, none⟩))) w1) : wpList P ops Q (o :: rest) a w :=
  wpList_box_agg hgd T x ho cs.toArray hx (h _ _ (Nat.le_refl _) (heap_alloc_new w _) fun S => (Mod.refl S w).alloc _)
theorem heap_setRow_self {g : Nat} {T : TypeId} {old cs : Array Value} {fr : Nat × Nat} (h : w.heap[g]? = some (.cells old T fr)) : (w.setRow g cs).heap[g]? = some (.cells cs T fr) := by
  unfold World.setRow
  simp [Array.getElem?_modify, h]
theorem Mod.setRow {S : Nat → Prop} {w w1 : World} (h : Mod S w w1) {g : Nat} (hg : S g ∨ w.heap.size ≤ g) (cs : Array Value) : Mod S w (w1.setRow g cs) :=
  h.trans (T := fun k => k = g) ⟨rfl, rfl, rfl, by simp, fun k _ hk => setRow_other w1 g k cs (fun e => hk e)⟩ (by rintro k rfl; exact hg)
/-- a struct is stored into a variable, the world behind it a variable -/
theorem wpList_store_var (hgd : o.guard = none) (T : TypeId) (x y : Operand) (ho : o.op = .store T x y) (g : Nat) (T0 : TypeId) (old cs : List Value) (hg : w.heap[g]? = some (.cells old.toArray T0 (0, 0))) (hx : a.eval x = .pointer (some ⟨g, 0, none⟩)) (hy : a.eval y = .agg cs.toArray)
    (hi : (P.info? T).map (·.size) = some cs.length) (hold : old.length = cs.length) (h1 : ∀ u ∈ cs, u.oneCell' = true)
    (h : ∀ w1, w1.heap[g]? = some (.cells cs.toArray T0 (0, 0)) → Mod (fun k => k = g) w w1 → wpList P ops Q rest (a.put o.dst undef) w1) : wpList P ops Q (o :: rest) a w :=
  wpList_store_agg hgd T x y ho g T0 old.toArray cs hg hx hy hi (by simpa using hold) h1 (h _ (heap_setRow_self hg) ((Mod.refl (fun k => k = g) w).setRow (.inl rfl) _))
/-- load, then a new variable with it: 'for _, m := range l' -/
theorem wpList_copy_var {o1 o2 o3 : Oper} (g1 : o1.guard = none) (g2 : o2.guard = none) (g3 : o3.guard = none) (T : TypeId) (x y z : Operand) (ho1 : o1.op = .load T x) (ho2 : o2.op = .alloc T) (ho3 : o3.op = .store T y z)
    {fs : Array Field} (hu : P.underlying T = some (.struct fs)) {n : Nat} (Z : List Value) (hinfo : (P.info? T).map (fun i => (i.zero, i.size)) = some (some (.agg Z.toArray), n)) (hZ : Z.length = n)
    (ad : Addr) (hx : a.eval x = .pointer (some ad)) (cs : List Value) (hl : cs.length = n) (h1 : ∀ u ∈ cs, u.oneCell' = true) (hc : ∀ i u, cs[i]? = some u → w.cell? (ad.add i) = some u)
    (hy : ∀ v p, ((a.put o1.dst v).put o2.dst p).eval y = p) (hz : ∀ v p, ((a.put o1.dst v).put o2.dst p).eval z = v)
    (h : ∀ g w1, w.heap.size ≤ g → w1.heap[g]? = some (.cells cs.toArray T (0, 0)) → (∀ S : Nat → Prop, Mod S w w1) → wpList P ops Q rest (((a.put o1.dst (.agg cs.toArray)).put o2.dst (.pointer (some ⟨g, 0, none⟩))).put o3.dst undef) w1) : wpList P ops Q (o1 :: o2 :: o3 :: rest) a w := by
  obtain ⟨i, hi, hzz⟩ := Option.map_eq_some_iff.1 hinfo
  simp only [Prod.mk.injEq] at hzz
  have hsz : (P.info? T).map (·.size) = some n := by rw [hi]; simp [hzz.2]
  have hzr : (P.info? T).map (·.zero) = some (some (.agg Z.toArray)) := by rw [hi]; simp [hzz.1]
  refine wpList_load_agg g1 T x ho1 hu hsz ad hx cs hl hc ?_
  refine wpList_alloc_agg g2 T ho2 Z.toArray hzr ?_
  refine wpList_store_new g3 T y z ho3 T Z.toArray cs (hy _ _) (hz _ _) (by rw [hsz, hl]) (by simp [hZ, hl]) h1 ?_
  exact h _ _ (Nat.le_refl _) (heap_alloc_new w _) fun S => (Mod.refl S w).alloc _
/-- append(v, y), y of whatever kind; behind 'at_builtin', the list of one just laid -/
theorem append_rd {α : Type} {R : Rd α} {W : World} (base : Nat) (hgd : o.guard = none) (s x : Operand) (t e : TypeId) (z : Value) (bytes : Nat)
    (ho : o.op = .call { callee := .builtin .append, args := #[s, x], argTypes := #[t, t] })
    (ht : P.underlying t = some (.slice e)) (hinfo : (P.info? e).map (fun i => (i.zero, i.size, i.bytes)) = some (some z, R.sz, bytes)) (hz : z.cells.size = R.sz) (hb0 : 0 < bytes)
    (v : Value) (xs : List α) (y : α) (cs : List Value) (S : Nat → Prop) (hs : a.eval s = v) (hx : a.eval x = .slice (some ⟨W.heap.size, 0, none⟩) 1 1)
    (HO : OwnR R e W base S v xs) (hy : R.rel W (fun k => S k ∧ some k ≠ v.ownBlock) cs y) (hbase : base ≤ W.heap.size) (hl : (xs.length + 1) * bytes ≤ 140737488355328)
    (h : ∀ A c w1, OwnR R e w1 base S (.slice A (xs.length + 1) c) (xs ++ [y]) → Mod (fun k => v.ownBlock = some k) W w1 → NewOr W v (.slice A (xs.length + 1) c) → wpList P ops Q rest (a.put o.dst (.slice A (xs.length + 1) c)) w1) :
    wpList P ops Q (o :: rest) a (W.alloc (.cells cs.toArray e)) := by
  obtain ⟨i0, hi, hzz⟩ := Option.map_eq_some_iff.1 hinfo
  simp only [Prod.mk.injEq] at hzz
  obtain ⟨hz0, hz1, hz2⟩ := hzz
  obtain ⟨cells, hown, hread⟩ := HO
  have hlen : xs.length + 1 ≤ 140737488355328 := Nat.le_trans (Nat.le_mul_of_pos_right _ hb0) hl
  have hcs := R.len hy
  refine wpList_append_own_at (W.alloc (.cells cs.toArray e)) hgd s x t ho base e i0 z R.sz bytes ht hi hz0 hz1 hz2 hz R.pos v xs.length cells hs (hown.alloc _) ⟨W.heap.size, 0, none⟩ 1 1 cs hx (by omega)
    (World.news_of_block (cs := cs.toArray) (t := e) (fr := (0, 0)) (heap_alloc_new W _)) (R.one hy) (by simp only [maxLen]; omega) hl (by simp; omega) ?_
  intro v1 w1 hown1 hg _ hat
  obtain ⟨A, c, rfl⟩ := own_slice hown1
  have hn : NewOr W v (.slice A (xs.length + 1) c) := by
    rcases hat with hat | hat
    · exact .inl hat
    · exact .inr ⟨_, hat, by simp⟩
  have hg' : W.grownBy w1 v.ownBlock := World.grownBy.trans (World.grownBy_alloc W _ _) hg
  refine h A c w1 ?_ ((Mod.refl (fun k => v.ownBlock = some k) W).grown hg' (fun k hk => .inl hk.symm)) hn
  exact OwnR.snoc hread (by rw [hown.1]) hy (by simpa using hown1) hg' hn
theorem agg_at (g i : Nat) : (⟨g, 0, none⟩ : Addr).add i = ⟨g, i, none⟩ := by unfold Addr.add; split <;> simp_all
theorem run_load_blk {T : TypeId} {fs : Array Field} (hu : P.underlying T = some (.struct fs)) {g : Nat} {T0 : TypeId} {cs : List Value} {fr : Nat × Nat} (hi : (P.info? T).map (·.size) = some cs.length) (hg : w.heap[g]? = some (.cells cs.toArray T0 fr)) :
    (loadVar T ⟨g, 0, none⟩).run P w = .ok (.agg cs.toArray) w :=
  run_loadVar_agg hu hi rfl (fun i u h => by rw [agg_at, cell_of_blk hg]; simpa using h)
/-- a struct is handed back -/
theorem results_agg {fn : Func} {p : Tmp} {T : TypeId} {fs : Array Field} (h : fn.results = #[.cell p T]) (tmps : Array Value) (w : World) (g : Nat) (T0 : TypeId) (cs : List Value) (fr : Nat × Nat)
    (hp : tmps.getD p undef = .pointer (some ⟨g, 0, none⟩)) (hg : w.heap[g]? = some (.cells cs.toArray T0 fr)) (hu : P.underlying T = some (.struct fs)) (hi : (P.info? T).map (·.size) = some cs.length) :
    (results fn tmps).run P w = .ok (.agg cs.toArray) w := by
  have hp' : tmps[p]?.getD undef = .pointer (some ⟨g, 0, none⟩) := by simpa using hp
  simp [results, h, hp', asAddr, run_load_blk hu hi hg]
/-- a struct and one more -/
theorem results_agg2 {fn : Func} {p q : Tmp} {T : TypeId} {fs : Array Field} (h : fn.results = #[.cell p T, .tmp q]) (tmps : Array Value) (w : World) (g : Nat) (T0 : TypeId) (cs : List Value) (fr : Nat × Nat)
    (hp : tmps.getD p undef = .pointer (some ⟨g, 0, none⟩)) (hg : w.heap[g]? = some (.cells cs.toArray T0 fr)) (hu : P.underlying T = some (.struct fs)) (hi : (P.info? T).map (·.size) = some cs.length) :
    (results fn tmps).run P w = .ok (.tuple #[.agg cs.toArray, tmps.getD q undef]) w := by
  have hp' : tmps[p]?.getD undef = .pointer (some ⟨g, 0, none⟩) := by simpa using hp
  simp [results, h, hp', asAddr, run_load_blk hu hi hg]
/-- a struct is loaded by a guarded operation -/
theorem wpList_load_aggw (hw : Region.wanted o (yielded ops a.tmps) = true) (T : TypeId) (x : Operand) (ho : o.op = .load T x) {fs : Array Field} (hu : P.underlying T = some (.struct fs)) {n : Nat} (hi : (P.info? T).map (·.size) = some n) (ad : Addr) (hx : a.eval x = .pointer (some ad)) (cs : List Value) (hl : cs.length = n)
    (hc : ∀ i u, cs[i]? = some u → w.cell? (ad.add i) = some u) (h : wpList P ops Q rest (a.put o.dst (.agg cs.toArray)) w) : wpList P ops Q (o :: rest) a w := by
  refine BigFrame.wpList_want hw fun K hK => ?_
  unfold Oper.wp execOp
  simp only [ho, hx, Instr.loadAt, Instr.sureAddr, Sem.run_bind, Sem.run_pure, Result.andThen_ok, run_loadVar_agg hu hi hl hc]
  exact hK _ _ h
end
end Go.Proofs.YtefedalnafjcfaaGreatDoor

namespace Go.Proofs.YtefedalnafjcfaaGreatDoor
open Go.RowKit
set_option linter.unusedVariables false
namespace Rd
variable {α : Type} {R : Rd α}
/-- The cells of a row that is read, in one list. -/
theorem RowOf.flat {w : World} {ok : Nat → Prop} {ad : Addr} : ∀ (xs : List α) (m : Nat), (∀ j x, xs[j]? = some x → ∃ c, R.rel w ok c x ∧ ∀ i u, c[i]? = some u → w.cell? (ad.add (m + (j * R.sz + i))) = some u) →
    ∃ cells : List Value, cells.length = xs.length * R.sz ∧ (∀ i u, cells[i]? = some u → w.cell? (ad.add (m + i)) = some u) ∧ (∀ u ∈ cells, u.oneCell' = true) ∧ ∀ j x, xs[j]? = some x → R.rel w ok ((cells.drop (j * R.sz)).take R.sz) x
  | [], m, _ => ⟨[], by simp, by simp, by simp, by simp⟩
  | x :: xs, m, h => by
    obtain ⟨c, hc1, hc2⟩ := h 0 x rfl
    have hl := R.len hc1
    obtain ⟨cells, h1, h2, h3, h4⟩ := RowOf.flat xs (m + R.sz) (fun j y hj => by
      obtain ⟨c', q1, q2⟩ := h (j + 1) y (by simpa using hj)
      refine ⟨c', q1, fun i u hu => ?_⟩
      have := q2 i u hu
      rwa [show m + ((j + 1) * R.sz + i) = m + R.sz + (j * R.sz + i) by rw [Nat.add_mul]; omega] at this)
    refine ⟨c ++ cells, by simp only [List.length_append, h1, hl, List.length_cons, Nat.add_mul]; omega, fun i u hu => ?_, fun u hu => ?_, fun j y hj => ?_⟩
    · by_cases hi : i < c.length
      · rw [List.getElem?_append_left hi] at hu
        have := hc2 i u hu
        simpa using this
      · rw [List.getElem?_append_right (by omega)] at hu
        have := h2 (i - c.length) u hu
        rwa [show m + R.sz + (i - c.length) = m + i by omega] at this
    · rcases List.mem_append.1 hu with hu | hu
      · exact R.one hc1 u hu
      · exact h3 u hu
    · cases j with
      | zero =>
        have : x = y := by simpa using hj
        subst this
        rw [Nat.zero_mul, List.drop_zero, List.take_append_of_le_length (by omega), List.take_of_length_le (by omega)]
        exact hc1
      | succ j =>
        have := h4 j y (by simpa using hj)
        rw [show (j + 1) * R.sz = c.length + j * R.sz by rw [Nat.add_mul]; omega, ← List.drop_drop, List.drop_left]
        exact this
theorem RowOf.weak {w : World} {ok : Nat → Prop} {A : Option Addr} {xs : List α} (h : R.RowOf w ok A xs) : xs = [] ∨ ∃ ad, A = some ad ∧ ∀ j x, xs[j]? = some x → ∃ c, R.rel w ok c x ∧ ∀ i u, c[i]? = some u → w.cell? (ad.add (j * R.sz + i)) = some u :=
  h.imp id (fun ⟨ad, h1, _, h3⟩ => ⟨ad, h1, h3⟩)
end Rd
/-- elements behind one another -/
theorem drop_take_left {A B : List Value} {j s n : Nat} (hA : A.length = n * s) (hj : j < n) : ((A ++ B).drop (j * s)).take s = (A.drop (j * s)).take s := by
  have h1 : j * s + s ≤ A.length := by rw [hA, ← Nat.succ_mul]; exact Nat.mul_le_mul_right _ hj
  rw [List.drop_append_of_le_length (by omega), List.take_append_of_le_length (by rw [List.length_drop]; omega)]
theorem drop_take_right {A B : List Value} {j s n : Nat} (hA : A.length = n * s) (hj : n ≤ j) : ((A ++ B).drop (j * s)).take s = (B.drop ((j - n) * s)).take s := by
  obtain ⟨d, rfl⟩ : ∃ d, j = n + d := ⟨j - n, by omega⟩
  rw [Nat.add_mul, ← hA, ← List.drop_drop, List.drop_left, Nat.add_sub_cancel_left]
section
variable {P : Program} {ops : Array Oper} {rest : List Oper} {o : Oper} {a : Act} {Q : Exit → Act → World → Prop} {w : World} {α : Type} {R : Rd α}
theorem OwnR.one {e : TypeId} {base : Nat} {S : Nat → Prop} {v : Value} {xs : List α} (h : OwnR R e w base S v xs) :
    ∃ cells, w.ownsRow base e R.sz v xs.length cells ∧ (∀ j x, xs[j]? = some x → R.rel w (fun k => S k ∧ some k ≠ v.ownBlock) ((cells.drop (j * R.sz)).take R.sz) x) ∧ ∀ u ∈ cells, u.oneCell' = true := by
  obtain ⟨cells, h1, h2⟩ := h
  refine ⟨cells, h1, h2, fun u hu => ?_⟩
  obtain ⟨i, hi⟩ := List.getElem?_of_mem hu
  have hil := (List.getElem?_eq_some_iff.1 hi).1
  rw [h1.1] at hil
  have hp := R.pos
  have hj : i / R.sz < xs.length := Nat.div_lt_of_lt_mul (by rw [Nat.mul_comm]; exact hil)
  have hrel := h2 (i / R.sz) xs[i / R.sz] (List.getElem?_eq_getElem hj)
  refine R.one hrel u ?_
  refine List.mem_of_getElem? (i := i % R.sz) ?_
  rw [List.getElem?_take_of_lt (Nat.mod_lt _ hp), List.getElem?_drop, Nat.div_add_mod']
  exact hi
/-- append(v, ys...) -/
theorem append_all (base : Nat) (hgd : o.guard = none) (s x : Operand) (t e : TypeId) (z : Value) (bytes : Nat)
    (ho : o.op = .call { callee := .builtin .append, args := #[s, x], argTypes := #[t, t] })
    (ht : P.underlying t = some (.slice e)) (hinfo : (P.info? e).map (fun i => (i.zero, i.size, i.bytes)) = some (some z, R.sz, bytes)) (hz : z.cells.size = R.sz)
    (v : Value) (xs ys : List α) (S : Nat → Prop) (A0 : Option Addr) (c0 : Nat) (hs : a.eval s = v) (hx : a.eval x = .slice A0 ys.length c0)
    (HO : OwnR R e w base S v xs) (hy : ys = [] ∨ ∃ ad, A0 = some ad ∧ ∀ j x, ys[j]? = some x → ∃ c, R.rel w (fun k => S k ∧ some k ≠ v.ownBlock) c x ∧ ∀ i u, c[i]? = some u → w.cell? (ad.add (j * R.sz + i)) = some u) (hA0 : A0 = none → c0 = 0) (hbase : base ≤ w.heap.size) (hl : (xs.length + ys.length) * bytes ≤ 140737488355328) (hb0 : 0 < bytes)
    (h : ∀ A c w1, OwnR R e w1 base S (.slice A (xs.length + ys.length) c) (xs ++ ys) → Mod (fun k => v.ownBlock = some k) w w1 → NewOr w v (.slice A (xs.length + ys.length) c) → wpList P ops Q rest (a.put o.dst (.slice A (xs.length + ys.length) c)) w1) :
    wpList P ops Q (o :: rest) a w := by
  obtain ⟨i0, hi, hzz⟩ := Option.map_eq_some_iff.1 hinfo
  simp only [Prod.mk.injEq] at hzz
  obtain ⟨hz0, hz1, hz2⟩ := hzz
  obtain ⟨cells, hown, hread⟩ := HO
  have hlen : xs.length + ys.length ≤ 140737488355328 := Nat.le_trans (Nat.le_mul_of_pos_right _ hb0) hl
  cases A0 with
  | none =>
    have hy0 : ys = [] := by
      rcases hy with h | ⟨ad, hA, _⟩
      · exact h
      · cases hA
    subst hy0
    obtain rfl := hA0 rfl
    refine wpList_append_own_none hgd s x t ho base e i0 R.sz ht hi v xs.length cells hs hown hx ?_
    obtain ⟨A, c, rfl⟩ := own_slice hown
    exact h A c w (by rw [List.append_nil]; exact ⟨cells, hown, hread⟩) (Mod.refl (fun k => (Value.slice A xs.length c).ownBlock = some k) w) (.inl rfl)
  | some ad =>
    obtain ⟨cs, hcl, hcell, hone, hrel⟩ := Rd.RowOf.flat (R := R) (w := w) (ok := fun k => S k ∧ some k ≠ v.ownBlock) (ad := ad) ys 0 (by
      rcases hy with rfl | ⟨ad', hA, h⟩
      · intro j x hj; simp at hj
      · cases hA
        intro j x hj
        obtain ⟨c, h1, h2⟩ := h j x hj
        exact ⟨c, h1, fun i u hu => by rw [Nat.zero_add]; exact h2 i u hu⟩)
    refine wpList_append_own_at w hgd s x t ho base e i0 z R.sz bytes ht hi hz0 hz1 hz2 hz R.pos v xs.length cells hs hown ad ys.length c0 cs hx hcl (fun i u hu => by simpa using hcell i u hu) hone (by simp only [maxLen]; omega) hl hbase ?_
    intro v1 w1 hown1 hg _ hat
    obtain ⟨A, c, rfl⟩ := own_slice hown1
    have hn : NewOr w v (.slice A (xs.length + ys.length) c) := by
      rcases hat with hat | hat
      · exact .inl hat
      · exact .inr ⟨_, hat, Nat.le_refl _⟩
    refine h A c w1 ?_ ((Mod.refl (fun k => v.ownBlock = some k) w).grown hg (fun k hk => .inl hk.symm)) hn
    have hm : ∀ k, (S k ∧ some k ≠ v.ownBlock) → k < w.heap.size → (S k ∧ some k ≠ (Value.slice A (xs.length + ys.length) c).ownBlock) ∧ w1.heap[k]? = w.heap[k]? := by
      rintro k ⟨hk, hne⟩ hlt
      exact ⟨⟨hk, fun e => hn.ne hlt (fun e2 => hne e2.symm) e.symm⟩, hg.block k hlt hne⟩
    refine ⟨cells ++ cs, by simpa using hown1, fun j y hj => ?_⟩
    by_cases hj' : j < xs.length
    · rw [List.getElem?_append_left hj'] at hj
      rw [drop_take_left hown.1 hj']
      exact R.step hm (hread j y hj)
    · rw [List.getElem?_append_right (by omega)] at hj
      rw [drop_take_right hown.1 (by omega)]
      exact R.step hm (hrel _ y hj)
/-- cs over cur from off on; a name, so that the walk leaves it -/
def laid (cur : List Value) (off : Nat) (cs : List Value) : List Value := cur.take off ++ cs ++ cur.drop (off + cs.length)
end
end Go.Proofs.YtefedalnafjcfaaGreatDoor

namespace Go.Proofs.YtefedalnafjcfaaGreatDoor
open Go.RowKit
set_option linter.unusedVariables false
section
variable {P : Program} {ops : Array Oper} {rest : List Oper} {o : Oper} {a : Act} {Q : Exit → Act → World → Prop} {w : World}
theorem run_cells_laid {g off : Nat} {t : TypeId} {cs cur : List Value} (hg : w.heap[g]? = some (.cells cur.toArray t (0, 0))) (hfit : off + cs.length ≤ cur.length) (h1 : ∀ v ∈ cs, v.oneCell' = true) :
    (storeCells ⟨g, off, none⟩ cs 0).run P w = .ok () (w.setRow g (laid cur off cs).toArray) := by
  have := run_storeCells_at P g off t cs 0 cur.toArray w hg (by simpa using hfit) h1
  simpa [laid] using this
end
end Go.Proofs.YtefedalnafjcfaaGreatDoor

namespace Go.Proofs.YtefedalnafjcfaaGreatDoor
open Go.RowKit Go.Shelf
set_option linter.unusedVariables false
def scells (l : List (List UInt8)) : List Value := l.map encS
theorem scells_len (l : List (List UInt8)) : (scells l).length = l.length := by simp [scells]
theorem scells_app (l m : List (List UInt8)) : scells (l ++ m) = scells l ++ scells m := by simp [scells]
theorem setCell_row {W : World} {g : Nat} {row : List Value} {T : TypeId} (h : W.heap[g]? = some (.cells row.toArray T (0, 0))) (i : Nat) (v : Value) : (W.setCell ⟨g, i, none⟩ v).heap[g]? = some (.cells (row.set i v).toArray T (0, 0)) := by
  simp [World.setCell, Array.getElem?_modify, h]
section
variable {P : Program} {ops : Array Oper} {rest : List Oper} {o : Oper} {a : Act} {Q : Exit → Act → World → Prop} {w : World}
/-- clear(s), its elements of one cell. -/
theorem wpList_clear_one (hgd : o.guard = none) (s : Operand) (dT : TypeId) (ho : o.op = .call { callee := .builtin .clear, args := #[s], argTypes := #[dT] }) (elem : TypeId) (z : Value) (hu : P.underlying dT = some (.slice elem)) (hz : (P.info? elem).map (·.zero) = some (some z)) (hzc : z.cells = #[z]) (hz1 : z.oneCell' = true)
    (g off n c : Nat) (hs : a.eval s = .slice (some ⟨g, off, none⟩) n c) (cur : List Value) (t : TypeId) (hg : w.heap[g]? = some (.cells cur.toArray t (0, 0))) (hfit : off + n ≤ cur.length)
    (h : ∀ w1 zs, zs.length = n → w1.heap[g]? = some (.cells (laid cur off zs).toArray t (0, 0)) → Mod (fun k => k = g) w w1 → wpList P ops Q rest (a.put o.dst (.tuple #[])) w1) : wpList P ops Q (o :: rest) a w := by
  refine wpList_plain hgd fun K hK => ?_
  obtain ⟨i, hq, h2⟩ := Option.map_eq_some_iff.1 hz
  have hlen : (Builtin.zeroCells #[z] n).toList.length = n := by rw [Array.length_toList, size_zeroCells]; simp
  have hone : ∀ v ∈ (Builtin.zeroCells #[z] n).toList, v.oneCell' = true := by
    intro v hv
    simp only [Builtin.zeroCells, Array.toList_map, List.mem_map] at hv
    obtain ⟨k, _, rfl⟩ := hv
    rw [getElem!_pos #[z] _ (by simp [Nat.mod_one])]
    simpa [Nat.mod_one] using hz1
  have hst := run_cells_laid (P := P) hg (by rw [hlen]; exact hfit) hone
  have hrun : (Builtin.clear_ #[dT] o.type #[.slice (some ⟨g, off, none⟩) n c]).run P w = .ok (.tuple #[]) (w.setRow g (laid cur off (Builtin.zeroCells #[z] n).toList).toArray) := by
    cases n with
    | zero =>
      have he : (Builtin.zeroCells #[z] 0).toList = [] := List.eq_nil_of_length_eq_zero (by rw [hlen])
      have hl : laid cur off [] = cur := by simp [laid]
      rw [he, hl, setRow_self w g cur.toArray t (0, 0) hg]
      simp [Builtin.clear_, run_underlying hu]
    | succ n =>
      simp [Builtin.clear_, run_underlying hu, zeroValue, typeInfo, hq, h2, hzc, hst]
  unfold Oper.wp
  simp [execOp, ho, resolve, invoke, builtin, hs, hrun, Result.andThen]
  refine hK _ _ (h _ _ hlen ?_ ((Mod.refl (fun k => k = g) w).setRow (.inl rfl) _))
  rw [heap_setRow_self hg]
end
set_option maxRecDepth 100000 in
theorem out_any (l : List UInt8) (hl : l.length ≤ 140737488355328) (w : World) (E : Env w) :
    Calls Tryz.prog 135 #[encS l] w fun r w' => r = .returned (.bool (!rightB l)) ∧ Mod (fun _ => False) w w' := by
  unfold encS
  go_enter Tryz.func135, Tryz.ntmps135
  go_wp2_with fail
  refine (right_any l hl w E).mono ?_
  rintro r w1 ⟨rfl, hm⟩
  have H := Lib.hid hm; clear hm
  go_wp2_with fail
  go_ret
  exact ⟨rfl, H.out⟩
/-- Where the first that is not right stands. -/
def badI (l : List (List UInt8)) : Int := match l.findIdx? (fun x => !rightB x) with
  | none => -1
  | some i => i
set_option maxRecDepth 100000 in
set_option maxHeartbeats 1000000 in
theorem indexFunc_any (g c : Nat) (l : List (List UInt8)) (w : World) (hc : ∀ j x, l[j]? = some x → w.cell? ⟨g, j, none⟩ = some (encS x)) (hcap : l.length ≤ c) (hln : l.length ≤ 8796093022208) (hx : ∀ x ∈ l, x.length ≤ 140737488355328) (E : Env w) :
    Calls Tryz.prog 153 #[.slice (some ⟨g, 0, none⟩) l.length c, .func (.func 135) #[] #[]] w fun r w' => r = .returned (.int .i64 (badI l)) ∧ Mod (fun _ => False) w w' := by
  obtain ⟨z, hz⟩ : ∃ z, z = badI l := ⟨_, rfl⟩
  rw [← hz]
  have HZ := Lib.hid (And.intro hz (And.intro hc (And.intro hx E))); clear hz hc hx E
  go_enter Tryz.func153, Tryz.ntmps153
  go_wp2_with fail
  go_loopg [8] l.length (fun f si wr => ∃ i : Nat, si = .int .i64 i ∧ i + f = l.length ∧ (∀ x ∈ l.take i, rightB x = true) ∧ Mod (fun _ => False) w wr)
  case atStart => exact ⟨0, rfl, by omega, by simp, .refl _ _⟩
  case round =>
    obtain ⟨i, rfl, hi, hr, hmod⟩ := hrel
    by_cases hlt : i < l.length
    · obtain ⟨x, hx⟩ : ∃ x, l[i]? = some x := ⟨l[i], by simp [hlt]⟩
      have hcx : wr.cell? ⟨g, i, none⟩ = some (encS x) := (hmod.cell (cell_lt (HZ.out.2.1 i x hx)) id).trans (HZ.out.2.1 i x hx)
      have hxl := HZ.out.2.2.1 x (List.mem_of_getElem? hx)
      have HX := Lib.hid (And.intro hi (And.intro hr (And.intro hmod hx))); clear hi hr hmod hx
      go_wp2_with fail
      refine (out_any x hxl wr (HZ.out.2.2.2.mod0 HX.out.2.2.1)).mono ?_
      rintro r w1 ⟨rfl, hm⟩
      have HM := Lib.hid (tr0 HX.out.2.2.1 hm); clear hm
      cases hb : rightB x with
      | true =>
        go_wp2_with fail
        go_roundg (gk - 1)
        case measure => have := HX.out.1; omega
        case rel =>
          refine ⟨i + 1, by go_num, by have := HX.out.1; omega, ?_, HM.out⟩
          rw [List.take_add_one, HX.out.2.2.2]
          intro y hy
          rcases List.mem_append.1 hy with hy | hy
          · exact HX.out.2.1 y hy
          · simp at hy; rw [hy]; exact hb
      | false =>
        go_wp2_with fail
        go_ret
        refine ⟨?_, HM.out⟩
        have : z = i := by
          rw [HZ.out.1]; unfold badI
          have : l.findIdx? (fun x => !rightB x) = some i := by
            rw [List.findIdx?_eq_some_iff_getElem]
            refine ⟨hlt, ?_, fun j hj => ?_⟩
            · have := HX.out.2.2.2
              rw [List.getElem?_eq_getElem hlt] at this
              rw [Option.some.inj this, hb]; rfl
            · have := HX.out.2.1 l[j] (by rw [List.mem_take_iff_getElem]; exact ⟨j, by omega, rfl⟩)
              rw [this]; simp
          rw [this]
        rw [this]; rfl
    · have hie : l.take i = l := List.take_of_length_le (by omega)
      rw [hie] at hr
      have HX := Lib.hid (And.intro hr hmod); clear hr hmod hi hie
      go_wp2_with fail
      go_ret
      refine ⟨?_, HX.out.2⟩
      have : z = -1 := by
        rw [HZ.out.1]; unfold badI
        have : l.findIdx? (fun x => !rightB x) = none := by
          rw [List.findIdx?_eq_none_iff]
          intro x hx; rw [HX.out.1 x hx]; rfl
        rw [this]
      rw [this]; rfl
end Go.Proofs.YtefedalnafjcfaaGreatDoor

namespace Go.Proofs.YtefedalnafjcfaaGreatDoor
open Go.RowKit Go.Shelf
set_option linter.unusedVariables false
def kept (l : List (List UInt8)) (j : Nat) : List (List UInt8) := (l.take j).filter rightB
theorem kept_succ {l : List (List UInt8)} {j : Nat} {x : List UInt8} (h : l[j]? = some x) : kept l (j + 1) = kept l j ++ if rightB x then [x] else [] := by
  unfold kept
  rw [List.take_add_one, h, List.filter_append]
  cases hx : rightB x <;> simp [hx]
/-- The row while what is right is moved up: i are kept, j are looked at. -/
structure DI (w0 : World) (g : Nat) (l : List (List UInt8)) (tail : List Value) (i j : Nat) (row mid : List Value) (w : World) : Prop where
  blk : w.heap[g]? = some (.cells row.toArray 9 (0, 0))
  mod : Mod (fun k => k = g) w0 w
  row : row = scells (kept l j) ++ mid ++ scells (l.drop j) ++ tail
  num : (kept l j).length = i
  mid : i + mid.length = j
theorem DI.cell {w0 w : World} {g : Nat} {l : List (List UInt8)} {tail row mid : List Value} {i j : Nat} (h : DI w0 g l tail i j row mid w) {x : List UInt8} (hx : l[j]? = some x) : w.cell? ⟨g, j, none⟩ = some (encS x) := by
  rw [Lib.cell_of_heap h.blk, List.getElem?_toArray, h.row]
  have hlt := (List.getElem?_eq_some_iff.1 hx).1
  have hl : (scells (kept l j) ++ mid).length = j := by rw [List.length_append, scells_len, h.num, h.mid]
  rw [List.append_assoc, List.getElem?_append_right (by omega), hl, Nat.sub_self, List.drop_eq_getElem_cons hlt]
  simp [scells, (List.getElem?_eq_some_iff.1 hx).2]
theorem DI.len {w0 w : World} {g : Nat} {l : List (List UInt8)} {tail row mid : List Value} {i j : Nat} (h : DI w0 g l tail i j row mid w) (hj : j ≤ l.length) : row.length = (scells l ++ tail).length := by
  have h1 := h.num; have h2 := h.mid
  rw [h.row]
  simp only [List.length_append, scells_len, List.length_drop]
  omega
theorem DI.skip {w0 w w1 : World} {g : Nat} {l : List (List UInt8)} {tail row mid : List Value} {i j : Nat} (h : DI w0 g l tail i j row mid w) (hm : Mod (fun _ => False) w w1) {x : List UInt8} (hx : l[j]? = some x) (hr : rightB x = false) : DI w0 g l tail i (j + 1) row (mid ++ [encS x]) w1 := by
  have hlt := (List.getElem?_eq_some_iff.1 hx).1
  have hk : kept l (j + 1) = kept l j := by rw [kept_succ hx, hr]; simp
  refine ⟨(hm.block g (Array.getElem?_eq_some_iff.1 h.blk).1 id).trans h.blk, tr0 h.mod hm, ?_, by rw [hk]; exact h.num, by have := h.mid; simp; omega⟩
  rw [hk, h.row, List.drop_eq_getElem_cons hlt, (List.getElem?_eq_some_iff.1 hx).2]
  simp [scells]
theorem DI.keep {w0 w w1 : World} {g : Nat} {l : List (List UInt8)} {tail row mid : List Value} {i j : Nat} (h : DI w0 g l tail i j row mid w) (hm : Mod (fun _ => False) w w1) {x : List UInt8} (hx : l[j]? = some x) (hr : rightB x = true) (hij : i < j) :
    DI w0 g l tail (i + 1) (j + 1) (row.set i (encS x)) (mid.tail ++ [encS x]) (w1.setCell ⟨g, i, none⟩ (encS x)) := by
  have hlt := (List.getElem?_eq_some_iff.1 hx).1
  have hk : kept l (j + 1) = kept l j ++ [x] := by rw [kept_succ hx, hr]; simp
  have hb1 := (hm.block g (Array.getElem?_eq_some_iff.1 h.blk).1 id).trans h.blk
  have hmid := h.mid
  cases hmd : mid with
  | nil => rw [hmd] at hmid; simp at hmid; omega
  | cons m mid' =>
    refine ⟨setCell_row hb1 i _, (tr0 h.mod hm).setCell (.inl rfl) _, ?_, by rw [hk, List.length_append, h.num]; rfl, by rw [hmd] at hmid; simp at hmid ⊢; omega⟩
    have hs : (scells (kept l j)).length = i := by rw [scells_len, h.num]
    rw [hk, h.row, hmd, List.drop_eq_getElem_cons hlt, (List.getElem?_eq_some_iff.1 hx).2, List.append_assoc, List.append_assoc, List.set_append_right _ _ (by omega), hs, Nat.sub_self]
    simp [scells]
set_option maxRecDepth 100000 in
set_option maxHeartbeats 2000000 in
theorem deleteFunc_any (g c : Nat) (l : List (List UInt8)) (tail : List Value) (w : World) (hg : w.heap[g]? = some (.cells (scells l ++ tail).toArray 9 (0, 0))) (hcap : l.length ≤ c) (hln : l.length ≤ 8796093022208) (hx : ∀ x ∈ l, x.length ≤ 140737488355328) (E : ∀ w', Mod (fun k => k = g) w w' → Env w') :
    Calls Tryz.prog 134 #[.slice (some ⟨g, 0, none⟩) l.length c, .func (.func 135) #[] #[]] w fun r w' => ∃ tail', r = .returned (.slice (some ⟨g, 0, none⟩) (l.filter rightB).length c) ∧
      w'.heap[g]? = some (.cells (scells (l.filter rightB) ++ tail').toArray 9 (0, 0)) ∧ (scells (l.filter rightB) ++ tail').length = (scells l ++ tail).length ∧ Mod (fun k => k = g) w w' := by
  have hcell : ∀ j x, l[j]? = some x → w.cell? ⟨g, j, none⟩ = some (encS x) := fun j x hj => by
    rw [Lib.cell_of_heap hg, List.getElem?_toArray, List.getElem?_append_left (by rw [scells_len]; exact (List.getElem?_eq_some_iff.1 hj).1)]
    simp [scells, hj]
  have hidx := indexFunc_any g c l w hcell hcap hln hx (E w (.refl _ _))
  unfold badI at hidx
  cases hf : l.findIdx? (fun x => !rightB x) with
  | none =>
    rw [hf] at hidx
    dsimp only at hidx
    have hall : l.filter rightB = l := by
      rw [List.filter_eq_self]
      intro x hx
      have := (List.findIdx?_eq_none_iff.1 hf) x hx
      simpa using this
    rw [hall]
    have HG := Lib.hid hg; clear hg hcell hf hall E hx
    go_enter Tryz.func134, Tryz.ntmps134
    go_wp2_with fail
    refine hidx.mono ?_
    rintro r w1 ⟨rfl, hm⟩
    have HM := Lib.hid hm; clear hm
    go_wp2_with fail
    go_ret
    exact ⟨tail, rfl, (HM.out.block g (Array.getElem?_eq_some_iff.1 HG.out).1 id).trans HG.out, rfl, HM.out.mono (fun k h => h.elim)⟩
  | some i0 =>
    rw [hf] at hidx
    dsimp only at hidx
    rw [List.findIdx?_eq_some_iff_getElem] at hf
    obtain ⟨hi0, hb0, hpre⟩ := hf
    have hk0 : kept l (i0 + 1) = l.take i0 := by
      rw [kept_succ (List.getElem?_eq_getElem hi0)]
      have : rightB l[i0] = false := by simpa using hb0
      rw [this]
      simp only [Bool.false_eq_true, if_false, List.append_nil]
      unfold kept
      rw [List.filter_eq_self]
      intro x hx
      obtain ⟨j, hj, rfl⟩ := List.mem_take_iff_getElem.1 hx
      have := hpre j (by omega)
      simpa using this
    have hD0 : ∀ w1, Mod (fun _ => False) w w1 → DI w g l tail i0 (i0 + 1) (scells l ++ tail) [encS l[i0]] w1 := fun w1 hm =>
      ⟨(hm.block g (Array.getElem?_eq_some_iff.1 hg).1 id).trans hg, hm.mono (fun k h => h.elim), by
        rw [hk0]
        congr 1
        rw [List.append_assoc]
        show scells l = scells (l.take i0) ++ ([encS l[i0]] ++ scells (l.drop (i0 + 1)))
        have : l = l.take i0 ++ (l[i0] :: l.drop (i0 + 1)) := by rw [← List.drop_eq_getElem_cons hi0, List.take_append_drop]
        conv => lhs; rw [this, scells_app]
        rfl, by rw [hk0, List.length_take]; omega, by simp⟩
    have HD := Lib.hid (And.intro hD0 (And.intro E hx)); clear hD0 E hx hcell hb0 hpre hk0 hg
    go_enter Tryz.func134, Tryz.ntmps134
    go_wp2_with fail
    refine hidx.mono ?_
    rintro r w1 ⟨rfl, hm⟩
    have HM := Lib.hid (HD.out.1 w1 hm); clear hm
    have hne : ((i0 : Int) == -1) = false := by simp
    go_wp2_with fail
    clear hne hidx
    go_loopg [5, 6] (l.length - (i0 + 1)) (fun f si sj wr => ∃ (i j : Nat) (row mid : List Value), si = .int .i64 i ∧ sj = .int .i64 j ∧ j + f = l.length ∧ i < j ∧ DI w g l tail i j row mid wr)
    case atStart => exact ⟨i0, i0 + 1, _, _, rfl, by go_num, by omega, by omega, HM.out⟩
    case round =>
      obtain ⟨i, j, row, mid, rfl, rfl, hf, hij, hd⟩ := hrel
      by_cases hlt : j < l.length
      · obtain ⟨x, hx⟩ : ∃ x, l[j]? = some x := ⟨l[j], by simp [hlt]⟩
        have hcx : wr.cell? ⟨g, j, none⟩ = some (.string ⟨x.toArray⟩) := hd.cell hx
        have hxl := HD.out.2.2 x (List.mem_of_getElem? hx)
        have HX := Lib.hid (And.intro hf (And.intro hij (And.intro hd hx))); clear hf hij hd hx
        go_wp2_with fail
        refine (out_any x hxl wr (HD.out.2.1 wr HX.out.2.2.1.mod)).mono ?_
        rintro r w2 ⟨rfl, hm⟩
        cases hb : rightB x with
        | true =>
          have hil : i < l.length := by have := HX.out.2.1; omega
          have HK := HX.out.2.2.1.keep hm HX.out.2.2.2 hb HX.out.2.1
          have hblk := (hm.block g (Array.getElem?_eq_some_iff.1 HX.out.2.2.1.blk).1 id).trans HX.out.2.2.1.blk
          have hrl : row.length = (scells l ++ tail).length := HX.out.2.2.1.len (by omega)
          have hci : ∃ u, w2.cell? ⟨g, i, none⟩ = some u := by
            rw [Lib.cell_of_heap hblk, List.getElem?_toArray]
            exact ⟨_, List.getElem?_eq_getElem (by rw [hrl, List.length_append, scells_len]; omega)⟩
          obtain ⟨u0, hci⟩ := hci
          have hfi : w2.frozen? ⟨g, i, none⟩ = false := Lib.frozen_of_heap hblk i
          have HH := Lib.hid (And.intro HK hm); clear HK hm hblk hrl
          go_wp2_with fail
          go_roundg (gk - 1)
          case measure => have := HX.out.1; omega
          case rel => exact ⟨i + 1, j + 1, _, _, by go_num, by go_num, by have := HX.out.1; omega, by have := HX.out.2.1; omega, HH.out.1⟩
        | false =>
          have HK := Lib.hid (HX.out.2.2.1.skip hm HX.out.2.2.2 hb); clear hm
          go_wp2_with fail
          go_roundg (gk - 1)
          case measure => have := HX.out.1; omega
          case rel => exact ⟨i, j + 1, _, _, rfl, by go_num, by have := HX.out.1; omega, by have := HX.out.2.1; omega, HK.out⟩
      · have hjl : j = l.length := by omega
        have hkl : kept l j = l.filter rightB := by unfold kept; rw [List.take_of_length_le (by omega)]
        have hrl := hd.len (by omega)
        have hil : (l.filter rightB).length = i := by rw [← hkl]; exact hd.num
        have HX := Lib.hid (And.intro hij (And.intro hd (And.intro hkl (And.intro hrl hil)))); clear hij hd hkl hrl hil hf
        have hij2 : i < l.length := by have := HX.out.1; omega
        have HJ := Lib.hid hjl; clear hjl
        go_wp2_with (refine wpList_clear_one rfl _ 36 rfl 9 (.string ⟨#[]⟩) Tryz.underlying36 (by kernel_rfl) rfl rfl g i (l.length - i) (c - i) rfl row 9 HX.out.2.1.blk ?hfit ?_)
        case hfit => rw [HX.out.2.2.2.1, List.length_append, scells_len]; omega
        intro w4 zs hzs hw4 hm4
        have H4 := Lib.hid (And.intro hw4 (And.intro (HX.out.2.1.mod.trans hm4 (fun k hk => .inl hk)) hzs)); clear hw4 hm4 hzs
        go_wp2_with fail
        go_ret
        obtain ⟨hij, hd, hkl, hrl, hil⟩ := HX.out
        have htk : row.take i = scells (l.filter rightB) := by
          have h1 : row = scells (l.filter rightB) ++ (mid ++ scells (l.drop j) ++ tail) := by rw [hd.row, hkl]; simp
          rw [h1, List.take_left' (by rw [scells_len, hil])]
        have hlaid : laid row i zs = scells (l.filter rightB) ++ (zs ++ row.drop (i + zs.length)) := by unfold laid; rw [htk, List.append_assoc]
        refine ⟨zs ++ row.drop (i + zs.length), by rw [hil]; rfl, by rw [← hlaid]; exact H4.out.1, ?_, H4.out.2.1⟩
        rw [← hrl, List.length_append, List.length_append, scells_len, hil, List.length_drop, H4.out.2.2, hrl, List.length_append, scells_len]
        omega
end Go.Proofs.YtefedalnafjcfaaGreatDoor

