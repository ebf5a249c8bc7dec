/- Rows of the call's own whose elements are structs: append of a whole list, copy. No program in it. -/
import Derived.Test.YtlimjdejcjgocaaAgg
import Derived.Lib.AppendZerosOnto
import Derived.Lib.Overlaps
import Derived.Laws.AppendOwnNone
namespace Go.Proofs.Ytlimjdejcjgocaa
open Go.RowKit
set_option linter.unusedVariables false
namespace Rd
variable {α : Type} {R : Rd α}
/-- The cells of a row that is read, in one list. -/
theorem RowOf.flat {w : World} {ok : Nat → Prop} {ad : Addr} : ∀ (xs : List α) (m : Nat), (∀ j x, xs[j]? = some x → ∃ c, R.rel w ok c x ∧ ∀ i u, c[i]? = some u → w.cell? (ad.add (m + (j * R.sz + i))) = some u) →
    ∃ cells : List Value, cells.length = xs.length * R.sz ∧ (∀ i u, cells[i]? = some u → w.cell? (ad.add (m + i)) = some u) ∧ (∀ u ∈ cells, u.oneCell' = true) ∧ ∀ j x, xs[j]? = some x → R.rel w ok ((cells.drop (j * R.sz)).take R.sz) x
  | [], m, _ => ⟨[], by simp, by simp, by simp, by simp⟩
  | x :: xs, m, h => by
    obtain ⟨c, hc1, hc2⟩ := h 0 x rfl
    have hl := R.len hc1
    obtain ⟨cells, h1, h2, h3, h4⟩ := RowOf.flat xs (m + R.sz) (fun j y hj => by
      obtain ⟨c', q1, q2⟩ := h (j + 1) y (by simpa using hj)
      refine ⟨c', q1, fun i u hu => ?_⟩
      have := q2 i u hu
      rwa [show m + ((j + 1) * R.sz + i) = m + R.sz + (j * R.sz + i) by rw [Nat.add_mul]; omega] at this)
    refine ⟨c ++ cells, by simp only [List.length_append, h1, hl, List.length_cons, Nat.add_mul]; omega, fun i u hu => ?_, fun u hu => ?_, fun j y hj => ?_⟩
    · by_cases hi : i < c.length
      · rw [List.getElem?_append_left hi] at hu
        have := hc2 i u hu
        simpa using this
      · rw [List.getElem?_append_right (by omega)] at hu
        have := h2 (i - c.length) u hu
        rwa [show m + R.sz + (i - c.length) = m + i by omega] at this
    · rcases List.mem_append.1 hu with hu | hu
      · exact R.one hc1 u hu
      · exact h3 u hu
    · cases j with
      | zero =>
        have : x = y := by simpa using hj
        subst this
        rw [Nat.zero_mul, List.drop_zero, List.take_append_of_le_length (by omega), List.take_of_length_le (by omega)]
        exact hc1
      | succ j =>
        have := h4 j y (by simpa using hj)
        rw [show (j + 1) * R.sz = c.length + j * R.sz by rw [Nat.add_mul]; omega, ← List.drop_drop, List.drop_left]
        exact this
theorem RowOf.weak {w : World} {ok : Nat → Prop} {A : Option Addr} {xs : List α} (h : R.RowOf w ok A xs) : xs = [] ∨ ∃ ad, A = some ad ∧ ∀ j x, xs[j]? = some x → ∃ c, R.rel w ok c x ∧ ∀ i u, c[i]? = some u → w.cell? (ad.add (j * R.sz + i)) = some u :=
  h.imp id (fun ⟨ad, h1, _, h3⟩ => ⟨ad, h1, h3⟩)
end Rd
/-- elements behind one another -/
theorem drop_take_left {A B : List Value} {j s n : Nat} (hA : A.length = n * s) (hj : j < n) : ((A ++ B).drop (j * s)).take s = (A.drop (j * s)).take s := by
  have h1 : j * s + s ≤ A.length := by rw [hA, ← Nat.succ_mul]; exact Nat.mul_le_mul_right _ hj
  rw [List.drop_append_of_le_length (by omega), List.take_append_of_le_length (by rw [List.length_drop]; omega)]
theorem drop_take_right {A B : List Value} {j s n : Nat} (hA : A.length = n * s) (hj : n ≤ j) : ((A ++ B).drop (j * s)).take s = (B.drop ((j - n) * s)).take s := by
  obtain ⟨d, rfl⟩ : ∃ d, j = n + d := ⟨j - n, by omega⟩
  rw [Nat.add_mul, ← hA, ← List.drop_drop, List.drop_left, Nat.add_sub_cancel_left]
section
variable {P : Program} {ops : Array Oper} {rest : List Oper} {o : Oper} {a : Act} {Q : Exit → Act → World → Prop} {w : World} {α : Type} {R : Rd α}
theorem OwnR.one {e : TypeId} {base : Nat} {S : Nat → Prop} {v : Value} {xs : List α} (h : OwnR R e w base S v xs) :
    ∃ cells, w.ownsRow base e R.sz v xs.length cells ∧ (∀ j x, xs[j]? = some x → R.rel w (fun k => S k ∧ some k ≠ v.ownBlock) ((cells.drop (j * R.sz)).take R.sz) x) ∧ ∀ u ∈ cells, u.oneCell' = true := by
  obtain ⟨cells, h1, h2⟩ := h
  refine ⟨cells, h1, h2, fun u hu => ?_⟩
  obtain ⟨i, hi⟩ := List.getElem?_of_mem hu
  have hil := (List.getElem?_eq_some_iff.1 hi).1
  rw [h1.1] at hil
  have hp := R.pos
  have hj : i / R.sz < xs.length := Nat.div_lt_of_lt_mul (by rw [Nat.mul_comm]; exact hil)
  have hrel := h2 (i / R.sz) xs[i / R.sz] (List.getElem?_eq_getElem hj)
  refine R.one hrel u ?_
  refine List.mem_of_getElem? (i := i % R.sz) ?_
  rw [List.getElem?_take_of_lt (Nat.mod_lt _ hp), List.getElem?_drop, Nat.div_add_mod']
  exact hi
/-- append(v, ys...) -/
theorem append_all (base : Nat) (hgd : o.guard = none) (s x : Operand) (t e : TypeId) (z : Value) (bytes : Nat)
    (ho : o.op = .call { callee := .builtin .append, args := #[s, x], argTypes := #[t, t] })
    (ht : P.underlying t = some (.slice e)) (hinfo : (P.info? e).map (fun i => (i.zero, i.size, i.bytes)) = some (some z, R.sz, bytes)) (hz : z.cells.size = R.sz)
    (v : Value) (xs ys : List α) (S : Nat → Prop) (A0 : Option Addr) (c0 : Nat) (hs : a.eval s = v) (hx : a.eval x = .slice A0 ys.length c0)
    (HO : OwnR R e w base S v xs) (hy : ys = [] ∨ ∃ ad, A0 = some ad ∧ ∀ j x, ys[j]? = some x → ∃ c, R.rel w (fun k => S k ∧ some k ≠ v.ownBlock) c x ∧ ∀ i u, c[i]? = some u → w.cell? (ad.add (j * R.sz + i)) = some u) (hA0 : A0 = none → c0 = 0) (hbase : base ≤ w.heap.size) (hl : (xs.length + ys.length) * bytes ≤ 140737488355328) (hb0 : 0 < bytes)
    (h : ∀ A c w1, OwnR R e w1 base S (.slice A (xs.length + ys.length) c) (xs ++ ys) → Mod (fun k => v.ownBlock = some k) w w1 → NewOr w v (.slice A (xs.length + ys.length) c) → wpList P ops Q rest (a.put o.dst (.slice A (xs.length + ys.length) c)) w1) :
    wpList P ops Q (o :: rest) a w := by
  obtain ⟨i0, hi, hzz⟩ := Option.map_eq_some_iff.1 hinfo
  simp only [Prod.mk.injEq] at hzz
  obtain ⟨hz0, hz1, hz2⟩ := hzz
  obtain ⟨cells, hown, hread⟩ := HO
  have hlen : xs.length + ys.length ≤ 140737488355328 := Nat.le_trans (Nat.le_mul_of_pos_right _ hb0) hl
  cases A0 with
  | none =>
    have hy0 : ys = [] := by
      rcases hy with h | ⟨ad, hA, _⟩
      · exact h
      · cases hA
    subst hy0
    obtain rfl := hA0 rfl
    refine wpList_append_own_none hgd s x t ho base e i0 R.sz ht hi v xs.length cells hs hown hx ?_
    obtain ⟨A, c, rfl⟩ := own_slice hown
    exact h A c w (by rw [List.append_nil]; exact ⟨cells, hown, hread⟩) (Mod.refl (fun k => (Value.slice A xs.length c).ownBlock = some k) w) (.inl rfl)
  | some ad =>
    obtain ⟨cs, hcl, hcell, hone, hrel⟩ := Rd.RowOf.flat (R := R) (w := w) (ok := fun k => S k ∧ some k ≠ v.ownBlock) (ad := ad) ys 0 (by
      rcases hy with rfl | ⟨ad', hA, h⟩
      · intro j x hj; simp at hj
      · cases hA
        intro j x hj
        obtain ⟨c, h1, h2⟩ := h j x hj
        exact ⟨c, h1, fun i u hu => by rw [Nat.zero_add]; exact h2 i u hu⟩)
    refine wpList_append_own_at w hgd s x t ho base e i0 z R.sz bytes ht hi hz0 hz1 hz2 hz R.pos v xs.length cells hs hown ad ys.length c0 cs hx hcl (fun i u hu => by simpa using hcell i u hu) hone (by simp only [maxLen]; omega) hl hbase ?_
    intro v1 w1 hown1 hg _ hat
    obtain ⟨A, c, rfl⟩ := own_slice hown1
    have hn : NewOr w v (.slice A (xs.length + ys.length) c) := by
      rcases hat with hat | hat
      · exact .inl hat
      · exact .inr ⟨_, hat, Nat.le_refl _⟩
    refine h A c w1 ?_ ((Mod.refl (fun k => v.ownBlock = some k) w).grown hg (fun k hk => .inl hk.symm)) hn
    have hm : ∀ k, (S k ∧ some k ≠ v.ownBlock) → k < w.heap.size → (S k ∧ some k ≠ (Value.slice A (xs.length + ys.length) c).ownBlock) ∧ w1.heap[k]? = w.heap[k]? := by
      rintro k ⟨hk, hne⟩ hlt
      exact ⟨⟨hk, fun e => hn.ne hlt (fun e2 => hne e2.symm) e.symm⟩, hg.block k hlt hne⟩
    refine ⟨cells ++ cs, by simpa using hown1, fun j y hj => ?_⟩
    by_cases hj' : j < xs.length
    · rw [List.getElem?_append_left hj'] at hj
      rw [drop_take_left hown.1 hj']
      exact R.step hm (hread j y hj)
    · rw [List.getElem?_append_right (by omega)] at hj
      rw [drop_take_right hown.1 (by omega)]
      exact R.step hm (hrel _ y hj)
/-- cs over cur from off on; a name, so that the walk leaves it -/
def laid (cur : List Value) (off : Nat) (cs : List Value) : List Value := cur.take off ++ cs ++ cur.drop (off + cs.length)
/-- copy(dst, src), elements of k cells, dst in a row that is known whole -/
theorem run_copy_k (dT sT ty elem : TypeId) (k : Nat) (g off dLen dCap : Nat) (ad : Addr) (sLen sCap : Nat) (cur : Array Value) (t : TypeId) (cs : List Value)
    (hu : P.underlying dT = some (.slice elem)) (hs : (P.info? elem).map (·.size) = some k)
    (hg : w.heap[g]? = some (.cells cur t (0, 0))) (hn : cs.length = Nat.min sLen dLen * k)
    (hsrc : ∀ j v, cs[j]? = some v → w.cell? (ad.add j) = some v) (hfit : off + cs.length ≤ cur.size) (h1 : ∀ v ∈ cs, v.oneCell' = true) :
    (Builtin.copy_ #[dT, sT] ty #[.slice (some ⟨g, off, none⟩) dLen dCap, .slice (some ad) sLen sCap]).run P w =
      .ok (goInt (Nat.min sLen dLen)) (w.setRow g (cur.toList.take off ++ cs ++ cur.toList.drop (off + cs.length)).toArray) := by
  have hl := run_loadCells_list (P := P) w ad cs hsrc
  have hst := run_storeCells_at P g off t cs 0 cur w hg (by simpa using hfit) h1
  cases hq : P.info? elem with
  | none => simp [hq] at hs
  | some i =>
    have hi : i.size = k := by simpa [hq] using hs
    simp [Builtin.copy_, run_underlying hu, Builtin.lenOf, Builtin.firstCells, sizeOf, typeInfo, hq, hi, ← hn, hl, hst]
theorem wpList_copy_k (hgd : o.guard = none) (d s : Operand) (dT sT : TypeId)
    (ho : o.op = .call { callee := .builtin .copy, args := #[d, s], argTypes := #[dT, sT] }) (elem : TypeId) (k : Nat) (hu : P.underlying dT = some (.slice elem)) (hsz : (P.info? elem).map (·.size) = some k)
    (g off dLen dCap : Nat) (ad : Addr) (sLen sCap : Nat) (hd : a.eval d = .slice (some ⟨g, off, none⟩) dLen dCap) (hs : a.eval s = .slice (some ad) sLen sCap)
    (cur : List Value) (t : TypeId) (hg : w.heap[g]? = some (.cells cur.toArray t (0, 0))) (cs : List Value) (hn : cs.length = Nat.min sLen dLen * k)
    (hsrc : ∀ j v, cs[j]? = some v → w.cell? (ad.add j) = some v) (hfit : off + cs.length ≤ cur.length) (h1 : ∀ v ∈ cs, v.oneCell' = true)
    (h : ∀ w1, w1.heap[g]? = some (.cells (laid cur off cs).toArray t (0, 0)) → Mod (fun k => k = g) w w1 → wpList P ops Q rest (a.put o.dst (goInt (Nat.min sLen dLen))) w1) : wpList P ops Q (o :: rest) a w := by
  refine wpList_plain hgd fun K hK => ?_
  have hrun := run_copy_k (P := P) (w := w) dT sT o.type elem k g off dLen dCap ad sLen sCap cur.toArray t cs hu hsz hg hn hsrc (by simpa using hfit) h1
  unfold Oper.wp
  simp [execOp, ho, resolve, invoke, builtin, hd, hs, hrun, Result.andThen]
  refine hK _ _ (h _ ?_ ((Mod.refl (fun k => k = g) w).setRow (.inl rfl) _))
  rw [heap_setRow_self hg]
  simp [laid]
/-- s[l:], the address not looked at -/
theorem slice_low {t e : TypeId} (ht : P.underlying t = some (.slice e)) (hi : (P.info? e).isSome = true) (A : Option Addr) (n c l : Nat) (hl : l ≤ n) : ∃ X, ∀ W, (Instr.slice t (.slice A n c) (some (.int .i64 (l : Nat))) none none).run P W = .ok (.slice X (n - l) (c - l)) W := by
  obtain ⟨i, hq⟩ := Option.isSome_iff_exists.1 hi
  refine ⟨if c = l then A else A.map (·.add (l * i.size)), fun W => ?_⟩
  simp [Instr.slice, run_underlying ht, Instr.sliceBounds, Instr.sliceBound, asIntOf, sizeOf, typeInfo, hq, hl]
theorem slice_low_own {t e : TypeId} (ht : P.underlying t = some (.slice e)) {k : Nat} (hi : (P.info? e).map (·.size) = some k) (g n c l : Nat) (hl : l ≤ n) (hc : c ≠ l) (v : Int) (hv : v = (l : Int)) :
    ∀ W, (Instr.slice t (.slice (some ⟨g, 0, none⟩) n c) (some (.int .i64 v)) none none).run P W = .ok (.slice (some ⟨g, l * k, none⟩) (n - l) (c - l)) W := by
  subst hv
  obtain ⟨i, hq, h2⟩ := Option.map_eq_some_iff.1 hi
  intro W
  simp [Instr.slice, run_underlying ht, Instr.sliceBounds, Instr.sliceBound, asIntOf, sizeOf, typeInfo, hq, hl, hc, h2, agg_at]
end
end Go.Proofs.Ytlimjdejcjgocaa
