/- Layer 29: slices.AppendSeq, Collect of packets. -/
import Derived.Test.YtlimjdejcjgocaaNet9
import Derived.Test.YtlimjdejcjgocaaRangeB
namespace Go.Proofs.Ytlimjdejcjgocaa
open Go.RowKit Go.Shelf
attribute [local go_sem] Oper.semAt_some
set_option linter.unusedVariables false
theorem own_cellsK {w : World} {base n : Nat} {e : TypeId} {size : Nat} {v : Value} {xs : List Value} (h : w.ownsRow base e size v n xs) {k : Nat} (hk : v.ownBlock = some k) : base ≤ k ∧ ∀ o, w.heap[k]? = some o → o.isCells = true := by
  rcases h.2 with ⟨rfl, _⟩ | ⟨g, cap, cur, rfl, hb, hh, _⟩
  · simp [Value.ownBlock] at hk
  · simp only [Value.ownBlock, Option.some.injEq] at hk
    subst hk
    exact ⟨hb, fun o ho => by rw [hh] at ho; cases ho; rfl⟩
theorem keeps_of_modK {S : Nat → Prop} {A B : World} (h : Mod S A B) (hS : ∀ k o, S k → A.heap[k]? = some o → o.isCells = true) : KeepsOthers A B :=
  ⟨h.size, fun k o hk ho => (h.block k (Array.getElem?_eq_some_iff.1 hk).1 (fun hs => by rw [hS k o hs hk] at ho; cases ho)).trans hk⟩
def AS (w : World) (Bq : Nat) (pre : List Pk) (W : World) : Prop :=
  ∃ v, W.heap[w.heap.size]? = some (.cells #[v] 44 (0, 0)) ∧ W.ownsRow (w.heap.size + 1) 35 4 v pre.length (flatK pre) ∧ Mod (fun k => k = Bq) w W ∧ w.heap.size + 1 ≤ W.heap.size
theorem AS.move {w A B : World} {S : Nat → Prop} {Bq : Nat} {pre : List Pk} (h : AS w Bq pre A) (hm : Mod S A B) (hS : ∀ k, S k → k = Bq ∨ (w.heap.size + 1 ≤ k ∧ ∃ o, A.heap[k]? = some o ∧ o.isCells = false)) (hBq : Bq < w.heap.size) : AS w Bq pre B := by
  obtain ⟨v, h1, h2, h3, h4⟩ := h
  refine ⟨v, (hm.block _ (lt_of_blk h1) (fun e => ?_)).trans h1, own_move h2 (fun k hk => hm.block k (h2.lt k hk).2 (fun e => ?_)), h3.trans hm (fun k hk => ?_), Nat.le_trans h4 hm.size⟩
  · rcases hS _ e with e | ⟨e, _⟩ <;> omega
  · rcases hS k e with e | ⟨e, o, ho, hc⟩
    · have := (own_cellsK h2 hk).1; omega
    · rw [(own_cellsK h2 hk).2 o ho] at hc; cases hc
  · rcases hS k hk with e | ⟨e, _⟩
    · exact .inl e
    · right; omega
theorem run_load_pks {w : World} {g : Nat} {v : Value} (h : w.cell? ⟨g, 0, none⟩ = some v) (h1 : v.oneCell' = true) : (loadVar 44 ⟨g, 0, none⟩).run Try.prog w = .ok v w := by
  go_simp
set_option maxRecDepth 100000 in
set_option maxHeartbeats 2000000 in
theorem appendseq_any (Bq gq cap : Nat) (xs : List Pk) (w : World) (hq : w.cell? ⟨Bq, 0, none⟩ = some (.slice (some ⟨gq, 0, none⟩) xs.length cap)) (hr : QRow w gq cap xs) (hl : xs.length ≤ 1000000) :
    Calls Try.prog 32 #[.slice none 0 0, .func (.func 30) #[] #[.pointer (some ⟨Bq, 0, none⟩)]] w fun e w' => ∃ v, e = .returned v ∧ w'.ownsRow w.heap.size 35 4 v xs.length (flatK xs) ∧ Mod (fun k => k = Bq) w w' := by
  refine (callsIn_wide (n := 5)).1 ?_
  have h1 : 1 ≤ 5 := by omega
  refine callsIn_of_wp_marks Try.func32 rfl trivial ?_ rfl
  simp only [Try.ntmps32, List.size_toArray, List.length_cons, List.length_nil, Nat.reduceAdd, Nat.reduceSub, Array.replicate_succ, Array.replicate_zero, List.push_toArray, List.append_toArray, List.nil_append, List.cons_append]
  have hBq : Bq < w.heap.size := lt_of_cell hq
  have hgq : gq < w.heap.size := hr.lt
  have HQ := Lib.hid (And.intro hq hr); clear hq hr
  gi_wp2
  obtain ⟨w1, hw1⟩ : ∃ w1, w1 = w.alloc (.cells #[.slice none 0 0] 44) := ⟨_, rfl⟩
  rw [← hw1]
  have hsz : w1.heap.size = w.heap.size + 1 := by rw [hw1]; simp
  have M1 : Mod (fun _ => False) w w1 := by rw [hw1]; exact (Mod.refl _ _).alloc _
  have hI0 : AS w Bq [] w1 := ⟨.slice none 0 0, by rw [hw1]; exact heap_alloc_new w _, World.ownsRow_nil _ _ _ _, M1.mono (fun _ h => h.elim), by omega⟩
  refine wpIn_range_box (own := fun k => k = Bq ∨ k = gq) rfl h1 (gf := 30) (lb := #[.pointer (some ⟨Bq, 0, none⟩)]) rfl trivial (enters_of Try.func30 (by kernel_rfl) rfl)
    (enc := encP) (Bs := Bq) (xs := xs) (by omega) (by rintro k (rfl | rfl) <;> omega)
    (fun W hW => values_st 4 (by omega) Bq gq cap xs W ((hW.cell (a := ⟨Bq, 0, none⟩) (by rw [hsz]; show Bq < _; omega) id).trans ((M1.cell (a := ⟨Bq, 0, none⟩) hBq id).trans HQ.out.1)) ((HQ.out.2.move (M1.block gq hgq id)).move (hW.block gq (by omega) id)) hl)
    (AS w Bq) (fun _ _ _ => False) ?hI ?hIx hI0
    (fun x a' W => ∃ Bx, w.heap.size + 1 ≤ Bx ∧ W.heap[Bx]? = some (.cells x.cells.toArray 35 (0, 0)) ∧ a' = { tmps := #[.slice none 0 0, .func (.func 30) #[] #[.pointer (some ⟨Bq, 0, none⟩)], .pointer (some ⟨w.heap.size, 0, none⟩), undef, .slice none 0 0, .pointer (some ⟨Bx, 0, none⟩), .func (.func 30) #[] #[.pointer (some ⟨Bq, 0, none⟩)], encP x, undef, undef, undef, undef, undef], defers := [] }) ?hAx ?assign ?body ?done ?stop
  case hI =>
    intro pre A B h hm
    refine h.move hm (fun k hk => ?_) hBq
    rcases hk with hk | ⟨hk, ho⟩
    · exact .inl hk
    · exact .inr ⟨by omega, ho⟩
  case hIx => exact fun _ _ _ _ h _ => h
  case hAx =>
    rintro x a' A B ⟨Bx, hx1, hx2, rfl⟩ hm
    refine ⟨Bx, hx1, (hm.block Bx (lt_of_blk hx2) (fun e => ?_)).trans hx2, rfl⟩
    rcases e with e | ⟨_, o, ho, hc⟩
    · omega
    · rw [hx2] at ho; cases ho; cases hc
  case assign =>
    intro l pre x W K hI hK
    dsimp only [encP]
    gi_wp2_with (first
      | (refine wpListIn_alloc_agg rfl 35 rfl zeroPk.toArray (by kernel_rfl) ?_)
      | (refine wpListIn_store_new rfl 35 _ _ rfl 35 zeroPk.toArray x.cells rfl rfl Try.info_pk1 rfl (pk_one x) ?_))
    exact hK _ _ ⟨W.heap.size, by obtain ⟨_, _, _, _, h4⟩ := hI; exact h4, heap_alloc_new W _, rfl⟩ (hI.move ((Mod.refl (fun _ => False) W).alloc _) (fun _ h => h.elim) hBq) (KeepsOthers.alloc _ _) ((Mod.refl (fun _ => False) W).alloc _)
  case body =>
    rintro l pre x a' W hI ⟨Bx, hx1, hx2, rfl⟩ hpre
    obtain ⟨v, i1, i2, i3, i4⟩ := hI
    obtain ⟨Av, cv, rfl⟩ := own_slice i2
    have hpl : pre.length < xs.length := by obtain ⟨t, ht⟩ := hpre; rw [← ht]; simp
    have cp : W.cell? ⟨w.heap.size, 0, none⟩ = some (.slice Av pre.length cv) := by rw [cell_of_blk i1]; rfl
    have fp : W.frozen? ⟨w.heap.size, 0, none⟩ = false := free_of_blk i1 0
    have HI := Lib.hid (And.intro i1 (And.intro i2 (And.intro i3 (And.intro i4 hx2)))); clear i1 i2 i3 i4 hx2 hpre
    obtain ⟨i0, hi, hz0, hz1, hz2⟩ := pk_info
    dsimp only [encP]
    gi_wp2_with (first
      | (refine wpListIn_load_agg rfl 35 (.tmp 5) rfl Try.underlying35 Try.info_pk1 ⟨Bx, 0, none⟩ rfl x.cells rfl (fun j u hj => by rw [agg_at, cell_of_blk HI.out.2.2.2.2]; simpa using hj) ?_)
      | (refine wpListIn_slice1_agg rfl 44 35 _ rfl Try.underlying44 _ x.cells Try.info_pk2 (show 0 < 4 ∧ 4 ≤ 1000 by decide) rfl rfl ?_)
      | (gi_at_builtin; refine wpListIn_append_own_at (W.alloc (.cells x.cells.toArray 35)) rfl _ _ 44 rfl (w.heap.size + 1) 35 i0 _ 4 48 Try.underlying44 hi hz0 hz1 hz2 rfl (by decide) (.slice Av pre.length cv) pre.length (flatK pre) rfl (HI.out.2.1.alloc _) ⟨W.heap.size, 0, none⟩ 1 1 x.cells rfl rfl (World.news_of_block (cs := x.cells.toArray) (t := 35) (fr := (0, 0)) (heap_alloc_new W _)) (pk_one x) (by simp only [maxLen]; omega) (by omega) (by rw [World.size_alloc]; have := HI.out.2.2.2.1; omega) ?_; intro v1 W2 hown1 hg1 _ hat1; obtain ⟨A1, c1, rfl⟩ := own_slice hown1; have hm1 : Mod (fun k => (Value.slice Av pre.length cv).ownBlock = some k) W W2 := ((Mod.refl (fun k => (Value.slice Av pre.length cv).ownBlock = some k) W).alloc _).grown hg1 (fun k hk => .inl hk.symm); have hne : (Value.slice Av pre.length cv).ownBlock ≠ some w.heap.size := (fun e => by have := (own_cellsK HI.out.2.1 e).1; omega); have i1' := (hm1.block _ (lt_of_blk HI.out.1) hne).trans HI.out.1; have cp2 : W2.cell? ⟨w.heap.size, 0, none⟩ = some (.slice Av pre.length cv) := (by rw [cell_of_blk i1']; rfl); have fp2 : W2.frozen? ⟨w.heap.size, 0, none⟩ = false := free_of_blk i1' 0; have HN := Lib.hid (And.intro hown1 (And.intro hm1 i1')); clear hown1 hm1 i1' hg1 hat1 hne))
    have hvb : ∀ k, (Value.slice Av pre.length cv).ownBlock = some k → w.heap.size + 1 ≤ k := fun k hk => (own_cellsK HI.out.2.1 hk).1
    have hset : (W2.setCell ⟨w.heap.size, 0, none⟩ (.slice A1 (pre.length + 1) c1)).heap[w.heap.size]? = some (.cells #[.slice A1 (pre.length + 1) c1] 44 (0, 0)) := by
      have := set_of_blk HN.out.2.2 0 (.slice A1 (pre.length + 1) c1)
      simpa using this
    have mG : Mod (fun k => k = w.heap.size ∨ (Value.slice Av pre.length cv).ownBlock = some k) W (W2.setCell ⟨w.heap.size, 0, none⟩ (.slice A1 (pre.length + 1) c1)) := (HN.out.2.1.mono (fun k hk => .inr hk)).setCell (.inl (.inl rfl)) _
    refine ⟨(keeps_of_modK HN.out.2.1 (fun k o hk ho => (own_cellsK HI.out.2.1 hk).2 o ho)).trans (KeepsOthers.setCell _ _ _), mG.mono (fun k hk => ?_), ⟨_, hset, ?_, HI.out.2.2.1.trans mG (fun k hk => ?_), ?_⟩⟩
    · rintro (rfl | rfl) <;> rcases hk with hk | hk
      · omega
      · have := hvb _ hk; omega
      · omega
      · have := hvb _ hk; omega
    · have e : flatK pre ++ x.cells = flatK (pre ++ [x]) := by rw [flatK_append]; simp [flatK]
      have hlen : (pre ++ [x]).length = pre.length + 1 := by simp
      rw [← e, hlen]
      exact own_move HN.out.1 (fun k hk => Below.heap_setCell _ _ _ _ (fun e2 => by
        have h3 := (own_cellsK HN.out.1 hk).1
        have e2 : k = w.heap.size := e2
        omega))
    · rcases hk with rfl | hk
      · exact .inr (Nat.le_refl _)
      · right; have := hvb _ hk; omega
    · have := mG.size; have := HI.out.2.2.2.1; omega
  case done =>
    rintro D W hD ⟨v, d1, d2, d3, d4⟩ hK
    obtain ⟨Av, cv, rfl⟩ := own_slice d2
    have cp : W.cell? ⟨w.heap.size, 0, none⟩ = some (.slice Av xs.length cv) := by rw [cell_of_blk d1]; rfl
    have HD := Lib.hid (And.intro d1 (And.intro d2 (And.intro d3 (And.intro d4 (And.intro hD hK))))); clear d1 d2 d3 d4 hD hK
    gi_wp2
    refine ⟨by simp, .inl ⟨_, _, rfl, run_takeDeferred HD.out.2.2.2.2.2, ?_⟩⟩
    have hmd : Mod (fun k => k = D) W (W.putObj D (.deferred none)) := mod_putObj (S := fun k => k = D) rfl _
    have hnD : ∀ k, (Value.slice Av xs.length cv).ownBlock = some k → k ≠ D := fun k hk e => by
      have := (own_cellsK HD.out.2.1 hk).2 _ (by rw [e]; exact HD.out.2.2.2.2.2)
      cases this
    refine ⟨.slice Av xs.length cv, by simp [results, Try.results32, go_sem], ⟨_, rfl, ?_, HD.out.2.2.1.trans hmd (fun k hk => .inr (by have := HD.out.2.2.2.2.1; have hk : k = D := hk; omega))⟩⟩
    have h2 := own_move HD.out.2.1 (fun k hk => hmd.block k (HD.out.2.1.lt k hk).2 (hnD k hk))
    obtain ⟨a1, a2⟩ := h2
    exact ⟨a1, a2.imp id (fun ⟨g, c', cu, b1, b2, b3⟩ => ⟨g, c', cu, b1, by omega, b3⟩)⟩
  case stop => exact fun _ _ _ _ _ _ h => h.elim
theorem collect_any (Bq gq cap : Nat) (xs : List Pk) (w : World) (hq : w.cell? ⟨Bq, 0, none⟩ = some (.slice (some ⟨gq, 0, none⟩) xs.length cap)) (hr : QRow w gq cap xs) (hl : xs.length ≤ 1000000) :
    Calls Try.prog 28 #[.func (.func 30) #[] #[.pointer (some ⟨Bq, 0, none⟩)]] w fun e w' => ∃ v, e = .returned v ∧ w'.ownsRow w.heap.size 35 4 v xs.length (flatK xs) ∧ Mod (fun k => k = Bq) w w' := by
  have H := Lib.hid (appendseq_any Bq gq cap xs w hq hr hl); clear hq hr
  go_enter Try.func28, Try.ntmps28
  go_wp2_with fail
  refine H.out.mono ?_
  rintro e w1 ⟨v, rfl, ho, hm⟩
  have H1 := Lib.hid (And.intro ho hm); clear ho hm
  go_wp2_with fail
  go_ret
  exact ⟨v, rfl, H1.out.1, H1.out.2⟩
end Go.Proofs.Ytlimjdejcjgocaa
