/- Layer 22: votes, the code's. -/
import Derived.Test.YtgdadhpcooegnaaQuorum16
import Derived.Deep.AppendSrc
import Derived.Lib.LazyBuf
namespace Go.Proofs.Ytgdadhpcooegnaa
open Go.RowKit
set_option linter.unusedVariables false
theorem ints_row {w : World} {ok : Nat → Prop} {A : Option Addr} {n c : Nat} {l : List Int} (h : intsR.rel w ok [.slice A n c] l) : n = l.length ∧ l.length ≤ c ∧ Rd.RowOf (Rd.int .i64) w (fun k => ok k ∧ k < w.heap.size) A l ∧ (A = none → c = 0) ∧ c ≤ maxLen := by
  obtain ⟨A', c', hv, h1, h2, _, h4, h6⟩ := Rd.bound h
  simp only [List.cons.injEq, Value.slice.injEq, and_true] at hv
  obtain ⟨rfl, rfl, rfl⟩ := hv
  exact ⟨rfl, h1, h6, h4, h2⟩
set_option maxRecDepth 100000 in
set_option maxHeartbeats 1000000 in
theorem clone_ints (A : Option Addr) (n c : Nat) (l : List Int) (ok : Nat → Prop) (w : World) (h : intsR.rel w ok [.slice A n c] l) (hl : l.length ≤ 1000000) :
    Calls Try.prog 47 #[.slice A n c] w fun e w' => ∃ A' c', e = .returned (.slice A' l.length c') ∧ OwnR (Rd.int .i64) 3 w' w.heap.size (fun k => ok k ∧ k < w.heap.size) (.slice A' l.length c') l ∧ Mod (fun _ => False) w w' := by
  obtain ⟨rfl, hcap, hrow, hnil, hcm⟩ := ints_row h
  clear h
  cases A with
  | none =>
    have hc0 : c = 0 := hnil rfl
    subst hc0
    have hl0 : l = [] := List.eq_nil_of_length_eq_zero (by omega)
    subst hl0
    clear hrow hnil hcap hcm
    have he := Go.run_eql_slice_nil (P := Try.prog) w 23 3 none 0 0 Try.underlying23
    go_enter Try.func47, Try.ntmps47
    go_wp2_with fail
    go_ret
    exact ⟨none, 0, rfl, OwnR.nil _ _ _ _ _, Mod.refl _ _⟩
  | some ad =>
    have HX := Lib.hid hrow
    clear hrow hnil
    have he := Go.run_eql_slice_nil (P := Try.prog) w 23 3 (some ad) l.length c Try.underlying23
    go_enter Try.func47, Try.ntmps47
    go_wp2_with (at_builtin; refine append_all (R := Rd.int .i64) w.heap.size rfl _ _ 23 3 (.int .i64 0) 8 rfl Try.underlying23 Try.info_int rfl (.slice (some ⟨w.heap.size, 0, none⟩) 0 0) [] l (fun k => ok k ∧ k < w.heap.size) (some ad) c rfl rfl ?c1 ?c2 (by intro e; cases e) ?c3 ?c4 (by decide) ?_)
    case c1 => exact ⟨[], World.ownsRow_made w #[] 0 (Nat.le_refl _) (by decide) rfl, fun j x h => by simp at h⟩
    case c2 => exact Rd.RowOf.weak <| HX.out.step fun k hk hl => ⟨⟨hk, fun e => by have := hk.2; simp only [Value.ownBlock, Option.some.injEq] at e; omega⟩, ((Mod.refl (fun _ => False) w).alloc _).block k hl id⟩
    case c3 => simp
    case c4 => simp only [List.length_nil]; omega
    intro A' c' w1 hO hm hn
    have HY := Lib.hid (And.intro hO hm); clear hO hm hn
    go_wp2_with fail
    go_ret
    refine ⟨A', c', rfl, HY.out.1, ((Mod.refl (fun _ => False) w).alloc _).trans HY.out.2 (fun k hk => .inr ?_)⟩
    simp only [Value.ownBlock, Option.some.injEq] at hk
    omega
theorem slice_clip {P : Program} {t e : TypeId} (ht : P.underlying t = some (.slice e)) (hi : (P.info? e).isSome = true) (A : Option Addr) (n c : Nat) (hn : n ≤ c) (W : World) :
    (Instr.slice t (.slice A n c) none (some (.int .i64 (n : Nat))) (some (.int .i64 (n : Nat)))).run P W = .ok (.slice A n n) W := by
  obtain ⟨i, hq⟩ := Option.isSome_iff_exists.1 hi
  have h0 : (A.map (·.add 0)) = A := by cases A <;> simp [Addr.add]
  simp [Instr.slice, run_underlying ht, Instr.sliceBounds, Instr.sliceBound, asIntOf, sizeOf, typeInfo, hq, hn]
  intro _
  simpa using h0
set_option maxRecDepth 100000 in
theorem clip_any (A : Option Addr) (n c : Nat) (w : World) (hn : n ≤ c) (hb : n ≤ 1000000000) :
    Calls Try.prog 46 #[.slice A n c] w fun e w' => e = .returned (.slice A n n) ∧ w' = w := by
  have hs := slice_clip (P := Try.prog) Try.underlying23 (by kernel_rfl) A n c hn w
  go_enter Try.func46, Try.ntmps46
  go_wp2_with fail
  go_ret
  exact ⟨rfl, rfl⟩
/-- append(s, y), no room in s -/
theorem append_tight {ops : Array Oper} {rest : List Oper} {o : Oper} {a : Act} {Q : Exit → Act → World → Prop} {W : World} (hgd : o.guard = none) (s x : Operand)
    (ho : o.op = .call { callee := .builtin .append, args := #[s, x], argTypes := #[23, 23] }) (X : Option Addr) (l : List Int) (y : Int) (hs : a.eval s = .slice X l.length l.length) (hx : a.eval x = .slice (some ⟨W.heap.size, 0, none⟩) 1 1) (hl : l.length ≤ 1000000)
    (base : Nat) (hb : base ≤ W.heap.size) (ok : Nat → Prop) (h : intsR.rel W ok [.slice X l.length l.length] l)
    (hk : ∀ c w1, w1.ownsRow base 3 1 (.slice (some ⟨W.heap.size + 1, 0, none⟩) (l.length + 1) c) (l ++ [y]).length (icells (l ++ [y])) → Mod (fun _ => False) W w1 → wpList Try.prog ops Q rest (a.put o.dst (.slice (some ⟨W.heap.size + 1, 0, none⟩) (l.length + 1) c)) w1) :
    wpList Try.prog ops Q (o :: rest) a (W.alloc (.cells #[.int .i64 y] 3)) := by
  obtain ⟨i0, hi, hzz⟩ := Option.map_eq_some_iff.1 Try.info_int
  simp only [Prod.mk.injEq] at hzz
  obtain ⟨hz0, hz1, hz2⟩ := hzz
  obtain ⟨V, hV⟩ : ∃ V, V = W.alloc (.cells #[.int .i64 y] 3) := ⟨_, rfl⟩
  have hVs : V.heap.size = W.heap.size + 1 := by rw [hV]; simp
  have hmV : Mod (fun _ => False) W V := hV ▸ (Mod.refl (fun _ => False) W).alloc _
  have hVb : V.heap[W.heap.size]? = some (.cells #[.int .i64 y] 3 (0, 0)) := hV ▸ heap_alloc_new W _
  have hV2 := Rd.mod h hmV (fun _ _ => id)
  have hold : (Builtin.firstCells i0.size l.length (.slice X l.length l.length)).run Try.prog V.drew = .ok (icells l).toArray V.drew := by
    rw [hz1]
    by_cases hl0 : l = []
    · subst hl0
      cases X with
      | none => exact run_firstCells_none V.drew 1 0 0 0
      | some ad => exact run_firstCells_some V.drew 1 0 ad 0 0 [] rfl (by simp)
    · obtain ⟨ad, rfl, hc⟩ := int_cells hV2 hl0
      exact run_firstCells_some V.drew 1 l.length ad _ _ (icells l) (by simp [icells]) (fun j u hj => hc j u hj)
  have hcap := nextslicecap_le (need := l.length + 1) (old := l.length) (by omega)
  have hrun := run_append_grow_src (P := Try.prog) V 23 23 o.type 3 i0 (.int .i64 0) Try.underlying23 hi hz0 X l.length l.length (icells l) hold (.slice (some ⟨W.heap.size, 0, none⟩) 1 1) 1 [.int .i64 y]
    (by rw [hz1]; exact Src.ofSlice V Try.underlying23 _ 1 1 _ rfl (World.news_of_block (cs := #[.int .i64 y]) hVb) (by intro u hu; rw [List.mem_singleton.1 hu]; rfl)) (by omega) (by omega) (by rw [hz2]; omega)
  rw [← hV]
  refine Lib.wpList_append_run V hgd s x 23 23 ho _ _ hs hx _ _ hrun ?_
  rw [hVs]
  have hge := grownCap_ge V (l.length + 1) l.length 3
  have hlm := grownCap_le_maxLen V (l.length + 1) l.length 3 (by simp only [maxLen]; omega)
  refine hk _ _ ⟨by simp [icells], .inr ⟨W.heap.size + 1, _, _, by simp, by omega, by rw [← hVs]; exact heap_alloc_new V.drew _, by simpa using hge, hlm, ?_, ?_⟩⟩ ((hmV.drew).alloc _)
  · simp [icells_length, size_zeroCells, Value.cells]; omega
  · have e : ∀ Z : Array Value, ((icells l ++ [Value.int .i64 y]).toArray ++ Z).toList = icells (l ++ [y]) ++ Z.toList := fun Z => by simp [icells]
    rw [e, Nat.mul_one]
    exact List.take_left' (by rw [icells_length])
def votedI (l : List Int) (i : Int) : List Int := Lib.compact (sortI (l ++ [i]))
set_option maxRecDepth 100000 in
set_option maxHeartbeats 1000000 in
theorem voted_any (A : Option Addr) (n c : Nat) (l : List Int) (i : Int) (ok : Nat → Prop) (w : World) (h : intsR.rel w ok [.slice A n c] l) (hl : l.length ≤ 1000000) :
    Calls Try.prog 27 #[.slice A n c, .int .i64 i] w fun e w' => ∃ A' c', e = .returned (.slice A' (votedI l i).length c') ∧ w'.ownsRow w.heap.size 3 1 (.slice A' (votedI l i).length c') (votedI l i).length (icells (votedI l i)) ∧ Mod (fun _ => False) w w' := by
  obtain rfl : n = l.length := (getI_case h 0).1
  have H0 := Lib.hid h; clear h
  go_enter Try.func27, Try.ntmps27
  go_wp2_with fail
  refine (clone_ints A _ c l ok w H0.out hl).mono ?_
  rintro e w1 ⟨A1, c1, rfl, hO1, hm1⟩
  have hr1 : intsR.rel w1 (fun k => (ok k ∧ k < w.heap.size) ∨ (Value.slice A1 l.length c1).ownBlock = some k) [.slice A1 l.length c1] l := hO1.reads (bytes := 8) (by omega)
  have hc1 := (ints_row hr1).2.1
  have hs1 := hm1.size
  have hr2 : intsR.rel w1 (fun k => (ok k ∧ k < w.heap.size) ∨ (Value.slice A1 l.length c1).ownBlock = some k) [.slice A1 l.length l.length] l := by
    obtain ⟨A', c', hv, q1, q2, q3, q4, q5⟩ := hr1
    simp only [List.cons.injEq, Value.slice.injEq, and_true] at hv
    obtain ⟨rfl, _, rfl⟩ := hv
    exact ⟨_, _, rfl, Nat.le_refl _, by omega, q3, fun e => by have := q4 e; omega, q5⟩
  have H1 := Lib.hid (And.intro hr2 hm1); clear hO1 hr1 hr2 hm1
  go_wp2_with fail
  refine (clip_any A1 l.length c1 w1 hc1 (by omega)).mono ?_
  rintro e w2 ⟨rfl, rfl⟩
  go_wp2_with (at_builtin; refine append_tight rfl _ _ rfl A1 l i rfl rfl hl w.heap.size hs1 _ H1.out.1 ?_)
  intro c3 w3 ho3 hm3
  have ho3' : w3.ownsRow w.heap.size 3 1 (.slice (some ⟨w2.heap.size + 1, 0, none⟩) (l.length + 1) c3) (l ++ [i]).length (icells (l ++ [i])) := by rw [List.length_append]; exact ho3
  have H3 := Lib.hid (And.intro ho3' (H1.out.2.trans hm3 (fun _ h => h.elim))); clear ho3 ho3' hm3
  go_wp2_with fail
  have hlen : (l ++ [i]).length = l.length + 1 := by simp
  refine (sort_own (zs := l ++ [i]) H3.out.1 (by omega)).mono ?_
  rintro e w4 ⟨rfl, ho4, hm4⟩
  have hlt := H3.out.1.lt
  have H4 := Lib.hid (And.intro (show w4.ownsRow w.heap.size 3 1 (.slice (some ⟨w2.heap.size + 1, 0, none⟩) (l.length + 1) c3) (sortI (l ++ [i])).length (icells (sortI (l ++ [i]))) by rw [sortI_len]; exact ho4) (H3.out.2.trans hm4 (fun k hk => .inr (hlt k hk).1))); clear ho4 hm4 hlt
  go_wp2_with fail
  refine (compact_own (zs := sortI (l ++ [i])) H4.out.1 (by rw [sortI_len]; omega)).mono ?_
  rintro e w5 ⟨A5, c5, rfl, ho5, hm5⟩
  have hlt := H4.out.1.lt
  have H5 := Lib.hid (And.intro ho5 (H4.out.2.trans hm5 (fun k hk => .inr (hlt k hk).1))); clear ho5 hm5 hlt
  go_wp2_with fail
  go_ret
  exact ⟨A5, c5, rfl, H5.out.1, H5.out.2⟩
end Go.Proofs.Ytgdadhpcooegnaa
