/- Layer 5, the laws: first. -/
import Derived.Test.YtgdadhpcooegnaaDoorCats16
namespace Go.Proofs.YtgdadhpcooegnaaDoor
open Go.RowKit Go.Shelf
set_option linter.unusedVariables false
theorem catT1 : catT [1, 3] 10 = [49, 46, 51, 47, 49, 48] := by
  have h10 : Lib.decDigits 10 = [49, 48] := by rw [dec_step 10 (by omega), Lib.decDigits_one (by decide)]; rfl
  have h1 : Lib.itoa 1 = [49] := by rw [show (1 : Int) = ((1 : Nat) : Int) from rfl, Lib.itoa_nonneg, Lib.decDigits_one (by decide)]; rfl
  have h3 : Lib.itoa 3 = [51] := by rw [show (3 : Int) = ((3 : Nat) : Int) from rfl, Lib.itoa_nonneg, Lib.decDigits_one (by decide)]; rfl
  have hh : Lib.itoa 10 = [49, 48] := by rw [show (10 : Int) = ((10 : Nat) : Int) from rfl, Lib.itoa_nonneg, h10]
  simp [catT, pathT, h1, h3, hh]
theorem catT2 : catT [1, 20] 0 = [49, 46, 50, 48, 47, 48] := by
  have h20 : Lib.decDigits 20 = [50, 48] := by rw [dec_step 20 (by omega), Lib.decDigits_one (by decide)]; rfl
  have h1 : Lib.itoa 1 = [49] := by rw [show (1 : Int) = ((1 : Nat) : Int) from rfl, Lib.itoa_nonneg, Lib.decDigits_one (by decide)]; rfl
  have h0 : Lib.itoa 0 = [48] := by rw [show (0 : Int) = ((0 : Nat) : Int) from rfl, Lib.itoa_nonneg, Lib.decDigits_one (by decide)]; rfl
  have hh : Lib.itoa 20 = [50, 48] := by rw [show (20 : Int) = ((20 : Nat) : Int) from rfl, Lib.itoa_nonneg, h20]
  simp [catT, pathT, h1, h0, hh]
theorem catT3 : catT [] 0 = [47, 48] := by
  have h0 : Lib.itoa 0 = [48] := by rw [show (0 : Int) = ((0 : Nat) : Int) from rfl, Lib.itoa_nonneg, Lib.decDigits_one (by decide)]; rfl
  simp [catT, pathT, h0]
theorem parse1 : parseB [49, 46, 51, 47, 49, 48] = some ([1, 3], 10) := parse_iff.2 ⟨by decide, catT1⟩
theorem parse2 : parseB [49, 46, 50, 48, 47, 48] = some ([1, 20], 0) := parse_iff.2 ⟨by decide, catT2⟩
theorem parse3 : parseB [47, 48] = some ([], 0) := parse_iff.2 ⟨by decide, catT3⟩
theorem bad_of {l : List UInt8} (h : ∀ p n, fitsB p n = true → catT p n ≠ l) : rightB l = false := by
  unfold rightB
  cases hp : parseB l with
  | none => rfl
  | some x =>
    obtain ⟨p, n⟩ := x
    obtain ⟨h1, h2⟩ := parse_iff.1 hp
    exact absurd h2 (h p n h1)
theorem bad1 : rightB [120] = false := bad_of fun p n _ h => by
  unfold catT at h
  have := congrArg List.length h
  simp only [List.length_append, List.length_cons, List.length_nil] at this
  have h2 : pathT p = [] := List.eq_nil_of_length_eq_zero (by omega)
  rw [h2] at h
  simp at h
theorem bad2 : rightB [49, 47, 48, 49] = false := by
  have hc : cutB 47 [49, 47, 48, 49] = ([49], [48, 49], true) := cutB_app (x := [49]) (l := [48, 49]) (by decide)
  have h1 : Lib.itoa 1 = [49] := by rw [show (1 : Int) = ((1 : Nat) : Int) from rfl, Lib.itoa_nonneg, Lib.decDigits_one (by decide)]; rfl
  have hn : numB [48, 49] 65535 = none := by
    cases h : numB [48, 49] 65535 with
    | none => rfl
    | some v =>
      obtain ⟨v0, v1, v2⟩ := numB_some h
      have ha : Lib.atoiAll [48, 49] = .ok 1 := by
        rw [Lib.atoiAll_plain 48 [49] (by decide) (by decide)]
        rfl
      have hv := atoi_itoa v v0 (by omega)
      rw [v2, ha] at hv
      cases hv
      rw [h1] at v2
      cases v2
  unfold rightB parseB
  rw [hc]
  unfold parseC
  dsimp only
  rw [hn]
  rfl
theorem cmp12 : cmpB [49, 46, 51, 47, 49, 48] [49, 46, 50, 48, 47, 48] = -1 := by unfold cmpB; rw [parse1, parse2]; rfl
theorem sort1 : sortS [[49, 46, 50, 48, 47, 48], [120], [49, 46, 51, 47, 49, 48], [49, 46, 50, 48, 47, 48]] = [[49, 46, 51, 47, 49, 48], [49, 46, 50, 48, 47, 48]] := by
  have r1 : rightB [49, 46, 51, 47, 49, 48] = true := by unfold rightB; rw [parse1]; rfl
  have r2 : rightB [49, 46, 50, 48, 47, 48] = true := by unfold rightB; rw [parse2]; rfl
  refine strict_unique ltB_irr ltB_tr (sortS_spec _).1 ?_ fun x => ?_
  · simp only [List.pairwise_cons, List.mem_singleton, List.Pairwise.nil, and_true]
    refine ⟨fun y hy => ?_, fun y hy => absurd hy (by simp)⟩
    rw [hy]; show cmpB _ _ < 0; rw [cmp12]; decide
  · rw [(sortS_spec _).2]
    simp only [List.mem_cons, List.not_mem_nil, or_false]
    constructor
    · rintro ⟨h | h | h | h, hr⟩
      · exact .inr h
      · rw [h, bad1] at hr; cases hr
      · exact .inl h
      · exact .inr h
    · rintro (h | h)
      · exact ⟨.inr (.inr (.inl h)), by rw [h]; exact r1⟩
      · exact ⟨.inl h, by rw [h]; exact r2⟩
theorem strs_lit (w : World) (T : TypeId) (ls : List ByteArray) (n : Nat) (hn : n = ls.length) (h : ∀ s ∈ ls, s.size ≤ 1000000) (hl : ls.length ≤ 1000) (h0 : 0 < ls.length) : strsR.rel (w.alloc (.cells (ls.map Value.string).toArray T)) (fun _ => True) [.slice (some ⟨w.heap.size, 0, none⟩) n n] ls := by
  subst hn
  refine ⟨_, _, rfl, Nat.le_refl _, by simp only [maxLen]; omega, by omega, by simp, .inr ⟨_, rfl, trivial, fun j x hj => ⟨_, ⟨rfl, by have := h x (List.mem_of_getElem? hj); omega⟩, fun i u hu => ?_⟩⟩⟩
  obtain rfl : i = 0 := by have := (List.getElem?_eq_some_iff.1 hu).1; simp at this; omega
  simp only [List.getElem?_cons_zero, Option.some.injEq] at hu
  subst hu
  rw [show (⟨w.heap.size, 0, none⟩ : Addr).add (j * Rd.string.sz + 0) = ⟨w.heap.size, j, none⟩ by unfold Addr.add; have e : j * Rd.string.sz + 0 = j := Nat.mul_one j; rw [e]; split <;> simp_all]
  rw [Lib.cell_of_heap (World.alloc_heap_new w _)]
  simp [hj]
theorem own_row {w : World} {base : Nat} {v : Value} {zs : List (List UInt8)} {T : TypeId} (h : w.ownsRow base T 1 v zs.length (scells zs)) {j : Nat} {x : List UInt8} (hj : zs[j]? = some x) : ∃ g c, v = .slice (some ⟨g, 0, none⟩) zs.length c ∧ w.cell? ⟨g, j, none⟩ = some (.string ⟨x.toArray⟩) :=
  own_at1 h (by simp [scells, hj, encS])
set_option maxRecDepth 100000 in
set_option maxHeartbeats 2000000 in
theorem first_any (w : World) (E : Env w) : Calls Tryd.prog 7 #[] w fun r w' => r = .returned (.bool true) ∧ Mod (fun _ => False) w w' := by
  have E0 := Lib.hid E; clear E
  go_enter Tryd.func7, Tryd.ntmps7
  go_wp2_with fail
  have hm0 := (Mod.refl (fun _ => False) w).alloc (.cells #[.int .i64 1, .int .i64 3] 3)
  have hI := reads_ints (xs := [1, 3]) (World.ownsRow_lit (e := 3) w #[.int .i64 1, .int .i64 3] 2 (Nat.le_refl _) (by decide) rfl) (by intro x hx; exact inR_mk (by simp at hx; omega)) (by decide)
  have hN := name_any _ 2 2 [1, 3] 10 _ _ hI (inR_mk (by omega)) (E0.out.mod0 hm0)
  rw [show fitsB [1, 3] 10 = true by decide, if_pos rfl, catT1] at hN
  refine hN.mono ?_
  rintro r w1 ⟨rfl, hm1⟩
  have H1 := Lib.hid (And.intro (tr0 hm0 hm1) (E0.out.mod0 (tr0 hm0 hm1))); clear hm0 hm1 hI hN
  unfold encS
  go_wp2_with fail
  refine (parse_rd [49, 46, 50, 48, 47, 48] (by decide) w1 H1.out.2).mono ?_
  rintro r w2 ⟨hm2, ⟨h, -⟩ | ⟨p, n, A, c, h, rfl, hp⟩⟩
  · rw [parse2] at h; cases h
  rw [parse2] at h
  obtain ⟨rfl, rfl⟩ : [1, 20] = p ∧ 0 = n := by simpa using h
  have H2 := Lib.hid (And.intro (tr0 H1.out.1 hm2) (And.intro (E0.out.mod0 (tr0 H1.out.1 hm2)) hp)); clear hm2 h hp
  go_wp2_with fail
  have hm3 := H2.out.1.alloc (.cells #[.string ⟨#[49, 46, 50, 48, 47, 48]⟩, .string ⟨#[120]⟩, .string ⟨#[49, 46, 51, 47, 49, 48]⟩, .string ⟨#[49, 46, 50, 48, 47, 48]⟩] 9)
  have hS := sort_any _ 4 4 [⟨#[49, 46, 50, 48, 47, 48]⟩, ⟨#[120]⟩, ⟨#[49, 46, 51, 47, 49, 48]⟩, ⟨#[49, 46, 50, 48, 47, 48]⟩] _ _ (strs_lit w2 9 _ 4 rfl (by decide +kernel) (by decide) (by decide)) (by decide) (by decide +kernel) (E0.out.mod0 hm3)
  simp only [List.map_cons, List.map_nil] at hS
  rw [sort1] at hS
  refine hS.mono ?_
  rintro r w3 ⟨A3, c3, rfl, ho, hm4⟩
  have hp3 := Rd.mod (Rd.bound H2.out.2.2) (tr0 ((Mod.refl (fun _ => False) w2).alloc (.cells #[.string ⟨#[49, 46, 50, 48, 47, 48]⟩, .string ⟨#[120]⟩, .string ⟨#[49, 46, 51, 47, 49, 48]⟩, .string ⟨#[49, 46, 50, 48, 47, 48]⟩] 9)) hm4) (fun _ _ => id)
  obtain ⟨ad, rfl, -, hc20, -⟩ := RowOf.ints (ints_row hp3).2.2.2.2.2 (j := 1) (x := 20) rfl
  replace hc20 : w3.cell? ⟨ad.block, ad.off + 1, none⟩ = some (.int .i64 20) := hc20
  obtain ⟨g, c0, hv, hs0⟩ := own_row ho (j := 0) (x := [49, 46, 51, 47, 49, 48]) rfl
  obtain ⟨rfl, rfl⟩ : A3 = some ⟨g, 0, none⟩ ∧ c3 = c0 := by simpa using hv
  have H3 := Lib.hid (And.intro (tr0 hm3 hm4) (E0.out.mod0 (tr0 hm3 hm4))); clear hm3 hm4 ho hv hp3 hS H2
  go_wp2_with fail
  refine (compare_any [49, 46, 51, 47, 49, 48] [49, 46, 50, 48, 47, 48] (by decide) (by decide) w3 H3.out.2).mono ?_
  rw [cmp12]
  rintro r w4 ⟨rfl, hm4⟩
  have hs4 := (hm4.cell (cell_lt hs0) id).trans hs0
  have H4 := Lib.hid (And.intro (tr0 H3.out.1 hm4) (E0.out.mod0 (tr0 H3.out.1 hm4))); clear hm4 H3 hs0 hc20
  go_wp2_with fail
  have r3 := right_any [47, 48] (by decide) w4 H4.out.2
  rw [show rightB [47, 48] = true by unfold rightB; rw [parse3]; rfl] at r3
  refine r3.mono ?_
  rintro r w5 ⟨rfl, hm5⟩
  have H5 := Lib.hid (And.intro (tr0 H4.out.1 hm5) (E0.out.mod0 (tr0 H4.out.1 hm5))); clear hm5 H4 r3
  go_wp2_with fail
  have r4 := right_any [49, 47, 48, 49] (by decide) w5 H5.out.2
  rw [bad2] at r4
  refine r4.mono ?_
  rintro r w6 ⟨rfl, hm6⟩
  have H6 := Lib.hid (tr0 H5.out.1 hm6); clear hm6 H5 r4
  go_wp2_with fail
  go_ret
  exact ⟨rfl, H6.out⟩
end Go.Proofs.YtgdadhpcooegnaaDoor
