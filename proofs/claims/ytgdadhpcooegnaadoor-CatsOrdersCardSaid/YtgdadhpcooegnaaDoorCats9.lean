/- Layer 5, the document's answer: Fits, Text. -/
import Derived.Test.YtgdadhpcooegnaaDoorCats8
import Derived.Test.YtgdadhpcooegnaaDoorAgg
namespace Go.Proofs.YtgdadhpcooegnaaDoor
open Go.RowKit Go.Shelf
set_option linter.unusedVariables false
set_option maxRecDepth 100000 in
set_option maxHeartbeats 1000000 in
theorem fits_any (A : Option Addr) (c m : Nat) (p : List Int) (n : Int) (ok : Nat → Prop) (w : World) (h : intsR.rel w ok [.slice A m c] p) :
    Calls Tryd.prog 12 #[.agg #[.slice A m c, .int .i64 n]] w fun r w' => r = .returned (.bool (fitsB p n)) ∧ Mod (fun _ => False) w w' := by
  obtain ⟨rfl, hcap, -, hbig, -, hrow⟩ := ints_row h
  have H0 := Lib.hid hrow; clear hrow h
  obtain ⟨bb, hbb⟩ : ∃ bb, bb = fitsB p n := ⟨_, rfl⟩
  rw [← hbb]
  have HF := Lib.hid hbb; clear hbb
  go_enter Tryd.func12, Tryd.ntmps12
  go_wp2_with fail
  · rename_i h1 h2 h3
    go_ret
    refine ⟨?_, (Mod.refl _ _).alloc _⟩
    have : bb = false := by rw [HF.out, Bool.eq_false_iff]; intro h; have := (fitsB_iff p n).1 h; omega
    rw [this]; rfl
  · rename_i h1 h2 h3
    go_loopg [22] p.length (fun f si wr => ∃ i : Nat, si = .int .i64 i ∧ i + f = p.length ∧ (∀ k ∈ p.take i, 0 ≤ k ∧ k ≤ 1048576) ∧ Mod (fun _ => False) w wr)
    case atStart => exact ⟨0, rfl, by omega, by simp, (Mod.refl _ w).alloc _⟩
    case round =>
      obtain ⟨i, rfl, hi, hk, hmod⟩ := hrel
      by_cases hlt : i < p.length
      · obtain ⟨x, hx⟩ : ∃ x, p[i]? = some x := ⟨p[i], by simp [hlt]⟩
        obtain ⟨ad, rfl, -, hcx, -⟩ := RowOf.ints (H0.out.step (w1 := wr) (ok1 := ok) (fun k hk hl => ⟨hk, hmod.block k hl id⟩)) hx
        have HX := Lib.hid (And.intro hi (And.intro hk (And.intro hmod hx))); clear hi hk hmod hx
        by_cases x0 : x < 0
        · go_wp2_with fail
          go_ret
          refine ⟨?_, HX.out.2.2.1⟩
          have : bb = false := by rw [HF.out, Bool.eq_false_iff]; intro h; have := ((fitsB_iff p n).1 h).2.2.2 x (List.mem_of_getElem? HX.out.2.2.2); omega
          rw [this]; rfl
        by_cases x1 : 1048576 < x
        · go_wp2_with fail
          go_ret
          refine ⟨?_, HX.out.2.2.1⟩
          have : bb = false := by rw [HF.out, Bool.eq_false_iff]; intro h; have := ((fitsB_iff p n).1 h).2.2.2 x (List.mem_of_getElem? HX.out.2.2.2); omega
          rw [this]; rfl
        go_wp2_with fail
        go_roundg (gk - 1)
        case measure => have := HX.out.1; omega
        case rel =>
          refine ⟨i + 1, by go_num, by have := HX.out.1; omega, ?_, HX.out.2.2.1⟩
          rw [List.take_add_one, HX.out.2.2.2]
          intro y hy
          rcases List.mem_append.1 hy with hy | hy
          · exact HX.out.2.1 y hy
          · simp at hy; rw [hy]; omega
      · have hie : p.take i = p := List.take_of_length_le (by omega)
        rw [hie] at hk
        have HX := Lib.hid (And.intro hk hmod); clear hk hmod hie hi
        go_wp2_with fail
        go_ret
        refine ⟨?_, HX.out.2⟩
        have : bb = true := by rw [HF.out]; exact (fitsB_iff p n).2 ⟨by omega, by omega, by omega, HX.out.1⟩
        rw [this]; rfl
  · rename_i h1 h2
    go_ret
    refine ⟨?_, (Mod.refl _ _).alloc _⟩
    have : bb = false := by rw [HF.out, Bool.eq_false_iff]; intro h; have := (fitsB_iff p n).1 h; omega
    rw [this]; rfl
  · rename_i h1
    go_ret
    refine ⟨?_, (Mod.refl _ _).alloc _⟩
    have : bb = false := by rw [HF.out, Bool.eq_false_iff]; intro h; have := (fitsB_iff p n).1 h; omega
    rw [this]; rfl
set_option maxRecDepth 100000 in
set_option maxHeartbeats 1000000 in
theorem text_any (A : Option Addr) (c m : Nat) (p : List Int) (n : Int) (ok : Nat → Prop) (w : World) (h : intsR.rel w ok [.slice A m c] p) (hf : fitsB p n = true) :
    Calls Tryd.prog 13 #[.agg #[.slice A m c, .int .i64 n]] w fun r w' => r = .returned (encS (catT p n)) ∧ Mod (fun _ => False) w w' := by
  obtain ⟨rfl, hcap, -, hbig, -, hrow⟩ := ints_row h
  have H0 := Lib.hid hrow; clear hrow h
  have HF := Lib.hid ((fitsB_iff p n).1 hf); clear hf
  unfold catT
  go_enter Tryd.func13, Tryd.ntmps13
  go_wp2_with fail
  go_loopg [3, 9] p.length (fun f ss si wr => ∃ i : Nat, si = .int .i64 i ∧ ss = .string ⟨(pathT (p.take i)).toArray⟩ ∧ i + f = p.length ∧ Mod (fun _ => False) w wr ∧ wr.cell? ⟨w.heap.size, 1, none⟩ = some (.int .i64 n))
  case atStart => exact ⟨0, rfl, rfl, by omega, (Mod.refl _ w).alloc _, by rw [Lib.cell_of_heap (World.alloc_heap_new w _)]; rfl⟩
  case round =>
    obtain ⟨i, rfl, rfl, hi, hmod, hcN⟩ := hrel
    have hpl := pathT_len (p.take i) (fun k hk => HF.out.2.2.2 k (List.mem_of_mem_take hk))
    rw [List.length_take] at hpl
    have hp6 := HF.out.2.2.1
    by_cases hlt : i < p.length
    · obtain ⟨x, hx⟩ : ∃ x, p[i]? = some x := ⟨p[i], by simp [hlt]⟩
      obtain ⟨ad, rfl, -, hcx, -⟩ := RowOf.ints (H0.out.step (w1 := wr) (ok1 := ok) (fun k hk hl => ⟨hk, hmod.block k hl id⟩)) hx
      have hxr := HF.out.2.2.2 x (List.mem_of_getElem? hx)
      have hxl := Lib.itoa_length_le x (by omega) (by omega)
      have htake : p.take (i + 1) = p.take i ++ [x] := by rw [List.take_add_one, hx]; rfl
      have hsn := pathT_snoc x (p.take i)
      rw [← htake] at hsn
      have hpl2 : (pathT (p.take i)).length ≤ 200 := by omega
      by_cases hi0 : 0 < i
      · have hne : p.take i ≠ [] := by intro h; have := congrArg List.length h; rw [List.length_take, List.length_nil] at this; omega
        rw [if_neg hne] at hsn
        obtain ⟨s, hs⟩ : ∃ s, s = pathT (p.take i) := ⟨_, rfl⟩
        rw [← hs] at hpl2 hsn ⊢
        have hc1 : (⟨s.toArray⟩ : ByteArray) ++ ⟨#[46]⟩ = ⟨(s ++ [46]).toArray⟩ := by apply ByteArray.ext; simp
        have hc2 : (⟨(s ++ [46]).toArray⟩ : ByteArray) ++ ⟨(Lib.itoa x).toArray⟩ = ⟨((s ++ [46]) ++ Lib.itoa x).toArray⟩ := by apply ByteArray.ext; simp
        have HX := Lib.hid (And.intro hi (And.intro hmod (And.intro hsn hcN))); clear hi hmod hsn hs htake hx hpl hcN
        go_wp2_with fail
        refine (Num_any x (by omega) (by omega) wr).mono ?_
        rintro r w1 ⟨rfl, hm⟩
        have HM := Lib.hid (And.intro (tr0 HX.out.2.1 hm) ((hm.cell (cell_lt HX.out.2.2.2) id).trans HX.out.2.2.2)); clear hm
        dsimp only [encS]
        go_wp2_with fail
        go_roundg (gk - 1)
        case measure => have := HX.out.1; omega
        case rel => exact ⟨i + 1, by go_num, by rw [HX.out.2.2.1]; simp, by have := HX.out.1; omega, HM.out.1, HM.out.2⟩
      · have hne : p.take i = [] := by rw [show i = 0 by omega]; rfl
        rw [if_pos hne, List.nil_append] at hsn
        rw [hne]
        have hc2 : (⟨#[]⟩ : ByteArray) ++ ⟨(Lib.itoa x).toArray⟩ = ⟨(Lib.itoa x).toArray⟩ := by apply ByteArray.ext; simp
        have HX := Lib.hid (And.intro hi (And.intro hmod (And.intro hsn hcN))); clear hi hmod hsn htake hx hpl hcN hne hpl2
        dsimp only [pathT]
        go_wp2_with fail
        refine (Num_any x (by omega) (by omega) wr).mono ?_
        rintro r w1 ⟨rfl, hm⟩
        have HM := Lib.hid (And.intro (tr0 HX.out.2.1 hm) ((hm.cell (cell_lt HX.out.2.2.2) id).trans HX.out.2.2.2)); clear hm
        dsimp only [encS]
        go_wp2_with fail
        go_roundg (gk - 1)
        case measure => have := HX.out.1; omega
        case rel => exact ⟨i + 1, by go_num, by rw [HX.out.2.2.1], by have := HX.out.1; omega, HM.out.1, HM.out.2⟩
    · have hie : p.take i = p := List.take_of_length_le (by omega)
      rw [hie] at hpl ⊢
      have hpl2 : (pathT p).length ≤ 200 := by omega
      obtain ⟨s, hs⟩ : ∃ s, s = pathT p := ⟨_, rfl⟩
      rw [← hs] at hpl2 ⊢
      have hn0 := HF.out.1; have hn1 := HF.out.2.1
      have hnl := Lib.itoa_length_le n (by omega) (by omega)
      have hc1 : (⟨s.toArray⟩ : ByteArray) ++ ⟨#[47]⟩ = ⟨(s ++ [47]).toArray⟩ := by apply ByteArray.ext; simp
      have hc2 : (⟨(s ++ [47]).toArray⟩ : ByteArray) ++ ⟨(Lib.itoa n).toArray⟩ = ⟨((s ++ [47]) ++ Lib.itoa n).toArray⟩ := by apply ByteArray.ext; simp
      have HX := Lib.hid (And.intro hmod hs); clear hmod hs hie hi hpl
      go_wp2_with fail
      refine (Num_any n (by omega) (by omega) wr).mono ?_
      rintro r w1 ⟨rfl, hm⟩
      have HM := Lib.hid (tr0 HX.out.1 hm); clear hm
      dsimp only [encS]
      go_wp2_with fail
      go_ret
      exact ⟨by rw [← HX.out.2]; simp [encS], HM.out⟩
end Go.Proofs.YtgdadhpcooegnaaDoor
