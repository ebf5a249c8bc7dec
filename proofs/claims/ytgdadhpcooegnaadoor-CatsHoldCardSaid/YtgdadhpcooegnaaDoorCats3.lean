/- Layer 5, cats: Name. -/
import Derived.Test.YtgdadhpcooegnaaDoorBuild
import Derived.Lib.ItoaLen
namespace Go.Proofs.YtgdadhpcooegnaaDoor
open Go.RowKit Go.Shelf
set_option linter.unusedVariables false
/-- What a path is written as. -/
def pathT : List Int → List UInt8
  | [] => []
  | [k] => Lib.itoa k
  | k :: l => Lib.itoa k ++ 46 :: pathT l
def catT (p : List Int) (n : Int) : List UInt8 := pathT p ++ 47 :: Lib.itoa n
def fitsB (p : List Int) (n : Int) : Bool := decide (0 ≤ n) && decide (n ≤ 65535) && decide (p.length ≤ 6) && p.all fun k => decide (0 ≤ k) && decide (k ≤ 1048576)
theorem pathT_snoc (k : Int) : ∀ l : List Int, pathT (l ++ [k]) = (if l = [] then [] else pathT l ++ [46]) ++ Lib.itoa k
  | [] => rfl
  | [a] => by simp [pathT]
  | a :: b :: l => by
    have := pathT_snoc k (b :: l)
    simp only [List.cons_append] at this ⊢
    rw [pathT, this]
    · simp [pathT]
    · simp
theorem pathT_len : ∀ l : List Int, (∀ k ∈ l, 0 ≤ k ∧ k ≤ 1048576) → (pathT l).length ≤ 22 * l.length
  | [], _ => by simp [pathT]
  | [k], h => by
    have h1 := h k (by simp)
    have := Lib.itoa_length_le k (by omega) (by omega)
    simp [pathT]; omega
  | k :: b :: l, h => by
    have h1 := h k (by simp)
    have h2 := Lib.itoa_length_le k (by omega) (by omega)
    have := pathT_len (b :: l) (fun x hx => h x (List.mem_cons_of_mem _ hx))
    simp only [pathT, List.length_append, List.length_cons] at this ⊢
    omega
theorem mod_below {w wr w1 : World} (h : Mod (fun _ => False) w wr) (hb : Below w.heap.size wr w1) : Mod (fun _ => False) w w1 :=
  ⟨hb.os.trans h.os, hb.tape.trans h.tape, hb.output.trans h.output, Nat.le_trans h.size hb.size, fun k hk hs => (hb.block k hk).trans (h.block k hk hs)⟩
theorem isB_mod {B b : Nat} {l : List UInt8} {w w1 : World} (h : IsB B b l w) (hm : Mod (fun _ => False) w w1) : IsB B b l w1 := by
  have key : ∀ p, Lib.BuilderAt 53 5 B b p (Lib.byteCells l) w → Lib.BuilderAt 53 5 B b p (Lib.byteCells l) w1 := fun p ⟨hB, v, hb, hown, hne⟩ =>
    ⟨hB, v, (hm.block b (Array.getElem?_eq_some_iff.1 hb).1 id).trans hb, own_move hown (fun k hk => hm.block k (own_lt hown k hk).2 id), hne⟩
  exact h.elim (fun h => .inl (key _ h)) (fun h => .inr (key _ h))
set_option maxRecDepth 100000 in
set_option maxHeartbeats 2000000 in
theorem name_any (A : Option Addr) (c m : Nat) (p : List Int) (n : Int) (ok : Nat → Prop) (w : World) (h : intsR.rel w ok [.slice A m c] p) (hn : Rd.inR .i64 n) (E : Env w) :
    Calls Tryd.prog 11 #[.slice A m c, .int .i64 n] w fun r w' => r = .returned (.tuple #[encS (if fitsB p n then catT p n else []), .bool (fitsB p n)]) ∧ Mod (fun _ => False) w w' := by
  obtain ⟨rfl, hcap, -, -, -, hrow⟩ := ints_row h
  have H0 := Lib.hid hrow; clear hrow h
  have E0 := Lib.hid E; clear E
  have fbad : fitsB p n = false → (if fitsB p n then catT p n else []) = [] := fun h => by rw [h]; rfl
  have fgood : fitsB p n = true → (if fitsB p n then catT p n else []) = catT p n := fun h => by rw [h]; rfl
  obtain ⟨t, ht⟩ : ∃ t, t = if fitsB p n then catT p n else [] := ⟨_, rfl⟩
  obtain ⟨bb, hbb⟩ : ∃ bb, bb = fitsB p n := ⟨_, rfl⟩
  rw [← ht, ← hbb]
  rw [← ht] at fbad fgood
  rw [← hbb] at fbad fgood
  clear ht
  have HF := Lib.hid (And.intro hbb (And.intro fbad fgood)); clear hbb fbad fgood
  have hnr := inR_i64 hn
  by_cases hn0 : n < 0
  · have d0 : decide (n < 0) = true := by simp; omega
    have hb : fitsB p n = false := by unfold fitsB; simp; omega
    go_enter Tryd.func11, Tryd.ntmps11
    go_wp2_with fail
    go_ret2
    have hbb := HF.out.1.trans hb
    exact ⟨by rw [HF.out.2.1 hbb, hbb]; rfl, .refl _ _⟩
  by_cases hn1 : n ≥ 65536
  · have d1 : decide (n ≥ 65536) = true := by simp; omega
    have hb : fitsB p n = false := by unfold fitsB; simp; omega
    go_enter Tryd.func11, Tryd.ntmps11
    go_wp2_with fail
    go_ret2
    have hbb := HF.out.1.trans hb
    exact ⟨by rw [HF.out.2.1 hbb, hbb]; rfl, .refl _ _⟩
  by_cases hp : p.length > 6
  · have d2' : decide ((6 : Int) < p.length) = true := by simp; omega
    have hb : fitsB p n = false := by unfold fitsB; simp; omega
    go_enter Tryd.func11, Tryd.ntmps11
    go_wp2_with fail
    go_ret2
    have hbb := HF.out.1.trans hb
    exact ⟨by rw [HF.out.2.1 hbb, hbb]; rfl, .refl _ _⟩
  go_enter Tryd.func11, Tryd.ntmps11
  have d0 : decide (n < 0) = false := by simp; omega
  have d1 : decide (n ≥ 65536) = false := by simp; omega
  have d2 : decide ((p.length : Int) > 6) = false := by simp; omega
  have d2' : decide ((6 : Int) < p.length) = false := by simp; omega
  go_wp2_with fail
  have HD := Lib.hid (And.intro (And.intro d0 d1) (And.intro hn0 (And.intro hn1 hp))); clear d0 d1 hn0 hn1 hp d2 d2'
  go_loopg [22] p.length (fun f si wr => ∃ i : Nat, si = .int .i64 i ∧ i + f = p.length ∧ IsB w.heap.size w.heap.size (pathT (p.take i)) wr ∧ (∀ k ∈ p.take i, 0 ≤ k ∧ k ≤ 1048576) ∧ Mod (fun _ => False) w wr)
  case atStart =>
    refine ⟨0, rfl, by omega, .inl ⟨Nat.le_refl _, _, World.alloc_heap_new w _, World.ownsRow_nil _ _ _ _, by simp [Value.ownBlock]⟩, by simp, (Mod.refl _ w).alloc _⟩
  case round =>
    obtain ⟨i, rfl, hi, hB, hok, hmod⟩ := hrel
    have hsz := hmod.size
    have hp6 : p.length ≤ 6 := by have := HD.out.2.2.2; omega
    by_cases hlt : i < p.length
    · obtain ⟨x, hx⟩ : ∃ x, p[i]? = some x := ⟨p[i], by simp [hlt]⟩
      have hrow := H0.out.step (w1 := wr) (ok1 := ok) (fun k hk hl => ⟨hk, hmod.block k hl id⟩)
      obtain ⟨ad, rfl, -, hcx, hxr⟩ := RowOf.ints hrow hx
      have hxr := inR_i64 hxr
      have HX := Lib.hid (And.intro hi (And.intro hB (And.intro hok (And.intro hmod hx)))); clear hi hB hok hmod hx hrow
      by_cases x0 : x < 0
      · have hb : fitsB p n = false := by
          rw [Bool.eq_false_iff]; intro h
          unfold fitsB at h
          simp only [Bool.and_eq_true, decide_eq_true_eq, List.all_eq_true] at h
          have := h.2 x (List.mem_of_getElem? HX.out.2.2.2.2)
          omega
        go_wp2_with fail
        go_ret2
        have hbb := HF.out.1.trans hb
        exact ⟨by rw [HF.out.2.1 hbb, hbb]; rfl, HX.out.2.2.2.1⟩
      by_cases x1 : x > 1048576
      · have hb : fitsB p n = false := by
          rw [Bool.eq_false_iff]; intro h
          unfold fitsB at h
          simp only [Bool.and_eq_true, decide_eq_true_eq, List.all_eq_true] at h
          have := h.2 x (List.mem_of_getElem? HX.out.2.2.2.2)
          omega
        go_wp2_with fail
        go_ret2
        have hbb := HF.out.1.trans hb
        exact ⟨by rw [HF.out.2.1 hbb, hbb]; rfl, HX.out.2.2.2.1⟩
      have hxl := Lib.itoa_length_le x (by omega) (by omega)
      have hpl := pathT_len (p.take i) HX.out.2.2.1
      rw [List.length_take] at hpl
      have htake : p.take (i + 1) = p.take i ++ [x] := by rw [List.take_add_one, HX.out.2.2.2.2]; rfl
      have hok' : ∀ k ∈ p.take (i + 1), 0 ≤ k ∧ k ≤ 1048576 := by
        rw [htake]; intro k hk
        rcases List.mem_append.1 hk with hk | hk
        · exact HX.out.2.2.1 k hk
        · rw [List.mem_singleton.1 hk]; omega
      have HO := Lib.hid (And.intro htake hok'); clear htake hok'
      have hsn := pathT_snoc x (p.take i)
      rw [← HO.out.1] at hsn
      have itoa_call : ∀ W, Mod (fun _ => False) w W → Calls Tryd.prog 23 #[.int .i64 x] W fun r W' => r = .returned (.string ⟨(Lib.itoa x).toArray⟩) ∧ Mod (fun _ => False) W W' := fun W hW => by
        refine (Tryd.strconv_Itoa x (by omega) (by omega) W (E0.out.mod0 hW).tab).mono ?_
        rintro r W' ⟨rfl, k, os, rfl⟩
        exact ⟨rfl, .of_below (Go.Lib.below_grow _ _ (Nat.le_refl _) k os)⟩
      by_cases hi0 : 0 < i
      · have hne : p.take i ≠ [] := by intro h; have := congrArg List.length h; rw [List.length_take, List.length_nil] at this; omega
        rw [if_neg hne] at hsn
        have HZ := Lib.hid (And.intro hsn (And.intro hpl hxl)); clear hsn hpl hxl hne
        go_wp2_with fail
        refine (writeByte_any w.heap.size w.heap.size (pathT (p.take i)) 46 wr HX.out.2.1 (by have := HZ.out.2.1; omega) hsz).mono ?_
        rintro e w1 ⟨rfl, hB1, hb1⟩
        have H1 := Lib.hid (And.intro hB1 (mod_below HX.out.2.2.2.1 hb1)); clear hB1 hb1
        go_wp2_with fail
        refine (itoa_call w1 H1.out.2).mono ?_
        rintro e w2 ⟨rfl, hm⟩
        have H2 := Lib.hid (And.intro (isB_mod H1.out.1 hm) (tr0 H1.out.2 hm)); clear hm H1
        have hs2 := H2.out.2.size
        go_wp2_with fail
        refine (writeString_any w.heap.size w.heap.size (pathT (p.take i) ++ [46]) (Lib.itoa x) w2 H2.out.1 (by have := HZ.out.2; simp; omega) hs2).mono ?_
        rintro e w3 ⟨⟨nn, rfl⟩, hB3, hb3⟩
        have H3 := Lib.hid (And.intro hB3 (mod_below H2.out.2 hb3)); clear hB3 hb3 H2
        go_wp2_with fail
        go_roundg (gk - 1)
        case measure => have := HX.out.1; omega
        case rel => exact ⟨i + 1, by go_num, by have := HX.out.1; omega, by rw [HZ.out.1]; exact H3.out.1, HO.out.2, H3.out.2⟩
      · have hne : p.take i = [] := by rw [show i = 0 by omega]; rfl
        rw [if_pos hne, List.nil_append] at hsn
        have HZ := Lib.hid (And.intro hsn (And.intro hne hxl)); clear hsn hpl hxl hne
        go_wp2_with fail
        refine (itoa_call wr HX.out.2.2.2.1).mono ?_
        rintro e w2 ⟨rfl, hm⟩
        have hB0 := HX.out.2.1
        rw [HZ.out.2.1] at hB0
        have H2 := Lib.hid (And.intro (isB_mod hB0 hm) (tr0 HX.out.2.2.2.1 hm)); clear hm hB0
        have hs2 := H2.out.2.size
        go_wp2_with fail
        refine (writeString_any w.heap.size w.heap.size [] (Lib.itoa x) w2 H2.out.1 (by have := HZ.out.2; simp; omega) hs2).mono ?_
        rintro e w3 ⟨⟨nn, rfl⟩, hB3, hb3⟩
        have H3 := Lib.hid (And.intro hB3 (mod_below H2.out.2 hb3)); clear hB3 hb3 H2
        go_wp2_with fail
        go_roundg (gk - 1)
        case measure => have := HX.out.1; omega
        case rel => exact ⟨i + 1, by go_num, by have := HX.out.1; omega, by rw [HZ.out.1]; exact H3.out.1, HO.out.2, H3.out.2⟩
    · have hie : p.take i = p := List.take_of_length_le (by omega)
      rw [hie] at hB hok
      have hfit : fitsB p n = true := by
        unfold fitsB
        simp only [Bool.and_eq_true, decide_eq_true_eq, List.all_eq_true]
        exact ⟨⟨⟨HD.out.2.1, by have := HD.out.2.2.1; omega⟩, by have := HD.out.2.2.2; omega⟩, hok⟩
      have hpl := pathT_len p hok
      have HX := Lib.hid (And.intro hB (And.intro hmod (And.intro hfit hpl))); clear hB hmod hi hok hfit hpl hie
      have hbb := HF.out.1.trans HX.out.2.2.1
      have ht := HF.out.2.2 hbb
      have HY := Lib.hid (And.intro hbb ht); clear hbb ht
      go_wp2_with fail
      refine (Tryd.strconv_Itoa n (by omega) (by omega) wr (E0.out.mod0 HX.out.2.1).tab).mono ?_
      rintro e w2 ⟨rfl, k, os, hw⟩
      have hm : Mod (fun _ => False) wr w2 := by rw [hw]; exact .of_below (Go.Lib.below_grow _ _ (Nat.le_refl _) k os)
      have H2 := Lib.hid (And.intro (isB_mod HX.out.1 hm) (tr0 HX.out.2.1 hm)); clear hm hw
      have hs2 := H2.out.2.size
      have hcc : (⟨#[47]⟩ : ByteArray) ++ ⟨(Lib.itoa n).toArray⟩ = ⟨(47 :: Lib.itoa n).toArray⟩ := by
        apply ByteArray.ext; simp
      have hnl := Lib.itoa_length_le n (by omega) (by omega)
      go_wp2_with fail
      refine (writeString_any w.heap.size w.heap.size (pathT p) (47 :: Lib.itoa n) w2 H2.out.1 (by have := HX.out.2.2.2; simp; omega) hs2).mono ?_
      rintro e w3 ⟨⟨nn, rfl⟩, hB3, hb3⟩
      have H3 := Lib.hid (And.intro hB3 (mod_below H2.out.2 hb3)); clear hB3 hb3 H2
      have hs3 := H3.out.2.size
      go_wp2_with fail
      refine (Tryd.Builder_String_any w.heap.size w.heap.size (pathT p ++ 47 :: Lib.itoa n) w3 H3.out.1 hs3).mono ?_
      rintro e w4 ⟨rfl, hb4⟩
      have H4 := Lib.hid (mod_below H3.out.2 hb4); clear hb4 H3
      go_wp2_with fail
      go_ret2
      obtain ⟨rfl, rfl⟩ := HY.out
      exact ⟨rfl, H4.out⟩
end Go.Proofs.YtgdadhpcooegnaaDoor
