/- Layer 22: what is agreed on, the document's answer. -/
import Derived.Test.YtgdadhpcooegnaaQuorum15
namespace Go.Proofs.Ytgdadhpcooegnaa
open Go.RowKit
set_option linter.unusedVariables false
def cntI (l : List Int) (v : Int) (j : Nat) : Nat := (endsI l j).countP fun x => decide (v ≤ x)
theorem endsI_succ (l : List Int) (j : Nat) : endsI l (j + 1) = endsI l j ++ [getI l j] := by unfold endsI; rw [List.range_succ, List.map_append]; rfl
theorem cntI_succ (l : List Int) (v : Int) (j : Nat) : cntI l v (j + 1) = cntI l v j + if v ≤ getI l j then 1 else 0 := by
  unfold cntI
  rw [endsI_succ, List.countP_append]
  simp [List.countP_cons]
theorem cntI_le (l : List Int) (v : Int) (j : Nat) : cntI l v j ≤ j := by have := List.countP_le_length (p := fun x => decide (v ≤ x)) (l := endsI l j); rwa [endsI_len] at this
def stepA (l : List Int) (N F : Nat) (s : Int × Bool) (i : Nat) : Int × Bool := if F < cntI l (getI l i) N ∧ (s.2 = false ∨ s.1 < getI l i) then (getI l i, true) else s
def foldA (l : List Int) (N F i : Nat) : Int × Bool := (List.range i).foldl (stepA l N F) (0, false)
theorem foldA_succ (l : List Int) (N F i : Nat) : foldA l N F (i + 1) = stepA l N F (foldA l N F i) i := by unfold foldA; rw [List.range_succ, List.foldl_append]; rfl
set_option maxRecDepth 100000 in
set_option maxHeartbeats 1000000 in
theorem refagreed_key (A : Option Addr) (c : Nat) (l : List Int) (N F : Nat) (ok : Nat → Prop) (w : World) (h : intsR.rel w ok [.slice A l.length c] l) (hN : N ≤ 7 ∧ F < N ∧ F + 1 + F = N)
    (hsz : ∀ w, Calls Try.prog 19 #[.int .i64 (N : Nat)] w fun e w' => e = .returned (.bool true) ∧ w = w') :
    Calls Try.prog 26 #[.slice A l.length c, .int .i64 (N : Nat)] w fun e w' => e = .returned (.int .i64 (foldA l N F N).1) ∧ w' = w := by
  have H0 := Lib.hid h; have HS := Lib.hid hsz; clear h hsz
  obtain ⟨hN7, hFN, hFF⟩ := hN
  have hq2 : (N : Int) / 2 = (F : Int) := by omega
  clear hFF
  go_enter Try.func26, Try.ntmps26
  go_wp2_with fail
  refine (HS.out w).mono ?_
  rintro e w' ⟨rfl, rfl⟩
  go_wp2_with fail
  go_loopg [5, 6, 7] N (fun f s5 s6 si wr => wr = w ∧ ∃ (i : Nat) (b : Int) (t : Bool), s5 = .int .i64 b ∧ s6 = .bool t ∧ si = .int .i64 i ∧ i + f = N ∧ Hid (foldA l N F i = (b, t)))
  case atStart => exact ⟨rfl, 0, 0, false, rfl, rfl, rfl, by omega, (rfl : foldA l N F 0 = _)⟩
  case round =>
    obtain ⟨rfl, i, b, t, rfl, rfl, rfl, hi, HI⟩ := hrel
    by_cases hlt : i < N
    · have hd : decide ((i : Int) < (N : Int)) = true := by simp; omega
      obtain ⟨v, hv⟩ : ∃ v, v = getI l i := ⟨_, rfl⟩
      have HV := Lib.hid hv
      go_wp2_with fail
      refine (get_any A l.length c l i ok wr H0.out).mono ?_
      rintro e w' ⟨rfl, rfl⟩
      rw [← hv]
      clear hv
      go_wp2_with fail
      go_loopg [9, 10] N (fun f s9 s10 wx => wx = wr ∧ ∃ j : Nat, s9 = .int .i64 (cntI l v j : Nat) ∧ s10 = .int .i64 j ∧ j + f = N)
      case atStart => exact ⟨rfl, 0, rfl, rfl, by omega⟩
      case round =>
        obtain ⟨rfl, j, rfl, rfl, hj⟩ := hrel
        have hcb := cntI_le l v j
        by_cases hjt : j < N
        · have hdj : decide ((j : Int) < (N : Int)) = true := by simp; omega
          have hsu := cntI_succ l v j
          obtain ⟨y, hy⟩ : ∃ y, y = getI l j := ⟨_, rfl⟩
          have HY := Lib.hid (And.intro hy hsu); clear hsu
          go_wp2_with fail
          refine (get_any A l.length c l j ok _ H0.out).mono ?_
          rintro e w' ⟨rfl, rfl⟩
          rw [← hy]
          clear hy
          by_cases hvy : v ≤ y
          · have hdv : decide (v ≤ y) = true := by simpa using hvy
            go_wp2_with fail
            go_roundg (gk - 1)
            case measure => omega
            case rel => exact ⟨rfl, j + 1, by rw [HY.out.2, ← HY.out.1, if_pos hvy]; go_num, by go_num, by omega⟩
          · have hdv : decide (v ≤ y) = false := by simpa using hvy
            go_wp2_with fail
            go_roundg (gk - 1)
            case measure => omega
            case rel => exact ⟨rfl, j + 1, by rw [HY.out.2, ← HY.out.1, if_neg (by omega), Nat.add_zero], by go_num, by omega⟩
        · obtain rfl : j = N := by omega
          have hst := foldA_succ l j F i
          rw [HI.out] at hst
          unfold stepA at hst
          rw [← HV.out] at hst
          obtain ⟨k, hk⟩ : ∃ k, k = cntI l v j := ⟨_, rfl⟩
          rw [← hk] at hst hcb ⊢
          have HS2 := Lib.hid hst; clear hst hk
          by_cases h1 : F < k
          · have hd1 : decide ((F : Int) < (k : Int)) = true := by simp; omega
            cases t with
            | false =>
              go_wp2_with fail
              go_roundg (j - i - 1)
              case measure => omega
              case rel => exact ⟨rfl, i + 1, v, true, rfl, rfl, by go_num, by omega, (by rw [HS2.out, if_pos ⟨h1, by simp⟩] : foldA l j F (i + 1) = (v, true))⟩
            | true =>
              by_cases h2 : b < v
              · have hd2 : decide (b < v) = true := by simpa using h2
                go_wp2_with fail
                go_roundg (j - i - 1)
                case measure => omega
                case rel => exact ⟨rfl, i + 1, v, true, rfl, rfl, by go_num, by omega, (by rw [HS2.out, if_pos ⟨h1, .inr h2⟩] : foldA l j F (i + 1) = (v, true))⟩
              · have hd2 : decide (b < v) = false := by simpa using h2
                go_wp2_with fail
                go_roundg (j - i - 1)
                case measure => omega
                case rel => exact ⟨rfl, i + 1, b, true, rfl, rfl, by go_num, by omega, (by rw [HS2.out, if_neg (by simp; omega)] : foldA l j F (i + 1) = (b, true))⟩
          · have hd1 : decide ((F : Int) < (k : Int)) = false := by simp; omega
            go_wp2_with fail
            go_roundg (j - i - 1)
            case measure => omega
            case rel => exact ⟨rfl, i + 1, b, t, rfl, rfl, by go_num, by omega, (by rw [HS2.out, if_neg (by omega)] : foldA l j F (i + 1) = (b, t))⟩
    · obtain rfl : i = N := by omega
      have hd : decide ((i : Int) < (i : Int)) = false := by simp
      have HI2 : Hid ((foldA l i F i).1 = b) := by show (foldA l i F i).1 = b; rw [HI.out]
      go_wp2_with fail
      go_ret
      exact ⟨by rw [HI2.out]; rfl, rfl⟩
theorem ref_false (n : Int) (hs : sizeB n = false) (l : List Int) : agreedI l n = 0 := by unfold agreedI; rw [hs]; rfl
set_option maxRecDepth 100000 in
theorem refagreed_no (A : Option Addr) (k c : Nat) (l : List Int) (n : Int) (w : World) (hs : sizeB n = false) :
    Calls Try.prog 26 #[.slice A k c, .int .i64 n] w fun e w' => e = .returned (.int .i64 (agreedI l n)) ∧ w' = w := by
  have HS := Lib.hid (refsize_any n w)
  rw [hs] at HS
  have HB := Lib.hid (ref_false n hs l)
  clear hs
  go_enter Try.func26, Try.ntmps26
  go_wp2_with fail
  refine HS.out.mono ?_
  rintro e w' ⟨rfl, rfl⟩
  go_wp2_with fail
  go_ret
  exact ⟨by rw [HB.out]; rfl, rfl⟩
/-! ### the two answers -/
theorem cnt_sort (l : List Int) (N : Nat) (v : Int) : cntI l v N = (sortI (endsI l N)).countP fun x => decide (v ≤ x) := by
  unfold cntI sortI
  exact ((List.mergeSort_perm _ _).countP_eq _).symm
theorem sortI_le {l : List Int} {i j : Nat} (hij : i ≤ j) (hj : j < (sortI l).length) : (sortI l)[i]'(by omega) ≤ (sortI l)[j] := by
  have hp : (sortI l).Pairwise (fun x y => decide (x ≤ y) = true) := List.pairwise_mergeSort (by intro a b c h1 h2; simp at *; omega) (by intro a b; simp; omega) l
  rcases Nat.lt_or_ge i j with h | h
  · have := List.pairwise_iff_getElem.1 hp i j (by omega) hj h
    simpa using this
  · have : i = j := by omega
    subst this
    exact Int.le_refl _
theorem countP_mid {s : List Int} (hs : ∀ i j (hij : i ≤ j) (hj : j < s.length), s[i]'(by omega) ≤ s[j]) (v : Int) (F : Nat) (hF : F < s.length) (hN : F + 1 + F = s.length) : F < s.countP (fun x => decide (v ≤ x)) ↔ v ≤ s[F] := by
  constructor
  · intro h
    refine Int.not_lt.1 fun hlt => ?_
    have e : s.countP (fun x => decide (v ≤ x)) = (s.take (F + 1)).countP (fun x => decide (v ≤ x)) + (s.drop (F + 1)).countP (fun x => decide (v ≤ x)) := by
      rw [← List.countP_append, List.take_append_drop]
    have h0 : (s.take (F + 1)).countP (fun x => decide (v ≤ x)) = 0 := by
      rw [List.countP_eq_zero]
      intro x hx
      obtain ⟨j, hj⟩ := List.getElem?_of_mem hx
      have hjl := (List.getElem?_eq_some_iff.1 hj).1
      rw [List.length_take] at hjl
      rw [List.getElem?_take_of_lt (by omega), List.getElem?_eq_getElem (by omega)] at hj
      cases hj
      have := hs j F (by omega) hF
      simp; omega
    have h1 := List.countP_le_length (p := fun x => decide (v ≤ x)) (l := s.drop (F + 1))
    rw [List.length_drop] at h1
    omega
  · intro h
    have e : s.countP (fun x => decide (v ≤ x)) = (s.take F).countP (fun x => decide (v ≤ x)) + (s.drop F).countP (fun x => decide (v ≤ x)) := by
      rw [← List.countP_append, List.take_append_drop]
    have h0 : (s.drop F).countP (fun x => decide (v ≤ x)) = (s.drop F).length := by
      rw [List.countP_eq_length]
      intro x hx
      obtain ⟨j, hj⟩ := List.getElem?_of_mem hx
      rw [List.getElem?_drop] at hj
      have hjl := (List.getElem?_eq_some_iff.1 hj).1
      rw [List.getElem?_eq_getElem hjl] at hj
      cases hj
      have := hs F (F + j) (by omega) hjl
      simp; omega
    rw [List.length_drop] at h0
    omega
theorem agreed_same (l : List Int) (N F : Nat) (hN : F + 1 + F = N) : (foldA l N F N).1 = (sortI (endsI l N)).getD F 0 := by
  obtain ⟨s, hs⟩ : ∃ s, s = sortI (endsI l N) := ⟨_, rfl⟩
  have hl : s.length = N := by rw [hs, sortI_len, endsI_len]
  have hF : F < s.length := by omega
  have hsort : ∀ i j (hij : i ≤ j) (hj : j < s.length), s[i]'(by omega) ≤ s[j] := by subst hs; exact fun i j hij hj => sortI_le hij hj
  have hc : ∀ v, F < cntI l v N ↔ v ≤ s[F] := fun v => by rw [cnt_sort, ← hs]; exact countP_mid hsort v F hF (by omega)
  have hinv : ∀ i, i ≤ N → ((foldA l N F i).2 = false ∧ ∀ j, j < i → ¬ getI l j ≤ s[F]) ∨ ((foldA l N F i).2 = true ∧ (foldA l N F i).1 ≤ s[F] ∧ ∀ j, j < i → getI l j ≤ s[F] → getI l j ≤ (foldA l N F i).1) := by
    intro i
    induction i with
    | zero => exact fun _ => .inl ⟨rfl, fun j h => by omega⟩
    | succ i ih =>
      intro hi
      have h := ih (by omega)
      rw [foldA_succ]
      unfold stepA
      by_cases hle : getI l i ≤ s[F]
      · rcases h with ⟨h1, h2⟩ | ⟨h1, h2, h3⟩
        · rw [if_pos ⟨(hc _).2 hle, .inl h1⟩]
          refine .inr ⟨rfl, hle, fun j hj hjl => ?_⟩
          by_cases hji : j = i
          · subst hji; exact Int.le_refl _
          · exact absurd hjl (h2 j (by omega))
        · by_cases hb : (foldA l N F i).1 < getI l i
          · rw [if_pos ⟨(hc _).2 hle, .inr hb⟩]
            refine .inr ⟨rfl, hle, fun j hj hjl => ?_⟩
            by_cases hji : j = i
            · subst hji; exact Int.le_refl _
            · have := h3 j (by omega) hjl
              show getI l j ≤ getI l i
              omega
          · rw [if_neg (by rintro ⟨_, h4 | h4⟩; · rw [h1] at h4; cases h4
                           · exact hb h4)]
            refine .inr ⟨h1, h2, fun j hj hjl => ?_⟩
            by_cases hji : j = i
            · subst hji; omega
            · exact h3 j (by omega) hjl
      · rw [if_neg (fun h4 => hle ((hc _).1 h4.1))]
        rcases h with ⟨h1, h2⟩ | ⟨h1, h2, h3⟩
        · refine .inl ⟨h1, fun j hj => ?_⟩
          by_cases hji : j = i
          · subst hji; exact hle
          · exact h2 j (by omega)
        · refine .inr ⟨h1, h2, fun j hj hjl => ?_⟩
          by_cases hji : j = i
          · subst hji; exact absurd hjl hle
          · exact h3 j (by omega) hjl
  have hmem : s[F] ∈ endsI l N := by
    have : ∀ x ∈ s, x ∈ endsI l N := fun x hx => sortI_mem.1 (hs ▸ hx)
    exact this _ (List.getElem_mem hF)
  obtain ⟨j, hj, hje⟩ : ∃ j, j < N ∧ getI l j = s[F] := by
    unfold endsI at hmem
    rw [List.mem_map] at hmem
    obtain ⟨j, hj, he⟩ := hmem
    exact ⟨j, List.mem_range.1 hj, he⟩
  rw [← hs, List.getD_eq_getElem?_getD, List.getElem?_eq_getElem hF]
  show (foldA l N F N).1 = s[F]
  rcases hinv N (Nat.le_refl _) with ⟨_, h2⟩ | ⟨_, h2, h3⟩
  · exact absurd (Int.le_of_eq hje) (h2 j hj)
  · have := h3 j hj (Int.le_of_eq hje)
    omega
theorem refagreed_any (A : Option Addr) (k c : Nat) (l : List Int) (n : Int) (ok : Nat → Prop) (w : World) (h : intsR.rel w ok [.slice A k c] l) :
    Calls Try.prog 26 #[.slice A k c, .int .i64 n] w fun e w' => e = .returned (.int .i64 (agreedI l n)) ∧ w' = w := by
  cases hs : sizeB n with
  | false => exact refagreed_no A k c l n w hs
  | true =>
    obtain rfl : k = l.length := (getI_case h 0).1
    have hn := sizeB_cases hs
    have e : agreedI l n = (sortI (endsI l n.toNat)).getD (n.toNat / 2) 0 := by unfold agreedI; rw [hs]; rfl
    rw [e]
    have hsz : ∀ w, Calls Try.prog 19 #[.int .i64 n] w fun e w' => e = .returned (.bool true) ∧ w = w' := fun w => hs ▸ refsize_any n w
    rcases hn with rfl | rfl | rfl
    · have := refagreed_key A c l 3 1 ok w h (by omega) hsz; rwa [agreed_same l 3 1 (by omega)] at this
    · have := refagreed_key A c l 5 2 ok w h (by omega) hsz; rwa [agreed_same l 5 2 (by omega)] at this
    · have := refagreed_key A c l 7 3 ok w h (by omega) hsz; rwa [agreed_same l 7 3 (by omega)] at this
end Go.Proofs.Ytgdadhpcooegnaa
