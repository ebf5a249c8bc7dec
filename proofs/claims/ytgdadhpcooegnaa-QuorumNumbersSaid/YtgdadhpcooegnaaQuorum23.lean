/- QuorumNumbers: the walk (under way). -/
import Derived.Test.YtgdadhpcooegnaaQuorum21
import Derived.Test.YtgdadhpcooegnaaQuorum22
import Derived.Test.YtgdadhpcooegnaaArr
import Derived.Deep.RegionHeld3
namespace Go.Proofs.Ytgdadhpcooegnaa
open Go.RowKit
set_option linter.unusedVariables false
theorem refvoted_any2 (A : Option Addr) (n c : Nat) (l : List Int) (i : Int) (ok : Nat → Prop) (w : World) (h : intsR.rel w ok [.slice A n c] l) (hl : l.length ≤ 1000000) :
    Calls Try.prog 28 #[.slice A n c, .int .i64 i] w fun e w' => ∃ A' c', e = .returned (.slice A' (votedI l i).length c') ∧ w'.ownsRow w.heap.size 3 1 (.slice A' (votedI l i).length c') (votedI l i).length (icells (votedI l i)) ∧ Mod (fun _ => False) w w' := by
  rw [voted_same]
  exact refvoted_any A n c l i ok w h hl
theorem joinI_len (a b : List Int) : (joinI a b).length = max a.length b.length := by simp [joinI]
theorem joinI_inR {a b : List Int} (ha : ∀ x ∈ a, Rd.inR .i64 x) (hb : ∀ x ∈ b, Rd.inR .i64 x) : ∀ x ∈ joinI a b, Rd.inR .i64 x := by
  intro x hx
  unfold joinI at hx
  rw [List.mem_map] at hx
  obtain ⟨i, _, rfl⟩ := hx
  have h1 := getI_inR ha i
  have h2 := getI_inR hb i
  have : max (getI a i) (getI b i) = getI a i ∨ max (getI a i) (getI b i) = getI b i := by omega
  rcases this with e | e <;> rw [e] <;> assumption
theorem votedI_inR {a : List Int} {n : Int} (ha : ∀ x ∈ a, Rd.inR .i64 x) (hn : Rd.inR .i64 n) : ∀ x ∈ votedI a n, Rd.inR .i64 x := by
  intro x hx
  rw [voted_same, outV_mem] at hx
  rcases List.mem_append.1 hx with hx | hx
  · exact ha x hx
  · rw [List.mem_singleton.1 hx]; exact hn
theorem votedI_len (a : List Int) (n : Int) : (votedI a n).length ≤ a.length + 1 := by
  rw [voted_same]
  have := outV_len (a ++ [n]) (a ++ [n]).length
  simpa using this
set_option maxRecDepth 100000 in
set_option maxHeartbeats 2000000 in
theorem quorumNumbers_mod (A : Option Addr) (n c : Nat) (A2 : Option Addr) (n2 c2 : Nat) (n0 n1 : Int) (a b : List Int) (ok : Nat → Prop) (w : World) (h : intsR.rel w ok [.slice A n c] a) (h2 : intsR.rel w ok [.slice A2 n2 c2] b) (hn1 : Rd.inR .i64 n1) :
    Calls Try.prog 5 #[.slice A n c, .slice A2 n2 c2, .agg #[.int .i64 n0, .int .i64 n1]] w fun e w' => e = .returned (.bool true) ∧ Mod (fun _ => False) w w' := by
  obtain rfl : n = a.length := (getI_case h 0).1
  obtain rfl : n2 = b.length := (getI_case h2 0).1
  have H0 := Lib.hid (And.intro h (And.intro h2 hn1)); clear h h2 hn1
  go_enter Try.func5, Try.ntmps5
  go_wp2_with fail
  have hm0 : Mod (fun _ => False) w (w.alloc (.cells #[.int .i64 n0, .int .i64 n1] 55)) := (Mod.refl (fun _ => False) w).alloc _
  have hb0 := heap_alloc_new w (.cells #[.int .i64 n0, .int .i64 n1] 55)
  refine (first_any _).mono ?_
  rintro e w1 ⟨rfl, hm1⟩
  obtain ⟨g, hg⟩ : ∃ g, g = w.heap.size := ⟨_, rfl⟩
  rw [← hg] at hb0 ⊢
  have hb1 := (hm1.block g (lt_of_blk hb0) id).trans hb0
  have hm := hm0.trans hm1 (fun _ h => h.elim)
  have H1 := Lib.hid (And.intro (Rd.mod (Rd.bound H0.out.1) hm (fun _ _ => id)) (And.intro (Rd.mod (Rd.bound H0.out.2.1) hm (fun _ _ => id)) (And.intro hb1 (And.intro hm H0.out.2.2))))
  clear H0 hm0 hb0 hm1 hb1 hm hg
  by_cases ha : 60 < a.length
  · have hd : decide ((60 : Int) < (a.length : Int)) = true := by simp; omega
    go_wp2_with fail
    go_ret
    exact ⟨rfl, H1.out.2.2.2.1⟩
  have hda : decide ((60 : Int) < (a.length : Int)) = false := by simp; omega
  by_cases hb : 60 < b.length
  · have hd : decide ((60 : Int) < (b.length : Int)) = true := by simp; omega
    go_wp2_with fail
    go_ret
    exact ⟨rfl, H1.out.2.2.2.1⟩
  have hdb : decide ((60 : Int) < (b.length : Int)) = false := by simp; omega
  go_wp2_with fail
  have hn1 := (inR_i64 H1.out.2.2.2.2).2
  have hcells : ∀ W, Mod (fun _ => False) w1 W → W.cell? ⟨g, 0, none⟩ = some (.int .i64 n0) ∧ W.cell? ⟨g, 1, none⟩ = some (.int .i64 n1) ∧ Mod (fun _ => False) w1 W := fun W hW =>
    have hb := (hW.block g (lt_of_blk H1.out.2.2.1) id).trans H1.out.2.2.1
    ⟨by rw [cell_of_blk hb]; rfl, by rw [cell_of_blk hb]; rfl, hW⟩
  have HC := Lib.hid hcells; clear hcells
  have hrel : ∀ W, Mod (fun _ => False) w1 W → intsR.rel W (fun k => ok k ∧ k < w.heap.size) [.slice A a.length c] a ∧ intsR.rel W (fun k => ok k ∧ k < w.heap.size) [.slice A2 b.length c2] b := fun W hW => ⟨Rd.mod H1.out.1 hW (fun _ _ => id), Rd.mod H1.out.2.1 hW (fun _ _ => id)⟩
  have HR := Lib.hid hrel; clear hrel
  have hj : ∀ x ∈ joinI a b, Rd.inR .i64 x := fun x hx => joinI_inR (intsR_inR H1.out.1) (intsR_inR H1.out.2.1) x hx
  have HJ := Lib.hid (And.intro hj (joinI_len a b)); clear hj
  have hv : ∀ x ∈ votedI a n1, Rd.inR .i64 x := fun x hx => votedI_inR (intsR_inR H1.out.1) H1.out.2.2.2.2 x hx
  have HV := Lib.hid (And.intro hv (votedI_len a n1)); clear hv
  go_region_held3 (fun w' => w'.cell? ⟨g, 0, none⟩ = some (.int .i64 n0) ∧ w'.cell? ⟨g, 1, none⟩ = some (.int .i64 n1) ∧ Mod (fun _ => False) w1 w')
    (first | assumption | exact HC.out _ (Mod.trans (And.right (And.right (by assumption))) hmJ7 (fun _ h => False.elim h)) | exact HC.out _ (Mod.trans (And.right (And.right (by assumption))) hmJ6 (fun _ h => False.elim h)) | exact HC.out _ (Mod.trans (And.right (And.right (by assumption))) hmJ5 (fun _ h => False.elim h)) | exact HC.out _ (Mod.trans (And.right (And.right (by assumption))) hmJ4 (fun _ h => False.elim h)) | exact HC.out _ (Mod.trans (And.right (And.right (by assumption))) hmJ3 (fun _ h => False.elim h)) | exact HC.out _ (Mod.trans (And.right (And.right (by assumption))) hmJ2 (fun _ h => False.elim h)) | exact HC.out _ (Mod.trans (And.right (And.right (by assumption))) hmJ1 (fun _ h => False.elim h)) | exact HC.out _ ((Mod.refl (fun _ => False) w1).drew))
    (first
      | (go_at_call 18; refine (size_any n0 _).mono ?_; rintro e w' ⟨rfl, rfl⟩)
      | (go_at_call 19; refine (refsize_any n0 _).mono ?_; rintro e w' ⟨rfl, rfl⟩)
      | (go_at_call 16; refine (faults_any n0 _).mono ?_; rintro e w' ⟨rfl, rfl⟩)
      | (go_at_call 20; refine (reffaults_any n0 _).mono ?_; rintro e w' ⟨rfl, rfl⟩)
      | (go_at_call 21; refine (primary_any n1 n0 _).mono ?_; rintro e w' ⟨rfl, rfl⟩)
      | (go_at_call 22; refine (refprimary_any n1 n0 _ hn1).mono ?_; rintro e w' ⟨rfl, rfl⟩)
      | (go_at_call 24; refine (join_any A _ c A2 _ c2 a b _ _ (HR.out _ (And.right (And.right (by assumption)))).1 (HR.out _ (And.right (And.right (by assumption)))).2 ⟨by omega, by omega⟩).mono ?_; rintro e WJ ⟨AJ, cJ, rfl, hoJ, hmJ1⟩)
      | (go_at_call 25; refine (refjoin_any A _ c A2 _ c2 a b _ _ (HR.out _ (And.right (And.right (by assumption)))).1 (HR.out _ (And.right (And.right (by assumption)))).2 ⟨by omega, by omega⟩).mono ?_; rintro e WK ⟨AK, cK, rfl, hoK, hmJ2⟩)
      | (go_at_call 17; refine (agreed_any A _ c a n0 _ _ (HR.out _ (And.right (And.right (by assumption)))).1).mono ?_; rintro e w' ⟨rfl, hmJ4⟩)
      | (go_at_call 26; refine (refagreed_any A _ c a n0 _ _ (HR.out _ (And.right (And.right (by assumption)))).1).mono ?_; rintro e w' ⟨rfl, rfl⟩)
      | (go_at_call 23; refine (numbers_same AV _ cV AU _ cU (votedI a n1) _ _ _ (Rd.mod (reads_ints hoV HV.out.1 (by have := HV.out.2; omega)) hmJ6 (fun _ _ => id)) (reads_ints hoU HV.out.1 (by have := HV.out.2; omega))).mono ?_; rintro e WM ⟨rfl, hmJ7⟩)
      | (go_at_call 23; refine (numbers_same AJ _ cJ AK _ cK (joinI a b) _ _ _ (Rd.mod (reads_ints hoJ HJ.out.1 (by rw [HJ.out.2]; omega)) hmJ2 (fun _ _ => id)) (reads_ints hoK HJ.out.1 (by rw [HJ.out.2]; omega))).mono ?_; rintro e WN ⟨rfl, hmJ3⟩)
      | (go_at_call 27; refine (voted_any A _ c a n1 _ _ (HR.out _ (And.right (And.right (by assumption)))).1 (by omega)).mono ?_; rintro e WV ⟨AV, cV, rfl, hoV, hmJ5⟩)
      | (go_at_call 28; refine (refvoted_any2 A _ c a n1 _ _ (HR.out _ (And.right (And.right (by assumption)))).1 (by omega)).mono ?_; rintro e WU ⟨AU, cU, rfl, hoU, hmJ6⟩))
  go_wp2_with fail
  go_ret
  exact ⟨rfl, H1.out.2.2.2.1.trans (((((((((Mod.refl (fun _ => False) w1).drew).trans hmJ1 (fun _ h => h.elim)).trans hmJ2 (fun _ h => h.elim)).trans hmJ3 (fun _ h => h.elim)).trans hmJ4 (fun _ h => h.elim)).trans hmJ5 (fun _ h => h.elim)).trans hmJ6 (fun _ h => h.elim)).trans hmJ7 (fun _ h => h.elim)) (fun _ h => h.elim)⟩
abbrev int2R : Rd (List Int) := Rd.arr 2 (by decide) (Rd.int .i64)
theorem ints_opens : Opens Try.prog intsR 23 := opens_slice Try.underlying23 (by kernel_rfl) (by kernel_rfl) (opens_int Try.underlying3)
theorem int2_opens : Opens Try.prog int2R 55 := opens_array Try.underlying55 (by kernel_rfl) (by kernel_rfl) (opens_int Try.underlying3)
theorem quorumNumbers_walk (A : Option Addr) (n c : Nat) (A2 : Option Addr) (n2 c2 : Nat) (cs : Array Value) (a b x : List Int) (W : World) (h : intsR.rel W (fun k => k < W.heap.size) [.slice A n c] a) (h2 : intsR.rel W (fun k => k < W.heap.size) [.slice A2 n2 c2] b) (h3 : int2R.rel W (fun k => k < W.heap.size) cs.toList x) :
    Calls Try.prog 5 #[.slice A n c, .slice A2 n2 c2, .agg cs] W fun e W' => e = .returned (.bool true) ∧ Below W.heap.size W W' := by
  obtain ⟨hc, hl, hx⟩ := arr_ints h3
  match x, hl with
  | [n0, n1], _ =>
    obtain rfl : cs = #[.int .i64 n0, .int .i64 n1] := by cases cs; simpa using hc
    exact (quorumNumbers_mod A n c A2 n2 c2 n0 n1 a b _ W h h2 (hx n1 (by simp))).mono fun _ _ h => ⟨h.1, h.2.below (Nat.le_refl _) (fun _ h => h.elim)⟩
end Go.Proofs.Ytgdadhpcooegnaa
