/- Layer 29: container/heap over the queue: up. -/
import Derived.Test.YtlimjdejcjgocaaNet1
import Derived.Test.YtlimjdejcjgocaaIface
namespace Go.Proofs.Ytlimjdejcjgocaa
open Go.RowKit
set_option linter.unusedVariables false
theorem upL_fuel {α : Type} (lt : α → α → Bool) : ∀ (f : Nat) (l : List α) (j : Nat), j < f → upL lt f l j = upL lt (j + 1) l j := by
  intro f
  induction f using Nat.strongRecOn with
  | ind f ih =>
    intro l j hj
    cases f with
    | zero => omega
    | succ f =>
      rw [upL, upL]
      by_cases h0 : j = 0
      · rw [if_pos h0, if_pos h0]
      rw [if_neg h0, if_neg h0]
      split
      · rw [ih f (by omega) _ _ (by omega), ih j (by omega) _ _ (by omega)]
      · rfl
/-- the queue behind the net's pointer -/
structure QAt (w : World) (g gq cap : Nat) (xs : List Pk) : Prop where
  cell : w.cell? ⟨g, 0, none⟩ = some (.slice (some ⟨gq, 0, none⟩) xs.length cap)
  ne : gq ≠ g
  row : QRow w gq cap xs
theorem QAt.step {w w1 : World} {g gq cap : Nat} {xs ys : List Pk} (h : QAt w g gq cap xs) (hl : ys.length = xs.length) (hr : QRow w1 gq cap ys) (hm : Mod (fun k => k = gq) w w1) : QAt w1 g gq cap ys := by
  refine ⟨?_, h.ne, hr⟩
  rw [hl, ← h.cell]
  exact hm.cell (a := ⟨g, 0, none⟩) (lt_of_cell h.cell) (fun e => h.ne e.symm)
theorem run_load_queue {w : World} {g : Nat} {v : Value} (h : w.cell? ⟨g, 0, none⟩ = some v) (h1 : v.oneCell' = true) : (loadVar 45 ⟨g, 0, none⟩).run Try.prog w = .ok v w := by
  go_simp
theorem mLen {w : World} {g : Nat} {A : Option Addr} {n c : Nat} (h : w.cell? ⟨g, 0, none⟩ = some (.slice A n c)) : (Go.method 214 49 (.pointer (some ⟨g, 0, none⟩)) "Len").run Try.prog w = .ok (68, .slice A n c) w :=
  run_method_val 213 (by kernel_rfl) Try.underlying49 (run_load_queue h rfl)
theorem mLess {w : World} {g : Nat} {A : Option Addr} {n c : Nat} (h : w.cell? ⟨g, 0, none⟩ = some (.slice A n c)) : (Go.method 214 49 (.pointer (some ⟨g, 0, none⟩)) "Less").run Try.prog w = .ok (69, .slice A n c) w :=
  run_method_val 213 (by kernel_rfl) Try.underlying49 (run_load_queue h rfl)
theorem mSwap {w : World} {g : Nat} {A : Option Addr} {n c : Nat} (h : w.cell? ⟨g, 0, none⟩ = some (.slice A n c)) : (Go.method 214 49 (.pointer (some ⟨g, 0, none⟩)) "Swap").run Try.prog w = .ok (70, .slice A n c) w :=
  run_method_val 213 (by kernel_rfl) Try.underlying49 (run_load_queue h rfl)
theorem mPush (v : Value) (w : World) : (Go.method 214 49 v "Push").run Try.prog w = .ok (73, v) w := by kernel_rfl
theorem mPop (v : Value) (w : World) : (Go.method 214 49 v "Pop").run Try.prog w = .ok (72, v) w := by kernel_rfl
set_option maxRecDepth 100000 in
set_option maxHeartbeats 1000000 in
theorem up_any (g gq cap j : Nat) (xs : List Pk) (w : World) (h : QAt w g gq cap xs) (hj : j < xs.length) :
    Calls Try.prog 20 #[.iface 49 (.pointer (some ⟨g, 0, none⟩)), .int .i64 j] w fun e w' => e = .returned (.tuple #[]) ∧ QRow w' gq cap (upL ltK (j + 1) xs j) ∧ Mod (fun k => k = gq) w w' := by
  have hm : xs.length ≤ 9223372036854775807 := by have h1 := h.row.1; have h2 := h.row.2.1; unfold maxLen at h2; omega
  have H0 := Lib.hid h; clear h
  go_enter Try.func20, Try.ntmps20
  go_wp2_with fail
  go_loopg [1] (j + 1) (fun f sj wr => ∃ (k : Nat) (ys : List Pk), sj = .int .i64 k ∧ k + 1 = f ∧ k < xs.length ∧ ys.length = xs.length ∧ QAt wr g gq cap ys ∧ Mod (fun b => b = gq) w wr ∧ upL ltK (k + 1) ys k = upL ltK (j + 1) xs j)
  case atStart => exact ⟨j, xs, rfl, rfl, hj, rfl, H0.out, Mod.refl _ _, rfl⟩
  case round =>
    obtain ⟨k, ys, rfl, hk, hkx, hyl, hq, hmd, hup⟩ := hrel
    have hc := hq.cell
    have H1 := Lib.hid (And.intro hyl (And.intro hq (And.intro hmd hup))); clear hyl hq hmd hup
    by_cases h0 : k = 0
    · subst h0
      go_wp2_with fail
      go_end0
      have e : upL ltK (j + 1) xs j = ys := by rw [← H1.out.2.2.2]; rfl
      exact ⟨rfl, by rw [e]; exact H1.out.2.1.row, H1.out.2.2.1⟩
    · obtain ⟨p, hp⟩ : ∃ p : Nat, p = (k - 1) / 2 := ⟨_, rfl⟩
      have hpi : ((k : Int) - 1) / 2 = (p : Int) := by omega
      have hpk : ((p : Int) == (k : Int)) = false := by simp; omega
      have hpl : p < k := by omega
      have hkl : k < ys.length := by rw [H1.out.1]; exact hkx
      obtain ⟨x, hx⟩ : ∃ x, ys[k]? = some x := ⟨_, List.getElem?_eq_getElem hkl⟩
      obtain ⟨y, hy⟩ : ∃ y, ys[p]? = some y := ⟨_, List.getElem?_eq_getElem (by omega)⟩
      have HX := Lib.hid (And.intro hp (And.intro hx hy)); clear hp hx hy
      have mL := mLess hc
      go_wp2_with fail
      refine (less_any gq cap k p ys x y wr H1.out.2.1.row HX.out.2.1 HX.out.2.2).mono ?_
      rintro e w1 ⟨rfl, hm1⟩
      have q1 : QAt w1 g gq cap ys := H1.out.2.1.step rfl (H1.out.2.1.row.move (hm1.block gq H1.out.2.1.row.lt id)) (hm1.mono (fun _ h => h.elim))
      have M1 : Mod (fun b => b = gq) w w1 := H1.out.2.2.1.trans hm1 (fun _ h => h.elim)
      have hc1 := q1.cell
      have mS := mSwap hc1
      have H2 := Lib.hid (And.intro q1 M1); clear q1 M1 hm1 mL hc
      have up1 : Hid (upL ltK (k + 1) ys k = if ltK x y = true then upL ltK (p + 1) (swapL ys p k) p else ys) := Lib.hid (by
        rw [upL, if_neg h0, ← HX.out.1, ltAt_of HX.out.2.1 HX.out.2.2, upL_fuel ltK k (swapL ys p k) p hpl])
      cases hlt : ltK x y with
      | true =>
        have HU : Hid (upL ltK (p + 1) (swapL ys p k) p = upL ltK (j + 1) xs j) := Lib.hid (by rw [← H1.out.2.2.2, up1.out, if_pos hlt])
        clear hlt up1
        go_wp2_with fail
        refine (swap_any gq cap p k ys y x w1 H2.out.1.row HX.out.2.2 HX.out.2.1).mono ?_
        rintro e w2 ⟨rfl, hr2, hm2⟩
        have q2 : QAt w2 g gq cap (swapL ys p k) := H2.out.1.step (swapL_length _ _ _) hr2 hm2
        have H3 := Lib.hid (And.intro q2 (H2.out.2.trans hm2 (fun _ h => .inl h))); clear q2 hr2 hm2 hc1 mS
        go_wp2_with fail
        go_roundg (p + 1)
        case measure => omega
        case rel => exact ⟨p, swapL ys p k, by first | rfl | rw [hpi], rfl, by omega, by rw [swapL_length]; exact H1.out.1, H3.out.1, H3.out.2, HU.out⟩
      | false =>
        have HU : Hid (ys = upL ltK (j + 1) xs j) := Lib.hid (by rw [← H1.out.2.2.2, up1.out, if_neg (by rw [hlt]; simp)])
        clear hlt up1
        go_wp2_with fail
        go_end0
        exact ⟨rfl, by rw [← HU.out]; exact H2.out.1.row, H2.out.2⟩
end Go.Proofs.Ytlimjdejcjgocaa
