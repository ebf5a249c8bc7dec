/- Layer 22: Keep's parts: the place in a sorted list. -/
import Derived.Test.YtgdadhpcooegnaaQuorum6
namespace Go.Proofs.Ytgdadhpcooegnaa
open Go.RowKit
set_option linter.unusedVariables false
def Asc (l : List Msg) : Prop := ∀ (i j : Nat) (a b : Msg), i < j → l[i]? = some a → l[j]? = some b → a.from_ < b.from_
def posOf (l : List Msg) (f : Int) : Nat := (l.takeWhile fun x => decide (x.from_ < f)).length
theorem takeWhile_at {α : Type} (p : α → Bool) : ∀ (l : List α) (i : Nat), i ≤ l.length → (∀ t x, t < i → l[t]? = some x → p x = true) → (∀ x, l[i]? = some x → p x = false) → (l.takeWhile p).length = i
  | [], i, hi, _, _ => by simp at hi; simp [hi]
  | a :: r, 0, _, _, h2 => by
    have := h2 a rfl
    simp [this]
  | a :: r, i + 1, hi, h1, h2 => by
    have ha : p a = true := h1 0 a (Nat.succ_pos _) rfl
    rw [List.takeWhile_cons, if_pos ha, List.length_cons, takeWhile_at p r i (by simpa using hi) (fun t x ht hx => h1 (t + 1) x (by omega) (by simpa using hx)) (fun x hx => h2 x (by simpa using hx))]
set_option maxRecDepth 100000 in
set_option maxHeartbeats 1000000 in
theorem search_any (A : Option Addr) (n c : Nat) (l : List Msg) (f : Int) (ok : Nat → Prop) (w : World) (h : msgsR.rel w ok [.slice A n c] l) (hl : l.length ≤ 1000000) (hs : Asc l) :
    Calls Try.prog 41 #[.slice A n c, .int .i64 f, .func (.func 42) #[] #[]] w fun e w' => (∃ v, e = .returned (.tuple #[.int .i64 (posOf l f : Nat), v])) ∧ Mod (fun _ => False) w w' := by
  obtain ⟨rfl, hcap, hrow, -, -⟩ := msgs_row h
  have HR := Lib.hid hrow; have HS := Lib.hid hs
  clear h hrow hs
  go_enter Try.func41, Try.ntmps41
  go_wp2_with fail
  go_loopg [9, 10] l.length (fun k s9 s10 wr => ∃ lo hi : Nat, s9 = .int .i64 lo ∧ s10 = .int .i64 hi ∧ lo ≤ hi ∧ hi ≤ l.length ∧ hi - lo ≤ k ∧ Hid ((∀ t x, t < lo → l[t]? = some x → x.from_ < f) ∧ (∀ t x, hi ≤ t → l[t]? = some x → ¬ x.from_ < f) ∧ Mod (fun _ => False) w wr))
  case atStart => exact ⟨0, l.length, rfl, rfl, Nat.zero_le _, Nat.le_refl _, by omega, ⟨fun t x ht => absurd ht (Nat.not_lt_zero _), fun t x h1 h2 => by have := (List.getElem?_eq_some_iff.1 h2).1; omega, .refl _ _⟩⟩
  case round =>
    obtain ⟨lo, hi, rfl, rfl, hlh, hin, hg, I⟩ := hrel
    by_cases hlt : lo < hi
    · obtain ⟨q, hq⟩ : ∃ q, q = (lo + hi) / 2 := ⟨_, rfl⟩
      have hqi : ((lo : Int) + (hi : Int)) / 2 = (q : Int) := by omega
      have hql : q < l.length := by omega
      have hqb : lo ≤ q ∧ q < hi := by omega
      have HQ := Lib.hid (And.intro hq hqb); clear hq hqb
      obtain ⟨x, hx⟩ : ∃ x, l[q]? = some x := ⟨_, List.getElem?_eq_getElem hql⟩
      have HRr : Rd.RowOf MsgR wr (fun k => ok k ∧ k < w.heap.size) A l := HR.out.step fun k hk _ => ⟨hk, I.out.2.2.block k hk.2 id⟩
      obtain ⟨ad, cs, rfl, hok, hr, hc⟩ := HRr.at_ hx
      have HX := Lib.hid (And.intro hx (And.intro hr hc)); clear hx hr hc hok HRr
      go_wp2_with (refine wpList_load_agg rfl 40 _ rfl Try.underlying40 Try.info_msg1 (ad.add (q * 35)) rfl cs (MsgR_len HX.out.2.1) (fun j u hj => by rw [add_add]; exact HX.out.2.2 j u hj) ?_)
      refine (keep2_any cs x f _ wr HX.out.2.1).mono ?_
      rintro e w2 ⟨rfl, hm2⟩
      have HY := Lib.hid (I.out.2.2.trans hm2 (fun _ h => h.elim)); clear hm2
      by_cases hf : x.from_ < f
      · have hcq : cmpI x.from_ f = -1 := by unfold cmpI; rw [if_pos hf]
        rw [hcq]
        have HF := Lib.hid hf; clear hf hcq
        go_wp2_with fail
        go_roundg (hi - (q + 1))
        case measure => have := HQ.out; omega
        case rel =>
          refine ⟨q + 1, hi, by go_num, rfl, by have := HQ.out; omega, hin, Nat.le_refl _, ⟨fun t y ht hy => ?_, I.out.2.1, HY.out⟩⟩
          by_cases htq : t = q
          · subst htq
            rw [HX.out.1] at hy
            cases hy
            exact HF.out
          · have := HS.out t q y x (by omega) hy HX.out.1
            have := HF.out
            omega
      · have hcq : decide (cmpI x.from_ f < 0) = false := by
          unfold cmpI; rw [if_neg hf]
          by_cases h2 : f < x.from_
          · rw [if_pos h2]; rfl
          · rw [if_neg h2]; rfl
        have HF := Lib.hid hf; clear hf
        go_wp2_with fail
        go_roundg (q - lo)
        case measure => have := HQ.out; omega
        case rel =>
          refine ⟨lo, q, rfl, rfl, by have := HQ.out; omega, by omega, Nat.le_refl _, ⟨I.out.1, fun t y ht hy => ?_, HY.out⟩⟩
          by_cases htq : t = q
          · subst htq
            rw [HX.out.1] at hy
            cases hy
            exact HF.out
          · have := HS.out q t x y (by omega) HX.out.1 hy
            have := HF.out
            omega
    · obtain rfl : hi = lo := by omega
      have HP : Hid (posOf l f = hi) := by
        show posOf l f = hi
        exact takeWhile_at _ l hi hin (fun t x ht hx => by simpa using I.out.1 t x ht hx) (fun x hx => by simpa using I.out.2.1 hi x (Nat.le_refl _) hx)
      by_cases hn : hi < l.length
      · obtain ⟨x, hx⟩ : ∃ x, l[hi]? = some x := ⟨_, List.getElem?_eq_getElem hn⟩
        have HRr : Rd.RowOf MsgR wr (fun k => ok k ∧ k < w.heap.size) A l := HR.out.step fun k hk _ => ⟨hk, I.out.2.2.block k hk.2 id⟩
        obtain ⟨ad, cs, rfl, hok, hr, hc⟩ := HRr.at_ hx
        have HX := Lib.hid (And.intro hx (And.intro hr hc)); clear hx hr hc hok HRr
        go_wp2_with (refine wpList_load_aggw rfl 40 _ rfl Try.underlying40 Try.info_msg1 (ad.add (hi * 35)) rfl cs (MsgR_len HX.out.2.1) (fun j u hj => by rw [add_add]; exact HX.out.2.2 j u hj) ?_)
        refine (keep2_any cs x f _ wr HX.out.2.1).mono ?_
        rintro e w2 ⟨rfl, hm2⟩
        have HY := Lib.hid (I.out.2.2.trans hm2 (fun _ h => h.elim)); clear hm2
        go_wp2_with fail
        go_ret2
        rw [HP.out]
        exact ⟨⟨_, rfl⟩, HY.out⟩
      · go_wp2_with fail
        go_ret2
        rw [HP.out]
        exact ⟨⟨_, rfl⟩, I.out.2.2⟩
end Go.Proofs.Ytgdadhpcooegnaa
