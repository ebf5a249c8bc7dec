/- alike: true at equal data; Keep keeps a list ascending. -/
import Derived.Test.YtgdadhpcooegnaaSame4
import Derived.Test.YtgdadhpcooegnaaQuorum22
namespace Go.Proofs.Ytgdadhpcooegnaa
open Go.RowKit
set_option linter.unusedVariables false
theorem Try.info_msg35 : (Try.prog.info? 40).map (·.size) = some 35 := by kernel_rfl
set_option maxRecDepth 100000 in
set_option maxHeartbeats 1000000 in
theorem alike_any (A : Option Addr) (n c : Nat) (A2 : Option Addr) (n2 c2 : Nat) (a : List Msg) (ok ok2 : Nat → Prop) (w : World) (h : msgsR.rel w ok [.slice A n c] a) (h2 : msgsR.rel w ok2 [.slice A2 n2 c2] a) :
    Calls Try.prog 11 #[.slice A n c, .slice A2 n2 c2] w fun e w' => e = .returned (.bool true) ∧ Mod (fun _ => False) w w' := by
  obtain ⟨rfl, hr1, hb⟩ := slice_row h
  obtain ⟨rfl, hr2, -⟩ := slice_row h2
  have H1 := Lib.hid (And.intro hr1 hr2); clear h h2 hr1 hr2
  go_enter Try.func11, Try.ntmps11
  go_wp2_with fail
  go_loopg [13] a.length (fun f si wr => ∃ (i : Nat), si = .int .i64 i ∧ i + f = a.length ∧ Mod (fun _ => False) w wr)
  case atStart => exact ⟨0, rfl, by omega, .refl _ _⟩
  case round =>
    obtain ⟨i, rfl, hi, hmod⟩ := hrel
    have HX := Lib.hid (And.intro hi hmod); clear hi hmod
    by_cases hlt : i < a.length
    · obtain ⟨x, hx⟩ : ∃ x, a[i]? = some x := ⟨_, List.getElem?_eq_getElem hlt⟩
      obtain ⟨ad, cs, rfl, -, hr, hc⟩ := (H1.out.1.step (w1 := wr) (ok1 := fun _ => True) fun k hk hl => ⟨trivial, HX.out.2.block k hl id⟩).at_ hx
      obtain ⟨ad2, cs2, rfl, -, hr2, hc2⟩ := (H1.out.2.step (w1 := wr) (ok1 := fun _ => True) fun k hk hl => ⟨trivial, HX.out.2.block k hl id⟩).at_ hx
      have HY := Lib.hid (And.intro hr (And.intro hr2 (And.intro hc hc2)))
      clear hx hr hr2 hc hc2
      go_wp2_with fail
      refine wp_region_mod (by kernel_rfl) (by kernel_rfl) ?_
      repeat (first
        | (refine wpQuiet_load_agg (by rfl) 40 _ rfl Try.underlying40 Try.info_msg35 (ad.add (i * 35)) rfl cs (MsgR.len HY.out.1) (fun w' hw j u hj => by obtain ⟨W, rfl⟩ := hw; rw [add_add]; exact W.cell (HY.out.2.2.1 j u hj)) ?_)
        | (refine wpQuiet_load_agg (by rfl) 40 _ rfl Try.underlying40 Try.info_msg35 (ad2.add (i * 35)) rfl cs2 (MsgR.len HY.out.2.1) (fun w' hw j u hj => by obtain ⟨W, rfl⟩ := hw; rw [add_add]; exact W.cell (HY.out.2.2.2 j u hj)) ?_)
        | quiet_step ((go_at_call 14; refine quiet_mod (sameMsg_any cs cs2 x _ _ _ (rel_mod HY.out.1 _) (rel_mod HY.out.2.1 _)))))
      refine wpQuiet_nil ?_
      rintro _ ⟨W, rfl⟩
      go_wp2_with fail
      go_roundg (gk - 1)
      case measure => have := HX.out.1; omega
      case rel => exact ⟨i + 1, by go_num, by have := HX.out.1; omega, HX.out.2.trans W.2 (fun _ h => h.elim)⟩
    · go_wp2_with fail
      go_ret
      exact ⟨rfl, HX.out.2⟩
/-! Keep keeps a list ascending -/
theorem ins_asc (m : Msg) : ∀ (k : List Msg), AscP k → (∀ x ∈ k, x.from_ ≠ m.from_) → AscP (k.take (posOf k m.from_) ++ m :: k.drop (posOf k m.from_))
  | [], _, _ => by simp [posOf, AscP]
  | x :: k, h, hn => by
    have hx := hn x (by simp)
    have hk : AscP k := List.Pairwise.of_cons h
    by_cases hlt : x.from_ < m.from_
    · have hp : posOf (x :: k) m.from_ = posOf k m.from_ + 1 := by unfold posOf; rw [List.takeWhile_cons, if_pos (by simpa using hlt)]; rfl
      rw [hp, List.take_succ_cons, List.drop_succ_cons, List.cons_append]
      refine List.pairwise_cons.2 ⟨fun y hy => ?_, ins_asc m k hk (fun y hy => hn y (List.mem_cons_of_mem _ hy))⟩
      rcases List.mem_append.1 hy with hy | hy
      · exact (List.pairwise_cons.1 h).1 y (List.mem_of_mem_take hy)
      · rcases List.mem_cons.1 hy with rfl | hy
        · exact hlt
        · exact (List.pairwise_cons.1 h).1 y (List.mem_of_mem_drop hy)
    · have hp : posOf (x :: k) m.from_ = 0 := by unfold posOf; rw [List.takeWhile_cons, if_neg (by simpa using hlt)]; rfl
      rw [hp, List.take_zero, List.drop_zero, List.nil_append]
      have hmx : m.from_ < x.from_ := by omega
      refine List.pairwise_cons.2 ⟨fun y hy => ?_, h⟩
      rcases List.mem_cons.1 hy with rfl | hy
      · exact hmx
      · have := (List.pairwise_cons.1 h).1 y hy; omega
theorem AscP.filter {l : List Msg} (h : AscP l) (p : Msg → Bool) : AscP (l.filter p) := List.Pairwise.sublist List.filter_sublist h
theorem keepM_asc {l : List Msg} {m : Msg} (h : AscP l) : AscP (refKeepM l m) := by
  rw [keep_same (h.filter _)]
  unfold keepM
  exact ins_asc m _ (h.filter _) (fun x hx => by have := (List.mem_filter.1 hx).2; simpa [notFrom] using this)
theorem refKeepM_len {l : List Msg} {m : Msg} (h : AscP l) : (refKeepM l m).length ≤ l.length + 1 := by
  rw [keep_same (h.filter _), keepM_len]
  have := List.length_filter_le (notFrom m.from_) l
  omega
end Go.Proofs.Ytgdadhpcooegnaa
