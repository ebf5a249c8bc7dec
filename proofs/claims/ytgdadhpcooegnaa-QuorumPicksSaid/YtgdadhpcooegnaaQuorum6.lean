/- Layer 22: Keep's parts: a clone, the place of a sender. -/
import Derived.Test.YtgdadhpcooegnaaQuorum5
import Derived.Test.YtgdadhpcooegnaaRow
import Derived.Lib.LazyBuf
namespace Go.Proofs.Ytgdadhpcooegnaa
open Go.RowKit
set_option linter.unusedVariables false
set_option maxRecDepth 100000 in
set_option maxHeartbeats 1000000 in
theorem clone_any (A : Option Addr) (n c : Nat) (l : List Msg) (ok : Nat → Prop) (w : World) (h : msgsR.rel w ok [.slice A n c] l) (hl : l.length ≤ 1000000) :
    Calls Try.prog 39 #[.slice A n c] w fun e w' => ∃ A' c', e = .returned (.slice A' l.length c') ∧ OwnR MsgR 40 w' w.heap.size (fun k => ok k ∧ k < w.heap.size) (.slice A' l.length c') l ∧ Mod (fun _ => False) w w' := by
  obtain ⟨rfl, hcap, hrow, hnil, hcm⟩ := msgs_row h
  clear h
  cases A with
  | none =>
    have hc0 : c = 0 := hnil rfl
    subst hc0
    have hl0 : l = [] := List.eq_nil_of_length_eq_zero (by omega)
    subst hl0
    clear hrow hnil hcap hcm
    have he := Go.run_eql_slice_nil (P := Try.prog) w 22 40 none 0 0 Try.underlying22
    go_enter Try.func39, Try.ntmps39
    go_wp2_with fail
    go_ret
    exact ⟨none, 0, rfl, OwnR.nil _ _ _ _ _, Mod.refl _ _⟩
  | some ad =>
    have HX := Lib.hid hrow
    clear hrow hnil
    have he := Go.run_eql_slice_nil (P := Try.prog) w 22 40 (some ad) l.length c Try.underlying22
    go_enter Try.func39, Try.ntmps39
    go_wp2_with (at_builtin; refine append_all (R := MsgR) w.heap.size rfl _ _ 22 40 (.agg zeroMsg.toArray) 504 rfl Try.underlying22 Try.info_msg3 rfl (.slice (some ⟨w.heap.size, 0, none⟩) 0 0) [] l (fun k => ok k ∧ k < w.heap.size) (some ad) c rfl rfl ?c1 ?c2 (by intro e; cases e) ?c3 ?c4 (by decide) ?_)
    case c1 => exact ⟨[], World.ownsRow_made w #[] 0 (Nat.le_refl _) (by decide) rfl, fun j x h => by simp at h⟩
    case c2 => exact Rd.RowOf.weak <| HX.out.step fun k hk hl => ⟨⟨hk, fun e => by have := hk.2; simp only [Value.ownBlock, Option.some.injEq] at e; omega⟩, ((Mod.refl (fun _ => False) w).alloc _).block k hl id⟩
    case c3 => simp
    case c4 => simp only [List.length_nil]; omega
    intro A' c' w1 hO hm hn
    have HY := Lib.hid (And.intro hO hm); clear hO hm hn
    go_wp2_with fail
    go_ret
    refine ⟨A', c', rfl, HY.out.1, ((Mod.refl (fun _ => False) w).alloc _).trans HY.out.2 (fun k hk => .inr ?_)⟩
    simp only [Value.ownBlock, Option.some.injEq] at hk
    omega
/-- the first of a sender -/
def idxOf (l : List Msg) (f : Int) : Option Nat := l.findIdx? fun x => x.from_ == f
def optI (o : Option Nat) : Int := match o with | some i => i | none => -1
set_option maxRecDepth 100000 in
set_option maxHeartbeats 1000000 in
theorem keep1_any (cs : List Value) (x m : Msg) (g : Nat) (csm : List Value) (ok : Nat → Prop) (w : World) (h : MsgR.rel w ok cs x) (hm : MsgR.rel w ok csm m) (hg : w.heap[g]? = some (.cells csm.toArray 40 (0, 0))) :
    Calls Try.prog 40 #[.agg cs.toArray, .pointer (some ⟨g, 0, none⟩)] w fun e w' => e = .returned (.bool (x.from_ == m.from_)) ∧ Mod (fun _ => False) w w' := by
  have H1 := Lib.hid h; have H2 := Lib.hid hm; have H3 := Lib.hid hg; clear h hm hg
  go_enter Try.func40, Try.ntmps40
  go_wp2_with (refine wpList_box_new rfl 40 (.tmp 0) rfl cs rfl ?_)
  intro g2 w2 hg2 hb2 hm2
  obtain ⟨a1, -, -⟩ := msg_var (Rd.mod H1.out (hm2 fun _ => False) (fun _ _ => id)) hb2
  have hgb : w2.heap[g]? = some (.cells csm.toArray 40 (0, 0)) := ((hm2 fun _ => False).block g (lt_of_blk H3.out) id).trans H3.out
  obtain ⟨b1, -, -⟩ := msg_var (Rd.mod H2.out (hm2 fun _ => False) (fun _ _ => id)) hgb
  have HW := Lib.hid (hm2 fun _ => False); clear hg2 hb2 hm2 hgb
  go_wp2_with fail
  go_ret
  exact ⟨rfl, HW.out⟩
set_option maxRecDepth 100000 in
set_option maxHeartbeats 1000000 in
theorem keep2_any (cs : List Value) (x : Msg) (f : Int) (ok : Nat → Prop) (w : World) (h : MsgR.rel w ok cs x) :
    Calls Try.prog 42 #[.agg cs.toArray, .int .i64 f] w fun e w' => e = .returned (.int .i64 (cmpI x.from_ f)) ∧ Mod (fun _ => False) w w' := by
  have H1 := Lib.hid h; clear h
  go_enter Try.func42, Try.ntmps42
  go_wp2_with (refine wpList_box_new rfl 40 (.tmp 0) rfl cs rfl ?_)
  intro g2 w2 hg2 hb2 hm2
  obtain ⟨a1, -, -⟩ := msg_var (Rd.mod H1.out (hm2 fun _ => False) (fun _ _ => id)) hb2
  have HW := Lib.hid (hm2 fun _ => False); clear hg2 hb2 hm2
  go_wp2_with fail
  refine (compare_any x.from_ f w2).mono ?_
  rintro e w' ⟨rfl, rfl⟩
  go_wp2_with fail
  go_ret
  exact ⟨rfl, HW.out⟩
set_option maxRecDepth 100000 in
set_option maxHeartbeats 1000000 in
theorem indexfunc_any (A : Option Addr) (n c : Nat) (l : List Msg) (m : Msg) (g : Nat) (csm : List Value) (ok : Nat → Prop) (w : World) (h : msgsR.rel w ok [.slice A n c] l) (hm : MsgR.rel w ok csm m) (hg : w.heap[g]? = some (.cells csm.toArray 40 (0, 0))) (hl : l.length ≤ 1000000) :
    Calls Try.prog 53 #[.slice A n c, .func (.func 40) #[] #[.pointer (some ⟨g, 0, none⟩)]] w fun e w' => e = .returned (.int .i64 (optI (idxOf l m.from_))) ∧ Mod (fun _ => False) w w' := by
  obtain ⟨rfl, hcap, hrow, -, -⟩ := msgs_row h
  have HR := Lib.hid hrow
  have H2 := Lib.hid (Rd.bound hm); have H3 := Lib.hid hg
  clear h hrow hm hg
  go_enter Try.func53, Try.ntmps53
  go_wp2_with fail
  go_loopg [8] l.length (fun f si wr => ∃ (i : Nat), si = .int .i64 i ∧ i + f = l.length ∧ (∀ j x, j < i → l[j]? = some x → x.from_ ≠ m.from_) ∧ Mod (fun _ => False) w wr)
  case atStart => exact ⟨0, rfl, by omega, by omega, .refl _ _⟩
  case round =>
    obtain ⟨i, rfl, hi, hno, hmod⟩ := hrel
    by_cases hlt : i < l.length
    · obtain ⟨x, hx⟩ : ∃ x, l[i]? = some x := ⟨_, List.getElem?_eq_getElem hlt⟩
      have HRr : Rd.RowOf MsgR wr (fun k => ok k ∧ k < w.heap.size) A l := HR.out.step fun k hk _ => ⟨hk, hmod.block k hk.2 id⟩
      obtain ⟨ad, cs, rfl, hok, hr, hc⟩ := HRr.at_ hx
      have HX := Lib.hid (And.intro hi (And.intro hno (And.intro hmod (And.intro hx (And.intro hr hc)))))
      clear hi hno hmod hx HRr hok hr hc
      go_wp2_with (refine wpList_load_agg rfl 40 _ rfl Try.underlying40 Try.info_msg1 (ad.add (i * 35)) rfl cs (MsgR_len HX.out.2.2.2.2.1) (fun j u hj => by rw [add_add]; exact HX.out.2.2.2.2.2 j u hj) ?_)
      refine (keep1_any cs x m g csm (fun k => ok k ∧ k < w.heap.size) wr HX.out.2.2.2.2.1 (Rd.mod H2.out HX.out.2.2.1 (fun _ _ => id)) ((HX.out.2.2.1.block g (lt_of_blk H3.out) id).trans H3.out)).mono ?_
      rintro e w2 ⟨rfl, hm2⟩
      have HY := Lib.hid (HX.out.2.2.1.trans hm2 (fun _ h => h.elim)); clear hm2
      by_cases hf : x.from_ = m.from_
      · have hd : (x.from_ == m.from_) = true := by simpa using hf
        have HI : Hid (idxOf l m.from_ = some i) := by
          show idxOf l m.from_ = some i
          unfold idxOf
          rw [List.findIdx?_eq_some_iff_getElem]
          have hxl := List.getElem?_eq_some_iff.1 HX.out.2.2.2.1
          refine ⟨hxl.1, by rw [hxl.2]; exact hd, fun j hj => ?_⟩
          have := HX.out.2.1 j l[j] hj (List.getElem?_eq_getElem (by omega))
          simpa using this
        clear hf
        go_wp2_with fail
        go_ret
        exact ⟨by rw [HI.out]; rfl, HY.out⟩
      · have hd : (x.from_ == m.from_) = false := by simpa using hf
        have HF := Lib.hid hf; clear hf
        go_wp2_with fail
        go_roundg (gk - 1)
        case measure => have := HX.out.1; omega
        case rel =>
          refine ⟨i + 1, by go_num, by have := HX.out.1; omega, fun j y hj hy => ?_, HY.out⟩
          by_cases hji : j = i
          · subst hji
            rw [HX.out.2.2.2.1] at hy
            cases hy
            exact HF.out
          · exact HX.out.2.1 j y (by omega) hy
    · have hie : i = l.length := by omega
      have HI : Hid (idxOf l m.from_ = none) := by
        show idxOf l m.from_ = none
        unfold idxOf
        rw [List.findIdx?_eq_none_iff]
        intro x hx
        obtain ⟨j, hj⟩ := List.getElem?_of_mem hx
        have := hno j x (by have := (List.getElem?_eq_some_iff.1 hj).1; omega) hj
        simpa using this
      have HY := Lib.hid hmod; clear hmod hno
      go_wp2_with fail
      go_ret
      exact ⟨by rw [HI.out]; rfl, HY.out⟩
end Go.Proofs.Ytgdadhpcooegnaa
