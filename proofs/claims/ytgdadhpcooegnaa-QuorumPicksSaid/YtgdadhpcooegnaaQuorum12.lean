/- Layer 22: Keep's parts: a sender's messages are taken out, the walk. -/
import Derived.Test.YtgdadhpcooegnaaQuorum11
namespace Go.Proofs.Ytgdadhpcooegnaa
open Go.RowKit
set_option linter.unusedVariables false
theorem idxOf_none {l : List Msg} {f : Int} (h : idxOf l f = none) : l.filter (notFrom f) = l := by
  unfold idxOf at h
  rw [List.findIdx?_eq_none_iff] at h
  rw [List.filter_eq_self]
  intro x hx
  simp [notFrom, h x hx]
theorem idxOf_some {l : List Msg} {f : Int} {i : Nat} (h : idxOf l f = some i) : i < l.length ∧ (l.take (i + 1)).filter (notFrom f) = l.take i := by
  unfold idxOf at h
  rw [List.findIdx?_eq_some_iff_getElem] at h
  obtain ⟨h1, h2, h3⟩ := h
  refine ⟨h1, ?_⟩
  rw [filter_take (List.getElem?_eq_getElem h1) f]
  have : notFrom f l[i] = false := by simpa [notFrom] using h2
  rw [this]
  simp only [Bool.false_eq_true, if_false, List.append_nil]
  rw [List.filter_eq_self]
  intro x hx
  obtain ⟨j, hj⟩ := List.getElem?_of_mem hx
  have hjl := (List.getElem?_eq_some_iff.1 hj).1
  rw [List.length_take] at hjl
  rw [List.getElem?_take_of_lt (by omega)] at hj
  have := h3 j (by omega)
  rw [List.getElem?_eq_getElem (by omega)] at hj
  cases hj
  simpa [notFrom] using this
theorem DelAt.start {w0 w : World} {S : Nat → Prop} {g : Nat} {l : List Msg} {f : Int} {cur : List Value} {i n c : Nat} (hb : w0.heap[g]? = some (.cells cur.toArray 40 (0, 0))) (hm : Mod (fun _ => False) w0 w) (hcur : cur.length = c * 35) (hn : n = l.length) (hnc : n ≤ c)
    (hr : ∀ j x, l[j]? = some x → MsgR.rel w0 (fun k => S k ∧ k ≠ g) (((cur.take (n * 35)).drop (j * 35)).take 35) x) (hi : idxOf l f = some i) : DelAt w0 S g l f cur i (i + 1) cur w := by
  obtain ⟨h1, h2⟩ := idxOf_some hi
  refine ⟨(hm.block g (lt_of_blk hb) id).trans hb, hm.mono (fun k h => h.elim), ⟨cur.take (i * 35), (cur.drop (i * 35)).take 35, ?_, ?_, ?_, ?_⟩, by rw [h2, List.length_take]; omega⟩
  · rw [List.append_assoc, show (i + 1) * 35 = i * 35 + 35 by omega, ← List.drop_drop, List.take_append_drop, List.take_append_drop]
  · rw [List.length_take]; omega
  · simp only [List.length_take, List.length_drop]; omega
  · rw [h2]
    intro t x hx
    have ht : t < i := by have := (List.getElem?_eq_some_iff.1 hx).1; rw [List.length_take] at this; omega
    rw [List.getElem?_take_of_lt ht] at hx
    have := hr t x hx
    have e : ((cur.take (i * 35)).drop (t * 35)).take 35 = ((cur.take (n * 35)).drop (t * 35)).take 35 := by
      rw [List.drop_take, List.drop_take, List.take_take, List.take_take]
      congr 1
      omega
    rw [e]
    exact Rd.mod this hm (fun _ _ => id)
/-- the row cut at its kept end -/
theorem DelAt.cut {w0 w w1 : World} {S : Nat → Prop} {g base : Nat} {l : List Msg} {f : Int} {cur zs : List Value} {i n c : Nat} {row : List Value} (h : DelAt w0 S g l f cur i n row w) (hbg : base ≤ g) (hcur : cur.length = c * 35) (hn : n = l.length) (hnc : n ≤ c) (hcm : c ≤ maxLen) (hin : i ≤ n)
    (hm : Mod (fun k => k = g) w w1) (hz : zs.length = (n - i) * 35) (hb : w1.heap[g]? = some (.cells (laid row (i * 35) zs).toArray 40 (0, 0))) :
    OwnR MsgR 40 w1 base S (.slice (some ⟨g, 0, none⟩) (l.filter (notFrom f)).length c) (l.filter (notFrom f)) := by
  obtain ⟨F, mid, hrow, hF, hmid, hr⟩ := h.ex
  have hnum := h.num
  rw [hn, List.take_length] at hr hnum
  have hrl : row.length = c * 35 := by rw [hrow]; simp only [List.length_append, List.length_drop]; omega
  have hl : laid row (i * 35) zs = F ++ (zs ++ row.drop (i * 35 + zs.length)) := by
    unfold laid
    rw [hrow, List.append_assoc F, List.take_append_of_le_length (by omega), List.take_of_length_le (by omega)]
    simp
  refine own_mk (R := MsgR) (e := 40) (cells := F) (sp := zs ++ row.drop (i * 35 + zs.length)) hbg (by rw [hb, hl]) (by rw [hnum]; exact hF) ?_ (by omega) hcm (fun j x hj => Rd.mod (hr j x hj) hm (fun k hk => hk.2))
  show _ = c * 35
  simp only [List.length_append, List.length_drop, hrl]
  omega
set_option maxRecDepth 100000 in
set_option maxHeartbeats 1000000 in
theorem delete_any (A : Option Addr) (n c : Nat) (l : List Msg) (m : Msg) (g3 : Nat) (csm : List Value) (base : Nat) (S : Nat → Prop) (w : World) (hO : OwnR MsgR 40 w base S (.slice A n c) l) (hn : n = l.length) (hl : l.length ≤ 1000000)
    (hg : w.heap[g3]? = some (.cells csm.toArray 40 (0, 0))) (hm : MsgR.rel w (fun k => S k ∧ some k ≠ (Value.slice A n c).ownBlock) csm m) (hg3 : some g3 ≠ (Value.slice A n c).ownBlock) :
    Calls Try.prog 38 #[.slice A n c, .func (.func 40) #[] #[.pointer (some ⟨g3, 0, none⟩)]] w fun e w' => ∃ A' c', e = .returned (.slice A' (l.filter (notFrom m.from_)).length c') ∧ (Value.slice A' (l.filter (notFrom m.from_)).length c').ownBlock = (Value.slice A n c).ownBlock ∧ OwnR MsgR 40 w' base S (.slice A' (l.filter (notFrom m.from_)).length c') (l.filter (notFrom m.from_)) ∧ Mod (fun k => (Value.slice A n c).ownBlock = some k) w w' := by
  subst hn
  have hreads := hO.reads (bytes := 504) (by omega)
  have HI := indexfunc_any A _ c l m g3 csm _ w hreads (Rd.mono hm (fun k hk => Or.inl hk.1)) hg hl
  cases hidx : idxOf l m.from_ with
  | none =>
    rw [hidx] at HI
    have HF := Lib.hid (idxOf_none hidx)
    have H0 := Lib.hid hO
    have HIh := Lib.hid HI
    clear hreads HI hidx hg hm hg3 hO
    go_enter Try.func38, Try.ntmps38
    go_wp2_with fail
    refine HIh.out.mono ?_
    rintro e w1 ⟨rfl, hm1⟩
    have HM := Lib.hid hm1; clear hm1
    go_wp2_with fail
    go_ret
    rw [HF.out]
    refine ⟨A, c, rfl, rfl, ?_, HM.out.mono (fun k h => h.elim)⟩
    exact H0.out.mod HM.out (fun _ _ => id) (fun _ _ _ => id)
  | some i =>
    rw [hidx] at HI
    obtain ⟨g, cur, rfl, -, hbg, hgg, hnc, hcm, hcur, hrel, hone⟩ := own_blk hO (by intro h; subst h; simp [idxOf] at hidx)
    have hne : g3 ≠ g := fun e => hg3 (by rw [e]; rfl)
    have hin := (idxOf_some hidx).1
    have hcur' : cur.length = c * 35 := hcur
    have H0 := Lib.hid (And.intro hbg (And.intro hgg (And.intro hcur' (And.intro hrel (And.intro hidx (And.intro hg (And.intro hm hne)))))))
    have HIh := Lib.hid HI
    clear hreads HI hidx hg hm hg3 hO hbg hgg hcur hcur' hrel hone hne
    go_enter Try.func38, Try.ntmps38
    go_wp2_with fail
    refine HIh.out.mono ?_
    rintro e w1 ⟨rfl, hm1⟩
    have HD0 := Lib.hid (DelAt.start (f := m.from_) H0.out.2.1 hm1 H0.out.2.2.1 rfl hnc H0.out.2.2.2.1 H0.out.2.2.2.2.1); clear hm1
    have hine : ((i : Int) == -1) = false := by simp
    have hil : i + 1 ≤ 1000000 := by omega
    simp only [optI]
    go_wp2_with fail
    go_loopg [5, 6] l.length (fun f s5 s6 wr => ∃ (i j : Nat) (row : List Value), s5 = .int .i64 i ∧ s6 = .int .i64 j ∧ l.length - j ≤ f ∧ j ≤ l.length ∧ i < j ∧ Hid (DelAt w S g l m.from_ cur i j row wr))
    case atStart => exact ⟨i, i + 1, cur, rfl, by go_num, by omega, by omega, by omega, HD0⟩
    case round =>
      obtain ⟨i, j, row, rfl, rfl, hf, hjl, hij, HD⟩ := hrel
      by_cases hlt : j < l.length
      · obtain ⟨x, hx⟩ : ∃ x, l[j]? = some x := ⟨_, List.getElem?_eq_getElem hlt⟩
        have hat := HD.out.at_ H0.out.2.2.1 hnc hlt (H0.out.2.2.2.1 j x hx)
        obtain ⟨cs, hcs⟩ : ∃ cs, cs = (cur.drop (j * 35)).take 35 := ⟨_, rfl⟩
        rw [← hcs] at hat
        have HX := Lib.hid (And.intro hx (And.intro hcs hat)); clear hx hcs hat
        go_wp2_with (refine wpList_copy_var (n := 35) rfl rfl rfl 40 _ _ _ rfl rfl rfl Try.underlying40 zeroMsg Try.info_msg2 rfl ⟨g, j * 35, none⟩ rfl cs (MsgR_len HX.out.2.2.1) (MsgR.one HX.out.2.2.1) (fun t u ht => by rw [add_own]; exact HX.out.2.2.2 t u ht) (fun _ _ => rfl) (fun _ _ => rfl) ?_)
        intro g7 w2 hg7 hb7 hm7
        have r7 := Rd.mod HX.out.2.2.1 (hm7 fun _ => False) (fun _ _ => id)
        have HY := Lib.hid (And.intro hb7 (And.intro (hm7 fun _ => False) r7)); clear hg7 hb7 hm7 r7
        go_wp2_with (refine wpList_load_agg rfl 40 _ rfl Try.underlying40 Try.info_msg1 ⟨g7, 0, none⟩ rfl cs (MsgR_len HX.out.2.2.1) (fun t u ht => by rw [agg_at]; refine (cell_of_blk HY.out.1 _).trans ?_; simpa using ht) ?_)
        have hm02 : Mod (fun k => k = g) w w2 := HD.out.mod.trans (HY.out.2.1) (fun k h => h.elim)
        have hg3' : w2.heap[g3]? = some (.cells csm.toArray 40 (0, 0)) := (hm02.block g3 (lt_of_blk H0.out.2.2.2.2.2.1) H0.out.2.2.2.2.2.2.2).trans H0.out.2.2.2.2.2.1
        have hmm : MsgR.rel w2 (fun k => S k ∧ k ≠ g) csm m := MsgR.step (fun k hk hl => ⟨⟨hk.1, fun e => hk.2 (by rw [e]; rfl)⟩, hm02.block k hl (fun e => hk.2 (by rw [e]; rfl))⟩) H0.out.2.2.2.2.2.2.1
        refine (keep1_any cs x m g3 csm _ w2 HY.out.2.2 hmm hg3').mono ?_
        rintro e w3 ⟨rfl, hm3⟩
        have hb73 := (hm3.block g7 (lt_of_blk HY.out.1) id).trans HY.out.1
        have hm23 := HY.out.2.1.trans hm3 (fun _ h => h.elim)
        have hbg3 := (hm23.block g (lt_of_blk HD.out.blk) id).trans HD.out.blk
        have HZ := Lib.hid (And.intro hb73 (And.intro hm23 hbg3)); clear hb73 hm23 hm3 hbg3 hm02 hg3' hmm
        by_cases hfr : x.from_ = m.from_
        · have hd : (x.from_ == m.from_) = true := by simpa using hfr
          have HN : Hid (notFrom m.from_ x = false) := by show notFrom m.from_ x = false; unfold notFrom; rw [hd]; rfl
          clear hfr
          go_wp2_with fail
          go_roundg (gk - 1)
          case measure => omega
          case rel => exact ⟨i, j + 1, row, rfl, by go_num, by omega, by omega, by omega, HD.out.skip HZ.out.2.1 H0.out.2.2.1 (by omega) HX.out.1 HN.out⟩
        · have hd : (x.from_ == m.from_) = false := by simpa using hfr
          have HN : Hid (notFrom m.from_ x = true) := by show notFrom m.from_ x = true; unfold notFrom; rw [hd]; rfl
          clear hfr
          have hrowl : i * 35 + cs.length ≤ row.length := by
            obtain ⟨F, mid, hr, hF, hmid, _⟩ := HD.out.ex
            have := H0.out.2.2.1
            have := MsgR_len HX.out.2.2.1
            rw [hr]; simp only [List.length_append, List.length_drop]; omega
          have HR2 := Lib.hid hrowl; clear hrowl
          go_wp2_with (first
            | (refine wpList_load_agg rfl 40 _ rfl Try.underlying40 Try.info_msg1 ⟨g7, 0, none⟩ rfl cs (MsgR_len HX.out.2.2.1) (fun t u ht => by rw [agg_at]; refine (cell_of_blk HZ.out.1 _).trans ?_; simpa using ht) ?_)
            | (refine wpList_store_at rfl 40 _ _ rfl g (i * 35) 40 row cs HZ.out.2.2 rfl rfl (by rw [MsgR_len HX.out.2.2.1]; exact Try.info_msg1) HR2.out (MsgR.one HX.out.2.2.1) ?_))
          intro w4 hb4 hm4
          have HK : Hid (DelAt w S g l m.from_ cur (i + 1) (j + 1) (laid row (i * 35) cs) w4) := by
            have hc := HX.out.2.1
            have h1 := HX.out.2.2.1
            subst hc
            exact HD.out.keep HZ.out.2.1 hm4 H0.out.2.2.1 (by omega) hij HX.out.1 HN.out h1 hb4
          clear hb4 hm4
          go_wp2_with fail
          go_roundg (gk - 1)
          case measure => omega
          case rel => exact ⟨i + 1, j + 1, _, by go_num, by go_num, by omega, by omega, by omega, HK⟩
      · obtain rfl : j = l.length := by omega
        have hs1 := slice_low_own (P := Try.prog) Try.underlying22 Try.info_msg1 g l.length c i (by omega) (by omega) (i : Int) rfl
        have hrowl : i * 35 + (l.length - i) * 35 ≤ row.length := by
          obtain ⟨F, mid, hr, hF, hmid, _⟩ := HD.out.ex
          rw [hr]; simp only [List.length_append]; omega
        have HR2 := Lib.hid hrowl; clear hrowl
        go_wp2_with (refine wpList_clear rfl _ 22 rfl 40 zeroMsg Try.underlying22 Try.info_msg0 (MsgR.one (zMsg_rel wr (fun _ => False))) (by decide) g (i * 35) (l.length - i) (c - i) rfl row 40 HD.out.blk HR2.out ?_)
        intro w4 zs hz hb4 hm4
        have HK := Lib.hid (And.intro (HD.out.cut H0.out.1 H0.out.2.2.1 rfl hnc hcm (by omega) hm4 hz hb4) (And.intro (HD.out.mod.trans hm4 (fun k hk => .inl hk)) (by have := HD.out.num; rwa [List.take_length] at this))); clear hz hb4 hm4
        go_wp2_with fail
        go_ret
        refine ⟨some ⟨g, 0, none⟩, c, ?_, rfl, HK.out.1, HK.out.2.1.mono (fun k hk => by rw [hk]; rfl)⟩
        rw [HK.out.2.2]
        rfl
end Go.Proofs.Ytgdadhpcooegnaa
