/- Part of this claim's proof (texts QuoP, Qta4, Qta5, Qta2, joined by program). -/
import Derived.Test.YtefedalnafjcfaaGreatDoorA25
import Derived.Test.YtefedalnafjcfaaGreatDoorA23
namespace Go.Proofs.YtefedalnafjcfaaGreatDoor
open Go.RowKit
set_option linter.unusedVariables false
theorem tab_get_ext {L M : Tab} (hL : AscT L) (hM : AscT M) (h : ∀ p, getT L p = getT M p) : L = M :=
  tab_ext hL hM fun p o => by rw [← getT_iff hL, ← getT_iff hM, h]
theorem sum_setQ : ∀ {l : List Kid} {k : Kid} (q : Int), (l.map (·.n)).Pairwise (· < ·) → k ∈ l → ((l.map fun x => if x.n = k.n then { x with quota := q } else x).map (·.quota)).sum = (l.map (·.quota)).sum + (q - k.quota)
  | [], k, q, _, h => by cases h
  | x :: l, k, q, ha, h => by
    rw [List.map_cons, List.pairwise_cons] at ha
    have hne : ∀ y ∈ l, x.n < y.n := fun y hy => ha.1 _ (List.mem_map.2 ⟨y, hy, rfl⟩)
    rcases List.mem_cons.1 h with rfl | hm
    · have : (l.map fun y => if y.n = k.n then { y with quota := q } else y) = l := by
        have : ∀ y ∈ l, (if y.n = k.n then { y with quota := q } else y) = y := fun y hy => if_neg (by have := hne y hy; omega)
        exact (List.map_congr_left this).trans (List.map_id' l)
      simp only [List.map_cons, if_true, List.sum_cons, this]
      omega
    · have := sum_setQ q ha.2 hm
      have hx : ¬ x.n = k.n := by have := hne k hm; omega
      simp only [List.map_cons, if_neg hx, List.sum_cons, this]
      omega
theorem uses_setQ {c : Ob} (hk : KidsOk c) {k : Kid} (h : k ∈ c.kids) (q : Int) : usesO (setQ c k.n q) = usesO c + (q - k.quota) := by
  have := sum_setQ q hk.asc h
  unfold usesO
  show 16 + (c.bytes.length : Int) + 8 * c.own.length + 16 * c.entry.length + 24 * c.maps.length + (((c.kids.map fun x => if x.n = k.n then { x with quota := q } else x)).map (·.quota)).sum = _
  rw [this]; omega
theorem setQ_twice (c : Ob) (n q r : Int) : setQ (setQ c n q) n r = setQ c n r := by
  unfold setQ
  simp only [List.map_map, Ob.mk.injEq, true_and, and_true]
  apply List.map_congr_left
  intro x _
  simp only [Function.comp]
  by_cases h : x.n = n
  · simp [h]
  · simp [h]
theorem setQ_self {c : Ob} (hk : KidsOk c) {k : Kid} (h : k ∈ c.kids) : setQ c k.n k.quota = c := by
  have : (c.kids.map fun x => if x.n = k.n then { x with quota := k.quota } else x) = c.kids := by
    refine (List.map_congr_left fun x hx => ?_).trans (List.map_id' _)
    split
    · next e =>
      have h1 := kidOf_mem hk.asc hx
      have h2 := kidOf_mem hk.asc h
      rw [e, h2] at h1
      cases h1; rfl
    · rfl
  unfold setQ
  rw [this]
theorem find_setQ {P : Kid → Bool} {n q : Int} (hP : ∀ k : Kid, P { k with quota := q } = P k) (l : List Kid) : (l.map fun x => if x.n = n then { x with quota := q } else x).find? P = (l.find? P).map fun x => if x.n = n then { x with quota := q } else x := by
  induction l with
  | nil => rfl
  | cons x l ih =>
    have : P (if x.n = n then { x with quota := q } else x) = P x := by split; exact hP x; rfl
    rw [List.map_cons, List.find?_cons, List.find?_cons, this, ih]
    cases P x <;> rfl
theorem kidOf_setQ (c : Ob) (n q r : Int) : kidOf (setQ c n q) r = (kidOf c r).map fun k => if k.n = n then { k with quota := q } else k := find_setQ (fun _ => rfl) _
theorem move_zero {L : Tab} (hv : ValidT L) {p : List Int} {n : Int} (h : moveE L p n = 0) :
    ∃ u c k o, p = u ++ [k.n] ∧ getT L p = some o ∧ getT L u = some c ∧ k ∈ c.kids ∧ quotaT L p = k.quota ∧ 0 ≤ k.quota + n ∧ k.quota + n ≤ 1048576 ∧ usesO o ≤ k.quota + n ∧ usesO c + n ≤ quotaT L u ∧ moveT L p n = layT L u (setQ c k.n (k.quota + n)) := by
  have hm : moveT L p n = allotT L p (quotaT L p + n) := if_pos h
  unfold moveE at h
  cases ho : getT L p with
  | none => rw [ho] at h; cases h
  | some o =>
    rw [ho] at h
    dsimp only at h
    split at h; · cases h
    next h1 =>
    split at h; · cases h
    next h2 =>
    have hpe : p ≠ [] := fun e => h1 (.inr (.inr e))
    have hs := snoc_of hpe
    obtain ⟨u, hu⟩ : ∃ u, u = p.dropLast := ⟨_, rfl⟩
    obtain ⟨m, hn⟩ : ∃ n, n = lastP p := ⟨_, rfl⟩
    have ho' := ho
    rw [← hu, ← hn] at hs
    rw [hs] at ho'
    obtain ⟨c, hc, k, hk, hkn⟩ := hv.up _ _ _ ho'
    rw [← hkn] at hs ho'
    have hq : quotaT L p = k.quota := by rw [hs]; exact quotaT_kid hv hc hk ho'
    have hz : allotE L p (quotaT L p + n) = 0 := h
    unfold allotE at hz
    rw [ho] at hz
    dsimp only at hz
    split at hz; · cases hz
    next h3 =>
    rw [← hu, hc] at hz
    dsimp only at hz
    split at hz; · cases hz
    next h4 =>
    rw [← hn, ← hkn, hq, uses_setQ (hv.right _ _ hc).kids hk] at h4
    rw [hq] at h2
    refine ⟨u, c, k, o, hs, rfl, hc, hk, hq, by omega, by omega, by omega, by omega, ?_⟩
    rw [hm]
    unfold allotT
    rw [← hu, hc]
    dsimp only
    rw [if_pos h, ← hn, ← hkn, hq]
theorem move_not {L : Tab} {p : List Int} {n : Int} (h : moveE L p n ≠ 0) : moveT L p n = L := if_neg h
/-- the quotas behind a move -/
theorem quota_move {L : Tab} (hv : ValidT L) {p : List Int} {n : Int} (h : moveE L p n = 0) (r : List Int) : quotaT (moveT L p n) r = if r = p then quotaT L p + n else quotaT L r := by
  obtain ⟨u, c, k, o, hs, ho, hc, hk, hq, -, -, -, -, hm⟩ := move_zero hv h
  have hg := layT_get hv.asc u (setQ c k.n (k.quota + n))
  rw [← hm] at hg
  obtain ⟨M, hM⟩ : ∃ M, M = moveT L p n := ⟨_, rfl⟩
  rw [← hM] at hg ⊢
  clear hm hM
  rw [hs] at ho hq
  by_cases hr : r = p
  · rw [if_pos hr, hr, hs]
    have e1 : getT M (u ++ [k.n]) = some o := by rw [hg, if_neg (snoc_ne _ _), ho]
    have e2 : getT M u = some (setQ c k.n (k.quota + n)) := by rw [hg, if_pos rfl]
    have e3 : kidOf (setQ c k.n (k.quota + n)) k.n = some { k with quota := k.quota + n } := by
      rw [kidOf_setQ, kidOf_mem (hv.right _ _ hc).kids.asc hk]; simp
    have e4 : u ++ [k.n] ≠ [] := by simp
    have : quotaT M (u ++ [k.n]) = k.quota + n := by
      unfold quotaT
      simp only [e1, if_neg e4, List.dropLast_concat, e2, lastP_snoc, e3]
    rw [this, hq]
  · rw [if_neg hr]
    have e1 : (getT M r).isSome = (getT L r).isSome := by
      rw [hg]; split
      · next e => rw [e, hc]; rfl
      · rfl
    cases hgr : getT L r with
    | none =>
      rw [quotaT_none hgr]
      rw [hgr] at e1
      cases hgm : getT M r with
      | none => rw [quotaT_none hgm]
      | some y => rw [hgm] at e1; cases e1
    | some y =>
      rw [hgr] at e1
      cases hgm : getT M r with
      | none => rw [hgm] at e1; cases e1
      | some y' =>
        by_cases hre : r = []
        · subst hre
          rw [quotaT_root hgm, quotaT_root hgr]
        · unfold quotaT
          simp only [hgm, hgr, if_neg hre, hg]
          by_cases hd : r.dropLast = u
          · rw [hd, if_pos rfl, hc]
            simp only [kidOf_setQ]
            cases hko : kidOf c (lastP r) with
            | none => rfl
            | some j =>
              have hjn := (kidOf_some hko).2
              have : ¬ j.n = k.n := fun e => hr (by rw [snoc_of hre, hd, ← hjn, e, hs])
              simp only [Option.map_some, if_neg this]
          · rw [if_neg hd]
/-- a move is taken back -/
theorem move_back {L : Tab} (hv : ValidT L) {p : List Int} {n : Int} (h : moveE L p n = 0) : allotE (moveT L p n) p (quotaT L p) = 0 ∧ allotT (moveT L p n) p (quotaT L p) = L := by
  have hqm := quota_move hv h
  have hvm := valid_move hv p n
  obtain ⟨u, c, k, o, hs, ho, hc, hk, hq, -, -, -, -, hm⟩ := move_zero hv h
  have hg := layT_get hv.asc u (setQ c k.n (k.quota + n))
  rw [← hm] at hg
  have hne : p ≠ u := by rw [hs]; exact snoc_ne _ _
  have hdl : p.dropLast = u := by rw [hs]; simp
  have hlp : lastP p = k.n := by rw [hs]; exact lastP_snoc _ _
  have hpe : p ≠ [] := by rw [hs]; simp
  have h1 := uses_le_quota hv ho
  have h2 := uses_le_quota hv hc
  have hkids := (hv.right _ _ hc).kids
  have hsq : setQ (setQ c k.n (k.quota + n)) k.n k.quota = c := by rw [setQ_twice, setQ_self hkids hk]
  have hqu : quotaT (moveT L p n) u = quotaT L u := by rw [hqm]; exact if_neg (fun e => hne e.symm)
  obtain ⟨M, hM⟩ : ∃ M, M = moveT L p n := ⟨_, rfl⟩
  rw [← hM] at hg hqu hvm ⊢
  have e1 : getT M p = some o := by rw [hg, if_neg hne, ho]
  have e2 : getT M u = some (setQ c k.n (k.quota + n)) := by rw [hg, if_pos rfl]
  have hb : ¬ (p = [] ∨ inQ (quotaT L p) = false) := by
    rintro (e | e)
    · exact hpe e
    · have : inQ (quotaT L p) = true := by simp only [inQ, Bool.and_eq_true, decide_eq_true_eq]; omega
      rw [this] at e; cases e
  have hz : allotE M p (quotaT L p) = 0 := by
    unfold allotE
    rw [e1]
    dsimp only
    rw [if_neg hb, hdl, e2]
    dsimp only
    rw [hlp, hq, hsq, hqu]
    rw [hq] at h1
    exact if_neg (by omega)
  refine ⟨hz, ?_⟩
  unfold allotT
  rw [hdl, e2]
  dsimp only
  rw [if_pos hz, hlp, hq, hsq]
  refine tab_get_ext (layT_mem hvm.asc _ _).1 hv.asc fun r => ?_
  rw [layT_get hvm.asc, hg]
  by_cases e : r = u
  · rw [if_pos e, e, hc]
  · rw [if_neg e, if_neg e]
end Go.Proofs.YtefedalnafjcfaaGreatDoor

namespace Go.Proofs.YtefedalnafjcfaaGreatDoor
open Go.RowKit Go.Shelf
set_option linter.unusedVariables false
set_option maxRecDepth 100000 in
set_option maxHeartbeats 4000000 in
theorem move_any (S : Nat → Prop) (g mb : Nat) (L : Tab) (A : Option Addr) (m c : Nat) (p : List Int) (ok : Nat → Prop) (n : Int) (w : World) (hT : TabAt w S g mb L) (hv : ValidT L) (h : intsR.rel w ok [.slice A m c] p) (hp : p.length ≤ 1000000) (hn : Rd.inR .i64 n) (E : Env w) :
    Calls Tryz.prog 17 #[.pointer (some ⟨g, 0, none⟩), .slice A m c, .int .i64 n] w fun e w' => e = .returned (.int .i64 (moveE L p n)) ∧ TabAt w' (fun k => S k ∨ w.heap.size ≤ k) g mb (moveT L p n) ∧ Mod (fun k => k = mb) w w' := by
  have hget := getTab_any S g mb L A m c p ok w hT h (by omega) E
  have hgm := hT.ltm
  have hgg := hT.ltg
  have hTk := fun W (hW : Mod (fun _ => False) w W) => (hT.bound.move hW (fun _ _ => id) id id).grow (T := fun k => S k ∨ w.heap.size ≤ k) (fun k hk => .inl hk.1) (by have := hT.nmb; rintro (h | h); exact this h; omega) (by have := hT.ng; rintro (h | h); exact this h; omega)
  have hquo := fun W (hW : Mod (fun _ => False) w W) => quotaTab_any _ g mb L A m c p _ W (hT.bound.move hW (fun _ _ => id) id id) hv (Rd.mod (Rd.bound h) hW (fun _ _ => id)) hp (E.mod0 hW)
  have hall := fun W (hW : Mod (fun _ => False) w W) (q : Int) (hq : Rd.inR .i64 q) => allot_any _ g mb L A m c p _ q W (hT.bound.move hW (fun _ _ => id) id id) hv (Rd.mod (Rd.bound h) hW (fun _ _ => id)) hp hq (E.mod0 hW)
  have hfin : ∀ (W w' : World) (M : Tab), Mod (fun _ => False) w W → TabAt w' (fun k => (S k ∧ k < w.heap.size) ∨ W.heap.size ≤ k) g mb M → TabAt w' (fun k => S k ∨ w.heap.size ≤ k) g mb M := fun W w' M hW hT' => hT'.grow (fun k hk => by have := hW.size; rcases hk with hk | hk; exact .inl hk.1; exact .inr (by omega)) (by have := hT.nmb; rintro (h | h); exact this h; omega) (by have := hT.ng; rintro (h | h); exact this h; omega)
  have hnb : -9223372036854775808 ≤ n ∧ n ≤ 9223372036854775807 := inR_i64 hn
  cases hg : getT L p with
  | none =>
    have hz : moveE L p n = 30 := by unfold moveE; rw [hg]
    have hz2 : moveT L p n = L := move_not (by rw [hz]; decide)
    rw [hz, hz2]
    rw [hg] at hget
    dsimp only [Option.isSome, Option.getD] at hget
    have HX := Lib.hid (And.intro hget hTk); clear hget hTk hquo hall hfin hT hv h E hg hz hz2 hnb hn
    go_enter Tryz.func17, Tryz.ntmps17
    go_wp2_with fail
    refine HX.out.1.mono ?_
    rintro e w1 ⟨o1, A1, c1, A2, c2, A4, c4, A5, c5, A7, c7, A9, c9, rfl, rfl, hcp⟩
    have HC := Lib.hid hcp.mod; clear hcp
    go_wp2_with (refine wpList_box2 rfl rfl 39 _ _ rfl rfl [.int .i64 0, .slice none 0 0, .slice none 0 0, .int .i64 0, .slice none 0 0, .slice none 0 0, .int .i64 0, .slice none 0 0, .int .i64 0, .slice none 0 0] Tryz.infoOb3 rfl _ rfl (obC_one _ _ _ _ _ _ _ _ _ _ _ _ _) (fun _ => rfl) (fun _ => rfl) ?_)
    intro g1 w2 hg1 hb1 hm1
    have HC := Lib.hid (tr0 HC.out (hm1 fun _ => False)); clear hg1 hb1 hm1
    go_wp2_with fail
    go_ret
    exact ⟨rfl, HX.out.2 _ HC.out, HC.out.mono (fun _ h => h.elim)⟩
  | some o =>
    obtain ⟨rfl, -⟩ := ints_row h
    have hE : moveE L p n = if n < -1048576 ∨ 1048576 < n ∨ p = [] then 2 else if quotaT L p + n < 0 ∨ 1048576 < quotaT L p + n then 33 else allotE L p (quotaT L p + n) := by unfold moveE; rw [hg]
    have hM : moveT L p n = if moveE L p n = 0 then allotT L p (quotaT L p + n) else L := rfl
    have hqr := (uses_le_quota hv hg).2
    obtain ⟨qq, hqe⟩ : ∃ x, x = quotaT L p := ⟨_, rfl⟩
    obtain ⟨e0, he0⟩ : ∃ x, x = moveE L p n := ⟨_, rfl⟩
    obtain ⟨M, hMe⟩ : ∃ x, x = moveT L p n := ⟨_, rfl⟩
    rw [← he0, ← hqe] at hE
    rw [← hMe, ← he0, ← hqe] at hM
    rw [← he0, ← hMe]
    rw [← hqe] at hquo hqr
    rw [hg] at hget
    dsimp only [Option.isSome, Option.getD] at hget
    have hno : allotE L p (qq + n) ≠ 0 → allotT L p (qq + n) = L := fun h => allot_not h
    have HX := Lib.hid (And.intro hget (And.intro hTk (And.intro hquo (And.intro hall (And.intro hfin (And.intro hE (And.intro hM (And.intro hqr (And.intro hnb hno))))))))); clear hget hTk hquo hall hfin hT hv h E hg hE hM hqr hnb hn hqe he0 hMe hno
    go_enter Tryz.func17, Tryz.ntmps17
    go_wp2_with fail
    refine HX.out.1.mono ?_
    rintro e w1 ⟨o1, A1, c1, A2, c2, A4, c4, A5, c5, A7, c7, A9, c9, rfl, rfl, hcp⟩
    have HC := Lib.hid hcp.mod; clear hcp
    go_wp2_with (refine wpList_box2 rfl rfl 39 _ _ rfl rfl [.int .i64 0, .slice none 0 0, .slice none 0 0, .int .i64 0, .slice none 0 0, .slice none 0 0, .int .i64 0, .slice none 0 0, .int .i64 0, .slice none 0 0] Tryz.infoOb3 rfl _ rfl (obC_one _ _ _ _ _ _ _ _ _ _ _ _ _) (fun _ => rfl) (fun _ => rfl) ?_)
    intro g1 w2 hg1 hb1 hm1
    have HC := Lib.hid (tr0 HC.out (hm1 fun _ => False)); clear hg1 hb1 hm1
    by_cases h1 : n < -1048576
    · have d1 : decide (n < -1048576) = true := decide_eq_true h1
      have hz := HX.out.2.2.2.2.2.1
      have hz2 := HX.out.2.2.2.2.2.2.1
      rw [if_pos (.inl h1)] at hz
      rw [hz, if_neg (by decide)] at hz2
      have HZ := Lib.hid (And.intro hz hz2); clear hz hz2 h1
      go_wp2_with fail
      go_ret
      exact ⟨by rw [HZ.out.1]; first | done | rfl, by rw [HZ.out.2]; exact HX.out.2.1 _ HC.out, HC.out.mono (fun _ h => h.elim)⟩
    have d1 : decide (n < -1048576) = false := decide_eq_false h1
    by_cases h2 : 1048576 < n
    · have d2 : decide (1048576 < n) = true := decide_eq_true h2
      have hz := HX.out.2.2.2.2.2.1
      have hz2 := HX.out.2.2.2.2.2.2.1
      rw [if_pos (.inr (.inl h2))] at hz
      rw [hz, if_neg (by decide)] at hz2
      have HZ := Lib.hid (And.intro hz hz2); clear hz hz2 h1 h2
      go_wp2_with fail
      go_ret
      exact ⟨by rw [HZ.out.1]; first | done | rfl, by rw [HZ.out.2]; exact HX.out.2.1 _ HC.out, HC.out.mono (fun _ h => h.elim)⟩
    have d2 : decide (1048576 < n) = false := decide_eq_false h2
    by_cases h3 : p = []
    · have d3 : (p.length : Int) = 0 := by rw [h3]; rfl
      have hz := HX.out.2.2.2.2.2.1
      have hz2 := HX.out.2.2.2.2.2.2.1
      rw [if_pos (.inr (.inr h3))] at hz
      rw [hz, if_neg (by decide)] at hz2
      have HZ := Lib.hid (And.intro hz hz2); clear hz hz2 h1 h2 h3
      go_wp2_with fail
      go_ret
      exact ⟨by rw [HZ.out.1]; first | done | rfl, by rw [HZ.out.2]; exact HX.out.2.1 _ HC.out, HC.out.mono (fun _ h => h.elim)⟩
    have d3 : ((p.length : Int) == 0) = false := by have := List.length_pos_iff.2 h3; simp; omega
    have hz := HX.out.2.2.2.2.2.1
    rw [if_neg (by rintro (h | h | h); exact h1 h; exact h2 h; exact h3 h)] at hz
    have hqr := HX.out.2.2.2.2.2.2.2.1
    have hwr : IntKind.i64.wrap (qq + n) = qq + n := by rw [IntKind.wrap_i64]; omega
    have hqin : Rd.inR .i64 (qq + n) := inR_mk (by omega)
    have hqu := HX.out.2.2.1 w2 HC.out
    have HQ := Lib.hid (And.intro hqu (And.intro hqin hz)); clear hqu hqin hz hqr h1 h2 h3
    by_cases h4 : qq + n < 0
    · have d4 : decide (qq + n < 0) = true := decide_eq_true h4
      have hz := HQ.out.2.2
      have hz2 := HX.out.2.2.2.2.2.2.1
      rw [if_pos (.inl h4)] at hz
      rw [hz, if_neg (by decide)] at hz2
      have HZ := Lib.hid (And.intro hz hz2); clear hz hz2 h4
      go_wp2_with (go_at_call 10; refine HQ.out.1.mono ?_; rintro e w3 ⟨rfl, hm2⟩; have H2 := Lib.hid (tr0 HC.out hm2); clear hm2)
      go_ret
      exact ⟨by rw [HZ.out.1]; first | done | rfl, by rw [HZ.out.2]; exact HX.out.2.1 _ H2.out, H2.out.mono (fun _ h => h.elim)⟩
    have d4 : decide (qq + n < 0) = false := decide_eq_false h4
    by_cases h5 : 1048576 < qq + n
    · have d5 : decide (1048576 < qq + n) = true := decide_eq_true h5
      have hz := HQ.out.2.2
      have hz2 := HX.out.2.2.2.2.2.2.1
      rw [if_pos (.inr h5)] at hz
      rw [hz, if_neg (by decide)] at hz2
      have HZ := Lib.hid (And.intro hz hz2); clear hz hz2 h4 h5
      go_wp2_with (go_at_call 10; refine HQ.out.1.mono ?_; rintro e w3 ⟨rfl, hm2⟩; have H2 := Lib.hid (tr0 HC.out hm2); clear hm2)
      go_ret
      exact ⟨by rw [HZ.out.1]; first | done | rfl, by rw [HZ.out.2]; exact HX.out.2.1 _ H2.out, H2.out.mono (fun _ h => h.elim)⟩
    have d5 : decide (1048576 < qq + n) = false := decide_eq_false h5
    have hz := HQ.out.2.2
    have hz2 := HX.out.2.2.2.2.2.2.1
    rw [if_neg (by rintro (h | h); exact h4 h; exact h5 h)] at hz
    have hMA : M = allotT L p (qq + n) := by
      rw [hz2]
      split
      · rfl
      · next h => rw [HX.out.2.2.2.2.2.2.2.2.2]; rw [← hz]; exact h
    have HZ := Lib.hid (And.intro hz hMA); clear hz hz2 hMA h4 h5
    go_wp2_with (first
      | (go_at_call 10; refine HQ.out.1.mono ?_; rintro e w3 ⟨rfl, hm2⟩; have H2 := Lib.hid (tr0 HC.out hm2); clear hm2)
      | (go_at_call 35; refine (HX.out.2.2.2.1 w3 H2.out _ HQ.out.2.1).mono ?_; rintro e w4 ⟨rfl, hT3, hm3⟩; have H3 := Lib.hid (And.intro hT3 ((H2.out.mono (fun _ h => h.elim) : Mod (fun k => k = mb) w w3).trans hm3 (fun k hk => .inl hk))); clear hT3 hm3))
    go_ret
    exact ⟨by rw [HZ.out.1]; first | done | rfl, by rw [HZ.out.2]; exact HX.out.2.2.2.2.1 _ _ _ H2.out H3.out.1, H3.out.2⟩
end Go.Proofs.YtefedalnafjcfaaGreatDoor

namespace Go.Proofs.YtefedalnafjcfaaGreatDoor
open Go.RowKit Go.Shelf
set_option linter.unusedVariables false
set_option maxRecDepth 100000 in
set_option maxHeartbeats 4000000 in
theorem shift_any (S : Nat → Prop) (g mb : Nat) (L : Tab) (A : Option Addr) (m c : Nat) (p : List Int) (A2 : Option Addr) (m2 c2 : Nat) (p2 : List Int) (ok : Nat → Prop) (n : Int) (w : World) (hT : TabAt w S g mb L) (hv : ValidT L) (h : intsR.rel w ok [.slice A m c] p) (h2 : intsR.rel w ok [.slice A2 m2 c2] p2) (hp : p.length ≤ 1000000) (hp2 : p2.length ≤ 1000000) (hn : Rd.inR .i64 n) (E : Env w) :
    Calls Tryz.prog 12 #[.pointer (some ⟨g, 0, none⟩), .slice A m c, .slice A2 m2 c2, .int .i64 n] w fun e w' => e = .returned (.int .i64 (shiftE L p p2 n)) ∧ TabAt w' (fun k => S k ∨ w.heap.size ≤ k) g mb (shiftT L p p2 n) ∧ Mod (fun k => k = mb) w w' := by
  have hgm := hT.ltm
  have hgg := hT.ltg
  have hnm := hT.nmb
  have hng := hT.ng
  have hgn := hT.ne
  obtain ⟨vs, hvs, -⟩ := hT.run_len
  have hr1 := Rd.bound (ints_nomap h hvs)
  have hr2 := Rd.bound (ints_nomap h2 hvs)
  have hS : ∀ k, (S k ∨ w.heap.size ≤ k) → k ≠ mb ∧ k ≠ g := by
    rintro k (h | h)
    · exact ⟨fun e => hnm (e ▸ h), fun e => hng (e ▸ h)⟩
    · exact ⟨by omega, by omega⟩
  have hTk := fun W (hW : Mod (fun _ => False) w W) => (hT.bound.move hW (fun _ _ => id) id id).grow (T := fun k => S k ∨ w.heap.size ≤ k) (fun k hk => .inl hk.1) (fun h => (hS _ h).1 rfl) (fun h => (hS _ h).2 rfl)
  have hquo := fun W (hW : Mod (fun _ => False) w W) => quotaTab_any _ g mb L A m c p _ W (hT.bound.move hW (fun _ _ => id) id id) hv (Rd.mod hr1 hW (fun _ _ => id)) hp (E.mod0 hW)
  have hfin : ∀ (W w' : World) (M : Tab), Mod (fun k => k = mb) w W → TabAt w' (fun k => (S k ∨ w.heap.size ≤ k) ∨ W.heap.size ≤ k) g mb M → TabAt w' (fun k => S k ∨ w.heap.size ≤ k) g mb M := fun W w' M hW hT' => hT'.grow (fun k hk => by have := hW.size; rcases hk with hk | hk; exact hk; exact .inr (by omega)) (fun h => (hS _ h).1 rfl) (fun h => (hS _ h).2 rfl)
  have hnb : -9223372036854775808 ≤ n ∧ n ≤ 9223372036854775807 := inR_i64 hn
  have hE : shiftE L p p2 n = if n < 0 ∨ 1048576 < n then 2 else if moveE L p (-n) ≠ 0 then moveE L p (-n) else moveE (moveT L p (-n)) p2 n := rfl
  have hM : shiftT L p p2 n = if shiftE L p p2 n = 0 then moveT (moveT L p (-n)) p2 n else L := rfl
  have hqn : (quotaT L p) = -1 ∨ 0 ≤ quotaT L p ∧ quotaT L p ≤ 1048576 := by
    cases hg : getT L p with
    | none => exact .inl (quotaT_none hg)
    | some o => exact .inr (uses_le_quota hv hg).2
  obtain ⟨e0, he0⟩ : ∃ x, x = shiftE L p p2 n := ⟨_, rfl⟩
  obtain ⟨N, hNe⟩ : ∃ x, x = shiftT L p p2 n := ⟨_, rfl⟩
  obtain ⟨qq, hqq⟩ : ∃ x, x = quotaT L p := ⟨_, rfl⟩
  rw [← he0] at hE
  rw [← hNe, ← he0] at hM
  rw [← he0, ← hNe]
  rw [← hqq] at hquo hqn
  have hEW := fun W (hW : Mod (fun k => k = mb) w W) => E.modM hvs hW
  clear h h2 hvs vs
  have HX := Lib.hid (And.intro hTk (And.intro hquo (And.intro hfin (And.intro hE (And.intro hM (And.intro hr1 (And.intro hr2 (And.intro hqq (And.intro hS (And.intro hv (And.intro hEW (And.intro hqn hgm)))))))))))); clear hTk hquo hfin hE hM hr1 hr2 hqq hS hv E hEW hT hn he0 hNe hnm hng hgn hgg hgm hqn
  go_enter Tryz.func12, Tryz.ntmps12
  by_cases h1 : n < 0
  · have d1 : decide (n < 0) = true := decide_eq_true h1
    have hz := HX.out.2.2.2.1
    have hz2 := HX.out.2.2.2.2.1
    rw [if_pos (.inl h1)] at hz
    rw [hz, if_neg (by decide)] at hz2
    have HZ := Lib.hid (And.intro hz hz2); clear hz hz2 h1
    go_wp2_with fail
    go_ret
    exact ⟨by rw [HZ.out.1]; first | done | rfl, by rw [HZ.out.2]; exact HX.out.1 _ (.refl _ _), .refl _ _⟩
  have d1 : decide (n < 0) = false := decide_eq_false h1
  by_cases h3 : 1048576 < n
  · have d2 : decide (1048576 < n) = true := decide_eq_true h3
    have hz := HX.out.2.2.2.1
    have hz2 := HX.out.2.2.2.2.1
    rw [if_pos (.inr h3)] at hz
    rw [hz, if_neg (by decide)] at hz2
    have HZ := Lib.hid (And.intro hz hz2); clear hz hz2 h1 h3
    go_wp2_with fail
    go_ret
    exact ⟨by rw [HZ.out.1]; first | done | rfl, by rw [HZ.out.2]; exact HX.out.1 _ (.refl _ _), .refl _ _⟩
  have d2 : decide (1048576 < n) = false := decide_eq_false h3
  have hz := HX.out.2.2.2.1
  rw [if_neg (by rintro (h | h); exact h1 h; exact h3 h)] at hz
  have hwn : IntKind.i64.wrap (-n) = -n := by rw [IntKind.wrap_i64]; omega
  have hnin : Rd.inR .i64 (-n) := inR_mk (by omega)
  have hnin2 : Rd.inR .i64 n := inR_mk (by omega)
  have HN := Lib.hid (And.intro hz (And.intro hnin hnin2)); clear hz hnin hnin2 h1 h3
  go_wp2_with fail
  refine (HX.out.2.1 _ (.refl _ _)).mono ?_
  rintro e w2 ⟨rfl, hm2⟩
  have hmv := move_any (fun k => S k ∨ w.heap.size ≤ k) g mb L A m c p _ (-n) w2 (HX.out.1 _ hm2) HX.out.2.2.2.2.2.2.2.2.2.1 (Rd.mod HX.out.2.2.2.2.2.1 hm2 (fun _ _ => id)) hp HN.out.2.1 (HX.out.2.2.2.2.2.2.2.2.2.2.1 _ (hm2.mono fun _ h => h.elim))
  obtain ⟨M1, hM1⟩ : ∃ x, x = moveT L p (-n) := ⟨_, rfl⟩
  obtain ⟨e1, he1⟩ : ∃ x, x = moveE L p (-n) := ⟨_, rfl⟩
  rw [← hM1, ← he1] at hmv
  have hz := HN.out.1
  rw [← hM1, ← he1] at hz
  have H2 := Lib.hid (And.intro hm2 (And.intro hmv (And.intro hM1 (And.intro he1 hz)))); clear hm2 hmv hM1 he1 hz
  go_wp2_with fail
  refine H2.out.2.1.mono ?_
  rintro e w3 ⟨rfl, hT3, hm3⟩
  have hm03 := (H2.out.1.mono (fun _ h => h.elim) : Mod (fun k => k = mb) w w2).trans hm3 (fun k hk => .inl hk)
  have hT3 := HX.out.2.2.1 w2 w3 _ (H2.out.1.mono fun _ h => h.elim) hT3
  have H3 := Lib.hid (And.intro hT3 hm03); clear hT3 hm03 hm3
  by_cases h4 : e1 = 0
  case neg =>
    have d4 : (e1 != 0) = true := by simpa using h4
    have hz := H2.out.2.2.2.2
    have hz2 := HX.out.2.2.2.2.1
    rw [if_pos h4] at hz
    rw [hz, if_neg h4] at hz2
    have hML : M1 = L := by rw [H2.out.2.2.1]; exact move_not (by rw [← H2.out.2.2.2.1]; exact h4)
    have HZ := Lib.hid (And.intro hz (And.intro hz2 hML)); clear hz hz2 h4 hML
    go_wp2_with fail
    go_ret
    exact ⟨by rw [HZ.out.1]; first | done | rfl, by rw [HZ.out.2.1, ← HZ.out.2.2]; exact H3.out.1, H3.out.2⟩
  case pos =>
    subst h4
    have hz := H2.out.2.2.2.2
    rw [if_neg (by simp)] at hz
    have hv1 := valid_move HX.out.2.2.2.2.2.2.2.2.2.1 p (-n)
    rw [← H2.out.2.2.1] at hv1
    have hmv := move_any (fun k => S k ∨ w.heap.size ≤ k) g mb M1 A2 m2 c2 p2 _ n w3 H3.out.1 hv1 (Rd.mod HX.out.2.2.2.2.2.2.1 H3.out.2 (fun k hk => hk.1.2)) hp2 HN.out.2.2 (HX.out.2.2.2.2.2.2.2.2.2.2.1 _ H3.out.2)
    obtain ⟨M2, hM2⟩ : ∃ x, x = moveT M1 p2 n := ⟨_, rfl⟩
    obtain ⟨e2, he2⟩ : ∃ x, x = moveE M1 p2 n := ⟨_, rfl⟩
    rw [← hM2, ← he2] at hmv
    rw [← he2] at hz
    have hz2 := HX.out.2.2.2.2.1
    rw [← H2.out.2.2.1, ← hM2] at hz2
    have H4 := Lib.hid (And.intro hmv (And.intro hz (And.intro hz2 (And.intro hM2 (And.intro he2 hv1))))); clear hmv hz hz2 hM2 he2 hv1
    go_wp2_with fail
    refine H4.out.1.mono ?_
    rintro e w4 ⟨rfl, hT4, hm4⟩
    have hT4 := HX.out.2.2.1 w3 w4 _ H3.out.2 hT4
    have hm04 := H3.out.2.trans hm4 (fun k hk => .inl hk)
    have H5 := Lib.hid (And.intro hT4 hm04); clear hT4 hm04 hm4
    by_cases h5 : e2 = 0
    case pos =>
      subst h5
      have hz2 := H4.out.2.2.1
      rw [H4.out.2.1, if_pos rfl] at hz2
      have HZ := Lib.hid hz2; clear hz2
      go_wp2_with fail
      go_ret
      exact ⟨by rw [H4.out.2.1]; first | done | rfl, by rw [HZ.out]; exact H5.out.1, H5.out.2⟩
    case neg =>
      have d5 : (e2 != 0) = true := by simpa using h5
      have hz2 := H4.out.2.2.1
      rw [H4.out.2.1, if_neg h5] at hz2
      have hM2 : M2 = M1 := by rw [H4.out.2.2.2.1]; exact move_not (by rw [← H4.out.2.2.2.2.1]; exact h5)
      have hT5 := H5.out.1
      rw [hM2] at hT5
      have hbk := move_back HX.out.2.2.2.2.2.2.2.2.2.1 (p := p) (n := -n) H2.out.2.2.2.1.symm
      rw [← H2.out.2.2.1, ← HX.out.2.2.2.2.2.2.2.1] at hbk
      have hqn := HX.out.2.2.2.2.2.2.2.2.2.2.2.1
      have hal := allot_any (fun k => S k ∨ w.heap.size ≤ k) g mb M1 A m c p _ qq w4 hT5 H4.out.2.2.2.2.2 (Rd.mod HX.out.2.2.2.2.2.1 H5.out.2 (fun k hk => hk.1.2)) hp (inR_mk (by omega)) (HX.out.2.2.2.2.2.2.2.2.2.2.1 _ H5.out.2)
      rw [hbk.2] at hal
      have HZ := Lib.hid (And.intro hz2 hal); clear hz2 h5 hM2 hT5 hbk hqn hal
      go_wp2_with fail
      refine HZ.out.2.mono ?_
      rintro e w5 ⟨rfl, hT6, hm6⟩
      have H6 := Lib.hid (And.intro (HX.out.2.2.1 w4 w5 _ H5.out.2 hT6) (H5.out.2.trans hm6 (fun k hk => .inl hk))); clear hT6 hm6
      go_wp2_with fail
      go_ret
      exact ⟨by rw [H4.out.2.1]; first | done | rfl, by rw [HZ.out.1]; exact H6.out.1, H6.out.2⟩
end Go.Proofs.YtefedalnafjcfaaGreatDoor

namespace Go.Proofs.YtefedalnafjcfaaGreatDoor
open Go.RowKit Go.Shelf
set_option linter.unusedVariables false
def belowN (L : Tab) (p : List Int) (l : List Kid) : Int := (l.map fun k => wOf L (p ++ [k.n])).sum
theorem belowN_take {L : Tab} {p : List Int} {l : List Kid} {j : Nat} {k : Kid} (h : l[j]? = some k) : belowN L p (l.take (j + 1)) = belowN L p (l.take j) + wOf L (p ++ [k.n]) := by
  unfold belowN
  rw [List.take_add_one, h]
  simp
theorem usesO_pos {o : Ob} (h : RightOb o) : 16 ≤ usesO o := by
  have : ∀ l : List Kid, (∀ k ∈ l, 0 ≤ k.quota) → 0 ≤ (l.map (·.quota)).sum := by
    intro l
    induction l with
    | nil => simp
    | cons k l ih =>
      intro hl
      have h1 := hl k (.head _)
      have h2 := ih fun x hx => hl x (.tail _ hx)
      simp only [List.map_cons, List.sum_cons]; omega
  have := this o.kids fun k hk => by have := h.kids.each k hk; omega
  unfold usesO; omega
theorem wOf_kid {L : Tab} (hv : ValidT L) {p : List Int} {o : Ob} (ho : getT L p = some o) {k : Kid} (hk : k ∈ o.kids) : rightP (p ++ [k.n]) = true ∧ ∃ y, getT L (p ++ [k.n]) = some y ∧ RightOb y ∧ wOf L (p ++ [k.n]) = usesO y ∧ 0 ≤ usesO y ∧ usesO y ≤ 1048576 := by
  obtain ⟨h1, y, h2, h3, h4, h5⟩ := hv.kid p o ho k hk
  have h6 := (hv.right p o ho).kids.each k hk
  refine ⟨hv.path _ _ h2, y, h2, hv.right _ _ h2, by unfold wOf; rw [h2], ?_, by omega⟩
  have := usesO_pos (hv.right _ _ h2); omega
set_option maxRecDepth 100000 in
set_option maxHeartbeats 4000000 in
theorem below_any (S : Nat → Prop) (g mb : Nat) (L : Tab) (A : Option Addr) (m c : Nat) (p : List Int) (ok ok2 : Nat → Prop) (cs : List Value) (o : Ob) (w : World) (hT : TabAt w S g mb L) (hv : ValidT L) (hgo : getT L p = some o) (h : intsR.rel w ok [.slice A m c] p) (ho : ObR.rel w ok2 cs o) (E : Env w) :
    Calls Tryz.prog 36 #[.pointer (some ⟨g, 0, none⟩), .slice A m c, .agg cs.toArray] w fun e w' => e = .returned (.int .i64 (belowC L p o)) ∧ Mod (fun _ => False) w w' := by
  obtain ⟨A1, c1, A2, c2, A4, c4, A5, c5, A7, c7, A9, c9, rfl, h0, h1, h2, h3, h4, h5, h6, h7, h8, h9⟩ := ObR_cells (Rd.bound ho)
  clear ho
  have hp6 := (rightP_iff.1 (hv.path _ _ hgo)).1
  have hch := fun W (hW : Mod (fun _ => False) w W) (k : Int) (hkr : Rd.inR .i64 k) => child_p A m c p k _ W (Rd.mod (Rd.bound h) hW (fun _ _ => id)) hkr (by omega)
  have hgt := fun W (hW : Mod (fun _ => False) w W) (A' : Option Addr) (m' c' : Nat) (q : List Int) (ok' : Nat → Prop) (hr : intsR.rel W ok' [.slice A' m' c'] q) (hq : q.length ≤ 1100000) => getTab_any _ g mb L A' m' c' q ok' W (hT.bound.move hW (fun _ _ => id) id id) hr hq (E.mod0 hW)
  have hkid := fun k hk => wOf_kid hv hgo (k := k) hk
  have hko := (hv.right _ _ hgo).kids
  have hlen := hko.len
  have hrow := (slice_row h2).2.2.2.2.2
  obtain ⟨z, hz⟩ : ∃ z, z = belowC L p o := ⟨_, rfl⟩
  rw [← hz]
  have HX := Lib.hid (And.intro hz (And.intro hch (And.intro hgt (And.intro hkid (And.intro hko (And.intro hrow hp6)))))); clear hz hch hgt hkid hko hrow hp6 hT hv hgo h E h0 h1 h2 h3 h4 h5 h6 h7 h8 h9
  go_enter Tryz.func36, Tryz.ntmps36
  go_wp2_with (refine wpList_box_new rfl 39 _ rfl [.int .i64 o.kind, .slice A1 o.label.length c1, .slice A2 o.kids.length c2, .int .i64 o.next, .slice A4 o.bytes.length c4, .slice A5 o.own.length c5, .int .i64 o.cats, .slice A7 o.entry.length c7, .int .i64 o.ring, .slice A9 o.maps.length c9] rfl ?_)
  intro gb w2 hgb hgbb hm
  have x2 : w2.cell? ⟨gb, 2, none⟩ = some (.slice A2 o.kids.length c2) := by rw [cell_of_blk hgbb]; rfl
  have HM := Lib.hid (hm fun _ => False); clear hm hgbb hgb
  go_wp2_with fail
  go_loopg [7, 17] o.kids.length (fun f s7 s17 wx => ∃ (j : Nat) (u : Int), s17 = .int .i64 j ∧ s7 = .int .i64 u ∧ j + f = o.kids.length ∧ (0 ≤ u ∧ u ≤ 1048576 * j) ∧ Hid (u = belowN L p (o.kids.take j) ∧ Mod (fun _ => False) w wx))
  case atStart => exact ⟨0, 0, rfl, rfl, by omega, by omega, Lib.hid ⟨by simp [belowN], HM.out⟩⟩
  case round =>
    obtain ⟨j, u, rfl, rfl, hj, hu, HI⟩ := hrel
    by_cases hjl : j < o.kids.length
    · obtain ⟨x, hx⟩ : ∃ x, o.kids[j]? = some x := ⟨_, List.getElem?_eq_getElem hjl⟩
      have hxm := List.mem_of_getElem? hx
      obtain ⟨ad, csx, rfl, hokb, hr, hc⟩ := Rd.RowOf.at_ HX.out.2.2.2.2.2.1 hx
      obtain rfl := KidR_cells hr
      have hcell : ∀ j2 u2, [Value.int .i64 x.n, .int .i64 x.kind, .int .i64 x.quota][j2]? = some u2 → wr.cell? ((ad.add (j * 3)).add j2) = some u2 := fun j2 u2 hj2 => by
        rw [add_add]
        exact cell_step (hc j2 u2 hj2) (fun _ => by rw [add_block]; exact HI.out.2.block _ hokb.2 id)
      obtain ⟨k1, y, k2, k3, k4, k5⟩ := HX.out.2.2.2.1 x hxm
      have hxr := HX.out.2.2.2.2.1.each x hxm
      have hnx := HX.out.2.2.2.2.1.next
      have hch := HX.out.2.1
      obtain ⟨px, hpx⟩ : ∃ px, px = p ++ [x.n] := ⟨_, rfl⟩
      have hpl : px.length ≤ 7 := by rw [hpx]; have := HX.out.2.2.2.2.2.2; simp; omega
      have hcp := childP_right k1
      have hst := belowN_take (L := L) (p := p) hx
      rw [k4] at hst
      obtain ⟨uy, huy⟩ : ∃ v, v = usesO y := ⟨_, rfl⟩
      have HK := Lib.hid (And.intro hcell (And.intro k1 (And.intro k2 (And.intro k3 (And.intro hpx (And.intro hcp (And.intro hst (And.intro huy (inR_mk (x := x.n) (by omega))))))))))
      rw [← huy] at k5
      clear hcell hc hr hokb hx hxm k1 k2 k3 k4 hcp hst hpx huy hxr hnx hch
      go_wp2_with (refine wpList_copy_var (n := 3) rfl rfl rfl 43 _ _ _ rfl rfl rfl Tryz.underlying43 [.int .i64 0, .int .i64 0, .int .i64 0] Tryz.info_kd2 rfl (ad.add (j * 3)) rfl [.int .i64 x.n, .int .i64 x.kind, .int .i64 x.quota] rfl (kidC_one _ _ _) HK.out.1 (fun _ _ => rfl) (fun _ _ => rfl) ?_)
      intro g2 w3 hg2 hgb2 hm2
      have k0 : w3.cell? ⟨g2, 0, none⟩ = some (.int .i64 x.n) := by rw [cell_of_blk hgb2]; rfl
      have HM3 := Lib.hid (tr0 HI.out.2 (hm2 fun _ => False)); clear hm2 hgb2 hg2
      have hchx := HX.out.2.1 w3 HM3.out x.n HK.out.2.2.2.2.2.2.2.2
      rw [HK.out.2.2.2.2.2.1, HK.out.2.1, ← HK.out.2.2.2.2.1] at hchx
      have HCH := Lib.hid hchx; clear hchx
      go_wp2_with fail
      refine HCH.out.mono ?_
      rintro e w4 ⟨A', c', rfl, hO, hm4⟩
      have H4 := Lib.hid (And.intro hO (tr0 HM3.out hm4)); clear hO hm4
      have hg3 := HX.out.2.2.1 w4 H4.out.2 A' px.length c' px _ (H4.out.1.reads (bytes := 8) (by omega)) (by omega)
      rw [show getT L px = some y by rw [HK.out.2.2.2.2.1]; exact HK.out.2.2.1] at hg3
      dsimp only [Option.isSome, Option.getD] at hg3
      have HG3 := Lib.hid hg3; clear hg3
      go_wp2_with fail
      refine HG3.out.mono ?_
      rintro e w5 ⟨o2, A1', c1', A2', c2', A4', c4', A5', c5', A7', c7', A9', c9', rfl, rfl, hcp⟩
      have HC5 := Lib.hid hcp; clear hcp
      go_wp2_with (refine wpList_box2 rfl rfl 39 _ _ rfl rfl [.int .i64 0, .slice none 0 0, .slice none 0 0, .int .i64 0, .slice none 0 0, .slice none 0 0, .int .i64 0, .slice none 0 0, .int .i64 0, .slice none 0 0] Tryz.infoOb3 rfl _ rfl (obC_one _ _ _ _ _ _ _ _ _ _ _ _ _) (fun _ => rfl) (fun _ => rfl) ?_)
      intro g5 w6 hg5 hb5 hm5
      have hob := Rd.mod (HC5.out.reads (by have := HK.out.2.2.2.1.kids.len; omega)) (hm5 fun _ => False) (fun _ _ => id)
      have hus := uses_m _ o2 _ w6 hob HK.out.2.2.2.1.kids
      rw [← HK.out.2.2.2.2.2.2.2.1] at hus
      have y0 : w6.cell? ⟨g5, 0, none⟩ = some (.int .i64 o2.kind) := by rw [cell_of_blk hb5]; rfl
      have y1 : w6.cell? ⟨g5, 1, none⟩ = some (.slice A1' o2.label.length c1') := by rw [cell_of_blk hb5]; rfl
      have y2 : w6.cell? ⟨g5, 2, none⟩ = some (.slice A2' o2.kids.length c2') := by rw [cell_of_blk hb5]; rfl
      have y3 : w6.cell? ⟨g5, 3, none⟩ = some (.int .i64 o2.next) := by rw [cell_of_blk hb5]; rfl
      have y4 : w6.cell? ⟨g5, 4, none⟩ = some (.slice A4' o2.bytes.length c4') := by rw [cell_of_blk hb5]; rfl
      have y5 : w6.cell? ⟨g5, 5, none⟩ = some (.slice A5' o2.own.length c5') := by rw [cell_of_blk hb5]; rfl
      have y6 : w6.cell? ⟨g5, 6, none⟩ = some (.int .i64 o2.cats) := by rw [cell_of_blk hb5]; rfl
      have y7 : w6.cell? ⟨g5, 7, none⟩ = some (.slice A7' o2.entry.length c7') := by rw [cell_of_blk hb5]; rfl
      have y8 : w6.cell? ⟨g5, 8, none⟩ = some (.int .i64 o2.ring) := by rw [cell_of_blk hb5]; rfl
      have y9 : w6.cell? ⟨g5, 9, none⟩ = some (.slice A9' o2.maps.length c9') := by rw [cell_of_blk hb5]; rfl
      have HU := Lib.hid (And.intro hus (tr0 H4.out.2 (tr0 HC5.out.mod (hm5 fun _ => False)))); clear hus hob hg5 hb5 hm5
      have hwr : IntKind.i64.wrap (u + uy) = u + uy := by rw [IntKind.wrap_i64]; omega
      go_wp2_with (go_at_call 13; refine HU.out.1.mono ?_; rintro e w7 ⟨rfl, hm7⟩; have H7 := Lib.hid hm7; clear hm7)
      go_roundg (gk - 1)
      case measure => omega
      case rel => exact ⟨j + 1, u + uy, by go_num, rfl, by omega, by omega, Lib.hid ⟨by rw [HK.out.2.2.2.2.2.2.1, ← HI.out.1, HK.out.2.2.2.2.2.2.2.1], tr0 HU.out.2 H7.out⟩⟩
    · obtain rfl : j = o.kids.length := by omega
      have hzz : z = u := by
        rw [HX.out.1, HI.out.1, List.take_length]; rfl
      subst hzz
      go_wp2_with fail
      go_ret
      exact ⟨rfl, HI.out.2⟩
end Go.Proofs.YtefedalnafjcfaaGreatDoor

