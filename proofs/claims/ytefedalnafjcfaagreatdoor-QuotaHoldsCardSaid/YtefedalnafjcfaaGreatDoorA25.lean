/- Part of this claim's proof (texts Tab19, QuoS, joined by program). -/
import Derived.Test.YtefedalnafjcfaaGreatDoorA24
import Derived.Test.YtefedalnafjcfaaGreatDoorA13
import Derived.Test.YtefedalnafjcfaaGreatDoorA14
namespace Go.Proofs.YtefedalnafjcfaaGreatDoor
open Go.RowKit Go.Shelf
set_option linter.unusedVariables false
theorem setQ_set {l : List Kid} {i : Nat} {k : Kid} (ha : (l.map (·.n)).Pairwise (· < ·)) (hk : l[i]? = some k) (q : Int) : l.map (fun x => if x.n = k.n then { x with quota := q } else x) = l.set i { k with quota := q } := by
  apply List.ext_getElem?
  intro j
  rw [List.getElem?_map, List.getElem?_set]
  by_cases hij : i = j
  · subst hij
    rw [hk]
    have := (List.getElem?_eq_some_iff.1 hk).1
    simp [this]
  · rw [if_neg hij]
    cases hj : l[j]? with
    | none => rfl
    | some y =>
      have hne : y.n ≠ k.n := by
        intro e
        have h1 : (l.map (·.n))[i]? = some k.n := by rw [List.getElem?_map, hk]; rfl
        have h2 : (l.map (·.n))[j]? = some y.n := by rw [List.getElem?_map, hj]; rfl
        obtain ⟨l1, e1⟩ := List.getElem?_eq_some_iff.1 h1
        obtain ⟨l2, e2⟩ := List.getElem?_eq_some_iff.1 h2
        rw [List.pairwise_iff_getElem] at ha
        rcases Nat.lt_or_ge i j with hlt | hge
        · have := ha i j l1 l2 hlt; omega
        · have := ha j i l2 l1 (by omega); omega
      simp [hne]
/-- one kid of a row of the call's own gets another quota -/
theorem ownKd_put {w : World} {base gk i : Nat} {e : TypeId} {S : Nat → Prop} {v : Value} {l : List Kid} {k : Kid} {q : Int} (h : OwnR KidR e w base S v l) (hb : v.ownBlock = some gk) (hi : l[i]? = some k) (hq : Rd.inR .i64 q) :
    OwnR KidR e (w.setCell ⟨gk, i * 3 + 2, none⟩ (.int .i64 q)) base S v (l.set i { k with quota := q }) ∧ w.cell? ⟨gk, i * 3 + 2, none⟩ = some (.int .i64 k.quota) ∧ (∃ cur, w.heap[gk]? = some (.cells cur e (0, 0))) := by
  obtain ⟨cells, h1, h2⟩ := h
  have sz : KidR.sz = 3 := rfl
  rw [sz] at h1
  have hck := World.ownsRow.cells h1 hb
  have hilt := (List.getElem?_eq_some_iff.1 hi).1
  have three : ∀ j y, l[j]? = some y → ∀ t, t < 3 → cells[j * 3 + t]? = [Value.int .i64 y.n, .int .i64 y.kind, .int .i64 y.quota][t]? := by
    intro j y hj t ht
    have h3 := KidR_cells (h2 j y hj)
    rw [sz] at h3
    have h4 := congrArg (fun l : List Value => l[t]?) h3
    simp only [List.getElem?_take_of_lt ht, List.getElem?_drop] at h4
    exact h4
  have hc : cells[i * 3 + 2]? = some (.int .i64 k.quota) := three i k hi 2 (by omega)
  refine ⟨⟨cells.set (i * 3 + 2) (.int .i64 q), by rw [List.length_set]; exact ownsRow_put h1 hb _ _, fun j y hj => ?_⟩, by have := hck _ _ hc; rwa [agg_at] at this, ?_⟩
  · rw [sz]
    have hlt := (List.getElem?_eq_some_iff.1 hc).1
    by_cases hij : i = j
    · subst hij
      rw [List.getElem?_set_self hilt] at hj
      cases hj
      have e1 : ((cells.set (i * 3 + 2) (.int .i64 q)).drop (i * 3)).take 3 = [Value.int .i64 k.n, .int .i64 k.kind, .int .i64 q] := by
        apply List.ext_getElem?
        intro t
        by_cases h3t : t < 3
        · rw [List.getElem?_take_of_lt h3t, List.getElem?_drop]
          by_cases h2t : t = 2
          · subst h2t; rw [List.getElem?_set_self hlt]; rfl
          · rw [List.getElem?_set_ne (by omega), three i k hi t h3t]
            obtain rfl | rfl : t = 0 ∨ t = 1 := by omega
            · rfl
            · rfl
        · rw [List.getElem?_eq_none (by simp; omega), List.getElem?_eq_none (by simp; omega)]
      rw [e1]
      obtain ⟨c0, c1, c2, -, k0, k1, k2⟩ := KidR_iff.1 (h2 i k hi)
      exact KidR_iff.2 ⟨[_], [_], [_], rfl, ⟨rfl, k0.2⟩, ⟨rfl, k1.2⟩, ⟨rfl, hq⟩⟩
    · rw [List.getElem?_set_ne hij] at hj
      have e1 : ((cells.set (i * 3 + 2) (.int .i64 q)).drop (j * 3)).take 3 = (cells.drop (j * 3)).take 3 := by
        apply List.ext_getElem?
        intro t
        by_cases ht : t < 3
        · rw [List.getElem?_take_of_lt ht, List.getElem?_take_of_lt ht, List.getElem?_drop, List.getElem?_drop, List.getElem?_set_ne (by omega)]
        · rw [List.getElem?_eq_none (by simp; omega), List.getElem?_eq_none (by simp; omega)]
      rw [e1]
      have := h2 j y hj
      rw [sz] at this
      exact KidR_free this
  · rcases h1.2 with ⟨rfl, -⟩ | ⟨g, cap, cur, rfl, hg, hh, -⟩
    · simp [Value.ownBlock] at hb
    · simp only [Value.ownBlock, Option.some.injEq] at hb
      subst hb
      exact ⟨_, hh⟩
theorem setQ_len (o : Ob) (n q : Int) : (setQ o n q).kids.length = o.kids.length := by simp [setQ]
theorem Copied.setq {w w' : World} {ok : Nat → Prop} {o : Ob} {A1 : Option Addr} {c1 : Nat} {A2 : Option Addr} {c2 : Nat} {A4 : Option Addr} {c4 : Nat} {A5 : Option Addr} {c5 : Nat} {A7 : Option Addr} {c7 : Nat} {A9 : Option Addr} {c9 : Nat} (h : Copied w w' ok o A1 c1 A2 c2 A4 c4 A5 c5 A7 c7 A9 c9) {i : Nat} {k : Kid} {q : Int} (hi : o.kids[i]? = some k) (ha : (o.kids.map (·.n)).Pairwise (· < ·)) (hq : Rd.inR .i64 q) :
    ∃ gk, A2 = some ⟨gk, 0, none⟩ ∧ w.heap.size ≤ gk ∧ gk < w'.heap.size ∧ w'.cell? ⟨gk, i * 3 + 2, none⟩ = some (.int .i64 k.quota) ∧ w'.frozen? ⟨gk, i * 3 + 2, none⟩ = false ∧
      Copied w (w'.setCell ⟨gk, i * 3 + 2, none⟩ (.int .i64 q)) ok (setQ o k.n q) A1 c1 A2 c2 A4 c4 A5 c5 A7 c7 A9 c9 := by
  have hlen := (List.getElem?_eq_some_iff.1 hi).1
  obtain ⟨gk, hA⟩ : ∃ gk, A2 = some ⟨gk, 0, none⟩ := by
    obtain ⟨cells, ⟨h0, h1⟩, h2⟩ := h.kid
    rcases h1 with ⟨hv, hn⟩ | ⟨gk, cap, cur, hv, -⟩
    · omega
    · simp only [Value.slice.injEq] at hv
      exact ⟨gk, hv.1⟩
  have hob : (Value.slice A2 o.kids.length c2).ownBlock = some gk := by rw [hA]; rfl
  obtain ⟨h1, h2, cur, h3⟩ := ownKd_put h.kid hob hi hq
  have hlt : w.heap.size ≤ gk ∧ gk < w'.heap.size := by obtain ⟨_, z, _⟩ := h.kid; exact own_lt z gk hob
  have mx : Mod (fun k => k = gk) w' (w'.setCell ⟨gk, i * 3 + 2, none⟩ (.int .i64 q)) := (Mod.refl (fun k => k = gk) w').setCell (a := ⟨gk, i * 3 + 2, none⟩) (.inl rfl) _
  have hd : ∀ b, some b ≠ (Value.slice A2 o.kids.length c2).ownBlock → ¬ b = gk := fun b hb e => hb (by rw [hob, e])
  refine ⟨gk, hA, hlt.1, hlt.2, h2, free_of_blk h3 _, ?_⟩
  have hks : (setQ o k.n q).kids = o.kids.set i { k with quota := q } := setQ_set ha hi q
  have e := setQ_len o k.n q
  have hv : Value.slice A2 (setQ o k.n q).kids.length c2 = Value.slice A2 o.kids.length c2 := by rw [e]
  refine ⟨?_, ?_, ?_, ?_, ?_, ?_, h.mod.trans mx (fun b hb => .inr (by omega)), h.ints⟩
  · rw [hv]; exact Rd.mod h.lab mx (fun b hb => hd b hb.2)
  · rw [hv, hks]; exact h1
  · rw [hv]; exact Rd.mod h.byt mx (fun b hb => hd b hb.2)
  · rw [hv]; exact Rd.mod h.own mx (fun b hb => hd b hb.2)
  · rw [hv]; exact Rd.mod h.ent mx (fun b hb => hd b hb.2)
  · rw [hv]; exact Rd.mod h.maps mx (fun b hb => hd b hb.2)
theorem Copied.later {w w' w2 : World} {ok : Nat → Prop} {o : Ob} {A1 : Option Addr} {c1 : Nat} {A2 : Option Addr} {c2 : Nat} {A4 : Option Addr} {c4 : Nat} {A5 : Option Addr} {c5 : Nat} {A7 : Option Addr} {c7 : Nat} {A9 : Option Addr} {c9 : Nat} (h : Copied w w' ok o A1 c1 A2 c2 A4 c4 A5 c5 A7 c7 A9 c9) (hm : Mod (fun _ => False) w' w2) : Copied w w2 ok o A1 c1 A2 c2 A4 c4 A5 c5 A7 c7 A9 c9 :=
  ⟨Rd.mod h.lab hm (fun _ _ => id), h.kid.mod hm (fun _ _ => id) (fun _ _ _ => id), Rd.mod h.byt hm (fun _ _ => id), Rd.mod h.own hm (fun _ _ => id), Rd.mod h.ent hm (fun _ _ => id), Rd.mod h.maps hm (fun _ _ => id), tr0 h.mod hm, h.ints⟩
theorem kidsOk_setQ {c : Ob} (h : KidsOk c) {n q : Int} (hq : 0 ≤ q ∧ q ≤ 1048576) : KidsOk (setQ c n q) := by
  refine ⟨by rw [setQ_len]; exact h.len, ?_, by rw [setQ_ns]; exact h.asc, h.next⟩
  intro k hk
  obtain ⟨k0, hk0, rfl⟩ := setQ_mem.1 hk
  have := h.each k0 hk0
  split
  · exact ⟨this.1, this.2.1, this.2.2.1, this.2.2.2.1, hq.1, hq.2⟩
  · exact this
theorem allot_not {L : Tab} {p : List Int} {q : Int} (h : allotE L p q ≠ 0) : allotT L p q = L := by
  unfold allotT
  split
  · rfl
  · rw [if_neg h]
theorem ints_nomap {w : World} {ok : Nat → Prop} {A : Option Addr} {m c mb : Nat} {p : List Int} {vs : List (List UInt8 × Value)} (h : intsR.rel w ok [.slice A m c] p) (hm : MapAt w mb vs) : intsR.rel w (fun k => ok k ∧ k ≠ mb) [.slice A m c] p := by
  obtain ⟨A', c', h1, h2, h3, h4, h5, h6⟩ := h
  refine ⟨A', c', h1, h2, h3, h4, h5, ?_⟩
  rcases h6 with h6 | ⟨ad, q1, q2, q3⟩
  · exact .inl h6
  · by_cases hp : p = []
    · exact .inl hp
    · refine .inr ⟨ad, q1, ⟨q2, fun e => ?_⟩, fun j x hj => ?_⟩
      · obtain ⟨x, l, rfl⟩ := List.exists_cons_of_ne_nil hp
        obtain ⟨cs, ⟨rfl, -⟩, hc⟩ := q3 0 x rfl
        have := hc 0 _ rfl
        obtain ⟨es, cl, hb, -⟩ := hm
        have hb2 : (ad.add (0 * (Rd.int .i64).sz + 0)).block = mb := by rw [add_block]; exact e
        simp only [World.cell?, hb2, hb] at this
        cases this
      · obtain ⟨cs, hr, hc⟩ := q3 j x hj
        exact ⟨cs, hr, hc⟩
theorem Env.modM {w w' : World} {mb : Nat} {vs : List (List UInt8 × Value)} (h : Env w) (hM : MapAt w mb vs) (hm : Mod (fun k => k = mb) w w') : Env w' := by
  obtain ⟨a, ⟨t, p, b⟩, ⟨t2, p2, c⟩⟩ := h
  obtain ⟨es, cl, hb, -⟩ := hM
  have k : ∀ (n : String) (g : Nat) (cs : Array Value), Tryz.prog.globalNamed n = some g → w.var? Tryz.prog n = some cs → ¬ g = mb := by
    intro n g cs hg hv e
    unfold World.var? at hv
    rw [hg, e] at hv
    simp [hb] at hv
  exact ⟨var_mod g1 a hm (k _ _ _ g1 a), ⟨t, p, var_mod g2 b hm (k _ _ _ g2 b)⟩, ⟨t2, p2, var_mod g3 c hm (k _ _ _ g3 c)⟩⟩
theorem inQ_iff {q : Int} : inQ q = true ↔ 0 ≤ q ∧ q ≤ 1048576 := by simp [inQ]
theorem own_ge {α : Type} {R : Rd α} {e : TypeId} {w : World} {base gk : Nat} {S : Nat → Prop} {v : Value} {xs : List α} (h : OwnR R e w base S v xs) (hb : v.ownBlock = some gk) : base ≤ gk ∧ gk < w.heap.size := by
  obtain ⟨_, z, _⟩ := h; exact own_lt z gk hb
set_option maxRecDepth 100000 in
set_option maxHeartbeats 4000000 in
theorem allot_any (S : Nat → Prop) (g mb : Nat) (L : Tab) (A : Option Addr) (m c : Nat) (p : List Int) (ok : Nat → Prop) (q : Int) (w : World) (hT : TabAt w S g mb L) (hv : ValidT L) (h : intsR.rel w ok [.slice A m c] p) (hp : p.length ≤ 1000000) (hq : Rd.inR .i64 q) (E : Env w) :
    Calls Tryz.prog 35 #[.pointer (some ⟨g, 0, none⟩), .slice A m c, .int .i64 q] w fun e w' => e = .returned (.int .i64 (allotE L p q)) ∧ TabAt w' (fun k => S k ∨ w.heap.size ≤ k) g mb (allotT L p q) ∧ Mod (fun k => k = mb) w w' := by
  have hget := getTab_any S g mb L A m c p ok w hT h (by omega) E
  have hTk := fun W (hW : Mod (fun _ => False) w W) => (hT.bound.move hW (fun _ _ => id) id id).grow (T := fun k => S k ∨ w.heap.size ≤ k) (fun k hk => .inl hk.1) (by have := hT.ltm; have := hT.nmb; rintro (h | h); exact this h; omega) (by have := hT.ltg; have := hT.ng; rintro (h | h); exact this h; omega)
  have hpar := fun W (hW : Mod (fun _ => False) w W) => parent_all A m c p _ W (Rd.mod (Rd.bound h) hW (fun _ _ => id)) hp
  have hEW := fun W (hW : Mod (fun _ => False) w W) => E.mod0 hW
  cases hg : getT L p with
  | none =>
    have hz : allotE L p q = 30 := by unfold allotE; rw [hg]
    have hz2 : allotT L p q = L := by
      unfold allotT
      split
      · rfl
      · rw [hz]; rfl
    rw [hz, hz2]
    rw [hg] at hget
    dsimp only [Option.isSome, Option.getD] at hget
    have HX := Lib.hid (And.intro hget (And.intro hTk hpar)); clear hget hTk hpar hEW hT hv h E hg hz hz2 hq
    go_enter Tryz.func35, Tryz.ntmps35
    go_wp2_with fail
    refine HX.out.1.mono ?_
    rintro e w1 ⟨o1, A1, c1, A2, c2, A4, c4, A5, c5, A7, c7, A9, c9, rfl, rfl, hcp⟩
    have HC := Lib.hid hcp.mod; clear hcp
    go_wp2_with (refine wpList_box2 rfl rfl 39 _ _ rfl rfl [.int .i64 0, .slice none 0 0, .slice none 0 0, .int .i64 0, .slice none 0 0, .slice none 0 0, .int .i64 0, .slice none 0 0, .int .i64 0, .slice none 0 0] Tryz.infoOb3 rfl _ rfl (obC_one _ _ _ _ _ _ _ _ _ _ _ _ _) (fun _ => rfl) (fun _ => rfl) ?_)
    intro g1 w2 hg1 hb1 hm1
    have HM := Lib.hid (tr0 HC.out (hm1 fun _ => False)); clear hg1 hb1 hm1
    go_wp2_with (go_at_call 32; refine (HX.out.2.2 _ HM.out).mono ?_; rintro e w3 ⟨A', c', xx, rfl, hO, hxx, hm3⟩; have H3 := Lib.hid (tr0 HM.out hm3); clear hO hxx hm3)
    go_ret
    exact ⟨rfl, HX.out.2.1 _ H3.out, H3.out.mono (fun _ h => h.elim)⟩
  | some o =>
    obtain ⟨rfl, -⟩ := ints_row h
    rw [hg] at hget
    dsimp only [Option.isSome, Option.getD] at hget
    by_cases hpe : p = []
    · subst hpe
      have hz : allotE L [] q = 2 := by unfold allotE; rw [hg]; exact if_pos (.inl rfl)
      have hz2 : allotT L [] q = L := allot_not (by rw [hz]; decide)
      rw [hz, hz2]
      have HX := Lib.hid (And.intro hget hTk); clear hget hTk hpar hEW hT hv h E hg hz hz2 hq
      go_enter Tryz.func35, Tryz.ntmps35
      go_wp2_with fail
      refine HX.out.1.mono ?_
      rintro e w1 ⟨o1, A1, c1, A2, c2, A4, c4, A5, c5, A7, c7, A9, c9, rfl, rfl, hcp⟩
      have HC := Lib.hid hcp.mod; clear hcp
      go_wp2_with (refine wpList_box2 rfl rfl 39 _ _ rfl rfl [.int .i64 0, .slice none 0 0, .slice none 0 0, .int .i64 0, .slice none 0 0, .slice none 0 0, .int .i64 0, .slice none 0 0, .int .i64 0, .slice none 0 0] Tryz.infoOb3 rfl _ rfl (obC_one _ _ _ _ _ _ _ _ _ _ _ _ _) (fun _ => rfl) (fun _ => rfl) ?_)
      intro g1 w2 hg1 hb1 hm1
      have HM := Lib.hid (tr0 HC.out (hm1 fun _ => False)); clear hg1 hb1 hm1
      go_wp2_with (go_at_call 32; refine (parent_nil A c w2).mono ?_; rintro e w3 ⟨rfl, rfl⟩)
      go_ret
      exact ⟨rfl, HX.out.2 _ HM.out, HM.out.mono (fun _ h => h.elim)⟩
    · obtain ⟨u, n, rfl⟩ : ∃ u n, p = u ++ [n] := ⟨_, _, snoc_of hpe⟩
      obtain ⟨cc, hcc, k, hk, hkn⟩ := hv.up _ _ _ hg
      subst hkn
      have hro := (hv.right _ _ hcc).kids
      have hro1 := (hv.right _ _ hg).kids
      have hkr := hro.each k hk
      obtain ⟨i, hi⟩ := List.getElem?_of_mem hk
      have hlen : (u ++ [k.n]).length = u.length + 1 := by simp
      have hz : allotE L (u ++ [k.n]) q = if inQ q = false then 2 else if q < usesO o ∨ quotaT L u < usesO (setQ cc k.n q) then 33 else 0 := by
        unfold allotE
        rw [hg]
        simp only [List.dropLast_concat, lastP_snoc, hcc, hpe, false_or]
      have hz2 : allotT L (u ++ [k.n]) q = if allotE L (u ++ [k.n]) q = 0 then layT L u (setQ cc k.n q) else L := by
        unfold allotT
        simp only [List.dropLast_concat, lastP_snoc, hcc]
      obtain ⟨e0, he0⟩ : ∃ x, x = allotE L (u ++ [k.n]) q := ⟨_, rfl⟩
      obtain ⟨M, hM⟩ : ∃ x, x = allotT L (u ++ [k.n]) q := ⟨_, rfl⟩
      rw [← he0] at hz hz2
      rw [← hM] at hz2
      rw [← he0, ← hM]
      rw [hlen] at h hget hp ⊢
      clear hpar
      have hpar := fun W (hW : Mod (fun _ => False) w W) => parent_snoc A c u k.n _ W (Rd.mod (Rd.bound h) hW (fun _ _ => id)) (by omega)
      have hgt2 := fun W (hW : Mod (fun _ => False) w W) (A' : Option Addr) (c' : Nat) (ok' : Nat → Prop) (hr : intsR.rel W ok' [.slice A' u.length c'] u) => getTab_any _ g mb L A' u.length c' u ok' W (hT.bound.move hW (fun _ _ => id) id id) hr (by omega) (E.mod0 hW)
      simp only [hcc] at hgt2
      dsimp only [Option.isSome, Option.getD] at hgt2
      have hnm := hT.nmb
      have hng := hT.ng
      have hgm := hT.ltm
      have hgg := hT.ltg
      have hgn := hT.ne
      have HG := Lib.hid (And.intro hget (And.intro hpar (And.intro hgt2 (And.intro hro (And.intro hi (And.intro hkr (And.intro hro1 (And.intro hTk (And.intro hT.bound (And.intro hv (And.intro E (And.intro hz (And.intro hz2 (And.intro hnm (And.intro hng (And.intro hgm (And.intro hgg (And.intro hgn hq)))))))))))))))))); clear hget hg hT h hv hpar hgt2 hcc hk hro hi hkr hro1 hTk hEW E hz hz2 hpe he0 hM hnm hng hgm hgg hgn hq
      go_enter Tryz.func35, Tryz.ntmps35
      go_wp2_with fail
      refine HG.out.1.mono ?_
      rintro e w1 ⟨o1, A1, c1, A2, c2, A4, c4, A5, c5, A7, c7, A9, c9, rfl, rfl, hcp⟩
      have HC := Lib.hid hcp; clear hcp
      go_wp2_with (refine wpList_box2 rfl rfl 39 _ _ rfl rfl [.int .i64 0, .slice none 0 0, .slice none 0 0, .int .i64 0, .slice none 0 0, .slice none 0 0, .int .i64 0, .slice none 0 0, .int .i64 0, .slice none 0 0] Tryz.infoOb3 rfl _ rfl (obC_one _ _ _ _ _ _ _ _ _ _ _ _ _) (fun _ => rfl) (fun _ => rfl) ?_)
      intro g1 w2 hg1 hb1 hm1
      have HM := Lib.hid (And.intro (tr0 HC.out.mod (hm1 fun _ => False)) (And.intro (hm1 fun _ => False) (And.intro hb1 hg1))); clear hg1 hb1 hm1
      go_wp2_with fail
      refine (HG.out.2.1 w2 HM.out.1).mono ?_
      rintro e w3 ⟨A', c', rfl, hO, hm3⟩
      have HM3 := Lib.hid (And.intro hO (And.intro hm3 (tr0 HM.out.1 hm3))); clear hO hm3
      cases hiq : inQ q with
      | false =>
        have hz := HG.out.2.2.2.2.2.2.2.2.2.2.2.1
        have hz2 := HG.out.2.2.2.2.2.2.2.2.2.2.2.2.1
        rw [if_pos hiq] at hz
        rw [hz, if_neg (by decide)] at hz2
        have d1 : decide (0 ≤ q ∧ q ≤ 1048576) = false := decide_eq_false (fun h => by rw [inQ_iff.2 h] at hiq; cases hiq)
        have hbt := between_m q 0 1048576 w3
        rw [d1] at hbt
        have HZ := Lib.hid (And.intro hz (And.intro hz2 hbt)); clear hz hz2 hiq hbt d1
        go_wp2_with (go_at_call 38; refine HZ.out.2.2.mono ?_; rintro e w4 ⟨rfl, hm4⟩; have H4 := Lib.hid (tr0 HM3.out.2.2 hm4); clear hm4)
        go_ret
        exact ⟨by rw [HZ.out.1]; first | done | rfl, by rw [HZ.out.2.1]; exact HG.out.2.2.2.2.2.2.2.1 _ H4.out, H4.out.mono (fun _ h => h.elim)⟩
      | true =>
        have hqr := inQ_iff.1 hiq
        have hz := HG.out.2.2.2.2.2.2.2.2.2.2.2.1
        rw [if_neg (by rw [hiq]; decide)] at hz
        have hbt := between_m q 0 1048576 w3
        rw [decide_eq_true hqr] at hbt
        have HZ := Lib.hid (And.intro hz (And.intro hbt hqr)); clear hz hiq hbt hqr
        go_wp2_with (go_at_call 38; refine HZ.out.2.1.mono ?_; rintro e w4 ⟨rfl, hm4⟩; have H4 := Lib.hid hm4; clear hm4)
        refine (HG.out.2.2.1 w4 (tr0 HM3.out.2.2 H4.out) A' c' _ (Rd.mod (HM3.out.1.reads (bytes := 8) (by omega)) H4.out (fun _ _ => id))).mono ?_
        rintro e w5 ⟨o2, A1x, c1x, A2x, c2x, A4x, c4x, A5x, c5x, A7x, c7x, A9x, c9x, rfl, rfl, hcp⟩
        have HC5 := Lib.hid hcp; clear hcp
        go_wp2_with (refine wpList_box2 rfl rfl 39 _ _ rfl rfl [.int .i64 0, .slice none 0 0, .slice none 0 0, .int .i64 0, .slice none 0 0, .slice none 0 0, .int .i64 0, .slice none 0 0, .int .i64 0, .slice none 0 0] Tryz.infoOb3 rfl _ rfl (obC_one _ _ _ _ _ _ _ _ _ _ _ _ _) (fun _ => rfl) (fun _ => rfl) ?_)
        intro g6 w6 hg6 hb6 hm6
        have hobr := Rd.mod (HC5.out.reads (by have := HG.out.2.2.2.1.len; omega)) (hm6 fun _ => False) (fun _ _ => id)
        have hkd := kid_any _ o2 k.n _ w6 hobr HG.out.2.2.2.1 (by have := HG.out.2.2.2.2.2.1; have := HG.out.2.2.2.1.next; omega)
        have x0 : w6.cell? ⟨g6, 0, none⟩ = some (.int .i64 o2.kind) := by rw [cell_of_blk hb6]; rfl
        have x1 : w6.cell? ⟨g6, 1, none⟩ = some (.slice A1x o2.label.length c1x) := by rw [cell_of_blk hb6]; rfl
        have x2 : w6.cell? ⟨g6, 2, none⟩ = some (.slice A2x o2.kids.length c2x) := by rw [cell_of_blk hb6]; rfl
        have x3 : w6.cell? ⟨g6, 3, none⟩ = some (.int .i64 o2.next) := by rw [cell_of_blk hb6]; rfl
        have x4 : w6.cell? ⟨g6, 4, none⟩ = some (.slice A4x o2.bytes.length c4x) := by rw [cell_of_blk hb6]; rfl
        have x5 : w6.cell? ⟨g6, 5, none⟩ = some (.slice A5x o2.own.length c5x) := by rw [cell_of_blk hb6]; rfl
        have x6 : w6.cell? ⟨g6, 6, none⟩ = some (.int .i64 o2.cats) := by rw [cell_of_blk hb6]; rfl
        have x7 : w6.cell? ⟨g6, 7, none⟩ = some (.slice A7x o2.entry.length c7x) := by rw [cell_of_blk hb6]; rfl
        have x8 : w6.cell? ⟨g6, 8, none⟩ = some (.int .i64 o2.ring) := by rw [cell_of_blk hb6]; rfl
        have x9 : w6.cell? ⟨g6, 9, none⟩ = some (.slice A9x o2.maps.length c9x) := by rw [cell_of_blk hb6]; rfl
        have HN := Lib.hid (And.intro hkd (And.intro hb6 (And.intro (hm6 fun _ => False) hg6))); clear hkd hobr hb6 hm6 hg6
        go_wp2_with fail
        refine HN.out.1.mono ?_
        rintro e w7 ⟨⟨j, v, rfl, hj⟩, hm7⟩
        obtain rfl := hj i k HG.out.2.2.2.2.1 rfl
        have hb7 := (hm7.block g6 (lt_of_blk HN.out.2.1) id).trans HN.out.2.1
        obtain ⟨gk, hgA, hk1, hk2, hk3, hk4, hcp8⟩ := ((HC5.out.later HN.out.2.2.1).later hm7).setq HG.out.2.2.2.2.1 HG.out.2.2.2.1.asc HG.out.2.2.2.2.2.2.2.2.2.2.2.2.2.2.2.2.2.2
        have hkl := (own_ge HC5.out.kid (gk := gk) (by rw [hgA]; rfl)).2
        have z2 : w7.cell? ⟨g6, 2, none⟩ = some (.slice (some ⟨gk, 0, none⟩) o2.kids.length c2x) := by rw [cell_of_blk hb7, ← hgA]; rfl
        have hil : j < o2.kids.length := (List.getElem?_eq_some_iff.1 HG.out.2.2.2.2.1).1
        have H8 := Lib.hid (And.intro hcp8 (And.intro hb7 (And.intro hk1 (And.intro hkl hm7)))); clear hcp8 hb7 hk1 hkl hm7 hk2 hj hgA x0 x1 x2 x3 x4 x5 x6 x7 x8 x9
        go_upto_region 12 with fail
        obtain ⟨w8, hw8⟩ : ∃ x, x = w7.setCell ⟨gk, j * 3 + 2, none⟩ (.int .i64 q) := ⟨_, rfl⟩
        rw [← hw8] at H8 ⊢
        have mx : Mod (fun b => b = gk) w7 w8 := by rw [hw8]; exact (Mod.refl (fun b => b = gk) w7).setCell (a := ⟨gk, j * 3 + 2, none⟩) (.inl rfl) _
        have hgk4 := H8.out.2.2.1
        have hgk5 := H8.out.2.2.2.1
        have hg6 := HN.out.2.2.2
        have hm48 : Mod (fun _ => False) w4 w8 := (tr0 HC5.out.mod (tr0 HN.out.2.2.1 H8.out.2.2.2.2)).trans mx (fun b hb => .inr (by omega))
        have hm38 := tr0 H4.out hm48
        have hm28 := tr0 HM3.out.2.1 hm38
        have hm18 := tr0 HM.out.2.1 hm28
        have hm08 := tr0 HC.out.mod hm18
        have hb1 := (hm28.block g1 (lt_of_blk HM.out.2.2.1) id).trans HM.out.2.2.1
        have hb6 := (mx.block g6 (lt_of_blk H8.out.2.1) (by omega)).trans H8.out.2.1
        have hro1 := HG.out.2.2.2.2.2.2.1
        have hro := HG.out.2.2.2.1
        have hob1 := Rd.mod (Rd.bound (HC.out.reads (by have := hro1.len; omega))) hm18 (fun _ _ => id)
        have hus1 := uses_m _ o1 _ w8 hob1 hro1
        have hobc := H8.out.1.reads (by rw [setQ_len]; have := hro.len; omega)
        rw [setQ_len] at hobc
        have hobc : ObR.rel w8 _ [.int .i64 o2.kind, .slice A1x o2.label.length c1x, .slice A2x o2.kids.length c2x, .int .i64 o2.next, .slice A4x o2.bytes.length c4x, .slice A5x o2.own.length c5x, .int .i64 o2.cats, .slice A7x o2.entry.length c7x, .int .i64 o2.ring, .slice A9x o2.maps.length c9x] (setQ o2 k.n q) := hobc
        have hus2 := fun W (hW : Mod (fun _ => False) w8 W) => uses_m [.int .i64 o2.kind, .slice A1x o2.label.length c1x, .slice A2x o2.kids.length c2x, .int .i64 o2.next, .slice A4x o2.bytes.length c4x, .slice A5x o2.own.length c5x, .int .i64 o2.cats, .slice A7x o2.entry.length c7x, .int .i64 o2.ring, .slice A9x o2.maps.length c9x] (setQ o2 k.n q) _ W (Rd.mod hobc hW (fun _ _ => id)) (kidsOk_setQ hro HZ.out.2.2)
        have hup := HM3.out.1.reads (bytes := 8) (by omega)
        have hTb := HG.out.2.2.2.2.2.2.2.2.1
        have hqu := fun W (hW : Mod (fun _ => False) w8 W) => quotaTab_any _ g mb L A' u.length c' u _ W (hTb.move (tr0 hm08 hW) (fun _ _ => id) id id) HG.out.2.2.2.2.2.2.2.2.2.1 (Rd.mod hup (tr0 hm38 hW) (fun _ _ => id)) (by omega) (HG.out.2.2.2.2.2.2.2.2.2.2.1.mod0 (tr0 hm08 hW))
        have hz := HZ.out.1
        have hz2 := HG.out.2.2.2.2.2.2.2.2.2.2.2.2.1
        obtain ⟨us1, hs1⟩ : ∃ x, x = usesO o1 := ⟨_, rfl⟩
        obtain ⟨us2, hs2⟩ : ∃ x, x = usesO (setQ o2 k.n q) := ⟨_, rfl⟩
        obtain ⟨qu, hsq⟩ : ∃ x, x = quotaT L u := ⟨_, rfl⟩
        rw [← hs1] at hus1 hz
        rw [← hs2] at hus2 hz
        rw [← hsq] at hqu hz
        have a0 : w8.cell? ⟨g1, 0, none⟩ = some (.int .i64 o1.kind) := by rw [cell_of_blk hb1]; rfl
        have a1 : w8.cell? ⟨g1, 1, none⟩ = some (.slice A1 o1.label.length c1) := by rw [cell_of_blk hb1]; rfl
        have a2 : w8.cell? ⟨g1, 2, none⟩ = some (.slice A2 o1.kids.length c2) := by rw [cell_of_blk hb1]; rfl
        have a3 : w8.cell? ⟨g1, 3, none⟩ = some (.int .i64 o1.next) := by rw [cell_of_blk hb1]; rfl
        have a4 : w8.cell? ⟨g1, 4, none⟩ = some (.slice A4 o1.bytes.length c4) := by rw [cell_of_blk hb1]; rfl
        have a5 : w8.cell? ⟨g1, 5, none⟩ = some (.slice A5 o1.own.length c5) := by rw [cell_of_blk hb1]; rfl
        have a6 : w8.cell? ⟨g1, 6, none⟩ = some (.int .i64 o1.cats) := by rw [cell_of_blk hb1]; rfl
        have a7 : w8.cell? ⟨g1, 7, none⟩ = some (.slice A7 o1.entry.length c7) := by rw [cell_of_blk hb1]; rfl
        have a8 : w8.cell? ⟨g1, 8, none⟩ = some (.int .i64 o1.ring) := by rw [cell_of_blk hb1]; rfl
        have a9 : w8.cell? ⟨g1, 9, none⟩ = some (.slice A9 o1.maps.length c9) := by rw [cell_of_blk hb1]; rfl
        have b0 : w8.cell? ⟨g6, 0, none⟩ = some (.int .i64 o2.kind) := by rw [cell_of_blk hb6]; rfl
        have b1 : w8.cell? ⟨g6, 1, none⟩ = some (.slice A1x o2.label.length c1x) := by rw [cell_of_blk hb6]; rfl
        have b2 : w8.cell? ⟨g6, 2, none⟩ = some (.slice A2x o2.kids.length c2x) := by rw [cell_of_blk hb6]; rfl
        have b3 : w8.cell? ⟨g6, 3, none⟩ = some (.int .i64 o2.next) := by rw [cell_of_blk hb6]; rfl
        have b4 : w8.cell? ⟨g6, 4, none⟩ = some (.slice A4x o2.bytes.length c4x) := by rw [cell_of_blk hb6]; rfl
        have b5 : w8.cell? ⟨g6, 5, none⟩ = some (.slice A5x o2.own.length c5x) := by rw [cell_of_blk hb6]; rfl
        have b6 : w8.cell? ⟨g6, 6, none⟩ = some (.int .i64 o2.cats) := by rw [cell_of_blk hb6]; rfl
        have b7 : w8.cell? ⟨g6, 7, none⟩ = some (.slice A7x o2.entry.length c7x) := by rw [cell_of_blk hb6]; rfl
        have b8 : w8.cell? ⟨g6, 8, none⟩ = some (.int .i64 o2.ring) := by rw [cell_of_blk hb6]; rfl
        have b9 : w8.cell? ⟨g6, 9, none⟩ = some (.slice A9x o2.maps.length c9x) := by rw [cell_of_blk hb6]; rfl
        have H9 := Lib.hid (And.intro hus1 (And.intro hus2 (And.intro hqu (And.intro hz (And.intro hz2 (And.intro hm08 (And.intro hobc (And.intro hb6 hm38)))))))); clear hus1 hus2 hqu hz hz2 hm08 hobc hb6 hm38 hob1 hup hTb hro hro1 hb1 hm18 hm28 hm48 hg6 hgk5 mx hw8 hs1 hs2 hsq z2 hk3 hk4 hgk4
        by_cases h9 : q < us1
        case pos =>
          have hz := H9.out.2.2.2.1
          have hz2 := H9.out.2.2.2.2.1
          rw [if_pos (.inl h9)] at hz
          rw [hz, if_neg (by decide)] at hz2
          have d9 : decide (q < us1) = true := decide_eq_true h9
          have HE := Lib.hid (And.intro hz hz2); clear hz hz2 h9
          go_wp2_with (go_at_call 13; refine H9.out.1.mono ?_; rintro e w9 ⟨rfl, hm9⟩; have H10 := Lib.hid (tr0 H9.out.2.2.2.2.2.1 hm9); clear hm9)
          go_ret
          exact ⟨by rw [HE.out.1]; first | done | rfl, by rw [HE.out.2]; exact HG.out.2.2.2.2.2.2.2.1 _ H10.out, H10.out.mono (fun _ h => h.elim)⟩
        case neg =>
          have d9 : decide (q < us1) = false := decide_eq_false h9
          by_cases h10 : qu < us2
          case pos =>
            have hz := H9.out.2.2.2.1
            have hz2 := H9.out.2.2.2.2.1
            rw [if_pos (.inr h10)] at hz
            rw [hz, if_neg (by decide)] at hz2
            have d10 : decide (qu < us2) = true := decide_eq_true h10
            have HE := Lib.hid (And.intro hz hz2); clear hz hz2 h9 h10
            go_wp2_with (first
              | (go_at_call_of 13 ((#[.agg #[.int .i64 o1.kind, .slice A1 o1.label.length c1, .slice A2 o1.kids.length c2, .int .i64 o1.next, .slice A4 o1.bytes.length c4, .slice A5 o1.own.length c5, .int .i64 o1.cats, .slice A7 o1.entry.length c7, .int .i64 o1.ring, .slice A9 o1.maps.length c9]] : Array Value)); refine H9.out.1.mono ?_; rintro e w9 ⟨rfl, hm9⟩; have hb69 := (hm9.block g6 (lt_of_blk H9.out.2.2.2.2.2.2.2.1) id).trans H9.out.2.2.2.2.2.2.2.1
                 have c0 : w9.cell? ⟨g6, 0, none⟩ = some (.int .i64 o2.kind) := by rw [cell_of_blk hb69]; rfl
                 have c1 : w9.cell? ⟨g6, 1, none⟩ = some (.slice A1x o2.label.length c1x) := by rw [cell_of_blk hb69]; rfl
                 have c2 : w9.cell? ⟨g6, 2, none⟩ = some (.slice A2x o2.kids.length c2x) := by rw [cell_of_blk hb69]; rfl
                 have c3 : w9.cell? ⟨g6, 3, none⟩ = some (.int .i64 o2.next) := by rw [cell_of_blk hb69]; rfl
                 have c4 : w9.cell? ⟨g6, 4, none⟩ = some (.slice A4x o2.bytes.length c4x) := by rw [cell_of_blk hb69]; rfl
                 have c5 : w9.cell? ⟨g6, 5, none⟩ = some (.slice A5x o2.own.length c5x) := by rw [cell_of_blk hb69]; rfl
                 have c6 : w9.cell? ⟨g6, 6, none⟩ = some (.int .i64 o2.cats) := by rw [cell_of_blk hb69]; rfl
                 have c7 : w9.cell? ⟨g6, 7, none⟩ = some (.slice A7x o2.entry.length c7x) := by rw [cell_of_blk hb69]; rfl
                 have c8 : w9.cell? ⟨g6, 8, none⟩ = some (.int .i64 o2.ring) := by rw [cell_of_blk hb69]; rfl
                 have c9 : w9.cell? ⟨g6, 9, none⟩ = some (.slice A9x o2.maps.length c9x) := by rw [cell_of_blk hb69]; rfl
                 have H10 := Lib.hid hm9; clear hm9 hb69)
              | (go_at_call_of 13 ((#[.agg #[.int .i64 o2.kind, .slice A1x o2.label.length c1x, .slice A2x o2.kids.length c2x, .int .i64 o2.next, .slice A4x o2.bytes.length c4x, .slice A5x o2.own.length c5x, .int .i64 o2.cats, .slice A7x o2.entry.length c7x, .int .i64 o2.ring, .slice A9x o2.maps.length c9x]] : Array Value)); refine (H9.out.2.1 _ H10.out).mono ?_; rintro e w10 ⟨rfl, hm10⟩; have H11 := Lib.hid (tr0 H10.out hm10); clear hm10)
              | (go_at_call 10; refine (H9.out.2.2.1 _ H11.out).mono ?_; rintro e w11 ⟨rfl, hm11⟩; have H12 := Lib.hid (tr0 H9.out.2.2.2.2.2.1 (tr0 H11.out hm11)); clear hm11))
            go_ret
            exact ⟨by rw [HE.out.1]; first | done | rfl, by rw [HE.out.2]; exact HG.out.2.2.2.2.2.2.2.1 _ H12.out, H12.out.mono (fun _ h => h.elim)⟩
          case neg =>
            have hz := H9.out.2.2.2.1
            have hz2 := H9.out.2.2.2.2.1
            rw [if_neg (by rintro (h | h); exact h9 h; exact h10 h)] at hz
            rw [hz, if_pos rfl] at hz2
            have d10 : decide (qu < us2) = false := decide_eq_false h10
            have HE := Lib.hid (And.intro hz hz2); clear hz hz2 h9 h10
            go_wp2_with (first
              | (go_at_call_of 13 ((#[.agg #[.int .i64 o1.kind, .slice A1 o1.label.length c1, .slice A2 o1.kids.length c2, .int .i64 o1.next, .slice A4 o1.bytes.length c4, .slice A5 o1.own.length c5, .int .i64 o1.cats, .slice A7 o1.entry.length c7, .int .i64 o1.ring, .slice A9 o1.maps.length c9]] : Array Value)); refine H9.out.1.mono ?_; rintro e w9 ⟨rfl, hm9⟩; have hb69 := (hm9.block g6 (lt_of_blk H9.out.2.2.2.2.2.2.2.1) id).trans H9.out.2.2.2.2.2.2.2.1
                 have c0 : w9.cell? ⟨g6, 0, none⟩ = some (.int .i64 o2.kind) := by rw [cell_of_blk hb69]; rfl
                 have c1 : w9.cell? ⟨g6, 1, none⟩ = some (.slice A1x o2.label.length c1x) := by rw [cell_of_blk hb69]; rfl
                 have c2 : w9.cell? ⟨g6, 2, none⟩ = some (.slice A2x o2.kids.length c2x) := by rw [cell_of_blk hb69]; rfl
                 have c3 : w9.cell? ⟨g6, 3, none⟩ = some (.int .i64 o2.next) := by rw [cell_of_blk hb69]; rfl
                 have c4 : w9.cell? ⟨g6, 4, none⟩ = some (.slice A4x o2.bytes.length c4x) := by rw [cell_of_blk hb69]; rfl
                 have c5 : w9.cell? ⟨g6, 5, none⟩ = some (.slice A5x o2.own.length c5x) := by rw [cell_of_blk hb69]; rfl
                 have c6 : w9.cell? ⟨g6, 6, none⟩ = some (.int .i64 o2.cats) := by rw [cell_of_blk hb69]; rfl
                 have c7 : w9.cell? ⟨g6, 7, none⟩ = some (.slice A7x o2.entry.length c7x) := by rw [cell_of_blk hb69]; rfl
                 have c8 : w9.cell? ⟨g6, 8, none⟩ = some (.int .i64 o2.ring) := by rw [cell_of_blk hb69]; rfl
                 have c9 : w9.cell? ⟨g6, 9, none⟩ = some (.slice A9x o2.maps.length c9x) := by rw [cell_of_blk hb69]; rfl
                 have H10 := Lib.hid hm9; clear hm9 hb69)
              | (go_at_call_of 13 ((#[.agg #[.int .i64 o2.kind, .slice A1x o2.label.length c1x, .slice A2x o2.kids.length c2x, .int .i64 o2.next, .slice A4x o2.bytes.length c4x, .slice A5x o2.own.length c5x, .int .i64 o2.cats, .slice A7x o2.entry.length c7x, .int .i64 o2.ring, .slice A9x o2.maps.length c9x]] : Array Value)); refine (H9.out.2.1 _ H10.out).mono ?_; rintro e w10 ⟨rfl, hm10⟩; have H11 := Lib.hid (tr0 H10.out hm10); clear hm10)
              | (go_at_call 10; refine (H9.out.2.2.1 _ H11.out).mono ?_; rintro e w11 ⟨rfl, hm11⟩
                 have hm811 := tr0 H11.out hm11
                 have hd11 := (tr0 H9.out.2.2.2.2.2.1 hm811).drew
                 have hT11 := HG.out.2.2.2.2.2.2.2.1 _ hd11
                 have c0 : w11.drew.cell? ⟨g, 0, none⟩ = some (.map (some mb)) := by rw [cell_of_blk hT11.blk]; rfl
                 have hb11 := (hm811.drew.block g6 (lt_of_blk H9.out.2.2.2.2.2.2.2.1) id).trans H9.out.2.2.2.2.2.2.2.1
                 have htx := textP_any A' c' _ u _ w11.drew (Rd.mod (HM3.out.1.reads (bytes := 8) (by omega)) (tr0 H9.out.2.2.2.2.2.2.2.2 hm811).drew (fun _ _ => id)) (by omega) (HG.out.2.2.2.2.2.2.2.2.2.2.1.mod0 hd11)
                 have e0 : w11.drew.cell? ⟨g6, 0, none⟩ = some (.int .i64 o2.kind) := by rw [cell_of_blk hb11]; rfl
                 have e1 : w11.drew.cell? ⟨g6, 1, none⟩ = some (.slice A1x o2.label.length c1x) := by rw [cell_of_blk hb11]; rfl
                 have e2 : w11.drew.cell? ⟨g6, 2, none⟩ = some (.slice A2x o2.kids.length c2x) := by rw [cell_of_blk hb11]; rfl
                 have e3 : w11.drew.cell? ⟨g6, 3, none⟩ = some (.int .i64 o2.next) := by rw [cell_of_blk hb11]; rfl
                 have e4 : w11.drew.cell? ⟨g6, 4, none⟩ = some (.slice A4x o2.bytes.length c4x) := by rw [cell_of_blk hb11]; rfl
                 have e5 : w11.drew.cell? ⟨g6, 5, none⟩ = some (.slice A5x o2.own.length c5x) := by rw [cell_of_blk hb11]; rfl
                 have e6 : w11.drew.cell? ⟨g6, 6, none⟩ = some (.int .i64 o2.cats) := by rw [cell_of_blk hb11]; rfl
                 have e7 : w11.drew.cell? ⟨g6, 7, none⟩ = some (.slice A7x o2.entry.length c7x) := by rw [cell_of_blk hb11]; rfl
                 have e8 : w11.drew.cell? ⟨g6, 8, none⟩ = some (.int .i64 o2.ring) := by rw [cell_of_blk hb11]; rfl
                 have e9 : w11.drew.cell? ⟨g6, 9, none⟩ = some (.slice A9x o2.maps.length c9x) := by rw [cell_of_blk hb11]; rfl
                 have H12 := Lib.hid (And.intro hd11 (And.intro hm811.drew (And.intro hT11 (And.intro hb11 htx)))); clear hm11 hm811 hd11 hT11 hb11 htx))
            go_region_law (
              (refine step_call rfl 25 _ _ (by rfl) (.slice A' u.length c') (by rfl) (ptext_cf _ _) H12.out.2.2.2.2 ?_
               rintro _ w12 ⟨rfl, hm12⟩
               refine ⟨_, rfl, ?_⟩
               have hb12 := (hm12.block g6 (lt_of_blk H12.out.2.2.2.1) id).trans H12.out.2.2.2.1
               have f0 : w12.cell? ⟨g6, 0, none⟩ = some (.int .i64 o2.kind) := by rw [cell_of_blk hb12]; rfl
               have f1 : w12.cell? ⟨g6, 1, none⟩ = some (.slice A1x o2.label.length c1x) := by rw [cell_of_blk hb12]; rfl
               have f2 : w12.cell? ⟨g6, 2, none⟩ = some (.slice A2x o2.kids.length c2x) := by rw [cell_of_blk hb12]; rfl
               have f3 : w12.cell? ⟨g6, 3, none⟩ = some (.int .i64 o2.next) := by rw [cell_of_blk hb12]; rfl
               have f4 : w12.cell? ⟨g6, 4, none⟩ = some (.slice A4x o2.bytes.length c4x) := by rw [cell_of_blk hb12]; rfl
               have f5 : w12.cell? ⟨g6, 5, none⟩ = some (.slice A5x o2.own.length c5x) := by rw [cell_of_blk hb12]; rfl
               have f6 : w12.cell? ⟨g6, 6, none⟩ = some (.int .i64 o2.cats) := by rw [cell_of_blk hb12]; rfl
               have f7 : w12.cell? ⟨g6, 7, none⟩ = some (.slice A7x o2.entry.length c7x) := by rw [cell_of_blk hb12]; rfl
               have f8 : w12.cell? ⟨g6, 8, none⟩ = some (.int .i64 o2.ring) := by rw [cell_of_blk hb12]; rfl
               have f9 : w12.cell? ⟨g6, 9, none⟩ = some (.slice A9x o2.maps.length c9x) := by rw [cell_of_blk hb12]; rfl
               have c02 : w12.cell? ⟨g, 0, none⟩ = some (.map (some mb)) := (hm12.cell (cell_lt c0) id).trans c0
               have hT12 := HG.out.2.2.2.2.2.2.2.1 _ (tr0 H12.out.1 hm12)
               have hob12 := Rd.mono (Rd.mod H9.out.2.2.2.2.2.2.1 (tr0 H12.out.2.1 hm12) (fun _ _ => id)) (ok1 := fun b => S b ∨ w.heap.size ≤ b) (fun b hb => by
                 have h4 := (tr0 HM3.out.2.2 H4.out).size
                 rcases hb with hb | hb
                 · exact .inl hb.1.1
                 · exact .inr (by omega))
               obtain ⟨w13, hr13, hT13, hm13⟩ := hT12.run_put u (setQ o2 k.n q) [.int .i64 o2.kind, .slice A1x o2.label.length c1x, .slice A2x o2.kids.length c2x, .int .i64 o2.next, .slice A4x o2.bytes.length c4x, .slice A5x o2.own.length c5x, .int .i64 o2.cats, .slice A7x o2.entry.length c7x, .int .i64 o2.ring, .slice A9x o2.maps.length c9x] hob12
               have hr13' : (Instr.mapUpdate 63 (.map (some mb)) (encS (pathT u)) (.agg #[.int .i64 o2.kind, .slice A1x o2.label.length c1x, .slice A2x o2.kids.length c2x, .int .i64 o2.next, .slice A4x o2.bytes.length c4x, .slice A5x o2.own.length c5x, .int .i64 o2.cats, .slice A7x o2.entry.length c7x, .int .i64 o2.ring, .slice A9x o2.maps.length c9x])).run Tryz.prog w12 = .ok () w13 := hr13
               have H13 := Lib.hid (And.intro hT13 (((tr0 H12.out.1 hm12).mono (fun _ h => h.elim) : Mod (fun b => b = mb) w w12).trans hm13 (fun b hb => .inl hb)))
               clear hm12 hb12 hT12 hob12 hr13 hT13 hm13))
            all_goals go_wp2_with fail
            all_goals
              go_ret
              exact ⟨by rw [HE.out.1]; first | done | rfl, by rw [HE.out.2]; exact H13.out.1, H13.out.2⟩
end Go.Proofs.YtefedalnafjcfaaGreatDoor

namespace Go.Proofs.YtefedalnafjcfaaGreatDoor
open Go.RowKit
set_option linter.unusedVariables false
def kidSum (o : Ob) : Int := (o.kids.map (·.quota)).sum
/-- the same, as the program tells it -/
def deepC (L : Tab) (p : List Int) : Int := ((L.filter fun x => p.isPrefixOf x.1).map fun x => if x.2.kind = 1 then 16 else usesO x.2).sum
theorem own_part {o : Ob} (h : RightOb o) : usesO o - kidSum o = if o.kind = 1 then 16 else usesO o := by
  have hf := h.foreign
  simp only [foreignB, Bool.or_eq_false_iff, Bool.and_eq_false_iff, decide_eq_false_iff_not] at hf
  obtain ⟨⟨⟨⟨⟨f1, f2⟩, f3⟩, f4⟩, f5⟩, f6⟩ := hf
  split
  · next hk =>
    have e1 : o.bytes.length = 0 := by rcases f2 with h | h <;> omega
    have e2 : o.own.length = 0 := by rcases f3 with (h | h) | h <;> omega
    have e3 : o.entry.length = 0 := by rcases f5 with h | h <;> omega
    have e4 : o.maps.length = 0 := by rcases f6 with h | h <;> omega
    unfold usesO kidSum
    omega
  · next hk =>
    have e1 : o.kids.length = 0 := by rcases f1 with h | h <;> omega
    have : o.kids = [] := List.length_eq_zero_iff.1 e1
    simp [kidSum, this]
/-- what the kids use, as the program tells it, and as the document says -/
def belowC (L : Tab) (p : List Int) (o : Ob) : Int := (o.kids.map fun k => wOf L (p ++ [k.n])).sum
theorem below_le {L : Tab} (hv : ValidT L) {p : List Int} {o : Ob} (ho : getT L p = some o) : belowC L p o ≤ kidSum o := by
  unfold belowC kidSum
  have : ∀ l : List Kid, (∀ k ∈ l, k ∈ o.kids) → (l.map fun k => wOf L (p ++ [k.n])).sum ≤ (l.map (·.quota)).sum := by
    intro l
    induction l with
    | nil => intro _; simp
    | cons k l ih =>
      intro hl
      have ih := ih fun y hy => hl y (.tail _ hy)
      obtain ⟨_, y, hy, _, hyu, _⟩ := hv.kid _ _ ho k (hl k (.head _))
      have : wOf L (p ++ [k.n]) = usesO y := by unfold wOf; rw [hy]
      simp only [List.map_cons, List.sum_cons, this]
      omega
  exact this _ fun _ h => h
/-- Move -/
noncomputable def moveE (L : Tab) (p : List Int) (n : Int) : Int := match getT L p with
  | none => 30
  | some _ => if n < -1048576 ∨ 1048576 < n ∨ p = [] then 2 else if quotaT L p + n < 0 ∨ 1048576 < quotaT L p + n then 33 else allotE L p (quotaT L p + n)
noncomputable def moveT (L : Tab) (p : List Int) (n : Int) : Tab := if moveE L p n = 0 then allotT L p (quotaT L p + n) else L
noncomputable def shiftE (L : Tab) (a b : List Int) (n : Int) : Int := if n < 0 ∨ 1048576 < n then 2 else if moveE L a (-n) ≠ 0 then moveE L a (-n) else moveE (moveT L a (-n)) b n
noncomputable def shiftT (L : Tab) (a b : List Int) (n : Int) : Tab := if shiftE L a b n = 0 then moveT (moveT L a (-n)) b n else L
theorem valid_move {L : Tab} (hv : ValidT L) (p : List Int) (n : Int) : ValidT (moveT L p n) := by
  unfold moveT; split
  · exact valid_allot hv _ _
  · exact hv
theorem valid_shift {L : Tab} (hv : ValidT L) (a b : List Int) (n : Int) : ValidT (shiftT L a b n) := by
  unfold shiftT; split
  · exact valid_move (valid_move hv _ _) _ _
  · exact hv
end Go.Proofs.YtefedalnafjcfaaGreatDoor

