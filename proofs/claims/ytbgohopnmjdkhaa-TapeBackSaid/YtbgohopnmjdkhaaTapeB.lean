/- The law TapeBack of layer 3: its walk. -/
import Derived.Test.YtbgohopnmjdkhaaTapeB0
import Derived.BigQuiet
import Derived.Deep.RegionWith
import Derived.Deep.DeepCutAuto
namespace Go.Proofs.Ytbgohopnmjdkhaa
open Go.RowKit
def encOp (o : Op3) : List UInt8 := if o.kind.tmod 2 = 0 then (if max o.n 0 ≤ 4611686018427387903 then encF 10 (max o.n 0) else []) else encF 10 o.s.size ++ o.s.data.toList
def encOps (l : List Op3) : List UInt8 := l.flatMap encOp
/-- what the first loop's round knows -/
structure BackSt (B : List UInt8) (x : List Op3) (W1 W2 : World) (gt gp gw : Nat) (i : Nat) (wr : World) (st : List UInt8 × Int) (pb : List UInt8) (vp vw : Value) : Prop where
  le : i ≤ x.length
  tape : TapeSt wr (fun k => W1.heap.size ≤ k ∧ k < W2.heap.size) gt st
  p : PenAt wr W2.heap.size gp vp pb
  w : PenAt wr W2.heap.size gw vw (encOps (x.take i))
  apart : Apart gp vp gw vw
  eq : st.2 = 0 → pb ++ st.1 = B
  len : pb.length ≤ i * 3000
  small : ∀ o ∈ x.take i, o.s.size ≤ 300
  below : Below W1.heap.size W1 wr
theorem encOp_len (o : Op3) (h : o.s.size ≤ 300) : (encOp o).length ≤ 320 := by
  unfold encOp
  have := encF_len 10 (max o.n 0)
  have := encF_len 10 (o.s.size : Int)
  split
  · split
    · omega
    · simp
  · simp; omega
theorem encOps_len (l : List Op3) (h : ∀ o ∈ l, o.s.size ≤ 300) (hl : l.length ≤ 60) : (encOps l).length ≤ 100000 := by
  have : (encOps l).length ≤ l.length * 320 := by
    clear hl
    induction l with
    | nil => simp [encOps]
    | cons o l ih =>
      have h1 := encOp_len o (h o (by simp))
      have h2 := ih (fun o ho => h o (by simp [ho]))
      simp only [encOps, List.flatMap_cons, List.length_append, List.length_cons] at h2 ⊢
      omega
  omega
section
variable {B : List UInt8} {x : List Op3} {W1 W2 wr : World} {gt gp gw i : Nat} {st : List UInt8 × Int} {pb : List UInt8} {vp vw : Value}
theorem BackSt.size (h : BackSt B x W1 W2 gt gp gw i wr st pb vp vw) : W2.heap.size ≤ wr.heap.size := by
  have := h.p.lt; have := h.p.base; omega
theorem BackSt.p1 (h : BackSt B x W1 W2 gt gp gw i wr st pb vp vw) {ob : Obj} {w1 : World} (hg : gt < W2.heap.size) (m : Mod (fun k => k = gt) (wr.alloc ob) w1) : PenAt w1 W2.heap.size gp vp pb :=
  h.p.mod (((Mod.refl (fun k => k = gt) wr).alloc ob).trans m (fun _ h => .inl h)) (fun e => by have := h.p.base; omega) (fun k hk e => by have := (own_lt h.p.own k hk).1; omega)
theorem BackSt.w1 (h : BackSt B x W1 W2 gt gp gw i wr st pb vp vw) {ob : Obj} {w1 : World} (hg : gt < W2.heap.size) (m : Mod (fun k => k = gt) (wr.alloc ob) w1) : PenAt w1 W2.heap.size gw vw (encOps (x.take i)) :=
  h.w.mod (((Mod.refl (fun k => k = gt) wr).alloc ob).trans m (fun _ h => .inl h)) (fun e => by have := h.w.base; omega) (fun k hk e => by have := (own_lt h.w.own k hk).1; omega)
theorem BackSt.t0 (h : BackSt B x W1 W2 gt gp gw i wr st pb vp vw) (ob : Obj) : TapeSt (wr.alloc ob) (fun k => W1.heap.size ≤ k ∧ k < W2.heap.size) gt st :=
  h.tape.mod ((Mod.refl (fun _ => False) wr).alloc ob) id (fun _ _ => id)
theorem BackSt.next (h : BackSt B x W1 W2 gt gp gw i wr st pb vp vw) {o : Op3} (ho : x[i]? = some o) (hs : o.s.size ≤ 300) {ob : Obj} {w1 w2 w3 : World} {st' : List UInt8 × Int} {e1 : List UInt8} {vp' vw' : Value}
    (hg : gt < W2.heap.size) (hg1 : W1.heap.size ≤ gt) (h12 : W1.heap.size ≤ W2.heap.size) (T : TapeSt w1 (fun k => W1.heap.size ≤ k ∧ k < W2.heap.size) gt st') (m : Mod (fun k => k = gt) (wr.alloc ob) w1) (P : PenTo W2.heap.size gp w1 vp w2 vp' (pb ++ e1)) (hl : e1.length ≤ 3000)
    (he : st'.2 = 0 → pb ++ e1 ++ st'.1 = B) (Q : PenTo W2.heap.size gw w2 vw w3 vw' (encOps (x.take i) ++ encOp o)) : BackSt B x W1 W2 gt gp gw (i + 1) w3 st' (pb ++ e1) vp' vw' := by
  have hil := (List.getElem?_eq_some_iff.1 ho).1
  have htk : x.take (i + 1) = x.take i ++ [o] := by rw [List.take_add_one, ho]; rfl
  have hp1 := h.p1 hg m
  have hw1 := h.w1 hg m
  have hz := h.size
  have hz1 := m.size
  simp only [World.size_alloc] at hz1
  have hw2 := hw1.other P h.apart
  have ha1 := h.apart.step P hw1
  have hp3 := P.at_.other Q ha1.symm
  have ha3 := (ha1.symm.step Q P.at_).symm
  have hPm := P.mod.mono (T := fun k => W2.heap.size ≤ k) (fun k hk => hp1.foot_ge k hk)
  have hQm := Q.mod.mono (T := fun k => W2.heap.size ≤ k) (fun k hk => hw2.foot_ge k hk)
  have hpl := h.len
  refine ⟨by omega, ?_, hp3, by rw [htk]; simpa [encOps] using Q.at_, ha3, he, by simp; omega, ?_, ?_⟩
  · exact (T.mod hPm (by omega) (fun k hk => by omega)).mod hQm (by omega) (fun k hk => by omega)
  · intro o' ho'
    rw [htk] at ho'
    rcases List.mem_append.1 ho' with h' | h'
    · exact h.small o' h'
    · rw [List.mem_singleton.1 h']; exact hs
  · have b1 := h.below.alloc (by omega) ob
    have b2 := below_mod b1 m (by simp; omega) (fun k hk => by subst hk; exact hg1)
    have b3 := below_mod b2 hPm (by omega) (fun k hk => by omega)
    exact below_mod b3 hQm (by have := P.mod.size; omega) (fun k hk => by omega)
theorem back_num {o : Op3} {ob : Obj} {w1 w2 : World} {vp' : Value} {m : Int} (hm : max o.n 0 = m) (hrel : BackSt B x W1 W2 gt W2.heap.size (W2.heap.size + 1) i wr st pb vp vw) (ho : x[i]? = some o) (hs3 : o.s.size ≤ 300) (hkk : o.kind.tmod 2 = 0) (hl0 : x.length ≤ 60)
    (hgl2 : gt < W2.heap.size) (hgt : W1.heap.size ≤ gt) (hws2 : W1.heap.size ≤ W2.heap.size) (T1 : TapeSt w1 (fun k => W1.heap.size ≤ k ∧ k < W2.heap.size) gt (stN 4611686018427387903 st).2) (m1 : Mod (fun k => k = gt) (wr.alloc ob) w1)
    (P : PenTo W2.heap.size W2.heap.size w1 vp w2 vp' (pb ++ encF 10 (stN 4611686018427387903 st).1)) :
    Calls Try.prog 8 #[.pointer (some ⟨W2.heap.size + 1, 0, none⟩), .int .i64 m] w2 fun e w3 => (∃ b, e = .returned (.bool b)) ∧ ∃ vw', BackSt B x W1 W2 gt W2.heap.size (W2.heap.size + 1) (i + 1) w3 (stN 4611686018427387903 st).2 (pb ++ encF 10 (stN 4611686018427387903 st).1) vp' vw' := by
  have hw2 := (hrel.w1 hgl2 m1).other P hrel.apart
  have hz2 := P.mod.size
  have hz1 := m1.size
  simp only [World.size_alloc] at hz1
  have hz0 := hrel.size
  have heq : (stN 4611686018427387903 st).2.2 = 0 → pb ++ encF 10 (stN 4611686018427387903 st).1 ++ (stN 4611686018427387903 st).2.1 = B := by
    intro h
    unfold stN at h ⊢
    split at h
    · rename_i h1; exact absurd h h1
    · rename_i h1
      rw [if_neg h1]
      rw [List.append_assoc, ← numD_inv h]
      exact hrel.eq (by simpa using h1)
  have hle := encF_len 10 (stN 4611686018427387903 st).1
  have hwl : (encOps (x.take i)).length ≤ 100000 := encOps_len _ hrel.small (by rw [List.length_take]; omega)
  by_cases hN : m ≤ 4611686018427387903
  · refine (num_any (W2.heap.size + 1) W2.heap.size m vw _ w2 hw2 (by omega) (by omega) hN (by omega)).mono ?_
    rintro e w3 ⟨rfl, vw', Q⟩
    exact ⟨⟨_, rfl⟩, vw', hrel.next ho hs3 hgl2 hgt hws2 T1 m1 P (by omega) heq (by unfold encOp; rw [if_pos hkk, hm, if_pos hN]; exact Q)⟩
  · refine (num_no _ m w2 (.inr (.inr (by omega)))).mono ?_
    rintro e w3 ⟨rfl, rfl⟩
    exact ⟨⟨_, rfl⟩, vw, hrel.next ho hs3 hgl2 hgt hws2 T1 m1 P (by omega) heq (by unfold encOp; rw [if_pos hkk, hm, if_neg hN, List.append_nil]; exact .refl hw2)⟩
theorem back_text {o : Op3} {ob : Obj} {w1 w2 : World} {vp' : Value} (hrel : BackSt B x W1 W2 gt W2.heap.size (W2.heap.size + 1) i wr st pb vp vw) (ho : x[i]? = some o) (hs3 : o.s.size ≤ 300) (hkk : ¬ o.kind.tmod 2 = 0) (hl0 : x.length ≤ 60)
    (hgl2 : gt < W2.heap.size) (hgt : W1.heap.size ≤ gt) (hws2 : W1.heap.size ≤ W2.heap.size) (T1 : TapeSt w1 (fun k => W1.heap.size ≤ k ∧ k < W2.heap.size) gt (stT 2000 st).2) (m1 : Mod (fun k => k = gt) (wr.alloc ob) w1)
    (P : PenTo W2.heap.size W2.heap.size w1 vp w2 vp' (pb ++ (encF 10 (stT 2000 st).1.length ++ (stT 2000 st).1))) :
    Calls Try.prog 12 #[.pointer (some ⟨W2.heap.size + 1, 0, none⟩), .string o.s] w2 fun e w3 => e = .returned (.tuple #[]) ∧ ∃ vw', BackSt B x W1 W2 gt W2.heap.size (W2.heap.size + 1) (i + 1) w3 (stT 2000 st).2 (pb ++ (encF 10 (stT 2000 st).1.length ++ (stT 2000 st).1)) vp' vw' := by
  have hw2 := (hrel.w1 hgl2 m1).other P hrel.apart
  have hz2 := P.mod.size
  have hz1 := m1.size
  simp only [World.size_alloc] at hz1
  have hz0 := hrel.size
  have heq : (stT 2000 st).2.2 = 0 → pb ++ (encF 10 (stT 2000 st).1.length ++ (stT 2000 st).1) ++ (stT 2000 st).2.1 = B := by
    intro h
    unfold stT at h ⊢
    split at h
    · rename_i h1; exact absurd h h1
    · rename_i h1
      rw [if_neg h1]
      rw [List.append_assoc, ← (textD_inv h).1]
      exact hrel.eq (by simpa using h1)
  have hle := encF_len 10 ((stT 2000 st).1.length : Int)
  have hle2 := stT_bd 2000 (by decide) st
  have hwl : (encOps (x.take i)).length ≤ 100000 := encOps_len _ hrel.small (by rw [List.length_take]; omega)
  refine (text_any (W2.heap.size + 1) W2.heap.size o.s vw _ w2 hw2 (by omega) (by omega) (by omega)).mono ?_
  rintro e w3 ⟨rfl, vw', Q⟩
  exact ⟨rfl, vw', hrel.next ho hs3 hgl2 hgt hws2 T1 m1 P (by simp; omega) heq (by unfold encOp; rw [if_neg hkk, ← List.append_assoc]; exact Q)⟩
end
def BackRel (B : List UInt8) (x : List Op3) (W1 W2 : World) (gt gp gw : Nat) (i : Nat) (wr : World) : Prop := ∃ st pb vp vw, BackSt B x W1 W2 gt gp gw i wr st pb vp vw
set_option maxRecDepth 100000 in
set_option maxHeartbeats 1000000 in
theorem tapeBack_walk (A : Option Addr) (n c : Nat) (A1 : Option Addr) (n1 c1 : Nat) (x0 : List Op3) (x1 : List UInt8) (W : World) (h0 : (Rd.slice 40 opR).rel W (fun k => k < W.heap.size) [.slice A n c] x0) (h1 : bytesR.rel W (fun k => k < W.heap.size) [.slice A1 n1 c1] x1) :
    Calls Try.prog 4 #[.slice A n c, .slice A1 n1 c1] W fun e W' => e = .returned (.bool true) ∧ Below W.heap.size W W' := by
  obtain ⟨A', c', hv, h2, h3, h4, h5, h6⟩ := h0
  simp only [List.cons.injEq, Value.slice.injEq, and_true] at hv
  obtain ⟨rfl, rfl, rfl⟩ := hv
  clear h5
  have h1' := h1
  obtain ⟨A1', c1', hv, k2, k3, k4, k5, k6⟩ := h1'
  simp only [List.cons.injEq, Value.slice.injEq, and_true] at hv
  obtain ⟨rfl, rfl, rfl⟩ := hv
  clear k5 k6
  have HR := Lib.hid (And.intro h6 h1); clear h6 h1
  go_enter Try.func4, Try.ntmps4
  go_wp2_with fail
  refine (first3_any W).mono ?_
  rintro e W1 ⟨rfl, HM⟩
  have hws := HM.size
  by_cases hlim : 2000 < x1.length ∨ 60 < x0.length
  · have HF := Lib.hid HM; clear HM
    go_wp2_with fail
    all_goals
      go_ret
      exact ⟨rfl, HF.out.below (Nat.le_refl _) (fun _ h => h.elim)⟩
  have hl1 : x1.length ≤ 2000 := by omega
  have hl0 : x0.length ≤ 60 := by omega
  have ht1 : decide ((2000 : Int) < (x1.length : Int)) = false := by simp; omega
  have ht2 : decide ((60 : Int) < (x0.length : Int)) = false := by simp; omega
  go_wp2_with fail
  refine (tnew_any _ x1 _ W1 (Rd.mod HR.out.2 HM (fun _ _ => id))).mono ?_
  rintro e W2 ⟨gt, vt, rfl, hgt, H2, M2⟩
  have hws2 := M2.size
  have hgl := lt_of_blk H2.blk
  have hgl2 : gt < W2.heap.size := hgl
  have HT := Lib.hid (And.intro HM (And.intro H2 M2)); clear HM H2 M2 ht1 ht2 hlim
  go_wp2_with fail
  go_loopg [32] (x0.length) (fun f si wr => ∃ (i : Nat), si = .int .i64 i ∧ i + f = x0.length ∧ BackRel x1 x0 W1 W2 gt W2.heap.size (W2.heap.size + 1) i wr)
  case atStart =>
    obtain ⟨HM, H2, M2⟩ := HT.out
    have m1 : Mod (fun _ => False) W2 (W2.alloc (.cells #[.slice none 0 0] 27)) := (Mod.refl _ _).alloc _
    have p1 := PenAt.new W2 W2.heap.size (Nat.le_refl _)
    have p2 := PenAt.new (W2.alloc (.cells #[.slice none 0 0] 27)) W2.heap.size (by simp)
    have e2 : (W2.alloc (.cells #[.slice none 0 0] 27)).heap.size = W2.heap.size + 1 := by simp
    rw [e2] at p2
    refine ⟨0, rfl, by omega, (x1, 0), [], _, _, ⟨Nat.zero_le _, ?_, p1.mod ((Mod.refl (fun _ => False) _).alloc _) id (fun _ _ => id), p2, ?_, fun _ => rfl, by simp, by simp, ?_⟩⟩
    · refine TapeSt.mod (S := fun _ => False) (w := W2) ⟨vt, .nilIface, ?_, fun _ => rfl, fun h => absurd rfl h⟩ (m1.alloc _) id (fun _ _ => id)
      exact ⟨H2.blk, Rd.mono (Rd.bound H2.rd) (fun k hk => ⟨⟨hk.1.1, hk.2⟩, hk.1.2⟩)⟩
    · rintro k (hk | hk) (hk2 | hk2)
      · omega
      · simp [Value.ownBlock] at hk2
      · simp [Value.ownBlock] at hk
      · simp [Value.ownBlock] at hk
    · exact (M2.below (Nat.le_refl _) (fun _ h => h.elim)).trans (((m1.alloc _).below (Nat.le_refl _) (fun _ h => h.elim)).mono hws2)
  case round =>
    obtain ⟨i, rfl, hi, st, pb, vp, vw, hrel⟩ := hrel
    have hle := hrel.le
    by_cases hlt : i < x0.length
    · obtain ⟨o, ho⟩ : ∃ o, x0[i]? = some o := ⟨_, List.getElem?_eq_getElem hlt⟩
      obtain ⟨ad, cs, rfl, hadb, hoR, hcells⟩ := Rd.RowOf.at_ HR.out.1 ho
      obtain ⟨rfl, hk, hn, hs⟩ := opR_cells hoR
      have hlt2 : ad.block < W1.heap.size := by have := hadb; omega
      have hcw : ∀ j v, ([.int .i64 o.kind, .int .i64 o.n, .int .i64 o.most, .string o.s] : List Value)[j]? = some v → wr.cell? (ad.add (i * 4 + j)) = some v := fun j v hj => by
        have e1 := hcells j v hj
        have : W1.cell? (ad.add (i * 4 + j)) = some v := cell_step e1 (fun h => HT.out.1.block _ h id)
        exact cell_step this (fun h => hrel.below.block _ (by rw [add_block]; omega))
      have c0 := hcw 0 _ rfl
      have c1 := hcw 1 _ rfl
      have c2 := hcw 2 _ rfl
      have c3 := hcw 3 _ rfl
      rw [add_field _ _ _ (by decide)] at c1 c2 c3
      rw [Nat.add_zero] at c0
      have HX := Lib.hid (And.intro hi (And.intro hrel (And.intro ho (And.intro hoR hcells))))
      clear hcw hcells hi hrel ho hoR
      go_wp2_with fail
      · go_ret
        obtain ⟨hi, hrel, ho, hoR, hcells⟩ := HX.out
        exact ⟨rfl, (HT.out.1.below (Nat.le_refl _) (fun _ h => h.elim)).trans ((hrel.below.alloc (by have := hrel.size; omega) _).mono hws)⟩
      · obtain ⟨hi, hrel, ho, hoR, hcells⟩ := HX.out
        refine (tnum_st gt _ st 4611686018427387903 _ (hrel.t0 _)).mono ?_
        rintro e w1 ⟨rfl, T1, m1⟩
        have hb1 := stN_bd st
        have hz1 := m1.size
        simp only [World.size_alloc] at hz1
        have hz0 := hrel.size
        have hp1 := hrel.p1 hgl2 m1
        have hlen := hrel.len
        have HY := Lib.hid (And.intro T1 (And.intro m1 (And.intro hp1 hlen)))
        clear hi hrel ho hoR hcells T1 m1 hp1 hlen c0 c1 c2 c3
        go_wp2_with fail
        obtain ⟨T1, m1, hp1, hlen⟩ := HY.out
        refine (num_any W2.heap.size W2.heap.size _ vp pb w1 hp1 (by omega) hb1.1 hb1.2 (by omega)).mono ?_
        rintro e w2 ⟨rfl, vp', P⟩
        obtain ⟨hi, hrel, ho, hoR, hcells⟩ := HX.out
        have hz2 := P.mod.size
        have hbk := blk_mod m1 (by omega)
        have hbk2 := (P.mod.block _ (by omega) (fun e => by have := hrel.p.foot_lt _ e; omega)).trans hbk
        have d1 : w2.cell? ⟨wr.heap.size, 1, none⟩ = some (.int .i64 o.n) := by rw [cell_of_blk hbk2]; rfl
        have HZ := Lib.hid P
        clear T1 m1 hp1 hlen P hi hrel ho hoR hcells hbk hbk2
        have FIN : ∀ (m : Int), max o.n 0 = m → Hid (Calls Try.prog 8 #[.pointer (some ⟨W2.heap.size + 1, 0, none⟩), .int .i64 m] w2 fun e w3 => (∃ b, e = .returned (.bool b)) ∧ ∃ vw', BackSt x1 x0 W1 W2 gt W2.heap.size (W2.heap.size + 1) (i + 1) w3 (stN 4611686018427387903 st).2 (pb ++ encF 10 (stN 4611686018427387903 st).1) vp' vw') := fun m hm =>
          back_num hm HX.out.2.1 HX.out.2.2.1 (by have : (o.s.size : Int) ≤ 300 := by assumption
                                                  omega) (by have : (o.kind.tmod 2 == 0) = true := by assumption
                                                             simpa using this) hl0 hgl2 hgt hws2 HY.out.1 HY.out.2.1 HZ.out
        go_wp2_with fail
        · refine (FIN 0 (by omega)).out.mono ?_
          rintro e w3 ⟨⟨b, rfl⟩, vw', hnext⟩
          have HN := Lib.hid hnext; clear hnext d1
          go_wp2_with fail
          go_roundg (gk - 1)
          case measure => have := HX.out.1; omega
          case rel => exact ⟨i + 1, by go_num, by have := HX.out.1; omega, _, _, _, _, HN.out⟩
        · refine (FIN o.n (by omega)).out.mono ?_
          rintro e w3 ⟨⟨b, rfl⟩, vw', hnext⟩
          have HN := Lib.hid hnext; clear hnext d1
          go_wp2_with fail
          go_roundg (gk - 1)
          case measure => have := HX.out.1; omega
          case rel => exact ⟨i + 1, by go_num, by have := HX.out.1; omega, _, _, _, _, HN.out⟩
      · obtain ⟨hi, hrel, ho, hoR, hcells⟩ := HX.out
        refine (ttext_st gt _ st 2000 _ (hrel.t0 _)).mono ?_
        rintro e w1 ⟨rfl, T1, m1⟩
        have hb1 := stT_bd 2000 (by decide) st
        have hz1 := m1.size
        simp only [World.size_alloc] at hz1
        have hz0 := hrel.size
        have hp1 := hrel.p1 hgl2 m1
        have hlen := hrel.len
        have HY := Lib.hid (And.intro T1 (And.intro m1 (And.intro hp1 hlen)))
        clear hi hrel ho hoR hcells T1 m1 hp1 hlen c0 c1 c2 c3
        go_wp2_with fail
        obtain ⟨T1, m1, hp1, hlen⟩ := HY.out
        have hsz1 := mkStr_size (stT 2000 st).1
        have htx := text_any W2.heap.size W2.heap.size (mkStr (stT 2000 st).1) vp pb w1 hp1 (by omega) (by omega) (by omega)
        rw [hsz1, mkStr_list, List.append_assoc] at htx
        clear hsz1
        refine htx.mono ?_
        clear htx
        rintro e w2 ⟨rfl, vp', P⟩
        obtain ⟨hi, hrel, ho, hoR, hcells⟩ := HX.out
        have hz2 := P.mod.size
        have hbk := blk_mod m1 (by omega)
        have hbk2 := (P.mod.block _ (by omega) (fun e => by have := hrel.p.foot_lt _ e; omega)).trans hbk
        have d3 : w2.cell? ⟨wr.heap.size, 3, none⟩ = some (.string o.s) := by rw [cell_of_blk hbk2]; rfl
        have HZ := Lib.hid P
        clear T1 m1 hp1 hlen P hi hrel ho hoR hcells hbk hbk2
        go_wp2_with fail
        refine (back_text HX.out.2.1 HX.out.2.2.1 (by have : (o.s.size : Int) ≤ 300 := by assumption
                                                      omega) (by have : (o.kind.tmod 2 == 0) = false := by assumption
                                                                 simpa using this) hl0 hgl2 hgt hws2 HY.out.1 HY.out.2.1 HZ.out).mono ?_
        rintro e w3 ⟨rfl, vw', hnext⟩
        have HN := Lib.hid hnext; clear hnext d3
        go_wp2_with fail
        go_roundg (gk - 1)
        case measure => have := HX.out.1; omega
        case rel => exact ⟨i + 1, by go_num, by have := HX.out.1; omega, _, _, _, _, HN.out⟩
    · have HX := Lib.hid (And.intro hi hrel); clear hi hrel
      have hz0 := HX.out.2.size
      go_wp2_with fail
      go_cut [72] (fun s72 wx => s72 = .bool false ∧ ∃ vw, PenAt wx W2.heap.size (W2.heap.size + 1) vw (encOps x0) ∧ (∀ o ∈ x0, o.s.size ≤ 300) ∧ Below W1.heap.size W1 wx)
      case first =>
        by_cases hst : st.2 = 0 ∧ st.1 = []
        · have hpb : pb = x1 := by have := HX.out.2.eq hst.1; rw [hst.2, List.append_nil] at this; exact this
          subst hpb
          have e1 := hst
          have hmd : Mod (fun _ => False) wr wr.drew := (Mod.refl _ _).drew
          have hb1 : bytesR.rel wr.drew (fun k => k < W.heap.size) [.slice A1 pb.length c1] pb := Rd.step bytesR (fun k hk hl => ⟨hk, (HX.out.2.below.block _ (by omega)).trans (HT.out.1.block _ hl id)⟩) HR.out.2
          have hcv := run_str (P := Try.prog) hb1 25 9 5 Try.underlying25 Try.underlying5 Try.underlying9
          have HB := Lib.hid (And.intro hb1 hst); clear hb1 e1 hst
          go_region_with (first | (go_at_call 18; refine (tend_st0 gt _ st _ (HX.out.2.tape.mod hmd id (fun _ _ => id)) HB.out.2).mono ?_; rintro e w' ⟨rfl, rfl⟩) | (go_at_call 14; refine (bytes_any W2.heap.size W2.heap.size vp pb _ (HX.out.2.p.mod hmd id (fun _ _ => id)) (by omega)).mono ?_; rintro e w5 ⟨A5, c5, rfl, q5, m5⟩; have hcv5 := run_str (P := Try.prog) (Rd.mod HB.out.1 m5 (fun _ _ => id)) 25 9 5 Try.underlying25 Try.underlying5 Try.underlying9; have hcv6 := run_str (P := Try.prog) (reads_bytes q5 (by omega)) 25 9 5 Try.underlying25 Try.underlying5 Try.underlying9))
          all_goals
            clear hcv hcv5 hcv6
            go_wp2_with fail
            go_meet
            obtain ⟨hi, hrel⟩ := HX.out
            have hil : x0.take i = x0 := List.take_of_length_le (by omega)
            have hsm := hrel.small
            have hww := hrel.w
            rw [hil] at hsm hww
            exact ⟨rfl, vw, (hww.mod hmd id (fun _ _ => id)).mod m5 id (fun _ _ => id), hsm, below_mod (below_mod hrel.below hmd (by omega) (fun _ h => h.elim)) m5 (by show _ ≤ wr.heap.size; omega) (fun _ h => h.elim)⟩
        · have hmd : Mod (fun _ => False) wr wr.drew := (Mod.refl _ _).drew
          have HB := Lib.hid hst; clear hst
          first | (go_region_with (first | (go_at_call 18; refine (tend_st gt _ st _ (HX.out.2.tape.mod hmd id (fun _ _ => id)) HB.out).mono ?_; rintro e w5 ⟨⟨af, rfl⟩, m5⟩))) | fail
          all_goals
            go_wp2_with fail
            go_meet
            obtain ⟨hi, hrel⟩ := HX.out
            have hil : x0.take i = x0 := List.take_of_length_le (by omega)
            have hsm := hrel.small
            have hww := hrel.w
            rw [hil] at hsm hww
            exact ⟨rfl, vw, (hww.mod hmd id (fun _ _ => id)).mod m5 id (fun _ _ => id), hsm, below_mod (below_mod hrel.below hmd (by omega) (fun _ h => h.elim)) m5 (by show _ ≤ wr.heap.size; omega) (fun _ h => h.elim)⟩
      case rest =>
        obtain ⟨rfl, vw', hpw, hsm, hbe⟩ := hcut
        have hwl := encOps_len x0 hsm hl0
        have hzc := hpw.lt
        have HX2 := Lib.hid (And.intro hpw (And.intro hsm hbe)); clear hpw hsm hbe
        go_wp2_with fail
        refine (bytes_any (W2.heap.size + 1) W2.heap.size vw' _ wc HX2.out.1 (by omega)).mono ?_
        rintro e w5 ⟨A5, c5, rfl, q5, m5⟩
        have HQ := Lib.hid (And.intro q5 m5); clear q5 m5
        go_wp2_with fail
        refine (tnew_any _ _ _ w5 (reads_bytes HQ.out.1 (by omega))).mono ?_
        rintro e w6 ⟨g6, v6, rfl, hg6, h6, m6⟩
        have HR6 := Lib.hid (And.intro h6 m6); clear h6 m6
        go_wp2_with fail
        go_loopg [78] (x0.length) (fun f si wr => ∃ (j : Nat) (v : Value), si = .int .i64 j ∧ j + f = x0.length ∧ TapeAt wr (fun k => w5.heap.size ≤ k) g6 v .nilIface (encOps (x0.drop j)) ∧ Below w5.heap.size w5 wr ∧ w5.heap.size ≤ wr.heap.size)
        case atStart => exact ⟨0, v6, rfl, by omega, HR6.out.1, HR6.out.2.below (Nat.le_refl _) (fun _ h => h.elim), HR6.out.2.size⟩
        case round =>
          obtain ⟨j, v, rfl, hj, ht, hbe, hsz⟩ := hrel
          by_cases hlt : j < x0.length
          · obtain ⟨o, ho⟩ : ∃ o, x0[j]? = some o := ⟨_, List.getElem?_eq_getElem hlt⟩
            obtain ⟨ad, cs, rfl, hadb, hoR, hcells⟩ := Rd.RowOf.at_ HR.out.1 ho
            obtain ⟨rfl, hk, hn, hs⟩ := opR_cells hoR
            have hlt2 : ad.block < W1.heap.size := by have := hadb; omega
            have hcw : ∀ j' v, ([.int .i64 o.kind, .int .i64 o.n, .int .i64 o.most, .string o.s] : List Value)[j']? = some v → wr.cell? (ad.add (j * 4 + j')) = some v := fun j' v hj => by
              have e1 := hcells j' v hj
              have e2 : W1.cell? (ad.add (j * 4 + j')) = some v := cell_step e1 (fun h => HT.out.1.block _ h id)
              have e3 : wc.cell? (ad.add (j * 4 + j')) = some v := cell_step e2 (fun h => HX2.out.2.2.block _ (by rw [add_block]; omega))
              have e4 : w5.cell? (ad.add (j * 4 + j')) = some v := cell_step e3 (fun h => HQ.out.2.block _ h id)
              exact cell_step e4 (fun h => hbe.block _ h)
            have c0 := hcw 0 _ rfl
            have c1 := hcw 1 _ rfl
            have c2 := hcw 2 _ rfl
            have c3 := hcw 3 _ rfl
            rw [add_field _ _ _ (by decide)] at c1 c2 c3
            rw [Nat.add_zero] at c0
            have hs3 : o.s.size ≤ 300 := HX2.out.2.1 o (List.mem_of_getElem? ho)
            have hdr : x0.drop j = o :: x0.drop (j + 1) := by
              rw [List.drop_eq_getElem_cons hlt]; congr 1; rw [List.getElem?_eq_getElem hlt] at ho; exact Option.some.inj ho
            have henc : encOps (x0.drop j) = encOp o ++ encOps (x0.drop (j + 1)) := by rw [hdr]; rfl
            have hgr : g6 < wr.heap.size := lt_of_blk ht.blk
            have hgne : ¬ wr.heap.size = g6 := by omega
            have hm2 : Mod (fun _ => False) wr (wr.alloc (.cells #[.int .i64 o.kind, .int .i64 o.n, .int .i64 o.most, .string o.s] 29)) := (Mod.refl _ _).alloc _
            have HX := Lib.hid (And.intro hj (And.intro (ht.mod hm2) (And.intro (hbe.alloc hsz (.cells #[.int .i64 o.kind, .int .i64 o.n, .int .i64 o.most, .string o.s] 29)) (And.intro henc hm2))))
            clear hcw hcells hj ht hbe hm2 henc hdr ho hoR hk hn
            by_cases hkk : o.kind.tmod 2 = 0
            · have hk1 : (o.kind.tmod 2 == 0) = true := by simp [hkk]
              have HK := Lib.hid hkk; clear hkk
              go_wp2_with fail
              · have hm : max o.n 0 = 0 := by have : o.n < 0 := by assumption
                                              omega
                refine (tnum_any g6 _ v _ 4611686018427387903 _ HX.out.2.1).mono ?_
                have hnd : numD 4611686018427387903 (encOps (x0.drop j)) = (0, encOps (x0.drop (j + 1)), 0) := by
                  rw [HX.out.2.2.2.1]; unfold encOp; rw [if_pos HK.out, hm, if_pos (by decide)]; exact numD_enc _ (by decide) (by decide) (by decide)
                rw [hnd]
                clear hnd
                rintro e w9 ⟨rfl, T9⟩
                have HT9 := Lib.hid T9; clear T9 c0 c1 c2 c3
                go_wp2_with fail
                go_roundg (gk - 1)
                case measure => have := HX.out.1; omega
                case rel =>
                  obtain ⟨v9, h9⟩ := HT9.out.ok
                  have z9 := HT9.out.mod.size
                  simp only [World.size_alloc] at z9
                  exact ⟨j + 1, v9, by go_num, by have := HX.out.1; omega, h9, below_mod HX.out.2.2.1 HT9.out.mod (by simp; omega) (fun k hk => by subst hk; exact hg6), by omega⟩
              · have hm : max o.n 0 = o.n := by have : 0 ≤ o.n := by assumption
                                                omega
                have hN : o.n ≤ 4611686018427387903 := by assumption
                refine (tnum_any g6 _ v _ 4611686018427387903 _ HX.out.2.1).mono ?_
                have hnd : numD 4611686018427387903 (encOps (x0.drop j)) = (o.n, encOps (x0.drop (j + 1)), 0) := by
                  rw [HX.out.2.2.2.1]; unfold encOp; rw [if_pos HK.out, hm, if_pos hN]; exact numD_enc _ (by omega) hN hN
                rw [hnd]
                clear hnd
                rintro e w9 ⟨rfl, T9⟩
                have HT9 := Lib.hid T9; clear T9 c0 c1 c2 c3
                go_wp2_with fail
                go_roundg (gk - 1)
                case measure => have := HX.out.1; omega
                case rel =>
                  obtain ⟨v9, h9⟩ := HT9.out.ok
                  have z9 := HT9.out.mod.size
                  simp only [World.size_alloc] at z9
                  exact ⟨j + 1, v9, by go_num, by have := HX.out.1; omega, h9, below_mod HX.out.2.2.1 HT9.out.mod (by simp; omega) (fun k hk => by subst hk; exact hg6), by omega⟩
              · have hm : max o.n 0 = o.n := by have : 0 ≤ o.n := by assumption
                                                omega
                have hN : ¬ o.n ≤ 4611686018427387903 := by have : 4611686018427387903 < o.n := by assumption
                                                            omega
                have hnd : encOps (x0.drop j) = encOps (x0.drop (j + 1)) := by
                  rw [HX.out.2.2.2.1]; unfold encOp; rw [if_pos HK.out, hm, if_neg hN]; rfl
                go_roundg (gk - 1)
                case measure => have := HX.out.1; omega
                case rel => exact ⟨j + 1, v, by go_num, by have := HX.out.1; omega, hnd ▸ HX.out.2.1, HX.out.2.2.1, by simp; omega⟩
            · have hk1 : (o.kind.tmod 2 == 0) = false := by simp [hkk]
              have HK := Lib.hid hkk; clear hkk
              have hmd : Mod (fun _ => False) (wr.alloc (.cells #[.int .i64 o.kind, .int .i64 o.n, .int .i64 o.most, .string o.s] 29)) (wr.alloc (.cells #[.int .i64 o.kind, .int .i64 o.n, .int .i64 o.most, .string o.s] 29)).drew := (Mod.refl _ _).drew
              have hnd : textD 300 (encOps (x0.drop j)) = (o.s.data.toList, encOps (x0.drop (j + 1)), 0) := by
                rw [HX.out.2.2.2.1]; unfold encOp; rw [if_neg HK.out, List.append_assoc]
                have : o.s.data.toList.length = o.s.size := by simp
                rw [← this]
                exact textD_enc o.s.data.toList _ (by omega) (by omega)
              have hcall := ttext_any g6 _ v (encOps (x0.drop j)) 300 _ (HX.out.2.1.mod hmd)
              rw [hnd, list_mkStr] at hcall
              have HC := Lib.hid hcall; clear hnd hcall
              go_wp2_with fail
              go_cut [101] (fun s101 wx => s101 = .bool false ∧ TapeTo (wr.alloc (.cells #[.int .i64 o.kind, .int .i64 o.n, .int .i64 o.most, .string o.s] 29)).drew (fun k => w5.heap.size ≤ k) g6 wx (encOps (x0.drop (j + 1))) 0)
              case first =>
                first | (go_region_with (first | (go_at_call 17; refine HC.out.mono ?_; rintro e w9 ⟨rfl, T9⟩; have d3 : w9.cell? ⟨wr.heap.size, 3, none⟩ = some (.string o.s) := (by rw [T9.mod.cell (show wr.heap.size < _ by simp) hgne]; exact cell_of_blk (heap_alloc_new wr _) 3); have HT9 := Lib.hid T9; clear T9))) | fail
                all_goals
                  go_wp2_with fail
                  go_meet
                  exact ⟨by simp, HT9.out⟩
              case rest =>
                obtain ⟨rfl, T9⟩ := hcut
                have HT9 := Lib.hid T9; clear T9 c0 c1 c2 c3
                go_wp2_with fail
                go_roundg (gk - 1)
                case measure => have := HX.out.1; omega
                case rel =>
                  obtain ⟨v9, h9⟩ := HT9.out.ok
                  have z9 := HT9.out.mod.size
                  have z9' : (wr.alloc (.cells #[.int .i64 o.kind, .int .i64 o.n, .int .i64 o.most, .string o.s] 29)).drew.heap.size = wr.heap.size + 1 := by simp
                  rw [z9'] at z9
                  exact ⟨j + 1, v9, by go_num, by have := HX.out.1; omega, h9, below_mod (below_mod HX.out.2.2.1 hmd (by simp; omega) (fun _ h => h.elim)) HT9.out.mod (by rw [z9']; omega) (fun k hk => by subst hk; exact hg6), by omega⟩
          · have hj0 : x0.drop j = [] := List.drop_eq_nil_of_le (by omega)
            rw [hj0] at ht
            have HX := Lib.hid (And.intro ht hbe); clear ht hbe hj0
            go_wp2_with fail
            refine (tend_ok g6 _ v wr HX.out.1).mono ?_
            rintro e w9 ⟨rfl, rfl⟩
            go_wp2_with fail
            go_ret
            exact ⟨rfl, (HT.out.1.below (Nat.le_refl _) (fun _ h => h.elim)).trans ((HX2.out.2.2.mono hws).trans ((HQ.out.2.below (by omega) (fun _ h => h.elim)).trans (HX.out.2.mono (by have := HQ.out.2.size; omega))))⟩
end Go.Proofs.Ytbgohopnmjdkhaa
