/- Layer 29: Turn, At, Copy. -/
import Derived.Test.YtlimjdejcjgocaaNet13
namespace Go.Proofs.Ytlimjdejcjgocaa
open Go.RowKit
set_option linter.unusedVariables false
theorem NetSt.row {B : Nat} {w : World} {g : Nat} {xs : List Pk} {most seq now lost : Int} (h : NetSt B w g xs most seq now lost) (hx : 0 < xs.length) :
    ∃ gq c, NetBlk w g (.slice (some ⟨gq, 0, none⟩) xs.length c) [.int .i64 most, .int .i64 seq, .int .i64 now, .int .i64 lost] ∧ QRow w gq c xs := by
  obtain ⟨A, c, b1, o1, _⟩ := h.blk
  have o1' := o1
  rcases o1'.2 with ⟨hv, _⟩ | ⟨gq, cap, cur, hv, _⟩
  · simp only [Value.slice.injEq] at hv; omega
  · simp only [Value.slice.injEq] at hv
    obtain ⟨rfl, _, rfl⟩ := hv
    exact ⟨gq, c, b1, (QRow.of_owns o1).2⟩
def xorI (n : Int) (r : Nat) : Int := bits BinOp.xor IntKind.u8 n (2 ^ r % 256)
theorem xorI_all : ∀ n : Fin 256, ∀ r : Fin 8, 0 ≤ xorI (n.val : Int) r.val ∧ xorI (n.val : Int) r.val < 256 ∧ xorI (xorI (n.val : Int) r.val) r.val = (n.val : Int) ∧ xorI (n.val : Int) r.val ≠ (n.val : Int) := by decide +kernel
def xorB (x : UInt8) (r : Nat) : UInt8 := u8 (xorI (x.toNat : Int) r)
theorem xorB_all (x : UInt8) {r : Nat} (hr : r < 8) : ((xorB x r).toNat : Int) = xorI (x.toNat : Int) r ∧ xorB (xorB x r) r = x ∧ xorB x r ≠ x := by
  have h := xorI_all ⟨x.toNat, x.toNat_lt⟩ ⟨r, hr⟩
  obtain ⟨h1, h2, h3, h4⟩ := h
  dsimp only at h1 h2 h3 h4
  have e : ((xorB x r).toNat : Int) = xorI (x.toNat : Int) r := u8_toNat _ h1 h2
  refine ⟨e, ?_, fun e2 => ?_⟩
  · unfold xorB
    have := e
    unfold xorB at this
    rw [this, h3, u8_back]
  · rw [e2] at e; exact h4 e.symm
/-- a bit turned -/
def flipB (bs : List UInt8) (bit : Nat) : List UInt8 := bs.modify (bit % (8 * bs.length) / 8) fun x => xorB x (bit % (8 * bs.length) % 8)
theorem flipB_len (bs : List UInt8) (bit : Nat) : (flipB bs bit).length = bs.length := by unfold flipB; simp
theorem flipB_at {bs : List UInt8} {bit d r : Nat} {x : UInt8} (hd : d = bit % (8 * bs.length) / 8) (hr : r = bit % (8 * bs.length) % 8) (hx : bs[d]? = some x) : flipB bs bit = bs.set d (xorB x r) := by
  unfold flipB
  rw [← hd, ← hr]
  apply List.ext_getElem?
  intro j
  have hdl := (List.getElem?_eq_some_iff.1 hx).1
  rw [List.getElem?_modify, List.getElem?_set]
  by_cases hj : d = j
  · subst hj; simp [hdl, (List.getElem?_eq_some_iff.1 hx).2]
  · simp [hj]
theorem flipB_twice (bs : List UInt8) (bit : Nat) : flipB (flipB bs bit) bit = bs := by
  unfold flipB
  simp only [List.length_modify]
  apply List.ext_getElem?
  intro j
  rw [List.getElem?_modify, List.getElem?_modify]
  cases bs[j]? with
  | none => rfl
  | some x =>
    simp only [Option.map_eq_map, Option.map_some, Option.some.injEq]
    by_cases hj : bit % (8 * bs.length) / 8 = j
    · simp only [if_pos hj]; exact (xorB_all x (Nat.mod_lt _ (show 0 < 8 by decide))).2.1
    · simp only [if_neg hj]
theorem flipB_ne {bs : List UInt8} (bit : Nat) (h : bs ≠ []) : flipB bs bit ≠ bs := by
  intro e
  have hl : 0 < bs.length := List.length_pos_iff.2 h
  have hq : bit % (8 * bs.length) < 8 * bs.length := Nat.mod_lt _ (by omega)
  have hd : bit % (8 * bs.length) / 8 < bs.length := by omega
  have e2 := congrArg (fun l => l[bit % (8 * bs.length) / 8]?) e
  dsimp only [flipB] at e2
  rw [List.getElem?_modify, List.getElem?_eq_getElem hd] at e2
  simp only [Option.map_eq_map, Option.map_some, if_true, Option.some.injEq] at e2
  exact (xorB_all _ (Nat.mod_lt _ (show 0 < 8 by decide))).2.2 e2
set_option maxRecDepth 100000 in
set_option maxHeartbeats 2000000 in
theorem turn_any (B g : Nat) (xs ys : List Pk) (i k bit : Nat) (y p : Pk) (bs : List UInt8) (most seq now lost : Int) (w : World) (h : NetSt B w g xs most seq now lost) (hs : Srt xs ys) (hy : ys[i]? = some y) (hk : xs[k]? = some p) (hpk : p.seq = y.seq) (hfirst : ∀ j x, j < k → xs[j]? = some x → x.seq ≠ y.seq)
    (ho : w.ownsRow 0 5 1 p.v bs.length (bcells bs)) (hbs : bs ≠ []) (hbl : bs.length ≤ 1000000) (hbit : bit ≤ 70000) :
    Calls Try.prog 11 #[.pointer (some ⟨g, 0, none⟩), .int .i64 i, .int .i64 bit] w fun e w' => e = .returned (.bool true) ∧ w'.ownsRow 0 5 1 p.v bs.length (bcells (flipB bs bit)) ∧ NetSt B w' g xs most seq now lost ∧ Mod (fun k => p.v.ownBlock = some k) w w' := by
  obtain ⟨gq, c, b1, q1⟩ := h.row (by have := (List.getElem?_eq_some_iff.1 hk).1; omega)
  have hlen := hs.len
  have hkl := (List.getElem?_eq_some_iff.1 hk).1
  have hl2 : xs.length ≤ 2 := by omega
  have HP := Lib.hid (place_any B g xs ys i k y p most seq now lost w h hs hy hk hpk hfirst)
  obtain ⟨pseq, pto, pdue, pA, pn, pc⟩ := p
  obtain ⟨gb, cb, cur, hv, hbb, hcap, hcm, hcs, htk⟩ : ∃ gb cb cur, (Pk.v ⟨pseq, pto, pdue, pA, pn, pc⟩) = .slice (some ⟨gb, 0, none⟩) bs.length cb ∧ w.heap[gb]? = some (.cells cur 5 (0, 0)) ∧ bs.length ≤ cb ∧ cb ≤ maxLen ∧ cur.size = cb * 1 ∧ cur.toList.take (bs.length * 1) = bcells bs := by
    rcases ho.2 with ⟨_, hn⟩ | ⟨gb, cap, cur, hv, _, a1, a2, a3, a4, a5⟩
    · exact absurd (List.eq_nil_of_length_eq_zero hn) hbs
    · exact ⟨gb, cap, cur, hv, a1, a2, a3, a4, a5⟩
  simp only [Pk.v, Value.slice.injEq] at hv
  obtain ⟨rfl, rfl, rfl⟩ := hv
  have c0 := b1.cell
  have hB0 : 0 < bs.length := List.length_pos_iff.2 hbs
  obtain ⟨q, hq⟩ : ∃ q : Nat, q = bit % (8 * bs.length) := ⟨_, rfl⟩
  have hql : q < 8 * bs.length := by rw [hq]; exact Nat.mod_lt _ (by omega)
  obtain ⟨d, hd⟩ : ∃ d : Nat, d = q / 8 := ⟨_, rfl⟩
  obtain ⟨r, hr⟩ : ∃ r : Nat, r = q % 8 := ⟨_, rfl⟩
  have hdl : d < bs.length := by omega
  obtain ⟨x, hx⟩ : ∃ x, bs[d]? = some x := ⟨_, List.getElem?_eq_getElem hdl⟩
  have p3 : w.cell? ⟨gq, k * 4 + 3, none⟩ = some (.slice (some ⟨gb, 0, none⟩) bs.length pc) := q1.cell hk 3 (by omega)
  have cx : w.cell? ⟨gb, d, none⟩ = some (.int .u8 (x.toNat : Int)) := by
    rw [cell_of_blk hbb]
    have h1 : (bcells bs)[d]? = some (.int .u8 (x.toNat : Int)) := by simp [bcells, hx]
    rw [← htk, List.getElem?_take_of_lt (by omega)] at h1
    simpa using h1
  have fx : w.frozen? ⟨gb, d, none⟩ = false := free_of_blk hbb d
  have e1 : (bit : Int) % (8 * (bs.length : Int)) = (q : Int) := by rw [hq]; push_cast; try rfl
  have e2 : (q : Int) / 8 = (d : Int) := by omega
  have e3 : (q : Int) % 8 = (r : Int) := by omega
  have hb0 : ((bs.length : Int) == 0) = false := by simp; intro e; rw [e] at hB0; simp at hB0
  have hql2 : (q : Int) ≤ 70000 := by have : q ≤ bit := by rw [hq]; exact Nat.mod_le _ _
                                      omega
  have hfl := flipB_at (bs := bs) (bit := bit) (d := d) (r := r) (hd.trans (by rw [hq])) (hr.trans (by rw [hq])) hx
  have H0 := Lib.hid (And.intro hbb (And.intro hfl (And.intro b1 q1))); have HH := Lib.hid (And.intro h (And.intro hcs htk)); clear hbb hx b1 q1 h hs hy hk hpk hfirst ho hbs hq hd hr htk hcs hfl
  have hcells : ∀ W, Mod (fun _ => False) w W → W.cell? ⟨g, 0, none⟩ = some (.slice (some ⟨gq, 0, none⟩) xs.length c) ∧ W.cell? ⟨gq, k * 4 + 3, none⟩ = some (.slice (some ⟨gb, 0, none⟩) bs.length pc) ∧ W.cell? ⟨gb, d, none⟩ = some (.int .u8 (x.toNat : Int)) ∧ W.frozen? ⟨gb, d, none⟩ = false := fun W hW =>
    ⟨(hW.cell (a := ⟨g, 0, none⟩) (lt_of_cell c0) id).trans c0, (hW.cell (a := ⟨gq, k * 4 + 3, none⟩) (lt_of_cell p3) id).trans p3, (hW.cell (a := ⟨gb, d, none⟩) (lt_of_cell cx) id).trans cx, (hW.frozen (a := ⟨gb, d, none⟩) (lt_of_cell cx) id).trans fx⟩
  have HC := Lib.hid hcells; clear hcells c0 p3 cx fx
  go_enter Try.func11, Try.ntmps11
  go_wp2_with fail
  refine HP.out.mono ?_
  rintro e w1 ⟨rfl, hm1⟩
  obtain ⟨c0, p3, cx, fx⟩ := HC.out w1 hm1
  have H1 := Lib.hid hm1; clear hm1
  go_wp2_with fail
  have w1d : IntKind.i64.wrap (d : Int) = d := IntWalk.i64_in _ (by omega)
  have w1r : IntKind.i64.wrap (r : Int) = r := IntWalk.i64_in _ (by omega)
  have hr8 : r < 8 := by omega
  go_region
  all_goals
    have hxv := (xorB_all x hr8).1
    have hw : bits BinOp.xor IntKind.u8 (x.toNat : Int) (2 ^ r % 256) = ((xorB x r).toNat : Int) := hxv.symm
    rw [hw]
    clear hw hxv
    have hb4 : w1.heap[gb]? = some (.cells cur 5 (0, 0)) := (H1.out.block gb (lt_of_blk H0.out.1) id).trans H0.out.1
    have hset : (w1.setCell ⟨gb, d, none⟩ (.int .u8 ((xorB x r).toNat : Int))).drew.heap[gb]? = some (.cells (cur.setIfInBounds d (.int .u8 ((xorB x r).toNat : Int))) 5 (0, 0)) := set_of_blk hb4 d _
    have M4 : Mod (fun k => k = gb) w (w1.setCell ⟨gb, d, none⟩ (.int .u8 ((xorB x r).toNat : Int))).drew := (Mod.setCell (a := ⟨gb, d, none⟩) (H1.out.mono (T := fun k => k = gb) (fun _ h => h.elim)) (.inl rfl) _).drew
    have H4 := Lib.hid (And.intro hset M4)
    clear hset M4 hb4 c0 p3 cx fx w1d w1r
    generalize (w1.setCell ⟨gb, d, none⟩ (.int .u8 ((xorB x r).toNat : Int))).drew = w4 at H4 ⊢
    go_wp2_with fail
    go_ret
    refine ⟨rfl, ?_, HH.out.1.move H4.out.2 (fun k hk => ?_), H4.out.2.mono (fun k hk => by have hk : k = gb := hk; rw [hk]; rfl)⟩
    · refine ⟨by rw [bcells_length, flipB_len]; omega, .inr ⟨gb, pc, _, rfl, Nat.zero_le _, H4.out.1, hcap, hcm, by simpa using HH.out.2.1, ?_⟩⟩
      rw [Array.toList_setIfInBounds, Nat.mul_one, List.take_set]
      have := HH.out.2.2
      rw [Nat.mul_one] at this
      rw [this, H0.out.2.1]
      simp [bcells, List.map_set]
    · have hk : k = gb := hk
      subst hk
      exact HH.out.1.not H0.out.1 (by decide) (by decide)
set_option maxRecDepth 100000 in
set_option maxHeartbeats 1000000 in
theorem turn_none (B g : Nat) (xs ys : List Pk) (i k bit : Nat) (y p : Pk) (A : Option Addr) (c9 : Nat) (most seq now lost : Int) (w : World) (h : NetSt B w g xs most seq now lost) (hs : Srt xs ys) (hy : ys[i]? = some y) (hk : xs[k]? = some p) (hpk : p.seq = y.seq) (hfirst : ∀ j x, j < k → xs[j]? = some x → x.seq ≠ y.seq)
    (hp : p.v = .slice A 0 c9) :
    Calls Try.prog 11 #[.pointer (some ⟨g, 0, none⟩), .int .i64 i, .int .i64 bit] w fun e w' => e = .returned (.bool false) ∧ Mod (fun _ => False) w w' := by
  obtain ⟨gq, c, b1, q1⟩ := h.row (by have := (List.getElem?_eq_some_iff.1 hk).1; omega)
  have hlen := hs.len
  have hkl := (List.getElem?_eq_some_iff.1 hk).1
  have hl2 : xs.length ≤ 2 := by omega
  have HP := Lib.hid (place_any B g xs ys i k y p most seq now lost w h hs hy hk hpk hfirst)
  have c0 := b1.cell
  have p3 : w.cell? ⟨gq, k * 4 + 3, none⟩ = some (.slice A 0 c9) := by rw [q1.cell hk 3 (by omega), ← hp]; rfl
  clear h hs hy hk hpk hfirst b1 q1 hp
  have hcells : ∀ W, Mod (fun _ => False) w W → W.cell? ⟨g, 0, none⟩ = some (.slice (some ⟨gq, 0, none⟩) xs.length c) ∧ W.cell? ⟨gq, k * 4 + 3, none⟩ = some (.slice A 0 c9) := fun W hW =>
    ⟨(hW.cell (a := ⟨g, 0, none⟩) (lt_of_cell c0) id).trans c0, (hW.cell (a := ⟨gq, k * 4 + 3, none⟩) (lt_of_cell p3) id).trans p3⟩
  have HC := Lib.hid hcells; clear hcells c0 p3
  go_enter Try.func11, Try.ntmps11
  go_wp2_with fail
  refine HP.out.mono ?_
  rintro e w1 ⟨rfl, hm1⟩
  obtain ⟨c0, p3⟩ := HC.out w1 hm1
  have H1 := Lib.hid hm1; clear hm1
  go_wp2_with fail
  go_ret
  exact ⟨rfl, H1.out⟩
set_option maxRecDepth 100000 in
set_option maxHeartbeats 1000000 in
theorem at_any (B g : Nat) (xs ys : List Pk) (i k : Nat) (y p : Pk) (bs : List UInt8) (most seq now lost : Int) (w : World) (h : NetSt B w g xs most seq now lost) (hs : Srt xs ys) (hy : ys[i]? = some y) (hk : xs[k]? = some p) (hpk : p.seq = y.seq) (hfirst : ∀ j x, j < k → xs[j]? = some x → x.seq ≠ y.seq)
    (ho : w.ownsRow 0 5 1 p.v bs.length (bcells bs)) (hbl : bs.length ≤ 100000000) :
    Calls Try.prog 12 #[.pointer (some ⟨g, 0, none⟩), .int .i64 i] w fun e w' => ∃ A' c', e = .returned (.tuple #[.agg #[.int .i64 p.seq, .int .i64 p.to, .int .i64 p.due, .slice A' bs.length c'], .bool true]) ∧ w'.ownsRow w.heap.size 5 1 (.slice A' bs.length c') bs.length (bcells bs) ∧ Mod (fun _ => False) w w' := by
  obtain ⟨gq, c, b1, q1⟩ := h.row (by have := (List.getElem?_eq_some_iff.1 hk).1; omega)
  have hlen := hs.len
  have hkl := (List.getElem?_eq_some_iff.1 hk).1
  have hl2 : xs.length ≤ 2 := by omega
  have H0 := Lib.hid (And.intro h (And.intro hs (And.intro hy (And.intro hk (And.intro hpk (And.intro hfirst (And.intro ho (And.intro b1 q1)))))))); clear h hs hy hk hpk hfirst ho b1 q1
  go_enter Try.func12, Try.ntmps12
  go_wp2_with (refine wpList_alloc_new rfl 35 rfl zeroPk (by kernel_rfl) ?_)
  intro gz w1 hgz hz1 hm1
  have HP := Lib.hid (place_any B g xs ys i k y p most seq now lost w1 (H0.out.1.move (hm1 fun _ => False) (fun _ h => h.elim)) H0.out.2.1 H0.out.2.2.1 H0.out.2.2.2.1 H0.out.2.2.2.2.1 H0.out.2.2.2.2.2.1)
  have H1 := Lib.hid (And.intro hgz (And.intro hz1 (hm1 fun _ => False))); clear hgz hz1 hm1
  go_wp2_with fail
  refine HP.out.mono ?_
  rintro e w2 ⟨rfl, hm2⟩
  have M2 : Mod (fun _ => False) w w2 := H1.out.2.2.trans hm2 (fun _ h => h.elim)
  have z2 := (hm2.block gz (lt_of_blk H1.out.2.1) id).trans H1.out.2.1
  have c2 : w2.cell? ⟨g, 0, none⟩ = some (.slice (some ⟨gq, 0, none⟩) xs.length c) := (H0.out.2.2.2.2.2.2.2.1.mod M2 id).cell
  have q2 : QRow w2 gq c xs := H0.out.2.2.2.2.2.2.2.2.move (M2.block gq H0.out.2.2.2.2.2.2.2.2.lt id)
  have r2 : ∀ t u, p.cells[t]? = some u → w2.cell? ((⟨gq, k * 4, none⟩ : Addr).add t) = some u := fun t u hu => by
    rw [add_own, q2.cell H0.out.2.2.2.1 t (by have := (List.getElem?_eq_some_iff.1 hu).1; simpa [Pk.cells] using this)]; exact hu
  have o2 : w2.ownsRow 0 5 1 (.slice p.A p.n p.c) bs.length (bcells bs) := own_move H0.out.2.2.2.2.2.2.1 (fun t ht => M2.block t (H0.out.2.2.2.2.2.2.1.lt t ht).2 id)
  have HC := Lib.hid (copied_any p.seq p.to p.due p.A p.n p.c bs 0 w2 o2 hbl)
  have H2 := Lib.hid (And.intro M2 (And.intro z2 r2)); clear M2 z2 q2 r2 o2 hm2
  go_wp2_with (refine wpList_load_agg rfl 35 (.tmp 18) rfl Try.underlying35 Try.info_pk1 ⟨gq, k * 4, none⟩ rfl p.cells rfl (fun t u hu => H2.out.2.2 t u hu) ?_)
  refine HC.out.mono ?_
  rintro e w3 ⟨A', c', rfl, ho3, hm3⟩
  have z3 := (hm3.block gz (lt_of_blk H2.out.2.1) id).trans H2.out.2.1
  have H3 := Lib.hid (And.intro ho3 (And.intro hm3 z3)); clear ho3 hm3 z3
  go_wp2_with (refine wpList_store_var rfl 35 _ _ rfl gz 35 zeroPk [.int .i64 p.seq, .int .i64 p.to, .int .i64 p.due, .slice A' bs.length c'] H3.out.2.2 rfl rfl Try.info_pk1 rfl (pk_one ⟨p.seq, p.to, p.due, A', bs.length, c'⟩) ?_)
  intro w4 hb4 hm4
  have H4 := Lib.hid (And.intro hb4 hm4); clear hb4 hm4
  go_wp2_with fail
  refine bodyPost_ret (results_agg2 rfl _ _ gz 35 [.int .i64 p.seq, .int .i64 p.to, .int .i64 p.due, .slice A' bs.length c'] (0, 0) rfl H4.out.1 Try.underlying35 Try.info_pk1) rfl ?_
  have hz := lt_of_blk H2.out.2.1
  have hsz := H2.out.1.size
  have o4 := own_move H3.out.1 (fun t ht => H4.out.2.block t (H3.out.1.lt t ht).2 (by have := (H3.out.1.lt t ht).1; intro e; have e : t = gz := e; omega))
  refine ⟨A', c', rfl, ⟨o4.1, o4.2.imp id (fun ⟨g, c1, cu, q1, q2, q3⟩ => ⟨g, c1, cu, q1, by omega, q3⟩)⟩, (H2.out.1.trans H3.out.2.1 (fun _ h => h.elim)).trans H4.out.2 (fun t ht => .inr (by have ht : t = gz := ht; rw [ht]; exact H1.out.1))⟩
set_option maxRecDepth 100000 in
set_option maxHeartbeats 1000000 in
theorem copy_any (B g : Nat) (xs ys : List Pk) (i k : Nat) (y p : Pk) (bs : List UInt8) (delay most seq now lost : Int) (w : World) (h : NetSt B w g xs most seq now lost) (hs : Srt xs ys) (hy : ys[i]? = some y) (hk : xs[k]? = some p) (hpk : p.seq = y.seq) (hfirst : ∀ j x, j < k → xs[j]? = some x → x.seq ≠ y.seq)
    (ho : w.ownsRow 0 5 1 p.v bs.length (bcells bs)) (hbl : bs.length ≤ 100000000) (hf : (xs.length : Int) < most) (hn : 0 ≤ now ∧ now ≤ 1000000) (hsq : 0 ≤ seq ∧ seq ≤ 1000000) :
    Calls Try.prog 13 #[.pointer (some ⟨g, 0, none⟩), .int .i64 i, .int .i64 delay] w fun e w' => e = .returned (.bool true) ∧ ∃ p' : Pk, p'.seq = seq ∧ p'.to = p.to ∧ p'.due = dueOf now delay ∧ w'.ownsRow w.heap.size 5 1 p'.v bs.length (bcells bs) ∧ NetSt B w' g (pushL ltK xs p') most (seq + 1) now lost ∧ NMod g w w' := by
  have hlen := hs.len
  have HA := Lib.hid (at_any B g xs ys i k y p bs most seq now lost w h hs hy hk hpk hfirst ho hbl)
  have H0 := Lib.hid h; clear h hs hy hk hpk hfirst ho
  go_enter Try.func13, Try.ntmps13
  go_wp2_with fail
  refine HA.out.mono ?_
  rintro e w1 ⟨A', c', rfl, ho1, hm1⟩
  have H1 := Lib.hid (And.intro ho1 hm1); clear ho1 hm1
  go_wp2_with (first
    | (refine wpList_alloc_agg rfl 35 rfl zeroPk.toArray (by kernel_rfl) ?_)
    | (refine wpList_store_new rfl 35 _ _ rfl 35 zeroPk.toArray [.int .i64 p.seq, .int .i64 p.to, .int .i64 p.due, .slice A' bs.length c'] rfl rfl Try.info_pk1 rfl (pk_one ⟨p.seq, p.to, p.due, A', bs.length, c'⟩) ?_))
  obtain ⟨W, hW⟩ : ∃ W, W = w1.alloc (.cells #[.int .i64 p.seq, .int .i64 p.to, .int .i64 p.due, .slice A' bs.length c'] 35) := ⟨_, rfl⟩
  rw [← hW]
  have MW : Mod (fun _ => False) w W := by rw [hW]; exact H1.out.2.alloc _
  have oW : W.ownsRow w.heap.size 5 1 (.slice A' bs.length c') bs.length (bcells bs) := by rw [hW]; exact H1.out.1.alloc _
  have HS := Lib.hid (send_ok B g xs most seq now lost p.to delay A' bs.length c' bs _ W (H0.out.move MW (fun _ h => h.elim)) (by omega) hf hn hsq (reads_bytes oW (by omega)) hbl)
  have HM := Lib.hid MW; clear MW oW hW
  refine HS.out.mono ?_
  rintro e w2 ⟨rfl, p', s1, s2, s3, s4, s5, s6⟩
  have HX := Lib.hid (And.intro s1 (And.intro s2 (And.intro s3 (And.intro s4 (And.intro s5 s6))))); clear s1 s2 s3 s4 s5 s6
  go_wp2_with fail
  go_ret
  have hsz := HM.out.size
  exact ⟨rfl, p', HX.out.1, HX.out.2.1, HX.out.2.2.1, ⟨HX.out.2.2.2.1.1, HX.out.2.2.2.1.2.imp id (fun ⟨g, c1, cu, q1, q2, q3⟩ => ⟨g, c1, cu, q1, by omega, q3⟩)⟩, HX.out.2.2.2.2.1, (NMod.none HM.out H0.out.lt).trans HX.out.2.2.2.2.2⟩
end Go.Proofs.Ytlimjdejcjgocaa
