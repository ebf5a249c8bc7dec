/- Layer 29, the laws: what NetOnce keeps while it pops. -/
import Derived.Test.YtlimjdejcjgocaaNetQ
namespace Go.Proofs.Ytlimjdejcjgocaa
open Go.RowKit
set_option linter.unusedVariables false
theorem NetSt.notMap {B : Nat} {w : World} {g : Nat} {xs : List Pk} {most seq now lost : Int} (h : NetSt B w g xs most seq now lost) {b : Nat} {vs : List (Int × Value)} (hm : MapAtI w b vs) : ¬ NetB g w b := by
  intro hk
  obtain ⟨_, cs', T', fr', hb', hT⟩ := h.netB hk
  obtain ⟨es, clock, hb, _⟩ := hm
  rw [hb] at hb'
  simp at hb'
theorem own_notMap {w : World} {base n : Nat} {e : TypeId} {size : Nat} {v : Value} {cs : List Value} (h : w.ownsRow base e size v n cs) {b : Nat} {vs : List (Int × Value)} (hm : MapAtI w b vs) : v.ownBlock ≠ some b := by
  intro hk
  obtain ⟨es, clock, hb, _⟩ := hm
  rcases h.2 with ⟨rfl, _⟩ | ⟨g', cap, cur, rfl, _, hb', _⟩
  · simp [Value.ownBlock] at hk
  · simp only [Value.ownBlock, Option.some.injEq] at hk
    subst hk
    rw [hb] at hb'
    simp at hb'
theorem own_at1K {w : World} {base : Nat} {e : TypeId} {v : Value} {n : Nat} {xs : List Value} (h : w.ownsRow base e 1 v n xs) {j : Nat} {x : Value} (hj : xs[j]? = some x) : ∃ g c, v = .slice (some ⟨g, 0, none⟩) n c ∧ w.cell? ⟨g, j, none⟩ = some x := by
  obtain ⟨h1, h2⟩ := h
  have hlt := (List.getElem?_eq_some_iff.1 hj).1
  rcases h2 with ⟨_, h2⟩ | ⟨g, cap, cur, rfl, hg, hb, hn, hm, hs, ht⟩
  · omega
  · refine ⟨g, cap, rfl, ?_⟩
    rw [Lib.cell_of_heap hb, ← Array.getElem?_toList]
    rw [← ht, List.getElem?_take] at hj
    split at hj
    · exact hj
    · cases hj
theorem zeroBK (w : World) : (zeroValue 4).run Try.prog w = .ok (.bool false) w := by kernel_rfl
/-- while it is popped -/
structure O2 (W0 w : World) (g b : Nat) (L : List NOp) (m : Nat) (v : Value) (ys : List Pk) (due lost : Int) (vs : List (Int × Value)) : Prop where
  ns : NS W0 w g ys 256 m due lost
  q : SentQ w L ys m
  row : w.ownsRow W0.heap.size 9 1 v m (strs L m)
  map : MapAtI w b vs
  bnew : W0.heap.size ≤ b
  vsn : ∀ p ∈ ys, vs.lookup p.seq = none
  lo : ∀ p ∈ ys, due ≤ p.due
theorem O2.quiet {W0 w w1 : World} {g b : Nat} {L : List NOp} {m : Nat} {v : Value} {ys : List Pk} {due lost : Int} {vs : List (Int × Value)} (h : O2 W0 w g b L m v ys due lost vs) (hm : Mod (fun _ => False) w w1) : O2 W0 w1 g b L m v ys due lost vs :=
  ⟨h.ns.quiet hm, h.q.move (fun _ _ k => own_quiet k hm), own_quiet h.row hm, h.map.move (hm.block b h.map.lt id), h.bnew, h.vsn, h.lo⟩
theorem O2.pop {W0 w w1 : World} {g b : Nat} {L : List NOp} {m : Nat} {v : Value} {ys : List Pk} {due lost : Int} {vs : List (Int × Value)} {x : Pk} (h : O2 W0 w g b L m v ys due lost vs) (hx : ys[0]? = some x)
    (hst : NetSt W0.heap.size w1 g ((popL ltK ys).take (ys.length - 1)) 256 m (max due x.due) lost) (hm : NMod g w w1) :
    O2 W0 w1 g b L m v ((popL ltK ys).take (ys.length - 1)) x.due lost vs ∧ (∀ p ∈ (popL ltK ys).take (ys.length - 1), p.seq ≠ x.seq) ∧ vs.lookup x.seq = none ∧ due ≤ x.due ∧
      ∃ j o, j < m ∧ L[j]? = some o ∧ x.seq = (j : Int) ∧ 0 ≤ x.due ∧ x.due ≤ 1000 ∧ w1.ownsRow 0 5 1 x.v o.b.length (bcells o.b) := by
  obtain ⟨q1, q2, q3⟩ := h.q.pop (w1 := w1) (fun _ _ k => own_net h.ns.st k hm) hx
  have hlo := h.lo x q3
  have mx : max due x.due = x.due := by omega
  rw [mx] at hst
  have k1 := hm.keep h.map.lt (h.ns.st.notMap h.map)
  obtain ⟨j, o, a, c, d, e, f, o1⟩ := h.q.each x q3
  exact ⟨⟨h.ns.step hst hm, q1, own_strs_net h.ns.st h.row hm, h.map.move k1.1, h.bnew, fun p hp => h.vsn p (q2 p hp).1, fun p hp => (q2 p hp).2.2⟩, fun p hp => (q2 p hp).2.1, h.vsn x q3, hlo, j, o, a, c, d, e, f, own_net h.ns.st o1 hm⟩
theorem O2.update {W0 w w1 : World} {g b : Nat} {L : List NOp} {m : Nat} {v : Value} {ys : List Pk} {due lost : Int} {vs : List (Int × Value)} {k : Int} {u : Value} (h : O2 W0 w g b L m v ys due lost vs) (hno : ∀ p ∈ ys, p.seq ≠ k)
    (hmap : MapAtI w1 b (updI vs k u)) (hm : Mod (fun j => j = b) w w1) : O2 W0 w1 g b L m v ys due lost (updI vs k u) :=
  ⟨⟨h.ns.st.move hm (fun k hk => by subst hk; exact h.ns.st.notMap h.map), h.ns.m.trans hm (fun k hk => .inr (by subst hk; exact h.bnew))⟩,
   h.q.move (fun _ _ k => own_move k (fun i hi => hm.block i (k.lt i hi).2 (fun e => own_notMap k h.map (e ▸ hi)))),
   own_move h.row (fun i hi => hm.block i (h.row.lt i hi).2 (fun e => own_notMap h.row h.map (e ▸ hi))),
   hmap, h.bnew, fun p hp => updI_none (h.vsn p hp) (hno p hp), h.lo⟩
theorem O2.start {W0 w w1 : World} {g : Nat} {L : List NOp} {m : Nat} {v : Value} {xs : List Pk} (h : O1 W0 w g L L.length m v xs) (hw : w1 = w.alloc (.map #[] 0)) : O2 W0 w1 g w.heap.size L m v xs 0 ((L.length : Int) - m) [] := by
  have hm : Mod (fun _ => False) w w1 := by rw [hw]; exact (Mod.refl _ _).alloc _
  refine ⟨h.ns.quiet hm, h.q.move (fun _ _ k => own_quiet k hm), own_quiet h.row hm, by rw [hw]; exact MapAtI.made w, h.ns.m.size, fun _ _ => rfl, fun p hp => ?_⟩
  obtain ⟨j, o, a, c, d, e, f, o1⟩ := h.q.each p hp
  exact e
end Go.Proofs.Ytlimjdejcjgocaa
