/- Layer 29, the laws: what NetOnce keeps from round to round. -/
import Derived.Test.YtlimjdejcjgocaaNet15
import Derived.Test.YtlimjdejcjgocaaNetR
import Derived.Test.YtlimjdejcjgocaaMapI
namespace Go.Proofs.Ytlimjdejcjgocaa
open Go.RowKit
set_option linter.unusedVariables false
structure SentQ (w : World) (L : List NOp) (xs : List Pk) (m : Nat) : Prop where
  heap : Heap ltK xs xs.length
  nodup : (xs.map (·.seq)).Nodup
  each : ∀ p ∈ xs, ∃ j o, j < m ∧ L[j]? = some o ∧ p.seq = (j : Int) ∧ 0 ≤ p.due ∧ p.due ≤ 1000 ∧ w.ownsRow 0 5 1 p.v o.b.length (bcells o.b)
theorem SentQ.move {w w1 : World} {L : List NOp} {xs : List Pk} {m : Nat} (h : SentQ w L xs m) (hm : ∀ (v : Value) (bs : List UInt8), w.ownsRow 0 5 1 v bs.length (bcells bs) → w1.ownsRow 0 5 1 v bs.length (bcells bs)) : SentQ w1 L xs m :=
  ⟨h.heap, h.nodup, fun p hp => by obtain ⟨j, o, a, b, c, d, e, f⟩ := h.each p hp; exact ⟨j, o, a, b, c, d, e, hm _ _ f⟩⟩
theorem SentQ.send {w w1 : World} {L : List NOp} {xs : List Pk} {m : Nat} {p : Pk} {o : NOp} (h : SentQ w L xs m) (hm : ∀ (v : Value) (bs : List UInt8), w.ownsRow 0 5 1 v bs.length (bcells bs) → w1.ownsRow 0 5 1 v bs.length (bcells bs))
    (ho : L[m]? = some o) (hs : p.seq = (m : Int)) (hd : p.due = dueOf 0 o.n) (hb : w1.ownsRow 0 5 1 p.v o.b.length (bcells o.b)) : SentQ w1 L (pushL ltK xs p) (m + 1) := by
  have hp := pushL_perm (lt := ltK) xs p
  refine ⟨pushL_heap ltK_ord xs p h.heap, ?_, fun q hq => ?_⟩
  · refine ((hp.map _).nodup_iff).2 ?_
    rw [List.map_append, List.nodup_append]
    refine ⟨h.nodup, by simp, fun a ha b hb2 e => ?_⟩
    simp only [List.map_cons, List.map_nil, List.mem_singleton] at hb2
    obtain ⟨q, hq, rfl⟩ := List.mem_map.1 ha
    obtain ⟨j, _, hj, _, hjs, _⟩ := h.each q hq
    rw [hb2, hs, hjs] at e
    omega
  · rcases List.mem_append.1 (hp.mem_iff.1 hq) with hq | hq
    · obtain ⟨j, o', a, b, c, d, e, f⟩ := h.each q hq
      exact ⟨j, o', by omega, b, c, d, e, hm _ _ f⟩
    · obtain rfl := List.mem_singleton.1 hq
      refine ⟨m, o, by omega, ho, hs, ?_, ?_, hb⟩ <;> rw [hd] <;> unfold dueOf <;> omega
theorem SentQ.nil (w : World) (L : List NOp) : SentQ w L [] 0 := ⟨fun k a b => by simp at b, by simp, fun p hp => by simp at hp⟩
theorem SentQ.pop {w w1 : World} {L : List NOp} {xs : List Pk} {m : Nat} {x : Pk} (h : SentQ w L xs m) (hm : ∀ (v : Value) (bs : List UInt8), w.ownsRow 0 5 1 v bs.length (bcells bs) → w1.ownsRow 0 5 1 v bs.length (bcells bs)) (hx : xs[0]? = some x) :
    SentQ w1 L ((popL ltK xs).take (xs.length - 1)) m ∧ (∀ p ∈ (popL ltK xs).take (xs.length - 1), p ∈ xs ∧ p.seq ≠ x.seq ∧ x.due ≤ p.due) ∧ x ∈ xs := by
  have hp := popL_perm (lt := ltK) hx
  have hl := (List.getElem?_eq_some_iff.1 hx).1
  have hnd : ((x :: (popL ltK xs).take (xs.length - 1)).map (·.seq)).Nodup := ((hp.map _).nodup_iff).2 h.nodup
  rw [List.map_cons, List.nodup_cons] at hnd
  have hxm : x ∈ xs := hp.mem_iff.1 (.head _)
  have hsub : ∀ p ∈ (popL ltK xs).take (xs.length - 1), p ∈ xs := fun p hpm => hp.mem_iff.1 (.tail _ hpm)
  refine ⟨⟨popL_heap ltK_ord h.heap hl, hnd.2, fun p hpm => ?_⟩, fun p hpm => ⟨hsub p hpm, fun e => hnd.1 (e ▸ List.mem_map.2 ⟨p, hpm, rfl⟩), ?_⟩, hxm⟩
  · obtain ⟨j, o, a, b, c, d, e, f⟩ := h.each p (hsub p hpm)
    exact ⟨j, o, a, b, c, d, e, hm _ _ f⟩
  · have := popL_least ltK_ord h.heap hx p (hsub p hpm)
    rw [ltK_no] at this
    omega
theorem updI_none {vs : List (Int × Value)} {k k' : Int} {u : Value} (h : vs.lookup k' = none) (hne : k' ≠ k) : (updI vs k u).lookup k' = none := by
  rw [List.lookup_eq_none_iff] at h ⊢
  intro p hp
  unfold updI at hp
  split at hp
  · obtain ⟨q, hq, rfl⟩ := List.mem_map.1 hp
    split
    · simp; exact hne
    · exact h q hq
  · rcases List.mem_append.1 hp with hp | hp
    · exact h p hp
    · rw [List.mem_singleton.1 hp]; simp; exact hne
def strs (L : List NOp) (m : Nat) : List Value := (L.take m).map fun o => .string (mkStr o.b)
theorem strs_length {L : List NOp} {m : Nat} (h : m ≤ L.length) : (strs L m).length = m := by simp [strs]; omega
theorem strs_snoc {L : List NOp} {m : Nat} {o : NOp} (h : L[m]? = some o) : strs L (m + 1) = strs L m ++ [.string (mkStr o.b)] := by
  unfold strs; rw [List.take_add_one, h]; simp
theorem strs_get {L : List NOp} {m j : Nat} {o : NOp} (hj : j < m) (h : L[j]? = some o) : (strs L m)[j]? = some (.string (mkStr o.b)) := by
  unfold strs; rw [List.getElem?_map, List.getElem?_take_of_lt hj, h]; rfl
theorem own_strs_net {B : Nat} {w w1 : World} {g : Nat} {xs : List Pk} {most seq now lost : Int} {base n : Nat} {v : Value} {cs : List Value} (hst : NetSt B w g xs most seq now lost) (h : w.ownsRow base 9 1 v n cs) (hm : NMod g w w1) : w1.ownsRow base 9 1 v n cs := by
  refine own_move h (fun k hk => ?_)
  rcases h.2 with ⟨rfl, _⟩ | ⟨g, cap, cur, rfl, _, hb, _⟩
  · simp [Value.ownBlock] at hk
  · simp only [Value.ownBlock, Option.some.injEq] at hk
    subst hk
    exact hm.mod.block _ (lt_of_blk hb) (hst.not hb (by decide) (by decide))
theorem own_quiet {w w1 : World} {base n : Nat} {e : TypeId} {size : Nat} {v : Value} {cs : List Value} (h : w.ownsRow base e size v n cs) (hm : Mod (fun _ => False) w w1) : w1.ownsRow base e size v n cs := own_move h (fun k hk => hm.block k (h.lt k hk).2 id)
/-- while it is sent: k operations are done, m of them were taken in -/
structure O1 (W0 w : World) (g : Nat) (L : List NOp) (k m : Nat) (v : Value) (xs : List Pk) : Prop where
  ns : NS W0 w g xs 256 m 0 ((k : Int) - m)
  q : SentQ w L xs m
  len : xs.length = m
  row : w.ownsRow W0.heap.size 9 1 v m (strs L m)
  ms : m = min k 256
end Go.Proofs.Ytlimjdejcjgocaa
