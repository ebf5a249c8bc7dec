/- Layer 22: Keep's parts: one more in its place, whichever way. -/
import Derived.Test.YtgdadhpcooegnaaQuorum9
namespace Go.Proofs.Ytgdadhpcooegnaa
open Go.RowKit
set_option linter.unusedVariables false
theorem ins_rel {α : Type} {R : Rd α} {w : World} {ok : Nat → Prop} {rest cs : List Value} {l : List α} {m : α} {i : Nat} (hrest : rest.length = l.length * R.sz) (hi : i ≤ l.length)
    (hr : ∀ j x, l[j]? = some x → R.rel w ok ((rest.drop (j * R.sz)).take R.sz) x) (hm : R.rel w ok cs m) :
    ∀ j x, (l.take i ++ m :: l.drop i)[j]? = some x → R.rel w ok (((rest.take (i * R.sz) ++ (cs ++ rest.drop (i * R.sz))).drop (j * R.sz)).take R.sz) x := by
  have hcs := R.len hm
  have hle : i * R.sz ≤ rest.length := by rw [hrest]; exact Nat.mul_le_mul_right _ hi
  have ht : (rest.take (i * R.sz)).length = i * R.sz := by rw [List.length_take]; omega
  have htl : (l.take i).length = i := by rw [List.length_take]; omega
  intro j x hj
  by_cases h1 : j < i
  · rw [List.getElem?_append_left (by omega), List.getElem?_take_of_lt h1] at hj
    rw [drop_take_left ht h1]
    have h2 : j * R.sz + R.sz ≤ i * R.sz := by rw [← Nat.succ_mul]; exact Nat.mul_le_mul_right _ h1
    have : ((rest.take (i * R.sz)).drop (j * R.sz)).take R.sz = (rest.drop (j * R.sz)).take R.sz := by
      rw [List.drop_take, List.take_take]
      congr 1
      omega
    rw [this]
    exact hr j x hj
  · rw [List.getElem?_append_right (by omega), htl] at hj
    rw [drop_take_right ht (by omega)]
    obtain ⟨d, rfl⟩ : ∃ d, j = i + d := ⟨j - i, by omega⟩
    rw [Nat.add_sub_cancel_left] at hj ⊢
    cases d with
    | zero =>
      have : m = x := by simpa using hj
      subst this
      rw [Nat.zero_mul, List.drop_zero, List.take_append_of_le_length (by omega), List.take_of_length_le (by omega)]
      exact hm
    | succ d =>
      have hd : l[i + d]? = some x := by simpa [List.getElem?_drop] using hj
      have := hr (i + d) x hd
      rw [Nat.succ_mul, Nat.add_comm (d * R.sz), ← hcs, ← List.drop_drop, List.drop_left, hcs, List.drop_drop, ← Nat.add_mul]
      exact this
theorem own_mk {α : Type} {R : Rd α} {e : TypeId} {w : World} {base : Nat} {S : Nat → Prop} {g c : Nat} {xs : List α} {cells sp : List Value} (hb : base ≤ g) (hg : w.heap[g]? = some (.cells (cells ++ sp).toArray e (0, 0)))
    (hl : cells.length = xs.length * R.sz) (hc : (cells ++ sp).length = c * R.sz) (hle : xs.length ≤ c) (hcm : c ≤ maxLen) (hr : ∀ j x, xs[j]? = some x → R.rel w (fun k => S k ∧ k ≠ g) ((cells.drop (j * R.sz)).take R.sz) x) :
    OwnR R e w base S (.slice (some ⟨g, 0, none⟩) xs.length c) xs := by
  refine ⟨cells, ⟨hl, .inr ⟨g, c, (cells ++ sp).toArray, rfl, hb, hg, hle, hcm, by simpa using hc, ?_⟩⟩, fun j x hj => Rd.mono (hr j x hj) (fun k hk => ⟨hk.1, fun e => hk.2 ?_⟩)⟩
  · simp only [← hl]
    simp
  · simpa [Value.ownBlock] using e
theorem insert_any (A : Option Addr) (n c i : Nat) (l : List Msg) (m : Msg) (gx : Nat) (cs : List Value) (base : Nat) (S : Nat → Prop) (w : World) (hO : OwnR MsgR 40 w base S (.slice A n c) l) (hn : n = l.length) (hi : i ≤ n) (hl : l.length ≤ 1000000) (hb : base ≤ w.heap.size)
    (hg : w.heap[gx]? = some (.cells cs.toArray 40 (0, 0))) (hm : MsgR.rel w (fun k => S k ∧ some k ≠ (Value.slice A n c).ownBlock) cs m) (hgx : some gx ≠ (Value.slice A n c).ownBlock) (hS : ∀ k, S k → k < w.heap.size) :
    Calls Try.prog 44 #[.slice A n c, .int .i64 (i : Nat), .slice (some ⟨gx, 0, none⟩) 1 1] w fun e w' => ∃ A' c', e = .returned (.slice A' (l.length + 1) c') ∧ OwnR MsgR 40 w' base S (.slice A' (l.length + 1) c') (l.take i ++ m :: l.drop i) ∧ Mod (fun k => (Value.slice A n c).ownBlock = some k) w w' := by
  by_cases hin : i = n
  · have := insert_end A n c i l m gx cs base S w hO hn hin hl hb hg hm
    refine this.mono ?_
    rintro e w' ⟨A', c', he, hO', hm'⟩
    refine ⟨A', c', he, ?_, hm'⟩
    rw [hin, hn, List.take_length, List.drop_length]
    exact hO'
  · obtain ⟨g, cur, rfl, -, hbg, hgg, hnc, hcm, hcur, hrel, hone⟩ := own_blk hO (by intro h; subst h; simp at hn; omega)
    have hne : gx ≠ g := fun e => hgx (by rw [e]; rfl)
    have hcs := MsgR_len hm
    have hrest : (cur.take (n * 35)).length = l.length * 35 := by rw [List.length_take, hcur]; show min (n * 35) (c * 35) = _; omega
    have hcur' : cur.length = c * 35 := hcur
    have hmr : MsgR.rel w (fun k => S k ∧ k ≠ g) cs m := Rd.mono hm (fun k hk => ⟨hk.1, fun e => hk.2 (by rw [e]; rfl)⟩)
    have hins := ins_rel (R := MsgR) (rest := cur.take (n * 35)) (i := i) hrest (by omega) hrel hmr
    have hlen1 : (l.take i ++ m :: l.drop i).length = l.length + 1 := by simp; omega
    by_cases hroom : n < c
    · refine (insert_room g n c i l m gx cs cur w hn (by omega) hl hroom hcm hg hgg hcur' hcs hne hone (MsgR.one hm)).mono ?_
      rintro e w' ⟨rfl, hg', hm'⟩
      refine ⟨_, c, by rw [hn], ?_, hm'.mono (fun k hk => by rw [hk]; rfl)⟩
      have ht1 : (cur.take (n * 35)).take (i * 35) = cur.take (i * 35) := by rw [List.take_take]; congr 1; omega
      have := own_mk (R := MsgR) (e := 40) (S := S) (c := c) (xs := l.take i ++ m :: l.drop i) (cells := (cur.take (n * 35)).take (i * 35) ++ (cs ++ (cur.take (n * 35)).drop (i * 35))) (sp := cur.drop ((n + 1) * 35)) hbg (by rw [hg', ht1]; simp)
        (by rw [hlen1]; show _ = (l.length + 1) * 35; simp only [List.length_append, List.length_take, List.length_drop, hcs]; omega)
        (by show _ = c * 35; simp only [List.length_append, List.length_take, List.length_drop, hcs]; omega) (by rw [hlen1]; omega) hcm
        (fun j x hj => MsgR.step (fun k hk hl => ⟨hk, hm'.block k hl hk.2⟩) (hins j x hj))
      rw [hlen1] at this
      exact this
    · have hceq : c = n := by omega
      refine (insert_grow g n c i gx cs cur w (by omega) (by omega) hceq hg hgg hcur' hcs (by rw [← List.take_of_length_le (show cur.length ≤ n * 35 by omega)]; exact hone) (MsgR.one hm)).mono ?_
      rintro e w' ⟨c', sp, rfl, hg', hsp, hc1, hc2, hm'⟩
      have htk : cur.take (n * 35) = cur := List.take_of_length_le (by omega)
      rw [htk] at hins
      refine ⟨_, c', by rw [hn], ?_, hm'.mono (fun k hk => hk.elim)⟩
      have := own_mk (R := MsgR) (e := 40) (S := S) (base := base) (c := c') (xs := l.take i ++ m :: l.drop i) (cells := cur.take (i * 35) ++ (cs ++ cur.drop (i * 35))) (sp := sp) hb (by rw [hg']; simp)
        (by rw [hlen1]; show _ = (l.length + 1) * 35; simp only [List.length_append, List.length_take, List.length_drop, hcs]; omega)
        (by show _ = c' * 35; simp only [List.length_append, List.length_take, List.length_drop, hcs]; omega) (by rw [hlen1]; omega) hc2
        (fun j x hj => MsgR.step (fun k hk hl => ⟨⟨hk.1, by omega⟩, hm'.block k hl id⟩) (hins j x hj))
      rw [hlen1] at this
      exact this
end Go.Proofs.Ytgdadhpcooegnaa
