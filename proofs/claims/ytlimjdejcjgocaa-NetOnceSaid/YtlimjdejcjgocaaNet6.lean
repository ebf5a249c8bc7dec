/- Layer 29: the net in memory; bytes cloned; New, Len, Now, Lost, copied. -/
import Derived.Test.YtlimjdejcjgocaaNet5
import Derived.Lib.LazyBuf
namespace Go.Proofs.Ytlimjdejcjgocaa
open Go.RowKit
set_option linter.unusedVariables false
theorem Try.infoU8 : (Try.prog.info? 5).map (fun i => (i.zero, i.size, i.bytes)) = some (some (.int .u8 0), 1, 1) := by kernel_rfl
theorem own_bytes_back {w : World} {base : Nat} {e : TypeId} {S : Nat → Prop} {v : Value} {bs : List UInt8} (h : OwnR Rd.byte e w base S v bs) : w.ownsRow base e 1 v bs.length (bcells bs) := by
  obtain ⟨cells, h1, h2⟩ := h
  have hl : cells.length = bs.length := by have := h1.1; simpa [Rd.byte] using this
  have : cells = bcells bs := by
    apply List.ext_getElem?
    intro j
    by_cases hj : j < bs.length
    · have := h2 j bs[j] (List.getElem?_eq_getElem hj)
      have e1 : (cells.drop (j * 1)).take 1 = [.int .u8 (bs[j].toNat : Int)] := this
      rw [Nat.mul_one, List.drop_eq_getElem_cons (by omega), List.take_succ_cons, List.take_zero] at e1
      rw [List.getElem?_eq_getElem (by omega), (List.cons.inj e1).1]
      simp [bcells, hj]
    · rw [List.getElem?_eq_none (by omega), List.getElem?_eq_none (by rw [bcells_length]; omega)]
  rw [← this]; exact h1
set_option maxRecDepth 100000 in
set_option maxHeartbeats 1000000 in
theorem cloneB_any (A : Option Addr) (n c : Nat) (l : List UInt8) (ok : Nat → Prop) (w : World) (h : bytesR.rel w ok [.slice A n c] l) (hl : l.length ≤ 100000000) :
    Calls Try.prog 16 #[.slice A n c] w fun e w' => ∃ A' c', e = .returned (.slice A' l.length c') ∧ w'.ownsRow w.heap.size 5 1 (.slice A' l.length c') l.length (bcells l) ∧ Mod (fun _ => False) w w' := by
  replace h := Rd.bound h
  obtain ⟨A0, c0, hv, hcap, hcm, -, hnil, hrow⟩ := h
  simp only [List.cons.injEq, Value.slice.injEq, and_true] at hv
  obtain ⟨rfl, rfl, rfl⟩ := hv
  cases A with
  | none =>
    have hc0 : c = 0 := hnil rfl
    subst hc0
    have hl0 : l = [] := List.eq_nil_of_length_eq_zero (by omega)
    subst hl0
    clear hrow hnil hcap hcm
    have he := Go.run_eql_slice_nil (P := Try.prog) w 29 5 none 0 0 Try.underlying29
    go_enter Try.func16, Try.ntmps16
    go_wp2_with fail
    go_ret
    exact ⟨none, 0, rfl, World.ownsRow_nil _ _ _ _, Mod.refl _ _⟩
  | some ad =>
    have HX := Lib.hid hrow
    clear hrow hnil
    have he := Go.run_eql_slice_nil (P := Try.prog) w 29 5 (some ad) l.length c Try.underlying29
    go_enter Try.func16, Try.ntmps16
    go_wp2_with (at_builtin; refine append_all (R := Rd.byte) w.heap.size rfl _ _ 29 5 (.int .u8 0) 1 rfl Try.underlying29 Try.infoU8 rfl (.slice (some ⟨w.heap.size, 0, none⟩) 0 0) [] l (fun k => ok k ∧ k < w.heap.size) (some ad) c rfl rfl ?c1 ?c2 (by intro e; cases e) ?c3 ?c4 (by decide) ?_)
    case c1 => exact ⟨[], World.ownsRow_made w #[] 0 (Nat.le_refl _) (by decide) rfl, fun j x h => by simp at h⟩
    case c2 => exact Rd.RowOf.weak <| HX.out.step fun k hk hl => ⟨⟨hk, fun e => by have := hk.2; simp only [Value.ownBlock, Option.some.injEq] at e; omega⟩, ((Mod.refl (fun _ => False) w).alloc _).block k hl id⟩
    case c3 => simp
    case c4 => simp only [List.length_nil]; omega
    intro A' c' w1 hO hm hn
    have HY := Lib.hid (And.intro hO hm); clear hO hm hn
    go_wp2_with fail
    go_ret
    refine ⟨A', c', rfl, ?_, ((Mod.refl (fun _ => False) w).alloc _).trans HY.out.2 (fun k hk => .inr ?_)⟩
    · exact own_bytes_back HY.out.1
    · simp only [Value.ownBlock, Option.some.injEq] at hk
      omega
/-- the blocks that the net at g writes: its own and its queue's -/
def NetB (g : Nat) (w : World) (k : Nat) : Prop := k = g ∨ ∃ A n c, w.cell? ⟨g, 0, none⟩ = some (.slice A n c) ∧ (Value.slice A n c).ownBlock = some k
structure NMod (g : Nat) (w w1 : World) : Prop where
  mod : Mod (NetB g w) w w1
  grow : ∀ k, NetB g w1 k → NetB g w k ∨ w.heap.size ≤ k
theorem NMod.trans {g : Nat} {w w1 w2 : World} (h : NMod g w w1) (k : NMod g w1 w2) : NMod g w w2 :=
  ⟨h.mod.trans k.mod h.grow, fun j hj => by
    rcases k.grow j hj with hj | hj
    · exact h.grow j hj
    · have := h.mod.size; right; omega⟩
theorem netB_iff {w : World} {g n c : Nat} {A : Option Addr} {o : List Value} (h : NetBlk w g (.slice A n c) o) (k : Nat) : NetB g w k ↔ k = g ∨ (Value.slice A n c).ownBlock = some k := by
  unfold NetB
  rw [h.cell]
  constructor
  · rintro (h | ⟨A', n', c', h1, h2⟩)
    · exact .inl h
    · cases h1; exact .inr h2
  · rintro (h | h)
    · exact .inl h
    · exact .inr ⟨_, _, _, rfl, h⟩
theorem nmod_of {w w' : World} {g n c n' c' : Nat} {A A' : Option Addr} {o o' : List Value} (h : NetBlk w g (.slice A n c) o) (h' : NetBlk w' g (.slice A' n' c') o') (hm : Mod (fun k => k = g ∨ (Value.slice A n c).ownBlock = some k) w w')
    (hn : ∀ k, (Value.slice A' n' c').ownBlock = some k → (Value.slice A n c).ownBlock = some k ∨ w.heap.size ≤ k) : NMod g w w' :=
  ⟨hm.mono (fun k hk => (netB_iff h k).2 hk), fun k hk => by
    rcases (netB_iff h' k).1 hk with hk | hk
    · exact .inl ((netB_iff h k).2 (.inl hk))
    · exact (hn k hk).imp (fun e => (netB_iff h k).2 (.inr e)) id⟩
theorem NMod.none {g : Nat} {w w1 : World} (h : Mod (fun _ => False) w w1) (hg : g < w.heap.size) : NMod g w w1 :=
  ⟨h.mono (fun _ h => h.elim), fun k hk => by
    rcases hk with rfl | ⟨A, n, c, h1, h2⟩
    · exact .inl (.inl rfl)
    · rw [h.cell (a := ⟨g, 0, .none⟩) hg id] at h1
      exact .inl (.inr ⟨A, n, c, h1, h2⟩)⟩
/-- another block stays -/
theorem NMod.keep {g k : Nat} {w w1 : World} (h : NMod g w w1) (hk : k < w.heap.size) (hn : ¬ NetB g w k) : w1.heap[k]? = w.heap[k]? ∧ ¬ NetB g w1 k :=
  ⟨h.mod.block k hk hn, fun e => (h.grow k e).elim hn (fun e => by omega)⟩
def NetSt (B : Nat) (w : World) (g : Nat) (xs : List Pk) (most seq now lost : Int) : Prop :=
  ∃ v, NetBlk w g v [.int .i64 most, .int .i64 seq, .int .i64 now, .int .i64 lost] ∧ w.ownsRow 0 35 4 v xs.length (flatK xs) ∧ v.ownBlock ≠ some g ∧ B ≤ g ∧ ∀ k, v.ownBlock = some k → B ≤ k
theorem NetSt.lt {B : Nat} {w : World} {g : Nat} {xs : List Pk} {most seq now lost : Int} (h : NetSt B w g xs most seq now lost) : g < w.heap.size := by
  obtain ⟨v, h1, _⟩ := h; exact lt_of_blk h1
theorem NetSt.netB {B : Nat} {w : World} {g : Nat} {xs : List Pk} {most seq now lost : Int} (h : NetSt B w g xs most seq now lost) {k : Nat} (hk : NetB g w k) : B ≤ k ∧ ∃ cs T fr, w.heap[k]? = some (.cells cs T fr) ∧ (T = 47 ∨ T = 35) := by
  obtain ⟨v, h1, h2, h3, h4, h5⟩ := h
  obtain ⟨A, c, rfl⟩ := own_slice h2
  rcases (netB_iff h1 k).1 hk with rfl | hk
  · exact ⟨h4, _, _, _, h1, .inl rfl⟩
  · refine ⟨h5 k hk, ?_⟩
    rcases h2.2 with ⟨hv, _⟩ | ⟨g', cap, cur, hv, _, hb, _⟩
    · rw [hv] at hk; simp [Value.ownBlock] at hk
    · rw [hv] at hk
      simp only [Value.ownBlock, Option.some.injEq] at hk
      subst hk
      exact ⟨_, _, _, hb, .inr rfl⟩
theorem NetSt.not {B : Nat} {w : World} {g : Nat} {xs : List Pk} {most seq now lost : Int} (h : NetSt B w g xs most seq now lost) {k : Nat} {cs : Array Value} {T : TypeId} {fr : Nat × Nat} (hb : w.heap[k]? = some (.cells cs T fr)) (h1 : T ≠ 47) (h2 : T ≠ 35) : ¬ NetB g w k := by
  intro hk
  obtain ⟨_, cs', T', fr', hb', hT⟩ := h.netB hk
  rw [hb] at hb'
  simp only [Option.some.injEq, Obj.cells.injEq] at hb'
  obtain ⟨_, rfl, _⟩ := hb'
  rcases hT with e | e
  · exact h1 e
  · exact h2 e
/-- bytes that a slice owns stay where the net is written -/
theorem own_net {B : Nat} {w w1 : World} {g : Nat} {xs : List Pk} {most seq now lost : Int} {base : Nat} {v : Value} {bs : List UInt8} (hst : NetSt B w g xs most seq now lost) (h : w.ownsRow base 5 1 v bs.length (bcells bs)) (hm : NMod g w w1) : w1.ownsRow base 5 1 v bs.length (bcells bs) := by
  refine own_move h (fun k hk => ?_)
  rcases h.2 with ⟨rfl, _⟩ | ⟨g, cap, cur, rfl, _, hb, _⟩
  · simp [Value.ownBlock] at hk
  · simp only [Value.ownBlock, Option.some.injEq] at hk
    subst hk
    exact hm.mod.block _ (lt_of_blk hb) (hst.not hb (by decide) (by decide))
theorem NetSt.move {B : Nat} {w w1 : World} {S : Nat → Prop} {g : Nat} {xs : List Pk} {most seq now lost : Int} (h : NetSt B w g xs most seq now lost) (hm : Mod S w w1) (hS : ∀ k, S k → ¬ NetB g w k) : NetSt B w1 g xs most seq now lost := by
  obtain ⟨v, h1, h2, h3, h4, h5⟩ := h
  obtain ⟨A, c, rfl⟩ := own_slice h2
  exact ⟨_, h1.mod hm (fun e => hS g e (.inl rfl)), own_move h2 (fun k hk => hm.block k (h2.lt k hk).2 (fun e => hS k e ((netB_iff h1 k).2 (.inr hk)))), h3, h4, h5⟩
set_option maxRecDepth 100000 in
theorem new_any (most : Int) (w : World) (h1 : 1 ≤ most) (h2 : most ≤ 256) :
    Calls Try.prog 6 #[.int .i64 most] w fun e w' => ∃ g, e = .returned (.tuple #[.pointer (some ⟨g, 0, none⟩), .int .i64 0]) ∧ NetSt w.heap.size w' g [] most 0 0 0 ∧ w.heap.size ≤ g ∧ Mod (fun _ => False) w w' := by
  go_enter Try.func6, Try.ntmps6
  go_wp2_with (refine wpList_box_new rfl 47 _ rfl [.slice none 0 0, .int .i64 most, .int .i64 0, .int .i64 0, .int .i64 0] rfl ?_)
  intro g w1 hg hb hm
  have H := Lib.hid (And.intro hg (And.intro hb hm)); clear hg hb hm
  go_wp2_with fail
  go_ret2
  exact ⟨g, rfl, ⟨_, H.out.2.1, World.ownsRow_nil _ _ _ _, by simp [Value.ownBlock], H.out.1, by simp [Value.ownBlock]⟩, H.out.1, H.out.2.2 _⟩
theorem netlen_any (B g : Nat) (xs : List Pk) (most seq now lost : Int) (w : World) (h : NetSt B w g xs most seq now lost) (hl : xs.length ≤ 1000000) :
    Calls Try.prog 14 #[.pointer (some ⟨g, 0, none⟩)] w fun e w' => e = .returned (.int .i64 xs.length) ∧ w = w' := by
  obtain ⟨v, h1, h2, h3, _, _⟩ := h
  obtain ⟨A, c, rfl⟩ := own_slice h2
  have hc := h1.cell
  clear h1 h2 h3
  go_enter Try.func14, Try.ntmps14
  go_wp2
  go_ret
  exact ⟨rfl, rfl⟩
theorem now_any (B g : Nat) (xs : List Pk) (most seq now lost : Int) (w : World) (h : NetSt B w g xs most seq now lost) :
    Calls Try.prog 9 #[.pointer (some ⟨g, 0, none⟩)] w fun e w' => e = .returned (.int .i64 now) ∧ w = w' := by
  obtain ⟨v, h1, h2, h3, _, _⟩ := h
  have hc : w.cell? ⟨g, 3, none⟩ = some (.int .i64 now) := by rw [cell_of_blk h1]; rfl
  clear h1 h2 h3
  go_enter Try.func9, Try.ntmps9
  go_wp2
  go_ret
  exact ⟨rfl, rfl⟩
theorem lost_any (B g : Nat) (xs : List Pk) (most seq now lost : Int) (w : World) (h : NetSt B w g xs most seq now lost) :
    Calls Try.prog 10 #[.pointer (some ⟨g, 0, none⟩)] w fun e w' => e = .returned (.int .i64 lost) ∧ w = w' := by
  obtain ⟨v, h1, h2, h3, _, _⟩ := h
  have hc : w.cell? ⟨g, 4, none⟩ = some (.int .i64 lost) := by rw [cell_of_blk h1]; rfl
  clear h1 h2 h3
  go_enter Try.func10, Try.ntmps10
  go_wp2
  go_ret
  exact ⟨rfl, rfl⟩
end Go.Proofs.Ytlimjdejcjgocaa
