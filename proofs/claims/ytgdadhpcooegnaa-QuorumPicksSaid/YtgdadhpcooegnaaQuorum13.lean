/- Layer 22: Keep, the code's. -/
import Derived.Test.YtgdadhpcooegnaaQuorum12
namespace Go.Proofs.Ytgdadhpcooegnaa
open Go.RowKit
set_option linter.unusedVariables false
def keepM (l : List Msg) (m : Msg) : List Msg := (l.filter (notFrom m.from_)).take (posOf (l.filter (notFrom m.from_)) m.from_) ++ m :: (l.filter (notFrom m.from_)).drop (posOf (l.filter (notFrom m.from_)) m.from_)
theorem posOf_le (l : List Msg) (f : Int) : posOf l f ≤ l.length := (List.takeWhile_sublist _).length_le
theorem keepM_len (l : List Msg) (m : Msg) : (keepM l m).length = (l.filter (notFrom m.from_)).length + 1 := by
  have := posOf_le (l.filter (notFrom m.from_)) m.from_
  simp [keepM]; omega
theorem OwnR.base {α : Type} {R : Rd α} {e : TypeId} {w : World} {base base2 : Nat} {S S2 : Nat → Prop} {v : Value} {xs : List α} (h : OwnR R e w base S v xs) (hb : base2 ≤ base) (hS : ∀ k, S k → S2 k) : OwnR R e w base2 S2 v xs := by
  obtain ⟨cells, ⟨h0, h1⟩, h2⟩ := h
  refine ⟨cells, ⟨h0, ?_⟩, fun j x hj => Rd.mono (h2 j x hj) (fun k hk => ⟨hS k hk.1, hk.2⟩)⟩
  rcases h1 with h1 | ⟨g, c, cur, r1, r2, r⟩
  · exact .inl h1
  · exact .inr ⟨g, c, cur, r1, by omega, r⟩
set_option maxRecDepth 100000 in
set_option maxHeartbeats 1000000 in
theorem keep_any (A : Option Addr) (n c : Nat) (l : List Msg) (m : Msg) (cs : List Value) (ok : Nat → Prop) (w : World) (h : msgsR.rel w ok [.slice A n c] l) (hm : MsgR.rel w ok cs m) (hl : l.length ≤ 1000000) (hs : Asc (l.filter (notFrom m.from_))) :
    Calls Try.prog 15 #[.slice A n c, .agg cs.toArray] w fun e w' => ∃ A' c', e = .returned (.slice A' (keepM l m).length c') ∧ OwnR MsgR 40 w' w.heap.size (fun k => ok k ∧ k < w.heap.size) (.slice A' (keepM l m).length c') (keepM l m) ∧ Mod (fun _ => False) w w' := by
  have hlen := List.length_filter_le (notFrom m.from_) l
  obtain ⟨k, hk⟩ : ∃ k, k = l.filter (notFrom m.from_) := ⟨_, rfl⟩
  rw [← hk] at hlen hs
  have HK0 := Lib.hid hk
  have H0 := Lib.hid (And.intro h (And.intro hm hs)); clear h hm hs hk
  have hcs := MsgR_len H0.out.2.1
  go_enter Try.func15, Try.ntmps15
  go_wp2_with (refine wpList_box_new rfl 40 (.tmp 1) rfl cs rfl ?_)
  intro g3 w1 hg1 hb1 hm1
  have h1 := MsgR_list_bound H0.out.1 (hm1 fun _ => False)
  have r1 := Rd.mod (Rd.bound H0.out.2.1) (hm1 fun _ => False) (fun _ _ => id)
  have hs1 := (hm1 fun _ => False).size
  have H1 := Lib.hid (And.intro hg1 (And.intro hb1 (And.intro (hm1 fun _ => False) (And.intro h1 r1)))); clear hg1 hb1 hm1 h1 r1 hcs
  go_wp2_with fail
  refine (clone_any A n c l _ w1 H1.out.2.2.2.1 hl).mono ?_
  rintro e w2 ⟨A2, c2, rfl, hO2, hm2⟩
  have hb2 := (hm2.block g3 (lt_of_blk H1.out.2.1) id).trans H1.out.2.1
  have r2 : MsgR.rel w2 (fun k => ((ok k ∧ k < w.heap.size) ∧ k < w1.heap.size) ∧ some k ≠ (Value.slice A2 l.length c2).ownBlock) cs m := MsgR.step (fun k hk hlk => ⟨⟨⟨hk, hlk⟩, fun e => by have := (OwnR.lt hO2 k e.symm).1; omega⟩, hm2.block k hlk id⟩) H1.out.2.2.2.2
  have hg3 : some g3 ≠ (Value.slice A2 l.length c2).ownBlock := fun e => by have := (OwnR.lt hO2 g3 e.symm).1; have := lt_of_blk H1.out.2.1; omega
  have hs2 := hm2.size
  have H2 := Lib.hid (And.intro hO2 (And.intro hm2 (And.intro hb2 (And.intro r2 hg3)))); clear hO2 hm2 hb2 r2 hg3
  go_wp2_with fail
  refine (delete_any A2 l.length c2 l m g3 cs w1.heap.size _ w2 H2.out.1 rfl hl H2.out.2.2.1 H2.out.2.2.2.1 H2.out.2.2.2.2).mono ?_
  rw [← HK0.out]
  rintro e w3 ⟨A3, c3, rfl, hown, hO3, hm3⟩
  have hm3' : Mod (fun _ => False) w1 w3 := H2.out.2.1.trans hm3 (fun k hk => .inr (OwnR.lt H2.out.1 k hk).1)
  have hb3 := (hm3'.block g3 (lt_of_blk H1.out.2.1) id).trans H1.out.2.1
  have r3 := Rd.mod H1.out.2.2.2.2 hm3' (fun _ _ => id)
  have hs3 := hm3'.size
  have hrd : msgsR.rel w3 (fun j => ((ok j ∧ j < w.heap.size) ∧ j < w1.heap.size) ∨ (Value.slice A3 k.length c3).ownBlock = some j) [.slice A3 k.length c3] k := hO3.reads (bytes := 504) (by omega)
  have H3 := Lib.hid (And.intro hO3 (And.intro hm3' (And.intro hb3 (And.intro r3 hrd)))); clear hO3 hm3 hm3' hb3 r3 hrd hown
  obtain ⟨-, d1, -⟩ : True ∧ w3.cell? ⟨g3, 1, none⟩ = some (.int .i64 m.from_) ∧ True := ⟨trivial, (msg_var H3.out.2.2.2.1 H3.out.2.2.1).1, trivial⟩
  go_wp2_with fail
  refine (search_any A3 k.length c3 k m.from_ _ w3 H3.out.2.2.2.2 (by omega) H0.out.2.2).mono ?_
  rintro e w4 ⟨⟨fv, rfl⟩, hm4⟩
  clear d1
  have hb4 := (hm4.block g3 (lt_of_blk H3.out.2.2.1) id).trans H3.out.2.2.1
  have r4 := Rd.mod H3.out.2.2.2.1 hm4 (fun _ _ => id)
  have hO4 := H3.out.1.mod hm4 (fun _ _ => id) (fun _ _ _ => id)
  have hs4 := hm4.size
  have H4 := Lib.hid (And.intro hO4 (And.intro (H3.out.2.1.trans hm4 (fun _ h => h.elim)) (And.intro hb4 r4))); clear hO4 hm4 hb4 r4
  obtain ⟨p, hp⟩ : ∃ p, p = posOf k m.from_ := ⟨_, rfl⟩
  have hple : p ≤ k.length := hp ▸ posOf_le k m.from_
  rw [← hp]
  have HP := Lib.hid hp; clear hp
  go_wp2_with (first
    | (refine wpList_load_agg rfl 40 _ rfl Try.underlying40 Try.info_msg1 ⟨g3, 0, none⟩ rfl cs (MsgR_len H0.out.2.1) (fun t u ht => by rw [agg_at]; refine (cell_of_blk H4.out.2.2.1 _).trans ?_; simpa using ht) ?_)
    | (refine wpList_slice1_agg rfl 22 40 _ rfl Try.underlying22 zeroMsg.toArray cs (by rw [MsgR_len H0.out.2.1]; exact Try.info_msg2) (by rw [MsgR_len H0.out.2.1]; decide) (by rw [MsgR_len H0.out.2.1]; rfl) rfl ?_))
  have hm45 : Mod (fun _ => False) w4 (w4.alloc (.cells cs.toArray 40)) := (Mod.refl (fun _ => False) w4).alloc _
  have hO5 := H4.out.1.mod hm45 (fun _ _ => id) (fun _ _ _ => id)
  have r5 : MsgR.rel (w4.alloc (.cells cs.toArray 40)) (fun j => ((ok j ∧ j < w.heap.size) ∧ j < w1.heap.size) ∧ some j ≠ (Value.slice A3 k.length c3).ownBlock) cs m :=
    MsgR.step (fun j hj hlt => ⟨⟨⟨hj, by omega⟩, fun e => by have := (OwnR.lt H4.out.1 j e.symm).1; omega⟩, hm45.block j hlt id⟩) H4.out.2.2.2
  have HO5 := Lib.hid (And.intro hO5 (And.intro r5 hm45)); clear hO5 r5 hm45
  refine (insert_any A3 k.length c3 p k m w4.heap.size cs w1.heap.size _ _ HO5.out.1 rfl hple (by omega) (by simp; omega) (heap_alloc_new w4 _) HO5.out.2.1 (fun e => by have := (OwnR.lt H4.out.1 _ e.symm).2; omega) (fun j hj => by simp; have := hj.2; omega)).mono ?_
  rintro e w6 ⟨A6, c6, rfl, hO6, hm6⟩
  have HQ := Lib.hid (And.intro hO6 hm6); clear hO6 hm6
  go_wp2_with fail
  go_ret
  have hkm : keepM l m = k.take p ++ m :: k.drop p := by unfold keepM; rw [← HK0.out, ← HP.out]
  have hkl : (keepM l m).length = k.length + 1 := by rw [keepM_len, ← HK0.out]
  rw [hkl]
  refine ⟨A6, c6, rfl, ?_, ((H1.out.2.2.1.trans H4.out.2.1 (fun _ h => h.elim)).trans HO5.out.2.2 (fun _ h => h.elim)).trans HQ.out.2 (fun j hj => .inr (by have := (OwnR.lt H4.out.1 j hj).1; omega))⟩
  rw [hkm]
  exact HQ.out.1.base hs1 (fun j hj => hj.1)
end Go.Proofs.Ytgdadhpcooegnaa
