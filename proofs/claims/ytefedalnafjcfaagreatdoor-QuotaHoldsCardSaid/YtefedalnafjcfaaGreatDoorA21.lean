/- Part of this claim's proof (texts Tab15, TabQ, joined by program). -/
import Derived.Test.YtefedalnafjcfaaGreatDoorA09
import Derived.Test.YtefedalnafjcfaaGreatDoorA14
import Derived.Test.YtefedalnafjcfaaGreatDoorA20
import Derived.Laws.Cover2
namespace Go.Proofs.YtefedalnafjcfaaGreatDoor
open Go.RowKit Go.Shelf
set_option linter.unusedVariables false
/-- gb holds the object so far, ge the three errors, gr the result's variable, g the tape; what the object holds lies behind ge. -/
structure GS (w W : World) (gr gb ge g : Nat) (ok : Nat → Prop) (o : Ob) (A1 : Option Addr) (c1 : Nat) (A2 : Option Addr) (c2 : Nat) (A4 : Option Addr) (c4 : Nat) (A5 : Option Addr) (c5 : Nat) (A7 : Option Addr) (c7 : Nat) (A9 : Option Addr) (c9 : Nat) (e0 e1 e2 : Int) (s : TSt) : Prop where
  blk : W.heap[gb]? = some (.cells #[.int .i64 o.kind, .slice A1 o.label.length c1, .slice A2 o.kids.length c2, .int .i64 o.next, .slice A4 o.bytes.length c4, .slice A5 o.own.length c5, .int .i64 o.cats, .slice A7 o.entry.length c7, .int .i64 o.ring, .slice A9 o.maps.length c9] 39 (0, 0))
  ebl : W.heap[ge]? = some (.cells #[.int .i64 e0, .int .i64 e1, .int .i64 e2] 102 (0, 0))
  res : W.heap[gr]? = some (.cells #[.int .i64 0, .slice none 0 0, .slice none 0 0, .int .i64 0, .slice none 0 0, .slice none 0 0, .int .i64 0, .slice none 0 0, .int .i64 0, .slice none 0 0] 39 (0, 0))
  at_ : g < w.heap.size ∧ w.heap.size ≤ gr ∧ gr < gb ∧ gb < ge
  tape : TapeS W ok g s
  low : ∀ k, ok k → k < w.heap.size
  rd : ObR.rel W (fun k => ge < k) [.int .i64 o.kind, .slice A1 o.label.length c1, .slice A2 o.kids.length c2, .int .i64 o.next, .slice A4 o.bytes.length c4, .slice A5 o.own.length c5, .int .i64 o.cats, .slice A7 o.entry.length c7, .int .i64 o.ring, .slice A9 o.maps.length c9] o
  mod : Mod (fun k => k = g) w W
theorem GS.mdl {w W W' : World} {gr gb ge g : Nat} {ok : Nat → Prop} {o : Ob} {A1 : Option Addr} {c1 : Nat} {A2 : Option Addr} {c2 : Nat} {A4 : Option Addr} {c4 : Nat} {A5 : Option Addr} {c5 : Nat} {A7 : Option Addr} {c7 : Nat} {A9 : Option Addr} {c9 : Nat} {e0 e1 e2 : Int} {s s' : TSt} (h : GS w W gr gb ge g ok o A1 c1 A2 c2 A4 c4 A5 c5 A7 c7 A9 c9 e0 e1 e2 s) (hT : TapeS W' ok g s') (hm : Mod (fun k => k = g) W W') : GS w W' gr gb ge g ok o A1 c1 A2 c2 A4 c4 A5 c5 A7 c7 A9 c9 e0 e1 e2 s' := by
  obtain ⟨a1, a2, a3, a4⟩ := h.at_
  exact ⟨(hm.block gb (lt_of_blk h.blk) (by omega)).trans h.blk, (hm.block ge (lt_of_blk h.ebl) (by omega)).trans h.ebl, (hm.block gr (lt_of_blk h.res) (by omega)).trans h.res, h.at_, hT, h.low, Rd.mod h.rd hm (fun k hk e => by omega), h.mod.trans hm (fun k hk => .inl hk)⟩
theorem GS.setE {w W : World} {gr gb ge g : Nat} {ok : Nat → Prop} {o : Ob} {A1 : Option Addr} {c1 : Nat} {A2 : Option Addr} {c2 : Nat} {A4 : Option Addr} {c4 : Nat} {A5 : Option Addr} {c5 : Nat} {A7 : Option Addr} {c7 : Nat} {A9 : Option Addr} {c9 : Nat} {e0 e1 e2 : Int} {s : TSt} (h : GS w W gr gb ge g ok o A1 c1 A2 c2 A4 c4 A5 c5 A7 c7 A9 c9 e0 e1 e2 s) (v : Int) :
    GS w (W.setCell ⟨ge, 0, none⟩ (.int .i64 v)) gr gb ge g ok o A1 c1 A2 c2 A4 c4 A5 c5 A7 c7 A9 c9 v e1 e2 s ∧ GS w (W.setCell ⟨ge, 1, none⟩ (.int .i64 v)) gr gb ge g ok o A1 c1 A2 c2 A4 c4 A5 c5 A7 c7 A9 c9 e0 v e2 s ∧ GS w (W.setCell ⟨ge, 2, none⟩ (.int .i64 v)) gr gb ge g ok o A1 c1 A2 c2 A4 c4 A5 c5 A7 c7 A9 c9 e0 e1 v s := by
  obtain ⟨a1, a2, a3, a4⟩ := h.at_
  have key : ∀ i, Mod (fun k => k = ge) W (W.setCell ⟨ge, i, none⟩ (.int .i64 v)) := fun i => (Mod.refl (fun k => k = ge) W).setCell (a := ⟨ge, i, none⟩) (.inl rfl) _
  refine ⟨?_, ?_, ?_⟩ <;> refine ⟨((key _).block gb (lt_of_blk h.blk) (by omega)).trans h.blk, set_of_blk h.ebl _ _, ((key _).block gr (lt_of_blk h.res) (by omega)).trans h.res, h.at_, h.tape.mod (key _) (by omega) (fun k hk e => by have := h.low k hk; omega), h.low, Rd.mod h.rd (key _) (fun k hk e => by omega), h.mod.trans (key _) (fun k hk => .inr (by omega))⟩
theorem GS.set0 {w W : World} {gr gb ge g : Nat} {ok : Nat → Prop} {o : Ob} {A1 : Option Addr} {c1 : Nat} {A2 : Option Addr} {c2 : Nat} {A4 : Option Addr} {c4 : Nat} {A5 : Option Addr} {c5 : Nat} {A7 : Option Addr} {c7 : Nat} {A9 : Option Addr} {c9 : Nat} {e0 e1 e2 : Int} {s : TSt} (h : GS w W gr gb ge g ok o A1 c1 A2 c2 A4 c4 A5 c5 A7 c7 A9 c9 e0 e1 e2 s) (v : Int) (hv : Rd.inR .i64 v) :
    GS w (W.setCell ⟨gb, 0, none⟩ (.int .i64 v)) gr gb ge g ok { o with kind := v } A1 c1 A2 c2 A4 c4 A5 c5 A7 c7 A9 c9 e0 e1 e2 s := by
  obtain ⟨a1, a2, a3, a4⟩ := h.at_
  have key : Mod (fun k => k = gb) W (W.setCell ⟨gb, 0, none⟩ (.int .i64 v)) := (Mod.refl (fun k => k = gb) W).setCell (a := ⟨gb, 0, none⟩) (.inl rfl) _
  obtain ⟨_, _, _, _, _, _, _, _, _, _, _, _, heq, h0, h1, h2, h3, h4, h5, h6, h7, h8, h9⟩ := ObR_cells h.rd
  simp only [List.cons.injEq, Value.slice.injEq, and_true, true_and] at heq
  obtain ⟨⟨rfl, rfl⟩, ⟨rfl, rfl⟩, ⟨rfl, rfl⟩, ⟨rfl, rfl⟩, ⟨rfl, rfl⟩, rfl, rfl⟩ := heq
  exact ⟨set_of_blk h.blk _ _, (key.block ge (lt_of_blk h.ebl) (by omega)).trans h.ebl, (key.block gr (lt_of_blk h.res) (by omega)).trans h.res, h.at_, h.tape.mod key (by omega) (fun k hk e => by have := h.low k hk; omega), h.low,
    ObR_iff.2 ⟨[_], [_], [_], [_], [_], [_], [_], [_], [_], [_], rfl, ⟨rfl, hv⟩, Rd.mod h1 key (fun k hk e => by omega), Rd.mod h2 key (fun k hk e => by omega), ⟨rfl, h3⟩, Rd.mod h4 key (fun k hk e => by omega), Rd.mod h5 key (fun k hk e => by omega), ⟨rfl, h6⟩, Rd.mod h7 key (fun k hk e => by omega), ⟨rfl, h8⟩, Rd.mod h9 key (fun k hk e => by omega)⟩, h.mod.trans key (fun k hk => .inr (by omega))⟩
theorem GS.set1 {w W : World} {gr gb ge g : Nat} {ok : Nat → Prop} {o : Ob} {A1 : Option Addr} {c1 : Nat} {A2 : Option Addr} {c2 : Nat} {A4 : Option Addr} {c4 : Nat} {A5 : Option Addr} {c5 : Nat} {A7 : Option Addr} {c7 : Nat} {A9 : Option Addr} {c9 : Nat} {e0 e1 e2 : Int} {s : TSt} (h : GS w W gr gb ge g ok o A1 c1 A2 c2 A4 c4 A5 c5 A7 c7 A9 c9 e0 e1 e2 s) (v : List Entry) (B : Option Addr) (d : Nat) (hv : (Rd.slice 24 EntryR).rel W (fun k => ge < k) [.slice B v.length d] v) :
    GS w (W.setCell ⟨gb, 1, none⟩ (.slice B v.length d)) gr gb ge g ok { o with label := v } B d A2 c2 A4 c4 A5 c5 A7 c7 A9 c9 e0 e1 e2 s := by
  obtain ⟨a1, a2, a3, a4⟩ := h.at_
  have key : Mod (fun k => k = gb) W (W.setCell ⟨gb, 1, none⟩ (.slice B v.length d)) := (Mod.refl (fun k => k = gb) W).setCell (a := ⟨gb, 1, none⟩) (.inl rfl) _
  obtain ⟨_, _, _, _, _, _, _, _, _, _, _, _, heq, h0, h1, h2, h3, h4, h5, h6, h7, h8, h9⟩ := ObR_cells h.rd
  simp only [List.cons.injEq, Value.slice.injEq, and_true, true_and] at heq
  obtain ⟨⟨rfl, rfl⟩, ⟨rfl, rfl⟩, ⟨rfl, rfl⟩, ⟨rfl, rfl⟩, ⟨rfl, rfl⟩, rfl, rfl⟩ := heq
  exact ⟨set_of_blk h.blk _ _, (key.block ge (lt_of_blk h.ebl) (by omega)).trans h.ebl, (key.block gr (lt_of_blk h.res) (by omega)).trans h.res, h.at_, h.tape.mod key (by omega) (fun k hk e => by have := h.low k hk; omega), h.low,
    ObR_iff.2 ⟨[_], [_], [_], [_], [_], [_], [_], [_], [_], [_], rfl, ⟨rfl, h0⟩, Rd.mod hv key (fun k hk e => by omega), Rd.mod h2 key (fun k hk e => by omega), ⟨rfl, h3⟩, Rd.mod h4 key (fun k hk e => by omega), Rd.mod h5 key (fun k hk e => by omega), ⟨rfl, h6⟩, Rd.mod h7 key (fun k hk e => by omega), ⟨rfl, h8⟩, Rd.mod h9 key (fun k hk e => by omega)⟩, h.mod.trans key (fun k hk => .inr (by omega))⟩
theorem GS.set3 {w W : World} {gr gb ge g : Nat} {ok : Nat → Prop} {o : Ob} {A1 : Option Addr} {c1 : Nat} {A2 : Option Addr} {c2 : Nat} {A4 : Option Addr} {c4 : Nat} {A5 : Option Addr} {c5 : Nat} {A7 : Option Addr} {c7 : Nat} {A9 : Option Addr} {c9 : Nat} {e0 e1 e2 : Int} {s : TSt} (h : GS w W gr gb ge g ok o A1 c1 A2 c2 A4 c4 A5 c5 A7 c7 A9 c9 e0 e1 e2 s) (v : Int) (hv : Rd.inR .i64 v) :
    GS w (W.setCell ⟨gb, 3, none⟩ (.int .i64 v)) gr gb ge g ok { o with next := v } A1 c1 A2 c2 A4 c4 A5 c5 A7 c7 A9 c9 e0 e1 e2 s := by
  obtain ⟨a1, a2, a3, a4⟩ := h.at_
  have key : Mod (fun k => k = gb) W (W.setCell ⟨gb, 3, none⟩ (.int .i64 v)) := (Mod.refl (fun k => k = gb) W).setCell (a := ⟨gb, 3, none⟩) (.inl rfl) _
  obtain ⟨_, _, _, _, _, _, _, _, _, _, _, _, heq, h0, h1, h2, h3, h4, h5, h6, h7, h8, h9⟩ := ObR_cells h.rd
  simp only [List.cons.injEq, Value.slice.injEq, and_true, true_and] at heq
  obtain ⟨⟨rfl, rfl⟩, ⟨rfl, rfl⟩, ⟨rfl, rfl⟩, ⟨rfl, rfl⟩, ⟨rfl, rfl⟩, rfl, rfl⟩ := heq
  exact ⟨set_of_blk h.blk _ _, (key.block ge (lt_of_blk h.ebl) (by omega)).trans h.ebl, (key.block gr (lt_of_blk h.res) (by omega)).trans h.res, h.at_, h.tape.mod key (by omega) (fun k hk e => by have := h.low k hk; omega), h.low,
    ObR_iff.2 ⟨[_], [_], [_], [_], [_], [_], [_], [_], [_], [_], rfl, ⟨rfl, h0⟩, Rd.mod h1 key (fun k hk e => by omega), Rd.mod h2 key (fun k hk e => by omega), ⟨rfl, hv⟩, Rd.mod h4 key (fun k hk e => by omega), Rd.mod h5 key (fun k hk e => by omega), ⟨rfl, h6⟩, Rd.mod h7 key (fun k hk e => by omega), ⟨rfl, h8⟩, Rd.mod h9 key (fun k hk e => by omega)⟩, h.mod.trans key (fun k hk => .inr (by omega))⟩
theorem GS.set4 {w W : World} {gr gb ge g : Nat} {ok : Nat → Prop} {o : Ob} {A1 : Option Addr} {c1 : Nat} {A2 : Option Addr} {c2 : Nat} {A4 : Option Addr} {c4 : Nat} {A5 : Option Addr} {c5 : Nat} {A7 : Option Addr} {c7 : Nat} {A9 : Option Addr} {c9 : Nat} {e0 e1 e2 : Int} {s : TSt} (h : GS w W gr gb ge g ok o A1 c1 A2 c2 A4 c4 A5 c5 A7 c7 A9 c9 e0 e1 e2 s) (v : List UInt8) (B : Option Addr) (d : Nat) (hv : bytesR.rel W (fun k => ge < k) [.slice B v.length d] v) :
    GS w (W.setCell ⟨gb, 4, none⟩ (.slice B v.length d)) gr gb ge g ok { o with bytes := v } A1 c1 A2 c2 B d A5 c5 A7 c7 A9 c9 e0 e1 e2 s := by
  obtain ⟨a1, a2, a3, a4⟩ := h.at_
  have key : Mod (fun k => k = gb) W (W.setCell ⟨gb, 4, none⟩ (.slice B v.length d)) := (Mod.refl (fun k => k = gb) W).setCell (a := ⟨gb, 4, none⟩) (.inl rfl) _
  obtain ⟨_, _, _, _, _, _, _, _, _, _, _, _, heq, h0, h1, h2, h3, h4, h5, h6, h7, h8, h9⟩ := ObR_cells h.rd
  simp only [List.cons.injEq, Value.slice.injEq, and_true, true_and] at heq
  obtain ⟨⟨rfl, rfl⟩, ⟨rfl, rfl⟩, ⟨rfl, rfl⟩, ⟨rfl, rfl⟩, ⟨rfl, rfl⟩, rfl, rfl⟩ := heq
  exact ⟨set_of_blk h.blk _ _, (key.block ge (lt_of_blk h.ebl) (by omega)).trans h.ebl, (key.block gr (lt_of_blk h.res) (by omega)).trans h.res, h.at_, h.tape.mod key (by omega) (fun k hk e => by have := h.low k hk; omega), h.low,
    ObR_iff.2 ⟨[_], [_], [_], [_], [_], [_], [_], [_], [_], [_], rfl, ⟨rfl, h0⟩, Rd.mod h1 key (fun k hk e => by omega), Rd.mod h2 key (fun k hk e => by omega), ⟨rfl, h3⟩, Rd.mod hv key (fun k hk e => by omega), Rd.mod h5 key (fun k hk e => by omega), ⟨rfl, h6⟩, Rd.mod h7 key (fun k hk e => by omega), ⟨rfl, h8⟩, Rd.mod h9 key (fun k hk e => by omega)⟩, h.mod.trans key (fun k hk => .inr (by omega))⟩
theorem GS.set5 {w W : World} {gr gb ge g : Nat} {ok : Nat → Prop} {o : Ob} {A1 : Option Addr} {c1 : Nat} {A2 : Option Addr} {c2 : Nat} {A4 : Option Addr} {c4 : Nat} {A5 : Option Addr} {c5 : Nat} {A7 : Option Addr} {c7 : Nat} {A9 : Option Addr} {c9 : Nat} {e0 e1 e2 : Int} {s : TSt} (h : GS w W gr gb ge g ok o A1 c1 A2 c2 A4 c4 A5 c5 A7 c7 A9 c9 e0 e1 e2 s) (v : List Nm) (B : Option Addr) (d : Nat) (hv : nmsR.rel W (fun k => ge < k) [.slice B v.length d] v) :
    GS w (W.setCell ⟨gb, 5, none⟩ (.slice B v.length d)) gr gb ge g ok { o with own := v } A1 c1 A2 c2 A4 c4 B d A7 c7 A9 c9 e0 e1 e2 s := by
  obtain ⟨a1, a2, a3, a4⟩ := h.at_
  have key : Mod (fun k => k = gb) W (W.setCell ⟨gb, 5, none⟩ (.slice B v.length d)) := (Mod.refl (fun k => k = gb) W).setCell (a := ⟨gb, 5, none⟩) (.inl rfl) _
  obtain ⟨_, _, _, _, _, _, _, _, _, _, _, _, heq, h0, h1, h2, h3, h4, h5, h6, h7, h8, h9⟩ := ObR_cells h.rd
  simp only [List.cons.injEq, Value.slice.injEq, and_true, true_and] at heq
  obtain ⟨⟨rfl, rfl⟩, ⟨rfl, rfl⟩, ⟨rfl, rfl⟩, ⟨rfl, rfl⟩, ⟨rfl, rfl⟩, rfl, rfl⟩ := heq
  exact ⟨set_of_blk h.blk _ _, (key.block ge (lt_of_blk h.ebl) (by omega)).trans h.ebl, (key.block gr (lt_of_blk h.res) (by omega)).trans h.res, h.at_, h.tape.mod key (by omega) (fun k hk e => by have := h.low k hk; omega), h.low,
    ObR_iff.2 ⟨[_], [_], [_], [_], [_], [_], [_], [_], [_], [_], rfl, ⟨rfl, h0⟩, Rd.mod h1 key (fun k hk e => by omega), Rd.mod h2 key (fun k hk e => by omega), ⟨rfl, h3⟩, Rd.mod h4 key (fun k hk e => by omega), Rd.mod hv key (fun k hk e => by omega), ⟨rfl, h6⟩, Rd.mod h7 key (fun k hk e => by omega), ⟨rfl, h8⟩, Rd.mod h9 key (fun k hk e => by omega)⟩, h.mod.trans key (fun k hk => .inr (by omega))⟩
theorem GS.set6 {w W : World} {gr gb ge g : Nat} {ok : Nat → Prop} {o : Ob} {A1 : Option Addr} {c1 : Nat} {A2 : Option Addr} {c2 : Nat} {A4 : Option Addr} {c4 : Nat} {A5 : Option Addr} {c5 : Nat} {A7 : Option Addr} {c7 : Nat} {A9 : Option Addr} {c9 : Nat} {e0 e1 e2 : Int} {s : TSt} (h : GS w W gr gb ge g ok o A1 c1 A2 c2 A4 c4 A5 c5 A7 c7 A9 c9 e0 e1 e2 s) (v : Int) (hv : Rd.inR .i64 v) :
    GS w (W.setCell ⟨gb, 6, none⟩ (.int .i64 v)) gr gb ge g ok { o with cats := v } A1 c1 A2 c2 A4 c4 A5 c5 A7 c7 A9 c9 e0 e1 e2 s := by
  obtain ⟨a1, a2, a3, a4⟩ := h.at_
  have key : Mod (fun k => k = gb) W (W.setCell ⟨gb, 6, none⟩ (.int .i64 v)) := (Mod.refl (fun k => k = gb) W).setCell (a := ⟨gb, 6, none⟩) (.inl rfl) _
  obtain ⟨_, _, _, _, _, _, _, _, _, _, _, _, heq, h0, h1, h2, h3, h4, h5, h6, h7, h8, h9⟩ := ObR_cells h.rd
  simp only [List.cons.injEq, Value.slice.injEq, and_true, true_and] at heq
  obtain ⟨⟨rfl, rfl⟩, ⟨rfl, rfl⟩, ⟨rfl, rfl⟩, ⟨rfl, rfl⟩, ⟨rfl, rfl⟩, rfl, rfl⟩ := heq
  exact ⟨set_of_blk h.blk _ _, (key.block ge (lt_of_blk h.ebl) (by omega)).trans h.ebl, (key.block gr (lt_of_blk h.res) (by omega)).trans h.res, h.at_, h.tape.mod key (by omega) (fun k hk e => by have := h.low k hk; omega), h.low,
    ObR_iff.2 ⟨[_], [_], [_], [_], [_], [_], [_], [_], [_], [_], rfl, ⟨rfl, h0⟩, Rd.mod h1 key (fun k hk e => by omega), Rd.mod h2 key (fun k hk e => by omega), ⟨rfl, h3⟩, Rd.mod h4 key (fun k hk e => by omega), Rd.mod h5 key (fun k hk e => by omega), ⟨rfl, hv⟩, Rd.mod h7 key (fun k hk e => by omega), ⟨rfl, h8⟩, Rd.mod h9 key (fun k hk e => by omega)⟩, h.mod.trans key (fun k hk => .inr (by omega))⟩
theorem GS.set7 {w W : World} {gr gb ge g : Nat} {ok : Nat → Prop} {o : Ob} {A1 : Option Addr} {c1 : Nat} {A2 : Option Addr} {c2 : Nat} {A4 : Option Addr} {c4 : Nat} {A5 : Option Addr} {c5 : Nat} {A7 : Option Addr} {c7 : Nat} {A9 : Option Addr} {c9 : Nat} {e0 e1 e2 : Int} {s : TSt} (h : GS w W gr gb ge g ok o A1 c1 A2 c2 A4 c4 A5 c5 A7 c7 A9 c9 e0 e1 e2 s) (v : List Entry) (B : Option Addr) (d : Nat) (hv : (Rd.slice 24 EntryR).rel W (fun k => ge < k) [.slice B v.length d] v) :
    GS w (W.setCell ⟨gb, 7, none⟩ (.slice B v.length d)) gr gb ge g ok { o with entry := v } A1 c1 A2 c2 A4 c4 A5 c5 B d A9 c9 e0 e1 e2 s := by
  obtain ⟨a1, a2, a3, a4⟩ := h.at_
  have key : Mod (fun k => k = gb) W (W.setCell ⟨gb, 7, none⟩ (.slice B v.length d)) := (Mod.refl (fun k => k = gb) W).setCell (a := ⟨gb, 7, none⟩) (.inl rfl) _
  obtain ⟨_, _, _, _, _, _, _, _, _, _, _, _, heq, h0, h1, h2, h3, h4, h5, h6, h7, h8, h9⟩ := ObR_cells h.rd
  simp only [List.cons.injEq, Value.slice.injEq, and_true, true_and] at heq
  obtain ⟨⟨rfl, rfl⟩, ⟨rfl, rfl⟩, ⟨rfl, rfl⟩, ⟨rfl, rfl⟩, ⟨rfl, rfl⟩, rfl, rfl⟩ := heq
  exact ⟨set_of_blk h.blk _ _, (key.block ge (lt_of_blk h.ebl) (by omega)).trans h.ebl, (key.block gr (lt_of_blk h.res) (by omega)).trans h.res, h.at_, h.tape.mod key (by omega) (fun k hk e => by have := h.low k hk; omega), h.low,
    ObR_iff.2 ⟨[_], [_], [_], [_], [_], [_], [_], [_], [_], [_], rfl, ⟨rfl, h0⟩, Rd.mod h1 key (fun k hk e => by omega), Rd.mod h2 key (fun k hk e => by omega), ⟨rfl, h3⟩, Rd.mod h4 key (fun k hk e => by omega), Rd.mod h5 key (fun k hk e => by omega), ⟨rfl, h6⟩, Rd.mod hv key (fun k hk e => by omega), ⟨rfl, h8⟩, Rd.mod h9 key (fun k hk e => by omega)⟩, h.mod.trans key (fun k hk => .inr (by omega))⟩
theorem GS.set8 {w W : World} {gr gb ge g : Nat} {ok : Nat → Prop} {o : Ob} {A1 : Option Addr} {c1 : Nat} {A2 : Option Addr} {c2 : Nat} {A4 : Option Addr} {c4 : Nat} {A5 : Option Addr} {c5 : Nat} {A7 : Option Addr} {c7 : Nat} {A9 : Option Addr} {c9 : Nat} {e0 e1 e2 : Int} {s : TSt} (h : GS w W gr gb ge g ok o A1 c1 A2 c2 A4 c4 A5 c5 A7 c7 A9 c9 e0 e1 e2 s) (v : Int) (hv : Rd.inR .i64 v) :
    GS w (W.setCell ⟨gb, 8, none⟩ (.int .i64 v)) gr gb ge g ok { o with ring := v } A1 c1 A2 c2 A4 c4 A5 c5 A7 c7 A9 c9 e0 e1 e2 s := by
  obtain ⟨a1, a2, a3, a4⟩ := h.at_
  have key : Mod (fun k => k = gb) W (W.setCell ⟨gb, 8, none⟩ (.int .i64 v)) := (Mod.refl (fun k => k = gb) W).setCell (a := ⟨gb, 8, none⟩) (.inl rfl) _
  obtain ⟨_, _, _, _, _, _, _, _, _, _, _, _, heq, h0, h1, h2, h3, h4, h5, h6, h7, h8, h9⟩ := ObR_cells h.rd
  simp only [List.cons.injEq, Value.slice.injEq, and_true, true_and] at heq
  obtain ⟨⟨rfl, rfl⟩, ⟨rfl, rfl⟩, ⟨rfl, rfl⟩, ⟨rfl, rfl⟩, ⟨rfl, rfl⟩, rfl, rfl⟩ := heq
  exact ⟨set_of_blk h.blk _ _, (key.block ge (lt_of_blk h.ebl) (by omega)).trans h.ebl, (key.block gr (lt_of_blk h.res) (by omega)).trans h.res, h.at_, h.tape.mod key (by omega) (fun k hk e => by have := h.low k hk; omega), h.low,
    ObR_iff.2 ⟨[_], [_], [_], [_], [_], [_], [_], [_], [_], [_], rfl, ⟨rfl, h0⟩, Rd.mod h1 key (fun k hk e => by omega), Rd.mod h2 key (fun k hk e => by omega), ⟨rfl, h3⟩, Rd.mod h4 key (fun k hk e => by omega), Rd.mod h5 key (fun k hk e => by omega), ⟨rfl, h6⟩, Rd.mod h7 key (fun k hk e => by omega), ⟨rfl, hv⟩, Rd.mod h9 key (fun k hk e => by omega)⟩, h.mod.trans key (fun k hk => .inr (by omega))⟩
/-- the same while the row in cell j grows: what else is held lies below B -/
structure GX (w W : World) (gr gb ge g : Nat) (ok : Nat → Prop) (o : Ob) (A1 : Option Addr) (c1 : Nat) (A2 : Option Addr) (c2 : Nat) (A4 : Option Addr) (c4 : Nat) (A5 : Option Addr) (c5 : Nat) (A7 : Option Addr) (c7 : Nat) (A9 : Option Addr) (c9 : Nat) (e0 e1 e2 : Int) (s : TSt) (B j : Nat) (u : Value) : Prop where
  blk : W.heap[gb]? = some (.cells ([.int .i64 o.kind, .slice A1 o.label.length c1, .slice A2 o.kids.length c2, .int .i64 o.next, .slice A4 o.bytes.length c4, .slice A5 o.own.length c5, .int .i64 o.cats, .slice A7 o.entry.length c7, .int .i64 o.ring, .slice A9 o.maps.length c9].set j u).toArray 39 (0, 0))
  ebl : W.heap[ge]? = some (.cells #[.int .i64 e0, .int .i64 e1, .int .i64 e2] 102 (0, 0))
  res : W.heap[gr]? = some (.cells #[.int .i64 0, .slice none 0 0, .slice none 0 0, .int .i64 0, .slice none 0 0, .slice none 0 0, .int .i64 0, .slice none 0 0, .int .i64 0, .slice none 0 0] 39 (0, 0))
  at_ : g < w.heap.size ∧ w.heap.size ≤ gr ∧ gr < gb ∧ gb < ge ∧ ge < B
  tape : TapeS W ok g s
  low : ∀ k, ok k → k < w.heap.size
  rd : ObR.rel W (fun k => ge < k ∧ k < B) [.int .i64 o.kind, .slice A1 o.label.length c1, .slice A2 o.kids.length c2, .int .i64 o.next, .slice A4 o.bytes.length c4, .slice A5 o.own.length c5, .int .i64 o.cats, .slice A7 o.entry.length c7, .int .i64 o.ring, .slice A9 o.maps.length c9] o
  mod : Mod (fun k => k = g) w W
theorem GS.toX {w W : World} {gr gb ge g : Nat} {ok : Nat → Prop} {o : Ob} {A1 : Option Addr} {c1 : Nat} {A2 : Option Addr} {c2 : Nat} {A4 : Option Addr} {c4 : Nat} {A5 : Option Addr} {c5 : Nat} {A7 : Option Addr} {c7 : Nat} {A9 : Option Addr} {c9 : Nat} {e0 e1 e2 : Int} {s : TSt} (h : GS w W gr gb ge g ok o A1 c1 A2 c2 A4 c4 A5 c5 A7 c7 A9 c9 e0 e1 e2 s) (j : Nat) (u : Value) (hu : [.int .i64 o.kind, .slice A1 o.label.length c1, .slice A2 o.kids.length c2, .int .i64 o.next, .slice A4 o.bytes.length c4, .slice A5 o.own.length c5, .int .i64 o.cats, .slice A7 o.entry.length c7, .int .i64 o.ring, .slice A9 o.maps.length c9].set j u = [.int .i64 o.kind, .slice A1 o.label.length c1, .slice A2 o.kids.length c2, .int .i64 o.next, .slice A4 o.bytes.length c4, .slice A5 o.own.length c5, .int .i64 o.cats, .slice A7 o.entry.length c7, .int .i64 o.ring, .slice A9 o.maps.length c9]) : GX w W gr gb ge g ok o A1 c1 A2 c2 A4 c4 A5 c5 A7 c7 A9 c9 e0 e1 e2 s W.heap.size j u := by
  obtain ⟨a1, a2, a3, a4⟩ := h.at_
  exact ⟨by rw [hu]; exact h.blk, h.ebl, h.res, ⟨a1, a2, a3, a4, lt_of_blk h.ebl⟩, h.tape, h.low, Rd.bound h.rd, h.mod⟩
theorem GX.step {w W : World} {gr gb ge g : Nat} {ok : Nat → Prop} {o : Ob} {A1 : Option Addr} {c1 : Nat} {A2 : Option Addr} {c2 : Nat} {A4 : Option Addr} {c4 : Nat} {A5 : Option Addr} {c5 : Nat} {A7 : Option Addr} {c7 : Nat} {A9 : Option Addr} {c9 : Nat} {e0 e1 e2 : Int} {s : TSt} {B j : Nat} {u : Value} {W' : World} {T : Nat → Prop} {s' : TSt} (h : GX w W gr gb ge g ok o A1 c1 A2 c2 A4 c4 A5 c5 A7 c7 A9 c9 e0 e1 e2 s B j u) (hT : TapeS W' ok g s') (hm : Mod T W W') (hk : ∀ k, T k → k = g ∨ B ≤ k) : GX w W' gr gb ge g ok o A1 c1 A2 c2 A4 c4 A5 c5 A7 c7 A9 c9 e0 e1 e2 s' B j u := by
  obtain ⟨a1, a2, a3, a4, a5⟩ := h.at_
  have n : ∀ k, gr ≤ k → k < B → ¬ T k := fun k h1 h2 e => by have := hk k e; omega
  exact ⟨(hm.block gb (lt_of_blk h.blk) (n _ (by omega) (by omega))).trans h.blk, (hm.block ge (lt_of_blk h.ebl) (n _ (by omega) (by omega))).trans h.ebl, (hm.block gr (lt_of_blk h.res) (n _ (by omega) (by omega))).trans h.res, h.at_, hT, h.low,
    Rd.mod h.rd hm (fun k hk => n _ (by omega) hk.2), h.mod.trans hm (fun k e => by have := hk k e; omega)⟩
theorem GX.ap {w W : World} {gr gb ge g : Nat} {ok : Nat → Prop} {o : Ob} {A1 : Option Addr} {c1 : Nat} {A2 : Option Addr} {c2 : Nat} {A4 : Option Addr} {c4 : Nat} {A5 : Option Addr} {c5 : Nat} {A7 : Option Addr} {c7 : Nat} {A9 : Option Addr} {c9 : Nat} {e0 e1 e2 : Int} {s : TSt} {B j : Nat} {u : Value} {W' : World} {T : Nat → Prop} (h : GX w W gr gb ge g ok o A1 c1 A2 c2 A4 c4 A5 c5 A7 c7 A9 c9 e0 e1 e2 s B j u) (hm : Mod T W W') (hk : ∀ k, T k → B ≤ k) : GX w W' gr gb ge g ok o A1 c1 A2 c2 A4 c4 A5 c5 A7 c7 A9 c9 e0 e1 e2 s B j u := by
  obtain ⟨a1, a2, a3, a4, a5⟩ := h.at_
  exact h.step (h.tape.mod hm (fun e => by have := hk _ e; omega) (fun k hk' e => by have := h.low k hk'; have := hk _ e; omega)) hm (fun k e => .inr (hk k e))
theorem GX.put {w W : World} {gr gb ge g : Nat} {ok : Nat → Prop} {o : Ob} {A1 : Option Addr} {c1 : Nat} {A2 : Option Addr} {c2 : Nat} {A4 : Option Addr} {c4 : Nat} {A5 : Option Addr} {c5 : Nat} {A7 : Option Addr} {c7 : Nat} {A9 : Option Addr} {c9 : Nat} {e0 e1 e2 : Int} {s : TSt} {B j : Nat} {u : Value} (h : GX w W gr gb ge g ok o A1 c1 A2 c2 A4 c4 A5 c5 A7 c7 A9 c9 e0 e1 e2 s B j u) (u' : Value) : GX w (W.setCell ⟨gb, j, none⟩ u') gr gb ge g ok o A1 c1 A2 c2 A4 c4 A5 c5 A7 c7 A9 c9 e0 e1 e2 s B j u' := by
  obtain ⟨a1, a2, a3, a4, a5⟩ := h.at_
  have key : Mod (fun k => k = gb) W (W.setCell ⟨gb, j, none⟩ u') := (Mod.refl (fun k => k = gb) W).setCell (a := ⟨gb, j, none⟩) (.inl rfl) _
  refine ⟨?_, (key.block ge (lt_of_blk h.ebl) (by omega)).trans h.ebl, (key.block gr (lt_of_blk h.res) (by omega)).trans h.res, h.at_, h.tape.mod key (by omega) (fun k hk e => by have := h.low k hk; omega), h.low, Rd.mod h.rd key (fun k hk e => by omega), h.mod.trans key (fun k hk => .inr (by omega))⟩
  rw [set_of_blk h.blk]
  simp
theorem GX.cf {w W : World} {gr gb ge g : Nat} {ok : Nat → Prop} {o : Ob} {A1 : Option Addr} {c1 : Nat} {A2 : Option Addr} {c2 : Nat} {A4 : Option Addr} {c4 : Nat} {A5 : Option Addr} {c5 : Nat} {A7 : Option Addr} {c7 : Nat} {A9 : Option Addr} {c9 : Nat} {e0 e1 e2 : Int} {s : TSt} {B j : Nat} {u : Value} (h : GX w W gr gb ge g ok o A1 c1 A2 c2 A4 c4 A5 c5 A7 c7 A9 c9 e0 e1 e2 s B j u) (hj : j < 10) : W.cell? ⟨gb, j, none⟩ = some u ∧ W.frozen? ⟨gb, j, none⟩ = false := by
  refine ⟨?_, free_of_blk h.blk j⟩
  rw [cell_of_blk h.blk, List.getElem?_toArray, List.getElem?_set_self (by simpa using hj)]
theorem GX.back2 {w W : World} {gr gb ge g : Nat} {ok : Nat → Prop} {o : Ob} {A1 : Option Addr} {c1 : Nat} {A2 : Option Addr} {c2 : Nat} {A4 : Option Addr} {c4 : Nat} {A5 : Option Addr} {c5 : Nat} {A7 : Option Addr} {c7 : Nat} {A9 : Option Addr} {c9 : Nat} {e0 e1 e2 : Int} {s : TSt} {B : Nat} {l : List Kid} {X : Option Addr} {d : Nat} (h : GX w W gr gb ge g ok o A1 c1 A2 c2 A4 c4 A5 c5 A7 c7 A9 c9 e0 e1 e2 s B 2 (.slice X l.length d)) (hv : (Rd.slice 24 KidR).rel W (fun k => ge < k) [.slice X l.length d] l) : GS w W gr gb ge g ok { o with kids := l } A1 c1 X d A4 c4 A5 c5 A7 c7 A9 c9 e0 e1 e2 s := by
  obtain ⟨a1, a2, a3, a4, a5⟩ := h.at_
  obtain ⟨_, _, _, _, _, _, _, _, _, _, _, _, heq, h0, h1, h2, h3, h4, h5, h6, h7, h8, h9⟩ := ObR_cells h.rd
  simp only [List.cons.injEq, Value.slice.injEq, and_true, true_and] at heq
  obtain ⟨⟨rfl, rfl⟩, ⟨rfl, rfl⟩, ⟨rfl, rfl⟩, ⟨rfl, rfl⟩, ⟨rfl, rfl⟩, rfl, rfl⟩ := heq
  exact ⟨h.blk, h.ebl, h.res, ⟨a1, a2, a3, a4⟩, h.tape, h.low, ObR_iff.2 ⟨[_], [_], [_], [_], [_], [_], [_], [_], [_], [_], rfl, ⟨rfl, h0⟩, Rd.mono h1 (fun k hk => hk.1), hv, ⟨rfl, h3⟩, Rd.mono h4 (fun k hk => hk.1), Rd.mono h5 (fun k hk => hk.1), ⟨rfl, h6⟩, Rd.mono h7 (fun k hk => hk.1), ⟨rfl, h8⟩, Rd.mono h9 (fun k hk => hk.1)⟩, h.mod⟩
theorem GX.back9 {w W : World} {gr gb ge g : Nat} {ok : Nat → Prop} {o : Ob} {A1 : Option Addr} {c1 : Nat} {A2 : Option Addr} {c2 : Nat} {A4 : Option Addr} {c4 : Nat} {A5 : Option Addr} {c5 : Nat} {A7 : Option Addr} {c7 : Nat} {A9 : Option Addr} {c9 : Nat} {e0 e1 e2 : Int} {s : TSt} {B : Nat} {l : List Sg} {X : Option Addr} {d : Nat} (h : GX w W gr gb ge g ok o A1 c1 A2 c2 A4 c4 A5 c5 A7 c7 A9 c9 e0 e1 e2 s B 9 (.slice X l.length d)) (hv : (Rd.slice 40 SgR).rel W (fun k => ge < k) [.slice X l.length d] l) : GS w W gr gb ge g ok { o with maps := l } A1 c1 A2 c2 A4 c4 A5 c5 A7 c7 X d e0 e1 e2 s := by
  obtain ⟨a1, a2, a3, a4, a5⟩ := h.at_
  obtain ⟨_, _, _, _, _, _, _, _, _, _, _, _, heq, h0, h1, h2, h3, h4, h5, h6, h7, h8, h9⟩ := ObR_cells h.rd
  simp only [List.cons.injEq, Value.slice.injEq, and_true, true_and] at heq
  obtain ⟨⟨rfl, rfl⟩, ⟨rfl, rfl⟩, ⟨rfl, rfl⟩, ⟨rfl, rfl⟩, ⟨rfl, rfl⟩, rfl, rfl⟩ := heq
  exact ⟨h.blk, h.ebl, h.res, ⟨a1, a2, a3, a4⟩, h.tape, h.low, ObR_iff.2 ⟨[_], [_], [_], [_], [_], [_], [_], [_], [_], [_], rfl, ⟨rfl, h0⟩, Rd.mono h1 (fun k hk => hk.1), Rd.mono h2 (fun k hk => hk.1), ⟨rfl, h3⟩, Rd.mono h4 (fun k hk => hk.1), Rd.mono h5 (fun k hk => hk.1), ⟨rfl, h6⟩, Rd.mono h7 (fun k hk => hk.1), ⟨rfl, h8⟩, hv⟩, h.mod⟩
end Go.Proofs.YtefedalnafjcfaaGreatDoor

namespace Go.Proofs.YtefedalnafjcfaaGreatDoor
open Go.RowKit
theorem eqErr3 (a b c x y z : Int) (w : World) : (Op.equalIn 10000 102 (.agg #[.int .i64 a, .int .i64 b, .int .i64 c]) (.agg #[.int .i64 x, .int .i64 y, .int .i64 z])).run Tryz.prog w = .ok (a == x && (b == y && c == z)) w := by
  have u3 := Tryz.underlying25
  have a3 := Tryz.isAgg25
  have z3 := Tryz.sizeOf25
  rw [show (10000 : Nat) = 9999 + 1 from rfl, Op.equalIn]
  simp only [Sem.run_bind, run_underlying Tryz.underlying102, Result.andThen_ok]
  simp only [Std.Legacy.Range.forIn_eq_forIn_range', Std.Legacy.Range.size, Nat.sub_zero, Nat.add_sub_cancel, Nat.div_one, List.range'_succ, List.range'_zero, List.forIn_cons, List.forIn_nil]
  go_simp
  by_cases h1 : a = x <;> by_cases h2 : b = y <;> by_cases h3 : c = z <;> simp [h1, h2, h3]
end Go.Proofs.YtefedalnafjcfaaGreatDoor

