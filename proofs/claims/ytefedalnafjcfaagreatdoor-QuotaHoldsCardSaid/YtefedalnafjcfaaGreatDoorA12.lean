/- Part of this claim's proof (texts Tab0, joined by program). -/
import Derived.Deep.DeepCutAuto
import Derived.Test.YtefedalnafjcfaaGreatDoorA09
import Derived.Test.YtefedalnafjcfaaGreatDoorA11
import Derived.Test.YtefedalnafjcfaaGreatDoorA10
namespace Go.Proofs.YtefedalnafjcfaaGreatDoor
open Go.RowKit Go.Shelf
set_option linter.unusedVariables false
theorem slice_one {α : Type} {R : Rd α} {B : Nat} {w : World} {ok : Nat → Prop} {cs : List Value} {l : List α} (h : (Rd.slice B R).rel w ok cs l) : ∃ A c, cs = [.slice A l.length c] := by
  obtain ⟨A, c, hv, _⟩ := h; exact ⟨A, c, hv⟩
theorem ObR_cells {w : World} {ok : Nat → Prop} {cs : List Value} {o : Ob} (h : ObR.rel w ok cs o) : ∃ A1 c1 A2 c2 A4 c4 A5 c5 A7 c7 A9 c9,
    cs = [.int .i64 o.kind, .slice A1 o.label.length c1, .slice A2 o.kids.length c2, .int .i64 o.next, .slice A4 o.bytes.length c4, .slice A5 o.own.length c5, .int .i64 o.cats, .slice A7 o.entry.length c7, .int .i64 o.ring, .slice A9 o.maps.length c9] ∧
    Rd.inR .i64 o.kind ∧ (Rd.slice 24 EntryR).rel w ok [.slice A1 o.label.length c1] o.label ∧ (Rd.slice 24 KidR).rel w ok [.slice A2 o.kids.length c2] o.kids ∧ Rd.inR .i64 o.next ∧ bytesR.rel w ok [.slice A4 o.bytes.length c4] o.bytes ∧ nmsR.rel w ok [.slice A5 o.own.length c5] o.own ∧ Rd.inR .i64 o.cats ∧ (Rd.slice 24 EntryR).rel w ok [.slice A7 o.entry.length c7] o.entry ∧ Rd.inR .i64 o.ring ∧ (Rd.slice 40 SgR).rel w ok [.slice A9 o.maps.length c9] o.maps := by
  obtain ⟨c0, c1, c2, c3, c4, c5, c6, c7, c8, c9, rfl, ⟨rfl, h0⟩, h1, h2, ⟨rfl, h3⟩, h4, h5, ⟨rfl, h6⟩, h7, ⟨rfl, h8⟩, h9⟩ := ObR_iff.1 h
  obtain ⟨A1, d1, rfl⟩ := slice_one h1
  obtain ⟨A2, d2, rfl⟩ := slice_one h2
  obtain ⟨A4, d4, rfl⟩ := slice_one h4
  obtain ⟨A7, d7, rfl⟩ := slice_one h7
  obtain ⟨A9, d9, rfl⟩ := slice_one h9
  obtain ⟨A5, d5, rfl⟩ : ∃ A c, c5 = [.slice A o.own.length c] := by
    obtain ⟨A, c, hv⟩ := slice_one h5
    exact ⟨A, c, by simpa using hv⟩
  exact ⟨A1, d1, A2, d2, A4, d4, A5, d5, A7, d7, A9, d9, rfl, h0, h1, h2, h3, h4, h5, h6, h7, h8, h9⟩
theorem Tryz.infoOb : (Tryz.prog.info? 39).map (fun i => (i.zero, i.size, i.bytes)) = some (some (.agg #[.int .i64 0, .slice none 0 0, .slice none 0 0, .int .i64 0, .slice none 0 0, .slice none 0 0, .int .i64 0, .slice none 0 0, .int .i64 0, .slice none 0 0]), 10, 176) := by kernel_rfl
theorem EntryR_free {w : World} {ok ok' : Nat → Prop} {cs : List Value} {x : Entry} (h : EntryR.rel w ok cs x) : EntryR.rel w ok' cs x := h
def ResZ (wx : World) (k : Nat) : Prop := ∃ old : List Value, old.length = 10 ∧ wx.heap[k]? = some (.cells old.toArray 39 (0, 0))
theorem ResZ.move {w w1 : World} {T : Nat → Prop} {k : Nat} (h : ResZ w k) (hm : Mod T w w1) (hk : ¬ T k) : ResZ w1 k := by
  obtain ⟨old, h1, h2⟩ := h
  exact ⟨old, h1, (hm.block k (lt_of_blk h2) hk).trans h2⟩
structure Cp1 (w wx : World) (g : Nat) (o : Ob) (A1 : Option Addr) (c1 : Nat) (A2 : Option Addr) (c2 : Nat) (A4 : Option Addr) (c4 : Nat) (A5 : Option Addr) (c5 : Nat) (A7 : Option Addr) (c7 : Nat) (A9 : Option Addr) (c9 : Nat) : Prop where
  blk : wx.heap[g]? = some (.cells #[.int .i64 o.kind, .slice A1 o.label.length c1, .slice A2 o.kids.length c2, .int .i64 o.next, .slice A4 o.bytes.length c4, .slice A5 o.own.length c5, .int .i64 o.cats, .slice A7 o.entry.length c7, .int .i64 o.ring, .slice A9 o.maps.length c9] 39 (0, 0))
  lab : (Rd.slice 24 EntryR).rel wx (fun k => g + 1 < k) [.slice A1 o.label.length c1] o.label
  ent : (Rd.slice 24 EntryR).rel wx (fun k => g + 1 < k) [.slice A7 o.entry.length c7] o.entry
  mod : Mod (fun _ => False) w wx
  at_ : g = w.heap.size
  res : ResZ wx (g + 1)
theorem ownE_free {w : World} {e : TypeId} {base : Nat} {S S' : Nat → Prop} {v : Value} {l : List Entry} (h : OwnR EntryR e w base S v l) : OwnR EntryR e w base S' v l := by
  obtain ⟨cells, h1, h2⟩ := h
  exact ⟨cells, h1, fun j x hj => EntryR_free (h2 j x hj)⟩
theorem ownE_reads {w : World} {e : TypeId} {base g : Nat} {S : Nat → Prop} {v : Value} {l : List Entry} (h : OwnR EntryR e w base S v l) (hb : l.length * 24 ≤ 140737488355328) (hg : g < base) : (Rd.slice 24 EntryR).rel w (fun k => g < k) [v] l :=
  Rd.mono ((ownE_free (S' := fun _ => False) h).reads hb) (fun k hk => by
    rcases hk with hk | hk
    · exact hk.elim
    · obtain ⟨c, h1, _⟩ := h
      have := (own_lt h1 k hk).1; omega)
theorem Cp1.made {w w2 w3 : World} {g b1 b2 : Nat} {o : Ob} {A1' : Option Addr} {c1' : Nat} {A7' : Option Addr} {c7' : Nat} {A1 A2 A4 A5 A7 A9 : Option Addr} {c1 c2 c4 c5 c7 c9 : Nat} {S1 S7 : Nat → Prop} (l1 : o.label.length * 24 ≤ 140737488355328) (l7 : o.entry.length * 24 ≤ 140737488355328)
    (hO1 : OwnR EntryR 129 w2 b1 S1 (.slice A1' o.label.length c1') o.label) (hO7 : OwnR EntryR 129 w3 b2 S7 (.slice A7' o.entry.length c7') o.entry) (hb1 : g + 1 < b1) (hb2 : g + 1 < b2) (m3 : Mod (fun _ => False) w w3) (m23 : Mod (fun _ => False) w2 w3)
    (b3 : w3.heap[g]? = some (.cells #[.int .i64 o.kind, .slice A1 o.label.length c1, .slice A2 o.kids.length c2, .int .i64 o.next, .slice A4 o.bytes.length c4, .slice A5 o.own.length c5, .int .i64 o.cats, .slice A7 o.entry.length c7, .int .i64 o.ring, .slice A9 o.maps.length c9] 39 (0, 0))) (hg : g = w.heap.size) (r3 : ResZ w3 (g + 1)) :
    Cp1 w ((w3.setCell ⟨g, 1, none⟩ (.slice A1' o.label.length c1')).setCell ⟨g, 7, none⟩ (.slice A7' o.entry.length c7')) g o A1' c1' A2 c2 A4 c4 A5 c5 A7' c7' A9 c9 := by
  have mx : Mod (fun k => k = g) w3 ((w3.setCell ⟨g, 1, none⟩ (.slice A1' o.label.length c1')).setCell ⟨g, 7, none⟩ (.slice A7' o.entry.length c7')) := ((Mod.refl (fun k => k = g) w3).setCell (a := ⟨g, 1, none⟩) (.inl rfl) _).setCell (a := ⟨g, 7, none⟩) (.inl rfl) _
  have hn : ∀ k, g + 1 < k → ¬ k = g := fun k h e => by omega
  refine ⟨?_, Rd.mod (Rd.mod (ownE_reads hO1 l1 hb1) m23 (fun _ _ => id)) mx hn, Rd.mod (ownE_reads hO7 l7 hb2) mx hn, m3.trans mx (fun k hk => .inr (by omega)), hg, r3.move mx (by omega)⟩
  exact set_of_blk (set_of_blk b3 1 _) 7 _
theorem KidR_free {w w' : World} {ok ok' : Nat → Prop} {cs : List Value} {x : Kid} (h : KidR.rel w ok cs x) : KidR.rel w' ok' cs x := h
theorem byte_free {w w' : World} {ok ok' : Nat → Prop} {cs : List Value} {x : UInt8} (h : Rd.byte.rel w ok cs x) : Rd.byte.rel w' ok' cs x := h
theorem ownKd_free {w : World} {e : TypeId} {base : Nat} {S S' : Nat → Prop} {v : Value} {l : List Kid} (h : OwnR KidR e w base S v l) : OwnR KidR e w base S' v l := by
  obtain ⟨cells, h1, h2⟩ := h
  exact ⟨cells, h1, fun j x hj => KidR_free (h2 j x hj)⟩
theorem ownBy_free {w : World} {e : TypeId} {base : Nat} {S S' : Nat → Prop} {v : Value} {l : List UInt8} (h : OwnR Rd.byte e w base S v l) : OwnR Rd.byte e w base S' v l := by
  obtain ⟨cells, h1, h2⟩ := h
  exact ⟨cells, h1, fun j x hj => byte_free (h2 j x hj)⟩
structure Cp2 (w wx : World) (g : Nat) (o : Ob) (A1 : Option Addr) (c1 : Nat) (A2 : Option Addr) (c2 : Nat) (A4 : Option Addr) (c4 : Nat) (A5 : Option Addr) (c5 : Nat) (A7 : Option Addr) (c7 : Nat) (A9 : Option Addr) (c9 : Nat) : Prop where
  blk : wx.heap[g]? = some (.cells #[.int .i64 o.kind, .slice A1 o.label.length c1, .slice A2 o.kids.length c2, .int .i64 o.next, .slice A4 o.bytes.length c4, .slice A5 o.own.length c5, .int .i64 o.cats, .slice A7 o.entry.length c7, .int .i64 o.ring, .slice A9 o.maps.length c9] 39 (0, 0))
  lab : (Rd.slice 24 EntryR).rel wx (fun k => g + 1 < k ∧ some k ≠ (Value.slice A2 o.kids.length c2).ownBlock) [.slice A1 o.label.length c1] o.label
  ent : (Rd.slice 24 EntryR).rel wx (fun k => g + 1 < k ∧ some k ≠ (Value.slice A2 o.kids.length c2).ownBlock) [.slice A7 o.entry.length c7] o.entry
  kid : OwnR KidR 43 wx (g + 2) (fun _ => False) (.slice A2 o.kids.length c2) o.kids
  byt : bytesR.rel wx (fun k => g + 1 < k ∧ some k ≠ (Value.slice A2 o.kids.length c2).ownBlock) [.slice A4 o.bytes.length c4] o.bytes
  own : nmsR.rel wx (fun k => g + 1 < k ∧ some k ≠ (Value.slice A2 o.kids.length c2).ownBlock) [.slice A5 o.own.length c5] o.own
  mod : Mod (fun _ => False) w wx
  at_ : g = w.heap.size
  res : ResZ wx (g + 1)
theorem Cp2.made {w wc w2 w3 w4 : World} {g : Nat} {o : Ob} {A1 A2 A4 A5 A7 A9 A2' A4' A5' : Option Addr} {c1 c2 c4 c5 c7 c9 c2' c4' c5' : Nat} {S2 S4 : Nat → Prop} (h : Cp1 w wc g o A1 c1 A2 c2 A4 c4 A5 c5 A7 c7 A9 c9)
    (l4 : o.bytes.length * 1 ≤ 140737488355328) (l5 : o.own.length ≤ 8796093022208) (l5' : ∀ x ∈ o.own, x.length ≤ 140737488355328)
    (hK : OwnR KidR 43 w2 wc.heap.size S2 (.slice A2' o.kids.length c2') o.kids) (mk : Mod (fun _ => False) wc w2)
    (hB : OwnR Rd.byte 5 w3 w2.heap.size S4 (.slice A4' o.bytes.length c4') o.bytes) (m23 : Mod (fun _ => False) w2 w3)
    (hN : OwnN w4 w3.heap.size (.slice A5' o.own.length c5') o.own) (m34 : Mod (fun _ => False) w3 w4)
    (b4 : w4.heap[g]? = some (.cells #[.int .i64 o.kind, .slice A1 o.label.length c1, .slice A2 o.kids.length c2, .int .i64 o.next, .slice A4 o.bytes.length c4, .slice A5 o.own.length c5, .int .i64 o.cats, .slice A7 o.entry.length c7, .int .i64 o.ring, .slice A9 o.maps.length c9] 39 (0, 0))) :
    Cp2 w (((w4.setCell ⟨g, 2, none⟩ (.slice A2' o.kids.length c2')).setCell ⟨g, 4, none⟩ (.slice A4' o.bytes.length c4')).setCell ⟨g, 5, none⟩ (.slice A5' o.own.length c5')) g o A1 c1 A2' c2' A4' c4' A5' c5' A7 c7 A9 c9 := by
  have mx : Mod (fun k => k = g) w4 (((w4.setCell ⟨g, 2, none⟩ (.slice A2' o.kids.length c2')).setCell ⟨g, 4, none⟩ (.slice A4' o.bytes.length c4')).setCell ⟨g, 5, none⟩ (.slice A5' o.own.length c5')) := (((Mod.refl (fun k => k = g) w4).setCell (a := ⟨g, 2, none⟩) (.inl rfl) _).setCell (a := ⟨g, 4, none⟩) (.inl rfl) _).setCell (a := ⟨g, 5, none⟩) (.inl rfl) _
  have hg : g + 1 < wc.heap.size := by obtain ⟨_, _, q⟩ := h.res; exact lt_of_blk q
  have m24 : Mod (fun _ => False) w2 w4 := m23.trans m34 (fun _ h => h.elim)
  have mc4 : Mod (fun _ => False) wc w4 := mk.trans m24 (fun _ h => h.elim)
  have hk2 : ∀ b, (Value.slice A2' o.kids.length c2').ownBlock = some b → wc.heap.size ≤ b ∧ b < w2.heap.size := fun b hb => by obtain ⟨_, q, _⟩ := hK; exact own_lt q b hb
  have hn : ∀ k, (g + 1 < k ∧ some k ≠ (Value.slice A2' o.kids.length c2').ownBlock) → ¬ k = g := fun k h e => by omega
  have s2 := mk.size
  have s3 := m23.size
  have bd : ∀ k, (g + 1 < k ∧ k < wc.heap.size) → g + 1 < k ∧ some k ≠ (Value.slice A2' o.kids.length c2').ownBlock := fun k hk => ⟨hk.1, fun e => by have := (hk2 k e.symm).1; omega⟩
  have ms := h.mod.size
  have ha := h.at_
  refine ⟨set_of_blk (set_of_blk (set_of_blk b4 2 _) 4 _) 5 _, Rd.mod (Rd.mono (Rd.mod (Rd.bound h.lab) mc4 (fun _ _ => id)) bd) mx hn, Rd.mod (Rd.mono (Rd.mod (Rd.bound h.ent) mc4 (fun _ _ => id)) bd) mx hn, ?_, ?_, ?_, (h.mod.trans mc4 (fun _ h => h.elim)).trans mx (fun k hk => .inr (by omega)), h.at_, (h.res.move mc4 id).move mx (by omega)⟩
  · have h1 := (ownKd_free (S' := fun _ => False) hK).mod m24 (fun _ _ => id) (fun _ h _ => h.elim)
    have h2 := h1.mod mx (fun k hk e => by have := (hk2 k hk).1; omega) (fun _ h _ => h.elim)
    obtain ⟨cells, ⟨q0, q1⟩, q2⟩ := h2
    exact ⟨cells, ⟨q0, q1.imp id (fun ⟨gg, cap, cu, r1, r2, r3⟩ => ⟨gg, cap, cu, r1, by omega, r3⟩)⟩, q2⟩
  · have h1 := (ownBy_free (S' := fun _ => False) hB).reads l4
    refine Rd.mod (Rd.mod (Rd.mono h1 (fun k hk => ?_)) m34 (fun _ _ => id)) mx hn
    rcases hk with hk | hk
    · exact hk.elim
    · have hlow : w2.heap.size ≤ k := by obtain ⟨_, q, _⟩ := hB; exact (own_lt q k hk).1
      exact ⟨by omega, fun e => by have := (hk2 k e.symm).2; omega⟩
  · refine Rd.mod (Rd.mono (hN.reads l5' l5) (fun k hk => ?_)) mx hn
    have hlow : w3.heap.size ≤ k := (own_lt hN k hk).1
    exact ⟨by omega, fun e => by have := (hk2 k e.symm).2; omega⟩
theorem cloneKd_cf (args : Array Value) (w : World) : (callFunc 68 args).run Tryz.prog w = .ok (.enter 68 args) w := callFunc_go Tryz.func68 (by kernel_rfl) (by kernel_rfl) args w
theorem cloneBy_cf (args : Array Value) (w : World) : (callFunc 42 args).run Tryz.prog w = .ok (.enter 42 args) w := callFunc_go Tryz.func42 (by kernel_rfl) (by kernel_rfl) args w
theorem cloneNm_cf (args : Array Value) (w : World) : (callFunc 69 args).run Tryz.prog w = .ok (.enter 69 args) w := callFunc_go Tryz.func69 (by kernel_rfl) (by kernel_rfl) args w
theorem cloneIn_cf (args : Array Value) (w : World) : (callFunc 64 args).run Tryz.prog w = .ok (.enter 64 args) w := callFunc_go Tryz.func64 (by kernel_rfl) (by kernel_rfl) args w
structure Lp (w wc wx : World) (ok : Nat → Prop) (g : Nat) (o : Ob) (A1 : Option Addr) (c1 : Nat) (A2 : Option Addr) (c2 : Nat) (A4 : Option Addr) (c4 : Nat) (A5 : Option Addr) (c5 : Nat) (A7 : Option Addr) (c7 : Nat) (A9 : Option Addr) (c9 : Nat) : Prop where
  blk : wx.heap[g]? = some (.cells #[.int .i64 o.kind, .slice A1 o.label.length c1, .slice A2 o.kids.length c2, .int .i64 o.next, .slice A4 o.bytes.length c4, .slice A5 o.own.length c5, .int .i64 o.cats, .slice A7 o.entry.length c7, .int .i64 o.ring, .slice A9 o.maps.length c9] 39 (0, 0))
  mod : Mod (fun k => k = g ∨ (Value.slice A9 o.maps.length c9).ownBlock = some k) wc wx
  res : ResZ wx (g + 1)
  resl : g + 1 < wc.heap.size
  maps : OwnR SgR 109 wx wc.heap.size (fun k => ((ok k ∧ k < w.heap.size) ∨ wc.heap.size ≤ k) ∧ some k ≠ (Value.slice A9 o.maps.length c9).ownBlock) (.slice A9 o.maps.length c9) o.maps
theorem Lp.start {w wc w2 : World} {ok S : Nat → Prop} {g : Nat} {o : Ob} {A1 A2 A4 A5 A7 A9 A9' : Option Addr} {c1 c2 c4 c5 c7 c9 c9' : Nat} (h : Cp2 w wc g o A1 c1 A2 c2 A4 c4 A5 c5 A7 c7 A9 c9)
    (b2 : w2.heap[g]? = some (.cells #[.int .i64 o.kind, .slice A1 o.label.length c1, .slice A2 o.kids.length c2, .int .i64 o.next, .slice A4 o.bytes.length c4, .slice A5 o.own.length c5, .int .i64 o.cats, .slice A7 o.entry.length c7, .int .i64 o.ring, .slice A9 o.maps.length c9] 39 (0, 0)))
    (hO : OwnR SgR 109 w2 wc.heap.size S (.slice A9' o.maps.length c9') o.maps) (hS : ∀ k, S k → (ok k ∧ k < w.heap.size) ∧ k < wc.heap.size) (hm : Mod (fun _ => False) wc w2) :
    Lp w wc (w2.setCell ⟨g, 9, none⟩ (.slice A9' o.maps.length c9')) ok g o A1 c1 A2 c2 A4 c4 A5 c5 A7 c7 A9' c9' := by
  have hg := lt_of_blk h.blk
  have ha := h.at_
  have mx : Mod (fun k => k = g) w2 (w2.setCell ⟨g, 9, none⟩ (.slice A9' o.maps.length c9')) := (Mod.refl (fun k => k = g) w2).setCell (a := ⟨g, 9, none⟩) (.inl rfl) _
  have hown : ∀ k, (Value.slice A9' o.maps.length c9').ownBlock = some k → wc.heap.size ≤ k := fun k hk => by obtain ⟨_, q, _⟩ := hO; exact (own_lt q k hk).1
  refine ⟨set_of_blk b2 9 _, ((hm.mono fun _ h => h.elim).trans mx fun k hk => .inl (.inl hk)), (h.res.move hm id).move mx (by omega), by obtain ⟨_, _, q⟩ := h.res; exact lt_of_blk q, ?_⟩
  refine hO.step (fun k hk => mx.block k (by obtain ⟨_, q, _⟩ := hO; exact (own_lt q k hk).2) (fun e => by have := hown k hk; omega)) (fun k hk hn hl => ⟨⟨.inl (hS k hk).1, hn⟩, mx.block k hl (fun e => by have := (hS k hk).1.2; omega)⟩)
theorem Lp.at_ {w wc wx : World} {ok : Nat → Prop} {g : Nat} {o : Ob} {A1 A2 A4 A5 A7 A9 : Option Addr} {c1 c2 c4 c5 c7 c9 : Nat} (h : Lp w wc wx ok g o A1 c1 A2 c2 A4 c4 A5 c5 A7 c7 A9 c9) {i : Nat} {x : Sg} (hx : o.maps[i]? = some x) :
    ∃ b cur, wx.heap[b]? = some (.cells cur 109 (0, 0)) ∧ wc.heap.size ≤ b ∧ ∃ As ks, A9 = some ⟨b, 0, none⟩ ∧ wx.cell? ⟨b, i * 3 + 1, none⟩ = some (.slice As x.seg.length ks) ∧ (Rd.slice 8 (Rd.int .i64)).rel wx (fun k => ((ok k ∧ k < w.heap.size) ∨ wc.heap.size ≤ k) ∧ some k ≠ (Value.slice A9 o.maps.length c9).ownBlock) [.slice As x.seg.length ks] x.seg := by
  obtain ⟨cells, h1, h2⟩ := h.maps
  have h3 := h2 i x hx
  have sz : SgR.sz = 3 := rfl
  rw [sz] at h3 h1
  obtain ⟨As, ks, hc, hr⟩ := SgR_seg_at h3
  rw [List.getElem?_take_of_lt (by omega), List.getElem?_drop] at hc
  have h1' := h1
  rcases h1'.2 with ⟨hv, hn⟩ | ⟨b, cap, cur, hv, hg, hh, _⟩
  · have := (List.getElem?_eq_some_iff.1 hx).1
    omega
  · have hcb := World.ownsRow.cells h1 (g := b) (by rw [hv]; rfl) (i * 3 + 1) _ hc
    rw [agg_at] at hcb
    simp only [Value.slice.injEq] at hv
    exact ⟨b, _, hh, hg, As, ks, hv.1, hcb, Rd.mono hr (fun k hk => hk.1)⟩
theorem ownIn_free {w : World} {e : TypeId} {base : Nat} {S S' : Nat → Prop} {v : Value} {l : List Int} (h : OwnR (Rd.int .i64) e w base S v l) : OwnR (Rd.int .i64) e w base S' v l := by
  obtain ⟨cells, h1, h2⟩ := h
  exact ⟨cells, h1, fun j x hj => h2 j x hj⟩
theorem Lp.put {w wc wr w3 : World} {ok S : Nat → Prop} {g : Nat} {o : Ob} {A1 A2 A4 A5 A7 A9 : Option Addr} {c1 c2 c4 c5 c7 c9 : Nat} (h : Lp w wc wr ok g o A1 c1 A2 c2 A4 c4 A5 c5 A7 c7 A9 c9) {i : Nat} {x : Sg} (hx : o.maps[i]? = some x) {b : Nat} (hA : A9 = some ⟨b, 0, none⟩) (hb : wc.heap.size ≤ b) (hbl : b < wr.heap.size)
    (hl : x.seg.length * 8 ≤ 140737488355328) {As : Option Addr} {ks : Nat} (hO : OwnR (Rd.int .i64) 3 w3 wr.heap.size S (.slice As x.seg.length ks) x.seg) (hm : Mod (fun _ => False) wr w3) :
    Lp w wc (w3.setCell ⟨b, i * 3 + 1, none⟩ (.slice As x.seg.length ks)) ok g o A1 c1 A2 c2 A4 c4 A5 c5 A7 c7 A9 c9 := by
  have hob : (Value.slice A9 o.maps.length c9).ownBlock = some b := by rw [hA]; rfl
  have mx : Mod (fun k => k = b) w3 (w3.setCell ⟨b, i * 3 + 1, none⟩ (.slice As x.seg.length ks)) := (Mod.refl (fun k => k = b) w3).setCell (a := ⟨b, i * 3 + 1, none⟩) (.inl rfl) _
  have hgl := h.resl
  have hsz := h.mod.size
  refine ⟨(mx.block g (by have := hm.size; omega) (by omega)).trans ((hm.block g (lt_of_blk h.blk) id).trans h.blk), (h.mod.trans hm (fun _ h => h.elim)).trans mx (fun k hk => .inl (.inr (by rw [hk]; exact hob))), (h.res.move hm id).move mx (by omega), h.resl, ?_⟩
  refine ownSg_seg (h.maps.mod hm (fun _ _ => id) (fun _ _ _ => id)) hob (fun k hk e => hk.2 (by rw [e]; exact hob.symm)) hx ?_
  refine Rd.mono ((ownIn_free (S' := fun _ => False) hO).reads hl) (fun k hk => ?_)
  rcases hk with hk | hk
  · exact hk.elim
  · have hlow : wr.heap.size ≤ k := by obtain ⟨_, q, _⟩ := hO; exact (own_lt q k hk).1
    exact ⟨.inr (by omega), fun e => by rw [hob] at e; have := Option.some.inj e; omega⟩
/-- a copy: all its rows are new, the kids' row is apart from the rest (the segs of its maps may be the old ones). -/
structure Copied (w w' : World) (ok : Nat → Prop) (o : Ob) (A1 : Option Addr) (c1 : Nat) (A2 : Option Addr) (c2 : Nat) (A4 : Option Addr) (c4 : Nat) (A5 : Option Addr) (c5 : Nat) (A7 : Option Addr) (c7 : Nat) (A9 : Option Addr) (c9 : Nat) : Prop where
  lab : (Rd.slice 24 EntryR).rel w' (fun k => w.heap.size ≤ k ∧ some k ≠ (Value.slice A2 o.kids.length c2).ownBlock) [.slice A1 o.label.length c1] o.label
  kid : OwnR KidR 43 w' w.heap.size (fun _ => False) (.slice A2 o.kids.length c2) o.kids
  byt : bytesR.rel w' (fun k => w.heap.size ≤ k ∧ some k ≠ (Value.slice A2 o.kids.length c2).ownBlock) [.slice A4 o.bytes.length c4] o.bytes
  own : nmsR.rel w' (fun k => w.heap.size ≤ k ∧ some k ≠ (Value.slice A2 o.kids.length c2).ownBlock) [.slice A5 o.own.length c5] o.own
  ent : (Rd.slice 24 EntryR).rel w' (fun k => w.heap.size ≤ k ∧ some k ≠ (Value.slice A2 o.kids.length c2).ownBlock) [.slice A7 o.entry.length c7] o.entry
  maps : (Rd.slice 40 SgR).rel w' (fun k => ((ok k ∧ k < w.heap.size) ∨ w.heap.size ≤ k) ∧ some k ≠ (Value.slice A2 o.kids.length c2).ownBlock) [.slice A9 o.maps.length c9] o.maps
  mod : Mod (fun _ => False) w w'
  ints : Rd.inR .i64 o.kind ∧ Rd.inR .i64 o.next ∧ Rd.inR .i64 o.cats ∧ Rd.inR .i64 o.ring
theorem Copied.made {w wc wr w3 : World} {ok : Nat → Prop} {g : Nat} {o : Ob} {A1 A2 A4 A5 A7 A9 A9' : Option Addr} {c1 c2 c4 c5 c7 c9 c9' : Nat} (h : Cp2 w wc g o A1 c1 A2 c2 A4 c4 A5 c5 A7 c7 A9 c9) (hl : Lp w wc wr ok g o A1 c1 A2 c2 A4 c4 A5 c5 A7 c7 A9' c9') (hm : Mod (fun k => k = g + 1) wr w3) (hb : o.maps.length * 40 ≤ 140737488355328) (hi : Rd.inR .i64 o.kind ∧ Rd.inR .i64 o.next ∧ Rd.inR .i64 o.cats ∧ Rd.inR .i64 o.ring) :
    Copied w w3 ok o A1 c1 A2 c2 A4 c4 A5 c5 A7 c7 A9' c9' := by
  have ha := h.at_
  have hr := hl.resl
  have ms := hl.mod.size
  have hown : ∀ k, (Value.slice A9' o.maps.length c9').ownBlock = some k → wc.heap.size ≤ k := fun k hk => by obtain ⟨_, q, _⟩ := hl.maps; exact (own_lt q k hk).1
  have mm : Mod (fun k => (k = g ∨ (Value.slice A9' o.maps.length c9').ownBlock = some k) ∨ k = g + 1) wc w3 := (hl.mod.mono (fun _ h => .inl h)).trans hm (fun k hk => .inl (.inr hk))
  have hno : ∀ k, ((g + 1 < k ∧ some k ≠ (Value.slice A2 o.kids.length c2).ownBlock) ∧ k < wc.heap.size) → ¬ ((k = g ∨ (Value.slice A9' o.maps.length c9').ownBlock = some k) ∨ k = g + 1) := fun k hk e => by
    rcases e with (e | e) | e
    · omega
    · have := hown k e; omega
    · omega
  have hw : ∀ k, ((g + 1 < k ∧ some k ≠ (Value.slice A2 o.kids.length c2).ownBlock) ∧ k < wc.heap.size) → w.heap.size ≤ k ∧ some k ≠ (Value.slice A2 o.kids.length c2).ownBlock := fun k hk => ⟨by omega, hk.1.2⟩
  have hkb : ∀ k, (Value.slice A2 o.kids.length c2).ownBlock = some k → g + 2 ≤ k ∧ k < wc.heap.size := fun k hk => by obtain ⟨_, q, _⟩ := h.kid; exact own_lt q k hk
  refine ⟨Rd.mono (Rd.mod (Rd.bound h.lab) mm hno) hw, ?_, Rd.mono (Rd.mod (Rd.bound h.byt) mm hno) hw, Rd.mono (Rd.mod (Rd.bound h.own) mm hno) hw, Rd.mono (Rd.mod (Rd.bound h.ent) mm hno) hw, ?_, h.mod.trans mm (fun k hk => .inr ?_), hi⟩
  · have h2 := h.kid.mod mm (fun k hk e => by
      have h1 := hkb k hk
      rcases e with (e | e) | e
      · omega
      · have := hown k e; omega
      · omega) (fun _ h _ => h.elim)
    obtain ⟨cells, ⟨q0, q1⟩, q2⟩ := h2
    exact ⟨cells, ⟨q0, q1.imp id (fun ⟨gg, cap, cu, r1, r2, r3⟩ => ⟨gg, cap, cu, r1, by omega, r3⟩)⟩, q2⟩
  · refine Rd.mono (Rd.mod (Rd.mono ((hl.maps).reads hb) (ok1 := fun k => ((ok k ∧ k < w.heap.size) ∨ wc.heap.size ≤ k)) (fun k hk => ?_)) hm (fun k hk e => ?_)) (fun k hk => ?_)
    · rcases hk with hk | hk
      · exact hk.1
      · exact .inr (hown k hk)
    · rcases hk with hk | hk <;> omega
    · have hs := h.mod.size
      refine ⟨hk.imp id (fun h => by omega), fun e => ?_⟩
      have h1 := hkb k e.symm
      rcases hk with hk | hk <;> omega
  · rcases hk with (hk | hk) | hk
    · omega
    · have := hown k hk
      have := h.mod.size; omega
    · omega
theorem Copied.reads {w w' : World} {ok : Nat → Prop} {o : Ob} {A1 A2 A4 A5 A7 A9 : Option Addr} {c1 c2 c4 c5 c7 c9 : Nat} (h : Copied w w' ok o A1 c1 A2 c2 A4 c4 A5 c5 A7 c7 A9 c9) (hk : o.kids.length * 24 ≤ 140737488355328) :
    ObR.rel w' (fun k => (ok k ∧ k < w.heap.size) ∨ w.heap.size ≤ k) [.int .i64 o.kind, .slice A1 o.label.length c1, .slice A2 o.kids.length c2, .int .i64 o.next, .slice A4 o.bytes.length c4, .slice A5 o.own.length c5, .int .i64 o.cats, .slice A7 o.entry.length c7, .int .i64 o.ring, .slice A9 o.maps.length c9] o := by
  have f : ∀ k, (w.heap.size ≤ k ∧ some k ≠ (Value.slice A2 o.kids.length c2).ownBlock) → (ok k ∧ k < w.heap.size) ∨ w.heap.size ≤ k := fun k hk => .inr hk.1
  refine ObR_iff.2 ⟨[_], [_], [_], [_], [_], [_], [_], [_], [_], [_], rfl, ⟨rfl, h.ints.1⟩, Rd.mono h.lab f, Rd.mono (h.kid.reads hk) (fun k hk => ?_), ⟨rfl, h.ints.2.1⟩, Rd.mono h.byt f, Rd.mono h.own f, ⟨rfl, h.ints.2.2.1⟩, Rd.mono h.ent f, ⟨rfl, h.ints.2.2.2⟩, Rd.mono h.maps (fun k hk => hk.1)⟩
  rcases hk with hk | hk
  · exact hk.elim
  · obtain ⟨_, q, _⟩ := h.kid
    exact .inr (own_lt q k hk).1
theorem Tryz.infoOb2 : (Tryz.prog.info? 39).map (·.size) = some 10 := by kernel_rfl
theorem obC_one (o : Ob) (A1 : Option Addr) (c1 : Nat) (A2 : Option Addr) (c2 : Nat) (A4 : Option Addr) (c4 : Nat) (A5 : Option Addr) (c5 : Nat) (A7 : Option Addr) (c7 : Nat) (A9 : Option Addr) (c9 : Nat) :
    ∀ u ∈ ([.int .i64 o.kind, .slice A1 o.label.length c1, .slice A2 o.kids.length c2, .int .i64 o.next, .slice A4 o.bytes.length c4, .slice A5 o.own.length c5, .int .i64 o.cats, .slice A7 o.entry.length c7, .int .i64 o.ring, .slice A9 o.maps.length c9] : List Value), u.oneCell' = true := by
  intro u hu
  simp only [List.mem_cons, List.not_mem_nil, or_false] at hu
  rcases hu with rfl | rfl | rfl | rfl | rfl | rfl | rfl | rfl | rfl | rfl <;> rfl
theorem cloneEn_cf (args : Array Value) (w : World) : (callFunc 67 args).run Tryz.prog w = .ok (.enter 67 args) w := callFunc_go Tryz.func67 (by kernel_rfl) (by kernel_rfl) args w
set_option maxRecDepth 100000 in
set_option maxHeartbeats 1000000 in
theorem copy_any (cs : List Value) (o : Ob) (ok : Nat → Prop) (w : World) (h : ObR.rel w ok cs o) :
    Calls Tryz.prog 34 #[.agg cs.toArray] w fun e w' => ∃ A1 c1 A2 c2 A4 c4 A5 c5 A7 c7 A9 c9, e = .returned (.agg #[.int .i64 o.kind, .slice A1 o.label.length c1, .slice A2 o.kids.length c2, .int .i64 o.next, .slice A4 o.bytes.length c4, .slice A5 o.own.length c5, .int .i64 o.cats, .slice A7 o.entry.length c7, .int .i64 o.ring, .slice A9 o.maps.length c9]) ∧ Copied w w' ok o A1 c1 A2 c2 A4 c4 A5 c5 A7 c7 A9 c9 := by
  obtain ⟨A1, c1, A2, c2, A4, c4, A5, c5, A7, c7, A9, c9, rfl, h0, h1, h2, h3, h4, h5, h6, h7, h8, h9⟩ := ObR_cells (Rd.bound h)
  clear h
  have HH := Lib.hid (And.intro h1 (And.intro h2 (And.intro h4 (And.intro h5 (And.intro h7 h9)))))
  clear h1 h2 h4 h5 h7 h9
  go_enter Tryz.func34, Tryz.ntmps34
  go_wp2_with fail
  obtain ⟨W0, hW0⟩ : ∃ W0, W0 = (w.alloc (.cells #[.int .i64 o.kind, .slice A1 o.label.length c1, .slice A2 o.kids.length c2, .int .i64 o.next, .slice A4 o.bytes.length c4, .slice A5 o.own.length c5, .int .i64 o.cats, .slice A7 o.entry.length c7, .int .i64 o.ring, .slice A9 o.maps.length c9] 39)).alloc (.cells #[.int .i64 0, .slice none 0 0, .slice none 0 0, .int .i64 0, .slice none 0 0, .slice none 0 0, .int .i64 0, .slice none 0 0, .int .i64 0, .slice none 0 0] 39) := ⟨_, rfl⟩
  obtain ⟨g, hg⟩ : ∃ g, g = w.heap.size := ⟨_, rfl⟩
  have m0 : Mod (fun _ => False) w W0 := by rw [hW0]; exact ((Mod.refl _ _).alloc _).alloc _
  have b0 : W0.heap[g]? = some (.cells #[.int .i64 o.kind, .slice A1 o.label.length c1, .slice A2 o.kids.length c2, .int .i64 o.next, .slice A4 o.bytes.length c4, .slice A5 o.own.length c5, .int .i64 o.cats, .slice A7 o.entry.length c7, .int .i64 o.ring, .slice A9 o.maps.length c9] 39 (0, 0)) := by
    rw [hW0, hg]
    exact (((Mod.refl (fun _ => False) _).alloc _).block _ (by simp) id).trans (heap_alloc_new w _)
  rw [← hW0, ← hg]
  have x1 : W0.drew.cell? ⟨g, 1, none⟩ = some (.slice A1 o.label.length c1) := by rw [cell_of_blk (w := W0.drew) b0]; rfl
  have x7 : W0.drew.cell? ⟨g, 7, none⟩ = some (.slice A7 o.entry.length c7) := by rw [cell_of_blk (w := W0.drew) b0]; rfl
  have r0 : ResZ W0 (g + 1) := by
    refine ⟨[.int .i64 0, .slice none 0 0, .slice none 0 0, .int .i64 0, .slice none 0 0, .slice none 0 0, .int .i64 0, .slice none 0 0, .int .i64 0, .slice none 0 0], rfl, ?_⟩
    rw [hW0, hg]
    have := heap_alloc_new (w.alloc (.cells #[.int .i64 o.kind, .slice A1 o.label.length c1, .slice A2 o.kids.length c2, .int .i64 o.next, .slice A4 o.bytes.length c4, .slice A5 o.own.length c5, .int .i64 o.cats, .slice A7 o.entry.length c7, .int .i64 o.ring, .slice A9 o.maps.length c9] 39)) (.cells #[.int .i64 0, .slice none 0 0, .slice none 0 0, .int .i64 0, .slice none 0 0, .slice none 0 0, .int .i64 0, .slice none 0 0, .int .i64 0, .slice none 0 0] 39)
    rwa [World.size_alloc] at this
  have HR0 := Lib.hid r0; clear r0
  have H0 := Lib.hid (And.intro m0.drew (And.intro b0 hg))
  clear m0 b0 hW0 hg
  have cl1 := fun W (hW : Mod (fun _ => False) w W) => cloneEn_any A1 _ c1 o.label _ W (Rd.mod HH.out.1 hW (fun _ _ => id))
  have cl7 := fun W (hW : Mod (fun _ => False) w W) => cloneEn_any A7 _ c7 o.entry _ W (Rd.mod HH.out.2.2.2.2.1 hW (fun _ _ => id))
  have HC := Lib.hid (And.intro cl1 cl7); clear cl1 cl7
  go_cut [] (fun wx => ∃ A1' c1' A7' c7', Hid (Cp1 w wx g o A1' c1' A2 c2 A4 c4 A5 c5 A7' c7' A9 c9))
  case first =>
   go_region_law (first
    | (refine step_call rfl 67 _ _ (by rfl) (.slice A1 o.label.length c1) (by rfl) (cloneEn_cf _ _) (HC.out.1 W0.drew H0.out.1) ?_
       rintro _ w2 ⟨A1', c1', rfl, hO1, hm1⟩
       refine ⟨_, rfl, ?_⟩
       have b2 := (hm1.block g (lt_of_blk (w := W0.drew) H0.out.2.1) id).trans H0.out.2.1
       have y7 : w2.cell? ⟨g, 7, none⟩ = some (.slice A7 o.entry.length c7) := by rw [cell_of_blk b2]; rfl
       have H2 := Lib.hid (And.intro (H0.out.1.trans hm1 (fun _ h => h.elim)) (And.intro b2 (And.intro hO1 hm1)))
       clear hO1 hm1 b2)
    | (refine step_call rfl 67 _ _ (by rfl) (.slice A7 o.entry.length c7) (by rfl) (cloneEn_cf _ _) (HC.out.2 w2 H2.out.1) ?_
       rintro _ w3 ⟨A7', c7', rfl, hO7, hm7⟩
       refine ⟨_, rfl, ?_⟩
       have b3 := (hm7.block g (lt_of_blk H2.out.2.1) id).trans H2.out.2.1
       have z1 : w3.cell? ⟨g, 1, none⟩ = some (.slice A1 o.label.length c1) := by rw [cell_of_blk b3]; rfl
       have z7 : w3.cell? ⟨g, 7, none⟩ = some (.slice A7 o.entry.length c7) := by rw [cell_of_blk b3]; rfl
       have f1 : w3.frozen? ⟨g, 1, none⟩ = false := free_of_blk b3 1
       have f7 : w3.frozen? ⟨g, 7, none⟩ = false := free_of_blk b3 7
       have H3 := Lib.hid (And.intro (H2.out.1.trans hm7 (fun _ h => h.elim)) (And.intro b3 (And.intro hO7 hm7)))
       clear hO7 hm7 b3))
   all_goals
     go_wp2_with fail
     go_meet
     exact ⟨A1', c1', A7', c7', Lib.hid (Cp1.made (slice_row HH.out.1).2.2.2.1 (slice_row HH.out.2.2.2.2.1).2.2.2.1 H2.out.2.2.1 H3.out.2.2.1 (by obtain ⟨_, _, q⟩ := HR0.out; exact lt_of_blk (w := W0.drew) q) (by obtain ⟨_, _, q⟩ := HR0.out; exact Nat.lt_of_lt_of_le (lt_of_blk (w := W0.drew) q) H2.out.2.2.2.size) H3.out.1 H3.out.2.2.2 H3.out.2.1 H0.out.2.2 ((show ResZ W0.drew (g + 1) from HR0.out).move (H2.out.2.2.2.trans H3.out.2.2.2 (fun _ h => h.elim)) id))⟩
  case rest =>
   obtain ⟨A1', c1', A7', c7', H4⟩ := hcut
   clear HC x1 x7 H0
   go_wp2_with fail
   have x2 : wc.drew.cell? ⟨g, 2, none⟩ = some (.slice A2 o.kids.length c2) := by rw [cell_of_blk (w := wc.drew) H4.out.blk]; rfl
   have x4 : wc.drew.cell? ⟨g, 4, none⟩ = some (.slice A4 o.bytes.length c4) := by rw [cell_of_blk (w := wc.drew) H4.out.blk]; rfl
   have x5 : wc.drew.cell? ⟨g, 5, none⟩ = some (.slice A5 o.own.length c5) := by rw [cell_of_blk (w := wc.drew) H4.out.blk]; rfl
   have cl2 := fun W (hW : Mod (fun _ => False) w W) => cloneKd_any A2 _ c2 o.kids _ W (Rd.mod HH.out.2.1 hW (fun _ _ => id))
   have cl4 := fun W (hW : Mod (fun _ => False) w W) => cloneBy_any A4 _ c4 o.bytes _ W (Rd.mod HH.out.2.2.1 hW (fun _ _ => id))
   have cl5 := fun W (hW : Mod (fun _ => False) w W) => cloneN_any A5 _ c5 o.own _ W (Rd.mod HH.out.2.2.2.1 hW (fun _ _ => id))
   have HC := Lib.hid (And.intro cl2 (And.intro cl4 cl5)); clear cl2 cl4 cl5
   have H0 := Lib.hid (And.intro H4.out.mod.drew (show wc.drew.heap[g]? = _ from H4.out.blk))
   go_cut [] (fun wx => ∃ A2' c2' A4' c4' A5' c5', Hid (Cp2 w wx g o A1' c1' A2' c2' A4' c4' A5' c5' A7' c7' A9 c9))
   case first =>
    go_region_law (first
     | (refine step_call rfl 68 _ _ (by rfl) (.slice A2 o.kids.length c2) (by rfl) (cloneKd_cf _ _) (HC.out.1 wc.drew H0.out.1) ?_
        rintro _ w2 ⟨A2', c2', rfl, hO2, hm2⟩
        refine ⟨_, rfl, ?_⟩
        have b2 := (hm2.block g (lt_of_blk H0.out.2) id).trans H0.out.2
        have y4 : w2.cell? ⟨g, 4, none⟩ = some (.slice A4 o.bytes.length c4) := by rw [cell_of_blk b2]; rfl
        have y5 : w2.cell? ⟨g, 5, none⟩ = some (.slice A5 o.own.length c5) := by rw [cell_of_blk b2]; rfl
        have H2 := Lib.hid (And.intro (H0.out.1.trans hm2 (fun _ h => h.elim)) (And.intro b2 (And.intro hO2 hm2)))
        clear hO2 hm2 b2)
     | (refine step_call rfl 42 _ _ (by rfl) (.slice A4 o.bytes.length c4) (by rfl) (cloneBy_cf _ _) (HC.out.2.1 w2 H2.out.1) ?_
        rintro _ w3 ⟨A4', c4', rfl, hO3, hm3⟩
        refine ⟨_, rfl, ?_⟩
        have b3 := (hm3.block g (lt_of_blk H2.out.2.1) id).trans H2.out.2.1
        have z5 : w3.cell? ⟨g, 5, none⟩ = some (.slice A5 o.own.length c5) := by rw [cell_of_blk b3]; rfl
        have H3 := Lib.hid (And.intro (H2.out.1.trans hm3 (fun _ h => h.elim)) (And.intro b3 (And.intro hO3 hm3)))
        clear hO3 hm3 b3)
     | (refine step_call rfl 69 _ _ (by rfl) (.slice A5 o.own.length c5) (by rfl) (cloneNm_cf _ _) (HC.out.2.2 w3 H3.out.1) ?_
        rintro _ w4 ⟨A5', c5', rfl, hO4, hm4⟩
        refine ⟨_, rfl, ?_⟩
        have b4 := (hm4.block g (lt_of_blk H3.out.2.1) id).trans H3.out.2.1
        have u2 : w4.cell? ⟨g, 2, none⟩ = some (.slice A2 o.kids.length c2) := by rw [cell_of_blk b4]; rfl
        have u4 : w4.cell? ⟨g, 4, none⟩ = some (.slice A4 o.bytes.length c4) := by rw [cell_of_blk b4]; rfl
        have u5 : w4.cell? ⟨g, 5, none⟩ = some (.slice A5 o.own.length c5) := by rw [cell_of_blk b4]; rfl
        have f2 : w4.frozen? ⟨g, 2, none⟩ = false := free_of_blk b4 2
        have f4 : w4.frozen? ⟨g, 4, none⟩ = false := free_of_blk b4 4
        have f5 : w4.frozen? ⟨g, 5, none⟩ = false := free_of_blk b4 5
        have HZ := Lib.hid (And.intro b4 (And.intro hO4 hm4))
        clear hO4 hm4 b4))
    all_goals
      go_wp2_with fail
      go_meet
      have hnm := nms_row HH.out.2.2.2.1
      exact ⟨A2', c2', A4', c4', A5', c5', Lib.hid (Cp2.made H4.out (slice_row HH.out.2.2.1).2.2.2.1 (by omega) (fun x hx => by obtain ⟨j, hj⟩ := List.getElem?_of_mem hx; obtain ⟨_, _, _, _, q⟩ := hnm.2.2.2.2 j x hj; exact q) H2.out.2.2.1 ((Mod.refl (fun _ => False) wc).drew.trans H2.out.2.2.2 (fun _ h => h.elim)) H3.out.2.2.1 H3.out.2.2.2 HZ.out.2.1 HZ.out.2.2 HZ.out.1)⟩
   case rest =>
    obtain ⟨A2', c2', A4', c4', A5', c5', H5⟩ := hcut
    clear HC x2 x4 x5 H0 H4
    have x9 : wc.cell? ⟨g, 9, none⟩ = some (.slice A9 o.maps.length c9) := by rw [cell_of_blk H5.out.blk]; rfl
    go_wp2_with fail
    refine (cloneSg_any A9 _ c9 o.maps _ wc (Rd.mod HH.out.2.2.2.2.2 H5.out.mod (fun _ _ => id))).mono ?_
    rintro e w2 ⟨A9', c9', rfl, hO, hm⟩
    have b2 := (hm.block g (lt_of_blk H5.out.blk) id).trans H5.out.blk
    have y9 : w2.cell? ⟨g, 9, none⟩ = some (.slice A9 o.maps.length c9) := by rw [cell_of_blk b2]; rfl
    have f9 : w2.frozen? ⟨g, 9, none⟩ = false := free_of_blk b2 9
    have H6 := Lib.hid (And.intro b2 (And.intro hO hm))
    clear hO hm b2 x9
    go_wp2_with fail
    have HL := Lib.hid (Lp.start (ok := ok) H5.out H6.out.1 H6.out.2.1 (fun k hk => hk) H6.out.2.2)
    clear H6 y9 f9
    obtain ⟨wl, hwl⟩ : ∃ wl, wl = w2.setCell ⟨g, 9, none⟩ (.slice A9' o.maps.length c9') := ⟨_, rfl⟩
    rw [← hwl] at HL ⊢
    clear hwl
    have hml : o.maps.length * 40 ≤ 140737488355328 := (slice_row HH.out.2.2.2.2.2).2.2.2.1
    go_loopg [31] o.maps.length (fun f s31 wx => ∃ (i : Nat), s31 = .int .i64 i ∧ i + f = o.maps.length ∧ Hid (Lp w wc wx ok g o A1' c1' A2' c2' A4' c4' A5' c5' A7' c7' A9' c9'))
    case atStart => exact ⟨0, rfl, by omega, HL⟩
    case round =>
      obtain ⟨i, rfl, hi, HP⟩ := hrel
      clear HL
      by_cases hil : i < o.maps.length
      · obtain ⟨x, hx⟩ : ∃ x, o.maps[i]? = some x := ⟨_, List.getElem?_eq_getElem hil⟩
        obtain ⟨b, cur, hb, hbw, As, ks, hA9, hcell, hseg⟩ := Lp.at_ HP.out hx
        have z9 : wr.drew.cell? ⟨g, 9, none⟩ = some (.slice (some ⟨b, 0, none⟩) o.maps.length c9') := by rw [← hA9, cell_of_blk (w := wr.drew) HP.out.blk]; rfl
        have zs : wr.drew.cell? ⟨b, i * 3 + 1, none⟩ = some (.slice As x.seg.length ks) := hcell
        have hcl := fun W (hW : Mod (fun _ => False) wr W) => cloneIn_any As _ ks x.seg _ W (Rd.mod (Rd.bound hseg) hW (fun _ _ => id))
        have HQ := Lib.hid (And.intro hcl (And.intro hb (And.intro hbw (And.intro (slice_row hseg).2.2.2.1 (And.intro hx hA9)))))
        clear hcl hb hbw hcell hseg hx
        go_wp2_with fail
        go_region_law (first
          | (refine step_call rfl 64 _ _ (by rfl) (.slice As x.seg.length ks) (by rfl) (cloneIn_cf _ _) (HQ.out.1 wr.drew (Mod.refl _ _).drew) ?_
             rintro _ w3 ⟨As', ks', rfl, hO3, hm3⟩
             refine ⟨_, rfl, ?_⟩
             have g3 := (hm3.block g (lt_of_blk (w := wr.drew) HP.out.blk) id).trans (show wr.drew.heap[g]? = _ from HP.out.blk)
             have b3 := (hm3.block b (lt_of_blk (w := wr.drew) HQ.out.2.1) id).trans (show wr.drew.heap[b]? = _ from HQ.out.2.1)
             have y9 : w3.cell? ⟨g, 9, none⟩ = some (.slice (some ⟨b, 0, none⟩) o.maps.length c9') := by rw [← hA9, cell_of_blk g3]; rfl
             have ys : w3.cell? ⟨b, i * 3 + 1, none⟩ = some (.slice As x.seg.length ks) := (hm3.cell (a := ⟨b, i * 3 + 1, none⟩) (lt_of_blk (w := wr.drew) HQ.out.2.1) id).trans zs
             have fs : w3.frozen? ⟨b, i * 3 + 1, none⟩ = false := free_of_blk b3 _
             have H3 := Lib.hid (And.intro hO3 hm3)
             clear hO3 hm3 g3 b3))
        all_goals
          have HN := Lib.hid (Lp.put HP.out HQ.out.2.2.2.2.1 HQ.out.2.2.2.2.2 HQ.out.2.2.1 (lt_of_blk HQ.out.2.1) HQ.out.2.2.2.1 H3.out.1 ((Mod.refl (fun _ => False) wr).drew.trans H3.out.2 (fun _ h => h.elim)))
          obtain ⟨wn, hwn⟩ : ∃ wn, wn = w3.setCell ⟨b, i * 3 + 1, none⟩ (.slice As' x.seg.length ks') := ⟨_, rfl⟩
          rw [← hwn] at HN ⊢
          rw [← hA9]
          clear hwn hA9 z9 zs y9 ys fs H3
          go_wp2_with fail
          go_roundg (gk - 1)
          case measure => omega
          case rel => exact ⟨i + 1, by go_num, by omega, HN⟩
      · obtain rfl : i = o.maps.length := by omega
        clear hil
        obtain ⟨old, hol, hres⟩ := HP.out.res
        have HZ := Lib.hid (And.intro hol hres); clear hol hres
        go_wp2_with (first
          | (refine wpList_load_agg rfl 39 _ rfl Tryz.underlying39 Tryz.infoOb2 ⟨g, 0, none⟩ rfl [.int .i64 o.kind, .slice A1' o.label.length c1', .slice A2' o.kids.length c2', .int .i64 o.next, .slice A4' o.bytes.length c4', .slice A5' o.own.length c5', .int .i64 o.cats, .slice A7' o.entry.length c7', .int .i64 o.ring, .slice A9' o.maps.length c9'] rfl (fun j u hj => by rw [agg_at, cell_of_blk HP.out.blk]; simpa using hj) ?_)
          | (refine wpList_store_var rfl 39 _ _ rfl (g + 1) 39 old [.int .i64 o.kind, .slice A1' o.label.length c1', .slice A2' o.kids.length c2', .int .i64 o.next, .slice A4' o.bytes.length c4', .slice A5' o.own.length c5', .int .i64 o.cats, .slice A7' o.entry.length c7', .int .i64 o.ring, .slice A9' o.maps.length c9'] HZ.out.2 rfl rfl Tryz.infoOb2 HZ.out.1 (obC_one _ _ _ _ _ _ _ _ _ _ _ _ _) ?_))
        intro w3 hb3 hm3
        have HE := Lib.hid (And.intro hb3 hm3); clear hb3 hm3
        go_wp2_with fail
        refine bodyPost_ret (results_agg rfl _ _ (g + 1) 39 [.int .i64 o.kind, .slice A1' o.label.length c1', .slice A2' o.kids.length c2', .int .i64 o.next, .slice A4' o.bytes.length c4', .slice A5' o.own.length c5', .int .i64 o.cats, .slice A7' o.entry.length c7', .int .i64 o.ring, .slice A9' o.maps.length c9'] (0, 0) rfl HE.out.1 Tryz.underlying39 Tryz.infoOb2) rfl ?_
        exact ⟨A1', c1', A2', c2', A4', c4', A5', c5', A7', c7', A9', c9', rfl, Copied.made H5.out HP.out HE.out.2 hml ⟨h0, h3, h6, h8⟩⟩
end Go.Proofs.YtefedalnafjcfaaGreatDoor

