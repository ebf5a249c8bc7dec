/- Part of this claim's proof (texts MapE, TapeEn, Tab18, joined by program). -/
import Derived.WideKeyEntry
import Derived.Test.YtefedalnafjcfaaGreatDoorA13
import Derived.Test.YtefedalnafjcfaaGreatDoorA15
import Derived.Test.YtefedalnafjcfaaGreatDoorA07
import Derived.Test.YtefedalnafjcfaaGreatDoorA11
import Derived.Test.YtefedalnafjcfaaGreatDoorA23
namespace Go.Proofs.YtefedalnafjcfaaGreatDoor
open Go.RowKit Go.MapKept
open Go.ChangeMaps (setBlock)
set_option linter.unusedVariables false
/-- The map b, its entry for k found, st its stamp: a value stored there makes the map vs with that value at k. -/
def EntryAt (P : Program) (w : World) (b : Nat) (vs : List (List UInt8 × Value)) (k : List UInt8) (st : Nat) : Prop :=
  ∃ o, w.heap[b]? = some o ∧ ∀ (t : TypeId) (w2 : World) (val : Value), w2.heap[b]? = some o → ∃ w3, (Instr.entryStore t (.map (some b)) (goInt st) val).run P w2 = .ok () w3 ∧ MapAt w3 b (updV vs k val) ∧ Mod (fun j => j = b) w2 w3
theorem EntryAt.move {P : Program} {w w' : World} {b st : Nat} {vs : List (List UInt8 × Value)} {k : List UInt8} (h : EntryAt P w b vs k st) (hb : w'.heap[b]? = w.heap[b]?) : EntryAt P w' b vs k st := by
  obtain ⟨o, h1, h2⟩ := h
  exact ⟨o, hb.trans h1, h2⟩
theorem EntryAt.lt {P : Program} {w : World} {b st : Nat} {vs : List (List UInt8 × Value)} {k : List UInt8} (h : EntryAt P w b vs k st) : b < w.heap.size := by
  obtain ⟨o, h1, h2⟩ := h
  exact (Array.getElem?_eq_some_iff.1 h1).1
section
variable {P : Program} {w : World} {b : Nat} {vs : List (List UInt8 × Value)}
theorem MapAt.entry (h : MapAt w b vs) {t kt e : TypeId} (ht : P.underlying t = some (.map kt e)) (hkt : P.underlying kt = some .string) {z : Value} (hz : ∀ u : World, (zeroValue e).run P u = .ok z u) (k : List UInt8) :
    ∃ (v0 : Value) (st : Nat) (w1 : World), (Instr.mapEntry t (.map (some b)) (encK k)).run P w = .ok (.tuple #[v0, goInt st]) w1 ∧ EntryAt P w1 b vs k st ∧ Mod (fun j => j = b) w w1 := by
  have hup := fun v => h.update (P := P) ht hkt k v
  obtain ⟨es, clock, hb, hst, hk, hv⟩ := h
  have hmod : ∀ (w : World) (o o1 : Obj), w.heap[b]? = some o1 → Mod (fun j => j = b) w { w with heap := w.heap.setIfInBounds b o } := fun w o o1 hb =>
    ⟨rfl, rfl, rfl, by simp, fun j _ hj => (MapKept.heap_set hb).2 j hj⟩
  rcases find_says hk k with ⟨h1, h2, h3, h4⟩ | ⟨j, e0, h1, h2, h3, h4, h5⟩
  · refine ⟨z, clock, { w with heap := w.heap.setIfInBounds b (.map (es.push ⟨encK k, z, clock⟩) (clock + 1)) }, ?_, ⟨_, (MapKept.heap_set hb).1, fun t2 w2 val hw2 => ⟨{ w2 with heap := w2.heap.setIfInBounds b (.map (es.push ⟨encK k, val, clock⟩) (clock + 1)) }, ?_, ?_, hmod _ _ _ hw2⟩⟩, hmod _ _ _ hb⟩
    · simp [Instr.mapEntry, run_underlying ht, MapKept.run_getObj_map hb, MapKept.run_checkKey hkt (isKey_enc k), MapKept.run_findKey hkt h1, hz, MapKept.run_setObj_map _ hb, Result.andThen]
    · have hidx : (es.push ⟨encK k, z, clock⟩).findIdx? (fun e => ((e.born : Nat) : Int) == ((clock : Nat) : Int)) = some es.size := by
        rw [WideElems.findIdx_arr]
        have := WideElems.findIdx_born (l := (es.push ⟨encK k, z, clock⟩).toList) (j := es.size) (e0 := ⟨encK k, z, clock⟩) (by
          simp only [Array.toList_push, List.map_append, List.map_cons, List.map_nil]
          refine List.nodup_append.2 ⟨hst.2.1, by simp, fun a ha c hc e1 => ?_⟩
          simp only [List.mem_singleton] at hc
          obtain ⟨x, hx, rfl⟩ := List.mem_map.1 ha
          have := hst.1 x hx
          omega) (by simp)
        exact this
      have hmd : (es.push ⟨encK k, z, clock⟩).modify es.size (fun e => { e with val := val }) = es.push ⟨encK k, val, clock⟩ := by
        apply Array.ext'
        rw [Array.toList_modify, Array.toList_push, Array.toList_push, ← Array.length_toList, WideElems.modify_last]
      simp [Instr.entryStore, MapKept.run_getObj_map hw2, asInt, asIntOf, goInt, hidx, hmd, MapKept.run_setObj_map _ hw2, Result.andThen]
    · obtain ⟨w', hr, hm, _⟩ := hup val
      have hrun : (Instr.mapUpdate t (.map (some b)) (encK k) val).run P w = .ok () { w with heap := w.heap.setIfInBounds b (.map (es.push ⟨encK k, val, clock⟩) (clock + 1)) } := by
        simp [Instr.mapUpdate, run_underlying ht, MapKept.run_getObj_map hb, MapKept.run_checkKey hkt (isKey_enc k), MapKept.run_findKey hkt h1, Result.andThen, MapKept.run_setObj_map _ hb]
      rw [hrun] at hr
      cases hr
      exact hm.move ((MapKept.heap_set hw2).1.trans (MapKept.heap_set hb).1.symm)
  · have hes : es[j]? = some e0 := by simpa using h2
    have hsame : es.modify j (fun e => { e with key := encK k }) = es := by
      apply Array.ext'
      rw [Array.toList_modify, ChangeMaps.modify_eq_set _ _ _ _ h2]
      have : ({ e0 with key := encK k } : MapEntry) = e0 := by rw [← h3]
      rw [this]
      exact WideElems.set_self _ _ _ h2
    refine ⟨e0.val, e0.born, { w with heap := w.heap.setIfInBounds b (.map es clock) }, ?_, ⟨_, (MapKept.heap_set hb).1, fun t2 w2 val hw2 => ⟨{ w2 with heap := w2.heap.setIfInBounds b (.map (es.modify j (fun e' => { e' with key := encK k, val := val })) clock) }, ?_, ?_, hmod _ _ _ hw2⟩⟩, hmod _ _ _ hb⟩
    · simp [Instr.mapEntry, run_underlying ht, MapKept.run_getObj_map hb, MapKept.run_checkKey hkt (isKey_enc k), MapKept.run_findKey hkt h1, hes, h3, run_keyThatStays_enc, hsame, MapKept.run_setObj_map _ hb, Result.andThen]
    · have hidx : es.findIdx? (fun e => ((e.born : Nat) : Int) == ((e0.born : Nat) : Int)) = some j := by
        rw [WideElems.findIdx_arr]
        exact WideElems.findIdx_born hst.2.1 h2
      have hmd : es.modify j (fun e => { e with val := val }) = es.modify j (fun e' => { e' with key := encK k, val := val }) := by
        apply Array.ext'
        rw [Array.toList_modify, Array.toList_modify, ChangeMaps.modify_eq_set _ _ _ _ h2, ChangeMaps.modify_eq_set _ _ _ _ h2, ← h3]
      simp [Instr.entryStore, MapKept.run_getObj_map hw2, asInt, asIntOf, goInt, hidx, hmd, MapKept.run_setObj_map _ hw2, Result.andThen]
    · obtain ⟨w', hr, hm, _⟩ := hup val
      have hrun : (Instr.mapUpdate t (.map (some b)) (encK k) val).run P w = .ok () { w with heap := w.heap.setIfInBounds b (.map (es.modify j (fun e' => { e' with key := encK k, val := val })) clock) } := by
        simp [Instr.mapUpdate, run_underlying ht, MapKept.run_getObj_map hb, MapKept.run_checkKey hkt (isKey_enc k), MapKept.run_findKey hkt h1, Result.andThen, MapKept.run_setObj_map _ hb, hes, h3, run_keyThatStays_enc]
      rw [hrun] at hr
      cases hr
      exact hm.move ((MapKept.heap_set hw2).1.trans (MapKept.heap_set hb).1.symm)
end
section
variable {P : Program} {ops : Array Oper} {o : Oper} {a : Act} {K : Act → World → Prop} {Q : Exit → Act → World → Prop} {E : Prop} {w : World}
end
end Go.Proofs.YtefedalnafjcfaaGreatDoor

namespace Go.Proofs.YtefedalnafjcfaaGreatDoor
open Go.RowKit
set_option maxRecDepth 100000 in
theorem tend_ok (g : Nat) (ok : Nat → Prop) (v : Value) (w : World) (h : TapeAt w ok g v .nilIface []) :
    Calls Tryz.prog 26 #[.pointer (some ⟨g, 0, none⟩)] w fun e w' => e = .returned .nilIface ∧ w = w' := by
  have hc0 := h.cell0
  have hc1 := h.cell1
  obtain ⟨A, c, rfl⟩ := h.slice
  clear h
  go_enter Tryz.func26, Tryz.ntmps26
  go_wp2
  go_ret
  exact ⟨rfl, rfl⟩
/-- End where bytes are left, or the tape has failed: not nil. -/
def NotNil (e : Ending) : Prop := ∃ a, e = .returned (.iface 169 (.pointer (some a)))
set_option maxRecDepth 100000 in
theorem tend_left (g : Nat) (ok : Nat → Prop) (v : Value) (bs : List UInt8) (w : World) (h : TapeAt w ok g v .nilIface bs) (hne : bs ≠ []) :
    Calls Tryz.prog 26 #[.pointer (some ⟨g, 0, none⟩)] w fun e w' => NotNil e ∧ Mod (fun _ => False) w w' := by
  have hc0 := h.cell0
  have hc1 := h.cell1
  obtain ⟨A, c, rfl⟩ := h.slice
  have hpos : (0 : Int) < (bs.length : Int) := by have := List.length_pos_iff.2 hne; omega
  clear h hne
  go_enter Tryz.func26, Tryz.ntmps26
  go_wp2
  go_ret
  exact ⟨⟨_, rfl⟩, (Mod.refl _ _).alloc _⟩
end Go.Proofs.YtefedalnafjcfaaGreatDoor

namespace Go.Proofs.YtefedalnafjcfaaGreatDoor
open Go.RowKit Go.Shelf
set_option linter.unusedVariables false
set_option maxRecDepth 100000 in
theorem tendS_any (g : Nat) (ok : Nat → Prop) (s : TSt) (w : World) (h : TapeS w ok g s) :
    Calls Tryz.prog 26 #[.pointer (some ⟨g, 0, none⟩)] w fun r w' => ∃ e, r = .returned e ∧ (s.2 = 0 ∧ s.1 = [] → e = .nilIface) ∧ (¬ (s.2 = 0 ∧ s.1 = []) → ∃ T p, e = .iface T p) ∧ Mod (fun _ => False) w w' := by
  obtain ⟨v, e, h1, h2, h3⟩ := h
  by_cases hs : s.2 = 0
  · obtain rfl := h2 hs
    by_cases hb : s.1 = []
    · rw [hb] at h1
      refine (tend_ok g ok v w h1).mono ?_
      rintro e w' ⟨rfl, rfl⟩
      exact ⟨_, rfl, fun _ => rfl, fun h => absurd ⟨hs, hb⟩ h, .refl _ _⟩
    · refine (tend_left g ok v s.1 w h1 hb).mono ?_
      rintro e w' ⟨⟨a, rfl⟩, hm⟩
      exact ⟨_, rfl, fun h => absurd h.2 hb, fun _ => ⟨_, _, rfl⟩, hm⟩
  · obtain ⟨T, p, rfl⟩ := h3 hs
    have hc0 := h1.cell0
    have hc1 := h1.cell1
    have q1 := fun t u => run_eql_iface_nil_right (P := Tryz.prog) (ti := 73) t u Tryz.underlying73
    have HX := Lib.hid hs; clear h1 h2 h3 hs
    go_enter Tryz.func26, Tryz.ntmps26
    go_wp2
    go_ret
    exact ⟨_, rfl, fun h => absurd h.1 HX.out, fun _ => ⟨_, _, rfl⟩, .refl _ _⟩
theorem getIs_all (most : Int) (hm : 0 ≤ most) : ∀ (k : Nat) (s : TSt), (getIs most k s).1.length = k ∧ ∀ x ∈ (getIs most k s).1, 0 ≤ x ∧ x ≤ most
  | 0, s => by simp [getIs]
  | k + 1, s => by
    have ih := getIs_all most hm k (numS most s).2
    have hr := numS_range s hm
    refine ⟨by simp [getIs, ih.1], fun x hx => ?_⟩
    simp only [getIs, List.mem_cons] at hx
    rcases hx with rfl | hx
    · exact hr
    · exact ih.2 x hx
theorem getP_right (s : TSt) : rightP (getP s).1 = true ∧ ((getP s).2.1 = 0 ∨ (getP s).2.1 = 10) := by
  have hr := numS_range s (most := 6) (by decide)
  obtain ⟨h1, h2⟩ := getIs_all 1048576 (by decide) (numS 6 s).1.toNat (numS 6 s).2
  unfold getP
  dsimp only
  split
  · exact ⟨rfl, .inr rfl⟩
  · refine ⟨rightP_iff.2 ⟨?_, h2⟩, .inl rfl⟩
    show (getIs 1048576 (numS 6 s).1.toNat (numS 6 s).2).1.length ≤ 6
    omega
theorem getOb_right {s : TSt} (h : (getOb s).2.1 = true) : RightOb (getOb s).1 := by
  unfold getOb at *
  simp only [Bool.and_eq_true] at h
  exact rightOb_iff.1 h.2
theorem layT_last : ∀ {L : Tab} {p : List Int} (o : Ob), (∀ x ∈ L, cmpL x.1 p < 0) → layT L p o = L ++ [(p, o)]
  | [], p, o, _ => rfl
  | x :: L, p, o, h => by
    rw [layT, if_pos (h x (.head _)), layT_last o (fun y hy => h y (.tail _ hy))]
    rfl
theorem last_lt {L : Tab} (ha : AscT L) {x : List Int × Ob} (hx : L.getLast? = some x) {p : List Int} (h : cmpL x.1 p < 0) : ∀ y ∈ L, cmpL y.1 p < 0 := by
  intro y hy
  obtain ⟨M, rfl⟩ : ∃ M, L = M ++ [x] := by
    obtain ⟨M, hM⟩ := List.getLast?_eq_some_iff.1 hx
    exact ⟨M, hM⟩
  rcases List.mem_append.1 hy with hy | hy
  · have : cmpL y.1 x.1 < 0 := (List.pairwise_append.1 ha).2.2 y hy x (.head _)
    have h3 := cmpL_trans y.1 x.1 p (by omega) (by omega)
    rcases Int.lt_or_eq_of_le h3.1 with h4 | h4
    · exact h4
    · have := (h3.2 h4).1; omega
  · rw [List.mem_singleton.1 hy]; exact h
/-- The table's map, of which an entry is stored. -/
theorem TabAt.lay {W : World} {S : Nat → Prop} {g mb : Nat} {L : Tab} (h : TabAt W S g mb L) :
    ∃ vs, MapAt W mb vs ∧ ∀ (T : Nat → Prop) (w1 : World) (p : List Int) (o : Ob) (cs : List Value), MapAt w1 mb (updV vs (pathT p) (.agg cs.toArray)) → Mod T W w1 → (∀ k, S k → ¬ T k) → ¬ T g → ObR.rel w1 S cs o → TabAt w1 S g mb (layT L p o) := by
  obtain ⟨vs, q1, q2, q3⟩ := h.ex
  refine ⟨vs, q1, fun T w1 p o cs r2 r3 hS hg hc => ?_⟩
  refine ⟨(r3.block g (lt_of_blk h.blk) hg).trans h.blk, h.nmb, h.ng, (layT_mem h.asc p o).1, _, r2, keys_lay h.asc q2 p o _, fun q x hq => ?_⟩
  rw [layT_get h.asc] at hq
  rw [lookup_updV]
  by_cases e : q = p
  · subst e
    rw [if_pos rfl] at hq
    cases hq
    exact ⟨cs, by simp, hc⟩
  · rw [if_neg e] at hq
    rw [if_neg (fun e2 => e (pathT_inj e2))]
    obtain ⟨c2, s1, s2⟩ := q3 q x hq
    exact ⟨c2, s1, Rd.mod s2 r3 hS⟩
theorem box_cells {W : World} {g : Nat} {T : TypeId} {cs : List Value} (h : W.heap[g]? = some (.cells cs.toArray T (0, 0))) : ∀ i u, cs[i]? = some u → W.cell? (Addr.add ⟨g, 0, none⟩ i) = some u := by
  intro i u hu
  rw [agg_at, cell_of_blk h]
  simpa using hu
theorem ptext_cf (args : Array Value) (w : World) : (callFunc 25 args).run Tryz.prog w = .ok (.enter 25 args) w := callFunc_go Tryz.func25 (by kernel_rfl) (by kernel_rfl) args w
set_option maxRecDepth 100000 in
set_option maxHeartbeats 8000000 in
theorem loadTab_any (v : Value) (bs : List UInt8) (ok : Nat → Prop) (w : World) (h : bytesR.rel w ok [v] bs) (E : Env w) :
    Calls Tryz.prog 6 #[v] w fun e w' => (loadT bs = none → e = .returned (.tuple #[.pointer none, .int .i64 10])) ∧ (∀ L, loadT bs = some L → ∃ g mb, e = .returned (.tuple #[.pointer (some ⟨g, 0, none⟩), .int .i64 0]) ∧ w.heap.size ≤ g ∧ w.heap.size ≤ mb ∧ TabAt w' (fun k => w.heap.size ≤ k ∧ k ≠ g ∧ k ≠ mb) g mb L) ∧ Mod (fun _ => False) w w' := by
  have hnew := tnew_any v bs ok w h
  have hmk := fun W => run_makeMap (P := Tryz.prog) 63 W
  obtain ⟨z, hz⟩ : ∃ z, z = loadT bs := ⟨_, rfl⟩
  rw [← hz]
  unfold loadT at hz
  have H0 := Lib.hid (And.intro hnew (And.intro hz E)); clear hnew hz h E
  go_enter Tryz.func6, Tryz.ntmps6
  go_wp2_with fail
  refine H0.out.1.mono ?_
  rintro e w1 ⟨gt, v', rfl, hgt, hT, hm1⟩
  have hT := hT.state.bound
  have HT := Lib.hid (And.intro hT (And.intro hgt hm1)); clear hT hgt hm1
  go_wp2_with fail
  obtain ⟨W2, hW2⟩ : ∃ W2, W2 = (w1.alloc (.map #[] 0)).alloc (.cells #[.map (some w1.heap.size)] 65) := ⟨_, rfl⟩
  have hsz2 : W2.heap.size = w1.heap.size + 2 := by rw [hW2]; simp
  have m12 : Mod (fun _ => False) w1 W2 := by rw [hW2]; exact ((Mod.refl _ _).alloc _).alloc _
  have hb2 : W2.heap[w1.heap.size + 1]? = some (.cells #[.map (some w1.heap.size)] 65 (0, 0)) := by
    rw [hW2]
    have := heap_alloc_new (w1.alloc (.map #[] 0)) (.cells #[.map (some w1.heap.size)] 65)
    rwa [show (w1.alloc (.map #[] 0)).heap.size = w1.heap.size + 1 by simp] at this
  have hmp2 : MapAt W2 w1.heap.size [] := by
    rw [hW2]
    exact (MapAt.made w1).move (((Mod.refl (fun _ => False) _).alloc _).block _ (MapAt.made w1).lt id)
  have hmw1 := HT.out.2.2.size
  have hT0 : TabAt W2 (fun k => W2.heap.size ≤ k) (w1.heap.size + 1) w1.heap.size [] := ⟨hb2, by omega, by omega, List.Pairwise.nil, [], hmp2, List.Perm.refl _, fun p o hp => by cases hp⟩
  obtain ⟨g, hg⟩ : ∃ g, g = w1.heap.size + 1 := ⟨_, rfl⟩
  obtain ⟨mb, hmb⟩ : ∃ mb, mb = w1.heap.size := ⟨_, rfl⟩
  have hgtl := HT.out.1.lt
  have hT2 := HT.out.1.mod m12 id (fun _ _ => id)
  obtain ⟨ok1, hok1⟩ : ∃ ok1, ok1 = fun k => w.heap.size ≤ k ∧ k < w1.heap.size := ⟨_, rfl⟩
  have hok2 : ∀ k, ok1 k → k < w1.heap.size := fun k hk => by rw [hok1] at hk; exact hk.2
  rw [← hok1] at hT2
  obtain ⟨B, hB⟩ : ∃ B, B = W2.heap.size := ⟨_, rfl⟩
  rw [← hB, ← hg, ← hmb] at hT0
  have hnum := tnumS_any gt ok1 (bs, 0) 65536 W2 hT2
  have hr := numS_range (bs, 0) (most := 65536) (by decide)
  obtain ⟨K, hK⟩ : ∃ K : Nat, (numS 65536 (bs, 0)).1 = K := ⟨_, (Int.toNat_of_nonneg hr.1).symm⟩
  obtain ⟨s0, hs0⟩ : ∃ s0, s0 = (numS 65536 (bs, 0)).2 := ⟨_, rfl⟩
  have hz := H0.out.2.1
  rw [hK, ← hs0, Int.toNat_natCast] at hz
  rw [hK, ← hs0] at hnum
  have hgeo : gt < w1.heap.size ∧ mb = w1.heap.size ∧ g = w1.heap.size + 1 ∧ B = w1.heap.size + 2 ∧ w.heap.size ≤ gt ∧ w.heap.size ≤ w1.heap.size := ⟨hgtl, hmb, hg, by omega, HT.out.2.1, hmw1⟩
  rw [← hW2, ← hg, ← hmb]
  have HN := Lib.hid (And.intro hnum (And.intro hz (And.intro hT0 (And.intro hgeo (And.intro hok2 (And.intro (tr0 HT.out.2.2 m12) (And.intro hB.symm hT2))))))); clear hnum hz hT0 hgeo hok2 m12 hT2 hok1 hgtl hmw1 hmp2 hb2 hsz2 hs0 hmb hg hB hW2
  have hK6 : K ≤ 65536 := by omega
  clear hr hK HT
  refine HN.out.1.mono ?_
  rintro e w3 ⟨rfl, hT3, hm3⟩
  have HT3 := Lib.hid (And.intro hT3 hm3); clear hT3 hm3
  go_wp2_with fail
  go_loopg [6, 19] K (fun f s6 s19 wr => ∃ (i : Nat) (A : Option Addr) (c : Nat) (q : List Int) (L : Tab) (s : TSt), s19 = .int .i64 i ∧ s6 = .slice A q.length c ∧ i + f = K ∧ Hid (
    (z = match getItems f L s with | (none, _) => none | (some L, s) => if s.2 = 0 ∧ s.1 = [] ∧ wholeC L = true then some L else none) ∧
    intsR.rel wr (fun k => B ≤ k) [.slice A q.length c] q ∧ (q.length ≤ 6 ∧ L.length = i ∧ (0 < i → ∃ x, L.getLast? = some x ∧ x.1 = q)) ∧ (∀ x ∈ L, rightP x.1 = true ∧ RightOb x.2) ∧ TabAt wr (fun k => B ≤ k) g mb L ∧ TapeS wr ok1 gt s ∧ Mod (fun _ => False) w wr ∧ B ≤ wr.heap.size))
  case atStart =>
    have hgeo := HN.out.2.2.2.1
    refine ⟨0, none, 0, [], [], s0, rfl, rfl, by omega, Lib.hid ⟨HN.out.2.1, ints_nil _ _, ⟨by simp, rfl, fun h => by omega⟩, by simp, HN.out.2.2.1.move HT3.out.2 (fun k hk e => by omega) (by omega) (by omega), HT3.out.1, HN.out.2.2.2.2.2.1.trans HT3.out.2 (fun k hk => .inr (by omega)), by have := HT3.out.2.size; have := HN.out.2.2.2.2.2.2.1; omega⟩⟩
  case round =>
    obtain ⟨i, A, c, q, L, s, rfl, rfl, hi, HQ⟩ := hrel
    have HI := Lib.hid hi
    by_cases hlt : i < K
    · obtain ⟨f, rfl⟩ : ∃ f, gk = f + 1 := ⟨gk - 1, by omega⟩
      obtain ⟨ap, hap⟩ : ∃ x, x = getP s := ⟨_, rfl⟩
      obtain ⟨ao, hao⟩ : ∃ x, x = getOb ap.2.2 := ⟨_, rfl⟩
      have hz := HQ.out.1
      rw [getItems] at hz
      rw [← hap, ← hao] at hz
      have hpr := getP_right s
      have hor := @getOb_right ap.2.2
      rw [← hap] at hpr
      rw [← hao] at hor
      have hgp := getP_any gt ok1 s wr HQ.out.2.2.2.2.2.1
      rw [← hap] at hgp
      have HA := Lib.hid (And.intro hz (And.intro hpr (And.intro hor (And.intro hgp hao)))); clear hz hpr hor hgp hap hao
      go_wp2_with fail
      refine HA.out.2.2.2.1.mono ?_
      rintro e w4 ⟨Ap, cp, rfl, hOp, hT4, hm4⟩
      have hgeo := HN.out.2.2.2.1
      have hm04 := HQ.out.2.2.2.2.2.2.1.trans hm4 (fun k hk => .inr (by omega))
      have hE := fun W (hW : Mod (fun k => k = gt) w4 W) => H0.out.2.2.mod0 (hm04.trans hW (fun k hk => .inr (by omega)))
      have hgo := getOb_any gt ok1 ap.2.2 w4 hT4 hE
      rw [← HA.out.2.2.2.2] at hgo
      have hB4 : B ≤ w4.heap.size := Nat.le_trans HQ.out.2.2.2.2.2.2.2 hm4.size
      have H4 := Lib.hid (And.intro hOp (And.intro hgo (And.intro hm04 (And.intro hm4 hB4)))); clear hOp hgo hm04 hm4 hE hT4 hB4 hgeo
      go_wp2_with fail
      refine H4.out.2.1.mono ?_
      rintro e w5 ⟨o, A1x, c1x, A2x, c2x, A4x, c4x, A5x, c5x, A7x, c7x, A9x, c9x, ho, rfl, hob, hT5, hm5⟩
      have H5 := Lib.hid (And.intro ho (And.intro hob (And.intro hT5 hm5))); clear ho hob hT5 hm5
      go_wp2_with (refine wpList_box2 rfl rfl 39 _ _ rfl rfl [.int .i64 0, .slice none 0 0, .slice none 0 0, .int .i64 0, .slice none 0 0, .slice none 0 0, .int .i64 0, .slice none 0 0, .int .i64 0, .slice none 0 0] Tryz.infoOb3 rfl _ rfl (obC_one _ _ _ _ _ _ _ _ _ _ _ _ _) (fun _ => rfl) (fun _ => rfl) ?_)
      intro g8 w6 hg8 hb8 hm6
      have hgeo := HN.out.2.2.2.1
      have hsz4 := HQ.out.2.2.2.2.2.2.2
      have hm46 := H5.out.2.2.2.trans (hm6 fun k => k = gt) (fun k hk => .inl hk)
      have hm06 := H4.out.2.2.2.1.trans hm46 (fun k hk => .inl hk)
      have hq6 := Rd.mod HQ.out.2.1 hm06 (fun k hk e => by omega)
      have hp6 : intsR.rel w6 (fun k => B ≤ k) [.slice Ap ap.1.length cp] ap.1 := Rd.mod (Rd.mono (H4.out.1.reads (bytes := 8) (by have := (rightP_iff.1 HA.out.2.1.1).1; omega)) (fun k hk => by
        rcases hk with hk | hk
        · exact hk.elim
        · obtain ⟨_, q, _⟩ := H4.out.1
          have := (own_lt q k hk).1; omega)) hm46 (fun k hk e => by omega)
      have hT6 := HQ.out.2.2.2.2.1.move hm06 (fun k hk e => by omega) (by omega) (by omega)
      have hS6 := H5.out.2.2.1.mod (hm6 fun _ => False) id (fun _ _ => id)
      have hO6 : ObR.rel w6 (fun k => B ≤ k) [.int .i64 o.kind, .slice A1x o.label.length c1x, .slice A2x o.kids.length c2x, .int .i64 o.next, .slice A4x o.bytes.length c4x, .slice A5x o.own.length c5x, .int .i64 o.cats, .slice A7x o.entry.length c7x, .int .i64 o.ring, .slice A9x o.maps.length c9x] o := Rd.mod (Rd.mono H5.out.2.1 (fun k hk => Nat.le_trans H4.out.2.2.2.2 hk)) (hm6 fun _ => False) (fun _ _ => id)
      have hm6w := H4.out.2.2.1.trans hm46 (fun k hk => .inr (by omega))
      have hszz := hm46.size
      have hB6 : B ≤ w6.heap.size := Nat.le_trans H4.out.2.2.2.2 hm46.size
      have hg8B : B ≤ g8 := by have := H4.out.2.2.2.2; have := H5.out.2.2.2.size; omega
      have hcmp := fun W (hW : Mod (fun _ => False) w6 W) => compare_p A c _ Ap cp _ q ap.1 _ _ W (Rd.mod hq6 hW (fun _ _ => id)) (Rd.mod hp6 hW (fun _ _ => id))
      obtain ⟨cm, hcm⟩ : ∃ x, x = cmpL q ap.1 := ⟨_, rfl⟩
      rw [← hcm] at hcmp
      have H6 := Lib.hid (And.intro hp6 (And.intro hT6 (And.intro hS6 (And.intro hO6 (And.intro hm6w (And.intro hB6 (And.intro hb8 (And.intro hg8B (And.intro hcmp (And.intro hcm hgeo)))))))))); clear hp6 hT6 hS6 hO6 hm6w hB6 hb8 hg8B hcmp hcm hgeo hm46 hm06 hq6 hsz4 hszz hm6 hg8
      have hcl : (∃ x, L.getLast? = some x ∧ 0 ≤ cmpL x.1 ap.1) ↔ 0 < i ∧ 0 ≤ cm := by
        obtain ⟨-, hl, hx⟩ := HQ.out.2.2.1
        rw [H6.out.2.2.2.2.2.2.2.2.2.1]
        constructor
        · rintro ⟨x, h1, h2⟩
          have hi0 : 0 < i := by
            rw [← hl]
            cases L with
            | nil => cases h1
            | cons y L => exact Nat.succ_pos _
          obtain ⟨y, h3, h4⟩ := hx hi0
          rw [h1] at h3; cases h3
          exact ⟨hi0, by rw [← h4]; exact h2⟩
        · rintro ⟨h1, h2⟩
          obtain ⟨y, h3, h4⟩ := hx h1
          exact ⟨y, h3, by rw [h4]; exact h2⟩
      have HCL := Lib.hid hcl; clear hcl
      have hbad : (ap.2.1 ≠ 0 ∨ ao.2.1 = false ∨ 0 < i ∧ 0 ≤ cm) → z = none := fun hb => by
        have := HA.out.1
        rw [if_pos (by rw [HCL.out]; exact hb)] at this
        exact this
      have HBD := Lib.hid hbad; clear hbad
      rcases HA.out.2.1.2 with e0 | e0
      case inr =>
        have hzn := HBD.out (.inl (by rw [e0]; decide))
        rw [e0]
        have HZ := Lib.hid (And.intro hzn e0); clear hzn e0
        go_wp2_with fail
        go_ret2
        exact ⟨fun _ => rfl, fun L hL => (by rw [HZ.out.1] at hL; cases hL), H6.out.2.2.2.2.1⟩
      case inl =>
        rw [e0]
        have HE0 := Lib.hid e0; clear e0
        cases hb : ao.2.1 with
        | false =>
          have hzn := HBD.out (.inr (.inl hb))
          have HZ := Lib.hid (And.intro hzn hb); clear hzn hb
          go_wp2_with fail
          go_ret2
          exact ⟨fun _ => rfl, fun L hL => (by rw [HZ.out.1] at hL; cases hL), H6.out.2.2.2.2.1⟩
        | true =>
          have HBT := Lib.hid hb; clear hb
          by_cases hbc : 0 < i ∧ 0 ≤ cm
          case pos =>
            have hzn := HBD.out (.inr (.inr hbc))
            have HZ := Lib.hid hzn; clear hzn
            obtain ⟨c1, c2⟩ := hbc
            have d1 : decide (0 < (i : Int)) = true := decide_eq_true (by omega)
            have d2 : decide (0 ≤ cm) = true := decide_eq_true c2
            go_wp2_with (go_at_call 24; refine (H6.out.2.2.2.2.2.2.2.2.1 _ (.refl _ _)).mono ?_; rintro e w7 ⟨rfl, hm7⟩; have H7 := Lib.hid hm7; clear hm7)
            go_ret2
            exact ⟨fun _ => rfl, fun L hL => (by rw [HZ.out] at hL; cases hL), tr0 H6.out.2.2.2.2.1 H7.out⟩
          case neg =>
            have HG := Lib.hid hbc; clear hbc
            by_cases hi0 : 0 < i
            case' pos =>
              have d1 : decide (0 < (i : Int)) = true := decide_eq_true (by omega)
              have d2 : decide (0 ≤ cm) = false := decide_eq_false (fun h => HG.out ⟨hi0, h⟩)
              go_wp2_with (go_at_call 24; refine (H6.out.2.2.2.2.2.2.2.2.1 _ (.refl _ _)).mono ?_; rintro e w7 ⟨rfl, hm7⟩; have H7 := Lib.hid hm7; clear hm7)
            case' neg =>
              have d1 : decide (0 < (i : Int)) = false := decide_eq_false (by omega)
              go_wp2_with fail
              obtain ⟨w7, hw7⟩ : ∃ w7, w7 = w6 := ⟨_, rfl⟩
              rw [← hw7]
              have H7 := Lib.hid (show Mod (fun _ => False) w6 w7 by rw [hw7]; exact .refl _ _)
              clear hw7
            all_goals
              have hT7 := H6.out.2.1.move (H7.out.drew) (fun _ _ => id) id id
              obtain ⟨vs, hvs, hlay⟩ := hT7.lay
              have c0 : w7.drew.cell? ⟨g, 0, none⟩ = some (.map (some mb)) := by rw [cell_of_blk hT7.blk]; rfl
              have hb7 := (H7.out.drew.block g8 (lt_of_blk H6.out.2.2.2.2.2.2.1) id).trans H6.out.2.2.2.2.2.2.1
              have htx := textP_any Ap cp _ ap.1 _ w7.drew (Rd.mod H6.out.1 H7.out.drew (fun _ _ => id)) (by have := (rightP_iff.1 HA.out.2.1.1).1; omega) (H0.out.2.2.mod0 (tr0 H6.out.2.2.2.2.1 H7.out.drew))
              have a0 : w7.drew.cell? ⟨g8, 0, none⟩ = some (.int .i64 o.kind) := by rw [cell_of_blk hb7]; rfl
              have a1 : w7.drew.cell? ⟨g8, 1, none⟩ = some (.slice A1x o.label.length c1x) := by rw [cell_of_blk hb7]; rfl
              have a2 : w7.drew.cell? ⟨g8, 2, none⟩ = some (.slice A2x o.kids.length c2x) := by rw [cell_of_blk hb7]; rfl
              have a3 : w7.drew.cell? ⟨g8, 3, none⟩ = some (.int .i64 o.next) := by rw [cell_of_blk hb7]; rfl
              have a4 : w7.drew.cell? ⟨g8, 4, none⟩ = some (.slice A4x o.bytes.length c4x) := by rw [cell_of_blk hb7]; rfl
              have a5 : w7.drew.cell? ⟨g8, 5, none⟩ = some (.slice A5x o.own.length c5x) := by rw [cell_of_blk hb7]; rfl
              have a6 : w7.drew.cell? ⟨g8, 6, none⟩ = some (.int .i64 o.cats) := by rw [cell_of_blk hb7]; rfl
              have a7 : w7.drew.cell? ⟨g8, 7, none⟩ = some (.slice A7x o.entry.length c7x) := by rw [cell_of_blk hb7]; rfl
              have a8 : w7.drew.cell? ⟨g8, 8, none⟩ = some (.int .i64 o.ring) := by rw [cell_of_blk hb7]; rfl
              have a9 : w7.drew.cell? ⟨g8, 9, none⟩ = some (.slice A9x o.maps.length c9x) := by rw [cell_of_blk hb7]; rfl
              have H8 := Lib.hid (And.intro hvs (And.intro hlay (And.intro hb7 (And.intro htx hT7)))); clear hvs hlay hb7 htx hT7
              go_region_law (
                (refine step_call rfl 25 _ _ (by rfl) (.slice Ap ap.1.length cp) (by rfl) (ptext_cf _ _) H8.out.2.2.2.1 ?_
                 rintro _ w8 ⟨rfl, hm8⟩
                 refine ⟨_, rfl, ?_⟩
                 have hb88 := (hm8.block g8 (lt_of_blk H8.out.2.2.1) id).trans H8.out.2.2.1
                 have c08 : w8.cell? ⟨g, 0, none⟩ = some (.map (some mb)) := (hm8.cell (cell_lt c0) id).trans c0
                 have hmp8 := H8.out.1.move (hm8.block mb H8.out.1.lt id)
                 obtain ⟨v0, st, w9, hr9, he9, hm9⟩ := hmp8.entry (P := Tryz.prog) Tryz.underlying63 Tryz.underlying9 zero_ob (pathT ap.1)
                 obtain ⟨ob9, he1, he2⟩ := he9
                 obtain ⟨w10, hr10, hmp10, hm10⟩ := he2 63 w9 (.agg #[.int .i64 o.kind, .slice A1x o.label.length c1x, .slice A2x o.kids.length c2x, .int .i64 o.next, .slice A4x o.bytes.length c4x, .slice A5x o.own.length c5x, .int .i64 o.cats, .slice A7x o.entry.length c7x, .int .i64 o.ring, .slice A9x o.maps.length c9x]) he1
                 have hr9' : (Instr.mapEntry 63 (.map (some mb)) (encS (pathT ap.1))).run Tryz.prog w8 = .ok (.tuple #[v0, .int .i64 st]) w9 := hr9
                 have hr10' : (Instr.entryStore 63 (.map (some mb)) (.int .i64 st) (.agg #[.int .i64 o.kind, .slice A1x o.label.length c1x, .slice A2x o.kids.length c2x, .int .i64 o.next, .slice A4x o.bytes.length c4x, .slice A5x o.own.length c5x, .int .i64 o.cats, .slice A7x o.entry.length c7x, .int .i64 o.ring, .slice A9x o.maps.length c9x])).run Tryz.prog w9 = .ok () w10 := hr10
                 have hb9 := (hm9.block g8 (lt_of_blk hb88) (by have := H6.out.2.2.2.2.2.2.2.1; have := H6.out.2.2.2.2.2.2.2.2.2.2; omega)).trans hb88
                 have b0 : w8.cell? ⟨g8, 0, none⟩ = some (.int .i64 o.kind) := by rw [cell_of_blk hb88]; rfl
                 have b1 : w8.cell? ⟨g8, 1, none⟩ = some (.slice A1x o.label.length c1x) := by rw [cell_of_blk hb88]; rfl
                 have b2 : w8.cell? ⟨g8, 2, none⟩ = some (.slice A2x o.kids.length c2x) := by rw [cell_of_blk hb88]; rfl
                 have b3 : w8.cell? ⟨g8, 3, none⟩ = some (.int .i64 o.next) := by rw [cell_of_blk hb88]; rfl
                 have b4 : w8.cell? ⟨g8, 4, none⟩ = some (.slice A4x o.bytes.length c4x) := by rw [cell_of_blk hb88]; rfl
                 have b5 : w8.cell? ⟨g8, 5, none⟩ = some (.slice A5x o.own.length c5x) := by rw [cell_of_blk hb88]; rfl
                 have b6 : w8.cell? ⟨g8, 6, none⟩ = some (.int .i64 o.cats) := by rw [cell_of_blk hb88]; rfl
                 have b7 : w8.cell? ⟨g8, 7, none⟩ = some (.slice A7x o.entry.length c7x) := by rw [cell_of_blk hb88]; rfl
                 have b8 : w8.cell? ⟨g8, 8, none⟩ = some (.int .i64 o.ring) := by rw [cell_of_blk hb88]; rfl
                 have b9 : w8.cell? ⟨g8, 9, none⟩ = some (.slice A9x o.maps.length c9x) := by rw [cell_of_blk hb88]; rfl
                 have c0 : w9.cell? ⟨g8, 0, none⟩ = some (.int .i64 o.kind) := by rw [cell_of_blk hb9]; rfl
                 have c1 : w9.cell? ⟨g8, 1, none⟩ = some (.slice A1x o.label.length c1x) := by rw [cell_of_blk hb9]; rfl
                 have c2 : w9.cell? ⟨g8, 2, none⟩ = some (.slice A2x o.kids.length c2x) := by rw [cell_of_blk hb9]; rfl
                 have c3 : w9.cell? ⟨g8, 3, none⟩ = some (.int .i64 o.next) := by rw [cell_of_blk hb9]; rfl
                 have c4 : w9.cell? ⟨g8, 4, none⟩ = some (.slice A4x o.bytes.length c4x) := by rw [cell_of_blk hb9]; rfl
                 have c5 : w9.cell? ⟨g8, 5, none⟩ = some (.slice A5x o.own.length c5x) := by rw [cell_of_blk hb9]; rfl
                 have c6 : w9.cell? ⟨g8, 6, none⟩ = some (.int .i64 o.cats) := by rw [cell_of_blk hb9]; rfl
                 have c7 : w9.cell? ⟨g8, 7, none⟩ = some (.slice A7x o.entry.length c7x) := by rw [cell_of_blk hb9]; rfl
                 have c8 : w9.cell? ⟨g8, 8, none⟩ = some (.int .i64 o.ring) := by rw [cell_of_blk hb9]; rfl
                 have c9 : w9.cell? ⟨g8, 9, none⟩ = some (.slice A9x o.maps.length c9x) := by rw [cell_of_blk hb9]; rfl
                 have H9 := Lib.hid (And.intro hmp10 (((hm8.mono (fun _ h => h.elim) : Mod (fun k => k = mb) w7.drew w8).trans hm9 (fun k hk => .inl hk)).trans hm10 (fun k hk => .inl hk)))
                 clear hm8 hb88 hmp8 hr9 he2 he1 hr10 hmp10 hm10 hm9 hb9))
            all_goals
              have hgeo := H6.out.2.2.2.2.2.2.2.2.2.2
              have hm10 := H9.out.2
              have hzz := HA.out.1
              rw [if_neg (by rw [HCL.out, HE0.out, HBT.out]; rintro (h | h | h); exact h rfl; cases h; exact HG.out h)] at hzz
              have hgq := HQ.out.2.2.1
              have hob10 : ObR.rel w10 (fun k => B ≤ k) [.int .i64 o.kind, .slice A1x o.label.length c1x, .slice A2x o.kids.length c2x, .int .i64 o.next, .slice A4x o.bytes.length c4x, .slice A5x o.own.length c5x, .int .i64 o.cats, .slice A7x o.entry.length c7x, .int .i64 o.ring, .slice A9x o.maps.length c9x] o := Rd.mod (Rd.mod H6.out.2.2.2.1 H7.out.drew (fun _ _ => id)) hm10 (fun k hk e => by omega)
              have hT10 := H8.out.2.1 (fun k => k = mb) w10 ap.1 o [.int .i64 o.kind, .slice A1x o.label.length c1x, .slice A2x o.kids.length c2x, .int .i64 o.next, .slice A4x o.bytes.length c4x, .slice A5x o.own.length c5x, .int .i64 o.cats, .slice A7x o.entry.length c7x, .int .i64 o.ring, .slice A9x o.maps.length c9x] H9.out.1 hm10 (fun k hk e => by omega) (by omega) hob10
              rw [layT_last o (fun y hy => by
                cases hl : L.getLast? with
                | none => rw [List.getLast?_eq_none_iff] at hl; rw [hl] at hy; cases hy
                | some x =>
                  refine last_lt HQ.out.2.2.2.2.1.asc hl ?_ y hy
                  have h0 : 0 < i := by
                    rw [← hgq.2.1]
                    cases L with
                    | nil => cases hl
                    | cons y L => exact Nat.succ_pos _
                  obtain ⟨y2, h3, h4⟩ := hgq.2.2 h0
                  rw [hl] at h3; cases h3
                  rw [h4, ← H6.out.2.2.2.2.2.2.2.2.2.1]
                  have hh : ¬ 0 ≤ cm := fun h => HG.out ⟨h0, h⟩
                  omega)] at hT10
              have hwm := (tr0 H6.out.2.2.2.2.1 H7.out.drew).trans hm10 (fun k hk => .inr (by omega))
              have hp10 := Rd.mod (Rd.mod H6.out.1 H7.out.drew (fun _ _ => id)) hm10 (fun k hk e => by omega)
              have hs10 := (H6.out.2.2.1.mod H7.out.drew id (fun _ _ => id)).mod hm10 (by omega) (fun k hk e => by have := HN.out.2.2.2.2.1 k hk; omega)
              have hsz10 : B ≤ w10.heap.size := by have := H7.out.size; have := hm10.size; have := H6.out.2.2.2.2.2.1; simp at *; omega
              have H12 := Lib.hid (And.intro hzz (And.intro hT10 (And.intro hwm (And.intro hp10 (And.intro hs10 hsz10))))); clear hzz hT10 hwm hp10 hs10 hsz10 hob10 hm10 hgeo hgq
              go_wp2_with fail
              go_roundg f
              case measure => omega
              case rel =>
                have ho := H5.out.1
                have hr := HA.out.2.1.1
                refine ⟨i + 1, Ap, cp, ap.1, L ++ [(ap.1, o)], ao.2.2, by go_num, rfl, by have := HI.out; omega, Lib.hid ⟨by rw [ho]; exact H12.out.1, H12.out.2.2.2.1, ⟨(rightP_iff.1 hr).1, by simp [HQ.out.2.2.1.2.1], fun _ => ⟨_, List.getLast?_concat .., rfl⟩⟩, fun x hx => ?_, H12.out.2.1, H12.out.2.2.2.2.1, H12.out.2.2.1, H12.out.2.2.2.2.2⟩⟩
                rcases List.mem_append.1 hx with hx | hx
                · exact HQ.out.2.2.2.1 x hx
                · rw [List.mem_singleton.1 hx]
                  exact ⟨hr, by rw [ho]; exact HA.out.2.2.1 HBT.out⟩
    · obtain rfl : i = K := by omega
      obtain rfl : gk = 0 := by omega
      have hz := HQ.out.1
      have hg0 : getItems 0 L s = (some L, s) := by rw [getItems]
      rw [hg0] at hz
      dsimp only at hz
      have hgeo := HN.out.2.2.2.1
      have hend := tendS_any gt ok1 s wr HQ.out.2.2.2.2.2.1
      have hL6 : L.length ≤ 1000000 := by have := HQ.out.2.2.1.2.1; omega
      have hwh := fun W (hW : Mod (fun _ => False) wr W) => whole_any _ g mb L W (HQ.out.2.2.2.2.1.bound.move hW (fun _ _ => id) id id) HQ.out.2.2.2.1 hL6 (H0.out.2.2.mod0 (tr0 HQ.out.2.2.2.2.2.2.1 hW))
      have q1 := fun t u => run_eql_iface_nil_right (P := Tryz.prog) (ti := 73) t u Tryz.underlying73
      have q0 := run_eql_iface_nil_nil (P := Tryz.prog) (ti := 73) Tryz.underlying73
      obtain ⟨bz, hbz⟩ : ∃ x, x = wholeC L := ⟨_, rfl⟩
      rw [← hbz] at hz hwh
      clear hbz
      have HE := Lib.hid (And.intro hend (And.intro hwh (And.intro hz hgeo))); clear hend hwh hz hgeo
      by_cases hs : s.2 = 0 ∧ s.1 = []
      case neg =>
        have hzn : z = none := by
          rw [HE.out.2.2.1]
          exact if_neg fun h => hs ⟨h.1, h.2.1⟩
        have HS := Lib.hid (And.intro hs hzn); clear hs hzn
        go_wp2_with (go_at_call 26; refine HE.out.1.mono ?_; rintro e w4 ⟨ev, rfl, -, he, hm4⟩; obtain ⟨T, p, rfl⟩ := he HS.out.1; have H4 := Lib.hid hm4; clear he hm4)
        go_ret2
        exact ⟨fun _ => rfl, fun L hL => (by rw [HS.out.2] at hL; cases hL), tr0 HQ.out.2.2.2.2.2.2.1 H4.out⟩
      case pos =>
        have HS := Lib.hid hs; clear hs
        cases bz with
        | false =>
          have hzn : z = none := by
            rw [HE.out.2.2.1]
            exact if_neg fun h => by cases h.2.2
          have HZ := Lib.hid hzn; clear hzn
          go_wp2_with (first
            | (go_at_call 26; refine HE.out.1.mono ?_; rintro e w4 ⟨ev, rfl, he, -, hm4⟩; obtain rfl := he HS.out; have H4 := Lib.hid hm4; clear he hm4)
            | (go_at_call 27; refine (HE.out.2.1 _ H4.out).mono ?_; rintro e w5 ⟨rfl, hm5⟩; have H5 := Lib.hid hm5; clear hm5))
          go_ret2
          exact ⟨fun _ => rfl, fun L hL => (by rw [HZ.out] at hL; cases hL), tr0 HQ.out.2.2.2.2.2.2.1 (tr0 H4.out H5.out)⟩
        | true =>
          have hzn : z = some L := by
            rw [HE.out.2.2.1]
            exact if_pos ⟨HS.out.1, HS.out.2, rfl⟩
          have HZ := Lib.hid hzn; clear hzn
          go_wp2_with (first
            | (go_at_call 26; refine HE.out.1.mono ?_; rintro e w4 ⟨ev, rfl, he, -, hm4⟩; obtain rfl := he HS.out; have H4 := Lib.hid hm4; clear he hm4)
            | (go_at_call 27; refine (HE.out.2.1 _ H4.out).mono ?_; rintro e w5 ⟨rfl, hm5⟩; have H5 := Lib.hid hm5; clear hm5))
          go_ret2
          have hgeo := HE.out.2.2.2
          refine ⟨fun hN => (by rw [HZ.out] at hN; cases hN), fun L2 hL => ?_, tr0 HQ.out.2.2.2.2.2.2.1 (tr0 H4.out H5.out)⟩
          rw [HZ.out] at hL; cases hL
          exact ⟨g, mb, rfl, by omega, by omega, (HQ.out.2.2.2.2.1.move (tr0 H4.out H5.out) (fun _ _ => id) id id).grow (fun k hk => ⟨by omega, by omega, by omega⟩) (by omega) (by omega)⟩
end Go.Proofs.YtefedalnafjcfaaGreatDoor

