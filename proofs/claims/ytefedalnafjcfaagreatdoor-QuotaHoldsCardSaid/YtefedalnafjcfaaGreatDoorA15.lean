/- Part of this claim's proof (texts Steps, Tab2, Tab3, Tab5, LoopV, joined by program). -/
import Derived.RegionTactic
import Derived.RegionCalls
import Derived.Test.YtefedalnafjcfaaGreatDoorA04
import Derived.Test.YtefedalnafjcfaaGreatDoorA02
import Derived.Test.YtefedalnafjcfaaGreatDoorA14
namespace Go.Proofs.YtefedalnafjcfaaGreatDoor
open Go.RowKit
set_option linter.unusedVariables false
section
variable {P : Program} {ops : Array Oper} {o : Oper} {a : Act} {K : Act → World → Prop} {Q : Exit → Act → World → Prop} {E : Prop} {w : World}
theorem wanted_plain (hgd : o.guard = none) : Region.wanted o (yielded ops a.tmps) = true := by simp [Region.wanted, hgd]
theorem step_append_own_at (hgd : o.guard = none) (s x : Operand) (t : TypeId)
    (ho : o.op = .call { callee := .builtin .append, args := #[s, x], argTypes := #[t, t] })
    (base : Nat) (e : TypeId) (i : TypeInfo) (z : Value) (size bytes : Nat) (ht : P.underlying t = some (.slice e)) (hi : P.info? e = some i) (hz : i.zero = some z)
    (hsize : i.size = size) (hby : i.bytes = bytes) (hzs : z.cells.size = size) (hsz : 0 < size)
    (v : Value) (n : Nat) (xs : List Value) (hs : a.eval s = v) (hown : w.ownsRow base e size v n xs)
    (ad : Addr) (m c : Nat) (news : List Value) (hx : a.eval x = .slice (some ad) m c) (hl : news.length = m * size) (hnews : ∀ j u, news[j]? = some u → w.cell? (ad.add j) = some u) (h1 : ∀ u ∈ news, u.oneCell' = true)
    (h63 : n + m ≤ maxLen) (hbytes : (n + m) * bytes ≤ 140737488355328) (hbase : base ≤ w.heap.size)
    (h : ∀ v' w', w'.ownsRow base e size v' (n + m) (xs ++ news) → w.grownBy w' v.ownBlock → (v'.ownBlock = v.ownBlock ∨ v'.ownBlock = some w.heap.size) → K (a.put o.dst v') w') : if Region.wanted o (yielded ops a.tmps) = true then Oper.wp P o a w K Q else E := by
  rw [if_pos (wanted_plain hgd)]
  obtain ⟨v', w', hr, h2, h3, h4, h5⟩ := run_append_own_at (P := P) w base t o.type e i z size bytes ht hi hz hsize hby hzs hsz v n xs hown ad m c news hl hnews h1 h63 hbytes hbase
  unfold Oper.wp execOp
  simp only [ho, resolve, invoke, builtin, Sem.run_bind, Sem.run_pure, Result.andThen_ok, List.map_toArray, List.map_cons, List.map_nil, hs, hx, hr]
  exact h v' w' h2 h3 h5
end
section
theorem stepc_call2 {P : Program} {w : World} {ops : Array Oper} {o : Oper} {a : Act} {K : Act → World → Prop} {Q : Exit → Act → World → Prop} {E : Prop} (hgd : o.guard = none) (f : FuncId) (x y : Operand) (ts : Array TypeId)
    (ho : o.op = .call { callee := .value (.func f), args := #[x, y], argTypes := ts }) (v : Value) (hx : a.eval x = v) (u0 : Value) (hy : a.eval y = u0) {C : Ending → World → Prop}
    (hcf : (callFunc f #[v, u0]).run P w = .ok (.enter f #[v, u0]) w) (hc : Calls P f #[v, u0] w C) (h : ∀ e w', C e w' → ∃ u, e = .returned u ∧ K (a.put o.dst u) w') : if Region.wanted o (yielded ops a.tmps) = true then Oper.wp P o a w K Q else E := by
  have hw : Region.wanted o (yielded ops a.tmps) = true := by simp [Region.wanted, hgd]
  rw [if_pos hw]
  have h1 : (execOp a.eval o).run P w = .ok (.enter f #[v, u0]) w := by
    have key : ∀ ρ : Operand → Value, ρ (.func f) = .func (.func f) #[] #[] → ρ x = v → ρ y = u0 → (execOp ρ o).run P w = .ok (.enter f #[v, u0]) w := by
      intro ρ h0 h1 h2
      simp [execOp, ho, resolve, go_sem, h0, h1, h2, hcf]
    exact key _ rfl hx hy
  unfold Oper.wp
  rw [h1, Oper.upon_enter]
  refine hc.mono fun e w' he => ?_
  obtain ⟨u, rfl, hk⟩ := h e w' he
  exact hk
end
end Go.Proofs.YtefedalnafjcfaaGreatDoor

namespace Go.Proofs.YtefedalnafjcfaaGreatDoor
open Go.RowKit Go.Shelf
set_option linter.unusedVariables false
theorem textP_cf (args : Array Value) (w : World) : (callFunc 25 args).run Tryz.prog w = .ok (.enter 25 args) w := callFunc_go Tryz.func25 (by kernel_rfl) (by kernel_rfl) args w
theorem laid_full {cur cs : List Value} (h : cs.length = cur.length) : laid cur 0 cs = cs := by
  unfold laid
  simp [h]
/-- a struct is stored into a variable that was just laid -/
theorem store_new {P : Program} (w : World) (T : TypeId) (cs Z : List Value) (hl : cs.length = Z.length) (h1 : ∀ u ∈ cs, u.oneCell' = true) : (storeCells ⟨w.heap.size, 0, none⟩ cs).run P (w.alloc (.cells Z.toArray T)) = .ok () (w.alloc (.cells cs.toArray T)) := by
  have := run_cells_laid (P := P) (w := w.alloc (.cells Z.toArray T)) (g := w.heap.size) (off := 0) (t := T) (cur := Z) (cs := cs) (heap_alloc_new w _) (by omega) h1
  rw [laid_full hl, World.setRow_alloc_new] at this
  exact this
theorem store_at {P : Program} {w : World} {g : Nat} (T : TypeId) (cs Z : List Value) (hl : cs.length = Z.length) (h1 : ∀ u ∈ cs, u.oneCell' = true) (hg : w.heap[g]? = some (.cells Z.toArray T (0, 0))) :
    (storeCells ⟨g, 0, none⟩ cs).run P w = .ok () (w.setRow g cs.toArray) ∧ (w.setRow g cs.toArray).heap[g]? = some (.cells cs.toArray T (0, 0)) ∧ Mod (fun k => k = g) w (w.setRow g cs.toArray) := by
  have := run_cells_laid (P := P) (w := w) (g := g) (off := 0) (t := T) (cur := Z) (cs := cs) hg (by omega) h1
  rw [laid_full hl] at this
  exact ⟨this, heap_setRow_self hg, (Mod.refl (fun k => k = g) w).setRow (.inl rfl) _⟩
theorem OwnR.low {α : Type} {R : Rd α} {e : TypeId} {w : World} {base base' : Nat} {S : Nat → Prop} {v : Value} {l : List α} (h : OwnR R e w base S v l) (hb : base' ≤ base) : OwnR R e w base' S v l := by
  obtain ⟨cells, h1, h2⟩ := h
  exact ⟨cells, own_weaken h1 hb, h2⟩
theorem Copied.into {w w1 w2 w3 : World} {ok ok' T : Nat → Prop} {o : Ob} {A1 : Option Addr} {c1 : Nat} {A2 : Option Addr} {c2 : Nat} {A4 : Option Addr} {c4 : Nat} {A5 : Option Addr} {c5 : Nat} {A7 : Option Addr} {c7 : Nat} {A9 : Option Addr} {c9 : Nat} (h : Copied w1 w2 ok o A1 c1 A2 c2 A4 c4 A5 c5 A7 c7 A9 c9) (hm : Mod (fun _ => False) w w1) (hok : ∀ k, ok k → ok' k ∧ k < w.heap.size) (ht : Mod T w2 w3) (hT : ∀ k, T k → w.heap.size ≤ k ∧ k < w1.heap.size) : Copied w w3 ok' o A1 c1 A2 c2 A4 c4 A5 c5 A7 c7 A9 c9 := by
  have hs := hm.size
  have n : ∀ k, (w1.heap.size ≤ k ∧ some k ≠ (Value.slice A2 o.kids.length c2).ownBlock) → ¬ T k := fun k hk e => by have := (hT k e).2; omega
  have f : ∀ k, (w1.heap.size ≤ k ∧ some k ≠ (Value.slice A2 o.kids.length c2).ownBlock) → w.heap.size ≤ k ∧ some k ≠ (Value.slice A2 o.kids.length c2).ownBlock := fun k hk => ⟨by omega, hk.2⟩
  have n2 : ∀ k, (((ok k ∧ k < w1.heap.size) ∨ w1.heap.size ≤ k) ∧ some k ≠ (Value.slice A2 o.kids.length c2).ownBlock) → ¬ T k := fun k hk e => by
    have h1 := hT k e
    rcases hk.1 with hk | hk
    · have := (hok k hk.1).2; omega
    · omega
  refine ⟨Rd.mono (Rd.mod h.lab ht n) f, ?_, Rd.mono (Rd.mod h.byt ht n) f, Rd.mono (Rd.mod h.own ht n) f, Rd.mono (Rd.mod h.ent ht n) f, Rd.mono (Rd.mod h.maps ht n2) (fun k hk => ⟨?_, hk.2⟩), (hm.trans h.mod (fun _ h => h.elim)).trans ht (fun k hk => .inr (hT k hk).1), h.ints⟩
  · have hown : ∀ k, (Value.slice A2 o.kids.length c2).ownBlock = some k → w1.heap.size ≤ k := fun k hk => by obtain ⟨_, q, _⟩ := h.kid; exact (own_lt q k hk).1
    exact (h.kid.mod ht (fun k hk e => by have := (hT k e).2; have := hown k hk; omega) (fun _ h => h.elim)).low hs
  · rcases hk.1 with hk | hk
    · exact .inl (hok k hk.1)
    · exact .inr (by omega)
set_option maxRecDepth 100000 in
set_option maxHeartbeats 1000000 in
theorem getTab_any (S : Nat → Prop) (g mb : Nat) (L : Tab) (A : Option Addr) (m c : Nat) (p : List Int) (ok : Nat → Prop) (w : World) (hT : TabAt w S g mb L) (h : intsR.rel w ok [.slice A m c] p) (hp : p.length ≤ 1100000) (E : Env w) :
    Calls Tryz.prog 11 #[.pointer (some ⟨g, 0, none⟩), .slice A m c] w fun e w' => ∃ o A1 c1 A2 c2 A4 c4 A5 c5 A7 c7 A9 c9, o = (getT L p).getD zeroOb ∧ e = .returned (.tuple #[.agg #[.int .i64 o.kind, .slice A1 o.label.length c1, .slice A2 o.kids.length c2, .int .i64 o.next, .slice A4 o.bytes.length c4, .slice A5 o.own.length c5, .int .i64 o.cats, .slice A7 o.entry.length c7, .int .i64 o.ring, .slice A9 o.maps.length c9], .bool (getT L p).isSome]) ∧ Copied w w' S o A1 c1 A2 c2 A4 c4 A5 c5 A7 c7 A9 c9 := by
  obtain ⟨cs, hrun, hcs⟩ := hT.run_get p
  obtain ⟨o, ho⟩ : ∃ o, o = (getT L p).getD zeroOb := ⟨_, rfl⟩
  obtain ⟨sm, hsm⟩ : ∃ sm, sm = (getT L p).isSome := ⟨_, rfl⟩
  rw [← ho] at hcs
  rw [← hsm] at hrun ⊢
  have htx := fun W (hW : Mod (fun _ => False) w W) => textP_any A c m p _ W (Rd.mod (Rd.bound h) hW (fun _ _ => id)) hp (E.mod0 hW)
  have hg0 := hT.blk
  have HX := Lib.hid (And.intro htx (And.intro hrun (And.intro hT.bound (And.intro (Rd.bound hcs) (And.intro ho hsm)))))
  clear h hT htx hrun hcs ho hsm
  have hc0 : w.cell? ⟨g, 0, none⟩ = some (.map (some mb)) := by rw [cell_of_blk hg0]; rfl
  go_enter Tryz.func11, Tryz.ntmps11
  go_wp2_with fail
  obtain ⟨W0, hW0⟩ : ∃ W0, W0 = w.alloc (.cells zeroObC.toArray 39) := ⟨_, rfl⟩
  have hm0 : Mod (fun _ => False) w W0 := by rw [hW0]; exact (Mod.refl _ _).alloc _
  have hr0 : ResZ W0 w.heap.size := ⟨zeroObC, rfl, by rw [hW0]; exact heap_alloc_new w _⟩
  change Code.wp _ _ _ _ (w.alloc (.cells zeroObC.toArray 39))
  rw [← hW0]
  clear hW0
  obtain ⟨gz, hgz⟩ : ∃ gz, gz = w.heap.size := ⟨_, rfl⟩
  rw [← hgz] at hr0 ⊢
  have H0 := Lib.hid (And.intro hm0.drew (And.intro hr0 hgz)); clear hm0 hr0 hgz
  have hc0' : W0.drew.cell? ⟨g, 0, none⟩ = some (.map (some mb)) := (H0.out.1.cell (lt_of_cell hc0) id).trans hc0
  have hcl : cs.length = 10 := ObR.len HX.out.2.2.2.1
  have hc0a : (W0.alloc (.cells #[.int .i64 0, .slice none 0 0, .slice none 0 0, .int .i64 0, .slice none 0 0, .slice none 0 0, .int .i64 0, .slice none 0 0, .int .i64 0, .slice none 0 0] 39)).cell? ⟨g, 0, none⟩ = some (.map (some mb)) := (((show Mod (fun _ => False) w W0 from ⟨H0.out.1.os, H0.out.1.tape, H0.out.1.output, H0.out.1.size, H0.out.1.block⟩).alloc _).cell (lt_of_cell hc0) id).trans hc0
  have H1 := Lib.hid (ObR.one HX.out.2.2.2.1)
  go_cut [6, 7] (fun s6 s7 wx => ∃ k, s6 = .pointer (some ⟨k, 0, none⟩) ∧ s7 = .bool sm ∧ Hid (wx.heap[k]? = some (.cells cs.toArray 39 (0, 0)) ∧ ResZ wx gz ∧ Mod (fun _ => False) w wx))
  case first =>
    go_region_law (first
      | (refine step_call rfl 25 _ _ (by rfl) (.slice A m c) (by rfl) (textP_cf _ _) (HX.out.1 W0.drew H0.out.1) ?_
         rintro _ w2 ⟨rfl, hm2⟩
         refine ⟨_, rfl, ?_⟩
         have hl2 : (Instr.lookup 63 (.map (some mb)) (encS (pathT p)) true).run Tryz.prog w2 = _ := HX.out.2.1 w2 (H0.out.1.trans hm2 (fun _ h => h.elim))
         have hl3 : (Instr.lookup 63 (.map (some mb)) (encS (pathT p)) true).run Tryz.prog (w2.alloc (.cells #[.int .i64 0, .slice none 0 0, .slice none 0 0, .int .i64 0, .slice none 0 0, .slice none 0 0, .int .i64 0, .slice none 0 0, .int .i64 0, .slice none 0 0] 39)) = _ := HX.out.2.1 _ ((H0.out.1.trans hm2 (fun _ h => h.elim)).alloc _)
         have hm02 : Mod (fun _ => False) w w2 := H0.out.1.trans hm2 (fun _ h => h.elim)
         have hc2 : w2.cell? ⟨g, 0, none⟩ = some (.map (some mb)) := (hm02.cell (lt_of_cell hc0) id).trans hc0
         have hc3 : (w2.alloc (.cells #[.int .i64 0, .slice none 0 0, .slice none 0 0, .int .i64 0, .slice none 0 0, .slice none 0 0, .int .i64 0, .slice none 0 0, .int .i64 0, .slice none 0 0] 39)).cell? ⟨g, 0, none⟩ = some (.map (some mb)) := ((hm02.alloc _).cell (lt_of_cell hc0) id).trans hc0
         have hst := store_new (P := Tryz.prog) w2 39 cs [.int .i64 0, .slice none 0 0, .slice none 0 0, .int .i64 0, .slice none 0 0, .slice none 0 0, .int .i64 0, .slice none 0 0, .int .i64 0, .slice none 0 0] hcl H1.out
         have H2 := Lib.hid (And.intro (heap_alloc_new w2 (.cells cs.toArray 39)) (show Mod (fun _ => False) W0.drew (w2.alloc (.cells cs.toArray 39)) from hm2.alloc _))
         clear hm2 hm02)
      | (refine step_call rfl 25 _ _ (by rfl) (.slice A m c) (by rfl) (textP_cf _ _) (HX.out.1 (W0.drew.alloc (.cells #[.int .i64 0, .slice none 0 0, .slice none 0 0, .int .i64 0, .slice none 0 0, .slice none 0 0, .int .i64 0, .slice none 0 0, .int .i64 0, .slice none 0 0] 39)) (H0.out.1.alloc _)) ?_
         rintro _ w2 ⟨rfl, hm2⟩
         refine ⟨_, rfl, ?_⟩
         have hl2 : (Instr.lookup 63 (.map (some mb)) (encS (pathT p)) true).run Tryz.prog w2 = _ := HX.out.2.1 w2 ((H0.out.1.alloc _).trans hm2 (fun _ h => h.elim))
         have hm02 : Mod (fun _ => False) w w2 := (H0.out.1.alloc _).trans hm2 (fun _ h => h.elim)
         have hc2 : w2.cell? ⟨g, 0, none⟩ = some (.map (some mb)) := (hm02.cell (lt_of_cell hc0) id).trans hc0
         obtain ⟨hst, hb, hmm⟩ := store_at (P := Tryz.prog) (g := W0.heap.size) 39 cs [.int .i64 0, .slice none 0 0, .slice none 0 0, .int .i64 0, .slice none 0 0, .slice none 0 0, .int .i64 0, .slice none 0 0, .int .i64 0, .slice none 0 0] hcl H1.out ((hm2.block _ (by simp) id).trans (heap_alloc_new W0.drew (.cells #[.int .i64 0, .slice none 0 0, .slice none 0 0, .int .i64 0, .slice none 0 0, .slice none 0 0, .int .i64 0, .slice none 0 0, .int .i64 0, .slice none 0 0] 39)))
         have H2 := Lib.hid (And.intro hb (show Mod (fun _ => False) W0.drew _ from (((Mod.refl _ _).alloc _).trans hm2 (fun _ h => h.elim)).trans hmm (fun k hk => .inr (by rw [hk]; exact Nat.le_refl _))))
         clear hm2 hb hmm hm02))
    all_goals go_wp2_with fail
    all_goals go_meet
    all_goals exact ⟨_, rfl, rfl, Lib.hid ⟨H2.out.1, (show ResZ W0.drew gz from H0.out.2.1).move H2.out.2 id, H0.out.1.trans H2.out.2 (fun _ h => h.elim)⟩⟩
  case rest =>
    obtain ⟨k, rfl, rfl, HK⟩ := hcut
    have hcp := copy_any cs o _ wc (Rd.mod HX.out.2.2.2.1 HK.out.2.2 (fun _ _ => id))
    have HC := Lib.hid hcp; clear hcp hc0 hc0' hc0a
    go_wp2_with (refine wpList_load_agg (n := 10) rfl 39 _ rfl Tryz.underlying39 Tryz.infoOb2 ⟨k, 0, none⟩ rfl cs hcl (fun j u hj => by rw [agg_at, cell_of_blk HK.out.1]; simpa using hj) ?_)
    refine HC.out.mono ?_
    rintro e w2 ⟨A1, c1, A2, c2, A4, c4, A5, c5, A7, c7, A9, c9, rfl, hcp⟩
    obtain ⟨old, hol, hres⟩ := HK.out.2.1.move hcp.mod id
    have HP := Lib.hid (And.intro hcp (And.intro hol hres)); clear hcp hol hres
    go_wp2_with (refine wpList_store_var rfl 39 _ _ rfl gz 39 old [.int .i64 o.kind, .slice A1 o.label.length c1, .slice A2 o.kids.length c2, .int .i64 o.next, .slice A4 o.bytes.length c4, .slice A5 o.own.length c5, .int .i64 o.cats, .slice A7 o.entry.length c7, .int .i64 o.ring, .slice A9 o.maps.length c9] HP.out.2.2 rfl rfl Tryz.infoOb2 HP.out.2.1 (obC_one _ _ _ _ _ _ _ _ _ _ _ _ _) ?_)
    intro w3 hb3 hm3
    have HE := Lib.hid (And.intro hb3 hm3); clear hb3 hm3
    go_wp2_with fail
    refine bodyPost_ret (results_agg2 rfl _ _ gz 39 [.int .i64 o.kind, .slice A1 o.label.length c1, .slice A2 o.kids.length c2, .int .i64 o.next, .slice A4 o.bytes.length c4, .slice A5 o.own.length c5, .int .i64 o.cats, .slice A7 o.entry.length c7, .int .i64 o.ring, .slice A9 o.maps.length c9] (0, 0) rfl HE.out.1 Tryz.underlying39 Tryz.infoOb2) rfl ?_
    refine ⟨o, A1, c1, A2, c2, A4, c4, A5, c5, A7, c7, A9, c9, HX.out.2.2.2.2.1, rfl, ?_⟩
    exact (HP.out.1.into HK.out.2.2 (fun k hk => ⟨hk.1, hk.2⟩) HE.out.2 (fun k hk => by
      obtain ⟨_, _, q⟩ := HK.out.2.1
      have := lt_of_blk q
      have h2 := H0.out.2.2
      subst hk
      exact ⟨by omega, by omega⟩))
end Go.Proofs.YtefedalnafjcfaaGreatDoor

namespace Go.Proofs.YtefedalnafjcfaaGreatDoor
open Go.RowKit Go.Shelf
set_option linter.unusedVariables false
set_option maxRecDepth 100000 in
theorem between_any (n a b : Int) (w : World) : Calls Tryz.prog 38 #[.int .i64 n, .int .i64 a, .int .i64 b] w fun e w' => e = .returned (.bool (decide (a ≤ n ∧ n ≤ b))) ∧ w = w' := by
  go_enter Tryz.func38, Tryz.ntmps38
  by_cases h1 : a ≤ n
  · have e1 : decide (a ≤ n) = true := decide_eq_true h1
    by_cases h2 : n ≤ b
    · have e2 : decide (n ≤ b) = true := decide_eq_true h2
      go_wp2_with fail
      go_ret
      exact ⟨by simp [h1, h2], rfl⟩
    · have e2 : decide (n ≤ b) = false := decide_eq_false h2
      go_wp2_with fail
      go_ret
      exact ⟨by simp, rfl⟩
  · have e1 : decide (a ≤ n) = false := decide_eq_false h1
    go_wp2_with fail
    go_ret
    exact ⟨by simp, rfl⟩
set_option maxRecDepth 100000 in
theorem kind_any (n : Int) (w : World) : Calls Tryz.prog 71 #[.int .i64 n] w fun e w' => e = .returned (.bool (decide (1 ≤ n ∧ n ≤ 5))) ∧ w = w' := by
  go_enter Tryz.func71, Tryz.ntmps71
  go_wp2_with fail
  refine (between_any n 1 5 w).mono ?_
  rintro e w1 ⟨rfl, rfl⟩
  go_wp2_with fail
  go_ret
  exact ⟨by simp, rfl⟩
theorem Tryz.info_kd2 : (Tryz.prog.info? 43).map (fun i => (i.zero, i.size)) = some (some (.agg #[.int .i64 0, .int .i64 0, .int .i64 0]), 3) := by kernel_rfl
set_option maxRecDepth 100000 in
set_option maxHeartbeats 1000000 in
theorem uses_any (cs : List Value) (o : Ob) (ok : Nat → Prop) (w : World) (h : ObR.rel w ok cs o) (hq : ∀ k ∈ o.kids, 0 ≤ k.quota ∧ k.quota ≤ 1048576) (hb : o.kids.length ≤ 16) :
    Calls Tryz.prog 13 #[.agg cs.toArray] w fun e w' => e = .returned (.int .i64 (usesO o)) ∧ Mod (fun _ => False) w w' := by
  obtain ⟨A1, c1, A2, c2, A4, c4, A5, c5, A7, c7, A9, c9, rfl, h0, h1, h2, h3, h4, h5, h6, h7, h8, h9⟩ := ObR_cells (Rd.bound h)
  clear h
  have HH := Lib.hid (And.intro h1 (And.intro h2 (And.intro h4 (And.intro h5 (And.intro h7 h9)))))
  clear h1 h2 h4 h5 h7 h9
  have b4 : o.bytes.length * 1 ≤ 140737488355328 := (slice_row HH.out.2.2.1).2.2.2.1
  have b5 : o.own.length * 16 ≤ 140737488355328 := (nms_row HH.out.2.2.2.1).2.2.1
  have b7 : o.entry.length * 24 ≤ 140737488355328 := (slice_row HH.out.2.2.2.2.1).2.2.2.1
  have b9 : o.maps.length * 40 ≤ 140737488355328 := (slice_row HH.out.2.2.2.2.2).2.2.2.1
  have HQ := Lib.hid hq; clear hq
  go_enter Tryz.func13, Tryz.ntmps13
  go_wp2_with fail
  go_loopg [3, 28] o.kids.length (fun f s3 s28 wx => ∃ (i : Nat) (t : Int), s3 = .int .i64 (16 + o.bytes.length + 8 * o.own.length + 16 * o.entry.length + 24 * o.maps.length + t) ∧ s28 = .int .i64 i ∧ i + f = o.kids.length ∧ 0 ≤ t ∧ t ≤ 16777216 ∧ Hid (t = ((o.kids.take i).map (·.quota)).sum ∧ t ≤ 1048576 * i ∧ Mod (fun _ => False) w wx))
  case atStart => exact ⟨0, 0, by go_num, rfl, by omega, by omega, by omega, Lib.hid ⟨by simp, by omega, (Mod.refl _ _).alloc _⟩⟩
  case round =>
    obtain ⟨i, t, rfl, rfl, hi, ht0, ht1, HT⟩ := hrel
    by_cases hik : i < o.kids.length
    · obtain ⟨x, hx⟩ : ∃ x, o.kids[i]? = some x := ⟨_, List.getElem?_eq_getElem hik⟩
      obtain ⟨ad, cs, rfl, hokb, hr, hc⟩ := Rd.RowOf.at_ (slice_row HH.out.2.1).2.2.2.2.2 hx
      obtain ⟨d0, d1, d2, rfl, ⟨rfl, -⟩, ⟨rfl, -⟩, ⟨rfl, -⟩⟩ := KidR_iff.1 hr
      have hxq := HQ.out x (List.mem_of_getElem? hx)
      have hsum : ((o.kids.take (i + 1)).map (·.quota)).sum = t + x.quota := by rw [HT.out.1, List.take_add_one, hx]; simp
      have hcell : ∀ j u, [Value.int .i64 x.n, .int .i64 x.kind, .int .i64 x.quota][j]? = some u → wr.cell? ((ad.add (i * 3)).add j) = some u := fun j u hj => by
        rw [add_add]
        exact cell_step (hc j u hj) (fun _ => by rw [add_block]; exact HT.out.2.2.block _ hokb.2 id)
      have HC := Lib.hid (And.intro hcell (And.intro hsum hxq)); clear hcell hsum hc hr hokb hx
      obtain ⟨q1, q2⟩ := hxq
      go_wp2_with (refine wpList_copy_var (n := 3) rfl rfl rfl 43 _ _ _ rfl rfl rfl Tryz.underlying43 [.int .i64 0, .int .i64 0, .int .i64 0] Tryz.info_kd2 rfl (ad.add (i * 3)) rfl [.int .i64 x.n, .int .i64 x.kind, .int .i64 x.quota] rfl (by intro u hu; simp at hu; rcases hu with rfl | rfl | rfl <;> rfl) HC.out.1 (fun _ _ => rfl) (fun _ _ => rfl) ?_)
      intro g2 w2 hg2 hgb2 hm2
      have k2 : w2.cell? ⟨g2, 2, none⟩ = some (.int .i64 x.quota) := by rw [cell_of_blk hgb2]; rfl
      have HM := Lib.hid (hm2 fun _ => False); clear hm2 hgb2 hg2
      go_wp2_with fail
      go_roundg (gk - 1)
      case measure => omega
      case rel => exact ⟨i + 1, t + x.quota, by go_num, by go_num, by omega, by omega, by have := HT.out.2.1; omega, Lib.hid ⟨HC.out.2.1.symm, by have := HT.out.2.1; omega, HT.out.2.2.trans HM.out (fun _ h => h.elim)⟩⟩
    · obtain rfl : i = o.kids.length := by omega
      clear hik
      go_wp2_with fail
      go_ret
      refine ⟨?_, HT.out.2.2⟩
      have h1 := HT.out.1
      rw [List.take_length] at h1
      unfold usesO
      rw [← h1]
      simp
end Go.Proofs.YtefedalnafjcfaaGreatDoor

namespace Go.Proofs.YtefedalnafjcfaaGreatDoor
open Go.RowKit Go.Shelf
set_option linter.unusedVariables false
set_option maxRecDepth 100000 in
theorem kidcmp_any (a b c m : Int) (w : World) (ha : 0 ≤ a ∧ a ≤ 1048577) (hm : -1048577 ≤ m ∧ m ≤ 1048577) : Calls Tryz.prog 66 #[.agg #[.int .i64 a, .int .i64 b, .int .i64 c], .int .i64 m] w fun e w' => e = .returned (.int .i64 (a - m)) ∧ Mod (fun _ => False) w w' := by
  obtain ⟨h1, h2⟩ := ha
  obtain ⟨h3, h4⟩ := hm
  go_enter Tryz.func66, Tryz.ntmps66
  go_wp2_with fail
  go_ret
  exact ⟨by simp, (Mod.refl _ _).alloc _⟩
theorem KidR_cells {w : World} {ok : Nat → Prop} {cs : List Value} {x : Kid} (h : KidR.rel w ok cs x) : cs = [.int .i64 x.n, .int .i64 x.kind, .int .i64 x.quota] := by
  obtain ⟨d0, d1, d2, rfl, ⟨rfl, -⟩, ⟨rfl, -⟩, ⟨rfl, -⟩⟩ := KidR_iff.1 h
  rfl
set_option maxRecDepth 100000 in
set_option maxHeartbeats 1000000 in
theorem kidsearch_any (A : Option Addr) (n c : Nat) (l : List Kid) (f : Int) (ok : Nat → Prop) (w : World) (h : (Rd.slice 24 KidR).rel w ok [.slice A n c] l) (hl : l.length ≤ 1000000) (hs : (l.map (·.n)).Pairwise (· < ·)) (hb : ∀ k ∈ l, 0 ≤ k.n ∧ k.n ≤ 1048577) (hf : -1048577 ≤ f ∧ f ≤ 1048577) :
    Calls Tryz.prog 65 #[.slice A n c, .int .i64 f, .func (.func 66) #[] #[]] w fun e w' => (∃ (i : Nat) (v : Value), e = .returned (.tuple #[.int .i64 i, v]) ∧ ∀ j x, l[j]? = some x → x.n = f → i = j) ∧ Mod (fun _ => False) w w' := by
  obtain ⟨rfl, hcap, hcm, -, -, hrow⟩ := slice_row (Rd.bound h)
  have hs' : ∀ (i j : Nat) (a b : Kid), i < j → l[i]? = some a → l[j]? = some b → a.n < b.n := fun i j a b hij ha hb => by
    have := List.pairwise_iff_getElem.1 hs i j (by have := (List.getElem?_eq_some_iff.1 ha).1; simpa using this) (by have := (List.getElem?_eq_some_iff.1 hb).1; simpa using this) hij
    simp only [List.getElem_map] at this
    rw [(List.getElem?_eq_some_iff.1 ha).2, (List.getElem?_eq_some_iff.1 hb).2] at this
    exact this
  have HR := Lib.hid hrow; have HS := Lib.hid (And.intro hs' (And.intro hb hf))
  clear h hrow hs hs' hb hf
  go_enter Tryz.func65, Tryz.ntmps65
  go_wp2_with fail
  go_loopg [9, 10] l.length (fun k s9 s10 wr => ∃ lo hi : Nat, s9 = .int .i64 lo ∧ s10 = .int .i64 hi ∧ lo ≤ hi ∧ hi ≤ l.length ∧ hi - lo ≤ k ∧ Hid ((∀ t x, t < lo → l[t]? = some x → x.n < f) ∧ (∀ t x, hi ≤ t → l[t]? = some x → ¬ x.n < f) ∧ Mod (fun _ => False) w wr))
  case atStart => exact ⟨0, l.length, rfl, rfl, Nat.zero_le _, Nat.le_refl _, by omega, ⟨fun t x ht => absurd ht (Nat.not_lt_zero _), fun t x h1 h2 => by have := (List.getElem?_eq_some_iff.1 h2).1; omega, .refl _ _⟩⟩
  case round =>
    obtain ⟨lo, hi, rfl, rfl, hlh, hin, hg, I⟩ := hrel
    by_cases hlt : lo < hi
    · obtain ⟨q, hq⟩ : ∃ q, q = (lo + hi) / 2 := ⟨_, rfl⟩
      have hqi : ((lo : Int) + (hi : Int)) / 2 = (q : Int) := by omega
      have hql : q < l.length := by omega
      have hqb : lo ≤ q ∧ q < hi := by omega
      have HQ := Lib.hid (And.intro hq hqb); clear hq hqb
      obtain ⟨x, hx⟩ : ∃ x, l[q]? = some x := ⟨_, List.getElem?_eq_getElem hql⟩
      have HRr : Rd.RowOf KidR wr (fun k => ok k ∧ k < w.heap.size) A l := HR.out.step fun k hk _ => ⟨hk, I.out.2.2.block k hk.2 id⟩
      obtain ⟨ad, cs, rfl, hok, hr, hc⟩ := HRr.at_ hx
      obtain rfl := KidR_cells hr
      have hcm := kidcmp_any x.n x.kind x.quota f wr (HS.out.2.1 x (List.mem_of_getElem? hx)) HS.out.2.2
      have HX := Lib.hid (And.intro hx (And.intro hcm hc)); clear hx hr hc hok HRr hcm
      go_wp2_with (refine wpList_load_agg (n := 3) rfl 43 _ rfl Tryz.underlying43 (by kernel_rfl) (ad.add (q * 3)) rfl [.int .i64 x.n, .int .i64 x.kind, .int .i64 x.quota] rfl (fun j u hj => by rw [add_add]; exact HX.out.2.2 j u hj) ?_)
      refine HX.out.2.1.mono ?_
      rintro e w2 ⟨rfl, hm2⟩
      have HY := Lib.hid (I.out.2.2.trans hm2 (fun _ h => h.elim)); clear hm2
      by_cases hf : x.n < f
      · have hcq : decide (x.n - f < 0) = true := by simp; omega
        have HF := Lib.hid hf; clear hf
        go_wp2_with fail
        go_roundg (hi - (q + 1))
        case measure => have := HQ.out; omega
        case rel =>
          refine ⟨q + 1, hi, by go_num, rfl, by have := HQ.out; omega, hin, Nat.le_refl _, ⟨fun t y ht hy => ?_, I.out.2.1, HY.out⟩⟩
          by_cases htq : t = q
          · subst htq
            rw [HX.out.1] at hy
            cases hy
            exact HF.out
          · have := HS.out.1 t q y x (by omega) hy HX.out.1
            have := HF.out
            omega
      · have hcq : decide (x.n - f < 0) = false := by simp; omega
        have HF := Lib.hid hf; clear hf
        go_wp2_with fail
        go_roundg (q - lo)
        case measure => have := HQ.out; omega
        case rel =>
          refine ⟨lo, q, rfl, rfl, by have := HQ.out; omega, by omega, Nat.le_refl _, ⟨I.out.1, fun t y ht hy => ?_, HY.out⟩⟩
          by_cases htq : t = q
          · subst htq
            rw [HX.out.1] at hy
            cases hy
            exact HF.out
          · have := HS.out.1 q t x y (by omega) HX.out.1 hy
            have := HF.out
            omega
    · obtain rfl : hi = lo := by omega
      have HP : Hid (∀ j x, l[j]? = some x → x.n = f → hi = j) := by
        intro j x hj hx
        rcases Nat.lt_trichotomy j hi with h | h | h
        · have := I.out.1 j x h hj; omega
        · exact h.symm
        · obtain ⟨y, hy⟩ : ∃ y, l[hi]? = some y := ⟨_, List.getElem?_eq_getElem (by have := (List.getElem?_eq_some_iff.1 hj).1; omega)⟩
          have h1 := I.out.2.1 hi y (Nat.le_refl _) hy
          have h2 := HS.out.1 hi j y x h hy hj
          omega
      by_cases hn : hi < l.length
      · obtain ⟨x, hx⟩ : ∃ x, l[hi]? = some x := ⟨_, List.getElem?_eq_getElem hn⟩
        have HRr : Rd.RowOf KidR wr (fun k => ok k ∧ k < w.heap.size) A l := HR.out.step fun k hk _ => ⟨hk, I.out.2.2.block k hk.2 id⟩
        obtain ⟨ad, cs, rfl, hok, hr, hc⟩ := HRr.at_ hx
        obtain rfl := KidR_cells hr
        have hcm := kidcmp_any x.n x.kind x.quota f wr (HS.out.2.1 x (List.mem_of_getElem? hx)) HS.out.2.2
        have HX := Lib.hid (And.intro hx (And.intro hcm hc)); clear hx hr hc hok HRr hcm
        go_wp2_with (refine wpList_load_aggw (n := 3) rfl 43 _ rfl Tryz.underlying43 (by kernel_rfl) (ad.add (hi * 3)) rfl [.int .i64 x.n, .int .i64 x.kind, .int .i64 x.quota] rfl (fun j u hj => by rw [add_add]; exact HX.out.2.2 j u hj) ?_)
        refine HX.out.2.1.mono ?_
        rintro e w2 ⟨rfl, hm2⟩
        have HY := Lib.hid (I.out.2.2.trans hm2 (fun _ h => h.elim)); clear hm2
        go_wp2_with fail
        go_ret2
        first | exact ⟨⟨hi, _, rfl, HP.out⟩, HY.out⟩ | exact ⟨⟨hi, ⟨_, rfl⟩, HP.out⟩, HY.out⟩
      · go_wp2_with fail
        go_ret2
        exact ⟨⟨hi, ⟨_, rfl⟩, HP.out⟩, I.out.2.2⟩
end Go.Proofs.YtefedalnafjcfaaGreatDoor

namespace Go.Proofs.YtefedalnafjcfaaGreatDoor
open Go.RowKit
set_option linter.unusedVariables false
section
variable {P : Program} {ops : Array Oper} {rest : List Oper} {a : Act} {Q : Exit → Act → World → Prop} {w : World}
theorem wpList_copy_var_i {o1 o2 o3 o4 : Oper} (g1 : o1.guard = none) (g2 : o2.guard = none) (g3 : o3.guard = none) (g4 : o4.guard = none) (T : TypeId) (x y z v : Operand) (ho1 : o1.op = .load T x) (ho2 : o2.op = .alloc T) (ho3 : o3.op = .assign v) (ho4 : o4.op = .store T y z)
    {fs : Array Field} (hu : P.underlying T = some (.struct fs)) {n : Nat} (Z : List Value) (hinfo : (P.info? T).map (fun i => (i.zero, i.size)) = some (some (.agg Z.toArray), n)) (hZ : Z.length = n)
    (ad : Addr) (hx : a.eval x = .pointer (some ad)) (cs : List Value) (hl : cs.length = n) (h1 : ∀ u ∈ cs, u.oneCell' = true) (hc : ∀ i u, cs[i]? = some u → w.cell? (ad.add i) = some u)
    (i : Value) (hv : ∀ u p, ((a.put o1.dst u).put o2.dst p).eval v = i) (hy : ∀ u p, (((a.put o1.dst u).put o2.dst p).put o3.dst i).eval y = p) (hz : ∀ u p, (((a.put o1.dst u).put o2.dst p).put o3.dst i).eval z = u)
    (h : ∀ g w1, w.heap.size ≤ g → w1.heap[g]? = some (.cells cs.toArray T (0, 0)) → (∀ S : Nat → Prop, Mod S w w1) → wpList P ops Q rest ((((a.put o1.dst (.agg cs.toArray)).put o2.dst (.pointer (some ⟨g, 0, none⟩))).put o3.dst i).put o4.dst undef) w1) : wpList P ops Q (o1 :: o2 :: o3 :: o4 :: rest) a w := by
  obtain ⟨k, hi, hzz⟩ := Option.map_eq_some_iff.1 hinfo
  simp only [Prod.mk.injEq] at hzz
  have hsz : (P.info? T).map (·.size) = some n := by rw [hi]; simp [hzz.2]
  have hzr : (P.info? T).map (·.zero) = some (some (.agg Z.toArray)) := by rw [hi]; simp [hzz.1]
  refine wpList_load_agg g1 T x ho1 hu hsz ad hx cs hl hc ?_
  refine wpList_alloc_agg g2 T ho2 Z.toArray hzr ?_
  refine wpList_plain g3 fun K hK => ?_
  unfold Oper.wp execOp
  simp only [ho3, Sem.run_bind, Sem.run_pure, Result.andThen_ok, hv]
  refine hK _ _ ?_
  refine wpList_store_new g4 T y z ho4 T Z.toArray cs (hy _ _) (hz _ _) (by rw [hsz, hl]) (by simp [hZ, hl]) h1 ?_
  exact h _ _ (Nat.le_refl _) (heap_alloc_new w _) fun S => (Mod.refl S w).alloc _
/-- a new variable is laid and a struct is stored into it -/
theorem wpList_box2 {o2 o3 : Oper} (g2 : o2.guard = none) (g3 : o3.guard = none) (T : TypeId) (y z : Operand) (ho2 : o2.op = .alloc T) (ho3 : o3.op = .store T y z)
    (Z : List Value) {n : Nat} (hinfo : (P.info? T).map (fun i => (i.zero, i.size)) = some (some (.agg Z.toArray), n)) (hZ : Z.length = n)
    (cs : List Value) (hl : cs.length = n) (h1 : ∀ u ∈ cs, u.oneCell' = true) (hy : ∀ p, (a.put o2.dst p).eval y = p) (hz : ∀ p, (a.put o2.dst p).eval z = .agg cs.toArray)
    (h : ∀ g w1, w.heap.size ≤ g → w1.heap[g]? = some (.cells cs.toArray T (0, 0)) → (∀ S : Nat → Prop, Mod S w w1) → wpList P ops Q rest ((a.put o2.dst (.pointer (some ⟨g, 0, none⟩))).put o3.dst undef) w1) : wpList P ops Q (o2 :: o3 :: rest) a w := by
  obtain ⟨k, hi, hzz⟩ := Option.map_eq_some_iff.1 hinfo
  simp only [Prod.mk.injEq] at hzz
  have hsz : (P.info? T).map (·.size) = some n := by rw [hi]; simp [hzz.2]
  have hzr : (P.info? T).map (·.zero) = some (some (.agg Z.toArray)) := by rw [hi]; simp [hzz.1]
  refine wpList_alloc_agg g2 T ho2 Z.toArray hzr ?_
  refine wpList_store_new g3 T y z ho3 T Z.toArray cs (hy _) (hz _) (by rw [hsz, hl]) (by simp [hZ, hl]) h1 ?_
  exact h _ _ (Nat.le_refl _) (heap_alloc_new w _) fun S => (Mod.refl S w).alloc _
end
end Go.Proofs.YtefedalnafjcfaaGreatDoor

