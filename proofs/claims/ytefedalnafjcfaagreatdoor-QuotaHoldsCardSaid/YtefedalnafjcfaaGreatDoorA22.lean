/- Part of this claim's proof (texts Tab16, joined by program). -/
import Derived.Lib.ConvBytes
import Derived.Test.YtefedalnafjcfaaGreatDoorA15
import Derived.Test.YtefedalnafjcfaaGreatDoorA21
namespace Go.Proofs.YtefedalnafjcfaaGreatDoor
open Go.RowKit Go.Shelf
set_option linter.unusedVariables false
/-- []byte(s) -/
theorem conv_bytes (l : List UInt8) (hl : l.length ≤ 1000000) (w : World) : ∃ c w', (convert 9 22 (.string ⟨l.toArray⟩)).run Tryz.prog w = .ok (.slice (some ⟨w.heap.size, 0, none⟩) l.length c) w' ∧ bytesR.rel w' (fun k => k = w.heap.size) [.slice (some ⟨w.heap.size, 0, none⟩) l.length c] l ∧ Mod (fun _ => False) w w' := by
  have h1 := Lib.run_convert_string_bytes (P := Tryz.prog) w 9 22 5 ⟨l.toArray⟩ Tryz.underlying9 Tryz.underlying22 Tryz.underlying5
  have hsz : (⟨l.toArray⟩ : ByteArray).size = l.length := by simp [ByteArray.size]
  rw [hsz] at h1
  refine ⟨_, _, h1, ⟨_, _, rfl, grownCap_ge w _ 0 _, grownCap_le_maxLen w _ 0 _ (by unfold maxLen; omega), by omega, by simp, .inr ⟨_, rfl, rfl, fun j x hj => ?_⟩⟩, .of_below (Go.Joins.below_bytesWorld _ _ _ _ (Nat.le_refl _))⟩
  refine ⟨[.int .u8 (x.toNat : Int)], rfl, fun i u hu => ?_⟩
  have hi : i = 0 := by have := (List.getElem?_eq_some_iff.1 hu).1; simpa using this
  subst hi
  have hlt := (List.getElem?_eq_some_iff.1 hj).1
  have hc := Lib.bytesWorld_cell w 5 ⟨l.toArray⟩ j (by rw [hsz]; exact hlt)
  have hd : (l.getD j 0) = x := by rw [List.getD_eq_getElem?_getD, hj]; rfl
  have e : Addr.add ⟨w.heap.size, 0, none⟩ (j * Rd.byte.sz + 0) = ⟨w.heap.size, j, none⟩ := by
    rw [show j * Rd.byte.sz + 0 = j from Nat.mul_one j, agg_at]
  rw [e, hc, hd]
  simpa using hu
set_option maxRecDepth 100000 in
theorem tflagS_any (g : Nat) (ok : Nat → Prop) (s : TSt) (w : World) (h : TapeS w ok g s) :
    Calls Tryz.prog 49 #[.pointer (some ⟨g, 0, none⟩)] w fun r w' => r = .returned (.bool (flagS s).1) ∧ TapeS w' ok g (flagS s).2 ∧ Mod (fun k => k = g) w w' := by
  have HN := Lib.hid (tnumS_any g ok s 1 w h)
  clear h
  unfold flagS
  go_enter Tryz.func49, Tryz.ntmps49
  go_wp2_with fail
  refine HN.out.mono ?_
  rintro r w1 ⟨rfl, HT, hm⟩
  have HF := Lib.hid (And.intro HT hm); clear HT hm
  go_wp2
  go_ret
  exact ⟨rfl, HF.out⟩
section
variable {P : Program} {ops : Array Oper} {o : Oper} {a : Act} {K : Act → World → Prop} {Q : Exit → Act → World → Prop} {E : Prop}
/-- append(v, y) in a region that draws, y of whatever kind -/
theorem step_append_rd {α : Type} {R : Rd α} {W : World} (base : Nat) (hgd : o.guard = none) (s x : Operand) (t e : TypeId) (z : Value) (bytes : Nat)
    (ho : o.op = .call { callee := .builtin .append, args := #[s, x], argTypes := #[t, t] })
    (ht : P.underlying t = some (.slice e)) (hinfo : (P.info? e).map (fun i => (i.zero, i.size, i.bytes)) = some (some z, R.sz, bytes)) (hz : z.cells.size = R.sz) (hb0 : 0 < bytes)
    (v : Value) (xs : List α) (y : α) (cs : List Value) (S : Nat → Prop) (hs : a.eval s = v) (hx : a.eval x = .slice (some ⟨W.heap.size, 0, none⟩) 1 1)
    (HO : OwnR R e W base S v xs) (hy : R.rel W (fun k => S k ∧ some k ≠ v.ownBlock) cs y) (hbase : base ≤ W.heap.size) (hl : (xs.length + 1) * bytes ≤ 140737488355328)
    (h : ∀ A c w1, OwnR R e w1 base S (.slice A (xs.length + 1) c) (xs ++ [y]) → Mod (fun k => v.ownBlock = some k) W w1 → NewOr W v (.slice A (xs.length + 1) c) → K (a.put o.dst (.slice A (xs.length + 1) c)) w1) :
    if Region.wanted o (yielded ops a.tmps) = true then Oper.wp P o a (W.alloc (.cells cs.toArray e)) K Q else E := by
  obtain ⟨i0, hi, hzz⟩ := Option.map_eq_some_iff.1 hinfo
  simp only [Prod.mk.injEq] at hzz
  obtain ⟨hz0, hz1, hz2⟩ := hzz
  obtain ⟨cells, hown, hread⟩ := HO
  have hlen : xs.length + 1 ≤ 140737488355328 := Nat.le_trans (Nat.le_mul_of_pos_right _ hb0) hl
  have hcs := R.len hy
  refine step_append_own_at hgd s x t ho base e i0 z R.sz bytes ht hi hz0 hz1 hz2 hz R.pos v xs.length cells hs (hown.alloc _) ⟨W.heap.size, 0, none⟩ 1 1 cs hx (by omega)
    (World.news_of_block (cs := cs.toArray) (t := e) (fr := (0, 0)) (heap_alloc_new W _)) (R.one hy) (by simp only [maxLen]; omega) hl (by simp; omega) ?_
  intro v1 w1 hown1 hg hat
  obtain ⟨A, c, rfl⟩ := own_slice hown1
  have hn : NewOr W v (.slice A (xs.length + 1) c) := by
    rcases hat with hat | hat
    · exact .inl hat
    · exact .inr ⟨_, hat, by simp⟩
  have hg' : W.grownBy w1 v.ownBlock := World.grownBy.trans (World.grownBy_alloc W _ _) hg
  exact h A c w1 (OwnR.snoc hread (by rw [hown.1]) hy (by simpa using hown1) hg' hn) ((Mod.refl (fun k => v.ownBlock = some k) W).grown hg' (fun k hk => .inl hk.symm)) hn
end
theorem step_callw {P : Program} {w : World} {ops : Array Oper} {o : Oper} {a : Act} {K : Act → World → Prop} {Q : Exit → Act → World → Prop} {E : Prop} (hw : Region.wanted o (yielded ops a.tmps) = true) (f : FuncId) (x : Operand) (ts : Array TypeId)
    (ho : o.op = .call { callee := .value (.func f), args := #[x], argTypes := ts }) (v : Value) (hx : a.eval x = v) {C : Ending → World → Prop}
    (hcf : (callFunc f #[v]).run P w = .ok (.enter f #[v]) w) (hc : Calls P f #[v] w C) (h : ∀ e w', C e w' → ∃ u, e = .returned u ∧ K (a.put o.dst u) w') : if Region.wanted o (yielded ops a.tmps) = true then Oper.wp P o a w K Q else E := by
  rw [if_pos hw]
  have h1 : (execOp a.eval o).run P w = .ok (.enter f #[v]) w := by
    have key : ∀ ρ : Operand → Value, ρ (.func f) = .func (.func f) #[] #[] → ρ x = v → (execOp ρ o).run P w = .ok (.enter f #[v]) w := by
      intro ρ h0 h1
      simp [execOp, ho, resolve, go_sem, h0, h1, hcf]
    exact key _ rfl hx
  unfold Oper.wp
  rw [h1, Oper.upon_enter]
  refine hc.mono fun e w' he => ?_
  obtain ⟨u, rfl, hk⟩ := h e w' he
  exact hk
theorem rightOb_cf (args : Array Value) (w : World) : (callFunc 37 args).run Tryz.prog w = .ok (.enter 37 args) w := callFunc_go Tryz.func37 (by kernel_rfl) (by kernel_rfl) args w
theorem tnum_cf (args : Array Value) (w : World) : (callFunc 21 args).run Tryz.prog w = .ok (.enter 21 args) w := callFunc_go Tryz.func21 (by kernel_rfl) (by kernel_rfl) args w
theorem terr_cf (args : Array Value) (w : World) : (callFunc 45 args).run Tryz.prog w = .ok (.enter 45 args) w := callFunc_go Tryz.func45 (by kernel_rfl) (by kernel_rfl) args w
theorem tflag_cf (args : Array Value) (w : World) : (callFunc 49 args).run Tryz.prog w = .ok (.enter 49 args) w := callFunc_go Tryz.func49 (by kernel_rfl) (by kernel_rfl) args w
theorem Tryz.info_kd3 : (Tryz.prog.info? 43).map (fun i => (i.zero, i.size, i.bytes)) = some (some (.agg #[.int .i64 0, .int .i64 0, .int .i64 0]), 3, 24) := by kernel_rfl
theorem KidR_mk {w : World} {ok : Nat → Prop} (x : Kid) (h : Rd.inR .i64 x.n ∧ Rd.inR .i64 x.kind ∧ Rd.inR .i64 x.quota) : KidR.rel w ok [.int .i64 x.n, .int .i64 x.kind, .int .i64 x.quota] x := KidR_iff.2 ⟨[_], [_], [_], rfl, ⟨rfl, h.1⟩, ⟨rfl, h.2.1⟩, ⟨rfl, h.2.2⟩⟩
theorem put10 {W : World} {gr : Nat} (h : W.heap[gr]? = some (.cells #[.int .i64 0, .slice none 0 0, .slice none 0 0, .int .i64 0, .slice none 0 0, .slice none 0 0, .int .i64 0, .slice none 0 0, .int .i64 0, .slice none 0 0] 39 (0, 0))) (v0 v1 v2 v3 v4 v5 v6 v7 v8 v9 : Value) :
    ((((((((((W.setCell ⟨gr, 0, none⟩ v0).setCell ⟨gr, 1, none⟩ v1).setCell ⟨gr, 2, none⟩ v2).setCell ⟨gr, 3, none⟩ v3).setCell ⟨gr, 4, none⟩ v4).setCell ⟨gr, 5, none⟩ v5).setCell ⟨gr, 6, none⟩ v6).setCell ⟨gr, 7, none⟩ v7).setCell ⟨gr, 8, none⟩ v8).setCell ⟨gr, 9, none⟩ v9).heap[gr]? = some (.cells #[v0, v1, v2, v3, v4, v5, v6, v7, v8, v9] 39 (0, 0)) ∧ Mod (fun k => k = gr) W ((((((((((W.setCell ⟨gr, 0, none⟩ v0).setCell ⟨gr, 1, none⟩ v1).setCell ⟨gr, 2, none⟩ v2).setCell ⟨gr, 3, none⟩ v3).setCell ⟨gr, 4, none⟩ v4).setCell ⟨gr, 5, none⟩ v5).setCell ⟨gr, 6, none⟩ v6).setCell ⟨gr, 7, none⟩ v7).setCell ⟨gr, 8, none⟩ v8).setCell ⟨gr, 9, none⟩ v9) := by
  have h0 : (W.setCell ⟨gr, 0, none⟩ v0).heap[gr]? = some (.cells #[v0, .slice none 0 0, .slice none 0 0, .int .i64 0, .slice none 0 0, .slice none 0 0, .int .i64 0, .slice none 0 0, .int .i64 0, .slice none 0 0] 39 (0, 0)) := by rw [set_of_blk h 0 v0]; rfl
  have h1 : ((W.setCell ⟨gr, 0, none⟩ v0).setCell ⟨gr, 1, none⟩ v1).heap[gr]? = some (.cells #[v0, v1, .slice none 0 0, .int .i64 0, .slice none 0 0, .slice none 0 0, .int .i64 0, .slice none 0 0, .int .i64 0, .slice none 0 0] 39 (0, 0)) := by rw [set_of_blk h0 1 v1]; rfl
  have h2 : (((W.setCell ⟨gr, 0, none⟩ v0).setCell ⟨gr, 1, none⟩ v1).setCell ⟨gr, 2, none⟩ v2).heap[gr]? = some (.cells #[v0, v1, v2, .int .i64 0, .slice none 0 0, .slice none 0 0, .int .i64 0, .slice none 0 0, .int .i64 0, .slice none 0 0] 39 (0, 0)) := by rw [set_of_blk h1 2 v2]; rfl
  have h3 : ((((W.setCell ⟨gr, 0, none⟩ v0).setCell ⟨gr, 1, none⟩ v1).setCell ⟨gr, 2, none⟩ v2).setCell ⟨gr, 3, none⟩ v3).heap[gr]? = some (.cells #[v0, v1, v2, v3, .slice none 0 0, .slice none 0 0, .int .i64 0, .slice none 0 0, .int .i64 0, .slice none 0 0] 39 (0, 0)) := by rw [set_of_blk h2 3 v3]; rfl
  have h4 : (((((W.setCell ⟨gr, 0, none⟩ v0).setCell ⟨gr, 1, none⟩ v1).setCell ⟨gr, 2, none⟩ v2).setCell ⟨gr, 3, none⟩ v3).setCell ⟨gr, 4, none⟩ v4).heap[gr]? = some (.cells #[v0, v1, v2, v3, v4, .slice none 0 0, .int .i64 0, .slice none 0 0, .int .i64 0, .slice none 0 0] 39 (0, 0)) := by rw [set_of_blk h3 4 v4]; rfl
  have h5 : ((((((W.setCell ⟨gr, 0, none⟩ v0).setCell ⟨gr, 1, none⟩ v1).setCell ⟨gr, 2, none⟩ v2).setCell ⟨gr, 3, none⟩ v3).setCell ⟨gr, 4, none⟩ v4).setCell ⟨gr, 5, none⟩ v5).heap[gr]? = some (.cells #[v0, v1, v2, v3, v4, v5, .int .i64 0, .slice none 0 0, .int .i64 0, .slice none 0 0] 39 (0, 0)) := by rw [set_of_blk h4 5 v5]; rfl
  have h6 : (((((((W.setCell ⟨gr, 0, none⟩ v0).setCell ⟨gr, 1, none⟩ v1).setCell ⟨gr, 2, none⟩ v2).setCell ⟨gr, 3, none⟩ v3).setCell ⟨gr, 4, none⟩ v4).setCell ⟨gr, 5, none⟩ v5).setCell ⟨gr, 6, none⟩ v6).heap[gr]? = some (.cells #[v0, v1, v2, v3, v4, v5, v6, .slice none 0 0, .int .i64 0, .slice none 0 0] 39 (0, 0)) := by rw [set_of_blk h5 6 v6]; rfl
  have h7 : ((((((((W.setCell ⟨gr, 0, none⟩ v0).setCell ⟨gr, 1, none⟩ v1).setCell ⟨gr, 2, none⟩ v2).setCell ⟨gr, 3, none⟩ v3).setCell ⟨gr, 4, none⟩ v4).setCell ⟨gr, 5, none⟩ v5).setCell ⟨gr, 6, none⟩ v6).setCell ⟨gr, 7, none⟩ v7).heap[gr]? = some (.cells #[v0, v1, v2, v3, v4, v5, v6, v7, .int .i64 0, .slice none 0 0] 39 (0, 0)) := by rw [set_of_blk h6 7 v7]; rfl
  have h8 : (((((((((W.setCell ⟨gr, 0, none⟩ v0).setCell ⟨gr, 1, none⟩ v1).setCell ⟨gr, 2, none⟩ v2).setCell ⟨gr, 3, none⟩ v3).setCell ⟨gr, 4, none⟩ v4).setCell ⟨gr, 5, none⟩ v5).setCell ⟨gr, 6, none⟩ v6).setCell ⟨gr, 7, none⟩ v7).setCell ⟨gr, 8, none⟩ v8).heap[gr]? = some (.cells #[v0, v1, v2, v3, v4, v5, v6, v7, v8, .slice none 0 0] 39 (0, 0)) := by rw [set_of_blk h7 8 v8]; rfl
  have h9 : ((((((((((W.setCell ⟨gr, 0, none⟩ v0).setCell ⟨gr, 1, none⟩ v1).setCell ⟨gr, 2, none⟩ v2).setCell ⟨gr, 3, none⟩ v3).setCell ⟨gr, 4, none⟩ v4).setCell ⟨gr, 5, none⟩ v5).setCell ⟨gr, 6, none⟩ v6).setCell ⟨gr, 7, none⟩ v7).setCell ⟨gr, 8, none⟩ v8).setCell ⟨gr, 9, none⟩ v9).heap[gr]? = some (.cells #[v0, v1, v2, v3, v4, v5, v6, v7, v8, v9] 39 (0, 0)) := by rw [set_of_blk h8 9 v9]; rfl
  exact ⟨h9, (((((((((((Mod.refl (fun k => k = gr) W).setCell (a := ⟨gr, 0, none⟩) (.inl rfl) v0).setCell (a := ⟨gr, 1, none⟩) (.inl rfl) v1).setCell (a := ⟨gr, 2, none⟩) (.inl rfl) v2).setCell (a := ⟨gr, 3, none⟩) (.inl rfl) v3).setCell (a := ⟨gr, 4, none⟩) (.inl rfl) v4).setCell (a := ⟨gr, 5, none⟩) (.inl rfl) v5).setCell (a := ⟨gr, 6, none⟩) (.inl rfl) v6).setCell (a := ⟨gr, 7, none⟩) (.inl rfl) v7).setCell (a := ⟨gr, 8, none⟩) (.inl rfl) v8).setCell (a := ⟨gr, 9, none⟩) (.inl rfl) v9)⟩
theorem getL_len (s : TSt) : (getL s).1.length ≤ 8 := by
  have hr := numS_range s (most := 8) (by decide)
  unfold getL
  split
  · simp
  · rw [getN_len]; omega
theorem getC_len (k : Nat) : ∀ s, (getC k s).1.length = k ∧ ∀ x ∈ (getC k s).1, x.length ≤ 80 := by
  induction k with
  | zero => intro s; exact ⟨rfl, fun x hx => by simp [getC] at hx⟩
  | succ k ih =>
    intro s
    have h1 := textS_le s (most := 80) (by decide)
    obtain ⟨h2, h3⟩ := ih (textS 80 s).2
    refine ⟨by simp [getC, h2], fun x hx => ?_⟩
    simp only [getC, List.mem_cons] at hx
    rcases hx with rfl | hx
    · omega
    · exact h3 x hx
theorem getO_len (s : TSt) : (getO s).1.length ≤ 8 ∧ ∀ x ∈ (getO s).1, x.length ≤ 80 := by
  have hr := numS_range s (most := 8) (by decide)
  unfold getO
  split
  · simp
  · have := getC_len (numS 8 s).1.toNat (numS 8 s).2
    exact ⟨by rw [this.1]; omega, this.2⟩
theorem getIs_len (most : Int) (k : Nat) : ∀ s, (getIs most k s).1.length = k := by
  induction k with
  | zero => intro s; rfl
  | succ k ih => intro s; simp [getIs, ih]
theorem getP_len (s : TSt) : (getP s).1.length ≤ 6 := by
  have hr := numS_range s (most := 6) (by decide)
  unfold getP
  dsimp only
  split
  · simp
  · rw [getIs_len]; omega
theorem Tryz.info_sg3 : (Tryz.prog.info? 109).map (fun i => (i.zero, i.size, i.bytes)) = some (some (.agg #[.int .i64 0, .slice none 0 0, .bool false]), 3, 40) := by kernel_rfl
theorem GS.cf {w W : World} {gr gb ge g : Nat} {ok : Nat → Prop} {o : Ob} {A1 : Option Addr} {c1 : Nat} {A2 : Option Addr} {c2 : Nat} {A4 : Option Addr} {c4 : Nat} {A5 : Option Addr} {c5 : Nat} {A7 : Option Addr} {c7 : Nat} {A9 : Option Addr} {c9 : Nat} {e0 e1 e2 : Int} {s : TSt} (h : GS w W gr gb ge g ok o A1 c1 A2 c2 A4 c4 A5 c5 A7 c7 A9 c9 e0 e1 e2 s) (j : Nat) (v : Value) (hv : [.int .i64 o.kind, .slice A1 o.label.length c1, .slice A2 o.kids.length c2, .int .i64 o.next, .slice A4 o.bytes.length c4, .slice A5 o.own.length c5, .int .i64 o.cats, .slice A7 o.entry.length c7, .int .i64 o.ring, .slice A9 o.maps.length c9][j]? = some v) : W.cell? ⟨gb, j, none⟩ = some v ∧ W.frozen? ⟨gb, j, none⟩ = false := by
  refine ⟨?_, free_of_blk h.blk j⟩
  rw [cell_of_blk h.blk]; simpa using hv
theorem GS.ef {w W : World} {gr gb ge g : Nat} {ok : Nat → Prop} {o : Ob} {A1 : Option Addr} {c1 : Nat} {A2 : Option Addr} {c2 : Nat} {A4 : Option Addr} {c4 : Nat} {A5 : Option Addr} {c5 : Nat} {A7 : Option Addr} {c7 : Nat} {A9 : Option Addr} {c9 : Nat} {e0 e1 e2 : Int} {s : TSt} (h : GS w W gr gb ge g ok o A1 c1 A2 c2 A4 c4 A5 c5 A7 c7 A9 c9 e0 e1 e2 s) (j : Nat) (v : Value) (hv : [Value.int .i64 e0, .int .i64 e1, .int .i64 e2][j]? = some v) : W.cell? ⟨ge, j, none⟩ = some v ∧ W.frozen? ⟨ge, j, none⟩ = false := by
  refine ⟨?_, free_of_blk h.ebl j⟩
  rw [cell_of_blk h.ebl]; simpa using hv
set_option maxRecDepth 100000 in
set_option maxHeartbeats 4000000 in
theorem getOb_any (g : Nat) (ok : Nat → Prop) (s : TSt) (w : World) (h : TapeS w ok g s) (hE : ∀ W, Mod (fun k => k = g) w W → Env W) :
    Calls Tryz.prog 23 #[.pointer (some ⟨g, 0, none⟩)] w fun r w' => ∃ o A1 c1 A2 c2 A4 c4 A5 c5 A7 c7 A9 c9, o = (getOb s).1 ∧ r = .returned (.tuple #[.agg #[.int .i64 o.kind, .slice A1 o.label.length c1, .slice A2 o.kids.length c2, .int .i64 o.next, .slice A4 o.bytes.length c4, .slice A5 o.own.length c5, .int .i64 o.cats, .slice A7 o.entry.length c7, .int .i64 o.ring, .slice A9 o.maps.length c9], .bool (getOb s).2.1]) ∧ ObR.rel w' (fun k => w.heap.size ≤ k) [.int .i64 o.kind, .slice A1 o.label.length c1, .slice A2 o.kids.length c2, .int .i64 o.next, .slice A4 o.bytes.length c4, .slice A5 o.own.length c5, .int .i64 o.cats, .slice A7 o.entry.length c7, .int .i64 o.ring, .slice A9 o.maps.length c9] o ∧ TapeS w' ok g (getOb s).2.2 ∧ Mod (fun k => k = g) w w' := by
  have hgw := h.lt
  have h := h.bound
  obtain ⟨ok1, hok1⟩ : ∃ ok1, ok1 = fun k => ok k ∧ k < w.heap.size := ⟨_, rfl⟩
  have hbd : ∀ W z, TapeS W ok1 g z → TapeS W ok g z := fun W z hW => hW.mono fun k hk => by rw [hok1] at hk; exact hk.1
  have hok2 : ∀ k, ok1 k → k < w.heap.size := fun k hk => by rw [hok1] at hk; exact hk.2
  rw [← hok1] at h
  clear hok1
  obtain ⟨z, hz⟩ : ∃ z, z = getOb s := ⟨_, rfl⟩
  rw [← hz]
  obtain ⟨z0, hz0⟩ : ∃ z0, z0 = getObj0 s := ⟨_, rfl⟩
  have hzz : z = (z0.1, decide (z0.2.2.2 = 0) && z0.2.1 && rightOb z0.1, z0.2.2) := by rw [hz, hz0]; rfl
  clear hz
  unfold getObj0 at hz0
  dsimp only at hz0
  obtain ⟨s1, hs1⟩ : ∃ x, x = numS 5 s := ⟨_, rfl⟩
  obtain ⟨s2, hs2⟩ : ∃ x, x = getL s1.2 := ⟨_, rfl⟩
  obtain ⟨s3, hs3⟩ : ∃ x, x = numS 16 s2.2.2 := ⟨_, rfl⟩
  rw [← hs1, ← hs2, ← hs3] at hz0
  have hr1 := numS_range s (most := 5) (by decide)
  have hr3 := numS_range s2.2.2 (most := 16) (by decide)
  rw [← hs1] at hr1
  rw [← hs3] at hr3
  obtain ⟨K, hK⟩ : ∃ K : Nat, s3.1 = K := ⟨s3.1.toNat, by omega⟩
  have hKt : s3.1.toNat = K := by omega
  rw [hKt] at hz0
  obtain ⟨s4, hs4⟩ : ∃ x, x = getKids K s3.2 := ⟨_, rfl⟩
  obtain ⟨s5, hs5⟩ : ∃ x, x = numS 1048577 s4.2 := ⟨_, rfl⟩
  obtain ⟨s6, hs6⟩ : ∃ x, x = textS 256 s5.2 := ⟨_, rfl⟩
  obtain ⟨s7, hs7⟩ : ∃ x, x = getO s6.2 := ⟨_, rfl⟩
  obtain ⟨s8, hs8⟩ : ∃ x, x = numS 65536 s7.2.2 := ⟨_, rfl⟩
  obtain ⟨s9, hs9⟩ : ∃ x, x = getL s8.2 := ⟨_, rfl⟩
  obtain ⟨s10, hs10⟩ : ∃ x, x = numS 1048576 s9.2.2 := ⟨_, rfl⟩
  obtain ⟨s11, hs11⟩ : ∃ x, x = numS 4 s10.2 := ⟨_, rfl⟩
  rw [← hs4, ← hs5, ← hs6, ← hs7, ← hs8, ← hs9, ← hs10, ← hs11] at hz0
  have hr11 := numS_range s10.2 (most := 4) (by decide)
  rw [← hs11] at hr11
  obtain ⟨K2, hK2⟩ : ∃ K : Nat, s11.1 = K := ⟨s11.1.toNat, by omega⟩
  have hKt2 : s11.1.toNat = K2 := by omega
  rw [hKt2] at hz0
  obtain ⟨s12, hs12⟩ : ∃ x, x = getSgs K2 s11.2 := ⟨_, rfl⟩
  rw [← hs12] at hz0
  have cn := fun (most : Int) (s : TSt) (W : World) (hT : TapeS W ok1 g s) => tnumS_any g ok1 s most W hT
  have cl := fun (s : TSt) (W : World) (hT : TapeS W ok1 g s) (hm : Mod (fun k => k = g) w W) => getL_any g ok1 s W hT (fun W' hm' => hE W' (hm.trans hm' (fun k hk => .inl hk)))
  have co := fun (s : TSt) (W : World) (hT : TapeS W ok1 g s) (hm : Mod (fun k => k = g) w W) => getO_any g ok1 s W hT (fun W' hm' => hE W' (hm.trans hm' (fun k hk => .inl hk)))
  have HN := Lib.hid cn
  have HL := Lib.hid cl
  have HO := Lib.hid co
  have HE := Lib.hid (And.intro hE (And.intro hbd (And.intro hok2 (And.intro hzz hz0))))
  have HS := Lib.hid (And.intro hs1 (And.intro hs2 (And.intro hs3 (And.intro hs4 (And.intro hs5 (And.intro hs6 (And.intro hs7 (And.intro hs8 (And.intro hs9 (And.intro hs10 (And.intro hs11 hs12)))))))))))
  have hK16 : K ≤ 16 := by omega
  have hK24 : K2 ≤ 4 := by omega
  have HR := Lib.hid (And.intro hr1 (And.intro hK hK2))
  have HG := Lib.hid (And.intro h hgw)
  clear hs1 hs2 hs3 hs4 hs5 hs6 hs7 hs8 hs9 hs10 hs11 hs12 hE hbd hok2 hzz hz0 cn cl co h hr1 hr3 hr11 hK hKt hK2 hKt2 hgw
  go_enter Tryz.func23, Tryz.ntmps23
  go_wp2_with fail
  obtain ⟨W0, hW0⟩ : ∃ W0, W0 = ((w.alloc (.cells #[.int .i64 0, .slice none 0 0, .slice none 0 0, .int .i64 0, .slice none 0 0, .slice none 0 0, .int .i64 0, .slice none 0 0, .int .i64 0, .slice none 0 0] 39)).alloc (.cells #[.int .i64 0, .slice none 0 0, .slice none 0 0, .int .i64 0, .slice none 0 0, .slice none 0 0, .int .i64 0, .slice none 0 0, .int .i64 0, .slice none 0 0] 39)).alloc (.cells #[.int .i64 0, .int .i64 0, .int .i64 0] 102) := ⟨_, rfl⟩
  rw [← hW0]
  obtain ⟨gr, hgr⟩ : ∃ x, x = w.heap.size := ⟨_, rfl⟩
  obtain ⟨gb, hgb⟩ : ∃ x, x = w.heap.size + 1 := ⟨_, rfl⟩
  obtain ⟨ge, hge⟩ : ∃ x, x = w.heap.size + 1 + 1 := ⟨_, rfl⟩
  have G0 : GS w W0 gr gb ge g ok1 zeroOb none 0 none 0 none 0 none 0 none 0 none 0 0 0 0 s := by
    have m0 : Mod (fun _ => False) w W0 := by rw [hW0]; exact (((Mod.refl _ _).alloc _).alloc _).alloc _
    refine ⟨?_, ?_, ?_, ⟨HG.out.2, by omega, by omega, by omega⟩, HG.out.1.mod m0 id (fun _ _ => id), HE.out.2.2.1, ObR_zero _ _, m0.mono fun _ h => h.elim⟩
    · rw [hW0, hgb]
      have h1 := heap_alloc_new (w.alloc (.cells #[.int .i64 0, .slice none 0 0, .slice none 0 0, .int .i64 0, .slice none 0 0, .slice none 0 0, .int .i64 0, .slice none 0 0, .int .i64 0, .slice none 0 0] 39)) (.cells #[.int .i64 0, .slice none 0 0, .slice none 0 0, .int .i64 0, .slice none 0 0, .slice none 0 0, .int .i64 0, .slice none 0 0, .int .i64 0, .slice none 0 0] 39)
      rw [World.size_alloc] at h1
      exact (((Mod.refl (fun _ => False) _).alloc _).block _ (by simp) id).trans h1
    · rw [hW0, hge]
      have h1 := heap_alloc_new ((w.alloc (.cells #[.int .i64 0, .slice none 0 0, .slice none 0 0, .int .i64 0, .slice none 0 0, .slice none 0 0, .int .i64 0, .slice none 0 0, .int .i64 0, .slice none 0 0] 39)).alloc (.cells #[.int .i64 0, .slice none 0 0, .slice none 0 0, .int .i64 0, .slice none 0 0, .slice none 0 0, .int .i64 0, .slice none 0 0, .int .i64 0, .slice none 0 0] 39)) (.cells #[.int .i64 0, .int .i64 0, .int .i64 0] 102)
      rw [World.size_alloc, World.size_alloc] at h1
      exact h1
    · rw [hW0, hgr]
      have h1 := heap_alloc_new w (.cells #[.int .i64 0, .slice none 0 0, .slice none 0 0, .int .i64 0, .slice none 0 0, .slice none 0 0, .int .i64 0, .slice none 0 0, .int .i64 0, .slice none 0 0] 39)
      exact ((((Mod.refl (fun _ => False) _).alloc _).alloc _).block _ (by simp) id).trans h1
  rw [← hge, ← hgb, ← hgr]
  have H0 := Lib.hid G0
  clear hW0 hgr hgb hge G0
  refine (HN.out 5 s W0 H0.out.tape).mono ?_
  rw [← HS.out.1]
  rintro r W1 ⟨rfl, hT, hm⟩
  have H1 := Lib.hid (H0.out.mdl hT hm); clear hT hm
  obtain ⟨x0, f0⟩ := H1.out.cf 0 _ rfl
  go_wp2_with fail
  have G1 := H1.out.set0 s1.1 (inR_mk (by have := HR.out.1; omega))
  have hc := HL.out s1.2 _ G1.tape G1.mod
  rw [← HS.out.2.1] at hc
  refine hc.mono ?_
  rintro r W2 ⟨B1, d1, rfl, hOl, hT, hm⟩
  have hgs := G1.at_
  have hl2 := Rd.mono (hOl.reads (bytes := 24) (by have := getL_len s1.2; rw [← HS.out.2.1] at this; omega)) (fun k hk => by
    rcases hk with hk | hk
    · exact hk.elim
    · obtain ⟨_, q, _⟩ := hOl
      exact (show ge < k by have := (own_lt q k hk).1; have := lt_of_blk G1.ebl; omega))
  have H2 := Lib.hid (And.intro (G1.mdl hT hm) hl2)
  clear hl2 hT hm hgs hOl hc G1 x0 f0
  obtain ⟨x1, f1⟩ := H2.out.1.cf 1 _ rfl
  obtain ⟨y0, k0⟩ := H2.out.1.ef 0 _ rfl
  go_wp2_with fail
  have G2 := ((H2.out.1.set1 s2.1 B1 d1 H2.out.2).setE s2.2.1).1
  refine (HN.out 16 s2.2.2 _ G2.tape).mono ?_
  rw [← HS.out.2.2.1, HR.out.2.1]
  rintro r W3 ⟨rfl, hT, hm⟩
  have H3 := Lib.hid (G2.mdl hT hm); clear hT hm G2 x1 f1 y0 k0
  go_wp2_with fail
  obtain ⟨o2, ho2⟩ : ∃ o2 : Ob, o2 = { kind := s1.1, label := s2.1, kids := zeroOb.kids, next := zeroOb.next, bytes := zeroOb.bytes, own := zeroOb.own, cats := zeroOb.cats, entry := zeroOb.entry, ring := zeroOb.ring, maps := zeroOb.maps } := ⟨_, rfl⟩
  have H3' : Hid (GX w W3 gr gb ge g ok1 o2 B1 d1 none 0 none 0 none 0 none 0 none 0 s2.2.1 0 0 s3.2 W3.heap.size 2 (.slice none 0 0)) := by rw [ho2]; exact H3.out.toX 2 _ rfl
  have HO2 := Lib.hid ho2; clear ho2 H3
  obtain ⟨B, hB⟩ : ∃ B, B = W3.heap.size := ⟨_, rfl⟩
  rw [← hB] at H3'
  have HB := Lib.hid (show B ≤ W3.heap.size by omega); clear hB
  go_loopg [21] K (fun f si wr => ∃ (i : Nat) (A : Option Addr) (c : Nat) (lst : List Kid) (sx : TSt), si = .int .i64 i ∧ i + f = K ∧ lst.length = i ∧ Hid (getKids K s3.2 = (lst ++ (getKids f sx).1, (getKids f sx).2) ∧ OwnR KidR 43 wr B (fun _ => False) (.slice A lst.length c) lst ∧ GX w wr gr gb ge g ok1 o2 B1 d1 none 0 none 0 none 0 none 0 none 0 s2.2.1 0 0 sx B 2 (.slice A lst.length c) ∧ B ≤ wr.heap.size))
  case atStart => exact ⟨0, none, 0, [], s3.2, rfl, by omega, rfl, Lib.hid ⟨by simp, OwnR.nil _ _ _ _ _, H3'.out, HB.out⟩⟩
  case round =>
    obtain ⟨i, A, c, lst, sx, rfl, hi, rfl, HP⟩ := hrel
    by_cases hlt : lst.length < K
    · obtain ⟨f, rfl⟩ : ∃ f, gk = f + 1 := ⟨gk - 1, by omega⟩
      obtain ⟨a1, ha1⟩ : ∃ x, x = numS 1048576 sx := ⟨_, rfl⟩
      obtain ⟨a2, ha2⟩ : ∃ x, x = numS 5 a1.2 := ⟨_, rfl⟩
      obtain ⟨a3, ha3⟩ : ∃ x, x = numS 1048576 a2.2 := ⟨_, rfl⟩
      have r1 := numS_range sx (most := 1048576) (by decide)
      have r2 := numS_range a1.2 (most := 5) (by decide)
      have r3 := numS_range a2.2 (most := 1048576) (by decide)
      rw [← ha1] at r1
      rw [← ha2] at r2
      rw [← ha3] at r3
      have hgk : getKids K s3.2 = ((lst ++ [Kid.mk a1.1 a2.1 a3.1]) ++ (getKids f a3.2).1, (getKids f a3.2).2) := by
        rw [HP.out.1, getKids, getKid]
        simp only [← ha1, ← ha2, ← ha3]
        simp
      have hkid : Rd.inR .i64 a1.1 ∧ Rd.inR .i64 a2.1 ∧ Rd.inR .i64 a3.1 := ⟨inR_mk (by omega), inR_mk (by omega), inR_mk (by omega)⟩
      have HA := Lib.hid (And.intro ha1 (And.intro ha2 (And.intro ha3 (And.intro hgk hkid)))); clear ha1 ha2 ha3 r1 r2 r3 hgk hkid
      have hx2 : wr.drew.cell? ⟨gb, 2, none⟩ = some (.slice A lst.length c) := (HP.out.2.2.1.cf (by decide)).1
      have c1 := HN.out 1048576 sx wr.drew (HP.out.2.2.1.tape.mod (Mod.refl (fun _ => False) wr).drew id (fun _ _ => id))
      rw [← HA.out.1] at c1
      have HC := Lib.hid c1; clear c1
      go_upto_region 7 with fail
      go_region_law (first
        | (refine stepc_call2 rfl 21 _ _ _ (by rfl) (.pointer (some ⟨g, 0, none⟩)) (by rfl) (.int .i64 1048576) (by rfl) (tnum_cf _ _) HC.out ?_
           rintro _ w4 ⟨rfl, hT4, hm4⟩
           refine ⟨_, rfl, ?_⟩
           have hm04 := (Mod.refl (fun k => k = g) wr).drew.trans hm4 (fun k hk => .inl hk)
           have G4 := HP.out.2.2.1.step hT4 hm04 (fun k hk => .inl hk)
           have c4 := HN.out 5 a1.2 w4 hT4
           rw [← HA.out.2.1] at c4
           obtain ⟨x24, f24⟩ := G4.cf (by decide)
           have H4 := Lib.hid (And.intro G4 (And.intro c4 hm04))
           clear hT4 hm4 G4 c4 hm04)
        | (refine stepc_call2 rfl 21 _ _ _ (by rfl) (.pointer (some ⟨g, 0, none⟩)) (by rfl) (.int .i64 5) (by rfl) (tnum_cf _ _) H4.out.2.1 ?_
           rintro _ w5 ⟨rfl, hT5, hm5⟩
           refine ⟨_, rfl, ?_⟩
           have G5 := H4.out.1.step hT5 hm5 (fun k hk => .inl hk)
           have c5 := HN.out 1048576 a2.2 w5 hT5
           rw [← HA.out.2.2.1] at c5
           obtain ⟨x25, f25⟩ := G5.cf (by decide)
           have H5 := Lib.hid (And.intro G5 (And.intro c5 (H4.out.2.2.trans hm5 (fun k hk => .inl hk))))
           clear hT5 hm5 G5 c5)
        | (refine stepc_call2 rfl 21 _ _ _ (by rfl) (.pointer (some ⟨g, 0, none⟩)) (by rfl) (.int .i64 1048576) (by rfl) (tnum_cf _ _) H5.out.2.1 ?_
           rintro _ w6 ⟨rfl, hT6, hm6⟩
           refine ⟨_, rfl, ?_⟩
           have G6 := H5.out.1.step hT6 hm6 (fun k hk => .inl hk)
           obtain ⟨x26, f26⟩ := G6.cf (by decide)
           have x27 : (w6.alloc (.cells #[.int .i64 a1.1, .int .i64 a2.1, .int .i64 a3.1] 43)).cell? ⟨gb, 2, none⟩ = some (.slice A lst.length c) := (((Mod.refl (fun _ => False) w6).alloc _).cell (lt_of_cell x26) id).trans x26
           have hm06 := H5.out.2.2.trans hm6 (fun k hk => .inl hk)
           have hO6 := HP.out.2.1.mod hm06 (fun k hk e => by obtain ⟨_, q, _⟩ := HP.out.2.1; have h1 := (own_lt q k hk).1; have h2 := HP.out.2.2.1.at_; omega) (fun _ h => h.elim)
           have H6 := Lib.hid (And.intro G6 (And.intro hO6 (Nat.le_trans HP.out.2.2.2 hm06.size)))
           clear hT6 hm6 G6 hO6 hm06)
        | (refine step_append_rd (R := KidR) B rfl _ _ 35 43 (.agg #[.int .i64 0, .int .i64 0, .int .i64 0]) 24 rfl Tryz.underlying35 Tryz.info_kd3 rfl (by decide) (.slice A lst.length c) lst ⟨a1.1, a2.1, a3.1⟩ [.int .i64 a1.1, .int .i64 a2.1, .int .i64 a3.1] (fun _ => False) rfl rfl H6.out.2.1 (KidR_mk ⟨a1.1, a2.1, a3.1⟩ HA.out.2.2.2.2) H6.out.2.2 (by omega) ?_
           intro A8 c8 w8 hO8 hm8 hn8
           have hlow : ∀ k, (Value.slice A lst.length c).ownBlock = some k → B ≤ k := fun k hk => by obtain ⟨_, q, _⟩ := H6.out.2.1; exact (own_lt q k hk).1
           have G8 := H6.out.1.ap hm8 hlow
           obtain ⟨x28, f28⟩ := G8.cf (by decide)
           have hO9 : OwnR KidR 43 (w8.setCell ⟨gb, 2, none⟩ (.slice A8 (lst.length + 1) c8)) B (fun _ => False) (.slice A8 (lst ++ [Kid.mk a1.1 a2.1 a3.1]).length c8) (lst ++ [Kid.mk a1.1 a2.1 a3.1]) := by
             have hlen : (lst ++ [Kid.mk a1.1 a2.1 a3.1]).length = lst.length + 1 := by simp
             rw [hlen]
             exact hO8.mod ((Mod.refl (fun k => k = gb) w8).setCell (a := ⟨gb, 2, none⟩) (.inl rfl) _) (fun k hk e => by obtain ⟨_, q, _⟩ := hO8; have h1 := (own_lt q k hk).1; have h2 := G8.at_; omega) (fun _ h => h.elim)
           have G9 : GX w (w8.setCell ⟨gb, 2, none⟩ (.slice A8 (lst.length + 1) c8)) gr gb ge g ok1 o2 B1 d1 none 0 none 0 none 0 none 0 none 0 s2.2.1 0 0 a3.2 B 2 (.slice A8 (lst ++ [Kid.mk a1.1 a2.1 a3.1]).length c8) := by
             have hlen : (lst ++ [Kid.mk a1.1 a2.1 a3.1]).length = lst.length + 1 := by simp
             rw [hlen]
             exact G8.put _
           have H8 := Lib.hid (And.intro hO9 (And.intro G9 (show B ≤ (w8.setCell ⟨gb, 2, none⟩ (.slice A8 (lst.length + 1) c8)).heap.size by have := hm8.size; have := H6.out.2.2; simp only [World.setCell]; simp; omega)))
           clear hO8 hm8 hn8 hlow G8 hO9 G9))
      all_goals go_wp2_with fail
      all_goals
        go_roundg f
        case measure => omega
        case rel => exact ⟨lst.length + 1, A8, c8, lst ++ [Kid.mk a1.1 a2.1 a3.1], a3.2, by go_num, by omega, by simp, Lib.hid ⟨HA.out.2.2.2.1, H8.out⟩⟩
    · obtain rfl : gk = 0 := by omega
      have hlK : lst.length = K := by omega
      have hks : s4 = (lst, sx) := by rw [HS.out.2.2.2.1, HP.out.1]; simp [getKids]
      have G4 := HP.out.2.2.1.back2 (Rd.mono (HP.out.2.1.reads (bytes := 24) (by omega)) (fun k hk => by
        rcases hk with hk | hk
        · exact hk.elim
        · obtain ⟨_, q, _⟩ := HP.out.2.1
          exact (show ge < k by have := (own_lt q k hk).1; have := HP.out.2.2.1.at_; omega)))
      have H4 := Lib.hid (And.intro G4 hks); clear G4 hks hlK hi HB H3' H0 H1 H2
      go_wp2_with fail
      have hsx : sx = s4.2 := by rw [H4.out.2]
      have cc := HN.out 1048577 sx _ H4.out.1.tape
      rw [hsx, ← HS.out.2.2.2.2.1] at cc
      clear hsx
      refine cc.mono ?_
      clear cc
      rintro r W5 ⟨rfl, hT, hm⟩
      have H5 := Lib.hid (H4.out.1.mdl hT hm); clear hT hm
      obtain ⟨x3, f3⟩ := H5.out.cf 3 _ rfl
      go_wp2_with fail
      have G5 := H5.out.set3 s5.1 (inR_mk (by have := numS_range s4.2 (most := 1048577) (by decide); rw [← HS.out.2.2.2.2.1] at this; omega))
      have cc := ttextS_any g ok1 s5.2 256 _ G5.tape
      rw [← HS.out.2.2.2.2.2.1] at cc
      refine cc.mono ?_
      clear cc
      rintro r W6 ⟨rfl, hT, hm⟩
      unfold mkStr
      have H6 := Lib.hid (G5.mdl hT hm); clear hT hm G5 x3 f3
      have h256 : s6.1.length ≤ 256 := by have := textS_le s5.2 (most := 256) (by decide); rw [← HS.out.2.2.2.2.2.1] at this; omega
      obtain ⟨cb, W7, hcv, hrb, hm7⟩ := conv_bytes s6.1 (by omega) W6
      have G6 := H6.out.mdl (H6.out.tape.mod hm7 id (fun _ _ => id)) (hm7.mono fun _ h => h.elim)
      obtain ⟨x4, f4⟩ := G6.cf 4 _ rfl
      have H7 := Lib.hid (And.intro G6 (And.intro (Rd.mono hrb (fun k hk => show ge < k by have := lt_of_blk H6.out.ebl; omega)) h256)); clear G6 hrb hm7 h256
      go_wp2_with fail
      have G7 := H7.out.1.set4 s6.1 _ _ H7.out.2.1
      have cc := HO.out s6.2 _ G7.tape G7.mod
      rw [← HS.out.2.2.2.2.2.2.1] at cc
      refine cc.mono ?_
      clear cc
      rintro r W8 ⟨B5, d5, rfl, hOl, hT, hm⟩
      have hln := getO_len s6.2
      rw [← HS.out.2.2.2.2.2.2.1] at hln
      have hl5 := Rd.mono (hOl.reads (fun x hx => by have := hln.2 x hx; omega) (by omega)) (fun k hk => show ge < k by have := (own_lt hOl k hk).1; have := lt_of_blk G7.ebl; omega)
      have H8 := Lib.hid (And.intro (G7.mdl hT hm) hl5); clear hl5 hln hT hm hOl G7 x4 f4 hcv
      obtain ⟨x5, f5⟩ := H8.out.1.cf 5 _ rfl
      obtain ⟨y1, k1⟩ := H8.out.1.ef 1 _ rfl
      go_wp2_with fail
      have G8 := ((H8.out.1.set5 s7.1 B5 d5 H8.out.2).setE s7.2.1).2.1
      have cc := HN.out 65536 s7.2.2 _ G8.tape
      rw [← HS.out.2.2.2.2.2.2.2.1] at cc
      refine cc.mono ?_
      clear cc
      rintro r W9 ⟨rfl, hT, hm⟩
      have H9 := Lib.hid (G8.mdl hT hm); clear hT hm G8 x5 f5 y1 k1
      obtain ⟨x6, f6⟩ := H9.out.cf 6 _ rfl
      go_wp2_with fail
      have G9 := H9.out.set6 s8.1 (inR_mk (by have := numS_range s7.2.2 (most := 65536) (by decide); rw [← HS.out.2.2.2.2.2.2.2.1] at this; omega))
      have cc := HL.out s8.2 _ G9.tape G9.mod
      rw [← HS.out.2.2.2.2.2.2.2.2.1] at cc
      refine cc.mono ?_
      clear cc
      rintro r W10 ⟨B7, d7, rfl, hOl, hT, hm⟩
      have hl7 := Rd.mono (hOl.reads (bytes := 24) (by have := getL_len s8.2; rw [← HS.out.2.2.2.2.2.2.2.2.1] at this; omega)) (fun k hk => by
        rcases hk with hk | hk
        · exact hk.elim
        · obtain ⟨_, q, _⟩ := hOl
          exact (show ge < k by have := (own_lt q k hk).1; have := lt_of_blk G9.ebl; omega))
      have H10 := Lib.hid (And.intro (G9.mdl hT hm) hl7); clear hl7 hT hm hOl G9 x6 f6
      obtain ⟨x7, f7⟩ := H10.out.1.cf 7 _ rfl
      obtain ⟨y2, k2⟩ := H10.out.1.ef 2 _ rfl
      go_wp2_with fail
      have G10 := ((H10.out.1.set7 s9.1 B7 d7 H10.out.2).setE s9.2.1).2.2
      have cc := HN.out 1048576 s9.2.2 _ G10.tape
      rw [← HS.out.2.2.2.2.2.2.2.2.2.1] at cc
      refine cc.mono ?_
      clear cc
      rintro r W11 ⟨rfl, hT, hm⟩
      have H11 := Lib.hid (G10.mdl hT hm); clear hT hm G10 x7 f7 y2 k2
      obtain ⟨x8, f8⟩ := H11.out.cf 8 _ rfl
      go_wp2_with fail
      have G11 := H11.out.set8 s10.1 (inR_mk (by have := numS_range s9.2.2 (most := 1048576) (by decide); rw [← HS.out.2.2.2.2.2.2.2.2.2.1] at this; omega))
      have cc := HN.out 4 s10.2 _ G11.tape
      rw [← HS.out.2.2.2.2.2.2.2.2.2.2.1, HR.out.2.2] at cc
      refine cc.mono ?_
      clear cc
      rintro r W12 ⟨rfl, hT, hm⟩
      have H12 := Lib.hid (G11.mdl hT hm); clear hT hm G11 x8 f8
      go_wp2_with fail
      obtain ⟨o3, ho3⟩ : ∃ o3 : Ob, o3 = { kind := o2.kind, label := o2.label, kids := lst, next := s5.1, bytes := s6.1, own := s7.1, cats := s8.1, entry := s9.1, ring := s10.1, maps := o2.maps } := ⟨_, rfl⟩
      have hl3 : o3.label.length = s2.1.length ∧ o3.kids.length = lst.length ∧ o3.bytes.length = s6.1.length ∧ o3.own.length = s7.1.length ∧ o3.entry.length = s9.1.length ∧ o3.maps = [] := by rw [ho3, HO2.out]; exact ⟨rfl, rfl, rfl, rfl, rfl, rfl⟩
      obtain ⟨C, hC⟩ : ∃ C, C = W12.heap.size := ⟨_, rfl⟩
      have X12 : GX w W12 gr gb ge g ok1 o3 B1 d1 A c (some ⟨W6.heap.size, 0, none⟩) cb B5 d5 B7 d7 none 0 s2.2.1 s7.2.1 s9.2.1 s11.2 C 9 (.slice none 0 0) := by
        rw [hC, ho3]
        refine H12.out.toX 9 _ ?_
        rw [HO2.out]; rfl
      have HX := Lib.hid (And.intro X12 (show C ≤ W12.heap.size by omega))
      have HO3 := Lib.hid (And.intro ho3 hl3)
      clear ho3 hl3 X12 hC H12
      go_loopg [65, 6, 7, 8] K2 (fun f si s6v s7v s8v wr => ∃ (i : Nat) (Am : Option Addr) (cm : Nat) (ms : List Sg) (sx : TSt), si = .int .i64 i ∧ i + f = K2 ∧ ms.length = i ∧ Hid (getSgs K2 s11.2 = (ms ++ (getSgs f sx).1, (getSgs f sx).2) ∧ OwnR SgR 109 wr C (fun k => C ≤ k) (.slice Am ms.length cm) ms ∧ GX w wr gr gb ge g ok1 o3 B1 d1 A c (some ⟨W6.heap.size, 0, none⟩) cb B5 d5 B7 d7 none 0 s2.2.1 s7.2.1 s9.2.1 sx C 9 (.slice Am ms.length cm) ∧ C ≤ wr.heap.size))
      case atStart => exact ⟨0, none, 0, [], s11.2, rfl, by omega, rfl, Lib.hid ⟨by simp, OwnR.nil _ _ _ _ _, HX.out⟩⟩
      case round =>
        obtain ⟨i, Am, cm, ms, sy, rfl, hi2, rfl, HP2⟩ := hrel
        by_cases hlt2 : ms.length < K2
        · obtain ⟨f, rfl⟩ : ∃ f, gk = f + 1 := ⟨gk - 1, by omega⟩
          obtain ⟨a1, ha1⟩ : ∃ x, x = numS 1048576 sy := ⟨_, rfl⟩
          obtain ⟨a2, ha2⟩ : ∃ x, x = getP a1.2 := ⟨_, rfl⟩
          obtain ⟨a3, ha3⟩ : ∃ x, x = flagS a2.2.2 := ⟨_, rfl⟩
          have r1 := numS_range sy (most := 1048576) (by decide)
          rw [← ha1] at r1
          have hgk : getSgs K2 s11.2 = ((ms ++ [Sg.mk a1.1 a2.1 a3.1]) ++ (getSgs f a3.2).1, (getSgs f a3.2).2) := by
            rw [HP2.out.1, getSgs, getSg]
            simp only [← ha1, ← ha2, ← ha3]
            simp
          have h6 : a2.1.length ≤ 6 := by rw [ha2]; exact getP_len a1.2
          have HA := Lib.hid (And.intro ha1 (And.intro ha2 (And.intro ha3 (And.intro hgk (And.intro (inR_mk (x := a1.1) (by omega)) h6))))); clear ha1 ha2 ha3 r1 hgk h6
          have cc := HN.out 1048576 sy wr HP2.out.2.2.1.tape
          rw [← HA.out.1] at cc
          have HC := Lib.hid cc; clear cc
          go_wp2_with fail
          refine HC.out.mono ?_
          rintro r w4 ⟨rfl, hT4, hm4⟩
          have G4 := HP2.out.2.2.1.step hT4 hm4 (fun k hk => .inl hk)
          have hO4 := HP2.out.2.1.mod hm4 (fun k hk e => by obtain ⟨_, q, _⟩ := HP2.out.2.1; have h1 := (own_lt q k hk).1; have h2 := HP2.out.2.2.1.at_; omega) (fun k hk _ e => by have h2 := HP2.out.2.2.1.at_; omega)
          have cc := getP_any g ok1 a1.2 w4 hT4
          rw [← HA.out.2.1] at cc
          have H4m := Lib.hid (And.intro G4 (And.intro hO4 (And.intro cc (Nat.le_trans HP2.out.2.2.2 hm4.size)))); clear G4 hO4 cc hT4 hm4
          go_wp2_with fail
          refine H4m.out.2.2.1.mono ?_
          rintro r w5 ⟨Ap, cp, rfl, hOp, hT5, hm5⟩
          have G5 := H4m.out.1.step hT5 hm5 (fun k hk => .inl hk)
          have hO5 := H4m.out.2.1.mod hm5 (fun k hk e => by obtain ⟨_, q, _⟩ := H4m.out.2.1; have h1 := (own_lt q k hk).1; have h2 := H4m.out.1.at_; omega) (fun k hk _ e => by have h2 := H4m.out.1.at_; omega)
          have hrp : intsR.rel w5 (fun k => C ≤ k ∧ some k ≠ (Value.slice Am ms.length cm).ownBlock) [.slice Ap a2.1.length cp] a2.1 := Rd.mono (hOp.reads (bytes := 8) (by have := HA.out.2.2.2.2.2; omega)) (fun k hk => by
            rcases hk with hk | hk
            · exact hk.elim
            · obtain ⟨_, q, _⟩ := hOp
              have h1 := (own_lt q k hk).1
              refine ⟨by have := H4m.out.2.2.2; omega, fun e => ?_⟩
              obtain ⟨_, q2, _⟩ := H4m.out.2.1
              have := (own_lt q2 k e.symm).2
              omega)
          have cc := tflagS_any g ok1 a2.2.2 w5.drew (hT5.mod (Mod.refl (fun _ => False) w5).drew id (fun _ _ => id))
          rw [← HA.out.2.2.1] at cc
          have hz5 : w5.drew.cell? ⟨gb, 9, none⟩ = some (.slice Am ms.length cm) := (G5.cf (by decide)).1
          have H5m := Lib.hid (And.intro G5 (And.intro hO5 (And.intro hrp (And.intro cc (Nat.le_trans H4m.out.2.2.2 hm5.size))))); clear G5 hO5 hrp cc hT5 hm5 hOp
          go_wp2_with fail
          go_region_law (first
            | (refine step_call rfl 49 _ _ (by rfl) (.pointer (some ⟨g, 0, none⟩)) (by rfl) (tflag_cf _ _) H5m.out.2.2.2.1 ?_
               rintro _ w6 ⟨rfl, hT6, hm6⟩
               refine ⟨_, rfl, ?_⟩
               have hm56 := (Mod.refl (fun k => k = g) w5).drew.trans hm6 (fun k hk => .inl hk)
               have G6 := H5m.out.1.step hT6 hm56 (fun k hk => .inl hk)
               obtain ⟨x26, f26⟩ := G6.cf (by decide)
               have x27 : (w6.alloc (.cells #[.int .i64 a1.1, .slice Ap a2.1.length cp, .bool a3.1] 109)).cell? ⟨gb, 9, none⟩ = some (.slice Am ms.length cm) := (((Mod.refl (fun _ => False) w6).alloc _).cell (lt_of_cell x26) id).trans x26
               have hO6 := H5m.out.2.1.mod hm56 (fun k hk e => by obtain ⟨_, q, _⟩ := H5m.out.2.1; have h1 := (own_lt q k hk).1; have h2 := H5m.out.1.at_; omega) (fun k hk _ e => by have h2 := H5m.out.1.at_; omega)
               have hr6 := Rd.mod H5m.out.2.2.1 hm56 (fun k hk e => by have h2 := H5m.out.1.at_; have := hk.1; omega)
               have hs6 : SgR.rel w6 (fun k => C ≤ k ∧ some k ≠ (Value.slice Am ms.length cm).ownBlock) [.int .i64 a1.1, .slice Ap a2.1.length cp, .bool a3.1] (Sg.mk a1.1 a2.1 a3.1) := SgR_iff.2 ⟨[_], [_], [_], rfl, ⟨rfl, HA.out.2.2.2.2.1⟩, hr6, rfl⟩
               have H6m := Lib.hid (And.intro G6 (And.intro hO6 (And.intro hs6 (Nat.le_trans H5m.out.2.2.2.2 hm56.size))))
               clear hT6 hm6 G6 hO6 hr6 hs6 hm56)
            | (refine step_append_rd (R := SgR) C rfl _ _ 37 109 (.agg #[.int .i64 0, .slice none 0 0, .bool false]) 40 rfl Tryz.underlying37 Tryz.info_sg3 rfl (by decide) (.slice Am ms.length cm) ms (Sg.mk a1.1 a2.1 a3.1) [.int .i64 a1.1, .slice Ap a2.1.length cp, .bool a3.1] (fun k => C ≤ k) rfl rfl H6m.out.2.1 H6m.out.2.2.1 H6m.out.2.2.2 (by omega) ?_
               intro A8 c8 w8 hO8 hm8 hn8
               have hlow : ∀ k, (Value.slice Am ms.length cm).ownBlock = some k → C ≤ k := fun k hk => by obtain ⟨_, q, _⟩ := H6m.out.2.1; exact (own_lt q k hk).1
               have G8 := H6m.out.1.ap hm8 hlow
               obtain ⟨x28, f28⟩ := G8.cf (by decide)
               have hO9 : OwnR SgR 109 (w8.setCell ⟨gb, 9, none⟩ (.slice A8 (ms.length + 1) c8)) C (fun k => C ≤ k) (.slice A8 (ms ++ [Sg.mk a1.1 a2.1 a3.1]).length c8) (ms ++ [Sg.mk a1.1 a2.1 a3.1]) := by
                 have hlen : (ms ++ [Sg.mk a1.1 a2.1 a3.1]).length = ms.length + 1 := by simp
                 rw [hlen]
                 exact hO8.mod ((Mod.refl (fun k => k = gb) w8).setCell (a := ⟨gb, 9, none⟩) (.inl rfl) _) (fun k hk e => by obtain ⟨_, q, _⟩ := hO8; have h1 := (own_lt q k hk).1; have h2 := G8.at_; omega) (fun k hk _ e => by have h2 := G8.at_; omega)
               have G9 : GX w (w8.setCell ⟨gb, 9, none⟩ (.slice A8 (ms.length + 1) c8)) gr gb ge g ok1 o3 B1 d1 A c (some ⟨W6.heap.size, 0, none⟩) cb B5 d5 B7 d7 none 0 s2.2.1 s7.2.1 s9.2.1 a3.2 C 9 (.slice A8 (ms ++ [Sg.mk a1.1 a2.1 a3.1]).length c8) := by
                 have hlen : (ms ++ [Sg.mk a1.1 a2.1 a3.1]).length = ms.length + 1 := by simp
                 rw [hlen]
                 exact G8.put _
               have H8m := Lib.hid (And.intro hO9 (And.intro G9 (show C ≤ (w8.setCell ⟨gb, 9, none⟩ (.slice A8 (ms.length + 1) c8)).heap.size by have := hm8.size; have := H6m.out.2.2.2; simp only [World.setCell]; simp; omega)))
               clear hO8 hm8 hn8 hlow G8 hO9 G9))
          all_goals go_wp2_with fail
          all_goals
            go_roundg f
            case measure => omega
            case rel => exact ⟨ms.length + 1, A8, c8, ms ++ [Sg.mk a1.1 a2.1 a3.1], a3.2, by go_num, by omega, by simp, Lib.hid ⟨HA.out.2.2.2.1, H8m.out⟩⟩
        · obtain rfl : gk = 0 := by omega
          have hms : s12 = (ms, sy) := by rw [HS.out.2.2.2.2.2.2.2.2.2.2.2, HP2.out.1]; simp [getSgs]
          have GF := HP2.out.2.2.1.back9 (Rd.mono (HP2.out.2.1.reads (bytes := 40) (by omega)) (fun k hk => by
            have h5 := HP2.out.2.2.1.at_
            rcases hk with hk | hk
            · exact (show ge < k by omega)
            · obtain ⟨_, q, _⟩ := HP2.out.2.1
              exact (show ge < k by have := (own_lt q k hk).1; omega)))
          obtain ⟨of, hof⟩ : ∃ of : Ob, of = { o3 with maps := ms } := ⟨_, rfl⟩
          have GF' : GS w wr gr gb ge g ok1 of B1 d1 A c (some ⟨W6.heap.size, 0, none⟩) cb B5 d5 B7 d7 Am cm s2.2.1 s7.2.1 s9.2.1 sy := by rw [hof]; exact GF
          have hob : z0.1 = of ∧ z0.2.1 = (decide (s2.2.1 = 0) && decide (s7.2.1 = 0) && decide (s9.2.1 = 0)) ∧ z0.2.2 = sy := by
            rw [HE.out.2.2.2.2, hof, HO3.out.1, HO2.out, H4.out.2, hms]
            exact ⟨rfl, rfl, rfl⟩
          obtain ⟨e0, he0⟩ : ∃ e, e = s2.2.1 := ⟨_, rfl⟩
          obtain ⟨e1, he1⟩ : ∃ e, e = s7.2.1 := ⟨_, rfl⟩
          obtain ⟨e2, he2⟩ : ∃ e, e = s9.2.1 := ⟨_, rfl⟩
          rw [← he0, ← he1, ← he2] at hob GF'
          have hzz := HE.out.2.2.2.1
          rw [hob.1, hob.2.1, hob.2.2] at hzz
          have HF := Lib.hid (And.intro GF' hzz)
          have her := terrS_any g ok1 sy wr.drew (GF'.tape.mod (Mod.refl (fun _ => False) wr).drew id (fun _ _ => id))
          have HER := Lib.hid her
          have hE2 := HE.out.1
          have HE2 := Lib.hid (And.intro hE2 HE.out.2.1)
          clear GF GF' hob hzz her hE2 hms hof he0 he1 he2 hi2 HO3 HO2 H4 HX HS HR HG HP2 HE HL HO HN
          have hbd : wr.drew.heap[gb]? = some (.cells #[.int .i64 of.kind, .slice B1 of.label.length d1, .slice A of.kids.length c, .int .i64 of.next, .slice (some ⟨W6.heap.size, 0, none⟩) of.bytes.length cb, .slice B5 of.own.length d5, .int .i64 of.cats, .slice B7 of.entry.length d7, .int .i64 of.ring, .slice Am of.maps.length cm] 39 (0, 0)) := HF.out.1.blk
          have x0 : wr.drew.cell? ⟨gb, 0, none⟩ = some (.int .i64 of.kind) := by rw [cell_of_blk hbd]; rfl
          have x1 : wr.drew.cell? ⟨gb, 1, none⟩ = some (.slice B1 of.label.length d1) := by rw [cell_of_blk hbd]; rfl
          have x2 : wr.drew.cell? ⟨gb, 2, none⟩ = some (.slice A of.kids.length c) := by rw [cell_of_blk hbd]; rfl
          have x3 : wr.drew.cell? ⟨gb, 3, none⟩ = some (.int .i64 of.next) := by rw [cell_of_blk hbd]; rfl
          have x4 : wr.drew.cell? ⟨gb, 4, none⟩ = some (.slice (some ⟨W6.heap.size, 0, none⟩) of.bytes.length cb) := by rw [cell_of_blk hbd]; rfl
          have x5 : wr.drew.cell? ⟨gb, 5, none⟩ = some (.slice B5 of.own.length d5) := by rw [cell_of_blk hbd]; rfl
          have x6 : wr.drew.cell? ⟨gb, 6, none⟩ = some (.int .i64 of.cats) := by rw [cell_of_blk hbd]; rfl
          have x7 : wr.drew.cell? ⟨gb, 7, none⟩ = some (.slice B7 of.entry.length d7) := by rw [cell_of_blk hbd]; rfl
          have x8 : wr.drew.cell? ⟨gb, 8, none⟩ = some (.int .i64 of.ring) := by rw [cell_of_blk hbd]; rfl
          have x9 : wr.drew.cell? ⟨gb, 9, none⟩ = some (.slice Am of.maps.length cm) := by rw [cell_of_blk hbd]; rfl
          have hgs := HF.out.1.at_
          obtain ⟨Wn, hWn⟩ : ∃ Wn, Wn = ((((((((((wr.setCell ⟨gr, 0, none⟩ (.int .i64 of.kind)).setCell ⟨gr, 1, none⟩ (.slice B1 of.label.length d1)).setCell ⟨gr, 2, none⟩ (.slice A of.kids.length c)).setCell ⟨gr, 3, none⟩ (.int .i64 of.next)).setCell ⟨gr, 4, none⟩ (.slice (some ⟨W6.heap.size, 0, none⟩) of.bytes.length cb)).setCell ⟨gr, 5, none⟩ (.slice B5 of.own.length d5)).setCell ⟨gr, 6, none⟩ (.int .i64 of.cats)).setCell ⟨gr, 7, none⟩ (.slice B7 of.entry.length d7)).setCell ⟨gr, 8, none⟩ (.int .i64 of.ring)).setCell ⟨gr, 9, none⟩ (.slice Am of.maps.length cm)) := ⟨_, rfl⟩
          have hput : Wn.drew.heap[gr]? = some (.cells #[.int .i64 of.kind, .slice B1 of.label.length d1, .slice A of.kids.length c, .int .i64 of.next, .slice (some ⟨W6.heap.size, 0, none⟩) of.bytes.length cb, .slice B5 of.own.length d5, .int .i64 of.cats, .slice B7 of.entry.length d7, .int .i64 of.ring, .slice Am of.maps.length cm] 39 (0, 0)) ∧ Mod (fun k => k = gr) wr Wn.drew := by
            have h := put10 (W := wr) HF.out.1.res (.int .i64 of.kind) (.slice B1 of.label.length d1) (.slice A of.kids.length c) (.int .i64 of.next) (.slice (some ⟨W6.heap.size, 0, none⟩) of.bytes.length cb) (.slice B5 of.own.length d5) (.int .i64 of.cats) (.slice B7 of.entry.length d7) (.int .i64 of.ring) (.slice Am of.maps.length cm)
            rw [← hWn] at h
            exact ⟨h.1, h.2.drew⟩
          have HW := Lib.hid hWn; clear hWn
          have hfin : ∀ W, Mod (fun k => k = gr) wr W → W.heap[gr]? = some (.cells #[.int .i64 of.kind, .slice B1 of.label.length d1, .slice A of.kids.length c, .int .i64 of.next, .slice (some ⟨W6.heap.size, 0, none⟩) of.bytes.length cb, .slice B5 of.own.length d5, .int .i64 of.cats, .slice B7 of.entry.length d7, .int .i64 of.ring, .slice Am of.maps.length cm] 39 (0, 0)) → ObR.rel W (fun k => w.heap.size ≤ k) [.int .i64 of.kind, .slice B1 of.label.length d1, .slice A of.kids.length c, .int .i64 of.next, .slice (some ⟨W6.heap.size, 0, none⟩) of.bytes.length cb, .slice B5 of.own.length d5, .int .i64 of.cats, .slice B7 of.entry.length d7, .int .i64 of.ring, .slice Am of.maps.length cm] of ∧ TapeS W ok g sy ∧ Mod (fun k => k = g) w W := fun W hW hb => by
            refine ⟨Rd.mono (Rd.mod HF.out.1.rd hW (fun k hk e => by omega)) (fun k hk => by omega), HE2.out.2 _ _ (HF.out.1.tape.mod hW (by omega) (fun k hk e => by have := HF.out.1.low k hk; omega)), HF.out.1.mod.trans hW (fun k hk => .inr (by omega))⟩
          have hend := hfin Wn.drew hput.2 hput.1
          have HFin := Lib.hid (And.intro hfin (And.intro hput hend)); clear hfin hput hgs hend
          have r0 : wr.cell? ⟨gr, 0, none⟩ = some (.int .i64 0) := by rw [cell_of_blk HF.out.1.res]; rfl
          have rf0 : wr.frozen? ⟨gr, 0, none⟩ = false := free_of_blk HF.out.1.res 0
          have r1 : wr.cell? ⟨gr, 1, none⟩ = some (.slice none 0 0) := by rw [cell_of_blk HF.out.1.res]; rfl
          have rf1 : wr.frozen? ⟨gr, 1, none⟩ = false := free_of_blk HF.out.1.res 1
          have r2 : wr.cell? ⟨gr, 2, none⟩ = some (.slice none 0 0) := by rw [cell_of_blk HF.out.1.res]; rfl
          have rf2 : wr.frozen? ⟨gr, 2, none⟩ = false := free_of_blk HF.out.1.res 2
          have r3 : wr.cell? ⟨gr, 3, none⟩ = some (.int .i64 0) := by rw [cell_of_blk HF.out.1.res]; rfl
          have rf3 : wr.frozen? ⟨gr, 3, none⟩ = false := free_of_blk HF.out.1.res 3
          have r4 : wr.cell? ⟨gr, 4, none⟩ = some (.slice none 0 0) := by rw [cell_of_blk HF.out.1.res]; rfl
          have rf4 : wr.frozen? ⟨gr, 4, none⟩ = false := free_of_blk HF.out.1.res 4
          have r5 : wr.cell? ⟨gr, 5, none⟩ = some (.slice none 0 0) := by rw [cell_of_blk HF.out.1.res]; rfl
          have rf5 : wr.frozen? ⟨gr, 5, none⟩ = false := free_of_blk HF.out.1.res 5
          have r6 : wr.cell? ⟨gr, 6, none⟩ = some (.int .i64 0) := by rw [cell_of_blk HF.out.1.res]; rfl
          have rf6 : wr.frozen? ⟨gr, 6, none⟩ = false := free_of_blk HF.out.1.res 6
          have r7 : wr.cell? ⟨gr, 7, none⟩ = some (.slice none 0 0) := by rw [cell_of_blk HF.out.1.res]; rfl
          have rf7 : wr.frozen? ⟨gr, 7, none⟩ = false := free_of_blk HF.out.1.res 7
          have r8 : wr.cell? ⟨gr, 8, none⟩ = some (.int .i64 0) := by rw [cell_of_blk HF.out.1.res]; rfl
          have rf8 : wr.frozen? ⟨gr, 8, none⟩ = false := free_of_blk HF.out.1.res 8
          have r9 : wr.cell? ⟨gr, 9, none⟩ = some (.slice none 0 0) := by rw [cell_of_blk HF.out.1.res]; rfl
          have rf9 : wr.frozen? ⟨gr, 9, none⟩ = false := free_of_blk HF.out.1.res 9
          by_cases hs : sy.2 = 0
          case neg =>
            have hz : z = (of, false, sy) := by rw [HF.out.2, decide_eq_false hs]; rfl
            have hera : Calls Tryz.prog 45 #[.pointer (some ⟨g, 0, none⟩)] wr.drew fun r w' => ∃ T p, r = .returned (.iface T p) ∧ wr.drew = w' := HER.out.mono fun r w' ⟨e, h1, h2, h3, h4⟩ => by
              obtain ⟨T, p, rfl⟩ := h3 hs
              exact ⟨T, p, h1, h4⟩
            have HA := Lib.hid hera
            have q1 := fun t u => run_eql_iface_nil_right (P := Tryz.prog) (ti := 73) t u Tryz.underlying73
            clear hera hs
            subst hz
            go_wp2_with fail
            first | (go_region_law (first | (refine step_call rfl 45 _ _ (by rfl) (.pointer (some ⟨g, 0, none⟩)) (by rfl) (terr_cf _ _) HA.out ?_; rintro _ w6 ⟨T, p, rfl, rfl⟩; refine ⟨_, rfl, ?_⟩))) | fail
            all_goals go_wp2_with fail
            all_goals rw [← HW.out]
            all_goals refine bodyPost_ret (results_agg2 rfl _ Wn.drew gr 39 [.int .i64 of.kind, .slice B1 of.label.length d1, .slice A of.kids.length c, .int .i64 of.next, .slice (some ⟨W6.heap.size, 0, none⟩) of.bytes.length cb, .slice B5 of.own.length d5, .int .i64 of.cats, .slice B7 of.entry.length d7, .int .i64 of.ring, .slice Am of.maps.length cm] (0, 0) rfl HFin.out.2.1.1 Tryz.underlying39 Tryz.infoOb2) rfl ?_
            all_goals exact ⟨B1, d1, A, c, _, cb, B5, d5, B7, d7, Am, cm, rfl, HFin.out.2.2⟩
          case pos =>
            have hera : Calls Tryz.prog 45 #[.pointer (some ⟨g, 0, none⟩)] wr.drew fun r w' => r = .returned .nilIface ∧ wr.drew = w' := HER.out.mono fun r w' ⟨e, h1, h2, h3, h4⟩ => by
              obtain rfl := h2 hs
              exact ⟨h1, h4⟩
            have HA := Lib.hid hera
            have q0 := run_eql_iface_nil_nil (P := Tryz.prog) (ti := 73) Tryz.underlying73
            have hbe : wr.drew.heap[ge]? = some (.cells #[.int .i64 e0, .int .i64 e1, .int .i64 e2] 102 (0, 0)) := HF.out.1.ebl
            have y0 : wr.drew.cell? ⟨ge, 0, none⟩ = some (.int .i64 e0) := by rw [cell_of_blk hbe]; rfl
            have y1 : wr.drew.cell? ⟨ge, 1, none⟩ = some (.int .i64 e1) := by rw [cell_of_blk hbe]; rfl
            have y2 : wr.drew.cell? ⟨ge, 2, none⟩ = some (.int .i64 e2) := by rw [cell_of_blk hbe]; rfl
            clear hera hbe
            by_cases he : e0 = 0 ∧ e1 = 0 ∧ e2 = 0
            case neg =>
              have hz : z = (of, false, sy) := by
                have hh : (decide (e0 = 0) && decide (e1 = 0) && decide (e2 = 0)) = false := by simpa [and_assoc] using he
                rw [HF.out.2, hh, Bool.and_false, Bool.false_and]
              have hq : (e0 == 0 && (e1 == 0 && e2 == 0)) = false := by simpa [and_assoc] using he
              have hqe : ∀ W, (Op.equalIn 10000 102 (.agg #[.int .i64 e0, .int .i64 e1, .int .i64 e2]) (.agg #[.int .i64 0, .int .i64 0, .int .i64 0])).run Tryz.prog W = .ok false W := fun W => by rw [eqErr3, hq]
              have HEE := Lib.hid he; clear he hs hq
              subst hz
              go_wp2_with fail
              first | (go_region_law (first | (refine step_call rfl 45 _ _ (by rfl) (.pointer (some ⟨g, 0, none⟩)) (by rfl) (terr_cf _ _) HA.out ?_; rintro _ w6 ⟨rfl, rfl⟩; refine ⟨_, rfl, ?_⟩))) | fail
              all_goals go_wp2_with fail
              all_goals rw [← HW.out]
              all_goals refine bodyPost_ret (results_agg2 rfl _ Wn.drew gr 39 [.int .i64 of.kind, .slice B1 of.label.length d1, .slice A of.kids.length c, .int .i64 of.next, .slice (some ⟨W6.heap.size, 0, none⟩) of.bytes.length cb, .slice B5 of.own.length d5, .int .i64 of.cats, .slice B7 of.entry.length d7, .int .i64 of.ring, .slice Am of.maps.length cm] (0, 0) rfl HFin.out.2.1.1 Tryz.underlying39 Tryz.infoOb2) rfl ?_
              all_goals exact ⟨B1, d1, A, c, _, cb, B5, d5, B7, d7, Am, cm, rfl, HFin.out.2.2⟩
            case pos =>
              obtain ⟨rfl, rfl, rfl⟩ := he
              obtain ⟨br, hbr⟩ : ∃ br, br = rightOb of := ⟨_, rfl⟩
              have hz : z = (of, br, sy) := by
                rw [HF.out.2, hbr, decide_eq_true hs]; rfl
              have hrt := rightOb_any [.int .i64 of.kind, .slice B1 of.label.length d1, .slice A of.kids.length c, .int .i64 of.next, .slice (some ⟨W6.heap.size, 0, none⟩) of.bytes.length cb, .slice B5 of.own.length d5, .int .i64 of.cats, .slice B7 of.entry.length d7, .int .i64 of.ring, .slice Am of.maps.length cm] of _ wr.drew (Rd.mod HF.out.1.rd (Mod.refl (fun _ => False) wr).drew (fun _ _ => id)) (HE2.out.1 _ HF.out.1.mod.drew)
              rw [← hbr] at hrt
              have HRT := Lib.hid hrt
              have hqe : ∀ W, (Op.equalIn 10000 102 (.agg #[.int .i64 0, .int .i64 0, .int .i64 0]) (.agg #[.int .i64 0, .int .i64 0, .int .i64 0])).run Tryz.prog W = .ok true W := fun W => by rw [eqErr3]; rfl
              have HBR := Lib.hid hbr; clear hbr hrt hs
              subst hz
              go_wp2_with fail
              first | (go_region_law (first
                | (refine step_call rfl 45 _ _ (by rfl) (.pointer (some ⟨g, 0, none⟩)) (by rfl) (terr_cf _ _) HA.out ?_; rintro _ w6 ⟨rfl, rfl⟩; refine ⟨_, rfl, ?_⟩)
                | (refine step_callw (by rfl) 37 _ _ (by rfl) (.agg #[.int .i64 of.kind, .slice B1 of.label.length d1, .slice A of.kids.length c, .int .i64 of.next, .slice (some ⟨W6.heap.size, 0, none⟩) of.bytes.length cb, .slice B5 of.own.length d5, .int .i64 of.cats, .slice B7 of.entry.length d7, .int .i64 of.ring, .slice Am of.maps.length cm]) (by rfl) (rightOb_cf _ _) HRT.out ?_
                   rintro _ w7 ⟨rfl, hm7⟩
                   refine ⟨_, rfl, ?_⟩
                   have hm17 : Mod (fun _ => False) wr w7 := (Mod.refl (fun _ => False) wr).drew.trans hm7 (fun _ h => h.elim)
                   have hgb7 := (hm17.block gb (lt_of_blk HF.out.1.blk) id).trans HF.out.1.blk
                   have hgr7 := (hm17.block gr (lt_of_blk HF.out.1.res) id).trans HF.out.1.res
                   have t0 : w7.cell? ⟨gb, 0, none⟩ = some (.int .i64 of.kind) := by rw [cell_of_blk hgb7]; rfl
                   have t1 : w7.cell? ⟨gb, 1, none⟩ = some (.slice B1 of.label.length d1) := by rw [cell_of_blk hgb7]; rfl
                   have t2 : w7.cell? ⟨gb, 2, none⟩ = some (.slice A of.kids.length c) := by rw [cell_of_blk hgb7]; rfl
                   have t3 : w7.cell? ⟨gb, 3, none⟩ = some (.int .i64 of.next) := by rw [cell_of_blk hgb7]; rfl
                   have t4 : w7.cell? ⟨gb, 4, none⟩ = some (.slice (some ⟨W6.heap.size, 0, none⟩) of.bytes.length cb) := by rw [cell_of_blk hgb7]; rfl
                   have t5 : w7.cell? ⟨gb, 5, none⟩ = some (.slice B5 of.own.length d5) := by rw [cell_of_blk hgb7]; rfl
                   have t6 : w7.cell? ⟨gb, 6, none⟩ = some (.int .i64 of.cats) := by rw [cell_of_blk hgb7]; rfl
                   have t7 : w7.cell? ⟨gb, 7, none⟩ = some (.slice B7 of.entry.length d7) := by rw [cell_of_blk hgb7]; rfl
                   have t8 : w7.cell? ⟨gb, 8, none⟩ = some (.int .i64 of.ring) := by rw [cell_of_blk hgb7]; rfl
                   have t9 : w7.cell? ⟨gb, 9, none⟩ = some (.slice Am of.maps.length cm) := by rw [cell_of_blk hgb7]; rfl
                   have v0 : w7.cell? ⟨gr, 0, none⟩ = some (.int .i64 0) := by rw [cell_of_blk hgr7]; rfl
                   have vf0 : w7.frozen? ⟨gr, 0, none⟩ = false := free_of_blk hgr7 0
                   have v1 : w7.cell? ⟨gr, 1, none⟩ = some (.slice none 0 0) := by rw [cell_of_blk hgr7]; rfl
                   have vf1 : w7.frozen? ⟨gr, 1, none⟩ = false := free_of_blk hgr7 1
                   have v2 : w7.cell? ⟨gr, 2, none⟩ = some (.slice none 0 0) := by rw [cell_of_blk hgr7]; rfl
                   have vf2 : w7.frozen? ⟨gr, 2, none⟩ = false := free_of_blk hgr7 2
                   have v3 : w7.cell? ⟨gr, 3, none⟩ = some (.int .i64 0) := by rw [cell_of_blk hgr7]; rfl
                   have vf3 : w7.frozen? ⟨gr, 3, none⟩ = false := free_of_blk hgr7 3
                   have v4 : w7.cell? ⟨gr, 4, none⟩ = some (.slice none 0 0) := by rw [cell_of_blk hgr7]; rfl
                   have vf4 : w7.frozen? ⟨gr, 4, none⟩ = false := free_of_blk hgr7 4
                   have v5 : w7.cell? ⟨gr, 5, none⟩ = some (.slice none 0 0) := by rw [cell_of_blk hgr7]; rfl
                   have vf5 : w7.frozen? ⟨gr, 5, none⟩ = false := free_of_blk hgr7 5
                   have v6 : w7.cell? ⟨gr, 6, none⟩ = some (.int .i64 0) := by rw [cell_of_blk hgr7]; rfl
                   have vf6 : w7.frozen? ⟨gr, 6, none⟩ = false := free_of_blk hgr7 6
                   have v7 : w7.cell? ⟨gr, 7, none⟩ = some (.slice none 0 0) := by rw [cell_of_blk hgr7]; rfl
                   have vf7 : w7.frozen? ⟨gr, 7, none⟩ = false := free_of_blk hgr7 7
                   have v8 : w7.cell? ⟨gr, 8, none⟩ = some (.int .i64 0) := by rw [cell_of_blk hgr7]; rfl
                   have vf8 : w7.frozen? ⟨gr, 8, none⟩ = false := free_of_blk hgr7 8
                   have v9 : w7.cell? ⟨gr, 9, none⟩ = some (.slice none 0 0) := by rw [cell_of_blk hgr7]; rfl
                   have vf9 : w7.frozen? ⟨gr, 9, none⟩ = false := free_of_blk hgr7 9
                   obtain ⟨Wm, hWm⟩ : ∃ Wm, Wm = ((((((((((w7.setCell ⟨gr, 0, none⟩ (.int .i64 of.kind)).setCell ⟨gr, 1, none⟩ (.slice B1 of.label.length d1)).setCell ⟨gr, 2, none⟩ (.slice A of.kids.length c)).setCell ⟨gr, 3, none⟩ (.int .i64 of.next)).setCell ⟨gr, 4, none⟩ (.slice (some ⟨W6.heap.size, 0, none⟩) of.bytes.length cb)).setCell ⟨gr, 5, none⟩ (.slice B5 of.own.length d5)).setCell ⟨gr, 6, none⟩ (.int .i64 of.cats)).setCell ⟨gr, 7, none⟩ (.slice B7 of.entry.length d7)).setCell ⟨gr, 8, none⟩ (.int .i64 of.ring)).setCell ⟨gr, 9, none⟩ (.slice Am of.maps.length cm)) := ⟨_, rfl⟩
                   have hput7 : Wm.heap[gr]? = some (.cells #[.int .i64 of.kind, .slice B1 of.label.length d1, .slice A of.kids.length c, .int .i64 of.next, .slice (some ⟨W6.heap.size, 0, none⟩) of.bytes.length cb, .slice B5 of.own.length d5, .int .i64 of.cats, .slice B7 of.entry.length d7, .int .i64 of.ring, .slice Am of.maps.length cm] 39 (0, 0)) ∧ Mod (fun k => k = gr) wr Wm := by
                     have h := put10 (W := w7) hgr7 (.int .i64 of.kind) (.slice B1 of.label.length d1) (.slice A of.kids.length c) (.int .i64 of.next) (.slice (some ⟨W6.heap.size, 0, none⟩) of.bytes.length cb) (.slice B5 of.own.length d5) (.int .i64 of.cats) (.slice B7 of.entry.length d7) (.int .i64 of.ring) (.slice Am of.maps.length cm)
                     rw [← hWm] at h
                     exact ⟨h.1, (hm17.mono fun _ h => h.elim).trans h.2 (fun k hk => .inl hk)⟩
                   have HWm := Lib.hid (And.intro hWm (And.intro hput7.1 (HFin.out.1 Wm hput7.2 hput7.1)))
                   clear hWm hput7 hgb7 hgr7 hm17 hm7))) | fail
              all_goals go_wp2_with fail
              all_goals rw [← HWm.out.1]
              all_goals refine bodyPost_ret (results_agg2 rfl _ Wm gr 39 [.int .i64 of.kind, .slice B1 of.label.length d1, .slice A of.kids.length c, .int .i64 of.next, .slice (some ⟨W6.heap.size, 0, none⟩) of.bytes.length cb, .slice B5 of.own.length d5, .int .i64 of.cats, .slice B7 of.entry.length d7, .int .i64 of.ring, .slice Am of.maps.length cm] (0, 0) rfl HWm.out.2.1 Tryz.underlying39 Tryz.infoOb2) rfl ?_
              all_goals exact ⟨B1, d1, A, c, _, cb, B5, d5, B7, d7, Am, cm, rfl, HWm.out.2.2⟩
end Go.Proofs.YtefedalnafjcfaaGreatDoor

