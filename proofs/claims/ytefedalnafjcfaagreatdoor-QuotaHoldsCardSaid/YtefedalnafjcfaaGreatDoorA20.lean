/- Part of this claim's proof (texts Tab14, joined by program). -/
import Derived.Test.YtefedalnafjcfaaGreatDoorA19
namespace Go.Proofs.YtefedalnafjcfaaGreatDoor
open Go.RowKit Go.Shelf
set_option linter.unusedVariables false
attribute [local go_sem] Oper.semAt_some
section
variable {F : Fence} {n : Nat} {P : Program} {ops : Array Oper} {rest : List Oper} {o : Oper} {a : Act} {Q : Exit → Act → World → Prop}
/-- append(v, y) behind a fence, y of whatever kind -/
theorem appendIn_rd {α : Type} {R : Rd α} {W : World} (base : Nat) (hgd : o.guard = none) (s x : Operand) (t e : TypeId) (z : Value) (bytes : Nat)
    (ho : o.op = .call { callee := .builtin .append, args := #[s, x], argTypes := #[t, t] })
    (ht : P.underlying t = some (.slice e)) (hinfo : (P.info? e).map (fun i => (i.zero, i.size, i.bytes)) = some (some z, R.sz, bytes)) (hz : z.cells.size = R.sz) (hb0 : 0 < bytes)
    (v : Value) (xs : List α) (y : α) (cs : List Value) (S : Nat → Prop) (hs : a.eval s = v) (hx : a.eval x = .slice (some ⟨W.heap.size, 0, none⟩) 1 1)
    (HO : OwnR R e W base S v xs) (hy : R.rel W (fun k => S k ∧ some k ≠ v.ownBlock) cs y) (hbase : base ≤ W.heap.size) (hl : (xs.length + 1) * bytes ≤ 140737488355328)
    (h : ∀ A c w1, OwnR R e w1 base S (.slice A (xs.length + 1) c) (xs ++ [y]) → Mod (fun k => v.ownBlock = some k) W w1 → NewOr W v (.slice A (xs.length + 1) c) → wpListIn F n P ops Q rest (a.put o.dst (.slice A (xs.length + 1) c)) w1) :
    wpListIn F n P ops Q (o :: rest) a (W.alloc (.cells cs.toArray e)) := by
  obtain ⟨i0, hi, hzz⟩ := Option.map_eq_some_iff.1 hinfo
  simp only [Prod.mk.injEq] at hzz
  obtain ⟨hz0, hz1, hz2⟩ := hzz
  obtain ⟨cells, hown, hread⟩ := HO
  have hlen : xs.length + 1 ≤ 140737488355328 := Nat.le_trans (Nat.le_mul_of_pos_right _ hb0) hl
  have hcs := R.len hy
  obtain ⟨v1, w1, hr, hown1, hg, _, hat⟩ := run_append_own_at (P := P) (W.alloc (.cells cs.toArray e)) base t o.type e i0 z R.sz bytes ht hi hz0 hz1 hz2 hz R.pos v xs.length cells (hown.alloc _) ⟨W.heap.size, 0, none⟩ 1 1 cs (by omega)
    (World.news_of_block (cs := cs.toArray) (t := e) (fr := (0, 0)) (heap_alloc_new W _)) (R.one hy) (by simp only [maxLen]; omega) hl (by simp; omega)
  obtain ⟨A, c, rfl⟩ := own_slice hown1
  have hn : NewOr W v (.slice A (xs.length + 1) c) := by
    rcases hat with hat | hat
    · exact .inl hat
    · exact .inr ⟨_, hat, by simp⟩
  have hg' : W.grownBy w1 v.ownBlock := World.grownBy.trans (World.grownBy_alloc W _ _) hg
  refine wpListIn_plain hgd fun K hK => ?_
  unfold Oper.wpIn
  refine ⟨?_, ?_⟩
  · simp [Oper.about, ho, resolve, Target.leads, Sem.run_pure]
  · rw [Oper.semAt_plain F _ _ (by rw [ho]; intro c hc'; cases hc')]
    simp [execOp, ho, resolve, invoke, builtin, hs, hx, hr, Result.andThen]
    exact hK _ _ (h A c w1 (OwnR.snoc hread (by rw [hown.1]) hy (by simpa using hown1) hg' hn) ((Mod.refl (fun k => v.ownBlock = some k) W).grown hg' (fun k hk => .inl hk.symm)) hn)
theorem postM_collected {fn : Func} {R : Ending → World → Prop} {tmps : Array Value} {D : Nat} {W : World} (hK : W.heap[D]? = some (.deferred (some []))) (v : Value) (hres : ∀ W', (results fn tmps).run P W' = .ok v W') (hR : ∀ W', Mod (fun k => k = D) W W' → R (.returned v) W') :
    bodyPostM F n P fn R .ret { tmps := tmps, defers := [{ target := .collected D, args := #[] }] } W := by
  have hmd : Mod (fun k => k = D) W (W.putObj D (.deferred none)) := mod_putObj (S := fun k => k = D) rfl _
  refine ⟨by simp, .inl ⟨_, _, rfl, run_takeDeferred hK, ?_⟩⟩
  exact ⟨_, hres _, hR _ hmd⟩
end
theorem sub_dup {α : Type} [DecidableEq α] {l m : List α} (hl : l.Nodup) (h : ∀ x ∈ l, x ∈ m) (hm : m.Nodup) : l.length ≤ m.length := (sub_len hl hm h).1
theorem OwnR.wide {α : Type} {R : Rd α} {e : TypeId} {w : World} {base : Nat} {S S' : Nat → Prop} {v : Value} {l : List α} (h : OwnR R e w base S v l) (hS : ∀ k, S k → S' k) : OwnR R e w base S' v l := by
  obtain ⟨cells, h1, h2⟩ := h
  exact ⟨cells, h1, fun j x hj => Rd.mono (h2 j x hj) (fun k hk => ⟨hS k hk.1, hk.2⟩)⟩
theorem Tryz.infoSl : (Tryz.prog.info? 30).map (fun i => (i.zero, i.size, i.bytes)) = some (some (.slice none 0 0), 1, 24) := by kernel_rfl
/-- Between two rounds: the paths so far lie in their row; their numbers lie in Sx. -/
structure PthI (w W0 : World) (Sx : Nat → Prop) (acc : List (List Int)) (v : Value) (W : World) : Prop where
  m : Mod (fun _ => False) w W
  cell : W.cell? ⟨w.heap.size, 0, none⟩ = some v
  frz : W.frozen? ⟨w.heap.size, 0, none⟩ = false
  row : OwnP W W0.heap.size Sx v acc
  data : ∀ k, Sx k → W0.heap.size ≤ k ∧ ∃ o, W.heap[k]? = some o ∧ o.isCells = true
  disj : ∀ k, Sx k → v.ownBlock ≠ some k
  big : W0.heap.size ≤ W.heap.size
theorem PthI.mod {S Sx : Nat → Prop} {w W0 : World} {acc : List (List Int)} {v : Value} {A B : World} (h : PthI w W0 Sx acc v A) (hm : Mod S A B) (hS : ∀ k, S k → w.heap.size < k ∧ v.ownBlock ≠ some k ∧ ¬ Sx k) : PthI w W0 Sx acc v B := by
  refine ⟨h.m.trans hm (fun k hk => .inr (by have := (hS k hk).1; omega)), (hm.cell (cell_lt h.cell) (fun hk => by have := (hS _ hk).1; simp at this)).trans h.cell, (hm.frozen (cell_lt h.cell) (fun hk => by have := (hS _ hk).1; simp at this)).trans h.frz,
    h.row.mod hm (fun k hk hs => (hS k hs).2.1 hk) (fun k hk _ hs => (hS k hs).2.2 hk), fun k hk => ?_, h.disj, Nat.le_trans h.big hm.size⟩
  obtain ⟨h1, o, h2, h3⟩ := h.data k hk
  exact ⟨h1, o, (hm.block k (Array.getElem?_eq_some_iff.1 h2).1 (fun hs => (hS k hs).2.2 hk)).trans h2, h3⟩
set_option maxRecDepth 100000 in
set_option maxHeartbeats 2000000 in
theorem paths_any (S : Nat → Prop) (g mb : Nat) (L : Tab) (w : World) (hT : TabAt w S g mb L) (hr : ∀ x ∈ L, rightP x.1 = true) (hl : L.length ≤ 1000000) (E : Env w) :
    Calls Tryz.prog 7 #[.pointer (some ⟨g, 0, none⟩)] w fun e w' => ∃ A c Sx, e = .returned (.slice A (L.map (·.1)).length c) ∧ OwnP w' w.heap.size Sx (.slice A (L.map (·.1)).length c) (L.map (·.1)) ∧ (∀ k, Sx k → w.heap.size ≤ k) ∧ Mod (fun _ => False) w w' := by
  have E0 := Lib.hid E; clear E
  have hc0 : w.cell? ⟨g, 0, none⟩ = some (.map (some mb)) := by rw [cell_of_blk hT.blk]; rfl
  have hgl := hT.ltg
  obtain ⟨vs, q1, q2, q3⟩ := hT.ex
  have hasc := hT.asc
  clear q3 hT
  refine (callsIn_wide (n := 3)).1 ?_
  have h1 : 1 ≤ 3 := by omega
  refine callsIn_of_wp_marks Tryz.func7 rfl trivial ?_ rfl
  simp only [Tryz.ntmps7, List.size_toArray, List.length_cons, List.length_nil, Nat.reduceAdd, Nat.reduceSub, Array.replicate_succ, Array.replicate_zero, List.push_toArray, List.append_toArray, List.nil_append, List.cons_append]
  have hc1 : (w.alloc (.cells #[.slice none 0 0] 28)).cell? ⟨g, 0, none⟩ = some (.map (some mb)) := cell_alloc_l _ hc0
  gi_wp2_with (refine ⟨trivial, ?_⟩; gi_at_call 28; refine (callsIn_wide.2 (keys_any mb _)).mono ?_; rintro e w3 ⟨Bs, rfl, hBs, hcB, hm⟩)
  obtain ⟨W0, hW0⟩ : ∃ W0, W0 = w.alloc (.cells #[.slice none 0 0] 28) := ⟨_, rfl⟩
  have hsz0 : W0.heap.size = w.heap.size + 1 := by rw [hW0]; simp
  have m0 : Mod (fun _ => False) w W0 := by rw [hW0]; exact (Mod.refl _ _).alloc _
  have cN : W0.cell? ⟨w.heap.size, 0, none⟩ = some (.slice none 0 0) := by rw [hW0]; exact (cell_new_l w _ _).1
  have fN : W0.frozen? ⟨w.heap.size, 0, none⟩ = false := by rw [hW0]; exact (cell_new_l w _ _).2
  rw [← hW0] at hm
  have hBs' : w.heap.size + 1 ≤ Bs := by rw [← hsz0, hW0]; exact hBs
  have hBl : Bs < w3.heap.size := cell_lt hcB
  have hI0 : PthI w w3 (fun _ => False) [] (.slice none 0 0) w3 := ⟨m0.trans hm (fun _ h => h.elim), (hm.cell (cell_lt cN) id).trans cN, (hm.frozen (cell_lt cN) id).trans fN, OwnR.nil _ _ _ _ _, fun k hk => hk.elim, fun k hk => hk.elim, Nat.le_refl _⟩
  have hmb3 : MapAt w3 mb vs := q1.move ((m0.trans hm (fun _ h => h.elim)).block mb q1.lt id)
  have hmbl := q1.lt
  have HK := Lib.hid (And.intro hr (And.intro q2 (And.intro hasc hl)))
  clear cN fN hW0 hBs hc1 hr q2 hasc m0 hm q1
  refine wpIn_range_any (own := fun k => k = Bs ∨ k = mb) rfl h1 (gf := 57) (lb := #[.pointer (some ⟨Bs, 0, none⟩)]) rfl trivial (enters_of Tryz.func57 (by kernel_rfl) rfl)
    (enc := encS) (Bs := Bs) (St := fun pre x => x ∈ vs.map (·.1) ∧ x ∉ pre) (Fin := fun pre => pre.Perm (vs.map (·.1))) (by omega) (by rintro k (rfl | rfl) <;> omega)
    (fun W hW => keys_st 2 (by omega) Bs mb vs W ((hW.cell (cell_lt hcB) id).trans hcB) (hmb3.move (hW.block mb hmb3.lt id)) (by omega))
    (fun pre W => ∃ acc v Sx, pre = acc.map pathT ∧ pre.Nodup ∧ (∀ p ∈ acc, ∃ x ∈ L, x.1 = p) ∧ PthI w w3 Sx acc v W)
    (fun c pre W => False)
    ?hI ?hIx ⟨[], _, _, rfl, List.nodup_nil, by simp, hI0⟩ ?a1 ?assign ?body ?done ?stop
  case hI =>
    rintro pre A B ⟨acc, v, Sx, h1, h2, h3, h4⟩ hm
    refine ⟨acc, v, Sx, h1, h2, h3, h4.mod hm ?_⟩
    rintro k (rfl | ⟨hk, o, ho, hc⟩)
    · refine ⟨by omega, fun he => ?_, fun hs => by have := (h4.data _ hs).1; omega⟩
      obtain ⟨cells, hrow, -⟩ := h4.row
      have := (own_cells hrow he).1; omega
    · refine ⟨by omega, fun he => ?_, fun hs => ?_⟩
      · obtain ⟨cells, hrow, -⟩ := h4.row
        rw [(own_cells hrow he).2 o ho] at hc; cases hc
      · obtain ⟨-, o2, h5, h6⟩ := h4.data _ hs
        rw [ho] at h5; cases h5; rw [h6] at hc; cases hc
  case hIx => rintro c pre A B h _; exact h
  case assign =>
    intro l x W K hK
    gi_wp2
    exact hK
  case body =>
    rintro ll pre x W ⟨acc, v, Sx, hpre, hnd, hin, hI⟩ ⟨hx, hxn⟩
    have hxk : x ∈ L.map (fun x => pathT x.1) := HK.out.2.1.mem_iff.1 hx
    obtain ⟨y, hy, rfl⟩ := List.mem_map.1 hxk
    have hyr := HK.out.1 y hy
    have hyp := rightP_iff.1 hyr
    have hpx : parseP (pathT y.1) = some y.1 := parseP_iff.2 ⟨hyr, rfl⟩
    have hxl := pathT_len y.1 hyp.2
    have hprs := parseP_any (pathT y.1) (by omega) W (E0.out.mod0 hI.m)
    have hlenacc : acc.length + 1 ≤ 1000000 := by
      have hn2 : (pre ++ [pathT y.1]).Nodup := by
        rw [List.nodup_append]
        exact ⟨hnd, by simp, fun a ha b hb e => hxn (by rw [List.mem_singleton.1 hb] at e; exact e ▸ ha)⟩
      have := sub_dup hn2 (m := L.map (fun x => pathT x.1)) (fun z hz => by
        rcases List.mem_append.1 hz with hz | hz
        · rw [hpre] at hz
          obtain ⟨p, hp, rfl⟩ := List.mem_map.1 hz
          obtain ⟨u, hu, rfl⟩ := hin p hp
          exact List.mem_map.2 ⟨u, hu, rfl⟩
        · rw [List.mem_singleton.1 hz]; exact hxk) (keys_nodup HK.out.2.2.1)
      have h2 := HK.out.2.2.2
      rw [List.length_append, List.length_map, List.length_singleton, hpre, List.length_map] at this
      omega
    obtain ⟨Av, cv, rfl⟩ : ∃ Av cv, v = .slice Av acc.length cv := by
      obtain ⟨cells, hrow, -⟩ := hI.row
      exact own_slice hrow
    have hyi : ∀ k ∈ y.1, Rd.inR .i64 k := fun k hk => inR_mk (by have := hyp.2 k hk; omega)
    have hyl := hyp.1
    have hin' : ∀ p ∈ acc ++ [y.1], ∃ x ∈ L, x.1 = p := fun p hp => by
      rcases List.mem_append.1 hp with hp | hp
      · exact hin p hp
      · exact ⟨y, hy, (List.mem_singleton.1 hp).symm⟩
    have hnd' : (pre ++ [pathT y.1]).Nodup := by
      rw [List.nodup_append]
      exact ⟨hnd, by simp, fun a ha b hb e => hxn (by rw [List.mem_singleton.1 hb] at e; exact e ▸ ha)⟩
    have hpre' : pre ++ [pathT y.1] = (acc ++ [y.1]).map pathT := by rw [hpre]; simp
    have hbig := hI.big
    have HH := Lib.hid (And.intro hI (And.intro hprs (And.intro hpx (And.intro hyi (And.intro hin' (And.intro hnd' hpre'))))))
    clear hI hprs hpx hyi hin' hnd' hpre' hin hnd hpre hx hxn hxk hyr hyp hxl hy
    dsimp only [encS]
    gi_wp2_with (first
      | (refine ⟨trivial, ?_⟩; gi_at_call 29; refine (CallsIn.inRound ll (callsIn_wide.2 HH.out.2.1)).mono ?_; rintro e W1 ⟨hret, hm1⟩; obtain ⟨vp, rfl, hvp⟩ := hret.2 _ HH.out.2.2.1; obtain ⟨Ap, cp, rfl⟩ := own_slice hvp; have HI := Lib.hid (And.intro (HH.out.1.mod hm1 (fun _ h => h.elim)) (And.intro hm1 hvp)); clear hm1 hret hvp; have cp1 := HI.out.1.cell; have fp1 := HI.out.1.frz)
      | (gi_at_builtin; refine appendIn_rd (R := intsR) w3.heap.size rfl _ _ 28 30 (.slice none 0 0) 24 rfl Tryz.underlying28 Tryz.infoSl rfl (by decide) (.slice Av acc.length cv) acc y.1 [.slice Ap y.1.length cp] (fun k => Sx k ∨ (Value.slice Ap y.1.length cp).ownBlock = some k) rfl rfl (HI.out.1.row.wide (fun k hk => .inl hk))
          (Rd.mono (reads_ints HI.out.2.2 HH.out.2.2.2.1 (by omega)) (fun k hk => ⟨.inr hk, fun e => by
            obtain ⟨cells, hrow, -⟩ := HH.out.1.row
            have h1 := (own_lt hrow k e.symm).2
            have h2 := (own_lt HI.out.2.2 k hk).1
            omega⟩)) (Nat.le_trans hbig HI.out.2.1.size) (by omega) ?_; intro A8 c8 W2 hO8 hm8 hn8; have HJ := Lib.hid (And.intro hO8 (And.intro hm8 hn8)); clear hO8 hm8 hn8
         have cp2 : W2.cell? ⟨w.heap.size, 0, none⟩ = some (.slice Av acc.length cv) := (HJ.out.2.1.cell (a := ⟨w.heap.size, 0, none⟩) (cell_lt cp1) (fun hk => by obtain ⟨cells, hrow, -⟩ := HI.out.1.row; have h : w3.heap.size ≤ w.heap.size := (own_cells hrow hk).1; omega)).trans cp1
         have fp2 : W2.frozen? ⟨w.heap.size, 0, none⟩ = false := (HJ.out.2.1.frozen (a := ⟨w.heap.size, 0, none⟩) (cell_lt cp1) (fun hk => by obtain ⟨cells, hrow, -⟩ := HI.out.1.row; have h : w3.heap.size ≤ w.heap.size := (own_cells hrow hk).1; omega)).trans fp1))
    have hvb : ∀ k, (Value.slice Av acc.length cv).ownBlock = some k → w3.heap.size ≤ k ∧ k < W.heap.size ∧ ∀ o, W1.heap[k]? = some o → o.isCells = true := fun k hk => by
      obtain ⟨cells, hrow, -⟩ := HH.out.1.row
      obtain ⟨cells1, hrow1, -⟩ := HI.out.1.row
      exact ⟨(own_lt hrow k hk).1, (own_lt hrow k hk).2, (own_cells hrow1 hk).2⟩
    have hpb : ∀ k, (Value.slice Ap y.1.length cp).ownBlock = some k → W.heap.size ≤ k ∧ k < W1.heap.size ∧ ∀ o, W1.heap[k]? = some o → o.isCells = true := fun k hk => ⟨(own_lt HI.out.2.2 k hk).1, (own_lt HI.out.2.2 k hk).2, (own_cells HI.out.2.2 hk).2⟩
    have hnb : ∀ k, (Value.slice A8 (acc.length + 1) c8).ownBlock = some k → w3.heap.size ≤ k := fun k hk => by
      obtain ⟨cells, hrow, -⟩ := HJ.out.1
      exact (own_lt hrow k hk).1
    have hdat : ∀ k, (Sx k ∨ (Value.slice Ap y.1.length cp).ownBlock = some k) → w3.heap.size ≤ k ∧ k < W1.heap.size ∧ (Value.slice Av acc.length cv).ownBlock ≠ some k ∧ ∃ o, W1.heap[k]? = some o ∧ o.isCells = true := fun k hk => by
      rcases hk with hk | hk
      · obtain ⟨d1, o, d2, d3⟩ := HI.out.1.data k hk
        exact ⟨d1, (Array.getElem?_eq_some_iff.1 d2).1, HI.out.1.disj k hk, o, d2, d3⟩
      · obtain ⟨d1, d2, d3⟩ := hpb k hk
        refine ⟨by omega, d2, fun e => by have := (hvb k e).2.1; omega, _, Array.getElem?_eq_getElem d2, d3 _ (Array.getElem?_eq_getElem d2)⟩
    have mS : Mod (fun k => k = w.heap.size) W2 (W2.setCell ⟨w.heap.size, 0, none⟩ (.slice A8 (acc.length + 1) c8)) := (Mod.refl (fun k => k = w.heap.size) W2).setCell (a := ⟨w.heap.size, 0, none⟩) (.inl rfl) _
    have mF : Mod (fun k => k = w.heap.size ∨ (Value.slice Av acc.length cv).ownBlock = some k) W1 (W2.setCell ⟨w.heap.size, 0, none⟩ (.slice A8 (acc.length + 1) c8)) :=
      (HJ.out.2.1.mono (fun k hk => .inr hk)).trans mS (fun k hk => .inl (.inl hk))
    have mG : Mod (fun k => k = w.heap.size ∨ (Value.slice Av acc.length cv).ownBlock = some k) W (W2.setCell ⟨w.heap.size, 0, none⟩ (.slice A8 (acc.length + 1) c8)) :=
      (HI.out.2.1.mono (fun k (hk : False) => hk.elim)).trans mF (fun k hk => .inl hk)
    have hsw := HI.out.1.m.size
    refine ⟨((keeps_of_mod HI.out.2.1 (fun _ _ h => h.elim)).trans (keeps_of_mod HJ.out.2.1 (fun k o hk ho => (hvb k hk).2.2 o ho))).trans (KeepsOthers.setCell _ _ _), mG.mono (fun k hk => ?_),
      acc ++ [y.1], _, (fun k => Sx k ∨ (Value.slice Ap y.1.length cp).ownBlock = some k), HH.out.2.2.2.2.2.2, HH.out.2.2.2.2.2.1, HH.out.2.2.2.2.1, ⟨HI.out.1.m.trans mF (fun k hk => .inr ?_), World.cell?_setCell_same' _ _ _ (by rw [cp2]; rfl), by rw [World.frozen?_setCell]; exact fp2, ?_, fun k hk => ?_, fun k hk e => ?_, ?_⟩⟩
    · rcases hk with rfl | hk
      · omega
      · have := (hvb k hk).1; omega
    · rcases hk with rfl | hk
      · exact Nat.le_refl _
      · have := (hvb k hk).1; omega
    · exact HJ.out.1.mod mS (fun k hk e => by have := hnb k hk; omega) (fun k hk _ e => by have := (hdat k hk).1; omega)
    · obtain ⟨d1, d2, d3, o, d4, d5⟩ := hdat k hk
      exact ⟨d1, o, (mF.block k d2 (fun h => by rcases h with h | h; · omega
                                                · exact d3 h)).trans d4, d5⟩
    · obtain ⟨d1, d2, d3, -⟩ := hdat k hk
      rcases HJ.out.2.2 with h | ⟨b, h, hb⟩
      · exact d3 (h ▸ e)
      · rw [h] at e; cases e; omega
    · have h2 := HJ.out.2.1.size; have h3 := HI.out.2.1.size; simp only [World.setCell]; simp; omega
  case done =>
    rintro D pre W hD hfin ⟨acc, v, Sx, hpre, hnd, hin, hI⟩ hK
    obtain ⟨Av, cv, rfl⟩ : ∃ Av cv, v = .slice Av acc.length cv := by
      obtain ⟨cells, hrow, -⟩ := hI.row
      exact own_slice hrow
    have hperm : (L.map (·.1)).Perm acc := by
      have h1 : (acc.map pathT).Perm ((L.map (·.1)).map pathT) := by
        rw [← hpre, List.map_map]; exact hfin.trans HK.out.2.1
      refine perm_same ?_ ?_ fun x => ?_
      · exact paths_nodup HK.out.2.2.1
      · rw [hpre] at hnd
        exact List.Pairwise.of_map pathT (fun a b hab e => hab (by rw [e])) hnd
      · constructor
        · intro hx
          have := h1.symm.subset (List.mem_map.2 ⟨x, hx, rfl⟩)
          obtain ⟨y, hy, e⟩ := List.mem_map.1 this
          rw [← pathT_inj e]; exact hy
        · intro hx
          obtain ⟨y, hy, rfl⟩ := hin x hx
          exact List.mem_map.2 ⟨y, hy, rfl⟩
    have hsort := sortP_own hI.row (by have h1 := hperm.length_eq; have h2 := HK.out.2.2.2; simp only [List.length_map] at h1; omega) hperm (by rw [List.pairwise_map]; exact HK.out.2.2.1)
    have cp := hI.cell
    have hal : (L.map (·.1)).length = acc.length := hperm.length_eq
    have HI := Lib.hid (And.intro hI (And.intro hsort hal))
    clear hI hsort hperm hpre hnd hin hfin hal
    gi_wp2_with (refine ⟨trivial, ?_⟩; gi_at_call 30; refine (callsIn_wide.2 HI.out.2.1).mono ?_; rintro e W1 ⟨rfl, hO1, hm1⟩; have H1 := Lib.hid (And.intro hO1 hm1); clear hO1 hm1; have cp1 : W1.cell? ⟨w.heap.size, 0, none⟩ = some (.slice Av acc.length cv) := (H1.out.2.cell (a := ⟨w.heap.size, 0, none⟩) (cell_lt cp) (fun hk => by obtain ⟨cells, hrow, -⟩ := HI.out.1.row; have h : w3.heap.size ≤ w.heap.size := (own_cells hrow hk).1; omega)).trans cp)
    have hnD : ¬ (Value.slice Av acc.length cv).ownBlock = some D := fun hk => by
      obtain ⟨cells, hrow, -⟩ := HI.out.1.row
      have := (own_cells hrow hk).2 _ hK; cases this
    refine postM_collected ((H1.out.2.block D (lt_of_blk hK) hnD).trans hK) (.slice Av acc.length cv) (fun W' => by rw [results_tmp (t := 2) rfl]; rfl) (fun W' hm => ?_)
    refine ⟨Av, cv, Sx, by rw [HI.out.2.2], ?_, fun k hk => ?_, ?_⟩
    · refine (H1.out.1.mod hm (fun k hk e => ?_) (fun k hk _ e => ?_)).low (by have := HI.out.1.m.size; omega)
      · rw [HI.out.2.2] at hk
        exact hnD (by rw [← e]; exact hk)
      · obtain ⟨-, o, d2, d3⟩ := HI.out.1.data k hk
        rw [e, hK] at d2; cases d2; cases d3
    · have := (HI.out.1.data k hk).1; omega
    · refine (HI.out.1.m.trans H1.out.2 (fun k hk => .inr ?_)).trans hm (fun k hk => .inr (by omega))
      obtain ⟨cells, hrow, -⟩ := HI.out.1.row
      have := (own_cells hrow hk).1; omega
  case stop => rintro D c pre W hD h; exact h.elim
end Go.Proofs.YtefedalnafjcfaaGreatDoor

