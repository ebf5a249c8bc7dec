/- Part of this claim's proof (texts Path9, Tab10, joined by program). -/
import Derived.Test.YtefedalnafjcfaaGreatDoorA17
import Derived.Test.YtefedalnafjcfaaGreatDoorA15
namespace Go.Proofs.YtefedalnafjcfaaGreatDoor
open Go.RowKit Go.Shelf
set_option linter.unusedVariables false
attribute [local go_sem] Oper.semAt_some
theorem atoi_any (s : ByteArray) (hs : s.size ≤ 281474976710656) (w : World) (E : Env w) :
    Calls Tryz.prog 59 #[.string s] w fun r w' => ∃ n e, r = .returned (.tuple #[.int .i64 n, e]) ∧ (∀ v, Lib.atoiAll s.data.toList = .ok v → n = v ∧ e = .nilIface) ∧ ((∀ v, Lib.atoiAll s.data.toList ≠ .ok v) → ∃ T p, e = .iface T p) ∧ Mod (fun _ => False) w w' := by
  rcases ha : Lib.atoiAll s.data.toList with v | _ | _
  · refine (Tryz.strconv_Atoi_ok s (by omega) v ha w).mono ?_
    rintro e w1 ⟨rfl, hw⟩
    refine ⟨v, .nilIface, rfl, fun x hx => ?_, fun h => absurd rfl (h v), ?_⟩
    · cases hx; exact ⟨rfl, rfl⟩
    · rcases hw with rfl | ⟨t, rfl⟩
      · exact .refl _ _
      · exact .of_below (Go.Joins.below_bytesWorld _ _ _ _ (Nat.le_refl _))
  · obtain ⟨tp, p, hv⟩ := E.syn
    refine (Tryz.strconv_Atoi_syntax_var s hs ha tp p w hv).mono ?_
    rintro e w1 ⟨N, rfl, -, -, hb⟩
    exact ⟨_, _, rfl, fun x hx => (by cases hx), fun _ => ⟨_, _, rfl⟩, Mod.of_below (S := fun _ => False) hb⟩
  · obtain ⟨tp, p, hv⟩ := E.rng
    refine (Tryz.strconv_Atoi_range_var s hs ha tp p w hv).mono ?_
    rintro e w1 ⟨N, rfl, -, -, hb⟩
    exact ⟨_, _, rfl, fun x hx => (by cases hx), fun _ => ⟨_, _, rfl⟩, Mod.of_below (S := fun _ => False) hb⟩
/-- Parse's two results lie in its own cells. -/
structure P2 (w W : World) : Prop where
  c0 : W.cell? ⟨w.heap.size, 0, none⟩ = some (.slice none 0 0)
  f0 : W.frozen? ⟨w.heap.size, 0, none⟩ = false
  c1 : W.cell? ⟨w.heap.size + 1, 0, none⟩ = some (.bool false)
  f1 : W.frozen? ⟨w.heap.size + 1, 0, none⟩ = false
  m : Mod (fun _ => False) w W
theorem P2.mod {S : Nat → Prop} {w W W' : World} (h : P2 w W) (hm : Mod S W W') (hS : ∀ k, S k → w.heap.size + 2 ≤ k) : P2 w W' :=
  have n : ∀ k, k < w.heap.size + 2 → ¬ S k := fun k hk hs => by have := hS k hs; omega
  ⟨(hm.cell (cell_lt h.c0) (n _ (by simp))).trans h.c0, (hm.frozen (cell_lt h.c0) (n _ (by simp))).trans h.f0, (hm.cell (cell_lt h.c1) (n _ (by simp))).trans h.c1, (hm.frozen (cell_lt h.c1) (n _ (by simp))).trans h.f1,
    h.m.trans hm (fun k hk => .inr (by have := hS k hk; omega))⟩
theorem P2.start (w : World) : P2 w ((w.alloc (.cells #[.slice none 0 0] 30)).alloc (.cells #[.bool false] 4)) := by
  have c0 := cell_new_l w (.slice none 0 0) 30
  have c1 := cell_new_l (w.alloc (.cells #[.slice none 0 0] 30)) (.bool false) 4
  simp only [World.size_alloc] at c1
  exact ⟨cell_alloc_l _ c0.1, frozen_alloc_l _ c0.1 c0.2, c1.1, c1.2, ((Mod.refl _ w).alloc _).alloc _⟩
theorem results2 {P : Program} {fn : Func} {p q : Tmp} {t1 t2 : TypeId} (h : fn.results = #[.cell p t1, .cell q t2]) (g1 : ∀ w, (isAgg t1).run P w = .ok false w) (g2 : ∀ w, (isAgg t2).run P w = .ok false w)
    (tmps : Array Value) (w : World) {a b : Addr} {x y : Value} (hp : tmps.getD p undef = .pointer (some a)) (hq : tmps.getD q undef = .pointer (some b))
    (ha : w.cell? a = some x) (hb : w.cell? b = some y) : (results fn tmps).run P w = .ok (.tuple #[x, y]) w := by
  rw [Array.getD_eq_getD_getElem?] at hp hq
  simp only [results, h]
  simp [Sem.run_bind, Result.andThen, loadVar, g1, g2, asAddr, hp, hq, ha, hb]
theorem P2.reset {w W : World} (h : P2 w W) : P2 w ((W.setCell ⟨w.heap.size, 0, none⟩ (.slice none 0 0)).setCell ⟨w.heap.size + 1, 0, none⟩ (.bool false)) where
  c0 := by
    rw [World.cell?_setCell_far _ _ _ _ (by simp)]
    exact World.cell?_setCell_same' _ _ _ (by rw [h.c0]; rfl)
  c1 := World.cell?_setCell_same' _ _ _ (by rw [World.cell?_setCell_far _ _ _ _ (by simp), h.c1]; rfl)
  f0 := by simp only [World.frozen?_setCell]; exact h.f0
  f1 := by simp only [World.frozen?_setCell]; exact h.f1
  m := (h.m.setCell (.inr (by simp)) _).setCell (.inr (by simp)) _
theorem parse2_out {w W : World} (hc : w.heap.size + 2 ≤ W.heap.size) (tmps : Array Value) (ds : List Deferred) (hds : ds = [] ∨ ∃ D, ds = [{ target := .collected D, args := #[] }] ∧ w.heap.size + 2 ≤ D ∧ W.heap[D]? = some (.deferred (some [])))
    (v : Value) (b : Bool) (h2 : tmps.getD 2 undef = .pointer (some ⟨w.heap.size, 0, none⟩)) (h3 : tmps.getD 3 undef = .pointer (some ⟨w.heap.size + 1, 0, none⟩))
    (k0 : W.cell? ⟨w.heap.size, 0, none⟩ = some v) (k1 : W.cell? ⟨w.heap.size + 1, 0, none⟩ = some (.bool b))
    (R : Ending → World → Prop) (hR : ∀ W', Mod (fun k => w.heap.size ≤ k ∧ W.heap[k]? = some (.deferred (some []))) W W' → R (.returned (.tuple #[v, .bool b])) W') :
    bodyPostM Fence.wide 3 Tryz.prog Tryz.f29 R .ret { tmps := tmps, defers := ds } W := by
  rcases hds with rfl | ⟨D, rfl, hD, hK⟩
  · exact ⟨_, results2 rfl Tryz.isAgg30 Tryz.isAgg4 tmps W h2 h3 k0 k1, hR W (.refl _ _)⟩
  · have hDW : D < W.heap.size := (Array.getElem?_eq_some_iff.1 hK).1
    have hmd : Mod (fun k => k = D) W (W.putObj D (.deferred none)) := mod_putObj (S := fun k => k = D) rfl _
    refine ⟨by simp, .inl ⟨_, _, rfl, run_takeDeferred hK, ?_⟩⟩
    exact ⟨_, results2 rfl Tryz.isAgg30 Tryz.isAgg4 tmps _ h2 h3 ((hmd.cell (cell_lt k0) (by simp; omega)).trans k0) ((hmd.cell (cell_lt k1) (by simp; omega)).trans k1),
      hR _ (hmd.mono (fun k hk => by rw [hk]; exact ⟨by omega, hK⟩))⟩
theorem parse2_leave {w W : World} (hB : P2 w W) (tmps : Array Value) (ds : List Deferred) (hds : ds = [] ∨ ∃ D, ds = [{ target := .collected D, args := #[] }] ∧ w.heap.size + 2 ≤ D ∧ W.heap[D]? = some (.deferred (some [])))
    (v : Value) (b : Bool) (h2 : tmps.getD 2 undef = .pointer (some ⟨w.heap.size, 0, none⟩)) (h3 : tmps.getD 3 undef = .pointer (some ⟨w.heap.size + 1, 0, none⟩))
    (R : Ending → World → Prop) (hR : ∀ W', Mod (fun _ => False) w W' → Mod (fun k => k < w.heap.size + 2 ∨ W.heap[k]? = some (.deferred (some []))) W W' → R (.returned (.tuple #[v, .bool b])) W') :
    bodyPostM Fence.wide 3 Tryz.prog Tryz.f29 R .ret { tmps := tmps, defers := ds } ((W.setCell ⟨w.heap.size, 0, none⟩ v).setCell ⟨w.heap.size + 1, 0, none⟩ (.bool b)) := by
  obtain ⟨W3, hW3⟩ : ∃ W3, W3 = (W.setCell ⟨w.heap.size, 0, none⟩ v).setCell ⟨w.heap.size + 1, 0, none⟩ (.bool b) := ⟨_, rfl⟩
  rw [← hW3]
  have k0 : W3.cell? ⟨w.heap.size, 0, none⟩ = some v := by
    rw [hW3, World.cell?_setCell_far _ _ _ _ (by simp)]
    exact World.cell?_setCell_same' _ _ _ (by rw [hB.c0]; rfl)
  have k1 : W3.cell? ⟨w.heap.size + 1, 0, none⟩ = some (.bool b) := by
    rw [hW3]
    exact World.cell?_setCell_same' _ _ _ (by rw [World.cell?_setCell_far _ _ _ _ (by simp), hB.c1]; rfl)
  have m3 : Mod (fun k => k < w.heap.size + 2 ∨ W.heap[k]? = some (.deferred (some []))) W W3 := by
    rw [hW3]
    exact ((Mod.refl _ W).setCell (.inl (.inl (by simp <;> omega))) _).setCell (.inl (.inl (by simp <;> omega))) _
  have m0 : Mod (fun _ => False) w W3 := by
    rw [hW3]
    exact (hB.m.setCell (.inr (by simp)) _).setCell (.inr (by simp)) _
  have hDW : ∀ D, W.heap[D]? = some (.deferred (some [])) → w.heap.size + 2 ≤ D → W3.heap[D]? = some (.deferred (some [])) := fun D hK hD => by
    have hlt : D < W.heap.size := (Array.getElem?_eq_some_iff.1 hK).1
    rw [hW3, Below.heap_setCell _ _ _ _ (by simp; omega), Below.heap_setCell _ _ _ _ (by simp; omega)]
    exact hK
  have hsz : W3.heap.size = W.heap.size := by rw [hW3]; simp [World.setCell]
  refine parse2_out (by have := cell_lt hB.c1; omega) tmps ds ?_ v b h2 h3 k0 k1 R (fun W' hm => hR W' (m0.trans hm (fun k hk => .inr hk.1)) (m3.trans hm (fun k hk => ?_)))
  · rcases hds with rfl | ⟨D, rfl, hD, hK⟩
    · exact .inl rfl
    · exact .inr ⟨D, rfl, hD, hDW D hK hD⟩
  · by_cases hk3 : k < w.heap.size + 2
    · exact .inl (.inl hk3)
    · by_cases hkW : k < W.heap.size
      · refine .inl (.inr ?_)
        have := hk.2
        rw [hW3, Below.heap_setCell _ _ _ _ (by simp; omega), Below.heap_setCell _ _ _ _ (by simp; omega)] at this
        exact this
      · exact .inr (by omega)
def parse2Ret (B : Nat) (o : Option (List Int)) (r : Ending) (w' : World) : Prop :=
  (o = none → r = .returned (.tuple #[.slice none 0 0, .bool false])) ∧ (∀ p, o = some p → ∃ v, r = .returned (.tuple #[v, .bool true]) ∧ w'.ownsRow B 3 1 v p.length (icells p))
/-- Between two rounds: the path so far lies in its box. -/
structure P2I (w W0 : World) (acc : List Int) (v : Value) (W : World) : Prop where
  pb : P2 w W
  cell : W.cell? ⟨w.heap.size + 2, 0, none⟩ = some v
  frz : W.frozen? ⟨w.heap.size + 2, 0, none⟩ = false
  row : W.ownsRow W0.heap.size 3 1 v acc.length (icells acc)
  len : acc.length ≤ 6
  rng : ∀ x ∈ acc, Rd.inR .i64 x
  big : W0.heap.size ≤ W.heap.size
theorem P2I.mod {S : Nat → Prop} {w W0 : World} {acc : List Int} {v : Value} {A B : World} (h : P2I w W0 acc v A) (hm : Mod S A B) (hS : ∀ k, S k → w.heap.size + 2 < k ∧ v.ownBlock ≠ some k) : P2I w W0 acc v B :=
  ⟨h.pb.mod hm (fun k hk => by have := (hS k hk).1; omega), (hm.cell (cell_lt h.cell) (fun hk => by have := (hS _ hk).1; simp at this)).trans h.cell, (hm.frozen (cell_lt h.cell) (fun hk => by have := (hS _ hk).1; simp at this)).trans h.frz,
    own_move h.row (fun k hk => hm.block k (own_lt h.row k hk).2 (fun hs => (hS k hs).2 hk)), h.len, h.rng, Nat.le_trans h.big hm.size⟩
set_option maxRecDepth 100000 in
set_option maxHeartbeats 1000000 in
theorem parseP_any (l : List UInt8) (hl : l.length ≤ 140737488355328) (w : World) (E : Env w) :
    Calls Tryz.prog 29 #[.string ⟨l.toArray⟩] w fun r w' => parse2Ret w.heap.size (parseP l) r w' ∧ Mod (fun _ => False) w w' := by
  have HS := Lib.hid (P2.start w)
  have E0 := Lib.hid E; clear E
  obtain ⟨i0, hi0, hz0, hz1, hz2⟩ := info_parts Tryz.infoI
  obtain ⟨o, ho⟩ : ∃ o, o = parseP l := ⟨_, rfl⟩
  rw [← ho]
  refine (callsIn_wide (n := 3)).1 ?_
  have h1 : 1 ≤ 3 := by omega
  refine callsIn_of_wp_marks Tryz.func29 rfl trivial ?_ rfl
  simp only [Tryz.ntmps29, List.size_toArray, List.length_cons, List.length_nil, Nat.reduceAdd, Nat.reduceSub, Array.replicate_succ, Array.replicate_zero, List.push_toArray, List.append_toArray, List.nil_append, List.cons_append]
  by_cases hl0 : l = []
  · subst hl0
    have HO := Lib.hid ho; clear ho
    have c0 := cell_new_l w (.slice none 0 0) 30
    have c1 := cell_new_l (w.alloc (.cells #[.slice none 0 0] 30)) (.bool true) 4
    simp only [World.size_alloc] at c1
    have HC := Lib.hid (And.intro (cell_alloc_l (.cells #[.bool true] 4) c0.1) c1.1); clear c0 c1
    gi_wp2
    refine parse2_out (by simp) _ _ (.inl rfl) _ _ rfl rfl HC.out.1 HC.out.2 _ (fun W' m0 => ⟨⟨fun h => ?_, fun p h => ?_⟩, ((((Mod.refl _ w).alloc _).alloc _).trans m0 (fun k hk => .inr hk.1))⟩)
    · have := HO.out; rw [h] at this; cases this
    · have := HO.out; rw [h] at this; cases this; exact ⟨_, rfl, World.ownsRow_nil _ _ _ _⟩
  · have hle : (l == []) = false := by simpa using hl0
    have HO := Lib.hid (And.intro ho hl0); clear ho
    gi_wp2_with (refine ⟨trivial, ?_⟩; gi_at_call 58; refine (callsIn_wide.2 (SplitSeq_any l _)).mono ?_; rintro e w3 ⟨b, rfl, hb, hs, hm⟩)
    simp only [World.size_alloc] at hb
    obtain ⟨W0, hW0⟩ : ∃ W0, W0 = (w.alloc (.cells #[.slice none 0 0] 30)).alloc (.cells #[.bool false] 4) := ⟨_, rfl⟩
    have hsz0 : W0.heap.size = w.heap.size + 2 := by rw [hW0]; simp
    rw [← hW0] at HS hm
    obtain ⟨cN, fN⟩ := cell_new_l W0 (.slice none 0 0) 30
    rw [hsz0] at cN fN
    have hI0 : P2I w w3 [] (.slice none 0 0) w3 := ⟨(HS.out.mod ((Mod.refl (fun _ => False) W0).alloc _) (fun _ h => h.elim)).mod hm (fun _ h => h.elim), (hm.cell (cell_lt cN) id).trans cN, (hm.frozen (cell_lt cN) id).trans fN, World.ownsRow_nil _ _ _ _, by simp, by simp, Nat.le_refl _⟩
    have hbs : b + 2 < w3.heap.size := cell_lt hs.v
    clear cN fN hW0
    refine wpIn_range_state (own := fun k => k = b ∨ k = b + 1 ∨ k = b + 2) rfl h1 (gf := 118) (lb := #[.pointer (some ⟨b + 1, 0, none⟩), .pointer (some ⟨b, 0, none⟩), .pointer (some ⟨b + 2, 0, none⟩)]) rfl trivial (enters_of Tryz.func118 (by kernel_rfl) rfl)
      (enc := encS) (Bs := b) (xs := splitB 46 l) (by omega) (by rintro k (rfl | rfl | rfl) <;> omega)
      (fun W hW => split_st 2 (by omega) b (b + 1) (b + 2) l W ((hW.cell (cell_lt hs.s) id).trans hs.s) ((hW.frozen (cell_lt hs.s) id).trans hs.fs) ((hW.cell (cell_lt hs.p) id).trans hs.p) ((hW.cell (cell_lt hs.v) id).trans hs.v) ⟨by omega, by omega⟩ (by omega))
      (fun pre W => ∃ acc v, Gather l pre acc ∧ P2I w w3 acc v W)
      (fun c pre W => c = .ret ∧ parseP l = none ∧ P2 w W)
      ?hI ?hIx ⟨[], _, ⟨rfl, by simp, fun p _ => by simp⟩, hI0⟩ ?a1 ?assign ?body ?done ?stop
    case hI =>
      rintro pre A B ⟨acc, v, h1, h2⟩ hm
      refine ⟨acc, v, h1, h2.mod hm ?_⟩
      rintro k (rfl | ⟨hk, o, ho, hc⟩)
      · exact ⟨by omega, fun he => by have := (own_cells h2.row he).1; omega⟩
      · exact ⟨by omega, fun he => by rw [(own_cells h2.row he).2 o ho] at hc; cases hc⟩
    case hIx =>
      rintro c pre A B ⟨h1, h2, h3⟩ hm
      refine ⟨h1, h2, h3.mod hm ?_⟩
      rintro k (rfl | ⟨hk, o, ho, hc⟩)
      · omega
      · omega
    case assign =>
      intro l x W K hK
      gi_wp2
      exact hK
    case body =>
      rintro ll pre x W ⟨acc, v, hacc, hI⟩ hpre
      have hx : x ∈ splitB 46 l := by obtain ⟨t, ht⟩ := hpre; rw [← ht]; simp
      have hxl := splitB_len 46 l x hx
      have hnx := atoi_any ⟨x.toArray⟩ (by simp [ByteArray.size]; omega) W (E0.out.mod0 hI.pb.m)
      have HH := Lib.hid (And.intro hacc (And.intro hI hpre)); clear hacc hI hx hpre
      dsimp only [encS]
      by_cases hbad : (∀ v, Lib.atoiAll x ≠ .ok v)
      · have hnone := gather_bad HO.out.2 HH.out.2.2 HH.out.1 (.inr hbad)
        have hnx2 : Calls Tryz.prog 59 #[.string ⟨x.toArray⟩] W fun r w' => ∃ n T p, r = .returned (.tuple #[.int .i64 n, .iface T p]) ∧ Mod (fun _ => False) W w' := hnx.mono fun r w' ⟨n, e, h1, h2, h3, h4⟩ => by
          obtain ⟨T, p, rfl⟩ := h3 hbad
          exact ⟨n, T, p, h1, h4⟩
        have q1 := fun t u => run_eql_iface_nil_right (P := Tryz.prog) (ti := 73) t u Tryz.underlying73
        have HB := Lib.hid (And.intro hnone hnx2); clear hnone hnx hnx2 hbad
        gi_wp2_with (refine ⟨trivial, ?_⟩; gi_at_call 59; refine (CallsIn.inRound ll (callsIn_wide.2 HB.out.2)).mono ?_; rintro e W1 ⟨n1, T1, p1, rfl, hm1⟩; have HI := Lib.hid (And.intro (HH.out.2.1.mod hm1 (fun _ h => h.elim)) hm1); clear hm1; have c0 := HI.out.1.pb.c0; have f0 := HI.out.1.pb.f0; have c1 := HI.out.1.pb.c1; have f1 := HI.out.1.pb.f1)
        all_goals exact ⟨(keeps_of_mod HI.out.2 (fun _ _ h => h.elim)).trans ((KeepsOthers.setCell _ _ _).trans (KeepsOthers.setCell _ _ _)), rfl, HB.out.1, HI.out.1.pb.reset⟩
      · obtain ⟨k, hk⟩ : ∃ k, Lib.atoiAll x = .ok k := Classical.byContradiction fun h => hbad fun v hv => h ⟨v, hv⟩
        clear hbad
        have hnx2 : Calls Tryz.prog 59 #[.string ⟨x.toArray⟩] W fun r w' => r = .returned (.tuple #[.int .i64 k, .nilIface]) ∧ Mod (fun _ => False) W w' := hnx.mono fun r w' ⟨n, e, h1, h2, h3, h4⟩ => by
          obtain ⟨rfl, rfl⟩ := h2 k hk
          exact ⟨h1, h4⟩
        have q0 := run_eql_iface_nil_nil (P := Tryz.prog) (ti := 73) Tryz.underlying73
        obtain ⟨Av, cv, rfl⟩ := own_slice HH.out.2.1.row
        have hLs := HH.out.2.1.big
        by_cases h6 : acc.length = 6
        · have hnone := gather_bad HO.out.2 HH.out.2.2 HH.out.1 (.inl h6)
          rw [h6] at HH
          have HB := Lib.hid (And.intro hnone hnx2); clear hnone hnx hnx2 hk
          gi_wp2_with (refine ⟨trivial, ?_⟩; gi_at_call 59; refine (CallsIn.inRound ll (callsIn_wide.2 HB.out.2)).mono ?_; rintro e W1 ⟨rfl, hm1⟩; have HI := Lib.hid (And.intro (HH.out.2.1.mod hm1 (fun _ h => h.elim)) hm1); clear hm1; have c0 := HI.out.1.pb.c0; have f0 := HI.out.1.pb.f0; have c1 := HI.out.1.pb.c1; have f1 := HI.out.1.pb.f1; have cp := HI.out.1.cell)
          all_goals exact ⟨(keeps_of_mod HI.out.2 (fun _ _ h => h.elim)).trans ((KeepsOthers.setCell _ _ _).trans (KeepsOthers.setCell _ _ _)), rfl, HB.out.1, HI.out.1.pb.reset⟩
        · have hstep := gather_step HO.out.2 HH.out.2.2 HH.out.1 h6 hk
          have hd6 : ((acc.length : Int) == 6) = false := by simp; omega
          have hkr : Rd.inR .i64 k := inR_mk (by have := Lib.atoiAll_bounds hk; omega)
          have hrng : ∀ x ∈ acc ++ [k], Rd.inR .i64 x := fun x hx => by
            rcases List.mem_append.1 hx with hx | hx
            · exact HH.out.2.1.rng x hx
            · rw [List.mem_singleton.1 hx]; exact hkr
          have HL := Lib.hid (And.intro h6 (And.intro HH.out.2.1.len (And.intro hstep (And.intro hnx2 hrng)))); clear h6 hstep hnx hnx2 hk hkr hrng
          gi_wp2_with (first
            | (refine ⟨trivial, ?_⟩; gi_at_call 59; refine (CallsIn.inRound ll (callsIn_wide.2 HL.out.2.2.2.1)).mono ?_; rintro e W1 ⟨rfl, hm1⟩; have HI := Lib.hid (And.intro (HH.out.2.1.mod hm1 (fun _ h => h.elim)) hm1); clear hm1; have cp := HI.out.1.cell; have fp := HI.out.1.frz)
            | (gi_at_builtin; refine wpListIn_append_own _ rfl _ _ 30 rfl w3.heap.size 3 i0 (.int .i64 0) 1 8 Tryz.underlying30 hi0 hz0 hz1 hz2 rfl (by decide) _ _ _ rfl (HI.out.1.row.alloc _) ⟨W1.heap.size, 0, none⟩ 1 1 [.int .i64 k] rfl rfl (cell_one_new _ _ _) (by simp [Value.oneCell']) (Nat.le_trans (show acc.length + 1 ≤ 7 by have := HL.out.2.1; omega) (by decide)) (by have := HL.out.2.1; omega) (by rw [World.size_alloc]; have := HI.out.2.size; have := hLs; omega) ?_; intro v' W2 hown' hgrow hnil; obtain ⟨g', cap', rfl⟩ := ownsRow_succ hown';
                have hmm : Mod (fun k => (Value.slice Av acc.length cv).ownBlock = some k) W1 W2 := ((Mod.refl _ W1).alloc _).grown hgrow (fun k hk => .inl hk.symm);
                have HJ := Lib.hid (And.intro hown' hmm); clear hown' hgrow hnil hmm;
                have cp2 : W2.cell? ⟨w.heap.size + 2, 0, none⟩ = some (.slice Av acc.length cv) := (HJ.out.2.cell (a := ⟨w.heap.size + 2, 0, none⟩) (cell_lt cp) (fun hk => by have h : w3.heap.size ≤ w.heap.size + 2 := (own_cells HI.out.1.row hk).1; omega)).trans cp; have fp2 : W2.frozen? ⟨w.heap.size + 2, 0, none⟩ = false := (HJ.out.2.frozen (a := ⟨w.heap.size + 2, 0, none⟩) (cell_lt cp) (fun hk => by have h : w3.heap.size ≤ w.heap.size + 2 := (own_cells HI.out.1.row hk).1; omega)).trans fp))
          have hvb : ∀ k, (Value.slice Av acc.length cv).ownBlock = some k → w3.heap.size ≤ k := fun k hk => (own_cells HI.out.1.row hk).1
          have hgb : w3.heap.size ≤ g' := (own_cells HJ.out.1 rfl).1
          have mF : Mod (fun k => k = w.heap.size + 2 ∨ (Value.slice Av acc.length cv).ownBlock = some k) W1 (W2.setCell ⟨w.heap.size + 2, 0, none⟩ (.slice (some ⟨g', 0, none⟩) (acc.length + 1) cap')) :=
            (HJ.out.2.mono (fun k hk => .inr hk)).setCell (.inl (.inl rfl)) _
          have mG : Mod (fun k => k = w.heap.size + 2 ∨ (Value.slice Av acc.length cv).ownBlock = some k) W (W2.setCell ⟨w.heap.size + 2, 0, none⟩ (.slice (some ⟨g', 0, none⟩) (acc.length + 1) cap')) :=
            (HI.out.2.mono (fun k (hk : False) => hk.elim)).trans mF (fun k hk => .inl hk)
          have hall : ∀ k, (k = w.heap.size + 2 ∨ (Value.slice Av acc.length cv).ownBlock = some k) → w.heap.size + 2 ≤ k ∧ ¬ (k = b ∨ k = b + 1 ∨ k = b + 2) := by
            rintro k (rfl | hk)
            · exact ⟨by omega, by omega⟩
            · have := hvb k hk; exact ⟨by omega, by omega⟩
          refine ⟨((keeps_of_mod HI.out.2 (fun _ _ h => h.elim)).trans (keeps_of_mod HJ.out.2 (fun k o hk ho => (own_cells HI.out.1.row hk).2 o ho))).trans (KeepsOthers.setCell _ _ _), mG.mono (fun k hk => (hall k hk).2),
            acc ++ [k], _, HL.out.2.2.1, HI.out.1.pb.mod mF (fun k hk => (hall k hk).1), World.cell?_setCell_same' _ _ _ (by rw [cp2]; rfl), by rw [World.frozen?_setCell]; exact fp2, ?_, ?_, HL.out.2.2.2.2, ?_⟩
          · have hrow := own_move (w1 := W2.setCell ⟨w.heap.size + 2, 0, none⟩ (.slice (some ⟨g', 0, none⟩) (acc.length + 1) cap')) HJ.out.1 (fun k hk => Below.heap_setCell _ _ _ _ (by
              have : g' = k := by simpa [Value.ownBlock] using hk
              show k ≠ w.heap.size + 2
              omega))
            have hl1 : (acc ++ [k]).length = acc.length + 1 := by simp
            rw [hl1]
            simpa [icells] using hrow
          · have h1 := HL.out.1; have h2 := HL.out.2.1; simp; omega
          · have h1 := HJ.out.2.size; have h2 := HI.out.2.size; simp only [World.setCell]; simp; omega
    case done =>
      rintro D W hD ⟨acc, v, hacc, hI⟩ hK
      have hend := gather_end HO.out.2 hacc
      have c0 := hI.pb.c0; have f0 := hI.pb.f0; have c1 := hI.pb.c1; have f1 := hI.pb.f1; have cp := hI.cell
      obtain ⟨Av, cv, rfl⟩ := own_slice hI.row
      have hlen6 := hI.len
      have hrd : ∀ W', Mod (fun _ => False) W W' → intsR.rel W' (fun k => (Value.slice Av acc.length cv).ownBlock = some k) [.slice Av acc.length cv] acc := fun W' hW' => by
        refine Rd.mod (reads_ints hI.row hI.rng (by omega)) hW' (fun _ _ => id)
      have hrr := right_p Av acc.length cv acc _ W (hrd W (.refl _ _))
      have HI := Lib.hid (And.intro hI (And.intro hend hrd))
      clear hI hacc hend hrd
      cases hr : rightP acc with
      | false =>
        rw [hr] at hrr
        have HR := Lib.hid (And.intro hr hrr); clear hr hrr
        gi_wp2_with (first
          | (refine ⟨trivial, ?_⟩; gi_at_call 60; refine (callsIn_wide.2 HR.out.2).mono ?_; rintro e W1 ⟨rfl, rfl⟩)
          | (refine ⟨trivial, ?_⟩))
        refine parse2_leave HI.out.1.pb _ _ (.inr ⟨D, rfl, by omega, hK⟩) _ _ rfl rfl _ (fun W' m0 m3 => ⟨⟨fun h => rfl, fun p h => ?_⟩, m0⟩)
        rw [HO.out.1, HI.out.2.1, HR.out.1] at h; simp at h
      | true =>
        rw [hr] at hrr
        have htx := textP_any Av cv acc.length acc _ W (HI.out.2.2 W (.refl _ _)) (by omega) (E0.out.mod0 HI.out.1.pb.m)
        by_cases hpt : pathT acc = l
        · have HT := Lib.hid (And.intro htx (And.intro hpt (And.intro hr hrr))); clear htx hr hrr
          subst hpt
          gi_wp2_with (first
            | (refine ⟨trivial, ?_⟩; gi_at_call 60; refine (callsIn_wide.2 HT.out.2.2.2).mono ?_; rintro e W1 ⟨rfl, rfl⟩)
            | (refine ⟨trivial, ?_⟩; gi_at_call 25; refine (callsIn_wide.2 HT.out.1).mono ?_; rintro e W2 ⟨rfl, hm2⟩; dsimp only [encS]; have HI2 := Lib.hid (And.intro (HI.out.1.mod hm2 (fun _ h => h.elim)) hm2); clear hm2; have d0 := HI2.out.1.pb.c0; have d1 := HI2.out.1.pb.c1; have g0 := HI2.out.1.pb.f0; have g1 := HI2.out.1.pb.f1; have dp := HI2.out.1.cell))
          refine parse2_leave HI2.out.1.pb _ _ (.inr ⟨D, rfl, by omega, ?_⟩) _ _ rfl rfl _ (fun W' m0 m3 => ⟨⟨fun h => ?_, fun p h => ?_⟩, m0⟩)
          · exact (HI2.out.2.block D (lt_of_blk hK) id).trans hK
          · rw [HO.out.1, HI.out.2.1, HT.out.2.2.1] at h; simp at h
          · rw [HO.out.1, HI.out.2.1, HT.out.2.2.1] at h
            simp at h
            subst h
            have hmv := own_move (w1 := W') HI2.out.1.row (fun k hk => m3.block k (own_lt HI2.out.1.row k hk).2 (by
              rintro (h3 | h3)
              · have := (own_cells HI2.out.1.row hk).1; omega
              · have := (own_cells HI2.out.1.row hk).2 _ h3; cases this))
            exact ⟨_, rfl, own_weaken hmv (by omega)⟩
        · have hne : (pathT acc == l) = false := by simpa using hpt
          have HT := Lib.hid (And.intro htx (And.intro hpt (And.intro hr hrr))); clear htx hr hrr
          gi_wp2_with (first
            | (refine ⟨trivial, ?_⟩; gi_at_call 60; refine (callsIn_wide.2 HT.out.2.2.2).mono ?_; rintro e W1 ⟨rfl, rfl⟩)
            | (refine ⟨trivial, ?_⟩; gi_at_call 25; refine (callsIn_wide.2 HT.out.1).mono ?_; rintro e W2 ⟨rfl, hm2⟩; dsimp only [encS]; have HI2 := Lib.hid (And.intro (HI.out.1.mod hm2 (fun _ h => h.elim)) hm2); clear hm2; have d0 := HI2.out.1.pb.c0; have d1 := HI2.out.1.pb.c1; have g0 := HI2.out.1.pb.f0; have g1 := HI2.out.1.pb.f1; have dp := HI2.out.1.cell))
          refine parse2_leave HI2.out.1.pb _ _ (.inr ⟨D, rfl, by omega, ?_⟩) _ _ rfl rfl _ (fun W' m0 m3 => ⟨⟨fun h => rfl, fun p h => ?_⟩, m0⟩)
          · exact (HI2.out.2.block D (lt_of_blk hK) id).trans hK
          · rw [HO.out.1, HI.out.2.1, HT.out.2.2.1] at h
            simp [HT.out.2.1] at h
    case stop =>
      rintro D c pre W hD hpre ⟨rfl, hnone, hpb⟩ hK
      gi_wp2
      refine parse2_out (by have := cell_lt hpb.c1; omega) _ _ (.inr ⟨D, rfl, by omega, hK⟩) _ _ rfl rfl hpb.c0 hpb.c1 _ (fun W' hm => ⟨⟨fun _ => rfl, fun p h => ?_⟩, hpb.m.trans hm (fun k hk => .inr hk.1)⟩)
      rw [HO.out.1, hnone] at h; cases h
end Go.Proofs.YtefedalnafjcfaaGreatDoor

namespace Go.Proofs.YtefedalnafjcfaaGreatDoor
open Go.RowKit Go.Shelf
set_option linter.unusedVariables false
theorem Tryz.infoOb3 : (Tryz.prog.info? 39).map (fun i => (i.zero, i.size)) = some (some (.agg [.int .i64 0, .slice none 0 0, .slice none 0 0, .int .i64 0, .slice none 0 0, .slice none 0 0, .int .i64 0, .slice none 0 0, .int .i64 0, .slice none 0 0].toArray), 10) := by kernel_rfl
theorem kid_any (cs : List Value) (o : Ob) (n : Int) (ok : Nat → Prop) (w : World) (h : ObR.rel w ok cs o) (hr : KidsOk o) (hn : -1048577 ≤ n ∧ n ≤ 1048577) :
    Calls Tryz.prog 33 #[.agg cs.toArray, .int .i64 n] w fun e w' => (∃ (i : Nat) (v : Value), e = .returned (.tuple #[.int .i64 i, v]) ∧ ∀ j x, o.kids[j]? = some x → x.n = n → i = j) ∧ Mod (fun _ => False) w w' := by
  obtain ⟨A1, c1, A2, c2, A4, c4, A5, c5, A7, c7, A9, c9, rfl, h0, h1, h2, h3, h4, h5, h6, h7, h8, h9⟩ := ObR_cells (Rd.bound h)
  have hks := fun W (hW : Mod (fun _ => False) w W) => kidsearch_any A2 _ c2 o.kids n _ W (Rd.mod h2 hW (fun _ _ => id)) (by have := hr.len; omega) hr.asc (fun k hk => by have := hr.each k hk; have := hr.next; omega) hn
  have HK := Lib.hid hks
  clear h h1 h2 h3 h4 h5 h7 h9 h0 h6 h8 hks hn hr
  go_enter Tryz.func33, Tryz.ntmps33
  go_wp2_with (refine wpList_box_new rfl 39 _ rfl [.int .i64 o.kind, .slice A1 o.label.length c1, .slice A2 o.kids.length c2, .int .i64 o.next, .slice A4 o.bytes.length c4, .slice A5 o.own.length c5, .int .i64 o.cats, .slice A7 o.entry.length c7, .int .i64 o.ring, .slice A9 o.maps.length c9] rfl ?_)
  intro g w2 hg hgb hm
  have x2 : w2.cell? ⟨g, 2, none⟩ = some (.slice A2 o.kids.length c2) := by rw [cell_of_blk hgb]; rfl
  have HM := Lib.hid (hm fun _ => False); clear hm hgb hg
  go_wp2_with fail
  refine (HK.out w2 HM.out).mono ?_
  rintro e w3 ⟨⟨i, v, rfl, hi⟩, hm3⟩
  have HE := Lib.hid (And.intro hi hm3); clear hi hm3
  go_wp2_with fail
  go_ret2
  exact ⟨⟨i, v, rfl, HE.out.1⟩, tr0 HM.out HE.out.2⟩
set_option maxRecDepth 100000 in
set_option maxHeartbeats 2000000 in
theorem quotaTab_any (S : Nat → Prop) (g mb : Nat) (L : Tab) (A : Option Addr) (m c : Nat) (p : List Int) (ok : Nat → Prop) (w : World) (hT : TabAt w S g mb L) (hv : ValidT L) (h : intsR.rel w ok [.slice A m c] p) (hp : p.length ≤ 1000000) (E : Env w) :
    Calls Tryz.prog 10 #[.pointer (some ⟨g, 0, none⟩), .slice A m c] w fun e w' => e = .returned (.int .i64 (quotaT L p)) ∧ Mod (fun _ => False) w w' := by
  have hget := getTab_any S g mb L A m c p ok w hT h (by omega) E
  obtain ⟨z, hz⟩ : ∃ z, z = quotaT L p := ⟨_, rfl⟩
  rw [← hz]
  cases hg : getT L p with
  | none =>
    rw [hg] at hget
    dsimp only [Option.isSome, Option.getD] at hget
    have hzz : z = -1 := by rw [hz, quotaT_none hg]
    subst hzz
    have HG := Lib.hid hget; clear hget hz hg hT h hv
    go_enter Tryz.func10, Tryz.ntmps10
    go_wp2_with fail
    refine HG.out.mono ?_
    rintro e w1 ⟨o, A1, c1, A2, c2, A4, c4, A5, c5, A7, c7, A9, c9, rfl, rfl, hcp⟩
    have HC := Lib.hid hcp.mod; clear hcp
    go_wp2_with (refine wpList_box2 rfl rfl 39 _ _ rfl rfl [.int .i64 0, .slice none 0 0, .slice none 0 0, .int .i64 0, .slice none 0 0, .slice none 0 0, .int .i64 0, .slice none 0 0, .int .i64 0, .slice none 0 0] Tryz.infoOb3 rfl _ rfl (obC_one _ _ _ _ _ _ _ _ _ _ _ _ _) (fun _ => rfl) (fun _ => rfl) ?_)
    intro g1 w2 hg1 hb1 hm1
    have HM := Lib.hid (tr0 HC.out (hm1 fun _ => False)); clear hg1 hb1 hm1
    go_wp2_with fail
    go_ret
    exact ⟨rfl, HM.out⟩
  | some o =>
    obtain ⟨rfl, -⟩ := ints_row h
    by_cases hpe : p = []
    · subst hpe
      rw [hg] at hget
      dsimp only [Option.isSome, Option.getD] at hget
      have hzz : z = 1048576 := by rw [hz, quotaT_root hg]
      subst hzz
      have HG := Lib.hid hget; clear hget hz hg hT h hv
      go_enter Tryz.func10, Tryz.ntmps10
      go_wp2_with fail
      refine HG.out.mono ?_
      rintro e w1 ⟨o, A1, c1, A2, c2, A4, c4, A5, c5, A7, c7, A9, c9, rfl, rfl, hcp⟩
      have HC := Lib.hid hcp.mod; clear hcp
      go_wp2_with (refine wpList_box2 rfl rfl 39 _ _ rfl rfl [.int .i64 0, .slice none 0 0, .slice none 0 0, .int .i64 0, .slice none 0 0, .slice none 0 0, .int .i64 0, .slice none 0 0, .int .i64 0, .slice none 0 0] Tryz.infoOb3 rfl _ rfl (obC_one _ _ _ _ _ _ _ _ _ _ _ _ _) (fun _ => rfl) (fun _ => rfl) ?_)
      intro g1 w2 hg1 hb1 hm1
      have HM := Lib.hid (tr0 HC.out (hm1 fun _ => False)); clear hg1 hb1 hm1
      go_wp2_with (first
        | (go_at_call 32; refine (parent_nil A c w2).mono ?_; rintro e w3 ⟨rfl, rfl⟩))
      go_ret
      exact ⟨rfl, HM.out⟩
    · obtain ⟨q, n, rfl⟩ : ∃ q n, p = q ++ [n] := ⟨_, _, snoc_of hpe⟩
      clear hpe
      obtain ⟨cc, hcc, k, hk, hkn⟩ := hv.up _ _ _ hg
      subst hkn
      have hzz : z = k.quota := by rw [hz, quotaT_kid hv hcc hk hg]
      subst hzz
      clear hz
      rw [hg] at hget
      dsimp only [Option.isSome, Option.getD] at hget
      have hro := (hv.right _ _ hcc).kids
      have hkr := hro.each k hk
      obtain ⟨j, hj⟩ := List.getElem?_of_mem hk
      have hlen : (q ++ [k.n]).length = q.length + 1 := by simp
      rw [hlen] at h hget hp ⊢
      have hpar := fun W (hW : Mod (fun _ => False) w W) => parent_snoc A c q k.n _ W (Rd.mod (Rd.bound h) hW (fun _ _ => id)) (by omega)
      have hgt2 := fun W (hW : Mod (fun _ => False) w W) (A' : Option Addr) (c' : Nat) (ok' : Nat → Prop) (hr : intsR.rel W ok' [.slice A' q.length c'] q) => getTab_any _ g mb L A' q.length c' q ok' W (hT.bound.move hW (fun _ _ => id) id id) hr (by omega) (E.mod0 hW)
      simp only [hcc] at hgt2
      dsimp only [Option.isSome, Option.getD] at hgt2
      have HG := Lib.hid (And.intro hget (And.intro hpar (And.intro hgt2 (And.intro hro (And.intro hj hkr))))); clear hget hg hT h hv hpar hgt2 hcc hk hro hj hkr
      go_enter Tryz.func10, Tryz.ntmps10
      go_wp2_with fail
      refine HG.out.1.mono ?_
      rintro e w1 ⟨o1, A1, c1, A2, c2, A4, c4, A5, c5, A7, c7, A9, c9, rfl, rfl, hcp⟩
      have HC := Lib.hid hcp.mod; clear hcp
      go_wp2_with (refine wpList_box2 rfl rfl 39 _ _ rfl rfl [.int .i64 0, .slice none 0 0, .slice none 0 0, .int .i64 0, .slice none 0 0, .slice none 0 0, .int .i64 0, .slice none 0 0, .int .i64 0, .slice none 0 0] Tryz.infoOb3 rfl _ rfl (obC_one _ _ _ _ _ _ _ _ _ _ _ _ _) (fun _ => rfl) (fun _ => rfl) ?_)
      intro g1 w2 hg1 hb1 hm1
      have HM := Lib.hid (tr0 HC.out (hm1 fun _ => False)); clear hg1 hb1 hm1
      go_wp2_with fail
      refine (HG.out.2.1 w2 HM.out).mono ?_
      rintro e w3 ⟨A', c', rfl, hO, hm3⟩
      have HM3 := Lib.hid (And.intro hO (tr0 HM.out hm3)); clear hO hm3
      go_wp2_with fail
      refine (HG.out.2.2.1 w3 HM3.out.2 A' c' _ (HM3.out.1.reads (bytes := 8) (by omega))).mono ?_
      rintro e w4 ⟨o2, A1', c1', A2', c2', A4', c4', A5', c5', A7', c7', A9', c9', rfl, rfl, hcp⟩
      have HC4 := Lib.hid hcp; clear hcp
      go_wp2_with (refine wpList_box2 rfl rfl 39 _ _ rfl rfl [.int .i64 0, .slice none 0 0, .slice none 0 0, .int .i64 0, .slice none 0 0, .slice none 0 0, .int .i64 0, .slice none 0 0, .int .i64 0, .slice none 0 0] Tryz.infoOb3 rfl _ rfl (obC_one _ _ _ _ _ _ _ _ _ _ _ _ _) (fun _ => rfl) (fun _ => rfl) ?_)
      intro g5 w5 hg5 hb5 hm5
      have hobr := Rd.mod (HC4.out.reads (by have := HG.out.2.2.2.1.len; omega)) (hm5 fun _ => False) (fun _ _ => id)
      have hkd := fun W (hW : Mod (fun _ => False) w5 W) => kid_any _ o2 k.n _ W (Rd.mod hobr hW (fun _ _ => id)) HG.out.2.2.2.1 (by have := HG.out.2.2.2.2.2; have := HG.out.2.2.2.1.next; omega)
      have x0 : w5.cell? ⟨g5, 0, none⟩ = some (.int .i64 o2.kind) := by rw [cell_of_blk hb5]; rfl
      have x1 : w5.cell? ⟨g5, 1, none⟩ = some (.slice A1' o2.label.length c1') := by rw [cell_of_blk hb5]; rfl
      have x2 : w5.cell? ⟨g5, 2, none⟩ = some (.slice A2' o2.kids.length c2') := by rw [cell_of_blk hb5]; rfl
      have x3 : w5.cell? ⟨g5, 3, none⟩ = some (.int .i64 o2.next) := by rw [cell_of_blk hb5]; rfl
      have x4 : w5.cell? ⟨g5, 4, none⟩ = some (.slice A4' o2.bytes.length c4') := by rw [cell_of_blk hb5]; rfl
      have x5 : w5.cell? ⟨g5, 5, none⟩ = some (.slice A5' o2.own.length c5') := by rw [cell_of_blk hb5]; rfl
      have x6 : w5.cell? ⟨g5, 6, none⟩ = some (.int .i64 o2.cats) := by rw [cell_of_blk hb5]; rfl
      have x7 : w5.cell? ⟨g5, 7, none⟩ = some (.slice A7' o2.entry.length c7') := by rw [cell_of_blk hb5]; rfl
      have x8 : w5.cell? ⟨g5, 8, none⟩ = some (.int .i64 o2.ring) := by rw [cell_of_blk hb5]; rfl
      have x9 : w5.cell? ⟨g5, 9, none⟩ = some (.slice A9' o2.maps.length c9') := by rw [cell_of_blk hb5]; rfl
      have HN := Lib.hid (And.intro hkd (And.intro hobr (And.intro hb5 (tr0 HM3.out.2 (tr0 HC4.out.mod (hm5 fun _ => False)))))); clear hkd hobr hb5 hm5 hg5
      go_wp2_with fail
      refine (HN.out.1 w5 (.refl _ _)).mono ?_
      rintro e w6 ⟨⟨i, v, rfl, hi⟩, hm6⟩
      obtain rfl := hi j k HG.out.2.2.2.2.1 rfl
      have hb6 := (hm6.block g5 (lt_of_blk HN.out.2.2.1) id).trans HN.out.2.2.1
      have y2 : w6.cell? ⟨g5, 2, none⟩ = some (.slice A2' o2.kids.length c2') := by rw [cell_of_blk hb6]; rfl
      have hks : (Rd.slice 24 KidR).rel w6 _ [.slice A2' o2.kids.length c2'] o2.kids := ObR_kids (Rd.mod HN.out.2.1 hm6 (fun _ _ => id))
      obtain ⟨ad, cs, rfl, -, hr, hc⟩ := Rd.RowOf.at_ (slice_row hks).2.2.2.2.2 HG.out.2.2.2.2.1
      obtain rfl := KidR_cells hr
      have hq : w6.cell? ⟨(ad.add (i * 3)).block, (ad.add (i * 3)).off + 2, none⟩ = some (.int .i64 k.quota) := by rw [← add_field _ _ _ (by omega)]; exact hc 2 _ rfl
      have hil : i < o2.kids.length := (List.getElem?_eq_some_iff.1 HG.out.2.2.2.2.1).1
      have HF := Lib.hid (tr0 HN.out.2.2.2 hm6)
      clear hi hm6 hb6 hks hr hc x0 x1 x2 x3 x4 x5 x6 x7 x8 x9
      go_wp2_with fail
      go_ret
      exact ⟨rfl, HF.out⟩
end Go.Proofs.YtefedalnafjcfaaGreatDoor

