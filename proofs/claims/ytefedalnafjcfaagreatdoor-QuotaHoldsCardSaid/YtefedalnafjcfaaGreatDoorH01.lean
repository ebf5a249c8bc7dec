/- Part of this claim's proof (of texts QtaR, QtaT, joined by program). -/
import Derived.Test.YtefedalnafjcfaaGreatDoorH00
namespace Go.Proofs.YtefedalnafjcfaaGreatDoor
open Go.RowKit Go.Shelf
set_option linter.unusedVariables false
def rA (d : Nat → Bool) (s : Nat → Value) : Value := if d 9 = true then s 69 else if d 2 = true then s 62 else s 60
def xA (d : Nat → Bool) (q : List Int) (n : Int) : List Int := if d 9 = true then q ++ [n] else if d 2 = true then q else []
def rB (d : Nat → Bool) (s : Nat → Value) : Value := if d 19 = true then s 79 else if d 12 = true then s 72 else s 70
def xB (d : Nat → Bool) (q : List Int) (n : Int) : List Int := if d 19 = true then q ++ [n] else if d 12 = true then q else []
def NewsAt (B : Nat) (w : World) (v : Value) (n : Int) : Prop := ∃ b, v = .slice (some ⟨b, 0, none⟩) 1 1 ∧ B ≤ b ∧ b < w.heap.size ∧ w.cell? ⟨b, 0, none⟩ = some (.int .i64 n)
theorem Tryz.info_int15 : (Tryz.prog.info? 3).map (fun i => (i.zero, i.size, i.bytes)) = some (some (.int .i64 0), 1, 8) := by kernel_rfl
abbrev OwnI15 (w : World) (B : Nat) (v : Value) (l : List Int) : Prop := OwnR (Rd.int .i64) 3 w B (fun _ => False) v l
structure C15 where
  w8 : World
  q : List Int
  vq : Value
  n0 : Int
  n1 : Int
  v63 : Value
  v64 : Value
  p0 : Value
  p1 : Value
structure J15 (c : C15) (d : Nat → Bool) (s : Nat → Value) (w : World) : Prop where
  m : Mod (fun _ => False) c.w8 w
  v1 : d 1 = true → s 61 = c.vq
  v11 : d 11 = true → s 71 = c.vq
  v3 : d 3 = true → s 63 = c.v63
  v4 : d 4 = true → s 64 = c.v64
  v5 : d 5 = true → s 65 = c.p0
  v6 : d 6 = true → s 66 = c.p0
  v7 : d 7 = true → s 67 = .int .i64 c.n0
  v13 : d 13 = true → s 73 = c.v63
  v14 : d 14 = true → s 74 = c.v64
  v15 : d 15 = true → s 75 = c.p1
  v16 : d 16 = true → s 76 = c.p1
  v17 : d 17 = true → s 77 = .int .i64 c.n1
  a : d 0 = true → OwnI15 w c.w8.heap.size (rA d s) (xA d c.q c.n0)
  b : d 10 = true → OwnI15 w c.w8.heap.size (rB d s) (xB d c.q c.n1)
  n8 : d 8 = true → d 9 = false → NewsAt c.w8.heap.size w (s 68) c.n0
  n18 : d 18 = true → d 19 = false → NewsAt c.w8.heap.size w (s 78) c.n1
  ab : d 0 = true → d 10 = true → ∀ k, (rA d s).ownBlock = some k → ¬ (rB d s).ownBlock = some k
  an : d 0 = true → d 9 = false → d 18 = true → d 19 = false → ∀ k, (rA d s).ownBlock = some k → ¬ (s 78).ownBlock = some k
  an8 : d 0 = true → d 9 = false → d 8 = true → ∀ k, (rA d s).ownBlock = some k → ¬ (s 68).ownBlock = some k
  bn : d 10 = true → d 19 = false → d 18 = true → ∀ k, (rB d s).ownBlock = some k → ¬ (s 78).ownBlock = some k
  c20 : d 20 = true → s 11 = s 69
  c21 : d 21 = true → s 12 = s 79
theorem J15.s1 {c : C15} {d : Nat → Bool} {s : Nat → Value} {w : World} (h : J15 c d s w) : J15 c (upd d 1) (upv s 61 c.vq) w :=
  ⟨h.m, fun _ => rfl, h.v11, h.v3, h.v4, h.v5, h.v6, h.v7, h.v13, h.v14, h.v15, h.v16, h.v17, h.a, h.b, h.n8, h.n18, h.ab, h.an, h.an8, h.bn, h.c20, h.c21⟩
theorem J15.s11 {c : C15} {d : Nat → Bool} {s : Nat → Value} {w : World} (h : J15 c d s w) : J15 c (upd d 11) (upv s 71 c.vq) w :=
  ⟨h.m, h.v1, fun _ => rfl, h.v3, h.v4, h.v5, h.v6, h.v7, h.v13, h.v14, h.v15, h.v16, h.v17, h.a, h.b, h.n8, h.n18, h.ab, h.an, h.an8, h.bn, h.c20, h.c21⟩
theorem J15.s3 {c : C15} {d : Nat → Bool} {s : Nat → Value} {w : World} (h : J15 c d s w) : J15 c (upd d 3) (upv s 63 c.v63) w :=
  ⟨h.m, h.v1, h.v11, fun _ => rfl, h.v4, h.v5, h.v6, h.v7, h.v13, h.v14, h.v15, h.v16, h.v17, h.a, h.b, h.n8, h.n18, h.ab, h.an, h.an8, h.bn, h.c20, h.c21⟩
theorem J15.s4 {c : C15} {d : Nat → Bool} {s : Nat → Value} {w : World} (h : J15 c d s w) : J15 c (upd d 4) (upv s 64 c.v64) w :=
  ⟨h.m, h.v1, h.v11, h.v3, fun _ => rfl, h.v5, h.v6, h.v7, h.v13, h.v14, h.v15, h.v16, h.v17, h.a, h.b, h.n8, h.n18, h.ab, h.an, h.an8, h.bn, h.c20, h.c21⟩
theorem J15.s5 {c : C15} {d : Nat → Bool} {s : Nat → Value} {w : World} (h : J15 c d s w) : J15 c (upd d 5) (upv s 65 c.p0) w :=
  ⟨h.m, h.v1, h.v11, h.v3, h.v4, fun _ => rfl, h.v6, h.v7, h.v13, h.v14, h.v15, h.v16, h.v17, h.a, h.b, h.n8, h.n18, h.ab, h.an, h.an8, h.bn, h.c20, h.c21⟩
theorem J15.s6 {c : C15} {d : Nat → Bool} {s : Nat → Value} {w : World} (h : J15 c d s w) : J15 c (upd d 6) (upv s 66 c.p0) w :=
  ⟨h.m, h.v1, h.v11, h.v3, h.v4, h.v5, fun _ => rfl, h.v7, h.v13, h.v14, h.v15, h.v16, h.v17, h.a, h.b, h.n8, h.n18, h.ab, h.an, h.an8, h.bn, h.c20, h.c21⟩
theorem J15.s7 {c : C15} {d : Nat → Bool} {s : Nat → Value} {w : World} (h : J15 c d s w) : J15 c (upd d 7) (upv s 67 (.int .i64 c.n0)) w :=
  ⟨h.m, h.v1, h.v11, h.v3, h.v4, h.v5, h.v6, fun _ => rfl, h.v13, h.v14, h.v15, h.v16, h.v17, h.a, h.b, h.n8, h.n18, h.ab, h.an, h.an8, h.bn, h.c20, h.c21⟩
theorem J15.s13 {c : C15} {d : Nat → Bool} {s : Nat → Value} {w : World} (h : J15 c d s w) : J15 c (upd d 13) (upv s 73 c.v63) w :=
  ⟨h.m, h.v1, h.v11, h.v3, h.v4, h.v5, h.v6, h.v7, fun _ => rfl, h.v14, h.v15, h.v16, h.v17, h.a, h.b, h.n8, h.n18, h.ab, h.an, h.an8, h.bn, h.c20, h.c21⟩
theorem J15.s14 {c : C15} {d : Nat → Bool} {s : Nat → Value} {w : World} (h : J15 c d s w) : J15 c (upd d 14) (upv s 74 c.v64) w :=
  ⟨h.m, h.v1, h.v11, h.v3, h.v4, h.v5, h.v6, h.v7, h.v13, fun _ => rfl, h.v15, h.v16, h.v17, h.a, h.b, h.n8, h.n18, h.ab, h.an, h.an8, h.bn, h.c20, h.c21⟩
theorem J15.s15 {c : C15} {d : Nat → Bool} {s : Nat → Value} {w : World} (h : J15 c d s w) : J15 c (upd d 15) (upv s 75 c.p1) w :=
  ⟨h.m, h.v1, h.v11, h.v3, h.v4, h.v5, h.v6, h.v7, h.v13, h.v14, fun _ => rfl, h.v16, h.v17, h.a, h.b, h.n8, h.n18, h.ab, h.an, h.an8, h.bn, h.c20, h.c21⟩
theorem J15.s16 {c : C15} {d : Nat → Bool} {s : Nat → Value} {w : World} (h : J15 c d s w) : J15 c (upd d 16) (upv s 76 c.p1) w :=
  ⟨h.m, h.v1, h.v11, h.v3, h.v4, h.v5, h.v6, h.v7, h.v13, h.v14, h.v15, fun _ => rfl, h.v17, h.a, h.b, h.n8, h.n18, h.ab, h.an, h.an8, h.bn, h.c20, h.c21⟩
theorem J15.s17 {c : C15} {d : Nat → Bool} {s : Nat → Value} {w : World} (h : J15 c d s w) : J15 c (upd d 17) (upv s 77 (.int .i64 c.n1)) w :=
  ⟨h.m, h.v1, h.v11, h.v3, h.v4, h.v5, h.v6, h.v7, h.v13, h.v14, h.v15, h.v16, fun _ => rfl, h.a, h.b, h.n8, h.n18, h.ab, h.an, h.an8, h.bn, h.c20, h.c21⟩
theorem OwnI15.grow {w w' : World} {B : Nat} {v : Value} {l : List Int} (h : OwnI15 w B v l) (hm : Mod (fun _ => False) w w') : OwnI15 w' B v l := h.mod hm (fun _ _ => id) (fun _ h => h.elim)
theorem NewsAt.grow {B : Nat} {w w' : World} {v : Value} {n : Int} (h : NewsAt B w v n) (hm : Mod (fun _ => False) w w') : NewsAt B w' v n := by
  obtain ⟨b, h1, h2, h3, h4⟩ := h
  exact ⟨b, h1, h2, by have := hm.size; omega, (hm.cell (a := ⟨b, 0, none⟩) h3 id).trans h4⟩
theorem J15.grow {c : C15} {d : Nat → Bool} {s : Nat → Value} {w w' : World} (h : J15 c d s w) (hm : Mod (fun _ => False) w w') : J15 c d s w' :=
  ⟨tr0 h.m hm, h.v1, h.v11, h.v3, h.v4, h.v5, h.v6, h.v7, h.v13, h.v14, h.v15, h.v16, h.v17, fun e => (h.a e).grow hm, fun e => (h.b e).grow hm, fun e e2 => (h.n8 e e2).grow hm, fun e e2 => (h.n18 e e2).grow hm, h.ab, h.an, h.an8, h.bn, h.c20, h.c21⟩
theorem empty_own (w : World) (B : Nat) (hB : B ≤ w.heap.size) : OwnI15 (w.alloc (.cells #[] 3)) B (.slice (some ⟨w.heap.size, 0, none⟩) 0 0) [] :=
  ⟨[], ⟨rfl, .inr ⟨w.heap.size, 0, #[], rfl, hB, heap_alloc_new w _, Nat.le_refl _, by decide, rfl, rfl⟩⟩, fun j x h => by simp at h⟩
theorem own_ltI {w : World} {B : Nat} {v : Value} {l : List Int} (h : OwnI15 w B v l) {k : Nat} (hk : v.ownBlock = some k) : B ≤ k ∧ k < w.heap.size := by
  obtain ⟨_, z, _⟩ := h; exact own_lt z k hk
theorem news_ltI {B : Nat} {w : World} {v : Value} {n : Int} (h : NewsAt B w v n) {k : Nat} (hk : v.ownBlock = some k) : k < w.heap.size := by
  obtain ⟨b, rfl, h2, h3, h4⟩ := h
  have : b = k := by simpa [Value.ownBlock] using hk
  omega
theorem J15.s0 {c : C15} {d : Nat → Bool} {s : Nat → Value} {w : World} (h : J15 c d s w) (h2 : d 2 = false) (h9 : d 9 = false) : J15 c (upd d 0) (upv s 60 (.slice (some ⟨w.heap.size, 0, none⟩) 0 0)) (w.alloc (.cells #[] 3)) := by
  have g := h.grow ((Mod.refl (fun _ => False) w).alloc (.cells #[] 3))
  have e1 : rA (upd d 0) (upv s 60 (.slice (some ⟨w.heap.size, 0, none⟩) 0 0)) = (.slice (some ⟨w.heap.size, 0, none⟩) 0 0) := by unfold rA; rw [show upd d 0 9 = d 9 from rfl, show upd d 0 2 = d 2 from rfl, h9, h2]; rfl
  have e2 : xA (upd d 0) c.q c.n0 = [] := by unfold xA; rw [show upd d 0 9 = d 9 from rfl, show upd d 0 2 = d 2 from rfl, h9, h2]; rfl
  have eb : ∀ k, (rA (upd d 0) (upv s 60 (.slice (some ⟨w.heap.size, 0, none⟩) 0 0))).ownBlock = some k → k = w.heap.size := fun k hk => by rw [e1] at hk; simpa [Value.ownBlock] using hk.symm
  refine ⟨g.m, g.v1, g.v11, g.v3, g.v4, g.v5, g.v6, g.v7, g.v13, g.v14, g.v15, g.v16, g.v17, fun _ => by rw [e1, e2]; exact empty_own w _ h.m.size, g.b, g.n8, g.n18, fun _ e k hk hb => by have := eb k hk; have := (own_ltI (h.b e) hb).2; omega, fun _ _ e e3 k hk hb => by have := eb k hk; have := news_ltI (h.n18 e e3) hb; omega, fun _ e9 e k hk hb => by have := eb k hk; have := news_ltI (h.n8 e h9) hb; omega, g.bn, g.c20, g.c21⟩
theorem J15.s10 {c : C15} {d : Nat → Bool} {s : Nat → Value} {w : World} (h : J15 c d s w) (h2 : d 12 = false) (h9 : d 19 = false) : J15 c (upd d 10) (upv s 70 (.slice (some ⟨w.heap.size, 0, none⟩) 0 0)) (w.alloc (.cells #[] 3)) := by
  have g := h.grow ((Mod.refl (fun _ => False) w).alloc (.cells #[] 3))
  have e1 : rB (upd d 10) (upv s 70 (.slice (some ⟨w.heap.size, 0, none⟩) 0 0)) = (.slice (some ⟨w.heap.size, 0, none⟩) 0 0) := by unfold rB; rw [show upd d 10 19 = d 19 from rfl, show upd d 10 12 = d 12 from rfl, h9, h2]; rfl
  have e2 : xB (upd d 10) c.q c.n1 = [] := by unfold xB; rw [show upd d 10 19 = d 19 from rfl, show upd d 10 12 = d 12 from rfl, h9, h2]; rfl
  have eb : ∀ k, (rB (upd d 10) (upv s 70 (.slice (some ⟨w.heap.size, 0, none⟩) 0 0))).ownBlock = some k → k = w.heap.size := fun k hk => by rw [e1] at hk; simpa [Value.ownBlock] using hk.symm
  refine ⟨g.m, g.v1, g.v11, g.v3, g.v4, g.v5, g.v6, g.v7, g.v13, g.v14, g.v15, g.v16, g.v17, g.a, fun _ => by rw [e1, e2]; exact empty_own w _ h.m.size, g.n8, g.n18, fun e _ k hk hb => by have := eb k hb; have := (own_ltI (h.a e) hk).2; omega, g.an, g.an8, fun _ _ e k hk hb => by have := eb k hk; have := news_ltI (h.n18 e h9) hb; omega, g.c20, g.c21⟩
theorem J15.s8 {c : C15} {d : Nat → Bool} {s : Nat → Value} {w : World} (h : J15 c d s w) : J15 c (upd d 8) (upv s 68 (.slice (some ⟨w.heap.size, 0, none⟩) 1 1)) (w.alloc (.cells #[.int .i64 c.n0] 3)) := by
  have g := h.grow ((Mod.refl (fun _ => False) w).alloc (.cells #[.int .i64 c.n0] 3))
  have hn : NewsAt c.w8.heap.size (w.alloc (.cells #[.int .i64 c.n0] 3)) (.slice (some ⟨w.heap.size, 0, none⟩) 1 1) c.n0 := ⟨w.heap.size, rfl, h.m.size, by simp, by rw [cell_of_blk (heap_alloc_new w _)]; rfl⟩
  have en : ∀ k, (Value.slice (some ⟨w.heap.size, 0, none⟩) 1 1).ownBlock = some k → k = w.heap.size := fun k hk => by simpa [Value.ownBlock] using hk.symm
  refine ⟨g.m, g.v1, g.v11, g.v3, g.v4, g.v5, g.v6, g.v7, g.v13, g.v14, g.v15, g.v16, g.v17, g.a, g.b, fun _ _ => hn, g.n18, g.ab, g.an, fun e e9 _ k hk hb => by have := en k hb; have := (own_ltI (h.a e) hk).2; omega, g.bn, g.c20, g.c21⟩
theorem J15.s18 {c : C15} {d : Nat → Bool} {s : Nat → Value} {w : World} (h : J15 c d s w) : J15 c (upd d 18) (upv s 78 (.slice (some ⟨w.heap.size, 0, none⟩) 1 1)) (w.alloc (.cells #[.int .i64 c.n1] 3)) := by
  have g := h.grow ((Mod.refl (fun _ => False) w).alloc (.cells #[.int .i64 c.n1] 3))
  have hn : NewsAt c.w8.heap.size (w.alloc (.cells #[.int .i64 c.n1] 3)) (.slice (some ⟨w.heap.size, 0, none⟩) 1 1) c.n1 := ⟨w.heap.size, rfl, h.m.size, by simp, by rw [cell_of_blk (heap_alloc_new w _)]; rfl⟩
  have en : ∀ k, (Value.slice (some ⟨w.heap.size, 0, none⟩) 1 1).ownBlock = some k → k = w.heap.size := fun k hk => by simpa [Value.ownBlock] using hk.symm
  refine ⟨g.m, g.v1, g.v11, g.v3, g.v4, g.v5, g.v6, g.v7, g.v13, g.v14, g.v15, g.v16, g.v17, g.a, g.b, g.n8, fun _ _ => hn, g.ab, fun e e9 _ _ k hk hb => by have := en k hb; have := (own_ltI (h.a e) hk).2; omega, g.an8, fun e _ _ k hk hb => by have := en k hb; have := (own_ltI (h.b e) hk).2; omega, g.c20, g.c21⟩
theorem newor_lt {w : World} {v v' : Value} (hn : NewOr w v v') {k : Nat} (hk : v'.ownBlock = some k) : v.ownBlock = some k ∨ w.heap.size ≤ k := by
  rcases hn with hn | ⟨b, hn, hb⟩
  · exact .inl (by rw [← hn]; exact hk)
  · rw [hn] at hk; cases hk; exact .inr hb
theorem NewsAt.mod {B : Nat} {w w' : World} {T : Nat → Prop} {v : Value} {n : Int} (h : NewsAt B w v n) (hm : Mod T w w') (hT : ∀ k, v.ownBlock = some k → ¬ T k) : NewsAt B w' v n := by
  obtain ⟨b, rfl, h2, h3, h4⟩ := h
  exact ⟨b, rfl, h2, by have := hm.size; omega, (hm.cell (a := ⟨b, 0, none⟩) h3 (hT b rfl)).trans h4⟩
theorem J15.s2 {c : C15} {d : Nat → Bool} {s : Nat → Value} {w w' : World} {v : Value} (h : J15 c d s w) (d0 : d 0 = true) (d2 : d 2 = false) (d9 : d 9 = false) (hO : OwnI15 w' c.w8.heap.size v c.q) (hm : Mod (fun k => (s 60).ownBlock = some k) w w') (hn : NewOr w (s 60) v) : J15 c (upd d 2) (upv s 62 v) w' := by
  have e0 : rA d s = s 60 := by unfold rA; rw [d9, d2]; rfl
  have e1 : rA (upd d 2) (upv s 62 v) = v := by unfold rA; rw [show upd d 2 9 = d 9 from rfl, d9]; rfl
  have e2 : xA (upd d 2) c.q c.n0 = c.q := by unfold xA; rw [show upd d 2 9 = d 9 from rfl, d9]; rfl
  have ha := h.a d0
  rw [e0] at ha
  have hab := h.ab d0
  have han := h.an d0 d9
  have han8 := h.an8 d0 d9
  rw [e0] at hab han han8
  exact ⟨h.m.trans hm (fun k hk => .inr (own_ltI ha hk).1), h.v1, h.v11, h.v3, h.v4, h.v5, h.v6, h.v7, h.v13, h.v14, h.v15, h.v16, h.v17, fun _ => by rw [e1, e2]; exact hO,
    fun e => (h.b e).mod hm (fun k hk hk2 => hab e k hk2 hk) (fun _ h => h.elim), fun e e9 => (h.n8 e e9).mod hm (fun k hk hk2 => han8 e k hk2 hk), fun e e9 => (h.n18 e e9).mod hm (fun k hk hk2 => han e e9 k hk2 hk),
    fun _ e k hk hb => by
      rw [e1] at hk
      rcases newor_lt hn hk with hk | hk
      · exact hab e k hk hb
      · have := (own_ltI (h.b e) hb).2; omega,
    fun _ _ e e9 k hk hb => by
      rw [e1] at hk
      rcases newor_lt hn hk with hk | hk
      · exact han e e9 k hk hb
      · have := news_ltI (h.n18 e e9) hb; omega,
    fun _ _ e k hk hb => by
      rw [e1] at hk
      rcases newor_lt hn hk with hk | hk
      · exact han8 e k hk hb
      · have := news_ltI (h.n8 e d9) hb; omega,
    h.bn, h.c20, h.c21⟩
theorem J15.s9 {c : C15} {d : Nat → Bool} {s : Nat → Value} {w w' : World} {v : Value} (h : J15 c d s w) (d0 : d 0 = true) (d2 : d 2 = true) (d9 : d 9 = false) (d20 : d 20 = false) (hO : OwnI15 w' c.w8.heap.size v (c.q ++ [c.n0])) (hm : Mod (fun k => (s 62).ownBlock = some k) w w') (hn : NewOr w (s 62) v) : J15 c (upd d 9) (upv s 69 v) w' := by
  have e0 : rA d s = s 62 := by unfold rA; rw [d9, d2]; rfl
  have e1 : rA (upd d 9) (upv s 69 v) = v := rfl
  have e2 : xA (upd d 9) c.q c.n0 = c.q ++ [c.n0] := rfl
  have ha := h.a d0
  rw [e0] at ha
  have hab := h.ab d0
  have han := h.an d0 d9
  rw [e0] at hab han
  exact ⟨h.m.trans hm (fun k hk => .inr (own_ltI ha hk).1), h.v1, h.v11, h.v3, h.v4, h.v5, h.v6, h.v7, h.v13, h.v14, h.v15, h.v16, h.v17, fun _ => hO,
    fun e => (h.b e).mod hm (fun k hk hk2 => hab e k hk2 hk) (fun _ h => h.elim), fun _ e => (by cases e), fun e e9 => (h.n18 e e9).mod hm (fun k hk hk2 => han e e9 k hk2 hk),
    fun _ e k hk hb => by
      rw [e1] at hk
      rcases newor_lt hn hk with hk | hk
      · exact hab e k hk hb
      · have := (own_ltI (h.b e) hb).2; omega,
    fun _ e => (by cases e), fun _ e => (by cases e), h.bn, fun e => (by rw [show upd d 9 20 = d 20 from rfl, d20] at e; cases e), h.c21⟩
theorem J15.s12 {c : C15} {d : Nat → Bool} {s : Nat → Value} {w w' : World} {v : Value} (h : J15 c d s w) (d0 : d 10 = true) (d2 : d 12 = false) (d9 : d 19 = false) (da : d 9 = true) (hO : OwnI15 w' c.w8.heap.size v c.q) (hm : Mod (fun k => (s 70).ownBlock = some k) w w') (hn : NewOr w (s 70) v) : J15 c (upd d 12) (upv s 72 v) w' := by
  have e0 : rB d s = s 70 := by unfold rB; rw [d9, d2]; rfl
  have e1 : rB (upd d 12) (upv s 72 v) = v := by unfold rB; rw [show upd d 12 19 = d 19 from rfl, d9]; rfl
  have e2 : xB (upd d 12) c.q c.n1 = c.q := by unfold xB; rw [show upd d 12 19 = d 19 from rfl, d9]; rfl
  have hb := h.b d0
  rw [e0] at hb
  have hab := fun e => h.ab e d0
  have hbn := h.bn d0 d9
  rw [e0] at hab hbn
  have no : ∀ {p : Prop}, upd d 12 9 = false → p := fun e => by rw [show upd d 12 9 = d 9 from rfl, da] at e; cases e
  exact ⟨h.m.trans hm (fun k hk => .inr (own_ltI hb hk).1), h.v1, h.v11, h.v3, h.v4, h.v5, h.v6, h.v7, h.v13, h.v14, h.v15, h.v16, h.v17,
    fun e => (h.a e).mod hm (fun k hk hk2 => hab e k hk hk2) (fun _ h => h.elim), fun _ => by rw [e1, e2]; exact hO, fun _ e => no e, fun e e9 => (h.n18 e e9).mod hm (fun k hk hk2 => hbn e k hk2 hk),
    fun e _ k hk hb => by
      rw [e1] at hb
      rcases newor_lt hn hb with hb | hb
      · exact hab e k hk hb
      · have := (own_ltI (h.a e) hk).2; omega,
    fun _ e => no e, fun _ e => no e,
    fun _ e9 e k hk hb2 => by
      rw [e1] at hk
      rcases newor_lt hn hk with hk | hk
      · exact hbn e k hk hb2
      · have := news_ltI (h.n18 e d9) hb2; omega,
    h.c20, h.c21⟩
theorem J15.s19 {c : C15} {d : Nat → Bool} {s : Nat → Value} {w w' : World} {v : Value} (h : J15 c d s w) (d0 : d 10 = true) (d2 : d 12 = true) (d9 : d 19 = false) (da : d 9 = true) (d21 : d 21 = false) (hO : OwnI15 w' c.w8.heap.size v (c.q ++ [c.n1])) (hm : Mod (fun k => (s 72).ownBlock = some k) w w') (hn : NewOr w (s 72) v) : J15 c (upd d 19) (upv s 79 v) w' := by
  have e0 : rB d s = s 72 := by unfold rB; rw [d9, d2]; rfl
  have e1 : rB (upd d 19) (upv s 79 v) = v := rfl
  have hb := h.b d0
  rw [e0] at hb
  have hab := fun e => h.ab e d0
  rw [e0] at hab
  have no : ∀ {p : Prop}, upd d 19 9 = false → p := fun e => by rw [show upd d 19 9 = d 9 from rfl, da] at e; cases e
  exact ⟨h.m.trans hm (fun k hk => .inr (own_ltI hb hk).1), h.v1, h.v11, h.v3, h.v4, h.v5, h.v6, h.v7, h.v13, h.v14, h.v15, h.v16, h.v17,
    fun e => (h.a e).mod hm (fun k hk hk2 => hab e k hk hk2) (fun _ h => h.elim), fun _ => hO, fun _ e => no e, fun _ e => (by cases e),
    fun e _ k hk hb => by
      rw [e1] at hb
      rcases newor_lt hn hb with hb | hb
      · exact hab e k hk hb
      · have := (own_ltI (h.a e) hk).2; omega,
    fun _ e => no e, fun _ e => no e, fun _ e => (by cases e), h.c20, fun e => (by rw [show upd d 19 21 = d 21 from rfl, d21] at e; cases e)⟩
theorem J15.s20 {c : C15} {d : Nat → Bool} {s : Nat → Value} {w : World} (h : J15 c d s w) : J15 c (upd d 20) (upv s 11 (s 69)) w :=
  ⟨h.m, h.v1, h.v11, h.v3, h.v4, h.v5, h.v6, h.v7, h.v13, h.v14, h.v15, h.v16, h.v17, h.a, h.b, h.n8, h.n18, h.ab, h.an, h.an8, h.bn, fun _ => rfl, h.c21⟩
theorem J15.s21 {c : C15} {d : Nat → Bool} {s : Nat → Value} {w : World} (h : J15 c d s w) : J15 c (upd d 21) (upv s 12 (s 79)) w :=
  ⟨h.m, h.v1, h.v11, h.v3, h.v4, h.v5, h.v6, h.v7, h.v13, h.v14, h.v15, h.v16, h.v17, h.a, h.b, h.n8, h.n18, h.ab, h.an, h.an8, h.bn, h.c20, fun _ => rfl⟩
theorem news_rd {B : Nat} {w : World} {v : Value} {n : Int} (h : NewsAt B w v n) (hn : Rd.inR .i64 n) : ∃ A, v = .slice A 1 1 ∧ intsR.rel w (fun _ => True) [.slice A ([n] : List Int).length 1] [n] := by
  obtain ⟨b, rfl, h2, h3, h4⟩ := h
  refine ⟨_, rfl, ⟨_, 1, rfl, Nat.le_refl _, by decide, by show 1 * 8 ≤ _; decide, (fun h => by cases h), .inr ⟨_, rfl, trivial, fun j x hj => ?_⟩⟩⟩
  match j, hj with
  | 0, hj =>
    cases hj
    refine ⟨[.int .i64 n], ⟨rfl, hn⟩, fun i u hu => ?_⟩
    have hi : i = 0 := by have := (List.getElem?_eq_some_iff.1 hu).1; simpa using this
    subst hi
    cases hu
    exact h4
  | j + 1, hj => cases hj
theorem step_append_ints {ops : Array Oper} {o : Oper} {a : Act} {w : World} {K : Act → World → Prop} {Q : Exit → Act → World → Prop} {E : Prop} {B : Nat} {v : Value} {xs ys : List Int} {A0 : Option Addr} {c0 : Nat} {ok : Nat → Prop} (hgd : o.guard = none) (s x : Operand)
    (ho : o.op = .call { callee := .builtin .append, args := #[s, x], argTypes := #[30, 30] }) (hs : a.eval s = v) (hx : a.eval x = .slice A0 ys.length c0) (HO : OwnI15 w B v xs) (hy : intsR.rel w ok [.slice A0 ys.length c0] ys) (hB : B ≤ w.heap.size) (hl : xs.length + ys.length ≤ 1000000)
    (h : ∀ v' w1, OwnI15 w1 B v' (xs ++ ys) → Mod (fun k => v.ownBlock = some k) w w1 → NewOr w v v' → K (a.put o.dst v') w1) : if Region.wanted o (yielded ops a.tmps) = true then Oper.wp Tryz.prog o a w K Q else E := by
  obtain ⟨i0, hi, hzz⟩ := Option.map_eq_some_iff.1 Tryz.info_int15
  simp only [Prod.mk.injEq] at hzz
  obtain ⟨hz0, hz1, hz2⟩ := hzz
  obtain ⟨cells, hown, hread⟩ := HO
  cases A0 with
  | none =>
    obtain ⟨A', c', hv, -, -, -, hc, hr⟩ := hy
    simp only [List.cons.injEq, Value.slice.injEq, and_true] at hv
    obtain ⟨rfl, -, rfl⟩ := hv
    have hy0 : ys = [] := by
      rcases hr with h | ⟨ad, hA, _⟩
      · exact h
      · cases hA
    subst hy0
    obtain rfl := hc rfl
    have hrun := run_append_owned_none (P := Tryz.prog) (w := w) B 30 o.type 3 i0 1 Tryz.underlying30 hi v xs.length cells hown
    have hw : Region.wanted o (yielded ops a.tmps) = true := by simp [Region.wanted, hgd]
    rw [if_pos hw]
    unfold Oper.wp
    have hx' : a.eval x = .slice none 0 0 := hx
    simp [execOp, ho, resolve, invoke, builtin, hs, hx', hrun, Result.andThen]
    have := h v w ⟨cells, by rw [List.append_nil]; exact hown, by rw [List.append_nil]; exact hread⟩ (Mod.refl _ _) (.inl rfl)
    exact this
  | some ad =>
    have hrow : ∀ j z, ys[j]? = some z → ∃ c, (Rd.int .i64).rel w (fun _ => True) c z ∧ ∀ i u, c[i]? = some u → w.cell? (ad.add (0 + (j * (Rd.int .i64).sz + i))) = some u := by
      obtain ⟨A', c', hv, -, -, -, hc, hr⟩ := hy
      simp only [List.cons.injEq, Value.slice.injEq, and_true] at hv
      obtain ⟨rfl, -, -⟩ := hv
      intro j z hj
      rcases hr with h | ⟨ad', hA, -, h2⟩
      · rw [h] at hj; simp at hj
      · cases hA
        obtain ⟨cc, h3, h4⟩ := h2 j z hj
        exact ⟨cc, h3, fun i u hu => by rw [Nat.zero_add]; exact h4 i u hu⟩
    obtain ⟨cs, hcl, hcell, hone, hrel⟩ := Rd.RowOf.flat (R := Rd.int .i64) (w := w) (ok := fun _ => True) (ad := ad) ys 0 hrow
    refine step_append_own_at hgd s x 30 ho B 3 i0 (.int .i64 0) 1 8 Tryz.underlying30 hi hz0 hz1 hz2 rfl (by decide) v xs.length cells hs hown ad ys.length c0 cs hx hcl (fun j u hj => by simpa using hcell j u hj) hone (by simp only [maxLen]; omega) (by omega) hB ?_
    intro v1 w1 hown1 hg hat
    obtain ⟨A1, c1, rfl⟩ := own_slice hown1
    have hn : NewOr w v (.slice A1 (xs.length + ys.length) c1) := by
      rcases hat with hat | hat
      · exact .inl hat
      · exact .inr ⟨_, hat, Nat.le_refl _⟩
    refine h _ w1 ?_ ((Mod.refl (fun k => v.ownBlock = some k) w).grown hg (fun k hk => .inl hk.symm)) hn
    refine ⟨cells ++ cs, by show w1.ownsRow B 3 1 _ _ _; simpa using hown1, fun j y hj => ?_⟩
    have sz : (Rd.int .i64).sz = 1 := rfl
    rw [sz]
    have hcl' : cells.length = xs.length * 1 := hown.1
    by_cases hj' : j < xs.length
    · rw [List.getElem?_append_left hj'] at hj
      rw [drop_take_left hcl' hj']
      exact hread j y hj
    · rw [List.getElem?_append_right (by omega)] at hj
      rw [drop_take_right hcl' (by omega)]
      exact hrel _ y hj
end Go.Proofs.YtefedalnafjcfaaGreatDoor

namespace Go.Proofs.YtefedalnafjcfaaGreatDoor
open Go.RowKit Go.Shelf
set_option linter.unusedVariables false
section
variable {ρ : Operand → Value} {w : World} {o : Oper}
theorem run15_move {x : Operand} {v : Value} (ho : o.op = .move x) (h : ρ x = v) : (execOp ρ o).run Tryz.prog w = .ok (.value v) w := by
  unfold execOp; simp [ho, go_sem, h]
theorem run15_assign {x : Operand} {v : Value} (ho : o.op = .assign x) (h : ρ x = v) : (execOp ρ o).run Tryz.prog w = .ok (.value v) w := by
  unfold execOp; simp [ho, go_sem, h]
theorem run15_fa2 {x : Operand} {g : Nat} (ho : o.op = .fieldAddr 39 x 2) (h : ρ x = .pointer (some ⟨g, 0, none⟩)) : (execOp ρ o).run Tryz.prog w = .ok (.value (.pointer (some ⟨g, 2, none⟩))) w := by
  unfold execOp; simp [ho, go_sem, h]
theorem run15_ldk {x : Operand} {ad : Addr} {v : Value} (ho : o.op = .load 35 x) (h : ρ x = .pointer (some ad)) (hc : w.cell? ad = some v) : (execOp ρ o).run Tryz.prog w = .ok (.value v) w := by
  unfold execOp; simp [ho, go_sem, h, hc]
theorem run15_ldi {x : Operand} {ad : Addr} {v : Value} (ho : o.op = .load 3 x) (h : ρ x = .pointer (some ad)) (hc : w.cell? ad = some v) : (execOp ρ o).run Tryz.prog w = .ok (.value v) w := by
  unfold execOp; simp [ho, go_sem, h, hc]
theorem run15_ix0 {x : Operand} {ad : Addr} {n c : Nat} (ho : o.op = .indexAddr 35 x (.const (.int .i64 0))) (hk : ρ (.const (.int .i64 0)) = .int .i64 0) (h : ρ x = .slice (some ad) n c) (hn : 2 ≤ n) : (execOp ρ o).run Tryz.prog w = .ok (.value (.pointer (some ad))) w := by
  have h1 : (0 : Int) < (n : Int) := by omega
  have h2 : 0 < n := by omega
  unfold execOp; simp [ho, go_sem, h, hk, h1, h2]
theorem run15_ix1 {x : Operand} {ad : Addr} {n c : Nat} (ho : o.op = .indexAddr 35 x (.const (.int .i64 1))) (hk : ρ (.const (.int .i64 1)) = .int .i64 1) (h : ρ x = .slice (some ad) n c) (hn : 2 ≤ n) : (execOp ρ o).run Tryz.prog w = .ok (.value (.pointer (some ⟨ad.block, ad.off + 3, none⟩))) w := by
  have h1 : (1 : Int) < (n : Int) := by omega
  have h2 : 1 < n := by omega
  unfold execOp; simp [ho, go_sem, h, hk, h1, h2]
theorem run15_fa0 {x : Operand} {ad : Addr} (ho : o.op = .fieldAddr 43 x 0) (h : ρ x = .pointer (some ad)) : (execOp ρ o).run Tryz.prog w = .ok (.value (.pointer (some ad))) w := by
  unfold execOp; simp [ho, go_sem, h]
theorem run15_bs0 (ho : o.op = .buildSlice 30 0 #[]) : (execOp ρ o).run Tryz.prog w = .ok (.value (.slice (some ⟨w.heap.size, 0, none⟩) 0 0)) (w.alloc (.cells #[] 3)) := by
  have hu : Tryz.prog.underlying 30 = some (.slice 3) := Tryz.underlying30
  unfold execOp; simp [ho, go_sem]
theorem run15_bs1 {x : Operand} {n : Int} (ho : o.op = .buildSlice 30 1 #[(0, x)]) (h : ρ x = .int .i64 n) : (execOp ρ o).run Tryz.prog w = .ok (.value (.slice (some ⟨w.heap.size, 0, none⟩) 1 1)) (w.alloc (.cells #[.int .i64 n] 3)) := by
  unfold execOp; simp [ho, go_sem, h]
end
end Go.Proofs.YtefedalnafjcfaaGreatDoor

