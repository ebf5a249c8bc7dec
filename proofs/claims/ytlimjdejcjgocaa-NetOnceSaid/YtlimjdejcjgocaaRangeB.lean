/- A range over an iterator, the loop's variable in a cell of its own (a struct): the law of the statement. No program in it. -/
import Derived.Test.YtlimjdejcjgocaaRange
namespace Go.Proofs.Ytlimjdejcjgocaa
open Go.RowKit
set_option linter.unusedVariables false
theorem wpIn_range_box {α : Type} {F : Fence} {n : Nat} {P : Program} {g : Operand} {p : Tmp} {assign body : Code} {Q : Exit → Act → World → Prop} {a : Act} {w : World}
    (hro : F.round = none) (h1 : 1 ≤ n) {gf : Nat} {lb : Array Value} (hg : a.eval g = .func (.func gf) #[] lb) (hFg : F.fn gf) (eg : ∀ args w, (callFunc gf args).run P w = .ok (.enter gf args) w)
    {enc : α → Value} {Bs : Nat} {own : Nat → Prop} {xs : List α} (hBs : Bs < w.heap.size) (hn0 : ∀ k, own k → k < w.heap.size) (hseq : ∀ W, Mod (fun _ => False) w W → SeqSt F (n - 1) P gf lb enc Bs own xs W)
    (I : List α → World → Prop) (Ix : Code → List α → World → Prop) (hI : ∀ pre A B, I pre A → Mod (MayTurn Bs w.heap.size A) A B → I pre B) (hIx : ∀ c pre A B, Ix c pre A → Mod (MayTurn Bs w.heap.size A) A B → Ix c pre B) (h0 : I [] w) (Ax : α → Act → World → Prop) (hAx : ∀ x a' A B, Ax x a' A → Mod (MayTurn Bs w.heap.size A) A B → Ax x a' B)
    (hassign : ∀ (l : Nat) (pre : List α) (x : α) (W : World) (K : Act → World → Prop), I pre W → (∀ a' W', Ax x a' W' → I pre W' → KeepsOthers W W' → Mod (fun _ => False) W W' → K a' W') → assign.wpIn (F.inRound l) (n - 1 - 1) P (Exit.then K (fun _ _ _ => False)) { tmps := a.tmps.setIfInBounds p (enc x), defers := [] } W)
    (hbody : ∀ (l : Nat) (pre : List α) (x : α) (a' : Act) (W : World), I pre W → Ax x a' W → pre ++ [x] <+: xs → body.wpIn (F.inRound l) (n - 1 - 1) P (roundLeft own I Ix (pre ++ [x]) W) a' W)
    (hdone : ∀ (D : Nat) (W : World), w.heap.size ≤ D → I xs W → W.heap[D]? = some (.deferred (some [])) → Q .normal { a with defers := { target := .collected D, args := #[] } :: a.defers } W)
    (hstop : ∀ (D : Nat) (c : Code) (pre : List α) (W : World), w.heap.size ≤ D → pre <+: xs → Ix c pre W → W.heap[D]? = some (.deferred (some [])) → c.wpIn F n P Q { a with defers := { target := .collected D, args := #[] } :: a.defers } W) :
    (Code.rangeFunc g #[p] assign body).wpIn F n P Q a w := by
  refine wpIn_rangeFunc fun fn hfn => ?_
  rw [hro]
  obtain ⟨D, hD⟩ : ∃ D, D = w.heap.size := ⟨_, rfl⟩
  obtain ⟨l, hl⟩ : ∃ l, l = w.heap.size + 1 := ⟨_, rfl⟩
  obtain ⟨rc, hrc⟩ : ∃ rc : LoopState → Option Code → Loop, rc = fun st pe => { state := st, pending := pe, fn, tmps := a.tmps, params := #[p], assign, body, defers := D } := ⟨_, rfl⟩
  obtain ⟨W1, hW1⟩ : ∃ W1, W1 = (w.alloc (.deferred (some []))).alloc (.loop (rc .ready none)) := ⟨_, rfl⟩
  have hDl : D ≠ l := by omega
  have hm1 : Mod (fun _ => False) w W1 := by rw [hW1]; exact ((Mod.refl _ w).alloc _).alloc _
  have hR1 : RecAt W1 l D (rc .ready none) := by
    rw [hW1]
    constructor
    · have := World.alloc_heap_new (w.alloc (.deferred (some []))) (.loop (rc .ready none))
      rw [World.size_alloc] at this
      rw [hl]; exact this
    · rw [hD]; exact (Below.heap_alloc _ _ _ (by simp)).trans (World.alloc_heap_new w _)
  have hlB : l ≠ Bs := by omega
  have hDB : D ≠ Bs := by omega
  have turn : ∀ {pre : List α} {A : World} {r : Loop} (o : Obj), I pre A → RecAt A l D r → I pre (A.putObj l o) := fun o hi hr => hI _ _ _ hi (mod_putObj (.inr ⟨by omega, _, hr.loop, rfl⟩) o)
  have turnx : ∀ {c : Code} {pre : List α} {A : World} {r : Loop} (o : Obj), Ix c pre A → RecAt A l D r → Ix c pre (A.putObj l o) := fun o hi hr => hIx _ _ _ _ hi (mod_putObj (.inr ⟨by omega, _, hr.loop, rfl⟩) o)
  have hol : ¬ own l := fun h => by have := hn0 l h; omega
  have below : ∀ {A : World} {r : Loop} (o : Obj), RecAt A l D r → Mod (fun k => ¬ own k) A (A.putObj l o) := fun o hr => mod_putObj hol o
  refine ⟨l, [{ target := .collected D, args := #[] }], W1, { target := .fn (.func gf) lb, args := #[.func (.yield l) #[] #[]] }, W1, gf, #[.func (.yield l) #[] #[]] ++ lb, W1, ?_, ?_, ?_, ?_, fun _ => h1, ?_⟩
  · rw [hW1, hrc, hl, hD]; exact run_enterLoop_outer _ _ _ _ _
  · simp only [resolve, hg]
    simp [go_sem]
  · intro f' hf'; simp [Target.leads] at hf'; subst hf'; exact hFg
  · simp [invoke, go_sem, eg]
  refine (hseq W1 hm1 l (fun pre W => I pre W ∧ RecAt W l D (rc .ready none)) (fun pre W => ∃ c, Ix c pre W ∧ RecAt W l D (rc .done (some c)))
    (fun pre A B hs hm => ⟨hI _ _ _ hs.1 (mod_weaken hm fun k hk => .inl hk), hs.2.mod hm hlB hDB⟩)
    (fun pre A B ⟨c, hs, hr⟩ hm => ⟨c, hIx _ _ _ _ hs (mod_weaken hm fun k hk => .inl hk), hr.mod hm hlB hDB⟩) ?_ ⟨hI _ _ _ h0 (mod_weaken hm1 fun k hk => hk.elim), hR1⟩).mono ?_
  · rintro pre x A ⟨hi, hr⟩ hpre
    have hy := run_yield (P := P) (args := #[enc x]) hr.loop (by rw [hrc]; rfl)
    rw [hrc] at hy
    refine ⟨fn, _, assign, body, hy, roundIn_of_wpIn hfn ?_⟩
    have hz : Array.foldl (fun tmps (x : Tmp × Value) => match x with | (t, a) => tmps.setIfInBounds t a) a.tmps (#[p].zip #[enc x]) = a.tmps.setIfInBounds p (enc x) := by simp
    dsimp only
    rw [hz]
    refine hassign l pre x A _ hi (fun a' A1 hax hi1 hkA hmA => ?_)
    have hrA := hr.keeps hkA
    have hr2' := hrA.put { rc .ready none with state := .busy } hDl
    refine ⟨_, run_beginRound hrA.loop (by rw [hrc]), ?_⟩
    refine wpIn_mono (hbody l pre x a' _ (turn _ hi1 hrA) (hAx _ _ _ _ hax (mod_putObj (.inr ⟨by omega, _, hrA.loop, rfl⟩) _)) hpre) ?_
    have leave : ∀ (j : Option Code) (B : World), KeepsOthers (A1.putObj l (.loop { rc .ready none with state := .busy })) B → RecAt B l D { rc .ready none with state := .busy } ∧
        (Instr.endRound l j).run P B = .ok (.bool j.isNone) (B.putObj l (.loop (rc (if j.isNone then .ready else .done) j))) := fun j B hk => by
      have h3 := hr2'.keeps hk
      refine ⟨h3, ?_⟩
      have := run_endRound (P := P) j h3.loop
      rw [hrc] at this ⊢
      exact this
    rintro e a3 B hp
    cases e with
    | normal =>
      obtain ⟨hk, hb, hi3⟩ := hp
      obtain ⟨h3, hrun⟩ := leave none B hk
      exact ⟨_, _, hrun, .inl ⟨rfl, ⟨turn _ hi3 h3, h3.put _ hDl⟩, (((hmA.mono (fun _ h => h.elim)).trans (below _ hrA) (fun k hk => .inl hk)).trans hb (fun k hk => .inl hk)).trans (below _ h3) (fun k hk => .inl hk)⟩⟩
    | ret =>
      obtain ⟨hk, hi3⟩ := hp
      obtain ⟨h3, hrun⟩ := leave (some .ret) B hk
      exact ⟨_, _, hrun, .inr ⟨rfl, .ret, turnx _ hi3 h3, h3.put _ hDl⟩⟩
    | exit id =>
      obtain ⟨hk, hi3⟩ := hp
      obtain ⟨h3, hrun⟩ := leave (some (.exit id)) B hk
      exact ⟨_, _, hrun, .inr ⟨rfl, .exit id, turnx _ hi3 h3, h3.put _ hDl⟩⟩
    | goto t =>
      obtain ⟨hk, hi3⟩ := hp
      obtain ⟨h3, hrun⟩ := leave (some (.goto t)) B hk
      exact ⟨_, _, hrun, .inr ⟨rfl, .goto t, turnx _ hi3 h3, h3.put _ hDl⟩⟩
    | panic ch => exact hp.elim
    | outgrown => exact hp.elim
  · rintro e B ⟨⟨v, rfl⟩, hfin⟩
    rcases hfin with ⟨hi, hr⟩ | ⟨pre, hpre, c, hi, hr⟩
    · have hrun := run_endLoop (P := P) hr.loop (by rw [hrc]; simp)
      exact ⟨none, _, by rw [hrc] at hrun; exact hrun, hdone D _ (by omega) (turn _ hi hr) ((World.putObj_heap_other hDl).trans hr.defs)⟩
    · have hrun := run_endLoop (P := P) hr.loop (by rw [hrc]; simp)
      exact ⟨some c, _, by rw [hrc] at hrun; exact hrun, hstop D c pre _ (by omega) hpre (turnx _ hi hr) ((World.putObj_heap_other hDl).trans hr.defs)⟩
end Go.Proofs.Ytlimjdejcjgocaa
