/- Part of this claim's proof (texts Drawn, SortShelf, Cats11, joined by program). -/
import Derived.Calls
import Derived.Test.YtefedalnafjcfaaGreatDoorA00
import Derived.Shelf.SlSortCmp.NoneTotal
import Derived.Test.YtefedalnafjcfaaGreatDoorProg
import Derived.Sort.OwnSorted
import Derived.Lib.OwnBridge
import Derived.Test.YtefedalnafjcfaaGreatDoorA04
namespace Go.Proofs.YtefedalnafjcfaaGreatDoor
open Go
set_option linter.unusedVariables false
set_option linter.unusedSimpArgs false
/-- What a piece of a step leaves has drawn n at least. -/
def resGe {α : Type} (n : Nat) : Result α → Prop
  | .ok _ w => n ≤ w.drawn
  | .halt _ w => n ≤ w.drawn
theorem resGe.le {α : Type} {m n : Nat} {r : Result α} (h : resGe n r) (hm : m ≤ n) : resGe m r := by
  cases r <;> exact Nat.le_trans hm h
theorem ask_ge {α : Type} : ∀ (q : Ask α) (w : World), w.drawn ≤ (w.ask q).2.drawn
  | .done a, w => Nat.le_refl _
  | .ask what range k, w => by
    unfold World.ask
    dsimp only
    split
    · exact ask_ge _ _
    · exact Nat.le_trans (Nat.le_succ w.drawn) (ask_ge (k _) { w with drawn := w.drawn + 1 })
theorem sys_ge (w : World) (c : Sys) : w.drawn ≤ (w.sys c).2.drawn := by
  unfold World.sys
  have := ask_ge (Kernel.perform c w.os) w
  split
  · exact Nat.le_refl _
  · rename_i h
    rw [h] at this
    exact this
theorem viewStore_drawn {p : Program} {w w' : World} {at_ k : Addr} {u : TypeId} {v : Value} {at2 : Bool} {l : List Addr} (h : w.viewStore p at_ u k v at2 = .ok (w', l)) : w'.drawn = w.drawn := by
  unfold World.viewStore at h
  simp only [bind, Except.bind, pure, Except.pure] at h
  repeat' first
    | (cases h; done)
    | (simp only [Except.ok.injEq, Prod.mk.injEq] at h; obtain ⟨rfl, _⟩ := h; rfl)
    | split at h
theorem farStore_drawn {p : Program} {w w' : World} {a : Addr} {v : Value} {at2 : Bool} {l : List Addr} (h : w.farStore p a v at2 = .ok (w', l)) : w'.drawn = w.drawn := by
  unfold World.farStore at h
  split at h
  · split at h
    · rename_i hh
      cases h
      exact viewStore_drawn hh
    · cases h
  · cases h
theorem freeze_drawn (w : World) (a : Addr) (n : Nat) : (w.freeze a n).drawn = w.drawn := by
  unfold World.freeze; split <;> rfl
theorem run_ge {α : Type} (p : Program) : ∀ (s : Sem α) (w : World), resGe w.drawn (s.run p w)
  | .pure a, w => Nat.le_refl _
  | .load m a k, w => by
    unfold Sem.run
    split
    · exact run_ge p _ w
    · split
      · exact run_ge p _ w
      · exact Nat.le_refl _
  | .store m a v k, w => by
    have key : resGe w.drawn (match w.cell? a with
        | some _ => if w.frozen? a then .halt (.unsupported (.unsafePointer "a write to bytes that a string shares")) w else k.run p (w.setCell a v)
        | none => match w.farStore p a v (m == .atomic) with
          | .ok (w, _) => k.run p w
          | .error h => .halt h w) := by
      split
      · split
        · exact Nat.le_refl _
        · exact run_ge p k (w.setCell a v)
      · split
        · rename_i w2 _ hh
          have := run_ge p k w2
          rw [farStore_drawn hh] at this
          exact this
        · exact Nat.le_refl _
    cases v <;> first | exact Nat.le_refl _ | exact key
  | .new o k, w => by unfold Sem.run; exact run_ge p (k _) { w with heap := w.heap.push o }
  | .shape r k, w => by unfold Sem.run; exact run_ge p _ w
  | .freeze a n k, w => by unfold Sem.run; have := run_ge p k (w.freeze a n); rw [freeze_drawn] at this; exact this
  | .frozen a k, w => by unfold Sem.run; exact run_ge p _ w
  | .getObj r k, w => by
    unfold Sem.run
    split
    · exact Nat.le_refl _
    · exact run_ge p _ w
    · exact Nat.le_refl _
  | .setObj r o k, w => by
    unfold Sem.run
    split
    · exact Nat.le_refl _
    · exact run_ge p k { w with heap := w.heap.setIfInBounds r o }
    · exact Nat.le_refl _
  | .choose q k, w => by
    unfold Sem.run
    split
    · exact run_ge p _ w
    · exact (run_ge p (k _) { w with drawn := w.drawn + 1 }).le (Nat.le_succ _)
  | .sys c k, w => by unfold Sem.run; exact (run_ge p (k _) (w.sys c).2).le (sys_ge w c)
  | .program k, w => by unfold Sem.run; exact run_ge p _ w
  | .mark m k, w => by unfold Sem.run; exact run_ge p _ w
  | .halt h, w => Nat.le_refl _
theorem runT_ge {α : Type} (p : Program) : ∀ (s : Sem α) (w : World) (es : Array Event), resGe w.drawn (s.runT p w es).1
  | .pure a, w, es => Nat.le_refl _
  | .load m a k, w, es => by
    unfold Sem.runT
    split
    · exact runT_ge p _ w _
    · split
      · exact runT_ge p _ w _
      · exact Nat.le_refl _
  | .store m a v k, w, es => by
    have key : resGe w.drawn (match w.cell? a with
        | some _ =>
          if w.frozen? a then ((.halt (.unsupported (.unsafePointer "a write to bytes that a string shares")) w, es) : Result α × Array Event)
          else k.runT p (w.setCell a v) (es.push (Event.mk (.cell a) true (m == Mode.atomic)))
        | none => match w.farStore p a v (m == Mode.atomic) with
          | .ok (w, touched) => k.runT p w (es ++ touched.toArray.map (fun x => Event.mk (.cell x) true (m == Mode.atomic)))
          | .error h => (.halt h w, es)).1 := by
      split
      · split
        · exact Nat.le_refl _
        · exact runT_ge p k (w.setCell a v) _
      · split
        · rename_i w2 _ hh
          have := runT_ge p k w2
          rw [farStore_drawn hh] at this
          exact this _
        · exact Nat.le_refl _
    cases v <;> first | exact Nat.le_refl _ | exact key
  | .new o k, w, es => by unfold Sem.runT; exact runT_ge p (k _) { w with heap := w.heap.push o } _
  | .shape r k, w, es => by unfold Sem.runT; exact runT_ge p _ w _
  | .freeze a n k, w, es => by unfold Sem.runT; have := runT_ge p k (w.freeze a n) es; rw [freeze_drawn] at this; exact this
  | .frozen a k, w, es => by unfold Sem.runT; exact runT_ge p _ w _
  | .getObj r k, w, es => by
    unfold Sem.runT
    split
    · exact Nat.le_refl _
    · exact runT_ge p _ w _
    · exact Nat.le_refl _
  | .setObj r o k, w, es => by
    unfold Sem.runT
    split
    · exact Nat.le_refl _
    · exact runT_ge p k { w with heap := w.heap.setIfInBounds r o } _
    · exact Nat.le_refl _
  | .choose q k, w, es => by
    unfold Sem.runT
    split
    · exact runT_ge p _ w _
    · exact (runT_ge p (k _) { w with drawn := w.drawn + 1 } _).le (Nat.le_succ _)
  | .sys c k, w, es => by unfold Sem.runT; exact (runT_ge p (k _) (w.sys c).2 _).le (sys_ge w c)
  | .program k, w, es => by unfold Sem.runT; exact runT_ge p _ w _
  | .mark m k, w, es => by unfold Sem.runT; exact runT_ge p _ w _
  | .halt h, w, es => Nat.le_refl _
theorem run_ok {α : Type} {p : Program} {s : Sem α} {w w' : World} {a : α} (h : s.run p w = .ok a w') : w.drawn ≤ w'.drawn := by have := run_ge p s w; rw [h] at this; exact this
theorem runT_ok {α : Type} {p : Program} {s : Sem α} {w w' : World} {es es' : Array Event} {a : α} (h : s.runT p w es = (.ok a w', es')) : w.drawn ≤ w'.drawn := by have := runT_ge p s w es; rw [h] at this; exact this
theorem runT_halt {α : Type} {p : Program} {s : Sem α} {w w' : World} {es es' : Array Event} {a : Halt} (h : s.runT p w es = (.halt a w', es')) : w.drawn ≤ w'.drawn := by have := runT_ge p s w es; rw [h] at this; exact this
/-- A goroutine's step leaves a world that has drawn n at least (where it does not end the run). -/
def gGe (n : Nat) : GStep → Prop
  | .go _ w _ => n ≤ w.drawn
  | .comm _ _ _ _ w _ => n ≤ w.drawn
  | .spawn _ _ w _ => n ≤ w.drawn
  | .count _ w _ => n ≤ w.drawn
  | .timer _ _ w _ => n ≤ w.drawn
  | .alone _ _ w _ => n ≤ w.drawn
  | .newcoro _ _ _ w _ => n ≤ w.drawn
  | .coroswitch _ _ _ w _ => n ≤ w.drawn
  | .collect _ w _ => n ≤ w.drawn
  | .watch _ w _ => n ≤ w.drawn
  | .ended .. => True
theorem after_ge {n : Nat} {es : Array Event} {s : GStep} (h : gGe n s) : gGe n (GStep.after es s) := by cases s <;> exact h
theorem gGe.le {m n : Nat} {s : GStep} (h : gGe n s) (hm : m ≤ n) : gGe m s := by cases s <;> first | trivial | exact Nat.le_trans hm h
theorem ite_ge {n : Nat} {c : Prop} [Decidable c] {a b : GStep} (ha : gGe n a) (hb : gGe n b) : gGe n (if c then a else b) := by split <;> assumption
theorem doReturn_ge (p : Program) (main : Bool) (fr : Frame) (callers : List Frame) (dying : Option Dying) (v : Value) (w : World) : gGe w.drawn (doReturn p main fr callers dying v w) := by
  unfold doReturn
  repeat' first
    | exact Nat.le_refl _
    | trivial
    | split
    | dsimp only
theorem endWith_ge (w : World) (n : Nat) (l : ByteArray) (o : Outcome) (k : Nat) : gGe k (endWith w n l o) := by
  unfold endWith
  dsimp only
  repeat' first
    | trivial
    | split
theorem endThrow_ge (fr : Frame) (m : String) (w : World) : gGe w.drawn (endThrow fr m w) := by
  unfold endThrow dieOf
  exact Nat.le_refl _
theorem endPrinting_ge (p : Program) (fr : Frame) (v : Value) (w : World) : gGe w.drawn (endPrinting p fr v w) := by
  unfold endPrinting
  dsimp only
  repeat' first
    | exact endThrow_ge _ _ _
    | trivial
    | split
theorem endFatal_ge (p : Program) (fr : Frame) (callers : List Frame) (dying : Option Dying) (m : String) (w : World) : gGe w.drawn (endFatal p fr callers dying m w) := by
  unfold endFatal
  dsimp only
  split
  · rename_i h
    have := run_ok h
    unfold dieOf
    exact this
  · trivial
  · trivial
theorem writeOn_ge (p : Program) (fr : Frame) (d : Dying) (f : Fatal) (w : World) : gGe w.drawn (writeOn p fr d f w) := by
  unfold writeOn
  dsimp only
  split
  · trivial
  · split
    · rename_i h
      exact runT_ok h
    · rename_i h
      exact runT_halt h
    · trivial
    · trivial
theorem die_ge (p : Program) (fr : Frame) (d : Dying) (w : World) : gGe w.drawn (die p fr d w) := by
  unfold die
  split
  · exact writeOn_ge _ _ _ _ _
  · split
    · split
      · exact Nat.le_refl _
      · exact endWith_ge _ _ _ _ _
    · dsimp only
      split
      · exact Nat.le_refl _
      · split
        · rename_i h; exact run_ok h
        · trivial
      · rename_i t recv name _
        have hg := runT_ge p (invoke (.fn (.method name) #[]) #[.iface t recv]) w #[]
        generalize (invoke (.fn (.method name) #[]) #[.iface t recv]).runT p w #[] = q at hg ⊢
        obtain ⟨r, es⟩ := q
        dsimp only at hg ⊢
        apply after_ge
        split
        all_goals first
          | trivial
          | exact hg
          | exact (endPrinting_ge _ _ _ _).le hg
      · trivial
theorem callDeferred_ge (p : Program) (fr : Frame) (callers : List Frame) (dying : Option Dying) (d : Deferred) (w : World) : gGe w.drawn (callDeferred p fr callers dying d w) := by
  unfold callDeferred
  refine ite_ge trivial ?_
  · have hg := runT_ge p (invoke d.target d.args) w #[]
    generalize (invoke d.target d.args).runT p w #[] = q at hg ⊢
    obtain ⟨r, es⟩ := q
    dsimp only at hg ⊢
    apply after_ge
    split
    all_goals first
      | trivial
      | exact hg
      | exact (endThrow_ge _ _ _).le hg
      | exact (endFatal_ge _ _ _ _ _ _).le hg
      | (split <;> exact hg)
theorem unwind_ge (p : Program) (main : Bool) (fr : Frame) (callers : List Frame) (dying : Option Dying) (w : World) : gGe w.drawn (unwind p main fr callers dying w) := by
  unfold unwind
  split
  · rename_i block _ ds _
    have hg := runT_ge p (Instr.takeDeferred block) w #[]
    generalize (Instr.takeDeferred block).runT p w #[] = q at hg ⊢
    obtain ⟨r, es⟩ := q
    dsimp only at hg ⊢
    apply after_ge
    split
    · exact hg
    · trivial
  · exact callDeferred_ge _ _ _ _ _ _
  · split
    · trivial
    · split
      · trivial
      · split
        · exact Nat.le_refl _
        · split
          · split
            · exact Nat.le_refl _
            · split
              · rename_i h; exact run_ok h
              · trivial
              · trivial
          · split
            · exact endPrinting_ge _ _ _ _
            · trivial
    · split
      · exact doReturn_ge _ _ _ _ _ _ _
      · rename_i fn _
        have hg := runT_ge p (results fn fr.tmps) w #[]
        generalize (results fn fr.tmps).runT p w #[] = q at hg ⊢
        obtain ⟨r, es⟩ := q
        dsimp only at hg ⊢
        apply after_ge
        split
        · exact (doReturn_ge _ _ _ _ _ _ _).le hg
        · trivial
        · trivial
theorem early_ge (p : Program) (fr : Frame) (callers : List Frame) (dying : Option Dying) (g : Nat) (w : World) : gGe w.drawn (early p fr callers dying g w) := by
  unfold early
  dsimp only
  repeat' first
    | exact Nat.le_refl _
    | trivial
    | (rename_i h; exact run_ok h)
    | split
  all_goals (rename_i h _ _ _ _; exact (run_ok h :))
theorem apply_ge (p : Program) (main listen : Bool) (fr : Frame) (callers : List Frame) (dying : Option Dying) (s : Sem Next) (w : World) : gGe w.drawn (stepG.apply p listen fr callers dying s w) := by
  unfold stepG.apply
  have hq : resGe w.drawn (if listen then s.runT p w #[] else (s.run p w, #[])).1 := by
    split
    · exact runT_ge p s w #[]
    · exact run_ge p s w
  generalize (if listen then s.runT p w #[] else (s.run p w, #[])) = q at hq ⊢
  obtain ⟨r, es⟩ := q
  dsimp only at hq ⊢
  apply after_ge
  split
  all_goals first
    | trivial
    | exact hq
    | exact (endThrow_ge _ _ _).le hq
    | exact (endFatal_ge _ _ _ _ _ _).le hq
    | exact (early_ge _ _ _ _ _ _).le hq
    | (split <;> exact hq)
    | exact ite_ge ((endThrow_ge _ _ _).le hq) hq
theorem oper_ge (p : Program) (listen : Bool) (fr : Frame) (callers : List Frame) (dying : Option Dying) (w : World) : gGe w.drawn (stepG.oper p listen fr callers dying w) := by
  unfold stepG.oper
  split
  · trivial
  · split
    · exact apply_ge _ true _ _ _ _ _ _
    · exact apply_ge _ true _ _ _ _ _ _
theorem leave_ge (p : Program) (main : Bool) (fr : Frame) (callers : List Frame) (dying : Option Dying) (w : World) (jump : Option Code) (b : Bool) : gGe w.drawn (match fr.roundOf with
      | none => if b then GStep.go { frame := { fr with mode := .returning }, callers, status := .running, dying } w else .ended (.stuck "exit, goto: no such block or label" (fr.pos p)) w
      | some l =>
        let (r, es) := (Instr.endRound l jump).runT p w #[]
        GStep.after (seen p fr.fn es) <| match r with
        | .ok v w => doReturn p main fr callers dying v w
        | .halt _ w => .ended (.stuck "range over a function: no such loop" (fr.pos p)) w) := by
  split
  · exact ite_ge (Nat.le_refl _) trivial
  · rename_i l _
    have hg := runT_ge p (Instr.endRound l jump) w #[]
    generalize (Instr.endRound l jump).runT p w #[] = q at hg ⊢
    obtain ⟨r, es⟩ := q
    dsimp only at hg ⊢
    apply after_ge
    split
    · exact (doReturn_ge _ _ _ _ _ _ _).le hg
    · trivial
theorem exec_ge (p : Program) (main listen : Bool) (fr : Frame) (callers : List Frame) (dying : Option Dying) (w : World) : gGe w.drawn (stepG.exec p main listen fr callers dying w) := by
  unfold stepG.exec
  dsimp only
  split
  all_goals first
    | exact Nat.le_refl _
    | trivial
    | exact apply_ge _ true _ _ _ _ _ _
    | exact leave_ge p main fr callers dying w _ _
    | (split <;> first | exact Nat.le_refl _ | trivial | exact leave_ge p main fr callers dying w _ _)
    | skip
  · rename_i id k _
    cases exitTo id k with
    | none => exact leave_ge p main fr callers dying w _ false
    | some t => exact Nat.le_refl _
  · rename_i l k _
    cases gotoIn l k with
    | none => exact leave_ge p main fr callers dying w _ false
    | some t => exact Nat.le_refl _
  · rename_i f params assign body k _
    have hg := runT_ge p (Instr.enterLoop fr.fn fr.tmps params assign body fr.roundOf) w #[]
    generalize (Instr.enterLoop fr.fn fr.tmps params assign body fr.roundOf).runT p w #[] = q at hg ⊢
    apply after_ge
    split
    · rename_i h; rw [h] at hg; exact (apply_ge _ true _ _ _ _ _ _).le hg
    · trivial
  · rename_i l k _
    have hg := runT_ge p (Instr.endLoop l) w #[]
    generalize (Instr.endLoop l).runT p w #[] = q at hg ⊢
    apply after_ge
    split
    · rename_i h; rw [h] at hg; exact hg
    · rename_i h; rw [h] at hg; exact hg
    · trivial
  · rename_i row args _ _
    cases Extern.next row with
    | none => trivial
    | some e => exact apply_ge _ true _ _ _ _ _ _
  · refine ite_ge (Nat.le_refl _) ?_
    split
    · rename_i h; exact (run_ok h :)
    · trivial
  · exact ite_ge (oper_ge _ _ _ _ _ _) (Nat.le_refl _)
theorem stepG_ge (p : Program) (main : Bool) (g : Goroutine) (w : World) (listen : Bool) : gGe w.drawn (stepG p main g w listen) := by
  unfold stepG
  dsimp only
  split
  · exact die_ge _ _ _ _
  · exact exec_ge _ _ _ _ _ _ _
  · exact unwind_ge _ _ _ _ _ _
theorem waitingAt_drawn {rest : Rest} {cases : Array CommCase} {w w' : World} (h : waitingAt rest cases w = some w') : w'.drawn = w.drawn := by
  unfold waitingAt at h
  repeat' first
    | (cases h; rfl)
    | (cases h; done)
    | split at h
theorem communicate_ge (p : Program) (rest : Rest) (gs : Array Goroutine) (i : Nat) (g : Goroutine) (cases : Array CommCase) (blocking : Bool)
    (shape : CommShape) (w : World) (m' : Machine) (h : (communicate p rest gs i g cases blocking shape w).1 = .next m') : w.drawn ≤ m'.world.drawn := by
  unfold communicate at h
  simp only [] at h
  split at h
  · cases h
  split at h
  · split at h
    · split at h
      · rename_i hw
        cases h
        exact Nat.le_of_eq (waitingAt_drawn hw).symm
      · cases h
    · cases h; exact Nat.le_refl _
  · split at h
    · cases h
    · rename_i hp
      have hp1 := run_ok hp
      repeat' first
        | (cases h; done)
        | (cases h; exact hp1)
        | split at h
      all_goals first
        | (rename_i w2 hr _ _ _ _; cases h; exact Nat.le_trans hp1 (show _ ≤ w2.drawn from run_ok hr))
        | (rename_i w2 hr _ _ _; cases h; exact Nat.le_trans hp1 (show _ ≤ w2.drawn from run_ok hr))
        | (rename_i w2 hr _ _; cases h; exact Nat.le_trans hp1 (show _ ≤ w2.drawn from run_ok hr))
        | (rename_i w2 hr _; cases h; exact Nat.le_trans hp1 (show _ ≤ w2.drawn from run_ok hr))
        | (rename_i w2 hr; cases h; exact Nat.le_trans hp1 (show _ ≤ w2.drawn from run_ok hr))
theorem look_ge (p : Program) (gs : Array Goroutine) (rest : Rest) (w : World) (m' : Machine)
    (h : look p gs rest w = .next m') : w.drawn ≤ m'.world.drawn := by
  unfold look at h
  simp only [] at h
  split at h
  · split at h
    · cases h
    · split at h
      · cases h
      · split at h
        · rename_i hp
          have hp1 := run_ok hp
          cases h
          exact hp1
        · cases h
        · cases h
  · cases h
theorem drain_drawn (w : World) (c : Nat) : (drain w c).2.drawn = w.drawn := by unfold drain; split <;> rfl
theorem retime_drawn (m : Machine) (k : Nat) (t : Timer) (a b : Nat) : (retime m k t a b).2.world.drawn = m.world.drawn := by
  unfold retime
  dsimp only
  split
  · exact drain_drawn _ _
  · rfl
theorem timerOp_drawn {m m' : Machine} {op : TimerOp} {v : Value} (h : timerOp m op = .ok (v, m')) : m'.world.drawn = m.world.drawn := by
  unfold timerOp at h
  split at h
  · split at h
    · cases h; rfl
    · split at h
      · split at h
        · cases h
        · cases h; rfl
      · cases h
  · unfold timerOp.named at h
    split at h
    · cases h; exact retime_drawn _ _ _ _ _
    · cases h
  · split at h
    · rename_i m2 hm2
      have e2 : m2.world.drawn = m.world.drawn := by
        unfold timerOp.opened at hm2
        repeat' first
          | (cases hm2; rfl)
          | (cases hm2; done)
          | split at hm2
      unfold timerOp.named at h
      split at h
      · cases h; exact (retime_drawn _ _ _ _ _).trans e2
      · cases h
    · cases h
  · cases h; rfl
theorem serve_ge (p : Program) (m m' : Machine) (k : Nat) (h : serve p m k = .next m') : m.world.drawn ≤ m'.world.drawn := by
  unfold serve at h
  simp only [] at h
  repeat' first
    | (cases h; done)
    | (cases h; exact Nat.le_refl _)
    | split at h
theorem runTm_ge (p : Program) (m m' : Machine) (i : Nat) (b : Bool) (h : (runT p m i b).1 = .next m') : m.world.drawn ≤ m'.world.drawn := by
  simp only [runT] at h
  revert h
  generalize m.gs.swapAt! _ _ = gg
  have hs := stepG_ge p (i == 0) gg.1 m.world b
  revert hs
  generalize stepG p _ gg.1 m.world b = s
  intro hs h
  cases s <;> simp only [gGe] at hs <;> simp only [] at h
  all_goals first
    | (cases h; done)
    | (exact Nat.le_trans hs (communicate_ge _ _ _ _ _ _ _ _ _ _ h))
    | (exact Nat.le_trans hs (look_ge _ _ _ _ _ h))
    | (cases h; exact hs)
    | skip
  · split at h
    · cases h
    · cases h; exact hs
  · split at h
    · rename_i ht
      cases h
      exact Nat.le_trans hs (Nat.le_of_eq (timerOp_drawn ht).symm)
    · unfold endThrow dieOf at h
      cases h; exact hs
    · cases h
    · cases h
  · split at h
    · cases h; exact hs
    · unfold endThrow dieOf at h
      cases h; exact hs
    · cases h
theorem askOn_next (p : Program) (m m' : Machine) (ops : Array MemOp) (h : askOn p m = .machine (.next m') ops) : m.world.drawn ≤ m'.world.drawn := by
  unfold askOn at h
  simp only [] at h
  repeat' first
    | (simp at h; done)
    | split at h
  · rename_i h1 _
    simp only [Move.machine.injEq] at h
    exact Nat.le_trans (show _ ≤ World.drawn _ from run_ok h1) (serve_ge _ _ _ _ h.1)
  · rename_i h1 _ _ _ _ _ _
    simp only [Move.machine.injEq, Stepped.next.injEq] at h
    obtain ⟨rfl, -⟩ := h
    exact (run_ok h1 :)
  · rename_i h1 _ _ _ _ _ _
    simp only [Move.machine.injEq, Stepped.next.injEq] at h
    obtain ⟨rfl, -⟩ := h
    exact (run_ok h1 :)
  · rename_i h1 _ _ _ _ _ _ _ _ h2
    simp only [Move.machine.injEq, Stepped.next.injEq] at h
    obtain ⟨rfl, -⟩ := h
    exact Nat.le_trans (run_ok h1 :) (run_ok h2 :)
theorem askOn_go (p : Program) (m m' : Machine) (i : Nat) (h : askOn p m = .goroutine m' i) : m.world.drawn ≤ m'.world.drawn := by
  unfold askOn at h
  simp only [] at h
  repeat' first
    | (simp at h; done)
    | split at h
  all_goals (simp only [Move.goroutine.injEq] at h; obtain ⟨rfl, -⟩ := h)
  all_goals first
    | (rename_i h1 _ _ _ _ _ _ _ h2 _; exact Nat.le_trans (run_ok h1 :) ((run_ok h2 :)))
    | (rename_i h1 _ _ _ _ _ _ _ _ h2 _; exact Nat.le_trans (run_ok h1 :) ((run_ok h2 :)))
    | (rename_i h1 _ _ _ _ _ _ _ _ _ h2 _; exact Nat.le_trans (run_ok h1 :) ((run_ok h2 :)))
    | (rename_i h1 _ _ _ _ _ _ _ _ _ _ h2 _; exact Nat.le_trans (run_ok h1 :) ((run_ok h2 :)))
    | (rename_i h1 _ _ _ _ _ _ _ h2 _ _ _ _ h3 _; exact Nat.le_trans (run_ok h1 :) (Nat.le_trans (run_ok h2 :) ((run_ok h3 :))))
    | (rename_i h1 _ _ _ _ _ _ _ h2 _ _ _ h3 _; exact Nat.le_trans (run_ok h1 :) (Nat.le_trans (run_ok h2 :) ((run_ok h3 :))))
    | (rename_i h1 _ _ _ _ _ _ _ h2 _ _ h3 _; exact Nat.le_trans (run_ok h1 :) (Nat.le_trans (run_ok h2 :) ((run_ok h3 :))))
    | (rename_i h1 _ _ _ _ _ _ _ _ h2 _ _ _ _ h3 _; exact Nat.le_trans (run_ok h1 :) (Nat.le_trans (run_ok h2 :) ((run_ok h3 :))))
    | (rename_i h1 _ _ _ _ _ _ _ _ h2 _ _ _ h3 _; exact Nat.le_trans (run_ok h1 :) (Nat.le_trans (run_ok h2 :) ((run_ok h3 :))))
    | (rename_i h1 _ _ _ _ _ _ _ _ h2 _ _ h3 _; exact Nat.le_trans (run_ok h1 :) (Nat.le_trans (run_ok h2 :) ((run_ok h3 :))))
    | (rename_i h1 _ _ _ _ _ _ _ _ _ h2 _ _ _ _ h3 _; exact Nat.le_trans (run_ok h1 :) (Nat.le_trans (run_ok h2 :) ((run_ok h3 :))))
    | (rename_i h1 _ _ _ _ _ _ _ _ _ h2 _ _ _ h3 _; exact Nat.le_trans (run_ok h1 :) (Nat.le_trans (run_ok h2 :) ((run_ok h3 :))))
    | (rename_i h1 _ _ _ _ _ _ _ _ _ h2 _ _ h3 _; exact Nat.le_trans (run_ok h1 :) (Nat.le_trans (run_ok h2 :) ((run_ok h3 :))))
    | (rename_i h1 _ _ _ _ _ _ _ _ _ _ h2 _ _ _ _ h3 _; exact Nat.le_trans (run_ok h1 :) (Nat.le_trans (run_ok h2 :) ((run_ok h3 :))))
    | (rename_i h1 _ _ _ _ _ _ _ _ _ _ h2 _ _ _ h3 _; exact Nat.le_trans (run_ok h1 :) (Nat.le_trans (run_ok h2 :) ((run_ok h3 :))))
    | (rename_i h1 _ _ _ _ _ _ _ _ _ _ h2 _ _ h3 _; exact Nat.le_trans (run_ok h1 :) (Nat.le_trans (run_ok h2 :) ((run_ok h3 :))))
    | (rename_i h1 _ _ _ _ _ _ _ h2 _ _ _ h3 _ _ _ _ h4 _; exact Nat.le_trans (run_ok h1 :) (Nat.le_trans (run_ok h2 :) (Nat.le_trans (run_ok h3 :) ((run_ok h4 :)))))
    | (rename_i h1 _ _ _ _ _ _ _ h2 _ _ h3 _ _ _ _ h4 _; exact Nat.le_trans (run_ok h1 :) (Nat.le_trans (run_ok h2 :) (Nat.le_trans (run_ok h3 :) ((run_ok h4 :)))))
    | (rename_i h1 _ _ _ _ _ _ _ h2 _ _ _ _ h3 _ _ _ _ h4 _; exact Nat.le_trans (run_ok h1 :) (Nat.le_trans (run_ok h2 :) (Nat.le_trans (run_ok h3 :) ((run_ok h4 :)))))
    | (rename_i h1 _ _ _ _ _ _ _ _ h2 _ _ _ h3 _ _ _ _ h4 _; exact Nat.le_trans (run_ok h1 :) (Nat.le_trans (run_ok h2 :) (Nat.le_trans (run_ok h3 :) ((run_ok h4 :)))))
    | (rename_i h1 _ _ _ _ _ _ _ _ h2 _ _ h3 _ _ _ _ h4 _; exact Nat.le_trans (run_ok h1 :) (Nat.le_trans (run_ok h2 :) (Nat.le_trans (run_ok h3 :) ((run_ok h4 :)))))
    | (rename_i h1 _ _ _ _ _ _ _ _ h2 _ _ _ _ h3 _ _ _ _ h4 _; exact Nat.le_trans (run_ok h1 :) (Nat.le_trans (run_ok h2 :) (Nat.le_trans (run_ok h3 :) ((run_ok h4 :)))))
    | (rename_i h1 _ _ _ _ _ _ _ _ _ h2 _ _ _ h3 _ _ _ _ h4 _; exact Nat.le_trans (run_ok h1 :) (Nat.le_trans (run_ok h2 :) (Nat.le_trans (run_ok h3 :) ((run_ok h4 :)))))
    | (rename_i h1 _ _ _ _ _ _ _ _ _ h2 _ _ h3 _ _ _ _ h4 _; exact Nat.le_trans (run_ok h1 :) (Nat.le_trans (run_ok h2 :) (Nat.le_trans (run_ok h3 :) ((run_ok h4 :)))))
    | (rename_i h1 _ _ _ _ _ _ _ _ _ h2 _ _ _ _ h3 _ _ _ _ h4 _; exact Nat.le_trans (run_ok h1 :) (Nat.le_trans (run_ok h2 :) (Nat.le_trans (run_ok h3 :) ((run_ok h4 :)))))
    | (rename_i h1 _ _ _ _ _ _ _ _ _ _ h2 _ _ _ h3 _ _ _ _ h4 _; exact Nat.le_trans (run_ok h1 :) (Nat.le_trans (run_ok h2 :) (Nat.le_trans (run_ok h3 :) ((run_ok h4 :)))))
    | (rename_i h1 _ _ _ _ _ _ _ _ _ _ h2 _ _ h3 _ _ _ _ h4 _; exact Nat.le_trans (run_ok h1 :) (Nat.le_trans (run_ok h2 :) (Nat.le_trans (run_ok h3 :) ((run_ok h4 :)))))
    | (rename_i h1 _ _ _ _ _ _ _ _ _ _ h2 _ _ _ _ h3 _ _ _ _ h4 _; exact Nat.le_trans (run_ok h1 :) (Nat.le_trans (run_ok h2 :) (Nat.le_trans (run_ok h3 :) ((run_ok h4 :)))))
theorem ask_ok (p : Program) (m : Machine) :
    (∃ m₂, m.world.drawn ≤ m₂.world.drawn ∧ ask p m = askOn p m₂) ∨ (∃ o w, ask p m = .machine (.ended o w) #[]) := by
  unfold ask
  split
  · split
    · exact .inr ⟨_, _, rfl⟩
    · rename_i h1
      have h2 := run_ok h1
      split
      · rename_i hl
        exact .inl ⟨_, Nat.le_trans h2 (look_ge _ _ _ _ _ hl), rfl⟩
      · rename_i hl
        cases hk : look p m.gs m.rest _ with
        | next m₂ => exact absurd hk (hl m₂)
        | ended o w => exact .inr ⟨o, w, rfl⟩
    · rename_i h1
      exact .inl ⟨_, (run_ok h1 :), rfl⟩
  · exact .inl ⟨m, Nat.le_refl _, rfl⟩
theorem step_ge {p : Program} {m m' : Machine} (h : step p m = .next m') : m.world.drawn ≤ m'.world.drawn := by
  have key : ∀ m₀ : Machine, (∀ m₁ i, ask p m₀ = .goroutine m₁ i → m₀.world.drawn ≤ m₁.world.drawn) ∧ (∀ m₁ ops, ask p m₀ = .machine (.next m₁) ops → m₀.world.drawn ≤ m₁.world.drawn) := fun m₀ => by
    rcases ask_ok p m₀ with ⟨m₂, h2, he⟩ | ⟨o, w, he⟩
    · rw [he]
      exact ⟨fun m₁ i h => Nat.le_trans h2 (askOn_go _ _ _ _ h), fun m₁ ops h => Nat.le_trans h2 (askOn_next _ _ _ _ h)⟩
    · rw [he]
      exact ⟨fun m₁ i h => (by cases h), fun m₁ ops h => (by cases h)⟩
  have mv : (∀ m₁ i, move p m = .goroutine m₁ i → m.world.drawn ≤ m₁.world.drawn) ∧ (∀ m₁ ops, move p m = .machine (.next m₁) ops → m.world.drawn ≤ m₁.world.drawn) := by
    unfold move
    split
    · split
      · exact ⟨fun m₁ i h => (by cases h; exact Nat.le_refl _), fun m₁ ops h => (by cases h)⟩
      · exact ⟨fun m₁ i h => (by cases h), fun m₁ ops h => (by cases h)⟩
    · split
      · split
        · exact ⟨fun m₁ i h => (by cases h; exact Nat.le_refl _), fun m₁ ops h => (by cases h)⟩
        · exact key { m with rest := { m.rest with slice := none } }
      · exact key m
  unfold step stepT at h
  split at h
  · rename_i m₁ i hm
    exact Nat.le_trans (mv.1 _ _ hm) (runTm_ge _ _ _ _ _ h)
  · rename_i s ops hm
    dsimp only at h
    subst h
    exact mv.2 _ _ hm
theorem runN_ge {p : Program} : ∀ (n : Nat) {m m' : Machine}, runN p n m = .next m' → m.world.drawn ≤ m'.world.drawn
  | 0, m, m', h => by cases h; exact Nat.le_refl _
  | n + 1, m, m', h => by
    unfold runN at h
    split at h
    · rename_i hs
      exact Nat.le_trans (step_ge hs) (runN_ge n h)
    · rename_i hs
      exact absurd h (hs m')
/-- A call that returns, or panics, has taken no draw back. -/
theorem calls_drawn {P : Program} {f : FuncId} {args : Array Value} {w : World} {R : Ending → World → Prop} (h : Calls P f args w R) : Calls P f args w fun e w' => R e w' ∧ (e ≠ .outgrown → w.drawn ≤ w'.drawn) := by
  intro cs
  obtain ⟨e, w', fr, hR, hc, hf, hl⟩ := h cs
  refine ⟨e, w', fr, ⟨hR, fun he => ?_⟩, hc, hf, hl⟩
  cases e with
  | outgrown => exact absurd rfl he
  | returned v => obtain ⟨n, hn⟩ := hc; exact runN_ge n hn
  | panicked c => obtain ⟨n, hn⟩ := hc; exact runN_ge n hn
end Go.Proofs.YtefedalnafjcfaaGreatDoor

namespace Go.Proofs
open Go.Shelf
def Tryz.sortStr_ren : Go.Shelf.Ren := ⟨fun | 6 => 136 | 15 => 62 | 14 => 154 | 28 => 101 | 29 => 102 | 20 => 167 | 21 => 168 | 22 => 169 | 23 => 170 | 24 => 171 | 25 => 172 | 26 => 173 | 27 => 174 | 46 => 179 | 47 => 128 | 48 => 129 | 49 => 180 | 50 => 181 | 57 => 182 | n => n, fun | 22 => 36 | 24 => 9 | 25 => 174 | 3 => 3 | 39 => 123 | 0 => 0 | 53 => 154 | 55 => 156 | 4 => 4 | 46 => 148 | 45 => 147 | 50 => 84 | 5 => 5 | 9 => 9 | 66 => 182 | 70 => 186 | 76 => 202 | 77 => 203 | n => n, fun | n => n⟩
theorem Tryz.sortStr : Go.Proofs.SlLaysF.n6 Tryz.prog Tryz.sortStr_ren := {
  mixed := by kernel_rfl
  f6 := ⟨Tryz.f136.name, by decide, Tryz.func136.trans (congrArg some (by kernel_rfl))⟩
  f14 := ⟨Tryz.f154.name, by decide, Tryz.func154.trans (congrArg some (by kernel_rfl))⟩
  f15 := Tryz.func62.trans (congrArg some (by kernel_rfl))
  f20 := ⟨Tryz.f167.name, by decide, Tryz.func167.trans (congrArg some (by kernel_rfl))⟩
  f21 := ⟨Tryz.f168.name, by decide, Tryz.func168.trans (congrArg some (by kernel_rfl))⟩
  f22 := ⟨Tryz.f169.name, by decide, Tryz.func169.trans (congrArg some (by kernel_rfl))⟩
  f23 := ⟨Tryz.f170.name, by decide, Tryz.func170.trans (congrArg some (by kernel_rfl))⟩
  f24 := ⟨Tryz.f171.name, by decide, Tryz.func171.trans (congrArg some (by kernel_rfl))⟩
  f25 := ⟨Tryz.f172.name, by decide, Tryz.func172.trans (congrArg some (by kernel_rfl))⟩
  f26 := ⟨Tryz.f173.name, by decide, Tryz.func173.trans (congrArg some (by kernel_rfl))⟩
  f27 := ⟨Tryz.f174.name, by decide, Tryz.func174.trans (congrArg some (by kernel_rfl))⟩
  f28 := Tryz.func101.trans (congrArg some (by kernel_rfl))
  f29 := Tryz.func102.trans (congrArg some (by kernel_rfl))
  f46 := ⟨Tryz.f179.name, by decide, Tryz.func179.trans (congrArg some (by kernel_rfl))⟩
  f47 := Tryz.func128.trans (congrArg some (by kernel_rfl))
  f48 := Tryz.func129.trans (congrArg some (by kernel_rfl))
  f49 := ⟨Tryz.f180.name, by decide, Tryz.func180.trans (congrArg some (by kernel_rfl))⟩
  f50 := ⟨Tryz.f181.name, by decide, Tryz.func181.trans (congrArg some (by kernel_rfl))⟩
  f57 := ⟨Tryz.f182.name, by decide, Tryz.func182.trans (congrArg some (by kernel_rfl))⟩
  t0 := Tryz.underlying0
  a0 := Tryz.isAgg0
  z0 := Tryz.sizeOf0
  v0 := Tryz.zeroValue0
  t3 := Tryz.underlying3
  a3 := Tryz.isAgg3
  z3 := Tryz.sizeOf3
  v3 := Tryz.zeroValue3
  t4 := Tryz.underlying4
  a4 := Tryz.isAgg4
  z4 := Tryz.sizeOf4
  v4 := Tryz.zeroValue4
  t5 := Tryz.underlying5
  a5 := Tryz.isAgg5
  z5 := Tryz.sizeOf5
  v5 := Tryz.zeroValue5
  t9 := Tryz.underlying9
  a9 := Tryz.isAgg9
  z9 := Tryz.sizeOf9
  v9 := Tryz.zeroValue9
  t22 := Tryz.underlying36
  a22 := Tryz.isAgg36
  z22 := Tryz.sizeOf36
  v22 := Tryz.zeroValue36
  a24 := Tryz.isAgg9
  z24 := Tryz.sizeOf9
  t25 := Tryz.underlying174
  a25 := Tryz.isAgg174
  z25 := Tryz.sizeOf174
  v25 := Tryz.zeroValue174
  t39 := Tryz.underlying123
  a39 := Tryz.isAgg123
  z39 := Tryz.sizeOf123
  v39 := Tryz.zeroValue123
  t45 := Tryz.underlying147
  a45 := Tryz.isAgg147
  z45 := Tryz.sizeOf147
  v45 := Tryz.zeroValue147
  t46 := Tryz.underlying148
  a46 := Tryz.isAgg148
  z46 := Tryz.sizeOf148
  v46 := Tryz.zeroValue148
  t50 := Tryz.underlying84
  a50 := Tryz.isAgg84
  z50 := Tryz.sizeOf84
  v50 := Tryz.zeroValue84
  t53 := Tryz.underlying154
  a53 := Tryz.isAgg154
  z53 := Tryz.sizeOf154
  v53 := Tryz.zeroValue154
  t55 := Tryz.underlying156
  a55 := Tryz.isAgg156
  z55 := Tryz.sizeOf156
  v55 := Tryz.zeroValue156
  t66 := Tryz.underlying182
  a66 := Tryz.isAgg182
  z66 := Tryz.sizeOf182
  v66 := Tryz.zeroValue182
  t70 := Tryz.underlying186
  a70 := Tryz.isAgg186
  z70 := Tryz.sizeOf186
  v70 := Tryz.zeroValue186
  t76 := Tryz.underlying202
  a76 := Tryz.isAgg202
  z76 := Tryz.sizeOf202
  v76 := Tryz.zeroValue202
  t77 := Tryz.underlying203
  a77 := Tryz.isAgg203
  z77 := Tryz.sizeOf203
  v77 := Tryz.zeroValue203 }
open Go.RowKit Go.Lib Go.Sort in
/-- slices.SortFunc of strings -/
theorem Tryz.slices_SortFunc_string {α : Type} [Inhabited α] (enc : α → Value) (h1 : OneCell enc) (cf : α → α → Int) (hO : SWO (ltOf cf)) (g : Nat) (cb : Array Value) (blk off cap : Nat) (d : Array α) (w : World) (eg : ∀ args w, (callFunc g args).run Tryz.prog w = .ok (.enter g args) w) (hcmp : CmpLays1 Tryz.prog g cb enc cf blk off d.size w) (hH : Holds enc w blk off d) (hblk : blk < w.heap.size) (hsz : d.size < 4611686018427387904) (hT : ∀ x y, (ltOf cf) x y = false → (ltOf cf) y x = false → x = y) :
    Calls Tryz.prog 136 #[.slice (some ⟨blk, off, none⟩) d.size cap, .func (.func g) #[] cb] w fun e w' => e = .returned (.tuple #[]) ∧ ∃ n os, w' = sortWorld enc w blk off n (d.toList.mergeSort fun x y => !(ltOf cf) y x).toArray os := Any.slices_SortFunc_total Tryz.sortStr enc h1 cf hO g cb blk off cap d w eg hcmp hH hblk hsz hT
open Go.RowKit Go.Lib Go.Sort in
/-- slices.SortFunc of no string -/
theorem Tryz.slices_SortFunc_string_none (p : Option Addr) (cap : Nat) (fv : Value) (w : World) :
    Calls Tryz.prog 136 #[.slice p 0 cap, fv] w fun e w' => e = .returned (.tuple #[]) ∧ w' = w := AnyF.slices_SortFunc_none (P := Tryz.prog) (ρ := Tryz.sortStr_ren) { Tryz.sortStr with } p cap fv w
end Go.Proofs

namespace Go.Proofs.YtefedalnafjcfaaGreatDoor
open Go.RowKit Go.Shelf Go.Lib Go.Sort
set_option linter.unusedVariables false
theorem encS_str (l : List UInt8) : encS l = encStr l := rfl
/-- A text of no great length. -/
abbrev Txt := { l : List UInt8 // l.length ≤ 140737488355328 }
instance : Inhabited Txt := ⟨⟨[], by simp⟩⟩
def encT (x : Txt) : Value := encS x.1
def cmpT (x y : Txt) : Int := cmpB x.1 y.1
theorem swoT : SWO (ltOf cmpT) where
  irrefl x := by unfold ltOf cmpT; rw [cmpB_self]; rfl
  trans x y z h1 h2 := by
    unfold ltOf cmpT at *
    simp only [decide_eq_true_eq] at *
    have h3 := cmpB_trans (a := x.1) (b := y.1) (c := z.1) (by omega) (by omega)
    by_cases h : cmpB x.1 z.1 = 0
    · have := cmpB_zero h
      have hn := cmpB_neg y.1 z.1
      rw [← this] at hn h2
      omega
    · omega
  ntrans x y z h1 h2 := by
    unfold ltOf cmpT at *
    simp only [decide_eq_false_iff_not] at *
    have a1 := cmpB_neg x.1 y.1
    have a2 := cmpB_neg y.1 z.1
    have a3 := cmpB_neg x.1 z.1
    have h3 := cmpB_trans (a := z.1) (b := y.1) (c := x.1) (by omega) (by omega)
    omega
theorem totT (x y : Txt) (h1 : ltOf cmpT x y = false) (h2 : ltOf cmpT y x = false) : x = y := by
  unfold ltOf cmpT at *
  simp only [decide_eq_false_iff_not] at *
  have a1 := cmpB_neg x.1 y.1
  exact Subtype.ext (cmpB_zero (by omega))
theorem grow_of_mod {w w' : World} (h : Mod (fun _ => False) w w') (hd : w.drawn ≤ w'.drawn) : ∃ q os, w' = grow (w.drewN q) os := by
  refine ⟨w'.drawn - w.drawn, w'.heap.extract w.heap.size w'.heap.size, ?_⟩
  obtain ⟨heap', tape', drawn', os', output'⟩ := w'
  have e1 : os' = w.os := h.os
  have e2 : tape' = w.tape := h.tape
  have e3 : output' = w.output := h.output
  have hs : w.heap.size ≤ heap'.size := h.size
  have hb : ∀ k, k < w.heap.size → heap'[k]? = w.heap[k]? := fun k hk => h.block k hk id
  have hd' : w.drawn + (drawn' - w.drawn) = drawn' := by have : w.drawn ≤ drawn' := hd; omega
  subst e1 e2 e3
  have eh : heap' = w.heap ++ heap'.extract w.heap.size heap'.size := by
    apply Array.ext_getElem?
    intro k
    by_cases hk : k < w.heap.size
    · rw [Array.getElem?_append_left hk]; exact hb k hk
    · rw [Array.getElem?_append_right (by omega), Array.getElem?_extract]
      by_cases hk2 : k < heap'.size
      · rw [if_pos (by omega)]; congr 1; omega
      · rw [if_neg (by omega), Array.getElem?_eq_none (by omega)]
  show _ = World.mk _ _ _ _ _
  congr 1
  · exact hd'.symm
theorem putRow_map {α β : Type} [Inhabited α] [Inhabited β] (e : β → Value) (f : α → β) (w : World) (blk off : Nat) (d : Array α) : putRow (fun x => e (f x)) w blk off d = putRow e w blk off (d.map f) := by
  unfold putRow
  congr 1
  funext c
  unfold putCells
  rw [Array.size_map]
  congr 1
  funext k x
  split
  · rename_i h
    have hk : k - off < d.size := by omega
    congr 1
    rw [getElem!_pos d _ hk, getElem!_pos (d.map f) _ (by simpa using hk)]
    simp
  · rfl
theorem mod_sorted {α : Type} [Inhabited α] (enc : α → Value) (w : World) (g m : Nat) (d : Array α) (os : Array Obj) : Mod (fun k => k = g) w (grow (putRow enc (Sort.ahead w m) g 0 d) os) := by
  refine ⟨rfl, rfl, rfl, by simp [grow, putRow, mapBlock, Sort.ahead], fun k hk hne => ?_⟩
  rw [heap_grow_old _ _ (by simpa [putRow, mapBlock, Sort.ahead] using hk)]
  simp [putRow, mapBlock, Sort.ahead, Array.getElem?_modify, Ne.symm hne]
theorem putCells_head (ts : List (List UInt8)) (xs tail : List Value) (h : xs.length = ts.length) : putCells encStr 0 ts.toArray (xs ++ tail).toArray = (scells ts ++ tail).toArray := by
  apply Array.ext_getElem?
  intro j
  simp only [putCells, Array.getElem?_mapIdx, List.getElem?_toArray, List.size_toArray, Nat.zero_add, Nat.sub_zero, Nat.zero_le, true_and]
  by_cases hj : j < ts.length
  · rw [List.getElem?_append_left (by omega), List.getElem?_append_left (by rw [scells_len]; omega), List.getElem?_eq_getElem (by omega)]
    simp [hj, scells, encS_str]
  · rw [List.getElem?_append_right (by omega), List.getElem?_append_right (by rw [scells_len]; omega), scells_len, h]
    cases tail[j - ts.length]? <;> simp [hj]
def leB (x y : List UInt8) : Bool := decide (cmpB x y ≤ 0)
/-- slices.SortFunc(out, Compare), out a row of the call's own. -/
theorem sortFunc_own {w w0 : World} (E : Env w0) {g cap : Nat} {l : List (List UInt8)} {tail : List Value} (hm : Mod (fun _ => False) w0 w) (hg0 : w0.heap.size ≤ g) (hg : w.heap[g]? = some (.cells (scells l ++ tail).toArray 9 (0, 0))) (hne : l ≠ []) (hl : l.length ≤ 8796093022208) (hx : ∀ x ∈ l, x.length ≤ 140737488355328) :
    Calls Tryz.prog 136 #[.slice (some ⟨g, 0, none⟩) l.length cap, .func (.func 133) #[] #[]] w fun r w' => r = .returned (.tuple #[]) ∧
      w'.heap[g]? = some (.cells (scells (l.mergeSort leB) ++ tail).toArray 9 (0, 0)) ∧ Mod (fun k => k = g) w w' := by
  obtain ⟨d, hd⟩ : ∃ d : List Txt, d.map (·.1) = l := ⟨l.pmap (fun x h => ⟨x, h⟩) hx, by simp [List.map_pmap]⟩
  have hdl : d.length = l.length := by rw [← hd]; simp
  have hH : Holds encT w g 0 d.toArray := by
    intro j hj
    have hj' : j < d.length := by simpa using hj
    refine ⟨?_, Lib.frozen_of_heap hg _⟩
    rw [Lib.cell_of_heap hg, List.getElem?_toArray, Nat.zero_add, List.getElem?_append_left (by rw [scells_len]; omega)]
    rw [getElem!_pos d.toArray j hj]
    simp only [scells, ← hd, List.map_map]
    rw [List.getElem?_map, List.getElem?_eq_getElem hj']
    rfl
  have hglt := (Array.getElem?_eq_some_iff.1 hg).1
  have hcmp : CmpLays1 Tryz.prog 133 #[] encT cmpT g 0 d.toArray.size w := by
    intro m os dk hs x y
    have hW : Mod (fun _ => False) w0 (sortWorld encT w g 0 m dk os) := hm.trans (mod_sorted encT w g m dk os) (fun k hk => .inr (by omega))
    refine (calls_drawn (compare_any x.1 y.1 x.2 y.2 _ (E.mod0 hW))).mono ?_
    rintro e w' ⟨⟨rfl, hm'⟩, hdr⟩
    exact ⟨rfl, grow_of_mod hm' (hdr (by simp))⟩
  have := Tryz.slices_SortFunc_string encT (fun _ => rfl) cmpT swoT 133 #[] g 0 cap d.toArray w (enters_of Tryz.func133 (by kernel_rfl) rfl) hcmp hH hglt (by simp; omega) totT
  rw [List.size_toArray, hdl] at this
  refine this.mono ?_
  rintro e w' ⟨rfl, n, os, rfl⟩
  refine ⟨rfl, ?_, mod_sorted encT w g n _ os⟩
  have hmap : ((d.toArray.toList.mergeSort fun x y => !(ltOf cmpT) y x).toArray.map (·.1)) = (l.mergeSort leB).toArray := by
    rw [List.map_toArray]
    congr 1
    rw [← hd]
    refine List.map_mergeSort (fun a ha b hb => ?_)
    unfold ltOf cmpT leB
    have := cmpB_neg a.1 b.1
    by_cases h : cmpB a.1 b.1 ≤ 0
    · simp [h]; omega
    · simp [h]; omega
  unfold sortWorld
  rw [show encT = fun x : Txt => encStr x.1 from rfl, putRow_map encStr (fun x : Txt => x.1), hmap]
  have hls : (l.mergeSort leB).length = l.length := List.length_mergeSort _
  have hh := heap_sorted (n := n) (os := os) (l.mergeSort leB).toArray hg
  rw [hh]
  rw [putCells_head (l.mergeSort leB) (scells l) tail (by rw [scells_len, hls])]
end Go.Proofs.YtefedalnafjcfaaGreatDoor

