/- Regions that draw their order, whose operations read and whose calls answer with a value and write nothing that was there: one walk in the text's order. No program in it. -/
import Derived.Test.YtgdadhpcooegnaaDoorAgg
import Derived.Deep.QuietTactic
namespace Go.Proofs.YtgdadhpcooegnaaDoor
open Go.RowKit
set_option linter.unusedVariables false
/-- The worlds in which all that was there is as it was. -/
def ModW (w : World) : Type := {W : World // Mod (fun _ => False) w W}
instance ModW.nonempty (w : World) : Nonempty (ModW w) := ⟨⟨w, .refl _ _⟩⟩
theorem ModW.cell {w : World} {a : Addr} {v : Value} (h : w.cell? a = some v) (W : ModW w) : W.1.cell? a = some v := cell_step h (fun hl => W.2.block a.block hl id)
section
variable {P : Program} {ops : Array Oper} {C : World → Prop} {rest : List Oper} {o : Oper} {a : Act}
theorem wp_region_mod {id : Nat} {Q : Exit → Act → World → Prop} {w : World} {l : List Oper} (hm : P.follows .mixedOrders = true) (hB : Region.lexB .any l.toArray = true)
    (h : wpQuiet P l.toArray (fun w' => ∃ W : ModW w, w' = W.1) (fun a' => ∀ w', (∃ W : ModW w, w' = W.1) → Q .normal a' w') l a) : (Code.region id l.toArray true).wp P Q a w :=
  wp_region_quiet (C := fun w' => ∃ W : ModW w, w' = W.1) hm hB ⟨⟨w.drew, (Mod.refl _ w).drew⟩, rfl⟩ (by simpa using h)
/-- the same for operations in line: the walk of a region that draws nothing, from an operation on -/
theorem wpList_of_quiet {Q : Exit → Act → World → Prop} : ∀ (rest : List Oper) (a : Act) (w : World), wpQuiet P ops C (fun a' => ∀ w', C w' → Q .normal a' w') rest a → C w → wpList P ops Q rest a w
  | [], _, w, h, hc => h w hc
  | o :: rest, a, w, h, hc => by
    rw [wpList]
    rw [wpQuiet] at h
    split
    · rename_i hw
      rw [if_pos hw] at h
      obtain ⟨v, h1, h2⟩ := h
      left
      have h3 := h1 w hc
      have key : ∀ {a' : Act} {w' : World}, C w' → a' = a.put o.dst v → wpList P ops Q rest a' w' := fun hc' e => by subst e; exact wpList_of_quiet rest _ _ h2 hc'
      unfold Oper.quietAt at h3
      unfold Oper.wp
      generalize (execOp a.eval o).run P w = r at h3
      unfold Oper.quietUpon at h3
      split at h3
      · obtain ⟨rfl, rfl⟩ := h3; exact key hc rfl
      · obtain ⟨rfl, rfl⟩ := h3; exact key hc rfl
      · obtain ⟨rfl, h4⟩ := h3
        refine Calls.mono h4 ?_
        rintro e w'' ⟨rfl, hc'⟩
        exact key hc' rfl
      · exact h3.elim
    · rename_i hw
      rw [if_neg hw] at h
      exact wpList_of_quiet rest _ _ h hc
theorem wpList_mod {Q : Exit → Act → World → Prop} {w : World} (h : wpQuiet P ops (fun w' => ∃ W : ModW w, w' = W.1) (fun a' => ∀ w', (∃ W : ModW w, w' = W.1) → Q .normal a' w') rest a) : wpList P ops Q rest a w :=
  wpList_of_quiet _ _ _ h ⟨⟨w, .refl _ _⟩, rfl⟩
/-- a struct is read -/
theorem wpQuiet_load_agg {Q : Act → Prop} (hwant : Region.wanted o (yielded ops a.tmps) = true) (T : TypeId) (x : Operand) (ho : o.op = .load T x) {fs : Array Field} (hu : P.underlying T = some (.struct fs)) {n : Nat} (hi : (P.info? T).map (·.size) = some n) (ad : Addr) (hx : a.eval x = .pointer (some ad)) (cs : List Value) (hl : cs.length = n)
    (hc : ∀ w, C w → ∀ i u, cs[i]? = some u → w.cell? (ad.add i) = some u) (h : wpQuiet P ops C Q rest (a.put o.dst (.agg cs.toArray))) : wpQuiet P ops C Q (o :: rest) a := by
  refine wpQuiet_step fun K hK => ?_
  rw [if_pos hwant]
  refine ⟨.agg cs.toArray, fun w hw => ?_, hK _ h⟩
  unfold Oper.quietAt execOp
  simp only [ho, hx, Instr.loadAt, Instr.sureAddr, Sem.run_bind, Sem.run_pure, Result.andThen_ok, run_loadVar_agg hu hi hl (hc w hw)]
  exact ⟨rfl, rfl⟩
end
/-- a callee that answers v and writes nothing that was there -/
theorem quiet_mod {P : Program} {f : FuncId} {args : Array Value} {w : World} {W : ModW w} {v : Value} (h : Calls P f args W.1 fun e w' => e = .returned v ∧ Mod (fun _ => False) W.1 w') :
    Calls P f args W.1 fun e w'' => e = .returned v ∧ ∃ W' : ModW w, w'' = W'.1 :=
  h.mono fun _ w'' ⟨he, hm⟩ => ⟨he, ⟨w'', W.2.trans hm (fun _ h => h.elim)⟩, rfl⟩
end Go.Proofs.YtgdadhpcooegnaaDoor
