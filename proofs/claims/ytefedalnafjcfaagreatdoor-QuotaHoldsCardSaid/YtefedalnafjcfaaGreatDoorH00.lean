/- Part of this claim's proof (of texts Rd, TabR, QuoS, QuoP, Qta7, SegI, SegJ, joined by program). -/
import Derived.ChangeArms
import Derived.DataReads
import Derived.ChangeOld
import Derived.SizedLaws
import Derived.Lib.AppendStr
import Derived.Laws.IdiomStrings
import Derived.Laws.BytesArg
import Derived.Test.YtefedalnafjcfaaGreatDoorA31
import Derived.Test.YtefedalnafjcfaaGreatDoorA00
import Derived.Test.YtefedalnafjcfaaGreatDoorA01
import Derived.Test.YtefedalnafjcfaaGreatDoorA02
import Derived.Test.YtefedalnafjcfaaGreatDoorA03
import Derived.Test.YtefedalnafjcfaaGreatDoorA04
import Derived.Test.YtefedalnafjcfaaGreatDoorA05
import Derived.Test.YtefedalnafjcfaaGreatDoorA06
import Derived.Test.YtefedalnafjcfaaGreatDoorA07
import Derived.Test.YtefedalnafjcfaaGreatDoorA08
import Derived.Test.YtefedalnafjcfaaGreatDoorA09
import Derived.Test.YtefedalnafjcfaaGreatDoorA10
import Derived.Test.YtefedalnafjcfaaGreatDoorA11
import Derived.Test.YtefedalnafjcfaaGreatDoorA12
import Derived.Test.YtefedalnafjcfaaGreatDoorA13
import Derived.Test.YtefedalnafjcfaaGreatDoorA14
import Derived.Test.YtefedalnafjcfaaGreatDoorA15
import Derived.Test.YtefedalnafjcfaaGreatDoorA16
import Derived.Test.YtefedalnafjcfaaGreatDoorA17
import Derived.Test.YtefedalnafjcfaaGreatDoorA18
import Derived.Test.YtefedalnafjcfaaGreatDoorA19
import Derived.Test.YtefedalnafjcfaaGreatDoorA20
import Derived.Test.YtefedalnafjcfaaGreatDoorA21
import Derived.Test.YtefedalnafjcfaaGreatDoorA22
import Derived.Test.YtefedalnafjcfaaGreatDoorA23
import Derived.Test.YtefedalnafjcfaaGreatDoorA24
import Derived.Test.YtefedalnafjcfaaGreatDoorA25
import Derived.Test.YtefedalnafjcfaaGreatDoorA26
import Derived.Test.YtefedalnafjcfaaGreatDoorA27
import Derived.Test.YtefedalnafjcfaaGreatDoorA28
import Derived.Test.YtefedalnafjcfaaGreatDoorA29
import Derived.Test.YtefedalnafjcfaaGreatDoorA30
namespace Go.Proofs.YtefedalnafjcfaaGreatDoor
open Go.RowKit
set_option linter.unusedVariables false
namespace Rd
variable {α : Type}
end Rd
section
variable {P : Program} {α : Type} {R : Rd α} {bytes : Nat} {w : World} {ok : Nat → Prop} {A : Option Addr} {n c : Nat} {xs : List α}
end
theorem opens_int {P : Program} {T : TypeId} {k : IntKind} (ht : P.underlying T = some (.int k)) : Opens P (Rd.int k) T := by
  intro H enc W base spare held fuel cs d h _
  obtain ⟨n, rfl, _, hw⟩ := DataW.trod_int ht h
  exact ⟨n, rfl, hw⟩
end Go.Proofs.YtefedalnafjcfaaGreatDoor

namespace Go.Proofs.YtefedalnafjcfaaGreatDoor
open Go.RowKit
set_option linter.unusedVariables false
theorem prefix_snoc {p q : List Int} {n : Int} (h : p <+: q ++ [n]) : p <+: q ∨ p = q ++ [n] := by
  exact (List.prefix_concat_iff.1 h).symm
end Go.Proofs.YtefedalnafjcfaaGreatDoor

namespace Go.Proofs.YtefedalnafjcfaaGreatDoor
open Go.RowKit
set_option linter.unusedVariables false
/-- what is used by an object and all below, as the document says -/
def deepR (L : Tab) (p : List Int) : Int := ((L.filter fun x => p.isPrefixOf x.1).map fun x => usesO x.2 - kidSum x.2).sum
theorem deep_eq {L : Tab} (hv : ValidT L) (p : List Int) : deepC L p = deepR L p := by
  unfold deepC deepR
  congr 1
  apply List.map_congr_left
  intro x hx
  exact (own_part (hv.right _ _ (getT_of_mem hv.asc (List.mem_filter.1 hx).1))).symm
/-- the objects at and below one -/
theorem sub_perm {L : Tab} (hv : ValidT L) {p : List Int} {o : Ob} (ho : getT L p = some o) : ((L.filter fun x => p.isPrefixOf x.1).map (·.1)).Perm (p :: kidPaths (L.filter fun x => p.isPrefixOf x.1)) := by
  have hr : ∀ x ∈ L, RightOb x.2 := fun x hx => hv.right _ _ (getT_of_mem hv.asc hx)
  have hasc : AscT (L.filter fun x => p.isPrefixOf x.1) := hv.asc.filter _
  have hmem : ∀ x, x ∈ (L.filter fun x => p.isPrefixOf x.1) ↔ x ∈ L ∧ p <+: x.1 := fun x => by rw [List.mem_filter, List.isPrefixOf_iff_prefix]
  refine perm_same (paths_nodup hasc) ?_ fun q => ?_
  · rw [List.nodup_cons]
    refine ⟨fun h => ?_, kidPaths_nodup hasc fun x hx => hr x ((hmem x).1 hx).1⟩
    obtain ⟨x, hx, k, _, e⟩ := kidPaths_mem.1 h
    have h1 := ((hmem x).1 hx).2.length_le
    have h2 := congrArg List.length e
    simp at h2; omega
  · constructor
    · intro hq
      obtain ⟨x, hx, rfl⟩ := List.mem_map.1 hq
      obtain ⟨hxL, hxp⟩ := (hmem x).1 hx
      by_cases e : x.1 = p
      · rw [e]; exact .head _
      · have hne : x.1 ≠ [] := by rintro e2; rw [e2] at hxp e; exact e (List.eq_nil_of_prefix_nil hxp).symm
        have hg := getT_of_mem hv.asc hxL
        rw [snoc_of hne] at hg hxp e ⊢
        obtain ⟨c, hc, k, hkm, hn⟩ := hv.up _ _ _ hg
        refine .tail _ (kidPaths_mem.2 ⟨(_, c), (hmem _).2 ⟨getT_mem hc, ?_⟩, k, hkm, by rw [hn]⟩)
        rcases prefix_snoc hxp with h | h
        · exact h
        · exact absurd h.symm e
    · intro hq
      rcases List.mem_cons.1 hq with rfl | hq
      · exact List.mem_map.2 ⟨(q, o), (hmem _).2 ⟨getT_mem ho, List.prefix_refl _⟩, rfl⟩
      · obtain ⟨x, hx, k, hkm, rfl⟩ := kidPaths_mem.1 hq
        obtain ⟨hxL, hxp⟩ := (hmem x).1 hx
        obtain ⟨_, y, hy, _⟩ := hv.kid _ _ (getT_of_mem hv.asc hxL) k hkm
        exact List.mem_map.2 ⟨(_, y), (hmem _).2 ⟨getT_mem hy, hxp.trans (List.prefix_append _ _)⟩, rfl⟩
theorem deep_le {L : Tab} (hv : ValidT L) {p : List Int} {o : Ob} (ho : getT L p = some o) : deepR L p ≤ usesO o := by
  have h1 := sum_perm ((sub_perm hv ho).map (wOf L))
  have h2 : ∀ M : Tab, (∀ x ∈ M, x ∈ L) → ((kidPaths M).map (wOf L)).sum ≤ (M.map fun x => kidSum x.2).sum ∧ ((M.map (·.1)).map (wOf L)).sum = (M.map fun x => usesO x.2).sum ∧ (M.map fun x => usesO x.2 - kidSum x.2).sum = (M.map fun x => usesO x.2).sum - (M.map fun x => kidSum x.2).sum := by
    intro M
    induction M with
    | nil => intro _; simp [kidPaths]
    | cons x M ih =>
      intro hM
      obtain ⟨i1, i2, i3⟩ := ih fun y hy => hM y (.tail _ hy)
      have hg := getT_of_mem hv.asc (hM x (.head _))
      have e1 : kidPaths (x :: M) = x.2.kids.map (fun k => x.1 ++ [k.n]) ++ kidPaths M := rfl
      have hk : ∀ l : List Kid, (∀ k ∈ l, k ∈ x.2.kids) → ((l.map fun k => x.1 ++ [k.n]).map (wOf L)).sum ≤ (l.map (·.quota)).sum := by
        intro l
        induction l with
        | nil => intro _; simp
        | cons k l ihl =>
          intro hl
          have ihl := ihl fun y hy => hl y (.tail _ hy)
          obtain ⟨_, y, hy, _, hyu, _⟩ := hv.kid _ _ hg k (hl k (.head _))
          have : wOf L (x.1 ++ [k.n]) = usesO y := by unfold wOf; rw [hy]
          simp only [List.map_cons, List.sum_cons, this]
          omega
      have hk := hk x.2.kids fun k hk => hk
      have hw : wOf L x.1 = usesO x.2 := by unfold wOf; rw [hg]
      have hs : kidSum x.2 = (x.2.kids.map (·.quota)).sum := rfl
      rw [e1, List.map_append, List.sum_append]
      simp only [List.map_cons, List.sum_cons, hw, i2, i3]
      refine ⟨by omega, trivial, by omega⟩
  obtain ⟨a, b, c⟩ := h2 (L.filter fun x => p.isPrefixOf x.1) fun x hx => (List.mem_filter.1 hx).1
  have h3 : wOf L p = usesO o := by unfold wOf; rw [ho]
  simp only [List.map_cons, List.sum_cons, h3] at h1
  unfold deepR
  omega
end Go.Proofs.YtefedalnafjcfaaGreatDoor

namespace Go.Proofs.YtefedalnafjcfaaGreatDoor
open Go.RowKit
set_option linter.unusedVariables false
/-- a shift between two kids of one container -/
theorem shift_kids {L : Tab} (hv : ValidT L) {p : List Int} {o : Ob} (ho : getT L p = some o) {k j : Kid} (hk : k ∈ o.kids) (hj : j ∈ o.kids) (hne : k.n ≠ j.n) (n : Int) :
    ∃ c, getT (shiftT L (p ++ [k.n]) (p ++ [j.n]) n) p = some c ∧ usesO c = usesO o ∧
      (shiftE L (p ++ [k.n]) (p ++ [j.n]) n = 0 → quotaT (shiftT L (p ++ [k.n]) (p ++ [j.n]) n) (p ++ [k.n]) = quotaT L (p ++ [k.n]) - n ∧ quotaT (shiftT L (p ++ [k.n]) (p ++ [j.n]) n) (p ++ [j.n]) = quotaT L (p ++ [j.n]) + n) ∧
      (shiftE L (p ++ [k.n]) (p ++ [j.n]) n ≠ 0 → shiftT L (p ++ [k.n]) (p ++ [j.n]) n = L) := by
  by_cases hz : shiftE L (p ++ [k.n]) (p ++ [j.n]) n = 0
  case neg =>
    have : shiftT L (p ++ [k.n]) (p ++ [j.n]) n = L := if_neg hz
    exact ⟨o, by rw [this]; exact ho, rfl, fun h => absurd h hz, fun _ => this⟩
  case pos =>
    have hT : shiftT L (p ++ [k.n]) (p ++ [j.n]) n = moveT (moveT L (p ++ [k.n]) (-n)) (p ++ [j.n]) n := if_pos hz
    unfold shiftE at hz
    split at hz; · cases hz
    split at hz
    · next h => exact absurd hz h
    next h1 =>
    have h1 : moveE L (p ++ [k.n]) (-n) = 0 := by
      by_cases e : moveE L (p ++ [k.n]) (-n) = 0
      · exact e
      · exact absurd e h1
    have hv1 := valid_move hv (p ++ [k.n]) (-n)
    have q1 := quota_move hv h1
    have q2 := quota_move hv1 hz
    obtain ⟨u, c, k', o', hs, a1, a2, a3, a4, a5, a6, a7, a8, a9⟩ := move_zero hv h1
    obtain ⟨rfl, hs2⟩ := List.append_inj' hs rfl
    have hs2 : k.n = k'.n := by simpa using hs2
    rw [ho] at a2; cases a2
    obtain ⟨u2, c2, j', o2, hs3, b1, b2, b3, b4, b5, b6, b7, b8, b9⟩ := move_zero hv1 hz
    obtain ⟨rfl, hs4⟩ := List.append_inj' hs3 rfl
    have hs4 : j.n = j'.n := by simpa using hs4
    have g1 : getT (moveT L (p ++ [k.n]) (-n)) p = some (setQ o k'.n (k'.quota + -n)) := by rw [a9, layT_get hv.asc, if_pos rfl]
    rw [b2] at g1
    have hc2 := Option.some.inj g1
    have g2 : getT (moveT (moveT L (p ++ [k.n]) (-n)) (p ++ [j.n]) n) p = some (setQ c2 j'.n (j'.quota + n)) := by rw [b9, layT_get hv1.asc, if_pos rfl]
    have u1 := uses_setQ (hv.right _ _ ho).kids a3 (k'.quota + -n)
    have u2 := uses_setQ (hv1.right _ _ b2).kids b3 (j'.quota + n)
    have hpne : p ++ [k.n] ≠ p ++ [j.n] := fun e => hne (by simpa using e)
    refine ⟨_, by rw [hT]; exact g2, ?_, fun _ => ⟨?_, ?_⟩, fun h => absurd ?_ h⟩
    · rw [u2, hc2, u1]; omega
    · rw [hT, q2, if_neg hpne, q1, if_pos rfl]; omega
    · rw [hT, q2, if_pos rfl, q1, if_neg hpne.symm]
    · unfold shiftE
      rw [if_neg (by assumption), if_neg (by simpa using h1)]
      exact hz
end Go.Proofs.YtefedalnafjcfaaGreatDoor

namespace Go.Proofs.YtefedalnafjcfaaGreatDoor
open Go.RowKit Go.Shelf
set_option linter.unusedVariables false
theorem free_val {L : Tab} (hv : ValidT L) (p : List Int) : -4611686018427387904 ≤ freeT L p ∧ freeT L p ≤ 4611686018427387903 ∧ ∀ o, getT L p = some o → 0 ≤ freeT L p ∧ freeT L p = quotaT L p - usesO o ∧ freeT L p ≤ 1048576 := by
  unfold freeT
  cases hg : getT L p with
  | none => exact ⟨by dsimp only; decide, by dsimp only; decide, fun o h => by cases h⟩
  | some o =>
    have h1 := uses_le_quota hv hg
    have h2 := usesO_pos (hv.right _ _ hg)
    refine ⟨by dsimp only; omega, by dsimp only; omega, fun o' h => ?_⟩
    cases h
    dsimp only
    omega
end Go.Proofs.YtefedalnafjcfaaGreatDoor

namespace Go.Proofs.YtefedalnafjcfaaGreatDoor
open Go.RowKit
set_option linter.unusedVariables false
theorem filter_lt {p q : Nat → Bool} {i : Nat} : ∀ {l : List Nat}, i ∈ l → p i = true → q i = false → (∀ j, q j = true → p j = true) → (l.filter q).length < (l.filter p).length
  | [], h, _, _, _ => by cases h
  | x :: l, h, hp, hq, hs => by
    have hle : ∀ l : List Nat, (l.filter q).length ≤ (l.filter p).length := by
      intro l
      induction l with
      | nil => simp
      | cons y l ih =>
        rw [List.filter_cons, List.filter_cons]
        by_cases h1 : q y = true
        · rw [if_pos h1, if_pos (hs y h1)]; simpa using ih
        · rw [if_neg h1]
          split
          · simp only [List.length_cons]; omega
          · exact ih
    rw [List.filter_cons, List.filter_cons]
    rcases List.mem_cons.1 h with rfl | hm
    · rw [if_neg (by rw [hq]; decide), if_pos hp]
      have := hle l
      simp only [List.length_cons]; omega
    · have ih := filter_lt hm hp hq hs
      by_cases h1 : q x = true
      · rw [if_pos h1, if_pos (hs x h1)]; simpa using ih
      · rw [if_neg h1]
        split
        · simp only [List.length_cons]; omega
        · exact ih
section
variable {P : Program} {ops : Array Oper} {md : Region.Mode} {Q : Exit → Act → World → Prop}
def leftN (ops : Array Oper) (listed : Array Bool) : Nat := ((List.range ops.size).filter fun j => !listed.getD j true).length
theorem left_set {listed : Array Bool} {i : Nat} (hi : i < ops.size) (h : listed.getD i true = false) : leftN ops (listed.setIfInBounds i true) < leftN ops listed := by
  refine filter_lt (i := i) (List.mem_range.2 hi) (by simp only [h, Bool.not_false]) ?_ ?_
  · have : (listed.setIfInBounds i true).getD i true = true := by
      rw [Array.getD_eq_getD_getElem?]
      by_cases hl : i < listed.size
      · simp [hl]
      · simp [Array.getElem?_eq_none (Nat.le_of_not_lt (by simpa using hl))]
    simp only [this, Bool.not_true]
  · intro j hj
    by_cases e : i = j
    · subst e
      have : (listed.setIfInBounds i true).getD i true = true := by
        rw [Array.getD_eq_getD_getElem?]
        by_cases hl : i < listed.size
        · simp [hl]
        · simp [Array.getElem?_eq_none (Nat.le_of_not_lt (by simpa using hl))]
      rw [this] at hj; cases hj
    · rwa [getD_set_ne true e] at hj
/-- Whatever order: I holds all along, each ready operation keeps it, and at the end it gives what is asked. -/
theorem wpAny_inv (I : Array Bool → Act → World → Prop)
    (hs : ∀ listed a w i, I listed a w → i ∈ Region.ready md ops listed → wpOp P ops Q i (fun a' w' => I (listed.setIfInBounds i true) a' w') a w)
    (he : ∀ listed a w, I listed a w → Region.ready md ops listed = [] → Q .normal a w) :
    ∀ (fuel : Nat) (listed : Array Bool) (a : Act) (w : World), leftN ops listed ≤ fuel → I listed a w → wpAny P md ops Q fuel listed a w := by
  intro fuel
  induction fuel with
  | zero =>
    intro listed a w hf hI
    have hr : Region.ready md ops listed = [] := by
      rw [List.eq_nil_iff_forall_not_mem]
      intro i hi
      obtain ⟨h1, o, ho, -⟩ := mem_ready.1 hi
      have := left_set (ops := ops) (Array.getElem?_eq_some_iff.1 ho).1 h1
      omega
    exact wpAny_done hr (he _ _ _ hI hr) 0
  | succ fuel ih =>
    intro listed a w hf hI
    refine ⟨fun hr => he _ _ _ hI hr, fun i hi => ?_⟩
    obtain ⟨h1, o, ho, -⟩ := mem_ready.1 hi
    have := left_set (ops := ops) (Array.getElem?_eq_some_iff.1 ho).1 h1
    exact wpOp_mono (fun a' w' h => ih _ _ _ (by omega) h) (hs _ _ _ _ hI hi)
end
end Go.Proofs.YtefedalnafjcfaaGreatDoor

namespace Go.Proofs.YtefedalnafjcfaaGreatDoor
open Go.RowKit
set_option linter.unusedVariables false
def upd (d : Nat → Bool) (i j : Nat) : Bool := if j = i then true else d j
def upv (s : Nat → Value) (t : Nat) (v : Value) (t' : Nat) : Value := if t' = t then v else s t'
def doneN (listed : Array Bool) (j : Nat) : Bool := listed.getD j true
def slotN (a : Act) (t : Nat) : Value := a.tmps.getD t undef
/-- a differs from a0 in the slots D alone -/
structure FrameN (D : List Nat) (a0 a : Act) : Prop where
  defers : a.defers = a0.defers
  size : a.tmps.size = a0.tmps.size
  same : ∀ s, s ∉ D → a.tmps[s]? = a0.tmps[s]?
theorem FrameN.refl (D : List Nat) (a : Act) : FrameN D a a := ⟨rfl, rfl, fun _ _ => rfl⟩
theorem FrameN.put {D : List Nat} {a0 a : Act} (h : FrameN D a0 a) {t : Nat} (ht : t ∈ D) (v : Value) : FrameN D a0 (a.put (some t) v) := by
  refine ⟨h.defers, by simp [Act.put, h.size], fun s hs => ?_⟩
  have : t ≠ s := fun e => hs (e ▸ ht)
  simp only [Act.put]
  rw [Array.getElem?_setIfInBounds_ne this]
  exact h.same s hs
theorem FrameN.eval {D : List Nat} {a0 a : Act} (h : FrameN D a0 a) {t : Nat} (ht : t ∉ D) : slotN a t = slotN a0 t := by
  unfold slotN
  rw [Array.getD_eq_getD_getElem?, Array.getD_eq_getD_getElem?, h.same t ht]
theorem FrameN.slot_put {D : List Nat} {a0 a : Act} (h : FrameN D a0 a) {t : Nat} (ht : t < a0.tmps.size) (v : Value) : slotN (a.put (some t) v) = upv (slotN a) t v := by
  funext t'
  unfold slotN upv
  simp only [Act.put, Array.getD_eq_getD_getElem?]
  by_cases e : t' = t
  · subst e
    rw [if_pos rfl, Array.getElem?_setIfInBounds_self_of_lt (by rw [h.size]; exact ht)]; rfl
  · rw [if_neg e, Array.getElem?_setIfInBounds_ne (fun e2 => e e2.symm)]
theorem done_set {listed : Array Bool} {i : Nat} (hi : i < listed.size) : doneN (listed.setIfInBounds i true) = upd (doneN listed) i := by
  funext j
  unfold doneN upd
  simp only [Array.getD_eq_getD_getElem?]
  by_cases e : j = i
  · subst e
    rw [if_pos rfl, Array.getElem?_setIfInBounds_self_of_lt hi]; rfl
  · rw [if_neg e, Array.getElem?_setIfInBounds_ne (fun e2 => e e2.symm)]
theorem done_of {listed : Array Bool} {j : Nat} (h : listed.getD j false = true) : doneN listed j = true := by
  unfold doneN
  rw [Array.getD_eq_getD_getElem?] at h ⊢
  cases hx : listed[j]? with
  | none => rfl
  | some b => rw [hx] at h; exact h
/-- the whole of a, out of a0 and the slots -/
theorem FrameN.whole {D : List Nat} {a0 a : Act} (h : FrameN D a0 a) : a = ⟨D.foldl (fun t s => t.setIfInBounds s (slotN a s)) a0.tmps, a0.defers⟩ := by
  have key : ∀ (D' : List Nat) (t0 : Array Value), t0.size = a.tmps.size → (∀ s, s ∉ D' → a.tmps[s]? = t0[s]?) → a.tmps = D'.foldl (fun t s => t.setIfInBounds s (slotN a s)) t0 := by
    intro D'
    induction D' with
    | nil =>
      intro t0 hs hh
      apply Array.ext_getElem?
      intro i
      exact hh i (by simp)
    | cons x D' ih =>
      intro t0 hs hh
      rw [List.foldl_cons]
      refine ih _ (by simp [hs]) fun s hn => ?_
      by_cases e : s = x
      · subst e
        by_cases hl : s < t0.size
        · rw [Array.getElem?_setIfInBounds_self_of_lt hl]
          unfold slotN
          rw [Array.getD_eq_getD_getElem?, Array.getElem?_eq_getElem (by omega)]; rfl
        · rw [Array.getElem?_eq_none (by omega), Array.getElem?_eq_none (by simp; omega)]
      · rw [Array.getElem?_setIfInBounds_ne (fun e2 => e e2.symm)]
        exact hh s (by simp [e, hn])
  have := key D a0.tmps h.size.symm h.same
  cases a with
  | mk t d => have hd := h.defers; simp only at this hd; rw [hd]; congr 1
section
variable {P : Program} {ops : Array Oper} {md : Region.Mode} {Q : Exit → Act → World → Prop}
theorem wpOp_plain {i : Nat} {o : Oper} {K : Act → World → Prop} {a : Act} {w : World} (ho : ops[i]? = some o) (hg : o.guard = none) (h : if Region.wanted o (yielded ops a.tmps) = true then Oper.wp P o a w K Q else True) : wpOp P ops Q i K a w := by
  have hw : Region.wanted o (yielded ops a.tmps) = true := by simp [Region.wanted, hg]
  unfold wpOp
  simp only [ho, hw, if_true]
  rw [if_pos hw] at h
  exact .inl h
theorem step_val {o : Oper} {K : Act → World → Prop} {a : Act} {w w' : World} {E : Prop} (hgd : o.guard = none) (v : Value) (hr : (execOp a.eval o).run P w = .ok (.value v) w') (h : K (a.put o.dst v) w') : if Region.wanted o (yielded ops a.tmps) = true then Oper.wp P o a w K Q else E := by
  have hw : Region.wanted o (yielded ops a.tmps) = true := by simp [Region.wanted, hgd]
  rw [if_pos hw]
  unfold Oper.wp
  rw [hr]
  exact h
theorem all_listed (hb : ((List.range ops.size).all fun j => match ops[j]? with | none => true | some o => o.after.all fun e => decide (e.on < j)) = true) {listed : Array Bool} (hs : listed.size = ops.size) (hr : Region.ready md ops listed = []) : ∀ j, j < ops.size → doneN listed j = true := by
  intro j
  induction j using Nat.strongRecOn with
  | ind j ih =>
    intro hj
    cases hd : doneN listed j with
    | true => rfl
    | false =>
      have : j ∈ Region.ready md ops listed := by
        refine mem_ready.2 ⟨hd, ops[j], Array.getElem?_eq_getElem hj, fun e he hbd => ?_⟩
        have h1 := List.all_eq_true.1 hb j (List.mem_range.2 hj)
        simp only [Array.getElem?_eq_getElem hj] at h1
        have h2 := Array.all_eq_true_iff_forall_mem.1 h1 e he
        have h3 : e.on < j := by simpa using h2
        have h4 := ih e.on h3 (by omega)
        unfold doneN at h4
        rw [Array.getD_eq_getD_getElem?] at h4 ⊢
        rw [Array.getElem?_eq_getElem (show e.on < listed.size by omega)] at h4 ⊢
        exact h4
      rw [hr] at this; cases this
/-- A region that draws, its operations unguarded: J, of what is done, of the slots and the world, holds all along. -/
theorem wp_region_inv {id : Nat} {a0 : Act} {w0 : World} (D : List Nat) (J : (Nat → Bool) → (Nat → Value) → World → Prop) (hm : P.follows .mixedOrders = true)
    (hb : ((List.range ops.size).all fun j => match ops[j]? with | none => true | some o => o.after.all fun e => decide (e.on < j)) = true)
    (hd : (ops.all fun o => o.guard.isNone && match o.dst with | some t => D.contains t | none => false) = true) (hsz : ∀ t ∈ D, t < a0.tmps.size)
    (h0 : J (fun j => decide (ops.size ≤ j)) (slotN a0) w0.drew)
    (hstep : ∀ (i : Nat) (o : Oper), ops[i]? = some o → ∀ (d : Nat → Bool) (a : Act) (w : World), FrameN D a0 a → J d (slotN a) w → d i = false →
      (∀ e ∈ o.after, Region.binds .any e = true → d e.on = true) → (∀ (j : Nat) (o' : Oper), ops[j]? = some o' → d j = true → ∀ e ∈ o'.after, Region.binds .any e = true → d e.on = true) →
      ∀ K : Act → World → Prop, (∀ v w' t, o.dst = some t → J (upd d i) (upv (slotN a) t v) w' → K (a.put o.dst v) w') → (if Region.wanted o (yielded ops a.tmps) = true then Oper.wp P o a w K Q else True))
    (hend : ∀ a w, FrameN D a0 a → (∀ d : Nat → Bool, (∀ j, d j = true) → J d (slotN a) w → Q .normal a w)) : (Code.region id ops true).wp P Q a0 w0 := by
  refine wp_region_any hm ?_
  have hdst : ∀ (i : Nat) (o : Oper), ops[i]? = some o → o.guard = none ∧ ∃ t, o.dst = some t ∧ t ∈ D ∧ t < a0.tmps.size := by
    intro i o ho
    have h1 := Array.all_eq_true_iff_forall_mem.1 hd o (Array.mem_of_getElem? ho)
    simp only [Bool.and_eq_true, Option.isNone_iff_eq_none] at h1
    refine ⟨h1.1, ?_⟩
    cases ht : o.dst with
    | none => rw [ht] at h1; exact absurd h1.2 (by simp)
    | some t => rw [ht] at h1; simp only [List.contains_iff_mem] at h1; exact ⟨t, rfl, h1.2, hsz t h1.2⟩
  refine wpAny_inv (md := .any) (fun listed a w => listed.size = ops.size ∧ Closed .any ops listed ∧ FrameN D a0 a ∧ J (doneN listed) (slotN a) w) ?_ ?_ ops.size _ _ _ ?_ ⟨by simp, ?_, FrameN.refl _ _, ?_⟩
  · rintro listed a w i ⟨hs, hc, hf, hj⟩ hi
    obtain ⟨hu, o, ho, hall⟩ := mem_ready.1 hi
    have hlt := (Array.getElem?_eq_some_iff.1 ho).1
    obtain ⟨hg, t, ht, htD, htl⟩ := hdst i o ho
    refine wpOp_plain ho hg (hstep i o ho (doneN listed) a w hf hj hu (fun e he hbd => done_of (hall e he hbd)) (fun j o' ho' hdj e he hbd => done_of (hc j o' ho' hdj e he hbd)) _ fun v w' t' ht' hj' => ?_)
    rw [ht] at ht'
    cases ht'
    rw [ht]
    refine ⟨by simp [hs], hc.set hi, hf.put htD v, ?_⟩
    rw [done_set (by omega), hf.slot_put htl]
    exact hj'
  · rintro listed a w ⟨hs, hc, hf, hj⟩ hr
    refine hend a w hf (doneN listed) (fun j => ?_) hj
    by_cases hjl : j < ops.size
    · exact all_listed hb hs hr j hjl
    · unfold doneN
      rw [Array.getD_eq_getD_getElem?, Array.getElem?_eq_none (by omega)]; rfl
  · unfold leftN
    exact Nat.le_trans (List.length_filter_le _ _) (by simp)
  · intro j o ho hj
    have hlt := (Array.getElem?_eq_some_iff.1 ho).1
    rw [Array.getD_eq_getD_getElem?] at hj
    simp [hlt] at hj
  · have : doneN (Array.replicate ops.size false) = fun j => decide (ops.size ≤ j) := by
      funext j
      unfold doneN
      rw [Array.getD_eq_getD_getElem?]
      by_cases hjl : j < ops.size
      · first | (simp [hjl]; done) | (simp [hjl]; omega)
      · first | (simp [hjl]; done) | (simp [hjl]; omega)
    rw [this]
    exact h0
end
end Go.Proofs.YtefedalnafjcfaaGreatDoor

