/- Part of this claim's proof (texts Path0, ObjS, Opens, Ob, TabC, TabM, joined by program). -/
import Derived.Test.YtefedalnafjcfaaGreatDoorA03
import Derived.Test.YtefedalnafjcfaaGreatDoorA06
import Derived.Test.YtefedalnafjcfaaGreatDoorA09
import Derived.Test.YtefedalnafjcfaaGreatDoorA07
import Derived.Test.YtefedalnafjcfaaGreatDoorA04
namespace Go.Proofs.YtefedalnafjcfaaGreatDoor
open Go.RowKit Go.Shelf
set_option linter.unusedVariables false
def numP (n : Int) : Bool := decide (0 ≤ n) && decide (n ≤ 1048576)
def rightP (p : List Int) : Bool := decide (p.length ≤ 6) && p.all numP
theorem rightP_iff {p : List Int} : rightP p = true ↔ p.length ≤ 6 ∧ ∀ k ∈ p, 0 ≤ k ∧ k ≤ 1048576 := by
  simp [rightP, numP]
/-- whose text? -/
def parseP (l : List UInt8) : Option (List Int) := if l = [] then some [] else pathS [] (splitB 46 l)
theorem parseP_iff {l : List UInt8} {p : List Int} : parseP l = some p ↔ rightP p = true ∧ pathT p = l := by
  unfold parseP
  rw [rightP_iff]
  by_cases hl : l = []
  · subst hl
    rw [if_pos rfl]
    constructor
    · intro h; cases h; simp [pathT]
    · rintro ⟨⟨h1, h2⟩, h3⟩
      rw [pathT_nil (fun k hk => (h2 k hk).1) h3]
  · rw [if_neg hl]
    constructor
    · intro h
      have hr := pathS_range _ _ _ h (by simp) (by simp)
      obtain ⟨ks, rfl, hks⟩ := pathS_map _ _ _ h
      refine ⟨⟨by simpa using hr.2, hr.1⟩, ?_⟩
      rw [pathT_join, hks, join_split]
    · rintro ⟨⟨h1, h2⟩, rfl⟩
      have hp : p ≠ [] := by rintro rfl; exact hl rfl
      rw [pathT_join, split_join _ (by simpa using hp), pathS_ok p [] h2 (by simpa using h1), List.nil_append]
      intro x hx
      obtain ⟨k, hk, rfl⟩ := List.mem_map.1 hx
      intro hm
      have := itoa_mem (h2 k hk).1 46 hm
      simp at this
/-- what the rounds of Parse have gathered, if the text is a path's -/
def Gather (l : List UInt8) (pre : List (List UInt8)) (acc : List Int) : Prop :=
  acc.length = pre.length ∧ acc.length ≤ 6 ∧ ∀ p, parseP l = some p → p.take acc.length = acc
theorem parseP_split {l : List UInt8} {p : List Int} (hl : l ≠ []) (h : parseP l = some p) : splitB 46 l = p.map Lib.itoa ∧ p.length ≤ 6 ∧ ∀ k ∈ p, 0 ≤ k ∧ k ≤ 1048576 := by
  have h0 := h
  unfold parseP at h
  rw [if_neg hl] at h
  obtain ⟨ks, rfl, hks⟩ := pathS_map _ _ _ h
  have hr := rightP_iff.1 (parseP_iff.1 h0).1
  exact ⟨hks.symm, hr⟩
theorem gather_bad {l x : List UInt8} {pre : List (List UInt8)} {acc : List Int} (hl : l ≠ []) (hpre : pre ++ [x] <+: splitB 46 l) (hg : Gather l pre acc)
    (hx : acc.length = 6 ∨ ∀ v, Lib.atoiAll x ≠ .ok v) : parseP l = none := by
  cases h : parseP l with
  | none => rfl
  | some p =>
    exfalso
    obtain ⟨h1, h2, h3⟩ := parseP_split hl h
    obtain ⟨t, ht⟩ := hpre
    have hlen : (splitB 46 l).length = p.length := by rw [h1]; simp
    have hlt : acc.length < p.length := by rw [← hlen, ← ht, hg.1]; simp
    rcases hx with hx | hx
    · omega
    · have hxe : (splitB 46 l)[pre.length]? = some x := by rw [← ht]; simp
      rw [h1, List.getElem?_map, ← hg.1, List.getElem?_eq_getElem hlt] at hxe
      have hxi : Lib.itoa p[acc.length] = x := by simpa using hxe
      have hk := h3 p[acc.length] (List.getElem_mem hlt)
      exact hx _ (hxi ▸ atoi_itoa _ hk.1 (by omega))
theorem gather_step {l x : List UInt8} {pre : List (List UInt8)} {acc : List Int} {v : Int} (hl : l ≠ []) (hpre : pre ++ [x] <+: splitB 46 l) (hg : Gather l pre acc)
    (h6 : acc.length ≠ 6) (hx : Lib.atoiAll x = .ok v) : Gather l (pre ++ [x]) (acc ++ [v]) := by
  refine ⟨by simp [hg.1], by have := hg.2.1; simp; omega, ?_⟩
  intro p h
  obtain ⟨h1, h2, h3⟩ := parseP_split hl h
  obtain ⟨t, ht⟩ := hpre
  have hlen : (splitB 46 l).length = p.length := by rw [h1]; simp
  have hlt : acc.length < p.length := by rw [← hlen, ← ht, hg.1]; simp
  have hxe : (splitB 46 l)[pre.length]? = some x := by rw [← ht]; simp
  rw [h1, List.getElem?_map, ← hg.1, List.getElem?_eq_getElem hlt] at hxe
  have hxi : Lib.itoa p[acc.length] = x := by simpa using hxe
  have hk := h3 p[acc.length] (List.getElem_mem hlt)
  have := atoi_itoa _ hk.1 (by omega)
  rw [hxi, hx] at this
  cases this
  rw [List.length_append, List.length_singleton, List.take_add_one, hg.2.2 p h, List.getElem?_eq_getElem hlt]
  rfl
theorem gather_end {l : List UInt8} {acc : List Int} (hl : l ≠ []) (hg : Gather l (splitB 46 l) acc) : parseP l = if rightP acc && (pathT acc == l) then some acc else none := by
  cases h : parseP l with
  | none =>
    split
    · next hc =>
      simp only [Bool.and_eq_true, beq_iff_eq] at hc
      have := parseP_iff.2 hc
      rw [h] at this; cases this
    · rfl
  | some p =>
    obtain ⟨h1, h2, h3⟩ := parseP_split hl h
    have hlen : acc.length = p.length := by rw [hg.1, h1]; simp
    have : p = acc := by rw [← hg.2.2 p h, hlen, List.take_length]
    subst this
    have := parseP_iff.1 h
    rw [if_pos (by simp [this])]
theorem itoa_neg_head {k : Int} (h : k < 0) : ∃ r, Lib.itoa k = 45 :: r ∧ ∀ c ∈ r, 48 ≤ c.toNat ∧ c.toNat ≤ 57 := by
  unfold Lib.itoa
  rw [if_pos h]
  exact ⟨_, rfl, dec_mem _⟩
theorem itoa_no_dot (k : Int) : 46 ∉ Lib.itoa k := by
  intro hm
  by_cases h : 0 ≤ k
  · have := itoa_mem h 46 hm; simp at this
  · obtain ⟨r, hr, hc⟩ := itoa_neg_head (k := k) (by omega)
    rw [hr] at hm
    rcases List.mem_cons.1 hm with h1 | h1
    · cases h1
    · have := hc 46 h1; simp at this
theorem itoa_ne' (k : Int) : Lib.itoa k ≠ [] := by
  by_cases h : 0 ≤ k
  · exact itoa_ne k h
  · obtain ⟨r, hr, hc⟩ := itoa_neg_head (k := k) (by omega)
    rw [hr]; simp
theorem dec_short {u : Nat} (h : u < 10) : Lib.decDigits u = [48 + UInt8.ofNat u] := by
  rw [Lib.decDigits, dif_pos h]; simp
theorem dig_inj {a b : Nat} (ha : a < 10) (hb : b < 10) (h : (48 : UInt8) + UInt8.ofNat a = 48 + UInt8.ofNat b) : a = b := by
  have h := congrArg UInt8.toNat h
  simp at h
  omega
theorem dec_inj : ∀ (u v : Nat), Lib.decDigits u = Lib.decDigits v → u = v := by
  intro u
  induction u using Nat.strongRecOn with
  | _ u ih =>
    intro v h
    have hne : ∀ m, 1 ≤ (Lib.decDigits m).length := fun m => by
      obtain ⟨c, r, h, _⟩ := dec_head m; rw [h]; simp
    by_cases hu : u < 10
    · by_cases hv : v < 10
      · rw [dec_short hu, dec_short hv] at h
        exact dig_inj hu hv (by simpa using h)
      · have := congrArg List.length h
        rw [dec_short hu, dec_step v (by omega), List.length_append] at this
        have h2 := hne (v / 10)
        simp only [List.length_cons, List.length_nil] at this; omega
    · by_cases hv : v < 10
      · have := congrArg List.length h
        rw [dec_short hv, dec_step u (by omega), List.length_append] at this
        have h2 := hne (u / 10)
        simp only [List.length_cons, List.length_nil] at this; omega
      · rw [dec_step u (by omega), dec_step v (by omega)] at h
        obtain ⟨h1, h2⟩ := List.append_inj' h rfl
        have h3 := ih (u / 10) (by omega) (v / 10) h1
        have h4 := dig_inj (Nat.mod_lt u (by omega)) (Nat.mod_lt v (by omega)) (by simpa using h2)
        omega
theorem itoa_inj {a b : Int} (h : Lib.itoa a = Lib.itoa b) : a = b := by
  by_cases ha : a < 0
  · by_cases hb : b < 0
    · unfold Lib.itoa at h
      rw [if_pos ha, if_pos hb] at h
      have := dec_inj _ _ (List.cons.inj h).2
      omega
    · obtain ⟨r, hr, _⟩ := itoa_neg_head ha
      rw [hr] at h
      have := itoa_mem (k := b) (by omega) 45 (by rw [← h]; simp)
      simp at this
  · by_cases hb : b < 0
    · obtain ⟨r, hr, _⟩ := itoa_neg_head hb
      rw [hr] at h
      have := itoa_mem (k := a) (by omega) 45 (by rw [h]; simp)
      simp at this
    · unfold Lib.itoa at h
      rw [if_neg ha, if_neg hb] at h
      have := dec_inj _ _ h
      omega
theorem pathT_inj {p q : List Int} (h : pathT p = pathT q) : p = q := by
  have hd : ∀ (l : List Int), ∀ x ∈ l.map Lib.itoa, (46 : UInt8) ∉ x := by
    intro l x hx
    obtain ⟨k, _, rfl⟩ := List.mem_map.1 hx
    exact itoa_no_dot k
  have hn : ∀ l : List Int, pathT l = [] → l = [] := by
    intro l hl
    cases l with
    | nil => rfl
    | cons a l =>
      exfalso
      cases l with
      | nil => exact itoa_ne' a (by simpa [pathT] using hl)
      | cons b l => simp [pathT] at hl
  by_cases hp : p = []
  · subst hp
    exact (hn q h.symm).symm
  by_cases hq : q = []
  · subst hq
    exact hn p h
  rw [pathT_join, pathT_join] at h
  have h1 := split_join (p.map Lib.itoa) (by simpa using hp) (hd p)
  have h2 := split_join (q.map Lib.itoa) (by simpa using hq) (hd q)
  rw [h, h2] at h1
  exact ((List.map_inj_right fun x y e => itoa_inj e).1 h1).symm
end Go.Proofs.YtefedalnafjcfaaGreatDoor

namespace Go.Proofs.YtefedalnafjcfaaGreatDoor
open Go.RowKit
set_option linter.unusedVariables false
structure Kid where
  n : Int
  kind : Int
  quota : Int
deriving DecidableEq
structure Sg where
  at_ : Int
  seg : List Int
  write : Bool
deriving DecidableEq
structure Ob where
  kind : Int
  label : List Entry
  kids : List Kid
  next : Int
  bytes : List UInt8
  own : List Nm
  cats : Int
  entry : List Entry
  ring : Int
  maps : List Sg
def zeroOb : Ob := ⟨0, [], [], 0, [], [], 0, [], 0, []⟩
structure KidsOk (o : Ob) : Prop where
  len : o.kids.length ≤ 16
  each : ∀ k ∈ o.kids, 0 ≤ k.n ∧ k.n < o.next ∧ 1 ≤ k.kind ∧ k.kind ≤ 5 ∧ 0 ≤ k.quota ∧ k.quota ≤ 1048576
  asc : (o.kids.map (·.n)).Pairwise (· < ·)
  next : 0 ≤ o.next ∧ o.next ≤ 1048577
structure MapsOk (l : List Sg) : Prop where
  len : l.length ≤ 4
  each : ∀ m ∈ l, 0 ≤ m.at_ ∧ m.at_ ≤ 1048576 ∧ rightP m.seg = true
  asc : (l.map (·.at_)).Pairwise (· < ·)
def foreignB (o : Ob) : Bool :=
  (decide (o.kind ≠ 1) && (decide (0 < o.kids.length) || decide (o.next ≠ 0))) || (decide (o.kind ≠ 2) && decide (0 < o.bytes.length)) || (decide (o.kind ≠ 3) && decide (o.kind ≠ 4) && decide (0 < o.own.length)) || (decide (o.kind ≠ 3) && decide (o.cats ≠ 0)) ||
    (decide (o.kind ≠ 4) && (decide (0 < o.entry.length) || decide (o.ring ≠ 0))) || (decide (o.kind ≠ 5) && decide (0 < o.maps.length))
structure RightOb (o : Ob) : Prop where
  kind : 1 ≤ o.kind ∧ o.kind ≤ 5
  label : RightL o.label
  kids : KidsOk o
  bytes : o.bytes.length ≤ 256
  own : RightO o.own
  cats : 0 ≤ o.cats ∧ o.cats ≤ 65536
  entry : RightL o.entry
  ring : 0 ≤ o.ring ∧ o.ring ≤ 1048576
  maps : MapsOk o.maps
  foreign : foreignB o = false
noncomputable def rightOb (o : Ob) : Bool := @decide (RightOb o) (Classical.propDecidable _)
theorem rightOb_iff {o : Ob} : rightOb o = true ↔ RightOb o := by unfold rightOb; exact @decide_eq_true_iff _ (Classical.propDecidable _)
def usesO (o : Ob) : Int := 16 + o.bytes.length + 8 * o.own.length + 16 * o.entry.length + 24 * o.maps.length + (o.kids.map (·.quota)).sum
/-- paths in order -/
def ltP (p q : List Int) : Prop := cmpL p q < 0
theorem ltP_irr (p : List Int) : ¬ ltP p p := by unfold ltP; rw [cmpL_self]; omega
theorem ltP_tr {p q r : List Int} (h1 : ltP p q) (h2 : ltP q r) : ltP p r := by
  unfold ltP at *
  have h := cmpL_trans p q r (by omega) (by omega)
  rcases Int.lt_or_eq_of_le h.1 with h3 | h3
  · exact h3
  · have := (h.2 h3).1; omega
theorem ltP_tri (p q : List Int) : ltP p q ∨ p = q ∨ ltP q p := by
  unfold ltP
  rcases cmpL_val p q with h | h | h
  · exact .inl (by omega)
  · exact .inr (.inl (cmpL_zero p q h))
  · exact .inr (.inr (by have := cmpL_neg p q; omega))
abbrev Tab := List (List Int × Ob)
def getT (L : Tab) (p : List Int) : Option Ob := L.lookup p
def AscT (L : Tab) : Prop := L.Pairwise fun x y => ltP x.1 y.1
theorem getT_nil (p : List Int) : getT [] p = none := rfl
theorem getT_cons (x : List Int × Ob) (L : Tab) (p : List Int) : getT (x :: L) p = if x.1 = p then some x.2 else getT L p := by
  unfold getT
  rw [List.lookup_cons]
  by_cases h : x.1 = p
  · subst h; simp
  · have : (p == x.1) = false := by simp; exact fun e => h e.symm
    rw [this, if_neg h]
theorem getT_mem {L : Tab} {p : List Int} {o : Ob} (h : getT L p = some o) : (p, o) ∈ L := by
  induction L with
  | nil => cases h
  | cons x L ih =>
    rw [getT_cons] at h
    split at h
    · next hx => cases h; rw [← hx]; exact .head _
    · exact .tail _ (ih h)
theorem getT_of_mem {L : Tab} {p : List Int} {o : Ob} (ha : AscT L) (h : (p, o) ∈ L) : getT L p = some o := by
  induction L with
  | nil => cases h
  | cons x L ih =>
    rw [getT_cons]
    obtain ⟨h1, h2⟩ := List.pairwise_cons.1 ha
    rcases List.mem_cons.1 h with rfl | hm
    · rw [if_pos rfl]
    · have hne : x.1 ≠ p := fun e => ltP_irr p (by have := h1 _ hm; rw [e] at this; exact this)
      rw [if_neg hne, ih h2 hm]
theorem getT_iff {L : Tab} (ha : AscT L) {p : List Int} {o : Ob} : getT L p = some o ↔ (p, o) ∈ L := ⟨getT_mem, getT_of_mem ha⟩
theorem getT_none {L : Tab} {p : List Int} : getT L p = none ↔ ∀ x ∈ L, x.1 ≠ p := by
  induction L with
  | nil => simp [getT_nil]
  | cons x L ih =>
    rw [getT_cons]
    by_cases h : x.1 = p
    · simp [h]
    · rw [if_neg h, ih]; simp [h]
/-- two ascending tables with the same objects are one -/
theorem tab_ext {L M : Tab} (hL : AscT L) (hM : AscT M) (h : ∀ p o, (p, o) ∈ L ↔ (p, o) ∈ M) : L = M := by
  induction L generalizing M with
  | nil =>
    cases M with
    | nil => rfl
    | cons y M => exact absurd ((h y.1 y.2).2 (.head _)) (by simp)
  | cons x L ih =>
    cases M with
    | nil => exact absurd ((h x.1 x.2).1 (.head _)) (by simp)
    | cons y M =>
      obtain ⟨a1, a2⟩ := List.pairwise_cons.1 hL
      obtain ⟨b1, b2⟩ := List.pairwise_cons.1 hM
      have hxy : x = y := by
        rcases List.mem_cons.1 ((h x.1 x.2).1 (.head _)) with e | e
        · exact e
        · rcases List.mem_cons.1 ((h y.1 y.2).2 (.head _)) with e2 | e2
          · exact e2.symm
          · exact absurd (ltP_tr (a1 _ e2) (b1 _ e)) (ltP_irr _)
      subst hxy
      rw [ih a2 b2]
      intro p o
      constructor
      · intro hm
        rcases List.mem_cons.1 ((h p o).1 (.tail _ hm)) with e | e
        · exact absurd (e ▸ a1 _ hm) (ltP_irr _)
        · exact e
      · intro hm
        rcases List.mem_cons.1 ((h p o).2 (.tail _ hm)) with e | e
        · exact absurd (e ▸ b1 _ hm) (ltP_irr _)
        · exact e
/-- a table with an object at a path -/
def layT : Tab → List Int → Ob → Tab
  | [], p, o => [(p, o)]
  | x :: L, p, o => if cmpL x.1 p < 0 then x :: layT L p o else if cmpL x.1 p = 0 then (p, o) :: L else (p, o) :: x :: L
theorem layT_mem {L : Tab} (ha : AscT L) (p : List Int) (o : Ob) : AscT (layT L p o) ∧ ∀ q x, (q, x) ∈ layT L p o ↔ (q = p ∧ x = o) ∨ (q ≠ p ∧ (q, x) ∈ L) := by
  induction L with
  | nil => exact ⟨List.pairwise_singleton _ _, fun q x => by simp [layT]⟩
  | cons y L ih =>
    obtain ⟨a1, a2⟩ := List.pairwise_cons.1 ha
    obtain ⟨i1, i2⟩ := ih a2
    rw [layT]
    split
    · next h =>
      have hyp : y.1 ≠ p := fun e => ltP_irr p (e ▸ h)
      refine ⟨List.pairwise_cons.2 ⟨fun z hz => ?_, i1⟩, fun q x => ?_⟩
      · rcases (i2 z.1 z.2).1 hz with ⟨h1, _⟩ | ⟨_, h1⟩
        · rw [h1]; exact h
        · exact a1 _ h1
      · rw [List.mem_cons, i2, List.mem_cons]
        constructor
        · rintro (rfl | h1 | h1)
          · exact .inr ⟨hyp, .inl rfl⟩
          · exact .inl h1
          · exact .inr ⟨h1.1, .inr h1.2⟩
        · rintro (h1 | ⟨h1, h2 | h2⟩)
          · exact .inr (.inl h1)
          · exact .inl h2
          · exact .inr (.inr ⟨h1, h2⟩)
    · next h =>
      split
      · next h2 =>
        have hyp := cmpL_zero _ _ h2
        refine ⟨List.pairwise_cons.2 ⟨fun z hz => by rw [← hyp]; exact a1 _ hz, a2⟩, fun q x => ?_⟩
        rw [List.mem_cons, List.mem_cons]
        constructor
        · rintro (h1 | h1)
          · cases h1; exact .inl ⟨rfl, rfl⟩
          · exact .inr ⟨fun e => ltP_irr p (by have := a1 _ h1; rw [hyp, e] at this; exact this), .inr h1⟩
        · rintro (⟨rfl, rfl⟩ | ⟨h1, h2 | h2⟩)
          · exact .inl rfl
          · exact absurd (by rw [← h2] at hyp; exact hyp) h1
          · exact .inr h2
      · next h2 =>
        have hlt : ltP p y.1 := by
          rcases ltP_tri p y.1 with h3 | h3 | h3
          · exact h3
          · exact absurd (by rw [h3, cmpL_self]) h2
          · exact absurd h3 h
        refine ⟨List.pairwise_cons.2 ⟨fun z hz => ?_, ha⟩, fun q x => ?_⟩
        · rcases List.mem_cons.1 hz with rfl | hz
          · exact hlt
          · exact ltP_tr hlt (a1 _ hz)
        · rw [List.mem_cons]
          constructor
          · rintro (h1 | h1)
            · cases h1; exact .inl ⟨rfl, rfl⟩
            · refine .inr ⟨fun e => ?_, h1⟩
              subst e
              rcases List.mem_cons.1 h1 with e | e
              · rw [← e] at hlt; exact ltP_irr _ hlt
              · exact ltP_irr _ (ltP_tr hlt (a1 _ e))
          · rintro (⟨rfl, rfl⟩ | ⟨h1, h2⟩)
            · exact .inl rfl
            · exact .inr h2
theorem layT_get {L : Tab} (ha : AscT L) (p : List Int) (o : Ob) (q : List Int) : getT (layT L p o) q = if q = p then some o else getT L q := by
  obtain ⟨h1, h2⟩ := layT_mem ha p o
  by_cases h : q = p
  · subst h; rw [if_pos rfl]; exact getT_of_mem h1 ((h2 _ _).2 (.inl ⟨rfl, rfl⟩))
  · rw [if_neg h]
    cases hg : getT L q with
    | none =>
      rw [getT_none] at hg ⊢
      intro x hx e
      rcases (h2 x.1 x.2).1 hx with ⟨h3, _⟩ | ⟨_, h3⟩
      · exact h (e.symm.trans h3)
      · exact hg _ h3 e
    | some x => exact getT_of_mem h1 ((h2 _ _).2 (.inr ⟨h, getT_mem hg⟩))
end Go.Proofs.YtefedalnafjcfaaGreatDoor

namespace Go.Proofs.YtefedalnafjcfaaGreatDoor
open Go.RowKit
set_option linter.unusedVariables false
theorem below0 {w w' : World} (h : Mod (fun _ => False) w w') : Below w.heap.size w w' := h.below (Nat.le_refl _) (fun _ h => h.elim)
end Go.Proofs.YtefedalnafjcfaaGreatDoor

namespace Go.Proofs.YtefedalnafjcfaaGreatDoor
open Go.RowKit
def KidR : Rd Kid := ((Rd.int .i64).pair ((Rd.int .i64).pair ((Rd.int .i64)))).iso fun x => (x.n, x.kind, x.quota)
theorem KidR_iff {w : World} {ok : Nat → Prop} {cs : List Value} {x : Kid} : KidR.rel w ok cs x ↔ ∃ c0 c1 c2, cs = c0 ++ (c1 ++ (c2)) ∧ (Rd.int .i64).rel w ok c0 x.n ∧ (Rd.int .i64).rel w ok c1 x.kind ∧ (Rd.int .i64).rel w ok c2 x.quota := by
  constructor
  · rintro ⟨c0, r0, rfl, h0, ⟨c1, r1, rfl, h1, h2⟩⟩
    exact ⟨c0, c1, _, rfl, h0, h1, h2⟩
  · rintro ⟨c0, c1, c2, rfl, h0, h1, h2⟩
    exact ⟨c0, _, rfl, h0, ⟨c1, _, rfl, h1, h2⟩⟩
def SgR : Rd Sg := ((Rd.int .i64).pair ((Rd.slice 8 (Rd.int .i64)).pair (Rd.bool))).iso fun x => (x.at_, x.seg, x.write)
theorem SgR_iff {w : World} {ok : Nat → Prop} {cs : List Value} {x : Sg} : SgR.rel w ok cs x ↔ ∃ c0 c1 c2, cs = c0 ++ (c1 ++ (c2)) ∧ (Rd.int .i64).rel w ok c0 x.at_ ∧ (Rd.slice 8 (Rd.int .i64)).rel w ok c1 x.seg ∧ Rd.bool.rel w ok c2 x.write := by
  constructor
  · rintro ⟨c0, r0, rfl, h0, ⟨c1, r1, rfl, h1, h2⟩⟩
    exact ⟨c0, c1, _, rfl, h0, h1, h2⟩
  · rintro ⟨c0, c1, c2, rfl, h0, h1, h2⟩
    exact ⟨c0, _, rfl, h0, ⟨c1, _, rfl, h1, h2⟩⟩
theorem SgR_at_ {w : World} {ok : Nat → Prop} {cs : List Value} {x : Sg} (h : SgR.rel w ok cs x) : (Rd.int .i64).rel w ok ((cs.drop 0).take 1) x.at_ := by
  obtain ⟨c0, c1, c2, rfl, h0, h1, h2⟩ := SgR_iff.1 h
  have l0 : c0.length = 1 := Rd.len _ h0
  have e : ((c0 ++ (c1 ++ (c2))).drop 0).take 1 = c0 := by
    rw [List.drop_zero, List.take_append_of_le_length (by omega), List.take_of_length_le (by omega)]
  rw [e]; exact h0
theorem SgR_seg {w : World} {ok : Nat → Prop} {cs : List Value} {x : Sg} (h : SgR.rel w ok cs x) : (Rd.slice 8 (Rd.int .i64)).rel w ok ((cs.drop 1).take 1) x.seg := by
  obtain ⟨c0, c1, c2, rfl, h0, h1, h2⟩ := SgR_iff.1 h
  have l0 : c0.length = 1 := Rd.len _ h0
  have l1 : c1.length = 1 := Rd.len _ h1
  have e : ((c0 ++ (c1 ++ (c2))).drop 1).take 1 = c1 := by
    rw [show 1 = c0.length + 0 by omega, ← List.drop_drop, List.drop_left]
    rw [List.drop_zero, List.take_append_of_le_length (by omega), List.take_of_length_le (by omega)]
  rw [e]; exact h1
theorem SgR_seg_at {w : World} {ok : Nat → Prop} {cs : List Value} {x : Sg} (h : SgR.rel w ok cs x) : ∃ A c, cs[1]? = some (.slice A x.seg.length c) ∧ (Rd.slice 8 (Rd.int .i64)).rel w ok [.slice A x.seg.length c] x.seg := by
  have h1 := SgR_seg h
  obtain ⟨A, c, hv, _⟩ := id h1
  rw [hv] at h1
  exact ⟨A, c, take_one hv, h1⟩
def ObR : Rd Ob := ((Rd.int .i64).pair ((Rd.slice 24 EntryR).pair ((Rd.slice 24 KidR).pair ((Rd.int .i64).pair (bytesR.pair (nmsR.pair ((Rd.int .i64).pair ((Rd.slice 24 EntryR).pair ((Rd.int .i64).pair ((Rd.slice 40 SgR))))))))))).iso fun x => (x.kind, x.label, x.kids, x.next, x.bytes, x.own, x.cats, x.entry, x.ring, x.maps)
theorem ObR_iff {w : World} {ok : Nat → Prop} {cs : List Value} {x : Ob} : ObR.rel w ok cs x ↔ ∃ c0 c1 c2 c3 c4 c5 c6 c7 c8 c9, cs = c0 ++ (c1 ++ (c2 ++ (c3 ++ (c4 ++ (c5 ++ (c6 ++ (c7 ++ (c8 ++ (c9))))))))) ∧ (Rd.int .i64).rel w ok c0 x.kind ∧ (Rd.slice 24 EntryR).rel w ok c1 x.label ∧ (Rd.slice 24 KidR).rel w ok c2 x.kids ∧ (Rd.int .i64).rel w ok c3 x.next ∧ bytesR.rel w ok c4 x.bytes ∧ nmsR.rel w ok c5 x.own ∧ (Rd.int .i64).rel w ok c6 x.cats ∧ (Rd.slice 24 EntryR).rel w ok c7 x.entry ∧ (Rd.int .i64).rel w ok c8 x.ring ∧ (Rd.slice 40 SgR).rel w ok c9 x.maps := by
  constructor
  · rintro ⟨c0, r0, rfl, h0, ⟨c1, r1, rfl, h1, ⟨c2, r2, rfl, h2, ⟨c3, r3, rfl, h3, ⟨c4, r4, rfl, h4, ⟨c5, r5, rfl, h5, ⟨c6, r6, rfl, h6, ⟨c7, r7, rfl, h7, ⟨c8, r8, rfl, h8, h9⟩⟩⟩⟩⟩⟩⟩⟩⟩
    exact ⟨c0, c1, c2, c3, c4, c5, c6, c7, c8, _, rfl, h0, h1, h2, h3, h4, h5, h6, h7, h8, h9⟩
  · rintro ⟨c0, c1, c2, c3, c4, c5, c6, c7, c8, c9, rfl, h0, h1, h2, h3, h4, h5, h6, h7, h8, h9⟩
    exact ⟨c0, _, rfl, h0, ⟨c1, _, rfl, h1, ⟨c2, _, rfl, h2, ⟨c3, _, rfl, h3, ⟨c4, _, rfl, h4, ⟨c5, _, rfl, h5, ⟨c6, _, rfl, h6, ⟨c7, _, rfl, h7, ⟨c8, _, rfl, h8, h9⟩⟩⟩⟩⟩⟩⟩⟩⟩
theorem ObR_kids {w : World} {ok : Nat → Prop} {cs : List Value} {x : Ob} (h : ObR.rel w ok cs x) : (Rd.slice 24 KidR).rel w ok ((cs.drop 2).take 1) x.kids := by
  obtain ⟨c0, c1, c2, c3, c4, c5, c6, c7, c8, c9, rfl, h0, h1, h2, h3, h4, h5, h6, h7, h8, h9⟩ := ObR_iff.1 h
  have l0 : c0.length = 1 := Rd.len _ h0
  have l1 : c1.length = 1 := Rd.len _ h1
  have l2 : c2.length = 1 := Rd.len _ h2
  have e : ((c0 ++ (c1 ++ (c2 ++ (c3 ++ (c4 ++ (c5 ++ (c6 ++ (c7 ++ (c8 ++ (c9)))))))))).drop 2).take 1 = c2 := by
    rw [show 2 = c0.length + 1 by omega, ← List.drop_drop, List.drop_left]
    rw [show 1 = c1.length + 0 by omega, ← List.drop_drop, List.drop_left]
    rw [List.drop_zero, List.take_append_of_le_length (by omega), List.take_of_length_le (by omega)]
  rw [e]; exact h2
end Go.Proofs.YtefedalnafjcfaaGreatDoor

namespace Go.Proofs.YtefedalnafjcfaaGreatDoor
open Go.RowKit Go.Shelf
set_option linter.unusedVariables false
theorem slice_row {α : Type} {R : Rd α} {B : Nat} {w : World} {ok : Nat → Prop} {A : Option Addr} {n c : Nat} {l : List α} (h : (Rd.slice B R).rel w ok [.slice A n c] l) :
    n = l.length ∧ l.length ≤ c ∧ c ≤ maxLen ∧ l.length * B ≤ 140737488355328 ∧ (A = none → c = 0) ∧ R.RowOf w ok A l := by
  obtain ⟨A', c', hv, h2, h3, h4, h5, h6⟩ := h
  simp only [List.cons.injEq, Value.slice.injEq, and_true] at hv
  obtain ⟨rfl, rfl, rfl⟩ := hv
  exact ⟨rfl, h2, h3, h4, h5, h6⟩
theorem Tryz.infoCKd : (Tryz.prog.info? 43).map (fun i => (i.zero, i.size, i.bytes)) = some (some (.agg #[.int .i64 0, .int .i64 0, .int .i64 0]), 3, 24) := by kernel_rfl
set_option maxRecDepth 100000 in
set_option maxHeartbeats 1000000 in
theorem cloneKd_any (A : Option Addr) (n c : Nat) (l : List Kid) (ok : Nat → Prop) (w : World) (h : (Rd.slice 24 KidR).rel w ok [.slice A n c] l) :
    Calls Tryz.prog 68 #[.slice A n c] w fun e w' => ∃ A' c', e = .returned (.slice A' l.length c') ∧ OwnR KidR 43 w' w.heap.size (fun k => ok k ∧ k < w.heap.size) (.slice A' l.length c') l ∧ Mod (fun _ => False) w w' := by
  replace h := Rd.bound h
  obtain ⟨rfl, hcap, hcm, hby, hnil, hrow⟩ := slice_row h
  clear h
  cases A with
  | none =>
    have hc0 : c = 0 := hnil rfl
    subst hc0
    have hl0 : l = [] := List.eq_nil_of_length_eq_zero (by omega)
    subst hl0
    clear hrow hnil hcap hcm hby
    have he := Go.run_eql_slice_nil (P := Tryz.prog) w 35 43 none 0 0 Tryz.underlying35
    go_enter Tryz.func68, Tryz.ntmps68
    go_wp2_with fail
    go_ret
    exact ⟨none, 0, rfl, OwnR.nil _ _ _ _ _, Mod.refl _ _⟩
  | some ad =>
    have HX := Lib.hid hrow
    have HBY := Lib.hid hby
    clear hrow hnil hby
    have he := Go.run_eql_slice_nil (P := Tryz.prog) w 35 43 (some ad) l.length c Tryz.underlying35
    go_enter Tryz.func68, Tryz.ntmps68
    go_wp2_with (at_builtin; refine append_all (R := KidR) w.heap.size rfl _ _ 35 43 (.agg #[.int .i64 0, .int .i64 0, .int .i64 0]) 24 rfl Tryz.underlying35 Tryz.infoCKd rfl (.slice (some ⟨w.heap.size, 0, none⟩) 0 0) [] l (fun k => ok k ∧ k < w.heap.size) (some ad) c rfl rfl ?c1 ?c2 (by intro e; cases e) ?c3 ?c4 (by decide) ?_)
    case c1 => exact ⟨[], World.ownsRow_made w #[] 0 (Nat.le_refl _) (by decide) rfl, fun j x h => by simp at h⟩
    case c2 => exact Rd.RowOf.weak <| HX.out.step fun k hk hl => ⟨⟨hk, fun e => by have := hk.2; simp only [Value.ownBlock, Option.some.injEq] at e; omega⟩, ((Mod.refl (fun _ => False) w).alloc _).block k hl id⟩
    case c3 => simp
    case c4 => rw [List.length_nil, Nat.zero_add]; exact HBY.out
    intro A' c' w1 hO hm hn
    have HY := Lib.hid (And.intro hO hm); clear hO hm hn
    go_wp2_with fail
    go_ret
    refine ⟨A', c', rfl, HY.out.1, ((Mod.refl (fun _ => False) w).alloc _).trans HY.out.2 (fun k hk => .inr ?_)⟩
    simp only [Value.ownBlock, Option.some.injEq] at hk
    omega
theorem Tryz.infoCSg : (Tryz.prog.info? 109).map (fun i => (i.zero, i.size, i.bytes)) = some (some (.agg #[.int .i64 0, .slice none 0 0, .bool false]), 3, 40) := by kernel_rfl
set_option maxRecDepth 100000 in
set_option maxHeartbeats 1000000 in
theorem cloneSg_any (A : Option Addr) (n c : Nat) (l : List Sg) (ok : Nat → Prop) (w : World) (h : (Rd.slice 40 SgR).rel w ok [.slice A n c] l) :
    Calls Tryz.prog 70 #[.slice A n c] w fun e w' => ∃ A' c', e = .returned (.slice A' l.length c') ∧ OwnR SgR 109 w' w.heap.size (fun k => ok k ∧ k < w.heap.size) (.slice A' l.length c') l ∧ Mod (fun _ => False) w w' := by
  replace h := Rd.bound h
  obtain ⟨rfl, hcap, hcm, hby, hnil, hrow⟩ := slice_row h
  clear h
  cases A with
  | none =>
    have hc0 : c = 0 := hnil rfl
    subst hc0
    have hl0 : l = [] := List.eq_nil_of_length_eq_zero (by omega)
    subst hl0
    clear hrow hnil hcap hcm hby
    have he := Go.run_eql_slice_nil (P := Tryz.prog) w 37 109 none 0 0 Tryz.underlying37
    go_enter Tryz.func70, Tryz.ntmps70
    go_wp2_with fail
    go_ret
    exact ⟨none, 0, rfl, OwnR.nil _ _ _ _ _, Mod.refl _ _⟩
  | some ad =>
    have HX := Lib.hid hrow
    have HBY := Lib.hid hby
    clear hrow hnil hby
    have he := Go.run_eql_slice_nil (P := Tryz.prog) w 37 109 (some ad) l.length c Tryz.underlying37
    go_enter Tryz.func70, Tryz.ntmps70
    go_wp2_with (at_builtin; refine append_all (R := SgR) w.heap.size rfl _ _ 37 109 (.agg #[.int .i64 0, .slice none 0 0, .bool false]) 40 rfl Tryz.underlying37 Tryz.infoCSg rfl (.slice (some ⟨w.heap.size, 0, none⟩) 0 0) [] l (fun k => ok k ∧ k < w.heap.size) (some ad) c rfl rfl ?c1 ?c2 (by intro e; cases e) ?c3 ?c4 (by decide) ?_)
    case c1 => exact ⟨[], World.ownsRow_made w #[] 0 (Nat.le_refl _) (by decide) rfl, fun j x h => by simp at h⟩
    case c2 => exact Rd.RowOf.weak <| HX.out.step fun k hk hl => ⟨⟨hk, fun e => by have := hk.2; simp only [Value.ownBlock, Option.some.injEq] at e; omega⟩, ((Mod.refl (fun _ => False) w).alloc _).block k hl id⟩
    case c3 => simp
    case c4 => rw [List.length_nil, Nat.zero_add]; exact HBY.out
    intro A' c' w1 hO hm hn
    have HY := Lib.hid (And.intro hO hm); clear hO hm hn
    go_wp2_with fail
    go_ret
    refine ⟨A', c', rfl, HY.out.1, ((Mod.refl (fun _ => False) w).alloc _).trans HY.out.2 (fun k hk => .inr ?_)⟩
    simp only [Value.ownBlock, Option.some.injEq] at hk
    omega
theorem Tryz.infoCEn : (Tryz.prog.info? 129).map (fun i => (i.zero, i.size, i.bytes)) = some (some (.agg #[.string ⟨#[]⟩, .int .i64 0]), 2, 24) := by kernel_rfl
set_option maxRecDepth 100000 in
set_option maxHeartbeats 1000000 in
theorem cloneEn_any (A : Option Addr) (n c : Nat) (l : List Entry) (ok : Nat → Prop) (w : World) (h : (Rd.slice 24 EntryR).rel w ok [.slice A n c] l) :
    Calls Tryz.prog 67 #[.slice A n c] w fun e w' => ∃ A' c', e = .returned (.slice A' l.length c') ∧ OwnR EntryR 129 w' w.heap.size (fun k => ok k ∧ k < w.heap.size) (.slice A' l.length c') l ∧ Mod (fun _ => False) w w' := by
  replace h := Rd.bound h
  obtain ⟨rfl, hcap, hcm, hby, hnil, hrow⟩ := slice_row h
  clear h
  cases A with
  | none =>
    have hc0 : c = 0 := hnil rfl
    subst hc0
    have hl0 : l = [] := List.eq_nil_of_length_eq_zero (by omega)
    subst hl0
    clear hrow hnil hcap hcm hby
    have he := Go.run_eql_slice_nil (P := Tryz.prog) w 34 129 none 0 0 Tryz.underlying34
    go_enter Tryz.func67, Tryz.ntmps67
    go_wp2_with fail
    go_ret
    exact ⟨none, 0, rfl, OwnR.nil _ _ _ _ _, Mod.refl _ _⟩
  | some ad =>
    have HX := Lib.hid hrow
    have HBY := Lib.hid hby
    clear hrow hnil hby
    have he := Go.run_eql_slice_nil (P := Tryz.prog) w 34 129 (some ad) l.length c Tryz.underlying34
    go_enter Tryz.func67, Tryz.ntmps67
    go_wp2_with (at_builtin; refine append_all (R := EntryR) w.heap.size rfl _ _ 34 129 (.agg #[.string ⟨#[]⟩, .int .i64 0]) 24 rfl Tryz.underlying34 Tryz.infoCEn rfl (.slice (some ⟨w.heap.size, 0, none⟩) 0 0) [] l (fun k => ok k ∧ k < w.heap.size) (some ad) c rfl rfl ?c1 ?c2 (by intro e; cases e) ?c3 ?c4 (by decide) ?_)
    case c1 => exact ⟨[], World.ownsRow_made w #[] 0 (Nat.le_refl _) (by decide) rfl, fun j x h => by simp at h⟩
    case c2 => exact Rd.RowOf.weak <| HX.out.step fun k hk hl => ⟨⟨hk, fun e => by have := hk.2; simp only [Value.ownBlock, Option.some.injEq] at e; omega⟩, ((Mod.refl (fun _ => False) w).alloc _).block k hl id⟩
    case c3 => simp
    case c4 => rw [List.length_nil, Nat.zero_add]; exact HBY.out
    intro A' c' w1 hO hm hn
    have HY := Lib.hid (And.intro hO hm); clear hO hm hn
    go_wp2_with fail
    go_ret
    refine ⟨A', c', rfl, HY.out.1, ((Mod.refl (fun _ => False) w).alloc _).trans HY.out.2 (fun k hk => .inr ?_)⟩
    simp only [Value.ownBlock, Option.some.injEq] at hk
    omega
theorem Tryz.infoCBy : (Tryz.prog.info? 5).map (fun i => (i.zero, i.size, i.bytes)) = some (some (.int .u8 0), 1, 1) := by kernel_rfl
set_option maxRecDepth 100000 in
set_option maxHeartbeats 1000000 in
theorem cloneBy_any (A : Option Addr) (n c : Nat) (l : List UInt8) (ok : Nat → Prop) (w : World) (h : (Rd.slice 1 Rd.byte).rel w ok [.slice A n c] l) :
    Calls Tryz.prog 42 #[.slice A n c] w fun e w' => ∃ A' c', e = .returned (.slice A' l.length c') ∧ OwnR Rd.byte 5 w' w.heap.size (fun k => ok k ∧ k < w.heap.size) (.slice A' l.length c') l ∧ Mod (fun _ => False) w w' := by
  replace h := Rd.bound h
  obtain ⟨rfl, hcap, hcm, hby, hnil, hrow⟩ := slice_row h
  clear h
  cases A with
  | none =>
    have hc0 : c = 0 := hnil rfl
    subst hc0
    have hl0 : l = [] := List.eq_nil_of_length_eq_zero (by omega)
    subst hl0
    clear hrow hnil hcap hcm hby
    have he := Go.run_eql_slice_nil (P := Tryz.prog) w 22 5 none 0 0 Tryz.underlying22
    go_enter Tryz.func42, Tryz.ntmps42
    go_wp2_with fail
    go_ret
    exact ⟨none, 0, rfl, OwnR.nil _ _ _ _ _, Mod.refl _ _⟩
  | some ad =>
    have HX := Lib.hid hrow
    have HBY := Lib.hid hby
    clear hrow hnil hby
    have he := Go.run_eql_slice_nil (P := Tryz.prog) w 22 5 (some ad) l.length c Tryz.underlying22
    go_enter Tryz.func42, Tryz.ntmps42
    go_wp2_with (at_builtin; refine append_all (R := Rd.byte) w.heap.size rfl _ _ 22 5 (.int .u8 0) 1 rfl Tryz.underlying22 Tryz.infoCBy rfl (.slice (some ⟨w.heap.size, 0, none⟩) 0 0) [] l (fun k => ok k ∧ k < w.heap.size) (some ad) c rfl rfl ?c1 ?c2 (by intro e; cases e) ?c3 ?c4 (by decide) ?_)
    case c1 => exact ⟨[], World.ownsRow_made w #[] 0 (Nat.le_refl _) (by decide) rfl, fun j x h => by simp at h⟩
    case c2 => exact Rd.RowOf.weak <| HX.out.step fun k hk hl => ⟨⟨hk, fun e => by have := hk.2; simp only [Value.ownBlock, Option.some.injEq] at e; omega⟩, ((Mod.refl (fun _ => False) w).alloc _).block k hl id⟩
    case c3 => simp
    case c4 => rw [List.length_nil, Nat.zero_add]; exact HBY.out
    intro A' c' w1 hO hm hn
    have HY := Lib.hid (And.intro hO hm); clear hO hm hn
    go_wp2_with fail
    go_ret
    refine ⟨A', c', rfl, HY.out.1, ((Mod.refl (fun _ => False) w).alloc _).trans HY.out.2 (fun k hk => .inr ?_)⟩
    simp only [Value.ownBlock, Option.some.injEq] at hk
    omega
theorem Tryz.infoCIn : (Tryz.prog.info? 3).map (fun i => (i.zero, i.size, i.bytes)) = some (some (.int .i64 0), 1, 8) := by kernel_rfl
set_option maxRecDepth 100000 in
set_option maxHeartbeats 1000000 in
theorem cloneIn_any (A : Option Addr) (n c : Nat) (l : List Int) (ok : Nat → Prop) (w : World) (h : (Rd.slice 8 (Rd.int .i64)).rel w ok [.slice A n c] l) :
    Calls Tryz.prog 64 #[.slice A n c] w fun e w' => ∃ A' c', e = .returned (.slice A' l.length c') ∧ OwnR (Rd.int .i64) 3 w' w.heap.size (fun k => ok k ∧ k < w.heap.size) (.slice A' l.length c') l ∧ Mod (fun _ => False) w w' := by
  replace h := Rd.bound h
  obtain ⟨rfl, hcap, hcm, hby, hnil, hrow⟩ := slice_row h
  clear h
  cases A with
  | none =>
    have hc0 : c = 0 := hnil rfl
    subst hc0
    have hl0 : l = [] := List.eq_nil_of_length_eq_zero (by omega)
    subst hl0
    clear hrow hnil hcap hcm hby
    have he := Go.run_eql_slice_nil (P := Tryz.prog) w 30 3 none 0 0 Tryz.underlying30
    go_enter Tryz.func64, Tryz.ntmps64
    go_wp2_with fail
    go_ret
    exact ⟨none, 0, rfl, OwnR.nil _ _ _ _ _, Mod.refl _ _⟩
  | some ad =>
    have HX := Lib.hid hrow
    have HBY := Lib.hid hby
    clear hrow hnil hby
    have he := Go.run_eql_slice_nil (P := Tryz.prog) w 30 3 (some ad) l.length c Tryz.underlying30
    go_enter Tryz.func64, Tryz.ntmps64
    go_wp2_with (at_builtin; refine append_all (R := (Rd.int .i64)) w.heap.size rfl _ _ 30 3 (.int .i64 0) 8 rfl Tryz.underlying30 Tryz.infoCIn rfl (.slice (some ⟨w.heap.size, 0, none⟩) 0 0) [] l (fun k => ok k ∧ k < w.heap.size) (some ad) c rfl rfl ?c1 ?c2 (by intro e; cases e) ?c3 ?c4 (by decide) ?_)
    case c1 => exact ⟨[], World.ownsRow_made w #[] 0 (Nat.le_refl _) (by decide) rfl, fun j x h => by simp at h⟩
    case c2 => exact Rd.RowOf.weak <| HX.out.step fun k hk hl => ⟨⟨hk, fun e => by have := hk.2; simp only [Value.ownBlock, Option.some.injEq] at e; omega⟩, ((Mod.refl (fun _ => False) w).alloc _).block k hl id⟩
    case c3 => simp
    case c4 => rw [List.length_nil, Nat.zero_add]; exact HBY.out
    intro A' c' w1 hO hm hn
    have HY := Lib.hid (And.intro hO hm); clear hO hm hn
    go_wp2_with fail
    go_ret
    refine ⟨A', c', rfl, HY.out.1, ((Mod.refl (fun _ => False) w).alloc _).trans HY.out.2 (fun k hk => .inr ?_)⟩
    simp only [Value.ownBlock, Option.some.injEq] at hk
    omega
end Go.Proofs.YtefedalnafjcfaaGreatDoor

namespace Go.Proofs.YtefedalnafjcfaaGreatDoor
open Go.RowKit
set_option linter.unusedVariables false
theorem ownsRow_put {w : World} {base : Nat} {e : TypeId} {size : Nat} {v : Value} {n : Nat} {xs : List Value} (h : w.ownsRow base e size v n xs) {b : Nat} (hb : v.ownBlock = some b) (j : Nat) (u : Value) : (w.setCell ⟨b, j, none⟩ u).ownsRow base e size v n (xs.set j u) := by
  obtain ⟨h1, h2⟩ := h
  refine ⟨by rw [List.length_set]; exact h1, ?_⟩
  rcases h2 with ⟨rfl, h2⟩ | ⟨g, cap, cur, rfl, hg, hh, hn, hm, hs, ht⟩
  · simp [Value.ownBlock] at hb
  · simp only [Value.ownBlock, Option.some.injEq] at hb
    subst hb
    refine .inr ⟨g, cap, cur.setIfInBounds j u, rfl, hg, set_of_blk hh j u, hn, hm, by simp [hs], ?_⟩
    rw [Array.toList_setIfInBounds, List.take_set, ht]
/-- the elements of a row of maps, one seg stored anew -/
theorem ownSg_seg {w : World} {e : TypeId} {base : Nat} {S : Nat → Prop} {v : Value} {l : List Sg} (h : OwnR SgR e w base S v l) {b : Nat} (hb : v.ownBlock = some b) (hS : ∀ k, S k → k ≠ b) {i : Nat} {x : Sg} (hi : l[i]? = some x) {u : Value}
    (hu : (Rd.slice 8 (Rd.int .i64)).rel w S [u] x.seg) : OwnR SgR e (w.setCell ⟨b, i * 3 + 1, none⟩ u) base S v l := by
  obtain ⟨cells, h1, h2⟩ := h
  have hm : Mod (fun k => k = b) w (w.setCell ⟨b, i * 3 + 1, none⟩ u) := (Mod.refl (fun k => k = b) w).setCell (a := ⟨b, i * 3 + 1, none⟩) (.inl rfl) _
  have hok : ∀ k, (S k ∧ some k ≠ v.ownBlock) → ¬ k = b := fun k hk e => hS k hk.1 e
  refine ⟨cells.set (i * 3 + 1) u, ownsRow_put h1 hb _ u, fun j y hj => ?_⟩
  have h3 := h2 j y hj
  have sz : SgR.sz = 3 := rfl
  rw [sz] at h3 ⊢
  by_cases hij : j = i
  · subst hij
    have : x = y := by rw [hi] at hj; exact Option.some.inj hj
    subst this
    obtain ⟨c0, c1, c2, hc, k0, k1, k2⟩ := SgR_iff.1 h3
    have l0 : c0.length = 1 := Rd.len _ k0
    have l1 : c1.length = 1 := Rd.len _ k1
    have l2 : c2.length = 1 := Rd.len _ k2
    obtain ⟨a0, rfl⟩ := List.length_eq_one_iff.1 l0
    obtain ⟨a1, rfl⟩ := List.length_eq_one_iff.1 l1
    obtain ⟨a2, rfl⟩ := List.length_eq_one_iff.1 l2
    have e1 : ((cells.set (j * 3 + 1) u).drop (j * 3)).take 3 = [a0, u, a2] := by
      have hk : ∀ k, k < 3 → cells[j * 3 + k]? = [a0, a1, a2][k]? := fun k hk => by
        have h := congrArg (fun l : List Value => l[k]?) hc
        simp only [List.getElem?_take_of_lt hk, List.getElem?_drop] at h
        simpa using h
      have hlt : j * 3 + 1 < cells.length := (List.getElem?_eq_some_iff.1 (hk 1 (by omega))).1
      apply List.ext_getElem?
      intro k
      by_cases h3k : k < 3
      · rw [List.getElem?_take_of_lt h3k, List.getElem?_drop]
        by_cases h1k : k = 1
        · subst h1k; rw [List.getElem?_set_self hlt]; rfl
        · rw [List.getElem?_set_ne (by omega), hk k h3k]
          match k, h3k, h1k with
          | 0, _, _ => rfl
          | 2, _, _ => rfl
      · rw [List.getElem?_eq_none (by simp; omega), List.getElem?_eq_none (by simp; omega)]
    rw [e1]
    refine SgR_iff.2 ⟨[a0], [u], [a2], rfl, Rd.mod k0 hm hok, Rd.mod (Rd.mono hu (fun k hk => ⟨hk, fun e => hS k hk (by rw [hb] at e; exact Option.some.inj e)⟩)) hm hok, Rd.mod k2 hm hok⟩
  · have e1 : ((cells.set (i * 3 + 1) u).drop (j * 3)).take 3 = (cells.drop (j * 3)).take 3 := by
      apply List.ext_getElem?
      intro k
      by_cases hk : k < 3
      · rw [List.getElem?_take_of_lt hk, List.getElem?_take_of_lt hk, List.getElem?_drop, List.getElem?_drop, List.getElem?_set_ne (by omega)]
      · rw [List.getElem?_eq_none (by simp; omega), List.getElem?_eq_none (by simp; omega)]
    rw [e1]
    exact Rd.mod h3 hm hok
end Go.Proofs.YtefedalnafjcfaaGreatDoor

