/- Texts of this claim, joined: EntS, Lab0, Lab1, Ent, Quiet, Lab2, QuietG, Lab3, Lab4, LabI, Lab5, App. -/
import Derived.Test.YthhepnaanjicjaaGreatDoorP0
import Derived.Test.YthhepnaanjicjaaGreatDoorP4
import Derived.Test.YthhepnaanjicjaaGreatDoorP2
import Derived.Deep.QuietTactic
/- An entry of a label. No program in it. -/
namespace Go.Proofs.YthhepnaanjicjaaGreatDoor
structure Entry where
  cat : ByteArray
  level : Int
def nm (e : Entry) : List UInt8 := e.cat.data.toList
def ent (c : List UInt8) (n : Int) : Entry := ⟨mkStr c, n⟩
theorem nm_ent (c : List UInt8) (n : Int) : nm (ent c n) = c := mkStr_list c
theorem lev_ent (c : List UInt8) (n : Int) : (ent c n).level = n := rfl
theorem ent_nm (e : Entry) : ent (nm e) e.level = e := by
  unfold ent nm; rw [list_mkStr]
theorem ent_ext {a b : Entry} (h1 : nm a = nm b) (h2 : a.level = b.level) : a = b := by rw [← ent_nm a, ← ent_nm b, h1, h2]
end Go.Proofs.YthhepnaanjicjaaGreatDoor

/- Layer 6, labels: what they are, their levels, what is made; no program in it. -/
namespace Go.Proofs.YthhepnaanjicjaaGreatDoor
open Go.RowKit
set_option linter.unusedVariables false
/-- A right label. -/
structure RightL (l : List Entry) : Prop where
  len : l.length ≤ 8
  each : ∀ e ∈ l, rightB (nm e) = true ∧ 0 ≤ e.level ∧ e.level ≤ 3 ∧ e.level ≠ 1
  asc : (l.map nm).Pairwise ltB
noncomputable def rightLB (l : List Entry) : Bool := @decide (RightL l) (Classical.propDecidable _)
theorem rightLB_iff {l : List Entry} : rightLB l = true ↔ RightL l := by unfold rightLB; exact @decide_eq_true_iff _ (Classical.propDecidable _)
theorem rightLB_no {l : List Entry} (h : ¬ RightL l) : rightLB l = false := by rw [Bool.eq_false_iff]; exact fun e => h (rightLB_iff.1 e)
def levelL (l : List Entry) (c : List UInt8) : Int := match l.find? (fun e => nm e == c) with
  | some e => e.level
  | none => 1
def lastL (l : List Entry) (c : List UInt8) : Int := levelL l.reverse c
theorem levelL_nil (c : List UInt8) : levelL [] c = 1 := rfl
theorem levelL_cons (e : Entry) (l : List Entry) (c : List UInt8) : levelL (e :: l) c = if nm e = c then e.level else levelL l c := by
  unfold levelL
  rw [List.find?_cons]
  by_cases h : nm e = c
  · simp [h]
  · have : (nm e == c) = false := by simpa using h
    simp [this, h]
theorem levelL_not {l : List Entry} {c : List UInt8} (h : c ∉ l.map nm) : levelL l c = 1 := by
  unfold levelL
  have : l.find? (fun e => nm e == c) = none := by
    rw [List.find?_eq_none]
    intro e he hc
    exact h (List.mem_map.2 ⟨e, he, by simpa using hc⟩)
  rw [this]
theorem lastL_snoc (l : List Entry) (e : Entry) (c : List UInt8) : lastL (l ++ [e]) c = if nm e = c then e.level else lastL l c := by
  unfold lastL
  rw [List.reverse_append]
  exact levelL_cons e l.reverse c
theorem lastL_not {l : List Entry} {c : List UInt8} (h : c ∉ l.map nm) : lastL l c = 1 := by
  unfold lastL
  refine levelL_not ?_
  rwa [List.map_reverse, List.mem_reverse]
def ltE (a b : Entry) : Prop := ltB (nm a) (nm b)
theorem ltE_irr (x : Entry) : ¬ ltE x x := ltB_irr _
theorem ltE_tr (x y z : Entry) (h1 : ltE x y) (h2 : ltE y z) : ltE x z := ltB_tr _ _ _ h1 h2
theorem asc_iff {l : List Entry} : (l.map nm).Pairwise ltB ↔ l.Pairwise ltE := by rw [List.pairwise_map]; exact Iff.rfl
/-- In a rising list each name stands once. -/
theorem levelL_mem {l : List Entry} (h : l.Pairwise ltE) {e : Entry} (he : e ∈ l) : levelL l (nm e) = e.level := by
  induction l with
  | nil => simp at he
  | cons t l ih =>
    rw [List.pairwise_cons] at h
    rw [levelL_cons]
    rcases List.mem_cons.1 he with rfl | he
    · simp
    · rw [if_neg, ih h.2 he]
      intro e2
      have := h.1 e he
      unfold ltE at this
      rw [e2] at this
      exact ltB_irr _ this
theorem levelL_range {l : List Entry} (h : RightL l) (c : List UInt8) : 0 ≤ levelL l c ∧ levelL l c ≤ 3 := by
  by_cases hc : c ∈ l.map nm
  · obtain ⟨e, he, rfl⟩ := List.mem_map.1 hc
    rw [levelL_mem (asc_iff.1 h.asc) he]
    have := h.each e he
    omega
  · rw [levelL_not hc]; omega
theorem levelL_mem_ne {l : List Entry} {c : List UInt8} (h : levelL l c ≠ 1) : c ∈ l.map nm := by
  by_cases hc : c ∈ l.map nm
  · exact hc
  · exact absurd (levelL_not hc) h
/-- Each of some names at its level; the usual one is not said. -/
def tableL (ns : List (List UInt8)) (f : List UInt8 → Int) : List Entry := (ns.map fun c => ent c (f c)).filter fun e => decide (e.level ≠ 1)
theorem table_asc {ns : List (List UInt8)} (h : ns.Pairwise ltB) (f : List UInt8 → Int) : (tableL ns f).Pairwise ltE := by
  unfold tableL
  refine List.Pairwise.filter _ ?_
  rw [List.pairwise_map]
  exact h.imp (fun {a b} h => by show ltB (nm (ent a _)) (nm (ent b _)); rw [nm_ent, nm_ent]; exact h)
theorem table_mem {ns : List (List UInt8)} {f : List UInt8 → Int} {e : Entry} : e ∈ tableL ns f ↔ nm e ∈ ns ∧ e.level = f (nm e) ∧ e.level ≠ 1 := by
  unfold tableL
  rw [List.mem_filter, List.mem_map]
  simp only [decide_eq_true_eq]
  constructor
  · rintro ⟨⟨c, hc, rfl⟩, h2⟩
    rw [nm_ent]
    exact ⟨hc, rfl, h2⟩
  · rintro ⟨h1, h2, h3⟩
    exact ⟨⟨nm e, h1, by rw [← h2]; exact ent_nm e⟩, h3⟩
theorem table_level {ns : List (List UInt8)} (h : ns.Pairwise ltB) {f : List UInt8 → Int} (hf : ∀ c, c ∉ ns → f c = 1) (c : List UInt8) : levelL (tableL ns f) c = f c := by
  by_cases hc : f c = 1
  · rw [levelL_not, hc]
    intro hm
    obtain ⟨e, he, rfl⟩ := List.mem_map.1 hm
    obtain ⟨_, h2, h3⟩ := table_mem.1 he
    exact h3 (h2.trans hc)
  · have hm : c ∈ ns := by
      by_cases h1 : c ∈ ns
      · exact h1
      · exact absurd (hf c h1) hc
    have : ent c (f c) ∈ tableL ns f := table_mem.2 ⟨by rw [nm_ent]; exact hm, by rw [nm_ent]; rfl, hc⟩
    have h2 := levelL_mem (table_asc h f) this
    rw [nm_ent] at h2
    exact h2
/-- A right label is told by its levels. -/
theorem right_table {l : List Entry} (h : RightL l) {ns : List (List UInt8)} (hn : ns.Pairwise ltB) (hm : ∀ c, levelL l c ≠ 1 → c ∈ ns) : l = tableL ns (levelL l) := by
  refine strict_unique ltE_irr ltE_tr (asc_iff.1 h.asc) (table_asc hn _) fun e => ?_
  rw [table_mem]
  constructor
  · intro he
    have h1 := levelL_mem (asc_iff.1 h.asc) he
    have h2 := (h.each e he).2.2.2
    exact ⟨hm _ (by rw [h1]; exact h2), h1.symm, h2⟩
  · rintro ⟨h1, h2, h3⟩
    have h4 := levelL_mem_ne (l := l) (c := nm e) (by rw [← h2]; exact h3)
    obtain ⟨e2, he2, hn2⟩ := List.mem_map.1 h4
    have h5 := levelL_mem (asc_iff.1 h.asc) he2
    rw [hn2] at h5
    rw [ent_ext hn2.symm (h2.trans h5)]
    exact he2
theorem right_ext {a b : List Entry} (ha : RightL a) (hb : RightL b) (h : ∀ c, levelL a c = levelL b c) : a = b := by
  have hs := (sortS_spec (a.map nm ++ b.map nm)).1
  have hmem : ∀ c, c ∈ a.map nm ∨ c ∈ b.map nm → c ∈ sortS (a.map nm ++ b.map nm) := by
    intro c hc
    rw [(sortS_spec _).2]
    refine ⟨List.mem_append.2 hc, ?_⟩
    rcases hc with hc | hc
    · obtain ⟨e, he, rfl⟩ := List.mem_map.1 hc; exact (ha.each e he).1
    · obtain ⟨e, he, rfl⟩ := List.mem_map.1 hc; exact (hb.each e he).1
  have e1 := right_table ha hs (fun c hc => hmem c (.inl (levelL_mem_ne hc)))
  have e2 := right_table hb hs (fun c hc => hmem c (.inr (levelL_mem_ne hc)))
  rw [show levelL a = levelL b from funext h] at e1
  exact e1.trans e2.symm
/-! what is made of entries -/
def makeE : List Entry → Int
  | [] => 0
  | e :: l => if rightB (nm e) = false then 20 else if e.level < 0 ∨ 3 < e.level then 21 else makeE l
theorem makeE_zero : ∀ {l : List Entry}, makeE l = 0 ↔ ∀ e ∈ l, rightB (nm e) = true ∧ 0 ≤ e.level ∧ e.level ≤ 3
  | [] => by simp [makeE]
  | e :: l => by
    unfold makeE
    have ih := makeE_zero (l := l)
    by_cases h1 : rightB (nm e) = false
    · rw [if_pos h1]; simp [h1]
    · by_cases h2 : e.level < 0 ∨ 3 < e.level
      · rw [if_neg h1, if_pos h2]
        constructor
        · intro h; cases h
        · intro h; have := h e (by simp); omega
      · rw [if_neg h1, if_neg h2, ih]
        have h1' : rightB (nm e) = true := by simpa using h1
        constructor
        · intro h x hx
          rcases List.mem_cons.1 hx with rfl | hx
          · exact ⟨h1', by omega, by omega⟩
          · exact h x hx
        · intro h x hx; exact h x (List.mem_cons_of_mem _ hx)
theorem makeE_cons (e : Entry) (l : List Entry) : makeE (e :: l) = if rightB (nm e) = false then 20 else if e.level < 0 ∨ 3 < e.level then 21 else makeE l := rfl
theorem makeE_append (a b : List Entry) : makeE (a ++ b) = if makeE a = 0 then makeE b else makeE a := by
  induction a with
  | nil => simp [makeE]
  | cons e a ih =>
    rw [List.cons_append, makeE_cons, makeE_cons]
    by_cases h1 : rightB (nm e) = false
    · simp [h1]
    · by_cases h2 : e.level < 0 ∨ 3 < e.level
      · simp [h1, h2]
      · simp only [if_neg h1, if_neg h2]; exact ih
def makeL (l : List Entry) : List Entry := tableL (sortS (l.map nm)) (lastL l)
def resM (l : List Entry) : List Entry × Int := if makeE l ≠ 0 then ([], makeE l) else if 8 < (makeL l).length then ([], 13) else (makeL l, 0)
theorem lastL_range {l : List Entry} (h : makeE l = 0) (c : List UInt8) : 0 ≤ lastL l c ∧ lastL l c ≤ 3 := by
  unfold lastL levelL
  split
  · rename_i e he
    have hm := List.mem_of_find?_eq_some he
    have := makeE_zero.1 h e (by simpa using hm)
    omega
  · omega
theorem make_level {l : List Entry} (h : makeE l = 0) (c : List UInt8) : levelL (makeL l) c = lastL l c := by
  refine table_level (sortS_spec _).1 (fun c hc => ?_) c
  rw [(sortS_spec _).2] at hc
  refine lastL_not fun hm => hc ⟨hm, ?_⟩
  obtain ⟨e, he, rfl⟩ := List.mem_map.1 hm
  exact (makeE_zero.1 h e he).1
theorem make_right {l : List Entry} (h : makeE l = 0) (hl : (makeL l).length ≤ 8) : RightL (makeL l) where
  len := hl
  each := fun e he => by
    obtain ⟨h1, h2, h3⟩ := table_mem.1 he
    have h4 := lastL_range h (nm e)
    rw [(sortS_spec _).2] at h1
    exact ⟨h1.2, by omega, by omega, h3⟩
  asc := asc_iff.2 (table_asc (sortS_spec _).1 _)
theorem resM_ok {l : List Entry} (h : (resM l).2 = 0) : makeE l = 0 ∧ RightL (resM l).1 ∧ (resM l).1 = makeL l := by
  unfold resM at h ⊢
  by_cases h1 : makeE l ≠ 0
  · rw [if_pos h1] at h; exact absurd h h1
  · rw [if_neg h1] at h ⊢
    by_cases h2 : 8 < (makeL l).length
    · rw [if_pos h2] at h; cases h
    · rw [if_neg h2]
      have h1' : makeE l = 0 := by simpa using h1
      exact ⟨h1', make_right h1' (by simpa using h2), rfl⟩
/-! the code's way: one entry at a time -/
def stepL : List Entry → Entry → List Entry
  | [], e => [e]
  | t :: ts, e => if cmpB (nm t) (nm e) < 0 then t :: stepL ts e else if nm t = nm e then e :: ts else e :: t :: ts
noncomputable def rawL (l : List Entry) : List Entry := l.foldl stepL []
theorem rawL_snoc (l : List Entry) (e : Entry) : rawL (l ++ [e]) = stepL (rawL l) e := by simp [rawL, List.foldl_append]
theorem step_spec (e : Entry) : ∀ l : List Entry, l.Pairwise ltE → (stepL l e).Pairwise ltE ∧ ∀ x, x ∈ stepL l e ↔ x = e ∨ (x ∈ l ∧ nm x ≠ nm e)
  | [], _ => by simp [stepL]
  | t :: ts, h => by
    rw [List.pairwise_cons] at h
    unfold stepL
    by_cases h1 : cmpB (nm t) (nm e) < 0
    · rw [if_pos h1]
      obtain ⟨i1, i2⟩ := step_spec e ts h.2
      refine ⟨List.pairwise_cons.2 ⟨fun y hy => ?_, i1⟩, fun x => ?_⟩
      · rcases (i2 y).1 hy with rfl | hy
        · exact h1
        · exact h.1 y hy.1
      · simp only [List.mem_cons, i2]
        have hne : nm t ≠ nm e := (ltB_iff.1 (show ltB (nm t) (nm e) from h1)).2
        constructor
        · rintro (rfl | rfl | hx)
          · exact .inr ⟨.inl rfl, hne⟩
          · exact .inl rfl
          · exact .inr ⟨.inr hx.1, hx.2⟩
        · rintro (rfl | ⟨rfl | hx, h3⟩)
          · exact .inr (.inl rfl)
          · exact .inl rfl
          · exact .inr (.inr ⟨hx, h3⟩)
    · rw [if_neg h1]
      by_cases h2 : nm t = nm e
      · rw [if_pos h2]
        have hgt : ∀ y ∈ ts, ltB (nm e) (nm y) := fun y hy => by rw [← h2]; exact h.1 y hy
        refine ⟨List.pairwise_cons.2 ⟨hgt, h.2⟩, fun x => ?_⟩
        simp only [List.mem_cons]
        constructor
        · rintro (rfl | hx)
          · exact .inl rfl
          · exact .inr ⟨.inr hx, (ltB_iff.1 (hgt x hx)).2.symm⟩
        · rintro (rfl | ⟨rfl | hx, h3⟩)
          · exact .inl rfl
          · exact absurd h2 h3
          · exact .inr hx
      · rw [if_neg h2]
        have hlt : ltB (nm e) (nm t) := by
          unfold ltB
          have := cmpB_neg (nm t) (nm e)
          have h0 : cmpB (nm t) (nm e) ≠ 0 := fun h => h2 (cmpB_zero h)
          omega
        have hgt : ∀ y ∈ t :: ts, ltE e y := fun y hy => by
          rcases List.mem_cons.1 hy with rfl | hy
          · exact hlt
          · exact ltE_tr _ _ _ hlt (h.1 y hy)
        refine ⟨List.pairwise_cons.2 ⟨hgt, List.pairwise_cons.2 h⟩, fun x => ?_⟩
        rw [List.mem_cons]
        constructor
        · rintro (rfl | hx)
          · exact .inl rfl
          · exact .inr ⟨hx, (ltB_iff.1 (hgt x hx)).2.symm⟩
        · rintro (rfl | ⟨hx, h3⟩)
          · exact .inl rfl
          · exact .inr hx
theorem raw_spec (l : List Entry) : (rawL l).Pairwise ltE ∧ ∀ x, x ∈ rawL l ↔ nm x ∈ l.map nm ∧ x.level = lastL l (nm x) := by
  induction l using snoc_ind with
  | h0 => simp [rawL]
  | h1 l e ih =>
    rw [rawL_snoc]
    obtain ⟨h1, h2⟩ := step_spec e _ ih.1
    refine ⟨h1, fun x => ?_⟩
    rw [h2, ih.2, lastL_snoc, List.map_append, List.mem_append]
    simp only [List.map_cons, List.map_nil, List.mem_singleton]
    by_cases hx : nm e = nm x
    · rw [if_pos hx]
      constructor
      · rintro (rfl | ⟨_, h⟩)
        · exact ⟨.inr rfl, rfl⟩
        · exact absurd hx.symm h
      · rintro ⟨_, h⟩
        exact .inl (ent_ext hx.symm h)
    · rw [if_neg hx]
      have hx' : nm x ≠ nm e := fun h => hx h.symm
      constructor
      · rintro (rfl | ⟨h, _⟩)
        · exact absurd rfl hx
        · exact ⟨.inl h.1, h.2⟩
      · rintro ⟨h | h, h3⟩
        · exact .inr ⟨⟨h, h3⟩, hx'⟩
        · exact absurd h hx'
/-- The two ways are one. -/
theorem raw_make {l : List Entry} (h : makeE l = 0) : (rawL l).filter (fun e => decide (e.level ≠ 1)) = makeL l := by
  refine strict_unique ltE_irr ltE_tr (List.Pairwise.filter _ (raw_spec l).1) (table_asc (sortS_spec _).1 _) fun x => ?_
  unfold makeL
  rw [List.mem_filter, (raw_spec l).2, table_mem, (sortS_spec _).2]
  simp only [decide_eq_true_eq]
  constructor
  · rintro ⟨⟨h1, h2⟩, h3⟩
    refine ⟨⟨h1, ?_⟩, h2, h3⟩
    obtain ⟨e, he, hn⟩ := List.mem_map.1 h1
    rw [← hn]; exact (makeE_zero.1 h e he).1
  · rintro ⟨⟨h1, _⟩, h2, h3⟩
    exact ⟨⟨h1, h2⟩, h3⟩
end Go.Proofs.YthhepnaanjicjaaGreatDoor

/- Layer 6, labels: flowing, joins and meets, With; no program in it. -/
namespace Go.Proofs.YthhepnaanjicjaaGreatDoor
open Go.RowKit
set_option linter.unusedVariables false
structure FlowsL (a b : List Entry) : Prop where
  ra : RightL a
  rb : RightL b
  le : ∀ c, levelL a c ≤ levelL b c
noncomputable def flowsLB (a b : List Entry) : Bool := @decide (FlowsL a b) (Classical.propDecidable _)
theorem flowsLB_iff {a b : List Entry} : flowsLB a b = true ↔ FlowsL a b := by unfold flowsLB; exact @decide_eq_true_iff _ (Classical.propDecidable _)
theorem flowsLB_no {a b : List Entry} (h : ¬ FlowsL a b) : flowsLB a b = false := by rw [Bool.eq_false_iff]; exact fun e => h (flowsLB_iff.1 e)
def namesL (a b : List Entry) : List (List UInt8) := sortS ((a ++ b).map nm)
theorem namesL_asc (a b : List Entry) : (namesL a b).Pairwise ltB := (sortS_spec _).1
theorem namesL_mem {a b : List Entry} (ha : RightL a) (hb : RightL b) (c : List UInt8) : c ∈ namesL a b ↔ c ∈ a.map nm ∨ c ∈ b.map nm := by
  unfold namesL
  rw [(sortS_spec _).2, List.map_append, List.mem_append]
  refine ⟨fun h => h.1, fun h => ⟨h, ?_⟩⟩
  rcases h with h | h
  · obtain ⟨e, he, rfl⟩ := List.mem_map.1 h; exact (ha.each e he).1
  · obtain ⟨e, he, rfl⟩ := List.mem_map.1 h; exact (hb.each e he).1
theorem namesL_right (a b : List Entry) : ∀ c ∈ namesL a b, rightB c = true := fun c hc => (((sortS_spec _).2 c).1 hc).2
theorem flows_names {a b : List Entry} (ha : RightL a) (hb : RightL b) : FlowsL a b ↔ ∀ c ∈ namesL a b, levelL a c ≤ levelL b c := by
  constructor
  · exact fun h c _ => h.le c
  · intro h
    refine ⟨ha, hb, fun c => ?_⟩
    by_cases hc : c ∈ namesL a b
    · exact h c hc
    · rw [namesL_mem ha hb] at hc
      rw [levelL_not (fun h => hc (.inl h)), levelL_not (fun h => hc (.inr h))]
      omega
theorem flows_each {a b : List Entry} (ha : RightL a) (hb : RightL b) : FlowsL a b ↔ (∀ e ∈ a, e.level ≤ levelL b (nm e)) ∧ ∀ e ∈ b, levelL a (nm e) ≤ e.level := by
  rw [flows_names ha hb]
  constructor
  · intro h
    refine ⟨fun e he => ?_, fun e he => ?_⟩
    · have := h (nm e) ((namesL_mem ha hb _).2 (.inl (List.mem_map.2 ⟨e, he, rfl⟩)))
      rwa [levelL_mem (asc_iff.1 ha.asc) he] at this
    · have := h (nm e) ((namesL_mem ha hb _).2 (.inr (List.mem_map.2 ⟨e, he, rfl⟩)))
      rwa [levelL_mem (asc_iff.1 hb.asc) he] at this
  · rintro ⟨h1, h2⟩ c hc
    rcases (namesL_mem ha hb c).1 hc with hc | hc
    · obtain ⟨e, he, rfl⟩ := List.mem_map.1 hc
      rw [levelL_mem (asc_iff.1 ha.asc) he]
      exact h1 e he
    · obtain ⟨e, he, rfl⟩ := List.mem_map.1 hc
      rw [levelL_mem (asc_iff.1 hb.asc) he]
      exact h2 e he
/-! joins and meets -/
def mixIn (pick : Int → Int → Int) (a b : List Entry) : List Entry := (namesL a b).map fun c => ent c (pick (levelL a c) (levelL b c))
def mixR (pick : Int → Int → Int) (a b : List Entry) : List Entry := (a ++ b).map fun e => ent (nm e) (pick (levelL a (nm e)) (levelL b (nm e)))
noncomputable def resX (pick : Int → Int → Int) (a b : List Entry) : List Entry × Int := if rightLB a = true ∧ rightLB b = true then resM (mixIn pick a b) else ([], 21)
theorem map_nm_ent (ns : List (List UInt8)) (f : List UInt8 → Int) : (ns.map fun c => ent c (f c)).map nm = ns := by
  rw [List.map_map]
  exact (List.map_congr_left (fun c _ => nm_ent c _)).trans (List.map_id ns)
theorem last_map (ns : List (List UInt8)) (f : List UInt8 → Int) (c : List UInt8) : lastL (ns.map fun c => ent c (f c)) c = if c ∈ ns then f c else 1 := by
  induction ns using snoc_ind with
  | h0 => rfl
  | h1 ns a ih =>
    rw [List.map_append, List.map_cons, List.map_nil, lastL_snoc, nm_ent, ih]
    by_cases h : a = c
    · subst h; simp [lev_ent]
    · have : c ≠ a := fun e => h e.symm
      simp [h, this]
theorem pick_range {pick : Int → Int → Int} (hp : ∀ m n : Int, pick m n = m ∨ pick m n = n) {a b : List Entry} (ha : RightL a) (hb : RightL b) (c : List UInt8) : 0 ≤ pick (levelL a c) (levelL b c) ∧ pick (levelL a c) (levelL b c) ≤ 3 := by
  have h1 := levelL_range ha c
  have h2 := levelL_range hb c
  rcases hp (levelL a c) (levelL b c) with h | h <;> rw [h] <;> omega
theorem mixIn_zero {pick : Int → Int → Int} (hp : ∀ m n : Int, pick m n = m ∨ pick m n = n) {a b : List Entry} (ha : RightL a) (hb : RightL b) : makeE (mixIn pick a b) = 0 := by
  rw [makeE_zero]
  intro e he
  obtain ⟨c, hc, rfl⟩ := List.mem_map.1 he
  rw [nm_ent, lev_ent]
  exact ⟨namesL_right a b c hc, pick_range hp ha hb c⟩
theorem mixR_names (pick : Int → Int → Int) (a b : List Entry) : (mixR pick a b).map nm = (a ++ b).map nm := by
  unfold mixR
  rw [List.map_map]
  exact List.map_congr_left (fun e _ => nm_ent _ _)
theorem mixR_eq (pick : Int → Int → Int) (a b : List Entry) : mixR pick a b = ((a ++ b).map nm).map fun c => ent c (pick (levelL a c) (levelL b c)) := by
  unfold mixR
  rw [List.map_map]; rfl
theorem mixR_zero {pick : Int → Int → Int} (hp : ∀ m n : Int, pick m n = m ∨ pick m n = n) {a b : List Entry} (ha : RightL a) (hb : RightL b) : makeE (mixR pick a b) = 0 := by
  rw [makeE_zero]
  intro e he
  obtain ⟨x, hx, rfl⟩ := List.mem_map.1 he
  rw [nm_ent, lev_ent]
  refine ⟨?_, pick_range hp ha hb _⟩
  rcases List.mem_append.1 hx with hx | hx
  · exact (ha.each x hx).1
  · exact (hb.each x hx).1
theorem mix_same {pick : Int → Int → Int} {a b : List Entry} (ha : RightL a) (hb : RightL b) : makeL (mixIn pick a b) = makeL (mixR pick a b) := by
  unfold makeL
  have h1 : sortS ((mixIn pick a b).map nm) = namesL a b := by
    unfold mixIn
    rw [map_nm_ent]
    unfold namesL
    refine strict_unique ltB_irr ltB_tr (sortS_spec _).1 (sortS_spec _).1 fun x => ?_
    rw [(sortS_spec _).2, (sortS_spec _).2]
    exact ⟨fun h => h.1, fun h => ⟨h, h.2⟩⟩
  have h2 : sortS ((mixR pick a b).map nm) = namesL a b := by rw [mixR_names]; rfl
  rw [h1, h2]
  congr 1
  funext c
  rw [mixR_eq]
  unfold mixIn
  rw [last_map, last_map]
  by_cases hc : c ∈ namesL a b
  · rw [if_pos hc, if_pos]
    rw [List.map_append, List.mem_append]; exact (namesL_mem ha hb c).1 hc
  · rw [if_neg hc, if_neg]
    rw [List.map_append, List.mem_append]; exact fun h => hc ((namesL_mem ha hb c).2 h)
theorem resM_same {pick : Int → Int → Int} (hp : ∀ m n : Int, pick m n = m ∨ pick m n = n) {a b : List Entry} (ha : RightL a) (hb : RightL b) : resM (mixIn pick a b) = resM (mixR pick a b) := by
  unfold resM
  rw [mixIn_zero hp ha hb, mixR_zero hp ha hb, mix_same ha hb]
theorem resX_ok {pick : Int → Int → Int} (hp : ∀ m n : Int, pick m n = m ∨ pick m n = n) {a b : List Entry} (ha : RightL a) (hb : RightL b) (h : (resX pick a b).2 = 0) :
    RightL (resX pick a b).1 ∧ ∀ c, levelL (resX pick a b).1 c = pick (levelL a c) (levelL b c) := by
  have e : resX pick a b = resM (mixIn pick a b) := by unfold resX; rw [if_pos ⟨rightLB_iff.2 ha, rightLB_iff.2 hb⟩]
  rw [e] at h ⊢
  obtain ⟨h1, h2, h3⟩ := resM_ok h
  refine ⟨h2, fun c => ?_⟩
  rw [h3, make_level h1]
  unfold mixIn
  rw [last_map]
  by_cases hc : c ∈ namesL a b
  · rw [if_pos hc]
  · rw [if_neg hc]
    rw [namesL_mem ha hb] at hc
    rw [levelL_not (fun h => hc (.inl h)), levelL_not (fun h => hc (.inr h))]
    rcases hp 1 1 with h | h <;> rw [h]
theorem max_pick (m n : Int) : max m n = m ∨ max m n = n := by omega
theorem min_pick (m n : Int) : min m n = m ∨ min m n = n := by omega
/-! With -/
noncomputable def resW (l : List Entry) (c : List UInt8) (n : Int) : List Entry × Int := if rightLB l = true then resM (l ++ [ent c n]) else ([], 21)
theorem last_right {l : List Entry} (h : RightL l) (c : List UInt8) : lastL l c = levelL l c := by
  by_cases hc : c ∈ l.map nm
  · obtain ⟨e, he, rfl⟩ := List.mem_map.1 hc
    rw [levelL_mem (asc_iff.1 h.asc) he]
    unfold lastL levelL
    cases hf : l.reverse.find? (fun x => nm x == nm e) with
    | none =>
      rw [List.find?_eq_none] at hf
      exact absurd (hf e (by simpa using he)) (by simp)
    | some x =>
      have hx : x ∈ l := by simpa using List.mem_of_find?_eq_some hf
      have hn : nm x = nm e := by simpa using List.find?_some hf
      have h1 := levelL_mem (asc_iff.1 h.asc) hx
      have h2 := levelL_mem (asc_iff.1 h.asc) he
      rw [hn] at h1
      show x.level = e.level
      omega
  · rw [levelL_not hc, lastL_not hc]
theorem resW_ok {l : List Entry} {c : List UInt8} {n : Int} (h : (resW l c n).2 = 0) : RightL l ∧ RightL (resW l c n).1 ∧ 0 ≤ n ∧ n ≤ 3 ∧ ∀ d, levelL (resW l c n).1 d = if c = d then n else levelL l d := by
  unfold resW at h ⊢
  by_cases hr : rightLB l = true
  · rw [if_pos hr] at h ⊢
    have hl := rightLB_iff.1 hr
    obtain ⟨h1, h2, h3⟩ := resM_ok h
    have h4 := makeE_zero.1 h1 (ent c n) (by simp)
    rw [lev_ent] at h4
    refine ⟨hl, h2, h4.2.1, h4.2.2, fun d => ?_⟩
    rw [h3, make_level h1, lastL_snoc, nm_ent, lev_ent, last_right hl]
  · rw [if_neg hr] at h; cases h
theorem resW_empty {l : List Entry} {c : List UInt8} {n : Int} (h : (resW l c n).2 ≠ 0) : (resW l c n).1 = [] := by
  unfold resW resM at h ⊢
  split
  · rename_i hr
    rw [if_pos hr] at h
    split
    · rfl
    · rename_i h1
      rw [if_neg h1] at h
      split
      · rfl
      · rename_i h2; rw [if_neg h2] at h; exact absurd rfl h
  · rfl
end Go.Proofs.YthhepnaanjicjaaGreatDoor

/- The kind of api.Entry (as rdgen.py writes it). -/
namespace Go.Proofs.YthhepnaanjicjaaGreatDoor
open Go.RowKit
set_option linter.unusedVariables false
def EntryR : Rd Entry := (Rd.string.pair ((Rd.int .i64))).iso fun x => (x.cat, x.level)
theorem EntryR_opens : Opens Tryz.prog EntryR 63 :=
  opens_iso (fun a => ⟨a.1, a.2⟩) (fun _ => rfl) (opens_struct Tryz.underlying63 (by kernel_rfl) (opens_cons (by kernel_rfl) (by kernel_rfl) (opens_string Tryz.underlying9)
    (opens_last (by kernel_rfl) (by kernel_rfl) (opens_int Tryz.underlying3))))
theorem EntryR_iff {w : World} {ok : Nat → Prop} {cs : List Value} {x : Entry} : EntryR.rel w ok cs x ↔ ∃ c0 c1, cs = c0 ++ (c1) ∧ Rd.string.rel w ok c0 x.cat ∧ (Rd.int .i64).rel w ok c1 x.level := by
  constructor
  · rintro ⟨c0, r0, rfl, h0, h1⟩
    exact ⟨c0, _, rfl, h0, h1⟩
  · rintro ⟨c0, c1, rfl, h0, h1⟩
    exact ⟨c0, _, rfl, h0, h1⟩
theorem EntryR_cat {w : World} {ok : Nat → Prop} {cs : List Value} {x : Entry} (h : EntryR.rel w ok cs x) : Rd.string.rel w ok ((cs.drop 0).take 1) x.cat := by
  obtain ⟨c0, c1, rfl, h0, h1⟩ := EntryR_iff.1 h
  have l0 : c0.length = 1 := Rd.len _ h0
  have e : ((c0 ++ (c1)).drop 0).take 1 = c0 := by
    rw [List.drop_zero, List.take_append_of_le_length (by omega), List.take_of_length_le (by omega)]
  rw [e]; exact h0
theorem EntryR_cat_at {w : World} {ok : Nat → Prop} {cs : List Value} {x : Entry} (h : EntryR.rel w ok cs x) : cs[0]? = some (Value.string x.cat) := take_one ((EntryR_cat h).1)
theorem EntryR_level {w : World} {ok : Nat → Prop} {cs : List Value} {x : Entry} (h : EntryR.rel w ok cs x) : (Rd.int .i64).rel w ok ((cs.drop 1).take 1) x.level := by
  obtain ⟨c0, c1, rfl, h0, h1⟩ := EntryR_iff.1 h
  have l0 : c0.length = 1 := Rd.len _ h0
  have l1 : c1.length = 1 := Rd.len _ h1
  have e : ((c0 ++ (c1)).drop 1).take 1 = c1 := by
    rw [show 1 = c0.length + 0 by omega, ← List.drop_drop, List.drop_left]
    rw [List.drop_zero, List.take_of_length_le (by omega)]
  rw [e]; exact h1
theorem EntryR_level_at {w : World} {ok : Nat → Prop} {cs : List Value} {x : Entry} (h : EntryR.rel w ok cs x) : cs[1]? = some (Value.int .i64 x.level) := take_one ((EntryR_level h).1)
theorem EntryR_cells {w : World} {ok : Nat → Prop} {cs : List Value} {x : Entry} (h : EntryR.rel w ok cs x) : cs = [.string x.cat, .int .i64 x.level] ∧ x.cat.size ≤ 140737488355328 ∧ Rd.inR .i64 x.level := by
  obtain ⟨c0, c1, rfl, ⟨rfl, h1⟩, ⟨rfl, h2⟩⟩ := EntryR_iff.1 h
  exact ⟨rfl, h1, h2⟩
theorem EntryR_mk (w : World) (ok : Nat → Prop) (x : Entry) (h1 : x.cat.size ≤ 140737488355328) (h2 : Rd.inR .i64 x.level) : EntryR.rel w ok [.string x.cat, .int .i64 x.level] x :=
  EntryR_iff.2 ⟨_, _, rfl, ⟨rfl, h1⟩, ⟨rfl, h2⟩⟩
theorem Tryz.info_entry : (Tryz.prog.info? 63).map (·.size) = some 2 := by kernel_rfl
end Go.Proofs.YthhepnaanjicjaaGreatDoor

/- Regions that draw their order, whose operations read and whose calls answer with a value and write nothing that was there: one walk in the text's order. No program in it. -/
namespace Go.Proofs.YthhepnaanjicjaaGreatDoor
open Go.RowKit
set_option linter.unusedVariables false
/-- The worlds in which all that was there is as it was. -/
def ModW (w : World) : Type := {W : World // Mod (fun _ => False) w W}
instance ModW.nonempty (w : World) : Nonempty (ModW w) := ⟨⟨w, .refl _ _⟩⟩
theorem ModW.cell {w : World} {a : Addr} {v : Value} (h : w.cell? a = some v) (W : ModW w) : W.1.cell? a = some v := cell_step h (fun hl => W.2.block a.block hl id)
section
variable {P : Program} {ops : Array Oper} {C : World → Prop} {rest : List Oper} {o : Oper} {a : Act}
theorem wp_region_mod {id : Nat} {Q : Exit → Act → World → Prop} {w : World} {l : List Oper} (hm : P.follows .mixedOrders = true) (hB : Region.lexB .any l.toArray = true)
    (h : wpQuiet P l.toArray (fun w' => ∃ W : ModW w, w' = W.1) (fun a' => ∀ w', (∃ W : ModW w, w' = W.1) → Q .normal a' w') l a) : (Code.region id l.toArray true).wp P Q a w :=
  wp_region_quiet (C := fun w' => ∃ W : ModW w, w' = W.1) hm hB ⟨⟨w.drew, (Mod.refl _ w).drew⟩, rfl⟩ (by simpa using h)
/-- the same for operations in line: the walk of a region that draws nothing, from an operation on -/
theorem wpList_of_quiet {Q : Exit → Act → World → Prop} : ∀ (rest : List Oper) (a : Act) (w : World), wpQuiet P ops C (fun a' => ∀ w', C w' → Q .normal a' w') rest a → C w → wpList P ops Q rest a w
  | [], _, w, h, hc => h w hc
  | o :: rest, a, w, h, hc => by
    rw [wpList]
    rw [wpQuiet] at h
    split
    · rename_i hw
      rw [if_pos hw] at h
      obtain ⟨v, h1, h2⟩ := h
      left
      have h3 := h1 w hc
      have key : ∀ {a' : Act} {w' : World}, C w' → a' = a.put o.dst v → wpList P ops Q rest a' w' := fun hc' e => by subst e; exact wpList_of_quiet rest _ _ h2 hc'
      unfold Oper.quietAt at h3
      unfold Oper.wp
      generalize (execOp a.eval o).run P w = r at h3
      unfold Oper.quietUpon at h3
      split at h3
      · obtain ⟨rfl, rfl⟩ := h3; exact key hc rfl
      · obtain ⟨rfl, rfl⟩ := h3; exact key hc rfl
      · obtain ⟨rfl, h4⟩ := h3
        refine Calls.mono h4 ?_
        rintro e w'' ⟨rfl, hc'⟩
        exact key hc' rfl
      · exact h3.elim
    · rename_i hw
      rw [if_neg hw] at h
      exact wpList_of_quiet rest _ _ h hc
theorem wpList_mod {Q : Exit → Act → World → Prop} {w : World} (h : wpQuiet P ops (fun w' => ∃ W : ModW w, w' = W.1) (fun a' => ∀ w', (∃ W : ModW w, w' = W.1) → Q .normal a' w') rest a) : wpList P ops Q rest a w :=
  wpList_of_quiet _ _ _ h ⟨⟨w, .refl _ _⟩, rfl⟩
/-- a struct is read -/
theorem wpQuiet_load_agg {Q : Act → Prop} (hwant : Region.wanted o (yielded ops a.tmps) = true) (T : TypeId) (x : Operand) (ho : o.op = .load T x) {fs : Array Field} (hu : P.underlying T = some (.struct fs)) {n : Nat} (hi : (P.info? T).map (·.size) = some n) (ad : Addr) (hx : a.eval x = .pointer (some ad)) (cs : List Value) (hl : cs.length = n)
    (hc : ∀ w, C w → ∀ i u, cs[i]? = some u → w.cell? (ad.add i) = some u) (h : wpQuiet P ops C Q rest (a.put o.dst (.agg cs.toArray))) : wpQuiet P ops C Q (o :: rest) a := by
  refine wpQuiet_step fun K hK => ?_
  rw [if_pos hwant]
  refine ⟨.agg cs.toArray, fun w hw => ?_, hK _ h⟩
  unfold Oper.quietAt execOp
  simp only [ho, hx, Instr.loadAt, Instr.sureAddr, Sem.run_bind, Sem.run_pure, Result.andThen_ok, run_loadVar_agg hu hi hl (hc w hw)]
  exact ⟨rfl, rfl⟩
end
/-- a callee that answers v and writes nothing that was there -/
theorem quiet_mod {P : Program} {f : FuncId} {args : Array Value} {w : World} {W : ModW w} {v : Value} (h : Calls P f args W.1 fun e w' => e = .returned v ∧ Mod (fun _ => False) W.1 w') :
    Calls P f args W.1 fun e w'' => e = .returned v ∧ ∃ W' : ModW w, w'' = W'.1 :=
  h.mono fun _ w'' ⟨he, hm⟩ => ⟨he, ⟨w'', W.2.trans hm (fun _ h => h.elim)⟩, rfl⟩
end Go.Proofs.YthhepnaanjicjaaGreatDoor

/- Layer 6, label: entries in rows; the leaves (at, what the closures answer). -/
namespace Go.Proofs.YthhepnaanjicjaaGreatDoor
open Go.RowKit Go.Shelf
set_option linter.unusedVariables false
abbrev labR : Rd (List Entry) := Rd.slice 24 EntryR
def encE (e : Entry) : Value := .agg #[.string e.cat, .int .i64 e.level]
theorem ent_cases (e : Entry) : ∃ c n, e = ent c n := ⟨nm e, e.level, (ent_nm e).symm⟩
theorem encE_ent (c : List UInt8) (n : Int) : encE (ent c n) = .agg #[.string ⟨c.toArray⟩, .int .i64 n] := rfl
/-- A label that is read: what a walk wants. -/
theorem lab_row {w : World} {ok : Nat → Prop} {A : Option Addr} {n c : Nat} {l : List Entry} (h : labR.rel w ok [.slice A n c] l) :
    n = l.length ∧ l.length ≤ c ∧ c ≤ maxLen ∧ l.length * 24 ≤ 140737488355328 ∧ (A = none → c = 0) ∧ EntryR.RowOf w ok A l := by
  obtain ⟨A', c', hv, h2, h3, h4, h5, h6⟩ := h
  simp only [List.cons.injEq, Value.slice.injEq, and_true] at hv
  obtain ⟨rfl, rfl, rfl⟩ := hv
  exact ⟨rfl, h2, h3, h4, h5, h6⟩
theorem row_ent {w : World} {ok : Nat → Prop} {A : Option Addr} {l : List Entry} (h : EntryR.RowOf w ok A l) {j : Nat} {c : List UInt8} {n : Int} (hj : l[j]? = some (ent c n)) :
    ∃ ad, A = some ad ∧ ok ad.block ∧ w.cell? (ad.add (j * 2)) = some (.string ⟨c.toArray⟩) ∧ w.cell? ⟨(ad.add (j * 2)).block, (ad.add (j * 2)).off + 1, none⟩ = some (.int .i64 n) ∧ c.length ≤ 140737488355328 ∧ Rd.inR .i64 n := by
  obtain ⟨ad, cs, hA, hok, hr, hc⟩ := Rd.RowOf.at_ h hj
  obtain ⟨rfl, h1, h2⟩ := EntryR_cells hr
  refine ⟨ad, hA, hok, hc 0 _ rfl, ?_, by have := h1; rwa [show (ent c n).cat.size = c.length from mkStr_size c] at this, h2⟩
  have := hc 1 _ rfl
  rwa [show EntryR.sz = 2 from rfl, add_field _ _ _ (by decide)] at this
theorem labR_each {w : World} {ok : Nat → Prop} {cs : List Value} {l : List Entry} (h : labR.rel w ok cs l) : ∀ e ∈ l, (nm e).length ≤ 140737488355328 ∧ Rd.inR .i64 e.level := by
  obtain ⟨A, c, _, _, _, _, _, h6⟩ := h
  intro e he
  obtain ⟨j, hj⟩ := List.getElem?_of_mem he
  obtain ⟨c, n, rfl⟩ := ent_cases e
  obtain ⟨_, _, _, _, _, h1, h2⟩ := row_ent h6 hj
  rw [nm_ent]
  exact ⟨h1, h2⟩
set_option maxRecDepth 100000 in
theorem at_any (c d : List UInt8) (n : Int) (hc : c.length ≤ 140737488355328) (hd : d.length ≤ 140737488355328) (w : World) (E : Env w) :
    Calls Tryz.prog 86 #[.agg #[.string ⟨c.toArray⟩, .int .i64 n], .string ⟨d.toArray⟩] w fun r w' => r = .returned (.int .i64 (cmpB c d)) ∧ Mod (fun _ => False) w w' := by
  have hcm := fun W E => compare_any c d hc hd W E
  obtain ⟨z, hz⟩ : ∃ z, z = cmpB c d := ⟨_, rfl⟩
  simp only [← hz] at hcm ⊢
  have HC := Lib.hid (And.intro hcm E); clear hcm E hz
  go_enter Tryz.func86, Tryz.ntmps86
  go_wp2_with fail
  have hm := (Mod.refl (fun _ => False) w).alloc (.cells #[.string ⟨c.toArray⟩, .int .i64 n] 63)
  have HM := Lib.hid (And.intro hm (HC.out.2.mod0 hm)); clear hm
  refine (HC.out.1 _ HM.out.2).mono ?_
  rintro r w1 ⟨rfl, hm1⟩
  have H1 := Lib.hid (tr0 HM.out.1 hm1); clear hm1
  go_wp2_with fail
  go_ret
  exact ⟨rfl, H1.out⟩
set_option maxRecDepth 100000 in
theorem levelC_any (c d : List UInt8) (n : Int) (g : Nat) (w : World) (hg : w.cell? ⟨g, 0, none⟩ = some (.string ⟨d.toArray⟩)) :
    Calls Tryz.prog 88 #[.agg #[.string ⟨c.toArray⟩, .int .i64 n], .pointer (some ⟨g, 0, none⟩)] w fun r w' => r = .returned (.bool (c == d)) ∧ Mod (fun _ => False) w w' := by
  have hg' := cell_alloc_l (.cells #[.string ⟨c.toArray⟩, .int .i64 n] 63) hg
  go_enter Tryz.func88, Tryz.ntmps88
  go_wp2_with fail
  go_ret
  exact ⟨rfl, (Mod.refl (fun _ => False) w).alloc _⟩
set_option maxRecDepth 100000 in
theorem makeC_any (c : List UInt8) (n : Int) (w : World) :
    Calls Tryz.prog 92 #[.agg #[.string ⟨c.toArray⟩, .int .i64 n]] w fun r w' => r = .returned (.bool (n == 1)) ∧ Mod (fun _ => False) w w' := by
  go_enter Tryz.func92, Tryz.ntmps92
  go_wp2_with fail
  go_ret
  exact ⟨rfl, (Mod.refl (fun _ => False) w).alloc _⟩
set_option maxRecDepth 100000 in
theorem joinC_any (m n : Int) (w : World) : Calls Tryz.prog 82 #[.int .i64 m, .int .i64 n] w fun r w' => r = .returned (.int .i64 (max m n)) ∧ Mod (fun _ => False) w w' := by
  go_enter Tryz.func82, Tryz.ntmps82
  go_wp2_with fail
  go_ret
  exact ⟨rfl, .refl _ _⟩
set_option maxRecDepth 100000 in
theorem meetC_any (m n : Int) (w : World) : Calls Tryz.prog 83 #[.int .i64 m, .int .i64 n] w fun r w' => r = .returned (.int .i64 (min m n)) ∧ Mod (fun _ => False) w w' := by
  go_enter Tryz.func83, Tryz.ntmps83
  go_wp2_with fail
  go_ret
  exact ⟨rfl, .refl _ _⟩
end Go.Proofs.YthhepnaanjicjaaGreatDoor

/- Regions that draw their order and bear guards: one walk in the text's order, the guards decided. What is to come stands behind a variable (R), so that nothing reckons it ahead. No program in it. -/
namespace Go.Proofs.YthhepnaanjicjaaGreatDoor
open Go.RowKit
set_option linter.unusedVariables false
section
variable {P : Program} {ops : Array Oper} {C : World → Prop} {R rest : List Oper} {o : Oper} {a : Act} {Q : Act → Prop}
theorem wpQuiet_hide (h : ∀ R, R = rest → wpQuiet P ops C Q R a) : wpQuiet P ops C Q rest a := h _ rfl
theorem wpQuiet_skip (hR : R = o :: rest) (hw : Region.wanted o (yielded ops a.tmps) = false) (h : ∀ K : Act → Prop, (∀ a, (∀ R, R = rest → wpQuiet P ops C Q R a) → K a) → K (a.put o.dst undef)) : wpQuiet P ops C Q R a := by
  rw [hR, wpQuiet, if_neg (by simp [hw])]
  exact h _ (fun _ h => h _ rfl)
theorem wpQuiet_take (hR : R = o :: rest) (hw : Region.wanted o (yielded ops a.tmps) = true) (h : ∀ K : Act → Prop, (∀ a, (∀ R, R = rest → wpQuiet P ops C Q R a) → K a) → o.quiet P a C K) : wpQuiet P ops C Q R a := by
  rw [hR, wpQuiet, if_pos hw]
  exact h _ (fun _ h => h _ rfl)
theorem wpQuiet_none (hR : R = o :: rest) (hg : o.guard = none) (h : ∀ K : Act → Prop, (∀ a, (∀ R, R = rest → wpQuiet P ops C Q R a) → K a) → o.quiet P a C K) : wpQuiet P ops C Q R a :=
  wpQuiet_take hR (by unfold Region.wanted; rw [hg]) h
theorem wpQuiet_end (hR : R = []) (h : Q a) : wpQuiet P ops C Q R a := by rw [hR]; exact h
end
end Go.Proofs.YthhepnaanjicjaaGreatDoor

/- Layer 6, label: Right. -/
namespace Go.Proofs.YthhepnaanjicjaaGreatDoor
open Go.RowKit Go.Shelf
set_option linter.unusedVariables false
theorem right_no {l : List Entry} {i : Nat} {c : List UInt8} {n : Int} (h : l[i]? = some (ent c n)) (hb : rightB c = false ∨ n = 1 ∨ n < 0 ∨ 3 < n) : rightLB l = false :=
  rightLB_no fun hr => by
    have := hr.each _ (List.mem_of_getElem? h)
    rw [nm_ent, lev_ent] at this
    rcases hb with hb | hb | hb | hb
    · rw [hb] at this; cases this.1
    · exact this.2.2.2 hb
    · omega
    · omega
theorem right_no2 {l : List Entry} {k : Nat} {c d : List UInt8} {n m : Int} (h : l[k]? = some (ent c n)) (h2 : l[k + 1]? = some (ent d m)) (hz : ¬ cmpB c d < 0) : rightLB l = false :=
  rightLB_no fun hr => by
    have hl1 := (List.getElem?_eq_some_iff.1 h)
    have hl2 := (List.getElem?_eq_some_iff.1 h2)
    have := List.pairwise_iff_getElem.1 (asc_iff.1 hr.asc) k (k + 1) hl1.1 hl2.1 (by omega)
    obtain ⟨_, e1⟩ := hl1
    obtain ⟨_, e2⟩ := hl2
    rw [e1, e2] at this
    unfold ltE ltB at this
    rw [nm_ent, nm_ent] at this
    exact hz this
theorem take_pair {l : List Entry} {i : Nat} {x : Entry} (h : l[i]? = some x) (hp : (l.take i).Pairwise ltE) (hlast : ∀ k y, i = k + 1 → l[k]? = some y → ltE y x) : (l.take (i + 1)).Pairwise ltE := by
  rw [List.take_add_one, h, List.pairwise_append]
  refine ⟨hp, by simp, fun a ha b hb => ?_⟩
  simp at hb
  subst hb
  have hil := (List.getElem?_eq_some_iff.1 h).1
  obtain ⟨j, hj⟩ := List.getElem?_of_mem ha
  have hjl := (List.getElem?_eq_some_iff.1 hj).1
  rw [List.length_take] at hjl
  rw [List.getElem?_take_of_lt (by omega)] at hj
  obtain ⟨k, rfl⟩ : ∃ k, i = k + 1 := ⟨i - 1, by omega⟩
  have hk : l[k]? = some l[k] := List.getElem?_eq_getElem (by omega)
  have hlt := hlast k _ rfl hk
  by_cases hjk : j = k
  · subst hjk
    rw [hj] at hk; cases hk; exact hlt
  · have h1 := List.pairwise_iff_getElem.1 hp j k (by rw [List.length_take]; omega) (by rw [List.length_take]; omega) (by omega)
    rw [List.getElem_take, List.getElem_take] at h1
    rw [List.getElem?_eq_getElem (by omega)] at hj
    rw [Option.some.inj hj] at h1
    exact ltE_tr _ _ _ h1 hlt
set_option maxRecDepth 100000 in
set_option maxHeartbeats 800000 in
theorem rightLab_any (A : Option Addr) (n c : Nat) (l : List Entry) (ok : Nat → Prop) (w : World) (h : labR.rel w ok [.slice A n c] l) (E : Env w) :
    Calls Tryz.prog 45 #[.slice A n c] w fun r w' => r = .returned (.bool (rightLB l)) ∧ Mod (fun _ => False) w w' := by
  obtain ⟨rfl, hcap, -, hbig, -, hrow⟩ := lab_row h
  obtain ⟨z, hz⟩ : ∃ z, z = rightLB l := ⟨_, rfl⟩
  rw [← hz]
  have H0 := Lib.hid (And.intro E (And.intro hrow hz)); clear E hrow h hz
  go_enter Tryz.func45, Tryz.ntmps45
  by_cases h8 : 8 < l.length
  · have e1 : decide ((8 : Int) < (l.length : Int)) = true := by simp; omega
    have hzf : z = false := by rw [H0.out.2.2]; exact rightLB_no fun hr => by have := hr.len; omega
    subst hzf
    go_wp2_with fail
    go_ret
    exact ⟨rfl, .refl _ _⟩
  have e1 : decide ((8 : Int) < (l.length : Int)) = false := by simp; omega
  go_wp2_with fail
  go_loopg [10] l.length (fun f si wr => ∃ i : Nat, si = .int .i64 i ∧ i + f = l.length ∧ (∀ e ∈ l.take i, rightB (nm e) = true ∧ 0 ≤ e.level ∧ e.level ≤ 3 ∧ e.level ≠ 1) ∧ (l.take i).Pairwise ltE ∧ Mod (fun _ => False) w wr)
  case atStart => exact ⟨0, rfl, by omega, by simp, by simp, .refl _ _⟩
  case round =>
    obtain ⟨i, rfl, hi, heach, hpair, hmod⟩ := hrel
    by_cases hlt : i < l.length
    · obtain ⟨d, m, hx⟩ : ∃ d m, l[i]? = some (ent d m) := by
        obtain ⟨d, m, e⟩ := ent_cases l[i]
        exact ⟨d, m, by rw [← e]; simp [hlt]⟩
      have hrow := H0.out.2.1.step (w1 := wr) (ok1 := ok) (fun k hk hl => ⟨hk, hmod.block k hl id⟩)
      obtain ⟨ad, rfl, -, hc0, hc1, hdl, hmr⟩ := row_ent hrow hx
      have htk : l.take (i + 1) = l.take i ++ [ent d m] := by rw [List.take_add_one, hx]; rfl
      have HX := Lib.hid (And.intro hi (And.intro heach (And.intro hpair (And.intro hmod (And.intro hx (And.intro htk hrow)))))); clear hi heach hpair hmod hx htk hrow
      go_wp2_with fail
      obtain ⟨W1, hW1⟩ : ∃ W1, W1 = wr.alloc (.cells #[.string ⟨d.toArray⟩, .int .i64 m] 63) := ⟨_, rfl⟩
      rw [← hW1]
      have hb1 : W1.heap[wr.heap.size]? = some (.cells #[.string ⟨d.toArray⟩, .int .i64 m] 63 (0, 0)) := by rw [hW1]; exact World.alloc_heap_new wr _
      have hm1 : Mod (fun _ => False) wr W1 := by rw [hW1]; exact (Mod.refl _ _).alloc _
      obtain ⟨g, hg⟩ : ∃ g, g = wr.heap.size := ⟨_, rfl⟩
      rw [← hg] at hb1 ⊢
      have hbW : ∀ W : ModW W1, W.1.heap[g]? = some (.cells #[.string ⟨d.toArray⟩, .int .i64 m] 63 (0, 0)) := fun W => (W.2.block g (lt_of_blk hb1) id).trans hb1
      have c0 : ∀ W : ModW W1, W.1.cell? ⟨g, 0, none⟩ = some (.string ⟨d.toArray⟩) := fun W => by rw [Lib.cell_of_heap (hbW W)]; rfl
      have c1 : ∀ W : ModW W1, W.1.cell? ⟨g, 1, none⟩ = some (.int .i64 m) := fun W => by rw [Lib.cell_of_heap (hbW W)]; rfl
      have HE := Lib.hid (And.intro (tr0 HX.out.2.2.2.1 hm1) (And.intro hm1 (H0.out.1.mod0 (tr0 HX.out.2.2.2.1 hm1))))
      have hright := fun W E => right_any d hdl W E
      clear hbW hb1 hm1 hW1 hg hc0 hc1
      have HA := Lib.hid trivial
      cases hb : rightB d with
      | false =>
        rw [hb] at hright
        have HC := Lib.hid (And.intro hright trivial); clear hright
        have hzf : z = false := by rw [H0.out.2.2]; exact right_no HX.out.2.2.2.2.1 (.inl hb)
        subst hzf
        clear hb
        refine wp_region_mod (by kernel_rfl) (by kernel_rfl) ?_
        refine wpQuiet_hide (fun R hR => ?_)
        iterate 34 (first
          | ((first | refine wpQuiet_none hR rfl (fun K hK => ?_) | refine wpQuiet_take hR (by rfl) (fun K hK => ?_)); clear hR R; go_simp; first | (refine hK _ (fun R hR => ?_); clear hK K) | (apply Exists.intro; refine ⟨fun _ => ?_, hK _ (fun R hR => ?_)⟩; (first | (go_at_call 59; refine quiet_mod (HC.out.1 _ (HE.out.2.2.mod0 (Subtype.property _)))) | (go_at_call 86; refine quiet_mod (HA.out _ (HE.out.2.2.mod0 (Subtype.property _))))); clear hK K))
          | (refine wpQuiet_skip hR (by rfl) (fun K hK => ?_); clear hR R; go_simp; refine hK _ (fun R hR => ?_); clear hK K))
        refine wpQuiet_end hR ?_
        clear hR R
        rintro _ ⟨W, rfl⟩
        clear c0 c1
        go_wp2_with fail
        go_ret
        exact ⟨rfl, HE.out.1.trans W.2 (fun _ h => h.elim)⟩
      | true =>
        rw [hb] at hright
        have HC := Lib.hid (And.intro hright trivial); clear hright
        have HB := Lib.hid hb; clear hb
        by_cases hm1 : m = 1
        · have hzf : z = false := by rw [H0.out.2.2]; exact right_no HX.out.2.2.2.2.1 (.inr (.inl hm1))
          subst hzf
          have e2 : (m == 1) = true := by simp [hm1]
          clear hm1
          refine wp_region_mod (by kernel_rfl) (by kernel_rfl) ?_
          refine wpQuiet_hide (fun R hR => ?_)
          iterate 34 (first
            | ((first | refine wpQuiet_none hR rfl (fun K hK => ?_) | refine wpQuiet_take hR (by rfl) (fun K hK => ?_)); clear hR R; go_simp; first | (refine hK _ (fun R hR => ?_); clear hK K) | (apply Exists.intro; refine ⟨fun _ => ?_, hK _ (fun R hR => ?_)⟩; (first | (go_at_call 59; refine quiet_mod (HC.out.1 _ (HE.out.2.2.mod0 (Subtype.property _)))) | (go_at_call 86; refine quiet_mod (HA.out _ (HE.out.2.2.mod0 (Subtype.property _))))); clear hK K))
            | (refine wpQuiet_skip hR (by rfl) (fun K hK => ?_); clear hR R; go_simp; refine hK _ (fun R hR => ?_); clear hK K))
          refine wpQuiet_end hR ?_
          clear hR R
          rintro _ ⟨W, rfl⟩
          clear c0 c1
          go_wp2_with fail
          go_ret
          exact ⟨rfl, HE.out.1.trans W.2 (fun _ h => h.elim)⟩
        have e2 : (m == 1) = false := by simp [hm1]
        by_cases hm0 : m < 0
        · have hzf : z = false := by rw [H0.out.2.2]; exact right_no HX.out.2.2.2.2.1 (.inr (.inr (.inl hm0)))
          subst hzf
          have e3 : decide (m < 0) = true := by simp [hm0]
          clear hm0
          refine wp_region_mod (by kernel_rfl) (by kernel_rfl) ?_
          refine wpQuiet_hide (fun R hR => ?_)
          iterate 34 (first
            | ((first | refine wpQuiet_none hR rfl (fun K hK => ?_) | refine wpQuiet_take hR (by rfl) (fun K hK => ?_)); clear hR R; go_simp; first | (refine hK _ (fun R hR => ?_); clear hK K) | (apply Exists.intro; refine ⟨fun _ => ?_, hK _ (fun R hR => ?_)⟩; (first | (go_at_call 59; refine quiet_mod (HC.out.1 _ (HE.out.2.2.mod0 (Subtype.property _)))) | (go_at_call 86; refine quiet_mod (HA.out _ (HE.out.2.2.mod0 (Subtype.property _))))); clear hK K))
            | (refine wpQuiet_skip hR (by rfl) (fun K hK => ?_); clear hR R; go_simp; refine hK _ (fun R hR => ?_); clear hK K))
          refine wpQuiet_end hR ?_
          clear hR R
          rintro _ ⟨W, rfl⟩
          clear c0 c1
          go_wp2_with fail
          go_ret
          exact ⟨rfl, HE.out.1.trans W.2 (fun _ h => h.elim)⟩
        have e3 : decide (m < 0) = false := by simp; omega
        by_cases hm4 : 4 ≤ m
        · have hzf : z = false := by rw [H0.out.2.2]; exact right_no HX.out.2.2.2.2.1 (.inr (.inr (.inr (by omega))))
          subst hzf
          have e4 : decide (4 ≤ m) = true := by simp [hm4]
          clear hm4
          refine wp_region_mod (by kernel_rfl) (by kernel_rfl) ?_
          refine wpQuiet_hide (fun R hR => ?_)
          iterate 34 (first
            | ((first | refine wpQuiet_none hR rfl (fun K hK => ?_) | refine wpQuiet_take hR (by rfl) (fun K hK => ?_)); clear hR R; go_simp; first | (refine hK _ (fun R hR => ?_); clear hK K) | (apply Exists.intro; refine ⟨fun _ => ?_, hK _ (fun R hR => ?_)⟩; (first | (go_at_call 59; refine quiet_mod (HC.out.1 _ (HE.out.2.2.mod0 (Subtype.property _)))) | (go_at_call 86; refine quiet_mod (HA.out _ (HE.out.2.2.mod0 (Subtype.property _))))); clear hK K))
            | (refine wpQuiet_skip hR (by rfl) (fun K hK => ?_); clear hR R; go_simp; refine hK _ (fun R hR => ?_); clear hK K))
          refine wpQuiet_end hR ?_
          clear hR R
          rintro _ ⟨W, rfl⟩
          clear c0 c1
          go_wp2_with fail
          go_ret
          exact ⟨rfl, HE.out.1.trans W.2 (fun _ h => h.elim)⟩
        have e4 : decide (4 ≤ m) = false := by simp; omega
        by_cases hi0 : i = 0
        · subst hi0
          refine wp_region_mod (by kernel_rfl) (by kernel_rfl) ?_
          refine wpQuiet_hide (fun R hR => ?_)
          iterate 34 (first
            | ((first | refine wpQuiet_none hR rfl (fun K hK => ?_) | refine wpQuiet_take hR (by rfl) (fun K hK => ?_)); clear hR R; go_simp; first | (refine hK _ (fun R hR => ?_); clear hK K) | (apply Exists.intro; refine ⟨fun _ => ?_, hK _ (fun R hR => ?_)⟩; (first | (go_at_call 59; refine quiet_mod (HC.out.1 _ (HE.out.2.2.mod0 (Subtype.property _)))) | (go_at_call 86; refine quiet_mod (HA.out _ (HE.out.2.2.mod0 (Subtype.property _))))); clear hK K))
            | (refine wpQuiet_skip hR (by rfl) (fun K hK => ?_); clear hR R; go_simp; refine hK _ (fun R hR => ?_); clear hK K))
          refine wpQuiet_end hR ?_
          clear hR R
          rintro _ ⟨W, rfl⟩
          clear c0 c1
          go_wp2_with fail
          go_roundg (gk - 1)
          case measure => have := HX.out.1; omega
          case rel =>
            obtain ⟨hi, heach, hpair, hmod, hx, htk, hrow⟩ := HX.out
            refine ⟨0 + 1, by go_num, by omega, ?_, take_pair hx hpair (fun k2 y hk hy => ?_), HE.out.1.trans W.2 (fun _ h => h.elim)⟩
            · rw [htk]
              intro e he
              rcases List.mem_append.1 he with he | he
              · exact heach e he
              · rw [List.mem_singleton.1 he, nm_ent, lev_ent]
                exact ⟨HB.out, by omega, by omega, by omega⟩
            · omega
        · obtain ⟨k, hk⟩ : ∃ k, i = k + 1 := ⟨i - 1, by omega⟩
          obtain ⟨d2, m2, hy⟩ : ∃ d m, l[k]? = some (ent d m) := by
            obtain ⟨d, m, e⟩ := ent_cases (l[k]'(by omega))
            exact ⟨d, m, by rw [← e]; exact List.getElem?_eq_getElem (by omega)⟩
          obtain ⟨ad', hA, -, hp0, hp1, hdl2, -⟩ := row_ent HX.out.2.2.2.2.2.2 hy
          obtain rfl : ad = ad' := by injection hA
          have hwr : IntKind.i64.wrap ((i : Int) - 1) = (k : Int) := by rw [IntKind.wrap_i64]; omega
          have hkl : k < l.length := by omega
          have q0 : ∀ W : ModW W1, W.1.cell? (ad.add (k * 2)) = some (.string ⟨d2.toArray⟩) := fun W => ModW.cell hp0 ⟨W.1, HE.out.2.1.trans W.2 (fun _ h => h.elim)⟩
          have q1 : ∀ W : ModW W1, W.1.cell? ⟨(ad.add (k * 2)).block, (ad.add (k * 2)).off + 1, none⟩ = some (.int .i64 m2) := fun W => ModW.cell hp1 ⟨W.1, HE.out.2.1.trans W.2 (fun _ h => h.elim)⟩
          have hat := fun W E => at_any d2 d m2 hdl2 hdl W E
          obtain ⟨zc, hzc⟩ : ∃ zc, zc = cmpB d2 d := ⟨_, rfl⟩
          simp only [← hzc] at hat
          have hi1 : 0 < i := by omega
          have e5 : decide (0 < i) = true := by simp; omega
          clear HA
          have HA := Lib.hid hat
          have HY := Lib.hid (And.intro hy (And.intro hk hzc))
          clear hat hy hA hp0 hp1 hk hzc hi0
          by_cases hneg : zc < 0
          · have e6 : decide (0 ≤ zc) = false := by simp; omega
            have HN := Lib.hid hneg; clear hneg
            refine wp_region_mod (by kernel_rfl) (by kernel_rfl) ?_
            refine wpQuiet_hide (fun R hR => ?_)
            iterate 34 (first
              | ((first | refine wpQuiet_none hR rfl (fun K hK => ?_) | refine wpQuiet_take hR (by rfl) (fun K hK => ?_)); clear hR R; go_simp; first | (refine hK _ (fun R hR => ?_); clear hK K) | (apply Exists.intro; refine ⟨fun _ => ?_, hK _ (fun R hR => ?_)⟩; (first | (go_at_call 59; refine quiet_mod (HC.out.1 _ (HE.out.2.2.mod0 (Subtype.property _)))) | (go_at_call 86; refine quiet_mod (HA.out _ (HE.out.2.2.mod0 (Subtype.property _))))); clear hK K))
              | (refine wpQuiet_skip hR (by rfl) (fun K hK => ?_); clear hR R; go_simp; refine hK _ (fun R hR => ?_); clear hK K))
            refine wpQuiet_end hR ?_
            clear hR R
            rintro _ ⟨W, rfl⟩
            clear c0 c1 q0 q1
            go_wp2_with fail
            go_roundg (gk - 1)
            case measure => have := HX.out.1; omega
            case rel =>
              obtain ⟨hi, heach, hpair, hmod, hx, htk, hrow⟩ := HX.out
              refine ⟨i + 1, by go_num, by omega, ?_, take_pair hx hpair (fun k2 y hk hy => ?_), HE.out.1.trans W.2 (fun _ h => h.elim)⟩
              · rw [htk]
                intro e he
                rcases List.mem_append.1 he with he | he
                · exact heach e he
                · rw [List.mem_singleton.1 he, nm_ent, lev_ent]
                  exact ⟨HB.out, by omega, by omega, by omega⟩
              · obtain ⟨h1, h2, h3⟩ := HY.out
                obtain rfl : k = k2 := by omega
                rw [h1] at hy
                obtain rfl := Option.some.inj hy
                unfold ltE ltB
                rw [nm_ent, nm_ent, ← h3]
                exact HN.out
          · have e6 : decide (0 ≤ zc) = true := by simp; omega
            have hzf : z = false := by rw [H0.out.2.2]; have h1 := HX.out.2.2.2.2.1; rw [HY.out.2.1] at h1; exact right_no2 HY.out.1 h1 (by rw [← HY.out.2.2]; exact hneg)
            subst hzf
            refine wp_region_mod (by kernel_rfl) (by kernel_rfl) ?_
            refine wpQuiet_hide (fun R hR => ?_)
            iterate 34 (first
              | ((first | refine wpQuiet_none hR rfl (fun K hK => ?_) | refine wpQuiet_take hR (by rfl) (fun K hK => ?_)); clear hR R; go_simp; first | (refine hK _ (fun R hR => ?_); clear hK K) | (apply Exists.intro; refine ⟨fun _ => ?_, hK _ (fun R hR => ?_)⟩; (first | (go_at_call 59; refine quiet_mod (HC.out.1 _ (HE.out.2.2.mod0 (Subtype.property _)))) | (go_at_call 86; refine quiet_mod (HA.out _ (HE.out.2.2.mod0 (Subtype.property _))))); clear hK K))
              | (refine wpQuiet_skip hR (by rfl) (fun K hK => ?_); clear hR R; go_simp; refine hK _ (fun R hR => ?_); clear hK K))
            refine wpQuiet_end hR ?_
            clear hR R
            rintro _ ⟨W, rfl⟩
            clear c0 c1 q0 q1
            go_wp2_with fail
            go_ret
            exact ⟨rfl, HE.out.1.trans W.2 (fun _ h => h.elim)⟩
    · have hie : l.take i = l := List.take_of_length_le (by omega)
      rw [hie] at heach hpair
      have hzt : z = true := by rw [H0.out.2.2]; exact rightLB_iff.2 ⟨by omega, heach, asc_iff.2 hpair⟩
      subst hzt
      have HX := Lib.hid hmod; clear hmod heach hpair hie hi
      go_wp2_with fail
      go_ret
      exact ⟨rfl, HX.out⟩
end Go.Proofs.YthhepnaanjicjaaGreatDoor

/- Rows of entries: the first of a kind. No program in it. -/
namespace Go.Proofs.YthhepnaanjicjaaGreatDoor
open Go.RowKit
set_option linter.unusedVariables false
def idxL (p : Entry → Bool) (l : List Entry) : Int := match l.findIdx? p with
  | none => -1
  | some i => i
theorem idxL_some {p : Entry → Bool} {l : List Entry} {i : Nat} {x : Entry} (h : l[i]? = some x) (hp : p x = true) (hno : ∀ y ∈ l.take i, p y = false) : idxL p l = i := by
  unfold idxL
  have hl := (List.getElem?_eq_some_iff.1 h)
  have : l.findIdx? p = some i := by
    rw [List.findIdx?_eq_some_iff_getElem]
    obtain ⟨hlt, e⟩ := hl
    refine ⟨hlt, by rw [e]; exact hp, fun j hj => ?_⟩
    rw [hno l[j] (by rw [List.mem_take_iff_getElem]; exact ⟨j, by omega, rfl⟩)]
    simp
  rw [this]
theorem idxL_none {p : Entry → Bool} {l : List Entry} (hno : ∀ y ∈ l, p y = false) : idxL p l = -1 := by
  unfold idxL
  have : l.findIdx? p = none := by
    rw [List.findIdx?_eq_none_iff]
    intro x hx; rw [hno x hx]
  rw [this]
theorem idxL_level (l : List Entry) (c : List UInt8) : (idxL (fun e => nm e == c) l = -1 ∧ levelL l c = 1) ∨ ∃ (i : Nat) (d : List UInt8), idxL (fun e => nm e == c) l = (i : Int) ∧ i < l.length ∧ l[i]? = some (ent d (levelL l c)) := by
  cases h : l.findIdx? (fun e => nm e == c) with
  | none =>
    refine .inl ⟨by unfold idxL; rw [h], ?_⟩
    refine levelL_not fun hm => ?_
    rw [List.findIdx?_eq_none_iff] at h
    obtain ⟨e, he, hn⟩ := List.mem_map.1 hm
    have := h e he
    simp [hn] at this
  | some i =>
    refine .inr ⟨i, nm (l[i]'(List.findIdx?_eq_some_iff_getElem.1 h).1), by unfold idxL; rw [h], (List.findIdx?_eq_some_iff_getElem.1 h).1, ?_⟩
    obtain ⟨hlt, h1, h2⟩ := List.findIdx?_eq_some_iff_getElem.1 h
    have hf : l.find? (fun e => nm e == c) = some l[i] := by
      rw [List.find?_eq_some_iff_getElem]
      exact ⟨h1, i, hlt, rfl, fun j hj => by have := h2 j hj; simpa using this⟩
    rw [List.getElem?_eq_getElem hlt]
    have hlev : levelL l c = l[i].level := by unfold levelL; rw [hf]
    rw [hlev, ent_nm]
end Go.Proofs.YthhepnaanjicjaaGreatDoor

/- Rows of entries: slices.IndexFunc by one closure. -/
namespace Go.Proofs.YthhepnaanjicjaaGreatDoor
open Go.RowKit Go.Shelf
set_option linter.unusedVariables false
set_option maxRecDepth 100000 in
set_option maxHeartbeats 1000000 in
theorem indexLV_any (A : Option Addr) (n c : Nat) (l : List Entry) (g : Nat) (p : Entry → Bool) (ok : Nat → Prop) (w : World) (h : labR.rel w ok [.slice A n c] l)
    (hp : ∀ W, Mod (fun _ => False) w W → ∀ d m, ent d m ∈ l → Calls Tryz.prog 88 #[.agg #[.string ⟨d.toArray⟩, .int .i64 m], .pointer (some ⟨g, 0, none⟩)] W fun r W' => r = .returned (.bool (p (ent d m))) ∧ Mod (fun _ => False) W W') :
    Calls Tryz.prog 87 #[.slice A n c, .func (.func 88) #[] #[.pointer (some ⟨g, 0, none⟩)]] w fun r w' => r = .returned (.int .i64 (idxL p l)) ∧ Mod (fun _ => False) w w' := by
  obtain ⟨rfl, hcap, -, hbig, -, hrow⟩ := lab_row h
  obtain ⟨z, hz⟩ : ∃ z, z = idxL p l := ⟨_, rfl⟩
  rw [← hz]
  have H0 := Lib.hid (And.intro hrow (And.intro hp hz)); clear hrow hp hz h
  go_enter Tryz.func87, Tryz.ntmps87
  go_wp2_with fail
  go_loopg [8] l.length (fun f si wr => ∃ i : Nat, si = .int .i64 i ∧ i + f = l.length ∧ (∀ x ∈ l.take i, p x = false) ∧ Mod (fun _ => False) w wr)
  case atStart => exact ⟨0, rfl, by omega, by simp, .refl _ _⟩
  case round =>
    obtain ⟨i, rfl, hi, hno, hmod⟩ := hrel
    by_cases hlt : i < l.length
    · obtain ⟨d, m, hx⟩ : ∃ d m, l[i]? = some (ent d m) := by
        obtain ⟨d, m, e⟩ := ent_cases l[i]
        exact ⟨d, m, by rw [← e]; simp [hlt]⟩
      obtain ⟨ad, rfl, -, hc0, hc1, -, -⟩ := row_ent (H0.out.1.step (w1 := wr) (ok1 := ok) (fun k hk hl => ⟨hk, hmod.block k hl id⟩)) hx
      have HX := Lib.hid (And.intro hi (And.intro hno (And.intro hmod hx))); clear hi hno hmod hx
      go_wp2_with fail
      refine (H0.out.2.1 wr HX.out.2.2.1 d m (List.mem_of_getElem? HX.out.2.2.2)).mono ?_
      rintro r w1 ⟨rfl, hm⟩
      have HM := Lib.hid (tr0 HX.out.2.2.1 hm); clear hm hc0 hc1
      cases hb : p (ent d m) with
      | true =>
        have hzi : z = i := by rw [H0.out.2.2]; exact idxL_some HX.out.2.2.2 hb HX.out.2.1
        subst hzi
        clear hb
        go_wp2_with fail
        go_ret
        exact ⟨rfl, HM.out⟩
      | false =>
        have HB := Lib.hid hb; clear hb
        go_wp2_with fail
        go_roundg (gk - 1)
        case measure => have := HX.out.1; omega
        case rel =>
          refine ⟨i + 1, by go_num, by have := HX.out.1; omega, ?_, HM.out⟩
          rw [List.take_add_one, HX.out.2.2.2]
          intro y hy
          rcases List.mem_append.1 hy with hy | hy
          · exact HX.out.2.1 y hy
          · simp at hy; rw [hy]; exact HB.out
    · have hie : l.take i = l := List.take_of_length_le (by omega)
      rw [hie] at hno
      have hzi : z = -1 := by rw [H0.out.2.2]; exact idxL_none hno
      subst hzi
      have HX := Lib.hid hmod; clear hno hmod hi hie
      go_wp2_with fail
      go_ret
      exact ⟨rfl, HX.out⟩
end Go.Proofs.YthhepnaanjicjaaGreatDoor

/- Layer 6, label: Level. -/
namespace Go.Proofs.YthhepnaanjicjaaGreatDoor
open Go.RowKit Go.Shelf
set_option linter.unusedVariables false
set_option maxRecDepth 100000 in
set_option maxHeartbeats 1000000 in
theorem level_any (A : Option Addr) (n c : Nat) (l : List Entry) (s : List UInt8) (ok : Nat → Prop) (w : World) (h : labR.rel w ok [.slice A n c] l) :
    Calls Tryz.prog 46 #[.slice A n c, .string ⟨s.toArray⟩] w fun r w' => r = .returned (.int .i64 (levelL l s)) ∧ Mod (fun _ => False) w w' := by
  obtain ⟨z, hz⟩ : ∃ z, z = levelL l s := ⟨_, rfl⟩
  rw [← hz]
  obtain ⟨W1, hW1⟩ : ∃ W1, W1 = w.alloc (.cells #[.string ⟨s.toArray⟩] 9) := ⟨_, rfl⟩
  have hm1 : Mod (fun _ => False) w W1 := by rw [hW1]; exact (Mod.refl _ _).alloc _
  have hg : W1.cell? ⟨w.heap.size, 0, none⟩ = some (.string ⟨s.toArray⟩) := by rw [hW1]; exact (cell_new_l w _ _).1
  have hrow := Rd.mod (Rd.bound h) hm1 (fun _ _ => id)
  have hidx := indexLV_any A n c l w.heap.size (fun e => nm e == s) _ W1 hrow (fun W hW d m _ => by
    have := levelC_any d s m w.heap.size W ((hW.cell (cell_lt hg) id).trans hg)
    rw [← nm_ent d m] at this ⊢
    exact this)
  obtain ⟨rfl, hcap, -, hbig, -, -⟩ := lab_row h
  have H0 := Lib.hid (And.intro hrow (And.intro hm1 hz)); clear h hrow hm1 hg hz
  rcases idxL_level l s with ⟨hi, hl⟩ | ⟨i, d, hi, hil, hx⟩
  · rw [hi] at hidx
    have hz1 : z = 1 := by rw [H0.out.2.2, hl]
    subst hz1
    clear hl hi
    go_enter Tryz.func46, Tryz.ntmps46
    go_wp2_with fail
    rw [← hW1]
    refine hidx.mono ?_
    rintro r w2 ⟨rfl, hm⟩
    have HM := Lib.hid (tr0 H0.out.2.1 hm); clear hm hW1
    go_wp2_with fail
    go_ret
    exact ⟨rfl, HM.out⟩
  · rw [hi] at hidx
    rw [← H0.out.2.2] at hx
    have HX := Lib.hid hx; clear hx hi
    go_enter Tryz.func46, Tryz.ntmps46
    go_wp2_with fail
    rw [← hW1]
    refine hidx.mono ?_
    rintro r w2 ⟨rfl, hm⟩
    obtain ⟨ad, rfl, -, hc0, hc1, -, -⟩ := row_ent (lab_row (Rd.mod (Rd.bound H0.out.1) hm (fun _ _ => id))).2.2.2.2.2 HX.out
    have HM := Lib.hid (tr0 H0.out.2.1 hm); clear hm hW1
    have e1 : decide ((0 : Int) ≤ (i : Int)) = true := by simp
    go_wp2_with fail
    go_ret
    exact ⟨rfl, HM.out⟩
end Go.Proofs.YthhepnaanjicjaaGreatDoor

/- append(s, x...) whose two slices' types are not spelt alike (a named slice type and a plain one). No program in it. -/
namespace Go.Proofs.YthhepnaanjicjaaGreatDoor
open Go.RowKit
set_option linter.unusedVariables false
section
variable {P : Program} {ops : Array Oper} {rest : List Oper} {o : Oper} {a : Act} {Q : Exit → Act → World → Prop}
theorem append_types {t t2 e e2 ty : TypeId} (ht : P.underlying t = some (.slice e)) (h2 : P.underlying t2 = some (.slice e2)) (v x : Value) (w : World) : (Builtin.append_ #[t, t2] ty #[v, x]).run P w = (Builtin.append_ #[t, t] ty #[v, x]).run P w := by
  cases v <;> simp [Builtin.append_, run_underlying ht, run_underlying h2]
theorem wpList_append_own_at2 (w : World) (hgd : o.guard = none) (s x : Operand) (t t2 : TypeId)
    (ho : o.op = .call { callee := .builtin .append, args := #[s, x], argTypes := #[t, t2] }) {e2 : TypeId} (ht2 : P.underlying t2 = some (.slice e2))
    (base : Nat) (e : TypeId) (i : TypeInfo) (z : Value) (size bytes : Nat) (ht : P.underlying t = some (.slice e)) (hi : P.info? e = some i) (hz : i.zero = some z)
    (hsize : i.size = size) (hby : i.bytes = bytes) (hzs : z.cells.size = size) (hsz : 0 < size)
    (v : Value) (n : Nat) (xs : List Value) (hs : a.eval s = v) (hown : w.ownsRow base e size v n xs)
    (ad : Addr) (m c : Nat) (news : List Value) (hx : a.eval x = .slice (some ad) m c) (hl : news.length = m * size) (hnews : ∀ j u, news[j]? = some u → w.cell? (ad.add j) = some u) (h1 : ∀ u ∈ news, u.oneCell' = true)
    (h63 : n + m ≤ maxLen) (hbytes : (n + m) * bytes ≤ 140737488355328) (hbase : base ≤ w.heap.size)
    (h : ∀ v' w', w'.ownsRow base e size v' (n + m) (xs ++ news) → w.grownBy w' v.ownBlock → (v' = .slice none 0 0 ↔ v = .slice none 0 0 ∧ m = 0) → (v'.ownBlock = v.ownBlock ∨ v'.ownBlock = some w.heap.size) → wpList P ops Q rest (a.put o.dst v') w') :
    wpList P ops Q (o :: rest) a w := by
  refine wpList_plain hgd fun K hK => ?_
  obtain ⟨v', w', hr, h2, h3, h4, h5⟩ := run_append_own_at (P := P) w base t o.type e i z size bytes ht hi hz hsize hby hzs hsz v n xs hown ad m c news hl hnews h1 h63 hbytes hbase
  rw [← append_types ht ht2] at hr
  unfold Oper.wp execOp
  simp only [ho, resolve, invoke, builtin, Sem.run_bind, Sem.run_pure, Result.andThen_ok, List.map_toArray, List.map_cons, List.map_nil, hs, hx, hr]
  exact hK _ _ (h v' w' h2 h3 h4 h5)
theorem wpList_append_own_none2 {w : World} (hgd : o.guard = none) (s x : Operand) (t t2 : TypeId)
    (ho : o.op = .call { callee := .builtin .append, args := #[s, x], argTypes := #[t, t2] }) {e2 : TypeId} (ht2 : P.underlying t2 = some (.slice e2))
    (base : Nat) (e : TypeId) (i : TypeInfo) (size : Nat) (ht : P.underlying t = some (.slice e)) (hi : P.info? e = some i)
    (v : Value) (n : Nat) (xs : List Value) (hs : a.eval s = v) (hown : w.ownsRow base e size v n xs) (hx : a.eval x = .slice none 0 0)
    (h : wpList P ops Q rest (a.put o.dst v) w) : wpList P ops Q (o :: rest) a w := by
  refine wpList_plain hgd fun K hK => ?_
  have hrun := run_append_owned_none (P := P) (w := w) base t o.type e i size ht hi v n xs hown
  rw [← append_types ht ht2] at hrun
  unfold Oper.wp
  simp [execOp, ho, resolve, invoke, builtin, hs, hx, hrun, Result.andThen]
  exact hK _ _ h
end
section
variable {P : Program} {ops : Array Oper} {rest : List Oper} {o : Oper} {a : Act} {Q : Exit → Act → World → Prop} {w : World} {α : Type} {R : Rd α}
/-- append(v, ys...) -/
theorem append_all2 (base : Nat) (hgd : o.guard = none) (s x : Operand) (t t2 e : TypeId) (z : Value) (bytes : Nat)
    (ho : o.op = .call { callee := .builtin .append, args := #[s, x], argTypes := #[t, t2] })
    (ht : P.underlying t = some (.slice e)) (ht2 : P.underlying t2 = some (.slice e)) (hinfo : (P.info? e).map (fun i => (i.zero, i.size, i.bytes)) = some (some z, R.sz, bytes)) (hz : z.cells.size = R.sz)
    (v : Value) (xs ys : List α) (S : Nat → Prop) (A0 : Option Addr) (c0 : Nat) (hs : a.eval s = v) (hx : a.eval x = .slice A0 ys.length c0)
    (HO : OwnR R e w base S v xs) (hy : ys = [] ∨ ∃ ad, A0 = some ad ∧ ∀ j x, ys[j]? = some x → ∃ c, R.rel w (fun k => S k ∧ some k ≠ v.ownBlock) c x ∧ ∀ i u, c[i]? = some u → w.cell? (ad.add (j * R.sz + i)) = some u) (hA0 : A0 = none → c0 = 0) (hbase : base ≤ w.heap.size) (hl : (xs.length + ys.length) * bytes ≤ 140737488355328) (hb0 : 0 < bytes)
    (h : ∀ A c w1, OwnR R e w1 base S (.slice A (xs.length + ys.length) c) (xs ++ ys) → Mod (fun k => v.ownBlock = some k) w w1 → NewOr w v (.slice A (xs.length + ys.length) c) → wpList P ops Q rest (a.put o.dst (.slice A (xs.length + ys.length) c)) w1) :
    wpList P ops Q (o :: rest) a w := by
  obtain ⟨i0, hi, hzz⟩ := Option.map_eq_some_iff.1 hinfo
  simp only [Prod.mk.injEq] at hzz
  obtain ⟨hz0, hz1, hz2⟩ := hzz
  obtain ⟨cells, hown, hread⟩ := HO
  have hlen : xs.length + ys.length ≤ 140737488355328 := Nat.le_trans (Nat.le_mul_of_pos_right _ hb0) hl
  cases A0 with
  | none =>
    have hy0 : ys = [] := by
      rcases hy with h | ⟨ad, hA, _⟩
      · exact h
      · cases hA
    subst hy0
    obtain rfl := hA0 rfl
    refine wpList_append_own_none2 hgd s x t t2 ho ht2 base e i0 R.sz ht hi v xs.length cells hs hown hx ?_
    obtain ⟨A, c, rfl⟩ := own_slice hown
    exact h A c w (by rw [List.append_nil]; exact ⟨cells, hown, hread⟩) (Mod.refl (fun k => (Value.slice A xs.length c).ownBlock = some k) w) (.inl rfl)
  | some ad =>
    obtain ⟨cs, hcl, hcell, hone, hrel⟩ := Rd.RowOf.flat (R := R) (w := w) (ok := fun k => S k ∧ some k ≠ v.ownBlock) (ad := ad) ys 0 (by
      rcases hy with rfl | ⟨ad', hA, h⟩
      · intro j x hj; simp at hj
      · cases hA
        intro j x hj
        obtain ⟨c, h1, h2⟩ := h j x hj
        exact ⟨c, h1, fun i u hu => by rw [Nat.zero_add]; exact h2 i u hu⟩)
    refine wpList_append_own_at2 w hgd s x t t2 ho ht2 base e i0 z R.sz bytes ht hi hz0 hz1 hz2 hz R.pos v xs.length cells hs hown ad ys.length c0 cs hx hcl (fun i u hu => by simpa using hcell i u hu) hone (by simp only [maxLen]; omega) hl hbase ?_
    intro v1 w1 hown1 hg _ hat
    obtain ⟨A, c, rfl⟩ := own_slice hown1
    have hn : NewOr w v (.slice A (xs.length + ys.length) c) := by
      rcases hat with hat | hat
      · exact .inl hat
      · exact .inr ⟨_, hat, Nat.le_refl _⟩
    refine h A c w1 ?_ ((Mod.refl (fun k => v.ownBlock = some k) w).grown hg (fun k hk => .inl hk.symm)) hn
    have hm : ∀ k, (S k ∧ some k ≠ v.ownBlock) → k < w.heap.size → (S k ∧ some k ≠ (Value.slice A (xs.length + ys.length) c).ownBlock) ∧ w1.heap[k]? = w.heap[k]? := by
      rintro k ⟨hk, hne⟩ hlt
      exact ⟨⟨hk, fun e => hn.ne hlt (fun e2 => hne e2.symm) e.symm⟩, hg.block k hlt hne⟩
    refine ⟨cells ++ cs, by simpa using hown1, fun j y hj => ?_⟩
    by_cases hj' : j < xs.length
    · rw [List.getElem?_append_left hj'] at hj
      rw [drop_take_left hown.1 hj']
      exact R.step hm (hread j y hj)
    · rw [List.getElem?_append_right (by omega)] at hj
      rw [drop_take_right hown.1 (by omega)]
      exact R.step hm (hrel _ y hj)
/-- append(v, y), y of whatever kind; behind 'at_builtin', the list of one just laid -/
theorem append_rd2 {W : World} (base : Nat) (hgd : o.guard = none) (s x : Operand) (t t2 e : TypeId) (z : Value) (bytes : Nat)
    (ho : o.op = .call { callee := .builtin .append, args := #[s, x], argTypes := #[t, t2] })
    (ht : P.underlying t = some (.slice e)) (ht2 : P.underlying t2 = some (.slice e)) (hinfo : (P.info? e).map (fun i => (i.zero, i.size, i.bytes)) = some (some z, R.sz, bytes)) (hz : z.cells.size = R.sz) (hb0 : 0 < bytes)
    (v : Value) (xs : List α) (y : α) (cs : List Value) (S : Nat → Prop) (hs : a.eval s = v) (hx : a.eval x = .slice (some ⟨W.heap.size, 0, none⟩) 1 1)
    (HO : OwnR R e W base S v xs) (hy : R.rel W (fun k => S k ∧ some k ≠ v.ownBlock) cs y) (hbase : base ≤ W.heap.size) (hl : (xs.length + 1) * bytes ≤ 140737488355328)
    (h : ∀ A c w1, OwnR R e w1 base S (.slice A (xs.length + 1) c) (xs ++ [y]) → Mod (fun k => v.ownBlock = some k) W w1 → NewOr W v (.slice A (xs.length + 1) c) → wpList P ops Q rest (a.put o.dst (.slice A (xs.length + 1) c)) w1) :
    wpList P ops Q (o :: rest) a (W.alloc (.cells cs.toArray e)) := by
  obtain ⟨i0, hi, hzz⟩ := Option.map_eq_some_iff.1 hinfo
  simp only [Prod.mk.injEq] at hzz
  obtain ⟨hz0, hz1, hz2⟩ := hzz
  obtain ⟨cells, hown, hread⟩ := HO
  have hlen : xs.length + 1 ≤ 140737488355328 := Nat.le_trans (Nat.le_mul_of_pos_right _ hb0) hl
  have hcs := R.len hy
  refine wpList_append_own_at2 (W.alloc (.cells cs.toArray e)) hgd s x t t2 ho ht2 base e i0 z R.sz bytes ht hi hz0 hz1 hz2 hz R.pos v xs.length cells hs (hown.alloc _) ⟨W.heap.size, 0, none⟩ 1 1 cs hx (by omega)
    (World.news_of_block (cs := cs.toArray) (t := e) (fr := (0, 0)) (heap_alloc_new W _)) (R.one hy) (by simp only [maxLen]; omega) hl (by simp; omega) ?_
  intro v1 w1 hown1 hg _ hat
  obtain ⟨A, c, rfl⟩ := own_slice hown1
  have hn : NewOr W v (.slice A (xs.length + 1) c) := by
    rcases hat with hat | hat
    · exact .inl hat
    · exact .inr ⟨_, hat, by simp⟩
  have hg' : W.grownBy w1 v.ownBlock := World.grownBy.trans (World.grownBy_alloc W _ _) hg
  refine h A c w1 ?_ ((Mod.refl (fun k => v.ownBlock = some k) W).grown hg' (fun k hk => .inl hk.symm)) hn
  exact OwnR.snoc hread (by rw [hown.1]) hy (by simpa using hown1) hg' hn
end
end Go.Proofs.YthhepnaanjicjaaGreatDoor
