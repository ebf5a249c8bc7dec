/- Part of this claim's proof (texts TabW, OwnA, OwnG, TabE, Tab1, joined by program). -/
import Derived.Test.YtefedalnafjcfaaGreatDoorA13
import Derived.Test.YtefedalnafjcfaaGreatDoorA11
import Derived.Test.YtefedalnafjcfaaGreatDoorA09
import Derived.Test.YtefedalnafjcfaaGreatDoorA12
namespace Go.Proofs.YtefedalnafjcfaaGreatDoor
open Go.RowKit
set_option linter.unusedVariables false
def kidB (L : Tab) (p : List Int) (k : Kid) : Bool := decide (p.length < 6) && match getT L (p ++ [k.n]) with
  | none => false
  | some y => decide (y.kind = k.kind) && decide (usesO y ≤ k.quota)
def toldT (L : Tab) : Nat := (L.map fun x => x.2.kids.length).sum
noncomputable def wholeC (L : Tab) : Bool := match getT L [] with
  | none => false
  | some r => decide (r.kind = 1) && L.all (fun x => x.2.kids.all (kidB L x.1) && fitsT L x.1 x.2) && decide (1 + toldT L = L.length) && decide (usesO r ≤ 1048576)
def kidPaths (L : Tab) : List (List Int) := L.flatMap fun x => x.2.kids.map fun k => x.1 ++ [k.n]
theorem kidPaths_len (L : Tab) : (kidPaths L).length = toldT L := by
  simp [kidPaths, toldT, List.length_flatMap]
theorem kidPaths_mem {L : Tab} {q : List Int} : q ∈ kidPaths L ↔ ∃ x ∈ L, ∃ k ∈ x.2.kids, q = x.1 ++ [k.n] := by
  simp only [kidPaths, List.mem_flatMap, List.mem_map]
  constructor
  · rintro ⟨x, hx, k, hk, rfl⟩; exact ⟨x, hx, k, hk, rfl⟩
  · rintro ⟨x, hx, k, hk, rfl⟩; exact ⟨x, hx, k, hk, rfl⟩
theorem asc_nodup {l : List Int} (h : l.Pairwise (· < ·)) : l.Nodup := h.imp fun h e => by omega
theorem kidPaths_nodup {L : Tab} (ha : AscT L) (hr : ∀ x ∈ L, RightOb x.2) : (kidPaths L).Nodup := by
  induction L with
  | nil => exact List.Pairwise.nil
  | cons x L ih =>
    obtain ⟨h1, h2⟩ := List.pairwise_cons.1 ha
    show (x.2.kids.map (fun k => x.1 ++ [k.n]) ++ kidPaths L).Nodup
    rw [List.nodup_append]
    refine ⟨?_, ih h2 fun y hy => hr y (.tail _ hy), ?_⟩
    · have hn := asc_nodup (hr x (.head _)).kids.asc
      have : x.2.kids.map (fun k => x.1 ++ [k.n]) = (x.2.kids.map (·.n)).map fun n => x.1 ++ [n] := by rw [List.map_map]; rfl
      rw [this]
      exact List.Pairwise.map _ (fun a b hab e => hab (by simpa using e)) hn
    · intro a ha2 b hb e
      obtain ⟨k, hk, rfl⟩ := List.mem_map.1 ha2
      obtain ⟨y, hy, k2, hk2, rfl⟩ := kidPaths_mem.1 hb
      have := (List.append_inj' e rfl).1
      exact ltP_irr _ (this ▸ h1 y hy)
theorem paths_nodup {L : Tab} (ha : AscT L) : (L.map (·.1)).Nodup := List.Pairwise.map _ (fun a b hab e => ltP_irr b.1 (by have h : a.1 = b.1 := e; rw [h] at hab; exact hab)) (show L.Pairwise (fun x y => ltP x.1 y.1) from ha)
theorem sub_len {α : Type} [DecidableEq α] : ∀ {l m : List α}, l.Nodup → m.Nodup → (∀ x ∈ l, x ∈ m) → l.length ≤ m.length ∧ (l.length = m.length → ∀ x ∈ m, x ∈ l) := by
  intro l
  induction l with
  | nil => intro m _ _ _; exact ⟨by simp, fun h x hx => by cases m with | nil => cases hx | cons => simp at h⟩
  | cons a l ih =>
    intro m hl hm hs
    rw [List.nodup_cons] at hl
    obtain ⟨m1, m2, rfl⟩ := List.append_of_mem (hs a (.head _))
    have hp : (m1 ++ a :: m2).Perm (a :: (m1 ++ m2)) := List.perm_middle
    have hn := (hp.nodup_iff).1 hm
    rw [List.nodup_cons] at hn
    have := ih (m := m1 ++ m2) hl.2 hn.2 (fun x hx => by
      have h1 := hp.mem_iff.1 (hs x (.tail _ hx))
      rcases List.mem_cons.1 h1 with rfl | h1
      · exact absurd hx hl.1
      · exact h1)
    refine ⟨by simp at this ⊢; omega, fun h x hx => ?_⟩
    rcases List.mem_cons.1 (hp.mem_iff.1 hx) with rfl | hx
    · exact .head _
    · exact .tail _ (this.2 (by simp at h ⊢; omega) x hx)
/-- told and counted: each object but the root is somebody's kid -/
theorem counted {L : Tab} (ha : AscT L) (hr : ∀ x ∈ L, RightOb x.2) (h0 : ∃ r, getT L [] = some r) (hk : ∀ x ∈ L, ∀ k ∈ x.2.kids, ∃ y, getT L (x.1 ++ [k.n]) = some y) :
    1 + toldT L = L.length ↔ ∀ p n o, getT L (p ++ [n]) = some o → ∃ c, getT L p = some c ∧ ∃ k ∈ c.kids, k.n = n := by
  have hnd : ([] :: kidPaths L).Nodup := by
    rw [List.nodup_cons]
    refine ⟨fun h => ?_, kidPaths_nodup ha hr⟩
    obtain ⟨x, _, k, _, e⟩ := kidPaths_mem.1 h
    simp at e
  have hsub : ∀ q ∈ [] :: kidPaths L, q ∈ L.map (·.1) := by
    intro q hq
    rcases List.mem_cons.1 hq with rfl | hq
    · obtain ⟨r, hr⟩ := h0; exact List.mem_map.2 ⟨_, getT_mem hr, rfl⟩
    · obtain ⟨x, hx, k, hkm, rfl⟩ := kidPaths_mem.1 hq
      obtain ⟨y, hy⟩ := hk x hx k hkm
      exact List.mem_map.2 ⟨_, getT_mem hy, rfl⟩
  have hlen : ([] :: kidPaths L).length = 1 + toldT L := by rw [List.length_cons, kidPaths_len]; omega
  have hL : (L.map (·.1)).length = L.length := by simp
  constructor
  · intro h p n o hg
    have := (sub_len hnd (paths_nodup ha) hsub).2 (by rw [hlen, hL]; exact h) (p ++ [n]) (List.mem_map.2 ⟨_, getT_mem hg, rfl⟩)
    rcases List.mem_cons.1 this with e | e
    · simp at e
    · obtain ⟨x, hx, k, hkm, e⟩ := kidPaths_mem.1 e
      obtain ⟨e1, e2⟩ := List.append_inj' e rfl
      refine ⟨x.2, by rw [e1]; exact getT_of_mem ha hx, k, hkm, by simpa using e2.symm⟩
  · intro h
    have h1 := (sub_len hnd (paths_nodup ha) hsub).1
    have h2 := (sub_len (paths_nodup ha) hnd (by
      intro q hq
      obtain ⟨x, hx, rfl⟩ := List.mem_map.1 hq
      by_cases e : x.1 = []
      · rw [e]; exact .head _
      · have hg := getT_of_mem ha hx
        rw [snoc_of e] at hg ⊢
        obtain ⟨c, hc, k, hkm, hn⟩ := h _ _ _ hg
        exact .tail _ (kidPaths_mem.2 ⟨_, getT_mem hc, k, hkm, by rw [hn]⟩))).1
    rw [hlen, hL] at h1 h2
    omega
theorem kidB_iff {L : Tab} {p : List Int} {k : Kid} : kidB L p k = true ↔ p.length < 6 ∧ ∃ y, getT L (p ++ [k.n]) = some y ∧ y.kind = k.kind ∧ usesO y ≤ k.quota := by
  unfold kidB
  cases getT L (p ++ [k.n]) with
  | none => simp
  | some y => simp
theorem wholeC_iff {L : Tab} (ha : AscT L) (hp : ∀ x ∈ L, rightP x.1 = true) (hr : ∀ x ∈ L, RightOb x.2) : wholeC L = true ↔ ValidT L := by
  unfold wholeC
  cases h0 : getT L [] with
  | none =>
    refine ⟨fun h => (by cases h), fun h => ?_⟩
    obtain ⟨r, hr, _⟩ := h.root
    rw [h0] at hr; cases hr
  | some r =>
    simp only [Bool.and_eq_true, decide_eq_true_eq, List.all_eq_true, kidB_iff, fitsT_iff]
    constructor
    · rintro ⟨⟨⟨h1, h2⟩, h3⟩, h4⟩
      have hup := (counted ha hr ⟨r, h0⟩ (fun x hx k hk => by obtain ⟨_, y, hy, _⟩ := (h2 x hx).1 k hk; exact ⟨y, hy⟩)).1 h3
      refine ⟨ha, fun p o h => hp _ (getT_mem h), fun p o h => hr _ (getT_mem h), ⟨r, h0, h1, h4⟩, ?_, hup⟩
      intro p o h k hk
      obtain ⟨h5, y, h6, h7, h8⟩ := (h2 _ (getT_mem h)).1 k hk
      refine ⟨h5, y, h6, h7, h8, ?_⟩
      have := (h2 _ (getT_mem h)).2.2 k hk
      simpa [labT, h6] using this
    · intro hv
      have hk : ∀ x ∈ L, ∀ k ∈ x.2.kids, x.1.length < 6 ∧ ∃ y, getT L (x.1 ++ [k.n]) = some y ∧ y.kind = k.kind ∧ usesO y ≤ k.quota ∧ FlowsL x.2.label y.label := fun x hx => hv.kid _ _ (getT_of_mem ha hx)
      obtain ⟨r', hr1, hr2, hr3⟩ := hv.root
      rw [h0] at hr1; cases hr1
      refine ⟨⟨⟨hr2, fun x hx => ⟨fun k hkm => ?_, fun hne => ?_, fun k hkm => ?_⟩⟩, (counted ha hr ⟨r, h0⟩ fun x hx k hkm => ?_).2 hv.up⟩, hr3⟩
      · obtain ⟨a, y, b, c, d, _⟩ := hk x hx k hkm; exact ⟨a, y, b, c, d⟩
      · have hg := getT_of_mem ha hx
        rw [snoc_of hne] at hg
        obtain ⟨c, hc, k, hkm, hn⟩ := hv.up _ _ _ hg
        obtain ⟨_, y, hy, _, _, hf⟩ := hv.kid _ _ hc k hkm
        rw [hn, hg] at hy; cases hy
        simpa [labT, hc] using hf
      · obtain ⟨a, y, b, c, d, e⟩ := hk x hx k hkm
        simpa [labT, b] using e
      · obtain ⟨a, y, b, _⟩ := hk x hx k hkm; exact ⟨y, b⟩
end Go.Proofs.YtefedalnafjcfaaGreatDoor

namespace Go.Proofs.YtefedalnafjcfaaGreatDoor
open Go.RowKit Go.Shelf
set_option linter.unusedVariables false
section
variable {ops : Array Oper} {rest : List Oper} {o : Oper} {a : Act} {Q : Exit → Act → World → Prop} {W : World}
theorem append1_nm (base : Nat) (hgd : o.guard = none) (s x : Operand)
    (ho : o.op = .call { callee := .builtin .append, args := #[s, x], argTypes := #[36, 36] })
    (v : Value) (xs : List Nm) (y : Nm) (hs : a.eval s = v) (hx : a.eval x = .slice (some ⟨W.heap.size, 0, none⟩) 1 1)
    (HO : OwnN W base v xs) (hbase : base ≤ W.heap.size) (hl : (xs.length + 1) * 16 ≤ 140737488355328)
    (h : ∀ A c w1, OwnN w1 base (.slice A (xs.length + 1) c) (xs ++ [y]) → Mod (fun k => v.ownBlock = some k) W w1 → NewOr W v (.slice A (xs.length + 1) c) → wpList Tryz.prog ops Q rest (a.put o.dst (.slice A (xs.length + 1) c)) w1) :
    wpList Tryz.prog ops Q (o :: rest) a (W.alloc (.cells #[.string ⟨y.toArray⟩] 9)) := by
  have hsl := scells_len xs
  refine append_one base hgd s x 36 9 (.string ⟨#[]⟩) 16 ho Tryz.underlying36 Tryz.info_str3 rfl (by decide) v (scells xs) (encS y) hs hx rfl (by rw [hsl]; exact HO) hbase (by rw [hsl]; exact hl) ?_
  intro A c w1 hO hg hn
  rw [hsl] at hO hn ⊢
  refine h A c w1 ?_ ((Mod.refl _ W).grown hg (fun k hk => .inl hk.symm)) hn
  show w1.ownsRow base _ 1 _ (xs ++ [y]).length (scells (xs ++ [y]))
  have : scells (xs ++ [y]) = scells xs ++ [encS y] := by rw [scells_app]; rfl
  rw [this]
  simpa [hsl] using hO
end
end Go.Proofs.YtefedalnafjcfaaGreatDoor

namespace Go.Proofs.YtefedalnafjcfaaGreatDoor
open Go.RowKit Go.Shelf
set_option linter.unusedVariables false
def getC : Nat → TSt → List Nm × TSt
  | 0, s => ([], s)
  | k + 1, s => ((textS 80 s).1 :: (getC k (textS 80 s).2).1, (getC k (textS 80 s).2).2)
noncomputable def getO (s : TSt) : List Nm × Int × TSt :=
  if (getC (numS 8 s).1.toNat (numS 8 s).2).2.2 ≠ 0 ∨ rightO (getC (numS 8 s).1.toNat (numS 8 s).2).1 = false then ([], 10, (getC (numS 8 s).1.toNat (numS 8 s).2).2) else ((getC (numS 8 s).1.toNat (numS 8 s).2).1, 0, (getC (numS 8 s).1.toNat (numS 8 s).2).2)
theorem getC_enc : ∀ (l : List Nm) (rest : List UInt8), (∀ e ∈ l, e.length ≤ 80) → getC l.length (l.flatMap encC ++ rest, 0) = (l, (rest, 0))
  | [], rest, _ => by simp [getC]
  | e :: l, rest, h => by
    have h1 := h e List.mem_cons_self
    have ih := getC_enc l rest fun x hx => h x (List.mem_cons_of_mem _ hx)
    have hl : (e :: l).flatMap encC ++ rest = encF 10 e.length ++ (e ++ (l.flatMap encC ++ rest)) := by
      rw [List.flatMap_cons, encC]; simp
    rw [hl, List.length_cons, getC, textS_enc e _ (by omega) (by omega)]
    simp only
    rw [ih]
theorem getO_enc {l : List Nm} (h : RightO l) (rest : List UInt8) : getO (encO l ++ rest, 0) = (l, 0, (rest, 0)) := by
  have h8 := h.len
  have hl : encO l ++ rest = encF 10 (l.length : Int) ++ (l.flatMap encC ++ rest) := by unfold encO; simp
  unfold getO
  rw [hl, numS_enc _ (by omega) (by omega) (by omega)]
  simp only [Int.toNat_natCast]
  rw [getC_enc l rest (rightO_names h)]
  rw [if_neg (by simp [rightO_iff.2 h])]
set_option maxRecDepth 100000 in
set_option maxHeartbeats 2000000 in
theorem getO_any (g : Nat) (ok : Nat → Prop) (s : TSt) (w : World) (h : TapeS w ok g s) (hE : ∀ W, Mod (fun k => k = g) w W → Env W) :
    Calls Tryz.prog 48 #[.pointer (some ⟨g, 0, none⟩)] w fun r w' => ∃ A c, r = .returned (.tuple #[.slice A (getO s).1.length c, .int .i64 (getO s).2.1]) ∧ OwnN w' w.heap.size (.slice A (getO s).1.length c) (getO s).1 ∧ TapeS w' ok g (getO s).2.2 ∧ Mod (fun k => k = g) w w' := by
  obtain ⟨z, hz⟩ : ∃ z, z = getO s := ⟨_, rfl⟩
  rw [← hz]
  unfold getO at hz
  have hgw := h.lt
  have hbd : ∀ W, TapeS W (fun k => ok k ∧ k < w.heap.size) g z.2.2 → TapeS W ok g z.2.2 := fun W hW => hW.mono fun k hk => hk.1
  have h := h.bound
  obtain ⟨ok1, hok1⟩ : ∃ ok1, ok1 = fun k => ok k ∧ k < w.heap.size := ⟨_, rfl⟩
  have hok2 : ∀ k, ok1 k → k < w.heap.size := fun k hk => by rw [hok1] at hk; exact hk.2
  rw [← hok1] at h hbd
  have hn := tnumS_any g ok1 s 8 w h
  have hr := numS_range s (most := 8) (by decide)
  obtain ⟨s1, hs1⟩ : ∃ s1, s1 = (numS 8 s).2 := ⟨_, rfl⟩
  obtain ⟨K, hK⟩ : ∃ K : Nat, K = (numS 8 s).1.toNat := ⟨_, rfl⟩
  have hK' : (numS 8 s).1 = K := by omega
  rw [← hs1, hK'] at hn
  rw [← hs1, ← hK] at hz
  have hK8 : K ≤ 8 := by omega
  have H0 := Lib.hid (And.intro hn (And.intro hz (And.intro hE (And.intro hgw (And.intro hbd hok2))))); clear h hn hz hE hr hs1 hK hK' hgw hbd hok1 hok2
  go_enter Tryz.func48, Tryz.ntmps48
  go_wp2_with fail
  refine H0.out.1.mono ?_
  rintro r w1 ⟨rfl, ht1, hm1⟩
  have H1 := Lib.hid (And.intro ht1 hm1); clear ht1 hm1
  go_wp2_with fail
  go_loopg [4, 7] K (fun f so si wr => ∃ (i : Nat) (A : Option Addr) (c : Nat) (lst : List Nm) (s2 : TSt), si = .int .i64 i ∧ so = .slice A i c ∧ i + f = K ∧ lst.length = i ∧ (∀ x ∈ lst, x.length ≤ 80) ∧ getC K s1 = (lst ++ (getC f s2).1, (getC f s2).2) ∧ OwnN wr w.heap.size (.slice A i c) lst ∧ TapeS wr ok1 g s2 ∧ Mod (fun k => k = g) w wr)
  case atStart => exact ⟨0, none, 0, [], s1, rfl, rfl, by omega, rfl, by simp, by simp, OwnN.nil _ _, H1.out.1, H1.out.2⟩
  case round =>
    obtain ⟨i, A, c, lst, s2, rfl, rfl, hi, hll, hle, hget, hO, hT, hmod⟩ := hrel
    by_cases hlt : i < K
    · obtain ⟨f, rfl⟩ : ∃ f, gk = f + 1 := ⟨gk - 1, by omega⟩
      obtain ⟨d, hd⟩ : ∃ d, d = (textS 80 s2).1 := ⟨_, rfl⟩
      obtain ⟨s3, hs3⟩ : ∃ s3, s3 = (textS 80 s2).2 := ⟨_, rfl⟩
      have hdl : d.length ≤ 80 := by have := textS_le s2 (most := 80) (by decide); rw [← hd] at this; omega
      have hget' : getC K s1 = ((lst ++ [d]) ++ (getC f s3).1, (getC f s3).2) := by rw [hget, getC, ← hs3, ← hd]; simp
      have hle' : ∀ x ∈ lst ++ [d], x.length ≤ 80 := fun x hx => (List.mem_append.1 hx).elim (hle x) (fun h => by rw [List.mem_singleton.1 h]; exact hdl)
      have htx := ttextS_any g ok1 s2 80 wr hT
      unfold mkStr at htx
      rw [← hd, ← hs3] at htx
      have HX := Lib.hid (And.intro hi (And.intro hll (And.intro hget' (And.intro hO (And.intro htx (And.intro hle' hmod))))))
      clear hi hll hget hget' hO htx hle hle' hmod hT hd hs3
      go_wp2_with fail
      refine HX.out.2.2.2.2.1.mono ?_
      rintro r w2 ⟨rfl, ht2, hm2⟩
      have hm02 := HX.out.2.2.2.2.2.2.trans hm2 (fun _ h => .inl h)
      have hO2 := OwnN.mod HX.out.2.2.2.1 hm2 (fun k hk e => by have h1 := (own_lt HX.out.2.2.2.1 k hk).1; have h2 := H0.out.2.2.2.1; omega)
      have hsz := hm02.size
      have hll := HX.out.2.1
      have H3 := Lib.hid (And.intro hO2 (And.intro ht2 (And.intro hm02 hsz))); clear ht2 hm2 hm02 hO2 hsz
      go_wp2_with (at_builtin; refine append1_nm w.heap.size rfl _ _ rfl (.slice A i c) lst d rfl rfl H3.out.1 H3.out.2.2.2 (by rw [hll]; omega) ?_)
      intro A8 c8 w8 hO8 hm8 hn8
      have hne : ∀ k, (Value.slice A i c).ownBlock = some k → w.heap.size ≤ k := fun k hk => (own_lt H3.out.1 k hk).1
      have hap : ∀ k, ok1 k → ¬ (Value.slice A i c).ownBlock = some k := fun k hk e => by have h1 := hne k e; have h2 := H0.out.2.2.2.2.2 k hk; omega
      have hm08 := H3.out.2.2.1.trans hm8 (fun k hk => .inr (hne k hk))
      have H8 := Lib.hid (And.intro hO8 (And.intro (H3.out.2.1.mod hm8 (fun hk => by have := hne _ hk; have := H0.out.2.2.2.1; omega) hap) hm08)); clear hO8 hm8 hn8 hm08 hne hap
      go_wp2_with fail
      go_roundg f
      case measure => omega
      case rel => exact ⟨i + 1, A8, c8, lst ++ [d], s3, by go_num, by first | rfl | simp [hll], by have := HX.out.1; omega, by simp; omega, HX.out.2.2.2.2.2.1, HX.out.2.2.1, by first | exact H8.out.1 | (have h := H8.out.1; rw [HX.out.2.1] at h; exact h), H8.out.2.1, H8.out.2.2⟩
    · obtain rfl : gk = 0 := by omega
      obtain rfl : i = K := by omega
      have hget' : getC i s1 = (lst, s2) := by rw [hget]; simp [getC]
      have hzz := H0.out.2.1
      rw [hget'] at hzz
      have her := terrS_any g ok1 s2 wr hT
      have hrd : nmsR.rel wr _ [.slice A i c] lst := OwnN.reads hO (fun x hx => Nat.le_trans (hle x hx) (by decide)) (by omega)
      have hrt2 := rightO_any A i c lst _ wr hrd (H0.out.2.2.1 wr hmod)
      have HX := Lib.hid (And.intro hO (And.intro hT (And.intro hmod (And.intro hzz (And.intro her (And.intro hrt2 hll))))))
      clear hi hll hget hget' hO hT hmod hzz her hrd hrt2 hle
      by_cases hs : s2.2 = 0
      · go_wp2_with fail
        refine HX.out.2.2.2.2.1.mono ?_
        rintro r w2 ⟨e, rfl, he, -, rfl⟩
        obtain rfl := he hs
        cases hrb : rightO lst with
        | true =>
          have hrt := HX.out.2.2.2.2.2.1
          rw [hrb] at hrt
          have hz' : z = (lst, 0, s2) := by rw [HX.out.2.2.2.1, if_neg (by simp [hs, hrb])]
          have HR := Lib.hid hrt; clear hrt hrb hs
          subst hz'
          go_wp2_with fail
          refine HR.out.mono ?_
          rintro r w3 ⟨rfl, hm3⟩
          have H3 := Lib.hid hm3; clear hm3
          go_wp2_with fail
          go_ret2
          have hll := HX.out.2.2.2.2.2.2
          subst hll
          exact ⟨A, c, rfl, OwnN.mod HX.out.1 H3.out (fun _ _ => id), H0.out.2.2.2.2.1 _ (HX.out.2.1.mod H3.out id (fun _ _ => id)), tr0 HX.out.2.2.1 H3.out⟩
        | false =>
          have hrt := HX.out.2.2.2.2.2.1
          rw [hrb] at hrt
          have hz' : z = ([], 10, s2) := by rw [HX.out.2.2.2.1, if_pos (.inr hrb)]
          have HR := Lib.hid hrt; clear hrt hrb hs
          subst hz'
          go_wp2_with fail
          refine HR.out.mono ?_
          rintro r w3 ⟨rfl, hm3⟩
          have H3 := Lib.hid hm3; clear hm3
          go_wp2_with fail
          go_ret2
          exact ⟨none, 0, rfl, OwnN.nil _ _, H0.out.2.2.2.2.1 _ (HX.out.2.1.mod H3.out id (fun _ _ => id)), tr0 HX.out.2.2.1 H3.out⟩
      · have hz' : z = ([], 10, s2) := by rw [HX.out.2.2.2.1, if_pos (.inl hs)]
        go_wp2_with fail
        refine HX.out.2.2.2.2.1.mono ?_
        rintro r w2 ⟨e, rfl, -, he, rfl⟩
        obtain ⟨T, p, rfl⟩ := he hs
        clear he hs
        subst hz'
        go_wp2_with fail
        go_ret2
        exact ⟨none, 0, rfl, OwnN.nil _ _, H0.out.2.2.2.2.1 _ HX.out.2.1, HX.out.2.2.1⟩
end Go.Proofs.YtefedalnafjcfaaGreatDoor

namespace Go.Proofs.YtefedalnafjcfaaGreatDoor
open Go.RowKit
set_option linter.unusedVariables false
def bitB (b : Bool) : UInt8 := if b then 1 else 0
def putP (p : List Int) : List UInt8 := encF 10 p.length ++ p.flatMap encN
def encKid (k : Kid) : List UInt8 := encN k.n ++ encN k.kind ++ encN k.quota
def encSg (m : Sg) : List UInt8 := encN m.at_ ++ putP m.seg ++ [bitB m.write]
def putO (o : Ob) : List UInt8 := encN o.kind ++ encL o.label ++ encF 10 o.kids.length ++ o.kids.flatMap encKid ++ encN o.next ++ encC o.bytes ++ encO o.own ++ encN o.cats ++ encL o.entry ++ encN o.ring ++ encF 10 o.maps.length ++ o.maps.flatMap encSg
def encI (x : List Int × Ob) : List UInt8 := putP x.1 ++ putO x.2
def bytesT (L : Tab) : List UInt8 := encF 10 L.length ++ L.flatMap encI
def getIs (most : Int) : Nat → TSt → List Int × TSt
  | 0, s => ([], s)
  | k + 1, s => ((numS most s).1 :: (getIs most k (numS most s).2).1, (getIs most k (numS most s).2).2)
def getP (s : TSt) : List Int × Int × TSt :=
  let r := getIs 1048576 (numS 6 s).1.toNat (numS 6 s).2
  if r.2.2 ≠ 0 then ([], 10, r.2) else (r.1, 0, r.2)
def flagS (s : TSt) : Bool × TSt := ((numS 1 s).1 == 1, (numS 1 s).2)
def getKid (s : TSt) : Kid × TSt :=
  let a := numS 1048576 s
  let b := numS 5 a.2
  let c := numS 1048576 b.2
  (⟨a.1, b.1, c.1⟩, c.2)
def getKids : Nat → TSt → List Kid × TSt
  | 0, s => ([], s)
  | k + 1, s => ((getKid s).1 :: (getKids k (getKid s).2).1, (getKids k (getKid s).2).2)
def getSg (s : TSt) : Sg × TSt :=
  let a := numS 1048576 s
  let b := getP a.2
  let c := flagS b.2.2
  (⟨a.1, b.1, c.1⟩, c.2)
def getSgs : Nat → TSt → List Sg × TSt
  | 0, s => ([], s)
  | k + 1, s => ((getSg s).1 :: (getSgs k (getSg s).2).1, (getSgs k (getSg s).2).2)
/-- an object is read: the object, are the label, the ownership and the entry right, the tape -/
noncomputable def getObj0 (s : TSt) : Ob × Bool × TSt :=
  let s1 := numS 5 s
  let s2 := getL s1.2
  let s3 := numS 16 s2.2.2
  let s4 := getKids s3.1.toNat s3.2
  let s5 := numS 1048577 s4.2
  let s6 := textS 256 s5.2
  let s7 := getO s6.2
  let s8 := numS 65536 s7.2.2
  let s9 := getL s8.2
  let s10 := numS 1048576 s9.2.2
  let s11 := numS 4 s10.2
  let s12 := getSgs s11.1.toNat s11.2
  (⟨s1.1, s2.1, s4.1, s5.1, s6.1, s7.1, s8.1, s9.1, s10.1, s12.1⟩, decide (s2.2.1 = 0) && decide (s7.2.1 = 0) && decide (s9.2.1 = 0), s12.2)
noncomputable def getOb (s : TSt) : Ob × Bool × TSt := ((getObj0 s).1, decide ((getObj0 s).2.2.2 = 0) && (getObj0 s).2.1 && rightOb (getObj0 s).1, (getObj0 s).2.2)
/-- objects are read, each behind the last one -/
noncomputable def getItems : Nat → Tab → TSt → Option Tab × TSt
  | 0, L, s => (some L, s)
  | k + 1, L, s =>
    let a := getP s
    let b := getOb a.2.2
    if a.2.1 ≠ 0 ∨ b.2.1 = false ∨ (∃ x, L.getLast? = some x ∧ 0 ≤ cmpL x.1 a.1) then (none, b.2.2) else getItems k (L ++ [(a.1, b.1)]) b.2.2
noncomputable def loadT (b : List UInt8) : Option Tab := match getItems (numS 65536 (b, 0)).1.toNat [] (numS 65536 (b, 0)).2 with
  | (none, _) => none
  | (some L, s) => if s.2 = 0 ∧ s.1 = [] ∧ wholeC L = true then some L else none
-- what is put is read
theorem encN_in {n : Int} (h0 : 0 ≤ n) (h1 : n ≤ 4611686018427387903) : encN n = encF 10 n := by unfold encN; rw [if_pos ⟨h0, h1⟩]
theorem numS_encN {most n : Int} (rest : List UInt8) (h0 : 0 ≤ n) (hm : n ≤ most) (h1 : n ≤ 4611686018427387903) : numS most (encN n ++ rest, 0) = (n, (rest, 0)) := by
  rw [encN_in h0 h1, numS_enc rest h0 h1 hm]
theorem getIs_enc (most : Int) (hm : most ≤ 4611686018427387903) : ∀ (l : List Int) (rest : List UInt8), (∀ n ∈ l, 0 ≤ n ∧ n ≤ most) → getIs most l.length (l.flatMap encN ++ rest, 0) = (l, (rest, 0))
  | [], rest, _ => by simp [getIs]
  | n :: l, rest, h => by
    have hn := h n (.head _)
    rw [List.flatMap_cons, List.append_assoc, List.length_cons, getIs, numS_encN _ hn.1 hn.2 (by omega), getIs_enc most hm l rest fun x hx => h x (.tail _ hx)]
theorem getP_enc {p : List Int} (h : rightP p = true) (rest : List UInt8) : getP (putP p ++ rest, 0) = (p, 0, (rest, 0)) := by
  rw [rightP_iff] at h
  unfold getP putP
  rw [List.append_assoc, numS_enc _ (by omega) (by omega) (by omega)]
  simp only [Int.toNat_natCast]
  rw [getIs_enc _ (by decide) p rest h.2]
  simp
theorem flagS_enc (b : Bool) (rest : List UInt8) : flagS (bitB b :: rest, 0) = (b, (rest, 0)) := by
  have : ∀ n : Int, 0 ≤ n → n ≤ 1 → numS 1 (u8 n :: rest, 0) = (n, (rest, 0)) := by
    intro n h0 h1
    have := numS_enc (most := 1) rest h0 (by omega) h1
    rw [show encF 10 n = [u8 n] from encF_lt 9 n (by omega)] at this
    exact this
  unfold flagS
  cases b
  · have e : bitB false = u8 0 := by decide
    rw [e, this 0 (by decide) (by decide)]; rfl
  · have e : bitB true = u8 1 := by decide
    rw [e, this 1 (by decide) (by decide)]; rfl
theorem getKid_enc {k : Kid} (h : (0 ≤ k.n ∧ k.n ≤ 1048576) ∧ (0 ≤ k.kind ∧ k.kind ≤ 5) ∧ 0 ≤ k.quota ∧ k.quota ≤ 1048576) (rest : List UInt8) : getKid (encKid k ++ rest, 0) = (k, (rest, 0)) := by
  unfold getKid encKid
  rw [List.append_assoc, List.append_assoc]
  simp only [numS_encN _ h.1.1 h.1.2 (by omega), numS_encN _ h.2.1.1 h.2.1.2 (by omega), numS_encN _ h.2.2.1 h.2.2.2 (by omega)]
theorem getKids_enc : ∀ (l : List Kid) (rest : List UInt8), (∀ k ∈ l, (0 ≤ k.n ∧ k.n ≤ 1048576) ∧ (0 ≤ k.kind ∧ k.kind ≤ 5) ∧ 0 ≤ k.quota ∧ k.quota ≤ 1048576) → getKids l.length (l.flatMap encKid ++ rest, 0) = (l, (rest, 0))
  | [], rest, _ => by simp [getKids]
  | k :: l, rest, h => by
    rw [List.flatMap_cons, List.append_assoc, List.length_cons, getKids, getKid_enc (h k (.head _)), getKids_enc l rest fun x hx => h x (.tail _ hx)]
theorem getSg_enc {m : Sg} (h : 0 ≤ m.at_ ∧ m.at_ ≤ 1048576 ∧ rightP m.seg = true) (rest : List UInt8) : getSg (encSg m ++ rest, 0) = (m, (rest, 0)) := by
  unfold getSg encSg
  rw [List.append_assoc, List.append_assoc]
  simp only [numS_encN _ h.1 h.2.1 (by omega), getP_enc h.2.2, List.singleton_append, flagS_enc]
theorem getSgs_enc : ∀ (l : List Sg) (rest : List UInt8), (∀ m ∈ l, 0 ≤ m.at_ ∧ m.at_ ≤ 1048576 ∧ rightP m.seg = true) → getSgs l.length (l.flatMap encSg ++ rest, 0) = (l, (rest, 0))
  | [], rest, _ => by simp [getSgs]
  | k :: l, rest, h => by
    rw [List.flatMap_cons, List.append_assoc, List.length_cons, getSgs, getSg_enc (h k (.head _)), getSgs_enc l rest fun x hx => h x (.tail _ hx)]
theorem getOb_enc {o : Ob} (h : RightOb o) (rest : List UInt8) : getOb (putO o ++ rest, 0) = (o, true, (rest, 0)) := by
  have hk := h.kind; have hn := h.kids.next; have hc := h.cats; have hr := h.ring; have hkl := h.kids.len; have hml := h.maps.len; have hbl := h.bytes
  have h0 : getObj0 (putO o ++ rest, 0) = (o, true, (rest, 0)) := by
    have e : putO o ++ rest = encN o.kind ++ (encL o.label ++ (encF 10 (o.kids.length : Int) ++ (o.kids.flatMap encKid ++ (encN o.next ++ (encF 10 (o.bytes.length : Int) ++ (o.bytes ++ (encO o.own ++ (encN o.cats ++ (encL o.entry ++ (encN o.ring ++ (encF 10 (o.maps.length : Int) ++ (o.maps.flatMap encSg ++ rest)))))))))))) := by
      simp [putO, encC]
    unfold getObj0
    rw [e]
    simp only [numS_encN _ (show 0 ≤ o.kind by omega) hk.2 (by omega), getL_enc h.label, numS_enc _ (show (0 : Int) ≤ (o.kids.length : Int) by omega) (by omega) (show (o.kids.length : Int) ≤ 16 by omega), Int.toNat_natCast,
      getKids_enc o.kids _ (fun k hkm => by have := h.kids.each k hkm; omega), numS_encN _ hn.1 hn.2 (by omega), textS_enc o.bytes _ (show (o.bytes.length : Int) ≤ 256 by omega) (by omega), getO_enc h.own,
      numS_encN _ hc.1 hc.2 (by omega), getL_enc h.entry, numS_encN _ hr.1 hr.2 (by omega), numS_enc _ (show (0 : Int) ≤ (o.maps.length : Int) by omega) (by omega) (show (o.maps.length : Int) ≤ 4 by omega), getSgs_enc o.maps _ h.maps.each]
    simp
  unfold getOb
  rw [h0]
  simp [rightOb_iff.2 h]
theorem getItems_enc : ∀ (M L : Tab) (rest : List UInt8), AscT (L ++ M) → (∀ x ∈ M, rightP x.1 = true ∧ RightOb x.2) → getItems M.length L (M.flatMap encI ++ rest, 0) = (some (L ++ M), (rest, 0))
  | [], L, rest, _, _ => by simp [getItems]
  | x :: M, L, rest, ha, h => by
    have hx := h x (.head _)
    have ih := getItems_enc M (L ++ [x]) rest (by rw [List.append_assoc]; exact ha) fun y hy => h y (.tail _ hy)
    rw [List.flatMap_cons, encI, List.append_assoc, List.append_assoc, List.length_cons, getItems]
    simp only [getP_enc hx.1, getOb_enc hx.2]
    rw [if_neg, ih, List.append_assoc]
    · rfl
    · rintro (h1 | h1 | ⟨y, hy, h1⟩)
      · exact h1 rfl
      · cases h1
      · have hyL : y ∈ L := List.mem_of_getLast? hy
        have := (List.pairwise_append.1 ha).2.2 y hyL x (.head _)
        have h2 : cmpL y.1 x.1 < 0 := this
        omega
theorem loadT_bytes {L : Tab} (hv : ValidT L) (hl : L.length ≤ 65536) : loadT (bytesT L) = some L := by
  have hx : ∀ x ∈ L, rightP x.1 = true ∧ RightOb x.2 := fun x hx => ⟨hv.path _ _ (getT_of_mem hv.asc hx), hv.right _ _ (getT_of_mem hv.asc hx)⟩
  unfold loadT bytesT
  rw [numS_enc _ (by omega) (by omega) (by omega)]
  simp only [Int.toNat_natCast]
  have := getItems_enc L [] [] hv.asc hx
  rw [List.append_nil, List.nil_append] at this
  rw [this]
  simp only
  have hw := (wholeC_iff hv.asc (fun x h => (hx x h).1) (fun x h => (hx x h).2)).2 hv
  simp [hw]
-- how many objects there may be
def wOf (L : Tab) (p : List Int) : Int := match getT L p with
  | none => 0
  | some o => usesO o
theorem sum_perm : ∀ {l m : List Int}, l.Perm m → l.sum = m.sum := by
  intro l m h
  induction h with
  | nil => rfl
  | cons x _ ih => simp [ih]
  | swap x y l => simp; omega
  | trans _ _ h1 h2 => exact h1.trans h2
theorem perm_same {α : Type} [DecidableEq α] : ∀ {l m : List α}, l.Nodup → m.Nodup → (∀ x, x ∈ l ↔ x ∈ m) → l.Perm m := by
  intro l
  induction l with
  | nil => intro m _ _ h; cases m with | nil => exact List.Perm.refl _ | cons a m => exact absurd ((h a).2 (.head _)) (by simp)
  | cons a l ih =>
    intro m hl hm hs
    rw [List.nodup_cons] at hl
    obtain ⟨m1, m2, rfl⟩ := List.append_of_mem ((hs a).1 (.head _))
    have hp : (m1 ++ a :: m2).Perm (a :: (m1 ++ m2)) := List.perm_middle
    have hn := (hp.nodup_iff).1 hm
    rw [List.nodup_cons] at hn
    refine ((ih hl.2 hn.2 fun x => ?_).cons a).trans hp.symm
    constructor
    · intro hx
      rcases List.mem_cons.1 (hp.mem_iff.1 ((hs x).1 (.tail _ hx))) with rfl | h1
      · exact absurd hx hl.1
      · exact h1
    · intro hx
      rcases List.mem_cons.1 ((hs x).2 (hp.mem_iff.2 (.tail _ hx))) with rfl | h1
      · exact absurd hx hn.1
      · exact h1
theorem paths_perm {L : Tab} (hv : ValidT L) : (L.map (·.1)).Perm ([] :: kidPaths L) := by
  have hr : ∀ x ∈ L, RightOb x.2 := fun x hx => hv.right _ _ (getT_of_mem hv.asc hx)
  refine perm_same (paths_nodup hv.asc) ?_ fun q => ?_
  · rw [List.nodup_cons]
    refine ⟨fun h => ?_, kidPaths_nodup hv.asc hr⟩
    obtain ⟨x, _, k, _, e⟩ := kidPaths_mem.1 h
    simp at e
  · constructor
    · intro hq
      obtain ⟨x, hx, rfl⟩ := List.mem_map.1 hq
      by_cases e : x.1 = []
      · rw [e]; exact .head _
      · have hg := getT_of_mem hv.asc hx
        rw [snoc_of e] at hg ⊢
        obtain ⟨c, hc, k, hkm, hn⟩ := hv.up _ _ _ hg
        exact .tail _ (kidPaths_mem.2 ⟨_, getT_mem hc, k, hkm, by rw [hn]⟩)
    · intro hq
      rcases List.mem_cons.1 hq with rfl | hq
      · obtain ⟨r, hr, _⟩ := hv.root; exact List.mem_map.2 ⟨_, getT_mem hr, rfl⟩
      · obtain ⟨x, hx, k, hkm, rfl⟩ := kidPaths_mem.1 hq
        obtain ⟨_, y, hy, _⟩ := hv.kid _ _ (getT_of_mem hv.asc hx) k hkm
        exact List.mem_map.2 ⟨_, getT_mem hy, rfl⟩
theorem valid_small {L : Tab} (hv : ValidT L) : L.length ≤ 65536 := by
  obtain ⟨r, hr, -, hu⟩ := hv.root
  have h1 : ((L.map (·.1)).map (wOf L)).sum = ((([] : List Int) :: kidPaths L).map (wOf L)).sum := sum_perm ((paths_perm hv).map _)
  have h2 : ∀ M : Tab, (∀ x ∈ M, x ∈ L) → ((kidPaths M).map (wOf L)).sum + 16 * M.length ≤ ((M.map (·.1)).map (wOf L)).sum := by
    intro M
    induction M with
    | nil => intro _; simp [kidPaths]
    | cons x M ih =>
      intro hM
      have ih := ih fun y hy => hM y (.tail _ hy)
      have hg := getT_of_mem hv.asc (hM x (.head _))
      have e1 : kidPaths (x :: M) = x.2.kids.map (fun k => x.1 ++ [k.n]) ++ kidPaths M := rfl
      have hk : ∀ l : List Kid, (∀ k ∈ l, k ∈ x.2.kids) → ((l.map fun k => x.1 ++ [k.n]).map (wOf L)).sum ≤ (l.map (·.quota)).sum := by
        intro l
        induction l with
        | nil => intro _; simp
        | cons k l ihl =>
          intro hl
          have ihl := ihl fun y hy => hl y (.tail _ hy)
          obtain ⟨_, y, hy, _, hyu, _⟩ := hv.kid _ _ hg k (hl k (.head _))
          have : wOf L (x.1 ++ [k.n]) = usesO y := by unfold wOf; rw [hy]
          simp only [List.map_cons, List.sum_cons, this]
          omega
      have hk := hk x.2.kids fun k hk => hk
      have hw : wOf L x.1 = usesO x.2 := by unfold wOf; rw [hg]
      have hu : usesO x.2 = 16 + x.2.bytes.length + 8 * x.2.own.length + 16 * x.2.entry.length + 24 * x.2.maps.length + (x.2.kids.map (·.quota)).sum := rfl
      rw [e1, List.map_append, List.sum_append]
      simp only [List.map_cons, List.sum_cons, List.length_cons, hw]
      push_cast
      omega
  have h2 := h2 L fun _ h => h
  have h3 : wOf L [] = usesO r := by unfold wOf; rw [hr]
  simp only [List.map_cons, List.sum_cons, h3] at h1
  omega
end Go.Proofs.YtefedalnafjcfaaGreatDoor

namespace Go.Proofs.YtefedalnafjcfaaGreatDoor
open Go.RowKit Go.Shelf
set_option linter.unusedVariables false
/-- g holds a table of L: its map is mb, its objects' data lie in S. -/
structure TabAt (w : World) (S : Nat → Prop) (g mb : Nat) (L : Tab) : Prop where
  blk : w.heap[g]? = some (.cells #[.map (some mb)] 65 (0, 0))
  nmb : ¬ S mb
  ng : ¬ S g
  asc : AscT L
  ex : ∃ vs, MapAt w mb vs ∧ (vs.map (·.1)).Perm (L.map (fun x => pathT x.1)) ∧ ∀ p o, getT L p = some o → ∃ cs, vs.lookup (pathT p) = some (.agg cs.toArray) ∧ ObR.rel w S cs o
theorem getT_in {L : Tab} {x : List Int × Ob} (h : x ∈ L) : getT L x.1 ≠ none := by
  induction L with
  | nil => cases h
  | cons y L ih =>
    rw [getT_cons]
    split
    · simp
    · next hy =>
      rcases List.mem_cons.1 h with rfl | h
      · exact absurd rfl hy
      · exact ih h
theorem TabAt.move {w w1 : World} {S T : Nat → Prop} {g mb : Nat} {L : Tab} (h : TabAt w S g mb L) (hm : Mod T w w1) (hS : ∀ k, S k → ¬ T k) (h1 : ¬ T g) (h2 : ¬ T mb) : TabAt w1 S g mb L := by
  obtain ⟨vs, q1, q2, q3⟩ := h.ex
  refine ⟨(hm.block g (lt_of_blk h.blk) h1).trans h.blk, h.nmb, h.ng, h.asc, vs, q1.move (hm.block mb q1.lt h2), q2, fun p o hp => ?_⟩
  obtain ⟨cs, r1, r2⟩ := q3 p o hp
  exact ⟨cs, r1, Rd.mod r2 hm hS⟩
theorem lookup_none {L : Tab} {vs : List (List UInt8 × Value)} (hv : (vs.map (·.1)).Perm (L.map (fun x => pathT x.1))) {p : List Int} (hp : getT L p = none) : vs.lookup (pathT p) = none := by
  rw [List.lookup_eq_none_iff]
  intro q hq
  by_cases he : pathT p = q.1
  · have hmem : q.1 ∈ L.map (fun x => pathT x.1) := hv.mem_iff.1 (List.mem_map.2 ⟨q, hq, rfl⟩)
    obtain ⟨x, hx, hxe⟩ := List.mem_map.1 hmem
    have : x.1 = p := pathT_inj (hxe.trans he.symm)
    exact absurd (this ▸ hp) (getT_in hx)
  · simpa using he
theorem Copied.from {w w1 w' : World} {ok ok' : Nat → Prop} {o : Ob} {A1 A2 A4 A5 A7 A9 : Option Addr} {c1 c2 c4 c5 c7 c9 : Nat} (h : Copied w1 w' ok o A1 c1 A2 c2 A4 c4 A5 c5 A7 c7 A9 c9) (hm : Mod (fun _ => False) w w1) (hok : ∀ k, ok k → ok' k ∧ k < w.heap.size) : Copied w w' ok' o A1 c1 A2 c2 A4 c4 A5 c5 A7 c7 A9 c9 := by
  have hs := hm.size
  have f : ∀ k, (w1.heap.size ≤ k ∧ some k ≠ (Value.slice A2 o.kids.length c2).ownBlock) → w.heap.size ≤ k ∧ some k ≠ (Value.slice A2 o.kids.length c2).ownBlock := fun k hk => ⟨by omega, hk.2⟩
  refine ⟨Rd.mono h.lab f, ?_, Rd.mono h.byt f, Rd.mono h.own f, Rd.mono h.ent f, Rd.mono h.maps (fun k hk => ⟨?_, hk.2⟩), hm.trans h.mod (fun _ h => h.elim), h.ints⟩
  · obtain ⟨cells, ⟨q0, q1⟩, q2⟩ := h.kid
    exact ⟨cells, ⟨q0, q1.imp id (fun ⟨gg, cap, cu, r1, r2, r3⟩ => ⟨gg, cap, cu, r1, by omega, r3⟩)⟩, q2⟩
  · rcases hk.1 with hk | hk
    · exact .inl (hok k hk.1)
    · exact .inr (by omega)
def zeroObC : List Value := [.int .i64 0, .slice none 0 0, .slice none 0 0, .int .i64 0, .slice none 0 0, .slice none 0 0, .int .i64 0, .slice none 0 0, .int .i64 0, .slice none 0 0]
theorem ObR_zero (w : World) (ok : Nat → Prop) : ObR.rel w ok zeroObC zeroOb := by
  have z : ∀ {α : Type} (R : Rd α) (B : Nat), (Rd.slice B R).rel w ok [.slice none 0 0] ([] : List α) := fun R B => ⟨none, 0, rfl, Nat.le_refl _, by decide, by simp, fun _ => rfl, .inl rfl⟩
  have i0 : (Rd.int .i64).rel w ok [.int .i64 0] (0 : Int) := ⟨rfl, by unfold Rd.inR; decide⟩
  exact ObR_iff.2 ⟨_, _, _, _, _, _, _, _, _, _, rfl, i0, z _ _, z _ _, i0, z _ _, z _ _, i0, z _ _, i0, z _ _⟩
theorem keys_updV (vs : List (List UInt8 × Value)) (k : List UInt8) (v : Value) : (updV vs k v).map (·.1) = if k ∈ vs.map (·.1) then vs.map (·.1) else vs.map (·.1) ++ [k] := by
  unfold updV
  by_cases h : k ∈ vs.map (·.1)
  · have h1 : vs.any (fun p => p.1 == k) = true := by
      obtain ⟨x, hx, he⟩ := List.mem_map.1 h
      exact List.any_eq_true.2 ⟨x, hx, by simpa using he⟩
    rw [if_pos h1, if_pos h, List.map_map]
    apply List.map_congr_left
    intro x _
    simp only [Function.comp]
    split
    · next e => exact e.symm
    · rfl
  · have h1 : ¬ vs.any (fun p => p.1 == k) = true := by
      intro e
      obtain ⟨x, hx, he⟩ := List.any_eq_true.1 e
      exact h (List.mem_map.2 ⟨x, hx, by simpa using he⟩)
    rw [if_neg h1, if_neg h]
    simp
theorem lookup_map_upd (k k' : List UInt8) (v : Value) : ∀ vs : List (List UInt8 × Value), (vs.map (fun p => if p.1 = k then (k, v) else p)).lookup k' = if k' = k then (if k ∈ vs.map (·.1) then some v else none) else vs.lookup k'
  | [] => by simp
  | x :: vs => by
    rw [List.map_cons, List.lookup_cons, List.lookup_cons, lookup_map_upd k k' v vs]
    by_cases hx : x.1 = k
    · subst hx
      by_cases hk : k' = x.1
      · subst hk; simp
      · have : (k' == x.1) = false := by simpa using hk
        simp [this, hk]
    · by_cases hk : k' = k
      · subst hk
        have hx' : ¬ k' = x.1 := fun e => hx e.symm
        have : (k' == x.1) = false := by simpa using hx'
        have hm : (k' ∈ (x :: vs).map (·.1)) ↔ k' ∈ vs.map (·.1) := by rw [List.map_cons, List.mem_cons]; exact ⟨fun h => h.resolve_left hx', .inr⟩
        simp only [hx, if_false, this, hm]
      · simp [hx, hk]
theorem lookup_append' (a b : List (List UInt8 × Value)) (k : List UInt8) : (a ++ b).lookup k = (a.lookup k).or (b.lookup k) := by
  induction a with
  | nil => simp
  | cons x a ih =>
    rw [List.cons_append, List.lookup_cons, List.lookup_cons, ih]
    cases k == x.1 <;> simp
theorem lookup_updV (vs : List (List UInt8 × Value)) (k k' : List UInt8) (v : Value) : (updV vs k v).lookup k' = if k' = k then some v else vs.lookup k' := by
  unfold updV
  split
  · next h =>
    rw [lookup_map_upd]
    obtain ⟨x, hx, he⟩ := List.any_eq_true.1 h
    rw [if_pos (List.mem_map.2 ⟨x, hx, by simpa using he⟩)]
  · next h =>
    rw [lookup_append']
    by_cases hk : k' = k
    · subst hk
      have : vs.lookup k' = none := by
        rw [List.lookup_eq_none_iff]
        intro p hp
        by_cases e : k' = p.1
        · exact absurd (List.any_eq_true.2 ⟨p, hp, by simpa using e.symm⟩) h
        · simpa using e
      simp [this]
    · have : (k' == k) = false := by simpa using hk
      simp [hk, List.lookup_cons, this]
theorem keys_nodup {L : Tab} (ha : AscT L) : (L.map (fun x => pathT x.1)).Nodup :=
  List.Pairwise.map _ (fun a b hab e => ltP_irr b.1 (by have h : a.1 = b.1 := pathT_inj e; rw [h] at hab; exact hab)) (show L.Pairwise (fun x y => ltP x.1 y.1) from ha)
theorem keys_lay {L : Tab} (ha : AscT L) {vs : List (List UInt8 × Value)} (hv : (vs.map (·.1)).Perm (L.map (fun x => pathT x.1))) (p : List Int) (o : Ob) (v : Value) : ((updV vs (pathT p) v).map (·.1)).Perm ((layT L p o).map (fun x => pathT x.1)) := by
  have hn : (vs.map (·.1)).Nodup := hv.nodup_iff.2 (keys_nodup ha)
  refine perm_same ?_ (keys_nodup (layT_mem ha p o).1) ?_
  · rw [keys_updV]
    split
    · exact hn
    · next h =>
      rw [List.nodup_append]
      exact ⟨hn, by simp, fun a ha b hb e => h (by rw [List.mem_singleton.1 hb] at e; exact e ▸ ha)⟩
  · intro x
    have key : x ∈ (updV vs (pathT p) v).map (·.1) ↔ x = pathT p ∨ x ∈ L.map (fun x => pathT x.1) := by
      rw [keys_updV]
      split
      · next h =>
        rw [hv.mem_iff]
        constructor
        · exact .inr
        · rintro (rfl | h2)
          · exact hv.mem_iff.1 h
          · exact h2
      · rw [List.mem_append, hv.mem_iff, List.mem_singleton]; exact or_comm
    rw [key]
    constructor
    · rintro (rfl | h)
      · exact List.mem_map.2 ⟨(p, o), ((layT_mem ha p o).2 p o).2 (.inl ⟨rfl, rfl⟩), rfl⟩
      · obtain ⟨y, hy, rfl⟩ := List.mem_map.1 h
        by_cases e : y.1 = p
        · exact List.mem_map.2 ⟨(p, o), ((layT_mem ha p o).2 p o).2 (.inl ⟨rfl, rfl⟩), by rw [e]⟩
        · exact List.mem_map.2 ⟨y, ((layT_mem ha p o).2 y.1 y.2).2 (.inr ⟨e, hy⟩), rfl⟩
    · intro h
      obtain ⟨y, hy, rfl⟩ := List.mem_map.1 h
      rcases ((layT_mem ha p o).2 y.1 y.2).1 hy with ⟨h1, -⟩ | ⟨-, h2⟩
      · left; rw [h1]
      · exact .inr (List.mem_map.2 ⟨y, h2, rfl⟩)
theorem zero_ob (W : World) : (zeroValue 39).run Tryz.prog W = .ok (.agg zeroObC.toArray) W := by
  obtain ⟨i, hi, hzz⟩ := Option.map_eq_some_iff.1 Tryz.infoOb
  simp only [Prod.mk.injEq] at hzz
  simp [zeroValue, typeInfo, hi, hzz.1, zeroObC]
theorem TabAt.run_get {w : World} {S : Nat → Prop} {g mb : Nat} {L : Tab} (h : TabAt w S g mb L) (p : List Int) :
    ∃ cs, (∀ W, Mod (fun _ => False) w W → (Instr.lookup 63 (.map (some mb)) (.string ⟨(pathT p).toArray⟩) true).run Tryz.prog W = .ok (.tuple #[.agg cs.toArray, .bool (getT L p).isSome]) W) ∧ ObR.rel w S cs ((getT L p).getD zeroOb) := by
  obtain ⟨vs, q1, q2, q3⟩ := h.ex
  have hl := fun W (hW : Mod (fun _ => False) w W) => (q1.move (hW.block mb q1.lt id)).lookup (P := Tryz.prog) Tryz.underlying63 Tryz.underlying9 (zero_ob W) (pathT p) true
  cases hg : getT L p with
  | none =>
    refine ⟨zeroObC, fun W hW => ?_, ObR_zero _ _⟩
    have := hl W hW
    rw [if_pos rfl, lookup_none q2 hg] at this
    exact this
  | some o =>
    obtain ⟨cs, r1, r2⟩ := q3 p o hg
    refine ⟨cs, fun W hW => ?_, r2⟩
    have := hl W hW
    rw [if_pos rfl, r1] at this
    exact this
theorem TabAt.run_put {w : World} {S : Nat → Prop} {g mb : Nat} {L : Tab} (h : TabAt w S g mb L) (p : List Int) (o : Ob) (cs : List Value) (hc : ObR.rel w S cs o) :
    ∃ w', (Instr.mapUpdate 63 (.map (some mb)) (.string ⟨(pathT p).toArray⟩) (.agg cs.toArray)).run Tryz.prog w = .ok () w' ∧ TabAt w' S g mb (layT L p o) ∧ Mod (fun k => k = mb) w w' := by
  obtain ⟨vs, q1, q2, q3⟩ := h.ex
  obtain ⟨w', r1, r2, r3⟩ := q1.update (P := Tryz.prog) Tryz.underlying63 Tryz.underlying9 (pathT p) (.agg cs.toArray)
  have hgm : g ≠ mb := fun e => by
    obtain ⟨es, cl, hb, _⟩ := q1
    have := h.blk
    rw [e, hb] at this; cases this
  have hS : ∀ k, S k → ¬ k = mb := fun k hk e => h.nmb (e ▸ hk)
  refine ⟨w', r1, ⟨(r3.block g (lt_of_blk h.blk) hgm).trans h.blk, h.nmb, h.ng, (layT_mem h.asc p o).1, _, r2, keys_lay h.asc q2 p o _, fun q x hq => ?_⟩, r3⟩
  rw [layT_get h.asc] at hq
  rw [lookup_updV]
  by_cases e : q = p
  · subst e
    rw [if_pos rfl] at hq
    cases hq
    exact ⟨cs, by simp, Rd.mod hc r3 hS⟩
  · rw [if_neg e] at hq
    rw [if_neg (fun e2 => e (pathT_inj e2))]
    obtain ⟨c2, s1, s2⟩ := q3 q x hq
    exact ⟨c2, s1, Rd.mod s2 r3 hS⟩
theorem TabAt.grow {w : World} {S T : Nat → Prop} {g mb : Nat} {L : Tab} (h : TabAt w S g mb L) (hS : ∀ k, S k → T k) (h1 : ¬ T mb) (h2 : ¬ T g) : TabAt w T g mb L := by
  obtain ⟨vs, q1, q2, q3⟩ := h.ex
  exact ⟨h.blk, h1, h2, h.asc, vs, q1, q2, fun p o hp => by obtain ⟨cs, r1, r2⟩ := q3 p o hp; exact ⟨cs, r1, Rd.mono r2 hS⟩⟩
theorem TabAt.ltg {w : World} {S : Nat → Prop} {g mb : Nat} {L : Tab} (h : TabAt w S g mb L) : g < w.heap.size := lt_of_blk h.blk
theorem TabAt.ltm {w : World} {S : Nat → Prop} {g mb : Nat} {L : Tab} (h : TabAt w S g mb L) : mb < w.heap.size := by obtain ⟨_, q1, _⟩ := h.ex; exact q1.lt
theorem TabAt.ne {w : World} {S : Nat → Prop} {g mb : Nat} {L : Tab} (h : TabAt w S g mb L) : g ≠ mb := fun e => by
  obtain ⟨_, ⟨es, cl, hb, _⟩, _⟩ := h.ex
  have := h.blk
  rw [e, hb] at this; cases this
theorem TabAt.bound {w : World} {S : Nat → Prop} {g mb : Nat} {L : Tab} (h : TabAt w S g mb L) : TabAt w (fun k => S k ∧ k < w.heap.size) g mb L := by
  obtain ⟨vs, q1, q2, q3⟩ := h.ex
  exact ⟨h.blk, fun k => h.nmb k.1, fun k => h.ng k.1, h.asc, vs, q1, q2, fun p o hp => by obtain ⟨cs, r1, r2⟩ := q3 p o hp; exact ⟨cs, r1, Rd.bound r2⟩⟩
theorem TabAt.run_len {w : World} {S : Nat → Prop} {g mb : Nat} {L : Tab} (h : TabAt w S g mb L) : ∃ vs, MapAt w mb vs ∧ vs.length = L.length := by
  obtain ⟨vs, q1, q2, q3⟩ := h.ex
  exact ⟨vs, q1, by simpa using q2.length_eq⟩
end Go.Proofs.YtefedalnafjcfaaGreatDoor

