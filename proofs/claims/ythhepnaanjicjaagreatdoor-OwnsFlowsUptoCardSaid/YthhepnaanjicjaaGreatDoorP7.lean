/- Texts of this claim, joined: LabW, LabE, LabT, LabP, LabL, Lab1st, Opens, Env. -/
import Derived.Test.YthhepnaanjicjaaGreatDoorP6
import Derived.ArgAppend
import Derived.Lib.LazyBuf
import Derived.Lib.ItoaLen
import Derived.Deep.AppendLies
import Derived.Deep.RegionLaw
import Derived.Test.YthhepnaanjicjaaGreatDoorP5
import Derived.Test.YthhepnaanjicjaaGreatDoorP0
import Derived.LaidMore
import Derived.LaidLaws
import Derived.LaidHandle
import Derived.Lib.LaidTab
import Derived.Lib.LaidU8
import Derived.Stop.Joined
import Derived.Test.YthhepnaanjicjaaGreatDoorRows
/- Layer 6, label: With; append to a slice cut to its length. -/
namespace Go.Proofs.YthhepnaanjicjaaGreatDoor
open Go.RowKit Go.Shelf
set_option linter.unusedVariables false
section
variable {P : Program} {ops : Array Oper} {rest : List Oper} {o : Oper} {a : Act} {Q : Exit → Act → World → Prop} {α : Type} {R : Rd α}
/-- append(v, y) where v has no room: a new row -/
theorem append_clip {W : World} (hgd : o.guard = none) (s x : Operand) (t e : TypeId) (z : Value) (bytes : Nat)
    (ho : o.op = .call { callee := .builtin .append, args := #[s, x], argTypes := #[t, t] })
    (ht : P.underlying t = some (.slice e)) (hinfo : (P.info? e).map (fun i => (i.zero, i.size, i.bytes)) = some (some z, R.sz, bytes)) (hz : z.cells.size = R.sz) (hb0 : 0 < bytes)
    (ad : Addr) (c0 base0 : Nat) (xs : List α) (y : α) (cs : List Value) (S : Nat → Prop) (hs : a.eval s = .slice (some ad) xs.length xs.length) (hx : a.eval x = .slice (some ⟨W.heap.size, 0, none⟩) 1 1)
    (HO : OwnR R e W base0 S (.slice (some ad) xs.length c0) xs) (hy : R.rel W S cs y) (hl : (xs.length + 1) * bytes ≤ 140737488355328)
    (h : ∀ A c w1, OwnR R e w1 W.heap.size S (.slice A (xs.length + 1) c) (xs ++ [y]) → Mod (fun _ => False) W w1 → wpList P ops Q rest (a.put o.dst (.slice A (xs.length + 1) c)) w1) :
    wpList P ops Q (o :: rest) a (W.alloc (.cells cs.toArray e)) := by
  obtain ⟨i0, hi, hzz⟩ := Option.map_eq_some_iff.1 hinfo
  simp only [Prod.mk.injEq] at hzz
  obtain ⟨hz0, hz1, hz2⟩ := hzz
  obtain ⟨cells, hown, hread⟩ := HO
  have hlen : xs.length + 1 ≤ 140737488355328 := Nat.le_trans (Nat.le_mul_of_pos_right _ hb0) hl
  have hcs := R.len hy
  have hcell : ∀ j u, cells[j]? = some u → (W.alloc (.cells cs.toArray e)).cell? (ad.add j) = some u := by
    rcases (hown.alloc (.cells cs.toArray e)).2 with ⟨h, _⟩ | ⟨g, cap, cur, hv, _, hg, _, _, hsz, htk⟩
    · cases h
    · obtain ⟨rfl, rfl⟩ : ad = ⟨g, 0, none⟩ ∧ c0 = cap := by simpa using hv
      intro j u hu
      rw [← htk] at hu
      refine World.news_of_block (cs := cur) (t := e) (fr := (0, 0)) hg j u ?_
      rw [List.getElem?_take] at hu
      split at hu
      · exact hu
      · cases hu
  obtain ⟨v1, w1, hrun, hown1, hg1⟩ := run_append_arg_grows (P := P) (W.alloc (.cells cs.toArray e)) t o.type e i0 z R.sz bytes ht hi hz0 hz1 hz2 hz R.pos ad xs.length xs.length cells hown.1 hcell ⟨W.heap.size, 0, none⟩ 1 1 cs (by omega)
    (World.news_of_block (cs := cs.toArray) (t := e) (fr := (0, 0)) (heap_alloc_new W _)) (by omega) (by simp only [maxLen]; omega) hl
  obtain ⟨A, c, rfl⟩ := own_slice hown1
  have hg' : W.grownBy w1 none := World.grownBy.trans (World.grownBy_alloc W _ _) hg1
  have hlow : ∀ k, (Value.slice A (xs.length + 1) c).ownBlock = some k → W.heap.size ≤ k := fun k hk => by
    have := (own_lt hown1 k hk).1
    simp at this; omega
  have hm : ∀ (T : Nat → Prop), (∀ k, T k → S k) → ∀ k, T k → k < W.heap.size → (S k ∧ some k ≠ (Value.slice A (xs.length + 1) c).ownBlock) ∧ w1.heap[k]? = W.heap[k]? := by
    intro T hT k hk hlt
    exact ⟨⟨hT k hk, fun e => by have := hlow k e.symm; omega⟩, hg'.block k hlt (by simp)⟩
  refine wpList_plain hgd fun K hK => ?_
  unfold Oper.wp
  simp [execOp, ho, resolve, invoke, builtin, hs, hx, hrun, Result.andThen]
  refine hK _ _ (h A c w1 ?_ ((Mod.refl (fun _ => False) W).grown hg' (fun k hk => by cases hk)))
  refine ⟨cells ++ cs, ?_, fun j y' hj => ?_⟩
  · have h2 := hown1
    refine ⟨by simpa using h2.1, ?_⟩
    rcases h2.2 with h3 | ⟨g, cap, cur, hv, hb, r⟩
    · simp at h3
    · exact .inr ⟨g, cap, cur, by simpa using hv, by simp at hb; omega, by simpa using r⟩
  · by_cases hj' : j < xs.length
    · rw [List.getElem?_append_left hj'] at hj
      rw [drop_take_left hown.1 hj']
      exact R.step (hm _ fun k hk => hk.1) (hread j y' hj)
    · have : j = xs.length := by
        have := (List.getElem?_eq_some_iff.1 hj).1
        simp at this; omega
      subst this
      have : y = y' := by simpa using hj
      subst this
      rw [← hown.1, List.drop_left, ← hcs, List.take_length]
      exact R.step (hm _ fun k hk => hk) hy
end
set_option maxRecDepth 100000 in
set_option maxHeartbeats 1000000 in
theorem cloneL_any (A : Option Addr) (n c : Nat) (l : List Entry) (ok : Nat → Prop) (w : World) (h : labR.rel w ok [.slice A n c] l) (hl : l.length ≤ 1000000) :
    Calls Tryz.prog 85 #[.slice A n c] w fun e w' => ∃ A' c', e = .returned (.slice A' l.length c') ∧ OwnR EntryR 63 w' w.heap.size (fun k => ok k ∧ k < w.heap.size) (.slice A' l.length c') l ∧ Mod (fun _ => False) w w' := by
  replace h := Rd.bound h
  obtain ⟨rfl, hcap, -, hcm, hnil, hrow⟩ := lab_row h
  clear h
  cases A with
  | none =>
    have hc0 : c = 0 := hnil rfl
    subst hc0
    have hl0 : l = [] := List.eq_nil_of_length_eq_zero (by omega)
    subst hl0
    clear hrow hnil hcap hcm
    have he := Go.run_eql_slice_nil (P := Tryz.prog) w 23 63 none 0 0 Tryz.underlying23
    go_enter Tryz.func85, Tryz.ntmps85
    go_wp2_with fail
    go_ret
    exact ⟨none, 0, rfl, OwnR.nil _ _ _ _ _, Mod.refl _ _⟩
  | some ad =>
    have HX := Lib.hid hrow
    clear hrow hnil
    have he := Go.run_eql_slice_nil (P := Tryz.prog) w 23 63 (some ad) l.length c Tryz.underlying23
    go_enter Tryz.func85, Tryz.ntmps85
    go_wp2_with (at_builtin; refine append_all (R := EntryR) w.heap.size rfl _ _ 23 63 (.agg zeroEnt.toArray) 24 rfl Tryz.underlying23 Tryz.info_ent3 rfl (.slice (some ⟨w.heap.size, 0, none⟩) 0 0) [] l (fun k => ok k ∧ k < w.heap.size) (some ad) c rfl rfl ?c1 ?c2 (by intro e; cases e) ?c3 ?c4 (by decide) ?_)
    case c1 => exact ⟨[], World.ownsRow_made w #[] 0 (Nat.le_refl _) (by decide) rfl, fun j x h => by simp at h⟩
    case c2 => exact Rd.RowOf.weak <| HX.out.step fun k hk hl => ⟨⟨hk, fun e => by have := hk.2; simp only [Value.ownBlock, Option.some.injEq] at e; omega⟩, ((Mod.refl (fun _ => False) w).alloc _).block k hl id⟩
    case c3 => simp
    case c4 => simp only [List.length_nil]; omega
    intro A' c' w1 hO hm hn
    have HY := Lib.hid (And.intro hO hm); clear hO hm hn
    go_wp2_with fail
    go_ret
    refine ⟨A', c', rfl, HY.out.1, ((Mod.refl (fun _ => False) w).alloc _).trans HY.out.2 (fun k hk => .inr ?_)⟩
    simp only [Value.ownBlock, Option.some.injEq] at hk
    omega
set_option maxRecDepth 100000 in
set_option maxHeartbeats 1000000 in
theorem clip_any (A : Option Addr) (n c : Nat) (w : World) (hc : n ≤ c) :
    Calls Tryz.prog 84 #[.slice A n c] w fun e w' => e = .returned (.slice A n n) ∧ w' = w := by
  go_enter Tryz.func84, Tryz.ntmps84
  go_wp2_with fail
  go_ret
  exact ⟨rfl, rfl⟩
set_option maxRecDepth 100000 in
set_option maxHeartbeats 2000000 in
theorem with_any (A : Option Addr) (n c : Nat) (l : List Entry) (s : List UInt8) (v : Int) (ok : Nat → Prop) (w : World) (h : labR.rel w ok [.slice A n c] l) (hs : s.length ≤ 140737488355328) (hv : Rd.inR .i64 v) (E : Env w) :
    Calls Tryz.prog 44 #[.slice A n c, .string ⟨s.toArray⟩, .int .i64 v] w fun r w' => ∃ A' c', r = .returned (.tuple #[.slice A' (resW l s v).1.length c', .int .i64 (resW l s v).2]) ∧ OwnR EntryR 63 w' w.heap.size (fun _ => False) (.slice A' (resW l s v).1.length c') (resW l s v).1 ∧ Mod (fun _ => False) w w' := by
  obtain ⟨z, hz⟩ : ∃ z, z = resW l s v := ⟨_, rfl⟩
  rw [← hz]
  have hr1 := rightLab_any A n c l ok w h E
  have H0 := Lib.hid (And.intro h (And.intro hz E)); clear h hz E
  cases hra : rightLB l with
  | false =>
    rw [hra] at hr1
    have hzf : z = ([], 21) := by rw [H0.out.2.1]; unfold resW; rw [if_neg (by rw [hra]; simp)]
    subst hzf
    have HR := Lib.hid hr1; clear hr1 hra
    go_enter Tryz.func44, Tryz.ntmps44
    go_wp2_with fail
    refine HR.out.mono ?_
    rintro r w1 ⟨rfl, hm⟩
    have H1 := Lib.hid hm; clear hm
    go_wp2_with fail
    go_ret2
    exact ⟨none, 0, rfl, OwnR.nil _ _ _ _ _, H1.out⟩
  | true =>
    rw [hra] at hr1
    have hzf : z = resM (l ++ [ent s v]) := by rw [H0.out.2.1]; unfold resW; rw [if_pos hra]
    have hl8 := (rightLB_iff.1 hra).len
    have hn : n = l.length := (lab_row H0.out.1).1
    subst hn
    have hsv : ∀ (W : World) (T : Nat → Prop), EntryR.rel W T [.string ⟨s.toArray⟩, .int .i64 v] (ent s v) := fun W T => EntryR_mk _ _ (ent s v) (by rw [show (ent s v).cat.size = s.length from mkStr_size s]; exact hs) (by rw [lev_ent]; exact hv)
    have HR := Lib.hid (And.intro hr1 (And.intro hzf hsv)); clear hr1 hra hzf hsv
    go_enter Tryz.func44, Tryz.ntmps44
    go_wp2_with fail
    refine HR.out.1.mono ?_
    rintro r w1 ⟨rfl, hm⟩
    have hcl := cloneL_any A l.length c l _ w1 (Rd.mod H0.out.1 hm (fun _ _ => id)) (by omega)
    have H1 := Lib.hid (And.intro hm hcl); clear hm hcl
    go_wp2_with fail
    refine H1.out.2.mono ?_
    rintro r w2 ⟨A2, c2, rfl, ho, hm⟩
    have hc2 : l.length ≤ c2 := by
      obtain ⟨cells, h, _⟩ := ho
      rcases h.2 with ⟨h, _⟩ | ⟨g, cap, cur, hv, _, _, hcc, _⟩
      · simp only [Value.slice.injEq] at h; omega
      · simp only [Value.slice.injEq] at hv; omega
    have H2 := Lib.hid (And.intro (tr0 H1.out.1 hm) ho); clear hm ho
    go_wp2_with fail
    refine (clip_any A2 l.length c2 w2 hc2).mono ?_
    rintro r w3 ⟨rfl, rfl⟩
    have hA2 := H2.out.2
    cases A2 with
    | none =>
      have hnil : l = [] := by
        obtain ⟨cells, h, _⟩ := hA2
        rcases h.2 with ⟨h, h0⟩ | ⟨g, cap, cur, hv, _⟩
        · exact List.eq_nil_of_length_eq_zero h0
        · cases hv
      subst hnil
      clear hA2
      go_wp2_with (first
            | (refine wpList_slice1_agg rfl 23 63 _ rfl Tryz.underlying23 zeroEnt.toArray [.string ⟨s.toArray⟩, .int .i64 v] Tryz.info_ent2 (by decide) rfl rfl ?_)
            | (at_builtin; refine append_rd (R := EntryR) w3.heap.size rfl _ _ 23 63 (.agg zeroEnt.toArray) 24 rfl Tryz.underlying23 Tryz.info_ent3 rfl (by decide) (.slice none 0 0) [] (ent s v) [.string ⟨s.toArray⟩, .int .i64 v] (fun _ => False) rfl rfl (OwnR.nil _ _ _ _ _) (HR.out.2.2 _ _) (Nat.le_refl _) (by simp) ?_))
      intro A8 c8 w8 hO8' hm8' hn8
      have hO8 : OwnR EntryR 63 w8 w3.heap.size (fun _ => False) (.slice A8 (([] : List Entry).length + 1) c8) ([] ++ [ent s v]) := hO8'
      have hm8 : Mod (fun _ => False) w3 w8 := hm8'.mono fun k hk => by cases hk
      clear hO8' hm8' hn8
      have hO3 := hO8
      have hm3 := hm8
      have hml : (([] : List Entry) ++ [ent s v]).length = ([] : List Entry).length + 1 := by simp
      have hrd := hO3.reads (bytes := 24) (by rw [hml]; omega)
      try rw [hml] at hrd
      have hmk := make_any A8 (([] : List Entry).length + 1) c8 (([] : List Entry) ++ [ent s v]) _ w8 hrd (by rw [hml]; omega) (H0.out.2.2.mod0 (tr0 H2.out.1 hm3))
      rw [← HR.out.2.1] at hmk
      have H8 := Lib.hid (And.intro (tr0 H2.out.1 hm3) hmk); clear hO3 hO8 hm8 hm3 hrd hmk hml
      go_wp2_with fail
      refine H8.out.2.mono ?_
      rintro r w5 ⟨A5, c5, rfl, hO5, hm5⟩
      have hO5' : OwnR EntryR 63 w5 w.heap.size (fun _ => False) (.slice A5 z.1.length c5) z.1 := by
        obtain ⟨cells, hown, hr⟩ := hO5
        exact ⟨cells, own_base_le hown H8.out.1.size, hr⟩
      have H5 := Lib.hid (And.intro hO5' (tr0 H8.out.1 hm5)); clear hO5 hO5' hm5
      go_wp2_with fail
      go_ret2
      exact ⟨A5, c5, rfl, H5.out.1, H5.out.2⟩
    | some ad =>
      clear hA2
      go_wp2_with (first
            | (refine wpList_slice1_agg rfl 23 63 _ rfl Tryz.underlying23 zeroEnt.toArray [.string ⟨s.toArray⟩, .int .i64 v] Tryz.info_ent2 (by decide) rfl rfl ?_)
            | (at_builtin; refine append_clip (R := EntryR) rfl _ _ 23 63 (.agg zeroEnt.toArray) 24 rfl Tryz.underlying23 Tryz.info_ent3 rfl (by decide) ad c2 _ l (ent s v) [.string ⟨s.toArray⟩, .int .i64 v] _ rfl rfl H2.out.2 (HR.out.2.2 _ _) (by omega) ?_))
      intro A8 c8 w8 hO8 hm8
      have hO3 := hO8
      have hm3 := hm8
      have hml : (l ++ [ent s v]).length = l.length + 1 := by simp
      have hrd := hO3.reads (bytes := 24) (by rw [hml]; omega)
      try rw [hml] at hrd
      have hmk := make_any A8 (l.length + 1) c8 (l ++ [ent s v]) _ w8 hrd (by rw [hml]; omega) (H0.out.2.2.mod0 (tr0 H2.out.1 hm3))
      rw [← HR.out.2.1] at hmk
      have H8 := Lib.hid (And.intro (tr0 H2.out.1 hm3) hmk); clear hO3 hO8 hm8 hm3 hrd hmk hml
      go_wp2_with fail
      refine H8.out.2.mono ?_
      rintro r w5 ⟨A5, c5, rfl, hO5, hm5⟩
      have hO5' : OwnR EntryR 63 w5 w.heap.size (fun _ => False) (.slice A5 z.1.length c5) z.1 := by
        obtain ⟨cells, hown, hr⟩ := hO5
        exact ⟨cells, own_base_le hown H8.out.1.size, hr⟩
      have H5 := Lib.hid (And.intro hO5' (tr0 H8.out.1 hm5)); clear hO5 hO5' hm5
      go_wp2_with fail
      go_ret2
      exact ⟨A5, c5, rfl, H5.out.1, H5.out.2⟩
end Go.Proofs.YthhepnaanjicjaaGreatDoor

/- Layer 6, label: Same (slices.Equal at labels). -/
namespace Go.Proofs.YthhepnaanjicjaaGreatDoor
open Go.RowKit Go.Shelf
set_option linter.unusedVariables false
def eqE (x y : Entry) : Bool := nm x == nm y && x.level == y.level
theorem eqE_iff {x y : Entry} : eqE x y = true ↔ x = y := by
  unfold eqE
  constructor
  · intro h; simp only [Bool.and_eq_true, beq_iff_eq] at h; exact ent_ext h.1 h.2
  · rintro rfl; simp
def sameL : List Entry → List Entry → Bool
  | [], [] => true
  | x :: a, y :: b => eqE x y && sameL a b
  | _, _ => false
theorem sameL_iff : ∀ {a b : List Entry}, sameL a b = true ↔ a = b
  | [], [] => by simp [sameL]
  | [], y :: b => by simp [sameL]
  | x :: a, [] => by simp [sameL]
  | x :: a, y :: b => by simp [sameL, eqE_iff, sameL_iff (a := a) (b := b)]
theorem sameL_len {a b : List Entry} (h : a.length ≠ b.length) : sameL a b = false := by
  cases hb : sameL a b with
  | false => rfl
  | true => exact absurd (congrArg List.length (sameL_iff.1 hb)) h
theorem run_neq_ent (x y : List UInt8) (m n : Int) (w : World) : (binOp .neq 63 (.agg #[.string ⟨x.toArray⟩, .int .i64 m]) (.agg #[.string ⟨y.toArray⟩, .int .i64 n])).run Tryz.prog w = .ok (.bool (!eqE (ent x m) (ent y n))) w := by
  simp [go_sem, eqE, nm_ent, lev_ent]
  by_cases h1 : x = y <;> by_cases h2 : m = n <;> simp [h1, h2]
set_option maxRecDepth 100000 in
set_option maxHeartbeats 1000000 in
theorem equalE_any (A : Option Addr) (n c : Nat) (A2 : Option Addr) (n2 c2 : Nat) (a b : List Entry) (ok ok2 : Nat → Prop) (w : World) (h : labR.rel w ok [.slice A n c] a) (h2 : labR.rel w ok2 [.slice A2 n2 c2] b) :
    Calls Tryz.prog 97 #[.slice A n c, .slice A2 n2 c2] w fun r w' => r = .returned (.bool (sameL a b)) ∧ Mod (fun _ => False) w w' := by
  obtain ⟨z, hz⟩ : ∃ z, z = sameL a b := ⟨_, rfl⟩
  rw [← hz]
  obtain ⟨rfl, hcap, -, hbig, -, hrow⟩ := lab_row h
  obtain ⟨rfl, hcap2, -, hbig2, -, hrow2⟩ := lab_row h2
  have H0 := Lib.hid (And.intro hrow (And.intro hrow2 hz)); clear h h2 hrow hrow2 hz
  by_cases hle : a.length = b.length
  case neg =>
    have hzf : z = false := by rw [H0.out.2.2, sameL_len hle]
    subst hzf
    have e1 : ((a.length : Int) != (b.length : Int)) = true := by simp; omega
    go_enter Tryz.func97, Tryz.ntmps97
    go_wp2_with fail
    go_ret
    exact ⟨rfl, Mod.refl _ _⟩
  case pos =>
    have e1 : ((a.length : Int) != (b.length : Int)) = false := by simp; omega
    have HL := Lib.hid hle; clear hle
    go_enter Tryz.func97, Tryz.ntmps97
    go_wp2_with fail
    go_loopg [5, 13] a.length (fun f so si wr => ∃ i : Nat, si = .int .i64 i ∧ i + f = a.length ∧ z = sameL (a.drop i) (b.drop i) ∧ Mod (fun _ => False) w wr)
    case atStart => exact ⟨0, rfl, by omega, H0.out.2.2, Mod.refl _ _⟩
    case round =>
      obtain ⟨i, rfl, hi, hz, hmod⟩ := hrel
      by_cases hlt : i < a.length
      · have hlt2 : i < b.length := by rw [← HL.out]; exact hlt
        obtain ⟨d, m, hx⟩ : ∃ d m, a[i]? = some (ent d m) := by
          obtain ⟨d, m, e⟩ := ent_cases a[i]
          exact ⟨d, m, by rw [← e]; simp [hlt]⟩
        obtain ⟨d2, m2, hx2⟩ : ∃ d2 m2, b[i]? = some (ent d2 m2) := by
          obtain ⟨d2, m2, e⟩ := ent_cases b[i]
          exact ⟨d2, m2, by rw [← e]; simp [hlt2]⟩
        obtain ⟨ad, rfl, -, hc0, hc1, -, -⟩ := row_ent (H0.out.1.step (w1 := wr) (ok1 := ok) (fun k hk hl => ⟨hk, hmod.block k hl id⟩)) hx
        obtain ⟨ad2, rfl, -, hd0, hd1, -, -⟩ := row_ent (H0.out.2.1.step (w1 := wr) (ok1 := ok2) (fun k hk hl => ⟨hk, hmod.block k hl id⟩)) hx2
        have hda : a.drop i = ent d m :: a.drop (i + 1) := by
          rw [List.drop_eq_getElem_cons hlt]
          rw [List.getElem?_eq_getElem hlt] at hx
          rw [Option.some.inj hx]
        have hdb : b.drop i = ent d2 m2 :: b.drop (i + 1) := by
          rw [List.drop_eq_getElem_cons hlt2]
          rw [List.getElem?_eq_getElem hlt2] at hx2
          rw [Option.some.inj hx2]
        rw [hda, hdb, sameL] at hz
        have hq := run_neq_ent d d2 m m2
        obtain ⟨q, hqe⟩ : ∃ q, q = eqE (ent d m) (ent d2 m2) := ⟨_, rfl⟩
        rw [← hqe] at hz hq
        have HX := Lib.hid (And.intro hi (And.intro hz hmod)); clear hi hz hmod hx hx2 hda hdb hqe
        cases q with
        | true =>
          go_wp2_with fail
          go_quiet (fail)
          go_wp2_with fail
          go_roundg (gk - 1)
          case measure => have := HX.out.1; omega
          case rel => exact ⟨i + 1, by go_num, by have := HX.out.1; omega, by rw [HX.out.2.1]; rfl, HX.out.2.2.drewN _⟩
        | false =>
          go_wp2_with fail
          go_quiet (fail)
          go_wp2_with fail
          go_ret
          exact ⟨by rw [HX.out.2.1]; rfl, HX.out.2.2.drewN _⟩
      · have hda : a.drop i = [] := List.drop_eq_nil_of_le (by omega)
        have hdb : b.drop i = [] := List.drop_eq_nil_of_le (by rw [← HL.out]; omega)
        rw [hda, hdb] at hz
        have hzf : z = true := by rw [hz]; rfl
        subst hzf
        have HX := Lib.hid (And.intro hi hmod); clear hi hz hmod hda hdb
        have e2 : decide ((i : Int) < (a.length : Int)) = false := by simp; omega
        go_wp2_with fail
        go_ret
        exact ⟨rfl, HX.out.2⟩
set_option maxRecDepth 100000 in
theorem same_any (A : Option Addr) (n c : Nat) (A2 : Option Addr) (n2 c2 : Nat) (a b : List Entry) (ok ok2 : Nat → Prop) (w : World) (h : labR.rel w ok [.slice A n c] a) (h2 : labR.rel w ok2 [.slice A2 n2 c2] b) :
    Calls Tryz.prog 55 #[.slice A n c, .slice A2 n2 c2] w fun r w' => r = .returned (.bool (sameL a b)) ∧ Mod (fun _ => False) w w' := by
  have hm := equalE_any A n c A2 n2 c2 a b ok ok2 w h h2
  obtain ⟨z, hz⟩ : ∃ z, z = sameL a b := ⟨_, rfl⟩
  rw [← hz] at hm ⊢
  clear hz h h2
  go_enter Tryz.func55, Tryz.ntmps55
  go_wp2_with fail
  refine hm.mono ?_
  rintro r w1 ⟨rfl, hm1⟩
  have H1 := Lib.hid hm1; clear hm1 hm
  go_wp2_with fail
  go_ret
  exact ⟨rfl, H1.out⟩
end Go.Proofs.YthhepnaanjicjaaGreatDoor

/- Layer 6, label: Text. -/
namespace Go.Proofs.YthhepnaanjicjaaGreatDoor
open Go.RowKit Go.Shelf
set_option linter.unusedVariables false
/-- a call at a step of a region that draws -/
theorem step_call {P : Program} {w : World} {ops : Array Oper} {o : Oper} {a : Act} {K : Act → World → Prop} {Q : Exit → Act → World → Prop} {E : Prop} (hgd : o.guard = none) (f : FuncId) (x : Operand) (ts : Array TypeId)
    (ho : o.op = .call { callee := .value (.func f), args := #[x], argTypes := ts }) (v : Value) (hx : a.eval x = v) {C : Ending → World → Prop}
    (hcf : (callFunc f #[v]).run P w = .ok (.enter f #[v]) w) (hc : Calls P f #[v] w C) (h : ∀ e w', C e w' → ∃ u, e = .returned u ∧ K (a.put o.dst u) w') : if Region.wanted o (yielded ops a.tmps) = true then Oper.wp P o a w K Q else E := by
  have hw : Region.wanted o (yielded ops a.tmps) = true := by simp [Region.wanted, hgd]
  rw [if_pos hw]
  have h1 : (execOp a.eval o).run P w = .ok (.enter f #[v]) w := by
    have key : ∀ ρ : Operand → Value, ρ (.func f) = .func (.func f) #[] #[] → ρ x = v → (execOp ρ o).run P w = .ok (.enter f #[v]) w := by
      intro ρ h0 h1
      simp [execOp, ho, resolve, go_sem, h0, h1, hcf]
    exact key _ rfl hx
  unfold Oper.wp
  rw [h1, Oper.upon_enter]
  refine hc.mono fun e w' he => ?_
  obtain ⟨u, rfl, hk⟩ := h e w' he
  exact hk
theorem callFunc_go {P : Program} {f : FuncId} {fn : Func} (hf : P.funcs[f]? = some fn) (hname : (fn.name == "runtime.NumGoroutine") = false) (hb : fn.body.isSome = true) (args : Array Value) (w : World) : (callFunc f args).run P w = .ok (.enter f args) w := by
  have h1 : fn.name ≠ "runtime.NumGoroutine" := by simpa using hname
  obtain ⟨c, hc⟩ := Option.isSome_iff_exists.1 hb
  simp [callFunc, hf, h1, hc]
theorem itoa_cf (args : Array Value) (w : World) : (callFunc 94 args).run Tryz.prog w = .ok (.enter 94 args) w := callFunc_go Tryz.func94 (by kernel_rfl) (by kernel_rfl) args w
def partL (e : Entry) : List UInt8 := nm e ++ [61] ++ Lib.itoa e.level
def textL (l : List Entry) : List UInt8 := if l = [] then [45] else Lib.join (l.map partL) [44]
theorem lens_le {b : Nat} : ∀ (xs : List (List UInt8)), (∀ x ∈ xs, x.length ≤ b) → Lib.lens xs ≤ b * xs.length
  | [], _ => by simp [Lib.lens]
  | x :: r, h => by
    have h1 := lens_le r fun y hy => h y (List.mem_cons_of_mem _ hy)
    have h2 := h x List.mem_cons_self
    simp only [Lib.lens, List.map_cons, List.sum_cons, List.length_cons] at h1 ⊢
    rw [Nat.mul_succ]; omega
set_option maxRecDepth 100000 in
set_option maxHeartbeats 2000000 in
theorem textL_any (A : Option Addr) (n c : Nat) (l : List Entry) (ok : Nat → Prop) (w : World) (h : labR.rel w ok [.slice A n c] l) (hl : l.length ≤ 1000) (hb : ∀ e ∈ l, (nm e).length ≤ 1000000) (E : Env w) :
    Calls Tryz.prog 52 #[.slice A n c] w fun r w' => r = .returned (.string ⟨(textL l).toArray⟩) ∧ Mod (fun _ => False) w w' := by
  obtain ⟨rfl, hcap, -, hbig, -, hrow⟩ := lab_row h
  obtain ⟨z, hz⟩ : ∃ z, z = textL l := ⟨_, rfl⟩
  rw [← hz]
  have hall := labR_each h
  have H0 := Lib.hid (And.intro hrow (And.intro hz (And.intro E hb))); clear h hrow hz E hb
  have HA := Lib.hid hall; clear hall
  by_cases hl0 : l = []
  · subst hl0
    have hzf : z = [45] := by rw [H0.out.2.1]; rfl
    subst hzf
    go_enter Tryz.func52, Tryz.ntmps52
    go_wp2_with fail
    go_ret
    exact ⟨rfl, Mod.refl _ _⟩
  have hpos : 0 < l.length := by rcases l with _ | ⟨a, r⟩; exact absurd rfl hl0; simp
  have e1 : ((l.length : Int) == 0) = false := by simp; omega
  have HL := Lib.hid hl0; clear hl0
  go_enter Tryz.func52, Tryz.ntmps52
  go_wp2_with fail
  go_loopg [3, 11] l.length (fun f so si wr => ∃ (i : Nat) (Ao : Option Addr) (co : Nat), si = .int .i64 i ∧ so = .slice Ao i co ∧ i + f = l.length ∧ wr.ownsRow w.heap.size 9 1 (.slice Ao i co) i (scells ((l.take i).map partL)) ∧ Mod (fun _ => False) w wr)
  case atStart => exact ⟨0, none, 0, rfl, rfl, by omega, World.ownsRow_nil _ _ _ _, .refl _ _⟩
  case round =>
    obtain ⟨i, Ao, co, rfl, rfl, hi, ho, hmod⟩ := hrel
    by_cases hlt : i < l.length
    · obtain ⟨d, m, hx⟩ : ∃ d m, l[i]? = some (ent d m) := by
        obtain ⟨d, m, e⟩ := ent_cases l[i]
        exact ⟨d, m, by rw [← e]; simp [hlt]⟩
      obtain ⟨ad, rfl, -, hc0, hc1, hdl, hmr⟩ := row_ent (H0.out.1.step (w1 := wr) (ok1 := fun _ => True) (fun k hk hl => ⟨trivial, hmod.block k hl (fun h => h)⟩)) hx
      have hd6 : d.length ≤ 1000000 := by have := H0.out.2.2.2 _ (List.mem_of_getElem? hx); rwa [nm_ent] at this
      obtain ⟨t, ht⟩ : ∃ t, t = Lib.itoa m := ⟨_, rfl⟩
      have hm1 : -9223372036854775808 ≤ m ∧ m ≤ 9223372036854775807 := inR_i64 hmr
      have htl : t.length ≤ 21 := by rw [ht]; exact Lib.itoa_length_le m hm1.1 hm1.2
      obtain ⟨y, hy⟩ : ∃ y, y = d ++ [61] ++ t := ⟨_, rfl⟩
      have htk : scells ((l.take (i + 1)).map partL) = scells ((l.take i).map partL) ++ [encS y] := by rw [List.take_add_one, hx, List.map_append, scells_app, hy, ht]; simp [scells, nm_ent, lev_ent, partL]
      have hlen : (scells ((l.take i).map partL)).length = i := by rw [scells_len, List.length_map, List.length_take]; omega
      obtain ⟨sc, hsc⟩ : ∃ sc, sc = scells ((l.take i).map partL) := ⟨_, rfl⟩
      rw [← hsc] at ho htk hlen
      have itoa_call : ∀ W, Mod (fun _ => False) w W → Calls Tryz.prog 94 #[.int .i64 m] W fun r W' => r = .returned (.string ⟨t.toArray⟩) ∧ Mod (fun _ => False) W W' := fun W hW => by
        refine (Tryz.strconv_Itoa m hm1.1 hm1.2 W (H0.out.2.2.1.mod0 hW).tab).mono ?_
        rintro r W' ⟨rfl, k, os, rfl⟩
        exact ⟨by rw [ht], .of_below (Go.Lib.below_grow _ _ (Nat.le_refl _) k os)⟩
      have hc1' : (⟨d.toArray⟩ : ByteArray) ++ ⟨#[61]⟩ = ⟨(d ++ [61]).toArray⟩ := by apply ByteArray.ext; simp
      have hc2' : (⟨(d ++ [61]).toArray⟩ : ByteArray) ++ ⟨t.toArray⟩ = ⟨y.toArray⟩ := by rw [hy]; apply ByteArray.ext; simp
      have hyl : y.length = d.length + 1 + t.length := by rw [hy]; simp; omega
      have HX := Lib.hid (And.intro hi (And.intro ho (And.intro hmod (And.intro htk (And.intro hlen itoa_call)))))
      clear hi ho hmod htk hlen hx hsc itoa_call ht hy hmr
      go_wp2_with fail
      obtain ⟨W1, hW1⟩ : ∃ W1, W1 = wr.alloc (.cells #[.string ⟨d.toArray⟩, .int .i64 m] 63) := ⟨_, rfl⟩
      rw [← hW1]
      have hmW : Mod (fun _ => False) wr W1 := by rw [hW1]; exact (Mod.refl _ _).alloc _
      obtain ⟨k0, k1⟩ := cells2 wr (.string ⟨d.toArray⟩) (.int .i64 m) 63
      rw [← hW1] at k0 k1
      obtain ⟨g, hg⟩ : ∃ g, g = wr.heap.size := ⟨_, rfl⟩
      rw [← hg] at k0 k1 ⊢
      have h1 := hmW.drew
      have k0d : W1.drew.cell? ⟨g, 0, none⟩ = some (.string ⟨d.toArray⟩) := k0
      have HW := Lib.hid (And.intro h1 k0d); clear hW1 hg hmW h1 hc0 hc1 k0d
      obtain ⟨i0, hi0, hz0⟩ : ∃ i0, Tryz.prog.info? 9 = some i0 ∧ (i0.zero, i0.size, i0.bytes) = (some (.string ⟨#[]⟩), 1, 16) := Option.map_eq_some_iff.1 (by kernel_rfl)
      simp only [Prod.mk.injEq] at hz0
      have HI := Lib.hid (And.intro hi0 hz0); clear hi0 hz0
      have e5 : ¬ (9223372036854775807 < d.length + 1) := by omega
      have e6 : ¬ (9223372036854775807 < d.length + 1 + t.length) := by omega
      go_region_law (first
        | (refine step_call rfl 94 _ _ (by rfl) (.int .i64 m) (by rfl) (itoa_cf _ _) (HX.out.2.2.2.2.2 W1.drew (tr0 HX.out.2.2.1 HW.out.1)) ?_; rintro _ w2 ⟨rfl, hm2⟩; refine ⟨_, rfl, ?_⟩; have k0' := (hm2.cell (cell_lt HW.out.2) id).trans HW.out.2; have H2 := Lib.hid (tr0 HW.out.1 hm2); clear hm2)
        | (refine step_append_lies _ (by rfl) _ _ 24 (by rfl) w.heap.size 9 i0 (.string ⟨#[]⟩) 1 16 Tryz.underlying24 HI.out.1 HI.out.2.1 HI.out.2.2.1 HI.out.2.2.2 rfl (by decide) (.slice Ao i co) i sc (by rfl) ((own_move HX.out.2.1 (fun k hk => H2.out.block k (own_lt HX.out.2.1 k hk).2 id)).alloc _) ⟨w2.heap.size, 0, none⟩ 1 1 [encS y] (by rfl) rfl (World.news_of_block (cs := #[encS y]) (t := 9) (fr := (0, 0)) (heap_alloc_new w2 _)) (by simp [encS, Value.oneCell']) (by omega) (by simp only [maxLen]; omega) (by omega) (by have := (tr0 HX.out.2.2.1 H2.out).size; simp; omega) (w2.heap.size + 1) (by simp) ?_; intro g4 c4 w4 hown4 hg4 _ _))
      all_goals
        have H4 := Lib.hid (And.intro hown4 hg4); clear hown4 hg4 k0'
        go_wp2_with fail
        go_roundg (gk - 1)
        case measure => have := HX.out.1; omega
        case rel =>
          refine ⟨i + 1, some ⟨g4, 0, none⟩, c4, by go_num, rfl, by have := HX.out.1; omega, ?_, ?_⟩
          · rw [HX.out.2.2.2.1]
            exact H4.out.1
          · have hmm : Mod (fun _ => False) w w2 := tr0 HX.out.2.2.1 H2.out
            exact (hmm.alloc _).grown H4.out.2 (fun k hk => .inr (own_lt HX.out.2.1 k hk.symm).1)
    · have hie : l.take i = l := List.take_of_length_le (by omega)
      have hil : i = l.length := by omega
      subst hil
      rw [hie] at ho
      have hzf : z = Lib.join (l.map partL) [44] := by rw [H0.out.2.1]; unfold textL; rw [if_neg HL.out]
      obtain ⟨xs, hxs⟩ : ∃ xs, xs = l.map partL := ⟨_, rfl⟩
      rw [← hxs] at hzf
      subst hzf
      have hxl : xs.length = l.length := by rw [hxs, List.length_map]
      have hel : ∀ x ∈ xs, x.length ≤ 1000022 := by
        intro x hx
        rw [hxs] at hx
        obtain ⟨e, he, rfl⟩ := List.mem_map.1 hx
        have h1 := H0.out.2.2.2 e he
        have h2 := inR_i64 (HA.out e he).2
        have h3 := Lib.itoa_length_le e.level h2.1 h2.2
        unfold partL
        simp
        omega
      have hlens := lens_le xs hel
      obtain ⟨x0, hx0⟩ : ∃ x0, xs[0]? = some x0 := ⟨xs[0], by simp [show 0 < xs.length by omega]⟩
      have hjl : (Lib.join xs [44]).length ≤ 140737488355328 := by
        cases xs with
        | nil => simp at hx0
        | cons a r =>
          rw [Lib.join_length]
          simp only [List.length_cons, List.length_nil] at hlens hxl ⊢
          have : 1000022 * (r.length + 1) ≤ 1000022 * 1000 := Nat.mul_le_mul_left _ (by omega)
          omega
      rw [← hxs] at ho
      rw [← hxl] at ho
      obtain ⟨bk, c4, hv, -⟩ := own_row ho hx0
      obtain ⟨rfl, rfl⟩ : Ao = some ⟨bk, 0, none⟩ ∧ co = c4 := by simpa using hv
      have hcells : ∀ (j : Nat) (x : ByteArray), (xs.map mkStr)[j]? = some x → wr.cell? ⟨bk, 0 + j, none⟩ = some (.string x) := by
        intro j x hj
        rw [List.getElem?_map, Option.map_eq_some_iff] at hj
        obtain ⟨y, hy, rfl⟩ := hj
        obtain ⟨g5, c5, hv5, hcell⟩ := own_row ho hy
        obtain ⟨rfl, rfl⟩ : bk = g5 ∧ co = c5 := by simpa using hv5
        rw [Nat.zero_add]
        exact hcell
      have hcap5 : xs.length ≤ co := by
        rcases ho.2 with ⟨h, _⟩ | ⟨g, cap, cur, hv, _, _, hcc, _⟩
        · cases h
        · simp only [Value.slice.injEq] at hv; omega
      have hjn := Tryz.strings_Join bk 0 co (xs.map mkStr) ⟨#[44]⟩ wr hcells (own_lt ho bk rfl).2 (by rw [List.length_map]; omega) (by rw [List.length_map]; exact hcap5) (by rw [map_back]; exact hjl)
      rw [map_back, List.length_map, hxl] at hjn
      have HX := Lib.hid (And.intro hmod hjn); clear hmod hjn hcells ho hi hie hxs hel hlens hx0 hjl
      go_wp2_with fail
      refine HX.out.2.mono ?_
      rintro r w5 ⟨rfl, hb5⟩
      have H5 := Lib.hid (tr0 HX.out.1 (.of_below hb5)); clear hb5
      go_wp2_with fail
      go_ret
      exact ⟨rfl, H5.out⟩
end Go.Proofs.YthhepnaanjicjaaGreatDoor

/- Layer 6, the laws' first, the plain part. No program in it. -/
namespace Go.Proofs.YthhepnaanjicjaaGreatDoor
open Go.RowKit Go.Shelf
set_option linter.unusedVariables false
def c1 : List UInt8 := [49, 47, 48]
def c2 : List UInt8 := [50, 47, 48]
def c3 : List UInt8 := [51, 47, 48]
theorem catC1 : catT [1] 0 = c1 := by
  unfold catT pathT
  rw [show Lib.itoa 1 = [49] by decide +kernel, show Lib.itoa 0 = [48] by decide +kernel]; rfl
theorem catC2 : catT [2] 0 = c2 := by
  unfold catT pathT
  rw [show Lib.itoa 2 = [50] by decide +kernel, show Lib.itoa 0 = [48] by decide +kernel]; rfl
theorem parseC1 : parseB c1 = some ([1], 0) := parse_iff.2 ⟨by decide, catC1⟩
theorem parseC2 : parseB c2 = some ([2], 0) := parse_iff.2 ⟨by decide, catC2⟩
theorem rightC1 : rightB c1 = true := by unfold rightB; rw [parseC1]; rfl
theorem rightC2 : rightB c2 = true := by unfold rightB; rw [parseC2]; rfl
theorem cmpC12 : cmpB c1 c2 < 0 := by unfold cmpB; rw [parseC1, parseC2]; decide
def la : List Entry := [ent c1 3]
def lb : List Entry := [ent c1 2, ent c2 0]
def lw : List Entry := [ent c1 3, ent c2 2]
theorem c12 : c1 ≠ c2 := by decide
theorem right_one {m : Int} (h : m = 0 ∨ m = 2 ∨ m = 3) : RightL [ent c1 m] where
  len := by simp
  each := by intro e he; simp at he; subst he; exact ⟨by rw [nm_ent]; exact rightC1, by rw [lev_ent]; omega⟩
  asc := by simp
theorem right_two {m n : Int} (h : m = 0 ∨ m = 2 ∨ m = 3) (k : n = 0 ∨ n = 2 ∨ n = 3) : RightL [ent c1 m, ent c2 n] where
  len := by simp
  each := by
    intro e he; simp at he
    rcases he with rfl | rfl
    · exact ⟨by rw [nm_ent]; exact rightC1, by rw [lev_ent]; omega⟩
    · exact ⟨by rw [nm_ent]; exact rightC2, by rw [lev_ent]; omega⟩
  asc := by simp [nm_ent]; exact cmpC12
theorem laR : RightL la := right_one (by decide)
theorem lbR : RightL lb := right_two (by decide) (by decide)
theorem lwR : RightL lw := right_two (by decide) (by decide)
theorem makeL_len (l : List Entry) : (makeL l).length ≤ l.length := by
  unfold makeL tableL
  refine Nat.le_trans (List.length_filter_le _ _) ?_
  rw [List.length_map]
  refine Nat.le_trans (sortS_len _) ?_
  rw [List.length_map]; exact Nat.le_refl _
theorem resM_eq {l w : List Entry} (h : makeE l = 0) (hl : l.length ≤ 8) (hw : RightL w) (he : ∀ d, lastL l d = levelL w d) : resM l = (w, 0) := by
  have h8 := Nat.le_trans (makeL_len l) hl
  have : makeL l = w := right_ext (make_right h h8) hw fun d => by rw [make_level h]; exact he d
  unfold resM
  rw [if_neg (by simp [h]), if_neg (by omega), this]
theorem last3 (x y z : Entry) (c : List UInt8) : lastL [x, y, z] c = if nm z = c then z.level else if nm y = c then y.level else if nm x = c then x.level else 1 := by
  have := lastL_snoc [x, y] z c
  rw [show [x, y] ++ [z] = [x, y, z] from rfl] at this
  rw [this]
  have := lastL_snoc [x] y c
  rw [show [x] ++ [y] = [x, y] from rfl] at this
  rw [this]
  have := lastL_snoc [] x c
  rw [show [] ++ [x] = [x] from rfl] at this
  rw [this]
  rfl
theorem last2 (x y : Entry) (c : List UInt8) : lastL [x, y] c = if nm y = c then y.level else if nm x = c then x.level else 1 := by
  have := lastL_snoc [x] y c
  rw [show [x] ++ [y] = [x, y] from rfl] at this
  rw [this]
  have := lastL_snoc [] x c
  rw [show [] ++ [x] = [x] from rfl] at this
  rw [this]
  rfl
theorem level1 (m : Int) (c : List UInt8) : levelL [ent c1 m] c = if c1 = c then m else 1 := by rw [levelL_cons, nm_ent, lev_ent]; rfl
theorem level2 (m n : Int) (c : List UInt8) : levelL [ent c1 m, ent c2 n] c = if c1 = c then m else if c2 = c then n else 1 := by rw [levelL_cons, levelL_cons, nm_ent, lev_ent, nm_ent, lev_ent]; rfl
theorem joinF : resX max la lb = (la, 0) := by
  unfold resX
  rw [if_pos ⟨rightLB_iff.2 laR, rightLB_iff.2 lbR⟩, resM_same max_pick laR lbR]
  have hm : mixR max la lb = [ent c1 3, ent c1 3, ent c2 1] := by
    unfold mixR la lb
    simp [level1, level2, nm_ent, c12]
    exact ⟨by congr 1, by congr 1⟩
  refine resM_eq (mixR_zero max_pick laR lbR) (by rw [hm]; simp) laR fun d => ?_
  rw [hm, last3, la, level1]
  simp only [nm_ent, lev_ent]
  by_cases h2 : c2 = d
  · subst h2; simp [c12]
  · simp [h2]
theorem meetF : resX min la lb = (lb, 0) := by
  unfold resX
  rw [if_pos ⟨rightLB_iff.2 laR, rightLB_iff.2 lbR⟩, resM_same min_pick laR lbR]
  have hm : mixR min la lb = [ent c1 2, ent c1 2, ent c2 0] := by
    unfold mixR la lb
    simp [level1, level2, nm_ent, c12]
    exact ⟨by congr 1, by congr 1⟩
  refine resM_eq (mixR_zero min_pick laR lbR) (by rw [hm]; simp) lbR fun d => ?_
  rw [hm, last3, lb, level2]
  simp only [nm_ent, lev_ent]
  by_cases h2 : c2 = d
  · subst h2; simp [c12]
  · simp [h2]
theorem withF : resW la c2 2 = (lw, 0) := by
  unfold resW
  rw [if_pos (rightLB_iff.2 laR)]
  refine resM_eq (makeE_zero.2 ?_) (by simp [la]) lwR fun d => ?_
  · intro e he
    simp [la] at he
    rcases he with rfl | rfl
    · rw [nm_ent, lev_ent]; exact ⟨rightC1, by decide, by decide⟩
    · rw [nm_ent, lev_ent]; exact ⟨rightC2, by decide, by decide⟩
  · show lastL [ent c1 3, ent c2 2] d = _
    rw [last2, lw, level2]
    simp only [nm_ent, lev_ent]
    by_cases h2 : c2 = d
    · subst h2; simp [c12]
    · simp [h2]
theorem flowsF1 : flowsLB lb la = true := flowsLB_iff.2 ⟨lbR, laR, fun d => by
  rw [la, lb, level1, level2]
  by_cases h1 : c1 = d
  · simp [h1]
  · by_cases h2 : c2 = d
    · simp [h1, h2]
    · simp [h1, h2]⟩
theorem flowsF2 : flowsLB la lb = false := flowsLB_no fun h => by
  have := h.le c1
  rw [la, lb, level1, level2] at this
  simp at this
theorem textF : textL lb = [49, 47, 48, 61, 50, 44, 50, 47, 48, 61, 48] := by
  unfold textL lb
  rw [if_neg (by simp)]
  simp only [List.map_cons, List.map_nil, partL, nm_ent, lev_ent]
  rw [show Lib.itoa 2 = [50] by decide +kernel, show Lib.itoa 0 = [48] by decide +kernel]
  decide +kernel
theorem levelF : levelL lb c3 = 1 := by rw [lb, level2]; decide
end Go.Proofs.YthhepnaanjicjaaGreatDoor

/- Layer 6, the laws: long, first. -/
namespace Go.Proofs.YthhepnaanjicjaaGreatDoor
open Go.RowKit Go.Shelf
set_option linter.unusedVariables false
def longL (l : List Entry) : Bool := decide (30 < l.length) || l.any fun e => decide (100 < (nm e).length)
theorem longL_iff {l : List Entry} : longL l = false ↔ l.length ≤ 30 ∧ ∀ e ∈ l, (nm e).length ≤ 100 := by
  unfold longL
  rw [Bool.or_eq_false_iff, decide_eq_false_iff_not, List.any_eq_false]
  constructor
  · intro h; exact ⟨by omega, fun e he => by have := h.2 e he; simpa using this⟩
  · intro h; exact ⟨by omega, fun e he => by have := h.2 e he; simpa using this⟩
set_option maxRecDepth 100000 in
set_option maxHeartbeats 1000000 in
theorem long_any (A : Option Addr) (n c : Nat) (l : List Entry) (ok : Nat → Prop) (w : World) (h : labR.rel w ok [.slice A n c] l) :
    Calls Tryz.prog 38 #[.slice A n c] w fun r w' => r = .returned (.bool (longL l)) ∧ Mod (fun _ => False) w w' := by
  obtain ⟨rfl, hcap, -, hbig, -, hrow⟩ := lab_row h
  obtain ⟨z, hz⟩ : ∃ z, z = longL l := ⟨_, rfl⟩
  rw [← hz]
  have H0 := Lib.hid (And.intro hrow hz); clear h hrow hz
  by_cases hl : 30 < l.length
  · have hzf : z = true := by rw [H0.out.2]; unfold longL; simp [hl]
    subst hzf
    have e1 : decide ((30 : Int) < (l.length : Int)) = true := by simp; omega
    go_enter Tryz.func38, Tryz.ntmps38
    go_wp2_with fail
    go_ret
    exact ⟨rfl, Mod.refl _ _⟩
  have e1 : decide ((30 : Int) < (l.length : Int)) = false := by simp; omega
  go_enter Tryz.func38, Tryz.ntmps38
  go_wp2_with fail
  go_loopg [10] l.length (fun f si wr => ∃ (i : Nat), si = .int .i64 i ∧ i + f = l.length ∧ z = longL (l.drop i) ∧ Mod (fun _ => False) w wr)
  case atStart => exact ⟨0, rfl, by omega, H0.out.2, .refl _ _⟩
  case round =>
    obtain ⟨i, rfl, hi, hz, hmod⟩ := hrel
    by_cases hlt : i < l.length
    · obtain ⟨d, m, hx⟩ : ∃ d m, l[i]? = some (ent d m) := by
        obtain ⟨d, m, e⟩ := ent_cases l[i]
        exact ⟨d, m, by rw [← e]; simp [hlt]⟩
      obtain ⟨ad, rfl, -, hc0, hc1, hdl, -⟩ := row_ent (H0.out.1.step (w1 := wr) (ok1 := fun _ => True) (fun k hk hl => ⟨trivial, hmod.block k hl (fun h => h)⟩)) hx
      have hda : l.drop i = ent d m :: l.drop (i + 1) := by
        rw [List.drop_eq_getElem_cons hlt]
        rw [List.getElem?_eq_getElem hlt] at hx
        rw [Option.some.inj hx]
      have hln : ∀ j, longL (l.drop j) = (l.drop j).any fun e => decide (100 < (nm e).length) := fun j => by
        unfold longL
        rw [List.length_drop]
        have : ¬ 30 < l.length - j := by omega
        simp [this]
      rw [hln, hda, List.any_cons, nm_ent, ← hln] at hz
      have HX := Lib.hid (And.intro hi (And.intro hz hmod)); clear hi hz hmod hx hda hln
      by_cases hd : 100 < d.length
      · have hzf : z = true := by rw [HX.out.2.1]; simp [hd]
        subst hzf
        go_wp2_with fail
        go_ret
        exact ⟨rfl, HX.out.2.2.alloc _⟩
      · go_wp2_with fail
        go_roundg (gk - 1)
        case measure => have := HX.out.1; omega
        case rel => exact ⟨i + 1, by go_num, by have := HX.out.1; omega, by rw [HX.out.2.1]; simp [hd], HX.out.2.2.alloc _⟩
    · have hda : l.drop i = [] := List.drop_eq_nil_of_le (by omega)
      have hzf : z = false := by rw [hz, hda]; rfl
      subst hzf
      have HX := Lib.hid (And.intro hi hmod); clear hi hz hmod hda
      go_wp2_with fail
      go_ret
      exact ⟨rfl, HX.out.2⟩
end Go.Proofs.YthhepnaanjicjaaGreatDoor

/- Layer 6, the laws: first. -/
namespace Go.Proofs.YthhepnaanjicjaaGreatDoor
open Go.RowKit Go.Shelf
set_option linter.unusedVariables false
section
variable {P : Program} {ops : Array Oper} {rest : List Oper} {o : Oper} {a : Act} {Q : Exit → Act → World → Prop} {w : World}
theorem wpList_slice2_agg2 (hgd : o.guard = none) (T e : TypeId) (x y : Operand) (ho : o.op = .buildSlice T 2 #[(0, x), (1, y)]) (ht : P.underlying T = some (.slice e)) (z0 z1 u0 u1 v0 v1 : Value) (hinfo : (P.info? e).map (fun i => (i.zero, i.size)) = some (some (.agg #[z0, z1]), 2))
    (hx : a.eval x = .agg #[u0, u1]) (hy : a.eval y = .agg #[v0, v1]) (h : wpList P ops Q rest (a.put o.dst (.slice (some ⟨w.heap.size, 0, none⟩) 2 2)) (w.alloc (.cells #[u0, u1, v0, v1] e))) : wpList P ops Q (o :: rest) a w := by
  refine wpList_plain hgd fun K hK => ?_
  obtain ⟨i, hi, hzz⟩ := Option.map_eq_some_iff.1 hinfo
  simp only [Prod.mk.injEq] at hzz
  obtain ⟨hz, hs⟩ := hzz
  have hrun : (Instr.buildSlice T 2 #[(0, .agg #[u0, u1]), (1, .agg #[v0, v1])]).run P w = .ok (.slice (some ⟨w.heap.size, 0, none⟩) 2 2) (w.alloc (.cells #[u0, u1, v0, v1] e)) := by
    simp only [Instr.buildSlice, Sem.run_bind, run_underlying ht, Result.andThen_ok]
    simp [sizeOf, typeInfo, zeroValue, hi, hz, hs, newRow, Instr.fill, Value.cells, Array.range]
    rfl
  unfold Oper.wp execOp
  simp only [ho, List.map_toArray, List.map_cons, List.map_nil, hx, hy, Sem.run_bind, hrun, Result.andThen_ok, Sem.run_pure]
  exact hK _ _ h
end
def ecells (l : List Entry) : List Value := l.flatMap fun e => [.string e.cat, .int .i64 e.level]
theorem ecells_len : ∀ l : List Entry, (ecells l).length = l.length * 2
  | [] => rfl
  | e :: r => by simp [ecells, List.flatMap_cons] at *; have := ecells_len r; simp [ecells] at this; omega
theorem ecells_at : ∀ (l : List Entry) (j : Nat) (e : Entry), l[j]? = some e → ((ecells l).drop (j * 2)).take 2 = [.string e.cat, .int .i64 e.level]
  | [], j, e, h => by simp at h
  | x :: r, 0, e, h => by simp at h; subst h; simp [ecells]
  | x :: r, j + 1, e, h => by
    have := ecells_at r j e (by simpa using h)
    rw [Nat.succ_mul]
    simpa [ecells, List.flatMap_cons] using this
theorem lab_lit (w : World) (l : List Entry) (n : Nat) (hn : n = l.length) (h : ∀ e ∈ l, (nm e).length ≤ 1000000 ∧ Rd.inR .i64 e.level) (hl : l.length ≤ 1000) (T : TypeId) : labR.rel (w.alloc (.cells (ecells l).toArray T)) (fun k => k = w.heap.size) [.slice (some ⟨w.heap.size, 0, none⟩) n n] l := by
  subst hn
  have ho : OwnR EntryR T (w.alloc (.cells (ecells l).toArray T)) 0 (fun _ => False) (.slice (some ⟨w.heap.size, 0, none⟩) l.length l.length) l := by
    refine ⟨ecells l, ⟨ecells_len l, .inr ⟨w.heap.size, l.length, (ecells l).toArray, rfl, Nat.zero_le _, World.alloc_heap_new w _, Nat.le_refl _, by simp only [maxLen]; omega, by simp [ecells_len]; rfl, ?_⟩⟩, fun j e hj => ?_⟩
    · show List.take (l.length * 2) _ = _
      rw [← ecells_len l]; simp
    · show EntryR.rel _ _ (((ecells l).drop (j * 2)).take 2) e
      rw [ecells_at l j e hj]
      have h1 := h e (List.mem_of_getElem? hj)
      exact EntryR_mk _ _ e (by have := h1.1; rw [← ent_nm e, show (ent (nm e) e.level).cat.size = (nm e).length from mkStr_size _]; omega) h1.2
  exact Rd.mono (ho.reads (bytes := 24) (by omega)) (fun k hk => hk.elim False.elim fun h => by simp [Value.ownBlock] at h; exact h.symm)
set_option maxRecDepth 100000 in
set_option maxHeartbeats 4000000 in
theorem first_any (w : World) (E : Env w) : Calls Tryz.prog 37 #[] w fun r w' => r = .returned (.bool true) ∧ Mod (fun _ => False) w w' := by
  have E0 := Lib.hid E; clear E
  go_enter Tryz.func37, Tryz.ntmps37
  go_wp2_with (first
    | (refine wpList_slice1_agg rfl 23 63 _ rfl Tryz.underlying23 zeroEnt.toArray [.string ⟨#[49, 47, 48]⟩, .int .i64 3] Tryz.info_ent2 (by decide) rfl rfl ?_)
    | (refine wpList_slice2_agg2 rfl 23 63 _ _ rfl Tryz.underlying23 (.string ⟨#[]⟩) (.int .i64 0) (.string ⟨#[49, 47, 48]⟩) (.int .i64 2) (.string ⟨#[50, 47, 48]⟩) (.int .i64 0) Tryz.info_ent2 rfl rfl ?_))
  obtain ⟨Wa, hWa⟩ : ∃ Wa, Wa = w.alloc (.cells #[.string ⟨#[49, 47, 48]⟩, .int .i64 3] 63) := ⟨_, rfl⟩
  have RA : labR.rel Wa (fun k => k = w.heap.size) [.slice (some ⟨w.heap.size, 0, none⟩) 1 1] la := by rw [hWa]; exact lab_lit w la 1 rfl (by intro e he; simp [la] at he; subst he; rw [nm_ent, lev_ent]; exact ⟨by decide, inR_mk (by omega)⟩) (by decide) _
  have hma : Mod (fun _ => False) w Wa := by rw [hWa]; exact (Mod.refl _ _).alloc _
  have hsa : w.heap.size + 1 = Wa.heap.size := by rw [hWa]; simp
  rw [← hWa, hsa]
  obtain ⟨g, hg⟩ : ∃ g, g = w.heap.size := ⟨_, rfl⟩
  rw [← hg] at RA ⊢
  have HH := Lib.hid (And.intro hma hg); clear hWa hg hsa hma
  obtain ⟨Wb, hWb⟩ : ∃ Wb, Wb = Wa.alloc (.cells #[.string ⟨#[49, 47, 48]⟩, .int .i64 2, .string ⟨#[50, 47, 48]⟩, .int .i64 0] 63) := ⟨_, rfl⟩
  have RB : labR.rel Wb (fun k => k = Wa.heap.size) [.slice (some ⟨Wa.heap.size, 0, none⟩) 2 2] lb := by rw [hWb]; exact lab_lit Wa lb 2 rfl (by intro e he; simp [lb] at he; rcases he with rfl | rfl <;> (rw [nm_ent, lev_ent]; exact ⟨by decide, inR_mk (by omega)⟩)) (by decide) _
  have hmb : Mod (fun _ => False) Wa Wb := by rw [hWb]; exact (Mod.refl _ _).alloc _
  rw [← hWb]
  replace RA := Rd.mod RA hmb (fun _ _ => id)
  obtain ⟨g2, hg2⟩ : ∃ g2, g2 = Wa.heap.size := ⟨_, rfl⟩
  rw [← hg2] at RB ⊢
  have hm0 := tr0 HH.out.1 hmb
  have hJ := join_any (some ⟨g, 0, none⟩) 1 1 (some ⟨g2, 0, none⟩) 2 2 la lb _ _ Wb RA RB (E0.out.mod0 hm0)
  rw [joinF] at hJ
  have H0 := Lib.hid (And.intro hm0 (And.intro RA RB)); clear hm0 RA RB hWb hmb hg2
  refine hJ.mono ?_
  rintro r w1 ⟨A1, k1, rfl, ho1, hm1⟩
  have hM := meet_any (some ⟨g, 0, none⟩) 1 1 (some ⟨g2, 0, none⟩) 2 2 la lb _ _ w1 (Rd.mod H0.out.2.1 hm1 (fun _ _ => id)) (Rd.mod H0.out.2.2 hm1 (fun _ _ => id)) (E0.out.mod0 (tr0 H0.out.1 hm1))
  rw [meetF] at hM
  have H1 := Lib.hid (And.intro hm1 (And.intro (ho1.reads (bytes := 24) (by decide)) hM)); clear hm1 ho1 hM hJ
  go_wp2_with fail
  refine H1.out.2.2.mono ?_
  rintro r w2 ⟨A2, k2, rfl, ho2, hm2⟩
  have hm02 := tr0 H1.out.1 hm2
  have hW := with_any (some ⟨g, 0, none⟩) 1 1 la c2 2 _ w2 (Rd.mod H0.out.2.1 hm02 (fun _ _ => id)) (by decide) (inR_mk (by omega)) (E0.out.mod0 (tr0 H0.out.1 hm02))
  rw [withF] at hW
  have H2 := Lib.hid (And.intro hm02 (And.intro (Rd.mod H1.out.2.1 hm2 (fun _ _ => id)) (And.intro (ho2.reads (bytes := 24) (by decide)) hW))); clear hm2 ho2 hm02 hW H1
  go_wp2_with fail
  refine H2.out.2.2.2.mono ?_
  rintro r w3 ⟨A3, k3, rfl, ho3, hm3⟩
  have hm03 := tr0 H2.out.1 hm3
  have ra3 := Rd.mod H0.out.2.1 hm03 (fun _ _ => id)
  have rb3 := Rd.mod H0.out.2.2 hm03 (fun _ _ => id)
  have rj3 := Rd.mod H2.out.2.1 hm3 (fun _ _ => id)
  have rm3 := Rd.mod H2.out.2.2.1 hm3 (fun _ _ => id)
  have sJ := same_any A1 la.length k1 (some ⟨g, 0, none⟩) 1 1 la la _ _ w3 rj3 ra3
  rw [sameL_iff.2 rfl] at sJ
  have e7 : ((lw.length : Int) == 2) = true := by decide
  have H3 := Lib.hid (And.intro (tr0 H0.out.1 hm03) (And.intro ra3 (And.intro rb3 (And.intro rm3 sJ)))); clear hm03 hm3 ho3 ra3 rb3 rj3 rm3 sJ H2
  go_wp2_with fail
  refine H3.out.2.2.2.2.mono ?_
  rintro r w4 ⟨rfl, hm4⟩
  have sM := same_any A2 lb.length k2 (some ⟨g2, 0, none⟩) 2 2 lb lb _ _ w4 (Rd.mod H3.out.2.2.2.1 hm4 (fun _ _ => id)) (Rd.mod H3.out.2.2.1 hm4 (fun _ _ => id))
  rw [sameL_iff.2 rfl] at sM
  have H4 := Lib.hid (And.intro hm4 sM); clear hm4 sM
  go_wp2_with fail
  refine H4.out.2.mono ?_
  rintro r w5 ⟨rfl, hm5⟩
  have hm5 := tr0 H4.out.1 hm5
  have sF := flows_any A2 lb.length k2 (some ⟨g, 0, none⟩) 1 1 lb la _ _ w5 (Rd.mod H3.out.2.2.2.1 hm5 (fun _ _ => id)) (Rd.mod H3.out.2.1 hm5 (fun _ _ => id)) (E0.out.mod0 (tr0 H3.out.1 hm5))
  rw [flowsF1] at sF
  have H5 := Lib.hid (And.intro hm5 sF); clear hm5 sF H4
  go_wp2_with fail
  refine H5.out.2.mono ?_
  rintro r w6 ⟨rfl, hm6⟩
  have hm6 := tr0 H5.out.1 hm6
  have sG := flows_any (some ⟨g, 0, none⟩) 1 1 (some ⟨g2, 0, none⟩) 2 2 la lb _ _ w6 (Rd.mod H3.out.2.1 hm6 (fun _ _ => id)) (Rd.mod H3.out.2.2.1 hm6 (fun _ _ => id)) (E0.out.mod0 (tr0 H3.out.1 hm6))
  rw [flowsF2] at sG
  have H6 := Lib.hid (And.intro hm6 sG); clear hm6 sG H5
  go_wp2_with fail
  refine H6.out.2.mono ?_
  rintro r w7 ⟨rfl, hm7⟩
  have hm7 := tr0 H6.out.1 hm7
  have sT := textL_any (some ⟨g2, 0, none⟩) 2 2 lb _ w7 (Rd.mod H3.out.2.2.1 hm7 (fun _ _ => id)) (by decide) (by intro e he; simp [lb] at he; rcases he with rfl | rfl <;> (rw [nm_ent]; decide)) (E0.out.mod0 (tr0 H3.out.1 hm7))
  rw [textF] at sT
  have H7 := Lib.hid (And.intro hm7 sT); clear hm7 sT H6
  go_wp2_with fail
  refine H7.out.2.mono ?_
  rintro r w8 ⟨rfl, hm8⟩
  have hm8 := tr0 H7.out.1 hm8
  have sL := level_any (some ⟨g2, 0, none⟩) 2 2 lb c3 _ w8 (Rd.mod H3.out.2.2.1 hm8 (fun _ _ => id))
  rw [levelF] at sL
  have H8 := Lib.hid (And.intro hm8 sL); clear hm8 sL H7
  go_wp2_with fail
  refine H8.out.2.mono ?_
  rintro r w9 ⟨rfl, hm9⟩
  have hm9 := tr0 H8.out.1 hm9
  have sR := rightLab_any (some ⟨g2, 0, none⟩) 2 2 lb _ w9 (Rd.mod H3.out.2.2.1 hm9 (fun _ _ => id)) (E0.out.mod0 (tr0 H3.out.1 hm9))
  rw [rightLB_iff.2 lbR] at sR
  have H9 := Lib.hid (And.intro hm9 sR); clear hm9 sR H8
  go_wp2_with fail
  refine H9.out.2.mono ?_
  rintro r w10 ⟨rfl, hm10⟩
  have H10 := Lib.hid (tr0 (tr0 H3.out.1 H9.out.1) hm10); clear hm10 H9
  go_wp2_with fail
  go_ret
  exact ⟨rfl, H10.out⟩
end Go.Proofs.YthhepnaanjicjaaGreatDoor

/- Arguments in the rows' words: strings, numbers, labels. -/
namespace Go.Proofs.YthhepnaanjicjaaGreatDoor
open Go.RowKit
set_option linter.unusedVariables false
theorem str_opens : Opens Tryz.prog Rd.string 9 := opens_string Tryz.underlying9
theorem int_opens : Opens Tryz.prog (Rd.int .i64) 3 := opens_int Tryz.underlying3
theorem lab_opens : Opens Tryz.prog labR 23 := opens_slice Tryz.underlying23 (by kernel_rfl) (by kernel_rfl) EntryR_opens
theorem below0 {w w' : World} (h : Mod (fun _ => False) w w') : Below w.heap.size w w' := h.below (Nat.le_refl _) (fun _ h => h.elim)
theorem arr_strs {n : Nat} {hn : 0 < n} {w : World} {ok : Nat → Prop} {cs : List Value} {xs : List ByteArray} (h : (Rd.arr n hn Rd.string).rel w ok cs xs) : cs = xs.map Value.string ∧ xs.length = n ∧ ∀ x ∈ xs, x.size ≤ 140737488355328 := by
  obtain ⟨h1, h2, h3⟩ := h
  have hl : cs.length = n := by rw [h1]; exact Nat.mul_one n
  have key : ∀ (j : Nat) (x : ByteArray), xs[j]? = some x → cs[j]? = some (.string x) ∧ x.size ≤ 140737488355328 := by
    intro j x hx
    obtain ⟨h4, h5⟩ := h3 j x hx
    refine ⟨?_, h5⟩
    have h6 : ((cs.drop (j * 1)).take 1)[0]? = some (Value.string x) := by
      have : (cs.drop (j * 1)).take 1 = [Value.string x] := h4
      rw [this]; rfl
    rw [List.getElem?_take, if_pos (by decide), List.getElem?_drop, Nat.mul_one, Nat.add_zero] at h6
    exact h6
  refine ⟨List.ext_getElem? fun j => ?_, h2, fun x hx => ?_⟩
  · by_cases hj : j < n
    · obtain ⟨x, hx⟩ : ∃ x, xs[j]? = some x := ⟨_, List.getElem?_eq_getElem (by omega)⟩
      rw [List.getElem?_map, hx, (key j x hx).1]; rfl
    · rw [List.getElem?_eq_none (by omega), List.getElem?_eq_none (by rw [List.length_map]; omega)]
  · obtain ⟨j, hj⟩ := List.getElem?_of_mem hx
    exact (key j x hj).2
end Go.Proofs.YthhepnaanjicjaaGreatDoor

/- The package-level variables that these rows list: what the walks need of them; a world that meets the condition. -/
namespace Go.Proofs.YthhepnaanjicjaaGreatDoor
open Go.ChangeShapes Go.WideShapes Go.ChangeAt Go.RowKit
set_option linter.unusedVariables false
def rowLaid : List (String × DataW Unit) := [("math/bits.deBruijn32tab", Rows.laid_math_bits_deBruijn32tab), ("math/bits.deBruijn64tab", Rows.laid_math_bits_deBruijn64tab), ("internal/strconv.uint64pow10", Rows.laid_internal_strconv_uint64pow10), ("unicode/utf8.acceptRanges", Rows.laid_unicode_utf8_acceptRanges), ("strconv.ErrRange", Rows.laid_strconv_ErrRange), ("strconv.ErrSyntax", Rows.laid_strconv_ErrSyntax), ("unicode/utf8.first", Rows.laid_unicode_utf8_first)]
theorem gTab : (Tryz.prog.globals[0]?).map (·.type) = some 177 := by kernel_rfl
theorem gSyn : (Tryz.prog.globals[2]?).map (·.type) = some 89 := by kernel_rfl
theorem gRng : (Tryz.prog.globals[3]?).map (·.type) = some 89 := by kernel_rfl
set_option maxRecDepth 100000 in
theorem env_of {W : World} (h : laidMetH Tryz.prog rowLaid W) : Env W := by
  rw [MakeChecks.laidMetH_plain _ _ _ (by kernel_rfl)] at h
  obtain ⟨ps, ⟨b0, t0, cs0, f0, p0, q0, hg0, ht0, hv0, hd0, ⟨b1, t1, cs1, f1, p1, q1, hg1, ht1, hv1, hd1, ⟨b2, t2, cs2, f2, p2, q2, hg2, ht2, hv2, hd2, ⟨b3, t3, cs3, f3, p3, q3, hg3, ht3, hv3, hd3, ⟨b4, t4, cs4, f4, p4, q4, hg4, ht4, hv4, hd4, ⟨b5, t5, cs5, f5, p5, q5, hg5, ht5, hv5, hd5, _, _⟩, _⟩, _⟩, _⟩, _⟩, _⟩, _, _⟩ := h
  clear hd0 hd1 hd3 hv0 hv1 hv3
  obtain rfl := Option.some.inj (g1.symm.trans hg2)
  obtain rfl := Option.some.inj (gTab.symm.trans ht2)
  obtain rfl := Option.some.inj (g3.symm.trans hg4)
  obtain rfl := Option.some.inj (gRng.symm.trans ht4)
  obtain rfl := Option.some.inj (g2.symm.trans hg5)
  obtain rfl := Option.some.inj (gSyn.symm.trans ht5)
  refine ⟨?_, ?_, ?_⟩
  · have := Lib.cells_of_tab (zs := Lib.pow10Tab) (k := .u64) Tryz.underlying177 Tryz.underlying155 (by kernel_rfl) (by kernel_rfl) hd2
    unfold Lib.TabIs
    rw [hv2, ← this]
  · obtain ⟨f', u, v, hcs, _, _⟩ := iface_of_trod Tryz.underlying89 hd5
    exact ⟨u, v, by rw [hv5, ← hcs]⟩
  · obtain ⟨f', u, v, hcs, _, _⟩ := iface_of_trod Tryz.underlying89 hd4
    exact ⟨u, v, by rw [hv4, ← hcs]⟩
/-- A world that meets the condition: the heap that the door's own run leaves, Go's own table laid. -/
noncomputable def laidWorld (os : Os) : World :=
  let w0 := World.doorLaid Tryz.prog 400 os
  { w0 with heap := w0.heap.modify 4 fun
      | .cells _ t frozen => .cells (Lib.firstTab.map fun z => Value.int .u8 z).toArray t frozen
      | o => o }
theorem laidWorld_met (os : Os) (args : Array Value) : laidMetH Tryz.prog rowLaid ((laidWorld os).forCall (fun _ _ => 0) ⟨#[], args, []⟩).memory := by
  rw [MakeChecks.laidMetH_plain _ _ _ (by kernel_rfl)]
  exact laidMet_of_run' 8 (by kernel_rfl) (by kernel_rfl)
end Go.Proofs.YthhepnaanjicjaaGreatDoor
