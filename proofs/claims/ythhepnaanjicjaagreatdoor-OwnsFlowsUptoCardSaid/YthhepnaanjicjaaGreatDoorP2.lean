/- Texts of this claim, joined: Cats3, Cats4, Cats5, Agg, Row, Row2, Cats6, Cats7, Drawn. -/
import Derived.Test.YthhepnaanjicjaaGreatDoorP1
import Derived.Lib.ItoaLen
import Derived.Lib.MinMax
import Derived.Sort.Statements
import Derived.Sort.Walk0
import Derived.Test.YthhepnaanjicjaaGreatDoorP0
import Derived.Laws.Tables
import Derived.Laws.Rows
import Derived.Deep.WholeRow
import Derived.Deep.Draws
import Derived.BigFrame
import Derived.Lib.AppendZerosOnto
import Derived.Lib.Overlaps
import Derived.Laws.AppendOwnNone
import Derived.Calls
/- Layer 5, cats: what a category is written as. -/
namespace Go.Proofs.YthhepnaanjicjaaGreatDoor
open Go.RowKit Go.Shelf
set_option linter.unusedVariables false
/-- What a path is written as. -/
def pathT : List Int → List UInt8
  | [] => []
  | [k] => Lib.itoa k
  | k :: l => Lib.itoa k ++ 46 :: pathT l
def catT (p : List Int) (n : Int) : List UInt8 := pathT p ++ 47 :: Lib.itoa n
def fitsB (p : List Int) (n : Int) : Bool := decide (0 ≤ n) && decide (n ≤ 65535) && decide (p.length ≤ 6) && p.all fun k => decide (0 ≤ k) && decide (k ≤ 1048576)
theorem pathT_snoc (k : Int) : ∀ l : List Int, pathT (l ++ [k]) = (if l = [] then [] else pathT l ++ [46]) ++ Lib.itoa k
  | [] => rfl
  | [a] => by simp [pathT]
  | a :: b :: l => by
    have := pathT_snoc k (b :: l)
    simp only [List.cons_append] at this ⊢
    rw [pathT, this]
    · simp [pathT]
    · simp
theorem pathT_len : ∀ l : List Int, (∀ k ∈ l, 0 ≤ k ∧ k ≤ 1048576) → (pathT l).length ≤ 22 * l.length
  | [], _ => by simp [pathT]
  | [k], h => by
    have h1 := h k (by simp)
    have := Lib.itoa_length_le k (by omega) (by omega)
    simp [pathT]; omega
  | k :: b :: l, h => by
    have h1 := h k (by simp)
    have h2 := Lib.itoa_length_le k (by omega) (by omega)
    have := pathT_len (b :: l) (fun x hx => h x (List.mem_cons_of_mem _ hx))
    simp only [pathT, List.length_append, List.length_cons] at this ⊢
    omega
theorem mod_below {w wr w1 : World} (h : Mod (fun _ => False) w wr) (hb : Below w.heap.size wr w1) : Mod (fun _ => False) w w1 :=
  ⟨hb.os.trans h.os, hb.tape.trans h.tape, hb.output.trans h.output, Nat.le_trans h.size hb.size, fun k hk hs => (hb.block k hk).trans (h.block k hk hs)⟩
end Go.Proofs.YthhepnaanjicjaaGreatDoor

/- Layer 5, cats: Right, the comparisons, Compare. -/
namespace Go.Proofs.YthhepnaanjicjaaGreatDoor
open Go.RowKit Go.Shelf
set_option linter.unusedVariables false
theorem pathS_range : ∀ (xs : List (List UInt8)) (acc p : List Int), pathS acc xs = some p → (∀ k ∈ acc, 0 ≤ k ∧ k ≤ 1048576) → acc.length ≤ 6 → (∀ k ∈ p, 0 ≤ k ∧ k ≤ 1048576) ∧ p.length ≤ 6
  | [], acc, p, h, h1, h2 => by simp only [pathS, Option.some.injEq] at h; subst h; exact ⟨h1, h2⟩
  | x :: xs, acc, p, h, h1, h2 => by
    simp only [pathS] at h
    split at h
    · cases h
    · rename_i k hk
      obtain ⟨k0, k1, -⟩ := numB_some hk
      split at h
      · cases h
      · refine pathS_range xs _ p h ?_ (by simp; omega)
        intro j hj
        rcases List.mem_append.1 hj with hj | hj
        · exact h1 j hj
        · rw [List.mem_singleton.1 hj]; exact ⟨k0, k1⟩
theorem parseB_range {l : List UInt8} {p : List Int} {n : Int} (h : parseB l = some (p, n)) : (∀ k ∈ p, 0 ≤ k ∧ k ≤ 1048576) ∧ p.length ≤ 6 ∧ 0 ≤ n ∧ n ≤ 65535 := by
  unfold parseB parseC at h
  split at h
  · cases h
  · rename_i k hk
    obtain ⟨k0, k1, -⟩ := numB_some hk
    split at h
    · cases h
    · split at h
      · cases h; exact ⟨by simp, by simp, k0, k1⟩
      · cases hp : pathS [] (splitB 46 (cutB 47 l).1) with
        | none => rw [hp] at h; cases h
        | some q =>
          rw [hp] at h
          simp only [Option.map_some, Option.some.injEq, Prod.mk.injEq] at h
          obtain ⟨rfl, rfl⟩ := h
          have := pathS_range _ _ _ hp (by simp) (by simp)
          exact ⟨this.1, this.2, k0, k1⟩
/-- Parse in the words of its readers. -/
theorem parse_rd (l : List UInt8) (hl : l.length ≤ 140737488355328) (w : World) (E : Env w) :
    Calls Tryz.prog 100 #[.string ⟨l.toArray⟩] w fun r w' => Mod (fun _ => False) w w' ∧ ((parseB l = none ∧ r = .returned (.tuple #[.slice none 0 0, .int .i64 0, .bool false])) ∨
      ∃ p n A c, parseB l = some (p, n) ∧ r = .returned (.tuple #[.slice A p.length c, .int .i64 n, .bool true]) ∧ intsR.rel w' (fun k => w.heap.size ≤ k) [.slice A p.length c] p) := by
  refine (parse_any l hl w E).mono ?_
  rintro r w' ⟨⟨h1, h2⟩, hm⟩
  refine ⟨hm, ?_⟩
  cases hp : parseB l with
  | none => exact .inl ⟨rfl, h1 hp⟩
  | some x =>
    obtain ⟨p, n⟩ := x
    obtain ⟨v, hr, hrow⟩ := h2 p n hp
    obtain ⟨r1, r2, r3, r4⟩ := parseB_range hp
    obtain ⟨A, c, rfl⟩ := own_slice hrow
    have hI := reads_ints hrow (fun x hx => inR_mk (by have := r1 x hx; omega)) (by omega)
    exact .inr ⟨p, n, A, c, rfl, hr, Rd.mono hI (fun k hk => (own_lt hrow k hk).1)⟩
def rightB (l : List UInt8) : Bool := (parseB l).isSome
set_option maxRecDepth 100000 in
theorem right_any (l : List UInt8) (hl : l.length ≤ 140737488355328) (w : World) (E : Env w) :
    Calls Tryz.prog 59 #[.string ⟨l.toArray⟩] w fun r w' => r = .returned (.bool (rightB l)) ∧ Mod (fun _ => False) w w' := by
  have hp := parse_rd l hl w E
  unfold rightB
  cases hb : parseB l with
  | none =>
    rw [hb] at hp
    go_enter Tryz.func59, Tryz.ntmps59
    go_wp2_with fail
    refine hp.mono ?_
    rintro e w1 ⟨hm, ⟨-, rfl⟩ | ⟨p, n, A, c, h, -⟩⟩
    · go_wp2_with fail
      go_ret
      exact ⟨rfl, hm⟩
    · cases h
  | some x =>
    rw [hb] at hp
    go_enter Tryz.func59, Tryz.ntmps59
    go_wp2_with fail
    refine hp.mono ?_
    rintro e w1 ⟨hm, ⟨h, -⟩ | ⟨p, n, A, c, h, rfl, -⟩⟩
    · cases h
    · have HM := Lib.hid hm; clear hm
      go_wp2_with fail
      go_ret
      exact ⟨rfl, HM.out⟩
def cmpL : List Int → List Int → Int
  | [], [] => 0
  | [], _ :: _ => -1
  | _ :: _, [] => 1
  | x :: xs, y :: ys => if x < y then -1 else if y < x then 1 else cmpL xs ys
set_option maxRecDepth 100000 in
theorem cmpLists_any (A : Option Addr) (c m : Nat) (A2 : Option Addr) (c2 m2 : Nat) (p q : List Int) (ok ok2 : Nat → Prop) (w : World) (h : intsR.rel w ok [.slice A m c] p) (h2 : intsR.rel w ok2 [.slice A2 m2 c2] q) :
    Calls Tryz.prog 128 #[.slice A m c, .slice A2 m2 c2] w fun r w' => r = .returned (.int .i64 (cmpL p q)) ∧ Mod (fun _ => False) w w' := by
  obtain ⟨rfl, hcap, -, hbig, -, hrow⟩ := ints_row h
  obtain ⟨rfl, hcap2, -, hbig2, -, hrow2⟩ := ints_row h2
  go_enter Tryz.func128, Tryz.ntmps128
  have H0 := Lib.hid (And.intro hrow hrow2); clear h h2 hrow hrow2
  go_wp2_with fail
  go_loopg [11] p.length (fun f si wr => ∃ i : Nat, si = .int .i64 i ∧ i + f = p.length ∧ i ≤ q.length ∧ cmpL p q = cmpL (p.drop i) (q.drop i) ∧ Mod (fun _ => False) w wr)
  case atStart => exact ⟨0, rfl, by omega, by omega, by simp, .refl _ _⟩
  case round =>
    obtain ⟨i, rfl, hi, hiq, hc, hmod⟩ := hrel
    by_cases hlt : i < p.length
    · have hx : p[i]? = some p[i] := by simp [hlt]
      obtain ⟨x, hxe⟩ : ∃ x, x = p[i] := ⟨_, rfl⟩
      rw [← hxe] at hx
      have hpd : p.drop i = x :: p.drop (i + 1) := by rw [List.drop_eq_getElem_cons hlt, ← hxe]
      obtain ⟨ad, rfl, -, hcx, -⟩ := RowOf.ints (H0.out.1.step (w1 := wr) (ok1 := ok) (fun k hk hl => ⟨hk, hmod.block k hl id⟩)) hx
      clear hxe hx
      rw [hpd] at hc
      by_cases hq : i < q.length
      · have hy : q[i]? = some q[i] := by simp [hq]
        obtain ⟨y, hye⟩ : ∃ y, y = q[i] := ⟨_, rfl⟩
        rw [← hye] at hy
        have hqd : q.drop i = y :: q.drop (i + 1) := by rw [List.drop_eq_getElem_cons hq, ← hye]
        obtain ⟨ad2, rfl, -, hcy, -⟩ := RowOf.ints (H0.out.2.step (w1 := wr) (ok1 := ok2) (fun k hk hl => ⟨hk, hmod.block k hl id⟩)) hy
        clear hye hy
        rw [hqd] at hc
        simp only [cmpL] at hc
        have HX := Lib.hid (And.intro hi (And.intro hiq (And.intro hmod hc))); clear hi hiq hmod hc hpd hqd
        go_wp2_with fail
        refine (Tryz.cmp_Compare_int x y wr).mono ?_
        rintro e w1 ⟨rfl, rfl⟩
        have hci : Lib.compareInt x y = if x < y then -1 else if y < x then 1 else 0 := rfl
        rw [hci]; clear hci
        by_cases h1 : x < y
        · rw [if_pos h1]
          go_wp2_with fail
          go_ret
          exact ⟨by rw [HX.out.2.2.2, if_pos h1]; rfl, HX.out.2.2.1⟩
        by_cases h2 : y < x
        · rw [if_neg h1, if_pos h2]
          go_wp2_with fail
          go_ret
          exact ⟨by rw [HX.out.2.2.2, if_neg (by omega), if_pos h2]; rfl, HX.out.2.2.1⟩
        rw [if_neg h1, if_neg h2]
        go_wp2_with fail
        go_roundg (gk - 1)
        case measure => have := HX.out.1; omega
        case rel => exact ⟨i + 1, by go_num, by have := HX.out.1; omega, by omega, by rw [HX.out.2.2.2, if_neg (by omega), if_neg (by omega)], HX.out.2.2.1⟩
      · rw [List.drop_eq_nil_of_le (by omega : q.length ≤ i)] at hc
        simp only [cmpL] at hc
        have HX := Lib.hid (And.intro hi (And.intro hiq (And.intro hmod hc))); clear hi hiq hmod hc hpd
        go_wp2_with fail
        go_ret
        exact ⟨by rw [HX.out.2.2.2]; rfl, HX.out.2.2.1⟩
    · rw [List.drop_eq_nil_of_le (by omega : p.length ≤ i)] at hc
      by_cases hq : p.length < q.length
      · have hqd : q.drop i = q[i] :: q.drop (i + 1) := List.drop_eq_getElem_cons (by omega)
        rw [hqd] at hc
        simp only [cmpL] at hc
        have HX := Lib.hid (And.intro hi (And.intro hiq (And.intro hmod hc))); clear hi hiq hmod hc hqd
        go_wp2_with fail
        go_ret
        exact ⟨by rw [HX.out.2.2.2]; rfl, HX.out.2.2.1⟩
      · rw [List.drop_eq_nil_of_le (by omega : q.length ≤ i)] at hc
        simp only [cmpL] at hc
        have HX := Lib.hid (And.intro hi (And.intro hiq (And.intro hmod hc))); clear hi hiq hmod hc
        go_wp2_with fail
        go_ret
        exact ⟨by rw [HX.out.2.2.2]; rfl, HX.out.2.2.1⟩
def cmpS (a b : List UInt8) : Int := if Op.bytesLess a b then -1 else if a = b then 0 else 1
set_option maxRecDepth 100000 in
theorem isNaN_str (a : ByteArray) (w : World) : Calls Tryz.prog 148 #[.string a] w fun r w' => r = .returned (.bool false) ∧ w' = w := by
  go_enter Tryz.func148, Tryz.ntmps148
  go_wp2_with fail
  go_ret
  exact ⟨rfl, rfl⟩
set_option maxRecDepth 100000 in
theorem cmpStr_any (a b : List UInt8) (w : World) : Calls Tryz.prog 126 #[.string ⟨a.toArray⟩, .string ⟨b.toArray⟩] w fun r w' => r = .returned (.int .i64 (cmpS a b)) ∧ Mod (fun _ => False) w w' := by
  go_enter Tryz.func126, Tryz.ntmps126
  go_wp2_with fail
  refine (isNaN_str _ w).mono ?_
  rintro e w1 ⟨rfl, rfl⟩
  go_wp2_with fail
  refine (isNaN_str _ _).mono ?_
  rintro e w1 ⟨rfl, rfl⟩
  go_wp2_with fail
  · rename_i h1
    go_ret
    exact ⟨by simp [cmpS, h1], .refl _ _⟩
  · rename_i h2
    have h1 : Op.bytesLess a b = false := by assumption
    go_ret
    refine ⟨?_, .refl _ _⟩
    have : a ≠ b := by rintro rfl; simp at h2
    simp [cmpS, h1, this]
  · rename_i h2
    have h1 : Op.bytesLess a b = false := by assumption
    go_ret
    refine ⟨?_, .refl _ _⟩
    have : a = b := by simpa using h2
    rw [this] at h1 ⊢
    simp [cmpS, h1]
set_option maxRecDepth 100000 in
theorem or2_any (x y : Int) (g : Nat) (w : World) (h0 : w.cell? ⟨g, 0, none⟩ = some (.int .i64 x)) (h1 : w.cell? ⟨g, 1, none⟩ = some (.int .i64 y)) : Calls Tryz.prog 127 #[.slice (some ⟨g, 0, none⟩) 2 2] w fun r w' => r = .returned (.int .i64 (if x = 0 then y else x)) ∧ Mod (fun _ => False) w w' := by
  go_enter Tryz.func127, Tryz.ntmps127
  by_cases hx : x = 0
  · subst hx
    by_cases hy : y = 0
    · subst hy
      go_wp2_with fail
      refine wp_loop_rounds 3 ?_
      rw [rounds_succ]
      go_wp2_with fail
      rw [rounds_succ]
      go_wp2_with fail
      rw [rounds_succ]
      go_wp2_with fail
      go_ret
      exact ⟨rfl, .refl _ _⟩
    · have hd : (y == 0) = false := by simpa using hy
      go_wp2_with fail
      refine wp_loop_rounds 2 ?_
      rw [rounds_succ]
      go_wp2_with fail
      rw [rounds_succ]
      go_wp2_with fail
      go_ret
      exact ⟨by simp, .refl _ _⟩
  · have hd : (x == 0) = false := by simpa using hx
    obtain ⟨z, hz⟩ : ∃ z, z = if x = 0 then y else x := ⟨_, rfl⟩
    rw [← hz]
    rw [if_neg hx] at hz
    have HZ := Lib.hid hz; clear hz
    go_wp2_with fail
    refine wp_loop_rounds 1 ?_
    rw [rounds_succ]
    go_wp2_with fail
    go_ret
    rw [HZ.out]
    exact ⟨rfl, .refl _ _⟩
/-- The order of two texts. -/
def cmpB (a b : List UInt8) : Int := match parseB a, parseB b with
  | none, none => cmpS a b
  | none, some _ => 1
  | some _, none => -1
  | some (p, m), some (q, n) => if cmpL p q = 0 then Lib.compareInt m n else cmpL p q
set_option maxRecDepth 100000 in
set_option maxHeartbeats 1000000 in
theorem compare_any (a b : List UInt8) (ha : a.length ≤ 140737488355328) (hb : b.length ≤ 140737488355328) (w : World) (E : Env w) :
    Calls Tryz.prog 105 #[.string ⟨a.toArray⟩, .string ⟨b.toArray⟩] w fun r w' => r = .returned (.int .i64 (cmpB a b)) ∧ Mod (fun _ => False) w w' := by
  obtain ⟨z, hz⟩ : ∃ z, z = cmpB a b := ⟨_, rfl⟩
  rw [← hz]
  unfold cmpB at hz
  have HZ := Lib.hid hz; clear hz
  have E0 := Lib.hid E; clear E
  go_enter Tryz.func105, Tryz.ntmps105
  go_wp2_with fail
  refine (parse_rd a ha w E0.out).mono ?_
  rintro r w1 ⟨hm1, hr1⟩
  have HM1 := Lib.hid hm1; clear hm1
  rcases hr1 with ⟨hpa, rfl⟩ | ⟨p, m, A, c, hpa, rfl, hp⟩
  · rw [hpa] at HZ
    have hbp := parse_rd b hb w1 (E0.out.mod0 HM1.out)
    go_wp2_with fail
    refine hbp.mono ?_
    rintro r w2 ⟨hm2, hr2⟩
    have HM2 := Lib.hid (tr0 HM1.out hm2); clear hm2
    rcases hr2 with ⟨hpb, rfl⟩ | ⟨q, n, A2, c2, hpb, rfl, hq⟩
    · rw [hpb] at HZ
      go_wp2_with fail
      refine (cmpStr_any a b w2).mono ?_
      rintro r w3 ⟨rfl, hm⟩
      have HM3 := Lib.hid (tr0 HM2.out hm); clear hm
      go_wp2_with fail
      go_ret
      exact ⟨by rw [HZ.out]; rfl, HM3.out⟩
    · rw [hpb] at HZ
      clear hq
      go_wp2_with fail
      go_ret
      exact ⟨by rw [HZ.out]; rfl, HM2.out⟩
  · rw [hpa] at HZ
    have hbp := parse_rd b hb w1 (E0.out.mod0 HM1.out)
    have HP := Lib.hid hp; clear hp
    go_wp2_with fail
    refine hbp.mono ?_
    rintro r w2 ⟨hm2, hr2⟩
    have HM2 := Lib.hid (And.intro (tr0 HM1.out hm2) (Rd.mod (Rd.bound HP.out) hm2 (fun _ _ => id))); clear hm2 HP
    rcases hr2 with ⟨hpb, rfl⟩ | ⟨q, n, A2, c2, hpb, rfl, hq⟩
    · rw [hpb] at HZ
      go_wp2_with fail
      go_ret
      exact ⟨by rw [HZ.out]; rfl, HM2.out.1⟩
    · rw [hpb] at HZ
      have HQ := Lib.hid hq; clear hq
      go_wp2_with fail
      refine (cmpLists_any A c _ A2 c2 _ p q _ _ w2 HM2.out.2 HQ.out).mono ?_
      rintro r w3 ⟨rfl, hm⟩
      have HM3 := Lib.hid (tr0 HM2.out.1 hm); clear hm
      go_wp2_with fail
      refine (Tryz.cmp_Compare_int m n w3).mono ?_
      rintro r w4 ⟨rfl, rfl⟩
      obtain ⟨x, hx⟩ : ∃ x, x = cmpL p q := ⟨_, rfl⟩
      obtain ⟨y, hy⟩ : ∃ y, y = Lib.compareInt m n := ⟨_, rfl⟩
      dsimp only
      rw [← hx, ← hy] at HZ ⊢
      clear hx hy
      go_wp2_with fail
      refine (or2_any x y w4.heap.size _ ?_ ?_).mono ?_
      · rw [Lib.cell_of_heap (World.alloc_heap_new w4 _)]; rfl
      · rw [Lib.cell_of_heap (World.alloc_heap_new w4 _)]; rfl
      rintro r w5 ⟨rfl, hm⟩
      have HM5 := Lib.hid (tr0 (HM3.out.alloc _) hm); clear hm
      rw [← HZ.out]
      go_wp2_with fail
      go_ret
      exact ⟨rfl, HM5.out⟩
end Go.Proofs.YthhepnaanjicjaaGreatDoor

/- Layer 5, cats: pure laws: a text is parsed into just what it names; the order of texts. -/
namespace Go.Proofs.YthhepnaanjicjaaGreatDoor
open Go.RowKit
set_option linter.unusedVariables false
def joinB : List (List UInt8) → List UInt8
  | [] => []
  | [x] => x
  | x :: y :: l => x ++ 46 :: joinB (y :: l)
theorem pathT_join : ∀ p : List Int, pathT p = joinB (p.map Lib.itoa)
  | [] => rfl
  | [k] => rfl
  | k :: b :: l => by
    have := pathT_join (b :: l)
    simp only [List.map_cons] at this ⊢
    rw [pathT, this]
    · rfl
    · simp
theorem join_split : ∀ l : List UInt8, joinB (splitB 46 l) = l
  | [] => rfl
  | b :: l => by
    have ih := join_split l
    by_cases hb : (b == 46) = true
    · rw [splitB_yes l hb]
      obtain rfl : b = 46 := by simpa using hb
      cases hs : splitB 46 l with
      | nil => exact absurd hs (splitB_ne 46 l)
      | cons q qs => rw [hs] at ih; simp [joinB, ih]
    · cases hs : splitB 46 l with
      | nil => exact absurd hs (splitB_ne 46 l)
      | cons q qs =>
        rw [splitB_no hb hs]
        rw [hs] at ih
        cases qs with
        | nil => simp only [joinB] at ih ⊢; rw [ih]
        | cons q2 qs => simp only [joinB] at ih ⊢; rw [List.cons_append, ih]
theorem split_append : ∀ (x l : List UInt8), 46 ∉ x → splitB 46 (x ++ 46 :: l) = x :: splitB 46 l
  | [], l, _ => splitB_yes l rfl
  | b :: x, l, h => by
    have hb : ¬ (b == (46 : UInt8)) = true := by
      intro hb; apply h; rw [show b = 46 by simpa using hb]; simp
    exact splitB_no hb (split_append x l (fun hm => h (by simp [hm])))
theorem split_none : ∀ (x : List UInt8), 46 ∉ x → splitB 46 x = [x]
  | [], _ => rfl
  | b :: x, h => by
    have hb : ¬ (b == (46 : UInt8)) = true := by
      intro hb; apply h; rw [show b = 46 by simpa using hb]; simp
    exact splitB_no hb (split_none x (fun hm => h (by simp [hm])))
theorem split_join : ∀ (xs : List (List UInt8)), xs ≠ [] → (∀ x ∈ xs, 46 ∉ x) → splitB 46 (joinB xs) = xs
  | [], h, _ => absurd rfl h
  | [x], _, h => split_none x (h x (by simp))
  | x :: y :: l, _, h => by
    rw [joinB, split_append x _ (h x (by simp)), split_join (y :: l) (by simp) (fun z hz => h z (List.mem_cons_of_mem _ hz))]
theorem pathS_map : ∀ (xs : List (List UInt8)) (acc p : List Int), pathS acc xs = some p → ∃ ks : List Int, p = acc ++ ks ∧ ks.map Lib.itoa = xs
  | [], acc, p, h => by simp only [pathS, Option.some.injEq] at h; exact ⟨[], by simp [h], rfl⟩
  | x :: xs, acc, p, h => by
    simp only [pathS] at h
    split at h
    · cases h
    · rename_i k hk
      split at h
      · cases h
      · obtain ⟨ks, h1, h2⟩ := pathS_map xs _ p h
        exact ⟨k :: ks, by rw [h1]; simp, by simp [h2, (numB_some hk).2.2]⟩
theorem pathS_ok : ∀ (ks acc : List Int), (∀ k ∈ ks, 0 ≤ k ∧ k ≤ 1048576) → acc.length + ks.length ≤ 6 → pathS acc (ks.map Lib.itoa) = some (acc ++ ks)
  | [], acc, _, _ => by simp [pathS]
  | k :: ks, acc, h, hl => by
    have hk := h k (by simp)
    simp only [List.length_cons] at hl
    simp only [List.map_cons, pathS, numB_itoa k 1048576 hk.1 hk.2 (by decide)]
    rw [if_neg (by omega), pathS_ok ks (acc ++ [k]) (fun x hx => h x (List.mem_cons_of_mem _ hx)) (by simp; omega)]
    simp
theorem dec_mem (u : Nat) : ∀ c ∈ Lib.decDigits u, 48 ≤ c.toNat ∧ c.toNat ≤ 57 := by
  have one : ∀ d, d < 10 → (UInt8.ofNat (48 + d)).toNat = 48 + d := fun d hd => by simp; omega
  rw [Lib.decDigits]
  split
  · rename_i h
    intro c hc; rw [List.mem_singleton.1 hc, one u h]; omega
  · intro c hc
    rcases List.mem_append.1 hc with hc | hc
    · exact dec_mem (u / 10) c hc
    · rw [List.mem_singleton.1 hc, one (u % 10) (by omega)]; omega
theorem itoa_mem {k : Int} (h : 0 ≤ k) : ∀ c ∈ Lib.itoa k, 48 ≤ c.toNat ∧ c.toNat ≤ 57 := by
  obtain ⟨u, rfl⟩ : ∃ u : Nat, k = u := ⟨k.toNat, by omega⟩
  rw [Lib.itoa_nonneg]; exact dec_mem u
theorem itoa_ne (k : Int) (h : 0 ≤ k) : Lib.itoa k ≠ [] := by
  obtain ⟨u, rfl⟩ : ∃ u : Nat, k = u := ⟨k.toNat, by omega⟩
  rw [Lib.itoa_nonneg]
  obtain ⟨c, r, h, _⟩ := dec_head u
  rw [h]; simp
theorem index_not : ∀ (l : List UInt8) (c : UInt8), c ∉ l → Lib.indexByte l c = -1
  | [], _, _ => rfl
  | b :: l, c, h => by
    unfold Lib.indexByte
    have hb : ¬ (b == c) = true := by intro hb; apply h; rw [show b = c by simpa using hb]; simp
    rw [if_neg hb, index_not l c (fun hm => h (by simp [hm]))]; rfl
theorem index_app : ∀ (x l : List UInt8) (c : UInt8), c ∉ x → Lib.indexByte (x ++ c :: l) c = x.length
  | [], l, c, _ => by unfold Lib.indexByte; simp
  | b :: x, l, c, h => by
    have hb : ¬ (b == c) = true := by intro hb; apply h; rw [show b = c by simpa using hb]; simp
    have := index_app x l c (fun hm => h (by simp [hm]))
    rw [List.cons_append]
    unfold Lib.indexByte
    rw [if_neg hb, this, if_neg (by simp)]
    simp
theorem cutB_app {x l : List UInt8} {c : UInt8} (h : c ∉ x) : cutB c (x ++ c :: l) = (x, l, true) := by
  unfold cutB
  rw [index_app x l c h, if_neg (by omega)]
  simp
theorem index_split {c : UInt8} : ∀ {l : List UInt8} {i : Nat}, Lib.indexByte l c = (i : Int) → l = l.take i ++ c :: l.drop (i + 1)
  | [], i, h => by simp [Lib.indexByte] at h
  | b :: l, i, h => by
    unfold Lib.indexByte at h
    by_cases hb : (b == c) = true
    · rw [if_pos hb] at h
      obtain rfl : i = 0 := by omega
      simp; simpa using hb
    · rw [if_neg hb] at h
      by_cases hi : (Lib.indexByte l c == -1) = true
      · rw [if_pos hi] at h; omega
      · rw [if_neg hi] at h
        have h3 := Lib.indexByte_ge l c
        have hi' : Lib.indexByte l c ≠ -1 := by simpa using hi
        have hj : Lib.indexByte l c = ((Lib.indexByte l c).toNat : Int) := by omega
        obtain ⟨j, hjj⟩ : ∃ j, j = (Lib.indexByte l c).toNat := ⟨_, rfl⟩
        rw [← hjj] at hj
        obtain rfl : i = j + 1 := by omega
        have := index_split hj
        simp only [List.take_succ_cons, List.drop_succ_cons, List.cons_append]
        rw [← this]
theorem cutB_yes {l : List UInt8} {c : UInt8} (h : (cutB c l).2.2 = true) : l = (cutB c l).1 ++ c :: (cutB c l).2.1 := by
  unfold cutB at h ⊢
  split
  · rename_i hi; rw [if_pos hi] at h; cases h
  · rename_i hi
    dsimp only
    have h0 := Lib.indexByte_ge l c
    have hj : Lib.indexByte l c = ((Lib.indexByte l c).toNat : Int) := by omega
    have h2 := index_split hj
    exact h2
theorem catT_parse {l : List UInt8} {p : List Int} {n : Int} (h : parseB l = some (p, n)) : catT p n = l := by
  unfold parseB parseC at h
  split at h
  · cases h
  · rename_i k hk
    have hkl := (numB_some hk).2.2
    split at h
    · cases h
    · rename_i hok
      have hc := cutB_yes (l := l) (c := 47) (by simpa using hok)
      split at h
      · rename_i hw
        simp only [Option.some.injEq, Prod.mk.injEq] at h
        obtain ⟨rfl, rfl⟩ := h
        rw [hw, ← hkl] at hc
        rw [hc]; rfl
      · rename_i hw
        cases hp : pathS [] (splitB 46 (cutB 47 l).1) with
        | none => rw [hp] at h; cases h
        | some q =>
          rw [hp] at h
          simp only [Option.map_some, Option.some.injEq, Prod.mk.injEq] at h
          obtain ⟨rfl, rfl⟩ := h
          obtain ⟨ks, h1, h2⟩ := pathS_map _ _ _ hp
          rw [List.nil_append] at h1
          subst h1
          unfold catT
          rw [pathT_join, h2, join_split, hkl, ← hc]
theorem fitsB_iff (p : List Int) (n : Int) : fitsB p n = true ↔ 0 ≤ n ∧ n ≤ 65535 ∧ p.length ≤ 6 ∧ ∀ k ∈ p, 0 ≤ k ∧ k ≤ 1048576 := by
  unfold fitsB
  simp only [Bool.and_eq_true, decide_eq_true_eq, List.all_eq_true]
  constructor
  · rintro ⟨⟨⟨a, b⟩, c⟩, d⟩; exact ⟨a, b, c, d⟩
  · rintro ⟨a, b, c, d⟩; exact ⟨⟨⟨a, b⟩, c⟩, d⟩
theorem pathT_mem : ∀ p : List Int, (∀ k ∈ p, 0 ≤ k) → ∀ c ∈ pathT p, c = 46 ∨ (48 ≤ c.toNat ∧ c.toNat ≤ 57)
  | [], _, c, h => by simp [pathT] at h
  | [k], hk, c, h => .inr (itoa_mem (hk k (by simp)) c h)
  | k :: b :: l, hk, c, h => by
    simp only [pathT] at h
    rcases List.mem_append.1 h with h | h
    · exact .inr (itoa_mem (hk k (by simp)) c h)
    · rcases List.mem_cons.1 h with h | h
      · exact .inl h
      · exact pathT_mem (b :: l) (fun x hx => hk x (List.mem_cons_of_mem _ hx)) c h
theorem pathT_nil {p : List Int} (hk : ∀ k ∈ p, 0 ≤ k) (h : pathT p = []) : p = [] := by
  match p, h with
  | [], _ => rfl
  | [k], h => exact absurd h (itoa_ne k (hk k (by simp)))
  | k :: b :: l, h => simp [pathT] at h
theorem parse_catT {p : List Int} {n : Int} (h : fitsB p n = true) : parseB (catT p n) = some (p, n) := by
  obtain ⟨h1, h2, h3, h4⟩ := (fitsB_iff p n).1 h
  have h0 : ∀ k ∈ p, 0 ≤ k := fun k hk => (h4 k hk).1
  have hno : (47 : UInt8) ∉ pathT p := fun hm => by
    rcases pathT_mem p h0 47 hm with h | h
    · exact absurd h (by decide)
    · exact absurd h.1 (by decide)
  unfold parseB catT
  rw [cutB_app hno]
  unfold parseC
  rw [numB_itoa n 65535 h1 h2 (by decide)]
  dsimp only
  rw [if_neg (by simp)]
  by_cases hp : pathT p = []
  · rw [if_pos hp, pathT_nil h0 hp]
  · rw [if_neg hp]
    have hpn : p ≠ [] := by rintro rfl; exact hp rfl
    have hs : splitB 46 (pathT p) = p.map Lib.itoa := by
      rw [pathT_join]
      refine split_join _ (by simpa using hpn) ?_
      intro x hx hm
      obtain ⟨k, hk, rfl⟩ := List.mem_map.1 hx
      exact absurd (itoa_mem (h0 k hk) 46 hm).1 (by decide)
    rw [hs, pathS_ok p [] h4 (by simpa using h3)]
    rfl
/-- Parse finds just what is named. -/
theorem parse_iff {l : List UInt8} {p : List Int} {n : Int} : parseB l = some (p, n) ↔ fitsB p n = true ∧ catT p n = l := by
  constructor
  · intro h
    obtain ⟨a, b, c, d⟩ := parseB_range h
    exact ⟨(fitsB_iff p n).2 ⟨c, d, b, a⟩, catT_parse h⟩
  · rintro ⟨h1, rfl⟩
    exact parse_catT h1
theorem parse_inj {a b : List UInt8} {x : List Int × Int} (h1 : parseB a = some x) (h2 : parseB b = some x) : a = b := by
  obtain ⟨p, n⟩ := x
  rw [← catT_parse h1, ← catT_parse h2]
/-! the order -/
theorem cmpL_self : ∀ p : List Int, cmpL p p = 0
  | [] => rfl
  | x :: p => by simp [cmpL, cmpL_self p]
theorem cmpL_zero : ∀ p q : List Int, cmpL p q = 0 → p = q
  | [], [], _ => rfl
  | [], _ :: _, h => by simp [cmpL] at h
  | _ :: _, [], h => by simp [cmpL] at h
  | x :: p, y :: q, h => by
    simp only [cmpL] at h
    split at h
    · cases h
    · split at h
      · cases h
      · rw [show x = y by omega, cmpL_zero p q h]
theorem cmpL_val : ∀ p q : List Int, cmpL p q = -1 ∨ cmpL p q = 0 ∨ cmpL p q = 1
  | [], [] => by simp [cmpL]
  | [], _ :: _ => by simp [cmpL]
  | _ :: _, [] => by simp [cmpL]
  | x :: p, y :: q => by
    simp only [cmpL]
    split
    · simp
    · split
      · simp
      · exact cmpL_val p q
theorem cmpL_neg : ∀ p q : List Int, cmpL q p = -cmpL p q
  | [], [] => by simp [cmpL]
  | [], _ :: _ => by simp [cmpL]
  | _ :: _, [] => by simp [cmpL]
  | x :: p, y :: q => by
    simp only [cmpL]
    by_cases h1 : x < y
    · rw [if_neg (by omega), if_pos h1, if_pos h1]; rfl
    · by_cases h2 : y < x
      · rw [if_pos h2, if_neg h1, if_pos h2]
      · rw [if_neg h2, if_neg h1, if_neg h1, if_neg h2]; exact cmpL_neg p q
theorem cmpL_trans : ∀ p q r : List Int, cmpL p q ≤ 0 → cmpL q r ≤ 0 → cmpL p r ≤ 0 ∧ (cmpL p r = 0 → cmpL p q = 0 ∧ cmpL q r = 0)
  | [], [], [], _, _ => by simp [cmpL]
  | [], [], _ :: _, _, _ => by simp [cmpL]
  | [], _ :: _, [], _, h => by simp [cmpL] at h
  | [], _ :: _, _ :: _, _, _ => by simp [cmpL]
  | _ :: _, [], _, h, _ => by simp [cmpL] at h
  | _ :: _, _ :: _, [], _, h => by simp [cmpL] at h
  | x :: p, y :: q, z :: r, h1, h2 => by
    have ih := cmpL_trans p q r
    simp only [cmpL] at h1 h2 ⊢
    by_cases a : x < y <;> by_cases b : y < x <;> by_cases c : y < z <;> by_cases d : z < y <;> simp only [a, b, c, d, if_true, if_false] at h1 h2 ⊢ <;> first
      | omega
      | (rw [if_pos (by omega)]; simp)
      | (rw [if_neg (by omega), if_neg (by omega)]; exact ih h1 h2)
theorem cmpS_eq (a b : List UInt8) : cmpS a b = if a < b then -1 else if a = b then 0 else 1 := by
  unfold cmpS
  rw [bytesLess_eq]
  simp
theorem ltL_irrefl (a : List UInt8) : ¬ a < a := List.lt_irrefl a
theorem ltL_trans {a b c : List UInt8} (h1 : a < b) (h2 : b < c) : a < c := List.lt_trans h1 h2
theorem ltL_tri (a b : List UInt8) (h : ¬ a < b) (hne : a ≠ b) : b < a := by
  by_cases h2 : b < a
  · exact h2
  · exact absurd (List.le_antisymm (List.not_lt.1 h2) (List.not_lt.1 h)) hne
theorem cmpS_neg (a b : List UInt8) : cmpS b a = -cmpS a b := by
  rw [cmpS_eq, cmpS_eq]
  by_cases he : a = b
  · subst he; simp [ltL_irrefl]
  · by_cases h : a < b
    · have h2 : ¬ b < a := fun h2 => ltL_irrefl a (ltL_trans h h2)
      simp [h, h2, Ne.symm he]
    · have h2 := ltL_tri a b h he
      simp [h, h2, he]
theorem cmpS_zero {a b : List UInt8} (h : cmpS a b = 0) : a = b := by
  rw [cmpS_eq] at h
  split at h
  · cases h
  · split at h
    · assumption
    · cases h
theorem cmpS_trans {a b c : List UInt8} (h1 : cmpS a b ≤ 0) (h2 : cmpS b c ≤ 0) : cmpS a c ≤ 0 := by
  have g : ∀ x y : List UInt8, cmpS x y ≤ 0 ↔ x < y ∨ x = y := fun x y => by
    rw [cmpS_eq]
    by_cases h : x < y
    · simp [h]
    · by_cases he : x = y
      · simp [he]; split <;> simp
      · simp [h, he]
  rw [g] at h1 h2 ⊢
  rcases h1 with h1 | rfl
  · rcases h2 with h2 | rfl
    · exact .inl (ltL_trans h1 h2)
    · exact .inl h1
  · exact h2
theorem cmpI_neg (x y : Int) : Lib.compareInt y x = -Lib.compareInt x y := by
  unfold Lib.compareInt
  by_cases h1 : x < y
  · rw [if_neg (by omega), if_pos (by omega), if_pos h1]; rfl
  · by_cases h2 : y < x
    · rw [if_pos h2, if_neg h1, if_pos (by omega)]
    · rw [if_neg h2, if_neg (by omega), if_neg h1, if_neg (by omega)]; rfl
theorem cmpI_zero {x y : Int} (h : Lib.compareInt x y = 0) : x = y := by
  unfold Lib.compareInt at h
  split at h
  · cases h
  · split at h
    · cases h
    · omega
theorem cmpI_le {x y : Int} : Lib.compareInt x y ≤ 0 ↔ x ≤ y := by
  unfold Lib.compareInt
  split
  · simp; omega
  · split
    · simp; omega
    · simp; omega
theorem cmpB_neg (a b : List UInt8) : cmpB b a = -cmpB a b := by
  unfold cmpB
  cases ha : parseB a with
  | none =>
    cases hb : parseB b with
    | none => exact cmpS_neg a b
    | some y => rfl
  | some x =>
    cases hb : parseB b with
    | none => rfl
    | some y =>
      obtain ⟨p, m⟩ := x
      obtain ⟨q, n⟩ := y
      dsimp only
      rw [cmpL_neg p q]
      by_cases h : cmpL p q = 0
      · rw [if_pos (by omega), if_pos h, cmpI_neg]
      · rw [if_neg (by omega), if_neg h]
theorem cmpB_zero {a b : List UInt8} (h : cmpB a b = 0) : a = b := by
  unfold cmpB at h
  cases ha : parseB a with
  | none =>
    cases hb : parseB b with
    | none => rw [ha, hb] at h; exact cmpS_zero h
    | some y => rw [ha, hb] at h; cases h
  | some x =>
    cases hb : parseB b with
    | none => rw [ha, hb] at h; cases h
    | some y =>
      obtain ⟨p, m⟩ := x
      obtain ⟨q, n⟩ := y
      rw [ha, hb] at h
      dsimp only at h
      split at h
      · rename_i hc
        have := cmpL_zero p q hc
        have := cmpI_zero h
        subst_vars
        exact parse_inj ha hb
      · contradiction
theorem cmpB_self (a : List UInt8) : cmpB a a = 0 := by have := cmpB_neg a a; omega
theorem cmpB_trans {a b c : List UInt8} (h1 : cmpB a b ≤ 0) (h2 : cmpB b c ≤ 0) : cmpB a c ≤ 0 := by
  unfold cmpB at h1 h2 ⊢
  cases ha : parseB a <;> cases hb : parseB b <;> cases hc : parseB c <;> simp only [ha, hb, hc] at h1 h2 ⊢ <;> first
    | exact cmpS_trans h1 h2
    | omega
    | skip
  rename_i x y z
  obtain ⟨p, m⟩ := x
  obtain ⟨q, n⟩ := y
  obtain ⟨r, k⟩ := z
  dsimp only at h1 h2 ⊢
  have g1 : cmpL p q ≤ 0 := by split at h1 <;> omega
  have g2 : cmpL q r ≤ 0 := by split at h2 <;> omega
  obtain ⟨t1, t2⟩ := cmpL_trans p q r g1 g2
  split
  · rename_i h0
    obtain ⟨u1, u2⟩ := t2 h0
    rw [if_pos u1] at h1
    rw [if_pos u2] at h2
    rw [cmpI_le] at h1 h2 ⊢
    omega
  · exact t1
end Go.Proofs.YthhepnaanjicjaaGreatDoor

/- Values of many cells: how they are loaded, laid, stored, appended. No program in it. -/
namespace Go.Proofs.YthhepnaanjicjaaGreatDoor
open Go.RowKit
set_option linter.unusedVariables false
section
variable {P : Program} {ops : Array Oper} {rest : List Oper} {o : Oper} {a : Act} {Q : Exit → Act → World → Prop} {w : World}
theorem run_loadVar_agg {T : TypeId} {fs : Array Field} (hu : P.underlying T = some (.struct fs)) {n : Nat} (hi : (P.info? T).map (·.size) = some n) {ad : Addr} {cs : List Value} (hl : cs.length = n) (hc : ∀ i u, cs[i]? = some u → w.cell? (ad.add i) = some u) :
    (loadVar T ad).run P w = .ok (.agg cs.toArray) w := by
  have h1 := run_loadCells_list (P := P) w ad cs hc
  cases hq : P.info? T with
  | none => simp [hq] at hi
  | some i =>
    have hs : i.size = cs.length := by simpa [hq, hl] using hi
    have hagg : (isAgg T).run P w = .ok true w := by
      unfold isAgg
      rw [Sem.run_bind, run_underlying hu w]
      simp
    simp [loadVar, Sem.run_bind, hagg, sizeOf, typeInfo, hq, hs, h1]
/-- a struct is loaded -/
theorem wpList_load_agg (hgd : o.guard = none) (T : TypeId) (x : Operand) (ho : o.op = .load T x) {fs : Array Field} (hu : P.underlying T = some (.struct fs)) {n : Nat} (hi : (P.info? T).map (·.size) = some n) (ad : Addr) (hx : a.eval x = .pointer (some ad)) (cs : List Value) (hl : cs.length = n)
    (hc : ∀ i u, cs[i]? = some u → w.cell? (ad.add i) = some u) (h : wpList P ops Q rest (a.put o.dst (.agg cs.toArray)) w) : wpList P ops Q (o :: rest) a w := by
  refine wpList_plain hgd fun K hK => ?_
  unfold Oper.wp execOp
  simp only [ho, hx, Instr.loadAt, Instr.sureAddr, Sem.run_bind, Sem.run_pure, Result.andThen_ok, run_loadVar_agg hu hi hl hc]
  exact hK _ _ h
/-- a struct variable is laid -/
theorem wpList_alloc_agg (hgd : o.guard = none) (T : TypeId) (ho : o.op = .alloc T) (Z : Array Value) (hz : (P.info? T).map (·.zero) = some (some (.agg Z))) (h : wpList P ops Q rest (a.put o.dst (.pointer (some ⟨w.heap.size, 0, none⟩))) (w.alloc (.cells Z T))) : wpList P ops Q (o :: rest) a w := by
  refine wpList_plain hgd fun K hK => ?_
  unfold Oper.wp execOp
  cases hq : P.info? T with
  | none => simp [hq] at hz
  | some i =>
    have hzz : i.zero = some (.agg Z) := by simpa [hq] using hz
    have hzv : (zeroValue T).run P w = .ok (.agg Z) w := by simp [zeroValue, typeInfo, hq, hzz]
    have hnv : (newVar T (.agg Z)).run P w = .ok ⟨w.heap.size, 0, none⟩ (w.alloc (.cells Z T)) := by
      simp [newVar, newRow, Value.cells]
    simp only [ho, Instr.alloc, Sem.run_bind, Sem.run_pure, Result.andThen_ok, hzv, hnv]
    exact hK _ _ h
/-- a struct is stored into the variable that was just laid -/
theorem wpList_store_new (hgd : o.guard = none) (T : TypeId) (x y : Operand) (ho : o.op = .store T x y) (T0 : TypeId) (old : Array Value) (cs : List Value) (hx : a.eval x = .pointer (some ⟨w.heap.size, 0, none⟩)) (hy : a.eval y = .agg cs.toArray)
    (hi : (P.info? T).map (·.size) = some cs.length) (hold : old.size = cs.length) (h1 : ∀ u ∈ cs, u.oneCell' = true) (h : wpList P ops Q rest (a.put o.dst undef) (w.alloc (.cells cs.toArray T0))) : wpList P ops Q (o :: rest) a (w.alloc (.cells old T0)) := by
  have hw : (w.alloc (.cells old T0)).setRow w.heap.size cs.toArray = w.alloc (.cells cs.toArray T0) := by
    exact World.setRow_alloc_new w old cs.toArray T0
  refine wpList_plain hgd fun K hK => ?_
  refine wp_store_row T x y ho w.heap.size cs.toArray hx hy T0 old (heap_alloc_new w _) (by simpa using hi) (by simpa using hold) (by rw [Array.all_eq_true_iff_forall_mem]; intro u hu; exact h1 u (by simpa using hu)) ?_
  rw [hw]
  exact hK _ _ h
/-- a struct is stored into a variable -/
theorem wpList_store_agg (hgd : o.guard = none) (T : TypeId) (x y : Operand) (ho : o.op = .store T x y) (g : Nat) (T0 : TypeId) (old : Array Value) (cs : List Value) (hg : w.heap[g]? = some (.cells old T0 (0, 0))) (hx : a.eval x = .pointer (some ⟨g, 0, none⟩)) (hy : a.eval y = .agg cs.toArray)
    (hi : (P.info? T).map (·.size) = some cs.length) (hold : old.size = cs.length) (h1 : ∀ u ∈ cs, u.oneCell' = true) (h : wpList P ops Q rest (a.put o.dst undef) (w.setRow g cs.toArray)) : wpList P ops Q (o :: rest) a w := by
  refine wpList_plain hgd fun K hK => ?_
  refine wp_store_row T x y ho g cs.toArray hx hy T0 old hg (by simpa using hi) (by simpa using hold) (by rw [Array.all_eq_true_iff_forall_mem]; intro u hu; exact h1 u (by simpa using hu)) ?_
  exact hK _ _ h
theorem fold_set (cs : List Value) : ∀ (k : Nat) (l : List Value), k + cs.length ≤ l.length → ((cs.zipIdx k).foldl (fun (l : List Value) (p : Value × Nat) => l.set p.2 p.1) l) = l.take k ++ cs ++ l.drop (k + cs.length) := by
  induction cs with
  | nil => intro k l _; simp
  | cons c cs ih =>
    intro k l hl
    simp only [List.length_cons] at hl
    rw [List.zipIdx_cons, List.foldl_cons, ih (k + 1) _ (by rw [List.length_set]; omega)]
    simp only [List.length_cons]
    have e1 : (l.set k c).take (k + 1) = l.take k ++ [c] := by
      rw [List.take_add_one, List.take_set_of_le (by omega), List.getElem?_set_self (by omega)]; rfl
    have e2 : (l.set k c).drop (k + 1 + cs.length) = l.drop (k + (cs.length + 1)) := by
      rw [List.drop_set_of_lt (by omega)]; congr 1; omega
    rw [e1, e2]; simp
theorem fold_arr (L : List (Value × Nat)) : ∀ (z : Array Value), (L.foldl (fun (cs : Array Value) (p : Value × Nat) => cs.setIfInBounds (0 + p.2) p.1) z).toList = L.foldl (fun (l : List Value) (p : Value × Nat) => l.set p.2 p.1) z.toList := by
  induction L with
  | nil => intro z; rfl
  | cons p L ih => intro z; rw [List.foldl_cons, List.foldl_cons, ih]; simp
/-- []T{x}, x a struct -/
theorem wpList_slice1_agg (hgd : o.guard = none) (T e : TypeId) (x : Operand) (ho : o.op = .buildSlice T 1 #[(0, x)]) (ht : P.underlying T = some (.slice e)) (Z : Array Value) (cs : List Value) (hinfo : (P.info? e).map (fun i => (i.zero, i.size)) = some (some (.agg Z), cs.length)) (hn : 0 < cs.length ∧ cs.length ≤ 1000) (hZ : Z.size = cs.length)
    (hx : a.eval x = .agg cs.toArray) (h : wpList P ops Q rest (a.put o.dst (.slice (some ⟨w.heap.size, 0, none⟩) 1 1)) (w.alloc (.cells cs.toArray e))) : wpList P ops Q (o :: rest) a w := by
  refine wpList_plain hgd fun K hK => ?_
  obtain ⟨i, hi, hzz⟩ := Option.map_eq_some_iff.1 hinfo
  simp only [Prod.mk.injEq] at hzz
  obtain ⟨hz, hs⟩ := hzz
  have hfill : ∀ z : Array Value, z.size = cs.length → Instr.fill (fun i => some (i * cs.length, cs.length)) z [(0, .agg cs.toArray)] = some cs.toArray := by
    intro z hzs
    have e1 : (cs.toArray.zipIdx.foldl (fun (r : Array Value) (p : Value × Nat) => r.setIfInBounds (0 + p.2) p.1) z) = cs.toArray := by
      apply Array.ext'
      rw [← Array.foldl_toList, fold_arr, Array.toList_zipIdx]
      rw [fold_set cs 0 z.toList (by simp [hzs])]
      simp [hzs]
    simp only [Instr.fill, Value.cells, Nat.zero_mul]
    simp [hzs] at e1 ⊢
    exact e1
  have hrun : (Instr.buildSlice T 1 #[(0, .agg cs.toArray)]).run P w = .ok (.slice (some ⟨w.heap.size, 0, none⟩) 1 1) (w.alloc (.cells cs.toArray e)) := by
    have h1 : ¬ (2 ^ 24 < 1 * cs.length) := by omega
    have h2 : ¬ (1 * cs.length = 0) := by omega
    have hf := hfill ((Array.range (1 * cs.length)).map (fun k => (Value.agg Z).cells[k % (Value.agg Z).cells.size]!)) (by simp)
    simp only [Instr.buildSlice, Sem.run_bind, run_underlying ht, Result.andThen_ok]
    simp [sizeOf, typeInfo, zeroValue, hi, hz, hs, newRow] at hf ⊢
    rw [if_neg (by omega), if_neg (by intro e; simp [e] at hn), hf]
    simp
  unfold Oper.wp execOp
  simp only [ho, List.map_toArray, List.map_cons, List.map_nil, hx, Sem.run_bind, hrun, Result.andThen_ok, Sem.run_pure]
  exact hK _ _ h
theorem run_newVar_agg (T : TypeId) (Z : Array Value) : (newVar T (.agg Z)).run P w = .ok ⟨w.heap.size, 0, none⟩ (w.alloc (.cells Z T)) := by
  simp [newVar, newRow, Value.cells]
/-- a struct's variable is laid with its value -/
theorem wpList_box_agg (hgd : o.guard = none) (T : TypeId) (x : Operand) (ho : o.op = .box T x) (Z : Array Value) (hx : a.eval x = .agg Z) (h : wpList P ops Q rest (a.put o.dst (.pointer (some ⟨w.heap.size, 0, none⟩))) (w.alloc (.cells Z T))) : wpList P ops Q (o :: rest) a w := by
  refine wpList_plain hgd fun K hK => ?_
  unfold Oper.wp execOp
  simp only [ho, Instr.box, Sem.run_bind, Sem.run_pure, Result.andThen_ok, hx, run_newVar_agg]
  exact hK _ _ h
/-- the same, the world behind it a variable -/
theorem wpList_box_new (hgd : o.guard = none) (T : TypeId) (x : Operand) (ho : o.op = .box T x) (cs : List Value) (hx : a.eval x = .agg cs.toArray)
    (h : ∀ g w1, w.heap.size ≤ g → w1.heap[g]? = some (.cells cs.toArray T (0, 0)) → (∀ S : Nat → Prop, Mod S w w1) → wpList P ops Q rest (a.put o.dst (.pointer (some ⟨g, 0, none⟩))) w1) : wpList P ops Q (o :: rest) a w :=
  wpList_box_agg hgd T x ho cs.toArray hx (h _ _ (Nat.le_refl _) (heap_alloc_new w _) fun S => (Mod.refl S w).alloc _)
theorem wpList_alloc_new (hgd : o.guard = none) (T : TypeId) (ho : o.op = .alloc T) (Z : List Value) (hz : (P.info? T).map (·.zero) = some (some (.agg Z.toArray)))
    (h : ∀ g w1, w.heap.size ≤ g → w1.heap[g]? = some (.cells Z.toArray T (0, 0)) → (∀ S : Nat → Prop, Mod S w w1) → wpList P ops Q rest (a.put o.dst (.pointer (some ⟨g, 0, none⟩))) w1) : wpList P ops Q (o :: rest) a w :=
  wpList_alloc_agg hgd T ho Z.toArray hz (h _ _ (Nat.le_refl _) (heap_alloc_new w _) fun S => (Mod.refl S w).alloc _)
theorem heap_setRow_self {g : Nat} {T : TypeId} {old cs : Array Value} {fr : Nat × Nat} (h : w.heap[g]? = some (.cells old T fr)) : (w.setRow g cs).heap[g]? = some (.cells cs T fr) := by
  unfold World.setRow
  simp [Array.getElem?_modify, h]
theorem Mod.setRow {S : Nat → Prop} {w w1 : World} (h : Mod S w w1) {g : Nat} (hg : S g ∨ w.heap.size ≤ g) (cs : Array Value) : Mod S w (w1.setRow g cs) :=
  h.trans (T := fun k => k = g) ⟨rfl, rfl, rfl, by simp, fun k _ hk => setRow_other w1 g k cs (fun e => hk e)⟩ (by rintro k rfl; exact hg)
/-- a struct is stored into a variable, the world behind it a variable -/
theorem wpList_store_var (hgd : o.guard = none) (T : TypeId) (x y : Operand) (ho : o.op = .store T x y) (g : Nat) (T0 : TypeId) (old cs : List Value) (hg : w.heap[g]? = some (.cells old.toArray T0 (0, 0))) (hx : a.eval x = .pointer (some ⟨g, 0, none⟩)) (hy : a.eval y = .agg cs.toArray)
    (hi : (P.info? T).map (·.size) = some cs.length) (hold : old.length = cs.length) (h1 : ∀ u ∈ cs, u.oneCell' = true)
    (h : ∀ w1, w1.heap[g]? = some (.cells cs.toArray T0 (0, 0)) → Mod (fun k => k = g) w w1 → wpList P ops Q rest (a.put o.dst undef) w1) : wpList P ops Q (o :: rest) a w :=
  wpList_store_agg hgd T x y ho g T0 old.toArray cs hg hx hy hi (by simpa using hold) h1 (h _ (heap_setRow_self hg) ((Mod.refl (fun k => k = g) w).setRow (.inl rfl) _))
/-- load, then a new variable with it: 'for _, m := range l' -/
theorem wpList_copy_var {o1 o2 o3 : Oper} (g1 : o1.guard = none) (g2 : o2.guard = none) (g3 : o3.guard = none) (T : TypeId) (x y z : Operand) (ho1 : o1.op = .load T x) (ho2 : o2.op = .alloc T) (ho3 : o3.op = .store T y z)
    {fs : Array Field} (hu : P.underlying T = some (.struct fs)) {n : Nat} (Z : List Value) (hinfo : (P.info? T).map (fun i => (i.zero, i.size)) = some (some (.agg Z.toArray), n)) (hZ : Z.length = n)
    (ad : Addr) (hx : a.eval x = .pointer (some ad)) (cs : List Value) (hl : cs.length = n) (h1 : ∀ u ∈ cs, u.oneCell' = true) (hc : ∀ i u, cs[i]? = some u → w.cell? (ad.add i) = some u)
    (hy : ∀ v p, ((a.put o1.dst v).put o2.dst p).eval y = p) (hz : ∀ v p, ((a.put o1.dst v).put o2.dst p).eval z = v)
    (h : ∀ g w1, w.heap.size ≤ g → w1.heap[g]? = some (.cells cs.toArray T (0, 0)) → (∀ S : Nat → Prop, Mod S w w1) → wpList P ops Q rest (((a.put o1.dst (.agg cs.toArray)).put o2.dst (.pointer (some ⟨g, 0, none⟩))).put o3.dst undef) w1) : wpList P ops Q (o1 :: o2 :: o3 :: rest) a w := by
  obtain ⟨i, hi, hzz⟩ := Option.map_eq_some_iff.1 hinfo
  simp only [Prod.mk.injEq] at hzz
  have hsz : (P.info? T).map (·.size) = some n := by rw [hi]; simp [hzz.2]
  have hzr : (P.info? T).map (·.zero) = some (some (.agg Z.toArray)) := by rw [hi]; simp [hzz.1]
  refine wpList_load_agg g1 T x ho1 hu hsz ad hx cs hl hc ?_
  refine wpList_alloc_agg g2 T ho2 Z.toArray hzr ?_
  refine wpList_store_new g3 T y z ho3 T Z.toArray cs (hy _ _) (hz _ _) (by rw [hsz, hl]) (by simp [hZ, hl]) h1 ?_
  exact h _ _ (Nat.le_refl _) (heap_alloc_new w _) fun S => (Mod.refl S w).alloc _
theorem wpStill_load_agg {K : Act → Prop} (T : TypeId) (x : Operand) (ho : o.op = .load T x) {fs : Array Field} (hu : P.underlying T = some (.struct fs)) {n : Nat} (hi : (P.info? T).map (·.size) = some n) (ad : Addr) (hx : a.eval x = .pointer (some ad)) (cs : List Value) (hl : cs.length = n)
    (hc : ∀ i u, cs[i]? = some u → w.cell? (ad.add i) = some u) (h : K (a.put o.dst (.agg cs.toArray))) : o.still P a w K := by
  unfold Oper.still execOp
  simp only [ho, hx, Instr.loadAt, Instr.sureAddr, Sem.run_bind, Sem.run_pure, Result.andThen_ok, run_loadVar_agg hu hi hl hc]
  exact ⟨rfl, h⟩
/-- append(v, y), y of whatever kind; behind 'at_builtin', the list of one just laid -/
theorem append_rd {α : Type} {R : Rd α} {W : World} (base : Nat) (hgd : o.guard = none) (s x : Operand) (t e : TypeId) (z : Value) (bytes : Nat)
    (ho : o.op = .call { callee := .builtin .append, args := #[s, x], argTypes := #[t, t] })
    (ht : P.underlying t = some (.slice e)) (hinfo : (P.info? e).map (fun i => (i.zero, i.size, i.bytes)) = some (some z, R.sz, bytes)) (hz : z.cells.size = R.sz) (hb0 : 0 < bytes)
    (v : Value) (xs : List α) (y : α) (cs : List Value) (S : Nat → Prop) (hs : a.eval s = v) (hx : a.eval x = .slice (some ⟨W.heap.size, 0, none⟩) 1 1)
    (HO : OwnR R e W base S v xs) (hy : R.rel W (fun k => S k ∧ some k ≠ v.ownBlock) cs y) (hbase : base ≤ W.heap.size) (hl : (xs.length + 1) * bytes ≤ 140737488355328)
    (h : ∀ A c w1, OwnR R e w1 base S (.slice A (xs.length + 1) c) (xs ++ [y]) → Mod (fun k => v.ownBlock = some k) W w1 → NewOr W v (.slice A (xs.length + 1) c) → wpList P ops Q rest (a.put o.dst (.slice A (xs.length + 1) c)) w1) :
    wpList P ops Q (o :: rest) a (W.alloc (.cells cs.toArray e)) := by
  obtain ⟨i0, hi, hzz⟩ := Option.map_eq_some_iff.1 hinfo
  simp only [Prod.mk.injEq] at hzz
  obtain ⟨hz0, hz1, hz2⟩ := hzz
  obtain ⟨cells, hown, hread⟩ := HO
  have hlen : xs.length + 1 ≤ 140737488355328 := Nat.le_trans (Nat.le_mul_of_pos_right _ hb0) hl
  have hcs := R.len hy
  refine wpList_append_own_at (W.alloc (.cells cs.toArray e)) hgd s x t ho base e i0 z R.sz bytes ht hi hz0 hz1 hz2 hz R.pos v xs.length cells hs (hown.alloc _) ⟨W.heap.size, 0, none⟩ 1 1 cs hx (by omega)
    (World.news_of_block (cs := cs.toArray) (t := e) (fr := (0, 0)) (heap_alloc_new W _)) (R.one hy) (by simp only [maxLen]; omega) hl (by simp; omega) ?_
  intro v1 w1 hown1 hg _ hat
  obtain ⟨A, c, rfl⟩ := own_slice hown1
  have hn : NewOr W v (.slice A (xs.length + 1) c) := by
    rcases hat with hat | hat
    · exact .inl hat
    · exact .inr ⟨_, hat, by simp⟩
  have hg' : W.grownBy w1 v.ownBlock := World.grownBy.trans (World.grownBy_alloc W _ _) hg
  refine h A c w1 ?_ ((Mod.refl (fun k => v.ownBlock = some k) W).grown hg' (fun k hk => .inl hk.symm)) hn
  exact OwnR.snoc hread (by rw [hown.1]) hy (by simpa using hown1) hg' hn
/-- past a label that no goto names -/
theorem wp_label_seq {l : Nat} {y : Code} (h : y.wp P Q a w) : (Code.seq (Code.label l) y).wp P Q a w := wp_seq (wp_label h)
theorem quiet_eq {f : FuncId} {args : Array Value} {n : Nat} {v : Value} (h : Calls P f args (w.drewN n) fun e w' => e = .returned v ∧ w.drewN n = w') : Calls P f args (w.drewN n) fun e w'' => e = .returned v ∧ ∃ m, w'' = w.drewN m :=
  h.mono fun _ _ ⟨he, hm⟩ => ⟨he, n, hm.symm⟩
theorem add_own (g o i : Nat) : (⟨g, o, none⟩ : Addr).add i = ⟨g, o + i, none⟩ := by unfold Addr.add; split <;> simp_all
theorem agg_at (g i : Nat) : (⟨g, 0, none⟩ : Addr).add i = ⟨g, i, none⟩ := by unfold Addr.add; split <;> simp_all
theorem run_load_blk {T : TypeId} {fs : Array Field} (hu : P.underlying T = some (.struct fs)) {g : Nat} {T0 : TypeId} {cs : List Value} {fr : Nat × Nat} (hi : (P.info? T).map (·.size) = some cs.length) (hg : w.heap[g]? = some (.cells cs.toArray T0 fr)) :
    (loadVar T ⟨g, 0, none⟩).run P w = .ok (.agg cs.toArray) w :=
  run_loadVar_agg hu hi rfl (fun i u h => by rw [agg_at, cell_of_blk hg]; simpa using h)
/-- a struct is handed back -/
theorem results_agg {fn : Func} {p : Tmp} {T : TypeId} {fs : Array Field} (h : fn.results = #[.cell p T]) (tmps : Array Value) (w : World) (g : Nat) (T0 : TypeId) (cs : List Value) (fr : Nat × Nat)
    (hp : tmps.getD p undef = .pointer (some ⟨g, 0, none⟩)) (hg : w.heap[g]? = some (.cells cs.toArray T0 fr)) (hu : P.underlying T = some (.struct fs)) (hi : (P.info? T).map (·.size) = some cs.length) :
    (results fn tmps).run P w = .ok (.agg cs.toArray) w := by
  have hp' : tmps[p]?.getD undef = .pointer (some ⟨g, 0, none⟩) := by simpa using hp
  simp [results, h, hp', asAddr, run_load_blk hu hi hg]
/-- a struct and one more -/
theorem results_agg2 {fn : Func} {p q : Tmp} {T : TypeId} {fs : Array Field} (h : fn.results = #[.cell p T, .tmp q]) (tmps : Array Value) (w : World) (g : Nat) (T0 : TypeId) (cs : List Value) (fr : Nat × Nat)
    (hp : tmps.getD p undef = .pointer (some ⟨g, 0, none⟩)) (hg : w.heap[g]? = some (.cells cs.toArray T0 fr)) (hu : P.underlying T = some (.struct fs)) (hi : (P.info? T).map (·.size) = some cs.length) :
    (results fn tmps).run P w = .ok (.tuple #[.agg cs.toArray, tmps.getD q undef]) w := by
  have hp' : tmps[p]?.getD undef = .pointer (some ⟨g, 0, none⟩) := by simpa using hp
  simp [results, h, hp', asAddr, run_load_blk hu hi hg]
theorem wpStill_agg {Qs : Act → Prop} (hw : Region.wanted o (yielded ops a.tmps) = true) (T : TypeId) (x : Operand) (ho : o.op = .load T x) {fs : Array Field} (hu : P.underlying T = some (.struct fs)) {n : Nat} (hi : (P.info? T).map (·.size) = some n) (ad : Addr) (hx : a.eval x = .pointer (some ad)) (cs : List Value) (hl : cs.length = n)
    (hc : ∀ i u, cs[i]? = some u → w.cell? (ad.add i) = some u) (h : wpStill P ops w Qs rest (a.put o.dst (.agg cs.toArray))) : wpStill P ops w Qs (o :: rest) a :=
  wpStill_step fun K hK => by rw [if_pos hw]; exact wpStill_load_agg T x ho hu hi ad hx cs hl hc (hK _ h)
/-- T{..}, T a struct -/
theorem wpList_build (hgd : o.guard = none) (T : TypeId) (parts : Array (Nat × Operand)) (ho : o.op = .build T parts) (vals : Array (Nat × Value)) (hv : parts.map (fun (i, x) => (i, a.eval x)) = vals) (Z : Array Value)
    (hr : P.built T vals.toList = some Z) (h : wpList P ops Q rest (a.put o.dst (.agg Z)) w) : wpList P ops Q (o :: rest) a w := by
  refine wpList_plain hgd fun K hK => ?_
  unfold Oper.wp execOp
  simp only [ho, hv, Sem.run_bind, run_build w T vals Z hr, Result.andThen_ok, Sem.run_pure]
  exact hK _ _ h
/-- a struct is loaded by a guarded operation -/
theorem wpList_load_aggw (hw : Region.wanted o (yielded ops a.tmps) = true) (T : TypeId) (x : Operand) (ho : o.op = .load T x) {fs : Array Field} (hu : P.underlying T = some (.struct fs)) {n : Nat} (hi : (P.info? T).map (·.size) = some n) (ad : Addr) (hx : a.eval x = .pointer (some ad)) (cs : List Value) (hl : cs.length = n)
    (hc : ∀ i u, cs[i]? = some u → w.cell? (ad.add i) = some u) (h : wpList P ops Q rest (a.put o.dst (.agg cs.toArray)) w) : wpList P ops Q (o :: rest) a w := by
  refine BigFrame.wpList_want hw fun K hK => ?_
  unfold Oper.wp execOp
  simp only [ho, hx, Instr.loadAt, Instr.sureAddr, Sem.run_bind, Sem.run_pure, Result.andThen_ok, run_loadVar_agg hu hi hl hc]
  exact hK _ _ h
end
end Go.Proofs.YthhepnaanjicjaaGreatDoor

/- Rows of the call's own whose elements are structs: append of a whole list, copy. No program in it. -/
namespace Go.Proofs.YthhepnaanjicjaaGreatDoor
open Go.RowKit
set_option linter.unusedVariables false
namespace Rd
variable {α : Type} {R : Rd α}
/-- The cells of a row that is read, in one list. -/
theorem RowOf.flat {w : World} {ok : Nat → Prop} {ad : Addr} : ∀ (xs : List α) (m : Nat), (∀ j x, xs[j]? = some x → ∃ c, R.rel w ok c x ∧ ∀ i u, c[i]? = some u → w.cell? (ad.add (m + (j * R.sz + i))) = some u) →
    ∃ cells : List Value, cells.length = xs.length * R.sz ∧ (∀ i u, cells[i]? = some u → w.cell? (ad.add (m + i)) = some u) ∧ (∀ u ∈ cells, u.oneCell' = true) ∧ ∀ j x, xs[j]? = some x → R.rel w ok ((cells.drop (j * R.sz)).take R.sz) x
  | [], m, _ => ⟨[], by simp, by simp, by simp, by simp⟩
  | x :: xs, m, h => by
    obtain ⟨c, hc1, hc2⟩ := h 0 x rfl
    have hl := R.len hc1
    obtain ⟨cells, h1, h2, h3, h4⟩ := RowOf.flat xs (m + R.sz) (fun j y hj => by
      obtain ⟨c', q1, q2⟩ := h (j + 1) y (by simpa using hj)
      refine ⟨c', q1, fun i u hu => ?_⟩
      have := q2 i u hu
      rwa [show m + ((j + 1) * R.sz + i) = m + R.sz + (j * R.sz + i) by rw [Nat.add_mul]; omega] at this)
    refine ⟨c ++ cells, by simp only [List.length_append, h1, hl, List.length_cons, Nat.add_mul]; omega, fun i u hu => ?_, fun u hu => ?_, fun j y hj => ?_⟩
    · by_cases hi : i < c.length
      · rw [List.getElem?_append_left hi] at hu
        have := hc2 i u hu
        simpa using this
      · rw [List.getElem?_append_right (by omega)] at hu
        have := h2 (i - c.length) u hu
        rwa [show m + R.sz + (i - c.length) = m + i by omega] at this
    · rcases List.mem_append.1 hu with hu | hu
      · exact R.one hc1 u hu
      · exact h3 u hu
    · cases j with
      | zero =>
        have : x = y := by simpa using hj
        subst this
        rw [Nat.zero_mul, List.drop_zero, List.take_append_of_le_length (by omega), List.take_of_length_le (by omega)]
        exact hc1
      | succ j =>
        have := h4 j y (by simpa using hj)
        rw [show (j + 1) * R.sz = c.length + j * R.sz by rw [Nat.add_mul]; omega, ← List.drop_drop, List.drop_left]
        exact this
theorem RowOf.weak {w : World} {ok : Nat → Prop} {A : Option Addr} {xs : List α} (h : R.RowOf w ok A xs) : xs = [] ∨ ∃ ad, A = some ad ∧ ∀ j x, xs[j]? = some x → ∃ c, R.rel w ok c x ∧ ∀ i u, c[i]? = some u → w.cell? (ad.add (j * R.sz + i)) = some u :=
  h.imp id (fun ⟨ad, h1, _, h3⟩ => ⟨ad, h1, h3⟩)
end Rd
/-- elements behind one another -/
theorem drop_take_left {A B : List Value} {j s n : Nat} (hA : A.length = n * s) (hj : j < n) : ((A ++ B).drop (j * s)).take s = (A.drop (j * s)).take s := by
  have h1 : j * s + s ≤ A.length := by rw [hA, ← Nat.succ_mul]; exact Nat.mul_le_mul_right _ hj
  rw [List.drop_append_of_le_length (by omega), List.take_append_of_le_length (by rw [List.length_drop]; omega)]
theorem drop_take_right {A B : List Value} {j s n : Nat} (hA : A.length = n * s) (hj : n ≤ j) : ((A ++ B).drop (j * s)).take s = (B.drop ((j - n) * s)).take s := by
  obtain ⟨d, rfl⟩ : ∃ d, j = n + d := ⟨j - n, by omega⟩
  rw [Nat.add_mul, ← hA, ← List.drop_drop, List.drop_left, Nat.add_sub_cancel_left]
section
variable {P : Program} {ops : Array Oper} {rest : List Oper} {o : Oper} {a : Act} {Q : Exit → Act → World → Prop} {w : World} {α : Type} {R : Rd α}
theorem OwnR.one {e : TypeId} {base : Nat} {S : Nat → Prop} {v : Value} {xs : List α} (h : OwnR R e w base S v xs) :
    ∃ cells, w.ownsRow base e R.sz v xs.length cells ∧ (∀ j x, xs[j]? = some x → R.rel w (fun k => S k ∧ some k ≠ v.ownBlock) ((cells.drop (j * R.sz)).take R.sz) x) ∧ ∀ u ∈ cells, u.oneCell' = true := by
  obtain ⟨cells, h1, h2⟩ := h
  refine ⟨cells, h1, h2, fun u hu => ?_⟩
  obtain ⟨i, hi⟩ := List.getElem?_of_mem hu
  have hil := (List.getElem?_eq_some_iff.1 hi).1
  rw [h1.1] at hil
  have hp := R.pos
  have hj : i / R.sz < xs.length := Nat.div_lt_of_lt_mul (by rw [Nat.mul_comm]; exact hil)
  have hrel := h2 (i / R.sz) xs[i / R.sz] (List.getElem?_eq_getElem hj)
  refine R.one hrel u ?_
  refine List.mem_of_getElem? (i := i % R.sz) ?_
  rw [List.getElem?_take_of_lt (Nat.mod_lt _ hp), List.getElem?_drop, Nat.div_add_mod']
  exact hi
/-- append(v, ys...) -/
theorem append_all (base : Nat) (hgd : o.guard = none) (s x : Operand) (t e : TypeId) (z : Value) (bytes : Nat)
    (ho : o.op = .call { callee := .builtin .append, args := #[s, x], argTypes := #[t, t] })
    (ht : P.underlying t = some (.slice e)) (hinfo : (P.info? e).map (fun i => (i.zero, i.size, i.bytes)) = some (some z, R.sz, bytes)) (hz : z.cells.size = R.sz)
    (v : Value) (xs ys : List α) (S : Nat → Prop) (A0 : Option Addr) (c0 : Nat) (hs : a.eval s = v) (hx : a.eval x = .slice A0 ys.length c0)
    (HO : OwnR R e w base S v xs) (hy : ys = [] ∨ ∃ ad, A0 = some ad ∧ ∀ j x, ys[j]? = some x → ∃ c, R.rel w (fun k => S k ∧ some k ≠ v.ownBlock) c x ∧ ∀ i u, c[i]? = some u → w.cell? (ad.add (j * R.sz + i)) = some u) (hA0 : A0 = none → c0 = 0) (hbase : base ≤ w.heap.size) (hl : (xs.length + ys.length) * bytes ≤ 140737488355328) (hb0 : 0 < bytes)
    (h : ∀ A c w1, OwnR R e w1 base S (.slice A (xs.length + ys.length) c) (xs ++ ys) → Mod (fun k => v.ownBlock = some k) w w1 → NewOr w v (.slice A (xs.length + ys.length) c) → wpList P ops Q rest (a.put o.dst (.slice A (xs.length + ys.length) c)) w1) :
    wpList P ops Q (o :: rest) a w := by
  obtain ⟨i0, hi, hzz⟩ := Option.map_eq_some_iff.1 hinfo
  simp only [Prod.mk.injEq] at hzz
  obtain ⟨hz0, hz1, hz2⟩ := hzz
  obtain ⟨cells, hown, hread⟩ := HO
  have hlen : xs.length + ys.length ≤ 140737488355328 := Nat.le_trans (Nat.le_mul_of_pos_right _ hb0) hl
  cases A0 with
  | none =>
    have hy0 : ys = [] := by
      rcases hy with h | ⟨ad, hA, _⟩
      · exact h
      · cases hA
    subst hy0
    obtain rfl := hA0 rfl
    refine wpList_append_own_none hgd s x t ho base e i0 R.sz ht hi v xs.length cells hs hown hx ?_
    obtain ⟨A, c, rfl⟩ := own_slice hown
    exact h A c w (by rw [List.append_nil]; exact ⟨cells, hown, hread⟩) (Mod.refl (fun k => (Value.slice A xs.length c).ownBlock = some k) w) (.inl rfl)
  | some ad =>
    obtain ⟨cs, hcl, hcell, hone, hrel⟩ := Rd.RowOf.flat (R := R) (w := w) (ok := fun k => S k ∧ some k ≠ v.ownBlock) (ad := ad) ys 0 (by
      rcases hy with rfl | ⟨ad', hA, h⟩
      · intro j x hj; simp at hj
      · cases hA
        intro j x hj
        obtain ⟨c, h1, h2⟩ := h j x hj
        exact ⟨c, h1, fun i u hu => by rw [Nat.zero_add]; exact h2 i u hu⟩)
    refine wpList_append_own_at w hgd s x t ho base e i0 z R.sz bytes ht hi hz0 hz1 hz2 hz R.pos v xs.length cells hs hown ad ys.length c0 cs hx hcl (fun i u hu => by simpa using hcell i u hu) hone (by simp only [maxLen]; omega) hl hbase ?_
    intro v1 w1 hown1 hg _ hat
    obtain ⟨A, c, rfl⟩ := own_slice hown1
    have hn : NewOr w v (.slice A (xs.length + ys.length) c) := by
      rcases hat with hat | hat
      · exact .inl hat
      · exact .inr ⟨_, hat, Nat.le_refl _⟩
    refine h A c w1 ?_ ((Mod.refl (fun k => v.ownBlock = some k) w).grown hg (fun k hk => .inl hk.symm)) hn
    have hm : ∀ k, (S k ∧ some k ≠ v.ownBlock) → k < w.heap.size → (S k ∧ some k ≠ (Value.slice A (xs.length + ys.length) c).ownBlock) ∧ w1.heap[k]? = w.heap[k]? := by
      rintro k ⟨hk, hne⟩ hlt
      exact ⟨⟨hk, fun e => hn.ne hlt (fun e2 => hne e2.symm) e.symm⟩, hg.block k hlt hne⟩
    refine ⟨cells ++ cs, by simpa using hown1, fun j y hj => ?_⟩
    by_cases hj' : j < xs.length
    · rw [List.getElem?_append_left hj'] at hj
      rw [drop_take_left hown.1 hj']
      exact R.step hm (hread j y hj)
    · rw [List.getElem?_append_right (by omega)] at hj
      rw [drop_take_right hown.1 (by omega)]
      exact R.step hm (hrel _ y hj)
/-- cs over cur from off on; a name, so that the walk leaves it -/
def laid (cur : List Value) (off : Nat) (cs : List Value) : List Value := cur.take off ++ cs ++ cur.drop (off + cs.length)
/-- copy(dst, src), elements of k cells, dst in a row that is known whole -/
theorem run_copy_k (dT sT ty elem : TypeId) (k : Nat) (g off dLen dCap : Nat) (ad : Addr) (sLen sCap : Nat) (cur : Array Value) (t : TypeId) (cs : List Value)
    (hu : P.underlying dT = some (.slice elem)) (hs : (P.info? elem).map (·.size) = some k)
    (hg : w.heap[g]? = some (.cells cur t (0, 0))) (hn : cs.length = Nat.min sLen dLen * k)
    (hsrc : ∀ j v, cs[j]? = some v → w.cell? (ad.add j) = some v) (hfit : off + cs.length ≤ cur.size) (h1 : ∀ v ∈ cs, v.oneCell' = true) :
    (Builtin.copy_ #[dT, sT] ty #[.slice (some ⟨g, off, none⟩) dLen dCap, .slice (some ad) sLen sCap]).run P w =
      .ok (goInt (Nat.min sLen dLen)) (w.setRow g (cur.toList.take off ++ cs ++ cur.toList.drop (off + cs.length)).toArray) := by
  have hl := run_loadCells_list (P := P) w ad cs hsrc
  have hst := run_storeCells_at P g off t cs 0 cur w hg (by simpa using hfit) h1
  cases hq : P.info? elem with
  | none => simp [hq] at hs
  | some i =>
    have hi : i.size = k := by simpa [hq] using hs
    simp [Builtin.copy_, run_underlying hu, Builtin.lenOf, Builtin.firstCells, sizeOf, typeInfo, hq, hi, ← hn, hl, hst]
theorem wpList_copy_k (hgd : o.guard = none) (d s : Operand) (dT sT : TypeId)
    (ho : o.op = .call { callee := .builtin .copy, args := #[d, s], argTypes := #[dT, sT] }) (elem : TypeId) (k : Nat) (hu : P.underlying dT = some (.slice elem)) (hsz : (P.info? elem).map (·.size) = some k)
    (g off dLen dCap : Nat) (ad : Addr) (sLen sCap : Nat) (hd : a.eval d = .slice (some ⟨g, off, none⟩) dLen dCap) (hs : a.eval s = .slice (some ad) sLen sCap)
    (cur : List Value) (t : TypeId) (hg : w.heap[g]? = some (.cells cur.toArray t (0, 0))) (cs : List Value) (hn : cs.length = Nat.min sLen dLen * k)
    (hsrc : ∀ j v, cs[j]? = some v → w.cell? (ad.add j) = some v) (hfit : off + cs.length ≤ cur.length) (h1 : ∀ v ∈ cs, v.oneCell' = true)
    (h : ∀ w1, w1.heap[g]? = some (.cells (laid cur off cs).toArray t (0, 0)) → Mod (fun k => k = g) w w1 → wpList P ops Q rest (a.put o.dst (goInt (Nat.min sLen dLen))) w1) : wpList P ops Q (o :: rest) a w := by
  refine wpList_plain hgd fun K hK => ?_
  have hrun := run_copy_k (P := P) (w := w) dT sT o.type elem k g off dLen dCap ad sLen sCap cur.toArray t cs hu hsz hg hn hsrc (by simpa using hfit) h1
  unfold Oper.wp
  simp [execOp, ho, resolve, invoke, builtin, hd, hs, hrun, Result.andThen]
  refine hK _ _ (h _ ?_ ((Mod.refl (fun k => k = g) w).setRow (.inl rfl) _))
  rw [heap_setRow_self hg]
  simp [laid]
/-- s[l:], the address not looked at -/
theorem slice_low {t e : TypeId} (ht : P.underlying t = some (.slice e)) (hi : (P.info? e).isSome = true) (A : Option Addr) (n c l : Nat) (hl : l ≤ n) : ∃ X, ∀ W, (Instr.slice t (.slice A n c) (some (.int .i64 (l : Nat))) none none).run P W = .ok (.slice X (n - l) (c - l)) W := by
  obtain ⟨i, hq⟩ := Option.isSome_iff_exists.1 hi
  refine ⟨if c = l then A else A.map (·.add (l * i.size)), fun W => ?_⟩
  simp [Instr.slice, run_underlying ht, Instr.sliceBounds, Instr.sliceBound, asIntOf, sizeOf, typeInfo, hq, hl]
theorem slice_low_own {t e : TypeId} (ht : P.underlying t = some (.slice e)) {k : Nat} (hi : (P.info? e).map (·.size) = some k) (g n c l : Nat) (hl : l ≤ n) (hc : c ≠ l) (v : Int) (hv : v = (l : Int)) :
    ∀ W, (Instr.slice t (.slice (some ⟨g, 0, none⟩) n c) (some (.int .i64 v)) none none).run P W = .ok (.slice (some ⟨g, l * k, none⟩) (n - l) (c - l)) W := by
  subst hv
  obtain ⟨i, hq, h2⟩ := Option.map_eq_some_iff.1 hi
  intro W
  simp [Instr.slice, run_underlying ht, Instr.sliceBounds, Instr.sliceBound, asIntOf, sizeOf, typeInfo, hq, hl, hc, h2, agg_at]
end
end Go.Proofs.YthhepnaanjicjaaGreatDoor

/- Rows of the call's own whose elements are structs: an element is stored, the end is cleared. No program in it. -/
namespace Go.Proofs.YthhepnaanjicjaaGreatDoor
open Go.RowKit
set_option linter.unusedVariables false
section
variable {P : Program} {ops : Array Oper} {rest : List Oper} {o : Oper} {a : Act} {Q : Exit → Act → World → Prop} {w : World}
theorem run_cells_laid {g off : Nat} {t : TypeId} {cs cur : List Value} (hg : w.heap[g]? = some (.cells cur.toArray t (0, 0))) (hfit : off + cs.length ≤ cur.length) (h1 : ∀ v ∈ cs, v.oneCell' = true) :
    (storeCells ⟨g, off, none⟩ cs 0).run P w = .ok () (w.setRow g (laid cur off cs).toArray) := by
  have := run_storeCells_at P g off t cs 0 cur.toArray w hg (by simpa using hfit) h1
  simpa [laid] using this
/-- s[i] = x, x a struct -/
theorem wpList_store_at (hgd : o.guard = none) (T : TypeId) (x y : Operand) (ho : o.op = .store T x y) (g off : Nat) (T0 : TypeId) (cur cs : List Value) (hg : w.heap[g]? = some (.cells cur.toArray T0 (0, 0))) (hx : a.eval x = .pointer (some ⟨g, off, none⟩)) (hy : a.eval y = .agg cs.toArray)
    (hi : (P.info? T).map (·.size) = some cs.length) (hfit : off + cs.length ≤ cur.length) (h1 : ∀ u ∈ cs, u.oneCell' = true)
    (h : ∀ w1, w1.heap[g]? = some (.cells (laid cur off cs).toArray T0 (0, 0)) → Mod (fun k => k = g) w w1 → wpList P ops Q rest (a.put o.dst undef) w1) : wpList P ops Q (o :: rest) a w := by
  refine wpList_plain hgd fun K hK => ?_
  obtain ⟨i, hq, h2⟩ := Option.map_eq_some_iff.1 hi
  have hst := run_cells_laid (P := P) hg hfit h1
  have hrun : (storeVar T ⟨g, off, none⟩ (.agg cs.toArray)).run P w = .ok () (w.setRow g (laid cur off cs).toArray) := by
    simp [storeVar, Sem.run_bind, sizeOf, typeInfo, hq, Value.cells, h2, hst]
  unfold Oper.wp execOp
  simp only [ho, hx, hy, Instr.storeAt, Instr.sureAddr, Sem.run_bind, Sem.run_pure, Result.andThen_ok, hrun]
  refine hK _ _ (h _ ?_ ((Mod.refl (fun k => k = g) w).setRow (.inl rfl) _))
  rw [heap_setRow_self hg]
/-- clear(s), s the end of a row that is known whole -/
theorem wpList_clear (hgd : o.guard = none) (s : Operand) (dT : TypeId) (ho : o.op = .call { callee := .builtin .clear, args := #[s], argTypes := #[dT] }) (elem : TypeId) (Z : List Value) (hu : P.underlying dT = some (.slice elem)) (hz : (P.info? elem).map (·.zero) = some (some (.agg Z.toArray))) (hZ1 : ∀ u ∈ Z, u.oneCell' = true) (hZ0 : 0 < Z.length)
    (g off n c : Nat) (hs : a.eval s = .slice (some ⟨g, off, none⟩) n c) (cur : List Value) (t : TypeId) (hg : w.heap[g]? = some (.cells cur.toArray t (0, 0))) (hfit : off + n * Z.length ≤ cur.length)
    (h : ∀ w1 zs, zs.length = n * Z.length → w1.heap[g]? = some (.cells (laid cur off zs).toArray t (0, 0)) → Mod (fun k => k = g) w w1 → wpList P ops Q rest (a.put o.dst (.tuple #[])) w1) : wpList P ops Q (o :: rest) a w := by
  refine wpList_plain hgd fun K hK => ?_
  obtain ⟨i, hq, h2⟩ := Option.map_eq_some_iff.1 hz
  have hlen : (Builtin.zeroCells Z.toArray n).toList.length = n * Z.length := by rw [Array.length_toList, size_zeroCells, List.size_toArray]
  have hone : ∀ v ∈ (Builtin.zeroCells Z.toArray n).toList, v.oneCell' = true := by
    intro v hv
    simp only [Builtin.zeroCells, Array.toList_map, List.mem_map] at hv
    obtain ⟨k, _, rfl⟩ := hv
    refine hZ1 _ ?_
    have : k % Z.toArray.size < Z.length := by simp; exact Nat.mod_lt _ hZ0
    rw [getElem!_pos Z.toArray _ (by simpa using this)]
    simp
  have hst := run_cells_laid (P := P) hg (by rw [hlen]; exact hfit) hone
  have hrun : (Builtin.clear_ #[dT] o.type #[.slice (some ⟨g, off, none⟩) n c]).run P w = .ok (.tuple #[]) (w.setRow g (laid cur off (Builtin.zeroCells Z.toArray n).toList).toArray) := by
    cases n with
    | zero =>
      have he : (Builtin.zeroCells Z.toArray 0).toList = [] := List.eq_nil_of_length_eq_zero (by rw [hlen]; omega)
      have hl : laid cur off [] = cur := by simp [laid]
      rw [he, hl, setRow_self w g cur.toArray t (0, 0) hg]
      simp [Builtin.clear_, run_underlying hu]
    | succ n =>
      simp [Builtin.clear_, run_underlying hu, zeroValue, typeInfo, hq, h2, Value.cells, hst]
  unfold Oper.wp
  simp [execOp, ho, resolve, invoke, builtin, hs, hrun, Result.andThen]
  refine hK _ _ (h _ _ hlen ?_ ((Mod.refl (fun k => k = g) w).setRow (.inl rfl) _))
  rw [heap_setRow_self hg]
end
end Go.Proofs.YthhepnaanjicjaaGreatDoor

/- Layer 5, cats: rows of strings; what Sort takes out (slices.IndexFunc, DeleteFunc). -/
namespace Go.Proofs.YthhepnaanjicjaaGreatDoor
open Go.RowKit Go.Shelf
set_option linter.unusedVariables false
def scells (l : List (List UInt8)) : List Value := l.map encS
theorem scells_len (l : List (List UInt8)) : (scells l).length = l.length := by simp [scells]
theorem scells_app (l m : List (List UInt8)) : scells (l ++ m) = scells l ++ scells m := by simp [scells]
theorem setCell_row {W : World} {g : Nat} {row : List Value} {T : TypeId} (h : W.heap[g]? = some (.cells row.toArray T (0, 0))) (i : Nat) (v : Value) : (W.setCell ⟨g, i, none⟩ v).heap[g]? = some (.cells (row.set i v).toArray T (0, 0)) := by
  simp [World.setCell, Array.getElem?_modify, h]
section
variable {P : Program} {ops : Array Oper} {rest : List Oper} {o : Oper} {a : Act} {Q : Exit → Act → World → Prop} {w : World}
/-- clear(s), its elements of one cell. -/
theorem wpList_clear_one (hgd : o.guard = none) (s : Operand) (dT : TypeId) (ho : o.op = .call { callee := .builtin .clear, args := #[s], argTypes := #[dT] }) (elem : TypeId) (z : Value) (hu : P.underlying dT = some (.slice elem)) (hz : (P.info? elem).map (·.zero) = some (some z)) (hzc : z.cells = #[z]) (hz1 : z.oneCell' = true)
    (g off n c : Nat) (hs : a.eval s = .slice (some ⟨g, off, none⟩) n c) (cur : List Value) (t : TypeId) (hg : w.heap[g]? = some (.cells cur.toArray t (0, 0))) (hfit : off + n ≤ cur.length)
    (h : ∀ w1 zs, zs.length = n → w1.heap[g]? = some (.cells (laid cur off zs).toArray t (0, 0)) → Mod (fun k => k = g) w w1 → wpList P ops Q rest (a.put o.dst (.tuple #[])) w1) : wpList P ops Q (o :: rest) a w := by
  refine wpList_plain hgd fun K hK => ?_
  obtain ⟨i, hq, h2⟩ := Option.map_eq_some_iff.1 hz
  have hlen : (Builtin.zeroCells #[z] n).toList.length = n := by rw [Array.length_toList, size_zeroCells]; simp
  have hone : ∀ v ∈ (Builtin.zeroCells #[z] n).toList, v.oneCell' = true := by
    intro v hv
    simp only [Builtin.zeroCells, Array.toList_map, List.mem_map] at hv
    obtain ⟨k, _, rfl⟩ := hv
    rw [getElem!_pos #[z] _ (by simp [Nat.mod_one])]
    simpa [Nat.mod_one] using hz1
  have hst := run_cells_laid (P := P) hg (by rw [hlen]; exact hfit) hone
  have hrun : (Builtin.clear_ #[dT] o.type #[.slice (some ⟨g, off, none⟩) n c]).run P w = .ok (.tuple #[]) (w.setRow g (laid cur off (Builtin.zeroCells #[z] n).toList).toArray) := by
    cases n with
    | zero =>
      have he : (Builtin.zeroCells #[z] 0).toList = [] := List.eq_nil_of_length_eq_zero (by rw [hlen])
      have hl : laid cur off [] = cur := by simp [laid]
      rw [he, hl, setRow_self w g cur.toArray t (0, 0) hg]
      simp [Builtin.clear_, run_underlying hu]
    | succ n =>
      simp [Builtin.clear_, run_underlying hu, zeroValue, typeInfo, hq, h2, hzc, hst]
  unfold Oper.wp
  simp [execOp, ho, resolve, invoke, builtin, hs, hrun, Result.andThen]
  refine hK _ _ (h _ _ hlen ?_ ((Mod.refl (fun k => k = g) w).setRow (.inl rfl) _))
  rw [heap_setRow_self hg]
end
set_option maxRecDepth 100000 in
theorem out_any (l : List UInt8) (hl : l.length ≤ 140737488355328) (w : World) (E : Env w) :
    Calls Tryz.prog 103 #[encS l] w fun r w' => r = .returned (.bool (!rightB l)) ∧ Mod (fun _ => False) w w' := by
  unfold encS
  go_enter Tryz.func103, Tryz.ntmps103
  go_wp2_with fail
  refine (right_any l hl w E).mono ?_
  rintro r w1 ⟨rfl, hm⟩
  have H := Lib.hid hm; clear hm
  go_wp2_with fail
  go_ret
  exact ⟨rfl, H.out⟩
/-- Where the first that is not right stands. -/
def badI (l : List (List UInt8)) : Int := match l.findIdx? (fun x => !rightB x) with
  | none => -1
  | some i => i
set_option maxRecDepth 100000 in
set_option maxHeartbeats 1000000 in
theorem indexFunc_any (g c : Nat) (l : List (List UInt8)) (w : World) (hc : ∀ j x, l[j]? = some x → w.cell? ⟨g, j, none⟩ = some (encS x)) (hcap : l.length ≤ c) (hln : l.length ≤ 8796093022208) (hx : ∀ x ∈ l, x.length ≤ 140737488355328) (E : Env w) :
    Calls Tryz.prog 101 #[.slice (some ⟨g, 0, none⟩) l.length c, .func (.func 103) #[] #[]] w fun r w' => r = .returned (.int .i64 (badI l)) ∧ Mod (fun _ => False) w w' := by
  obtain ⟨z, hz⟩ : ∃ z, z = badI l := ⟨_, rfl⟩
  rw [← hz]
  have HZ := Lib.hid (And.intro hz (And.intro hc (And.intro hx E))); clear hz hc hx E
  go_enter Tryz.func101, Tryz.ntmps101
  go_wp2_with fail
  go_loopg [8] l.length (fun f si wr => ∃ i : Nat, si = .int .i64 i ∧ i + f = l.length ∧ (∀ x ∈ l.take i, rightB x = true) ∧ Mod (fun _ => False) w wr)
  case atStart => exact ⟨0, rfl, by omega, by simp, .refl _ _⟩
  case round =>
    obtain ⟨i, rfl, hi, hr, hmod⟩ := hrel
    by_cases hlt : i < l.length
    · obtain ⟨x, hx⟩ : ∃ x, l[i]? = some x := ⟨l[i], by simp [hlt]⟩
      have hcx : wr.cell? ⟨g, i, none⟩ = some (encS x) := (hmod.cell (cell_lt (HZ.out.2.1 i x hx)) id).trans (HZ.out.2.1 i x hx)
      have hxl := HZ.out.2.2.1 x (List.mem_of_getElem? hx)
      have HX := Lib.hid (And.intro hi (And.intro hr (And.intro hmod hx))); clear hi hr hmod hx
      go_wp2_with fail
      refine (out_any x hxl wr (HZ.out.2.2.2.mod0 HX.out.2.2.1)).mono ?_
      rintro r w1 ⟨rfl, hm⟩
      have HM := Lib.hid (tr0 HX.out.2.2.1 hm); clear hm
      cases hb : rightB x with
      | true =>
        go_wp2_with fail
        go_roundg (gk - 1)
        case measure => have := HX.out.1; omega
        case rel =>
          refine ⟨i + 1, by go_num, by have := HX.out.1; omega, ?_, HM.out⟩
          rw [List.take_add_one, HX.out.2.2.2]
          intro y hy
          rcases List.mem_append.1 hy with hy | hy
          · exact HX.out.2.1 y hy
          · simp at hy; rw [hy]; exact hb
      | false =>
        go_wp2_with fail
        go_ret
        refine ⟨?_, HM.out⟩
        have : z = i := by
          rw [HZ.out.1]; unfold badI
          have : l.findIdx? (fun x => !rightB x) = some i := by
            rw [List.findIdx?_eq_some_iff_getElem]
            refine ⟨hlt, ?_, fun j hj => ?_⟩
            · have := HX.out.2.2.2
              rw [List.getElem?_eq_getElem hlt] at this
              rw [Option.some.inj this, hb]; rfl
            · have := HX.out.2.1 l[j] (by rw [List.mem_take_iff_getElem]; exact ⟨j, by omega, rfl⟩)
              rw [this]; simp
          rw [this]
        rw [this]; rfl
    · have hie : l.take i = l := List.take_of_length_le (by omega)
      rw [hie] at hr
      have HX := Lib.hid (And.intro hr hmod); clear hr hmod hi hie
      go_wp2_with fail
      go_ret
      refine ⟨?_, HX.out.2⟩
      have : z = -1 := by
        rw [HZ.out.1]; unfold badI
        have : l.findIdx? (fun x => !rightB x) = none := by
          rw [List.findIdx?_eq_none_iff]
          intro x hx; rw [HX.out.1 x hx]; rfl
        rw [this]
      rw [this]; rfl
end Go.Proofs.YthhepnaanjicjaaGreatDoor

/- Layer 5, cats: slices.DeleteFunc of what is not right. -/
namespace Go.Proofs.YthhepnaanjicjaaGreatDoor
open Go.RowKit Go.Shelf
set_option linter.unusedVariables false
def kept (l : List (List UInt8)) (j : Nat) : List (List UInt8) := (l.take j).filter rightB
theorem kept_succ {l : List (List UInt8)} {j : Nat} {x : List UInt8} (h : l[j]? = some x) : kept l (j + 1) = kept l j ++ if rightB x then [x] else [] := by
  unfold kept
  rw [List.take_add_one, h, List.filter_append]
  cases hx : rightB x <;> simp [hx]
/-- The row while what is right is moved up: i are kept, j are looked at. -/
structure DI (w0 : World) (g : Nat) (l : List (List UInt8)) (tail : List Value) (i j : Nat) (row mid : List Value) (w : World) : Prop where
  blk : w.heap[g]? = some (.cells row.toArray 9 (0, 0))
  mod : Mod (fun k => k = g) w0 w
  row : row = scells (kept l j) ++ mid ++ scells (l.drop j) ++ tail
  num : (kept l j).length = i
  mid : i + mid.length = j
theorem DI.cell {w0 w : World} {g : Nat} {l : List (List UInt8)} {tail row mid : List Value} {i j : Nat} (h : DI w0 g l tail i j row mid w) {x : List UInt8} (hx : l[j]? = some x) : w.cell? ⟨g, j, none⟩ = some (encS x) := by
  rw [Lib.cell_of_heap h.blk, List.getElem?_toArray, h.row]
  have hlt := (List.getElem?_eq_some_iff.1 hx).1
  have hl : (scells (kept l j) ++ mid).length = j := by rw [List.length_append, scells_len, h.num, h.mid]
  rw [List.append_assoc, List.getElem?_append_right (by omega), hl, Nat.sub_self, List.drop_eq_getElem_cons hlt]
  simp [scells, (List.getElem?_eq_some_iff.1 hx).2]
theorem DI.len {w0 w : World} {g : Nat} {l : List (List UInt8)} {tail row mid : List Value} {i j : Nat} (h : DI w0 g l tail i j row mid w) (hj : j ≤ l.length) : row.length = (scells l ++ tail).length := by
  have h1 := h.num; have h2 := h.mid
  rw [h.row]
  simp only [List.length_append, scells_len, List.length_drop]
  omega
theorem DI.skip {w0 w w1 : World} {g : Nat} {l : List (List UInt8)} {tail row mid : List Value} {i j : Nat} (h : DI w0 g l tail i j row mid w) (hm : Mod (fun _ => False) w w1) {x : List UInt8} (hx : l[j]? = some x) (hr : rightB x = false) : DI w0 g l tail i (j + 1) row (mid ++ [encS x]) w1 := by
  have hlt := (List.getElem?_eq_some_iff.1 hx).1
  have hk : kept l (j + 1) = kept l j := by rw [kept_succ hx, hr]; simp
  refine ⟨(hm.block g (Array.getElem?_eq_some_iff.1 h.blk).1 id).trans h.blk, tr0 h.mod hm, ?_, by rw [hk]; exact h.num, by have := h.mid; simp; omega⟩
  rw [hk, h.row, List.drop_eq_getElem_cons hlt, (List.getElem?_eq_some_iff.1 hx).2]
  simp [scells]
theorem DI.keep {w0 w w1 : World} {g : Nat} {l : List (List UInt8)} {tail row mid : List Value} {i j : Nat} (h : DI w0 g l tail i j row mid w) (hm : Mod (fun _ => False) w w1) {x : List UInt8} (hx : l[j]? = some x) (hr : rightB x = true) (hij : i < j) :
    DI w0 g l tail (i + 1) (j + 1) (row.set i (encS x)) (mid.tail ++ [encS x]) (w1.setCell ⟨g, i, none⟩ (encS x)) := by
  have hlt := (List.getElem?_eq_some_iff.1 hx).1
  have hk : kept l (j + 1) = kept l j ++ [x] := by rw [kept_succ hx, hr]; simp
  have hb1 := (hm.block g (Array.getElem?_eq_some_iff.1 h.blk).1 id).trans h.blk
  have hmid := h.mid
  cases hmd : mid with
  | nil => rw [hmd] at hmid; simp at hmid; omega
  | cons m mid' =>
    refine ⟨setCell_row hb1 i _, (tr0 h.mod hm).setCell (.inl rfl) _, ?_, by rw [hk, List.length_append, h.num]; rfl, by rw [hmd] at hmid; simp at hmid ⊢; omega⟩
    have hs : (scells (kept l j)).length = i := by rw [scells_len, h.num]
    rw [hk, h.row, hmd, List.drop_eq_getElem_cons hlt, (List.getElem?_eq_some_iff.1 hx).2, List.append_assoc, List.append_assoc, List.set_append_right _ _ (by omega), hs, Nat.sub_self]
    simp [scells]
set_option maxRecDepth 100000 in
set_option maxHeartbeats 2000000 in
theorem deleteFunc_any (g c : Nat) (l : List (List UInt8)) (tail : List Value) (w : World) (hg : w.heap[g]? = some (.cells (scells l ++ tail).toArray 9 (0, 0))) (hcap : l.length ≤ c) (hln : l.length ≤ 8796093022208) (hx : ∀ x ∈ l, x.length ≤ 140737488355328) (E : ∀ w', Mod (fun k => k = g) w w' → Env w') :
    Calls Tryz.prog 60 #[.slice (some ⟨g, 0, none⟩) l.length c, .func (.func 103) #[] #[]] w fun r w' => ∃ tail', r = .returned (.slice (some ⟨g, 0, none⟩) (l.filter rightB).length c) ∧
      w'.heap[g]? = some (.cells (scells (l.filter rightB) ++ tail').toArray 9 (0, 0)) ∧ (scells (l.filter rightB) ++ tail').length = (scells l ++ tail).length ∧ Mod (fun k => k = g) w w' := by
  have hcell : ∀ j x, l[j]? = some x → w.cell? ⟨g, j, none⟩ = some (encS x) := fun j x hj => by
    rw [Lib.cell_of_heap hg, List.getElem?_toArray, List.getElem?_append_left (by rw [scells_len]; exact (List.getElem?_eq_some_iff.1 hj).1)]
    simp [scells, hj]
  have hidx := indexFunc_any g c l w hcell hcap hln hx (E w (.refl _ _))
  unfold badI at hidx
  cases hf : l.findIdx? (fun x => !rightB x) with
  | none =>
    rw [hf] at hidx
    dsimp only at hidx
    have hall : l.filter rightB = l := by
      rw [List.filter_eq_self]
      intro x hx
      have := (List.findIdx?_eq_none_iff.1 hf) x hx
      simpa using this
    rw [hall]
    have HG := Lib.hid hg; clear hg hcell hf hall E hx
    go_enter Tryz.func60, Tryz.ntmps60
    go_wp2_with fail
    refine hidx.mono ?_
    rintro r w1 ⟨rfl, hm⟩
    have HM := Lib.hid hm; clear hm
    go_wp2_with fail
    go_ret
    exact ⟨tail, rfl, (HM.out.block g (Array.getElem?_eq_some_iff.1 HG.out).1 id).trans HG.out, rfl, HM.out.mono (fun k h => h.elim)⟩
  | some i0 =>
    rw [hf] at hidx
    dsimp only at hidx
    rw [List.findIdx?_eq_some_iff_getElem] at hf
    obtain ⟨hi0, hb0, hpre⟩ := hf
    have hk0 : kept l (i0 + 1) = l.take i0 := by
      rw [kept_succ (List.getElem?_eq_getElem hi0)]
      have : rightB l[i0] = false := by simpa using hb0
      rw [this]
      simp only [Bool.false_eq_true, if_false, List.append_nil]
      unfold kept
      rw [List.filter_eq_self]
      intro x hx
      obtain ⟨j, hj, rfl⟩ := List.mem_take_iff_getElem.1 hx
      have := hpre j (by omega)
      simpa using this
    have hD0 : ∀ w1, Mod (fun _ => False) w w1 → DI w g l tail i0 (i0 + 1) (scells l ++ tail) [encS l[i0]] w1 := fun w1 hm =>
      ⟨(hm.block g (Array.getElem?_eq_some_iff.1 hg).1 id).trans hg, hm.mono (fun k h => h.elim), by
        rw [hk0]
        congr 1
        rw [List.append_assoc]
        show scells l = scells (l.take i0) ++ ([encS l[i0]] ++ scells (l.drop (i0 + 1)))
        have : l = l.take i0 ++ (l[i0] :: l.drop (i0 + 1)) := by rw [← List.drop_eq_getElem_cons hi0, List.take_append_drop]
        conv => lhs; rw [this, scells_app]
        rfl, by rw [hk0, List.length_take]; omega, by simp⟩
    have HD := Lib.hid (And.intro hD0 (And.intro E hx)); clear hD0 E hx hcell hb0 hpre hk0 hg
    go_enter Tryz.func60, Tryz.ntmps60
    go_wp2_with fail
    refine hidx.mono ?_
    rintro r w1 ⟨rfl, hm⟩
    have HM := Lib.hid (HD.out.1 w1 hm); clear hm
    have hne : ((i0 : Int) == -1) = false := by simp
    go_wp2_with fail
    clear hne hidx
    go_loopg [5, 6] (l.length - (i0 + 1)) (fun f si sj wr => ∃ (i j : Nat) (row mid : List Value), si = .int .i64 i ∧ sj = .int .i64 j ∧ j + f = l.length ∧ i < j ∧ DI w g l tail i j row mid wr)
    case atStart => exact ⟨i0, i0 + 1, _, _, rfl, by go_num, by omega, by omega, HM.out⟩
    case round =>
      obtain ⟨i, j, row, mid, rfl, rfl, hf, hij, hd⟩ := hrel
      by_cases hlt : j < l.length
      · obtain ⟨x, hx⟩ : ∃ x, l[j]? = some x := ⟨l[j], by simp [hlt]⟩
        have hcx : wr.cell? ⟨g, j, none⟩ = some (.string ⟨x.toArray⟩) := hd.cell hx
        have hxl := HD.out.2.2 x (List.mem_of_getElem? hx)
        have HX := Lib.hid (And.intro hf (And.intro hij (And.intro hd hx))); clear hf hij hd hx
        go_wp2_with fail
        refine (out_any x hxl wr (HD.out.2.1 wr HX.out.2.2.1.mod)).mono ?_
        rintro r w2 ⟨rfl, hm⟩
        cases hb : rightB x with
        | true =>
          have hil : i < l.length := by have := HX.out.2.1; omega
          have HK := HX.out.2.2.1.keep hm HX.out.2.2.2 hb HX.out.2.1
          have hblk := (hm.block g (Array.getElem?_eq_some_iff.1 HX.out.2.2.1.blk).1 id).trans HX.out.2.2.1.blk
          have hrl : row.length = (scells l ++ tail).length := HX.out.2.2.1.len (by omega)
          have hci : ∃ u, w2.cell? ⟨g, i, none⟩ = some u := by
            rw [Lib.cell_of_heap hblk, List.getElem?_toArray]
            exact ⟨_, List.getElem?_eq_getElem (by rw [hrl, List.length_append, scells_len]; omega)⟩
          obtain ⟨u0, hci⟩ := hci
          have hfi : w2.frozen? ⟨g, i, none⟩ = false := Lib.frozen_of_heap hblk i
          have HH := Lib.hid (And.intro HK hm); clear HK hm hblk hrl
          go_wp2_with fail
          go_roundg (gk - 1)
          case measure => have := HX.out.1; omega
          case rel => exact ⟨i + 1, j + 1, _, _, by go_num, by go_num, by have := HX.out.1; omega, by have := HX.out.2.1; omega, HH.out.1⟩
        | false =>
          have HK := Lib.hid (HX.out.2.2.1.skip hm HX.out.2.2.2 hb); clear hm
          go_wp2_with fail
          go_roundg (gk - 1)
          case measure => have := HX.out.1; omega
          case rel => exact ⟨i, j + 1, _, _, rfl, by go_num, by have := HX.out.1; omega, by have := HX.out.2.1; omega, HK.out⟩
      · have hjl : j = l.length := by omega
        have hkl : kept l j = l.filter rightB := by unfold kept; rw [List.take_of_length_le (by omega)]
        have hrl := hd.len (by omega)
        have hil : (l.filter rightB).length = i := by rw [← hkl]; exact hd.num
        have HX := Lib.hid (And.intro hij (And.intro hd (And.intro hkl (And.intro hrl hil)))); clear hij hd hkl hrl hil hf
        have hij2 : i < l.length := by have := HX.out.1; omega
        have HJ := Lib.hid hjl; clear hjl
        go_wp2_with (refine wpList_clear_one rfl _ 24 rfl 9 (.string ⟨#[]⟩) Tryz.underlying24 (by kernel_rfl) rfl rfl g i (l.length - i) (c - i) rfl row 9 HX.out.2.1.blk ?hfit ?_)
        case hfit => rw [HX.out.2.2.2.1, List.length_append, scells_len]; omega
        intro w4 zs hzs hw4 hm4
        have H4 := Lib.hid (And.intro hw4 (And.intro (HX.out.2.1.mod.trans hm4 (fun k hk => .inl hk)) hzs)); clear hw4 hm4 hzs
        go_wp2_with fail
        go_ret
        obtain ⟨hij, hd, hkl, hrl, hil⟩ := HX.out
        have htk : row.take i = scells (l.filter rightB) := by
          have h1 : row = scells (l.filter rightB) ++ (mid ++ scells (l.drop j) ++ tail) := by rw [hd.row, hkl]; simp
          rw [h1, List.take_left' (by rw [scells_len, hil])]
        have hlaid : laid row i zs = scells (l.filter rightB) ++ (zs ++ row.drop (i + zs.length)) := by unfold laid; rw [htk, List.append_assoc]
        refine ⟨zs ++ row.drop (i + zs.length), by rw [hil]; rfl, by rw [← hlaid]; exact H4.out.1, ?_, H4.out.2.1⟩
        rw [← hrl, List.length_append, List.length_append, scells_len, hil, List.length_drop, H4.out.2.2, hrl, List.length_append, scells_len]
        omega
end Go.Proofs.YthhepnaanjicjaaGreatDoor

/- The machine never takes a draw back: a call's last world has drawn no less than its first. No program in it. -/
namespace Go.Proofs.YthhepnaanjicjaaGreatDoor
open Go
set_option linter.unusedVariables false
set_option linter.unusedSimpArgs false
/-- What a piece of a step leaves has drawn n at least. -/
def resGe {α : Type} (n : Nat) : Result α → Prop
  | .ok _ w => n ≤ w.drawn
  | .halt _ w => n ≤ w.drawn
theorem resGe.le {α : Type} {m n : Nat} {r : Result α} (h : resGe n r) (hm : m ≤ n) : resGe m r := by
  cases r <;> exact Nat.le_trans hm h
theorem ask_ge {α : Type} : ∀ (q : Ask α) (w : World), w.drawn ≤ (w.ask q).2.drawn
  | .done a, w => Nat.le_refl _
  | .ask what range k, w => by
    unfold World.ask
    dsimp only
    split
    · exact ask_ge _ _
    · exact Nat.le_trans (Nat.le_succ w.drawn) (ask_ge (k _) { w with drawn := w.drawn + 1 })
theorem sys_ge (w : World) (c : Sys) : w.drawn ≤ (w.sys c).2.drawn := by
  unfold World.sys
  have := ask_ge (Kernel.perform c w.os) w
  split
  · exact Nat.le_refl _
  · rename_i h
    rw [h] at this
    exact this
theorem viewStore_drawn {p : Program} {w w' : World} {at_ k : Addr} {u : TypeId} {v : Value} {at2 : Bool} {l : List Addr} (h : w.viewStore p at_ u k v at2 = .ok (w', l)) : w'.drawn = w.drawn := by
  unfold World.viewStore at h
  simp only [bind, Except.bind, pure, Except.pure] at h
  repeat' first
    | (cases h; done)
    | (simp only [Except.ok.injEq, Prod.mk.injEq] at h; obtain ⟨rfl, _⟩ := h; rfl)
    | split at h
theorem farStore_drawn {p : Program} {w w' : World} {a : Addr} {v : Value} {at2 : Bool} {l : List Addr} (h : w.farStore p a v at2 = .ok (w', l)) : w'.drawn = w.drawn := by
  unfold World.farStore at h
  split at h
  · split at h
    · rename_i hh
      cases h
      exact viewStore_drawn hh
    · cases h
  · cases h
theorem freeze_drawn (w : World) (a : Addr) (n : Nat) : (w.freeze a n).drawn = w.drawn := by
  unfold World.freeze; split <;> rfl
theorem run_ge {α : Type} (p : Program) : ∀ (s : Sem α) (w : World), resGe w.drawn (s.run p w)
  | .pure a, w => Nat.le_refl _
  | .load m a k, w => by
    unfold Sem.run
    split
    · exact run_ge p _ w
    · split
      · exact run_ge p _ w
      · exact Nat.le_refl _
  | .store m a v k, w => by
    have key : resGe w.drawn (match w.cell? a with
        | some _ => if w.frozen? a then .halt (.unsupported (.unsafePointer "a write to bytes that a string shares")) w else k.run p (w.setCell a v)
        | none => match w.farStore p a v (m == .atomic) with
          | .ok (w, _) => k.run p w
          | .error h => .halt h w) := by
      split
      · split
        · exact Nat.le_refl _
        · exact run_ge p k (w.setCell a v)
      · split
        · rename_i w2 _ hh
          have := run_ge p k w2
          rw [farStore_drawn hh] at this
          exact this
        · exact Nat.le_refl _
    cases v <;> first | exact Nat.le_refl _ | exact key
  | .new o k, w => by unfold Sem.run; exact run_ge p (k _) { w with heap := w.heap.push o }
  | .shape r k, w => by unfold Sem.run; exact run_ge p _ w
  | .freeze a n k, w => by unfold Sem.run; have := run_ge p k (w.freeze a n); rw [freeze_drawn] at this; exact this
  | .frozen a k, w => by unfold Sem.run; exact run_ge p _ w
  | .getObj r k, w => by
    unfold Sem.run
    split
    · exact Nat.le_refl _
    · exact run_ge p _ w
    · exact Nat.le_refl _
  | .setObj r o k, w => by
    unfold Sem.run
    split
    · exact Nat.le_refl _
    · exact run_ge p k { w with heap := w.heap.setIfInBounds r o }
    · exact Nat.le_refl _
  | .choose q k, w => by
    unfold Sem.run
    split
    · exact run_ge p _ w
    · exact (run_ge p (k _) { w with drawn := w.drawn + 1 }).le (Nat.le_succ _)
  | .sys c k, w => by unfold Sem.run; exact (run_ge p (k _) (w.sys c).2).le (sys_ge w c)
  | .program k, w => by unfold Sem.run; exact run_ge p _ w
  | .mark m k, w => by unfold Sem.run; exact run_ge p _ w
  | .halt h, w => Nat.le_refl _
theorem runT_ge {α : Type} (p : Program) : ∀ (s : Sem α) (w : World) (es : Array Event), resGe w.drawn (s.runT p w es).1
  | .pure a, w, es => Nat.le_refl _
  | .load m a k, w, es => by
    unfold Sem.runT
    split
    · exact runT_ge p _ w _
    · split
      · exact runT_ge p _ w _
      · exact Nat.le_refl _
  | .store m a v k, w, es => by
    have key : resGe w.drawn (match w.cell? a with
        | some _ =>
          if w.frozen? a then ((.halt (.unsupported (.unsafePointer "a write to bytes that a string shares")) w, es) : Result α × Array Event)
          else k.runT p (w.setCell a v) (es.push (Event.mk (.cell a) true (m == Mode.atomic)))
        | none => match w.farStore p a v (m == Mode.atomic) with
          | .ok (w, touched) => k.runT p w (es ++ touched.toArray.map (fun x => Event.mk (.cell x) true (m == Mode.atomic)))
          | .error h => (.halt h w, es)).1 := by
      split
      · split
        · exact Nat.le_refl _
        · exact runT_ge p k (w.setCell a v) _
      · split
        · rename_i w2 _ hh
          have := runT_ge p k w2
          rw [farStore_drawn hh] at this
          exact this _
        · exact Nat.le_refl _
    cases v <;> first | exact Nat.le_refl _ | exact key
  | .new o k, w, es => by unfold Sem.runT; exact runT_ge p (k _) { w with heap := w.heap.push o } _
  | .shape r k, w, es => by unfold Sem.runT; exact runT_ge p _ w _
  | .freeze a n k, w, es => by unfold Sem.runT; have := runT_ge p k (w.freeze a n) es; rw [freeze_drawn] at this; exact this
  | .frozen a k, w, es => by unfold Sem.runT; exact runT_ge p _ w _
  | .getObj r k, w, es => by
    unfold Sem.runT
    split
    · exact Nat.le_refl _
    · exact runT_ge p _ w _
    · exact Nat.le_refl _
  | .setObj r o k, w, es => by
    unfold Sem.runT
    split
    · exact Nat.le_refl _
    · exact runT_ge p k { w with heap := w.heap.setIfInBounds r o } _
    · exact Nat.le_refl _
  | .choose q k, w, es => by
    unfold Sem.runT
    split
    · exact runT_ge p _ w _
    · exact (runT_ge p (k _) { w with drawn := w.drawn + 1 } _).le (Nat.le_succ _)
  | .sys c k, w, es => by unfold Sem.runT; exact (runT_ge p (k _) (w.sys c).2 _).le (sys_ge w c)
  | .program k, w, es => by unfold Sem.runT; exact runT_ge p _ w _
  | .mark m k, w, es => by unfold Sem.runT; exact runT_ge p _ w _
  | .halt h, w, es => Nat.le_refl _
theorem run_ok {α : Type} {p : Program} {s : Sem α} {w w' : World} {a : α} (h : s.run p w = .ok a w') : w.drawn ≤ w'.drawn := by have := run_ge p s w; rw [h] at this; exact this
theorem runT_ok {α : Type} {p : Program} {s : Sem α} {w w' : World} {es es' : Array Event} {a : α} (h : s.runT p w es = (.ok a w', es')) : w.drawn ≤ w'.drawn := by have := runT_ge p s w es; rw [h] at this; exact this
theorem run_halt {α : Type} {p : Program} {s : Sem α} {w w' : World} {a : Halt} (h : s.run p w = .halt a w') : w.drawn ≤ w'.drawn := by have := run_ge p s w; rw [h] at this; exact this
theorem runT_halt {α : Type} {p : Program} {s : Sem α} {w w' : World} {es es' : Array Event} {a : Halt} (h : s.runT p w es = (.halt a w', es')) : w.drawn ≤ w'.drawn := by have := runT_ge p s w es; rw [h] at this; exact this
/-- A goroutine's step leaves a world that has drawn n at least (where it does not end the run). -/
def gGe (n : Nat) : GStep → Prop
  | .go _ w _ => n ≤ w.drawn
  | .comm _ _ _ _ w _ => n ≤ w.drawn
  | .spawn _ _ w _ => n ≤ w.drawn
  | .count _ w _ => n ≤ w.drawn
  | .timer _ _ w _ => n ≤ w.drawn
  | .alone _ _ w _ => n ≤ w.drawn
  | .newcoro _ _ _ w _ => n ≤ w.drawn
  | .coroswitch _ _ _ w _ => n ≤ w.drawn
  | .collect _ w _ => n ≤ w.drawn
  | .watch _ w _ => n ≤ w.drawn
  | .ended .. => True
theorem after_ge {n : Nat} {es : Array Event} {s : GStep} (h : gGe n s) : gGe n (GStep.after es s) := by cases s <;> exact h
theorem gGe.le {m n : Nat} {s : GStep} (h : gGe n s) (hm : m ≤ n) : gGe m s := by cases s <;> first | trivial | exact Nat.le_trans hm h
theorem ite_ge {n : Nat} {c : Prop} [Decidable c] {a b : GStep} (ha : gGe n a) (hb : gGe n b) : gGe n (if c then a else b) := by split <;> assumption
theorem doReturn_ge (p : Program) (main : Bool) (fr : Frame) (callers : List Frame) (dying : Option Dying) (v : Value) (w : World) : gGe w.drawn (doReturn p main fr callers dying v w) := by
  unfold doReturn
  repeat' first
    | exact Nat.le_refl _
    | trivial
    | split
    | dsimp only
theorem endWith_ge (w : World) (n : Nat) (l : ByteArray) (o : Outcome) (k : Nat) : gGe k (endWith w n l o) := by
  unfold endWith
  dsimp only
  repeat' first
    | trivial
    | split
theorem dieOf_ge (fr : Frame) (ps : List ByteArray) (m : String) (b : Bool) (w : World) : True := trivial
theorem endThrow_ge (fr : Frame) (m : String) (w : World) : gGe w.drawn (endThrow fr m w) := by
  unfold endThrow dieOf
  exact Nat.le_refl _
theorem endPrinting_ge (p : Program) (fr : Frame) (v : Value) (w : World) : gGe w.drawn (endPrinting p fr v w) := by
  unfold endPrinting
  dsimp only
  repeat' first
    | exact endThrow_ge _ _ _
    | trivial
    | split
theorem endFatal_ge (p : Program) (fr : Frame) (callers : List Frame) (dying : Option Dying) (m : String) (w : World) : gGe w.drawn (endFatal p fr callers dying m w) := by
  unfold endFatal
  dsimp only
  split
  · rename_i h
    have := run_ok h
    unfold dieOf
    exact this
  · trivial
  · trivial
theorem writeOn_ge (p : Program) (fr : Frame) (d : Dying) (f : Fatal) (w : World) : gGe w.drawn (writeOn p fr d f w) := by
  unfold writeOn
  dsimp only
  split
  · trivial
  · split
    · rename_i h
      exact runT_ok h
    · rename_i h
      exact runT_halt h
    · trivial
    · trivial
theorem die_ge (p : Program) (fr : Frame) (d : Dying) (w : World) : gGe w.drawn (die p fr d w) := by
  unfold die
  split
  · exact writeOn_ge _ _ _ _ _
  · split
    · split
      · exact Nat.le_refl _
      · exact endWith_ge _ _ _ _ _
    · dsimp only
      split
      · exact Nat.le_refl _
      · split
        · rename_i h; exact run_ok h
        · trivial
      · rename_i t recv name _
        have hg := runT_ge p (invoke (.fn (.method name) #[]) #[.iface t recv]) w #[]
        generalize (invoke (.fn (.method name) #[]) #[.iface t recv]).runT p w #[] = q at hg ⊢
        obtain ⟨r, es⟩ := q
        dsimp only at hg ⊢
        apply after_ge
        split
        all_goals first
          | trivial
          | exact hg
          | exact (endPrinting_ge _ _ _ _).le hg
      · trivial
theorem callDeferred_ge (p : Program) (fr : Frame) (callers : List Frame) (dying : Option Dying) (d : Deferred) (w : World) : gGe w.drawn (callDeferred p fr callers dying d w) := by
  unfold callDeferred
  refine ite_ge trivial ?_
  · have hg := runT_ge p (invoke d.target d.args) w #[]
    generalize (invoke d.target d.args).runT p w #[] = q at hg ⊢
    obtain ⟨r, es⟩ := q
    dsimp only at hg ⊢
    apply after_ge
    split
    all_goals first
      | trivial
      | exact hg
      | exact (endThrow_ge _ _ _).le hg
      | exact (endFatal_ge _ _ _ _ _ _).le hg
      | (split <;> exact hg)
theorem unwind_ge (p : Program) (main : Bool) (fr : Frame) (callers : List Frame) (dying : Option Dying) (w : World) : gGe w.drawn (unwind p main fr callers dying w) := by
  unfold unwind
  split
  · rename_i block _ ds _
    have hg := runT_ge p (Instr.takeDeferred block) w #[]
    generalize (Instr.takeDeferred block).runT p w #[] = q at hg ⊢
    obtain ⟨r, es⟩ := q
    dsimp only at hg ⊢
    apply after_ge
    split
    · exact hg
    · trivial
  · exact callDeferred_ge _ _ _ _ _ _
  · split
    · trivial
    · split
      · trivial
      · split
        · exact Nat.le_refl _
        · split
          · split
            · exact Nat.le_refl _
            · split
              · rename_i h; exact run_ok h
              · trivial
              · trivial
          · split
            · exact endPrinting_ge _ _ _ _
            · trivial
    · split
      · exact doReturn_ge _ _ _ _ _ _ _
      · rename_i fn _
        have hg := runT_ge p (results fn fr.tmps) w #[]
        generalize (results fn fr.tmps).runT p w #[] = q at hg ⊢
        obtain ⟨r, es⟩ := q
        dsimp only at hg ⊢
        apply after_ge
        split
        · exact (doReturn_ge _ _ _ _ _ _ _).le hg
        · trivial
        · trivial
theorem early_ge (p : Program) (fr : Frame) (callers : List Frame) (dying : Option Dying) (g : Nat) (w : World) : gGe w.drawn (early p fr callers dying g w) := by
  unfold early
  dsimp only
  repeat' first
    | exact Nat.le_refl _
    | trivial
    | (rename_i h; exact run_ok h)
    | split
  all_goals (rename_i h _ _ _ _; exact (run_ok h :))
theorem apply_ge (p : Program) (main listen : Bool) (fr : Frame) (callers : List Frame) (dying : Option Dying) (s : Sem Next) (w : World) : gGe w.drawn (stepG.apply p listen fr callers dying s w) := by
  unfold stepG.apply
  have hq : resGe w.drawn (if listen then s.runT p w #[] else (s.run p w, #[])).1 := by
    split
    · exact runT_ge p s w #[]
    · exact run_ge p s w
  generalize (if listen then s.runT p w #[] else (s.run p w, #[])) = q at hq ⊢
  obtain ⟨r, es⟩ := q
  dsimp only at hq ⊢
  apply after_ge
  split
  all_goals first
    | trivial
    | exact hq
    | exact (endThrow_ge _ _ _).le hq
    | exact (endFatal_ge _ _ _ _ _ _).le hq
    | exact (early_ge _ _ _ _ _ _).le hq
    | (split <;> exact hq)
    | exact ite_ge ((endThrow_ge _ _ _).le hq) hq
theorem oper_ge (p : Program) (listen : Bool) (fr : Frame) (callers : List Frame) (dying : Option Dying) (w : World) : gGe w.drawn (stepG.oper p listen fr callers dying w) := by
  unfold stepG.oper
  split
  · trivial
  · split
    · exact apply_ge _ true _ _ _ _ _ _
    · exact apply_ge _ true _ _ _ _ _ _
theorem leave_ge (p : Program) (main : Bool) (fr : Frame) (callers : List Frame) (dying : Option Dying) (w : World) (jump : Option Code) (b : Bool) : gGe w.drawn (match fr.roundOf with
      | none => if b then GStep.go { frame := { fr with mode := .returning }, callers, status := .running, dying } w else .ended (.stuck "exit, goto: no such block or label" (fr.pos p)) w
      | some l =>
        let (r, es) := (Instr.endRound l jump).runT p w #[]
        GStep.after (seen p fr.fn es) <| match r with
        | .ok v w => doReturn p main fr callers dying v w
        | .halt _ w => .ended (.stuck "range over a function: no such loop" (fr.pos p)) w) := by
  split
  · exact ite_ge (Nat.le_refl _) trivial
  · rename_i l _
    have hg := runT_ge p (Instr.endRound l jump) w #[]
    generalize (Instr.endRound l jump).runT p w #[] = q at hg ⊢
    obtain ⟨r, es⟩ := q
    dsimp only at hg ⊢
    apply after_ge
    split
    · exact (doReturn_ge _ _ _ _ _ _ _).le hg
    · trivial
theorem exec_ge (p : Program) (main listen : Bool) (fr : Frame) (callers : List Frame) (dying : Option Dying) (w : World) : gGe w.drawn (stepG.exec p main listen fr callers dying w) := by
  unfold stepG.exec
  dsimp only
  split
  all_goals first
    | exact Nat.le_refl _
    | trivial
    | exact apply_ge _ true _ _ _ _ _ _
    | exact leave_ge p main fr callers dying w _ _
    | (split <;> first | exact Nat.le_refl _ | trivial | exact leave_ge p main fr callers dying w _ _)
    | skip
  · rename_i id k _
    cases exitTo id k with
    | none => exact leave_ge p main fr callers dying w _ false
    | some t => exact Nat.le_refl _
  · rename_i l k _
    cases gotoIn l k with
    | none => exact leave_ge p main fr callers dying w _ false
    | some t => exact Nat.le_refl _
  · rename_i f params assign body k _
    have hg := runT_ge p (Instr.enterLoop fr.fn fr.tmps params assign body fr.roundOf) w #[]
    generalize (Instr.enterLoop fr.fn fr.tmps params assign body fr.roundOf).runT p w #[] = q at hg ⊢
    apply after_ge
    split
    · rename_i h; rw [h] at hg; exact (apply_ge _ true _ _ _ _ _ _).le hg
    · trivial
  · rename_i l k _
    have hg := runT_ge p (Instr.endLoop l) w #[]
    generalize (Instr.endLoop l).runT p w #[] = q at hg ⊢
    apply after_ge
    split
    · rename_i h; rw [h] at hg; exact hg
    · rename_i h; rw [h] at hg; exact hg
    · trivial
  · rename_i row args _ _
    cases Extern.next row with
    | none => trivial
    | some e => exact apply_ge _ true _ _ _ _ _ _
  · refine ite_ge (Nat.le_refl _) ?_
    split
    · rename_i h; exact (run_ok h :)
    · trivial
  · exact ite_ge (oper_ge _ _ _ _ _ _) (Nat.le_refl _)
theorem stepG_ge (p : Program) (main : Bool) (g : Goroutine) (w : World) (listen : Bool) : gGe w.drawn (stepG p main g w listen) := by
  unfold stepG
  dsimp only
  split
  · exact die_ge _ _ _ _
  · exact exec_ge _ _ _ _ _ _ _
  · exact unwind_ge _ _ _ _ _ _
theorem waitingAt_drawn {rest : Rest} {cases : Array CommCase} {w w' : World} (h : waitingAt rest cases w = some w') : w'.drawn = w.drawn := by
  unfold waitingAt at h
  repeat' first
    | (cases h; rfl)
    | (cases h; done)
    | split at h
theorem communicate_ge (p : Program) (rest : Rest) (gs : Array Goroutine) (i : Nat) (g : Goroutine) (cases : Array CommCase) (blocking : Bool)
    (shape : CommShape) (w : World) (m' : Machine) (h : (communicate p rest gs i g cases blocking shape w).1 = .next m') : w.drawn ≤ m'.world.drawn := by
  unfold communicate at h
  simp only [] at h
  split at h
  · cases h
  split at h
  · split at h
    · split at h
      · rename_i hw
        cases h
        exact Nat.le_of_eq (waitingAt_drawn hw).symm
      · cases h
    · cases h; exact Nat.le_refl _
  · split at h
    · cases h
    · rename_i hp
      have hp1 := run_ok hp
      repeat' first
        | (cases h; done)
        | (cases h; exact hp1)
        | split at h
      all_goals first
        | (rename_i w2 hr _ _ _ _; cases h; exact Nat.le_trans hp1 (show _ ≤ w2.drawn from run_ok hr))
        | (rename_i w2 hr _ _ _; cases h; exact Nat.le_trans hp1 (show _ ≤ w2.drawn from run_ok hr))
        | (rename_i w2 hr _ _; cases h; exact Nat.le_trans hp1 (show _ ≤ w2.drawn from run_ok hr))
        | (rename_i w2 hr _; cases h; exact Nat.le_trans hp1 (show _ ≤ w2.drawn from run_ok hr))
        | (rename_i w2 hr; cases h; exact Nat.le_trans hp1 (show _ ≤ w2.drawn from run_ok hr))
theorem look_ge (p : Program) (gs : Array Goroutine) (rest : Rest) (w : World) (m' : Machine)
    (h : look p gs rest w = .next m') : w.drawn ≤ m'.world.drawn := by
  unfold look at h
  simp only [] at h
  split at h
  · split at h
    · cases h
    · split at h
      · cases h
      · split at h
        · rename_i hp
          have hp1 := run_ok hp
          cases h
          exact hp1
        · cases h
        · cases h
  · cases h
theorem drain_drawn (w : World) (c : Nat) : (drain w c).2.drawn = w.drawn := by unfold drain; split <;> rfl
theorem retime_drawn (m : Machine) (k : Nat) (t : Timer) (a b : Nat) : (retime m k t a b).2.world.drawn = m.world.drawn := by
  unfold retime
  dsimp only
  split
  · exact drain_drawn _ _
  · rfl
theorem timerOp_drawn {m m' : Machine} {op : TimerOp} {v : Value} (h : timerOp m op = .ok (v, m')) : m'.world.drawn = m.world.drawn := by
  unfold timerOp at h
  split at h
  · split at h
    · cases h; rfl
    · split at h
      · split at h
        · cases h
        · cases h; rfl
      · cases h
  · unfold timerOp.named at h
    split at h
    · cases h; exact retime_drawn _ _ _ _ _
    · cases h
  · split at h
    · rename_i m2 hm2
      have e2 : m2.world.drawn = m.world.drawn := by
        unfold timerOp.opened at hm2
        repeat' first
          | (cases hm2; rfl)
          | (cases hm2; done)
          | split at hm2
      unfold timerOp.named at h
      split at h
      · cases h; exact (retime_drawn _ _ _ _ _).trans e2
      · cases h
    · cases h
  · cases h; rfl
theorem serve_ge (p : Program) (m m' : Machine) (k : Nat) (h : serve p m k = .next m') : m.world.drawn ≤ m'.world.drawn := by
  unfold serve at h
  simp only [] at h
  repeat' first
    | (cases h; done)
    | (cases h; exact Nat.le_refl _)
    | split at h
theorem runTm_ge (p : Program) (m m' : Machine) (i : Nat) (b : Bool) (h : (runT p m i b).1 = .next m') : m.world.drawn ≤ m'.world.drawn := by
  simp only [runT] at h
  revert h
  generalize m.gs.swapAt! _ _ = gg
  have hs := stepG_ge p (i == 0) gg.1 m.world b
  revert hs
  generalize stepG p _ gg.1 m.world b = s
  intro hs h
  cases s <;> simp only [gGe] at hs <;> simp only [] at h
  all_goals first
    | (cases h; done)
    | (exact Nat.le_trans hs (communicate_ge _ _ _ _ _ _ _ _ _ _ h))
    | (exact Nat.le_trans hs (look_ge _ _ _ _ _ h))
    | (cases h; exact hs)
    | skip
  · split at h
    · cases h
    · cases h; exact hs
  · split at h
    · rename_i ht
      cases h
      exact Nat.le_trans hs (Nat.le_of_eq (timerOp_drawn ht).symm)
    · unfold endThrow dieOf at h
      cases h; exact hs
    · cases h
    · cases h
  · split at h
    · cases h; exact hs
    · unfold endThrow dieOf at h
      cases h; exact hs
    · cases h
theorem askOn_next (p : Program) (m m' : Machine) (ops : Array MemOp) (h : askOn p m = .machine (.next m') ops) : m.world.drawn ≤ m'.world.drawn := by
  unfold askOn at h
  simp only [] at h
  repeat' first
    | (simp at h; done)
    | split at h
  · rename_i h1 _
    simp only [Move.machine.injEq] at h
    exact Nat.le_trans (show _ ≤ World.drawn _ from run_ok h1) (serve_ge _ _ _ _ h.1)
  · rename_i h1 _ _ _ _ _ _
    simp only [Move.machine.injEq, Stepped.next.injEq] at h
    obtain ⟨rfl, -⟩ := h
    exact (run_ok h1 :)
  · rename_i h1 _ _ _ _ _ _
    simp only [Move.machine.injEq, Stepped.next.injEq] at h
    obtain ⟨rfl, -⟩ := h
    exact (run_ok h1 :)
  · rename_i h1 _ _ _ _ _ _ _ _ h2
    simp only [Move.machine.injEq, Stepped.next.injEq] at h
    obtain ⟨rfl, -⟩ := h
    exact Nat.le_trans (run_ok h1 :) (run_ok h2 :)
theorem askOn_go (p : Program) (m m' : Machine) (i : Nat) (h : askOn p m = .goroutine m' i) : m.world.drawn ≤ m'.world.drawn := by
  unfold askOn at h
  simp only [] at h
  repeat' first
    | (simp at h; done)
    | split at h
  all_goals (simp only [Move.goroutine.injEq] at h; obtain ⟨rfl, -⟩ := h)
  all_goals first
    | (rename_i h1 _ _ _ _ _ _ _ h2 _; exact Nat.le_trans (run_ok h1 :) ((run_ok h2 :)))
    | (rename_i h1 _ _ _ _ _ _ _ _ h2 _; exact Nat.le_trans (run_ok h1 :) ((run_ok h2 :)))
    | (rename_i h1 _ _ _ _ _ _ _ _ _ h2 _; exact Nat.le_trans (run_ok h1 :) ((run_ok h2 :)))
    | (rename_i h1 _ _ _ _ _ _ _ _ _ _ h2 _; exact Nat.le_trans (run_ok h1 :) ((run_ok h2 :)))
    | (rename_i h1 _ _ _ _ _ _ _ h2 _ _ _ _ h3 _; exact Nat.le_trans (run_ok h1 :) (Nat.le_trans (run_ok h2 :) ((run_ok h3 :))))
    | (rename_i h1 _ _ _ _ _ _ _ h2 _ _ _ h3 _; exact Nat.le_trans (run_ok h1 :) (Nat.le_trans (run_ok h2 :) ((run_ok h3 :))))
    | (rename_i h1 _ _ _ _ _ _ _ h2 _ _ h3 _; exact Nat.le_trans (run_ok h1 :) (Nat.le_trans (run_ok h2 :) ((run_ok h3 :))))
    | (rename_i h1 _ _ _ _ _ _ _ _ h2 _ _ _ _ h3 _; exact Nat.le_trans (run_ok h1 :) (Nat.le_trans (run_ok h2 :) ((run_ok h3 :))))
    | (rename_i h1 _ _ _ _ _ _ _ _ h2 _ _ _ h3 _; exact Nat.le_trans (run_ok h1 :) (Nat.le_trans (run_ok h2 :) ((run_ok h3 :))))
    | (rename_i h1 _ _ _ _ _ _ _ _ h2 _ _ h3 _; exact Nat.le_trans (run_ok h1 :) (Nat.le_trans (run_ok h2 :) ((run_ok h3 :))))
    | (rename_i h1 _ _ _ _ _ _ _ _ _ h2 _ _ _ _ h3 _; exact Nat.le_trans (run_ok h1 :) (Nat.le_trans (run_ok h2 :) ((run_ok h3 :))))
    | (rename_i h1 _ _ _ _ _ _ _ _ _ h2 _ _ _ h3 _; exact Nat.le_trans (run_ok h1 :) (Nat.le_trans (run_ok h2 :) ((run_ok h3 :))))
    | (rename_i h1 _ _ _ _ _ _ _ _ _ h2 _ _ h3 _; exact Nat.le_trans (run_ok h1 :) (Nat.le_trans (run_ok h2 :) ((run_ok h3 :))))
    | (rename_i h1 _ _ _ _ _ _ _ _ _ _ h2 _ _ _ _ h3 _; exact Nat.le_trans (run_ok h1 :) (Nat.le_trans (run_ok h2 :) ((run_ok h3 :))))
    | (rename_i h1 _ _ _ _ _ _ _ _ _ _ h2 _ _ _ h3 _; exact Nat.le_trans (run_ok h1 :) (Nat.le_trans (run_ok h2 :) ((run_ok h3 :))))
    | (rename_i h1 _ _ _ _ _ _ _ _ _ _ h2 _ _ h3 _; exact Nat.le_trans (run_ok h1 :) (Nat.le_trans (run_ok h2 :) ((run_ok h3 :))))
    | (rename_i h1 _ _ _ _ _ _ _ h2 _ _ _ h3 _ _ _ _ h4 _; exact Nat.le_trans (run_ok h1 :) (Nat.le_trans (run_ok h2 :) (Nat.le_trans (run_ok h3 :) ((run_ok h4 :)))))
    | (rename_i h1 _ _ _ _ _ _ _ h2 _ _ h3 _ _ _ _ h4 _; exact Nat.le_trans (run_ok h1 :) (Nat.le_trans (run_ok h2 :) (Nat.le_trans (run_ok h3 :) ((run_ok h4 :)))))
    | (rename_i h1 _ _ _ _ _ _ _ h2 _ _ _ _ h3 _ _ _ _ h4 _; exact Nat.le_trans (run_ok h1 :) (Nat.le_trans (run_ok h2 :) (Nat.le_trans (run_ok h3 :) ((run_ok h4 :)))))
    | (rename_i h1 _ _ _ _ _ _ _ _ h2 _ _ _ h3 _ _ _ _ h4 _; exact Nat.le_trans (run_ok h1 :) (Nat.le_trans (run_ok h2 :) (Nat.le_trans (run_ok h3 :) ((run_ok h4 :)))))
    | (rename_i h1 _ _ _ _ _ _ _ _ h2 _ _ h3 _ _ _ _ h4 _; exact Nat.le_trans (run_ok h1 :) (Nat.le_trans (run_ok h2 :) (Nat.le_trans (run_ok h3 :) ((run_ok h4 :)))))
    | (rename_i h1 _ _ _ _ _ _ _ _ h2 _ _ _ _ h3 _ _ _ _ h4 _; exact Nat.le_trans (run_ok h1 :) (Nat.le_trans (run_ok h2 :) (Nat.le_trans (run_ok h3 :) ((run_ok h4 :)))))
    | (rename_i h1 _ _ _ _ _ _ _ _ _ h2 _ _ _ h3 _ _ _ _ h4 _; exact Nat.le_trans (run_ok h1 :) (Nat.le_trans (run_ok h2 :) (Nat.le_trans (run_ok h3 :) ((run_ok h4 :)))))
    | (rename_i h1 _ _ _ _ _ _ _ _ _ h2 _ _ h3 _ _ _ _ h4 _; exact Nat.le_trans (run_ok h1 :) (Nat.le_trans (run_ok h2 :) (Nat.le_trans (run_ok h3 :) ((run_ok h4 :)))))
    | (rename_i h1 _ _ _ _ _ _ _ _ _ h2 _ _ _ _ h3 _ _ _ _ h4 _; exact Nat.le_trans (run_ok h1 :) (Nat.le_trans (run_ok h2 :) (Nat.le_trans (run_ok h3 :) ((run_ok h4 :)))))
    | (rename_i h1 _ _ _ _ _ _ _ _ _ _ h2 _ _ _ h3 _ _ _ _ h4 _; exact Nat.le_trans (run_ok h1 :) (Nat.le_trans (run_ok h2 :) (Nat.le_trans (run_ok h3 :) ((run_ok h4 :)))))
    | (rename_i h1 _ _ _ _ _ _ _ _ _ _ h2 _ _ h3 _ _ _ _ h4 _; exact Nat.le_trans (run_ok h1 :) (Nat.le_trans (run_ok h2 :) (Nat.le_trans (run_ok h3 :) ((run_ok h4 :)))))
    | (rename_i h1 _ _ _ _ _ _ _ _ _ _ h2 _ _ _ _ h3 _ _ _ _ h4 _; exact Nat.le_trans (run_ok h1 :) (Nat.le_trans (run_ok h2 :) (Nat.le_trans (run_ok h3 :) ((run_ok h4 :)))))
theorem ask_ok (p : Program) (m : Machine) :
    (∃ m₂, m.world.drawn ≤ m₂.world.drawn ∧ ask p m = askOn p m₂) ∨ (∃ o w, ask p m = .machine (.ended o w) #[]) := by
  unfold ask
  split
  · split
    · exact .inr ⟨_, _, rfl⟩
    · rename_i h1
      have h2 := run_ok h1
      split
      · rename_i hl
        exact .inl ⟨_, Nat.le_trans h2 (look_ge _ _ _ _ _ hl), rfl⟩
      · rename_i hl
        cases hk : look p m.gs m.rest _ with
        | next m₂ => exact absurd hk (hl m₂)
        | ended o w => exact .inr ⟨o, w, rfl⟩
    · rename_i h1
      exact .inl ⟨_, (run_ok h1 :), rfl⟩
  · exact .inl ⟨m, Nat.le_refl _, rfl⟩
theorem step_ge {p : Program} {m m' : Machine} (h : step p m = .next m') : m.world.drawn ≤ m'.world.drawn := by
  have key : ∀ m₀ : Machine, (∀ m₁ i, ask p m₀ = .goroutine m₁ i → m₀.world.drawn ≤ m₁.world.drawn) ∧ (∀ m₁ ops, ask p m₀ = .machine (.next m₁) ops → m₀.world.drawn ≤ m₁.world.drawn) := fun m₀ => by
    rcases ask_ok p m₀ with ⟨m₂, h2, he⟩ | ⟨o, w, he⟩
    · rw [he]
      exact ⟨fun m₁ i h => Nat.le_trans h2 (askOn_go _ _ _ _ h), fun m₁ ops h => Nat.le_trans h2 (askOn_next _ _ _ _ h)⟩
    · rw [he]
      exact ⟨fun m₁ i h => (by cases h), fun m₁ ops h => (by cases h)⟩
  have mv : (∀ m₁ i, move p m = .goroutine m₁ i → m.world.drawn ≤ m₁.world.drawn) ∧ (∀ m₁ ops, move p m = .machine (.next m₁) ops → m.world.drawn ≤ m₁.world.drawn) := by
    unfold move
    split
    · split
      · exact ⟨fun m₁ i h => (by cases h; exact Nat.le_refl _), fun m₁ ops h => (by cases h)⟩
      · exact ⟨fun m₁ i h => (by cases h), fun m₁ ops h => (by cases h)⟩
    · split
      · split
        · exact ⟨fun m₁ i h => (by cases h; exact Nat.le_refl _), fun m₁ ops h => (by cases h)⟩
        · exact key { m with rest := { m.rest with slice := none } }
      · exact key m
  unfold step stepT at h
  split at h
  · rename_i m₁ i hm
    exact Nat.le_trans (mv.1 _ _ hm) (runTm_ge _ _ _ _ _ h)
  · rename_i s ops hm
    dsimp only at h
    subst h
    exact mv.2 _ _ hm
theorem runN_ge {p : Program} : ∀ (n : Nat) {m m' : Machine}, runN p n m = .next m' → m.world.drawn ≤ m'.world.drawn
  | 0, m, m', h => by cases h; exact Nat.le_refl _
  | n + 1, m, m', h => by
    unfold runN at h
    split at h
    · rename_i hs
      exact Nat.le_trans (step_ge hs) (runN_ge n h)
    · rename_i hs
      exact absurd h (hs m')
/-- A call that returns, or panics, has taken no draw back. -/
theorem calls_drawn {P : Program} {f : FuncId} {args : Array Value} {w : World} {R : Ending → World → Prop} (h : Calls P f args w R) : Calls P f args w fun e w' => R e w' ∧ (e ≠ .outgrown → w.drawn ≤ w'.drawn) := by
  intro cs
  obtain ⟨e, w', fr, hR, hc, hf, hl⟩ := h cs
  refine ⟨e, w', fr, ⟨hR, fun he => ?_⟩, hc, hf, hl⟩
  cases e with
  | outgrown => exact absurd rfl he
  | returned v => obtain ⟨n, hn⟩ := hc; exact runN_ge n hn
  | panicked c => obtain ⟨n, hn⟩ := hc; exact runN_ge n hn
end Go.Proofs.YthhepnaanjicjaaGreatDoor
