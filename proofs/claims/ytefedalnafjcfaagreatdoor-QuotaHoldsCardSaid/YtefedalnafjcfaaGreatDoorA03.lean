/- Part of this claim's proof (texts Cats3, Cats4, Cats5, joined by program). -/
import Derived.Lib.ItoaLen
import Derived.Test.YtefedalnafjcfaaGreatDoorA02
import Derived.Lib.MinMax
import Derived.Sort.Statements
import Derived.Sort.Walk0
namespace Go.Proofs.YtefedalnafjcfaaGreatDoor
open Go.RowKit Go.Shelf
set_option linter.unusedVariables false
/-- What a path is written as. -/
def pathT : List Int → List UInt8
  | [] => []
  | [k] => Lib.itoa k
  | k :: l => Lib.itoa k ++ 46 :: pathT l
def catT (p : List Int) (n : Int) : List UInt8 := pathT p ++ 47 :: Lib.itoa n
def fitsB (p : List Int) (n : Int) : Bool := decide (0 ≤ n) && decide (n ≤ 65535) && decide (p.length ≤ 6) && p.all fun k => decide (0 ≤ k) && decide (k ≤ 1048576)
theorem pathT_snoc (k : Int) : ∀ l : List Int, pathT (l ++ [k]) = (if l = [] then [] else pathT l ++ [46]) ++ Lib.itoa k
  | [] => rfl
  | [a] => by simp [pathT]
  | a :: b :: l => by
    have := pathT_snoc k (b :: l)
    simp only [List.cons_append] at this ⊢
    rw [pathT, this]
    · simp [pathT]
    · simp
theorem pathT_len : ∀ l : List Int, (∀ k ∈ l, 0 ≤ k ∧ k ≤ 1048576) → (pathT l).length ≤ 22 * l.length
  | [], _ => by simp [pathT]
  | [k], h => by
    have h1 := h k (by simp)
    have := Lib.itoa_length_le k (by omega) (by omega)
    simp [pathT]; omega
  | k :: b :: l, h => by
    have h1 := h k (by simp)
    have h2 := Lib.itoa_length_le k (by omega) (by omega)
    have := pathT_len (b :: l) (fun x hx => h x (List.mem_cons_of_mem _ hx))
    simp only [pathT, List.length_append, List.length_cons] at this ⊢
    omega
theorem mod_below {w wr w1 : World} (h : Mod (fun _ => False) w wr) (hb : Below w.heap.size wr w1) : Mod (fun _ => False) w w1 :=
  ⟨hb.os.trans h.os, hb.tape.trans h.tape, hb.output.trans h.output, Nat.le_trans h.size hb.size, fun k hk hs => (hb.block k hk).trans (h.block k hk hs)⟩
end Go.Proofs.YtefedalnafjcfaaGreatDoor

namespace Go.Proofs.YtefedalnafjcfaaGreatDoor
open Go.RowKit Go.Shelf
set_option linter.unusedVariables false
theorem pathS_range : ∀ (xs : List (List UInt8)) (acc p : List Int), pathS acc xs = some p → (∀ k ∈ acc, 0 ≤ k ∧ k ≤ 1048576) → acc.length ≤ 6 → (∀ k ∈ p, 0 ≤ k ∧ k ≤ 1048576) ∧ p.length ≤ 6
  | [], acc, p, h, h1, h2 => by simp only [pathS, Option.some.injEq] at h; subst h; exact ⟨h1, h2⟩
  | x :: xs, acc, p, h, h1, h2 => by
    simp only [pathS] at h
    split at h
    · cases h
    · rename_i k hk
      obtain ⟨k0, k1, -⟩ := numB_some hk
      split at h
      · cases h
      · refine pathS_range xs _ p h ?_ (by simp; omega)
        intro j hj
        rcases List.mem_append.1 hj with hj | hj
        · exact h1 j hj
        · rw [List.mem_singleton.1 hj]; exact ⟨k0, k1⟩
theorem parseB_range {l : List UInt8} {p : List Int} {n : Int} (h : parseB l = some (p, n)) : (∀ k ∈ p, 0 ≤ k ∧ k ≤ 1048576) ∧ p.length ≤ 6 ∧ 0 ≤ n ∧ n ≤ 65535 := by
  unfold parseB parseC at h
  split at h
  · cases h
  · rename_i k hk
    obtain ⟨k0, k1, -⟩ := numB_some hk
    split at h
    · cases h
    · split at h
      · cases h; exact ⟨by simp, by simp, k0, k1⟩
      · cases hp : pathS [] (splitB 46 (cutB 47 l).1) with
        | none => rw [hp] at h; cases h
        | some q =>
          rw [hp] at h
          simp only [Option.map_some, Option.some.injEq, Prod.mk.injEq] at h
          obtain ⟨rfl, rfl⟩ := h
          have := pathS_range _ _ _ hp (by simp) (by simp)
          exact ⟨this.1, this.2, k0, k1⟩
/-- Parse in the words of its readers. -/
theorem parse_rd (l : List UInt8) (hl : l.length ≤ 140737488355328) (w : World) (E : Env w) :
    Calls Tryz.prog 132 #[.string ⟨l.toArray⟩] w fun r w' => Mod (fun _ => False) w w' ∧ ((parseB l = none ∧ r = .returned (.tuple #[.slice none 0 0, .int .i64 0, .bool false])) ∨
      ∃ p n A c, parseB l = some (p, n) ∧ r = .returned (.tuple #[.slice A p.length c, .int .i64 n, .bool true]) ∧ intsR.rel w' (fun k => w.heap.size ≤ k) [.slice A p.length c] p) := by
  refine (parse_any l hl w E).mono ?_
  rintro r w' ⟨⟨h1, h2⟩, hm⟩
  refine ⟨hm, ?_⟩
  cases hp : parseB l with
  | none => exact .inl ⟨rfl, h1 hp⟩
  | some x =>
    obtain ⟨p, n⟩ := x
    obtain ⟨v, hr, hrow⟩ := h2 p n hp
    obtain ⟨r1, r2, r3, r4⟩ := parseB_range hp
    obtain ⟨A, c, rfl⟩ := own_slice hrow
    have hI := reads_ints hrow (fun x hx => inR_mk (by have := r1 x hx; omega)) (by omega)
    exact .inr ⟨p, n, A, c, rfl, hr, Rd.mono hI (fun k hk => (own_lt hrow k hk).1)⟩
def rightB (l : List UInt8) : Bool := (parseB l).isSome
set_option maxRecDepth 100000 in
theorem right_any (l : List UInt8) (hl : l.length ≤ 140737488355328) (w : World) (E : Env w) :
    Calls Tryz.prog 103 #[.string ⟨l.toArray⟩] w fun r w' => r = .returned (.bool (rightB l)) ∧ Mod (fun _ => False) w w' := by
  have hp := parse_rd l hl w E
  unfold rightB
  cases hb : parseB l with
  | none =>
    rw [hb] at hp
    go_enter Tryz.func103, Tryz.ntmps103
    go_wp2_with fail
    refine hp.mono ?_
    rintro e w1 ⟨hm, ⟨-, rfl⟩ | ⟨p, n, A, c, h, -⟩⟩
    · go_wp2_with fail
      go_ret
      exact ⟨rfl, hm⟩
    · cases h
  | some x =>
    rw [hb] at hp
    go_enter Tryz.func103, Tryz.ntmps103
    go_wp2_with fail
    refine hp.mono ?_
    rintro e w1 ⟨hm, ⟨h, -⟩ | ⟨p, n, A, c, h, rfl, -⟩⟩
    · cases h
    · have HM := Lib.hid hm; clear hm
      go_wp2_with fail
      go_ret
      exact ⟨rfl, HM.out⟩
def cmpL : List Int → List Int → Int
  | [], [] => 0
  | [], _ :: _ => -1
  | _ :: _, [] => 1
  | x :: xs, y :: ys => if x < y then -1 else if y < x then 1 else cmpL xs ys
set_option maxRecDepth 100000 in
theorem cmpLists_any (A : Option Addr) (c m : Nat) (A2 : Option Addr) (c2 m2 : Nat) (p q : List Int) (ok ok2 : Nat → Prop) (w : World) (h : intsR.rel w ok [.slice A m c] p) (h2 : intsR.rel w ok2 [.slice A2 m2 c2] q) :
    Calls Tryz.prog 50 #[.slice A m c, .slice A2 m2 c2] w fun r w' => r = .returned (.int .i64 (cmpL p q)) ∧ Mod (fun _ => False) w w' := by
  obtain ⟨rfl, hcap, -, hbig, -, hrow⟩ := ints_row h
  obtain ⟨rfl, hcap2, -, hbig2, -, hrow2⟩ := ints_row h2
  go_enter Tryz.func50, Tryz.ntmps50
  have H0 := Lib.hid (And.intro hrow hrow2); clear h h2 hrow hrow2
  go_wp2_with fail
  go_loopg [11] p.length (fun f si wr => ∃ i : Nat, si = .int .i64 i ∧ i + f = p.length ∧ i ≤ q.length ∧ cmpL p q = cmpL (p.drop i) (q.drop i) ∧ Mod (fun _ => False) w wr)
  case atStart => exact ⟨0, rfl, by omega, by omega, by simp, .refl _ _⟩
  case round =>
    obtain ⟨i, rfl, hi, hiq, hc, hmod⟩ := hrel
    by_cases hlt : i < p.length
    · have hx : p[i]? = some p[i] := by simp [hlt]
      obtain ⟨x, hxe⟩ : ∃ x, x = p[i] := ⟨_, rfl⟩
      rw [← hxe] at hx
      have hpd : p.drop i = x :: p.drop (i + 1) := by rw [List.drop_eq_getElem_cons hlt, ← hxe]
      obtain ⟨ad, rfl, -, hcx, -⟩ := RowOf.ints (H0.out.1.step (w1 := wr) (ok1 := ok) (fun k hk hl => ⟨hk, hmod.block k hl id⟩)) hx
      clear hxe hx
      rw [hpd] at hc
      by_cases hq : i < q.length
      · have hy : q[i]? = some q[i] := by simp [hq]
        obtain ⟨y, hye⟩ : ∃ y, y = q[i] := ⟨_, rfl⟩
        rw [← hye] at hy
        have hqd : q.drop i = y :: q.drop (i + 1) := by rw [List.drop_eq_getElem_cons hq, ← hye]
        obtain ⟨ad2, rfl, -, hcy, -⟩ := RowOf.ints (H0.out.2.step (w1 := wr) (ok1 := ok2) (fun k hk hl => ⟨hk, hmod.block k hl id⟩)) hy
        clear hye hy
        rw [hqd] at hc
        simp only [cmpL] at hc
        have HX := Lib.hid (And.intro hi (And.intro hiq (And.intro hmod hc))); clear hi hiq hmod hc hpd hqd
        go_wp2_with fail
        refine (Tryz.cmp_Compare_int x y wr).mono ?_
        rintro e w1 ⟨rfl, rfl⟩
        have hci : Lib.compareInt x y = if x < y then -1 else if y < x then 1 else 0 := rfl
        rw [hci]; clear hci
        by_cases h1 : x < y
        · rw [if_pos h1]
          go_wp2_with fail
          go_ret
          exact ⟨by rw [HX.out.2.2.2, if_pos h1]; rfl, HX.out.2.2.1⟩
        by_cases h2 : y < x
        · rw [if_neg h1, if_pos h2]
          go_wp2_with fail
          go_ret
          exact ⟨by rw [HX.out.2.2.2, if_neg (by omega), if_pos h2]; rfl, HX.out.2.2.1⟩
        rw [if_neg h1, if_neg h2]
        go_wp2_with fail
        go_roundg (gk - 1)
        case measure => have := HX.out.1; omega
        case rel => exact ⟨i + 1, by go_num, by have := HX.out.1; omega, by omega, by rw [HX.out.2.2.2, if_neg (by omega), if_neg (by omega)], HX.out.2.2.1⟩
      · rw [List.drop_eq_nil_of_le (by omega : q.length ≤ i)] at hc
        simp only [cmpL] at hc
        have HX := Lib.hid (And.intro hi (And.intro hiq (And.intro hmod hc))); clear hi hiq hmod hc hpd
        go_wp2_with fail
        go_ret
        exact ⟨by rw [HX.out.2.2.2]; rfl, HX.out.2.2.1⟩
    · rw [List.drop_eq_nil_of_le (by omega : p.length ≤ i)] at hc
      by_cases hq : p.length < q.length
      · have hqd : q.drop i = q[i] :: q.drop (i + 1) := List.drop_eq_getElem_cons (by omega)
        rw [hqd] at hc
        simp only [cmpL] at hc
        have HX := Lib.hid (And.intro hi (And.intro hiq (And.intro hmod hc))); clear hi hiq hmod hc hqd
        go_wp2_with fail
        go_ret
        exact ⟨by rw [HX.out.2.2.2]; rfl, HX.out.2.2.1⟩
      · rw [List.drop_eq_nil_of_le (by omega : q.length ≤ i)] at hc
        simp only [cmpL] at hc
        have HX := Lib.hid (And.intro hi (And.intro hiq (And.intro hmod hc))); clear hi hiq hmod hc
        go_wp2_with fail
        go_ret
        exact ⟨by rw [HX.out.2.2.2]; rfl, HX.out.2.2.1⟩
def cmpS (a b : List UInt8) : Int := if Op.bytesLess a b then -1 else if a = b then 0 else 1
set_option maxRecDepth 100000 in
theorem isNaN_str (a : ByteArray) (w : World) : Calls Tryz.prog 166 #[.string a] w fun r w' => r = .returned (.bool false) ∧ w' = w := by
  go_enter Tryz.func166, Tryz.ntmps166
  go_wp2_with fail
  go_ret
  exact ⟨rfl, rfl⟩
set_option maxRecDepth 100000 in
theorem cmpStr_any (a b : List UInt8) (w : World) : Calls Tryz.prog 151 #[.string ⟨a.toArray⟩, .string ⟨b.toArray⟩] w fun r w' => r = .returned (.int .i64 (cmpS a b)) ∧ Mod (fun _ => False) w w' := by
  go_enter Tryz.func151, Tryz.ntmps151
  go_wp2_with fail
  refine (isNaN_str _ w).mono ?_
  rintro e w1 ⟨rfl, rfl⟩
  go_wp2_with fail
  refine (isNaN_str _ _).mono ?_
  rintro e w1 ⟨rfl, rfl⟩
  go_wp2_with fail
  · rename_i h1
    go_ret
    exact ⟨by simp [cmpS, h1], .refl _ _⟩
  · rename_i h2
    have h1 : Op.bytesLess a b = false := by assumption
    go_ret
    refine ⟨?_, .refl _ _⟩
    have : a ≠ b := by rintro rfl; simp at h2
    simp [cmpS, h1, this]
  · rename_i h2
    have h1 : Op.bytesLess a b = false := by assumption
    go_ret
    refine ⟨?_, .refl _ _⟩
    have : a = b := by simpa using h2
    rw [this] at h1 ⊢
    simp [cmpS, h1]
set_option maxRecDepth 100000 in
theorem or2_any (x y : Int) (g : Nat) (w : World) (h0 : w.cell? ⟨g, 0, none⟩ = some (.int .i64 x)) (h1 : w.cell? ⟨g, 1, none⟩ = some (.int .i64 y)) : Calls Tryz.prog 152 #[.slice (some ⟨g, 0, none⟩) 2 2] w fun r w' => r = .returned (.int .i64 (if x = 0 then y else x)) ∧ Mod (fun _ => False) w w' := by
  go_enter Tryz.func152, Tryz.ntmps152
  by_cases hx : x = 0
  · subst hx
    by_cases hy : y = 0
    · subst hy
      go_wp2_with fail
      refine wp_loop_rounds 3 ?_
      rw [rounds_succ]
      go_wp2_with fail
      rw [rounds_succ]
      go_wp2_with fail
      rw [rounds_succ]
      go_wp2_with fail
      go_ret
      exact ⟨rfl, .refl _ _⟩
    · have hd : (y == 0) = false := by simpa using hy
      go_wp2_with fail
      refine wp_loop_rounds 2 ?_
      rw [rounds_succ]
      go_wp2_with fail
      rw [rounds_succ]
      go_wp2_with fail
      go_ret
      exact ⟨by simp, .refl _ _⟩
  · have hd : (x == 0) = false := by simpa using hx
    obtain ⟨z, hz⟩ : ∃ z, z = if x = 0 then y else x := ⟨_, rfl⟩
    rw [← hz]
    rw [if_neg hx] at hz
    have HZ := Lib.hid hz; clear hz
    go_wp2_with fail
    refine wp_loop_rounds 1 ?_
    rw [rounds_succ]
    go_wp2_with fail
    go_ret
    rw [HZ.out]
    exact ⟨rfl, .refl _ _⟩
/-- The order of two texts. -/
def cmpB (a b : List UInt8) : Int := match parseB a, parseB b with
  | none, none => cmpS a b
  | none, some _ => 1
  | some _, none => -1
  | some (p, m), some (q, n) => if cmpL p q = 0 then Lib.compareInt m n else cmpL p q
set_option maxRecDepth 100000 in
set_option maxHeartbeats 1000000 in
theorem compare_any (a b : List UInt8) (ha : a.length ≤ 140737488355328) (hb : b.length ≤ 140737488355328) (w : World) (E : Env w) :
    Calls Tryz.prog 133 #[.string ⟨a.toArray⟩, .string ⟨b.toArray⟩] w fun r w' => r = .returned (.int .i64 (cmpB a b)) ∧ Mod (fun _ => False) w w' := by
  obtain ⟨z, hz⟩ : ∃ z, z = cmpB a b := ⟨_, rfl⟩
  rw [← hz]
  unfold cmpB at hz
  have HZ := Lib.hid hz; clear hz
  have E0 := Lib.hid E; clear E
  go_enter Tryz.func133, Tryz.ntmps133
  go_wp2_with fail
  refine (parse_rd a ha w E0.out).mono ?_
  rintro r w1 ⟨hm1, hr1⟩
  have HM1 := Lib.hid hm1; clear hm1
  rcases hr1 with ⟨hpa, rfl⟩ | ⟨p, m, A, c, hpa, rfl, hp⟩
  · rw [hpa] at HZ
    have hbp := parse_rd b hb w1 (E0.out.mod0 HM1.out)
    go_wp2_with fail
    refine hbp.mono ?_
    rintro r w2 ⟨hm2, hr2⟩
    have HM2 := Lib.hid (tr0 HM1.out hm2); clear hm2
    rcases hr2 with ⟨hpb, rfl⟩ | ⟨q, n, A2, c2, hpb, rfl, hq⟩
    · rw [hpb] at HZ
      go_wp2_with fail
      refine (cmpStr_any a b w2).mono ?_
      rintro r w3 ⟨rfl, hm⟩
      have HM3 := Lib.hid (tr0 HM2.out hm); clear hm
      go_wp2_with fail
      go_ret
      exact ⟨by rw [HZ.out]; rfl, HM3.out⟩
    · rw [hpb] at HZ
      clear hq
      go_wp2_with fail
      go_ret
      exact ⟨by rw [HZ.out]; rfl, HM2.out⟩
  · rw [hpa] at HZ
    have hbp := parse_rd b hb w1 (E0.out.mod0 HM1.out)
    have HP := Lib.hid hp; clear hp
    go_wp2_with fail
    refine hbp.mono ?_
    rintro r w2 ⟨hm2, hr2⟩
    have HM2 := Lib.hid (And.intro (tr0 HM1.out hm2) (Rd.mod (Rd.bound HP.out) hm2 (fun _ _ => id))); clear hm2 HP
    rcases hr2 with ⟨hpb, rfl⟩ | ⟨q, n, A2, c2, hpb, rfl, hq⟩
    · rw [hpb] at HZ
      go_wp2_with fail
      go_ret
      exact ⟨by rw [HZ.out]; rfl, HM2.out.1⟩
    · rw [hpb] at HZ
      have HQ := Lib.hid hq; clear hq
      go_wp2_with fail
      refine (cmpLists_any A c _ A2 c2 _ p q _ _ w2 HM2.out.2 HQ.out).mono ?_
      rintro r w3 ⟨rfl, hm⟩
      have HM3 := Lib.hid (tr0 HM2.out.1 hm); clear hm
      go_wp2_with fail
      refine (Tryz.cmp_Compare_int m n w3).mono ?_
      rintro r w4 ⟨rfl, rfl⟩
      obtain ⟨x, hx⟩ : ∃ x, x = cmpL p q := ⟨_, rfl⟩
      obtain ⟨y, hy⟩ : ∃ y, y = Lib.compareInt m n := ⟨_, rfl⟩
      dsimp only
      rw [← hx, ← hy] at HZ ⊢
      clear hx hy
      go_wp2_with fail
      refine (or2_any x y w4.heap.size _ ?_ ?_).mono ?_
      · rw [Lib.cell_of_heap (World.alloc_heap_new w4 _)]; rfl
      · rw [Lib.cell_of_heap (World.alloc_heap_new w4 _)]; rfl
      rintro r w5 ⟨rfl, hm⟩
      have HM5 := Lib.hid (tr0 (HM3.out.alloc _) hm); clear hm
      rw [← HZ.out]
      go_wp2_with fail
      go_ret
      exact ⟨rfl, HM5.out⟩
end Go.Proofs.YtefedalnafjcfaaGreatDoor

namespace Go.Proofs.YtefedalnafjcfaaGreatDoor
open Go.RowKit
set_option linter.unusedVariables false
def joinB : List (List UInt8) → List UInt8
  | [] => []
  | [x] => x
  | x :: y :: l => x ++ 46 :: joinB (y :: l)
theorem pathT_join : ∀ p : List Int, pathT p = joinB (p.map Lib.itoa)
  | [] => rfl
  | [k] => rfl
  | k :: b :: l => by
    have := pathT_join (b :: l)
    simp only [List.map_cons] at this ⊢
    rw [pathT, this]
    · rfl
    · simp
theorem join_split : ∀ l : List UInt8, joinB (splitB 46 l) = l
  | [] => rfl
  | b :: l => by
    have ih := join_split l
    by_cases hb : (b == 46) = true
    · rw [splitB_yes l hb]
      obtain rfl : b = 46 := by simpa using hb
      cases hs : splitB 46 l with
      | nil => exact absurd hs (splitB_ne 46 l)
      | cons q qs => rw [hs] at ih; simp [joinB, ih]
    · cases hs : splitB 46 l with
      | nil => exact absurd hs (splitB_ne 46 l)
      | cons q qs =>
        rw [splitB_no hb hs]
        rw [hs] at ih
        cases qs with
        | nil => simp only [joinB] at ih ⊢; rw [ih]
        | cons q2 qs => simp only [joinB] at ih ⊢; rw [List.cons_append, ih]
theorem split_append : ∀ (x l : List UInt8), 46 ∉ x → splitB 46 (x ++ 46 :: l) = x :: splitB 46 l
  | [], l, _ => splitB_yes l rfl
  | b :: x, l, h => by
    have hb : ¬ (b == (46 : UInt8)) = true := by
      intro hb; apply h; rw [show b = 46 by simpa using hb]; simp
    exact splitB_no hb (split_append x l (fun hm => h (by simp [hm])))
theorem split_none : ∀ (x : List UInt8), 46 ∉ x → splitB 46 x = [x]
  | [], _ => rfl
  | b :: x, h => by
    have hb : ¬ (b == (46 : UInt8)) = true := by
      intro hb; apply h; rw [show b = 46 by simpa using hb]; simp
    exact splitB_no hb (split_none x (fun hm => h (by simp [hm])))
theorem split_join : ∀ (xs : List (List UInt8)), xs ≠ [] → (∀ x ∈ xs, 46 ∉ x) → splitB 46 (joinB xs) = xs
  | [], h, _ => absurd rfl h
  | [x], _, h => split_none x (h x (by simp))
  | x :: y :: l, _, h => by
    rw [joinB, split_append x _ (h x (by simp)), split_join (y :: l) (by simp) (fun z hz => h z (List.mem_cons_of_mem _ hz))]
theorem pathS_map : ∀ (xs : List (List UInt8)) (acc p : List Int), pathS acc xs = some p → ∃ ks : List Int, p = acc ++ ks ∧ ks.map Lib.itoa = xs
  | [], acc, p, h => by simp only [pathS, Option.some.injEq] at h; exact ⟨[], by simp [h], rfl⟩
  | x :: xs, acc, p, h => by
    simp only [pathS] at h
    split at h
    · cases h
    · rename_i k hk
      split at h
      · cases h
      · obtain ⟨ks, h1, h2⟩ := pathS_map xs _ p h
        exact ⟨k :: ks, by rw [h1]; simp, by simp [h2, (numB_some hk).2.2]⟩
theorem pathS_ok : ∀ (ks acc : List Int), (∀ k ∈ ks, 0 ≤ k ∧ k ≤ 1048576) → acc.length + ks.length ≤ 6 → pathS acc (ks.map Lib.itoa) = some (acc ++ ks)
  | [], acc, _, _ => by simp [pathS]
  | k :: ks, acc, h, hl => by
    have hk := h k (by simp)
    simp only [List.length_cons] at hl
    simp only [List.map_cons, pathS, numB_itoa k 1048576 hk.1 hk.2 (by decide)]
    rw [if_neg (by omega), pathS_ok ks (acc ++ [k]) (fun x hx => h x (List.mem_cons_of_mem _ hx)) (by simp; omega)]
    simp
theorem dec_mem (u : Nat) : ∀ c ∈ Lib.decDigits u, 48 ≤ c.toNat ∧ c.toNat ≤ 57 := by
  have one : ∀ d, d < 10 → (UInt8.ofNat (48 + d)).toNat = 48 + d := fun d hd => by simp; omega
  rw [Lib.decDigits]
  split
  · rename_i h
    intro c hc; rw [List.mem_singleton.1 hc, one u h]; omega
  · intro c hc
    rcases List.mem_append.1 hc with hc | hc
    · exact dec_mem (u / 10) c hc
    · rw [List.mem_singleton.1 hc, one (u % 10) (by omega)]; omega
theorem itoa_mem {k : Int} (h : 0 ≤ k) : ∀ c ∈ Lib.itoa k, 48 ≤ c.toNat ∧ c.toNat ≤ 57 := by
  obtain ⟨u, rfl⟩ : ∃ u : Nat, k = u := ⟨k.toNat, by omega⟩
  rw [Lib.itoa_nonneg]; exact dec_mem u
theorem itoa_ne (k : Int) (h : 0 ≤ k) : Lib.itoa k ≠ [] := by
  obtain ⟨u, rfl⟩ : ∃ u : Nat, k = u := ⟨k.toNat, by omega⟩
  rw [Lib.itoa_nonneg]
  obtain ⟨c, r, h, _⟩ := dec_head u
  rw [h]; simp
theorem index_app : ∀ (x l : List UInt8) (c : UInt8), c ∉ x → Lib.indexByte (x ++ c :: l) c = x.length
  | [], l, c, _ => by unfold Lib.indexByte; simp
  | b :: x, l, c, h => by
    have hb : ¬ (b == c) = true := by intro hb; apply h; rw [show b = c by simpa using hb]; simp
    have := index_app x l c (fun hm => h (by simp [hm]))
    rw [List.cons_append]
    unfold Lib.indexByte
    rw [if_neg hb, this, if_neg (by simp)]
    simp
theorem cutB_app {x l : List UInt8} {c : UInt8} (h : c ∉ x) : cutB c (x ++ c :: l) = (x, l, true) := by
  unfold cutB
  rw [index_app x l c h, if_neg (by omega)]
  simp
theorem index_split {c : UInt8} : ∀ {l : List UInt8} {i : Nat}, Lib.indexByte l c = (i : Int) → l = l.take i ++ c :: l.drop (i + 1)
  | [], i, h => by simp [Lib.indexByte] at h
  | b :: l, i, h => by
    unfold Lib.indexByte at h
    by_cases hb : (b == c) = true
    · rw [if_pos hb] at h
      obtain rfl : i = 0 := by omega
      simp; simpa using hb
    · rw [if_neg hb] at h
      by_cases hi : (Lib.indexByte l c == -1) = true
      · rw [if_pos hi] at h; omega
      · rw [if_neg hi] at h
        have h3 := Lib.indexByte_ge l c
        have hi' : Lib.indexByte l c ≠ -1 := by simpa using hi
        have hj : Lib.indexByte l c = ((Lib.indexByte l c).toNat : Int) := by omega
        obtain ⟨j, hjj⟩ : ∃ j, j = (Lib.indexByte l c).toNat := ⟨_, rfl⟩
        rw [← hjj] at hj
        obtain rfl : i = j + 1 := by omega
        have := index_split hj
        simp only [List.take_succ_cons, List.drop_succ_cons, List.cons_append]
        rw [← this]
theorem cutB_yes {l : List UInt8} {c : UInt8} (h : (cutB c l).2.2 = true) : l = (cutB c l).1 ++ c :: (cutB c l).2.1 := by
  unfold cutB at h ⊢
  split
  · rename_i hi; rw [if_pos hi] at h; cases h
  · rename_i hi
    dsimp only
    have h0 := Lib.indexByte_ge l c
    have hj : Lib.indexByte l c = ((Lib.indexByte l c).toNat : Int) := by omega
    have h2 := index_split hj
    exact h2
theorem catT_parse {l : List UInt8} {p : List Int} {n : Int} (h : parseB l = some (p, n)) : catT p n = l := by
  unfold parseB parseC at h
  split at h
  · cases h
  · rename_i k hk
    have hkl := (numB_some hk).2.2
    split at h
    · cases h
    · rename_i hok
      have hc := cutB_yes (l := l) (c := 47) (by simpa using hok)
      split at h
      · rename_i hw
        simp only [Option.some.injEq, Prod.mk.injEq] at h
        obtain ⟨rfl, rfl⟩ := h
        rw [hw, ← hkl] at hc
        rw [hc]; rfl
      · rename_i hw
        cases hp : pathS [] (splitB 46 (cutB 47 l).1) with
        | none => rw [hp] at h; cases h
        | some q =>
          rw [hp] at h
          simp only [Option.map_some, Option.some.injEq, Prod.mk.injEq] at h
          obtain ⟨rfl, rfl⟩ := h
          obtain ⟨ks, h1, h2⟩ := pathS_map _ _ _ hp
          rw [List.nil_append] at h1
          subst h1
          unfold catT
          rw [pathT_join, h2, join_split, hkl, ← hc]
theorem fitsB_iff (p : List Int) (n : Int) : fitsB p n = true ↔ 0 ≤ n ∧ n ≤ 65535 ∧ p.length ≤ 6 ∧ ∀ k ∈ p, 0 ≤ k ∧ k ≤ 1048576 := by
  unfold fitsB
  simp only [Bool.and_eq_true, decide_eq_true_eq, List.all_eq_true]
  constructor
  · rintro ⟨⟨⟨a, b⟩, c⟩, d⟩; exact ⟨a, b, c, d⟩
  · rintro ⟨a, b, c, d⟩; exact ⟨⟨⟨a, b⟩, c⟩, d⟩
theorem pathT_mem : ∀ p : List Int, (∀ k ∈ p, 0 ≤ k) → ∀ c ∈ pathT p, c = 46 ∨ (48 ≤ c.toNat ∧ c.toNat ≤ 57)
  | [], _, c, h => by simp [pathT] at h
  | [k], hk, c, h => .inr (itoa_mem (hk k (by simp)) c h)
  | k :: b :: l, hk, c, h => by
    simp only [pathT] at h
    rcases List.mem_append.1 h with h | h
    · exact .inr (itoa_mem (hk k (by simp)) c h)
    · rcases List.mem_cons.1 h with h | h
      · exact .inl h
      · exact pathT_mem (b :: l) (fun x hx => hk x (List.mem_cons_of_mem _ hx)) c h
theorem pathT_nil {p : List Int} (hk : ∀ k ∈ p, 0 ≤ k) (h : pathT p = []) : p = [] := by
  match p, h with
  | [], _ => rfl
  | [k], h => exact absurd h (itoa_ne k (hk k (by simp)))
  | k :: b :: l, h => simp [pathT] at h
theorem parse_catT {p : List Int} {n : Int} (h : fitsB p n = true) : parseB (catT p n) = some (p, n) := by
  obtain ⟨h1, h2, h3, h4⟩ := (fitsB_iff p n).1 h
  have h0 : ∀ k ∈ p, 0 ≤ k := fun k hk => (h4 k hk).1
  have hno : (47 : UInt8) ∉ pathT p := fun hm => by
    rcases pathT_mem p h0 47 hm with h | h
    · exact absurd h (by decide)
    · exact absurd h.1 (by decide)
  unfold parseB catT
  rw [cutB_app hno]
  unfold parseC
  rw [numB_itoa n 65535 h1 h2 (by decide)]
  dsimp only
  rw [if_neg (by simp)]
  by_cases hp : pathT p = []
  · rw [if_pos hp, pathT_nil h0 hp]
  · rw [if_neg hp]
    have hpn : p ≠ [] := by rintro rfl; exact hp rfl
    have hs : splitB 46 (pathT p) = p.map Lib.itoa := by
      rw [pathT_join]
      refine split_join _ (by simpa using hpn) ?_
      intro x hx hm
      obtain ⟨k, hk, rfl⟩ := List.mem_map.1 hx
      exact absurd (itoa_mem (h0 k hk) 46 hm).1 (by decide)
    rw [hs, pathS_ok p [] h4 (by simpa using h3)]
    rfl
/-- Parse finds just what is named. -/
theorem parse_iff {l : List UInt8} {p : List Int} {n : Int} : parseB l = some (p, n) ↔ fitsB p n = true ∧ catT p n = l := by
  constructor
  · intro h
    obtain ⟨a, b, c, d⟩ := parseB_range h
    exact ⟨(fitsB_iff p n).2 ⟨c, d, b, a⟩, catT_parse h⟩
  · rintro ⟨h1, rfl⟩
    exact parse_catT h1
theorem parse_inj {a b : List UInt8} {x : List Int × Int} (h1 : parseB a = some x) (h2 : parseB b = some x) : a = b := by
  obtain ⟨p, n⟩ := x
  rw [← catT_parse h1, ← catT_parse h2]
theorem cmpL_self : ∀ p : List Int, cmpL p p = 0
  | [] => rfl
  | x :: p => by simp [cmpL, cmpL_self p]
theorem cmpL_zero : ∀ p q : List Int, cmpL p q = 0 → p = q
  | [], [], _ => rfl
  | [], _ :: _, h => by simp [cmpL] at h
  | _ :: _, [], h => by simp [cmpL] at h
  | x :: p, y :: q, h => by
    simp only [cmpL] at h
    split at h
    · cases h
    · split at h
      · cases h
      · rw [show x = y by omega, cmpL_zero p q h]
theorem cmpL_val : ∀ p q : List Int, cmpL p q = -1 ∨ cmpL p q = 0 ∨ cmpL p q = 1
  | [], [] => by simp [cmpL]
  | [], _ :: _ => by simp [cmpL]
  | _ :: _, [] => by simp [cmpL]
  | x :: p, y :: q => by
    simp only [cmpL]
    split
    · simp
    · split
      · simp
      · exact cmpL_val p q
theorem cmpL_neg : ∀ p q : List Int, cmpL q p = -cmpL p q
  | [], [] => by simp [cmpL]
  | [], _ :: _ => by simp [cmpL]
  | _ :: _, [] => by simp [cmpL]
  | x :: p, y :: q => by
    simp only [cmpL]
    by_cases h1 : x < y
    · rw [if_neg (by omega), if_pos h1, if_pos h1]; rfl
    · by_cases h2 : y < x
      · rw [if_pos h2, if_neg h1, if_pos h2]
      · rw [if_neg h2, if_neg h1, if_neg h1, if_neg h2]; exact cmpL_neg p q
theorem cmpL_trans : ∀ p q r : List Int, cmpL p q ≤ 0 → cmpL q r ≤ 0 → cmpL p r ≤ 0 ∧ (cmpL p r = 0 → cmpL p q = 0 ∧ cmpL q r = 0)
  | [], [], [], _, _ => by simp [cmpL]
  | [], [], _ :: _, _, _ => by simp [cmpL]
  | [], _ :: _, [], _, h => by simp [cmpL] at h
  | [], _ :: _, _ :: _, _, _ => by simp [cmpL]
  | _ :: _, [], _, h, _ => by simp [cmpL] at h
  | _ :: _, _ :: _, [], _, h => by simp [cmpL] at h
  | x :: p, y :: q, z :: r, h1, h2 => by
    have ih := cmpL_trans p q r
    simp only [cmpL] at h1 h2 ⊢
    by_cases a : x < y <;> by_cases b : y < x <;> by_cases c : y < z <;> by_cases d : z < y <;> simp only [a, b, c, d, if_true, if_false] at h1 h2 ⊢ <;> first
      | omega
      | (rw [if_pos (by omega)]; simp)
      | (rw [if_neg (by omega), if_neg (by omega)]; exact ih h1 h2)
theorem cmpS_eq (a b : List UInt8) : cmpS a b = if a < b then -1 else if a = b then 0 else 1 := by
  unfold cmpS
  rw [bytesLess_eq]
  simp
theorem ltL_irrefl (a : List UInt8) : ¬ a < a := List.lt_irrefl a
theorem ltL_trans {a b c : List UInt8} (h1 : a < b) (h2 : b < c) : a < c := List.lt_trans h1 h2
theorem ltL_tri (a b : List UInt8) (h : ¬ a < b) (hne : a ≠ b) : b < a := by
  by_cases h2 : b < a
  · exact h2
  · exact absurd (List.le_antisymm (List.not_lt.1 h2) (List.not_lt.1 h)) hne
theorem cmpS_neg (a b : List UInt8) : cmpS b a = -cmpS a b := by
  rw [cmpS_eq, cmpS_eq]
  by_cases he : a = b
  · subst he; simp [ltL_irrefl]
  · by_cases h : a < b
    · have h2 : ¬ b < a := fun h2 => ltL_irrefl a (ltL_trans h h2)
      simp [h, h2, Ne.symm he]
    · have h2 := ltL_tri a b h he
      simp [h, h2, he]
theorem cmpS_zero {a b : List UInt8} (h : cmpS a b = 0) : a = b := by
  rw [cmpS_eq] at h
  split at h
  · cases h
  · split at h
    · assumption
    · cases h
theorem cmpS_trans {a b c : List UInt8} (h1 : cmpS a b ≤ 0) (h2 : cmpS b c ≤ 0) : cmpS a c ≤ 0 := by
  have g : ∀ x y : List UInt8, cmpS x y ≤ 0 ↔ x < y ∨ x = y := fun x y => by
    rw [cmpS_eq]
    by_cases h : x < y
    · simp [h]
    · by_cases he : x = y
      · simp [he]; split <;> simp
      · simp [h, he]
  rw [g] at h1 h2 ⊢
  rcases h1 with h1 | rfl
  · rcases h2 with h2 | rfl
    · exact .inl (ltL_trans h1 h2)
    · exact .inl h1
  · exact h2
theorem cmpI_neg (x y : Int) : Lib.compareInt y x = -Lib.compareInt x y := by
  unfold Lib.compareInt
  by_cases h1 : x < y
  · rw [if_neg (by omega), if_pos (by omega), if_pos h1]; rfl
  · by_cases h2 : y < x
    · rw [if_pos h2, if_neg h1, if_pos (by omega)]
    · rw [if_neg h2, if_neg (by omega), if_neg h1, if_neg (by omega)]; rfl
theorem cmpI_zero {x y : Int} (h : Lib.compareInt x y = 0) : x = y := by
  unfold Lib.compareInt at h
  split at h
  · cases h
  · split at h
    · cases h
    · omega
theorem cmpI_le {x y : Int} : Lib.compareInt x y ≤ 0 ↔ x ≤ y := by
  unfold Lib.compareInt
  split
  · simp; omega
  · split
    · simp; omega
    · simp; omega
theorem cmpB_neg (a b : List UInt8) : cmpB b a = -cmpB a b := by
  unfold cmpB
  cases ha : parseB a with
  | none =>
    cases hb : parseB b with
    | none => exact cmpS_neg a b
    | some y => rfl
  | some x =>
    cases hb : parseB b with
    | none => rfl
    | some y =>
      obtain ⟨p, m⟩ := x
      obtain ⟨q, n⟩ := y
      dsimp only
      rw [cmpL_neg p q]
      by_cases h : cmpL p q = 0
      · rw [if_pos (by omega), if_pos h, cmpI_neg]
      · rw [if_neg (by omega), if_neg h]
theorem cmpB_zero {a b : List UInt8} (h : cmpB a b = 0) : a = b := by
  unfold cmpB at h
  cases ha : parseB a with
  | none =>
    cases hb : parseB b with
    | none => rw [ha, hb] at h; exact cmpS_zero h
    | some y => rw [ha, hb] at h; cases h
  | some x =>
    cases hb : parseB b with
    | none => rw [ha, hb] at h; cases h
    | some y =>
      obtain ⟨p, m⟩ := x
      obtain ⟨q, n⟩ := y
      rw [ha, hb] at h
      dsimp only at h
      split at h
      · rename_i hc
        have := cmpL_zero p q hc
        have := cmpI_zero h
        subst_vars
        exact parse_inj ha hb
      · contradiction
theorem cmpB_self (a : List UInt8) : cmpB a a = 0 := by have := cmpB_neg a a; omega
theorem cmpB_trans {a b c : List UInt8} (h1 : cmpB a b ≤ 0) (h2 : cmpB b c ≤ 0) : cmpB a c ≤ 0 := by
  unfold cmpB at h1 h2 ⊢
  cases ha : parseB a <;> cases hb : parseB b <;> cases hc : parseB c <;> simp only [ha, hb, hc] at h1 h2 ⊢ <;> first
    | exact cmpS_trans h1 h2
    | omega
    | skip
  rename_i x y z
  obtain ⟨p, m⟩ := x
  obtain ⟨q, n⟩ := y
  obtain ⟨r, k⟩ := z
  dsimp only at h1 h2 ⊢
  have g1 : cmpL p q ≤ 0 := by split at h1 <;> omega
  have g2 : cmpL q r ≤ 0 := by split at h2 <;> omega
  obtain ⟨t1, t2⟩ := cmpL_trans p q r g1 g2
  split
  · rename_i h0
    obtain ⟨u1, u2⟩ := t2 h0
    rw [if_pos u1] at h1
    rw [if_pos u2] at h2
    rw [cmpI_le] at h1 h2 ⊢
    omega
  · exact t1
end Go.Proofs.YtefedalnafjcfaaGreatDoor

