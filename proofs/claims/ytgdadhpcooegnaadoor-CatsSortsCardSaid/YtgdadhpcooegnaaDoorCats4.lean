/- Layer 5, cats: Right, the comparisons, Compare. -/
import Derived.Test.YtgdadhpcooegnaaDoorCats3
import Derived.Lib.MinMax
namespace Go.Proofs.YtgdadhpcooegnaaDoor
open Go.RowKit Go.Shelf
set_option linter.unusedVariables false
theorem pathS_range : ∀ (xs : List (List UInt8)) (acc p : List Int), pathS acc xs = some p → (∀ k ∈ acc, 0 ≤ k ∧ k ≤ 1048576) → acc.length ≤ 6 → (∀ k ∈ p, 0 ≤ k ∧ k ≤ 1048576) ∧ p.length ≤ 6
  | [], acc, p, h, h1, h2 => by simp only [pathS, Option.some.injEq] at h; subst h; exact ⟨h1, h2⟩
  | x :: xs, acc, p, h, h1, h2 => by
    simp only [pathS] at h
    split at h
    · cases h
    · rename_i k hk
      obtain ⟨k0, k1, -⟩ := numB_some hk
      split at h
      · cases h
      · refine pathS_range xs _ p h ?_ (by simp; omega)
        intro j hj
        rcases List.mem_append.1 hj with hj | hj
        · exact h1 j hj
        · rw [List.mem_singleton.1 hj]; exact ⟨k0, k1⟩
theorem parseB_range {l : List UInt8} {p : List Int} {n : Int} (h : parseB l = some (p, n)) : (∀ k ∈ p, 0 ≤ k ∧ k ≤ 1048576) ∧ p.length ≤ 6 ∧ 0 ≤ n ∧ n ≤ 65535 := by
  unfold parseB parseC at h
  split at h
  · cases h
  · rename_i k hk
    obtain ⟨k0, k1, -⟩ := numB_some hk
    split at h
    · cases h
    · split at h
      · cases h; exact ⟨by simp, by simp, k0, k1⟩
      · cases hp : pathS [] (splitB 46 (cutB 47 l).1) with
        | none => rw [hp] at h; cases h
        | some q =>
          rw [hp] at h
          simp only [Option.map_some, Option.some.injEq, Prod.mk.injEq] at h
          obtain ⟨rfl, rfl⟩ := h
          have := pathS_range _ _ _ hp (by simp) (by simp)
          exact ⟨this.1, this.2, k0, k1⟩
/-- Parse in the words of its readers. -/
theorem parse_rd (l : List UInt8) (hl : l.length ≤ 140737488355328) (w : World) (E : Env w) :
    Calls Tryd.prog 8 #[.string ⟨l.toArray⟩] w fun r w' => Mod (fun _ => False) w w' ∧ ((parseB l = none ∧ r = .returned (.tuple #[.slice none 0 0, .int .i64 0, .bool false])) ∨
      ∃ p n A c, parseB l = some (p, n) ∧ r = .returned (.tuple #[.slice A p.length c, .int .i64 n, .bool true]) ∧ intsR.rel w' (fun k => w.heap.size ≤ k) [.slice A p.length c] p) := by
  refine (parse_any l hl w E).mono ?_
  rintro r w' ⟨⟨h1, h2⟩, hm⟩
  refine ⟨hm, ?_⟩
  cases hp : parseB l with
  | none => exact .inl ⟨rfl, h1 hp⟩
  | some x =>
    obtain ⟨p, n⟩ := x
    obtain ⟨v, hr, hrow⟩ := h2 p n hp
    obtain ⟨r1, r2, r3, r4⟩ := parseB_range hp
    obtain ⟨A, c, rfl⟩ := own_slice hrow
    have hI := reads_ints hrow (fun x hx => inR_mk (by have := r1 x hx; omega)) (by omega)
    exact .inr ⟨p, n, A, c, rfl, hr, Rd.mono hI (fun k hk => (own_lt hrow k hk).1)⟩
def rightB (l : List UInt8) : Bool := (parseB l).isSome
set_option maxRecDepth 100000 in
theorem right_any (l : List UInt8) (hl : l.length ≤ 140737488355328) (w : World) (E : Env w) :
    Calls Tryd.prog 10 #[.string ⟨l.toArray⟩] w fun r w' => r = .returned (.bool (rightB l)) ∧ Mod (fun _ => False) w w' := by
  have hp := parse_rd l hl w E
  unfold rightB
  cases hb : parseB l with
  | none =>
    rw [hb] at hp
    go_enter Tryd.func10, Tryd.ntmps10
    go_wp2_with fail
    refine hp.mono ?_
    rintro e w1 ⟨hm, ⟨-, rfl⟩ | ⟨p, n, A, c, h, -⟩⟩
    · go_wp2_with fail
      go_ret
      exact ⟨rfl, hm⟩
    · cases h
  | some x =>
    rw [hb] at hp
    go_enter Tryd.func10, Tryd.ntmps10
    go_wp2_with fail
    refine hp.mono ?_
    rintro e w1 ⟨hm, ⟨h, -⟩ | ⟨p, n, A, c, h, rfl, -⟩⟩
    · cases h
    · have HM := Lib.hid hm; clear hm
      go_wp2_with fail
      go_ret
      exact ⟨rfl, HM.out⟩
def cmpL : List Int → List Int → Int
  | [], [] => 0
  | [], _ :: _ => -1
  | _ :: _, [] => 1
  | x :: xs, y :: ys => if x < y then -1 else if y < x then 1 else cmpL xs ys
set_option maxRecDepth 100000 in
theorem cmpLists_any (A : Option Addr) (c m : Nat) (A2 : Option Addr) (c2 m2 : Nat) (p q : List Int) (ok ok2 : Nat → Prop) (w : World) (h : intsR.rel w ok [.slice A m c] p) (h2 : intsR.rel w ok2 [.slice A2 m2 c2] q) :
    Calls Tryd.prog 28 #[.slice A m c, .slice A2 m2 c2] w fun r w' => r = .returned (.int .i64 (cmpL p q)) ∧ Mod (fun _ => False) w w' := by
  obtain ⟨rfl, hcap, -, hbig, -, hrow⟩ := ints_row h
  obtain ⟨rfl, hcap2, -, hbig2, -, hrow2⟩ := ints_row h2
  go_enter Tryd.func28, Tryd.ntmps28
  have H0 := Lib.hid (And.intro hrow hrow2); clear h h2 hrow hrow2
  go_wp2_with fail
  go_loopg [11] p.length (fun f si wr => ∃ i : Nat, si = .int .i64 i ∧ i + f = p.length ∧ i ≤ q.length ∧ cmpL p q = cmpL (p.drop i) (q.drop i) ∧ Mod (fun _ => False) w wr)
  case atStart => exact ⟨0, rfl, by omega, by omega, by simp, .refl _ _⟩
  case round =>
    obtain ⟨i, rfl, hi, hiq, hc, hmod⟩ := hrel
    by_cases hlt : i < p.length
    · have hx : p[i]? = some p[i] := by simp [hlt]
      obtain ⟨x, hxe⟩ : ∃ x, x = p[i] := ⟨_, rfl⟩
      rw [← hxe] at hx
      have hpd : p.drop i = x :: p.drop (i + 1) := by rw [List.drop_eq_getElem_cons hlt, ← hxe]
      obtain ⟨ad, rfl, -, hcx, -⟩ := RowOf.ints (H0.out.1.step (w1 := wr) (ok1 := ok) (fun k hk hl => ⟨hk, hmod.block k hl id⟩)) hx
      clear hxe hx
      rw [hpd] at hc
      by_cases hq : i < q.length
      · have hy : q[i]? = some q[i] := by simp [hq]
        obtain ⟨y, hye⟩ : ∃ y, y = q[i] := ⟨_, rfl⟩
        rw [← hye] at hy
        have hqd : q.drop i = y :: q.drop (i + 1) := by rw [List.drop_eq_getElem_cons hq, ← hye]
        obtain ⟨ad2, rfl, -, hcy, -⟩ := RowOf.ints (H0.out.2.step (w1 := wr) (ok1 := ok2) (fun k hk hl => ⟨hk, hmod.block k hl id⟩)) hy
        clear hye hy
        rw [hqd] at hc
        simp only [cmpL] at hc
        have HX := Lib.hid (And.intro hi (And.intro hiq (And.intro hmod hc))); clear hi hiq hmod hc hpd hqd
        go_wp2_with fail
        refine (Tryd.cmp_Compare_int x y wr).mono ?_
        rintro e w1 ⟨rfl, rfl⟩
        have hci : Lib.compareInt x y = if x < y then -1 else if y < x then 1 else 0 := rfl
        rw [hci]; clear hci
        by_cases h1 : x < y
        · rw [if_pos h1]
          go_wp2_with fail
          go_ret
          exact ⟨by rw [HX.out.2.2.2, if_pos h1]; rfl, HX.out.2.2.1⟩
        by_cases h2 : y < x
        · rw [if_neg h1, if_pos h2]
          go_wp2_with fail
          go_ret
          exact ⟨by rw [HX.out.2.2.2, if_neg (by omega), if_pos h2]; rfl, HX.out.2.2.1⟩
        rw [if_neg h1, if_neg h2]
        go_wp2_with fail
        go_roundg (gk - 1)
        case measure => have := HX.out.1; omega
        case rel => exact ⟨i + 1, by go_num, by have := HX.out.1; omega, by omega, by rw [HX.out.2.2.2, if_neg (by omega), if_neg (by omega)], HX.out.2.2.1⟩
      · rw [List.drop_eq_nil_of_le (by omega : q.length ≤ i)] at hc
        simp only [cmpL] at hc
        have HX := Lib.hid (And.intro hi (And.intro hiq (And.intro hmod hc))); clear hi hiq hmod hc hpd
        go_wp2_with fail
        go_ret
        exact ⟨by rw [HX.out.2.2.2]; rfl, HX.out.2.2.1⟩
    · rw [List.drop_eq_nil_of_le (by omega : p.length ≤ i)] at hc
      by_cases hq : p.length < q.length
      · have hqd : q.drop i = q[i] :: q.drop (i + 1) := List.drop_eq_getElem_cons (by omega)
        rw [hqd] at hc
        simp only [cmpL] at hc
        have HX := Lib.hid (And.intro hi (And.intro hiq (And.intro hmod hc))); clear hi hiq hmod hc hqd
        go_wp2_with fail
        go_ret
        exact ⟨by rw [HX.out.2.2.2]; rfl, HX.out.2.2.1⟩
      · rw [List.drop_eq_nil_of_le (by omega : q.length ≤ i)] at hc
        simp only [cmpL] at hc
        have HX := Lib.hid (And.intro hi (And.intro hiq (And.intro hmod hc))); clear hi hiq hmod hc
        go_wp2_with fail
        go_ret
        exact ⟨by rw [HX.out.2.2.2]; rfl, HX.out.2.2.1⟩
def cmpS (a b : List UInt8) : Int := if Op.bytesLess a b then -1 else if a = b then 0 else 1
set_option maxRecDepth 100000 in
theorem isNaN_str (a : ByteArray) (w : World) : Calls Tryd.prog 42 #[.string a] w fun r w' => r = .returned (.bool false) ∧ w' = w := by
  go_enter Tryd.func42, Tryd.ntmps42
  go_wp2_with fail
  go_ret
  exact ⟨rfl, rfl⟩
set_option maxRecDepth 100000 in
theorem cmpStr_any (a b : List UInt8) (w : World) : Calls Tryd.prog 26 #[.string ⟨a.toArray⟩, .string ⟨b.toArray⟩] w fun r w' => r = .returned (.int .i64 (cmpS a b)) ∧ Mod (fun _ => False) w w' := by
  go_enter Tryd.func26, Tryd.ntmps26
  go_wp2_with fail
  refine (isNaN_str _ w).mono ?_
  rintro e w1 ⟨rfl, rfl⟩
  go_wp2_with fail
  refine (isNaN_str _ _).mono ?_
  rintro e w1 ⟨rfl, rfl⟩
  go_wp2_with fail
  · rename_i h1
    go_ret
    exact ⟨by simp [cmpS, h1], .refl _ _⟩
  · rename_i h2
    have h1 : Op.bytesLess a b = false := by assumption
    go_ret
    refine ⟨?_, .refl _ _⟩
    have : a ≠ b := by rintro rfl; simp at h2
    simp [cmpS, h1, this]
  · rename_i h2
    have h1 : Op.bytesLess a b = false := by assumption
    go_ret
    refine ⟨?_, .refl _ _⟩
    have : a = b := by simpa using h2
    rw [this] at h1 ⊢
    simp [cmpS, h1]
set_option maxRecDepth 100000 in
theorem or2_any (x y : Int) (g : Nat) (w : World) (h0 : w.cell? ⟨g, 0, none⟩ = some (.int .i64 x)) (h1 : w.cell? ⟨g, 1, none⟩ = some (.int .i64 y)) : Calls Tryd.prog 27 #[.slice (some ⟨g, 0, none⟩) 2 2] w fun r w' => r = .returned (.int .i64 (if x = 0 then y else x)) ∧ Mod (fun _ => False) w w' := by
  go_enter Tryd.func27, Tryd.ntmps27
  by_cases hx : x = 0
  · subst hx
    by_cases hy : y = 0
    · subst hy
      go_wp2_with fail
      refine wp_loop_rounds 3 ?_
      rw [rounds_succ]
      go_wp2_with fail
      rw [rounds_succ]
      go_wp2_with fail
      rw [rounds_succ]
      go_wp2_with fail
      go_ret
      exact ⟨rfl, .refl _ _⟩
    · have hd : (y == 0) = false := by simpa using hy
      go_wp2_with fail
      refine wp_loop_rounds 2 ?_
      rw [rounds_succ]
      go_wp2_with fail
      rw [rounds_succ]
      go_wp2_with fail
      go_ret
      exact ⟨by simp, .refl _ _⟩
  · have hd : (x == 0) = false := by simpa using hx
    obtain ⟨z, hz⟩ : ∃ z, z = if x = 0 then y else x := ⟨_, rfl⟩
    rw [← hz]
    rw [if_neg hx] at hz
    have HZ := Lib.hid hz; clear hz
    go_wp2_with fail
    refine wp_loop_rounds 1 ?_
    rw [rounds_succ]
    go_wp2_with fail
    go_ret
    rw [HZ.out]
    exact ⟨rfl, .refl _ _⟩
/-- The order of two texts. -/
def cmpB (a b : List UInt8) : Int := match parseB a, parseB b with
  | none, none => cmpS a b
  | none, some _ => 1
  | some _, none => -1
  | some (p, m), some (q, n) => if cmpL p q = 0 then Lib.compareInt m n else cmpL p q
set_option maxRecDepth 100000 in
set_option maxHeartbeats 1000000 in
theorem compare_any (a b : List UInt8) (ha : a.length ≤ 140737488355328) (hb : b.length ≤ 140737488355328) (w : World) (E : Env w) :
    Calls Tryd.prog 14 #[.string ⟨a.toArray⟩, .string ⟨b.toArray⟩] w fun r w' => r = .returned (.int .i64 (cmpB a b)) ∧ Mod (fun _ => False) w w' := by
  obtain ⟨z, hz⟩ : ∃ z, z = cmpB a b := ⟨_, rfl⟩
  rw [← hz]
  unfold cmpB at hz
  have HZ := Lib.hid hz; clear hz
  have E0 := Lib.hid E; clear E
  go_enter Tryd.func14, Tryd.ntmps14
  go_wp2_with fail
  refine (parse_rd a ha w E0.out).mono ?_
  rintro r w1 ⟨hm1, hr1⟩
  have HM1 := Lib.hid hm1; clear hm1
  rcases hr1 with ⟨hpa, rfl⟩ | ⟨p, m, A, c, hpa, rfl, hp⟩
  · rw [hpa] at HZ
    have hbp := parse_rd b hb w1 (E0.out.mod0 HM1.out)
    go_wp2_with fail
    refine hbp.mono ?_
    rintro r w2 ⟨hm2, hr2⟩
    have HM2 := Lib.hid (tr0 HM1.out hm2); clear hm2
    rcases hr2 with ⟨hpb, rfl⟩ | ⟨q, n, A2, c2, hpb, rfl, hq⟩
    · rw [hpb] at HZ
      go_wp2_with fail
      refine (cmpStr_any a b w2).mono ?_
      rintro r w3 ⟨rfl, hm⟩
      have HM3 := Lib.hid (tr0 HM2.out hm); clear hm
      go_wp2_with fail
      go_ret
      exact ⟨by rw [HZ.out]; rfl, HM3.out⟩
    · rw [hpb] at HZ
      clear hq
      go_wp2_with fail
      go_ret
      exact ⟨by rw [HZ.out]; rfl, HM2.out⟩
  · rw [hpa] at HZ
    have hbp := parse_rd b hb w1 (E0.out.mod0 HM1.out)
    have HP := Lib.hid hp; clear hp
    go_wp2_with fail
    refine hbp.mono ?_
    rintro r w2 ⟨hm2, hr2⟩
    have HM2 := Lib.hid (And.intro (tr0 HM1.out hm2) (Rd.mod (Rd.bound HP.out) hm2 (fun _ _ => id))); clear hm2 HP
    rcases hr2 with ⟨hpb, rfl⟩ | ⟨q, n, A2, c2, hpb, rfl, hq⟩
    · rw [hpb] at HZ
      go_wp2_with fail
      go_ret
      exact ⟨by rw [HZ.out]; rfl, HM2.out.1⟩
    · rw [hpb] at HZ
      have HQ := Lib.hid hq; clear hq
      go_wp2_with fail
      refine (cmpLists_any A c _ A2 c2 _ p q _ _ w2 HM2.out.2 HQ.out).mono ?_
      rintro r w3 ⟨rfl, hm⟩
      have HM3 := Lib.hid (tr0 HM2.out.1 hm); clear hm
      go_wp2_with fail
      refine (Tryd.cmp_Compare_int m n w3).mono ?_
      rintro r w4 ⟨rfl, rfl⟩
      obtain ⟨x, hx⟩ : ∃ x, x = cmpL p q := ⟨_, rfl⟩
      obtain ⟨y, hy⟩ : ∃ y, y = Lib.compareInt m n := ⟨_, rfl⟩
      dsimp only
      rw [← hx, ← hy] at HZ ⊢
      clear hx hy
      go_wp2_with fail
      refine (or2_any x y w4.heap.size _ ?_ ?_).mono ?_
      · rw [Lib.cell_of_heap (World.alloc_heap_new w4 _)]; rfl
      · rw [Lib.cell_of_heap (World.alloc_heap_new w4 _)]; rfl
      rintro r w5 ⟨rfl, hm⟩
      have HM5 := Lib.hid (tr0 (HM3.out.alloc _) hm); clear hm
      rw [← HZ.out]
      go_wp2_with fail
      go_ret
      exact ⟨rfl, HM5.out⟩
end Go.Proofs.YtgdadhpcooegnaaDoor
