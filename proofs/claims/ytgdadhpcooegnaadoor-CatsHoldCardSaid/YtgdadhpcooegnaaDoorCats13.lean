/- Layer 5, the document's answer: Ahead, Compare. -/
import Derived.Test.YtgdadhpcooegnaaDoorCats10
namespace Go.Proofs.YtgdadhpcooegnaaDoor
open Go.RowKit Go.Shelf
set_option linter.unusedVariables false
def aheadB (p : List Int) (m : Int) (q : List Int) (n : Int) : Bool := decide ((if cmpL p q = 0 then Lib.compareInt m n else cmpL p q) < 0)
theorem aheadB_cons (x y : Int) (p q : List Int) (m n : Int) : aheadB (x :: p) m (y :: q) n = if x < y then true else if y < x then false else aheadB p m q n := by
  unfold aheadB
  simp only [cmpL]
  by_cases h1 : x < y
  · simp [h1]
  · by_cases h2 : y < x
    · simp [h1, h2]
    · simp [h1, h2]
set_option maxRecDepth 100000 in
set_option maxHeartbeats 1000000 in
theorem ahead_any (A : Option Addr) (c : Nat) (A2 : Option Addr) (c2 : Nat) (p q : List Int) (m n : Int) (ok ok2 : Nat → Prop) (w : World) (h : intsR.rel w ok [.slice A p.length c] p) (h2 : intsR.rel w ok2 [.slice A2 q.length c2] q) :
    Calls Tryd.prog 30 #[.agg #[.slice A p.length c, .int .i64 m], .agg #[.slice A2 q.length c2, .int .i64 n]] w fun r w' => r = .returned (.bool (aheadB p m q n)) ∧ Mod (fun _ => False) w w' := by
  obtain ⟨-, hcap, -, hbig, -, hrow⟩ := ints_row h
  obtain ⟨-, hcap2, -, hbig2, -, hrow2⟩ := ints_row h2
  have H0 := Lib.hid (And.intro hrow hrow2); clear hrow hrow2 h h2
  obtain ⟨z, hz⟩ : ∃ z, z = aheadB p m q n := ⟨_, rfl⟩
  rw [← hz]
  have HZ := Lib.hid hz; clear hz
  go_enter Tryd.func30, Tryd.ntmps30
  go_wp2_with fail
  go_loopg [5] p.length (fun f si wr => ∃ i : Nat, si = .int .i64 i ∧ i + f = p.length ∧ i ≤ q.length ∧ z = aheadB (p.drop i) m (q.drop i) n ∧ wr.heap[w.heap.size]? = some (.cells #[.slice A p.length c, .int .i64 m] 27 (0, 0)) ∧
    wr.heap[w.heap.size + 1]? = some (.cells #[.slice A2 q.length c2, .int .i64 n] 27 (0, 0)) ∧ Mod (fun _ => False) w wr)
  case atStart =>
    refine ⟨0, rfl, by omega, by omega, HZ.out, (Below.heap_alloc _ _ _ (by simp)).trans (World.alloc_heap_new w _), ?_, ((Mod.refl _ w).alloc _).alloc _⟩
    have := World.alloc_heap_new (w.alloc (.cells #[.slice A p.length c, .int .i64 m] 27)) (.cells #[.slice A2 q.length c2, .int .i64 n] 27)
    rw [World.size_alloc] at this
    exact this
  case round =>
    obtain ⟨i, rfl, hi, hiq, hz, hb0, hb1, hmod⟩ := hrel
    have k0 : wr.cell? ⟨w.heap.size, 0, none⟩ = some (.slice A p.length c) := by rw [Lib.cell_of_heap hb0]; rfl
    have k1 : wr.cell? ⟨w.heap.size, 1, none⟩ = some (.int .i64 m) := by rw [Lib.cell_of_heap hb0]; rfl
    have k2 : wr.cell? ⟨w.heap.size + 1, 0, none⟩ = some (.slice A2 q.length c2) := by rw [Lib.cell_of_heap hb1]; rfl
    have k3 : wr.cell? ⟨w.heap.size + 1, 1, none⟩ = some (.int .i64 n) := by rw [Lib.cell_of_heap hb1]; rfl
    by_cases hp : i < p.length
    · have hx : p[i]? = some p[i] := by simp [hp]
      obtain ⟨x, hxe⟩ : ∃ x, x = p[i] := ⟨_, rfl⟩
      rw [← hxe] at hx
      have hpd : p.drop i = x :: p.drop (i + 1) := by rw [List.drop_eq_getElem_cons hp, ← hxe]
      have e1 : ((i : Int) == (p.length : Int)) = false := by simp; omega
      by_cases hq : i < q.length
      · have hy : q[i]? = some q[i] := by simp [hq]
        obtain ⟨y, hye⟩ : ∃ y, y = q[i] := ⟨_, rfl⟩
        rw [← hye] at hy
        have hqd : q.drop i = y :: q.drop (i + 1) := by rw [List.drop_eq_getElem_cons hq, ← hye]
        have e2 : ((i : Int) == (q.length : Int)) = false := by simp; omega
        obtain ⟨ad, rfl, -, hcx, -⟩ := RowOf.ints (H0.out.1.step (w1 := wr) (ok1 := ok) (fun k hk hl => ⟨hk, hmod.block k hl id⟩)) hx
        obtain ⟨ad2, rfl, -, hcy, -⟩ := RowOf.ints (H0.out.2.step (w1 := wr) (ok1 := ok2) (fun k hk hl => ⟨hk, hmod.block k hl id⟩)) hy
        rw [hpd, hqd, aheadB_cons] at hz
        have HX := Lib.hid (And.intro hi (And.intro hiq (And.intro hz (And.intro hb0 (And.intro hb1 hmod))))); clear hi hiq hz hb0 hb1 hmod hpd hqd hxe hye hx hy
        go_wp2_with fail
        go_quiet (fail)
        by_cases hne : x = y
        · subst hne
          have e3 : (x != x) = false := by simp
          go_wp2_with fail
          go_roundg (gk - 1)
          case measure => have := HX.out.1; omega
          case rel =>
            obtain ⟨hi, hiq, hz, hb0, hb1, hmod⟩ := HX.out
            exact ⟨i + 1, by go_num, by omega, by omega, by rw [hz, if_neg (by omega), if_neg (by omega)], hb0, hb1, hmod.drewN _⟩
        · have e3 : (x != y) = true := by simp [hne]
          go_wp2_with fail
          go_quiet (fail)
          go_wp2_with fail
          go_ret
          obtain ⟨hi, hiq, hz, hb0, hb1, hmod⟩ := HX.out
          refine ⟨?_, (hmod.drewN _).drewN _⟩
          rw [hz]
          by_cases hlt : x < y
          · simp [hlt]
          · simp [hlt]; omega
      · have e2 : ((i : Int) == (q.length : Int)) = true := by simp; omega
        rw [List.drop_eq_nil_of_le (by omega : q.length ≤ i), hpd] at hz
        have e3 : ((p.length : Int) != (q.length : Int)) = true := by simp; omega
        have HX := Lib.hid (And.intro hz hmod); clear hz hmod hb0 hb1 hpd hx hxe hi
        go_wp2_with fail
        go_ret
        exact ⟨by rw [HX.out.1]; simp [aheadB, cmpL], HX.out.2⟩
    · have e1 : ((i : Int) == (p.length : Int)) = true := by simp; omega
      rw [List.drop_eq_nil_of_le (by omega : p.length ≤ i)] at hz
      by_cases hq : i < q.length
      · have e3 : ((p.length : Int) != (q.length : Int)) = true := by simp; omega
        rw [List.drop_eq_getElem_cons hq] at hz
        have HX := Lib.hid (And.intro hz hmod); clear hz hmod hb0 hb1 hi
        go_wp2_with fail
        go_ret
        exact ⟨by rw [HX.out.1]; simp [aheadB, cmpL], HX.out.2⟩
      · have e3 : ((p.length : Int) != (q.length : Int)) = false := by simp; omega
        rw [List.drop_eq_nil_of_le (by omega : q.length ≤ i)] at hz
        have HX := Lib.hid (And.intro hz hmod); clear hz hmod hb0 hb1 hi
        go_wp2_with fail
        go_ret
        refine ⟨?_, HX.out.2⟩
        rw [HX.out.1]
        have : aheadB [] m [] n = decide (m < n) := by
          unfold aheadB Lib.compareInt
          simp only [cmpL, if_true]
          by_cases h1 : m < n
          · simp [h1]
          · by_cases h2 : m > n <;> simp [h1, h2]
        rw [this]; rfl
end Go.Proofs.YtgdadhpcooegnaaDoor
