/- Layer 5, the document's answer: Compare. -/
import Derived.Test.YtgdadhpcooegnaaDoorCats13
namespace Go.Proofs.YtgdadhpcooegnaaDoor
open Go.RowKit Go.Shelf
set_option linter.unusedVariables false
theorem cmpB_ref_none {a b : List UInt8} (ha : parseB a = none) (hb : parseB b = none) : cmpB a b = if Op.bytesLess a b then -1 else if a = b then 0 else 1 := by
  unfold cmpB; rw [ha, hb]; rfl
theorem cmpB_ref_some {a b : List UInt8} {p q : List Int} {m n : Int} (ha : parseB a = some (p, m)) (hb : parseB b = some (q, n)) : cmpB a b = if aheadB p m q n then -1 else if a = b then 0 else 1 := by
  have h0 : cmpB a b = if cmpL p q = 0 then Lib.compareInt m n else cmpL p q := by unfold cmpB; rw [ha, hb]
  unfold aheadB
  rw [← h0]
  have hv : cmpB a b = -1 ∨ cmpB a b = 0 ∨ cmpB a b = 1 := by
    rw [h0]
    split
    · unfold Lib.compareInt; split
      · simp
      · split <;> simp
    · exact cmpL_val p q
  by_cases hlt : cmpB a b < 0
  · simp [hlt]; omega
  · by_cases he : a = b
    · subst he; rw [cmpB_self]; simp
    · have : cmpB a b ≠ 0 := fun h => he (cmpB_zero h)
      simp [hlt, he]; omega
set_option maxRecDepth 100000 in
set_option maxHeartbeats 1000000 in
theorem refcompare_any (a b : List UInt8) (ha : a.length ≤ 1000000) (hb : b.length ≤ 1000000) (w : World) :
    Calls Tryd.prog 15 #[encS a, encS b] w fun r w' => r = .returned (.int .i64 (cmpB a b)) ∧ Mod (fun _ => False) w w' := by
  obtain ⟨z, hz⟩ : ∃ z, z = cmpB a b := ⟨_, rfl⟩
  rw [← hz]
  have HZ := Lib.hid hz; clear hz
  unfold encS
  go_enter Tryd.func15, Tryd.ntmps15
  go_wp2_with fail
  refine (get_any a ha w).mono ?_
  rintro r w1 ⟨hm1, hr1⟩
  rw [getB_eq] at hr1
  have HM1 := Lib.hid hm1; clear hm1
  rcases hr1 with ⟨hpa, rfl⟩ | ⟨p, m, A, c, hpa, rfl, hp⟩
  · go_wp2_with fail
    refine (get_any b hb _).mono ?_
    rintro r w2 ⟨hm2, hr2⟩
    rw [getB_eq] at hr2
    have HM2 := Lib.hid (tr0 (HM1.out.alloc _) hm2); clear hm2
    rcases hr2 with ⟨hpb, rfl⟩ | ⟨q, n, A2, c2, hpb, rfl, hq⟩
    · go_wp2_with fail
      · go_ret
        have h1 : Op.bytesLess a b = true := by assumption
        have : z = -1 := by rw [HZ.out, cmpB_ref_none hpa hpb, h1]; rfl
        subst this
        exact ⟨rfl, HM2.out.alloc _⟩
      · go_ret
        have h1 : Op.bytesLess a b = false := by assumption
        have h2 : (a == b) = true := by assumption
        have : z = 0 := by rw [HZ.out, cmpB_ref_none hpa hpb, h1]; simp at h2; simp [h2]
        subst this
        exact ⟨rfl, HM2.out.alloc _⟩
      · go_ret
        have h1 : Op.bytesLess a b = false := by assumption
        have h2 : (a == b) = false := by assumption
        have : z = 1 := by rw [HZ.out, cmpB_ref_none hpa hpb, h1]; simp at h2; simp [h2]
        subst this
        exact ⟨rfl, HM2.out.alloc _⟩
    · clear hq
      have hz : z = 1 := by rw [HZ.out]; unfold cmpB; rw [hpa, hpb]
      subst hz
      have hne : (a == b) = false := by
        simp only [beq_eq_false_iff_ne, ne_eq]
        rintro rfl; rw [hpa] at hpb; cases hpb
      go_wp2_with fail
      go_ret
      exact ⟨rfl, HM2.out.alloc _⟩
  · have HP := Lib.hid hp; clear hp
    go_wp2_with fail
    refine (get_any b hb _).mono ?_
    rintro r w2 ⟨hm2, hr2⟩
    rw [getB_eq] at hr2
    have hblk := (hm2.block w1.heap.size (by rw [World.size_alloc]; omega) id).trans (World.alloc_heap_new w1 _)
    have hpr := Rd.mod (Rd.mod (Rd.bound HP.out) ((Mod.refl (fun _ => False) w1).alloc (.cells #[.slice A p.length c, .int .i64 m] 27)) (fun _ _ => id)) hm2 (fun _ _ => id)
    have HM2 := Lib.hid (And.intro (tr0 (HM1.out.alloc _) hm2) (And.intro hblk hpr)); clear hm2 hblk hpr
    rcases hr2 with ⟨hpb, rfl⟩ | ⟨q, n, A2, c2, hpb, rfl, hq⟩
    · have hz : z = -1 := by rw [HZ.out]; unfold cmpB; rw [hpa, hpb]
      subst hz
      go_wp2_with fail
      go_ret
      exact ⟨rfl, HM2.out.1.alloc _⟩
    · have HQ := Lib.hid hq; clear hq
      have x0 : (w2.alloc (.cells #[.slice A2 q.length c2, .int .i64 n] 27)).cell? ⟨w1.heap.size, 0, none⟩ = some (.slice A p.length c) := cell_alloc_l _ (by rw [Lib.cell_of_heap HM2.out.2.1]; rfl)
      have x1 : (w2.alloc (.cells #[.slice A2 q.length c2, .int .i64 n] 27)).cell? ⟨w1.heap.size, 1, none⟩ = some (.int .i64 m) := cell_alloc_l _ (by rw [Lib.cell_of_heap HM2.out.2.1]; rfl)
      go_wp2_with fail
      refine (ahead_any A c A2 c2 p q m n _ _ _ (Rd.mod HM2.out.2.2 ((Mod.refl (fun _ => False) w2).alloc (.cells #[.slice A2 q.length c2, .int .i64 n] 27)) (fun _ _ => id)) (Rd.mod (Rd.bound HQ.out) ((Mod.refl (fun _ => False) w2).alloc (.cells #[.slice A2 q.length c2, .int .i64 n] 27)) (fun _ _ => id))).mono ?_
      rintro r w3 ⟨rfl, hm3⟩
      have HM3 := Lib.hid (tr0 (HM2.out.1.alloc _) hm3); clear hm3 x0 x1
      have hzz := HZ.out
      rw [cmpB_ref_some hpa hpb] at hzz
      cases hah : aheadB p m q n with
      | true =>
        rw [hah] at hzz
        have : z = -1 := hzz
        subst this
        clear hzz
        go_wp2_with fail
        go_ret
        exact ⟨rfl, HM3.out⟩
      | false =>
        rw [hah] at hzz
        by_cases he : a = b
        · have e1 : (a == b) = true := by simp [he]
          have : z = 0 := by rw [hzz]; simp [he]
          subst this
          have HE := Lib.hid he; clear he hzz
          go_wp2_with fail
          go_ret
          exact ⟨rfl, HM3.out⟩
        · have e1 : (a == b) = false := by simp [he]
          have : z = 1 := by rw [hzz]; simp [he]
          subst this
          have HE := Lib.hid he; clear he hzz
          go_wp2_with fail
          go_ret
          exact ⟨rfl, HM3.out⟩
end Go.Proofs.YtgdadhpcooegnaaDoor
