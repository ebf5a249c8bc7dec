/- Layer 1, fault: errors.is, errors.Is, Has by contracts. -/
import Derived.Test.YtcahnhohinckdaaDoorFault0
namespace Go.Proofs.YtcahnhohinckdaaDoor
open Go.RowKit Go.Extern.Stop Go.Stop Go.Extern
set_option linter.unusedVariables false
set_option maxRecDepth 100000 in
set_option maxHeartbeats 1000000 in
theorem is_errno (c e : Int) (w : World) :
    Calls Tryd.prog 24 #[.iface 30 (.int .i64 c), .iface 30 (.int .i64 e), .bool true] w fun r w' => r = .returned (.bool (c == e)) ∧ Mod (fun _ => False) w w' := by
  obtain ⟨i, hi, hcmp⟩ := Option.map_eq_some_iff.1 Tryd.compN
  have heq := run_eql_iface_int (P := Tryd.prog) (ti := 25) Tryd.underlying25 Tryd.underlying30 hi hcmp c e
  have n1 := Tryd.noIsN
  have n2 := Tryd.noUnN
  have n3 := Tryd.noUnsN
  clear hi hcmp
  by_cases hce : c = e
  · have hd : (c == e) = true := by simpa using hce
    rw [hd] at heq ⊢
    clear hce
    go_enter Tryd.func24, Tryd.ntmps24
    go_wp2_with fail
    refine wp_loop_rounds 1 ?_
    rw [rounds_succ]
    go_wp2_with fail
    go_ret
    exact ⟨rfl, .refl _ _⟩
  · have hd : (c == e) = false := by simpa using hce
    rw [hd] at heq ⊢
    clear hce
    go_enter Tryd.func24, Tryd.ntmps24
    go_wp2_with fail
    refine wp_loop_rounds 1 ?_
    rw [rounds_succ]
    go_wp2_with fail
    go_ret
    exact ⟨rfl, .refl _ _⟩
theorem Tryd.methodUnwrap (v : Value) (w : World) : (Go.method 232 39 v "Unwrap").run Tryd.prog w = .ok (15, v) w := by kernel_rfl
set_option maxRecDepth 100000 in
set_option maxHeartbeats 1000000 in
theorem is_any (e : Int) (he : e ≠ 0) : ∀ (ks : List Link) (last : Int) (v : Value) (w : World), ErrAt w v ks last → v ≠ .nilIface →
    Calls Tryd.prog 24 #[v, .iface 30 (.int .i64 e), .bool true] w fun r w' => r = .returned (.bool (hasB ks last e)) ∧ Mod (fun _ => False) w w' := by
  intro ks
  induction ks with
  | nil =>
    rintro last v w (⟨_, rfl⟩ | ⟨hl, rfl⟩) hv
    · exact absurd rfl hv
    · exact is_errno last e w
  | cons k ks ih =>
    rintro last v w ⟨g, b, rfl, hg, hb⟩ -
    have HB := Lib.hid hb
    have hval := hb.val
    clear hb
    have hty := run_eql_iface_types (P := Tryd.prog) (ti := 25) 39 30 (.pointer (some ⟨g, 0, none⟩)) (.int .i64 e) Tryd.underlying25 (by decide)
    have n1 := Tryd.noIsF
    have n2 := Tryd.noUnF
    have n3 := Tryd.hasUnsF
    have mU := Tryd.methodUnwrap
    go_enter Tryd.func24, Tryd.ntmps24
    go_wp2_with fail
    refine wp_loop_rounds 1 ?_
    rw [rounds_succ]
    go_wp2_with fail
    refine (unwrap_any g k.place k.code b w hg hval).mono ?_
    rintro r w1 ⟨N, cs, rfl, hN, hcs, hm, hce⟩
    have H1 := Lib.hid (And.intro hN (And.intro hcs hm)); clear hN hcs hm
    obtain rfl := hce
    have q0 : w1.cell? ⟨N, 0, none⟩ = some (.iface 30 (.int .i64 k.code)) := by rw [cell_of_blk H1.out.2.1]; rfl
    by_cases hk : k.code = e
    · have hd : (k.code == e) = true := by simpa using hk
      have HE : Hid (hasB (k :: ks) last e = true) := by show hasB (k :: ks) last e = true; unfold hasB; rw [List.any_cons, hd]; rfl
      have HC := Lib.hid (is_errno k.code e w1)
      rw [hd] at HC
      clear hk hd
      obtain ⟨m, hm⟩ : ∃ m : Nat, m = (.iface 30 (.int .i64 k.code) :: behindV b : List Value).length := ⟨_, rfl⟩
      have hm1 : 1 ≤ m := by rw [hm]; simp
      rw [← hm]
      have HM := Lib.hid hm; clear hm
      go_wp2_with fail
      refine wp_loop_rounds 1 ?_
      rw [rounds_succ]
      go_wp2_with fail
      refine HC.out.mono ?_
      rintro r w2 ⟨rfl, hm2⟩
      go_wp2_with fail
      go_ret
      exact ⟨by rw [HE.out]; rfl, H1.out.2.2.trans hm2 (fun _ h => h.elim)⟩
    · have hd : (k.code == e) = false := by simpa using hk
      have HE : Hid (hasB (k :: ks) last e = hasB ks last e) := by show hasB (k :: ks) last e = hasB ks last e; unfold hasB; rw [List.any_cons, hd]; rfl
      have HC := Lib.hid (is_errno k.code e w1)
      rw [hd] at HC
      clear hk hd
      rcases hval with rfl | ⟨t, u, rfl⟩
      · have HF : Hid (hasB ks last e = false) := by
          show hasB ks last e = false
          have := HB.out
          cases ks with
          | nil =>
            rcases this with ⟨rfl, _⟩ | ⟨_, h⟩
            · unfold hasB; simp; exact fun h => he h.symm
            · cases h
          | cons k2 ks => obtain ⟨_, _, h, _⟩ := this; cases h
        go_wp2_with fail
        refine wp_loop_rounds 2 ?_
        rw [rounds_succ]
        go_wp2_with fail
        refine HC.out.mono ?_
        rintro r w2 ⟨rfl, hm2⟩
        go_wp2_with fail
        rw [rounds_succ]
        go_wp2_with fail
        go_ret
        exact ⟨by rw [HE.out, HF.out]; rfl, H1.out.2.2.trans hm2 (fun _ h => h.elim)⟩
      · have q1 : ∀ w2, Mod (fun _ => False) w1 w2 → w2.cell? ⟨N, 1, none⟩ = some (.iface t u) := fun w2 hm2 => by
          rw [cell_of_blk ((hm2.block N (lt_of_blk H1.out.2.1) id).trans H1.out.2.1)]; rfl
        have HQ := Lib.hid q1; clear q1
        have HI := Lib.hid fun w2 (hm2 : Mod (fun _ => False) w1 w2) => ih last (.iface t u) w2 (HB.out.mod (H1.out.2.2.trans hm2 (fun _ h => h.elim))) (by intro h; cases h)
        clear ih
        go_wp2_with fail
        refine wp_loop_rounds 3 ?_
        rw [rounds_succ]
        go_wp2_with fail
        refine HC.out.mono ?_
        rintro r w2 ⟨rfl, hm2⟩
        have q1 := HQ.out w2 hm2
        go_wp2_with fail
        rw [rounds_succ]
        go_wp2_with fail
        refine (HI.out w2 hm2).mono ?_
        rintro r w3 ⟨rfl, hm3⟩
        cases hx : hasB ks last e with
        | true =>
          have HX := Lib.hid hx; clear hx
          go_wp2_with fail
          go_ret
          exact ⟨by rw [HE.out, HX.out]; rfl, H1.out.2.2.trans (hm2.trans hm3 (fun _ h => h.elim)) (fun _ h => h.elim)⟩
        | false =>
          have HX := Lib.hid hx; clear hx
          go_wp2_with fail
          rw [rounds_succ]
          go_wp2_with fail
          go_ret
          exact ⟨by rw [HE.out, HX.out]; rfl, H1.out.2.2.trans (hm2.trans hm3 (fun _ h => h.elim)) (fun _ h => h.elim)⟩
end Go.Proofs.YtcahnhohinckdaaDoor
