/- Layer 1, fault: Code, Place, Depth, New at what is asked first; first. -/
import Derived.Test.YtcahnhohinckdaaDoorFault5
namespace Go.Proofs.YtcahnhohinckdaaDoor
open Go.RowKit
set_option linter.unusedVariables false
theorem Tryd.assertF (a : Addr) (w : World) : (Instr.typeAssert (.iface 39 (.pointer (some a))) 25 39 true).run Tryd.prog w = .ok (.tuple #[.pointer (some a), .bool true]) w := by kernel_rfl
theorem Tryd.assertNil (w : World) : (Instr.typeAssert .nilIface 25 39 true).run Tryd.prog w = .ok (.tuple #[.pointer none, .bool false]) w := by kernel_rfl
theorem Tryd.info_flt : (Tryd.prog.info? 39).map (fun i => (i.zero, i.size, i.bytes)) = some (some (.pointer none), 1, 8) := by kernel_rfl
set_option maxRecDepth 100000 in
set_option maxHeartbeats 1000000 in
theorem code_any (g : Nat) (place : ByteArray) (c : Int) (b : Value) (w : World) (hg : w.heap[g]? = some (.cells #[.string place, .int .i64 c, b] 50 (0, 0))) :
    Calls Tryd.prog 14 #[.iface 39 (.pointer (some ⟨g, 0, none⟩))] w fun r w' => r = .returned (.int .i64 c) ∧ Mod (fun _ => False) w w' := by
  have hq := run_eql_iface_nil_right (P := Tryd.prog) (ti := 25) 39 (.pointer (some ⟨g, 0, none⟩)) Tryd.underlying25
  have c1 : w.cell? ⟨g, 1, none⟩ = some (.int .i64 c) := by rw [cell_of_blk hg]; rfl
  have aF := Tryd.assertF
  go_enter Tryd.func14, Tryd.ntmps14
  go_wp2_with fail
  go_ret
  exact ⟨rfl, .refl _ _⟩
set_option maxRecDepth 100000 in
set_option maxHeartbeats 1000000 in
theorem place_any (g : Nat) (place : ByteArray) (c : Int) (b : Value) (w : World) (hg : w.heap[g]? = some (.cells #[.string place, .int .i64 c, b] 50 (0, 0))) :
    Calls Tryd.prog 13 #[.iface 39 (.pointer (some ⟨g, 0, none⟩))] w fun r w' => r = .returned (.string place) ∧ Mod (fun _ => False) w w' := by
  have c0 : w.cell? ⟨g, 0, none⟩ = some (.string place) := by rw [cell_of_blk hg]; rfl
  have aF := Tryd.assertF
  go_enter Tryd.func13, Tryd.ntmps13
  go_wp2_with fail
  go_ret
  exact ⟨rfl, .refl _ _⟩
set_option maxRecDepth 100000 in
set_option maxHeartbeats 1000000 in
theorem new_ok (place : ByteArray) (w : World) :
    Calls Tryd.prog 18 #[.string place, .int .i64 0] w fun r w' => r = .returned .nilIface ∧ Mod (fun _ => False) w w' := by
  go_enter Tryd.func18, Tryd.ntmps18
  go_wp2_with fail
  refine (wrap_ok place .nilIface w).mono ?_
  rintro r w2 ⟨rfl, hw⟩
  have HM : Hid (Mod (fun _ => False) w w2) := by show Mod (fun _ => False) w w2; rw [hw]; exact .refl _ _
  clear hw
  go_wp2_with fail
  go_ret
  exact ⟨rfl, HM.out⟩
set_option maxRecDepth 100000 in
set_option maxHeartbeats 1000000 in
theorem new_any (place : ByteArray) (e : Int) (w : World) (he : e ≠ 0) :
    Calls Tryd.prog 18 #[.string place, .int .i64 e] w fun r w' => ∃ g, r = .returned (.iface 39 (.pointer (some ⟨g, 0, none⟩))) ∧ w.heap.size ≤ g ∧ w'.heap[g]? = some (.cells #[.string place, .int .i64 e, .nilIface] 50 (0, 0)) ∧ Mod (fun _ => False) w w' := by
  have HI := Lib.hid (wrap_any place e .nilIface w he (.inl rfl)); clear he
  go_enter Tryd.func18, Tryd.ntmps18
  go_wp2_with fail
  refine HI.out.mono ?_
  rintro r w2 ⟨g, rfl, h1, h2, h3⟩
  have HG := Lib.hid (And.intro h1 (And.intro h2 h3)); clear h1 h2 h3
  go_wp2_with fail
  go_ret
  exact ⟨g, rfl, HG.out⟩
set_option maxRecDepth 100000 in
set_option maxHeartbeats 1000000 in
theorem depth_any (g ga : Nat) (pb pa : ByteArray) (cb ca : Int) (w : World) (hg : w.heap[g]? = some (.cells #[.string pb, .int .i64 cb, .iface 39 (.pointer (some ⟨ga, 0, none⟩))] 50 (0, 0)))
    (hga : w.heap[ga]? = some (.cells #[.string pa, .int .i64 ca, .nilIface] 50 (0, 0))) :
    Calls Tryd.prog 12 #[.iface 39 (.pointer (some ⟨g, 0, none⟩))] w fun r w' => r = .returned (.int .i64 2) ∧ Mod (fun _ => False) w w' := by
  have key : Calls Tryd.prog 20 #[.iface 39 (.pointer (some ⟨g, 0, none⟩))] w fun r w' => ∃ A c, r = .returned (.tuple #[.slice A 2 c, .nilIface]) ∧ Mod (fun _ => False) w w' := by
    have HG := Lib.hid (And.intro hg hga)
    have b2 : w.cell? ⟨g, 2, none⟩ = some (.iface 39 (.pointer (some ⟨ga, 0, none⟩))) := by rw [cell_of_blk hg]; rfl
    have HB := Lib.hid (And.intro hg hga)
    have aF := Tryd.assertF
    have aN := Tryd.assertNil
    clear hg hga
    go_enter Tryd.func20, Tryd.ntmps20
    go_wp2_with fail
    refine wp_loop_rounds 3 ?_
    rw [rounds_succ]
    go_wp2_with (at_builtin; refine append_one w.heap.size rfl _ _ 51 39 (.pointer none) 8 rfl Tryd.underlying51 Tryd.info_flt rfl (by decide) (.slice none 0 0) [] _ rfl rfl rfl (World.ownsRow_nil _ _ _ _) (Nat.le_refl _) (by simp) ?_)
    intro A1 k1 w1 ho1 hg1 hn1
    have ho1 : w1.ownsRow w.heap.size 39 1 (.slice A1 1 k1) 1 [.pointer (some ⟨g, 0, none⟩)] := ho1
    obtain ⟨gA, rfl⟩ : ∃ gA, A1 = some ⟨gA, 0, none⟩ := by
      rcases ho1.2 with ⟨h, _⟩ | ⟨gA, cap, cur, hv, _⟩
      · simp at h
      · exact ⟨gA, by simp at hv; exact hv.1⟩
    have hm1 : Mod (fun _ => False) w w1 := (Mod.refl (fun _ => False) w).grown hg1 (fun k hk => by cases hk)
    have b2' : w1.cell? ⟨g, 2, none⟩ = some (.iface 39 (.pointer (some ⟨ga, 0, none⟩))) := by rw [cell_of_blk ((hm1.block g (lt_of_blk HB.out.1) id).trans HB.out.1)]; rfl
    have HO := Lib.hid (And.intro ho1 hm1); clear ho1 hg1 hn1 hm1
    have hs1 := HO.out.2.size
    go_wp2_with fail
    rw [rounds_succ]
    go_wp2_with (at_builtin; refine append_one w.heap.size rfl _ _ 51 39 (.pointer none) 8 rfl Tryd.underlying51 Tryd.info_flt rfl (by decide) (.slice (some ⟨gA, 0, none⟩) 1 k1) [.pointer (some ⟨g, 0, none⟩)] _ rfl rfl rfl HO.out.1 hs1 (by simp) ?_)
    intro A2 k2 w2 ho2 hg2 hn2
    have hm2 : Mod (fun _ => False) w w2 := HO.out.2.grown hg2 (fun k hk => .inr (own_lt HO.out.1 k hk.symm).1)
    have b3 : w2.cell? ⟨ga, 2, none⟩ = some .nilIface := by rw [cell_of_blk ((hm2.block ga (lt_of_blk HB.out.2) id).trans HB.out.2)]; rfl
    have HM := Lib.hid hm2; clear ho2 hg2 hn2 hm2
    go_wp2_with fail
    rw [rounds_succ]
    go_wp2_with fail
    go_ret2
    exact ⟨_, _, rfl, HM.out⟩
  have HK := Lib.hid key; clear key hg hga
  go_enter Tryd.func12, Tryd.ntmps12
  go_wp2_with fail
  refine HK.out.mono ?_
  rintro r w2 ⟨A, c, rfl, hm⟩
  have HM := Lib.hid hm; clear hm
  go_wp2_with fail
  go_ret
  exact ⟨rfl, HM.out⟩
end Go.Proofs.YtcahnhohinckdaaDoor
