/- Layer 1, fault: what an error is; Wrap, Unwrap, errors.Is by contracts. -/
import Derived.Test.YtcahnhohinckdaaDoorAgg
import Derived.Test.YtcahnhohinckdaaDoorLink
import Derived.WalkKit
import Derived.LaidEql
import Derived.Stop.Asserts
import Derived.RowKitTokens
import Derived.BigQuiet
import Derived.Deep.QuietTactic
import Derived.StillTailTactics
namespace Go.Proofs.YtcahnhohinckdaaDoor
open Go.RowKit Go.Extern.Stop Go.Stop Go.Extern
set_option linter.unusedVariables false
theorem run_eql_iface_int {P : Program} {ti t : TypeId} {ms : Array (String × TypeId)} {k : IntKind} {i : TypeInfo} (hi : P.underlying ti = some (.interface ms)) (ht : P.underlying t = some (.int k)) (hinfo : P.info? t = some i) (hcomp : i.comparable = true) (x y : Int) (w : World) :
    (binOp .eql ti (.iface t (.int k x)) (.iface t (.int k y))).run P w = .ok (.bool (x == y)) w := by
  have h : ∀ d : Nat, (Op.equalIn (d + 2) ti (.iface t (.int k x)) (.iface t (.int k y))).run P w = .ok (x == y) w := fun d => by
    simp [Op.equalIn, run_underlying hi, run_underlying ht, typeInfo, hinfo, hcomp]
  simp only [binOp]
  simp [Op.equal, Op.maxDepth, h 9998]
theorem run_eql_iface_nil_right {P : Program} {ti : TypeId} {ms : Array (String × TypeId)} (tp : TypeId) (v : Value) (hi : P.underlying ti = some (.interface ms)) (w : World) :
    (binOp .eql ti (.iface tp v) .nilIface).run P w = .ok (.bool false) w := by
  have h : ∀ d : Nat, (Op.equalIn (d + 1) ti (.iface tp v) .nilIface).run P w = .ok false w := fun d => by simp [Op.equalIn, run_underlying hi]
  simp only [binOp]
  simp [Op.equal, Op.maxDepth, h 9999]
theorem run_eql_iface_nil_nil {P : Program} {ti : TypeId} {ms : Array (String × TypeId)} (hi : P.underlying ti = some (.interface ms)) (w : World) :
    (binOp .eql ti .nilIface .nilIface).run P w = .ok (.bool true) w := by
  have h : ∀ d : Nat, (Op.equalIn (d + 1) ti .nilIface .nilIface).run P w = .ok true w := fun d => by simp [Op.equalIn, run_underlying hi]
  simp only [binOp]
  simp [Op.equal, Op.maxDepth, h 9999]
/-- An error: links, the newest first, around a number. -/
def ErrAt (w : World) : Value → List Link → Int → Prop
  | v, [], last => (last = 0 ∧ v = .nilIface) ∨ (last ≠ 0 ∧ v = .iface 30 (.int .i64 last))
  | v, k :: ks, last => ∃ g b, v = .iface 39 (.pointer (some ⟨g, 0, none⟩)) ∧ w.heap[g]? = some (.cells #[.string k.place, .int .i64 k.code, b] 50 (0, 0)) ∧ ErrAt w b ks last
theorem ErrAt.mod {w w1 : World} (hm : Mod (fun _ => False) w w1) : ∀ {ks : List Link} {v : Value} {last : Int}, ErrAt w v ks last → ErrAt w1 v ks last
  | [], _, _, h => h
  | k :: ks, _, _, ⟨g, b, hv, hg, hb⟩ => ⟨g, b, hv, (hm.block g (lt_of_blk hg) id).trans hg, hb.mod hm⟩
def hasB (ks : List Link) (last e : Int) : Bool := ks.any (fun k => k.code == e) || last == e
/-! facts on the method sets -/
theorem Tryd.noIsF (v : Value) (xT : TypeId) (w : World) : (Instr.typeAssert (.iface 39 v) xT 74 true).run Tryd.prog w = .ok (.tuple #[.nilIface, .bool false]) w := run_typeAssert_lacksB Tryd.underlying74 (by kernel_rfl) (by kernel_rfl) v xT w
theorem Tryd.noIsN (v : Value) (xT : TypeId) (w : World) : (Instr.typeAssert (.iface 30 v) xT 74 true).run Tryd.prog w = .ok (.tuple #[.nilIface, .bool false]) w := run_typeAssert_lacksB Tryd.underlying74 (by kernel_rfl) (by kernel_rfl) v xT w
theorem Tryd.noUnF (v : Value) (xT : TypeId) (w : World) : (Instr.typeAssert (.iface 39 v) xT 77 true).run Tryd.prog w = .ok (.tuple #[.nilIface, .bool false]) w := run_typeAssert_lacksB Tryd.underlying77 (by kernel_rfl) (by kernel_rfl) v xT w
theorem Tryd.noUnN (v : Value) (xT : TypeId) (w : World) : (Instr.typeAssert (.iface 30 v) xT 77 true).run Tryd.prog w = .ok (.tuple #[.nilIface, .bool false]) w := run_typeAssert_lacksB Tryd.underlying77 (by kernel_rfl) (by kernel_rfl) v xT w
theorem Tryd.hasUnsF (v : Value) (xT : TypeId) (w : World) : (Instr.typeAssert (.iface 39 v) xT 79 true).run Tryd.prog w = .ok (.tuple #[.iface 39 v, .bool true]) w := run_typeAssert_hasB Tryd.underlying79 (by kernel_rfl) v xT w
theorem Tryd.noUnsN (v : Value) (xT : TypeId) (w : World) : (Instr.typeAssert (.iface 30 v) xT 79 true).run Tryd.prog w = .ok (.tuple #[.nilIface, .bool false]) w := run_typeAssert_lacksB Tryd.underlying79 (by kernel_rfl) (by kernel_rfl) v xT w
theorem Tryd.compN : (Tryd.prog.info? 30).map (·.comparable) = some true := by kernel_rfl
def errV (v : Value) : Prop := v = .nilIface ∨ ∃ t u, v = .iface t u
def behindV (v : Value) : List Value := match v with | .nilIface => [] | v => [v]
theorem ErrAt.val {w : World} {ks : List Link} {v : Value} {last : Int} (h : ErrAt w v ks last) : errV v := by
  cases ks with
  | nil =>
    rcases h with ⟨_, rfl⟩ | ⟨_, rfl⟩
    · exact .inl rfl
    · exact .inr ⟨_, _, rfl⟩
  | cons k ks => obtain ⟨g, b, rfl, _⟩ := h; exact .inr ⟨_, _, rfl⟩
set_option maxRecDepth 100000 in
set_option maxHeartbeats 1000000 in
theorem wrap_ok (place : ByteArray) (v : Value) (w : World) :
    Calls Tryd.prog 11 #[.string place, .int .i64 0, v] w fun r w' => r = .returned v ∧ w' = w := by
  go_enter Tryd.func11, Tryd.ntmps11
  go_wp2_with fail
  go_ret
  exact ⟨rfl, rfl⟩
set_option maxRecDepth 100000 in
set_option maxHeartbeats 1000000 in
theorem wrap_any (place : ByteArray) (e : Int) (v : Value) (w : World) (he : e ≠ 0) (hv : errV v) :
    Calls Tryd.prog 11 #[.string place, .int .i64 e, v] w fun r w' => ∃ g, r = .returned (.iface 39 (.pointer (some ⟨g, 0, none⟩))) ∧ w.heap.size ≤ g ∧ w'.heap[g]? = some (.cells #[.string place, .int .i64 e, v] 50 (0, 0)) ∧ Mod (fun _ => False) w w' := by
  have hd : (e == 0) = false := by simpa using he
  clear he
  rcases hv with rfl | ⟨t, u, rfl⟩
  all_goals
    go_enter Tryd.func11, Tryd.ntmps11
    go_wp2_with fail
    go_ret
    exact ⟨_, rfl, Nat.le_refl _, heap_alloc_new _ _, (Mod.refl _ _).alloc _⟩
set_option maxRecDepth 100000 in
set_option maxHeartbeats 1000000 in
theorem unwrap_any (g : Nat) (place : ByteArray) (c : Int) (b : Value) (w : World) (hg : w.heap[g]? = some (.cells #[.string place, .int .i64 c, b] 50 (0, 0))) (hb : errV b) :
    Calls Tryd.prog 15 #[.pointer (some ⟨g, 0, none⟩)] w fun r w' => ∃ N cs, r = .returned (.slice (some ⟨N, 0, none⟩) cs.length cs.length) ∧ w.heap.size ≤ N ∧ w'.heap[N]? = some (.cells cs.toArray 25 (0, 0)) ∧ Mod (fun _ => False) w w' ∧ cs = .iface 30 (.int .i64 c) :: behindV b := by
  have c1 : w.cell? ⟨g, 1, none⟩ = some (.int .i64 c) := by rw [cell_of_blk hg]; rfl
  have c2 : w.cell? ⟨g, 2, none⟩ = some b := by rw [cell_of_blk hg]; rfl
  rcases hb with rfl | ⟨t, u, rfl⟩
  · have hq := run_eql_iface_nil_nil (P := Tryd.prog) (ti := 25) Tryd.underlying25
    go_enter Tryd.func15, Tryd.ntmps15
    go_wp2_with fail
    go_ret
    exact ⟨w.heap.size, [.iface 30 (.int .i64 c)], rfl, Nat.le_refl _, heap_alloc_new _ _, (Mod.refl _ _).alloc _, rfl⟩
  · have hq := run_eql_iface_nil_right (P := Tryd.prog) (ti := 25) t u Tryd.underlying25
    go_enter Tryd.func15, Tryd.ntmps15
    go_wp2_with fail
    go_still_tail 9, (by kernel_rfl)
    go_wp2_with fail
    go_ret
    exact ⟨w.heap.size, [.iface 30 (.int .i64 c), .iface t u], rfl, Nat.le_refl _, heap_alloc_new _ _, ((Mod.refl _ _).alloc _).drew, rfl⟩
end Go.Proofs.YtcahnhohinckdaaDoor
