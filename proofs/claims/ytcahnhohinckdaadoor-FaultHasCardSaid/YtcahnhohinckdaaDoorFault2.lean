/- Layer 1, fault: errors.Is and Has by contracts; the document's Kept and Has. -/
import Derived.Test.YtcahnhohinckdaaDoorFault1
namespace Go.Proofs.YtcahnhohinckdaaDoor
open Go.RowKit Go.Extern.Stop Go.Stop Go.Extern
set_option linter.unusedVariables false
theorem Tryd.isTypeOf (v : Value) (w : World) : (Extern.ReflectliteType.typeOf #[.iface 30 v]).run Tryd.prog w = .ok (.iface 72 (.agg #[.pointer (some ⟨4, 30, none⟩)])) w := by kernel_rfl
/-- what stands for (rtype).Comparable -/
def cmpEntry : Array Value → Sem Value := Extern.ReflectliteType.method fun t => do Extern.Rtype.noPackHeld "Comparable" t; pure (.bool (← typeInfo t).comparable)
theorem Tryd.isComparable (w : World) : (cmpEntry #[.agg #[.pointer (some ⟨4, 30, none⟩)]]).run Tryd.prog w = .ok (.bool true) w := by kernel_rfl
theorem Tryd.isMethodComparable (v : Value) (w : World) : (Go.method 232 72 v "Comparable").run Tryd.prog w = .ok (70, v) w := by kernel_rfl
set_option maxRecDepth 100000 in
set_option maxHeartbeats 1000000 in
theorem eis_any (e : Int) (he : e ≠ 0) (ks : List Link) (last : Int) (v : Value) (w : World) (h : ErrAt w v ks last) :
    Calls Tryd.prog 19 #[v, .iface 30 (.int .i64 e)] w fun r w' => r = .returned (.bool (hasB ks last e)) ∧ Mod (fun _ => False) w w' := by
  have h8 := @run_callFunc_extern Tryd.prog 23 _ Extern.ReflectliteType.typeOf Tryd.func23 (by kernel_rfl) (by kernel_rfl) (by kernel_rfl) (by kernel_rfl)
  have h32 := @run_callFunc_extern Tryd.prog 70 _ cmpEntry Tryd.func70 (by kernel_rfl) (by kernel_rfl) (by kernel_rfl) (by kernel_rfl)
  have tT := Tryd.isTypeOf
  have cT := Tryd.isComparable
  have mR := Tryd.isMethodComparable
  have hn := run_eql_iface_nil_right (P := Tryd.prog) (ti := 25) 30 (.int .i64 e) Tryd.underlying25
  rcases h.val with rfl | ⟨t, u, rfl⟩
  · have HF : hasB ks last e = false := by
      cases ks with
      | nil =>
        rcases h with ⟨rfl, _⟩ | ⟨_, h⟩
        · unfold hasB; simp; exact fun h => he h.symm
        · cases h
      | cons k2 ks => obtain ⟨_, _, h, _⟩ := h; cases h
    rw [HF]
    have hl := run_eql_iface_nil_left (P := Tryd.prog) (ti := 25) (w := w) 30 (.int .i64 e) Tryd.underlying25
    have hz := run_eql_iface_nil_nil (P := Tryd.prog) (ti := 25) Tryd.underlying25
    clear h HF
    go_enter Tryd.func19, Tryd.ntmps19
    go_wp2_with fail
    go_ret
    exact ⟨rfl, .refl _ _⟩
  · have HI := Lib.hid (is_any e he ks last (.iface t u) w h (by intro h; cases h)); clear h
    have hn2 := run_eql_iface_nil_right (P := Tryd.prog) (ti := 25) t u Tryd.underlying25
    go_enter Tryd.func19, Tryd.ntmps19
    go_wp2_with fail
    refine HI.out.mono ?_
    rintro r w2 ⟨rfl, hm⟩
    go_wp2_with fail
    go_ret
    exact ⟨rfl, hm⟩
def isNilV (v : Value) : Bool := match v with | .nilIface => true | _ => false
def hasS (ks : List Link) (last e : Int) : Bool := if e = 0 then ks.isEmpty && last == 0 else hasB ks last e
set_option maxRecDepth 100000 in
set_option maxHeartbeats 1000000 in
theorem has_any (e : Int) (ks : List Link) (last : Int) (v : Value) (w : World) (h : ErrAt w v ks last) :
    Calls Tryd.prog 8 #[v, .int .i64 e] w fun r w' => r = .returned (.bool (hasS ks last e)) ∧ Mod (fun _ => False) w w' := by
  by_cases he : e = 0
  · subst he
    have hv := h.val
    have HS : Hid (hasS ks last 0 = isNilV v) := by
      show hasS ks last 0 = isNilV v
      unfold hasS
      rw [if_pos rfl]
      cases ks with
      | nil =>
        rcases h with ⟨rfl, rfl⟩ | ⟨h0, rfl⟩
        · rfl
        · simp [isNilV, h0]
      | cons k ks => obtain ⟨_, _, rfl, _⟩ := h; rfl
    clear h
    rcases hv with rfl | ⟨t, u, rfl⟩
    · have hz := run_eql_iface_nil_nil (P := Tryd.prog) (ti := 25) Tryd.underlying25
      go_enter Tryd.func8, Tryd.ntmps8
      go_wp2_with fail
      go_ret
      exact ⟨by rw [HS.out]; rfl, .refl _ _⟩
    · have hn2 := run_eql_iface_nil_right (P := Tryd.prog) (ti := 25) t u Tryd.underlying25
      go_enter Tryd.func8, Tryd.ntmps8
      go_wp2_with fail
      go_ret
      exact ⟨by rw [HS.out]; rfl, .refl _ _⟩
  · have HI := Lib.hid (eis_any e he ks last v w h)
    have HS : Hid (hasS ks last e = hasB ks last e) := by show hasS ks last e = hasB ks last e; unfold hasS; rw [if_neg he]
    have hd : (e == 0) = false := by simpa using he
    clear h he
    go_enter Tryd.func8, Tryd.ntmps8
    go_wp2_with fail
    refine HI.out.mono ?_
    rintro r w2 ⟨rfl, hm⟩
    go_wp2_with fail
    go_ret
    exact ⟨by rw [HS.out]; rfl, hm⟩
end Go.Proofs.YtcahnhohinckdaaDoor
