/- Layer 5, cats: rows of strings; what Sort takes out (slices.IndexFunc, DeleteFunc). -/
import Derived.Test.YtgdadhpcooegnaaDoorCats5
import Derived.Test.YtgdadhpcooegnaaDoorRow2
namespace Go.Proofs.YtgdadhpcooegnaaDoor
open Go.RowKit Go.Shelf
set_option linter.unusedVariables false
def scells (l : List (List UInt8)) : List Value := l.map encS
theorem scells_len (l : List (List UInt8)) : (scells l).length = l.length := by simp [scells]
theorem scells_app (l m : List (List UInt8)) : scells (l ++ m) = scells l ++ scells m := by simp [scells]
theorem setCell_row {W : World} {g : Nat} {row : List Value} {T : TypeId} (h : W.heap[g]? = some (.cells row.toArray T (0, 0))) (i : Nat) (v : Value) : (W.setCell ⟨g, i, none⟩ v).heap[g]? = some (.cells (row.set i v).toArray T (0, 0)) := by
  simp [World.setCell, Array.getElem?_modify, h]
section
variable {P : Program} {ops : Array Oper} {rest : List Oper} {o : Oper} {a : Act} {Q : Exit → Act → World → Prop} {w : World}
/-- clear(s), its elements of one cell. -/
theorem wpList_clear_one (hgd : o.guard = none) (s : Operand) (dT : TypeId) (ho : o.op = .call { callee := .builtin .clear, args := #[s], argTypes := #[dT] }) (elem : TypeId) (z : Value) (hu : P.underlying dT = some (.slice elem)) (hz : (P.info? elem).map (·.zero) = some (some z)) (hzc : z.cells = #[z]) (hz1 : z.oneCell' = true)
    (g off n c : Nat) (hs : a.eval s = .slice (some ⟨g, off, none⟩) n c) (cur : List Value) (t : TypeId) (hg : w.heap[g]? = some (.cells cur.toArray t (0, 0))) (hfit : off + n ≤ cur.length)
    (h : ∀ w1 zs, zs.length = n → w1.heap[g]? = some (.cells (laid cur off zs).toArray t (0, 0)) → Mod (fun k => k = g) w w1 → wpList P ops Q rest (a.put o.dst (.tuple #[])) w1) : wpList P ops Q (o :: rest) a w := by
  refine wpList_plain hgd fun K hK => ?_
  obtain ⟨i, hq, h2⟩ := Option.map_eq_some_iff.1 hz
  have hlen : (Builtin.zeroCells #[z] n).toList.length = n := by rw [Array.length_toList, size_zeroCells]; simp
  have hone : ∀ v ∈ (Builtin.zeroCells #[z] n).toList, v.oneCell' = true := by
    intro v hv
    simp only [Builtin.zeroCells, Array.toList_map, List.mem_map] at hv
    obtain ⟨k, _, rfl⟩ := hv
    rw [getElem!_pos #[z] _ (by simp [Nat.mod_one])]
    simpa [Nat.mod_one] using hz1
  have hst := run_cells_laid (P := P) hg (by rw [hlen]; exact hfit) hone
  have hrun : (Builtin.clear_ #[dT] o.type #[.slice (some ⟨g, off, none⟩) n c]).run P w = .ok (.tuple #[]) (w.setRow g (laid cur off (Builtin.zeroCells #[z] n).toList).toArray) := by
    cases n with
    | zero =>
      have he : (Builtin.zeroCells #[z] 0).toList = [] := List.eq_nil_of_length_eq_zero (by rw [hlen])
      have hl : laid cur off [] = cur := by simp [laid]
      rw [he, hl, setRow_self w g cur.toArray t (0, 0) hg]
      simp [Builtin.clear_, run_underlying hu]
    | succ n =>
      simp [Builtin.clear_, run_underlying hu, zeroValue, typeInfo, hq, h2, hzc, hst]
  unfold Oper.wp
  simp [execOp, ho, resolve, invoke, builtin, hs, hrun, Result.andThen]
  refine hK _ _ (h _ _ hlen ?_ ((Mod.refl (fun k => k = g) w).setRow (.inl rfl) _))
  rw [heap_setRow_self hg]
end
set_option maxRecDepth 100000 in
theorem out_any (l : List UInt8) (hl : l.length ≤ 140737488355328) (w : World) (E : Env w) :
    Calls Tryd.prog 33 #[encS l] w fun r w' => r = .returned (.bool (!rightB l)) ∧ Mod (fun _ => False) w w' := by
  unfold encS
  go_enter Tryd.func33, Tryd.ntmps33
  go_wp2_with fail
  refine (right_any l hl w E).mono ?_
  rintro r w1 ⟨rfl, hm⟩
  have H := Lib.hid hm; clear hm
  go_wp2_with fail
  go_ret
  exact ⟨rfl, H.out⟩
/-- Where the first that is not right stands. -/
def badI (l : List (List UInt8)) : Int := match l.findIdx? (fun x => !rightB x) with
  | none => -1
  | some i => i
set_option maxRecDepth 100000 in
set_option maxHeartbeats 1000000 in
theorem indexFunc_any (g c : Nat) (l : List (List UInt8)) (w : World) (hc : ∀ j x, l[j]? = some x → w.cell? ⟨g, j, none⟩ = some (encS x)) (hcap : l.length ≤ c) (hln : l.length ≤ 8796093022208) (hx : ∀ x ∈ l, x.length ≤ 140737488355328) (E : Env w) :
    Calls Tryd.prog 44 #[.slice (some ⟨g, 0, none⟩) l.length c, .func (.func 33) #[] #[]] w fun r w' => r = .returned (.int .i64 (badI l)) ∧ Mod (fun _ => False) w w' := by
  obtain ⟨z, hz⟩ : ∃ z, z = badI l := ⟨_, rfl⟩
  rw [← hz]
  have HZ := Lib.hid (And.intro hz (And.intro hc (And.intro hx E))); clear hz hc hx E
  go_enter Tryd.func44, Tryd.ntmps44
  go_wp2_with fail
  go_loopg [8] l.length (fun f si wr => ∃ i : Nat, si = .int .i64 i ∧ i + f = l.length ∧ (∀ x ∈ l.take i, rightB x = true) ∧ Mod (fun _ => False) w wr)
  case atStart => exact ⟨0, rfl, by omega, by simp, .refl _ _⟩
  case round =>
    obtain ⟨i, rfl, hi, hr, hmod⟩ := hrel
    by_cases hlt : i < l.length
    · obtain ⟨x, hx⟩ : ∃ x, l[i]? = some x := ⟨l[i], by simp [hlt]⟩
      have hcx : wr.cell? ⟨g, i, none⟩ = some (encS x) := (hmod.cell (cell_lt (HZ.out.2.1 i x hx)) id).trans (HZ.out.2.1 i x hx)
      have hxl := HZ.out.2.2.1 x (List.mem_of_getElem? hx)
      have HX := Lib.hid (And.intro hi (And.intro hr (And.intro hmod hx))); clear hi hr hmod hx
      go_wp2_with fail
      refine (out_any x hxl wr (HZ.out.2.2.2.mod0 HX.out.2.2.1)).mono ?_
      rintro r w1 ⟨rfl, hm⟩
      have HM := Lib.hid (tr0 HX.out.2.2.1 hm); clear hm
      cases hb : rightB x with
      | true =>
        go_wp2_with fail
        go_roundg (gk - 1)
        case measure => have := HX.out.1; omega
        case rel =>
          refine ⟨i + 1, by go_num, by have := HX.out.1; omega, ?_, HM.out⟩
          rw [List.take_add_one, HX.out.2.2.2]
          intro y hy
          rcases List.mem_append.1 hy with hy | hy
          · exact HX.out.2.1 y hy
          · simp at hy; rw [hy]; exact hb
      | false =>
        go_wp2_with fail
        go_ret
        refine ⟨?_, HM.out⟩
        have : z = i := by
          rw [HZ.out.1]; unfold badI
          have : l.findIdx? (fun x => !rightB x) = some i := by
            rw [List.findIdx?_eq_some_iff_getElem]
            refine ⟨hlt, ?_, fun j hj => ?_⟩
            · have := HX.out.2.2.2
              rw [List.getElem?_eq_getElem hlt] at this
              rw [Option.some.inj this, hb]; rfl
            · have := HX.out.2.1 l[j] (by rw [List.mem_take_iff_getElem]; exact ⟨j, by omega, rfl⟩)
              rw [this]; simp
          rw [this]
        rw [this]; rfl
    · have hie : l.take i = l := List.take_of_length_le (by omega)
      rw [hie] at hr
      have HX := Lib.hid (And.intro hr hmod); clear hr hmod hi hie
      go_wp2_with fail
      go_ret
      refine ⟨?_, HX.out.2⟩
      have : z = -1 := by
        rw [HZ.out.1]; unfold badI
        have : l.findIdx? (fun x => !rightB x) = none := by
          rw [List.findIdx?_eq_none_iff]
          intro x hx; rw [HX.out.1 x hx]; rfl
        rw [this]
      rw [this]; rfl
end Go.Proofs.YtgdadhpcooegnaaDoor
