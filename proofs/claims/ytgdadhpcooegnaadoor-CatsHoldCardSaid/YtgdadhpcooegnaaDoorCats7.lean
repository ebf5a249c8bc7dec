/- Layer 5, cats: slices.DeleteFunc of what is not right. -/
import Derived.Test.YtgdadhpcooegnaaDoorCats6
namespace Go.Proofs.YtgdadhpcooegnaaDoor
open Go.RowKit Go.Shelf
set_option linter.unusedVariables false
def kept (l : List (List UInt8)) (j : Nat) : List (List UInt8) := (l.take j).filter rightB
theorem kept_succ {l : List (List UInt8)} {j : Nat} {x : List UInt8} (h : l[j]? = some x) : kept l (j + 1) = kept l j ++ if rightB x then [x] else [] := by
  unfold kept
  rw [List.take_add_one, h, List.filter_append]
  cases hx : rightB x <;> simp [hx]
/-- The row while what is right is moved up: i are kept, j are looked at. -/
structure DI (w0 : World) (g : Nat) (l : List (List UInt8)) (tail : List Value) (i j : Nat) (row mid : List Value) (w : World) : Prop where
  blk : w.heap[g]? = some (.cells row.toArray 9 (0, 0))
  mod : Mod (fun k => k = g) w0 w
  row : row = scells (kept l j) ++ mid ++ scells (l.drop j) ++ tail
  num : (kept l j).length = i
  mid : i + mid.length = j
theorem DI.cell {w0 w : World} {g : Nat} {l : List (List UInt8)} {tail row mid : List Value} {i j : Nat} (h : DI w0 g l tail i j row mid w) {x : List UInt8} (hx : l[j]? = some x) : w.cell? ⟨g, j, none⟩ = some (encS x) := by
  rw [Lib.cell_of_heap h.blk, List.getElem?_toArray, h.row]
  have hlt := (List.getElem?_eq_some_iff.1 hx).1
  have hl : (scells (kept l j) ++ mid).length = j := by rw [List.length_append, scells_len, h.num, h.mid]
  rw [List.append_assoc, List.getElem?_append_right (by omega), hl, Nat.sub_self, List.drop_eq_getElem_cons hlt]
  simp [scells, (List.getElem?_eq_some_iff.1 hx).2]
theorem DI.len {w0 w : World} {g : Nat} {l : List (List UInt8)} {tail row mid : List Value} {i j : Nat} (h : DI w0 g l tail i j row mid w) (hj : j ≤ l.length) : row.length = (scells l ++ tail).length := by
  have h1 := h.num; have h2 := h.mid
  rw [h.row]
  simp only [List.length_append, scells_len, List.length_drop]
  omega
theorem DI.skip {w0 w w1 : World} {g : Nat} {l : List (List UInt8)} {tail row mid : List Value} {i j : Nat} (h : DI w0 g l tail i j row mid w) (hm : Mod (fun _ => False) w w1) {x : List UInt8} (hx : l[j]? = some x) (hr : rightB x = false) : DI w0 g l tail i (j + 1) row (mid ++ [encS x]) w1 := by
  have hlt := (List.getElem?_eq_some_iff.1 hx).1
  have hk : kept l (j + 1) = kept l j := by rw [kept_succ hx, hr]; simp
  refine ⟨(hm.block g (Array.getElem?_eq_some_iff.1 h.blk).1 id).trans h.blk, tr0 h.mod hm, ?_, by rw [hk]; exact h.num, by have := h.mid; simp; omega⟩
  rw [hk, h.row, List.drop_eq_getElem_cons hlt, (List.getElem?_eq_some_iff.1 hx).2]
  simp [scells]
theorem DI.keep {w0 w w1 : World} {g : Nat} {l : List (List UInt8)} {tail row mid : List Value} {i j : Nat} (h : DI w0 g l tail i j row mid w) (hm : Mod (fun _ => False) w w1) {x : List UInt8} (hx : l[j]? = some x) (hr : rightB x = true) (hij : i < j) :
    DI w0 g l tail (i + 1) (j + 1) (row.set i (encS x)) (mid.tail ++ [encS x]) (w1.setCell ⟨g, i, none⟩ (encS x)) := by
  have hlt := (List.getElem?_eq_some_iff.1 hx).1
  have hk : kept l (j + 1) = kept l j ++ [x] := by rw [kept_succ hx, hr]; simp
  have hb1 := (hm.block g (Array.getElem?_eq_some_iff.1 h.blk).1 id).trans h.blk
  have hmid := h.mid
  cases hmd : mid with
  | nil => rw [hmd] at hmid; simp at hmid; omega
  | cons m mid' =>
    refine ⟨setCell_row hb1 i _, (tr0 h.mod hm).setCell (.inl rfl) _, ?_, by rw [hk, List.length_append, h.num]; rfl, by rw [hmd] at hmid; simp at hmid ⊢; omega⟩
    have hs : (scells (kept l j)).length = i := by rw [scells_len, h.num]
    rw [hk, h.row, hmd, List.drop_eq_getElem_cons hlt, (List.getElem?_eq_some_iff.1 hx).2, List.append_assoc, List.append_assoc, List.set_append_right _ _ (by omega), hs, Nat.sub_self]
    simp [scells]
set_option maxRecDepth 100000 in
set_option maxHeartbeats 2000000 in
theorem deleteFunc_any (g c : Nat) (l : List (List UInt8)) (tail : List Value) (w : World) (hg : w.heap[g]? = some (.cells (scells l ++ tail).toArray 9 (0, 0))) (hcap : l.length ≤ c) (hln : l.length ≤ 8796093022208) (hx : ∀ x ∈ l, x.length ≤ 140737488355328) (E : ∀ w', Mod (fun k => k = g) w w' → Env w') :
    Calls Tryd.prog 31 #[.slice (some ⟨g, 0, none⟩) l.length c, .func (.func 33) #[] #[]] w fun r w' => ∃ tail', r = .returned (.slice (some ⟨g, 0, none⟩) (l.filter rightB).length c) ∧
      w'.heap[g]? = some (.cells (scells (l.filter rightB) ++ tail').toArray 9 (0, 0)) ∧ (scells (l.filter rightB) ++ tail').length = (scells l ++ tail).length ∧ Mod (fun k => k = g) w w' := by
  have hcell : ∀ j x, l[j]? = some x → w.cell? ⟨g, j, none⟩ = some (encS x) := fun j x hj => by
    rw [Lib.cell_of_heap hg, List.getElem?_toArray, List.getElem?_append_left (by rw [scells_len]; exact (List.getElem?_eq_some_iff.1 hj).1)]
    simp [scells, hj]
  have hidx := indexFunc_any g c l w hcell hcap hln hx (E w (.refl _ _))
  unfold badI at hidx
  cases hf : l.findIdx? (fun x => !rightB x) with
  | none =>
    rw [hf] at hidx
    dsimp only at hidx
    have hall : l.filter rightB = l := by
      rw [List.filter_eq_self]
      intro x hx
      have := (List.findIdx?_eq_none_iff.1 hf) x hx
      simpa using this
    rw [hall]
    have HG := Lib.hid hg; clear hg hcell hf hall E hx
    go_enter Tryd.func31, Tryd.ntmps31
    go_wp2_with fail
    refine hidx.mono ?_
    rintro r w1 ⟨rfl, hm⟩
    have HM := Lib.hid hm; clear hm
    go_wp2_with fail
    go_ret
    exact ⟨tail, rfl, (HM.out.block g (Array.getElem?_eq_some_iff.1 HG.out).1 id).trans HG.out, rfl, HM.out.mono (fun k h => h.elim)⟩
  | some i0 =>
    rw [hf] at hidx
    dsimp only at hidx
    rw [List.findIdx?_eq_some_iff_getElem] at hf
    obtain ⟨hi0, hb0, hpre⟩ := hf
    have hk0 : kept l (i0 + 1) = l.take i0 := by
      rw [kept_succ (List.getElem?_eq_getElem hi0)]
      have : rightB l[i0] = false := by simpa using hb0
      rw [this]
      simp only [Bool.false_eq_true, if_false, List.append_nil]
      unfold kept
      rw [List.filter_eq_self]
      intro x hx
      obtain ⟨j, hj, rfl⟩ := List.mem_take_iff_getElem.1 hx
      have := hpre j (by omega)
      simpa using this
    have hD0 : ∀ w1, Mod (fun _ => False) w w1 → DI w g l tail i0 (i0 + 1) (scells l ++ tail) [encS l[i0]] w1 := fun w1 hm =>
      ⟨(hm.block g (Array.getElem?_eq_some_iff.1 hg).1 id).trans hg, hm.mono (fun k h => h.elim), by
        rw [hk0]
        congr 1
        rw [List.append_assoc]
        show scells l = scells (l.take i0) ++ ([encS l[i0]] ++ scells (l.drop (i0 + 1)))
        have : l = l.take i0 ++ (l[i0] :: l.drop (i0 + 1)) := by rw [← List.drop_eq_getElem_cons hi0, List.take_append_drop]
        conv => lhs; rw [this, scells_app]
        rfl, by rw [hk0, List.length_take]; omega, by simp⟩
    have HD := Lib.hid (And.intro hD0 (And.intro E hx)); clear hD0 E hx hcell hb0 hpre hk0 hg
    go_enter Tryd.func31, Tryd.ntmps31
    go_wp2_with fail
    refine hidx.mono ?_
    rintro r w1 ⟨rfl, hm⟩
    have HM := Lib.hid (HD.out.1 w1 hm); clear hm
    have hne : ((i0 : Int) == -1) = false := by simp
    go_wp2_with fail
    clear hne hidx
    go_loopg [5, 6] (l.length - (i0 + 1)) (fun f si sj wr => ∃ (i j : Nat) (row mid : List Value), si = .int .i64 i ∧ sj = .int .i64 j ∧ j + f = l.length ∧ i < j ∧ DI w g l tail i j row mid wr)
    case atStart => exact ⟨i0, i0 + 1, _, _, rfl, by go_num, by omega, by omega, HM.out⟩
    case round =>
      obtain ⟨i, j, row, mid, rfl, rfl, hf, hij, hd⟩ := hrel
      by_cases hlt : j < l.length
      · obtain ⟨x, hx⟩ : ∃ x, l[j]? = some x := ⟨l[j], by simp [hlt]⟩
        have hcx : wr.cell? ⟨g, j, none⟩ = some (.string ⟨x.toArray⟩) := hd.cell hx
        have hxl := HD.out.2.2 x (List.mem_of_getElem? hx)
        have HX := Lib.hid (And.intro hf (And.intro hij (And.intro hd hx))); clear hf hij hd hx
        go_wp2_with fail
        refine (out_any x hxl wr (HD.out.2.1 wr HX.out.2.2.1.mod)).mono ?_
        rintro r w2 ⟨rfl, hm⟩
        cases hb : rightB x with
        | true =>
          have hil : i < l.length := by have := HX.out.2.1; omega
          have HK := HX.out.2.2.1.keep hm HX.out.2.2.2 hb HX.out.2.1
          have hblk := (hm.block g (Array.getElem?_eq_some_iff.1 HX.out.2.2.1.blk).1 id).trans HX.out.2.2.1.blk
          have hrl : row.length = (scells l ++ tail).length := HX.out.2.2.1.len (by omega)
          have hci : ∃ u, w2.cell? ⟨g, i, none⟩ = some u := by
            rw [Lib.cell_of_heap hblk, List.getElem?_toArray]
            exact ⟨_, List.getElem?_eq_getElem (by rw [hrl, List.length_append, scells_len]; omega)⟩
          obtain ⟨u0, hci⟩ := hci
          have hfi : w2.frozen? ⟨g, i, none⟩ = false := Lib.frozen_of_heap hblk i
          have HH := Lib.hid (And.intro HK hm); clear HK hm hblk hrl
          go_wp2_with fail
          go_roundg (gk - 1)
          case measure => have := HX.out.1; omega
          case rel => exact ⟨i + 1, j + 1, _, _, by go_num, by go_num, by have := HX.out.1; omega, by have := HX.out.2.1; omega, HH.out.1⟩
        | false =>
          have HK := Lib.hid (HX.out.2.2.1.skip hm HX.out.2.2.2 hb); clear hm
          go_wp2_with fail
          go_roundg (gk - 1)
          case measure => have := HX.out.1; omega
          case rel => exact ⟨i, j + 1, _, _, rfl, by go_num, by have := HX.out.1; omega, by have := HX.out.2.1; omega, HK.out⟩
      · have hjl : j = l.length := by omega
        have hkl : kept l j = l.filter rightB := by unfold kept; rw [List.take_of_length_le (by omega)]
        have hrl := hd.len (by omega)
        have hil : (l.filter rightB).length = i := by rw [← hkl]; exact hd.num
        have HX := Lib.hid (And.intro hij (And.intro hd (And.intro hkl (And.intro hrl hil)))); clear hij hd hkl hrl hil hf
        have hij2 : i < l.length := by have := HX.out.1; omega
        have HJ := Lib.hid hjl; clear hjl
        go_wp2_with (refine wpList_clear_one rfl _ 36 rfl 9 (.string ⟨#[]⟩) Tryd.underlying36 (by kernel_rfl) rfl rfl g i (l.length - i) (c - i) rfl row 9 HX.out.2.1.blk ?hfit ?_)
        case hfit => rw [HX.out.2.2.2.1, List.length_append, scells_len]; omega
        intro w4 zs hzs hw4 hm4
        have H4 := Lib.hid (And.intro hw4 (And.intro (HX.out.2.1.mod.trans hm4 (fun k hk => .inl hk)) hzs)); clear hw4 hm4 hzs
        go_wp2_with fail
        go_ret
        obtain ⟨hij, hd, hkl, hrl, hil⟩ := HX.out
        have htk : row.take i = scells (l.filter rightB) := by
          have h1 : row = scells (l.filter rightB) ++ (mid ++ scells (l.drop j) ++ tail) := by rw [hd.row, hkl]; simp
          rw [h1, List.take_left' (by rw [scells_len, hil])]
        have hlaid : laid row i zs = scells (l.filter rightB) ++ (zs ++ row.drop (i + zs.length)) := by unfold laid; rw [htk, List.append_assoc]
        refine ⟨zs ++ row.drop (i + zs.length), by rw [hil]; rfl, by rw [← hlaid]; exact H4.out.1, ?_, H4.out.2.1⟩
        rw [← hrl, List.length_append, List.length_append, scells_len, hil, List.length_drop, H4.out.2.2, hrl, List.length_append, scells_len]
        omega
end Go.Proofs.YtgdadhpcooegnaaDoor
