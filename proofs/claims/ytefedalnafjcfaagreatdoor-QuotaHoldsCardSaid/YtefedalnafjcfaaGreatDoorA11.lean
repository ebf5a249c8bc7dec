/- Part of this claim's proof (texts Own1, OwnC, Own2, DelQ, Own3, Path1, Build, BuildB, Path2, Path3, joined by program). -/
import Derived.Test.YtefedalnafjcfaaGreatDoorA09
import Derived.Test.YtefedalnafjcfaaGreatDoorA07
import Derived.Lib.AppendZeros
import Derived.Test.YtefedalnafjcfaaGreatDoorA04
import Derived.Test.YtefedalnafjcfaaGreatDoorA02
import Derived.Test.YtefedalnafjcfaaGreatDoorA10
import Derived.Lib.Builder
import Derived.Lib.AppendStr
import Derived.Laws.Externs
import Derived.Lib.LazyBuf
namespace Go.Proofs.YtefedalnafjcfaaGreatDoor
open Go.RowKit Go.Shelf
set_option linter.unusedVariables false
set_option maxRecDepth 100000 in
set_option maxHeartbeats 1000000 in
theorem equalO_any (A : Option Addr) (n c : Nat) (A2 : Option Addr) (n2 c2 : Nat) (a b : List Nm) (ok ok2 : Nat → Prop) (w : World) (h : nmsR.rel w ok [.slice A n c] a) (h2 : nmsR.rel w ok2 [.slice A2 n2 c2] b) :
    Calls Tryz.prog 105 #[.slice A n c, .slice A2 n2 c2] w fun r w' => r = .returned (.bool (decide (a = b))) ∧ Mod (fun _ => False) w w' := by
  obtain ⟨rfl, hcap, hbig, -, hrow⟩ := nms_row h
  obtain ⟨rfl, hcap2, hbig2, -, hrow2⟩ := nms_row h2
  obtain ⟨z, hz⟩ : ∃ z, z = decide (a = b) := ⟨_, rfl⟩
  rw [← hz]
  have H0 := Lib.hid (And.intro hrow (And.intro hrow2 hz)); clear h h2 hrow hrow2 hz
  by_cases hle : a.length = b.length
  case neg =>
    have hzf : z = false := by rw [H0.out.2.2]; exact decide_eq_false fun e => hle (by rw [e])
    subst hzf
    have e1 : ((a.length : Int) != (b.length : Int)) = true := by simp; omega
    go_enter Tryz.func105, Tryz.ntmps105
    go_wp2_with fail
    go_ret
    exact ⟨rfl, Mod.refl _ _⟩
  case pos =>
    have e1 : ((a.length : Int) != (b.length : Int)) = false := by simp; omega
    have HL := Lib.hid hle; clear hle
    go_enter Tryz.func105, Tryz.ntmps105
    go_wp2_with fail
    go_loopg [13] a.length (fun f si wr => ∃ i : Nat, si = .int .i64 i ∧ i + f = a.length ∧ a.take i = b.take i ∧ Mod (fun _ => False) w wr)
    case atStart => exact ⟨0, rfl, by omega, by simp, .refl _ _⟩
    case round =>
      obtain ⟨i, rfl, hi, hsm, hmod⟩ := hrel
      by_cases hlt : i < a.length
      · have hlt2 : i < b.length := by rw [← HL.out]; exact hlt
        obtain ⟨x, hx⟩ : ∃ x, a[i]? = some x := ⟨_, List.getElem?_eq_getElem hlt⟩
        obtain ⟨y, hy⟩ : ∃ y, b[i]? = some y := ⟨_, List.getElem?_eq_getElem hlt2⟩
        obtain ⟨ad, rfl, -, hc, -⟩ := H0.out.1 i x hx
        obtain ⟨ad2, rfl, -, hd, -⟩ := H0.out.2.1 i y hy
        have hc := (hmod.cell (lt_of_cell hc) id).trans hc
        have hd := (hmod.cell (lt_of_cell hd) id).trans hd
        by_cases hxy : x = y
        · subst hxy
          have hsm' : a.take (i + 1) = b.take (i + 1) := by rw [List.take_add_one, List.take_add_one, hx, hy, hsm]
          have HX := Lib.hid (And.intro hi (And.intro hsm' hmod)); clear hi hsm hsm' hmod hx hy
          go_wp2_with fail
          go_quiet (fail)
          go_wp2_with fail
          go_roundg (gk - 1)
          case measure => have := HX.out.1; omega
          case rel => exact ⟨i + 1, by go_num, by have := HX.out.1; omega, HX.out.2.1, HX.out.2.2.drewN _⟩
        · have hzf : z = false := by
            rw [H0.out.2.2]
            refine decide_eq_false fun e => hxy ?_
            rw [e, hy] at hx
            exact (Option.some.inj hx).symm
          have e2 : (x == y) = false := by simpa using hxy
          have HX := Lib.hid hmod; clear hi hsm hmod hx hy hxy
          subst hzf
          go_wp2_with fail
          go_quiet (fail)
          go_wp2_with fail
          go_ret
          exact ⟨rfl, HX.out.drewN _⟩
      · have hzt : z = true := by
          rw [H0.out.2.2]
          refine decide_eq_true ?_
          rw [List.take_of_length_le (by omega), List.take_of_length_le (by have := HL.out; omega)] at hsm
          exact hsm
        have HX := Lib.hid hmod; clear hi hsm hmod
        subst hzt
        go_wp2_with fail
        go_ret
        exact ⟨rfl, HX.out⟩
theorem sortN_any (A : Option Addr) (n c : Nat) (l : List Nm) (ok : Nat → Prop) (w : World) (h : nmsR.rel w ok [.slice A n c] l) (E : Env w) :
    Calls Tryz.prog 106 #[.slice A n c] w fun r w' => ∃ A' c', r = .returned (.slice A' (sortS l).length c') ∧ w'.ownsRow w.heap.size 9 1 (.slice A' (sortS l).length c') (sortS l).length (scells (sortS l)) ∧ Mod (fun _ => False) w w' := by
  have hn := nms_row h
  have hle := nms_le h
  have := sort_any A n c (l.map mkStr) ok w h (by rw [List.length_map]; omega) (fun s hs => by
    obtain ⟨x, hx, rfl⟩ := List.mem_map.1 hs
    rw [mkStr_size]; exact hle x hx) E
  rwa [map_back] at this
set_option maxRecDepth 100000 in
set_option maxHeartbeats 1000000 in
theorem rightO_any (A : Option Addr) (n c : Nat) (l : List Nm) (ok : Nat → Prop) (w : World) (h : nmsR.rel w ok [.slice A n c] l) (E : Env w) :
    Calls Tryz.prog 76 #[.slice A n c] w fun r w' => r = .returned (.bool (rightO l)) ∧ Mod (fun _ => False) w w' := by
  obtain ⟨hn, -⟩ := nms_row h
  subst hn
  rw [rightO_code]
  have hle := nms_le h
  have hs := sortN_any A l.length c l ok w h E
  have hsl := sortS_len l
  have hr := fun W hW => Rd.mod (S := fun _ => False) (w1 := W) h hW (fun _ _ => id)
  obtain ⟨z, hz⟩ : ∃ z, z = decide (sortS l = l) := ⟨_, rfl⟩
  rw [← hz]
  obtain ⟨x, hx⟩ : ∃ x, x = sortS l := ⟨_, rfl⟩
  have hxe : ∀ y ∈ x, y.length ≤ 140737488355328 := fun y hy => hle y (by rw [hx, (sortS_spec l).2] at hy; exact hy.1)
  rw [← hx] at hs hz hsl
  have hll : l.length ≤ 8796093022208 := by have := (nms_row h).2.2.1; omega
  have H0 := Lib.hid (And.intro hs (And.intro hr (And.intro hz hxe))); clear h E hs hr hz hx hle hxe
  by_cases h8 : l.length ≤ 8
  · have e1 : decide (l.length ≤ 8) = true := by simpa using h8
    go_enter Tryz.func76, Tryz.ntmps76
    go_wp2_with fail
    refine H0.out.1.mono ?_
    rintro r w1 ⟨A', c', rfl, ho, hm⟩
    have he := equalO_any A' x.length c' A l.length c x l _ _ w1 (nms_own ho H0.out.2.2.2 (by omega)) (H0.out.2.1 w1 hm)
    rw [← H0.out.2.2.1] at he
    have H1 := Lib.hid (And.intro he hm); clear ho he hm
    go_wp2_with fail
    refine H1.out.1.mono ?_
    rintro r w2 ⟨rfl, hm⟩
    have H2 := Lib.hid (tr0 H1.out.2 hm); clear hm
    go_wp2_with fail
    go_ret
    exact ⟨by rw [e1]; rfl, H2.out⟩
  · have e1 : decide (l.length ≤ 8) = false := by simpa using h8
    rw [e1]
    go_enter Tryz.func76, Tryz.ntmps76
    go_wp2_with fail
    go_ret
    exact ⟨rfl, .refl _ _⟩
end Go.Proofs.YtefedalnafjcfaaGreatDoor

namespace Go.Proofs.YtefedalnafjcfaaGreatDoor
open Go.RowKit Go.Shelf
set_option linter.unusedVariables false
theorem Tryz.info_str3 : (Tryz.prog.info? 9).map (fun i => (i.zero, i.size, i.bytes)) = some (some (.string ⟨#[]⟩), 1, 16) := by kernel_rfl
end Go.Proofs.YtefedalnafjcfaaGreatDoor

namespace Go.Proofs.YtefedalnafjcfaaGreatDoor
open Go.RowKit Go.Shelf
set_option linter.unusedVariables false
def OwnN (w : World) (base : Nat) (v : Value) (l : List Nm) : Prop := w.ownsRow base 9 1 v l.length (scells l)
theorem OwnN.nil (w : World) (base : Nat) : OwnN w base (.slice none 0 0) [] := World.ownsRow_nil _ _ _ _
theorem OwnN.mod {w w1 : World} {base : Nat} {v : Value} {l : List Nm} {S : Nat → Prop} (h : OwnN w base v l) (hm : Mod S w w1) (hS : ∀ k, v.ownBlock = some k → ¬ S k) : OwnN w1 base v l :=
  own_move h fun k hk => hm.block k (own_lt h k hk).2 (hS k hk)
theorem OwnN.le {w : World} {base base1 : Nat} {v : Value} {l : List Nm} (h : OwnN w base v l) (hb : base1 ≤ base) : OwnN w base1 v l := own_base_le h hb
theorem OwnN.reads {w : World} {base : Nat} {v : Value} {l : List Nm} (h : OwnN w base v l) (hr : ∀ x ∈ l, x.length ≤ 140737488355328) (hl : l.length ≤ 8796093022208) : nmsR.rel w (fun k => v.ownBlock = some k) [v] l := nms_own h hr hl
end Go.Proofs.YtefedalnafjcfaaGreatDoor

namespace Go.Proofs.YtefedalnafjcfaaGreatDoor
open Go.RowKit Go.Shelf
set_option linter.unusedVariables false
def keptQ (q : Nm → Bool) (l : List Nm) (j : Nat) : List Nm := (l.take j).filter q
theorem keptQ_succ {q : Nm → Bool} {l : List Nm} {j : Nat} {x : Nm} (h : l[j]? = some x) : keptQ q l (j + 1) = keptQ q l j ++ if q x then [x] else [] := by
  unfold keptQ
  rw [List.take_add_one, h, List.filter_append]
  cases hx : q x <;> simp [hx]
/-- The row while what is kept is moved up: i are kept, j are looked at. -/
structure DQ (q : Nm → Bool) (w0 : World) (g : Nat) (l : List Nm) (tail : List Value) (i j : Nat) (row mid : List Value) (w : World) : Prop where
  blk : w.heap[g]? = some (.cells row.toArray 9 (0, 0))
  mod : Mod (fun k => k = g) w0 w
  row : row = scells (keptQ q l j) ++ mid ++ scells (l.drop j) ++ tail
  num : (keptQ q l j).length = i
  mid : i + mid.length = j
section
variable {q : Nm → Bool} {w0 w w1 : World} {g : Nat} {l : List Nm} {tail row mid : List Value} {i j : Nat}
theorem DQ.cell (h : DQ q w0 g l tail i j row mid w) {x : Nm} (hx : l[j]? = some x) : w.cell? ⟨g, j, none⟩ = some (encS x) := by
  rw [Lib.cell_of_heap h.blk, List.getElem?_toArray, h.row]
  have hlt := (List.getElem?_eq_some_iff.1 hx).1
  have hl : (scells (keptQ q l j) ++ mid).length = j := by rw [List.length_append, scells_len, h.num, h.mid]
  rw [List.append_assoc, List.getElem?_append_right (by omega), hl, Nat.sub_self, List.drop_eq_getElem_cons hlt]
  simp [scells, (List.getElem?_eq_some_iff.1 hx).2]
theorem DQ.len (h : DQ q w0 g l tail i j row mid w) (hj : j ≤ l.length) : row.length = (scells l ++ tail).length := by
  have h1 := h.num; have h2 := h.mid
  rw [h.row]
  simp only [List.length_append, scells_len, List.length_drop]
  omega
theorem DQ.skip (h : DQ q w0 g l tail i j row mid w) (hm : Mod (fun _ => False) w w1) {x : Nm} (hx : l[j]? = some x) (hr : q x = false) : DQ q w0 g l tail i (j + 1) row (mid ++ [encS x]) w1 := by
  have hlt := (List.getElem?_eq_some_iff.1 hx).1
  have hk : keptQ q l (j + 1) = keptQ q l j := by rw [keptQ_succ hx, hr]; simp
  refine ⟨(hm.block g (Array.getElem?_eq_some_iff.1 h.blk).1 id).trans h.blk, tr0 h.mod hm, ?_, by rw [hk]; exact h.num, by have := h.mid; simp; omega⟩
  rw [hk, h.row, List.drop_eq_getElem_cons hlt, (List.getElem?_eq_some_iff.1 hx).2]
  simp [scells]
theorem DQ.keep (h : DQ q w0 g l tail i j row mid w) (hm : Mod (fun _ => False) w w1) {x : Nm} (hx : l[j]? = some x) (hr : q x = true) (hij : i < j) :
    DQ q w0 g l tail (i + 1) (j + 1) (row.set i (encS x)) (mid.tail ++ [encS x]) (w1.setCell ⟨g, i, none⟩ (encS x)) := by
  have hlt := (List.getElem?_eq_some_iff.1 hx).1
  have hk : keptQ q l (j + 1) = keptQ q l j ++ [x] := by rw [keptQ_succ hx, hr]; simp
  have hb1 := (hm.block g (Array.getElem?_eq_some_iff.1 h.blk).1 id).trans h.blk
  have hmid := h.mid
  cases hmd : mid with
  | nil => rw [hmd] at hmid; simp at hmid; omega
  | cons m mid' =>
    refine ⟨setCell_row hb1 i _, (tr0 h.mod hm).setCell (.inl rfl) _, ?_, by rw [hk, List.length_append, h.num]; rfl, by rw [hmd] at hmid; simp at hmid ⊢; omega⟩
    have hs : (scells (keptQ q l j)).length = i := by rw [scells_len, h.num]
    rw [hk, h.row, hmd, List.drop_eq_getElem_cons hlt, (List.getElem?_eq_some_iff.1 hx).2, List.append_assoc, List.append_assoc, List.set_append_right _ _ (by omega), hs, Nat.sub_self]
    simp [scells]
end
end Go.Proofs.YtefedalnafjcfaaGreatDoor

namespace Go.Proofs.YtefedalnafjcfaaGreatDoor
open Go.RowKit Go.Shelf
set_option linter.unusedVariables false
theorem cloneN_any (A : Option Addr) (n c : Nat) (l : List Nm) (ok : Nat → Prop) (w : World) (h : nmsR.rel w ok [.slice A n c] l) :
    Calls Tryz.prog 69 #[.slice A n c] w fun r w' => ∃ A' c', r = .returned (.slice A' l.length c') ∧ OwnN w' w.heap.size (.slice A' l.length c') l ∧ Mod (fun _ => False) w w' := by
  have hn := nms_row h
  have := clone_rd A n c (l.map mkStr) ok w h (by rw [List.length_map]; omega)
  rw [map_back, List.length_map] at this
  refine this.mono ?_
  rintro r w' ⟨v, rfl, ho, hm⟩
  obtain ⟨A', c', rfl⟩ := own_slice ho
  exact ⟨A', c', rfl, ho, hm⟩
end Go.Proofs.YtefedalnafjcfaaGreatDoor

namespace Go.Proofs.YtefedalnafjcfaaGreatDoor
open Go.RowKit Go.Shelf
set_option linter.unusedVariables false
set_option maxRecDepth 100000 in
theorem number_p (n : Int) (w : World) : Calls Tryz.prog 92 #[.int .i64 n] w fun r w' => r = .returned (.bool (numP n)) ∧ w = w' := by
  obtain ⟨b, hb⟩ : ∃ b, b = numP n := ⟨_, rfl⟩
  rw [← hb]
  unfold numP at hb
  by_cases h0 : 0 ≤ n
  · have d0 : decide (n ≥ 0) = true := by simpa using h0
    by_cases h1 : n ≤ 1048576
    · have d1 : decide (n ≤ 1048576) = true := by simpa using h1
      obtain rfl : b = true := by rw [hb]; simp [h0, h1]
      clear hb h0 h1
      go_enter Tryz.func92, Tryz.ntmps92
      go_wp2
      go_ret
      exact ⟨rfl, rfl⟩
    · have d1 : decide (n ≤ 1048576) = false := by simpa using h1
      obtain rfl : b = false := by rw [hb]; simp [h0, h1]
      clear hb h0 h1
      go_enter Tryz.func92, Tryz.ntmps92
      go_wp2
      go_ret
      exact ⟨rfl, rfl⟩
  · have d0 : decide (n ≥ 0) = false := by simpa using h0
    obtain rfl : b = false := by rw [hb]; simp [h0]
    clear hb h0
    go_enter Tryz.func92, Tryz.ntmps92
    go_wp2
    go_ret
    exact ⟨rfl, rfl⟩
set_option maxRecDepth 100000 in
theorem right1_p (n : Int) (w : World) : Calls Tryz.prog 91 #[.int .i64 n] w fun r w' => r = .returned (.bool (!numP n)) ∧ w = w' := by
  have H := number_p n w
  generalize numP n = b at H ⊢
  cases b <;>
  · go_enter Tryz.func91, Tryz.ntmps91
    go_wp2_with (go_at_call 92; refine H.mono ?_; rintro r w1 ⟨rfl, rfl⟩)
    go_ret
    exact ⟨rfl, rfl⟩
def idxI (p : Int → Bool) (l : List Int) : Int := match l.findIdx? p with
  | some i => i
  | none => -1
theorem idxI_none {p : Int → Bool} {l : List Int} (h : ∀ x ∈ l, p x = false) : idxI p l = -1 := by
  unfold idxI
  have : l.findIdx? p = none := by rw [List.findIdx?_eq_none_iff]; exact h
  rw [this]
theorem idxI_some {p : Int → Bool} {l : List Int} {i : Nat} {x : Int} (hx : l[i]? = some x) (hp : p x = true) (h : ∀ y ∈ l.take i, p y = false) : idxI p l = i := by
  unfold idxI
  have hl : i < l.length := (List.getElem?_eq_some_iff.1 hx).1
  have he : l[i] = x := (List.getElem?_eq_some_iff.1 hx).2
  have : l.findIdx? p = some i := by
    rw [List.findIdx?_eq_some_iff_getElem]
    refine ⟨hl, by rw [he]; exact hp, ?_⟩
    intro j hj
    have := h l[j] (List.mem_take_iff_getElem.2 ⟨j, by omega, by simp⟩)
    simp [this]
  rw [this]
set_option maxRecDepth 100000 in
set_option maxHeartbeats 1000000 in
theorem indexR_p (A : Option Addr) (n c : Nat) (l : List Int) (ok : Nat → Prop) (w : World) (h : intsR.rel w ok [.slice A n c] l) :
    Calls Tryz.prog 126 #[.slice A n c, .func (.func 91) #[] #[]] w fun r w' => r = .returned (.int .i64 (idxI (fun k => !numP k) l)) ∧ w = w' := by
  obtain ⟨rfl, hcap, hcb, -, -, hrow⟩ := ints_row h
  have hbig : l.length ≤ maxLen := by omega
  unfold maxLen at hbig
  obtain ⟨z, hz⟩ : ∃ z, z = idxI (fun k => !numP k) l := ⟨_, rfl⟩
  rw [← hz]
  have H0 := Lib.hid (And.intro hrow hz); clear hrow hz h
  go_enter Tryz.func126, Tryz.ntmps126
  go_wp2_with fail
  go_loopg [8] l.length (fun f si wr => ∃ i : Nat, si = .int .i64 i ∧ i + f = l.length ∧ (∀ x ∈ l.take i, numP x = true) ∧ w = wr)
  case atStart => exact ⟨0, rfl, by omega, by simp, rfl⟩
  case round =>
    obtain ⟨i, rfl, hi, hno, rfl⟩ := hrel
    by_cases hlt : i < l.length
    · obtain ⟨x, hx⟩ : ∃ x, l[i]? = some x := ⟨l[i], by simp [hlt]⟩
      obtain ⟨ad, rfl, -, hc0, -⟩ := RowOf.ints H0.out.1 hx
      have HX := Lib.hid (And.intro hi (And.intro hno hx)); clear hi hno hx
      go_wp2_with fail
      refine (right1_p x w).mono ?_
      rintro r w1 ⟨rfl, rfl⟩
      cases hb : numP x with
      | false =>
        have hzi : z = i := by rw [H0.out.2]; exact idxI_some HX.out.2.2 (by rw [hb]; rfl) (fun y hy => by rw [HX.out.2.1 y hy]; rfl)
        subst hzi
        clear hb
        dsimp only [Bool.not_false]
        go_wp2_with fail
        go_ret
        exact ⟨rfl, rfl⟩
      | true =>
        have HB := Lib.hid hb; clear hb
        dsimp only [Bool.not_true]
        go_wp2_with fail
        go_roundg (gk - 1)
        case measure => have := HX.out.1; omega
        case rel =>
          refine ⟨i + 1, by go_num, by have := HX.out.1; omega, ?_, rfl⟩
          rw [List.take_add_one, HX.out.2.2]
          intro y hy
          rcases List.mem_append.1 hy with hy | hy
          · exact HX.out.2.1 y hy
          · simp at hy; rw [hy]; exact HB.out
    · have hie : l.take i = l := List.take_of_length_le (by omega)
      rw [hie] at hno
      have hzi : z = -1 := by rw [H0.out.2]; exact idxI_none (fun x hx => by rw [hno x hx]; rfl)
      subst hzi
      clear hno hi hie
      go_wp2_with fail
      go_ret
      exact ⟨rfl, rfl⟩
theorem idxI_neg {l : List Int} : decide (idxI (fun k => !numP k) l ≥ 0) = !l.all numP := by
  cases h : l.all numP with
  | true =>
    rw [idxI_none (fun x hx => by rw [List.all_eq_true.1 h x hx]; rfl)]; rfl
  | false =>
    obtain ⟨x, hx, hp⟩ := List.all_eq_false.1 h
    unfold idxI
    cases hf : l.findIdx? (fun k => !numP k) with
    | none =>
      rw [List.findIdx?_eq_none_iff] at hf
      have := hf x hx
      simp at this; exact absurd this hp
    | some i => simp
set_option maxRecDepth 100000 in
theorem containsR_p (A : Option Addr) (n c : Nat) (l : List Int) (ok : Nat → Prop) (w : World) (h : intsR.rel w ok [.slice A n c] l) :
    Calls Tryz.prog 90 #[.slice A n c, .func (.func 91) #[] #[]] w fun r w' => r = .returned (.bool (!l.all numP)) ∧ w = w' := by
  have H := indexR_p A n c l ok w h
  rw [← idxI_neg]
  generalize idxI (fun k => !numP k) l = z at H ⊢
  have HH := Lib.hid H; clear H h
  go_enter Tryz.func90, Tryz.ntmps90
  go_wp2_with fail
  refine HH.out.mono ?_
  rintro r w1 ⟨rfl, rfl⟩
  go_wp2_with fail
  go_ret
  exact ⟨rfl, rfl⟩
set_option maxRecDepth 100000 in
theorem right_p (A : Option Addr) (n c : Nat) (l : List Int) (ok : Nat → Prop) (w : World) (h : intsR.rel w ok [.slice A n c] l) :
    Calls Tryz.prog 60 #[.slice A n c] w fun r w' => r = .returned (.bool (rightP l)) ∧ w = w' := by
  have H := containsR_p A n c l ok w h
  obtain ⟨rfl, -⟩ := ints_row h
  unfold rightP
  have HH := Lib.hid H; clear H h
  by_cases h6 : l.length ≤ 6
  · have d6 : decide ((l.length : Int) ≤ 6) = true := by simp; omega
    have e6 : decide (l.length ≤ 6) = true := by simpa using h6
    rw [e6, Bool.true_and]
    clear h6 e6
    obtain ⟨b, hb⟩ : ∃ b, b = l.all numP := ⟨_, rfl⟩
    rw [← hb] at HH ⊢
    clear hb
    cases b <;>
    · go_enter Tryz.func60, Tryz.ntmps60
      go_wp2_with fail
      refine HH.out.mono ?_
      rintro r w1 ⟨rfl, rfl⟩
      dsimp only [Bool.not_true, Bool.not_false]
      go_wp2_with fail
      go_ret
      exact ⟨rfl, rfl⟩
  · have d6 : decide ((l.length : Int) ≤ 6) = false := by simp; omega
    have e6 : decide (l.length ≤ 6) = false := by simpa using h6
    rw [e6, Bool.false_and]
    clear h6 e6
    go_enter Tryz.func60, Tryz.ntmps60
    go_wp2_with fail
    go_ret
    exact ⟨rfl, rfl⟩
end Go.Proofs.YtefedalnafjcfaaGreatDoor

namespace Go.Proofs.YtefedalnafjcfaaGreatDoor
open Go.RowKit Go.Shelf
set_option linter.unusedVariables false
theorem Tryz.sizeBuilder : (Tryz.prog.info? 112).map (·.size) = some 2 := by kernel_rfl
theorem Tryz.liesBuilder : liesAt Tryz.prog Tryz.prog.depth 112 (2 / Tryz.prog.cellsOf 112) 0 112 1 = true := by kernel_rfl
theorem Tryz.infoByte : (Tryz.prog.info? 5).map (fun i => (i.zero, i.size, i.bytes)) = some (some (.int .u8 0), 1, 1) := by kernel_rfl
set_option maxHeartbeats 1000000 in
set_option maxRecDepth 100000 in
theorem copyCheck_used (b : Nat) (w : World) (h0 : w.cell? ⟨b, 0, none⟩ = some (.pointer (some ⟨b, 0, none⟩))) :
    Calls Tryz.prog 84 #[.pointer (some ⟨b, 0, none⟩)] w fun e w' => e = .returned (.tuple #[]) ∧ w' = w := by
  obtain ⟨j, hj, _⟩ := Option.map_eq_some_iff.1 Tryz.sizeBuilder
  go_enter Tryz.func84, Tryz.ntmps84
  go_wp2_with fail
  rw [Lib.run_neq_ptr_same w _ Tryz.underlying110 hj]
  go_wp2_with fail
  go_end0
  exact ⟨rfl, rfl⟩
set_option maxHeartbeats 1000000 in
set_option maxRecDepth 100000 in
theorem copyCheck_fresh (b : Nat) (w : World) (h0 : w.cell? ⟨b, 0, none⟩ = some (.pointer none)) (hsh : w.shape? b = some (112, 2)) (hfz : w.frozen? ⟨b, 0, none⟩ = false) :
    Calls Tryz.prog 84 #[.pointer (some ⟨b, 0, none⟩)] w fun e w' => e = .returned (.tuple #[]) ∧ w' = w.setCell ⟨b, 0, none⟩ (.pointer (some ⟨b, 0, none⟩)) := by
  obtain ⟨j, hj, hjs⟩ := Option.map_eq_some_iff.1 Tryz.sizeBuilder
  go_enter Tryz.func84, Tryz.ntmps84
  go_wp2_with fail
  rw [Lib.run_to_unsafe w ⟨b, 0, none⟩ Tryz.underlying110 Tryz.underlying166 hj (by rw [hjs]; decide) hsh (Nat.zero_lt_succ 1)]
  simp only [Result.andThen]
  rw [Oper.upon_value]
  go_wp2_with fail
  rw [run_callFunc_extern Tryz.func116 (by kernel_rfl) (by kernel_rfl) (by kernel_rfl) (e := Extern.AbiNoEscape.same) (by kernel_rfl)]
  rw [Lib.run_noEscape]
  simp only [Result.andThen]
  rw [Oper.upon_value]
  go_wp2_with fail
  rw [Lib.run_from_unsafe w ⟨b, 0, none⟩ Tryz.underlying166 Tryz.underlying110 hj hsh Tryz.liesBuilder]
  simp only [Result.andThen]
  rw [Oper.upon_value]
  go_wp2_with fail
  go_end0
  exact ⟨rfl, rfl⟩
abbrev IsB (B b : Nat) (l : List UInt8) (w : World) : Prop := Lib.IsBuilder 112 5 B b (Lib.byteCells l) w
abbrev BAt (B b : Nat) (bs : List Value) (w : World) : Prop := Lib.BuilderAt 112 5 B b (.pointer (some ⟨b, 0, none⟩)) bs w
theorem copyCheck_any (B b : Nat) (l : List UInt8) (w : World) (h : IsB B b l w) :
    Calls Tryz.prog 84 #[.pointer (some ⟨b, 0, none⟩)] w fun e w' => e = .returned (.tuple #[]) ∧ BAt B b (Lib.byteCells l) w' ∧ Below B w w' := by
  rcases h with h | h
  · refine (copyCheck_fresh b w h.cell0 h.shape h.frozen0).mono ?_
    rintro e w' ⟨rfl, rfl⟩
    exact ⟨rfl, h.used _, (Below.refl B w).setCell (p := ⟨b, 0, none⟩) h.1 _⟩
  · refine (copyCheck_used b w h.cell0).mono ?_
    rintro e w' ⟨rfl, rfl⟩
    exact ⟨rfl, h, Below.refl B _⟩
set_option maxHeartbeats 2000000 in
set_option maxRecDepth 100000 in
theorem writeString_any (B b : Nat) (l m : List UInt8) (w : World) (h : IsB B b l w) (hlen : l.length + m.length ≤ 100000000) (hBw : B ≤ w.heap.size) :
    Calls Tryz.prog 52 #[.pointer (some ⟨b, 0, none⟩), .string ⟨m.toArray⟩] w fun e w' => (∃ n, e = .returned (.tuple #[.int .i64 n, .nilIface])) ∧ IsB B b (l ++ m) w' ∧ Below B w w' := by
  obtain ⟨i0, hi, hz0, hz1, hz2⟩ := info_parts Tryz.infoByte
  have hms : (⟨m.toArray⟩ : ByteArray).size = m.length := by simp [ByteArray.size]
  go_enter Tryz.func52, Tryz.ntmps52
  go_wp2_with fail
  refine (copyCheck_any B b l _ h).mono ?_
  rintro e w1 ⟨rfl, ⟨hB, v, hbk, hown, hne⟩, hb1⟩
  have c0 : w1.cell? ⟨b, 0, none⟩ = some (.pointer (some ⟨b, 0, none⟩)) := by rw [Lib.cell_of_heap hbk]; rfl
  have c1 : w1.cell? ⟨b, 1, none⟩ = some v := by rw [Lib.cell_of_heap hbk]; rfl
  rw [Lib.byteCells_length] at hown
  go_wp2_with (at_builtin; refine Lib.wpList_append_own_string _ rfl _ _ 22 9 rfl B 5 i0 Tryz.underlying22 Tryz.underlying9 hi hz0 hz1 hz2 _ _ _ rfl hown ⟨m.toArray⟩ rfl ?c3 ?c4 ?c5 ?_)
  case c3 => unfold maxLen; rw [hms]; omega
  case c4 => rw [hms]; omega
  case c5 => have := hb1.size; omega
  intro v' w2 hown' hgrow _
  have hlt : b < w1.heap.size := by
    rcases Nat.lt_or_ge b w1.heap.size with h' | h'
    · exact h'
    · simp [Array.getElem?_eq_none h'] at hbk
  have hb2 : w2.heap[b]? = some (.cells #[.pointer (some ⟨b, 0, none⟩), v] 112 (0, 0)) := by
    rw [hgrow.block b hlt (fun e => hne e.symm)]
    exact hbk
  have d0 : w2.cell? ⟨b, 0, none⟩ = some (.pointer (some ⟨b, 0, none⟩)) := by rw [Lib.cell_of_heap hb2]; rfl
  have d1 : w2.cell? ⟨b, 1, none⟩ = some v := by rw [Lib.cell_of_heap hb2]; rfl
  have f1 : w2.frozen? ⟨b, 1, none⟩ = false := Lib.frozen_of_heap hb2 1
  obtain ⟨ao, n', cap, rfl⟩ : ∃ ao n' cap, v' = .slice ao n' cap := by
    rcases hown'.2 with ⟨hv, _⟩ | ⟨g, cap, cur, hv, _⟩
    · exact ⟨_, _, _, hv⟩
    · exact ⟨_, _, _, hv⟩
  have HF := Lib.hid (And.intro hown (And.intro hown' (And.intro hgrow (And.intro hb1 (And.intro hB hb2))))); clear hown hown' hgrow hb1 hbk hB hb2
  go_wp2_with fail
  go_ret2
  obtain ⟨hown, hown', hgrow, hb1, hB, hb2⟩ := HF.out
  refine ⟨⟨_, rfl⟩, .inr ?_, ?_⟩
  · exact Lib.BuilderAt.put (T := 112) (e := 5) hB hb2 (bs' := Lib.byteCells (l ++ m)) (by
      have e1 : (Lib.byteCells (l ++ m)).length = l.length + (⟨m.toArray⟩ : ByteArray).size := by rw [Lib.byteCells_length, hms]; simp
      have e2 : Lib.byteCells (l ++ m) = Lib.byteCells l ++ Lib.strCells ⟨m.toArray⟩ := by simp [Lib.byteCells, Lib.strCells]
      rw [e1, e2]; exact hown') (by decide)
  · exact (hb1.grown hgrow (by have := hb1.size; omega) (fun k hk => (hown.lt k hk).1)).setCell (p := ⟨b, 1, none⟩) hB _

theorem isB_mod {B b : Nat} {l : List UInt8} {w w1 : World} (h : IsB B b l w) (hm : Mod (fun _ => False) w w1) : IsB B b l w1 := by
  have key : ∀ p, Lib.BuilderAt 112 5 B b p (Lib.byteCells l) w → Lib.BuilderAt 112 5 B b p (Lib.byteCells l) w1 := fun p ⟨hB, v, hb, hown, hne⟩ =>
    ⟨hB, v, (hm.block b (Array.getElem?_eq_some_iff.1 hb).1 id).trans hb, own_move hown (fun k hk => hm.block k (own_lt hown k hk).2 id), hne⟩
  exact h.elim (fun h => .inl (key _ h)) (fun h => .inr (key _ h))
end Go.Proofs.YtefedalnafjcfaaGreatDoor

namespace Go.Proofs.YtefedalnafjcfaaGreatDoor
open Go.RowKit Go.Shelf
set_option linter.unusedVariables false
set_option maxHeartbeats 2000000 in
set_option maxRecDepth 100000 in
theorem writeByte_any (B b : Nat) (l : List UInt8) (c : UInt8) (w : World) (h : IsB B b l w) (hlen : l.length + 1 ≤ 100000000) (hBw : B ≤ w.heap.size) :
    Calls Tryz.prog 51 #[.pointer (some ⟨b, 0, none⟩), .int .u8 c.toNat] w fun e w' => e = .returned .nilIface ∧ IsB B b (l ++ [c]) w' ∧ Below B w w' := by
  obtain ⟨i0, hi, hz0, hz1, hz2⟩ := info_parts Tryz.infoByte
  go_enter Tryz.func51, Tryz.ntmps51
  go_wp2_with fail
  refine (copyCheck_any B b l _ h).mono ?_
  rintro e w1 ⟨rfl, ⟨hB, v, hbk, hown, hne⟩, hb1⟩
  have c0 : w1.cell? ⟨b, 0, none⟩ = some (.pointer (some ⟨b, 0, none⟩)) := by rw [Lib.cell_of_heap hbk]; rfl
  have c1 : w1.cell? ⟨b, 1, none⟩ = some v := by rw [Lib.cell_of_heap hbk]; rfl
  rw [Lib.byteCells_length] at hown
  go_wp2_with (at_builtin; refine wpList_append_own _ rfl _ _ 22 rfl B 5 i0 (.int .u8 0) 1 1 Tryz.underlying22 hi hz0 hz1 hz2 rfl (by decide) _ _ _ rfl (hown.alloc _) ⟨w1.heap.size, 0, none⟩ 1 1 [.int .u8 c.toNat] rfl rfl ?c1 ?c2 ?c3 ?c4 ?c5 ?_)
  case c1 =>
    intro j u hj
    match j, hj with
    | 0, hj => simp at hj; subst hj; simp [Addr.add]
  case c2 => intro u hu; simp at hu; subst hu; rfl
  case c3 => unfold maxLen; omega
  case c4 => omega
  case c5 => have := hb1.size; simp; omega
  intro v' w2 hown' hgrow _
  have hlt : b < w1.heap.size := by
    rcases Nat.lt_or_ge b w1.heap.size with h' | h'
    · exact h'
    · simp [Array.getElem?_eq_none h'] at hbk
  have hb2 : w2.heap[b]? = some (.cells #[.pointer (some ⟨b, 0, none⟩), v] 112 (0, 0)) := by
    rw [hgrow.block b (by simp; omega) (fun e => hne e.symm), Lib.alloc_old w1 _ b hlt]
    exact hbk
  have d0 : w2.cell? ⟨b, 0, none⟩ = some (.pointer (some ⟨b, 0, none⟩)) := by rw [Lib.cell_of_heap hb2]; rfl
  have d1 : w2.cell? ⟨b, 1, none⟩ = some v := by rw [Lib.cell_of_heap hb2]; rfl
  have f1 : w2.frozen? ⟨b, 1, none⟩ = false := Lib.frozen_of_heap hb2 1
  obtain ⟨g, cap, rfl⟩ : ∃ g cap, v' = .slice (some ⟨g, 0, none⟩) (l.length + 1) cap := by
    rcases hown'.2 with ⟨_, h0⟩ | ⟨g, cap, cur, hv, _⟩
    · omega
    · exact ⟨g, cap, hv⟩
  have HF := Lib.hid (And.intro hown (And.intro hown' (And.intro hgrow (And.intro hb1 (And.intro hB hb2))))); clear hown hown' hgrow hb1 hbk hB hb2
  go_wp2_with fail
  go_ret
  obtain ⟨hown, hown', hgrow, hb1, hB, hb2⟩ := HF.out
  refine ⟨rfl, .inr ?_, ?_⟩
  · exact Lib.BuilderAt.put (T := 112) (e := 5) hB hb2 (bs' := Lib.byteCells (l ++ [c])) (by
      have : (Lib.byteCells (l ++ [c])).length = l.length + 1 := by rw [Lib.byteCells_length]; simp
      rw [this]; simpa [Lib.byteCells] using hown') (by decide)
  · exact ((hb1.alloc (by have := hb1.size; omega) _).grown hgrow (by have := hb1.size; simp; omega) (fun k hk => (hown.lt k hk).1)).setCell (p := ⟨b, 1, none⟩) hB _
end Go.Proofs.YtefedalnafjcfaaGreatDoor

namespace Go.Proofs.YtefedalnafjcfaaGreatDoor
open Go.RowKit Go.Shelf
set_option linter.unusedVariables false
theorem pathT_len64 : ∀ l : List Int, (∀ k ∈ l, Rd.inR .i64 k) → (pathT l).length ≤ 22 * l.length := by
  intro l
  rw [pathT_join]
  induction l with
  | nil => intro _; simp [joinB]
  | cons k l ih =>
    intro h
    have h1 := ih fun x hx => h x (.tail _ hx)
    have hk := inR_i64 (h k (.head _))
    have h2 := Lib.itoa_length_le k (by omega) (by omega)
    cases l with
    | nil => simp [joinB]; omega
    | cons m l => simp [joinB] at h1 ⊢; omega
set_option maxRecDepth 100000 in
set_option maxHeartbeats 2000000 in
theorem textP_any (A : Option Addr) (c m : Nat) (p : List Int) (ok : Nat → Prop) (w : World) (h : intsR.rel w ok [.slice A m c] p) (hp : p.length ≤ 1100000) (E : Env w) :
    Calls Tryz.prog 25 #[.slice A m c] w fun r w' => r = .returned (encS (pathT p)) ∧ Mod (fun _ => False) w w' := by
  have hin := intsR_inR h
  obtain ⟨rfl, hcap, -, -, -, hrow⟩ := ints_row h
  have H0 := Lib.hid hrow; clear hrow h
  have E0 := Lib.hid E; clear E
  obtain ⟨t, ht⟩ : ∃ t, t = pathT p := ⟨_, rfl⟩
  rw [← ht]
  have HF := Lib.hid (And.intro ht (And.intro hin hp)); clear ht hin hp
  go_enter Tryz.func25, Tryz.ntmps25
  go_wp2_with fail
  go_loopg [8] p.length (fun f si wr => ∃ i : Nat, si = .int .i64 i ∧ i + f = p.length ∧ IsB w.heap.size w.heap.size (pathT (p.take i)) wr ∧ Mod (fun _ => False) w wr)
  case atStart =>
    refine ⟨0, rfl, by omega, .inl ⟨Nat.le_refl _, _, World.alloc_heap_new w _, World.ownsRow_nil _ _ _ _, by simp [Value.ownBlock]⟩, (Mod.refl _ w).alloc _⟩
  case round =>
    obtain ⟨i, rfl, hi, hB, hmod⟩ := hrel
    have hsz := hmod.size
    have hpb := HF.out.2.2
    by_cases hlt : i < p.length
    · obtain ⟨x, hx⟩ : ∃ x, p[i]? = some x := ⟨p[i], by simp [hlt]⟩
      have hrow := H0.out.step (w1 := wr) (ok1 := ok) (fun k hk hl => ⟨hk, hmod.block k hl id⟩)
      obtain ⟨ad, rfl, -, hcx, hxr⟩ := RowOf.ints hrow hx
      have hxr := inR_i64 hxr
      have HX := Lib.hid (And.intro hi (And.intro hB (And.intro hmod hx))); clear hi hB hmod hx hrow
      have hxl := Lib.itoa_length_le x (by omega) (by omega)
      have hpl := pathT_len64 (p.take i) (fun k hk => HF.out.2.1 k (List.mem_of_mem_take hk))
      have hpp := HF.out.2.2
      rw [List.length_take] at hpl
      have htake : p.take (i + 1) = p.take i ++ [x] := by rw [List.take_add_one, HX.out.2.2.2]; rfl
      have hsn := pathT_snoc x (p.take i)
      rw [← htake] at hsn
      have itoa_call : ∀ W, Mod (fun _ => False) w W → Calls Tryz.prog 53 #[.int .i64 x] W fun r W' => r = .returned (.string ⟨(Lib.itoa x).toArray⟩) ∧ Mod (fun _ => False) W W' := fun W hW => by
        refine (Tryz.strconv_Itoa x (by omega) (by omega) W (E0.out.mod0 hW).tab).mono ?_
        rintro r W' ⟨rfl, k, os, rfl⟩
        exact ⟨rfl, .of_below (Go.Lib.below_grow _ _ (Nat.le_refl _) k os)⟩
      clear htake
      by_cases hi0 : 0 < i
      · have hne : p.take i ≠ [] := by intro h; have := congrArg List.length h; rw [List.length_take, List.length_nil] at this; omega
        rw [if_neg hne] at hsn
        have HZ := Lib.hid (And.intro hsn (And.intro (show (pathT (p.take i)).length ≤ 24200000 by omega) hxl)); clear hsn hpl hxl hne hpp
        go_wp2_with fail
        refine (writeByte_any w.heap.size w.heap.size (pathT (p.take i)) 46 wr HX.out.2.1 (by have := HZ.out.2.1; omega) hsz).mono ?_
        rintro e w1 ⟨rfl, hB1, hb1⟩
        have H1 := Lib.hid (And.intro hB1 (mod_below HX.out.2.2.1 hb1)); clear hB1 hb1
        go_wp2_with fail
        refine (itoa_call w1 H1.out.2).mono ?_
        rintro e w2 ⟨rfl, hm⟩
        have H2 := Lib.hid (And.intro (isB_mod H1.out.1 hm) (tr0 H1.out.2 hm)); clear hm H1
        have hs2 := H2.out.2.size
        go_wp2_with fail
        refine (writeString_any w.heap.size w.heap.size (pathT (p.take i) ++ [46]) (Lib.itoa x) w2 H2.out.1 (by have := HZ.out.2; simp; omega) hs2).mono ?_
        rintro e w3 ⟨⟨nn, rfl⟩, hB3, hb3⟩
        have H3 := Lib.hid (And.intro hB3 (mod_below H2.out.2 hb3)); clear hB3 hb3 H2
        go_wp2_with fail
        go_roundg (gk - 1)
        case measure => have := HX.out.1; omega
        case rel => exact ⟨i + 1, by go_num, by have := HX.out.1; omega, by rw [HZ.out.1]; exact H3.out.1, H3.out.2⟩
      · have hne : p.take i = [] := by rw [show i = 0 by omega]; rfl
        rw [if_pos hne, List.nil_append] at hsn
        have HZ := Lib.hid (And.intro hsn (And.intro hne hxl)); clear hsn hpl hxl hne hpp
        go_wp2_with fail
        refine (itoa_call wr HX.out.2.2.1).mono ?_
        rintro e w2 ⟨rfl, hm⟩
        have hB0 := HX.out.2.1
        rw [HZ.out.2.1] at hB0
        have H2 := Lib.hid (And.intro (isB_mod hB0 hm) (tr0 HX.out.2.2.1 hm)); clear hm hB0
        have hs2 := H2.out.2.size
        go_wp2_with fail
        refine (writeString_any w.heap.size w.heap.size [] (Lib.itoa x) w2 H2.out.1 (by have := HZ.out.2; simp; omega) hs2).mono ?_
        rintro e w3 ⟨⟨nn, rfl⟩, hB3, hb3⟩
        have H3 := Lib.hid (And.intro hB3 (mod_below H2.out.2 hb3)); clear hB3 hb3 H2
        go_wp2_with fail
        go_roundg (gk - 1)
        case measure => have := HX.out.1; omega
        case rel => exact ⟨i + 1, by go_num, by have := HX.out.1; omega, by rw [HZ.out.1]; exact H3.out.1, H3.out.2⟩
    · have hie : p.take i = p := List.take_of_length_le (by omega)
      rw [hie] at hB
      have HX := Lib.hid (And.intro hB hmod); clear hB hmod hi hie
      go_wp2_with fail
      refine (Tryz.Builder_String_any w.heap.size w.heap.size (pathT p) wr HX.out.1 hsz).mono ?_
      rintro e w4 ⟨rfl, hb4⟩
      have H4 := Lib.hid (mod_below HX.out.2 hb4); clear hb4
      go_wp2_with fail
      go_ret
      rw [HF.out.1]
      exact ⟨rfl, H4.out⟩
end Go.Proofs.YtefedalnafjcfaaGreatDoor

namespace Go.Proofs.YtefedalnafjcfaaGreatDoor
open Go.RowKit Go.Shelf
set_option linter.unusedVariables false
abbrev OwnI (w : World) (base : Nat) (S : Nat → Prop) (v : Value) (l : List Int) : Prop := OwnR (Rd.int .i64) 3 w base S v l
set_option maxRecDepth 100000 in
set_option maxHeartbeats 1000000 in
theorem cloneI_any (A : Option Addr) (n c : Nat) (l : List Int) (ok : Nat → Prop) (w : World) (h : intsR.rel w ok [.slice A n c] l) (hl : l.length ≤ 1100000) :
    Calls Tryz.prog 64 #[.slice A n c] w fun e w' => ∃ A' c', e = .returned (.slice A' l.length c') ∧ OwnI w' w.heap.size (fun _ => False) (.slice A' l.length c') l ∧ Mod (fun _ => False) w w' := by
  replace h := Rd.bound h
  obtain ⟨rfl, hcap, hcm, -, hnil, hrow⟩ := ints_row h
  clear h
  cases A with
  | none =>
    have hc0 : c = 0 := hnil rfl
    subst hc0
    have hl0 : l = [] := List.eq_nil_of_length_eq_zero (by omega)
    subst hl0
    clear hrow hnil hcap hcm
    have he := Go.run_eql_slice_nil (P := Tryz.prog) w 30 3 none 0 0 Tryz.underlying30
    go_enter Tryz.func64, Tryz.ntmps64
    go_wp2_with fail
    go_ret
    exact ⟨none, 0, rfl, OwnR.nil _ _ _ _ _, Mod.refl _ _⟩
  | some ad =>
    have HX := Lib.hid hrow
    clear hrow hnil
    have he := Go.run_eql_slice_nil (P := Tryz.prog) w 30 3 (some ad) l.length c Tryz.underlying30
    go_enter Tryz.func64, Tryz.ntmps64
    go_wp2_with (at_builtin; refine append_all (R := Rd.int .i64) w.heap.size rfl _ _ 30 3 (.int .i64 0) 8 rfl Tryz.underlying30 Tryz.infoI rfl (.slice (some ⟨w.heap.size, 0, none⟩) 0 0) [] l (fun k => ok k ∧ k < w.heap.size) (some ad) c rfl rfl ?c1 ?c2 (by intro e; cases e) ?c3 ?c4 (by decide) ?_)
    case c1 => exact ⟨[], World.ownsRow_made w #[] 0 (Nat.le_refl _) (by decide) rfl, fun j x h => by simp at h⟩
    case c2 => exact Rd.RowOf.weak <| HX.out.step fun k hk hl => ⟨⟨hk, fun e => by have := hk.2; simp only [Value.ownBlock, Option.some.injEq] at e; omega⟩, ((Mod.refl (fun _ => False) w).alloc _).block k hl id⟩
    case c3 => simp
    case c4 => simp only [List.length_nil]; omega
    intro A' c' w1 hO hm hn
    have HY := Lib.hid (And.intro hO hm); clear hO hm hn
    go_wp2_with fail
    go_ret
    refine ⟨A', c', rfl, ?_, ((Mod.refl (fun _ => False) w).alloc _).trans HY.out.2 (fun k hk => .inr ?_)⟩
    · obtain ⟨cells, h1, h2⟩ := HY.out.1
      exact ⟨cells, h1, fun j x hj => h2 j x hj⟩
    · simp only [Value.ownBlock, Option.some.injEq] at hk
      omega
set_option maxRecDepth 100000 in
set_option maxHeartbeats 1000000 in
theorem clipI_any (A : Option Addr) (n c : Nat) (w : World) (hc : n ≤ c) :
    Calls Tryz.prog 79 #[.slice A n c] w fun e w' => e = .returned (.slice A n n) ∧ w' = w := by
  go_enter Tryz.func79, Tryz.ntmps79
  go_wp2_with fail
  go_ret
  exact ⟨rfl, rfl⟩
set_option maxRecDepth 100000 in
set_option maxHeartbeats 1000000 in
theorem compare_p (A : Option Addr) (c m : Nat) (A2 : Option Addr) (c2 m2 : Nat) (p q : List Int) (ok ok2 : Nat → Prop) (w : World) (h : intsR.rel w ok [.slice A m c] p) (h2 : intsR.rel w ok2 [.slice A2 m2 c2] q) :
    Calls Tryz.prog 24 #[.slice A m c, .slice A2 m2 c2] w fun r w' => r = .returned (.int .i64 (cmpL p q)) ∧ Mod (fun _ => False) w w' := by
  have H := Lib.hid (cmpLists_any A c m A2 c2 m2 p q ok ok2 w h h2); clear h h2
  generalize cmpL p q = z at H ⊢
  go_enter Tryz.func24, Tryz.ntmps24
  go_wp2_with fail
  refine H.out.mono ?_
  rintro r w1 ⟨rfl, hm⟩
  have HM := Lib.hid hm; clear hm
  go_wp2_with fail
  go_ret
  exact ⟨rfl, HM.out⟩
end Go.Proofs.YtefedalnafjcfaaGreatDoor

