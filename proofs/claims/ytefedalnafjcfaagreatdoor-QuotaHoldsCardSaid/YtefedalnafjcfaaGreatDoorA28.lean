/- Part of this claim's proof (texts RefP4, RefL6, OwnR3, TapeFl, TapeRf, RefN1, joined by program). -/
import Derived.Test.YtefedalnafjcfaaGreatDoorA17
import Derived.Test.YtefedalnafjcfaaGreatDoorA27
import Derived.Test.YtefedalnafjcfaaGreatDoorA09
import Derived.Deep.DeepCutAuto
import Derived.Test.YtefedalnafjcfaaGreatDoorA08
import Derived.Test.YtefedalnafjcfaaGreatDoorA14
import Derived.Test.YtefedalnafjcfaaGreatDoorA06
import Derived.Test.YtefedalnafjcfaaGreatDoorA18
namespace Go.Proofs.YtefedalnafjcfaaGreatDoor
open Go.RowKit Go.Shelf
set_option linter.unusedVariables false
set_option maxRecDepth 100000 in
set_option maxHeartbeats 1000000 in
theorem refput8_any (A : Option Addr) (n c : Nat) (l : List Int) (ok : Nat → Prop) (w : World) (h : intsR.rel w ok [.slice A n c] l) (hl : l.length ≤ 1100000) :
    Calls Tryz.prog 81 #[.slice A n c] w fun r w' => r = .returned (encS (putP l)) ∧ Mod (fun _ => False) w w' := by
  obtain ⟨rfl, hcap, hcm, -, -, hrow⟩ := ints_row h
  obtain ⟨b0, hb0⟩ : ∃ b0, b0 = encF 10 l.length := ⟨_, rfl⟩
  have hb0l : b0.length ≤ 10 := by rw [hb0]; exact encF_len 10 _
  obtain ⟨z, hz⟩ : ∃ z, z = putP l := ⟨_, rfl⟩
  rw [← hz]
  unfold encS
  have hn := refnum_any 9 (by decide) l.length w (by omega) (by omega) (by omega)
  rw [show (9 + 1) = 10 from rfl, ← hb0] at hn
  unfold mkStr at hn
  have hend : z = b0 ++ l.flatMap encN := by rw [hz]; unfold putP; rw [hb0]
  have H0 := Lib.hid (And.intro hrow (And.intro hn hend)); clear h hrow hn hb0 hz hend
  go_enter Tryz.func81, Tryz.ntmps81
  go_wp2_with fail
  refine H0.out.2.1.mono ?_
  rintro r w1 ⟨rfl, hm1⟩
  have H1 := Lib.hid hm1; clear hm1
  go_wp2_with fail
  go_loopg [3, 11] l.length (fun f so si wr => ∃ (i : Nat), si = .int .i64 i ∧ i + f = l.length ∧ so = .string ⟨(b0 ++ (l.take i).flatMap encN).toArray⟩ ∧ Mod (fun _ => False) w wr)
  case atStart => exact ⟨0, rfl, by omega, by simp, H1.out⟩
  case round =>
    obtain ⟨i, rfl, hi, rfl, hmod⟩ := hrel
    by_cases hlt : i < l.length
    · obtain ⟨d, hx⟩ : ∃ d, l[i]? = some d := ⟨_, List.getElem?_eq_getElem hlt⟩
      obtain ⟨ad, rfl, -, hc, -⟩ := RowOf.ints (H0.out.1.step (w1 := wr) (ok1 := ok) (fun k hk hl => ⟨hk, hmod.block k hl id⟩)) hx
      have hfl := flatN_len (l.take i)
      rw [List.length_take] at hfl
      obtain ⟨bi, hbi⟩ : ∃ bi, bi = b0 ++ (l.take i).flatMap encN := ⟨_, rfl⟩
      have hbil : bi.length ≤ 2000000000 := by
        rw [hbi, List.length_append]; omega
      have htk : b0 ++ (l.take (i + 1)).flatMap encN = bi ++ encN d := by rw [List.take_add_one, hx, List.flatMap_append, hbi]; simp
      rw [← hbi]
      by_cases hr : 0 ≤ d ∧ d ≤ 4611686018427387903
      · have he : encN d = encF 10 d := encN_in hr.1 hr.2
        rw [he] at htk
        have htx := fun W => refnum_any 9 (by decide) d W hr.1 hr.2 (by have : (128 : Int) ^ (9 + 1) = 1180591620717411303424 := by decide
                                                                        omega)
        rw [show (9 + 1) = 10 from rfl] at htx
        unfold mkStr at htx
        have htl := encF_len 10 d
        obtain ⟨t, ht⟩ : ∃ t, t = encF 10 d := ⟨_, rfl⟩
        rw [← ht] at htx htl htk
        have hc1' : (⟨bi.toArray⟩ : ByteArray) ++ ⟨t.toArray⟩ = ⟨(bi ++ t).toArray⟩ := by apply ByteArray.ext; simp
        have e5 : ¬ (9223372036854775807 < bi.length + t.length) := by omega
        have d0 : decide (d ≥ 0) = true := by simpa using hr.1
        have d1 : decide (d ≤ 4611686018427387903) = true := by simpa using hr.2
        have hr0 := hr.1
        have hr1 := hr.2
        have HX := Lib.hid (And.intro hi (And.intro hmod (And.intro htk htx))); clear hi hmod htk hx hbi hfl htx ht he hr
        go_wp2_with fail
        refine (HX.out.2.2.2 wr).mono ?_
        rintro r w2 ⟨rfl, hm2⟩
        have H2 := Lib.hid (tr0 HX.out.2.1 hm2); clear hm2 hc
        go_wp2_with fail
        go_roundg (gk - 1)
        case measure => have := HX.out.1; omega
        case rel => exact ⟨i + 1, by go_num, by have := HX.out.1; omega, by rw [HX.out.2.2.1], H2.out⟩
      · have he : encN d = [] := by unfold encN; rw [if_neg hr]
        rw [he, List.append_nil] at htk
        by_cases h0 : 0 ≤ d
        · have h1 : ¬ d ≤ 4611686018427387903 := fun h => hr ⟨h0, h⟩
          have d0 : decide (d ≥ 0) = true := by simpa using h0
          have d1 : decide (d ≤ 4611686018427387903) = false := by simpa using h1
          have HX := Lib.hid (And.intro hi (And.intro hmod htk)); clear hi hmod htk hx hbi hfl he hr
          go_wp2_with fail
          go_roundg (gk - 1)
          case measure => have := HX.out.1; omega
          case rel => exact ⟨i + 1, by go_num, by have := HX.out.1; omega, by rw [HX.out.2.2], HX.out.2.1⟩
        · have d0 : decide (d ≥ 0) = false := by simpa using h0
          have HX := Lib.hid (And.intro hi (And.intro hmod htk)); clear hi hmod htk hx hbi hfl he hr
          go_wp2_with fail
          go_roundg (gk - 1)
          case measure => have := HX.out.1; omega
          case rel => exact ⟨i + 1, by go_num, by have := HX.out.1; omega, by rw [HX.out.2.2], HX.out.2.1⟩
    · have hie : l.take i = l := List.take_of_length_le (by omega)
      rw [hie]
      rw [← H0.out.2.2]
      have HX := Lib.hid hmod; clear hie hi hmod
      go_wp2_with fail
      go_ret
      exact ⟨rfl, HX.out⟩
end Go.Proofs.YtefedalnafjcfaaGreatDoor

namespace Go.Proofs.YtefedalnafjcfaaGreatDoor
open Go.RowKit Go.Shelf
set_option linter.unusedVariables false
set_option maxRecDepth 100000 in
set_option maxHeartbeats 1000000 in
theorem refput_any (A : Option Addr) (n c : Nat) (l : List Entry) (ok : Nat → Prop) (w : World) (h : labR.rel w ok [.slice A n c] l) (hl : l.length ≤ 1000) (hnm : ∀ e ∈ l, (nm e).length ≤ 1100000) :
    Calls Tryz.prog 111 #[.slice A n c] w fun r w' => r = .returned (.string ⟨(encL l).toArray⟩) ∧ Mod (fun _ => False) w w' := by
  obtain ⟨rfl, hcap, -, hbig, -, hrow⟩ := lab_row h
  obtain ⟨b0, hb0⟩ : ∃ b0, b0 = encF 10 l.length := ⟨_, rfl⟩
  have hb0l : b0.length ≤ 10 := by rw [hb0]; exact encF_len 10 _
  obtain ⟨z, hz⟩ : ∃ z, z = encL l := ⟨_, rfl⟩
  rw [← hz]
  have hn := refnum_any 9 (by decide) l.length w (by omega) (by omega) (by omega)
  rw [show (9 + 1) = 10 from rfl, ← hb0] at hn
  unfold mkStr at hn
  have hend : z = b0 ++ l.flatMap encEn := by rw [hz]; unfold encL; rw [hb0]
  have H0 := Lib.hid (And.intro hrow (And.intro hnm (And.intro hn hend))); clear h hrow hnm hn hb0 hz hend
  go_enter Tryz.func111, Tryz.ntmps111
  go_wp2_with fail
  refine H0.out.2.2.1.mono ?_
  rintro r w1 ⟨rfl, hm1⟩
  have H1 := Lib.hid hm1; clear hm1
  go_wp2_with fail
  go_loopg [3, 11] l.length (fun f so si wr => ∃ (i : Nat), si = .int .i64 i ∧ i + f = l.length ∧ so = .string ⟨(b0 ++ (l.take i).flatMap encEn).toArray⟩ ∧ Mod (fun _ => False) w wr)
  case atStart => exact ⟨0, rfl, by omega, by simp, H1.out⟩
  case round =>
    obtain ⟨i, rfl, hi, rfl, hmod⟩ := hrel
    by_cases hlt : i < l.length
    · obtain ⟨d, m, hx⟩ : ∃ d m, l[i]? = some (ent d m) := by
        obtain ⟨d, m, e⟩ := ent_cases l[i]
        exact ⟨d, m, by rw [← e]; simp [hlt]⟩
      obtain ⟨ad, rfl, -, hc0, hc1, hdl, -⟩ := row_ent (H0.out.1.step (w1 := wr) (ok1 := fun _ => True) (fun k hk hl => ⟨trivial, hmod.block k hl (fun h => h)⟩)) hx
      have hd6 : d.length ≤ 1100000 := by have := H0.out.2.1 _ (List.mem_of_getElem? hx); rwa [nm_ent] at this
      have hfl := flat_len (l.take i) (fun e he => H0.out.2.1 e (List.mem_of_mem_take he))
      rw [List.length_take] at hfl
      obtain ⟨bi, hbi⟩ : ∃ bi, bi = b0 ++ (l.take i).flatMap encEn := ⟨_, rfl⟩
      have hbil : bi.length ≤ 2000000000 := by
        rw [hbi, List.length_append]
        have : 1100020 * min i l.length ≤ 1100020 * 1000 := Nat.mul_le_mul_left _ (by omega)
        omega
      obtain ⟨t, ht⟩ : ∃ t, t = encF 10 d.length ++ d := ⟨_, rfl⟩
      have htl : t.length ≤ 1100010 := by rw [ht, List.length_append]; have := encF_len 10 (d.length : Int); omega
      have htk : b0 ++ (l.take (i + 1)).flatMap encEn = (bi ++ t) ++ encN m := by rw [List.take_add_one, hx, List.flatMap_append, hbi, ht]; simp [encEn, nm_ent, lev_ent]
      have htx := fun W => reftext_any ⟨d.toArray⟩ (by show d.length ≤ _; omega) W
      unfold mkStr at htx
      simp only [show (⟨d.toArray⟩ : ByteArray).size = d.length from rfl, ← ht] at htx
      rw [← hbi]
      have hc1' : (⟨bi.toArray⟩ : ByteArray) ++ ⟨t.toArray⟩ = ⟨(bi ++ t).toArray⟩ := by apply ByteArray.ext; simp
      have e5 : ¬ (9223372036854775807 < bi.length + t.length) := by omega
      have HX := Lib.hid (And.intro hi (And.intro hmod (And.intro htk htx))); clear hi hmod htk hx hbi hfl htx ht
      go_wp2_with fail
      obtain ⟨W1, hW1⟩ : ∃ W1, W1 = wr.alloc (.cells #[.string ⟨d.toArray⟩, .int .i64 m] 129) := ⟨_, rfl⟩
      rw [← hW1]
      have hmW : Mod (fun _ => False) wr W1 := by rw [hW1]; exact (Mod.refl _ _).alloc _
      obtain ⟨k0, k1⟩ := cells2 wr (.string ⟨d.toArray⟩) (.int .i64 m) 129
      rw [← hW1] at k0 k1
      obtain ⟨g, hg⟩ : ∃ g, g = wr.heap.size := ⟨_, rfl⟩
      rw [← hg] at k0 k1 ⊢
      have HW := Lib.hid hmW; clear hW1 hg hmW hc0 hc1
      refine (HX.out.2.2.2 W1).mono ?_
      rintro r w2 ⟨rfl, hm2⟩
      have q1 := (hm2.cell (cell_lt k1) id).trans k1
      have H2 := Lib.hid (tr0 (tr0 HX.out.2.1 HW.out) hm2); clear hm2 k0 k1
      by_cases hm : 0 ≤ m ∧ m ≤ 4611686018427387903
      · have hn := refnum_any 9 (by decide) m w2 hm.1 hm.2 (by omega)
        rw [show (9 + 1) = 10 from rfl] at hn
        unfold mkStr at hn
        have htk := HX.out.2.2.1
        rw [show encN m = encF 10 m by unfold encN; rw [if_pos hm]] at htk
        obtain ⟨u, hu⟩ : ∃ u, u = encF 10 m := ⟨_, rfl⟩
        have hul : u.length ≤ 10 := by rw [hu]; exact encF_len 10 _
        rw [← hu] at hn htk
        have hc2' : (⟨(bi ++ t).toArray⟩ : ByteArray) ++ ⟨u.toArray⟩ = ⟨((bi ++ t) ++ u).toArray⟩ := by apply ByteArray.ext; simp
        have hm0 := hm.1
        have hm9 := hm.2
        have HN := Lib.hid (And.intro hn htk); clear hn htk hu hm
        go_wp2_with fail
        refine HN.out.1.mono ?_
        rintro r w3 ⟨rfl, hm3⟩
        have H3 := Lib.hid (tr0 H2.out hm3); clear hm3
        go_wp2_with fail
        go_roundg (gk - 1)
        case measure => have := HX.out.1; omega
        case rel => exact ⟨i + 1, by go_num, by have := HX.out.1; omega, by rw [HN.out.2]; simp, H3.out⟩
      · have htk := HX.out.2.2.1
        rw [show encN m = [] by unfold encN; rw [if_neg hm], List.append_nil] at htk
        have HN := Lib.hid htk; clear htk
        by_cases hm0 : 0 ≤ m
        · have hm9 : ¬ m ≤ 4611686018427387903 := fun h => hm ⟨hm0, h⟩
          clear hm
          go_wp2_with fail
          go_roundg (gk - 1)
          case measure => have := HX.out.1; omega
          case rel => exact ⟨i + 1, by go_num, by have := HX.out.1; omega, by rw [HN.out], H2.out⟩
        · clear hm
          go_wp2_with fail
          go_roundg (gk - 1)
          case measure => have := HX.out.1; omega
          case rel => exact ⟨i + 1, by go_num, by have := HX.out.1; omega, by rw [HN.out], H2.out⟩
    · have hie : l.take i = l := List.take_of_length_le (by omega)
      rw [hie, ← H0.out.2.2.2]
      have HX := Lib.hid hmod; clear hmod hie hi
      go_wp2_with fail
      go_ret
      exact ⟨rfl, HX.out⟩
end Go.Proofs.YtefedalnafjcfaaGreatDoor

namespace Go.Proofs.YtefedalnafjcfaaGreatDoor
open Go.RowKit Go.Shelf
set_option linter.unusedVariables false
set_option maxRecDepth 100000 in
set_option maxHeartbeats 1000000 in
theorem refput7_any (A : Option Addr) (n c : Nat) (l : List Nm) (ok : Nat → Prop) (w : World) (h : nmsR.rel w ok [.slice A n c] l) (hl : l.length ≤ 1000) (hnm : ∀ e ∈ l, e.length ≤ 1100000) :
    Calls Tryz.prog 113 #[.slice A n c] w fun r w' => r = .returned (.string ⟨(encO l).toArray⟩) ∧ Mod (fun _ => False) w w' := by
  obtain ⟨rfl, hcap, hbig, -, hrow⟩ := nms_row h
  obtain ⟨b0, hb0⟩ : ∃ b0, b0 = encF 10 l.length := ⟨_, rfl⟩
  have hb0l : b0.length ≤ 10 := by rw [hb0]; exact encF_len 10 _
  obtain ⟨z, hz⟩ : ∃ z, z = encO l := ⟨_, rfl⟩
  rw [← hz]
  have hn := refnum_any 9 (by decide) l.length w (by omega) (by omega) (by omega)
  rw [show (9 + 1) = 10 from rfl, ← hb0] at hn
  unfold mkStr at hn
  have hend : z = b0 ++ l.flatMap encC := by rw [hz]; unfold encO; rw [hb0]
  have H0 := Lib.hid (And.intro hrow (And.intro hnm (And.intro hn hend))); clear h hrow hnm hn hb0 hz hend
  go_enter Tryz.func113, Tryz.ntmps113
  go_wp2_with fail
  refine H0.out.2.2.1.mono ?_
  rintro r w1 ⟨rfl, hm1⟩
  have H1 := Lib.hid hm1; clear hm1
  go_wp2_with fail
  go_loopg [3, 11] l.length (fun f so si wr => ∃ (i : Nat), si = .int .i64 i ∧ i + f = l.length ∧ so = .string ⟨(b0 ++ (l.take i).flatMap encC).toArray⟩ ∧ Mod (fun _ => False) w wr)
  case atStart => exact ⟨0, rfl, by omega, by simp, H1.out⟩
  case round =>
    obtain ⟨i, rfl, hi, rfl, hmod⟩ := hrel
    by_cases hlt : i < l.length
    · obtain ⟨d, hx⟩ : ∃ d, l[i]? = some d := ⟨_, List.getElem?_eq_getElem hlt⟩
      obtain ⟨ad, rfl, -, hc, -⟩ := H0.out.1 i d hx
      have hc := (hmod.cell (lt_of_cell hc) id).trans hc
      have hd6 : d.length ≤ 1100000 := H0.out.2.1 _ (List.mem_of_getElem? hx)
      have hfl := flatC_len (l.take i) (fun e he => H0.out.2.1 e (List.mem_of_mem_take he))
      rw [List.length_take] at hfl
      obtain ⟨bi, hbi⟩ : ∃ bi, bi = b0 ++ (l.take i).flatMap encC := ⟨_, rfl⟩
      have hbil : bi.length ≤ 2000000000 := by
        rw [hbi, List.length_append]
        have : 1100010 * min i l.length ≤ 1100010 * 1000 := Nat.mul_le_mul_left _ (by omega)
        omega
      obtain ⟨t, ht⟩ : ∃ t, t = encF 10 d.length ++ d := ⟨_, rfl⟩
      have htl : t.length ≤ 1100010 := by rw [ht, List.length_append]; have := encF_len 10 (d.length : Int); omega
      have htk : b0 ++ (l.take (i + 1)).flatMap encC = bi ++ t := by rw [List.take_add_one, hx, List.flatMap_append, hbi, ht]; simp [encC]
      have htx := fun W => reftext_any ⟨d.toArray⟩ (by show d.length ≤ _; omega) W
      unfold mkStr at htx
      simp only [show (⟨d.toArray⟩ : ByteArray).size = d.length from rfl, ← ht] at htx
      rw [← hbi]
      have hc1' : (⟨bi.toArray⟩ : ByteArray) ++ ⟨t.toArray⟩ = ⟨(bi ++ t).toArray⟩ := by apply ByteArray.ext; simp
      have e5 : ¬ (9223372036854775807 < bi.length + t.length) := by omega
      have HX := Lib.hid (And.intro hi (And.intro hmod (And.intro htk htx))); clear hi hmod htk hx hbi hfl htx ht
      go_wp2_with fail
      refine (HX.out.2.2.2 wr).mono ?_
      rintro r w2 ⟨rfl, hm2⟩
      have H2 := Lib.hid (tr0 HX.out.2.1 hm2); clear hm2 hc
      go_wp2_with fail
      go_roundg (gk - 1)
      case measure => have := HX.out.1; omega
      case rel => exact ⟨i + 1, by go_num, by have := HX.out.1; omega, by rw [HX.out.2.2.1], H2.out⟩
    · have hie : l.take i = l := List.take_of_length_le (by omega)
      rw [hie, ← H0.out.2.2.2]
      have HX := Lib.hid hmod; clear hmod hie hi
      go_wp2_with fail
      go_ret
      exact ⟨rfl, HX.out⟩
end Go.Proofs.YtefedalnafjcfaaGreatDoor

namespace Go.Proofs.YtefedalnafjcfaaGreatDoor
open Go.RowKit
set_option linter.unusedVariables false
def flagB (b : Bool) : UInt8 := if b then 1 else 0
end Go.Proofs.YtefedalnafjcfaaGreatDoor

namespace Go.Proofs.YtefedalnafjcfaaGreatDoor
open Go.RowKit
set_option linter.unusedVariables false
set_option maxRecDepth 100000 in
theorem refflag_any (b : Bool) (w : World) :
    Calls Tryz.prog 114 #[.bool b] w fun e w' => e = .returned (.string (mkStr [flagB b])) ∧ w = w' := by
  cases b <;>
  · go_enter Tryz.func114, Tryz.ntmps114
    go_wp2
    go_ret
    exact ⟨rfl, rfl⟩
end Go.Proofs.YtefedalnafjcfaaGreatDoor

namespace Go.Proofs.YtefedalnafjcfaaGreatDoor
open Go.RowKit Go.Shelf
set_option linter.unusedVariables false
set_option maxRecDepth 100000 in
theorem rnum9_any (n : Int) (w : World) (hn : Rd.inR .i64 n) :
    Calls Tryz.prog 110 #[.int .i64 n] w fun r w' => r = .returned (.string ⟨(encN n).toArray⟩) ∧ Mod (fun _ => False) w w' := by
  by_cases h0 : n < 0
  · have he : encN n = [] := by unfold encN; rw [if_neg (by omega)]
    have d0 : decide (n < 0) = true := decide_eq_true h0
    rw [he]
    clear he h0 hn
    go_enter Tryz.func110, Tryz.ntmps110
    go_wp2_with fail
    go_ret
    exact ⟨rfl, .refl _ _⟩
  · have d0 : decide (n < 0) = false := decide_eq_false h0
    by_cases h1 : 4611686018427387903 < n
    · have he : encN n = [] := by unfold encN; rw [if_neg (by omega)]
      have d1 : decide (4611686018427387903 < n) = true := decide_eq_true h1
      rw [he]
      clear he h0 h1 hn
      go_enter Tryz.func110, Tryz.ntmps110
      go_wp2_with fail
      go_ret
      exact ⟨rfl, .refl _ _⟩
    · have he : encN n = encF 10 n := encN_in (by omega) (by omega)
      have d1 : decide (4611686018427387903 < n) = false := decide_eq_false h1
      have hr := refnum_any 9 (by decide) n w (by omega) (by omega) (by have : (128 : Int) ^ (9 + 1) = 1180591620717411303424 := by decide
                                                                        omega)
      rw [show (9 + 1) = 10 from rfl] at hr
      unfold mkStr at hr
      rw [he]
      have HX := Lib.hid hr; clear he h0 h1 hn hr
      go_enter Tryz.func110, Tryz.ntmps110
      go_wp2_with fail
      refine HX.out.mono ?_
      rintro r w1 ⟨rfl, hm1⟩
      have HM := Lib.hid hm1; clear hm1
      go_wp2_with fail
      go_ret
      exact ⟨rfl, HM.out⟩
theorem cat_ex (a b : List UInt8) (n : Nat) (h : a.length + b.length ≤ n) (hn : n ≤ 9223372036854775807) : ∃ c, c = a ++ b ∧ (⟨a.toArray⟩ : ByteArray) ++ ⟨b.toArray⟩ = ⟨c.toArray⟩ ∧ ¬ (9223372036854775807 < a.length + b.length) ∧ c.length ≤ n :=
  ⟨a ++ b, rfl, by apply ByteArray.ext; simp, by omega, by simp; omega⟩
structure OkPut (o : Ob) : Prop where
  lab : o.label.length ≤ 1000 ∧ ∀ e ∈ o.label, (nm e).length ≤ 1100000
  ent : o.entry.length ≤ 1000 ∧ ∀ e ∈ o.entry, (nm e).length ≤ 1100000
  own : o.own.length ≤ 1000 ∧ ∀ e ∈ o.own, e.length ≤ 1100000
  kids : o.kids.length ≤ 1000
  byt : o.bytes.length ≤ 1000000
  maps : o.maps.length ≤ 1000 ∧ ∀ m ∈ o.maps, m.seg.length ≤ 1000
theorem encL_le {l : List Entry} (h : l.length ≤ 1000 ∧ ∀ e ∈ l, (nm e).length ≤ 1100000) : (encL l).length ≤ 2000000000 := by
  unfold encL
  rw [List.length_append]
  have h1 := encF_len 10 (l.length : Int)
  have h2 := flat_len l h.2
  have : 1100020 * l.length ≤ 1100020 * 1000 := Nat.mul_le_mul_left _ h.1
  omega
theorem encO_le {l : List Nm} (h : l.length ≤ 1000 ∧ ∀ e ∈ l, e.length ≤ 1100000) : (encO l).length ≤ 2000000000 := by
  unfold encO
  rw [List.length_append]
  have h1 := encF_len 10 (l.length : Int)
  have h2 := flatC_len l h.2
  have : 1100010 * l.length ≤ 1100010 * 1000 := Nat.mul_le_mul_left _ h.1
  omega
theorem encKid_len (k : Kid) : (encKid k).length ≤ 30 := by
  unfold encKid
  have := encN_len k.n
  have := encN_len k.kind
  have := encN_len k.quota
  simp only [List.length_append]; omega
theorem flatK_len : ∀ l : List Kid, (l.flatMap encKid).length ≤ 30 * l.length
  | [] => by simp
  | k :: l => by
    have h1 := flatK_len l
    have h2 := encKid_len k
    simp only [List.flatMap_cons, List.length_append, List.length_cons]; omega
theorem putP_le {p : List Int} (h : p.length ≤ 1000) : (putP p).length ≤ 11000 := by
  unfold putP
  rw [List.length_append]
  have h1 := encF_len 10 (p.length : Int)
  have h2 := flatN_len p
  omega
theorem encSg_len {m : Sg} (h : m.seg.length ≤ 1000) : (encSg m).length ≤ 11100 := by
  unfold encSg
  have := encN_len m.at_
  have := putP_le h
  simp only [List.length_append, List.length_singleton]; omega
theorem flatS_len : ∀ l : List Sg, (∀ m ∈ l, m.seg.length ≤ 1000) → (l.flatMap encSg).length ≤ 11100 * l.length
  | [], _ => by simp
  | m :: l, h => by
    have h1 := flatS_len l fun x hx => h x (.tail _ hx)
    have h2 := encSg_len (h m (.head _))
    simp only [List.flatMap_cons, List.length_append, List.length_cons]; omega
theorem rflag_m (b : Bool) (w : World) : Calls Tryz.prog 114 #[.bool b] w fun e w' => e = .returned (.string ⟨[bitB b].toArray⟩) ∧ Mod (fun _ => False) w w' :=
  (refflag_any b w).mono fun e w' ⟨h1, h2⟩ => ⟨by rw [h1]; cases b <;> rfl, h2 ▸ Mod.refl _ _⟩
set_option maxRecDepth 100000 in
set_option maxHeartbeats 8000000 in
theorem refput9_any (cs : List Value) (o : Ob) (ok : Nat → Prop) (w : World) (h : ObR.rel w ok cs o) (hp : OkPut o) :
    Calls Tryz.prog 82 #[.agg cs.toArray] w fun r w' => r = .returned (.string ⟨(putO o).toArray⟩) ∧ Mod (fun _ => False) w w' := by
  obtain ⟨A1, c1, A2, c2, A4, c4, A5, c5, A7, c7, A9, c9, rfl, h0, h1, h2, h3, h4, h5, h6, h7, h8, h9⟩ := ObR_cells (Rd.bound h)
  obtain ⟨a1, ha1⟩ : ∃ x, x = encN o.kind := ⟨_, rfl⟩
  obtain ⟨a2, ha2⟩ : ∃ x, x = encL o.label := ⟨_, rfl⟩
  obtain ⟨a3, ha3⟩ : ∃ x, x = encN o.kids.length := ⟨_, rfl⟩
  obtain ⟨a4, ha4⟩ : ∃ x, x = encN o.next := ⟨_, rfl⟩
  obtain ⟨a5, ha5⟩ : ∃ x, x = encC o.bytes := ⟨_, rfl⟩
  obtain ⟨a6, ha6⟩ : ∃ x, x = encO o.own := ⟨_, rfl⟩
  obtain ⟨a7, ha7⟩ : ∃ x, x = encN o.cats := ⟨_, rfl⟩
  obtain ⟨a8, ha8⟩ : ∃ x, x = encL o.entry := ⟨_, rfl⟩
  obtain ⟨a9, ha9⟩ : ∃ x, x = encN o.ring := ⟨_, rfl⟩
  obtain ⟨a10, ha10⟩ : ∃ x, x = encN o.maps.length := ⟨_, rfl⟩
  obtain ⟨kb, hkb⟩ : ∃ x, x = o.kids.flatMap encKid := ⟨_, rfl⟩
  have hl1 : a1.length ≤ 10 := ha1 ▸ encN_len _
  have hl2 : a2.length ≤ 2000000000 := ha2 ▸ encL_le hp.lab
  have hl3 : a3.length ≤ 10 := ha3 ▸ encN_len _
  have hl4 : a4.length ≤ 10 := ha4 ▸ encN_len _
  have hl5 : a5.length ≤ 1100010 := ha5 ▸ encC_len _ (by have := hp.byt; omega)
  have hl6 : a6.length ≤ 2000000000 := ha6 ▸ encO_le hp.own
  have hl7 : a7.length ≤ 10 := ha7 ▸ encN_len _
  have hl8 : a8.length ≤ 2000000000 := ha8 ▸ encL_le hp.ent
  have hl9 : a9.length ≤ 10 := ha9 ▸ encN_len _
  have hl10 : a10.length ≤ 10 := ha10 ▸ encN_len _
  have hlk : kb.length ≤ 30000 := by rw [hkb]; have := flatK_len o.kids; have := hp.kids; omega
  have hsum : putO o = (((a1 ++ a2) ++ a3) ++ kb) ++ (((((((a4 ++ a5) ++ a6) ++ a7) ++ a8) ++ a9) ++ a10)) ++ o.maps.flatMap encSg := by
    rw [ha1, ha2, ha3, ha4, ha5, ha6, ha7, ha8, ha9, ha10, hkb]
    unfold putO
    rw [encN_in (n := (o.kids.length : Int)) (by omega) (by have := hp.kids; omega), encN_in (n := (o.maps.length : Int)) (by omega) (by have := hp.maps.1; omega)]
    simp only [List.append_assoc]
  have q1 := fun W => rnum9_any o.kind W h0
  have q2 := fun W (hW : Mod (fun _ => False) w W) => refput_any A1 _ c1 o.label _ W (Rd.mod h1 hW (fun _ _ => id)) hp.lab.1 hp.lab.2
  have q3 := fun W => rnum9_any o.kids.length W (inR_mk (by have := hp.kids; omega))
  have q4 := fun W => rnum9_any o.next W h3
  have q5 := fun W => reftext_any ⟨o.bytes.toArray⟩ (by show o.bytes.length ≤ _; have := hp.byt; omega) W
  have q6 := fun W (hW : Mod (fun _ => False) w W) => refput7_any A5 _ c5 o.own _ W (Rd.mod h5 hW (fun _ _ => id)) hp.own.1 hp.own.2
  have q7 := fun W => rnum9_any o.cats W h6
  have q8 := fun W (hW : Mod (fun _ => False) w W) => refput_any A7 _ c7 o.entry _ W (Rd.mod h7 hW (fun _ _ => id)) hp.ent.1 hp.ent.2
  have q9 := fun W => rnum9_any o.ring W h8
  have q10 := fun W => rnum9_any o.maps.length W (inR_mk (by have := hp.maps.1; omega))
  have hcv := fun W (hW : Mod (fun _ => False) w W) => run_str (P := Tryz.prog) (Rd.mod h4 hW (fun _ _ => id)) 22 9 5 Tryz.underlying22 Tryz.underlying5 Tryz.underlying9
  unfold mkStr at hcv
  simp only [show (⟨o.bytes.toArray⟩ : ByteArray).size = o.bytes.length from rfl, show encF 10 (o.bytes.length : Int) ++ o.bytes = encC o.bytes from rfl] at q5
  rw [← ha1] at q1
  rw [← ha2] at q2
  rw [← ha3] at q3
  rw [← ha4] at q4
  unfold mkStr at q5
  rw [← ha5] at q5
  rw [← ha6] at q6
  rw [← ha7] at q7
  rw [← ha8] at q8
  rw [← ha9] at q9
  rw [← ha10] at q10
  obtain ⟨z, hz⟩ : ∃ z, z = putO o := ⟨_, rfl⟩
  rw [← hz] at hsum ⊢
  have HKR := Lib.hid (slice_row h2).2.2.2.2.2
  have HMR := Lib.hid (slice_row h9).2.2.2.2.2
  have HQ1 := Lib.hid (And.intro q1 (And.intro q2 q3))
  have HQ7 := Lib.hid (And.intro q4 (And.intro q5 (And.intro q6 (And.intro q7 (And.intro q8 (And.intro q9 (And.intro q10 hcv)))))))
  obtain ⟨s1, hs1, hd1, he1, hsl1⟩ := cat_ex a1 a2 2000000010 (by omega) (by omega)
  obtain ⟨b1, hb1, hd2, he2, hb1l⟩ := cat_ex s1 a3 2000000020 (by omega) (by omega)
  rw [hs1] at hb1
  rw [← hb1] at hsum
  have HS := Lib.hid (And.intro hsum hkb)
  have HP := Lib.hid (And.intro hp (And.intro hl4 (And.intro hl5 (And.intro hl6 (And.intro hl7 (And.intro hl8 (And.intro hl9 (And.intro hl10 hlk))))))))
  clear h h0 h1 h2 h3 h4 h5 h6 h7 h8 h9 q1 q2 q3 q4 q5 q6 q7 q8 q9 q10 hcv hsum hz hp ha1 ha2 ha3 ha4 ha5 ha6 ha7 ha8 ha9 ha10 hkb hs1 hb1 hsl1 hl1 hl2 hl3 hl4 hl5 hl6 hl7 hl8 hl9 hl10 hlk
  go_enter Tryz.func82, Tryz.ntmps82
  go_wp2_with (refine wpList_box_new rfl 39 _ rfl [.int .i64 o.kind, .slice A1 o.label.length c1, .slice A2 o.kids.length c2, .int .i64 o.next, .slice A4 o.bytes.length c4, .slice A5 o.own.length c5, .int .i64 o.cats, .slice A7 o.entry.length c7, .int .i64 o.ring, .slice A9 o.maps.length c9] rfl ?_)
  intro g0 w0 hg0 hb0 hm0
  have x0 : w0.cell? ⟨g0, 0, none⟩ = some (.int .i64 o.kind) := by rw [cell_of_blk hb0]; rfl
  have x1 : w0.cell? ⟨g0, 1, none⟩ = some (.slice A1 o.label.length c1) := by rw [cell_of_blk hb0]; rfl
  have x2 : w0.cell? ⟨g0, 2, none⟩ = some (.slice A2 o.kids.length c2) := by rw [cell_of_blk hb0]; rfl
  have x3 : w0.cell? ⟨g0, 3, none⟩ = some (.int .i64 o.next) := by rw [cell_of_blk hb0]; rfl
  have x4 : w0.cell? ⟨g0, 4, none⟩ = some (.slice A4 o.bytes.length c4) := by rw [cell_of_blk hb0]; rfl
  have x5 : w0.cell? ⟨g0, 5, none⟩ = some (.slice A5 o.own.length c5) := by rw [cell_of_blk hb0]; rfl
  have x6 : w0.cell? ⟨g0, 6, none⟩ = some (.int .i64 o.cats) := by rw [cell_of_blk hb0]; rfl
  have x7 : w0.cell? ⟨g0, 7, none⟩ = some (.slice A7 o.entry.length c7) := by rw [cell_of_blk hb0]; rfl
  have x8 : w0.cell? ⟨g0, 8, none⟩ = some (.int .i64 o.ring) := by rw [cell_of_blk hb0]; rfl
  have x9 : w0.cell? ⟨g0, 9, none⟩ = some (.slice A9 o.maps.length c9) := by rw [cell_of_blk hb0]; rfl
  have y0 := fun W : ModW w0 => ModW.cell x0 W
  have y1 := fun W : ModW w0 => ModW.cell x1 W
  have y2 := fun W : ModW w0 => ModW.cell x2 W
  have HM0 := Lib.hid (And.intro (hm0 fun _ => False) hb0); clear hg0 hb0 hm0 x0 x1 x2 x3 x4 x5 x6 x7 x8 x9
  go_wp2_with fail
  refine wp_region_mod (by kernel_rfl) (by kernel_rfl) ?_
  refine wpQuiet_hide (fun R hR => ?_)
  iterate 13 (first
    | ((first | refine wpQuiet_none hR rfl (fun K hK => ?_) | refine wpQuiet_take hR (by rfl) (fun K hK => ?_)); clear hR R; go_simp; first | (refine hK _ (fun R hR => ?_); clear hK K) | (apply Exists.intro; refine ⟨fun _ => ?_, hK _ (fun R hR => ?_)⟩; (first | (go_at_call_of 110 ((#[.int .i64 o.kind] : Array Value)); exact quiet_mod (HQ1.out.1 _)) | (go_at_call 111; exact quiet_mod (HQ1.out.2.1 _ (tr0 HM0.out.1 (Subtype.property _)))) | (go_at_call_of 110 ((#[.int .i64 o.kids.length] : Array Value)); exact quiet_mod (HQ1.out.2.2 _))); clear hK K))
    | (refine wpQuiet_skip hR (by rfl) (fun K hK => ?_); clear hR R; go_simp; refine hK _ (fun R hR => ?_); clear hK K))
  refine wpQuiet_end hR ?_
  clear hR R
  rintro _ ⟨W, rfl⟩
  obtain ⟨w1, hw1⟩ : ∃ w1, w1 = W.1 := ⟨_, rfl⟩
  have hm01 : Mod (fun _ => False) w0 w1 := by rw [hw1]; exact W.2
  rw [← hw1]
  clear hw1 W y0 y1 y2
  have hbb1 := (hm01.block g0 (lt_of_blk HM0.out.2) id).trans HM0.out.2
  have x2 : w1.cell? ⟨g0, 2, none⟩ = some (.slice A2 o.kids.length c2) := by rw [cell_of_blk hbb1]; rfl
  have H1 := Lib.hid (And.intro (tr0 HM0.out.1 hm01) hbb1); clear hm01 hbb1 hd1 hd2 he1 he2
  go_wp2_with fail
  go_loopg [3, 23] o.kids.length (fun f s3 s23 wr => ∃ (i : Nat) (b : List UInt8), s23 = .int .i64 i ∧ s3 = .string ⟨b.toArray⟩ ∧ i + f = o.kids.length ∧ b.length ≤ 2000000100 + 30 * i ∧ Hid (b = b1 ++ (o.kids.take i).flatMap encKid ∧ Mod (fun _ => False) w1 wr))
  case atStart => exact ⟨0, b1, rfl, rfl, by omega, by omega, Lib.hid ⟨by simp, .refl _ _⟩⟩
  case round =>
    obtain ⟨i, b, rfl, rfl, hi, hbl, HI⟩ := hrel
    have hk1000 := HP.out.1.kids
    by_cases hil : i < o.kids.length
    · obtain ⟨x, hx⟩ : ∃ x, o.kids[i]? = some x := ⟨_, List.getElem?_eq_getElem hil⟩
      obtain ⟨ad, csx, rfl, hokb, hr, hc⟩ := Rd.RowOf.at_ HKR.out hx
      have hrq := KidR_iff.1 hr
      obtain ⟨_, _, _, -, r0, r1, r2⟩ := hrq
      obtain rfl := KidR_cells hr
      have hcell : ∀ j2 u2, [Value.int .i64 x.n, .int .i64 x.kind, .int .i64 x.quota][j2]? = some u2 → wr.cell? ((ad.add (i * 3)).add j2) = some u2 := fun j2 u2 hj2 => by
        rw [add_add]
        exact cell_step (hc j2 u2 hj2) (fun _ => by rw [add_block]; exact (tr0 H1.out.1 HI.out.2).block _ hokb.2 id)
      obtain ⟨n1, hn1⟩ : ∃ y, y = encN x.n := ⟨_, rfl⟩
      obtain ⟨n2, hn2⟩ : ∃ y, y = encN x.kind := ⟨_, rfl⟩
      obtain ⟨n3, hn3⟩ : ∃ y, y = encN x.quota := ⟨_, rfl⟩
      have p1 := fun W => rnum9_any x.n W r0.2
      have p2 := fun W => rnum9_any x.kind W r1.2
      have p3 := fun W => rnum9_any x.quota W r2.2
      have l1 : n1.length ≤ 10 := hn1 ▸ encN_len _
      have l2 : n2.length ≤ 10 := hn2 ▸ encN_len _
      have l3 : n3.length ≤ 10 := hn3 ▸ encN_len _
      rw [← hn1] at p1
      rw [← hn2] at p2
      rw [← hn3] at p3
      obtain ⟨s1, hs1, e1, f1, g1⟩ := cat_ex n1 n2 20 (by omega) (by omega)
      obtain ⟨s2, hs2, e2, f2, g2⟩ := cat_ex s1 n3 30 (by omega) (by omega)
      obtain ⟨b2, hb2, e3, f3, g3⟩ := cat_ex b s2 (2000000100 + 30 * (i + 1)) (by omega) (by omega)
      have htk : b2 = b1 ++ (o.kids.take (i + 1)).flatMap encKid := by
        rw [hb2, hs2, hs1, HI.out.1, hn1, hn2, hn3, List.take_add_one, hx, List.flatMap_append]
        simp [encKid]
      have HK := Lib.hid (And.intro hcell (And.intro p1 (And.intro p2 (And.intro p3 (And.intro htk g3)))))
      clear hcell hc hr hokb hx p1 p2 p3 htk hn1 hn2 hn3 r0 r1 r2 l1 l2 l3 hs1 hs2 hb2 g1 g2 g3
      go_wp2_with (refine wpList_copy_var (n := 3) rfl rfl rfl 43 _ _ _ rfl rfl rfl Tryz.underlying43 [.int .i64 0, .int .i64 0, .int .i64 0] Tryz.info_kd2 rfl (ad.add (i * 3)) rfl [.int .i64 x.n, .int .i64 x.kind, .int .i64 x.quota] rfl (kidC_one _ _ _) HK.out.1 (fun _ _ => rfl) (fun _ _ => rfl) ?_)
      intro gg w3 hg2 hgb2 hm2
      have k0 : w3.cell? ⟨gg, 0, none⟩ = some (.int .i64 x.n) := by rw [cell_of_blk hgb2]; rfl
      have k1 : w3.cell? ⟨gg, 1, none⟩ = some (.int .i64 x.kind) := by rw [cell_of_blk hgb2]; rfl
      have k2 : w3.cell? ⟨gg, 2, none⟩ = some (.int .i64 x.quota) := by rw [cell_of_blk hgb2]; rfl
      have j0 := fun W : ModW w3 => ModW.cell k0 W
      have j1 := fun W : ModW w3 => ModW.cell k1 W
      have j2 := fun W : ModW w3 => ModW.cell k2 W
      have HM3 := Lib.hid (tr0 HI.out.2 (hm2 fun _ => False)); clear hm2 hgb2 hg2 k0 k1 k2
      go_wp2_with fail
      refine wp_region_mod (by kernel_rfl) (by kernel_rfl) ?_
      refine wpQuiet_hide (fun R hR => ?_)
      iterate 14 (first
        | ((first | refine wpQuiet_none hR rfl (fun K hK => ?_) | refine wpQuiet_take hR (by rfl) (fun K hK => ?_)); clear hR R; go_simp; first | (refine hK _ (fun R hR => ?_); clear hK K) | (apply Exists.intro; refine ⟨fun _ => ?_, hK _ (fun R hR => ?_)⟩; (first | (go_at_call_of 110 ((#[.int .i64 x.n] : Array Value)); exact quiet_mod (HK.out.2.1 _)) | (go_at_call_of 110 ((#[.int .i64 x.kind] : Array Value)); exact quiet_mod (HK.out.2.2.1 _)) | (go_at_call_of 110 ((#[.int .i64 x.quota] : Array Value)); exact quiet_mod (HK.out.2.2.2.1 _))); clear hK K))
        | (refine wpQuiet_skip hR (by rfl) (fun K hK => ?_); clear hR R; go_simp; refine hK _ (fun R hR => ?_); clear hK K))
      refine wpQuiet_end hR ?_
      clear hR R
      rintro _ ⟨W, rfl⟩
      have HW := Lib.hid (tr0 HM3.out W.2)
      go_wp2_with fail
      go_roundg (gk - 1)
      case measure => omega
      case rel => exact ⟨i + 1, b2, by go_num, rfl, by omega, HK.out.2.2.2.2.2, Lib.hid ⟨HK.out.2.2.2.2.1, HW.out⟩⟩
    · obtain rfl : i = o.kids.length := by omega
      have hbk : b = b1 ++ kb := by rw [HI.out.1, HS.out.2, List.take_length]
      have hmr := tr0 H1.out.1 HI.out.2
      have hb0 := (HI.out.2.block g0 (lt_of_blk H1.out.2) id).trans H1.out.2
      have x0 : wr.cell? ⟨g0, 0, none⟩ = some (.int .i64 o.kind) := by rw [cell_of_blk hb0]; rfl
      have x1 : wr.cell? ⟨g0, 1, none⟩ = some (.slice A1 o.label.length c1) := by rw [cell_of_blk hb0]; rfl
      have x2 : wr.cell? ⟨g0, 2, none⟩ = some (.slice A2 o.kids.length c2) := by rw [cell_of_blk hb0]; rfl
      have x3 : wr.cell? ⟨g0, 3, none⟩ = some (.int .i64 o.next) := by rw [cell_of_blk hb0]; rfl
      have x4 : wr.cell? ⟨g0, 4, none⟩ = some (.slice A4 o.bytes.length c4) := by rw [cell_of_blk hb0]; rfl
      have x5 : wr.cell? ⟨g0, 5, none⟩ = some (.slice A5 o.own.length c5) := by rw [cell_of_blk hb0]; rfl
      have x6 : wr.cell? ⟨g0, 6, none⟩ = some (.int .i64 o.cats) := by rw [cell_of_blk hb0]; rfl
      have x7 : wr.cell? ⟨g0, 7, none⟩ = some (.slice A7 o.entry.length c7) := by rw [cell_of_blk hb0]; rfl
      have x8 : wr.cell? ⟨g0, 8, none⟩ = some (.int .i64 o.ring) := by rw [cell_of_blk hb0]; rfl
      have x9 : wr.cell? ⟨g0, 9, none⟩ = some (.slice A9 o.maps.length c9) := by rw [cell_of_blk hb0]; rfl
      have y3 := fun W : ModW wr => ModW.cell x3 W
      have y4 := fun W : ModW wr => ModW.cell x4 W
      have y5 := fun W : ModW wr => ModW.cell x5 W
      have y6 := fun W : ModW wr => ModW.cell x6 W
      have y7 := fun W : ModW wr => ModW.cell x7 W
      have y8 := fun W : ModW wr => ModW.cell x8 W
      have y9 := fun W : ModW wr => ModW.cell x9 W
      have hcv := fun W : ModW wr => HQ7.out.2.2.2.2.2.2.2 W.1 (tr0 hmr W.2)
      obtain ⟨-, l4, l5, l6, l7, l8, l9, l10, -⟩ := HP.out
      obtain ⟨s1, hs1, e1, f1, g1⟩ := cat_ex a4 a5 1100020 (by omega) (by omega)
      obtain ⟨s2, hs2, e2, f2, g2⟩ := cat_ex s1 a6 2001100020 (by omega) (by omega)
      obtain ⟨s3, hs3, e3, f3, g3⟩ := cat_ex s2 a7 2001100030 (by omega) (by omega)
      obtain ⟨s4, hs4, e4, f4, g4⟩ := cat_ex s3 a8 4001100030 (by omega) (by omega)
      obtain ⟨s5, hs5, e5, f5, g5⟩ := cat_ex s4 a9 4001100040 (by omega) (by omega)
      obtain ⟨s6, hs6, e6, f6, g6⟩ := cat_ex s5 a10 4001100050 (by omega) (by omega)
      obtain ⟨d1, hd1, e7, f7, hdl⟩ := cat_ex b s6 9000000000 (by omega) (by omega)
      have hzd : z = d1 ++ o.maps.flatMap encSg := by rw [HS.out.1, hd1, hbk, hs6, hs5, hs4, hs3, hs2, hs1]
      have HB := Lib.hid (And.intro hmr (And.intro hb0 hzd)); clear hs1 hs2 hs3 hs4 hs5 hs6 g1 g2 g3 g4 g5 g6 hmr hb0 hzd hd1 hbk x0 x1 x2 x3 x4 x5 x6 x7 x8 x9 l4 l5 l6 l7 l8 l9 l10 hbl hi hil
      go_wp2_with fail
      refine wp_region_mod (by kernel_rfl) (by kernel_rfl) ?_
      refine wpQuiet_hide (fun R hR => ?_)
      iterate 32 (first
        | ((first | refine wpQuiet_none hR rfl (fun K hK => ?_) | refine wpQuiet_take hR (by rfl) (fun K hK => ?_)); clear hR R; go_simp; first | (refine hK _ (fun R hR => ?_); clear hK K) | (apply Exists.intro; refine ⟨fun _ => ?_, hK _ (fun R hR => ?_)⟩; (first | (go_at_call_of 110 ((#[.int .i64 o.next] : Array Value)); exact quiet_mod (HQ7.out.1 _)) | (go_at_call 112; exact quiet_mod (HQ7.out.2.1 _)) | (go_at_call 113; exact quiet_mod (HQ7.out.2.2.1 _ (tr0 HB.out.1 (Subtype.property _)))) | (go_at_call_of 110 ((#[.int .i64 o.cats] : Array Value)); exact quiet_mod (HQ7.out.2.2.2.1 _)) | (go_at_call 111; exact quiet_mod (HQ7.out.2.2.2.2.1 _ (tr0 HB.out.1 (Subtype.property _)))) | (go_at_call_of 110 ((#[.int .i64 o.ring] : Array Value)); exact quiet_mod (HQ7.out.2.2.2.2.2.1 _)) | (go_at_call_of 110 ((#[.int .i64 o.maps.length] : Array Value)); exact quiet_mod (HQ7.out.2.2.2.2.2.2.1 _))); clear hK K))
        | (refine wpQuiet_skip hR (by rfl) (fun K hK => ?_); clear hR R; go_simp; refine hK _ (fun R hR => ?_); clear hK K))
      refine wpQuiet_end hR ?_
      clear hR R
      rintro _ ⟨W, rfl⟩
      obtain ⟨w4, hw4⟩ : ∃ w4, w4 = W.1 := ⟨_, rfl⟩
      have hm4 : Mod (fun _ => False) wr w4 := by rw [hw4]; exact W.2
      rw [← hw4]
      clear hw4 W y3 y4 y5 y6 y7 y8 y9 e1 e2 e3 e4 e5 e6 e7 f1 f2 f3 f4 f5 f6 f7 hcv
      have hbb4 := (hm4.block g0 (lt_of_blk HB.out.2.1) id).trans HB.out.2.1
      have x9 : w4.cell? ⟨g0, 9, none⟩ = some (.slice A9 o.maps.length c9) := by rw [cell_of_blk hbb4]; rfl
      have H4 := Lib.hid (tr0 HB.out.1 hm4); clear hm4 hbb4
      go_wp2_with fail
      go_loopg [3, 75] o.maps.length (fun f s3 s75 wx => ∃ (j : Nat) (e : List UInt8), s75 = .int .i64 j ∧ s3 = .string ⟨e.toArray⟩ ∧ j + f = o.maps.length ∧ e.length ≤ 9000000000 + 11100 * j ∧ Hid (e = d1 ++ (o.maps.take j).flatMap encSg ∧ Mod (fun _ => False) w4 wx))
      case atStart => exact ⟨0, d1, rfl, rfl, by omega, by omega, Lib.hid ⟨by simp, .refl _ _⟩⟩
      case round =>
        obtain ⟨j, e, rfl, rfl, hj, hel, HJ⟩ := hrel
        have hm1000 := HP.out.1.maps.1
        by_cases hjl : j < o.maps.length
        · obtain ⟨x, hx⟩ : ∃ x, o.maps[j]? = some x := ⟨_, List.getElem?_eq_getElem hjl⟩
          obtain ⟨ad, csx, rfl, hokb, hr, hc⟩ := Rd.RowOf.at_ HMR.out hx
          have hr0 := (SgR_at_ hr).2
          obtain ⟨As, ks, rfl, hseg⟩ := SgR_cells hr
          have hsl := HP.out.1.maps.2 x (List.mem_of_getElem? hx)
          have hmx := tr0 H4.out HJ.out.2
          have hcell : ∀ j2 u2, [Value.int .i64 x.at_, .slice As x.seg.length ks, .bool x.write][j2]? = some u2 → wr.cell? ((ad.add (j * 3)).add j2) = some u2 := fun j2 u2 hj2 => by
            rw [add_add]
            exact cell_step (hc j2 u2 hj2) (fun _ => by rw [add_block]; exact hmx.block _ hokb.2 id)
          obtain ⟨n1, hn1⟩ : ∃ y, y = encN x.at_ := ⟨_, rfl⟩
          obtain ⟨n2, hn2⟩ : ∃ y, y = putP x.seg := ⟨_, rfl⟩
          obtain ⟨n3, hn3⟩ : ∃ y, y = [bitB x.write] := ⟨_, rfl⟩
          have p1 := fun W => rnum9_any x.at_ W hr0
          have p2 := fun W (hW : Mod (fun _ => False) wr W) => refput8_any As _ ks x.seg _ W (Rd.mod hseg (tr0 hmx hW) (fun _ _ => id)) (by omega)
          have p3 := fun W => rflag_m x.write W
          have l1 : n1.length ≤ 10 := hn1 ▸ encN_len _
          have l2 : n2.length ≤ 11000 := hn2 ▸ putP_le hsl
          have l3 : n3.length ≤ 10 := by rw [hn3]; simp
          rw [← hn1] at p1
          unfold encS at p2
          rw [← hn2] at p2
          rw [← hn3] at p3
          obtain ⟨s1, hs1, e1, f1, g1⟩ := cat_ex n1 n2 11010 (by omega) (by omega)
          obtain ⟨s2, hs2, e2, f2, g2⟩ := cat_ex s1 n3 11020 (by omega) (by omega)
          obtain ⟨b2, hb2, e3, f3, g3⟩ := cat_ex e s2 (9000000000 + 11100 * (j + 1)) (by omega) (by omega)
          have htk : b2 = d1 ++ (o.maps.take (j + 1)).flatMap encSg := by
            rw [hb2, hs2, hs1, HJ.out.1, hn1, hn2, hn3, List.take_add_one, hx, List.flatMap_append]
            simp [encSg]
          have HK := Lib.hid (And.intro hcell (And.intro p1 (And.intro p2 (And.intro p3 (And.intro htk g3)))))
          clear hcell hc hr hokb hx p1 p2 p3 htk hn1 hn2 hn3 hr0 hseg hsl hmx l1 l2 l3 hs1 hs2 hb2 g1 g2 g3
          go_wp2_with (refine wpList_copy_var (n := 3) rfl rfl rfl 109 _ _ _ rfl rfl rfl Tryz.underlying109 [.int .i64 0, .slice none 0 0, .bool false] Tryz.info_sg2 rfl (ad.add (j * 3)) rfl [.int .i64 x.at_, .slice As x.seg.length ks, .bool x.write] rfl (sgC_one _ _ _ _ _) HK.out.1 (fun _ _ => rfl) (fun _ _ => rfl) ?_)
          intro gg w3 hg2 hgb2 hm2
          have k0 : w3.cell? ⟨gg, 0, none⟩ = some (.int .i64 x.at_) := by rw [cell_of_blk hgb2]; rfl
          have k1 : w3.cell? ⟨gg, 1, none⟩ = some (.slice As x.seg.length ks) := by rw [cell_of_blk hgb2]; rfl
          have k2 : w3.cell? ⟨gg, 2, none⟩ = some (.bool x.write) := by rw [cell_of_blk hgb2]; rfl
          have j0 := fun W : ModW w3 => ModW.cell k0 W
          have j1 := fun W : ModW w3 => ModW.cell k1 W
          have j2 := fun W : ModW w3 => ModW.cell k2 W
          have HM3 := Lib.hid (And.intro (tr0 HJ.out.2 (hm2 fun _ => False)) (hm2 fun _ => False)); clear hm2 hgb2 hg2 k0 k1 k2
          go_wp2_with fail
          refine wp_region_mod (by kernel_rfl) (by kernel_rfl) ?_
          refine wpQuiet_hide (fun R hR => ?_)
          iterate 14 (first
            | ((first | refine wpQuiet_none hR rfl (fun K hK => ?_) | refine wpQuiet_take hR (by rfl) (fun K hK => ?_)); clear hR R; go_simp; first | (refine hK _ (fun R hR => ?_); clear hK K) | (apply Exists.intro; refine ⟨fun _ => ?_, hK _ (fun R hR => ?_)⟩; (first | (go_at_call 110; exact quiet_mod (HK.out.2.1 _)) | (go_at_call 81; exact quiet_mod (HK.out.2.2.1 _ (tr0 HM3.out.2 (Subtype.property _)))) | (go_at_call 114; exact quiet_mod (HK.out.2.2.2.1 _))); clear hK K))
            | (refine wpQuiet_skip hR (by rfl) (fun K hK => ?_); clear hR R; go_simp; refine hK _ (fun R hR => ?_); clear hK K))
          refine wpQuiet_end hR ?_
          clear hR R
          rintro _ ⟨W, rfl⟩
          have HW := Lib.hid (tr0 HM3.out.1 W.2)
          go_wp2_with fail
          go_roundg (gk - 1)
          case measure => omega
          case rel => exact ⟨j + 1, b2, by go_num, rfl, by omega, HK.out.2.2.2.2.2, Lib.hid ⟨HK.out.2.2.2.2.1, HW.out⟩⟩
        · obtain rfl : j = o.maps.length := by omega
          have hze : z = e := by rw [HB.out.2.2, HJ.out.1, List.take_length]
          subst hze
          have HE := Lib.hid (tr0 H4.out HJ.out.2)
          go_wp2_with fail
          go_ret
          exact ⟨rfl, HE.out⟩
end Go.Proofs.YtefedalnafjcfaaGreatDoor

