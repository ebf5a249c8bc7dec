/- The document's Same of paths, of owned categories, of labels: true at equal data. -/
import Derived.Test.YtgdadhpcooegnaaQuiet
import Derived.Test.YtgdadhpcooegnaaMsg
import Derived.Test.YtgdadhpcooegnaaQuorum0
namespace Go.Proofs.Ytgdadhpcooegnaa
open Go.RowKit
set_option linter.unusedVariables false
theorem slice_row {α : Type} {R : Rd α} {b : Nat} {w : World} {ok : Nat → Prop} {A : Option Addr} {n c : Nat} {l : List α} (h : (Rd.slice b R).rel w ok [.slice A n c] l) : n = l.length ∧ R.RowOf w (fun k => ok k ∧ k < w.heap.size) A l ∧ l.length * b ≤ 140737488355328 := by
  obtain ⟨A', c', hv, _, _, h4, _, h6⟩ := Rd.bound h
  simp only [List.cons.injEq, Value.slice.injEq, and_true] at hv
  obtain ⟨rfl, rfl, rfl⟩ := hv
  exact ⟨rfl, h6, h4⟩
abbrev strsR : Rd (List ByteArray) := Rd.slice 16 Rd.string
abbrev labelR : Rd (List Entry) := Rd.slice 24 EntryR
theorem RowOf.strs {w : World} {ok : Nat → Prop} {A : Option Addr} {xs : List ByteArray} (h : Rd.string.RowOf w ok A xs) {j : Nat} {x : ByteArray} (hj : xs[j]? = some x) :
    ∃ ad, A = some ad ∧ ok ad.block ∧ w.cell? (ad.add j) = some (.string x) := by
  obtain ⟨ad, c, hA, hok, ⟨rfl, hr⟩, hc⟩ := Rd.RowOf.at_ h hj
  have := hc 0 _ rfl
  rw [show j * Rd.string.sz + 0 = j from Nat.mul_one j] at this
  exact ⟨ad, hA, hok, this⟩
theorem EntryR_cells {w : World} {ok : Nat → Prop} {cs : List Value} {x : Entry} (h : EntryR.rel w ok cs x) : cs = [.string x.cat, .int .i64 x.level] := by
  obtain ⟨c0, c1, rfl, h0, h1⟩ := EntryR_iff.1 h
  rw [show c0 = [.string x.cat] from h0.1, show c1 = [.int .i64 x.level] from h1.1]; rfl
theorem Try.info_entry : (Try.prog.info? 90).map (·.size) = some 2 := by kernel_rfl
set_option maxRecDepth 100000 in
set_option maxHeartbeats 400000 in
theorem samePath_any (A : Option Addr) (n c : Nat) (A2 : Option Addr) (n2 c2 : Nat) (a : List Int) (ok ok2 : Nat → Prop) (w : World) (h : intsR.rel w ok [.slice A n c] a) (h2 : intsR.rel w ok2 [.slice A2 n2 c2] a) :
    Calls Try.prog 50 #[.slice A n c, .slice A2 n2 c2] w fun e w' => e = .returned (.bool true) ∧ Mod (fun _ => False) w w' := by
  obtain ⟨rfl, hr1, hb⟩ := slice_row h
  obtain ⟨rfl, hr2, -⟩ := slice_row h2
  have H1 := Lib.hid (And.intro hr1 hr2); clear h h2 hr1 hr2
  go_enter Try.func50, Try.ntmps50
  go_wp2_with fail
  go_loopg [13] a.length (fun f si wr => ∃ (i : Nat), si = .int .i64 i ∧ i + f = a.length ∧ Mod (fun _ => False) w wr)
  case atStart => exact ⟨0, rfl, by omega, .refl _ _⟩
  case round =>
    obtain ⟨i, rfl, hi, hmod⟩ := hrel
    have HX := Lib.hid (And.intro hi hmod); clear hi hmod
    by_cases hlt : i < a.length
    · obtain ⟨x, hx⟩ : ∃ x, a[i]? = some x := ⟨_, List.getElem?_eq_getElem hlt⟩
      obtain ⟨ad, rfl, -, hc, -⟩ := RowOf.ints (H1.out.1.step (w1 := wr) (ok1 := fun _ => True) fun k hk hl => ⟨trivial, HX.out.2.block k hl id⟩) hx
      obtain ⟨ad2, rfl, -, hc2, -⟩ := RowOf.ints (H1.out.2.step (w1 := wr) (ok1 := fun _ => True) fun k hk hl => ⟨trivial, HX.out.2.block k hl id⟩) hx
      clear hx
      go_wp2_with fail
      go_quiet (fail)
      go_wp2_with fail
      go_roundg (gk - 1)
      case measure => have := HX.out.1; omega
      case rel => exact ⟨i + 1, by go_num, by have := HX.out.1; omega, HX.out.2.drewN _⟩
    · go_wp2_with fail
      go_ret
      exact ⟨rfl, HX.out.2⟩
set_option maxRecDepth 100000 in
set_option maxHeartbeats 400000 in
theorem sameOwn_any (A : Option Addr) (n c : Nat) (A2 : Option Addr) (n2 c2 : Nat) (a : List ByteArray) (ok ok2 : Nat → Prop) (w : World) (h : strsR.rel w ok [.slice A n c] a) (h2 : strsR.rel w ok2 [.slice A2 n2 c2] a) :
    Calls Try.prog 59 #[.slice A n c, .slice A2 n2 c2] w fun e w' => e = .returned (.bool true) ∧ Mod (fun _ => False) w w' := by
  obtain ⟨rfl, hr1, hb⟩ := slice_row h
  obtain ⟨rfl, hr2, -⟩ := slice_row h2
  have H1 := Lib.hid (And.intro hr1 hr2); clear h h2 hr1 hr2
  go_enter Try.func59, Try.ntmps59
  go_wp2_with fail
  go_loopg [13] a.length (fun f si wr => ∃ (i : Nat), si = .int .i64 i ∧ i + f = a.length ∧ Mod (fun _ => False) w wr)
  case atStart => exact ⟨0, rfl, by omega, .refl _ _⟩
  case round =>
    obtain ⟨i, rfl, hi, hmod⟩ := hrel
    have HX := Lib.hid (And.intro hi hmod); clear hi hmod
    by_cases hlt : i < a.length
    · obtain ⟨x, hx⟩ : ∃ x, a[i]? = some x := ⟨_, List.getElem?_eq_getElem hlt⟩
      obtain ⟨ad, rfl, -, hc⟩ := RowOf.strs (H1.out.1.step (w1 := wr) (ok1 := fun _ => True) fun k hk hl => ⟨trivial, HX.out.2.block k hl id⟩) hx
      obtain ⟨ad2, rfl, -, hc2⟩ := RowOf.strs (H1.out.2.step (w1 := wr) (ok1 := fun _ => True) fun k hk hl => ⟨trivial, HX.out.2.block k hl id⟩) hx
      clear hx
      go_wp2_with fail
      go_quiet (fail)
      go_wp2_with fail
      go_roundg (gk - 1)
      case measure => have := HX.out.1; omega
      case rel => exact ⟨i + 1, by go_num, by have := HX.out.1; omega, HX.out.2.drewN _⟩
    · go_wp2_with fail
      go_ret
      exact ⟨rfl, HX.out.2⟩
set_option maxRecDepth 100000 in
set_option maxHeartbeats 400000 in
theorem sameLabel_any (A : Option Addr) (n c : Nat) (A2 : Option Addr) (n2 c2 : Nat) (a : List Entry) (ok ok2 : Nat → Prop) (w : World) (h : labelR.rel w ok [.slice A n c] a) (h2 : labelR.rel w ok2 [.slice A2 n2 c2] a) :
    Calls Try.prog 52 #[.slice A n c, .slice A2 n2 c2] w fun e w' => e = .returned (.bool true) ∧ Mod (fun _ => False) w w' := by
  obtain ⟨rfl, hr1, hb⟩ := slice_row h
  obtain ⟨rfl, hr2, -⟩ := slice_row h2
  have H1 := Lib.hid (And.intro hr1 hr2); clear h h2 hr1 hr2
  go_enter Try.func52, Try.ntmps52
  go_wp2_with fail
  go_loopg [13] a.length (fun f si wr => ∃ (i : Nat), si = .int .i64 i ∧ i + f = a.length ∧ Mod (fun _ => False) w wr)
  case atStart => exact ⟨0, rfl, by omega, .refl _ _⟩
  case round =>
    obtain ⟨i, rfl, hi, hmod⟩ := hrel
    have HX := Lib.hid (And.intro hi hmod); clear hi hmod
    by_cases hlt : i < a.length
    · obtain ⟨x, hx⟩ : ∃ x, a[i]? = some x := ⟨_, List.getElem?_eq_getElem hlt⟩
      obtain ⟨ad, cs, rfl, -, hr, hc⟩ := (H1.out.1.step (w1 := wr) (ok1 := fun _ => True) fun k hk hl => ⟨trivial, HX.out.2.block k hl id⟩).at_ hx
      obtain ⟨ad2, cs2, rfl, -, hr2, hc2⟩ := (H1.out.2.step (w1 := wr) (ok1 := fun _ => True) fun k hk hl => ⟨trivial, HX.out.2.block k hl id⟩).at_ hx
      clear hx
      obtain rfl := EntryR_cells hr
      obtain rfl := EntryR_cells hr2
      clear hr hr2
      go_wp2_with fail
      refine wp_region_mod (by kernel_rfl) (by kernel_rfl) ?_
      repeat (first
        | (refine wpQuiet_load_agg (by rfl) 90 _ rfl Try.underlying90 Try.info_entry (ad.add (i * 2)) rfl [.string x.cat, .int .i64 x.level] rfl (fun w' hw j u hj => by obtain ⟨W, rfl⟩ := hw; rw [add_add]; exact W.cell (hc j u hj)) ?_)
        | (refine wpQuiet_load_agg (by rfl) 90 _ rfl Try.underlying90 Try.info_entry (ad2.add (i * 2)) rfl [.string x.cat, .int .i64 x.level] rfl (fun w' hw j u hj => by obtain ⟨W, rfl⟩ := hw; rw [add_add]; exact W.cell (hc2 j u hj)) ?_)
        | quiet_step (fail))
      refine wpQuiet_nil ?_
      rintro _ ⟨W, rfl⟩
      go_wp2_with fail
      go_roundg (gk - 1)
      case measure => have := HX.out.1; omega
      case rel => exact ⟨i + 1, by go_num, by have := HX.out.1; omega, HX.out.2.trans W.2 (fun _ h => h.elim)⟩
    · go_wp2_with fail
      go_ret
      exact ⟨rfl, HX.out.2⟩
end Go.Proofs.Ytgdadhpcooegnaa
