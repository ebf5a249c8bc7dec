/- Texts of this claim, joined: OwnA, Own4, OwnI, OwnF0, OwnF1, OwnFst. -/
import Derived.Test.YthhepnaanjicjaaGreatDoorO1
import Derived.Test.YthhepnaanjicjaaGreatDoorP5
import Derived.Test.YthhepnaanjicjaaGreatDoorP7
/- Rows of names: appends, as arms of the walk. -/
namespace Go.Proofs.YthhepnaanjicjaaGreatDoor
open Go.RowKit Go.Shelf
set_option linter.unusedVariables false
theorem own_back {w : World} {base : Nat} {S : Nat → Prop} {v : Value} {l : List Nm} (h : OwnR Rd.string 9 w base S v (l.map mkStr)) : OwnN w base v l := by
  obtain ⟨cells, ho, hr⟩ := h
  have hl : cells.length = l.length := by have := ho.1; rw [List.length_map] at this; rw [this]; exact Nat.mul_one _
  have hc : cells = scells l := by
    refine List.ext_getElem? fun j => ?_
    by_cases hj : j < l.length
    · obtain ⟨x, hx⟩ : ∃ x, l[j]? = some x := ⟨_, List.getElem?_eq_getElem hj⟩
      have h1 := (hr j (mkStr x) (by rw [List.getElem?_map, hx]; rfl)).1
      have h2 : (cells.drop (j * 1)).take 1 = [Value.string (mkStr x)] := h1
      rw [Nat.mul_one] at h2
      rw [take_one h2]
      simp [scells, hx, encS, mkStr]
    · rw [List.getElem?_eq_none (by omega), List.getElem?_eq_none (by rw [scells_len]; omega)]
  subst hc
  rw [List.length_map] at ho
  exact ho
section
variable {ops : Array Oper} {rest : List Oper} {o : Oper} {a : Act} {Q : Exit → Act → World → Prop} {W : World}
/-- append(v, ys...), names; behind 'at_builtin'. -/
theorem append_nms (base : Nat) (ok : Nat → Prop) (hgd : o.guard = none) (s x : Operand)
    (ho : o.op = .call { callee := .builtin .append, args := #[s, x], argTypes := #[24, 24] })
    (v : Value) (xs ys : List Nm) (A0 : Option Addr) (c0 : Nat) (hs : a.eval s = v) (hx : a.eval x = .slice A0 ys.length c0)
    (HO : OwnN W base v xs) (hxl : ∀ x ∈ xs, x.length ≤ 140737488355328) (hy : nmsR.rel W ok [.slice A0 ys.length c0] ys) (hok : ∀ k, ok k → some k ≠ v.ownBlock) (hbase : base ≤ W.heap.size) (hl : (xs.length + ys.length) * 16 ≤ 140737488355328)
    (h : ∀ A c w1, OwnN w1 base (.slice A (xs.length + ys.length) c) (xs ++ ys) → Mod (fun k => v.ownBlock = some k) W w1 → NewOr W v (.slice A (xs.length + ys.length) c) → wpList Tryz.prog ops Q rest (a.put o.dst (.slice A (xs.length + ys.length) c)) w1) :
    wpList Tryz.prog ops Q (o :: rest) a W := by
  obtain ⟨A', c', hv, h2, h3, h4, h5, h6⟩ := hy
  simp only [List.cons.injEq, Value.slice.injEq, and_true] at hv
  obtain ⟨rfl, hn, rfl⟩ := hv
  refine append_all (R := Rd.string) base hgd s x 24 9 (.string ⟨#[]⟩) 16 ho Tryz.underlying24 Tryz.info_str3 rfl v (xs.map mkStr) (ys.map mkStr) ok A0 c0 hs (by rw [List.length_map]; exact hx) (own_strs HO hxl _) ?_ h5 hbase (by rw [List.length_map, List.length_map]; exact hl) (by decide) ?_
  · rcases h6 with h6 | ⟨ad, h7, h8, h9⟩
    · exact .inl h6
    · refine .inr ⟨ad, h7, fun j x hj => ?_⟩
      obtain ⟨c, h10, h11⟩ := h9 j x hj
      exact ⟨c, ⟨h10.1, h10.2⟩, h11⟩
  · intro A c w1 hO hm hn
    rw [List.length_map, List.length_map] at hO hn ⊢
    exact h A c w1 (own_back (by rw [List.map_append]; exact hO)) hm hn
theorem append1_nm (base : Nat) (hgd : o.guard = none) (s x : Operand)
    (ho : o.op = .call { callee := .builtin .append, args := #[s, x], argTypes := #[24, 24] })
    (v : Value) (xs : List Nm) (y : Nm) (hs : a.eval s = v) (hx : a.eval x = .slice (some ⟨W.heap.size, 0, none⟩) 1 1)
    (HO : OwnN W base v xs) (hbase : base ≤ W.heap.size) (hl : (xs.length + 1) * 16 ≤ 140737488355328)
    (h : ∀ A c w1, OwnN w1 base (.slice A (xs.length + 1) c) (xs ++ [y]) → Mod (fun k => v.ownBlock = some k) W w1 → NewOr W v (.slice A (xs.length + 1) c) → wpList Tryz.prog ops Q rest (a.put o.dst (.slice A (xs.length + 1) c)) w1) :
    wpList Tryz.prog ops Q (o :: rest) a (W.alloc (.cells #[.string ⟨y.toArray⟩] 9)) := by
  have hsl := scells_len xs
  refine append_one base hgd s x 24 9 (.string ⟨#[]⟩) 16 ho Tryz.underlying24 Tryz.info_str3 rfl (by decide) v (scells xs) (encS y) hs hx rfl (by rw [hsl]; exact HO) hbase (by rw [hsl]; exact hl) ?_
  intro A c w1 hO hg hn
  rw [hsl] at hO hn ⊢
  refine h A c w1 ?_ ((Mod.refl _ W).grown hg (fun k hk => .inl hk.symm)) hn
  show w1.ownsRow base _ 1 _ (xs ++ [y]).length (scells (xs ++ [y]))
  have : scells (xs ++ [y]) = scells xs ++ [encS y] := by rw [scells_app]; rfl
  rw [this]
  simpa [hsl] using hO
end
end Go.Proofs.YthhepnaanjicjaaGreatDoor

/- Layer 7, owns: Put, Get; the laws' long. -/
namespace Go.Proofs.YthhepnaanjicjaaGreatDoor
open Go.RowKit Go.Shelf
set_option linter.unusedVariables false
set_option maxRecDepth 100000 in
set_option maxHeartbeats 2000000 in
theorem putO_any (g base : Nat) (v : Value) (bs : List UInt8) (A : Option Addr) (n c : Nat) (l : List Nm) (ok : Nat → Prop) (w : World) (hp : PenAt w base g v bs) (hb : base ≤ w.heap.size) (h : nmsR.rel w ok [.slice A n c] l) (hap : ∀ k, ok k → ¬ (k = g ∨ v.ownBlock = some k)) (hl : l.length ≤ 1000) (hnm : ∀ e ∈ l, e.length ≤ 1000000) (hbl : bs.length ≤ 1000000) :
    Calls Tryz.prog 27 #[.pointer (some ⟨g, 0, none⟩), .slice A n c] w fun r w' => r = .returned (.tuple #[]) ∧ ∃ v', PenTo base g w v w' v' (bs ++ encO l) := by
  obtain ⟨rfl, hcap, hbig, -, hrow⟩ := nms_row h
  obtain ⟨b0, hb0⟩ : ∃ b0, b0 = bs ++ encF 10 l.length := ⟨_, rfl⟩
  have hb0l : b0.length ≤ 1000010 := by rw [hb0, List.length_append]; have := encF_len 10 (l.length : Int); omega
  have hn := pnum_any g base l.length v bs w hp hb (by omega) (by omega) (by omega)
  rw [← hb0] at hn
  have hend : bs ++ encO l = b0 ++ l.flatMap encC := by unfold encO; rw [hb0, List.append_assoc]
  rw [hend]
  have hcell : ∀ W, Mod (fun k => k = g ∨ v.ownBlock = some k) w W → ∀ j x, l[j]? = some x → ∃ ad, A = some ad ∧ W.cell? (ad.add j) = some (.string ⟨x.toArray⟩) := fun W hW j x hj => by
    obtain ⟨ad, h1, h0, h2, _⟩ := hrow j x hj
    exact ⟨ad, h1, (hW.cell (lt_of_cell h2) (by rw [add_block]; exact hap _ h0)).trans h2⟩
  have H0 := Lib.hid (And.intro hcell (And.intro hnm (And.intro hn hb))); clear hp hb h hrow hap hnm hn hb0 hend hcell
  go_enter Tryz.func27, Tryz.ntmps27
  go_wp2_with fail
  refine H0.out.2.2.1.mono ?_
  rintro r w1 ⟨rfl, v1, ht1⟩
  have H1 := Lib.hid ht1; clear ht1
  go_wp2_with fail
  go_loopg [12] l.length (fun f si wr => ∃ (i : Nat) (vi : Value), si = .int .i64 i ∧ i + f = l.length ∧ PenTo base g w v wr vi (b0 ++ (l.take i).flatMap encC))
  case atStart => exact ⟨0, v1, rfl, by omega, by simpa using H1.out⟩
  case round =>
    obtain ⟨i, vi, rfl, hi, ht⟩ := hrel
    by_cases hlt : i < l.length
    · obtain ⟨d, hx⟩ : ∃ d, l[i]? = some d := ⟨_, List.getElem?_eq_getElem hlt⟩
      obtain ⟨ad, rfl, hc⟩ := H0.out.1 wr ht.mod i d hx
      have hd6 : d.length ≤ 1000000 := H0.out.2.1 _ (List.mem_of_getElem? hx)
      have hfl := flatC_len (l.take i) (fun e he => H0.out.2.1 e (List.mem_of_mem_take he))
      rw [List.length_take] at hfl
      obtain ⟨bi, hbi⟩ : ∃ bi, bi = b0 ++ (l.take i).flatMap encC := ⟨_, rfl⟩
      have hbil : bi.length ≤ 2000000000 := by
        rw [hbi, List.length_append]
        have : 1000010 * min i l.length ≤ 1000010 * 1000 := Nat.mul_le_mul_left _ (by omega)
        omega
      have htk : b0 ++ (l.take (i + 1)).flatMap encC = bi ++ encF 10 d.length ++ d := by rw [List.take_add_one, hx, List.flatMap_append, hbi]; simp [encC]
      rw [← hbi] at ht
      have hsz := ht.mod.size
      have htx := ptext_any g base ⟨d.toArray⟩ vi bi wr ht.at_ (Nat.le_trans H0.out.2.2.2 hsz) (by show d.length ≤ _; omega) (by omega)
      have HX := Lib.hid (And.intro hi (And.intro ht (And.intro htk htx))); clear hi htk hx hbi hfl ht htx
      go_wp2_with fail
      refine HX.out.2.2.2.mono ?_
      rintro r w2 ⟨rfl, v2, ht2⟩
      have H2 := Lib.hid (HX.out.2.1.trans ht2); clear ht2 hc
      go_wp2_with fail
      go_roundg (gk - 1)
      case measure => have := HX.out.1; omega
      case rel => exact ⟨i + 1, v2, by go_num, by have := HX.out.1; omega, by rw [HX.out.2.2.1]; exact H2.out⟩
    · have hie : l.take i = l := List.take_of_length_le (by omega)
      rw [hie] at ht
      have HX := Lib.hid ht; clear ht hie hi
      go_wp2_with fail
      go_end0
      exact ⟨rfl, vi, HX.out⟩
def longO (l : List Nm) : Bool := decide (30 < l.length) || l.any fun s => decide (100 < s.length)
theorem longO_no {l : List Nm} (h : longO l = false) : l.length ≤ 30 ∧ ∀ s ∈ l, s.length ≤ 100 := by
  unfold longO at h
  simp only [Bool.or_eq_false_iff, decide_eq_false_iff_not, List.any_eq_false, decide_eq_true_eq] at h
  exact ⟨by omega, fun s hs => by have := h.2 s hs; omega⟩
set_option maxRecDepth 100000 in
set_option maxHeartbeats 1000000 in
theorem longO_any (A : Option Addr) (n c : Nat) (l : List Nm) (ok : Nat → Prop) (w : World) (h : nmsR.rel w ok [.slice A n c] l) :
    Calls Tryz.prog 12 #[.slice A n c] w fun r w' => r = .returned (.bool (longO l)) ∧ Mod (fun _ => False) w w' := by
  obtain ⟨rfl, hcap, hbig, -, hrow⟩ := nms_row h
  obtain ⟨z, hz⟩ : ∃ z, z = longO l := ⟨_, rfl⟩
  rw [← hz]
  unfold longO at hz
  have H0 := Lib.hid (And.intro hrow hz); clear h hrow hz
  by_cases h30 : 30 < l.length
  · have hzf : z = true := by rw [H0.out.2]; simp [h30]
    subst hzf
    go_enter Tryz.func12, Tryz.ntmps12
    go_wp2_with fail
    go_ret
    exact ⟨rfl, .refl _ _⟩
  have hz1 : z = l.any fun s => decide (100 < s.length) := by rw [H0.out.2]; simp [h30]
  have HZ := Lib.hid hz1; clear hz1
  go_enter Tryz.func12, Tryz.ntmps12
  go_wp2_with fail
  go_loopg [10] l.length (fun f si wr => ∃ i : Nat, si = .int .i64 i ∧ i + f = l.length ∧ (∀ x ∈ l.take i, ¬ 100 < x.length) ∧ w = wr)
  case atStart => exact ⟨0, rfl, by omega, by simp, rfl⟩
  case round =>
    obtain ⟨i, rfl, hi, hno, rfl⟩ := hrel
    by_cases hlt : i < l.length
    · obtain ⟨x, hx⟩ : ∃ x, l[i]? = some x := ⟨_, List.getElem?_eq_getElem hlt⟩
      obtain ⟨ad, rfl, -, hc, hxl⟩ := H0.out.1 i x hx
      by_cases h100 : 100 < x.length
      · have hzf : z = true := by rw [HZ.out]; exact List.any_eq_true.2 ⟨x, List.mem_of_getElem? hx, by simpa using h100⟩
        subst hzf
        clear hi hno hx
        go_wp2_with fail
        go_ret
        exact ⟨rfl, .refl _ _⟩
      · have hno' : ∀ y ∈ l.take (i + 1), ¬ 100 < y.length := by
          intro y hy
          rw [List.take_add_one, hx, List.mem_append] at hy
          rcases hy with hy | hy
          · exact hno y hy
          · simp at hy; rw [hy]; exact h100
        have HX := Lib.hid (And.intro hi hno'); clear hi hno hno' hx
        go_wp2_with fail
        go_roundg (gk - 1)
        case measure => have := HX.out.1; omega
        case rel => exact ⟨i + 1, by go_num, by have := HX.out.1; omega, HX.out.2, rfl⟩
    · have hzf : z = false := by
        rw [HZ.out, List.any_eq_false]
        rw [List.take_of_length_le (by omega)] at hno
        intro x hx
        have := hno x hx
        simpa using this
      subst hzf
      clear hi hno
      go_wp2_with fail
      go_ret
      exact ⟨rfl, .refl _ _⟩
end Go.Proofs.YthhepnaanjicjaaGreatDoor

/- Rows of entries: slices.IndexFunc and DeleteFunc by one closure. -/
namespace Go.Proofs.YthhepnaanjicjaaGreatDoor
open Go.RowKit Go.Shelf
set_option linter.unusedVariables false
set_option maxRecDepth 100000 in
set_option maxHeartbeats 1000000 in
theorem indexLF_any (A : Option Addr) (n c : Nat) (l : List Entry) (g : Nat) (p : Entry → Bool) (ok : Nat → Prop) (w : World) (h : labR.rel w ok [.slice A n c] l)
    (hp : ∀ W, Mod (fun _ => False) w W → ∀ d m, ent d m ∈ l → Calls Tryz.prog 98 #[.agg #[.string ⟨d.toArray⟩, .int .i64 m], .pointer (some ⟨g, 0, none⟩)] W fun r W' => r = .returned (.bool (p (ent d m))) ∧ Mod (fun _ => False) W W') :
    Calls Tryz.prog 87 #[.slice A n c, .func (.func 98) #[] #[.pointer (some ⟨g, 0, none⟩)]] w fun r w' => r = .returned (.int .i64 (idxL p l)) ∧ Mod (fun _ => False) w w' := by
  obtain ⟨rfl, hcap, -, hbig, -, hrow⟩ := lab_row h
  obtain ⟨z, hz⟩ : ∃ z, z = idxL p l := ⟨_, rfl⟩
  rw [← hz]
  have H0 := Lib.hid (And.intro hrow (And.intro hp hz)); clear hrow hp hz h
  go_enter Tryz.func87, Tryz.ntmps87
  go_wp2_with fail
  go_loopg [8] l.length (fun f si wr => ∃ i : Nat, si = .int .i64 i ∧ i + f = l.length ∧ (∀ x ∈ l.take i, p x = false) ∧ Mod (fun _ => False) w wr)
  case atStart => exact ⟨0, rfl, by omega, by simp, .refl _ _⟩
  case round =>
    obtain ⟨i, rfl, hi, hno, hmod⟩ := hrel
    by_cases hlt : i < l.length
    · obtain ⟨d, m, hx⟩ : ∃ d m, l[i]? = some (ent d m) := by
        obtain ⟨d, m, e⟩ := ent_cases l[i]
        exact ⟨d, m, by rw [← e]; simp [hlt]⟩
      obtain ⟨ad, rfl, -, hc0, hc1, -, -⟩ := row_ent (H0.out.1.step (w1 := wr) (ok1 := ok) (fun k hk hl => ⟨hk, hmod.block k hl id⟩)) hx
      have HX := Lib.hid (And.intro hi (And.intro hno (And.intro hmod hx))); clear hi hno hmod hx
      go_wp2_with fail
      refine (H0.out.2.1 wr HX.out.2.2.1 d m (List.mem_of_getElem? HX.out.2.2.2)).mono ?_
      rintro r w1 ⟨rfl, hm⟩
      have HM := Lib.hid (tr0 HX.out.2.2.1 hm); clear hm hc0 hc1
      cases hb : p (ent d m) with
      | true =>
        have hzi : z = i := by rw [H0.out.2.2]; exact idxL_some HX.out.2.2.2 hb HX.out.2.1
        subst hzi
        clear hb
        go_wp2_with fail
        go_ret
        exact ⟨rfl, HM.out⟩
      | false =>
        have HB := Lib.hid hb; clear hb
        go_wp2_with fail
        go_roundg (gk - 1)
        case measure => have := HX.out.1; omega
        case rel =>
          refine ⟨i + 1, by go_num, by have := HX.out.1; omega, ?_, HM.out⟩
          rw [List.take_add_one, HX.out.2.2.2]
          intro y hy
          rcases List.mem_append.1 hy with hy | hy
          · exact HX.out.2.1 y hy
          · simp at hy; rw [hy]; exact HB.out
    · have hie : l.take i = l := List.take_of_length_le (by omega)
      rw [hie] at hno
      have hzi : z = -1 := by rw [H0.out.2.2]; exact idxL_none hno
      subst hzi
      have HX := Lib.hid hmod; clear hno hmod hi hie
      go_wp2_with fail
      go_ret
      exact ⟨rfl, HX.out⟩
set_option maxRecDepth 100000 in
set_option maxHeartbeats 2000000 in
theorem deleteLF_any (A : Option Addr) (n c : Nat) (l : List Entry) (g0 : Nat) (p : Entry → Bool) (base : Nat) (S : Nat → Prop) (w : World) (hO : OwnR EntryR 63 w base S (.slice A n c) l) (hn : n = l.length) (hl : l.length ≤ 1000000)
    (hp : ∀ W, Mod (fun k => (Value.slice A n c).ownBlock = some k) w W → ∀ d m, ent d m ∈ l → Calls Tryz.prog 98 #[.agg #[.string ⟨d.toArray⟩, .int .i64 m], .pointer (some ⟨g0, 0, none⟩)] W fun r W' => r = .returned (.bool (p (ent d m))) ∧ Mod (fun _ => False) W W') :
    Calls Tryz.prog 91 #[.slice A n c, .func (.func 98) #[] #[.pointer (some ⟨g0, 0, none⟩)]] w fun e w' => ∃ A' c', e = .returned (.slice A' (l.filter fun x => !p x).length c') ∧ (Value.slice A' (l.filter fun x => !p x).length c').ownBlock = (Value.slice A n c).ownBlock ∧ OwnR EntryR 63 w' base S (.slice A' (l.filter fun x => !p x).length c') (l.filter fun x => !p x) ∧ Mod (fun k => (Value.slice A n c).ownBlock = some k) w w' := by
  subst hn
  have hreads := hO.reads (bytes := 24) (by omega)
  have HI := indexLF_any A _ c l g0 p _ w hreads (fun W hW => hp W (hW.mono (fun k h => h.elim)))
  cases hidx : l.findIdx? p with
  | none =>
    have hz : idxL p l = -1 := by unfold idxL; rw [hidx]
    rw [hz] at HI
    have hff : (l.filter fun x => !p x) = l := keepIdx_none (q := fun x => !p x) (by simpa using hidx)
    have HF := Lib.hid hff
    have H0 := Lib.hid hO
    have HIh := Lib.hid HI
    clear hreads HI hidx hp hO hz hff
    go_enter Tryz.func91, Tryz.ntmps91
    go_wp2_with fail
    refine HIh.out.mono ?_
    rintro e w1 ⟨rfl, hm1⟩
    have HM := Lib.hid hm1; clear hm1
    go_wp2_with fail
    go_ret
    rw [HF.out]
    refine ⟨A, c, rfl, rfl, ?_, HM.out.mono (fun k h => h.elim)⟩
    exact H0.out.mod HM.out (fun _ _ => id) (fun _ _ _ => id)
  | some i =>
    have hz : idxL p l = i := by unfold idxL; rw [hidx]
    rw [hz] at HI
    obtain ⟨g, cur, rfl, -, hbg, hgg, hnc, hcm, hcur, hrel, hone⟩ := own_blk hO (by intro h; subst h; simp at hidx)
    have hidx' : l.findIdx? (fun x => !(fun x => !p x) x) = some i := by simpa using hidx
    have hin := (keepIdx_some (q := fun x => !p x) hidx').1
    have hcur' : cur.length = c * 2 := hcur
    have hp' : ∀ W, Mod (fun k => k = g) w W → ∀ d m, ent d m ∈ l → Calls Tryz.prog 98 #[.agg #[.string ⟨d.toArray⟩, .int .i64 m], .pointer (some ⟨g0, 0, none⟩)] W fun r W' => r = .returned (.bool (p (ent d m))) ∧ Mod (fun _ => False) W W' := fun W hW => hp W (hW.mono (fun k h => by rw [h]; rfl))
    have H0 := Lib.hid (And.intro hbg (And.intro hgg (And.intro hcur' (And.intro hrel (And.intro hidx' hp')))))
    have HIh := Lib.hid HI
    clear hreads HI hidx hidx' hp hp' hO hbg hgg hcur hcur' hrel hone hz
    go_enter Tryz.func91, Tryz.ntmps91
    go_wp2_with fail
    refine HIh.out.mono ?_
    rintro e w1 ⟨rfl, hm1⟩
    have HD0 := Lib.hid (DelAt.start (q := fun x => !p x) H0.out.2.1 hm1 H0.out.2.2.1 rfl hnc H0.out.2.2.2.1 H0.out.2.2.2.2.1); clear hm1
    have hine : ((i : Int) == -1) = false := by simp
    have hil : i + 1 ≤ 1000000 := by omega
    go_wp2_with fail
    go_loopg [5, 6] l.length (fun f s5 s6 wr => ∃ (i j : Nat) (row : List Value), s5 = .int .i64 i ∧ s6 = .int .i64 j ∧ l.length - j ≤ f ∧ j ≤ l.length ∧ i < j ∧ Hid (DelAt w S g l (fun x => !p x) cur i j row wr))
    case atStart => exact ⟨i, i + 1, cur, rfl, by go_num, by omega, by omega, by omega, HD0⟩
    case round =>
      obtain ⟨i, j, row, rfl, rfl, hf, hjl, hij, HD⟩ := hrel
      by_cases hlt : j < l.length
      · obtain ⟨x, hx⟩ : ∃ x, l[j]? = some x := ⟨_, List.getElem?_eq_getElem hlt⟩
        have hat := HD.out.at_ H0.out.2.2.1 hnc hlt (H0.out.2.2.2.1 j x hx)
        obtain ⟨d, m, rfl⟩ := ent_cases x
        have hcse := (EntryR_cells hat.1).1
        rw [hcse] at hat
        have HX := Lib.hid (And.intro hx (And.intro hcse hat)); clear hx hcse hat
        have hlen2 : [Value.string (ent d m).cat, .int .i64 (ent d m).level].length = 2 := rfl
        go_wp2_with (refine wpList_copy_var (n := 2) rfl rfl rfl 63 _ _ _ rfl rfl rfl Tryz.underlying63 zeroEnt Tryz.info_ent2 rfl ⟨g, j * 2, none⟩ rfl [.string ⟨d.toArray⟩, .int .i64 m] rfl (EntryR.one HX.out.2.2.1) (fun t u ht => by rw [add_own]; exact HX.out.2.2.2 t u ht) (fun _ _ => rfl) (fun _ _ => rfl) ?_)
        intro g7 w2 hg7 hb7 hm7
        have r7 := Rd.mod HX.out.2.2.1 (hm7 fun _ => False) (fun _ _ => id)
        have HY := Lib.hid (And.intro hb7 (And.intro (hm7 fun _ => False) r7)); clear hg7 hb7 hm7 r7 hlen2
        go_wp2_with (refine wpList_load_agg rfl 63 _ rfl Tryz.underlying63 Tryz.info_ent1 ⟨g7, 0, none⟩ rfl [.string ⟨d.toArray⟩, .int .i64 m] rfl (fun t u ht => by rw [agg_at]; refine (cell_of_blk HY.out.1 _).trans ?_; simpa using ht) ?_)
        have hm02 : Mod (fun k => k = g) w w2 := HD.out.mod.trans (HY.out.2.1) (fun k h => h.elim)
        refine (H0.out.2.2.2.2.2 w2 hm02 d m (List.mem_of_getElem? HX.out.1)).mono ?_
        rintro e w3 ⟨rfl, hm3⟩
        have hb73 := (hm3.block g7 (lt_of_blk HY.out.1) id).trans HY.out.1
        have hm23 := HY.out.2.1.trans hm3 (fun _ h => h.elim)
        have hbg3 := (hm23.block g (lt_of_blk HD.out.blk) id).trans HD.out.blk
        have HZ := Lib.hid (And.intro hb73 (And.intro hm23 hbg3)); clear hb73 hm23 hm3 hbg3 hm02
        cases hb : p (ent d m) with
        | true =>
          have HN : Hid ((fun x => !p x) (ent d m) = false) := by show (!p (ent d m)) = false; rw [hb]; rfl
          clear hb
          go_wp2_with fail
          go_roundg (gk - 1)
          case measure => omega
          case rel => exact ⟨i, j + 1, row, rfl, by go_num, by omega, by omega, by omega, HD.out.skip HZ.out.2.1 H0.out.2.2.1 (by omega) HX.out.1 HN.out⟩
        | false =>
          have HN : Hid ((fun x => !p x) (ent d m) = true) := by show (!p (ent d m)) = true; rw [hb]; rfl
          clear hb
          have hrowl : i * 2 + 2 ≤ row.length := by
            obtain ⟨F, mid, hr, hF, hmid, _⟩ := HD.out.ex
            have := H0.out.2.2.1
            rw [hr]; simp only [List.length_append, List.length_drop]; omega
          have HR2 := Lib.hid hrowl; clear hrowl
          go_wp2_with (first
            | (refine wpList_load_agg rfl 63 _ rfl Tryz.underlying63 Tryz.info_ent1 ⟨g7, 0, none⟩ rfl [.string ⟨d.toArray⟩, .int .i64 m] rfl (fun t u ht => by rw [agg_at]; refine (cell_of_blk HZ.out.1 _).trans ?_; simpa using ht) ?_)
            | (refine wpList_store_at rfl 63 _ _ rfl g (i * 2) 63 row [.string ⟨d.toArray⟩, .int .i64 m] HZ.out.2.2 rfl rfl Tryz.info_ent1 HR2.out (EntryR.one HX.out.2.2.1) ?_))
          intro w4 hb4 hm4
          have HK : Hid (DelAt w S g l (fun x => !p x) cur (i + 1) (j + 1) (laid row (i * 2) [.string ⟨d.toArray⟩, .int .i64 m]) w4) := by
            have hc := HX.out.2.1
            have h1 := HX.out.2.2.1
            change _ = [Value.string ⟨d.toArray⟩, .int .i64 m] at hc
            rw [← hc]
            exact HD.out.keep HZ.out.2.1 hm4 H0.out.2.2.1 (by omega) hij HX.out.1 HN.out (by rw [hc]; exact h1) (by rw [hc]; exact hb4)
          clear hb4 hm4
          go_wp2_with fail
          go_roundg (gk - 1)
          case measure => omega
          case rel => exact ⟨i + 1, j + 1, _, by go_num, by go_num, by omega, by omega, by omega, HK⟩
      · obtain rfl : j = l.length := by omega
        have hs1 := slice_low_own (P := Tryz.prog) Tryz.underlying23 Tryz.info_ent1 g l.length c i (by omega) (by omega) (i : Int) rfl
        have hrowl : i * 2 + (l.length - i) * 2 ≤ row.length := by
          obtain ⟨F, mid, hr, hF, hmid, _⟩ := HD.out.ex
          rw [hr]; simp only [List.length_append]; omega
        have HR2 := Lib.hid hrowl; clear hrowl
        go_wp2_with (refine wpList_clear rfl _ 23 rfl 63 zeroEnt Tryz.underlying23 Tryz.info_ent0 (by decide) (by decide) g (i * 2) (l.length - i) (c - i) rfl row 63 HD.out.blk HR2.out ?_)
        intro w4 zs hz hb4 hm4
        have HK := Lib.hid (And.intro (HD.out.cut H0.out.1 H0.out.2.2.1 rfl hnc hcm (by omega) hm4 hz hb4) (And.intro (HD.out.mod.trans hm4 (fun k hk => .inl hk)) (by have := HD.out.num; rwa [List.take_length] at this))); clear hz hb4 hm4
        go_wp2_with fail
        go_ret
        refine ⟨some ⟨g, 0, none⟩, c, ?_, rfl, HK.out.1, HK.out.2.1.mono (fun k hk => by rw [hk]; rfl)⟩
        rw [HK.out.2.2]
        rfl
end Go.Proofs.YthhepnaanjicjaaGreatDoor

/- Layer 7: flowing under an ownership; no program in it. -/
namespace Go.Proofs.YthhepnaanjicjaaGreatDoor
open Go.RowKit
set_option linter.unusedVariables false
def liftL (a : List Entry) (l : List Nm) (v : Int) : List Entry := (a.filter fun e => !l.contains (nm e)) ++ l.map fun c => ent c v
theorem levelL_append (a b : List Entry) (c : Nm) : levelL (a ++ b) c = if c ∈ a.map nm then levelL a c else levelL b c := by
  induction a with
  | nil => simp
  | cons e a ih =>
    rw [List.cons_append, levelL_cons, levelL_cons, ih]
    by_cases h : nm e = c
    · simp [h]
    · rw [if_neg h, if_neg h]
      have : c ∈ (e :: a).map nm ↔ c ∈ a.map nm := by
        rw [List.map_cons, List.mem_cons]
        exact ⟨fun h1 => h1.elim (fun h2 => absurd h2.symm h) id, .inr⟩
      by_cases h2 : c ∈ a.map nm
      · rw [if_pos h2, if_pos (this.2 h2)]
      · rw [if_neg h2, if_neg (fun h3 => h2 (this.1 h3))]
theorem levelL_own (l : List Nm) (v : Int) (c : Nm) : levelL (l.map fun c => ent c v) c = if c ∈ l then v else 1 := by
  induction l with
  | nil => simp [levelL_nil]
  | cons d l ih =>
    rw [List.map_cons, levelL_cons, nm_ent, lev_ent, ih]
    by_cases h : d = c
    · simp [h]
    · rw [if_neg h]
      by_cases h2 : c ∈ l
      · rw [if_pos h2, if_pos (List.mem_cons_of_mem _ h2)]
      · rw [if_neg h2, if_neg (fun h3 => (List.mem_cons.1 h3).elim (fun e => h e.symm) h2)]
theorem levelL_filter (a : List Entry) (q : Nm → Bool) (c : Nm) (h : q c = true) : levelL (a.filter fun e => q (nm e)) c = levelL a c := by
  induction a with
  | nil => rfl
  | cons e a ih =>
    rw [List.filter_cons, levelL_cons]
    by_cases hq : q (nm e) = true
    · rw [if_pos hq, levelL_cons, ih]
    · rw [if_neg hq, ih, if_neg]
      intro e2
      rw [e2] at hq
      exact hq h
theorem lift_level (a : List Entry) (l : List Nm) (v : Int) (c : Nm) : levelL (liftL a l v) c = if c ∈ l then v else levelL a c := by
  unfold liftL
  rw [levelL_append, levelL_own]
  by_cases h : c ∈ l
  · rw [if_pos h, if_pos h, if_neg]
    intro h1
    obtain ⟨e, he, rfl⟩ := List.mem_map.1 h1
    have := (List.mem_filter.1 he).2
    rw [List.contains_iff_mem.2 h] at this
    cases this
  · rw [if_neg h, if_neg h]
    have hq : (fun c => !l.contains c) c = true := by simpa using h
    split
    · exact levelL_filter a (fun c => !l.contains c) c hq
    · rename_i h1
      refine (levelL_not fun h2 => h1 ?_).symm
      obtain ⟨e, he, rfl⟩ := List.mem_map.1 h2
      exact List.mem_map.2 ⟨e, List.mem_filter.2 ⟨he, by simpa using h⟩, rfl⟩
theorem lift_names (a : List Entry) (l : List Nm) (v : Int) (c : Nm) (h : c ∉ l) : c ∈ (liftL a l v).map nm ↔ c ∈ a.map nm := by
  unfold liftL
  rw [List.map_append, List.mem_append]
  constructor
  · rintro (h1 | h1)
    · obtain ⟨e, he, rfl⟩ := List.mem_map.1 h1
      exact List.mem_map.2 ⟨e, (List.mem_filter.1 he).1, rfl⟩
    · obtain ⟨e, he, rfl⟩ := List.mem_map.1 h1
      obtain ⟨d, hd, rfl⟩ := List.mem_map.1 he
      rw [nm_ent] at h; exact absurd hd h
  · intro h1
    obtain ⟨e, he, rfl⟩ := List.mem_map.1 h1
    exact .inl (List.mem_map.2 ⟨e, List.mem_filter.2 ⟨he, by simpa using h⟩, rfl⟩)
structure FlowsO (a b : List Entry) (l : List Nm) : Prop where
  ra : RightL a
  rb : RightL b
  rl : RightO l
  le : ∀ c, c ∉ l → levelL a c ≤ levelL b c
noncomputable def flowsOB (a b : List Entry) (l : List Nm) : Bool := @decide (FlowsO a b l) (Classical.propDecidable _)
theorem flowsOB_iff {a b : List Entry} {l : List Nm} : flowsOB a b l = true ↔ FlowsO a b l := by unfold flowsOB; exact @decide_eq_true_iff _ (Classical.propDecidable _)
theorem flowsOB_no {a b : List Entry} {l : List Nm} (h : ¬ FlowsO a b l) : flowsOB a b l = false := by rw [Bool.eq_false_iff]; exact fun e => h (flowsOB_iff.1 e)
noncomputable def altersOB (a b : List Entry) (l : List Nm) : Bool := flowsOB a b l && flowsOB b a l
theorem flowsO_code {a b : List Entry} {l : List Nm} (ha : RightL a) (hb : RightL b) (hl : RightO l) : FlowsO a b l ↔ ∀ e ∈ liftL a l 0 ++ liftL b l 3, levelL (liftL a l 0) (nm e) ≤ levelL (liftL b l 3) (nm e) := by
  constructor
  · intro h e _
    rw [lift_level, lift_level]
    by_cases hc : nm e ∈ l
    · rw [if_pos hc, if_pos hc]; decide
    · rw [if_neg hc, if_neg hc]; exact h.le _ hc
  · intro h
    refine ⟨ha, hb, hl, fun c hc => ?_⟩
    by_cases hm : c ∈ (liftL a l 0 ++ liftL b l 3).map nm
    · obtain ⟨e, he, rfl⟩ := List.mem_map.1 hm
      have := h e he
      rw [lift_level, lift_level, if_neg hc, if_neg hc] at this
      exact this
    · rw [List.map_append, List.mem_append] at hm
      have h1 : c ∉ a.map nm := fun h2 => hm (.inl ((lift_names a l 0 c hc).2 h2))
      have h2 : c ∉ b.map nm := fun h2 => hm (.inr ((lift_names b l 3 c hc).2 h2))
      rw [levelL_not h1, levelL_not h2]; decide
theorem flowsO_ref {a b : List Entry} {l : List Nm} (ha : RightL a) (hb : RightL b) (hl : RightO l) : FlowsO a b l ↔ ∀ e ∈ a ++ b, nm e ∉ l → levelL a (nm e) ≤ levelL b (nm e) := by
  constructor
  · intro h e _ hc
    exact h.le _ hc
  · intro h
    refine ⟨ha, hb, hl, fun c hc => ?_⟩
    by_cases hm : c ∈ (a ++ b).map nm
    · obtain ⟨e, he, rfl⟩ := List.mem_map.1 hm
      exact h e he hc
    · rw [List.map_append, List.mem_append] at hm
      rw [levelL_not fun h2 => hm (.inl h2), levelL_not fun h2 => hm (.inr h2)]; decide
theorem liftL_len (a : List Entry) (l : List Nm) (v : Int) : (liftL a l v).length ≤ a.length + l.length := by
  unfold liftL
  rw [List.length_append, List.length_map]
  have := List.length_filter_le (fun e => !l.contains (nm e)) a
  omega
end Go.Proofs.YthhepnaanjicjaaGreatDoor

/- Layer 7, owns: lifted labels, Flows, Sees, Alters. -/
namespace Go.Proofs.YthhepnaanjicjaaGreatDoor
open Go.RowKit Go.Shelf
set_option linter.unusedVariables false
theorem own_entS {w : World} {base : Nat} {T : TypeId} {S S' : Nat → Prop} {v : Value} {l : List Entry} (h : OwnR EntryR T w base S v l) : OwnR EntryR T w base S' v l := by
  obtain ⟨cells, ho, hr⟩ := h
  refine ⟨cells, ho, fun j x hj => ?_⟩
  have h1 := EntryR_cells (hr j x hj)
  rw [h1.1]
  exact EntryR_mk _ _ x h1.2.1 h1.2.2
set_option maxRecDepth 100000 in
theorem liftedC_any (d : Nm) (m : Int) (A : Option Addr) (n c : Nat) (b : List Nm) (g : Nat) (ok : Nat → Prop) (w : World) (hg : w.cell? ⟨g, 0, none⟩ = some (.slice A n c)) (h : nmsR.rel w ok [.slice A n c] b) :
    Calls Tryz.prog 98 #[.agg #[.string ⟨d.toArray⟩, .int .i64 m], .pointer (some ⟨g, 0, none⟩)] w fun r w' => r = .returned (.bool (b.contains d)) ∧ Mod (fun _ => False) w w' := by
  have hm1 := (Mod.refl (fun _ => False) w).alloc (.cells #[.string ⟨d.toArray⟩, .int .i64 m] 63)
  have hh := hasO_any A n c b d ok _ (Rd.mod h hm1 (fun _ _ => id))
  obtain ⟨z, hz⟩ : ∃ z, z = b.contains d := ⟨_, rfl⟩
  rw [← hz] at hh ⊢
  have hgl := cell_lt hg
  have H0 := Lib.hid (And.intro hh hm1); clear hh hz h hm1
  go_enter Tryz.func98, Tryz.ntmps98
  go_wp2_with fail
  refine H0.out.1.mono ?_
  rintro r w1 ⟨rfl, hm⟩
  have H := Lib.hid (tr0 H0.out.2 hm); clear hm hg
  go_wp2_with fail
  go_ret
  exact ⟨rfl, H.out⟩
set_option maxRecDepth 100000 in
set_option maxHeartbeats 2000000 in
theorem lifted_any (A : Option Addr) (n c : Nat) (A2 : Option Addr) (n2 c2 : Nat) (a : List Entry) (l : List Nm) (v : Int) (ok ok2 : Nat → Prop) (w : World) (h : labR.rel w ok [.slice A n c] a) (h2 : nmsR.rel w ok2 [.slice A2 n2 c2] l) (hal : a.length ≤ 1000) (hll : l.length ≤ 1000) (hv : 0 ≤ v ∧ v ≤ 3) :
    Calls Tryz.prog 57 #[.slice A n c, .slice A2 n2 c2, .int .i64 v] w fun r w' => ∃ A' c', r = .returned (.slice A' (liftL a l v).length c') ∧ OwnR EntryR 63 w' w.heap.size (fun _ => False) (.slice A' (liftL a l v).length c') (liftL a l v) ∧ Mod (fun _ => False) w w' := by
  obtain ⟨rfl, hcap, hbig, -, hrow⟩ := nms_row h2
  obtain ⟨rfl, -⟩ := lab_row h
  obtain ⟨z, hz⟩ : ∃ z, z = liftL a l v := ⟨_, rfl⟩
  rw [← hz]
  unfold liftL at hz
  obtain ⟨W1, hW1⟩ : ∃ W1, W1 = w.alloc (.cells #[.slice A2 l.length c2] 24) := ⟨_, rfl⟩
  have hmW : Mod (fun _ => False) w W1 := by rw [hW1]; exact (Mod.refl _ _).alloc _
  have k0 := box1_cell w (.slice A2 l.length c2) 24
  rw [← hW1] at k0
  obtain ⟨g, hg⟩ : ∃ g, g = w.heap.size := ⟨_, rfl⟩
  have kW := fun W (hW : Mod (fun _ => False) W1 W) => (hW.cell (lt_of_cell k0) id).trans k0
  have hgl := lt_of_cell k0
  rw [← hg] at kW hgl
  have hcl := cloneL_any A a.length c a ok W1 (Rd.mod h hmW (fun _ _ => id)) (by omega)
  have RL := fun W (hW : Mod (fun _ => False) w W) => Rd.mod h2 hW (fun _ _ => id)
  have HG := Lib.hid hW1.symm
  have H0 := Lib.hid (And.intro hcl (And.intro RL (And.intro hz (And.intro hmW (And.intro kW (And.intro hgl hrow)))))); clear h h2 hz hmW k0 kW hgl hcl RL hrow hW1
  go_enter Tryz.func57, Tryz.ntmps57
  go_wp2_with fail
  rw [HG.out, ← hg]
  refine H0.out.1.mono ?_
  rintro r w2 ⟨A2', c2', rfl, ho2, hm2⟩
  have ho2' : OwnR EntryR 63 w2 W1.heap.size (fun _ => False) (.slice A2' a.length c2') a := own_entS ho2
  have hmm : ∀ W, Mod (fun k => (Value.slice A2' a.length c2').ownBlock = some k) w2 W → Mod (fun _ => False) W1 W := fun W hW => hm2.trans hW (fun k hk => .inr (by obtain ⟨cells, hown, _⟩ := ho2'; exact (own_lt hown k hk).1))
  have hde := deleteLF_any A2' a.length c2' a g (fun e => l.contains (nm e)) W1.heap.size (fun _ => False) w2 ho2' rfl (by omega) (fun W hW d m hdm => by
    have h1 := hmm W hW
    have := liftedC_any d m A2 l.length c2 l g _ W (H0.out.2.2.2.2.1 W h1) (H0.out.2.1 W (tr0 H0.out.2.2.2.1 h1))
    rw [nm_ent]; exact this)
  obtain ⟨q, hq⟩ : ∃ q, q = a.filter (fun e => !l.contains (nm e)) := ⟨_, rfl⟩
  have hql : q.length ≤ 1000 := by rw [hq]; have := List.length_filter_le (fun e => !l.contains (nm e)) a; omega
  have hzz := H0.out.2.2.1
  have hs1 := H0.out.2.2.2.1.size
  rw [← hq] at hzz
  rw [← hq] at hde
  have H2 := Lib.hid (And.intro hde (And.intro hmm (And.intro hzz hs1))); clear hde hmm hzz hs1 ho2 ho2' hm2 HG hg hq
  go_wp2_with fail
  refine H2.out.1.mono ?_
  rintro r w3 ⟨A3, c3, rfl, -, ho3, hm3⟩
  have hm13 := H2.out.2.1 w3 hm3
  have k3 := H0.out.2.2.2.2.1 w3 hm13
  have H3 := Lib.hid (And.intro ho3 (And.intro (tr0 H0.out.2.2.2.1 hm13) hm13)); clear ho3 hm3 hm13
  go_wp2_with fail
  go_loopg [7, 16] l.length (fun f so si wr => ∃ (i : Nat) (Ao : Option Addr) (co : Nat), si = .int .i64 i ∧ so = .slice Ao (q.length + i) co ∧ i + f = l.length ∧ OwnR EntryR 63 wr W1.heap.size (fun _ => False) (.slice Ao (q.length + i) co) (q ++ (l.take i).map fun c => ent c v) ∧ Mod (fun _ => False) W1 wr)
  case atStart => exact ⟨0, A3, c3, rfl, rfl, by omega, by simpa using H3.out.1, H3.out.2.2⟩
  case round =>
    obtain ⟨i, Ao, co, rfl, rfl, hi, hO, hmod⟩ := hrel
    by_cases hlt : i < l.length
    · obtain ⟨d, hx⟩ : ∃ d, l[i]? = some d := ⟨_, List.getElem?_eq_getElem hlt⟩
      obtain ⟨ad, rfl, -, hc, hdl⟩ := H0.out.2.2.2.2.2.2 i d hx
      have hc := ((tr0 H0.out.2.2.2.1 hmod).cell (lt_of_cell hc) id).trans hc
      obtain ⟨lst, hlst⟩ : ∃ lst, lst = q ++ (l.take i).map fun c => ent c v := ⟨_, rfl⟩
      have hln : lst.length = q.length + i := by rw [hlst, List.length_append, List.length_map, List.length_take]; omega
      have htk : q ++ (l.take (i + 1)).map (fun c => ent c v) = lst ++ [ent d v] := by rw [List.take_add_one, hx, List.map_append, hlst]; simp
      rw [← hlst] at hO
      have hE : ∀ (W : World) (T : Nat → Prop), EntryR.rel W T [.string ⟨d.toArray⟩, .int .i64 v] (ent d v) := fun W T => EntryR_mk _ _ (ent d v) (by rw [show (ent d v).cat.size = d.length from mkStr_size d]; omega) (by rw [lev_ent]; exact inR_mk (by omega))
      have hsz := hmod.size
      have HX := Lib.hid (And.intro hi (And.intro hO (And.intro hmod (And.intro htk (And.intro hE (And.intro hln hsz)))))); clear hi hO hmod htk hE hx hlst hln hsz
      have hln := HX.out.2.2.2.2.2.1
      have hsz := HX.out.2.2.2.2.2.2
      go_wp2_with (first
        | (refine wpList_slice1_agg rfl 23 63 _ rfl Tryz.underlying23 zeroEnt.toArray [.string ⟨d.toArray⟩, .int .i64 v] Tryz.info_ent2 (by decide) rfl rfl ?_)
        | (at_builtin; refine append_rd (R := EntryR) W1.heap.size rfl _ _ 23 63 (.agg zeroEnt.toArray) 24 rfl Tryz.underlying23 Tryz.info_ent3 rfl (by decide) (.slice Ao (q.length + i) co) lst (ent d v) [.string ⟨d.toArray⟩, .int .i64 v] (fun _ => False) rfl rfl HX.out.2.1 (HX.out.2.2.2.2.1 _ _) hsz (by rw [hln]; omega) ?_))
      intro A8 c8 w8 hO8 hm8 hn8
      have hm18 := HX.out.2.2.1.trans hm8 (fun k hk => .inr (by obtain ⟨cells, hown, _⟩ := HX.out.2.1; exact (own_lt hown k hk).1))
      rw [← HX.out.2.2.2.1] at hO8
      have H8 := Lib.hid (And.intro hO8 hm18); clear hO8 hm8 hn8 hm18 hln hsz hc
      go_wp2_with fail
      go_roundg (gk - 1)
      case measure => have := HX.out.1; omega
      case rel => exact ⟨i + 1, A8, c8, by go_num, by first | rfl | (rw [Nat.add_assoc]) | simp [Nat.add_assoc], by have := HX.out.1; omega, by first | exact H8.out.1 | (have h := H8.out.1; rw [HX.out.2.2.2.2.2.1] at h; exact h) | (have h := H8.out.1; rw [HX.out.2.2.2.2.2.1, Nat.add_assoc] at h; exact h), H8.out.2⟩
    · have hie : l.take i = l := List.take_of_length_le (by omega)
      have hil : i = l.length := by omega
      subst hil
      rw [hie, ← H2.out.2.2.1] at hO
      have hzl : z.length = q.length + l.length := by rw [H2.out.2.2.1, List.length_append, List.length_map]
      rw [← hzl] at hO ⊢
      have hO' : OwnR EntryR 63 wr w.heap.size (fun _ => False) (.slice Ao z.length co) z := by
        obtain ⟨cells, hown, hr⟩ := hO
        exact ⟨cells, own_base_le hown H2.out.2.2.2, hr⟩
      have HX := Lib.hid (And.intro hO' (tr0 H0.out.2.2.2.1 hmod)); clear hO hO' hmod hie hi hzl
      go_wp2_with fail
      go_ret
      exact ⟨Ao, co, rfl, HX.out.1, HX.out.2⟩
set_option maxRecDepth 100000 in
set_option maxHeartbeats 4000000 in
theorem flowsO_any (A : Option Addr) (n c : Nat) (A2 : Option Addr) (n2 c2 : Nat) (A3 : Option Addr) (n3 c3 : Nat) (a b : List Entry) (l : List Nm) (ok ok2 ok3 : Nat → Prop) (w : World) (h : labR.rel w ok [.slice A n c] a) (h2 : labR.rel w ok2 [.slice A2 n2 c2] b) (h3 : nmsR.rel w ok3 [.slice A3 n3 c3] l) (E : Env w) :
    Calls Tryz.prog 13 #[.slice A n c, .slice A2 n2 c2, .slice A3 n3 c3] w fun r w' => r = .returned (.bool (flowsOB a b l)) ∧ Mod (fun _ => False) w w' := by
  obtain rfl := (lab_row h).1
  obtain rfl := (lab_row h2).1
  obtain rfl := (nms_row h3).1
  have RA := fun W (hW : Mod (fun _ => False) w W) => Rd.mod h hW (fun _ _ => id)
  have RB := fun W (hW : Mod (fun _ => False) w W) => Rd.mod h2 hW (fun _ _ => id)
  have RL := fun W (hW : Mod (fun _ => False) w W) => Rd.mod h3 hW (fun _ _ => id)
  have QA := fun W (hW : Mod (fun _ => False) w W) => rightLab_any A a.length c a _ W (RA W hW) (E.mod0 hW)
  have QB := fun W (hW : Mod (fun _ => False) w W) => rightLab_any A2 b.length c2 b _ W (RB W hW) (E.mod0 hW)
  have QL := fun W (hW : Mod (fun _ => False) w W) => rightO_any A3 l.length c3 l _ W (RL W hW) (E.mod0 hW)
  obtain ⟨z, hz⟩ : ∃ z, z = flowsOB a b l := ⟨_, rfl⟩
  rw [← hz]
  have H0 := Lib.hid (And.intro QA (And.intro QB (And.intro QL (And.intro hz (And.intro RA (And.intro RB RL)))))); clear QA QB QL hz RA RB RL h h2 h3 E
  have HM := Lib.hid (Mod.refl (fun _ => False) w)
  go_enter Tryz.func13, Tryz.ntmps13
  cases hra : rightLB a with
  | false =>
    have hzf : z = false := by rw [H0.out.2.2.2.1]; exact flowsOB_no fun h => by have := rightLB_iff.2 h.ra; rw [hra] at this; cases this
    subst hzf
    repeat (go_wp2_with fail; first | (go_at_call_of 45 ((#[.slice A a.length c] : Array Value)); refine (H0.out.1 _ HM.out).mono ?_; rintro _ w1 ⟨rfl, hm1⟩; replace HM := Lib.hid (tr0 HM.out hm1); clear hm1) | (go_at_call_of 45 ((#[.slice A2 b.length c2] : Array Value)); refine (H0.out.2.1 _ HM.out).mono ?_; rintro _ w1 ⟨rfl, hm1⟩; replace HM := Lib.hid (tr0 HM.out hm1); clear hm1) | (go_at_call_of 28 ((#[.slice A3 l.length c3] : Array Value)); refine (H0.out.2.2.1 _ HM.out).mono ?_; rintro _ w1 ⟨rfl, hm1⟩; replace HM := Lib.hid (tr0 HM.out hm1); clear hm1))
    go_wp2_with fail
    go_ret
    exact ⟨rfl, HM.out⟩
  | true =>
  cases hrb : rightLB b with
  | false =>
    have hzf : z = false := by rw [H0.out.2.2.2.1]; exact flowsOB_no fun h => by have := rightLB_iff.2 h.rb; rw [hrb] at this; cases this
    subst hzf
    repeat (go_wp2_with fail; first | (go_at_call_of 45 ((#[.slice A a.length c] : Array Value)); refine (H0.out.1 _ HM.out).mono ?_; rintro _ w1 ⟨rfl, hm1⟩; replace HM := Lib.hid (tr0 HM.out hm1); clear hm1) | (go_at_call_of 45 ((#[.slice A2 b.length c2] : Array Value)); refine (H0.out.2.1 _ HM.out).mono ?_; rintro _ w1 ⟨rfl, hm1⟩; replace HM := Lib.hid (tr0 HM.out hm1); clear hm1) | (go_at_call_of 28 ((#[.slice A3 l.length c3] : Array Value)); refine (H0.out.2.2.1 _ HM.out).mono ?_; rintro _ w1 ⟨rfl, hm1⟩; replace HM := Lib.hid (tr0 HM.out hm1); clear hm1))
    go_wp2_with fail
    go_ret
    exact ⟨rfl, HM.out⟩
  | true =>
  cases hrl : rightO l with
  | false =>
    have hzf : z = false := by rw [H0.out.2.2.2.1]; exact flowsOB_no fun h => by have := rightO_iff.2 h.rl; rw [hrl] at this; cases this
    subst hzf
    repeat (go_wp2_with fail; first | (go_at_call_of 45 ((#[.slice A a.length c] : Array Value)); refine (H0.out.1 _ HM.out).mono ?_; rintro _ w1 ⟨rfl, hm1⟩; replace HM := Lib.hid (tr0 HM.out hm1); clear hm1) | (go_at_call_of 45 ((#[.slice A2 b.length c2] : Array Value)); refine (H0.out.2.1 _ HM.out).mono ?_; rintro _ w1 ⟨rfl, hm1⟩; replace HM := Lib.hid (tr0 HM.out hm1); clear hm1) | (go_at_call_of 28 ((#[.slice A3 l.length c3] : Array Value)); refine (H0.out.2.2.1 _ HM.out).mono ?_; rintro _ w1 ⟨rfl, hm1⟩; replace HM := Lib.hid (tr0 HM.out hm1); clear hm1))
    go_wp2_with fail
    go_ret
    exact ⟨rfl, HM.out⟩
  | true =>
    repeat (go_wp2_with fail; first | (go_at_call_of 45 ((#[.slice A a.length c] : Array Value)); refine (H0.out.1 _ HM.out).mono ?_; rintro _ w1 ⟨rfl, hm1⟩; replace HM := Lib.hid (tr0 HM.out hm1); clear hm1) | (go_at_call_of 45 ((#[.slice A2 b.length c2] : Array Value)); refine (H0.out.2.1 _ HM.out).mono ?_; rintro _ w1 ⟨rfl, hm1⟩; replace HM := Lib.hid (tr0 HM.out hm1); clear hm1) | (go_at_call_of 28 ((#[.slice A3 l.length c3] : Array Value)); refine (H0.out.2.2.1 _ HM.out).mono ?_; rintro _ w1 ⟨rfl, hm1⟩; replace HM := Lib.hid (tr0 HM.out hm1); clear hm1))
    go_wp2_with fail
    have HR := Lib.hid (And.intro (rightLB_iff.1 hra) (And.intro (rightLB_iff.1 hrb) (rightO_iff.1 hrl))); clear hra hrb hrl
    have ha8 := HR.out.1.len
    have hb8 := HR.out.2.1.len
    have hl8 := HR.out.2.2.len
    obtain ⟨w0, hw0⟩ : ∃ w0, w0 = w1 := ⟨_, rfl⟩
    rw [← hw0] at HM ⊢
    clear hw0
    have hlo := lifted_any A a.length c A3 l.length c3 a l 0 _ _ w0 (H0.out.2.2.2.2.1 w0 HM.out) (H0.out.2.2.2.2.2.2 w0 HM.out) (by omega) (by omega) (by decide)
    obtain ⟨lo, hloe⟩ : ∃ lo, lo = liftL a l 0 := ⟨_, rfl⟩
    obtain ⟨hg, hhge⟩ : ∃ hg, hg = liftL b l 3 := ⟨_, rfl⟩
    have hl16 : lo.length ≤ 16 := by rw [hloe]; have := liftL_len a l 0; omega
    have hh16 : hg.length ≤ 16 := by rw [hhge]; have := liftL_len b l 3; omega
    have hzz : z = true ↔ ∀ e ∈ lo ++ hg, levelL lo (nm e) ≤ levelL hg (nm e) := by
      rw [H0.out.2.2.2.1, flowsOB_iff, hloe, hhge]; exact flowsO_code HR.out.1 HR.out.2.1 HR.out.2.2
    rw [← hloe] at hlo
    have H1 := Lib.hid (And.intro hlo (And.intro hhge hzz)); clear hlo hloe hhge hzz
    refine H1.out.1.mono ?_
    rintro r w2 ⟨A4, c4, rfl, ho4, hm4⟩
    have hm04 := tr0 HM.out hm4
    have hhi := lifted_any A2 b.length c2 A3 l.length c3 b l 3 _ _ w2 (H0.out.2.2.2.2.2.1 w2 hm04) (H0.out.2.2.2.2.2.2 w2 hm04) (by omega) (by omega) (by decide)
    rw [← H1.out.2.1] at hhi
    have H2 := Lib.hid (And.intro hm04 (And.intro (ho4.reads (bytes := 24) (by omega)) hhi)); clear ho4 hm4 hm04 hhi
    go_wp2_with fail
    refine H2.out.2.2.mono ?_
    rintro r w3 ⟨A5, c5, rfl, ho5, hm5⟩
    have hm05 := tr0 H2.out.1 hm5
    have r4 := Rd.mod H2.out.2.1 hm5 (fun _ _ => id)
    have r5 := ho5.reads (bytes := 24) (by omega)
    have H3 := Lib.hid (And.intro hm05 (And.intro r4 r5)); clear hm05 hm5 ho5 r4 r5
    go_wp2_with fail
    obtain ⟨W1, hW1⟩ : ∃ W1, W1 = w3.alloc (.cells #[.slice A4 lo.length c4, .slice A5 hg.length c5] 23) := ⟨_, rfl⟩
    rw [← hW1]
    have hmW : Mod (fun _ => False) w3 W1 := by rw [hW1]; exact (Mod.refl _ _).alloc _
    obtain ⟨k0, k1⟩ := cells2 w3 (.slice A4 lo.length c4) (.slice A5 hg.length c5) 23
    rw [← hW1] at k0 k1
    obtain ⟨g, hgg⟩ : ∃ g, g = w3.heap.size := ⟨_, rfl⟩
    rw [← hgg] at k0 k1 ⊢
    have hcc := concatE_any A4 lo.length c4 A5 hg.length c5 lo hg _ _ g W1 (Rd.mod H3.out.2.1 hmW (fun _ _ => id)) (Rd.mod H3.out.2.2 hmW (fun _ _ => id)) (by omega) (by omega) k0 k1
    have H4 := Lib.hid (And.intro hmW hcc); clear hmW hcc k0 k1 hW1 hgg
    go_wp2_with fail
    refine H4.out.2.mono ?_
    rintro r w4 ⟨A6, c6, rfl, ho6, hm6⟩
    have hm34 := tr0 H4.out.1 hm6
    obtain ⟨x, hx⟩ : ∃ x, x = lo ++ hg := ⟨_, rfl⟩
    have hxl : lo.length + hg.length = x.length := by rw [hx, List.length_append]
    have hzz := H1.out.2.2
    rw [← hx] at ho6 hzz
    rw [hxl] at ho6 ⊢
    have hrow := (lab_row (ho6.reads (bytes := 24) (by omega))).2.2.2.2.2
    have QLO := fun W (hW : Mod (fun _ => False) w4 W) s => level_any A4 lo.length c4 lo s _ W (Rd.mod H3.out.2.1 (tr0 hm34 hW) (fun _ _ => id))
    have QHI := fun W (hW : Mod (fun _ => False) w4 W) s => level_any A5 hg.length c5 hg s _ W (Rd.mod H3.out.2.2 (tr0 hm34 hW) (fun _ _ => id))
    have H5 := Lib.hid (And.intro (tr0 H3.out.1 hm34) (And.intro hrow (And.intro QLO (And.intro QHI hzz)))); clear ho6 hm6 hm34 hrow QLO QHI hzz hx
    go_wp2_with fail
    go_loopg [35] x.length (fun f si wr => ∃ i : Nat, si = .int .i64 i ∧ i + f = x.length ∧ (∀ e ∈ x.take i, levelL lo (nm e) ≤ levelL hg (nm e)) ∧ Mod (fun _ => False) w4 wr)
    case atStart => exact ⟨0, rfl, by omega, by simp, .refl _ _⟩
    case round =>
      obtain ⟨i, rfl, hi, hall, hmod⟩ := hrel
      by_cases hlt : i < x.length
      · obtain ⟨d, m, hx⟩ : ∃ d m, x[i]? = some (ent d m) := by
          obtain ⟨d, m, e⟩ := ent_cases x[i]
          exact ⟨d, m, by rw [← e]; simp [hlt]⟩
        obtain ⟨ad, rfl, -, hc0, hc1, hdl, -⟩ := row_ent (H5.out.2.1.step (w1 := wr) (ok1 := fun _ => True) (fun k hk hl => ⟨trivial, hmod.block k hl (fun h => h)⟩)) hx
        obtain ⟨p, hp⟩ : ∃ p, p = levelL lo d := ⟨_, rfl⟩
        obtain ⟨q, hq⟩ : ∃ q, q = levelL hg d := ⟨_, rfl⟩
        have q1 := fun W hW => H5.out.2.2.1 W hW d
        have q2 := fun W hW => H5.out.2.2.2.1 W hW d
        simp only [← hp] at q1
        simp only [← hq] at q2
        have hpq1 : p ≤ q → ∀ e ∈ x.take (i + 1), levelL lo (nm e) ≤ levelL hg (nm e) := fun h e he => by
          rw [List.take_add_one, hx, List.mem_append] at he
          rcases he with he | he
          · exact hall e he
          · simp at he
            rw [he, nm_ent, ← hp, ← hq]; exact h
        have hpq2 : ¬ p ≤ q → z = false := fun h => by
          rw [Bool.eq_false_iff]
          intro e
          have := H5.out.2.2.2.2.1 e (ent d m) (List.mem_of_getElem? hx)
          rw [nm_ent, ← hp, ← hq] at this
          exact h this
        have HX := Lib.hid (And.intro hi (And.intro hmod (And.intro q1 (And.intro q2 (And.intro hpq1 hpq2))))); clear hi hall hmod q1 q2 hpq1 hpq2 hp hq hx
        go_wp2_with fail
        obtain ⟨W1, hW1⟩ : ∃ W1, W1 = wr.alloc (.cells #[.string ⟨d.toArray⟩, .int .i64 m] 63) := ⟨_, rfl⟩
        rw [← hW1]
        have hmW : Mod (fun _ => False) w4 W1 := by rw [hW1]; exact HX.out.2.1.alloc _
        obtain ⟨k0, k1⟩ := cells2 wr (.string ⟨d.toArray⟩) (.int .i64 m) 63
        rw [← hW1] at k0 k1
        obtain ⟨g, hg'⟩ : ∃ g, g = wr.heap.size := ⟨_, rfl⟩
        rw [← hg'] at k0 k1 ⊢
        have c0 : ∀ W : ModW W1, W.1.cell? ⟨g, 0, none⟩ = some (.string ⟨d.toArray⟩) := fun W => ModW.cell k0 W
        have HE := Lib.hid hmW
        clear hW1 hg' hmW hc0 hc1 k0 k1
        refine wp_region_mod (by kernel_rfl) (by kernel_rfl) ?_
        refine wpQuiet_hide (fun R hR => ?_)
        iterate 9 ((first | refine wpQuiet_none hR rfl (fun K hK => ?_) | refine wpQuiet_take hR (by rfl) (fun K hK => ?_)); clear hR R; go_simp; first | (refine hK _ (fun R hR => ?_); clear hK K) | (apply Exists.intro; refine ⟨fun _ => ?_, hK _ (fun R hR => ?_)⟩; (first | (go_at_call_of 46 ((#[.slice A4 lo.length c4, .string ⟨d.toArray⟩] : Array Value)); refine quiet_mod (HX.out.2.2.1 _ (HE.out.trans (Subtype.property _) (fun _ h => h.elim)))) | (go_at_call_of 46 ((#[.slice A5 hg.length c5, .string ⟨d.toArray⟩] : Array Value)); refine quiet_mod (HX.out.2.2.2.1 _ (HE.out.trans (Subtype.property _) (fun _ h => h.elim))))); clear hK K))
        refine wpQuiet_end hR ?_
        clear hR R
        rintro _ ⟨W, rfl⟩
        clear c0
        obtain ⟨w5, hw5⟩ : ∃ w5, w5 = W.1 := ⟨_, rfl⟩
        have hm5 : Mod (fun _ => False) w4 w5 := by rw [hw5]; exact tr0 HE.out W.2
        rw [← hw5]
        clear hw5 W
        have H6 := Lib.hid hm5; clear hm5
        by_cases hpq : p ≤ q
        · have hn : ¬ q < p := by omega
          have HN := Lib.hid (HX.out.2.2.2.2.1 hpq); clear hpq
          go_wp2_with fail
          go_roundg (gk - 1)
          case measure => have := HX.out.1; omega
          case rel => exact ⟨i + 1, by go_num, by have := HX.out.1; omega, HN.out, H6.out⟩
        · have hzf := HX.out.2.2.2.2.2 (by omega)
          subst hzf
          have hn : q < p := by omega
          clear hpq
          go_wp2_with fail
          go_ret
          exact ⟨rfl, tr0 H5.out.1 H6.out⟩
      · have hie : x.take i = x := List.take_of_length_le (by omega)
        rw [hie] at hall
        have hzf := H5.out.2.2.2.2.2 hall
        subst hzf
        have HX := Lib.hid hmod; clear hmod hie hi hall
        go_wp2_with fail
        go_ret
        exact ⟨rfl, tr0 H5.out.1 HX.out⟩
set_option maxRecDepth 100000 in
theorem seesO_any (A : Option Addr) (n c : Nat) (A2 : Option Addr) (n2 c2 : Nat) (A3 : Option Addr) (n3 c3 : Nat) (a b : List Entry) (l : List Nm) (ok ok2 ok3 : Nat → Prop) (w : World) (h : labR.rel w ok [.slice A n c] a) (h2 : labR.rel w ok2 [.slice A2 n2 c2] b) (h3 : nmsR.rel w ok3 [.slice A3 n3 c3] l) (E : Env w) :
    Calls Tryz.prog 15 #[.slice A n c, .slice A2 n2 c2, .slice A3 n3 c3] w fun r w' => r = .returned (.bool (flowsOB a b l)) ∧ Mod (fun _ => False) w w' := by
  have H0 := Lib.hid (flowsO_any A n c A2 n2 c2 A3 n3 c3 a b l ok ok2 ok3 w h h2 h3 E); clear h h2 h3 E
  go_enter Tryz.func15, Tryz.ntmps15
  go_wp2_with fail
  refine H0.out.mono ?_
  rintro r w1 ⟨rfl, hm⟩
  have H := Lib.hid hm; clear hm
  go_wp2_with fail
  go_ret
  exact ⟨rfl, H.out⟩
set_option maxRecDepth 100000 in
theorem altersO_any (A : Option Addr) (n c : Nat) (A2 : Option Addr) (n2 c2 : Nat) (A3 : Option Addr) (n3 c3 : Nat) (a b : List Entry) (l : List Nm) (ok ok2 ok3 : Nat → Prop) (w : World) (h : labR.rel w ok [.slice A n c] a) (h2 : labR.rel w ok2 [.slice A2 n2 c2] b) (h3 : nmsR.rel w ok3 [.slice A3 n3 c3] l) (E : Env w) :
    Calls Tryz.prog 16 #[.slice A n c, .slice A2 n2 c2, .slice A3 n3 c3] w fun r w' => r = .returned (.bool (altersOB a b l)) ∧ Mod (fun _ => False) w w' := by
  have q1 := flowsO_any A n c A2 n2 c2 A3 n3 c3 a b l ok ok2 ok3 w h h2 h3 E
  have q2 := fun W (hW : Mod (fun _ => False) w W) => flowsO_any A2 n2 c2 A n c A3 n3 c3 b a l ok2 ok ok3 W (Rd.mod h2 hW (fun _ _ => id)) (Rd.mod h hW (fun _ _ => id)) (Rd.mod h3 hW (fun _ _ => id)) (E.mod0 hW)
  unfold altersOB
  obtain ⟨p, hp⟩ : ∃ p, p = flowsOB a b l := ⟨_, rfl⟩
  obtain ⟨q, hq⟩ : ∃ q, q = flowsOB b a l := ⟨_, rfl⟩
  rw [← hp] at q1 ⊢
  rw [← hq] at q2 ⊢
  have H0 := Lib.hid (And.intro q1 q2); clear h h2 h3 E q1 q2 hp hq
  go_enter Tryz.func16, Tryz.ntmps16
  go_wp2_with fail
  refine H0.out.1.mono ?_
  rintro r w1 ⟨rfl, hm⟩
  have H := Lib.hid hm; clear hm
  cases p with
  | false =>
    go_wp2_with fail
    go_ret
    exact ⟨rfl, H.out⟩
  | true =>
    go_wp2_with fail
    refine (H0.out.2 w1 H.out).mono ?_
    rintro r w2 ⟨rfl, hm⟩
    have H2 := Lib.hid (tr0 H.out hm); clear hm
    go_wp2_with fail
    go_ret
    exact ⟨by simp, H2.out⟩
end Go.Proofs.YthhepnaanjicjaaGreatDoor

/- Layer 7, the laws: first. -/
namespace Go.Proofs.YthhepnaanjicjaaGreatDoor
open Go.RowKit Go.Shelf
set_option linter.unusedVariables false
theorem labR_nil (w : World) (ok : Nat → Prop) : labR.rel w ok [.slice none 0 0] [] := ⟨none, 0, rfl, Nat.le_refl _, by decide, by simp, fun _ => rfl, .inl rfl⟩
theorem nilO : RightO [] := ⟨by simp, by simp, List.Pairwise.nil⟩
theorem oneO : RightO [c1] := right_one_nm rightC1
theorem addF7 : addO [] c1 = ([c1], 0) := by
  have hs : sortS [c1] = [c1] := sortS_fix.2 ⟨oneO.each, oneO.asc⟩
  unfold addO unionO
  rw [if_pos (rightO_iff.2 nilO), if_pos rightC1, if_pos ⟨rightO_iff.2 nilO, rightO_iff.2 oneO⟩, List.nil_append, hs]
  rfl
theorem dropF7 : dropO [c1] c1 = ([], 0) := by
  unfold dropO
  rw [if_pos (rightO_iff.2 oneO), if_pos rightC1, if_pos (by simp)]
  simp
theorem dropG7 : dropO [] c1 = ([], 36) := by
  unfold dropO
  rw [if_pos (rightO_iff.2 nilO), if_pos rightC1, if_neg (by simp)]
theorem nilL : RightL [] := ⟨by simp, by simp, by simp⟩
theorem level_la (c : Nm) : levelL la c = if c1 = c then 3 else 1 := level1 3 c
theorem fo1 : flowsOB la [] [c1] = true := flowsOB_iff.2 ⟨laR, nilL, oneO, fun c hc => by
  rw [level_la, if_neg (fun e => hc (by simp [e])), levelL_nil]; decide⟩
theorem fo2 : flowsOB la [] [] = false := flowsOB_no fun h => by
  have := h.le c1 (by simp)
  rw [level_la, if_pos rfl, levelL_nil] at this
  omega
theorem fo3 : flowsOB [] la [] = true := flowsOB_iff.2 ⟨nilL, laR, nilO, fun c hc => by
  rw [level_la, levelL_nil]; split <;> decide⟩
theorem fo4 : flowsOB [] la [c1] = true := flowsOB_iff.2 ⟨nilL, laR, oneO, fun c hc => by
  rw [level_la, levelL_nil]; split <;> decide⟩
theorem al1 : altersOB la [] [c1] = true := by unfold altersOB; rw [fo1, fo4]; rfl
theorem al2 : altersOB [] la [] = false := by unfold altersOB; rw [fo3, fo2]; rfl
theorem wi1 : withinO [c1] [c1] = true := withinO_iff.2 ⟨oneO, oneO, fun _ h => h⟩
theorem ha1 : List.contains [c1] c1 = true := by simp
set_option maxRecDepth 100000 in
set_option maxHeartbeats 4000000 in
theorem first7_any (w : World) (E : Env w) : Calls Tryz.prog 11 #[] w fun r w' => r = .returned (.bool true) ∧ Mod (fun _ => False) w w' := by
  have E0 := Lib.hid E; clear E
  go_enter Tryz.func11, Tryz.ntmps11
  go_wp2_with (refine wpList_slice1_agg rfl 23 63 _ rfl Tryz.underlying23 zeroEnt.toArray [.string ⟨#[49, 47, 48]⟩, .int .i64 3] Tryz.info_ent2 (by decide) rfl rfl ?_)
  obtain ⟨Wa, hWa⟩ : ∃ Wa, Wa = w.alloc (.cells #[.string ⟨#[49, 47, 48]⟩, .int .i64 3] 63) := ⟨_, rfl⟩
  have RA : labR.rel Wa (fun k => k = w.heap.size) [.slice (some ⟨w.heap.size, 0, none⟩) 1 1] la := by rw [hWa]; exact lab_lit w la 1 rfl (by intro e he; simp [la] at he; subst he; rw [nm_ent, lev_ent]; exact ⟨by decide, inR_mk (by omega)⟩) (by decide) _
  have hma : Mod (fun _ => False) w Wa := by rw [hWa]; exact (Mod.refl _ _).alloc _
  rw [← hWa]
  obtain ⟨g, hg⟩ : ∃ g, g = w.heap.size := ⟨_, rfl⟩
  rw [← hg] at RA ⊢
  have hA := addO_any none 0 0 [] c1 (fun _ => False) Wa (nms_nil _ _) (by decide) (E0.out.mod0 hma)
  rw [addF7] at hA
  have H0 := Lib.hid (And.intro hma RA); clear hWa hg hma RA
  refine hA.mono ?_
  clear hA
  rintro r w1 ⟨A1, k1, rfl, ho1, hm1⟩
  have hr1 : nmsR.rel w1 _ [.slice A1 1 k1] [c1] := OwnN.reads (l := [c1]) ho1 (by decide) (by decide)
  have hD := dropO_any A1 1 k1 [c1] c1 _ w1 hr1 (by decide) (E0.out.mod0 (tr0 H0.out.1 hm1))
  rw [dropF7] at hD
  have H1 := Lib.hid (And.intro (tr0 H0.out.1 hm1) (And.intro hr1 (And.intro hm1 hD))); clear ho1 hm1 hr1 hD
  go_wp2_with fail
  refine H1.out.2.2.2.mono ?_
  rintro r w2 ⟨A2, k2, rfl, ho2, hm2⟩
  have hm02 := tr0 H1.out.1 hm2
  have hr2 : nmsR.rel w2 _ [.slice A2 0 k2] [] := OwnN.reads (l := []) ho2 (by simp) (by decide)
  have hG := dropO_any A2 0 k2 [] c1 _ w2 hr2 (by decide) (E0.out.mod0 hm02)
  rw [dropG7] at hG
  have H2 := Lib.hid (And.intro hm02 (And.intro hm2 hG)); clear ho2 hm2 hr2 hG hm02
  go_wp2_with fail
  refine H2.out.2.2.mono ?_
  rintro r w3 ⟨A3, k3, rfl, -, hm3⟩
  have hm03 := tr0 H2.out.1 hm3
  have hm13 := tr0 H2.out.2.1 hm3
  have hma3 := tr0 H1.out.2.2.1 hm13
  have EB := fun W (hW : Mod (fun _ => False) w3 W) => E0.out.mod0 (tr0 hm03 hW)
  have RAB := fun W (hW : Mod (fun _ => False) w3 W) => Rd.mod H0.out.2 (tr0 hma3 hW) (fun _ _ => id)
  have RLB := fun W (hW : Mod (fun _ => False) w3 W) => Rd.mod H1.out.2.1 (tr0 hm13 hW) (fun _ _ => id)
  have HF := Lib.hid hm03
  have HB := Lib.hid (And.intro EB (And.intro RAB RLB)); clear EB RAB RLB hm03 hm13 hma3 hm3
  have HM := Lib.hid (Mod.refl (fun _ => False) w3)
  repeat (go_wp2_with fail; first | (go_at_call_of 13 ((#[.slice (some ⟨g, 0, none⟩) 1 1, .slice none 0 0, .slice A1 1 k1] : Array Value)); have hc := flowsO_any _ _ _ _ _ _ _ _ _ _ _ _ _ _ _ _ (HB.out.2.1 _ HM.out) (labR_nil _ (fun _ => False)) (HB.out.2.2 _ HM.out) (HB.out.1 _ HM.out); rw [fo1] at hc; refine hc.mono ?_; clear hc; rintro _ w1 ⟨rfl, hm1⟩; replace HM := Lib.hid (tr0 HM.out hm1); clear hm1) | (go_at_call_of 13 ((#[.slice (some ⟨g, 0, none⟩) 1 1, .slice none 0 0, .slice none 0 0] : Array Value)); have hc := flowsO_any _ _ _ _ _ _ _ _ _ _ _ _ _ _ _ _ (HB.out.2.1 _ HM.out) (labR_nil _ (fun _ => False)) (nms_nil _ (fun _ => False)) (HB.out.1 _ HM.out); rw [fo2] at hc; refine hc.mono ?_; clear hc; rintro _ w1 ⟨rfl, hm1⟩; replace HM := Lib.hid (tr0 HM.out hm1); clear hm1) | (go_at_call_of 15 ((#[.slice (some ⟨g, 0, none⟩) 1 1, .slice none 0 0, .slice A1 1 k1] : Array Value)); have hc := seesO_any _ _ _ _ _ _ _ _ _ _ _ _ _ _ _ _ (HB.out.2.1 _ HM.out) (labR_nil _ (fun _ => False)) (HB.out.2.2 _ HM.out) (HB.out.1 _ HM.out); rw [fo1] at hc; refine hc.mono ?_; clear hc; rintro _ w1 ⟨rfl, hm1⟩; replace HM := Lib.hid (tr0 HM.out hm1); clear hm1) | (go_at_call_of 16 ((#[.slice (some ⟨g, 0, none⟩) 1 1, .slice none 0 0, .slice A1 1 k1] : Array Value)); have hc := altersO_any _ _ _ _ _ _ _ _ _ _ _ _ _ _ _ _ (HB.out.2.1 _ HM.out) (labR_nil _ (fun _ => False)) (HB.out.2.2 _ HM.out) (HB.out.1 _ HM.out); rw [al1] at hc; refine hc.mono ?_; clear hc; rintro _ w1 ⟨rfl, hm1⟩; replace HM := Lib.hid (tr0 HM.out hm1); clear hm1) | (go_at_call_of 16 ((#[.slice none 0 0, .slice (some ⟨g, 0, none⟩) 1 1, .slice none 0 0] : Array Value)); have hc := altersO_any _ _ _ _ _ _ _ _ _ _ _ _ _ _ _ _ (labR_nil _ (fun _ => False)) (HB.out.2.1 _ HM.out) (nms_nil _ (fun _ => False)) (HB.out.1 _ HM.out); rw [al2] at hc; refine hc.mono ?_; clear hc; rintro _ w1 ⟨rfl, hm1⟩; replace HM := Lib.hid (tr0 HM.out hm1); clear hm1) | (go_at_call_of 15 ((#[.slice none 0 0, .slice (some ⟨g, 0, none⟩) 1 1, .slice none 0 0] : Array Value)); have hc := seesO_any _ _ _ _ _ _ _ _ _ _ _ _ _ _ _ _ (labR_nil _ (fun _ => False)) (HB.out.2.1 _ HM.out) (nms_nil _ (fun _ => False)) (HB.out.1 _ HM.out); rw [fo3] at hc; refine hc.mono ?_; clear hc; rintro _ w1 ⟨rfl, hm1⟩; replace HM := Lib.hid (tr0 HM.out hm1); clear hm1) | (go_at_call 21; have hc := withinO_any _ _ _ _ _ _ _ _ _ _ _ (HB.out.2.2 _ HM.out) (HB.out.2.2 _ HM.out) (HB.out.1 _ HM.out); rw [wi1] at hc; refine hc.mono ?_; clear hc; rintro _ w1 ⟨rfl, hm1⟩; replace HM := Lib.hid (tr0 HM.out hm1); clear hm1) | (go_at_call 20; have hc := hasO_any _ _ _ _ c1 _ _ (HB.out.2.2 _ HM.out); rw [ha1] at hc; refine hc.mono ?_; clear hc; rintro _ w1 ⟨rfl, hm1⟩; replace HM := Lib.hid (tr0 HM.out hm1); clear hm1))
  go_wp2_with fail
  go_ret
  exact ⟨rfl, tr0 HF.out HM.out⟩
end Go.Proofs.YthhepnaanjicjaaGreatDoor
