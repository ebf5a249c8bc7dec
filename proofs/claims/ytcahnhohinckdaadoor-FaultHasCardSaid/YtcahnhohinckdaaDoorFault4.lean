/- Layer 1, fault: the document's Kept and Has. -/
import Derived.Test.YtcahnhohinckdaaDoorFault3
namespace Go.Proofs.YtcahnhohinckdaaDoor
open Go.RowKit
set_option linter.unusedVariables false
def zeroLink : List Value := [.string ⟨#[]⟩, .int .i64 0]
theorem Tryd.info_link2 : (Tryd.prog.info? 28).map (fun i => (i.zero, i.size)) = some (some (.agg zeroLink.toArray), 2) := by kernel_rfl
theorem Tryd.info_link3 : (Tryd.prog.info? 28).map (fun i => (i.zero, i.size, i.bytes)) = some (some (.agg zeroLink.toArray), 2, 24) := by kernel_rfl
theorem Tryd.info_link1 : (Tryd.prog.info? 28).map (·.size) = some 2 := by kernel_rfl
theorem OwnR.ltL {e : TypeId} {w : World} {base : Nat} {S : Nat → Prop} {v : Value} {xs : List Link} (h : OwnR LinkR e w base S v xs) (k : Nat) (hk : v.ownBlock = some k) : base ≤ k ∧ k < w.heap.size := by
  obtain ⟨cells, h1, _⟩ := h
  exact h1.lt k hk
theorem ownL_slice {e : TypeId} {w : World} {base : Nat} {S : Nat → Prop} {v : Value} {xs : List Link} (h : OwnR LinkR e w base S v xs) : ∃ A c, v = .slice A xs.length c := by
  obtain ⟨cells, h1, _⟩ := h
  exact own_slice h1
theorem kept_take {l : List Link} {i : Nat} {x : Link} (hx : l[i]? = some x) : keptL (l.take (i + 1)) = keptL (l.take i) ++ if x.code = 0 then [] else [x] := by
  unfold keptL
  rw [List.take_add_one, hx, List.filter_append]
  by_cases h : x.code = 0 <;> simp [h]
set_option maxRecDepth 100000 in
set_option maxHeartbeats 1000000 in
theorem kept_any (A : Option Addr) (n c : Nat) (l : List Link) (ok : Nat → Prop) (w : World) (h : linksR.rel w ok [.slice A n c] l) (hl : l.length ≤ 1000000) :
    Calls Tryd.prog 10 #[.slice A n c] w fun e w' => ∃ A' c', e = .returned (.slice A' (keptL l).length c') ∧ linksR.rel w' (fun _ => True) [.slice A' (keptL l).length c'] (keptL l) ∧ Mod (fun _ => False) w w' := by
  obtain ⟨rfl, hcap, hrow, -⟩ := link_row h
  have HR := Lib.hid hrow; clear h hrow
  go_enter Tryd.func10, Tryd.ntmps10
  go_wp2_with fail
  go_loopg [3, 8] l.length (fun f sv si wr => ∃ (i : Nat), si = .int .i64 i ∧ i + f = l.length ∧ OwnR LinkR 28 wr w.heap.size (fun k => ok k ∧ k < w.heap.size) sv (keptL (l.take i)) ∧ Mod (fun _ => False) w wr)
  case atStart => exact ⟨0, rfl, by omega, OwnR.nil _ _ _ _ _, .refl _ _⟩
  case round =>
    obtain ⟨i, rfl, hi, ho, hmod⟩ := hrel
    by_cases hlt : i < l.length
    · obtain ⟨x, hx⟩ : ∃ x, l[i]? = some x := ⟨_, List.getElem?_eq_getElem hlt⟩
      obtain ⟨ad, cs, rfl, hok, hr, hc⟩ := (HR.out.step (w1 := wr) (ok1 := fun k => ok k ∧ k < w.heap.size) fun k hk hl => ⟨hk, hmod.block k hl id⟩).at_ hx
      have hce := LinkR_cells hr
      have hkt := kept_take hx
      have HX := Lib.hid (And.intro hi (And.intro ho (And.intro hmod (And.intro hr (And.intro hc (And.intro hce hkt))))))
      clear hi ho hmod hx hok hr hc hce hkt
      go_wp2_with (refine wpList_copy_var (n := 2) rfl rfl rfl 28 _ _ _ rfl rfl rfl Tryd.underlying28 zeroLink Tryd.info_link2 rfl (ad.add (i * 2)) rfl cs (LinkR.len HX.out.2.2.2.1) (LinkR.one HX.out.2.2.2.1) (fun j u hj => by rw [add_add]; exact HX.out.2.2.2.2.1 j u hj) (fun _ _ => rfl) (fun _ _ => rfl) ?_)
      intro g w1 hgs hgb hm1
      have c1 : w1.cell? ⟨g, 1, none⟩ = some (.int .i64 x.code) := by rw [cell_of_blk hgb, HX.out.2.2.2.2.2.1]; rfl
      obtain ⟨co, hco⟩ : ∃ co, co = x.code := ⟨_, rfl⟩
      rw [← hco] at c1
      have ho1 := HX.out.2.1.mod (hm1 fun _ => False) (fun _ _ => id) (fun _ _ _ => id)
      have hr1 := Rd.mod HX.out.2.2.2.1 (hm1 fun _ => False) (fun _ _ => id)
      have hm2 := HX.out.2.2.1.trans (hm1 fun _ => False) (fun _ h => h.elim)
      have hs1 := hm2.size
      have HG := Lib.hid (And.intro hgb (And.intro ho1 (And.intro hr1 (And.intro hm2 hco)))); clear hgs hgb hm1 ho1 hr1 hm2 hco
      by_cases hz : co = 0
      · subst hz
        go_wp2_with fail
        go_roundg (gk - 1)
        case measure => have := HX.out.1; omega
        case rel =>
          refine ⟨i + 1, by go_num, by have := HX.out.1; omega, ?_, HG.out.2.2.2.1⟩
          rw [HX.out.2.2.2.2.2.2, if_pos HG.out.2.2.2.2.symm, List.append_nil]
          exact HG.out.2.1
      · have hd : (co != 0) = true := by simpa using hz
        have hd2 : (co == 0) = false := by simpa using hz
        have HZ := Lib.hid hz; clear hz
        go_wp2_with (first
          | (refine wpList_load_agg rfl 28 _ rfl Tryd.underlying28 Tryd.info_link1 ⟨g, 0, none⟩ rfl cs (LinkR.len HG.out.2.2.1) (fun j u hj => by rw [agg_at, cell_of_blk HG.out.1]; simpa using hj) ?_)
          | (refine wpList_slice1_agg rfl 22 28 _ rfl Tryd.underlying22 zeroLink.toArray cs (by rw [LinkR.len HG.out.2.2.1]; exact Tryd.info_link2) (by rw [LinkR.len HG.out.2.2.1]; decide) (by rw [LinkR.len HG.out.2.2.1]; rfl) rfl ?_)
          | (at_builtin; refine append_rd (R := LinkR) w.heap.size rfl _ _ 22 28 (.agg zeroLink.toArray) 24 rfl Tryd.underlying22 Tryd.info_link3 rfl (by decide) u3 (keptL (l.take i)) x cs (fun k => ok k ∧ k < w.heap.size) rfl rfl HG.out.2.1 ?hy ?hb ?hl2 ?_))
        case hy => exact Rd.mono HG.out.2.2.1 (fun k hk => ⟨hk, fun e => by have := hk.2; have := (OwnR.ltL HG.out.2.1 k e.symm).1; omega⟩)
        case hb => exact hs1
        case hl2 =>
          have h1 : (keptL (l.take i)).length ≤ (l.take i).length := List.length_filter_le _ _
          have := List.length_take_le i l
          omega
        intro A' c' w3 hO3 hm3 hn3
        have HF := Lib.hid (And.intro hO3 hm3); clear hO3 hm3 hn3
        go_wp2_with fail
        go_roundg (gk - 1)
        case measure => have := HX.out.1; omega
        case rel =>
          refine ⟨i + 1, by go_num, by have := HX.out.1; omega, ?_, HG.out.2.2.2.1.trans HF.out.2 (fun k hk => .inr (OwnR.ltL HG.out.2.1 k hk).1)⟩
          rw [HX.out.2.2.2.2.2.2, if_neg (by rw [← HG.out.2.2.2.2]; exact HZ.out)]
          exact HF.out.1
    · have hie : l.take i = l := List.take_of_length_le (by omega)
      rw [hie] at ho
      obtain ⟨A', c', rfl⟩ := ownL_slice ho
      have HX := Lib.hid (And.intro ho hmod); clear ho hmod hi hie
      go_wp2_with fail
      go_ret
      have h1 : (keptL l).length ≤ l.length := List.length_filter_le _ _
      exact ⟨A', c', rfl, Rd.mono (HX.out.1.reads (bytes := 24) (by omega)) (fun _ _ => trivial), HX.out.2⟩
set_option maxRecDepth 100000 in
set_option maxHeartbeats 1000000 in
theorem refhas_any (A : Option Addr) (n c : Nat) (l : List Link) (last e : Int) (ok : Nat → Prop) (w : World) (h : linksR.rel w ok [.slice A n c] l) :
    Calls Tryd.prog 9 #[.slice A n c, .int .i64 last, .int .i64 e] w fun r w' => r = .returned (.bool (hasS l last e)) ∧ Mod (fun _ => False) w w' := by
  obtain ⟨rfl, hcap, hrow, hb⟩ := link_row h
  have HR := Lib.hid hrow; clear h hrow
  by_cases he : e = 0
  · subst he
    by_cases hl : l.length = 0
    · obtain rfl := List.eq_nil_of_length_eq_zero hl
      have HS : Hid (hasS [] last 0 = (last == 0)) := by show hasS [] last 0 = (last == 0); unfold hasS; simp
      go_enter Tryd.func9, Tryd.ntmps9
      go_wp2_with fail
      go_ret
      exact ⟨by rw [HS.out]; rfl, .refl _ _⟩
    · have hd : ((l.length : Int) == 0) = false := by simp; intro h; exact hl (by simp [h])
      have HS : Hid (hasS l last 0 = false) := by
        show hasS l last 0 = false
        unfold hasS
        cases l with
        | nil => simp at hl
        | cons k l => simp
      clear hl
      go_enter Tryd.func9, Tryd.ntmps9
      go_wp2_with fail
      go_ret
      exact ⟨by rw [HS.out]; rfl, .refl _ _⟩
  · have hd : (e == 0) = false := by simpa using he
    have HS : Hid (hasS l last e = hasB l last e) := by show hasS l last e = hasB l last e; unfold hasS; rw [if_neg he]
    clear he
    go_enter Tryd.func9, Tryd.ntmps9
    go_wp2_with fail
    go_loopg [20] l.length (fun f si wr => ∃ (i : Nat), si = .int .i64 i ∧ i + f = l.length ∧ (l.take i).any (fun k => k.code == e) = false ∧ Mod (fun _ => False) w wr)
    case atStart => exact ⟨0, rfl, by omega, rfl, .refl _ _⟩
    case round =>
      obtain ⟨i, rfl, hi, hno, hmod⟩ := hrel
      by_cases hlt : i < l.length
      · obtain ⟨x, hx⟩ : ∃ x, l[i]? = some x := ⟨_, List.getElem?_eq_getElem hlt⟩
        obtain ⟨ad, cs, rfl, hok, hr, hc⟩ := (HR.out.step (w1 := wr) (ok1 := fun k => ok k ∧ k < w.heap.size) fun k hk hl => ⟨hk, hmod.block k hl id⟩).at_ hx
        have hce := LinkR_cells hr
        have HX := Lib.hid (And.intro hi (And.intro hno (And.intro hmod (And.intro hr (And.intro hc (And.intro hce hx))))))
        clear hi hno hmod hx hok hr hc hce
        go_wp2_with (refine wpList_copy_var (n := 2) rfl rfl rfl 28 _ _ _ rfl rfl rfl Tryd.underlying28 zeroLink Tryd.info_link2 rfl (ad.add (i * 2)) rfl cs (LinkR.len HX.out.2.2.2.1) (LinkR.one HX.out.2.2.2.1) (fun j u hj => by rw [add_add]; exact HX.out.2.2.2.2.1 j u hj) (fun _ _ => rfl) (fun _ _ => rfl) ?_)
        intro g w1 hgs hgb hm1
        have c1 : w1.cell? ⟨g, 1, none⟩ = some (.int .i64 x.code) := by rw [cell_of_blk hgb, HX.out.2.2.2.2.2.1]; rfl
        obtain ⟨co, hco⟩ : ∃ co, co = x.code := ⟨_, rfl⟩
        rw [← hco] at c1
        have HG := Lib.hid (And.intro (HX.out.2.2.1.trans (hm1 fun _ => False) (fun _ h => h.elim)) hco); clear hgs hgb hm1 hco
        by_cases hz : co = e
        · have hd1 : (co == e) = true := by simpa using hz
          have HT : Hid (hasB l last e = true) := by
            show hasB l last e = true
            unfold hasB
            rw [List.any_eq_true.2 ⟨x, List.mem_of_getElem? HX.out.2.2.2.2.2.2, by rw [← HG.out.2]; exact hd1⟩]; rfl
          clear hz
          go_wp2_with fail
          go_ret
          exact ⟨by rw [HS.out, HT.out]; rfl, HG.out.1⟩
        · have hd1 : (co == e) = false := by simpa using hz
          have HT : Hid ((l.take (i + 1)).any (fun k => k.code == e) = false) := by
            show (l.take (i + 1)).any (fun k => k.code == e) = false
            rw [List.take_add_one, HX.out.2.2.2.2.2.2, List.any_append, HX.out.2.1]
            simp only [Option.toList_some, List.any_cons, List.any_nil, Bool.or_false, Bool.false_or]
            rw [← HG.out.2]; exact hd1
          clear hz
          go_wp2_with fail
          go_roundg (gk - 1)
          case measure => have := HX.out.1; omega
          case rel => exact ⟨i + 1, by go_num, by have := HX.out.1; omega, HT.out, HG.out.1⟩
      · have hie : l.take i = l := List.take_of_length_le (by omega)
        rw [hie] at hno
        have HT : Hid (hasB l last e = (last == e)) := by show hasB l last e = (last == e); unfold hasB; rw [hno]; rfl
        have HX := Lib.hid hmod; clear hno hmod hi hie
        go_wp2_with fail
        go_ret
        exact ⟨by rw [HS.out, HT.out]; rfl, HX.out⟩
end Go.Proofs.YtcahnhohinckdaaDoor
