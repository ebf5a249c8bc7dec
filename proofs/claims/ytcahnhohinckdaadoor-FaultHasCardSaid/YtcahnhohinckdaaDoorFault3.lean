/- Layer 1, fault: made. -/
import Derived.Test.YtcahnhohinckdaaDoorFault2
namespace Go.Proofs.YtcahnhohinckdaaDoor
open Go.RowKit Go.Extern.Stop Go.Stop Go.Extern
set_option linter.unusedVariables false
abbrev linksR : Rd (List Link) := Rd.slice 24 LinkR
def keptL (l : List Link) : List Link := l.filter fun k => !(k.code == 0)
theorem link_row {w : World} {ok : Nat → Prop} {A : Option Addr} {n c : Nat} {l : List Link} (h : linksR.rel w ok [.slice A n c] l) : n = l.length ∧ l.length ≤ c ∧ LinkR.RowOf w (fun k => ok k ∧ k < w.heap.size) A l ∧ l.length * 24 ≤ 140737488355328 := by
  obtain ⟨A', c', hv, h1, _, h4, _, h6⟩ := Rd.bound h
  simp only [List.cons.injEq, Value.slice.injEq, and_true] at hv
  obtain ⟨rfl, rfl, rfl⟩ := hv
  exact ⟨rfl, h1, h6, h4⟩
theorem LinkR_cells {w : World} {ok : Nat → Prop} {cs : List Value} {x : Link} (h : LinkR.rel w ok cs x) : cs = [.string x.place, .int .i64 x.code] := by
  obtain ⟨c0, c1, rfl, h0, h1⟩ := LinkR_iff.1 h
  rw [show c0 = [.string x.place] from h0.1, show c1 = [.int .i64 x.code] from h1.1]; rfl
theorem link_at {w : World} {ok : Nat → Prop} {A : Option Addr} {l : List Link} (h : LinkR.RowOf w ok A l) {j : Nat} {x : Link} (hj : l[j]? = some x) :
    ∃ ad, A = some ad ∧ w.cell? (ad.add (j * 2)) = some (.string x.place) ∧ w.cell? ⟨(ad.add (j * 2)).block, (ad.add (j * 2)).off + 1, none⟩ = some (.int .i64 x.code) := by
  obtain ⟨ad, cs, hA, -, hr, hc⟩ := h.at_ hj
  obtain rfl := LinkR_cells hr
  exact ⟨ad, hA, hc 0 _ rfl, by rw [← add_field ad (j * 2) 1 (by decide)]; exact hc 1 _ rfl⟩
theorem kept_cons {k : Link} {l : List Link} : keptL (k :: l) = if k.code = 0 then keptL l else k :: keptL l := by
  unfold keptL
  rw [List.filter_cons]
  by_cases h : k.code = 0
  · rw [if_pos h, if_neg (by simp [h])]
  · rw [if_neg h, if_pos (by simp [h])]
set_option maxRecDepth 100000 in
set_option maxHeartbeats 1000000 in
theorem made_any (A : Option Addr) (n c : Nat) (l : List Link) (last : Int) (ok : Nat → Prop) (w : World) (h : linksR.rel w ok [.slice A n c] l) :
    Calls Tryd.prog 7 #[.slice A n c, .int .i64 last] w fun r w' => ∃ v, r = .returned v ∧ ErrAt w' v (keptL l) last ∧ Mod (fun _ => False) w w' := by
  obtain ⟨rfl, hcap, hrow, hb⟩ := link_row h
  have HR := Lib.hid hrow; clear h hrow
  obtain ⟨v0, hv0⟩ : ∃ v0, v0 = (if last = 0 then .nilIface else .iface 30 (.int .i64 last) : Value) := ⟨_, rfl⟩
  have HE : Hid (ErrAt w v0 [] last) := by
    show ErrAt w v0 [] last
    by_cases hl : last = 0
    · rw [if_pos hl] at hv0; exact .inl ⟨hl, hv0⟩
    · rw [if_neg hl] at hv0; exact .inr ⟨hl, hv0⟩
  by_cases hl : last = 0
  · rw [if_pos hl] at hv0
    subst hl
    subst hv0
    go_enter Tryd.func7, Tryd.ntmps7
    go_wp2_with fail
    go_loopg [5, 6] l.length (fun f se si wr => ∃ (j : Nat), si = .int .i64 ((j : Int) - 1) ∧ j = f ∧ j ≤ l.length ∧ ErrAt wr se (keptL (l.drop j)) 0 ∧ Mod (fun _ => False) w wr)
    case atStart => exact ⟨l.length, rfl, rfl, Nat.le_refl _, by rw [List.drop_length]; exact HE.out, .refl _ _⟩
    case round =>
      obtain ⟨j, rfl, hj, hjl, he, hmod⟩ := hrel
      cases j with
      | zero =>
        have HX := Lib.hid (And.intro he hmod); clear he hmod hj hjl
        go_wp2_with fail
        go_ret
        exact ⟨_, rfl, HX.out.1, HX.out.2⟩
      | succ i =>
        obtain ⟨x, hx⟩ : ∃ x, l[i]? = some x := ⟨_, List.getElem?_eq_getElem (by omega)⟩
        obtain ⟨ad, rfl, q0, q1⟩ := link_at (HR.out.step (w1 := wr) (ok1 := fun _ => True) fun k hk hl => ⟨trivial, hmod.block k hl id⟩) hx
        have hdr : l.drop i = x :: l.drop (i + 1) := by
          have hlt := (List.getElem?_eq_some_iff.1 hx).1
          rw [List.drop_eq_getElem_cons hlt]; congr 1; exact (List.getElem?_eq_some_iff.1 hx).2
        have hk : keptL (l.drop i) = if x.code = 0 then keptL (l.drop (i + 1)) else x :: keptL (l.drop (i + 1)) := by rw [hdr, kept_cons]
        have hv := he.val
        have hi1 : (((i + 1 : Nat) : Int) - 1) = (i : Int) := by omega
        rw [hi1]
        have hil : i < l.length := by omega
        have HX := Lib.hid (And.intro hj (And.intro he (And.intro hmod (And.intro hk hv)))); clear he hmod hj hjl hx hdr hk hi1 hv
        obtain ⟨pl, hpl⟩ : ∃ pl, pl = x.place := ⟨_, rfl⟩
        obtain ⟨co, hco⟩ : ∃ co, co = x.code := ⟨_, rfl⟩
        rw [← hpl] at q0
        rw [← hco] at q1
        have HP := Lib.hid (And.intro hpl hco); clear hpl hco
        go_wp2_with fail
        go_still_tail 11, (by kernel_rfl)
        go_wp2_with fail
        by_cases hz : co = 0
        · subst hz
          refine (wrap_ok pl u5 wr.drew).mono ?_
          rintro r w2 ⟨rfl, rfl⟩
          go_wp2_with fail
          go_roundg (gk - 1)
          case measure => have := HX.out.1; omega
          case rel =>
            refine ⟨i, rfl, by have := HX.out.1; omega, by omega, ?_, HX.out.2.2.1.drew⟩
            rw [HX.out.2.2.2.1, if_pos HP.out.2.symm]
            exact HX.out.2.1.mod ((Mod.refl _ wr).drew)
        · refine (wrap_any pl co u5 wr.drew hz HX.out.2.2.2.2).mono ?_
          rintro r w2 ⟨g, rfl, hgs, hg, hm⟩
          have HG := Lib.hid (And.intro hz (And.intro hg hm)); clear hz hg hm hgs
          go_wp2_with fail
          go_roundg (gk - 1)
          case measure => have := HX.out.1; omega
          case rel =>
            refine ⟨i, rfl, by have := HX.out.1; omega, by omega, ?_, HX.out.2.2.1.drew.trans HG.out.2.2 (fun _ h => h.elim)⟩
            rw [HX.out.2.2.2.1, if_neg (by rw [← HP.out.2]; exact HG.out.1)]
            exact ⟨g, _, rfl, by rw [← HP.out.1, ← HP.out.2]; exact HG.out.2.1, (HX.out.2.1.mod ((Mod.refl _ wr).drew)).mod HG.out.2.2⟩
  · rw [if_neg hl] at hv0
    subst hv0
    have hd : (last != 0) = true := by simpa using hl
    have hd2 : (last == 0) = false := by simpa using hl
    clear hl
    go_enter Tryd.func7, Tryd.ntmps7
    go_wp2_with fail
    go_loopg [5, 6] l.length (fun f se si wr => ∃ (j : Nat), si = .int .i64 ((j : Int) - 1) ∧ j = f ∧ j ≤ l.length ∧ ErrAt wr se (keptL (l.drop j)) last ∧ Mod (fun _ => False) w wr)
    case atStart => exact ⟨l.length, rfl, rfl, Nat.le_refl _, by rw [List.drop_length]; exact HE.out, .refl _ _⟩
    case round =>
      obtain ⟨j, rfl, hj, hjl, he, hmod⟩ := hrel
      cases j with
      | zero =>
        have HX := Lib.hid (And.intro he hmod); clear he hmod hj hjl
        go_wp2_with fail
        go_ret
        exact ⟨_, rfl, HX.out.1, HX.out.2⟩
      | succ i =>
        obtain ⟨x, hx⟩ : ∃ x, l[i]? = some x := ⟨_, List.getElem?_eq_getElem (by omega)⟩
        obtain ⟨ad, rfl, q0, q1⟩ := link_at (HR.out.step (w1 := wr) (ok1 := fun _ => True) fun k hk hl => ⟨trivial, hmod.block k hl id⟩) hx
        have hdr : l.drop i = x :: l.drop (i + 1) := by
          have hlt := (List.getElem?_eq_some_iff.1 hx).1
          rw [List.drop_eq_getElem_cons hlt]; congr 1; exact (List.getElem?_eq_some_iff.1 hx).2
        have hk : keptL (l.drop i) = if x.code = 0 then keptL (l.drop (i + 1)) else x :: keptL (l.drop (i + 1)) := by rw [hdr, kept_cons]
        have hv := he.val
        have hi1 : (((i + 1 : Nat) : Int) - 1) = (i : Int) := by omega
        rw [hi1]
        have hil : i < l.length := by omega
        have HX := Lib.hid (And.intro hj (And.intro he (And.intro hmod (And.intro hk hv)))); clear he hmod hj hjl hx hdr hk hi1 hv
        obtain ⟨pl, hpl⟩ : ∃ pl, pl = x.place := ⟨_, rfl⟩
        obtain ⟨co, hco⟩ : ∃ co, co = x.code := ⟨_, rfl⟩
        rw [← hpl] at q0
        rw [← hco] at q1
        have HP := Lib.hid (And.intro hpl hco); clear hpl hco
        go_wp2_with fail
        go_still_tail 11, (by kernel_rfl)
        go_wp2_with fail
        by_cases hz : co = 0
        · subst hz
          refine (wrap_ok pl u5 wr.drew).mono ?_
          rintro r w2 ⟨rfl, rfl⟩
          go_wp2_with fail
          go_roundg (gk - 1)
          case measure => have := HX.out.1; omega
          case rel =>
            refine ⟨i, rfl, by have := HX.out.1; omega, by omega, ?_, HX.out.2.2.1.drew⟩
            rw [HX.out.2.2.2.1, if_pos HP.out.2.symm]
            exact HX.out.2.1.mod ((Mod.refl _ wr).drew)
        · refine (wrap_any pl co u5 wr.drew hz HX.out.2.2.2.2).mono ?_
          rintro r w2 ⟨g, rfl, hgs, hg, hm⟩
          have HG := Lib.hid (And.intro hz (And.intro hg hm)); clear hz hg hm hgs
          go_wp2_with fail
          go_roundg (gk - 1)
          case measure => have := HX.out.1; omega
          case rel =>
            refine ⟨i, rfl, by have := HX.out.1; omega, by omega, ?_, HX.out.2.2.1.drew.trans HG.out.2.2 (fun _ h => h.elim)⟩
            rw [HX.out.2.2.2.1, if_neg (by rw [← HP.out.2]; exact HG.out.1)]
            exact ⟨g, _, rfl, by rw [← HP.out.1, ← HP.out.2]; exact HG.out.2.1, (HX.out.2.1.mod ((Mod.refl _ wr).drew)).mod HG.out.2.2⟩
end Go.Proofs.YtcahnhohinckdaaDoor
