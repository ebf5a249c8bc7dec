/- Part of this claim's proof (texts LabN, LabF, LabW, LabT, LabG, LabPut, LabO0, Own0, joined by program). -/
import Derived.Test.YtefedalnafjcfaaGreatDoorA08
import Derived.ArgAppend
import Derived.Lib.LazyBuf
import Derived.Lib.ItoaLen
import Derived.Lib.Join
import Derived.Deep.AppendLies
import Derived.Deep.RegionLaw
import Derived.Test.YtefedalnafjcfaaGreatDoorA07
import Derived.Test.YtefedalnafjcfaaGreatDoorA06
namespace Go.Proofs.YtefedalnafjcfaaGreatDoor
open Go.RowKit Go.Shelf
set_option linter.unusedVariables false
theorem cells2 (w : World) (x y : Value) (T : TypeId) : (w.alloc (.cells #[x, y] T)).cell? ⟨w.heap.size, 0, none⟩ = some x ∧ (w.alloc (.cells #[x, y] T)).cell? ⟨w.heap.size, 1, none⟩ = some y := by
  constructor <;> (rw [Lib.cell_of_heap (World.alloc_heap_new w _)]; rfl)
set_option maxRecDepth 100000 in
set_option maxHeartbeats 2000000 in
theorem names_any (A : Option Addr) (n c : Nat) (A2 : Option Addr) (n2 c2 : Nat) (a b : List Entry) (ok ok2 : Nat → Prop) (w : World) (h : labR.rel w ok [.slice A n c] a) (h2 : labR.rel w ok2 [.slice A2 n2 c2] b) (hl : a.length ≤ 1000) (hl2 : b.length ≤ 1000) (E : Env w) :
    Calls Tryz.prog 77 #[.slice A n c, .slice A2 n2 c2] w fun r w' => ∃ A' c', r = .returned (.slice A' (namesL a b).length c') ∧ w'.ownsRow w.heap.size 9 1 (.slice A' (namesL a b).length c') (namesL a b).length (scells (namesL a b)) ∧ Mod (fun _ => False) w w' := by
  obtain ⟨W1, hW1⟩ : ∃ W1, W1 = w.alloc (.cells #[.slice A n c, .slice A2 n2 c2] 34) := ⟨_, rfl⟩
  have hm1 : Mod (fun _ => False) w W1 := by rw [hW1]; exact (Mod.refl _ _).alloc _
  obtain ⟨k0, k1⟩ := cells2 w (.slice A n c) (.slice A2 n2 c2) 34
  rw [← hW1] at k0 k1
  have hcc := concatE_any A n c A2 n2 c2 a b _ _ w.heap.size W1 (Rd.mod (Rd.bound h) hm1 (fun _ _ => id)) (Rd.mod (Rd.bound h2) hm1 (fun _ _ => id)) (by omega) (by omega) k0 k1
  have heach : ∀ e ∈ a ++ b, (nm e).length ≤ 140737488355328 := fun e he => by
    rcases List.mem_append.1 he with he | he
    · exact (labR_each h e he).1
    · exact (labR_each h2 e he).1
  obtain ⟨rfl, -⟩ := lab_row h
  obtain ⟨rfl, -⟩ := lab_row h2
  clear k0 k1 h h2
  obtain ⟨l, hle⟩ : ∃ l, l = a ++ b := ⟨_, rfl⟩
  have hll : l.length = a.length + b.length := by rw [hle, List.length_append]
  have hnl : namesL a b = sortS (l.map nm) := by unfold namesL; rw [hle]
  rw [hnl]
  rw [← hle] at hcc heach
  rw [← hll] at hcc
  have hlb : l.length ≤ 2000 := by omega
  obtain ⟨z, hz⟩ : ∃ z, z = sortS (l.map nm) := ⟨_, rfl⟩
  rw [← hz]
  have H0 := Lib.hid (And.intro hm1 (And.intro E (And.intro hz heach))); clear hm1 E hle hll hnl hz heach
  go_enter Tryz.func77, Tryz.ntmps77
  go_wp2_with fail
  rw [← hW1]
  refine hcc.mono ?_
  rintro r w2 ⟨A3, c3, rfl, hO, hm2⟩
  have hread := (lab_row (hO.reads (bytes := 24) (by omega))).2.2.2.2.2
  have H2 := Lib.hid (And.intro (tr0 H0.out.1 hm2) hread); clear hO hm2 hread hcc hW1
  go_wp2_with fail
  go_loopg [5, 13] l.length (fun f so si wr => ∃ (i : Nat), si = .int .i64 i ∧ i + f = l.length ∧ wr.ownsRow w2.heap.size 9 1 so i (scells ((l.take i).map nm)) ∧ Mod (fun _ => False) w wr ∧ Mod (fun k => w2.heap.size ≤ k) w2 wr)
  case atStart => exact ⟨0, rfl, by omega, World.ownsRow_nil _ _ _ _, H2.out.1, .refl _ _⟩
  case round =>
    obtain ⟨i, rfl, hi, ho, hmod, hmod2⟩ := hrel
    obtain ⟨Ao, co, rfl⟩ := own_slice ho
    by_cases hlt : i < l.length
    · obtain ⟨d, m, hx⟩ : ∃ d m, l[i]? = some (ent d m) := by
        obtain ⟨d, m, e⟩ := ent_cases l[i]
        exact ⟨d, m, by rw [← e]; simp [hlt]⟩
      obtain ⟨ad, rfl, -, hc0, hc1, hdl, -⟩ := row_ent (H2.out.2.step (w1 := wr) (ok1 := fun _ => True) (fun k hk hl => ⟨trivial, hmod2.block k hl (by omega)⟩)) hx
      have htk : scells ((l.take (i + 1)).map nm) = scells ((l.take i).map nm) ++ [encS d] := by rw [List.take_add_one, hx, List.map_append, scells_app]; simp [scells, nm_ent]
      have hlen : (scells ((l.take i).map nm)).length = i := by rw [scells_len, List.length_map, List.length_take]; omega
      obtain ⟨sc, hsc⟩ : ∃ sc, sc = scells ((l.take i).map nm) := ⟨_, rfl⟩
      rw [← hsc] at ho htk hlen
      have hcs : ∀ j u, [Value.string ⟨d.toArray⟩, .int .i64 m][j]? = some u → wr.cell? ((ad.add (i * 2)).add j) = some u := by
        intro j u hj
        match j, hj with
        | 0, hj => cases hj; rw [show (ad.add (i * 2)).add 0 = ad.add (i * 2) by simp [Addr.add]]; exact hc0
        | 1, hj => cases hj; exact hc1
        | j + 2, hj => simp at hj
      have HX := Lib.hid (And.intro hi (And.intro ho (And.intro hmod (And.intro hmod2 (And.intro htk (And.intro hlen hcs))))))
      clear hi ho hmod hmod2 htk hlen hx hcs hc0 hc1 hsc
      go_wp2_with (refine wpList_copy_var (n := 2) rfl rfl rfl 129 _ _ _ rfl rfl rfl Tryz.underlying129 zeroEnt Tryz.info_ent2 rfl (ad.add (i * 2)) rfl [.string ⟨d.toArray⟩, .int .i64 m] rfl (by intro u hu; simp at hu; rcases hu with rfl | rfl <;> rfl) HX.out.2.2.2.2.2.2 (fun _ _ => rfl) (fun _ _ => rfl) ?_)
      intro g3 W3 hg3 hb3 hm3
      have k0 : W3.cell? ⟨g3, 0, none⟩ = some (.string ⟨d.toArray⟩) := by rw [Lib.cell_of_heap hb3]; rfl
      have ho3 := own_move HX.out.2.1 (fun k hk => (hm3 (fun _ => False)).block k (own_lt HX.out.2.1 k hk).2 id)
      have hbs := (HX.out.2.2.2.1.trans (hm3 (fun _ => False)) (fun _ h => h.elim)).size
      have H3 := Lib.hid (And.intro ho3 (And.intro (HX.out.2.2.1.trans (hm3 (fun _ => False)) (fun _ h => h.elim)) (HX.out.2.2.2.1.trans (hm3 (fun _ => False)) (fun _ h => h.elim))))
      clear hg3 hb3 hm3 ho3
      go_wp2_with (at_builtin; refine append_one w2.heap.size rfl _ _ 36 9 (.string ⟨#[]⟩) 16 rfl Tryz.underlying36 (by kernel_rfl) rfl (by decide) (.slice Ao i co) sc (encS d) rfl rfl rfl (by rw [HX.out.2.2.2.2.2.1]; exact H3.out.1) hbs (by rw [HX.out.2.2.2.2.2.1]; omega) ?_)
      intro A4 c4 w4 hown4 hg4 _
      rw [HX.out.2.2.2.2.2.1] at hown4 ⊢
      have H4 := Lib.hid (And.intro hown4 hg4); clear hown4 hg4
      go_wp2_with fail
      go_roundg (gk - 1)
      case measure => have := HX.out.1; omega
      case rel =>
        refine ⟨i + 1, by go_num, by have := HX.out.1; omega, ?_, H3.out.2.1.grown H4.out.2 (fun k hk => .inr (by have := (own_lt H3.out.1 k hk.symm).1; have := H2.out.1.size; omega)), H3.out.2.2.grown H4.out.2 (fun k hk => .inl (own_lt H3.out.1 k hk.symm).1)⟩
        · rw [HX.out.2.2.2.2.1]
          exact H4.out.1
    · have hie : l.take i = l := List.take_of_length_le (by omega)
      have hil : i = l.length := by omega
      subst hil
      rw [hie] at ho
      have hmn : (l.map nm).length = l.length := List.length_map _
      have ho' : wr.ownsRow w2.heap.size 9 1 (.slice Ao l.length co) (l.map nm).length (scells (l.map nm)) := by rw [hmn]; exact ho
      have hrd := reads_strs ho' (fun x hx => by obtain ⟨e, he, rfl⟩ := List.mem_map.1 hx; exact H0.out.2.2.2 e he) (by rw [hmn]; omega)
      have hst := sort_any Ao l.length co ((l.map nm).map mkStr) _ wr hrd (by rw [List.length_map, hmn]; omega) (fun s hs => by
        obtain ⟨x, hx, rfl⟩ := List.mem_map.1 hs
        rw [mkStr_size]
        obtain ⟨e, he, rfl⟩ := List.mem_map.1 hx
        exact H0.out.2.2.2 e he) (H0.out.2.1.mod0 hmod)
      rw [map_back, ← H0.out.2.2.1] at hst
      have HX := Lib.hid hmod; clear hmod hmod2 ho ho' hrd hie hi
      go_wp2_with fail
      refine hst.mono ?_
      rintro r w5 ⟨A5, c5, rfl, ho5, hm5⟩
      have H5 := Lib.hid (And.intro (own_base_le ho5 HX.out.size) (tr0 HX.out hm5)); clear ho5 hm5 hst
      go_wp2_with fail
      go_ret
      exact ⟨A5, c5, rfl, H5.out.1, H5.out.2⟩
end Go.Proofs.YtefedalnafjcfaaGreatDoor

namespace Go.Proofs.YtefedalnafjcfaaGreatDoor
open Go.RowKit Go.Shelf
set_option linter.unusedVariables false
theorem namesL_len {a b : List Entry} (ha : RightL a) (hb : RightL b) : (namesL a b).length ≤ 16 := by
  have h1 := sortS_len ((a ++ b).map nm)
  rw [List.length_map, List.length_append] at h1
  have := ha.len; have := hb.len
  unfold namesL; omega
set_option maxRecDepth 100000 in
set_option maxHeartbeats 2000000 in
theorem flows_any (A : Option Addr) (n c : Nat) (A2 : Option Addr) (n2 c2 : Nat) (a b : List Entry) (ok ok2 : Nat → Prop) (w : World) (h : labR.rel w ok [.slice A n c] a) (h2 : labR.rel w ok2 [.slice A2 n2 c2] b) (E : Env w) :
    Calls Tryz.prog 39 #[.slice A n c, .slice A2 n2 c2] w fun r w' => r = .returned (.bool (flowsLB a b)) ∧ Mod (fun _ => False) w w' := by
  obtain ⟨z, hz⟩ : ∃ z, z = flowsLB a b := ⟨_, rfl⟩
  rw [← hz]
  have hr1 := rightLab_any A n c a ok w h E
  have H0 := Lib.hid (And.intro (Rd.bound h) (And.intro (Rd.bound h2) (And.intro hz E))); clear h h2 hz E
  cases hra : rightLB a with
  | false =>
    rw [hra] at hr1
    have hzf : z = false := by rw [H0.out.2.2.1]; exact flowsLB_no fun hf => by have := rightLB_iff.2 hf.ra; rw [hra] at this; cases this
    subst hzf
    have HR := Lib.hid hr1; clear hr1 hra
    go_enter Tryz.func39, Tryz.ntmps39
    go_wp2_with fail
    refine HR.out.mono ?_
    rintro r w1 ⟨rfl, hm⟩
    have H1 := Lib.hid hm; clear hm
    go_wp2_with fail
    go_ret
    exact ⟨rfl, H1.out⟩
  | true =>
    rw [hra] at hr1
    have HR := Lib.hid (And.intro hr1 (rightLB_iff.1 hra)); clear hr1 hra
    cases hrb : rightLB b with
    | false =>
      have hzf : z = false := by rw [H0.out.2.2.1]; exact flowsLB_no fun hf => by have := rightLB_iff.2 hf.rb; rw [hrb] at this; cases this
      subst hzf
      have HB := Lib.hid hrb; clear hrb
      go_enter Tryz.func39, Tryz.ntmps39
      go_wp2_with fail
      refine HR.out.1.mono ?_
      rintro r w1 ⟨rfl, hm⟩
      have hr2 := rightLab_any A2 n2 c2 b _ w1 (Rd.mod H0.out.2.1 hm (fun _ _ => id)) (H0.out.2.2.2.mod0 hm)
      rw [HB.out] at hr2
      have H1 := Lib.hid (And.intro hm hr2); clear hm hr2
      go_wp2_with fail
      refine H1.out.2.mono ?_
      rintro r w2 ⟨rfl, hm⟩
      have H2 := Lib.hid (tr0 H1.out.1 hm); clear hm
      go_wp2_with fail
      go_ret
      exact ⟨rfl, H2.out⟩
    | true =>
      have HB := Lib.hid (And.intro hrb (rightLB_iff.1 hrb)); clear hrb
      have ha8 := HR.out.2.len
      have hb8 := HB.out.2.len
      have h16 := namesL_len HR.out.2 HB.out.2
      obtain ⟨zs, hzs⟩ : ∃ zs, zs = namesL a b := ⟨_, rfl⟩
      rw [← hzs] at h16
      have HZ := Lib.hid (And.intro hzs (show z = true ↔ ∀ c ∈ zs, levelL a c ≤ levelL b c by rw [H0.out.2.2.1, flowsLB_iff, hzs]; exact flows_names HR.out.2 HB.out.2)); clear hzs
      go_enter Tryz.func39, Tryz.ntmps39
      go_wp2_with fail
      refine HR.out.1.mono ?_
      rintro r w1 ⟨rfl, hm⟩
      have hr2 := rightLab_any A2 n2 c2 b _ w1 (Rd.mod H0.out.2.1 hm (fun _ _ => id)) (H0.out.2.2.2.mod0 hm)
      rw [HB.out.1] at hr2
      have H1 := Lib.hid (And.intro hm hr2); clear hm hr2
      go_wp2_with fail
      refine H1.out.2.mono ?_
      rintro r w2 ⟨rfl, hm⟩
      have hm2 := tr0 H1.out.1 hm
      have hnm := names_any A n c A2 n2 c2 a b _ _ w2 (Rd.mod H0.out.1 hm2 (fun _ _ => id)) (Rd.mod H0.out.2.1 hm2 (fun _ _ => id)) (by omega) (by omega) (H0.out.2.2.2.mod0 hm2)
      rw [← HZ.out.1] at hnm
      have H2 := Lib.hid (And.intro hm2 hnm); clear hm hm2 hnm H1
      go_wp2_with fail
      refine H2.out.2.mono ?_
      rintro r w3 ⟨A3, c3, rfl, ho, hm3⟩
      have H3 := Lib.hid (And.intro (tr0 H2.out.1 hm3) ho); clear ho hm3 H2
      go_wp2_with fail
      go_loopg [19] zs.length (fun f si wr => ∃ i : Nat, si = .int .i64 i ∧ i + f = zs.length ∧ (∀ c ∈ zs.take i, levelL a c ≤ levelL b c) ∧ Mod (fun _ => False) w3 wr)
      case atStart => exact ⟨0, rfl, by omega, by simp, .refl _ _⟩
      case round =>
        obtain ⟨i, rfl, hi, hle, hmod⟩ := hrel
        by_cases hlt : i < zs.length
        · obtain ⟨x, hx⟩ : ∃ x, zs[i]? = some x := ⟨zs[i], by simp [hlt]⟩
          obtain ⟨g, c4, hv, hc0⟩ := own_row H3.out.2 hx
          obtain ⟨rfl, rfl⟩ : A3 = some ⟨g, 0, none⟩ ∧ c3 = c4 := by simpa using hv
          replace hc0 := (hmod.cell (cell_lt hc0) id).trans hc0
          have hm0 := tr0 H3.out.1 hmod
          have hl1 := fun W hW => level_any A n c a x _ W (Rd.mod H0.out.1 (hW : Mod (fun _ => False) w W) (fun _ _ => id))
          have hl2 := fun W hW => level_any A2 n2 c2 b x _ W (Rd.mod H0.out.2.1 (hW : Mod (fun _ => False) w W) (fun _ _ => id))
          obtain ⟨p, hp⟩ : ∃ p, p = levelL a x := ⟨_, rfl⟩
          obtain ⟨q, hq⟩ : ∃ q, q = levelL b x := ⟨_, rfl⟩
          simp only [← hp] at hl1
          simp only [← hq] at hl2
          have HX := Lib.hid (And.intro hi (And.intro hle (And.intro hmod (And.intro hm0 (And.intro hx (And.intro hl1 (And.intro hl2 (And.intro hp hq))))))))
          clear hi hle hmod hm0 hx hl1 hl2 hp hq hv
          go_wp2_with fail
          refine (HX.out.2.2.2.2.2.1 wr HX.out.2.2.2.1).mono ?_
          rintro r w5 ⟨rfl, hm5⟩
          have H5 := Lib.hid (tr0 HX.out.2.2.2.1 hm5)
          have H5' := Lib.hid (tr0 HX.out.2.2.1 hm5); clear hm5
          go_wp2_with fail
          refine (HX.out.2.2.2.2.2.2.1 w5 H5.out).mono ?_
          rintro r w6 ⟨rfl, hm6⟩
          have H6 := Lib.hid (And.intro (tr0 H5.out hm6) (tr0 H5'.out hm6)); clear hm6 hc0
          by_cases hgt : q < p
          · have e1 : decide (q < p) = true := by simp [hgt]
            have hzf : z = false := by
              rw [Bool.eq_false_iff]
              intro hz
              have := HZ.out.2.1 hz x (List.mem_of_getElem? HX.out.2.2.2.2.1)
              have h1 := HX.out.2.2.2.2.2.2.2
              omega
            subst hzf
            clear hgt
            go_wp2_with fail
            go_ret
            exact ⟨rfl, H6.out.1⟩
          · have e1 : decide (q < p) = false := by simp; omega
            have HG := Lib.hid hgt; clear hgt
            go_wp2_with fail
            go_roundg (gk - 1)
            case measure => have := HX.out.1; omega
            case rel =>
              refine ⟨i + 1, by go_num, by have := HX.out.1; omega, ?_, H6.out.2⟩
              rw [List.take_add_one, HX.out.2.2.2.2.1]
              intro y hy
              rcases List.mem_append.1 hy with hy | hy
              · exact HX.out.2.1 y hy
              · simp at hy
                rw [hy]
                have h1 := HX.out.2.2.2.2.2.2.2
                have := HG.out
                omega
        · have hie : zs.take i = zs := List.take_of_length_le (by omega)
          rw [hie] at hle
          have hzt : z = true := HZ.out.2.2 hle
          subst hzt
          have HX := Lib.hid (tr0 H3.out.1 hmod); clear hmod hle hie hi
          go_wp2_with fail
          go_ret
          exact ⟨rfl, HX.out⟩
end Go.Proofs.YtefedalnafjcfaaGreatDoor

namespace Go.Proofs.YtefedalnafjcfaaGreatDoor
open Go.RowKit Go.Shelf
set_option linter.unusedVariables false
section
variable {P : Program} {ops : Array Oper} {rest : List Oper} {o : Oper} {a : Act} {Q : Exit → Act → World → Prop} {α : Type} {R : Rd α}
/-- append(v, y) where v has no room: a new row -/
theorem append_clip {W : World} (hgd : o.guard = none) (s x : Operand) (t e : TypeId) (z : Value) (bytes : Nat)
    (ho : o.op = .call { callee := .builtin .append, args := #[s, x], argTypes := #[t, t] })
    (ht : P.underlying t = some (.slice e)) (hinfo : (P.info? e).map (fun i => (i.zero, i.size, i.bytes)) = some (some z, R.sz, bytes)) (hz : z.cells.size = R.sz) (hb0 : 0 < bytes)
    (ad : Addr) (c0 base0 : Nat) (xs : List α) (y : α) (cs : List Value) (S : Nat → Prop) (hs : a.eval s = .slice (some ad) xs.length xs.length) (hx : a.eval x = .slice (some ⟨W.heap.size, 0, none⟩) 1 1)
    (HO : OwnR R e W base0 S (.slice (some ad) xs.length c0) xs) (hy : R.rel W S cs y) (hl : (xs.length + 1) * bytes ≤ 140737488355328)
    (h : ∀ A c w1, OwnR R e w1 W.heap.size S (.slice A (xs.length + 1) c) (xs ++ [y]) → Mod (fun _ => False) W w1 → wpList P ops Q rest (a.put o.dst (.slice A (xs.length + 1) c)) w1) :
    wpList P ops Q (o :: rest) a (W.alloc (.cells cs.toArray e)) := by
  obtain ⟨i0, hi, hzz⟩ := Option.map_eq_some_iff.1 hinfo
  simp only [Prod.mk.injEq] at hzz
  obtain ⟨hz0, hz1, hz2⟩ := hzz
  obtain ⟨cells, hown, hread⟩ := HO
  have hlen : xs.length + 1 ≤ 140737488355328 := Nat.le_trans (Nat.le_mul_of_pos_right _ hb0) hl
  have hcs := R.len hy
  have hcell : ∀ j u, cells[j]? = some u → (W.alloc (.cells cs.toArray e)).cell? (ad.add j) = some u := by
    rcases (hown.alloc (.cells cs.toArray e)).2 with ⟨h, _⟩ | ⟨g, cap, cur, hv, _, hg, _, _, hsz, htk⟩
    · cases h
    · obtain ⟨rfl, rfl⟩ : ad = ⟨g, 0, none⟩ ∧ c0 = cap := by simpa using hv
      intro j u hu
      rw [← htk] at hu
      refine World.news_of_block (cs := cur) (t := e) (fr := (0, 0)) hg j u ?_
      rw [List.getElem?_take] at hu
      split at hu
      · exact hu
      · cases hu
  obtain ⟨v1, w1, hrun, hown1, hg1⟩ := run_append_arg_grows (P := P) (W.alloc (.cells cs.toArray e)) t o.type e i0 z R.sz bytes ht hi hz0 hz1 hz2 hz R.pos ad xs.length xs.length cells hown.1 hcell ⟨W.heap.size, 0, none⟩ 1 1 cs (by omega)
    (World.news_of_block (cs := cs.toArray) (t := e) (fr := (0, 0)) (heap_alloc_new W _)) (by omega) (by simp only [maxLen]; omega) hl
  obtain ⟨A, c, rfl⟩ := own_slice hown1
  have hg' : W.grownBy w1 none := World.grownBy.trans (World.grownBy_alloc W _ _) hg1
  have hlow : ∀ k, (Value.slice A (xs.length + 1) c).ownBlock = some k → W.heap.size ≤ k := fun k hk => by
    have := (own_lt hown1 k hk).1
    simp at this; omega
  have hm : ∀ (T : Nat → Prop), (∀ k, T k → S k) → ∀ k, T k → k < W.heap.size → (S k ∧ some k ≠ (Value.slice A (xs.length + 1) c).ownBlock) ∧ w1.heap[k]? = W.heap[k]? := by
    intro T hT k hk hlt
    exact ⟨⟨hT k hk, fun e => by have := hlow k e.symm; omega⟩, hg'.block k hlt (by simp)⟩
  refine wpList_plain hgd fun K hK => ?_
  unfold Oper.wp
  simp [execOp, ho, resolve, invoke, builtin, hs, hx, hrun, Result.andThen]
  refine hK _ _ (h A c w1 ?_ ((Mod.refl (fun _ => False) W).grown hg' (fun k hk => by cases hk)))
  refine ⟨cells ++ cs, ?_, fun j y' hj => ?_⟩
  · have h2 := hown1
    refine ⟨by simpa using h2.1, ?_⟩
    rcases h2.2 with h3 | ⟨g, cap, cur, hv, hb, r⟩
    · simp at h3
    · exact .inr ⟨g, cap, cur, by simpa using hv, by simp at hb; omega, by simpa using r⟩
  · by_cases hj' : j < xs.length
    · rw [List.getElem?_append_left hj'] at hj
      rw [drop_take_left hown.1 hj']
      exact R.step (hm _ fun k hk => hk.1) (hread j y' hj)
    · have : j = xs.length := by
        have := (List.getElem?_eq_some_iff.1 hj).1
        simp at this; omega
      subst this
      have : y = y' := by simpa using hj
      subst this
      rw [← hown.1, List.drop_left, ← hcs, List.take_length]
      exact R.step (hm _ fun k hk => hk) hy
end
end Go.Proofs.YtefedalnafjcfaaGreatDoor

namespace Go.Proofs.YtefedalnafjcfaaGreatDoor
open Go.RowKit Go.Shelf
set_option linter.unusedVariables false
/-- a call at a step of a region that draws -/
theorem step_call {P : Program} {w : World} {ops : Array Oper} {o : Oper} {a : Act} {K : Act → World → Prop} {Q : Exit → Act → World → Prop} {E : Prop} (hgd : o.guard = none) (f : FuncId) (x : Operand) (ts : Array TypeId)
    (ho : o.op = .call { callee := .value (.func f), args := #[x], argTypes := ts }) (v : Value) (hx : a.eval x = v) {C : Ending → World → Prop}
    (hcf : (callFunc f #[v]).run P w = .ok (.enter f #[v]) w) (hc : Calls P f #[v] w C) (h : ∀ e w', C e w' → ∃ u, e = .returned u ∧ K (a.put o.dst u) w') : if Region.wanted o (yielded ops a.tmps) = true then Oper.wp P o a w K Q else E := by
  have hw : Region.wanted o (yielded ops a.tmps) = true := by simp [Region.wanted, hgd]
  rw [if_pos hw]
  have h1 : (execOp a.eval o).run P w = .ok (.enter f #[v]) w := by
    have key : ∀ ρ : Operand → Value, ρ (.func f) = .func (.func f) #[] #[] → ρ x = v → (execOp ρ o).run P w = .ok (.enter f #[v]) w := by
      intro ρ h0 h1
      simp [execOp, ho, resolve, go_sem, h0, h1, hcf]
    exact key _ rfl hx
  unfold Oper.wp
  rw [h1, Oper.upon_enter]
  refine hc.mono fun e w' he => ?_
  obtain ⟨u, rfl, hk⟩ := h e w' he
  exact hk
theorem callFunc_go {P : Program} {f : FuncId} {fn : Func} (hf : P.funcs[f]? = some fn) (hname : (fn.name == "runtime.NumGoroutine") = false) (hb : fn.body.isSome = true) (args : Array Value) (w : World) : (callFunc f args).run P w = .ok (.enter f args) w := by
  have h1 : fn.name ≠ "runtime.NumGoroutine" := by simpa using hname
  obtain ⟨c, hc⟩ := Option.isSome_iff_exists.1 hb
  simp [callFunc, hf, h1, hc]
end Go.Proofs.YtefedalnafjcfaaGreatDoor

namespace Go.Proofs.YtefedalnafjcfaaGreatDoor
open Go.RowKit Go.Shelf
set_option linter.unusedVariables false
theorem textS_le {most : Int} (s : TSt) (hm : 0 ≤ most) : ((textS most s).1.length : Int) ≤ most := by
  unfold textS textD
  split
  · simpa using hm
  split
  · simpa using hm
  split
  · simpa using hm
  · rename_i h1 h2 h3
    have := numD_le (most := most) (bs := s.1) (by omega)
    have h0 := numD_nonneg most s.1
    simp only [List.length_take]
    omega
def getN : Nat → TSt → List Entry × TSt
  | 0, s => ([], s)
  | k + 1, s => (ent (textS 80 s).1 (numS 3 (textS 80 s).2).1 :: (getN k (numS 3 (textS 80 s).2).2).1, (getN k (numS 3 (textS 80 s).2).2).2)
theorem getN_len (k : Nat) : ∀ s, (getN k s).1.length = k := by
  induction k with
  | zero => intro s; rfl
  | succ k ih => intro s; simp [getN, ih]
/-- What Get of a tape answers: the label, the error, the tape's state. -/
noncomputable def getL (s : TSt) : List Entry × Int × TSt :=
  if (getN (numS 8 s).1.toNat (numS 8 s).2).2.2 ≠ 0 ∨ rightLB (getN (numS 8 s).1.toNat (numS 8 s).2).1 = false then ([], 10, (getN (numS 8 s).1.toNat (numS 8 s).2).2) else ((getN (numS 8 s).1.toNat (numS 8 s).2).1, 0, (getN (numS 8 s).1.toNat (numS 8 s).2).2)
set_option maxRecDepth 100000 in
set_option maxHeartbeats 2000000 in
theorem getL_any (g : Nat) (ok : Nat → Prop) (s : TSt) (w : World) (h : TapeS w ok g s) (hE : ∀ W, Mod (fun k => k = g) w W → Env W) :
    Calls Tryz.prog 46 #[.pointer (some ⟨g, 0, none⟩)] w fun r w' => ∃ A c, r = .returned (.tuple #[.slice A (getL s).1.length c, .int .i64 (getL s).2.1]) ∧ OwnR EntryR 129 w' w.heap.size (fun _ => False) (.slice A (getL s).1.length c) (getL s).1 ∧ TapeS w' ok g (getL s).2.2 ∧ Mod (fun k => k = g) w w' := by
  obtain ⟨z, hz⟩ : ∃ z, z = getL s := ⟨_, rfl⟩
  rw [← hz]
  unfold getL at hz
  have hgw := h.lt
  have hbd : ∀ W, TapeS W (fun k => ok k ∧ k < w.heap.size) g z.2.2 → TapeS W ok g z.2.2 := fun W hW => hW.mono fun k hk => hk.1
  have h := h.bound
  obtain ⟨ok1, hok1⟩ : ∃ ok1, ok1 = fun k => ok k ∧ k < w.heap.size := ⟨_, rfl⟩
  have hok2 : ∀ k, ok1 k → k < w.heap.size := fun k hk => by rw [hok1] at hk; exact hk.2
  rw [← hok1] at h hbd
  have hn := tnumS_any g ok1 s 8 w h
  have hr := numS_range s (most := 8) (by decide)
  obtain ⟨s1, hs1⟩ : ∃ s1, s1 = (numS 8 s).2 := ⟨_, rfl⟩
  obtain ⟨K, hK⟩ : ∃ K : Nat, K = (numS 8 s).1.toNat := ⟨_, rfl⟩
  have hK' : (numS 8 s).1 = K := by omega
  rw [← hs1, hK'] at hn
  rw [← hs1, ← hK] at hz
  have hK8 : K ≤ 8 := by omega
  have H0 := Lib.hid (And.intro hn (And.intro hz (And.intro hE (And.intro hgw (And.intro hbd hok2))))); clear h hn hz hE hr hs1 hK hK' hgw hbd hok1 hok2
  go_enter Tryz.func46, Tryz.ntmps46
  go_wp2_with fail
  refine H0.out.1.mono ?_
  rintro r w1 ⟨rfl, ht1, hm1⟩
  have H1 := Lib.hid (And.intro ht1 hm1); clear ht1 hm1
  go_wp2_with fail
  go_loopg [4, 7] K (fun f so si wr => ∃ (i : Nat) (A : Option Addr) (c : Nat) (lst : List Entry) (s2 : TSt), si = .int .i64 i ∧ so = .slice A i c ∧ i + f = K ∧ lst.length = i ∧ getN K s1 = (lst ++ (getN f s2).1, (getN f s2).2) ∧ OwnR EntryR 129 wr w.heap.size (fun _ => False) (.slice A i c) lst ∧ TapeS wr ok1 g s2 ∧ Mod (fun k => k = g) w wr)
  case atStart => exact ⟨0, none, 0, [], s1, rfl, rfl, by omega, rfl, by simp, OwnR.nil _ _ _ _ _, H1.out.1, H1.out.2⟩
  case round =>
    obtain ⟨i, A, c, lst, s2, rfl, rfl, hi, hll, hget, hO, hT, hmod⟩ := hrel
    by_cases hlt : i < K
    · obtain ⟨f, rfl⟩ : ∃ f, gk = f + 1 := ⟨gk - 1, by omega⟩
      obtain ⟨d, hd⟩ : ∃ d, d = (textS 80 s2).1 := ⟨_, rfl⟩
      obtain ⟨s3, hs3⟩ : ∃ s3, s3 = (textS 80 s2).2 := ⟨_, rfl⟩
      obtain ⟨m, hm⟩ : ∃ m, m = (numS 3 s3).1 := ⟨_, rfl⟩
      obtain ⟨s4, hs4⟩ : ∃ s4, s4 = (numS 3 s3).2 := ⟨_, rfl⟩
      have hdl : d.length ≤ 80 := by have := textS_le s2 (most := 80) (by decide); rw [← hd] at this; omega
      have hmr := numS_range s3 (most := 3) (by decide)
      rw [← hm] at hmr
      have hget' : getN K s1 = ((lst ++ [ent d m]) ++ (getN f s4).1, (getN f s4).2) := by rw [hget, getN, ← hs3, ← hd, ← hm, ← hs4]; simp
      have htx := ttextS_any g ok1 s2 80 wr hT
      unfold mkStr at htx
      rw [← hd, ← hs3] at htx
      have hnx := fun W hW => tnumS_any g ok1 s3 3 W hW
      rw [← hm, ← hs4] at hnx
      have hE : ∀ (W : World) (T : Nat → Prop), EntryR.rel W T [.string ⟨d.toArray⟩, .int .i64 m] (ent d m) := fun W T => EntryR_mk _ _ (ent d m) (by rw [show (ent d m).cat.size = d.length from mkStr_size d]; omega) (by rw [lev_ent]; exact inR_mk (by omega))
      have HX := Lib.hid (And.intro hi (And.intro hll (And.intro hget' (And.intro hO (And.intro htx (And.intro hnx (And.intro hmod hE)))))))
      clear hi hll hget hget' hO htx hnx hmod hE hT hd hs3 hm hs4 hmr
      go_wp2_with fail
      refine HX.out.2.2.2.2.1.mono ?_
      rintro r w2 ⟨rfl, ht2, hm2⟩
      have H2 := Lib.hid (And.intro (HX.out.2.2.2.2.2.1 w2 ht2) hm2); clear ht2 hm2
      go_wp2_with fail
      refine H2.out.1.mono ?_
      rintro r w3 ⟨rfl, ht3, hm3⟩
      have hmr3 := H2.out.2.trans hm3 (fun _ h => .inl h)
      have hm03 := HX.out.2.2.2.2.2.2.1.trans hmr3 (fun _ h => .inl h)
      have hO3 := HX.out.2.2.2.1.mod hmr3 (fun k hk e => by obtain ⟨cells, hown, _⟩ := HX.out.2.2.2.1; have h1 := (own_lt hown k hk).1; have h2 := H0.out.2.2.2.1; omega) (fun _ h => h.elim)
      have hsz := hm03.size
      have hll := HX.out.2.1
      have H3 := Lib.hid (And.intro hO3 (And.intro ht3 (And.intro hm03 hsz))); clear ht3 hm3 hmr3 hm03 hO3 hsz
      go_wp2_with (first
        | (refine wpList_slice1_agg rfl 34 129 _ rfl Tryz.underlying34 zeroEnt.toArray [.string ⟨d.toArray⟩, .int .i64 m] Tryz.info_ent2 (by decide) rfl rfl ?_)
        | (at_builtin; refine append_rd (R := EntryR) w.heap.size rfl _ _ 34 129 (.agg zeroEnt.toArray) 24 rfl Tryz.underlying34 Tryz.info_ent3 rfl (by decide) (.slice A i c) lst (ent d m) [.string ⟨d.toArray⟩, .int .i64 m] (fun _ => False) rfl rfl H3.out.1 (HX.out.2.2.2.2.2.2.2 _ _) H3.out.2.2.2 (by rw [hll]; omega) ?_))
      intro A8 c8 w8 hO8 hm8 hn8
      have hne : ∀ k, (Value.slice A i c).ownBlock = some k → w.heap.size ≤ k := fun k hk => by obtain ⟨cells, hown, _⟩ := H3.out.1; exact (own_lt hown k hk).1
      have hap : ∀ k, ok1 k → ¬ (Value.slice A i c).ownBlock = some k := fun k hk e => by have h1 := hne k e; have h2 := H0.out.2.2.2.2.2 k hk; omega
      have hm08 := H3.out.2.2.1.trans hm8 (fun k hk => .inr (hne k hk))
      have H8 := Lib.hid (And.intro hO8 (And.intro (H3.out.2.1.mod hm8 (fun hk => by have := hne _ hk; have := H0.out.2.2.2.1; omega) hap) hm08)); clear hO8 hm8 hn8 hm08 hne hap
      go_wp2_with fail
      go_roundg f
      case measure => omega
      case rel => exact ⟨i + 1, A8, c8, lst ++ [ent d m], s4, by go_num, rfl, by have := HX.out.1; omega, by simp; omega, HX.out.2.2.1, H8.out.1, H8.out.2.1, H8.out.2.2⟩
    · obtain rfl : gk = 0 := by omega
      obtain rfl : i = K := by omega
      have hget' : getN i s1 = (lst, s2) := by rw [hget]; simp [getN]
      have hzz := H0.out.2.1
      rw [hget'] at hzz
      have her := terrS_any g ok1 s2 wr hT
      have hrd := hO.reads (bytes := 24) (by omega)
      have hrt := fun E => rightLab_any A i c lst _ wr hrd E
      have hrt2 := hrt (H0.out.2.2.1 wr hmod)
      have HX := Lib.hid (And.intro hO (And.intro hT (And.intro hmod (And.intro hzz (And.intro her (And.intro hrt2 hll))))))
      clear hi hll hget hget' hO hT hmod hzz her hrd hrt hrt2
      by_cases hs : s2.2 = 0
      · go_wp2_with fail
        refine HX.out.2.2.2.2.1.mono ?_
        rintro r w2 ⟨e, rfl, he, -, rfl⟩
        obtain rfl := he hs
        cases hrb : rightLB lst with
        | true =>
          have hrt := HX.out.2.2.2.2.2.1
          rw [hrb] at hrt
          have hz' : z = (lst, 0, s2) := by rw [HX.out.2.2.2.1, if_neg (by simp [hs, hrb])]
          have HR := Lib.hid hrt; clear hrt hrb hs
          subst hz'
          go_wp2_with fail
          refine HR.out.mono ?_
          rintro r w3 ⟨rfl, hm3⟩
          have H3 := Lib.hid hm3; clear hm3
          go_wp2_with fail
          go_ret2
          have hll := HX.out.2.2.2.2.2.2
          subst hll
          exact ⟨A, c, rfl, HX.out.1.mod H3.out (fun _ _ => id) (fun _ _ _ => id), H0.out.2.2.2.2.1 _ (HX.out.2.1.mod H3.out id (fun _ _ => id)), tr0 HX.out.2.2.1 H3.out⟩
        | false =>
          have hrt := HX.out.2.2.2.2.2.1
          rw [hrb] at hrt
          have hz' : z = ([], 10, s2) := by rw [HX.out.2.2.2.1, if_pos (.inr hrb)]
          have HR := Lib.hid hrt; clear hrt hrb hs
          subst hz'
          go_wp2_with fail
          refine HR.out.mono ?_
          rintro r w3 ⟨rfl, hm3⟩
          have H3 := Lib.hid hm3; clear hm3
          go_wp2_with fail
          go_ret2
          exact ⟨none, 0, rfl, OwnR.nil _ _ _ _ _, H0.out.2.2.2.2.1 _ (HX.out.2.1.mod H3.out id (fun _ _ => id)), tr0 HX.out.2.2.1 H3.out⟩
      · have hz' : z = ([], 10, s2) := by rw [HX.out.2.2.2.1, if_pos (.inl hs)]
        go_wp2_with fail
        refine HX.out.2.2.2.2.1.mono ?_
        rintro r w2 ⟨e, rfl, -, he, rfl⟩
        obtain ⟨T, p, rfl⟩ := he hs
        clear he hs
        subst hz'
        go_wp2_with fail
        go_ret2
        exact ⟨none, 0, rfl, OwnR.nil _ _ _ _ _, H0.out.2.2.2.2.1 _ HX.out.2.1, HX.out.2.2.1⟩
end Go.Proofs.YtefedalnafjcfaaGreatDoor

namespace Go.Proofs.YtefedalnafjcfaaGreatDoor
open Go.RowKit Go.Shelf
set_option linter.unusedVariables false
def encN (n : Int) : List UInt8 := if 0 ≤ n ∧ n ≤ 4611686018427387903 then encF 10 n else []
def encEn (e : Entry) : List UInt8 := (encF 10 (nm e).length ++ nm e) ++ encN e.level
def encL (l : List Entry) : List UInt8 := encF 10 l.length ++ l.flatMap encEn
theorem encN_len (n : Int) : (encN n).length ≤ 10 := by
  unfold encN
  split
  · exact encF_len 10 n
  · simp
theorem encEn_len (e : Entry) (h : (nm e).length ≤ 1100000) : (encEn e).length ≤ 1100020 := by
  unfold encEn
  have h1 := encF_len 10 ((nm e).length : Int)
  have h2 := encN_len e.level
  simp only [List.length_append]
  omega
theorem flat_len : ∀ (l : List Entry), (∀ e ∈ l, (nm e).length ≤ 1100000) → (l.flatMap encEn).length ≤ 1100020 * l.length
  | [], _ => by simp
  | e :: r, h => by
    have h1 := flat_len r fun x hx => h x (List.mem_cons_of_mem _ hx)
    have h2 := encEn_len e (h e List.mem_cons_self)
    rw [List.flatMap_cons, List.length_append, List.length_cons, Nat.mul_succ]
    omega
end Go.Proofs.YtefedalnafjcfaaGreatDoor

namespace Go.Proofs.YtefedalnafjcfaaGreatDoor
open Go.RowKit
set_option linter.unusedVariables false
theorem dec_len (j : Nat) : ∀ m : Nat, m < 10 ^ (j + 1) → (Lib.decDigits m).length ≤ j + 1 := by
  induction j with
  | zero =>
    intro m h
    rw [Lib.decDigits_one (by simpa using h)]; simp
  | succ j ih =>
    intro m h
    by_cases h10 : m < 10
    · rw [Lib.decDigits_one h10]; simp
    · have h1 := ih (m / 10) (by rw [Nat.div_lt_iff_lt_mul (by decide)]; rwa [Nat.pow_succ] at h)
      rw [dec_step m (by omega), List.length_append]
      simp only [List.length_cons, List.length_nil]
      omega
theorem itoa_len7 (k : Int) (h0 : 0 ≤ k) (h1 : k ≤ 1048576) : (Lib.itoa k).length ≤ 7 := by
  obtain ⟨u, rfl⟩ : ∃ u : Nat, k = u := ⟨k.toNat, by omega⟩
  rw [Lib.itoa_nonneg]
  exact dec_len 6 u (by have : (10 : Nat) ^ (6 + 1) = 10000000 := by decide
                        omega)
theorem pathT_len8 : ∀ l : List Int, (∀ k ∈ l, 0 ≤ k ∧ k ≤ 1048576) → (pathT l).length ≤ 8 * l.length
  | [], _ => by simp [pathT]
  | [a], h => by
    have := itoa_len7 a (h a (by simp)).1 (h a (by simp)).2
    simp only [pathT, List.length_cons, List.length_nil]; omega
  | a :: b :: l, h => by
    have h1 := itoa_len7 a (h a (by simp)).1 (h a (by simp)).2
    have h2 := pathT_len8 (b :: l) (fun x hx => h x (List.mem_cons_of_mem _ hx))
    simp only [pathT, List.length_append, List.length_cons] at h2 ⊢
    omega
theorem rightB_len {c : List UInt8} (h : rightB c = true) : c.length ≤ 80 := by
  unfold rightB at h
  obtain ⟨⟨p, n⟩, hp⟩ := Option.isSome_iff_exists.1 h
  obtain ⟨hf, rfl⟩ := parse_iff.1 hp
  simp only [fitsB, Bool.and_eq_true, decide_eq_true_eq, List.all_eq_true] at hf
  obtain ⟨⟨⟨h1, h2⟩, h3⟩, h4⟩ := hf
  have h5 := pathT_len8 p h4
  have h6 := itoa_len7 n h1 (by omega)
  simp only [catT, List.length_append, List.length_cons]
  omega
theorem right_names {l : List Entry} (h : RightL l) : ∀ e ∈ l, (nm e).length ≤ 80 ∧ 0 ≤ e.level ∧ e.level ≤ 3 := fun e he => by
  obtain ⟨h1, h2, h3, _⟩ := h.each e he
  exact ⟨rightB_len h1, h2, h3⟩
theorem numS_enc {most n : Int} (rest : List UInt8) (h0 : 0 ≤ n) (h1 : n ≤ 4611686018427387903) (hm : n ≤ most) : numS most (encF 10 n ++ rest, 0) = (n, (rest, 0)) := by
  unfold numS
  rw [if_neg (by simp), numD_enc rest h0 h1 hm]
theorem textS_enc {most : Int} (s rest : List UInt8) (hs : (s.length : Int) ≤ most) (hl : s.length ≤ 4611686018427387903) : textS most (encF 10 s.length ++ (s ++ rest), 0) = (s, (rest, 0)) := by
  unfold textS
  rw [if_neg (by simp), textD_enc s rest hs hl]
theorem getN_enc : ∀ (l : List Entry) (rest : List UInt8), (∀ e ∈ l, (nm e).length ≤ 80 ∧ 0 ≤ e.level ∧ e.level ≤ 3) → getN l.length (l.flatMap encEn ++ rest, 0) = (l, (rest, 0))
  | [], rest, _ => by simp [getN]
  | e :: l, rest, h => by
    obtain ⟨h1, h2, h3⟩ := h e List.mem_cons_self
    have ih := getN_enc l rest fun x hx => h x (List.mem_cons_of_mem _ hx)
    have hl : (e :: l).flatMap encEn ++ rest = encF 10 (nm e).length ++ (nm e ++ (encF 10 e.level ++ (l.flatMap encEn ++ rest))) := by
      rw [List.flatMap_cons, encEn, encN, if_pos ⟨h2, by omega⟩]; simp
    rw [hl, List.length_cons, getN, textS_enc (nm e) _ (by omega) (by omega)]
    simp only
    rw [numS_enc _ h2 (by omega) h3]
    simp only
    rw [ih]
    obtain ⟨d, m, rfl⟩ := ent_cases e
    rw [nm_ent, lev_ent]
theorem getL_enc {l : List Entry} (h : RightL l) (rest : List UInt8) : getL (encL l ++ rest, 0) = (l, 0, (rest, 0)) := by
  have h8 := h.len
  have hl : encL l ++ rest = encF 10 (l.length : Int) ++ (l.flatMap encEn ++ rest) := by unfold encL; simp
  unfold getL
  rw [hl, numS_enc _ (by omega) (by omega) (by omega)]
  simp only [Int.toNat_natCast]
  rw [getN_enc l rest (right_names h)]
  rw [if_neg (by simp [rightLB_iff.2 h])]
end Go.Proofs.YtefedalnafjcfaaGreatDoor

namespace Go.Proofs.YtefedalnafjcfaaGreatDoor
open Go.RowKit
set_option linter.unusedVariables false
abbrev Nm := List UInt8
/-- A list of names is read. -/
def nmsR : Rd (List Nm) := Rd.iso strsR (fun l => l.map mkStr)
theorem nms_row {w : World} {ok : Nat → Prop} {A : Option Addr} {n c : Nat} {l : List Nm} (h : nmsR.rel w ok [.slice A n c] l) :
    n = l.length ∧ l.length ≤ c ∧ l.length * 16 ≤ 140737488355328 ∧ (A = none → c = 0) ∧ ∀ j x, l[j]? = some x → ∃ ad, A = some ad ∧ ok ad.block ∧ w.cell? (ad.add j) = some (.string ⟨x.toArray⟩) ∧ x.length ≤ 140737488355328 := by
  obtain ⟨A', c', hv, h2, h3, h4, h5, h6⟩ := h
  simp only [List.cons.injEq, Value.slice.injEq, and_true] at hv
  obtain ⟨rfl, hn, rfl⟩ := hv
  rw [List.length_map] at hn h2 h4
  refine ⟨hn, h2, h4, h5, fun j x hj => ?_⟩
  have hj' : (l.map mkStr)[j]? = some (mkStr x) := by rw [List.getElem?_map, hj]; rfl
  obtain ⟨ad, cs, hA, hok, ⟨rfl, hl⟩, hc⟩ := Rd.RowOf.at_ h6 hj'
  have := hc 0 _ rfl
  rw [show j * Rd.string.sz + 0 = j from Nat.mul_one j] at this
  exact ⟨ad, hA, hok, this, by rwa [mkStr_size] at hl⟩
theorem nms_le {w : World} {ok : Nat → Prop} {A : Option Addr} {n c : Nat} {l : List Nm} (h : nmsR.rel w ok [.slice A n c] l) : ∀ x ∈ l, x.length ≤ 140737488355328 := fun x hx => by
  obtain ⟨j, hj⟩ := List.getElem?_of_mem hx
  obtain ⟨_, _, _, _, h⟩ := (nms_row h).2.2.2.2 j x hj
  exact h
/-- names of the call's own are read -/
theorem nms_own {w : World} {base : Nat} {T : TypeId} {v : Value} {xs : List Nm} (h : w.ownsRow base T 1 v xs.length (scells xs)) (hr : ∀ x ∈ xs, x.length ≤ 140737488355328) (hl : xs.length ≤ 8796093022208) : nmsR.rel w (fun k => v.ownBlock = some k) [v] xs :=
  reads_strs h hr (by omega)
/-- Right: an ownership. -/
structure RightO (l : List Nm) : Prop where
  len : l.length ≤ 8
  each : ∀ c ∈ l, rightB c = true
  asc : l.Pairwise ltB
noncomputable def rightO (l : List Nm) : Bool := @decide (RightO l) (Classical.propDecidable _)
theorem rightO_iff {l : List Nm} : rightO l = true ↔ RightO l := by unfold rightO; exact @decide_eq_true_iff _ (Classical.propDecidable _)
theorem sortS_fix {l : List Nm} : sortS l = l ↔ (∀ c ∈ l, rightB c = true) ∧ l.Pairwise ltB := by
  constructor
  · intro h
    have h1 := sortS_spec l
    rw [h] at h1
    exact ⟨fun c hc => ((h1.2 c).1 hc).2, h1.1⟩
  · rintro ⟨h1, h2⟩
    exact strict_unique ltB_irr ltB_tr (sortS_spec l).1 h2 fun x => by rw [(sortS_spec l).2]; exact ⟨fun h => h.1, fun h => ⟨h, h1 x h⟩⟩
theorem rightO_code (l : List Nm) : rightO l = (decide (l.length ≤ 8) && decide (sortS l = l)) := by
  rw [Bool.eq_iff_iff, rightO_iff, Bool.and_eq_true, decide_eq_true_eq, decide_eq_true_eq, sortS_fix]
  exact ⟨fun h => ⟨h.len, h.each, h.asc⟩, fun h => ⟨h.1, h.2.1, h.2.2⟩⟩
theorem rightO_names {l : List Nm} (h : RightO l) : ∀ c ∈ l, c.length ≤ 80 := fun c hc => rightB_len (h.each c hc)
/-- What Put writes. -/
def encC (c : Nm) : List UInt8 := encF 10 c.length ++ c
def encO (l : List Nm) : List UInt8 := encF 10 l.length ++ l.flatMap encC
theorem encC_len (c : Nm) (h : c.length ≤ 1100000) : (encC c).length ≤ 1100010 := by
  unfold encC
  have := encF_len 10 (c.length : Int)
  simp only [List.length_append]
  omega
theorem flatC_len : ∀ (l : List Nm), (∀ c ∈ l, c.length ≤ 1100000) → (l.flatMap encC).length ≤ 1100010 * l.length
  | [], _ => by simp
  | e :: r, h => by
    have h1 := flatC_len r fun x hx => h x (List.mem_cons_of_mem _ hx)
    have h2 := encC_len e (h e List.mem_cons_self)
    rw [List.flatMap_cons, List.length_append, List.length_cons, Nat.mul_succ]
    omega
end Go.Proofs.YtefedalnafjcfaaGreatDoor

