/- Layer 5, the laws: CatsSorts. -/
import Derived.Test.YtgdadhpcooegnaaDoorCats18
import Derived.Test.YtgdadhpcooegnaaDoorQuiet
import Derived.Maps.Views
import Derived.StringKeys
import Derived.Carry
namespace Go.Proofs.YtgdadhpcooegnaaDoor
open Go.RowKit Go.Shelf
set_option linter.unusedVariables false
theorem own_strs {w : World} {base : Nat} {e : TypeId} {v : Value} {xs : List (List UInt8)} (h : w.ownsRow base e 1 v xs.length (scells xs)) (hr : ∀ x ∈ xs, x.length ≤ 140737488355328) (S : Nat → Prop) : OwnR Rd.string e w base S v (xs.map mkStr) := by
  refine ⟨scells xs, by rw [List.length_map]; exact h, fun j x hj => ?_⟩
  rw [List.getElem?_map, Option.map_eq_some_iff] at hj
  obtain ⟨y, hy, rfl⟩ := hj
  refine ⟨?_, by rw [mkStr_size]; exact hr y (List.mem_of_getElem? hy)⟩
  show ((scells xs).drop (j * 1)).take 1 = _
  rw [Nat.mul_one]
  have : (scells xs)[j]? = some (.string (mkStr y)) := by simp [scells, hy, encS, mkStr]
  have hlt := (List.getElem?_eq_some_iff.1 this).1
  rw [List.drop_eq_getElem_cons hlt]
  simp [(List.getElem?_eq_some_iff.1 this).2]
theorem reads_strs {w : World} {base : Nat} {e : TypeId} {v : Value} {xs : List (List UInt8)} (h : w.ownsRow base e 1 v xs.length (scells xs)) (hr : ∀ x ∈ xs, x.length ≤ 140737488355328) (hl : xs.length * 16 ≤ 140737488355328) : strsR.rel w (fun k => v.ownBlock = some k) [v] (xs.map mkStr) :=
  Rd.mono ((own_strs h hr (fun _ => False)).reads (bytes := 16) (by rw [List.length_map]; exact hl)) (fun _ hk => hk.elim False.elim id)
theorem map_back (xs : List (List UInt8)) : (xs.map mkStr).map (fun s => s.data.toList) = xs := by
  rw [List.map_map]
  exact (List.map_congr_left (fun x _ => mkStr_list x)).trans (List.map_id xs)
theorem sortS_idem (l : List (List UInt8)) : sortS (sortS l) = sortS l := by
  refine strict_unique ltB_irr ltB_tr (sortS_spec _).1 (sortS_spec l).1 fun x => ?_
  rw [(sortS_spec _).2, (sortS_spec l).2]
  exact ⟨fun h => h.1, fun h => ⟨h, h.2⟩⟩
/-! a set of texts -/
def setD (l : List (List UInt8)) : DataW Unit := Maps.setOf (.lit (.bool true)) (l.map Lit.string)
theorem setD_snoc (l : List (List UInt8)) (x : List UInt8) : setD (l ++ [x]) = (setD l).put (.string x) (.lit (.bool true)) := by unfold setD; rw [List.map_append]; exact Maps.setOf_snoc _ _ _
theorem isKey_str (s : List UInt8) : WideAt.IsKeyLit (.string s) := trivial
theorem setD_map (l : List (List UInt8)) : Maps.IsMap (setD l) := by
  induction l using snoc_ind with
  | h0 => exact Maps.isMap_empty
  | h1 l a ih => rw [setD_snoc]; exact ih.put _ _
theorem setD_at (l : List (List UInt8)) (x : List UInt8) : (setD l).atKey (.string x) (.lit (.bool false)) = .lit (.bool (decide (x ∈ l))) := by
  induction l using snoc_ind with
  | h0 => rfl
  | h1 l a ih =>
    rw [setD_snoc]
    by_cases h : a = x
    · subst h
      rw [Maps.atKey_put_same (setD_map l) (isKey_str a)]
      simp
    · rw [Maps.atKey_put_other (by intro e; injection e with e; exact h e.symm), ih]
      have : x ≠ a := fun e => h e.symm
      simp [this]
theorem strKey : Maps.Keyed Tryd.prog 9 := Maps.string_keyed Tryd.underlying9
theorem zeroB (w : World) : (zeroValue 4).run Tryd.prog w = .ok (.bool false) w := by kernel_rfl
set_option maxRecDepth 100000 in
theorem plainB_inv {v : Value} {b : Bool} {ps : List MemPlace} (h : plainElem (H := Unit) Tryd.prog 4 v = some (.lit (.bool b), ps)) : v = .bool b := by
  unfold plainElem at h
  rw [Tryd.underlying4] at h
  cases v <;> simp at h
  rw [h.1]
theorem look_set {w : World} {b n : Nat} {l : List (List UInt8)} (h : w.ownsMap Tryd.prog 9 (plainElem (H := Unit) Tryd.prog 4) b n (setD l)) (x : List UInt8) (hx : x.length ≤ 140737488355328) :
    (Instr.lookup 42 (.map (some b)) (.string ⟨x.toArray⟩) false).run Tryd.prog w = .ok (.bool (decide (x ∈ l))) w := by
  have hk : keyOf Tryd.prog 9 (.string ⟨x.toArray⟩) = some (.string x) := WideMaps.keyOf_string_mk Tryd.underlying9 (s := ⟨x.toArray⟩) (by show x.length ≤ _; simp only [maxLen]; omega)
  obtain ⟨v, ps, hrun, hv⟩ := h.lookup strKey (e := 4) Tryd.underlying42 (zeroB w) (plainElem_bool Tryd.underlying4 false) hk
  rw [setD_at] at hv
  rw [hrun, plainB_inv hv]
theorem strsR_le {w : World} {ok : Nat → Prop} {cs : List Value} {xs : List ByteArray} (h : strsR.rel w ok cs xs) : ∀ x ∈ xs, x.size ≤ 140737488355328 := by
  obtain ⟨A, c, _, _, _, _, _, h6⟩ := h
  intro x hx
  obtain ⟨j, hj⟩ := List.getElem?_of_mem hx
  obtain ⟨_, _, _, _, hr⟩ := RowOf.strs h6 hj
  exact hr
theorem sortS_len (l : List (List UInt8)) : (sortS l).length ≤ l.length := by rw [← sortR_eq]; exact sortR_len l
theorem map_mod {S : Nat → Prop} {w w' : World} {b n : Nat} {D : DataW Unit} (h : w.ownsMap Tryd.prog 9 (plainElem (H := Unit) Tryd.prog 4) b n D) (hm : Mod S w w') (hb : ¬ S b) : w'.ownsMap Tryd.prog 9 (plainElem (H := Unit) Tryd.prog 4) b n D := by
  have hlt := h.lt
  obtain ⟨es, clock, h1, F, h2, h3⟩ := h
  exact ⟨es, clock, (hm.block b hlt hb).trans h1, F, h2, h3⟩
set_option maxRecDepth 100000 in
set_option maxHeartbeats 4000000 in
theorem catsSorts_mod (A : Option Addr) (m c : Nat) (ls : List ByteArray) (w : World) (ok : Nat → Prop) (h : strsR.rel w ok [.slice A m c] ls) (E : Env w) :
    Calls Tryd.prog 6 #[.slice A m c] w fun r w' => r = .returned (.bool true) ∧ Mod (fun _ => False) w w' := by
  obtain ⟨rfl, hcap, hmx, hbig, -, -⟩ := strs_row h
  have hle := strsR_le h
  have H0 := Lib.hid (And.intro E (And.intro h hle)); clear E h hle
  go_enter Tryd.func6, Tryd.ntmps6
  go_wp2_with fail
  refine (first_any w H0.out.1).mono ?_
  rintro r w1 ⟨rfl, hm⟩
  have H1 := Lib.hid (And.intro hm (Rd.mod (Rd.bound H0.out.2.1) hm (fun _ _ => id))); clear hm
  go_wp2_with fail
  go_loopg [3, 17] ls.length (fun f sn si wr => ∃ (i : Nat) (v : Int), si = .int .i64 i ∧ sn = .int .i64 v ∧ i + f = ls.length ∧ Mod (fun _ => False) w1 wr)
  case atStart => exact ⟨0, 0, rfl, rfl, by omega, .refl _ _⟩
  case round =>
    obtain ⟨i, v, rfl, rfl, hi, hmod⟩ := hrel
    have hrow := Rd.mod (Rd.bound H1.out.2) hmod (fun _ _ => id)
    by_cases hlt : i < ls.length
    · obtain ⟨x, hx⟩ : ∃ x, ls[i]? = some x := ⟨ls[i], by simp [hlt]⟩
      obtain ⟨ad, rfl, -, hcx, hxs⟩ := RowOf.strs (strs_row hrow).2.2.2.2.2 hx
      have HX := Lib.hid (And.intro hi hmod); clear hi hmod hrow hx
      go_wp2_with fail
      go_roundg (gk - 1)
      case measure => have := HX.out.1; omega
      case rel => exact ⟨i + 1, _, by go_num, rfl, by have := HX.out.1; omega, HX.out.2⟩
    · by_cases hv : 1500 < v
      · have e1 : decide (1500 < v) = true := by simp; omega
        have HX := Lib.hid hmod; clear hmod hi hrow
        go_wp2_with fail
        go_ret
        exact ⟨rfl, tr0 H1.out.1 HX.out⟩
      have e1 : decide (1500 < v) = false := by simp; omega
      have hm2 := tr0 H1.out.1 hmod
      have hsort := sort_any A ls.length c ls _ wr hrow (by omega) H0.out.2.2 (H0.out.1.mod0 hm2)
      obtain ⟨l, hl⟩ : ∃ l, l = ls.map fun s => s.data.toList := ⟨_, rfl⟩
      have hll : l.length = ls.length := by rw [hl]; simp
      have hlx : ∀ x ∈ l, x.length ≤ 140737488355328 := by
        intro x hx
        rw [hl] at hx
        obtain ⟨s, hs, rfl⟩ := List.mem_map.1 hx
        exact H0.out.2.2 s hs
      rw [← hl] at hsort
      obtain ⟨zs, hzs⟩ : ∃ zs, zs = sortS l := ⟨_, rfl⟩
      have hzl : zs.length ≤ l.length := by rw [hzs]; exact sortS_len l
      have hzp : zs.Pairwise ltB := by rw [hzs]; exact (sortS_spec l).1
      have hzm : ∀ x, x ∈ zs ↔ x ∈ l ∧ rightB x = true := by rw [hzs]; exact (sortS_spec l).2
      have hzi : sortS zs = zs := by rw [hzs]; exact sortS_idem l
      have hzx : ∀ x ∈ zs, x.length ≤ 140737488355328 := fun x hx => hlx x ((hzm x).1 hx).1
      rw [← hzs] at hsort
      have HL := Lib.hid (And.intro hl (And.intro hlx (And.intro hzp (And.intro hzm (And.intro hzi hzx)))))
      have HX := Lib.hid (And.intro hm2 hrow)
      have hzb : zs.length ≤ 8796093022208 := by omega
      clear hi hmod hm2 hrow hl hlx hzs hzp hzm hzi hzx hv
      go_wp2_with fail
      refine hsort.mono ?_
      rintro r w2 ⟨A2, c2, rfl, ho2, hm2⟩
      have hrd := reads_strs ho2 HL.out.2.2.2.2.2 (by omega)
      have hst2 := sort_any A2 zs.length c2 (zs.map mkStr) _ w2 hrd (by rw [List.length_map]; omega) (fun s hs => by
        obtain ⟨x, hx, rfl⟩ := List.mem_map.1 hs
        rw [mkStr_size]; exact HL.out.2.2.2.2.2 x hx) (H0.out.1.mod0 (tr0 HX.out.1 hm2))
      rw [map_back, HL.out.2.2.2.2.1] at hst2
      have H2 := Lib.hid (And.intro (tr0 HX.out.1 hm2) (And.intro ho2 (Rd.mod (Rd.bound HX.out.2) hm2 (fun _ _ => id)))); clear hm2 ho2 hsort hrd
      go_wp2_with fail
      refine hst2.mono ?_
      rintro r w3 ⟨A3, c3, rfl, ho3, hm3⟩
      have H3 := Lib.hid (And.intro (tr0 H2.out.1 hm3) (And.intro (own_move H2.out.2.1 (fun k hk => hm3.block k (own_lt H2.out.2.1 k hk).2 id)) (And.intro ho3 (Rd.mod (Rd.bound H2.out.2.2) hm3 (fun _ _ => id))))); clear hm3 ho3 hst2 H2 HX
      have hmk := run_makeMap (P := Tryd.prog) 42 w3
      go_wp2_with fail
      clear hmk
      obtain ⟨W4, hW4⟩ : ∃ W4, W4 = w3.alloc (.map #[] 0) := ⟨_, rfl⟩
      have hmap : W4.ownsMap Tryd.prog 9 (plainElem (H := Unit) Tryd.prog 4) w3.heap.size 0 (setD []) := by rw [hW4]; exact World.ownsMap_made w3 _ _ _
      have hm4 : Mod (fun _ => False) w3 W4 := by rw [hW4]; exact (Mod.refl _ _).alloc _
      obtain ⟨mb, hmb⟩ : ∃ mb, mb = w3.heap.size := ⟨_, rfl⟩
      rw [← hW4, ← hmb]
      rw [← hmb] at hmap
      have hmb0 : w.heap.size ≤ mb := by rw [hmb]; exact H3.out.1.size
      have hne2 : ∀ k, (Value.slice A2 zs.length c2).ownBlock = some k → k < mb := fun k hk => by rw [hmb]; exact (own_lt H3.out.2.1 k hk).2
      have hne3 : ∀ k, (Value.slice A3 zs.length c3).ownBlock = some k → k < mb := fun k hk => by rw [hmb]; exact (own_lt H3.out.2.2.1 k hk).2
      have hrow4 := Rd.mod (Rd.bound H3.out.2.2.2) hm4 (fun _ _ => id)
      rw [← hmb] at hrow4
      have H4 := Lib.hid (And.intro (tr0 H3.out.1 hm4) (And.intro (own_move H3.out.2.1 (fun k hk => hm4.block k (own_lt H3.out.2.1 k hk).2 id)) (And.intro (own_move H3.out.2.2.1 (fun k hk => hm4.block k (own_lt H3.out.2.2.1 k hk).2 id)) (And.intro hrow4 (And.intro hmb0 (And.intro hne2 (And.intro hne3 hmap)))))))
      clear hW4 hmap hm4 hmb hmb0 hne2 hne3 hrow4 H3
      go_loopg [36] zs.length (fun f si wr => ∃ (i : Nat), si = .int .i64 i ∧ i + f = zs.length ∧ wr.ownsMap Tryd.prog 9 (plainElem (H := Unit) Tryd.prog 4) mb i (setD (zs.take i)) ∧ Mod (fun k => k = mb) W4 wr)
      case atStart => exact ⟨0, rfl, by omega, by rw [List.take_zero]; exact H4.out.2.2.2.2.2.2.2, .refl _ _⟩
      case round =>
        obtain ⟨i, rfl, hi, hmap, hmod⟩ := hrel
        by_cases hlt : i < zs.length
        · obtain ⟨x, hx⟩ : ∃ x, zs[i]? = some x := ⟨zs[i], by simp [hlt]⟩
          have hxz : x ∈ zs := List.mem_of_getElem? hx
          have hxl := HL.out.2.2.2.2.2 x hxz
          have hxr : rightB x = true := ((HL.out.2.2.2.1 x).1 hxz).2
          obtain ⟨g2, d2, hv2, hc2⟩ := own_row H4.out.2.1 hx
          obtain ⟨rfl, rfl⟩ : A2 = some ⟨g2, 0, none⟩ ∧ c2 = d2 := by simpa using hv2
          obtain ⟨g3, d3, hv3, hc3⟩ := own_row H4.out.2.2.1 hx
          obtain ⟨rfl, rfl⟩ : A3 = some ⟨g3, 0, none⟩ ∧ c3 = d3 := by simpa using hv3
          have hg2 : g2 ≠ mb := Nat.ne_of_lt (H4.out.2.2.2.2.2.1 g2 rfl)
          have hg3 : g3 ≠ mb := Nat.ne_of_lt (H4.out.2.2.2.2.2.2.1 g3 rfl)
          have hm0 : Mod (fun _ => False) w wr := H4.out.1.trans hmod (fun k hk => .inr (by rw [hk]; exact H4.out.2.2.2.2.1))
          have htk : zs.take (i + 1) = zs.take i ++ [x] := by rw [List.take_add_one, hx]; rfl
          have hcat : ∀ W, Mod (fun _ => False) wr W → W.cell? ⟨g2, i, none⟩ = some (.string ⟨x.toArray⟩) ∧ W.cell? ⟨g3, i, none⟩ = some (.string ⟨x.toArray⟩) := fun W hW =>
            ⟨((hmod.trans hW (fun _ h => h.elim)).cell (cell_lt hc2) hg2).trans hc2, ((hmod.trans hW (fun _ h => h.elim)).cell (cell_lt hc3) hg3).trans hc3⟩
          have kc := (hcat wr (.refl _ _)).1
          have e2 : (x != x) = false := by simp
          have hkey : keyOf Tryd.prog 9 (.string ⟨x.toArray⟩) = some (.string x) := WideMaps.keyOf_string_mk Tryd.underlying9 (s := ⟨x.toArray⟩) (by show x.length ≤ _; simp only [maxLen]; omega)
          have hright := fun W E => right_any x hxl W E
          rw [hxr] at hright
          by_cases hi0 : i = 0
          · subst hi0
            have HX := Lib.hid (And.intro hi (And.intro hmap (And.intro hmod (And.intro hm0 (And.intro htk (And.intro hcat (And.intro hkey hright)))))))
            clear hi hmap hmod hm0 htk hcat hkey hright hc2 hc3 hv2 hv3 hg2 hg3 hx hxz hxr
            go_wp2_with fail
            refine (HX.out.2.2.2.2.2.2.2 wr (H0.out.1.mod0 HX.out.2.2.2.1)).mono ?_
            rintro r w5 ⟨rfl, hm5⟩
            have j3 := (HX.out.2.2.2.2.2.1 w5 hm5).2
            have H5 := Lib.hid (And.intro hm5 (map_mod HX.out.2.1 hm5 id))
            clear hm5 kc
            go_wp2_with (at_mapUpdate; refine wpList_mapUpdate_own _ rfl _ _ _ 42 rfl 9 4 strKey Tryd.underlying42 _ mb _ _ rfl H5.out.2 (by simp only [maxLen]; omega) _ _ _ rfl rfl HX.out.2.2.2.2.2.2.1 (.lit (.bool true)) [] (plainElem_bool Tryd.underlying4 true) ?_)
            intro w6 hown6 hg6
            have H6 := Lib.hid (And.intro hown6 hg6); clear hown6 hg6
            go_wp2_with fail
            go_roundg (gk - 1)
            case measure => have := HX.out.1; omega
            case rel => exact ⟨0 + 1, by go_num, by have := HX.out.1; omega, by rw [HX.out.2.2.2.2.1, setD_snoc]; exact H6.out.1, (tr0 HX.out.2.2.1 H5.out.1).grown H6.out.2 (fun k hk => .inl (by injection hk))⟩
          · obtain ⟨k, hk⟩ : ∃ k, i = k + 1 := ⟨i - 1, by omega⟩
            obtain ⟨y, hy⟩ : ∃ y, zs[k]? = some y := ⟨_, List.getElem?_eq_getElem (by omega)⟩
            have hyz : y ∈ zs := List.mem_of_getElem? hy
            have hyl := HL.out.2.2.2.2.2 y hyz
            have hlt2 : cmpB y x = -1 := by
              have h1 : ltB y x := by
                have := List.pairwise_iff_getElem.1 HL.out.2.2.1 k i (by omega) hlt (by omega)
                rw [List.getElem?_eq_getElem (by omega)] at hy
                rw [List.getElem?_eq_getElem hlt] at hx
                rw [Option.some.inj hy, Option.some.inj hx] at this
                exact this
              have := cmpB_val y x
              unfold ltB at h1
              omega
            obtain ⟨g4, d4, hv4, hc4⟩ := own_row H4.out.2.1 hy
            obtain ⟨rfl, rfl⟩ : g2 = g4 ∧ c2 = d4 := by simpa using hv4
            have hk1 : i - 1 = k := by omega
            have hcy : ∀ W, Mod (fun _ => False) wr W → W.cell? ⟨g2, i - 1, none⟩ = some (.string ⟨y.toArray⟩) := fun W hW => by rw [hk1]; exact ((hmod.trans hW (fun _ h => h.elim)).cell (cell_lt hc4) hg2).trans hc4
            have hcmp := fun W E => compare_any y x hyl hxl W E
            rw [hlt2] at hcmp
            have hi0' : 0 < i := by omega
            have e3 : decide (0 < i) = true := by simp; omega
            have hkl : k < zs.length := by omega
            have HX := Lib.hid (And.intro hi (And.intro hmap (And.intro hmod (And.intro hm0 (And.intro htk (And.intro hcat (And.intro hkey (And.intro hright (And.intro hcy (And.intro hcmp hk))))))))))
            clear hi hmap hmod hm0 htk hcat hkey hright hc2 hc3 hv2 hv3 hg2 hg3 hx hxz hxr hcy hcmp hk hy hyz hlt2 hv4 hc4 hi0 hk1
            go_wp2_with fail
            refine (HX.out.2.2.2.2.2.2.2.1 wr (H0.out.1.mod0 HX.out.2.2.2.1)).mono ?_
            rintro r w5 ⟨rfl, hm5⟩
            have j2 := HX.out.2.2.2.2.2.2.2.2.1 w5 hm5
            have H5 := Lib.hid hm5
            clear hm5 kc
            go_wp2_with fail
            refine (HX.out.2.2.2.2.2.2.2.2.2.1 w5 (H0.out.1.mod0 (tr0 HX.out.2.2.2.1 H5.out))).mono ?_
            rintro r w6 ⟨rfl, hm6⟩
            have j3 := (HX.out.2.2.2.2.2.1 w6 (tr0 H5.out hm6)).2
            have H6 := Lib.hid (And.intro (tr0 H5.out hm6) (map_mod HX.out.2.1 (tr0 H5.out hm6) id))
            clear hm6 j2
            go_wp2_with (at_mapUpdate; refine wpList_mapUpdate_own _ rfl _ _ _ 42 rfl 9 4 strKey Tryd.underlying42 _ mb _ _ rfl H6.out.2 (by simp only [maxLen]; omega) _ _ _ rfl rfl HX.out.2.2.2.2.2.2.1 (.lit (.bool true)) [] (plainElem_bool Tryd.underlying4 true) ?_)
            intro w7 hown7 hg7
            have H7 := Lib.hid (And.intro hown7 hg7); clear hown7 hg7
            go_wp2_with fail
            go_roundg (gk - 1)
            case measure => have := HX.out.1; omega
            case rel => exact ⟨i + 1, by go_num, by have := HX.out.1; omega, by rw [HX.out.2.2.2.2.1, setD_snoc]; exact H7.out.1, (tr0 HX.out.2.2.1 H6.out.1).grown H7.out.2 (fun k hk => .inl (by injection hk))⟩
        · have hie : zs.take i = zs := List.take_of_length_le (by omega)
          rw [hie] at hmap
          have hm0 : Mod (fun _ => False) w wr := H4.out.1.trans hmod (fun k hk => .inr (by rw [hk]; exact H4.out.2.2.2.2.1))
          have hrow := strsR.step (ok1 := fun _ => True) (w1 := wr) (fun k hk hl => ⟨trivial, hmod.block k hl (by have := hk.2; omega)⟩) H4.out.2.2.2.1
          have HX := Lib.hid (And.intro hmap (And.intro hm0 hrow)); clear hi hmap hmod hm0 hie hrow
          go_wp2_with fail
          obtain ⟨wO, hwO⟩ : ∃ x, x = wr := ⟨_, rfl⟩
          subst hwO
          go_loopg [71] ls.length (fun f si wr => ∃ j : Nat, si = .int .i64 j ∧ j + f = ls.length ∧ Mod (fun _ => False) wO wr)
          case atStart => exact ⟨0, rfl, by omega, .refl _ _⟩
          case round =>
            obtain ⟨j, rfl, hj, hmod⟩ := hrel
            by_cases hlt : j < ls.length
            · obtain ⟨x, hx⟩ : ∃ x, ls[j]? = some x := ⟨ls[j], by simp [hlt]⟩
              obtain ⟨ad, rfl, -, hcx, hxs⟩ := RowOf.strs (strs_row (Rd.mod (Rd.bound HX.out.2.2) hmod (fun _ _ => id))).2.2.2.2.2 hx
              obtain ⟨a, ha⟩ : ∃ a, a = x.data.toList := ⟨_, rfl⟩
              have hxa : x = ⟨a.toArray⟩ := by rw [ha]
              have hal : a.length ≤ 140737488355328 := by rw [ha]; exact hxs
              have hin : a ∈ l := by rw [HL.out.1, ha]; exact List.mem_map.2 ⟨x, List.mem_of_getElem? hx, rfl⟩
              have hz : decide (a ∈ zs) = rightB a := by
                rw [Bool.eq_iff_iff, decide_eq_true_iff, HL.out.2.2.2.1 a]
                exact ⟨fun h => h.2, fun h => ⟨hin, h⟩⟩
              rw [hxa] at hcx
              have hlook : ∀ W : ModW wr, (Instr.lookup 42 (.map (some mb)) (.string ⟨a.toArray⟩) false).run Tryd.prog W.1 = .ok (.bool (rightB a)) W.1 := fun W => by
                rw [← hz]; exact look_set (map_mod HX.out.1 (tr0 hmod W.2) id) a hal
              have hE := H0.out.1.mod0 (tr0 HX.out.2.1 hmod)
              have hright := fun W E => right_any a hal W E
              obtain ⟨b, hb⟩ : ∃ b, b = rightB a := ⟨_, rfl⟩
              simp only [← hb] at hlook hright
              have e4 : (b != b) = false := by simp
              have HJ := Lib.hid (And.intro hj (And.intro hmod (And.intro hE hright))); clear hj hmod hE hright hx ha hxa hin hz hb hxs
              go_wp2_with fail
              refine wp_region_mod (by kernel_rfl) (by kernel_rfl) ?_
              repeat (quiet_step ((go_at_call 10; refine quiet_mod (HJ.out.2.2.2 _ (HJ.out.2.2.1.mod0 (Subtype.property _))))))
              refine wpQuiet_nil ?_
              rintro _ ⟨W, rfl⟩
              clear hlook
              go_wp2_with fail
              go_roundg (gk - 1)
              case measure => have := HJ.out.1; omega
              case rel => exact ⟨j + 1, by go_num, by have := HJ.out.1; omega, tr0 HJ.out.2.1 W.2⟩
            · have HJ := Lib.hid (tr0 HX.out.2.1 hmod); clear hmod hj
              go_wp2_with fail
              go_ret
              exact ⟨by simp, HJ.out⟩
end Go.Proofs.YtgdadhpcooegnaaDoor
