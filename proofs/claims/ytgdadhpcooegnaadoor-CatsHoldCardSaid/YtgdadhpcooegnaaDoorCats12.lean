/- Layer 5, cats: Sort. -/
import Derived.Test.YtgdadhpcooegnaaDoorCats11
namespace Go.Proofs.YtgdadhpcooegnaaDoor
open Go.RowKit Go.Shelf Go.Lib Go.Sort
set_option linter.unusedVariables false
def sortS (l : List (List UInt8)) : List (List UInt8) := Lib.compact ((l.filter rightB).mergeSort leB)
set_option maxRecDepth 100000 in
theorem indexFunc_empty (A : Option Addr) (c : Nat) (fv : Value) (w : World) :
    Calls Tryd.prog 44 #[.slice A 0 c, fv] w fun r w' => r = .returned (.int .i64 (-1)) ∧ Mod (fun _ => False) w w' := by
  go_enter Tryd.func44, Tryd.ntmps44
  go_wp2_with fail
  refine wp_loop_rounds 1 ?_
  rw [rounds_succ]
  go_wp2_with fail
  go_ret
  exact ⟨rfl, .refl _ _⟩
set_option maxRecDepth 100000 in
theorem deleteFunc_empty (A : Option Addr) (c : Nat) (fv : Value) (w : World) :
    Calls Tryd.prog 31 #[.slice A 0 c, fv] w fun r w' => r = .returned (.slice A 0 c) ∧ Mod (fun _ => False) w w' := by
  go_enter Tryd.func31, Tryd.ntmps31
  go_wp2_with fail
  refine (indexFunc_empty A c fv w).mono ?_
  rintro r w1 ⟨rfl, hm⟩
  have HM := Lib.hid hm; clear hm
  go_wp2_with fail
  go_ret
  exact ⟨rfl, HM.out⟩
theorem scells_strs (ls : List ByteArray) : scells (ls.map fun s => s.data.toList) = ls.map Value.string := by
  simp only [scells, List.map_map]
  congr 1
/-- slices.Clone of strings that are read. -/
theorem clone_rd (A : Option Addr) (n c : Nat) (ls : List ByteArray) (ok : Nat → Prop) (w : World) (h : strsR.rel w ok [.slice A n c] ls) (hl : ls.length ≤ 8796093022208) :
    Calls Tryd.prog 32 #[.slice A n c] w fun r w' => ∃ v, r = .returned v ∧ w'.ownsRow w.heap.size 9 1 v ls.length (scells (ls.map fun s => s.data.toList)) ∧ Mod (fun _ => False) w w' := by
  obtain ⟨rfl, hcap, hmx, hbig, hnil, hrow⟩ := strs_row h
  rw [scells_strs]
  cases A with
  | none =>
    have hc0 := hnil rfl
    subst hc0
    have hl0 : ls = [] := List.eq_nil_of_length_eq_zero (by omega)
    subst hl0
    refine (Tryd.slices_Clone_string_nil 0 0 w).mono ?_
    rintro r w' ⟨rfl, rfl⟩
    exact ⟨_, rfl, World.ownsRow_nil _ _ _ _, .refl _ _⟩
  | some a =>
    by_cases hn : ls = []
    · subst hn
      refine (Tryd.slices_Clone_string_zero a c w).mono ?_
      rintro r w' ⟨v, rfl, ho, -, hb⟩
      exact ⟨v, rfl, ho, .of_below hb⟩
    · have hat : ∀ j x, ls[j]? = some x → w.cell? (a.add j) = some (.string x) := fun j x hj => by
        obtain ⟨ad, hA, -, hc, -⟩ := RowOf.strs hrow hj
        cases hA; exact hc
      obtain ⟨blk, off, sp⟩ := a
      have hsp : sp = none := by
        obtain ⟨x, t, rfl⟩ := List.exists_cons_of_ne_nil hn
        have h0 := hat 0 x rfl
        cases sp with
        | none => rfl
        | some k =>
          simp only [Addr.add, if_pos, World.cell?] at h0
          split at h0
          · simp at h0
          · cases h0
      subst hsp
      refine (Tryd.slices_Clone_string blk off ls.length c ls w (Nat.le_refl _) hbig (fun j hj => ?_)).mono ?_
      · have := hat j ls[j] (by simp [hj])
        rw [List.getD_eq_getElem?_getD, List.getElem?_eq_getElem hj]
        have e : (⟨blk, off, none⟩ : Addr).add j = ⟨blk, off + j, none⟩ := by unfold Addr.add; split <;> simp_all
        rw [e] at this
        exact this
      · rintro r w' ⟨v, rfl, ho, -, hb⟩
        rw [List.take_of_length_le (Nat.le_refl _)] at ho
        exact ⟨v, rfl, ho, .of_below hb⟩
theorem own_zero {w : World} {base : Nat} {e : TypeId} {size : Nat} {A : Option Addr} {c : Nat} {xs : List Value} (h : w.ownsRow base e size (.slice A 0 c) 0 xs) : xs = [] := by
  have := h.1
  exact List.eq_nil_of_length_eq_zero (by omega)
/-- slices.Compact of a row of the call's own. -/
theorem compactS_own {w : World} {base : Nat} {v : Value} {zs : List (List UInt8)} (h : w.ownsRow base 9 1 v zs.length (scells zs)) (hl : zs.length ≤ 8796093022208) :
    Calls Tryd.prog 35 #[v] w fun e w' => ∃ A c, e = .returned (.slice A (Lib.compact zs).length c) ∧ w'.ownsRow base 9 1 (.slice A (Lib.compact zs).length c) (Lib.compact zs).length (scells (Lib.compact zs)) ∧ Mod (fun k => v.ownBlock = some k) w w' := by
  have hcl : (Lib.compact zs).length ≤ zs.length := by
    unfold Lib.compact Lib.compactUpTo
    rw [List.length_map]
    exact Nat.le_trans (List.length_filter_le _ _) (by simp)
  rcases h.2 with ⟨rfl, hz⟩ | ⟨g, cap, cur, rfl, hb, hg, hn, hm, hs, ht⟩
  · have hz0 : zs = [] := List.eq_nil_of_length_eq_zero hz
    subst hz0
    refine (Tryd.slices_Compact_string_empty none 0 w).mono ?_
    rintro e w' ⟨rfl, rfl⟩
    exact ⟨none, 0, rfl, h, .refl _ _⟩
  · have hH := holds_of_block (ss := zs) hg (by rw [Nat.mul_one] at ht; exact ht)
    refine (Tryd.slices_Compact_string g 0 cap zs w hH (by omega) hn).mono ?_
    rintro e w' ⟨rfl, q, rfl⟩
    have ho := Lib.ownsRow_putRow (enc := encStr) (q := q) (ys := Lib.compact zs ++ List.replicate (zs.length - (Lib.compact zs).length) []) (k := (Lib.compact zs).length) h (by simp; omega) hcl
    rw [List.take_left] at ho
    refine ⟨_, cap, rfl, ho, ?_⟩
    have := mod_sorted encStr w g q (Lib.compact zs ++ List.replicate (zs.length - (Lib.compact zs).length) []).toArray #[]
    rw [Sort.grow_empty] at this
    exact this.mono (fun k hk => by rw [hk]; rfl)
set_option maxRecDepth 100000 in
set_option maxHeartbeats 1000000 in
theorem sort_any (A : Option Addr) (n c : Nat) (ls : List ByteArray) (ok : Nat → Prop) (w : World) (h : strsR.rel w ok [.slice A n c] ls) (hl : ls.length ≤ 8796093022208) (hx : ∀ s ∈ ls, s.size ≤ 140737488355328) (E : Env w) :
    Calls Tryd.prog 16 #[.slice A n c] w fun r w' => ∃ A' c', r = .returned (.slice A' (sortS (ls.map fun s => s.data.toList)).length c') ∧ w'.ownsRow w.heap.size 9 1 (.slice A' (sortS (ls.map fun s => s.data.toList)).length c') (sortS (ls.map fun s => s.data.toList)).length (scells (sortS (ls.map fun s => s.data.toList))) ∧ Mod (fun _ => False) w w' := by
  have hclone := clone_rd A n c ls ok w h hl
  obtain ⟨l, hle⟩ : ∃ l, l = ls.map fun s => s.data.toList := ⟨_, rfl⟩
  have hll : l.length = ls.length := by rw [hle]; simp
  have hxl : ∀ x ∈ l, x.length ≤ 140737488355328 := by
    intro x hxm
    rw [hle] at hxm
    obtain ⟨s, hs, rfl⟩ := List.mem_map.1 hxm
    exact hx s hs
  rw [← hle, ← hll] at hclone
  rw [← hle]
  have hl2 : l.length ≤ 8796093022208 := by omega
  have E0 := Lib.hid E; clear E h hx hle hl hll
  obtain ⟨z, hz⟩ : ∃ z, z = sortS l := ⟨_, rfl⟩
  rw [← hz]
  unfold sortS at hz
  have HZ := Lib.hid hz; clear hz
  go_enter Tryd.func16, Tryd.ntmps16
  go_wp2_with fail
  refine hclone.mono ?_
  rintro r w1 ⟨v, rfl, ho, hm⟩
  by_cases hne : l = []
  · subst hne
    obtain ⟨A1, c1, rfl⟩ := own_slice ho
    have hz0 : z = [] := by rw [HZ.out]; simp [Lib.compact, Lib.compactUpTo]
    subst hz0
    have HM := Lib.hid (And.intro hm ho); clear hm ho
    go_wp2_with fail
    refine (deleteFunc_empty A1 c1 _ w1).mono ?_
    rintro r w2 ⟨rfl, hm2⟩
    have HM2 := Lib.hid (And.intro (tr0 HM.out.1 hm2) (own_move HM.out.2 (fun k hk => hm2.block k (own_lt HM.out.2 k hk).2 id))); clear hm2 HM
    go_wp2_with fail
    refine (Tryd.slices_SortFunc_string_none A1 c1 _ w2).mono ?_
    rintro r w3 ⟨rfl, rfl⟩
    go_wp2_with fail
    refine (compactS_own (zs := []) HM2.out.2 (by simp)).mono ?_
    rintro r w4 ⟨A2, c2, rfl, ho2, hm4⟩
    have HM4 := Lib.hid (And.intro (HM2.out.1.trans hm4 (fun k hk => .inr (own_lt HM2.out.2 k hk).1)) ho2); clear hm4 ho2
    go_wp2_with fail
    go_ret
    exact ⟨A2, c2, rfl, HM4.out.2, HM4.out.1⟩
  · obtain ⟨g, cap, cur, rfl, hgb, hg, hn, hmx, hs, ht⟩ : ∃ g cap cur, v = .slice (some ⟨g, 0, none⟩) l.length cap ∧ w.heap.size ≤ g ∧ w1.heap[g]? = some (.cells cur 9 (0, 0)) ∧ l.length ≤ cap ∧ cap ≤ maxLen ∧ cur.size = cap * 1 ∧ cur.toList.take (l.length * 1) = scells l := by
      rcases ho.2 with ⟨-, hz⟩ | ⟨g, cap, cur, hv, r⟩
      · exact absurd (List.eq_nil_of_length_eq_zero hz) hne
      · exact ⟨g, cap, cur, hv, r⟩
    obtain ⟨tail, htl⟩ : ∃ tail, cur = (scells l ++ tail).toArray := ⟨cur.toList.drop l.length, by
      rw [Nat.mul_one] at ht
      rw [← ht, List.take_append_drop]⟩
    subst htl
    have HD := Lib.hid (deleteFunc_any g cap l tail w1 hg hn hl2 hxl (fun w' hw => E0.out.mod0 (hm.trans hw (fun k hk => .inr (by omega)))))
    have HM := Lib.hid (And.intro hm (And.intro hgb (And.intro hn (And.intro hmx hs)))); clear hm hgb hg ht ho hs hn hmx
    go_wp2_with fail
    refine HD.out.mono ?_
    rintro r w2 ⟨tail2, rfl, hg2, hlen2, hm2⟩
    obtain ⟨f, hf⟩ : ∃ f, f = l.filter rightB := ⟨_, rfl⟩
    have hfl : f.length ≤ 8796093022208 := by rw [hf]; exact Nat.le_trans (List.length_filter_le _ _) hl2
    have hfl2 : f.length ≤ l.length := by rw [hf]; exact List.length_filter_le _ _
    have hfx : ∀ x ∈ f, x.length ≤ 140737488355328 := by rw [hf]; exact fun x hx => hxl x (List.mem_filter.1 hx).1
    rw [← hf] at hg2 hlen2 HZ ⊢
    have hsz2 : (scells f ++ tail2).toArray.size = cap * 1 := by have := HM.out.2.2.2.2; simp only [List.size_toArray] at this ⊢; omega
    have hcapf : f.length ≤ cap := by have := HM.out.2.2.1; omega
    have hm02 : Mod (fun _ => False) w w2 := HM.out.1.trans hm2 (fun k hk => .inr (by have := HM.out.2.1; omega))
    have HF := Lib.hid (And.intro hm02 (And.intro hg2 (And.intro hsz2 hcapf))); clear hm02 hg2 hlen2 hsz2 hcapf hm2 hf
    by_cases hfe : f = []
    · subst hfe
      have hz0 : z = [] := by rw [HZ.out]; simp [Lib.compact, Lib.compactUpTo]
      subst hz0
      have ho2 : w2.ownsRow w.heap.size 9 1 (.slice (some ⟨g, 0, none⟩) 0 cap) 0 (scells []) := ⟨rfl, .inr ⟨g, cap, _, rfl, HM.out.2.1, HF.out.2.1, by omega, HM.out.2.2.2.1, HF.out.2.2.1, by simp [scells]⟩⟩
      have HO := Lib.hid ho2; clear ho2
      dsimp only [List.length_nil]
      go_wp2_with fail
      refine (Tryd.slices_SortFunc_string_none (some ⟨g, 0, none⟩) cap _ w2).mono ?_
      rintro r w3 ⟨rfl, rfl⟩
      go_wp2_with fail
      refine (compactS_own (zs := []) HO.out (by simp)).mono ?_
      rintro r w4 ⟨A2, c2, rfl, ho2, hm4⟩
      have HM4 := Lib.hid (And.intro (HF.out.1.trans hm4 (fun k hk => .inr (own_lt HO.out k hk).1)) ho2); clear hm4 ho2
      go_wp2_with fail
      go_ret
      exact ⟨A2, c2, rfl, HM4.out.2, HM4.out.1⟩
    · have HS := Lib.hid (sortFunc_own (cap := cap) E0.out HF.out.1 HM.out.2.1 HF.out.2.1 hfe hfl hfx)
      go_wp2_with fail
      refine HS.out.mono ?_
      rintro r w3 ⟨rfl, hg3, hm3⟩
      have hsl : (f.mergeSort leB).length = f.length := List.length_mergeSort _
      have ho3 : w3.ownsRow w.heap.size 9 1 (.slice (some ⟨g, 0, none⟩) (f.mergeSort leB).length cap) (f.mergeSort leB).length (scells (f.mergeSort leB)) :=
        ⟨by rw [scells_len, Nat.mul_one], .inr ⟨g, cap, _, rfl, HM.out.2.1, hg3, by rw [hsl]; exact HF.out.2.2.2, HM.out.2.2.2.1, by
          have h1 := HF.out.2.2.1
          simp only [List.size_toArray, List.length_append, scells_len, hsl] at h1 ⊢
          exact h1, by simp [scells]⟩⟩
      have HO := Lib.hid (And.intro ho3 (HF.out.1.trans hm3 (fun k hk => .inr (by have := HM.out.2.1; omega)))); clear ho3 hm3 hg3
      go_wp2_with fail
      have HC := compactS_own (zs := f.mergeSort leB) HO.out.1 (by omega)
      rw [hsl] at HC
      refine HC.mono ?_
      rintro r w4 ⟨A2, c2, rfl, ho2, hm4⟩
      have HM4 := Lib.hid (And.intro (HO.out.2.trans hm4 (fun k hk => .inr (by have := HM.out.2.1; simp only [Value.ownBlock, Option.some.injEq] at hk; omega))) ho2); clear hm4 ho2
      go_wp2_with fail
      go_ret
      rw [HZ.out]
      exact ⟨A2, c2, rfl, HM4.out.2, HM4.out.1⟩
end Go.Proofs.YtgdadhpcooegnaaDoor
