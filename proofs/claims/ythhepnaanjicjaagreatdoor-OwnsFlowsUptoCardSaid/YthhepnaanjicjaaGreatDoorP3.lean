/- Texts of this claim, joined: Cats11, Cats12, Cats8, Cats9, Cats10, Cats13. -/
import Derived.Test.YthhepnaanjicjaaGreatDoorP2
import Derived.Test.YthhepnaanjicjaaGreatDoorSortShelf
import Derived.Sort.OwnSorted
import Derived.Lib.OwnBridge
/- Layer 5, cats: slices.SortFunc by Compare, slices.Compact at rows of the call's own. -/
namespace Go.Proofs.YthhepnaanjicjaaGreatDoor
open Go.RowKit Go.Shelf Go.Lib Go.Sort
set_option linter.unusedVariables false
theorem encS_str (l : List UInt8) : encS l = encStr l := rfl
/-- A text of no great length. -/
abbrev Txt := { l : List UInt8 // l.length ≤ 140737488355328 }
instance : Inhabited Txt := ⟨⟨[], by simp⟩⟩
def encT (x : Txt) : Value := encS x.1
def cmpT (x y : Txt) : Int := cmpB x.1 y.1
theorem swoT : SWO (ltOf cmpT) where
  irrefl x := by unfold ltOf cmpT; rw [cmpB_self]; rfl
  trans x y z h1 h2 := by
    unfold ltOf cmpT at *
    simp only [decide_eq_true_eq] at *
    have h3 := cmpB_trans (a := x.1) (b := y.1) (c := z.1) (by omega) (by omega)
    by_cases h : cmpB x.1 z.1 = 0
    · have := cmpB_zero h
      have hn := cmpB_neg y.1 z.1
      rw [← this] at hn h2
      omega
    · omega
  ntrans x y z h1 h2 := by
    unfold ltOf cmpT at *
    simp only [decide_eq_false_iff_not] at *
    have a1 := cmpB_neg x.1 y.1
    have a2 := cmpB_neg y.1 z.1
    have a3 := cmpB_neg x.1 z.1
    have h3 := cmpB_trans (a := z.1) (b := y.1) (c := x.1) (by omega) (by omega)
    omega
theorem totT (x y : Txt) (h1 : ltOf cmpT x y = false) (h2 : ltOf cmpT y x = false) : x = y := by
  unfold ltOf cmpT at *
  simp only [decide_eq_false_iff_not] at *
  have a1 := cmpB_neg x.1 y.1
  exact Subtype.ext (cmpB_zero (by omega))
theorem grow_of_mod {w w' : World} (h : Mod (fun _ => False) w w') (hd : w.drawn ≤ w'.drawn) : ∃ q os, w' = grow (w.drewN q) os := by
  refine ⟨w'.drawn - w.drawn, w'.heap.extract w.heap.size w'.heap.size, ?_⟩
  obtain ⟨heap', tape', drawn', os', output'⟩ := w'
  have e1 : os' = w.os := h.os
  have e2 : tape' = w.tape := h.tape
  have e3 : output' = w.output := h.output
  have hs : w.heap.size ≤ heap'.size := h.size
  have hb : ∀ k, k < w.heap.size → heap'[k]? = w.heap[k]? := fun k hk => h.block k hk id
  have hd' : w.drawn + (drawn' - w.drawn) = drawn' := by have : w.drawn ≤ drawn' := hd; omega
  subst e1 e2 e3
  have eh : heap' = w.heap ++ heap'.extract w.heap.size heap'.size := by
    apply Array.ext_getElem?
    intro k
    by_cases hk : k < w.heap.size
    · rw [Array.getElem?_append_left hk]; exact hb k hk
    · rw [Array.getElem?_append_right (by omega), Array.getElem?_extract]
      by_cases hk2 : k < heap'.size
      · rw [if_pos (by omega)]; congr 1; omega
      · rw [if_neg (by omega), Array.getElem?_eq_none (by omega)]
  show _ = World.mk _ _ _ _ _
  congr 1
  · exact hd'.symm
theorem putRow_map {α β : Type} [Inhabited α] [Inhabited β] (e : β → Value) (f : α → β) (w : World) (blk off : Nat) (d : Array α) : putRow (fun x => e (f x)) w blk off d = putRow e w blk off (d.map f) := by
  unfold putRow
  congr 1
  funext c
  unfold putCells
  rw [Array.size_map]
  congr 1
  funext k x
  split
  · rename_i h
    have hk : k - off < d.size := by omega
    congr 1
    rw [getElem!_pos d _ hk, getElem!_pos (d.map f) _ (by simpa using hk)]
    simp
  · rfl
theorem mod_sorted {α : Type} [Inhabited α] (enc : α → Value) (w : World) (g m : Nat) (d : Array α) (os : Array Obj) : Mod (fun k => k = g) w (grow (putRow enc (Sort.ahead w m) g 0 d) os) := by
  refine ⟨rfl, rfl, rfl, by simp [grow, putRow, mapBlock, Sort.ahead], fun k hk hne => ?_⟩
  rw [heap_grow_old _ _ (by simpa [putRow, mapBlock, Sort.ahead] using hk)]
  simp [putRow, mapBlock, Sort.ahead, Array.getElem?_modify, Ne.symm hne]
theorem putCells_head (ts : List (List UInt8)) (xs tail : List Value) (h : xs.length = ts.length) : putCells encStr 0 ts.toArray (xs ++ tail).toArray = (scells ts ++ tail).toArray := by
  apply Array.ext_getElem?
  intro j
  simp only [putCells, Array.getElem?_mapIdx, List.getElem?_toArray, List.size_toArray, Nat.zero_add, Nat.sub_zero, Nat.zero_le, true_and]
  by_cases hj : j < ts.length
  · rw [List.getElem?_append_left (by omega), List.getElem?_append_left (by rw [scells_len]; omega), List.getElem?_eq_getElem (by omega)]
    simp [hj, scells, encS_str]
  · rw [List.getElem?_append_right (by omega), List.getElem?_append_right (by rw [scells_len]; omega), scells_len, h]
    cases tail[j - ts.length]? <;> simp [hj]
def leB (x y : List UInt8) : Bool := decide (cmpB x y ≤ 0)
/-- slices.SortFunc(out, Compare), out a row of the call's own. -/
theorem sortFunc_own {w w0 : World} (E : Env w0) {g cap : Nat} {l : List (List UInt8)} {tail : List Value} (hm : Mod (fun _ => False) w0 w) (hg0 : w0.heap.size ≤ g) (hg : w.heap[g]? = some (.cells (scells l ++ tail).toArray 9 (0, 0))) (hne : l ≠ []) (hl : l.length ≤ 8796093022208) (hx : ∀ x ∈ l, x.length ≤ 140737488355328) :
    Calls Tryz.prog 104 #[.slice (some ⟨g, 0, none⟩) l.length cap, .func (.func 105) #[] #[]] w fun r w' => r = .returned (.tuple #[]) ∧
      w'.heap[g]? = some (.cells (scells (l.mergeSort leB) ++ tail).toArray 9 (0, 0)) ∧ Mod (fun k => k = g) w w' := by
  obtain ⟨d, hd⟩ : ∃ d : List Txt, d.map (·.1) = l := ⟨l.pmap (fun x h => ⟨x, h⟩) hx, by simp [List.map_pmap]⟩
  have hdl : d.length = l.length := by rw [← hd]; simp
  have hH : Holds encT w g 0 d.toArray := by
    intro j hj
    have hj' : j < d.length := by simpa using hj
    refine ⟨?_, Lib.frozen_of_heap hg _⟩
    rw [Lib.cell_of_heap hg, List.getElem?_toArray, Nat.zero_add, List.getElem?_append_left (by rw [scells_len]; omega)]
    rw [getElem!_pos d.toArray j hj]
    simp only [scells, ← hd, List.map_map]
    rw [List.getElem?_map, List.getElem?_eq_getElem hj']
    rfl
  have hglt := (Array.getElem?_eq_some_iff.1 hg).1
  have hcmp : CmpLays1 Tryz.prog 105 #[] encT cmpT g 0 d.toArray.size w := by
    intro m os dk hs x y
    have hW : Mod (fun _ => False) w0 (sortWorld encT w g 0 m dk os) := hm.trans (mod_sorted encT w g m dk os) (fun k hk => .inr (by omega))
    refine (calls_drawn (compare_any x.1 y.1 x.2 y.2 _ (E.mod0 hW))).mono ?_
    rintro e w' ⟨⟨rfl, hm'⟩, hdr⟩
    exact ⟨rfl, grow_of_mod hm' (hdr (by simp))⟩
  have := Tryz.slices_SortFunc_string encT (fun _ => rfl) cmpT swoT 105 #[] g 0 cap d.toArray w (enters_of Tryz.func105 (by kernel_rfl) rfl) hcmp hH hglt (by simp; omega) totT
  rw [List.size_toArray, hdl] at this
  refine this.mono ?_
  rintro e w' ⟨rfl, n, os, rfl⟩
  refine ⟨rfl, ?_, mod_sorted encT w g n _ os⟩
  have hmap : ((d.toArray.toList.mergeSort fun x y => !(ltOf cmpT) y x).toArray.map (·.1)) = (l.mergeSort leB).toArray := by
    rw [List.map_toArray]
    congr 1
    rw [← hd]
    refine List.map_mergeSort (fun a ha b hb => ?_)
    unfold ltOf cmpT leB
    have := cmpB_neg a.1 b.1
    by_cases h : cmpB a.1 b.1 ≤ 0
    · simp [h]; omega
    · simp [h]; omega
  unfold sortWorld
  rw [show encT = fun x : Txt => encStr x.1 from rfl, putRow_map encStr (fun x : Txt => x.1), hmap]
  have hls : (l.mergeSort leB).length = l.length := List.length_mergeSort _
  have hh := heap_sorted (n := n) (os := os) (l.mergeSort leB).toArray hg
  rw [hh]
  rw [putCells_head (l.mergeSort leB) (scells l) tail (by rw [scells_len, hls])]
end Go.Proofs.YthhepnaanjicjaaGreatDoor

/- Layer 5, cats: Sort. -/
namespace Go.Proofs.YthhepnaanjicjaaGreatDoor
open Go.RowKit Go.Shelf Go.Lib Go.Sort
set_option linter.unusedVariables false
def sortS (l : List (List UInt8)) : List (List UInt8) := Lib.compact ((l.filter rightB).mergeSort leB)
set_option maxRecDepth 100000 in
theorem indexFunc_empty (A : Option Addr) (c : Nat) (fv : Value) (w : World) :
    Calls Tryz.prog 101 #[.slice A 0 c, fv] w fun r w' => r = .returned (.int .i64 (-1)) ∧ Mod (fun _ => False) w w' := by
  go_enter Tryz.func101, Tryz.ntmps101
  go_wp2_with fail
  refine wp_loop_rounds 1 ?_
  rw [rounds_succ]
  go_wp2_with fail
  go_ret
  exact ⟨rfl, .refl _ _⟩
set_option maxRecDepth 100000 in
theorem deleteFunc_empty (A : Option Addr) (c : Nat) (fv : Value) (w : World) :
    Calls Tryz.prog 60 #[.slice A 0 c, fv] w fun r w' => r = .returned (.slice A 0 c) ∧ Mod (fun _ => False) w w' := by
  go_enter Tryz.func60, Tryz.ntmps60
  go_wp2_with fail
  refine (indexFunc_empty A c fv w).mono ?_
  rintro r w1 ⟨rfl, hm⟩
  have HM := Lib.hid hm; clear hm
  go_wp2_with fail
  go_ret
  exact ⟨rfl, HM.out⟩
theorem scells_strs (ls : List ByteArray) : scells (ls.map fun s => s.data.toList) = ls.map Value.string := by
  simp only [scells, List.map_map]
  congr 1
/-- slices.Clone of strings that are read. -/
theorem clone_rd (A : Option Addr) (n c : Nat) (ls : List ByteArray) (ok : Nat → Prop) (w : World) (h : strsR.rel w ok [.slice A n c] ls) (hl : ls.length ≤ 8796093022208) :
    Calls Tryz.prog 61 #[.slice A n c] w fun r w' => ∃ v, r = .returned v ∧ w'.ownsRow w.heap.size 9 1 v ls.length (scells (ls.map fun s => s.data.toList)) ∧ Mod (fun _ => False) w w' := by
  obtain ⟨rfl, hcap, hmx, hbig, hnil, hrow⟩ := strs_row h
  rw [scells_strs]
  cases A with
  | none =>
    have hc0 := hnil rfl
    subst hc0
    have hl0 : ls = [] := List.eq_nil_of_length_eq_zero (by omega)
    subst hl0
    refine (Tryz.slices_Clone_string_nil 0 0 w).mono ?_
    rintro r w' ⟨rfl, rfl⟩
    exact ⟨_, rfl, World.ownsRow_nil _ _ _ _, .refl _ _⟩
  | some a =>
    by_cases hn : ls = []
    · subst hn
      refine (Tryz.slices_Clone_string_zero a c w).mono ?_
      rintro r w' ⟨v, rfl, ho, -, hb⟩
      exact ⟨v, rfl, ho, .of_below hb⟩
    · have hat : ∀ j x, ls[j]? = some x → w.cell? (a.add j) = some (.string x) := fun j x hj => by
        obtain ⟨ad, hA, -, hc, -⟩ := RowOf.strs hrow hj
        cases hA; exact hc
      obtain ⟨blk, off, sp⟩ := a
      have hsp : sp = none := by
        obtain ⟨x, t, rfl⟩ := List.exists_cons_of_ne_nil hn
        have h0 := hat 0 x rfl
        cases sp with
        | none => rfl
        | some k =>
          simp only [Addr.add, if_pos, World.cell?] at h0
          split at h0
          · simp at h0
          · cases h0
      subst hsp
      refine (Tryz.slices_Clone_string blk off ls.length c ls w (Nat.le_refl _) hbig (fun j hj => ?_)).mono ?_
      · have := hat j ls[j] (by simp [hj])
        rw [List.getD_eq_getElem?_getD, List.getElem?_eq_getElem hj]
        have e : (⟨blk, off, none⟩ : Addr).add j = ⟨blk, off + j, none⟩ := by unfold Addr.add; split <;> simp_all
        rw [e] at this
        exact this
      · rintro r w' ⟨v, rfl, ho, -, hb⟩
        rw [List.take_of_length_le (Nat.le_refl _)] at ho
        exact ⟨v, rfl, ho, .of_below hb⟩
theorem own_zero {w : World} {base : Nat} {e : TypeId} {size : Nat} {A : Option Addr} {c : Nat} {xs : List Value} (h : w.ownsRow base e size (.slice A 0 c) 0 xs) : xs = [] := by
  have := h.1
  exact List.eq_nil_of_length_eq_zero (by omega)
/-- slices.Compact of a row of the call's own. -/
theorem compactS_own {w : World} {base : Nat} {v : Value} {zs : List (List UInt8)} (h : w.ownsRow base 9 1 v zs.length (scells zs)) (hl : zs.length ≤ 8796093022208) :
    Calls Tryz.prog 106 #[v] w fun e w' => ∃ A c, e = .returned (.slice A (Lib.compact zs).length c) ∧ w'.ownsRow base 9 1 (.slice A (Lib.compact zs).length c) (Lib.compact zs).length (scells (Lib.compact zs)) ∧ Mod (fun k => v.ownBlock = some k) w w' := by
  have hcl : (Lib.compact zs).length ≤ zs.length := by
    unfold Lib.compact Lib.compactUpTo
    rw [List.length_map]
    exact Nat.le_trans (List.length_filter_le _ _) (by simp)
  rcases h.2 with ⟨rfl, hz⟩ | ⟨g, cap, cur, rfl, hb, hg, hn, hm, hs, ht⟩
  · have hz0 : zs = [] := List.eq_nil_of_length_eq_zero hz
    subst hz0
    refine (Tryz.slices_Compact_string_empty none 0 w).mono ?_
    rintro e w' ⟨rfl, rfl⟩
    exact ⟨none, 0, rfl, h, .refl _ _⟩
  · have hH := holds_of_block (ss := zs) hg (by rw [Nat.mul_one] at ht; exact ht)
    refine (Tryz.slices_Compact_string g 0 cap zs w hH (by omega) hn).mono ?_
    rintro e w' ⟨rfl, q, rfl⟩
    have ho := Lib.ownsRow_putRow (enc := encStr) (q := q) (ys := Lib.compact zs ++ List.replicate (zs.length - (Lib.compact zs).length) []) (k := (Lib.compact zs).length) h (by simp; omega) hcl
    rw [List.take_left] at ho
    refine ⟨_, cap, rfl, ho, ?_⟩
    have := mod_sorted encStr w g q (Lib.compact zs ++ List.replicate (zs.length - (Lib.compact zs).length) []).toArray #[]
    rw [Sort.grow_empty] at this
    exact this.mono (fun k hk => by rw [hk]; rfl)
set_option maxRecDepth 100000 in
set_option maxHeartbeats 1000000 in
theorem sort_any (A : Option Addr) (n c : Nat) (ls : List ByteArray) (ok : Nat → Prop) (w : World) (h : strsR.rel w ok [.slice A n c] ls) (hl : ls.length ≤ 8796093022208) (hx : ∀ s ∈ ls, s.size ≤ 140737488355328) (E : Env w) :
    Calls Tryz.prog 66 #[.slice A n c] w fun r w' => ∃ A' c', r = .returned (.slice A' (sortS (ls.map fun s => s.data.toList)).length c') ∧ w'.ownsRow w.heap.size 9 1 (.slice A' (sortS (ls.map fun s => s.data.toList)).length c') (sortS (ls.map fun s => s.data.toList)).length (scells (sortS (ls.map fun s => s.data.toList))) ∧ Mod (fun _ => False) w w' := by
  have hclone := clone_rd A n c ls ok w h hl
  obtain ⟨l, hle⟩ : ∃ l, l = ls.map fun s => s.data.toList := ⟨_, rfl⟩
  have hll : l.length = ls.length := by rw [hle]; simp
  have hxl : ∀ x ∈ l, x.length ≤ 140737488355328 := by
    intro x hxm
    rw [hle] at hxm
    obtain ⟨s, hs, rfl⟩ := List.mem_map.1 hxm
    exact hx s hs
  rw [← hle, ← hll] at hclone
  rw [← hle]
  have hl2 : l.length ≤ 8796093022208 := by omega
  have E0 := Lib.hid E; clear E h hx hle hl hll
  obtain ⟨z, hz⟩ : ∃ z, z = sortS l := ⟨_, rfl⟩
  rw [← hz]
  unfold sortS at hz
  have HZ := Lib.hid hz; clear hz
  go_enter Tryz.func66, Tryz.ntmps66
  go_wp2_with fail
  refine hclone.mono ?_
  rintro r w1 ⟨v, rfl, ho, hm⟩
  by_cases hne : l = []
  · subst hne
    obtain ⟨A1, c1, rfl⟩ := own_slice ho
    have hz0 : z = [] := by rw [HZ.out]; simp [Lib.compact, Lib.compactUpTo]
    subst hz0
    have HM := Lib.hid (And.intro hm ho); clear hm ho
    go_wp2_with fail
    refine (deleteFunc_empty A1 c1 _ w1).mono ?_
    rintro r w2 ⟨rfl, hm2⟩
    have HM2 := Lib.hid (And.intro (tr0 HM.out.1 hm2) (own_move HM.out.2 (fun k hk => hm2.block k (own_lt HM.out.2 k hk).2 id))); clear hm2 HM
    go_wp2_with fail
    refine (Tryz.slices_SortFunc_string_none A1 c1 _ w2).mono ?_
    rintro r w3 ⟨rfl, rfl⟩
    go_wp2_with fail
    refine (compactS_own (zs := []) HM2.out.2 (by simp)).mono ?_
    rintro r w4 ⟨A2, c2, rfl, ho2, hm4⟩
    have HM4 := Lib.hid (And.intro (HM2.out.1.trans hm4 (fun k hk => .inr (own_lt HM2.out.2 k hk).1)) ho2); clear hm4 ho2
    go_wp2_with fail
    go_ret
    exact ⟨A2, c2, rfl, HM4.out.2, HM4.out.1⟩
  · obtain ⟨g, cap, cur, rfl, hgb, hg, hn, hmx, hs, ht⟩ : ∃ g cap cur, v = .slice (some ⟨g, 0, none⟩) l.length cap ∧ w.heap.size ≤ g ∧ w1.heap[g]? = some (.cells cur 9 (0, 0)) ∧ l.length ≤ cap ∧ cap ≤ maxLen ∧ cur.size = cap * 1 ∧ cur.toList.take (l.length * 1) = scells l := by
      rcases ho.2 with ⟨-, hz⟩ | ⟨g, cap, cur, hv, r⟩
      · exact absurd (List.eq_nil_of_length_eq_zero hz) hne
      · exact ⟨g, cap, cur, hv, r⟩
    obtain ⟨tail, htl⟩ : ∃ tail, cur = (scells l ++ tail).toArray := ⟨cur.toList.drop l.length, by
      rw [Nat.mul_one] at ht
      rw [← ht, List.take_append_drop]⟩
    subst htl
    have HD := Lib.hid (deleteFunc_any g cap l tail w1 hg hn hl2 hxl (fun w' hw => E0.out.mod0 (hm.trans hw (fun k hk => .inr (by omega)))))
    have HM := Lib.hid (And.intro hm (And.intro hgb (And.intro hn (And.intro hmx hs)))); clear hm hgb hg ht ho hs hn hmx
    go_wp2_with fail
    refine HD.out.mono ?_
    rintro r w2 ⟨tail2, rfl, hg2, hlen2, hm2⟩
    obtain ⟨f, hf⟩ : ∃ f, f = l.filter rightB := ⟨_, rfl⟩
    have hfl : f.length ≤ 8796093022208 := by rw [hf]; exact Nat.le_trans (List.length_filter_le _ _) hl2
    have hfl2 : f.length ≤ l.length := by rw [hf]; exact List.length_filter_le _ _
    have hfx : ∀ x ∈ f, x.length ≤ 140737488355328 := by rw [hf]; exact fun x hx => hxl x (List.mem_filter.1 hx).1
    rw [← hf] at hg2 hlen2 HZ ⊢
    have hsz2 : (scells f ++ tail2).toArray.size = cap * 1 := by have := HM.out.2.2.2.2; simp only [List.size_toArray] at this ⊢; omega
    have hcapf : f.length ≤ cap := by have := HM.out.2.2.1; omega
    have hm02 : Mod (fun _ => False) w w2 := HM.out.1.trans hm2 (fun k hk => .inr (by have := HM.out.2.1; omega))
    have HF := Lib.hid (And.intro hm02 (And.intro hg2 (And.intro hsz2 hcapf))); clear hm02 hg2 hlen2 hsz2 hcapf hm2 hf
    by_cases hfe : f = []
    · subst hfe
      have hz0 : z = [] := by rw [HZ.out]; simp [Lib.compact, Lib.compactUpTo]
      subst hz0
      have ho2 : w2.ownsRow w.heap.size 9 1 (.slice (some ⟨g, 0, none⟩) 0 cap) 0 (scells []) := ⟨rfl, .inr ⟨g, cap, _, rfl, HM.out.2.1, HF.out.2.1, by omega, HM.out.2.2.2.1, HF.out.2.2.1, by simp [scells]⟩⟩
      have HO := Lib.hid ho2; clear ho2
      dsimp only [List.length_nil]
      go_wp2_with fail
      refine (Tryz.slices_SortFunc_string_none (some ⟨g, 0, none⟩) cap _ w2).mono ?_
      rintro r w3 ⟨rfl, rfl⟩
      go_wp2_with fail
      refine (compactS_own (zs := []) HO.out (by simp)).mono ?_
      rintro r w4 ⟨A2, c2, rfl, ho2, hm4⟩
      have HM4 := Lib.hid (And.intro (HF.out.1.trans hm4 (fun k hk => .inr (own_lt HO.out k hk).1)) ho2); clear hm4 ho2
      go_wp2_with fail
      go_ret
      exact ⟨A2, c2, rfl, HM4.out.2, HM4.out.1⟩
    · have HS := Lib.hid (sortFunc_own (cap := cap) E0.out HF.out.1 HM.out.2.1 HF.out.2.1 hfe hfl hfx)
      go_wp2_with fail
      refine HS.out.mono ?_
      rintro r w3 ⟨rfl, hg3, hm3⟩
      have hsl : (f.mergeSort leB).length = f.length := List.length_mergeSort _
      have ho3 : w3.ownsRow w.heap.size 9 1 (.slice (some ⟨g, 0, none⟩) (f.mergeSort leB).length cap) (f.mergeSort leB).length (scells (f.mergeSort leB)) :=
        ⟨by rw [scells_len, Nat.mul_one], .inr ⟨g, cap, _, rfl, HM.out.2.1, hg3, by rw [hsl]; exact HF.out.2.2.2, HM.out.2.2.2.1, by
          have h1 := HF.out.2.2.1
          simp only [List.size_toArray, List.length_append, scells_len, hsl] at h1 ⊢
          exact h1, by simp [scells]⟩⟩
      have HO := Lib.hid (And.intro ho3 (HF.out.1.trans hm3 (fun k hk => .inr (by have := HM.out.2.1; omega)))); clear ho3 hm3 hg3
      go_wp2_with fail
      have HC := compactS_own (zs := f.mergeSort leB) HO.out.1 (by omega)
      rw [hsl] at HC
      refine HC.mono ?_
      rintro r w4 ⟨A2, c2, rfl, ho2, hm4⟩
      have HM4 := Lib.hid (And.intro (HO.out.2.trans hm4 (fun k hk => .inr (by have := HM.out.2.1; simp only [Value.ownBlock, Option.some.injEq] at hk; omega))) ho2); clear hm4 ho2
      go_wp2_with fail
      go_ret
      rw [HZ.out]
      exact ⟨A2, c2, rfl, HM4.out.2, HM4.out.1⟩
end Go.Proofs.YthhepnaanjicjaaGreatDoor

/- Layer 5, the document's answer: numbers, texts. -/
namespace Go.Proofs.YthhepnaanjicjaaGreatDoor
open Go.RowKit Go.Shelf
set_option linter.unusedVariables false
def dig10 : ByteArray := ⟨#[48, 49, 50, 51, 52, 53, 54, 55, 56, 57]⟩
theorem dig10_at (k : Nat) (h : k < 10) : dig10.extract k (k + 1) = ⟨#[48 + UInt8.ofNat k]⟩ := by
  match k, h with
  | 0, _ => rfl
  | 1, _ => rfl
  | 2, _ => rfl
  | 3, _ => rfl
  | 4, _ => rfl
  | 5, _ => rfl
  | 6, _ => rfl
  | 7, _ => rfl
  | 8, _ => rfl
  | 9, _ => rfl
theorem dec_step (m : Nat) (h : 10 ≤ m) : Lib.decDigits m = Lib.decDigits (m / 10) ++ [48 + UInt8.ofNat (m % 10)] := by rw [Lib.decDigits, dif_neg (by omega)]; simp
set_option maxRecDepth 100000 in
set_option maxHeartbeats 1000000 in
theorem num_any (n : Nat) (hn : n < 4611686018427387904) (w : World) :
    Calls Tryz.prog 120 #[.int .i64 n] w fun r w' => r = .returned (encS (Lib.itoa n)) ∧ Mod (fun _ => False) w w' := by
  rw [Lib.itoa_nonneg]
  obtain ⟨z, hz⟩ : ∃ z, z = Lib.decDigits n := ⟨_, rfl⟩
  rw [← hz]
  have HZ := Lib.hid hz; clear hz
  go_enter Tryz.func120, Tryz.ntmps120
  go_wp2_with fail
  go_loopg [0, 4] n (fun f sn ss wr => ∃ (m : Nat) (d : List UInt8), sn = .int .i64 m ∧ ss = .string ⟨d.toArray⟩ ∧ m ≤ f ∧ m ≤ n ∧ z = Lib.decDigits m ++ d ∧ Mod (fun _ => False) w wr)
  case atStart => exact ⟨n, [], rfl, rfl, by omega, by omega, by rw [HZ.out]; simp, .refl _ _⟩
  case round =>
    obtain ⟨m, d, rfl, rfl, hf, hmn, hz, hmod⟩ := hrel
    by_cases h10 : 10 ≤ m
    · have hdl : d.length ≤ 30 := by
        have h1 := congrArg List.length HZ.out
        have h2 := Lib.itoa_length_le (n : Int) (by omega) (by omega)
        rw [Lib.itoa_nonneg] at h2
        rw [hz, List.length_append] at h1
        omega
      have hr : ((m : Int).tmod 10) = ((m % 10 : Nat) : Int) := by rw [Int.tmod_eq_emod_of_nonneg (by omega)]; omega
      have hq : ((m : Int).tdiv 10) = ((m / 10 : Nat) : Int) := by rw [Int.tdiv_eq_ediv_of_nonneg (by omega)]; omega
      have hd := dig10_at (m % 10) (by omega)
      unfold dig10 at hd
      have hcat : (⟨#[48 + UInt8.ofNat (m % 10)]⟩ : ByteArray) ++ ⟨d.toArray⟩ = ⟨((48 + UInt8.ofNat (m % 10)) :: d).toArray⟩ := by apply ByteArray.ext; simp
      obtain ⟨k, hk⟩ : ∃ k, k = m % 10 := ⟨_, rfl⟩
      have hk10 : k < 10 := by omega
      rw [← hk] at hr hd hcat
      have HX := Lib.hid (And.intro hf (And.intro hz (And.intro hmod hk))); clear hf hz hmod hk
      go_wp2_with fail
      go_roundg (gk - 1)
      case measure => have := HX.out.1; omega
      case rel => exact ⟨m / 10, _, by go_num, rfl, by have := HX.out.1; omega, by omega, by rw [HX.out.2.1, dec_step m h10, ← HX.out.2.2.2]; simp, HX.out.2.2.1⟩
    · have hm1 : Lib.decDigits m = [48 + UInt8.ofNat m] := by rw [Lib.decDigits_one (by omega)]; simp
      have hd := dig10_at m (by omega)
      unfold dig10 at hd
      have hdl : d.length ≤ 30 := by
        have h1 := congrArg List.length HZ.out
        have h2 := Lib.itoa_length_le (n : Int) (by omega) (by omega)
        rw [Lib.itoa_nonneg] at h2
        rw [hz, List.length_append] at h1
        omega
      have hcat : (⟨#[48 + UInt8.ofNat m]⟩ : ByteArray) ++ ⟨d.toArray⟩ = ⟨((48 + UInt8.ofNat m) :: d).toArray⟩ := by apply ByteArray.ext; simp
      have HX := Lib.hid (And.intro hz (And.intro hmod hm1)); clear hz hmod hm1 hf
      go_wp2_with fail
      go_ret
      exact ⟨by rw [HX.out.1, HX.out.2.2]; rfl, HX.out.2.1⟩
set_option maxRecDepth 100000 in
theorem Num_any (n : Int) (h0 : 0 ≤ n) (hn : n < 4611686018427387904) (w : World) :
    Calls Tryz.prog 96 #[.int .i64 n] w fun r w' => r = .returned (encS (Lib.itoa n)) ∧ Mod (fun _ => False) w w' := by
  obtain ⟨u, rfl⟩ : ∃ u : Nat, n = u := ⟨n.toNat, by omega⟩
  go_enter Tryz.func96, Tryz.ntmps96
  go_wp2_with fail
  refine (num_any u (by omega) w).mono ?_
  rintro r w1 ⟨rfl, hm⟩
  have H := Lib.hid hm; clear hm
  go_wp2_with fail
  go_ret
  exact ⟨rfl, H.out⟩
end Go.Proofs.YthhepnaanjicjaaGreatDoor

/- Layer 5, the document's answer: Fits, Text. -/
namespace Go.Proofs.YthhepnaanjicjaaGreatDoor
open Go.RowKit Go.Shelf
set_option linter.unusedVariables false
set_option maxRecDepth 100000 in
set_option maxHeartbeats 1000000 in
theorem fits_any (A : Option Addr) (c m : Nat) (p : List Int) (n : Int) (ok : Nat → Prop) (w : World) (h : intsR.rel w ok [.slice A m c] p) :
    Calls Tryz.prog 108 #[.agg #[.slice A m c, .int .i64 n]] w fun r w' => r = .returned (.bool (fitsB p n)) ∧ Mod (fun _ => False) w w' := by
  obtain ⟨rfl, hcap, -, hbig, -, hrow⟩ := ints_row h
  have H0 := Lib.hid hrow; clear hrow h
  obtain ⟨bb, hbb⟩ : ∃ bb, bb = fitsB p n := ⟨_, rfl⟩
  rw [← hbb]
  have HF := Lib.hid hbb; clear hbb
  go_enter Tryz.func108, Tryz.ntmps108
  go_wp2_with fail
  · rename_i h1 h2 h3
    go_ret
    refine ⟨?_, (Mod.refl _ _).alloc _⟩
    have : bb = false := by rw [HF.out, Bool.eq_false_iff]; intro h; have := (fitsB_iff p n).1 h; omega
    rw [this]; rfl
  · rename_i h1 h2 h3
    go_loopg [22] p.length (fun f si wr => ∃ i : Nat, si = .int .i64 i ∧ i + f = p.length ∧ (∀ k ∈ p.take i, 0 ≤ k ∧ k ≤ 1048576) ∧ Mod (fun _ => False) w wr)
    case atStart => exact ⟨0, rfl, by omega, by simp, (Mod.refl _ w).alloc _⟩
    case round =>
      obtain ⟨i, rfl, hi, hk, hmod⟩ := hrel
      by_cases hlt : i < p.length
      · obtain ⟨x, hx⟩ : ∃ x, p[i]? = some x := ⟨p[i], by simp [hlt]⟩
        obtain ⟨ad, rfl, -, hcx, -⟩ := RowOf.ints (H0.out.step (w1 := wr) (ok1 := ok) (fun k hk hl => ⟨hk, hmod.block k hl id⟩)) hx
        have HX := Lib.hid (And.intro hi (And.intro hk (And.intro hmod hx))); clear hi hk hmod hx
        by_cases x0 : x < 0
        · go_wp2_with fail
          go_ret
          refine ⟨?_, HX.out.2.2.1⟩
          have : bb = false := by rw [HF.out, Bool.eq_false_iff]; intro h; have := ((fitsB_iff p n).1 h).2.2.2 x (List.mem_of_getElem? HX.out.2.2.2); omega
          rw [this]; rfl
        by_cases x1 : 1048576 < x
        · go_wp2_with fail
          go_ret
          refine ⟨?_, HX.out.2.2.1⟩
          have : bb = false := by rw [HF.out, Bool.eq_false_iff]; intro h; have := ((fitsB_iff p n).1 h).2.2.2 x (List.mem_of_getElem? HX.out.2.2.2); omega
          rw [this]; rfl
        go_wp2_with fail
        go_roundg (gk - 1)
        case measure => have := HX.out.1; omega
        case rel =>
          refine ⟨i + 1, by go_num, by have := HX.out.1; omega, ?_, HX.out.2.2.1⟩
          rw [List.take_add_one, HX.out.2.2.2]
          intro y hy
          rcases List.mem_append.1 hy with hy | hy
          · exact HX.out.2.1 y hy
          · simp at hy; rw [hy]; omega
      · have hie : p.take i = p := List.take_of_length_le (by omega)
        rw [hie] at hk
        have HX := Lib.hid (And.intro hk hmod); clear hk hmod hie hi
        go_wp2_with fail
        go_ret
        refine ⟨?_, HX.out.2⟩
        have : bb = true := by rw [HF.out]; exact (fitsB_iff p n).2 ⟨by omega, by omega, by omega, HX.out.1⟩
        rw [this]; rfl
  · rename_i h1 h2
    go_ret
    refine ⟨?_, (Mod.refl _ _).alloc _⟩
    have : bb = false := by rw [HF.out, Bool.eq_false_iff]; intro h; have := (fitsB_iff p n).1 h; omega
    rw [this]; rfl
  · rename_i h1
    go_ret
    refine ⟨?_, (Mod.refl _ _).alloc _⟩
    have : bb = false := by rw [HF.out, Bool.eq_false_iff]; intro h; have := (fitsB_iff p n).1 h; omega
    rw [this]; rfl
set_option maxRecDepth 100000 in
set_option maxHeartbeats 1000000 in
theorem text_any (A : Option Addr) (c m : Nat) (p : List Int) (n : Int) (ok : Nat → Prop) (w : World) (h : intsR.rel w ok [.slice A m c] p) (hf : fitsB p n = true) :
    Calls Tryz.prog 109 #[.agg #[.slice A m c, .int .i64 n]] w fun r w' => r = .returned (encS (catT p n)) ∧ Mod (fun _ => False) w w' := by
  obtain ⟨rfl, hcap, -, hbig, -, hrow⟩ := ints_row h
  have H0 := Lib.hid hrow; clear hrow h
  have HF := Lib.hid ((fitsB_iff p n).1 hf); clear hf
  unfold catT
  go_enter Tryz.func109, Tryz.ntmps109
  go_wp2_with fail
  go_loopg [3, 9] p.length (fun f ss si wr => ∃ i : Nat, si = .int .i64 i ∧ ss = .string ⟨(pathT (p.take i)).toArray⟩ ∧ i + f = p.length ∧ Mod (fun _ => False) w wr ∧ wr.cell? ⟨w.heap.size, 1, none⟩ = some (.int .i64 n))
  case atStart => exact ⟨0, rfl, rfl, by omega, (Mod.refl _ w).alloc _, by rw [Lib.cell_of_heap (World.alloc_heap_new w _)]; rfl⟩
  case round =>
    obtain ⟨i, rfl, rfl, hi, hmod, hcN⟩ := hrel
    have hpl := pathT_len (p.take i) (fun k hk => HF.out.2.2.2 k (List.mem_of_mem_take hk))
    rw [List.length_take] at hpl
    have hp6 := HF.out.2.2.1
    by_cases hlt : i < p.length
    · obtain ⟨x, hx⟩ : ∃ x, p[i]? = some x := ⟨p[i], by simp [hlt]⟩
      obtain ⟨ad, rfl, -, hcx, -⟩ := RowOf.ints (H0.out.step (w1 := wr) (ok1 := ok) (fun k hk hl => ⟨hk, hmod.block k hl id⟩)) hx
      have hxr := HF.out.2.2.2 x (List.mem_of_getElem? hx)
      have hxl := Lib.itoa_length_le x (by omega) (by omega)
      have htake : p.take (i + 1) = p.take i ++ [x] := by rw [List.take_add_one, hx]; rfl
      have hsn := pathT_snoc x (p.take i)
      rw [← htake] at hsn
      have hpl2 : (pathT (p.take i)).length ≤ 200 := by omega
      by_cases hi0 : 0 < i
      · have hne : p.take i ≠ [] := by intro h; have := congrArg List.length h; rw [List.length_take, List.length_nil] at this; omega
        rw [if_neg hne] at hsn
        obtain ⟨s, hs⟩ : ∃ s, s = pathT (p.take i) := ⟨_, rfl⟩
        rw [← hs] at hpl2 hsn ⊢
        have hc1 : (⟨s.toArray⟩ : ByteArray) ++ ⟨#[46]⟩ = ⟨(s ++ [46]).toArray⟩ := by apply ByteArray.ext; simp
        have hc2 : (⟨(s ++ [46]).toArray⟩ : ByteArray) ++ ⟨(Lib.itoa x).toArray⟩ = ⟨((s ++ [46]) ++ Lib.itoa x).toArray⟩ := by apply ByteArray.ext; simp
        have HX := Lib.hid (And.intro hi (And.intro hmod (And.intro hsn hcN))); clear hi hmod hsn hs htake hx hpl hcN
        go_wp2_with fail
        refine (Num_any x (by omega) (by omega) wr).mono ?_
        rintro r w1 ⟨rfl, hm⟩
        have HM := Lib.hid (And.intro (tr0 HX.out.2.1 hm) ((hm.cell (cell_lt HX.out.2.2.2) id).trans HX.out.2.2.2)); clear hm
        dsimp only [encS]
        go_wp2_with fail
        go_roundg (gk - 1)
        case measure => have := HX.out.1; omega
        case rel => exact ⟨i + 1, by go_num, by rw [HX.out.2.2.1]; simp, by have := HX.out.1; omega, HM.out.1, HM.out.2⟩
      · have hne : p.take i = [] := by rw [show i = 0 by omega]; rfl
        rw [if_pos hne, List.nil_append] at hsn
        rw [hne]
        have hc2 : (⟨#[]⟩ : ByteArray) ++ ⟨(Lib.itoa x).toArray⟩ = ⟨(Lib.itoa x).toArray⟩ := by apply ByteArray.ext; simp
        have HX := Lib.hid (And.intro hi (And.intro hmod (And.intro hsn hcN))); clear hi hmod hsn htake hx hpl hcN hne hpl2
        dsimp only [pathT]
        go_wp2_with fail
        refine (Num_any x (by omega) (by omega) wr).mono ?_
        rintro r w1 ⟨rfl, hm⟩
        have HM := Lib.hid (And.intro (tr0 HX.out.2.1 hm) ((hm.cell (cell_lt HX.out.2.2.2) id).trans HX.out.2.2.2)); clear hm
        dsimp only [encS]
        go_wp2_with fail
        go_roundg (gk - 1)
        case measure => have := HX.out.1; omega
        case rel => exact ⟨i + 1, by go_num, by rw [HX.out.2.2.1], by have := HX.out.1; omega, HM.out.1, HM.out.2⟩
    · have hie : p.take i = p := List.take_of_length_le (by omega)
      rw [hie] at hpl ⊢
      have hpl2 : (pathT p).length ≤ 200 := by omega
      obtain ⟨s, hs⟩ : ∃ s, s = pathT p := ⟨_, rfl⟩
      rw [← hs] at hpl2 ⊢
      have hn0 := HF.out.1; have hn1 := HF.out.2.1
      have hnl := Lib.itoa_length_le n (by omega) (by omega)
      have hc1 : (⟨s.toArray⟩ : ByteArray) ++ ⟨#[47]⟩ = ⟨(s ++ [47]).toArray⟩ := by apply ByteArray.ext; simp
      have hc2 : (⟨(s ++ [47]).toArray⟩ : ByteArray) ++ ⟨(Lib.itoa n).toArray⟩ = ⟨((s ++ [47]) ++ Lib.itoa n).toArray⟩ := by apply ByteArray.ext; simp
      have HX := Lib.hid (And.intro hmod hs); clear hmod hs hie hi hpl
      go_wp2_with fail
      refine (Num_any n (by omega) (by omega) wr).mono ?_
      rintro r w1 ⟨rfl, hm⟩
      have HM := Lib.hid (tr0 HX.out.1 hm); clear hm
      dsimp only [encS]
      go_wp2_with fail
      go_ret
      exact ⟨by rw [← HX.out.2]; simp [encS], HM.out⟩
end Go.Proofs.YthhepnaanjicjaaGreatDoor

/- Layer 5, the document's answer: Get. -/
namespace Go.Proofs.YthhepnaanjicjaaGreatDoor
open Go.RowKit Go.Shelf
set_option linter.unusedVariables false
/-- What is read off a text. -/
def scanB : List Int → Int → Nat → List UInt8 → Option (List Int × Int)
  | p, n, d, [] => some (p, n)
  | p, n, d, b :: l =>
    if 48 ≤ b.toNat ∧ b.toNat ≤ 57 then (if 8 < d + 1 then none else scanB p (10 * n + (b.toNat - 48 : Nat)) (d + 1) l)
    else if b = 46 ∨ b = 47 then (if 0 < d then scanB (p ++ [n]) 0 0 l else scanB p 0 0 l)
    else scanB p n d l
def getB (l : List UInt8) : Option (List Int × Int) := match scanB [] 0 0 l with
  | none => none
  | some (p, n) => if fitsB p n = true ∧ catT p n = l then some (p, n) else none
theorem get_leave {W : World} {h : Nat} {x y z : Value} (hb : W.heap[h]? = some (.cells #[x, y] 78 (0, 0))) (tmps : Array Value) (h2 : tmps.getD 2 undef = .pointer (some ⟨h, 0, none⟩)) (h3 : tmps.getD 3 undef = z)
    (R : Ending → World → Prop) (hR : R (.returned (.tuple #[.agg #[x, y], z])) W) : bodyPost Tryz.prog Tryz.f68 R .ret { tmps := tmps, defers := [] } W := by
  refine bodyPost_ret (v := .tuple #[.agg #[x, y], z]) ?_ rfl hR
  rw [results_cell_tmp (p := 2) (u := 3) (ty := 78) rfl, h2]
  have hl := run_loadVar_row (P := Tryz.prog) W h 78 78 #[x, y] (0, 0) _ hb Tryz.underlying78 rfl (by kernel_rfl)
  simp only [asAddr, Sem.run_pure, Result.andThen, hl, h3]
set_option maxRecDepth 100000 in
set_option maxHeartbeats 1000000 in
theorem get_any (l : List UInt8) (hl : l.length ≤ 1000000) (w : World) :
    Calls Tryz.prog 68 #[encS l] w fun r w' => Mod (fun _ => False) w w' ∧ ((getB l = none ∧ r = .returned (.tuple #[.agg #[.slice none 0 0, .int .i64 0], .bool false])) ∨
      ∃ p n A c, getB l = some (p, n) ∧ r = .returned (.tuple #[.agg #[.slice A p.length c, .int .i64 n], .bool true]) ∧ intsR.rel w' (fun k => w.heap.size ≤ k) [.slice A p.length c] p) := by
  unfold encS
  go_enter Tryz.func68, Tryz.ntmps68
  go_wp2_with fail
  go_loopg [5, 6, 7] l.length (fun f sn sd si wr => ∃ (i d : Nat) (n : Int) (p : List Int) (v : Value), si = .int .i64 i ∧ sd = .int .i64 d ∧ sn = .int .i64 n ∧ i + f = l.length ∧ scanB [] 0 0 l = scanB p n d (l.drop i) ∧ d ≤ 8 ∧ 0 ≤ n ∧ n < 10 ^ d ∧ p.length ≤ i ∧ (∀ k ∈ p, 0 ≤ k ∧ k < 100000000) ∧
    wr.heap[w.heap.size]? = some (.cells #[.slice none 0 0, .int .i64 0] 78 (0, 0)) ∧ wr.heap[w.heap.size + 1]? = some (.cells #[v, .int .i64 0] 78 (0, 0)) ∧ wr.ownsRow (w.heap.size + 2) 3 1 v p.length (icells p) ∧ Mod (fun _ => False) w wr)
  case atStart =>
    refine ⟨0, 0, 0, [], .slice none 0 0, rfl, rfl, rfl, by omega, by simp, by omega, by omega, by decide, by simp, by simp, ?_, ?_, World.ownsRow_nil _ _ _ _, ((Mod.refl _ w).alloc _).alloc _⟩
    · exact (Below.heap_alloc _ _ _ (by simp)).trans (World.alloc_heap_new w _)
    · have := World.alloc_heap_new (w.alloc (.cells #[.slice none 0 0, .int .i64 0] 78)) (.cells #[.slice none 0 0, .int .i64 0] 78)
      rw [World.size_alloc] at this
      exact this
  case round =>
    obtain ⟨i, d, n, p, v, rfl, rfl, rfl, hi, hsc, hd8, hn0, hnd, hpi, hpr, hb0, hb1, hrow, hmod⟩ := hrel
    have c0 := fun j => Lib.cell_of_heap hb1 j
    by_cases hlt : i < l.length
    · have hx : l[i]? = some l[i] := by simp [hlt]
      obtain ⟨b, hbe⟩ : ∃ b, b = l[i] := ⟨_, rfl⟩
      rw [List.drop_eq_getElem_cons hlt, ← hbe] at hsc
      rw [← hbe] at hx
      have hxb : ∀ h, (⟨l.toArray⟩ : ByteArray)[i]'h = b := fun h => by rw [hbe]; rfl
      have k0 : wr.cell? ⟨w.heap.size, 0, none⟩ = some (.slice none 0 0) := by rw [Lib.cell_of_heap hb0]; rfl
      have k1 : wr.cell? ⟨w.heap.size, 1, none⟩ = some (.int .i64 0) := by rw [Lib.cell_of_heap hb0]; rfl
      have k2 : wr.frozen? ⟨w.heap.size, 0, none⟩ = false := Lib.frozen_of_heap hb0 0
      have k3 : wr.frozen? ⟨w.heap.size, 1, none⟩ = false := Lib.frozen_of_heap hb0 1
      have k4 : wr.cell? ⟨w.heap.size + 1, 0, none⟩ = some v := by rw [Lib.cell_of_heap hb1]; rfl
      have k5 : wr.frozen? ⟨w.heap.size + 1, 0, none⟩ = false := Lib.frozen_of_heap hb1 0
      have HX := Lib.hid (And.intro hi (And.intro hsc (And.intro hd8 (And.intro hn0 (And.intro hnd (And.intro hpi (And.intro hpr (And.intro hb0 (And.intro hb1 (And.intro hrow hmod))))))))))
      clear hi hsc hd8 hn0 hnd hpi hpr hb0 hb1 hrow hmod c0 hbe
      by_cases hdg : 48 ≤ b.toNat ∧ b.toNat ≤ 57
      · obtain ⟨g1, g2⟩ := hdg
        by_cases hd : d = 8
        · have hdd : wrap64 ((d : Int) + 1) = 9 := by unfold wrap64; omega
          have hsn : scanB [] 0 0 l = none := by rw [HX.out.2.1, scanB, if_pos ⟨g1, g2⟩, if_pos (by omega)]
          have HS := Lib.hid hsn; clear hsn hd
          go_wp2_with fail
          have hB2 := setCell_row (setCell_row (row := [.slice none 0 0, .int .i64 0]) HX.out.2.2.2.2.2.2.2.1 0 (.slice none 0 0)) 1 (.int .i64 0)
          refine get_leave hB2 _ rfl rfl _ ⟨?_, .inl ⟨by unfold getB; rw [HS.out], rfl⟩⟩
          exact (HX.out.2.2.2.2.2.2.2.2.2.2.setCell (.inr (by simp)) _).setCell (.inr (by simp)) _
        · have hd7 : d ≤ 7 := by have := HX.out.2.2.1; omega
          have hn7 : n < 10000000 := Int.lt_of_lt_of_le HX.out.2.2.2.2.1 (by
            have h1 : 10 ^ d ≤ 10 ^ 7 := Nat.pow_le_pow_right (by decide) hd7
            have h2 : ((10 ^ d : Nat) : Int) ≤ ((10 ^ 7 : Nat) : Int) := Int.ofNat_le.2 h1
            simpa using h2)
          have hn0 := HX.out.2.2.2.1
          go_wp2_with fail
          go_roundg (gk - 1)
          case measure => have := HX.out.1; omega
          case rel =>
            obtain ⟨hi, hsc, hd8, -, hnd, hpi, hpr, hb0, hb1, hrow, hmod⟩ := HX.out
            refine ⟨i + 1, d + 1, 10 * n + (b.toNat - 48 : Nat), p, v, by go_num, by go_num, by go_num, by omega, ?_, by omega, by omega, ?_, by omega, hpr, hb0, hb1, hrow, hmod⟩
            · rw [hsc, scanB, if_pos ⟨g1, g2⟩, if_neg (by omega)]
            · rw [Int.pow_succ]; omega
      · have hsep : ∀ (hs : b.toNat = 46 ∨ b.toNat = 47), b = 46 ∨ b = 47 := fun hs => hs.imp (fun h => UInt8.toNat_inj.1 h) (fun h => UInt8.toNat_inj.1 h)
        have hnd2 : b.toNat < 48 ∨ 57 < b.toNat := by omega
        by_cases hs : b.toNat = 46 ∨ b.toNat = 47
        · have hb := hsep hs
          have hbs : b.toNat < 48 := by omega
          have h47 : ((b.toNat : Int) == 46) = true ∨ (((b.toNat : Int) == 46) = false ∧ ((b.toNat : Int) == 47) = true) := by
            rcases hs with h | h
            · left; simp [h]
            · right; simp [h]
          by_cases hd0 : 0 < d
          · have hsn : scanB [] 0 0 l = scanB (p ++ [n]) 0 0 (l.drop (i + 1)) := by rw [HX.out.2.1, scanB, if_neg hdg, if_pos hb, if_pos hd0]
            have HS := Lib.hid hsn; clear hsn hb hsep hdg hnd2 hs
            have hsz2 : w.heap.size + 2 ≤ wr.heap.size := cell_lt k4
            rcases h47 with h46 | ⟨h46, h47⟩
            · go_wp2_with (at_builtin; refine append_one (w.heap.size + 2) rfl _ _ 76 3 (.int .i64 0) 8 rfl Tryz.underlying76 Tryz.infoI rfl (by decide) v (icells p) _ rfl rfl rfl (by rw [icells_length]; exact HX.out.2.2.2.2.2.2.2.2.2.1) hsz2 ?c1 ?_)
              case c1 => have := HX.out.2.2.2.2.2.1; simp only [icells_length]; omega
              intro A' c' w1 hown hg hn
              have hown2 := hown
              rw [icells_length] at hown2
              have hmg := (Mod.refl (fun _ => False) wr)
              have hblk : w1.heap[w.heap.size + 1]? = some (.cells #[v, .int .i64 0] 78 (0, 0)) := (hg.block _ (cell_lt k4) (fun e => by have h := (own_cells HX.out.2.2.2.2.2.2.2.2.2.1 e.symm).1; omega)).trans HX.out.2.2.2.2.2.2.2.2.1
              have hblk0 : w1.heap[w.heap.size]? = some (.cells #[.slice none 0 0, .int .i64 0] 78 (0, 0)) := (hg.block _ (cell_lt k0) (fun e => by have h := (own_cells HX.out.2.2.2.2.2.2.2.2.2.1 e.symm).1; omega)).trans HX.out.2.2.2.2.2.2.2.1
              have m0 : w1.cell? ⟨w.heap.size + 1, 0, none⟩ = some v := by rw [Lib.cell_of_heap hblk]; rfl
              have m1 : w1.frozen? ⟨w.heap.size + 1, 0, none⟩ = false := Lib.frozen_of_heap hblk 0
              have HO := Lib.hid (And.intro hown2 (And.intro hg (And.intro hblk hblk0))); clear hown hown2 hg hn hblk hblk0 hmg
              go_wp2_with fail
              go_roundg (gk - 1)
              case measure => have := HX.out.1; omega
              case rel =>
                obtain ⟨hi, hsc, hd8, hn0, hnd, hpi, hpr, hb0, hb1, hrow, hmod⟩ := HX.out
                obtain ⟨hown, hg, hblk, hblk0⟩ := HO.out
                rw [icells_length]
                have hl1 : (p ++ [n]).length = p.length + 1 := by simp
                refine ⟨i + 1, 0, 0, p ++ [n], .slice A' (p.length + 1) c', by go_num, rfl, rfl, by omega, HS.out, by omega, by omega, by decide, by simp; omega, ?_, ?_, ?_, ?_, ?_⟩
                · intro k hk
                  rcases List.mem_append.1 hk with hk | hk
                  · exact hpr k hk
                  · rw [List.mem_singleton.1 hk]
                    have h1 : 10 ^ d ≤ 10 ^ 8 := Nat.pow_le_pow_right (by decide) hd8
                    have h2 : ((10 ^ d : Nat) : Int) ≤ ((10 ^ 8 : Nat) : Int) := Int.ofNat_le.2 h1
                    refine ⟨hn0, Int.lt_of_lt_of_le hnd ?_⟩
                    simpa using h2
                · exact (Below.heap_setCell _ _ _ _ (by simp)).trans hblk0
                · exact setCell_row (row := [v, .int .i64 0]) hblk 0 _
                · rw [hl1, icells_append]
                  exact own_move hown (fun k hk => Below.heap_setCell _ _ _ _ (by
                    have h := (own_cells hown hk).1
                    show k ≠ w.heap.size + 1
                    omega))
                · exact (hmod.grown hg (fun k hk => .inr (by have := (own_lt hrow k hk.symm).1; omega))).setCell (.inr (by simp)) _
            · go_wp2_with (at_builtin; refine append_one (w.heap.size + 2) rfl _ _ 76 3 (.int .i64 0) 8 rfl Tryz.underlying76 Tryz.infoI rfl (by decide) v (icells p) _ rfl rfl rfl (by rw [icells_length]; exact HX.out.2.2.2.2.2.2.2.2.2.1) hsz2 ?c1 ?_)
              case c1 => have := HX.out.2.2.2.2.2.1; simp only [icells_length]; omega
              intro A' c' w1 hown hg hn
              have hown2 := hown
              rw [icells_length] at hown2
              have hmg := (Mod.refl (fun _ => False) wr)
              have hblk : w1.heap[w.heap.size + 1]? = some (.cells #[v, .int .i64 0] 78 (0, 0)) := (hg.block _ (cell_lt k4) (fun e => by have h := (own_cells HX.out.2.2.2.2.2.2.2.2.2.1 e.symm).1; omega)).trans HX.out.2.2.2.2.2.2.2.2.1
              have hblk0 : w1.heap[w.heap.size]? = some (.cells #[.slice none 0 0, .int .i64 0] 78 (0, 0)) := (hg.block _ (cell_lt k0) (fun e => by have h := (own_cells HX.out.2.2.2.2.2.2.2.2.2.1 e.symm).1; omega)).trans HX.out.2.2.2.2.2.2.2.1
              have m0 : w1.cell? ⟨w.heap.size + 1, 0, none⟩ = some v := by rw [Lib.cell_of_heap hblk]; rfl
              have m1 : w1.frozen? ⟨w.heap.size + 1, 0, none⟩ = false := Lib.frozen_of_heap hblk 0
              have HO := Lib.hid (And.intro hown2 (And.intro hg (And.intro hblk hblk0))); clear hown hown2 hg hn hblk hblk0 hmg
              go_wp2_with fail
              go_roundg (gk - 1)
              case measure => have := HX.out.1; omega
              case rel =>
                obtain ⟨hi, hsc, hd8, hn0, hnd, hpi, hpr, hb0, hb1, hrow, hmod⟩ := HX.out
                obtain ⟨hown, hg, hblk, hblk0⟩ := HO.out
                rw [icells_length]
                have hl1 : (p ++ [n]).length = p.length + 1 := by simp
                refine ⟨i + 1, 0, 0, p ++ [n], .slice A' (p.length + 1) c', by go_num, rfl, rfl, by omega, HS.out, by omega, by omega, by decide, by simp; omega, ?_, ?_, ?_, ?_, ?_⟩
                · intro k hk
                  rcases List.mem_append.1 hk with hk | hk
                  · exact hpr k hk
                  · rw [List.mem_singleton.1 hk]
                    have h1 : 10 ^ d ≤ 10 ^ 8 := Nat.pow_le_pow_right (by decide) hd8
                    have h2 : ((10 ^ d : Nat) : Int) ≤ ((10 ^ 8 : Nat) : Int) := Int.ofNat_le.2 h1
                    refine ⟨hn0, Int.lt_of_lt_of_le hnd ?_⟩
                    simpa using h2
                · exact (Below.heap_setCell _ _ _ _ (by simp)).trans hblk0
                · exact setCell_row (row := [v, .int .i64 0]) hblk 0 _
                · rw [hl1, icells_append]
                  exact own_move hown (fun k hk => Below.heap_setCell _ _ _ _ (by
                    have h := (own_cells hown hk).1
                    show k ≠ w.heap.size + 1
                    omega))
                · exact (hmod.grown hg (fun k hk => .inr (by have := (own_lt hrow k hk.symm).1; omega))).setCell (.inr (by simp)) _
          · have hsn : scanB [] 0 0 l = scanB p 0 0 (l.drop (i + 1)) := by rw [HX.out.2.1, scanB, if_neg hdg, if_pos hb, if_neg hd0]
            have HS := Lib.hid hsn; clear hsn hb hsep hdg hnd2 hs
            rcases h47 with h46 | ⟨h46, h47⟩
            · go_wp2_with fail
              go_roundg (gk - 1)
              case measure => have := HX.out.1; omega
              case rel =>
                obtain ⟨hi, hsc, hd8, hn0, hnd, hpi, hpr, hb0, hb1, hrow, hmod⟩ := HX.out
                exact ⟨i + 1, 0, 0, p, v, by go_num, rfl, rfl, by omega, HS.out, by omega, by omega, by decide, by omega, hpr, hb0, hb1, hrow, hmod⟩
            · go_wp2_with fail
              go_roundg (gk - 1)
              case measure => have := HX.out.1; omega
              case rel =>
                obtain ⟨hi, hsc, hd8, hn0, hnd, hpi, hpr, hb0, hb1, hrow, hmod⟩ := HX.out
                exact ⟨i + 1, 0, 0, p, v, by go_num, rfl, rfl, by omega, HS.out, by omega, by omega, by decide, by omega, hpr, hb0, hb1, hrow, hmod⟩
        · have hsn : scanB [] 0 0 l = scanB p n d (l.drop (i + 1)) := by
            rw [HX.out.2.1, scanB, if_neg hdg, if_neg]
            rintro (rfl | rfl)
            · exact hs (.inl rfl)
            · exact hs (.inr rfl)
          have h46 : ((b.toNat : Int) == 46) = false := by simp; omega
          have h47 : ((b.toNat : Int) == 47) = false := by simp; omega
          have HS := Lib.hid hsn; clear hsn hsep hdg hs
          rcases hnd2 with hq | hq
          · go_wp2_with fail
            go_roundg (gk - 1)
            case measure => have := HX.out.1; omega
            case rel =>
              obtain ⟨hi, hsc, hd8, hn0, hnd, hpi, hpr, hb0, hb1, hrow, hmod⟩ := HX.out
              exact ⟨i + 1, d, n, p, v, by go_num, rfl, rfl, by omega, HS.out, hd8, hn0, hnd, by omega, hpr, hb0, hb1, hrow, hmod⟩
          · go_wp2_with fail
            go_roundg (gk - 1)
            case measure => have := HX.out.1; omega
            case rel =>
              obtain ⟨hi, hsc, hd8, hn0, hnd, hpi, hpr, hb0, hb1, hrow, hmod⟩ := HX.out
              exact ⟨i + 1, d, n, p, v, by go_num, rfl, rfl, by omega, HS.out, hd8, hn0, hnd, by omega, hpr, hb0, hb1, hrow, hmod⟩
    · rw [List.drop_eq_nil_of_le (by omega : l.length ≤ i)] at hsc
      simp only [scanB] at hsc
      have k0 : wr.cell? ⟨w.heap.size, 0, none⟩ = some (.slice none 0 0) := by rw [Lib.cell_of_heap hb0]; rfl
      have k1 : wr.cell? ⟨w.heap.size, 1, none⟩ = some (.int .i64 0) := by rw [Lib.cell_of_heap hb0]; rfl
      have k2 : wr.frozen? ⟨w.heap.size, 0, none⟩ = false := Lib.frozen_of_heap hb0 0
      have k3 : wr.frozen? ⟨w.heap.size, 1, none⟩ = false := Lib.frozen_of_heap hb0 1
      have k4 : wr.cell? ⟨w.heap.size + 1, 0, none⟩ = some v := by rw [Lib.cell_of_heap hb1]; rfl
      have k5 : wr.cell? ⟨w.heap.size + 1, 1, none⟩ = some (.int .i64 0) := by rw [Lib.cell_of_heap hb1]; rfl
      have k6 : wr.frozen? ⟨w.heap.size + 1, 1, none⟩ = false := Lib.frozen_of_heap hb1 1
      obtain ⟨A, c, rfl⟩ := own_slice hrow
      have HX := Lib.hid (And.intro hsc (And.intro hd8 (And.intro hn0 (And.intro hnd (And.intro hpi (And.intro hpr (And.intro hb0 (And.intro hb1 (And.intro hrow hmod)))))))))
      have hil : i ≤ 1000000 := by omega
      clear hi hsc hd8 hn0 hnd hpi hpr hb0 hb1 hrow hmod c0
      go_wp2_with fail
      obtain ⟨W0, hW0⟩ : ∃ W0, W0 = wr.setCell ⟨w.heap.size + 1, 1, none⟩ (.int .i64 n) := ⟨_, rfl⟩
      rw [← hW0]
      have HW : W0.heap[w.heap.size]? = some (.cells #[.slice none 0 0, .int .i64 0] 78 (0, 0)) ∧ W0.heap[w.heap.size + 1]? = some (.cells #[.slice A p.length c, .int .i64 n] 78 (0, 0)) ∧
          W0.ownsRow (w.heap.size + 2) 3 1 (.slice A p.length c) p.length (icells p) ∧ Mod (fun _ => False) w W0 := by
        obtain ⟨hsc, hd8, hn0, hnd, hpi, hpr, hb0, hb1, hrow, hmod⟩ := HX.out
        rw [hW0]
        refine ⟨(Below.heap_setCell _ _ _ _ (by simp)).trans hb0, setCell_row (row := [.slice A p.length c, .int .i64 0]) hb1 1 _, own_move hrow (fun k hk => Below.heap_setCell _ _ _ _ ?_), hmod.setCell (.inr (by simp)) _⟩
        have h := (own_cells hrow hk).1
        show k ≠ w.heap.size + 1
        omega
      have hpl : p.length ≤ 1000000 := by have := HX.out.2.2.2.2.1; omega
      have hrI : ∀ x ∈ p, Rd.inR .i64 x := fun x hx => inR_mk (by have := HX.out.2.2.2.2.2.1 x hx; omega)
      have hI0 := reads_ints HW.2.2.1 hrI (by omega)
      have HP := Lib.hid (And.intro HX.out.1 (And.intro HW (And.intro hI0 hrI))); clear HW hI0 hrI HX k0 k1 k2 k3 k4 k5 k6 hW0
      refine (fits_any A c p.length p n _ W0 HP.out.2.2.1).mono ?_
      rintro r w1 ⟨rfl, hm1⟩
      have hb0 := (hm1.block _ (lt_of_blk HP.out.2.1.1) id).trans HP.out.2.1.1
      have hb1 := (hm1.block _ (lt_of_blk HP.out.2.1.2.1) id).trans HP.out.2.1.2.1
      have HM1 := Lib.hid (And.intro hb0 (And.intro hb1 (And.intro (Rd.mod (Rd.bound HP.out.2.2.1) hm1 (fun _ _ => id)) (tr0 HP.out.2.1.2.2.2 hm1)))); clear hm1 hb0 hb1
      have k0 : w1.cell? ⟨w.heap.size, 0, none⟩ = some (.slice none 0 0) := by rw [Lib.cell_of_heap HM1.out.1]; rfl
      have k1 : w1.cell? ⟨w.heap.size, 1, none⟩ = some (.int .i64 0) := by rw [Lib.cell_of_heap HM1.out.1]; rfl
      have k2 : w1.frozen? ⟨w.heap.size, 0, none⟩ = false := Lib.frozen_of_heap HM1.out.1 0
      have k3 : w1.frozen? ⟨w.heap.size, 1, none⟩ = false := Lib.frozen_of_heap HM1.out.1 1
      have k4 : w1.cell? ⟨w.heap.size + 1, 0, none⟩ = some (.slice A p.length c) := by rw [Lib.cell_of_heap HM1.out.2.1]; rfl
      have k5 : w1.cell? ⟨w.heap.size + 1, 1, none⟩ = some (.int .i64 n) := by rw [Lib.cell_of_heap HM1.out.2.1]; rfl
      cases hf : fitsB p n with
      | false =>
        go_wp2_with fail
        have hB2 := setCell_row (setCell_row (row := [.slice none 0 0, .int .i64 0]) HM1.out.1 0 (.slice none 0 0)) 1 (.int .i64 0)
        refine get_leave hB2 _ rfl rfl _ ⟨?_, .inl ⟨by unfold getB; rw [HP.out.1]; simp [hf], rfl⟩⟩
        exact (HM1.out.2.2.2.setCell (.inr (by simp)) _).setCell (.inr (by simp)) _
      | true =>
        go_wp2_with fail
        refine (text_any A c p.length p n _ w1 HM1.out.2.2.1 hf).mono ?_
        rintro r w2 ⟨rfl, hm2⟩
        have hb0 := (hm2.block _ (lt_of_blk HM1.out.1) id).trans HM1.out.1
        have hb1 := (hm2.block _ (lt_of_blk HM1.out.2.1) id).trans HM1.out.2.1
        have HM2 := Lib.hid (And.intro hb0 (And.intro hb1 (And.intro (Rd.mod (Rd.bound HM1.out.2.2.1) hm2 (fun _ _ => id)) (tr0 HM1.out.2.2.2 hm2)))); clear hm2 hb0 hb1 k0 k1 k2 k3 k4 k5
        have k0 : w2.cell? ⟨w.heap.size, 0, none⟩ = some (.slice none 0 0) := by rw [Lib.cell_of_heap HM2.out.1]; rfl
        have k1 : w2.cell? ⟨w.heap.size, 1, none⟩ = some (.int .i64 0) := by rw [Lib.cell_of_heap HM2.out.1]; rfl
        have k2 : w2.frozen? ⟨w.heap.size, 0, none⟩ = false := Lib.frozen_of_heap HM2.out.1 0
        have k3 : w2.frozen? ⟨w.heap.size, 1, none⟩ = false := Lib.frozen_of_heap HM2.out.1 1
        have k4 : w2.cell? ⟨w.heap.size + 1, 0, none⟩ = some (.slice A p.length c) := by rw [Lib.cell_of_heap HM2.out.2.1]; rfl
        have k5 : w2.cell? ⟨w.heap.size + 1, 1, none⟩ = some (.int .i64 n) := by rw [Lib.cell_of_heap HM2.out.2.1]; rfl
        obtain ⟨t, ht⟩ : ∃ t, t = catT p n := ⟨_, rfl⟩
        rw [← ht]
        have HT := Lib.hid ht; clear ht
        dsimp only [encS]
        by_cases hq : t = l
        · have e1 : (t == l) = true := by simp [hq]
          have HQ := Lib.hid hq; clear hq
          go_wp2_with fail
          have hB2 := setCell_row (setCell_row (row := [.slice none 0 0, .int .i64 0]) HM2.out.1 0 (.slice A p.length c)) 1 (.int .i64 n)
          have m2 : Mod (fun k => k = w.heap.size) w2 ((w2.setCell ⟨w.heap.size, 0, none⟩ (.slice A p.length c)).setCell ⟨w.heap.size, 1, none⟩ (.int .i64 n)) := Mod.setCell (a := ⟨w.heap.size, 1, none⟩) (Mod.setCell (a := ⟨w.heap.size, 0, none⟩) (Mod.refl (fun k => k = w.heap.size) w2) (.inl rfl) _) (.inl rfl) _
          have hge : ∀ k, (Value.slice A p.length c).ownBlock = some k → w.heap.size + 2 ≤ k := fun k hk => (own_cells HP.out.2.1.2.2.1 hk).1
          refine get_leave hB2 _ rfl rfl _ ⟨?_, .inr ⟨p, n, A, c, by unfold getB; rw [HP.out.1]; dsimp only; rw [if_pos ⟨hf, HT.out.symm.trans HQ.out⟩], rfl, ?_⟩⟩
          · exact HM2.out.2.2.2.trans m2 (fun k hk => .inr (by omega))
          · exact Rd.mono (Rd.mod HM2.out.2.2.1 m2 (fun k hk => by have := hge k hk.1.1; omega)) (fun k hk => by have := hge k hk.1.1; omega)
        · have e1 : (t == l) = false := by simp [hq]
          have HQ := Lib.hid hq; clear hq
          go_wp2_with fail
          have hB2 := setCell_row (setCell_row (row := [.slice none 0 0, .int .i64 0]) HM2.out.1 0 (.slice none 0 0)) 1 (.int .i64 0)
          refine get_leave hB2 _ rfl rfl _ ⟨?_, .inl ⟨by unfold getB; rw [HP.out.1]; dsimp only; rw [if_neg]; rintro ⟨-, h⟩; exact HQ.out (HT.out.trans h), rfl⟩⟩
          exact (HM2.out.2.2.2.setCell (.inr (by simp)) _).setCell (.inr (by simp)) _
theorem scan_digits : ∀ (x l : List UInt8) (p : List Int) (n : Int) (d : Nat), (∀ b ∈ x, 48 ≤ b.toNat ∧ b.toNat ≤ 57) → d + x.length ≤ 8 → ∃ m : Int, scanB p n d (x ++ l) = scanB p m (d + x.length) l ∧ m = x.foldl (fun a b => 10 * a + ((b.toNat - 48 : Nat) : Int)) n
  | [], l, p, n, d, _, _ => ⟨n, rfl, rfl⟩
  | b :: x, l, p, n, d, h, hd => by
    simp only [List.length_cons] at hd
    obtain ⟨m, h1, h2⟩ := scan_digits x l p (10 * n + (b.toNat - 48 : Nat)) (d + 1) (fun c hc => h c (List.mem_cons_of_mem _ hc)) (by omega)
    refine ⟨m, ?_, by rw [h2]; rfl⟩
    rw [List.cons_append, scanB, if_pos (h b (by simp)), if_neg (by omega), h1]
    congr 1
    simp only [List.length_cons]; omega
theorem dec_fold (u : Nat) (n : Int) (h : n = 0) : (Lib.decDigits u).foldl (fun a b => 10 * a + ((b.toNat - 48 : Nat) : Int)) n = u := by
  have one : ∀ d, d < 10 → (UInt8.ofNat (48 + d)).toNat = 48 + d := fun d hd => by simp; omega
  subst h
  rw [Lib.decDigits]
  split
  · rename_i h
    simp only [List.foldl_cons, List.foldl_nil, one u h]
    omega
  · rw [List.foldl_append, dec_fold (u / 10) 0 rfl]
    simp only [List.foldl_cons, List.foldl_nil, one (u % 10) (by omega)]
    omega
theorem dec_small : ∀ (k u : Nat), u < 10 ^ (k + 1) → (Lib.decDigits u).length ≤ k + 1
  | 0, u, h => by rw [Lib.decDigits_one (by simpa using h)]; simp
  | k + 1, u, h => by
    rw [Lib.decDigits]
    split
    · simp
    · have := dec_small k (u / 10) (by rw [Nat.pow_succ] at h; omega)
      simp; omega
theorem scan_itoa (k : Int) (l : List UInt8) (p : List Int) (h0 : 0 ≤ k) (h1 : k ≤ 1048576) : ∃ d, 0 < d ∧ d ≤ 8 ∧ scanB p 0 0 (Lib.itoa k ++ l) = scanB p k d l := by
  obtain ⟨u, rfl⟩ : ∃ u : Nat, k = u := ⟨k.toNat, by omega⟩
  rw [Lib.itoa_nonneg]
  have hl := dec_small 7 u (by omega)
  obtain ⟨m, h2, h3⟩ := scan_digits (Lib.decDigits u) l p 0 0 (dec_mem u) (by omega)
  rw [dec_fold u 0 rfl] at h3
  subst h3
  obtain ⟨c, r, hc, _⟩ := dec_head u
  refine ⟨0 + (Lib.decDigits u).length, by rw [hc]; simp, by omega, h2⟩
theorem scan_path : ∀ (p q : List Int) (n : Int), (∀ k ∈ p, 0 ≤ k ∧ k ≤ 1048576) → 0 ≤ n → n ≤ 1048576 → scanB q 0 0 (pathT p ++ 47 :: Lib.itoa n) = some (q ++ p, n)
  | [], q, n, _, h0, h1 => by
    have e : scanB q 0 0 (pathT [] ++ 47 :: Lib.itoa n) = scanB q 0 0 (Lib.itoa n) := by
      show scanB q 0 0 (47 :: Lib.itoa n) = _
      rw [scanB, if_neg (by decide), if_pos (by decide), if_neg (by decide)]
    obtain ⟨d, _, _, h2⟩ := scan_itoa n [] q h0 h1
    rw [List.append_nil] at h2
    rw [e, h2]; simp [scanB]
  | [k], q, n, h, h0, h1 => by
    obtain ⟨hk0, hk1⟩ := h k (by simp)
    obtain ⟨d, hd0, _, h2⟩ := scan_itoa k (47 :: Lib.itoa n) q hk0 hk1
    show scanB q 0 0 (Lib.itoa k ++ 47 :: Lib.itoa n) = _
    rw [h2, scanB, if_neg (by decide), if_pos (by decide), if_pos hd0]
    obtain ⟨d2, _, _, h3⟩ := scan_itoa n [] (q ++ [k]) h0 h1
    rw [List.append_nil] at h3
    rw [h3]; simp [scanB]
  | k :: b :: p, q, n, h, h0, h1 => by
    obtain ⟨hk0, hk1⟩ := h k (by simp)
    have ih := scan_path (b :: p) (q ++ [k]) n (fun x hx => h x (List.mem_cons_of_mem _ hx)) h0 h1
    have e : pathT (k :: b :: p) ++ 47 :: Lib.itoa n = Lib.itoa k ++ 46 :: (pathT (b :: p) ++ 47 :: Lib.itoa n) := by simp [pathT]
    obtain ⟨d, hd0, _, h2⟩ := scan_itoa k (46 :: (pathT (b :: p) ++ 47 :: Lib.itoa n)) q hk0 hk1
    rw [e, h2, scanB, if_neg (by decide), if_pos (by decide), if_pos hd0, ih]
    simp
/-- The document's answer and the code's are one. -/
theorem getB_eq (l : List UInt8) : getB l = parseB l := by
  cases hp : parseB l with
  | some x =>
    obtain ⟨p, n⟩ := x
    obtain ⟨hf, hc⟩ := parse_iff.1 hp
    obtain ⟨h1, h2, h3, h4⟩ := (fitsB_iff p n).1 hf
    have := scan_path p [] n h4 h1 (by omega)
    unfold catT at hc
    rw [hc] at this
    unfold getB
    rw [this]
    dsimp only
    rw [if_pos ⟨by simpa using hf, by unfold catT; simpa using hc⟩]
    simp
  | none =>
    unfold getB
    split
    · rfl
    · rename_i p n hs
      split
      · rename_i h
        have := parse_iff.2 h
        rw [hp] at this; cases this
      · rfl
end Go.Proofs.YthhepnaanjicjaaGreatDoor

/- Layer 5, the document's answer: Ahead, Compare. -/
namespace Go.Proofs.YthhepnaanjicjaaGreatDoor
open Go.RowKit Go.Shelf
set_option linter.unusedVariables false
def aheadB (p : List Int) (m : Int) (q : List Int) (n : Int) : Bool := decide ((if cmpL p q = 0 then Lib.compareInt m n else cmpL p q) < 0)
theorem aheadB_cons (x y : Int) (p q : List Int) (m n : Int) : aheadB (x :: p) m (y :: q) n = if x < y then true else if y < x then false else aheadB p m q n := by
  unfold aheadB
  simp only [cmpL]
  by_cases h1 : x < y
  · simp [h1]
  · by_cases h2 : y < x
    · simp [h1, h2]
    · simp [h1, h2]
set_option maxRecDepth 100000 in
set_option maxHeartbeats 1000000 in
theorem ahead_any (A : Option Addr) (c : Nat) (A2 : Option Addr) (c2 : Nat) (p q : List Int) (m n : Int) (ok ok2 : Nat → Prop) (w : World) (h : intsR.rel w ok [.slice A p.length c] p) (h2 : intsR.rel w ok2 [.slice A2 q.length c2] q) :
    Calls Tryz.prog 110 #[.agg #[.slice A p.length c, .int .i64 m], .agg #[.slice A2 q.length c2, .int .i64 n]] w fun r w' => r = .returned (.bool (aheadB p m q n)) ∧ Mod (fun _ => False) w w' := by
  obtain ⟨-, hcap, -, hbig, -, hrow⟩ := ints_row h
  obtain ⟨-, hcap2, -, hbig2, -, hrow2⟩ := ints_row h2
  have H0 := Lib.hid (And.intro hrow hrow2); clear hrow hrow2 h h2
  obtain ⟨z, hz⟩ : ∃ z, z = aheadB p m q n := ⟨_, rfl⟩
  rw [← hz]
  have HZ := Lib.hid hz; clear hz
  go_enter Tryz.func110, Tryz.ntmps110
  go_wp2_with fail
  go_loopg [5] p.length (fun f si wr => ∃ i : Nat, si = .int .i64 i ∧ i + f = p.length ∧ i ≤ q.length ∧ z = aheadB (p.drop i) m (q.drop i) n ∧ wr.heap[w.heap.size]? = some (.cells #[.slice A p.length c, .int .i64 m] 78 (0, 0)) ∧
    wr.heap[w.heap.size + 1]? = some (.cells #[.slice A2 q.length c2, .int .i64 n] 78 (0, 0)) ∧ Mod (fun _ => False) w wr)
  case atStart =>
    refine ⟨0, rfl, by omega, by omega, HZ.out, (Below.heap_alloc _ _ _ (by simp)).trans (World.alloc_heap_new w _), ?_, ((Mod.refl _ w).alloc _).alloc _⟩
    have := World.alloc_heap_new (w.alloc (.cells #[.slice A p.length c, .int .i64 m] 78)) (.cells #[.slice A2 q.length c2, .int .i64 n] 78)
    rw [World.size_alloc] at this
    exact this
  case round =>
    obtain ⟨i, rfl, hi, hiq, hz, hb0, hb1, hmod⟩ := hrel
    have k0 : wr.cell? ⟨w.heap.size, 0, none⟩ = some (.slice A p.length c) := by rw [Lib.cell_of_heap hb0]; rfl
    have k1 : wr.cell? ⟨w.heap.size, 1, none⟩ = some (.int .i64 m) := by rw [Lib.cell_of_heap hb0]; rfl
    have k2 : wr.cell? ⟨w.heap.size + 1, 0, none⟩ = some (.slice A2 q.length c2) := by rw [Lib.cell_of_heap hb1]; rfl
    have k3 : wr.cell? ⟨w.heap.size + 1, 1, none⟩ = some (.int .i64 n) := by rw [Lib.cell_of_heap hb1]; rfl
    by_cases hp : i < p.length
    · have hx : p[i]? = some p[i] := by simp [hp]
      obtain ⟨x, hxe⟩ : ∃ x, x = p[i] := ⟨_, rfl⟩
      rw [← hxe] at hx
      have hpd : p.drop i = x :: p.drop (i + 1) := by rw [List.drop_eq_getElem_cons hp, ← hxe]
      have e1 : ((i : Int) == (p.length : Int)) = false := by simp; omega
      by_cases hq : i < q.length
      · have hy : q[i]? = some q[i] := by simp [hq]
        obtain ⟨y, hye⟩ : ∃ y, y = q[i] := ⟨_, rfl⟩
        rw [← hye] at hy
        have hqd : q.drop i = y :: q.drop (i + 1) := by rw [List.drop_eq_getElem_cons hq, ← hye]
        have e2 : ((i : Int) == (q.length : Int)) = false := by simp; omega
        obtain ⟨ad, rfl, -, hcx, -⟩ := RowOf.ints (H0.out.1.step (w1 := wr) (ok1 := ok) (fun k hk hl => ⟨hk, hmod.block k hl id⟩)) hx
        obtain ⟨ad2, rfl, -, hcy, -⟩ := RowOf.ints (H0.out.2.step (w1 := wr) (ok1 := ok2) (fun k hk hl => ⟨hk, hmod.block k hl id⟩)) hy
        rw [hpd, hqd, aheadB_cons] at hz
        have HX := Lib.hid (And.intro hi (And.intro hiq (And.intro hz (And.intro hb0 (And.intro hb1 hmod))))); clear hi hiq hz hb0 hb1 hmod hpd hqd hxe hye hx hy
        go_wp2_with fail
        go_quiet (fail)
        by_cases hne : x = y
        · subst hne
          have e3 : (x != x) = false := by simp
          go_wp2_with fail
          go_roundg (gk - 1)
          case measure => have := HX.out.1; omega
          case rel =>
            obtain ⟨hi, hiq, hz, hb0, hb1, hmod⟩ := HX.out
            exact ⟨i + 1, by go_num, by omega, by omega, by rw [hz, if_neg (by omega), if_neg (by omega)], hb0, hb1, hmod.drewN _⟩
        · have e3 : (x != y) = true := by simp [hne]
          go_wp2_with fail
          go_quiet (fail)
          go_wp2_with fail
          go_ret
          obtain ⟨hi, hiq, hz, hb0, hb1, hmod⟩ := HX.out
          refine ⟨?_, (hmod.drewN _).drewN _⟩
          rw [hz]
          by_cases hlt : x < y
          · simp [hlt]
          · simp [hlt]; omega
      · have e2 : ((i : Int) == (q.length : Int)) = true := by simp; omega
        rw [List.drop_eq_nil_of_le (by omega : q.length ≤ i), hpd] at hz
        have e3 : ((p.length : Int) != (q.length : Int)) = true := by simp; omega
        have HX := Lib.hid (And.intro hz hmod); clear hz hmod hb0 hb1 hpd hx hxe hi
        go_wp2_with fail
        go_ret
        exact ⟨by rw [HX.out.1]; simp [aheadB, cmpL], HX.out.2⟩
    · have e1 : ((i : Int) == (p.length : Int)) = true := by simp; omega
      rw [List.drop_eq_nil_of_le (by omega : p.length ≤ i)] at hz
      by_cases hq : i < q.length
      · have e3 : ((p.length : Int) != (q.length : Int)) = true := by simp; omega
        rw [List.drop_eq_getElem_cons hq] at hz
        have HX := Lib.hid (And.intro hz hmod); clear hz hmod hb0 hb1 hi
        go_wp2_with fail
        go_ret
        exact ⟨by rw [HX.out.1]; simp [aheadB, cmpL], HX.out.2⟩
      · have e3 : ((p.length : Int) != (q.length : Int)) = false := by simp; omega
        rw [List.drop_eq_nil_of_le (by omega : q.length ≤ i)] at hz
        have HX := Lib.hid (And.intro hz hmod); clear hz hmod hb0 hb1 hi
        go_wp2_with fail
        go_ret
        refine ⟨?_, HX.out.2⟩
        rw [HX.out.1]
        have : aheadB [] m [] n = decide (m < n) := by
          unfold aheadB Lib.compareInt
          simp only [cmpL, if_true]
          by_cases h1 : m < n
          · simp [h1]
          · by_cases h2 : m > n <;> simp [h1, h2]
        rw [this]; rfl
end Go.Proofs.YthhepnaanjicjaaGreatDoor
