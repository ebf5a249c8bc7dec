/- Layer 5, cats: slices.SortFunc by Compare, slices.Compact at rows of the call's own. -/
import Derived.Test.YtgdadhpcooegnaaDoorCats7
import Derived.Test.YtgdadhpcooegnaaDoorDrawn
import Derived.Test.YtgdadhpcooegnaaDoorSortShelf
import Derived.Sort.OwnSorted
import Derived.Lib.OwnBridge
namespace Go.Proofs.YtgdadhpcooegnaaDoor
open Go.RowKit Go.Shelf Go.Lib Go.Sort
set_option linter.unusedVariables false
theorem encS_str (l : List UInt8) : encS l = encStr l := rfl
/-- A text of no great length. -/
abbrev Txt := { l : List UInt8 // l.length ≤ 140737488355328 }
instance : Inhabited Txt := ⟨⟨[], by simp⟩⟩
def encT (x : Txt) : Value := encS x.1
def cmpT (x y : Txt) : Int := cmpB x.1 y.1
theorem swoT : SWO (ltOf cmpT) where
  irrefl x := by unfold ltOf cmpT; rw [cmpB_self]; rfl
  trans x y z h1 h2 := by
    unfold ltOf cmpT at *
    simp only [decide_eq_true_eq] at *
    have h3 := cmpB_trans (a := x.1) (b := y.1) (c := z.1) (by omega) (by omega)
    by_cases h : cmpB x.1 z.1 = 0
    · have := cmpB_zero h
      have hn := cmpB_neg y.1 z.1
      rw [← this] at hn h2
      omega
    · omega
  ntrans x y z h1 h2 := by
    unfold ltOf cmpT at *
    simp only [decide_eq_false_iff_not] at *
    have a1 := cmpB_neg x.1 y.1
    have a2 := cmpB_neg y.1 z.1
    have a3 := cmpB_neg x.1 z.1
    have h3 := cmpB_trans (a := z.1) (b := y.1) (c := x.1) (by omega) (by omega)
    omega
theorem totT (x y : Txt) (h1 : ltOf cmpT x y = false) (h2 : ltOf cmpT y x = false) : x = y := by
  unfold ltOf cmpT at *
  simp only [decide_eq_false_iff_not] at *
  have a1 := cmpB_neg x.1 y.1
  exact Subtype.ext (cmpB_zero (by omega))
theorem grow_of_mod {w w' : World} (h : Mod (fun _ => False) w w') (hd : w.drawn ≤ w'.drawn) : ∃ q os, w' = grow (w.drewN q) os := by
  refine ⟨w'.drawn - w.drawn, w'.heap.extract w.heap.size w'.heap.size, ?_⟩
  obtain ⟨heap', tape', drawn', os', output'⟩ := w'
  have e1 : os' = w.os := h.os
  have e2 : tape' = w.tape := h.tape
  have e3 : output' = w.output := h.output
  have hs : w.heap.size ≤ heap'.size := h.size
  have hb : ∀ k, k < w.heap.size → heap'[k]? = w.heap[k]? := fun k hk => h.block k hk id
  have hd' : w.drawn + (drawn' - w.drawn) = drawn' := by have : w.drawn ≤ drawn' := hd; omega
  subst e1 e2 e3
  have eh : heap' = w.heap ++ heap'.extract w.heap.size heap'.size := by
    apply Array.ext_getElem?
    intro k
    by_cases hk : k < w.heap.size
    · rw [Array.getElem?_append_left hk]; exact hb k hk
    · rw [Array.getElem?_append_right (by omega), Array.getElem?_extract]
      by_cases hk2 : k < heap'.size
      · rw [if_pos (by omega)]; congr 1; omega
      · rw [if_neg (by omega), Array.getElem?_eq_none (by omega)]
  show _ = World.mk _ _ _ _ _
  congr 1
  · exact hd'.symm
theorem putRow_map {α β : Type} [Inhabited α] [Inhabited β] (e : β → Value) (f : α → β) (w : World) (blk off : Nat) (d : Array α) : putRow (fun x => e (f x)) w blk off d = putRow e w blk off (d.map f) := by
  unfold putRow
  congr 1
  funext c
  unfold putCells
  rw [Array.size_map]
  congr 1
  funext k x
  split
  · rename_i h
    have hk : k - off < d.size := by omega
    congr 1
    rw [getElem!_pos d _ hk, getElem!_pos (d.map f) _ (by simpa using hk)]
    simp
  · rfl
theorem mod_sorted {α : Type} [Inhabited α] (enc : α → Value) (w : World) (g m : Nat) (d : Array α) (os : Array Obj) : Mod (fun k => k = g) w (grow (putRow enc (Sort.ahead w m) g 0 d) os) := by
  refine ⟨rfl, rfl, rfl, by simp [grow, putRow, mapBlock, Sort.ahead], fun k hk hne => ?_⟩
  rw [heap_grow_old _ _ (by simpa [putRow, mapBlock, Sort.ahead] using hk)]
  simp [putRow, mapBlock, Sort.ahead, Array.getElem?_modify, Ne.symm hne]
theorem putCells_head (ts : List (List UInt8)) (xs tail : List Value) (h : xs.length = ts.length) : putCells encStr 0 ts.toArray (xs ++ tail).toArray = (scells ts ++ tail).toArray := by
  apply Array.ext_getElem?
  intro j
  simp only [putCells, Array.getElem?_mapIdx, List.getElem?_toArray, List.size_toArray, Nat.zero_add, Nat.sub_zero, Nat.zero_le, true_and]
  by_cases hj : j < ts.length
  · rw [List.getElem?_append_left (by omega), List.getElem?_append_left (by rw [scells_len]; omega), List.getElem?_eq_getElem (by omega)]
    simp [hj, scells, encS_str]
  · rw [List.getElem?_append_right (by omega), List.getElem?_append_right (by rw [scells_len]; omega), scells_len, h]
    cases tail[j - ts.length]? <;> simp [hj]
def leB (x y : List UInt8) : Bool := decide (cmpB x y ≤ 0)
/-- slices.SortFunc(out, Compare), out a row of the call's own. -/
theorem sortFunc_own {w w0 : World} (E : Env w0) {g cap : Nat} {l : List (List UInt8)} {tail : List Value} (hm : Mod (fun _ => False) w0 w) (hg0 : w0.heap.size ≤ g) (hg : w.heap[g]? = some (.cells (scells l ++ tail).toArray 9 (0, 0))) (hne : l ≠ []) (hl : l.length ≤ 8796093022208) (hx : ∀ x ∈ l, x.length ≤ 140737488355328) :
    Calls Tryd.prog 34 #[.slice (some ⟨g, 0, none⟩) l.length cap, .func (.func 14) #[] #[]] w fun r w' => r = .returned (.tuple #[]) ∧
      w'.heap[g]? = some (.cells (scells (l.mergeSort leB) ++ tail).toArray 9 (0, 0)) ∧ Mod (fun k => k = g) w w' := by
  obtain ⟨d, hd⟩ : ∃ d : List Txt, d.map (·.1) = l := ⟨l.pmap (fun x h => ⟨x, h⟩) hx, by simp [List.map_pmap]⟩
  have hdl : d.length = l.length := by rw [← hd]; simp
  have hH : Holds encT w g 0 d.toArray := by
    intro j hj
    have hj' : j < d.length := by simpa using hj
    refine ⟨?_, Lib.frozen_of_heap hg _⟩
    rw [Lib.cell_of_heap hg, List.getElem?_toArray, Nat.zero_add, List.getElem?_append_left (by rw [scells_len]; omega)]
    rw [getElem!_pos d.toArray j hj]
    simp only [scells, ← hd, List.map_map]
    rw [List.getElem?_map, List.getElem?_eq_getElem hj']
    rfl
  have hglt := (Array.getElem?_eq_some_iff.1 hg).1
  have hcmp : CmpLays1 Tryd.prog 14 #[] encT cmpT g 0 d.toArray.size w := by
    intro m os dk hs x y
    have hW : Mod (fun _ => False) w0 (sortWorld encT w g 0 m dk os) := hm.trans (mod_sorted encT w g m dk os) (fun k hk => .inr (by omega))
    refine (calls_drawn (compare_any x.1 y.1 x.2 y.2 _ (E.mod0 hW))).mono ?_
    rintro e w' ⟨⟨rfl, hm'⟩, hdr⟩
    exact ⟨rfl, grow_of_mod hm' (hdr (by simp))⟩
  have := Tryd.slices_SortFunc_string encT (fun _ => rfl) cmpT swoT 14 #[] g 0 cap d.toArray w (enters_of Tryd.func14 (by kernel_rfl) rfl) hcmp hH hglt (by simp; omega) totT
  rw [List.size_toArray, hdl] at this
  refine this.mono ?_
  rintro e w' ⟨rfl, n, os, rfl⟩
  refine ⟨rfl, ?_, mod_sorted encT w g n _ os⟩
  have hmap : ((d.toArray.toList.mergeSort fun x y => !(ltOf cmpT) y x).toArray.map (·.1)) = (l.mergeSort leB).toArray := by
    rw [List.map_toArray]
    congr 1
    rw [← hd]
    refine List.map_mergeSort (fun a ha b hb => ?_)
    unfold ltOf cmpT leB
    have := cmpB_neg a.1 b.1
    by_cases h : cmpB a.1 b.1 ≤ 0
    · simp [h]; omega
    · simp [h]; omega
  unfold sortWorld
  rw [show encT = fun x : Txt => encStr x.1 from rfl, putRow_map encStr (fun x : Txt => x.1), hmap]
  have hls : (l.mergeSort leB).length = l.length := List.length_mergeSort _
  have hh := heap_sorted (n := n) (os := os) (l.mergeSort leB).toArray hg
  rw [hh]
  rw [putCells_head (l.mergeSort leB) (scells l) tail (by rw [scells_len, hls])]
end Go.Proofs.YtgdadhpcooegnaaDoor
