/- Part of this claim's proof (texts Cats12, Cats8, Cats15, Comp, Cats16, EntS, Lab0, Lab1, Tape0, Tape1, joined by program). -/
import Derived.Test.YtefedalnafjcfaaGreatDoorA05
import Derived.Test.YtefedalnafjcfaaGreatDoorA03
import Derived.Test.YtefedalnafjcfaaGreatDoorA04
import Derived.Lib.SlicesCompact
import Derived.Test.YtefedalnafjcfaaGreatDoorA01
import Derived.Test.YtefedalnafjcfaaGreatDoorA00
import Derived.Lib.AppendStr
namespace Go.Proofs.YtefedalnafjcfaaGreatDoor
open Go.RowKit Go.Shelf Go.Lib Go.Sort
set_option linter.unusedVariables false
def sortS (l : List (List UInt8)) : List (List UInt8) := Lib.compact ((l.filter rightB).mergeSort leB)
set_option maxRecDepth 100000 in
theorem indexFunc_empty (A : Option Addr) (c : Nat) (fv : Value) (w : World) :
    Calls Tryz.prog 153 #[.slice A 0 c, fv] w fun r w' => r = .returned (.int .i64 (-1)) ∧ Mod (fun _ => False) w w' := by
  go_enter Tryz.func153, Tryz.ntmps153
  go_wp2_with fail
  refine wp_loop_rounds 1 ?_
  rw [rounds_succ]
  go_wp2_with fail
  go_ret
  exact ⟨rfl, .refl _ _⟩
set_option maxRecDepth 100000 in
theorem deleteFunc_empty (A : Option Addr) (c : Nat) (fv : Value) (w : World) :
    Calls Tryz.prog 134 #[.slice A 0 c, fv] w fun r w' => r = .returned (.slice A 0 c) ∧ Mod (fun _ => False) w w' := by
  go_enter Tryz.func134, Tryz.ntmps134
  go_wp2_with fail
  refine (indexFunc_empty A c fv w).mono ?_
  rintro r w1 ⟨rfl, hm⟩
  have HM := Lib.hid hm; clear hm
  go_wp2_with fail
  go_ret
  exact ⟨rfl, HM.out⟩
theorem scells_strs (ls : List ByteArray) : scells (ls.map fun s => s.data.toList) = ls.map Value.string := by
  simp only [scells, List.map_map]
  congr 1
/-- slices.Clone of strings that are read. -/
theorem clone_rd (A : Option Addr) (n c : Nat) (ls : List ByteArray) (ok : Nat → Prop) (w : World) (h : strsR.rel w ok [.slice A n c] ls) (hl : ls.length ≤ 8796093022208) :
    Calls Tryz.prog 69 #[.slice A n c] w fun r w' => ∃ v, r = .returned v ∧ w'.ownsRow w.heap.size 9 1 v ls.length (scells (ls.map fun s => s.data.toList)) ∧ Mod (fun _ => False) w w' := by
  obtain ⟨rfl, hcap, hmx, hbig, hnil, hrow⟩ := strs_row h
  rw [scells_strs]
  cases A with
  | none =>
    have hc0 := hnil rfl
    subst hc0
    have hl0 : ls = [] := List.eq_nil_of_length_eq_zero (by omega)
    subst hl0
    refine (Tryz.slices_Clone_string_nil 0 0 w).mono ?_
    rintro r w' ⟨rfl, rfl⟩
    exact ⟨_, rfl, World.ownsRow_nil _ _ _ _, .refl _ _⟩
  | some a =>
    by_cases hn : ls = []
    · subst hn
      refine (Tryz.slices_Clone_string_zero a c w).mono ?_
      rintro r w' ⟨v, rfl, ho, -, hb⟩
      exact ⟨v, rfl, ho, .of_below hb⟩
    · have hat : ∀ j x, ls[j]? = some x → w.cell? (a.add j) = some (.string x) := fun j x hj => by
        obtain ⟨ad, hA, -, hc, -⟩ := RowOf.strs hrow hj
        cases hA; exact hc
      obtain ⟨blk, off, sp⟩ := a
      have hsp : sp = none := by
        obtain ⟨x, t, rfl⟩ := List.exists_cons_of_ne_nil hn
        have h0 := hat 0 x rfl
        cases sp with
        | none => rfl
        | some k =>
          simp only [Addr.add, if_pos, World.cell?] at h0
          split at h0
          · simp at h0
          · cases h0
      subst hsp
      refine (Tryz.slices_Clone_string blk off ls.length c ls w (Nat.le_refl _) hbig (fun j hj => ?_)).mono ?_
      · have := hat j ls[j] (by simp [hj])
        rw [List.getD_eq_getElem?_getD, List.getElem?_eq_getElem hj]
        have e : (⟨blk, off, none⟩ : Addr).add j = ⟨blk, off + j, none⟩ := by unfold Addr.add; split <;> simp_all
        rw [e] at this
        exact this
      · rintro r w' ⟨v, rfl, ho, -, hb⟩
        rw [List.take_of_length_le (Nat.le_refl _)] at ho
        exact ⟨v, rfl, ho, .of_below hb⟩
/-- slices.Compact of a row of the call's own. -/
theorem compactS_own {w : World} {base : Nat} {v : Value} {zs : List (List UInt8)} (h : w.ownsRow base 9 1 v zs.length (scells zs)) (hl : zs.length ≤ 8796093022208) :
    Calls Tryz.prog 137 #[v] w fun e w' => ∃ A c, e = .returned (.slice A (Lib.compact zs).length c) ∧ w'.ownsRow base 9 1 (.slice A (Lib.compact zs).length c) (Lib.compact zs).length (scells (Lib.compact zs)) ∧ Mod (fun k => v.ownBlock = some k) w w' := by
  have hcl : (Lib.compact zs).length ≤ zs.length := by
    unfold Lib.compact Lib.compactUpTo
    rw [List.length_map]
    exact Nat.le_trans (List.length_filter_le _ _) (by simp)
  rcases h.2 with ⟨rfl, hz⟩ | ⟨g, cap, cur, rfl, hb, hg, hn, hm, hs, ht⟩
  · have hz0 : zs = [] := List.eq_nil_of_length_eq_zero hz
    subst hz0
    refine (Tryz.slices_Compact_string_empty none 0 w).mono ?_
    rintro e w' ⟨rfl, rfl⟩
    exact ⟨none, 0, rfl, h, .refl _ _⟩
  · have hH := holds_of_block (ss := zs) hg (by rw [Nat.mul_one] at ht; exact ht)
    refine (Tryz.slices_Compact_string g 0 cap zs w hH (by omega) hn).mono ?_
    rintro e w' ⟨rfl, q, rfl⟩
    have ho := Lib.ownsRow_putRow (enc := encStr) (q := q) (ys := Lib.compact zs ++ List.replicate (zs.length - (Lib.compact zs).length) []) (k := (Lib.compact zs).length) h (by simp; omega) hcl
    rw [List.take_left] at ho
    refine ⟨_, cap, rfl, ho, ?_⟩
    have := mod_sorted encStr w g q (Lib.compact zs ++ List.replicate (zs.length - (Lib.compact zs).length) []).toArray #[]
    rw [Sort.grow_empty] at this
    exact this.mono (fun k hk => by rw [hk]; rfl)
set_option maxRecDepth 100000 in
set_option maxHeartbeats 1000000 in
theorem sort_any (A : Option Addr) (n c : Nat) (ls : List ByteArray) (ok : Nat → Prop) (w : World) (h : strsR.rel w ok [.slice A n c] ls) (hl : ls.length ≤ 8796093022208) (hx : ∀ s ∈ ls, s.size ≤ 140737488355328) (E : Env w) :
    Calls Tryz.prog 106 #[.slice A n c] w fun r w' => ∃ A' c', r = .returned (.slice A' (sortS (ls.map fun s => s.data.toList)).length c') ∧ w'.ownsRow w.heap.size 9 1 (.slice A' (sortS (ls.map fun s => s.data.toList)).length c') (sortS (ls.map fun s => s.data.toList)).length (scells (sortS (ls.map fun s => s.data.toList))) ∧ Mod (fun _ => False) w w' := by
  have hclone := clone_rd A n c ls ok w h hl
  obtain ⟨l, hle⟩ : ∃ l, l = ls.map fun s => s.data.toList := ⟨_, rfl⟩
  have hll : l.length = ls.length := by rw [hle]; simp
  have hxl : ∀ x ∈ l, x.length ≤ 140737488355328 := by
    intro x hxm
    rw [hle] at hxm
    obtain ⟨s, hs, rfl⟩ := List.mem_map.1 hxm
    exact hx s hs
  rw [← hle, ← hll] at hclone
  rw [← hle]
  have hl2 : l.length ≤ 8796093022208 := by omega
  have E0 := Lib.hid E; clear E h hx hle hl hll
  obtain ⟨z, hz⟩ : ∃ z, z = sortS l := ⟨_, rfl⟩
  rw [← hz]
  unfold sortS at hz
  have HZ := Lib.hid hz; clear hz
  go_enter Tryz.func106, Tryz.ntmps106
  go_wp2_with fail
  refine hclone.mono ?_
  rintro r w1 ⟨v, rfl, ho, hm⟩
  by_cases hne : l = []
  · subst hne
    obtain ⟨A1, c1, rfl⟩ := own_slice ho
    have hz0 : z = [] := by rw [HZ.out]; simp [Lib.compact, Lib.compactUpTo]
    subst hz0
    have HM := Lib.hid (And.intro hm ho); clear hm ho
    go_wp2_with fail
    refine (deleteFunc_empty A1 c1 _ w1).mono ?_
    rintro r w2 ⟨rfl, hm2⟩
    have HM2 := Lib.hid (And.intro (tr0 HM.out.1 hm2) (own_move HM.out.2 (fun k hk => hm2.block k (own_lt HM.out.2 k hk).2 id))); clear hm2 HM
    go_wp2_with fail
    refine (Tryz.slices_SortFunc_string_none A1 c1 _ w2).mono ?_
    rintro r w3 ⟨rfl, rfl⟩
    go_wp2_with fail
    refine (compactS_own (zs := []) HM2.out.2 (by simp)).mono ?_
    rintro r w4 ⟨A2, c2, rfl, ho2, hm4⟩
    have HM4 := Lib.hid (And.intro (HM2.out.1.trans hm4 (fun k hk => .inr (own_lt HM2.out.2 k hk).1)) ho2); clear hm4 ho2
    go_wp2_with fail
    go_ret
    exact ⟨A2, c2, rfl, HM4.out.2, HM4.out.1⟩
  · obtain ⟨g, cap, cur, rfl, hgb, hg, hn, hmx, hs, ht⟩ : ∃ g cap cur, v = .slice (some ⟨g, 0, none⟩) l.length cap ∧ w.heap.size ≤ g ∧ w1.heap[g]? = some (.cells cur 9 (0, 0)) ∧ l.length ≤ cap ∧ cap ≤ maxLen ∧ cur.size = cap * 1 ∧ cur.toList.take (l.length * 1) = scells l := by
      rcases ho.2 with ⟨-, hz⟩ | ⟨g, cap, cur, hv, r⟩
      · exact absurd (List.eq_nil_of_length_eq_zero hz) hne
      · exact ⟨g, cap, cur, hv, r⟩
    obtain ⟨tail, htl⟩ : ∃ tail, cur = (scells l ++ tail).toArray := ⟨cur.toList.drop l.length, by
      rw [Nat.mul_one] at ht
      rw [← ht, List.take_append_drop]⟩
    subst htl
    have HD := Lib.hid (deleteFunc_any g cap l tail w1 hg hn hl2 hxl (fun w' hw => E0.out.mod0 (hm.trans hw (fun k hk => .inr (by omega)))))
    have HM := Lib.hid (And.intro hm (And.intro hgb (And.intro hn (And.intro hmx hs)))); clear hm hgb hg ht ho hs hn hmx
    go_wp2_with fail
    refine HD.out.mono ?_
    rintro r w2 ⟨tail2, rfl, hg2, hlen2, hm2⟩
    obtain ⟨f, hf⟩ : ∃ f, f = l.filter rightB := ⟨_, rfl⟩
    have hfl : f.length ≤ 8796093022208 := by rw [hf]; exact Nat.le_trans (List.length_filter_le _ _) hl2
    have hfl2 : f.length ≤ l.length := by rw [hf]; exact List.length_filter_le _ _
    have hfx : ∀ x ∈ f, x.length ≤ 140737488355328 := by rw [hf]; exact fun x hx => hxl x (List.mem_filter.1 hx).1
    rw [← hf] at hg2 hlen2 HZ ⊢
    have hsz2 : (scells f ++ tail2).toArray.size = cap * 1 := by have := HM.out.2.2.2.2; simp only [List.size_toArray] at this ⊢; omega
    have hcapf : f.length ≤ cap := by have := HM.out.2.2.1; omega
    have hm02 : Mod (fun _ => False) w w2 := HM.out.1.trans hm2 (fun k hk => .inr (by have := HM.out.2.1; omega))
    have HF := Lib.hid (And.intro hm02 (And.intro hg2 (And.intro hsz2 hcapf))); clear hm02 hg2 hlen2 hsz2 hcapf hm2 hf
    by_cases hfe : f = []
    · subst hfe
      have hz0 : z = [] := by rw [HZ.out]; simp [Lib.compact, Lib.compactUpTo]
      subst hz0
      have ho2 : w2.ownsRow w.heap.size 9 1 (.slice (some ⟨g, 0, none⟩) 0 cap) 0 (scells []) := ⟨rfl, .inr ⟨g, cap, _, rfl, HM.out.2.1, HF.out.2.1, by omega, HM.out.2.2.2.1, HF.out.2.2.1, by simp [scells]⟩⟩
      have HO := Lib.hid ho2; clear ho2
      dsimp only [List.length_nil]
      go_wp2_with fail
      refine (Tryz.slices_SortFunc_string_none (some ⟨g, 0, none⟩) cap _ w2).mono ?_
      rintro r w3 ⟨rfl, rfl⟩
      go_wp2_with fail
      refine (compactS_own (zs := []) HO.out (by simp)).mono ?_
      rintro r w4 ⟨A2, c2, rfl, ho2, hm4⟩
      have HM4 := Lib.hid (And.intro (HF.out.1.trans hm4 (fun k hk => .inr (own_lt HO.out k hk).1)) ho2); clear hm4 ho2
      go_wp2_with fail
      go_ret
      exact ⟨A2, c2, rfl, HM4.out.2, HM4.out.1⟩
    · have HS := Lib.hid (sortFunc_own (cap := cap) E0.out HF.out.1 HM.out.2.1 HF.out.2.1 hfe hfl hfx)
      go_wp2_with fail
      refine HS.out.mono ?_
      rintro r w3 ⟨rfl, hg3, hm3⟩
      have hsl : (f.mergeSort leB).length = f.length := List.length_mergeSort _
      have ho3 : w3.ownsRow w.heap.size 9 1 (.slice (some ⟨g, 0, none⟩) (f.mergeSort leB).length cap) (f.mergeSort leB).length (scells (f.mergeSort leB)) :=
        ⟨by rw [scells_len, Nat.mul_one], .inr ⟨g, cap, _, rfl, HM.out.2.1, hg3, by rw [hsl]; exact HF.out.2.2.2, HM.out.2.2.2.1, by
          have h1 := HF.out.2.2.1
          simp only [List.size_toArray, List.length_append, scells_len, hsl] at h1 ⊢
          exact h1, by simp [scells]⟩⟩
      have HO := Lib.hid (And.intro ho3 (HF.out.1.trans hm3 (fun k hk => .inr (by have := HM.out.2.1; omega)))); clear ho3 hm3 hg3
      go_wp2_with fail
      have HC := compactS_own (zs := f.mergeSort leB) HO.out.1 (by omega)
      rw [hsl] at HC
      refine HC.mono ?_
      rintro r w4 ⟨A2, c2, rfl, ho2, hm4⟩
      have HM4 := Lib.hid (And.intro (HO.out.2.trans hm4 (fun k hk => .inr (by have := HM.out.2.1; simp only [Value.ownBlock, Option.some.injEq] at hk; omega))) ho2); clear hm4 ho2
      go_wp2_with fail
      go_ret
      rw [HZ.out]
      exact ⟨A2, c2, rfl, HM4.out.2, HM4.out.1⟩
end Go.Proofs.YtefedalnafjcfaaGreatDoor

namespace Go.Proofs.YtefedalnafjcfaaGreatDoor
open Go.RowKit Go.Shelf
set_option linter.unusedVariables false
theorem dec_step (m : Nat) (h : 10 ≤ m) : Lib.decDigits m = Lib.decDigits (m / 10) ++ [48 + UInt8.ofNat (m % 10)] := by rw [Lib.decDigits, dif_neg (by omega)]; simp
end Go.Proofs.YtefedalnafjcfaaGreatDoor

namespace Go.Proofs.YtefedalnafjcfaaGreatDoor
open Go.RowKit Go.Shelf
set_option linter.unusedVariables false
/-- s is put in. -/
def insS (s : List UInt8) : Bool → List (List UInt8) → List (List UInt8)
  | dn, [] => if dn then [] else [s]
  | dn, t :: ts => if cmpB s t < 0 ∧ dn = false then s :: t :: insS s true ts else t :: insS s (dn || cmpB s t == 0) ts
def sortR (l : List (List UInt8)) : List (List UInt8) := l.foldl (fun out s => if rightB s then insS s false out else out) []
theorem insS_len (s : List UInt8) : ∀ (l : List (List UInt8)) (dn : Bool), (insS s dn l).length ≤ l.length + (if dn then 0 else 1)
  | [], dn => by cases dn <;> simp [insS]
  | t :: ts, dn => by
    have h1 := insS_len s ts true
    have h2 := insS_len s ts (dn || cmpB s t == 0)
    unfold insS
    split
    · rename_i h; rw [h.2]; simp at h1 ⊢; omega
    · cases dn <;> simp at h1 h2 ⊢
      · split at h2 <;> omega
      · omega
theorem sortR_snoc (l : List (List UInt8)) (s : List UInt8) : sortR (l ++ [s]) = if rightB s then insS s false (sortR l) else sortR l := by simp [sortR, List.foldl_append]
theorem insS_nil (s : List UInt8) (dn : Bool) : insS s dn [] = if dn = true then [] else [s] := by unfold insS; rfl
theorem insS_cons (s t : List UInt8) (ts : List (List UInt8)) (dn : Bool) : insS s dn (t :: ts) = if cmpB s t < 0 ∧ dn = false then s :: t :: insS s true ts else t :: insS s (dn || cmpB s t == 0) ts := by rw [insS]
theorem snoc_ind {α : Type} {P : List α → Prop} (h0 : P []) (h1 : ∀ l a, P l → P (l ++ [a])) (l : List α) : P l := by
  have : ∀ l : List α, P l.reverse := fun l => by
    induction l with
    | nil => exact h0
    | cons a l ih => rw [List.reverse_cons]; exact h1 _ _ ih
  have h := this l.reverse
  rwa [List.reverse_reverse] at h
theorem sortR_len : ∀ (l : List (List UInt8)), (sortR l).length ≤ l.length := by
  intro l
  induction l using snoc_ind with
  | h0 => simp [sortR]
  | h1 l s ih =>
    rw [sortR_snoc]
    split
    · have := insS_len s (sortR l) false
      simp at this ⊢; omega
    · simp; omega
theorem own_base_le {w : World} {base b2 : Nat} {e : TypeId} {size n : Nat} {v : Value} {xs : List Value} (h : w.ownsRow base e size v n xs) (hb : b2 ≤ base) : w.ownsRow b2 e size v n xs := by
  obtain ⟨h1, h2⟩ := h
  refine ⟨h1, ?_⟩
  rcases h2 with h2 | ⟨g, cap, cur, rfl, hg, r⟩
  · exact .inl h2
  · exact .inr ⟨g, cap, cur, rfl, by omega, r⟩
theorem own_at1 {w : World} {base : Nat} {e : TypeId} {v : Value} {n : Nat} {xs : List Value} (h : w.ownsRow base e 1 v n xs) {j : Nat} {x : Value} (hj : xs[j]? = some x) : ∃ g c, v = .slice (some ⟨g, 0, none⟩) n c ∧ w.cell? ⟨g, j, none⟩ = some x := by
  obtain ⟨h1, h2⟩ := h
  have hlt := (List.getElem?_eq_some_iff.1 hj).1
  rcases h2 with ⟨_, h2⟩ | ⟨g, cap, cur, rfl, hg, hb, hn, hm, hs, ht⟩
  · omega
  · refine ⟨g, cap, rfl, ?_⟩
    rw [Lib.cell_of_heap hb, ← Array.getElem?_toList]
    rw [← ht, List.getElem?_take] at hj
    split at hj
    · exact hj
    · cases hj
/-- The inner loop: nx is laid, rest is to come. -/
structure InS (w : World) (B : Nat) (T out : List (List UInt8)) (vo : Value) (rest nx : List (List UInt8)) (v : Value) (W : World) : Prop where
  eq : nx ++ rest = T
  own : W.ownsRow B 9 1 v nx.length (scells nx)
  old : W.ownsRow w.heap.size 9 1 vo out.length (scells out)
  lt : ∀ k, vo.ownBlock = some k → k < B
  mod : Mod (fun _ => False) w W
  base : B ≤ W.heap.size
  ge : w.heap.size ≤ B
section
variable {w W W1 : World} {B : Nat} {T out rest nx : List (List UInt8)} {vo v v1 : Value}
theorem InS.step {y : List UInt8} (h : InS w B T out vo (y :: rest) nx v W) (hown : W1.ownsRow B 9 1 v1 (nx.length + 1) (scells nx ++ [encS y])) (hg : W.grownBy W1 v.ownBlock) : InS w B T out vo rest (nx ++ [y]) v1 W1 where
  eq := by rw [← h.eq]; simp
  own := by rw [scells_app]; rw [List.length_append]; exact hown
  old := own_move h.old (fun k hk => hg.block k (own_lt h.old k hk).2 (fun e => by have h1 := own_lt h.own k e.symm; have := h.lt k hk; omega))
  lt := h.lt
  mod := h.mod.grown hg (fun k hk => .inr (by have h1 := own_lt h.own k hk.symm; have := h.ge; omega))
  base := Nat.le_trans h.base hg.size
  ge := h.ge
theorem InS.mod0 (h : InS w B T out vo rest nx v W) (hm : Mod (fun _ => False) W W1) : InS w B T out vo rest nx v W1 where
  eq := h.eq
  own := own_move h.own (fun k hk => hm.block k (own_lt h.own k hk).2 id)
  old := own_move h.old (fun k hk => hm.block k (own_lt h.old k hk).2 id)
  lt := h.lt
  mod := tr0 h.mod hm
  base := Nat.le_trans h.base hm.size
  ge := h.ge
theorem InS.to (h : InS w B T out vo rest nx v W) {rest' : List (List UInt8)} (e : rest = rest') : InS w B T out vo rest' nx v W := e ▸ h
theorem InS.len (h : InS w B T out vo rest nx v W) (hT : T.length ≤ 1100001) : (nx.length + 1) * 16 ≤ 140737488355328 := by
  have := congrArg List.length h.eq
  rw [List.length_append] at this
  omega
end
end Go.Proofs.YtefedalnafjcfaaGreatDoor

namespace Go.Proofs.YtefedalnafjcfaaGreatDoor
open Go.RowKit
set_option linter.unusedVariables false
section
variable {α : Type}
theorem strict_unique {lt : α → α → Prop} (hirr : ∀ x, ¬ lt x x) (htr : ∀ x y z, lt x y → lt y z → lt x z) : ∀ {a b : List α}, a.Pairwise lt → b.Pairwise lt → (∀ x, x ∈ a ↔ x ∈ b) → a = b
  | [], b, _, _, h => by
    cases b with
    | nil => rfl
    | cons y b => exact absurd ((h y).2 (by simp)) (by simp)
  | x :: a, [], _, _, h => absurd ((h x).1 (by simp)) (by simp)
  | x :: a, y :: b, ha, hb, h => by
    rw [List.pairwise_cons] at ha hb
    have hxy : x = y := by
      rcases List.mem_cons.1 ((h x).1 (by simp)) with h1 | h1
      · exact h1
      · rcases List.mem_cons.1 ((h y).2 (by simp)) with h2 | h2
        · exact h2.symm
        · exact absurd (htr _ _ _ (ha.1 y h2) (hb.1 x h1)) (hirr _)
    subst hxy
    congr 1
    refine strict_unique hirr htr ha.2 hb.2 fun z => ?_
    have hz := h z
    simp only [List.mem_cons] at hz
    constructor
    · intro hm
      rcases hz.1 (.inr hm) with rfl | h1
      · exact absurd (ha.1 _ hm) (hirr _)
      · exact h1
    · intro hm
      rcases hz.2 (.inr hm) with rfl | h1
      · exact absurd (hb.1 _ hm) (hirr _)
      · exact h1
variable [Inhabited α] [DecidableEq α]
theorem compactUpTo_gen {le : α → α → Prop} (htr : ∀ x y z, le x y → le y z → le x z) (hanti : ∀ x y, le x y → le y x → x = y) (d : Array α) (hs : ∀ i j, i ≤ j → j < d.size → le d[i]! d[j]!) :
    ∀ m, m ≤ d.size → (Lib.compactUpTo d m).Pairwise (fun x y => le x y ∧ x ≠ y) ∧ (∀ x, x ∈ Lib.compactUpTo d m ↔ ∃ j, j < m ∧ d[j]! = x)
  | 0, _ => ⟨by simp [Lib.compactUpTo], fun x => by simp [Lib.compactUpTo]⟩
  | m + 1, hm => by
    obtain ⟨h1, h2⟩ := compactUpTo_gen htr hanti d hs m (by omega)
    rw [Lib.compactUpTo_succ]
    cases hk : Lib.keeps d m with
    | false =>
      simp only [Bool.false_eq_true, if_false, List.append_nil]
      refine ⟨h1, fun x => ?_⟩
      rw [h2]
      refine ⟨fun ⟨j, hj, he⟩ => ⟨j, by omega, he⟩, fun ⟨j, hj, he⟩ => ?_⟩
      by_cases hjm : j = m
      · subst hjm
        have : 0 < j ∧ d[j]! = d[j - 1]! := by
          unfold Lib.keeps at hk
          simp at hk
          exact ⟨by omega, by simp_all⟩
        exact ⟨j - 1, by omega, by rw [← this.2]; exact he⟩
      · exact ⟨j, by omega, he⟩
    | true =>
      simp only [if_true]
      refine ⟨?_, fun x => ?_⟩
      · rw [List.pairwise_append]
        refine ⟨h1, List.pairwise_singleton _ _, fun x hx y hy => ?_⟩
        rw [List.mem_singleton.1 hy]
        obtain ⟨j, hj, rfl⟩ := (h2 x).1 hx
        have h5 : d[m]! ≠ d[m - 1]! := by
          unfold Lib.keeps at hk
          simp at hk
          rcases hk with hk | hk
          · omega
          · simp_all
        have h6 := hs j (m - 1) (by omega) (by omega)
        have h7 := hs (m - 1) m (by omega) (by omega)
        refine ⟨htr _ _ _ h6 h7, fun e => h5 (hanti _ _ ?_ h7)⟩
        rw [← e]; exact h6
      · rw [List.mem_append, h2, List.mem_singleton]
        constructor
        · rintro (⟨j, hj, he⟩ | rfl)
          · exact ⟨j, by omega, he⟩
          · exact ⟨m, by omega, rfl⟩
        · rintro ⟨j, hj, he⟩
          by_cases hjm : j = m
          · subst hjm; exact .inr he.symm
          · exact .inl ⟨j, by omega, he⟩
theorem compact_gen {le : α → α → Prop} (hrefl : ∀ x, le x x) (htr : ∀ x y z, le x y → le y z → le x z) (hanti : ∀ x y, le x y → le y x → x = y) {s : List α} (hs : s.Pairwise le) :
    (Lib.compact s).Pairwise (fun x y => le x y ∧ x ≠ y) ∧ ∀ x, x ∈ Lib.compact s ↔ x ∈ s := by
  have hsort : ∀ a b, a ≤ b → b < s.toArray.size → le s.toArray[a]! s.toArray[b]! := by
    intro a b hab hb
    have hb' : b < s.length := by simpa using hb
    rw [getElem!_pos s.toArray a (by simp; omega), getElem!_pos s.toArray b hb]
    by_cases h : a = b
    · subst h; exact hrefl _
    · simpa using List.pairwise_iff_getElem.1 hs a b (by omega) hb' (by omega)
  obtain ⟨h1, h2⟩ := compactUpTo_gen htr hanti s.toArray hsort s.length (by simp)
  refine ⟨h1, fun x => ?_⟩
  unfold Lib.compact
  rw [h2]
  constructor
  · rintro ⟨j, hj, rfl⟩
    rw [getElem!_pos s.toArray j (by simpa using hj)]
    simp
  · intro hx
    obtain ⟨j, hj, he⟩ := List.getElem_of_mem hx
    exact ⟨j, hj, by rw [getElem!_pos s.toArray j (by simpa using hj)]; simpa using he⟩
end
end Go.Proofs.YtefedalnafjcfaaGreatDoor

namespace Go.Proofs.YtefedalnafjcfaaGreatDoor
open Go.RowKit Go.Shelf
set_option linter.unusedVariables false
def ltB (a b : List UInt8) : Prop := cmpB a b < 0
theorem ltB_irr (x : List UInt8) : ¬ ltB x x := by unfold ltB; rw [cmpB_self]; omega
theorem ltB_iff {x y : List UInt8} : ltB x y ↔ cmpB x y ≤ 0 ∧ x ≠ y := by
  unfold ltB
  constructor
  · intro h; refine ⟨by omega, ?_⟩; rintro rfl; rw [cmpB_self] at h; omega
  · rintro ⟨h1, h2⟩
    have : cmpB x y ≠ 0 := fun h => h2 (cmpB_zero h)
    omega
theorem ltB_tr (x y z : List UInt8) (h1 : ltB x y) (h2 : ltB y z) : ltB x z := by
  rw [ltB_iff] at h1 h2 ⊢
  refine ⟨cmpB_trans h1.1 h2.1, ?_⟩
  rintro rfl
  have := cmpB_neg x y
  exact h1.2 (cmpB_zero (by omega))
theorem leB_anti (x y : List UInt8) (h1 : cmpB x y ≤ 0) (h2 : cmpB y x ≤ 0) : x = y := cmpB_zero (by have := cmpB_neg x y; omega)
theorem sortS_spec (l : List (List UInt8)) : (sortS l).Pairwise ltB ∧ ∀ x, x ∈ sortS l ↔ x ∈ l ∧ rightB x = true := by
  have hp : ((l.filter rightB).mergeSort leB).Pairwise (fun a b => cmpB a b ≤ 0) := by
    have := List.pairwise_mergeSort (le := leB) (fun a b c h1 h2 => by simp only [leB, decide_eq_true_eq] at *; exact cmpB_trans h1 h2) (fun a b => by simp only [leB, Bool.or_eq_true, decide_eq_true_eq]; have := cmpB_neg a b; omega) (l.filter rightB)
    exact this.imp (fun h => by simpa [leB] using h)
  obtain ⟨h1, h2⟩ := compact_gen (le := fun a b => cmpB a b ≤ 0) (fun x => by rw [cmpB_self]; omega) (fun _ _ _ => cmpB_trans) leB_anti hp
  refine ⟨h1.imp (fun h => ltB_iff.2 h), fun x => ?_⟩
  unfold sortS
  rw [h2, List.mem_mergeSort, List.mem_filter]
theorem insS_true (s : List UInt8) : ∀ l : List (List UInt8), insS s true l = l
  | [] => by rw [insS_nil]; rfl
  | t :: ts => by rw [insS_cons, if_neg (by simp), Bool.true_or, insS_true s ts]
theorem insS_spec (s : List UInt8) : ∀ l : List (List UInt8), l.Pairwise ltB → (insS s false l).Pairwise ltB ∧ ∀ x, x ∈ insS s false l ↔ x = s ∨ x ∈ l
  | [], _ => by rw [insS_nil]; simp
  | t :: ts, h => by
    rw [List.pairwise_cons] at h
    rw [insS_cons]
    by_cases hc : cmpB s t < 0
    · rw [if_pos ⟨hc, rfl⟩, insS_true]
      refine ⟨?_, fun x => by simp⟩
      rw [List.pairwise_cons, List.pairwise_cons]
      refine ⟨?_, h.1, h.2⟩
      intro y hy
      rcases List.mem_cons.1 hy with rfl | hy
      · exact hc
      · exact ltB_tr _ _ _ hc (h.1 y hy)
    · rw [if_neg (fun e => hc e.1), Bool.false_or]
      by_cases hz : cmpB s t = 0
      · have := cmpB_zero hz
        subst this
        rw [hz]
        simp only [BEq.rfl, insS_true]
        exact ⟨List.pairwise_cons.2 h, fun x => by simp⟩
      · rw [show (cmpB s t == 0) = false by simpa using hz]
        obtain ⟨h1, h2⟩ := insS_spec s ts h.2
        refine ⟨List.pairwise_cons.2 ⟨fun y hy => ?_, h1⟩, fun x => ?_⟩
        · rcases (h2 y).1 hy with rfl | hy
          · show cmpB t y < 0
            have := cmpB_neg y t
            omega
          · exact h.1 y hy
        · simp only [List.mem_cons, h2]
          constructor
          · rintro (h | h | h)
            · exact .inr (.inl h)
            · exact .inl h
            · exact .inr (.inr h)
          · rintro (h | h | h)
            · exact .inr (.inl h)
            · exact .inl h
            · exact .inr (.inr h)
theorem sortR_spec (l : List (List UInt8)) : (sortR l).Pairwise ltB ∧ ∀ x, x ∈ sortR l ↔ x ∈ l ∧ rightB x = true := by
  induction l using snoc_ind with
  | h0 => simp [sortR]
  | h1 l s ih =>
    rw [sortR_snoc]
    by_cases hr : rightB s = true
    · rw [if_pos hr]
      obtain ⟨h1, h2⟩ := insS_spec s _ ih.1
      refine ⟨h1, fun x => ?_⟩
      rw [h2, ih.2]
      simp only [List.mem_append, List.mem_singleton]
      constructor
      · rintro (rfl | h)
        · exact ⟨.inr rfl, hr⟩
        · exact ⟨.inl h.1, h.2⟩
      · rintro ⟨h | h, h2⟩
        · exact .inr ⟨h, h2⟩
        · exact .inl h
    · rw [if_neg hr]
      refine ⟨ih.1, fun x => ?_⟩
      rw [ih.2]
      simp only [List.mem_append, List.mem_singleton]
      constructor
      · rintro ⟨h, h2⟩; exact ⟨.inl h, h2⟩
      · rintro ⟨h | rfl, h2⟩
        · exact ⟨h, h2⟩
        · exact absurd h2 hr
/-- The document's answer and the code's are one. -/
theorem sortR_eq (l : List (List UInt8)) : sortR l = sortS l :=
  strict_unique ltB_irr ltB_tr (sortR_spec l).1 (sortS_spec l).1 (fun x => by rw [(sortR_spec l).2, (sortS_spec l).2])
end Go.Proofs.YtefedalnafjcfaaGreatDoor

namespace Go.Proofs.YtefedalnafjcfaaGreatDoor
structure Entry where
  cat : ByteArray
  level : Int
def nm (e : Entry) : List UInt8 := e.cat.data.toList
def ent (c : List UInt8) (n : Int) : Entry := ⟨mkStr c, n⟩
theorem nm_ent (c : List UInt8) (n : Int) : nm (ent c n) = c := mkStr_list c
theorem lev_ent (c : List UInt8) (n : Int) : (ent c n).level = n := rfl
theorem ent_nm (e : Entry) : ent (nm e) e.level = e := by
  unfold ent nm; rw [list_mkStr]
end Go.Proofs.YtefedalnafjcfaaGreatDoor

namespace Go.Proofs.YtefedalnafjcfaaGreatDoor
open Go.RowKit
set_option linter.unusedVariables false
/-- A right label. -/
structure RightL (l : List Entry) : Prop where
  len : l.length ≤ 8
  each : ∀ e ∈ l, rightB (nm e) = true ∧ 0 ≤ e.level ∧ e.level ≤ 3 ∧ e.level ≠ 1
  asc : (l.map nm).Pairwise ltB
noncomputable def rightLB (l : List Entry) : Bool := @decide (RightL l) (Classical.propDecidable _)
theorem rightLB_iff {l : List Entry} : rightLB l = true ↔ RightL l := by unfold rightLB; exact @decide_eq_true_iff _ (Classical.propDecidable _)
theorem rightLB_no {l : List Entry} (h : ¬ RightL l) : rightLB l = false := by rw [Bool.eq_false_iff]; exact fun e => h (rightLB_iff.1 e)
def levelL (l : List Entry) (c : List UInt8) : Int := match l.find? (fun e => nm e == c) with
  | some e => e.level
  | none => 1
theorem levelL_not {l : List Entry} {c : List UInt8} (h : c ∉ l.map nm) : levelL l c = 1 := by
  unfold levelL
  have : l.find? (fun e => nm e == c) = none := by
    rw [List.find?_eq_none]
    intro e he hc
    exact h (List.mem_map.2 ⟨e, he, by simpa using hc⟩)
  rw [this]
def ltE (a b : Entry) : Prop := ltB (nm a) (nm b)
theorem ltE_tr (x y z : Entry) (h1 : ltE x y) (h2 : ltE y z) : ltE x z := ltB_tr _ _ _ h1 h2
theorem asc_iff {l : List Entry} : (l.map nm).Pairwise ltB ↔ l.Pairwise ltE := by rw [List.pairwise_map]; exact Iff.rfl
end Go.Proofs.YtefedalnafjcfaaGreatDoor

namespace Go.Proofs.YtefedalnafjcfaaGreatDoor
open Go.RowKit
set_option linter.unusedVariables false
structure FlowsL (a b : List Entry) : Prop where
  ra : RightL a
  rb : RightL b
  le : ∀ c, levelL a c ≤ levelL b c
noncomputable def flowsLB (a b : List Entry) : Bool := @decide (FlowsL a b) (Classical.propDecidable _)
theorem flowsLB_iff {a b : List Entry} : flowsLB a b = true ↔ FlowsL a b := by unfold flowsLB; exact @decide_eq_true_iff _ (Classical.propDecidable _)
theorem flowsLB_no {a b : List Entry} (h : ¬ FlowsL a b) : flowsLB a b = false := by rw [Bool.eq_false_iff]; exact fun e => h (flowsLB_iff.1 e)
def namesL (a b : List Entry) : List (List UInt8) := sortS ((a ++ b).map nm)
theorem namesL_mem {a b : List Entry} (ha : RightL a) (hb : RightL b) (c : List UInt8) : c ∈ namesL a b ↔ c ∈ a.map nm ∨ c ∈ b.map nm := by
  unfold namesL
  rw [(sortS_spec _).2, List.map_append, List.mem_append]
  refine ⟨fun h => h.1, fun h => ⟨h, ?_⟩⟩
  rcases h with h | h
  · obtain ⟨e, he, rfl⟩ := List.mem_map.1 h; exact (ha.each e he).1
  · obtain ⟨e, he, rfl⟩ := List.mem_map.1 h; exact (hb.each e he).1
theorem flows_names {a b : List Entry} (ha : RightL a) (hb : RightL b) : FlowsL a b ↔ ∀ c ∈ namesL a b, levelL a c ≤ levelL b c := by
  constructor
  · exact fun h c _ => h.le c
  · intro h
    refine ⟨ha, hb, fun c => ?_⟩
    by_cases hc : c ∈ namesL a b
    · exact h c hc
    · rw [namesL_mem ha hb] at hc
      rw [levelL_not (fun h => hc (.inl h)), levelL_not (fun h => hc (.inr h))]
      omega
end Go.Proofs.YtefedalnafjcfaaGreatDoor

namespace Go.Proofs.YtefedalnafjcfaaGreatDoor
open Go.RowKit
def encF : Nat → Int → List UInt8
  | 0, _ => []
  | f + 1, n => if n < 128 then [u8 n] else u8 (n % 128 + 128) :: encF f (n / 128)
theorem encF_lt (f : Nat) (n : Int) (h : n < 128) : encF (f + 1) n = [u8 n] := by simp [encF, h]
theorem encF_ge (f : Nat) (n : Int) (h : ¬ n < 128) : encF (f + 1) n = u8 (n % 128 + 128) :: encF f (n / 128) := by simp [encF, h]
theorem encF_len (f : Nat) (n : Int) : (encF f n).length ≤ f := by
  induction f generalizing n with
  | zero => simp [encF]
  | succ f ih => simp only [encF]; split
                 · simp
                 · have := ih (n / 128); simp; omega
theorem Tryz.info_u8 : (Tryz.prog.info? 5).map (fun i => (i.zero, i.size, i.bytes)) = some (some (.int .u8 0), 1, 1) := by kernel_rfl
end Go.Proofs.YtefedalnafjcfaaGreatDoor

namespace Go.Proofs.YtefedalnafjcfaaGreatDoor
open Go.RowKit
set_option maxRecDepth 100000 in
set_option maxHeartbeats 400000 in
theorem clone_any (v : Value) (xs : List UInt8) (ok : Nat → Prop) (w : World) (h : bytesR.rel w ok [v] xs) :
    Calls Tryz.prog 42 #[v] w fun e w' => ∃ A c, e = .returned (.slice A xs.length c) ∧ w'.ownsRow w.heap.size 5 1 (.slice A xs.length c) xs.length (bcells xs) ∧ Mod (fun _ => False) w w' := by
  have q22 : ∀ (w : World) (a : Option Addr) (n c n' c' : Nat), (binOp .eql 22 (.slice a n c) (.slice none n' c')).run Tryz.prog w = .ok (.bool a.isNone) w := fun w a n c n' c' => Lib.run_eql_slice_nil w _ _ a n c n' c' Tryz.underlying22
  obtain ⟨A, c, hv, h2, h3, h4, h5, h6⟩ := h
  obtain rfl : v = .slice A xs.length c := by simpa using hv
  cases A with
  | none =>
    have hc0 := h5 rfl
    have hx : xs.length = 0 := by omega
    obtain rfl : xs = [] := List.eq_nil_of_length_eq_zero hx
    subst hc0
    go_enter Tryz.func42, Tryz.ntmps42
    go_wp2
    go_ret
    exact ⟨none, 0, rfl, World.ownsRow_nil _ _ _ _, .refl _ _⟩
  | some ad =>
    clear hv h5
    have hnl := bcells_length xs
    have hcells : ∀ j u, (bcells xs)[j]? = some u → w.cell? (ad.add j) = some u := by
      by_cases hx : xs = []
      · subst hx; intro j u hu; simp [bcells] at hu
      · obtain ⟨ad', e, _, hh⟩ := RowOf.bcells h6 hx
        injection e with e; subst e; exact hh
    have HC := Lib.hid hcells; clear hcells
    clear h6
    obtain ⟨i0, hi, hz0, hz1, hz2⟩ := info_parts Tryz.info_u8
    go_enter Tryz.func42, Tryz.ntmps42
    go_wp2_with (at_builtin; refine wpList_append_own_at _ rfl _ _ 22 rfl w.heap.size 5 i0 (.int .u8 0) 1 1 Tryz.underlying22 hi hz0 hz1 hz2 rfl (by decide) (.slice (some ⟨w.heap.size, 0, none⟩) 0 0) 0 [] rfl ?c1 ad xs.length c (bcells xs) rfl ?c2 ?c3 ?c4 ?c5 ?c6 ?c7 ?_)
    case c1 => exact World.ownsRow_made w _ 0 (Nat.le_refl _) (by decide) rfl
    case c2 => simp [bcells_length]
    case c3 => intro j u hu; have := HC.out j u hu; exact cell_step this (fun hl => Below.heap_alloc _ _ _ hl)
    case c4 => exact bcells_one _
    case c5 => unfold maxLen; omega
    case c6 => omega
    case c7 => simp
    intro v1 w1 hown hg hnil hat
    obtain ⟨A1, c1, rfl⟩ := own_slice hown
    have HR := Lib.hid (And.intro hown hg); clear hown hg hnil hat
    go_wp2
    go_ret
    exact ⟨A1, c1, rfl, HR.out.1, ((Mod.refl _ w).alloc _).grown HR.out.2 (by simp [Value.ownBlock])⟩
end Go.Proofs.YtefedalnafjcfaaGreatDoor

