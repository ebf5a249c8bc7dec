/- Texts of this claim, joined: Cats14, Cats15, Comp, Cats16. -/
import Derived.Test.YthhepnaanjicjaaGreatDoorP3
import Derived.Test.YthhepnaanjicjaaGreatDoorP0
import Derived.Lib.SlicesCompact
/- Layer 5, the document's answer: Compare. -/
namespace Go.Proofs.YthhepnaanjicjaaGreatDoor
open Go.RowKit Go.Shelf
set_option linter.unusedVariables false
theorem cmpB_ref_none {a b : List UInt8} (ha : parseB a = none) (hb : parseB b = none) : cmpB a b = if Op.bytesLess a b then -1 else if a = b then 0 else 1 := by
  unfold cmpB; rw [ha, hb]; rfl
theorem cmpB_ref_some {a b : List UInt8} {p q : List Int} {m n : Int} (ha : parseB a = some (p, m)) (hb : parseB b = some (q, n)) : cmpB a b = if aheadB p m q n then -1 else if a = b then 0 else 1 := by
  have h0 : cmpB a b = if cmpL p q = 0 then Lib.compareInt m n else cmpL p q := by unfold cmpB; rw [ha, hb]
  unfold aheadB
  rw [← h0]
  have hv : cmpB a b = -1 ∨ cmpB a b = 0 ∨ cmpB a b = 1 := by
    rw [h0]
    split
    · unfold Lib.compareInt; split
      · simp
      · split <;> simp
    · exact cmpL_val p q
  by_cases hlt : cmpB a b < 0
  · simp [hlt]; omega
  · by_cases he : a = b
    · subst he; rw [cmpB_self]; simp
    · have : cmpB a b ≠ 0 := fun h => he (cmpB_zero h)
      simp [hlt, he]; omega
set_option maxRecDepth 100000 in
set_option maxHeartbeats 1000000 in
theorem refcompare_any (a b : List UInt8) (ha : a.length ≤ 1000000) (hb : b.length ≤ 1000000) (w : World) :
    Calls Tryz.prog 73 #[encS a, encS b] w fun r w' => r = .returned (.int .i64 (cmpB a b)) ∧ Mod (fun _ => False) w w' := by
  obtain ⟨z, hz⟩ : ∃ z, z = cmpB a b := ⟨_, rfl⟩
  rw [← hz]
  have HZ := Lib.hid hz; clear hz
  unfold encS
  go_enter Tryz.func73, Tryz.ntmps73
  go_wp2_with fail
  refine (get_any a ha w).mono ?_
  rintro r w1 ⟨hm1, hr1⟩
  rw [getB_eq] at hr1
  have HM1 := Lib.hid hm1; clear hm1
  rcases hr1 with ⟨hpa, rfl⟩ | ⟨p, m, A, c, hpa, rfl, hp⟩
  · go_wp2_with fail
    refine (get_any b hb _).mono ?_
    rintro r w2 ⟨hm2, hr2⟩
    rw [getB_eq] at hr2
    have HM2 := Lib.hid (tr0 (HM1.out.alloc _) hm2); clear hm2
    rcases hr2 with ⟨hpb, rfl⟩ | ⟨q, n, A2, c2, hpb, rfl, hq⟩
    · go_wp2_with fail
      · go_ret
        have h1 : Op.bytesLess a b = true := by assumption
        have : z = -1 := by rw [HZ.out, cmpB_ref_none hpa hpb, h1]; rfl
        subst this
        exact ⟨rfl, HM2.out.alloc _⟩
      · go_ret
        have h1 : Op.bytesLess a b = false := by assumption
        have h2 : (a == b) = true := by assumption
        have : z = 0 := by rw [HZ.out, cmpB_ref_none hpa hpb, h1]; simp at h2; simp [h2]
        subst this
        exact ⟨rfl, HM2.out.alloc _⟩
      · go_ret
        have h1 : Op.bytesLess a b = false := by assumption
        have h2 : (a == b) = false := by assumption
        have : z = 1 := by rw [HZ.out, cmpB_ref_none hpa hpb, h1]; simp at h2; simp [h2]
        subst this
        exact ⟨rfl, HM2.out.alloc _⟩
    · clear hq
      have hz : z = 1 := by rw [HZ.out]; unfold cmpB; rw [hpa, hpb]
      subst hz
      have hne : (a == b) = false := by
        simp only [beq_eq_false_iff_ne, ne_eq]
        rintro rfl; rw [hpa] at hpb; cases hpb
      go_wp2_with fail
      go_ret
      exact ⟨rfl, HM2.out.alloc _⟩
  · have HP := Lib.hid hp; clear hp
    go_wp2_with fail
    refine (get_any b hb _).mono ?_
    rintro r w2 ⟨hm2, hr2⟩
    rw [getB_eq] at hr2
    have hblk := (hm2.block w1.heap.size (by rw [World.size_alloc]; omega) id).trans (World.alloc_heap_new w1 _)
    have hpr := Rd.mod (Rd.mod (Rd.bound HP.out) ((Mod.refl (fun _ => False) w1).alloc (.cells #[.slice A p.length c, .int .i64 m] 78)) (fun _ _ => id)) hm2 (fun _ _ => id)
    have HM2 := Lib.hid (And.intro (tr0 (HM1.out.alloc _) hm2) (And.intro hblk hpr)); clear hm2 hblk hpr
    rcases hr2 with ⟨hpb, rfl⟩ | ⟨q, n, A2, c2, hpb, rfl, hq⟩
    · have hz : z = -1 := by rw [HZ.out]; unfold cmpB; rw [hpa, hpb]
      subst hz
      go_wp2_with fail
      go_ret
      exact ⟨rfl, HM2.out.1.alloc _⟩
    · have HQ := Lib.hid hq; clear hq
      have x0 : (w2.alloc (.cells #[.slice A2 q.length c2, .int .i64 n] 78)).cell? ⟨w1.heap.size, 0, none⟩ = some (.slice A p.length c) := cell_alloc_l _ (by rw [Lib.cell_of_heap HM2.out.2.1]; rfl)
      have x1 : (w2.alloc (.cells #[.slice A2 q.length c2, .int .i64 n] 78)).cell? ⟨w1.heap.size, 1, none⟩ = some (.int .i64 m) := cell_alloc_l _ (by rw [Lib.cell_of_heap HM2.out.2.1]; rfl)
      go_wp2_with fail
      refine (ahead_any A c A2 c2 p q m n _ _ _ (Rd.mod HM2.out.2.2 ((Mod.refl (fun _ => False) w2).alloc (.cells #[.slice A2 q.length c2, .int .i64 n] 78)) (fun _ _ => id)) (Rd.mod (Rd.bound HQ.out) ((Mod.refl (fun _ => False) w2).alloc (.cells #[.slice A2 q.length c2, .int .i64 n] 78)) (fun _ _ => id))).mono ?_
      rintro r w3 ⟨rfl, hm3⟩
      have HM3 := Lib.hid (tr0 (HM2.out.1.alloc _) hm3); clear hm3 x0 x1
      have hzz := HZ.out
      rw [cmpB_ref_some hpa hpb] at hzz
      cases hah : aheadB p m q n with
      | true =>
        rw [hah] at hzz
        have : z = -1 := hzz
        subst this
        clear hzz
        go_wp2_with fail
        go_ret
        exact ⟨rfl, HM3.out⟩
      | false =>
        rw [hah] at hzz
        by_cases he : a = b
        · have e1 : (a == b) = true := by simp [he]
          have : z = 0 := by rw [hzz]; simp [he]
          subst this
          have HE := Lib.hid he; clear he hzz
          go_wp2_with fail
          go_ret
          exact ⟨rfl, HM3.out⟩
        · have e1 : (a == b) = false := by simp [he]
          have : z = 1 := by rw [hzz]; simp [he]
          subst this
          have HE := Lib.hid he; clear he hzz
          go_wp2_with fail
          go_ret
          exact ⟨rfl, HM3.out⟩
end Go.Proofs.YthhepnaanjicjaaGreatDoor

/- Layer 5, the document's answer: Sort. -/
namespace Go.Proofs.YthhepnaanjicjaaGreatDoor
open Go.RowKit Go.Shelf
set_option linter.unusedVariables false
theorem cmpS_val (a b : List UInt8) : cmpS a b = -1 ∨ cmpS a b = 0 ∨ cmpS a b = 1 := by unfold cmpS; split <;> (try split) <;> simp
theorem cmpB_val (a b : List UInt8) : cmpB a b = -1 ∨ cmpB a b = 0 ∨ cmpB a b = 1 := by
  unfold cmpB
  split
  · exact cmpS_val a b
  · simp
  · simp
  · split
    · unfold Lib.compareInt; split <;> (try split) <;> simp
    · exact cmpL_val _ _
/-- s is put in. -/
def insS (s : List UInt8) : Bool → List (List UInt8) → List (List UInt8)
  | dn, [] => if dn then [] else [s]
  | dn, t :: ts => if cmpB s t < 0 ∧ dn = false then s :: t :: insS s true ts else t :: insS s (dn || cmpB s t == 0) ts
def sortR (l : List (List UInt8)) : List (List UInt8) := l.foldl (fun out s => if rightB s then insS s false out else out) []
theorem insS_len (s : List UInt8) : ∀ (l : List (List UInt8)) (dn : Bool), (insS s dn l).length ≤ l.length + (if dn then 0 else 1)
  | [], dn => by cases dn <;> simp [insS]
  | t :: ts, dn => by
    have h1 := insS_len s ts true
    have h2 := insS_len s ts (dn || cmpB s t == 0)
    unfold insS
    split
    · rename_i h; rw [h.2]; simp at h1 ⊢; omega
    · cases dn <;> simp at h1 h2 ⊢
      · split at h2 <;> omega
      · omega
theorem insS_mem (s : List UInt8) : ∀ (l : List (List UInt8)) (dn : Bool) (x : List UInt8), x ∈ insS s dn l → x = s ∨ x ∈ l
  | [], dn, x, h => by cases dn <;> simp [insS] at h; exact .inl h
  | t :: ts, dn, x, h => by
    unfold insS at h
    split at h
    · rcases List.mem_cons.1 h with h | h
      · exact .inl h
      · rcases List.mem_cons.1 h with h | h
        · exact .inr (by simp [h])
        · exact (insS_mem s ts _ x h).imp id (fun h => by simp [h])
    · rcases List.mem_cons.1 h with h | h
      · exact .inr (by simp [h])
      · exact (insS_mem s ts _ x h).imp id (fun h => by simp [h])
theorem sortR_snoc (l : List (List UInt8)) (s : List UInt8) : sortR (l ++ [s]) = if rightB s then insS s false (sortR l) else sortR l := by simp [sortR, List.foldl_append]
theorem insS_nil (s : List UInt8) (dn : Bool) : insS s dn [] = if dn = true then [] else [s] := by unfold insS; rfl
theorem insS_cons (s t : List UInt8) (ts : List (List UInt8)) (dn : Bool) : insS s dn (t :: ts) = if cmpB s t < 0 ∧ dn = false then s :: t :: insS s true ts else t :: insS s (dn || cmpB s t == 0) ts := by rw [insS]
theorem snoc_ind {α : Type} {P : List α → Prop} (h0 : P []) (h1 : ∀ l a, P l → P (l ++ [a])) (l : List α) : P l := by
  have : ∀ l : List α, P l.reverse := fun l => by
    induction l with
    | nil => exact h0
    | cons a l ih => rw [List.reverse_cons]; exact h1 _ _ ih
  have h := this l.reverse
  rwa [List.reverse_reverse] at h
theorem sortR_len : ∀ (l : List (List UInt8)), (sortR l).length ≤ l.length := by
  intro l
  induction l using snoc_ind with
  | h0 => simp [sortR]
  | h1 l s ih =>
    rw [sortR_snoc]
    split
    · have := insS_len s (sortR l) false
      simp at this ⊢; omega
    · simp; omega
theorem sortR_mem' : ∀ (l : List (List UInt8)), ∀ x ∈ sortR l, x ∈ l := by
  intro l
  induction l using snoc_ind with
  | h0 => simp [sortR]
  | h1 l s ih =>
    intro x hx
    rw [sortR_snoc] at hx
    split at hx
    · rcases insS_mem s _ _ x hx with h | h
      · simp [h]
      · simp [ih x h]
    · simp [ih x hx]
theorem own_base_le {w : World} {base b2 : Nat} {e : TypeId} {size n : Nat} {v : Value} {xs : List Value} (h : w.ownsRow base e size v n xs) (hb : b2 ≤ base) : w.ownsRow b2 e size v n xs := by
  obtain ⟨h1, h2⟩ := h
  refine ⟨h1, ?_⟩
  rcases h2 with h2 | ⟨g, cap, cur, rfl, hg, r⟩
  · exact .inl h2
  · exact .inr ⟨g, cap, cur, rfl, by omega, r⟩
theorem own_at1 {w : World} {base : Nat} {e : TypeId} {v : Value} {n : Nat} {xs : List Value} (h : w.ownsRow base e 1 v n xs) {j : Nat} {x : Value} (hj : xs[j]? = some x) : ∃ g c, v = .slice (some ⟨g, 0, none⟩) n c ∧ w.cell? ⟨g, j, none⟩ = some x := by
  obtain ⟨h1, h2⟩ := h
  have hlt := (List.getElem?_eq_some_iff.1 hj).1
  rcases h2 with ⟨_, h2⟩ | ⟨g, cap, cur, rfl, hg, hb, hn, hm, hs, ht⟩
  · omega
  · refine ⟨g, cap, rfl, ?_⟩
    rw [Lib.cell_of_heap hb, ← Array.getElem?_toList]
    rw [← ht, List.getElem?_take] at hj
    split at hj
    · exact hj
    · cases hj
/-- The inner loop: nx is laid, rest is to come. -/
structure InS (w : World) (B : Nat) (T out : List (List UInt8)) (vo : Value) (rest nx : List (List UInt8)) (v : Value) (W : World) : Prop where
  eq : nx ++ rest = T
  own : W.ownsRow B 9 1 v nx.length (scells nx)
  old : W.ownsRow w.heap.size 9 1 vo out.length (scells out)
  lt : ∀ k, vo.ownBlock = some k → k < B
  mod : Mod (fun _ => False) w W
  base : B ≤ W.heap.size
  ge : w.heap.size ≤ B
section
variable {w W W1 : World} {B : Nat} {T out rest nx : List (List UInt8)} {vo v v1 : Value}
theorem InS.step {y : List UInt8} (h : InS w B T out vo (y :: rest) nx v W) (hown : W1.ownsRow B 9 1 v1 (nx.length + 1) (scells nx ++ [encS y])) (hg : W.grownBy W1 v.ownBlock) : InS w B T out vo rest (nx ++ [y]) v1 W1 where
  eq := by rw [← h.eq]; simp
  own := by rw [scells_app]; rw [List.length_append]; exact hown
  old := own_move h.old (fun k hk => hg.block k (own_lt h.old k hk).2 (fun e => by have h1 := own_lt h.own k e.symm; have := h.lt k hk; omega))
  lt := h.lt
  mod := h.mod.grown hg (fun k hk => .inr (by have h1 := own_lt h.own k hk.symm; have := h.ge; omega))
  base := Nat.le_trans h.base hg.size
  ge := h.ge
theorem InS.mod0 (h : InS w B T out vo rest nx v W) (hm : Mod (fun _ => False) W W1) : InS w B T out vo rest nx v W1 where
  eq := h.eq
  own := own_move h.own (fun k hk => hm.block k (own_lt h.own k hk).2 id)
  old := own_move h.old (fun k hk => hm.block k (own_lt h.old k hk).2 id)
  lt := h.lt
  mod := tr0 h.mod hm
  base := Nat.le_trans h.base hm.size
  ge := h.ge
theorem InS.to (h : InS w B T out vo rest nx v W) {rest' : List (List UInt8)} (e : rest = rest') : InS w B T out vo rest' nx v W := e ▸ h
theorem InS.len (h : InS w B T out vo rest nx v W) (hT : T.length ≤ 1000001) : (nx.length + 1) * 16 ≤ 140737488355328 := by
  have := congrArg List.length h.eq
  rw [List.length_append] at this
  omega
end
set_option maxRecDepth 100000 in
set_option maxHeartbeats 2000000 in
theorem refsort_any (A : Option Addr) (n c : Nat) (ls : List ByteArray) (ok : Nat → Prop) (w : World) (h : strsR.rel w ok [.slice A n c] ls) (hl : ls.length ≤ 1000000) (hx : ∀ s ∈ ls, s.size ≤ 1000000) :
    Calls Tryz.prog 69 #[.slice A n c] w fun r w' => ∃ A' c', r = .returned (.slice A' (sortR (ls.map fun s => s.data.toList)).length c') ∧ w'.ownsRow w.heap.size 9 1 (.slice A' (sortR (ls.map fun s => s.data.toList)).length c') (sortR (ls.map fun s => s.data.toList)).length (scells (sortR (ls.map fun s => s.data.toList))) ∧ Mod (fun _ => False) w w' := by
  obtain ⟨rfl, hcap, hmx, hbig, hnil, hrow⟩ := strs_row h
  have H0 := Lib.hid (And.intro hrow hx); clear hrow h hx hnil
  go_enter Tryz.func69, Tryz.ntmps69
  go_wp2_with fail
  go_loopg [3, 15] ls.length (fun f so si wr => ∃ (i : Nat), si = .int .i64 i ∧ i + f = ls.length ∧ wr.ownsRow w.heap.size 9 1 so (sortR ((ls.take i).map fun s => s.data.toList)).length (scells (sortR ((ls.take i).map fun s => s.data.toList))) ∧ Mod (fun _ => False) w wr)
  case atStart => exact ⟨0, rfl, by omega, World.ownsRow_nil _ _ _ _, .refl _ _⟩
  case round =>
    obtain ⟨i, rfl, hi, ho, hmod⟩ := hrel
    by_cases hlt : i < ls.length
    · obtain ⟨x, hx⟩ : ∃ x, ls[i]? = some x := ⟨ls[i], by simp [hlt]⟩
      obtain ⟨ad, rfl, -, hcx, -⟩ := RowOf.strs (H0.out.1.step (w1 := wr) (ok1 := ok) (fun k hk hl => ⟨hk, hmod.block k hl id⟩)) hx
      obtain ⟨s, hs⟩ : ∃ s, s = x.data.toList := ⟨_, rfl⟩
      have hxs : x = ⟨s.toArray⟩ := by rw [hs]
      have hsl : s.length ≤ 1000000 := by have := H0.out.2 x (List.mem_of_getElem? hx); rw [hs]; exact this
      have htake : (ls.take (i + 1)).map (fun s => s.data.toList) = (ls.take i).map (fun s => s.data.toList) ++ [s] := by rw [List.take_add_one, hx, hs]; simp
      rw [hxs] at hcx
      obtain ⟨out, hout⟩ : ∃ out, out = sortR ((ls.take i).map fun s => s.data.toList) := ⟨_, rfl⟩
      have hol : out.length ≤ i := by rw [hout]; have := sortR_len ((ls.take i).map fun s => s.data.toList); rw [List.length_map, List.length_take] at this; omega
      have hom : ∀ t ∈ out, t.length ≤ 1000000 := by
        intro t ht
        rw [hout] at ht
        have := sortR_mem' _ t ht
        obtain ⟨y, hy, rfl⟩ := List.mem_map.1 this
        have := H0.out.2 y (List.mem_of_mem_take hy)
        exact this
      have hnext : sortR ((ls.take (i + 1)).map fun s => s.data.toList) = if rightB s then insS s false out else out := by rw [htake, sortR_snoc, ← hout]
      rw [← hout] at ho
      obtain ⟨Ao, co, rfl⟩ := own_slice ho
      have HX := Lib.hid (And.intro hi (And.intro hnext (And.intro ho (And.intro hmod hom)))); clear hi hnext ho hmod hom hout hx hs hxs htake
      go_wp2_with fail
      refine (get_any s hsl wr).mono ?_
      rintro r w1 ⟨hm1, hr1⟩
      rw [getB_eq] at hr1
      rcases hr1 with ⟨hp, rfl⟩ | ⟨p, m, A1, c1, hp, rfl, -⟩
      · have hrb : rightB s = false := by unfold rightB; rw [hp]; rfl
        have HM := Lib.hid (And.intro hm1 hrb); clear hm1 hrb hp
        go_wp2_with fail
        go_roundg (gk - 1)
        case measure => have := HX.out.1; omega
        case rel =>
          obtain ⟨hi, hnext, ho, hmod, hom⟩ := HX.out
          obtain ⟨hm1, hrb⟩ := HM.out
          have hm2 := hm1.alloc (.cells #[.slice none 0 0, .int .i64 0] 78)
          refine ⟨i + 1, by go_num, by omega, ?_, tr0 hmod hm2⟩
          rw [hnext, hrb]
          exact own_move ho (fun k hk => hm2.block k (own_lt ho k hk).2 id)
      · have hrb : rightB s = true := by unfold rightB; rw [hp]; rfl
        have hIn : ∀ W, Mod (fun _ => False) wr W → InS w W.heap.size (insS s false out) out (.slice Ao out.length co) (insS s false (out.drop 0)) [] (.slice none 0 0) W := fun W hm =>
          { eq := by simp, own := World.ownsRow_nil _ _ _ _, old := own_move HX.out.2.2.1 (fun k hk => hm.block k (own_lt HX.out.2.2.1 k hk).2 id),
            lt := fun k hk => Nat.lt_of_lt_of_le (own_lt HX.out.2.2.1 k hk).2 hm.size, mod := tr0 HX.out.2.2.2.1 hm, base := Nat.le_refl _, ge := Nat.le_trans HX.out.2.2.2.1.size hm.size }
        have HM := Lib.hid (And.intro (hIn _ (hm1.alloc (.cells #[.slice A1 p.length c1, .int .i64 m] 78))) hrb); clear hm1 hrb hp hIn
        go_wp2_with fail
        obtain ⟨B, hB⟩ : ∃ B, B = (w1.alloc (.cells #[.slice A1 p.length c1, .int .i64 m] 78)).heap.size := ⟨_, rfl⟩
        rw [← hB] at HM
        clear hB
        obtain ⟨gO, hgO⟩ : ∃ g, g = gk := ⟨_, rfl⟩
        subst hgO
        go_loopg [8, 9, 28] out.length (fun f2 sn sd sj W => ∃ (j : Nat) (dn : Bool) (nx : List (List UInt8)), sj = .int .i64 j ∧ sd = .bool dn ∧ j + f2 = out.length ∧ InS w B (insS s false out) out (.slice Ao out.length co) (insS s dn (out.drop j)) nx sn W)
        case atStart => exact ⟨0, false, [], rfl, rfl, by omega, HM.out.1⟩
        case round =>
          obtain ⟨j, dn, nx, rfl, rfl, hj, hI⟩ := hrel
          obtain ⟨An, cn, rfl⟩ := own_slice hI.own
          by_cases hjl : j < out.length
          · obtain ⟨t, ht⟩ : ∃ t, out[j]? = some t := ⟨out[j], by simp [hjl]⟩
            have htl : t.length ≤ 1000000 := HX.out.2.2.2.2 t (List.mem_of_getElem? ht)
            have hdrop : out.drop j = t :: out.drop (j + 1) := by rw [List.drop_eq_getElem_cons hjl]; congr 1; rw [List.getElem?_eq_getElem hjl] at ht; exact Option.some.inj ht
            obtain ⟨g, c0, hv, hct⟩ := own_at1 hI.old (show (scells out)[j]? = some (encS t) by simp [scells, ht])
            obtain ⟨rfl, rfl⟩ : Ao = some ⟨g, 0, none⟩ ∧ co = c0 := by simpa using hv
            rw [hdrop, insS_cons] at hI
            have hcv : cmpB s t = -1 ∨ cmpB s t = 0 ∨ cmpB s t = 1 := cmpB_val s t
            obtain ⟨z, hz⟩ : ∃ z, z = cmpB s t := ⟨_, rfl⟩
            have hcmp := fun W => refcompare_any s t hsl htl W
            rw [← hz] at hI hcv
            simp only [← hz] at hcmp
            have HT := Lib.hid (show (insS s false out).length ≤ 1000001 by have := insS_len s out false; simp at this; omega)
            have HI := Lib.hid hI; clear hI hdrop ht hv
            have HJ := Lib.hid (And.intro hj hz); clear hj hz
            have HC := Lib.hid hcmp; clear hcmp
            have hb1 : out.length ≤ 1000000 := by omega
            unfold encS at hct
            go_wp2_with fail
            refine (HC.out _).mono ?_
            rintro r w2 ⟨rfl, hm2⟩
            rcases hcv with rfl | rfl | rfl
            · cases dn with
              | false =>
                have HI2 := Lib.hid ((HI.out.to (if_pos (by decide))).mod0 hm2); clear hm2 hct HI
                go_wp2_with (at_builtin; refine append_one B rfl _ _ 24 9 (.string ⟨#[]⟩) 16 rfl Tryz.underlying24 (by kernel_rfl) rfl (by decide) (.slice An nx.length cn) _ _ rfl rfl rfl (by rw [scells_len]; exact HI2.out.own) HI2.out.base (by rw [scells_len]; exact HI2.out.len HT.out) ?_)
                intro A3 c3 w3 hown3 hg3 _
                rw [scells_len] at hown3 ⊢
                have H3 := Lib.hid (HI2.out.step hown3 hg3); clear hown3 hg3 HI2
                go_wp2_with (at_builtin; refine append_one B rfl _ _ 24 9 (.string ⟨#[]⟩) 16 rfl Tryz.underlying24 (by kernel_rfl) rfl (by decide) (.slice A3 (nx.length + 1) c3) _ _ rfl rfl rfl (by rw [scells_len]; exact H3.out.own) H3.out.base (by rw [scells_len]; exact H3.out.len HT.out) ?_)
                intro A4 c4 w4 hown4 hg4 _
                rw [scells_len] at hown4 ⊢
                have H4 := Lib.hid (H3.out.step hown4 hg4); clear hown4 hg4 H3
                go_wp2_with fail
                go_roundg (gk - 1)
                case measure => have := HJ.out.1; omega
                case rel => exact ⟨j + 1, true, (nx ++ [s]) ++ [t], by go_num, rfl, by have := HJ.out.1; omega, H4.out⟩
              | true =>
                have HI2 := Lib.hid ((HI.out.to (if_neg (by decide))).mod0 hm2); clear hm2 hct HI
                go_wp2_with (at_builtin; refine append_one B rfl _ _ 24 9 (.string ⟨#[]⟩) 16 rfl Tryz.underlying24 (by kernel_rfl) rfl (by decide) (.slice An nx.length cn) _ _ rfl rfl rfl (by rw [scells_len]; exact HI2.out.own) HI2.out.base (by rw [scells_len]; exact HI2.out.len HT.out) ?_)
                intro A3 c3 w3 hown3 hg3 _
                rw [scells_len] at hown3 ⊢
                have H3 := Lib.hid (HI2.out.step hown3 hg3); clear hown3 hg3 HI2
                go_wp2_with fail
                go_roundg (gk - 1)
                case measure => have := HJ.out.1; omega
                case rel => exact ⟨j + 1, true, nx ++ [t], by go_num, rfl, by have := HJ.out.1; omega, H3.out⟩
            · cases dn with
              | false =>
                have HI2 := Lib.hid ((HI.out.to (if_neg (by decide))).mod0 hm2); clear hm2 hct HI
                go_wp2_with (at_builtin; refine append_one B rfl _ _ 24 9 (.string ⟨#[]⟩) 16 rfl Tryz.underlying24 (by kernel_rfl) rfl (by decide) (.slice An nx.length cn) _ _ rfl rfl rfl (by rw [scells_len]; exact HI2.out.own) HI2.out.base (by rw [scells_len]; exact HI2.out.len HT.out) ?_)
                intro A3 c3 w3 hown3 hg3 _
                rw [scells_len] at hown3 ⊢
                have H3 := Lib.hid (HI2.out.step hown3 hg3); clear hown3 hg3 HI2
                go_wp2_with fail
                go_roundg (gk - 1)
                case measure => have := HJ.out.1; omega
                case rel => exact ⟨j + 1, true, nx ++ [t], by go_num, rfl, by have := HJ.out.1; omega, H3.out⟩
              | true =>
                have HI2 := Lib.hid ((HI.out.to (if_neg (by decide))).mod0 hm2); clear hm2 hct HI
                go_wp2_with (at_builtin; refine append_one B rfl _ _ 24 9 (.string ⟨#[]⟩) 16 rfl Tryz.underlying24 (by kernel_rfl) rfl (by decide) (.slice An nx.length cn) _ _ rfl rfl rfl (by rw [scells_len]; exact HI2.out.own) HI2.out.base (by rw [scells_len]; exact HI2.out.len HT.out) ?_)
                intro A3 c3 w3 hown3 hg3 _
                rw [scells_len] at hown3 ⊢
                have H3 := Lib.hid (HI2.out.step hown3 hg3); clear hown3 hg3 HI2
                go_wp2_with fail
                go_roundg (gk - 1)
                case measure => have := HJ.out.1; omega
                case rel => exact ⟨j + 1, true, nx ++ [t], by go_num, rfl, by have := HJ.out.1; omega, H3.out⟩
            · cases dn with
              | false =>
                have HI2 := Lib.hid ((HI.out.to (if_neg (by decide))).mod0 hm2); clear hm2 hct HI
                go_wp2_with (at_builtin; refine append_one B rfl _ _ 24 9 (.string ⟨#[]⟩) 16 rfl Tryz.underlying24 (by kernel_rfl) rfl (by decide) (.slice An nx.length cn) _ _ rfl rfl rfl (by rw [scells_len]; exact HI2.out.own) HI2.out.base (by rw [scells_len]; exact HI2.out.len HT.out) ?_)
                intro A3 c3 w3 hown3 hg3 _
                rw [scells_len] at hown3 ⊢
                have H3 := Lib.hid (HI2.out.step hown3 hg3); clear hown3 hg3 HI2
                go_wp2_with fail
                go_roundg (gk - 1)
                case measure => have := HJ.out.1; omega
                case rel => exact ⟨j + 1, false, nx ++ [t], by go_num, rfl, by have := HJ.out.1; omega, H3.out⟩
              | true =>
                have HI2 := Lib.hid ((HI.out.to (if_neg (by decide))).mod0 hm2); clear hm2 hct HI
                go_wp2_with (at_builtin; refine append_one B rfl _ _ 24 9 (.string ⟨#[]⟩) 16 rfl Tryz.underlying24 (by kernel_rfl) rfl (by decide) (.slice An nx.length cn) _ _ rfl rfl rfl (by rw [scells_len]; exact HI2.out.own) HI2.out.base (by rw [scells_len]; exact HI2.out.len HT.out) ?_)
                intro A3 c3 w3 hown3 hg3 _
                rw [scells_len] at hown3 ⊢
                have H3 := Lib.hid (HI2.out.step hown3 hg3); clear hown3 hg3 HI2
                go_wp2_with fail
                go_roundg (gk - 1)
                case measure => have := HJ.out.1; omega
                case rel => exact ⟨j + 1, true, nx ++ [t], by go_num, rfl, by have := HJ.out.1; omega, H3.out⟩
          · have hdl : out.drop j = [] := List.drop_eq_nil_of_le (by omega)
            rw [hdl, insS_nil] at hI
            have HT := Lib.hid (show (insS s false out).length ≤ 1000001 by have := insS_len s out false; simp at this; omega)
            cases dn with
            | false =>
              have HI2 := Lib.hid (hI.to (if_neg (by decide))); clear hI hdl hj
              go_wp2_with (at_builtin; refine append_one B rfl _ _ 24 9 (.string ⟨#[]⟩) 16 rfl Tryz.underlying24 (by kernel_rfl) rfl (by decide) (.slice An nx.length cn) _ _ rfl rfl rfl (by rw [scells_len]; exact HI2.out.own) HI2.out.base (by rw [scells_len]; exact HI2.out.len HT.out) ?_)
              intro A3 c3 w3 hown3 hg3 _
              rw [scells_len] at hown3 ⊢
              have H3 := Lib.hid (HI2.out.step hown3 hg3); clear hown3 hg3 HI2
              go_wp2_with fail
              go_roundg (gO - 1)
              case measure => have := HX.out.1; omega
              case rel =>
                have he := H3.out.eq
                rw [List.append_nil] at he
                refine ⟨i + 1, by go_num, by have := HX.out.1; omega, ?_, H3.out.mod⟩
                rw [HX.out.2.1, HM.out.2, if_pos rfl, ← he]
                exact own_base_le H3.out.own H3.out.ge
            | true =>
              have HI2 := Lib.hid (hI.to (if_pos rfl)); clear hI hdl hj
              go_wp2_with fail
              go_roundg (gO - 1)
              case measure => have := HX.out.1; omega
              case rel =>
                have he := HI2.out.eq
                rw [List.append_nil] at he
                refine ⟨i + 1, by go_num, by have := HX.out.1; omega, ?_, HI2.out.mod⟩
                rw [HX.out.2.1, HM.out.2, if_pos rfl, ← he]
                exact own_base_le HI2.out.own HI2.out.ge
    · have hie : ls.take i = ls := List.take_of_length_le (by omega)
      rw [hie] at ho
      obtain ⟨A', c', rfl⟩ := own_slice ho
      have HX := Lib.hid (And.intro ho hmod); clear ho hmod hi hie
      go_wp2_with fail
      go_ret
      exact ⟨A', c', rfl, HX.out.1, HX.out.2⟩
end Go.Proofs.YthhepnaanjicjaaGreatDoor

/- A sorted row without repetitions is told by its members; compact of a sorted row is one. No program in it. -/
namespace Go.Proofs.YthhepnaanjicjaaGreatDoor
open Go.RowKit
set_option linter.unusedVariables false
section
variable {α : Type}
theorem strict_unique {lt : α → α → Prop} (hirr : ∀ x, ¬ lt x x) (htr : ∀ x y z, lt x y → lt y z → lt x z) : ∀ {a b : List α}, a.Pairwise lt → b.Pairwise lt → (∀ x, x ∈ a ↔ x ∈ b) → a = b
  | [], b, _, _, h => by
    cases b with
    | nil => rfl
    | cons y b => exact absurd ((h y).2 (by simp)) (by simp)
  | x :: a, [], _, _, h => absurd ((h x).1 (by simp)) (by simp)
  | x :: a, y :: b, ha, hb, h => by
    rw [List.pairwise_cons] at ha hb
    have hxy : x = y := by
      rcases List.mem_cons.1 ((h x).1 (by simp)) with h1 | h1
      · exact h1
      · rcases List.mem_cons.1 ((h y).2 (by simp)) with h2 | h2
        · exact h2.symm
        · exact absurd (htr _ _ _ (ha.1 y h2) (hb.1 x h1)) (hirr _)
    subst hxy
    congr 1
    refine strict_unique hirr htr ha.2 hb.2 fun z => ?_
    have hz := h z
    simp only [List.mem_cons] at hz
    constructor
    · intro hm
      rcases hz.1 (.inr hm) with rfl | h1
      · exact absurd (ha.1 _ hm) (hirr _)
      · exact h1
    · intro hm
      rcases hz.2 (.inr hm) with rfl | h1
      · exact absurd (hb.1 _ hm) (hirr _)
      · exact h1
variable [Inhabited α] [DecidableEq α]
theorem compactUpTo_gen {le : α → α → Prop} (htr : ∀ x y z, le x y → le y z → le x z) (hanti : ∀ x y, le x y → le y x → x = y) (d : Array α) (hs : ∀ i j, i ≤ j → j < d.size → le d[i]! d[j]!) :
    ∀ m, m ≤ d.size → (Lib.compactUpTo d m).Pairwise (fun x y => le x y ∧ x ≠ y) ∧ (∀ x, x ∈ Lib.compactUpTo d m ↔ ∃ j, j < m ∧ d[j]! = x)
  | 0, _ => ⟨by simp [Lib.compactUpTo], fun x => by simp [Lib.compactUpTo]⟩
  | m + 1, hm => by
    obtain ⟨h1, h2⟩ := compactUpTo_gen htr hanti d hs m (by omega)
    rw [Lib.compactUpTo_succ]
    cases hk : Lib.keeps d m with
    | false =>
      simp only [Bool.false_eq_true, if_false, List.append_nil]
      refine ⟨h1, fun x => ?_⟩
      rw [h2]
      refine ⟨fun ⟨j, hj, he⟩ => ⟨j, by omega, he⟩, fun ⟨j, hj, he⟩ => ?_⟩
      by_cases hjm : j = m
      · subst hjm
        have : 0 < j ∧ d[j]! = d[j - 1]! := by
          unfold Lib.keeps at hk
          simp at hk
          exact ⟨by omega, by simp_all⟩
        exact ⟨j - 1, by omega, by rw [← this.2]; exact he⟩
      · exact ⟨j, by omega, he⟩
    | true =>
      simp only [if_true]
      refine ⟨?_, fun x => ?_⟩
      · rw [List.pairwise_append]
        refine ⟨h1, List.pairwise_singleton _ _, fun x hx y hy => ?_⟩
        rw [List.mem_singleton.1 hy]
        obtain ⟨j, hj, rfl⟩ := (h2 x).1 hx
        have h5 : d[m]! ≠ d[m - 1]! := by
          unfold Lib.keeps at hk
          simp at hk
          rcases hk with hk | hk
          · omega
          · simp_all
        have h6 := hs j (m - 1) (by omega) (by omega)
        have h7 := hs (m - 1) m (by omega) (by omega)
        refine ⟨htr _ _ _ h6 h7, fun e => h5 (hanti _ _ ?_ h7)⟩
        rw [← e]; exact h6
      · rw [List.mem_append, h2, List.mem_singleton]
        constructor
        · rintro (⟨j, hj, he⟩ | rfl)
          · exact ⟨j, by omega, he⟩
          · exact ⟨m, by omega, rfl⟩
        · rintro ⟨j, hj, he⟩
          by_cases hjm : j = m
          · subst hjm; exact .inr he.symm
          · exact .inl ⟨j, by omega, he⟩
theorem compact_gen {le : α → α → Prop} (hrefl : ∀ x, le x x) (htr : ∀ x y z, le x y → le y z → le x z) (hanti : ∀ x y, le x y → le y x → x = y) {s : List α} (hs : s.Pairwise le) :
    (Lib.compact s).Pairwise (fun x y => le x y ∧ x ≠ y) ∧ ∀ x, x ∈ Lib.compact s ↔ x ∈ s := by
  have hsort : ∀ a b, a ≤ b → b < s.toArray.size → le s.toArray[a]! s.toArray[b]! := by
    intro a b hab hb
    have hb' : b < s.length := by simpa using hb
    rw [getElem!_pos s.toArray a (by simp; omega), getElem!_pos s.toArray b hb]
    by_cases h : a = b
    · subst h; exact hrefl _
    · simpa using List.pairwise_iff_getElem.1 hs a b (by omega) hb' (by omega)
  obtain ⟨h1, h2⟩ := compactUpTo_gen htr hanti s.toArray hsort s.length (by simp)
  refine ⟨h1, fun x => ?_⟩
  unfold Lib.compact
  rw [h2]
  constructor
  · rintro ⟨j, hj, rfl⟩
    rw [getElem!_pos s.toArray j (by simpa using hj)]
    simp
  · intro hx
    obtain ⟨j, hj, he⟩ := List.getElem_of_mem hx
    exact ⟨j, hj, by rw [getElem!_pos s.toArray j (by simpa using hj)]; simpa using he⟩
end
end Go.Proofs.YthhepnaanjicjaaGreatDoor

/- Layer 5: what Sort answers: in order, each once; the document's answer and the code's are one. -/
namespace Go.Proofs.YthhepnaanjicjaaGreatDoor
open Go.RowKit Go.Shelf
set_option linter.unusedVariables false
def ltB (a b : List UInt8) : Prop := cmpB a b < 0
theorem ltB_irr (x : List UInt8) : ¬ ltB x x := by unfold ltB; rw [cmpB_self]; omega
theorem ltB_iff {x y : List UInt8} : ltB x y ↔ cmpB x y ≤ 0 ∧ x ≠ y := by
  unfold ltB
  constructor
  · intro h; refine ⟨by omega, ?_⟩; rintro rfl; rw [cmpB_self] at h; omega
  · rintro ⟨h1, h2⟩
    have : cmpB x y ≠ 0 := fun h => h2 (cmpB_zero h)
    omega
theorem ltB_tr (x y z : List UInt8) (h1 : ltB x y) (h2 : ltB y z) : ltB x z := by
  rw [ltB_iff] at h1 h2 ⊢
  refine ⟨cmpB_trans h1.1 h2.1, ?_⟩
  rintro rfl
  have := cmpB_neg x y
  exact h1.2 (cmpB_zero (by omega))
theorem leB_anti (x y : List UInt8) (h1 : cmpB x y ≤ 0) (h2 : cmpB y x ≤ 0) : x = y := cmpB_zero (by have := cmpB_neg x y; omega)
theorem sortS_spec (l : List (List UInt8)) : (sortS l).Pairwise ltB ∧ ∀ x, x ∈ sortS l ↔ x ∈ l ∧ rightB x = true := by
  have hp : ((l.filter rightB).mergeSort leB).Pairwise (fun a b => cmpB a b ≤ 0) := by
    have := List.pairwise_mergeSort (le := leB) (fun a b c h1 h2 => by simp only [leB, decide_eq_true_eq] at *; exact cmpB_trans h1 h2) (fun a b => by simp only [leB, Bool.or_eq_true, decide_eq_true_eq]; have := cmpB_neg a b; omega) (l.filter rightB)
    exact this.imp (fun h => by simpa [leB] using h)
  obtain ⟨h1, h2⟩ := compact_gen (le := fun a b => cmpB a b ≤ 0) (fun x => by rw [cmpB_self]; omega) (fun _ _ _ => cmpB_trans) leB_anti hp
  refine ⟨h1.imp (fun h => ltB_iff.2 h), fun x => ?_⟩
  unfold sortS
  rw [h2, List.mem_mergeSort, List.mem_filter]
theorem insS_true (s : List UInt8) : ∀ l : List (List UInt8), insS s true l = l
  | [] => by rw [insS_nil]; rfl
  | t :: ts => by rw [insS_cons, if_neg (by simp), Bool.true_or, insS_true s ts]
theorem insS_spec (s : List UInt8) : ∀ l : List (List UInt8), l.Pairwise ltB → (insS s false l).Pairwise ltB ∧ ∀ x, x ∈ insS s false l ↔ x = s ∨ x ∈ l
  | [], _ => by rw [insS_nil]; simp
  | t :: ts, h => by
    rw [List.pairwise_cons] at h
    rw [insS_cons]
    by_cases hc : cmpB s t < 0
    · rw [if_pos ⟨hc, rfl⟩, insS_true]
      refine ⟨?_, fun x => by simp⟩
      rw [List.pairwise_cons, List.pairwise_cons]
      refine ⟨?_, h.1, h.2⟩
      intro y hy
      rcases List.mem_cons.1 hy with rfl | hy
      · exact hc
      · exact ltB_tr _ _ _ hc (h.1 y hy)
    · rw [if_neg (fun e => hc e.1), Bool.false_or]
      by_cases hz : cmpB s t = 0
      · have := cmpB_zero hz
        subst this
        rw [hz]
        simp only [BEq.rfl, insS_true]
        exact ⟨List.pairwise_cons.2 h, fun x => by simp⟩
      · rw [show (cmpB s t == 0) = false by simpa using hz]
        obtain ⟨h1, h2⟩ := insS_spec s ts h.2
        refine ⟨List.pairwise_cons.2 ⟨fun y hy => ?_, h1⟩, fun x => ?_⟩
        · rcases (h2 y).1 hy with rfl | hy
          · show cmpB t y < 0
            have := cmpB_neg y t
            omega
          · exact h.1 y hy
        · simp only [List.mem_cons, h2]
          constructor
          · rintro (h | h | h)
            · exact .inr (.inl h)
            · exact .inl h
            · exact .inr (.inr h)
          · rintro (h | h | h)
            · exact .inr (.inl h)
            · exact .inl h
            · exact .inr (.inr h)
theorem sortR_spec (l : List (List UInt8)) : (sortR l).Pairwise ltB ∧ ∀ x, x ∈ sortR l ↔ x ∈ l ∧ rightB x = true := by
  induction l using snoc_ind with
  | h0 => simp [sortR]
  | h1 l s ih =>
    rw [sortR_snoc]
    by_cases hr : rightB s = true
    · rw [if_pos hr]
      obtain ⟨h1, h2⟩ := insS_spec s _ ih.1
      refine ⟨h1, fun x => ?_⟩
      rw [h2, ih.2]
      simp only [List.mem_append, List.mem_singleton]
      constructor
      · rintro (rfl | h)
        · exact ⟨.inr rfl, hr⟩
        · exact ⟨.inl h.1, h.2⟩
      · rintro ⟨h | h, h2⟩
        · exact .inr ⟨h, h2⟩
        · exact .inl h
    · rw [if_neg hr]
      refine ⟨ih.1, fun x => ?_⟩
      rw [ih.2]
      simp only [List.mem_append, List.mem_singleton]
      constructor
      · rintro ⟨h, h2⟩; exact ⟨.inl h, h2⟩
      · rintro ⟨h | rfl, h2⟩
        · exact ⟨h, h2⟩
        · exact absurd h2 hr
/-- The document's answer and the code's are one. -/
theorem sortR_eq (l : List (List UInt8)) : sortR l = sortS l :=
  strict_unique ltB_irr ltB_tr (sortR_spec l).1 (sortS_spec l).1 (fun x => by rw [(sortR_spec l).2, (sortS_spec l).2])
end Go.Proofs.YthhepnaanjicjaaGreatDoor
