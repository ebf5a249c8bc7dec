/- Part of this claim's proof (texts Rd, Cats0, Range, joined by program). -/
import Derived.ChangeArms
import Derived.DataReads
import Derived.ChangeOld
import Derived.SizedLaws
import Derived.Lib.AppendStr
import Derived.Laws.IdiomStrings
import Derived.Laws.BytesArg
import Derived.Test.YtefedalnafjcfaaGreatDoorA00
import Derived.OpenShut
import Derived.WalkSmall
import Derived.Lib.SmallJoins
import Derived.Lib.AppendIntMem
import Derived.Lib.AtoiAllCases
import Derived.LaidEql
import Derived.RangeFuncKeeps
import Derived.RangeFuncNested
import Derived.RangeFuncLeaves
namespace Go.Proofs.YtefedalnafjcfaaGreatDoor
open Go.RowKit
set_option linter.unusedVariables false
theorem add_add (a : Addr) (m n : Nat) : (a.add m).add n = a.add (m + n) := by
  unfold Addr.add
  by_cases hm : m = 0 <;> by_cases hn : n = 0 <;> simp [hm, hn, Nat.add_assoc]
/-- A field's address as the walk spells it. -/
theorem add_field (ad : Addr) (m j : Nat) (hj : 0 < j) : ad.add (m + j) = ⟨(ad.add m).block, (ad.add m).off + j, none⟩ := by
  unfold Addr.add
  by_cases hm : m = 0
  · subst hm
    simp [Nat.ne_of_gt hj]
  · simp [hm, Nat.add_assoc]
theorem add_block (a : Addr) (m : Nat) : (a.add m).block = a.block := by unfold Addr.add; split <;> rfl
theorem lt_of_cell {w : World} {a : Addr} {v : Value} (h : w.cell? a = some v) : a.block < w.heap.size := World.block_lt_of_cell? w a h
theorem cell_step {w w1 : World} {a : Addr} {v : Value} (h : w.cell? a = some v) (hs : a.block < w.heap.size → w1.heap[a.block]? = w.heap[a.block]?) : w1.cell? a = some v :=
  (World.cell?_of_block (w := w) (hs (lt_of_cell h))).trans h
/-- cs reads as x in w; ok: the blocks in which what is reached may lie. -/
structure Rd (α : Type) where
  sz : Nat
  pos : 0 < sz
  rel : World → (Nat → Prop) → List Value → α → Prop
  len : ∀ {w ok cs x}, rel w ok cs x → cs.length = sz
  one : ∀ {w ok cs x}, rel w ok cs x → ∀ u ∈ cs, u.oneCell' = true
  step : ∀ {w w1 : World} {ok ok1 : Nat → Prop} {cs x}, (∀ k, ok k → k < w.heap.size → ok1 k ∧ w1.heap[k]? = w.heap[k]?) → rel w ok cs x → rel w1 ok1 cs x
namespace Rd
variable {α : Type}
/-- The cells at A on read as xs. -/
def RowOf (R : Rd α) (w : World) (ok : Nat → Prop) (A : Option Addr) (xs : List α) : Prop :=
  xs = [] ∨ ∃ ad, A = some ad ∧ ok ad.block ∧ ∀ j x, xs[j]? = some x → ∃ c, R.rel w ok c x ∧ ∀ i u, c[i]? = some u → w.cell? (ad.add (j * R.sz + i)) = some u
theorem cells_ne {R : Rd α} {w : World} {ok : Nat → Prop} {c : List Value} {x : α} (h : R.rel w ok c x) : ∃ u, c[0]? = some u := by
  have := R.len h
  have := R.pos
  exact ⟨c[0], List.getElem?_eq_getElem (by omega)⟩
theorem RowOf.step {R : Rd α} {w w1 : World} {ok ok1 : Nat → Prop} {A : Option Addr} {xs : List α} (h : R.RowOf w ok A xs) (hs : ∀ k, ok k → k < w.heap.size → ok1 k ∧ w1.heap[k]? = w.heap[k]?) : R.RowOf w1 ok1 A xs := by
  rcases h with h | ⟨ad, hA, hok, h⟩
  · exact .inl h
  · by_cases hx : xs = []
    · exact .inl hx
    · have hlt : ad.block < w.heap.size := by
        obtain ⟨x, l, rfl⟩ := List.exists_cons_of_ne_nil hx
        obtain ⟨c, h1, h2⟩ := h 0 x rfl
        obtain ⟨u, hu⟩ := cells_ne h1
        have := lt_of_cell (h2 0 u hu)
        rwa [add_block] at this
      refine .inr ⟨ad, hA, (hs _ hok hlt).1, fun j x hj => ?_⟩
      obtain ⟨c, h1, h2⟩ := h j x hj
      exact ⟨c, R.step hs h1, fun i u hu => cell_step (h2 i u hu) (fun _ => by rw [add_block]; exact (hs _ hok hlt).2)⟩
theorem RowOf.at_ {R : Rd α} {w : World} {ok : Nat → Prop} {A : Option Addr} {xs : List α} (h : R.RowOf w ok A xs) {j : Nat} {x : α} (hj : xs[j]? = some x) :
    ∃ ad c, A = some ad ∧ ok ad.block ∧ R.rel w ok c x ∧ ∀ i u, c[i]? = some u → w.cell? (ad.add (j * R.sz + i)) = some u := by
  rcases h with rfl | ⟨ad, hA, hok, h⟩
  · simp at hj
  · obtain ⟨c, h1, h2⟩ := h j x hj
    exact ⟨ad, c, hA, hok, h1, h2⟩
def inR (k : IntKind) (x : Int) : Prop := (Lit.int k x).wf = true
def int (k : IntKind) : Rd Int where
  sz := 1
  pos := by decide
  rel := fun _ _ cs x => cs = [.int k x] ∧ inR k x
  len := by rintro _ _ _ _ ⟨rfl, _⟩; rfl
  one := by rintro _ _ _ _ ⟨rfl, _⟩ u hu; rw [List.mem_singleton.1 hu]; rfl
  step := fun _ h => h
def byte : Rd UInt8 where
  sz := 1
  pos := by decide
  rel := fun _ _ cs x => cs = [.int .u8 (x.toNat : Int)]
  len := by rintro _ _ _ _ rfl; rfl
  one := by rintro _ _ _ _ rfl u hu; rw [List.mem_singleton.1 hu]; rfl
  step := fun _ h => h
def bool : Rd Bool where
  sz := 1
  pos := by decide
  rel := fun _ _ cs x => cs = [.bool x]
  len := by rintro _ _ _ _ rfl; rfl
  one := by rintro _ _ _ _ rfl u hu; rw [List.mem_singleton.1 hu]; rfl
  step := fun _ h => h
def string : Rd ByteArray where
  sz := 1
  pos := by decide
  rel := fun _ _ cs x => cs = [.string x] ∧ x.size ≤ 140737488355328
  len := by rintro _ _ _ _ ⟨rfl, _⟩; rfl
  one := by rintro _ _ _ _ ⟨rfl, _⟩ u hu; rw [List.mem_singleton.1 hu]; rfl
  step := fun _ h => h
def slice (bytes : Nat) (R : Rd α) : Rd (List α) where
  sz := 1
  pos := by decide
  rel := fun w ok cs xs => ∃ A c, cs = [.slice A xs.length c] ∧ xs.length ≤ c ∧ c ≤ maxLen ∧ xs.length * bytes ≤ 140737488355328 ∧ (A = none → c = 0) ∧ R.RowOf w ok A xs
  len := by rintro _ _ _ _ ⟨A, c, rfl, _⟩; rfl
  one := by rintro _ _ _ _ ⟨A, c, rfl, _⟩ u hu; rw [List.mem_singleton.1 hu]; rfl
  step := fun hs ⟨A, c, h1, h2, h3, h4, h5, h6⟩ => ⟨A, c, h1, h2, h3, h4, h5, h6.step hs⟩
/-- Two in line. -/
def pair {β : Type} (a : Rd α) (b : Rd β) : Rd (α × β) where
  sz := a.sz + b.sz
  pos := by have := a.pos; omega
  rel := fun w ok cs x => ∃ c0 c1, cs = c0 ++ c1 ∧ a.rel w ok c0 x.1 ∧ b.rel w ok c1 x.2
  len := by rintro _ _ _ _ ⟨c0, c1, rfl, h0, h1⟩; rw [List.length_append, a.len h0, b.len h1]
  one := by
    rintro _ _ _ _ ⟨c0, c1, rfl, h0, h1⟩ u hu
    rcases List.mem_append.1 hu with hu | hu
    · exact a.one h0 u hu
    · exact b.one h1 u hu
  step := fun hs ⟨c0, c1, h, h0, h1⟩ => ⟨c0, c1, h, a.step hs h0, b.step hs h1⟩
/-- A structure by its fields. -/
def iso {β : Type} (d : Rd α) (f : β → α) : Rd β where
  sz := d.sz
  pos := d.pos
  rel := fun w ok cs x => d.rel w ok cs (f x)
  len := d.len
  one := d.one
  step := d.step
theorem mono {R : Rd α} {w : World} {ok ok1 : Nat → Prop} {cs : List Value} {x : α} (h : R.rel w ok cs x) (hk : ∀ k, ok k → ok1 k) : R.rel w ok1 cs x := R.step (fun k h _ => ⟨hk k h, rfl⟩) h
theorem bound {R : Rd α} {w : World} {ok : Nat → Prop} {cs : List Value} {x : α} (h : R.rel w ok cs x) : R.rel w (fun k => ok k ∧ k < w.heap.size) cs x := R.step (fun _ h hl => ⟨⟨h, hl⟩, rfl⟩) h
theorem mod {R : Rd α} {S : Nat → Prop} {w w1 : World} {ok : Nat → Prop} {cs : List Value} {x : α} (h : R.rel w ok cs x) (hm : Mod S w w1) (hd : ∀ k, ok k → ¬ S k) : R.rel w1 ok cs x :=
  R.step (fun k ho hl => ⟨ho, hm.block k hl (hd k ho)⟩) h
theorem below {R : Rd α} {B : Nat} {w w1 : World} {ok : Nat → Prop} {cs : List Value} {x : α} (h : R.rel w ok cs x) (hm : Below B w w1) (hd : ∀ k, ok k → k < B) : R.rel w1 ok cs x :=
  R.step (fun k ho _ => ⟨ho, hm.block k (hd k ho)⟩) h
end Rd
theorem take_one {cs : List Value} {o : Nat} {v : Value} (h : (cs.drop o).take 1 = [v]) : cs[o]? = some v := by
  have : ((cs.drop o).take 1)[0]? = some v := by rw [h]; rfl
  rw [List.getElem?_take_of_lt (by decide), List.getElem?_drop] at this
  simpa using this
/-- v owns a row of xs (elements of type e); the elements lie in S's blocks, none in v's own. -/
def OwnR {α : Type} (R : Rd α) (e : TypeId) (w : World) (base : Nat) (S : Nat → Prop) (v : Value) (xs : List α) : Prop :=
  ∃ cells, w.ownsRow base e R.sz v xs.length cells ∧ ∀ j x, xs[j]? = some x → R.rel w (fun k => S k ∧ some k ≠ v.ownBlock) ((cells.drop (j * R.sz)).take R.sz) x
theorem OwnR.nil {α : Type} (R : Rd α) (e : TypeId) (w : World) (base : Nat) (S : Nat → Prop) : OwnR R e w base S (.slice none 0 0) [] := ⟨[], World.ownsRow_nil w base e R.sz, fun j x h => by simp at h⟩
theorem own_lt {w : World} {base : Nat} {e : TypeId} {size n : Nat} {v : Value} {xs : List Value} (h : w.ownsRow base e size v n xs) (k : Nat) (hk : v.ownBlock = some k) : base ≤ k ∧ k < w.heap.size := h.lt k hk
theorem OwnR.step {α : Type} {R : Rd α} {e : TypeId} {w w1 : World} {base : Nat} {S S1 : Nat → Prop} {v : Value} {xs : List α} (h : OwnR R e w base S v xs)
    (hv : ∀ k, v.ownBlock = some k → w1.heap[k]? = w.heap[k]?) (hs : ∀ k, S k → some k ≠ v.ownBlock → k < w.heap.size → S1 k ∧ w1.heap[k]? = w.heap[k]?) : OwnR R e w1 base S1 v xs := by
  obtain ⟨cells, h1, h2⟩ := h
  exact ⟨cells, own_move h1 hv, fun j x hj => R.step (fun k hk hl => ⟨⟨(hs k hk.1 hk.2 hl).1, hk.2⟩, (hs k hk.1 hk.2 hl).2⟩) (h2 j x hj)⟩
theorem OwnR.mod {α : Type} {R : Rd α} {e : TypeId} {T : Nat → Prop} {w w1 : World} {base : Nat} {S : Nat → Prop} {v : Value} {xs : List α} (h : OwnR R e w base S v xs) (hm : Mod T w w1)
    (hv : ∀ k, v.ownBlock = some k → ¬ T k) (hs : ∀ k, S k → some k ≠ v.ownBlock → ¬ T k) : OwnR R e w1 base S v xs :=
  h.step (fun k hk => hm.block k (by obtain ⟨c, h1, _⟩ := h; exact (own_lt h1 k hk).2) (hv k hk)) (fun k hk hn hl => ⟨hk, hm.block k hl (hs k hk hn)⟩)
theorem OwnR.reads {α : Type} {R : Rd α} {e : TypeId} {w : World} {base : Nat} {S : Nat → Prop} {v : Value} {xs : List α} (h : OwnR R e w base S v xs) {bytes : Nat} (hb : xs.length * bytes ≤ 140737488355328) :
    (Rd.slice bytes R).rel w (fun k => S k ∨ v.ownBlock = some k) [v] xs := by
  obtain ⟨cells, h1, h2⟩ := h
  obtain ⟨h0, h1'⟩ := h1
  rcases h1' with ⟨rfl, hn⟩ | ⟨g, cap, cur, rfl, hg, hh, r1, r2, r3, r4⟩
  · have : xs = [] := List.eq_nil_of_length_eq_zero hn
    subst this
    exact ⟨none, 0, rfl, Nat.le_refl _, by decide, by simp, fun _ => rfl, .inl rfl⟩
  · refine ⟨_, cap, rfl, r1, r2, hb, by simp, .inr ⟨_, rfl, .inr rfl, fun j x hj => ⟨_, Rd.mono (h2 j x hj) (fun k hk => .inl hk.1), fun i u hu => ?_⟩⟩⟩
    have hc := World.ownsRow.cells (w := w) (base := base) (e := e) (size := R.sz) (n := xs.length) (xs := cells) ⟨h0, .inr ⟨g, cap, cur, rfl, hg, hh, r1, r2, r3, r4⟩⟩ (g := g) rfl (j * R.sz + i) u
    refine hc ?_
    rw [List.getElem?_take] at hu
    split at hu
    · rwa [List.getElem?_drop] at hu
    · cases hu
/-- one more at the row's end -/
theorem OwnR.snoc {α : Type} {R : Rd α} {e : TypeId} {w w1 : World} {base : Nat} {S : Nat → Prop} {v v1 : Value} {xs : List α} {x : α} {cells cs : List Value}
    (h : ∀ j x, xs[j]? = some x → R.rel w (fun k => S k ∧ some k ≠ v.ownBlock) ((cells.drop (j * R.sz)).take R.sz) x) (hl : cells.length = xs.length * R.sz)
    (hx : R.rel w (fun k => S k ∧ some k ≠ v.ownBlock) cs x) (ho : w1.ownsRow base e R.sz v1 (xs.length + 1) (cells ++ cs)) (hg : w.grownBy w1 v.ownBlock) (hn : NewOr w v v1) : OwnR R e w1 base S v1 (xs ++ [x]) := by
  have hcs := R.len hx
  have hm : ∀ k, (S k ∧ some k ≠ v.ownBlock) → k < w.heap.size → (S k ∧ some k ≠ v1.ownBlock) ∧ w1.heap[k]? = w.heap[k]? := by
    rintro k ⟨hk, hne⟩ hlt
    refine ⟨⟨hk, fun e => ?_⟩, hg.block k hlt hne⟩
    exact hn.ne hlt (fun e2 => hne e2.symm) e.symm
  refine ⟨cells ++ cs, by simpa using ho, fun j y hj => ?_⟩
  rcases Nat.lt_or_ge j xs.length with hj' | hj'
  · rw [List.getElem?_append_left hj'] at hj
    have h1 : j * R.sz + R.sz ≤ cells.length := by rw [hl, ← Nat.succ_mul]; exact Nat.mul_le_mul_right _ hj'
    rw [List.drop_append_of_le_length (by omega), List.take_append_of_le_length (by rw [List.length_drop]; omega)]
    exact R.step hm (h j y hj)
  · have : j = xs.length := by
      have := (List.getElem?_eq_some_iff.1 hj).1
      simp at this; omega
    subst this
    have : x = y := by simpa using hj
    subst this
    rw [← hl, List.drop_left, ← hcs, List.take_length]
    exact R.step hm hx
abbrev bytesR : Rd (List UInt8) := Rd.slice 1 Rd.byte
theorem RowOf.bcells {w : World} {ok : Nat → Prop} {A : Option Addr} {xs : List UInt8} (h : Rd.byte.RowOf w ok A xs) (hn : xs ≠ []) :
    ∃ ad, A = some ad ∧ ok ad.block ∧ ∀ j u, (bcells xs)[j]? = some u → w.cell? (ad.add j) = some u := by
  rcases h with h | ⟨ad, h1, h2, h3⟩
  · exact absurd h hn
  · refine ⟨ad, h1, h2, fun j u hu => ?_⟩
    simp only [Go.Proofs.YtefedalnafjcfaaGreatDoor.bcells, List.getElem?_map, Option.map_eq_some_iff] at hu
    obtain ⟨x, hx, rfl⟩ := hu
    obtain ⟨c, rfl, hc⟩ := h3 j x hx
    have := hc 0 _ rfl
    rwa [show j * Rd.byte.sz + 0 = j from Nat.mul_one j] at this
theorem own_bytes {w : World} {base : Nat} {e : TypeId} {v : Value} {bs : List UInt8} (h : w.ownsRow base e 1 v bs.length (bcells bs)) : OwnR Rd.byte e w base (fun _ => False) v bs := by
  refine ⟨_, h, fun j x hj => ?_⟩
  show ((bcells bs).drop (j * 1)).take 1 = _
  rw [Nat.mul_one]
  have : (bcells bs)[j]? = some (.int .u8 (x.toNat : Int)) := by simp [bcells, hj]
  have hlt := (List.getElem?_eq_some_iff.1 this).1
  rw [List.drop_eq_getElem_cons hlt]
  simp [(List.getElem?_eq_some_iff.1 this).2]
theorem reads_bytes {w : World} {base : Nat} {e : TypeId} {v : Value} {bs : List UInt8} (h : w.ownsRow base e 1 v bs.length (bcells bs)) (hl : bs.length ≤ 140737488355328) : bytesR.rel w (fun k => v.ownBlock = some k) [v] bs :=
  Rd.mono ((own_bytes h).reads (bytes := 1) (by omega)) (fun k hk => hk.elim False.elim id)
def mkStr (bs : List UInt8) : ByteArray := ⟨bs.toArray⟩
theorem mkStr_size (bs : List UInt8) : (mkStr bs).size = bs.length := by simp [mkStr, ByteArray.size]
theorem mkStr_list (bs : List UInt8) : (mkStr bs).data.toList = bs := by simp [mkStr]
theorem list_mkStr (s : ByteArray) : mkStr s.data.toList = s := by simp [mkStr]
/-- string(bytes): a rule for the walk. -/
theorem run_str {P : Program} {w : World} {ok : Nat → Prop} {A : Option Addr} {n c : Nat} {bs : List UInt8} (h : bytesR.rel w ok [.slice A n c] bs) (src dst e : TypeId) (hs : P.underlying src = some (.slice e)) (he : P.underlying e = some (.int .u8)) (hd : P.underlying dst = some .string) :
    (convert src dst (.slice A n c)).run P w = .ok (.string (mkStr bs)) w := by
  obtain ⟨A', c', hv, h2, h3, h4, h5, h6⟩ := h
  simp only [List.cons.injEq, Value.slice.injEq, and_true] at hv
  obtain ⟨rfl, rfl, rfl⟩ := hv
  by_cases hx : bs = []
  · subst hx
    rw [run_convert_bytes_string w src dst e _ _ _ hs he hd]
    cases A <;> simp [Conv.bytesToString, loadCells, loadCellsFrom, mkStr]
    all_goals rfl
  · obtain ⟨ad, rfl, _, hc⟩ := RowOf.bcells h6 hx
    refine run_convert_bytes_back w src dst e ad c bs hs he hd (fun j hj => hc j _ ?_)
    simp [bcells, List.getElem?_eq_getElem hj]
section
variable {P : Program} {α : Type} {R : Rd α} {bytes : Nat} {w : World} {ok : Nat → Prop} {A : Option Addr} {n c : Nat} {xs : List α}
theorem RowOf.drop (h : R.RowOf w ok A xs) (l : Nat) (hl : l ≤ xs.length) (hne : ¬ l = c ∨ xs.length ≤ l) : R.RowOf w ok (if c = l then A else A.map (·.add (l * R.sz))) (xs.drop l) := by
  by_cases hd : xs.length ≤ l
  · exact .inl (List.drop_eq_nil_of_le hd)
  · rw [if_neg (fun e => hne.elim (fun h => h e.symm) hd)]
    rcases h with h | ⟨ad, rfl, hok, h⟩
    · subst h; simp at hd
    · refine .inr ⟨ad.add (l * R.sz), rfl, by rw [add_block]; exact hok, fun j x hj => ?_⟩
      rw [List.getElem?_drop] at hj
      obtain ⟨cs, h1, h2⟩ := h (l + j) x hj
      refine ⟨cs, h1, fun i u hu => ?_⟩
      have := h2 i u hu
      rw [add_add, show l * R.sz + (j * R.sz + i) = (l + j) * R.sz + i by rw [Nat.add_mul, Nat.add_assoc]]
      exact this
theorem RowOf.take (h : R.RowOf w ok A xs) (l : Nat) : R.RowOf w ok A (xs.take l) := by
  rcases h with h | ⟨ad, rfl, hok, h⟩
  · subst h; exact .inl (by simp)
  · refine .inr ⟨ad, rfl, hok, fun j x hj => ?_⟩
    rw [List.getElem?_take] at hj
    split at hj
    · exact h j x hj
    · cases hj
/-- xs[l:] -/
theorem slice_from (h : (Rd.slice bytes R).rel w ok [.slice A n c] xs) {t e : TypeId} (ht : P.underlying t = some (.slice e)) {i : TypeInfo} (hi : P.info? e = some i) (hz : i.size = R.sz) (k : IntKind) (l : Int) (h0 : 0 ≤ l) (h1 : l ≤ (xs.length : Int)) :
    ∃ A', (∀ W, (Instr.slice t (.slice A n c) (some (.int k l)) none none).run P W = .ok (.slice A' (n - l.toNat) (c - l.toNat)) W) ∧ (Rd.slice bytes R).rel w ok [.slice A' (n - l.toNat) (c - l.toNat)] (xs.drop l.toNat) := by
  obtain ⟨A0, c0, hv, h2, h3, h4, h5, h6⟩ := h
  simp only [List.cons.injEq, Value.slice.injEq, and_true] at hv
  obtain ⟨rfl, rfl, rfl⟩ := hv
  refine ⟨_, fun W => ?_, _, _, by rw [List.length_drop], by rw [List.length_drop]; omega, by omega, ?_, ?_, RowOf.drop (c := c) h6 l.toNat (by omega) (by omega)⟩
  · have hb : 0 ≤ l ∧ l ≤ (xs.length : Int) := ⟨h0, h1⟩
    simp [Instr.slice, run_underlying ht, Instr.sliceBounds, Instr.sliceBound, asIntOf, hb, sizeOf, typeInfo, hi, hz]
  · rw [List.length_drop]; exact Nat.le_trans (Nat.mul_le_mul_right _ (by omega)) h4
  · intro e
    split at e
    · have := h5 e; omega
    · have := h5 (Option.map_eq_none_iff.1 e); omega
/-- xs[:l] -/
theorem slice_to (h : (Rd.slice bytes R).rel w ok [.slice A n c] xs) {t e : TypeId} (ht : P.underlying t = some (.slice e)) {i : TypeInfo} (hi : P.info? e = some i) (k : IntKind) (l : Int) (h0 : 0 ≤ l) (h1 : l ≤ (xs.length : Int)) :
    ∃ A', (∀ W, (Instr.slice t (.slice A n c) none (some (.int k l)) none).run P W = .ok (.slice A' l.toNat c) W) ∧ (Rd.slice bytes R).rel w ok [.slice A' l.toNat c] (xs.take l.toNat) := by
  obtain ⟨A0, c0, hv, h2, h3, h4, h5, h6⟩ := h
  simp only [List.cons.injEq, Value.slice.injEq, and_true] at hv
  obtain ⟨rfl, rfl, rfl⟩ := hv
  have hl : (xs.take l.toNat).length = l.toNat := by rw [List.length_take]; omega
  refine ⟨if c = 0 then A else A.map (·.add (0 * i.size)), fun W => ?_, _, _, by rw [hl], by rw [hl]; omega, by omega, ?_, ?_, ?_⟩
  · have hb : 0 ≤ l ∧ l ≤ (c : Int) := ⟨h0, by omega⟩
    simp [Instr.slice, run_underlying ht, Instr.sliceBounds, Instr.sliceBound, asIntOf, hb, sizeOf, typeInfo, hi]
  · rw [hl]; exact Nat.le_trans (Nat.mul_le_mul_right _ (by omega)) h4
  · intro e
    split at e
    · exact h5 e
    · exact h5 (Option.map_eq_none_iff.1 e)
  · have : (if c = 0 then A else A.map (·.add (0 * i.size))) = A := by
      split
      · rfl
      · cases A <;> simp [Addr.add]
    rw [this]
    exact RowOf.take h6 _
end
/-- A value of type T that is read, and is of bounded weight, is one of the kind. -/
def Opens (P : Program) {α : Type} (R : Rd α) (T : TypeId) : Prop :=
  ∀ (H : Type) (enc : TypeId × Value → H) (W : World) (base : Nat) (spare : Nat → Bool) (held : Bool) (fuel : Nat) (cs : List Value) (d : DataW H × List MemPlace),
    DataW.trod enc P W base spare held fuel T cs = some d → (∀ n ∈ d.1.weights P T, n ≤ reachBytes) → ∃ x, R.rel W (fun k => k < W.heap.size) cs x
theorem opens_byte {P : Program} {T : TypeId} (ht : P.underlying T = some (.int .u8)) : Opens P Rd.byte T := by
  intro H enc W base spare held fuel cs d h _
  obtain ⟨n, rfl, _, hw⟩ := DataW.trod_int ht h
  have hr : 0 ≤ n ∧ n ≤ 255 := by simpa [Lit.wf, IntKind.min, IntKind.max, IntKind.signed, IntKind.bits] using hw
  exact ⟨u8 n, by show _ = _; rw [u8_toNat n hr.1 (by omega)]⟩
theorem mem_weightsAll {H : Type} {P : Program} {e : TypeId} : ∀ {l : List (DataW H)} {d : DataW H}, d ∈ l → ∀ n ∈ d.weights P e, n ∈ DataW.weightsAll P e l
  | x :: l, d, hd, n, hn => by
    rw [DataW.weightsAll]
    rcases List.mem_cons.1 hd with rfl | hd
    · exact List.mem_append_left _ hn
    · exact List.mem_append_right _ (mem_weightsAll hd n hn)
theorem list_of {α β : Type} (p : Nat → α → β → Prop) (l : List α) (h : ∀ j a, l[j]? = some a → ∃ b, p j a b) : ∃ ys : List β, ys.length = l.length ∧ ∀ j a b, l[j]? = some a → ys[j]? = some b → p j a b := by
  induction l generalizing p with
  | nil => exact ⟨[], rfl, fun j a b h => by simp at h⟩
  | cons a l ih =>
    obtain ⟨b, hb⟩ := h 0 a rfl
    obtain ⟨ys, hl, hy⟩ := ih (fun j a b => p (j + 1) a b) (fun j a hj => h (j + 1) a (by simpa using hj))
    refine ⟨b :: ys, by simp [hl], fun j a' b' h1 h2 => ?_⟩
    cases j with
    | zero => simp at h1 h2; subst h1; subst h2; exact hb
    | succ j => exact hy j a' b' (by simpa using h1) (by simpa using h2)
theorem opens_slice {P : Program} {T e : TypeId} {bytes : Nat} {α : Type} {R : Rd α} (ht : P.underlying T = some (.slice e)) (hb : P.bytesOf e = bytes) (hc : P.cellsOf e = R.sz) (hR : Opens P R e) : Opens P (Rd.slice bytes R) T := by
  intro H enc W base spare held fuel cs d h hw
  rcases DataW.trod_slice ht h with ⟨rfl, rfl⟩ | ⟨a, len, cap, elems, rest, n, rfl, rfl, rfl, hba, hl, hcap, hlen, hel, _, _⟩
  · exact ⟨[], none, 0, rfl, Nat.le_refl _, by decide, by simp, fun _ => rfl, .inl rfl⟩
  · have hpos := R.pos
    have hsz : elems.length * bytes ≤ reachBytes := by
      have := hw (((elems.map (·.1)).length + (rest.map (·.1)).length) * P.bytesOf e) (by simp [DataW.weights, ht])
      rw [hb] at this
      refine Nat.le_trans (Nat.mul_le_mul_right _ ?_) this
      simp
    have each : ∀ j y, elems[j]? = some y → ∃ x, ∃ c, R.rel W (fun k => k < W.heap.size) c x ∧ ∀ i u, c[i]? = some u → W.cell? (a.add (j * R.sz + i)) = some u := by
      intro j y hj
      have hjl := (List.getElem?_eq_some_iff.1 hj).1
      have h1 := hel j (by omega)
      rw [hj, Option.bind_eq_some_iff] at h1
      obtain ⟨c, h2, h3⟩ := h1
      obtain ⟨x, hx⟩ := hR H enc W base spare held n c y h3 (fun m hm => hw m (by
        simp only [DataW.weights, ht]
        refine List.mem_cons_of_mem _ (List.mem_append_left _ (mem_weightsAll (List.mem_map.2 ⟨y, List.mem_of_getElem? hj, rfl⟩) m hm))))
      refine ⟨x, c, hx, fun i u hu => ?_⟩
      obtain ⟨_, h4, h5⟩ := World.cells?_some h2
      have hi := (List.getElem?_eq_some_iff.1 hu).1
      have := h5 i (by omega)
      rw [add_add, hc] at this
      rw [this]; exact hu
    obtain ⟨ys, hyl, hy⟩ := list_of (fun j _ x => ∃ c, R.rel W (fun k => k < W.heap.size) c x ∧ ∀ i u, c[i]? = some u → W.cell? (a.add (j * R.sz + i)) = some u) elems each
    have hle : ys.length = len := by omega
    refine ⟨ys, some a, cap, by rw [hle], by omega, hcap, ?_, by simp, ?_⟩
    · have h2 : reachBytes ≤ 140737488355328 := by decide
      rw [hyl]; omega
    · by_cases hn : ys = []
      · exact .inl hn
      · have hrow : ∀ j x, ys[j]? = some x → ∃ c, R.rel W (fun k => k < W.heap.size) c x ∧ ∀ i u, c[i]? = some u → W.cell? (a.add (j * R.sz + i)) = some u := by
          intro j x hj
          have hjl := (List.getElem?_eq_some_iff.1 hj).1
          exact hy j _ x (List.getElem?_eq_getElem (by omega)) hj
        refine .inr ⟨a, rfl, ?_, hrow⟩
        obtain ⟨x, l, rfl⟩ := List.exists_cons_of_ne_nil hn
        obtain ⟨c, h1, h2⟩ := hrow 0 x rfl
        obtain ⟨u, hu⟩ := Rd.cells_ne h1
        have := lt_of_cell (h2 0 u hu)
        rwa [add_block] at this
end Go.Proofs.YtefedalnafjcfaaGreatDoor

namespace Go.Proofs.YtefedalnafjcfaaGreatDoor
open Go.RowKit
set_option linter.unusedVariables false
section
open Go.Extern.Stop Go.Stop Go.Extern
theorem run_eql_iface_nil_nil {P : Program} {ti : TypeId} {ms : Array (String × TypeId)} (hi : P.underlying ti = some (.interface ms)) (w : World) :
    (binOp .eql ti .nilIface .nilIface).run P w = .ok (.bool true) w := by
  have h : ∀ d : Nat, (Op.equalIn (d + 1) ti .nilIface .nilIface).run P w = .ok true w := fun d => by simp [Op.equalIn, run_underlying hi]
  simp only [binOp]
  simp [Op.equal, Op.maxDepth, h 9999]
theorem run_eql_iface_nil_right {P : Program} {ti : TypeId} {ms : Array (String × TypeId)} (tp : TypeId) (v : Value) (hi : P.underlying ti = some (.interface ms)) (w : World) :
    (binOp .eql ti (.iface tp v) .nilIface).run P w = .ok (.bool false) w := by
  have h : ∀ d : Nat, (Op.equalIn (d + 1) ti (.iface tp v) .nilIface).run P w = .ok false w := fun d => by simp [Op.equalIn, run_underlying hi]
  simp only [binOp]
  simp [Op.equal, Op.maxDepth, h 9999]
end
open Go.Sort Go.Lib
theorem tr0 {S : Nat → Prop} {w w1 w2 : World} (h : Mod S w w1) (k : Mod (fun _ => False) w1 w2) : Mod S w w2 := h.trans k (fun _ hk => hk.elim)
/-- strconv's table and its two errors are as the program lays them. -/
structure Env (w : World) : Prop where
  tab : Lib.TabIs Tryz.prog w "internal/strconv.uint64pow10" .u64 Lib.pow10Tab
  syn : ∃ tp p, w.var? Tryz.prog "strconv.ErrSyntax" = some #[.iface tp p]
  rng : ∃ tp p, w.var? Tryz.prog "strconv.ErrRange" = some #[.iface tp p]
theorem g1 : Tryz.prog.globalNamed "internal/strconv.uint64pow10" = some 2 := by kernel_rfl
theorem g2 : Tryz.prog.globalNamed "strconv.ErrSyntax" = some 0 := by kernel_rfl
theorem g3 : Tryz.prog.globalNamed "strconv.ErrRange" = some 1 := by kernel_rfl
theorem var_mod {S : Nat → Prop} {w w' : World} {n : String} {g : Nat} {cs : Array Value} (hg : Tryz.prog.globalNamed n = some g) (h : w.var? Tryz.prog n = some cs) (hm : Mod S w w') (hS : ¬ S g) : w'.var? Tryz.prog n = some cs := by
  unfold World.var? at h ⊢
  rw [hg] at h ⊢
  have hlt : g < w.heap.size := by
    by_cases hb : g < w.heap.size
    · exact hb
    · have : w.heap[g]? = none := by simp; omega
      simp [this] at h
  simpa [hm.block g hlt hS] using h
theorem Env.mod {S : Nat → Prop} {w w' : World} (h : Env w) (hm : Mod S w w') (hS : ∀ k, S k → 10 ≤ k) : Env w' := by
  obtain ⟨a, ⟨t, p, b⟩, ⟨t2, p2, c⟩⟩ := h
  have k : ∀ g : Nat, g < 10 → ¬ S g := fun g hg hs => by have := hS g hs; omega
  exact ⟨var_mod g1 a hm (k _ (by decide)), ⟨t, p, var_mod g2 b hm (k _ (by decide))⟩, ⟨t2, p2, var_mod g3 c hm (k _ (by decide))⟩⟩
theorem Env.mod0 {w w' : World} (h : Env w) (hm : Mod (fun _ => False) w w') : Env w' := h.mod hm (fun _ hk => hk.elim)
/-- The number that a text names, up to `most`. -/
def numB (s : List UInt8) (most : Int) : Option Int := match Lib.atoiAll s with
  | .ok v => if 0 ≤ v ∧ v ≤ most ∧ Lib.itoa v = s then some v else none
  | _ => none
theorem parse_app : ∀ (a b : List UInt8) (acc : Nat), Lib.parseUint10 acc (a ++ b) = match Lib.parseUint10 acc a with | .ok u => Lib.parseUint10 u b | e => e
  | [], b, acc => by simp [Lib.parseUint10]
  | c :: a, b, acc => by
    simp only [List.cons_append, Lib.parseUint10]
    split
    · split
      · rfl
      · split
        · rfl
        · exact parse_app a b _
    · rfl
theorem parse_dec (u : Nat) (hu : u < 9223372036854775808) : Lib.parseUint10 0 (Lib.decDigits u) = .ok u := by
  have one : ∀ d, d < 10 → (UInt8.ofNat (48 + d)).toNat = 48 + d := fun d hd => by simp; omega
  rw [Lib.decDigits]
  split
  · rename_i h
    simp only [Lib.parseUint10, one u h]
    rw [if_pos (by omega), if_neg (by omega), if_neg (by omega)]
    simp
  · rename_i h
    rw [parse_app, parse_dec (u / 10) (by omega)]
    simp only [Lib.parseUint10, one (u % 10) (by omega)]
    rw [if_pos (by omega), if_neg (by omega), if_neg (by omega)]
    congr 1; omega
theorem dec_head (u : Nat) : ∃ c r, Lib.decDigits u = c :: r ∧ 48 ≤ c.toNat ∧ c.toNat ≤ 57 := by
  have one : ∀ d, d < 10 → (UInt8.ofNat (48 + d)).toNat = 48 + d := fun d hd => by simp; omega
  rw [Lib.decDigits]
  split
  · rename_i h
    exact ⟨_, _, rfl, by rw [one u h]; omega, by rw [one u h]; omega⟩
  · obtain ⟨c, r, h1, h2, h3⟩ := dec_head (u / 10)
    exact ⟨c, r ++ _, by rw [h1]; rfl, h2, h3⟩
theorem atoi_itoa (v : Int) (h0 : 0 ≤ v) (h1 : v < 9223372036854775808) : Lib.atoiAll (Lib.itoa v) = .ok v := by
  obtain ⟨u, rfl⟩ : ∃ u : Nat, v = u := ⟨v.toNat, by omega⟩
  rw [Lib.itoa_nonneg]
  obtain ⟨c, r, h, h2, h3⟩ := dec_head u
  have hp := parse_dec u (by omega)
  rw [h] at hp ⊢
  rw [Lib.atoiAll_plain c r (by omega) (by omega)]
  unfold Lib.parseMag
  rw [if_neg (by simp), hp]
  simp only [Lib.signless]
  rw [if_neg (by omega)]
theorem numB_some {s : List UInt8} {most v : Int} : numB s most = some v → 0 ≤ v ∧ v ≤ most ∧ Lib.itoa v = s := by
  unfold numB
  split
  · split
    · intro h; cases h; assumption
    · intro h; cases h
  · intro h; cases h
theorem numB_itoa (v most : Int) (h0 : 0 ≤ v) (h1 : v ≤ most) (hm : most < 9223372036854775808) : numB (Lib.itoa v) most = some v := by
  unfold numB
  rw [atoi_itoa v h0 (by omega)]
  simp [h0, h1]
set_option maxRecDepth 100000 in
set_option maxHeartbeats 1000000 in
theorem number_any (s : ByteArray) (most : Int) (h0 : 0 ≤ most) (hm : most < 9223372036854775808) (hs : s.size ≤ 281474976710656) (w : World) (E : Env w) :
    Calls Tryz.prog 150 #[.string s, .int .i64 most] w fun r w' => ∃ n, r = .returned (.tuple #[.int .i64 n, .bool (numB s.data.toList most).isSome]) ∧ (∀ v, numB s.data.toList most = some v → n = v) ∧ Mod (fun _ => False) w w' := by
  go_enter Tryz.func150, Tryz.ntmps150
  rcases ha : Lib.atoiAll s.data.toList with v | _ | _
  ·
    have hb := Lib.atoiAll_bounds ha
    go_wp2_with fail
    refine (Tryz.strconv_Atoi_ok s (by omega) v ha w).mono ?_
    rintro e w1 ⟨rfl, hw⟩
    have hm1 : Mod (fun _ => False) w w1 := by
      rcases hw with rfl | ⟨t, rfl⟩
      · exact .refl _ _
      · exact .of_below (Go.Joins.below_bytesWorld _ _ _ _ (Nat.le_refl _))
    have q0 := run_eql_iface_nil_nil (P := Tryz.prog) (ti := 73) Tryz.underlying73
    have E1 := Lib.hid (And.intro (E.mod0 hm1) hm1); clear hw hm1 E
    by_cases c1 : 0 ≤ v
    · by_cases c2 : v ≤ most
      · go_wp2_with fail
        refine (Tryz.strconv_Itoa v hb.1 hb.2 w1 E1.out.1.tab).mono ?_
        rintro e w2 ⟨rfl, k, os, hw⟩
        have hm2 : Mod (fun _ => False) w w2 := tr0 E1.out.2 (by rw [hw]; exact .of_below (Go.Lib.below_grow _ _ (Nat.le_refl _) k os))
        have H2 := Lib.hid hm2; clear hm2 hw E1
        go_wp2_with fail
        go_ret2
        have hN : numB s.data.toList most = if itoa v = s.data.toList then some v else none := by unfold numB; rw [ha]; simp [c1, c2]
        refine ⟨v, ?_, ?_, H2.out⟩
        · rw [hN]
          by_cases he : itoa v = s.data.toList
          · simp [he, ByteArray.toList_eq]
          · simp [he, ByteArray.toList_eq]
        · rw [hN]; intro x hx; split at hx
          · exact Option.some.inj hx
          · cases hx
      · have c2' : decide (v ≤ most) = false := by simp; omega
        go_wp2_with fail
        go_ret2
        have hN : numB s.data.toList most = none := by unfold numB; rw [ha]; simp; intro _ h; omega
        exact ⟨v, by rw [hN]; rfl, by rw [hN]; (intro x hx; cases hx), E1.out.2⟩
    · have c1' : decide (0 ≤ v) = false := by simp; omega
      go_wp2_with fail
      go_ret2
      have hN : numB s.data.toList most = none := by unfold numB; rw [ha]; simp; intro h; omega
      exact ⟨v, by rw [hN]; rfl, by rw [hN]; (intro x hx; cases hx), E1.out.2⟩
  ·
    obtain ⟨tp, p, hv⟩ := E.syn
    go_wp2_with fail
    refine (Tryz.strconv_Atoi_syntax_var s hs ha tp p w hv).mono ?_
    rintro e w1 ⟨N, rfl, -, -, hb⟩
    have H1 := Lib.hid (Mod.of_below (S := fun _ => False) hb); clear hb
    have q1 := fun t u => run_eql_iface_nil_right (P := Tryz.prog) (ti := 73) t u Tryz.underlying73
    go_wp2_with fail
    go_ret2
    have hN : numB s.data.toList most = none := by unfold numB; rw [ha]
    exact ⟨_, by rw [hN]; rfl, by rw [hN]; (intro x hx; cases hx), H1.out⟩
  ·
    obtain ⟨tp, p, hv⟩ := E.rng
    go_wp2_with fail
    refine (Tryz.strconv_Atoi_range_var s hs ha tp p w hv).mono ?_
    rintro e w1 ⟨N, rfl, -, -, hb⟩
    have H1 := Lib.hid (Mod.of_below (S := fun _ => False) hb); clear hb
    have q1 := fun t u => run_eql_iface_nil_right (P := Tryz.prog) (ti := 73) t u Tryz.underlying73
    go_wp2_with fail
    go_ret2
    have hN : numB s.data.toList most = none := by unfold numB; rw [ha]
    exact ⟨_, by rw [hN]; rfl, by rw [hN]; (intro x hx; cases hx), H1.out⟩
end Go.Proofs.YtefedalnafjcfaaGreatDoor

namespace Go.Proofs.YtefedalnafjcfaaGreatDoor
open Go.RowKit
set_option linter.unusedVariables false
/-- What an iterator with its state in block Bs may turn, and what the statement's own records are: that block, and what is no cells and new since the world of size N. -/
def MayTurn (Bs N : Nat) (W : World) (k : Nat) : Prop := k = Bs ∨ (N ≤ k ∧ ∃ o, W.heap[k]? = some o ∧ o.isCells = false)
theorem mod_putObj {S : Nat → Prop} {W : World} {l : Nat} (h : S l) (o : Obj) : Mod S W (W.putObj l o) :=
  (Mod.refl S W).grown (grownBy_putObj' W l o) (fun k hk => .inl (by cases hk; exact h))
theorem mod_weaken {S T : Nat → Prop} {A B : World} (h : Mod S A B) (hs : ∀ k, S k → T k) : Mod T A B := (Mod.refl T A).trans h (fun k hk => .inl (hs k hk))
/-- The statement's two blocks: the record of the loop, the block of the rounds' deferred calls. -/
structure RecAt (W : World) (l D : Nat) (r : Loop) : Prop where
  loop : W.heap[l]? = some (.loop r)
  defs : W.heap[D]? = some (.deferred (some []))
theorem RecAt.mod {S : Nat → Prop} {A B : World} {l D : Nat} {r : Loop} (h : RecAt A l D r) (hm : Mod S A B) (hl : ¬ S l) (hD : ¬ S D) : RecAt B l D r :=
  ⟨(hm.block l (Array.getElem?_eq_some_iff.1 h.loop).1 hl).trans h.loop, (hm.block D (Array.getElem?_eq_some_iff.1 h.defs).1 hD).trans h.defs⟩
theorem RecAt.keeps {A B : World} {l D : Nat} {r : Loop} (h : RecAt A l D r) (hk : KeepsOthers A B) : RecAt B l D r := ⟨hk.same _ _ h.loop rfl, hk.same _ _ h.defs rfl⟩
theorem RecAt.put {A : World} {l D : Nat} {r : Loop} (h : RecAt A l D r) (r' : Loop) (hne : D ≠ l) : RecAt (A.putObj l (.loop r')) l D r' :=
  ⟨World.putObj_heap_same (Array.getElem?_eq_some_iff.1 h.loop).1, (World.putObj_heap_other hne).trans h.defs⟩
/-- WHAT THE ITERATOR PROMISES, from world W on: xs in their order, its state in block Bs; a round keeps the blocks `own`. -/
def SeqSt {α : Type} (F : Fence) (n : Nat) (P : Program) (g : Nat) (lb : Array Value) (enc : α → Value) (Bs : Nat) (own : Nat → Prop) (xs : List α) (W : World) : Prop :=
  ∀ (l : Nat) (J Jx : List α → World → Prop), (∀ pre A B, J pre A → Mod (fun k => k = Bs) A B → J pre B) → (∀ pre A B, Jx pre A → Mod (fun k => k = Bs) A B → Jx pre B) →
    (∀ pre x A, J pre A → pre ++ [x] <+: xs → YieldAt F (n - 1) P l #[enc x] A fun e B => (e = .returned (.bool true) ∧ J (pre ++ [x]) B ∧ Mod (fun k => ¬ own k) A B) ∨ (e = .returned (.bool false) ∧ Jx (pre ++ [x]) B)) →
    J [] W → CallsIn F n P g (#[.func (.yield l) #[] #[]] ++ lb) W fun e B => (∃ v, e = .returned v) ∧ (J xs B ∨ ∃ pre, pre <+: xs ∧ Jx pre B)
/-- How a round's body may be left. -/
def roundLeft {α : Type} (own : Nat → Prop) (I : List α → World → Prop) (Ix : Code → List α → World → Prop) (xs : List α) (A : World) : Exit → Act → World → Prop
  | .normal, _, B => KeepsOthers A B ∧ Mod (fun k => ¬ own k) A B ∧ I xs B
  | .ret, _, B => KeepsOthers A B ∧ Ix .ret xs B
  | .exit id, _, B => KeepsOthers A B ∧ Ix (.exit id) xs B
  | .goto t, _, B => KeepsOthers A B ∧ Ix (.goto t) xs B
  | .panic _, _, _ => False
  | .outgrown, _, _ => False
theorem wpIn_range_state {α : Type} {F : Fence} {n : Nat} {P : Program} {g : Operand} {p : Tmp} {assign body : Code} {Q : Exit → Act → World → Prop} {a : Act} {w : World}
    (hro : F.round = none) (h1 : 1 ≤ n) {gf : Nat} {lb : Array Value} (hg : a.eval g = .func (.func gf) #[] lb) (hFg : F.fn gf) (eg : ∀ args w, (callFunc gf args).run P w = .ok (.enter gf args) w)
    {enc : α → Value} {Bs : Nat} {own : Nat → Prop} {xs : List α} (hBs : Bs < w.heap.size) (hn0 : ∀ k, own k → k < w.heap.size) (hseq : ∀ W, Mod (fun _ => False) w W → SeqSt F (n - 1) P gf lb enc Bs own xs W)
    (I : List α → World → Prop) (Ix : Code → List α → World → Prop) (hI : ∀ pre A B, I pre A → Mod (MayTurn Bs w.heap.size A) A B → I pre B) (hIx : ∀ c pre A B, Ix c pre A → Mod (MayTurn Bs w.heap.size A) A B → Ix c pre B) (h0 : I [] w) (a₁ : α → Act)
    (hassign : ∀ (l : Nat) (x : α) (W : World) (K : Act → World → Prop), K (a₁ x) W → assign.wpIn (F.inRound l) (n - 1 - 1) P (Exit.then K (fun _ _ _ => False)) { tmps := a.tmps.setIfInBounds p (enc x), defers := [] } W)
    (hbody : ∀ (l : Nat) (pre : List α) (x : α) (W : World), I pre W → pre ++ [x] <+: xs → body.wpIn (F.inRound l) (n - 1 - 1) P (roundLeft own I Ix (pre ++ [x]) W) (a₁ x) W)
    (hdone : ∀ (D : Nat) (W : World), w.heap.size ≤ D → I xs W → W.heap[D]? = some (.deferred (some [])) → Q .normal { a with defers := { target := .collected D, args := #[] } :: a.defers } W)
    (hstop : ∀ (D : Nat) (c : Code) (pre : List α) (W : World), w.heap.size ≤ D → pre <+: xs → Ix c pre W → W.heap[D]? = some (.deferred (some [])) → c.wpIn F n P Q { a with defers := { target := .collected D, args := #[] } :: a.defers } W) :
    (Code.rangeFunc g #[p] assign body).wpIn F n P Q a w := by
  refine wpIn_rangeFunc fun fn hfn => ?_
  rw [hro]
  obtain ⟨D, hD⟩ : ∃ D, D = w.heap.size := ⟨_, rfl⟩
  obtain ⟨l, hl⟩ : ∃ l, l = w.heap.size + 1 := ⟨_, rfl⟩
  obtain ⟨rc, hrc⟩ : ∃ rc : LoopState → Option Code → Loop, rc = fun st pe => { state := st, pending := pe, fn, tmps := a.tmps, params := #[p], assign, body, defers := D } := ⟨_, rfl⟩
  obtain ⟨W1, hW1⟩ : ∃ W1, W1 = (w.alloc (.deferred (some []))).alloc (.loop (rc .ready none)) := ⟨_, rfl⟩
  have hDl : D ≠ l := by omega
  have hm1 : Mod (fun _ => False) w W1 := by rw [hW1]; exact ((Mod.refl _ w).alloc _).alloc _
  have hR1 : RecAt W1 l D (rc .ready none) := by
    rw [hW1]
    constructor
    · have := World.alloc_heap_new (w.alloc (.deferred (some []))) (.loop (rc .ready none))
      rw [World.size_alloc] at this
      rw [hl]; exact this
    · rw [hD]; exact (Below.heap_alloc _ _ _ (by simp)).trans (World.alloc_heap_new w _)
  have hlB : l ≠ Bs := by omega
  have hDB : D ≠ Bs := by omega
  have turn : ∀ {pre : List α} {A : World} {r : Loop} (o : Obj), I pre A → RecAt A l D r → I pre (A.putObj l o) := fun o hi hr => hI _ _ _ hi (mod_putObj (.inr ⟨by omega, _, hr.loop, rfl⟩) o)
  have turnx : ∀ {c : Code} {pre : List α} {A : World} {r : Loop} (o : Obj), Ix c pre A → RecAt A l D r → Ix c pre (A.putObj l o) := fun o hi hr => hIx _ _ _ _ hi (mod_putObj (.inr ⟨by omega, _, hr.loop, rfl⟩) o)
  have hol : ¬ own l := fun h => by have := hn0 l h; omega
  have below : ∀ {A : World} {r : Loop} (o : Obj), RecAt A l D r → Mod (fun k => ¬ own k) A (A.putObj l o) := fun o hr => mod_putObj hol o
  refine ⟨l, [{ target := .collected D, args := #[] }], W1, { target := .fn (.func gf) lb, args := #[.func (.yield l) #[] #[]] }, W1, gf, #[.func (.yield l) #[] #[]] ++ lb, W1, ?_, ?_, ?_, ?_, fun _ => h1, ?_⟩
  · rw [hW1, hrc, hl, hD]; exact run_enterLoop_outer _ _ _ _ _
  · simp only [resolve, hg]
    simp [go_sem]
  · intro f' hf'; simp [Target.leads] at hf'; subst hf'; exact hFg
  · simp [invoke, go_sem, eg]
  refine (hseq W1 hm1 l (fun pre W => I pre W ∧ RecAt W l D (rc .ready none)) (fun pre W => ∃ c, Ix c pre W ∧ RecAt W l D (rc .done (some c)))
    (fun pre A B hs hm => ⟨hI _ _ _ hs.1 (mod_weaken hm fun k hk => .inl hk), hs.2.mod hm hlB hDB⟩)
    (fun pre A B ⟨c, hs, hr⟩ hm => ⟨c, hIx _ _ _ _ hs (mod_weaken hm fun k hk => .inl hk), hr.mod hm hlB hDB⟩) ?_ ⟨hI _ _ _ h0 (mod_weaken hm1 fun k hk => hk.elim), hR1⟩).mono ?_
  · rintro pre x A ⟨hi, hr⟩ hpre
    have hy := run_yield (P := P) (args := #[enc x]) hr.loop (by rw [hrc]; rfl)
    rw [hrc] at hy
    have hr2 := hr.put { rc .ready none with state := .busy } hDl
    refine ⟨fn, _, assign, body, hy, roundIn_of_wpIn hfn ?_⟩
    have hz : Array.foldl (fun tmps (x : Tmp × Value) => match x with | (t, a) => tmps.setIfInBounds t a) a.tmps (#[p].zip #[enc x]) = a.tmps.setIfInBounds p (enc x) := by simp
    dsimp only
    rw [hz]
    refine hassign l x A _ ?_
    refine ⟨_, run_beginRound hr.loop (by rw [hrc]), ?_⟩
    refine wpIn_mono (hbody l pre x _ (turn _ hi hr) hpre) ?_
    have leave : ∀ (j : Option Code) (B : World), KeepsOthers (A.putObj l (.loop { rc .ready none with state := .busy })) B → RecAt B l D { rc .ready none with state := .busy } ∧
        (Instr.endRound l j).run P B = .ok (.bool j.isNone) (B.putObj l (.loop (rc (if j.isNone then .ready else .done) j))) := fun j B hk => by
      have h3 := hr2.keeps hk
      refine ⟨h3, ?_⟩
      have := run_endRound (P := P) j h3.loop
      rw [hrc] at this ⊢
      exact this
    rintro e a3 B hp
    cases e with
    | normal =>
      obtain ⟨hk, hb, hi3⟩ := hp
      obtain ⟨h3, hrun⟩ := leave none B hk
      exact ⟨_, _, hrun, .inl ⟨rfl, ⟨turn _ hi3 h3, h3.put _ hDl⟩, ((below _ hr).trans hb (fun k hk => .inl hk)).trans (below _ h3) (fun k hk => .inl hk)⟩⟩
    | ret =>
      obtain ⟨hk, hi3⟩ := hp
      obtain ⟨h3, hrun⟩ := leave (some .ret) B hk
      exact ⟨_, _, hrun, .inr ⟨rfl, .ret, turnx _ hi3 h3, h3.put _ hDl⟩⟩
    | exit id =>
      obtain ⟨hk, hi3⟩ := hp
      obtain ⟨h3, hrun⟩ := leave (some (.exit id)) B hk
      exact ⟨_, _, hrun, .inr ⟨rfl, .exit id, turnx _ hi3 h3, h3.put _ hDl⟩⟩
    | goto t =>
      obtain ⟨hk, hi3⟩ := hp
      obtain ⟨h3, hrun⟩ := leave (some (.goto t)) B hk
      exact ⟨_, _, hrun, .inr ⟨rfl, .goto t, turnx _ hi3 h3, h3.put _ hDl⟩⟩
    | panic ch => exact hp.elim
    | outgrown => exact hp.elim
  · rintro e B ⟨⟨v, rfl⟩, hfin⟩
    rcases hfin with ⟨hi, hr⟩ | ⟨pre, hpre, c, hi, hr⟩
    · have hrun := run_endLoop (P := P) hr.loop (by rw [hrc]; simp)
      exact ⟨none, _, by rw [hrc] at hrun; exact hrun, hdone D _ (by omega) (turn _ hi hr) ((World.putObj_heap_other hDl).trans hr.defs)⟩
    · have hrun := run_endLoop (P := P) hr.loop (by rw [hrc]; simp)
      exact ⟨some c, _, by rw [hrc] at hrun; exact hrun, hstop D c pre _ (by omega) hpre (turnx _ hi hr) ((World.putObj_heap_other hDl).trans hr.defs)⟩
end Go.Proofs.YtefedalnafjcfaaGreatDoor

