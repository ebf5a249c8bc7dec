/- Kinds of data: what a value's cells read as, in a world, out of which blocks. Integers, bools, strings, slices, values in line. No program in it. -/
import Derived.Test.YtlimjdejcjgocaaBase
import Derived.ChangeArms
import Derived.DataReads
import Derived.ChangeOld
import Derived.SizedLaws
import Derived.Lib.AppendStr
import Derived.Laws.IdiomStrings
import Derived.Laws.BytesArg
namespace Go.Proofs.Ytlimjdejcjgocaa
open Go.RowKit
set_option linter.unusedVariables false
theorem add_add (a : Addr) (m n : Nat) : (a.add m).add n = a.add (m + n) := by
  unfold Addr.add
  by_cases hm : m = 0 <;> by_cases hn : n = 0 <;> simp [hm, hn, Nat.add_assoc]
/-- A field's address as the walk spells it. -/
theorem add_field (ad : Addr) (m j : Nat) (hj : 0 < j) : ad.add (m + j) = ⟨(ad.add m).block, (ad.add m).off + j, none⟩ := by
  unfold Addr.add
  by_cases hm : m = 0
  · subst hm
    simp [Nat.ne_of_gt hj]
  · simp [hm, Nat.add_assoc]
theorem add_block (a : Addr) (m : Nat) : (a.add m).block = a.block := by unfold Addr.add; split <;> rfl
theorem lt_of_cell {w : World} {a : Addr} {v : Value} (h : w.cell? a = some v) : a.block < w.heap.size := World.block_lt_of_cell? w a h
theorem cell_step {w w1 : World} {a : Addr} {v : Value} (h : w.cell? a = some v) (hs : a.block < w.heap.size → w1.heap[a.block]? = w.heap[a.block]?) : w1.cell? a = some v :=
  (World.cell?_of_block (w := w) (hs (lt_of_cell h))).trans h
/-- cs reads as x in w; ok: the blocks in which what is reached may lie. -/
structure Rd (α : Type) where
  sz : Nat
  pos : 0 < sz
  rel : World → (Nat → Prop) → List Value → α → Prop
  len : ∀ {w ok cs x}, rel w ok cs x → cs.length = sz
  one : ∀ {w ok cs x}, rel w ok cs x → ∀ u ∈ cs, u.oneCell' = true
  step : ∀ {w w1 : World} {ok ok1 : Nat → Prop} {cs x}, (∀ k, ok k → k < w.heap.size → ok1 k ∧ w1.heap[k]? = w.heap[k]?) → rel w ok cs x → rel w1 ok1 cs x
namespace Rd
variable {α : Type}
/-- The cells at A on read as xs. -/
def RowOf (R : Rd α) (w : World) (ok : Nat → Prop) (A : Option Addr) (xs : List α) : Prop :=
  xs = [] ∨ ∃ ad, A = some ad ∧ ok ad.block ∧ ∀ j x, xs[j]? = some x → ∃ c, R.rel w ok c x ∧ ∀ i u, c[i]? = some u → w.cell? (ad.add (j * R.sz + i)) = some u
theorem cells_ne {R : Rd α} {w : World} {ok : Nat → Prop} {c : List Value} {x : α} (h : R.rel w ok c x) : ∃ u, c[0]? = some u := by
  have := R.len h
  have := R.pos
  exact ⟨c[0], List.getElem?_eq_getElem (by omega)⟩
theorem RowOf.step {R : Rd α} {w w1 : World} {ok ok1 : Nat → Prop} {A : Option Addr} {xs : List α} (h : R.RowOf w ok A xs) (hs : ∀ k, ok k → k < w.heap.size → ok1 k ∧ w1.heap[k]? = w.heap[k]?) : R.RowOf w1 ok1 A xs := by
  rcases h with h | ⟨ad, hA, hok, h⟩
  · exact .inl h
  · by_cases hx : xs = []
    · exact .inl hx
    · have hlt : ad.block < w.heap.size := by
        obtain ⟨x, l, rfl⟩ := List.exists_cons_of_ne_nil hx
        obtain ⟨c, h1, h2⟩ := h 0 x rfl
        obtain ⟨u, hu⟩ := cells_ne h1
        have := lt_of_cell (h2 0 u hu)
        rwa [add_block] at this
      refine .inr ⟨ad, hA, (hs _ hok hlt).1, fun j x hj => ?_⟩
      obtain ⟨c, h1, h2⟩ := h j x hj
      exact ⟨c, R.step hs h1, fun i u hu => cell_step (h2 i u hu) (fun _ => by rw [add_block]; exact (hs _ hok hlt).2)⟩
theorem RowOf.at_ {R : Rd α} {w : World} {ok : Nat → Prop} {A : Option Addr} {xs : List α} (h : R.RowOf w ok A xs) {j : Nat} {x : α} (hj : xs[j]? = some x) :
    ∃ ad c, A = some ad ∧ ok ad.block ∧ R.rel w ok c x ∧ ∀ i u, c[i]? = some u → w.cell? (ad.add (j * R.sz + i)) = some u := by
  rcases h with rfl | ⟨ad, hA, hok, h⟩
  · simp at hj
  · obtain ⟨c, h1, h2⟩ := h j x hj
    exact ⟨ad, c, hA, hok, h1, h2⟩
def inR (k : IntKind) (x : Int) : Prop := (Lit.int k x).wf = true
def int (k : IntKind) : Rd Int where
  sz := 1
  pos := by decide
  rel := fun _ _ cs x => cs = [.int k x] ∧ inR k x
  len := by rintro _ _ _ _ ⟨rfl, _⟩; rfl
  one := by rintro _ _ _ _ ⟨rfl, _⟩ u hu; rw [List.mem_singleton.1 hu]; rfl
  step := fun _ h => h
def byte : Rd UInt8 where
  sz := 1
  pos := by decide
  rel := fun _ _ cs x => cs = [.int .u8 (x.toNat : Int)]
  len := by rintro _ _ _ _ rfl; rfl
  one := by rintro _ _ _ _ rfl u hu; rw [List.mem_singleton.1 hu]; rfl
  step := fun _ h => h
def bool : Rd Bool where
  sz := 1
  pos := by decide
  rel := fun _ _ cs x => cs = [.bool x]
  len := by rintro _ _ _ _ rfl; rfl
  one := by rintro _ _ _ _ rfl u hu; rw [List.mem_singleton.1 hu]; rfl
  step := fun _ h => h
def string : Rd ByteArray where
  sz := 1
  pos := by decide
  rel := fun _ _ cs x => cs = [.string x] ∧ x.size ≤ 140737488355328
  len := by rintro _ _ _ _ ⟨rfl, _⟩; rfl
  one := by rintro _ _ _ _ ⟨rfl, _⟩ u hu; rw [List.mem_singleton.1 hu]; rfl
  step := fun _ h => h
def slice (bytes : Nat) (R : Rd α) : Rd (List α) where
  sz := 1
  pos := by decide
  rel := fun w ok cs xs => ∃ A c, cs = [.slice A xs.length c] ∧ xs.length ≤ c ∧ c ≤ maxLen ∧ xs.length * bytes ≤ 140737488355328 ∧ (A = none → c = 0) ∧ R.RowOf w ok A xs
  len := by rintro _ _ _ _ ⟨A, c, rfl, _⟩; rfl
  one := by rintro _ _ _ _ ⟨A, c, rfl, _⟩ u hu; rw [List.mem_singleton.1 hu]; rfl
  step := fun hs ⟨A, c, h1, h2, h3, h4, h5, h6⟩ => ⟨A, c, h1, h2, h3, h4, h5, h6.step hs⟩
/-- Two in line. -/
def pair {β : Type} (a : Rd α) (b : Rd β) : Rd (α × β) where
  sz := a.sz + b.sz
  pos := by have := a.pos; omega
  rel := fun w ok cs x => ∃ c0 c1, cs = c0 ++ c1 ∧ a.rel w ok c0 x.1 ∧ b.rel w ok c1 x.2
  len := by rintro _ _ _ _ ⟨c0, c1, rfl, h0, h1⟩; rw [List.length_append, a.len h0, b.len h1]
  one := by
    rintro _ _ _ _ ⟨c0, c1, rfl, h0, h1⟩ u hu
    rcases List.mem_append.1 hu with hu | hu
    · exact a.one h0 u hu
    · exact b.one h1 u hu
  step := fun hs ⟨c0, c1, h, h0, h1⟩ => ⟨c0, c1, h, a.step hs h0, b.step hs h1⟩
/-- A structure by its fields. -/
def iso {β : Type} (d : Rd α) (f : β → α) : Rd β where
  sz := d.sz
  pos := d.pos
  rel := fun w ok cs x => d.rel w ok cs (f x)
  len := d.len
  one := d.one
  step := d.step
theorem mono {R : Rd α} {w : World} {ok ok1 : Nat → Prop} {cs : List Value} {x : α} (h : R.rel w ok cs x) (hk : ∀ k, ok k → ok1 k) : R.rel w ok1 cs x := R.step (fun k h _ => ⟨hk k h, rfl⟩) h
theorem bound {R : Rd α} {w : World} {ok : Nat → Prop} {cs : List Value} {x : α} (h : R.rel w ok cs x) : R.rel w (fun k => ok k ∧ k < w.heap.size) cs x := R.step (fun _ h hl => ⟨⟨h, hl⟩, rfl⟩) h
theorem mod {R : Rd α} {S : Nat → Prop} {w w1 : World} {ok : Nat → Prop} {cs : List Value} {x : α} (h : R.rel w ok cs x) (hm : Mod S w w1) (hd : ∀ k, ok k → ¬ S k) : R.rel w1 ok cs x :=
  R.step (fun k ho hl => ⟨ho, hm.block k hl (hd k ho)⟩) h
theorem below {R : Rd α} {B : Nat} {w w1 : World} {ok : Nat → Prop} {cs : List Value} {x : α} (h : R.rel w ok cs x) (hm : Below B w w1) (hd : ∀ k, ok k → k < B) : R.rel w1 ok cs x :=
  R.step (fun k ho _ => ⟨ho, hm.block k (hd k ho)⟩) h
end Rd
theorem take_one {cs : List Value} {o : Nat} {v : Value} (h : (cs.drop o).take 1 = [v]) : cs[o]? = some v := by
  have : ((cs.drop o).take 1)[0]? = some v := by rw [h]; rfl
  rw [List.getElem?_take_of_lt (by decide), List.getElem?_drop] at this
  simpa using this
/-! ### rows of the call's own -/
/-- v owns a row of xs (elements of type e); the elements lie in S's blocks, none in v's own. -/
def OwnR {α : Type} (R : Rd α) (e : TypeId) (w : World) (base : Nat) (S : Nat → Prop) (v : Value) (xs : List α) : Prop :=
  ∃ cells, w.ownsRow base e R.sz v xs.length cells ∧ ∀ j x, xs[j]? = some x → R.rel w (fun k => S k ∧ some k ≠ v.ownBlock) ((cells.drop (j * R.sz)).take R.sz) x
theorem OwnR.nil {α : Type} (R : Rd α) (e : TypeId) (w : World) (base : Nat) (S : Nat → Prop) : OwnR R e w base S (.slice none 0 0) [] := ⟨[], World.ownsRow_nil w base e R.sz, fun j x h => by simp at h⟩
theorem own_lt {w : World} {base : Nat} {e : TypeId} {size n : Nat} {v : Value} {xs : List Value} (h : w.ownsRow base e size v n xs) (k : Nat) (hk : v.ownBlock = some k) : base ≤ k ∧ k < w.heap.size := h.lt k hk
theorem OwnR.step {α : Type} {R : Rd α} {e : TypeId} {w w1 : World} {base : Nat} {S S1 : Nat → Prop} {v : Value} {xs : List α} (h : OwnR R e w base S v xs)
    (hv : ∀ k, v.ownBlock = some k → w1.heap[k]? = w.heap[k]?) (hs : ∀ k, S k → some k ≠ v.ownBlock → k < w.heap.size → S1 k ∧ w1.heap[k]? = w.heap[k]?) : OwnR R e w1 base S1 v xs := by
  obtain ⟨cells, h1, h2⟩ := h
  exact ⟨cells, own_move h1 hv, fun j x hj => R.step (fun k hk hl => ⟨⟨(hs k hk.1 hk.2 hl).1, hk.2⟩, (hs k hk.1 hk.2 hl).2⟩) (h2 j x hj)⟩
theorem OwnR.mod {α : Type} {R : Rd α} {e : TypeId} {T : Nat → Prop} {w w1 : World} {base : Nat} {S : Nat → Prop} {v : Value} {xs : List α} (h : OwnR R e w base S v xs) (hm : Mod T w w1)
    (hv : ∀ k, v.ownBlock = some k → ¬ T k) (hs : ∀ k, S k → some k ≠ v.ownBlock → ¬ T k) : OwnR R e w1 base S v xs :=
  h.step (fun k hk => hm.block k (by obtain ⟨c, h1, _⟩ := h; exact (own_lt h1 k hk).2) (hv k hk)) (fun k hk hn hl => ⟨hk, hm.block k hl (hs k hk hn)⟩)
theorem OwnR.reads {α : Type} {R : Rd α} {e : TypeId} {w : World} {base : Nat} {S : Nat → Prop} {v : Value} {xs : List α} (h : OwnR R e w base S v xs) {bytes : Nat} (hb : xs.length * bytes ≤ 140737488355328) :
    (Rd.slice bytes R).rel w (fun k => S k ∨ v.ownBlock = some k) [v] xs := by
  obtain ⟨cells, h1, h2⟩ := h
  obtain ⟨h0, h1'⟩ := h1
  rcases h1' with ⟨rfl, hn⟩ | ⟨g, cap, cur, rfl, hg, hh, r1, r2, r3, r4⟩
  · have : xs = [] := List.eq_nil_of_length_eq_zero hn
    subst this
    exact ⟨none, 0, rfl, Nat.le_refl _, by decide, by simp, fun _ => rfl, .inl rfl⟩
  · refine ⟨_, cap, rfl, r1, r2, hb, by simp, .inr ⟨_, rfl, .inr rfl, fun j x hj => ⟨_, Rd.mono (h2 j x hj) (fun k hk => .inl hk.1), fun i u hu => ?_⟩⟩⟩
    have hc := World.ownsRow.cells (w := w) (base := base) (e := e) (size := R.sz) (n := xs.length) (xs := cells) ⟨h0, .inr ⟨g, cap, cur, rfl, hg, hh, r1, r2, r3, r4⟩⟩ (g := g) rfl (j * R.sz + i) u
    refine hc ?_
    rw [List.getElem?_take] at hu
    split at hu
    · rwa [List.getElem?_drop] at hu
    · cases hu
/-- one more at the row's end -/
theorem OwnR.snoc {α : Type} {R : Rd α} {e : TypeId} {w w1 : World} {base : Nat} {S : Nat → Prop} {v v1 : Value} {xs : List α} {x : α} {cells cs : List Value}
    (h : ∀ j x, xs[j]? = some x → R.rel w (fun k => S k ∧ some k ≠ v.ownBlock) ((cells.drop (j * R.sz)).take R.sz) x) (hl : cells.length = xs.length * R.sz)
    (hx : R.rel w (fun k => S k ∧ some k ≠ v.ownBlock) cs x) (ho : w1.ownsRow base e R.sz v1 (xs.length + 1) (cells ++ cs)) (hg : w.grownBy w1 v.ownBlock) (hn : NewOr w v v1) : OwnR R e w1 base S v1 (xs ++ [x]) := by
  have hcs := R.len hx
  have hm : ∀ k, (S k ∧ some k ≠ v.ownBlock) → k < w.heap.size → (S k ∧ some k ≠ v1.ownBlock) ∧ w1.heap[k]? = w.heap[k]? := by
    rintro k ⟨hk, hne⟩ hlt
    refine ⟨⟨hk, fun e => ?_⟩, hg.block k hlt hne⟩
    exact hn.ne hlt (fun e2 => hne e2.symm) e.symm
  refine ⟨cells ++ cs, by simpa using ho, fun j y hj => ?_⟩
  rcases Nat.lt_or_ge j xs.length with hj' | hj'
  · rw [List.getElem?_append_left hj'] at hj
    have h1 : j * R.sz + R.sz ≤ cells.length := by rw [hl, ← Nat.succ_mul]; exact Nat.mul_le_mul_right _ hj'
    rw [List.drop_append_of_le_length (by omega), List.take_append_of_le_length (by rw [List.length_drop]; omega)]
    exact R.step hm (h j y hj)
  · have : j = xs.length := by
      have := (List.getElem?_eq_some_iff.1 hj).1
      simp at this; omega
    subst this
    have : x = y := by simpa using hj
    subst this
    rw [← hl, List.drop_left, ← hcs, List.take_length]
    exact R.step hm hx
/-! ### bytes -/
abbrev bytesR : Rd (List UInt8) := Rd.slice 1 Rd.byte
theorem RowOf.bcells {w : World} {ok : Nat → Prop} {A : Option Addr} {xs : List UInt8} (h : Rd.byte.RowOf w ok A xs) (hn : xs ≠ []) :
    ∃ ad, A = some ad ∧ ok ad.block ∧ ∀ j u, (bcells xs)[j]? = some u → w.cell? (ad.add j) = some u := by
  rcases h with h | ⟨ad, h1, h2, h3⟩
  · exact absurd h hn
  · refine ⟨ad, h1, h2, fun j u hu => ?_⟩
    simp only [Go.Proofs.Ytlimjdejcjgocaa.bcells, List.getElem?_map, Option.map_eq_some_iff] at hu
    obtain ⟨x, hx, rfl⟩ := hu
    obtain ⟨c, rfl, hc⟩ := h3 j x hx
    have := hc 0 _ rfl
    rwa [show j * Rd.byte.sz + 0 = j from Nat.mul_one j] at this
theorem own_bytes {w : World} {base : Nat} {e : TypeId} {v : Value} {bs : List UInt8} (h : w.ownsRow base e 1 v bs.length (bcells bs)) : OwnR Rd.byte e w base (fun _ => False) v bs := by
  refine ⟨_, h, fun j x hj => ?_⟩
  show ((bcells bs).drop (j * 1)).take 1 = _
  rw [Nat.mul_one]
  have : (bcells bs)[j]? = some (.int .u8 (x.toNat : Int)) := by simp [bcells, hj]
  have hlt := (List.getElem?_eq_some_iff.1 this).1
  rw [List.drop_eq_getElem_cons hlt]
  simp [(List.getElem?_eq_some_iff.1 this).2]
theorem reads_bytes {w : World} {base : Nat} {e : TypeId} {v : Value} {bs : List UInt8} (h : w.ownsRow base e 1 v bs.length (bcells bs)) (hl : bs.length ≤ 140737488355328) : bytesR.rel w (fun k => v.ownBlock = some k) [v] bs :=
  Rd.mono ((own_bytes h).reads (bytes := 1) (by omega)) (fun k hk => hk.elim False.elim id)
def mkStr (bs : List UInt8) : ByteArray := ⟨bs.toArray⟩
theorem mkStr_size (bs : List UInt8) : (mkStr bs).size = bs.length := by simp [mkStr, ByteArray.size]
theorem mkStr_list (bs : List UInt8) : (mkStr bs).data.toList = bs := by simp [mkStr]
theorem list_mkStr (s : ByteArray) : mkStr s.data.toList = s := by simp [mkStr]
theorem strCells_bcells (s : ByteArray) : Lib.strCells s = bcells s.data.toList := by simp [bcells, Lib.strCells]
/-- string(bytes): a rule for the walk. -/
theorem run_str {P : Program} {w : World} {ok : Nat → Prop} {A : Option Addr} {n c : Nat} {bs : List UInt8} (h : bytesR.rel w ok [.slice A n c] bs) (src dst e : TypeId) (hs : P.underlying src = some (.slice e)) (he : P.underlying e = some (.int .u8)) (hd : P.underlying dst = some .string) :
    (convert src dst (.slice A n c)).run P w = .ok (.string (mkStr bs)) w := by
  obtain ⟨A', c', hv, h2, h3, h4, h5, h6⟩ := h
  simp only [List.cons.injEq, Value.slice.injEq, and_true] at hv
  obtain ⟨rfl, rfl, rfl⟩ := hv
  by_cases hx : bs = []
  · subst hx
    rw [run_convert_bytes_string w src dst e _ _ _ hs he hd]
    cases A <;> simp [Conv.bytesToString, loadCells, loadCellsFrom, mkStr]
    all_goals rfl
  · obtain ⟨ad, rfl, _, hc⟩ := RowOf.bcells h6 hx
    refine run_convert_bytes_back w src dst e ad c bs hs he hd (fun j hj => hc j _ ?_)
    simp [bcells, List.getElem?_eq_getElem hj]
/-! ### slicing what is read -/
section
variable {P : Program} {α : Type} {R : Rd α} {bytes : Nat} {w : World} {ok : Nat → Prop} {A : Option Addr} {n c : Nat} {xs : List α}
theorem RowOf.drop (h : R.RowOf w ok A xs) (l : Nat) (hl : l ≤ xs.length) (hne : ¬ l = c ∨ xs.length ≤ l) : R.RowOf w ok (if c = l then A else A.map (·.add (l * R.sz))) (xs.drop l) := by
  by_cases hd : xs.length ≤ l
  · exact .inl (List.drop_eq_nil_of_le hd)
  · rw [if_neg (fun e => hne.elim (fun h => h e.symm) hd)]
    rcases h with h | ⟨ad, rfl, hok, h⟩
    · subst h; simp at hd
    · refine .inr ⟨ad.add (l * R.sz), rfl, by rw [add_block]; exact hok, fun j x hj => ?_⟩
      rw [List.getElem?_drop] at hj
      obtain ⟨cs, h1, h2⟩ := h (l + j) x hj
      refine ⟨cs, h1, fun i u hu => ?_⟩
      have := h2 i u hu
      rw [add_add, show l * R.sz + (j * R.sz + i) = (l + j) * R.sz + i by rw [Nat.add_mul, Nat.add_assoc]]
      exact this
theorem RowOf.take (h : R.RowOf w ok A xs) (l : Nat) : R.RowOf w ok A (xs.take l) := by
  rcases h with h | ⟨ad, rfl, hok, h⟩
  · subst h; exact .inl (by simp)
  · refine .inr ⟨ad, rfl, hok, fun j x hj => ?_⟩
    rw [List.getElem?_take] at hj
    split at hj
    · exact h j x hj
    · cases hj
/-- xs[l:] -/
theorem slice_from (h : (Rd.slice bytes R).rel w ok [.slice A n c] xs) {t e : TypeId} (ht : P.underlying t = some (.slice e)) {i : TypeInfo} (hi : P.info? e = some i) (hz : i.size = R.sz) (k : IntKind) (l : Int) (h0 : 0 ≤ l) (h1 : l ≤ (xs.length : Int)) :
    ∃ A', (∀ W, (Instr.slice t (.slice A n c) (some (.int k l)) none none).run P W = .ok (.slice A' (n - l.toNat) (c - l.toNat)) W) ∧ (Rd.slice bytes R).rel w ok [.slice A' (n - l.toNat) (c - l.toNat)] (xs.drop l.toNat) := by
  obtain ⟨A0, c0, hv, h2, h3, h4, h5, h6⟩ := h
  simp only [List.cons.injEq, Value.slice.injEq, and_true] at hv
  obtain ⟨rfl, rfl, rfl⟩ := hv
  refine ⟨_, fun W => ?_, _, _, by rw [List.length_drop], by rw [List.length_drop]; omega, by omega, ?_, ?_, RowOf.drop (c := c) h6 l.toNat (by omega) (by omega)⟩
  · have hb : 0 ≤ l ∧ l ≤ (xs.length : Int) := ⟨h0, h1⟩
    simp [Instr.slice, run_underlying ht, Instr.sliceBounds, Instr.sliceBound, asIntOf, hb, sizeOf, typeInfo, hi, hz]
  · rw [List.length_drop]; exact Nat.le_trans (Nat.mul_le_mul_right _ (by omega)) h4
  · intro e
    split at e
    · have := h5 e; omega
    · have := h5 (Option.map_eq_none_iff.1 e); omega
/-- xs[:l] -/
theorem slice_to (h : (Rd.slice bytes R).rel w ok [.slice A n c] xs) {t e : TypeId} (ht : P.underlying t = some (.slice e)) {i : TypeInfo} (hi : P.info? e = some i) (k : IntKind) (l : Int) (h0 : 0 ≤ l) (h1 : l ≤ (xs.length : Int)) :
    ∃ A', (∀ W, (Instr.slice t (.slice A n c) none (some (.int k l)) none).run P W = .ok (.slice A' l.toNat c) W) ∧ (Rd.slice bytes R).rel w ok [.slice A' l.toNat c] (xs.take l.toNat) := by
  obtain ⟨A0, c0, hv, h2, h3, h4, h5, h6⟩ := h
  simp only [List.cons.injEq, Value.slice.injEq, and_true] at hv
  obtain ⟨rfl, rfl, rfl⟩ := hv
  have hl : (xs.take l.toNat).length = l.toNat := by rw [List.length_take]; omega
  refine ⟨if c = 0 then A else A.map (·.add (0 * i.size)), fun W => ?_, _, _, by rw [hl], by rw [hl]; omega, by omega, ?_, ?_, ?_⟩
  · have hb : 0 ≤ l ∧ l ≤ (c : Int) := ⟨h0, by omega⟩
    simp [Instr.slice, run_underlying ht, Instr.sliceBounds, Instr.sliceBound, asIntOf, hb, sizeOf, typeInfo, hi]
  · rw [hl]; exact Nat.le_trans (Nat.mul_le_mul_right _ (by omega)) h4
  · intro e
    split at e
    · exact h5 e
    · exact h5 (Option.map_eq_none_iff.1 e)
  · have : (if c = 0 then A else A.map (·.add (0 * i.size))) = A := by
      split
      · rfl
      · cases A <;> simp [Addr.add]
    rw [this]
    exact RowOf.take h6 _
end
/-! ### arguments: from a reading to a kind -/
/-- A value of type T that is read, and is of bounded weight, is one of the kind. -/
def Opens (P : Program) {α : Type} (R : Rd α) (T : TypeId) : Prop :=
  ∀ (H : Type) (enc : TypeId × Value → H) (W : World) (base : Nat) (spare : Nat → Bool) (held : Bool) (fuel : Nat) (cs : List Value) (d : DataW H × List MemPlace),
    DataW.trod enc P W base spare held fuel T cs = some d → (∀ n ∈ d.1.weights P T, n ≤ reachBytes) → ∃ x, R.rel W (fun k => k < W.heap.size) cs x
theorem opens_int {P : Program} {T : TypeId} {k : IntKind} (ht : P.underlying T = some (.int k)) : Opens P (Rd.int k) T := by
  intro H enc W base spare held fuel cs d h _
  obtain ⟨n, rfl, _, hw⟩ := DataW.trod_int ht h
  exact ⟨n, rfl, hw⟩
theorem opens_byte {P : Program} {T : TypeId} (ht : P.underlying T = some (.int .u8)) : Opens P Rd.byte T := by
  intro H enc W base spare held fuel cs d h _
  obtain ⟨n, rfl, _, hw⟩ := DataW.trod_int ht h
  have hr : 0 ≤ n ∧ n ≤ 255 := by simpa [Lit.wf, IntKind.min, IntKind.max, IntKind.signed, IntKind.bits] using hw
  exact ⟨u8 n, by show _ = _; rw [u8_toNat n hr.1 (by omega)]⟩
theorem opens_bool {P : Program} {T : TypeId} (ht : P.underlying T = some .bool) : Opens P Rd.bool T := by
  intro H enc W base spare held fuel cs d h _
  cases fuel with
  | zero => simp [DataW.trod] at h
  | succ n =>
    unfold DataW.trod at h
    rw [ht] at h
    split at h
    · exact ⟨_, rfl⟩
    all_goals simp_all
theorem opens_string {P : Program} {T : TypeId} (ht : P.underlying T = some .string) : Opens P Rd.string T := by
  intro H enc W base spare held fuel cs d h hw
  obtain ⟨s, rfl, rfl, _⟩ := DataW.trod_string ht h
  refine ⟨s, rfl, ?_⟩
  have := hw s.data.toList.length (by simp [DataW.weights])
  have h2 : reachBytes ≤ 140737488355328 := by decide
  have h3 : s.data.toList.length = s.size := by simp
  omega
theorem mem_weightsAll {H : Type} {P : Program} {e : TypeId} : ∀ {l : List (DataW H)} {d : DataW H}, d ∈ l → ∀ n ∈ d.weights P e, n ∈ DataW.weightsAll P e l
  | x :: l, d, hd, n, hn => by
    rw [DataW.weightsAll]
    rcases List.mem_cons.1 hd with rfl | hd
    · exact List.mem_append_left _ hn
    · exact List.mem_append_right _ (mem_weightsAll hd n hn)
theorem list_of {α β : Type} (p : Nat → α → β → Prop) (l : List α) (h : ∀ j a, l[j]? = some a → ∃ b, p j a b) : ∃ ys : List β, ys.length = l.length ∧ ∀ j a b, l[j]? = some a → ys[j]? = some b → p j a b := by
  induction l generalizing p with
  | nil => exact ⟨[], rfl, fun j a b h => by simp at h⟩
  | cons a l ih =>
    obtain ⟨b, hb⟩ := h 0 a rfl
    obtain ⟨ys, hl, hy⟩ := ih (fun j a b => p (j + 1) a b) (fun j a hj => h (j + 1) a (by simpa using hj))
    refine ⟨b :: ys, by simp [hl], fun j a' b' h1 h2 => ?_⟩
    cases j with
    | zero => simp at h1 h2; subst h1; subst h2; exact hb
    | succ j => exact hy j a' b' (by simpa using h1) (by simpa using h2)
theorem opens_slice {P : Program} {T e : TypeId} {bytes : Nat} {α : Type} {R : Rd α} (ht : P.underlying T = some (.slice e)) (hb : P.bytesOf e = bytes) (hc : P.cellsOf e = R.sz) (hR : Opens P R e) : Opens P (Rd.slice bytes R) T := by
  intro H enc W base spare held fuel cs d h hw
  rcases DataW.trod_slice ht h with ⟨rfl, rfl⟩ | ⟨a, len, cap, elems, rest, n, rfl, rfl, rfl, hba, hl, hcap, hlen, hel, _, _⟩
  · exact ⟨[], none, 0, rfl, Nat.le_refl _, by decide, by simp, fun _ => rfl, .inl rfl⟩
  · have hpos := R.pos
    have hsz : elems.length * bytes ≤ reachBytes := by
      have := hw (((elems.map (·.1)).length + (rest.map (·.1)).length) * P.bytesOf e) (by simp [DataW.weights, ht])
      rw [hb] at this
      refine Nat.le_trans (Nat.mul_le_mul_right _ ?_) this
      simp
    have each : ∀ j y, elems[j]? = some y → ∃ x, ∃ c, R.rel W (fun k => k < W.heap.size) c x ∧ ∀ i u, c[i]? = some u → W.cell? (a.add (j * R.sz + i)) = some u := by
      intro j y hj
      have hjl := (List.getElem?_eq_some_iff.1 hj).1
      have h1 := hel j (by omega)
      rw [hj, Option.bind_eq_some_iff] at h1
      obtain ⟨c, h2, h3⟩ := h1
      obtain ⟨x, hx⟩ := hR H enc W base spare held n c y h3 (fun m hm => hw m (by
        simp only [DataW.weights, ht]
        refine List.mem_cons_of_mem _ (List.mem_append_left _ (mem_weightsAll (List.mem_map.2 ⟨y, List.mem_of_getElem? hj, rfl⟩) m hm))))
      refine ⟨x, c, hx, fun i u hu => ?_⟩
      obtain ⟨_, h4, h5⟩ := World.cells?_some h2
      have hi := (List.getElem?_eq_some_iff.1 hu).1
      have := h5 i (by omega)
      rw [add_add, hc] at this
      rw [this]; exact hu
    obtain ⟨ys, hyl, hy⟩ := list_of (fun j _ x => ∃ c, R.rel W (fun k => k < W.heap.size) c x ∧ ∀ i u, c[i]? = some u → W.cell? (a.add (j * R.sz + i)) = some u) elems each
    have hle : ys.length = len := by omega
    refine ⟨ys, some a, cap, by rw [hle], by omega, hcap, ?_, by simp, ?_⟩
    · have h2 : reachBytes ≤ 140737488355328 := by decide
      rw [hyl]; omega
    · by_cases hn : ys = []
      · exact .inl hn
      · have hrow : ∀ j x, ys[j]? = some x → ∃ c, R.rel W (fun k => k < W.heap.size) c x ∧ ∀ i u, c[i]? = some u → W.cell? (a.add (j * R.sz + i)) = some u := by
          intro j x hj
          have hjl := (List.getElem?_eq_some_iff.1 hj).1
          exact hy j _ x (List.getElem?_eq_getElem (by omega)) hj
        refine .inr ⟨a, rfl, ?_, hrow⟩
        obtain ⟨x, l, rfl⟩ := List.exists_cons_of_ne_nil hn
        obtain ⟨c, h1, h2⟩ := hrow 0 x rfl
        obtain ⟨u, hu⟩ := Rd.cells_ne h1
        have := lt_of_cell (h2 0 u hu)
        rwa [add_block] at this
/-- A struct's fields, off - the cells before them. -/
def OpensFrom (P : Program) {α : Type} (R : Rd α) (off : Nat) (fs : List Field) : Prop :=
  ∀ (H : Type) (enc : TypeId × Value → H) (W : World) (base : Nat) (spare : Nat → Bool) (held : Bool) (fuel : Nat) (cs : List Value) (xs : List (DataW H × List MemPlace)),
    (∀ (i : Nat) (f : Field), fs[i]? = some f → DataW.trod enc P W base spare held fuel f.type ((cs.drop f.offset).take (P.cellsOf f.type)) = xs[i]?) → xs.length = fs.length →
    (∀ n ∈ DataW.weightsEach P (fs.map (·.type)) (xs.map (·.1)), n ≤ reachBytes) → cs.length = off + R.sz → ∃ x, R.rel W (fun k => k < W.heap.size) (cs.drop off) x
theorem opens_last {P : Program} {α : Type} {R : Rd α} {off : Nat} {f : Field} (ho : f.offset = off) (hc : P.cellsOf f.type = R.sz) (hR : Opens P R f.type) : OpensFrom P R off [f] := by
  intro H enc W base spare held fuel cs xs h hl hw hs
  match xs, hl with
  | [y], _ =>
    have h0 := h 0 f rfl
    simp only [List.getElem?_cons_zero] at h0
    rw [ho, hc, List.take_of_length_le (by simp; omega)] at h0
    exact hR H enc W base spare held fuel _ y h0 (fun n hn => hw n (by simp [DataW.weightsEach, hn]))
theorem opens_cons {P : Program} {α β : Type} {R : Rd α} {Q : Rd β} {off : Nat} {f : Field} {fs : List Field} (ho : f.offset = off) (hc : P.cellsOf f.type = R.sz)
    (hR : Opens P R f.type) (hQ : OpensFrom P Q (off + R.sz) fs) : OpensFrom P (Rd.pair R Q) off (f :: fs) := by
  intro H enc W base spare held fuel cs xs h hl hw hs
  match xs, hl with
  | y :: ys, hl =>
    have h0 := h 0 f rfl
    simp only [List.getElem?_cons_zero] at h0
    rw [ho, hc] at h0
    obtain ⟨x, hx⟩ := hR H enc W base spare held fuel _ y h0 (fun n hn => hw n (by simp [DataW.weightsEach, hn]))
    obtain ⟨z, hz⟩ := hQ H enc W base spare held fuel cs ys (fun i g hg => by simpa using h (i + 1) g (by simpa using hg)) (by simpa using hl)
      (fun n hn => hw n (by simp only [List.map_cons, DataW.weightsEach]; exact List.mem_append_right _ hn)) (by rw [hs]; simp [Rd.pair]; omega)
    refine ⟨(x, z), _, _, ?_, hx, hz⟩
    rw [← List.drop_drop, List.take_append_drop]
theorem opens_struct {P : Program} {T : TypeId} {α : Type} {R : Rd α} {fs : List Field} (ht : P.underlying T = some (.struct fs.toArray)) (hc : P.cellsOf T = R.sz) (h : OpensFrom P R 0 fs) : Opens P R T := by
  intro H enc W base spare held fuel cs d hd hw
  obtain ⟨xs, n, rfl, rfl, hl, hxl, hx⟩ := DataW.trod_struct ht hd
  have := h H enc W base spare held n cs xs (fun i f hf => hx i f (by simpa using hf)) (by simpa using hxl) (by simpa [DataW.weights, ht] using hw) (by omega)
  simpa using this
theorem opens_iso {P : Program} {T : TypeId} {α β : Type} {R : Rd α} {f : β → α} (g : α → β) (hg : ∀ a, f (g a) = a) (h : Opens P R T) : Opens P (R.iso f) T := by
  intro H enc W base spare held fuel cs d hd hw
  obtain ⟨x, hx⟩ := h H enc W base spare held fuel cs d hd hw
  exact ⟨g x, by show R.rel _ _ _ (f (g x)); rw [hg]; exact hx⟩
end Go.Proofs.Ytlimjdejcjgocaa
