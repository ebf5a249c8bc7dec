/- Texts of this claim, joined: Tape0, Tape1, Tape3, Tape4, TapeL, TapeG, LabPut, LabG, LabO0, LabOr, LawLabelOrder, CardLabelOrder. -/
import Derived.Test.YthhepnaanjicjaaGreatDoorP0
import Derived.Lib.AppendStr
import Derived.Test.YthhepnaanjicjaaGreatDoorP7
import Derived.Test.YthhepnaanjicjaaGreatDoorP6
import Derived.Deep.DeepCutAuto
import Derived.WalkKit
import Derived.ProofKit
import Derived.OpenShut
import Derived.ShutString
import Derived.ChangeOld
import Derived.Below
import Derived.SizedLaws
import Derived.ChangeVars
import Derived.JoinedOf
import Derived.RowKitTokens
import Derived.LaidLaws
import Derived.LaidHandle
import Derived.Stop.Joined
import Derived.Test.YthhepnaanjicjaaGreatDoorRows
import Derived.Test.YthhepnaanjicjaaGreatDoorCards
import Derived.Test.YthhepnaanjicjaaGreatDoorTie
import Derived.SevenTiedAt
/- The pen of layer 3: what its calls write, and its laws of words. -/
namespace Go.Proofs.YthhepnaanjicjaaGreatDoor
open Go.RowKit
structure PenAt (w : World) (base g : Nat) (v : Value) (bs : List UInt8) : Prop where
  blk : w.heap[g]? = some (.cells #[v] 41 (0, 0))
  own : w.ownsRow base 5 1 v bs.length (bcells bs)
  base : base ≤ g
  ne : v.ownBlock ≠ some g
theorem PenAt.cell {w : World} {base g : Nat} {v : Value} {bs : List UInt8} (h : PenAt w base g v bs) : w.cell? ⟨g, 0, none⟩ = some v := by
  simp [World.cell?, h.blk]
theorem PenAt.free {w : World} {base g : Nat} {v : Value} {bs : List UInt8} (h : PenAt w base g v bs) : w.frozen? ⟨g, 0, none⟩ = false := by
  simp [World.frozen?, h.blk]
theorem PenAt.lt {w : World} {base g : Nat} {v : Value} {bs : List UInt8} (h : PenAt w base g v bs) : g < w.heap.size := (Array.getElem?_eq_some_iff.1 h.blk).1
/-- The pen has come from (w, v) to (w1, v1): it alone is written. -/
structure PenTo (base g : Nat) (w : World) (v : Value) (w1 : World) (v1 : Value) (bs1 : List UInt8) : Prop where
  at_ : PenAt w1 base g v1 bs1
  mod : Mod (fun k => k = g ∨ v.ownBlock = some k) w w1
  new : NewOr w v v1
theorem PenTo.refl {w : World} {base g : Nat} {v : Value} {bs : List UInt8} (h : PenAt w base g v bs) : PenTo base g w v w v bs := ⟨h, Mod.refl _ _, .refl _ _⟩
theorem PenTo.trans {w w1 w2 : World} {base g : Nat} {v v1 v2 : Value} {bs1 bs2 : List UInt8} (h : PenTo base g w v w1 v1 bs1) (k : PenTo base g w1 v1 w2 v2 bs2) : PenTo base g w v w2 v2 bs2 :=
  ⟨k.at_, h.mod.trans k.mod (fun i hi => hi.elim (fun e => .inl (.inl e)) (fun e => h.new.set (S := fun k => k = g ∨ v.ownBlock = some k) (fun _ hk => .inr hk) i e)), h.new.trans h.mod.size k.new⟩
/-- behind an append and a store of the pen's field -/
theorem PenAt.step {w w1 : World} {base g : Nat} {v v1 : Value} {bs bs1 : List UInt8} (h : PenAt w base g v bs)
    (ho : w1.ownsRow base 5 1 v1 bs1.length (bcells bs1)) (hg : w.grownBy w1 v.ownBlock) (hn : NewOr w v v1) :
    PenTo base g w v (w1.setCell ⟨g, 0, none⟩ v1) v1 bs1 ∧ w1.cell? ⟨g, 0, none⟩ = some v ∧ w1.frozen? ⟨g, 0, none⟩ = false := by
  have hlt := h.lt
  have hblk : w1.heap[g]? = some (.cells #[v] 41 (0, 0)) := by rw [hg.block g hlt (fun e => h.ne e.symm)]; exact h.blk
  have hne1 : v1.ownBlock ≠ some g := hn.ne hlt h.ne
  refine ⟨⟨⟨set_of_blk hblk 0 v1, own_move ho (fun k hk => Below.heap_setCell _ _ _ _ (fun e => hne1 (by rw [hk, e]))), h.base, hne1⟩, ?_, hn⟩, ?_, ?_⟩
  · exact ((Mod.refl _ w).grown hg (fun k hk => .inl (.inr hk.symm))).setCell (.inl (.inl rfl)) _
  · rw [cell_of_blk hblk]; rfl
  · exact free_of_blk hblk 0
def encF : Nat → Int → List UInt8
  | 0, _ => []
  | f + 1, n => if n < 128 then [u8 n] else u8 (n % 128 + 128) :: encF f (n / 128)
theorem encF_lt (f : Nat) (n : Int) (h : n < 128) : encF (f + 1) n = [u8 n] := by simp [encF, h]
theorem encF_ge (f : Nat) (n : Int) (h : ¬ n < 128) : encF (f + 1) n = u8 (n % 128 + 128) :: encF f (n / 128) := by simp [encF, h]
theorem encF_len (f : Nat) (n : Int) : (encF f n).length ≤ f := by
  induction f generalizing n with
  | zero => simp [encF]
  | succ f ih => simp only [encF]; split
                 · simp
                 · have := ih (n / 128); simp; omega
theorem Tryz.info_u8 : (Tryz.prog.info? 5).map (fun i => (i.zero, i.size, i.bytes)) = some (some (.int .u8 0), 1, 1) := by kernel_rfl
theorem fuel_pos {m : Int} {f : Nat} (h : m < 128 ^ f) (hp : 0 < f) (hm : ¬ m < 128) : ∃ k, f = k + 2 ∧ m / 128 < 128 ^ (k + 1) := by
  match f, hp with
  | 1, _ => simp at h; omega
  | k + 2, _ => refine ⟨k, rfl, ?_⟩; rw [show k + 2 = (k + 1) + 1 from rfl, Int.pow_succ] at h; generalize (128 : Int) ^ (k + 1) = p at *; omega
set_option maxRecDepth 100000 in
set_option maxHeartbeats 400000 in
theorem pnum_any (g base : Nat) (n : Int) (v : Value) (bs : List UInt8) (w : World) (hp : PenAt w base g v bs) (hb : base ≤ w.heap.size) (h0 : 0 ≤ n) (h1 : n ≤ 4611686018427387903) (hl : bs.length ≤ 140737488300000) :
    Calls Tryz.prog 70 #[.pointer (some ⟨g, 0, none⟩), .int .i64 n] w fun e w' => e = .returned (.bool true) ∧ ∃ v', PenTo base g w v w' v' (bs ++ encF 10 n) := by
  have hd0 : decide (n < 0) = false := by simp; omega
  have hd1 : decide (4611686018427387903 < n) = false := by simp; omega
  go_enter Tryz.func70, Tryz.ntmps70
  go_wp2
  go_loopg [1] 10 (fun f x wr => ∃ (m : Int) (u : Value) (cs : List UInt8), x = .int .i64 m ∧ 0 ≤ m ∧ m ≤ 4611686018427387903 ∧ cs ++ encF f m = bs ++ encF 10 n ∧ cs.length + f ≤ bs.length + 10 ∧ 0 < f ∧ m < 128 ^ f ∧ PenTo base g w v wr u cs)
  case atStart => exact ⟨n, v, bs, rfl, h0, h1, rfl, by omega, by decide, by omega, .refl hp⟩
  case round =>
    obtain ⟨m, u, cs, rfl, hm0, hm1, he, hle, hf, hlt, hto⟩ := hrel
    have He := Lib.hid (And.intro he (And.intro hle (And.intro hf hlt))); clear he hlt hle hf
    have hpr := hto.at_
    have hcr := hpr.cell
    have hfr := hpr.free
    have hwb : base ≤ wr.heap.size := Nat.le_trans hb hto.mod.size
    clear hd0 hd1
    by_cases hs : m < 128
    · go_wp2_with (at_builtin; refine append_one base rfl _ _ 39 5 (.int .u8 0) 1 rfl Tryz.underlying39 Tryz.info_u8 rfl (by decide) u (bcells cs) _ rfl rfl rfl (by rw [bcells_length]; exact hpr.own) hwb ?c1 ?_)
      case c1 => have := He.out.2.1; (try rw [bcells_length]); omega
      intro A c w1 hown hg hn
      obtain ⟨R1, R3, R4⟩ := hpr.step (bs1 := cs ++ [u8 m]) (by rw [bcells_append]; simpa [bcells, u8_toNat m hm0 (by omega)] using hown) hg hn
      have HR := Lib.hid R1; clear R1 hn hown hg hcr hfr
      go_wp2
      go_ret
      obtain ⟨he, _, hf, hlt⟩ := He.out
      obtain ⟨f, rfl⟩ : ∃ f, gk = f + 1 := ⟨gk - 1, by omega⟩
      rw [encF_lt _ _ hs] at he
      exact ⟨rfl, _, hto.trans (he ▸ HR.out)⟩
    · go_wp2_with (at_builtin; refine append_one base rfl _ _ 39 5 (.int .u8 0) 1 rfl Tryz.underlying39 Tryz.info_u8 rfl (by decide) u (bcells cs) _ rfl rfl rfl (by rw [bcells_length]; exact hpr.own) hwb ?c1 ?_)
      case c1 => have := He.out.2.1; (try rw [bcells_length]); omega
      intro A c w1 hown hg hn
      obtain ⟨R1, R3, R4⟩ := hpr.step (bs1 := cs ++ [u8 (m % 128 + 128)]) (by rw [bcells_append]; simpa [bcells, u8_toNat (m % 128 + 128) (by omega) (by omega)] using hown) hg hn
      have HR := Lib.hid R1; clear R1 hn hown hg hcr hfr
      go_wp2
      obtain ⟨he, hle, hf, hlt⟩ := He.out
      have hs' : ¬ m < 128 := by omega
      obtain ⟨f, rfl, hlt2⟩ := fuel_pos hlt hf hs'
      go_roundg (f + 1)
      case measure => omega
      case rel => exact ⟨m / 128, _, cs ++ [u8 (m % 128 + 128)], rfl, by omega, by omega, by rw [← he, encF_ge _ _ hs']; simp, by simp; omega, by omega, hlt2, hto.trans HR.out⟩
set_option maxRecDepth 100000 in
theorem num_no (p : Option Addr) (n : Int) (w : World) (h : p = none ∨ n < 0 ∨ 4611686018427387903 < n) :
    Calls Tryz.prog 70 #[.pointer p, .int .i64 n] w fun e w' => e = .returned (.bool false) ∧ w = w' := by
  rcases h with rfl | h | h
  · go_enter Tryz.func70, Tryz.ntmps70
    go_wp2
    go_ret
    exact ⟨rfl, rfl⟩
  · have hd0 : decide (n < 0) = true := by simp; omega
    cases p <;>
    · go_enter Tryz.func70, Tryz.ntmps70
      go_wp2
      go_ret
      exact ⟨rfl, rfl⟩
  · have hd0 : decide (n < 0) = false := by simp; omega
    have hd1 : decide (4611686018427387903 < n) = true := by simp; omega
    cases p <;>
    · go_enter Tryz.func70, Tryz.ntmps70
      go_wp2
      go_ret
      exact ⟨rfl, rfl⟩
set_option maxRecDepth 100000 in
theorem text_nil (s : ByteArray) (w : World) :
    Calls Tryz.prog 71 #[.pointer none, .string s] w fun e w' => e = .returned (.tuple #[]) ∧ w = w' := by
  go_enter Tryz.func71, Tryz.ntmps71
  go_wp2_with (go_at_call 70; refine (num_no none _ w (.inl rfl)).mono ?_; rintro e w' ⟨rfl, rfl⟩)
  go_end0
  exact ⟨rfl, rfl⟩
end Go.Proofs.YthhepnaanjicjaaGreatDoor

/- Layer 3's pen, the rest: Clone of bytes, Text, Bytes. -/
namespace Go.Proofs.YthhepnaanjicjaaGreatDoor
open Go.RowKit
set_option maxRecDepth 100000 in
set_option maxHeartbeats 400000 in
theorem clone_any (v : Value) (xs : List UInt8) (ok : Nat → Prop) (w : World) (h : bytesR.rel w ok [v] xs) :
    Calls Tryz.prog 74 #[v] w fun e w' => ∃ A c, e = .returned (.slice A xs.length c) ∧ w'.ownsRow w.heap.size 5 1 (.slice A xs.length c) xs.length (bcells xs) ∧ Mod (fun _ => False) w w' := by
  have q22 : ∀ (w : World) (a : Option Addr) (n c n' c' : Nat), (binOp .eql 39 (.slice a n c) (.slice none n' c')).run Tryz.prog w = .ok (.bool a.isNone) w := fun w a n c n' c' => Lib.run_eql_slice_nil w _ _ a n c n' c' Tryz.underlying39
  obtain ⟨A, c, hv, h2, h3, h4, h5, h6⟩ := h
  obtain rfl : v = .slice A xs.length c := by simpa using hv
  cases A with
  | none =>
    have hc0 := h5 rfl
    have hx : xs.length = 0 := by omega
    obtain rfl : xs = [] := List.eq_nil_of_length_eq_zero hx
    subst hc0
    go_enter Tryz.func74, Tryz.ntmps74
    go_wp2
    go_ret
    exact ⟨none, 0, rfl, World.ownsRow_nil _ _ _ _, .refl _ _⟩
  | some ad =>
    clear hv h5
    have hnl := bcells_length xs
    have hcells : ∀ j u, (bcells xs)[j]? = some u → w.cell? (ad.add j) = some u := by
      by_cases hx : xs = []
      · subst hx; intro j u hu; simp [bcells] at hu
      · obtain ⟨ad', e, _, hh⟩ := RowOf.bcells h6 hx
        injection e with e; subst e; exact hh
    have HC := Lib.hid hcells; clear hcells
    clear h6
    obtain ⟨i0, hi, hz0, hz1, hz2⟩ := info_parts Tryz.info_u8
    go_enter Tryz.func74, Tryz.ntmps74
    go_wp2_with (at_builtin; refine wpList_append_own_at _ rfl _ _ 39 rfl w.heap.size 5 i0 (.int .u8 0) 1 1 Tryz.underlying39 hi hz0 hz1 hz2 rfl (by decide) (.slice (some ⟨w.heap.size, 0, none⟩) 0 0) 0 [] rfl ?c1 ad xs.length c (bcells xs) rfl ?c2 ?c3 ?c4 ?c5 ?c6 ?c7 ?_)
    case c1 => exact World.ownsRow_made w _ 0 (Nat.le_refl _) (by decide) rfl
    case c2 => simp [bcells_length]
    case c3 => intro j u hu; have := HC.out j u hu; exact cell_step this (fun hl => Below.heap_alloc _ _ _ hl)
    case c4 => exact bcells_one _
    case c5 => unfold maxLen; omega
    case c6 => omega
    case c7 => simp
    intro v1 w1 hown hg hnil hat
    obtain ⟨A1, c1, rfl⟩ := own_slice hown
    have HR := Lib.hid (And.intro hown hg); clear hown hg hnil hat
    go_wp2
    go_ret
    exact ⟨A1, c1, rfl, HR.out.1, ((Mod.refl _ w).alloc _).grown HR.out.2 (by simp [Value.ownBlock])⟩
theorem append_str {P : Program} {ops : Array Oper} {rest : List Oper} {o : Oper} {a : Act} {Q : Exit → Act → World → Prop} {w : World} (base : Nat) (hgd : o.guard = none) (sl x : Operand) (t u e : TypeId)
    (ho : o.op = .call { callee := .builtin .append, args := #[sl, x], argTypes := #[t, u] })
    (ht : P.underlying t = some (.slice e)) (hu : P.underlying u = some .string) (hinfo : (P.info? e).map (fun i => (i.zero, i.size, i.bytes)) = some (some (.int .u8 0), 1, 1))
    (v : Value) (n : Nat) (xs : List Value) (hs : a.eval sl = v) (hown : w.ownsRow base e 1 v n xs) (s : ByteArray) (hx : a.eval x = .string s)
    (hbytes : n + s.size ≤ 140737488355328) (hbase : base ≤ w.heap.size)
    (h : ∀ A c w', w'.ownsRow base e 1 (.slice A (n + s.size) c) (n + s.size) (xs ++ Lib.strCells s) → w.grownBy w' v.ownBlock → NewOr w v (.slice A (n + s.size) c) → wpList P ops Q rest (a.put o.dst (.slice A (n + s.size) c)) w') : wpList P ops Q (o :: rest) a w := by
  obtain ⟨i, hi, hzz⟩ := Option.map_eq_some_iff.1 hinfo
  simp only [Prod.mk.injEq] at hzz
  obtain ⟨hz, hsize, hby⟩ := hzz
  refine wpList_plain hgd fun K hK => ?_
  obtain ⟨v', w', hr, h2, h3, h4⟩ := Lib.run_append_own_string (P := P) w base t u o.type e i ht hu hi hz hsize hby v n xs hown s (by unfold maxLen; omega) hbytes hbase
  have hat : NewOr w v v' := by
    rcases hown.2 with ⟨rfl, rfl⟩ | ⟨g, cap, cur, rfl, hbg, hg, hnc, hcm, hcs, htake⟩
    · by_cases hm : s.size = 0
      · exact .inl (by rw [h4.2 ⟨rfl, hm⟩])
      · have hr2 := run_append_nil_string (P := P) w t u o.type e i (.int .u8 0) ht hu hi hz s (by omega) (by omega) (by rw [hby]; omega)
        rw [hr] at hr2
        injection hr2 with e1 _
        exact .inr ⟨w.heap.size, by rw [e1]; rfl, Nat.le_refl _⟩
    · by_cases hroom : n + s.size ≤ cap
      · have hr2 := Lib.run_append_room_string (P := P) w t u o.type e i ht hu hi hsize g n cap cur hg s hroom (by omega)
        rw [hr] at hr2
        injection hr2 with e1 _
        exact .inl (by rw [e1]; rfl)
      · have hr2 := Lib.run_append_grow_string (P := P) w t u o.type e i (.int .u8 0) ht hu hi hz ⟨g, 0, none⟩ n cap xs (by rw [hsize]; exact hown.1) (hown.cells (g := g) rfl) s (by omega) (by omega) (by rw [hby]; exact growslice_fits (by omega) (by omega))
        rw [hr] at hr2
        injection hr2 with e1 _
        exact .inr ⟨w.heap.size, by rw [e1]; rfl, Nat.le_refl _⟩
  obtain ⟨A, c, rfl⟩ := own_slice h2
  unfold Oper.wp execOp
  simp only [ho, resolve, invoke, builtin, Sem.run_bind, Sem.run_pure, Result.andThen_ok, List.map_toArray, List.map_cons, List.map_nil, hs, hx, hr]
  exact hK _ _ (h A c w' h2 h3 hat)
set_option maxRecDepth 100000 in
theorem ptext_any (g base : Nat) (s : ByteArray) (v : Value) (bs : List UInt8) (w : World) (hp : PenAt w base g v bs) (hb : base ≤ w.heap.size) (hs : s.size ≤ 1000000000) (hl : bs.length ≤ 140000000000000) :
    Calls Tryz.prog 71 #[.pointer (some ⟨g, 0, none⟩), .string s] w fun e w' => e = .returned (.tuple #[]) ∧ ∃ v', PenTo base g w v w' v' (bs ++ encF 10 s.size ++ s.data.toList) := by
  go_enter Tryz.func71, Tryz.ntmps71
  go_wp2_with fail
  refine (pnum_any g base _ v bs w hp hb (by omega) (by omega) (by omega)).mono ?_
  rintro e w1 ⟨rfl, v1, H1⟩
  have hpr := H1.at_
  have hcr := hpr.cell
  have hfr := hpr.free
  have hwb := Nat.le_trans hb H1.mod.size
  go_wp2_with (at_builtin; refine append_str base rfl _ _ 39 9 5 rfl Tryz.underlying39 Tryz.underlying9 Tryz.info_u8 v1 _ _ rfl hpr.own s rfl ?c1 hwb ?_)
  case c1 => have := encF_len 10 (s.size : Int); simp; omega
  intro A c w2 hown hg hn
  obtain ⟨R1, R3, R4⟩ := hpr.step (bs1 := bs ++ encF 10 s.size ++ s.data.toList) (by rw [bcells_append, ← strCells_bcells, List.length_append, List.length_append]; simpa using hown) hg hn
  have HR := Lib.hid R1; clear R1 hn hown hg hcr hfr
  go_wp2
  go_end0
  exact ⟨rfl, _, H1.trans HR.out⟩
set_option maxRecDepth 100000 in
theorem bytes_nil (w : World) :
    Calls Tryz.prog 32 #[.pointer none] w fun e w' => e = .returned (.slice none 0 0) ∧ w = w' := by
  go_enter Tryz.func32, Tryz.ntmps32
  go_wp2
  go_ret
  exact ⟨rfl, rfl⟩
set_option maxRecDepth 100000 in
theorem bytes_any (g base : Nat) (v : Value) (bs : List UInt8) (w : World) (hp : PenAt w base g v bs) (hl : bs.length ≤ 140737488355328) :
    Calls Tryz.prog 32 #[.pointer (some ⟨g, 0, none⟩)] w fun e w' => ∃ A c, e = .returned (.slice A bs.length c) ∧ w'.ownsRow w.heap.size 5 1 (.slice A bs.length c) bs.length (bcells bs) ∧ Mod (fun _ => False) w w' := by
  have hc := hp.cell
  have hr := reads_bytes hp.own hl
  obtain ⟨A0, c0, hv⟩ := own_slice hp.own
  clear hp
  subst hv
  go_enter Tryz.func32, Tryz.ntmps32
  go_wp2_with fail
  refine (clone_any _ bs _ w hr).mono ?_
  rintro e w1 ⟨A, c, rfl, h1, h2⟩
  have HR := Lib.hid (And.intro h1 h2); clear h1 h2
  go_wp2
  go_ret
  exact ⟨A, c, rfl, HR.out.1, HR.out.2⟩
end Go.Proofs.YthhepnaanjicjaaGreatDoor

/- Layer 3's tape: what its calls read. -/
namespace Go.Proofs.YthhepnaanjicjaaGreatDoor
open Go.RowKit
/-- From the i-th byte on, n read so far: the value, the count, the fault. -/
def decF : Nat → Int → List UInt8 → Int × Int × Int
  | _, _, [] => (0, 0, 11)
  | i, n, c :: r => if i = 9 then (0, 0, 10) else if 128 ≤ c.toNat then decF (i + 1) (n + ((c.toNat : Int) - 128) * 128 ^ i) r else if c.toNat = 0 ∧ 0 < i then (0, 0, 10) else (n + c.toNat * 128 ^ i, (i : Int) + 1, 0)
theorem pow128 (i : Nat) (hi : i ≤ 8) : ∃ p : Int, (128 : Int) ^ i = p ∧ 1 ≤ p ∧ p ≤ 72057594037927936 ∧ (128 : Int) ^ (i + 1) = p * 128 := by
  refine ⟨_, rfl, ?_, ?_, Int.pow_succ ..⟩
  all_goals
    have : i = 0 ∨ i = 1 ∨ i = 2 ∨ i = 3 ∨ i = 4 ∨ i = 5 ∨ i = 6 ∨ i = 7 ∨ i = 8 := by omega
    rcases this with rfl | rfl | rfl | rfl | rfl | rfl | rfl | rfl | rfl <;> decide
theorem dec_more {i : Nat} {n m b : Int} (hi : i ≤ 8) (hm : m = 128 ^ i) (h0 : 0 ≤ n) (h1 : n < 128 ^ i) (hb0 : 128 ≤ b) (hb1 : b < 256) :
    wrap64 (n + wrap64 ((b - 128) * m)) = n + (b - 128) * 128 ^ i ∧ 0 ≤ n + (b - 128) * 128 ^ i ∧ n + (b - 128) * 128 ^ i < 128 ^ (i + 1) ∧ (i + 1 ≤ 8 → wrap64 (m * 128) = 128 ^ (i + 1)) := by
  obtain ⟨p, hp, hp1, hp2, hp3⟩ := pow128 i hi
  subst hm
  rw [hp] at h1
  rw [hp3, hp]
  have e1 : 0 ≤ (b - 128) * p := Int.mul_nonneg (by omega) (by omega)
  have e2 : (b - 128) * p ≤ 127 * p := Int.mul_le_mul_of_nonneg_right (by omega) (by omega)
  refine ⟨?_, by omega, by omega, fun h => ?_⟩
  · generalize (b - 128) * p = q at *
    unfold wrap64; omega
  · have hi7 : i ≤ 7 := by omega
    have : p ≤ 562949953421312 := by
      rw [← hp]
      clear hp hp1 hp2 hp3 e1 e2 h h1
      have : i = 0 ∨ i = 1 ∨ i = 2 ∨ i = 3 ∨ i = 4 ∨ i = 5 ∨ i = 6 ∨ i = 7 := by omega
      rcases this with rfl | rfl | rfl | rfl | rfl | rfl | rfl | rfl <;> decide
    unfold wrap64; omega
theorem dec_last {i : Nat} {n m b : Int} (hi : i ≤ 8) (hm : m = 128 ^ i) (h0 : 0 ≤ n) (h1 : n < 128 ^ i) (hb0 : 0 ≤ b) (hb1 : b < 128) :
    wrap64 (n + wrap64 (b * m)) = n + b * 128 ^ i := by
  obtain ⟨p, hp, hp1, hp2, hp3⟩ := pow128 i hi
  subst hm
  rw [hp] at h1 ⊢
  have e1 : 0 ≤ b * p := Int.mul_nonneg (by omega) (by omega)
  have e2 : b * p ≤ 127 * p := Int.mul_le_mul_of_nonneg_right (by omega) (by omega)
  generalize b * p = q at *
  unfold wrap64; omega
structure TapeAt (w : World) (ok : Nat → Prop) (g : Nat) (v e : Value) (bs : List UInt8) : Prop where
  blk : w.heap[g]? = some (.cells #[v, e] 92 (0, 0))
  rd : bytesR.rel w (fun k => ok k ∧ k ≠ g) [v] bs
theorem TapeAt.cell0 {w : World} {ok : Nat → Prop} {g : Nat} {v e : Value} {bs : List UInt8} (h : TapeAt w ok g v e bs) : w.cell? ⟨g, 0, none⟩ = some v := by
  rw [cell_of_blk h.blk]; rfl
theorem TapeAt.cell1 {w : World} {ok : Nat → Prop} {g : Nat} {v e : Value} {bs : List UInt8} (h : TapeAt w ok g v e bs) : w.cell? ⟨g, 1, none⟩ = some e := by
  rw [cell_of_blk h.blk]; rfl
theorem TapeAt.free {w : World} {ok : Nat → Prop} {g : Nat} {v e : Value} {bs : List UInt8} (h : TapeAt w ok g v e bs) (j : Nat) : w.frozen? ⟨g, j, none⟩ = false := free_of_blk h.blk j
theorem TapeAt.slice {w : World} {ok : Nat → Prop} {g : Nat} {v e : Value} {bs : List UInt8} (h : TapeAt w ok g v e bs) : ∃ A c, v = .slice A bs.length c := by
  obtain ⟨A, c, hv, _⟩ := h.rd
  exact ⟨A, c, by simpa using hv⟩
set_option maxRecDepth 100000 in
set_option maxHeartbeats 400000 in
theorem tnumber_any (g : Nat) (ok : Nat → Prop) (v e : Value) (bs : List UInt8) (w : World) (h : TapeAt w ok g v e bs) :
    Calls Tryz.prog 111 #[.pointer (some ⟨g, 0, none⟩)] w fun r w' => r = .returned (.tuple #[.int .i64 (decF 0 0 bs).1, .int .i64 (decF 0 0 bs).2.1, .int .i64 (decF 0 0 bs).2.2]) ∧ w = w' := by
  have hc0 := h.cell0
  obtain ⟨A, c, hv, h2, h3, h4, h5, h6⟩ := h.rd
  obtain rfl : v = .slice A bs.length c := by simpa using hv
  have hR := Lib.hid h6
  have hm : bs.length ≤ 140737488355328 := by omega
  clear h hv h6 h5 h4
  obtain ⟨D, hD⟩ : ∃ D, D = decF 0 0 bs := ⟨_, rfl⟩
  have HD := Lib.hid hD
  rw [← hD]; clear hD
  go_enter Tryz.func111, Tryz.ntmps111
  go_wp2
  go_loopg [5, 6, 14] (bs.length) (fun f sn sw si wr => ∃ (i : Nat) (n m : Int), wr = w ∧ si = .int .i64 i ∧ sn = .int .i64 n ∧ sw = .int .i64 m ∧ i + f = bs.length ∧ i ≤ 9 ∧ 0 ≤ n ∧ n < 128 ^ i ∧ (i ≤ 8 → m = 128 ^ i) ∧ D = decF i n (bs.drop i))
  case atStart => exact ⟨0, 0, 1, rfl, rfl, rfl, rfl, by omega, by omega, by omega, by omega, fun _ => rfl, HD.out⟩
  case round =>
    obtain ⟨i, n, m, rfl, rfl, rfl, rfl, hi, hi9, hn0, hn1, hm1, hd⟩ := hrel
    have HI := Lib.hid (And.intro hi (And.intro hn1 (And.intro hm1 hd))); clear hi hn1 hm1 hd
    by_cases hlt : i < bs.length
    · obtain ⟨b, hb⟩ : ∃ b, bs[i]? = some b := ⟨_, List.getElem?_eq_getElem hlt⟩
      obtain ⟨ad, rfl, _, hcells⟩ := RowOf.bcells hR.out (by intro e; subst e; simp at hlt)
      have hcell := hcells i (.int .u8 (b.toNat : Int)) (by simp [bcells, hb])
      have hb256 : b.toNat < 256 := b.toNat_lt
      have hdr : bs.drop i = b :: bs.drop (i + 1) := by
        rw [List.drop_eq_getElem_cons hlt]; congr 1; rw [List.getElem?_eq_getElem hlt] at hb; exact Option.some.inj hb
      have HB := Lib.hid (And.intro hb hdr)
      clear hcells hb hdr
      go_wp2
      · have h9 : i = 9 := by have : ((i : Int) == 9) = true := by assumption
                              simp at this; omega
        go_ret3
        obtain ⟨_, hdr⟩ := HB.out
        obtain ⟨hi, hn1, hm1, hd⟩ := HI.out
        rw [hd, hdr, decF, if_pos h9]
        exact ⟨rfl, rfl⟩
      · have h9 : ¬ i = 9 := by have : ((i : Int) == 9) = false := by assumption
                                simp at this; omega
        have hbb : (128 : Int) ≤ (b.toNat : Int) := by assumption
        obtain ⟨_, hdr⟩ := HB.out
        obtain ⟨hi, hn1, hm1, hd⟩ := HI.out
        obtain ⟨e1, e2, e3, e4⟩ := dec_more (i := i) (by omega) (hm1 (by omega)) hn0 hn1 hbb (by omega)
        go_roundg (gk - 1)
        case measure => omega
        case rel =>
          refine ⟨i + 1, n + ((b.toNat : Int) - 128) * 128 ^ i, wrap64 (m * 128), rfl, by go_num, by rw [e1], rfl, by omega, by omega, e2, e3, fun h => e4 (by omega), ?_⟩
          rw [hd, hdr, decF, if_neg h9, if_pos (by omega)]
      · have h9 : ¬ i = 9 := by have : ((i : Int) == 9) = false := by assumption
                                simp at this; omega
        have hbb : b.toNat = 0 := by assumption
        have hip : 0 < i := by assumption
        go_ret3
        obtain ⟨_, hdr⟩ := HB.out
        obtain ⟨hi, hn1, hm1, hd⟩ := HI.out
        rw [hd, hdr, decF, if_neg h9, if_neg (by omega), if_pos ⟨hbb, hip⟩]
        exact ⟨rfl, rfl⟩
      all_goals
        have h9 : ¬ i = 9 := by have : ((i : Int) == 9) = false := by assumption
                                simp at this; omega
        go_ret3
        obtain ⟨_, hdr⟩ := HB.out
        obtain ⟨hi, hn1, hm1, hd⟩ := HI.out
        rw [hd, hdr, decF, if_neg h9, if_neg (by omega), if_neg (by omega)]
        have e1 := dec_last (i := i) (by omega) (hm1 (by omega)) hn0 hn1 (b := (b.toNat : Int)) (by omega) (by omega)
        first
          | (simp [e1]; done)
          | (have hb0 : b.toNat = 0 := by assumption
             have e0 : wrap64 0 = 0 := by unfold wrap64; decide
             rw [hb0] at e1 ⊢; simp [e0] at e1 ⊢; exact e1)
    · go_wp2
      go_ret3
      obtain ⟨hi, hn1, hm1, hd⟩ := HI.out
      rw [hd, List.drop_eq_nil_of_le (by omega)]
      exact ⟨rfl, rfl⟩
/-- A fault that lies in a block of its own. -/
def FaultAt (w : World) (b : Nat) (place : ByteArray) (code : Int) (behind : Value) : Prop := w.heap[b]? = some (.cells #[.string place, .int .i64 code, behind] 158 (0, 0))
def tapeStr : ByteArray := ⟨#[116, 97, 112, 101]⟩
/-- What Number of a tape tells: the value, the bytes that are left, the fault's number (0: none). -/
def numD (most : Int) (bs : List UInt8) : Int × List UInt8 × Int :=
  if (decF 0 0 bs).2.2 ≠ 0 then (0, bs, (decF 0 0 bs).2.2) else if (decF 0 0 bs).1 < 0 ∨ most < (decF 0 0 bs).1 then (0, bs, 13) else ((decF 0 0 bs).1, bs.drop (decF 0 0 bs).2.1.toNat, 0)
/-- The tape has come from w to w1: its block alone is written; where it has failed, its fault lies in a new block. -/
structure TapeTo (w : World) (ok : Nat → Prop) (g : Nat) (w1 : World) (bs1 : List UInt8) (code : Int) : Prop where
  at_ : ∃ v e, TapeAt w1 ok g v e bs1 ∧ (code = 0 → e = .nilIface) ∧ (code ≠ 0 → ∃ b, w.heap.size ≤ b ∧ e = .iface 156 (.pointer (some ⟨b, 0, none⟩)) ∧ FaultAt w1 b tapeStr code .nilIface)
  mod : Mod (fun k => k = g) w w1
theorem decF_ok (bs : List UInt8) : ∀ (i : Nat) (n : Int), 0 ≤ n → (decF i n bs).2.2 = 0 → n ≤ (decF i n bs).1 ∧ (i : Int) < (decF i n bs).2.1 ∧ (decF i n bs).2.1 ≤ i + bs.length := by
  induction bs with
  | nil => intro i n _ h; simp [decF] at h
  | cons c r ih =>
    intro i n h0 h
    have hp : (0 : Int) < 128 ^ i := Int.pow_pos (by decide)
    unfold decF at h ⊢
    split at h
    · simp at h
    split at h
    · rename_i h1 h2
      rw [if_neg h1, if_pos h2]
      have hq : 0 ≤ ((c.toNat : Int) - 128) * 128 ^ i := Int.mul_nonneg (by omega) (by omega)
      obtain ⟨a, b, d⟩ := ih (i + 1) (n + ((c.toNat : Int) - 128) * 128 ^ i) (by omega) h
      simp only [List.length_cons]
      exact ⟨by omega, by omega, by omega⟩
    split at h
    · simp at h
    rename_i h1 h2 h3
    rw [if_neg h1, if_neg h2, if_neg h3]
    have hq : 0 ≤ (c.toNat : Int) * 128 ^ i := Int.mul_nonneg (by omega) (by omega)
    simp only [List.length_cons]
    exact ⟨by omega, by omega, by omega⟩
theorem decF_code (bs : List UInt8) : ∀ (i : Nat) (n : Int), (decF i n bs).2.2 = 0 ∨ (decF i n bs).2.2 = 10 ∨ (decF i n bs).2.2 = 11 := by
  induction bs with
  | nil => intro i n; simp [decF]
  | cons c r ih =>
    intro i n
    unfold decF
    split
    · simp
    split
    · exact ih _ _
    split <;> simp
/-- behind fail: the fault's block is new, the tape's field holds it -/
theorem TapeAt.failed {w : World} {ok : Nat → Prop} {g : Nat} {v : Value} {bs : List UInt8} (h : TapeAt w ok g v .nilIface bs) (code : Int) (hc : code ≠ 0) :
    TapeTo w ok g ((w.setCell ⟨g, 1, none⟩ (.iface 156 (.pointer (some ⟨w.heap.size, 0, none⟩)))).alloc (.cells #[.string ⟨#[116, 97, 112, 101]⟩, .int .i64 code, .nilIface] 158)) bs code := by
  have hlt := lt_of_blk h.blk
  have hm : Mod (fun k => k = g) w ((w.setCell ⟨g, 1, none⟩ (.iface 156 (.pointer (some ⟨w.heap.size, 0, none⟩)))).alloc (.cells #[.string ⟨#[116, 97, 112, 101]⟩, .int .i64 code, .nilIface] 158)) := ((Mod.refl (fun k => k = g) w).setCell (.inl rfl) _).alloc _
  have hs : (w.setCell ⟨g, 1, none⟩ (.iface 156 (.pointer (some ⟨w.heap.size, 0, none⟩)))).heap.size = w.heap.size := by simp [World.setCell]
  refine ⟨⟨v, _, ⟨?_, ?_⟩, fun e => absurd e hc, fun _ => ⟨w.heap.size, Nat.le_refl _, rfl, ?_⟩⟩, hm⟩
  · rw [Below.heap_alloc _ _ _ (by rw [hs]; exact hlt)]; exact set_of_blk h.blk 1 _
  · exact Rd.mod h.rd hm (fun k hk => hk.2)
  · unfold FaultAt
    have := heap_alloc_new (w.setCell ⟨g, 1, none⟩ (.iface 156 (.pointer (some ⟨w.heap.size, 0, none⟩)))) (.cells #[.string tapeStr, .int .i64 code, .nilIface] 158)
    rwa [hs] at this
theorem TapeAt.moved {w : World} {ok : Nat → Prop} {g : Nat} {v v1 : Value} {bs bs1 : List UInt8} (h : TapeAt w ok g v .nilIface bs) (h1 : bytesR.rel w (fun k => ok k ∧ k ≠ g) [v1] bs1) :
    TapeTo w ok g (w.setCell ⟨g, 0, none⟩ v1) bs1 0 := by
  have hm : Mod (fun k => k = g) w (w.setCell ⟨g, 0, none⟩ v1) := (Mod.refl (fun k => k = g) w).setCell (.inl rfl) _
  exact ⟨⟨v1, _, ⟨set_of_blk h.blk 0 _, Rd.mod h1 hm (fun k hk => hk.2)⟩, fun _ => rfl, fun e => absurd rfl e⟩, hm⟩
set_option maxRecDepth 100000 in
set_option maxHeartbeats 400000 in
theorem tnum_any (g : Nat) (ok : Nat → Prop) (v : Value) (bs : List UInt8) (most : Int) (w : World) (h : TapeAt w ok g v .nilIface bs) :
    Calls Tryz.prog 77 #[.pointer (some ⟨g, 0, none⟩), .int .i64 most] w fun r w' => r = .returned (.int .i64 (numD most bs).1) ∧ TapeTo w ok g w' (numD most bs).2.1 (numD most bs).2.2 := by
  have hc0 := h.cell0
  have hc1 := h.cell1
  have hf0 := h.free 0
  have hf1 := h.free 1
  have hlt := lt_of_blk h.blk
  have hN := tnumber_any g ok v .nilIface bs w h
  have hok := decF_ok bs 0 0 (by omega)
  obtain ⟨D, hD⟩ : ∃ D, D = decF 0 0 bs := ⟨_, rfl⟩
  have HD := Lib.hid hD
  have HN := Lib.hid hN
  rw [← hD] at hok HN; clear hD hN
  by_cases h1 : D.2.2 = 0
  · obtain ⟨p1, p2, p3⟩ := hok h1
    obtain ⟨A, c, rfl⟩ := h.slice
    obtain ⟨i0, hi, hz0, hz1, hz2⟩ := info_parts Tryz.info_u8
    obtain ⟨A', hsl, hrd⟩ := slice_from h.rd (t := 39) (e := 5) Tryz.underlying39 hi hz1 .i64 D.2.1 (by omega) (by omega)
    by_cases h2 : D.1 ≤ most
    · have hfin : numD most bs = (D.1, bs.drop D.2.1.toNat, 0) := by unfold numD; rw [← HD.out, if_neg (by simp [h1]), if_neg (by omega)]
      rw [hfin]
      have HF := Lib.hid (h.moved hrd)
      have hb1 : ((D.2.2 : Int) != 0) = false := by simp [h1]
      have HX := Lib.hid (And.intro hfin (And.intro h1 (And.intro h hok))); clear hfin h1 h hok hi hz0 hz1 hz2 hrd
      go_enter Tryz.func77, Tryz.ntmps77
      go_wp2_with fail
      refine HN.out.mono ?_
      rintro r w' ⟨rfl, rfl⟩
      go_wp2
      go_ret
      exact ⟨rfl, HF.out⟩
    · have hfin : numD most bs = (0, bs, 13) := by unfold numD; rw [← HD.out, if_neg (by simp [h1]), if_pos (by omega)]
      rw [hfin]
      have HF := Lib.hid (h.failed 13 (by decide))
      have hb1 : ((D.2.2 : Int) != 0) = false := by simp [h1]
      have HX := Lib.hid (And.intro hfin (And.intro h1 (And.intro h hok))); clear hfin h1 h hok hi hz0 hz1 hz2 hrd hsl
      go_enter Tryz.func77, Tryz.ntmps77
      go_wp2_with fail
      refine HN.out.mono ?_
      rintro r w' ⟨rfl, rfl⟩
      go_wp2
      go_ret
      exact ⟨rfl, HF.out⟩
  · have hfin : numD most bs = (0, bs, D.2.2) := by unfold numD; rw [← HD.out, if_pos (by simpa using h1)]
    rw [hfin]
    have HF := Lib.hid (h.failed D.2.2 h1)
    have hb1 : ((D.2.2 : Int) != 0) = true := by simpa using h1
    have hb2 : ((D.2.2 : Int) == 0) = false := by simpa using h1
    have HX := Lib.hid (And.intro hfin (And.intro h1 (And.intro h hok))); clear hfin h1 h hok
    go_enter Tryz.func77, Tryz.ntmps77
    go_wp2_with fail
    refine HN.out.mono ?_
    rintro r w' ⟨rfl, rfl⟩
    go_wp2
    go_ret
    exact ⟨rfl, HF.out⟩
end Go.Proofs.YthhepnaanjicjaaGreatDoor

/- Layer 3's tape, the rest: New, Text, End, Err, Flag. -/
namespace Go.Proofs.YthhepnaanjicjaaGreatDoor
open Go.RowKit
/-- What Text of a tape tells: the text, the bytes that are left, the fault's number. -/
def textD (most : Int) (bs : List UInt8) : List UInt8 × List UInt8 × Int :=
  if (numD most bs).2.2 ≠ 0 then ([], bs, (numD most bs).2.2) else if ((numD most bs).2.1.length : Int) < (numD most bs).1 then ([], bs, 11) else ((numD most bs).2.1.take (numD most bs).1.toNat, (numD most bs).2.1.drop (numD most bs).1.toNat, 0)
theorem numD_fail {most : Int} {bs : List UInt8} (h : (numD most bs).2.2 ≠ 0) : (numD most bs).2.1 = bs ∧ (numD most bs).1 = 0 := by
  unfold numD at h ⊢
  split
  · exact ⟨rfl, rfl⟩
  · rename_i h1
    rw [if_neg h1] at h
    split
    · exact ⟨rfl, rfl⟩
    · rename_i h2
      rw [if_neg h2] at h; exact absurd rfl h
theorem numD_nonneg (most : Int) (bs : List UInt8) : 0 ≤ (numD most bs).1 := by
  unfold numD
  split
  · simp
  split
  · simp
  rename_i h1 h2
  simp only; omega
theorem TapeTo.ok {w w1 : World} {ok : Nat → Prop} {g : Nat} {bs : List UInt8} (h : TapeTo w ok g w1 bs 0) : ∃ v, TapeAt w1 ok g v .nilIface bs := by
  obtain ⟨⟨v, e, h1, h2, _⟩, _⟩ := h
  obtain rfl := h2 rfl
  exact ⟨v, h1⟩
theorem TapeTo.trans {w w1 w2 : World} {ok : Nat → Prop} {g : Nat} {bs1 bs2 : List UInt8} {c1 c2 : Int} (h : TapeTo w ok g w1 bs1 c1) (k : TapeTo w1 ok g w2 bs2 c2) : TapeTo w ok g w2 bs2 c2 := by
  obtain ⟨⟨v, e, h1, h2, h3⟩, hm⟩ := k
  refine ⟨⟨v, e, h1, h2, fun hc => ?_⟩, h.mod.trans hm (fun k hk => .inl hk)⟩
  obtain ⟨b, hb, h4⟩ := h3 hc
  exact ⟨b, Nat.le_trans h.mod.size hb, h4⟩
set_option maxRecDepth 100000 in
set_option maxHeartbeats 400000 in
theorem ttext_any (g : Nat) (ok : Nat → Prop) (v : Value) (bs : List UInt8) (most : Int) (w : World) (h : TapeAt w ok g v .nilIface bs) :
    Calls Tryz.prog 78 #[.pointer (some ⟨g, 0, none⟩), .int .i64 most] w fun r w' => r = .returned (.string (mkStr (textD most bs).1)) ∧ TapeTo w ok g w' (textD most bs).2.1 (textD most bs).2.2 := by
  have hc0 := h.cell0
  have hc1 := h.cell1
  have hN := tnum_any g ok v bs most w h
  have hn0 := numD_nonneg most bs
  have hfl := numD_fail (most := most) (bs := bs)
  obtain ⟨D, hD⟩ : ∃ D, D = numD most bs := ⟨_, rfl⟩
  have HN := Lib.hid hN
  have HFIN : Hid (textD most bs = if D.2.2 ≠ 0 then ([], bs, D.2.2) else if (D.2.1.length : Int) < D.1 then ([], bs, 11) else (D.2.1.take D.1.toNat, D.2.1.drop D.1.toNat, 0)) := by rw [hD]; exact rfl
  rw [← hD] at hn0 HN hfl; clear hD hN
  have hemp : ByteArray.empty = mkStr [] := rfl
  by_cases h1 : D.2.2 = 0
  · have HL := Lib.hid h; clear h
    by_cases h2 : (D.2.1.length : Int) < D.1
    · have hfin : textD most bs = ([], bs, 11) := by rw [HFIN.out, if_neg (by simp [h1]), if_pos h2]
      rw [hfin]
      have HX := Lib.hid (And.intro hfin h1); clear hfin h1
      obtain ⟨A0, c0, hv0⟩ := HL.out.slice
      subst hv0
      go_enter Tryz.func78, Tryz.ntmps78
      go_wp2_with fail
      refine HN.out.mono ?_
      rintro r w1 ⟨rfl, HT⟩
      rw [HX.out.2] at HT
      obtain ⟨v1, h3⟩ := HT.ok
      obtain ⟨A1, c1, rfl⟩ := h3.slice
      have hd0 := h3.cell0
      have hd1 := h3.cell1
      have hf0 := h3.free 0
      have hf1 := h3.free 1
      have hgl := lt_of_blk h3.blk
      have hrd1 : bytesR.rel w1 (fun k => ok k ∧ k ≠ g) [.slice A0 bs.length c0] bs := Rd.mod HL.out.rd HT.mod (fun k hk => hk.2)
      have h4 := h3.moved hrd1
      obtain ⟨v5, h5⟩ := h4.ok
      have h6 := HT.trans (h4.trans (h5.failed 11 (by decide)))
      have HF := Lib.hid h6; clear h6 h5 h4 hrd1 HT h3
      go_wp2
      go_ret
      exact ⟨rfl, by simpa using HF.out⟩
    · have hfin : textD most bs = (D.2.1.take D.1.toNat, D.2.1.drop D.1.toNat, 0) := by rw [HFIN.out, if_neg (by simp [h1]), if_neg h2]
      rw [hfin]
      have HX := Lib.hid (And.intro hfin h1); clear hfin h1
      go_enter Tryz.func78, Tryz.ntmps78
      go_wp2_with fail
      refine HN.out.mono ?_
      rintro r w1 ⟨rfl, HT⟩
      rw [HX.out.2] at HT
      obtain ⟨v1, h3⟩ := HT.ok
      obtain ⟨A1, c1, rfl⟩ := h3.slice
      have hd0 := h3.cell0
      have hd1 := h3.cell1
      have hf0 := h3.free 0
      have hf1 := h3.free 1
      obtain ⟨i0, hi, hz0, hz1, hz2⟩ := info_parts Tryz.info_u8
      obtain ⟨A2, hs2, hr2⟩ := slice_to h3.rd (t := 39) (e := 5) Tryz.underlying39 hi .i64 D.1 (by omega) (by omega)
      obtain ⟨A3, hs3, hr3⟩ := slice_from h3.rd (t := 39) (e := 5) Tryz.underlying39 hi hz1 .i64 D.1 (by omega) (by omega)
      have hcv := run_str (P := Tryz.prog) hr2 39 9 5 Tryz.underlying39 Tryz.underlying5 Tryz.underlying9
      have HF := Lib.hid (HT.trans (h3.moved hr3)); clear h3 hr2 hr3 HT hi hz0 hz1 hz2
      go_wp2
      go_ret
      exact ⟨rfl, HF.out⟩
  · have hfin : textD most bs = ([], bs, D.2.2) := by rw [HFIN.out, if_pos h1]
    rw [hfin]
    have HX := Lib.hid (And.intro hfin h1); clear hfin
    obtain ⟨q1, q2⟩ := hfl h1
    rw [q1, q2] at HN
    clear hfl q1 q2 hn0 h1
    go_enter Tryz.func78, Tryz.ntmps78
    go_wp2_with fail
    refine HN.out.mono ?_
    rintro r w1 ⟨rfl, HT⟩
    obtain ⟨⟨v1, e1, h3, _, h4⟩, hm⟩ := HT
    obtain ⟨b, hb, rfl, hF⟩ := h4 HX.out.2
    have hd0 := h3.cell0
    have hd1 := h3.cell1
    have HF : Hid (TapeTo w ok g w1 bs D.2.2) := ⟨⟨v1, _, h3, fun e => absurd e HX.out.2, fun _ => ⟨b, hb, rfl, hF⟩⟩, hm⟩
    clear h3 h4 hF hm
    go_wp2
    go_ret
    exact ⟨rfl, HF.out⟩
set_option maxRecDepth 100000 in
theorem tnew_any (v : Value) (bs : List UInt8) (ok : Nat → Prop) (w : World) (h : bytesR.rel w ok [v] bs) :
    Calls Tryz.prog 35 #[v] w fun e w' => ∃ g v', e = .returned (.pointer (some ⟨g, 0, none⟩)) ∧ w.heap.size ≤ g ∧ TapeAt w' (fun k => w.heap.size ≤ k) g v' .nilIface bs ∧ Mod (fun _ => False) w w' := by
  have hl : bs.length ≤ 140737488355328 := by obtain ⟨A, c, hv, h2, h3, h4, h5, h6⟩ := h; omega
  have HC := Lib.hid (clone_any v bs ok w h)
  clear h
  go_enter Tryz.func35, Tryz.ntmps35
  go_wp2_with fail
  refine HC.out.mono ?_
  rintro e w1 ⟨A, c, rfl, h1, h2⟩
  have HF := Lib.hid (And.intro h1 h2); clear h1 h2
  go_wp2
  go_ret
  obtain ⟨h1, h2⟩ := HF.out
  have hr := reads_bytes h1 hl
  refine ⟨w1.heap.size, _, rfl, h2.size, ⟨heap_alloc_new w1 _, ?_⟩, h2.alloc _⟩
  refine Rd.step bytesR (fun k hk hlt => ⟨⟨?_, by omega⟩, Below.heap_alloc _ _ _ hlt⟩) hr
  exact (own_lt h1 k hk).1
end Go.Proofs.YthhepnaanjicjaaGreatDoor

/- Layer 3, plain law: what is written is read again, and what is read is what was written. No program in it. -/
namespace Go.Proofs.YthhepnaanjicjaaGreatDoor
open Go.RowKit
theorem decF_enc (f : Nat) : ∀ (i : Nat) (a n : Int) (rest : List UInt8), 0 ≤ n → n < 128 ^ (f + 1) → n * 128 ^ i ≤ 4611686018427387903 → (0 < i → 0 < n) →
    decF i a (encF (f + 1) n ++ rest) = (a + n * 128 ^ i, (i : Int) + (encF (f + 1) n).length, 0) := by
  induction f with
  | zero =>
    intro i a n rest h0 h1 h2 h3
    have hlt : n < 128 := by simpa using h1
    rw [encF_lt _ _ hlt]
    have hi : ¬ i = 9 := by
      rintro rfl
      have := h3 (by decide)
      have e : (128 : Int) ^ 9 = 9223372036854775808 := by decide
      rw [e] at h2; omega
    have ht := u8_toNat n h0 (by omega)
    simp only [List.cons_append, List.nil_append, decF]
    rw [if_neg hi, if_neg (by omega), if_neg (by rintro ⟨e, hp⟩; have := h3 hp; omega), ht]
    simp
  | succ f ih =>
    intro i a n rest h0 h1 h2 h3
    by_cases hlt : n < 128
    · rw [encF_lt _ _ hlt]
      have hi : ¬ i = 9 := by
        rintro rfl
        have := h3 (by decide)
        have e : (128 : Int) ^ 9 = 9223372036854775808 := by decide
        rw [e] at h2; omega
      have ht := u8_toNat n h0 (by omega)
      simp only [List.cons_append, List.nil_append, decF]
      rw [if_neg hi, if_neg (by omega), if_neg (by rintro ⟨e, hp⟩; have := h3 hp; omega), ht]
      simp
    · rw [encF_ge _ _ hlt]
      have hi : ¬ i = 9 := by
        rintro rfl
        have e : (128 : Int) ^ 9 = 9223372036854775808 := by decide
        rw [e] at h2; omega
      have ht := u8_toNat (n % 128 + 128) (by omega) (by omega)
      have hp : (0 : Int) < 128 ^ i := Int.pow_pos (by decide)
      have hsum : (n % 128) * 128 ^ i + (n / 128) * 128 ^ (i + 1) = n * 128 ^ i := by
        rw [Int.pow_succ]
        have e : n = n % 128 + 128 * (n / 128) := by omega
        conv => rhs; rw [e]
        rw [Int.add_mul, Int.mul_comm 128 (n / 128), Int.mul_assoc (n / 128) 128, Int.mul_comm 128 (128 ^ i)]
      simp only [List.cons_append, decF]
      rw [if_neg hi, if_pos (by omega), ht]
      have h128 : (n / 128) * 128 ^ (i + 1) ≤ 4611686018427387903 := by
        have : 0 ≤ (n % 128) * 128 ^ i := Int.mul_nonneg (by omega) (by omega)
        omega
      rw [ih (i + 1) _ (n / 128) rest (by omega) (by rw [Int.pow_succ] at h1; generalize (128 : Int) ^ (f + 1) = p at *; omega) h128 (fun _ => by omega)]
      simp only [Prod.mk.injEq, and_true, List.length_cons]
      refine ⟨?_, by omega⟩
      rw [← hsum]
      have : n % 128 + 128 - 128 = n % 128 := by omega
      rw [this]; omega
theorem decF_inv (bs : List UInt8) : ∀ (i : Nat) (a : Int), i ≤ 9 → (decF i a bs).2.2 = 0 →
    ∃ n : Int, 0 ≤ n ∧ (0 < i → 0 < n) ∧ (decF i a bs).1 = a + n * 128 ^ i ∧ bs = encF (10 - i) n ++ bs.drop ((decF i a bs).2.1.toNat - i) := by
  induction bs with
  | nil => intro i a _ h; simp [decF] at h
  | cons c r ih =>
    intro i a hi h
    have hc := c.toNat_lt
    unfold decF at h ⊢
    split at h
    · simp at h
    rename_i h9
    rw [if_neg h9]
    split at h
    · rename_i h2
      rw [if_pos h2]
      obtain ⟨n, n0, np, hx, hb⟩ := ih (i + 1) _ (by omega) h
      have hpos := np (by omega)
      have hk := (decF_ok r (i + 1) (a + ((c.toNat : Int) - 128) * 128 ^ i))
      refine ⟨((c.toNat : Int) - 128) + 128 * n, by omega, fun _ => by omega, ?_, ?_⟩
      · rw [hx, Int.pow_succ, Int.add_mul, Int.mul_comm 128 n, Int.mul_assoc n 128, Int.mul_comm 128 (128 ^ i)]; omega
      · have e : 10 - i = (9 - i) + 1 := by omega
        rw [e, encF_ge _ _ (by omega)]
        have e1 : ((c.toNat : Int) - 128 + 128 * n) % 128 + 128 = (c.toNat : Int) := by omega
        have e2 : ((c.toNat : Int) - 128 + 128 * n) / 128 = n := by omega
        rw [e1, e2, u8_back, List.cons_append]
        have hk2 : ((i + 1 : Nat) : Int) < (decF (i + 1) (a + ((c.toNat : Int) - 128) * 128 ^ i) r).2.1 := by
          have : ∀ (bs : List UInt8) (i : Nat) (n : Int), (decF i n bs).2.2 = 0 → (i : Int) < (decF i n bs).2.1 := by
            intro bs
            induction bs with
            | nil => intro i n h; simp [decF] at h
            | cons c r ih =>
              intro i n h
              unfold decF at h ⊢
              split at h
              · simp at h
              split at h
              · rename_i h1 h2; rw [if_neg h1, if_pos h2]; have := ih _ _ h; omega
              split at h
              · simp at h
              rename_i h1 h2 h3; rw [if_neg h1, if_neg h2, if_neg h3]; simp only; omega
          exact this r _ _ h
        have e3 : (decF (i + 1) (a + ((c.toNat : Int) - 128) * 128 ^ i) r).2.1.toNat - i = ((decF (i + 1) (a + ((c.toNat : Int) - 128) * 128 ^ i) r).2.1.toNat - (i + 1)) + 1 := by omega
        rw [e3, List.drop_succ_cons]
        congr 1
        have e4 : 10 - (i + 1) = 9 - i := by omega
        rw [e4] at hb
        exact hb
    · rename_i h2
      rw [if_neg h2]
      split at h
      · simp at h
      rename_i h3
      rw [if_neg h3]
      refine ⟨c.toNat, by omega, fun hp => ?_, rfl, ?_⟩
      · have : ¬ c.toNat = 0 := fun e => h3 ⟨e, hp⟩
        omega
      · have e : 10 - i = (9 - i) + 1 := by omega
        rw [e, encF_lt _ _ (by omega), u8_back]
        have : ((i : Int) + 1).toNat - i = 1 := by omega
        simp only [this]
        rfl
theorem numD_enc {most n : Int} (rest : List UInt8) (h0 : 0 ≤ n) (h1 : n ≤ 4611686018427387903) (hm : n ≤ most) : numD most (encF 10 n ++ rest) = (n, rest, 0) := by
  have h := decF_enc 9 0 0 n rest h0 (by omega) (by simpa using h1) (by omega)
  have h' : decF 0 0 (encF 10 n ++ rest) = (n, ((encF 10 n).length : Int), 0) := by rw [h]; simp
  unfold numD
  rw [h']
  simp only [ne_eq, not_true_eq_false, if_false]
  rw [if_neg (by omega)]
  simp
theorem numD_inv {most : Int} {bs : List UInt8} (h : (numD most bs).2.2 = 0) : bs = encF 10 (numD most bs).1 ++ (numD most bs).2.1 := by
  unfold numD at h ⊢
  split at h
  · rename_i h1; exact absurd h h1
  rename_i h1
  rw [if_neg h1]
  split at h
  · simp at h
  rename_i h2
  rw [if_neg h2]
  obtain ⟨n, n0, _, hx, hb⟩ := decF_inv bs 0 0 (by omega) (by simpa using h1)
  have hx' : (decF 0 0 bs).1 = n := by rw [hx]; simp
  simp only [hx']
  simpa using hb
theorem textD_enc {most : Int} (s rest : List UInt8) (hs : (s.length : Int) ≤ most) (hl : s.length ≤ 4611686018427387903) : textD most (encF 10 s.length ++ (s ++ rest)) = (s, rest, 0) := by
  unfold textD
  rw [numD_enc (s ++ rest) (by omega) (by omega) hs]
  simp
  omega
theorem textD_inv {most : Int} {bs : List UInt8} (h : (textD most bs).2.2 = 0) : bs = encF 10 ((textD most bs).1.length) ++ (textD most bs).1 ++ (textD most bs).2.1 ∧ ((textD most bs).1.length : Int) = (numD most bs).1 := by
  have hn0 := numD_nonneg most bs
  unfold textD at h ⊢
  split at h
  · rename_i h1; exact absurd h h1
  rename_i h1
  rw [if_neg h1]
  split at h
  · simp at h
  rename_i h2
  rw [if_neg h2]
  have hb := numD_inv (most := most) (bs := bs) (by simpa using h1)
  have hl : ((numD most bs).2.1.take (numD most bs).1.toNat).length = (numD most bs).1.toNat := by rw [List.length_take]; omega
  have e : (((numD most bs).1.toNat : Nat) : Int) = (numD most bs).1 := by omega
  simp only [hl, e, and_true]
  rw [List.append_assoc, List.take_append_drop]
  exact hb
theorem numD_le {most : Int} {bs : List UInt8} (h : (numD most bs).2.2 = 0) : (numD most bs).1 ≤ most := by
  unfold numD at h ⊢
  split at h
  · rename_i h1; exact absurd h h1
  rename_i h1
  rw [if_neg h1]
  split at h
  · simp at h
  rename_i h2
  rw [if_neg h2]
  simp only; omega
end Go.Proofs.YthhepnaanjicjaaGreatDoor

/- Layer 3's tape in any state (bytes that are left, a fault's number or 0): Number, Text, Err. -/
namespace Go.Proofs.YthhepnaanjicjaaGreatDoor
open Go.RowKit
set_option linter.unusedVariables false
abbrev TSt := List UInt8 × Int
def numS (most : Int) (s : TSt) : Int × TSt := if s.2 ≠ 0 then (0, s) else ((numD most s.1).1, (numD most s.1).2)
def textS (most : Int) (s : TSt) : List UInt8 × TSt := if s.2 ≠ 0 then ([], s) else ((textD most s.1).1, (textD most s.1).2)
/-- The tape's block g is in this state. -/
def TapeS (w : World) (ok : Nat → Prop) (g : Nat) (s : TSt) : Prop :=
  ∃ v e, TapeAt w ok g v e s.1 ∧ (s.2 = 0 → e = .nilIface) ∧ (s.2 ≠ 0 → ∃ T p, e = .iface T p)
theorem TapeS.lt {w : World} {ok : Nat → Prop} {g : Nat} {s : TSt} (h : TapeS w ok g s) : g < w.heap.size := by
  obtain ⟨v, e, h1, _⟩ := h
  exact lt_of_blk h1.blk
theorem TapeS.mod {w w1 : World} {ok : Nat → Prop} {g : Nat} {s : TSt} {S : Nat → Prop} (h : TapeS w ok g s) (hm : Mod S w w1) (hg : ¬ S g) (hd : ∀ k, ok k → ¬ S k) : TapeS w1 ok g s := by
  obtain ⟨v, e, h1, h2⟩ := h
  exact ⟨v, e, ⟨(hm.block g (lt_of_blk h1.blk) hg).trans h1.blk, Rd.mod h1.rd hm (fun k hk => hd k hk.1)⟩, h2⟩
theorem TapeS.bound {w : World} {ok : Nat → Prop} {g : Nat} {s : TSt} (h : TapeS w ok g s) : TapeS w (fun k => ok k ∧ k < w.heap.size) g s := by
  obtain ⟨v, e, h1, h2⟩ := h
  exact ⟨v, e, ⟨h1.blk, Rd.mono (Rd.bound h1.rd) (fun k hk => ⟨⟨hk.1.1, hk.2⟩, hk.1.2⟩)⟩, h2⟩
theorem TapeS.mono {w : World} {ok ok1 : Nat → Prop} {g : Nat} {s : TSt} (h : TapeS w ok g s) (hk : ∀ k, ok k → ok1 k) : TapeS w ok1 g s := by
  obtain ⟨v, e, h1, h2⟩ := h
  exact ⟨v, e, ⟨h1.blk, Rd.mono h1.rd (fun k h => ⟨hk k h.1, h.2⟩)⟩, h2⟩
theorem TapeTo.state {w w1 : World} {ok : Nat → Prop} {g : Nat} {bs : List UInt8} {c : Int} (h : TapeTo w ok g w1 bs c) : TapeS w1 ok g (bs, c) := by
  obtain ⟨⟨v, e, h1, h2, h3⟩, _⟩ := h
  refine ⟨v, e, h1, h2, fun hc => ?_⟩
  obtain ⟨b, _, h4, _⟩ := h3 hc
  exact ⟨_, _, h4⟩
theorem TapeAt.state {w : World} {ok : Nat → Prop} {g : Nat} {v : Value} {bs : List UInt8} (h : TapeAt w ok g v .nilIface bs) : TapeS w ok g (bs, 0) := ⟨v, _, h, fun _ => rfl, fun h => absurd rfl h⟩
set_option maxRecDepth 100000 in
theorem tnumS_any (g : Nat) (ok : Nat → Prop) (s : TSt) (most : Int) (w : World) (h : TapeS w ok g s) :
    Calls Tryz.prog 77 #[.pointer (some ⟨g, 0, none⟩), .int .i64 most] w fun r w' => r = .returned (.int .i64 (numS most s).1) ∧ TapeS w' ok g (numS most s).2 ∧ Mod (fun k => k = g) w w' := by
  unfold numS
  obtain ⟨v, e, h1, h2, h3⟩ := h
  by_cases hs : s.2 = 0
  · obtain rfl := h2 hs
    rw [if_neg (by simp [hs])]
    refine (tnum_any g ok v s.1 most w h1).mono ?_
    rintro r w' ⟨rfl, ht⟩
    exact ⟨rfl, ht.state, ht.mod⟩
  · rw [if_pos hs]
    obtain ⟨T, p, rfl⟩ := h3 hs
    have hc1 := h1.cell1
    have HX := Lib.hid (And.intro h1 hs); clear h1 h2 h3 hs
    go_enter Tryz.func77, Tryz.ntmps77
    go_wp2_with fail
    go_ret
    exact ⟨rfl, ⟨v, _, HX.out.1, fun h => absurd h HX.out.2, fun _ => ⟨T, p, rfl⟩⟩, .refl _ _⟩
set_option maxRecDepth 100000 in
theorem ttextS_any (g : Nat) (ok : Nat → Prop) (s : TSt) (most : Int) (w : World) (h : TapeS w ok g s) :
    Calls Tryz.prog 78 #[.pointer (some ⟨g, 0, none⟩), .int .i64 most] w fun r w' => r = .returned (.string (mkStr (textS most s).1)) ∧ TapeS w' ok g (textS most s).2 ∧ Mod (fun k => k = g) w w' := by
  unfold textS
  obtain ⟨v, e, h1, h2, h3⟩ := h
  by_cases hs : s.2 = 0
  · obtain rfl := h2 hs
    rw [if_neg (by simp [hs])]
    refine (ttext_any g ok v s.1 most w h1).mono ?_
    rintro r w' ⟨rfl, ht⟩
    exact ⟨rfl, ht.state, ht.mod⟩
  · rw [if_pos hs]
    obtain ⟨T, p, rfl⟩ := h3 hs
    have hc1 := h1.cell1
    have HX := Lib.hid (And.intro h1 hs); clear h1 h2 h3 hs
    go_enter Tryz.func78, Tryz.ntmps78
    go_wp2_with fail
    go_ret
    exact ⟨rfl, ⟨v, _, HX.out.1, fun h => absurd h HX.out.2, fun _ => ⟨T, p, rfl⟩⟩, .refl _ _⟩
set_option maxRecDepth 100000 in
theorem terrS_any (g : Nat) (ok : Nat → Prop) (s : TSt) (w : World) (h : TapeS w ok g s) :
    Calls Tryz.prog 79 #[.pointer (some ⟨g, 0, none⟩)] w fun r w' => ∃ e, r = .returned e ∧ (s.2 = 0 → e = .nilIface) ∧ (s.2 ≠ 0 → ∃ T p, e = .iface T p) ∧ w = w' := by
  obtain ⟨v, e, h1, h2⟩ := h
  have hc1 := h1.cell1
  have HX := Lib.hid h2; clear h1 h2
  go_enter Tryz.func79, Tryz.ntmps79
  go_wp2_with fail
  go_ret
  exact ⟨e, rfl, HX.out.1, HX.out.2, rfl⟩
theorem textS_len (most : Int) (s : TSt) : (textS most s).1.length ≤ s.1.length := by
  unfold textS textD
  split
  · simp
  split
  · simp
  split
  · simp
  · rename_i h1 h2 h3
    have hd : (numD most s.1).2.1.length ≤ s.1.length := by
      unfold numD
      split
      · simp
      split
      · simp
      · simp
    simp only [List.length_take]
    omega
theorem numS_range {most : Int} (s : TSt) (hm : 0 ≤ most) : 0 ≤ (numS most s).1 ∧ (numS most s).1 ≤ most := by
  unfold numS
  split
  · exact ⟨Int.le_refl _, hm⟩
  · unfold numD
    split
    · exact ⟨Int.le_refl _, hm⟩
    split
    · exact ⟨Int.le_refl _, hm⟩
    · simp only; omega
end Go.Proofs.YthhepnaanjicjaaGreatDoor

/- Layer 6, label: Put. -/
namespace Go.Proofs.YthhepnaanjicjaaGreatDoor
open Go.RowKit Go.Shelf
set_option linter.unusedVariables false
def encN (n : Int) : List UInt8 := if 0 ≤ n ∧ n ≤ 4611686018427387903 then encF 10 n else []
def encEn (e : Entry) : List UInt8 := (encF 10 (nm e).length ++ nm e) ++ encN e.level
def encL (l : List Entry) : List UInt8 := encF 10 l.length ++ l.flatMap encEn
theorem encN_len (n : Int) : (encN n).length ≤ 10 := by
  unfold encN
  split
  · exact encF_len 10 n
  · simp
theorem encEn_len (e : Entry) (h : (nm e).length ≤ 1000000) : (encEn e).length ≤ 1000020 := by
  unfold encEn
  have h1 := encF_len 10 ((nm e).length : Int)
  have h2 := encN_len e.level
  simp only [List.length_append]
  omega
theorem flat_len : ∀ (l : List Entry), (∀ e ∈ l, (nm e).length ≤ 1000000) → (l.flatMap encEn).length ≤ 1000020 * l.length
  | [], _ => by simp
  | e :: r, h => by
    have h1 := flat_len r fun x hx => h x (List.mem_cons_of_mem _ hx)
    have h2 := encEn_len e (h e List.mem_cons_self)
    rw [List.flatMap_cons, List.length_append, List.length_cons, Nat.mul_succ]
    omega
set_option maxRecDepth 100000 in
set_option maxHeartbeats 1000000 in
theorem pnumber_any (g base : Nat) (n : Int) (v : Value) (bs : List UInt8) (w : World) (hp : PenAt w base g v bs) (hb : base ≤ w.heap.size) (hl : bs.length ≤ 140737488300000) :
    Calls Tryz.prog 70 #[.pointer (some ⟨g, 0, none⟩), .int .i64 n] w fun e w' => ∃ b v', e = .returned (.bool b) ∧ PenTo base g w v w' v' (bs ++ encN n) := by
  unfold encN
  by_cases h : 0 ≤ n ∧ n ≤ 4611686018427387903
  · rw [if_pos h]
    exact (pnum_any g base n v bs w hp hb h.1 h.2 hl).mono fun _ _ ⟨h1, v', h2⟩ => ⟨true, v', h1, h2⟩
  · rw [if_neg h, List.append_nil]
    refine (num_no (some ⟨g, 0, none⟩) n w (by omega)).mono ?_
    rintro e w' ⟨rfl, rfl⟩
    exact ⟨false, v, rfl, .refl hp⟩
theorem PenTo.alloc {base g : Nat} {w w1 : World} {v v1 : Value} {bs1 : List UInt8} (h : PenTo base g w v w1 v1 bs1) (o : Obj) : PenTo base g w v (w1.alloc o) v1 bs1 :=
  ⟨⟨(heap_alloc_old w1 o h.at_.lt).trans h.at_.blk, h.at_.own.alloc o, h.at_.base, h.at_.ne⟩, h.mod.alloc o, h.new⟩
set_option maxRecDepth 100000 in
set_option maxHeartbeats 2000000 in
theorem put_any (g base : Nat) (v : Value) (bs : List UInt8) (A : Option Addr) (n c : Nat) (l : List Entry) (ok : Nat → Prop) (w : World) (hp : PenAt w base g v bs) (hb : base ≤ w.heap.size) (h : labR.rel w ok [.slice A n c] l) (hap : ∀ k, ok k → ¬ (k = g ∨ v.ownBlock = some k)) (hl : l.length ≤ 1000) (hnm : ∀ e ∈ l, (nm e).length ≤ 1000000) (hbl : bs.length ≤ 1000000) :
    Calls Tryz.prog 50 #[.pointer (some ⟨g, 0, none⟩), .slice A n c] w fun r w' => r = .returned (.tuple #[]) ∧ ∃ v', PenTo base g w v w' v' (bs ++ encL l) := by
  obtain ⟨rfl, hcap, -, hbig, -, hrow⟩ := lab_row h
  obtain ⟨b0, hb0⟩ : ∃ b0, b0 = bs ++ encF 10 l.length := ⟨_, rfl⟩
  have hb0l : b0.length ≤ 1000010 := by rw [hb0, List.length_append]; have := encF_len 10 (l.length : Int); omega
  have hn := pnum_any g base l.length v bs w hp hb (by omega) (by omega) (by omega)
  rw [← hb0] at hn
  have hend : bs ++ encL l = b0 ++ l.flatMap encEn := by unfold encL; rw [hb0, List.append_assoc]
  rw [hend]
  have H0 := Lib.hid (And.intro hrow (And.intro hap (And.intro hnm (And.intro hn hb)))); clear hp hb h hrow hap hnm hn hb0 hend
  go_enter Tryz.func50, Tryz.ntmps50
  go_wp2_with fail
  refine H0.out.2.2.2.1.mono ?_
  rintro r w1 ⟨rfl, v1, ht1⟩
  have H1 := Lib.hid ht1; clear ht1
  go_wp2_with fail
  go_loopg [12] l.length (fun f si wr => ∃ (i : Nat) (vi : Value), si = .int .i64 i ∧ i + f = l.length ∧ PenTo base g w v wr vi (b0 ++ (l.take i).flatMap encEn))
  case atStart => exact ⟨0, v1, rfl, by omega, by simpa using H1.out⟩
  case round =>
    obtain ⟨i, vi, rfl, hi, ht⟩ := hrel
    by_cases hlt : i < l.length
    · obtain ⟨d, m, hx⟩ : ∃ d m, l[i]? = some (ent d m) := by
        obtain ⟨d, m, e⟩ := ent_cases l[i]
        exact ⟨d, m, by rw [← e]; simp [hlt]⟩
      obtain ⟨ad, rfl, -, hc0, hc1, hdl, -⟩ := row_ent (H0.out.1.step (w1 := wr) (ok1 := fun _ => True) (fun k hk hl => ⟨trivial, ht.mod.block k hl (H0.out.2.1 k hk)⟩)) hx
      have hd6 : d.length ≤ 1000000 := by have := H0.out.2.2.1 _ (List.mem_of_getElem? hx); rwa [nm_ent] at this
      have hfl := flat_len (l.take i) (fun e he => H0.out.2.2.1 e (List.mem_of_mem_take he))
      rw [List.length_take] at hfl
      obtain ⟨bi, hbi⟩ : ∃ bi, bi = b0 ++ (l.take i).flatMap encEn := ⟨_, rfl⟩
      have hbil : bi.length ≤ 2000000000 := by
        rw [hbi, List.length_append]
        have : 1000020 * min i l.length ≤ 1000020 * 1000 := Nat.mul_le_mul_left _ (by omega)
        omega
      have htk : b0 ++ (l.take (i + 1)).flatMap encEn = (bi ++ encF 10 d.length ++ d) ++ encN m := by rw [List.take_add_one, hx, List.flatMap_append, hbi]; simp [encEn, nm_ent, lev_ent]
      rw [← hbi] at ht
      have hsz := ht.mod.size
      have HX := Lib.hid (And.intro hi (And.intro ht htk)); clear hi htk hx hbi hfl
      go_wp2_with fail
      obtain ⟨W1, hW1⟩ : ∃ W1, W1 = wr.alloc (.cells #[.string ⟨d.toArray⟩, .int .i64 m] 63) := ⟨_, rfl⟩
      rw [← hW1]
      obtain ⟨k0, k1⟩ := cells2 wr (.string ⟨d.toArray⟩) (.int .i64 m) 63
      rw [← hW1] at k0 k1
      have htW : PenTo base g w v W1 vi bi := by rw [hW1]; exact ht.alloc _
      obtain ⟨gv, hgv⟩ : ∃ gv, gv = wr.heap.size := ⟨_, rfl⟩
      rw [← hgv] at k0 k1 ⊢
      have hne : ¬ (gv = g ∨ vi.ownBlock = some gv) := by
        rintro (e | e)
        · have := ht.at_.lt; omega
        · have := (own_lt ht.at_.own gv e).2; omega
      have htx := ptext_any g base ⟨d.toArray⟩ vi bi W1 htW.at_ (Nat.le_trans H0.out.2.2.2.2 htW.mod.size) (by show d.length ≤ _; omega) (by omega)
      have H2 := Lib.hid (And.intro htW (And.intro hne (And.intro htx k1))); clear htW hne htx hW1 hgv hc0 hc1 ht k1
      go_wp2_with fail
      refine H2.out.2.2.1.mono ?_
      rintro r w2 ⟨rfl, v2, ht2⟩
      have q1 := (ht2.mod.cell (cell_lt H2.out.2.2.2) H2.out.2.1).trans H2.out.2.2.2
      have ht2' := H2.out.1.trans ht2
      have hpn := pnumber_any g base m v2 _ w2 ht2.at_ (Nat.le_trans H0.out.2.2.2.2 ht2'.mod.size) (by have := encF_len 10 ((⟨d.toArray⟩ : ByteArray).size : Int); simp only [List.length_append]; show bi.length + _ + d.length ≤ _; omega)
      have H3 := Lib.hid (And.intro ht2' hpn); clear ht2 ht2' hpn
      go_wp2_with fail
      refine H3.out.2.mono ?_
      rintro r w3 ⟨bb, v3, rfl, ht3⟩
      have H4 := Lib.hid (H3.out.1.trans ht3); clear ht3
      go_wp2_with fail
      go_roundg (gk - 1)
      case measure => have := HX.out.1; omega
      case rel => exact ⟨i + 1, v3, by go_num, by have := HX.out.1; omega, by rw [HX.out.2.2]; exact H4.out⟩
    · have hie : l.take i = l := List.take_of_length_le (by omega)
      rw [hie] at ht
      have HX := Lib.hid ht; clear ht hie hi
      go_wp2_with fail
      go_end0
      exact ⟨rfl, vi, HX.out⟩
end Go.Proofs.YthhepnaanjicjaaGreatDoor

/- Layer 6, label: Get, of a tape in any state. -/
namespace Go.Proofs.YthhepnaanjicjaaGreatDoor
open Go.RowKit Go.Shelf
set_option linter.unusedVariables false
theorem textS_le {most : Int} (s : TSt) (hm : 0 ≤ most) : ((textS most s).1.length : Int) ≤ most := by
  unfold textS textD
  split
  · simpa using hm
  split
  · simpa using hm
  split
  · simpa using hm
  · rename_i h1 h2 h3
    have := numD_le (most := most) (bs := s.1) (by omega)
    have h0 := numD_nonneg most s.1
    simp only [List.length_take]
    omega
def getN : Nat → TSt → List Entry × TSt
  | 0, s => ([], s)
  | k + 1, s => (ent (textS 80 s).1 (numS 3 (textS 80 s).2).1 :: (getN k (numS 3 (textS 80 s).2).2).1, (getN k (numS 3 (textS 80 s).2).2).2)
theorem getN_len (k : Nat) : ∀ s, (getN k s).1.length = k := by
  induction k with
  | zero => intro s; rfl
  | succ k ih => intro s; simp [getN, ih]
theorem getN_name (k : Nat) : ∀ s, ∀ e ∈ (getN k s).1, (nm e).length ≤ 80 ∧ 0 ≤ e.level ∧ e.level ≤ 3 := by
  induction k with
  | zero => intro s e he; simp [getN] at he
  | succ k ih =>
    intro s e he
    simp only [getN, List.mem_cons] at he
    rcases he with rfl | he
    · rw [nm_ent, lev_ent]
      have h1 := textS_le s (most := 80) (by decide)
      have h2 := numS_range (textS 80 s).2 (most := 3) (by decide)
      omega
    · exact ih _ e he
/-- What Get of a tape answers: the label, the error, the tape's state. -/
noncomputable def getL (s : TSt) : List Entry × Int × TSt :=
  if (getN (numS 8 s).1.toNat (numS 8 s).2).2.2 ≠ 0 ∨ rightLB (getN (numS 8 s).1.toNat (numS 8 s).2).1 = false then ([], 10, (getN (numS 8 s).1.toNat (numS 8 s).2).2) else ((getN (numS 8 s).1.toNat (numS 8 s).2).1, 0, (getN (numS 8 s).1.toNat (numS 8 s).2).2)
set_option maxRecDepth 100000 in
set_option maxHeartbeats 2000000 in
theorem getL_any (g : Nat) (ok : Nat → Prop) (s : TSt) (w : World) (h : TapeS w ok g s) (hE : ∀ W, Mod (fun k => k = g) w W → Env W) :
    Calls Tryz.prog 56 #[.pointer (some ⟨g, 0, none⟩)] w fun r w' => ∃ A c, r = .returned (.tuple #[.slice A (getL s).1.length c, .int .i64 (getL s).2.1]) ∧ OwnR EntryR 63 w' w.heap.size (fun _ => False) (.slice A (getL s).1.length c) (getL s).1 ∧ TapeS w' ok g (getL s).2.2 ∧ Mod (fun k => k = g) w w' := by
  obtain ⟨z, hz⟩ : ∃ z, z = getL s := ⟨_, rfl⟩
  rw [← hz]
  unfold getL at hz
  have hgw := h.lt
  have hbd : ∀ W, TapeS W (fun k => ok k ∧ k < w.heap.size) g z.2.2 → TapeS W ok g z.2.2 := fun W hW => hW.mono fun k hk => hk.1
  have h := h.bound
  obtain ⟨ok1, hok1⟩ : ∃ ok1, ok1 = fun k => ok k ∧ k < w.heap.size := ⟨_, rfl⟩
  have hok2 : ∀ k, ok1 k → k < w.heap.size := fun k hk => by rw [hok1] at hk; exact hk.2
  rw [← hok1] at h hbd
  have hn := tnumS_any g ok1 s 8 w h
  have hr := numS_range s (most := 8) (by decide)
  obtain ⟨s1, hs1⟩ : ∃ s1, s1 = (numS 8 s).2 := ⟨_, rfl⟩
  obtain ⟨K, hK⟩ : ∃ K : Nat, K = (numS 8 s).1.toNat := ⟨_, rfl⟩
  have hK' : (numS 8 s).1 = K := by omega
  rw [← hs1, hK'] at hn
  rw [← hs1, ← hK] at hz
  have hK8 : K ≤ 8 := by omega
  have H0 := Lib.hid (And.intro hn (And.intro hz (And.intro hE (And.intro hgw (And.intro hbd hok2))))); clear h hn hz hE hr hs1 hK hK' hgw hbd hok1 hok2
  go_enter Tryz.func56, Tryz.ntmps56
  go_wp2_with fail
  refine H0.out.1.mono ?_
  rintro r w1 ⟨rfl, ht1, hm1⟩
  have H1 := Lib.hid (And.intro ht1 hm1); clear ht1 hm1
  go_wp2_with fail
  go_loopg [4, 7] K (fun f so si wr => ∃ (i : Nat) (A : Option Addr) (c : Nat) (lst : List Entry) (s2 : TSt), si = .int .i64 i ∧ so = .slice A i c ∧ i + f = K ∧ lst.length = i ∧ getN K s1 = (lst ++ (getN f s2).1, (getN f s2).2) ∧ OwnR EntryR 63 wr w.heap.size (fun _ => False) (.slice A i c) lst ∧ TapeS wr ok1 g s2 ∧ Mod (fun k => k = g) w wr)
  case atStart => exact ⟨0, none, 0, [], s1, rfl, rfl, by omega, rfl, by simp, OwnR.nil _ _ _ _ _, H1.out.1, H1.out.2⟩
  case round =>
    obtain ⟨i, A, c, lst, s2, rfl, rfl, hi, hll, hget, hO, hT, hmod⟩ := hrel
    by_cases hlt : i < K
    · obtain ⟨f, rfl⟩ : ∃ f, gk = f + 1 := ⟨gk - 1, by omega⟩
      obtain ⟨d, hd⟩ : ∃ d, d = (textS 80 s2).1 := ⟨_, rfl⟩
      obtain ⟨s3, hs3⟩ : ∃ s3, s3 = (textS 80 s2).2 := ⟨_, rfl⟩
      obtain ⟨m, hm⟩ : ∃ m, m = (numS 3 s3).1 := ⟨_, rfl⟩
      obtain ⟨s4, hs4⟩ : ∃ s4, s4 = (numS 3 s3).2 := ⟨_, rfl⟩
      have hdl : d.length ≤ 80 := by have := textS_le s2 (most := 80) (by decide); rw [← hd] at this; omega
      have hmr := numS_range s3 (most := 3) (by decide)
      rw [← hm] at hmr
      have hget' : getN K s1 = ((lst ++ [ent d m]) ++ (getN f s4).1, (getN f s4).2) := by rw [hget, getN, ← hs3, ← hd, ← hm, ← hs4]; simp
      have htx := ttextS_any g ok1 s2 80 wr hT
      unfold mkStr at htx
      rw [← hd, ← hs3] at htx
      have hnx := fun W hW => tnumS_any g ok1 s3 3 W hW
      rw [← hm, ← hs4] at hnx
      have hE : ∀ (W : World) (T : Nat → Prop), EntryR.rel W T [.string ⟨d.toArray⟩, .int .i64 m] (ent d m) := fun W T => EntryR_mk _ _ (ent d m) (by rw [show (ent d m).cat.size = d.length from mkStr_size d]; omega) (by rw [lev_ent]; exact inR_mk (by omega))
      have HX := Lib.hid (And.intro hi (And.intro hll (And.intro hget' (And.intro hO (And.intro htx (And.intro hnx (And.intro hmod hE)))))))
      clear hi hll hget hget' hO htx hnx hmod hE hT hd hs3 hm hs4 hmr
      go_wp2_with fail
      refine HX.out.2.2.2.2.1.mono ?_
      rintro r w2 ⟨rfl, ht2, hm2⟩
      have H2 := Lib.hid (And.intro (HX.out.2.2.2.2.2.1 w2 ht2) hm2); clear ht2 hm2
      go_wp2_with fail
      refine H2.out.1.mono ?_
      rintro r w3 ⟨rfl, ht3, hm3⟩
      have hmr3 := H2.out.2.trans hm3 (fun _ h => .inl h)
      have hm03 := HX.out.2.2.2.2.2.2.1.trans hmr3 (fun _ h => .inl h)
      have hO3 := HX.out.2.2.2.1.mod hmr3 (fun k hk e => by obtain ⟨cells, hown, _⟩ := HX.out.2.2.2.1; have h1 := (own_lt hown k hk).1; have h2 := H0.out.2.2.2.1; omega) (fun _ h => h.elim)
      have hsz := hm03.size
      have hll := HX.out.2.1
      have H3 := Lib.hid (And.intro hO3 (And.intro ht3 (And.intro hm03 hsz))); clear ht3 hm3 hmr3 hm03 hO3 hsz
      go_wp2_with (first
        | (refine wpList_slice1_agg rfl 23 63 _ rfl Tryz.underlying23 zeroEnt.toArray [.string ⟨d.toArray⟩, .int .i64 m] Tryz.info_ent2 (by decide) rfl rfl ?_)
        | (at_builtin; refine append_rd (R := EntryR) w.heap.size rfl _ _ 23 63 (.agg zeroEnt.toArray) 24 rfl Tryz.underlying23 Tryz.info_ent3 rfl (by decide) (.slice A i c) lst (ent d m) [.string ⟨d.toArray⟩, .int .i64 m] (fun _ => False) rfl rfl H3.out.1 (HX.out.2.2.2.2.2.2.2 _ _) H3.out.2.2.2 (by rw [hll]; omega) ?_))
      intro A8 c8 w8 hO8 hm8 hn8
      have hne : ∀ k, (Value.slice A i c).ownBlock = some k → w.heap.size ≤ k := fun k hk => by obtain ⟨cells, hown, _⟩ := H3.out.1; exact (own_lt hown k hk).1
      have hap : ∀ k, ok1 k → ¬ (Value.slice A i c).ownBlock = some k := fun k hk e => by have h1 := hne k e; have h2 := H0.out.2.2.2.2.2 k hk; omega
      have hm08 := H3.out.2.2.1.trans hm8 (fun k hk => .inr (hne k hk))
      have H8 := Lib.hid (And.intro hO8 (And.intro (H3.out.2.1.mod hm8 (fun hk => by have := hne _ hk; have := H0.out.2.2.2.1; omega) hap) hm08)); clear hO8 hm8 hn8 hm08 hne hap
      go_wp2_with fail
      go_roundg f
      case measure => omega
      case rel => exact ⟨i + 1, A8, c8, lst ++ [ent d m], s4, by go_num, rfl, by have := HX.out.1; omega, by simp; omega, HX.out.2.2.1, H8.out.1, H8.out.2.1, H8.out.2.2⟩
    · obtain rfl : gk = 0 := by omega
      obtain rfl : i = K := by omega
      have hget' : getN i s1 = (lst, s2) := by rw [hget]; simp [getN]
      have hzz := H0.out.2.1
      rw [hget'] at hzz
      have her := terrS_any g ok1 s2 wr hT
      have hrd := hO.reads (bytes := 24) (by omega)
      have hrt := fun E => rightLab_any A i c lst _ wr hrd E
      have hrt2 := hrt (H0.out.2.2.1 wr hmod)
      have HX := Lib.hid (And.intro hO (And.intro hT (And.intro hmod (And.intro hzz (And.intro her (And.intro hrt2 hll))))))
      clear hi hll hget hget' hO hT hmod hzz her hrd hrt hrt2
      by_cases hs : s2.2 = 0
      · go_wp2_with fail
        refine HX.out.2.2.2.2.1.mono ?_
        rintro r w2 ⟨e, rfl, he, -, rfl⟩
        obtain rfl := he hs
        cases hrb : rightLB lst with
        | true =>
          have hrt := HX.out.2.2.2.2.2.1
          rw [hrb] at hrt
          have hz' : z = (lst, 0, s2) := by rw [HX.out.2.2.2.1, if_neg (by simp [hs, hrb])]
          have HR := Lib.hid hrt; clear hrt hrb hs
          subst hz'
          go_wp2_with fail
          refine HR.out.mono ?_
          rintro r w3 ⟨rfl, hm3⟩
          have H3 := Lib.hid hm3; clear hm3
          go_wp2_with fail
          go_ret2
          have hll := HX.out.2.2.2.2.2.2
          subst hll
          exact ⟨A, c, rfl, HX.out.1.mod H3.out (fun _ _ => id) (fun _ _ _ => id), H0.out.2.2.2.2.1 _ (HX.out.2.1.mod H3.out id (fun _ _ => id)), tr0 HX.out.2.2.1 H3.out⟩
        | false =>
          have hrt := HX.out.2.2.2.2.2.1
          rw [hrb] at hrt
          have hz' : z = ([], 10, s2) := by rw [HX.out.2.2.2.1, if_pos (.inr hrb)]
          have HR := Lib.hid hrt; clear hrt hrb hs
          subst hz'
          go_wp2_with fail
          refine HR.out.mono ?_
          rintro r w3 ⟨rfl, hm3⟩
          have H3 := Lib.hid hm3; clear hm3
          go_wp2_with fail
          go_ret2
          exact ⟨none, 0, rfl, OwnR.nil _ _ _ _ _, H0.out.2.2.2.2.1 _ (HX.out.2.1.mod H3.out id (fun _ _ => id)), tr0 HX.out.2.2.1 H3.out⟩
      · have hz' : z = ([], 10, s2) := by rw [HX.out.2.2.2.1, if_pos (.inl hs)]
        go_wp2_with fail
        refine HX.out.2.2.2.2.1.mono ?_
        rintro r w2 ⟨e, rfl, -, he, rfl⟩
        obtain ⟨T, p, rfl⟩ := he hs
        clear he hs
        subst hz'
        go_wp2_with fail
        go_ret2
        exact ⟨none, 0, rfl, OwnR.nil _ _ _ _ _, H0.out.2.2.2.2.1 _ HX.out.2.1, HX.out.2.2.1⟩
end Go.Proofs.YthhepnaanjicjaaGreatDoor

/- Layer 6, label: what is put is got; flowing is an order with joins and meets. No program in it. -/
namespace Go.Proofs.YthhepnaanjicjaaGreatDoor
open Go.RowKit
set_option linter.unusedVariables false
theorem dec_len (j : Nat) : ∀ m : Nat, m < 10 ^ (j + 1) → (Lib.decDigits m).length ≤ j + 1 := by
  induction j with
  | zero =>
    intro m h
    rw [Lib.decDigits_one (by simpa using h)]; simp
  | succ j ih =>
    intro m h
    by_cases h10 : m < 10
    · rw [Lib.decDigits_one h10]; simp
    · have h1 := ih (m / 10) (by rw [Nat.div_lt_iff_lt_mul (by decide)]; rwa [Nat.pow_succ] at h)
      rw [dec_step m (by omega), List.length_append]
      simp only [List.length_cons, List.length_nil]
      omega
theorem itoa_len7 (k : Int) (h0 : 0 ≤ k) (h1 : k ≤ 1048576) : (Lib.itoa k).length ≤ 7 := by
  obtain ⟨u, rfl⟩ : ∃ u : Nat, k = u := ⟨k.toNat, by omega⟩
  rw [Lib.itoa_nonneg]
  exact dec_len 6 u (by have : (10 : Nat) ^ (6 + 1) = 10000000 := by decide
                        omega)
theorem pathT_len8 : ∀ l : List Int, (∀ k ∈ l, 0 ≤ k ∧ k ≤ 1048576) → (pathT l).length ≤ 8 * l.length
  | [], _ => by simp [pathT]
  | [a], h => by
    have := itoa_len7 a (h a (by simp)).1 (h a (by simp)).2
    simp only [pathT, List.length_cons, List.length_nil]; omega
  | a :: b :: l, h => by
    have h1 := itoa_len7 a (h a (by simp)).1 (h a (by simp)).2
    have h2 := pathT_len8 (b :: l) (fun x hx => h x (List.mem_cons_of_mem _ hx))
    simp only [pathT, List.length_append, List.length_cons] at h2 ⊢
    omega
theorem rightB_len {c : List UInt8} (h : rightB c = true) : c.length ≤ 80 := by
  unfold rightB at h
  obtain ⟨⟨p, n⟩, hp⟩ := Option.isSome_iff_exists.1 h
  obtain ⟨hf, rfl⟩ := parse_iff.1 hp
  simp only [fitsB, Bool.and_eq_true, decide_eq_true_eq, List.all_eq_true] at hf
  obtain ⟨⟨⟨h1, h2⟩, h3⟩, h4⟩ := hf
  have h5 := pathT_len8 p h4
  have h6 := itoa_len7 n h1 (by omega)
  simp only [catT, List.length_append, List.length_cons]
  omega
theorem right_names {l : List Entry} (h : RightL l) : ∀ e ∈ l, (nm e).length ≤ 80 ∧ 0 ≤ e.level ∧ e.level ≤ 3 := fun e he => by
  obtain ⟨h1, h2, h3, _⟩ := h.each e he
  exact ⟨rightB_len h1, h2, h3⟩
theorem numS_enc {most n : Int} (rest : List UInt8) (h0 : 0 ≤ n) (h1 : n ≤ 4611686018427387903) (hm : n ≤ most) : numS most (encF 10 n ++ rest, 0) = (n, (rest, 0)) := by
  unfold numS
  rw [if_neg (by simp), numD_enc rest h0 h1 hm]
theorem textS_enc {most : Int} (s rest : List UInt8) (hs : (s.length : Int) ≤ most) (hl : s.length ≤ 4611686018427387903) : textS most (encF 10 s.length ++ (s ++ rest), 0) = (s, (rest, 0)) := by
  unfold textS
  rw [if_neg (by simp), textD_enc s rest hs hl]
theorem getN_enc : ∀ (l : List Entry) (rest : List UInt8), (∀ e ∈ l, (nm e).length ≤ 80 ∧ 0 ≤ e.level ∧ e.level ≤ 3) → getN l.length (l.flatMap encEn ++ rest, 0) = (l, (rest, 0))
  | [], rest, _ => by simp [getN]
  | e :: l, rest, h => by
    obtain ⟨h1, h2, h3⟩ := h e List.mem_cons_self
    have ih := getN_enc l rest fun x hx => h x (List.mem_cons_of_mem _ hx)
    have hl : (e :: l).flatMap encEn ++ rest = encF 10 (nm e).length ++ (nm e ++ (encF 10 e.level ++ (l.flatMap encEn ++ rest))) := by
      rw [List.flatMap_cons, encEn, encN, if_pos ⟨h2, by omega⟩]; simp
    rw [hl, List.length_cons, getN, textS_enc (nm e) _ (by omega) (by omega)]
    simp only
    rw [numS_enc _ h2 (by omega) h3]
    simp only
    rw [ih]
    obtain ⟨d, m, rfl⟩ := ent_cases e
    rw [nm_ent, lev_ent]
theorem getL_enc {l : List Entry} (h : RightL l) (rest : List UInt8) : getL (encL l ++ rest, 0) = (l, 0, (rest, 0)) := by
  have h8 := h.len
  have hl : encL l ++ rest = encF 10 (l.length : Int) ++ (l.flatMap encEn ++ rest) := by unfold encL; simp
  unfold getL
  rw [hl, numS_enc _ (by omega) (by omega) (by omega)]
  simp only [Int.toNat_natCast]
  rw [getN_enc l rest (right_names h)]
  rw [if_neg (by simp [rightLB_iff.2 h])]
theorem flows_refl {a : List Entry} (h : RightL a) : flowsLB a a = true := flowsLB_iff.2 ⟨h, h, fun _ => Int.le_refl _⟩
theorem flows_trans {a b c : List Entry} (h1 : flowsLB a b = true) (h2 : flowsLB b c = true) : flowsLB a c = true := by
  obtain ⟨p1, p2, p3⟩ := flowsLB_iff.1 h1
  obtain ⟨q1, q2, q3⟩ := flowsLB_iff.1 h2
  exact flowsLB_iff.2 ⟨p1, q2, fun d => Int.le_trans (p3 d) (q3 d)⟩
theorem flows_anti {a b : List Entry} (h1 : flowsLB a b = true) (h2 : flowsLB b a = true) : a = b := by
  obtain ⟨p1, p2, p3⟩ := flowsLB_iff.1 h1
  obtain ⟨q1, q2, q3⟩ := flowsLB_iff.1 h2
  exact right_ext p1 p2 fun d => Int.le_antisymm (p3 d) (q3 d)
theorem join_laws {a b : List Entry} (ha : RightL a) (hb : RightL b) (h : (resX max a b).2 = 0) : flowsLB a (resX max a b).1 = true ∧ flowsLB b (resX max a b).1 = true ∧ ∀ c, flowsLB a c = true → flowsLB b c = true → flowsLB (resX max a b).1 c = true := by
  obtain ⟨h1, h2⟩ := resX_ok max_pick ha hb h
  refine ⟨flowsLB_iff.2 ⟨ha, h1, fun d => ?_⟩, flowsLB_iff.2 ⟨hb, h1, fun d => ?_⟩, fun c k1 k2 => ?_⟩
  · rw [h2]; omega
  · rw [h2]; omega
  · obtain ⟨p1, p2, p3⟩ := flowsLB_iff.1 k1
    obtain ⟨q1, q2, q3⟩ := flowsLB_iff.1 k2
    refine flowsLB_iff.2 ⟨h1, p2, fun d => ?_⟩
    rw [h2]
    have := p3 d
    have := q3 d
    omega
theorem meet_laws {a b : List Entry} (ha : RightL a) (hb : RightL b) (h : (resX min a b).2 = 0) : flowsLB (resX min a b).1 a = true ∧ flowsLB (resX min a b).1 b = true ∧ ∀ c, flowsLB c a = true → flowsLB c b = true → flowsLB c (resX min a b).1 = true := by
  obtain ⟨h1, h2⟩ := resX_ok min_pick ha hb h
  refine ⟨flowsLB_iff.2 ⟨h1, ha, fun d => ?_⟩, flowsLB_iff.2 ⟨h1, hb, fun d => ?_⟩, fun c k1 k2 => ?_⟩
  · rw [h2]; omega
  · rw [h2]; omega
  · obtain ⟨p1, p2, p3⟩ := flowsLB_iff.1 k1
    obtain ⟨q1, q2, q3⟩ := flowsLB_iff.1 k2
    refine flowsLB_iff.2 ⟨p1, h1, fun d => ?_⟩
    rw [h2]
    have := p3 d
    have := q3 d
    omega
end Go.Proofs.YthhepnaanjicjaaGreatDoor

/- Layer 6, the laws: LabelOrder. -/
namespace Go.Proofs.YthhepnaanjicjaaGreatDoor
open Go.RowKit Go.Shelf
set_option linter.unusedVariables false
theorem PenAt.new1 (w : World) (base : Nat) (hb : base ≤ w.heap.size) : PenAt (w.alloc (.cells #[.slice none 0 0] 41)) base w.heap.size (.slice none 0 0) [] :=
  ⟨heap_alloc_new w _, World.ownsRow_nil _ _ _ _, hb, by simp [Value.ownBlock]⟩
theorem resX_short (pick : Int → Int → Int) (a b : List Entry) : (resX pick a b).1.length ≤ 8 := by
  unfold resX resM
  split
  · split
    · simp
    · split
      · simp
      · rename_i h; simp at h ⊢; omega
  · simp
theorem encL_len {l : List Entry} (h : RightL l) : (encL l).length ≤ 100000000 := by
  unfold encL
  rw [List.length_append]
  have := encF_len 10 (l.length : Int)
  have h2 := flat_len l fun e he => Nat.le_trans (right_names h e he).1 (by decide)
  have : 1000020 * l.length ≤ 1000020 * 8 := Nat.mul_le_mul_left _ h.len
  omega
set_option maxRecDepth 100000 in
set_option maxHeartbeats 8000000 in
theorem labelOrder_mod (A1 : Option Addr) (n1 c1 : Nat) (A2 : Option Addr) (n2 c2 : Nat) (A3 : Option Addr) (n3 c3 : Nat) (a b c : List Entry) (ok ok2 ok3 : Nat → Prop) (w : World) (h : labR.rel w ok [.slice A1 n1 c1] a) (h2 : labR.rel w ok2 [.slice A2 n2 c2] b) (h3 : labR.rel w ok3 [.slice A3 n3 c3] c) (E : Env w) :
    Calls Tryz.prog 10 #[.slice A1 n1 c1, .slice A2 n2 c2, .slice A3 n3 c3] w fun r w' => r = .returned (.bool true) ∧ Mod (fun _ => False) w w' := by
  obtain rfl := (lab_row h).1
  obtain rfl := (lab_row h2).1
  obtain rfl := (lab_row h3).1
  have RA := fun W (hW : Mod (fun _ => False) w W) => Rd.mod (Rd.bound h) hW (fun _ _ => id)
  have RB := fun W (hW : Mod (fun _ => False) w W) => Rd.mod h2 hW (fun _ _ => id)
  have RC := fun W (hW : Mod (fun _ => False) w W) => Rd.mod h3 hW (fun _ _ => id)
  have H0 := Lib.hid (And.intro E (And.intro RA (And.intro RB RC))); clear E h h2 h3 RA RB RC
  go_enter Tryz.func10, Tryz.ntmps10
  go_wp2_with fail
  refine (first_any w H0.out.1).mono ?_
  rintro r w1 ⟨rfl, hm1⟩
  have HM := Lib.hid hm1; clear hm1
  cases hra : rightLB a with
  | false =>
    repeat (go_wp2_with fail; first | (go_at_call_of 45 ((#[.slice A1 a.length c1] : Array Value)); refine (rightLab_any _ _ _ a _ _ (H0.out.2.1 _ HM.out) (H0.out.1.mod0 HM.out)).mono ?_; rintro _ w1 ⟨rfl, hm1⟩; replace HM := Lib.hid (tr0 HM.out hm1); clear hm1) | (go_at_call_of 45 ((#[.slice A2 b.length c2] : Array Value)); refine (rightLab_any _ _ _ b _ _ (H0.out.2.2.1 _ HM.out) (H0.out.1.mod0 HM.out)).mono ?_; rintro _ w1 ⟨rfl, hm1⟩; replace HM := Lib.hid (tr0 HM.out hm1); clear hm1) | (go_at_call_of 45 ((#[.slice A3 c.length c3] : Array Value)); refine (rightLab_any _ _ _ c _ _ (H0.out.2.2.2 _ HM.out) (H0.out.1.mod0 HM.out)).mono ?_; rintro _ w1 ⟨rfl, hm1⟩; replace HM := Lib.hid (tr0 HM.out hm1); clear hm1))
    go_wp2_with fail
    go_ret
    exact ⟨rfl, HM.out⟩
  | true =>
  cases hrb : rightLB b with
  | false =>
    repeat (go_wp2_with fail; first | (go_at_call_of 45 ((#[.slice A1 a.length c1] : Array Value)); refine (rightLab_any _ _ _ a _ _ (H0.out.2.1 _ HM.out) (H0.out.1.mod0 HM.out)).mono ?_; rintro _ w1 ⟨rfl, hm1⟩; replace HM := Lib.hid (tr0 HM.out hm1); clear hm1) | (go_at_call_of 45 ((#[.slice A2 b.length c2] : Array Value)); refine (rightLab_any _ _ _ b _ _ (H0.out.2.2.1 _ HM.out) (H0.out.1.mod0 HM.out)).mono ?_; rintro _ w1 ⟨rfl, hm1⟩; replace HM := Lib.hid (tr0 HM.out hm1); clear hm1) | (go_at_call_of 45 ((#[.slice A3 c.length c3] : Array Value)); refine (rightLab_any _ _ _ c _ _ (H0.out.2.2.2 _ HM.out) (H0.out.1.mod0 HM.out)).mono ?_; rintro _ w1 ⟨rfl, hm1⟩; replace HM := Lib.hid (tr0 HM.out hm1); clear hm1))
    go_wp2_with fail
    go_ret
    exact ⟨rfl, HM.out⟩
  | true =>
  cases hrc : rightLB c with
  | false =>
    repeat (go_wp2_with fail; first | (go_at_call_of 45 ((#[.slice A1 a.length c1] : Array Value)); refine (rightLab_any _ _ _ a _ _ (H0.out.2.1 _ HM.out) (H0.out.1.mod0 HM.out)).mono ?_; rintro _ w1 ⟨rfl, hm1⟩; replace HM := Lib.hid (tr0 HM.out hm1); clear hm1) | (go_at_call_of 45 ((#[.slice A2 b.length c2] : Array Value)); refine (rightLab_any _ _ _ b _ _ (H0.out.2.2.1 _ HM.out) (H0.out.1.mod0 HM.out)).mono ?_; rintro _ w1 ⟨rfl, hm1⟩; replace HM := Lib.hid (tr0 HM.out hm1); clear hm1) | (go_at_call_of 45 ((#[.slice A3 c.length c3] : Array Value)); refine (rightLab_any _ _ _ c _ _ (H0.out.2.2.2 _ HM.out) (H0.out.1.mod0 HM.out)).mono ?_; rintro _ w1 ⟨rfl, hm1⟩; replace HM := Lib.hid (tr0 HM.out hm1); clear hm1))
    go_wp2_with fail
    go_ret
    exact ⟨rfl, HM.out⟩
  | true =>
    repeat (go_wp2_with fail; first | (go_at_call_of 45 ((#[.slice A1 a.length c1] : Array Value)); refine (rightLab_any _ _ _ a _ _ (H0.out.2.1 _ HM.out) (H0.out.1.mod0 HM.out)).mono ?_; rintro _ w1 ⟨rfl, hm1⟩; replace HM := Lib.hid (tr0 HM.out hm1); clear hm1) | (go_at_call_of 45 ((#[.slice A2 b.length c2] : Array Value)); refine (rightLab_any _ _ _ b _ _ (H0.out.2.2.1 _ HM.out) (H0.out.1.mod0 HM.out)).mono ?_; rintro _ w1 ⟨rfl, hm1⟩; replace HM := Lib.hid (tr0 HM.out hm1); clear hm1) | (go_at_call_of 45 ((#[.slice A3 c.length c3] : Array Value)); refine (rightLab_any _ _ _ c _ _ (H0.out.2.2.2 _ HM.out) (H0.out.1.mod0 HM.out)).mono ?_; rintro _ w1 ⟨rfl, hm1⟩; replace HM := Lib.hid (tr0 HM.out hm1); clear hm1))
    go_wp2_with fail
    have HR := Lib.hid (And.intro (rightLB_iff.1 hra) (And.intro (rightLB_iff.1 hrb) (rightLB_iff.1 hrc))); clear hra hrb hrc
    obtain ⟨w0, hw0⟩ : ∃ w0, w0 = w1 := ⟨_, rfl⟩
    rw [← hw0] at HM ⊢
    clear hw0
    have ha8 := HR.out.1.len
    obtain ⟨W1, hW1⟩ : ∃ W1, W1 = w0.alloc (.cells #[.slice none 0 0] 41) := ⟨_, rfl⟩
    rw [← hW1]
    have hpen := PenAt.new1 w0 w0.heap.size (Nat.le_refl _)
    have hsz0 := HM.out.size
    have hszW : w0.heap.size ≤ W1.heap.size := by rw [hW1]; simp
    have hmW : Mod (fun _ => False) w W1 := by rw [hW1]; exact HM.out.alloc _
    rw [← hW1] at hpen
    obtain ⟨g, hg⟩ : ∃ g, g = w0.heap.size := ⟨_, rfl⟩
    rw [← hg] at hpen hszW ⊢
    have hnm : ∀ e ∈ a, (nm e).length ≤ 1000000 := fun e he => Nat.le_trans (right_names HR.out.1 e he).1 (by decide)
    have hput := put_any g g (.slice none 0 0) [] A1 a.length c1 a _ W1 hpen hszW (H0.out.2.1 W1 hmW) (fun k hk e => by
      rcases e with e | e
      · have := hk.2; omega
      · simp [Value.ownBlock] at e) (by omega) hnm (by simp)
    have hgw : w.heap.size ≤ g := by omega
    have HW := Lib.hid (And.intro hput (And.intro hmW hgw)); clear hput hmW hg hpen hszW hW1 hsz0 hgw hnm
    go_wp2_with fail
    refine HW.out.1.mono ?_
    rintro r w2 ⟨rfl, v2, ht2⟩
    have hm2 := HW.out.2.1.trans ht2.mod (fun k hk => .inr (by
      rcases hk with e | e
      · have := HW.out.2.2; omega
      · simp [Value.ownBlock] at e))
    have hby := bytes_any g g v2 _ w2 ht2.at_ (by rw [List.nil_append]; have := encL_len HR.out.1; omega)
    rw [List.nil_append] at hby
    obtain ⟨bs, hbs⟩ : ∃ bs, bs = encL a := ⟨_, rfl⟩
    have hbl : bs.length ≤ 100000000 := by rw [hbs]; exact encL_len HR.out.1
    have hgt : getL (bs, 0) = (a, 0, ([], 0)) := by have := getL_enc HR.out.1 []; rw [List.append_nil, ← hbs] at this; exact this
    rw [← hbs] at hby
    have H2 := Lib.hid (And.intro hm2 (And.intro hby hgt)); clear hm2 ht2 hby hbs hgt
    go_wp2_with fail
    refine H2.out.2.1.mono ?_
    rintro r w3 ⟨A3', c3', rfl, ho3, hm3⟩
    have hm3' := tr0 H2.out.1 hm3
    have hnew := tnew_any _ bs _ w3 (reads_bytes ho3 (by omega))
    have H3 := Lib.hid (And.intro hm3' hnew); clear hm3 hm3' ho3 hnew
    go_wp2_with fail
    refine H3.out.2.mono ?_
    rintro r w4 ⟨gt, vt, rfl, hgt, hta, hm4⟩
    have hm4' := tr0 H3.out.1 hm4
    have hsz4 := H3.out.1.size
    have hgw4 : ∀ W, Mod (fun k => k = gt) w4 W → Mod (fun _ => False) w W := fun W hW => hm4'.trans hW (fun k hk => .inr (by omega))
    have hge := getL_any gt _ (bs, 0) w4 hta.state (fun W hW => H0.out.1.mod0 (hgw4 W hW))
    rw [H2.out.2.2] at hge
    have H4 := Lib.hid (And.intro hm4' (And.intro hgw4 hge)); clear hm4 hm4' hgw4 hge hta hsz4 hgt
    go_wp2_with fail
    refine H4.out.2.2.mono ?_
    rintro r w5 ⟨A8, c8, rfl, ho8, -, hm5⟩
    have hm5' := H4.out.2.1 w5 hm5
    have rg := fun W (hW : Mod (fun _ => False) w5 W) => Rd.mod (ho8.reads (bytes := 24) (by omega)) hW (fun _ _ => id)
    have H5 := Lib.hid hm5'
    have e1 := fun W (hW : Mod (fun _ => False) w5 W) => H0.out.1.mod0 (tr0 H5.out hW)
    have r1 := fun W (hW : Mod (fun _ => False) w5 W) => H0.out.2.1 W (tr0 H5.out hW)
    have r2 := fun W (hW : Mod (fun _ => False) w5 W) => H0.out.2.2.1 W (tr0 H5.out hW)
    have r3 := fun W (hW : Mod (fun _ => False) w5 W) => H0.out.2.2.2 W (tr0 H5.out hW)
    have HB := Lib.hid (And.intro e1 (And.intro r1 (And.intro r2 (And.intro r3 rg)))); clear hm5 hm5' ho8 rg HM e1 r1 r2 r3
    have HM := Lib.hid (Mod.refl (fun _ => False) w5)
    have hsg := sameL_iff.2 (rfl : a = a)
    have hfr := flows_refl HR.out.1
    go_upto_region 8 with fail
    go_cut [84] (fun s84 wx => s84 = .bool false ∧ Mod (fun _ => False) w5 wx)
    case first =>
      cases hab : flowsLB a b with
      | false =>
        repeat (go_wp2_with fail; first | (go_at_call_of 55 ((#[.slice A8 a.length c8, .slice A1 a.length c1] : Array Value)); refine (same_any _ _ _ _ _ _ a a _ _ _ (HB.out.2.2.2.2 _ HM.out) (HB.out.2.1 _ HM.out)).mono ?_; rintro _ w1 ⟨rfl, hm1⟩; replace HM := Lib.hid (tr0 HM.out hm1); clear hm1) | (go_at_call_of 36 ((#[.slice A1 a.length c1, .slice A1 a.length c1] : Array Value)); refine (flows_any _ _ _ _ _ _ a a _ _ _ (HB.out.2.1 _ HM.out) (HB.out.2.1 _ HM.out) (HB.out.1 _ HM.out)).mono ?_; rintro _ w1 ⟨rfl, hm1⟩; replace HM := Lib.hid (tr0 HM.out hm1); clear hm1) | (go_at_call_of 36 ((#[.slice A1 a.length c1, .slice A2 b.length c2] : Array Value)); refine (flows_any _ _ _ _ _ _ a b _ _ _ (HB.out.2.1 _ HM.out) (HB.out.2.2.1 _ HM.out) (HB.out.1 _ HM.out)).mono ?_; rintro _ w1 ⟨rfl, hm1⟩; replace HM := Lib.hid (tr0 HM.out hm1); clear hm1) | (go_at_call_of 36 ((#[.slice A2 b.length c2, .slice A3 c.length c3] : Array Value)); refine (flows_any _ _ _ _ _ _ b c _ _ _ (HB.out.2.2.1 _ HM.out) (HB.out.2.2.2.1 _ HM.out) (HB.out.1 _ HM.out)).mono ?_; rintro _ w1 ⟨rfl, hm1⟩; replace HM := Lib.hid (tr0 HM.out hm1); clear hm1) | (go_at_call_of 36 ((#[.slice A1 a.length c1, .slice A3 c.length c3] : Array Value)); refine (flows_any _ _ _ _ _ _ a c _ _ _ (HB.out.2.1 _ HM.out) (HB.out.2.2.2.1 _ HM.out) (HB.out.1 _ HM.out)).mono ?_; rintro _ w1 ⟨rfl, hm1⟩; replace HM := Lib.hid (tr0 HM.out hm1); clear hm1) | (go_at_call_of 36 ((#[.slice A2 b.length c2, .slice A1 a.length c1] : Array Value)); refine (flows_any _ _ _ _ _ _ b a _ _ _ (HB.out.2.2.1 _ HM.out) (HB.out.2.1 _ HM.out) (HB.out.1 _ HM.out)).mono ?_; rintro _ w1 ⟨rfl, hm1⟩; replace HM := Lib.hid (tr0 HM.out hm1); clear hm1) | (go_at_call_of 55 ((#[.slice A1 a.length c1, .slice A2 b.length c2] : Array Value)); refine (same_any _ _ _ _ _ _ a b _ _ _ (HB.out.2.1 _ HM.out) (HB.out.2.2.1 _ HM.out)).mono ?_; rintro _ w1 ⟨rfl, hm1⟩; replace HM := Lib.hid (tr0 HM.out hm1); clear hm1))
        go_wp2_with fail
        go_meet
        exact ⟨rfl, HM.out⟩
      | true =>
      have hq1 : flowsLB b c = true → flowsLB a c = true := fun h => flows_trans hab h
      have hq2 : flowsLB b a = true → sameL a b = true := fun h => sameL_iff.2 (flows_anti hab h)
      cases hbc : flowsLB b c with
      | false =>
        clear hq1
        cases hba : flowsLB b a with
        | false =>
          clear hq2
          repeat (go_wp2_with fail; first | (go_at_call_of 55 ((#[.slice A8 a.length c8, .slice A1 a.length c1] : Array Value)); refine (same_any _ _ _ _ _ _ a a _ _ _ (HB.out.2.2.2.2 _ HM.out) (HB.out.2.1 _ HM.out)).mono ?_; rintro _ w1 ⟨rfl, hm1⟩; replace HM := Lib.hid (tr0 HM.out hm1); clear hm1) | (go_at_call_of 36 ((#[.slice A1 a.length c1, .slice A1 a.length c1] : Array Value)); refine (flows_any _ _ _ _ _ _ a a _ _ _ (HB.out.2.1 _ HM.out) (HB.out.2.1 _ HM.out) (HB.out.1 _ HM.out)).mono ?_; rintro _ w1 ⟨rfl, hm1⟩; replace HM := Lib.hid (tr0 HM.out hm1); clear hm1) | (go_at_call_of 36 ((#[.slice A1 a.length c1, .slice A2 b.length c2] : Array Value)); refine (flows_any _ _ _ _ _ _ a b _ _ _ (HB.out.2.1 _ HM.out) (HB.out.2.2.1 _ HM.out) (HB.out.1 _ HM.out)).mono ?_; rintro _ w1 ⟨rfl, hm1⟩; replace HM := Lib.hid (tr0 HM.out hm1); clear hm1) | (go_at_call_of 36 ((#[.slice A2 b.length c2, .slice A3 c.length c3] : Array Value)); refine (flows_any _ _ _ _ _ _ b c _ _ _ (HB.out.2.2.1 _ HM.out) (HB.out.2.2.2.1 _ HM.out) (HB.out.1 _ HM.out)).mono ?_; rintro _ w1 ⟨rfl, hm1⟩; replace HM := Lib.hid (tr0 HM.out hm1); clear hm1) | (go_at_call_of 36 ((#[.slice A1 a.length c1, .slice A3 c.length c3] : Array Value)); refine (flows_any _ _ _ _ _ _ a c _ _ _ (HB.out.2.1 _ HM.out) (HB.out.2.2.2.1 _ HM.out) (HB.out.1 _ HM.out)).mono ?_; rintro _ w1 ⟨rfl, hm1⟩; replace HM := Lib.hid (tr0 HM.out hm1); clear hm1) | (go_at_call_of 36 ((#[.slice A2 b.length c2, .slice A1 a.length c1] : Array Value)); refine (flows_any _ _ _ _ _ _ b a _ _ _ (HB.out.2.2.1 _ HM.out) (HB.out.2.1 _ HM.out) (HB.out.1 _ HM.out)).mono ?_; rintro _ w1 ⟨rfl, hm1⟩; replace HM := Lib.hid (tr0 HM.out hm1); clear hm1) | (go_at_call_of 55 ((#[.slice A1 a.length c1, .slice A2 b.length c2] : Array Value)); refine (same_any _ _ _ _ _ _ a b _ _ _ (HB.out.2.1 _ HM.out) (HB.out.2.2.1 _ HM.out)).mono ?_; rintro _ w1 ⟨rfl, hm1⟩; replace HM := Lib.hid (tr0 HM.out hm1); clear hm1))
          go_wp2_with fail
          go_meet
          exact ⟨rfl, HM.out⟩
        | true =>
          have hsa := hq2 hba
          clear hq2
          repeat (go_wp2_with fail; first | (go_at_call_of 55 ((#[.slice A8 a.length c8, .slice A1 a.length c1] : Array Value)); refine (same_any _ _ _ _ _ _ a a _ _ _ (HB.out.2.2.2.2 _ HM.out) (HB.out.2.1 _ HM.out)).mono ?_; rintro _ w1 ⟨rfl, hm1⟩; replace HM := Lib.hid (tr0 HM.out hm1); clear hm1) | (go_at_call_of 36 ((#[.slice A1 a.length c1, .slice A1 a.length c1] : Array Value)); refine (flows_any _ _ _ _ _ _ a a _ _ _ (HB.out.2.1 _ HM.out) (HB.out.2.1 _ HM.out) (HB.out.1 _ HM.out)).mono ?_; rintro _ w1 ⟨rfl, hm1⟩; replace HM := Lib.hid (tr0 HM.out hm1); clear hm1) | (go_at_call_of 36 ((#[.slice A1 a.length c1, .slice A2 b.length c2] : Array Value)); refine (flows_any _ _ _ _ _ _ a b _ _ _ (HB.out.2.1 _ HM.out) (HB.out.2.2.1 _ HM.out) (HB.out.1 _ HM.out)).mono ?_; rintro _ w1 ⟨rfl, hm1⟩; replace HM := Lib.hid (tr0 HM.out hm1); clear hm1) | (go_at_call_of 36 ((#[.slice A2 b.length c2, .slice A3 c.length c3] : Array Value)); refine (flows_any _ _ _ _ _ _ b c _ _ _ (HB.out.2.2.1 _ HM.out) (HB.out.2.2.2.1 _ HM.out) (HB.out.1 _ HM.out)).mono ?_; rintro _ w1 ⟨rfl, hm1⟩; replace HM := Lib.hid (tr0 HM.out hm1); clear hm1) | (go_at_call_of 36 ((#[.slice A1 a.length c1, .slice A3 c.length c3] : Array Value)); refine (flows_any _ _ _ _ _ _ a c _ _ _ (HB.out.2.1 _ HM.out) (HB.out.2.2.2.1 _ HM.out) (HB.out.1 _ HM.out)).mono ?_; rintro _ w1 ⟨rfl, hm1⟩; replace HM := Lib.hid (tr0 HM.out hm1); clear hm1) | (go_at_call_of 36 ((#[.slice A2 b.length c2, .slice A1 a.length c1] : Array Value)); refine (flows_any _ _ _ _ _ _ b a _ _ _ (HB.out.2.2.1 _ HM.out) (HB.out.2.1 _ HM.out) (HB.out.1 _ HM.out)).mono ?_; rintro _ w1 ⟨rfl, hm1⟩; replace HM := Lib.hid (tr0 HM.out hm1); clear hm1) | (go_at_call_of 55 ((#[.slice A1 a.length c1, .slice A2 b.length c2] : Array Value)); refine (same_any _ _ _ _ _ _ a b _ _ _ (HB.out.2.1 _ HM.out) (HB.out.2.2.1 _ HM.out)).mono ?_; rintro _ w1 ⟨rfl, hm1⟩; replace HM := Lib.hid (tr0 HM.out hm1); clear hm1))
          go_wp2_with fail
          go_meet
          exact ⟨rfl, HM.out⟩
      | true =>
        have hac := hq1 hbc
        clear hq1
        cases hba : flowsLB b a with
        | false =>
          clear hq2
          repeat (go_wp2_with fail; first | (go_at_call_of 55 ((#[.slice A8 a.length c8, .slice A1 a.length c1] : Array Value)); refine (same_any _ _ _ _ _ _ a a _ _ _ (HB.out.2.2.2.2 _ HM.out) (HB.out.2.1 _ HM.out)).mono ?_; rintro _ w1 ⟨rfl, hm1⟩; replace HM := Lib.hid (tr0 HM.out hm1); clear hm1) | (go_at_call_of 36 ((#[.slice A1 a.length c1, .slice A1 a.length c1] : Array Value)); refine (flows_any _ _ _ _ _ _ a a _ _ _ (HB.out.2.1 _ HM.out) (HB.out.2.1 _ HM.out) (HB.out.1 _ HM.out)).mono ?_; rintro _ w1 ⟨rfl, hm1⟩; replace HM := Lib.hid (tr0 HM.out hm1); clear hm1) | (go_at_call_of 36 ((#[.slice A1 a.length c1, .slice A2 b.length c2] : Array Value)); refine (flows_any _ _ _ _ _ _ a b _ _ _ (HB.out.2.1 _ HM.out) (HB.out.2.2.1 _ HM.out) (HB.out.1 _ HM.out)).mono ?_; rintro _ w1 ⟨rfl, hm1⟩; replace HM := Lib.hid (tr0 HM.out hm1); clear hm1) | (go_at_call_of 36 ((#[.slice A2 b.length c2, .slice A3 c.length c3] : Array Value)); refine (flows_any _ _ _ _ _ _ b c _ _ _ (HB.out.2.2.1 _ HM.out) (HB.out.2.2.2.1 _ HM.out) (HB.out.1 _ HM.out)).mono ?_; rintro _ w1 ⟨rfl, hm1⟩; replace HM := Lib.hid (tr0 HM.out hm1); clear hm1) | (go_at_call_of 36 ((#[.slice A1 a.length c1, .slice A3 c.length c3] : Array Value)); refine (flows_any _ _ _ _ _ _ a c _ _ _ (HB.out.2.1 _ HM.out) (HB.out.2.2.2.1 _ HM.out) (HB.out.1 _ HM.out)).mono ?_; rintro _ w1 ⟨rfl, hm1⟩; replace HM := Lib.hid (tr0 HM.out hm1); clear hm1) | (go_at_call_of 36 ((#[.slice A2 b.length c2, .slice A1 a.length c1] : Array Value)); refine (flows_any _ _ _ _ _ _ b a _ _ _ (HB.out.2.2.1 _ HM.out) (HB.out.2.1 _ HM.out) (HB.out.1 _ HM.out)).mono ?_; rintro _ w1 ⟨rfl, hm1⟩; replace HM := Lib.hid (tr0 HM.out hm1); clear hm1) | (go_at_call_of 55 ((#[.slice A1 a.length c1, .slice A2 b.length c2] : Array Value)); refine (same_any _ _ _ _ _ _ a b _ _ _ (HB.out.2.1 _ HM.out) (HB.out.2.2.1 _ HM.out)).mono ?_; rintro _ w1 ⟨rfl, hm1⟩; replace HM := Lib.hid (tr0 HM.out hm1); clear hm1))
          go_wp2_with fail
          go_meet
          exact ⟨rfl, HM.out⟩
        | true =>
          have hsa := hq2 hba
          clear hq2
          repeat (go_wp2_with fail; first | (go_at_call_of 55 ((#[.slice A8 a.length c8, .slice A1 a.length c1] : Array Value)); refine (same_any _ _ _ _ _ _ a a _ _ _ (HB.out.2.2.2.2 _ HM.out) (HB.out.2.1 _ HM.out)).mono ?_; rintro _ w1 ⟨rfl, hm1⟩; replace HM := Lib.hid (tr0 HM.out hm1); clear hm1) | (go_at_call_of 36 ((#[.slice A1 a.length c1, .slice A1 a.length c1] : Array Value)); refine (flows_any _ _ _ _ _ _ a a _ _ _ (HB.out.2.1 _ HM.out) (HB.out.2.1 _ HM.out) (HB.out.1 _ HM.out)).mono ?_; rintro _ w1 ⟨rfl, hm1⟩; replace HM := Lib.hid (tr0 HM.out hm1); clear hm1) | (go_at_call_of 36 ((#[.slice A1 a.length c1, .slice A2 b.length c2] : Array Value)); refine (flows_any _ _ _ _ _ _ a b _ _ _ (HB.out.2.1 _ HM.out) (HB.out.2.2.1 _ HM.out) (HB.out.1 _ HM.out)).mono ?_; rintro _ w1 ⟨rfl, hm1⟩; replace HM := Lib.hid (tr0 HM.out hm1); clear hm1) | (go_at_call_of 36 ((#[.slice A2 b.length c2, .slice A3 c.length c3] : Array Value)); refine (flows_any _ _ _ _ _ _ b c _ _ _ (HB.out.2.2.1 _ HM.out) (HB.out.2.2.2.1 _ HM.out) (HB.out.1 _ HM.out)).mono ?_; rintro _ w1 ⟨rfl, hm1⟩; replace HM := Lib.hid (tr0 HM.out hm1); clear hm1) | (go_at_call_of 36 ((#[.slice A1 a.length c1, .slice A3 c.length c3] : Array Value)); refine (flows_any _ _ _ _ _ _ a c _ _ _ (HB.out.2.1 _ HM.out) (HB.out.2.2.2.1 _ HM.out) (HB.out.1 _ HM.out)).mono ?_; rintro _ w1 ⟨rfl, hm1⟩; replace HM := Lib.hid (tr0 HM.out hm1); clear hm1) | (go_at_call_of 36 ((#[.slice A2 b.length c2, .slice A1 a.length c1] : Array Value)); refine (flows_any _ _ _ _ _ _ b a _ _ _ (HB.out.2.2.1 _ HM.out) (HB.out.2.1 _ HM.out) (HB.out.1 _ HM.out)).mono ?_; rintro _ w1 ⟨rfl, hm1⟩; replace HM := Lib.hid (tr0 HM.out hm1); clear hm1) | (go_at_call_of 55 ((#[.slice A1 a.length c1, .slice A2 b.length c2] : Array Value)); refine (same_any _ _ _ _ _ _ a b _ _ _ (HB.out.2.1 _ HM.out) (HB.out.2.2.1 _ HM.out)).mono ?_; rintro _ w1 ⟨rfl, hm1⟩; replace HM := Lib.hid (tr0 HM.out hm1); clear hm1))
          go_wp2_with fail
          go_meet
          exact ⟨rfl, HM.out⟩
    case rest =>
      obtain ⟨rfl, hmc⟩ := hcut
      have hmc' := tr0 H5.out hmc
      have hjo := join_any A1 a.length c1 A2 b.length c2 a b _ _ wc (H0.out.2.1 wc hmc') (H0.out.2.2.1 wc hmc') (H0.out.1.mod0 hmc')
      obtain ⟨j, hj⟩ : ∃ j, j = resX max a b := ⟨_, rfl⟩
      have hj8 := resX_short max a b
      have hjl := join_laws HR.out.1 HR.out.2.1
      rw [← hj] at hjo hj8 hjl
      have HJ := Lib.hid (And.intro hmc' (And.intro hjo hjl)); clear HB HM hsg hfr hmc hmc' hjo hjl hj
      go_wp2_with fail
      refine HJ.out.2.1.mono ?_
      rintro r w6 ⟨AJ, cJ, rfl, hoj, hm6⟩
      have hm6' := tr0 HJ.out.1 hm6
      have rg := fun W (hW : Mod (fun _ => False) w6 W) => Rd.mod (hoj.reads (bytes := 24) (by omega)) hW (fun _ _ => id)
      have H6 := Lib.hid hm6'
      have e1 := fun W (hW : Mod (fun _ => False) w6 W) => H0.out.1.mod0 (tr0 H6.out hW)
      have r1 := fun W (hW : Mod (fun _ => False) w6 W) => H0.out.2.1 W (tr0 H6.out hW)
      have r2 := fun W (hW : Mod (fun _ => False) w6 W) => H0.out.2.2.1 W (tr0 H6.out hW)
      have r3 := fun W (hW : Mod (fun _ => False) w6 W) => H0.out.2.2.2 W (tr0 H6.out hW)
      have HB := Lib.hid (And.intro e1 (And.intro r1 (And.intro r2 (And.intro r3 rg)))); clear hm6 hm6' hoj e1 r1 r2 r3 rg
      have HM := Lib.hid (Mod.refl (fun _ => False) w6)
      go_upto_region 11 with fail
      go_cut [120] (fun s84 wx => s84 = .bool false ∧ Mod (fun _ => False) w6 wx)
      case first =>
        by_cases hj0 : j.2 = 0
        · have k0 : (j.2 == 0) = true := by simpa using hj0
          obtain ⟨l1, l2, l3⟩ := HJ.out.2.2 hj0
          have hl3 := l3 c
          clear l3 hj0
          cases hac : flowsLB a c with
          | false =>
            clear hl3
            repeat (go_wp2_with fail; first | (go_at_call_of 36 ((#[.slice A1 a.length c1, .slice AJ j.1.length cJ] : Array Value)); refine (flows_any _ _ _ _ _ _ a j.1 _ _ _ (HB.out.2.1 _ HM.out) (HB.out.2.2.2.2 _ HM.out) (HB.out.1 _ HM.out)).mono ?_; rintro _ w1 ⟨rfl, hm1⟩; replace HM := Lib.hid (tr0 HM.out hm1); clear hm1) | (go_at_call_of 36 ((#[.slice A2 b.length c2, .slice AJ j.1.length cJ] : Array Value)); refine (flows_any _ _ _ _ _ _ b j.1 _ _ _ (HB.out.2.2.1 _ HM.out) (HB.out.2.2.2.2 _ HM.out) (HB.out.1 _ HM.out)).mono ?_; rintro _ w1 ⟨rfl, hm1⟩; replace HM := Lib.hid (tr0 HM.out hm1); clear hm1) | (go_at_call_of 36 ((#[.slice A1 a.length c1, .slice A3 c.length c3] : Array Value)); refine (flows_any _ _ _ _ _ _ a c _ _ _ (HB.out.2.1 _ HM.out) (HB.out.2.2.2.1 _ HM.out) (HB.out.1 _ HM.out)).mono ?_; rintro _ w1 ⟨rfl, hm1⟩; replace HM := Lib.hid (tr0 HM.out hm1); clear hm1) | (go_at_call_of 36 ((#[.slice A2 b.length c2, .slice A3 c.length c3] : Array Value)); refine (flows_any _ _ _ _ _ _ b c _ _ _ (HB.out.2.2.1 _ HM.out) (HB.out.2.2.2.1 _ HM.out) (HB.out.1 _ HM.out)).mono ?_; rintro _ w1 ⟨rfl, hm1⟩; replace HM := Lib.hid (tr0 HM.out hm1); clear hm1) | (go_at_call_of 36 ((#[.slice AJ j.1.length cJ, .slice A3 c.length c3] : Array Value)); refine (flows_any _ _ _ _ _ _ j.1 c _ _ _ (HB.out.2.2.2.2 _ HM.out) (HB.out.2.2.2.1 _ HM.out) (HB.out.1 _ HM.out)).mono ?_; rintro _ w1 ⟨rfl, hm1⟩; replace HM := Lib.hid (tr0 HM.out hm1); clear hm1))
            go_wp2_with fail
            go_meet
            exact ⟨rfl, HM.out⟩
          | true =>
          have hl4 := hl3 hac
          clear hl3
          cases hbc : flowsLB b c with
          | false =>
            clear hl4
            repeat (go_wp2_with fail; first | (go_at_call_of 36 ((#[.slice A1 a.length c1, .slice AJ j.1.length cJ] : Array Value)); refine (flows_any _ _ _ _ _ _ a j.1 _ _ _ (HB.out.2.1 _ HM.out) (HB.out.2.2.2.2 _ HM.out) (HB.out.1 _ HM.out)).mono ?_; rintro _ w1 ⟨rfl, hm1⟩; replace HM := Lib.hid (tr0 HM.out hm1); clear hm1) | (go_at_call_of 36 ((#[.slice A2 b.length c2, .slice AJ j.1.length cJ] : Array Value)); refine (flows_any _ _ _ _ _ _ b j.1 _ _ _ (HB.out.2.2.1 _ HM.out) (HB.out.2.2.2.2 _ HM.out) (HB.out.1 _ HM.out)).mono ?_; rintro _ w1 ⟨rfl, hm1⟩; replace HM := Lib.hid (tr0 HM.out hm1); clear hm1) | (go_at_call_of 36 ((#[.slice A1 a.length c1, .slice A3 c.length c3] : Array Value)); refine (flows_any _ _ _ _ _ _ a c _ _ _ (HB.out.2.1 _ HM.out) (HB.out.2.2.2.1 _ HM.out) (HB.out.1 _ HM.out)).mono ?_; rintro _ w1 ⟨rfl, hm1⟩; replace HM := Lib.hid (tr0 HM.out hm1); clear hm1) | (go_at_call_of 36 ((#[.slice A2 b.length c2, .slice A3 c.length c3] : Array Value)); refine (flows_any _ _ _ _ _ _ b c _ _ _ (HB.out.2.2.1 _ HM.out) (HB.out.2.2.2.1 _ HM.out) (HB.out.1 _ HM.out)).mono ?_; rintro _ w1 ⟨rfl, hm1⟩; replace HM := Lib.hid (tr0 HM.out hm1); clear hm1) | (go_at_call_of 36 ((#[.slice AJ j.1.length cJ, .slice A3 c.length c3] : Array Value)); refine (flows_any _ _ _ _ _ _ j.1 c _ _ _ (HB.out.2.2.2.2 _ HM.out) (HB.out.2.2.2.1 _ HM.out) (HB.out.1 _ HM.out)).mono ?_; rintro _ w1 ⟨rfl, hm1⟩; replace HM := Lib.hid (tr0 HM.out hm1); clear hm1))
            go_wp2_with fail
            go_meet
            exact ⟨rfl, HM.out⟩
          | true =>
            have hl5 := hl4 hbc
            clear hl4
            repeat (go_wp2_with fail; first | (go_at_call_of 36 ((#[.slice A1 a.length c1, .slice AJ j.1.length cJ] : Array Value)); refine (flows_any _ _ _ _ _ _ a j.1 _ _ _ (HB.out.2.1 _ HM.out) (HB.out.2.2.2.2 _ HM.out) (HB.out.1 _ HM.out)).mono ?_; rintro _ w1 ⟨rfl, hm1⟩; replace HM := Lib.hid (tr0 HM.out hm1); clear hm1) | (go_at_call_of 36 ((#[.slice A2 b.length c2, .slice AJ j.1.length cJ] : Array Value)); refine (flows_any _ _ _ _ _ _ b j.1 _ _ _ (HB.out.2.2.1 _ HM.out) (HB.out.2.2.2.2 _ HM.out) (HB.out.1 _ HM.out)).mono ?_; rintro _ w1 ⟨rfl, hm1⟩; replace HM := Lib.hid (tr0 HM.out hm1); clear hm1) | (go_at_call_of 36 ((#[.slice A1 a.length c1, .slice A3 c.length c3] : Array Value)); refine (flows_any _ _ _ _ _ _ a c _ _ _ (HB.out.2.1 _ HM.out) (HB.out.2.2.2.1 _ HM.out) (HB.out.1 _ HM.out)).mono ?_; rintro _ w1 ⟨rfl, hm1⟩; replace HM := Lib.hid (tr0 HM.out hm1); clear hm1) | (go_at_call_of 36 ((#[.slice A2 b.length c2, .slice A3 c.length c3] : Array Value)); refine (flows_any _ _ _ _ _ _ b c _ _ _ (HB.out.2.2.1 _ HM.out) (HB.out.2.2.2.1 _ HM.out) (HB.out.1 _ HM.out)).mono ?_; rintro _ w1 ⟨rfl, hm1⟩; replace HM := Lib.hid (tr0 HM.out hm1); clear hm1) | (go_at_call_of 36 ((#[.slice AJ j.1.length cJ, .slice A3 c.length c3] : Array Value)); refine (flows_any _ _ _ _ _ _ j.1 c _ _ _ (HB.out.2.2.2.2 _ HM.out) (HB.out.2.2.2.1 _ HM.out) (HB.out.1 _ HM.out)).mono ?_; rintro _ w1 ⟨rfl, hm1⟩; replace HM := Lib.hid (tr0 HM.out hm1); clear hm1))
            go_wp2_with fail
            go_meet
            exact ⟨rfl, HM.out⟩
        · have k0 : (j.2 == 0) = false := by simpa using hj0
          clear hj0
          go_wp2_with fail
          go_meet
          exact ⟨rfl, HM.out⟩
      case rest =>
        obtain ⟨rfl, hmc⟩ := hcut
        have hmc' := tr0 H6.out hmc
        have hme := meet_any A1 a.length c1 A2 b.length c2 a b _ _ wc (H0.out.2.1 wc hmc') (H0.out.2.2.1 wc hmc') (H0.out.1.mod0 hmc')
        obtain ⟨m, hmm⟩ : ∃ m, m = resX min a b := ⟨_, rfl⟩
        have hm8 := resX_short min a b
        have hml := meet_laws HR.out.1 HR.out.2.1
        rw [← hmm] at hme hm8 hml
        have HN := Lib.hid (And.intro hmc' (And.intro hme hml)); clear HB HM hmc hmc' hme hml hmm
        go_wp2_with fail
        refine HN.out.2.1.mono ?_
        rintro r w7 ⟨AM, cM, rfl, hom, hm7⟩
        have hm7' := tr0 HN.out.1 hm7
        have rg := fun W (hW : Mod (fun _ => False) w7 W) => Rd.mod (hom.reads (bytes := 24) (by omega)) hW (fun _ _ => id)
        have H7 := Lib.hid hm7'
        have e1 := fun W (hW : Mod (fun _ => False) w7 W) => H0.out.1.mod0 (tr0 H7.out hW)
        have r1 := fun W (hW : Mod (fun _ => False) w7 W) => H0.out.2.1 W (tr0 H7.out hW)
        have r2 := fun W (hW : Mod (fun _ => False) w7 W) => H0.out.2.2.1 W (tr0 H7.out hW)
        have r3 := fun W (hW : Mod (fun _ => False) w7 W) => H0.out.2.2.2 W (tr0 H7.out hW)
        have HB := Lib.hid (And.intro e1 (And.intro r1 (And.intro r2 (And.intro r3 rg)))); clear hm7 hm7' hom e1 r1 r2 r3 rg
        have HM := Lib.hid (Mod.refl (fun _ => False) w7)
        by_cases hm0 : m.2 = 0
        · have k0 : (m.2 != 0) = false := by simpa using hm0
          obtain ⟨l1, l2, l3⟩ := HN.out.2.2 hm0
          have hl3 := l3 c
          clear l3 hm0
          cases hca : flowsLB c a with
          | false =>
            clear hl3
            repeat (go_wp2_with fail; first | (go_at_call_of 36 ((#[.slice AM m.1.length cM, .slice A1 a.length c1] : Array Value)); refine (flows_any _ _ _ _ _ _ m.1 a _ _ _ (HB.out.2.2.2.2 _ HM.out) (HB.out.2.1 _ HM.out) (HB.out.1 _ HM.out)).mono ?_; rintro _ w1 ⟨rfl, hm1⟩; replace HM := Lib.hid (tr0 HM.out hm1); clear hm1) | (go_at_call_of 36 ((#[.slice AM m.1.length cM, .slice A2 b.length c2] : Array Value)); refine (flows_any _ _ _ _ _ _ m.1 b _ _ _ (HB.out.2.2.2.2 _ HM.out) (HB.out.2.2.1 _ HM.out) (HB.out.1 _ HM.out)).mono ?_; rintro _ w1 ⟨rfl, hm1⟩; replace HM := Lib.hid (tr0 HM.out hm1); clear hm1) | (go_at_call_of 36 ((#[.slice A3 c.length c3, .slice A1 a.length c1] : Array Value)); refine (flows_any _ _ _ _ _ _ c a _ _ _ (HB.out.2.2.2.1 _ HM.out) (HB.out.2.1 _ HM.out) (HB.out.1 _ HM.out)).mono ?_; rintro _ w1 ⟨rfl, hm1⟩; replace HM := Lib.hid (tr0 HM.out hm1); clear hm1) | (go_at_call_of 36 ((#[.slice A3 c.length c3, .slice A2 b.length c2] : Array Value)); refine (flows_any _ _ _ _ _ _ c b _ _ _ (HB.out.2.2.2.1 _ HM.out) (HB.out.2.2.1 _ HM.out) (HB.out.1 _ HM.out)).mono ?_; rintro _ w1 ⟨rfl, hm1⟩; replace HM := Lib.hid (tr0 HM.out hm1); clear hm1) | (go_at_call_of 36 ((#[.slice A3 c.length c3, .slice AM m.1.length cM] : Array Value)); refine (flows_any _ _ _ _ _ _ c m.1 _ _ _ (HB.out.2.2.2.1 _ HM.out) (HB.out.2.2.2.2 _ HM.out) (HB.out.1 _ HM.out)).mono ?_; rintro _ w1 ⟨rfl, hm1⟩; replace HM := Lib.hid (tr0 HM.out hm1); clear hm1))
            go_wp2_with fail
            go_ret
            exact ⟨rfl, tr0 H7.out HM.out⟩
          | true =>
          have hl4 := hl3 hca
          clear hl3
          cases hcb : flowsLB c b with
          | false =>
            clear hl4
            repeat (go_wp2_with fail; first | (go_at_call_of 36 ((#[.slice AM m.1.length cM, .slice A1 a.length c1] : Array Value)); refine (flows_any _ _ _ _ _ _ m.1 a _ _ _ (HB.out.2.2.2.2 _ HM.out) (HB.out.2.1 _ HM.out) (HB.out.1 _ HM.out)).mono ?_; rintro _ w1 ⟨rfl, hm1⟩; replace HM := Lib.hid (tr0 HM.out hm1); clear hm1) | (go_at_call_of 36 ((#[.slice AM m.1.length cM, .slice A2 b.length c2] : Array Value)); refine (flows_any _ _ _ _ _ _ m.1 b _ _ _ (HB.out.2.2.2.2 _ HM.out) (HB.out.2.2.1 _ HM.out) (HB.out.1 _ HM.out)).mono ?_; rintro _ w1 ⟨rfl, hm1⟩; replace HM := Lib.hid (tr0 HM.out hm1); clear hm1) | (go_at_call_of 36 ((#[.slice A3 c.length c3, .slice A1 a.length c1] : Array Value)); refine (flows_any _ _ _ _ _ _ c a _ _ _ (HB.out.2.2.2.1 _ HM.out) (HB.out.2.1 _ HM.out) (HB.out.1 _ HM.out)).mono ?_; rintro _ w1 ⟨rfl, hm1⟩; replace HM := Lib.hid (tr0 HM.out hm1); clear hm1) | (go_at_call_of 36 ((#[.slice A3 c.length c3, .slice A2 b.length c2] : Array Value)); refine (flows_any _ _ _ _ _ _ c b _ _ _ (HB.out.2.2.2.1 _ HM.out) (HB.out.2.2.1 _ HM.out) (HB.out.1 _ HM.out)).mono ?_; rintro _ w1 ⟨rfl, hm1⟩; replace HM := Lib.hid (tr0 HM.out hm1); clear hm1) | (go_at_call_of 36 ((#[.slice A3 c.length c3, .slice AM m.1.length cM] : Array Value)); refine (flows_any _ _ _ _ _ _ c m.1 _ _ _ (HB.out.2.2.2.1 _ HM.out) (HB.out.2.2.2.2 _ HM.out) (HB.out.1 _ HM.out)).mono ?_; rintro _ w1 ⟨rfl, hm1⟩; replace HM := Lib.hid (tr0 HM.out hm1); clear hm1))
            go_wp2_with fail
            go_ret
            exact ⟨rfl, tr0 H7.out HM.out⟩
          | true =>
            have hl5 := hl4 hcb
            clear hl4
            repeat (go_wp2_with fail; first | (go_at_call_of 36 ((#[.slice AM m.1.length cM, .slice A1 a.length c1] : Array Value)); refine (flows_any _ _ _ _ _ _ m.1 a _ _ _ (HB.out.2.2.2.2 _ HM.out) (HB.out.2.1 _ HM.out) (HB.out.1 _ HM.out)).mono ?_; rintro _ w1 ⟨rfl, hm1⟩; replace HM := Lib.hid (tr0 HM.out hm1); clear hm1) | (go_at_call_of 36 ((#[.slice AM m.1.length cM, .slice A2 b.length c2] : Array Value)); refine (flows_any _ _ _ _ _ _ m.1 b _ _ _ (HB.out.2.2.2.2 _ HM.out) (HB.out.2.2.1 _ HM.out) (HB.out.1 _ HM.out)).mono ?_; rintro _ w1 ⟨rfl, hm1⟩; replace HM := Lib.hid (tr0 HM.out hm1); clear hm1) | (go_at_call_of 36 ((#[.slice A3 c.length c3, .slice A1 a.length c1] : Array Value)); refine (flows_any _ _ _ _ _ _ c a _ _ _ (HB.out.2.2.2.1 _ HM.out) (HB.out.2.1 _ HM.out) (HB.out.1 _ HM.out)).mono ?_; rintro _ w1 ⟨rfl, hm1⟩; replace HM := Lib.hid (tr0 HM.out hm1); clear hm1) | (go_at_call_of 36 ((#[.slice A3 c.length c3, .slice A2 b.length c2] : Array Value)); refine (flows_any _ _ _ _ _ _ c b _ _ _ (HB.out.2.2.2.1 _ HM.out) (HB.out.2.2.1 _ HM.out) (HB.out.1 _ HM.out)).mono ?_; rintro _ w1 ⟨rfl, hm1⟩; replace HM := Lib.hid (tr0 HM.out hm1); clear hm1) | (go_at_call_of 36 ((#[.slice A3 c.length c3, .slice AM m.1.length cM] : Array Value)); refine (flows_any _ _ _ _ _ _ c m.1 _ _ _ (HB.out.2.2.2.1 _ HM.out) (HB.out.2.2.2.2 _ HM.out) (HB.out.1 _ HM.out)).mono ?_; rintro _ w1 ⟨rfl, hm1⟩; replace HM := Lib.hid (tr0 HM.out hm1); clear hm1))
            go_wp2_with fail
            go_ret
            exact ⟨rfl, tr0 H7.out HM.out⟩
        · have k0 : (m.2 != 0) = true := by simpa using hm0
          clear hm0
          go_wp2_with fail
          go_ret
          exact ⟨rfl, tr0 H7.out HM.out⟩
theorem labelOrder_walk (A : Option Addr) (n c : Nat) (A2 : Option Addr) (n2 c2 : Nat) (A3 : Option Addr) (n3 c3 : Nat) (a b d : List Entry) (W : World) (h1 : labR.rel W (fun k => k < W.heap.size) [.slice A n c] a) (h2 : labR.rel W (fun k => k < W.heap.size) [.slice A2 n2 c2] b) (h3 : labR.rel W (fun k => k < W.heap.size) [.slice A3 n3 c3] d) (E : Env W) :
    Calls Tryz.prog 10 #[.slice A n c, .slice A2 n2 c2, .slice A3 n3 c3] W fun r W' => r = .returned (.bool true) ∧ Below W.heap.size W W' :=
  (labelOrder_mod A n c A2 n2 c2 A3 n3 c3 a b d _ _ _ W h1 h2 h3 E).mono fun _ _ h => ⟨h.1, below0 h.2⟩
end Go.Proofs.YthhepnaanjicjaaGreatDoor

/- The law LabelOrder returns true for every input, and its arguments read afterwards as before. No condition. -/
namespace Go.Proofs.YthhepnaanjicjaaGreatDoor.labelOrder
open Go.ChangeShapes Go.WideShapes Go.ChangeAt Go.RowKit
open Go.ChangeMaps (open_string)
set_option linter.unusedVariables false
theorem own : ownKnob Tryz.prog.godebug = none := by kernel_rfl
theorem laidOut : laidOutB Tryz.prog = true := by kernel_rfl
set_option maxRecDepth 100000 in
theorem lifted (os : Os) (started : os.Started) (H : Type) (enc : TypeId × Value → H) :
    ReturnsInHanded {} Tryz.checked os 10 .any (fun w args => (Rows.labelOrderSpec.pre enc Tryz.prog Tryz.f10 Rows.labelOrderRow.domain false w args ∧ laidMetH Tryz.prog Rows.labelOrderRow.laid w) ∧ sizedMet enc Tryz.prog Tryz.f10 (OpenSpec.ofChange Rows.labelOrderSpec) false w args) (Rows.labelOrderSpec.post enc Tryz.prog Tryz.f10 false true false false) := by
  refine returnsInHanded_of_change_and (C := Tryz.checked) (X := fun w _ => laidMetH Tryz.prog Rows.labelOrderRow.laid w) (fun _ _ _ hh h => h.of_heap hh) own started (by kernel_rfl) Tryz.func10
    (ChangeSpec.witness_shaped (enc := enc) (C := Tryz.checked) (os := os) (X := fun w _ => laidMetH Tryz.prog Rows.labelOrderRow.laid w) false (laidWorld os) #[.slice none 0 0, .slice none 0 0, .slice none 0 0] 8 rfl (World.shaped_of_RefB (by kernel_rfl) (by kernel_rfl)) (by kernel_rfl) (by kernel_rfl) (by kernel_rfl) (laidWorld_met os _)) ?_
  intro W base args ds gs before hval0 hW hcnd hsz0 hL _
  have hsz : (DataW.weightsEach Tryz.prog (Tryz.f10.params.toList ++ Rows.labelOrderSpec.plain.varTypes Tryz.prog) (ds ++ gs)).all (· ≤ reachBytes) = true := hsz0
  have hW' := hW
  obtain ⟨p, q, hA0, hV, rfl, hfz, hnd⟩ := hW
  have hval : ∀ (j : Nat) t v, Tryz.f10.params[j]? = some t → args[j]? = some v → Value.okWide Tryz.prog W .any base t v := hval0
  have hA : DataW.TrodAll enc Tryz.prog W 0 (fun _ => true) true Tryz.f10.params.toList args.toList ds p := hA0
  rw [Tryz.params10] at hA hval hsz
  obtain ⟨v0, vs0, d0, ds0, p0, q0, hargs, rfl, rfl, h0, r0⟩ := trodAll_cons hA
  obtain ⟨v1, vs1, d1, ds1, p1, q1, rfl, rfl, rfl, h1, r1⟩ := trodAll_cons r0
  obtain ⟨v2, vs2, d2, ds2, p2, q2, rfl, rfl, rfl, h2, r2⟩ := trodAll_cons r1
  obtain ⟨rfl, rfl, rfl⟩ := trodAll_nil r2
  obtain rfl : args = #[v0, v1, v2] := by cases args; simp_all
  obtain ⟨rfl, rfl⟩ := trodVars_none hV
  obtain ⟨a0, n0, c0, rfl⟩ := okWide_slice Tryz.underlying23 (hval 0 23 v0 rfl rfl)
  have k0 := h0
  have lt0 : ∀ x ∈ p0, x.block < W.heap.size := by obtain ⟨m, hm⟩ := k0; exact DataW.trod_lt m _ _ _ hm
  obtain ⟨x0, y0⟩ : ∃ x, Rd.rel (labR) W (fun k => k < W.heap.size) [.slice a0 n0 c0] x := by
    obtain ⟨fuel, hf⟩ := h0
    exact lab_opens H enc W _ _ _ fuel _ _ hf (fun n hn => of_decide_eq_true (List.all_eq_true.1 hsz _ (DataW.weights_mem_each (j := 0) rfl rfl n hn)))
  obtain ⟨a1, n1, c1, rfl⟩ := okWide_slice Tryz.underlying23 (hval 1 23 v1 rfl rfl)
  have k1 := h1
  have lt1 : ∀ x ∈ p1, x.block < W.heap.size := by obtain ⟨m, hm⟩ := k1; exact DataW.trod_lt m _ _ _ hm
  obtain ⟨x1, y1⟩ : ∃ x, Rd.rel (labR) W (fun k => k < W.heap.size) [.slice a1 n1 c1] x := by
    obtain ⟨fuel, hf⟩ := h1
    exact lab_opens H enc W _ _ _ fuel _ _ hf (fun n hn => of_decide_eq_true (List.all_eq_true.1 hsz _ (DataW.weights_mem_each (j := 1) rfl rfl n hn)))
  obtain ⟨a2, n2, c2, rfl⟩ := okWide_slice Tryz.underlying23 (hval 2 23 v2 rfl rfl)
  have k2 := h2
  have lt2 : ∀ x ∈ p2, x.block < W.heap.size := by obtain ⟨m, hm⟩ := k2; exact DataW.trod_lt m _ _ _ hm
  obtain ⟨x2, y2⟩ : ∃ x, Rd.rel (labR) W (fun k => k < W.heap.size) [.slice a2 n2 c2] x := by
    obtain ⟨fuel, hf⟩ := h2
    exact lab_opens H enc W _ _ _ fuel _ _ hf (fun n hn => of_decide_eq_true (List.all_eq_true.1 hsz _ (DataW.weights_mem_each (j := 2) rfl rfl n hn)))
  clear hA0 hval0 hsz0 hsz
  refine (labelOrder_walk a0 n0 c0 a1 n1 c1 a2 n2 c2 x0 x1 x2 W y0 y1 y2 (env_of hL)).mono fun e W' ⟨he, bel⟩ => ?_
  subst he
  exact ⟨_, rfl, _, _, _, [], _, [], hW', trodAll_mk1 (shut_bool Tryz.underlying4 _), (trodAll_cons_mk (Below.trod laidOut (by kernel_rfl) (of_decide_eq_true (by kernel_rfl)) k0 bel lt0) (trodAll_cons_mk (Below.trod laidOut (by kernel_rfl) (of_decide_eq_true (by kernel_rfl)) k1 bel lt1) (trodAll_cons_mk (Below.trod laidOut (by kernel_rfl) (of_decide_eq_true (by kernel_rfl)) k2 bel lt2) trodAll_mk0))), rfl, bel.frame _, fun h => by cases h⟩
theorem over : Rows.labelOrderRow.holds Tryz.pinned (OpenSpec.ofChange Rows.labelOrderSpec) :=
  OpenClaim.holds_of_wide 10 Tryz.f10 rfl rfl rfl rfl rfl rfl rfl ⟨rfl, rfl, rfl, rfl, rfl⟩ rfl rfl rfl rfl rfl (by kernel_rfl) Tryz.func10 (by kernel_rfl)
    (of_decide_eq_true (by kernel_rfl)) (by unfold Func.isWrapper; first | (rw [if_pos (by decide +kernel)]; kernel_rfl) | (rw [if_neg (by decide +kernel)]; exact ⟨rfl, rfl⟩))
    (fun os started H enc _ => lifted os started H enc)
theorem proved : Rows.LabelOrderSaid := over
#print axioms proved
end Go.Proofs.YthhepnaanjicjaaGreatDoor.labelOrder
namespace Go.Proofs.YthhepnaanjicjaaGreatDoor
/-- The row, under a short name, for the claim. -/
theorem labelOrder_holds : Rows.LabelOrderSaid := labelOrder.proved
end Go.Proofs.YthhepnaanjicjaaGreatDoor

/- The law LabelOrder returns true for every input, and its arguments read afterwards as before: the tied card. No condition beyond the row's own. -/
namespace Go.Proofs.YthhepnaanjicjaaGreatDoor
open Go
theorem labelOrder_card_holds : Rows.LabelOrderCardSaid :=
  Claim7.holds_tied_plain_at .later [] [.data, .data, .data, .data, .sentinel, .sentinel, .pinned] true (true, "fd594034ef6ac330493a0e3f50887663515fa0ef89308825e5a45e0f653eee68") true
    labelOrder_holds (fun _ h => by cases h) (by kernel_rfl) (fun _ h => by cases h) labelOrder_row_tie rfl ⟨rfl, rfl⟩ (by kernel_rfl) rfl
    (fun f fn hf hfn => by
      obtain rfl : f = 10 := Option.some.inj ((show Tryz.prog.funcNamed "regency/regencylaw06.LabelOrder" = some 10 by kernel_rfl).symm.trans hf) |>.symm
      obtain rfl : fn = Tryz.f10 := (Option.some.inj (Tryz.func10.symm.trans hfn)).symm
      exact ⟨by kernel_rfl, fun j t ht => by
        rw [Tryz.params10] at ht
        have hm : t ∈ [23, 23, 23] := by simpa using Array.mem_of_getElem? ht
        have hall : ([23, 23, 23].all fun u => !Tryz.prog.wantsStandIn u) = true := by kernel_rfl
        exact (show Tryz.prog.wantsStandIn t = false by simpa using List.all_eq_true.1 hall t hm)⟩)
    (by kernel_rfl)
#print axioms labelOrder_card_holds
end Go.Proofs.YthhepnaanjicjaaGreatDoor
