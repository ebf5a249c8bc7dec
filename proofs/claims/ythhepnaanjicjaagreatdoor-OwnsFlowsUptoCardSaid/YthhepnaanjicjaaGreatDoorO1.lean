/- Texts of this claim, joined: Tape0, Tape1, Tape2, Tape3, Tape4, TapeL, TapeG, LabPut, LabG, LabO0, Own0, Own1, OwnC, Own2, DelQ, OwnD, OwnW, Own3. -/
import Derived.Test.YthhepnaanjicjaaGreatDoorP0
import Derived.Lib.AppendStr
import Derived.Deep.RegionWith
import Derived.Test.YthhepnaanjicjaaGreatDoorP7
import Derived.Test.YthhepnaanjicjaaGreatDoorP6
import Derived.Test.YthhepnaanjicjaaGreatDoorP5
import Derived.Lib.AppendZeros
/- The pen of layer 3: what its calls write, and its laws of words. -/
namespace Go.Proofs.YthhepnaanjicjaaGreatDoor
open Go.RowKit
structure PenAt (w : World) (base g : Nat) (v : Value) (bs : List UInt8) : Prop where
  blk : w.heap[g]? = some (.cells #[v] 41 (0, 0))
  own : w.ownsRow base 5 1 v bs.length (bcells bs)
  base : base ≤ g
  ne : v.ownBlock ≠ some g
theorem PenAt.cell {w : World} {base g : Nat} {v : Value} {bs : List UInt8} (h : PenAt w base g v bs) : w.cell? ⟨g, 0, none⟩ = some v := by
  simp [World.cell?, h.blk]
theorem PenAt.free {w : World} {base g : Nat} {v : Value} {bs : List UInt8} (h : PenAt w base g v bs) : w.frozen? ⟨g, 0, none⟩ = false := by
  simp [World.frozen?, h.blk]
theorem PenAt.lt {w : World} {base g : Nat} {v : Value} {bs : List UInt8} (h : PenAt w base g v bs) : g < w.heap.size := (Array.getElem?_eq_some_iff.1 h.blk).1
/-- The pen has come from (w, v) to (w1, v1): it alone is written. -/
structure PenTo (base g : Nat) (w : World) (v : Value) (w1 : World) (v1 : Value) (bs1 : List UInt8) : Prop where
  at_ : PenAt w1 base g v1 bs1
  mod : Mod (fun k => k = g ∨ v.ownBlock = some k) w w1
  new : NewOr w v v1
theorem PenTo.refl {w : World} {base g : Nat} {v : Value} {bs : List UInt8} (h : PenAt w base g v bs) : PenTo base g w v w v bs := ⟨h, Mod.refl _ _, .refl _ _⟩
theorem PenTo.trans {w w1 w2 : World} {base g : Nat} {v v1 v2 : Value} {bs1 bs2 : List UInt8} (h : PenTo base g w v w1 v1 bs1) (k : PenTo base g w1 v1 w2 v2 bs2) : PenTo base g w v w2 v2 bs2 :=
  ⟨k.at_, h.mod.trans k.mod (fun i hi => hi.elim (fun e => .inl (.inl e)) (fun e => h.new.set (S := fun k => k = g ∨ v.ownBlock = some k) (fun _ hk => .inr hk) i e)), h.new.trans h.mod.size k.new⟩
/-- behind an append and a store of the pen's field -/
theorem PenAt.step {w w1 : World} {base g : Nat} {v v1 : Value} {bs bs1 : List UInt8} (h : PenAt w base g v bs)
    (ho : w1.ownsRow base 5 1 v1 bs1.length (bcells bs1)) (hg : w.grownBy w1 v.ownBlock) (hn : NewOr w v v1) :
    PenTo base g w v (w1.setCell ⟨g, 0, none⟩ v1) v1 bs1 ∧ w1.cell? ⟨g, 0, none⟩ = some v ∧ w1.frozen? ⟨g, 0, none⟩ = false := by
  have hlt := h.lt
  have hblk : w1.heap[g]? = some (.cells #[v] 41 (0, 0)) := by rw [hg.block g hlt (fun e => h.ne e.symm)]; exact h.blk
  have hne1 : v1.ownBlock ≠ some g := hn.ne hlt h.ne
  refine ⟨⟨⟨set_of_blk hblk 0 v1, own_move ho (fun k hk => Below.heap_setCell _ _ _ _ (fun e => hne1 (by rw [hk, e]))), h.base, hne1⟩, ?_, hn⟩, ?_, ?_⟩
  · exact ((Mod.refl _ w).grown hg (fun k hk => .inl (.inr hk.symm))).setCell (.inl (.inl rfl)) _
  · rw [cell_of_blk hblk]; rfl
  · exact free_of_blk hblk 0
def encF : Nat → Int → List UInt8
  | 0, _ => []
  | f + 1, n => if n < 128 then [u8 n] else u8 (n % 128 + 128) :: encF f (n / 128)
theorem encF_lt (f : Nat) (n : Int) (h : n < 128) : encF (f + 1) n = [u8 n] := by simp [encF, h]
theorem encF_ge (f : Nat) (n : Int) (h : ¬ n < 128) : encF (f + 1) n = u8 (n % 128 + 128) :: encF f (n / 128) := by simp [encF, h]
theorem encF_len (f : Nat) (n : Int) : (encF f n).length ≤ f := by
  induction f generalizing n with
  | zero => simp [encF]
  | succ f ih => simp only [encF]; split
                 · simp
                 · have := ih (n / 128); simp; omega
theorem Tryz.info_u8 : (Tryz.prog.info? 5).map (fun i => (i.zero, i.size, i.bytes)) = some (some (.int .u8 0), 1, 1) := by kernel_rfl
theorem fuel_pos {m : Int} {f : Nat} (h : m < 128 ^ f) (hp : 0 < f) (hm : ¬ m < 128) : ∃ k, f = k + 2 ∧ m / 128 < 128 ^ (k + 1) := by
  match f, hp with
  | 1, _ => simp at h; omega
  | k + 2, _ => refine ⟨k, rfl, ?_⟩; rw [show k + 2 = (k + 1) + 1 from rfl, Int.pow_succ] at h; generalize (128 : Int) ^ (k + 1) = p at *; omega
set_option maxRecDepth 100000 in
set_option maxHeartbeats 400000 in
theorem pnum_any (g base : Nat) (n : Int) (v : Value) (bs : List UInt8) (w : World) (hp : PenAt w base g v bs) (hb : base ≤ w.heap.size) (h0 : 0 ≤ n) (h1 : n ≤ 4611686018427387903) (hl : bs.length ≤ 140737488300000) :
    Calls Tryz.prog 70 #[.pointer (some ⟨g, 0, none⟩), .int .i64 n] w fun e w' => e = .returned (.bool true) ∧ ∃ v', PenTo base g w v w' v' (bs ++ encF 10 n) := by
  have hd0 : decide (n < 0) = false := by simp; omega
  have hd1 : decide (4611686018427387903 < n) = false := by simp; omega
  go_enter Tryz.func70, Tryz.ntmps70
  go_wp2
  go_loopg [1] 10 (fun f x wr => ∃ (m : Int) (u : Value) (cs : List UInt8), x = .int .i64 m ∧ 0 ≤ m ∧ m ≤ 4611686018427387903 ∧ cs ++ encF f m = bs ++ encF 10 n ∧ cs.length + f ≤ bs.length + 10 ∧ 0 < f ∧ m < 128 ^ f ∧ PenTo base g w v wr u cs)
  case atStart => exact ⟨n, v, bs, rfl, h0, h1, rfl, by omega, by decide, by omega, .refl hp⟩
  case round =>
    obtain ⟨m, u, cs, rfl, hm0, hm1, he, hle, hf, hlt, hto⟩ := hrel
    have He := Lib.hid (And.intro he (And.intro hle (And.intro hf hlt))); clear he hlt hle hf
    have hpr := hto.at_
    have hcr := hpr.cell
    have hfr := hpr.free
    have hwb : base ≤ wr.heap.size := Nat.le_trans hb hto.mod.size
    clear hd0 hd1
    by_cases hs : m < 128
    · go_wp2_with (at_builtin; refine append_one base rfl _ _ 39 5 (.int .u8 0) 1 rfl Tryz.underlying39 Tryz.info_u8 rfl (by decide) u (bcells cs) _ rfl rfl rfl (by rw [bcells_length]; exact hpr.own) hwb ?c1 ?_)
      case c1 => have := He.out.2.1; (try rw [bcells_length]); omega
      intro A c w1 hown hg hn
      obtain ⟨R1, R3, R4⟩ := hpr.step (bs1 := cs ++ [u8 m]) (by rw [bcells_append]; simpa [bcells, u8_toNat m hm0 (by omega)] using hown) hg hn
      have HR := Lib.hid R1; clear R1 hn hown hg hcr hfr
      go_wp2
      go_ret
      obtain ⟨he, _, hf, hlt⟩ := He.out
      obtain ⟨f, rfl⟩ : ∃ f, gk = f + 1 := ⟨gk - 1, by omega⟩
      rw [encF_lt _ _ hs] at he
      exact ⟨rfl, _, hto.trans (he ▸ HR.out)⟩
    · go_wp2_with (at_builtin; refine append_one base rfl _ _ 39 5 (.int .u8 0) 1 rfl Tryz.underlying39 Tryz.info_u8 rfl (by decide) u (bcells cs) _ rfl rfl rfl (by rw [bcells_length]; exact hpr.own) hwb ?c1 ?_)
      case c1 => have := He.out.2.1; (try rw [bcells_length]); omega
      intro A c w1 hown hg hn
      obtain ⟨R1, R3, R4⟩ := hpr.step (bs1 := cs ++ [u8 (m % 128 + 128)]) (by rw [bcells_append]; simpa [bcells, u8_toNat (m % 128 + 128) (by omega) (by omega)] using hown) hg hn
      have HR := Lib.hid R1; clear R1 hn hown hg hcr hfr
      go_wp2
      obtain ⟨he, hle, hf, hlt⟩ := He.out
      have hs' : ¬ m < 128 := by omega
      obtain ⟨f, rfl, hlt2⟩ := fuel_pos hlt hf hs'
      go_roundg (f + 1)
      case measure => omega
      case rel => exact ⟨m / 128, _, cs ++ [u8 (m % 128 + 128)], rfl, by omega, by omega, by rw [← he, encF_ge _ _ hs']; simp, by simp; omega, by omega, hlt2, hto.trans HR.out⟩
set_option maxRecDepth 100000 in
theorem num_no (p : Option Addr) (n : Int) (w : World) (h : p = none ∨ n < 0 ∨ 4611686018427387903 < n) :
    Calls Tryz.prog 70 #[.pointer p, .int .i64 n] w fun e w' => e = .returned (.bool false) ∧ w = w' := by
  rcases h with rfl | h | h
  · go_enter Tryz.func70, Tryz.ntmps70
    go_wp2
    go_ret
    exact ⟨rfl, rfl⟩
  · have hd0 : decide (n < 0) = true := by simp; omega
    cases p <;>
    · go_enter Tryz.func70, Tryz.ntmps70
      go_wp2
      go_ret
      exact ⟨rfl, rfl⟩
  · have hd0 : decide (n < 0) = false := by simp; omega
    have hd1 : decide (4611686018427387903 < n) = true := by simp; omega
    cases p <;>
    · go_enter Tryz.func70, Tryz.ntmps70
      go_wp2
      go_ret
      exact ⟨rfl, rfl⟩
set_option maxRecDepth 100000 in
theorem text_nil (s : ByteArray) (w : World) :
    Calls Tryz.prog 71 #[.pointer none, .string s] w fun e w' => e = .returned (.tuple #[]) ∧ w = w' := by
  go_enter Tryz.func71, Tryz.ntmps71
  go_wp2_with (go_at_call 70; refine (num_no none _ w (.inl rfl)).mono ?_; rintro e w' ⟨rfl, rfl⟩)
  go_end0
  exact ⟨rfl, rfl⟩
end Go.Proofs.YthhepnaanjicjaaGreatDoor

/- Layer 3's pen, the rest: Clone of bytes, Text, Bytes. -/
namespace Go.Proofs.YthhepnaanjicjaaGreatDoor
open Go.RowKit
set_option maxRecDepth 100000 in
set_option maxHeartbeats 400000 in
theorem clone_any (v : Value) (xs : List UInt8) (ok : Nat → Prop) (w : World) (h : bytesR.rel w ok [v] xs) :
    Calls Tryz.prog 74 #[v] w fun e w' => ∃ A c, e = .returned (.slice A xs.length c) ∧ w'.ownsRow w.heap.size 5 1 (.slice A xs.length c) xs.length (bcells xs) ∧ Mod (fun _ => False) w w' := by
  have q22 : ∀ (w : World) (a : Option Addr) (n c n' c' : Nat), (binOp .eql 39 (.slice a n c) (.slice none n' c')).run Tryz.prog w = .ok (.bool a.isNone) w := fun w a n c n' c' => Lib.run_eql_slice_nil w _ _ a n c n' c' Tryz.underlying39
  obtain ⟨A, c, hv, h2, h3, h4, h5, h6⟩ := h
  obtain rfl : v = .slice A xs.length c := by simpa using hv
  cases A with
  | none =>
    have hc0 := h5 rfl
    have hx : xs.length = 0 := by omega
    obtain rfl : xs = [] := List.eq_nil_of_length_eq_zero hx
    subst hc0
    go_enter Tryz.func74, Tryz.ntmps74
    go_wp2
    go_ret
    exact ⟨none, 0, rfl, World.ownsRow_nil _ _ _ _, .refl _ _⟩
  | some ad =>
    clear hv h5
    have hnl := bcells_length xs
    have hcells : ∀ j u, (bcells xs)[j]? = some u → w.cell? (ad.add j) = some u := by
      by_cases hx : xs = []
      · subst hx; intro j u hu; simp [bcells] at hu
      · obtain ⟨ad', e, _, hh⟩ := RowOf.bcells h6 hx
        injection e with e; subst e; exact hh
    have HC := Lib.hid hcells; clear hcells
    clear h6
    obtain ⟨i0, hi, hz0, hz1, hz2⟩ := info_parts Tryz.info_u8
    go_enter Tryz.func74, Tryz.ntmps74
    go_wp2_with (at_builtin; refine wpList_append_own_at _ rfl _ _ 39 rfl w.heap.size 5 i0 (.int .u8 0) 1 1 Tryz.underlying39 hi hz0 hz1 hz2 rfl (by decide) (.slice (some ⟨w.heap.size, 0, none⟩) 0 0) 0 [] rfl ?c1 ad xs.length c (bcells xs) rfl ?c2 ?c3 ?c4 ?c5 ?c6 ?c7 ?_)
    case c1 => exact World.ownsRow_made w _ 0 (Nat.le_refl _) (by decide) rfl
    case c2 => simp [bcells_length]
    case c3 => intro j u hu; have := HC.out j u hu; exact cell_step this (fun hl => Below.heap_alloc _ _ _ hl)
    case c4 => exact bcells_one _
    case c5 => unfold maxLen; omega
    case c6 => omega
    case c7 => simp
    intro v1 w1 hown hg hnil hat
    obtain ⟨A1, c1, rfl⟩ := own_slice hown
    have HR := Lib.hid (And.intro hown hg); clear hown hg hnil hat
    go_wp2
    go_ret
    exact ⟨A1, c1, rfl, HR.out.1, ((Mod.refl _ w).alloc _).grown HR.out.2 (by simp [Value.ownBlock])⟩
theorem append_str {P : Program} {ops : Array Oper} {rest : List Oper} {o : Oper} {a : Act} {Q : Exit → Act → World → Prop} {w : World} (base : Nat) (hgd : o.guard = none) (sl x : Operand) (t u e : TypeId)
    (ho : o.op = .call { callee := .builtin .append, args := #[sl, x], argTypes := #[t, u] })
    (ht : P.underlying t = some (.slice e)) (hu : P.underlying u = some .string) (hinfo : (P.info? e).map (fun i => (i.zero, i.size, i.bytes)) = some (some (.int .u8 0), 1, 1))
    (v : Value) (n : Nat) (xs : List Value) (hs : a.eval sl = v) (hown : w.ownsRow base e 1 v n xs) (s : ByteArray) (hx : a.eval x = .string s)
    (hbytes : n + s.size ≤ 140737488355328) (hbase : base ≤ w.heap.size)
    (h : ∀ A c w', w'.ownsRow base e 1 (.slice A (n + s.size) c) (n + s.size) (xs ++ Lib.strCells s) → w.grownBy w' v.ownBlock → NewOr w v (.slice A (n + s.size) c) → wpList P ops Q rest (a.put o.dst (.slice A (n + s.size) c)) w') : wpList P ops Q (o :: rest) a w := by
  obtain ⟨i, hi, hzz⟩ := Option.map_eq_some_iff.1 hinfo
  simp only [Prod.mk.injEq] at hzz
  obtain ⟨hz, hsize, hby⟩ := hzz
  refine wpList_plain hgd fun K hK => ?_
  obtain ⟨v', w', hr, h2, h3, h4⟩ := Lib.run_append_own_string (P := P) w base t u o.type e i ht hu hi hz hsize hby v n xs hown s (by unfold maxLen; omega) hbytes hbase
  have hat : NewOr w v v' := by
    rcases hown.2 with ⟨rfl, rfl⟩ | ⟨g, cap, cur, rfl, hbg, hg, hnc, hcm, hcs, htake⟩
    · by_cases hm : s.size = 0
      · exact .inl (by rw [h4.2 ⟨rfl, hm⟩])
      · have hr2 := run_append_nil_string (P := P) w t u o.type e i (.int .u8 0) ht hu hi hz s (by omega) (by omega) (by rw [hby]; omega)
        rw [hr] at hr2
        injection hr2 with e1 _
        exact .inr ⟨w.heap.size, by rw [e1]; rfl, Nat.le_refl _⟩
    · by_cases hroom : n + s.size ≤ cap
      · have hr2 := Lib.run_append_room_string (P := P) w t u o.type e i ht hu hi hsize g n cap cur hg s hroom (by omega)
        rw [hr] at hr2
        injection hr2 with e1 _
        exact .inl (by rw [e1]; rfl)
      · have hr2 := Lib.run_append_grow_string (P := P) w t u o.type e i (.int .u8 0) ht hu hi hz ⟨g, 0, none⟩ n cap xs (by rw [hsize]; exact hown.1) (hown.cells (g := g) rfl) s (by omega) (by omega) (by rw [hby]; exact growslice_fits (by omega) (by omega))
        rw [hr] at hr2
        injection hr2 with e1 _
        exact .inr ⟨w.heap.size, by rw [e1]; rfl, Nat.le_refl _⟩
  obtain ⟨A, c, rfl⟩ := own_slice h2
  unfold Oper.wp execOp
  simp only [ho, resolve, invoke, builtin, Sem.run_bind, Sem.run_pure, Result.andThen_ok, List.map_toArray, List.map_cons, List.map_nil, hs, hx, hr]
  exact hK _ _ (h A c w' h2 h3 hat)
set_option maxRecDepth 100000 in
theorem ptext_any (g base : Nat) (s : ByteArray) (v : Value) (bs : List UInt8) (w : World) (hp : PenAt w base g v bs) (hb : base ≤ w.heap.size) (hs : s.size ≤ 1000000000) (hl : bs.length ≤ 140000000000000) :
    Calls Tryz.prog 71 #[.pointer (some ⟨g, 0, none⟩), .string s] w fun e w' => e = .returned (.tuple #[]) ∧ ∃ v', PenTo base g w v w' v' (bs ++ encF 10 s.size ++ s.data.toList) := by
  go_enter Tryz.func71, Tryz.ntmps71
  go_wp2_with fail
  refine (pnum_any g base _ v bs w hp hb (by omega) (by omega) (by omega)).mono ?_
  rintro e w1 ⟨rfl, v1, H1⟩
  have hpr := H1.at_
  have hcr := hpr.cell
  have hfr := hpr.free
  have hwb := Nat.le_trans hb H1.mod.size
  go_wp2_with (at_builtin; refine append_str base rfl _ _ 39 9 5 rfl Tryz.underlying39 Tryz.underlying9 Tryz.info_u8 v1 _ _ rfl hpr.own s rfl ?c1 hwb ?_)
  case c1 => have := encF_len 10 (s.size : Int); simp; omega
  intro A c w2 hown hg hn
  obtain ⟨R1, R3, R4⟩ := hpr.step (bs1 := bs ++ encF 10 s.size ++ s.data.toList) (by rw [bcells_append, ← strCells_bcells, List.length_append, List.length_append]; simpa using hown) hg hn
  have HR := Lib.hid R1; clear R1 hn hown hg hcr hfr
  go_wp2
  go_end0
  exact ⟨rfl, _, H1.trans HR.out⟩
set_option maxRecDepth 100000 in
theorem bytes_nil (w : World) :
    Calls Tryz.prog 32 #[.pointer none] w fun e w' => e = .returned (.slice none 0 0) ∧ w = w' := by
  go_enter Tryz.func32, Tryz.ntmps32
  go_wp2
  go_ret
  exact ⟨rfl, rfl⟩
set_option maxRecDepth 100000 in
theorem bytes_any (g base : Nat) (v : Value) (bs : List UInt8) (w : World) (hp : PenAt w base g v bs) (hl : bs.length ≤ 140737488355328) :
    Calls Tryz.prog 32 #[.pointer (some ⟨g, 0, none⟩)] w fun e w' => ∃ A c, e = .returned (.slice A bs.length c) ∧ w'.ownsRow w.heap.size 5 1 (.slice A bs.length c) bs.length (bcells bs) ∧ Mod (fun _ => False) w w' := by
  have hc := hp.cell
  have hr := reads_bytes hp.own hl
  obtain ⟨A0, c0, hv⟩ := own_slice hp.own
  clear hp
  subst hv
  go_enter Tryz.func32, Tryz.ntmps32
  go_wp2_with fail
  refine (clone_any _ bs _ w hr).mono ?_
  rintro e w1 ⟨A, c, rfl, h1, h2⟩
  have HR := Lib.hid (And.intro h1 h2); clear h1 h2
  go_wp2
  go_ret
  exact ⟨A, c, rfl, HR.out.1, HR.out.2⟩
end Go.Proofs.YthhepnaanjicjaaGreatDoor

/- Layer 3's reference: its encodings. -/
namespace Go.Proofs.YthhepnaanjicjaaGreatDoor
open Go.RowKit
theorem run_str1 {P : Program} (w : World) (b : UInt8) (src dst e : TypeId) (hs : P.underlying src = some (.slice e)) (he : P.underlying e = some (.int .u8)) (hd : P.underlying dst = some .string) (n : Int) (hn : n = (b.toNat : Int)) (g : Nat) (hg : w.heap[g]? = some (.cells #[.int .u8 n] e (0, 0))) :
    (convert src dst (.slice (some ⟨g, 0, none⟩) 1 1)).run P w = .ok (.string (mkStr [b])) w := by
  subst hn
  refine run_convert_bytes_back w src dst e ⟨g, 0, none⟩ 1 [b] hs he hd (fun j hj => ?_)
  have : j = 0 := by simpa using hj
  subst this
  simp [Addr.add, World.cell?, hg]
theorem run_str1_new {P : Program} (b : UInt8) (src dst e : TypeId) (hs : P.underlying src = some (.slice e)) (he : P.underlying e = some (.int .u8)) (hd : P.underlying dst = some .string) (n : Int) (hn : n = (b.toNat : Int)) (w : World) :
    (convert src dst (.slice (some ⟨w.heap.size, 0, none⟩) 1 1)).run P (w.alloc (.cells #[.int .u8 n] e)) = .ok (.string (mkStr [b])) (w.alloc (.cells #[.int .u8 n] e)) :=
  run_str1 _ b src dst e hs he hd n hn _ (heap_alloc_new w _)
theorem run_str1_drew {P : Program} (b : UInt8) (src dst e : TypeId) (hs : P.underlying src = some (.slice e)) (he : P.underlying e = some (.int .u8)) (hd : P.underlying dst = some .string) (n : Int) (hn : n = (b.toNat : Int)) (w : World) :
    (convert src dst (.slice (some ⟨w.heap.size, 0, none⟩) 1 1)).run P (w.alloc (.cells #[.int .u8 n] e)).drew = .ok (.string (mkStr [b])) (w.alloc (.cells #[.int .u8 n] e)).drew :=
  run_str1 _ b src dst e hs he hd n hn _ (heap_alloc_new w _)
set_option maxRecDepth 100000 in
theorem refnum_small (n : Int) (w : World) (h0 : 0 ≤ n) (hlt : n < 128) :
    Calls Tryz.prog 75 #[.int .i64 n] w fun e w' => e = .returned (.string (mkStr [u8 n])) ∧ Mod (fun _ => False) w w' := by
  have hcv := run_str1_new (P := Tryz.prog) (u8 n) 39 9 5 Tryz.underlying39 Tryz.underlying5 Tryz.underlying9 n (u8_toNat n h0 (by omega)).symm w
  go_enter Tryz.func75, Tryz.ntmps75
  go_wp2
  go_ret
  exact ⟨rfl, (Mod.refl _ _).alloc _⟩
theorem mkStr_append (a b : List UInt8) : mkStr a ++ mkStr b = mkStr (a ++ b) := by
  apply ByteArray.ext; simp [mkStr]
theorem run_add_strs {P : Program} (a b : List UInt8) (h : a.length + b.length ≤ 9223372036854775807) (w : World) : (Op.stringOp .add (mkStr a) (mkStr b)).run P w = .ok (.string (mkStr (a ++ b))) w := by
  rw [run_string_add_sum w _ _ (by rw [mkStr_size, mkStr_size]; exact h), mkStr_append]
set_option maxRecDepth 100000 in
set_option maxHeartbeats 400000 in
theorem refnum_any (f : Nat) : f ≤ 100 → ∀ (n : Int) (w : World), 0 ≤ n → n ≤ 4611686018427387903 → n < 128 ^ (f + 1) →
    Calls Tryz.prog 75 #[.int .i64 n] w fun e w' => e = .returned (.string (mkStr (encF (f + 1) n))) ∧ Mod (fun _ => False) w w' := by
  induction f with
  | zero =>
    intro _ n w h0 h1 hf
    have hlt : n < 128 := by simpa using hf
    rw [encF_lt _ _ hlt]
    exact refnum_small n w h0 hlt
  | succ f ih =>
    intro hf0 n w h0 h1 hf
    by_cases hlt : n < 128
    · rw [encF_lt _ _ hlt]
      exact refnum_small n w h0 hlt
    have hf2 : n / 128 < 128 ^ (f + 1) := by
      rw [Int.pow_succ] at hf; generalize (128 : Int) ^ (f + 1) = p at *; omega
    rw [encF_ge _ _ hlt]
    have IH := fun W => ih (by omega) (n / 128) W (by omega) (by omega) hf2
    clear hf ih hf2
    have hq : n.tdiv 128 = n / 128 := Int.tdiv_eq_ediv_of_nonneg h0
    have hr : n.tmod 128 = n % 128 := Int.tmod_eq_emod_of_nonneg h0
    have hw1 : IntKind.i64.wrap (n / 128) = n / 128 := IntWalk.i64_in _ (by omega)
    have hw2 : IntKind.i64.wrap (128 + n % 128) = n % 128 + 128 := (IntWalk.i64_in _ (by omega)).trans (by omega)
    have hw3 : IntKind.u8.wrap (n % 128 + 128) = n % 128 + 128 := IntWalk.u8_in _ (by omega)
    have hcv := run_str1_new (P := Tryz.prog) (u8 (n % 128 + 128)) 39 9 5 Tryz.underlying39 Tryz.underlying5 Tryz.underlying9 (n % 128 + 128) (u8_toNat _ (by omega) (by omega)).symm
    have hcd := run_str1_drew (P := Tryz.prog) (u8 (n % 128 + 128)) 39 9 5 Tryz.underlying39 Tryz.underlying5 Tryz.underlying9 (n % 128 + 128) (u8_toNat _ (by omega) (by omega)).symm
    have hadd := run_add_strs (P := Tryz.prog) [u8 (n % 128 + 128)] (encF (f + 1) (n / 128)) (by have := encF_len (f + 1) (n / 128); simp; omega)
    go_enter Tryz.func75, Tryz.ntmps75
    go_wp2
    go_region_with (first | (go_at_call 75; refine (IH _).mono ?_; rintro e w' ⟨rfl, HM⟩; try (have hc2 := run_str1 (P := Tryz.prog) w' (u8 (n % 128 + 128)) 39 9 5 Tryz.underlying39 Tryz.underlying5 Tryz.underlying9 (n % 128 + 128) (u8_toNat _ (by omega) (by omega)).symm w.heap.size ((HM.block w.heap.size (by simp) (fun h => h)).trans (heap_alloc_new w _)))))
    all_goals
      clear hcv hcd hadd hw1 hw2 hw3 hq hr
      go_wp2
      go_ret
      first
        | exact ⟨rfl, ((Mod.refl _ w).drew.trans HM (by simp)).alloc _⟩
        | exact ⟨rfl, (((Mod.refl _ w).alloc _).drew.trans HM (by simp))⟩
        | exact ⟨rfl, (((Mod.refl _ w).drew.alloc _).trans HM (by simp))⟩
set_option maxRecDepth 100000 in
theorem reftext_any (s : ByteArray) (hs : s.size ≤ 1000000000) (w : World) :
    Calls Tryz.prog 76 #[.string s] w fun e w' => e = .returned (.string (mkStr (encF 10 s.size ++ s.data.toList))) ∧ Mod (fun _ => False) w w' := by
  have hadd := run_add_strs (P := Tryz.prog) (encF 10 s.size) s.data.toList (by have := encF_len 10 (s.size : Int); simp; omega)
  rw [list_mkStr] at hadd
  go_enter Tryz.func76, Tryz.ntmps76
  go_wp2_with (go_at_call 75; refine (refnum_any 9 (by decide) s.size _ (by omega) (by omega) (by omega)).mono ?_; rintro e w' ⟨rfl, HM⟩)
  go_ret
  exact ⟨rfl, HM⟩
end Go.Proofs.YthhepnaanjicjaaGreatDoor

/- Layer 3's tape: what its calls read. -/
namespace Go.Proofs.YthhepnaanjicjaaGreatDoor
open Go.RowKit
/-- From the i-th byte on, n read so far: the value, the count, the fault. -/
def decF : Nat → Int → List UInt8 → Int × Int × Int
  | _, _, [] => (0, 0, 11)
  | i, n, c :: r => if i = 9 then (0, 0, 10) else if 128 ≤ c.toNat then decF (i + 1) (n + ((c.toNat : Int) - 128) * 128 ^ i) r else if c.toNat = 0 ∧ 0 < i then (0, 0, 10) else (n + c.toNat * 128 ^ i, (i : Int) + 1, 0)
theorem pow128 (i : Nat) (hi : i ≤ 8) : ∃ p : Int, (128 : Int) ^ i = p ∧ 1 ≤ p ∧ p ≤ 72057594037927936 ∧ (128 : Int) ^ (i + 1) = p * 128 := by
  refine ⟨_, rfl, ?_, ?_, Int.pow_succ ..⟩
  all_goals
    have : i = 0 ∨ i = 1 ∨ i = 2 ∨ i = 3 ∨ i = 4 ∨ i = 5 ∨ i = 6 ∨ i = 7 ∨ i = 8 := by omega
    rcases this with rfl | rfl | rfl | rfl | rfl | rfl | rfl | rfl | rfl <;> decide
theorem dec_more {i : Nat} {n m b : Int} (hi : i ≤ 8) (hm : m = 128 ^ i) (h0 : 0 ≤ n) (h1 : n < 128 ^ i) (hb0 : 128 ≤ b) (hb1 : b < 256) :
    wrap64 (n + wrap64 ((b - 128) * m)) = n + (b - 128) * 128 ^ i ∧ 0 ≤ n + (b - 128) * 128 ^ i ∧ n + (b - 128) * 128 ^ i < 128 ^ (i + 1) ∧ (i + 1 ≤ 8 → wrap64 (m * 128) = 128 ^ (i + 1)) := by
  obtain ⟨p, hp, hp1, hp2, hp3⟩ := pow128 i hi
  subst hm
  rw [hp] at h1
  rw [hp3, hp]
  have e1 : 0 ≤ (b - 128) * p := Int.mul_nonneg (by omega) (by omega)
  have e2 : (b - 128) * p ≤ 127 * p := Int.mul_le_mul_of_nonneg_right (by omega) (by omega)
  refine ⟨?_, by omega, by omega, fun h => ?_⟩
  · generalize (b - 128) * p = q at *
    unfold wrap64; omega
  · have hi7 : i ≤ 7 := by omega
    have : p ≤ 562949953421312 := by
      rw [← hp]
      clear hp hp1 hp2 hp3 e1 e2 h h1
      have : i = 0 ∨ i = 1 ∨ i = 2 ∨ i = 3 ∨ i = 4 ∨ i = 5 ∨ i = 6 ∨ i = 7 := by omega
      rcases this with rfl | rfl | rfl | rfl | rfl | rfl | rfl | rfl <;> decide
    unfold wrap64; omega
theorem dec_last {i : Nat} {n m b : Int} (hi : i ≤ 8) (hm : m = 128 ^ i) (h0 : 0 ≤ n) (h1 : n < 128 ^ i) (hb0 : 0 ≤ b) (hb1 : b < 128) :
    wrap64 (n + wrap64 (b * m)) = n + b * 128 ^ i := by
  obtain ⟨p, hp, hp1, hp2, hp3⟩ := pow128 i hi
  subst hm
  rw [hp] at h1 ⊢
  have e1 : 0 ≤ b * p := Int.mul_nonneg (by omega) (by omega)
  have e2 : b * p ≤ 127 * p := Int.mul_le_mul_of_nonneg_right (by omega) (by omega)
  generalize b * p = q at *
  unfold wrap64; omega
structure TapeAt (w : World) (ok : Nat → Prop) (g : Nat) (v e : Value) (bs : List UInt8) : Prop where
  blk : w.heap[g]? = some (.cells #[v, e] 92 (0, 0))
  rd : bytesR.rel w (fun k => ok k ∧ k ≠ g) [v] bs
theorem TapeAt.cell0 {w : World} {ok : Nat → Prop} {g : Nat} {v e : Value} {bs : List UInt8} (h : TapeAt w ok g v e bs) : w.cell? ⟨g, 0, none⟩ = some v := by
  rw [cell_of_blk h.blk]; rfl
theorem TapeAt.cell1 {w : World} {ok : Nat → Prop} {g : Nat} {v e : Value} {bs : List UInt8} (h : TapeAt w ok g v e bs) : w.cell? ⟨g, 1, none⟩ = some e := by
  rw [cell_of_blk h.blk]; rfl
theorem TapeAt.free {w : World} {ok : Nat → Prop} {g : Nat} {v e : Value} {bs : List UInt8} (h : TapeAt w ok g v e bs) (j : Nat) : w.frozen? ⟨g, j, none⟩ = false := free_of_blk h.blk j
theorem TapeAt.slice {w : World} {ok : Nat → Prop} {g : Nat} {v e : Value} {bs : List UInt8} (h : TapeAt w ok g v e bs) : ∃ A c, v = .slice A bs.length c := by
  obtain ⟨A, c, hv, _⟩ := h.rd
  exact ⟨A, c, by simpa using hv⟩
set_option maxRecDepth 100000 in
set_option maxHeartbeats 400000 in
theorem tnumber_any (g : Nat) (ok : Nat → Prop) (v e : Value) (bs : List UInt8) (w : World) (h : TapeAt w ok g v e bs) :
    Calls Tryz.prog 111 #[.pointer (some ⟨g, 0, none⟩)] w fun r w' => r = .returned (.tuple #[.int .i64 (decF 0 0 bs).1, .int .i64 (decF 0 0 bs).2.1, .int .i64 (decF 0 0 bs).2.2]) ∧ w = w' := by
  have hc0 := h.cell0
  obtain ⟨A, c, hv, h2, h3, h4, h5, h6⟩ := h.rd
  obtain rfl : v = .slice A bs.length c := by simpa using hv
  have hR := Lib.hid h6
  have hm : bs.length ≤ 140737488355328 := by omega
  clear h hv h6 h5 h4
  obtain ⟨D, hD⟩ : ∃ D, D = decF 0 0 bs := ⟨_, rfl⟩
  have HD := Lib.hid hD
  rw [← hD]; clear hD
  go_enter Tryz.func111, Tryz.ntmps111
  go_wp2
  go_loopg [5, 6, 14] (bs.length) (fun f sn sw si wr => ∃ (i : Nat) (n m : Int), wr = w ∧ si = .int .i64 i ∧ sn = .int .i64 n ∧ sw = .int .i64 m ∧ i + f = bs.length ∧ i ≤ 9 ∧ 0 ≤ n ∧ n < 128 ^ i ∧ (i ≤ 8 → m = 128 ^ i) ∧ D = decF i n (bs.drop i))
  case atStart => exact ⟨0, 0, 1, rfl, rfl, rfl, rfl, by omega, by omega, by omega, by omega, fun _ => rfl, HD.out⟩
  case round =>
    obtain ⟨i, n, m, rfl, rfl, rfl, rfl, hi, hi9, hn0, hn1, hm1, hd⟩ := hrel
    have HI := Lib.hid (And.intro hi (And.intro hn1 (And.intro hm1 hd))); clear hi hn1 hm1 hd
    by_cases hlt : i < bs.length
    · obtain ⟨b, hb⟩ : ∃ b, bs[i]? = some b := ⟨_, List.getElem?_eq_getElem hlt⟩
      obtain ⟨ad, rfl, _, hcells⟩ := RowOf.bcells hR.out (by intro e; subst e; simp at hlt)
      have hcell := hcells i (.int .u8 (b.toNat : Int)) (by simp [bcells, hb])
      have hb256 : b.toNat < 256 := b.toNat_lt
      have hdr : bs.drop i = b :: bs.drop (i + 1) := by
        rw [List.drop_eq_getElem_cons hlt]; congr 1; rw [List.getElem?_eq_getElem hlt] at hb; exact Option.some.inj hb
      have HB := Lib.hid (And.intro hb hdr)
      clear hcells hb hdr
      go_wp2
      · have h9 : i = 9 := by have : ((i : Int) == 9) = true := by assumption
                              simp at this; omega
        go_ret3
        obtain ⟨_, hdr⟩ := HB.out
        obtain ⟨hi, hn1, hm1, hd⟩ := HI.out
        rw [hd, hdr, decF, if_pos h9]
        exact ⟨rfl, rfl⟩
      · have h9 : ¬ i = 9 := by have : ((i : Int) == 9) = false := by assumption
                                simp at this; omega
        have hbb : (128 : Int) ≤ (b.toNat : Int) := by assumption
        obtain ⟨_, hdr⟩ := HB.out
        obtain ⟨hi, hn1, hm1, hd⟩ := HI.out
        obtain ⟨e1, e2, e3, e4⟩ := dec_more (i := i) (by omega) (hm1 (by omega)) hn0 hn1 hbb (by omega)
        go_roundg (gk - 1)
        case measure => omega
        case rel =>
          refine ⟨i + 1, n + ((b.toNat : Int) - 128) * 128 ^ i, wrap64 (m * 128), rfl, by go_num, by rw [e1], rfl, by omega, by omega, e2, e3, fun h => e4 (by omega), ?_⟩
          rw [hd, hdr, decF, if_neg h9, if_pos (by omega)]
      · have h9 : ¬ i = 9 := by have : ((i : Int) == 9) = false := by assumption
                                simp at this; omega
        have hbb : b.toNat = 0 := by assumption
        have hip : 0 < i := by assumption
        go_ret3
        obtain ⟨_, hdr⟩ := HB.out
        obtain ⟨hi, hn1, hm1, hd⟩ := HI.out
        rw [hd, hdr, decF, if_neg h9, if_neg (by omega), if_pos ⟨hbb, hip⟩]
        exact ⟨rfl, rfl⟩
      all_goals
        have h9 : ¬ i = 9 := by have : ((i : Int) == 9) = false := by assumption
                                simp at this; omega
        go_ret3
        obtain ⟨_, hdr⟩ := HB.out
        obtain ⟨hi, hn1, hm1, hd⟩ := HI.out
        rw [hd, hdr, decF, if_neg h9, if_neg (by omega), if_neg (by omega)]
        have e1 := dec_last (i := i) (by omega) (hm1 (by omega)) hn0 hn1 (b := (b.toNat : Int)) (by omega) (by omega)
        first
          | (simp [e1]; done)
          | (have hb0 : b.toNat = 0 := by assumption
             have e0 : wrap64 0 = 0 := by unfold wrap64; decide
             rw [hb0] at e1 ⊢; simp [e0] at e1 ⊢; exact e1)
    · go_wp2
      go_ret3
      obtain ⟨hi, hn1, hm1, hd⟩ := HI.out
      rw [hd, List.drop_eq_nil_of_le (by omega)]
      exact ⟨rfl, rfl⟩
/-- A fault that lies in a block of its own. -/
def FaultAt (w : World) (b : Nat) (place : ByteArray) (code : Int) (behind : Value) : Prop := w.heap[b]? = some (.cells #[.string place, .int .i64 code, behind] 158 (0, 0))
def tapeStr : ByteArray := ⟨#[116, 97, 112, 101]⟩
/-- What Number of a tape tells: the value, the bytes that are left, the fault's number (0: none). -/
def numD (most : Int) (bs : List UInt8) : Int × List UInt8 × Int :=
  if (decF 0 0 bs).2.2 ≠ 0 then (0, bs, (decF 0 0 bs).2.2) else if (decF 0 0 bs).1 < 0 ∨ most < (decF 0 0 bs).1 then (0, bs, 13) else ((decF 0 0 bs).1, bs.drop (decF 0 0 bs).2.1.toNat, 0)
/-- The tape has come from w to w1: its block alone is written; where it has failed, its fault lies in a new block. -/
structure TapeTo (w : World) (ok : Nat → Prop) (g : Nat) (w1 : World) (bs1 : List UInt8) (code : Int) : Prop where
  at_ : ∃ v e, TapeAt w1 ok g v e bs1 ∧ (code = 0 → e = .nilIface) ∧ (code ≠ 0 → ∃ b, w.heap.size ≤ b ∧ e = .iface 156 (.pointer (some ⟨b, 0, none⟩)) ∧ FaultAt w1 b tapeStr code .nilIface)
  mod : Mod (fun k => k = g) w w1
theorem decF_ok (bs : List UInt8) : ∀ (i : Nat) (n : Int), 0 ≤ n → (decF i n bs).2.2 = 0 → n ≤ (decF i n bs).1 ∧ (i : Int) < (decF i n bs).2.1 ∧ (decF i n bs).2.1 ≤ i + bs.length := by
  induction bs with
  | nil => intro i n _ h; simp [decF] at h
  | cons c r ih =>
    intro i n h0 h
    have hp : (0 : Int) < 128 ^ i := Int.pow_pos (by decide)
    unfold decF at h ⊢
    split at h
    · simp at h
    split at h
    · rename_i h1 h2
      rw [if_neg h1, if_pos h2]
      have hq : 0 ≤ ((c.toNat : Int) - 128) * 128 ^ i := Int.mul_nonneg (by omega) (by omega)
      obtain ⟨a, b, d⟩ := ih (i + 1) (n + ((c.toNat : Int) - 128) * 128 ^ i) (by omega) h
      simp only [List.length_cons]
      exact ⟨by omega, by omega, by omega⟩
    split at h
    · simp at h
    rename_i h1 h2 h3
    rw [if_neg h1, if_neg h2, if_neg h3]
    have hq : 0 ≤ (c.toNat : Int) * 128 ^ i := Int.mul_nonneg (by omega) (by omega)
    simp only [List.length_cons]
    exact ⟨by omega, by omega, by omega⟩
theorem decF_code (bs : List UInt8) : ∀ (i : Nat) (n : Int), (decF i n bs).2.2 = 0 ∨ (decF i n bs).2.2 = 10 ∨ (decF i n bs).2.2 = 11 := by
  induction bs with
  | nil => intro i n; simp [decF]
  | cons c r ih =>
    intro i n
    unfold decF
    split
    · simp
    split
    · exact ih _ _
    split <;> simp
/-- behind fail: the fault's block is new, the tape's field holds it -/
theorem TapeAt.failed {w : World} {ok : Nat → Prop} {g : Nat} {v : Value} {bs : List UInt8} (h : TapeAt w ok g v .nilIface bs) (code : Int) (hc : code ≠ 0) :
    TapeTo w ok g ((w.setCell ⟨g, 1, none⟩ (.iface 156 (.pointer (some ⟨w.heap.size, 0, none⟩)))).alloc (.cells #[.string ⟨#[116, 97, 112, 101]⟩, .int .i64 code, .nilIface] 158)) bs code := by
  have hlt := lt_of_blk h.blk
  have hm : Mod (fun k => k = g) w ((w.setCell ⟨g, 1, none⟩ (.iface 156 (.pointer (some ⟨w.heap.size, 0, none⟩)))).alloc (.cells #[.string ⟨#[116, 97, 112, 101]⟩, .int .i64 code, .nilIface] 158)) := ((Mod.refl (fun k => k = g) w).setCell (.inl rfl) _).alloc _
  have hs : (w.setCell ⟨g, 1, none⟩ (.iface 156 (.pointer (some ⟨w.heap.size, 0, none⟩)))).heap.size = w.heap.size := by simp [World.setCell]
  refine ⟨⟨v, _, ⟨?_, ?_⟩, fun e => absurd e hc, fun _ => ⟨w.heap.size, Nat.le_refl _, rfl, ?_⟩⟩, hm⟩
  · rw [Below.heap_alloc _ _ _ (by rw [hs]; exact hlt)]; exact set_of_blk h.blk 1 _
  · exact Rd.mod h.rd hm (fun k hk => hk.2)
  · unfold FaultAt
    have := heap_alloc_new (w.setCell ⟨g, 1, none⟩ (.iface 156 (.pointer (some ⟨w.heap.size, 0, none⟩)))) (.cells #[.string tapeStr, .int .i64 code, .nilIface] 158)
    rwa [hs] at this
theorem TapeAt.moved {w : World} {ok : Nat → Prop} {g : Nat} {v v1 : Value} {bs bs1 : List UInt8} (h : TapeAt w ok g v .nilIface bs) (h1 : bytesR.rel w (fun k => ok k ∧ k ≠ g) [v1] bs1) :
    TapeTo w ok g (w.setCell ⟨g, 0, none⟩ v1) bs1 0 := by
  have hm : Mod (fun k => k = g) w (w.setCell ⟨g, 0, none⟩ v1) := (Mod.refl (fun k => k = g) w).setCell (.inl rfl) _
  exact ⟨⟨v1, _, ⟨set_of_blk h.blk 0 _, Rd.mod h1 hm (fun k hk => hk.2)⟩, fun _ => rfl, fun e => absurd rfl e⟩, hm⟩
set_option maxRecDepth 100000 in
set_option maxHeartbeats 400000 in
theorem tnum_any (g : Nat) (ok : Nat → Prop) (v : Value) (bs : List UInt8) (most : Int) (w : World) (h : TapeAt w ok g v .nilIface bs) :
    Calls Tryz.prog 77 #[.pointer (some ⟨g, 0, none⟩), .int .i64 most] w fun r w' => r = .returned (.int .i64 (numD most bs).1) ∧ TapeTo w ok g w' (numD most bs).2.1 (numD most bs).2.2 := by
  have hc0 := h.cell0
  have hc1 := h.cell1
  have hf0 := h.free 0
  have hf1 := h.free 1
  have hlt := lt_of_blk h.blk
  have hN := tnumber_any g ok v .nilIface bs w h
  have hok := decF_ok bs 0 0 (by omega)
  obtain ⟨D, hD⟩ : ∃ D, D = decF 0 0 bs := ⟨_, rfl⟩
  have HD := Lib.hid hD
  have HN := Lib.hid hN
  rw [← hD] at hok HN; clear hD hN
  by_cases h1 : D.2.2 = 0
  · obtain ⟨p1, p2, p3⟩ := hok h1
    obtain ⟨A, c, rfl⟩ := h.slice
    obtain ⟨i0, hi, hz0, hz1, hz2⟩ := info_parts Tryz.info_u8
    obtain ⟨A', hsl, hrd⟩ := slice_from h.rd (t := 39) (e := 5) Tryz.underlying39 hi hz1 .i64 D.2.1 (by omega) (by omega)
    by_cases h2 : D.1 ≤ most
    · have hfin : numD most bs = (D.1, bs.drop D.2.1.toNat, 0) := by unfold numD; rw [← HD.out, if_neg (by simp [h1]), if_neg (by omega)]
      rw [hfin]
      have HF := Lib.hid (h.moved hrd)
      have hb1 : ((D.2.2 : Int) != 0) = false := by simp [h1]
      have HX := Lib.hid (And.intro hfin (And.intro h1 (And.intro h hok))); clear hfin h1 h hok hi hz0 hz1 hz2 hrd
      go_enter Tryz.func77, Tryz.ntmps77
      go_wp2_with fail
      refine HN.out.mono ?_
      rintro r w' ⟨rfl, rfl⟩
      go_wp2
      go_ret
      exact ⟨rfl, HF.out⟩
    · have hfin : numD most bs = (0, bs, 13) := by unfold numD; rw [← HD.out, if_neg (by simp [h1]), if_pos (by omega)]
      rw [hfin]
      have HF := Lib.hid (h.failed 13 (by decide))
      have hb1 : ((D.2.2 : Int) != 0) = false := by simp [h1]
      have HX := Lib.hid (And.intro hfin (And.intro h1 (And.intro h hok))); clear hfin h1 h hok hi hz0 hz1 hz2 hrd hsl
      go_enter Tryz.func77, Tryz.ntmps77
      go_wp2_with fail
      refine HN.out.mono ?_
      rintro r w' ⟨rfl, rfl⟩
      go_wp2
      go_ret
      exact ⟨rfl, HF.out⟩
  · have hfin : numD most bs = (0, bs, D.2.2) := by unfold numD; rw [← HD.out, if_pos (by simpa using h1)]
    rw [hfin]
    have HF := Lib.hid (h.failed D.2.2 h1)
    have hb1 : ((D.2.2 : Int) != 0) = true := by simpa using h1
    have hb2 : ((D.2.2 : Int) == 0) = false := by simpa using h1
    have HX := Lib.hid (And.intro hfin (And.intro h1 (And.intro h hok))); clear hfin h1 h hok
    go_enter Tryz.func77, Tryz.ntmps77
    go_wp2_with fail
    refine HN.out.mono ?_
    rintro r w' ⟨rfl, rfl⟩
    go_wp2
    go_ret
    exact ⟨rfl, HF.out⟩
end Go.Proofs.YthhepnaanjicjaaGreatDoor

/- Layer 3's tape, the rest: New, Text, End, Err, Flag. -/
namespace Go.Proofs.YthhepnaanjicjaaGreatDoor
open Go.RowKit
/-- What Text of a tape tells: the text, the bytes that are left, the fault's number. -/
def textD (most : Int) (bs : List UInt8) : List UInt8 × List UInt8 × Int :=
  if (numD most bs).2.2 ≠ 0 then ([], bs, (numD most bs).2.2) else if ((numD most bs).2.1.length : Int) < (numD most bs).1 then ([], bs, 11) else ((numD most bs).2.1.take (numD most bs).1.toNat, (numD most bs).2.1.drop (numD most bs).1.toNat, 0)
theorem numD_fail {most : Int} {bs : List UInt8} (h : (numD most bs).2.2 ≠ 0) : (numD most bs).2.1 = bs ∧ (numD most bs).1 = 0 := by
  unfold numD at h ⊢
  split
  · exact ⟨rfl, rfl⟩
  · rename_i h1
    rw [if_neg h1] at h
    split
    · exact ⟨rfl, rfl⟩
    · rename_i h2
      rw [if_neg h2] at h; exact absurd rfl h
theorem numD_nonneg (most : Int) (bs : List UInt8) : 0 ≤ (numD most bs).1 := by
  unfold numD
  split
  · simp
  split
  · simp
  rename_i h1 h2
  simp only; omega
theorem TapeTo.ok {w w1 : World} {ok : Nat → Prop} {g : Nat} {bs : List UInt8} (h : TapeTo w ok g w1 bs 0) : ∃ v, TapeAt w1 ok g v .nilIface bs := by
  obtain ⟨⟨v, e, h1, h2, _⟩, _⟩ := h
  obtain rfl := h2 rfl
  exact ⟨v, h1⟩
theorem TapeTo.trans {w w1 w2 : World} {ok : Nat → Prop} {g : Nat} {bs1 bs2 : List UInt8} {c1 c2 : Int} (h : TapeTo w ok g w1 bs1 c1) (k : TapeTo w1 ok g w2 bs2 c2) : TapeTo w ok g w2 bs2 c2 := by
  obtain ⟨⟨v, e, h1, h2, h3⟩, hm⟩ := k
  refine ⟨⟨v, e, h1, h2, fun hc => ?_⟩, h.mod.trans hm (fun k hk => .inl hk)⟩
  obtain ⟨b, hb, h4⟩ := h3 hc
  exact ⟨b, Nat.le_trans h.mod.size hb, h4⟩
set_option maxRecDepth 100000 in
set_option maxHeartbeats 400000 in
theorem ttext_any (g : Nat) (ok : Nat → Prop) (v : Value) (bs : List UInt8) (most : Int) (w : World) (h : TapeAt w ok g v .nilIface bs) :
    Calls Tryz.prog 78 #[.pointer (some ⟨g, 0, none⟩), .int .i64 most] w fun r w' => r = .returned (.string (mkStr (textD most bs).1)) ∧ TapeTo w ok g w' (textD most bs).2.1 (textD most bs).2.2 := by
  have hc0 := h.cell0
  have hc1 := h.cell1
  have hN := tnum_any g ok v bs most w h
  have hn0 := numD_nonneg most bs
  have hfl := numD_fail (most := most) (bs := bs)
  obtain ⟨D, hD⟩ : ∃ D, D = numD most bs := ⟨_, rfl⟩
  have HN := Lib.hid hN
  have HFIN : Hid (textD most bs = if D.2.2 ≠ 0 then ([], bs, D.2.2) else if (D.2.1.length : Int) < D.1 then ([], bs, 11) else (D.2.1.take D.1.toNat, D.2.1.drop D.1.toNat, 0)) := by rw [hD]; exact rfl
  rw [← hD] at hn0 HN hfl; clear hD hN
  have hemp : ByteArray.empty = mkStr [] := rfl
  by_cases h1 : D.2.2 = 0
  · have HL := Lib.hid h; clear h
    by_cases h2 : (D.2.1.length : Int) < D.1
    · have hfin : textD most bs = ([], bs, 11) := by rw [HFIN.out, if_neg (by simp [h1]), if_pos h2]
      rw [hfin]
      have HX := Lib.hid (And.intro hfin h1); clear hfin h1
      obtain ⟨A0, c0, hv0⟩ := HL.out.slice
      subst hv0
      go_enter Tryz.func78, Tryz.ntmps78
      go_wp2_with fail
      refine HN.out.mono ?_
      rintro r w1 ⟨rfl, HT⟩
      rw [HX.out.2] at HT
      obtain ⟨v1, h3⟩ := HT.ok
      obtain ⟨A1, c1, rfl⟩ := h3.slice
      have hd0 := h3.cell0
      have hd1 := h3.cell1
      have hf0 := h3.free 0
      have hf1 := h3.free 1
      have hgl := lt_of_blk h3.blk
      have hrd1 : bytesR.rel w1 (fun k => ok k ∧ k ≠ g) [.slice A0 bs.length c0] bs := Rd.mod HL.out.rd HT.mod (fun k hk => hk.2)
      have h4 := h3.moved hrd1
      obtain ⟨v5, h5⟩ := h4.ok
      have h6 := HT.trans (h4.trans (h5.failed 11 (by decide)))
      have HF := Lib.hid h6; clear h6 h5 h4 hrd1 HT h3
      go_wp2
      go_ret
      exact ⟨rfl, by simpa using HF.out⟩
    · have hfin : textD most bs = (D.2.1.take D.1.toNat, D.2.1.drop D.1.toNat, 0) := by rw [HFIN.out, if_neg (by simp [h1]), if_neg h2]
      rw [hfin]
      have HX := Lib.hid (And.intro hfin h1); clear hfin h1
      go_enter Tryz.func78, Tryz.ntmps78
      go_wp2_with fail
      refine HN.out.mono ?_
      rintro r w1 ⟨rfl, HT⟩
      rw [HX.out.2] at HT
      obtain ⟨v1, h3⟩ := HT.ok
      obtain ⟨A1, c1, rfl⟩ := h3.slice
      have hd0 := h3.cell0
      have hd1 := h3.cell1
      have hf0 := h3.free 0
      have hf1 := h3.free 1
      obtain ⟨i0, hi, hz0, hz1, hz2⟩ := info_parts Tryz.info_u8
      obtain ⟨A2, hs2, hr2⟩ := slice_to h3.rd (t := 39) (e := 5) Tryz.underlying39 hi .i64 D.1 (by omega) (by omega)
      obtain ⟨A3, hs3, hr3⟩ := slice_from h3.rd (t := 39) (e := 5) Tryz.underlying39 hi hz1 .i64 D.1 (by omega) (by omega)
      have hcv := run_str (P := Tryz.prog) hr2 39 9 5 Tryz.underlying39 Tryz.underlying5 Tryz.underlying9
      have HF := Lib.hid (HT.trans (h3.moved hr3)); clear h3 hr2 hr3 HT hi hz0 hz1 hz2
      go_wp2
      go_ret
      exact ⟨rfl, HF.out⟩
  · have hfin : textD most bs = ([], bs, D.2.2) := by rw [HFIN.out, if_pos h1]
    rw [hfin]
    have HX := Lib.hid (And.intro hfin h1); clear hfin
    obtain ⟨q1, q2⟩ := hfl h1
    rw [q1, q2] at HN
    clear hfl q1 q2 hn0 h1
    go_enter Tryz.func78, Tryz.ntmps78
    go_wp2_with fail
    refine HN.out.mono ?_
    rintro r w1 ⟨rfl, HT⟩
    obtain ⟨⟨v1, e1, h3, _, h4⟩, hm⟩ := HT
    obtain ⟨b, hb, rfl, hF⟩ := h4 HX.out.2
    have hd0 := h3.cell0
    have hd1 := h3.cell1
    have HF : Hid (TapeTo w ok g w1 bs D.2.2) := ⟨⟨v1, _, h3, fun e => absurd e HX.out.2, fun _ => ⟨b, hb, rfl, hF⟩⟩, hm⟩
    clear h3 h4 hF hm
    go_wp2
    go_ret
    exact ⟨rfl, HF.out⟩
set_option maxRecDepth 100000 in
theorem tnew_any (v : Value) (bs : List UInt8) (ok : Nat → Prop) (w : World) (h : bytesR.rel w ok [v] bs) :
    Calls Tryz.prog 35 #[v] w fun e w' => ∃ g v', e = .returned (.pointer (some ⟨g, 0, none⟩)) ∧ w.heap.size ≤ g ∧ TapeAt w' (fun k => w.heap.size ≤ k) g v' .nilIface bs ∧ Mod (fun _ => False) w w' := by
  have hl : bs.length ≤ 140737488355328 := by obtain ⟨A, c, hv, h2, h3, h4, h5, h6⟩ := h; omega
  have HC := Lib.hid (clone_any v bs ok w h)
  clear h
  go_enter Tryz.func35, Tryz.ntmps35
  go_wp2_with fail
  refine HC.out.mono ?_
  rintro e w1 ⟨A, c, rfl, h1, h2⟩
  have HF := Lib.hid (And.intro h1 h2); clear h1 h2
  go_wp2
  go_ret
  obtain ⟨h1, h2⟩ := HF.out
  have hr := reads_bytes h1 hl
  refine ⟨w1.heap.size, _, rfl, h2.size, ⟨heap_alloc_new w1 _, ?_⟩, h2.alloc _⟩
  refine Rd.step bytesR (fun k hk hlt => ⟨⟨?_, by omega⟩, Below.heap_alloc _ _ _ hlt⟩) hr
  exact (own_lt h1 k hk).1
end Go.Proofs.YthhepnaanjicjaaGreatDoor

/- Layer 3, plain law: what is written is read again, and what is read is what was written. No program in it. -/
namespace Go.Proofs.YthhepnaanjicjaaGreatDoor
open Go.RowKit
theorem decF_enc (f : Nat) : ∀ (i : Nat) (a n : Int) (rest : List UInt8), 0 ≤ n → n < 128 ^ (f + 1) → n * 128 ^ i ≤ 4611686018427387903 → (0 < i → 0 < n) →
    decF i a (encF (f + 1) n ++ rest) = (a + n * 128 ^ i, (i : Int) + (encF (f + 1) n).length, 0) := by
  induction f with
  | zero =>
    intro i a n rest h0 h1 h2 h3
    have hlt : n < 128 := by simpa using h1
    rw [encF_lt _ _ hlt]
    have hi : ¬ i = 9 := by
      rintro rfl
      have := h3 (by decide)
      have e : (128 : Int) ^ 9 = 9223372036854775808 := by decide
      rw [e] at h2; omega
    have ht := u8_toNat n h0 (by omega)
    simp only [List.cons_append, List.nil_append, decF]
    rw [if_neg hi, if_neg (by omega), if_neg (by rintro ⟨e, hp⟩; have := h3 hp; omega), ht]
    simp
  | succ f ih =>
    intro i a n rest h0 h1 h2 h3
    by_cases hlt : n < 128
    · rw [encF_lt _ _ hlt]
      have hi : ¬ i = 9 := by
        rintro rfl
        have := h3 (by decide)
        have e : (128 : Int) ^ 9 = 9223372036854775808 := by decide
        rw [e] at h2; omega
      have ht := u8_toNat n h0 (by omega)
      simp only [List.cons_append, List.nil_append, decF]
      rw [if_neg hi, if_neg (by omega), if_neg (by rintro ⟨e, hp⟩; have := h3 hp; omega), ht]
      simp
    · rw [encF_ge _ _ hlt]
      have hi : ¬ i = 9 := by
        rintro rfl
        have e : (128 : Int) ^ 9 = 9223372036854775808 := by decide
        rw [e] at h2; omega
      have ht := u8_toNat (n % 128 + 128) (by omega) (by omega)
      have hp : (0 : Int) < 128 ^ i := Int.pow_pos (by decide)
      have hsum : (n % 128) * 128 ^ i + (n / 128) * 128 ^ (i + 1) = n * 128 ^ i := by
        rw [Int.pow_succ]
        have e : n = n % 128 + 128 * (n / 128) := by omega
        conv => rhs; rw [e]
        rw [Int.add_mul, Int.mul_comm 128 (n / 128), Int.mul_assoc (n / 128) 128, Int.mul_comm 128 (128 ^ i)]
      simp only [List.cons_append, decF]
      rw [if_neg hi, if_pos (by omega), ht]
      have h128 : (n / 128) * 128 ^ (i + 1) ≤ 4611686018427387903 := by
        have : 0 ≤ (n % 128) * 128 ^ i := Int.mul_nonneg (by omega) (by omega)
        omega
      rw [ih (i + 1) _ (n / 128) rest (by omega) (by rw [Int.pow_succ] at h1; generalize (128 : Int) ^ (f + 1) = p at *; omega) h128 (fun _ => by omega)]
      simp only [Prod.mk.injEq, and_true, List.length_cons]
      refine ⟨?_, by omega⟩
      rw [← hsum]
      have : n % 128 + 128 - 128 = n % 128 := by omega
      rw [this]; omega
theorem decF_inv (bs : List UInt8) : ∀ (i : Nat) (a : Int), i ≤ 9 → (decF i a bs).2.2 = 0 →
    ∃ n : Int, 0 ≤ n ∧ (0 < i → 0 < n) ∧ (decF i a bs).1 = a + n * 128 ^ i ∧ bs = encF (10 - i) n ++ bs.drop ((decF i a bs).2.1.toNat - i) := by
  induction bs with
  | nil => intro i a _ h; simp [decF] at h
  | cons c r ih =>
    intro i a hi h
    have hc := c.toNat_lt
    unfold decF at h ⊢
    split at h
    · simp at h
    rename_i h9
    rw [if_neg h9]
    split at h
    · rename_i h2
      rw [if_pos h2]
      obtain ⟨n, n0, np, hx, hb⟩ := ih (i + 1) _ (by omega) h
      have hpos := np (by omega)
      have hk := (decF_ok r (i + 1) (a + ((c.toNat : Int) - 128) * 128 ^ i))
      refine ⟨((c.toNat : Int) - 128) + 128 * n, by omega, fun _ => by omega, ?_, ?_⟩
      · rw [hx, Int.pow_succ, Int.add_mul, Int.mul_comm 128 n, Int.mul_assoc n 128, Int.mul_comm 128 (128 ^ i)]; omega
      · have e : 10 - i = (9 - i) + 1 := by omega
        rw [e, encF_ge _ _ (by omega)]
        have e1 : ((c.toNat : Int) - 128 + 128 * n) % 128 + 128 = (c.toNat : Int) := by omega
        have e2 : ((c.toNat : Int) - 128 + 128 * n) / 128 = n := by omega
        rw [e1, e2, u8_back, List.cons_append]
        have hk2 : ((i + 1 : Nat) : Int) < (decF (i + 1) (a + ((c.toNat : Int) - 128) * 128 ^ i) r).2.1 := by
          have : ∀ (bs : List UInt8) (i : Nat) (n : Int), (decF i n bs).2.2 = 0 → (i : Int) < (decF i n bs).2.1 := by
            intro bs
            induction bs with
            | nil => intro i n h; simp [decF] at h
            | cons c r ih =>
              intro i n h
              unfold decF at h ⊢
              split at h
              · simp at h
              split at h
              · rename_i h1 h2; rw [if_neg h1, if_pos h2]; have := ih _ _ h; omega
              split at h
              · simp at h
              rename_i h1 h2 h3; rw [if_neg h1, if_neg h2, if_neg h3]; simp only; omega
          exact this r _ _ h
        have e3 : (decF (i + 1) (a + ((c.toNat : Int) - 128) * 128 ^ i) r).2.1.toNat - i = ((decF (i + 1) (a + ((c.toNat : Int) - 128) * 128 ^ i) r).2.1.toNat - (i + 1)) + 1 := by omega
        rw [e3, List.drop_succ_cons]
        congr 1
        have e4 : 10 - (i + 1) = 9 - i := by omega
        rw [e4] at hb
        exact hb
    · rename_i h2
      rw [if_neg h2]
      split at h
      · simp at h
      rename_i h3
      rw [if_neg h3]
      refine ⟨c.toNat, by omega, fun hp => ?_, rfl, ?_⟩
      · have : ¬ c.toNat = 0 := fun e => h3 ⟨e, hp⟩
        omega
      · have e : 10 - i = (9 - i) + 1 := by omega
        rw [e, encF_lt _ _ (by omega), u8_back]
        have : ((i : Int) + 1).toNat - i = 1 := by omega
        simp only [this]
        rfl
theorem numD_enc {most n : Int} (rest : List UInt8) (h0 : 0 ≤ n) (h1 : n ≤ 4611686018427387903) (hm : n ≤ most) : numD most (encF 10 n ++ rest) = (n, rest, 0) := by
  have h := decF_enc 9 0 0 n rest h0 (by omega) (by simpa using h1) (by omega)
  have h' : decF 0 0 (encF 10 n ++ rest) = (n, ((encF 10 n).length : Int), 0) := by rw [h]; simp
  unfold numD
  rw [h']
  simp only [ne_eq, not_true_eq_false, if_false]
  rw [if_neg (by omega)]
  simp
theorem numD_inv {most : Int} {bs : List UInt8} (h : (numD most bs).2.2 = 0) : bs = encF 10 (numD most bs).1 ++ (numD most bs).2.1 := by
  unfold numD at h ⊢
  split at h
  · rename_i h1; exact absurd h h1
  rename_i h1
  rw [if_neg h1]
  split at h
  · simp at h
  rename_i h2
  rw [if_neg h2]
  obtain ⟨n, n0, _, hx, hb⟩ := decF_inv bs 0 0 (by omega) (by simpa using h1)
  have hx' : (decF 0 0 bs).1 = n := by rw [hx]; simp
  simp only [hx']
  simpa using hb
theorem textD_enc {most : Int} (s rest : List UInt8) (hs : (s.length : Int) ≤ most) (hl : s.length ≤ 4611686018427387903) : textD most (encF 10 s.length ++ (s ++ rest)) = (s, rest, 0) := by
  unfold textD
  rw [numD_enc (s ++ rest) (by omega) (by omega) hs]
  simp
  omega
theorem textD_inv {most : Int} {bs : List UInt8} (h : (textD most bs).2.2 = 0) : bs = encF 10 ((textD most bs).1.length) ++ (textD most bs).1 ++ (textD most bs).2.1 ∧ ((textD most bs).1.length : Int) = (numD most bs).1 := by
  have hn0 := numD_nonneg most bs
  unfold textD at h ⊢
  split at h
  · rename_i h1; exact absurd h h1
  rename_i h1
  rw [if_neg h1]
  split at h
  · simp at h
  rename_i h2
  rw [if_neg h2]
  have hb := numD_inv (most := most) (bs := bs) (by simpa using h1)
  have hl : ((numD most bs).2.1.take (numD most bs).1.toNat).length = (numD most bs).1.toNat := by rw [List.length_take]; omega
  have e : (((numD most bs).1.toNat : Nat) : Int) = (numD most bs).1 := by omega
  simp only [hl, e, and_true]
  rw [List.append_assoc, List.take_append_drop]
  exact hb
theorem numD_le {most : Int} {bs : List UInt8} (h : (numD most bs).2.2 = 0) : (numD most bs).1 ≤ most := by
  unfold numD at h ⊢
  split at h
  · rename_i h1; exact absurd h h1
  rename_i h1
  rw [if_neg h1]
  split at h
  · simp at h
  rename_i h2
  rw [if_neg h2]
  simp only; omega
end Go.Proofs.YthhepnaanjicjaaGreatDoor

/- Layer 3's tape in any state (bytes that are left, a fault's number or 0): Number, Text, Err. -/
namespace Go.Proofs.YthhepnaanjicjaaGreatDoor
open Go.RowKit
set_option linter.unusedVariables false
abbrev TSt := List UInt8 × Int
def numS (most : Int) (s : TSt) : Int × TSt := if s.2 ≠ 0 then (0, s) else ((numD most s.1).1, (numD most s.1).2)
def textS (most : Int) (s : TSt) : List UInt8 × TSt := if s.2 ≠ 0 then ([], s) else ((textD most s.1).1, (textD most s.1).2)
/-- The tape's block g is in this state. -/
def TapeS (w : World) (ok : Nat → Prop) (g : Nat) (s : TSt) : Prop :=
  ∃ v e, TapeAt w ok g v e s.1 ∧ (s.2 = 0 → e = .nilIface) ∧ (s.2 ≠ 0 → ∃ T p, e = .iface T p)
theorem TapeS.lt {w : World} {ok : Nat → Prop} {g : Nat} {s : TSt} (h : TapeS w ok g s) : g < w.heap.size := by
  obtain ⟨v, e, h1, _⟩ := h
  exact lt_of_blk h1.blk
theorem TapeS.mod {w w1 : World} {ok : Nat → Prop} {g : Nat} {s : TSt} {S : Nat → Prop} (h : TapeS w ok g s) (hm : Mod S w w1) (hg : ¬ S g) (hd : ∀ k, ok k → ¬ S k) : TapeS w1 ok g s := by
  obtain ⟨v, e, h1, h2⟩ := h
  exact ⟨v, e, ⟨(hm.block g (lt_of_blk h1.blk) hg).trans h1.blk, Rd.mod h1.rd hm (fun k hk => hd k hk.1)⟩, h2⟩
theorem TapeS.bound {w : World} {ok : Nat → Prop} {g : Nat} {s : TSt} (h : TapeS w ok g s) : TapeS w (fun k => ok k ∧ k < w.heap.size) g s := by
  obtain ⟨v, e, h1, h2⟩ := h
  exact ⟨v, e, ⟨h1.blk, Rd.mono (Rd.bound h1.rd) (fun k hk => ⟨⟨hk.1.1, hk.2⟩, hk.1.2⟩)⟩, h2⟩
theorem TapeS.mono {w : World} {ok ok1 : Nat → Prop} {g : Nat} {s : TSt} (h : TapeS w ok g s) (hk : ∀ k, ok k → ok1 k) : TapeS w ok1 g s := by
  obtain ⟨v, e, h1, h2⟩ := h
  exact ⟨v, e, ⟨h1.blk, Rd.mono h1.rd (fun k h => ⟨hk k h.1, h.2⟩)⟩, h2⟩
theorem TapeTo.state {w w1 : World} {ok : Nat → Prop} {g : Nat} {bs : List UInt8} {c : Int} (h : TapeTo w ok g w1 bs c) : TapeS w1 ok g (bs, c) := by
  obtain ⟨⟨v, e, h1, h2, h3⟩, _⟩ := h
  refine ⟨v, e, h1, h2, fun hc => ?_⟩
  obtain ⟨b, _, h4, _⟩ := h3 hc
  exact ⟨_, _, h4⟩
theorem TapeAt.state {w : World} {ok : Nat → Prop} {g : Nat} {v : Value} {bs : List UInt8} (h : TapeAt w ok g v .nilIface bs) : TapeS w ok g (bs, 0) := ⟨v, _, h, fun _ => rfl, fun h => absurd rfl h⟩
set_option maxRecDepth 100000 in
theorem tnumS_any (g : Nat) (ok : Nat → Prop) (s : TSt) (most : Int) (w : World) (h : TapeS w ok g s) :
    Calls Tryz.prog 77 #[.pointer (some ⟨g, 0, none⟩), .int .i64 most] w fun r w' => r = .returned (.int .i64 (numS most s).1) ∧ TapeS w' ok g (numS most s).2 ∧ Mod (fun k => k = g) w w' := by
  unfold numS
  obtain ⟨v, e, h1, h2, h3⟩ := h
  by_cases hs : s.2 = 0
  · obtain rfl := h2 hs
    rw [if_neg (by simp [hs])]
    refine (tnum_any g ok v s.1 most w h1).mono ?_
    rintro r w' ⟨rfl, ht⟩
    exact ⟨rfl, ht.state, ht.mod⟩
  · rw [if_pos hs]
    obtain ⟨T, p, rfl⟩ := h3 hs
    have hc1 := h1.cell1
    have HX := Lib.hid (And.intro h1 hs); clear h1 h2 h3 hs
    go_enter Tryz.func77, Tryz.ntmps77
    go_wp2_with fail
    go_ret
    exact ⟨rfl, ⟨v, _, HX.out.1, fun h => absurd h HX.out.2, fun _ => ⟨T, p, rfl⟩⟩, .refl _ _⟩
set_option maxRecDepth 100000 in
theorem ttextS_any (g : Nat) (ok : Nat → Prop) (s : TSt) (most : Int) (w : World) (h : TapeS w ok g s) :
    Calls Tryz.prog 78 #[.pointer (some ⟨g, 0, none⟩), .int .i64 most] w fun r w' => r = .returned (.string (mkStr (textS most s).1)) ∧ TapeS w' ok g (textS most s).2 ∧ Mod (fun k => k = g) w w' := by
  unfold textS
  obtain ⟨v, e, h1, h2, h3⟩ := h
  by_cases hs : s.2 = 0
  · obtain rfl := h2 hs
    rw [if_neg (by simp [hs])]
    refine (ttext_any g ok v s.1 most w h1).mono ?_
    rintro r w' ⟨rfl, ht⟩
    exact ⟨rfl, ht.state, ht.mod⟩
  · rw [if_pos hs]
    obtain ⟨T, p, rfl⟩ := h3 hs
    have hc1 := h1.cell1
    have HX := Lib.hid (And.intro h1 hs); clear h1 h2 h3 hs
    go_enter Tryz.func78, Tryz.ntmps78
    go_wp2_with fail
    go_ret
    exact ⟨rfl, ⟨v, _, HX.out.1, fun h => absurd h HX.out.2, fun _ => ⟨T, p, rfl⟩⟩, .refl _ _⟩
set_option maxRecDepth 100000 in
theorem terrS_any (g : Nat) (ok : Nat → Prop) (s : TSt) (w : World) (h : TapeS w ok g s) :
    Calls Tryz.prog 79 #[.pointer (some ⟨g, 0, none⟩)] w fun r w' => ∃ e, r = .returned e ∧ (s.2 = 0 → e = .nilIface) ∧ (s.2 ≠ 0 → ∃ T p, e = .iface T p) ∧ w = w' := by
  obtain ⟨v, e, h1, h2⟩ := h
  have hc1 := h1.cell1
  have HX := Lib.hid h2; clear h1 h2
  go_enter Tryz.func79, Tryz.ntmps79
  go_wp2_with fail
  go_ret
  exact ⟨e, rfl, HX.out.1, HX.out.2, rfl⟩
theorem textS_len (most : Int) (s : TSt) : (textS most s).1.length ≤ s.1.length := by
  unfold textS textD
  split
  · simp
  split
  · simp
  split
  · simp
  · rename_i h1 h2 h3
    have hd : (numD most s.1).2.1.length ≤ s.1.length := by
      unfold numD
      split
      · simp
      split
      · simp
      · simp
    simp only [List.length_take]
    omega
theorem numS_range {most : Int} (s : TSt) (hm : 0 ≤ most) : 0 ≤ (numS most s).1 ∧ (numS most s).1 ≤ most := by
  unfold numS
  split
  · exact ⟨Int.le_refl _, hm⟩
  · unfold numD
    split
    · exact ⟨Int.le_refl _, hm⟩
    split
    · exact ⟨Int.le_refl _, hm⟩
    · simp only; omega
end Go.Proofs.YthhepnaanjicjaaGreatDoor

/- Layer 6, label: Put. -/
namespace Go.Proofs.YthhepnaanjicjaaGreatDoor
open Go.RowKit Go.Shelf
set_option linter.unusedVariables false
def encN (n : Int) : List UInt8 := if 0 ≤ n ∧ n ≤ 4611686018427387903 then encF 10 n else []
def encEn (e : Entry) : List UInt8 := (encF 10 (nm e).length ++ nm e) ++ encN e.level
def encL (l : List Entry) : List UInt8 := encF 10 l.length ++ l.flatMap encEn
theorem encN_len (n : Int) : (encN n).length ≤ 10 := by
  unfold encN
  split
  · exact encF_len 10 n
  · simp
theorem encEn_len (e : Entry) (h : (nm e).length ≤ 1000000) : (encEn e).length ≤ 1000020 := by
  unfold encEn
  have h1 := encF_len 10 ((nm e).length : Int)
  have h2 := encN_len e.level
  simp only [List.length_append]
  omega
theorem flat_len : ∀ (l : List Entry), (∀ e ∈ l, (nm e).length ≤ 1000000) → (l.flatMap encEn).length ≤ 1000020 * l.length
  | [], _ => by simp
  | e :: r, h => by
    have h1 := flat_len r fun x hx => h x (List.mem_cons_of_mem _ hx)
    have h2 := encEn_len e (h e List.mem_cons_self)
    rw [List.flatMap_cons, List.length_append, List.length_cons, Nat.mul_succ]
    omega
set_option maxRecDepth 100000 in
set_option maxHeartbeats 1000000 in
theorem pnumber_any (g base : Nat) (n : Int) (v : Value) (bs : List UInt8) (w : World) (hp : PenAt w base g v bs) (hb : base ≤ w.heap.size) (hl : bs.length ≤ 140737488300000) :
    Calls Tryz.prog 70 #[.pointer (some ⟨g, 0, none⟩), .int .i64 n] w fun e w' => ∃ b v', e = .returned (.bool b) ∧ PenTo base g w v w' v' (bs ++ encN n) := by
  unfold encN
  by_cases h : 0 ≤ n ∧ n ≤ 4611686018427387903
  · rw [if_pos h]
    exact (pnum_any g base n v bs w hp hb h.1 h.2 hl).mono fun _ _ ⟨h1, v', h2⟩ => ⟨true, v', h1, h2⟩
  · rw [if_neg h, List.append_nil]
    refine (num_no (some ⟨g, 0, none⟩) n w (by omega)).mono ?_
    rintro e w' ⟨rfl, rfl⟩
    exact ⟨false, v, rfl, .refl hp⟩
theorem PenTo.alloc {base g : Nat} {w w1 : World} {v v1 : Value} {bs1 : List UInt8} (h : PenTo base g w v w1 v1 bs1) (o : Obj) : PenTo base g w v (w1.alloc o) v1 bs1 :=
  ⟨⟨(heap_alloc_old w1 o h.at_.lt).trans h.at_.blk, h.at_.own.alloc o, h.at_.base, h.at_.ne⟩, h.mod.alloc o, h.new⟩
set_option maxRecDepth 100000 in
set_option maxHeartbeats 2000000 in
theorem put_any (g base : Nat) (v : Value) (bs : List UInt8) (A : Option Addr) (n c : Nat) (l : List Entry) (ok : Nat → Prop) (w : World) (hp : PenAt w base g v bs) (hb : base ≤ w.heap.size) (h : labR.rel w ok [.slice A n c] l) (hap : ∀ k, ok k → ¬ (k = g ∨ v.ownBlock = some k)) (hl : l.length ≤ 1000) (hnm : ∀ e ∈ l, (nm e).length ≤ 1000000) (hbl : bs.length ≤ 1000000) :
    Calls Tryz.prog 50 #[.pointer (some ⟨g, 0, none⟩), .slice A n c] w fun r w' => r = .returned (.tuple #[]) ∧ ∃ v', PenTo base g w v w' v' (bs ++ encL l) := by
  obtain ⟨rfl, hcap, -, hbig, -, hrow⟩ := lab_row h
  obtain ⟨b0, hb0⟩ : ∃ b0, b0 = bs ++ encF 10 l.length := ⟨_, rfl⟩
  have hb0l : b0.length ≤ 1000010 := by rw [hb0, List.length_append]; have := encF_len 10 (l.length : Int); omega
  have hn := pnum_any g base l.length v bs w hp hb (by omega) (by omega) (by omega)
  rw [← hb0] at hn
  have hend : bs ++ encL l = b0 ++ l.flatMap encEn := by unfold encL; rw [hb0, List.append_assoc]
  rw [hend]
  have H0 := Lib.hid (And.intro hrow (And.intro hap (And.intro hnm (And.intro hn hb)))); clear hp hb h hrow hap hnm hn hb0 hend
  go_enter Tryz.func50, Tryz.ntmps50
  go_wp2_with fail
  refine H0.out.2.2.2.1.mono ?_
  rintro r w1 ⟨rfl, v1, ht1⟩
  have H1 := Lib.hid ht1; clear ht1
  go_wp2_with fail
  go_loopg [12] l.length (fun f si wr => ∃ (i : Nat) (vi : Value), si = .int .i64 i ∧ i + f = l.length ∧ PenTo base g w v wr vi (b0 ++ (l.take i).flatMap encEn))
  case atStart => exact ⟨0, v1, rfl, by omega, by simpa using H1.out⟩
  case round =>
    obtain ⟨i, vi, rfl, hi, ht⟩ := hrel
    by_cases hlt : i < l.length
    · obtain ⟨d, m, hx⟩ : ∃ d m, l[i]? = some (ent d m) := by
        obtain ⟨d, m, e⟩ := ent_cases l[i]
        exact ⟨d, m, by rw [← e]; simp [hlt]⟩
      obtain ⟨ad, rfl, -, hc0, hc1, hdl, -⟩ := row_ent (H0.out.1.step (w1 := wr) (ok1 := fun _ => True) (fun k hk hl => ⟨trivial, ht.mod.block k hl (H0.out.2.1 k hk)⟩)) hx
      have hd6 : d.length ≤ 1000000 := by have := H0.out.2.2.1 _ (List.mem_of_getElem? hx); rwa [nm_ent] at this
      have hfl := flat_len (l.take i) (fun e he => H0.out.2.2.1 e (List.mem_of_mem_take he))
      rw [List.length_take] at hfl
      obtain ⟨bi, hbi⟩ : ∃ bi, bi = b0 ++ (l.take i).flatMap encEn := ⟨_, rfl⟩
      have hbil : bi.length ≤ 2000000000 := by
        rw [hbi, List.length_append]
        have : 1000020 * min i l.length ≤ 1000020 * 1000 := Nat.mul_le_mul_left _ (by omega)
        omega
      have htk : b0 ++ (l.take (i + 1)).flatMap encEn = (bi ++ encF 10 d.length ++ d) ++ encN m := by rw [List.take_add_one, hx, List.flatMap_append, hbi]; simp [encEn, nm_ent, lev_ent]
      rw [← hbi] at ht
      have hsz := ht.mod.size
      have HX := Lib.hid (And.intro hi (And.intro ht htk)); clear hi htk hx hbi hfl
      go_wp2_with fail
      obtain ⟨W1, hW1⟩ : ∃ W1, W1 = wr.alloc (.cells #[.string ⟨d.toArray⟩, .int .i64 m] 63) := ⟨_, rfl⟩
      rw [← hW1]
      obtain ⟨k0, k1⟩ := cells2 wr (.string ⟨d.toArray⟩) (.int .i64 m) 63
      rw [← hW1] at k0 k1
      have htW : PenTo base g w v W1 vi bi := by rw [hW1]; exact ht.alloc _
      obtain ⟨gv, hgv⟩ : ∃ gv, gv = wr.heap.size := ⟨_, rfl⟩
      rw [← hgv] at k0 k1 ⊢
      have hne : ¬ (gv = g ∨ vi.ownBlock = some gv) := by
        rintro (e | e)
        · have := ht.at_.lt; omega
        · have := (own_lt ht.at_.own gv e).2; omega
      have htx := ptext_any g base ⟨d.toArray⟩ vi bi W1 htW.at_ (Nat.le_trans H0.out.2.2.2.2 htW.mod.size) (by show d.length ≤ _; omega) (by omega)
      have H2 := Lib.hid (And.intro htW (And.intro hne (And.intro htx k1))); clear htW hne htx hW1 hgv hc0 hc1 ht k1
      go_wp2_with fail
      refine H2.out.2.2.1.mono ?_
      rintro r w2 ⟨rfl, v2, ht2⟩
      have q1 := (ht2.mod.cell (cell_lt H2.out.2.2.2) H2.out.2.1).trans H2.out.2.2.2
      have ht2' := H2.out.1.trans ht2
      have hpn := pnumber_any g base m v2 _ w2 ht2.at_ (Nat.le_trans H0.out.2.2.2.2 ht2'.mod.size) (by have := encF_len 10 ((⟨d.toArray⟩ : ByteArray).size : Int); simp only [List.length_append]; show bi.length + _ + d.length ≤ _; omega)
      have H3 := Lib.hid (And.intro ht2' hpn); clear ht2 ht2' hpn
      go_wp2_with fail
      refine H3.out.2.mono ?_
      rintro r w3 ⟨bb, v3, rfl, ht3⟩
      have H4 := Lib.hid (H3.out.1.trans ht3); clear ht3
      go_wp2_with fail
      go_roundg (gk - 1)
      case measure => have := HX.out.1; omega
      case rel => exact ⟨i + 1, v3, by go_num, by have := HX.out.1; omega, by rw [HX.out.2.2]; exact H4.out⟩
    · have hie : l.take i = l := List.take_of_length_le (by omega)
      rw [hie] at ht
      have HX := Lib.hid ht; clear ht hie hi
      go_wp2_with fail
      go_end0
      exact ⟨rfl, vi, HX.out⟩
end Go.Proofs.YthhepnaanjicjaaGreatDoor

/- Layer 6, label: Get, of a tape in any state. -/
namespace Go.Proofs.YthhepnaanjicjaaGreatDoor
open Go.RowKit Go.Shelf
set_option linter.unusedVariables false
theorem textS_le {most : Int} (s : TSt) (hm : 0 ≤ most) : ((textS most s).1.length : Int) ≤ most := by
  unfold textS textD
  split
  · simpa using hm
  split
  · simpa using hm
  split
  · simpa using hm
  · rename_i h1 h2 h3
    have := numD_le (most := most) (bs := s.1) (by omega)
    have h0 := numD_nonneg most s.1
    simp only [List.length_take]
    omega
def getN : Nat → TSt → List Entry × TSt
  | 0, s => ([], s)
  | k + 1, s => (ent (textS 80 s).1 (numS 3 (textS 80 s).2).1 :: (getN k (numS 3 (textS 80 s).2).2).1, (getN k (numS 3 (textS 80 s).2).2).2)
theorem getN_len (k : Nat) : ∀ s, (getN k s).1.length = k := by
  induction k with
  | zero => intro s; rfl
  | succ k ih => intro s; simp [getN, ih]
theorem getN_name (k : Nat) : ∀ s, ∀ e ∈ (getN k s).1, (nm e).length ≤ 80 ∧ 0 ≤ e.level ∧ e.level ≤ 3 := by
  induction k with
  | zero => intro s e he; simp [getN] at he
  | succ k ih =>
    intro s e he
    simp only [getN, List.mem_cons] at he
    rcases he with rfl | he
    · rw [nm_ent, lev_ent]
      have h1 := textS_le s (most := 80) (by decide)
      have h2 := numS_range (textS 80 s).2 (most := 3) (by decide)
      omega
    · exact ih _ e he
/-- What Get of a tape answers: the label, the error, the tape's state. -/
noncomputable def getL (s : TSt) : List Entry × Int × TSt :=
  if (getN (numS 8 s).1.toNat (numS 8 s).2).2.2 ≠ 0 ∨ rightLB (getN (numS 8 s).1.toNat (numS 8 s).2).1 = false then ([], 10, (getN (numS 8 s).1.toNat (numS 8 s).2).2) else ((getN (numS 8 s).1.toNat (numS 8 s).2).1, 0, (getN (numS 8 s).1.toNat (numS 8 s).2).2)
set_option maxRecDepth 100000 in
set_option maxHeartbeats 2000000 in
theorem getL_any (g : Nat) (ok : Nat → Prop) (s : TSt) (w : World) (h : TapeS w ok g s) (hE : ∀ W, Mod (fun k => k = g) w W → Env W) :
    Calls Tryz.prog 56 #[.pointer (some ⟨g, 0, none⟩)] w fun r w' => ∃ A c, r = .returned (.tuple #[.slice A (getL s).1.length c, .int .i64 (getL s).2.1]) ∧ OwnR EntryR 63 w' w.heap.size (fun _ => False) (.slice A (getL s).1.length c) (getL s).1 ∧ TapeS w' ok g (getL s).2.2 ∧ Mod (fun k => k = g) w w' := by
  obtain ⟨z, hz⟩ : ∃ z, z = getL s := ⟨_, rfl⟩
  rw [← hz]
  unfold getL at hz
  have hgw := h.lt
  have hbd : ∀ W, TapeS W (fun k => ok k ∧ k < w.heap.size) g z.2.2 → TapeS W ok g z.2.2 := fun W hW => hW.mono fun k hk => hk.1
  have h := h.bound
  obtain ⟨ok1, hok1⟩ : ∃ ok1, ok1 = fun k => ok k ∧ k < w.heap.size := ⟨_, rfl⟩
  have hok2 : ∀ k, ok1 k → k < w.heap.size := fun k hk => by rw [hok1] at hk; exact hk.2
  rw [← hok1] at h hbd
  have hn := tnumS_any g ok1 s 8 w h
  have hr := numS_range s (most := 8) (by decide)
  obtain ⟨s1, hs1⟩ : ∃ s1, s1 = (numS 8 s).2 := ⟨_, rfl⟩
  obtain ⟨K, hK⟩ : ∃ K : Nat, K = (numS 8 s).1.toNat := ⟨_, rfl⟩
  have hK' : (numS 8 s).1 = K := by omega
  rw [← hs1, hK'] at hn
  rw [← hs1, ← hK] at hz
  have hK8 : K ≤ 8 := by omega
  have H0 := Lib.hid (And.intro hn (And.intro hz (And.intro hE (And.intro hgw (And.intro hbd hok2))))); clear h hn hz hE hr hs1 hK hK' hgw hbd hok1 hok2
  go_enter Tryz.func56, Tryz.ntmps56
  go_wp2_with fail
  refine H0.out.1.mono ?_
  rintro r w1 ⟨rfl, ht1, hm1⟩
  have H1 := Lib.hid (And.intro ht1 hm1); clear ht1 hm1
  go_wp2_with fail
  go_loopg [4, 7] K (fun f so si wr => ∃ (i : Nat) (A : Option Addr) (c : Nat) (lst : List Entry) (s2 : TSt), si = .int .i64 i ∧ so = .slice A i c ∧ i + f = K ∧ lst.length = i ∧ getN K s1 = (lst ++ (getN f s2).1, (getN f s2).2) ∧ OwnR EntryR 63 wr w.heap.size (fun _ => False) (.slice A i c) lst ∧ TapeS wr ok1 g s2 ∧ Mod (fun k => k = g) w wr)
  case atStart => exact ⟨0, none, 0, [], s1, rfl, rfl, by omega, rfl, by simp, OwnR.nil _ _ _ _ _, H1.out.1, H1.out.2⟩
  case round =>
    obtain ⟨i, A, c, lst, s2, rfl, rfl, hi, hll, hget, hO, hT, hmod⟩ := hrel
    by_cases hlt : i < K
    · obtain ⟨f, rfl⟩ : ∃ f, gk = f + 1 := ⟨gk - 1, by omega⟩
      obtain ⟨d, hd⟩ : ∃ d, d = (textS 80 s2).1 := ⟨_, rfl⟩
      obtain ⟨s3, hs3⟩ : ∃ s3, s3 = (textS 80 s2).2 := ⟨_, rfl⟩
      obtain ⟨m, hm⟩ : ∃ m, m = (numS 3 s3).1 := ⟨_, rfl⟩
      obtain ⟨s4, hs4⟩ : ∃ s4, s4 = (numS 3 s3).2 := ⟨_, rfl⟩
      have hdl : d.length ≤ 80 := by have := textS_le s2 (most := 80) (by decide); rw [← hd] at this; omega
      have hmr := numS_range s3 (most := 3) (by decide)
      rw [← hm] at hmr
      have hget' : getN K s1 = ((lst ++ [ent d m]) ++ (getN f s4).1, (getN f s4).2) := by rw [hget, getN, ← hs3, ← hd, ← hm, ← hs4]; simp
      have htx := ttextS_any g ok1 s2 80 wr hT
      unfold mkStr at htx
      rw [← hd, ← hs3] at htx
      have hnx := fun W hW => tnumS_any g ok1 s3 3 W hW
      rw [← hm, ← hs4] at hnx
      have hE : ∀ (W : World) (T : Nat → Prop), EntryR.rel W T [.string ⟨d.toArray⟩, .int .i64 m] (ent d m) := fun W T => EntryR_mk _ _ (ent d m) (by rw [show (ent d m).cat.size = d.length from mkStr_size d]; omega) (by rw [lev_ent]; exact inR_mk (by omega))
      have HX := Lib.hid (And.intro hi (And.intro hll (And.intro hget' (And.intro hO (And.intro htx (And.intro hnx (And.intro hmod hE)))))))
      clear hi hll hget hget' hO htx hnx hmod hE hT hd hs3 hm hs4 hmr
      go_wp2_with fail
      refine HX.out.2.2.2.2.1.mono ?_
      rintro r w2 ⟨rfl, ht2, hm2⟩
      have H2 := Lib.hid (And.intro (HX.out.2.2.2.2.2.1 w2 ht2) hm2); clear ht2 hm2
      go_wp2_with fail
      refine H2.out.1.mono ?_
      rintro r w3 ⟨rfl, ht3, hm3⟩
      have hmr3 := H2.out.2.trans hm3 (fun _ h => .inl h)
      have hm03 := HX.out.2.2.2.2.2.2.1.trans hmr3 (fun _ h => .inl h)
      have hO3 := HX.out.2.2.2.1.mod hmr3 (fun k hk e => by obtain ⟨cells, hown, _⟩ := HX.out.2.2.2.1; have h1 := (own_lt hown k hk).1; have h2 := H0.out.2.2.2.1; omega) (fun _ h => h.elim)
      have hsz := hm03.size
      have hll := HX.out.2.1
      have H3 := Lib.hid (And.intro hO3 (And.intro ht3 (And.intro hm03 hsz))); clear ht3 hm3 hmr3 hm03 hO3 hsz
      go_wp2_with (first
        | (refine wpList_slice1_agg rfl 23 63 _ rfl Tryz.underlying23 zeroEnt.toArray [.string ⟨d.toArray⟩, .int .i64 m] Tryz.info_ent2 (by decide) rfl rfl ?_)
        | (at_builtin; refine append_rd (R := EntryR) w.heap.size rfl _ _ 23 63 (.agg zeroEnt.toArray) 24 rfl Tryz.underlying23 Tryz.info_ent3 rfl (by decide) (.slice A i c) lst (ent d m) [.string ⟨d.toArray⟩, .int .i64 m] (fun _ => False) rfl rfl H3.out.1 (HX.out.2.2.2.2.2.2.2 _ _) H3.out.2.2.2 (by rw [hll]; omega) ?_))
      intro A8 c8 w8 hO8 hm8 hn8
      have hne : ∀ k, (Value.slice A i c).ownBlock = some k → w.heap.size ≤ k := fun k hk => by obtain ⟨cells, hown, _⟩ := H3.out.1; exact (own_lt hown k hk).1
      have hap : ∀ k, ok1 k → ¬ (Value.slice A i c).ownBlock = some k := fun k hk e => by have h1 := hne k e; have h2 := H0.out.2.2.2.2.2 k hk; omega
      have hm08 := H3.out.2.2.1.trans hm8 (fun k hk => .inr (hne k hk))
      have H8 := Lib.hid (And.intro hO8 (And.intro (H3.out.2.1.mod hm8 (fun hk => by have := hne _ hk; have := H0.out.2.2.2.1; omega) hap) hm08)); clear hO8 hm8 hn8 hm08 hne hap
      go_wp2_with fail
      go_roundg f
      case measure => omega
      case rel => exact ⟨i + 1, A8, c8, lst ++ [ent d m], s4, by go_num, rfl, by have := HX.out.1; omega, by simp; omega, HX.out.2.2.1, H8.out.1, H8.out.2.1, H8.out.2.2⟩
    · obtain rfl : gk = 0 := by omega
      obtain rfl : i = K := by omega
      have hget' : getN i s1 = (lst, s2) := by rw [hget]; simp [getN]
      have hzz := H0.out.2.1
      rw [hget'] at hzz
      have her := terrS_any g ok1 s2 wr hT
      have hrd := hO.reads (bytes := 24) (by omega)
      have hrt := fun E => rightLab_any A i c lst _ wr hrd E
      have hrt2 := hrt (H0.out.2.2.1 wr hmod)
      have HX := Lib.hid (And.intro hO (And.intro hT (And.intro hmod (And.intro hzz (And.intro her (And.intro hrt2 hll))))))
      clear hi hll hget hget' hO hT hmod hzz her hrd hrt hrt2
      by_cases hs : s2.2 = 0
      · go_wp2_with fail
        refine HX.out.2.2.2.2.1.mono ?_
        rintro r w2 ⟨e, rfl, he, -, rfl⟩
        obtain rfl := he hs
        cases hrb : rightLB lst with
        | true =>
          have hrt := HX.out.2.2.2.2.2.1
          rw [hrb] at hrt
          have hz' : z = (lst, 0, s2) := by rw [HX.out.2.2.2.1, if_neg (by simp [hs, hrb])]
          have HR := Lib.hid hrt; clear hrt hrb hs
          subst hz'
          go_wp2_with fail
          refine HR.out.mono ?_
          rintro r w3 ⟨rfl, hm3⟩
          have H3 := Lib.hid hm3; clear hm3
          go_wp2_with fail
          go_ret2
          have hll := HX.out.2.2.2.2.2.2
          subst hll
          exact ⟨A, c, rfl, HX.out.1.mod H3.out (fun _ _ => id) (fun _ _ _ => id), H0.out.2.2.2.2.1 _ (HX.out.2.1.mod H3.out id (fun _ _ => id)), tr0 HX.out.2.2.1 H3.out⟩
        | false =>
          have hrt := HX.out.2.2.2.2.2.1
          rw [hrb] at hrt
          have hz' : z = ([], 10, s2) := by rw [HX.out.2.2.2.1, if_pos (.inr hrb)]
          have HR := Lib.hid hrt; clear hrt hrb hs
          subst hz'
          go_wp2_with fail
          refine HR.out.mono ?_
          rintro r w3 ⟨rfl, hm3⟩
          have H3 := Lib.hid hm3; clear hm3
          go_wp2_with fail
          go_ret2
          exact ⟨none, 0, rfl, OwnR.nil _ _ _ _ _, H0.out.2.2.2.2.1 _ (HX.out.2.1.mod H3.out id (fun _ _ => id)), tr0 HX.out.2.2.1 H3.out⟩
      · have hz' : z = ([], 10, s2) := by rw [HX.out.2.2.2.1, if_pos (.inl hs)]
        go_wp2_with fail
        refine HX.out.2.2.2.2.1.mono ?_
        rintro r w2 ⟨e, rfl, -, he, rfl⟩
        obtain ⟨T, p, rfl⟩ := he hs
        clear he hs
        subst hz'
        go_wp2_with fail
        go_ret2
        exact ⟨none, 0, rfl, OwnR.nil _ _ _ _ _, H0.out.2.2.2.2.1 _ HX.out.2.1, HX.out.2.2.1⟩
end Go.Proofs.YthhepnaanjicjaaGreatDoor

/- Layer 6, label: what is put is got; flowing is an order with joins and meets. No program in it. -/
namespace Go.Proofs.YthhepnaanjicjaaGreatDoor
open Go.RowKit
set_option linter.unusedVariables false
theorem dec_len (j : Nat) : ∀ m : Nat, m < 10 ^ (j + 1) → (Lib.decDigits m).length ≤ j + 1 := by
  induction j with
  | zero =>
    intro m h
    rw [Lib.decDigits_one (by simpa using h)]; simp
  | succ j ih =>
    intro m h
    by_cases h10 : m < 10
    · rw [Lib.decDigits_one h10]; simp
    · have h1 := ih (m / 10) (by rw [Nat.div_lt_iff_lt_mul (by decide)]; rwa [Nat.pow_succ] at h)
      rw [dec_step m (by omega), List.length_append]
      simp only [List.length_cons, List.length_nil]
      omega
theorem itoa_len7 (k : Int) (h0 : 0 ≤ k) (h1 : k ≤ 1048576) : (Lib.itoa k).length ≤ 7 := by
  obtain ⟨u, rfl⟩ : ∃ u : Nat, k = u := ⟨k.toNat, by omega⟩
  rw [Lib.itoa_nonneg]
  exact dec_len 6 u (by have : (10 : Nat) ^ (6 + 1) = 10000000 := by decide
                        omega)
theorem pathT_len8 : ∀ l : List Int, (∀ k ∈ l, 0 ≤ k ∧ k ≤ 1048576) → (pathT l).length ≤ 8 * l.length
  | [], _ => by simp [pathT]
  | [a], h => by
    have := itoa_len7 a (h a (by simp)).1 (h a (by simp)).2
    simp only [pathT, List.length_cons, List.length_nil]; omega
  | a :: b :: l, h => by
    have h1 := itoa_len7 a (h a (by simp)).1 (h a (by simp)).2
    have h2 := pathT_len8 (b :: l) (fun x hx => h x (List.mem_cons_of_mem _ hx))
    simp only [pathT, List.length_append, List.length_cons] at h2 ⊢
    omega
theorem rightB_len {c : List UInt8} (h : rightB c = true) : c.length ≤ 80 := by
  unfold rightB at h
  obtain ⟨⟨p, n⟩, hp⟩ := Option.isSome_iff_exists.1 h
  obtain ⟨hf, rfl⟩ := parse_iff.1 hp
  simp only [fitsB, Bool.and_eq_true, decide_eq_true_eq, List.all_eq_true] at hf
  obtain ⟨⟨⟨h1, h2⟩, h3⟩, h4⟩ := hf
  have h5 := pathT_len8 p h4
  have h6 := itoa_len7 n h1 (by omega)
  simp only [catT, List.length_append, List.length_cons]
  omega
theorem right_names {l : List Entry} (h : RightL l) : ∀ e ∈ l, (nm e).length ≤ 80 ∧ 0 ≤ e.level ∧ e.level ≤ 3 := fun e he => by
  obtain ⟨h1, h2, h3, _⟩ := h.each e he
  exact ⟨rightB_len h1, h2, h3⟩
theorem numS_enc {most n : Int} (rest : List UInt8) (h0 : 0 ≤ n) (h1 : n ≤ 4611686018427387903) (hm : n ≤ most) : numS most (encF 10 n ++ rest, 0) = (n, (rest, 0)) := by
  unfold numS
  rw [if_neg (by simp), numD_enc rest h0 h1 hm]
theorem textS_enc {most : Int} (s rest : List UInt8) (hs : (s.length : Int) ≤ most) (hl : s.length ≤ 4611686018427387903) : textS most (encF 10 s.length ++ (s ++ rest), 0) = (s, (rest, 0)) := by
  unfold textS
  rw [if_neg (by simp), textD_enc s rest hs hl]
theorem getN_enc : ∀ (l : List Entry) (rest : List UInt8), (∀ e ∈ l, (nm e).length ≤ 80 ∧ 0 ≤ e.level ∧ e.level ≤ 3) → getN l.length (l.flatMap encEn ++ rest, 0) = (l, (rest, 0))
  | [], rest, _ => by simp [getN]
  | e :: l, rest, h => by
    obtain ⟨h1, h2, h3⟩ := h e List.mem_cons_self
    have ih := getN_enc l rest fun x hx => h x (List.mem_cons_of_mem _ hx)
    have hl : (e :: l).flatMap encEn ++ rest = encF 10 (nm e).length ++ (nm e ++ (encF 10 e.level ++ (l.flatMap encEn ++ rest))) := by
      rw [List.flatMap_cons, encEn, encN, if_pos ⟨h2, by omega⟩]; simp
    rw [hl, List.length_cons, getN, textS_enc (nm e) _ (by omega) (by omega)]
    simp only
    rw [numS_enc _ h2 (by omega) h3]
    simp only
    rw [ih]
    obtain ⟨d, m, rfl⟩ := ent_cases e
    rw [nm_ent, lev_ent]
theorem getL_enc {l : List Entry} (h : RightL l) (rest : List UInt8) : getL (encL l ++ rest, 0) = (l, 0, (rest, 0)) := by
  have h8 := h.len
  have hl : encL l ++ rest = encF 10 (l.length : Int) ++ (l.flatMap encEn ++ rest) := by unfold encL; simp
  unfold getL
  rw [hl, numS_enc _ (by omega) (by omega) (by omega)]
  simp only [Int.toNat_natCast]
  rw [getN_enc l rest (right_names h)]
  rw [if_neg (by simp [rightLB_iff.2 h])]
theorem flows_refl {a : List Entry} (h : RightL a) : flowsLB a a = true := flowsLB_iff.2 ⟨h, h, fun _ => Int.le_refl _⟩
theorem flows_trans {a b c : List Entry} (h1 : flowsLB a b = true) (h2 : flowsLB b c = true) : flowsLB a c = true := by
  obtain ⟨p1, p2, p3⟩ := flowsLB_iff.1 h1
  obtain ⟨q1, q2, q3⟩ := flowsLB_iff.1 h2
  exact flowsLB_iff.2 ⟨p1, q2, fun d => Int.le_trans (p3 d) (q3 d)⟩
theorem flows_anti {a b : List Entry} (h1 : flowsLB a b = true) (h2 : flowsLB b a = true) : a = b := by
  obtain ⟨p1, p2, p3⟩ := flowsLB_iff.1 h1
  obtain ⟨q1, q2, q3⟩ := flowsLB_iff.1 h2
  exact right_ext p1 p2 fun d => Int.le_antisymm (p3 d) (q3 d)
theorem join_laws {a b : List Entry} (ha : RightL a) (hb : RightL b) (h : (resX max a b).2 = 0) : flowsLB a (resX max a b).1 = true ∧ flowsLB b (resX max a b).1 = true ∧ ∀ c, flowsLB a c = true → flowsLB b c = true → flowsLB (resX max a b).1 c = true := by
  obtain ⟨h1, h2⟩ := resX_ok max_pick ha hb h
  refine ⟨flowsLB_iff.2 ⟨ha, h1, fun d => ?_⟩, flowsLB_iff.2 ⟨hb, h1, fun d => ?_⟩, fun c k1 k2 => ?_⟩
  · rw [h2]; omega
  · rw [h2]; omega
  · obtain ⟨p1, p2, p3⟩ := flowsLB_iff.1 k1
    obtain ⟨q1, q2, q3⟩ := flowsLB_iff.1 k2
    refine flowsLB_iff.2 ⟨h1, p2, fun d => ?_⟩
    rw [h2]
    have := p3 d
    have := q3 d
    omega
theorem meet_laws {a b : List Entry} (ha : RightL a) (hb : RightL b) (h : (resX min a b).2 = 0) : flowsLB (resX min a b).1 a = true ∧ flowsLB (resX min a b).1 b = true ∧ ∀ c, flowsLB c a = true → flowsLB c b = true → flowsLB c (resX min a b).1 = true := by
  obtain ⟨h1, h2⟩ := resX_ok min_pick ha hb h
  refine ⟨flowsLB_iff.2 ⟨h1, ha, fun d => ?_⟩, flowsLB_iff.2 ⟨h1, hb, fun d => ?_⟩, fun c k1 k2 => ?_⟩
  · rw [h2]; omega
  · rw [h2]; omega
  · obtain ⟨p1, p2, p3⟩ := flowsLB_iff.1 k1
    obtain ⟨q1, q2, q3⟩ := flowsLB_iff.1 k2
    refine flowsLB_iff.2 ⟨p1, h1, fun d => ?_⟩
    rw [h2]
    have := p3 d
    have := q3 d
    omega
end Go.Proofs.YthhepnaanjicjaaGreatDoor

/- Layer 7, ownerships: what they are; lists of names as data. -/
namespace Go.Proofs.YthhepnaanjicjaaGreatDoor
open Go.RowKit
set_option linter.unusedVariables false
abbrev Nm := List UInt8
/-- A list of names is read. -/
def nmsR : Rd (List Nm) := Rd.iso strsR (fun l => l.map mkStr)
theorem nms_row {w : World} {ok : Nat → Prop} {A : Option Addr} {n c : Nat} {l : List Nm} (h : nmsR.rel w ok [.slice A n c] l) :
    n = l.length ∧ l.length ≤ c ∧ l.length * 16 ≤ 140737488355328 ∧ (A = none → c = 0) ∧ ∀ j x, l[j]? = some x → ∃ ad, A = some ad ∧ ok ad.block ∧ w.cell? (ad.add j) = some (.string ⟨x.toArray⟩) ∧ x.length ≤ 140737488355328 := by
  obtain ⟨A', c', hv, h2, h3, h4, h5, h6⟩ := h
  simp only [List.cons.injEq, Value.slice.injEq, and_true] at hv
  obtain ⟨rfl, hn, rfl⟩ := hv
  rw [List.length_map] at hn h2 h4
  refine ⟨hn, h2, h4, h5, fun j x hj => ?_⟩
  have hj' : (l.map mkStr)[j]? = some (mkStr x) := by rw [List.getElem?_map, hj]; rfl
  obtain ⟨ad, cs, hA, hok, ⟨rfl, hl⟩, hc⟩ := Rd.RowOf.at_ h6 hj'
  have := hc 0 _ rfl
  rw [show j * Rd.string.sz + 0 = j from Nat.mul_one j] at this
  exact ⟨ad, hA, hok, this, by rwa [mkStr_size] at hl⟩
theorem nms_le {w : World} {ok : Nat → Prop} {A : Option Addr} {n c : Nat} {l : List Nm} (h : nmsR.rel w ok [.slice A n c] l) : ∀ x ∈ l, x.length ≤ 140737488355328 := fun x hx => by
  obtain ⟨j, hj⟩ := List.getElem?_of_mem hx
  obtain ⟨_, _, _, _, h⟩ := (nms_row h).2.2.2.2 j x hj
  exact h
theorem nms_nil (w : World) (ok : Nat → Prop) : nmsR.rel w ok [.slice none 0 0] [] := ⟨none, 0, rfl, Nat.le_refl _, by decide, by simp, fun _ => rfl, .inl rfl⟩
/-- names of the call's own are read -/
theorem nms_own {w : World} {base : Nat} {T : TypeId} {v : Value} {xs : List Nm} (h : w.ownsRow base T 1 v xs.length (scells xs)) (hr : ∀ x ∈ xs, x.length ≤ 140737488355328) (hl : xs.length ≤ 8796093022208) : nmsR.rel w (fun k => v.ownBlock = some k) [v] xs :=
  reads_strs h hr (by omega)
theorem nms_strs {w : World} {ok : Nat → Prop} {cs : List Value} {l : List ByteArray} (h : strsR.rel w ok cs l) : nmsR.rel w ok cs (l.map fun s => s.data.toList) := by
  show strsR.rel w ok cs ((l.map fun s => s.data.toList).map mkStr)
  rw [List.map_map]
  have : (mkStr ∘ fun s : ByteArray => s.data.toList) = id := funext fun s => list_mkStr s
  rw [this, List.map_id]
  exact h
theorem strs_nms {w : World} {ok : Nat → Prop} {cs : List Value} {l : List Nm} (h : nmsR.rel w ok cs l) : strsR.rel w ok cs (l.map mkStr) := h
/-- Right: an ownership. -/
structure RightO (l : List Nm) : Prop where
  len : l.length ≤ 8
  each : ∀ c ∈ l, rightB c = true
  asc : l.Pairwise ltB
noncomputable def rightO (l : List Nm) : Bool := @decide (RightO l) (Classical.propDecidable _)
theorem rightO_iff {l : List Nm} : rightO l = true ↔ RightO l := by unfold rightO; exact @decide_eq_true_iff _ (Classical.propDecidable _)
theorem rightO_no {l : List Nm} (h : ¬ RightO l) : rightO l = false := by rw [Bool.eq_false_iff]; exact fun e => h (rightO_iff.1 e)
theorem sortS_fix {l : List Nm} : sortS l = l ↔ (∀ c ∈ l, rightB c = true) ∧ l.Pairwise ltB := by
  constructor
  · intro h
    have h1 := sortS_spec l
    rw [h] at h1
    exact ⟨fun c hc => ((h1.2 c).1 hc).2, h1.1⟩
  · rintro ⟨h1, h2⟩
    exact strict_unique ltB_irr ltB_tr (sortS_spec l).1 h2 fun x => by rw [(sortS_spec l).2]; exact ⟨fun h => h.1, fun h => ⟨h, h1 x h⟩⟩
theorem rightO_code (l : List Nm) : rightO l = (decide (l.length ≤ 8) && decide (sortS l = l)) := by
  rw [Bool.eq_iff_iff, rightO_iff, Bool.and_eq_true, decide_eq_true_eq, decide_eq_true_eq, sortS_fix]
  exact ⟨fun h => ⟨h.len, h.each, h.asc⟩, fun h => ⟨h.1, h.2.1, h.2.2⟩⟩
theorem right_one_nm {c : Nm} (h : rightB c = true) : RightO [c] := ⟨by simp, fun d hd => by rw [List.mem_singleton.1 hd]; exact h, List.pairwise_singleton _ _⟩
theorem rightO_names {l : List Nm} (h : RightO l) : ∀ c ∈ l, c.length ≤ 80 := fun c hc => rightB_len (h.each c hc)
noncomputable def unionO (a b : List Nm) : List Nm × Int := if rightO a = true ∧ rightO b = true then (if 8 < (sortS (a ++ b)).length then ([], 34) else (sortS (a ++ b), 0)) else ([], 2)
noncomputable def addO (l : List Nm) (c : Nm) : List Nm × Int := if rightO l = true then (if rightB c = true then unionO l [c] else ([], 20)) else ([], 2)
noncomputable def dropO (l : List Nm) (c : Nm) : List Nm × Int := if rightO l = true then (if rightB c = true then (if l.contains c = true then (l.filter (fun x => !(x == c)), 0) else ([], 36)) else ([], 20)) else ([], 2)
noncomputable def withinO (a b : List Nm) : Bool := rightO a && rightO b && a.all fun c => b.contains c
theorem unionO_len (a b : List Nm) : (unionO a b).1.length ≤ 8 := by
  unfold unionO
  split
  · split
    · simp
    · rename_i h; simp only; omega
  · simp
theorem unionO_each (a b : List Nm) : ∀ x ∈ (unionO a b).1, rightB x = true := by
  unfold unionO
  split
  · split
    · simp
    · exact fun x hx => (((sortS_spec _).2 x).1 hx).2
  · simp
theorem unionO_ok {a b : List Nm} (h : (unionO a b).2 = 0) : RightO a ∧ RightO b ∧ RightO (unionO a b).1 ∧ ∀ x, x ∈ (unionO a b).1 ↔ x ∈ a ∨ x ∈ b := by
  unfold unionO at h ⊢
  split at h
  · rename_i hr
    rw [if_pos hr]
    obtain ⟨ha, hb⟩ := hr
    have ha := rightO_iff.1 ha
    have hb := rightO_iff.1 hb
    split at h
    · simp at h
    · rename_i hl
      rw [if_neg hl]
      refine ⟨ha, hb, ⟨by simp only; omega, fun c hc => (((sortS_spec _).2 c).1 hc).2, (sortS_spec _).1⟩, fun x => ?_⟩
      rw [(sortS_spec _).2, List.mem_append]
      exact ⟨fun h => h.1, fun h => ⟨h, h.elim (ha.each x) (hb.each x)⟩⟩
  · simp at h
theorem unionO_comm (a b : List Nm) : unionO a b = unionO b a := by
  have hs : sortS (a ++ b) = sortS (b ++ a) := strict_unique ltB_irr ltB_tr (sortS_spec _).1 (sortS_spec _).1 fun x => by
    rw [(sortS_spec _).2, (sortS_spec _).2, List.mem_append, List.mem_append, or_comm]
  unfold unionO
  rw [hs]
  by_cases ha : rightO a = true <;> by_cases hb : rightO b = true <;> simp [ha, hb]
theorem dropO_len (l : List Nm) (c : Nm) : (dropO l c).1.length ≤ 8 := by
  unfold dropO
  split
  · rename_i h
    split
    · split
      · have := List.length_filter_le (fun x => !(x == c)) l
        have := (rightO_iff.1 h).len
        simp only; omega
      · simp
    · simp
  · simp
theorem withinO_iff {a b : List Nm} : withinO a b = true ↔ RightO a ∧ RightO b ∧ ∀ c ∈ a, c ∈ b := by
  unfold withinO
  simp only [Bool.and_eq_true, rightO_iff, List.all_eq_true, List.contains_iff_mem, and_assoc]
/-- What Put writes. -/
def encC (c : Nm) : List UInt8 := encF 10 c.length ++ c
def encO (l : List Nm) : List UInt8 := encF 10 l.length ++ l.flatMap encC
theorem encC_len (c : Nm) (h : c.length ≤ 1000000) : (encC c).length ≤ 1000010 := by
  unfold encC
  have := encF_len 10 (c.length : Int)
  simp only [List.length_append]
  omega
theorem flatC_len : ∀ (l : List Nm), (∀ c ∈ l, c.length ≤ 1000000) → (l.flatMap encC).length ≤ 1000010 * l.length
  | [], _ => by simp
  | e :: r, h => by
    have h1 := flatC_len r fun x hx => h x (List.mem_cons_of_mem _ hx)
    have h2 := encC_len e (h e List.mem_cons_self)
    rw [List.flatMap_cons, List.length_append, List.length_cons, Nat.mul_succ]
    omega
end Go.Proofs.YthhepnaanjicjaaGreatDoor

/- Layer 7: slices.Index, Contains, Equal of names; owns.Has, owns.Right. -/
namespace Go.Proofs.YthhepnaanjicjaaGreatDoor
open Go.RowKit Go.Shelf
set_option linter.unusedVariables false
/-- Where a name first stands; -1: nowhere. -/
def idxO (l : List Nm) (s : Nm) : Int := match l.findIdx? (fun x => x == s) with
  | none => -1
  | some i => i
theorem idxO_cons (x : Nm) (l : List Nm) (s : Nm) : 0 ≤ idxO (x :: l) s ↔ x = s ∨ 0 ≤ idxO l s := by
  unfold idxO
  rw [List.findIdx?_cons]
  by_cases h : x = s
  · simp [h]
  · have : (x == s) = false := by simpa using h
    simp only [this, h, false_or]
    cases l.findIdx? (fun x => x == s) <;> simp
    omega
theorem idxO_has (l : List Nm) (s : Nm) : decide (0 ≤ idxO l s) = l.contains s := by
  induction l with
  | nil => rfl
  | cons x l ih =>
    rw [List.contains_cons, ← ih, Bool.eq_iff_iff]
    simp only [decide_eq_true_eq, Bool.or_eq_true, beq_iff_eq, idxO_cons]
    exact ⟨fun h => h.imp Eq.symm id, fun h => h.imp Eq.symm id⟩
theorem idxO_ge (l : List Nm) (s : Nm) : -1 ≤ idxO l s := by unfold idxO; split <;> omega
theorem idxO_lt (l : List Nm) (s : Nm) : idxO l s < l.length ∨ l = [] := by
  unfold idxO
  split
  · cases l with
    | nil => exact .inr rfl
    | cons => left; simp; omega
  · rename_i i h
    left
    have := (List.findIdx?_eq_some_iff_getElem.1 h).1
    omega
set_option maxRecDepth 100000 in
set_option maxHeartbeats 1000000 in
theorem indexO_any (A : Option Addr) (n c : Nat) (l : List Nm) (s : Nm) (ok : Nat → Prop) (w : World) (h : nmsR.rel w ok [.slice A n c] l) :
    Calls Tryz.prog 102 #[.slice A n c, .string ⟨s.toArray⟩] w fun r w' => r = .returned (.int .i64 (idxO l s)) ∧ Mod (fun _ => False) w w' := by
  obtain ⟨rfl, hcap, hbig, -, hrow⟩ := nms_row h
  obtain ⟨z, hz⟩ : ∃ z, z = idxO l s := ⟨_, rfl⟩
  rw [← hz]
  have H0 := Lib.hid (And.intro hrow hz); clear h hrow hz
  go_enter Tryz.func102, Tryz.ntmps102
  go_wp2_with fail
  go_loopg [8] l.length (fun f si wr => ∃ i : Nat, si = .int .i64 i ∧ i + f = l.length ∧ (∀ x ∈ l.take i, x ≠ s) ∧ w = wr)
  case atStart => exact ⟨0, rfl, by omega, by simp, rfl⟩
  case round =>
    obtain ⟨i, rfl, hi, hno, rfl⟩ := hrel
    by_cases hlt : i < l.length
    · obtain ⟨x, hx⟩ : ∃ x, l[i]? = some x := ⟨_, List.getElem?_eq_getElem hlt⟩
      obtain ⟨ad, rfl, -, hc, -⟩ := H0.out.1 i x hx
      by_cases hsx : s = x
      · subst hsx
        have hzi : z = i := by
          rw [H0.out.2]; unfold idxO
          have : l.findIdx? (fun x => x == s) = some i := by
            rw [List.findIdx?_eq_some_iff_getElem]
            refine ⟨hlt, ?_, fun j hj => ?_⟩
            · rw [List.getElem?_eq_getElem hlt] at hx
              rw [Option.some.inj hx]; simp
            · have := hno l[j] (by rw [List.mem_take_iff_getElem]; exact ⟨j, by omega, rfl⟩)
              simpa using this
          rw [this]
        clear hi hno hx
        go_wp2_with fail
        go_ret
        exact ⟨by rw [hzi]; rfl, .refl _ _⟩
      · have e1 : (s == x) = false := by simpa using hsx
        have hno' : ∀ y ∈ l.take (i + 1), y ≠ s := by
          intro y hy
          rw [List.take_add_one, hx, List.mem_append] at hy
          rcases hy with hy | hy
          · exact hno y hy
          · simp at hy; rw [hy]; exact fun e => hsx e.symm
        have HX := Lib.hid (And.intro hi hno'); clear hi hno hno' hx hsx
        go_wp2_with fail
        go_roundg (gk - 1)
        case measure => have := HX.out.1; omega
        case rel => exact ⟨i + 1, by go_num, by have := HX.out.1; omega, HX.out.2, rfl⟩
    · have hzi : z = -1 := by
        rw [H0.out.2]; unfold idxO
        have : l.findIdx? (fun x => x == s) = none := by
          rw [List.findIdx?_eq_none_iff]
          intro x hx
          have := hno x (by rw [List.take_of_length_le (by omega)]; exact hx)
          simpa using this
        rw [this]
      clear hi hno
      go_wp2_with fail
      go_ret
      exact ⟨by rw [hzi]; rfl, .refl _ _⟩
set_option maxRecDepth 100000 in
theorem containsO_any (A : Option Addr) (n c : Nat) (l : List Nm) (s : Nm) (ok : Nat → Prop) (w : World) (h : nmsR.rel w ok [.slice A n c] l) :
    Calls Tryz.prog 63 #[.slice A n c, .string ⟨s.toArray⟩] w fun r w' => r = .returned (.bool (l.contains s)) ∧ Mod (fun _ => False) w w' := by
  have hi := indexO_any A n c l s ok w h
  rw [← idxO_has]
  obtain ⟨z, hz⟩ : ∃ z, z = idxO l s := ⟨_, rfl⟩
  rw [← hz] at hi ⊢
  have H0 := Lib.hid hi; clear h hi hz
  go_enter Tryz.func63, Tryz.ntmps63
  go_wp2_with fail
  refine H0.out.mono ?_
  rintro r w1 ⟨rfl, hm⟩
  have H := Lib.hid hm; clear hm
  go_wp2_with fail
  go_ret
  exact ⟨rfl, H.out⟩
set_option maxRecDepth 100000 in
theorem hasO_any (A : Option Addr) (n c : Nat) (l : List Nm) (s : Nm) (ok : Nat → Prop) (w : World) (h : nmsR.rel w ok [.slice A n c] l) :
    Calls Tryz.prog 20 #[.slice A n c, .string ⟨s.toArray⟩] w fun r w' => r = .returned (.bool (l.contains s)) ∧ Mod (fun _ => False) w w' := by
  have hc := containsO_any A n c l s ok w h
  obtain ⟨b, hb⟩ : ∃ b, b = l.contains s := ⟨_, rfl⟩
  rw [← hb] at hc ⊢
  have H0 := Lib.hid hc; clear h hc hb
  go_enter Tryz.func20, Tryz.ntmps20
  go_wp2_with fail
  refine H0.out.mono ?_
  rintro r w1 ⟨rfl, hm⟩
  have H := Lib.hid hm; clear hm
  go_wp2_with fail
  go_ret
  exact ⟨rfl, H.out⟩
set_option maxRecDepth 100000 in
set_option maxHeartbeats 1000000 in
theorem equalO_any (A : Option Addr) (n c : Nat) (A2 : Option Addr) (n2 c2 : Nat) (a b : List Nm) (ok ok2 : Nat → Prop) (w : World) (h : nmsR.rel w ok [.slice A n c] a) (h2 : nmsR.rel w ok2 [.slice A2 n2 c2] b) :
    Calls Tryz.prog 72 #[.slice A n c, .slice A2 n2 c2] w fun r w' => r = .returned (.bool (decide (a = b))) ∧ Mod (fun _ => False) w w' := by
  obtain ⟨rfl, hcap, hbig, -, hrow⟩ := nms_row h
  obtain ⟨rfl, hcap2, hbig2, -, hrow2⟩ := nms_row h2
  obtain ⟨z, hz⟩ : ∃ z, z = decide (a = b) := ⟨_, rfl⟩
  rw [← hz]
  have H0 := Lib.hid (And.intro hrow (And.intro hrow2 hz)); clear h h2 hrow hrow2 hz
  by_cases hle : a.length = b.length
  case neg =>
    have hzf : z = false := by rw [H0.out.2.2]; exact decide_eq_false fun e => hle (by rw [e])
    subst hzf
    have e1 : ((a.length : Int) != (b.length : Int)) = true := by simp; omega
    go_enter Tryz.func72, Tryz.ntmps72
    go_wp2_with fail
    go_ret
    exact ⟨rfl, Mod.refl _ _⟩
  case pos =>
    have e1 : ((a.length : Int) != (b.length : Int)) = false := by simp; omega
    have HL := Lib.hid hle; clear hle
    go_enter Tryz.func72, Tryz.ntmps72
    go_wp2_with fail
    go_loopg [13] a.length (fun f si wr => ∃ i : Nat, si = .int .i64 i ∧ i + f = a.length ∧ a.take i = b.take i ∧ Mod (fun _ => False) w wr)
    case atStart => exact ⟨0, rfl, by omega, by simp, .refl _ _⟩
    case round =>
      obtain ⟨i, rfl, hi, hsm, hmod⟩ := hrel
      by_cases hlt : i < a.length
      · have hlt2 : i < b.length := by rw [← HL.out]; exact hlt
        obtain ⟨x, hx⟩ : ∃ x, a[i]? = some x := ⟨_, List.getElem?_eq_getElem hlt⟩
        obtain ⟨y, hy⟩ : ∃ y, b[i]? = some y := ⟨_, List.getElem?_eq_getElem hlt2⟩
        obtain ⟨ad, rfl, -, hc, -⟩ := H0.out.1 i x hx
        obtain ⟨ad2, rfl, -, hd, -⟩ := H0.out.2.1 i y hy
        have hc := (hmod.cell (lt_of_cell hc) id).trans hc
        have hd := (hmod.cell (lt_of_cell hd) id).trans hd
        by_cases hxy : x = y
        · subst hxy
          have hsm' : a.take (i + 1) = b.take (i + 1) := by rw [List.take_add_one, List.take_add_one, hx, hy, hsm]
          have HX := Lib.hid (And.intro hi (And.intro hsm' hmod)); clear hi hsm hsm' hmod hx hy
          go_wp2_with fail
          go_quiet (fail)
          go_wp2_with fail
          go_roundg (gk - 1)
          case measure => have := HX.out.1; omega
          case rel => exact ⟨i + 1, by go_num, by have := HX.out.1; omega, HX.out.2.1, HX.out.2.2.drewN _⟩
        · have hzf : z = false := by
            rw [H0.out.2.2]
            refine decide_eq_false fun e => hxy ?_
            rw [e, hy] at hx
            exact (Option.some.inj hx).symm
          have e2 : (x == y) = false := by simpa using hxy
          have HX := Lib.hid hmod; clear hi hsm hmod hx hy hxy
          subst hzf
          go_wp2_with fail
          go_quiet (fail)
          go_wp2_with fail
          go_ret
          exact ⟨rfl, HX.out.drewN _⟩
      · have hzt : z = true := by
          rw [H0.out.2.2]
          refine decide_eq_true ?_
          rw [List.take_of_length_le (by omega), List.take_of_length_le (by have := HL.out; omega)] at hsm
          exact hsm
        have HX := Lib.hid hmod; clear hi hsm hmod
        subst hzt
        go_wp2_with fail
        go_ret
        exact ⟨rfl, HX.out⟩
theorem sortN_any (A : Option Addr) (n c : Nat) (l : List Nm) (ok : Nat → Prop) (w : World) (h : nmsR.rel w ok [.slice A n c] l) (E : Env w) :
    Calls Tryz.prog 66 #[.slice A n c] w fun r w' => ∃ A' c', r = .returned (.slice A' (sortS l).length c') ∧ w'.ownsRow w.heap.size 9 1 (.slice A' (sortS l).length c') (sortS l).length (scells (sortS l)) ∧ Mod (fun _ => False) w w' := by
  have hn := nms_row h
  have hle := nms_le h
  have := sort_any A n c (l.map mkStr) ok w h (by rw [List.length_map]; omega) (fun s hs => by
    obtain ⟨x, hx, rfl⟩ := List.mem_map.1 hs
    rw [mkStr_size]; exact hle x hx) E
  rwa [map_back] at this
set_option maxRecDepth 100000 in
set_option maxHeartbeats 1000000 in
theorem rightO_any (A : Option Addr) (n c : Nat) (l : List Nm) (ok : Nat → Prop) (w : World) (h : nmsR.rel w ok [.slice A n c] l) (E : Env w) :
    Calls Tryz.prog 28 #[.slice A n c] w fun r w' => r = .returned (.bool (rightO l)) ∧ Mod (fun _ => False) w w' := by
  obtain ⟨hn, -⟩ := nms_row h
  subst hn
  rw [rightO_code]
  have hle := nms_le h
  have hs := sortN_any A l.length c l ok w h E
  have hsl := sortS_len l
  have hr := fun W hW => Rd.mod (S := fun _ => False) (w1 := W) h hW (fun _ _ => id)
  obtain ⟨z, hz⟩ : ∃ z, z = decide (sortS l = l) := ⟨_, rfl⟩
  rw [← hz]
  obtain ⟨x, hx⟩ : ∃ x, x = sortS l := ⟨_, rfl⟩
  have hxe : ∀ y ∈ x, y.length ≤ 140737488355328 := fun y hy => hle y (by rw [hx, (sortS_spec l).2] at hy; exact hy.1)
  rw [← hx] at hs hz hsl
  have hll : l.length ≤ 8796093022208 := by have := (nms_row h).2.2.1; omega
  have H0 := Lib.hid (And.intro hs (And.intro hr (And.intro hz hxe))); clear h E hs hr hz hx hle hxe
  by_cases h8 : l.length ≤ 8
  · have e1 : decide (l.length ≤ 8) = true := by simpa using h8
    go_enter Tryz.func28, Tryz.ntmps28
    go_wp2_with fail
    refine H0.out.1.mono ?_
    rintro r w1 ⟨A', c', rfl, ho, hm⟩
    have he := equalO_any A' x.length c' A l.length c x l _ _ w1 (nms_own ho H0.out.2.2.2 (by omega)) (H0.out.2.1 w1 hm)
    rw [← H0.out.2.2.1] at he
    have H1 := Lib.hid (And.intro he hm); clear ho he hm
    go_wp2_with fail
    refine H1.out.1.mono ?_
    rintro r w2 ⟨rfl, hm⟩
    have H2 := Lib.hid (tr0 H1.out.2 hm); clear hm
    go_wp2_with fail
    go_ret
    exact ⟨by rw [e1]; rfl, H2.out⟩
  · have e1 : decide (l.length ≤ 8) = false := by simpa using h8
    rw [e1]
    go_enter Tryz.func28, Tryz.ntmps28
    go_wp2_with fail
    go_ret
    exact ⟨rfl, .refl _ _⟩
end Go.Proofs.YthhepnaanjicjaaGreatDoor

/- Rows: slices.Grow of nil, slices.Concat of two. -/
namespace Go.Proofs.YthhepnaanjicjaaGreatDoor
open Go.RowKit Go.Shelf
set_option linter.unusedVariables false
theorem Tryz.info_str3 : (Tryz.prog.info? 9).map (fun i => (i.zero, i.size, i.bytes)) = some (some (.string ⟨#[]⟩), 1, 16) := by kernel_rfl
set_option maxRecDepth 100000 in
set_option maxHeartbeats 1000000 in
theorem growNilS_any (k : Nat) (hk : k ≤ 4000000) (w : World) :
    Calls Tryz.prog 107 #[.slice none 0 0, .int .i64 (k : Nat)] w fun r w' => ∃ A c, r = .returned (.slice A 0 c) ∧ w'.ownsRow w.heap.size 9 1 (.slice A 0 c) 0 [] ∧ Mod (fun _ => False) w w' := by
  go_enter Tryz.func107, Tryz.ntmps107
  by_cases h0 : k = 0
  · subst h0
    go_wp2_with fail
    go_ret
    exact ⟨none, 0, rfl, World.ownsRow_nil _ _ _ _, .refl _ _⟩
  have e1 : decide (0 < k) = true := by simp; omega
  obtain ⟨i0, hi, hzz⟩ := Option.map_eq_some_iff.1 Tryz.info_str3
  simp only [Prod.mk.injEq] at hzz
  have hrun := fun ty => Lib.run_append_nil_zeros (P := Tryz.prog) w 24 3 ty 9 i0 (.string ⟨#[]⟩) .i64 .i64 Tryz.underlying24 Tryz.underlying3 hi hzz.1 k (by omega) (by omega) (by omega) (by rw [hzz.2.2]; omega)
  have hge := grownCap_ge w k 0 9
  have hcm := grownCap_le_maxLen w k 0 9 (by simp only [maxLen]; omega)
  obtain ⟨cp, hcp⟩ : ∃ cp, cp = grownCap w k 0 9 := ⟨_, rfl⟩
  rw [← hcp] at hge hcm
  simp only [← hcp] at hrun
  obtain ⟨Z, hZ⟩ : ∃ Z, Z = Builtin.zeroCells ((.string ⟨#[]⟩) : Value).cells k ++ Builtin.zeroCells ((.string ⟨#[]⟩) : Value).cells (cp - k) := ⟨_, rfl⟩
  simp only [← hZ] at hrun
  have hZs : Z.size = cp * 1 := by
    have hz2 : ((.string ⟨#[]⟩) : Value).cells.size = 1 := rfl
    rw [hZ, Array.size_append, size_zeroCells, size_zeroCells, hz2, ← Nat.add_mul]
    congr 1
    omega
  clear hZ
  obtain ⟨W1, hW1⟩ : ∃ W1, W1 = w.drew.alloc (.cells Z 9) := ⟨_, rfl⟩
  simp only [← hW1] at hrun
  have hown : W1.ownsRow w.heap.size 9 1 (.slice (some ⟨w.heap.size, 0, none⟩) 0 cp) 0 [] :=
    ⟨rfl, .inr ⟨w.heap.size, cp, Z, rfl, Nat.le_refl _, by rw [hW1]; exact heap_alloc_new w.drew _, by omega, hcm, hZs, by simp⟩⟩
  have hmd : Mod (fun _ => False) w W1 := by rw [hW1]; exact (Mod.refl _ w).drew.alloc _
  have HR := Lib.hid hrun
  have H1 := Lib.hid (And.intro hown hmd); clear hown hmd hrun hcm hW1 hzz hcp hi hZs
  go_wp2_with (at_builtin; refine Lib.wpList_append_run _ rfl _ _ _ _ rfl _ _ rfl rfl _ _ (HR.out _) ?_)
  go_wp2_with fail
  go_ret
  exact ⟨_, cp, rfl, H1.out.1, H1.out.2⟩
set_option maxRecDepth 100000 in
set_option maxHeartbeats 2000000 in
theorem concatS_any (A : Option Addr) (n c : Nat) (A2 : Option Addr) (n2 c2 : Nat) (a b : List ByteArray) (ok ok2 : Nat → Prop) (gx : Nat) (w : World) (h : strsR.rel w ok [.slice A n c] a) (h2 : strsR.rel w ok2 [.slice A2 n2 c2] b) (hl : a.length ≤ 1000000) (hl2 : b.length ≤ 1000000)
    (h0 : w.cell? ⟨gx, 0, none⟩ = some (.slice A n c)) (h1 : w.cell? ⟨gx, 1, none⟩ = some (.slice A2 n2 c2)) :
    Calls Tryz.prog 67 #[.slice (some ⟨gx, 0, none⟩) 2 2] w fun r w' => ∃ A' c', r = .returned (.slice A' (a.length + b.length) c') ∧ OwnR Rd.string 9 w' w.heap.size (fun k => (ok k ∨ ok2 k) ∧ k < w.heap.size) (.slice A' (a.length + b.length) c') (a ++ b) ∧ Mod (fun _ => False) w w' := by
  obtain ⟨rfl, -, -, -, hnil, hrow⟩ := strs_row h
  obtain ⟨rfl, -, -, -, hnil2, hrow2⟩ := strs_row h2
  have e1 : ((0 : Int) + (a.length : Int)) = (a.length : Int) := by omega
  have HN := Lib.hid (And.intro h0 (And.intro h1 (And.intro (Rd.bound h) (Rd.bound h2)))); clear h h2 hrow hrow2 hnil hnil2
  have hgx := cell_lt h0
  go_enter Tryz.func67, Tryz.ntmps67
  go_wp2_with fail
  refine wp_loop_rounds 3 ?_
  rw [rounds_succ]
  go_wp2_with fail
  rw [rounds_succ]
  go_wp2_with fail
  rw [rounds_succ]
  go_wp2_with fail
  have hgr := growNilS_any (a.length + b.length) (by omega) w
  rw [Int.natCast_add] at hgr
  refine hgr.mono ?_
  rintro r w1 ⟨A1, c1, rfl, ho1, hm1⟩
  have k0 := (hm1.cell hgx id).trans h0
  have k1 := (hm1.cell hgx id).trans h1
  have hO1 : OwnR Rd.string 9 w1 w.heap.size (fun k => (ok k ∨ ok2 k) ∧ k < w.heap.size) (.slice A1 0 c1) [] := ⟨[], ho1, fun j x hj => by simp at hj⟩
  have H1 := Lib.hid (And.intro hO1 (And.intro hm1 (And.intro (Rd.mod HN.out.2.2.1 hm1 (fun _ _ => id)) (Rd.mod HN.out.2.2.2 hm1 (fun _ _ => id))))); clear ho1 hO1 hm1 h0 h1 hgr
  go_wp2_with fail
  refine wp_loop_rounds 3 ?_
  rw [rounds_succ]
  have hsz := H1.out.2.1.size
  go_wp2_with (at_builtin; refine append_all (R := Rd.string) w.heap.size rfl _ _ 24 9 (.string ⟨#[]⟩) 16 rfl Tryz.underlying24 Tryz.info_str3 rfl (.slice A1 0 c1) [] a (fun k => (ok k ∨ ok2 k) ∧ k < w.heap.size) A c rfl rfl H1.out.1 ?hy ?hA hsz ?hl (by decide) ?_)
  case hy =>
    obtain ⟨-, -, -, -, -, hrow⟩ := strs_row H1.out.2.2.1
    exact Rd.RowOf.weak <| hrow.step fun k hk hlt => ⟨⟨⟨.inl hk.1, hk.2⟩, fun e => by
      obtain ⟨cells, hown, _⟩ := H1.out.1
      have := (own_lt hown k e.symm).1
      have := hk.2
      omega⟩, rfl⟩
  case hA => exact (strs_row H1.out.2.2.1).2.2.2.2.1
  case hl => simp only [List.length_nil]; omega
  intro A3 c3 w3 hO3 hm3 hn3
  have hm13 : Mod (fun _ => False) w w3 := H1.out.2.1.trans hm3 (fun k hk => .inr (by
    obtain ⟨cells, hown, _⟩ := H1.out.1
    exact (own_lt hown k hk).1))
  have q1 : w3.cell? ⟨gx, 1, none⟩ = some (.slice A2 b.length c2) := (hm13.cell hgx id).trans HN.out.2.1
  have H3 := Lib.hid (And.intro hO3 (And.intro hm13 (Rd.mod HN.out.2.2.2 hm13 (fun _ _ => id)))); clear hO3 hm3 hn3 hm13 k0 k1
  go_wp2_with fail
  rw [rounds_succ]
  have hsz3 := H3.out.2.1.size
  go_wp2_with (at_builtin; refine append_all (R := Rd.string) w.heap.size rfl _ _ 24 9 (.string ⟨#[]⟩) 16 rfl Tryz.underlying24 Tryz.info_str3 rfl (.slice A3 a.length c3) a b (fun k => (ok k ∨ ok2 k) ∧ k < w.heap.size) A2 c2 rfl rfl H3.out.1 ?hy ?hA hsz3 ?hl (by decide) ?_)
  case hy =>
    obtain ⟨-, -, -, -, -, hrow⟩ := strs_row H3.out.2.2
    exact Rd.RowOf.weak <| hrow.step fun k hk hlt => ⟨⟨⟨.inr hk.1, hk.2⟩, fun e => by
      obtain ⟨cells, hown, _⟩ := H3.out.1
      have := (own_lt hown k e.symm).1
      have := hk.2
      omega⟩, rfl⟩
  case hA => exact (strs_row H3.out.2.2).2.2.2.2.1
  case hl => omega
  intro A4 c4 w4 hO4 hm4 hn4
  have hm14 : Mod (fun _ => False) w w4 := H3.out.2.1.trans hm4 (fun k hk => .inr (by
    obtain ⟨cells, hown, _⟩ := H3.out.1
    exact (own_lt hown k hk).1))
  have H4 := Lib.hid (And.intro hO4 hm14); clear hO4 hm4 hn4 hm14 q1
  go_wp2_with fail
  rw [rounds_succ]
  go_wp2_with fail
  go_ret
  exact ⟨A4, c4, rfl, H4.out.1, H4.out.2⟩
end Go.Proofs.YthhepnaanjicjaaGreatDoor

/- Layer 7, owns: Union, Add. -/
namespace Go.Proofs.YthhepnaanjicjaaGreatDoor
open Go.RowKit Go.Shelf
set_option linter.unusedVariables false
def OwnN (w : World) (base : Nat) (v : Value) (l : List Nm) : Prop := w.ownsRow base 9 1 v l.length (scells l)
theorem OwnN.nil (w : World) (base : Nat) : OwnN w base (.slice none 0 0) [] := World.ownsRow_nil _ _ _ _
theorem OwnN.mod {w w1 : World} {base : Nat} {v : Value} {l : List Nm} {S : Nat → Prop} (h : OwnN w base v l) (hm : Mod S w w1) (hS : ∀ k, v.ownBlock = some k → ¬ S k) : OwnN w1 base v l :=
  own_move h fun k hk => hm.block k (own_lt h k hk).2 (hS k hk)
theorem OwnN.le {w : World} {base base1 : Nat} {v : Value} {l : List Nm} (h : OwnN w base v l) (hb : base1 ≤ base) : OwnN w base1 v l := own_base_le h hb
theorem OwnN.reads {w : World} {base : Nat} {v : Value} {l : List Nm} (h : OwnN w base v l) (hr : ∀ x ∈ l, x.length ≤ 140737488355328) (hl : l.length ≤ 8796093022208) : nmsR.rel w (fun k => v.ownBlock = some k) [v] l := nms_own h hr hl
theorem union_right {l : List Nm} (h : ∀ x ∈ l, rightB x = true) : ∀ x ∈ l, x.length ≤ 140737488355328 := fun x hx => Nat.le_trans (rightB_len (h x hx)) (by decide)
theorem nms_of_own {w : World} {base : Nat} {S : Nat → Prop} {v : Value} {T : TypeId} {a b : List Nm} (h : OwnR Rd.string T w base S v (a.map mkStr ++ b.map mkStr)) (hl : (a ++ b).length ≤ 8796093022208) : nmsR.rel w (fun k => S k ∨ v.ownBlock = some k) [v] (a ++ b) := by
  rw [← List.map_append] at h
  exact h.reads (bytes := 16) (by rw [List.length_map]; omega)
set_option maxRecDepth 100000 in
set_option maxHeartbeats 2000000 in
theorem unionO_any (A : Option Addr) (n c : Nat) (A2 : Option Addr) (n2 c2 : Nat) (a b : List Nm) (ok ok2 : Nat → Prop) (w : World) (h : nmsR.rel w ok [.slice A n c] a) (h2 : nmsR.rel w ok2 [.slice A2 n2 c2] b) (E : Env w) :
    Calls Tryz.prog 22 #[.slice A n c, .slice A2 n2 c2] w fun r w' => ∃ A' c', r = .returned (.tuple #[.slice A' (unionO a b).1.length c', .int .i64 (unionO a b).2]) ∧ OwnN w' w.heap.size (.slice A' (unionO a b).1.length c') (unionO a b).1 ∧ Mod (fun _ => False) w w' := by
  obtain ⟨rfl, -⟩ := nms_row h
  obtain ⟨rfl, -⟩ := nms_row h2
  have RA := fun W (hW : Mod (fun _ => False) w W) => Rd.mod (Rd.bound h) hW (fun _ _ => id)
  have RB := fun W (hW : Mod (fun _ => False) w W) => Rd.mod (Rd.bound h2) hW (fun _ _ => id)
  obtain ⟨z, hz⟩ : ∃ z, z = unionO a b := ⟨_, rfl⟩
  rw [← hz]
  unfold unionO at hz
  have ra := rightO_any A a.length c a _ w h E
  have H0 := Lib.hid (And.intro E (And.intro RA (And.intro RB hz))); clear E h h2 RA RB hz
  cases hra : rightO a with
  | false =>
    rw [hra] at ra
    have HR := Lib.hid ra; clear ra
    have hzf : z = ([], 2) := by rw [H0.out.2.2.2, if_neg (by rw [hra]; simp)]
    subst hzf
    go_enter Tryz.func22, Tryz.ntmps22
    go_wp2_with fail
    refine HR.out.mono ?_
    rintro r w1 ⟨rfl, hm⟩
    have H1 := Lib.hid hm; clear hm
    go_wp2_with fail
    go_ret2
    exact ⟨none, 0, rfl, OwnN.nil _ _, H1.out⟩
  | true =>
    rw [hra] at ra
    have HR := Lib.hid ra; clear ra
    go_enter Tryz.func22, Tryz.ntmps22
    go_wp2_with fail
    refine HR.out.mono ?_
    rintro r w1 ⟨rfl, hm⟩
    have rb := rightO_any A2 b.length c2 b _ w1 (H0.out.2.2.1 w1 hm) (H0.out.1.mod0 hm)
    cases hrb : rightO b with
    | false =>
      rw [hrb] at rb
      have H1 := Lib.hid (And.intro hm rb); clear hm rb
      have hzf : z = ([], 2) := by rw [H0.out.2.2.2, if_neg (by rw [hrb]; simp)]
      subst hzf
      go_wp2_with fail
      refine H1.out.2.mono ?_
      rintro r w2 ⟨rfl, hm⟩
      have H2 := Lib.hid (tr0 H1.out.1 hm); clear hm
      go_wp2_with fail
      go_ret2
      exact ⟨none, 0, rfl, OwnN.nil _ _, H2.out⟩
    | true =>
      rw [hrb] at rb
      have hza := H0.out.2.2.2
      rw [if_pos ⟨hra, hrb⟩] at hza
      have ha8 := (rightO_iff.1 hra).len
      have hb8 := (rightO_iff.1 hrb).len
      have H1 := Lib.hid (And.intro hm (And.intro rb hza)); clear hm rb hza hra hrb
      go_wp2_with fail
      refine H1.out.2.1.mono ?_
      rintro r w2 ⟨rfl, hm⟩
      have hm2 := tr0 H1.out.1 hm
      have H2 := Lib.hid hm2; clear hm hm2
      go_wp2_with fail
      obtain ⟨W1, hW1⟩ : ∃ W1, W1 = w2.alloc (.cells #[.slice A a.length c, .slice A2 b.length c2] 24) := ⟨_, rfl⟩
      rw [← hW1]
      have hmW : Mod (fun _ => False) w W1 := by rw [hW1]; exact H2.out.alloc _
      obtain ⟨k0, k1⟩ := cells2 w2 (.slice A a.length c) (.slice A2 b.length c2) 24
      rw [← hW1] at k0 k1
      obtain ⟨g, hg⟩ : ∃ g, g = w2.heap.size := ⟨_, rfl⟩
      rw [← hg] at k0 k1 ⊢
      have hcc := concatS_any A a.length c A2 b.length c2 (a.map mkStr) (b.map mkStr) _ _ g W1 (H0.out.2.1 W1 hmW) (H0.out.2.2.1 W1 hmW) (by rw [List.length_map]; omega) (by rw [List.length_map]; omega) k0 k1
      rw [List.length_map, List.length_map] at hcc
      have H3 := Lib.hid (And.intro hmW hcc); clear hmW hcc k0 k1 hW1 hg
      go_wp2_with fail
      refine H3.out.2.mono ?_
      rintro r w3 ⟨A3, c3, rfl, ho3, hm3⟩
      have hm03 := tr0 H3.out.1 hm3
      have hr3 := nms_of_own ho3 (by rw [List.length_append]; omega)
      have hso := sortN_any A3 (a.length + b.length) c3 (a ++ b) _ w3 hr3 (H0.out.1.mod0 hm03)
      obtain ⟨x, hx⟩ : ∃ x, x = sortS (a ++ b) := ⟨_, rfl⟩
      have hza := H1.out.2.2
      rw [← hx] at hso hza
      have H4 := Lib.hid (And.intro hm03 (And.intro hso hza)); clear hm03 hm3 ho3 hr3 hso hx hza
      go_wp2_with fail
      refine H4.out.2.1.mono ?_
      rintro r w4 ⟨A4, c4, rfl, ho4, hm4⟩
      have H5 := Lib.hid (And.intro (tr0 H4.out.1 hm4) (OwnN.le ho4 H4.out.1.size)); clear ho4 hm4
      by_cases h8 : 8 < x.length
      · have hzf : z = ([], 34) := by rw [H4.out.2.2, if_pos h8]
        subst hzf
        go_wp2_with fail
        go_ret2
        exact ⟨none, 0, rfl, OwnN.nil _ _, H5.out.1⟩
      · have hzf : z = (x, 0) := by rw [H4.out.2.2, if_neg h8]
        subst hzf
        go_wp2_with fail
        go_ret2
        exact ⟨A4, c4, rfl, H5.out.2, H5.out.1⟩
theorem one_row (w : World) (s : Nm) (hs : s.length ≤ 140737488355328) : nmsR.rel (w.alloc (.cells #[.string ⟨s.toArray⟩] 9)) (fun _ => True) [.slice (some ⟨w.heap.size, 0, none⟩) 1 1] [s] := by
  refine ⟨_, _, rfl, Nat.le_refl _, by decide, by show 1 * 16 ≤ _; decide, by simp, .inr ⟨_, rfl, trivial, fun j x hj => ?_⟩⟩
  obtain rfl : j = 0 := by have := (List.getElem?_eq_some_iff.1 hj).1; simp at this; omega
  simp at hj
  subst hj
  refine ⟨_, ⟨rfl, by rw [mkStr_size]; exact hs⟩, fun i u hu => ?_⟩
  obtain rfl : i = 0 := by have := (List.getElem?_eq_some_iff.1 hu).1; simp at this; omega
  simp only [List.getElem?_cons_zero, Option.some.injEq] at hu
  subst hu
  rw [show (⟨w.heap.size, 0, none⟩ : Addr).add (0 * Rd.string.sz + 0) = ⟨w.heap.size, 0, none⟩ from rfl]
  rw [Lib.cell_of_heap (World.alloc_heap_new w _)]
  rfl
set_option maxRecDepth 100000 in
set_option maxHeartbeats 1000000 in
theorem addO_any (A : Option Addr) (n c : Nat) (l : List Nm) (s : Nm) (ok : Nat → Prop) (w : World) (h : nmsR.rel w ok [.slice A n c] l) (hs : s.length ≤ 140737488355328) (E : Env w) :
    Calls Tryz.prog 18 #[.slice A n c, .string ⟨s.toArray⟩] w fun r w' => ∃ A' c', r = .returned (.tuple #[.slice A' (addO l s).1.length c', .int .i64 (addO l s).2]) ∧ OwnN w' w.heap.size (.slice A' (addO l s).1.length c') (addO l s).1 ∧ Mod (fun _ => False) w w' := by
  obtain ⟨rfl, -⟩ := nms_row h
  have RA := fun W (hW : Mod (fun _ => False) w W) => Rd.mod h hW (fun _ _ => id)
  obtain ⟨z, hz⟩ : ∃ z, z = addO l s := ⟨_, rfl⟩
  rw [← hz]
  unfold addO at hz
  have ra := rightO_any A l.length c l _ w h E
  have H0 := Lib.hid (And.intro E (And.intro RA (And.intro hz hs))); clear E h RA hz hs
  cases hra : rightO l with
  | false =>
    rw [hra] at ra
    have HR := Lib.hid ra; clear ra
    have hzf : z = ([], 2) := by rw [H0.out.2.2.1, if_neg (by rw [hra]; simp)]
    subst hzf
    go_enter Tryz.func18, Tryz.ntmps18
    go_wp2_with fail
    refine HR.out.mono ?_
    rintro r w1 ⟨rfl, hm⟩
    have H1 := Lib.hid hm; clear hm
    go_wp2_with fail
    go_ret2
    exact ⟨none, 0, rfl, OwnN.nil _ _, H1.out⟩
  | true =>
    rw [hra] at ra
    have HR := Lib.hid ra; clear ra
    go_enter Tryz.func18, Tryz.ntmps18
    go_wp2_with fail
    refine HR.out.mono ?_
    rintro r w1 ⟨rfl, hm⟩
    have rb := right_any s H0.out.2.2.2 w1 (H0.out.1.mod0 hm)
    cases hrb : rightB s with
    | false =>
      rw [hrb] at rb
      have H1 := Lib.hid (And.intro hm rb); clear hm rb
      have hzf : z = ([], 20) := by rw [H0.out.2.2.1, if_pos hra, if_neg (by rw [hrb]; simp)]
      subst hzf
      go_wp2_with fail
      refine H1.out.2.mono ?_
      rintro r w2 ⟨rfl, hm⟩
      have H2 := Lib.hid (tr0 H1.out.1 hm); clear hm
      go_wp2_with fail
      go_ret2
      exact ⟨none, 0, rfl, OwnN.nil _ _, H2.out⟩
    | true =>
      rw [hrb] at rb
      have hza := H0.out.2.2.1
      rw [if_pos hra, if_pos hrb] at hza
      have H1 := Lib.hid (And.intro hm (And.intro rb hza)); clear hm rb hza hra hrb
      go_wp2_with fail
      refine H1.out.2.1.mono ?_
      rintro r w2 ⟨rfl, hm⟩
      have hm2 := tr0 H1.out.1 hm
      have hmW := hm2.alloc (.cells #[.string ⟨s.toArray⟩] 9)
      have hu := unionO_any A l.length c _ 1 1 l [s] _ _ (w2.alloc (.cells #[.string ⟨s.toArray⟩] 9)) (H0.out.2.1 _ hmW) (one_row w2 s H0.out.2.2.2) (H0.out.1.mod0 hmW)
      rw [← H1.out.2.2] at hu
      have H2 := Lib.hid (And.intro hmW hu); clear hm hm2 hmW hu
      go_wp2_with fail
      refine H2.out.2.mono ?_
      rintro r w3 ⟨A3, c3, rfl, ho3, hm3⟩
      have H3 := Lib.hid (And.intro (tr0 H2.out.1 hm3) (OwnN.le ho3 H2.out.1.size)); clear ho3 hm3
      go_wp2_with fail
      go_ret2
      exact ⟨A3, c3, rfl, H3.out.2, H3.out.1⟩
end Go.Proofs.YthhepnaanjicjaaGreatDoor

/- Rows of names: what is moved up while a closure deletes; where a closure first says yes. -/
namespace Go.Proofs.YthhepnaanjicjaaGreatDoor
open Go.RowKit Go.Shelf
set_option linter.unusedVariables false
def idxP (p : Nm → Bool) (l : List Nm) : Int := match l.findIdx? p with
  | none => -1
  | some i => i
theorem idxP_at {p : Nm → Bool} {l : List Nm} {i : Nat} {x : Nm} (hx : l[i]? = some x) (hb : p x = true) (hno : ∀ y ∈ l.take i, p y = false) : idxP p l = i := by
  have hlt := (List.getElem?_eq_some_iff.1 hx).1
  have : l.findIdx? p = some i := by
    rw [List.findIdx?_eq_some_iff_getElem]
    refine ⟨hlt, ?_, fun j hj => ?_⟩
    · rw [List.getElem?_eq_getElem hlt] at hx
      rw [Option.some.inj hx, hb]
    · have := hno l[j] (by rw [List.mem_take_iff_getElem]; exact ⟨j, by omega, rfl⟩)
      rw [this]; simp
  unfold idxP
  rw [this]
theorem idxP_none {p : Nm → Bool} {l : List Nm} (h : ∀ x ∈ l, p x = false) : idxP p l = -1 := by
  have : l.findIdx? p = none := by rw [List.findIdx?_eq_none_iff]; exact h
  unfold idxP
  rw [this]
theorem idxP_any (p : Nm → Bool) (l : List Nm) : decide (0 ≤ idxP p l) = l.any p := by
  unfold idxP
  cases h : l.findIdx? p with
  | none =>
    have := List.findIdx?_eq_none_iff.1 h
    symm
    simpa using this
  | some i =>
    obtain ⟨h1, h2, _⟩ := List.findIdx?_eq_some_iff_getElem.1 h
    have : l.any p = true := List.any_eq_true.2 ⟨_, List.getElem_mem h1, h2⟩
    rw [this]; simp
def keptQ (q : Nm → Bool) (l : List Nm) (j : Nat) : List Nm := (l.take j).filter q
theorem keptQ_succ {q : Nm → Bool} {l : List Nm} {j : Nat} {x : Nm} (h : l[j]? = some x) : keptQ q l (j + 1) = keptQ q l j ++ if q x then [x] else [] := by
  unfold keptQ
  rw [List.take_add_one, h, List.filter_append]
  cases hx : q x <;> simp [hx]
/-- The row while what is kept is moved up: i are kept, j are looked at. -/
structure DQ (q : Nm → Bool) (w0 : World) (g : Nat) (l : List Nm) (tail : List Value) (i j : Nat) (row mid : List Value) (w : World) : Prop where
  blk : w.heap[g]? = some (.cells row.toArray 9 (0, 0))
  mod : Mod (fun k => k = g) w0 w
  row : row = scells (keptQ q l j) ++ mid ++ scells (l.drop j) ++ tail
  num : (keptQ q l j).length = i
  mid : i + mid.length = j
section
variable {q : Nm → Bool} {w0 w w1 : World} {g : Nat} {l : List Nm} {tail row mid : List Value} {i j : Nat}
theorem DQ.cell (h : DQ q w0 g l tail i j row mid w) {x : Nm} (hx : l[j]? = some x) : w.cell? ⟨g, j, none⟩ = some (encS x) := by
  rw [Lib.cell_of_heap h.blk, List.getElem?_toArray, h.row]
  have hlt := (List.getElem?_eq_some_iff.1 hx).1
  have hl : (scells (keptQ q l j) ++ mid).length = j := by rw [List.length_append, scells_len, h.num, h.mid]
  rw [List.append_assoc, List.getElem?_append_right (by omega), hl, Nat.sub_self, List.drop_eq_getElem_cons hlt]
  simp [scells, (List.getElem?_eq_some_iff.1 hx).2]
theorem DQ.len (h : DQ q w0 g l tail i j row mid w) (hj : j ≤ l.length) : row.length = (scells l ++ tail).length := by
  have h1 := h.num; have h2 := h.mid
  rw [h.row]
  simp only [List.length_append, scells_len, List.length_drop]
  omega
theorem DQ.skip (h : DQ q w0 g l tail i j row mid w) (hm : Mod (fun _ => False) w w1) {x : Nm} (hx : l[j]? = some x) (hr : q x = false) : DQ q w0 g l tail i (j + 1) row (mid ++ [encS x]) w1 := by
  have hlt := (List.getElem?_eq_some_iff.1 hx).1
  have hk : keptQ q l (j + 1) = keptQ q l j := by rw [keptQ_succ hx, hr]; simp
  refine ⟨(hm.block g (Array.getElem?_eq_some_iff.1 h.blk).1 id).trans h.blk, tr0 h.mod hm, ?_, by rw [hk]; exact h.num, by have := h.mid; simp; omega⟩
  rw [hk, h.row, List.drop_eq_getElem_cons hlt, (List.getElem?_eq_some_iff.1 hx).2]
  simp [scells]
theorem DQ.keep (h : DQ q w0 g l tail i j row mid w) (hm : Mod (fun _ => False) w w1) {x : Nm} (hx : l[j]? = some x) (hr : q x = true) (hij : i < j) :
    DQ q w0 g l tail (i + 1) (j + 1) (row.set i (encS x)) (mid.tail ++ [encS x]) (w1.setCell ⟨g, i, none⟩ (encS x)) := by
  have hlt := (List.getElem?_eq_some_iff.1 hx).1
  have hk : keptQ q l (j + 1) = keptQ q l j ++ [x] := by rw [keptQ_succ hx, hr]; simp
  have hb1 := (hm.block g (Array.getElem?_eq_some_iff.1 h.blk).1 id).trans h.blk
  have hmid := h.mid
  cases hmd : mid with
  | nil => rw [hmd] at hmid; simp at hmid; omega
  | cons m mid' =>
    refine ⟨setCell_row hb1 i _, (tr0 h.mod hm).setCell (.inl rfl) _, ?_, by rw [hk, List.length_append, h.num]; rfl, by rw [hmd] at hmid; simp at hmid ⊢; omega⟩
    have hs : (scells (keptQ q l j)).length = i := by rw [scells_len, h.num]
    rw [hk, h.row, hmd, List.drop_eq_getElem_cons hlt, (List.getElem?_eq_some_iff.1 hx).2, List.append_assoc, List.append_assoc, List.set_append_right _ _ (by omega), hs, Nat.sub_self]
    simp [scells]
end
theorem own_blkN {w : World} {base : Nat} {A : Option Addr} {c : Nat} {l : List Nm} (h : OwnN w base (.slice A l.length c) l) {i : Nat} (hi : i < l.length) :
    ∃ g tail, A = some ⟨g, 0, none⟩ ∧ base ≤ g ∧ w.heap[g]? = some (.cells (scells l ++ tail).toArray 9 (0, 0)) ∧ (scells l ++ tail).length = c ∧ l.length ≤ c ∧ c ≤ maxLen := by
  obtain ⟨h1, h2⟩ := h
  rcases h2 with ⟨_, h2⟩ | ⟨g, cap, cur, hv, hg, hh, r1, r2, r3, r4⟩
  · omega
  · simp only [Value.slice.injEq] at hv
    obtain ⟨hA, _, rfl⟩ := hv
    refine ⟨g, cur.toList.drop (l.length * 1), hA, hg, ?_, ?_, r1, r2⟩
    · rw [← r4, List.take_append_drop]
      simpa using hh
    · rw [← r4, List.take_append_drop]
      simpa using r3
theorem own_mkN {w : World} {base g c : Nat} {l : List Nm} {tail : List Value} (hb : base ≤ g) (hg : w.heap[g]? = some (.cells (scells l ++ tail).toArray 9 (0, 0))) (hl : (scells l ++ tail).length = c) (hc : c ≤ maxLen) : OwnN w base (.slice (some ⟨g, 0, none⟩) l.length c) l := by
  refine ⟨by rw [scells_len]; simp, .inr ⟨g, c, _, rfl, hb, hg, ?_, hc, by simpa using hl, ?_⟩⟩
  · rw [List.length_append, scells_len] at hl; omega
  · rw [Nat.mul_one]
    have := scells_len l
    rw [List.toList_toArray, List.take_append_of_le_length (by omega), List.take_of_length_le (by omega)]
end Go.Proofs.YthhepnaanjicjaaGreatDoor

/- Rows of names: slices.IndexFunc, DeleteFunc by one closure. -/
namespace Go.Proofs.YthhepnaanjicjaaGreatDoor
open Go.RowKit Go.Shelf
set_option linter.unusedVariables false
set_option maxRecDepth 100000 in
set_option maxHeartbeats 1000000 in
theorem indexD_any (A : Option Addr) (n c : Nat) (l : List Nm) (g : Nat) (p : Nm → Bool) (ok : Nat → Prop) (w : World) (h : nmsR.rel w ok [.slice A n c] l)
    (hp : ∀ W, Mod (fun _ => False) w W → ∀ x ∈ l, Calls Tryz.prog 62 #[.string ⟨x.toArray⟩, .pointer (some ⟨g, 0, none⟩)] W fun r W' => r = .returned (.bool (p x)) ∧ Mod (fun _ => False) W W') :
    Calls Tryz.prog 101 #[.slice A n c, .func (.func 62) #[] #[.pointer (some ⟨g, 0, none⟩)]] w fun r w' => r = .returned (.int .i64 (idxP p l)) ∧ Mod (fun _ => False) w w' := by
  obtain ⟨rfl, hcap, hbig, -, hrow⟩ := nms_row h
  obtain ⟨z, hz⟩ : ∃ z, z = idxP p l := ⟨_, rfl⟩
  rw [← hz]
  have H0 := Lib.hid (And.intro hrow (And.intro hp hz)); clear hrow hp hz h
  go_enter Tryz.func101, Tryz.ntmps101
  go_wp2_with fail
  go_loopg [8] l.length (fun f si wr => ∃ i : Nat, si = .int .i64 i ∧ i + f = l.length ∧ (∀ x ∈ l.take i, p x = false) ∧ Mod (fun _ => False) w wr)
  case atStart => exact ⟨0, rfl, by omega, by simp, .refl _ _⟩
  case round =>
    obtain ⟨i, rfl, hi, hno, hmod⟩ := hrel
    by_cases hlt : i < l.length
    · obtain ⟨x, hx⟩ : ∃ x, l[i]? = some x := ⟨_, List.getElem?_eq_getElem hlt⟩
      obtain ⟨ad, rfl, -, hc, -⟩ := H0.out.1 i x hx
      have hc := (hmod.cell (lt_of_cell hc) id).trans hc
      have hpx := H0.out.2.1 wr hmod x (List.mem_of_getElem? hx)
      have HX := Lib.hid (And.intro hi (And.intro hno (And.intro hmod (And.intro hx hpx)))); clear hi hno hmod hx hpx
      go_wp2_with fail
      refine HX.out.2.2.2.2.mono ?_
      rintro r w1 ⟨rfl, hm⟩
      have HM := Lib.hid (tr0 HX.out.2.2.1 hm); clear hm
      cases hb : p x with
      | false =>
        go_wp2_with fail
        go_roundg (gk - 1)
        case measure => have := HX.out.1; omega
        case rel =>
          refine ⟨i + 1, by go_num, by have := HX.out.1; omega, ?_, HM.out⟩
          rw [List.take_add_one, HX.out.2.2.2.1]
          intro y hy
          rcases List.mem_append.1 hy with hy | hy
          · exact HX.out.2.1 y hy
          · simp at hy; rw [hy]; exact hb
      | true =>
        go_wp2_with fail
        go_ret
        refine ⟨?_, HM.out⟩
        rw [H0.out.2.2, idxP_at HX.out.2.2.2.1 hb HX.out.2.1]
        rfl
    · have hie : l.take i = l := List.take_of_length_le (by omega)
      rw [hie] at hno
      have HX := Lib.hid (And.intro hno hmod); clear hno hmod hi hie
      go_wp2_with fail
      go_ret
      exact ⟨by rw [H0.out.2.2, idxP_none HX.out.1]; rfl, HX.out.2⟩
set_option maxRecDepth 100000 in
set_option maxHeartbeats 2000000 in
theorem deleteD_any (base : Nat) (v : Value) (l : List Nm) (g : Nat) (q : Nm → Bool) (w : World) (ho : OwnN w base v l) (hlx : ∀ x ∈ l, x.length ≤ 140737488355328) (hln : l.length ≤ 8796093022208)
    (hp : ∀ W, Mod (fun k => v.ownBlock = some k) w W → ∀ x ∈ l, Calls Tryz.prog 62 #[.string ⟨x.toArray⟩, .pointer (some ⟨g, 0, none⟩)] W fun r W' => r = .returned (.bool (!q x)) ∧ Mod (fun _ => False) W W') :
    Calls Tryz.prog 60 #[v, .func (.func 62) #[] #[.pointer (some ⟨g, 0, none⟩)]] w fun r w' => ∃ v', r = .returned v' ∧ OwnN w' base v' (l.filter q) ∧ v'.ownBlock = v.ownBlock ∧ Mod (fun k => v.ownBlock = some k) w w' := by
  obtain ⟨A, c, rfl⟩ := own_slice ho
  have hrd := OwnN.reads ho hlx hln
  have hidx := indexD_any A l.length c l g (fun x => !q x) _ w hrd (fun W hW => hp W (hW.mono fun k h => h.elim))
  cases hf : l.findIdx? (fun x => !q x) with
  | none =>
    have hid1 : idxP (fun x => !q x) l = -1 := by unfold idxP; rw [hf]
    rw [hid1] at hidx
    have hall : l.filter q = l := by
      rw [List.filter_eq_self]
      intro x hx
      have := (List.findIdx?_eq_none_iff.1 hf) x hx
      simpa using this
    rw [hall]
    have HG := Lib.hid (And.intro ho hidx); clear ho hidx hrd hf hall hid1 hp hlx
    go_enter Tryz.func60, Tryz.ntmps60
    go_wp2_with fail
    refine HG.out.2.mono ?_
    rintro r w1 ⟨rfl, hm⟩
    have HM := Lib.hid hm; clear hm
    go_wp2_with fail
    go_ret
    exact ⟨_, rfl, OwnN.mod HG.out.1 HM.out (fun _ _ => id), rfl, HM.out.mono (fun k h => h.elim)⟩
  | some i0 =>
    have hid1 : idxP (fun x => !q x) l = i0 := by unfold idxP; rw [hf]
    rw [hid1] at hidx
    rw [List.findIdx?_eq_some_iff_getElem] at hf
    obtain ⟨hi0, hb0, hpre⟩ := hf
    obtain ⟨g1, tail, rfl, hbg, hg, htl, hcap⟩ := own_blkN ho hi0
    have hk0 : keptQ q l (i0 + 1) = l.take i0 := by
      rw [keptQ_succ (List.getElem?_eq_getElem hi0)]
      have : q l[i0] = false := by simpa using hb0
      rw [this]
      simp only [Bool.false_eq_true, if_false, List.append_nil]
      unfold keptQ
      rw [List.filter_eq_self]
      intro x hx
      obtain ⟨j, hj, rfl⟩ := List.mem_take_iff_getElem.1 hx
      have := hpre j (by omega)
      simpa using this
    have hD0 : ∀ w1, Mod (fun _ => False) w w1 → DQ q w g1 l tail i0 (i0 + 1) (scells l ++ tail) [encS l[i0]] w1 := fun w1 hm =>
      ⟨(hm.block g1 (Array.getElem?_eq_some_iff.1 hg).1 id).trans hg, hm.mono (fun k h => h.elim), by
        rw [hk0]
        congr 1
        rw [List.append_assoc]
        show scells l = scells (l.take i0) ++ ([encS l[i0]] ++ scells (l.drop (i0 + 1)))
        have : l = l.take i0 ++ (l[i0] :: l.drop (i0 + 1)) := by rw [← List.drop_eq_getElem_cons hi0, List.take_append_drop]
        conv => lhs; rw [this, scells_app]
        rfl, by rw [hk0, List.length_take]; omega, by simp⟩
    have hp1 : ∀ W, Mod (fun k => k = g1) w W → ∀ x ∈ l, Calls Tryz.prog 62 #[.string ⟨x.toArray⟩, .pointer (some ⟨g, 0, none⟩)] W fun r W' => r = .returned (.bool (!q x)) ∧ Mod (fun _ => False) W W' := fun W hW => hp W (hW.mono fun k h => by rw [h]; rfl)
    have HD := Lib.hid (And.intro hD0 (And.intro hp1 (And.intro hlx (And.intro hidx (And.intro hbg (And.intro htl hcap)))))); clear hD0 hp1 hp hlx hidx hbg htl hcap hrd hb0 hpre hk0 hg ho hid1
    go_enter Tryz.func60, Tryz.ntmps60
    go_wp2_with fail
    refine HD.out.2.2.2.1.mono ?_
    rintro r w1 ⟨rfl, hm⟩
    have HM := Lib.hid (HD.out.1 w1 hm); clear hm
    have hne : ((i0 : Int) == -1) = false := by simp
    go_wp2_with fail
    clear hne
    go_loopg [5, 6] (l.length - (i0 + 1)) (fun f si sj wr => ∃ (i j : Nat) (row mid : List Value), si = .int .i64 i ∧ sj = .int .i64 j ∧ j + f = l.length ∧ i < j ∧ DQ q w g1 l tail i j row mid wr)
    case atStart => exact ⟨i0, i0 + 1, _, _, rfl, by go_num, by omega, by omega, HM.out⟩
    case round =>
      obtain ⟨i, j, row, mid, rfl, rfl, hf, hij, hd⟩ := hrel
      by_cases hlt : j < l.length
      · obtain ⟨x, hx⟩ : ∃ x, l[j]? = some x := ⟨l[j], by simp [hlt]⟩
        have hcx : wr.cell? ⟨g1, j, none⟩ = some (.string ⟨x.toArray⟩) := hd.cell hx
        have hpx := HD.out.2.1 wr hd.mod x (List.mem_of_getElem? hx)
        have HX := Lib.hid (And.intro hf (And.intro hij (And.intro hd (And.intro hx hpx)))); clear hf hij hd hx hpx
        go_wp2_with fail
        refine HX.out.2.2.2.2.mono ?_
        rintro r w2 ⟨rfl, hm⟩
        cases hb : q x with
        | true =>
          have hil : i < l.length := by have := HX.out.2.1; omega
          have HK := HX.out.2.2.1.keep hm HX.out.2.2.2.1 hb HX.out.2.1
          have hblk := (hm.block g1 (Array.getElem?_eq_some_iff.1 HX.out.2.2.1.blk).1 id).trans HX.out.2.2.1.blk
          have hrl : row.length = (scells l ++ tail).length := HX.out.2.2.1.len (by omega)
          have hci : ∃ u, w2.cell? ⟨g1, i, none⟩ = some u := by
            rw [Lib.cell_of_heap hblk, List.getElem?_toArray]
            exact ⟨_, List.getElem?_eq_getElem (by rw [hrl, List.length_append, scells_len]; omega)⟩
          obtain ⟨u0, hci⟩ := hci
          have hfi : w2.frozen? ⟨g1, i, none⟩ = false := Lib.frozen_of_heap hblk i
          have HH := Lib.hid (And.intro HK hm); clear HK hm hblk hrl
          go_wp2_with fail
          go_roundg (gk - 1)
          case measure => have := HX.out.1; omega
          case rel => exact ⟨i + 1, j + 1, _, _, by go_num, by go_num, by have := HX.out.1; omega, by have := HX.out.2.1; omega, HH.out.1⟩
        | false =>
          have HK := Lib.hid (HX.out.2.2.1.skip hm HX.out.2.2.2.1 hb); clear hm
          go_wp2_with fail
          go_roundg (gk - 1)
          case measure => have := HX.out.1; omega
          case rel => exact ⟨i, j + 1, _, _, rfl, by go_num, by have := HX.out.1; omega, by have := HX.out.2.1; omega, HK.out⟩
      · have hjl : j = l.length := by omega
        have hkl : keptQ q l j = l.filter q := by unfold keptQ; rw [List.take_of_length_le (by omega)]
        have hrl := hd.len (by omega)
        have hil : (l.filter q).length = i := by rw [← hkl]; exact hd.num
        have HX := Lib.hid (And.intro hij (And.intro hd (And.intro hkl (And.intro hrl hil)))); clear hij hd hkl hrl hil hf
        have hij2 : i < l.length := by have := HX.out.1; omega
        have HJ := Lib.hid hjl; clear hjl
        have hlc := HD.out.2.2.2.2.2.2.1
        have hcm := HD.out.2.2.2.2.2.2.2
        unfold maxLen at hcm
        go_wp2_with (refine wpList_clear_one rfl _ 24 rfl 9 (.string ⟨#[]⟩) Tryz.underlying24 (by kernel_rfl) rfl rfl g1 i (l.length - i) (c - i) rfl row 9 HX.out.2.1.blk ?hfit ?_)
        case hfit => rw [HX.out.2.2.2.1, HD.out.2.2.2.2.2.1]; omega
        intro w4 zs hzs hw4 hm4
        have H4 := Lib.hid (And.intro hw4 (And.intro (HX.out.2.1.mod.trans hm4 (fun k hk => .inl hk)) hzs)); clear hw4 hm4 hzs
        go_wp2_with fail
        go_ret
        obtain ⟨hij, hd, hkl, hrl, hil⟩ := HX.out
        have htk : row.take i = scells (l.filter q) := by
          have h1 : row = scells (l.filter q) ++ (mid ++ scells (l.drop j) ++ tail) := by rw [hd.row, hkl]; simp
          rw [h1, List.take_left' (by rw [scells_len, hil])]
        have hlaid : laid row i zs = scells (l.filter q) ++ (zs ++ row.drop (i + zs.length)) := by unfold laid; rw [htk, List.append_assoc]
        have h4 := H4.out.1
        rw [hlaid] at h4
        have hlen : (scells (l.filter q) ++ (zs ++ row.drop (i + zs.length))).length = c := by
          rw [← HD.out.2.2.2.2.2.1, ← hrl, List.length_append, List.length_append, scells_len, hil, List.length_drop, H4.out.2.2, hrl, List.length_append, scells_len]
          omega
        have hown := own_mkN HD.out.2.2.2.2.1 h4 hlen HD.out.2.2.2.2.2.2.2
        rw [hil] at hown
        exact ⟨_, rfl, hown, rfl, H4.out.2.1.mono (fun k hk => by rw [hk]; rfl)⟩
end Go.Proofs.YthhepnaanjicjaaGreatDoor

/- Rows of names: slices.IndexFunc, ContainsFunc by one closure. -/
namespace Go.Proofs.YthhepnaanjicjaaGreatDoor
open Go.RowKit Go.Shelf
set_option linter.unusedVariables false
set_option maxRecDepth 100000 in
set_option maxHeartbeats 1000000 in
theorem indexW_any (A : Option Addr) (n c : Nat) (l : List Nm) (g : Nat) (p : Nm → Bool) (ok : Nat → Prop) (w : World) (h : nmsR.rel w ok [.slice A n c] l)
    (hp : ∀ W, Mod (fun _ => False) w W → ∀ x ∈ l, Calls Tryz.prog 65 #[.string ⟨x.toArray⟩, .pointer (some ⟨g, 0, none⟩)] W fun r W' => r = .returned (.bool (p x)) ∧ Mod (fun _ => False) W W') :
    Calls Tryz.prog 101 #[.slice A n c, .func (.func 65) #[] #[.pointer (some ⟨g, 0, none⟩)]] w fun r w' => r = .returned (.int .i64 (idxP p l)) ∧ Mod (fun _ => False) w w' := by
  obtain ⟨rfl, hcap, hbig, -, hrow⟩ := nms_row h
  obtain ⟨z, hz⟩ : ∃ z, z = idxP p l := ⟨_, rfl⟩
  rw [← hz]
  have H0 := Lib.hid (And.intro hrow (And.intro hp hz)); clear hrow hp hz h
  go_enter Tryz.func101, Tryz.ntmps101
  go_wp2_with fail
  go_loopg [8] l.length (fun f si wr => ∃ i : Nat, si = .int .i64 i ∧ i + f = l.length ∧ (∀ x ∈ l.take i, p x = false) ∧ Mod (fun _ => False) w wr)
  case atStart => exact ⟨0, rfl, by omega, by simp, .refl _ _⟩
  case round =>
    obtain ⟨i, rfl, hi, hno, hmod⟩ := hrel
    by_cases hlt : i < l.length
    · obtain ⟨x, hx⟩ : ∃ x, l[i]? = some x := ⟨_, List.getElem?_eq_getElem hlt⟩
      obtain ⟨ad, rfl, -, hc, -⟩ := H0.out.1 i x hx
      have hc := (hmod.cell (lt_of_cell hc) id).trans hc
      have hpx := H0.out.2.1 wr hmod x (List.mem_of_getElem? hx)
      have HX := Lib.hid (And.intro hi (And.intro hno (And.intro hmod (And.intro hx hpx)))); clear hi hno hmod hx hpx
      go_wp2_with fail
      refine HX.out.2.2.2.2.mono ?_
      rintro r w1 ⟨rfl, hm⟩
      have HM := Lib.hid (tr0 HX.out.2.2.1 hm); clear hm
      cases hb : p x with
      | false =>
        go_wp2_with fail
        go_roundg (gk - 1)
        case measure => have := HX.out.1; omega
        case rel =>
          refine ⟨i + 1, by go_num, by have := HX.out.1; omega, ?_, HM.out⟩
          rw [List.take_add_one, HX.out.2.2.2.1]
          intro y hy
          rcases List.mem_append.1 hy with hy | hy
          · exact HX.out.2.1 y hy
          · simp at hy; rw [hy]; exact hb
      | true =>
        go_wp2_with fail
        go_ret
        refine ⟨?_, HM.out⟩
        rw [H0.out.2.2, idxP_at HX.out.2.2.2.1 hb HX.out.2.1]
        rfl
    · have hie : l.take i = l := List.take_of_length_le (by omega)
      rw [hie] at hno
      have HX := Lib.hid (And.intro hno hmod); clear hno hmod hi hie
      go_wp2_with fail
      go_ret
      exact ⟨by rw [H0.out.2.2, idxP_none HX.out.1]; rfl, HX.out.2⟩
set_option maxRecDepth 100000 in
theorem containsW_any (A : Option Addr) (n c : Nat) (l : List Nm) (g : Nat) (p : Nm → Bool) (ok : Nat → Prop) (w : World) (h : nmsR.rel w ok [.slice A n c] l)
    (hp : ∀ W, Mod (fun _ => False) w W → ∀ x ∈ l, Calls Tryz.prog 65 #[.string ⟨x.toArray⟩, .pointer (some ⟨g, 0, none⟩)] W fun r W' => r = .returned (.bool (p x)) ∧ Mod (fun _ => False) W W') :
    Calls Tryz.prog 64 #[.slice A n c, .func (.func 65) #[] #[.pointer (some ⟨g, 0, none⟩)]] w fun r w' => r = .returned (.bool (l.any p)) ∧ Mod (fun _ => False) w w' := by
  have hi := indexW_any A n c l g p ok w h hp
  rw [← idxP_any]
  obtain ⟨z, hz⟩ : ∃ z, z = idxP p l := ⟨_, rfl⟩
  rw [← hz] at hi ⊢
  have H0 := Lib.hid hi; clear h hi hz hp
  go_enter Tryz.func64, Tryz.ntmps64
  go_wp2_with fail
  refine H0.out.mono ?_
  rintro r w1 ⟨rfl, hm⟩
  have H := Lib.hid hm; clear hm
  go_wp2_with fail
  go_ret
  exact ⟨rfl, H.out⟩
end Go.Proofs.YthhepnaanjicjaaGreatDoor

/- Layer 7, owns: Drop, Within, Put. -/
namespace Go.Proofs.YthhepnaanjicjaaGreatDoor
open Go.RowKit Go.Shelf
set_option linter.unusedVariables false
theorem box1_cell (w : World) (v : Value) (T : TypeId) : (w.alloc (.cells #[v] T)).cell? ⟨w.heap.size, 0, none⟩ = some v := by
  rw [Lib.cell_of_heap (World.alloc_heap_new w _)]; rfl
theorem cloneN_any (A : Option Addr) (n c : Nat) (l : List Nm) (ok : Nat → Prop) (w : World) (h : nmsR.rel w ok [.slice A n c] l) :
    Calls Tryz.prog 61 #[.slice A n c] w fun r w' => ∃ A' c', r = .returned (.slice A' l.length c') ∧ OwnN w' w.heap.size (.slice A' l.length c') l ∧ Mod (fun _ => False) w w' := by
  have hn := nms_row h
  have := clone_rd A n c (l.map mkStr) ok w h (by rw [List.length_map]; omega)
  rw [map_back, List.length_map] at this
  refine this.mono ?_
  rintro r w' ⟨v, rfl, ho, hm⟩
  obtain ⟨A', c', rfl⟩ := own_slice ho
  exact ⟨A', c', rfl, ho, hm⟩
set_option maxRecDepth 100000 in
theorem dropC_any (x s : Nm) (g : Nat) (w : World) (hg : w.cell? ⟨g, 0, none⟩ = some (.string ⟨s.toArray⟩)) :
    Calls Tryz.prog 62 #[.string ⟨x.toArray⟩, .pointer (some ⟨g, 0, none⟩)] w fun r w' => r = .returned (.bool (x == s)) ∧ Mod (fun _ => False) w w' := by
  go_enter Tryz.func62, Tryz.ntmps62
  go_wp2_with fail
  go_ret
  exact ⟨rfl, .refl _ _⟩
set_option maxRecDepth 100000 in
theorem withinC_any (x : Nm) (A : Option Addr) (n c : Nat) (b : List Nm) (g : Nat) (ok : Nat → Prop) (w : World) (hg : w.cell? ⟨g, 0, none⟩ = some (.slice A n c)) (h : nmsR.rel w ok [.slice A n c] b) :
    Calls Tryz.prog 65 #[.string ⟨x.toArray⟩, .pointer (some ⟨g, 0, none⟩)] w fun r w' => r = .returned (.bool (!b.contains x)) ∧ Mod (fun _ => False) w w' := by
  have hh := hasO_any A n c b x ok w h
  obtain ⟨z, hz⟩ : ∃ z, z = b.contains x := ⟨_, rfl⟩
  rw [← hz] at hh ⊢
  have H0 := Lib.hid hh; clear hh hz h
  go_enter Tryz.func65, Tryz.ntmps65
  go_wp2_with fail
  refine H0.out.mono ?_
  rintro r w1 ⟨rfl, hm⟩
  have H := Lib.hid hm; clear hm hg
  go_wp2_with fail
  go_ret
  exact ⟨rfl, H.out⟩
set_option maxRecDepth 100000 in
set_option maxHeartbeats 2000000 in
theorem dropO_any (A : Option Addr) (n c : Nat) (l : List Nm) (s : Nm) (ok : Nat → Prop) (w : World) (h : nmsR.rel w ok [.slice A n c] l) (hs : s.length ≤ 140737488355328) (E : Env w) :
    Calls Tryz.prog 19 #[.slice A n c, .string ⟨s.toArray⟩] w fun r w' => ∃ A' c', r = .returned (.tuple #[.slice A' (dropO l s).1.length c', .int .i64 (dropO l s).2]) ∧ OwnN w' w.heap.size (.slice A' (dropO l s).1.length c') (dropO l s).1 ∧ Mod (fun _ => False) w w' := by
  obtain ⟨rfl, -⟩ := nms_row h
  have RA := fun W (hW : Mod (fun _ => False) w W) => Rd.mod h hW (fun _ _ => id)
  obtain ⟨z, hz⟩ : ∃ z, z = dropO l s := ⟨_, rfl⟩
  rw [← hz]
  unfold dropO at hz
  obtain ⟨W1, hW1⟩ : ∃ W1, W1 = w.alloc (.cells #[.string ⟨s.toArray⟩] 9) := ⟨_, rfl⟩
  have hmW : Mod (fun _ => False) w W1 := by rw [hW1]; exact (Mod.refl _ _).alloc _
  have k0 := box1_cell w (.string ⟨s.toArray⟩) 9
  rw [← hW1] at k0
  have kW := fun W (hW : Mod (fun _ => False) W1 W) => (hW.cell (lt_of_cell k0) id).trans k0
  have EW := fun W (hW : Mod (fun _ => False) W1 W) => E.mod0 (tr0 hmW hW)
  have RW := fun W (hW : Mod (fun _ => False) W1 W) => RA W (tr0 hmW hW)
  have HG := Lib.hid hW1.symm
  have hle := nms_le h
  have H0 := Lib.hid (And.intro EW (And.intro RW (And.intro hz (And.intro hs (And.intro hmW (And.intro kW hle)))))); clear E EW RW h RA hz hs hmW k0 hle hW1
  go_enter Tryz.func19, Tryz.ntmps19
  go_wp2_with fail
  rw [HG.out]
  obtain ⟨g, hg⟩ : ∃ g, g = w.heap.size := ⟨_, rfl⟩
  rw [← hg] at kW ⊢
  have HM := Lib.hid (Mod.refl (fun _ => False) W1)
  have hzz := H0.out.2.2.1
  have ra := rightO_any A l.length c l _ W1 (H0.out.2.1 _ HM.out) (H0.out.1 _ HM.out)
  have HK := Lib.hid (And.intro kW hg); clear kW HG hg
  cases hra : rightO l with
  | false =>
    rw [hra] at ra
    rw [if_neg (by rw [hra]; simp)] at hzz
    subst hzz
    have HR := Lib.hid ra; clear ra hra
    refine HR.out.mono ?_
    rintro r w1 ⟨rfl, hm⟩
    have H1 := Lib.hid (tr0 H0.out.2.2.2.2.1 hm); clear hm
    go_wp2_with fail
    go_ret2
    exact ⟨none, 0, rfl, OwnN.nil _ _, H1.out⟩
  | true =>
    rw [hra] at ra
    rw [if_pos hra] at hzz
    have HR := Lib.hid ra; clear ra
    have h8 := (rightO_iff.1 hra).len
    clear hra
    refine HR.out.mono ?_
    rintro r w1 ⟨rfl, hm⟩
    have rb := right_any s H0.out.2.2.2.1 w1 (H0.out.1 w1 hm)
    have k1 := HK.out.1 w1 hm
    cases hrb : rightB s with
    | false =>
      rw [hrb] at rb
      rw [if_neg (by rw [hrb]; simp)] at hzz
      subst hzz
      have H1 := Lib.hid (And.intro hm rb); clear hm rb hrb
      go_wp2_with fail
      refine H1.out.2.mono ?_
      rintro r w2 ⟨rfl, hm⟩
      have H2 := Lib.hid (tr0 H0.out.2.2.2.2.1 (tr0 H1.out.1 hm)); clear hm
      go_wp2_with fail
      go_ret2
      exact ⟨none, 0, rfl, OwnN.nil _ _, H2.out⟩
    | true =>
      rw [hrb] at rb
      rw [if_pos hrb] at hzz
      have H1 := Lib.hid (And.intro hm rb); clear hm rb hrb
      go_wp2_with fail
      refine H1.out.2.mono ?_
      rintro r w2 ⟨rfl, hm⟩
      have hm2 := tr0 H1.out.1 hm
      have k2 := HK.out.1 w2 hm2
      have hh := hasO_any A l.length c l s _ w2 (H0.out.2.1 w2 hm2)
      clear k1
      cases hb : l.contains s with
      | false =>
        rw [hb] at hh
        rw [if_neg (by rw [hb]; simp)] at hzz
        subst hzz
        have H2 := Lib.hid (And.intro hm2 hh); clear hm hm2 hh hb
        go_wp2_with fail
        refine H2.out.2.mono ?_
        rintro r w3 ⟨rfl, hm⟩
        have H3 := Lib.hid (tr0 H0.out.2.2.2.2.1 (tr0 H2.out.1 hm)); clear hm
        go_wp2_with fail
        go_ret2
        exact ⟨none, 0, rfl, OwnN.nil _ _, H3.out⟩
      | true =>
        rw [hb] at hh
        rw [if_pos hb] at hzz
        have H2 := Lib.hid (And.intro hm2 (And.intro hh hzz)); clear hm hm2 hh hb hzz
        go_wp2_with fail
        refine H2.out.2.1.mono ?_
        rintro r w3 ⟨rfl, hm⟩
        have hm3 := tr0 H2.out.1 hm
        have hcl := cloneN_any A l.length c l _ w3 (H0.out.2.1 w3 hm3)
        have H3 := Lib.hid (And.intro hm3 hcl); clear hm hm3 hcl k2
        go_wp2_with fail
        refine H3.out.2.mono ?_
        rintro r w4 ⟨A4, c4, rfl, ho4, hm⟩
        have hm4 := tr0 H3.out.1 hm
        have hs4 := H3.out.1.size
        have hgl := lt_of_cell (HK.out.1 W1 (.refl _ _))
        have hde := deleteD_any w3.heap.size (.slice A4 l.length c4) l g (fun x => !(x == s)) w4 ho4 H0.out.2.2.2.2.2.2 (by omega) (fun W hW x _ => by
          have hmW : Mod (fun _ => False) W1 W := hm4.trans hW (fun k hk => .inr (by have := (own_lt ho4 k hk).1; omega))
          have := dropC_any x s g W (HK.out.1 W hmW)
          simpa using this)
        have hmm : ∀ W, Mod (fun k => (Value.slice A4 l.length c4).ownBlock = some k) w4 W → Mod (fun _ => False) w W := fun W hW => (tr0 H0.out.2.2.2.2.1 hm4).trans hW (fun k hk => .inr (by have := (own_lt ho4 k hk).1; have := H0.out.2.2.2.2.1.size; omega))
        have hle : w.heap.size ≤ w3.heap.size := by have := H0.out.2.2.2.2.1.size; omega
        have H4 := Lib.hid (And.intro hde (And.intro hmm hle)); clear hde hmm hm hm4 ho4 hs4 hgl hle
        go_wp2_with fail
        refine H4.out.1.mono ?_
        rintro r w5 ⟨v5, rfl, ho5, -, hm5⟩
        obtain ⟨A5, c5, rfl⟩ := own_slice ho5
        have hown := OwnN.le ho5 H4.out.2.2
        have hmf := H4.out.2.1 w5 hm5
        obtain ⟨y, hy⟩ : ∃ y, y = l.filter (fun x => !(x == s)) := ⟨_, rfl⟩
        have hzy := H2.out.2.2
        rw [← hy] at hown hzy ⊢
        have H5 := Lib.hid (And.intro hown hmf); clear ho5 hm5 hown hmf hy
        subst hzy
        go_wp2_with fail
        go_ret2
        exact ⟨A5, c5, rfl, H5.out.1, H5.out.2⟩
set_option maxRecDepth 100000 in
set_option maxHeartbeats 2000000 in
theorem withinO_any (A : Option Addr) (n c : Nat) (A2 : Option Addr) (n2 c2 : Nat) (a b : List Nm) (ok ok2 : Nat → Prop) (w : World) (h : nmsR.rel w ok [.slice A n c] a) (h2 : nmsR.rel w ok2 [.slice A2 n2 c2] b) (E : Env w) :
    Calls Tryz.prog 21 #[.slice A n c, .slice A2 n2 c2] w fun r w' => r = .returned (.bool (withinO a b)) ∧ Mod (fun _ => False) w w' := by
  obtain ⟨z, hz⟩ : ∃ z, z = withinO a b := ⟨_, rfl⟩
  rw [← hz]
  unfold withinO at hz
  obtain ⟨W1, hW1⟩ : ∃ W1, W1 = w.alloc (.cells #[.slice A2 n2 c2] 24) := ⟨_, rfl⟩
  have hmW : Mod (fun _ => False) w W1 := by rw [hW1]; exact (Mod.refl _ _).alloc _
  have k0 := box1_cell w (.slice A2 n2 c2) 24
  rw [← hW1] at k0
  have kW := fun W (hW : Mod (fun _ => False) W1 W) => (hW.cell (lt_of_cell k0) id).trans k0
  have EW := fun W (hW : Mod (fun _ => False) W1 W) => E.mod0 (tr0 hmW hW)
  have RA := fun W (hW : Mod (fun _ => False) W1 W) => Rd.mod h (tr0 hmW hW) (fun _ _ => id)
  have RB := fun W (hW : Mod (fun _ => False) W1 W) => Rd.mod h2 (tr0 hmW hW) (fun _ _ => id)
  have HG := Lib.hid hW1.symm
  have H0 := Lib.hid (And.intro EW (And.intro RA (And.intro RB (And.intro hz (And.intro hmW kW))))); clear E EW h h2 RA RB hz hmW k0 hW1
  go_enter Tryz.func21, Tryz.ntmps21
  go_wp2_with fail
  rw [HG.out]
  obtain ⟨g, hg⟩ : ∃ g, g = w.heap.size := ⟨_, rfl⟩
  rw [← hg] at kW ⊢
  have ra := rightO_any A n c a _ W1 (H0.out.2.1 _ (.refl _ _)) (H0.out.1 _ (.refl _ _))
  have hzz := H0.out.2.2.2.1
  have HK := Lib.hid kW; clear kW HG hg
  cases hra : rightO a with
  | false =>
    rw [hra] at ra hzz
    simp only [Bool.false_and] at hzz
    subst hzz
    have HR := Lib.hid ra; clear ra hra
    refine HR.out.mono ?_
    rintro r w1 ⟨rfl, hm⟩
    have H1 := Lib.hid (tr0 H0.out.2.2.2.2.1 hm); clear hm
    go_wp2_with fail
    go_ret
    exact ⟨rfl, H1.out⟩
  | true =>
    rw [hra] at ra hzz
    have HR := Lib.hid (And.intro ra hzz); clear ra hra hzz
    refine HR.out.1.mono ?_
    rintro r w1 ⟨rfl, hm⟩
    have k1 := HK.out w1 hm
    have rb := rightO_any A2 n2 c2 b _ w1 (H0.out.2.2.1 w1 hm) (H0.out.1 w1 hm)
    cases hrb : rightO b with
    | false =>
      have hzz := HR.out.2
      rw [hrb] at rb hzz
      simp only [Bool.true_and, Bool.false_and] at hzz
      subst hzz
      have H1 := Lib.hid (And.intro hm rb); clear hm rb hrb
      go_wp2_with fail
      refine H1.out.2.mono ?_
      rintro r w2 ⟨rfl, hm⟩
      have H2 := Lib.hid (tr0 H0.out.2.2.2.2.1 (tr0 H1.out.1 hm)); clear hm
      go_wp2_with fail
      go_ret
      exact ⟨rfl, H2.out⟩
    | true =>
      have hzz := HR.out.2
      rw [hrb] at rb hzz
      simp only [Bool.true_and] at hzz
      have H1 := Lib.hid (And.intro hm (And.intro rb hzz)); clear hm rb hrb hzz
      go_wp2_with fail
      refine H1.out.2.1.mono ?_
      rintro r w2 ⟨rfl, hm⟩
      have hm2 := tr0 H1.out.1 hm
      have hco := containsW_any A n c a g (fun x => !b.contains x) _ w2 (H0.out.2.1 w2 hm2) (fun W hW x _ => withinC_any x A2 n2 c2 b g _ W (HK.out W (tr0 hm2 hW)) (H0.out.2.2.1 W (tr0 hm2 hW)))
      obtain ⟨y, hy⟩ : ∃ y, y = a.any (fun x => !b.contains x) := ⟨_, rfl⟩
      have hzy : z = !y := by
        rw [H1.out.2.2, hy, List.not_any_eq_all_not]
        congr 1
        funext x; simp
      rw [← hy] at hco
      have H2 := Lib.hid (And.intro hm2 (And.intro hco hzy)); clear hm hm2 hco hy hzy k1
      go_wp2_with fail
      refine H2.out.2.1.mono ?_
      rintro r w3 ⟨rfl, hm⟩
      have H3 := Lib.hid (tr0 H0.out.2.2.2.2.1 (tr0 H2.out.1 hm)); clear hm
      go_wp2_with fail
      go_ret
      exact ⟨by rw [H2.out.2.2]; rfl, H3.out⟩
end Go.Proofs.YthhepnaanjicjaaGreatDoor
