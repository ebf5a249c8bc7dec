/- Texts of this claim, joined: Tape0, Tape1, Tape2, LabPut, LabPut0, NumW, RefL1, RefL2, RefL3, RefL4, RefL5, RefL6, RefL7, LabFl, Seg, LabTl, LawLabelTells, CardLabelTells. -/
import Derived.Test.YthhepnaanjicjaaGreatDoorP0
import Derived.Lib.AppendStr
import Derived.Deep.RegionWith
import Derived.Test.YthhepnaanjicjaaGreatDoorP7
import Derived.Test.YthhepnaanjicjaaGreatDoorP3
import Derived.Test.YthhepnaanjicjaaGreatDoorP5
import Derived.Test.YthhepnaanjicjaaGreatDoorP6
import Derived.Deep.DeepCutAuto
import Derived.WalkKit
import Derived.ProofKit
import Derived.OpenShut
import Derived.ShutString
import Derived.ChangeOld
import Derived.Below
import Derived.SizedLaws
import Derived.ChangeVars
import Derived.JoinedOf
import Derived.RowKitTokens
import Derived.LaidLaws
import Derived.LaidHandle
import Derived.Stop.Joined
import Derived.Test.YthhepnaanjicjaaGreatDoorRows
import Derived.Test.YthhepnaanjicjaaGreatDoorCards
import Derived.Test.YthhepnaanjicjaaGreatDoorTie
import Derived.SevenTiedAt
/- The pen of layer 3: what its calls write, and its laws of words. -/
namespace Go.Proofs.YthhepnaanjicjaaGreatDoor
open Go.RowKit
structure PenAt (w : World) (base g : Nat) (v : Value) (bs : List UInt8) : Prop where
  blk : w.heap[g]? = some (.cells #[v] 41 (0, 0))
  own : w.ownsRow base 5 1 v bs.length (bcells bs)
  base : base ≤ g
  ne : v.ownBlock ≠ some g
theorem PenAt.cell {w : World} {base g : Nat} {v : Value} {bs : List UInt8} (h : PenAt w base g v bs) : w.cell? ⟨g, 0, none⟩ = some v := by
  simp [World.cell?, h.blk]
theorem PenAt.free {w : World} {base g : Nat} {v : Value} {bs : List UInt8} (h : PenAt w base g v bs) : w.frozen? ⟨g, 0, none⟩ = false := by
  simp [World.frozen?, h.blk]
theorem PenAt.lt {w : World} {base g : Nat} {v : Value} {bs : List UInt8} (h : PenAt w base g v bs) : g < w.heap.size := (Array.getElem?_eq_some_iff.1 h.blk).1
/-- The pen has come from (w, v) to (w1, v1): it alone is written. -/
structure PenTo (base g : Nat) (w : World) (v : Value) (w1 : World) (v1 : Value) (bs1 : List UInt8) : Prop where
  at_ : PenAt w1 base g v1 bs1
  mod : Mod (fun k => k = g ∨ v.ownBlock = some k) w w1
  new : NewOr w v v1
theorem PenTo.refl {w : World} {base g : Nat} {v : Value} {bs : List UInt8} (h : PenAt w base g v bs) : PenTo base g w v w v bs := ⟨h, Mod.refl _ _, .refl _ _⟩
theorem PenTo.trans {w w1 w2 : World} {base g : Nat} {v v1 v2 : Value} {bs1 bs2 : List UInt8} (h : PenTo base g w v w1 v1 bs1) (k : PenTo base g w1 v1 w2 v2 bs2) : PenTo base g w v w2 v2 bs2 :=
  ⟨k.at_, h.mod.trans k.mod (fun i hi => hi.elim (fun e => .inl (.inl e)) (fun e => h.new.set (S := fun k => k = g ∨ v.ownBlock = some k) (fun _ hk => .inr hk) i e)), h.new.trans h.mod.size k.new⟩
/-- behind an append and a store of the pen's field -/
theorem PenAt.step {w w1 : World} {base g : Nat} {v v1 : Value} {bs bs1 : List UInt8} (h : PenAt w base g v bs)
    (ho : w1.ownsRow base 5 1 v1 bs1.length (bcells bs1)) (hg : w.grownBy w1 v.ownBlock) (hn : NewOr w v v1) :
    PenTo base g w v (w1.setCell ⟨g, 0, none⟩ v1) v1 bs1 ∧ w1.cell? ⟨g, 0, none⟩ = some v ∧ w1.frozen? ⟨g, 0, none⟩ = false := by
  have hlt := h.lt
  have hblk : w1.heap[g]? = some (.cells #[v] 41 (0, 0)) := by rw [hg.block g hlt (fun e => h.ne e.symm)]; exact h.blk
  have hne1 : v1.ownBlock ≠ some g := hn.ne hlt h.ne
  refine ⟨⟨⟨set_of_blk hblk 0 v1, own_move ho (fun k hk => Below.heap_setCell _ _ _ _ (fun e => hne1 (by rw [hk, e]))), h.base, hne1⟩, ?_, hn⟩, ?_, ?_⟩
  · exact ((Mod.refl _ w).grown hg (fun k hk => .inl (.inr hk.symm))).setCell (.inl (.inl rfl)) _
  · rw [cell_of_blk hblk]; rfl
  · exact free_of_blk hblk 0
def encF : Nat → Int → List UInt8
  | 0, _ => []
  | f + 1, n => if n < 128 then [u8 n] else u8 (n % 128 + 128) :: encF f (n / 128)
theorem encF_lt (f : Nat) (n : Int) (h : n < 128) : encF (f + 1) n = [u8 n] := by simp [encF, h]
theorem encF_ge (f : Nat) (n : Int) (h : ¬ n < 128) : encF (f + 1) n = u8 (n % 128 + 128) :: encF f (n / 128) := by simp [encF, h]
theorem encF_len (f : Nat) (n : Int) : (encF f n).length ≤ f := by
  induction f generalizing n with
  | zero => simp [encF]
  | succ f ih => simp only [encF]; split
                 · simp
                 · have := ih (n / 128); simp; omega
theorem Tryz.info_u8 : (Tryz.prog.info? 5).map (fun i => (i.zero, i.size, i.bytes)) = some (some (.int .u8 0), 1, 1) := by kernel_rfl
theorem fuel_pos {m : Int} {f : Nat} (h : m < 128 ^ f) (hp : 0 < f) (hm : ¬ m < 128) : ∃ k, f = k + 2 ∧ m / 128 < 128 ^ (k + 1) := by
  match f, hp with
  | 1, _ => simp at h; omega
  | k + 2, _ => refine ⟨k, rfl, ?_⟩; rw [show k + 2 = (k + 1) + 1 from rfl, Int.pow_succ] at h; generalize (128 : Int) ^ (k + 1) = p at *; omega
set_option maxRecDepth 100000 in
set_option maxHeartbeats 400000 in
theorem pnum_any (g base : Nat) (n : Int) (v : Value) (bs : List UInt8) (w : World) (hp : PenAt w base g v bs) (hb : base ≤ w.heap.size) (h0 : 0 ≤ n) (h1 : n ≤ 4611686018427387903) (hl : bs.length ≤ 140737488300000) :
    Calls Tryz.prog 70 #[.pointer (some ⟨g, 0, none⟩), .int .i64 n] w fun e w' => e = .returned (.bool true) ∧ ∃ v', PenTo base g w v w' v' (bs ++ encF 10 n) := by
  have hd0 : decide (n < 0) = false := by simp; omega
  have hd1 : decide (4611686018427387903 < n) = false := by simp; omega
  go_enter Tryz.func70, Tryz.ntmps70
  go_wp2
  go_loopg [1] 10 (fun f x wr => ∃ (m : Int) (u : Value) (cs : List UInt8), x = .int .i64 m ∧ 0 ≤ m ∧ m ≤ 4611686018427387903 ∧ cs ++ encF f m = bs ++ encF 10 n ∧ cs.length + f ≤ bs.length + 10 ∧ 0 < f ∧ m < 128 ^ f ∧ PenTo base g w v wr u cs)
  case atStart => exact ⟨n, v, bs, rfl, h0, h1, rfl, by omega, by decide, by omega, .refl hp⟩
  case round =>
    obtain ⟨m, u, cs, rfl, hm0, hm1, he, hle, hf, hlt, hto⟩ := hrel
    have He := Lib.hid (And.intro he (And.intro hle (And.intro hf hlt))); clear he hlt hle hf
    have hpr := hto.at_
    have hcr := hpr.cell
    have hfr := hpr.free
    have hwb : base ≤ wr.heap.size := Nat.le_trans hb hto.mod.size
    clear hd0 hd1
    by_cases hs : m < 128
    · go_wp2_with (at_builtin; refine append_one base rfl _ _ 39 5 (.int .u8 0) 1 rfl Tryz.underlying39 Tryz.info_u8 rfl (by decide) u (bcells cs) _ rfl rfl rfl (by rw [bcells_length]; exact hpr.own) hwb ?c1 ?_)
      case c1 => have := He.out.2.1; (try rw [bcells_length]); omega
      intro A c w1 hown hg hn
      obtain ⟨R1, R3, R4⟩ := hpr.step (bs1 := cs ++ [u8 m]) (by rw [bcells_append]; simpa [bcells, u8_toNat m hm0 (by omega)] using hown) hg hn
      have HR := Lib.hid R1; clear R1 hn hown hg hcr hfr
      go_wp2
      go_ret
      obtain ⟨he, _, hf, hlt⟩ := He.out
      obtain ⟨f, rfl⟩ : ∃ f, gk = f + 1 := ⟨gk - 1, by omega⟩
      rw [encF_lt _ _ hs] at he
      exact ⟨rfl, _, hto.trans (he ▸ HR.out)⟩
    · go_wp2_with (at_builtin; refine append_one base rfl _ _ 39 5 (.int .u8 0) 1 rfl Tryz.underlying39 Tryz.info_u8 rfl (by decide) u (bcells cs) _ rfl rfl rfl (by rw [bcells_length]; exact hpr.own) hwb ?c1 ?_)
      case c1 => have := He.out.2.1; (try rw [bcells_length]); omega
      intro A c w1 hown hg hn
      obtain ⟨R1, R3, R4⟩ := hpr.step (bs1 := cs ++ [u8 (m % 128 + 128)]) (by rw [bcells_append]; simpa [bcells, u8_toNat (m % 128 + 128) (by omega) (by omega)] using hown) hg hn
      have HR := Lib.hid R1; clear R1 hn hown hg hcr hfr
      go_wp2
      obtain ⟨he, hle, hf, hlt⟩ := He.out
      have hs' : ¬ m < 128 := by omega
      obtain ⟨f, rfl, hlt2⟩ := fuel_pos hlt hf hs'
      go_roundg (f + 1)
      case measure => omega
      case rel => exact ⟨m / 128, _, cs ++ [u8 (m % 128 + 128)], rfl, by omega, by omega, by rw [← he, encF_ge _ _ hs']; simp, by simp; omega, by omega, hlt2, hto.trans HR.out⟩
set_option maxRecDepth 100000 in
theorem num_no (p : Option Addr) (n : Int) (w : World) (h : p = none ∨ n < 0 ∨ 4611686018427387903 < n) :
    Calls Tryz.prog 70 #[.pointer p, .int .i64 n] w fun e w' => e = .returned (.bool false) ∧ w = w' := by
  rcases h with rfl | h | h
  · go_enter Tryz.func70, Tryz.ntmps70
    go_wp2
    go_ret
    exact ⟨rfl, rfl⟩
  · have hd0 : decide (n < 0) = true := by simp; omega
    cases p <;>
    · go_enter Tryz.func70, Tryz.ntmps70
      go_wp2
      go_ret
      exact ⟨rfl, rfl⟩
  · have hd0 : decide (n < 0) = false := by simp; omega
    have hd1 : decide (4611686018427387903 < n) = true := by simp; omega
    cases p <;>
    · go_enter Tryz.func70, Tryz.ntmps70
      go_wp2
      go_ret
      exact ⟨rfl, rfl⟩
set_option maxRecDepth 100000 in
theorem text_nil (s : ByteArray) (w : World) :
    Calls Tryz.prog 71 #[.pointer none, .string s] w fun e w' => e = .returned (.tuple #[]) ∧ w = w' := by
  go_enter Tryz.func71, Tryz.ntmps71
  go_wp2_with (go_at_call 70; refine (num_no none _ w (.inl rfl)).mono ?_; rintro e w' ⟨rfl, rfl⟩)
  go_end0
  exact ⟨rfl, rfl⟩
end Go.Proofs.YthhepnaanjicjaaGreatDoor

/- Layer 3's pen, the rest: Clone of bytes, Text, Bytes. -/
namespace Go.Proofs.YthhepnaanjicjaaGreatDoor
open Go.RowKit
set_option maxRecDepth 100000 in
set_option maxHeartbeats 400000 in
theorem clone_any (v : Value) (xs : List UInt8) (ok : Nat → Prop) (w : World) (h : bytesR.rel w ok [v] xs) :
    Calls Tryz.prog 74 #[v] w fun e w' => ∃ A c, e = .returned (.slice A xs.length c) ∧ w'.ownsRow w.heap.size 5 1 (.slice A xs.length c) xs.length (bcells xs) ∧ Mod (fun _ => False) w w' := by
  have q22 : ∀ (w : World) (a : Option Addr) (n c n' c' : Nat), (binOp .eql 39 (.slice a n c) (.slice none n' c')).run Tryz.prog w = .ok (.bool a.isNone) w := fun w a n c n' c' => Lib.run_eql_slice_nil w _ _ a n c n' c' Tryz.underlying39
  obtain ⟨A, c, hv, h2, h3, h4, h5, h6⟩ := h
  obtain rfl : v = .slice A xs.length c := by simpa using hv
  cases A with
  | none =>
    have hc0 := h5 rfl
    have hx : xs.length = 0 := by omega
    obtain rfl : xs = [] := List.eq_nil_of_length_eq_zero hx
    subst hc0
    go_enter Tryz.func74, Tryz.ntmps74
    go_wp2
    go_ret
    exact ⟨none, 0, rfl, World.ownsRow_nil _ _ _ _, .refl _ _⟩
  | some ad =>
    clear hv h5
    have hnl := bcells_length xs
    have hcells : ∀ j u, (bcells xs)[j]? = some u → w.cell? (ad.add j) = some u := by
      by_cases hx : xs = []
      · subst hx; intro j u hu; simp [bcells] at hu
      · obtain ⟨ad', e, _, hh⟩ := RowOf.bcells h6 hx
        injection e with e; subst e; exact hh
    have HC := Lib.hid hcells; clear hcells
    clear h6
    obtain ⟨i0, hi, hz0, hz1, hz2⟩ := info_parts Tryz.info_u8
    go_enter Tryz.func74, Tryz.ntmps74
    go_wp2_with (at_builtin; refine wpList_append_own_at _ rfl _ _ 39 rfl w.heap.size 5 i0 (.int .u8 0) 1 1 Tryz.underlying39 hi hz0 hz1 hz2 rfl (by decide) (.slice (some ⟨w.heap.size, 0, none⟩) 0 0) 0 [] rfl ?c1 ad xs.length c (bcells xs) rfl ?c2 ?c3 ?c4 ?c5 ?c6 ?c7 ?_)
    case c1 => exact World.ownsRow_made w _ 0 (Nat.le_refl _) (by decide) rfl
    case c2 => simp [bcells_length]
    case c3 => intro j u hu; have := HC.out j u hu; exact cell_step this (fun hl => Below.heap_alloc _ _ _ hl)
    case c4 => exact bcells_one _
    case c5 => unfold maxLen; omega
    case c6 => omega
    case c7 => simp
    intro v1 w1 hown hg hnil hat
    obtain ⟨A1, c1, rfl⟩ := own_slice hown
    have HR := Lib.hid (And.intro hown hg); clear hown hg hnil hat
    go_wp2
    go_ret
    exact ⟨A1, c1, rfl, HR.out.1, ((Mod.refl _ w).alloc _).grown HR.out.2 (by simp [Value.ownBlock])⟩
theorem append_str {P : Program} {ops : Array Oper} {rest : List Oper} {o : Oper} {a : Act} {Q : Exit → Act → World → Prop} {w : World} (base : Nat) (hgd : o.guard = none) (sl x : Operand) (t u e : TypeId)
    (ho : o.op = .call { callee := .builtin .append, args := #[sl, x], argTypes := #[t, u] })
    (ht : P.underlying t = some (.slice e)) (hu : P.underlying u = some .string) (hinfo : (P.info? e).map (fun i => (i.zero, i.size, i.bytes)) = some (some (.int .u8 0), 1, 1))
    (v : Value) (n : Nat) (xs : List Value) (hs : a.eval sl = v) (hown : w.ownsRow base e 1 v n xs) (s : ByteArray) (hx : a.eval x = .string s)
    (hbytes : n + s.size ≤ 140737488355328) (hbase : base ≤ w.heap.size)
    (h : ∀ A c w', w'.ownsRow base e 1 (.slice A (n + s.size) c) (n + s.size) (xs ++ Lib.strCells s) → w.grownBy w' v.ownBlock → NewOr w v (.slice A (n + s.size) c) → wpList P ops Q rest (a.put o.dst (.slice A (n + s.size) c)) w') : wpList P ops Q (o :: rest) a w := by
  obtain ⟨i, hi, hzz⟩ := Option.map_eq_some_iff.1 hinfo
  simp only [Prod.mk.injEq] at hzz
  obtain ⟨hz, hsize, hby⟩ := hzz
  refine wpList_plain hgd fun K hK => ?_
  obtain ⟨v', w', hr, h2, h3, h4⟩ := Lib.run_append_own_string (P := P) w base t u o.type e i ht hu hi hz hsize hby v n xs hown s (by unfold maxLen; omega) hbytes hbase
  have hat : NewOr w v v' := by
    rcases hown.2 with ⟨rfl, rfl⟩ | ⟨g, cap, cur, rfl, hbg, hg, hnc, hcm, hcs, htake⟩
    · by_cases hm : s.size = 0
      · exact .inl (by rw [h4.2 ⟨rfl, hm⟩])
      · have hr2 := run_append_nil_string (P := P) w t u o.type e i (.int .u8 0) ht hu hi hz s (by omega) (by omega) (by rw [hby]; omega)
        rw [hr] at hr2
        injection hr2 with e1 _
        exact .inr ⟨w.heap.size, by rw [e1]; rfl, Nat.le_refl _⟩
    · by_cases hroom : n + s.size ≤ cap
      · have hr2 := Lib.run_append_room_string (P := P) w t u o.type e i ht hu hi hsize g n cap cur hg s hroom (by omega)
        rw [hr] at hr2
        injection hr2 with e1 _
        exact .inl (by rw [e1]; rfl)
      · have hr2 := Lib.run_append_grow_string (P := P) w t u o.type e i (.int .u8 0) ht hu hi hz ⟨g, 0, none⟩ n cap xs (by rw [hsize]; exact hown.1) (hown.cells (g := g) rfl) s (by omega) (by omega) (by rw [hby]; exact growslice_fits (by omega) (by omega))
        rw [hr] at hr2
        injection hr2 with e1 _
        exact .inr ⟨w.heap.size, by rw [e1]; rfl, Nat.le_refl _⟩
  obtain ⟨A, c, rfl⟩ := own_slice h2
  unfold Oper.wp execOp
  simp only [ho, resolve, invoke, builtin, Sem.run_bind, Sem.run_pure, Result.andThen_ok, List.map_toArray, List.map_cons, List.map_nil, hs, hx, hr]
  exact hK _ _ (h A c w' h2 h3 hat)
set_option maxRecDepth 100000 in
theorem ptext_any (g base : Nat) (s : ByteArray) (v : Value) (bs : List UInt8) (w : World) (hp : PenAt w base g v bs) (hb : base ≤ w.heap.size) (hs : s.size ≤ 1000000000) (hl : bs.length ≤ 140000000000000) :
    Calls Tryz.prog 71 #[.pointer (some ⟨g, 0, none⟩), .string s] w fun e w' => e = .returned (.tuple #[]) ∧ ∃ v', PenTo base g w v w' v' (bs ++ encF 10 s.size ++ s.data.toList) := by
  go_enter Tryz.func71, Tryz.ntmps71
  go_wp2_with fail
  refine (pnum_any g base _ v bs w hp hb (by omega) (by omega) (by omega)).mono ?_
  rintro e w1 ⟨rfl, v1, H1⟩
  have hpr := H1.at_
  have hcr := hpr.cell
  have hfr := hpr.free
  have hwb := Nat.le_trans hb H1.mod.size
  go_wp2_with (at_builtin; refine append_str base rfl _ _ 39 9 5 rfl Tryz.underlying39 Tryz.underlying9 Tryz.info_u8 v1 _ _ rfl hpr.own s rfl ?c1 hwb ?_)
  case c1 => have := encF_len 10 (s.size : Int); simp; omega
  intro A c w2 hown hg hn
  obtain ⟨R1, R3, R4⟩ := hpr.step (bs1 := bs ++ encF 10 s.size ++ s.data.toList) (by rw [bcells_append, ← strCells_bcells, List.length_append, List.length_append]; simpa using hown) hg hn
  have HR := Lib.hid R1; clear R1 hn hown hg hcr hfr
  go_wp2
  go_end0
  exact ⟨rfl, _, H1.trans HR.out⟩
set_option maxRecDepth 100000 in
theorem bytes_nil (w : World) :
    Calls Tryz.prog 32 #[.pointer none] w fun e w' => e = .returned (.slice none 0 0) ∧ w = w' := by
  go_enter Tryz.func32, Tryz.ntmps32
  go_wp2
  go_ret
  exact ⟨rfl, rfl⟩
set_option maxRecDepth 100000 in
theorem bytes_any (g base : Nat) (v : Value) (bs : List UInt8) (w : World) (hp : PenAt w base g v bs) (hl : bs.length ≤ 140737488355328) :
    Calls Tryz.prog 32 #[.pointer (some ⟨g, 0, none⟩)] w fun e w' => ∃ A c, e = .returned (.slice A bs.length c) ∧ w'.ownsRow w.heap.size 5 1 (.slice A bs.length c) bs.length (bcells bs) ∧ Mod (fun _ => False) w w' := by
  have hc := hp.cell
  have hr := reads_bytes hp.own hl
  obtain ⟨A0, c0, hv⟩ := own_slice hp.own
  clear hp
  subst hv
  go_enter Tryz.func32, Tryz.ntmps32
  go_wp2_with fail
  refine (clone_any _ bs _ w hr).mono ?_
  rintro e w1 ⟨A, c, rfl, h1, h2⟩
  have HR := Lib.hid (And.intro h1 h2); clear h1 h2
  go_wp2
  go_ret
  exact ⟨A, c, rfl, HR.out.1, HR.out.2⟩
end Go.Proofs.YthhepnaanjicjaaGreatDoor

/- Layer 3's reference: its encodings. -/
namespace Go.Proofs.YthhepnaanjicjaaGreatDoor
open Go.RowKit
theorem run_str1 {P : Program} (w : World) (b : UInt8) (src dst e : TypeId) (hs : P.underlying src = some (.slice e)) (he : P.underlying e = some (.int .u8)) (hd : P.underlying dst = some .string) (n : Int) (hn : n = (b.toNat : Int)) (g : Nat) (hg : w.heap[g]? = some (.cells #[.int .u8 n] e (0, 0))) :
    (convert src dst (.slice (some ⟨g, 0, none⟩) 1 1)).run P w = .ok (.string (mkStr [b])) w := by
  subst hn
  refine run_convert_bytes_back w src dst e ⟨g, 0, none⟩ 1 [b] hs he hd (fun j hj => ?_)
  have : j = 0 := by simpa using hj
  subst this
  simp [Addr.add, World.cell?, hg]
theorem run_str1_new {P : Program} (b : UInt8) (src dst e : TypeId) (hs : P.underlying src = some (.slice e)) (he : P.underlying e = some (.int .u8)) (hd : P.underlying dst = some .string) (n : Int) (hn : n = (b.toNat : Int)) (w : World) :
    (convert src dst (.slice (some ⟨w.heap.size, 0, none⟩) 1 1)).run P (w.alloc (.cells #[.int .u8 n] e)) = .ok (.string (mkStr [b])) (w.alloc (.cells #[.int .u8 n] e)) :=
  run_str1 _ b src dst e hs he hd n hn _ (heap_alloc_new w _)
theorem run_str1_drew {P : Program} (b : UInt8) (src dst e : TypeId) (hs : P.underlying src = some (.slice e)) (he : P.underlying e = some (.int .u8)) (hd : P.underlying dst = some .string) (n : Int) (hn : n = (b.toNat : Int)) (w : World) :
    (convert src dst (.slice (some ⟨w.heap.size, 0, none⟩) 1 1)).run P (w.alloc (.cells #[.int .u8 n] e)).drew = .ok (.string (mkStr [b])) (w.alloc (.cells #[.int .u8 n] e)).drew :=
  run_str1 _ b src dst e hs he hd n hn _ (heap_alloc_new w _)
set_option maxRecDepth 100000 in
theorem refnum_small (n : Int) (w : World) (h0 : 0 ≤ n) (hlt : n < 128) :
    Calls Tryz.prog 75 #[.int .i64 n] w fun e w' => e = .returned (.string (mkStr [u8 n])) ∧ Mod (fun _ => False) w w' := by
  have hcv := run_str1_new (P := Tryz.prog) (u8 n) 39 9 5 Tryz.underlying39 Tryz.underlying5 Tryz.underlying9 n (u8_toNat n h0 (by omega)).symm w
  go_enter Tryz.func75, Tryz.ntmps75
  go_wp2
  go_ret
  exact ⟨rfl, (Mod.refl _ _).alloc _⟩
theorem mkStr_append (a b : List UInt8) : mkStr a ++ mkStr b = mkStr (a ++ b) := by
  apply ByteArray.ext; simp [mkStr]
theorem run_add_strs {P : Program} (a b : List UInt8) (h : a.length + b.length ≤ 9223372036854775807) (w : World) : (Op.stringOp .add (mkStr a) (mkStr b)).run P w = .ok (.string (mkStr (a ++ b))) w := by
  rw [run_string_add_sum w _ _ (by rw [mkStr_size, mkStr_size]; exact h), mkStr_append]
set_option maxRecDepth 100000 in
set_option maxHeartbeats 400000 in
theorem refnum_any (f : Nat) : f ≤ 100 → ∀ (n : Int) (w : World), 0 ≤ n → n ≤ 4611686018427387903 → n < 128 ^ (f + 1) →
    Calls Tryz.prog 75 #[.int .i64 n] w fun e w' => e = .returned (.string (mkStr (encF (f + 1) n))) ∧ Mod (fun _ => False) w w' := by
  induction f with
  | zero =>
    intro _ n w h0 h1 hf
    have hlt : n < 128 := by simpa using hf
    rw [encF_lt _ _ hlt]
    exact refnum_small n w h0 hlt
  | succ f ih =>
    intro hf0 n w h0 h1 hf
    by_cases hlt : n < 128
    · rw [encF_lt _ _ hlt]
      exact refnum_small n w h0 hlt
    have hf2 : n / 128 < 128 ^ (f + 1) := by
      rw [Int.pow_succ] at hf; generalize (128 : Int) ^ (f + 1) = p at *; omega
    rw [encF_ge _ _ hlt]
    have IH := fun W => ih (by omega) (n / 128) W (by omega) (by omega) hf2
    clear hf ih hf2
    have hq : n.tdiv 128 = n / 128 := Int.tdiv_eq_ediv_of_nonneg h0
    have hr : n.tmod 128 = n % 128 := Int.tmod_eq_emod_of_nonneg h0
    have hw1 : IntKind.i64.wrap (n / 128) = n / 128 := IntWalk.i64_in _ (by omega)
    have hw2 : IntKind.i64.wrap (128 + n % 128) = n % 128 + 128 := (IntWalk.i64_in _ (by omega)).trans (by omega)
    have hw3 : IntKind.u8.wrap (n % 128 + 128) = n % 128 + 128 := IntWalk.u8_in _ (by omega)
    have hcv := run_str1_new (P := Tryz.prog) (u8 (n % 128 + 128)) 39 9 5 Tryz.underlying39 Tryz.underlying5 Tryz.underlying9 (n % 128 + 128) (u8_toNat _ (by omega) (by omega)).symm
    have hcd := run_str1_drew (P := Tryz.prog) (u8 (n % 128 + 128)) 39 9 5 Tryz.underlying39 Tryz.underlying5 Tryz.underlying9 (n % 128 + 128) (u8_toNat _ (by omega) (by omega)).symm
    have hadd := run_add_strs (P := Tryz.prog) [u8 (n % 128 + 128)] (encF (f + 1) (n / 128)) (by have := encF_len (f + 1) (n / 128); simp; omega)
    go_enter Tryz.func75, Tryz.ntmps75
    go_wp2
    go_region_with (first | (go_at_call 75; refine (IH _).mono ?_; rintro e w' ⟨rfl, HM⟩; try (have hc2 := run_str1 (P := Tryz.prog) w' (u8 (n % 128 + 128)) 39 9 5 Tryz.underlying39 Tryz.underlying5 Tryz.underlying9 (n % 128 + 128) (u8_toNat _ (by omega) (by omega)).symm w.heap.size ((HM.block w.heap.size (by simp) (fun h => h)).trans (heap_alloc_new w _)))))
    all_goals
      clear hcv hcd hadd hw1 hw2 hw3 hq hr
      go_wp2
      go_ret
      first
        | exact ⟨rfl, ((Mod.refl _ w).drew.trans HM (by simp)).alloc _⟩
        | exact ⟨rfl, (((Mod.refl _ w).alloc _).drew.trans HM (by simp))⟩
        | exact ⟨rfl, (((Mod.refl _ w).drew.alloc _).trans HM (by simp))⟩
set_option maxRecDepth 100000 in
theorem reftext_any (s : ByteArray) (hs : s.size ≤ 1000000000) (w : World) :
    Calls Tryz.prog 76 #[.string s] w fun e w' => e = .returned (.string (mkStr (encF 10 s.size ++ s.data.toList))) ∧ Mod (fun _ => False) w w' := by
  have hadd := run_add_strs (P := Tryz.prog) (encF 10 s.size) s.data.toList (by have := encF_len 10 (s.size : Int); simp; omega)
  rw [list_mkStr] at hadd
  go_enter Tryz.func76, Tryz.ntmps76
  go_wp2_with (go_at_call 75; refine (refnum_any 9 (by decide) s.size _ (by omega) (by omega) (by omega)).mono ?_; rintro e w' ⟨rfl, HM⟩)
  go_ret
  exact ⟨rfl, HM⟩
end Go.Proofs.YthhepnaanjicjaaGreatDoor

/- Layer 6, label: Put. -/
namespace Go.Proofs.YthhepnaanjicjaaGreatDoor
open Go.RowKit Go.Shelf
set_option linter.unusedVariables false
def encN (n : Int) : List UInt8 := if 0 ≤ n ∧ n ≤ 4611686018427387903 then encF 10 n else []
def encEn (e : Entry) : List UInt8 := (encF 10 (nm e).length ++ nm e) ++ encN e.level
def encL (l : List Entry) : List UInt8 := encF 10 l.length ++ l.flatMap encEn
theorem encN_len (n : Int) : (encN n).length ≤ 10 := by
  unfold encN
  split
  · exact encF_len 10 n
  · simp
theorem encEn_len (e : Entry) (h : (nm e).length ≤ 1000000) : (encEn e).length ≤ 1000020 := by
  unfold encEn
  have h1 := encF_len 10 ((nm e).length : Int)
  have h2 := encN_len e.level
  simp only [List.length_append]
  omega
theorem flat_len : ∀ (l : List Entry), (∀ e ∈ l, (nm e).length ≤ 1000000) → (l.flatMap encEn).length ≤ 1000020 * l.length
  | [], _ => by simp
  | e :: r, h => by
    have h1 := flat_len r fun x hx => h x (List.mem_cons_of_mem _ hx)
    have h2 := encEn_len e (h e List.mem_cons_self)
    rw [List.flatMap_cons, List.length_append, List.length_cons, Nat.mul_succ]
    omega
set_option maxRecDepth 100000 in
set_option maxHeartbeats 1000000 in
theorem pnumber_any (g base : Nat) (n : Int) (v : Value) (bs : List UInt8) (w : World) (hp : PenAt w base g v bs) (hb : base ≤ w.heap.size) (hl : bs.length ≤ 140737488300000) :
    Calls Tryz.prog 70 #[.pointer (some ⟨g, 0, none⟩), .int .i64 n] w fun e w' => ∃ b v', e = .returned (.bool b) ∧ PenTo base g w v w' v' (bs ++ encN n) := by
  unfold encN
  by_cases h : 0 ≤ n ∧ n ≤ 4611686018427387903
  · rw [if_pos h]
    exact (pnum_any g base n v bs w hp hb h.1 h.2 hl).mono fun _ _ ⟨h1, v', h2⟩ => ⟨true, v', h1, h2⟩
  · rw [if_neg h, List.append_nil]
    refine (num_no (some ⟨g, 0, none⟩) n w (by omega)).mono ?_
    rintro e w' ⟨rfl, rfl⟩
    exact ⟨false, v, rfl, .refl hp⟩
theorem PenTo.alloc {base g : Nat} {w w1 : World} {v v1 : Value} {bs1 : List UInt8} (h : PenTo base g w v w1 v1 bs1) (o : Obj) : PenTo base g w v (w1.alloc o) v1 bs1 :=
  ⟨⟨(heap_alloc_old w1 o h.at_.lt).trans h.at_.blk, h.at_.own.alloc o, h.at_.base, h.at_.ne⟩, h.mod.alloc o, h.new⟩
set_option maxRecDepth 100000 in
set_option maxHeartbeats 2000000 in
theorem put_any (g base : Nat) (v : Value) (bs : List UInt8) (A : Option Addr) (n c : Nat) (l : List Entry) (ok : Nat → Prop) (w : World) (hp : PenAt w base g v bs) (hb : base ≤ w.heap.size) (h : labR.rel w ok [.slice A n c] l) (hap : ∀ k, ok k → ¬ (k = g ∨ v.ownBlock = some k)) (hl : l.length ≤ 1000) (hnm : ∀ e ∈ l, (nm e).length ≤ 1000000) (hbl : bs.length ≤ 1000000) :
    Calls Tryz.prog 50 #[.pointer (some ⟨g, 0, none⟩), .slice A n c] w fun r w' => r = .returned (.tuple #[]) ∧ ∃ v', PenTo base g w v w' v' (bs ++ encL l) := by
  obtain ⟨rfl, hcap, -, hbig, -, hrow⟩ := lab_row h
  obtain ⟨b0, hb0⟩ : ∃ b0, b0 = bs ++ encF 10 l.length := ⟨_, rfl⟩
  have hb0l : b0.length ≤ 1000010 := by rw [hb0, List.length_append]; have := encF_len 10 (l.length : Int); omega
  have hn := pnum_any g base l.length v bs w hp hb (by omega) (by omega) (by omega)
  rw [← hb0] at hn
  have hend : bs ++ encL l = b0 ++ l.flatMap encEn := by unfold encL; rw [hb0, List.append_assoc]
  rw [hend]
  have H0 := Lib.hid (And.intro hrow (And.intro hap (And.intro hnm (And.intro hn hb)))); clear hp hb h hrow hap hnm hn hb0 hend
  go_enter Tryz.func50, Tryz.ntmps50
  go_wp2_with fail
  refine H0.out.2.2.2.1.mono ?_
  rintro r w1 ⟨rfl, v1, ht1⟩
  have H1 := Lib.hid ht1; clear ht1
  go_wp2_with fail
  go_loopg [12] l.length (fun f si wr => ∃ (i : Nat) (vi : Value), si = .int .i64 i ∧ i + f = l.length ∧ PenTo base g w v wr vi (b0 ++ (l.take i).flatMap encEn))
  case atStart => exact ⟨0, v1, rfl, by omega, by simpa using H1.out⟩
  case round =>
    obtain ⟨i, vi, rfl, hi, ht⟩ := hrel
    by_cases hlt : i < l.length
    · obtain ⟨d, m, hx⟩ : ∃ d m, l[i]? = some (ent d m) := by
        obtain ⟨d, m, e⟩ := ent_cases l[i]
        exact ⟨d, m, by rw [← e]; simp [hlt]⟩
      obtain ⟨ad, rfl, -, hc0, hc1, hdl, -⟩ := row_ent (H0.out.1.step (w1 := wr) (ok1 := fun _ => True) (fun k hk hl => ⟨trivial, ht.mod.block k hl (H0.out.2.1 k hk)⟩)) hx
      have hd6 : d.length ≤ 1000000 := by have := H0.out.2.2.1 _ (List.mem_of_getElem? hx); rwa [nm_ent] at this
      have hfl := flat_len (l.take i) (fun e he => H0.out.2.2.1 e (List.mem_of_mem_take he))
      rw [List.length_take] at hfl
      obtain ⟨bi, hbi⟩ : ∃ bi, bi = b0 ++ (l.take i).flatMap encEn := ⟨_, rfl⟩
      have hbil : bi.length ≤ 2000000000 := by
        rw [hbi, List.length_append]
        have : 1000020 * min i l.length ≤ 1000020 * 1000 := Nat.mul_le_mul_left _ (by omega)
        omega
      have htk : b0 ++ (l.take (i + 1)).flatMap encEn = (bi ++ encF 10 d.length ++ d) ++ encN m := by rw [List.take_add_one, hx, List.flatMap_append, hbi]; simp [encEn, nm_ent, lev_ent]
      rw [← hbi] at ht
      have hsz := ht.mod.size
      have HX := Lib.hid (And.intro hi (And.intro ht htk)); clear hi htk hx hbi hfl
      go_wp2_with fail
      obtain ⟨W1, hW1⟩ : ∃ W1, W1 = wr.alloc (.cells #[.string ⟨d.toArray⟩, .int .i64 m] 63) := ⟨_, rfl⟩
      rw [← hW1]
      obtain ⟨k0, k1⟩ := cells2 wr (.string ⟨d.toArray⟩) (.int .i64 m) 63
      rw [← hW1] at k0 k1
      have htW : PenTo base g w v W1 vi bi := by rw [hW1]; exact ht.alloc _
      obtain ⟨gv, hgv⟩ : ∃ gv, gv = wr.heap.size := ⟨_, rfl⟩
      rw [← hgv] at k0 k1 ⊢
      have hne : ¬ (gv = g ∨ vi.ownBlock = some gv) := by
        rintro (e | e)
        · have := ht.at_.lt; omega
        · have := (own_lt ht.at_.own gv e).2; omega
      have htx := ptext_any g base ⟨d.toArray⟩ vi bi W1 htW.at_ (Nat.le_trans H0.out.2.2.2.2 htW.mod.size) (by show d.length ≤ _; omega) (by omega)
      have H2 := Lib.hid (And.intro htW (And.intro hne (And.intro htx k1))); clear htW hne htx hW1 hgv hc0 hc1 ht k1
      go_wp2_with fail
      refine H2.out.2.2.1.mono ?_
      rintro r w2 ⟨rfl, v2, ht2⟩
      have q1 := (ht2.mod.cell (cell_lt H2.out.2.2.2) H2.out.2.1).trans H2.out.2.2.2
      have ht2' := H2.out.1.trans ht2
      have hpn := pnumber_any g base m v2 _ w2 ht2.at_ (Nat.le_trans H0.out.2.2.2.2 ht2'.mod.size) (by have := encF_len 10 ((⟨d.toArray⟩ : ByteArray).size : Int); simp only [List.length_append]; show bi.length + _ + d.length ≤ _; omega)
      have H3 := Lib.hid (And.intro ht2' hpn); clear ht2 ht2' hpn
      go_wp2_with fail
      refine H3.out.2.mono ?_
      rintro r w3 ⟨bb, v3, rfl, ht3⟩
      have H4 := Lib.hid (H3.out.1.trans ht3); clear ht3
      go_wp2_with fail
      go_roundg (gk - 1)
      case measure => have := HX.out.1; omega
      case rel => exact ⟨i + 1, v3, by go_num, by have := HX.out.1; omega, by rw [HX.out.2.2]; exact H4.out⟩
    · have hie : l.take i = l := List.take_of_length_le (by omega)
      rw [hie] at ht
      have HX := Lib.hid ht; clear ht hie hi
      go_wp2_with fail
      go_end0
      exact ⟨rfl, vi, HX.out⟩
end Go.Proofs.YthhepnaanjicjaaGreatDoor

/- Layer 6, label: Put with no pen. -/
namespace Go.Proofs.YthhepnaanjicjaaGreatDoor
open Go.RowKit Go.Shelf
set_option linter.unusedVariables false
set_option maxRecDepth 100000 in
set_option maxHeartbeats 1000000 in
theorem put_nil (A : Option Addr) (n c : Nat) (l : List Entry) (ok : Nat → Prop) (w : World) (h : labR.rel w ok [.slice A n c] l) :
    Calls Tryz.prog 50 #[.pointer none, .slice A n c] w fun r w' => r = .returned (.tuple #[]) ∧ Mod (fun _ => False) w w' := by
  obtain ⟨rfl, hcap, -, hbig, -, hrow⟩ := lab_row h
  have H0 := Lib.hid hrow; clear h hrow
  go_enter Tryz.func50, Tryz.ntmps50
  go_wp2_with fail
  refine (num_no none _ w (.inl rfl)).mono ?_
  rintro r w1 ⟨rfl, rfl⟩
  go_wp2_with fail
  go_loopg [12] l.length (fun f si wr => ∃ (i : Nat), si = .int .i64 i ∧ i + f = l.length ∧ Mod (fun _ => False) w wr)
  case atStart => exact ⟨0, rfl, by omega, .refl _ _⟩
  case round =>
    obtain ⟨i, rfl, hi, hmod⟩ := hrel
    by_cases hlt : i < l.length
    · obtain ⟨d, m, hx⟩ : ∃ d m, l[i]? = some (ent d m) := by
        obtain ⟨d, m, e⟩ := ent_cases l[i]
        exact ⟨d, m, by rw [← e]; simp [hlt]⟩
      obtain ⟨ad, rfl, -, hc0, hc1, hdl, -⟩ := row_ent (H0.out.step (w1 := wr) (ok1 := fun _ => True) (fun k hk hl => ⟨trivial, hmod.block k hl (fun h => h)⟩)) hx
      have HX := Lib.hid (And.intro hi hmod); clear hi hmod hx
      go_wp2_with fail
      obtain ⟨W1, hW1⟩ : ∃ W1, W1 = wr.alloc (.cells #[.string ⟨d.toArray⟩, .int .i64 m] 63) := ⟨_, rfl⟩
      rw [← hW1]
      obtain ⟨k0, k1⟩ := cells2 wr (.string ⟨d.toArray⟩) (.int .i64 m) 63
      rw [← hW1] at k0 k1
      have HW := Lib.hid (show Mod (fun _ => False) w W1 by rw [hW1]; exact HX.out.2.alloc _)
      obtain ⟨gv, hgv⟩ : ∃ gv, gv = wr.heap.size := ⟨_, rfl⟩
      rw [← hgv] at k0 k1 ⊢
      clear hW1 hgv hc0 hc1
      refine (text_nil ⟨d.toArray⟩ W1).mono ?_
      rintro r w2 ⟨rfl, rfl⟩
      go_wp2_with fail
      refine (num_no none m W1 (.inl rfl)).mono ?_
      rintro r w3 ⟨rfl, rfl⟩
      go_wp2_with fail
      go_roundg (gk - 1)
      case measure => have := HX.out.1; omega
      case rel => exact ⟨i + 1, by go_num, by have := HX.out.1; omega, HW.out⟩
    · have HX := Lib.hid hmod; clear hmod hi
      go_wp2_with fail
      go_end0
      exact ⟨rfl, HX.out⟩
end Go.Proofs.YthhepnaanjicjaaGreatDoor

/- Layer 1, the document's answer: any number as it is told. -/
namespace Go.Proofs.YthhepnaanjicjaaGreatDoor
open Go.RowKit Go.Shelf
set_option linter.unusedVariables false
theorem tmod_n (m : Nat) : ((-(m : Int)).tmod 10) = -((m % 10 : Nat) : Int) := by rw [Int.neg_tmod, Int.tmod_eq_emod_of_nonneg (by omega)]; omega
theorem tdiv_n (m : Nat) : ((-(m : Int)).tdiv 10) = -((m / 10 : Nat) : Int) := by rw [Int.neg_tdiv, Int.tdiv_eq_ediv_of_nonneg (by omega)]; omega
set_option maxRecDepth 100000 in
set_option maxHeartbeats 1000000 in
theorem numw_any (n : Nat) (hn : n ≤ 9223372036854775807) (w : World) :
    Calls Tryz.prog 120 #[.int .i64 n] w fun r w' => r = .returned (encS (Lib.itoa n)) ∧ Mod (fun _ => False) w w' := by
  have hlen0 := Lib.itoa_length_le (n : Int) (by omega) (by omega)
  rw [Lib.itoa_nonneg] at hlen0 ⊢
  obtain ⟨z, hz⟩ : ∃ z, z = Lib.decDigits n := ⟨_, rfl⟩
  rw [← hz] at hlen0 ⊢
  have HZ := Lib.hid (And.intro hz hlen0); clear hz hlen0
  go_enter Tryz.func120, Tryz.ntmps120
  go_wp2_with fail
  go_loopg [0, 4] n (fun f sn ss wr => ∃ (m : Nat) (d : List UInt8), sn = .int .i64 m ∧ ss = .string ⟨d.toArray⟩ ∧ m ≤ f ∧ m ≤ n ∧ z = Lib.decDigits m ++ d ∧ Mod (fun _ => False) w wr)
  case atStart => exact ⟨n, [], rfl, rfl, by omega, by omega, by rw [HZ.out.1]; simp, .refl _ _⟩
  case round =>
    obtain ⟨m, d, rfl, rfl, hf, hmn, hz, hmod⟩ := hrel
    have hdl : d.length ≤ 30 := by
      have h1 := congrArg List.length hz
      have h2 := HZ.out.2
      rw [List.length_append] at h1
      omega
    by_cases h10 : 10 ≤ m
    · have hr : ((m : Int).tmod 10) = ((m % 10 : Nat) : Int) := by rw [Int.tmod_eq_emod_of_nonneg (by omega)]; omega
      have hq : ((m : Int).tdiv 10) = ((m / 10 : Nat) : Int) := by rw [Int.tdiv_eq_ediv_of_nonneg (by omega)]; omega
      have hd := dig10_at (m % 10) (by omega)
      unfold dig10 at hd
      have hcat : (⟨#[48 + UInt8.ofNat (m % 10)]⟩ : ByteArray) ++ ⟨d.toArray⟩ = ⟨((48 + UInt8.ofNat (m % 10)) :: d).toArray⟩ := by apply ByteArray.ext; simp
      obtain ⟨k, hk⟩ : ∃ k, k = m % 10 := ⟨_, rfl⟩
      have hk10 : k < 10 := by omega
      rw [← hk] at hr hd hcat
      have HX := Lib.hid (And.intro hf (And.intro hz (And.intro hmod hk))); clear hf hz hmod hk
      go_wp2_with fail
      go_roundg (gk - 1)
      case measure => have := HX.out.1; omega
      case rel => exact ⟨m / 10, _, by go_num, rfl, by have := HX.out.1; omega, by omega, by rw [HX.out.2.1, dec_step m h10, ← HX.out.2.2.2]; simp, HX.out.2.2.1⟩
    · have hm1 : Lib.decDigits m = [48 + UInt8.ofNat m] := by rw [Lib.decDigits_one (by omega)]; simp
      have hd := dig10_at m (by omega)
      unfold dig10 at hd
      have hcat : (⟨#[48 + UInt8.ofNat m]⟩ : ByteArray) ++ ⟨d.toArray⟩ = ⟨((48 + UInt8.ofNat m) :: d).toArray⟩ := by apply ByteArray.ext; simp
      have HX := Lib.hid (And.intro hz (And.intro hmod hm1)); clear hz hmod hm1 hf
      go_wp2_with fail
      go_ret
      exact ⟨by rw [HX.out.1, HX.out.2.2]; rfl, HX.out.2.1⟩
set_option maxRecDepth 100000 in
set_option maxHeartbeats 1000000 in
theorem numn_any (n : Nat) (h1 : 1 ≤ n) (hn : n ≤ 9223372036854775808) (w : World) :
    Calls Tryz.prog 120 #[.int .i64 (-(n : Int))] w fun r w' => r = .returned (encS (Lib.itoa (-(n : Int)))) ∧ Mod (fun _ => False) w w' := by
  have hlen0 := Lib.itoa_length_le (-(n : Int)) (by omega) (by omega)
  rw [Lib.itoa_neg n h1] at hlen0 ⊢
  obtain ⟨z, hz⟩ : ∃ z, z = Lib.decDigits n := ⟨_, rfl⟩
  rw [← hz] at hlen0 ⊢
  obtain ⟨x0, hx0⟩ : ∃ x0, x0 = -(n : Int) := ⟨_, rfl⟩
  have hx1 : x0 ≤ -1 := by omega
  have hx2 : x0 < 0 := by omega
  have hx3 : -9223372036854775808 ≤ x0 := by omega
  rw [← hx0]
  have HZ := Lib.hid (And.intro hz (And.intro hlen0 hx0)); clear hz hlen0 hx0 hn h1
  go_enter Tryz.func120, Tryz.ntmps120
  go_wp2_with fail
  go_loopg [0, 3] n (fun f sn ss wr => ∃ (x : Int) (d : List UInt8), sn = .int .i64 x ∧ ss = .string ⟨d.toArray⟩ ∧ x.natAbs ≤ f ∧ x0 ≤ x ∧ x ≤ -1 ∧ z = Lib.decDigits x.natAbs ++ d ∧ Mod (fun _ => False) w wr)
  case atStart => exact ⟨x0, [], rfl, rfl, by have := HZ.out.2.2; omega, by omega, by omega, by rw [HZ.out.1, HZ.out.2.2]; simp, .refl _ _⟩
  case round =>
    obtain ⟨x, d, rfl, rfl, hf, hx, hxn, hz, hmod⟩ := hrel
    have hdl : d.length ≤ 30 := by
      have h1 := congrArg List.length hz
      have h2 := HZ.out.2.1
      rw [List.length_append] at h1
      simp only [List.length_cons] at h2
      omega
    obtain ⟨m, hm⟩ : ∃ m : Nat, m = x.natAbs := ⟨_, rfl⟩
    have hxm : x = -(m : Int) := by omega
    have hr := tmod_n m
    have hq := tdiv_n m
    rw [← hxm] at hr hq
    rw [← hm] at hf hz
    by_cases h10 : x ≤ -10
    · have hd := dig10_at (m % 10) (by omega)
      unfold dig10 at hd
      have hcat : (⟨#[48 + UInt8.ofNat (m % 10)]⟩ : ByteArray) ++ ⟨d.toArray⟩ = ⟨((48 + UInt8.ofNat (m % 10)) :: d).toArray⟩ := by apply ByteArray.ext; simp
      have h10m : 10 ≤ m := by omega
      obtain ⟨k, hk⟩ : ∃ k, k = m % 10 := ⟨_, rfl⟩
      have hk10 : k < 10 := by omega
      rw [← hk] at hr hd hcat
      obtain ⟨y, hy⟩ : ∃ y : Int, y = -((m / 10 : Nat) : Int) := ⟨_, rfl⟩
      rw [← hy] at hq
      have hy1 : y.natAbs = m / 10 := by omega
      have hy2 : x0 ≤ y := by omega
      have hy3 : y ≤ -1 := by omega
      have HX := Lib.hid (And.intro hf (And.intro hz (And.intro hmod (And.intro hk (And.intro hy1 h10m))))); clear hf hz hmod hk hy1 hy hm hxm h10m
      go_wp2_with fail
      go_roundg (gk - 1)
      case measure => have := HX.out.1; have := HX.out.2.2.2.2.2; omega
      case rel => exact ⟨y, _, by go_num, rfl, by have := HX.out.1; have := HX.out.2.2.2.2.1; have := HX.out.2.2.2.2.2; omega, hy2, hy3, by rw [HX.out.2.1, dec_step m HX.out.2.2.2.2.2, ← HX.out.2.2.2.1, HX.out.2.2.2.2.1]; simp, HX.out.2.2.1⟩
    · have hm1 : Lib.decDigits m = [48 + UInt8.ofNat m] := by rw [Lib.decDigits_one (by omega)]; simp
      have hd := dig10_at m (by omega)
      unfold dig10 at hd
      have hcat : (⟨#[45]⟩ : ByteArray) ++ ⟨#[48 + UInt8.ofNat m]⟩ = ⟨#[45, 48 + UInt8.ofNat m]⟩ := by apply ByteArray.ext; simp
      have hcat2 : (⟨#[45, 48 + UInt8.ofNat m]⟩ : ByteArray) ++ ⟨d.toArray⟩ = ⟨(45 :: (48 + UInt8.ofNat m) :: d).toArray⟩ := by apply ByteArray.ext; simp
      have hng : -x = (m : Int) := by omega
      have hm10 : m < 10 := by omega
      have HX := Lib.hid (And.intro hz (And.intro hmod hm1)); clear hz hmod hm1 hf hr hq hm hxm
      go_wp2_with fail
      go_ret
      exact ⟨by rw [HX.out.1, HX.out.2.2]; rfl, HX.out.2.1⟩
set_option maxRecDepth 100000 in
theorem NumW_any (n : Int) (h0 : -9223372036854775808 ≤ n) (hn : n ≤ 9223372036854775807) (w : World) :
    Calls Tryz.prog 96 #[.int .i64 n] w fun r w' => r = .returned (encS (Lib.itoa n)) ∧ Mod (fun _ => False) w w' := by
  have hc : Calls Tryz.prog 120 #[.int .i64 n] w fun r w' => r = .returned (encS (Lib.itoa n)) ∧ Mod (fun _ => False) w w' := by
    by_cases hneg : n < 0
    · obtain ⟨u, rfl⟩ : ∃ u : Nat, n = -(u : Int) := ⟨n.natAbs, by omega⟩
      exact numn_any u (by omega) (by omega) w
    · obtain ⟨u, rfl⟩ : ∃ u : Nat, n = u := ⟨n.toNat, by omega⟩
      exact numw_any u (by omega) w
  have H0 := Lib.hid hc; clear hc
  go_enter Tryz.func96, Tryz.ntmps96
  go_wp2_with fail
  refine H0.out.mono ?_
  rintro r w1 ⟨rfl, hm⟩
  have H := Lib.hid hm; clear hm
  go_wp2_with fail
  go_ret
  exact ⟨rfl, H.out⟩
end Go.Proofs.YthhepnaanjicjaaGreatDoor

/- Layer 6, the document's answer: isCat, Level, Right. -/
namespace Go.Proofs.YthhepnaanjicjaaGreatDoor
open Go.RowKit Go.Shelf
set_option linter.unusedVariables false
set_option maxRecDepth 100000 in
set_option maxHeartbeats 1000000 in
theorem isCat_any (s : List UInt8) (hs : s.length ≤ 1000000) (w : World) :
    Calls Tryz.prog 93 #[.string ⟨s.toArray⟩] w fun r w' => r = .returned (.bool (rightB s)) ∧ Mod (fun _ => False) w w' := by
  have hg := get_any s hs w
  rw [getB_eq] at hg
  unfold encS at hg
  obtain ⟨z, hz⟩ : ∃ z, z = rightB s := ⟨_, rfl⟩
  rw [← hz]
  unfold rightB at hz
  have HG := Lib.hid (And.intro hg hz); clear hg hz
  go_enter Tryz.func93, Tryz.ntmps93
  go_wp2_with fail
  refine HG.out.1.mono ?_
  rintro r w1 ⟨hm, ⟨hn, rfl⟩ | ⟨p, n, A, c, hn, rfl, -⟩⟩
  · have hzf : z = false := by rw [HG.out.2, hn]; rfl
    subst hzf
    have H1 := Lib.hid hm; clear hm hn
    go_wp2_with fail
    go_ret
    exact ⟨rfl, H1.out.alloc _⟩
  · have hzf : z = true := by rw [HG.out.2, hn]; rfl
    subst hzf
    have H1 := Lib.hid hm; clear hm hn
    go_wp2_with fail
    go_ret
    exact ⟨rfl, H1.out.alloc _⟩
set_option maxRecDepth 100000 in
set_option maxHeartbeats 1000000 in
theorem reflevel_any (A : Option Addr) (n c : Nat) (l : List Entry) (s : List UInt8) (ok : Nat → Prop) (w : World) (h : labR.rel w ok [.slice A n c] l) :
    Calls Tryz.prog 51 #[.slice A n c, .string ⟨s.toArray⟩] w fun r w' => r = .returned (.int .i64 (levelL l s)) ∧ Mod (fun _ => False) w w' := by
  obtain ⟨rfl, hcap, -, hbig, -, hrow⟩ := lab_row h
  obtain ⟨z, hz⟩ : ∃ z, z = levelL l s := ⟨_, rfl⟩
  rw [← hz]
  have H0 := Lib.hid (And.intro hrow hz); clear h hrow hz
  go_enter Tryz.func51, Tryz.ntmps51
  go_wp2_with fail
  go_loopg [9] l.length (fun f si wr => ∃ (i : Nat), si = .int .i64 i ∧ i + f = l.length ∧ z = levelL (l.drop i) s ∧ Mod (fun _ => False) w wr)
  case atStart => exact ⟨0, rfl, by omega, H0.out.2, .refl _ _⟩
  case round =>
    obtain ⟨i, rfl, hi, hz, hmod⟩ := hrel
    by_cases hlt : i < l.length
    · obtain ⟨d, m, hx⟩ : ∃ d m, l[i]? = some (ent d m) := by
        obtain ⟨d, m, e⟩ := ent_cases l[i]
        exact ⟨d, m, by rw [← e]; simp [hlt]⟩
      obtain ⟨ad, rfl, -, hc0, hc1, hdl, -⟩ := row_ent (H0.out.1.step (w1 := wr) (ok1 := fun _ => True) (fun k hk hl => ⟨trivial, hmod.block k hl (fun h => h)⟩)) hx
      have hda : l.drop i = ent d m :: l.drop (i + 1) := by
        rw [List.drop_eq_getElem_cons hlt]
        rw [List.getElem?_eq_getElem hlt] at hx
        rw [Option.some.inj hx]
      rw [hda, levelL_cons, nm_ent, lev_ent] at hz
      by_cases hd : d = s
      · subst hd
        rw [if_pos rfl] at hz
        have HX := Lib.hid (And.intro hi (And.intro hz hmod)); clear hi hmod hx hda
        subst hz
        go_wp2_with fail
        go_ret
        exact ⟨rfl, HX.out.2.2.alloc _⟩
      · rw [if_neg hd] at hz
        have e2 : (d == s) = false := by simp [hd]
        have HX := Lib.hid (And.intro hi (And.intro hz hmod)); clear hi hz hmod hx hda
        go_wp2_with fail
        go_roundg (gk - 1)
        case measure => have := HX.out.1; omega
        case rel => exact ⟨i + 1, by go_num, by have := HX.out.1; omega, HX.out.2.1, HX.out.2.2.alloc _⟩
    · have hda : l.drop i = [] := List.drop_eq_nil_of_le (by omega)
      have hzf : z = 1 := by rw [hz, hda]; rfl
      subst hzf
      have HX := Lib.hid (And.intro hi hmod); clear hi hz hmod hda
      go_wp2_with fail
      go_ret
      exact ⟨rfl, HX.out.2⟩
set_option maxRecDepth 100000 in
set_option maxHeartbeats 800000 in
theorem refright_any (A : Option Addr) (n c : Nat) (l : List Entry) (ok : Nat → Prop) (w : World) (h : labR.rel w ok [.slice A n c] l) (hb : ∀ e ∈ l, (nm e).length ≤ 1000000) :
    Calls Tryz.prog 49 #[.slice A n c] w fun r w' => r = .returned (.bool (rightLB l)) ∧ Mod (fun _ => False) w w' := by
  obtain ⟨rfl, hcap, -, hbig, -, hrow⟩ := lab_row h
  obtain ⟨z, hz⟩ : ∃ z, z = rightLB l := ⟨_, rfl⟩
  rw [← hz]
  have H0 := Lib.hid (And.intro hb (And.intro hrow hz)); clear hb hrow h hz
  go_enter Tryz.func49, Tryz.ntmps49
  by_cases h8 : 8 < l.length
  · have e1 : decide ((8 : Int) < (l.length : Int)) = true := by simp; omega
    have hzf : z = false := by rw [H0.out.2.2]; exact rightLB_no fun hr => by have := hr.len; omega
    subst hzf
    go_wp2_with fail
    go_ret
    exact ⟨rfl, .refl _ _⟩
  have e1 : decide ((8 : Int) < (l.length : Int)) = false := by simp; omega
  go_wp2_with fail
  go_loopg [9] l.length (fun f si wr => ∃ i : Nat, si = .int .i64 i ∧ i + f = l.length ∧ (∀ e ∈ l.take i, rightB (nm e) = true ∧ 0 ≤ e.level ∧ e.level ≤ 3 ∧ e.level ≠ 1) ∧ (l.take i).Pairwise ltE ∧ Mod (fun _ => False) w wr)
  case atStart => exact ⟨0, rfl, by omega, by simp, by simp, .refl _ _⟩
  case round =>
    obtain ⟨i, rfl, hi, heach, hpair, hmod⟩ := hrel
    by_cases hlt : i < l.length
    · obtain ⟨d, m, hx⟩ : ∃ d m, l[i]? = some (ent d m) := by
        obtain ⟨d, m, e⟩ := ent_cases l[i]
        exact ⟨d, m, by rw [← e]; simp [hlt]⟩
      have hrow := H0.out.2.1.step (w1 := wr) (ok1 := ok) (fun k hk hl => ⟨hk, hmod.block k hl id⟩)
      obtain ⟨ad, rfl, -, hc0, hc1, hdl, hmr⟩ := row_ent hrow hx
      have hd6 : d.length ≤ 1000000 := by have := H0.out.1 _ (List.mem_of_getElem? hx); rwa [nm_ent] at this
      have htk : l.take (i + 1) = l.take i ++ [ent d m] := by rw [List.take_add_one, hx]; rfl
      have hcat := isCat_any d hd6 wr
      have HX := Lib.hid (And.intro hi (And.intro heach (And.intro hpair (And.intro hmod (And.intro hx (And.intro htk hrow)))))); clear hi heach hpair hmod hx htk hrow
      cases hb : rightB d with
      | false =>
        rw [hb] at hcat
        have HC := Lib.hid hcat; clear hcat
        have hzf : z = false := by rw [H0.out.2.2]; exact right_no HX.out.2.2.2.2.1 (.inl hb)
        subst hzf
        clear hb
        go_wp2_with fail
        refine HC.out.mono ?_
        rintro r w2 ⟨rfl, hm2⟩
        have H2 := Lib.hid (tr0 HX.out.2.2.2.1 hm2); clear hm2
        go_wp2_with fail
        go_ret
        exact ⟨rfl, H2.out⟩
      | true =>
        rw [hb] at hcat
        have HC := Lib.hid hcat; clear hcat
        have HB := Lib.hid hb; clear hb
        go_wp2_with fail
        refine HC.out.mono ?_
        rintro r w2 ⟨rfl, hm2⟩
        replace hc0 := cell_step hc0 (fun hl => hm2.block _ hl id)
        replace hc1 := cell_step hc1 (fun hl => hm2.block _ hl id)
        have H2 := Lib.hid (And.intro (tr0 HX.out.2.2.2.1 hm2) hm2); clear hm2
        by_cases hm : m = 0 ∨ m = 2 ∨ m = 3
        case neg =>
          have hzf : z = false := by rw [H0.out.2.2]; exact right_no HX.out.2.2.2.2.1 (.inr (by omega))
          subst hzf
          have e2 : (m != 0) = true := by simp; omega
          have e3 : (m != 2) = true := by simp; omega
          have e4 : (m != 3) = true := by simp; omega
          clear hm
          go_wp2_with fail
          go_ret
          exact ⟨rfl, H2.out.1⟩
        case pos =>
          have hlev : 0 ≤ m ∧ m ≤ 3 ∧ m ≠ 1 := by omega
          have HM := Lib.hid hlev; clear hlev
          by_cases hi0 : i = 0
          · subst hi0
            have ha0 : ad.add (0 * 2) = ad := by simp [Addr.add]
            rw [ha0] at hc0 hc1
            rcases hm with rfl | rfl | rfl
            all_goals
              go_wp2_with fail
              refine wp_region_mod (by kernel_rfl) (by kernel_rfl) ?_
              refine wpQuiet_hide (fun R hR => ?_)
              iterate 17 (first
                | ((first | refine wpQuiet_none hR rfl (fun K hK => ?_) | refine wpQuiet_take hR (by rfl) (fun K hK => ?_)); clear hR R; go_simp; refine hK _ (fun R hR => ?_); clear hK K)
                | (refine wpQuiet_skip hR (by rfl) (fun K hK => ?_); clear hR R; go_simp; refine hK _ (fun R hR => ?_); clear hK K))
              refine wpQuiet_end hR ?_
              clear hR R
              rintro _ ⟨W, rfl⟩
              have HW := Lib.hid (H2.out.1.trans W.2 (fun _ h => h.elim))
              clear hc0 hc1
              go_wp2_with fail
              go_roundg (gk - 1)
              case measure => have := HX.out.1; omega
              case rel =>
                obtain ⟨hi, heach, hpair, hmod, hx, htk, hrow⟩ := HX.out
                refine ⟨0 + 1, by go_num, by omega, ?_, take_pair hx hpair (fun k2 y hk hy => ?_), HW.out⟩
                · rw [htk]
                  intro e he
                  rcases List.mem_append.1 he with he | he
                  · exact heach e he
                  · rw [List.mem_singleton.1 he, nm_ent, lev_ent]
                    exact ⟨HB.out, HM.out⟩
                · omega
          · obtain ⟨k, hk⟩ : ∃ k, i = k + 1 := ⟨i - 1, by omega⟩
            obtain ⟨d2, m2, hy⟩ : ∃ d m, l[k]? = some (ent d m) := by
              obtain ⟨d, m, e⟩ := ent_cases (l[k]'(by omega))
              exact ⟨d, m, by rw [← e]; exact List.getElem?_eq_getElem (by omega)⟩
            obtain ⟨ad', hA, -, hp0, hp1, hdl2, -⟩ := row_ent HX.out.2.2.2.2.2.2 hy
            obtain rfl : ad = ad' := by injection hA
            have hd62 : d2.length ≤ 1000000 := by have := H0.out.1 _ (List.mem_of_getElem? hy); rwa [nm_ent] at this
            replace hp0 := cell_step hp0 (fun hl => H2.out.2.block _ hl id)
            have hwr : IntKind.i64.wrap ((i : Int) - 1) = (k : Int) := by rw [IntKind.wrap_i64]; omega
            have hkl : k < l.length := by omega
            have q0 : ∀ W : ModW w2, W.1.cell? (ad.add (k * 2)) = some (.string ⟨d2.toArray⟩) := fun W => ModW.cell hp0 W
            have q2 : ∀ W : ModW w2, W.1.cell? (ad.add (i * 2)) = some (.string ⟨d.toArray⟩) := fun W => ModW.cell hc0 W
            have hcm := fun W => refcompare_any d2 d hd62 hd6 W
            obtain ⟨zc, hzc⟩ : ∃ zc, zc = cmpB d2 d := ⟨_, rfl⟩
            have hcv := cmpB_val d2 d
            rw [← hzc] at hcv
            simp only [← hzc] at hcm
            unfold encS at hcm
            have e5 : decide (0 < i) = true := by simp; omega
            have hi1 : 0 < i := by omega
            have HA := Lib.hid hcm
            have HY := Lib.hid (And.intro hy (And.intro hk hzc))
            clear hcm hy hA hp0 hp1 hk hzc hi0 hd62
            by_cases hneg : zc = -1
            · subst hneg
              clear hcv
              rcases hm with rfl | rfl | rfl
              all_goals
                go_wp2_with fail
                refine wp_region_mod (by kernel_rfl) (by kernel_rfl) ?_
                refine wpQuiet_hide (fun R hR => ?_)
                iterate 17 (first
                  | ((first | refine wpQuiet_none hR rfl (fun K hK => ?_) | refine wpQuiet_take hR (by rfl) (fun K hK => ?_)); clear hR R; go_simp; first | (refine hK _ (fun R hR => ?_); clear hK K) | (apply Exists.intro; refine ⟨fun _ => ?_, hK _ (fun R hR => ?_)⟩; (go_at_call 73; refine quiet_mod (HA.out _)); clear hK K))
                  | (refine wpQuiet_skip hR (by rfl) (fun K hK => ?_); clear hR R; go_simp; refine hK _ (fun R hR => ?_); clear hK K))
                refine wpQuiet_end hR ?_
                clear hR R
                rintro _ ⟨W, rfl⟩
                have HW := Lib.hid (H2.out.1.trans W.2 (fun _ h => h.elim))
                clear hc0 hc1 q0 q2
                go_wp2_with fail
                go_roundg (gk - 1)
                case measure => have := HX.out.1; omega
                case rel =>
                  obtain ⟨hi, heach, hpair, hmod, hx, htk, hrow⟩ := HX.out
                  refine ⟨i + 1, by go_num, by omega, ?_, take_pair hx hpair (fun k2 y hk hy => ?_), HW.out⟩
                  · rw [htk]
                    intro e he
                    rcases List.mem_append.1 he with he | he
                    · exact heach e he
                    · rw [List.mem_singleton.1 he, nm_ent, lev_ent]
                      exact ⟨HB.out, HM.out⟩
                  · obtain ⟨h1, h2, h3⟩ := HY.out
                    obtain rfl : k = k2 := by omega
                    rw [h1] at hy
                    obtain rfl := Option.some.inj hy
                    unfold ltE ltB
                    rw [nm_ent, nm_ent, ← h3]
                    decide
            · have e6 : (zc != -1) = true := by simp [hneg]
              have hzf : z = false := by rw [H0.out.2.2]; have h1 := HX.out.2.2.2.2.1; rw [HY.out.2.1] at h1; exact right_no2 HY.out.1 h1 (by rw [← HY.out.2.2]; omega)
              subst hzf
              clear hcv hneg
              rcases hm with rfl | rfl | rfl
              all_goals
                go_wp2_with fail
                refine wp_region_mod (by kernel_rfl) (by kernel_rfl) ?_
                refine wpQuiet_hide (fun R hR => ?_)
                iterate 17 (first
                  | ((first | refine wpQuiet_none hR rfl (fun K hK => ?_) | refine wpQuiet_take hR (by rfl) (fun K hK => ?_)); clear hR R; go_simp; first | (refine hK _ (fun R hR => ?_); clear hK K) | (apply Exists.intro; refine ⟨fun _ => ?_, hK _ (fun R hR => ?_)⟩; (go_at_call 73; refine quiet_mod (HA.out _)); clear hK K))
                  | (refine wpQuiet_skip hR (by rfl) (fun K hK => ?_); clear hR R; go_simp; refine hK _ (fun R hR => ?_); clear hK K))
                refine wpQuiet_end hR ?_
                clear hR R
                rintro _ ⟨W, rfl⟩
                have HW := Lib.hid (H2.out.1.trans W.2 (fun _ h => h.elim))
                clear hc0 hc1 q0 q2
                go_wp2_with fail
                go_ret
                exact ⟨rfl, HW.out⟩
    · have hie : l.take i = l := List.take_of_length_le (by omega)
      rw [hie] at heach hpair
      have hzt : z = true := by rw [H0.out.2.2]; exact rightLB_iff.2 ⟨by omega, heach, asc_iff.2 hpair⟩
      subst hzt
      have HX := Lib.hid hmod; clear hmod heach hpair hie hi
      go_wp2_with fail
      go_ret
      exact ⟨rfl, HX.out⟩
end Go.Proofs.YthhepnaanjicjaaGreatDoor

/- Layer 6, the document's answer: Flows. -/
namespace Go.Proofs.YthhepnaanjicjaaGreatDoor
open Go.RowKit Go.Shelf
set_option linter.unusedVariables false
noncomputable def flA (a b : List Entry) (i : Nat) : Bool := (rightLB a && rightLB b) && (a.take i).all fun e => decide (e.level ≤ levelL b (nm e))
noncomputable def flB (a b : List Entry) (i : Nat) : Bool := flA a b a.length && (b.take i).all fun e => decide (levelL a (nm e) ≤ e.level)
theorem flA_succ {a b : List Entry} {i : Nat} {d : List UInt8} {m : Int} (h : a[i]? = some (ent d m)) : flA a b (i + 1) = (flA a b i && decide (m ≤ levelL b d)) := by
  unfold flA
  rw [List.take_add_one, h, List.all_append]
  simp [nm_ent, lev_ent, Bool.and_assoc]
theorem flB_succ {a b : List Entry} {i : Nat} {d : List UInt8} {m : Int} (h : b[i]? = some (ent d m)) : flB a b (i + 1) = (flB a b i && decide (levelL a d ≤ m)) := by
  unfold flB
  rw [List.take_add_one, h, List.all_append]
  simp [nm_ent, lev_ent, Bool.and_assoc]
theorem flB_end (a b : List Entry) : flB a b b.length = flowsLB a b := by
  unfold flB flA
  rw [List.take_length, List.take_length]
  cases ha : rightLB a with
  | false => rw [flowsLB_no fun h => by have := rightLB_iff.2 h.ra; rw [ha] at this; cases this]; rfl
  | true =>
    cases hb : rightLB b with
    | false => rw [flowsLB_no fun h => by have := rightLB_iff.2 h.rb; rw [hb] at this; cases this]; rfl
    | true =>
      have hf := flows_each (rightLB_iff.1 ha) (rightLB_iff.1 hb)
      rw [Bool.eq_iff_iff, flowsLB_iff, hf]
      simp [List.all_eq_true]
set_option maxRecDepth 100000 in
set_option maxHeartbeats 2000000 in
theorem refflows_any (A : Option Addr) (n c : Nat) (A2 : Option Addr) (n2 c2 : Nat) (a b : List Entry) (ok ok2 : Nat → Prop) (w : World) (h : labR.rel w ok [.slice A n c] a) (h2 : labR.rel w ok2 [.slice A2 n2 c2] b) (hla : ∀ e ∈ a, (nm e).length ≤ 1000000) (hlb : ∀ e ∈ b, (nm e).length ≤ 1000000) :
    Calls Tryz.prog 42 #[.slice A n c, .slice A2 n2 c2] w fun r w' => r = .returned (.bool (flowsLB a b)) ∧ Mod (fun _ => False) w w' := by
  have hr1 := refright_any A n c a ok w h hla
  obtain ⟨rfl, hcap, -, hbig, -, hrow⟩ := lab_row h
  obtain ⟨rfl, hcap2, -, hbig2, -, hrow2⟩ := lab_row h2
  obtain ⟨z, hz⟩ : ∃ z, z = flowsLB a b := ⟨_, rfl⟩
  rw [← hz]
  have hl1 := fun W (hW : Mod (fun _ => False) w W) s => reflevel_any A a.length c a s _ W (Rd.mod h hW (fun _ _ => id))
  have hl2 := fun W (hW : Mod (fun _ => False) w W) s => reflevel_any A2 b.length c2 b s _ W (Rd.mod h2 hW (fun _ _ => id))
  have H0 := Lib.hid (And.intro h (And.intro h2 (And.intro hrow (And.intro hrow2 (And.intro hla (And.intro hlb (And.intro hz (And.intro hl1 hl2)))))))); clear h h2 hrow hrow2 hla hlb hz hl1 hl2
  obtain ⟨p, hp⟩ : ∃ p, p = rightLB a := ⟨_, rfl⟩
  obtain ⟨q, hq⟩ : ∃ q, q = rightLB b := ⟨_, rfl⟩
  rw [← hp] at hr1
  have HP := Lib.hid (And.intro hp (And.intro hq hr1)); clear hp hq hr1
  have hfa : flA a b 0 = (p && q) := by unfold flA; rw [← HP.out.1, ← HP.out.2.1]; simp
  go_enter Tryz.func42, Tryz.ntmps42
  go_upto_region 1 with fail
  go_cut [5] (fun s5 wx => s5 = .bool (flA a b 0) ∧ Mod (fun _ => False) w wx)
  case first =>
    go_wp2_with fail
    refine HP.out.2.2.mono ?_
    rintro r w1 ⟨rfl, hm1⟩
    have hr2 := refright_any A2 b.length c2 b _ w1 (Rd.mod H0.out.2.1 hm1 (fun _ _ => id)) H0.out.2.2.2.2.2.1
    rw [← HP.out.2.1] at hr2
    have H1 := Lib.hid (And.intro hm1 hr2); clear hm1 hr2
    cases p with
    | false =>
      go_wp2_with fail
      go_meet
      exact ⟨by rw [hfa]; rfl, H1.out.1⟩
    | true =>
      go_wp2_with fail
      refine H1.out.2.mono ?_
      rintro r w2 ⟨rfl, hm2⟩
      have H2 := Lib.hid (tr0 H1.out.1 hm2); clear hm2
      go_wp2_with fail
      go_meet
      exact ⟨by rw [hfa]; rfl, H2.out⟩
  case rest =>
    obtain ⟨rfl, hmc⟩ := hcut
    have HC := Lib.hid hmc; clear hmc hfa
    go_wp2_with fail
    go_loopg [5, 18] a.length (fun f s5 si wr => ∃ i : Nat, si = .int .i64 i ∧ s5 = .bool (flA a b i) ∧ i + f = a.length ∧ Mod (fun _ => False) w wr)
    case atStart => exact ⟨0, rfl, rfl, by omega, HC.out⟩
    case round =>
      obtain ⟨i, rfl, rfl, hi, hmod⟩ := hrel
      by_cases hlt : i < a.length
      · obtain ⟨d, m, hx⟩ : ∃ d m, a[i]? = some (ent d m) := by
          obtain ⟨d, m, e⟩ := ent_cases a[i]
          exact ⟨d, m, by rw [← e]; simp [hlt]⟩
        obtain ⟨ad, rfl, -, hc0, hc1, hdl, -⟩ := row_ent (H0.out.2.2.1.step (w1 := wr) (ok1 := fun _ => True) (fun k hk hl => ⟨trivial, hmod.block k hl (fun h => h)⟩)) hx
        have hsc := flA_succ (a := a) (b := b) hx
        obtain ⟨o, ho⟩ : ∃ o, o = flA a b i := ⟨_, rfl⟩
        rw [← ho] at hsc ⊢
        have hlv := fun W hW => H0.out.2.2.2.2.2.2.2.2 W hW d
        obtain ⟨lv, hlve⟩ : ∃ lv, lv = levelL b d := ⟨_, rfl⟩
        rw [← hlve] at hsc
        simp only [← hlve] at hlv
        have HX := Lib.hid (And.intro hi (And.intro hmod (And.intro hsc hlv))); clear hi hmod hx hsc hlv hlve ho
        go_wp2_with fail
        obtain ⟨W1, hW1⟩ : ∃ W1, W1 = wr.alloc (.cells #[.string ⟨d.toArray⟩, .int .i64 m] 63) := ⟨_, rfl⟩
        rw [← hW1]
        have hmW : Mod (fun _ => False) wr W1 := by rw [hW1]; exact (Mod.refl _ _).alloc _
        obtain ⟨k0, k1⟩ := cells2 wr (.string ⟨d.toArray⟩) (.int .i64 m) 63
        rw [← hW1] at k0 k1
        obtain ⟨g, hg⟩ : ∃ g, g = wr.heap.size := ⟨_, rfl⟩
        rw [← hg] at k0 k1 ⊢
        have c0 : ∀ W : ModW W1, W.1.cell? ⟨g, 0, none⟩ = some (.string ⟨d.toArray⟩) := fun W => ModW.cell k0 W
        have c1 : ∀ W : ModW W1, W.1.cell? ⟨g, 1, none⟩ = some (.int .i64 m) := fun W => ModW.cell k1 W
        have HE := Lib.hid (tr0 HX.out.2.1 hmW)
        clear hW1 hg hmW hc0 hc1 k0 k1
        cases o with
        | false =>
          refine wp_region_mod (by kernel_rfl) (by kernel_rfl) ?_
          refine wpQuiet_hide (fun R hR => ?_)
          iterate 11 (first
            | ((first | refine wpQuiet_none hR rfl (fun K hK => ?_) | refine wpQuiet_take hR (by rfl) (fun K hK => ?_)); clear hR R; go_simp; refine hK _ (fun R hR => ?_); clear hK K)
            | (refine wpQuiet_skip hR (by rfl) (fun K hK => ?_); clear hR R; go_simp; refine hK _ (fun R hR => ?_); clear hK K))
          refine wpQuiet_end hR ?_
          clear hR R
          rintro _ ⟨W, rfl⟩
          clear c0 c1
          go_wp2_with fail
          go_roundg (gk - 1)
          case measure => have := HX.out.1; omega
          case rel => exact ⟨i + 1, by go_num, by rw [HX.out.2.2.1]; rfl, by have := HX.out.1; omega, HE.out.trans W.2 (fun _ h => h.elim)⟩
        | true =>
          refine wp_region_mod (by kernel_rfl) (by kernel_rfl) ?_
          refine wpQuiet_hide (fun R hR => ?_)
          iterate 11 (first
            | ((first | refine wpQuiet_none hR rfl (fun K hK => ?_) | refine wpQuiet_take hR (by rfl) (fun K hK => ?_)); clear hR R; go_simp; first | (refine hK _ (fun R hR => ?_); clear hK K) | (apply Exists.intro; refine ⟨fun _ => ?_, hK _ (fun R hR => ?_)⟩; (go_at_call 51; refine quiet_mod (HX.out.2.2.2 _ (HE.out.trans (Subtype.property _) (fun _ h => h.elim)))); clear hK K))
            | (refine wpQuiet_skip hR (by rfl) (fun K hK => ?_); clear hR R; go_simp; refine hK _ (fun R hR => ?_); clear hK K))
          refine wpQuiet_end hR ?_
          clear hR R
          rintro _ ⟨W, rfl⟩
          clear c0 c1
          go_wp2_with fail
          go_roundg (gk - 1)
          case measure => have := HX.out.1; omega
          case rel => exact ⟨i + 1, by go_num, by rw [HX.out.2.2.1]; rfl, by have := HX.out.1; omega, HE.out.trans W.2 (fun _ h => h.elim)⟩
      · obtain rfl : i = a.length := by omega
        have HX := Lib.hid hmod; clear hi hmod
        have hb0 : flA a b a.length = flB a b 0 := by unfold flB; simp
        rw [hb0]
        go_wp2_with fail
        go_loopg [5, 35] b.length (fun f s5 si wr => ∃ i : Nat, si = .int .i64 i ∧ s5 = .bool (flB a b i) ∧ i + f = b.length ∧ Mod (fun _ => False) w wr)
        case atStart => exact ⟨0, rfl, rfl, by omega, HX.out⟩
        case round =>
          clear HX hb0
          obtain ⟨i, rfl, rfl, hi, hmod⟩ := hrel
          by_cases hlt : i < b.length
          · obtain ⟨d, m, hx⟩ : ∃ d m, b[i]? = some (ent d m) := by
              obtain ⟨d, m, e⟩ := ent_cases b[i]
              exact ⟨d, m, by rw [← e]; simp [hlt]⟩
            obtain ⟨ad, rfl, -, hc0, hc1, hdl, -⟩ := row_ent (H0.out.2.2.2.1.step (w1 := wr) (ok1 := fun _ => True) (fun k hk hl => ⟨trivial, hmod.block k hl (fun h => h)⟩)) hx
            have hsc := flB_succ (a := a) (b := b) hx
            obtain ⟨o, ho⟩ : ∃ o, o = flB a b i := ⟨_, rfl⟩
            rw [← ho] at hsc ⊢
            have hlv := fun W hW => H0.out.2.2.2.2.2.2.2.1 W hW d
            obtain ⟨lv, hlve⟩ : ∃ lv, lv = levelL a d := ⟨_, rfl⟩
            rw [← hlve] at hsc
            simp only [← hlve] at hlv
            have HX := Lib.hid (And.intro hi (And.intro hmod (And.intro hsc hlv))); clear hi hmod hx hsc hlv hlve ho
            go_wp2_with fail
            obtain ⟨W1, hW1⟩ : ∃ W1, W1 = wr.alloc (.cells #[.string ⟨d.toArray⟩, .int .i64 m] 63) := ⟨_, rfl⟩
            rw [← hW1]
            have hmW : Mod (fun _ => False) wr W1 := by rw [hW1]; exact (Mod.refl _ _).alloc _
            obtain ⟨k0, k1⟩ := cells2 wr (.string ⟨d.toArray⟩) (.int .i64 m) 63
            rw [← hW1] at k0 k1
            obtain ⟨g, hg⟩ : ∃ g, g = wr.heap.size := ⟨_, rfl⟩
            rw [← hg] at k0 k1 ⊢
            have c0 : ∀ W : ModW W1, W.1.cell? ⟨g, 0, none⟩ = some (.string ⟨d.toArray⟩) := fun W => ModW.cell k0 W
            have c1 : ∀ W : ModW W1, W.1.cell? ⟨g, 1, none⟩ = some (.int .i64 m) := fun W => ModW.cell k1 W
            have HE := Lib.hid (tr0 HX.out.2.1 hmW)
            clear hW1 hg hmW hc0 hc1 k0 k1
            cases o with
            | false =>
              refine wp_region_mod (by kernel_rfl) (by kernel_rfl) ?_
              refine wpQuiet_hide (fun R hR => ?_)
              iterate 11 (first
                | ((first | refine wpQuiet_none hR rfl (fun K hK => ?_) | refine wpQuiet_take hR (by rfl) (fun K hK => ?_)); clear hR R; go_simp; refine hK _ (fun R hR => ?_); clear hK K)
                | (refine wpQuiet_skip hR (by rfl) (fun K hK => ?_); clear hR R; go_simp; refine hK _ (fun R hR => ?_); clear hK K))
              refine wpQuiet_end hR ?_
              clear hR R
              rintro _ ⟨W, rfl⟩
              clear c0 c1
              go_wp2_with fail
              go_roundg (gk - 1)
              case measure => have := HX.out.1; omega
              case rel => exact ⟨i + 1, by go_num, by rw [HX.out.2.2.1]; rfl, by have := HX.out.1; omega, HE.out.trans W.2 (fun _ h => h.elim)⟩
            | true =>
              refine wp_region_mod (by kernel_rfl) (by kernel_rfl) ?_
              refine wpQuiet_hide (fun R hR => ?_)
              iterate 11 (first
                | ((first | refine wpQuiet_none hR rfl (fun K hK => ?_) | refine wpQuiet_take hR (by rfl) (fun K hK => ?_)); clear hR R; go_simp; first | (refine hK _ (fun R hR => ?_); clear hK K) | (apply Exists.intro; refine ⟨fun _ => ?_, hK _ (fun R hR => ?_)⟩; (go_at_call 51; refine quiet_mod (HX.out.2.2.2 _ (HE.out.trans (Subtype.property _) (fun _ h => h.elim)))); clear hK K))
                | (refine wpQuiet_skip hR (by rfl) (fun K hK => ?_); clear hR R; go_simp; refine hK _ (fun R hR => ?_); clear hK K))
              refine wpQuiet_end hR ?_
              clear hR R
              rintro _ ⟨W, rfl⟩
              clear c0 c1
              go_wp2_with fail
              go_roundg (gk - 1)
              case measure => have := HX.out.1; omega
              case rel => exact ⟨i + 1, by go_num, by rw [HX.out.2.2.1]; rfl, by have := HX.out.1; omega, HE.out.trans W.2 (fun _ h => h.elim)⟩
          · obtain rfl : i = b.length := by omega
            have hzf : z = flB a b b.length := by rw [flB_end]; exact H0.out.2.2.2.2.2.2.1
            have HX := Lib.hid hmod; clear hi hmod
            rw [← hzf]
            go_wp2_with fail
            go_ret
            exact ⟨rfl, HX.out⟩
end Go.Proofs.YthhepnaanjicjaaGreatDoor

/- Layer 6, the document's answer: Same. -/
namespace Go.Proofs.YthhepnaanjicjaaGreatDoor
open Go.RowKit Go.Shelf
set_option linter.unusedVariables false
set_option maxRecDepth 100000 in
set_option maxHeartbeats 1000000 in
theorem refsame_any (A : Option Addr) (n c : Nat) (A2 : Option Addr) (n2 c2 : Nat) (a b : List Entry) (ok ok2 : Nat → Prop) (w : World) (h : labR.rel w ok [.slice A n c] a) (h2 : labR.rel w ok2 [.slice A2 n2 c2] b) :
    Calls Tryz.prog 43 #[.slice A n c, .slice A2 n2 c2] w fun r w' => r = .returned (.bool (sameL a b)) ∧ Mod (fun _ => False) w w' := by
  obtain ⟨z, hz⟩ : ∃ z, z = sameL a b := ⟨_, rfl⟩
  rw [← hz]
  obtain ⟨rfl, hcap, -, hbig, -, hrow⟩ := lab_row h
  obtain ⟨rfl, hcap2, -, hbig2, -, hrow2⟩ := lab_row h2
  have H0 := Lib.hid (And.intro hrow (And.intro hrow2 hz)); clear h h2 hrow hrow2 hz
  by_cases hle : a.length = b.length
  case neg =>
    have hzf : z = false := by rw [H0.out.2.2, sameL_len hle]
    subst hzf
    have e1 : ((a.length : Int) != (b.length : Int)) = true := by simp; omega
    go_enter Tryz.func43, Tryz.ntmps43
    go_wp2_with fail
    go_ret
    exact ⟨rfl, Mod.refl _ _⟩
  case pos =>
    have e1 : ((a.length : Int) != (b.length : Int)) = false := by simp; omega
    have HL := Lib.hid hle; clear hle
    go_enter Tryz.func43, Tryz.ntmps43
    go_wp2_with fail
    go_loopg [5, 13] a.length (fun f so si wr => ∃ i : Nat, si = .int .i64 i ∧ i + f = a.length ∧ z = sameL (a.drop i) (b.drop i) ∧ Mod (fun _ => False) w wr)
    case atStart => exact ⟨0, rfl, by omega, H0.out.2.2, Mod.refl _ _⟩
    case round =>
      obtain ⟨i, rfl, hi, hz, hmod⟩ := hrel
      by_cases hlt : i < a.length
      · have hlt2 : i < b.length := by rw [← HL.out]; exact hlt
        obtain ⟨d, m, hx⟩ : ∃ d m, a[i]? = some (ent d m) := by
          obtain ⟨d, m, e⟩ := ent_cases a[i]
          exact ⟨d, m, by rw [← e]; simp [hlt]⟩
        obtain ⟨d2, m2, hx2⟩ : ∃ d2 m2, b[i]? = some (ent d2 m2) := by
          obtain ⟨d2, m2, e⟩ := ent_cases b[i]
          exact ⟨d2, m2, by rw [← e]; simp [hlt2]⟩
        obtain ⟨ad, rfl, -, hc0, hc1, -, -⟩ := row_ent (H0.out.1.step (w1 := wr) (ok1 := ok) (fun k hk hl => ⟨hk, hmod.block k hl id⟩)) hx
        obtain ⟨ad2, rfl, -, hd0, hd1, -, -⟩ := row_ent (H0.out.2.1.step (w1 := wr) (ok1 := ok2) (fun k hk hl => ⟨hk, hmod.block k hl id⟩)) hx2
        have hda : a.drop i = ent d m :: a.drop (i + 1) := by
          rw [List.drop_eq_getElem_cons hlt]
          rw [List.getElem?_eq_getElem hlt] at hx
          rw [Option.some.inj hx]
        have hdb : b.drop i = ent d2 m2 :: b.drop (i + 1) := by
          rw [List.drop_eq_getElem_cons hlt2]
          rw [List.getElem?_eq_getElem hlt2] at hx2
          rw [Option.some.inj hx2]
        rw [hda, hdb, sameL] at hz
        have hq := run_neq_ent d d2 m m2
        obtain ⟨q, hqe⟩ : ∃ q, q = eqE (ent d m) (ent d2 m2) := ⟨_, rfl⟩
        rw [← hqe] at hz hq
        have HX := Lib.hid (And.intro hi (And.intro hz hmod)); clear hi hz hmod hx hx2 hda hdb hqe
        cases q with
        | true =>
          go_wp2_with fail
          go_quiet (fail)
          go_wp2_with fail
          go_roundg (gk - 1)
          case measure => have := HX.out.1; omega
          case rel => exact ⟨i + 1, by go_num, by have := HX.out.1; omega, by rw [HX.out.2.1]; rfl, HX.out.2.2.drewN _⟩
        | false =>
          go_wp2_with fail
          go_quiet (fail)
          go_wp2_with fail
          go_ret
          exact ⟨by rw [HX.out.2.1]; rfl, HX.out.2.2.drewN _⟩
      · have hda : a.drop i = [] := List.drop_eq_nil_of_le (by omega)
        have hdb : b.drop i = [] := List.drop_eq_nil_of_le (by rw [← HL.out]; omega)
        rw [hda, hdb] at hz
        have hzf : z = true := by rw [hz]; rfl
        subst hzf
        have HX := Lib.hid (And.intro hi hmod); clear hi hz hmod hda hdb
        have e2 : decide ((i : Int) < (a.length : Int)) = false := by simp; omega
        go_wp2_with fail
        go_ret
        exact ⟨rfl, HX.out.2⟩
end Go.Proofs.YthhepnaanjicjaaGreatDoor

/- Layer 6, the document's answer: Make. -/
namespace Go.Proofs.YthhepnaanjicjaaGreatDoor
open Go.RowKit Go.Shelf
set_option linter.unusedVariables false
theorem table_snoc (ns : List (List UInt8)) (c : List UInt8) (f : List UInt8 → Int) : tableL (ns ++ [c]) f = tableL ns f ++ if f c = 1 then [] else [ent c (f c)] := by
  unfold tableL
  rw [List.map_append, List.filter_append]
  congr 1
  by_cases h : f c = 1
  · simp [h, lev_ent]
  · simp [h, lev_ent]
set_option maxRecDepth 100000 in
set_option maxHeartbeats 4000000 in
theorem refmake_any (A : Option Addr) (n c : Nat) (l : List Entry) (ok : Nat → Prop) (w : World) (h : labR.rel w ok [.slice A n c] l) (hl : l.length ≤ 1000) (hb : ∀ e ∈ l, (nm e).length ≤ 1000000) :
    Calls Tryz.prog 48 #[.slice A n c] w fun r w' => ∃ A' c', r = .returned (.tuple #[.slice A' (resM l).1.length c', .int .i64 (resM l).2]) ∧ OwnR EntryR 63 w' w.heap.size (fun _ => False) (.slice A' (resM l).1.length c') (resM l).1 ∧ Mod (fun _ => False) w w' := by
  have hall := labR_each h
  obtain ⟨rfl, hcap, -, hbig, -, hrow⟩ := lab_row h
  obtain ⟨z, hz⟩ : ∃ z, z = resM l := ⟨_, rfl⟩
  rw [← hz]
  have H0 := Lib.hid (And.intro hrow (And.intro hz (And.intro hb hall))); clear h hrow hz hb hall
  go_enter Tryz.func48, Tryz.ntmps48
  go_wp2_with fail
  go_loopg [4, 15] l.length (fun f so si wr => ∃ (i : Nat) (Ao : Option Addr) (co : Nat), si = .int .i64 i ∧ so = .slice Ao i co ∧ i + f = l.length ∧ makeE (l.take i) = 0 ∧ wr.ownsRow w.heap.size 9 1 (.slice Ao i co) i (scells ((l.take i).map nm)) ∧ Mod (fun _ => False) w wr)
  case atStart => exact ⟨0, none, 0, rfl, rfl, by omega, rfl, World.ownsRow_nil _ _ _ _, .refl _ _⟩
  case round =>
    obtain ⟨i, Ao, co, rfl, rfl, hi, hme, ho, hmod⟩ := hrel
    by_cases hlt : i < l.length
    · obtain ⟨d, m, hx⟩ : ∃ d m, l[i]? = some (ent d m) := by
        obtain ⟨d, m, e⟩ := ent_cases l[i]
        exact ⟨d, m, by rw [← e]; simp [hlt]⟩
      obtain ⟨ad, rfl, -, hc0, hc1, hdl, -⟩ := row_ent (H0.out.1.step (w1 := wr) (ok1 := fun _ => True) (fun k hk hl => ⟨trivial, hmod.block k hl (fun h => h)⟩)) hx
      have hd6 : d.length ≤ 1000000 := by have := H0.out.2.2.1 _ (List.mem_of_getElem? hx); rwa [nm_ent] at this
      have htk : l.take (i + 1) = l.take i ++ [ent d m] := by rw [List.take_add_one, hx]; rfl
      have hspl : l = l.take i ++ (ent d m :: l.drop (i + 1)) := by
        have := List.take_append_drop i l
        rw [List.drop_eq_getElem_cons hlt] at this
        rw [List.getElem?_eq_getElem hlt] at hx
        rw [Option.some.inj hx] at this
        exact this.symm
      have hbad : ∀ v, makeE (ent d m :: l.drop (i + 1)) = v → makeE l = v := fun v hv => by rw [hspl, makeE_append, if_pos hme, hv]
      have hgood : rightB d = true → ¬ m < 0 → ¬ 3 < m → makeE (l.take (i + 1)) = 0 := fun h1 h2 h3 => by
        rw [htk, makeE_append, if_pos hme, makeE_cons, nm_ent, lev_ent, if_neg (by simp [h1]), if_neg (by omega)]; rfl
      have htks : scells ((l.take (i + 1)).map nm) = scells ((l.take i).map nm) ++ [encS d] := by rw [htk, List.map_append, scells_app]; simp [scells, nm_ent]
      have hlen : (scells ((l.take i).map nm)).length = i := by rw [scells_len, List.length_map, List.length_take]; omega
      obtain ⟨sc, hsc⟩ : ∃ sc, sc = scells ((l.take i).map nm) := ⟨_, rfl⟩
      rw [← hsc] at ho htks hlen
      have HX := Lib.hid (And.intro hi (And.intro hbad (And.intro hgood (And.intro ho (And.intro hmod (And.intro htks hlen))))))
      clear hi hme hbad hgood ho hmod htks hlen htk hspl hx hsc
      go_wp2_with fail
      obtain ⟨W1, hW1⟩ : ∃ W1, W1 = wr.alloc (.cells #[.string ⟨d.toArray⟩, .int .i64 m] 63) := ⟨_, rfl⟩
      rw [← hW1]
      have hmW : Mod (fun _ => False) wr W1 := by rw [hW1]; exact (Mod.refl _ _).alloc _
      obtain ⟨k0, k1⟩ := cells2 wr (.string ⟨d.toArray⟩) (.int .i64 m) 63
      rw [← hW1] at k0 k1
      obtain ⟨g, hg⟩ : ∃ g, g = wr.heap.size := ⟨_, rfl⟩
      rw [← hg] at k0 k1 ⊢
      have hcat := isCat_any d hd6 W1
      have H1 := Lib.hid (And.intro k0 (And.intro k1 hmW)); clear hW1 hg hmW hc0 hc1 k0 k1
      cases hbd : rightB d with
      | false =>
        rw [hbd] at hcat
        have hzf : z = ([], 20) := by
          rw [H0.out.2.1]
          unfold resM
          rw [HX.out.2.1 20 (by rw [makeE_cons, nm_ent, if_pos hbd]), if_pos (by decide)]
        have HC := Lib.hid hcat; clear hcat hbd
        subst hzf
        refine HC.out.mono ?_
        rintro r w2 ⟨rfl, hm2⟩
        have HM := Lib.hid (tr0 (tr0 HX.out.2.2.2.2.1 H1.out.2.2) hm2); clear hm2
        go_wp2_with fail
        go_ret2
        exact ⟨none, 0, rfl, OwnR.nil _ _ _ _ _, HM.out⟩
      | true =>
        rw [hbd] at hcat
        have HC := Lib.hid (And.intro hcat hbd); clear hcat hbd
        refine HC.out.1.mono ?_
        rintro r w2 ⟨rfl, hm2⟩
        have q0 := (hm2.cell (cell_lt H1.out.1) id).trans H1.out.1
        have q1 := (hm2.cell (cell_lt H1.out.2.1) id).trans H1.out.2.1
        have hm02 := tr0 H1.out.2.2 hm2
        have H2 := Lib.hid hm02; clear hm2 hm02
        by_cases hm : m < 0 ∨ 3 < m
        · have hzf : z = ([], 21) := by
            rw [H0.out.2.1]
            unfold resM
            rw [HX.out.2.1 21 (by rw [makeE_cons, nm_ent, lev_ent, if_neg (by simp [HC.out.2]), if_pos hm]), if_pos (by decide)]
          subst hzf
          by_cases hm0 : m < 0
          · go_wp2_with fail
            go_ret2
            exact ⟨none, 0, rfl, OwnR.nil _ _ _ _ _, tr0 HX.out.2.2.2.2.1 H2.out⟩
          · have hm3 : 3 < m := by omega
            go_wp2_with fail
            go_ret2
            exact ⟨none, 0, rfl, OwnR.nil _ _ _ _ _, tr0 HX.out.2.2.2.2.1 H2.out⟩
        · have hm0 : ¬ m < 0 := by omega
          have hm3 : ¬ 3 < m := by omega
          have hg1 := HX.out.2.2.1 HC.out.2 (by omega) (by omega)
          have HG := Lib.hid hg1; clear hg1 hm
          have ho2 := own_move HX.out.2.2.2.1 (fun k hk => H2.out.block k (own_lt HX.out.2.2.2.1 k hk).2 id)
          have hbs := (tr0 HX.out.2.2.2.2.1 H2.out).size
          have HO := Lib.hid ho2; clear ho2
          go_wp2_with (at_builtin; refine append_one w.heap.size rfl _ _ 24 9 (.string ⟨#[]⟩) 16 rfl Tryz.underlying24 (by kernel_rfl) rfl (by decide) (.slice Ao i co) sc (encS d) rfl rfl rfl (by rw [HX.out.2.2.2.2.2.2]; exact HO.out) hbs (by rw [HX.out.2.2.2.2.2.2]; omega) ?_)
          intro A4 c4 w4 hown4 hg4 _
          rw [HX.out.2.2.2.2.2.2] at hown4 ⊢
          have H4 := Lib.hid (And.intro hown4 hg4); clear hown4 hg4
          go_wp2_with fail
          go_roundg (gk - 1)
          case measure => have := HX.out.1; omega
          case rel =>
            refine ⟨i + 1, A4, c4, by go_num, rfl, by have := HX.out.1; omega, HG.out, ?_, (tr0 HX.out.2.2.2.2.1 H2.out).grown H4.out.2 (fun k hk => .inr (own_lt HO.out k hk.symm).1)⟩
            · rw [HX.out.2.2.2.2.2.1]
              exact H4.out.1
    · have hie : l.take i = l := List.take_of_length_le (by omega)
      have hil : i = l.length := by omega
      subst hil
      rw [hie] at ho hme
      have hmn : (l.map nm).length = l.length := List.length_map _
      have ho' : wr.ownsRow w.heap.size 9 1 (.slice Ao l.length co) (l.map nm).length (scells (l.map nm)) := by rw [hmn]; exact ho
      have hrd := reads_strs ho' (fun x hx => by obtain ⟨e, he, rfl⟩ := List.mem_map.1 hx; exact (H0.out.2.2.2 e he).1) (by rw [hmn]; omega)
      have hst := refsort_any Ao l.length co ((l.map nm).map mkStr) _ wr hrd (by rw [List.length_map, hmn]; omega) (fun s hs => by
        obtain ⟨x, hx, rfl⟩ := List.mem_map.1 hs
        rw [mkStr_size]
        obtain ⟨e, he, rfl⟩ := List.mem_map.1 hx
        exact H0.out.2.2.1 e he)
      rw [map_back, sortR_eq] at hst
      obtain ⟨zs, hzs⟩ : ∃ zs, zs = sortS (l.map nm) := ⟨_, rfl⟩
      rw [← hzs] at hst
      have hzl : zs.length ≤ 1000 := by rw [hzs]; have := sortS_len (l.map nm); omega
      have hzb : ∀ x ∈ zs, x.length ≤ 1000000 := fun x hx => by
        rw [hzs, (sortS_spec _).2] at hx
        obtain ⟨e, he, rfl⟩ := List.mem_map.1 hx.1
        exact H0.out.2.2.1 e he
      have hmk : makeL l = tableL zs (lastL l) := by unfold makeL; rw [hzs]
      have HX := Lib.hid (And.intro hmod (And.intro hst (And.intro hme (And.intro hzb hmk)))); clear hmod hst hme hzb hmk ho ho' hrd hie hi hzs
      go_wp2_with fail
      refine HX.out.2.1.mono ?_
      rintro r w1 ⟨A1, c1, rfl, ho1, hm1⟩
      have H1 := Lib.hid (And.intro (tr0 HX.out.1 hm1) ho1); clear ho1 hm1
      obtain ⟨gO, hgO⟩ : ∃ g, g = gk := ⟨_, rfl⟩
      subst hgO
      obtain ⟨wO, hwO⟩ : ∃ x, x = wr := ⟨_, rfl⟩
      subst hwO
      go_wp2_with fail
      go_loopg [7, 40] zs.length (fun f so si wr => ∃ (i : Nat) (Ao : Option Addr) (co : Nat), si = .int .i64 i ∧ so = .slice Ao (tableL (zs.take i) (lastL l)).length co ∧ i + f = zs.length ∧ OwnR EntryR 63 wr w1.heap.size (fun _ => False) (.slice Ao (tableL (zs.take i) (lastL l)).length co) (tableL (zs.take i) (lastL l)) ∧ Mod (fun _ => False) w1 wr)
      case atStart => exact ⟨0, none, 0, rfl, rfl, by omega, OwnR.nil _ _ _ _ _, .refl _ _⟩
      case round =>
        obtain ⟨i, A2, c2, rfl, rfl, hi, hO, hmod⟩ := hrel
        obtain ⟨lst, hlst⟩ : ∃ lst, lst = tableL (zs.take i) (lastL l) := ⟨_, rfl⟩
        have hll : lst.length ≤ i := by rw [hlst]; unfold tableL; refine Nat.le_trans (List.length_filter_le _ _) ?_; rw [List.length_map, List.length_take]; omega
        rw [← hlst] at hO ⊢
        by_cases hlt : i < zs.length
        · obtain ⟨x, hx⟩ : ∃ x, zs[i]? = some x := ⟨zs[i], by simp [hlt]⟩
          have hxb := HX.out.2.2.2.1 x (List.mem_of_getElem? hx)
          obtain ⟨g, c4, hv, hc0⟩ := own_row H1.out.2 hx
          obtain ⟨rfl, rfl⟩ : A1 = some ⟨g, 0, none⟩ ∧ c1 = c4 := by simpa using hv
          replace hc0 := (hmod.cell (cell_lt hc0) id).trans hc0
          have htk : tableL (zs.take (i + 1)) (lastL l) = lst ++ if lastL l x = 1 then [] else [ent x (lastL l x)] := by rw [List.take_add_one, hx, Option.toList_some, table_snoc, hlst]
          have HY := Lib.hid (And.intro hi (And.intro hO (And.intro hmod htk))); clear hi hO hmod htk hx hv hlst
          go_wp2_with fail
          obtain ⟨gI, hgI⟩ : ∃ g, g = gk := ⟨_, rfl⟩
          subst hgI
          obtain ⟨wI, hwI⟩ : ∃ x, x = wr := ⟨_, rfl⟩
          subst hwI
          go_loopg [10, 46] l.length (fun f s10 sj wr => ∃ (j : Nat), sj = .int .i64 j ∧ s10 = .int .i64 (lastL (l.take j) x) ∧ j + f = l.length ∧ Mod (fun _ => False) wI wr)
          case atStart => exact ⟨0, rfl, rfl, by omega, .refl _ _⟩
          case round =>
            obtain ⟨j, rfl, rfl, hj, hmj⟩ := hrel
            by_cases hjl : j < l.length
            · obtain ⟨d, m, hx⟩ : ∃ d m, l[j]? = some (ent d m) := by
                obtain ⟨d, m, e⟩ := ent_cases l[j]
                exact ⟨d, m, by rw [← e]; simp [hjl]⟩
              obtain ⟨ad, rfl, -, hd0, hd1, hdl, -⟩ := row_ent (H0.out.1.step (w1 := wr) (ok1 := fun _ => True) (fun k hk hl => ⟨trivial, (tr0 (tr0 H1.out.1 HY.out.2.2.1) hmj).block k hl (fun h => h)⟩)) hx
              have hls : lastL (l.take (j + 1)) x = if d = x then m else lastL (l.take j) x := by rw [List.take_add_one, hx, Option.toList_some, lastL_snoc, nm_ent, lev_ent]
              by_cases hdx : d = x
              · subst hdx
                rw [if_pos rfl] at hls
                have HZ := Lib.hid (And.intro hj (And.intro hmj hls)); clear hj hmj hls hx
                go_wp2_with fail
                go_roundg (gk - 1)
                case measure => have := HZ.out.1; omega
                case rel => exact ⟨j + 1, by go_num, by rw [HZ.out.2.2], by have := HZ.out.1; omega, HZ.out.2.1.alloc _⟩
              · rw [if_neg hdx] at hls
                have e2 : (d == x) = false := by simp [hdx]
                have HZ := Lib.hid (And.intro hj (And.intro hmj hls)); clear hj hmj hls hx
                go_wp2_with fail
                go_roundg (gk - 1)
                case measure => have := HZ.out.1; omega
                case rel => exact ⟨j + 1, by go_num, by rw [HZ.out.2.2], by have := HZ.out.1; omega, HZ.out.2.1.alloc _⟩
            · have hje : l.take j = l := List.take_of_length_le (by omega)
              rw [hje]
              obtain ⟨p, hp⟩ : ∃ p, p = lastL l x := ⟨_, rfl⟩
              have hpr : 0 ≤ p ∧ p ≤ 3 := by rw [hp]; exact lastL_range HX.out.2.2.1 x
              have htk := HY.out.2.2.2
              rw [← hp] at htk ⊢
              have hO2 := HY.out.2.1.mod hmj (fun _ _ => id) (fun _ _ _ => id)
              have hm12 := tr0 HY.out.2.2.1 hmj
              have hE : ∀ (W : World) (T : Nat → Prop), EntryR.rel W T [.string ⟨x.toArray⟩, .int .i64 p] (ent x p) := fun W T => EntryR_mk _ _ (ent x p) (by rw [show (ent x p).cat.size = x.length from mkStr_size x]; omega) (by rw [lev_ent]; exact inR_mk (by omega))
              have hsz := hm12.size
              have HZ := Lib.hid (And.intro htk (And.intro hO2 (And.intro hm12 hE))); clear hj hmj hje hp htk hO2 hm12 hE
              by_cases hp1 : p = 1
              · subst hp1
                go_wp2_with fail
                go_roundg (gI - 1)
                case measure => have := HY.out.1; omega
                case rel =>
                  have ht := HZ.out.1
                  simp only [if_true, List.append_nil] at ht
                  exact ⟨i + 1, A2, c2, by go_num, by rw [ht], by have := HY.out.1; omega, by rw [ht]; exact HZ.out.2.1, HZ.out.2.2.1⟩
              · have e3 : (p != 1) = true := by simp [hp1]
                have HP := Lib.hid hp1; clear hp1
                go_wp2_with (first
                  | (refine wpList_slice1_agg rfl 23 63 _ rfl Tryz.underlying23 zeroEnt.toArray [.string ⟨x.toArray⟩, .int .i64 p] Tryz.info_ent2 (by decide) rfl rfl ?_)
                  | (at_builtin; refine append_rd (R := EntryR) w1.heap.size rfl _ _ 23 63 (.agg zeroEnt.toArray) 24 rfl Tryz.underlying23 Tryz.info_ent3 rfl (by decide) (.slice A2 lst.length c2) lst (ent x p) [.string ⟨x.toArray⟩, .int .i64 p] (fun _ => False) rfl rfl HZ.out.2.1 (HZ.out.2.2.2 _ _) hsz (by omega) ?_))
                intro A8 c8 w8 hO8 hm8 hn8
                have H8 := Lib.hid (And.intro hO8 hm8); clear hO8 hm8 hn8
                go_wp2_with fail
                go_roundg (gI - 1)
                case measure => have := HY.out.1; omega
                case rel =>
                  have ht := HZ.out.1
                  rw [if_neg HP.out] at ht
                  refine ⟨i + 1, A8, c8, by go_num, by rw [ht]; simp, by have := HY.out.1; omega, by rw [ht]; simpa using H8.out.1, HZ.out.2.2.1.trans H8.out.2 (fun k hk => .inr ?_)⟩
                  obtain ⟨cells, hown, _⟩ := HZ.out.2.1
                  exact (own_lt hown k hk).1
        · have hie : zs.take i = zs := List.take_of_length_le (by omega)
          rw [hie, ← HX.out.2.2.2.2] at hlst
          have HY := Lib.hid (And.intro hO (And.intro hmod hlst)); clear hO hmod hlst hie
          by_cases h8 : 8 < lst.length
          · have hzf : z = ([], 13) := by
              rw [H0.out.2.1]
              unfold resM
              rw [if_neg (by simp [HX.out.2.2.1]), if_pos (by rw [← HY.out.2.2]; exact h8)]
            subst hzf
            have e4 : decide ((8 : Int) < (lst.length : Int)) = true := by simp; omega
            go_wp2_with fail
            go_ret2
            exact ⟨none, 0, rfl, OwnR.nil _ _ _ _ _, tr0 H1.out.1 HY.out.2.1⟩
          · have hzf : z = (lst, 0) := by
              rw [H0.out.2.1]
              unfold resM
              rw [if_neg (by simp [HX.out.2.2.1]), if_neg (by rw [← HY.out.2.2]; exact h8), ← HY.out.2.2]
            subst hzf
            have e4 : decide ((8 : Int) < (lst.length : Int)) = false := by simp; omega
            go_wp2_with fail
            go_ret2
            refine ⟨A2, c2, rfl, ?_, tr0 H1.out.1 HY.out.2.1⟩
            obtain ⟨cells, hown, hr⟩ := HY.out.1
            exact ⟨cells, own_base_le hown H1.out.1.size, hr⟩
end Go.Proofs.YthhepnaanjicjaaGreatDoor

/- Layer 6, the document's answer: Mix. -/
namespace Go.Proofs.YthhepnaanjicjaaGreatDoor
open Go.RowKit Go.Shelf
set_option linter.unusedVariables false
def pk (g : Bool) (m n : Int) : Int := if decide (m < n) = g then n else m
theorem pk_pick (g : Bool) (m n : Int) : pk g m n = m ∨ pk g m n = n := by unfold pk; split <;> simp
theorem pk_max : pk true = fun m n => max m n := by
  funext m n; unfold pk
  by_cases h : m < n
  · simp [h]; omega
  · simp [h]; omega
theorem pk_min : pk false = fun m n => min m n := by
  funext m n; unfold pk
  by_cases h : m < n
  · simp [h]; omega
  · simp [h]; omega
set_option maxRecDepth 100000 in
set_option maxHeartbeats 4000000 in
theorem refmix_any (A : Option Addr) (n c : Nat) (A2 : Option Addr) (n2 c2 : Nat) (a b : List Entry) (gr : Bool) (ok ok2 : Nat → Prop) (w : World) (h : labR.rel w ok [.slice A n c] a) (h2 : labR.rel w ok2 [.slice A2 n2 c2] b) (hla : ∀ e ∈ a, (nm e).length ≤ 1000000) (hlb : ∀ e ∈ b, (nm e).length ≤ 1000000) :
    Calls Tryz.prog 40 #[.slice A n c, .slice A2 n2 c2, .bool gr] w fun r w' => ∃ A' c', r = .returned (.tuple #[.slice A' (resX (pk gr) a b).1.length c', .int .i64 (resX (pk gr) a b).2]) ∧ OwnR EntryR 63 w' w.heap.size (fun _ => False) (.slice A' (resX (pk gr) a b).1.length c') (resX (pk gr) a b).1 ∧ Mod (fun _ => False) w w' := by
  obtain ⟨z, hz⟩ : ∃ z, z = resX (pk gr) a b := ⟨_, rfl⟩
  rw [← hz]
  have hr1 := refright_any A n c a ok w h hla
  have hr2 := fun W (hW : Mod (fun _ => False) w W) => refright_any A2 n2 c2 b _ W (Rd.mod h2 hW (fun _ _ => id)) hlb
  have hl1 := fun W (hW : Mod (fun _ => False) w W) s => reflevel_any A n c a s _ W (Rd.mod h hW (fun _ _ => id))
  have hl2 := fun W (hW : Mod (fun _ => False) w W) s => reflevel_any A2 n2 c2 b s _ W (Rd.mod h2 hW (fun _ _ => id))
  have H0 := Lib.hid (And.intro h (And.intro h2 (And.intro hz (And.intro hl1 (And.intro hl2 (And.intro hla hlb)))))); clear hz hl1 hl2 hla hlb
  cases hra : rightLB a with
  | false =>
    rw [hra] at hr1
    have hzf : z = ([], 21) := by rw [H0.out.2.2.1]; unfold resX; rw [if_neg (by rw [hra]; simp)]
    subst hzf
    have HR := Lib.hid hr1; clear hr1 hr2 hra h h2
    go_enter Tryz.func40, Tryz.ntmps40
    go_wp2_with fail
    refine HR.out.mono ?_
    rintro r w1 ⟨rfl, hm⟩
    have H1 := Lib.hid hm; clear hm
    go_wp2_with fail
    go_ret2
    exact ⟨none, 0, rfl, OwnR.nil _ _ _ _ _, H1.out⟩
  | true =>
    rw [hra] at hr1
    cases hrb : rightLB b with
    | false =>
      have hzf : z = ([], 21) := by rw [H0.out.2.2.1]; unfold resX; rw [if_neg (by rw [hrb]; simp)]
      subst hzf
      simp only [hrb] at hr2
      have HR := Lib.hid (And.intro hr1 hr2); clear hr1 hr2 hra hrb h h2
      go_enter Tryz.func40, Tryz.ntmps40
      go_wp2_with fail
      refine HR.out.1.mono ?_
      rintro r w1 ⟨rfl, hm⟩
      have H1 := Lib.hid hm; clear hm
      go_wp2_with fail
      refine (HR.out.2 w1 H1.out).mono ?_
      rintro r w2 ⟨rfl, hm⟩
      have H2 := Lib.hid (tr0 H1.out hm); clear hm
      go_wp2_with fail
      go_ret2
      exact ⟨none, 0, rfl, OwnR.nil _ _ _ _ _, H2.out⟩
    | true =>
      simp only [hrb] at hr2
      have hR1 := rightLB_iff.1 hra
      have hR2 := rightLB_iff.1 hrb
      have hzf : z = resM (mixR (pk gr) a b) := by
        rw [H0.out.2.2.1]; unfold resX; rw [if_pos ⟨hra, hrb⟩, resM_same (pk_pick gr) hR1 hR2]
      have ha8 := hR1.len
      have hb8 := hR2.len
      obtain ⟨rfl, hcap, -, hbig, hnil, hrow⟩ := lab_row (Rd.bound h)
      obtain ⟨rfl, hcap2, -, hbig2, hnil2, hrow2⟩ := lab_row (Rd.bound h2)
      have HR := Lib.hid (And.intro hr1 (And.intro hr2 (And.intro hzf (And.intro hR1 (And.intro hR2 (And.intro hrow hrow2)))))); clear hr1 hr2 hra hrb hzf hR1 hR2 h h2 hrow hrow2
      go_enter Tryz.func40, Tryz.ntmps40
      go_wp2_with fail
      refine HR.out.1.mono ?_
      rintro r w1 ⟨rfl, hm⟩
      have H1 := Lib.hid hm; clear hm
      go_wp2_with fail
      refine (HR.out.2.1 w1 H1.out).mono ?_
      rintro r w2 ⟨rfl, hm⟩
      have H2 := Lib.hid (tr0 H1.out hm); clear hm
      have hrA := fun W (hW : Mod (fun _ => False) w W) => HR.out.2.2.2.2.2.1.step (w1 := W) (ok1 := fun k => ((ok k ∨ ok2 k) ∧ k < w.heap.size) ∧ some k ≠ (Value.slice (some ⟨w2.heap.size, 0, none⟩) 0 0).ownBlock) fun k hk hl => ⟨⟨⟨.inl hk.1, hl⟩, fun e => by simp only [Value.ownBlock, Option.some.injEq] at e; have := H2.out.size; omega⟩, hW.block k hl id⟩
      have HA := Lib.hid (Rd.RowOf.weak (hrA (w2.alloc (.cells #[] 63)) (H2.out.alloc _))); clear hrA
      go_wp2_with (at_builtin; refine append_all2 (R := EntryR) w2.heap.size rfl _ _ 22 23 63 (.agg zeroEnt.toArray) 24 rfl Tryz.underlying22 Tryz.underlying23 Tryz.info_ent3 rfl (.slice (some ⟨w2.heap.size, 0, none⟩) 0 0) [] a (fun k => (ok k ∨ ok2 k) ∧ k < w.heap.size) A c rfl rfl ?c1 HA.out hnil ?c3 ?c4 (by decide) ?_)
      case c1 => exact ⟨[], World.ownsRow_made w2 #[] 0 (Nat.le_refl _) (by decide) rfl, fun j x h => by simp at h⟩
      case c3 => simp
      case c4 => simp only [List.length_nil]; omega
      intro A3 c3 w3 hO3 hm3 hn3
      have hm03 : Mod (fun _ => False) w w3 := (H2.out.alloc (.cells #[] 63)).trans hm3 (fun k hk => .inr (by simp only [Value.ownBlock, Option.some.injEq] at hk; have := H2.out.size; omega))
      have hs3 : w2.heap.size ≤ w3.heap.size := by have := hm3.size; simp at this; omega
      have hlow : ∀ k, (Value.slice A3 a.length c3).ownBlock = some k → w2.heap.size ≤ k := fun k hk => by obtain ⟨cells, hown, _⟩ := hO3; exact (own_lt hown k hk).1
      have hrB := Rd.RowOf.weak (HR.out.2.2.2.2.2.2.step (w1 := w3) (ok1 := fun k => ((ok k ∨ ok2 k) ∧ k < w.heap.size) ∧ some k ≠ (Value.slice A3 a.length c3).ownBlock) fun k hk hl => ⟨⟨⟨.inr hk.1, hl⟩, fun e => by have := hlow k e.symm; have := H2.out.size; omega⟩, hm03.block k hl id⟩)
      have H3 := Lib.hid (And.intro hO3 (And.intro hm03 (And.intro hs3 hrB))); clear hO3 hm03 hs3 hrB hm3 hn3 hlow HA
      go_wp2_with (at_builtin; refine append_all2 (R := EntryR) w2.heap.size rfl _ _ 22 23 63 (.agg zeroEnt.toArray) 24 rfl Tryz.underlying22 Tryz.underlying23 Tryz.info_ent3 rfl (.slice A3 a.length c3) a b (fun k => (ok k ∨ ok2 k) ∧ k < w.heap.size) A2 c2 rfl rfl H3.out.1 H3.out.2.2.2 hnil2 H3.out.2.2.1 (by omega) (by decide) ?_)
      intro A4 c4 w4 hO4 hm4 hn4
      obtain ⟨l, hle⟩ : ∃ l, l = a ++ b := ⟨_, rfl⟩
      have hll : a.length + b.length = l.length := by rw [hle, List.length_append]
      rw [← hle] at hO4
      rw [hll] at hO4 ⊢
      have hm04 : Mod (fun _ => False) w w4 := H3.out.2.1.trans hm4 (fun k hk => .inr (by obtain ⟨cells, hown, _⟩ := H3.out.1; have := (own_lt hown k hk).1; have := H2.out.size; omega))
      have hmx : mixR (pk gr) a b = l.map fun e => ent (nm e) (pk gr (levelL a (nm e)) (levelL b (nm e))) := by rw [hle]; rfl
      have hread := (lab_row (hO4.reads (bytes := 24) (by omega))).2.2.2.2.2
      have hlb : ∀ e ∈ l, (nm e).length ≤ 1000000 := fun e he => by
        rw [hle] at he
        rcases List.mem_append.1 he with he | he
        · exact H0.out.2.2.2.2.2.1 e he
        · exact H0.out.2.2.2.2.2.2 e he
      have hl16 : l.length ≤ 16 := by omega
      have hzz := HR.out.2.2.1
      rw [hmx] at hzz
      have H4 := Lib.hid (And.intro hm04 (And.intro hread (And.intro hlb hzz))); clear hm04 hread hlb hzz hmx hO4 hm4 hn4 hle hll H3
      go_wp2_with fail
      go_loopg [8, 27] l.length (fun f so si wr => ∃ (i : Nat) (A' : Option Addr) (c' : Nat), si = .int .i64 i ∧ so = .slice A' i c' ∧ i + f = l.length ∧ OwnR EntryR 63 wr w4.heap.size (fun _ => False) (.slice A' i c') ((l.take i).map fun e => ent (nm e) (pk gr (levelL a (nm e)) (levelL b (nm e)))) ∧ Mod (fun _ => False) w4 wr)
      case atStart => exact ⟨0, none, 0, rfl, rfl, by omega, OwnR.nil _ _ _ _ _, .refl _ _⟩
      case round =>
        obtain ⟨i, A', c', rfl, rfl, hi, hO, hmod⟩ := hrel
        by_cases hlt : i < l.length
        · obtain ⟨d, m, hx⟩ : ∃ d m, l[i]? = some (ent d m) := by
            obtain ⟨d, m, e⟩ := ent_cases l[i]
            exact ⟨d, m, by rw [← e]; simp [hlt]⟩
          obtain ⟨ad, rfl, -, hc0, hc1, hdl, hmr⟩ := row_ent (H4.out.2.1.step (w1 := wr) (ok1 := fun _ => True) (fun k hk hl => ⟨trivial, hmod.block k hl (fun h => h)⟩)) hx
          have hd6 : d.length ≤ 1000000 := by have := H4.out.2.2.1 _ (List.mem_of_getElem? hx); rwa [nm_ent] at this
          obtain ⟨p, hp⟩ : ∃ p, p = levelL a d := ⟨_, rfl⟩
          obtain ⟨q, hq⟩ : ∃ q, q = levelL b d := ⟨_, rfl⟩
          have hpr := pick_range (pk_pick gr) HR.out.2.2.2.1 HR.out.2.2.2.2.1 d
          obtain ⟨lst, hlst⟩ : ∃ lst, lst = (l.take i).map fun e => ent (nm e) (pk gr (levelL a (nm e)) (levelL b (nm e))) := ⟨_, rfl⟩
          have hln : lst.length = i := by rw [hlst, List.length_map, List.length_take]; omega
          have htk : ((l.take (i + 1)).map fun e => ent (nm e) (pk gr (levelL a (nm e)) (levelL b (nm e)))) = lst ++ [ent d (pk gr p q)] := by rw [List.take_add_one, hx, List.map_append, hlst, hp, hq]; simp [nm_ent]
          have hlv1 := fun W hW => H0.out.2.2.2.1 W hW d
          have hlv2 := fun W hW => H0.out.2.2.2.2.1 W hW d
          simp only [← hp] at hlv1
          simp only [← hq] at hlv2
          rw [← hp, ← hq] at hpr
          rw [← hlst] at hO
          have HX := Lib.hid (And.intro hi (And.intro hO (And.intro hmod (And.intro htk (And.intro hlv1 (And.intro hlv2 (And.intro hpr hln)))))))
          clear hi hO hmod htk hlv1 hlv2 hpr hln hp hq hx hlst hmr
          go_wp2_with fail
          obtain ⟨W1, hW1⟩ : ∃ W1, W1 = wr.alloc (.cells #[.string ⟨d.toArray⟩, .int .i64 m] 63) := ⟨_, rfl⟩
          rw [← hW1]
          have hmW : Mod (fun _ => False) wr W1 := by rw [hW1]; exact (Mod.refl _ _).alloc _
          obtain ⟨k0, k1⟩ := cells2 wr (.string ⟨d.toArray⟩) (.int .i64 m) 63
          rw [← hW1] at k0 k1
          obtain ⟨g, hg⟩ : ∃ g, g = wr.heap.size := ⟨_, rfl⟩
          rw [← hg] at k0 k1 ⊢
          have c0 : ∀ W : ModW W1, W.1.cell? ⟨g, 0, none⟩ = some (.string ⟨d.toArray⟩) := fun W => ModW.cell k0 W
          have hmw1 := tr0 (tr0 H4.out.1 HX.out.2.2.1) hmW
          have HE := Lib.hid (And.intro hmw1 (And.intro hmW k0))
          clear hW1 hg hmW hc0 hc1 k0 k1 hmw1
          refine wp_region_mod (by kernel_rfl) (by kernel_rfl) ?_
          refine wpQuiet_hide (fun R hR => ?_)
          iterate 10 ((first | refine wpQuiet_none hR rfl (fun K hK => ?_) | refine wpQuiet_take hR (by rfl) (fun K hK => ?_)); clear hR R; go_simp; first | (refine hK _ (fun R hR => ?_); clear hK K) | (apply Exists.intro; refine ⟨fun _ => ?_, hK _ (fun R hR => ?_)⟩; (first | (go_at_call_of 51 ((#[.slice A a.length c, .string ⟨d.toArray⟩] : Array Value)); refine quiet_mod (HX.out.2.2.2.2.1 _ (HE.out.1.trans (Subtype.property _) (fun _ h => h.elim)))) | (go_at_call_of 51 ((#[.slice A2 b.length c2, .string ⟨d.toArray⟩] : Array Value)); refine quiet_mod (HX.out.2.2.2.2.2.1 _ (HE.out.1.trans (Subtype.property _) (fun _ h => h.elim))))); clear hK K))
          refine wpQuiet_end hR ?_
          clear hR R
          rintro _ ⟨W, rfl⟩
          clear c0
          have k0 : W.1.cell? ⟨g, 0, none⟩ = some (.string ⟨d.toArray⟩) := ModW.cell HE.out.2.2 W
          obtain ⟨w5, hw5⟩ : ∃ w5, w5 = W.1 := ⟨_, rfl⟩
          have hm5 : Mod (fun _ => False) wr w5 := by rw [hw5]; exact HE.out.2.1.trans W.2 (fun _ h => h.elim)
          rw [← hw5] at k0 ⊢
          clear hw5 W
          have hO5 := HX.out.2.1.mod hm5 (fun _ _ => id) (fun _ _ _ => id)
          have hm45 := tr0 HX.out.2.2.1 hm5
          have hsz := hm45.size
          have htk := HX.out.2.2.2.1
          obtain ⟨v, hv⟩ : ∃ v, v = pk gr p q := ⟨_, rfl⟩
          rw [← hv] at htk
          have hvr : 0 ≤ v ∧ v ≤ 3 := by rw [hv]; exact HX.out.2.2.2.2.2.2.1
          have hE : ∀ (W : World) (T : Nat → Prop), EntryR.rel W T [.string ⟨d.toArray⟩, .int .i64 v] (ent d v) := fun W T => EntryR_mk _ _ (ent d v) (by rw [show (ent d v).cat.size = d.length from mkStr_size d]; omega) (by rw [lev_ent]; exact inR_mk (by omega))
          have hln := HX.out.2.2.2.2.2.2.2
          have H7 := Lib.hid (And.intro hO5 (And.intro hm45 (And.intro hE (And.intro htk hln)))); clear hO5 hm5 hm45 hE htk hln hvr
          unfold pk at hv
          by_cases hpq : p < q
          · cases gr with
            | true =>
              obtain rfl : v = q := by rw [hv, if_pos (by simp [hpq])]
              clear hv
              go_wp2_with (first
                | (refine wpList_slice1_agg rfl 22 63 _ rfl Tryz.underlying22 zeroEnt.toArray [.string ⟨d.toArray⟩, .int .i64 v] Tryz.info_ent2 (by decide) rfl rfl ?_)
                | (at_builtin; refine append_rd (R := EntryR) w4.heap.size rfl _ _ 22 63 (.agg zeroEnt.toArray) 24 rfl Tryz.underlying22 Tryz.info_ent3 rfl (by decide) (.slice A' i c') lst (ent d v) [.string ⟨d.toArray⟩, .int .i64 v] (fun _ => False) rfl rfl H7.out.1 (H7.out.2.2.1 _ _) hsz (by rw [H7.out.2.2.2.2]; omega) ?_))
              intro A8 c8 w8 hO8 hm8 hn8
              rw [H7.out.2.2.2.2] at hO8 hn8 ⊢
              have H8 := Lib.hid (And.intro hO8 hm8); clear hO8 hm8 hn8
              go_wp2_with fail
              go_roundg (gk - 1)
              case measure => have := HX.out.1; omega
              case rel =>
                refine ⟨i + 1, A8, c8, by go_num, rfl, by have := HX.out.1; omega, by rw [H7.out.2.2.2.1]; exact H8.out.1, H7.out.2.1.trans H8.out.2 (fun k hk => .inr ?_)⟩
                obtain ⟨cells, hown, _⟩ := H7.out.1
                exact (own_lt hown k hk).1
            | false =>
              obtain rfl : v = p := by rw [hv, if_neg (by simp [hpq])]
              clear hv
              go_wp2_with (first
                | (refine wpList_slice1_agg rfl 22 63 _ rfl Tryz.underlying22 zeroEnt.toArray [.string ⟨d.toArray⟩, .int .i64 v] Tryz.info_ent2 (by decide) rfl rfl ?_)
                | (at_builtin; refine append_rd (R := EntryR) w4.heap.size rfl _ _ 22 63 (.agg zeroEnt.toArray) 24 rfl Tryz.underlying22 Tryz.info_ent3 rfl (by decide) (.slice A' i c') lst (ent d v) [.string ⟨d.toArray⟩, .int .i64 v] (fun _ => False) rfl rfl H7.out.1 (H7.out.2.2.1 _ _) hsz (by rw [H7.out.2.2.2.2]; omega) ?_))
              intro A8 c8 w8 hO8 hm8 hn8
              rw [H7.out.2.2.2.2] at hO8 hn8 ⊢
              have H8 := Lib.hid (And.intro hO8 hm8); clear hO8 hm8 hn8
              go_wp2_with fail
              go_roundg (gk - 1)
              case measure => have := HX.out.1; omega
              case rel =>
                refine ⟨i + 1, A8, c8, by go_num, rfl, by have := HX.out.1; omega, by rw [H7.out.2.2.2.1]; exact H8.out.1, H7.out.2.1.trans H8.out.2 (fun k hk => .inr ?_)⟩
                obtain ⟨cells, hown, _⟩ := H7.out.1
                exact (own_lt hown k hk).1
          · cases gr with
            | true =>
              obtain rfl : v = p := by rw [hv, if_neg (by simp [hpq])]
              clear hv
              have hqp : q ≤ v := by omega
              go_wp2_with (first
                | (refine wpList_slice1_agg rfl 22 63 _ rfl Tryz.underlying22 zeroEnt.toArray [.string ⟨d.toArray⟩, .int .i64 v] Tryz.info_ent2 (by decide) rfl rfl ?_)
                | (at_builtin; refine append_rd (R := EntryR) w4.heap.size rfl _ _ 22 63 (.agg zeroEnt.toArray) 24 rfl Tryz.underlying22 Tryz.info_ent3 rfl (by decide) (.slice A' i c') lst (ent d v) [.string ⟨d.toArray⟩, .int .i64 v] (fun _ => False) rfl rfl H7.out.1 (H7.out.2.2.1 _ _) hsz (by rw [H7.out.2.2.2.2]; omega) ?_))
              intro A8 c8 w8 hO8 hm8 hn8
              rw [H7.out.2.2.2.2] at hO8 hn8 ⊢
              have H8 := Lib.hid (And.intro hO8 hm8); clear hO8 hm8 hn8
              go_wp2_with fail
              go_roundg (gk - 1)
              case measure => have := HX.out.1; omega
              case rel =>
                refine ⟨i + 1, A8, c8, by go_num, rfl, by have := HX.out.1; omega, by rw [H7.out.2.2.2.1]; exact H8.out.1, H7.out.2.1.trans H8.out.2 (fun k hk => .inr ?_)⟩
                obtain ⟨cells, hown, _⟩ := H7.out.1
                exact (own_lt hown k hk).1
            | false =>
              obtain rfl : v = q := by rw [hv, if_pos (by simp [hpq])]
              clear hv
              have hqp : v ≤ p := by omega
              go_wp2_with (first
                | (refine wpList_slice1_agg rfl 22 63 _ rfl Tryz.underlying22 zeroEnt.toArray [.string ⟨d.toArray⟩, .int .i64 v] Tryz.info_ent2 (by decide) rfl rfl ?_)
                | (at_builtin; refine append_rd (R := EntryR) w4.heap.size rfl _ _ 22 63 (.agg zeroEnt.toArray) 24 rfl Tryz.underlying22 Tryz.info_ent3 rfl (by decide) (.slice A' i c') lst (ent d v) [.string ⟨d.toArray⟩, .int .i64 v] (fun _ => False) rfl rfl H7.out.1 (H7.out.2.2.1 _ _) hsz (by rw [H7.out.2.2.2.2]; omega) ?_))
              intro A8 c8 w8 hO8 hm8 hn8
              rw [H7.out.2.2.2.2] at hO8 hn8 ⊢
              have H8 := Lib.hid (And.intro hO8 hm8); clear hO8 hm8 hn8
              go_wp2_with fail
              go_roundg (gk - 1)
              case measure => have := HX.out.1; omega
              case rel =>
                refine ⟨i + 1, A8, c8, by go_num, rfl, by have := HX.out.1; omega, by rw [H7.out.2.2.2.1]; exact H8.out.1, H7.out.2.1.trans H8.out.2 (fun k hk => .inr ?_)⟩
                obtain ⟨cells, hown, _⟩ := H7.out.1
                exact (own_lt hown k hk).1
        · have hie : l.take i = l := List.take_of_length_le (by omega)
          have hil : i = l.length := by omega
          subst hil
          rw [hie] at hO
          have hzz := H4.out.2.2.2
          obtain ⟨x, hx⟩ : ∃ x, x = l.map fun e => ent (nm e) (pk gr (levelL a (nm e)) (levelL b (nm e))) := ⟨_, rfl⟩
          rw [← hx] at hO hzz
          have hxl : l.length = x.length := by rw [hx, List.length_map]
          have hxb : ∀ e ∈ x, (nm e).length ≤ 1000000 := fun e he => by
            rw [hx] at he
            obtain ⟨y, hy, rfl⟩ := List.mem_map.1 he
            rw [nm_ent]; exact H4.out.2.2.1 y hy
          rw [hxl] at hO
          have hrd := hO.reads (bytes := 24) (by omega)
          have hm0 := tr0 H4.out.1 hmod
          have hmk := refmake_any A' x.length c' x _ wr hrd (by omega) hxb
          rw [← hzz] at hmk
          rw [← hxl] at hmk
          have HX := Lib.hid (And.intro hm0 hmk); clear hmod hO hie hi hrd hm0 hmk hxb hx hzz hxl
          go_wp2_with fail
          refine HX.out.2.mono ?_
          rintro r w5 ⟨A5, c5, rfl, hO5, hm5⟩
          have hO5' : OwnR EntryR 63 w5 w.heap.size (fun _ => False) (.slice A5 z.1.length c5) z.1 := by
            obtain ⟨cells, hown, hr⟩ := hO5
            exact ⟨cells, own_base_le hown HX.out.1.size, hr⟩
          have H5 := Lib.hid (And.intro hO5' (tr0 HX.out.1 hm5)); clear hO5 hO5' hm5
          go_wp2_with fail
          go_ret2
          exact ⟨A5, c5, rfl, H5.out.1, H5.out.2⟩
end Go.Proofs.YthhepnaanjicjaaGreatDoor

/- Layer 6, the document's answer: Put. -/
namespace Go.Proofs.YthhepnaanjicjaaGreatDoor
open Go.RowKit Go.Shelf
set_option linter.unusedVariables false
set_option maxRecDepth 100000 in
set_option maxHeartbeats 1000000 in
theorem refput_any (A : Option Addr) (n c : Nat) (l : List Entry) (ok : Nat → Prop) (w : World) (h : labR.rel w ok [.slice A n c] l) (hl : l.length ≤ 1000) (hnm : ∀ e ∈ l, (nm e).length ≤ 1000000) :
    Calls Tryz.prog 54 #[.slice A n c] w fun r w' => r = .returned (.string ⟨(encL l).toArray⟩) ∧ Mod (fun _ => False) w w' := by
  obtain ⟨rfl, hcap, -, hbig, -, hrow⟩ := lab_row h
  obtain ⟨b0, hb0⟩ : ∃ b0, b0 = encF 10 l.length := ⟨_, rfl⟩
  have hb0l : b0.length ≤ 10 := by rw [hb0]; exact encF_len 10 _
  obtain ⟨z, hz⟩ : ∃ z, z = encL l := ⟨_, rfl⟩
  rw [← hz]
  have hn := refnum_any 9 (by decide) l.length w (by omega) (by omega) (by omega)
  rw [show (9 + 1) = 10 from rfl, ← hb0] at hn
  unfold mkStr at hn
  have hend : z = b0 ++ l.flatMap encEn := by rw [hz]; unfold encL; rw [hb0]
  have H0 := Lib.hid (And.intro hrow (And.intro hnm (And.intro hn hend))); clear h hrow hnm hn hb0 hz hend
  go_enter Tryz.func54, Tryz.ntmps54
  go_wp2_with fail
  refine H0.out.2.2.1.mono ?_
  rintro r w1 ⟨rfl, hm1⟩
  have H1 := Lib.hid hm1; clear hm1
  go_wp2_with fail
  go_loopg [3, 11] l.length (fun f so si wr => ∃ (i : Nat), si = .int .i64 i ∧ i + f = l.length ∧ so = .string ⟨(b0 ++ (l.take i).flatMap encEn).toArray⟩ ∧ Mod (fun _ => False) w wr)
  case atStart => exact ⟨0, rfl, by omega, by simp, H1.out⟩
  case round =>
    obtain ⟨i, rfl, hi, rfl, hmod⟩ := hrel
    by_cases hlt : i < l.length
    · obtain ⟨d, m, hx⟩ : ∃ d m, l[i]? = some (ent d m) := by
        obtain ⟨d, m, e⟩ := ent_cases l[i]
        exact ⟨d, m, by rw [← e]; simp [hlt]⟩
      obtain ⟨ad, rfl, -, hc0, hc1, hdl, -⟩ := row_ent (H0.out.1.step (w1 := wr) (ok1 := fun _ => True) (fun k hk hl => ⟨trivial, hmod.block k hl (fun h => h)⟩)) hx
      have hd6 : d.length ≤ 1000000 := by have := H0.out.2.1 _ (List.mem_of_getElem? hx); rwa [nm_ent] at this
      have hfl := flat_len (l.take i) (fun e he => H0.out.2.1 e (List.mem_of_mem_take he))
      rw [List.length_take] at hfl
      obtain ⟨bi, hbi⟩ : ∃ bi, bi = b0 ++ (l.take i).flatMap encEn := ⟨_, rfl⟩
      have hbil : bi.length ≤ 2000000000 := by
        rw [hbi, List.length_append]
        have : 1000020 * min i l.length ≤ 1000020 * 1000 := Nat.mul_le_mul_left _ (by omega)
        omega
      obtain ⟨t, ht⟩ : ∃ t, t = encF 10 d.length ++ d := ⟨_, rfl⟩
      have htl : t.length ≤ 1000010 := by rw [ht, List.length_append]; have := encF_len 10 (d.length : Int); omega
      have htk : b0 ++ (l.take (i + 1)).flatMap encEn = (bi ++ t) ++ encN m := by rw [List.take_add_one, hx, List.flatMap_append, hbi, ht]; simp [encEn, nm_ent, lev_ent]
      have htx := fun W => reftext_any ⟨d.toArray⟩ (by show d.length ≤ _; omega) W
      unfold mkStr at htx
      simp only [show (⟨d.toArray⟩ : ByteArray).size = d.length from rfl, ← ht] at htx
      rw [← hbi]
      have hc1' : (⟨bi.toArray⟩ : ByteArray) ++ ⟨t.toArray⟩ = ⟨(bi ++ t).toArray⟩ := by apply ByteArray.ext; simp
      have e5 : ¬ (9223372036854775807 < bi.length + t.length) := by omega
      have HX := Lib.hid (And.intro hi (And.intro hmod (And.intro htk htx))); clear hi hmod htk hx hbi hfl htx ht
      go_wp2_with fail
      obtain ⟨W1, hW1⟩ : ∃ W1, W1 = wr.alloc (.cells #[.string ⟨d.toArray⟩, .int .i64 m] 63) := ⟨_, rfl⟩
      rw [← hW1]
      have hmW : Mod (fun _ => False) wr W1 := by rw [hW1]; exact (Mod.refl _ _).alloc _
      obtain ⟨k0, k1⟩ := cells2 wr (.string ⟨d.toArray⟩) (.int .i64 m) 63
      rw [← hW1] at k0 k1
      obtain ⟨g, hg⟩ : ∃ g, g = wr.heap.size := ⟨_, rfl⟩
      rw [← hg] at k0 k1 ⊢
      have HW := Lib.hid hmW; clear hW1 hg hmW hc0 hc1
      refine (HX.out.2.2.2 W1).mono ?_
      rintro r w2 ⟨rfl, hm2⟩
      have q1 := (hm2.cell (cell_lt k1) id).trans k1
      have H2 := Lib.hid (tr0 (tr0 HX.out.2.1 HW.out) hm2); clear hm2 k0 k1
      by_cases hm : 0 ≤ m ∧ m ≤ 4611686018427387903
      · have hn := refnum_any 9 (by decide) m w2 hm.1 hm.2 (by omega)
        rw [show (9 + 1) = 10 from rfl] at hn
        unfold mkStr at hn
        have htk := HX.out.2.2.1
        rw [show encN m = encF 10 m by unfold encN; rw [if_pos hm]] at htk
        obtain ⟨u, hu⟩ : ∃ u, u = encF 10 m := ⟨_, rfl⟩
        have hul : u.length ≤ 10 := by rw [hu]; exact encF_len 10 _
        rw [← hu] at hn htk
        have hc2' : (⟨(bi ++ t).toArray⟩ : ByteArray) ++ ⟨u.toArray⟩ = ⟨((bi ++ t) ++ u).toArray⟩ := by apply ByteArray.ext; simp
        have hm0 := hm.1
        have hm9 := hm.2
        have HN := Lib.hid (And.intro hn htk); clear hn htk hu hm
        go_wp2_with fail
        refine HN.out.1.mono ?_
        rintro r w3 ⟨rfl, hm3⟩
        have H3 := Lib.hid (tr0 H2.out hm3); clear hm3
        go_wp2_with fail
        go_roundg (gk - 1)
        case measure => have := HX.out.1; omega
        case rel => exact ⟨i + 1, by go_num, by have := HX.out.1; omega, by rw [HN.out.2]; simp, H3.out⟩
      · have htk := HX.out.2.2.1
        rw [show encN m = [] by unfold encN; rw [if_neg hm], List.append_nil] at htk
        have HN := Lib.hid htk; clear htk
        by_cases hm0 : 0 ≤ m
        · have hm9 : ¬ m ≤ 4611686018427387903 := fun h => hm ⟨hm0, h⟩
          clear hm
          go_wp2_with fail
          go_roundg (gk - 1)
          case measure => have := HX.out.1; omega
          case rel => exact ⟨i + 1, by go_num, by have := HX.out.1; omega, by rw [HN.out], H2.out⟩
        · clear hm
          go_wp2_with fail
          go_roundg (gk - 1)
          case measure => have := HX.out.1; omega
          case rel => exact ⟨i + 1, by go_num, by have := HX.out.1; omega, by rw [HN.out], H2.out⟩
    · have hie : l.take i = l := List.take_of_length_le (by omega)
      rw [hie, ← H0.out.2.2.2]
      have HX := Lib.hid hmod; clear hmod hie hi
      go_wp2_with fail
      go_ret
      exact ⟨rfl, HX.out⟩
end Go.Proofs.YthhepnaanjicjaaGreatDoor

/- Layer 6, the document's answer: Text. -/
namespace Go.Proofs.YthhepnaanjicjaaGreatDoor
open Go.RowKit Go.Shelf
set_option linter.unusedVariables false
theorem join_snoc (xs : List (List UInt8)) (y sep : List UInt8) (h : xs ≠ []) : Lib.join (xs ++ [y]) sep = Lib.join xs sep ++ sep ++ y := by
  obtain ⟨x, r, rfl⟩ := List.exists_cons_of_ne_nil h
  rw [List.cons_append, Lib.join_cons, Lib.join_cons]
  simp [Lib.joinTail]
theorem join_part_ne (l : List Entry) (h : l ≠ []) : Lib.join (l.map partL) [44] ≠ [] := by
  obtain ⟨x, r, rfl⟩ := List.exists_cons_of_ne_nil h
  rw [List.map_cons, Lib.join_cons]
  simp [partL]
theorem join_part_len (b : Nat) : ∀ (l : List Entry), (∀ e ∈ l, (partL e).length ≤ b) → (Lib.join (l.map partL) [44]).length ≤ (b + 1) * l.length := by
  intro l h
  cases l with
  | nil => simp [Lib.join_nil]
  | cons x r =>
    rw [List.map_cons, Lib.join_cons]
    have hx := h x List.mem_cons_self
    have ht : ∀ r : List Entry, (∀ e ∈ r, (partL e).length ≤ b) → (Lib.joinTail [44] (r.map partL)).length ≤ (b + 1) * r.length := by
      intro r
      induction r with
      | nil => intro _; simp [Lib.joinTail]
      | cons y r ih =>
        intro hr
        have h1 := hr y List.mem_cons_self
        have h2 := ih fun e he => hr e (List.mem_cons_of_mem _ he)
        simp only [Lib.joinTail, List.map_cons, List.flatten_cons, List.length_append, List.length_cons, List.length_nil] at h2 ⊢
        rw [Nat.mul_succ]; omega
    have := ht r fun e he => h e (List.mem_cons_of_mem _ he)
    rw [List.length_append, List.length_cons, Nat.mul_succ]; omega
set_option maxRecDepth 100000 in
set_option maxHeartbeats 2000000 in
theorem reftextL_any (A : Option Addr) (n c : Nat) (l : List Entry) (ok : Nat → Prop) (w : World) (h : labR.rel w ok [.slice A n c] l) (hl : l.length ≤ 1000) (hb : ∀ e ∈ l, (nm e).length ≤ 1000000) :
    Calls Tryz.prog 53 #[.slice A n c] w fun r w' => r = .returned (.string ⟨(textL l).toArray⟩) ∧ Mod (fun _ => False) w w' := by
  have hall := labR_each h
  obtain ⟨rfl, hcap, -, hbig, -, hrow⟩ := lab_row h
  obtain ⟨z, hz⟩ : ∃ z, z = textL l := ⟨_, rfl⟩
  rw [← hz]
  have H0 := Lib.hid (And.intro hrow (And.intro hz hb)); clear h hrow hz hb hall
  go_enter Tryz.func53, Tryz.ntmps53
  go_wp2_with fail
  go_loopg [3, 8] l.length (fun f so si wr => ∃ (i : Nat), si = .int .i64 i ∧ so = .string ⟨(Lib.join ((l.take i).map partL) [44]).toArray⟩ ∧ i + f = l.length ∧ Mod (fun _ => False) w wr)
  case atStart => exact ⟨0, rfl, by simp [Lib.join_nil], by omega, .refl _ _⟩
  case round =>
    obtain ⟨i, rfl, rfl, hi, hmod⟩ := hrel
    by_cases hlt : i < l.length
    · obtain ⟨d, m, hx⟩ : ∃ d m, l[i]? = some (ent d m) := by
        obtain ⟨d, m, e⟩ := ent_cases l[i]
        exact ⟨d, m, by rw [← e]; simp [hlt]⟩
      obtain ⟨ad, rfl, -, hc0, hc1, hdl, hmr⟩ := row_ent (H0.out.1.step (w1 := wr) (ok1 := fun _ => True) (fun k hk hl => ⟨trivial, hmod.block k hl (fun h => h)⟩)) hx
      have hd6 : d.length ≤ 1000000 := by have := H0.out.2.2 _ (List.mem_of_getElem? hx); rwa [nm_ent] at this
      obtain ⟨t, ht⟩ : ∃ t, t = Lib.itoa m := ⟨_, rfl⟩
      have hm1 : -9223372036854775808 ≤ m ∧ m ≤ 9223372036854775807 := inR_i64 hmr
      have htl : t.length ≤ 21 := by rw [ht]; exact Lib.itoa_length_le m hm1.1 hm1.2
      have hnum := fun W => NumW_any m hm1.1 hm1.2 W
      rw [← ht] at hnum
      unfold encS at hnum
      obtain ⟨y, hy⟩ : ∃ y, y = d ++ [61] ++ t := ⟨_, rfl⟩
      have hyl : y.length = d.length + 1 + t.length := by rw [hy, List.length_append, List.length_append]; rfl
      obtain ⟨s, hs⟩ : ∃ s, s = Lib.join ((l.take i).map partL) [44] := ⟨_, rfl⟩
      have hsl : s.length ≤ 2000000000 := by
        have := join_part_len 1000022 (l.take i) fun e he => by
          have h1 := H0.out.2.2 e (List.mem_of_mem_take he)
          obtain ⟨d', m', rfl⟩ := ent_cases e
          obtain ⟨j, hj⟩ := List.getElem?_of_mem (List.mem_of_mem_take he)
          have h2 := (row_ent H0.out.1 hj).choose_spec.2.2.2.2.2
          have h3 := Lib.itoa_length_le m' (inR_i64 h2).1 (inR_i64 h2).2
          rw [nm_ent] at h1
          simp only [partL, nm_ent, lev_ent, List.length_append, List.length_cons, List.length_nil]
          omega
        rw [hs]
        have h2 : 1000023 * (l.take i).length ≤ 1000023 * 1000 := Nat.mul_le_mul_left _ (by rw [List.length_take]; omega)
        omega
      have htk : Lib.join ((l.take (i + 1)).map partL) [44] = (if 0 < i then s ++ [44] else s) ++ y := by
        rw [List.take_add_one, hx, List.map_append, hy, ht, hs]
        by_cases h0 : 0 < i
        · rw [if_pos h0]
          have hne : (l.take i).map partL ≠ [] := by
            intro e; have h := congrArg List.length e; rw [List.length_map, List.length_take] at h; simp only [List.length_nil] at h; omega
          show Lib.join ((l.take i).map partL ++ [partL (ent d m)]) [44] = _
          rw [join_snoc _ _ _ hne]; simp [partL, nm_ent, lev_ent]
        · rw [if_neg h0]
          obtain rfl : i = 0 := by omega
          simp [partL, nm_ent, lev_ent, Lib.join_nil, Lib.join_one]
      rw [← hs]
      obtain ⟨s1, hs1⟩ : ∃ s1, s1 = if 0 < i then s ++ [44] else s := ⟨_, rfl⟩
      have hs1l : s1.length ≤ 2000000001 := by
        rw [hs1]; split
        · rw [List.length_append]; simp only [List.length_cons, List.length_nil]; omega
        · omega
      rw [← hs1] at htk
      have hc1' : (⟨d.toArray⟩ : ByteArray) ++ ⟨#[61]⟩ = ⟨(d ++ [61]).toArray⟩ := by apply ByteArray.ext; simp
      have hc2' : (⟨(d ++ [61]).toArray⟩ : ByteArray) ++ ⟨t.toArray⟩ = ⟨y.toArray⟩ := by rw [hy]; apply ByteArray.ext; simp
      have hc3' : (⟨s.toArray⟩ : ByteArray) ++ ⟨#[44]⟩ = ⟨(s ++ [44]).toArray⟩ := by apply ByteArray.ext; simp
      have hc4' : (⟨s1.toArray⟩ : ByteArray) ++ ⟨y.toArray⟩ = ⟨(s1 ++ y).toArray⟩ := by apply ByteArray.ext; simp
      have e4 : ¬ (9223372036854775807 < s.length + 1) := by omega
      have e5 : ¬ (9223372036854775807 < d.length + 1) := by omega
      have e6 : ¬ (9223372036854775807 < d.length + 1 + t.length) := by omega
      have e8 : ¬ (9223372036854775807 < s.length + 1 + y.length) := by rw [hyl]; omega
      have e7 : ¬ (9223372036854775807 < s1.length + y.length) := by rw [hyl]; omega
      have HX := Lib.hid (And.intro hi (And.intro hmod (And.intro htk hnum))); clear hi hmod htk hnum hx hs ht hy hyl hmr
      by_cases h0 : 0 < i
      all_goals
        first | rw [if_pos h0] at hs1 | rw [if_neg h0] at hs1
        subst hs1
        go_wp2_with fail
        obtain ⟨W1, hW1⟩ : ∃ W1, W1 = wr.alloc (.cells #[.string ⟨d.toArray⟩, .int .i64 m] 63) := ⟨_, rfl⟩
        rw [← hW1]
        have hmW : Mod (fun _ => False) wr W1 := by rw [hW1]; exact (Mod.refl _ _).alloc _
        obtain ⟨k0, k1⟩ := cells2 wr (.string ⟨d.toArray⟩) (.int .i64 m) 63
        rw [← hW1] at k0 k1
        obtain ⟨g, hg⟩ : ∃ g, g = wr.heap.size := ⟨_, rfl⟩
        rw [← hg] at k0 k1 ⊢
        have c0 : ∀ W : ModW W1, W.1.cell? ⟨g, 0, none⟩ = some (.string ⟨d.toArray⟩) := fun W => ModW.cell k0 W
        have c1 : ∀ W : ModW W1, W.1.cell? ⟨g, 1, none⟩ = some (.int .i64 m) := fun W => ModW.cell k1 W
        have HE := Lib.hid hmW
        clear hW1 hg hmW hc0 hc1 k0 k1
        refine wp_region_mod (by kernel_rfl) (by kernel_rfl) ?_
        refine wpQuiet_hide (fun R hR => ?_)
        iterate 10 ((first | refine wpQuiet_none hR rfl (fun K hK => ?_) | refine wpQuiet_take hR (by rfl) (fun K hK => ?_)); clear hR R; go_simp; first | (refine hK _ (fun R hR => ?_); clear hK K) | (apply Exists.intro; refine ⟨fun _ => ?_, hK _ (fun R hR => ?_)⟩; (go_at_call 96; exact quiet_mod (HX.out.2.2.2 _)); clear hK K))
        refine wpQuiet_end hR ?_
        clear hR R
        rintro _ ⟨W, rfl⟩
        clear c0 c1
        obtain ⟨w5, hw5⟩ : ∃ w5, w5 = W.1 := ⟨_, rfl⟩
        have hm5 : Mod (fun _ => False) w w5 := by rw [hw5]; exact tr0 (tr0 HX.out.2.1 HE.out) W.2
        rw [← hw5]
        clear hw5 W
        have H5 := Lib.hid hm5; clear hm5
        go_wp2_with fail
        go_roundg (gk - 1)
        case measure => have := HX.out.1; omega
        case rel => exact ⟨i + 1, by go_num, by rw [HX.out.2.2.1]; first | done | simp, by have := HX.out.1; omega, H5.out⟩
    · have hie : l.take i = l := List.take_of_length_le (by omega)
      rw [hie]
      obtain ⟨s, hs⟩ : ∃ s, s = Lib.join (l.map partL) [44] := ⟨_, rfl⟩
      rw [← hs]
      have HX := Lib.hid (And.intro hmod hs); clear hmod hie hi hs
      by_cases hl0 : l = []
      · have hz1 : z = [45] := by rw [H0.out.2.1, textL, if_pos hl0]
        have hs1 : s = [] := by rw [HX.out.2, hl0]; rfl
        subst hs1 hz1
        clear hl0
        go_wp2_with fail
        go_ret
        exact ⟨rfl, HX.out.1⟩
      · have hz1 : z = s := by rw [H0.out.2.1, HX.out.2, textL, if_neg hl0]
        have hs1 : s ≠ [] := by rw [HX.out.2]; exact join_part_ne l hl0
        have hs2 : s.isEmpty = false := by cases s; exact absurd rfl hs1; rfl
        subst hz1
        clear hl0
        go_wp2_with fail
        go_ret
        exact ⟨rfl, HX.out.1⟩
end Go.Proofs.YthhepnaanjicjaaGreatDoor

/- Layer 6, the laws: LabelFlows. -/
namespace Go.Proofs.YthhepnaanjicjaaGreatDoor
open Go.RowKit Go.Shelf
set_option linter.unusedVariables false
theorem pkX (a b : List Entry) : resX (pk true) a b = resX max a b := by rw [pk_max]
theorem pkN (a b : List Entry) : resX (pk false) a b = resX min a b := by rw [pk_min]
theorem resX_len (pick : Int → Int → Int) (a b : List Entry) : (resX pick a b).1.length ≤ 8 := by
  unfold resX resM
  split
  · split
    · simp
    · split
      · simp
      · rename_i h; simp at h ⊢; omega
  · simp
set_option maxRecDepth 100000 in
set_option maxHeartbeats 4000000 in
theorem labelFlows_mod (A : Option Addr) (n c : Nat) (A2 : Option Addr) (n2 c2 : Nat) (a b : List Entry) (ok ok2 : Nat → Prop) (w : World) (h : labR.rel w ok [.slice A n c] a) (h2 : labR.rel w ok2 [.slice A2 n2 c2] b) (E : Env w) :
    Calls Tryz.prog 7 #[.slice A n c, .slice A2 n2 c2] w fun r w' => r = .returned (.bool true) ∧ Mod (fun _ => False) w w' := by
  have RA := fun W (hW : Mod (fun _ => False) w W) => Rd.mod h hW (fun _ _ => id)
  have RB := fun W (hW : Mod (fun _ => False) w W) => Rd.mod h2 hW (fun _ _ => id)
  have H0 := Lib.hid (And.intro E (And.intro RA RB)); clear E h h2 RA RB
  go_enter Tryz.func7, Tryz.ntmps7
  go_wp2_with fail
  refine (first_any w H0.out.1).mono ?_
  rintro r w1 ⟨rfl, hm1⟩
  have hlo := long_any A n c a _ w1 (H0.out.2.1 w1 hm1)
  have H1 := Lib.hid (And.intro hm1 hlo); clear hm1 hlo
  go_wp2_with fail
  refine H1.out.2.mono ?_
  cases hla : longL a with
  | true =>
    clear hla
    rintro r w2 ⟨rfl, hm2⟩
    have H2 := Lib.hid (tr0 H1.out.1 hm2); clear hm2
    go_wp2_with fail
    go_ret
    exact ⟨rfl, H2.out⟩
  | false =>
    rintro r w2 ⟨rfl, hm2⟩
    have hm2 := tr0 H1.out.1 hm2
    have hlo2 := long_any A2 n2 c2 b _ w2 (H0.out.2.2 w2 hm2)
    have H2 := Lib.hid (And.intro hm2 (And.intro hlo2 (longL_iff.1 hla))); clear hm2 hlo2 hla
    go_wp2_with fail
    refine H2.out.2.1.mono ?_
    cases hlb : longL b with
    | true =>
      clear hlb
      rintro r w3 ⟨rfl, hm3⟩
      have H3 := Lib.hid (tr0 H2.out.1 hm3); clear hm3
      go_wp2_with fail
      go_ret
      exact ⟨rfl, H3.out⟩
    | false =>
      rintro r w3 ⟨rfl, hm3⟩
      have hm3 := tr0 H2.out.1 hm3
      have hja := join_any A n c A2 n2 c2 a b _ _ w3 (H0.out.2.1 w3 hm3) (H0.out.2.2 w3 hm3) (H0.out.1.mod0 hm3)
      have hnb : ∀ e ∈ b, (nm e).length ≤ 1000000 := fun e he => Nat.le_trans ((longL_iff.1 hlb).2 e he) (by decide)
      have hna : ∀ e ∈ a, (nm e).length ≤ 1000000 := fun e he => Nat.le_trans (H2.out.2.2.2 e he) (by decide)
      have hx8 := resX_len max a b
      have hy8 := resX_len min a b
      obtain ⟨x, hx⟩ : ∃ x, x = resX max a b := ⟨_, rfl⟩
      obtain ⟨y, hy⟩ : ∃ y, y = resX min a b := ⟨_, rfl⟩
      rw [← hx] at hja hx8
      rw [← hy] at hy8
      have H3 := Lib.hid (And.intro hm3 (And.intro hja (And.intro hna (And.intro hnb (And.intro hx hy))))); clear hm3 hja hna hnb hx hy hlb
      go_wp2_with fail
      refine H3.out.2.1.mono ?_
      rintro r w4 ⟨A4, c4, rfl, ho4, hm4⟩
      have hm4' := tr0 H3.out.1 hm4
      have hmi := refmix_any A n c A2 n2 c2 a b true _ _ w4 (H0.out.2.1 w4 hm4') (H0.out.2.2 w4 hm4') H3.out.2.2.1 H3.out.2.2.2.1
      rw [pkX, ← H3.out.2.2.2.2.1] at hmi
      have H4 := Lib.hid (And.intro hm4' (And.intro (ho4.reads (bytes := 24) (by omega)) hmi)); clear hm4' hm4 ho4 hmi
      go_wp2_with fail
      refine H4.out.2.2.mono ?_
      rintro r w5 ⟨A5, c5, rfl, ho5, hm5⟩
      have hm5' := tr0 H4.out.1 hm5
      have hme := meet_any A n c A2 n2 c2 a b _ _ w5 (H0.out.2.1 w5 hm5') (H0.out.2.2 w5 hm5') (H0.out.1.mod0 hm5')
      rw [← H3.out.2.2.2.2.2] at hme
      have H5 := Lib.hid (And.intro hm5' (And.intro hm5 (And.intro (ho5.reads (bytes := 24) (by omega)) hme))); clear hm5' hm5 ho5 hme
      go_wp2_with fail
      refine H5.out.2.2.2.mono ?_
      rintro r w6 ⟨A6, c6, rfl, ho6, hm6⟩
      have hm6' := tr0 H5.out.1 hm6
      have hmn := refmix_any A n c A2 n2 c2 a b false _ _ w6 (H0.out.2.1 w6 hm6') (H0.out.2.2 w6 hm6') H3.out.2.2.1 H3.out.2.2.2.1
      rw [pkN, ← H3.out.2.2.2.2.2] at hmn
      have H6 := Lib.hid (And.intro hm6' (And.intro hm6 (And.intro (ho6.reads (bytes := 24) (by omega)) hmn))); clear hm6' hm6 ho6 hmn
      go_wp2_with fail
      refine H6.out.2.2.2.mono ?_
      rintro r w7 ⟨A7, c7, rfl, ho7, hm7⟩
      have hm7' := tr0 H6.out.1 hm7
      have hm47 := tr0 (tr0 H5.out.2.1 H6.out.2.1) hm7
      have hm57 := tr0 H6.out.2.1 hm7
      have r4 := Rd.mod H4.out.2.1 hm47 (fun _ _ => id)
      have r5 := Rd.mod H5.out.2.2.1 hm57 (fun _ _ => id)
      have r6 := Rd.mod H6.out.2.2.1 hm7 (fun _ _ => id)
      have r7 := ho7.reads (bytes := 24) (by omega)
      have hfl := flows_any A n c A2 n2 c2 a b _ _ w7 (H0.out.2.1 w7 hm7') (H0.out.2.2 w7 hm7') (H0.out.1.mod0 hm7')
      obtain ⟨f, hf⟩ : ∃ f, f = flowsLB a b := ⟨_, rfl⟩
      rw [← hf] at hfl
      have H7 := Lib.hid (And.intro hm7' (And.intro r4 (And.intro r5 (And.intro r6 (And.intro r7 (And.intro hf hfl)))))); clear hm7' hm47 hm57 r4 r5 r6 r7 hf hfl ho7 hm7
      go_wp2_with fail
      refine H7.out.2.2.2.2.2.2.mono ?_
      rintro r w8 ⟨rfl, hm8⟩
      have hrf := refflows_any A n c A2 n2 c2 a b _ _ w8 (H0.out.2.1 w8 (tr0 H7.out.1 hm8)) (H0.out.2.2 w8 (tr0 H7.out.1 hm8)) H3.out.2.2.1 H3.out.2.2.2.1
      rw [← H7.out.2.2.2.2.2.1] at hrf
      have H8 := Lib.hid (And.intro hm8 hrf); clear hm8 hrf
      go_wp2_with fail
      refine H8.out.2.mono ?_
      rintro r w9 ⟨rfl, hm9⟩
      have hm9 := tr0 H8.out.1 hm9
      have sJ := refsame_any A4 x.1.length c4 A5 x.1.length c5 x.1 x.1 _ _ w9 (Rd.mod H7.out.2.1 hm9 (fun _ _ => id)) (Rd.mod H7.out.2.2.1 hm9 (fun _ _ => id))
      rw [sameL_iff.2 rfl] at sJ
      have H9 := Lib.hid (And.intro hm9 sJ); clear hm9 sJ
      have e1 : (f == f) = true := by simp
      go_wp2_with fail
      refine H9.out.2.mono ?_
      rintro r w10 ⟨rfl, hm10⟩
      have hm10 := tr0 H9.out.1 hm10
      have sM := refsame_any A6 y.1.length c6 A7 y.1.length c7 y.1 y.1 _ _ w10 (Rd.mod H7.out.2.2.2.1 hm10 (fun _ _ => id)) (Rd.mod H7.out.2.2.2.2.1 hm10 (fun _ _ => id))
      rw [sameL_iff.2 rfl] at sM
      have H10 := Lib.hid (And.intro hm10 sM); clear hm10 sM
      go_wp2_with fail
      refine H10.out.2.mono ?_
      rintro r w11 ⟨rfl, hm11⟩
      have H11 := Lib.hid (tr0 (tr0 H7.out.1 H10.out.1) hm11); clear hm11
      go_wp2_with fail
      go_ret
      exact ⟨rfl, H11.out⟩
theorem labelFlows_walk (A : Option Addr) (n c : Nat) (A2 : Option Addr) (n2 c2 : Nat) (a b : List Entry) (W : World) (h1 : labR.rel W (fun k => k < W.heap.size) [.slice A n c] a) (h2 : labR.rel W (fun k => k < W.heap.size) [.slice A2 n2 c2] b) (E : Env W) :
    Calls Tryz.prog 7 #[.slice A n c, .slice A2 n2 c2] W fun r W' => r = .returned (.bool true) ∧ Below W.heap.size W W' :=
  (labelFlows_mod A n c A2 n2 c2 a b _ _ W h1 h2 E).mono fun _ _ h => ⟨h.1, below0 h.2⟩
end Go.Proofs.YthhepnaanjicjaaGreatDoor

/- Regions that draw their order and whose guards part them into stretches (a && b && ..): a stretch at a time. No program in it. -/
namespace Go.Proofs.YthhepnaanjicjaaGreatDoor
open Go.RowKit
set_option linter.unusedVariables false
section
variable {P : Program} {ops : Array Oper} {md : Region.Mode} {C : World → Prop}
/-- Of n operations the first k are done. -/
def upTo (n k : Nat) : Array Bool := ((List.range n).map fun j => decide (j < k)).toArray
theorem upTo_get (n k j : Nat) (d : Bool) (hj : j < n) : (upTo n k).getD j d = decide (j < k) := by
  unfold upTo
  simp [Array.getD_eq_getD_getElem?, hj]
theorem upTo_zero (n : Nat) : Array.replicate n false = upTo n 0 := by
  apply Array.ext
  · simp [upTo]
  · intro i h1 h2; simp [upTo]
theorem getD_tf {listed : Array Bool} {i : Nat} (h : listed.getD i true = false) : listed.getD i false = false := by
  rw [Array.getD_eq_getD_getElem?] at h ⊢
  cases hx : listed[i]? with
  | none => rfl
  | some b => rw [hx] at h; exact h
def Closed (md : Region.Mode) (ops : Array Oper) (listed : Array Bool) : Prop :=
  ∀ j o, ops[j]? = some o → listed.getD j true = true → ∀ e ∈ o.after, Region.binds md e = true → listed.getD e.on false = true
theorem Closed.set {listed : Array Bool} {i : Nat} (h : Closed md ops listed) (hi : i ∈ Region.ready md ops listed) : Closed md ops (listed.setIfInBounds i true) := by
  intro j o ho hj e he hb
  refine getD_set_true ?_
  by_cases hji : j = i
  · subst hji
    obtain ⟨_, o', ho', hall⟩ := mem_ready.1 hi
    rw [ho] at ho'; cases ho'
    exact hall e he hb
  · rw [getD_set_ne true (Ne.symm hji)] at hj
    exact h j o ho hj e he hb
def shutB (md : Region.Mode) (ops : Array Oper) (listed : Array Bool) : Bool :=
  (List.range ops.size).all fun j => match ops[j]? with
    | none => true
    | some o => !listed.getD j true || o.after.all fun e => !Region.binds md e || listed.getD e.on false
theorem shutB_spec {listed : Array Bool} (h : shutB md ops listed = true) : Closed md ops listed := by
  intro j o ho hj e he hb
  have hlt : j < ops.size := (Array.getElem?_eq_some_iff.1 ho).1
  have h1 := List.all_eq_true.1 h j (List.mem_range.2 hlt)
  simp only [ho, hj, Bool.not_true, Bool.false_or] at h1
  have h2 := Array.all_eq_true_iff_forall_mem.1 h1 e he
  simpa [hb] using h2
/-- Each of the first k stands ahead of number k - 1, and each later one behind it. -/
def gapB (md : Region.Mode) (ops : Array Oper) (k : Nat) : Bool :=
  (List.range ops.size).all fun j => match ops[j]? with
    | none => true
    | some o => if j < k then j + 1 == k || (List.range k).any fun i => decide (j < i) && match ops[i]? with
        | some u => u.after.any fun e => Region.binds md e && e.on == j
        | none => false
      else o.after.any fun e => Region.binds md e && (e.on + 1 == k || (decide (k ≤ e.on) && decide (e.on < j)))
theorem gap_up {k : Nat} (hc : gapB md ops k = true) (hk : k ≤ ops.size) {listed : Array Bool} (hcl : Closed md ops listed) : ∀ d i, k - i = d → i < k → listed.getD i true = false → listed.getD (k - 1) true = false := by
  intro d
  induction d using Nat.strongRecOn with
  | ind d ih =>
    intro i hd hi hun
    have hlt : i < ops.size := by omega
    have h1 := List.all_eq_true.1 hc i (List.mem_range.2 hlt)
    obtain ⟨o, ho⟩ : ∃ o, ops[i]? = some o := ⟨_, Array.getElem?_eq_getElem hlt⟩
    simp only [ho, if_pos hi, Bool.or_eq_true, beq_iff_eq] at h1
    rcases h1 with h1 | h1
    · rw [show k - 1 = i by omega]; exact hun
    · obtain ⟨i', hi', h2⟩ := List.any_eq_true.1 h1
      rw [List.mem_range] at hi'
      simp only [Bool.and_eq_true, decide_eq_true_eq] at h2
      obtain ⟨hlt', h3⟩ := h2
      cases hu : ops[i']? with
      | none => rw [hu] at h3; cases h3
      | some u =>
        rw [hu] at h3
        obtain ⟨n, hn, h4⟩ := Array.any_eq_true.1 h3
        simp only [Bool.and_eq_true, beq_iff_eq] at h4
        refine ih (k - i') (by omega) i' rfl hi' ?_
        cases hg : listed.getD i' true with
        | false => rfl
        | true =>
          have h5 := hcl i' u hu hg (u.after[n]) (Array.getElem_mem hn) h4.1
          rw [h4.2, getD_tf hun] at h5
          cases h5
theorem gap_after {k : Nat} (hc : gapB md ops k = true) {j : Nat} {o : Oper} (ho : ops[j]? = some o) (hj : ¬ j < k) : ∃ e ∈ o.after, Region.binds md e = true ∧ (e.on + 1 = k ∨ k ≤ e.on ∧ e.on < j) := by
  have hlt : j < ops.size := (Array.getElem?_eq_some_iff.1 ho).1
  have h1 := List.all_eq_true.1 hc j (List.mem_range.2 hlt)
  simp only [ho, if_neg hj] at h1
  obtain ⟨n, hn, h2⟩ := Array.any_eq_true.1 h1
  simp only [Bool.and_eq_true, Bool.or_eq_true, beq_iff_eq, decide_eq_true_eq] at h2
  exact ⟨_, Array.getElem_mem hn, h2.1, h2.2⟩
theorem gap_lt {k : Nat} (hc : (k == ops.size || gapB md ops k) = true) (hk : k ≤ ops.size) {listed : Array Bool} (hcl : Closed md ops listed) {i : Nat} (hi : i < k) (hun : listed.getD i true = false) : ∀ j ∈ Region.ready md ops listed, j < k := by
  intro j hj
  obtain ⟨hjun, o, ho, hall⟩ := mem_ready.1 hj
  have hlt : j < ops.size := (Array.getElem?_eq_some_iff.1 ho).1
  simp only [Bool.or_eq_true, beq_iff_eq] at hc
  rcases hc with hc | hc
  · omega
  have hl := gap_up hc hk hcl _ i rfl hi hun
  have hdown : ∀ d, ∀ j, j = d → ¬ j < k → j < ops.size → listed.getD j true = false := by
    intro d
    induction d using Nat.strongRecOn with
    | ind d ih =>
      intro j hd hjk hjs
      obtain ⟨o, ho⟩ : ∃ o, ops[j]? = some o := ⟨_, Array.getElem?_eq_getElem hjs⟩
      obtain ⟨e, he, hb, h2⟩ := gap_after hc ho hjk
      cases hg : listed.getD j true with
      | false => rfl
      | true =>
        have h5 := hcl j o ho hg e he hb
        rcases h2 with h2 | ⟨h2, h3⟩
        · rw [show e.on = k - 1 by omega, getD_tf hl] at h5; cases h5
        · rw [getD_tf (ih e.on (by omega) e.on rfl (by omega) (by omega))] at h5; cases h5
  by_cases hjk : j < k
  · exact hjk
  · exfalso
    obtain ⟨e, he, hb, h2⟩ := gap_after hc ho hjk
    have h5 := hall e he hb
    rcases h2 with h2 | ⟨h2, h3⟩
    · rw [show e.on = k - 1 by omega, getD_tf hl] at h5; cases h5
    · rw [getD_tf (hdown e.on e.on rfl (by omega) (by omega))] at h5; cases h5
/-- Whatever order is picked till the first k are done. -/
def wpAnyK (P : Program) (md : Region.Mode) (ops : Array Oper) (C : World → Prop) (k : Nat) (R : Act → Prop) : Nat → Array Bool → Act → Prop
  | 0, listed, a => listed = upTo ops.size k ∧ R a
  | f + 1, listed, a => Region.ready md ops listed ≠ [] ∧ ∀ i ∈ Region.ready md ops listed, i < k ∧ qOp P ops C i (wpAnyK P md ops C k R f (listed.setIfInBounds i true)) a
theorem wpAny_of_K {k m : Nat} {R : Act → Prop} {Q : Exit → Act → World → Prop} (hR : ∀ a w, C w → R a → wpAny P md ops Q m (upTo ops.size k) a w) :
    ∀ (f : Nat) (listed : Array Bool) (a : Act) (w : World), C w → wpAnyK P md ops C k R f listed a → wpAny P md ops Q (f + m) listed a w
  | 0, listed, a, w, hw, h => by obtain ⟨rfl, h⟩ := h; rw [Nat.zero_add]; exact hR a w hw h
  | f + 1, listed, a, w, hw, h => by
    rw [show f + 1 + m = (f + m) + 1 by omega]
    exact ⟨fun e => absurd e h.1, fun i hi => wpOp_of_qOp hw (fun a' w' hw' hk => wpAny_of_K hR f _ a' w' hw' hk) (h.2 i hi).2⟩
theorem wpAnyK_first {k : Nat} (hk : k ≤ ops.size) (hc : (k == ops.size || gapB md ops k) = true) {R : Act → Prop} {i : Nat} {oi : Oper} {v : Value} (hik : i < k) (hi : ops[i]? = some oi) (hsel : ∀ (j : Nat) (o : Oper) cs b, ops[j]? = some o → o.op ≠ .select cs b) :
    ∀ (fuel : Nat) (listed : Array Bool) (a : Act), Closed md ops listed →
      (∀ j oj, ops[j]? = some oj → j ≠ i → listed.getD j true = false → (∀ e ∈ oj.after, Region.binds md e = true → e.on ≠ i) → oi.apart ops oj = true) →
      i ∈ Region.ready md ops listed → YieldsIn P ops C oi v a →
      wpAnyK P md ops C k R fuel (listed.setIfInBounds i true) (a.put oi.dst v) → wpAnyK P md ops C k R (fuel + 1) listed a := by
  intro fuel
  induction fuel with
  | zero =>
    intro listed a hcl _ hr hy H
    refine ⟨fun h => (by rw [h] at hr; cases hr), fun j hj => ?_⟩
    have hjk := gap_lt hc hk hcl hik (mem_ready.1 hr).1 j hj
    refine ⟨hjk, ?_⟩
    by_cases hji : j = i
    · subst hji; exact hy.qOp hi H
    · have h1 := (mem_ready.1 hj).1
      rw [← getD_set_ne true (Ne.symm hji), H.1, upTo_get _ _ _ _ (by omega)] at h1
      simp [hjk] at h1
  | succ fuel ih =>
    intro listed a hcl hfree hr hy H
    refine ⟨fun h => (by rw [h] at hr; cases hr), fun j hj => ?_⟩
    have hjk := gap_lt hc hk hcl hik (mem_ready.1 hr).1 j hj
    refine ⟨hjk, ?_⟩
    by_cases hji : j = i
    · subst hji; exact hy.qOp hi H
    · have h1 := (H.2 j (ready_mono hj hji)).2
      obtain ⟨hjun, oj, hoj, hall⟩ := mem_ready.1 hj
      have hnot : ∀ e ∈ oj.after, Region.binds md e = true → e.on ≠ i := fun e he hb heq => by
        have h1 := hall e he hb
        have h0 := (mem_ready.1 hr).1
        rw [heq, getD_tf h0] at h1
        cases h1
      have h2 := qOp_put hoj (hfree j oj hoj hji hjun hnot) (fun cs b => hsel i oi cs b hi) (fun cs b => hsel j oj cs b hoj) hy h1
      have hfree' : ∀ k ok, ops[k]? = some ok → k ≠ i → (listed.setIfInBounds j true).getD k true = false →
          (∀ e ∈ ok.after, Region.binds md e = true → e.on ≠ i) → oi.apart ops ok = true := fun k ok hk hki hun hno => by
        refine hfree k ok hk hki ?_ hno
        by_cases hjk : j = k
        · subst hjk; exact hjun
        · rw [getD_set_ne true hjk] at hun; exact hun
      refine qOp_mono (fun a' h3 => ih (listed.setIfInBounds j true) a' (hcl.set hj) hfree' (ready_mono hr (Ne.symm hji)) h3.1 ?_) h2
      rw [Array.setIfInBounds_comm _ _ hji]
      exact h3.2
def segB (md : Region.Mode) (ops : Array Oper) (k : Nat) : Nat → Nat → Array Bool → Bool
  | 0, _, listed => listed == upTo ops.size k
  | f + 1, m, listed => (Region.ready md ops listed).contains m && Region.free md ops listed m && segB md ops k f (m + 1) (listed.setIfInBounds m true)
theorem wpAnyK_lex {k : Nat} (hk : k ≤ ops.size) (hc : (k == ops.size || gapB md ops k) = true) (hs : Region.noSelect ops = true) {R : Act → Prop} : ∀ (l : List Oper) (m : Nat) (listed : Array Bool) (a : Act), (∀ j, j < l.length → l[j]? = ops[m + j]?) →
    m + l.length = k → Closed md ops listed → segB md ops k l.length m listed = true → wpQuiet P ops C R l a → wpAnyK P md ops C k R l.length listed a
  | [], _, listed, _, _, _, _, hB, h => ⟨by simpa [segB] using hB, h⟩
  | o :: l, m, listed, a, hl, hm, hcl, hB, h => by
    have h0 : ops[m]? = some o := by simpa using (hl 0 (by simp)).symm
    simp only [List.length_cons, segB, Bool.and_eq_true] at hB hm
    obtain ⟨⟨hr, hf⟩, hB'⟩ := hB
    have hst : qOp P ops C m (wpQuiet P ops C R l) a := by unfold qOp; simp only [h0]; exact h
    obtain ⟨v, hy, hK⟩ := yieldsIn_of_qOp h0 hst
    have hr' : m ∈ Region.ready md ops listed := by simpa using hr
    exact wpAnyK_first hk hc (by omega) h0 (Region.noSelect_spec hs) l.length listed a hcl (Region.free_spec h0 hf) hr' hy
      (wpAnyK_lex hk hc hs l (m + 1) _ _ (fun j hj => by have := hl (j + 1) (by simp; omega); simpa [Nat.add_assoc, Nat.add_comm 1 j] using this) (by omega) (hcl.set hr') hB' hK)
def stretchB (ops : Array Oper) (m k : Nat) : Bool :=
  decide (m ≤ k) && decide (k ≤ ops.size) && Region.noSelect ops && shutB .any ops (upTo ops.size m) && (k == ops.size || gapB .any ops k) && segB .any ops k (k - m) m (upTo ops.size m)
/-- The operations m .. k - 1 of a drawn region, walked in the text's order. -/
theorem wpAny_stretch (m k : Nat) {l : List Oper} {Q : Exit → Act → World → Prop} {a : Act} {w : World} (hB : stretchB l.toArray m k = true) (hC : C w)
    (h : ∀ R, R = (l.drop m).take (k - m) → wpQuiet P l.toArray C (fun a' => ∀ w', C w' → wpAny P .any l.toArray Q (l.length - k) (upTo l.length k) a' w') R a) : wpAny P .any l.toArray Q (l.length - m) (upTo l.length m) a w := by
  simp only [stretchB, Bool.and_eq_true, decide_eq_true_eq, List.size_toArray] at hB
  obtain ⟨⟨⟨⟨⟨h1, h2⟩, h3⟩, h4⟩, h5⟩, h6⟩ := hB
  have hlen : ((l.drop m).take (k - m)).length = k - m := by rw [List.length_take, List.length_drop]; omega
  have key := wpAnyK_lex (P := P) (ops := l.toArray) (md := .any) (C := C) (k := k) (by simpa using h2) (by simpa using h5) h3 ((l.drop m).take (k - m)) m (upTo l.length m) a
    (fun j hj => by rw [hlen] at hj; rw [List.getElem?_take_of_lt hj, List.getElem?_drop]; simp) (by omega) (shutB_spec h4) (by rw [hlen]; exact h6) (h _ rfl)
  have := wpAny_of_K (Q := Q) (m := l.length - k) (fun a' w' hw' hk => by simpa using hk w' hw') _ _ _ w hC key
  rw [hlen, show k - m + (l.length - k) = l.length - m by omega] at this
  exact this
/-- the same, the numbers named -/
theorem stretch (n m k f f' : Nat) {l : List Oper} {listed : Array Bool} {Q : Exit → Act → World → Prop} {a : Act} {w : World} (hn : l.length = n) (hf : f = n - m) (hf' : n - k = f') (hL : listed = upTo n m) (hB : stretchB l.toArray m k = true) (hC : C w)
    (h : ∀ R, R = (l.drop m).take (k - m) → wpQuiet P l.toArray C (fun a' => ∀ w', C w' → wpAny P .any l.toArray Q f' (upTo n k) a' w') R a) : wpAny P .any l.toArray Q f listed a w := by
  subst hn hf hf' hL
  exact wpAny_stretch m k hB hC h
theorem wp_region_stretch {id : Nat} {Q : Exit → Act → World → Prop} {a : Act} {w : World} {l : List Oper} (hm : P.follows .mixedOrders = true)
    (h : wpAny P .any l.toArray Q (l.length - 0) (upTo l.length 0) a w.drew) : (Code.region id l.toArray true).wp P Q a w := by
  refine wp_region_any hm ?_
  rw [upTo_zero]
  simpa using h
theorem wp_region_stretch' {id : Nat} {Q : Exit → Act → World → Prop} {a : Act} {w : World} {l : List Oper} (n : Nat) (hn : l.length = n) (hm : P.follows .mixedOrders = true)
    (h : wpAny P .any l.toArray Q n (upTo n 0) a w.drew) : (Code.region id l.toArray true).wp P Q a w := by
  subst hn; exact wp_region_stretch hm h
theorem wpAny_end {l : List Oper} {Q : Exit → Act → World → Prop} {a : Act} {w : World} {n : Nat} (hr : Region.ready .any l.toArray (upTo l.length l.length) = []) (h : Q .normal a w) : wpAny P .any l.toArray Q n (upTo l.length l.length) a w := wpAny_done hr h _
end
end Go.Proofs.YthhepnaanjicjaaGreatDoor

/- Layer 6, the laws: LabelTells. -/
namespace Go.Proofs.YthhepnaanjicjaaGreatDoor
open Go.RowKit Go.Shelf
set_option linter.unusedVariables false
theorem PenAt.new0 (w : World) (base : Nat) (hb : base ≤ w.heap.size) : PenAt (w.alloc (.cells #[.slice none 0 0] 41)) base w.heap.size (.slice none 0 0) [] :=
  ⟨heap_alloc_new w _, World.ownsRow_nil _ _ _ _, hb, by simp [Value.ownBlock]⟩
theorem PenAt.mod0 {w w1 : World} {base g : Nat} {v : Value} {bs : List UInt8} (h : PenAt w base g v bs) {S : Nat → Prop} (hm : Mod S w w1) (h1 : ¬ S g) (h2 : ∀ k, v.ownBlock = some k → ¬ S k) : PenAt w1 base g v bs :=
  ⟨(hm.block g h.lt h1).trans h.blk, own_move h.own (fun k hk => hm.block k (own_lt h.own k hk).2 (h2 k hk)), h.base, h.ne⟩
theorem labR_nil (w : World) (ok : Nat → Prop) : labR.rel w ok [.slice none 0 0] [] := ⟨none, 0, rfl, Nat.le_refl _, by decide, by simp, fun _ => rfl, .inl rfl⟩
theorem resM_len (l : List Entry) : (resM l).1.length ≤ 8 := by
  unfold resM
  split
  · simp
  · split
    · simp
    · rename_i h; simp at h ⊢; omega
set_option maxRecDepth 100000 in
set_option maxHeartbeats 4000000 in
theorem labelTells_mod (A : Option Addr) (n c : Nat) (l : List Entry) (s : List UInt8) (v : Int) (ok : Nat → Prop) (w : World) (h : labR.rel w ok [.slice A n c] l) (hs : s.length ≤ 140737488355328) (hv : Rd.inR .i64 v) (E : Env w) :
    Calls Tryz.prog 9 #[.slice A n c, .string ⟨s.toArray⟩, .int .i64 v] w fun r w' => r = .returned (.bool true) ∧ Mod (fun _ => False) w w' := by
  have RA := fun W (hW : Mod (fun _ => False) w W) => Rd.mod (Rd.bound h) hW (fun _ _ => id)
  obtain ⟨rfl, hcap, -, hbig, hnil, hrow⟩ := lab_row (Rd.bound h)
  have H0 := Lib.hid (And.intro E (And.intro RA (And.intro hrow (And.intro hnil hv)))); clear E h RA hrow hnil hv
  go_enter Tryz.func9, Tryz.ntmps9
  go_wp2_with fail
  refine (first_any w H0.out.1).mono ?_
  rintro r w1 ⟨rfl, hm1⟩
  have hlo := long_any A l.length c l _ w1 (H0.out.2.1 w1 hm1)
  have H1 := Lib.hid (And.intro hm1 hlo); clear hm1 hlo
  go_wp2_with fail
  refine H1.out.2.mono ?_
  cases hla : longL l with
  | true =>
    clear hla
    rintro r w2 ⟨rfl, hm2⟩
    have H2 := Lib.hid (tr0 H1.out.1 hm2); clear hm2
    go_wp2_with fail
    go_ret
    exact ⟨rfl, H2.out⟩
  | false =>
    rintro r w2 ⟨rfl, hm2⟩
    have hm2 := tr0 H1.out.1 hm2
    have hlg := longL_iff.1 hla
    by_cases hs1 : 100 < s.length
    · have HM := Lib.hid hm2; clear hm2 hlg hla
      go_wp2_with fail
      go_ret
      exact ⟨rfl, HM.out⟩
    have hs100 : s.length ≤ 100 := by omega
    have hl30 := hlg.1
    have hnm : ∀ e ∈ l, (nm e).length ≤ 1000000 := fun e he => Nat.le_trans (hlg.2 e he) (by decide)
    have hmk := make_any A l.length c l _ w2 (H0.out.2.1 w2 hm2) (by omega) (H0.out.1.mod0 hm2)
    obtain ⟨x, hx⟩ : ∃ x, x = resM l := ⟨_, rfl⟩
    have hx8 : x.1.length ≤ 8 := by rw [hx]; exact resM_len l
    rw [← hx] at hmk
    have H2 := Lib.hid (And.intro hm2 (And.intro hnm (And.intro hmk hx))); clear hm2 hlg hla hnm hmk hx
    go_wp2_with fail
    refine H2.out.2.2.1.mono ?_
    rintro r w3 ⟨A3, c3, rfl, ho3, hm3⟩
    have r3 := ho3.reads (bytes := 24) (by omega)
    have hm03 := tr0 H2.out.1 hm3
    have hrm := refmake_any A l.length c l _ w3 (H0.out.2.1 w3 hm03) (by omega) H2.out.2.1
    rw [← H2.out.2.2.2] at hrm
    have H3 := Lib.hid (And.intro hm03 (And.intro r3 hrm)); clear hm03 hm3 r3 ho3 hrm
    go_wp2_with fail
    refine H3.out.2.2.mono ?_
    rintro r w4 ⟨A4, c4, rfl, ho4, hm4⟩
    have r4 := ho4.reads (bytes := 24) (by omega)
    have r34 := Rd.mod H3.out.2.1 hm4 (fun _ _ => id)
    have hm04 := tr0 H3.out.1 hm4
    have hwi := with_any A l.length c l s v _ w4 (H0.out.2.1 w4 hm04) hs H0.out.2.2.2.2 (H0.out.1.mod0 hm04)
    obtain ⟨y, hy⟩ : ∃ y, y = resW l s v := ⟨_, rfl⟩
    have hy8 : y.1.length ≤ 8 := by rw [hy]; unfold resW; split; exact resM_len _; simp
    rw [← hy] at hwi
    have H4 := Lib.hid (And.intro hm04 (And.intro r34 (And.intro r4 (And.intro hwi hy)))); clear hm04 hm4 r4 r34 ho4 hwi hy
    go_wp2_with fail
    refine H4.out.2.2.2.1.mono ?_
    rintro r w5 ⟨A5, c5, rfl, ho5, hm5⟩
    have r5 := ho5.reads (bytes := 24) (by omega)
    have r35 := Rd.mod H4.out.2.1 hm5 (fun _ _ => id)
    have r45 := Rd.mod H4.out.2.2.1 hm5 (fun _ _ => id)
    have hm05 := tr0 H4.out.1 hm5
    have hrA := Rd.RowOf.weak (H0.out.2.2.1.step (w1 := w5.alloc (.cells #[] 63)) (ok1 := fun k => (ok k ∧ k < w.heap.size) ∧ some k ≠ (Value.slice (some ⟨w5.heap.size, 0, none⟩) 0 0).ownBlock) fun k hk hl => ⟨⟨hk, fun e => by simp only [Value.ownBlock, Option.some.injEq] at e; have := hm05.size; omega⟩, (hm05.alloc _).block k hl id⟩)
    have hnil := H0.out.2.2.2.1
    have H5 := Lib.hid (And.intro hm05 (And.intro r35 (And.intro r45 (And.intro r5 hrA)))); clear hm05 hm5 r5 r35 r45 ho5 hrA
    have hll : 0 + l.length = l.length := by omega
    go_wp2_with (at_builtin; refine append_all2 (R := EntryR) w5.heap.size rfl _ _ 22 23 63 (.agg zeroEnt.toArray) 24 rfl Tryz.underlying22 Tryz.underlying23 Tryz.info_ent3 rfl (.slice (some ⟨w5.heap.size, 0, none⟩) 0 0) [] l (fun k => ok k ∧ k < w.heap.size) A c rfl rfl ?c1 H5.out.2.2.2.2 hnil ?c3 ?c4 (by decide) ?_)
    case c1 => exact ⟨[], World.ownsRow_made w5 #[] 0 (Nat.le_refl _) (by decide) rfl, fun j x h => by simp at h⟩
    case c3 => simp
    case c4 => simp only [List.length_nil]; omega
    intro A6 c6 w6 hO6 hm6 hn6
    have hm56 : Mod (fun _ => False) w5 w6 := ((Mod.refl _ w5).alloc (.cells #[] 63)).trans hm6 (fun k hk => .inr (by simp only [Value.ownBlock, Option.some.injEq] at hk; omega))
    have hs6 := hm56.size
    have hsv : ∀ (W : World) (T : Nat → Prop), EntryR.rel W T [.string ⟨s.toArray⟩, .int .i64 v] (ent s v) := fun W T => EntryR_mk _ _ (ent s v) (by rw [show (ent s v).cat.size = s.length from mkStr_size s]; omega) (by rw [lev_ent]; exact H0.out.2.2.2.2)
    have H6 := Lib.hid (And.intro hO6 (And.intro hm56 hsv)); clear hO6 hm6 hn6 hm56 hsv hnil
    go_wp2_with (first
      | (refine wpList_slice1_agg rfl 22 63 _ rfl Tryz.underlying22 zeroEnt.toArray [.string ⟨s.toArray⟩, .int .i64 v] Tryz.info_ent2 (by decide) rfl rfl ?_)
      | (at_builtin; refine append_rd (R := EntryR) w5.heap.size rfl _ _ 22 63 (.agg zeroEnt.toArray) 24 rfl Tryz.underlying22 Tryz.info_ent3 rfl (by decide) (.slice A6 l.length c6) l (ent s v) [.string ⟨s.toArray⟩, .int .i64 v] (fun k => ok k ∧ k < w.heap.size) rfl rfl H6.out.1 (H6.out.2.2 _ _) hs6 (by omega) ?_))
    intro A7 c7 w7 hO7 hm7 hn7
    have hm57 := H6.out.2.1.trans hm7 (fun k hk => .inr (by obtain ⟨cells, hown, _⟩ := H6.out.1; exact (own_lt hown k hk).1))
    have hm07 := tr0 H5.out.1 hm57
    have hlen : (l ++ [ent s v]).length = l.length + 1 := by simp
    have r7 := hO7.reads (bytes := 24) (by rw [hlen]; omega)
    have hrm2 := refmake_any A7 (l.length + 1) c7 (l ++ [ent s v]) _ w7 r7 (by rw [hlen]; omega) (fun e he => by
      rcases List.mem_append.1 he with he | he
      · exact H2.out.2.1 e he
      · rw [List.mem_singleton.1 he, nm_ent]; omega)
    obtain ⟨z, hz⟩ : ∃ z, z = resM (l ++ [ent s v]) := ⟨_, rfl⟩
    have hz8 : z.1.length ≤ 8 := by rw [hz]; exact resM_len _
    rw [← hz] at hrm2
    have r37 := Rd.mod H5.out.2.1 hm57 (fun _ _ => id)
    have r47 := Rd.mod H5.out.2.2.1 hm57 (fun _ _ => id)
    have r57 := Rd.mod H5.out.2.2.2.1 hm57 (fun _ _ => id)
    have H7 := Lib.hid (And.intro hm07 (And.intro r37 (And.intro r47 (And.intro r57 (And.intro hrm2 hz))))); clear hO7 hm7 hn7 hm57 hm07 r7 hrm2 hz r37 r47 r57 hlen hs6 hll
    go_wp2_with fail
    refine H7.out.2.2.2.2.1.mono ?_
    rintro r w8 ⟨A8, c8, rfl, ho8, hm8⟩
    have r8 := ho8.reads (bytes := 24) (by omega)
    have hm08 := tr0 H7.out.1 hm8
    have hrr := refright_any A l.length c l _ w8 (H0.out.2.1 w8 hm08) H2.out.2.1
    have H8 := Lib.hid (And.intro hm08 (And.intro hm8 (And.intro r8 hrr))); clear hm08 hm8 r8 ho8 hrr
    go_wp2_with fail
    refine H8.out.2.2.2.mono ?_
    rintro r w9 ⟨rfl, hm9⟩
    have hm09 := tr0 H8.out.1 hm9
    have hm79 := tr0 H8.out.2.1 hm9
    have r3 := Rd.mod H7.out.2.1 hm79 (fun _ _ => id)
    have r4 := Rd.mod H7.out.2.2.1 hm79 (fun _ _ => id)
    have r5 := Rd.mod H7.out.2.2.2.1 hm79 (fun _ _ => id)
    have r8 := Rd.mod H8.out.2.2.1 hm9 (fun _ _ => id)
    cases hrl : rightLB l
    case' true =>
      obtain rfl : y = z := by rw [H7.out.2.2.2.2.2, H4.out.2.2.2.2]; unfold resW; rw [if_pos hrl]
      have r9 := r8
      have he9 : (y.2 == y.2) = true := by simp
    case' false =>
      have hy' : y = ([], 21) := by rw [H4.out.2.2.2.2]; unfold resW; rw [if_neg (by rw [hrl]; simp)]
      have r9 : labR.rel w9 (fun _ => False) [.slice none 0 0] y.1 := by rw [hy']; exact labR_nil _ _
      have he9 : (y.2 == 21) = true := by rw [hy']; rfl
      clear hy'
    all_goals
      have H9 := Lib.hid (And.intro hm09 (And.intro r3 (And.intro r4 (And.intro r5 r9)))); clear hm09 hm79 r3 r4 r5 r8 r9 hm9 hrl
      go_wp2_with fail
      obtain ⟨W1, hW1⟩ : ∃ W1, W1 = w9.alloc (.cells #[.slice none 0 0] 41) := ⟨_, rfl⟩
      rw [← hW1]
      have hpen := PenAt.new0 w9 w9.heap.size (Nat.le_refl _)
      have hsz9 := H9.out.1.size
      have hszW : w9.heap.size ≤ W1.heap.size := by rw [hW1]; simp
      have hmW : Mod (fun _ => False) w9 W1 := by rw [hW1]; exact (Mod.refl _ _).alloc _
      rw [← hW1] at hpen
      obtain ⟨g, hg⟩ : ∃ g, g = w9.heap.size := ⟨_, rfl⟩
      rw [← hg] at hpen hszW ⊢
      have hput := put_any g g (.slice none 0 0) [] A l.length c l _ W1 hpen hszW (H0.out.2.1 W1 (tr0 H9.out.1 hmW)) (fun k hk e => by
        rcases e with e | e
        · have := hk.2; omega
        · simp [Value.ownBlock] at e) (by omega) H2.out.2.1 (by simp)
      have hgw : w.heap.size ≤ g := by omega
      have HW := Lib.hid (And.intro hput (And.intro hmW (And.intro hg (And.intro hsz9 hgw)))); clear hput hmW hg hpen hszW hW1 hsz9 hgw
      go_wp2_with fail
      refine HW.out.1.mono ?_
      rintro r w10 ⟨rfl, v10, ht10⟩
      have hmd := HW.out.2.1.trans ht10.mod (fun k hk => .inr (by
        rcases hk with e | e
        · have := HW.out.2.2.1; omega
        · simp [Value.ownBlock] at e))
      have hm010 := tr0 H9.out.1 hmd
      have hpn := put_nil A l.length c l _ w10 (H0.out.2.1 w10 hm010)
      have H10 := Lib.hid (And.intro hm010 (And.intro hmd (And.intro ht10 hpn))); clear hm010 hmd ht10 hpn
      go_wp2_with fail
      refine H10.out.2.2.2.mono ?_
      rintro r w11 ⟨rfl, hm11⟩
      have hm911 := tr0 H10.out.2.1 hm11
      have hm011 := tr0 H9.out.1 hm911
      have hpen := H10.out.2.2.1.at_.mod0 hm11 id (fun _ _ => id)
      rw [List.nil_append] at hpen
      have r3 := Rd.mod H9.out.2.1 hm911 (fun _ _ => id)
      have r4 := Rd.mod H9.out.2.2.1 hm911 (fun _ _ => id)
      have r5 := Rd.mod H9.out.2.2.2.1 hm911 (fun _ _ => id)
      have r9 := Rd.mod H9.out.2.2.2.2 hm911 (fun _ _ => id)
      have h0 := H0.out
      have hnm := H2.out.2.1
      have hx0 := H2.out.2.2.2
      have q1 := fun W (hW : Mod (fun _ => False) w11 W) => rightLab_any A l.length c l _ W (h0.2.1 W (tr0 hm011 hW)) (h0.1.mod0 (tr0 hm011 hW))
      have q2 := fun W (hW : Mod (fun _ => False) w11 W) => refright_any A l.length c l _ W (h0.2.1 W (tr0 hm011 hW)) hnm
      have q3 := fun W (hW : Mod (fun _ => False) w11 W) => level_any A l.length c l s _ W (h0.2.1 W (tr0 hm011 hW))
      have q4 := fun W (hW : Mod (fun _ => False) w11 W) => reflevel_any A l.length c l s _ W (h0.2.1 W (tr0 hm011 hW))
      have q5 := fun W (hW : Mod (fun _ => False) w11 W) => refsame_any _ _ _ _ _ _ x.1 x.1 _ _ W (Rd.mod r3 hW (fun _ _ => id)) (Rd.mod r4 hW (fun _ _ => id))
      have q6 := fun W (hW : Mod (fun _ => False) w11 W) => refsame_any _ _ _ _ _ _ y.1 y.1 _ _ W (Rd.mod r5 hW (fun _ _ => id)) (Rd.mod r9 hW (fun _ _ => id))
      have q7 := fun W (hW : Mod (fun _ => False) w11 W) => textL_any A l.length c l _ W (h0.2.1 W (tr0 hm011 hW)) (by omega) hnm (h0.1.mod0 (tr0 hm011 hW))
      have q8 := fun W (hW : Mod (fun _ => False) w11 W) => reftextL_any A l.length c l _ W (h0.2.1 W (tr0 hm011 hW)) (by omega) hnm
      have q9 := fun W (hW : Mod (fun _ => False) w11 W) => refput_any A l.length c l _ W (h0.2.1 W (tr0 hm011 hW)) (by omega) hnm
      have q10 := fun W (hW : Mod (fun _ => False) w11 W) => same_any A l.length c _ _ _ l x.1 _ _ W (h0.2.1 W (tr0 hm011 hW)) (Rd.mod r3 hW (fun _ _ => id))
      have q11 := fun W (hW : Mod (fun _ => False) w11 W) => refsame_any A l.length c _ _ _ l x.1 _ _ W (h0.2.1 W (tr0 hm011 hW)) (Rd.mod r4 hW (fun _ _ => id))
      have q12 := fun W (hW : Mod (fun _ => False) w11 W) => bytes_any g g v10 (encL l) W (hpen.mod0 hW id (fun _ _ => id)) (by
        unfold encL
        rw [List.length_append]
        have := encF_len 10 (l.length : Int)
        have h2 := flat_len l hnm
        have : 1000020 * l.length ≤ 1000020 * 30 := Nat.mul_le_mul_left _ (by omega)
        omega)
      have HL : (encL l).length ≤ 140737488355328 := by
        unfold encL
        rw [List.length_append]
        have := encF_len 10 (l.length : Int)
        have h2 := flat_len l hnm
        have : 1000020 * l.length ≤ 1000020 * 30 := Nat.mul_le_mul_left _ (by omega)
        omega
      rw [sameL_iff.2 rfl] at q5 q6
      obtain ⟨b1, hb1⟩ : ∃ b1, b1 = rightLB l := ⟨_, rfl⟩
      obtain ⟨b2, hb2⟩ : ∃ b2, b2 = levelL l s := ⟨_, rfl⟩
      obtain ⟨b3, hb3⟩ : ∃ b3, b3 = textL l := ⟨_, rfl⟩
      obtain ⟨b4, hb4⟩ : ∃ b4, b4 = encL l := ⟨_, rfl⟩
      obtain ⟨b5, hb5⟩ : ∃ b5, b5 = sameL l x.1 := ⟨_, rfl⟩
      have e1 : (b1 == b1) = true := by simp
      have e5 : (b5 == b5) = true := by simp
      rw [← hb1] at q1 q2
      rw [← hb2] at q3 q4
      rw [← hb3] at q7 q8
      rw [← hb4] at q9 q12 HL
      rw [← hb5] at q10 q11
      have HC := Lib.hid (And.intro hm011 (And.intro q1 (And.intro q2 (And.intro q3 (And.intro q4 (And.intro q5 (And.intro q6 (And.intro q7 (And.intro q8 (And.intro q9 (And.intro q10 (And.intro q11 q12))))))))))))
      clear hm011 hm911 hpen r3 r4 r5 r9 h0 hnm hx0 hm11 q1 q2 q3 q4 q5 q6 q7 q8 q9 q10 q11 q12 hb1 hb2 hb3 hb4 hb5
      go_wp2_with fail
      refine wp_region_stretch' 59 rfl (by kernel_rfl) ?_
      refine stretch 59 0 42 59 17 rfl rfl rfl rfl (by kernel_rfl) (C := fun w' => ∃ W : ModW w11, w' = W.1) ⟨⟨w11.drew, (Mod.refl _ w11).drew⟩, rfl⟩ (fun R hR => ?_)
      iterate 42 ((first | refine wpQuiet_none hR rfl (fun K hK => ?_) | refine wpQuiet_take hR (by rfl) (fun K hK => ?_)); clear hR R; go_simp; first | (refine hK _ (fun R hR => ?_); clear hK K) | (apply Exists.intro; refine ⟨fun _ => ?_, hK _ (fun R hR => ?_)⟩; (first | (go_at_call 45; exact quiet_mod (HC.out.2.1 _ (Subtype.property _))) | (go_at_call 49; exact quiet_mod (HC.out.2.2.1 _ (Subtype.property _))) | (go_at_call 46; exact quiet_mod (HC.out.2.2.2.1 _ (Subtype.property _))) | (go_at_call 51; exact quiet_mod (HC.out.2.2.2.2.1 _ (Subtype.property _))) | (go_at_call 52; exact quiet_mod (HC.out.2.2.2.2.2.2.2.1 _ (Subtype.property _))) | (go_at_call 53; exact quiet_mod (HC.out.2.2.2.2.2.2.2.2.1 _ (Subtype.property _))) | (go_at_call 43; first | (with_reducible exact quiet_mod (HC.out.2.2.2.2.2.1 _ (Subtype.property _))) | (with_reducible exact quiet_mod (HC.out.2.2.2.2.2.2.1 _ (Subtype.property _))))); clear hK K))
      refine wpQuiet_end hR ?_
      clear hR R
      rintro _ ⟨W, rfl⟩
      obtain ⟨w12, hw12⟩ : ∃ w12, w12 = W.1 := ⟨_, rfl⟩
      have hm12 : Mod (fun _ => False) w11 w12 := by rw [hw12]; exact W.2
      rw [← hw12]
      clear hw12 W
      refine wpAny_take (i := 42) (v := ?_) rfl (by kernel_rfl) (by kernel_rfl) (by kernel_rfl) (fun _ _ _ h => h) (Or.inl ⟨by rfl, ?_⟩) ?_
      rotate_left
      · intro w; go_simp; with_reducible rfl
      refine wpAny_take (i := 45) (v := ?_) rfl (by kernel_rfl) (by kernel_rfl) (by kernel_rfl) (fun _ _ _ h => h) (Or.inl ⟨by rfl, ?_⟩) ?_
      rotate_left
      · intro w; go_simp; with_reducible rfl
      refine wpAny_ready (rs := [43]) (by kernel_rfl) (by simp) ?_
      refine AllReady.cons rfl (fun K hK => ?_) AllReady.nil
      · go_simp; go_at_call 32
        refine (HC.out.2.2.2.2.2.2.2.2.2.2.2.2 w12 hm12).mono ?_
        rintro _ w13 ⟨A13, c13, rfl, ho13, hm13⟩
        have hr13 := reads_bytes ho13 (by have := HL; omega)
        refine hK _ _ ?_; clear hK K
        refine wpAny_ready (rs := [44, 46]) (by kernel_rfl) (by simp) ?_
        refine AllReady.cons rfl (fun K hK => ?_) (AllReady.cons rfl (fun K hK => ?_) AllReady.nil)
        · have hcv := run_str (P := Tryz.prog) hr13 39 9 5 Tryz.underlying39 Tryz.underlying5 Tryz.underlying9
          unfold mkStr at hcv
          go_simp; refine hK _ _ ?_; clear hK K hcv
          refine wpAny_ready (rs := [46]) (by kernel_rfl) (by simp) ?_
          refine AllReady.cons rfl (fun K hK => ?_) AllReady.nil
          go_simp; go_at_call 54; refine (HC.out.2.2.2.2.2.2.2.2.2.1 _ (tr0 hm12 hm13)).mono ?_; rintro _ w14 ⟨rfl, hm14⟩; refine hK _ _ ?_; clear hK K
          have hm := tr0 (tr0 hm12 hm13) hm14
          clear hm12 hm13 hm14 hr13 ho13
          refine stretch 59 47 59 12 0 rfl rfl rfl (by kernel_rfl) (by kernel_rfl) (C := fun w' => ∃ W : ModW w14, w' = W.1) ⟨⟨w14, .refl _ _⟩, rfl⟩ (fun R hR => ?_)
          iterate 12 ((first | refine wpQuiet_none hR rfl (fun K hK => ?_) | refine wpQuiet_take hR (by rfl) (fun K hK => ?_)); clear hR R; go_simp; first | (refine hK _ (fun R hR => ?_); clear hK K) | (apply Exists.intro; refine ⟨fun _ => ?_, hK _ (fun R hR => ?_)⟩; (first | (go_at_call 55; exact quiet_mod (HC.out.2.2.2.2.2.2.2.2.2.2.1 _ (tr0 hm (Subtype.property _)))) | (go_at_call 43; exact quiet_mod (HC.out.2.2.2.2.2.2.2.2.2.2.2.1 _ (tr0 hm (Subtype.property _))))); clear hK K))
          refine wpQuiet_end hR ?_
          clear hR R
          rintro _ ⟨W, rfl⟩
          refine ⟨by kernel_rfl, ?_⟩
          obtain ⟨w20, hw20⟩ : ∃ w20, w20 = W.1 := ⟨_, rfl⟩
          have hm20 : Mod (fun _ => False) w w20 := by rw [hw20]; exact tr0 (tr0 HC.out.1 hm) W.2
          rw [← hw20]
          clear hw20 W
          go_wp2_with fail
          go_ret
          exact ⟨rfl, hm20⟩
        · go_simp; go_at_call 54; refine (HC.out.2.2.2.2.2.2.2.2.2.1 _ (tr0 hm12 hm13)).mono ?_; rintro _ w14 ⟨rfl, hm14⟩; refine hK _ _ ?_; clear hK K
          have hcv := run_str (P := Tryz.prog) (Rd.mod hr13 hm14 (fun _ _ => id)) 39 9 5 Tryz.underlying39 Tryz.underlying5 Tryz.underlying9
          unfold mkStr at hcv
          refine wpAny_ready (rs := [44]) (by kernel_rfl) (by simp) ?_
          refine AllReady.cons rfl (fun K hK => ?_) AllReady.nil
          go_simp; refine hK _ _ ?_; clear hK K hcv
          have hm := tr0 (tr0 hm12 hm13) hm14
          clear hm12 hm13 hm14 hr13 ho13
          refine stretch 59 47 59 12 0 rfl rfl rfl (by kernel_rfl) (by kernel_rfl) (C := fun w' => ∃ W : ModW w14, w' = W.1) ⟨⟨w14, .refl _ _⟩, rfl⟩ (fun R hR => ?_)
          iterate 12 ((first | refine wpQuiet_none hR rfl (fun K hK => ?_) | refine wpQuiet_take hR (by rfl) (fun K hK => ?_)); clear hR R; go_simp; first | (refine hK _ (fun R hR => ?_); clear hK K) | (apply Exists.intro; refine ⟨fun _ => ?_, hK _ (fun R hR => ?_)⟩; (first | (go_at_call 55; exact quiet_mod (HC.out.2.2.2.2.2.2.2.2.2.2.1 _ (tr0 hm (Subtype.property _)))) | (go_at_call 43; exact quiet_mod (HC.out.2.2.2.2.2.2.2.2.2.2.2.1 _ (tr0 hm (Subtype.property _))))); clear hK K))
          refine wpQuiet_end hR ?_
          clear hR R
          rintro _ ⟨W, rfl⟩
          refine ⟨by kernel_rfl, ?_⟩
          obtain ⟨w20, hw20⟩ : ∃ w20, w20 = W.1 := ⟨_, rfl⟩
          have hm20 : Mod (fun _ => False) w w20 := by rw [hw20]; exact tr0 (tr0 HC.out.1 hm) W.2
          rw [← hw20]
          clear hw20 W
          go_wp2_with fail
          go_ret
          exact ⟨rfl, hm20⟩
theorem labelTells_walk (A : Option Addr) (n c : Nat) (s : ByteArray) (k : Int) (l : List Entry) (x : ByteArray) (y : Int) (W : World) (h1 : labR.rel W (fun k => k < W.heap.size) [.slice A n c] l)
    (h2 : Rd.string.rel W (fun k => k < W.heap.size) [.string s] x) (h3 : (Rd.int .i64).rel W (fun k => k < W.heap.size) [.int .i64 k] y) (E : Env W) :
    Calls Tryz.prog 9 #[.slice A n c, .string s, .int .i64 k] W fun r W' => r = .returned (.bool true) ∧ Below W.heap.size W W' := by
  obtain ⟨e3, i3⟩ := h3
  obtain rfl : k = y := by simpa using e3
  obtain ⟨e2, i2⟩ := h2
  obtain rfl : s = x := by simpa using e2
  exact (labelTells_mod A n c l s.data.toList k _ W h1 i2 i3 E).mono fun _ _ h => ⟨h.1, below0 h.2⟩
end Go.Proofs.YthhepnaanjicjaaGreatDoor

/- The law LabelTells returns true for every input, and its arguments read afterwards as before. No condition. -/
namespace Go.Proofs.YthhepnaanjicjaaGreatDoor.labelTells
open Go.ChangeShapes Go.WideShapes Go.ChangeAt Go.RowKit
open Go.ChangeMaps (open_string)
set_option linter.unusedVariables false
theorem own : ownKnob Tryz.prog.godebug = none := by kernel_rfl
theorem laidOut : laidOutB Tryz.prog = true := by kernel_rfl
set_option maxRecDepth 100000 in
theorem lifted (os : Os) (started : os.Started) (H : Type) (enc : TypeId × Value → H) :
    ReturnsInHanded {} Tryz.checked os 9 .any (fun w args => (Rows.labelTellsSpec.pre enc Tryz.prog Tryz.f9 Rows.labelTellsRow.domain false w args ∧ laidMetH Tryz.prog Rows.labelTellsRow.laid w) ∧ sizedMet enc Tryz.prog Tryz.f9 (OpenSpec.ofChange Rows.labelTellsSpec) false w args) (Rows.labelTellsSpec.post enc Tryz.prog Tryz.f9 false true false false) := by
  refine returnsInHanded_of_change_and (C := Tryz.checked) (X := fun w _ => laidMetH Tryz.prog Rows.labelTellsRow.laid w) (fun _ _ _ hh h => h.of_heap hh) own started (by kernel_rfl) Tryz.func9
    (ChangeSpec.witness_shaped (enc := enc) (C := Tryz.checked) (os := os) (X := fun w _ => laidMetH Tryz.prog Rows.labelTellsRow.laid w) false (laidWorld os) #[.slice none 0 0, .string ⟨#[]⟩, .int .i64 0] 8 rfl (World.shaped_of_RefB (by kernel_rfl) (by kernel_rfl)) (by kernel_rfl) (by kernel_rfl) (by kernel_rfl) (laidWorld_met os _)) ?_
  intro W base args ds gs before hval0 hW hcnd hsz0 hL _
  have hsz : (DataW.weightsEach Tryz.prog (Tryz.f9.params.toList ++ Rows.labelTellsSpec.plain.varTypes Tryz.prog) (ds ++ gs)).all (· ≤ reachBytes) = true := hsz0
  have hW' := hW
  obtain ⟨p, q, hA0, hV, rfl, hfz, hnd⟩ := hW
  have hval : ∀ (j : Nat) t v, Tryz.f9.params[j]? = some t → args[j]? = some v → Value.okWide Tryz.prog W .any base t v := hval0
  have hA : DataW.TrodAll enc Tryz.prog W 0 (fun _ => true) true Tryz.f9.params.toList args.toList ds p := hA0
  rw [Tryz.params9] at hA hval hsz
  obtain ⟨v0, vs0, d0, ds0, p0, q0, hargs, rfl, rfl, h0, r0⟩ := trodAll_cons hA
  obtain ⟨v1, vs1, d1, ds1, p1, q1, rfl, rfl, rfl, h1, r1⟩ := trodAll_cons r0
  obtain ⟨v2, vs2, d2, ds2, p2, q2, rfl, rfl, rfl, h2, r2⟩ := trodAll_cons r1
  obtain ⟨rfl, rfl, rfl⟩ := trodAll_nil r2
  obtain rfl : args = #[v0, v1, v2] := by cases args; simp_all
  obtain ⟨rfl, rfl⟩ := trodVars_none hV
  obtain ⟨a0, n0, c0, rfl⟩ := okWide_slice Tryz.underlying23 (hval 0 23 v0 rfl rfl)
  have k0 := h0
  have lt0 : ∀ x ∈ p0, x.block < W.heap.size := by obtain ⟨m, hm⟩ := k0; exact DataW.trod_lt m _ _ _ hm
  obtain ⟨x0, y0⟩ : ∃ x, Rd.rel (labR) W (fun k => k < W.heap.size) [.slice a0 n0 c0] x := by
    obtain ⟨fuel, hf⟩ := h0
    exact lab_opens H enc W _ _ _ fuel _ _ hf (fun n hn => of_decide_eq_true (List.all_eq_true.1 hsz _ (DataW.weights_mem_each (j := 0) rfl rfl n hn)))
  obtain ⟨s1, rfl⟩ : ∃ s, v1 = .string s := by obtain ⟨s, h, _⟩ := open_string Tryz.underlying9 (hval 1 9 v1 rfl rfl) h1; exact ⟨s, h⟩
  have k1 := h1
  have lt1 : ∀ x ∈ p1, x.block < W.heap.size := by obtain ⟨m, hm⟩ := k1; exact DataW.trod_lt m _ _ _ hm
  obtain ⟨x1, y1⟩ : ∃ x, Rd.rel (Rd.string) W (fun k => k < W.heap.size) [.string s1] x := by
    obtain ⟨fuel, hf⟩ := h1
    exact str_opens H enc W _ _ _ fuel _ _ hf (fun n hn => of_decide_eq_true (List.all_eq_true.1 hsz _ (DataW.weights_mem_each (j := 1) rfl rfl n hn)))
  obtain ⟨s2, rfl⟩ : ∃ s, v2 = .int .i64 s := by obtain ⟨s, h, _⟩ := open_int Tryz.underlying3 (hval 2 3 v2 rfl rfl) h2; exact ⟨s, h⟩
  have k2 := h2
  have lt2 : ∀ x ∈ p2, x.block < W.heap.size := by obtain ⟨m, hm⟩ := k2; exact DataW.trod_lt m _ _ _ hm
  obtain ⟨x2, y2⟩ : ∃ x, Rd.rel (Rd.int .i64) W (fun k => k < W.heap.size) [.int .i64 s2] x := by
    obtain ⟨fuel, hf⟩ := h2
    exact int_opens H enc W _ _ _ fuel _ _ hf (fun n hn => of_decide_eq_true (List.all_eq_true.1 hsz _ (DataW.weights_mem_each (j := 2) rfl rfl n hn)))
  clear hA0 hval0 hsz0 hsz
  refine (labelTells_walk a0 n0 c0 s1 s2 x0 x1 x2 W y0 y1 y2 (env_of hL)).mono fun e W' ⟨he, bel⟩ => ?_
  subst he
  exact ⟨_, rfl, _, _, _, [], _, [], hW', trodAll_mk1 (shut_bool Tryz.underlying4 _), (trodAll_cons_mk (Below.trod laidOut (by kernel_rfl) (of_decide_eq_true (by kernel_rfl)) k0 bel lt0) (trodAll_cons_mk (Below.trod laidOut (by kernel_rfl) (of_decide_eq_true (by kernel_rfl)) k1 bel lt1) (trodAll_cons_mk (Below.trod laidOut (by kernel_rfl) (of_decide_eq_true (by kernel_rfl)) k2 bel lt2) trodAll_mk0))), rfl, bel.frame _, fun h => by cases h⟩
theorem over : Rows.labelTellsRow.holds Tryz.pinned (OpenSpec.ofChange Rows.labelTellsSpec) :=
  OpenClaim.holds_of_wide 9 Tryz.f9 rfl rfl rfl rfl rfl rfl rfl ⟨rfl, rfl, rfl, rfl, rfl⟩ rfl rfl rfl rfl rfl (by kernel_rfl) Tryz.func9 (by kernel_rfl)
    (of_decide_eq_true (by kernel_rfl)) (by unfold Func.isWrapper; first | (rw [if_pos (by decide +kernel)]; kernel_rfl) | (rw [if_neg (by decide +kernel)]; exact ⟨rfl, rfl⟩))
    (fun os started H enc _ => lifted os started H enc)
theorem proved : Rows.LabelTellsSaid := over
#print axioms proved
end Go.Proofs.YthhepnaanjicjaaGreatDoor.labelTells
namespace Go.Proofs.YthhepnaanjicjaaGreatDoor
/-- The row, under a short name, for the claim. -/
theorem labelTells_holds : Rows.LabelTellsSaid := labelTells.proved
end Go.Proofs.YthhepnaanjicjaaGreatDoor

/- The law LabelTells returns true for every input, and its arguments read afterwards as before: the tied card. No condition beyond the row's own. -/
namespace Go.Proofs.YthhepnaanjicjaaGreatDoor
open Go
theorem labelTells_card_holds : Rows.LabelTellsCardSaid :=
  Claim7.holds_tied_plain_at .later [] [.data, .data, .data, .data, .sentinel, .sentinel, .pinned] true (true, "fd594034ef6ac330493a0e3f50887663515fa0ef89308825e5a45e0f653eee68") true
    labelTells_holds (fun _ h => by cases h) (by kernel_rfl) (fun _ h => by cases h) labelTells_row_tie rfl ⟨rfl, rfl⟩ (by kernel_rfl) rfl
    (fun f fn hf hfn => by
      obtain rfl : f = 9 := Option.some.inj ((show Tryz.prog.funcNamed "regency/regencylaw06.LabelTells" = some 9 by kernel_rfl).symm.trans hf) |>.symm
      obtain rfl : fn = Tryz.f9 := (Option.some.inj (Tryz.func9.symm.trans hfn)).symm
      exact ⟨by kernel_rfl, fun j t ht => by
        rw [Tryz.params9] at ht
        have hm : t ∈ [23, 9, 3] := by simpa using Array.mem_of_getElem? ht
        have hall : ([23, 9, 3].all fun u => !Tryz.prog.wantsStandIn u) = true := by kernel_rfl
        exact (show Tryz.prog.wantsStandIn t = false by simpa using List.all_eq_true.1 hall t hm)⟩)
    (by kernel_rfl)
#print axioms labelTells_card_holds
end Go.Proofs.YthhepnaanjicjaaGreatDoor
