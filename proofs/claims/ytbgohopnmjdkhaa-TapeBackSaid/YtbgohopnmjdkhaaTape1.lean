/- Layer 3's pen, the rest: Clone of bytes, Text, Bytes. -/
import Derived.Test.YtbgohopnmjdkhaaTape0
import Derived.Test.YtbgohopnmjdkhaaRd
import Derived.Lib.AppendStr
namespace Go.Proofs.Ytbgohopnmjdkhaa
open Go.RowKit
set_option maxRecDepth 100000 in
set_option maxHeartbeats 400000 in
theorem clone_any (v : Value) (xs : List UInt8) (ok : Nat → Prop) (w : World) (h : bytesR.rel w ok [v] xs) :
    Calls Try.prog 30 #[v] w fun e w' => ∃ A c, e = .returned (.slice A xs.length c) ∧ w'.ownsRow w.heap.size 5 1 (.slice A xs.length c) xs.length (bcells xs) ∧ Mod (fun _ => False) w w' := by
  have q22 : ∀ (w : World) (a : Option Addr) (n c n' c' : Nat), (binOp .eql 25 (.slice a n c) (.slice none n' c')).run Try.prog w = .ok (.bool a.isNone) w := fun w a n c n' c' => Lib.run_eql_slice_nil w _ _ a n c n' c' Try.underlying25
  obtain ⟨A, c, hv, h2, h3, h4, h5, h6⟩ := h
  obtain rfl : v = .slice A xs.length c := by simpa using hv
  cases A with
  | none =>
    have hc0 := h5 rfl
    have hx : xs.length = 0 := by omega
    obtain rfl : xs = [] := List.eq_nil_of_length_eq_zero hx
    subst hc0
    go_enter Try.func30, Try.ntmps30
    go_wp2
    go_ret
    exact ⟨none, 0, rfl, World.ownsRow_nil _ _ _ _, .refl _ _⟩
  | some ad =>
    clear hv h5
    have hnl := bcells_length xs
    have hcells : ∀ j u, (bcells xs)[j]? = some u → w.cell? (ad.add j) = some u := by
      by_cases hx : xs = []
      · subst hx; intro j u hu; simp [bcells] at hu
      · obtain ⟨ad', e, _, hh⟩ := RowOf.bcells h6 hx
        injection e with e; subst e; exact hh
    have HC := Lib.hid hcells; clear hcells
    clear h6
    obtain ⟨i0, hi, hz0, hz1, hz2⟩ := info_parts Try.info_u8
    go_enter Try.func30, Try.ntmps30
    go_wp2_with (at_builtin; refine wpList_append_own_at _ rfl _ _ 25 rfl w.heap.size 5 i0 (.int .u8 0) 1 1 Try.underlying25 hi hz0 hz1 hz2 rfl (by decide) (.slice (some ⟨w.heap.size, 0, none⟩) 0 0) 0 [] rfl ?c1 ad xs.length c (bcells xs) rfl ?c2 ?c3 ?c4 ?c5 ?c6 ?c7 ?_)
    case c1 => exact World.ownsRow_made w _ 0 (Nat.le_refl _) (by decide) rfl
    case c2 => simp [bcells_length]
    case c3 => intro j u hu; have := HC.out j u hu; exact cell_step this (fun hl => Below.heap_alloc _ _ _ hl)
    case c4 => exact bcells_one _
    case c5 => unfold maxLen; omega
    case c6 => omega
    case c7 => simp
    intro v1 w1 hown hg hnil hat
    obtain ⟨A1, c1, rfl⟩ := own_slice hown
    have HR := Lib.hid (And.intro hown hg); clear hown hg hnil hat
    go_wp2
    go_ret
    exact ⟨A1, c1, rfl, HR.out.1, ((Mod.refl _ w).alloc _).grown HR.out.2 (by simp [Value.ownBlock])⟩
theorem append_str {P : Program} {ops : Array Oper} {rest : List Oper} {o : Oper} {a : Act} {Q : Exit → Act → World → Prop} {w : World} (base : Nat) (hgd : o.guard = none) (sl x : Operand) (t u e : TypeId)
    (ho : o.op = .call { callee := .builtin .append, args := #[sl, x], argTypes := #[t, u] })
    (ht : P.underlying t = some (.slice e)) (hu : P.underlying u = some .string) (hinfo : (P.info? e).map (fun i => (i.zero, i.size, i.bytes)) = some (some (.int .u8 0), 1, 1))
    (v : Value) (n : Nat) (xs : List Value) (hs : a.eval sl = v) (hown : w.ownsRow base e 1 v n xs) (s : ByteArray) (hx : a.eval x = .string s)
    (hbytes : n + s.size ≤ 140737488355328) (hbase : base ≤ w.heap.size)
    (h : ∀ A c w', w'.ownsRow base e 1 (.slice A (n + s.size) c) (n + s.size) (xs ++ Lib.strCells s) → w.grownBy w' v.ownBlock → NewOr w v (.slice A (n + s.size) c) → wpList P ops Q rest (a.put o.dst (.slice A (n + s.size) c)) w') : wpList P ops Q (o :: rest) a w := by
  obtain ⟨i, hi, hzz⟩ := Option.map_eq_some_iff.1 hinfo
  simp only [Prod.mk.injEq] at hzz
  obtain ⟨hz, hsize, hby⟩ := hzz
  refine wpList_plain hgd fun K hK => ?_
  obtain ⟨v', w', hr, h2, h3, h4⟩ := Lib.run_append_own_string (P := P) w base t u o.type e i ht hu hi hz hsize hby v n xs hown s (by unfold maxLen; omega) hbytes hbase
  have hat : NewOr w v v' := by
    rcases hown.2 with ⟨rfl, rfl⟩ | ⟨g, cap, cur, rfl, hbg, hg, hnc, hcm, hcs, htake⟩
    · by_cases hm : s.size = 0
      · exact .inl (by rw [h4.2 ⟨rfl, hm⟩])
      · have hr2 := run_append_nil_string (P := P) w t u o.type e i (.int .u8 0) ht hu hi hz s (by omega) (by omega) (by rw [hby]; omega)
        rw [hr] at hr2
        injection hr2 with e1 _
        exact .inr ⟨w.heap.size, by rw [e1]; rfl, Nat.le_refl _⟩
    · by_cases hroom : n + s.size ≤ cap
      · have hr2 := Lib.run_append_room_string (P := P) w t u o.type e i ht hu hi hsize g n cap cur hg s hroom (by omega)
        rw [hr] at hr2
        injection hr2 with e1 _
        exact .inl (by rw [e1]; rfl)
      · have hr2 := Lib.run_append_grow_string (P := P) w t u o.type e i (.int .u8 0) ht hu hi hz ⟨g, 0, none⟩ n cap xs (by rw [hsize]; exact hown.1) (hown.cells (g := g) rfl) s (by omega) (by omega) (by rw [hby]; exact growslice_fits (by omega) (by omega))
        rw [hr] at hr2
        injection hr2 with e1 _
        exact .inr ⟨w.heap.size, by rw [e1]; rfl, Nat.le_refl _⟩
  obtain ⟨A, c, rfl⟩ := own_slice h2
  unfold Oper.wp execOp
  simp only [ho, resolve, invoke, builtin, Sem.run_bind, Sem.run_pure, Result.andThen_ok, List.map_toArray, List.map_cons, List.map_nil, hs, hx, hr]
  exact hK _ _ (h A c w' h2 h3 hat)
set_option maxRecDepth 100000 in
theorem text_any (g base : Nat) (s : ByteArray) (v : Value) (bs : List UInt8) (w : World) (hp : PenAt w base g v bs) (hb : base ≤ w.heap.size) (hs : s.size ≤ 1000000000) (hl : bs.length ≤ 140000000000000) :
    Calls Try.prog 12 #[.pointer (some ⟨g, 0, none⟩), .string s] w fun e w' => e = .returned (.tuple #[]) ∧ ∃ v', PenTo base g w v w' v' (bs ++ encF 10 s.size ++ s.data.toList) := by
  go_enter Try.func12, Try.ntmps12
  go_wp2_with fail
  refine (num_any g base _ v bs w hp hb (by omega) (by omega) (by omega)).mono ?_
  rintro e w1 ⟨rfl, v1, H1⟩
  have hpr := H1.at_
  have hcr := hpr.cell
  have hfr := hpr.free
  have hwb := Nat.le_trans hb H1.mod.size
  go_wp2_with (at_builtin; refine append_str base rfl _ _ 25 9 5 rfl Try.underlying25 Try.underlying9 Try.info_u8 v1 _ _ rfl hpr.own s rfl ?c1 hwb ?_)
  case c1 => have := encF_len 10 (s.size : Int); simp; omega
  intro A c w2 hown hg hn
  obtain ⟨R1, R3, R4⟩ := hpr.step (bs1 := bs ++ encF 10 s.size ++ s.data.toList) (by rw [bcells_append, ← strCells_bcells, List.length_append, List.length_append]; simpa using hown) hg hn
  have HR := Lib.hid R1; clear R1 hn hown hg hcr hfr
  go_wp2
  go_end0
  exact ⟨rfl, _, H1.trans HR.out⟩
set_option maxRecDepth 100000 in
theorem bytes_nil (w : World) :
    Calls Try.prog 14 #[.pointer none] w fun e w' => e = .returned (.slice none 0 0) ∧ w = w' := by
  go_enter Try.func14, Try.ntmps14
  go_wp2
  go_ret
  exact ⟨rfl, rfl⟩
set_option maxRecDepth 100000 in
theorem bytes_any (g base : Nat) (v : Value) (bs : List UInt8) (w : World) (hp : PenAt w base g v bs) (hl : bs.length ≤ 140737488355328) :
    Calls Try.prog 14 #[.pointer (some ⟨g, 0, none⟩)] w fun e w' => ∃ A c, e = .returned (.slice A bs.length c) ∧ w'.ownsRow w.heap.size 5 1 (.slice A bs.length c) bs.length (bcells bs) ∧ Mod (fun _ => False) w w' := by
  have hc := hp.cell
  have hr := reads_bytes hp.own hl
  obtain ⟨A0, c0, hv⟩ := own_slice hp.own
  clear hp
  subst hv
  go_enter Try.func14, Try.ntmps14
  go_wp2_with fail
  refine (clone_any _ bs _ w hr).mono ?_
  rintro e w1 ⟨A, c, rfl, h1, h2⟩
  have HR := Lib.hid (And.intro h1 h2); clear h1 h2
  go_wp2
  go_ret
  exact ⟨A, c, rfl, HR.out.1, HR.out.2⟩
end Go.Proofs.Ytbgohopnmjdkhaa
