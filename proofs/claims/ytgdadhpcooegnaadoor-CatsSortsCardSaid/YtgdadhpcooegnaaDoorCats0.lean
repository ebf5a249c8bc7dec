/- Layer 5, cats: the words of the numbers; what a call needs of the package-level variables; number. -/
import Derived.Test.YtgdadhpcooegnaaDoorShelf
import Derived.Test.YtgdadhpcooegnaaDoorArr
import Derived.WalkSmall
import Derived.Lib.SmallJoins
import Derived.Lib.AppendIntMem
import Derived.Lib.AtoiAllCases
import Derived.LaidEql
namespace Go.Proofs.YtgdadhpcooegnaaDoor
open Go.RowKit
set_option linter.unusedVariables false
section
open Go.Extern.Stop Go.Stop Go.Extern
theorem run_eql_iface_nil_nil {P : Program} {ti : TypeId} {ms : Array (String × TypeId)} (hi : P.underlying ti = some (.interface ms)) (w : World) :
    (binOp .eql ti .nilIface .nilIface).run P w = .ok (.bool true) w := by
  have h : ∀ d : Nat, (Op.equalIn (d + 1) ti .nilIface .nilIface).run P w = .ok true w := fun d => by simp [Op.equalIn, run_underlying hi]
  simp only [binOp]
  simp [Op.equal, Op.maxDepth, h 9999]
theorem run_eql_iface_nil_right {P : Program} {ti : TypeId} {ms : Array (String × TypeId)} (tp : TypeId) (v : Value) (hi : P.underlying ti = some (.interface ms)) (w : World) :
    (binOp .eql ti (.iface tp v) .nilIface).run P w = .ok (.bool false) w := by
  have h : ∀ d : Nat, (Op.equalIn (d + 1) ti (.iface tp v) .nilIface).run P w = .ok false w := fun d => by simp [Op.equalIn, run_underlying hi]
  simp only [binOp]
  simp [Op.equal, Op.maxDepth, h 9999]
end
open Go.Sort Go.Lib
theorem tr0 {S : Nat → Prop} {w w1 w2 : World} (h : Mod S w w1) (k : Mod (fun _ => False) w1 w2) : Mod S w w2 := h.trans k (fun _ hk => hk.elim)
/-- strconv's table and its two errors are as the program lays them. -/
structure Env (w : World) : Prop where
  tab : Lib.TabIs Tryd.prog w "internal/strconv.uint64pow10" .u64 Lib.pow10Tab
  syn : ∃ tp p, w.var? Tryd.prog "strconv.ErrSyntax" = some #[.iface tp p]
  rng : ∃ tp p, w.var? Tryd.prog "strconv.ErrRange" = some #[.iface tp p]
theorem g1 : Tryd.prog.globalNamed "internal/strconv.uint64pow10" = some 5 := by kernel_rfl
theorem g2 : Tryd.prog.globalNamed "strconv.ErrSyntax" = some 1 := by kernel_rfl
theorem g3 : Tryd.prog.globalNamed "strconv.ErrRange" = some 2 := by kernel_rfl
theorem var_mod {S : Nat → Prop} {w w' : World} {n : String} {g : Nat} {cs : Array Value} (hg : Tryd.prog.globalNamed n = some g) (h : w.var? Tryd.prog n = some cs) (hm : Mod S w w') (hS : ¬ S g) : w'.var? Tryd.prog n = some cs := by
  unfold World.var? at h ⊢
  rw [hg] at h ⊢
  have hlt : g < w.heap.size := by
    by_cases hb : g < w.heap.size
    · exact hb
    · have : w.heap[g]? = none := by simp; omega
      simp [this] at h
  simpa [hm.block g hlt hS] using h
theorem Env.mod {S : Nat → Prop} {w w' : World} (h : Env w) (hm : Mod S w w') (hS : ∀ k, S k → 10 ≤ k) : Env w' := by
  obtain ⟨a, ⟨t, p, b⟩, ⟨t2, p2, c⟩⟩ := h
  have k : ∀ g : Nat, g < 10 → ¬ S g := fun g hg hs => by have := hS g hs; omega
  exact ⟨var_mod g1 a hm (k _ (by decide)), ⟨t, p, var_mod g2 b hm (k _ (by decide))⟩, ⟨t2, p2, var_mod g3 c hm (k _ (by decide))⟩⟩
theorem Env.mod0 {w w' : World} (h : Env w) (hm : Mod (fun _ => False) w w') : Env w' := h.mod hm (fun _ hk => hk.elim)
/-- The number that a text names, up to `most`. -/
def numB (s : List UInt8) (most : Int) : Option Int := match Lib.atoiAll s with
  | .ok v => if 0 ≤ v ∧ v ≤ most ∧ Lib.itoa v = s then some v else none
  | _ => none
theorem parse_app : ∀ (a b : List UInt8) (acc : Nat), Lib.parseUint10 acc (a ++ b) = match Lib.parseUint10 acc a with | .ok u => Lib.parseUint10 u b | e => e
  | [], b, acc => by simp [Lib.parseUint10]
  | c :: a, b, acc => by
    simp only [List.cons_append, Lib.parseUint10]
    split
    · split
      · rfl
      · split
        · rfl
        · exact parse_app a b _
    · rfl
theorem parse_dec (u : Nat) (hu : u < 9223372036854775808) : Lib.parseUint10 0 (Lib.decDigits u) = .ok u := by
  have one : ∀ d, d < 10 → (UInt8.ofNat (48 + d)).toNat = 48 + d := fun d hd => by simp; omega
  rw [Lib.decDigits]
  split
  · rename_i h
    simp only [Lib.parseUint10, one u h]
    rw [if_pos (by omega), if_neg (by omega), if_neg (by omega)]
    simp
  · rename_i h
    rw [parse_app, parse_dec (u / 10) (by omega)]
    simp only [Lib.parseUint10, one (u % 10) (by omega)]
    rw [if_pos (by omega), if_neg (by omega), if_neg (by omega)]
    congr 1; omega
theorem dec_head (u : Nat) : ∃ c r, Lib.decDigits u = c :: r ∧ 48 ≤ c.toNat ∧ c.toNat ≤ 57 := by
  have one : ∀ d, d < 10 → (UInt8.ofNat (48 + d)).toNat = 48 + d := fun d hd => by simp; omega
  rw [Lib.decDigits]
  split
  · rename_i h
    exact ⟨_, _, rfl, by rw [one u h]; omega, by rw [one u h]; omega⟩
  · obtain ⟨c, r, h1, h2, h3⟩ := dec_head (u / 10)
    exact ⟨c, r ++ _, by rw [h1]; rfl, h2, h3⟩
theorem atoi_itoa (v : Int) (h0 : 0 ≤ v) (h1 : v < 9223372036854775808) : Lib.atoiAll (Lib.itoa v) = .ok v := by
  obtain ⟨u, rfl⟩ : ∃ u : Nat, v = u := ⟨v.toNat, by omega⟩
  rw [Lib.itoa_nonneg]
  obtain ⟨c, r, h, h2, h3⟩ := dec_head u
  have hp := parse_dec u (by omega)
  rw [h] at hp ⊢
  rw [Lib.atoiAll_plain c r (by omega) (by omega)]
  unfold Lib.parseMag
  rw [if_neg (by simp), hp]
  simp only [Lib.signless]
  rw [if_neg (by omega)]
theorem numB_some {s : List UInt8} {most v : Int} : numB s most = some v → 0 ≤ v ∧ v ≤ most ∧ Lib.itoa v = s := by
  unfold numB
  split
  · split
    · intro h; cases h; assumption
    · intro h; cases h
  · intro h; cases h
theorem numB_itoa (v most : Int) (h0 : 0 ≤ v) (h1 : v ≤ most) (hm : most < 9223372036854775808) : numB (Lib.itoa v) most = some v := by
  unfold numB
  rw [atoi_itoa v h0 (by omega)]
  simp [h0, h1]
set_option maxRecDepth 100000 in
set_option maxHeartbeats 1000000 in
theorem number_any (s : ByteArray) (most : Int) (h0 : 0 ≤ most) (hm : most < 9223372036854775808) (hs : s.size ≤ 281474976710656) (w : World) (E : Env w) :
    Calls Tryd.prog 19 #[.string s, .int .i64 most] w fun r w' => ∃ n, r = .returned (.tuple #[.int .i64 n, .bool (numB s.data.toList most).isSome]) ∧ (∀ v, numB s.data.toList most = some v → n = v) ∧ Mod (fun _ => False) w w' := by
  go_enter Tryd.func19, Tryd.ntmps19
  rcases ha : Lib.atoiAll s.data.toList with v | _ | _
  ·
    have hb := Lib.atoiAll_bounds ha
    go_wp2_with fail
    refine (Tryd.strconv_Atoi_ok s (by omega) v ha w).mono ?_
    rintro e w1 ⟨rfl, hw⟩
    have hm1 : Mod (fun _ => False) w w1 := by
      rcases hw with rfl | ⟨t, rfl⟩
      · exact .refl _ _
      · exact .of_below (Go.Joins.below_bytesWorld _ _ _ _ (Nat.le_refl _))
    have q0 := run_eql_iface_nil_nil (P := Tryd.prog) (ti := 55) Tryd.underlying55
    have E1 := Lib.hid (And.intro (E.mod0 hm1) hm1); clear hw hm1 E
    by_cases c1 : 0 ≤ v
    · by_cases c2 : v ≤ most
      · go_wp2_with fail
        refine (Tryd.strconv_Itoa v hb.1 hb.2 w1 E1.out.1.tab).mono ?_
        rintro e w2 ⟨rfl, k, os, hw⟩
        have hm2 : Mod (fun _ => False) w w2 := tr0 E1.out.2 (by rw [hw]; exact .of_below (Go.Lib.below_grow _ _ (Nat.le_refl _) k os))
        have H2 := Lib.hid hm2; clear hm2 hw E1
        go_wp2_with fail
        go_ret2
        have hN : numB s.data.toList most = if itoa v = s.data.toList then some v else none := by unfold numB; rw [ha]; simp [c1, c2]
        refine ⟨v, ?_, ?_, H2.out⟩
        · rw [hN]
          by_cases he : itoa v = s.data.toList
          · simp [he, ByteArray.toList_eq]
          · simp [he, ByteArray.toList_eq]
        · rw [hN]; intro x hx; split at hx
          · exact Option.some.inj hx
          · cases hx
      · have c2' : decide (v ≤ most) = false := by simp; omega
        go_wp2_with fail
        go_ret2
        have hN : numB s.data.toList most = none := by unfold numB; rw [ha]; simp; intro _ h; omega
        exact ⟨v, by rw [hN]; rfl, by rw [hN]; (intro x hx; cases hx), E1.out.2⟩
    · have c1' : decide (0 ≤ v) = false := by simp; omega
      go_wp2_with fail
      go_ret2
      have hN : numB s.data.toList most = none := by unfold numB; rw [ha]; simp; intro h; omega
      exact ⟨v, by rw [hN]; rfl, by rw [hN]; (intro x hx; cases hx), E1.out.2⟩
  ·
    obtain ⟨tp, p, hv⟩ := E.syn
    go_wp2_with fail
    refine (Tryd.strconv_Atoi_syntax_var s hs ha tp p w hv).mono ?_
    rintro e w1 ⟨N, rfl, -, -, hb⟩
    have H1 := Lib.hid (Mod.of_below (S := fun _ => False) hb); clear hb
    have q1 := fun t u => run_eql_iface_nil_right (P := Tryd.prog) (ti := 55) t u Tryd.underlying55
    go_wp2_with fail
    go_ret2
    have hN : numB s.data.toList most = none := by unfold numB; rw [ha]
    exact ⟨_, by rw [hN]; rfl, by rw [hN]; (intro x hx; cases hx), H1.out⟩
  ·
    obtain ⟨tp, p, hv⟩ := E.rng
    go_wp2_with fail
    refine (Tryd.strconv_Atoi_range_var s hs ha tp p w hv).mono ?_
    rintro e w1 ⟨N, rfl, -, -, hb⟩
    have H1 := Lib.hid (Mod.of_below (S := fun _ => False) hb); clear hb
    have q1 := fun t u => run_eql_iface_nil_right (P := Tryd.prog) (ti := 55) t u Tryd.underlying55
    go_wp2_with fail
    go_ret2
    have hN : numB s.data.toList most = none := by unfold numB; rw [ha]
    exact ⟨_, by rw [hN]; rfl, by rw [hN]; (intro x hx; cases hx), H1.out⟩
end Go.Proofs.YtgdadhpcooegnaaDoor
