/- Layer 22, the small functions: sizes, primaries, entries of a vector, joins. -/
import Derived.Test.YtgdadhpcooegnaaRd
import Derived.BigQuiet
import Derived.Deep.QuietTactic
import Derived.Lib.MinMax
namespace Go.Proofs.Ytgdadhpcooegnaa
open Go.RowKit
set_option linter.unusedVariables false
abbrev intsR : Rd (List Int) := Rd.slice 8 (Rd.int .i64)
theorem RowOf.ints {k : IntKind} {w : World} {ok : Nat → Prop} {A : Option Addr} {xs : List Int} (h : (Rd.int k).RowOf w ok A xs) {j : Nat} {x : Int} (hj : xs[j]? = some x) :
    ∃ ad, A = some ad ∧ ok ad.block ∧ w.cell? (ad.add j) = some (.int k x) ∧ Rd.inR k x := by
  obtain ⟨ad, c, hA, hok, ⟨rfl, hr⟩, hc⟩ := Rd.RowOf.at_ h hj
  have := hc 0 _ rfl
  rw [show j * (Rd.int k).sz + 0 = j from Nat.mul_one j] at this
  exact ⟨ad, hA, hok, this, hr⟩
theorem inR_i64 {x : Int} (h : Rd.inR .i64 x) : -9223372036854775808 ≤ x ∧ x ≤ 9223372036854775807 := by
  simpa [Rd.inR, Lit.wf, IntKind.min, IntKind.max, IntKind.signed, IntKind.bits] using h
theorem inR_mk {x : Int} (h : -9223372036854775808 ≤ x ∧ x ≤ 9223372036854775807) : Rd.inR .i64 x := by
  simpa [Rd.inR, Lit.wf, IntKind.min, IntKind.max, IntKind.signed, IntKind.bits] using h
theorem intsR_inR {w : World} {ok : Nat → Prop} {cs : List Value} {xs : List Int} (h : intsR.rel w ok cs xs) : ∀ x ∈ xs, Rd.inR .i64 x := by
  obtain ⟨A, c, _, _, _, _, _, h6⟩ := h
  intro x hx
  obtain ⟨j, hj⟩ := List.getElem?_of_mem hx
  obtain ⟨_, _, _, _, hr⟩ := RowOf.ints h6 hj
  exact hr
def getI (l : List Int) (i : Int) : Int := if i < 0 then 0 else l.getD i.toNat 0
theorem getI_nat (l : List Int) (k : Nat) : getI l k = l.getD k 0 := by unfold getI; rw [if_neg (by omega)]; simp
theorem getI_inR {l : List Int} (h : ∀ x ∈ l, Rd.inR .i64 x) (i : Int) : Rd.inR .i64 (getI l i) := by
  unfold getI
  split
  · exact inR_mk (by decide)
  · rw [List.getD_eq_getElem?_getD]
    cases hj : l[i.toNat]? with
    | none => exact inR_mk (by decide)
    | some x => exact h x (List.mem_of_getElem? hj)
def sizeB (n : Int) : Bool := n == 3 || n == 5 || n == 7
set_option maxRecDepth 100000 in
theorem size_any (n : Int) (w : World) : Calls Try.prog 18 #[.int .i64 n] w fun e w' => e = .returned (.bool (sizeB n)) ∧ w = w' := by
  by_cases h3 : n = 3
  · subst h3
    go_enter Try.func18, Try.ntmps18
    go_wp2
    go_ret
    exact ⟨rfl, rfl⟩
  by_cases h5 : n = 5
  · subst h5
    go_enter Try.func18, Try.ntmps18
    go_wp2
    go_ret
    exact ⟨rfl, rfl⟩
  by_cases h7 : n = 7
  · subst h7
    go_enter Try.func18, Try.ntmps18
    go_wp2
    go_ret
    exact ⟨rfl, rfl⟩
  · have b3 : (n == 3) = false := by simpa using h3
    have b5 : (n == 5) = false := by simpa using h5
    have b7 : (n == 7) = false := by simpa using h7
    have HB : Hid (sizeB n = false) := by unfold sizeB; rw [b3, b5, b7]; rfl
    clear h3 h5 h7
    go_enter Try.func18, Try.ntmps18
    go_wp2
    go_ret
    exact ⟨by rw [HB.out]; rfl, rfl⟩
theorem sizeB_cases {n : Int} (h : sizeB n = true) : n = 3 ∨ n = 5 ∨ n = 7 := by
  unfold sizeB at h
  simp at h; omega
theorem sizeB_no {n : Int} (h : sizeB n = false) : ¬ (n = 3 ∨ n = 5 ∨ n = 7) := by
  unfold sizeB at h
  simp at h; omega
set_option maxRecDepth 100000 in
theorem refsize_any (n : Int) (w : World) : Calls Try.prog 19 #[.int .i64 n] w fun e w' => e = .returned (.bool (sizeB n)) ∧ w = w' := by
  by_cases hr : 3 ≤ n ∧ n ≤ 7
  · obtain ⟨h1, h2⟩ := hr
    have hc : n = 3 ∨ n = 4 ∨ n = 5 ∨ n = 6 ∨ n = 7 := by omega
    rcases hc with rfl | rfl | rfl | rfl | rfl <;>
    · go_enter Try.func19, Try.ntmps19
      go_wp2
      go_ret
      exact ⟨rfl, rfl⟩
  · have HB : Hid (sizeB n = false) := by
      cases hs : sizeB n with
      | false => rfl
      | true => have := sizeB_cases hs; omega
    by_cases h3 : 3 ≤ n
    · have h7 : decide (n ≤ 7) = false := by simp; omega
      have h3' : decide (3 ≤ n) = true := by simpa using h3
      clear hr h3
      go_enter Try.func19, Try.ntmps19
      go_wp2
      go_ret
      exact ⟨by rw [HB.out]; rfl, rfl⟩
    · have h3' : decide (3 ≤ n) = false := by simp; omega
      clear hr h3
      go_enter Try.func19, Try.ntmps19
      go_wp2
      go_ret
      exact ⟨by rw [HB.out]; rfl, rfl⟩
def faultsI (n : Int) : Int := if sizeB n then n / 2 else 0
set_option maxRecDepth 100000 in
theorem faults_any (n : Int) (w : World) : Calls Try.prog 16 #[.int .i64 n] w fun e w' => e = .returned (.int .i64 (faultsI n)) ∧ w = w' := by
  have HS := Lib.hid (size_any n w)
  cases hs : sizeB n with
  | false =>
    rw [hs] at HS
    have HB : Hid (faultsI n = 0) := by show faultsI n = 0; unfold faultsI; rw [hs]; rfl
    clear hs
    go_enter Try.func16, Try.ntmps16
    go_wp2_with fail
    refine HS.out.mono ?_
    rintro e w' ⟨rfl, rfl⟩
    go_wp2
    go_ret
    exact ⟨by rw [HB.out]; rfl, rfl⟩
  | true =>
    rw [hs] at HS
    have hn := sizeB_cases hs
    have h0 : 0 ≤ n := by omega
    have h1 : n ≤ 7 := by omega
    have HB : Hid (faultsI n = n / 2) := by show faultsI n = n / 2; unfold faultsI; rw [hs]; rfl
    clear hs hn
    go_enter Try.func16, Try.ntmps16
    go_wp2_with fail
    refine HS.out.mono ?_
    rintro e w' ⟨rfl, rfl⟩
    go_wp2
    go_ret
    exact ⟨by rw [HB.out]; rfl, rfl⟩
set_option maxRecDepth 100000 in
theorem reffaults_any (n : Int) (w : World) : Calls Try.prog 20 #[.int .i64 n] w fun e w' => e = .returned (.int .i64 (faultsI n)) ∧ w = w' := by
  have HS := Lib.hid (refsize_any n w)
  cases hs : sizeB n with
  | false =>
    rw [hs] at HS
    have HB : Hid (faultsI n = 0) := by show faultsI n = 0; unfold faultsI; rw [hs]; rfl
    clear hs
    go_enter Try.func20, Try.ntmps20
    go_wp2_with fail
    refine HS.out.mono ?_
    rintro e w' ⟨rfl, rfl⟩
    go_wp2
    go_ret
    exact ⟨by rw [HB.out]; rfl, rfl⟩
  | true =>
    rw [hs] at HS
    have hn := sizeB_cases hs
    clear hs
    rcases hn with rfl | rfl | rfl <;>
    · go_enter Try.func20, Try.ntmps20
      go_wp2_with fail
      refine HS.out.mono ?_
      rintro e w' ⟨rfl, rfl⟩
      go_wp2
      go_ret
      exact ⟨rfl, rfl⟩
def primaryI (v n : Int) : Int := if sizeB n = false ∨ v < 0 then 0 else v % n
set_option maxRecDepth 100000 in
theorem primary_any (v n : Int) (w : World) : Calls Try.prog 21 #[.int .i64 v, .int .i64 n] w fun e w' => e = .returned (.int .i64 (primaryI v n)) ∧ w = w' := by
  have HS := Lib.hid (size_any n w)
  cases hs : sizeB n with
  | false =>
    rw [hs] at HS
    have HB : Hid (primaryI v n = 0) := by show primaryI v n = 0; unfold primaryI; rw [if_pos (.inl hs)]
    clear hs
    go_enter Try.func21, Try.ntmps21
    go_wp2_with fail
    refine HS.out.mono ?_
    rintro e w' ⟨rfl, rfl⟩
    go_wp2
    go_ret
    exact ⟨by rw [HB.out]; rfl, rfl⟩
  | true =>
    rw [hs] at HS
    have hn := sizeB_cases hs
    by_cases hv : v < 0
    · have HB : Hid (primaryI v n = 0) := by show primaryI v n = 0; unfold primaryI; rw [if_pos (.inr hv)]
      have hd : decide (v < 0) = true := by simpa using hv
      clear hs hn hv
      go_enter Try.func21, Try.ntmps21
      go_wp2_with fail
      refine HS.out.mono ?_
      rintro e w' ⟨rfl, rfl⟩
      go_wp2
      go_ret
      exact ⟨by rw [HB.out]; rfl, rfl⟩
    · have HB : Hid (primaryI v n = v % n) := by show primaryI v n = v % n; unfold primaryI; rw [if_neg (by rw [hs]; simp; omega)]
      have hd : decide (v < 0) = false := by simpa using hv
      have hv0 : 0 ≤ v := by omega
      clear hs hv
      rcases hn with rfl | rfl | rfl <;>
      · go_enter Try.func21, Try.ntmps21
        go_wp2_with fail
        refine HS.out.mono ?_
        rintro e w' ⟨rfl, rfl⟩
        go_wp2
        go_ret
        exact ⟨by rw [HB.out]; rfl, rfl⟩
theorem prim_ref {v n : Int} (hn : n = 3 ∨ n = 5 ∨ n = 7) : v - v / n * n = v % n := by
  rcases hn with rfl | rfl | rfl <;> omega
set_option maxRecDepth 100000 in
theorem refprimary_any (v n : Int) (w : World) (hv2 : v ≤ 9223372036854775807) : Calls Try.prog 22 #[.int .i64 v, .int .i64 n] w fun e w' => e = .returned (.int .i64 (primaryI v n)) ∧ w = w' := by
  have HS := Lib.hid (refsize_any n w)
  cases hs : sizeB n with
  | false =>
    rw [hs] at HS
    have HB : Hid (primaryI v n = 0) := by show primaryI v n = 0; unfold primaryI; rw [if_pos (.inl hs)]
    clear hs hv2
    go_enter Try.func22, Try.ntmps22
    go_wp2_with fail
    refine HS.out.mono ?_
    rintro e w' ⟨rfl, rfl⟩
    go_wp2
    go_ret
    exact ⟨by rw [HB.out]; rfl, rfl⟩
  | true =>
    rw [hs] at HS
    have hn := sizeB_cases hs
    by_cases hv : v < 0
    · have HB : Hid (primaryI v n = 0) := by show primaryI v n = 0; unfold primaryI; rw [if_pos (.inr hv)]
      have hd : decide (v < 0) = true := by simpa using hv
      clear hs hn hv hv2
      go_enter Try.func22, Try.ntmps22
      go_wp2_with fail
      refine HS.out.mono ?_
      rintro e w' ⟨rfl, rfl⟩
      go_wp2
      go_ret
      exact ⟨by rw [HB.out]; rfl, rfl⟩
    · have HB : Hid (primaryI v n = v % n) := by show primaryI v n = v % n; unfold primaryI; rw [if_neg (by rw [hs]; simp; omega)]
      have hd : decide (v < 0) = false := by simpa using hv
      have hv0 : 0 ≤ v := by omega
      have HP := Lib.hid (prim_ref (v := v) hn)
      clear hs hv
      rcases hn with rfl | rfl | rfl <;>
      · go_enter Try.func22, Try.ntmps22
        go_wp2_with fail
        refine HS.out.mono ?_
        rintro e w' ⟨rfl, rfl⟩
        go_wp2
        go_ret
        exact ⟨by rw [HB.out, ← HP.out]; rfl, rfl⟩
theorem getI_case {w : World} {ok : Nat → Prop} {A : Option Addr} {n c : Nat} {xs : List Int} (h : intsR.rel w ok [.slice A n c] xs) (i : Int) :
    n = xs.length ∧ ((i < 0 ∧ getI xs i = 0) ∨ ((n : Int) ≤ i ∧ getI xs i = 0) ∨ (∃ (k : Nat) (ad : Addr) (x : Int), i = k ∧ k < n ∧ A = some ad ∧ w.cell? (ad.add k) = some (.int .i64 x) ∧ getI xs i = x)) := by
  obtain ⟨A', c', hv, _, _, _, _, h6⟩ := h
  simp only [List.cons.injEq, Value.slice.injEq, and_true] at hv
  obtain ⟨rfl, rfl, rfl⟩ := hv
  refine ⟨rfl, ?_⟩
  by_cases h0 : i < 0
  · exact .inl ⟨h0, by unfold getI; rw [if_pos h0]⟩
  obtain ⟨k, rfl⟩ := Int.eq_ofNat_of_zero_le (show 0 ≤ i by omega)
  by_cases h1 : k < xs.length
  · obtain ⟨ad, hA, _, hc, _⟩ := RowOf.ints h6 (List.getElem?_eq_getElem h1)
    exact .inr (.inr ⟨k, ad, _, rfl, h1, hA, hc, by rw [getI_nat, List.getD_eq_getElem?_getD, List.getElem?_eq_getElem h1]; rfl⟩)
  · exact .inr (.inl ⟨by omega, by rw [getI_nat, List.getD_eq_getElem?_getD, List.getElem?_eq_none (by omega)]; rfl⟩)
set_option maxRecDepth 100000 in
theorem at_any (A : Option Addr) (n c : Nat) (xs : List Int) (i : Int) (ok : Nat → Prop) (w : World) (h : intsR.rel w ok [.slice A n c] xs) :
    Calls Try.prog 33 #[.slice A n c, .int .i64 i] w fun e w' => e = .returned (.int .i64 (getI xs i)) ∧ w = w' := by
  obtain ⟨hn, hh⟩ := getI_case h i
  have hb : n ≤ 17592186044416 := by obtain ⟨_, _, _, _, _, h4, _⟩ := h; omega
  clear h hn
  rcases hh with ⟨h0, h1⟩ | ⟨h0, h1⟩ | ⟨k, ad, x, rfl, hk, rfl, hc, h1⟩
  · have HB := Lib.hid h1
    have hd : decide (i < 0) = true := by simpa using h0
    clear h1 h0
    go_enter Try.func33, Try.ntmps33
    go_wp2
    go_ret
    exact ⟨by rw [HB.out]; rfl, rfl⟩
  · have HB := Lib.hid h1
    have hd : decide (i < 0) = false := by simp; omega
    have hd2 : decide ((n : Int) ≤ i) = true := by simpa using h0
    clear h1 h0
    go_enter Try.func33, Try.ntmps33
    go_wp2
    go_ret
    exact ⟨by rw [HB.out]; rfl, rfl⟩
  · have HB := Lib.hid h1
    have hd2 : decide ((n : Int) ≤ (k : Int)) = false := by simp; omega
    clear h1
    go_enter Try.func33, Try.ntmps33
    go_wp2
    go_ret
    exact ⟨by rw [HB.out]; rfl, rfl⟩
set_option maxRecDepth 100000 in
theorem get_any (A : Option Addr) (n c : Nat) (xs : List Int) (i : Int) (ok : Nat → Prop) (w : World) (h : intsR.rel w ok [.slice A n c] xs) :
    Calls Try.prog 34 #[.slice A n c, .int .i64 i] w fun e w' => e = .returned (.int .i64 (getI xs i)) ∧ w = w' := by
  obtain ⟨hn, hh⟩ := getI_case h i
  have hb : n ≤ 17592186044416 := by obtain ⟨_, _, _, _, _, h4, _⟩ := h; omega
  clear h hn
  rcases hh with ⟨h0, h1⟩ | ⟨h0, h1⟩ | ⟨k, ad, x, rfl, hk, rfl, hc, h1⟩
  · have HB := Lib.hid h1
    have hd : decide (0 ≤ i) = false := by simp; omega
    clear h1 h0
    go_enter Try.func34, Try.ntmps34
    go_wp2
    go_ret
    exact ⟨by rw [HB.out]; rfl, rfl⟩
  · have HB := Lib.hid h1
    have hd : decide (0 ≤ i) = true := by simp; omega
    have hd2 : decide (i < (n : Int)) = false := by simpa using h0
    clear h1 h0
    go_enter Try.func34, Try.ntmps34
    go_wp2
    go_ret
    exact ⟨by rw [HB.out]; rfl, rfl⟩
  · have HB := Lib.hid h1
    have hd2 : decide ((k : Int) < (n : Int)) = true := by simp; omega
    clear h1
    go_enter Try.func34, Try.ntmps34
    go_wp2
    go_ret
    exact ⟨by rw [HB.out]; rfl, rfl⟩
/-! ### joins -/
def joinI (a b : List Int) : List Int := (List.range (max a.length b.length)).map fun i : Nat => max (getI a i) (getI b i)
theorem joinI_take (a b : List Int) (k : Nat) : (List.range (k + 1)).map (fun i : Nat => max (getI a i) (getI b i)) = (List.range k).map (fun i : Nat => max (getI a i) (getI b i)) ++ [max (getI a k) (getI b k)] := by
  rw [List.range_succ, List.map_append]; rfl
def icells (l : List Int) : List Value := l.map fun x => .int .i64 x
theorem icells_length (l : List Int) : (icells l).length = l.length := by simp [icells]
theorem icells_append (l m : List Int) : icells (l ++ m) = icells l ++ icells m := by simp [icells]
theorem own_ints {w : World} {base : Nat} {e : TypeId} {v : Value} {xs : List Int} (h : w.ownsRow base e 1 v xs.length (icells xs)) (hr : ∀ x ∈ xs, Rd.inR .i64 x) (S : Nat → Prop) : OwnR (Rd.int .i64) e w base S v xs := by
  refine ⟨_, h, fun j x hj => ⟨?_, hr x (List.mem_of_getElem? hj)⟩⟩
  show ((icells xs).drop (j * 1)).take 1 = _
  rw [Nat.mul_one]
  have : (icells xs)[j]? = some (.int .i64 x) := by simp [icells, hj]
  have hlt := (List.getElem?_eq_some_iff.1 this).1
  rw [List.drop_eq_getElem_cons hlt]
  simp [(List.getElem?_eq_some_iff.1 this).2]
theorem reads_ints {w : World} {base : Nat} {e : TypeId} {v : Value} {xs : List Int} (h : w.ownsRow base e 1 v xs.length (icells xs)) (hr : ∀ x ∈ xs, Rd.inR .i64 x) (hl : xs.length * 8 ≤ 140737488355328) : intsR.rel w (fun k => v.ownBlock = some k) [v] xs :=
  Rd.mono ((own_ints h hr (fun _ => False)).reads (bytes := 8) hl) (fun _ hk => hk.elim False.elim id)
theorem Try.info_int : (Try.prog.info? 3).map (fun i => (i.zero, i.size, i.bytes)) = some (some (.int .i64 0), 1, 8) := by kernel_rfl
set_option maxRecDepth 100000 in
set_option maxHeartbeats 400000 in
theorem join_any (A : Option Addr) (n c : Nat) (A2 : Option Addr) (n2 c2 : Nat) (a b : List Int) (ok : Nat → Prop) (w : World) (h : intsR.rel w ok [.slice A n c] a) (h2 : intsR.rel w ok [.slice A2 n2 c2] b) (hl : a.length ≤ 1000000 ∧ b.length ≤ 1000000) :
    Calls Try.prog 24 #[.slice A n c, .slice A2 n2 c2] w fun e w' => ∃ A' c', e = .returned (.slice A' (joinI a b).length c') ∧ w'.ownsRow w.heap.size 3 1 (.slice A' (joinI a b).length c') (joinI a b).length (icells (joinI a b)) ∧ Mod (fun _ => False) w w' := by
  obtain rfl : n = a.length := (getI_case h 0).1
  obtain rfl : n2 = b.length := (getI_case h2 0).1
  obtain ⟨hl1, hl2⟩ := hl
  have H1 := Lib.hid (And.intro h h2); clear h h2
  have ra := intsR_inR H1.out.1
  have rb := intsR_inR H1.out.2
  have key : ∀ (m : Nat), max a.length b.length = m → max (a.length : Int) (b.length : Int) = (m : Int) → Calls Try.prog 24 #[.slice A a.length c, .slice A2 b.length c2] w fun e w' => ∃ A' c', e = .returned (.slice A' (joinI a b).length c') ∧ w'.ownsRow w.heap.size 3 1 (.slice A' (joinI a b).length c') (joinI a b).length (icells (joinI a b)) ∧ Mod (fun _ => False) w w' := by
    intro m hm hm2
    have hml : m ≤ 1000000 := by omega
    have HM := Lib.hid hm; clear hm
    go_enter Try.func24, Try.ntmps24
    go_wp2_with fail
    go_loopg [5, 12] m (fun f sv si wr => ∃ (i : Nat), si = .int .i64 i ∧ i + f = m ∧ wr.ownsRow w.heap.size 3 1 sv i (icells ((List.range i).map (fun i : Nat => max (getI a i) (getI b i)))) ∧ Mod (fun _ => False) w wr)
    case atStart => exact ⟨0, rfl, by omega, World.ownsRow_nil _ _ _ _, .refl _ _⟩
    case round =>
      obtain ⟨i, rfl, hi, ho, hmod⟩ := hrel
      have hsz := hmod.size
      by_cases hlt : i < m
      · have HX := Lib.hid (And.intro hi (And.intro ho hmod)); clear hi ho hmod
        have HR : ∀ {W : World}, Mod (fun _ => False) w W → intsR.rel W ok [.slice A a.length c] a ∧ intsR.rel W ok [.slice A2 b.length c2] b := fun hM => ⟨Rd.mod H1.out.1 hM (fun _ _ => id), Rd.mod H1.out.2 hM (fun _ _ => id)⟩
        go_wp2_with fail
        refine (at_any A _ c a i ok wr (HR HX.out.2.2).1).mono ?_
        rintro e w1 ⟨rfl, rfl⟩
        go_wp2_with fail
        refine (at_any A2 _ c2 b i ok wr (HR HX.out.2.2).2).mono ?_
        rintro e w1 ⟨rfl, rfl⟩
        go_wp2_with (at_builtin; refine append_one w.heap.size rfl _ _ 23 3 (.int .i64 0) 8 rfl Try.underlying23 Try.info_int rfl (by decide) u5 (icells ((List.range i).map (fun i : Nat => max (getI a i) (getI b i)))) _ rfl rfl rfl (by rw [icells_length, List.length_map, List.length_range]; exact HX.out.2.1) hsz ?c1 ?_)
        case c1 => simp [icells_length]; omega
        intro A' c' w1 hown hg hn
        have HO := Lib.hid (And.intro hown hg); clear hown hg hn
        go_wp2_with fail
        go_roundg (gk - 1)
        case measure => have := HX.out.1; omega
        case rel =>
          refine ⟨i + 1, by go_num, by have := HX.out.1; omega, ?_, HX.out.2.2.grown HO.out.2 (fun k hk => .inr (own_lt HX.out.2.1 k hk.symm).1)⟩
          have := HO.out.1
          rw [joinI_take, icells_append]
          simpa [icells] using this
      · have hie : i = m := by omega
        subst hie
        have HX := Lib.hid (And.intro hi (And.intro ho hmod)); clear hi ho hmod
        obtain ⟨A', c', rfl⟩ := own_slice HX.out.2.1
        go_wp2_with fail
        go_ret
        have hj : joinI a b = (List.range i).map (fun i : Nat => max (getI a i) (getI b i)) := by unfold joinI; rw [HM.out]
        have hjl : (joinI a b).length = i := by rw [hj]; simp
        rw [hjl, hj]
        exact ⟨A', c', rfl, HX.out.2.1, HX.out.2.2⟩
  exact key _ rfl (by omega)
set_option maxRecDepth 100000 in
set_option maxHeartbeats 400000 in
theorem refjoin_any (A : Option Addr) (n c : Nat) (A2 : Option Addr) (n2 c2 : Nat) (a b : List Int) (ok : Nat → Prop) (w : World) (h : intsR.rel w ok [.slice A n c] a) (h2 : intsR.rel w ok [.slice A2 n2 c2] b) (hl : a.length ≤ 1000000 ∧ b.length ≤ 1000000) :
    Calls Try.prog 25 #[.slice A n c, .slice A2 n2 c2] w fun e w' => ∃ A' c', e = .returned (.slice A' (joinI a b).length c') ∧ w'.ownsRow w.heap.size 3 1 (.slice A' (joinI a b).length c') (joinI a b).length (icells (joinI a b)) ∧ Mod (fun _ => False) w w' := by
  obtain rfl : n = a.length := (getI_case h 0).1
  obtain rfl : n2 = b.length := (getI_case h2 0).1
  obtain ⟨hl1, hl2⟩ := hl
  have H1 := Lib.hid (And.intro h h2); clear h h2
  obtain ⟨m, hm⟩ : ∃ m, m = max a.length b.length := ⟨_, rfl⟩
  have hml : m ≤ 1000000 := by omega
  have HM := Lib.hid hm; clear hm
  go_enter Try.func25, Try.ntmps25
  go_wp2_with fail
  go_loopg [5, 6] m (fun f sv si wr => ∃ (i : Nat), si = .int .i64 i ∧ i + f = m ∧ wr.ownsRow w.heap.size 3 1 sv i (icells ((List.range i).map (fun i : Nat => max (getI a i) (getI b i)))) ∧ Mod (fun _ => False) w wr)
  case atStart => exact ⟨0, rfl, by omega, World.ownsRow_nil _ _ _ _, .refl _ _⟩
  case round =>
    obtain ⟨i, rfl, hi, ho, hmod⟩ := hrel
    have hsz := hmod.size
    have HX := Lib.hid (And.intro hi (And.intro ho hmod)); clear hi ho hmod
    by_cases hlt : i < m
    · have hdec : (decide (i < a.length) = true) ∨ (decide (i < a.length) = false ∧ decide (i < b.length) = true) := by
        have := HM.out
        by_cases h : i < a.length
        · left; simpa using h
        · right; simp; omega
      have HR : ∀ {W : World}, Mod (fun _ => False) w W → intsR.rel W ok [.slice A a.length c] a ∧ intsR.rel W ok [.slice A2 b.length c2] b := fun hM => ⟨Rd.mod H1.out.1 hM (fun _ _ => id), Rd.mod H1.out.2 hM (fun _ _ => id)⟩
      have hmx1 : getI a i < getI b i → max (getI a i) (getI b i) = getI b i := fun h => by omega
      have hmx2 : ¬ getI a i < getI b i → max (getI a i) (getI b i) = getI a i := fun h => by omega
      have HMX := Lib.hid (And.intro hmx1 hmx2); clear hmx1 hmx2
      rcases hdec with hd | ⟨hd, hd2⟩
      all_goals
        go_wp2_with fail
        refine (get_any A _ c a i ok wr (HR HX.out.2.2).1).mono ?_
        rintro e w1 ⟨rfl, rfl⟩
        go_wp2_with fail
        refine (get_any A2 _ c2 b i ok wr (HR HX.out.2.2).2).mono ?_
        rintro e w1 ⟨rfl, rfl⟩
        by_cases hgt : getI a i < getI b i
        all_goals
          go_wp2_with (at_builtin; refine append_one w.heap.size rfl _ _ 23 3 (.int .i64 0) 8 rfl Try.underlying23 Try.info_int rfl (by decide) u5 (icells ((List.range i).map (fun i : Nat => max (getI a i) (getI b i)))) _ rfl rfl rfl (by rw [icells_length, List.length_map, List.length_range]; exact HX.out.2.1) hsz (by rw [icells_length, List.length_map, List.length_range]; omega) ?_)
          intro A' c' w1 hown hg hn
          have HO := Lib.hid (And.intro hown hg); clear hown hg hn
          go_wp2_with fail
          go_roundg (gk - 1)
          case measure => have := HX.out.1; omega
          case rel =>
            refine ⟨i + 1, by go_num, by have := HX.out.1; omega, ?_, HX.out.2.2.grown HO.out.2 (fun k hk => .inr (own_lt HX.out.2.1 k hk.symm).1)⟩
            have := HO.out.1
            rw [joinI_take, icells_append]
            first
              | (rw [HMX.out.1 hgt]; simpa [icells] using this)
              | (rw [HMX.out.2 (by omega)]; simpa [icells] using this)
    · have hie : i = m := by have := HX.out.1; omega
      have hd1 : decide (i < a.length) = false := by have := HM.out; simp; omega
      have hd2 : decide (i < b.length) = false := by have := HM.out; simp; omega
      subst hie
      obtain ⟨A', c', rfl⟩ := own_slice HX.out.2.1
      go_wp2_with fail
      go_ret
      have hj : joinI a b = (List.range i).map (fun i : Nat => max (getI a i) (getI b i)) := by unfold joinI; rw [← HM.out]
      have hjl : (joinI a b).length = i := by rw [hj]; simp
      rw [hjl, hj]
      exact ⟨A', c', rfl, HX.out.2.1, HX.out.2.2⟩
set_option maxRecDepth 100000 in
set_option maxHeartbeats 400000 in
theorem numbers_same (A : Option Addr) (n c : Nat) (A2 : Option Addr) (n2 c2 : Nat) (a : List Int) (ok ok2 : Nat → Prop) (w : World) (h : intsR.rel w ok [.slice A n c] a) (h2 : intsR.rel w ok2 [.slice A2 n2 c2] a) :
    Calls Try.prog 23 #[.slice A n c, .slice A2 n2 c2] w fun e w' => e = .returned (.bool true) ∧ Mod (fun _ => False) w w' := by
  have hb : a.length ≤ 17592186044416 := by obtain ⟨_, _, _, _, _, h4, _⟩ := h; omega
  obtain rfl : n = a.length := (getI_case h 0).1
  obtain rfl : n2 = a.length := (getI_case h2 0).1
  have H1 := Lib.hid (And.intro h h2); clear h h2
  have hne : ((a.length : Int) != (a.length : Int)) = false := by simp
  go_enter Try.func23, Try.ntmps23
  go_wp2_with fail
  go_loopg [13] a.length (fun f si wr => ∃ (i : Nat), si = .int .i64 i ∧ i + f = a.length ∧ Mod (fun _ => False) w wr)
  case atStart => exact ⟨0, rfl, by omega, .refl _ _⟩
  case round =>
    obtain ⟨i, rfl, hi, hmod⟩ := hrel
    have HX := Lib.hid (And.intro hi hmod); clear hi hmod
    by_cases hlt : i < a.length
    · obtain ⟨_, hh⟩ := getI_case (Rd.mod H1.out.1 HX.out.2 (fun _ _ => id)) i
      obtain ⟨_, hh2⟩ := getI_case (Rd.mod H1.out.2 HX.out.2 (fun _ _ => id)) i
      rcases hh with ⟨h0, _⟩ | ⟨h0, _⟩ | ⟨k, ad, x, hk, _, rfl, hc, hx⟩
      · omega
      · omega
      rcases hh2 with ⟨h0, _⟩ | ⟨h0, _⟩ | ⟨k2, ad2, x2, hk2, _, rfl, hc2, hx2⟩
      · omega
      · omega
      obtain rfl : i = k := by omega
      obtain rfl : i = k2 := by omega
      obtain rfl : x = x2 := hx.symm.trans hx2
      clear hx hx2 hk hk2
      go_wp2_with fail
      go_quiet (fail)
      go_wp2_with fail
      go_roundg (gk - 1)
      case measure => have := HX.out.1; omega
      case rel => exact ⟨i + 1, by go_num, by have := HX.out.1; omega, HX.out.2.drewN _⟩
    · go_wp2_with fail
      go_ret
      exact ⟨rfl, HX.out.2⟩
end Go.Proofs.Ytgdadhpcooegnaa
