/- Layer 29: the queue's Pop, container/heap's Push and Pop. -/
import Derived.Test.YtlimjdejcjgocaaNet4
namespace Go.Proofs.Ytlimjdejcjgocaa
open Go.RowKit
set_option linter.unusedVariables false
def zeroPk : List Value := [.int .i64 0, .int .i64 0, .int .i64 0, .slice none 0 0]
theorem queue_len {A : Option Addr} {n c : Nat} (w : World) (hn : n ≤ 1000000) : Calls Try.prog 68 #[.slice A n c] w fun e w' => e = .returned (.int .i64 n) ∧ w = w' := by
  go_enter Try.func68, Try.ntmps68
  go_wp2
  go_ret
  exact ⟨rfl, rfl⟩
set_option maxRecDepth 100000 in
set_option maxHeartbeats 1000000 in
theorem qpop_any (g gq cap : Nat) (ys : List Pk) (p : Pk) (o : List Value) (w : World) (hb : NetBlk w g (.slice (some ⟨gq, 0, none⟩) (ys ++ [p]).length cap) o) (hne : gq ≠ g) (hr : QRow w gq cap (ys ++ [p])) (hl : ys.length ≤ 1000000) :
    Calls Try.prog 72 #[.pointer (some ⟨g, 0, none⟩)] w fun e w' => e = .returned (.iface 35 (.agg p.cells.toArray)) ∧ NetBlk w' g (.slice (some ⟨gq, 0, none⟩) ys.length cap) o ∧ QRow w' gq cap ys ∧ Mod (fun k => k = g) w w' := by
  have hc := hb.cell
  have hlen : (ys ++ [p]).length = ys.length + 1 := by simp
  have hcap : ys.length + 1 ≤ cap := by have := hr.1; rw [hlen] at this; exact this
  have hcap2 : cap ≤ 9223372036854775807 := by have := hr.2.1; unfold maxLen at this; omega
  rw [hlen] at hc
  obtain ⟨n, hn⟩ : ∃ n, n = ys.length := ⟨_, rfl⟩
  rw [← hn] at hl hcap hc
  have e1 : ((n : Int) + 1) - 1 = n := by omega
  have HB := Lib.hid (And.intro hb (And.intro hne (And.intro hr hn))); clear hb hne hr hn hlen
  go_enter Try.func72, Try.ntmps72
  have R4 : Hid (∀ j u, p.cells[j]? = some u → w.cell? ((⟨gq, n * 4, none⟩ : Addr).add j) = some u) := Lib.hid (fun j u hj => by
    have hp : (ys ++ [p])[n]? = some p := by rw [HB.out.2.2.2]; simp
    rw [add_own, HB.out.2.2.1.cell hp j (by have := (List.getElem?_eq_some_iff.1 hj).1; simpa [Pk.cells] using this)]; exact hj)
  go_wp2_with (refine wpList_copy_var (n := 4) rfl rfl rfl 35 _ _ _ rfl rfl rfl Try.underlying35 zeroPk Try.info_pk2 rfl ⟨gq, n * 4, none⟩ rfl p.cells rfl (pk_one p) (fun j u hj => R4.out j u hj) (fun _ _ => rfl) (fun _ _ => rfl) ?_)
  intro gp w1 hgp hp1 hm1
  have hc1 : w1.cell? ⟨g, 0, none⟩ = some (.slice (some ⟨gq, 0, none⟩) (n + 1) cap) := ((hm1 fun _ => False).cell (a := ⟨g, 0, none⟩) (lt_of_cell hc) id).trans hc
  have hb1 : NetBlk w1 g (.slice (some ⟨gq, 0, none⟩) (ys ++ [p]).length cap) o := HB.out.1.mod (hm1 fun _ => False) id
  have hf1 := hb1.free 0
  have hr1 : QRow w1 gq cap (ys ++ [p]) := HB.out.2.2.1.move ((hm1 fun _ => False).block gq HB.out.2.2.1.lt id)
  have gpg : gp ≠ g := by have := lt_of_blk HB.out.1; omega
  have H1 := Lib.hid (And.intro hb1 (And.intro hr1 (And.intro (hm1 (fun k => k = g)) (And.intro hp1 gpg)))); clear hb1 hr1 hm1 hp1 hgp hc R4 gpg
  go_wp2_with (refine wpList_load_agg rfl 35 (.tmp 4) rfl Try.underlying35 Try.info_pk1 ⟨gp, 0, none⟩ rfl p.cells rfl (fun j u hj => by rw [agg_at, cell_of_blk ((Below.heap_setCell _ _ _ _ H1.out.2.2.2.2).trans H1.out.2.2.2.1)]; simpa using hj) ?_)
  go_ret
  refine ⟨rfl, ?_, ?_, H1.out.2.2.1.setCell (.inl rfl) _⟩
  · rw [← HB.out.2.2.2]; exact H1.out.1.set _
  · have := H1.out.2.1.cut n
    rw [HB.out.2.2.2, List.take_left] at this
    exact this.move (Below.heap_setCell _ _ _ _ HB.out.2.1)
set_option maxRecDepth 100000 in
set_option maxHeartbeats 1000000 in
theorem hpush_any (g : Nat) (v : Value) (xs : List Pk) (p : Pk) (o : List Value) (w : World) (hb : NetBlk w g v o) (ho : w.ownsRow 0 35 4 v xs.length (flatK xs)) (hne : v.ownBlock ≠ some g) (hl : xs.length < 1000000) :
    Calls Try.prog 15 #[.iface 49 (.pointer (some ⟨g, 0, none⟩)), .iface 35 (.agg p.cells.toArray)] w fun e w' => e = .returned (.tuple #[]) ∧ ∃ gq cap, NetBlk w' g (.slice (some ⟨gq, 0, none⟩) (xs.length + 1) cap) o ∧ gq ≠ g ∧ QRow w' gq cap (pushL ltK xs p) ∧ (v.ownBlock = some gq ∨ w.heap.size ≤ gq) ∧ Mod (fun k => k = g ∨ v.ownBlock = some k) w w' := by
  have HB := Lib.hid (And.intro hb (And.intro ho hne)); clear hb ho hne
  have mP := mPush (.pointer (some ⟨g, 0, none⟩)) w
  go_enter Try.func15, Try.ntmps15
  go_wp2_with fail
  refine (qpush_any g v xs p o w HB.out.1 HB.out.2.1 HB.out.2.2 (by omega)).mono ?_
  rintro e w1 ⟨rfl, gq, cap, hb1, hgq, hr1, hn1, hm1⟩
  have hlen : (xs ++ [p]).length = xs.length + 1 := by simp
  have q1 : QAt w1 g gq cap (xs ++ [p]) := ⟨hb1.cell, hgq, hr1⟩
  have hc1 := hb1.cell
  rw [hlen] at hc1 hb1
  have mL := mLen hc1
  have e1 : ((xs.length + 1 : Nat) : Int) - 1 = (xs.length : Int) := by omega
  have e2 : ((xs.length : Int) + 1) - 1 = (xs.length : Int) := by omega
  have H1 := Lib.hid (And.intro q1 (And.intro hb1 (And.intro hn1 hm1))); clear q1 hb1 hn1 hm1 hr1 hc1 mP
  have HLn := Lib.hid hlen; clear hlen
  go_wp2_with fail
  refine (queue_len w1 (by omega)).mono ?_
  rintro e w2 ⟨rfl, rfl⟩
  clear mL
  go_wp2_with fail
  refine (up_any g gq cap xs.length (xs ++ [p]) w1 H1.out.1 (by rw [HLn.out]; omega)).mono ?_
  rintro e w3 ⟨rfl, hr3, hm3⟩
  have H3 := Lib.hid (And.intro hr3 hm3); clear hr3 hm3
  go_wp2_with fail
  go_end0
  refine ⟨rfl, gq, cap, H1.out.2.1.mod H3.out.2 (fun e => hgq e.symm), hgq, H3.out.1, H1.out.2.2.1, ?_⟩
  refine H1.out.2.2.2.trans H3.out.2 (fun k hk => ?_)
  have hk : k = gq := hk
  subst hk
  rcases H1.out.2.2.1 with h | h
  · exact .inl (.inr h)
  · exact .inr h
set_option maxRecDepth 100000 in
set_option maxHeartbeats 1000000 in
theorem hpop_any (g gq cap : Nat) (xs : List Pk) (x : Pk) (o : List Value) (w : World) (hb : NetBlk w g (.slice (some ⟨gq, 0, none⟩) xs.length cap) o) (hne : gq ≠ g) (hr : QRow w gq cap xs) (hx : xs[0]? = some x) (hl : xs.length ≤ 1000000) :
    Calls Try.prog 17 #[.iface 49 (.pointer (some ⟨g, 0, none⟩))] w fun e w' => e = .returned (.iface 35 (.agg x.cells.toArray)) ∧ NetBlk w' g (.slice (some ⟨gq, 0, none⟩) (xs.length - 1) cap) o ∧ QRow w' gq cap ((popL ltK xs).take (xs.length - 1)) ∧ Mod (fun k => k = g ∨ k = gq) w w' := by
  have hlen := (List.getElem?_eq_some_iff.1 hx).1
  obtain ⟨n, hn⟩ : ∃ n, xs.length = n + 1 := ⟨xs.length - 1, by omega⟩
  have q0 : QAt w g gq cap xs := ⟨hb.cell, hne, hr⟩
  obtain ⟨z, hz⟩ : ∃ z, xs[n]? = some z := ⟨_, List.getElem?_eq_getElem (by omega)⟩
  have hc := hb.cell
  have mL := mLen hc
  have mS := mSwap hc
  have e1 : (xs.length : Int) - 1 = (n : Int) := by omega
  have H0 := Lib.hid (And.intro q0 (And.intro hb (And.intro hx (And.intro hz hn)))); clear q0 hb hx hz hn hr hc
  go_enter Try.func17, Try.ntmps17
  go_wp2_with fail
  refine (queue_len w (by omega)).mono ?_
  rintro e w2 ⟨rfl, rfl⟩
  clear mL
  go_wp2_with fail
  refine (swap_any gq cap 0 n xs x z w H0.out.1.row H0.out.2.2.1 H0.out.2.2.2.1).mono ?_
  rintro e w1 ⟨rfl, hr1, hm1⟩
  have q1 : QAt w1 g gq cap (swapL xs 0 n) := H0.out.1.step (swapL_length _ _ _) hr1 hm1
  have b1 : NetBlk w1 g (.slice (some ⟨gq, 0, none⟩) xs.length cap) o := H0.out.2.1.mod hm1 (fun e => hne e.symm)
  have H1 := Lib.hid (And.intro q1 (And.intro b1 hm1)); clear q1 b1 hm1 hr1 mS
  go_wp2_with fail
  refine (down_any g gq cap n (swapL xs 0 n) w1 H1.out.1 (by rw [swapL_length, H0.out.2.2.2.2]; omega) (by rw [swapL_length]; omega)).mono ?_
  rintro e w2 ⟨⟨v, rfl⟩, hr2, hm2⟩
  obtain ⟨L, hL⟩ : ∃ L, L = popL ltK xs := ⟨_, rfl⟩
  have hL2 : downL ltK ((swapL xs 0 n).length + 1) (swapL xs 0 n) 0 n = L := by rw [hL, swapL_length]; unfold popL; rw [H0.out.2.2.2.2]; rfl
  rw [hL2] at hr2
  have hLs : L = L.take n ++ [x] := by
    have h1 := popL_last (lt := ltK) (l := xs) (by intro e; rw [e] at hlen; simp at hlen)
    have h2 := popL_length (lt := ltK) xs
    rw [← hL] at h1 h2
    rw [H0.out.2.2.1, H0.out.2.2.2.2, Nat.add_sub_cancel] at h1
    have h3 := List.take_append_drop n L
    rw [List.drop_eq_getElem_cons (by rw [h2, H0.out.2.2.2.2]; omega), List.drop_eq_nil_of_le (by rw [h2, H0.out.2.2.2.2]; omega)] at h3
    rw [(List.getElem?_eq_some_iff.1 h1).2] at h3
    exact h3.symm
  have hLn : (L.take n).length = n := by
    have h2 := popL_length (lt := ltK) xs
    rw [← hL, H0.out.2.2.2.2] at h2
    rw [List.length_take]; omega
  rw [hLs] at hr2
  have b2 : NetBlk w2 g (.slice (some ⟨gq, 0, none⟩) (L.take n ++ [x]).length cap) o := by
    have := H1.out.2.1.mod hm2 (fun e => hne e.symm)
    rwa [show (L.take n ++ [x]).length = xs.length by rw [List.length_append, hLn, H0.out.2.2.2.2]; rfl]
  have M2 : Mod (fun k => k = g ∨ k = gq) w w2 := (H1.out.2.2.mono (fun _ h => .inr h)).trans hm2 (fun _ h => .inl (.inr h))
  have mP := mPop (.pointer (some ⟨g, 0, none⟩)) w2
  have H2 := Lib.hid (And.intro hr2 (And.intro b2 (And.intro M2 (And.intro hLn hL)))); clear hr2 b2 M2 hm2 hLn hL hL2 hLs
  go_wp2_with fail
  refine (qpop_any g gq cap (L.take n) x o w2 H2.out.2.1 hne H2.out.1 (by rw [H2.out.2.2.2.1]; have := H0.out.2.2.2.2; omega)).mono ?_
  rintro e w3 ⟨rfl, hb3, hr3, hm3⟩
  have H3 := Lib.hid (And.intro hb3 (And.intro hr3 hm3)); clear hb3 hr3 hm3 mP
  go_wp2_with fail
  go_ret
  have en : xs.length - 1 = n := by rw [H0.out.2.2.2.2]; rfl
  refine ⟨rfl, ?_, ?_, H2.out.2.2.1.trans H3.out.2.2 (fun _ h => .inl (.inl h))⟩
  · rw [en, ← H2.out.2.2.2.1]; exact H3.out.1
  · rw [en, ← H2.out.2.2.2.2]; exact H3.out.2.1
end Go.Proofs.Ytlimjdejcjgocaa
