/- Layer 3's law: what is answered ahead of everything else. -/
import Derived.Test.YtbgohopnmjdkhaaTape2
import Derived.Test.YtbgohopnmjdkhaaTape4
namespace Go.Proofs.Ytbgohopnmjdkhaa
open Go.RowKit
theorem PenAt.reads {w : World} {base g : Nat} {v : Value} {bs : List UInt8} (h : PenAt w base g v bs) (hl : bs.length ≤ 140737488355328) : bytesR.rel w (fun k => v.ownBlock = some k) [v] bs := reads_bytes h.own hl
theorem PenAt.mod {w w1 : World} {base g : Nat} {v : Value} {bs : List UInt8} (h : PenAt w base g v bs) {S : Nat → Prop} (hm : Mod S w w1) (h1 : ¬ S g) (h2 : ∀ k, v.ownBlock = some k → ¬ S k) : PenAt w1 base g v bs :=
  ⟨(hm.block g h.lt h1).trans h.blk, own_move h.own (fun k hk => hm.block k (own_lt h.own k hk).2 (h2 k hk)), h.base, h.ne⟩
theorem PenAt.new (w : World) (base : Nat) (hb : base ≤ w.heap.size) : PenAt (w.alloc (.cells #[.slice none 0 0] 27)) base w.heap.size (.slice none 0 0) [] :=
  ⟨heap_alloc_new w _, World.ownsRow_nil _ _ _ _, hb, by simp [Value.ownBlock]⟩
theorem TapeAt.mod {w w1 : World} {ok : Nat → Prop} {g : Nat} {v e : Value} {bs : List UInt8} (h : TapeAt w ok g v e bs) {S : Nat → Prop} (hm : Mod S w w1) (h1 : ¬ S g := by exact id) (h2 : ∀ k, ok k → ¬ S k := by exact fun _ _ => id) : TapeAt w1 ok g v e bs :=
  ⟨(hm.block g (lt_of_blk h.blk) h1).trans h.blk, Rd.mod h.rd hm (fun k hk => h2 k hk.1)⟩
theorem below_mod {B : Nat} {S : Nat → Prop} {a w w1 : World} (h : Below B a w) (hm : Mod S w w1) (hB : B ≤ w.heap.size) (hS : ∀ k, S k → B ≤ k) : Below B a w1 := h.trans (hm.below hB hS)
theorem PenTo.below {w w1 : World} {base g : Nat} {v v1 : Value} {bs bs1 : List UInt8} (h : PenTo base g w v w1 v1 bs1) (hp : PenAt w base g v bs) (hb : base ≤ w.heap.size) : Below base w w1 :=
  h.mod.below hb (fun k hk => hk.elim (fun e => e ▸ hp.base) (fun e => (own_lt hp.own k e).1))
theorem blk_mod {S : Nat → Prop} {w w1 : World} {o : Obj} (hm : Mod S (w.alloc o) w1) (hS : ¬ S w.heap.size) : w1.heap[w.heap.size]? = some o :=
  (hm.block _ (by simp) hS).trans (heap_alloc_new w o)
theorem PenAt.not_new {w : World} {base g : Nat} {v : Value} {bs : List UInt8} (h : PenAt w base g v bs) : ¬ (w.heap.size = g ∨ v.ownBlock = some w.heap.size) := by
  rintro (e | e)
  · have := h.lt; omega
  · have := (own_lt h.own _ e).2; omega
def firstBs : List UInt8 := [172, 2, 2, 97, 98, 1]
theorem first_bytes : (([] ++ encF 10 300) ++ encF 10 ((⟨#[97, 98]⟩ : ByteArray).size : Nat) ++ (⟨#[97, 98]⟩ : ByteArray).data.toList) ++ [flagB true] = firstBs := by decide +kernel
theorem first_n1 : numD 300 firstBs = (300, [2, 97, 98, 1], 0) := by decide +kernel
theorem first_t2 : textD 2 [2, 97, 98, 1] = ([97, 98], [1], 0) := by decide +kernel
theorem first_f3 : numD 1 [1] = (1, [], 0) := by decide +kernel
theorem first_n4 : numD 9 [128] = (0, [128], 11) := by decide +kernel
set_option maxRecDepth 100000 in
set_option maxHeartbeats 1000000 in
theorem first3_any (w : World) :
    Calls Try.prog 7 #[] w fun e w' => e = .returned (.bool true) ∧ Mod (fun _ => False) w w' := by
  go_enter Try.func7, Try.ntmps7
  go_wp2_with fail
  refine (num_any w.heap.size w.heap.size 300 _ [] _ (PenAt.new w _ (Nat.le_refl _)) (by simp) (by decide) (by decide) (by decide)).mono ?_
  rintro e w1 ⟨rfl, v1, H1⟩
  have hs1 := H1.mod.size
  simp only [World.size_alloc] at hs1
  go_wp2_with fail
  refine (text_any w.heap.size w.heap.size _ v1 _ _ H1.at_ (by omega) (by decide) (by decide +kernel)).mono ?_
  rintro e w2 ⟨rfl, v2, H2⟩
  have hs2 := H2.mod.size
  go_wp2_with fail
  refine (flag_any w.heap.size w.heap.size true v2 _ _ H2.at_ (by omega) (by decide +kernel)).mono ?_
  rintro e w3 ⟨rfl, v3, H3⟩
  have hs3 := H3.mod.size
  have hp3 := H3.at_
  rw [first_bytes] at hp3
  have HM : Mod (fun _ => False) w w3 := ((Mod.refl (fun _ => False) w).alloc _).trans ((H1.trans (H2.trans H3)).mod) (by
    rintro k (rfl | hk)
    · exact .inr (Nat.le_refl _)
    · simp [Value.ownBlock] at hk)
  have HH := Lib.hid HM; clear HM H1 H2 H3
  go_wp2_with fail
  refine (bytes_any w.heap.size w.heap.size v3 firstBs _ hp3 (by decide)).mono ?_
  rintro e w4 ⟨A4, c4, rfl, h4, m4⟩
  have hs4 := m4.size
  go_wp2_with fail
  refine (tnew_any _ firstBs _ w4 (reads_bytes h4 (by decide))).mono ?_
  rintro e w5 ⟨g5, v5, rfl, hg5, h5, m5⟩
  have hp5 := (hp3.mod m4 id (fun _ _ => id)).mod m5 id (fun _ _ => id)
  go_wp2_with fail
  refine (bytes_any w.heap.size w.heap.size v3 firstBs _ hp5 (by decide)).mono ?_
  rintro e w6 ⟨A6, c6, rfl, h6, m6⟩
  have hcv := run_str (P := Try.prog) (reads_bytes h6 (by decide)) 25 9 5 Try.underlying25 Try.underlying5 Try.underlying9
  have he : (mkStr firstBs).toList = [172, 2, 2, 97, 98, 1] := by decide +kernel
  have ht5 := TapeAt.mod h5 m6
  go_wp2_with fail
  refine (tnum_any g5 _ v5 firstBs 300 _ ht5).mono ?_
  rw [first_n1]
  rintro e w7 ⟨rfl, T7⟩
  obtain ⟨v7, h7⟩ := T7.ok
  go_wp2_with fail
  refine (ttext_any g5 _ v7 _ 2 _ h7).mono ?_
  rw [first_t2]
  rintro e w8 ⟨rfl, T8⟩
  obtain ⟨v8, h8⟩ := T8.ok
  have he2 : (mkStr [97, 98]).toList = [97, 98] := by decide +kernel
  go_wp2_with fail
  refine (tflag_any g5 _ v8 _ _ h8).mono ?_
  rw [first_f3]
  rintro e w9 ⟨rfl, T9⟩
  obtain ⟨v9, h9⟩ := T9.ok
  go_wp2_with fail
  refine (tend_ok g5 _ v9 _ h9).mono ?_
  rintro e w9' ⟨rfl, rfl⟩
  have HK := Lib.hid (And.intro m4 (And.intro m5 (And.intro m6 (And.intro T7.mod (And.intro T8.mod T9.mod))))); clear m4 m5 m6 T7 T8 T9 h7 h8 h9 h5 ht5 hp3 hp5 h6 h4 hcv he he2
  go_wp2_with fail
  refine (tnew_any (.slice none 0 0) [] (fun _ => True) w9 ⟨none, 0, rfl, Nat.le_refl _, by decide, by decide, fun _ => rfl, .inl rfl⟩).mono ?_
  rintro e w10 ⟨g10, v10, rfl, hg10, h10, m10⟩
  go_wp2_with fail
  refine (tend_ok g10 _ v10 _ h10).mono ?_
  rintro e w10' ⟨rfl, rfl⟩
  go_wp2_with fail
  refine (has_ok .nilIface ⟨0, 0, none⟩ (.inr rfl) w10).mono ?_
  rintro e w10' ⟨rfl, rfl⟩
  go_wp2_with fail
  refine (tnew_any _ [128] (fun _ => True) _ (Rd.mono (reads_bytes (base := 0) (e := 5) ?_ (by decide)) (fun _ _ => trivial))).mono ?_
  · exact ⟨rfl, .inr ⟨w10.heap.size, 1, _, rfl, Nat.zero_le _, heap_alloc_new _ _, by decide, by decide, rfl, rfl⟩⟩
  rintro e w11 ⟨g11, v11, rfl, hg11, h11, m11⟩
  go_wp2_with fail
  refine (tnum_any g11 _ v11 [128] 9 _ h11).mono ?_
  rw [first_n4]
  rintro e w12 ⟨rfl, T12⟩
  have HL := Lib.hid (And.intro m10 (And.intro m11 T12.mod)); clear m10 m11 T12 h10 h11
  go_wp2
  go_ret
  obtain ⟨m4, m5, m6, t7, t8, t9⟩ := HK.out
  obtain ⟨m10, m11, t12⟩ := HL.out
  have k4 := m4.size
  have k5 := m5.size
  have k6 := m6.size
  have k7 := t7.size
  have k8 := t8.size
  have k9 := t9.size
  have k10 := m10.size
  have k11 := m11.size
  simp only [World.size_alloc] at k11 hg11
  refine ⟨rfl, ((((((((HH.out.trans m4 ?_).trans m5 ?_).trans m6 ?_).trans t7 ?_).trans t8 ?_).trans t9 ?_).trans m10 ?_).alloc _ |>.trans m11 ?_).trans t12 ?_⟩
  all_goals
    intro k hk
    first | exact False.elim hk | exact .inr (by have h2 : k = _ := hk; omega)
end Go.Proofs.Ytbgohopnmjdkhaa
