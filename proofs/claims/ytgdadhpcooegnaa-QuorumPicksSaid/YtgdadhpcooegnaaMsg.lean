/- Kinds of this seat's structs, written by rdgen.py: a Lean structure for each, and how its cells read. -/
import Derived.Test.YtgdadhpcooegnaaRd
namespace Go.Proofs.Ytgdadhpcooegnaa
open Go.RowKit
set_option linter.unusedVariables false
structure Entry where
  cat : ByteArray
  level : Int
def EntryR : Rd Entry := (Rd.string.pair ((Rd.int .i64))).iso fun x => (x.cat, x.level)
theorem EntryR_opens : Opens Try.prog EntryR 90 :=
  opens_iso (fun a => ⟨a.1, a.2⟩) (fun _ => rfl) (opens_struct Try.underlying90 (by kernel_rfl) (opens_cons (by kernel_rfl) (by kernel_rfl) (opens_string Try.underlying9)
    (opens_last (by kernel_rfl) (by kernel_rfl) (opens_int Try.underlying3))))
theorem EntryR_iff {w : World} {ok : Nat → Prop} {cs : List Value} {x : Entry} : EntryR.rel w ok cs x ↔ ∃ c0 c1, cs = c0 ++ (c1) ∧ Rd.string.rel w ok c0 x.cat ∧ (Rd.int .i64).rel w ok c1 x.level := by
  constructor
  · rintro ⟨c0, r0, rfl, h0, h1⟩
    exact ⟨c0, _, rfl, h0, h1⟩
  · rintro ⟨c0, c1, rfl, h0, h1⟩
    exact ⟨c0, _, rfl, h0, h1⟩
theorem EntryR_cat {w : World} {ok : Nat → Prop} {cs : List Value} {x : Entry} (h : EntryR.rel w ok cs x) : Rd.string.rel w ok ((cs.drop 0).take 1) x.cat := by
  obtain ⟨c0, c1, rfl, h0, h1⟩ := EntryR_iff.1 h
  have l0 : c0.length = 1 := Rd.len _ h0
  have e : ((c0 ++ (c1)).drop 0).take 1 = c0 := by
    rw [List.drop_zero, List.take_append_of_le_length (by omega), List.take_of_length_le (by omega)]
  rw [e]; exact h0
theorem EntryR_cat_at {w : World} {ok : Nat → Prop} {cs : List Value} {x : Entry} (h : EntryR.rel w ok cs x) : cs[0]? = some (Value.string x.cat) := take_one ((EntryR_cat h).1)
theorem EntryR_level {w : World} {ok : Nat → Prop} {cs : List Value} {x : Entry} (h : EntryR.rel w ok cs x) : (Rd.int .i64).rel w ok ((cs.drop 1).take 1) x.level := by
  obtain ⟨c0, c1, rfl, h0, h1⟩ := EntryR_iff.1 h
  have l0 : c0.length = 1 := Rd.len _ h0
  have l1 : c1.length = 1 := Rd.len _ h1
  have e : ((c0 ++ (c1)).drop 1).take 1 = c1 := by
    rw [show 1 = c0.length + 0 by omega, ← List.drop_drop, List.drop_left]
    rw [List.drop_zero, List.take_of_length_le (by omega)]
  rw [e]; exact h1
theorem EntryR_level_at {w : World} {ok : Nat → Prop} {cs : List Value} {x : Entry} (h : EntryR.rel w ok cs x) : cs[1]? = some (Value.int .i64 x.level) := take_one ((EntryR_level h).1)
structure Call where
  op : Int
  at_ : List Int
  label : List Entry
  entry : List Entry
  own : List ByteArray
  n : Int
  m : Int
  text : List UInt8
  cat : ByteArray
  seg : List Int
  write : Bool
def CallR : Rd Call := ((Rd.int .i64).pair ((Rd.slice 8 (Rd.int .i64)).pair ((Rd.slice 24 EntryR).pair ((Rd.slice 24 EntryR).pair ((Rd.slice 16 Rd.string).pair ((Rd.int .i64).pair ((Rd.int .i64).pair (bytesR.pair (Rd.string.pair ((Rd.slice 8 (Rd.int .i64)).pair (Rd.bool))))))))))).iso fun x => (x.op, x.at_, x.label, x.entry, x.own, x.n, x.m, x.text, x.cat, x.seg, x.write)
theorem CallR_opens : Opens Try.prog CallR 29 :=
  opens_iso (fun a => ⟨a.1, a.2.1, a.2.2.1, a.2.2.2.1, a.2.2.2.2.1, a.2.2.2.2.2.1, a.2.2.2.2.2.2.1, a.2.2.2.2.2.2.2.1, a.2.2.2.2.2.2.2.2.1, a.2.2.2.2.2.2.2.2.2.1, a.2.2.2.2.2.2.2.2.2.2⟩) (fun _ => rfl) (opens_struct Try.underlying29 (by kernel_rfl) (opens_cons (by kernel_rfl) (by kernel_rfl) (opens_int Try.underlying3)
    (opens_cons (by kernel_rfl) (by kernel_rfl) (opens_slice Try.underlying23 (by kernel_rfl) (by kernel_rfl) (opens_int Try.underlying3))
    (opens_cons (by kernel_rfl) (by kernel_rfl) (opens_slice Try.underlying25 (by kernel_rfl) (by kernel_rfl) EntryR_opens)
    (opens_cons (by kernel_rfl) (by kernel_rfl) (opens_slice Try.underlying25 (by kernel_rfl) (by kernel_rfl) EntryR_opens)
    (opens_cons (by kernel_rfl) (by kernel_rfl) (opens_slice Try.underlying26 (by kernel_rfl) (by kernel_rfl) (opens_string Try.underlying9))
    (opens_cons (by kernel_rfl) (by kernel_rfl) (opens_int Try.underlying3)
    (opens_cons (by kernel_rfl) (by kernel_rfl) (opens_int Try.underlying3)
    (opens_cons (by kernel_rfl) (by kernel_rfl) (opens_slice Try.underlying27 (by kernel_rfl) (by kernel_rfl) (opens_byte Try.underlying5))
    (opens_cons (by kernel_rfl) (by kernel_rfl) (opens_string Try.underlying9)
    (opens_cons (by kernel_rfl) (by kernel_rfl) (opens_slice Try.underlying23 (by kernel_rfl) (by kernel_rfl) (opens_int Try.underlying3))
    (opens_last (by kernel_rfl) (by kernel_rfl) (opens_bool Try.underlying4)))))))))))))
theorem CallR_iff {w : World} {ok : Nat → Prop} {cs : List Value} {x : Call} : CallR.rel w ok cs x ↔ ∃ c0 c1 c2 c3 c4 c5 c6 c7 c8 c9 c10, cs = c0 ++ (c1 ++ (c2 ++ (c3 ++ (c4 ++ (c5 ++ (c6 ++ (c7 ++ (c8 ++ (c9 ++ (c10)))))))))) ∧ (Rd.int .i64).rel w ok c0 x.op ∧ (Rd.slice 8 (Rd.int .i64)).rel w ok c1 x.at_ ∧ (Rd.slice 24 EntryR).rel w ok c2 x.label ∧ (Rd.slice 24 EntryR).rel w ok c3 x.entry ∧ (Rd.slice 16 Rd.string).rel w ok c4 x.own ∧ (Rd.int .i64).rel w ok c5 x.n ∧ (Rd.int .i64).rel w ok c6 x.m ∧ bytesR.rel w ok c7 x.text ∧ Rd.string.rel w ok c8 x.cat ∧ (Rd.slice 8 (Rd.int .i64)).rel w ok c9 x.seg ∧ Rd.bool.rel w ok c10 x.write := by
  constructor
  · rintro ⟨c0, r0, rfl, h0, ⟨c1, r1, rfl, h1, ⟨c2, r2, rfl, h2, ⟨c3, r3, rfl, h3, ⟨c4, r4, rfl, h4, ⟨c5, r5, rfl, h5, ⟨c6, r6, rfl, h6, ⟨c7, r7, rfl, h7, ⟨c8, r8, rfl, h8, ⟨c9, r9, rfl, h9, h10⟩⟩⟩⟩⟩⟩⟩⟩⟩⟩
    exact ⟨c0, c1, c2, c3, c4, c5, c6, c7, c8, c9, _, rfl, h0, h1, h2, h3, h4, h5, h6, h7, h8, h9, h10⟩
  · rintro ⟨c0, c1, c2, c3, c4, c5, c6, c7, c8, c9, c10, rfl, h0, h1, h2, h3, h4, h5, h6, h7, h8, h9, h10⟩
    exact ⟨c0, _, rfl, h0, ⟨c1, _, rfl, h1, ⟨c2, _, rfl, h2, ⟨c3, _, rfl, h3, ⟨c4, _, rfl, h4, ⟨c5, _, rfl, h5, ⟨c6, _, rfl, h6, ⟨c7, _, rfl, h7, ⟨c8, _, rfl, h8, ⟨c9, _, rfl, h9, h10⟩⟩⟩⟩⟩⟩⟩⟩⟩⟩
theorem CallR_op {w : World} {ok : Nat → Prop} {cs : List Value} {x : Call} (h : CallR.rel w ok cs x) : (Rd.int .i64).rel w ok ((cs.drop 0).take 1) x.op := by
  obtain ⟨c0, c1, c2, c3, c4, c5, c6, c7, c8, c9, c10, rfl, h0, h1, h2, h3, h4, h5, h6, h7, h8, h9, h10⟩ := CallR_iff.1 h
  have l0 : c0.length = 1 := Rd.len _ h0
  have e : ((c0 ++ (c1 ++ (c2 ++ (c3 ++ (c4 ++ (c5 ++ (c6 ++ (c7 ++ (c8 ++ (c9 ++ (c10))))))))))).drop 0).take 1 = c0 := by
    rw [List.drop_zero, List.take_append_of_le_length (by omega), List.take_of_length_le (by omega)]
  rw [e]; exact h0
theorem CallR_op_at {w : World} {ok : Nat → Prop} {cs : List Value} {x : Call} (h : CallR.rel w ok cs x) : cs[0]? = some (Value.int .i64 x.op) := take_one ((CallR_op h).1)
theorem CallR_at_ {w : World} {ok : Nat → Prop} {cs : List Value} {x : Call} (h : CallR.rel w ok cs x) : (Rd.slice 8 (Rd.int .i64)).rel w ok ((cs.drop 1).take 1) x.at_ := by
  obtain ⟨c0, c1, c2, c3, c4, c5, c6, c7, c8, c9, c10, rfl, h0, h1, h2, h3, h4, h5, h6, h7, h8, h9, h10⟩ := CallR_iff.1 h
  have l0 : c0.length = 1 := Rd.len _ h0
  have l1 : c1.length = 1 := Rd.len _ h1
  have e : ((c0 ++ (c1 ++ (c2 ++ (c3 ++ (c4 ++ (c5 ++ (c6 ++ (c7 ++ (c8 ++ (c9 ++ (c10))))))))))).drop 1).take 1 = c1 := by
    rw [show 1 = c0.length + 0 by omega, ← List.drop_drop, List.drop_left]
    rw [List.drop_zero, List.take_append_of_le_length (by omega), List.take_of_length_le (by omega)]
  rw [e]; exact h1
theorem CallR_at__at {w : World} {ok : Nat → Prop} {cs : List Value} {x : Call} (h : CallR.rel w ok cs x) : ∃ A c, cs[1]? = some (.slice A x.at_.length c) ∧ (Rd.slice 8 (Rd.int .i64)).rel w ok [.slice A x.at_.length c] x.at_ := by
  have h1 := CallR_at_ h
  obtain ⟨A, c, hv, _⟩ := id h1
  rw [hv] at h1
  exact ⟨A, c, take_one hv, h1⟩
theorem CallR_label {w : World} {ok : Nat → Prop} {cs : List Value} {x : Call} (h : CallR.rel w ok cs x) : (Rd.slice 24 EntryR).rel w ok ((cs.drop 2).take 1) x.label := by
  obtain ⟨c0, c1, c2, c3, c4, c5, c6, c7, c8, c9, c10, rfl, h0, h1, h2, h3, h4, h5, h6, h7, h8, h9, h10⟩ := CallR_iff.1 h
  have l0 : c0.length = 1 := Rd.len _ h0
  have l1 : c1.length = 1 := Rd.len _ h1
  have l2 : c2.length = 1 := Rd.len _ h2
  have e : ((c0 ++ (c1 ++ (c2 ++ (c3 ++ (c4 ++ (c5 ++ (c6 ++ (c7 ++ (c8 ++ (c9 ++ (c10))))))))))).drop 2).take 1 = c2 := by
    rw [show 2 = c0.length + 1 by omega, ← List.drop_drop, List.drop_left]
    rw [show 1 = c1.length + 0 by omega, ← List.drop_drop, List.drop_left]
    rw [List.drop_zero, List.take_append_of_le_length (by omega), List.take_of_length_le (by omega)]
  rw [e]; exact h2
theorem CallR_label_at {w : World} {ok : Nat → Prop} {cs : List Value} {x : Call} (h : CallR.rel w ok cs x) : ∃ A c, cs[2]? = some (.slice A x.label.length c) ∧ (Rd.slice 24 EntryR).rel w ok [.slice A x.label.length c] x.label := by
  have h1 := CallR_label h
  obtain ⟨A, c, hv, _⟩ := id h1
  rw [hv] at h1
  exact ⟨A, c, take_one hv, h1⟩
theorem CallR_entry {w : World} {ok : Nat → Prop} {cs : List Value} {x : Call} (h : CallR.rel w ok cs x) : (Rd.slice 24 EntryR).rel w ok ((cs.drop 3).take 1) x.entry := by
  obtain ⟨c0, c1, c2, c3, c4, c5, c6, c7, c8, c9, c10, rfl, h0, h1, h2, h3, h4, h5, h6, h7, h8, h9, h10⟩ := CallR_iff.1 h
  have l0 : c0.length = 1 := Rd.len _ h0
  have l1 : c1.length = 1 := Rd.len _ h1
  have l2 : c2.length = 1 := Rd.len _ h2
  have l3 : c3.length = 1 := Rd.len _ h3
  have e : ((c0 ++ (c1 ++ (c2 ++ (c3 ++ (c4 ++ (c5 ++ (c6 ++ (c7 ++ (c8 ++ (c9 ++ (c10))))))))))).drop 3).take 1 = c3 := by
    rw [show 3 = c0.length + 2 by omega, ← List.drop_drop, List.drop_left]
    rw [show 2 = c1.length + 1 by omega, ← List.drop_drop, List.drop_left]
    rw [show 1 = c2.length + 0 by omega, ← List.drop_drop, List.drop_left]
    rw [List.drop_zero, List.take_append_of_le_length (by omega), List.take_of_length_le (by omega)]
  rw [e]; exact h3
theorem CallR_entry_at {w : World} {ok : Nat → Prop} {cs : List Value} {x : Call} (h : CallR.rel w ok cs x) : ∃ A c, cs[3]? = some (.slice A x.entry.length c) ∧ (Rd.slice 24 EntryR).rel w ok [.slice A x.entry.length c] x.entry := by
  have h1 := CallR_entry h
  obtain ⟨A, c, hv, _⟩ := id h1
  rw [hv] at h1
  exact ⟨A, c, take_one hv, h1⟩
theorem CallR_own {w : World} {ok : Nat → Prop} {cs : List Value} {x : Call} (h : CallR.rel w ok cs x) : (Rd.slice 16 Rd.string).rel w ok ((cs.drop 4).take 1) x.own := by
  obtain ⟨c0, c1, c2, c3, c4, c5, c6, c7, c8, c9, c10, rfl, h0, h1, h2, h3, h4, h5, h6, h7, h8, h9, h10⟩ := CallR_iff.1 h
  have l0 : c0.length = 1 := Rd.len _ h0
  have l1 : c1.length = 1 := Rd.len _ h1
  have l2 : c2.length = 1 := Rd.len _ h2
  have l3 : c3.length = 1 := Rd.len _ h3
  have l4 : c4.length = 1 := Rd.len _ h4
  have e : ((c0 ++ (c1 ++ (c2 ++ (c3 ++ (c4 ++ (c5 ++ (c6 ++ (c7 ++ (c8 ++ (c9 ++ (c10))))))))))).drop 4).take 1 = c4 := by
    rw [show 4 = c0.length + 3 by omega, ← List.drop_drop, List.drop_left]
    rw [show 3 = c1.length + 2 by omega, ← List.drop_drop, List.drop_left]
    rw [show 2 = c2.length + 1 by omega, ← List.drop_drop, List.drop_left]
    rw [show 1 = c3.length + 0 by omega, ← List.drop_drop, List.drop_left]
    rw [List.drop_zero, List.take_append_of_le_length (by omega), List.take_of_length_le (by omega)]
  rw [e]; exact h4
theorem CallR_own_at {w : World} {ok : Nat → Prop} {cs : List Value} {x : Call} (h : CallR.rel w ok cs x) : ∃ A c, cs[4]? = some (.slice A x.own.length c) ∧ (Rd.slice 16 Rd.string).rel w ok [.slice A x.own.length c] x.own := by
  have h1 := CallR_own h
  obtain ⟨A, c, hv, _⟩ := id h1
  rw [hv] at h1
  exact ⟨A, c, take_one hv, h1⟩
theorem CallR_n {w : World} {ok : Nat → Prop} {cs : List Value} {x : Call} (h : CallR.rel w ok cs x) : (Rd.int .i64).rel w ok ((cs.drop 5).take 1) x.n := by
  obtain ⟨c0, c1, c2, c3, c4, c5, c6, c7, c8, c9, c10, rfl, h0, h1, h2, h3, h4, h5, h6, h7, h8, h9, h10⟩ := CallR_iff.1 h
  have l0 : c0.length = 1 := Rd.len _ h0
  have l1 : c1.length = 1 := Rd.len _ h1
  have l2 : c2.length = 1 := Rd.len _ h2
  have l3 : c3.length = 1 := Rd.len _ h3
  have l4 : c4.length = 1 := Rd.len _ h4
  have l5 : c5.length = 1 := Rd.len _ h5
  have e : ((c0 ++ (c1 ++ (c2 ++ (c3 ++ (c4 ++ (c5 ++ (c6 ++ (c7 ++ (c8 ++ (c9 ++ (c10))))))))))).drop 5).take 1 = c5 := by
    rw [show 5 = c0.length + 4 by omega, ← List.drop_drop, List.drop_left]
    rw [show 4 = c1.length + 3 by omega, ← List.drop_drop, List.drop_left]
    rw [show 3 = c2.length + 2 by omega, ← List.drop_drop, List.drop_left]
    rw [show 2 = c3.length + 1 by omega, ← List.drop_drop, List.drop_left]
    rw [show 1 = c4.length + 0 by omega, ← List.drop_drop, List.drop_left]
    rw [List.drop_zero, List.take_append_of_le_length (by omega), List.take_of_length_le (by omega)]
  rw [e]; exact h5
theorem CallR_n_at {w : World} {ok : Nat → Prop} {cs : List Value} {x : Call} (h : CallR.rel w ok cs x) : cs[5]? = some (Value.int .i64 x.n) := take_one ((CallR_n h).1)
theorem CallR_m {w : World} {ok : Nat → Prop} {cs : List Value} {x : Call} (h : CallR.rel w ok cs x) : (Rd.int .i64).rel w ok ((cs.drop 6).take 1) x.m := by
  obtain ⟨c0, c1, c2, c3, c4, c5, c6, c7, c8, c9, c10, rfl, h0, h1, h2, h3, h4, h5, h6, h7, h8, h9, h10⟩ := CallR_iff.1 h
  have l0 : c0.length = 1 := Rd.len _ h0
  have l1 : c1.length = 1 := Rd.len _ h1
  have l2 : c2.length = 1 := Rd.len _ h2
  have l3 : c3.length = 1 := Rd.len _ h3
  have l4 : c4.length = 1 := Rd.len _ h4
  have l5 : c5.length = 1 := Rd.len _ h5
  have l6 : c6.length = 1 := Rd.len _ h6
  have e : ((c0 ++ (c1 ++ (c2 ++ (c3 ++ (c4 ++ (c5 ++ (c6 ++ (c7 ++ (c8 ++ (c9 ++ (c10))))))))))).drop 6).take 1 = c6 := by
    rw [show 6 = c0.length + 5 by omega, ← List.drop_drop, List.drop_left]
    rw [show 5 = c1.length + 4 by omega, ← List.drop_drop, List.drop_left]
    rw [show 4 = c2.length + 3 by omega, ← List.drop_drop, List.drop_left]
    rw [show 3 = c3.length + 2 by omega, ← List.drop_drop, List.drop_left]
    rw [show 2 = c4.length + 1 by omega, ← List.drop_drop, List.drop_left]
    rw [show 1 = c5.length + 0 by omega, ← List.drop_drop, List.drop_left]
    rw [List.drop_zero, List.take_append_of_le_length (by omega), List.take_of_length_le (by omega)]
  rw [e]; exact h6
theorem CallR_m_at {w : World} {ok : Nat → Prop} {cs : List Value} {x : Call} (h : CallR.rel w ok cs x) : cs[6]? = some (Value.int .i64 x.m) := take_one ((CallR_m h).1)
theorem CallR_text {w : World} {ok : Nat → Prop} {cs : List Value} {x : Call} (h : CallR.rel w ok cs x) : bytesR.rel w ok ((cs.drop 7).take 1) x.text := by
  obtain ⟨c0, c1, c2, c3, c4, c5, c6, c7, c8, c9, c10, rfl, h0, h1, h2, h3, h4, h5, h6, h7, h8, h9, h10⟩ := CallR_iff.1 h
  have l0 : c0.length = 1 := Rd.len _ h0
  have l1 : c1.length = 1 := Rd.len _ h1
  have l2 : c2.length = 1 := Rd.len _ h2
  have l3 : c3.length = 1 := Rd.len _ h3
  have l4 : c4.length = 1 := Rd.len _ h4
  have l5 : c5.length = 1 := Rd.len _ h5
  have l6 : c6.length = 1 := Rd.len _ h6
  have l7 : c7.length = 1 := Rd.len _ h7
  have e : ((c0 ++ (c1 ++ (c2 ++ (c3 ++ (c4 ++ (c5 ++ (c6 ++ (c7 ++ (c8 ++ (c9 ++ (c10))))))))))).drop 7).take 1 = c7 := by
    rw [show 7 = c0.length + 6 by omega, ← List.drop_drop, List.drop_left]
    rw [show 6 = c1.length + 5 by omega, ← List.drop_drop, List.drop_left]
    rw [show 5 = c2.length + 4 by omega, ← List.drop_drop, List.drop_left]
    rw [show 4 = c3.length + 3 by omega, ← List.drop_drop, List.drop_left]
    rw [show 3 = c4.length + 2 by omega, ← List.drop_drop, List.drop_left]
    rw [show 2 = c5.length + 1 by omega, ← List.drop_drop, List.drop_left]
    rw [show 1 = c6.length + 0 by omega, ← List.drop_drop, List.drop_left]
    rw [List.drop_zero, List.take_append_of_le_length (by omega), List.take_of_length_le (by omega)]
  rw [e]; exact h7
theorem CallR_text_at {w : World} {ok : Nat → Prop} {cs : List Value} {x : Call} (h : CallR.rel w ok cs x) : ∃ A c, cs[7]? = some (.slice A x.text.length c) ∧ bytesR.rel w ok [.slice A x.text.length c] x.text := by
  have h1 := CallR_text h
  obtain ⟨A, c, hv, _⟩ := id h1
  rw [hv] at h1
  exact ⟨A, c, take_one hv, h1⟩
theorem CallR_cat {w : World} {ok : Nat → Prop} {cs : List Value} {x : Call} (h : CallR.rel w ok cs x) : Rd.string.rel w ok ((cs.drop 8).take 1) x.cat := by
  obtain ⟨c0, c1, c2, c3, c4, c5, c6, c7, c8, c9, c10, rfl, h0, h1, h2, h3, h4, h5, h6, h7, h8, h9, h10⟩ := CallR_iff.1 h
  have l0 : c0.length = 1 := Rd.len _ h0
  have l1 : c1.length = 1 := Rd.len _ h1
  have l2 : c2.length = 1 := Rd.len _ h2
  have l3 : c3.length = 1 := Rd.len _ h3
  have l4 : c4.length = 1 := Rd.len _ h4
  have l5 : c5.length = 1 := Rd.len _ h5
  have l6 : c6.length = 1 := Rd.len _ h6
  have l7 : c7.length = 1 := Rd.len _ h7
  have l8 : c8.length = 1 := Rd.len _ h8
  have e : ((c0 ++ (c1 ++ (c2 ++ (c3 ++ (c4 ++ (c5 ++ (c6 ++ (c7 ++ (c8 ++ (c9 ++ (c10))))))))))).drop 8).take 1 = c8 := by
    rw [show 8 = c0.length + 7 by omega, ← List.drop_drop, List.drop_left]
    rw [show 7 = c1.length + 6 by omega, ← List.drop_drop, List.drop_left]
    rw [show 6 = c2.length + 5 by omega, ← List.drop_drop, List.drop_left]
    rw [show 5 = c3.length + 4 by omega, ← List.drop_drop, List.drop_left]
    rw [show 4 = c4.length + 3 by omega, ← List.drop_drop, List.drop_left]
    rw [show 3 = c5.length + 2 by omega, ← List.drop_drop, List.drop_left]
    rw [show 2 = c6.length + 1 by omega, ← List.drop_drop, List.drop_left]
    rw [show 1 = c7.length + 0 by omega, ← List.drop_drop, List.drop_left]
    rw [List.drop_zero, List.take_append_of_le_length (by omega), List.take_of_length_le (by omega)]
  rw [e]; exact h8
theorem CallR_cat_at {w : World} {ok : Nat → Prop} {cs : List Value} {x : Call} (h : CallR.rel w ok cs x) : cs[8]? = some (Value.string x.cat) := take_one ((CallR_cat h).1)
theorem CallR_seg {w : World} {ok : Nat → Prop} {cs : List Value} {x : Call} (h : CallR.rel w ok cs x) : (Rd.slice 8 (Rd.int .i64)).rel w ok ((cs.drop 9).take 1) x.seg := by
  obtain ⟨c0, c1, c2, c3, c4, c5, c6, c7, c8, c9, c10, rfl, h0, h1, h2, h3, h4, h5, h6, h7, h8, h9, h10⟩ := CallR_iff.1 h
  have l0 : c0.length = 1 := Rd.len _ h0
  have l1 : c1.length = 1 := Rd.len _ h1
  have l2 : c2.length = 1 := Rd.len _ h2
  have l3 : c3.length = 1 := Rd.len _ h3
  have l4 : c4.length = 1 := Rd.len _ h4
  have l5 : c5.length = 1 := Rd.len _ h5
  have l6 : c6.length = 1 := Rd.len _ h6
  have l7 : c7.length = 1 := Rd.len _ h7
  have l8 : c8.length = 1 := Rd.len _ h8
  have l9 : c9.length = 1 := Rd.len _ h9
  have e : ((c0 ++ (c1 ++ (c2 ++ (c3 ++ (c4 ++ (c5 ++ (c6 ++ (c7 ++ (c8 ++ (c9 ++ (c10))))))))))).drop 9).take 1 = c9 := by
    rw [show 9 = c0.length + 8 by omega, ← List.drop_drop, List.drop_left]
    rw [show 8 = c1.length + 7 by omega, ← List.drop_drop, List.drop_left]
    rw [show 7 = c2.length + 6 by omega, ← List.drop_drop, List.drop_left]
    rw [show 6 = c3.length + 5 by omega, ← List.drop_drop, List.drop_left]
    rw [show 5 = c4.length + 4 by omega, ← List.drop_drop, List.drop_left]
    rw [show 4 = c5.length + 3 by omega, ← List.drop_drop, List.drop_left]
    rw [show 3 = c6.length + 2 by omega, ← List.drop_drop, List.drop_left]
    rw [show 2 = c7.length + 1 by omega, ← List.drop_drop, List.drop_left]
    rw [show 1 = c8.length + 0 by omega, ← List.drop_drop, List.drop_left]
    rw [List.drop_zero, List.take_append_of_le_length (by omega), List.take_of_length_le (by omega)]
  rw [e]; exact h9
theorem CallR_seg_at {w : World} {ok : Nat → Prop} {cs : List Value} {x : Call} (h : CallR.rel w ok cs x) : ∃ A c, cs[9]? = some (.slice A x.seg.length c) ∧ (Rd.slice 8 (Rd.int .i64)).rel w ok [.slice A x.seg.length c] x.seg := by
  have h1 := CallR_seg h
  obtain ⟨A, c, hv, _⟩ := id h1
  rw [hv] at h1
  exact ⟨A, c, take_one hv, h1⟩
theorem CallR_write {w : World} {ok : Nat → Prop} {cs : List Value} {x : Call} (h : CallR.rel w ok cs x) : Rd.bool.rel w ok ((cs.drop 10).take 1) x.write := by
  obtain ⟨c0, c1, c2, c3, c4, c5, c6, c7, c8, c9, c10, rfl, h0, h1, h2, h3, h4, h5, h6, h7, h8, h9, h10⟩ := CallR_iff.1 h
  have l0 : c0.length = 1 := Rd.len _ h0
  have l1 : c1.length = 1 := Rd.len _ h1
  have l2 : c2.length = 1 := Rd.len _ h2
  have l3 : c3.length = 1 := Rd.len _ h3
  have l4 : c4.length = 1 := Rd.len _ h4
  have l5 : c5.length = 1 := Rd.len _ h5
  have l6 : c6.length = 1 := Rd.len _ h6
  have l7 : c7.length = 1 := Rd.len _ h7
  have l8 : c8.length = 1 := Rd.len _ h8
  have l9 : c9.length = 1 := Rd.len _ h9
  have l10 : c10.length = 1 := Rd.len _ h10
  have e : ((c0 ++ (c1 ++ (c2 ++ (c3 ++ (c4 ++ (c5 ++ (c6 ++ (c7 ++ (c8 ++ (c9 ++ (c10))))))))))).drop 10).take 1 = c10 := by
    rw [show 10 = c0.length + 9 by omega, ← List.drop_drop, List.drop_left]
    rw [show 9 = c1.length + 8 by omega, ← List.drop_drop, List.drop_left]
    rw [show 8 = c2.length + 7 by omega, ← List.drop_drop, List.drop_left]
    rw [show 7 = c3.length + 6 by omega, ← List.drop_drop, List.drop_left]
    rw [show 6 = c4.length + 5 by omega, ← List.drop_drop, List.drop_left]
    rw [show 5 = c5.length + 4 by omega, ← List.drop_drop, List.drop_left]
    rw [show 4 = c6.length + 3 by omega, ← List.drop_drop, List.drop_left]
    rw [show 3 = c7.length + 2 by omega, ← List.drop_drop, List.drop_left]
    rw [show 2 = c8.length + 1 by omega, ← List.drop_drop, List.drop_left]
    rw [show 1 = c9.length + 0 by omega, ← List.drop_drop, List.drop_left]
    rw [List.drop_zero, List.take_of_length_le (by omega)]
  rw [e]; exact h10
theorem CallR_write_at {w : World} {ok : Nat → Prop} {cs : List Value} {x : Call} (h : CallR.rel w ok cs x) : cs[10]? = some (Value.bool x.write) := take_one (CallR_write h)
structure Kid where
  n : Int
  kind : Int
  quota : Int
def KidR : Rd Kid := ((Rd.int .i64).pair ((Rd.int .i64).pair ((Rd.int .i64)))).iso fun x => (x.n, x.kind, x.quota)
theorem KidR_opens : Opens Try.prog KidR 82 :=
  opens_iso (fun a => ⟨a.1, a.2.1, a.2.2⟩) (fun _ => rfl) (opens_struct Try.underlying82 (by kernel_rfl) (opens_cons (by kernel_rfl) (by kernel_rfl) (opens_int Try.underlying3)
    (opens_cons (by kernel_rfl) (by kernel_rfl) (opens_int Try.underlying3)
    (opens_last (by kernel_rfl) (by kernel_rfl) (opens_int Try.underlying3)))))
theorem KidR_iff {w : World} {ok : Nat → Prop} {cs : List Value} {x : Kid} : KidR.rel w ok cs x ↔ ∃ c0 c1 c2, cs = c0 ++ (c1 ++ (c2)) ∧ (Rd.int .i64).rel w ok c0 x.n ∧ (Rd.int .i64).rel w ok c1 x.kind ∧ (Rd.int .i64).rel w ok c2 x.quota := by
  constructor
  · rintro ⟨c0, r0, rfl, h0, ⟨c1, r1, rfl, h1, h2⟩⟩
    exact ⟨c0, c1, _, rfl, h0, h1, h2⟩
  · rintro ⟨c0, c1, c2, rfl, h0, h1, h2⟩
    exact ⟨c0, _, rfl, h0, ⟨c1, _, rfl, h1, h2⟩⟩
theorem KidR_n {w : World} {ok : Nat → Prop} {cs : List Value} {x : Kid} (h : KidR.rel w ok cs x) : (Rd.int .i64).rel w ok ((cs.drop 0).take 1) x.n := by
  obtain ⟨c0, c1, c2, rfl, h0, h1, h2⟩ := KidR_iff.1 h
  have l0 : c0.length = 1 := Rd.len _ h0
  have e : ((c0 ++ (c1 ++ (c2))).drop 0).take 1 = c0 := by
    rw [List.drop_zero, List.take_append_of_le_length (by omega), List.take_of_length_le (by omega)]
  rw [e]; exact h0
theorem KidR_n_at {w : World} {ok : Nat → Prop} {cs : List Value} {x : Kid} (h : KidR.rel w ok cs x) : cs[0]? = some (Value.int .i64 x.n) := take_one ((KidR_n h).1)
theorem KidR_kind {w : World} {ok : Nat → Prop} {cs : List Value} {x : Kid} (h : KidR.rel w ok cs x) : (Rd.int .i64).rel w ok ((cs.drop 1).take 1) x.kind := by
  obtain ⟨c0, c1, c2, rfl, h0, h1, h2⟩ := KidR_iff.1 h
  have l0 : c0.length = 1 := Rd.len _ h0
  have l1 : c1.length = 1 := Rd.len _ h1
  have e : ((c0 ++ (c1 ++ (c2))).drop 1).take 1 = c1 := by
    rw [show 1 = c0.length + 0 by omega, ← List.drop_drop, List.drop_left]
    rw [List.drop_zero, List.take_append_of_le_length (by omega), List.take_of_length_le (by omega)]
  rw [e]; exact h1
theorem KidR_kind_at {w : World} {ok : Nat → Prop} {cs : List Value} {x : Kid} (h : KidR.rel w ok cs x) : cs[1]? = some (Value.int .i64 x.kind) := take_one ((KidR_kind h).1)
theorem KidR_quota {w : World} {ok : Nat → Prop} {cs : List Value} {x : Kid} (h : KidR.rel w ok cs x) : (Rd.int .i64).rel w ok ((cs.drop 2).take 1) x.quota := by
  obtain ⟨c0, c1, c2, rfl, h0, h1, h2⟩ := KidR_iff.1 h
  have l0 : c0.length = 1 := Rd.len _ h0
  have l1 : c1.length = 1 := Rd.len _ h1
  have l2 : c2.length = 1 := Rd.len _ h2
  have e : ((c0 ++ (c1 ++ (c2))).drop 2).take 1 = c2 := by
    rw [show 2 = c0.length + 1 by omega, ← List.drop_drop, List.drop_left]
    rw [show 1 = c1.length + 0 by omega, ← List.drop_drop, List.drop_left]
    rw [List.drop_zero, List.take_of_length_le (by omega)]
  rw [e]; exact h2
theorem KidR_quota_at {w : World} {ok : Nat → Prop} {cs : List Value} {x : Kid} (h : KidR.rel w ok cs x) : cs[2]? = some (Value.int .i64 x.quota) := take_one ((KidR_quota h).1)
structure Reply where
  e : Int
  n : Int
  text : List UInt8
  cat : ByteArray
  label : List Entry
  kids : List Kid
def ReplyR : Rd Reply := ((Rd.int .i64).pair ((Rd.int .i64).pair (bytesR.pair (Rd.string.pair ((Rd.slice 24 EntryR).pair ((Rd.slice 24 KidR))))))).iso fun x => (x.e, x.n, x.text, x.cat, x.label, x.kids)
theorem ReplyR_opens : Opens Try.prog ReplyR 35 :=
  opens_iso (fun a => ⟨a.1, a.2.1, a.2.2.1, a.2.2.2.1, a.2.2.2.2.1, a.2.2.2.2.2⟩) (fun _ => rfl) (opens_struct Try.underlying35 (by kernel_rfl) (opens_cons (by kernel_rfl) (by kernel_rfl) (opens_int Try.underlying32)
    (opens_cons (by kernel_rfl) (by kernel_rfl) (opens_int Try.underlying3)
    (opens_cons (by kernel_rfl) (by kernel_rfl) (opens_slice Try.underlying27 (by kernel_rfl) (by kernel_rfl) (opens_byte Try.underlying5))
    (opens_cons (by kernel_rfl) (by kernel_rfl) (opens_string Try.underlying9)
    (opens_cons (by kernel_rfl) (by kernel_rfl) (opens_slice Try.underlying25 (by kernel_rfl) (by kernel_rfl) EntryR_opens)
    (opens_last (by kernel_rfl) (by kernel_rfl) (opens_slice Try.underlying33 (by kernel_rfl) (by kernel_rfl) KidR_opens))))))))
theorem ReplyR_iff {w : World} {ok : Nat → Prop} {cs : List Value} {x : Reply} : ReplyR.rel w ok cs x ↔ ∃ c0 c1 c2 c3 c4 c5, cs = c0 ++ (c1 ++ (c2 ++ (c3 ++ (c4 ++ (c5))))) ∧ (Rd.int .i64).rel w ok c0 x.e ∧ (Rd.int .i64).rel w ok c1 x.n ∧ bytesR.rel w ok c2 x.text ∧ Rd.string.rel w ok c3 x.cat ∧ (Rd.slice 24 EntryR).rel w ok c4 x.label ∧ (Rd.slice 24 KidR).rel w ok c5 x.kids := by
  constructor
  · rintro ⟨c0, r0, rfl, h0, ⟨c1, r1, rfl, h1, ⟨c2, r2, rfl, h2, ⟨c3, r3, rfl, h3, ⟨c4, r4, rfl, h4, h5⟩⟩⟩⟩⟩
    exact ⟨c0, c1, c2, c3, c4, _, rfl, h0, h1, h2, h3, h4, h5⟩
  · rintro ⟨c0, c1, c2, c3, c4, c5, rfl, h0, h1, h2, h3, h4, h5⟩
    exact ⟨c0, _, rfl, h0, ⟨c1, _, rfl, h1, ⟨c2, _, rfl, h2, ⟨c3, _, rfl, h3, ⟨c4, _, rfl, h4, h5⟩⟩⟩⟩⟩
theorem ReplyR_e {w : World} {ok : Nat → Prop} {cs : List Value} {x : Reply} (h : ReplyR.rel w ok cs x) : (Rd.int .i64).rel w ok ((cs.drop 0).take 1) x.e := by
  obtain ⟨c0, c1, c2, c3, c4, c5, rfl, h0, h1, h2, h3, h4, h5⟩ := ReplyR_iff.1 h
  have l0 : c0.length = 1 := Rd.len _ h0
  have e : ((c0 ++ (c1 ++ (c2 ++ (c3 ++ (c4 ++ (c5)))))).drop 0).take 1 = c0 := by
    rw [List.drop_zero, List.take_append_of_le_length (by omega), List.take_of_length_le (by omega)]
  rw [e]; exact h0
theorem ReplyR_e_at {w : World} {ok : Nat → Prop} {cs : List Value} {x : Reply} (h : ReplyR.rel w ok cs x) : cs[0]? = some (Value.int .i64 x.e) := take_one ((ReplyR_e h).1)
theorem ReplyR_n {w : World} {ok : Nat → Prop} {cs : List Value} {x : Reply} (h : ReplyR.rel w ok cs x) : (Rd.int .i64).rel w ok ((cs.drop 1).take 1) x.n := by
  obtain ⟨c0, c1, c2, c3, c4, c5, rfl, h0, h1, h2, h3, h4, h5⟩ := ReplyR_iff.1 h
  have l0 : c0.length = 1 := Rd.len _ h0
  have l1 : c1.length = 1 := Rd.len _ h1
  have e : ((c0 ++ (c1 ++ (c2 ++ (c3 ++ (c4 ++ (c5)))))).drop 1).take 1 = c1 := by
    rw [show 1 = c0.length + 0 by omega, ← List.drop_drop, List.drop_left]
    rw [List.drop_zero, List.take_append_of_le_length (by omega), List.take_of_length_le (by omega)]
  rw [e]; exact h1
theorem ReplyR_n_at {w : World} {ok : Nat → Prop} {cs : List Value} {x : Reply} (h : ReplyR.rel w ok cs x) : cs[1]? = some (Value.int .i64 x.n) := take_one ((ReplyR_n h).1)
theorem ReplyR_text {w : World} {ok : Nat → Prop} {cs : List Value} {x : Reply} (h : ReplyR.rel w ok cs x) : bytesR.rel w ok ((cs.drop 2).take 1) x.text := by
  obtain ⟨c0, c1, c2, c3, c4, c5, rfl, h0, h1, h2, h3, h4, h5⟩ := ReplyR_iff.1 h
  have l0 : c0.length = 1 := Rd.len _ h0
  have l1 : c1.length = 1 := Rd.len _ h1
  have l2 : c2.length = 1 := Rd.len _ h2
  have e : ((c0 ++ (c1 ++ (c2 ++ (c3 ++ (c4 ++ (c5)))))).drop 2).take 1 = c2 := by
    rw [show 2 = c0.length + 1 by omega, ← List.drop_drop, List.drop_left]
    rw [show 1 = c1.length + 0 by omega, ← List.drop_drop, List.drop_left]
    rw [List.drop_zero, List.take_append_of_le_length (by omega), List.take_of_length_le (by omega)]
  rw [e]; exact h2
theorem ReplyR_text_at {w : World} {ok : Nat → Prop} {cs : List Value} {x : Reply} (h : ReplyR.rel w ok cs x) : ∃ A c, cs[2]? = some (.slice A x.text.length c) ∧ bytesR.rel w ok [.slice A x.text.length c] x.text := by
  have h1 := ReplyR_text h
  obtain ⟨A, c, hv, _⟩ := id h1
  rw [hv] at h1
  exact ⟨A, c, take_one hv, h1⟩
theorem ReplyR_cat {w : World} {ok : Nat → Prop} {cs : List Value} {x : Reply} (h : ReplyR.rel w ok cs x) : Rd.string.rel w ok ((cs.drop 3).take 1) x.cat := by
  obtain ⟨c0, c1, c2, c3, c4, c5, rfl, h0, h1, h2, h3, h4, h5⟩ := ReplyR_iff.1 h
  have l0 : c0.length = 1 := Rd.len _ h0
  have l1 : c1.length = 1 := Rd.len _ h1
  have l2 : c2.length = 1 := Rd.len _ h2
  have l3 : c3.length = 1 := Rd.len _ h3
  have e : ((c0 ++ (c1 ++ (c2 ++ (c3 ++ (c4 ++ (c5)))))).drop 3).take 1 = c3 := by
    rw [show 3 = c0.length + 2 by omega, ← List.drop_drop, List.drop_left]
    rw [show 2 = c1.length + 1 by omega, ← List.drop_drop, List.drop_left]
    rw [show 1 = c2.length + 0 by omega, ← List.drop_drop, List.drop_left]
    rw [List.drop_zero, List.take_append_of_le_length (by omega), List.take_of_length_le (by omega)]
  rw [e]; exact h3
theorem ReplyR_cat_at {w : World} {ok : Nat → Prop} {cs : List Value} {x : Reply} (h : ReplyR.rel w ok cs x) : cs[3]? = some (Value.string x.cat) := take_one ((ReplyR_cat h).1)
theorem ReplyR_label {w : World} {ok : Nat → Prop} {cs : List Value} {x : Reply} (h : ReplyR.rel w ok cs x) : (Rd.slice 24 EntryR).rel w ok ((cs.drop 4).take 1) x.label := by
  obtain ⟨c0, c1, c2, c3, c4, c5, rfl, h0, h1, h2, h3, h4, h5⟩ := ReplyR_iff.1 h
  have l0 : c0.length = 1 := Rd.len _ h0
  have l1 : c1.length = 1 := Rd.len _ h1
  have l2 : c2.length = 1 := Rd.len _ h2
  have l3 : c3.length = 1 := Rd.len _ h3
  have l4 : c4.length = 1 := Rd.len _ h4
  have e : ((c0 ++ (c1 ++ (c2 ++ (c3 ++ (c4 ++ (c5)))))).drop 4).take 1 = c4 := by
    rw [show 4 = c0.length + 3 by omega, ← List.drop_drop, List.drop_left]
    rw [show 3 = c1.length + 2 by omega, ← List.drop_drop, List.drop_left]
    rw [show 2 = c2.length + 1 by omega, ← List.drop_drop, List.drop_left]
    rw [show 1 = c3.length + 0 by omega, ← List.drop_drop, List.drop_left]
    rw [List.drop_zero, List.take_append_of_le_length (by omega), List.take_of_length_le (by omega)]
  rw [e]; exact h4
theorem ReplyR_label_at {w : World} {ok : Nat → Prop} {cs : List Value} {x : Reply} (h : ReplyR.rel w ok cs x) : ∃ A c, cs[4]? = some (.slice A x.label.length c) ∧ (Rd.slice 24 EntryR).rel w ok [.slice A x.label.length c] x.label := by
  have h1 := ReplyR_label h
  obtain ⟨A, c, hv, _⟩ := id h1
  rw [hv] at h1
  exact ⟨A, c, take_one hv, h1⟩
theorem ReplyR_kids {w : World} {ok : Nat → Prop} {cs : List Value} {x : Reply} (h : ReplyR.rel w ok cs x) : (Rd.slice 24 KidR).rel w ok ((cs.drop 5).take 1) x.kids := by
  obtain ⟨c0, c1, c2, c3, c4, c5, rfl, h0, h1, h2, h3, h4, h5⟩ := ReplyR_iff.1 h
  have l0 : c0.length = 1 := Rd.len _ h0
  have l1 : c1.length = 1 := Rd.len _ h1
  have l2 : c2.length = 1 := Rd.len _ h2
  have l3 : c3.length = 1 := Rd.len _ h3
  have l4 : c4.length = 1 := Rd.len _ h4
  have l5 : c5.length = 1 := Rd.len _ h5
  have e : ((c0 ++ (c1 ++ (c2 ++ (c3 ++ (c4 ++ (c5)))))).drop 5).take 1 = c5 := by
    rw [show 5 = c0.length + 4 by omega, ← List.drop_drop, List.drop_left]
    rw [show 4 = c1.length + 3 by omega, ← List.drop_drop, List.drop_left]
    rw [show 3 = c2.length + 2 by omega, ← List.drop_drop, List.drop_left]
    rw [show 2 = c3.length + 1 by omega, ← List.drop_drop, List.drop_left]
    rw [show 1 = c4.length + 0 by omega, ← List.drop_drop, List.drop_left]
    rw [List.drop_zero, List.take_of_length_le (by omega)]
  rw [e]; exact h5
theorem ReplyR_kids_at {w : World} {ok : Nat → Prop} {cs : List Value} {x : Reply} (h : ReplyR.rel w ok cs x) : ∃ A c, cs[5]? = some (.slice A x.kids.length c) ∧ (Rd.slice 24 KidR).rel w ok [.slice A x.kids.length c] x.kids := by
  have h1 := ReplyR_kids h
  obtain ⟨A, c, hv, _⟩ := id h1
  rw [hv] at h1
  exact ⟨A, c, take_one hv, h1⟩
structure Request where
  client : Int
  number : Int
  who : List Int
  c : Call
def RequestR : Rd Request := ((Rd.int .i64).pair ((Rd.int .i64).pair ((Rd.slice 8 (Rd.int .i64)).pair (CallR)))).iso fun x => (x.client, x.number, x.who, x.c)
theorem RequestR_opens : Opens Try.prog RequestR 31 :=
  opens_iso (fun a => ⟨a.1, a.2.1, a.2.2.1, a.2.2.2⟩) (fun _ => rfl) (opens_struct Try.underlying31 (by kernel_rfl) (opens_cons (by kernel_rfl) (by kernel_rfl) (opens_int Try.underlying3)
    (opens_cons (by kernel_rfl) (by kernel_rfl) (opens_int Try.underlying3)
    (opens_cons (by kernel_rfl) (by kernel_rfl) (opens_slice Try.underlying23 (by kernel_rfl) (by kernel_rfl) (opens_int Try.underlying3))
    (opens_last (by kernel_rfl) (by kernel_rfl) CallR_opens)))))
theorem RequestR_iff {w : World} {ok : Nat → Prop} {cs : List Value} {x : Request} : RequestR.rel w ok cs x ↔ ∃ c0 c1 c2 c3, cs = c0 ++ (c1 ++ (c2 ++ (c3))) ∧ (Rd.int .i64).rel w ok c0 x.client ∧ (Rd.int .i64).rel w ok c1 x.number ∧ (Rd.slice 8 (Rd.int .i64)).rel w ok c2 x.who ∧ CallR.rel w ok c3 x.c := by
  constructor
  · rintro ⟨c0, r0, rfl, h0, ⟨c1, r1, rfl, h1, ⟨c2, r2, rfl, h2, h3⟩⟩⟩
    exact ⟨c0, c1, c2, _, rfl, h0, h1, h2, h3⟩
  · rintro ⟨c0, c1, c2, c3, rfl, h0, h1, h2, h3⟩
    exact ⟨c0, _, rfl, h0, ⟨c1, _, rfl, h1, ⟨c2, _, rfl, h2, h3⟩⟩⟩
theorem RequestR_client {w : World} {ok : Nat → Prop} {cs : List Value} {x : Request} (h : RequestR.rel w ok cs x) : (Rd.int .i64).rel w ok ((cs.drop 0).take 1) x.client := by
  obtain ⟨c0, c1, c2, c3, rfl, h0, h1, h2, h3⟩ := RequestR_iff.1 h
  have l0 : c0.length = 1 := Rd.len _ h0
  have e : ((c0 ++ (c1 ++ (c2 ++ (c3)))).drop 0).take 1 = c0 := by
    rw [List.drop_zero, List.take_append_of_le_length (by omega), List.take_of_length_le (by omega)]
  rw [e]; exact h0
theorem RequestR_client_at {w : World} {ok : Nat → Prop} {cs : List Value} {x : Request} (h : RequestR.rel w ok cs x) : cs[0]? = some (Value.int .i64 x.client) := take_one ((RequestR_client h).1)
theorem RequestR_number {w : World} {ok : Nat → Prop} {cs : List Value} {x : Request} (h : RequestR.rel w ok cs x) : (Rd.int .i64).rel w ok ((cs.drop 1).take 1) x.number := by
  obtain ⟨c0, c1, c2, c3, rfl, h0, h1, h2, h3⟩ := RequestR_iff.1 h
  have l0 : c0.length = 1 := Rd.len _ h0
  have l1 : c1.length = 1 := Rd.len _ h1
  have e : ((c0 ++ (c1 ++ (c2 ++ (c3)))).drop 1).take 1 = c1 := by
    rw [show 1 = c0.length + 0 by omega, ← List.drop_drop, List.drop_left]
    rw [List.drop_zero, List.take_append_of_le_length (by omega), List.take_of_length_le (by omega)]
  rw [e]; exact h1
theorem RequestR_number_at {w : World} {ok : Nat → Prop} {cs : List Value} {x : Request} (h : RequestR.rel w ok cs x) : cs[1]? = some (Value.int .i64 x.number) := take_one ((RequestR_number h).1)
theorem RequestR_who {w : World} {ok : Nat → Prop} {cs : List Value} {x : Request} (h : RequestR.rel w ok cs x) : (Rd.slice 8 (Rd.int .i64)).rel w ok ((cs.drop 2).take 1) x.who := by
  obtain ⟨c0, c1, c2, c3, rfl, h0, h1, h2, h3⟩ := RequestR_iff.1 h
  have l0 : c0.length = 1 := Rd.len _ h0
  have l1 : c1.length = 1 := Rd.len _ h1
  have l2 : c2.length = 1 := Rd.len _ h2
  have e : ((c0 ++ (c1 ++ (c2 ++ (c3)))).drop 2).take 1 = c2 := by
    rw [show 2 = c0.length + 1 by omega, ← List.drop_drop, List.drop_left]
    rw [show 1 = c1.length + 0 by omega, ← List.drop_drop, List.drop_left]
    rw [List.drop_zero, List.take_append_of_le_length (by omega), List.take_of_length_le (by omega)]
  rw [e]; exact h2
theorem RequestR_who_at {w : World} {ok : Nat → Prop} {cs : List Value} {x : Request} (h : RequestR.rel w ok cs x) : ∃ A c, cs[2]? = some (.slice A x.who.length c) ∧ (Rd.slice 8 (Rd.int .i64)).rel w ok [.slice A x.who.length c] x.who := by
  have h1 := RequestR_who h
  obtain ⟨A, c, hv, _⟩ := id h1
  rw [hv] at h1
  exact ⟨A, c, take_one hv, h1⟩
theorem RequestR_c {w : World} {ok : Nat → Prop} {cs : List Value} {x : Request} (h : RequestR.rel w ok cs x) : CallR.rel w ok ((cs.drop 3).take 11) x.c := by
  obtain ⟨c0, c1, c2, c3, rfl, h0, h1, h2, h3⟩ := RequestR_iff.1 h
  have l0 : c0.length = 1 := Rd.len _ h0
  have l1 : c1.length = 1 := Rd.len _ h1
  have l2 : c2.length = 1 := Rd.len _ h2
  have l3 : c3.length = 11 := Rd.len _ h3
  have e : ((c0 ++ (c1 ++ (c2 ++ (c3)))).drop 3).take 11 = c3 := by
    rw [show 3 = c0.length + 2 by omega, ← List.drop_drop, List.drop_left]
    rw [show 2 = c1.length + 1 by omega, ← List.drop_drop, List.drop_left]
    rw [show 1 = c2.length + 0 by omega, ← List.drop_drop, List.drop_left]
    rw [List.drop_zero, List.take_of_length_le (by omega)]
  rw [e]; exact h3
structure Head where
  len : Int
  size : Int
  digest : Int
def HeadR : Rd Head := ((Rd.int .i64).pair ((Rd.int .i64).pair ((Rd.int .i64)))).iso fun x => (x.len, x.size, x.digest)
theorem HeadR_opens : Opens Try.prog HeadR 38 :=
  opens_iso (fun a => ⟨a.1, a.2.1, a.2.2⟩) (fun _ => rfl) (opens_struct Try.underlying38 (by kernel_rfl) (opens_cons (by kernel_rfl) (by kernel_rfl) (opens_int Try.underlying3)
    (opens_cons (by kernel_rfl) (by kernel_rfl) (opens_int Try.underlying3)
    (opens_last (by kernel_rfl) (by kernel_rfl) (opens_int Try.underlying3)))))
theorem HeadR_iff {w : World} {ok : Nat → Prop} {cs : List Value} {x : Head} : HeadR.rel w ok cs x ↔ ∃ c0 c1 c2, cs = c0 ++ (c1 ++ (c2)) ∧ (Rd.int .i64).rel w ok c0 x.len ∧ (Rd.int .i64).rel w ok c1 x.size ∧ (Rd.int .i64).rel w ok c2 x.digest := by
  constructor
  · rintro ⟨c0, r0, rfl, h0, ⟨c1, r1, rfl, h1, h2⟩⟩
    exact ⟨c0, c1, _, rfl, h0, h1, h2⟩
  · rintro ⟨c0, c1, c2, rfl, h0, h1, h2⟩
    exact ⟨c0, _, rfl, h0, ⟨c1, _, rfl, h1, h2⟩⟩
theorem HeadR_len {w : World} {ok : Nat → Prop} {cs : List Value} {x : Head} (h : HeadR.rel w ok cs x) : (Rd.int .i64).rel w ok ((cs.drop 0).take 1) x.len := by
  obtain ⟨c0, c1, c2, rfl, h0, h1, h2⟩ := HeadR_iff.1 h
  have l0 : c0.length = 1 := Rd.len _ h0
  have e : ((c0 ++ (c1 ++ (c2))).drop 0).take 1 = c0 := by
    rw [List.drop_zero, List.take_append_of_le_length (by omega), List.take_of_length_le (by omega)]
  rw [e]; exact h0
theorem HeadR_len_at {w : World} {ok : Nat → Prop} {cs : List Value} {x : Head} (h : HeadR.rel w ok cs x) : cs[0]? = some (Value.int .i64 x.len) := take_one ((HeadR_len h).1)
theorem HeadR_size {w : World} {ok : Nat → Prop} {cs : List Value} {x : Head} (h : HeadR.rel w ok cs x) : (Rd.int .i64).rel w ok ((cs.drop 1).take 1) x.size := by
  obtain ⟨c0, c1, c2, rfl, h0, h1, h2⟩ := HeadR_iff.1 h
  have l0 : c0.length = 1 := Rd.len _ h0
  have l1 : c1.length = 1 := Rd.len _ h1
  have e : ((c0 ++ (c1 ++ (c2))).drop 1).take 1 = c1 := by
    rw [show 1 = c0.length + 0 by omega, ← List.drop_drop, List.drop_left]
    rw [List.drop_zero, List.take_append_of_le_length (by omega), List.take_of_length_le (by omega)]
  rw [e]; exact h1
theorem HeadR_size_at {w : World} {ok : Nat → Prop} {cs : List Value} {x : Head} (h : HeadR.rel w ok cs x) : cs[1]? = some (Value.int .i64 x.size) := take_one ((HeadR_size h).1)
theorem HeadR_digest {w : World} {ok : Nat → Prop} {cs : List Value} {x : Head} (h : HeadR.rel w ok cs x) : (Rd.int .i64).rel w ok ((cs.drop 2).take 1) x.digest := by
  obtain ⟨c0, c1, c2, rfl, h0, h1, h2⟩ := HeadR_iff.1 h
  have l0 : c0.length = 1 := Rd.len _ h0
  have l1 : c1.length = 1 := Rd.len _ h1
  have l2 : c2.length = 1 := Rd.len _ h2
  have e : ((c0 ++ (c1 ++ (c2))).drop 2).take 1 = c2 := by
    rw [show 2 = c0.length + 1 by omega, ← List.drop_drop, List.drop_left]
    rw [show 1 = c1.length + 0 by omega, ← List.drop_drop, List.drop_left]
    rw [List.drop_zero, List.take_of_length_le (by omega)]
  rw [e]; exact h2
theorem HeadR_digest_at {w : World} {ok : Nat → Prop} {cs : List Value} {x : Head} (h : HeadR.rel w ok cs x) : cs[2]? = some (Value.int .i64 x.digest) := take_one ((HeadR_digest h).1)
structure Msg where
  kind : Int
  from_ : Int
  to : Int
  view : Int
  last : Int
  op : Int
  commit : Int
  nonce : Int
  vector : List Int
  req : Request
  answer : Reply
  base : Int
  log : List Request
  state : List UInt8
  head : Head
def MsgR : Rd Msg := ((Rd.int .i64).pair ((Rd.int .i64).pair ((Rd.int .i64).pair ((Rd.int .i64).pair ((Rd.int .i64).pair ((Rd.int .i64).pair ((Rd.int .i64).pair ((Rd.int .i64).pair ((Rd.slice 8 (Rd.int .i64)).pair (RequestR.pair (ReplyR.pair ((Rd.int .i64).pair ((Rd.slice 232 RequestR).pair (bytesR.pair (HeadR))))))))))))))).iso fun x => (x.kind, x.from_, x.to, x.view, x.last, x.op, x.commit, x.nonce, x.vector, x.req, x.answer, x.base, x.log, x.state, x.head)
theorem MsgR_opens : Opens Try.prog MsgR 40 :=
  opens_iso (fun a => ⟨a.1, a.2.1, a.2.2.1, a.2.2.2.1, a.2.2.2.2.1, a.2.2.2.2.2.1, a.2.2.2.2.2.2.1, a.2.2.2.2.2.2.2.1, a.2.2.2.2.2.2.2.2.1, a.2.2.2.2.2.2.2.2.2.1, a.2.2.2.2.2.2.2.2.2.2.1, a.2.2.2.2.2.2.2.2.2.2.2.1, a.2.2.2.2.2.2.2.2.2.2.2.2.1, a.2.2.2.2.2.2.2.2.2.2.2.2.2.1, a.2.2.2.2.2.2.2.2.2.2.2.2.2.2⟩) (fun _ => rfl) (opens_struct Try.underlying40 (by kernel_rfl) (opens_cons (by kernel_rfl) (by kernel_rfl) (opens_int Try.underlying3)
    (opens_cons (by kernel_rfl) (by kernel_rfl) (opens_int Try.underlying3)
    (opens_cons (by kernel_rfl) (by kernel_rfl) (opens_int Try.underlying3)
    (opens_cons (by kernel_rfl) (by kernel_rfl) (opens_int Try.underlying3)
    (opens_cons (by kernel_rfl) (by kernel_rfl) (opens_int Try.underlying3)
    (opens_cons (by kernel_rfl) (by kernel_rfl) (opens_int Try.underlying3)
    (opens_cons (by kernel_rfl) (by kernel_rfl) (opens_int Try.underlying3)
    (opens_cons (by kernel_rfl) (by kernel_rfl) (opens_int Try.underlying3)
    (opens_cons (by kernel_rfl) (by kernel_rfl) (opens_slice Try.underlying23 (by kernel_rfl) (by kernel_rfl) (opens_int Try.underlying3))
    (opens_cons (by kernel_rfl) (by kernel_rfl) RequestR_opens
    (opens_cons (by kernel_rfl) (by kernel_rfl) ReplyR_opens
    (opens_cons (by kernel_rfl) (by kernel_rfl) (opens_int Try.underlying3)
    (opens_cons (by kernel_rfl) (by kernel_rfl) (opens_slice Try.underlying36 (by kernel_rfl) (by kernel_rfl) RequestR_opens)
    (opens_cons (by kernel_rfl) (by kernel_rfl) (opens_slice Try.underlying27 (by kernel_rfl) (by kernel_rfl) (opens_byte Try.underlying5))
    (opens_last (by kernel_rfl) (by kernel_rfl) HeadR_opens))))))))))))))))
theorem MsgR_iff {w : World} {ok : Nat → Prop} {cs : List Value} {x : Msg} : MsgR.rel w ok cs x ↔ ∃ c0 c1 c2 c3 c4 c5 c6 c7 c8 c9 c10 c11 c12 c13 c14, cs = c0 ++ (c1 ++ (c2 ++ (c3 ++ (c4 ++ (c5 ++ (c6 ++ (c7 ++ (c8 ++ (c9 ++ (c10 ++ (c11 ++ (c12 ++ (c13 ++ (c14)))))))))))))) ∧ (Rd.int .i64).rel w ok c0 x.kind ∧ (Rd.int .i64).rel w ok c1 x.from_ ∧ (Rd.int .i64).rel w ok c2 x.to ∧ (Rd.int .i64).rel w ok c3 x.view ∧ (Rd.int .i64).rel w ok c4 x.last ∧ (Rd.int .i64).rel w ok c5 x.op ∧ (Rd.int .i64).rel w ok c6 x.commit ∧ (Rd.int .i64).rel w ok c7 x.nonce ∧ (Rd.slice 8 (Rd.int .i64)).rel w ok c8 x.vector ∧ RequestR.rel w ok c9 x.req ∧ ReplyR.rel w ok c10 x.answer ∧ (Rd.int .i64).rel w ok c11 x.base ∧ (Rd.slice 232 RequestR).rel w ok c12 x.log ∧ bytesR.rel w ok c13 x.state ∧ HeadR.rel w ok c14 x.head := by
  constructor
  · rintro ⟨c0, r0, rfl, h0, ⟨c1, r1, rfl, h1, ⟨c2, r2, rfl, h2, ⟨c3, r3, rfl, h3, ⟨c4, r4, rfl, h4, ⟨c5, r5, rfl, h5, ⟨c6, r6, rfl, h6, ⟨c7, r7, rfl, h7, ⟨c8, r8, rfl, h8, ⟨c9, r9, rfl, h9, ⟨c10, r10, rfl, h10, ⟨c11, r11, rfl, h11, ⟨c12, r12, rfl, h12, ⟨c13, r13, rfl, h13, h14⟩⟩⟩⟩⟩⟩⟩⟩⟩⟩⟩⟩⟩⟩
    exact ⟨c0, c1, c2, c3, c4, c5, c6, c7, c8, c9, c10, c11, c12, c13, _, rfl, h0, h1, h2, h3, h4, h5, h6, h7, h8, h9, h10, h11, h12, h13, h14⟩
  · rintro ⟨c0, c1, c2, c3, c4, c5, c6, c7, c8, c9, c10, c11, c12, c13, c14, rfl, h0, h1, h2, h3, h4, h5, h6, h7, h8, h9, h10, h11, h12, h13, h14⟩
    exact ⟨c0, _, rfl, h0, ⟨c1, _, rfl, h1, ⟨c2, _, rfl, h2, ⟨c3, _, rfl, h3, ⟨c4, _, rfl, h4, ⟨c5, _, rfl, h5, ⟨c6, _, rfl, h6, ⟨c7, _, rfl, h7, ⟨c8, _, rfl, h8, ⟨c9, _, rfl, h9, ⟨c10, _, rfl, h10, ⟨c11, _, rfl, h11, ⟨c12, _, rfl, h12, ⟨c13, _, rfl, h13, h14⟩⟩⟩⟩⟩⟩⟩⟩⟩⟩⟩⟩⟩⟩
theorem MsgR_kind {w : World} {ok : Nat → Prop} {cs : List Value} {x : Msg} (h : MsgR.rel w ok cs x) : (Rd.int .i64).rel w ok ((cs.drop 0).take 1) x.kind := by
  obtain ⟨c0, c1, c2, c3, c4, c5, c6, c7, c8, c9, c10, c11, c12, c13, c14, rfl, h0, h1, h2, h3, h4, h5, h6, h7, h8, h9, h10, h11, h12, h13, h14⟩ := MsgR_iff.1 h
  have l0 : c0.length = 1 := Rd.len _ h0
  have e : ((c0 ++ (c1 ++ (c2 ++ (c3 ++ (c4 ++ (c5 ++ (c6 ++ (c7 ++ (c8 ++ (c9 ++ (c10 ++ (c11 ++ (c12 ++ (c13 ++ (c14))))))))))))))).drop 0).take 1 = c0 := by
    rw [List.drop_zero, List.take_append_of_le_length (by omega), List.take_of_length_le (by omega)]
  rw [e]; exact h0
theorem MsgR_kind_at {w : World} {ok : Nat → Prop} {cs : List Value} {x : Msg} (h : MsgR.rel w ok cs x) : cs[0]? = some (Value.int .i64 x.kind) := take_one ((MsgR_kind h).1)
theorem MsgR_from_ {w : World} {ok : Nat → Prop} {cs : List Value} {x : Msg} (h : MsgR.rel w ok cs x) : (Rd.int .i64).rel w ok ((cs.drop 1).take 1) x.from_ := by
  obtain ⟨c0, c1, c2, c3, c4, c5, c6, c7, c8, c9, c10, c11, c12, c13, c14, rfl, h0, h1, h2, h3, h4, h5, h6, h7, h8, h9, h10, h11, h12, h13, h14⟩ := MsgR_iff.1 h
  have l0 : c0.length = 1 := Rd.len _ h0
  have l1 : c1.length = 1 := Rd.len _ h1
  have e : ((c0 ++ (c1 ++ (c2 ++ (c3 ++ (c4 ++ (c5 ++ (c6 ++ (c7 ++ (c8 ++ (c9 ++ (c10 ++ (c11 ++ (c12 ++ (c13 ++ (c14))))))))))))))).drop 1).take 1 = c1 := by
    rw [show 1 = c0.length + 0 by omega, ← List.drop_drop, List.drop_left]
    rw [List.drop_zero, List.take_append_of_le_length (by omega), List.take_of_length_le (by omega)]
  rw [e]; exact h1
theorem MsgR_from__at {w : World} {ok : Nat → Prop} {cs : List Value} {x : Msg} (h : MsgR.rel w ok cs x) : cs[1]? = some (Value.int .i64 x.from_) := take_one ((MsgR_from_ h).1)
theorem MsgR_to {w : World} {ok : Nat → Prop} {cs : List Value} {x : Msg} (h : MsgR.rel w ok cs x) : (Rd.int .i64).rel w ok ((cs.drop 2).take 1) x.to := by
  obtain ⟨c0, c1, c2, c3, c4, c5, c6, c7, c8, c9, c10, c11, c12, c13, c14, rfl, h0, h1, h2, h3, h4, h5, h6, h7, h8, h9, h10, h11, h12, h13, h14⟩ := MsgR_iff.1 h
  have l0 : c0.length = 1 := Rd.len _ h0
  have l1 : c1.length = 1 := Rd.len _ h1
  have l2 : c2.length = 1 := Rd.len _ h2
  have e : ((c0 ++ (c1 ++ (c2 ++ (c3 ++ (c4 ++ (c5 ++ (c6 ++ (c7 ++ (c8 ++ (c9 ++ (c10 ++ (c11 ++ (c12 ++ (c13 ++ (c14))))))))))))))).drop 2).take 1 = c2 := by
    rw [show 2 = c0.length + 1 by omega, ← List.drop_drop, List.drop_left]
    rw [show 1 = c1.length + 0 by omega, ← List.drop_drop, List.drop_left]
    rw [List.drop_zero, List.take_append_of_le_length (by omega), List.take_of_length_le (by omega)]
  rw [e]; exact h2
theorem MsgR_to_at {w : World} {ok : Nat → Prop} {cs : List Value} {x : Msg} (h : MsgR.rel w ok cs x) : cs[2]? = some (Value.int .i64 x.to) := take_one ((MsgR_to h).1)
theorem MsgR_view {w : World} {ok : Nat → Prop} {cs : List Value} {x : Msg} (h : MsgR.rel w ok cs x) : (Rd.int .i64).rel w ok ((cs.drop 3).take 1) x.view := by
  obtain ⟨c0, c1, c2, c3, c4, c5, c6, c7, c8, c9, c10, c11, c12, c13, c14, rfl, h0, h1, h2, h3, h4, h5, h6, h7, h8, h9, h10, h11, h12, h13, h14⟩ := MsgR_iff.1 h
  have l0 : c0.length = 1 := Rd.len _ h0
  have l1 : c1.length = 1 := Rd.len _ h1
  have l2 : c2.length = 1 := Rd.len _ h2
  have l3 : c3.length = 1 := Rd.len _ h3
  have e : ((c0 ++ (c1 ++ (c2 ++ (c3 ++ (c4 ++ (c5 ++ (c6 ++ (c7 ++ (c8 ++ (c9 ++ (c10 ++ (c11 ++ (c12 ++ (c13 ++ (c14))))))))))))))).drop 3).take 1 = c3 := by
    rw [show 3 = c0.length + 2 by omega, ← List.drop_drop, List.drop_left]
    rw [show 2 = c1.length + 1 by omega, ← List.drop_drop, List.drop_left]
    rw [show 1 = c2.length + 0 by omega, ← List.drop_drop, List.drop_left]
    rw [List.drop_zero, List.take_append_of_le_length (by omega), List.take_of_length_le (by omega)]
  rw [e]; exact h3
theorem MsgR_view_at {w : World} {ok : Nat → Prop} {cs : List Value} {x : Msg} (h : MsgR.rel w ok cs x) : cs[3]? = some (Value.int .i64 x.view) := take_one ((MsgR_view h).1)
theorem MsgR_last {w : World} {ok : Nat → Prop} {cs : List Value} {x : Msg} (h : MsgR.rel w ok cs x) : (Rd.int .i64).rel w ok ((cs.drop 4).take 1) x.last := by
  obtain ⟨c0, c1, c2, c3, c4, c5, c6, c7, c8, c9, c10, c11, c12, c13, c14, rfl, h0, h1, h2, h3, h4, h5, h6, h7, h8, h9, h10, h11, h12, h13, h14⟩ := MsgR_iff.1 h
  have l0 : c0.length = 1 := Rd.len _ h0
  have l1 : c1.length = 1 := Rd.len _ h1
  have l2 : c2.length = 1 := Rd.len _ h2
  have l3 : c3.length = 1 := Rd.len _ h3
  have l4 : c4.length = 1 := Rd.len _ h4
  have e : ((c0 ++ (c1 ++ (c2 ++ (c3 ++ (c4 ++ (c5 ++ (c6 ++ (c7 ++ (c8 ++ (c9 ++ (c10 ++ (c11 ++ (c12 ++ (c13 ++ (c14))))))))))))))).drop 4).take 1 = c4 := by
    rw [show 4 = c0.length + 3 by omega, ← List.drop_drop, List.drop_left]
    rw [show 3 = c1.length + 2 by omega, ← List.drop_drop, List.drop_left]
    rw [show 2 = c2.length + 1 by omega, ← List.drop_drop, List.drop_left]
    rw [show 1 = c3.length + 0 by omega, ← List.drop_drop, List.drop_left]
    rw [List.drop_zero, List.take_append_of_le_length (by omega), List.take_of_length_le (by omega)]
  rw [e]; exact h4
theorem MsgR_last_at {w : World} {ok : Nat → Prop} {cs : List Value} {x : Msg} (h : MsgR.rel w ok cs x) : cs[4]? = some (Value.int .i64 x.last) := take_one ((MsgR_last h).1)
theorem MsgR_op {w : World} {ok : Nat → Prop} {cs : List Value} {x : Msg} (h : MsgR.rel w ok cs x) : (Rd.int .i64).rel w ok ((cs.drop 5).take 1) x.op := by
  obtain ⟨c0, c1, c2, c3, c4, c5, c6, c7, c8, c9, c10, c11, c12, c13, c14, rfl, h0, h1, h2, h3, h4, h5, h6, h7, h8, h9, h10, h11, h12, h13, h14⟩ := MsgR_iff.1 h
  have l0 : c0.length = 1 := Rd.len _ h0
  have l1 : c1.length = 1 := Rd.len _ h1
  have l2 : c2.length = 1 := Rd.len _ h2
  have l3 : c3.length = 1 := Rd.len _ h3
  have l4 : c4.length = 1 := Rd.len _ h4
  have l5 : c5.length = 1 := Rd.len _ h5
  have e : ((c0 ++ (c1 ++ (c2 ++ (c3 ++ (c4 ++ (c5 ++ (c6 ++ (c7 ++ (c8 ++ (c9 ++ (c10 ++ (c11 ++ (c12 ++ (c13 ++ (c14))))))))))))))).drop 5).take 1 = c5 := by
    rw [show 5 = c0.length + 4 by omega, ← List.drop_drop, List.drop_left]
    rw [show 4 = c1.length + 3 by omega, ← List.drop_drop, List.drop_left]
    rw [show 3 = c2.length + 2 by omega, ← List.drop_drop, List.drop_left]
    rw [show 2 = c3.length + 1 by omega, ← List.drop_drop, List.drop_left]
    rw [show 1 = c4.length + 0 by omega, ← List.drop_drop, List.drop_left]
    rw [List.drop_zero, List.take_append_of_le_length (by omega), List.take_of_length_le (by omega)]
  rw [e]; exact h5
theorem MsgR_op_at {w : World} {ok : Nat → Prop} {cs : List Value} {x : Msg} (h : MsgR.rel w ok cs x) : cs[5]? = some (Value.int .i64 x.op) := take_one ((MsgR_op h).1)
theorem MsgR_commit {w : World} {ok : Nat → Prop} {cs : List Value} {x : Msg} (h : MsgR.rel w ok cs x) : (Rd.int .i64).rel w ok ((cs.drop 6).take 1) x.commit := by
  obtain ⟨c0, c1, c2, c3, c4, c5, c6, c7, c8, c9, c10, c11, c12, c13, c14, rfl, h0, h1, h2, h3, h4, h5, h6, h7, h8, h9, h10, h11, h12, h13, h14⟩ := MsgR_iff.1 h
  have l0 : c0.length = 1 := Rd.len _ h0
  have l1 : c1.length = 1 := Rd.len _ h1
  have l2 : c2.length = 1 := Rd.len _ h2
  have l3 : c3.length = 1 := Rd.len _ h3
  have l4 : c4.length = 1 := Rd.len _ h4
  have l5 : c5.length = 1 := Rd.len _ h5
  have l6 : c6.length = 1 := Rd.len _ h6
  have e : ((c0 ++ (c1 ++ (c2 ++ (c3 ++ (c4 ++ (c5 ++ (c6 ++ (c7 ++ (c8 ++ (c9 ++ (c10 ++ (c11 ++ (c12 ++ (c13 ++ (c14))))))))))))))).drop 6).take 1 = c6 := by
    rw [show 6 = c0.length + 5 by omega, ← List.drop_drop, List.drop_left]
    rw [show 5 = c1.length + 4 by omega, ← List.drop_drop, List.drop_left]
    rw [show 4 = c2.length + 3 by omega, ← List.drop_drop, List.drop_left]
    rw [show 3 = c3.length + 2 by omega, ← List.drop_drop, List.drop_left]
    rw [show 2 = c4.length + 1 by omega, ← List.drop_drop, List.drop_left]
    rw [show 1 = c5.length + 0 by omega, ← List.drop_drop, List.drop_left]
    rw [List.drop_zero, List.take_append_of_le_length (by omega), List.take_of_length_le (by omega)]
  rw [e]; exact h6
theorem MsgR_commit_at {w : World} {ok : Nat → Prop} {cs : List Value} {x : Msg} (h : MsgR.rel w ok cs x) : cs[6]? = some (Value.int .i64 x.commit) := take_one ((MsgR_commit h).1)
theorem MsgR_nonce {w : World} {ok : Nat → Prop} {cs : List Value} {x : Msg} (h : MsgR.rel w ok cs x) : (Rd.int .i64).rel w ok ((cs.drop 7).take 1) x.nonce := by
  obtain ⟨c0, c1, c2, c3, c4, c5, c6, c7, c8, c9, c10, c11, c12, c13, c14, rfl, h0, h1, h2, h3, h4, h5, h6, h7, h8, h9, h10, h11, h12, h13, h14⟩ := MsgR_iff.1 h
  have l0 : c0.length = 1 := Rd.len _ h0
  have l1 : c1.length = 1 := Rd.len _ h1
  have l2 : c2.length = 1 := Rd.len _ h2
  have l3 : c3.length = 1 := Rd.len _ h3
  have l4 : c4.length = 1 := Rd.len _ h4
  have l5 : c5.length = 1 := Rd.len _ h5
  have l6 : c6.length = 1 := Rd.len _ h6
  have l7 : c7.length = 1 := Rd.len _ h7
  have e : ((c0 ++ (c1 ++ (c2 ++ (c3 ++ (c4 ++ (c5 ++ (c6 ++ (c7 ++ (c8 ++ (c9 ++ (c10 ++ (c11 ++ (c12 ++ (c13 ++ (c14))))))))))))))).drop 7).take 1 = c7 := by
    rw [show 7 = c0.length + 6 by omega, ← List.drop_drop, List.drop_left]
    rw [show 6 = c1.length + 5 by omega, ← List.drop_drop, List.drop_left]
    rw [show 5 = c2.length + 4 by omega, ← List.drop_drop, List.drop_left]
    rw [show 4 = c3.length + 3 by omega, ← List.drop_drop, List.drop_left]
    rw [show 3 = c4.length + 2 by omega, ← List.drop_drop, List.drop_left]
    rw [show 2 = c5.length + 1 by omega, ← List.drop_drop, List.drop_left]
    rw [show 1 = c6.length + 0 by omega, ← List.drop_drop, List.drop_left]
    rw [List.drop_zero, List.take_append_of_le_length (by omega), List.take_of_length_le (by omega)]
  rw [e]; exact h7
theorem MsgR_nonce_at {w : World} {ok : Nat → Prop} {cs : List Value} {x : Msg} (h : MsgR.rel w ok cs x) : cs[7]? = some (Value.int .i64 x.nonce) := take_one ((MsgR_nonce h).1)
theorem MsgR_vector {w : World} {ok : Nat → Prop} {cs : List Value} {x : Msg} (h : MsgR.rel w ok cs x) : (Rd.slice 8 (Rd.int .i64)).rel w ok ((cs.drop 8).take 1) x.vector := by
  obtain ⟨c0, c1, c2, c3, c4, c5, c6, c7, c8, c9, c10, c11, c12, c13, c14, rfl, h0, h1, h2, h3, h4, h5, h6, h7, h8, h9, h10, h11, h12, h13, h14⟩ := MsgR_iff.1 h
  have l0 : c0.length = 1 := Rd.len _ h0
  have l1 : c1.length = 1 := Rd.len _ h1
  have l2 : c2.length = 1 := Rd.len _ h2
  have l3 : c3.length = 1 := Rd.len _ h3
  have l4 : c4.length = 1 := Rd.len _ h4
  have l5 : c5.length = 1 := Rd.len _ h5
  have l6 : c6.length = 1 := Rd.len _ h6
  have l7 : c7.length = 1 := Rd.len _ h7
  have l8 : c8.length = 1 := Rd.len _ h8
  have e : ((c0 ++ (c1 ++ (c2 ++ (c3 ++ (c4 ++ (c5 ++ (c6 ++ (c7 ++ (c8 ++ (c9 ++ (c10 ++ (c11 ++ (c12 ++ (c13 ++ (c14))))))))))))))).drop 8).take 1 = c8 := by
    rw [show 8 = c0.length + 7 by omega, ← List.drop_drop, List.drop_left]
    rw [show 7 = c1.length + 6 by omega, ← List.drop_drop, List.drop_left]
    rw [show 6 = c2.length + 5 by omega, ← List.drop_drop, List.drop_left]
    rw [show 5 = c3.length + 4 by omega, ← List.drop_drop, List.drop_left]
    rw [show 4 = c4.length + 3 by omega, ← List.drop_drop, List.drop_left]
    rw [show 3 = c5.length + 2 by omega, ← List.drop_drop, List.drop_left]
    rw [show 2 = c6.length + 1 by omega, ← List.drop_drop, List.drop_left]
    rw [show 1 = c7.length + 0 by omega, ← List.drop_drop, List.drop_left]
    rw [List.drop_zero, List.take_append_of_le_length (by omega), List.take_of_length_le (by omega)]
  rw [e]; exact h8
theorem MsgR_vector_at {w : World} {ok : Nat → Prop} {cs : List Value} {x : Msg} (h : MsgR.rel w ok cs x) : ∃ A c, cs[8]? = some (.slice A x.vector.length c) ∧ (Rd.slice 8 (Rd.int .i64)).rel w ok [.slice A x.vector.length c] x.vector := by
  have h1 := MsgR_vector h
  obtain ⟨A, c, hv, _⟩ := id h1
  rw [hv] at h1
  exact ⟨A, c, take_one hv, h1⟩
theorem MsgR_req {w : World} {ok : Nat → Prop} {cs : List Value} {x : Msg} (h : MsgR.rel w ok cs x) : RequestR.rel w ok ((cs.drop 9).take 14) x.req := by
  obtain ⟨c0, c1, c2, c3, c4, c5, c6, c7, c8, c9, c10, c11, c12, c13, c14, rfl, h0, h1, h2, h3, h4, h5, h6, h7, h8, h9, h10, h11, h12, h13, h14⟩ := MsgR_iff.1 h
  have l0 : c0.length = 1 := Rd.len _ h0
  have l1 : c1.length = 1 := Rd.len _ h1
  have l2 : c2.length = 1 := Rd.len _ h2
  have l3 : c3.length = 1 := Rd.len _ h3
  have l4 : c4.length = 1 := Rd.len _ h4
  have l5 : c5.length = 1 := Rd.len _ h5
  have l6 : c6.length = 1 := Rd.len _ h6
  have l7 : c7.length = 1 := Rd.len _ h7
  have l8 : c8.length = 1 := Rd.len _ h8
  have l9 : c9.length = 14 := Rd.len _ h9
  have e : ((c0 ++ (c1 ++ (c2 ++ (c3 ++ (c4 ++ (c5 ++ (c6 ++ (c7 ++ (c8 ++ (c9 ++ (c10 ++ (c11 ++ (c12 ++ (c13 ++ (c14))))))))))))))).drop 9).take 14 = c9 := by
    rw [show 9 = c0.length + 8 by omega, ← List.drop_drop, List.drop_left]
    rw [show 8 = c1.length + 7 by omega, ← List.drop_drop, List.drop_left]
    rw [show 7 = c2.length + 6 by omega, ← List.drop_drop, List.drop_left]
    rw [show 6 = c3.length + 5 by omega, ← List.drop_drop, List.drop_left]
    rw [show 5 = c4.length + 4 by omega, ← List.drop_drop, List.drop_left]
    rw [show 4 = c5.length + 3 by omega, ← List.drop_drop, List.drop_left]
    rw [show 3 = c6.length + 2 by omega, ← List.drop_drop, List.drop_left]
    rw [show 2 = c7.length + 1 by omega, ← List.drop_drop, List.drop_left]
    rw [show 1 = c8.length + 0 by omega, ← List.drop_drop, List.drop_left]
    rw [List.drop_zero, List.take_append_of_le_length (by omega), List.take_of_length_le (by omega)]
  rw [e]; exact h9
theorem MsgR_answer {w : World} {ok : Nat → Prop} {cs : List Value} {x : Msg} (h : MsgR.rel w ok cs x) : ReplyR.rel w ok ((cs.drop 23).take 6) x.answer := by
  obtain ⟨c0, c1, c2, c3, c4, c5, c6, c7, c8, c9, c10, c11, c12, c13, c14, rfl, h0, h1, h2, h3, h4, h5, h6, h7, h8, h9, h10, h11, h12, h13, h14⟩ := MsgR_iff.1 h
  have l0 : c0.length = 1 := Rd.len _ h0
  have l1 : c1.length = 1 := Rd.len _ h1
  have l2 : c2.length = 1 := Rd.len _ h2
  have l3 : c3.length = 1 := Rd.len _ h3
  have l4 : c4.length = 1 := Rd.len _ h4
  have l5 : c5.length = 1 := Rd.len _ h5
  have l6 : c6.length = 1 := Rd.len _ h6
  have l7 : c7.length = 1 := Rd.len _ h7
  have l8 : c8.length = 1 := Rd.len _ h8
  have l9 : c9.length = 14 := Rd.len _ h9
  have l10 : c10.length = 6 := Rd.len _ h10
  have e : ((c0 ++ (c1 ++ (c2 ++ (c3 ++ (c4 ++ (c5 ++ (c6 ++ (c7 ++ (c8 ++ (c9 ++ (c10 ++ (c11 ++ (c12 ++ (c13 ++ (c14))))))))))))))).drop 23).take 6 = c10 := by
    rw [show 23 = c0.length + 22 by omega, ← List.drop_drop, List.drop_left]
    rw [show 22 = c1.length + 21 by omega, ← List.drop_drop, List.drop_left]
    rw [show 21 = c2.length + 20 by omega, ← List.drop_drop, List.drop_left]
    rw [show 20 = c3.length + 19 by omega, ← List.drop_drop, List.drop_left]
    rw [show 19 = c4.length + 18 by omega, ← List.drop_drop, List.drop_left]
    rw [show 18 = c5.length + 17 by omega, ← List.drop_drop, List.drop_left]
    rw [show 17 = c6.length + 16 by omega, ← List.drop_drop, List.drop_left]
    rw [show 16 = c7.length + 15 by omega, ← List.drop_drop, List.drop_left]
    rw [show 15 = c8.length + 14 by omega, ← List.drop_drop, List.drop_left]
    rw [show 14 = c9.length + 0 by omega, ← List.drop_drop, List.drop_left]
    rw [List.drop_zero, List.take_append_of_le_length (by omega), List.take_of_length_le (by omega)]
  rw [e]; exact h10
theorem MsgR_base {w : World} {ok : Nat → Prop} {cs : List Value} {x : Msg} (h : MsgR.rel w ok cs x) : (Rd.int .i64).rel w ok ((cs.drop 29).take 1) x.base := by
  obtain ⟨c0, c1, c2, c3, c4, c5, c6, c7, c8, c9, c10, c11, c12, c13, c14, rfl, h0, h1, h2, h3, h4, h5, h6, h7, h8, h9, h10, h11, h12, h13, h14⟩ := MsgR_iff.1 h
  have l0 : c0.length = 1 := Rd.len _ h0
  have l1 : c1.length = 1 := Rd.len _ h1
  have l2 : c2.length = 1 := Rd.len _ h2
  have l3 : c3.length = 1 := Rd.len _ h3
  have l4 : c4.length = 1 := Rd.len _ h4
  have l5 : c5.length = 1 := Rd.len _ h5
  have l6 : c6.length = 1 := Rd.len _ h6
  have l7 : c7.length = 1 := Rd.len _ h7
  have l8 : c8.length = 1 := Rd.len _ h8
  have l9 : c9.length = 14 := Rd.len _ h9
  have l10 : c10.length = 6 := Rd.len _ h10
  have l11 : c11.length = 1 := Rd.len _ h11
  have e : ((c0 ++ (c1 ++ (c2 ++ (c3 ++ (c4 ++ (c5 ++ (c6 ++ (c7 ++ (c8 ++ (c9 ++ (c10 ++ (c11 ++ (c12 ++ (c13 ++ (c14))))))))))))))).drop 29).take 1 = c11 := by
    rw [show 29 = c0.length + 28 by omega, ← List.drop_drop, List.drop_left]
    rw [show 28 = c1.length + 27 by omega, ← List.drop_drop, List.drop_left]
    rw [show 27 = c2.length + 26 by omega, ← List.drop_drop, List.drop_left]
    rw [show 26 = c3.length + 25 by omega, ← List.drop_drop, List.drop_left]
    rw [show 25 = c4.length + 24 by omega, ← List.drop_drop, List.drop_left]
    rw [show 24 = c5.length + 23 by omega, ← List.drop_drop, List.drop_left]
    rw [show 23 = c6.length + 22 by omega, ← List.drop_drop, List.drop_left]
    rw [show 22 = c7.length + 21 by omega, ← List.drop_drop, List.drop_left]
    rw [show 21 = c8.length + 20 by omega, ← List.drop_drop, List.drop_left]
    rw [show 20 = c9.length + 6 by omega, ← List.drop_drop, List.drop_left]
    rw [show 6 = c10.length + 0 by omega, ← List.drop_drop, List.drop_left]
    rw [List.drop_zero, List.take_append_of_le_length (by omega), List.take_of_length_le (by omega)]
  rw [e]; exact h11
theorem MsgR_base_at {w : World} {ok : Nat → Prop} {cs : List Value} {x : Msg} (h : MsgR.rel w ok cs x) : cs[29]? = some (Value.int .i64 x.base) := take_one ((MsgR_base h).1)
theorem MsgR_log {w : World} {ok : Nat → Prop} {cs : List Value} {x : Msg} (h : MsgR.rel w ok cs x) : (Rd.slice 232 RequestR).rel w ok ((cs.drop 30).take 1) x.log := by
  obtain ⟨c0, c1, c2, c3, c4, c5, c6, c7, c8, c9, c10, c11, c12, c13, c14, rfl, h0, h1, h2, h3, h4, h5, h6, h7, h8, h9, h10, h11, h12, h13, h14⟩ := MsgR_iff.1 h
  have l0 : c0.length = 1 := Rd.len _ h0
  have l1 : c1.length = 1 := Rd.len _ h1
  have l2 : c2.length = 1 := Rd.len _ h2
  have l3 : c3.length = 1 := Rd.len _ h3
  have l4 : c4.length = 1 := Rd.len _ h4
  have l5 : c5.length = 1 := Rd.len _ h5
  have l6 : c6.length = 1 := Rd.len _ h6
  have l7 : c7.length = 1 := Rd.len _ h7
  have l8 : c8.length = 1 := Rd.len _ h8
  have l9 : c9.length = 14 := Rd.len _ h9
  have l10 : c10.length = 6 := Rd.len _ h10
  have l11 : c11.length = 1 := Rd.len _ h11
  have l12 : c12.length = 1 := Rd.len _ h12
  have e : ((c0 ++ (c1 ++ (c2 ++ (c3 ++ (c4 ++ (c5 ++ (c6 ++ (c7 ++ (c8 ++ (c9 ++ (c10 ++ (c11 ++ (c12 ++ (c13 ++ (c14))))))))))))))).drop 30).take 1 = c12 := by
    rw [show 30 = c0.length + 29 by omega, ← List.drop_drop, List.drop_left]
    rw [show 29 = c1.length + 28 by omega, ← List.drop_drop, List.drop_left]
    rw [show 28 = c2.length + 27 by omega, ← List.drop_drop, List.drop_left]
    rw [show 27 = c3.length + 26 by omega, ← List.drop_drop, List.drop_left]
    rw [show 26 = c4.length + 25 by omega, ← List.drop_drop, List.drop_left]
    rw [show 25 = c5.length + 24 by omega, ← List.drop_drop, List.drop_left]
    rw [show 24 = c6.length + 23 by omega, ← List.drop_drop, List.drop_left]
    rw [show 23 = c7.length + 22 by omega, ← List.drop_drop, List.drop_left]
    rw [show 22 = c8.length + 21 by omega, ← List.drop_drop, List.drop_left]
    rw [show 21 = c9.length + 7 by omega, ← List.drop_drop, List.drop_left]
    rw [show 7 = c10.length + 1 by omega, ← List.drop_drop, List.drop_left]
    rw [show 1 = c11.length + 0 by omega, ← List.drop_drop, List.drop_left]
    rw [List.drop_zero, List.take_append_of_le_length (by omega), List.take_of_length_le (by omega)]
  rw [e]; exact h12
theorem MsgR_log_at {w : World} {ok : Nat → Prop} {cs : List Value} {x : Msg} (h : MsgR.rel w ok cs x) : ∃ A c, cs[30]? = some (.slice A x.log.length c) ∧ (Rd.slice 232 RequestR).rel w ok [.slice A x.log.length c] x.log := by
  have h1 := MsgR_log h
  obtain ⟨A, c, hv, _⟩ := id h1
  rw [hv] at h1
  exact ⟨A, c, take_one hv, h1⟩
theorem MsgR_state {w : World} {ok : Nat → Prop} {cs : List Value} {x : Msg} (h : MsgR.rel w ok cs x) : bytesR.rel w ok ((cs.drop 31).take 1) x.state := by
  obtain ⟨c0, c1, c2, c3, c4, c5, c6, c7, c8, c9, c10, c11, c12, c13, c14, rfl, h0, h1, h2, h3, h4, h5, h6, h7, h8, h9, h10, h11, h12, h13, h14⟩ := MsgR_iff.1 h
  have l0 : c0.length = 1 := Rd.len _ h0
  have l1 : c1.length = 1 := Rd.len _ h1
  have l2 : c2.length = 1 := Rd.len _ h2
  have l3 : c3.length = 1 := Rd.len _ h3
  have l4 : c4.length = 1 := Rd.len _ h4
  have l5 : c5.length = 1 := Rd.len _ h5
  have l6 : c6.length = 1 := Rd.len _ h6
  have l7 : c7.length = 1 := Rd.len _ h7
  have l8 : c8.length = 1 := Rd.len _ h8
  have l9 : c9.length = 14 := Rd.len _ h9
  have l10 : c10.length = 6 := Rd.len _ h10
  have l11 : c11.length = 1 := Rd.len _ h11
  have l12 : c12.length = 1 := Rd.len _ h12
  have l13 : c13.length = 1 := Rd.len _ h13
  have e : ((c0 ++ (c1 ++ (c2 ++ (c3 ++ (c4 ++ (c5 ++ (c6 ++ (c7 ++ (c8 ++ (c9 ++ (c10 ++ (c11 ++ (c12 ++ (c13 ++ (c14))))))))))))))).drop 31).take 1 = c13 := by
    rw [show 31 = c0.length + 30 by omega, ← List.drop_drop, List.drop_left]
    rw [show 30 = c1.length + 29 by omega, ← List.drop_drop, List.drop_left]
    rw [show 29 = c2.length + 28 by omega, ← List.drop_drop, List.drop_left]
    rw [show 28 = c3.length + 27 by omega, ← List.drop_drop, List.drop_left]
    rw [show 27 = c4.length + 26 by omega, ← List.drop_drop, List.drop_left]
    rw [show 26 = c5.length + 25 by omega, ← List.drop_drop, List.drop_left]
    rw [show 25 = c6.length + 24 by omega, ← List.drop_drop, List.drop_left]
    rw [show 24 = c7.length + 23 by omega, ← List.drop_drop, List.drop_left]
    rw [show 23 = c8.length + 22 by omega, ← List.drop_drop, List.drop_left]
    rw [show 22 = c9.length + 8 by omega, ← List.drop_drop, List.drop_left]
    rw [show 8 = c10.length + 2 by omega, ← List.drop_drop, List.drop_left]
    rw [show 2 = c11.length + 1 by omega, ← List.drop_drop, List.drop_left]
    rw [show 1 = c12.length + 0 by omega, ← List.drop_drop, List.drop_left]
    rw [List.drop_zero, List.take_append_of_le_length (by omega), List.take_of_length_le (by omega)]
  rw [e]; exact h13
theorem MsgR_state_at {w : World} {ok : Nat → Prop} {cs : List Value} {x : Msg} (h : MsgR.rel w ok cs x) : ∃ A c, cs[31]? = some (.slice A x.state.length c) ∧ bytesR.rel w ok [.slice A x.state.length c] x.state := by
  have h1 := MsgR_state h
  obtain ⟨A, c, hv, _⟩ := id h1
  rw [hv] at h1
  exact ⟨A, c, take_one hv, h1⟩
theorem MsgR_head {w : World} {ok : Nat → Prop} {cs : List Value} {x : Msg} (h : MsgR.rel w ok cs x) : HeadR.rel w ok ((cs.drop 32).take 3) x.head := by
  obtain ⟨c0, c1, c2, c3, c4, c5, c6, c7, c8, c9, c10, c11, c12, c13, c14, rfl, h0, h1, h2, h3, h4, h5, h6, h7, h8, h9, h10, h11, h12, h13, h14⟩ := MsgR_iff.1 h
  have l0 : c0.length = 1 := Rd.len _ h0
  have l1 : c1.length = 1 := Rd.len _ h1
  have l2 : c2.length = 1 := Rd.len _ h2
  have l3 : c3.length = 1 := Rd.len _ h3
  have l4 : c4.length = 1 := Rd.len _ h4
  have l5 : c5.length = 1 := Rd.len _ h5
  have l6 : c6.length = 1 := Rd.len _ h6
  have l7 : c7.length = 1 := Rd.len _ h7
  have l8 : c8.length = 1 := Rd.len _ h8
  have l9 : c9.length = 14 := Rd.len _ h9
  have l10 : c10.length = 6 := Rd.len _ h10
  have l11 : c11.length = 1 := Rd.len _ h11
  have l12 : c12.length = 1 := Rd.len _ h12
  have l13 : c13.length = 1 := Rd.len _ h13
  have l14 : c14.length = 3 := Rd.len _ h14
  have e : ((c0 ++ (c1 ++ (c2 ++ (c3 ++ (c4 ++ (c5 ++ (c6 ++ (c7 ++ (c8 ++ (c9 ++ (c10 ++ (c11 ++ (c12 ++ (c13 ++ (c14))))))))))))))).drop 32).take 3 = c14 := by
    rw [show 32 = c0.length + 31 by omega, ← List.drop_drop, List.drop_left]
    rw [show 31 = c1.length + 30 by omega, ← List.drop_drop, List.drop_left]
    rw [show 30 = c2.length + 29 by omega, ← List.drop_drop, List.drop_left]
    rw [show 29 = c3.length + 28 by omega, ← List.drop_drop, List.drop_left]
    rw [show 28 = c4.length + 27 by omega, ← List.drop_drop, List.drop_left]
    rw [show 27 = c5.length + 26 by omega, ← List.drop_drop, List.drop_left]
    rw [show 26 = c6.length + 25 by omega, ← List.drop_drop, List.drop_left]
    rw [show 25 = c7.length + 24 by omega, ← List.drop_drop, List.drop_left]
    rw [show 24 = c8.length + 23 by omega, ← List.drop_drop, List.drop_left]
    rw [show 23 = c9.length + 9 by omega, ← List.drop_drop, List.drop_left]
    rw [show 9 = c10.length + 3 by omega, ← List.drop_drop, List.drop_left]
    rw [show 3 = c11.length + 2 by omega, ← List.drop_drop, List.drop_left]
    rw [show 2 = c12.length + 1 by omega, ← List.drop_drop, List.drop_left]
    rw [show 1 = c13.length + 0 by omega, ← List.drop_drop, List.drop_left]
    rw [List.drop_zero, List.take_of_length_le (by omega)]
  rw [e]; exact h14
end Go.Proofs.Ytgdadhpcooegnaa
