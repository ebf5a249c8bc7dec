/- Kinds of this seat's structs, written by rdgen.py: a Lean structure for each, and how its cells read. -/
import Derived.Test.YtcahnhohinckdaaDoorRd
namespace Go.Proofs.YtcahnhohinckdaaDoor
open Go.RowKit
structure Link where
  place : ByteArray
  code : Int
def LinkR : Rd Link := (Rd.string.pair ((Rd.int .i64))).iso fun x => (x.place, x.code)
theorem LinkR_opens : Opens Tryd.prog LinkR 28 :=
  opens_iso (fun a => ⟨a.1, a.2⟩) (fun _ => rfl) (opens_struct Tryd.underlying28 (by kernel_rfl) (opens_cons (by kernel_rfl) (by kernel_rfl) (opens_string Tryd.underlying9)
    (opens_last (by kernel_rfl) (by kernel_rfl) (opens_int Tryd.underlying3))))
theorem LinkR_iff {w : World} {ok : Nat → Prop} {cs : List Value} {x : Link} : LinkR.rel w ok cs x ↔ ∃ c0 c1, cs = c0 ++ (c1) ∧ Rd.string.rel w ok c0 x.place ∧ (Rd.int .i64).rel w ok c1 x.code := by
  constructor
  · rintro ⟨c0, r0, rfl, h0, h1⟩
    exact ⟨c0, _, rfl, h0, h1⟩
  · rintro ⟨c0, c1, rfl, h0, h1⟩
    exact ⟨c0, _, rfl, h0, h1⟩
theorem LinkR_place {w : World} {ok : Nat → Prop} {cs : List Value} {x : Link} (h : LinkR.rel w ok cs x) : Rd.string.rel w ok ((cs.drop 0).take 1) x.place := by
  obtain ⟨c0, c1, rfl, h0, h1⟩ := LinkR_iff.1 h
  have l0 : c0.length = 1 := Rd.len _ h0
  have e : ((c0 ++ (c1)).drop 0).take 1 = c0 := by
    rw [List.drop_zero, List.take_append_of_le_length (by omega), List.take_of_length_le (by omega)]
  rw [e]; exact h0
theorem LinkR_place_at {w : World} {ok : Nat → Prop} {cs : List Value} {x : Link} (h : LinkR.rel w ok cs x) : cs[0]? = some (Value.string x.place) := take_one ((LinkR_place h).1)
theorem LinkR_code {w : World} {ok : Nat → Prop} {cs : List Value} {x : Link} (h : LinkR.rel w ok cs x) : (Rd.int .i64).rel w ok ((cs.drop 1).take 1) x.code := by
  obtain ⟨c0, c1, rfl, h0, h1⟩ := LinkR_iff.1 h
  have l0 : c0.length = 1 := Rd.len _ h0
  have l1 : c1.length = 1 := Rd.len _ h1
  have e : ((c0 ++ (c1)).drop 1).take 1 = c1 := by
    rw [show 1 = c0.length + 0 by omega, ← List.drop_drop, List.drop_left]
    rw [List.drop_zero, List.take_of_length_le (by omega)]
  rw [e]; exact h1
theorem LinkR_code_at {w : World} {ok : Nat → Prop} {cs : List Value} {x : Link} (h : LinkR.rel w ok cs x) : cs[1]? = some (Value.int .i64 x.code) := take_one ((LinkR_code h).1)
end Go.Proofs.YtcahnhohinckdaaDoor
