/- Layer 22: what must be answered ahead of everything else: its data. -/
import Derived.Test.YtgdadhpcooegnaaQuorum14
import Derived.Test.YtgdadhpcooegnaaQuorum19
import Derived.Great.BuildSlice
namespace Go.Proofs.Ytgdadhpcooegnaa
open Go.RowKit
set_option linter.unusedVariables false
/-- []T{x, y} -/
theorem wpList_slice2 {P : Program} {ops : Array Oper} {rest : List Oper} {o : Oper} {a : Act} {w : World} {Q : Exit → Act → World → Prop} (hg : o.guard = none) (t e : TypeId) (x y : Operand) (ho : o.op = .buildSlice t 2 #[(0, x), (1, y)]) (vx vy : Value) (hx : a.eval x = vx) (hy : a.eval y = vy)
    (cells : Array Value) (k : Nat) (z : Value) (hu : P.underlying t = some (.slice e)) (hinfo : (P.info? e).map (fun i => (i.zero, i.size)) = some (some z, k)) (hk : 0 < k ∧ k ≤ 1000)
    (hf : Instr.fill (fun i => some (i * k, k)) ((Array.range (2 * k)).map (z.cells[· % z.cells.size]!)) [(0, vx), (1, vy)] = some cells)
    (h : wpList P ops Q rest (a.put o.dst (.slice (some ⟨w.heap.size, 0, none⟩) 2 2)) (w.alloc (.cells cells e))) : wpList P ops Q (o :: rest) a w := by
  obtain ⟨ie, hie, hz⟩ := Option.map_eq_some_iff.1 hinfo
  simp only [Prod.mk.injEq] at hz
  refine wpList_plain hg fun K hK => ?_
  have hrun := run_buildSlice (P := P) w t e 2 #[(0, vx), (1, vy)] cells ie z hu hie hz.1 (by rw [hz.2]; omega) (by rw [hz.2]; omega) (by rw [hz.2]; exact hf)
  unfold Oper.wp execOp
  simp only [ho, List.map_toArray, List.map_cons, List.map_nil, hx, hy, Sem.run_bind, hrun, Result.andThen_ok, Sem.run_pure]
  exact hK _ _ h
def csA (g : Nat) : List Value := [zi, .int .i64 0, zi, zi, .int .i64 2, zi, zi, .int .i64 1, .slice (some ⟨g, 0, none⟩) 3 3, zi, zi, zl, zi, zl, zl, zl, zl, zi, zi, zl, zs, zl, .bool false, zi, zi, zl, zs, zl, zl, zi, zl, zl, zi, zi, zi]
def csB : List Value := [zi, .int .i64 2, zi, zi, .int .i64 4, zi, zi, .int .i64 2, zl, zi, zi, zl, zi, zl, zl, zl, zl, zi, zi, zl, zs, zl, .bool false, zi, zi, zl, zs, zl, zl, zi, zl, zl, zi, zi, zi]
def msgA : Msg := { zMsg with from_ := 0, last := 2, nonce := 1, vector := [1, 0, 3] }
def msgB : Msg := { zMsg with from_ := 2, last := 4, nonce := 2 }
theorem builtA (g : Nat) : Try.prog.built 40 [(1, .int .i64 0), (4, .int .i64 2), (7, .int .i64 1), (8, .slice (some ⟨g, 0, none⟩) 3 3)] = some (csA g).toArray := by kernel_rfl
theorem builtB : Try.prog.built 40 [(1, .int .i64 2), (4, .int .i64 4), (7, .int .i64 2)] = some csB.toArray := by kernel_rfl
theorem fillAB (g : Nat) : Instr.fill (fun i => some (i * 35, 35)) ((Array.range (2 * 35)).map ((Value.agg zeroMsg.toArray).cells[· % (Value.agg zeroMsg.toArray).cells.size]!)) [(0, .agg (csA g).toArray), (1, .agg csB.toArray)] = some (csA g ++ csB).toArray := by kernel_rfl
theorem i64_rel (w : World) (ok : Nat → Prop) (n : Int) (h : -9223372036854775808 ≤ n ∧ n ≤ 9223372036854775807) : (Rd.int .i64).rel w ok [.int .i64 n] n := ⟨rfl, inR_mk h⟩
theorem zReq_rel (w : World) (ok : Nat → Prop) : RequestR.rel w ok [zi, zi, zl, zi, zl, zl, zl, zl, zi, zi, zl, zs, zl, .bool false] zReq := by
  refine RequestR_iff.2 ⟨[zi], [zi], [zl], [zi, zl, zl, zl, zl, zi, zi, zl, zs, zl, .bool false], rfl, zi_rel _ _, zi_rel _ _, zl_rel _ _ _ _, ?_⟩
  exact CallR_iff.2 ⟨[zi], [zl], [zl], [zl], [zl], [zi], [zi], [zl], [zs], [zl], [.bool false], rfl, zi_rel _ _, zl_rel _ _ _ _, zl_rel _ _ _ _, zl_rel _ _ _ _, zl_rel _ _ _ _, zi_rel _ _, zi_rel _ _, zl_rel _ _ _ _, zs_rel _ _, zl_rel _ _ _ _, rfl⟩
theorem zRep_rel (w : World) (ok : Nat → Prop) : ReplyR.rel w ok [zi, zi, zl, zs, zl, zl] zMsg.answer := ReplyR_iff.2 ⟨[zi], [zi], [zl], [zs], [zl], [zl], rfl, zi_rel _ _, zi_rel _ _, zl_rel _ _ _ _, zs_rel _ _, zl_rel _ _ _ _, zl_rel _ _ _ _⟩
theorem zHead_rel (w : World) (ok : Nat → Prop) : HeadR.rel w ok [zi, zi, zi] zMsg.head := HeadR_iff.2 ⟨[zi], [zi], [zi], rfl, zi_rel _ _, zi_rel _ _, zi_rel _ _⟩
theorem lit3_rel {w : World} {g : Nat} {a b c : Int} {e : TypeId} {fr : Nat × Nat} (hg : w.heap[g]? = some (.cells #[.int .i64 a, .int .i64 b, .int .i64 c] e fr)) (h : ∀ x ∈ [a, b, c], Rd.inR .i64 x) : intsR.rel w (fun k => k = g) [.slice (some ⟨g, 0, none⟩) 3 3] [a, b, c] := by
  refine ⟨_, 3, rfl, Nat.le_refl _, by decide, by simp, by simp, .inr ⟨_, rfl, rfl, fun j x hj => ⟨_, ⟨rfl, h x (List.mem_of_getElem? hj)⟩, fun i u hu => ?_⟩⟩⟩
  have hi : i = 0 := by have := (List.getElem?_eq_some_iff.1 hu).1; simp at this; omega
  subst hi
  cases hu
  rw [agg_at, cell_of_blk hg, show j * (Rd.int .i64).sz + 0 = j from Nat.mul_one j]
  match j, hj with
  | 0, hj => cases hj; rfl
  | 1, hj => cases hj; rfl
  | 2, hj => cases hj; rfl
theorem relA {w : World} {g : Nat} {e : TypeId} {fr : Nat × Nat} (hg : w.heap[g]? = some (.cells #[.int .i64 1, .int .i64 0, .int .i64 3] e fr)) : MsgR.rel w (fun k => k = g) (csA g) msgA :=
  MsgR_iff.2 ⟨[zi], [.int .i64 0], [zi], [zi], [.int .i64 2], [zi], [zi], [.int .i64 1], [.slice (some ⟨g, 0, none⟩) 3 3], [zi, zi, zl, zi, zl, zl, zl, zl, zi, zi, zl, zs, zl, .bool false], [zi, zi, zl, zs, zl, zl], [zi], [zl], [zl], [zi, zi, zi], rfl, zi_rel _ _, zi_rel _ _, zi_rel _ _, zi_rel _ _, i64_rel _ _ 2 (by decide), zi_rel _ _, zi_rel _ _, i64_rel _ _ 1 (by decide), lit3_rel hg (fun x hx => inR_mk (by simp at hx; omega)), zReq_rel _ _, zRep_rel _ _, zi_rel _ _, zl_rel _ _ _ _, zl_rel _ _ _ _, zHead_rel _ _⟩
theorem relB (w : World) (ok : Nat → Prop) : MsgR.rel w ok csB msgB :=
  MsgR_iff.2 ⟨[zi], [.int .i64 2], [zi], [zi], [.int .i64 4], [zi], [zi], [.int .i64 2], [zl], [zi, zi, zl, zi, zl, zl, zl, zl, zi, zi, zl, zs, zl, .bool false], [zi, zi, zl, zs, zl, zl], [zi], [zl], [zl], [zi, zi, zi], rfl, zi_rel _ _, i64_rel _ _ 2 (by decide), zi_rel _ _, zi_rel _ _, i64_rel _ _ 4 (by decide), zi_rel _ _, zi_rel _ _, i64_rel _ _ 2 (by decide), zl_rel _ _ _ _, zReq_rel _ _, zRep_rel _ _, zi_rel _ _, zl_rel _ _ _ _, zl_rel _ _ _ _, zHead_rel _ _⟩
/-- a block that holds two messages -/
theorem two_rel {w : World} {g : Nat} {e : TypeId} {fr : Nat × Nat} {ok : Nat → Prop} {cs ds : List Value} {x y : Msg} (hg : w.heap[g]? = some (.cells (cs ++ ds).toArray e fr)) (hx : MsgR.rel w ok cs x) (hy : MsgR.rel w ok ds y) : msgsR.rel w (fun k => ok k ∨ k = g) [.slice (some ⟨g, 0, none⟩) 2 2] [x, y] := by
  have h35 := MsgR_len hx
  refine ⟨_, 2, rfl, Nat.le_refl _, by decide, by simp, by simp, .inr ⟨_, rfl, .inr rfl, fun j m hj => ?_⟩⟩
  match j, hj with
  | 0, hj =>
    cases hj
    refine ⟨cs, Rd.mono hx (fun _ => .inl), fun i u hu => ?_⟩
    have hi := (List.getElem?_eq_some_iff.1 hu).1
    rw [agg_at, cell_of_blk hg, Nat.zero_mul, Nat.zero_add, List.getElem?_toArray, List.getElem?_append_left hi]
    exact hu
  | 1, hj =>
    cases hj
    refine ⟨ds, Rd.mono hy (fun _ => .inl), fun i u hu => ?_⟩
    rw [agg_at, cell_of_blk hg, List.getElem?_toArray, List.getElem?_append_right (by rw [h35]; show 35 ≤ 1 * 35 + i; omega), h35, show 1 * MsgR.sz + i - 35 = i by show 1 * 35 + i - 35 = i; omega]
    exact hu
theorem one_rel {w : World} {g : Nat} {e : TypeId} {fr : Nat × Nat} {ok : Nat → Prop} {cs : List Value} {x : Msg} (hg : w.heap[g]? = some (.cells cs.toArray e fr)) (hx : MsgR.rel w ok cs x) : msgsR.rel w (fun k => ok k ∨ k = g) [.slice (some ⟨g, 0, none⟩) 1 1] [x] := by
  refine ⟨_, 1, rfl, Nat.le_refl _, by decide, by simp, by simp, .inr ⟨_, rfl, .inr rfl, fun j m hj => ?_⟩⟩
  match j, hj with
  | 0, hj =>
    cases hj
    refine ⟨cs, Rd.mono hx (fun _ => .inl), fun i u hu => ?_⟩
    rw [agg_at, cell_of_blk hg, Nat.zero_mul, Nat.zero_add, List.getElem?_toArray]
    exact hu
theorem freshAB : freshM [msgA, msgB] = [msgA] := rfl
theorem bestAB : bestOf [msgA, msgB] = msgB := by
  have : orderI msgB msgA < 0 := by decide
  show (if orderI msgB msgA < 0 then msgB else msgA) = msgB
  rw [if_pos this]
theorem keepBA : keepM [msgB] msgA = [msgA, msgB] := rfl
theorem ascB : Asc ([msgB].filter (notFrom msgA.from_)) := by
  intro i j a b hij ha hb
  have h1 : ([msgB].filter (notFrom msgA.from_)).length = 1 := rfl
  have := (List.getElem?_eq_some_iff.1 hb).1
  omega
/-- the two messages' variables -/
structure FirstAt (w0 : World) (gv g1 g2 : Nat) (w : World) : Prop where
  b1 : w.heap[g1]? = some (.cells (csA gv).toArray 40 (0, 0))
  b2 : w.heap[g2]? = some (.cells csB.toArray 40 (0, 0))
  bv : w.heap[gv]? = some (.cells #[.int .i64 1, .int .i64 0, .int .i64 3] 3 (0, 0))
  mod : Mod (fun _ => False) w0 w
theorem FirstAt.move {w0 : World} {gv g1 g2 : Nat} {w w' : World} (h : FirstAt w0 gv g1 g2 w) (hm : Mod (fun _ => False) w w') : FirstAt w0 gv g1 g2 w' :=
  ⟨(hm.block g1 (lt_of_blk h.b1) id).trans h.b1, (hm.block g2 (lt_of_blk h.b2) id).trans h.b2, (hm.block gv (lt_of_blk h.bv) id).trans h.bv, h.mod.trans hm (fun _ h => h.elim)⟩
theorem FirstAt.two {w0 : World} {gv g1 g2 : Nat} {w : World} (h : FirstAt w0 gv g1 g2 w) : FirstAt w0 gv g1 g2 (w.alloc (.cells (csA gv ++ csB).toArray 40)) ∧ msgsR.rel (w.alloc (.cells (csA gv ++ csB).toArray 40)) (fun k => k = gv ∨ k = w.heap.size) [.slice (some ⟨w.heap.size, 0, none⟩) 2 2] [msgA, msgB] := by
  have h1 := h.move ((Mod.refl (fun _ => False) w).alloc (.cells (csA gv ++ csB).toArray 40))
  exact ⟨h1, two_rel (heap_alloc_new w _) (relA h1.bv) (relB _ _)⟩
theorem own_first {α : Type} {R : Rd α} {e : TypeId} {w : World} {base : Nat} {S : Nat → Prop} {A : Option Addr} {n c : Nat} {x : α} {l : List α} (h : OwnR R e w base S (.slice A n c) (x :: l)) : ∃ g cs, A = some ⟨g, 0, none⟩ ∧ R.rel w (fun k => S k ∧ k ≠ g) cs x ∧ ∀ i u, cs[i]? = some u → w.cell? ⟨g, i, none⟩ = some u := by
  obtain ⟨g, cur, rfl, hn, -, hg, hnc, -, hcur, hrel, -⟩ := own_blk h (by simp)
  have h0 := hrel 0 x rfl
  refine ⟨g, _, rfl, h0, fun i u hu => ?_⟩
  rw [cell_of_blk hg]
  have hi := (List.getElem?_eq_some_iff.1 hu).1
  rw [R.len h0] at hi
  rw [List.getElem?_take_of_lt hi, Nat.zero_mul, List.drop_zero, List.getElem?_take] at hu
  split at hu
  · simpa using hu
  · cases hu
theorem lit1_rel {w : World} {g : Nat} {a : Int} {e : TypeId} {fr : Nat × Nat} (hg : w.heap[g]? = some (.cells #[.int .i64 a] e fr)) (h : Rd.inR .i64 a) : intsR.rel w (fun k => k = g) [.slice (some ⟨g, 0, none⟩) 1 1] [a] := by
  refine ⟨_, 1, rfl, Nat.le_refl _, by decide, by simp, by simp, .inr ⟨_, rfl, rfl, fun j x hj => ?_⟩⟩
  match j, hj with
  | 0, hj =>
    cases hj
    refine ⟨_, ⟨rfl, h⟩, fun i u hu => ?_⟩
    have hi : i = 0 := by have := (List.getElem?_eq_some_iff.1 hu).1; simp at this; omega
    subst hi
    cases hu
    rw [agg_at, cell_of_blk hg]
    rfl
theorem agreed593 : agreedI [5, 3, 9] 3 = 5 := by
  have h : sortI (endsI [5, 3, 9] 3) = [3, 5, 9] := by
    refine asc_unique ?_ (by simp) (fun x => ?_)
    · have hp : (sortI (endsI [5, 3, 9] 3)).Pairwise (fun x y => decide (x ≤ y) = true) := List.pairwise_mergeSort (by intro a b c h1 h2; simp at *; omega) (by intro a b; simp; omega) _
      have hn : (sortI (endsI [5, 3, 9] 3)).Nodup := (List.mergeSort_perm _ _).nodup_iff.2 (by decide)
      exact (hp.and hn).imp (fun h => by have := h.1; simp at this; have := h.2; omega)
    · rw [sortI_mem, show endsI [5, 3, 9] 3 = [5, 3, 9] from rfl]
      simp
      omega
  show (sortI (endsI [5, 3, 9] 3)).getD 1 0 = 5
  rw [h]; rfl
theorem voted10 : votedI [1] 0 = [0, 1] := by rw [voted_same]; decide
end Go.Proofs.Ytgdadhpcooegnaa
