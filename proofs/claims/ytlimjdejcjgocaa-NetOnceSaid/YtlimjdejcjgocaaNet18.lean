/- Layer 29, the laws: NetOnce. -/
import Derived.Test.YtlimjdejcjgocaaNetO
namespace Go.Proofs.Ytlimjdejcjgocaa
open Go.RowKit
set_option linter.unusedVariables false
/-- A goal at which the walk stops. -/
structure Halt (p : Prop) : Prop where
  out : p
def zeroNop : List Value := [.int .i64 0, .int .i64 0, .int .i64 0, .slice none 0 0]
theorem Try.info_nop : (Try.prog.info? 31).map (·.size) = some 4 := by kernel_rfl
theorem Try.infoStrK : (Try.prog.info? 9).map (fun i => (i.zero, i.size, i.bytes)) = some (some (.string ⟨#[]⟩), 1, 16) := by kernel_rfl
theorem own_typed {w : World} {base n : Nat} {e : TypeId} {size : Nat} {v : Value} {cs : List Value} (h : w.ownsRow base e size v n cs) {b : Nat} (hb : v.ownBlock = some b) : ∃ cs fr, w.heap[b]? = some (.cells cs e fr) := by
  rcases h.2 with ⟨rfl, _⟩ | ⟨g, cap, cur, rfl, _, hg, _⟩
  · simp [Value.ownBlock] at hb
  · simp only [Value.ownBlock, Option.some.injEq] at hb
    subst hb
    exact ⟨_, _, hg⟩
set_option maxRecDepth 100000 in
set_option maxHeartbeats 4000000 in
theorem netOnce_mod (A : Option Addr) (c : Nat) (L : List NOp) (W : World) (hrow : nopR.RowOf W (fun k => k < W.heap.size) A L) (hlen : L.length ≤ 140737488355328) :
    Calls Try.prog 3 #[.slice A L.length c] W fun e W' => e = .returned (.bool true) ∧ Mod (fun _ => False) W W' := by
  have HR := Lib.hid hrow; clear hrow
  go_enter Try.func3, Try.ntmps3
  go_wp2_with fail
  refine (first_any W).mono ?_
  rintro e w0 ⟨rfl, hm0⟩
  have H0 := Lib.hid hm0; clear hm0
  go_wp2_with fail
  refine (new_any 256 w0 (by decide) (by decide)).mono ?_
  rintro e w1 ⟨g, rfl, h1, hg, hm1⟩
  have I1 : O1 w0 w1 g L 0 0 (.slice none 0 0) [] := ⟨⟨h1, hm1⟩, SentQ.nil _ _, rfl, World.ownsRow_nil _ _ _ _, rfl⟩
  have H1 := Lib.hid I1; clear I1 h1 hm1 hg
  go_wp2_with fail
  go_loopg [5, 6, 25] L.length (fun f s5 s6 s25 wr => ∃ (k m : Nat) (v : Value) (xs : List Pk), s5 = .int .i64 m ∧ s6 = v ∧ s25 = .int .i64 k ∧ k + f = L.length ∧ k ≤ 300 ∧ m ≤ k ∧ m ≤ 256 ∧ Hid (O1 w0 wr g L k m v xs))
  case atStart => exact ⟨0, 0, _, [], rfl, rfl, rfl, by omega, by omega, by omega, by omega, H1⟩
  case round =>
    obtain ⟨k, m, v, xs, rfl, rfl, rfl, hf, hk3, hmk, hm2, HO⟩ := hrel
    by_cases hkl : k < L.length
    · obtain ⟨o, ho⟩ : ∃ o, L[k]? = some o := ⟨_, List.getElem?_eq_getElem hkl⟩
      obtain ⟨ad, cs, rfl, hokb, hrel, hcs⟩ := Rd.RowOf.at_ HR.out ho
      obtain ⟨Ab, cb, rfl, hbr, hin1, hin2⟩ := nopR_cells hrel
      have MW : Mod (fun _ => False) W wr := H0.out.trans HO.out.ns.m (fun _ h => h.elim)
      have hc4 : ∀ j u, [Value.int .i64 o.kind, .int .i64 o.i, .int .i64 o.n, .slice Ab o.b.length cb][j]? = some u → wr.cell? ((ad.add (k * 4)).add j) = some u := fun j u hj => by
        rw [add_add]
        have := hcs j u hj
        exact cell_step this (fun _ => by rw [add_block]; exact MW.block _ hokb id)
      have hone : ∀ u ∈ [Value.int .i64 o.kind, .int .i64 o.i, .int .i64 o.n, .slice Ab o.b.length cb], u.oneCell' = true := nopR.one hrel
      have HC := Lib.hid hc4; have HO1 := Lib.hid hone; have HM := Lib.hid MW; have HB := Lib.hid (And.intro hbr hin2); have HOo := Lib.hid ho
      clear hc4 hone MW hbr hin1 hin2 hrel hcs hokb ho
      by_cases h300 : k = 300
      · have hd : decide ((300 : Int) ≤ (k : Int)) = true := by simp; omega
        clear h300
        go_wp2_with (first
          | (refine wpList_load_agg rfl 31 (.tmp 28) rfl Try.underlying31 Try.info_nop (ad.add (k * 4)) rfl [.int .i64 o.kind, .int .i64 o.i, .int .i64 o.n, .slice Ab o.b.length cb] rfl (fun j u hj => HC.out j u hj) ?_)
          | (refine wpList_alloc_agg rfl 31 rfl zeroNop.toArray (by kernel_rfl) ?_)
          | (refine wpList_store_new rfl 31 _ _ rfl 31 zeroNop.toArray [.int .i64 o.kind, .int .i64 o.i, .int .i64 o.n, .slice Ab o.b.length cb] rfl rfl Try.info_nop rfl HO1.out ?_))
        go_ret
        exact ⟨rfl, HM.out.alloc _⟩
      have hd : decide ((300 : Int) ≤ (k : Int)) = false := by simp; omega
      by_cases hb3 : 300 < o.b.length
      · have hd2 : decide ((300 : Int) < (o.b.length : Int)) = true := by simp; omega
        go_wp2_with (first
          | (refine wpList_load_agg rfl 31 (.tmp 28) rfl Try.underlying31 Try.info_nop (ad.add (k * 4)) rfl [.int .i64 o.kind, .int .i64 o.i, .int .i64 o.n, .slice Ab o.b.length cb] rfl (fun j u hj => HC.out j u hj) ?_)
          | (refine wpList_alloc_agg rfl 31 rfl zeroNop.toArray (by kernel_rfl) ?_)
          | (refine wpList_store_new rfl 31 _ _ rfl 31 zeroNop.toArray [.int .i64 o.kind, .int .i64 o.i, .int .i64 o.n, .slice Ab o.b.length cb] rfl rfl Try.info_nop rfl HO1.out ?_))
        go_ret
        exact ⟨rfl, HM.out.alloc _⟩
      have hd2 : decide ((300 : Int) < (o.b.length : Int)) = false := by simp; omega
      obtain ⟨w2, hw2⟩ : ∃ w2, w2 = wr.alloc (.cells #[.int .i64 o.kind, .int .i64 o.i, .int .i64 o.n, .slice Ab o.b.length cb] 31) := ⟨_, rfl⟩
      obtain ⟨go, hgo⟩ : ∃ go, go = wr.heap.size := ⟨_, rfl⟩
      have m2 : Mod (fun _ => False) wr w2 := by rw [hw2]; exact (Mod.refl _ _).alloc _
      have b2 : w2.heap[go]? = some (.cells #[.int .i64 o.kind, .int .i64 o.i, .int .i64 o.n, .slice Ab o.b.length cb] 31 (0, 0)) := by rw [hw2, hgo]; exact heap_alloc_new wr _
      have ns2 := HO.out.ns.quiet m2
      have br2 : bytesR.rel w2 (fun k => k < W.heap.size) [.slice Ab o.b.length cb] o.b := Rd.mod HB.out.1 (HM.out.trans m2 (fun _ h => h.elim)) (fun _ _ => id)
      have H2 := Lib.hid (And.intro m2 (And.intro b2 (And.intro ns2 br2))); clear m2 b2 ns2 br2
      have HW2 := Lib.hid (And.intro hw2 hgo); clear hw2 hgo
      by_cases hm : m < 256
      · have HS := Lib.hid (send_ok _ g xs 256 m 0 ((k : Int) - m) o.i o.n Ab o.b.length cb o.b _ w2 H2.out.2.2.1.st (by rw [HO.out.len]; omega) (by rw [HO.out.len]; omega) (by decide) (by omega) H2.out.2.2.2 (by omega))
        go_wp2_with (first
          | (refine wpList_load_agg rfl 31 (.tmp 28) rfl Try.underlying31 Try.info_nop (ad.add (k * 4)) rfl [.int .i64 o.kind, .int .i64 o.i, .int .i64 o.n, .slice Ab o.b.length cb] rfl (fun j u hj => HC.out j u hj) ?_)
          | (refine wpList_alloc_agg rfl 31 rfl zeroNop.toArray (by kernel_rfl) ?_)
          | (refine wpList_store_new rfl 31 _ _ rfl 31 zeroNop.toArray [.int .i64 o.kind, .int .i64 o.i, .int .i64 o.n, .slice Ab o.b.length cb] rfl rfl Try.info_nop rfl HO1.out ?_))
        rw [← HW2.out.1, ← HW2.out.2]
        refine HS.out.mono ?_
        rintro e w3 ⟨rfl, p, a1, a2, a3, a4, a5, a6⟩
        have hmk2 : m = k := by have := HO.out.ms; omega
        have ns3 := H2.out.2.2.1.step a5 a6
        have b3 := (a6.keep (lt_of_blk H2.out.2.1) (H2.out.2.2.1.st.not H2.out.2.1 (by decide) (by decide))).1.trans H2.out.2.1
        have q3 : SentQ w3 L (pushL ltK xs p) (m + 1) := SentQ.send (HO.out.q.move (fun _ _ h => own_quiet h H2.out.1)) (fun _ _ h => own_net H2.out.2.2.1.st h a6) (by rw [hmk2]; exact HOo.out) a1 a3 (own_weakK a4 (Nat.zero_le _))
        have r3 := own_strs_net H2.out.2.2.1.st (own_quiet HO.out.row H2.out.1) a6
        obtain ⟨Av, cv, rfl⟩ := own_slice r3
        have c3 : w3.cell? ⟨go, 3, none⟩ = some (.slice Ab o.b.length cb) := by rw [cell_of_blk b3]; rfl
        have v3 : (convert 29 9 (.slice Ab o.b.length cb)).run Try.prog w3 = .ok (.string (mkStr o.b)) w3 := run_str (Rd.mod HB.out.1 (H0.out.trans ns3.m (fun _ h => h.elim)) (fun _ _ => id)) 29 9 5 Try.underlying29 Try.underlying5 Try.underlying9
        have hml : m ≤ L.length := by omega
        have H3 := Lib.hid (And.intro ns3 (And.intro q3 (And.intro r3 (And.intro hmk2 (strs_length hml))))); clear ns3 b3 q3 r3 a1 a2 a3 a4 a5 a6 hmk2 HS
        obtain ⟨st, hst⟩ : ∃ st, st = mkStr o.b := ⟨_, rfl⟩
        rw [← hst] at v3
        have HST := Lib.hid hst; clear hst
        go_wp2_with (at_builtin; refine append_one w0.heap.size rfl _ _ 28 9 (.string ⟨#[]⟩) 16 rfl Try.underlying28 Try.infoStrK rfl (by decide) (.slice Av m cv) (strs L m) (.string st) rfl rfl rfl (by rw [H3.out.2.2.2.2]; exact H3.out.2.2.1) H3.out.1.m.size (by rw [H3.out.2.2.2.2]; omega) ?_)
        intro A5 c5 w5 hr5 hg5 hn5
        have hlen5 : (strs L m).length + 1 = m + 1 := by rw [H3.out.2.2.2.2]
        have hsn : strs L m ++ [.string st] = strs L (m + 1) := by rw [strs_snoc (o := o) (by rw [H3.out.2.2.2.1]; exact HOo.out), HST.out]
        have hlm := H3.out.2.2.2.2
        have hr5' : w5.ownsRow w0.heap.size 9 1 (.slice A5 (m + 1) c5) (m + 1) (strs L (m + 1)) := by
          have h := hr5
          rw [hsn, hlm] at h
          exact h
        have m5 : Mod (fun b => (Value.slice Av m cv).ownBlock = some b) w3 w5 := (Mod.refl (fun b => (Value.slice Av m cv).ownBlock = some b) w3).grown hg5 (fun b hb => .inl hb.symm)
        have hstr : ∀ b, (Value.slice Av m cv).ownBlock = some b → ∃ cs fr, w3.heap[b]? = some (.cells cs 9 fr) := fun b hb => own_typed H3.out.2.2.1 hb
        have ns5 : NS w0 w5 g (pushL ltK xs p) 256 ((m : Int) + 1) 0 ((k : Int) - m) := ⟨H3.out.1.st.move m5 (fun b hb => by
            obtain ⟨cs, fr, h⟩ := hstr b hb
            exact H3.out.1.st.not h (by decide) (by decide)), H3.out.1.m.trans m5 (fun b hb => .inr (H3.out.2.2.1.lt b hb).1)⟩
        have q5 : SentQ w5 L (pushL ltK xs p) (m + 1) := H3.out.2.1.move (fun v bs h => own_move h (fun b hb => m5.block b (h.lt b hb).2 (fun e => by
          obtain ⟨cs, fr, h1⟩ := hstr b e
          obtain ⟨cs2, fr2, h2⟩ := own_typed h hb
          rw [h1] at h2
          simp at h2)))
        have O5 : O1 w0 w5 g L (k + 1) (m + 1) (.slice A5 (m + 1) c5) (pushL ltK xs p) := by
          refine ⟨?_, q5, by rw [pushL, upL_length]; simp [HO.out.len], hr5', by have := HO.out.ms; omega⟩
          have e1 : (((m + 1 : Nat)) : Int) = (m : Int) + 1 := by push_cast; rfl
          have e2 : (((k + 1 : Nat)) : Int) - ((m : Int) + 1) = (k : Int) - m := by push_cast; omega
          rw [e1, e2]; exact ns5
        have H5 := Lib.hid O5; clear O5 q5 ns5 hstr m5 hr5' hsn hr5 hg5 hn5 c3 v3 hlm
        rw [hlen5]
        clear hlen5
        go_wp2_with fail
        go_roundg (gk - 1)
        case measure => omega
        case rel => exact ⟨k + 1, m + 1, _, _, by go_num, rfl, by go_num, by omega, by omega, by omega, by omega, H5⟩
      · obtain ⟨Av, cv, hvv⟩ := own_slice HO.out.row
        subst hvv
        have HS := Lib.hid (send_full _ g xs 256 m 0 ((k : Int) - m) o.i o.n (.slice Ab o.b.length cb) w2 H2.out.2.2.1.st (by rw [HO.out.len]; omega) (by rw [HO.out.len]; omega) (by omega))
        go_wp2_with (first
          | (refine wpList_load_agg rfl 31 (.tmp 28) rfl Try.underlying31 Try.info_nop (ad.add (k * 4)) rfl [.int .i64 o.kind, .int .i64 o.i, .int .i64 o.n, .slice Ab o.b.length cb] rfl (fun j u hj => HC.out j u hj) ?_)
          | (refine wpList_alloc_agg rfl 31 rfl zeroNop.toArray (by kernel_rfl) ?_)
          | (refine wpList_store_new rfl 31 _ _ rfl 31 zeroNop.toArray [.int .i64 o.kind, .int .i64 o.i, .int .i64 o.n, .slice Ab o.b.length cb] rfl rfl Try.info_nop rfl HO1.out ?_))
        rw [← HW2.out.1, ← HW2.out.2]
        refine HS.out.mono ?_
        rintro e w3 ⟨rfl, a5, a6⟩
        have O5 : O1 w0 w3 g L (k + 1) m (.slice Av m cv) xs := by
          refine ⟨?_, (HO.out.q.move (fun _ _ h => own_quiet h H2.out.1)).move (fun _ _ h => own_net H2.out.2.2.1.st h a6), HO.out.len, own_strs_net H2.out.2.2.1.st (own_quiet HO.out.row H2.out.1) a6, by have := HO.out.ms; omega⟩
          have e2 : (((k + 1 : Nat)) : Int) - (m : Int) = (k : Int) - m + 1 := by push_cast; omega
          rw [e2]; exact H2.out.2.2.1.step a5 a6
        have H5 := Lib.hid O5; clear O5 a5 a6 HS
        go_wp2_with fail
        go_roundg (gk - 1)
        case measure => omega
        case rel => exact ⟨k + 1, m, _, _, rfl, rfl, by go_num, by omega, by omega, by omega, by omega, H5⟩
    · obtain rfl : k = L.length := by omega
      obtain ⟨Av, cv, hvv⟩ := own_slice HO.out.row
      subst hvv
      have hmm := run_makeMap (P := Try.prog) 33 wr
      go_wp2_with fail
      clear hmm
      obtain ⟨W4, hW4⟩ : ∃ W4, W4 = wr.alloc (.map #[] 0) := ⟨_, rfl⟩
      obtain ⟨mb, hmb⟩ : ∃ mb, mb = wr.heap.size := ⟨_, rfl⟩
      have st2 := O2.start HO.out hW4
      rw [← hmb] at st2
      rw [← hW4, ← hmb]
      have HT := Lib.hid st2
      have hxl := HO.out.len
      clear st2 hW4 hmb
      go_loopg [10, 57] m (fun f s10 s57 w => ∃ (i : Nat) (ys : List Pk) (due : Int) (vs : List (Int × Value)), s10 = .int .i64 due ∧ s57 = .int .i64 i ∧ i + f = m ∧ ys.length = f ∧ 0 ≤ due ∧ due ≤ 1000 ∧ Hid (O2 w0 w g mb L m (.slice Av m cv) ys due ((L.length : Int) - m) vs))
      case atStart => exact ⟨0, xs, 0, [], rfl, rfl, by omega, hxl, by omega, by omega, HT⟩
      case round =>
        obtain ⟨i, ys, due, vs, rfl, rfl, hi, hy, hd0, hd1, HP⟩ := hrel
        clear HT HO
        by_cases him : i < m
        · obtain ⟨x, hx⟩ : ∃ x, ys[0]? = some x := ⟨_, List.getElem?_eq_getElem (by omega)⟩
          have HXX := Lib.hid hx; clear hx
          go_wp2_with fail
          refine (pop_any _ g ys x 256 m due ((L.length : Int) - m) _ HP.out.ns.st HXX.out (by omega)).mono ?_
          rintro e w2 ⟨rfl, a5, a6⟩
          obtain ⟨p2, hno, hvn, hle, j, o, hj, ho, hs, hx0, hx1, hob⟩ := HP.out.pop HXX.out a5 a6
          obtain ⟨ad0, cs0, hcs0, hokb, hrl, hcl⟩ := Rd.RowOf.at_ HR.out ho
          obtain ⟨A1, c1, hv1, hbr, hin1, hin2⟩ := nopR_cells hrl
          have hob2 : o.b.length ≤ 140737488355328 := by
            obtain ⟨_, _, _, _, q3, _⟩ := hbr
            omega
          clear hcs0 hokb hrl hcl hv1 hbr hin1 hin2
          obtain ⟨w3, hw3⟩ : ∃ w3, w3 = w2.alloc (.cells x.cells.toArray 35) := ⟨_, rfl⟩
          obtain ⟨gp, hgp⟩ : ∃ gp, gp = w2.heap.size := ⟨_, rfl⟩
          have m3 : Mod (fun _ => False) w2 w3 := by rw [hw3]; exact (Mod.refl _ _).alloc _
          have l3 : Loc g w3 gp x.cells := by rw [hw3, hgp]; exact Loc.new p2.ns.st _
          have p3 := p2.quiet m3
          have ob3 := own_quiet hob m3
          obtain ⟨st, hst⟩ : ∃ st, st = mkStr o.b := ⟨_, rfl⟩
          obtain ⟨gs, cs, hvs, hcell⟩ := own_at1K p3.row (strs_get hj ho)
          rw [← hst] at hcell
          have hAv : Av = some ⟨gs, 0, none⟩ := by
            simp only [Value.slice.injEq] at hvs
            exact hvs.1
          have k0 : w3.cell? ⟨gp, 0, none⟩ = some (.int .i64 j) := by rw [cell_of_blk l3.blk, ← hs]; rfl
          have k2 : w3.cell? ⟨gp, 2, none⟩ = some (.int .i64 x.due) := by rw [cell_of_blk l3.blk]; rfl
          have k3 : w3.cell? ⟨gp, 3, none⟩ = some (.slice x.A x.n x.c) := by rw [cell_of_blk l3.blk]; rfl
          have lk : ∀ n, (Instr.lookup 33 (.map (some mb)) (.int .i64 j) false).run Try.prog (w3.drewN n) = .ok (.bool false) (w3.drewN n) := fun n => by
            have h := (p3.map.move (w' := w3.drewN n) rfl).lookup (P := Try.prog) Try.underlying33 Try.underlying3 (zeroBK _) (j : Int) false
            rw [← hs, hvn] at h
            rw [← hs]
            exact h
          have v3 : ∀ n, (convert 29 9 (.slice x.A x.n x.c)).run Try.prog (w3.drewN n) = .ok (.string st) (w3.drewN n) := fun n => by
            rw [hst]
            exact run_str (reads_bytes (own_quiet ob3 ((Mod.refl _ _).drewN n)) hob2) 29 9 5 Try.underlying29 Try.underlying5 Try.underlying9
          have e1 : decide (x.due < due) = false := by simp; omega
          have e2 : decide ((m : Int) ≤ (j : Int)) = false := by simp; omega
          have e3 : decide ((j : Int) < 0) = false := by simp
          have H3 := Lib.hid (And.intro p3 (And.intro (fun p hp => hs ▸ hno p hp : ∀ p ∈ (popL ltK ys).take (ys.length - 1), p.seq ≠ (j : Int)) l3))
          have HW3 := Lib.hid (And.intro hw3 hgp)
          have HS := Lib.hid hs
          clear a5 a6 p2 hno hvn ho hob hob2 m3 l3 p3 ob3 hvs hst hw3 hgp hs HP HXX
          go_wp2_with (first
            | (refine wpList_alloc_agg rfl 35 rfl zeroPk.toArray (by kernel_rfl) ?_)
            | (refine wpList_store_new rfl 35 _ _ rfl 35 zeroPk.toArray x.cells rfl rfl Try.info_pk1 rfl (pk_one x) ?_; refine Halt.out ?_))
          refine Halt.mk ?_
          rw [← HW3.out.1, ← HW3.out.2]
          clear HW3
          go_wp2_with fail
          go_quiet ((go_at_call 9; refine quiet_eq (now_any _ g _ 256 m x.due _ _ (H3.out.1.ns.st.move ((Mod.refl (fun _ => False) w3).drewN _) (fun _ h => h.elim)))))
          rw [← hAv]
          have mq : Mod (fun _ => False) w3 (w3.drewN nq) := (Mod.refl _ _).drewN nq
          have Q3 := Lib.hid (H3.out.1.quiet mq)
          have LQ := Lib.hid (show (w3.drewN nq).heap[gp]? = some (.cells x.cells.toArray 35 (0, 0)) from H3.out.2.2.blk)
          clear hAv hcell lk v3 e1 e2 e3 mq
          go_wp2_with (refine wpList_update_int rfl _ _ _ 33 rfl Try.underlying33 Try.underlying3 rfl (j : Int) rfl (.bool true) rfl Q3.out.map ?_)
          intro w4 hmap4 hm4
          have hne : gp ≠ mb := fun e => by
            obtain ⟨es, clock, hb, _⟩ := Q3.out.map
            rw [← e, LQ.out] at hb
            simp at hb
          have k4 : w4.cell? ⟨gp, 2, none⟩ = some (.int .i64 x.due) := by rw [cell_of_blk ((hm4.block gp (lt_of_blk LQ.out) hne).trans LQ.out)]; rfl
          have P4 := Lib.hid (Q3.out.update H3.out.2.1 hmap4 hm4)
          clear hmap4 hm4 hne k0 k2 k3
          go_wp2_with fail
          go_roundg (gk - 1)
          case measure => omega
          case rel => exact ⟨i + 1, _, x.due, _, rfl, by go_num, by omega, by rw [List.length_take, popL_length]; omega, hx0, hx1, P4⟩
        · obtain rfl : m = i := by omega
          obtain rfl : ys = [] := List.eq_nil_of_length_eq_zero (by omega)
          go_wp2_with fail
          refine (pop_none _ g 256 _ due _ _ HP.out.ns.st).mono ?_
          rintro e w2 ⟨rfl, hm⟩
          have Q2 := HP.out.quiet hm
          obtain ⟨w3, hw3⟩ : ∃ w3, w3 = w2.alloc (.cells zeroPk.toArray 35) := ⟨_, rfl⟩
          have m3 : Mod (fun _ => False) w2 w3 := by rw [hw3]; exact (Mod.refl _ _).alloc _
          have H3 := Lib.hid (Q2.quiet m3)
          have HW3 := Lib.hid hw3
          clear hm Q2 m3 hw3 HP
          go_wp2_with (first
            | (refine wpList_alloc_agg rfl 35 rfl zeroPk.toArray (by kernel_rfl) ?_)
            | (refine wpList_store_new rfl 35 _ _ rfl 35 zeroPk.toArray zeroPk rfl rfl Try.info_pk1 rfl (pk_one ⟨0, 0, 0, none, 0, 0⟩) ?_; refine Halt.out ?_))
          refine Halt.mk ?_
          rw [← HW3.out]
          clear HW3
          go_wp2_with fail
          refine (lost_any _ g [] 256 _ due _ w3 H3.out.ns.st).mono ?_
          rintro e w4 ⟨rfl, rfl⟩
          go_wp2_with fail
          go_ret
          exact ⟨by simp, H0.out.trans H3.out.ns.m (fun _ h => h.elim)⟩
theorem netOnce_walk (A : Option Addr) (n c : Nat) (x0 : List NOp) (W : World) (h0 : (Rd.slice 48 nopR).rel W (fun k => k < W.heap.size) [.slice A n c] x0) :
    Calls Try.prog 3 #[.slice A n c] W fun e W' => e = .returned (.bool true) ∧ Below W.heap.size W W' := by
  obtain ⟨A', c', hv, h2, h3, h4, h5, h6⟩ := h0
  simp only [List.cons.injEq, Value.slice.injEq, and_true] at hv
  obtain ⟨rfl, rfl, rfl⟩ := hv
  exact (netOnce_mod A c x0 W h6 (by omega)).mono fun _ _ h => ⟨h.1, h.2.below (Nat.le_refl _) (fun _ h => h.elim)⟩
end Go.Proofs.Ytlimjdejcjgocaa
