/-
  Proved: whatever place, bytes and byte come in, lavabolaw10.ArenaBodies returns true and changes nothing that was there. No conditions beyond the given statement's.
-/
import Derived.Test.YtdilhnnbfkiacaaRows
import Derived.Test.YtdilhnnbfkiacaaAre8
import Derived.Test.YtdilhnnbfkiacaaMix1
import Derived.WalkKit
import Derived.ProofKit
import Derived.OpenShut
import Derived.ShutString
import Derived.ChangeOld
import Derived.Below
set_option maxRecDepth 100000
set_option linter.unusedSimpArgs false
namespace Lav
open Go (IntKind)
abbrev frB (n : Int) (d : Bool) (y : CV) : List Fm := [⟨1, n, 0, d, y⟩]
theorem frB_find (n m : Int) (d : Bool) (y : CV) (h : m ≠ n) : findF (frB n d y) m = -1 := by
  have hb : (n == m) = false := by simp only [beq_eq_false_iff_ne, ne_eq]; exact fun e => h e.symm
  have : List.findIdx? (fun f : Fm => f.st == 1 && f.pg == m) (frB n d y) = none := by rw [List.findIdx?_cons]; simp [hb]
  unfold findF
  rw [this]
theorem rep_setB {i n : Nat} (B : List (BitVec 8)) (h : i < n) (hB : B.length = n) (v : BitVec 8) : (List.replicate i v ++ B.drop i).set i v = List.replicate (i + 1) v ++ B.drop (i + 1) := by
  rw [List.set_append_right _ _ (by simp), List.length_replicate, Nat.sub_self, List.drop_eq_getElem_cons (by omega), List.set_cons_zero, List.replicate_succ', List.append_assoc]
  rfl

theorem strBne {a b : List Nat} : (a != b) = !(a == b) := rfl
theorem BH.rep {h : Heap} {p : Nat} {a : AP} (n : Nat) : BH h p a (List.replicate n frZ) (fun _ => []) := by
  refine ⟨fun i f hf hs => ?_, fun i j f g hf hg hs _ _ => ?_⟩
  all_goals
    have : f = frZ := List.eq_of_mem_replicate (List.mem_of_getElem? hf)
    subst this
    cases hs

theorem arenaBodies {h : Heap} {x : CV} {bs : List (BitVec 8)} (off : Int) (c : BitVec 8) (hx : Bytes h x bs) : good (evCallT table 18 200 9 4 [.c (.int .i64 off), .c x, .c (.int .u8 (c.toNat : Int))] h) = true := by
  have lx : ∀ (loc vals : List AV) (h : Heap), evPure loc (.c x :: vals) h (.len .sl (.val 0)) = some (.c (.int .i64 (bs.length : Int))) := fun _ _ _ => hx.len rfl
  obtain ⟨p, a, H0, e0, A0, x0, y0⟩ := new_ar (N := 200) (d := 4) (h := h) 1 (by omega) (by omega)
  have e0' : evCallT table 18 200 8 8 [.c (.int .i64 1)] h = some (.c (.ptr p 0), H0) := e0
  have B0 : AB H0 p a [frZ] [((0 : Nat) : Int)] (fun _ => none) (fun _ => []) := ⟨A0, BH.rep 1⟩
  obtain ⟨y1, M1, C1, H1, e1, B1, x1, n1, hC1⟩ := B0.take (N := 200) (d := 3) 3 (by omega)
  have hf1 : findF [frZ] 3 = -1 := rfl
  rw [if_neg (by rw [hf1]; simp)] at hC1
  have et : takeF [frZ] [((0 : Nat) : Int)] 3 y1 = (0, frB 3 false y1, []) := rfl
  rw [et] at e1 B1 n1
  have e1' : evCallT table 18 200 8 11 [.c (.ptr p 0), .c (.int .i64 3)] H0 = some (.c (.int .i64 0), H1) := e1
  have hC10 : C1 0 = List.replicate 16 0#8 := by rw [hC1]; rfl
  by_cases hl : bs.length > 16
  · have v1 : decide ((bs.length : Int) > 16) = true := decide_eq_true (by omega)
    rw [evCallT_eq (F := ir4) rfl rfl rfl]
    unfold ir4
    rw [bodyK_eq]
    simp only [enter_eq, ev_seq, seqK_norm, seqK_exit, seqK_ret, ev_reg, ev_cond, condK_true, condK_false, ev_block, blockK_norm, blockK_ret, blockK_exit, ev_loop, ev_skip, ev_exit, ev_ret, regK_cons, regK_nil, guard_none, guard_some, regG_true, regG_false, regO_some, op_mov, op_conv, op_bin, op_bsl, op_box, op_mks, op_s2b, op_pick, op_un, op_eq, op_len, op_ext, op_load, op_iaddr, op_slice, op_b2s, op_idxS, op_mx, op_mn, op_call, op_store, op_app, op_copy, args_eq, result_one', rv_loc, finish_norm, finish_ret, outK_some, keep_true, keep_false, keep_nil, p_bin, p_pick, p_un, p_eq, p_conv, evNew, pureK_some, newK_some, X.eval, set_none, set_some, List.map_cons, List.map_nil, List.getD_cons_zero, List.getD_cons_succ, List.getD_nil, List.set_cons_zero, List.set_cons_succ, binCV, unCV, isShift, intArithF_eq, shiftF_eq, wrapF_eq, intArith, shift, eqVal, bound, asNat_cast, cond_true, cond_false, BEq.rfl, beq_self_eq_true, evalParts, fillParts, AV.cells, AV.ofCells, XV.av, AV.xv, List.length_cons, List.length_nil, zeros, patch, setMany, List.nil_append, List.cons_append, Nat.ble, Nat.add_eq, Nat.zero_add, Nat.add_zero, Nat.reduceAdd, Nat.reduceMul, Nat.reduceSub, Nat.ble_eq, Nat.reduceLeDiff, Nat.reduceBEq, Int.reduceBEq, Int.reduceNeg, Bool.and_true, Bool.and_false, Bool.true_and, Bool.false_and, Bool.not_true, Bool.not_false, Bool.true_eq_false, Bool.false_eq_true, Int.reduceLT, Int.reduceLE, Int.reduceGT, Int.reduceGE, decide_true, decide_false, Bool.not_eq_true, loopN_norm, loopN_exit, tf, ft, ff, e0', e1', lx, v1, bneI, evCallT_told]
    rfl
  have v1 : decide ((bs.length : Int) > 16) = false := decide_eq_false (by omega)
  obtain ⟨k, hk, ek⟩ : ∃ k : Nat, k < 17 - bs.length ∧ IntKind.i64.wrap (Int.tmod (IntKind.u64.wrap off) ((17 - bs.length : Nat) : Int)) = k := few (by omega) (by omega)
  have w1 : IntKind.i64.wrap (16 - (bs.length : Int)) = 16 - (bs.length : Int) := wrapI (by omega) (by omega)
  have w2 : IntKind.i64.wrap (16 - (bs.length : Int) + 1) = ((17 - bs.length : Nat) : Int) := by rw [wrapI (by omega) (by omega)]; omega
  have w3 : IntKind.u64.wrap ((17 - bs.length : Nat) : Int) = ((17 - bs.length : Nat) : Int) := wrapUNat (by omega)
  have w4 : (((17 - bs.length : Nat) : Int) == 0) = false := by simp only [beq_eq_false_iff_ne, ne_eq]; omega
  obtain ⟨G1, hG1⟩ : ∃ H, H = H1.new (.cells (u8s [c])) := ⟨_, rfl⟩
  have xg1 : Ext H1 G1 := by rw [hG1]; exact (Ext.refl _).new _
  have B1' := B1.ext' xg1
  have hc : Bytes G1 (.sl H1.next 0 1 (.ex 1)) [c] := bytes_at (o := 0) (bs := [c]) (by rw [hG1]; exact Nat.lt_succ_self _) (by rw [hG1]; exact get_new_at) rfl
  obtain ⟨H2, e2, B2, x2, n2⟩ := B1'.set (N := 200) (d := 6) 0 0 hc
  have es : setF (frB 3 false y1) C1 0 0 [c] = (0, frB 3 true y1, fun j => if j = 0 then overB (C1 0) [c] 0 else C1 j) := by
    unfold setF
    rw [show usedF (frB 3 false y1) 0 = some (0, ⟨1, 3, 0, false, y1⟩) from rfl]
    simp only [List.length_singleton]
    rw [if_neg (by omega)]; rfl
  rw [es] at e2 B2 n2
  have e2' : evCallT table 18 200 8 19 [.c (.ptr p 0), .c (.int .i64 0), .c (.int .i64 0), .c (.sl H1.next 0 1 (.ex 1))] G1 = some (.c (.int .i64 0), H2) := e2
  have xx2 : Ext h H2 := by
    have q1 := x0.own x1 (fun k hk => by
      rcases List.mem_append.1 hk with hk | hk
      · exact y0 k hk
      · obtain ⟨i, f, hf, hs, _⟩ := mem_bods.1 hk
        have : f = frZ := List.eq_of_mem_replicate (n := 1) (List.mem_of_getElem? hf)
        subst this
        cases hs)
    have young1 : ∀ k ∈ all p a (frB 3 false y1), h.next ≤ k := fun k hk => by
      rcases n1 k hk with h1 | h1
      · rcases List.mem_append.1 h1 with hk | hk
        · exact y0 k hk
        · obtain ⟨i, f, hf, hs, _⟩ := mem_bods.1 hk
          have : f = frZ := List.eq_of_mem_replicate (n := 1) (List.mem_of_getElem? hf)
          subst this
          cases hs
      · have := x0.1; omega
    exact (q1.trans xg1).own x2 young1
  have hx2 : Bytes H2 x bs := hx.ext xx2
  obtain ⟨H3, e3, B3, x3, n3⟩ := B2.set (N := 200) (d := 6) 0 (k : Int) hx2
  have es3 : setF (frB 3 true y1) (fun j => if j = 0 then overB (C1 0) [c] 0 else C1 j) 0 (k : Int) bs = (0, frB 3 true y1, fun j => if j = 0 then overB (overB (C1 0) [c] 0) bs k else (if j = 0 then overB (C1 0) [c] 0 else C1 j)) := by
    unfold setF
    rw [show usedF (frB 3 true y1) 0 = some (0, ⟨1, 3, 0, true, y1⟩) from rfl]
    simp only [Int.toNat_natCast]
    rw [if_neg (by omega)]; rfl
  rw [es3] at e3 B3 n3
  have e3' : evCallT table 18 200 8 19 [.c (.ptr p 0), .c (.int .i64 0), .c (.int .i64 (k : Int)), .c x] H2 = some (.c (.int .i64 0), H3) := e3
  obtain ⟨W, hW⟩ : ∃ W, W = overB (overB (C1 0) [c] 0) bs k := ⟨_, rfl⟩
  have hW16 : W.length = 16 := by
    have h1 : (overB (C1 0) [c] 0).length = 16 := by rw [overB_len (by rw [hC10]; simp), hC10]; simp
    rw [hW, overB_len (by rw [h1]; omega), h1]
  obtain ⟨G3, hG3⟩ : ∃ H, H = H3.new (.cells (zeros 16 [.int .u8 0])) := ⟨_, rfl⟩
  have xg3 : Ext H3 G3 := by rw [hG3]; exact (Ext.refl _).new _
  have zz : zeros 16 [CV.int .u8 0] = [.int .u8 0, .int .u8 0, .int .u8 0, .int .u8 0, .int .u8 0, .int .u8 0, .int .u8 0, .int .u8 0, .int .u8 0, .int .u8 0, .int .u8 0, .int .u8 0, .int .u8 0, .int .u8 0, .int .u8 0, .int .u8 0] := rfl
  have hG3' := hG3
  have hG1' : G1 = H1.new (.cells [.int .u8 (c.toNat : Int)]) := hG1
  rw [zz] at hG3'
  obtain ⟨G4, hG4⟩ : ∃ H, H = G3.put H3.next (.cells (u8s (overB (C1 0) [c] 0))) := ⟨_, rfl⟩
  have wr : G3.write H3.next 0 [.int .u8 (c.toNat : Int)] = some G4 := by
    have hgz : G3.get H3.next = some (.cells (zeros 16 [.int .u8 0])) := by rw [hG3]; exact get_new_at
    have := write_one (o := 0) (v := .int .u8 (c.toNat : Int)) hgz (by rw [zz]; simp)
    rw [this, hG4]
    congr 4
    rw [hC10]; rfl
  have xg4 : Ext H3 G4 := by rw [hG4]; exact xg3.put (Nat.le_refl _) _
  have hx4 : Bytes G4 x bs := by
    have young2 : ∀ k ∈ all p a (frB 3 true y1), k ∉ [] → True := fun _ _ _ => trivial
    have q : Ext h H3 := by
      have young1 : ∀ k ∈ all p a (frB 3 true y1), h.next ≤ k := fun k hk => by
        rcases n2 k hk with h1 | h1
        · rcases n1 k h1 with h1 | h1
          · rcases List.mem_append.1 h1 with hk | hk
            · exact y0 k hk
            · obtain ⟨i, f, hf, hs, _⟩ := mem_bods.1 hk
              have : f = frZ := List.eq_of_mem_replicate (n := 1) (List.mem_of_getElem? hf)
              subst this
              cases hs
          · have := x0.1; omega
        · have := x0.1; have := x1.1; have := xg1.1; omega
      exact xx2.own x3 young1
    exact hx.ext (q.trans xg4)
  have hgw : G4.get H3.next = some (.cells (u8s (overB (C1 0) [c] 0))) := by rw [hG4]; exact get_put_at
  have ecp := copy_over (h := G4) (b := H3.next) (off := k) (n := 16 - k) (c := .ex (16 - k)) (y := .c x) hgw hx4.source (by omega) (by rw [overB_len (by rw [hC10]; simp), hC10]; simp; omega)
  rw [← hW] at ecp
  obtain ⟨G5, hG5⟩ : ∃ H, H = G4.put H3.next (.cells (u8s W)) := ⟨_, rfl⟩
  rw [← hG5] at ecp
  have xg5 : Ext H3 G5 := by rw [hG5]; exact xg4.put (Nat.le_refl _) _
  have n5 : G5.next = H3.next + 1 := by rw [hG5, hG4, hG3]; rfl
  have hgW : G5.get H3.next = some (.cells (u8s W)) := by rw [hG5]; exact get_put_at
  have B5 := B3.ext' xg5
  have esl : ∀ loc vals H, evPure loc (.c (.int .i64 (k : Int)) :: .c (.sl H3.next 0 16 (.ex 16)) :: vals) H (.slice 1 (.val 1) (some (.val 0)) none none) = some (.c (.sl H3.next k (16 - k) (.ex (16 - k)))) := fun loc vals H => by
    have := p_slice (loc := loc) (vals := .c (.int .i64 (k : Int)) :: .c (.sl H3.next 0 16 (.ex 16)) :: vals) (h := H) (sz := 1) (x := .val 1) (l := .val 0) (i := H3.next) (o := 0) (len := 16) (k := 16) rfl (n := k) rfl (by omega) (by omega)
    rw [Nat.zero_add, Nat.mul_one] at this
    exact this
  have bm : bodyM (frB 3 true y1) (fun j => if j = 0 then overB (overB (C1 0) [c] 0) bs k else (if j = 0 then overB (C1 0) [c] 0 else C1 j)) 0 = W := by rw [hW]; rfl
  obtain ⟨z, H6, e6, hz, x6⟩ := B5.body (N := 200) (d := 6) 0
  rw [bm] at hz
  rcases hz with ⟨_, h0⟩ | ⟨q, rfl, hq, _, hq1, hq2⟩
  · rw [h0] at hW16; simp at hW16
  have B6 := B5.ext' x6
  obtain ⟨w, H7, e7, T7, x7⟩ := frames_ok (N := 200) (d := 7) B6.ah.ar (by simp) (by omega)
  obtain ⟨fb, rfl, hfb, TT⟩ := T7.at_ (i := 0) (by simp)
  have s4 : H7.read fb 4 1 = some [.bool true] := by have := TT.d; simpa using this
  have B7 := B6.ext' x7
  have hq7 : H7.get q = some (.cells (u8s W)) := x7.at_ hq hq2
  have hW7 : H7.get H3.next = some (.cells (u8s W)) := x7.at_ (x6.at_ hgW (by omega)) (by have := x6.1; omega)
  have tq : ∀ loc vals, evPure loc (.c (.sl q 0 16 (.dy 1)) :: vals) H7 (.b2s (.val 0)) = some (.c (.str (strOf W))) := fun _ _ => b2s_at rfl (read_u8 (o := 0) hq7 (by omega))
  have tW : ∀ loc vals, evPure loc (.c (.sl H3.next 0 16 (.ex 16)) :: vals) H7 (.b2s (.val 0)) = some (.c (.str (strOf W))) := fun _ _ => b2s_at rfl (read_u8 (o := 0) hW7 (by omega))
  have lw : ∀ (loc vals : List AV) (h : Heap), evPure loc (.c (.sl fb 0 1 (.dy 5)) :: vals) h (.len .sl (.val 0)) = some (.c (.int .i64 1)) := fun _ _ _ => rfl
  have an0 : asNat (.c (.int .i64 0)) = some 0 := rfl
  have m01 : Nat.blt 0 1 = true := rfl
  have m016 : Nat.blt 0 16 = true := rfl
  have a16 : asNat (.c (.int .i64 16)) = some 16 := rfl
  have b16 : Nat.ble 16 1073741824 = true := rfl
  have b1616 : Nat.ble 16 16 = true := rfl
  have sb : (strOf W == strOf W) = true := by simp
  have L : ∀ loc, keepOnly ir4_k0 loc = [.junk, .junk, .junk, .junk, .c (.ptr p 0), .junk, .c (.sl H3.next 0 16 (.ex 16)), .c (.sl q 0 16 (.dy 1)), .junk, .c (.int .i64 0), .junk, .junk, .junk, .junk, .junk, .junk] →
      ∃ r, loopK (evCallT table 18 200 8) 200 ir4_k0 ir4_l0 200 loc H7 = some r ∧ ∃ a0 a1 a2 a3 a5 a7 l G, r = (.exit 0, a0 :: a1 :: a2 :: a3 :: .c (.ptr p 0) :: a5 :: .c (.sl H3.next 0 16 (.ex 16)) :: a7 :: l, G) ∧ l.length = 8 ∧ ExtB [q] H7 G := by
    intro loc hloc
    refine loop_inv (n := 16) (fun i loc G => i ≤ 16 ∧ G.get q = some (.cells (u8s (List.replicate i 200#8 ++ W.drop i))) ∧ ExtB [q] H7 G ∧ loc = [.junk, .junk, .junk, .junk, .c (.ptr p 0), .junk, .c (.sl H3.next 0 16 (.ex 16)), .c (.sl q 0 16 (.dy 1)), .junk, .c (.int .i64 (i : Int)), .junk, .junk, .junk, .junk, .junk, .junk]) _ ?_ ⟨Nat.zero_le _, by simpa using hq7, ExtB.refl _ _, hloc⟩ (by omega)
    rintro i loc G hi ⟨hin, hg, xg, rfl⟩
    have lq : ∀ (loc vals : List AV) (h : Heap), evPure loc (.c (.sl q 0 16 (.dy 1)) :: vals) h (.len .sl (.val 0)) = some (.c (.int .i64 16)) := fun _ _ _ => rfl
    unfold ir4_l0
    by_cases hlt : i < 16
    · left
      refine ⟨hlt, ?_⟩
      have v1 : decide ((i : Int) < 16) = true := decide_eq_true (by omega)
      have v2 := succI (i := i) (by omega)
      have m1 : Nat.blt i 16 = true := bltT hlt
      have hlen : (List.replicate i 200#8 ++ W.drop i).length = 16 := by simp; omega
      have wr := write_one (o := i) (v := .int .u8 200) hg (by rw [u8s_len, hlen]; exact hlt)
      have e200 : (u8s (List.replicate i 200#8 ++ W.drop i)).set i (.int .u8 200) = u8s (List.replicate (i + 1) 200#8 ++ W.drop (i + 1)) := by
        rw [← rep_setB W hlt hW16 200#8]
        simp [u8s, u8c, List.map_set]
      rw [e200] at wr
      simp only [enter_eq, ev_seq, seqK_norm, seqK_exit, seqK_ret, ev_reg, ev_cond, condK_true, condK_false, ev_block, blockK_norm, blockK_ret, blockK_exit, ev_loop, ev_skip, ev_exit, ev_ret, regK_cons, regK_nil, guard_none, guard_some, regG_true, regG_false, regO_some, op_mov, op_conv, op_bin, op_bsl, op_box, op_mks, op_s2b, op_pick, op_un, op_eq, op_len, op_ext, op_load, op_iaddr, op_slice, op_b2s, op_idxS, op_mx, op_mn, op_call, op_store, op_app, op_copy, args_eq, result_one', rv_loc, finish_norm, finish_ret, outK_some, keep_true, keep_false, keep_nil, p_bin, p_pick, p_un, p_eq, p_conv, evNew, pureK_some, newK_some, X.eval, set_none, set_some, List.map_cons, List.map_nil, List.getD_cons_zero, List.getD_cons_succ, List.getD_nil, List.set_cons_zero, List.set_cons_succ, binCV, unCV, isShift, intArithF_eq, shiftF_eq, wrapF_eq, intArith, shift, eqVal, bound, asNat_cast, cond_true, cond_false, BEq.rfl, beq_self_eq_true, evalParts, fillParts, AV.cells, AV.ofCells, XV.av, AV.xv, List.length_cons, List.length_nil, zeros, patch, setMany, List.nil_append, List.cons_append, Nat.ble, Nat.add_eq, Nat.zero_add, Nat.add_zero, Nat.reduceAdd, Nat.reduceMul, Nat.reduceSub, Nat.ble_eq, Nat.reduceLeDiff, Nat.reduceBEq, Int.reduceBEq, Int.reduceNeg, Bool.and_true, Bool.and_false, Bool.true_and, Bool.false_and, Bool.not_true, Bool.not_false, Bool.true_eq_false, Bool.false_eq_true, Int.reduceLT, Int.reduceLE, Int.reduceGT, Int.reduceGE, decide_true, decide_false, Bool.not_eq_true, loopN_norm, loopN_exit, tf, ft, ff, lq, v1, v2, p_iaddr, m1, evEff, Nat.mul_one, wr]
      exact ⟨_, _, rfl, by omega, get_put_at, xg.put (.inr (by simp)) _, rfl⟩
    · right
      have hin' : i = 16 := by omega
      subst hin'
      have v1 : decide (((16 : Nat) : Int) < 16) = false := decide_eq_false (by omega)
      simp only [enter_eq, ev_seq, seqK_norm, seqK_exit, seqK_ret, ev_reg, ev_cond, condK_true, condK_false, ev_block, blockK_norm, blockK_ret, blockK_exit, ev_loop, ev_skip, ev_exit, ev_ret, regK_cons, regK_nil, guard_none, guard_some, regG_true, regG_false, regO_some, op_mov, op_conv, op_bin, op_bsl, op_box, op_mks, op_s2b, op_pick, op_un, op_eq, op_len, op_ext, op_load, op_iaddr, op_slice, op_b2s, op_idxS, op_mx, op_mn, op_call, op_store, op_app, op_copy, args_eq, result_one', rv_loc, finish_norm, finish_ret, outK_some, keep_true, keep_false, keep_nil, p_bin, p_pick, p_un, p_eq, p_conv, evNew, pureK_some, newK_some, X.eval, set_none, set_some, List.map_cons, List.map_nil, List.getD_cons_zero, List.getD_cons_succ, List.getD_nil, List.set_cons_zero, List.set_cons_succ, binCV, unCV, isShift, intArithF_eq, shiftF_eq, wrapF_eq, intArith, shift, eqVal, bound, asNat_cast, cond_true, cond_false, BEq.rfl, beq_self_eq_true, evalParts, fillParts, AV.cells, AV.ofCells, XV.av, AV.xv, List.length_cons, List.length_nil, zeros, patch, setMany, List.nil_append, List.cons_append, Nat.ble, Nat.add_eq, Nat.zero_add, Nat.add_zero, Nat.reduceAdd, Nat.reduceMul, Nat.reduceSub, Nat.ble_eq, Nat.reduceLeDiff, Nat.reduceBEq, Int.reduceBEq, Int.reduceNeg, Bool.and_true, Bool.and_false, Bool.true_and, Bool.false_and, Bool.not_true, Bool.not_false, Bool.true_eq_false, Bool.false_eq_true, Int.reduceLT, Int.reduceLE, Int.reduceGT, Int.reduceGE, decide_true, decide_false, Bool.not_eq_true, loopN_norm, loopN_exit, tf, ft, ff, lq, v1]
      exact ⟨_, rfl, by simp, _, _, _, _, _, _, _, G, rfl, rfl, xg⟩
  obtain ⟨r, ⟨c0, c1, c2, c3, c5, c7, l, G8, rfl, hll, x8⟩, hr⟩ := loop_any L rfl
  obtain ⟨l0, l1, l2, l3, l4, l5, l6, l7, rfl⟩ : ∃ a b c d e f g i, l = [a, b, c, d, e, f, g, i] := by
    match l, hll with
    | [a, b, c, d, e, f, g, i], _ => exact ⟨a, b, c, d, e, f, g, i, rfl⟩
  have q5 : ∀ k ∈ all p a (frB 3 true y1), k < q := fun k hk => by have := B5.old k hk; omega
  have B8 := B7.ext x8 (fun k hk hm => by simp at hm; have := q5 k hk; omega)
  have hW8 : G8.get H3.next = some (.cells (u8s W)) := x8.at_ hW7 (by have := x6.1; have := x7.1; omega) (by simp; omega)
  obtain ⟨z2, H9, e9, hz9, x9⟩ := B8.body (N := 200) (d := 6) 0
  rw [bm] at hz9
  rcases hz9 with ⟨_, h0⟩ | ⟨q2, rfl, hq9, _, hq3, hq4⟩
  · rw [h0] at hW16; simp at hW16
  have hn8 : H3.next < G8.next := by have := x6.1; have := x7.1; have := x8.1; omega
  have hW9 : H9.get H3.next = some (.cells (u8s W)) := x9.at_ hW8 hn8
  have B9 := B8.ext' x9
  obtain ⟨M10, H10, e10, B10, x10, n10⟩ := B9.drop (N := 200) (d := 4) 0 (by omega)
  have ed : dropF (frB 3 true y1) [] 0 = (0, [frZ], [0]) := rfl
  rw [ed] at e10 B10 n10
  have e10' : evCallT table 18 200 8 14 [.c (.ptr p 0), .c (.int .i64 0)] H9 = some (.c (.int .i64 0), H10) := e10
  obtain ⟨y11, M11, C11, H11, e11, B11, x11, n11, hC11⟩ := B10.take (N := 200) (d := 3) 4 (by omega)
  have hf11 : findF [frZ] 4 = -1 := rfl
  rw [if_neg (by rw [hf11]; simp)] at hC11
  have et11 : takeF [frZ] [(0 : Int)] 4 y11 = (0, frB 4 false y11, []) := rfl
  rw [et11] at e11 B11 n11
  have e11' : evCallT table 18 200 8 11 [.c (.ptr p 0), .c (.int .i64 4)] H10 = some (.c (.int .i64 0), H11) := e11
  have t9 : ∀ loc vals, evPure loc (.c (.sl q2 0 16 (.dy 1)) :: vals) H9 (.b2s (.val 0)) = some (.c (.str (strOf W))) := fun _ _ => b2s_at rfl (read_u8 (o := 0) hq9 (by omega))
  have tW9 : ∀ loc vals, evPure loc (.c (.sl H3.next 0 16 (.ex 16)) :: vals) H9 (.b2s (.val 0)) = some (.c (.str (strOf W))) := fun _ _ => b2s_at rfl (read_u8 (o := 0) hW9 (by omega))
  have tW8 : ∀ loc vals, evPure loc (.c (.sl H3.next 0 16 (.ex 16)) :: vals) G8 (.b2s (.val 0)) = some (.c (.str (strOf W))) := fun _ _ => b2s_at rfl (read_u8 (o := 0) hW8 (by omega))
  obtain ⟨w12, H12, e12, T12, x12⟩ := frames_ok (N := 200) (d := 7) B11.ah.ar (by simp) (by omega)
  obtain ⟨fb2, rfl, hfb2, TT2⟩ := T12.at_ (i := 0) (by simp)
  have s42 : H12.read fb2 4 1 = some [.bool false] := by have := TT2.d; simpa using this
  have B12 := B11.ext' x12
  have xs : Ext H12 (H12.skip 1) := (Ext.refl _).skip 1
  obtain ⟨z3, H13, e13, hz13, x13⟩ := (B12.ext' xs).body (N := 200) (d := 6) 0
  have bm13 : bodyM (frB 4 false y11) C11 0 = List.replicate 16 0#8 := by rw [hC11]; rfl
  rw [bm13] at hz13
  rcases hz13 with ⟨_, h0⟩ | ⟨q3, rfl, hq13, _, hq5, hq6⟩
  · simp at h0
  have sz : (strOf (List.replicate 16 0#8) == strOf (List.replicate 16 0#8)) = true := by simp
  have t13 : ∀ loc vals, evPure loc (.c (.sl q3 0 16 (.dy 1)) :: vals) H13 (.b2s (.val 0)) = some (.c (.str (strOf (List.replicate 16 0#8)))) := fun _ _ => b2s_at rfl (read_u8 (o := 0) hq13 (by simp))
  have tz : ∀ (H : Heap) loc vals, evPure loc (.c (.sl H12.next 0 16 (.ex 16)) :: vals) (H.put H12.next (.cells (u8s (List.replicate 16 0#8)))) (.b2s (.val 0)) = some (.c (.str (strOf (List.replicate 16 0#8)))) := fun _ _ _ => b2s_at rfl (read_u8 (o := 0) get_put_at (by simp))
  have z16 : [CV.int .u8 0, .int .u8 0, .int .u8 0, .int .u8 0, .int .u8 0, .int .u8 0, .int .u8 0, .int .u8 0, .int .u8 0, .int .u8 0, .int .u8 0, .int .u8 0, .int .u8 0, .int .u8 0, .int .u8 0, .int .u8 0] = u8s (List.replicate 16 0#8) := rfl
  have s43 : (H13.put H12.next (.cells (u8s (List.replicate 16 0#8)))).read fb2 4 1 = some [.bool false] := (((xs.trans x13).put (Nat.le_refl _) _).read hfb2).trans s42
  have lw2 : ∀ (loc vals : List AV) (h : Heap), evPure loc (.c (.sl fb2 0 1 (.dy 5)) :: vals) h (.len .sl (.val 0)) = some (.c (.int .i64 1)) := fun _ _ _ => rfl
  rw [evCallT_eq (F := ir4) rfl rfl rfl]
  unfold ir4
  rw [bodyK_eq]
  simp only [enter_eq, ev_seq, seqK_norm, seqK_exit, seqK_ret, ev_reg, ev_cond, condK_true, condK_false, ev_block, blockK_norm, blockK_ret, blockK_exit, ev_loop, ev_skip, ev_exit, ev_ret, regK_cons, regK_nil, guard_none, guard_some, regG_true, regG_false, regO_some, op_mov, op_conv, op_bin, op_bsl, op_box, op_mks, op_s2b, op_pick, op_un, op_eq, op_len, op_ext, op_load, op_iaddr, op_slice, op_b2s, op_idxS, op_mx, op_mn, op_call, op_store, op_app, op_copy, args_eq, result_one', rv_loc, finish_norm, finish_ret, outK_some, keep_true, keep_false, keep_nil, p_bin, p_pick, p_un, p_eq, p_conv, evNew, pureK_some, newK_some, X.eval, set_none, set_some, List.map_cons, List.map_nil, List.getD_cons_zero, List.getD_cons_succ, List.getD_nil, List.set_cons_zero, List.set_cons_succ, binCV, unCV, isShift, intArithF_eq, shiftF_eq, wrapF_eq, intArith, shift, eqVal, bound, asNat_cast, cond_true, cond_false, BEq.rfl, beq_self_eq_true, evalParts, fillParts, AV.cells, AV.ofCells, XV.av, AV.xv, List.length_cons, List.length_nil, zeros, patch, setMany, List.nil_append, List.cons_append, Nat.ble, Nat.add_eq, Nat.zero_add, Nat.add_zero, Nat.reduceAdd, Nat.reduceMul, Nat.reduceSub, Nat.ble_eq, Nat.reduceLeDiff, Nat.reduceBEq, Int.reduceBEq, Int.reduceNeg, Bool.and_true, Bool.and_false, Bool.true_and, Bool.false_and, Bool.not_true, Bool.not_false, Bool.true_eq_false, Bool.false_eq_true, Int.reduceLT, Int.reduceLE, Int.reduceGT, Int.reduceGE, decide_true, decide_false, Bool.not_eq_true, loopN_norm, loopN_exit, tf, ft, ff, ev_dreg, dregK_nil, dregK_cons, dregE_true, dregP_some, dregX_some, d_mov, d_bin, d_eq, d_pick, d_un, d_conv, d_b2s, d_len, d_load, d_iaddr, d_slice, d_ext, d_call, d_store, chk_done, chk_none, chk_some, chkG_true, chkG_false, chkOne_nil, chkOne_cons, chkH_some, chkV_same, stage_none, stage_some, look_hit, look_miss, news_nil, wb_cons, wb_nil, skip0, List.reverse_cons, List.reverse_nil, e0', e1', lx, v1, bneI, eqq, w1, w2, w3, w4, ek, ← hG1', e2', e3', a16, b16, b1616, ← hG3', p_iaddr, an0, m016, Nat.mul_one, evEff, wr, esl, ecp, e6, e7, tq, tW, sb, lw, m01, op_faddr, p_faddr, p_load, AV.ofCells, s4, strBne]
  rw [hr _ rfl]
  simp only [enter_eq, ev_seq, seqK_norm, seqK_exit, seqK_ret, ev_reg, ev_cond, condK_true, condK_false, ev_block, blockK_norm, blockK_ret, blockK_exit, ev_loop, ev_skip, ev_exit, ev_ret, regK_cons, regK_nil, guard_none, guard_some, regG_true, regG_false, regO_some, op_mov, op_conv, op_bin, op_bsl, op_box, op_mks, op_s2b, op_pick, op_un, op_eq, op_len, op_ext, op_load, op_iaddr, op_slice, op_b2s, op_idxS, op_mx, op_mn, op_call, op_store, op_app, op_copy, args_eq, result_one', rv_loc, finish_norm, finish_ret, outK_some, keep_true, keep_false, keep_nil, p_bin, p_pick, p_un, p_eq, p_conv, evNew, pureK_some, newK_some, X.eval, set_none, set_some, List.map_cons, List.map_nil, List.getD_cons_zero, List.getD_cons_succ, List.getD_nil, List.set_cons_zero, List.set_cons_succ, binCV, unCV, isShift, intArithF_eq, shiftF_eq, wrapF_eq, intArith, shift, eqVal, bound, asNat_cast, cond_true, cond_false, BEq.rfl, beq_self_eq_true, evalParts, fillParts, AV.cells, AV.ofCells, XV.av, AV.xv, List.length_cons, List.length_nil, zeros, patch, setMany, List.nil_append, List.cons_append, Nat.ble, Nat.add_eq, Nat.zero_add, Nat.add_zero, Nat.reduceAdd, Nat.reduceMul, Nat.reduceSub, Nat.ble_eq, Nat.reduceLeDiff, Nat.reduceBEq, Int.reduceBEq, Int.reduceNeg, Bool.and_true, Bool.and_false, Bool.true_and, Bool.false_and, Bool.not_true, Bool.not_false, Bool.true_eq_false, Bool.false_eq_true, Int.reduceLT, Int.reduceLE, Int.reduceGT, Int.reduceGE, decide_true, decide_false, Bool.not_eq_true, loopN_norm, loopN_exit, tf, ft, ff, ev_dreg, dregK_nil, dregK_cons, dregE_true, dregP_some, dregX_some, d_mov, d_bin, d_eq, d_pick, d_un, d_conv, d_b2s, d_len, d_load, d_iaddr, d_slice, d_ext, d_call, d_store, chk_done, chk_none, chk_some, chkG_true, chkG_false, chkOne_nil, chkOne_cons, chkH_some, chkV_same, stage_none, stage_some, look_hit, look_miss, news_nil, wb_cons, wb_nil, skip0, List.reverse_cons, List.reverse_nil, blockK_exit_eq, e9, t9, tW9, tW8, sb, e10', e11', bneI, strBne, e12, evCallT_told, e13, t13, dregW_some, d_mks, a16, b1616, b16, z16, tz, sz, lw2, p_iaddr, an0, m01, op_faddr, d_faddr, p_faddr, p_load, AV.ofCells, s43, Nat.mul_one, withNews]
  rfl
end Lav

namespace Go.Proofs.Ytdilhnnbfkiacaa.arenaBodies
open Go.ChangeShapes Go.WideShapes Go.ChangeAt Go.RowKit
open Go.ChangeMaps (open_string shut_string)
set_option linter.unusedVariables false

theorem own : ownKnob Try.prog.godebug = none := by kernel_rfl
theorem laidOut : laidOutB Try.prog = true := by kernel_rfl

/-- WHAT THE WALK IS TOLD OF A SLICE OF INTEGERS THAT CAME IN: it is nil; or it leads to a row of 'cap' cells, the numbers 'zs' (the first 'len' are its elements, the rest its spare room), each fitting its kind. -/
def IsRow (k : IntKind) (w : World) (a : Option Addr) (len cap : Nat) (zs : List Int) : Prop :=
  (a = none ∧ len = 0 ∧ cap = 0 ∧ zs = []) ∨
  ∃ x, a = some x ∧ len ≤ cap ∧ cap ≤ maxLen ∧ zs.length = cap ∧ (∀ i, i < zs.length → w.cell? (x.add i) = some (.int k (zs.getD i 0))) ∧ ∀ n ∈ zs, (Lit.int k n).wf = true

/-! ### STEP 1: THE WALK: the Go text returns true, AND WRITES NOTHING THAT WAS THERE: 'Below w.heap.size w w'' (Derived/Below.lean: '.refl', '.alloc', '.drew', '.setCell' at a new block, '.trans'). Open each 'IsRow' by 'rcases' AHEAD of 'go_enter'; part every test ahead of the walk. -/
theorem walk (a0 : Int) (a1 : Option Addr) (len1 cap1 : Nat) (z1 : List Int) (a2 : Int) (w : World) (w0 : (Lit.int .i64 a0).wf = true) (w1 : IsRow .u8 w a1 len1 cap1 z1) (w2 : (Lit.int .u8 a2).wf = true) :
    Calls Try.prog 4 #[.int .i64 a0, .slice a1 len1 cap1, .int .u8 a2] w fun e w' => e = .returned (.bool true) ∧ Below w.heap.size w w' := by
  obtain ⟨ι, h, x, I, hle, hx, hr⟩ := (Lav.Init.empty w).slice w1
  obtain ⟨bs, hB, _⟩ := Lav.bytes_row (Lav.row_byte hr)
  obtain ⟨c, rfl⟩ := Lav.u8_of w2
  exact Lav.walk_of (Lav.evCallT_sound Lav.mixed Lav.table_ok Lav.tld10 200 9) I (args := [.c (.int .i64 a0), .c x, .c (.int .u8 (c.toNat : Int))]) (vs := [.int .i64 a0, .slice a1 len1 cap1, .int .u8 c.toNat]) ⟨rfl, hx, rfl, trivial⟩ (Lav.arenaBodies a0 c hB)

/-! ### THE ROW's STEP: WRITTEN OUT: LEAVE IT -/
set_option maxRecDepth 100000 in
theorem lifted (os : Os) (started : os.Started) (H : Type) (enc : TypeId × Value → H) :
    ReturnsInHanded {} Try.checked os 4 .any (Rows.arenaBodiesSpec.pre6 enc Try.prog Try.f4 Rows.arenaBodiesRow.domain false) (Rows.arenaBodiesSpec.post enc Try.prog Try.f4 false true false false) := by
  refine returnsInHanded_of_change (C := Try.checked) own started (by kernel_rfl) Try.func4
    (ChangeSpec.witness6 (enc := enc) (C := Try.checked) false ⟨#[], #[.int .i64 0, .slice none 0 0, .int .u8 0], []⟩ 8 (by kernel_rfl) (by kernel_rfl) (by kernel_rfl) (by kernel_rfl)) ?_
  intro W base args ds gs before hval0 hW hcnd _
  have hval : ∀ (j : Nat) t v, Try.f4.params[j]? = some t → args[j]? = some v → Value.okWide Try.prog W .any base t v := hval0
  have hW' := hW
  obtain ⟨p, q, hA0, hV, rfl, hfz, hnd⟩ := hW
  have hA : DataW.TrodAll enc Try.prog W 0 (fun _ => true) true Try.f4.params.toList args.toList ds p := hA0
  rw [Try.params4] at hA hval
  obtain ⟨v0, vs0, d0, ds0, p0, q0, hargs, rfl, rfl, h0, r0⟩ := trodAll_cons hA
  obtain ⟨v1, vs1, d1, ds1, p1, q1, rfl, rfl, rfl, h1, r1⟩ := trodAll_cons r0
  obtain ⟨v2, vs2, d2, ds2, p2, q2, rfl, rfl, rfl, h2, r2⟩ := trodAll_cons r1
  obtain ⟨rfl, rfl, rfl⟩ := trodAll_nil r2
  obtain rfl : args = #[v0, v1, v2] := by cases args; simp_all
  obtain ⟨rfl, rfl⟩ := trodVars_none hV
  obtain ⟨a0, rfl, rfl, rfl, w0⟩ := open_int Try.underlying3 (hval 0 3 v0 rfl rfl) h0
  obtain ⟨a1, len1, cap1, rfl⟩ := okWide_slice Try.underlying26 (hval 1 26 v1 rfl rfl)
  have k1 := h1
  have lt1 : ∀ x ∈ p1, x.block < W.heap.size := by obtain ⟨m, hm⟩ := k1; exact DataW.trod_lt m _ _ _ hm
  obtain ⟨z1, w1⟩ : ∃ zs, IsRow .u8 W a1 len1 cap1 zs := by
    obtain ⟨fuel, hf⟩ := h1
    rcases open_ints Try.underlying26 Try.underlying5 (by kernel_rfl) hf with ⟨hcs, _⟩ | ⟨x, l, c, zs, hcs, _, hl, hm, hz, _, hcell, hwz⟩
    · simp [Value.cells] at hcs
      obtain ⟨rfl, rfl, rfl⟩ := hcs
      exact ⟨[], .inl ⟨rfl, rfl, rfl, rfl⟩⟩
    · simp [Value.cells] at hcs
      obtain ⟨rfl, rfl, rfl⟩ := hcs
      exact ⟨zs, .inr ⟨_, rfl, hl, hm, by simpa using hz, hcell, hwz⟩⟩
  obtain ⟨a2, rfl, rfl, rfl, w2⟩ := open_int Try.underlying5 (hval 2 5 v2 rfl rfl) h2
  clear hA0 hval0
  refine (walk a0 a1 len1 cap1 z1 a2 W w0 w1 w2).mono fun e W' ⟨he, bel⟩ => ?_
  subst he
  exact ⟨_, rfl, _, _, _, [], _, [], hW', trodAll_mk1 (shut_bool Try.underlying4 _), (trodAll_cons_mk (shut_int Try.underlying3 w0) (trodAll_cons_mk (Below.trod laidOut (by kernel_rfl) (of_decide_eq_true (by kernel_rfl)) k1 bel lt1) (trodAll_cons_mk (shut_int Try.underlying5 w2) trodAll_mk0))), rfl, bel.frame _, fun h => by cases h⟩

theorem over : Rows.arenaBodiesRow.holds Try.pinned (OpenSpec.ofChange Rows.arenaBodiesSpec) :=
  OpenClaim.holds_of_wide 4 Try.f4 rfl rfl rfl rfl rfl rfl rfl ⟨rfl, rfl, rfl, rfl, rfl⟩ rfl rfl rfl rfl rfl (by kernel_rfl) Try.func4 (by kernel_rfl)
    (of_decide_eq_true (by kernel_rfl)) (by unfold Func.isWrapper; first | (rw [if_pos (by decide +kernel)]; kernel_rfl) | (rw [if_neg (by decide +kernel)]; exact ⟨rfl, rfl⟩))
    (fun os started H enc _ => lifted os started H enc)

/-- ████ THE STATEMENT ████ -/
theorem proved : Rows.ArenaBodiesSaid := over
end Go.Proofs.Ytdilhnnbfkiacaa.arenaBodies
