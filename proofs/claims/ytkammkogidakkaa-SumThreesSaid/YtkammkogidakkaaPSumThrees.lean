/-
  Proved: whatever bytes come in, lavabolaw1.SumThrees returns true and changes nothing that was there. No conditions beyond the given statement's.
-/
import Derived.Test.YtkammkogidakkaaRows
import Derived.Test.YtkammkogidakkaaSum1
import Derived.Test.YtkammkogidakkaaSum2
import Derived.Test.YtkammkogidakkaaSum3
import Derived.Test.YtkammkogidakkaaSum4
import Derived.Test.YtkammkogidakkaaSum5
import Derived.Test.YtkammkogidakkaaSum6
import Derived.WalkKit
import Derived.ProofKit
import Derived.OpenShut
import Derived.ShutString
import Derived.ChangeOld
import Derived.Below
set_option maxRecDepth 100000
set_option linter.unusedSimpArgs false
namespace Lav
open Go (IntKind)
theorem p_mn {loc vals : List AV} {h : Heap} {x : X} {r : List X} : evPure loc vals h (.mn (x :: r)) = (match x.eval loc vals with
      | .c (.int k n) => foldInt loc vals (fun a b => if b < a then b else a) (.c (.int k n)) r
      | _ => none) := rfl

theorem zeros_len {n : Nat} {z : CV} : (zeros n [z]).length = n := by
  induction n with
  | zero => rfl
  | succ n ih => simp [zeros, ih]

theorem min_int (a b : Nat) : (if (b : Int) < (a : Int) then (b : Int) else (a : Int)) = ((min a b : Nat) : Int) := by
  split <;> omega

theorem sumThrees {x y z : CV} {h : Heap} {as' bs cs : List (BitVec 8)} (hx : Bytes h x as') (hy : Bytes h y bs) (hz : Bytes h z cs)
    (sx : x = .nils ∨ ∃ i o, x = .sl i o as'.length (.dy 1)) (sy : y = .nils ∨ ∃ i o, y = .sl i o bs.length (.dy 1)) (sz : z = .nils ∨ ∃ i o, z = .sl i o cs.length (.dy 1)) :
    good (evCall table 400 9 7 [.c x, .c y, .c z] h) = true := by
  have lx : ∀ loc vals : List AV, ∀ h : Heap, evPure loc (.c x :: vals) h (.len .sl (.val 0)) = some (.c (.int .i64 (as'.length : Int))) := fun _ _ _ => hx.len rfl
  have ly : ∀ loc vals : List AV, ∀ h : Heap, evPure loc (.c y :: vals) h (.len .sl (.val 0)) = some (.c (.int .i64 (bs.length : Int))) := fun _ _ _ => hy.len rfl
  have lz : ∀ loc vals : List AV, ∀ h : Heap, evPure loc (.c z :: vals) h (.len .sl (.val 0)) = some (.c (.int .i64 (cs.length : Int))) := fun _ _ _ => hz.len rfl
  rw [evCall_eq (F := ir7) rfl rfl]
  unfold ir7
  rw [bodyK_eq]
  obtain ⟨n, hn⟩ : ∃ n, n = min as'.length (min bs.length cs.length) := ⟨_, rfl⟩
  by_cases hlen : n ≤ 100
  · have w0 : decide ((n : Int) > 100) = false := by simp; omega
    have w1 : Nat.ble n n = true := Nat.ble_eq_true_of_le (Nat.le_refl _)
    have w2 : Nat.ble n 1073741824 = true := Nat.ble_eq_true_of_le (by omega)
    have L : ∀ loc, keepOnly ir7_k0 loc = [.c x, .c y, .c z, .junk, .c (.int .i64 (n : Int)), .c (.sl h.next 0 n (.ex n)), .c (.int .i64 0), .junk, .junk] →
        ∃ r, loopK (evCall table 400 8) 400 ir7_k0 ir7_l0 400 loc (h.new (.cells (zeros n [.int .u8 0]))) = some r ∧ ∃ h' i l, r = (.exit 0, [.c x, .c y, .c z, .junk, .c (.int .i64 (n : Int)), .c (.sl h.next 0 n (.ex n)), .c (.int .i64 i), .junk, .c (.bool l)], h') ∧ Ext h h' ∧ h'.next = h.next + 1 ∧ h'.get h.next = some (.cells (cellsOf (xor3 (as'.take n) (bs.take n) (cs.take n)))) := by
      intro loc hloc
      refine loop_inv (n := n) (fun i loc h' => Ext h h' ∧ h'.next = h.next + 1 ∧ (∃ l : List CV, h'.get h.next = some (.cells l) ∧ l.length = n ∧ ∀ j, j < i → l[j]? = (cellsOf (xor3 (as'.take n) (bs.take n) (cs.take n)))[j]?) ∧ loc = [.c x, .c y, .c z, .junk, .c (.int .i64 (n : Int)), .c (.sl h.next 0 n (.ex n)), .c (.int .i64 (i : Int)), .junk, .junk]) _ ?_ ⟨(Ext.refl h).new _, rfl, ⟨_, get_new_at, zeros_len, fun j hj => absurd hj (by omega)⟩, hloc⟩ (by omega)
      rintro i loc h' hi ⟨he, hnx, ⟨l, hg, hl, hj⟩, rfl⟩
      by_cases hlt : i < n
      · left
        refine ⟨hlt, ?_⟩
        have v1 : decide ((i : Int) < (n : Int)) = true := ltNat hlt
        obtain ⟨b1, o1, c1, e1, _, r1⟩ := (hx.ext he).sl (by omega)
        obtain ⟨b2, o2, c2, e2, _, r2⟩ := (hy.ext he).sl (by omega)
        obtain ⟨b3, o3, c3, e3, _, r3⟩ := (hz.ext he).sl (by omega)
        subst e1 e2 e3
        have q1 := r1 i (by omega)
        have q2 := r2 i (by omega)
        have q3 := r3 i (by omega)
        have m1 : Nat.blt i as'.length = true := bltT (by omega)
        have m2 : Nat.blt i bs.length = true := bltT (by omega)
        have m3 : Nat.blt i cs.length = true := bltT (by omega)
        have m0 : Nat.blt i n = true := bltT hlt
        have S := write_one (v := .int .u8 ((as'[i] ^^^ bs[i] ^^^ cs[i]).toNat : Int)) hg (show i < l.length by omega)
        have v2 := succI (i := i) (by omega)
        unfold ir7_l0
        simp only [enter_eq, ev_seq, seqK_norm, seqK_exit, seqK_ret, ev_reg, ev_cond, condK_true, condK_false, ev_block, blockK_norm, blockK_ret, blockK_exit, ev_loop, ev_skip, ev_exit, ev_ret, regK_cons, regK_nil, guard_none, guard_some, regG_true, regG_false, regO_some, op_mov, op_conv, op_bin, op_bsl, op_box, op_mks, op_s2b, op_pick, op_un, op_eq, op_len, op_ext, op_load, op_iaddr, op_slice, op_b2s, op_idxS, op_mx, op_mn, op_call, op_store, op_app, op_copy, args_eq, result_one', rv_loc, finish_norm, finish_ret, outK_some, keep_true, keep_false, keep_nil, p_bin, p_pick, p_un, p_eq, p_conv, evNew, pureK_some, newK_some, X.eval, set_none, set_some, List.map_cons, List.map_nil, List.getD_cons_zero, List.getD_cons_succ, List.getD_nil, List.set_cons_zero, List.set_cons_succ, binCV, unCV, isShift, intArithF_eq, shiftF_eq, wrapF_eq, intArith, shift, eqVal, bound, asNat_cast, cond_true, cond_false, BEq.rfl, beq_self_eq_true, evalParts, fillParts, AV.cells, AV.ofCells, XV.av, AV.xv, List.length_cons, List.length_nil, zeros, patch, setMany, List.nil_append, List.cons_append, Nat.ble, Nat.add_eq, Nat.zero_add, Nat.add_zero, Nat.reduceAdd, Nat.reduceMul, Nat.reduceSub, Nat.ble_eq, Nat.reduceLeDiff, Nat.reduceBEq, Int.reduceBEq, Int.reduceNeg, Bool.and_true, Bool.and_false, Bool.true_and, Bool.false_and, Bool.not_true, Bool.not_false, Bool.true_eq_false, Bool.false_eq_true, Int.reduceLT, Int.reduceLE, Int.reduceGT, Int.reduceGE, decide_true, decide_false, Bool.not_eq_true, loopN_norm, loopN_exit, tf, ft, ff, ev_dreg, dregK_nil, dregK_cons, dregE_true, dregP_some, dregX_some, d_mov, d_bin, d_eq, d_pick, d_un, d_conv, d_b2s, d_len, d_load, d_iaddr, d_slice, d_ext, d_call, d_store, chk_done, chk_none, chk_some, chkG_true, chkG_false, chkOne_nil, chkOne_cons, chkH_some, chkV_same, stage_none, stage_some, look_hit, look_miss, news_nil, wb_cons, wb_nil, skip0, List.reverse_cons, List.reverse_nil, v1, v2, p_iaddr, p_load, q1, q2, q3, m0, m1, m2, m3, xor8, evEff, Nat.mul_one, S]
        refine ⟨_, _, rfl, he.put (Nat.le_refl _) _, hnx, ⟨_, get_put_at, by simpa using hl, fun j hj' => ?_⟩, rfl⟩
        have x3 := xor3_get (as'.take n) (bs.take n) (cs.take n) i (by simp; omega) (by simp; omega) (by simp; omega)
        by_cases hji : j = i
        · subst hji
          rw [List.getElem?_set_self (by omega)]
          simp only [cellsOf, List.getElem?_map, x3, Option.map_some, List.getElem_take]
        · rw [List.getElem?_set_ne (by omega)]
          exact hj j (by omega)
      · right
        have hin : i = n := by omega
        subst hin
        have v1 : decide ((i : Int) < (i : Int)) = false := geNat (Nat.le_refl _)
        unfold ir7_l0
        simp only [enter_eq, ev_seq, seqK_norm, seqK_exit, seqK_ret, ev_reg, ev_cond, condK_true, condK_false, ev_block, blockK_norm, blockK_ret, blockK_exit, ev_loop, ev_skip, ev_exit, ev_ret, regK_cons, regK_nil, guard_none, guard_some, regG_true, regG_false, regO_some, op_mov, op_conv, op_bin, op_bsl, op_box, op_mks, op_s2b, op_pick, op_un, op_eq, op_len, op_ext, op_load, op_iaddr, op_slice, op_b2s, op_idxS, op_mx, op_mn, op_call, op_store, op_app, op_copy, args_eq, result_one', rv_loc, finish_norm, finish_ret, outK_some, keep_true, keep_false, keep_nil, p_bin, p_pick, p_un, p_eq, p_conv, evNew, pureK_some, newK_some, X.eval, set_none, set_some, List.map_cons, List.map_nil, List.getD_cons_zero, List.getD_cons_succ, List.getD_nil, List.set_cons_zero, List.set_cons_succ, binCV, unCV, isShift, intArithF_eq, shiftF_eq, wrapF_eq, intArith, shift, eqVal, bound, asNat_cast, cond_true, cond_false, BEq.rfl, beq_self_eq_true, evalParts, fillParts, AV.cells, AV.ofCells, XV.av, AV.xv, List.length_cons, List.length_nil, zeros, patch, setMany, List.nil_append, List.cons_append, Nat.ble, Nat.add_eq, Nat.zero_add, Nat.add_zero, Nat.reduceAdd, Nat.reduceMul, Nat.reduceSub, Nat.ble_eq, Nat.reduceLeDiff, Nat.reduceBEq, Int.reduceBEq, Int.reduceNeg, Bool.and_true, Bool.and_false, Bool.true_and, Bool.false_and, Bool.not_true, Bool.not_false, Bool.true_eq_false, Bool.false_eq_true, Int.reduceLT, Int.reduceLE, Int.reduceGT, Int.reduceGE, decide_true, decide_false, Bool.not_eq_true, loopN_norm, loopN_exit, tf, ft, ff, v1]
        refine ⟨_, rfl, by simp, h', _, _, rfl, he, hnx, ?_⟩
        rw [hg]
        congr 2
        apply List.ext_getElem?
        intro j
        by_cases hjn : j < i
        · exact hj j hjn
        · have hx3 : (xor3 (as'.take i) (bs.take i) (cs.take i)).length = i := by rw [xor3_len _ _ _ (by simp; omega) (by simp; omega)]; simp; omega
          rw [List.getElem?_eq_none (by omega), List.getElem?_eq_none (by simp [cellsOf, hx3]; omega)]
    obtain ⟨r, hr, h', i, l, rfl, he, hnx, hg⟩ := L [.c x, .c y, .c z, .c (.bool false), .c (.int .i64 (n : Int)), .c (.sl h.next 0 n (.ex n)), .c (.int .i64 0), .c (.bool false), .tup []] rfl
    have hX : (xor3 (as'.take n) (bs.take n) (cs.take n)).length = n := by rw [xor3_len _ _ _ (by simp; omega) (by simp; omega)]; simp; omega
    have bX : Bytes h' (.sl h.next 0 n (.ex n)) (xor3 (as'.take n) (bs.take n) (cs.take n)) := by
      have := bytes_cells (j := h.next) (c := .ex n) (by omega) hg
      rwa [hX] at this
    have f0 : evCall table 400 8 14 [.c (.sl h.next 0 n (.ex n))] (h'.new (.cells [.int .u8 97])) = _ := of_ok (by omega) (by omega) (bX.new _)
    have f1 : evCall table 400 8 14 [.c (takeSl x n)] (h'.new (.cells [.int .u8 97])) = _ := of_ok (by simp; omega) (by simp; omega) ((bytes_take (n := n) (hx.ext he) sx (by omega)).new _)
    have f2 : evCall table 400 8 14 [.c (takeSl y n)] (h'.new (.cells [.int .u8 97])) = _ := of_ok (by simp; omega) (by simp; omega) ((bytes_take (n := n) (hy.ext he) sy (by omega)).new _)
    have f3 : evCall table 400 8 14 [.c (takeSl z n)] (h'.new (.cells [.int .u8 97])) = _ := of_ok (by simp; omega) (by simp; omega) ((bytes_take (n := n) (hz.ext he) sz (by omega)).new _)
    have t1 : ∀ loc, ∀ t, ∀ h', evPure loc (.c (.int .i64 (n : Int)) :: .c x :: t) h' (.slice 1 (.val 1) none (some (.val 0)) none) = some (.c (takeSl x n)) := fun _ _ _ => slice_take hx rfl rfl sx (by omega)
    have t2 : ∀ loc, ∀ t, ∀ h', evPure loc (.c (.int .i64 (n : Int)) :: .c y :: t) h' (.slice 1 (.val 1) none (some (.val 0)) none) = some (.c (takeSl y n)) := fun _ _ _ => slice_take hy rfl rfl sy (by omega)
    have t3 : ∀ loc, ∀ t, ∀ h', evPure loc (.c (.int .i64 (n : Int)) :: .c z :: t) h' (.slice 1 (.val 1) none (some (.val 0)) none) = some (.c (takeSl z n)) := fun _ _ _ => slice_take hz rfl rfl sz (by omega)
    have e0 : decide (bof (xor3 (as'.take n) (bs.take n) (cs.take n)) = bof (as'.take n) ^^^ bof (bs.take n) ^^^ bof (cs.take n)) = true := decide_eq_true (bof_xor3 _ _ _ (by simp; omega) (by simp; omega))
    simp only [lx, ly, lz, p_mn, foldInt, min_int, enter_eq, ev_seq, seqK_norm, seqK_exit, seqK_ret, ev_reg, ev_cond, condK_true, condK_false, ev_block, blockK_norm, blockK_ret, blockK_exit, ev_loop, ev_skip, ev_exit, ev_ret, regK_cons, regK_nil, guard_none, guard_some, regG_true, regG_false, regO_some, op_mov, op_conv, op_bin, op_bsl, op_box, op_mks, op_s2b, op_pick, op_un, op_eq, op_len, op_ext, op_load, op_iaddr, op_slice, op_b2s, op_idxS, op_mx, op_mn, op_call, op_store, op_app, op_copy, args_eq, result_one', rv_loc, finish_norm, finish_ret, outK_some, keep_true, keep_false, keep_nil, p_bin, p_pick, p_un, p_eq, p_conv, evNew, pureK_some, newK_some, X.eval, set_none, set_some, List.map_cons, List.map_nil, List.getD_cons_zero, List.getD_cons_succ, List.getD_nil, List.set_cons_zero, List.set_cons_succ, binCV, unCV, isShift, intArithF_eq, shiftF_eq, wrapF_eq, intArith, shift, eqVal, bound, asNat_cast, cond_true, cond_false, BEq.rfl, beq_self_eq_true, evalParts, fillParts, AV.cells, AV.ofCells, XV.av, AV.xv, List.length_cons, List.length_nil, zeros, patch, setMany, List.nil_append, List.cons_append, Nat.ble, Nat.add_eq, Nat.zero_add, Nat.add_zero, Nat.reduceAdd, Nat.reduceMul, Nat.reduceSub, Nat.ble_eq, Nat.reduceLeDiff, Nat.reduceBEq, Int.reduceBEq, Int.reduceNeg, Bool.and_true, Bool.and_false, Bool.true_and, Bool.false_and, Bool.not_true, Bool.not_false, Bool.true_eq_false, Bool.false_eq_true, Int.reduceLT, Int.reduceLE, Int.reduceGT, Int.reduceGE, decide_true, decide_false, Bool.not_eq_true, loopN_norm, loopN_exit, tf, ft, ff, ev_dreg, dregK_nil, dregK_cons, dregE_true, dregP_some, dregX_some, d_mov, d_bin, d_eq, d_pick, d_un, d_conv, d_b2s, d_len, d_load, d_iaddr, d_slice, d_ext, d_call, d_store, chk_done, chk_none, chk_some, chkG_true, chkG_false, chkOne_nil, chkOne_cons, chkH_some, chkV_same, stage_none, stage_some, look_hit, look_miss, news_nil, wb_cons, wb_nil, skip0, List.reverse_cons, List.reverse_nil, ← hn, w0, w1, w2, hr, blockK_exit_eq, told_any, t1, t2, t3, f0, f1, f2, f3, xor32, eq32, e0]
    rfl
  · have w0 : decide ((n : Int) > 100) = true := by simp; omega
    simp only [lx, ly, lz, p_mn, foldInt, min_int, enter_eq, ev_seq, seqK_norm, seqK_exit, seqK_ret, ev_reg, ev_cond, condK_true, condK_false, ev_block, blockK_norm, blockK_ret, blockK_exit, ev_loop, ev_skip, ev_exit, ev_ret, regK_cons, regK_nil, guard_none, guard_some, regG_true, regG_false, regO_some, op_mov, op_conv, op_bin, op_bsl, op_box, op_mks, op_s2b, op_pick, op_un, op_eq, op_len, op_ext, op_load, op_iaddr, op_slice, op_b2s, op_idxS, op_mx, op_mn, op_call, op_store, op_app, op_copy, args_eq, result_one', rv_loc, finish_norm, finish_ret, outK_some, keep_true, keep_false, keep_nil, p_bin, p_pick, p_un, p_eq, p_conv, evNew, pureK_some, newK_some, X.eval, set_none, set_some, List.map_cons, List.map_nil, List.getD_cons_zero, List.getD_cons_succ, List.getD_nil, List.set_cons_zero, List.set_cons_succ, binCV, unCV, isShift, intArithF_eq, shiftF_eq, wrapF_eq, intArith, shift, eqVal, bound, asNat_cast, cond_true, cond_false, BEq.rfl, beq_self_eq_true, evalParts, fillParts, AV.cells, AV.ofCells, XV.av, AV.xv, List.length_cons, List.length_nil, zeros, patch, setMany, List.nil_append, List.cons_append, Nat.ble, Nat.add_eq, Nat.zero_add, Nat.add_zero, Nat.reduceAdd, Nat.reduceMul, Nat.reduceSub, Nat.ble_eq, Nat.reduceLeDiff, Nat.reduceBEq, Int.reduceBEq, Int.reduceNeg, Bool.and_true, Bool.and_false, Bool.true_and, Bool.false_and, Bool.not_true, Bool.not_false, Bool.true_eq_false, Bool.false_eq_true, Int.reduceLT, Int.reduceLE, Int.reduceGT, Int.reduceGE, decide_true, decide_false, Bool.not_eq_true, loopN_norm, loopN_exit, tf, ft, ff, ev_dreg, dregK_nil, dregK_cons, dregE_true, dregP_some, dregX_some, d_mov, d_bin, d_eq, d_pick, d_un, d_conv, d_b2s, d_len, d_load, d_iaddr, d_slice, d_ext, d_call, d_store, chk_done, chk_none, chk_some, chkG_true, chkG_false, chkOne_nil, chkOne_cons, chkH_some, chkV_same, stage_none, stage_some, look_hit, look_miss, news_nil, wb_cons, wb_nil, skip0, List.reverse_cons, List.reverse_nil, ← hn, w0, told_any]
    rfl

end Lav

namespace Go.Proofs.Ytkammkogidakkaa.sumThrees
open Go.ChangeShapes Go.WideShapes Go.ChangeAt Go.RowKit
open Go.ChangeMaps (open_string shut_string)
set_option linter.unusedVariables false

theorem own : ownKnob Try.prog.godebug = none := by kernel_rfl
theorem laidOut : laidOutB Try.prog = true := by kernel_rfl

/-- WHAT THE WALK IS TOLD OF A SLICE OF INTEGERS THAT CAME IN: it is nil; or it leads to a row of 'cap' cells, the numbers 'zs' (the first 'len' are its elements, the rest its spare room), each fitting its kind. -/
def IsRow (k : IntKind) (w : World) (a : Option Addr) (len cap : Nat) (zs : List Int) : Prop :=
  (a = none ∧ len = 0 ∧ cap = 0 ∧ zs = []) ∨
  ∃ x, a = some x ∧ len ≤ cap ∧ cap ≤ maxLen ∧ zs.length = cap ∧ (∀ i, i < zs.length → w.cell? (x.add i) = some (.int k (zs.getD i 0))) ∧ ∀ n ∈ zs, (Lit.int k n).wf = true

/-! ### STEP 1: THE WALK: the Go text returns true, AND WRITES NOTHING THAT WAS THERE: 'Below w.heap.size w w'' (Derived/Below.lean: '.refl', '.alloc', '.drew', '.setCell' at a new block, '.trans'). Open each 'IsRow' by 'rcases' AHEAD of 'go_enter'; part every test ahead of the walk. -/
theorem walk (a0 : Option Addr) (len0 cap0 : Nat) (z0 : List Int) (a1 : Option Addr) (len1 cap1 : Nat) (z1 : List Int) (a2 : Option Addr) (len2 cap2 : Nat) (z2 : List Int) (w : World) (w0 : IsRow .u8 w a0 len0 cap0 z0) (w1 : IsRow .u8 w a1 len1 cap1 z1) (w2 : IsRow .u8 w a2 len2 cap2 z2) :
    Calls Try.prog 7 #[.slice a0 len0 cap0, .slice a1 len1 cap1, .slice a2 len2 cap2] w fun e w' => e = .returned (.bool true) ∧ Below w.heap.size w w' := by
  obtain ⟨ι1, h1, x, I1, hle1, hx, hr1⟩ := (Lav.Init.empty w).slice w0
  obtain ⟨ι2, h2, y, I2, hle2, hy, hr2⟩ := I1.slice w1
  obtain ⟨ι3, h3, z, I3, hle3, hz, hr3⟩ := I2.slice w2
  obtain ⟨as', _, hA, sx⟩ := Lav.bytes_of hr1
  obtain ⟨bs, _, hB, sy⟩ := Lav.bytes_of hr2
  obtain ⟨cs, _, hC, sz⟩ := Lav.bytes_of hr3
  exact Lav.walk_of (Lav.calls_ok 400 9) I3 (args := [.c x, .c y, .c z]) (vs := [.slice a0 len0 cap0, .slice a1 len1 cap1, .slice a2 len2 cap2]) ⟨(hx.mono hle2).mono hle3, hy.mono hle3, hz, trivial⟩ (Lav.sumThrees ((hA.ext hr2.ext).ext hr3.ext) (hB.ext hr3.ext) hC sx sy sz)

/-! ### THE ROW's STEP: WRITTEN OUT: LEAVE IT -/
set_option maxRecDepth 100000 in
theorem lifted (os : Os) (started : os.Started) (H : Type) (enc : TypeId × Value → H) :
    ReturnsInHanded {} Try.checked os 7 .any (Rows.sumThreesSpec.pre6 enc Try.prog Try.f7 Rows.sumThreesRow.domain false) (Rows.sumThreesSpec.post enc Try.prog Try.f7 false true false false) := by
  refine returnsInHanded_of_change (C := Try.checked) own started (by kernel_rfl) Try.func7
    (ChangeSpec.witness6 (enc := enc) (C := Try.checked) false ⟨#[], #[.slice none 0 0, .slice none 0 0, .slice none 0 0], []⟩ 8 (by kernel_rfl) (by kernel_rfl) (by kernel_rfl) (by kernel_rfl)) ?_
  intro W base args ds gs before hval0 hW hcnd _
  have hval : ∀ (j : Nat) t v, Try.f7.params[j]? = some t → args[j]? = some v → Value.okWide Try.prog W .any base t v := hval0
  have hW' := hW
  obtain ⟨p, q, hA0, hV, rfl, hfz, hnd⟩ := hW
  have hA : DataW.TrodAll enc Try.prog W 0 (fun _ => true) true Try.f7.params.toList args.toList ds p := hA0
  rw [Try.params7] at hA hval
  obtain ⟨v0, vs0, d0, ds0, p0, q0, hargs, rfl, rfl, h0, r0⟩ := trodAll_cons hA
  obtain ⟨v1, vs1, d1, ds1, p1, q1, rfl, rfl, rfl, h1, r1⟩ := trodAll_cons r0
  obtain ⟨v2, vs2, d2, ds2, p2, q2, rfl, rfl, rfl, h2, r2⟩ := trodAll_cons r1
  obtain ⟨rfl, rfl, rfl⟩ := trodAll_nil r2
  obtain rfl : args = #[v0, v1, v2] := by cases args; simp_all
  obtain ⟨rfl, rfl⟩ := trodVars_none hV
  obtain ⟨a0, len0, cap0, rfl⟩ := okWide_slice Try.underlying22 (hval 0 22 v0 rfl rfl)
  have k0 := h0
  have lt0 : ∀ x ∈ p0, x.block < W.heap.size := by obtain ⟨m, hm⟩ := k0; exact DataW.trod_lt m _ _ _ hm
  obtain ⟨z0, w0⟩ : ∃ zs, IsRow .u8 W a0 len0 cap0 zs := by
    obtain ⟨fuel, hf⟩ := h0
    rcases open_ints Try.underlying22 Try.underlying5 (by kernel_rfl) hf with ⟨hcs, _⟩ | ⟨x, l, c, zs, hcs, _, hl, hm, hz, _, hcell, hwz⟩
    · simp [Value.cells] at hcs
      obtain ⟨rfl, rfl, rfl⟩ := hcs
      exact ⟨[], .inl ⟨rfl, rfl, rfl, rfl⟩⟩
    · simp [Value.cells] at hcs
      obtain ⟨rfl, rfl, rfl⟩ := hcs
      exact ⟨zs, .inr ⟨_, rfl, hl, hm, by simpa using hz, hcell, hwz⟩⟩
  obtain ⟨a1, len1, cap1, rfl⟩ := okWide_slice Try.underlying22 (hval 1 22 v1 rfl rfl)
  have k1 := h1
  have lt1 : ∀ x ∈ p1, x.block < W.heap.size := by obtain ⟨m, hm⟩ := k1; exact DataW.trod_lt m _ _ _ hm
  obtain ⟨z1, w1⟩ : ∃ zs, IsRow .u8 W a1 len1 cap1 zs := by
    obtain ⟨fuel, hf⟩ := h1
    rcases open_ints Try.underlying22 Try.underlying5 (by kernel_rfl) hf with ⟨hcs, _⟩ | ⟨x, l, c, zs, hcs, _, hl, hm, hz, _, hcell, hwz⟩
    · simp [Value.cells] at hcs
      obtain ⟨rfl, rfl, rfl⟩ := hcs
      exact ⟨[], .inl ⟨rfl, rfl, rfl, rfl⟩⟩
    · simp [Value.cells] at hcs
      obtain ⟨rfl, rfl, rfl⟩ := hcs
      exact ⟨zs, .inr ⟨_, rfl, hl, hm, by simpa using hz, hcell, hwz⟩⟩
  obtain ⟨a2, len2, cap2, rfl⟩ := okWide_slice Try.underlying22 (hval 2 22 v2 rfl rfl)
  have k2 := h2
  have lt2 : ∀ x ∈ p2, x.block < W.heap.size := by obtain ⟨m, hm⟩ := k2; exact DataW.trod_lt m _ _ _ hm
  obtain ⟨z2, w2⟩ : ∃ zs, IsRow .u8 W a2 len2 cap2 zs := by
    obtain ⟨fuel, hf⟩ := h2
    rcases open_ints Try.underlying22 Try.underlying5 (by kernel_rfl) hf with ⟨hcs, _⟩ | ⟨x, l, c, zs, hcs, _, hl, hm, hz, _, hcell, hwz⟩
    · simp [Value.cells] at hcs
      obtain ⟨rfl, rfl, rfl⟩ := hcs
      exact ⟨[], .inl ⟨rfl, rfl, rfl, rfl⟩⟩
    · simp [Value.cells] at hcs
      obtain ⟨rfl, rfl, rfl⟩ := hcs
      exact ⟨zs, .inr ⟨_, rfl, hl, hm, by simpa using hz, hcell, hwz⟩⟩
  clear hA0 hval0
  refine (walk a0 len0 cap0 z0 a1 len1 cap1 z1 a2 len2 cap2 z2 W w0 w1 w2).mono fun e W' ⟨he, bel⟩ => ?_
  subst he
  exact ⟨_, rfl, _, _, _, [], _, [], hW', trodAll_mk1 (shut_bool Try.underlying4 _), (trodAll_cons_mk (Below.trod laidOut (by kernel_rfl) (of_decide_eq_true (by kernel_rfl)) k0 bel lt0) (trodAll_cons_mk (Below.trod laidOut (by kernel_rfl) (of_decide_eq_true (by kernel_rfl)) k1 bel lt1) (trodAll_cons_mk (Below.trod laidOut (by kernel_rfl) (of_decide_eq_true (by kernel_rfl)) k2 bel lt2) trodAll_mk0))), rfl, bel.frame _, fun h => by cases h⟩

theorem over : Rows.sumThreesRow.holds Try.pinned (OpenSpec.ofChange Rows.sumThreesSpec) :=
  OpenClaim.holds_of_wide 7 Try.f7 rfl rfl rfl rfl rfl rfl rfl ⟨rfl, rfl, rfl, rfl, rfl⟩ rfl rfl rfl rfl rfl (by kernel_rfl) Try.func7 (by kernel_rfl)
    (of_decide_eq_true (by kernel_rfl)) (by unfold Func.isWrapper; first | (rw [if_pos (by decide +kernel)]; kernel_rfl) | (rw [if_neg (by decide +kernel)]; exact ⟨rfl, rfl⟩))
    (fun os started H enc _ => lifted os started H enc)

/-- ████ THE STATEMENT ████ -/
theorem proved : Rows.SumThreesSaid := over
end Go.Proofs.Ytkammkogidakkaa.sumThrees
