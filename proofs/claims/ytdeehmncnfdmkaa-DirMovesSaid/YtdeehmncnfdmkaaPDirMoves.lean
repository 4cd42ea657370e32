/-
  Proved: whatever numbers and moves come in, lavabolaw19.DirMoves returns true and changes nothing that was there. No conditions beyond the given statement's.
-/
import Derived.Test.YtdeehmncnfdmkaaRows
import Derived.Test.YtdeehmncnfdmkaaFwP
import Derived.Test.YtdeehmncnfdmkaaDir1
import Derived.WalkKit
import Derived.ProofKit
import Derived.OpenShut
import Derived.ShutString
import Derived.ChangeOld
import Derived.Below
set_option maxRecDepth 100000
set_option linter.unusedSimpArgs false
namespace Lav
open Go (IntKind)
theorem tld19 : ToldOK Go.Proofs.Try.prog 12 := told_of (calls_okF 200 9) (by kernel_rfl)
abbrev J18 : List AV := [.junk, .junk, .junk, .junk, .junk, .junk, .junk, .junk, .junk, .junk, .junk, .junk, .junk, .junk, .junk, .junk, .junk, .junk]
abbrev AtD (x : CV) (n q p : Nat) (v : Int) (i : Nat) : List AV := .junk :: .c x :: .junk :: .junk :: .c (.int .i64 (n : Int)) :: .c (.ptr q 0) :: .c (.int .i64 (p : Int)) :: .c (.int .i64 v) :: .c (.int .i64 (i : Int)) :: J18

theorem box5 (h : Heap) (x : Dr) (i : Nat) : ∃ h', (h.new (.cells dz)).write h.next 0 (dc x i) = some h' ∧ h'.get h.next = some (.cells (dc x i)) ∧ Ext h h' ∧ h'.next = h.next + 1 := box_store rfl
theorem DV.ne {h : Heap} {x y : Dr} {i j q : Nat} (v : DV h x i) (g : h.get q = some (.cells (dc y j))) : i ≠ q := fun e => by
  have h1 := v.own
  rw [e, g] at h1
  simp only [Option.some.injEq, Blk.cells.injEq] at h1
  have := congrArg List.length h1
  rw [List.length_map, v.len] at this
  simp [dc] at this

/-- The directory that is kept. -/
structure Dk (h : Heap) (q : Nat) (D : Dr) (k n : Nat) : Prop where
  g : h.get q = some (.cells (dc D k))
  v : DV h D k
  qn : q < h.next
  ok : OkD D (n : Int)
  bk : D.bk = -1
  to : D.to = 0
  ph : D.ph = 0
  n4 : n ≤ 4
  n1 : 1 ≤ n

section
variable {h : Heap} {q k n p m : Nat} {D : Dr} {bx ox : Nat} {cc : Cap} {xs : List Int}

theorem Dk.ext (d : Dk h q D k n) {h' : Heap} (e : Ext h h') : Dk h' q D k n := ⟨e.at_ d.g d.qn, d.v.ext e, Nat.lt_of_lt_of_le d.qn e.1, d.ok, d.bk, d.to, d.ph, d.n4, d.n1⟩
theorem Dk.same (d : Dk h q D k n) : D = ⟨D.ver, D.own, -1, 0, 0⟩ := by
  have h1 := d.bk
  have h2 := d.to
  have h3 := d.ph
  cases D
  simp at h1 h2 h3
  simp [h1, h2, h3]

theorem stepSkip (d : Dk h q D k n) (hx : Ints h (.sl bx ox m cc) xs) (hm : xs.length = m) {i b t : Nat} (hi : i < m) (hi2 : i < 40) (hp : p < 48)
    (hb : b < 16) (eb : IntKind.i64.wrap (Int.tmod (IntKind.u64.wrap (xs[i]'(by omega))) 16) = (b : Int)) (ht : t < n) (et : IntKind.i64.wrap (Int.tmod (IntKind.u64.wrap (Int.tdiv (IntKind.u64.wrap (xs[i]'(by omega))) 16)) (n : Int)) = (t : Int))
    (e : D.own[b]'(by rw [d.v.len]; exact hb) = (t : Int)) :
    ∃ l H, ev (evCallT table 12 100 8) 100 ir4_l0 (AtD (.sl bx ox m cc) n q p D.ver i) h = some (.norm, l, H) ∧ keepOnly ir4_k0 l = AtD (.sl bx ox m cc) n q p D.ver (i + 1) ∧ Dk H q D k n ∧ Ext h H := by
  have bneI : ∀ {a b : Int}, (a != b) = !(a == b) := rfl
  have lx : ∀ (loc vals : List AV) (h : Heap), evPure loc (.c (.sl bx ox m cc) :: vals) h (.len .sl (.val 0)) = some (.c (.int .i64 (m : Int))) := fun _ _ _ => rfl
  have v1 : decide ((i : Int) < (m : Int)) = true := ltNat hi
  have v3 : decide ((i : Int) < 40) = true := decide_eq_true (by omega)
  have v2 := succI (i := i) (by omega)
  have m1 : Nat.blt i m = true := bltT hi
  obtain ⟨b', o', c', e', _, rx⟩ := hx.sl (by omega)
  cases e'
  have k0 := rx i (by omega)
  have un : IntKind.u64.wrap (n : Int) = (n : Int) := wrapUNat (by have := d.n4; omega)
  have n0 : ((n : Int) == 0) = false := by simp only [beq_eq_false_iff_ne, ne_eq]; omega
  have r5 : h.read q 0 5 = some (dc D k) := rd5 d.g
  obtain ⟨h1, e1, x1⟩ : ∃ h', evCallT table 12 100 8 17 [.agg (dc D k), .c (.int .i64 (p : Int))] h = some (.c (.int .i64 (D.own[(p % 16 * 7 + p / 16 % 16) % 16]'(by rw [d.v.len]; omega))), h') ∧ Ext h h' := shard_ok (N := 100) (d := 6) d.v (by omega) rfl
  have d1 := d.ext x1
  have r51 : h1.read q 0 5 = some (dc D k) := rd5 d1.g
  obtain ⟨h2, e2, v2', x2⟩ : ∃ h', evCallT table 12 100 8 13 [.agg (dc D k), .c (.int .i64 (b : Int)), .c (.int .i64 (t : Int))] h1 = some (.tup [.agg (dc D k), .c (.int .i64 1)], h') ∧ DV h' D k ∧ Ext h1 h' := begin_same (N := 100) (d := 5) d1.v (d.ok.more (by have := d.n4; omega)) d.bk hb (by have := d.n4; omega) e (by omega)
  obtain ⟨h3, w3, g3, x3, n3⟩ := box5 h2 D k
  have d3 := d1.ext (x2.trans x3)
  have q1 : h3.read q 1 1 = some [.sl k 0 16 (.dy 1)] := read_cells d3.g rfl
  have l16 : ∀ loc vals h', evPure loc (.c (.sl k 0 16 (.dy 1)) :: vals) h' (.len .sl (.val 0)) = some (.c (.int .i64 16)) := fun _ _ _ => rfl
  have mb : Nat.blt b 16 = true := bltT hb
  have rb := d3.v.rd hb
  rw [e] at rb
  have tt : ((t : Int) == (t : Int)) = true := by simp
  unfold ir4_l0
  simp only [enter_eq, ev_seq, seqK_norm, seqK_exit, seqK_ret, ev_reg, ev_cond, condK_true, condK_false, ev_block, blockK_norm, blockK_ret, blockK_exit, ev_loop, ev_skip, ev_exit, ev_ret, regK_cons, regK_nil, guard_none, guard_some, regG_true, regG_false, regO_some, op_mov, op_conv, op_bin, op_bsl, op_box, op_mks, op_s2b, op_pick, op_un, op_eq, op_len, op_ext, op_load, op_iaddr, op_slice, op_b2s, op_idxS, op_mx, op_mn, op_call, op_store, op_app, op_copy, args_eq, result_one', rv_loc, finish_norm, finish_ret, outK_some, keep_true, keep_false, keep_nil, p_bin, p_pick, p_un, p_eq, p_conv, evNew, pureK_some, newK_some, X.eval, set_none, set_some, List.map_cons, List.map_nil, List.getD_cons_zero, List.getD_cons_succ, List.getD_nil, List.set_cons_zero, List.set_cons_succ, binCV, unCV, isShift, intArithF_eq, shiftF_eq, wrapF_eq, intArith, shift, eqVal, bound, asNat_cast, cond_true, cond_false, BEq.rfl, beq_self_eq_true, evalParts, fillParts, AV.cells, AV.ofCells, XV.av, AV.xv, List.length_cons, List.length_nil, zeros, patch, setMany, List.nil_append, List.cons_append, Nat.ble, Nat.add_eq, Nat.zero_add, Nat.add_zero, Nat.reduceAdd, Nat.reduceMul, Nat.reduceSub, Nat.ble_eq, Nat.reduceLeDiff, Nat.reduceBEq, Int.reduceBEq, Int.reduceNeg, Bool.and_true, Bool.and_false, Bool.true_and, Bool.false_and, Bool.not_true, Bool.not_false, Bool.true_eq_false, Bool.false_eq_true, Int.reduceLT, Int.reduceLE, Int.reduceGT, Int.reduceGE, decide_true, decide_false, Bool.not_eq_true, loopN_norm, loopN_exit, tf, ft, ff, ev_dreg, dregK_nil, dregK_cons, dregE_true, dregP_some, dregX_some, d_mov, d_bin, d_eq, d_pick, d_un, d_conv, d_b2s, d_len, d_load, d_iaddr, d_slice, d_ext, d_call, d_store, chk_done, chk_none, chk_some, chkG_true, chkG_false, chkOne_nil, chkOne_cons, chkH_some, chkV_same, stage_none, stage_some, look_hit, look_miss, news_nil, wb_cons, wb_nil, skip0, List.reverse_cons, List.reverse_nil, bneI, lx, v1, v2, v3, m1, p_iaddr, p_faddr, op_faddr, p_load, AV.ofCells, Nat.mul_one, k0, eb, un, n0, et, r5, e1, r51, e2, op_ext, p_ext, List.getElem?_cons_zero, List.getElem?_cons_succ, evEff, dc_five, w3, q1, l16, mb, rb, tt, bne_self_eq_false]
  refine ⟨_, _, rfl, ?_, d3, (x1.trans x2).trans x3⟩; rfl
theorem stepStop (d : Dk h q D k n) (hx : Ints h (.sl bx ox m cc) xs) (hm : xs.length = m) {i b t : Nat} (hi : i < m) (hi2 : i < 40) (hp : p < 48)
    (hb : b < 16) (eb : IntKind.i64.wrap (Int.tmod (IntKind.u64.wrap (xs[i]'(by omega))) 16) = (b : Int)) (ht : t < n) (et : IntKind.i64.wrap (Int.tmod (IntKind.u64.wrap (Int.tdiv (IntKind.u64.wrap (xs[i]'(by omega))) 16)) (n : Int)) = (t : Int))
    (e : D.own[b]'(by rw [d.v.len]; exact hb) ≠ (t : Int)) {K : Int} (eK : IntKind.i64.wrap ((BitVec.ofInt IntKind.i64.bits ((xs[i]'(by omega)).fdiv (2 ^ (min (Int.toNat 10) IntKind.i64.bits))) &&& BitVec.ofInt IntKind.i64.bits 1).toNat : Int) = K) (hK : (K == 1) = true) :
    ∃ l H, ev (evCallT table 12 100 8) 100 ir4_l0 (AtD (.sl bx ox m cc) n q p D.ver i) h = some (.norm, l, H) ∧ keepOnly ir4_k0 l = AtD (.sl bx ox m cc) n q p D.ver (i + 1) ∧ Dk H q D k n ∧ Ext h H := by
  have bneI : ∀ {a b : Int}, (a != b) = !(a == b) := rfl
  have lx : ∀ (loc vals : List AV) (h : Heap), evPure loc (.c (.sl bx ox m cc) :: vals) h (.len .sl (.val 0)) = some (.c (.int .i64 (m : Int))) := fun _ _ _ => rfl
  have v1 : decide ((i : Int) < (m : Int)) = true := ltNat hi
  have v3 : decide ((i : Int) < 40) = true := decide_eq_true (by omega)
  have v2 := succI (i := i) (by omega)
  have m1 : Nat.blt i m = true := bltT hi
  obtain ⟨b', o', c', e', _, rx⟩ := hx.sl (by omega)
  cases e'
  have k0 := rx i (by omega)
  have un : IntKind.u64.wrap (n : Int) = (n : Int) := wrapUNat (by have := d.n4; omega)
  have n0 : ((n : Int) == 0) = false := by simp only [beq_eq_false_iff_ne, ne_eq]; omega
  have r5 : h.read q 0 5 = some (dc D k) := rd5 d.g
  obtain ⟨h1, e1, x1⟩ : ∃ h', evCallT table 12 100 8 17 [.agg (dc D k), .c (.int .i64 (p : Int))] h = some (.c (.int .i64 (D.own[(p % 16 * 7 + p / 16 % 16) % 16]'(by rw [d.v.len]; omega))), h') ∧ Ext h h' := shard_ok (N := 100) (d := 6) d.v (by omega) rfl
  have d1 := d.ext x1
  have r51 : h1.read q 0 5 = some (dc D k) := rd5 d1.g
  have d1n4 := d.n4
  have ok4 := d.ok.more (m := 4) (by omega)
  obtain ⟨M, hM⟩ : ∃ M : Dr, M = ⟨D.ver, D.own, (b : Int), (t : Int), 1⟩ := ⟨_, rfl⟩
  have okP : ∀ ph, ph = 1 ∨ ph = 2 → OkD ⟨D.ver, D.own, (b : Int), (t : Int), ph⟩ 4 := fun ph hp => ⟨ok4.v1, ok4.v2, ok4.ow, .inr ⟨by show (0 : Int) ≤ (b : Int); omega, by show (b : Int) < 16; omega, by show (0 : Int) ≤ (t : Int); omega, by show (t : Int) < 4; omega, by
    show D.own[(b : Int).toNat]? ≠ some (t : Int)
    rw [Int.toNat_natCast, List.getElem?_eq_getElem (by rw [d.v.len]; exact hb)]
    intro e'; simp only [Option.some.injEq] at e'; exact e e', hp⟩⟩
  have keyB := begin_ok (N := 100) (d := 5) d1.v ok4 d.bk hb (t := (t : Int)) (by omega) e (by omega)
  rw [← hM] at keyB
  obtain ⟨kM, h2, e2', vM, x2⟩ := keyB
  have e2 : evCallT table 12 100 8 13 [.agg (dc D k), .c (.int .i64 (b : Int)), .c (.int .i64 (t : Int))] h1 = some (.tup [.agg (dc M kM), .c (.int .i64 0)], h2) := e2'
  have okM : OkD M 4 := by rw [hM]; exact okP 1 (.inl rfl)
  obtain ⟨h3, w3, g3, x3, n3⟩ := box5 h2 M kM
  have d3 := d1.ext (x2.trans x3)
  have vM3 := vM.ext x3
  have q1 : h3.read q 1 1 = some [.sl k 0 16 (.dy 1)] := read_cells d3.g rfl
  have l16 : ∀ loc vals h', evPure loc (.c (.sl k 0 16 (.dy 1)) :: vals) h' (.len .sl (.val 0)) = some (.c (.int .i64 16)) := fun _ _ _ => rfl
  have mb : Nat.blt b 16 = true := bltT hb
  have rb := d3.v.rd hb
  have ne : ((D.own[b]'(by rw [d.v.len]; exact hb)) == (t : Int)) = false := by simp [e]
  have x13 := (x1.trans x2).trans x3
  have bx1 : bx < h.next := by
    rcases hx with ⟨e1, _⟩ | ⟨i', o'', c'', e1, h2', _⟩
    · cases e1
    · cases e1; exact h2'
  have k03 : h3.read bx (ox + i) 1 = some [.int .i64 (xs[i]'(by omega))] := by rw [x13.read bx1]; exact k0
  have r30 : h3.read h2.next 0 5 = some (dc M kM) := rd5 g3
  have keyS := stop_ok (N := 100) (d := 5) vM3 okM (by rw [hM]; show (b : Int) ≠ -1; omega) (by omega)
  have hD : (⟨M.ver, M.own, -1, 0, 0⟩ : Dr) = D := by rw [hM]; exact d.same.symm
  rw [hD] at keyS
  obtain ⟨kS, h4, e4', vS, x4⟩ := keyS
  have e4 : evCallT table 12 100 8 18 [.agg (dc M kM)] h3 = some (.tup [.agg (dc D kS), .c (.int .i64 0)], h4) := e4'
  obtain ⟨h5, w5, g5, x5, n5⟩ := box5 h4 D kS
  have d5 := d3.ext (x4.trans x5)
  have r50 : h5.read h4.next 0 5 = some (dc D kS) := rd5 g5
  have r5q : h5.read q 0 5 = some (dc D k) := rd5 d5.g
  obtain ⟨h6, e6, x6⟩ : ∃ h', evCallT table 12 100 8 16 [.agg (dc D kS), .agg (dc D k)] h5 = some (.c (.bool true), h') ∧ Ext h5 h' := same_ok (N := 100) (d := 6) (vS.ext x5) d5.v (by omega)
  unfold ir4_l0
  simp only [enter_eq, ev_seq, seqK_norm, seqK_exit, seqK_ret, ev_reg, ev_cond, condK_true, condK_false, ev_block, blockK_norm, blockK_ret, blockK_exit, ev_loop, ev_skip, ev_exit, ev_ret, regK_cons, regK_nil, guard_none, guard_some, regG_true, regG_false, regO_some, op_mov, op_conv, op_bin, op_bsl, op_box, op_mks, op_s2b, op_pick, op_un, op_eq, op_len, op_ext, op_load, op_iaddr, op_slice, op_b2s, op_idxS, op_mx, op_mn, op_call, op_store, op_app, op_copy, args_eq, result_one', rv_loc, finish_norm, finish_ret, outK_some, keep_true, keep_false, keep_nil, p_bin, p_pick, p_un, p_eq, p_conv, evNew, pureK_some, newK_some, X.eval, set_none, set_some, List.map_cons, List.map_nil, List.getD_cons_zero, List.getD_cons_succ, List.getD_nil, List.set_cons_zero, List.set_cons_succ, binCV, unCV, isShift, intArithF_eq, shiftF_eq, wrapF_eq, intArith, shift, eqVal, bound, asNat_cast, cond_true, cond_false, BEq.rfl, beq_self_eq_true, evalParts, fillParts, AV.cells, AV.ofCells, XV.av, AV.xv, List.length_cons, List.length_nil, zeros, patch, setMany, List.nil_append, List.cons_append, Nat.ble, Nat.add_eq, Nat.zero_add, Nat.add_zero, Nat.reduceAdd, Nat.reduceMul, Nat.reduceSub, Nat.ble_eq, Nat.reduceLeDiff, Nat.reduceBEq, Int.reduceBEq, Int.reduceNeg, Bool.and_true, Bool.and_false, Bool.true_and, Bool.false_and, Bool.not_true, Bool.not_false, Bool.true_eq_false, Bool.false_eq_true, Int.reduceLT, Int.reduceLE, Int.reduceGT, Int.reduceGE, decide_true, decide_false, Bool.not_eq_true, loopN_norm, loopN_exit, tf, ft, ff, ev_dreg, dregK_nil, dregK_cons, dregE_true, dregP_some, dregX_some, d_mov, d_bin, d_eq, d_pick, d_un, d_conv, d_b2s, d_len, d_load, d_iaddr, d_slice, d_ext, d_call, d_store, chk_done, chk_none, chk_some, chkG_true, chkG_false, chkOne_nil, chkOne_cons, chkH_some, chkV_same, stage_none, stage_some, look_hit, look_miss, news_nil, wb_cons, wb_nil, skip0, List.reverse_cons, List.reverse_nil, bneI, lx, v1, v2, v3, m1, p_iaddr, p_faddr, op_faddr, p_load, AV.ofCells, Nat.mul_one, k0, eb, un, n0, et, r5, e1, r51, e2, op_ext, p_ext, List.getElem?_cons_zero, List.getElem?_cons_succ, evEff, dc_five, w3, q1, l16, mb, rb, ne, bne_self_eq_false, k03, eK, hK, r30, e4, w5, r50, r5q, e6]
  refine ⟨_, _, rfl, ?_, d5.ext x6, ((x13.trans x4).trans x5).trans x6⟩; rfl

theorem stepThere (d : Dk h q D k n) (hx : Ints h (.sl bx ox m cc) xs) (hm : xs.length = m) {i b t : Nat} (hi : i < m) (hi2 : i < 40) (hp : p < 48)
    (hb : b < 16) (eb : IntKind.i64.wrap (Int.tmod (IntKind.u64.wrap (xs[i]'(by omega))) 16) = (b : Int)) (ht : t < n) (et : IntKind.i64.wrap (Int.tmod (IntKind.u64.wrap (Int.tdiv (IntKind.u64.wrap (xs[i]'(by omega))) 16)) (n : Int)) = (t : Int))
    (e : D.own[b]'(by rw [d.v.len]; exact hb) ≠ (t : Int)) {K : Int} (eK : IntKind.i64.wrap ((BitVec.ofInt IntKind.i64.bits ((xs[i]'(by omega)).fdiv (2 ^ (min (Int.toNat 10) IntKind.i64.bits))) &&& BitVec.ofInt IntKind.i64.bits 1).toNat : Int) = K) (hK : (K == 1) = false) (hv : D.ver ≤ 1000) (hpbE : (p % 16 * 7 + p / 16 % 16) % 16 = b) :
    ∃ l H k', ev (evCallT table 12 100 8) 100 ir4_l0 (AtD (.sl bx ox m cc) n q p D.ver i) h = some (.norm, l, H) ∧ keepOnly ir4_k0 l = AtD (.sl bx ox m cc) n q p (D.ver + 1) (i + 1) ∧ Dk H q ⟨D.ver + 1, D.own.set b (t : Int), -1, 0, 0⟩ k' n ∧ ExtB [q] h H := by
  have bneI : ∀ {a b : Int}, (a != b) = !(a == b) := rfl
  have lx : ∀ (loc vals : List AV) (h : Heap), evPure loc (.c (.sl bx ox m cc) :: vals) h (.len .sl (.val 0)) = some (.c (.int .i64 (m : Int))) := fun _ _ _ => rfl
  have v1 : decide ((i : Int) < (m : Int)) = true := ltNat hi
  have v3 : decide ((i : Int) < 40) = true := decide_eq_true (by omega)
  have v2 := succI (i := i) (by omega)
  have m1 : Nat.blt i m = true := bltT hi
  obtain ⟨b', o', c', e', _, rx⟩ := hx.sl (by omega)
  cases e'
  have k0 := rx i (by omega)
  have un : IntKind.u64.wrap (n : Int) = (n : Int) := wrapUNat (by have := d.n4; omega)
  have n0 : ((n : Int) == 0) = false := by simp only [beq_eq_false_iff_ne, ne_eq]; omega
  have r5 : h.read q 0 5 = some (dc D k) := rd5 d.g
  obtain ⟨h1, e1, x1⟩ : ∃ h', evCallT table 12 100 8 17 [.agg (dc D k), .c (.int .i64 (p : Int))] h = some (.c (.int .i64 (D.own[(p % 16 * 7 + p / 16 % 16) % 16]'(by rw [d.v.len]; omega))), h') ∧ Ext h h' := shard_ok (N := 100) (d := 6) d.v (by omega) rfl
  have d1 := d.ext x1
  have r51 : h1.read q 0 5 = some (dc D k) := rd5 d1.g
  have d1n4 := d.n4
  have ok4 := d.ok.more (m := 4) (by omega)
  obtain ⟨M, hM⟩ : ∃ M : Dr, M = ⟨D.ver, D.own, (b : Int), (t : Int), 1⟩ := ⟨_, rfl⟩
  have okP : ∀ ph, ph = 1 ∨ ph = 2 → OkD ⟨D.ver, D.own, (b : Int), (t : Int), ph⟩ 4 := fun ph hp => ⟨ok4.v1, ok4.v2, ok4.ow, .inr ⟨by show (0 : Int) ≤ (b : Int); omega, by show (b : Int) < 16; omega, by show (0 : Int) ≤ (t : Int); omega, by show (t : Int) < 4; omega, by
    show D.own[(b : Int).toNat]? ≠ some (t : Int)
    rw [Int.toNat_natCast, List.getElem?_eq_getElem (by rw [d.v.len]; exact hb)]
    intro e'; simp only [Option.some.injEq] at e'; exact e e', hp⟩⟩
  have keyB := begin_ok (N := 100) (d := 5) d1.v ok4 d.bk hb (t := (t : Int)) (by omega) e (by omega)
  rw [← hM] at keyB
  obtain ⟨kM, h2, e2', vM, x2⟩ := keyB
  have e2 : evCallT table 12 100 8 13 [.agg (dc D k), .c (.int .i64 (b : Int)), .c (.int .i64 (t : Int))] h1 = some (.tup [.agg (dc M kM), .c (.int .i64 0)], h2) := e2'
  have okM : OkD M 4 := by rw [hM]; exact okP 1 (.inl rfl)
  obtain ⟨h3, w3, g3, x3, n3⟩ := box5 h2 M kM
  have d3 := d1.ext (x2.trans x3)
  have vM3 := vM.ext x3
  have q1 : h3.read q 1 1 = some [.sl k 0 16 (.dy 1)] := read_cells d3.g rfl
  have l16 : ∀ loc vals h', evPure loc (.c (.sl k 0 16 (.dy 1)) :: vals) h' (.len .sl (.val 0)) = some (.c (.int .i64 16)) := fun _ _ _ => rfl
  have mb : Nat.blt b 16 = true := bltT hb
  have rb := d3.v.rd hb
  have ne : ((D.own[b]'(by rw [d.v.len]; exact hb)) == (t : Int)) = false := by simp [e]
  have x13 := (x1.trans x2).trans x3
  have bx1 : bx < h.next := by
    rcases hx with ⟨e1, _⟩ | ⟨i', o'', c'', e1, h2', _⟩
    · cases e1
    · cases e1; exact h2'
  have k03 : h3.read bx (ox + i) 1 = some [.int .i64 (xs[i]'(by omega))] := by rw [x13.read bx1]; exact k0
  have r30 : h3.read h2.next 0 5 = some (dc M kM) := rd5 g3
  obtain ⟨C, hC⟩ : ∃ C : Dr, C = ⟨D.ver, D.own, (b : Int), (t : Int), 2⟩ := ⟨_, rfl⟩
  have keyC := carry_ok (N := 100) (d := 5) vM3 okM (by rw [hM]) (by omega)
  have hMC : (⟨M.ver, M.own, M.bk, M.to, 2⟩ : Dr) = C := by rw [hM, hC]
  rw [hMC] at keyC
  obtain ⟨kC, h4, e4', vC, x4⟩ := keyC
  have e4 : evCallT table 12 100 8 14 [.agg (dc M kM)] h3 = some (.tup [.agg (dc C kC), .c (.int .i64 0)], h4) := e4'
  obtain ⟨h5, w5, g5, x5, n5⟩ := box5 h4 C kC
  have okC : OkD C 4 := by rw [hC]; exact okP 2 (.inr rfl)
  have r50 : h5.read h4.next 0 5 = some (dc C kC) := rd5 g5
  obtain ⟨S, hS⟩ : ∃ S : Dr, S = ⟨D.ver + 1, D.own.set b (t : Int), -1, 0, 0⟩ := ⟨_, rfl⟩
  have keyW := switch_ok (N := 100) (d := 5) (vC.ext x5) okC (by rw [hC]) (b := b) (by rw [hC]) hb (by omega)
  have hCS : (⟨C.ver + 1, C.own.set b C.to, -1, 0, 0⟩ : Dr) = S := by rw [hC, hS]
  rw [hCS] at keyW
  obtain ⟨kS, h6, e6', vS, x6⟩ := keyW
  have e6 : evCallT table 12 100 8 15 [.agg (dc C kC)] h5 = some (.tup [.agg (dc S kS), .c (.int .i64 0)], h6) := e6'
  obtain ⟨h7, w7, g7, x7, n7⟩ := box5 h6 S kS
  have r70 : h7.read h6.next 0 5 = some (dc S kS) := rd5 g7
  have ov := d.ok.v1
  have u7 : IntKind.i64.wrap (D.ver + 1) = D.ver + 1 := wrapI (by omega) (by omega)
  have vS7 := vS.ext x7
  have so : S.own = D.own.set b (t : Int) := by rw [hS]
  have sv : S.ver = D.ver + 1 := by rw [hS]
  have mo : M.own = D.own := by rw [hM]
  have co : C.own = D.own := by rw [hC]
  obtain ⟨pb, hpb⟩ : ∃ pb, pb = (p % 16 * 7 + p / 16 % 16) % 16 := ⟨_, rfl⟩
  have pb16 : pb < 16 := by omega
  have key8 := shard_ok (N := 100) (d := 6) vS7 (p := p) (b := pb) (by omega) hpb
  obtain ⟨h8, e8', x8⟩ := key8
  have e8 : evCallT table 12 100 8 17 [.agg (dc S kS), .c (.int .i64 (p : Int))] h7 = some (.c (.int .i64 ((D.own.set b (t : Int))[pb]'(by rw [List.length_set, d.v.len]; exact pb16))), h8) := by
    simp only [so] at e8'; exact e8'
  have s80 : h8.read h6.next 0 1 = some [.int .i64 (D.ver + 1)] := by rw [← sv]; exact read_cells (x8.at_ g7 (by omega)) rfl
  have xM8 := ((x4.trans x5).trans (x6.trans x7)).trans x8
  have r8M : h8.read h2.next 0 5 = some (dc M kM) := rd5 (xM8.at_ g3 (by omega))
  obtain ⟨h9, e9', x9⟩ := shard_ok (N := 100) (d := 6) (vM3.ext xM8) (p := p) (b := pb) (by omega) hpb
  have e9 : evCallT table 12 100 8 17 [.agg (dc M kM), .c (.int .i64 (p : Int))] h8 = some (.c (.int .i64 (D.own[pb]'(by rw [d.v.len]; exact pb16))), h9) := by
    simp only [mo] at e9'; exact e9'
  have xC9 := ((x6.trans x7).trans x8).trans x9
  have r9C : h9.read h4.next 0 5 = some (dc C kC) := rd5 (xC9.at_ g5 (by omega))
  obtain ⟨h10, e10', x10⟩ := shard_ok (N := 100) (d := 6) ((vC.ext x5).ext xC9) (p := p) (b := pb) (by omega) hpb
  have e10 : evCallT table 12 100 8 17 [.agg (dc C kC), .c (.int .i64 (p : Int))] h9 = some (.c (.int .i64 (D.own[pb]'(by rw [d.v.len]; exact pb16))), h10) := by
    simp only [co] at e10'; exact e10'
  have e1w : evCallT table 12 100 8 17 [.agg (dc D k), .c (.int .i64 (p : Int))] h = some (.c (.int .i64 (D.own[pb]'(by rw [d.v.len]; exact pb16))), h1) := by
    rw [e1]; simp only [hpb]
  have ebk : evCallT table 12 100 8 19 [.c (.int .i64 (p : Int))] h10 = some (.c (.int .i64 (pb : Int)), h10) := by
    have := bucket_ok (N := 100) (d := 7) (h := h10) p (by omega)
    rw [← hpb] at this; exact this
  have xS10 := (x8.trans x9).trans x10
  have r10S : h10.read h6.next 0 5 = some (dc S kS) := rd5 (xS10.at_ g7 (by omega))
  have okS : OkD S (n : Int) := by
    rw [hS]
    exact ⟨by show (1 : Int) ≤ D.ver + 1; omega, by show D.ver + 1 ≤ 1000000; omega, fun s hs => by
      rcases List.mem_or_eq_of_mem_set hs with h1 | h1
      · exact d.ok.ow s h1
      · rw [h1]; omega, .inl ⟨rfl, rfl, rfl⟩⟩
  have vS10 := vS7.ext xS10
  obtain ⟨h11, e11, x11⟩ : ∃ h', evCallT table 12 100 8 20 [.agg (dc S kS), .c (.int .i64 (n : Int))] h10 = some (.c (.bool true), h') ∧ Ext h10 h' := may_ok (N := 100) (d := 7) vS10 okS (by omega)
  have r11S : h11.read h6.next 0 5 = some (dc S kS) := rd5 ((xS10.trans x11).at_ g7 (by omega))
  have xall : Ext h h11 := ((x13.trans xM8).trans (x9.trans x10)).trans x11
  have g11 := xall.at_ d.g d.qn
  obtain ⟨h12, w12, g12, o12, n12⟩ := wr (o := 0) (v := dc S kS) g11 (by simp [dc])
  have g12' : h12.get q = some (.cells (dc S kS)) := by rw [g12]; simp [dc]
  have vS11 := vS10.ext x11
  have kne := vS11.ne g11
  have xan := xall.1
  have dn := d.qn
  have hpe : pb = b := by omega
  subst hpe
  have now : (D.own.set pb (t : Int))[pb]'(by rw [List.length_set, d.v.len]; exact pb16) = (t : Int) := by simp
  rw [now] at e8
  have z1 : ((t : Int) == (D.own[pb]'(by rw [d.v.len]; exact pb16))) = false := by simp only [beq_eq_false_iff_ne, ne_eq]; exact fun e' => e e'.symm
  have z2 : ((pb : Int) == (pb : Int)) = true := by simp
  have z3 : ((t : Int) == (t : Int)) = true := by simp
  unfold ir4_l0
  simp only [enter_eq, ev_seq, seqK_norm, seqK_exit, seqK_ret, ev_reg, ev_cond, condK_true, condK_false, ev_block, blockK_norm, blockK_ret, blockK_exit, ev_loop, ev_skip, ev_exit, ev_ret, regK_cons, regK_nil, guard_none, guard_some, regG_true, regG_false, regO_some, op_mov, op_conv, op_bin, op_bsl, op_box, op_mks, op_s2b, op_pick, op_un, op_eq, op_len, op_ext, op_load, op_iaddr, op_slice, op_b2s, op_idxS, op_mx, op_mn, op_call, op_store, op_app, op_copy, args_eq, result_one', rv_loc, finish_norm, finish_ret, outK_some, keep_true, keep_false, keep_nil, p_bin, p_pick, p_un, p_eq, p_conv, evNew, pureK_some, newK_some, X.eval, set_none, set_some, List.map_cons, List.map_nil, List.getD_cons_zero, List.getD_cons_succ, List.getD_nil, List.set_cons_zero, List.set_cons_succ, binCV, unCV, isShift, intArithF_eq, shiftF_eq, wrapF_eq, intArith, shift, eqVal, bound, asNat_cast, cond_true, cond_false, BEq.rfl, beq_self_eq_true, evalParts, fillParts, AV.cells, AV.ofCells, XV.av, AV.xv, List.length_cons, List.length_nil, zeros, patch, setMany, List.nil_append, List.cons_append, Nat.ble, Nat.add_eq, Nat.zero_add, Nat.add_zero, Nat.reduceAdd, Nat.reduceMul, Nat.reduceSub, Nat.ble_eq, Nat.reduceLeDiff, Nat.reduceBEq, Int.reduceBEq, Int.reduceNeg, Bool.and_true, Bool.and_false, Bool.true_and, Bool.false_and, Bool.not_true, Bool.not_false, Bool.true_eq_false, Bool.false_eq_true, Int.reduceLT, Int.reduceLE, Int.reduceGT, Int.reduceGE, decide_true, decide_false, Bool.not_eq_true, loopN_norm, loopN_exit, tf, ft, ff, ev_dreg, dregK_nil, dregK_cons, dregE_true, dregP_some, dregX_some, d_mov, d_bin, d_eq, d_pick, d_un, d_conv, d_b2s, d_len, d_load, d_iaddr, d_slice, d_ext, d_call, d_store, chk_done, chk_none, chk_some, chkG_true, chkG_false, chkOne_nil, chkOne_cons, chkH_some, chkV_same, stage_none, stage_some, look_hit, look_miss, news_nil, wb_cons, wb_nil, skip0, List.reverse_cons, List.reverse_nil, bneI, lx, v1, v2, v3, m1, p_iaddr, p_faddr, op_faddr, p_load, AV.ofCells, Nat.mul_one, k0, eb, un, n0, et, r5, e1w, r51, e2, op_ext, p_ext, List.getElem?_cons_zero, List.getElem?_cons_succ, evEff, dc_five, w3, q1, l16, mb, rb, ne, bne_self_eq_false, k03, eK, hK, r30, e4, w5, r50, e6, w7, u7, r70, e8, s80, r8M, e9, r9C, e10, ebk, z1, z2, z3, r10S, e11, r11S, w12]
  refine ⟨_, _, kS, rfl, ?_, ⟨by rw [← hS]; exact g12', by rw [← hS]; exact ⟨by rw [o12 kS kne]; exact vS11.own, by have := vS11.lt; omega, vS11.len⟩, by omega, by rw [← hS]; exact okS, rfl, rfl, rfl, d.n4, d.n1⟩, ⟨by omega, fun j hj hn => ?_⟩⟩
  · rfl
  · rw [o12 j (by simpa using hn)]; exact xall.2 j hj

theorem stepElse (d : Dk h q D k n) (hx : Ints h (.sl bx ox m cc) xs) (hm : xs.length = m) {i b t : Nat} (hi : i < m) (hi2 : i < 40) (hp : p < 48)
    (hb : b < 16) (eb : IntKind.i64.wrap (Int.tmod (IntKind.u64.wrap (xs[i]'(by omega))) 16) = (b : Int)) (ht : t < n) (et : IntKind.i64.wrap (Int.tmod (IntKind.u64.wrap (Int.tdiv (IntKind.u64.wrap (xs[i]'(by omega))) 16)) (n : Int)) = (t : Int))
    (e : D.own[b]'(by rw [d.v.len]; exact hb) ≠ (t : Int)) {K : Int} (eK : IntKind.i64.wrap ((BitVec.ofInt IntKind.i64.bits ((xs[i]'(by omega)).fdiv (2 ^ (min (Int.toNat 10) IntKind.i64.bits))) &&& BitVec.ofInt IntKind.i64.bits 1).toNat : Int) = K) (hK : (K == 1) = false) (hv : D.ver ≤ 1000) (hpbN : (p % 16 * 7 + p / 16 % 16) % 16 ≠ b) :
    ∃ l H k', ev (evCallT table 12 100 8) 100 ir4_l0 (AtD (.sl bx ox m cc) n q p D.ver i) h = some (.norm, l, H) ∧ keepOnly ir4_k0 l = AtD (.sl bx ox m cc) n q p (D.ver + 1) (i + 1) ∧ Dk H q ⟨D.ver + 1, D.own.set b (t : Int), -1, 0, 0⟩ k' n ∧ ExtB [q] h H := by
  have bneI : ∀ {a b : Int}, (a != b) = !(a == b) := rfl
  have lx : ∀ (loc vals : List AV) (h : Heap), evPure loc (.c (.sl bx ox m cc) :: vals) h (.len .sl (.val 0)) = some (.c (.int .i64 (m : Int))) := fun _ _ _ => rfl
  have v1 : decide ((i : Int) < (m : Int)) = true := ltNat hi
  have v3 : decide ((i : Int) < 40) = true := decide_eq_true (by omega)
  have v2 := succI (i := i) (by omega)
  have m1 : Nat.blt i m = true := bltT hi
  obtain ⟨b', o', c', e', _, rx⟩ := hx.sl (by omega)
  cases e'
  have k0 := rx i (by omega)
  have un : IntKind.u64.wrap (n : Int) = (n : Int) := wrapUNat (by have := d.n4; omega)
  have n0 : ((n : Int) == 0) = false := by simp only [beq_eq_false_iff_ne, ne_eq]; omega
  have r5 : h.read q 0 5 = some (dc D k) := rd5 d.g
  obtain ⟨h1, e1, x1⟩ : ∃ h', evCallT table 12 100 8 17 [.agg (dc D k), .c (.int .i64 (p : Int))] h = some (.c (.int .i64 (D.own[(p % 16 * 7 + p / 16 % 16) % 16]'(by rw [d.v.len]; omega))), h') ∧ Ext h h' := shard_ok (N := 100) (d := 6) d.v (by omega) rfl
  have d1 := d.ext x1
  have r51 : h1.read q 0 5 = some (dc D k) := rd5 d1.g
  have d1n4 := d.n4
  have ok4 := d.ok.more (m := 4) (by omega)
  obtain ⟨M, hM⟩ : ∃ M : Dr, M = ⟨D.ver, D.own, (b : Int), (t : Int), 1⟩ := ⟨_, rfl⟩
  have okP : ∀ ph, ph = 1 ∨ ph = 2 → OkD ⟨D.ver, D.own, (b : Int), (t : Int), ph⟩ 4 := fun ph hp => ⟨ok4.v1, ok4.v2, ok4.ow, .inr ⟨by show (0 : Int) ≤ (b : Int); omega, by show (b : Int) < 16; omega, by show (0 : Int) ≤ (t : Int); omega, by show (t : Int) < 4; omega, by
    show D.own[(b : Int).toNat]? ≠ some (t : Int)
    rw [Int.toNat_natCast, List.getElem?_eq_getElem (by rw [d.v.len]; exact hb)]
    intro e'; simp only [Option.some.injEq] at e'; exact e e', hp⟩⟩
  have keyB := begin_ok (N := 100) (d := 5) d1.v ok4 d.bk hb (t := (t : Int)) (by omega) e (by omega)
  rw [← hM] at keyB
  obtain ⟨kM, h2, e2', vM, x2⟩ := keyB
  have e2 : evCallT table 12 100 8 13 [.agg (dc D k), .c (.int .i64 (b : Int)), .c (.int .i64 (t : Int))] h1 = some (.tup [.agg (dc M kM), .c (.int .i64 0)], h2) := e2'
  have okM : OkD M 4 := by rw [hM]; exact okP 1 (.inl rfl)
  obtain ⟨h3, w3, g3, x3, n3⟩ := box5 h2 M kM
  have d3 := d1.ext (x2.trans x3)
  have vM3 := vM.ext x3
  have q1 : h3.read q 1 1 = some [.sl k 0 16 (.dy 1)] := read_cells d3.g rfl
  have l16 : ∀ loc vals h', evPure loc (.c (.sl k 0 16 (.dy 1)) :: vals) h' (.len .sl (.val 0)) = some (.c (.int .i64 16)) := fun _ _ _ => rfl
  have mb : Nat.blt b 16 = true := bltT hb
  have rb := d3.v.rd hb
  have ne : ((D.own[b]'(by rw [d.v.len]; exact hb)) == (t : Int)) = false := by simp [e]
  have x13 := (x1.trans x2).trans x3
  have bx1 : bx < h.next := by
    rcases hx with ⟨e1, _⟩ | ⟨i', o'', c'', e1, h2', _⟩
    · cases e1
    · cases e1; exact h2'
  have k03 : h3.read bx (ox + i) 1 = some [.int .i64 (xs[i]'(by omega))] := by rw [x13.read bx1]; exact k0
  have r30 : h3.read h2.next 0 5 = some (dc M kM) := rd5 g3
  obtain ⟨C, hC⟩ : ∃ C : Dr, C = ⟨D.ver, D.own, (b : Int), (t : Int), 2⟩ := ⟨_, rfl⟩
  have keyC := carry_ok (N := 100) (d := 5) vM3 okM (by rw [hM]) (by omega)
  have hMC : (⟨M.ver, M.own, M.bk, M.to, 2⟩ : Dr) = C := by rw [hM, hC]
  rw [hMC] at keyC
  obtain ⟨kC, h4, e4', vC, x4⟩ := keyC
  have e4 : evCallT table 12 100 8 14 [.agg (dc M kM)] h3 = some (.tup [.agg (dc C kC), .c (.int .i64 0)], h4) := e4'
  obtain ⟨h5, w5, g5, x5, n5⟩ := box5 h4 C kC
  have okC : OkD C 4 := by rw [hC]; exact okP 2 (.inr rfl)
  have r50 : h5.read h4.next 0 5 = some (dc C kC) := rd5 g5
  obtain ⟨S, hS⟩ : ∃ S : Dr, S = ⟨D.ver + 1, D.own.set b (t : Int), -1, 0, 0⟩ := ⟨_, rfl⟩
  have keyW := switch_ok (N := 100) (d := 5) (vC.ext x5) okC (by rw [hC]) (b := b) (by rw [hC]) hb (by omega)
  have hCS : (⟨C.ver + 1, C.own.set b C.to, -1, 0, 0⟩ : Dr) = S := by rw [hC, hS]
  rw [hCS] at keyW
  obtain ⟨kS, h6, e6', vS, x6⟩ := keyW
  have e6 : evCallT table 12 100 8 15 [.agg (dc C kC)] h5 = some (.tup [.agg (dc S kS), .c (.int .i64 0)], h6) := e6'
  obtain ⟨h7, w7, g7, x7, n7⟩ := box5 h6 S kS
  have r70 : h7.read h6.next 0 5 = some (dc S kS) := rd5 g7
  have ov := d.ok.v1
  have u7 : IntKind.i64.wrap (D.ver + 1) = D.ver + 1 := wrapI (by omega) (by omega)
  have vS7 := vS.ext x7
  have so : S.own = D.own.set b (t : Int) := by rw [hS]
  have sv : S.ver = D.ver + 1 := by rw [hS]
  have mo : M.own = D.own := by rw [hM]
  have co : C.own = D.own := by rw [hC]
  obtain ⟨pb, hpb⟩ : ∃ pb, pb = (p % 16 * 7 + p / 16 % 16) % 16 := ⟨_, rfl⟩
  have pb16 : pb < 16 := by omega
  have key8 := shard_ok (N := 100) (d := 6) vS7 (p := p) (b := pb) (by omega) hpb
  obtain ⟨h8, e8', x8⟩ := key8
  have e8 : evCallT table 12 100 8 17 [.agg (dc S kS), .c (.int .i64 (p : Int))] h7 = some (.c (.int .i64 ((D.own.set b (t : Int))[pb]'(by rw [List.length_set, d.v.len]; exact pb16))), h8) := by
    simp only [so] at e8'; exact e8'
  have s80 : h8.read h6.next 0 1 = some [.int .i64 (D.ver + 1)] := by rw [← sv]; exact read_cells (x8.at_ g7 (by omega)) rfl
  have xM8 := ((x4.trans x5).trans (x6.trans x7)).trans x8
  have r8M : h8.read h2.next 0 5 = some (dc M kM) := rd5 (xM8.at_ g3 (by omega))
  obtain ⟨h9, e9', x9⟩ := shard_ok (N := 100) (d := 6) (vM3.ext xM8) (p := p) (b := pb) (by omega) hpb
  have e9 : evCallT table 12 100 8 17 [.agg (dc M kM), .c (.int .i64 (p : Int))] h8 = some (.c (.int .i64 (D.own[pb]'(by rw [d.v.len]; exact pb16))), h9) := by
    simp only [mo] at e9'; exact e9'
  have xC9 := ((x6.trans x7).trans x8).trans x9
  have r9C : h9.read h4.next 0 5 = some (dc C kC) := rd5 (xC9.at_ g5 (by omega))
  obtain ⟨h10, e10', x10⟩ := shard_ok (N := 100) (d := 6) ((vC.ext x5).ext xC9) (p := p) (b := pb) (by omega) hpb
  have e10 : evCallT table 12 100 8 17 [.agg (dc C kC), .c (.int .i64 (p : Int))] h9 = some (.c (.int .i64 (D.own[pb]'(by rw [d.v.len]; exact pb16))), h10) := by
    simp only [co] at e10'; exact e10'
  have e1w : evCallT table 12 100 8 17 [.agg (dc D k), .c (.int .i64 (p : Int))] h = some (.c (.int .i64 (D.own[pb]'(by rw [d.v.len]; exact pb16))), h1) := by
    rw [e1]; simp only [hpb]
  have ebk : evCallT table 12 100 8 19 [.c (.int .i64 (p : Int))] h10 = some (.c (.int .i64 (pb : Int)), h10) := by
    have := bucket_ok (N := 100) (d := 7) (h := h10) p (by omega)
    rw [← hpb] at this; exact this
  have xS10 := (x8.trans x9).trans x10
  have r10S : h10.read h6.next 0 5 = some (dc S kS) := rd5 (xS10.at_ g7 (by omega))
  have okS : OkD S (n : Int) := by
    rw [hS]
    exact ⟨by show (1 : Int) ≤ D.ver + 1; omega, by show D.ver + 1 ≤ 1000000; omega, fun s hs => by
      rcases List.mem_or_eq_of_mem_set hs with h1 | h1
      · exact d.ok.ow s h1
      · rw [h1]; omega, .inl ⟨rfl, rfl, rfl⟩⟩
  have vS10 := vS7.ext xS10
  obtain ⟨h11, e11, x11⟩ : ∃ h', evCallT table 12 100 8 20 [.agg (dc S kS), .c (.int .i64 (n : Int))] h10 = some (.c (.bool true), h') ∧ Ext h10 h' := may_ok (N := 100) (d := 7) vS10 okS (by omega)
  have r11S : h11.read h6.next 0 5 = some (dc S kS) := rd5 ((xS10.trans x11).at_ g7 (by omega))
  have xall : Ext h h11 := ((x13.trans xM8).trans (x9.trans x10)).trans x11
  have g11 := xall.at_ d.g d.qn
  obtain ⟨h12, w12, g12, o12, n12⟩ := wr (o := 0) (v := dc S kS) g11 (by simp [dc])
  have g12' : h12.get q = some (.cells (dc S kS)) := by rw [g12]; simp [dc]
  have vS11 := vS10.ext x11
  have kne := vS11.ne g11
  have xan := xall.1
  have dn := d.qn
  have hpe : pb ≠ b := by omega
  have now : (D.own.set b (t : Int))[pb]'(by rw [List.length_set, d.v.len]; exact pb16) = D.own[pb]'(by rw [d.v.len]; exact pb16) := List.getElem_set_ne (fun e' => hpe e'.symm) _
  rw [now] at e8
  have z2 : ((pb : Int) == (b : Int)) = false := by simp only [beq_eq_false_iff_ne, ne_eq]; omega
  unfold ir4_l0
  simp only [enter_eq, ev_seq, seqK_norm, seqK_exit, seqK_ret, ev_reg, ev_cond, condK_true, condK_false, ev_block, blockK_norm, blockK_ret, blockK_exit, ev_loop, ev_skip, ev_exit, ev_ret, regK_cons, regK_nil, guard_none, guard_some, regG_true, regG_false, regO_some, op_mov, op_conv, op_bin, op_bsl, op_box, op_mks, op_s2b, op_pick, op_un, op_eq, op_len, op_ext, op_load, op_iaddr, op_slice, op_b2s, op_idxS, op_mx, op_mn, op_call, op_store, op_app, op_copy, args_eq, result_one', rv_loc, finish_norm, finish_ret, outK_some, keep_true, keep_false, keep_nil, p_bin, p_pick, p_un, p_eq, p_conv, evNew, pureK_some, newK_some, X.eval, set_none, set_some, List.map_cons, List.map_nil, List.getD_cons_zero, List.getD_cons_succ, List.getD_nil, List.set_cons_zero, List.set_cons_succ, binCV, unCV, isShift, intArithF_eq, shiftF_eq, wrapF_eq, intArith, shift, eqVal, bound, asNat_cast, cond_true, cond_false, BEq.rfl, beq_self_eq_true, evalParts, fillParts, AV.cells, AV.ofCells, XV.av, AV.xv, List.length_cons, List.length_nil, zeros, patch, setMany, List.nil_append, List.cons_append, Nat.ble, Nat.add_eq, Nat.zero_add, Nat.add_zero, Nat.reduceAdd, Nat.reduceMul, Nat.reduceSub, Nat.ble_eq, Nat.reduceLeDiff, Nat.reduceBEq, Int.reduceBEq, Int.reduceNeg, Bool.and_true, Bool.and_false, Bool.true_and, Bool.false_and, Bool.not_true, Bool.not_false, Bool.true_eq_false, Bool.false_eq_true, Int.reduceLT, Int.reduceLE, Int.reduceGT, Int.reduceGE, decide_true, decide_false, Bool.not_eq_true, loopN_norm, loopN_exit, tf, ft, ff, ev_dreg, dregK_nil, dregK_cons, dregE_true, dregP_some, dregX_some, d_mov, d_bin, d_eq, d_pick, d_un, d_conv, d_b2s, d_len, d_load, d_iaddr, d_slice, d_ext, d_call, d_store, chk_done, chk_none, chk_some, chkG_true, chkG_false, chkOne_nil, chkOne_cons, chkH_some, chkV_same, stage_none, stage_some, look_hit, look_miss, news_nil, wb_cons, wb_nil, skip0, List.reverse_cons, List.reverse_nil, bneI, lx, v1, v2, v3, m1, p_iaddr, p_faddr, op_faddr, p_load, AV.ofCells, Nat.mul_one, k0, eb, un, n0, et, r5, e1w, r51, e2, op_ext, p_ext, List.getElem?_cons_zero, List.getElem?_cons_succ, evEff, dc_five, w3, q1, l16, mb, rb, ne, bne_self_eq_false, k03, eK, hK, r30, e4, w5, r50, e6, w7, u7, r70, e8, s80, r8M, e9, r9C, e10, ebk, z2, r10S, e11, r11S, w12]
  refine ⟨_, _, kS, rfl, ?_, ⟨by rw [← hS]; exact g12', by rw [← hS]; exact ⟨by rw [o12 kS kne]; exact vS11.own, by have := vS11.lt; omega, vS11.len⟩, by omega, by rw [← hS]; exact okS, rfl, rfl, rfl, d.n4, d.n1⟩, ⟨by omega, fun j hj hn => ?_⟩⟩
  · rfl
  · rw [o12 j (by simpa using hn)]; exact xall.2 j hj

end

theorem Ints.keepD {S : List Nat} {h h' : Heap} {x : CV} {xs : List Int} (hx : Ints h x xs) (e : ExtB S h h') (hs : ∀ k, blk x = some k → k ∉ S) : Ints h' x xs := by
  rcases hx with h1 | ⟨i, o, c, rfl, h2, h3⟩
  · exact .inl h1
  · refine .inr ⟨i, o, c, rfl, Nat.lt_of_lt_of_le h2 e.1, fun j v hj => ?_⟩
    have := e.2 i h2 (hs i rfl)
    have h4 := h3 j v hj
    simp only [Heap.read] at h4 ⊢
    rw [this]; exact h4

theorem dirMoves {x : CV} {h : Heap} {xs : List Int} (a0 a2 : Int) (hx : Ints h x xs) : good (evCallT table 12 100 9 4 [.c (.int .i64 a0), .c x, .c (.int .i64 a2)] h) = true := by
  have lx : ∀ (loc vals : List AV) (h : Heap), evPure loc (.c x :: vals) h (.len .sl (.val 0)) = some (.c (.int .i64 (xs.length : Int))) := fun _ _ _ => hx.len rfl
  obtain ⟨s, hs, es⟩ := few (a := a0) (m := 4) (by omega) (by omega)
  have es' : IntKind.i64.wrap (Int.tmod (IntKind.u64.wrap a0) 4) = (s : Int) := es
  obtain ⟨n, hn⟩ : ∃ n : Nat, n = 1 + s := ⟨_, rfl⟩
  have en : IntKind.i64.wrap (1 + (s : Int)) = (n : Int) := by rw [wrapI (by omega) (by omega)]; omega
  obtain ⟨p, hp, ep⟩ := few (a := a2) (m := 48) (by omega) (by omega)
  have ep' : IntKind.i64.wrap (Int.tmod (IntKind.u64.wrap a2) 48) = (p : Int) := ep
  obtain ⟨k, h1, e1, v1, x1⟩ : ∃ k h', evCallT table 12 100 8 11 [.c (.int .i64 (n : Int))] h = some (.agg (dc ⟨1, ownN n 16, -1, 0, 0⟩ k), h') ∧ DV h' ⟨1, ownN n 16, -1, 0, 0⟩ k ∧ Ext h h' := new_ok (N := 100) (d := 7) (by omega) (by omega) (by omega)
  obtain ⟨h2, w2, g2, x2, n2⟩ := box5 h1 ⟨1, ownN n 16, -1, 0, 0⟩ k
  have D0 : Dk h2 h1.next ⟨1, ownN n 16, -1, 0, 0⟩ k n := ⟨g2, v1.ext x2, by omega, ⟨Int.le_refl _, by show (1 : Int) ≤ 1000000; decide, fun s hs => by
    obtain ⟨j, _, rfl⟩ := List.mem_map.1 hs
    have := Nat.mod_lt j (show 0 < n by omega)
    omega, .inl ⟨rfl, rfl, rfl⟩⟩, rfl, rfl, rfl, by omega, by omega⟩
  have hx2 : Ints h2 x xs := (hx.ext x1).ext x2
  have hx1n := x1.1
  have hxb : ∀ k, blk x = some k → k ∉ [h1.next] := fun k hk hS => by
    rcases hx with ⟨rfl, _⟩ | ⟨i, o, c, rfl, hi, _⟩
    · cases hk
    · simp [blk] at hk; simp at hS; omega
  rw [evCallT_eq (F := ir4) rfl rfl rfl]
  unfold ir4
  rw [bodyK_eq]
  have L : ∀ loc, keepOnly ir4_k0 loc = AtD x n h1.next p 1 0 → ∃ r, loopK (evCallT table 12 100 8) 100 ir4_k0 ir4_l0 100 loc h2 = some r ∧ ∃ a0 a1 a2 a3 l h', r = (.exit 0, a0 :: a1 :: a2 :: a3 :: l, h') := by
    intro loc hloc
    refine loop_inv (n := min xs.length 40) (fun i loc h' => ∃ D k, Dk h' h1.next D k n ∧ D.ver ≤ (i : Int) + 1 ∧ Ints h' x xs ∧ loc = AtD x n h1.next p D.ver i) _ ?_ ⟨_, _, D0, by show (1 : Int) ≤ _; omega, hx2, hloc⟩ (by omega)
    rintro i loc h' hi ⟨D, k, d, hv, hx', rfl⟩
    by_cases hlt : i < xs.length ∧ i < 40
    · left
      refine ⟨by omega, ?_⟩
      obtain ⟨hl1, hl2⟩ := hlt
      obtain ⟨b, hb, eb⟩ := few (a := xs[i]) (m := 16) (by omega) (by omega)
      have eb' : IntKind.i64.wrap (Int.tmod (IntKind.u64.wrap xs[i]) 16) = (b : Int) := eb
      obtain ⟨E, hE⟩ : ∃ E, E = Int.tdiv (IntKind.u64.wrap xs[i]) 16 := ⟨_, rfl⟩
      obtain ⟨t, ht, et⟩ := few (a := E) (m := n) (by omega) (by omega)
      rw [hE] at et
      obtain ⟨K, eK⟩ : ∃ K, IntKind.i64.wrap ((BitVec.ofInt IntKind.i64.bits (xs[i].fdiv (2 ^ (min (Int.toNat 10) IntKind.i64.bits))) &&& BitVec.ofInt IntKind.i64.bits 1).toNat : Int) = K := ⟨_, rfl⟩
      obtain ⟨bx, ox, cc, rfl, _, _⟩ := hx'.sl (by omega)
      by_cases e : D.own[b]'(by rw [d.v.len]; exact hb) = (t : Int)
      · obtain ⟨l, H, e1, e2, d2, x⟩ := stepSkip d hx' rfl hl1 hl2 hp hb eb' ht et e
        exact ⟨_, _, e1, _, _, d2, by omega, hx'.ext x, e2⟩
      · cases hK : (K == 1) with
        | true =>
          obtain ⟨l, H, e1, e2, d2, x⟩ := stepStop d hx' rfl hl1 hl2 hp hb eb' ht et e eK hK
          exact ⟨_, _, e1, _, _, d2, by omega, hx'.ext x, e2⟩
        | false =>
          by_cases hpb : (p % 16 * 7 + p / 16 % 16) % 16 = b
          · obtain ⟨l, H, k', e1, e2, d2, x⟩ := stepThere d hx' rfl hl1 hl2 hp hb eb' ht et e eK hK (by omega) hpb
            exact ⟨_, _, e1, _, _, d2, by show D.ver + 1 ≤ _; omega, hx'.keepD x hxb, e2⟩
          · obtain ⟨l, H, k', e1, e2, d2, x⟩ := stepElse d hx' rfl hl1 hl2 hp hb eb' ht et e eK hK (by omega) hpb
            exact ⟨_, _, e1, _, _, d2, by show D.ver + 1 ≤ _; omega, hx'.keepD x hxb, e2⟩
    · right
      unfold ir4_l0
      by_cases h3 : i < xs.length
      · have v1 : decide ((i : Int) < (xs.length : Int)) = true := ltNat h3
        have v3 : decide ((i : Int) < 40) = false := decide_eq_false (by omega)
        simp only [enter_eq, ev_seq, seqK_norm, seqK_exit, seqK_ret, ev_reg, ev_cond, condK_true, condK_false, ev_block, blockK_norm, blockK_ret, blockK_exit, ev_loop, ev_skip, ev_exit, ev_ret, regK_cons, regK_nil, guard_none, guard_some, regG_true, regG_false, regO_some, op_mov, op_conv, op_bin, op_bsl, op_box, op_mks, op_s2b, op_pick, op_un, op_eq, op_len, op_ext, op_load, op_iaddr, op_slice, op_b2s, op_idxS, op_mx, op_mn, op_call, op_store, op_app, op_copy, args_eq, result_one', rv_loc, finish_norm, finish_ret, outK_some, keep_true, keep_false, keep_nil, p_bin, p_pick, p_un, p_eq, p_conv, evNew, pureK_some, newK_some, X.eval, set_none, set_some, List.map_cons, List.map_nil, List.getD_cons_zero, List.getD_cons_succ, List.getD_nil, List.set_cons_zero, List.set_cons_succ, binCV, unCV, isShift, intArithF_eq, shiftF_eq, wrapF_eq, intArith, shift, eqVal, bound, asNat_cast, cond_true, cond_false, BEq.rfl, beq_self_eq_true, evalParts, fillParts, AV.cells, AV.ofCells, XV.av, AV.xv, List.length_cons, List.length_nil, zeros, patch, setMany, List.nil_append, List.cons_append, Nat.ble, Nat.add_eq, Nat.zero_add, Nat.add_zero, Nat.reduceAdd, Nat.reduceMul, Nat.reduceSub, Nat.ble_eq, Nat.reduceLeDiff, Nat.reduceBEq, Int.reduceBEq, Int.reduceNeg, Bool.and_true, Bool.and_false, Bool.true_and, Bool.false_and, Bool.not_true, Bool.not_false, Bool.true_eq_false, Bool.false_eq_true, Int.reduceLT, Int.reduceLE, Int.reduceGT, Int.reduceGE, decide_true, decide_false, Bool.not_eq_true, loopN_norm, loopN_exit, tf, ft, ff, lx, v1, v3]
        exact ⟨_, rfl, by simp, _, _, _, _, _, _, rfl⟩
      · have v1 : decide ((i : Int) < (xs.length : Int)) = false := geNat (by omega)
        simp only [enter_eq, ev_seq, seqK_norm, seqK_exit, seqK_ret, ev_reg, ev_cond, condK_true, condK_false, ev_block, blockK_norm, blockK_ret, blockK_exit, ev_loop, ev_skip, ev_exit, ev_ret, regK_cons, regK_nil, guard_none, guard_some, regG_true, regG_false, regO_some, op_mov, op_conv, op_bin, op_bsl, op_box, op_mks, op_s2b, op_pick, op_un, op_eq, op_len, op_ext, op_load, op_iaddr, op_slice, op_b2s, op_idxS, op_mx, op_mn, op_call, op_store, op_app, op_copy, args_eq, result_one', rv_loc, finish_norm, finish_ret, outK_some, keep_true, keep_false, keep_nil, p_bin, p_pick, p_un, p_eq, p_conv, evNew, pureK_some, newK_some, X.eval, set_none, set_some, List.map_cons, List.map_nil, List.getD_cons_zero, List.getD_cons_succ, List.getD_nil, List.set_cons_zero, List.set_cons_succ, binCV, unCV, isShift, intArithF_eq, shiftF_eq, wrapF_eq, intArith, shift, eqVal, bound, asNat_cast, cond_true, cond_false, BEq.rfl, beq_self_eq_true, evalParts, fillParts, AV.cells, AV.ofCells, XV.av, AV.xv, List.length_cons, List.length_nil, zeros, patch, setMany, List.nil_append, List.cons_append, Nat.ble, Nat.add_eq, Nat.zero_add, Nat.add_zero, Nat.reduceAdd, Nat.reduceMul, Nat.reduceSub, Nat.ble_eq, Nat.reduceLeDiff, Nat.reduceBEq, Int.reduceBEq, Int.reduceNeg, Bool.and_true, Bool.and_false, Bool.true_and, Bool.false_and, Bool.not_true, Bool.not_false, Bool.true_eq_false, Bool.false_eq_true, Int.reduceLT, Int.reduceLE, Int.reduceGT, Int.reduceGE, decide_true, decide_false, Bool.not_eq_true, loopN_norm, loopN_exit, tf, ft, ff, lx, v1]
        exact ⟨_, rfl, by simp, _, _, _, _, _, _, rfl⟩
  obtain ⟨r, hr, b0, b1, b2, b3, l, h', rfl⟩ := L [.c (.int .i64 a0), .c x, .c (.int .i64 a2), .c (.bool false), .c (.int .i64 (n : Int)), .c (.ptr h1.next 0), .c (.int .i64 (p : Int)), .c (.int .i64 1), .c (.int .i64 0), .tup [], .tup [], .tup [], .tup [], .tup [], .tup [], .tup [], .tup [], .tup [], .tup [], .tup [], .tup [], .tup [], .tup [], .tup [], .tup [], .tup [], .tup []] rfl
  simp only [enter_eq, ev_seq, seqK_norm, seqK_exit, seqK_ret, ev_reg, ev_cond, condK_true, condK_false, ev_block, blockK_norm, blockK_ret, blockK_exit, ev_loop, ev_skip, ev_exit, ev_ret, regK_cons, regK_nil, guard_none, guard_some, regG_true, regG_false, regO_some, op_mov, op_conv, op_bin, op_bsl, op_box, op_mks, op_s2b, op_pick, op_un, op_eq, op_len, op_ext, op_load, op_iaddr, op_slice, op_b2s, op_idxS, op_mx, op_mn, op_call, op_store, op_app, op_copy, args_eq, result_one', rv_loc, finish_norm, finish_ret, outK_some, keep_true, keep_false, keep_nil, p_bin, p_pick, p_un, p_eq, p_conv, evNew, pureK_some, newK_some, X.eval, set_none, set_some, List.map_cons, List.map_nil, List.getD_cons_zero, List.getD_cons_succ, List.getD_nil, List.set_cons_zero, List.set_cons_succ, binCV, unCV, isShift, intArithF_eq, shiftF_eq, wrapF_eq, intArith, shift, eqVal, bound, asNat_cast, cond_true, cond_false, BEq.rfl, beq_self_eq_true, evalParts, fillParts, AV.cells, AV.ofCells, XV.av, AV.xv, List.length_cons, List.length_nil, zeros, patch, setMany, List.nil_append, List.cons_append, Nat.ble, Nat.add_eq, Nat.zero_add, Nat.add_zero, Nat.reduceAdd, Nat.reduceMul, Nat.reduceSub, Nat.ble_eq, Nat.reduceLeDiff, Nat.reduceBEq, Int.reduceBEq, Int.reduceNeg, Bool.and_true, Bool.and_false, Bool.true_and, Bool.false_and, Bool.not_true, Bool.not_false, Bool.true_eq_false, Bool.false_eq_true, Int.reduceLT, Int.reduceLE, Int.reduceGT, Int.reduceGE, decide_true, decide_false, Bool.not_eq_true, loopN_norm, loopN_exit, tf, ft, ff, es', en, ep', e1, evEff, dc_five, w2, hr, blockK_exit_eq, evCallT_told]
  rfl

end Lav

namespace Go.Proofs.Ytdeehmncnfdmkaa.dirMoves
open Go.ChangeShapes Go.WideShapes Go.ChangeAt Go.RowKit
open Go.ChangeMaps (open_string shut_string)
set_option linter.unusedVariables false

theorem own : ownKnob Try.prog.godebug = none := by kernel_rfl
theorem laidOut : laidOutB Try.prog = true := by kernel_rfl

/-- WHAT THE WALK IS TOLD OF A SLICE OF INTEGERS THAT CAME IN: it is nil; or it leads to a row of 'cap' cells, the numbers 'zs' (the first 'len' are its elements, the rest its spare room), each fitting its kind. -/
def IsRow (k : IntKind) (w : World) (a : Option Addr) (len cap : Nat) (zs : List Int) : Prop :=
  (a = none ∧ len = 0 ∧ cap = 0 ∧ zs = []) ∨
  ∃ x, a = some x ∧ len ≤ cap ∧ cap ≤ maxLen ∧ zs.length = cap ∧ (∀ i, i < zs.length → w.cell? (x.add i) = some (.int k (zs.getD i 0))) ∧ ∀ n ∈ zs, (Lit.int k n).wf = true

/-! ### STEP 1: THE WALK: the Go text returns true, AND WRITES NOTHING THAT WAS THERE: 'Below w.heap.size w w'' (Derived/Below.lean: '.refl', '.alloc', '.drew', '.setCell' at a new block, '.trans'). Open each 'IsRow' by 'rcases' AHEAD of 'go_enter'; part every test ahead of the walk. -/
theorem walk (a0 : Int) (a1 : Option Addr) (len1 cap1 : Nat) (z1 : List Int) (a2 : Int) (w : World) (w0 : (Lit.int .i64 a0).wf = true) (w1 : IsRow .i64 w a1 len1 cap1 z1) (w2 : (Lit.int .i64 a2).wf = true) :
    Calls Try.prog 4 #[.int .i64 a0, .slice a1 len1 cap1, .int .i64 a2] w fun e w' => e = .returned (.bool true) ∧ Below w.heap.size w w' := by
  obtain ⟨ι, h, x, I, hle, hx, hr⟩ := (Lav.Init.empty w).slice w1
  exact Lav.walk_of (Lav.evCallT_sound Lav.mixed Lav.table_ok Lav.tld19 100 9) I (args := [.c (.int .i64 a0), .c x, .c (.int .i64 a2)]) (vs := [.int .i64 a0, .slice a1 len1 cap1, .int .i64 a2]) ⟨rfl, hx, rfl, trivial⟩ (Lav.dirMoves a0 a2 (Lav.ints_of hr))

/-! ### THE ROW's STEP: WRITTEN OUT: LEAVE IT -/
set_option maxRecDepth 100000 in
theorem lifted (os : Os) (started : os.Started) (H : Type) (enc : TypeId × Value → H) :
    ReturnsInHanded {} Try.checked os 4 .any (Rows.dirMovesSpec.pre6 enc Try.prog Try.f4 Rows.dirMovesRow.domain false) (Rows.dirMovesSpec.post enc Try.prog Try.f4 false true false false) := by
  refine returnsInHanded_of_change (C := Try.checked) own started (by kernel_rfl) Try.func4
    (ChangeSpec.witness6 (enc := enc) (C := Try.checked) false ⟨#[], #[.int .i64 0, .slice none 0 0, .int .i64 0], []⟩ 8 (by kernel_rfl) (by kernel_rfl) (by kernel_rfl) (by kernel_rfl)) ?_
  intro W base args ds gs before hval0 hW hcnd _
  have hval : ∀ (j : Nat) t v, Try.f4.params[j]? = some t → args[j]? = some v → Value.okWide Try.prog W .any base t v := hval0
  have hW' := hW
  obtain ⟨p, q, hA0, hV, rfl, hfz, hnd⟩ := hW
  have hA : DataW.TrodAll enc Try.prog W 0 (fun _ => true) true Try.f4.params.toList args.toList ds p := hA0
  rw [Try.params4] at hA hval
  obtain ⟨v0, vs0, d0, ds0, p0, q0, hargs, rfl, rfl, h0, r0⟩ := trodAll_cons hA
  obtain ⟨v1, vs1, d1, ds1, p1, q1, rfl, rfl, rfl, h1, r1⟩ := trodAll_cons r0
  obtain ⟨v2, vs2, d2, ds2, p2, q2, rfl, rfl, rfl, h2, r2⟩ := trodAll_cons r1
  obtain ⟨rfl, rfl, rfl⟩ := trodAll_nil r2
  obtain rfl : args = #[v0, v1, v2] := by cases args; simp_all
  obtain ⟨rfl, rfl⟩ := trodVars_none hV
  obtain ⟨a0, rfl, rfl, rfl, w0⟩ := open_int Try.underlying3 (hval 0 3 v0 rfl rfl) h0
  obtain ⟨a1, len1, cap1, rfl⟩ := okWide_slice Try.underlying23 (hval 1 23 v1 rfl rfl)
  have k1 := h1
  have lt1 : ∀ x ∈ p1, x.block < W.heap.size := by obtain ⟨m, hm⟩ := k1; exact DataW.trod_lt m _ _ _ hm
  obtain ⟨z1, w1⟩ : ∃ zs, IsRow .i64 W a1 len1 cap1 zs := by
    obtain ⟨fuel, hf⟩ := h1
    rcases open_ints Try.underlying23 Try.underlying3 (by kernel_rfl) hf with ⟨hcs, _⟩ | ⟨x, l, c, zs, hcs, _, hl, hm, hz, _, hcell, hwz⟩
    · simp [Value.cells] at hcs
      obtain ⟨rfl, rfl, rfl⟩ := hcs
      exact ⟨[], .inl ⟨rfl, rfl, rfl, rfl⟩⟩
    · simp [Value.cells] at hcs
      obtain ⟨rfl, rfl, rfl⟩ := hcs
      exact ⟨zs, .inr ⟨_, rfl, hl, hm, by simpa using hz, hcell, hwz⟩⟩
  obtain ⟨a2, rfl, rfl, rfl, w2⟩ := open_int Try.underlying3 (hval 2 3 v2 rfl rfl) h2
  clear hA0 hval0
  refine (walk a0 a1 len1 cap1 z1 a2 W w0 w1 w2).mono fun e W' ⟨he, bel⟩ => ?_
  subst he
  exact ⟨_, rfl, _, _, _, [], _, [], hW', trodAll_mk1 (shut_bool Try.underlying4 _), (trodAll_cons_mk (shut_int Try.underlying3 w0) (trodAll_cons_mk (Below.trod laidOut (by kernel_rfl) (of_decide_eq_true (by kernel_rfl)) k1 bel lt1) (trodAll_cons_mk (shut_int Try.underlying3 w2) trodAll_mk0))), rfl, bel.frame _, fun h => by cases h⟩

theorem over : Rows.dirMovesRow.holds Try.pinned (OpenSpec.ofChange Rows.dirMovesSpec) :=
  OpenClaim.holds_of_wide 4 Try.f4 rfl rfl rfl rfl rfl rfl rfl ⟨rfl, rfl, rfl, rfl, rfl⟩ rfl rfl rfl rfl rfl (by kernel_rfl) Try.func4 (by kernel_rfl)
    (of_decide_eq_true (by kernel_rfl)) (by unfold Func.isWrapper; first | (rw [if_pos (by decide +kernel)]; kernel_rfl) | (rw [if_neg (by decide +kernel)]; exact ⟨rfl, rfl⟩))
    (fun os started H enc _ => lifted os started H enc)

/-- ████ THE STATEMENT ████ -/
theorem proved : Rows.DirMovesSaid := over
end Go.Proofs.Ytdeehmncnfdmkaa.dirMoves
