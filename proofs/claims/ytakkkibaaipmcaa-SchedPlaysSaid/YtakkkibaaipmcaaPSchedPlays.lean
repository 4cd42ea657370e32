/-
  Proved: whatever number of tasks and steps come in, lavabolaw7.SchedPlays returns true and changes nothing that was there. No conditions beyond the given statement's.
-/
import Derived.Test.YtakkkibaaipmcaaRows
import Derived.Test.YtakkkibaaipmcaaFwP
import Derived.Test.YtakkkibaaipmcaaOps0
import Derived.Test.YtakkkibaaipmcaaInts0
import Derived.Test.YtakkkibaaipmcaaRep3
import Derived.Test.YtakkkibaaipmcaaSched1
import Derived.Test.YtakkkibaaipmcaaSched2
import Derived.Test.YtakkkibaaipmcaaSched3
import Derived.Test.YtakkkibaaipmcaaSched4
import Derived.Test.YtakkkibaaipmcaaSched5
import Derived.Test.YtakkkibaaipmcaaSched6
import Derived.WalkKit
import Derived.ProofKit
import Derived.OpenShut
import Derived.ShutString
import Derived.ChangeOld
import Derived.Below
set_option maxRecDepth 100000
set_option linter.unusedSimpArgs false
namespace Lav
open Go (IntKind)
abbrev K19 : List AV := [.junk, .junk, .junk, .junk, .junk, .junk, .junk, .junk, .junk, .junk, .junk, .junk, .junk, .junk, .junk, .junk, .junk, .junk, .junk]
abbrev K15 : List AV := [.junk, .junk, .junk, .junk, .junk, .junk, .junk, .junk, .junk, .junk, .junk, .junk, .junk, .junk, .junk]
abbrev At7 (n : Int) (x : CV) (p q i : Nat) : List AV := .c (.int .i64 n) :: .c x :: .junk :: .c (.ptr p 0) :: .c (.ptr q 0) :: .c (.int .i64 (i : Int)) :: K19

/-- Both schedules stand alike. -/
structure Sd (h : Heap) (p b q e : Nat) (ts : Tks) : Prop where
  s : SB h p b ts
  r : SR h q e ts
  few : ts.length ≤ 64
  inv : ∀ t ∈ ts, t.st = 2 → 0 ≤ t.on
  dis : p ≠ q ∧ p ≠ e ∧ b ≠ q ∧ b ≠ e

section
variable {h : Heap} {p b q e m bx ox : Nat} {ts : Tks} {cc : Cap} {xs : List Int}

theorem Sd.ext (D : Sd h p b q e ts) {h' : Heap} (x : Ext h h') : Sd h' p b q e ts :=
  ⟨D.s.ext (x.b []) (by simp) (by simp), D.r.ext (x.b []) (by simp) (by simp), D.few, D.inv, D.dis⟩
theorem Sd.of {h1 h2 : Heap} {ts' : Tks} (D : Sd h p b q e ts) (s : SB h1 p b ts') (x : ExtB [e] h1 h2) (r : SR h2 q e ts') (hl : ts'.length = ts.length) (inv : ∀ t ∈ ts', t.st = 2 → 0 ≤ t.on) : Sd h2 p b q e ts' :=
  ⟨s.ext x (by simp; exact D.dis.2.1) (by simp; exact D.dis.2.2.2), r, by rw [hl]; exact D.few, inv, D.dis⟩
theorem Sd.rext (D : Sd h p b q e ts) {h1 : Heap} (x : ExtB [b] h h1) : SR h1 q e ts := D.r.ext x (by simp; exact fun e => D.dis.2.2.1 e.symm) (by simp; exact fun e => D.dis.2.2.2 e.symm)

theorem inv_set {ts : Tks} (hv : ∀ t ∈ ts, t.st = 2 → 0 ≤ t.on) {x : Tk} (hx : x.st = 2 → 0 ≤ x.on) (j : Nat) : ∀ t ∈ ts.set j x, t.st = 2 → 0 ≤ t.on := by
  intro t ht
  rcases List.mem_or_eq_of_mem_set ht with h | h
  · exact hv t h
  · rw [h]; exact hx
theorem wake_inv (ts : Tks) (hv : ∀ t ∈ ts, t.st = 2 → 0 ≤ t.on) (t pc : Int) : (∀ x ∈ (wakeM ts t pc).2, x.st = 2 → 0 ≤ x.on) ∧ (wakeM ts t pc).2.length = ts.length := by
  unfold wakeM; split
  · exact ⟨inv_set hv (fun h => by cases h) _, by simp⟩
  · exact ⟨hv, rfl⟩
theorem go_inv (ts : Tks) (hv : ∀ t ∈ ts, t.st = 2 → 0 ≤ t.on) (t pc : Int) : (∀ x ∈ (goM ts t pc).2, x.st = 2 → 0 ≤ x.on) ∧ (goM ts t pc).2.length = ts.length := by
  unfold goM; split
  · simp only
    split
    · rename_i x hx
      obtain ⟨hj, hx⟩ := List.getElem?_eq_some_iff.1 hx
      exact ⟨inv_set (x := { st := x.st, pc := pc, on := x.on }) hv (fun h => hv x (hx ▸ List.getElem_mem hj) h) _, by simp⟩
    · exact ⟨hv, rfl⟩
  · exact ⟨hv, rfl⟩
theorem block_inv (ts : Tks) (hv : ∀ t ∈ ts, t.st = 2 → 0 ≤ t.on) (t on : Int) : (∀ x ∈ (blockM ts t on).2, x.st = 2 → 0 ≤ x.on) ∧ (blockM ts t on).2.length = ts.length := by
  unfold blockM; split
  · rename_i hc
    simp only
    split
    · exact ⟨inv_set hv (fun _ => hc.1) _, by simp⟩
    · exact ⟨hv, rfl⟩
  · exact ⟨hv, rfl⟩
theorem done_inv (ts : Tks) (hv : ∀ t ∈ ts, t.st = 2 → 0 ≤ t.on) (t : Int) : (∀ x ∈ (doneM ts t).2, x.st = 2 → 0 ≤ x.on) ∧ (doneM ts t).2.length = ts.length := by
  unfold doneM; split
  · simp only
    split
    · exact ⟨inv_set hv (fun h => by cases h) _, by simp⟩
    · exact ⟨hv, rfl⟩
  · exact ⟨hv, rfl⟩
theorem free_inv (ts : Tks) (hv : ∀ t ∈ ts, t.st = 2 → 0 ≤ t.on) (on : Int) : ∀ x ∈ ts.map (freed on), x.st = 2 → 0 ≤ x.on := by
  intro x hx
  obtain ⟨t, ht, rfl⟩ := List.mem_map.1 hx
  unfold freed; split
  · intro h; cases h
  · exact hv t ht

/-- What is compared behind a step. -/
theorem tail7 (D : Sd h p b q e ts) : ∃ y1 h4 y2 h5 h6 h7, evCallT table 28 300 8 41 [.c (.ptr p 0)] h = some (.c y1, h4) ∧ evCallT table 28 300 8 42 [.c (.ptr q 0)] h4 = some (.c y2, h5) ∧ evCallT table 28 300 8 25 [.c y1, .c y2] h5 = some (.c (.bool true), h5) ∧
    evCallT table 28 300 8 43 [.c (.ptr p 0)] h5 = some (.c (.bool (stuckM ts)), h6) ∧ evCallT table 28 300 8 44 [.c (.ptr q 0)] h6 = some (.c (.bool (stuckM ts)), h7) ∧ Ext h h7 := by
  have few := D.few
  obtain ⟨y1, h4, e4, m4, x4⟩ : ∃ y h', evCallT table 28 300 8 41 [.c (.ptr p 0)] h = some (.c y, h') ∧ Made h h' y (natL (readyM ts)) ∧ Ext h h' := ready_ok (N := 300) (d := 7) D.s (by omega) few
  obtain ⟨y2, h5, e5, m5, x5⟩ : ∃ y h', evCallT table 28 300 8 42 [.c (.ptr q 0)] h4 = some (.c y, h') ∧ Made h4 h' y (natL (readyM ts)) ∧ Ext h4 h' := rready_ok (N := 300) (d := 7) (D.ext x4).r (by omega) few
  obtain ⟨h6, e6, x6⟩ : ∃ h', evCallT table 28 300 8 43 [.c (.ptr p 0)] h5 = some (.c (.bool (stuckM ts)), h') ∧ Ext h5 h' := stuck_any (N := 300) (d := 4) (D.ext (x4.trans x5)).s (by omega) few
  obtain ⟨h7, e7, x7⟩ : ∃ h', evCallT table 28 300 8 44 [.c (.ptr q 0)] h6 = some (.c (.bool (stuckM ts)), h') ∧ Ext h6 h' := rstuck_any (N := 300) (d := 6) (D.ext ((x4.trans x5).trans x6)).r (by omega) few
  have hl : (natL (readyM ts)).length ≤ 64 := by have := ready_len ts 0; simp [natL, readyM]; omega
  refine ⟨y1, h4, y2, h5, h6, h7, e4, e5, ?_, e6, e7, ((x4.trans x5).trans x6).trans x7⟩
  have := ints_ok (T := 28) (N := 300) (d := 7) rfl (m4.ints.ext x5) m5.ints (by omega) (by omega)
  rw [decide_eq_true rfl] at this; exact this

theorem eq_three (a b c : Int) : eqCells [true, true, true] [.int .i64 a, .int .i64 b, .int .i64 c] [.int .i64 a, .int .i64 b, .int .i64 c] = some true := by simp [eqCells]

/-- All tasks are alike. -/
theorem tasksAlike (D : Sd h p b q e ts) (x : CV) (i : Nat) : ∀ loc, keepOnly ir7_k0 loc = .c (.int .i64 (ts.length : Int)) :: .c x :: .junk :: .c (.ptr p 0) :: .c (.ptr q 0) :: .c (.int .i64 (i : Int)) :: .junk :: .junk :: .junk :: .c (.int .i64 0) :: K15 →
    ∃ r, loopK (evCallT table 28 300 8) 300 ir7_k0 ir7_l0 300 loc h = some r ∧ ∃ h', r = (.exit 3, [.c (.int .i64 (ts.length : Int)), .c x, .junk, .c (.ptr p 0), .c (.ptr q 0), .c (.int .i64 (i : Int)), .junk, .junk, .junk, .c (.int .i64 (ts.length : Int)), .junk, .junk, .junk, .junk, .junk, .junk, .junk, .junk, .junk, .junk, .junk, .junk, .junk, .c (.bool false), .junk], h') ∧ Ext h h' := by
  intro loc hloc
  have few := D.few
  refine loop_inv (n := ts.length) (fun t loc h' => Ext h h' ∧ loc = .c (.int .i64 (ts.length : Int)) :: .c x :: .junk :: .c (.ptr p 0) :: .c (.ptr q 0) :: .c (.int .i64 (i : Int)) :: .junk :: .junk :: .junk :: .c (.int .i64 (t : Int)) :: K15) _ ?_ ⟨Ext.refl _, hloc⟩ (by omega)
  rintro t loc h' ht ⟨he, rfl⟩
  unfold ir7_l0
  by_cases hlt : t < ts.length
  · left
    refine ⟨hlt, ?_⟩
    have v1 : decide ((t : Int) < (ts.length : Int)) = true := ltNat hlt
    have v2 := succI (i := t) (by omega)
    have m1 : Nat.blt t ts.length = true := bltT hlt
    have D' := D.ext he
    obtain ⟨h1, e1, x1⟩ : ∃ h1, evCallT table 28 300 8 45 [.c (.ptr p 0), .c (.int .i64 (t : Int))] h' = some (.agg [.int .i64 ts[t].st, .int .i64 ts[t].pc, .int .i64 ts[t].on], h1) ∧ Ext h' h1 := task_ok (N := 300) (d := 6) D'.s hlt
    have D1 := D'.ext x1
    simp only [enter_eq, ev_seq, seqK_norm, seqK_exit, seqK_ret, ev_reg, ev_cond, condK_true, condK_false, ev_block, blockK_norm, blockK_ret, blockK_exit, ev_loop, ev_skip, ev_exit, ev_ret, regK_cons, regK_nil, guard_none, guard_some, regG_true, regG_false, regO_some, op_mov, op_conv, op_bin, op_bsl, op_box, op_mks, op_s2b, op_pick, op_un, op_eq, op_len, op_ext, op_load, op_iaddr, op_slice, op_b2s, op_idxS, op_mx, op_mn, op_call, op_store, op_app, op_copy, args_eq, result_one', rv_loc, finish_norm, finish_ret, outK_some, keep_true, keep_false, keep_nil, p_bin, p_pick, p_un, p_eq, p_conv, evNew, pureK_some, newK_some, X.eval, set_none, set_some, List.map_cons, List.map_nil, List.getD_cons_zero, List.getD_cons_succ, List.getD_nil, List.set_cons_zero, List.set_cons_succ, binCV, unCV, isShift, intArithF_eq, shiftF_eq, wrapF_eq, intArith, shift, eqVal, bound, asNat_cast, cond_true, cond_false, BEq.rfl, beq_self_eq_true, evalParts, fillParts, AV.cells, AV.ofCells, XV.av, AV.xv, List.length_cons, List.length_nil, zeros, patch, setMany, List.nil_append, List.cons_append, Nat.ble, Nat.add_eq, Nat.zero_add, Nat.add_zero, Nat.reduceAdd, Nat.reduceMul, Nat.reduceSub, Nat.ble_eq, Nat.reduceLeDiff, Nat.reduceBEq, Int.reduceBEq, Int.reduceNeg, Bool.and_true, Bool.and_false, Bool.true_and, Bool.false_and, Bool.not_true, Bool.not_false, Bool.true_eq_false, Bool.false_eq_true, Int.reduceLT, Int.reduceLE, Int.reduceGT, Int.reduceGE, decide_true, decide_false, Bool.not_eq_true, loopN_norm, loopN_exit, tf, ft, ff, ev_dreg, dregK_nil, dregK_cons, dregE_true, dregP_some, dregX_some, d_mov, d_bin, d_eq, d_pick, d_un, d_conv, d_b2s, d_len, d_load, d_iaddr, d_slice, d_ext, d_call, d_store, chk_done, chk_none, chk_some, chkG_true, chkG_false, chkOne_nil, chkOne_cons, chkH_some, chkV_same, stage_none, stage_some, look_hit, look_miss, news_nil, wb_cons, wb_nil, skip0, List.reverse_cons, List.reverse_nil, v1, v2, m1, e1, p_iaddr, d_nilchk, p_nilchk, d_faddr, p_faddr, p_load, AV.ofCells, D'.r.r, D1.r.r, D'.r.rt hlt, D1.r.rt hlt, eq_three]
    exact ⟨_, _, rfl, he.trans x1, rfl⟩
  · right
    have hin : t = ts.length := by omega
    subst hin
    have v1 : decide ((ts.length : Int) < (ts.length : Int)) = false := geNat (Nat.le_refl _)
    simp only [enter_eq, ev_seq, seqK_norm, seqK_exit, seqK_ret, ev_reg, ev_cond, condK_true, condK_false, ev_block, blockK_norm, blockK_ret, blockK_exit, ev_loop, ev_skip, ev_exit, ev_ret, regK_cons, regK_nil, guard_none, guard_some, regG_true, regG_false, regO_some, op_mov, op_conv, op_bin, op_bsl, op_box, op_mks, op_s2b, op_pick, op_un, op_eq, op_len, op_ext, op_load, op_iaddr, op_slice, op_b2s, op_idxS, op_mx, op_mn, op_call, op_store, op_app, op_copy, args_eq, result_one', rv_loc, finish_norm, finish_ret, outK_some, keep_true, keep_false, keep_nil, p_bin, p_pick, p_un, p_eq, p_conv, evNew, pureK_some, newK_some, X.eval, set_none, set_some, List.map_cons, List.map_nil, List.getD_cons_zero, List.getD_cons_succ, List.getD_nil, List.set_cons_zero, List.set_cons_succ, binCV, unCV, isShift, intArithF_eq, shiftF_eq, wrapF_eq, intArith, shift, eqVal, bound, asNat_cast, cond_true, cond_false, BEq.rfl, beq_self_eq_true, evalParts, fillParts, AV.cells, AV.ofCells, XV.av, AV.xv, List.length_cons, List.length_nil, zeros, patch, setMany, List.nil_append, List.cons_append, Nat.ble, Nat.add_eq, Nat.zero_add, Nat.add_zero, Nat.reduceAdd, Nat.reduceMul, Nat.reduceSub, Nat.ble_eq, Nat.reduceLeDiff, Nat.reduceBEq, Int.reduceBEq, Int.reduceNeg, Bool.and_true, Bool.and_false, Bool.true_and, Bool.false_and, Bool.not_true, Bool.not_false, Bool.true_eq_false, Bool.false_eq_true, Int.reduceLT, Int.reduceLE, Int.reduceGT, Int.reduceGE, decide_true, decide_false, Bool.not_eq_true, loopN_norm, loopN_exit, tf, ft, ff, v1]
    exact ⟨_, rfl, by simp, h', rfl, he⟩

theorem step0 (D : Sd h p b q e ts) (hx : Recs 3 h (.sl bx ox m cc) m xs) {i : Nat} (hi : i < m) (hm : m ≤ 150) (ek : Int.tmod (IntKind.i64.wrap (Int.tmod (xs.getD (i * 3) 0) 6 + 6)) 6 = 0) :
    ∃ l H ts', ev (evCallT table 28 300 8) 300 ir7_l1 (At7 (ts.length : Int) (.sl bx ox m cc) p q i) h = some (.norm, l, H) ∧ keepOnly ir7_k1 l = At7 (ts.length : Int) (.sl bx ox m cc) p q (i + 1) ∧ Sd H p b q e ts' ∧ ts'.length = ts.length ∧ ExtB [b, e] h H := by
  have bneI : ∀ {a b : Int}, (a != b) = !(a == b) := rfl
  have bneB : ∀ {x : Bool}, (x != x) = false := by simp
  have lx : ∀ (loc vals : List AV) (h : Heap), evPure loc (.c (.sl bx ox m cc) :: vals) h (.len .sl (.val 0)) = some (.c (.int .i64 (m : Int))) := fun _ _ _ => hx.len rfl
  have v1 : decide ((i : Int) < (m : Int)) = true := ltNat hi
  have v2 := succI (i := i) (by omega)
  have m1 : Nat.blt i m = true := bltT hi
  have few := D.few
  have k0 := hx.op3 hi
  generalize xs.getD (i * 3 + 1) 0 = a at *
  generalize xs.getD (i * 3 + 2) 0 = c at *
  obtain ⟨h1, w1, g1, x1, n1⟩ := box_store (h := h) (z := [.int .i64 0, .int .i64 0, .int .i64 0]) (v := [.int .i64 (xs.getD (i * 3) 0), .int .i64 a, .int .i64 c]) rfl
  have D1 := D.ext x1
  have bn := D.s.bn
  have en := D.r.bn
  have own : ∀ {H : Heap}, ExtB [b, e] h1 H → H.get h.next = some (.cells [.int .i64 (xs.getD (i * 3) 0), .int .i64 a, .int .i64 c]) := fun {H} x => x.at_ g1 (by omega) (by simp; omega)
  have o0 : ∀ {H : Heap}, ExtB [b, e] h1 H → H.read h.next 0 1 = some [.int .i64 (xs.getD (i * 3) 0)] := fun {H} x => read_cells (own x) rfl
  have o1 : ∀ {H : Heap}, ExtB [b, e] h1 H → H.read h.next 1 1 = some [.int .i64 a] := fun {H} x => read_cells (own x) rfl
  have o2 : ∀ {H : Heap}, ExtB [b, e] h1 H → H.read h.next 2 1 = some [.int .i64 c] := fun {H} x => read_cells (own x) rfl
  obtain ⟨h2, e2, s2, xa0⟩ : ∃ h', evCallT table 28 300 8 29 [.c (.ptr p 0), .c (.int .i64 a), .c (.int .i64 c)] h1 = some (.c (.bool (wakeM ts a c).1), h') ∧ SB h' p b (wakeM ts a c).2 ∧ ExtB [b] h1 h' := wake_any (N := 300) (d := 5) D1.s a c
  obtain ⟨h3, e3, r3, xb0⟩ : ∃ h', evCallT table 28 300 8 30 [.c (.ptr q 0), .c (.int .i64 a), .c (.int .i64 c)] h2 = some (.c (.bool (wakeM ts a c).1), h') ∧ SR h' q e (wakeM ts a c).2 ∧ ExtB [e] h2 h' := rwake_any (N := 300) (d := 6) (D1.rext xa0) a c
  obtain ⟨inv', hl⟩ := wake_inv ts D.inv a c
  have D3 : Sd h3 p b q e (wakeM ts a c).2 := D1.of s2 xb0 r3 hl inv'
  have xa : ExtB [b, e] h1 h2 := xa0.mono (by simp)
  have xb : ExtB [b, e] h1 h3 := xa.trans (xb0.mono (by simp))
  obtain ⟨ts', hts⟩ : ∃ ts', ts' = (wakeM ts a c).2 := ⟨_, rfl⟩
  rw [← hts] at D3 hl
  obtain ⟨y1, h4, y2, h5, h6, h7, l4, l5, l6, l7, l8, x7⟩ := tail7 D3
  obtain ⟨r, hr, h8, rfl, x8⟩ := tasksAlike (D3.ext x7) (.sl bx ox m cc) i [.c (.int .i64 (ts'.length : Int)), .c (.sl bx ox m cc), .junk, .c (.ptr p 0), .c (.ptr q 0), .c (.int .i64 (i : Int)), .c (.ptr h.next 0), .c (.bool (wakeM ts a c).1), .c (.bool (wakeM ts a c).1), .c (.int .i64 0), .junk, .junk, .junk, .c (.bool true), .c (.int .i64 0), .junk, .c (.bool true), .junk, .junk, .junk, .junk, .junk, .c (.bool false), .junk, .junk] rfl
  rw [hl] at hr
  unfold ir7_l1
  simp only [enter_eq, ev_seq, seqK_norm, seqK_exit, seqK_ret, ev_reg, ev_cond, condK_true, condK_false, ev_block, blockK_norm, blockK_ret, blockK_exit, ev_loop, ev_skip, ev_exit, ev_ret, regK_cons, regK_nil, guard_none, guard_some, regG_true, regG_false, regO_some, op_mov, op_conv, op_bin, op_bsl, op_box, op_mks, op_s2b, op_pick, op_un, op_eq, op_len, op_ext, op_load, op_iaddr, op_slice, op_b2s, op_idxS, op_mx, op_mn, op_call, op_store, op_app, op_copy, args_eq, result_one', rv_loc, finish_norm, finish_ret, outK_some, keep_true, keep_false, keep_nil, p_bin, p_pick, p_un, p_eq, p_conv, evNew, pureK_some, newK_some, X.eval, set_none, set_some, List.map_cons, List.map_nil, List.getD_cons_zero, List.getD_cons_succ, List.getD_nil, List.set_cons_zero, List.set_cons_succ, binCV, unCV, isShift, intArithF_eq, shiftF_eq, wrapF_eq, intArith, shift, eqVal, bound, asNat_cast, cond_true, cond_false, BEq.rfl, beq_self_eq_true, evalParts, fillParts, AV.cells, AV.ofCells, XV.av, AV.xv, List.length_cons, List.length_nil, zeros, patch, setMany, List.nil_append, List.cons_append, Nat.ble, Nat.add_eq, Nat.zero_add, Nat.add_zero, Nat.reduceAdd, Nat.reduceMul, Nat.reduceSub, Nat.ble_eq, Nat.reduceLeDiff, Nat.reduceBEq, Int.reduceBEq, Int.reduceNeg, Bool.and_true, Bool.and_false, Bool.true_and, Bool.false_and, Bool.not_true, Bool.not_false, Bool.true_eq_false, Bool.false_eq_true, Int.reduceLT, Int.reduceLE, Int.reduceGT, Int.reduceGE, decide_true, decide_false, Bool.not_eq_true, loopN_norm, loopN_exit, tf, ft, ff, ev_dreg, dregK_nil, dregK_cons, dregE_true, dregP_some, dregX_some, d_mov, d_bin, d_eq, d_pick, d_un, d_conv, d_b2s, d_len, d_load, d_iaddr, d_slice, d_ext, d_call, d_store, chk_done, chk_none, chk_some, chkG_true, chkG_false, chkOne_nil, chkOne_cons, chkH_some, chkV_same, stage_none, stage_some, look_hit, look_miss, news_nil, wb_cons, wb_nil, skip0, List.reverse_cons, List.reverse_nil, bneI, bneB, lx, v1, v2, m1, p_iaddr, p_faddr, op_faddr, d_faddr, p_load, AV.ofCells, k0, ek, evEff, w1, o0 (ExtB.refl _ h1), o1 (ExtB.refl _ h1), o2 (ExtB.refl _ h1), o1 xa, o2 xa, e2, e3, l4, l5, l6, l7, l8, hr, blockK_exit_eq]
  refine ⟨_, _, ts', rfl, ?_, D3.ext (x7.trans x8), hl, ((x1.b _).trans xb).trans ((x7.trans x8).b _)⟩; rfl

theorem step1 (D : Sd h p b q e ts) (hx : Recs 3 h (.sl bx ox m cc) m xs) {i : Nat} (hi : i < m) (hm : m ≤ 150) (ek : Int.tmod (IntKind.i64.wrap (Int.tmod (xs.getD (i * 3) 0) 6 + 6)) 6 = 1) :
    ∃ l H ts', ev (evCallT table 28 300 8) 300 ir7_l1 (At7 (ts.length : Int) (.sl bx ox m cc) p q i) h = some (.norm, l, H) ∧ keepOnly ir7_k1 l = At7 (ts.length : Int) (.sl bx ox m cc) p q (i + 1) ∧ Sd H p b q e ts' ∧ ts'.length = ts.length ∧ ExtB [b, e] h H := by
  have bneI : ∀ {a b : Int}, (a != b) = !(a == b) := rfl
  have bneB : ∀ {x : Bool}, (x != x) = false := by simp
  have lx : ∀ (loc vals : List AV) (h : Heap), evPure loc (.c (.sl bx ox m cc) :: vals) h (.len .sl (.val 0)) = some (.c (.int .i64 (m : Int))) := fun _ _ _ => hx.len rfl
  have v1 : decide ((i : Int) < (m : Int)) = true := ltNat hi
  have v2 := succI (i := i) (by omega)
  have m1 : Nat.blt i m = true := bltT hi
  have few := D.few
  have k0 := hx.op3 hi
  generalize xs.getD (i * 3 + 1) 0 = a at *
  generalize xs.getD (i * 3 + 2) 0 = c at *
  obtain ⟨h1, w1, g1, x1, n1⟩ := box_store (h := h) (z := [.int .i64 0, .int .i64 0, .int .i64 0]) (v := [.int .i64 (xs.getD (i * 3) 0), .int .i64 a, .int .i64 c]) rfl
  have D1 := D.ext x1
  have bn := D.s.bn
  have en := D.r.bn
  have own : ∀ {H : Heap}, ExtB [b, e] h1 H → H.get h.next = some (.cells [.int .i64 (xs.getD (i * 3) 0), .int .i64 a, .int .i64 c]) := fun {H} x => x.at_ g1 (by omega) (by simp; omega)
  have o0 : ∀ {H : Heap}, ExtB [b, e] h1 H → H.read h.next 0 1 = some [.int .i64 (xs.getD (i * 3) 0)] := fun {H} x => read_cells (own x) rfl
  have o1 : ∀ {H : Heap}, ExtB [b, e] h1 H → H.read h.next 1 1 = some [.int .i64 a] := fun {H} x => read_cells (own x) rfl
  have o2 : ∀ {H : Heap}, ExtB [b, e] h1 H → H.read h.next 2 1 = some [.int .i64 c] := fun {H} x => read_cells (own x) rfl
  obtain ⟨h2, e2, s2, xa0⟩ : ∃ h', evCallT table 28 300 8 31 [.c (.ptr p 0), .c (.int .i64 a), .c (.int .i64 c)] h1 = some (.c (.bool (goM ts a c).1), h') ∧ SB h' p b (goM ts a c).2 ∧ ExtB [b] h1 h' := go_any (N := 300) (d := 5) D1.s a c
  obtain ⟨h3, e3, r3, xb0⟩ : ∃ h', evCallT table 28 300 8 32 [.c (.ptr q 0), .c (.int .i64 a), .c (.int .i64 c)] h2 = some (.c (.bool (goM ts a c).1), h') ∧ SR h' q e (goM ts a c).2 ∧ ExtB [e] h2 h' := rgo_any (N := 300) (d := 6) (D1.rext xa0) a c
  obtain ⟨inv', hl⟩ := go_inv ts D.inv a c
  have D3 : Sd h3 p b q e (goM ts a c).2 := D1.of s2 xb0 r3 hl inv'
  have xa : ExtB [b, e] h1 h2 := xa0.mono (by simp)
  have xb : ExtB [b, e] h1 h3 := xa.trans (xb0.mono (by simp))
  obtain ⟨ts', hts⟩ : ∃ ts', ts' = (goM ts a c).2 := ⟨_, rfl⟩
  rw [← hts] at D3 hl
  obtain ⟨y1, h4, y2, h5, h6, h7, l4, l5, l6, l7, l8, x7⟩ := tail7 D3
  obtain ⟨r, hr, h8, rfl, x8⟩ := tasksAlike (D3.ext x7) (.sl bx ox m cc) i [.c (.int .i64 (ts'.length : Int)), .c (.sl bx ox m cc), .junk, .c (.ptr p 0), .c (.ptr q 0), .c (.int .i64 (i : Int)), .c (.ptr h.next 0), .c (.bool (goM ts a c).1), .c (.bool (goM ts a c).1), .c (.int .i64 0), .junk, .junk, .junk, .c (.bool true), .c (.int .i64 1), .junk, .c (.bool false), .c (.bool true), .junk, .junk, .junk, .junk, .c (.bool false), .junk, .junk] rfl
  rw [hl] at hr
  unfold ir7_l1
  simp only [enter_eq, ev_seq, seqK_norm, seqK_exit, seqK_ret, ev_reg, ev_cond, condK_true, condK_false, ev_block, blockK_norm, blockK_ret, blockK_exit, ev_loop, ev_skip, ev_exit, ev_ret, regK_cons, regK_nil, guard_none, guard_some, regG_true, regG_false, regO_some, op_mov, op_conv, op_bin, op_bsl, op_box, op_mks, op_s2b, op_pick, op_un, op_eq, op_len, op_ext, op_load, op_iaddr, op_slice, op_b2s, op_idxS, op_mx, op_mn, op_call, op_store, op_app, op_copy, args_eq, result_one', rv_loc, finish_norm, finish_ret, outK_some, keep_true, keep_false, keep_nil, p_bin, p_pick, p_un, p_eq, p_conv, evNew, pureK_some, newK_some, X.eval, set_none, set_some, List.map_cons, List.map_nil, List.getD_cons_zero, List.getD_cons_succ, List.getD_nil, List.set_cons_zero, List.set_cons_succ, binCV, unCV, isShift, intArithF_eq, shiftF_eq, wrapF_eq, intArith, shift, eqVal, bound, asNat_cast, cond_true, cond_false, BEq.rfl, beq_self_eq_true, evalParts, fillParts, AV.cells, AV.ofCells, XV.av, AV.xv, List.length_cons, List.length_nil, zeros, patch, setMany, List.nil_append, List.cons_append, Nat.ble, Nat.add_eq, Nat.zero_add, Nat.add_zero, Nat.reduceAdd, Nat.reduceMul, Nat.reduceSub, Nat.ble_eq, Nat.reduceLeDiff, Nat.reduceBEq, Int.reduceBEq, Int.reduceNeg, Bool.and_true, Bool.and_false, Bool.true_and, Bool.false_and, Bool.not_true, Bool.not_false, Bool.true_eq_false, Bool.false_eq_true, Int.reduceLT, Int.reduceLE, Int.reduceGT, Int.reduceGE, decide_true, decide_false, Bool.not_eq_true, loopN_norm, loopN_exit, tf, ft, ff, ev_dreg, dregK_nil, dregK_cons, dregE_true, dregP_some, dregX_some, d_mov, d_bin, d_eq, d_pick, d_un, d_conv, d_b2s, d_len, d_load, d_iaddr, d_slice, d_ext, d_call, d_store, chk_done, chk_none, chk_some, chkG_true, chkG_false, chkOne_nil, chkOne_cons, chkH_some, chkV_same, stage_none, stage_some, look_hit, look_miss, news_nil, wb_cons, wb_nil, skip0, List.reverse_cons, List.reverse_nil, bneI, bneB, lx, v1, v2, m1, p_iaddr, p_faddr, op_faddr, d_faddr, p_load, AV.ofCells, k0, ek, evEff, w1, o0 (ExtB.refl _ h1), o1 (ExtB.refl _ h1), o2 (ExtB.refl _ h1), o1 xa, o2 xa, e2, e3, l4, l5, l6, l7, l8, hr, blockK_exit_eq]
  refine ⟨_, _, ts', rfl, ?_, D3.ext (x7.trans x8), hl, ((x1.b _).trans xb).trans ((x7.trans x8).b _)⟩; rfl

theorem step2 (D : Sd h p b q e ts) (hx : Recs 3 h (.sl bx ox m cc) m xs) {i : Nat} (hi : i < m) (hm : m ≤ 150) (ek : Int.tmod (IntKind.i64.wrap (Int.tmod (xs.getD (i * 3) 0) 6 + 6)) 6 = 2) :
    ∃ l H ts', ev (evCallT table 28 300 8) 300 ir7_l1 (At7 (ts.length : Int) (.sl bx ox m cc) p q i) h = some (.norm, l, H) ∧ keepOnly ir7_k1 l = At7 (ts.length : Int) (.sl bx ox m cc) p q (i + 1) ∧ Sd H p b q e ts' ∧ ts'.length = ts.length ∧ ExtB [b, e] h H := by
  have bneI : ∀ {a b : Int}, (a != b) = !(a == b) := rfl
  have bneB : ∀ {x : Bool}, (x != x) = false := by simp
  have lx : ∀ (loc vals : List AV) (h : Heap), evPure loc (.c (.sl bx ox m cc) :: vals) h (.len .sl (.val 0)) = some (.c (.int .i64 (m : Int))) := fun _ _ _ => hx.len rfl
  have v1 : decide ((i : Int) < (m : Int)) = true := ltNat hi
  have v2 := succI (i := i) (by omega)
  have m1 : Nat.blt i m = true := bltT hi
  have few := D.few
  have k0 := hx.op3 hi
  generalize xs.getD (i * 3 + 1) 0 = a at *
  generalize xs.getD (i * 3 + 2) 0 = c at *
  obtain ⟨h1, w1, g1, x1, n1⟩ := box_store (h := h) (z := [.int .i64 0, .int .i64 0, .int .i64 0]) (v := [.int .i64 (xs.getD (i * 3) 0), .int .i64 a, .int .i64 c]) rfl
  have D1 := D.ext x1
  have bn := D.s.bn
  have en := D.r.bn
  have own : ∀ {H : Heap}, ExtB [b, e] h1 H → H.get h.next = some (.cells [.int .i64 (xs.getD (i * 3) 0), .int .i64 a, .int .i64 c]) := fun {H} x => x.at_ g1 (by omega) (by simp; omega)
  have o0 : ∀ {H : Heap}, ExtB [b, e] h1 H → H.read h.next 0 1 = some [.int .i64 (xs.getD (i * 3) 0)] := fun {H} x => read_cells (own x) rfl
  have o1 : ∀ {H : Heap}, ExtB [b, e] h1 H → H.read h.next 1 1 = some [.int .i64 a] := fun {H} x => read_cells (own x) rfl
  have o2 : ∀ {H : Heap}, ExtB [b, e] h1 H → H.read h.next 2 1 = some [.int .i64 c] := fun {H} x => read_cells (own x) rfl
  obtain ⟨h2, e2, s2, xa0⟩ : ∃ h', evCallT table 28 300 8 33 [.c (.ptr p 0), .c (.int .i64 a), .c (.int .i64 c)] h1 = some (.c (.bool (blockM ts a c).1), h') ∧ SB h' p b (blockM ts a c).2 ∧ ExtB [b] h1 h' := block_any (N := 300) (d := 5) D1.s a c
  obtain ⟨h3, e3, r3, xb0⟩ : ∃ h', evCallT table 28 300 8 34 [.c (.ptr q 0), .c (.int .i64 a), .c (.int .i64 c)] h2 = some (.c (.bool (blockM ts a c).1), h') ∧ SR h' q e (blockM ts a c).2 ∧ ExtB [e] h2 h' := rblock_any (N := 300) (d := 6) (D1.rext xa0) a c
  obtain ⟨inv', hl⟩ := block_inv ts D.inv a c
  have D3 : Sd h3 p b q e (blockM ts a c).2 := D1.of s2 xb0 r3 hl inv'
  have xa : ExtB [b, e] h1 h2 := xa0.mono (by simp)
  have xb : ExtB [b, e] h1 h3 := xa.trans (xb0.mono (by simp))
  obtain ⟨ts', hts⟩ : ∃ ts', ts' = (blockM ts a c).2 := ⟨_, rfl⟩
  rw [← hts] at D3 hl
  obtain ⟨y1, h4, y2, h5, h6, h7, l4, l5, l6, l7, l8, x7⟩ := tail7 D3
  obtain ⟨r, hr, h8, rfl, x8⟩ := tasksAlike (D3.ext x7) (.sl bx ox m cc) i [.c (.int .i64 (ts'.length : Int)), .c (.sl bx ox m cc), .junk, .c (.ptr p 0), .c (.ptr q 0), .c (.int .i64 (i : Int)), .c (.ptr h.next 0), .c (.bool (blockM ts a c).1), .c (.bool (blockM ts a c).1), .c (.int .i64 0), .junk, .junk, .junk, .c (.bool true), .c (.int .i64 2), .junk, .c (.bool false), .c (.bool false), .c (.bool true), .junk, .junk, .junk, .c (.bool false), .junk, .junk] rfl
  rw [hl] at hr
  unfold ir7_l1
  simp only [enter_eq, ev_seq, seqK_norm, seqK_exit, seqK_ret, ev_reg, ev_cond, condK_true, condK_false, ev_block, blockK_norm, blockK_ret, blockK_exit, ev_loop, ev_skip, ev_exit, ev_ret, regK_cons, regK_nil, guard_none, guard_some, regG_true, regG_false, regO_some, op_mov, op_conv, op_bin, op_bsl, op_box, op_mks, op_s2b, op_pick, op_un, op_eq, op_len, op_ext, op_load, op_iaddr, op_slice, op_b2s, op_idxS, op_mx, op_mn, op_call, op_store, op_app, op_copy, args_eq, result_one', rv_loc, finish_norm, finish_ret, outK_some, keep_true, keep_false, keep_nil, p_bin, p_pick, p_un, p_eq, p_conv, evNew, pureK_some, newK_some, X.eval, set_none, set_some, List.map_cons, List.map_nil, List.getD_cons_zero, List.getD_cons_succ, List.getD_nil, List.set_cons_zero, List.set_cons_succ, binCV, unCV, isShift, intArithF_eq, shiftF_eq, wrapF_eq, intArith, shift, eqVal, bound, asNat_cast, cond_true, cond_false, BEq.rfl, beq_self_eq_true, evalParts, fillParts, AV.cells, AV.ofCells, XV.av, AV.xv, List.length_cons, List.length_nil, zeros, patch, setMany, List.nil_append, List.cons_append, Nat.ble, Nat.add_eq, Nat.zero_add, Nat.add_zero, Nat.reduceAdd, Nat.reduceMul, Nat.reduceSub, Nat.ble_eq, Nat.reduceLeDiff, Nat.reduceBEq, Int.reduceBEq, Int.reduceNeg, Bool.and_true, Bool.and_false, Bool.true_and, Bool.false_and, Bool.not_true, Bool.not_false, Bool.true_eq_false, Bool.false_eq_true, Int.reduceLT, Int.reduceLE, Int.reduceGT, Int.reduceGE, decide_true, decide_false, Bool.not_eq_true, loopN_norm, loopN_exit, tf, ft, ff, ev_dreg, dregK_nil, dregK_cons, dregE_true, dregP_some, dregX_some, d_mov, d_bin, d_eq, d_pick, d_un, d_conv, d_b2s, d_len, d_load, d_iaddr, d_slice, d_ext, d_call, d_store, chk_done, chk_none, chk_some, chkG_true, chkG_false, chkOne_nil, chkOne_cons, chkH_some, chkV_same, stage_none, stage_some, look_hit, look_miss, news_nil, wb_cons, wb_nil, skip0, List.reverse_cons, List.reverse_nil, bneI, bneB, lx, v1, v2, m1, p_iaddr, p_faddr, op_faddr, d_faddr, p_load, AV.ofCells, k0, ek, evEff, w1, o0 (ExtB.refl _ h1), o1 (ExtB.refl _ h1), o2 (ExtB.refl _ h1), o1 xa, o2 xa, e2, e3, l4, l5, l6, l7, l8, hr, blockK_exit_eq]
  refine ⟨_, _, ts', rfl, ?_, D3.ext (x7.trans x8), hl, ((x1.b _).trans xb).trans ((x7.trans x8).b _)⟩; rfl

theorem step3 (D : Sd h p b q e ts) (hx : Recs 3 h (.sl bx ox m cc) m xs) {i : Nat} (hi : i < m) (hm : m ≤ 150) (ek : Int.tmod (IntKind.i64.wrap (Int.tmod (xs.getD (i * 3) 0) 6 + 6)) 6 = 3) :
    ∃ l H ts', ev (evCallT table 28 300 8) 300 ir7_l1 (At7 (ts.length : Int) (.sl bx ox m cc) p q i) h = some (.norm, l, H) ∧ keepOnly ir7_k1 l = At7 (ts.length : Int) (.sl bx ox m cc) p q (i + 1) ∧ Sd H p b q e ts' ∧ ts'.length = ts.length ∧ ExtB [b, e] h H := by
  have bneI : ∀ {a b : Int}, (a != b) = !(a == b) := rfl
  have bneB : ∀ {x : Bool}, (x != x) = false := by simp
  have lx : ∀ (loc vals : List AV) (h : Heap), evPure loc (.c (.sl bx ox m cc) :: vals) h (.len .sl (.val 0)) = some (.c (.int .i64 (m : Int))) := fun _ _ _ => hx.len rfl
  have v1 : decide ((i : Int) < (m : Int)) = true := ltNat hi
  have v2 := succI (i := i) (by omega)
  have m1 : Nat.blt i m = true := bltT hi
  have few := D.few
  have k0 := hx.op3 hi
  generalize xs.getD (i * 3 + 1) 0 = a at *
  generalize xs.getD (i * 3 + 2) 0 = c at *
  obtain ⟨h1, w1, g1, x1, n1⟩ := box_store (h := h) (z := [.int .i64 0, .int .i64 0, .int .i64 0]) (v := [.int .i64 (xs.getD (i * 3) 0), .int .i64 a, .int .i64 c]) rfl
  have D1 := D.ext x1
  have bn := D.s.bn
  have en := D.r.bn
  have own : ∀ {H : Heap}, ExtB [b, e] h1 H → H.get h.next = some (.cells [.int .i64 (xs.getD (i * 3) 0), .int .i64 a, .int .i64 c]) := fun {H} x => x.at_ g1 (by omega) (by simp; omega)
  have o0 : ∀ {H : Heap}, ExtB [b, e] h1 H → H.read h.next 0 1 = some [.int .i64 (xs.getD (i * 3) 0)] := fun {H} x => read_cells (own x) rfl
  have o1 : ∀ {H : Heap}, ExtB [b, e] h1 H → H.read h.next 1 1 = some [.int .i64 a] := fun {H} x => read_cells (own x) rfl
  have o2 : ∀ {H : Heap}, ExtB [b, e] h1 H → H.read h.next 2 1 = some [.int .i64 c] := fun {H} x => read_cells (own x) rfl
  obtain ⟨h2, e2, s2, xa0⟩ : ∃ h', evCallT table 28 300 8 35 [.c (.ptr p 0), .c (.int .i64 a)] h1 = some (.c (.bool (doneM ts a).1), h') ∧ SB h' p b (doneM ts a).2 ∧ ExtB [b] h1 h' := done_any (N := 300) (d := 5) D1.s a
  obtain ⟨h3, e3, r3, xb0⟩ : ∃ h', evCallT table 28 300 8 36 [.c (.ptr q 0), .c (.int .i64 a)] h2 = some (.c (.bool (doneM ts a).1), h') ∧ SR h' q e (doneM ts a).2 ∧ ExtB [e] h2 h' := rdone_any (N := 300) (d := 6) (D1.rext xa0) a
  obtain ⟨inv', hl⟩ := done_inv ts D.inv a
  have D3 : Sd h3 p b q e (doneM ts a).2 := D1.of s2 xb0 r3 hl inv'
  have xa : ExtB [b, e] h1 h2 := xa0.mono (by simp)
  have xb : ExtB [b, e] h1 h3 := xa.trans (xb0.mono (by simp))
  obtain ⟨ts', hts⟩ : ∃ ts', ts' = (doneM ts a).2 := ⟨_, rfl⟩
  rw [← hts] at D3 hl
  obtain ⟨y1, h4, y2, h5, h6, h7, l4, l5, l6, l7, l8, x7⟩ := tail7 D3
  obtain ⟨r, hr, h8, rfl, x8⟩ := tasksAlike (D3.ext x7) (.sl bx ox m cc) i [.c (.int .i64 (ts'.length : Int)), .c (.sl bx ox m cc), .junk, .c (.ptr p 0), .c (.ptr q 0), .c (.int .i64 (i : Int)), .c (.ptr h.next 0), .c (.bool (doneM ts a).1), .c (.bool (doneM ts a).1), .c (.int .i64 0), .junk, .junk, .junk, .c (.bool true), .c (.int .i64 3), .junk, .c (.bool false), .c (.bool false), .c (.bool false), .c (.bool true), .junk, .junk, .c (.bool false), .junk, .junk] rfl
  rw [hl] at hr
  unfold ir7_l1
  simp only [enter_eq, ev_seq, seqK_norm, seqK_exit, seqK_ret, ev_reg, ev_cond, condK_true, condK_false, ev_block, blockK_norm, blockK_ret, blockK_exit, ev_loop, ev_skip, ev_exit, ev_ret, regK_cons, regK_nil, guard_none, guard_some, regG_true, regG_false, regO_some, op_mov, op_conv, op_bin, op_bsl, op_box, op_mks, op_s2b, op_pick, op_un, op_eq, op_len, op_ext, op_load, op_iaddr, op_slice, op_b2s, op_idxS, op_mx, op_mn, op_call, op_store, op_app, op_copy, args_eq, result_one', rv_loc, finish_norm, finish_ret, outK_some, keep_true, keep_false, keep_nil, p_bin, p_pick, p_un, p_eq, p_conv, evNew, pureK_some, newK_some, X.eval, set_none, set_some, List.map_cons, List.map_nil, List.getD_cons_zero, List.getD_cons_succ, List.getD_nil, List.set_cons_zero, List.set_cons_succ, binCV, unCV, isShift, intArithF_eq, shiftF_eq, wrapF_eq, intArith, shift, eqVal, bound, asNat_cast, cond_true, cond_false, BEq.rfl, beq_self_eq_true, evalParts, fillParts, AV.cells, AV.ofCells, XV.av, AV.xv, List.length_cons, List.length_nil, zeros, patch, setMany, List.nil_append, List.cons_append, Nat.ble, Nat.add_eq, Nat.zero_add, Nat.add_zero, Nat.reduceAdd, Nat.reduceMul, Nat.reduceSub, Nat.ble_eq, Nat.reduceLeDiff, Nat.reduceBEq, Int.reduceBEq, Int.reduceNeg, Bool.and_true, Bool.and_false, Bool.true_and, Bool.false_and, Bool.not_true, Bool.not_false, Bool.true_eq_false, Bool.false_eq_true, Int.reduceLT, Int.reduceLE, Int.reduceGT, Int.reduceGE, decide_true, decide_false, Bool.not_eq_true, loopN_norm, loopN_exit, tf, ft, ff, ev_dreg, dregK_nil, dregK_cons, dregE_true, dregP_some, dregX_some, d_mov, d_bin, d_eq, d_pick, d_un, d_conv, d_b2s, d_len, d_load, d_iaddr, d_slice, d_ext, d_call, d_store, chk_done, chk_none, chk_some, chkG_true, chkG_false, chkOne_nil, chkOne_cons, chkH_some, chkV_same, stage_none, stage_some, look_hit, look_miss, news_nil, wb_cons, wb_nil, skip0, List.reverse_cons, List.reverse_nil, bneI, bneB, lx, v1, v2, m1, p_iaddr, p_faddr, op_faddr, d_faddr, p_load, AV.ofCells, k0, ek, evEff, w1, o0 (ExtB.refl _ h1), o1 (ExtB.refl _ h1), o2 (ExtB.refl _ h1), o1 xa, o2 xa, e2, e3, l4, l5, l6, l7, l8, hr, blockK_exit_eq]
  refine ⟨_, _, ts', rfl, ?_, D3.ext (x7.trans x8), hl, ((x1.b _).trans xb).trans ((x7.trans x8).b _)⟩; rfl

theorem step4 (D : Sd h p b q e ts) (hx : Recs 3 h (.sl bx ox m cc) m xs) {i : Nat} (hi : i < m) (hm : m ≤ 150) (ek : Int.tmod (IntKind.i64.wrap (Int.tmod (xs.getD (i * 3) 0) 6 + 6)) 6 = 4) :
    ∃ l H ts', ev (evCallT table 28 300 8) 300 ir7_l1 (At7 (ts.length : Int) (.sl bx ox m cc) p q i) h = some (.norm, l, H) ∧ keepOnly ir7_k1 l = At7 (ts.length : Int) (.sl bx ox m cc) p q (i + 1) ∧ Sd H p b q e ts' ∧ ts'.length = ts.length ∧ ExtB [b, e] h H := by
  have bneI : ∀ {a b : Int}, (a != b) = !(a == b) := rfl
  have bneB : ∀ {x : Bool}, (x != x) = false := by simp
  have lx : ∀ (loc vals : List AV) (h : Heap), evPure loc (.c (.sl bx ox m cc) :: vals) h (.len .sl (.val 0)) = some (.c (.int .i64 (m : Int))) := fun _ _ _ => hx.len rfl
  have v1 : decide ((i : Int) < (m : Int)) = true := ltNat hi
  have v2 := succI (i := i) (by omega)
  have m1 : Nat.blt i m = true := bltT hi
  have few := D.few
  have k0 := hx.op3 hi
  generalize xs.getD (i * 3 + 1) 0 = a at *
  generalize xs.getD (i * 3 + 2) 0 = c at *
  obtain ⟨h1, w1, g1, x1, n1⟩ := box_store (h := h) (z := [.int .i64 0, .int .i64 0, .int .i64 0]) (v := [.int .i64 (xs.getD (i * 3) 0), .int .i64 a, .int .i64 c]) rfl
  have D1 := D.ext x1
  have bn := D.s.bn
  have en := D.r.bn
  have own : ∀ {H : Heap}, ExtB [b, e] h1 H → H.get h.next = some (.cells [.int .i64 (xs.getD (i * 3) 0), .int .i64 a, .int .i64 c]) := fun {H} x => x.at_ g1 (by omega) (by simp; omega)
  have o0 : ∀ {H : Heap}, ExtB [b, e] h1 H → H.read h.next 0 1 = some [.int .i64 (xs.getD (i * 3) 0)] := fun {H} x => read_cells (own x) rfl
  have o1 : ∀ {H : Heap}, ExtB [b, e] h1 H → H.read h.next 1 1 = some [.int .i64 a] := fun {H} x => read_cells (own x) rfl
  have o2 : ∀ {H : Heap}, ExtB [b, e] h1 H → H.read h.next 2 1 = some [.int .i64 c] := fun {H} x => read_cells (own x) rfl
  obtain ⟨z1, h2, e2, mz1, s2, xa0⟩ : ∃ y h', evCallT table 28 300 8 37 [.c (.ptr p 0), .c (.int .i64 c)] h1 = some (.c y, h') ∧ Made h1 h' y (natL (idxGo (waitsOn c) 0 ts)) ∧ SB h' p b (ts.map (freed c)) ∧ ExtB [b] h1 h' := free_any (N := 300) (d := 7) D1.s c (by omega) few
  obtain ⟨z2, h3, e3, mz2, r3, xb0⟩ : ∃ y h', evCallT table 28 300 8 38 [.c (.ptr q 0), .c (.int .i64 c)] h2 = some (.c y, h') ∧ Made h2 h' y (natL (idxGo (waitsOn c) 0 ts)) ∧ SR h' q e (ts.map (freed c)) ∧ ExtB [e] h2 h' := rfree_any (N := 300) (d := 7) (D1.rext xa0) c D.inv (by omega) few
  have hl : (ts.map (freed c)).length = ts.length := by simp
  have D3 : Sd h3 p b q e (ts.map (freed c)) := D1.of s2 xb0 r3 hl (free_inv ts D.inv c)
  have xa : ExtB [b, e] h1 h2 := xa0.mono (by simp)
  have xb : ExtB [b, e] h1 h3 := xa.trans (xb0.mono (by simp))
  have il : (natL (idxGo (waitsOn c) 0 ts)).length ≤ 64 := by have := idx_len (waitsOn c) ts 0; simp [natL]; omega
  have e4 : evCallT table 28 300 8 25 [.c z1, .c z2] h3 = some (.c (.bool true), h3) := by
    have mk : Made h1 h3 z1 (natL (idxGo (waitsOn c) 0 ts)) := mz1.keepB xb0 (fun k hk hS => by have := mz1.young k hk; simp at hS; omega)
    have := ints_ok (T := 28) (N := 300) (d := 7) rfl mk.ints mz2.ints (by omega) (by omega)
    rw [decide_eq_true rfl] at this; exact this
  obtain ⟨ts', hts⟩ : ∃ ts', ts' = ts.map (freed c) := ⟨_, rfl⟩
  rw [← hts] at D3 hl
  obtain ⟨y1, h4, y2, h5, h6, h7, l4, l5, l6, l7, l8, x7⟩ := tail7 D3
  obtain ⟨r, hr, h8, rfl, x8⟩ := tasksAlike (D3.ext x7) (.sl bx ox m cc) i [.c (.int .i64 (ts'.length : Int)), .c (.sl bx ox m cc), .junk, .c (.ptr p 0), .c (.ptr q 0), .c (.int .i64 (i : Int)), .c (.ptr h.next 0), .c (.bool false), .c (.bool false), .c (.int .i64 0), .junk, .junk, .junk, .c (.bool true), .c (.int .i64 4), .junk, .c (.bool false), .c (.bool false), .c (.bool false), .c (.bool false), .c (.bool true), .c (.bool false), .c (.bool false), .junk, .junk] rfl
  rw [hl] at hr
  unfold ir7_l1
  simp only [enter_eq, ev_seq, seqK_norm, seqK_exit, seqK_ret, ev_reg, ev_cond, condK_true, condK_false, ev_block, blockK_norm, blockK_ret, blockK_exit, ev_loop, ev_skip, ev_exit, ev_ret, regK_cons, regK_nil, guard_none, guard_some, regG_true, regG_false, regO_some, op_mov, op_conv, op_bin, op_bsl, op_box, op_mks, op_s2b, op_pick, op_un, op_eq, op_len, op_ext, op_load, op_iaddr, op_slice, op_b2s, op_idxS, op_mx, op_mn, op_call, op_store, op_app, op_copy, args_eq, result_one', rv_loc, finish_norm, finish_ret, outK_some, keep_true, keep_false, keep_nil, p_bin, p_pick, p_un, p_eq, p_conv, evNew, pureK_some, newK_some, X.eval, set_none, set_some, List.map_cons, List.map_nil, List.getD_cons_zero, List.getD_cons_succ, List.getD_nil, List.set_cons_zero, List.set_cons_succ, binCV, unCV, isShift, intArithF_eq, shiftF_eq, wrapF_eq, intArith, shift, eqVal, bound, asNat_cast, cond_true, cond_false, BEq.rfl, beq_self_eq_true, evalParts, fillParts, AV.cells, AV.ofCells, XV.av, AV.xv, List.length_cons, List.length_nil, zeros, patch, setMany, List.nil_append, List.cons_append, Nat.ble, Nat.add_eq, Nat.zero_add, Nat.add_zero, Nat.reduceAdd, Nat.reduceMul, Nat.reduceSub, Nat.ble_eq, Nat.reduceLeDiff, Nat.reduceBEq, Int.reduceBEq, Int.reduceNeg, Bool.and_true, Bool.and_false, Bool.true_and, Bool.false_and, Bool.not_true, Bool.not_false, Bool.true_eq_false, Bool.false_eq_true, Int.reduceLT, Int.reduceLE, Int.reduceGT, Int.reduceGE, decide_true, decide_false, Bool.not_eq_true, loopN_norm, loopN_exit, tf, ft, ff, ev_dreg, dregK_nil, dregK_cons, dregE_true, dregP_some, dregX_some, d_mov, d_bin, d_eq, d_pick, d_un, d_conv, d_b2s, d_len, d_load, d_iaddr, d_slice, d_ext, d_call, d_store, chk_done, chk_none, chk_some, chkG_true, chkG_false, chkOne_nil, chkOne_cons, chkH_some, chkV_same, stage_none, stage_some, look_hit, look_miss, news_nil, wb_cons, wb_nil, skip0, List.reverse_cons, List.reverse_nil, bneI, bneB, lx, v1, v2, m1, p_iaddr, p_faddr, op_faddr, d_faddr, p_load, AV.ofCells, k0, ek, evEff, w1, o0 (ExtB.refl _ h1), o1 (ExtB.refl _ h1), o2 (ExtB.refl _ h1), o1 xa, o2 xa, e2, e3, e4, l4, l5, l6, l7, l8, hr, blockK_exit_eq]
  refine ⟨_, _, ts', rfl, ?_, D3.ext (x7.trans x8), hl, ((x1.b _).trans xb).trans ((x7.trans x8).b _)⟩; rfl

theorem step5 (D : Sd h p b q e ts) (hx : Recs 3 h (.sl bx ox m cc) m xs) {i : Nat} (hi : i < m) (hm : m ≤ 150) (ek : Int.tmod (IntKind.i64.wrap (Int.tmod (xs.getD (i * 3) 0) 6 + 6)) 6 = 5) :
    ∃ l H ts', ev (evCallT table 28 300 8) 300 ir7_l1 (At7 (ts.length : Int) (.sl bx ox m cc) p q i) h = some (.norm, l, H) ∧ keepOnly ir7_k1 l = At7 (ts.length : Int) (.sl bx ox m cc) p q (i + 1) ∧ Sd H p b q e ts' ∧ ts'.length = ts.length ∧ ExtB [b, e] h H := by
  have bneI : ∀ {a b : Int}, (a != b) = !(a == b) := rfl
  have bneB : ∀ {x : Bool}, (x != x) = false := by simp
  have lx : ∀ (loc vals : List AV) (h : Heap), evPure loc (.c (.sl bx ox m cc) :: vals) h (.len .sl (.val 0)) = some (.c (.int .i64 (m : Int))) := fun _ _ _ => hx.len rfl
  have v1 : decide ((i : Int) < (m : Int)) = true := ltNat hi
  have v2 := succI (i := i) (by omega)
  have m1 : Nat.blt i m = true := bltT hi
  have few := D.few
  have k0 := hx.op3 hi
  generalize xs.getD (i * 3 + 1) 0 = a at *
  generalize xs.getD (i * 3 + 2) 0 = c at *
  obtain ⟨h1, w1, g1, x1, n1⟩ := box_store (h := h) (z := [.int .i64 0, .int .i64 0, .int .i64 0]) (v := [.int .i64 (xs.getD (i * 3) 0), .int .i64 a, .int .i64 c]) rfl
  have D1 := D.ext x1
  have bn := D.s.bn
  have en := D.r.bn
  have own : ∀ {H : Heap}, ExtB [b, e] h1 H → H.get h.next = some (.cells [.int .i64 (xs.getD (i * 3) 0), .int .i64 a, .int .i64 c]) := fun {H} x => x.at_ g1 (by omega) (by simp; omega)
  have o0 : ∀ {H : Heap}, ExtB [b, e] h1 H → H.read h.next 0 1 = some [.int .i64 (xs.getD (i * 3) 0)] := fun {H} x => read_cells (own x) rfl
  have o1 : ∀ {H : Heap}, ExtB [b, e] h1 H → H.read h.next 1 1 = some [.int .i64 a] := fun {H} x => read_cells (own x) rfl
  have o2 : ∀ {H : Heap}, ExtB [b, e] h1 H → H.read h.next 2 1 = some [.int .i64 c] := fun {H} x => read_cells (own x) rfl
  obtain ⟨v, h2, h3, e2, e3, x2, x3⟩ : ∃ v h2 h3, evCallT table 28 300 8 39 [.c (.ptr p 0), .c (.int .i64 c)] h1 = some (.c (.int .i64 v), h2) ∧ evCallT table 28 300 8 40 [.c (.ptr q 0), .c (.int .i64 c)] h2 = some (.c (.int .i64 v), h3) ∧ Ext h1 h2 ∧ Ext h2 h3 := by
    by_cases hr : readyM ts = []
    · obtain ⟨h2, e2, x2⟩ := pick_none (N := 300) (d := 6) D1.s c hr (by omega) few
      obtain ⟨h3, e3, x3⟩ := rpick_none (N := 300) (d := 6) (D1.ext x2).r c hr (by omega) few
      exact ⟨_, h2, h3, e2, e3, x2, x3⟩
    · obtain ⟨h2, k, hk, e2, hkn, x2⟩ := pick_some (N := 300) (d := 6) D1.s c hr (by omega) few
      obtain ⟨h3, e3, x3⟩ := rpick_some (N := 300) (d := 6) (D1.ext x2).r c hk hkn (by omega) few
      exact ⟨_, h2, h3, e2, e3, x2, x3⟩
  have D3 : Sd h3 p b q e ts := D1.ext (x2.trans x3)
  have xa : ExtB [b, e] h1 h2 := x2.b _
  have xb : ExtB [b, e] h1 h3 := (x2.trans x3).b _
  obtain ⟨ts', hts⟩ : ∃ ts', ts' = ts := ⟨_, rfl⟩
  have hl : ts'.length = ts.length := by rw [hts]
  rw [← hts] at D3
  obtain ⟨y1, h4, y2, h5, h6, h7, l4, l5, l6, l7, l8, x7⟩ := tail7 D3
  obtain ⟨r, hr, h8, rfl, x8⟩ := tasksAlike (D3.ext x7) (.sl bx ox m cc) i [.c (.int .i64 (ts'.length : Int)), .c (.sl bx ox m cc), .junk, .c (.ptr p 0), .c (.ptr q 0), .c (.int .i64 (i : Int)), .c (.ptr h.next 0), .c (.bool false), .c (.bool false), .c (.int .i64 0), .junk, .junk, .junk, .c (.bool true), .c (.int .i64 5), .c (.bool false), .c (.bool false), .c (.bool false), .c (.bool false), .c (.bool false), .c (.bool false), .junk, .c (.bool false), .junk, .junk] rfl
  rw [hl] at hr
  unfold ir7_l1
  simp only [enter_eq, ev_seq, seqK_norm, seqK_exit, seqK_ret, ev_reg, ev_cond, condK_true, condK_false, ev_block, blockK_norm, blockK_ret, blockK_exit, ev_loop, ev_skip, ev_exit, ev_ret, regK_cons, regK_nil, guard_none, guard_some, regG_true, regG_false, regO_some, op_mov, op_conv, op_bin, op_bsl, op_box, op_mks, op_s2b, op_pick, op_un, op_eq, op_len, op_ext, op_load, op_iaddr, op_slice, op_b2s, op_idxS, op_mx, op_mn, op_call, op_store, op_app, op_copy, args_eq, result_one', rv_loc, finish_norm, finish_ret, outK_some, keep_true, keep_false, keep_nil, p_bin, p_pick, p_un, p_eq, p_conv, evNew, pureK_some, newK_some, X.eval, set_none, set_some, List.map_cons, List.map_nil, List.getD_cons_zero, List.getD_cons_succ, List.getD_nil, List.set_cons_zero, List.set_cons_succ, binCV, unCV, isShift, intArithF_eq, shiftF_eq, wrapF_eq, intArith, shift, eqVal, bound, asNat_cast, cond_true, cond_false, BEq.rfl, beq_self_eq_true, evalParts, fillParts, AV.cells, AV.ofCells, XV.av, AV.xv, List.length_cons, List.length_nil, zeros, patch, setMany, List.nil_append, List.cons_append, Nat.ble, Nat.add_eq, Nat.zero_add, Nat.add_zero, Nat.reduceAdd, Nat.reduceMul, Nat.reduceSub, Nat.ble_eq, Nat.reduceLeDiff, Nat.reduceBEq, Int.reduceBEq, Int.reduceNeg, Bool.and_true, Bool.and_false, Bool.true_and, Bool.false_and, Bool.not_true, Bool.not_false, Bool.true_eq_false, Bool.false_eq_true, Int.reduceLT, Int.reduceLE, Int.reduceGT, Int.reduceGE, decide_true, decide_false, Bool.not_eq_true, loopN_norm, loopN_exit, tf, ft, ff, ev_dreg, dregK_nil, dregK_cons, dregE_true, dregP_some, dregX_some, d_mov, d_bin, d_eq, d_pick, d_un, d_conv, d_b2s, d_len, d_load, d_iaddr, d_slice, d_ext, d_call, d_store, chk_done, chk_none, chk_some, chkG_true, chkG_false, chkOne_nil, chkOne_cons, chkH_some, chkV_same, stage_none, stage_some, look_hit, look_miss, news_nil, wb_cons, wb_nil, skip0, List.reverse_cons, List.reverse_nil, bneI, bneB, lx, v1, v2, m1, p_iaddr, p_faddr, op_faddr, d_faddr, p_load, AV.ofCells, k0, ek, evEff, w1, o0 (ExtB.refl _ h1), o1 (ExtB.refl _ h1), o2 (ExtB.refl _ h1), o1 xa, o2 xa, e2, e3, l4, l5, l6, l7, l8, hr, blockK_exit_eq]
  refine ⟨_, _, ts', rfl, ?_, D3.ext (x7.trans x8), hl, ((x1.b _).trans xb).trans ((x7.trans x8).b _)⟩; rfl
end

theorem schedPlays {x : CV} {h : Heap} {m : Nat} {xs : List Int} (n : Int) (hx : Recs 3 h x m xs) : good (evCallT table 28 300 9 7 [.c (.int .i64 n), .c x] h) = true := by
  have lx : ∀ (loc vals : List AV) (h : Heap), evPure loc (.c x :: vals) h (.len .sl (.val 0)) = some (.c (.int .i64 (m : Int))) := fun _ _ _ => hx.len rfl
  rw [evCallT_eq (F := ir7) rfl rfl rfl]
  unfold ir7
  rw [bodyK_eq]
  by_cases hn : 1 ≤ n ∧ n ≤ 64
  · obtain ⟨k, rfl⟩ : ∃ k : Nat, n = (k : Int) := ⟨n.toNat, by omega⟩
    obtain ⟨p, b, h1, e1, s1, x1, hp, hb⟩ : ∃ p b h', evCallT table 28 300 8 26 [.c (.int .i64 (k : Int))] h = some (.c (.ptr p 0), h') ∧ SB h' p b (List.replicate k tk0) ∧ Ext h h' ∧ h.next ≤ p ∧ h.next ≤ b := new_any (N := 300) (d := 4) (by omega) (by omega) (by omega)
    obtain ⟨q, e, h2, e2, r2, x2, hq, he⟩ : ∃ p b h', evCallT table 28 300 8 27 [.c (.int .i64 (k : Int))] h1 = some (.c (.ptr p 0), h') ∧ SR h' p b (List.replicate k tk0) ∧ Ext h1 h' ∧ h1.next ≤ p ∧ h1.next ≤ b := rnew_ok (N := 300) (d := 7) (by omega) (by omega) (by omega)
    have pn := s1.pn
    have bn := s1.bn
    have hx1n := x1.1
    have D : Sd h2 p b q e (List.replicate k tk0) :=
      ⟨s1.ext (x2.b []) (by simp) (by simp), r2, by simp; omega, (fun t ht h2 => by rw [(List.mem_replicate.1 ht).2] at h2; simp [tk0] at h2), by omega, by omega, by omega, by omega⟩
    have hx2 : Recs 3 h2 x m xs := (hx.ext x1).ext x2
    have hxb : ∀ k, blk x = some k → k ∉ [b, e] := fun k hk => by
      rcases hx.is with ⟨rfl, _⟩ | ⟨i, o, c, rfl, hi⟩
      · cases hk
      · simp [blk] at hk; simp; omega
    by_cases hm : m ≤ 150
    · have v0 : decide ((m : Int) > 150) = false := by simp; omega
      have L : ∀ loc, keepOnly ir7_k1 loc = At7 (k : Int) x p q 0 → ∃ r, loopK (evCallT table 28 300 8) 300 ir7_k1 ir7_l1 300 loc h2 = some r ∧ ∃ a2 a3 l h' ts, r = (.exit 0, .c (.int .i64 (k : Int)) :: a2 :: a3 :: .c (.ptr p 0) :: l, h') ∧ Sd h' p b q e ts ∧ ts.length = k := by
        intro loc hloc
        refine loop_inv (n := m) (fun i loc h' => ∃ ts, Sd h' p b q e ts ∧ ts.length = k ∧ Recs 3 h' x m xs ∧ loc = At7 (k : Int) x p q i) _ ?_ ⟨_, D, by simp, hx2, hloc⟩ (by omega)
        rintro i loc h' hi ⟨ts, D', hl, hx', rfl⟩
        by_cases hlt : i < m
        · left
          refine ⟨hlt, ?_⟩
          obtain ⟨K, hK, ek⟩ := kindM (m := 6) (by omega) (by omega) (xs.getD (i * 3) 0)
          have ek' : Int.tmod (IntKind.i64.wrap (Int.tmod (xs.getD (i * 3) 0) 6 + 6)) 6 = (K : Int) := ek
          obtain ⟨bx, ox, cc, rfl, _⟩ : ∃ i o c, x = .sl i o m c ∧ i < h'.next := by
            rcases hx'.is with ⟨_, h0⟩ | h1
            · omega
            · exact h1
          subst hl
          have fin : (∃ l H ts', ev (evCallT table 28 300 8) 300 ir7_l1 (At7 (ts.length : Int) (.sl bx ox m cc) p q i) h' = some (.norm, l, H) ∧ keepOnly ir7_k1 l = At7 (ts.length : Int) (.sl bx ox m cc) p q (i + 1) ∧ Sd H p b q e ts' ∧ ts'.length = ts.length ∧ ExtB [b, e] h' H) →
              ∃ loc' H', ev (evCallT table 28 300 8) 300 ir7_l1 (At7 (ts.length : Int) (.sl bx ox m cc) p q i) h' = some (.norm, loc', H') ∧ ∃ ts', Sd H' p b q e ts' ∧ ts'.length = ts.length ∧ Recs 3 H' (.sl bx ox m cc) m xs ∧ keepOnly ir7_k1 loc' = At7 (ts.length : Int) (.sl bx ox m cc) p q (i + 1) := by
            rintro ⟨l, H, ts', e1, e2, D2, hl2, x⟩
            exact ⟨_, _, e1, _, D2, hl2, hx'.extB x hxb, e2⟩
          apply fin
          have h6 : K = 0 ∨ K = 1 ∨ K = 2 ∨ K = 3 ∨ K = 4 ∨ K = 5 := by omega
          rcases h6 with rfl | rfl | rfl | rfl | rfl | rfl
          · exact step0 D' hx' hlt hm ek'
          · exact step1 D' hx' hlt hm ek'
          · exact step2 D' hx' hlt hm ek'
          · exact step3 D' hx' hlt hm ek'
          · exact step4 D' hx' hlt hm ek'
          · exact step5 D' hx' hlt hm ek'
        · right
          have v1 : decide ((i : Int) < (m : Int)) = false := geNat (by omega)
          unfold ir7_l1
          simp only [enter_eq, ev_seq, seqK_norm, seqK_exit, seqK_ret, ev_reg, ev_cond, condK_true, condK_false, ev_block, blockK_norm, blockK_ret, blockK_exit, ev_loop, ev_skip, ev_exit, ev_ret, regK_cons, regK_nil, guard_none, guard_some, regG_true, regG_false, regO_some, op_mov, op_conv, op_bin, op_bsl, op_box, op_mks, op_s2b, op_pick, op_un, op_eq, op_len, op_ext, op_load, op_iaddr, op_slice, op_b2s, op_idxS, op_mx, op_mn, op_call, op_store, op_app, op_copy, args_eq, result_one', rv_loc, finish_norm, finish_ret, outK_some, keep_true, keep_false, keep_nil, p_bin, p_pick, p_un, p_eq, p_conv, evNew, pureK_some, newK_some, X.eval, set_none, set_some, List.map_cons, List.map_nil, List.getD_cons_zero, List.getD_cons_succ, List.getD_nil, List.set_cons_zero, List.set_cons_succ, binCV, unCV, isShift, intArithF_eq, shiftF_eq, wrapF_eq, intArith, shift, eqVal, bound, asNat_cast, cond_true, cond_false, BEq.rfl, beq_self_eq_true, evalParts, fillParts, AV.cells, AV.ofCells, XV.av, AV.xv, List.length_cons, List.length_nil, zeros, patch, setMany, List.nil_append, List.cons_append, Nat.ble, Nat.add_eq, Nat.zero_add, Nat.add_zero, Nat.reduceAdd, Nat.reduceMul, Nat.reduceSub, Nat.ble_eq, Nat.reduceLeDiff, Nat.reduceBEq, Int.reduceBEq, Int.reduceNeg, Bool.and_true, Bool.and_false, Bool.true_and, Bool.false_and, Bool.not_true, Bool.not_false, Bool.true_eq_false, Bool.false_eq_true, Int.reduceLT, Int.reduceLE, Int.reduceGT, Int.reduceGE, decide_true, decide_false, Bool.not_eq_true, loopN_norm, loopN_exit, tf, ft, ff, lx, v1]
          exact ⟨_, rfl, by simp, _, _, _, _, _, rfl, D', hl⟩
      obtain ⟨r, hr, a2, a3, l, h', ts, rfl, D', hl⟩ := L [.c (.int .i64 (k : Int)), .c x, .c (.bool false), .c (.ptr p 0), .c (.ptr q 0), .c (.int .i64 0), .tup [], .tup [], .tup [], .tup [], .c (.bool false), .c (.bool false), .c (.bool false), .tup [], .tup [], .tup [], .tup [], .tup [], .tup [], .tup [], .tup [], .tup [], .tup [], .tup [], .tup []] rfl
      obtain ⟨h3, e3, x3⟩ : ∃ h3, evCallT table 28 300 8 45 [.c (.ptr p 0), .c (.int .i64 (-1))] h' = some (.agg [.int .i64 0, .int .i64 0, .int .i64 0], h3) ∧ Ext h' h3 := task_out (N := 300) (d := 6) D'.s (by omega)
      obtain ⟨h4, e4, x4⟩ : ∃ h4, evCallT table 28 300 8 45 [.c (.ptr p 0), .c (.int .i64 (k : Int))] h3 = some (.agg [.int .i64 0, .int .i64 0, .int .i64 0], h4) ∧ Ext h3 h4 := task_out (N := 300) (d := 6) (D'.ext x3).s (by omega)
      have e0 : eqCells [true, true, true] [.int .i64 0, .int .i64 0, .int .i64 0] [.int .i64 0, .int .i64 0, .int .i64 0] = some true := eq_three 0 0 0
      simp only [enter_eq, ev_seq, seqK_norm, seqK_exit, seqK_ret, ev_reg, ev_cond, condK_true, condK_false, ev_block, blockK_norm, blockK_ret, blockK_exit, ev_loop, ev_skip, ev_exit, ev_ret, regK_cons, regK_nil, guard_none, guard_some, regG_true, regG_false, regO_some, op_mov, op_conv, op_bin, op_bsl, op_box, op_mks, op_s2b, op_pick, op_un, op_eq, op_len, op_ext, op_load, op_iaddr, op_slice, op_b2s, op_idxS, op_mx, op_mn, op_call, op_store, op_app, op_copy, args_eq, result_one', rv_loc, finish_norm, finish_ret, outK_some, keep_true, keep_false, keep_nil, p_bin, p_pick, p_un, p_eq, p_conv, evNew, pureK_some, newK_some, X.eval, set_none, set_some, List.map_cons, List.map_nil, List.getD_cons_zero, List.getD_cons_succ, List.getD_nil, List.set_cons_zero, List.set_cons_succ, binCV, unCV, isShift, intArithF_eq, shiftF_eq, wrapF_eq, intArith, shift, eqVal, bound, asNat_cast, cond_true, cond_false, BEq.rfl, beq_self_eq_true, evalParts, fillParts, AV.cells, AV.ofCells, XV.av, AV.xv, List.length_cons, List.length_nil, zeros, patch, setMany, List.nil_append, List.cons_append, Nat.ble, Nat.add_eq, Nat.zero_add, Nat.add_zero, Nat.reduceAdd, Nat.reduceMul, Nat.reduceSub, Nat.ble_eq, Nat.reduceLeDiff, Nat.reduceBEq, Int.reduceBEq, Int.reduceNeg, Bool.and_true, Bool.and_false, Bool.true_and, Bool.false_and, Bool.not_true, Bool.not_false, Bool.true_eq_false, Bool.false_eq_true, Int.reduceLT, Int.reduceLE, Int.reduceGT, Int.reduceGE, decide_true, decide_false, Bool.not_eq_true, loopN_norm, loopN_exit, tf, ft, ff, e1, e2, lx, v0, hr, blockK_exit_eq, evCallT_told, e3, e4, op_build, p_build', e0]
      rfl
    · have v0 : decide ((m : Int) > 150) = true := by simp; omega
      simp only [enter_eq, ev_seq, seqK_norm, seqK_exit, seqK_ret, ev_reg, ev_cond, condK_true, condK_false, ev_block, blockK_norm, blockK_ret, blockK_exit, ev_loop, ev_skip, ev_exit, ev_ret, regK_cons, regK_nil, guard_none, guard_some, regG_true, regG_false, regO_some, op_mov, op_conv, op_bin, op_bsl, op_box, op_mks, op_s2b, op_pick, op_un, op_eq, op_len, op_ext, op_load, op_iaddr, op_slice, op_b2s, op_idxS, op_mx, op_mn, op_call, op_store, op_app, op_copy, args_eq, result_one', rv_loc, finish_norm, finish_ret, outK_some, keep_true, keep_false, keep_nil, p_bin, p_pick, p_un, p_eq, p_conv, evNew, pureK_some, newK_some, X.eval, set_none, set_some, List.map_cons, List.map_nil, List.getD_cons_zero, List.getD_cons_succ, List.getD_nil, List.set_cons_zero, List.set_cons_succ, binCV, unCV, isShift, intArithF_eq, shiftF_eq, wrapF_eq, intArith, shift, eqVal, bound, asNat_cast, cond_true, cond_false, BEq.rfl, beq_self_eq_true, evalParts, fillParts, AV.cells, AV.ofCells, XV.av, AV.xv, List.length_cons, List.length_nil, zeros, patch, setMany, List.nil_append, List.cons_append, Nat.ble, Nat.add_eq, Nat.zero_add, Nat.add_zero, Nat.reduceAdd, Nat.reduceMul, Nat.reduceSub, Nat.ble_eq, Nat.reduceLeDiff, Nat.reduceBEq, Int.reduceBEq, Int.reduceNeg, Bool.and_true, Bool.and_false, Bool.true_and, Bool.false_and, Bool.not_true, Bool.not_false, Bool.true_eq_false, Bool.false_eq_true, Int.reduceLT, Int.reduceLE, Int.reduceGT, Int.reduceGE, decide_true, decide_false, Bool.not_eq_true, loopN_norm, loopN_exit, tf, ft, ff, e1, e2, lx, v0, evCallT_told]
      rfl
  · have e1 : evCallT table 28 300 8 26 [.c (.int .i64 n)] h = some (.c .nilp, h) := new_no (N := 300) (d := 7) hn
    have e2 : evCallT table 28 300 8 27 [.c (.int .i64 n)] h = some (.c .nilp, h) := rnew_no (N := 300) (d := 7) hn
    simp only [enter_eq, ev_seq, seqK_norm, seqK_exit, seqK_ret, ev_reg, ev_cond, condK_true, condK_false, ev_block, blockK_norm, blockK_ret, blockK_exit, ev_loop, ev_skip, ev_exit, ev_ret, regK_cons, regK_nil, guard_none, guard_some, regG_true, regG_false, regO_some, op_mov, op_conv, op_bin, op_bsl, op_box, op_mks, op_s2b, op_pick, op_un, op_eq, op_len, op_ext, op_load, op_iaddr, op_slice, op_b2s, op_idxS, op_mx, op_mn, op_call, op_store, op_app, op_copy, args_eq, result_one', rv_loc, finish_norm, finish_ret, outK_some, keep_true, keep_false, keep_nil, p_bin, p_pick, p_un, p_eq, p_conv, evNew, pureK_some, newK_some, X.eval, set_none, set_some, List.map_cons, List.map_nil, List.getD_cons_zero, List.getD_cons_succ, List.getD_nil, List.set_cons_zero, List.set_cons_succ, binCV, unCV, isShift, intArithF_eq, shiftF_eq, wrapF_eq, intArith, shift, eqVal, bound, asNat_cast, cond_true, cond_false, BEq.rfl, beq_self_eq_true, evalParts, fillParts, AV.cells, AV.ofCells, XV.av, AV.xv, List.length_cons, List.length_nil, zeros, patch, setMany, List.nil_append, List.cons_append, Nat.ble, Nat.add_eq, Nat.zero_add, Nat.add_zero, Nat.reduceAdd, Nat.reduceMul, Nat.reduceSub, Nat.ble_eq, Nat.reduceLeDiff, Nat.reduceBEq, Int.reduceBEq, Int.reduceNeg, Bool.and_true, Bool.and_false, Bool.true_and, Bool.false_and, Bool.not_true, Bool.not_false, Bool.true_eq_false, Bool.false_eq_true, Int.reduceLT, Int.reduceLE, Int.reduceGT, Int.reduceGE, decide_true, decide_false, Bool.not_eq_true, loopN_norm, loopN_exit, tf, ft, ff, e1, e2, evCallT_told]
    rfl

end Lav

namespace Go.Proofs.Ytakkkibaaipmcaa.schedPlays
open Go.ChangeShapes Go.WideShapes Go.ChangeAt Go.RowKit
open Go.ChangeMaps (open_string shut_string)
set_option linter.unusedVariables false

theorem own : ownKnob Try.prog.godebug = none := by kernel_rfl
theorem laidOut : laidOutB Try.prog = true := by kernel_rfl

/-- What the walk is told of a slice of records of ints that came in: it is nil; or it leads to a row of 'cap' records, 'sz' cells each. -/
def IsRecs (sz : Nat) (w : World) (a : Option Addr) (len cap : Nat) (zs : List Int) : Prop :=
  (a = none ∧ len = 0 ∧ cap = 0 ∧ zs = []) ∨
  ∃ x, a = some x ∧ len ≤ cap ∧ cap ≤ maxLen ∧ zs.length = cap * sz ∧ (∀ i, i < zs.length → w.cell? (x.add i) = some (.int .i64 (zs.getD i 0))) ∧ ∀ n ∈ zs, (Lit.int .i64 n).wf = true

theorem walk (a0 : Int) (a1 : Option Addr) (len1 cap1 : Nat) (z1 : List Int) (w : World) (w0 : (Lit.int .i64 a0).wf = true) (w1 : IsRecs 3 w a1 len1 cap1 z1) :
    Calls Try.prog 7 #[.int .i64 a0, .slice a1 len1 cap1] w fun e w' => e = .returned (.bool true) ∧ Below w.heap.size w w' := by
  obtain ⟨ι, h, x, I, hle, hx, hr⟩ := (Lav.Init.empty w).recs (sz := 3) (by omega) w1
  exact Lav.walk_of (Lav.evCallT_sound Lav.mixed Lav.table_ok Lav.tld7 300 9) I (args := [.c (.int .i64 a0), .c x]) (vs := [.int .i64 a0, .slice a1 len1 cap1]) ⟨rfl, hx, trivial⟩ (Lav.schedPlays a0 (Lav.recs_of hr))

set_option maxRecDepth 100000 in
theorem lifted (os : Os) (started : os.Started) (H : Type) (enc : TypeId × Value → H) :
    ReturnsInHanded {} Try.checked os 7 .any (Rows.schedPlaysSpec.pre6 enc Try.prog Try.f7 Rows.schedPlaysRow.domain false) (Rows.schedPlaysSpec.post enc Try.prog Try.f7 false true false false) := by
  refine returnsInHanded_of_change (C := Try.checked) own started (by kernel_rfl) Try.func7
    (ChangeSpec.witness6 (enc := enc) (C := Try.checked) false ⟨#[], #[.int .i64 0, .slice none 0 0], []⟩ 8 (by kernel_rfl) (by kernel_rfl) (by kernel_rfl) (by kernel_rfl)) ?_
  intro W base args ds gs before hval0 hW hcnd _
  have hval : ∀ (j : Nat) t v, Try.f7.params[j]? = some t → args[j]? = some v → Value.okWide Try.prog W .any base t v := hval0
  have hW' := hW
  obtain ⟨p, q, hA0, hV, rfl, hfz, hnd⟩ := hW
  have hA : DataW.TrodAll enc Try.prog W 0 (fun _ => true) true Try.f7.params.toList args.toList ds p := hA0
  rw [Try.params7] at hA hval
  obtain ⟨v0, vs0, d0, ds0, p0, q0, hargs, rfl, rfl, h0, r0⟩ := trodAll_cons hA
  obtain ⟨v1, vs1, d1, ds1, p1, q1, rfl, rfl, rfl, h1, r1⟩ := trodAll_cons r0
  obtain ⟨rfl, rfl, rfl⟩ := trodAll_nil r1
  obtain rfl : args = #[v0, v1] := by cases args; simp_all
  obtain ⟨rfl, rfl⟩ := trodVars_none hV
  obtain ⟨a0, rfl, rfl, rfl, w0⟩ := open_int Try.underlying3 (hval 0 3 v0 rfl rfl) h0
  obtain ⟨a1, len1, cap1, rfl⟩ := okWide_slice Try.underlying43 (hval 1 43 v1 rfl rfl)
  have k1 := h1
  have lt1 : ∀ x ∈ p1, x.block < W.heap.size := by obtain ⟨m, hm⟩ := k1; exact DataW.trod_lt m _ _ _ hm
  obtain ⟨z1, w1⟩ : ∃ zs, IsRecs 3 W a1 len1 cap1 zs := by
    obtain ⟨fuel, hf⟩ := h1
    rcases Lav.open_recs (sz := 3) Try.underlying43 Try.underlying49 (by kernel_rfl) (by
        intro j hj
        match j, hj with
        | 0, _ => exact ⟨0, _, rfl, rfl, Try.underlying3, by kernel_rfl⟩
        | 1, _ => exact ⟨1, _, rfl, rfl, Try.underlying3, by kernel_rfl⟩
        | 2, _ => exact ⟨2, _, rfl, rfl, Try.underlying3, by kernel_rfl⟩
        | j + 3, hj => omega) hf with hcs | ⟨x, l, c, zs, hcs, hl, hm, hz, hcell, hwz⟩
    · simp [Value.cells] at hcs
      obtain ⟨rfl, rfl, rfl⟩ := hcs
      exact ⟨[], .inl ⟨rfl, rfl, rfl, rfl⟩⟩
    · simp [Value.cells] at hcs
      obtain ⟨rfl, rfl, rfl⟩ := hcs
      exact ⟨zs, .inr ⟨_, rfl, hl, hm, by simpa using hz, hcell, hwz⟩⟩
  clear hA0 hval0
  refine (walk a0 a1 len1 cap1 z1 W w0 w1).mono fun e W' ⟨he, bel⟩ => ?_
  subst he
  exact ⟨_, rfl, _, _, _, [], _, [], hW', trodAll_mk1 (shut_bool Try.underlying4 _), (trodAll_cons_mk (shut_int Try.underlying3 w0) (trodAll_cons_mk (Below.trod laidOut (by kernel_rfl) (of_decide_eq_true (by kernel_rfl)) k1 bel lt1) trodAll_mk0)), rfl, bel.frame _, fun h => by cases h⟩

theorem over : Rows.schedPlaysRow.holds Try.pinned (OpenSpec.ofChange Rows.schedPlaysSpec) :=
  OpenClaim.holds_of_wide 7 Try.f7 rfl rfl rfl rfl rfl rfl rfl ⟨rfl, rfl, rfl, rfl, rfl⟩ rfl rfl rfl rfl rfl (by kernel_rfl) Try.func7 (by kernel_rfl)
    (of_decide_eq_true (by kernel_rfl)) (by unfold Func.isWrapper; first | (rw [if_pos (by decide +kernel)]; kernel_rfl) | (rw [if_neg (by decide +kernel)]; exact ⟨rfl, rfl⟩))
    (fun os started H enc _ => lifted os started H enc)

theorem proved : Rows.SchedPlaysSaid := over
end Go.Proofs.Ytakkkibaaipmcaa.schedPlays
