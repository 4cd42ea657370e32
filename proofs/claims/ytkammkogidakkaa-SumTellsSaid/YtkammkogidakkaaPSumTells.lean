/-
  Proved: whatever bytes and numbers come in, lavabolaw1.SumTells returns true and changes nothing that was there. No conditions beyond the given statement's.
-/
import Derived.Test.YtkammkogidakkaaRows
import Derived.Test.YtkammkogidakkaaSum1
import Derived.Test.YtkammkogidakkaaSum2
import Derived.Test.YtkammkogidakkaaSum3
import Derived.Test.YtkammkogidakkaaSum4
import Derived.Test.YtkammkogidakkaaSum5
import Derived.WalkKit
import Derived.ProofKit
import Derived.OpenShut
import Derived.ShutString
import Derived.ChangeOld
import Derived.Below
set_option maxRecDepth 100000
set_option linter.unusedSimpArgs false
namespace Lav
open Go (IntKind)
theorem read_put {h : Heap} {b : Blk} {i j o n : Nat} (hi : i ≠ j) : (h.put j b).read i o n = h.read i o n := by
  have : (h.put j b).get i = h.get i := by
    rw [Heap.get_put]; simp only [upd]; rw [if_neg hi]
  simp only [Heap.read, this]

theorem wrap64 {n : Nat} (h : n < 1000000) : IntKind.u64.wrap (n : Int) = (n : Int) := by
  simp only [IntKind.wrap, IntKind.bits, IntKind.signed]
  simp
  omega

def cellsOf (bs : List (BitVec 8)) : List CV := bs.map fun b => .int .u8 (b.toNat : Int)

theorem app_all {h : Heap} {i o : Nat} {bs : List (BitVec 8)} (hne : bs ≠ []) (hn : bs.length ≤ 300) (hi : i < h.next) (hw : h.read i o bs.length = some (cellsOf bs)) :
    evApp (h.new (.cells [])) 1 (.c (.sl h.next 0 0 (.ex 0))) (.c (.sl i o bs.length (.dy 1))) = some (.c (.sl (h.next + 1) 0 bs.length (.dy 1)), (h.new (.cells [])).new (.cells (cellsOf bs))) := by
  have hg : (h.new (.cells [])).get h.next = some (.cells []) := by rw [Heap.get_new]; simp [upd]
  obtain ⟨m, hm⟩ : ∃ m, bs.length = m + 1 := ⟨bs.length - 1, by have : bs.length ≠ 0 := fun e => hne (List.eq_nil_of_length_eq_zero e); omega⟩
  have hs : source (h.new (.cells [])) 1 (.c (.sl i o bs.length (.dy 1))) = some (bs.length, cellsOf bs) := by
    simp only [source, Nat.mul_one, read_new hi, hw]
  have b1 : Nat.ble (m + 1) 1073741824 = true := Nat.ble_eq_true_of_le (by omega)
  have b2 : Nat.ble (m + 1) 0 = false := rfl
  have hr : (h.new (.cells [])).read h.next 0 (0 * 1) = some [] := by simp only [Heap.read, hg]; rfl
  unfold evApp
  rw [hs, hm]
  simp only [Nat.zero_add, b1, b2, hr, cond_true, cond_false, List.nil_append]
  rfl

theorem store_one {h : Heap} {j k : Nat} {l : List CV} {v : CV} (hg : h.get j = some (.cells l)) (hk : k < l.length) : h.write j (k * 1) [v] = some (h.put j (.cells (l.set k v))) := by
  have hb : Nat.ble (k + 1) l.length = true := Nat.ble_eq_true_of_le hk
  simp only [Heap.write, hg, patch, List.length_cons, List.length_nil, Nat.zero_add, Nat.mul_one, hb, cond_true, setMany]

theorem bytes_cells {h : Heap} {j : Nat} {bs : List (BitVec 8)} (hj : j < h.next) (hg : h.get j = some (.cells (cellsOf bs))) : Bytes h (.sl j 0 bs.length (.dy 1)) bs :=
  .inr ⟨j, 0, .dy 1, rfl, hj, fun k b hk => by
    simp only [Heap.read, hg, Nat.zero_add, Nat.mul_one]
    exact cut_one (by simp [cellsOf, hk])⟩

theorem sumTells {x : CV} {h : Heap} {bs : List (BitVec 8)} (hx : Bytes h x bs) (hsh : x = .nils ∨ ∃ i o, x = .sl i o bs.length (.dy 1)) (hw : Whole h x bs) (a : Int) (c : BitVec 8) :
    good (evCall table 400 9 5 [.c x, .c (.int .i64 a), .c (.int .u8 (c.toNat : Int))] h) = true := by
  have hl : ∀ loc vals : List AV, ∀ h : Heap, evPure loc (.c x :: vals) h (.len .sl (.val 0)) = some (.c (.int .i64 (bs.length : Int))) := by
    intro loc vals h'
    rcases hx with ⟨rfl, rfl⟩ | ⟨i, o, c, rfl, _, _⟩ <;> rfl
  rw [evCall_eq (F := ir5) rfl rfl]
  unfold ir5
  rw [bodyK_eq]
  by_cases h1 : bs.length < 1
  · have w0 : decide ((bs.length : Int) < 1) = true := by simp; omega
    simp only [hl, enter_eq, ev_seq, seqK_norm, seqK_exit, seqK_ret, ev_reg, ev_cond, condK_true, condK_false, ev_block, blockK_norm, blockK_ret, blockK_exit, ev_loop, ev_skip, ev_exit, ev_ret, regK_cons, regK_nil, guard_none, guard_some, regG_true, regG_false, regO_some, op_mov, op_conv, op_bin, op_bsl, op_box, op_mks, op_s2b, op_pick, op_un, op_eq, op_len, op_ext, op_load, op_iaddr, op_slice, op_b2s, op_idxS, op_mx, op_mn, op_call, op_store, op_app, op_copy, args_eq, result_one', rv_loc, finish_norm, finish_ret, outK_some, keep_true, keep_false, keep_nil, p_bin, p_pick, p_un, p_eq, p_conv, evNew, pureK_some, newK_some, X.eval, set_none, set_some, List.map_cons, List.map_nil, List.getD_cons_zero, List.getD_cons_succ, List.getD_nil, List.set_cons_zero, List.set_cons_succ, binCV, unCV, isShift, intArithF_eq, shiftF_eq, wrapF_eq, intArith, shift, eqVal, bound, asNat_cast, cond_true, cond_false, BEq.rfl, beq_self_eq_true, evalParts, fillParts, AV.cells, AV.ofCells, XV.av, AV.xv, List.length_cons, List.length_nil, zeros, patch, setMany, List.nil_append, List.cons_append, Nat.ble, Nat.add_eq, Nat.zero_add, Nat.add_zero, Nat.reduceAdd, Nat.reduceMul, Nat.reduceSub, Nat.ble_eq, Nat.reduceLeDiff, Nat.reduceBEq, Int.reduceBEq, Int.reduceNeg, Bool.and_true, Bool.and_false, Bool.true_and, Bool.false_and, Bool.not_true, Bool.not_false, Bool.true_eq_false, Bool.false_eq_true, Int.reduceLT, Int.reduceLE, Int.reduceGT, Int.reduceGE, decide_true, decide_false, Bool.not_eq_true, loopN_norm, loopN_exit, tf, ft, ff, ev_dreg, dregK_nil, dregK_cons, dregE_true, dregP_some, dregX_some, d_mov, d_bin, d_eq, d_pick, d_un, d_conv, d_b2s, d_len, d_load, d_iaddr, d_slice, d_ext, d_call, d_store, chk_done, chk_none, chk_some, chkG_true, chkG_false, chkOne_nil, chkOne_cons, chkH_some, chkV_same, stage_none, stage_some, look_hit, look_miss, news_nil, wb_cons, wb_nil, skip0, List.reverse_cons, List.reverse_nil, w0, told_any]
    rfl
  · by_cases h2 : bs.length ≤ 300
    · have w0 : decide ((bs.length : Int) < 1) = false := by simp; omega
      have w1 : decide ((bs.length : Int) > 300) = false := by simp; omega
      obtain ⟨i, o, rfl⟩ : ∃ i o, x = .sl i o bs.length (.dy 1) := by
        rcases hsh with rfl | h3
        · rcases hx with ⟨_, hb⟩ | ⟨i, o, c, hb, _⟩
          · rw [hb] at h1; exact absurd Nat.zero_lt_one h1
          · cases hb
        · exact h3
      have hne : bs ≠ [] := by intro e; rw [e] at h1; exact h1 Nat.zero_lt_one
      have hi : i < h.next := by
        rcases hx with ⟨hb, _⟩ | ⟨i', o', c', hb, hi, _⟩
        · cases hb
        · cases hb; exact hi
      obtain ⟨k, hk, e⟩ := few (a := a) (m := bs.length) (by omega) (by omega)
      have w2 : IntKind.u64.wrap (bs.length : Int) = (bs.length : Int) := wrap64 (by omega)
      have w3 : ((bs.length : Int) == 0) = false := by simp; omega
      have hkb : Nat.blt k bs.length = true := Nat.ble_eq_true_of_le hk
      have A := app_all (o := o) hne h2 hi (hw i o rfl hne)
      have hg2 : ((h.new (.cells [])).new (.cells (cellsOf bs))).get (h.next + 1) = some (.cells (cellsOf bs)) := by
        rw [Heap.get_new]; simp [upd, Heap.new]
      have S := store_one (v := .int .u8 (c.toNat : Int)) hg2 (show k < (cellsOf bs).length by simp [cellsOf, hk])
      have hset : (cellsOf bs).set k (.int .u8 (c.toNat : Int)) = cellsOf (bs.set k c) := by simp [cellsOf, List.map_set]
      rw [hset] at S
      generalize hh3 : ((h.new (.cells [])).new (.cells (cellsOf bs))).put (h.next + 1) (.cells (cellsOf (bs.set k c))) = h3 at S
      have hB3 : Bytes h3 (.sl i o bs.length (.dy 1)) bs := by
        rw [← hh3]
        refine .inr ⟨i, o, .dy 1, rfl, Nat.lt_succ_of_lt (Nat.lt_succ_of_lt hi), fun j b hj => ?_⟩
        rw [read_put (by omega), read_new (show i < (h.new (.cells [])).next from Nat.lt_succ_of_lt hi), read_new hi]
        rcases hx with ⟨hb, _⟩ | ⟨i', o', c', hb, _, hr⟩
        · cases hb
        · cases hb; exact hr j b hj
      have hY3 : Bytes h3 (.sl (h.next + 1) 0 bs.length (.dy 1)) (bs.set k c) := by
        have hlen : (bs.set k c).length = bs.length := List.length_set
        have hg3 : h3.get (h.next + 1) = some (.cells (cellsOf (bs.set k c))) := by rw [← hh3, Heap.get_put]; simp [upd]
        have := bytes_cells (j := h.next + 1) (by rw [← hh3]; exact Nat.lt_succ_self _) hg3
        rwa [hlen] at this
      have r1 : evCall table 400 8 14 [.c (.sl (h.next + 1) 0 bs.length (.dy 1))] (h3.new (.cells [.int .u8 97])) = some (.c (.int .u32 ((bof (bs.set k c)).toNat : Int)), h3.new (.cells [.int .u8 97])) := of_ok (by simp; omega) (by simp; omega) (hY3.new _)
      have r2 : evCall table 400 8 14 [.c (.sl i o bs.length (.dy 1))] (h3.new (.cells [.int .u8 97])) = some (.c (.int .u32 ((bof bs).toNat : Int)), h3.new (.cells [.int .u8 97])) := of_ok (by omega) (by omega) (hB3.new _)
      have r3 : (h3.new (.cells [.int .u8 97])).read i (o + k * 1) 1 = some [.int .u8 (bs[k].toNat : Int)] := by
        rcases hB3.new (.cells [.int .u8 97]) with ⟨hb, _⟩ | ⟨i', o', c', hb, _, hr⟩
        · cases hb
        · cases hb; exact hr k bs[k] (by simp [hk])
      have e5 : decide (bof (bs.set k c) = bof bs) = decide (c = bs[k]) := by simp only [bof_set hk]
      simp only [hl, enter_eq, ev_seq, seqK_norm, seqK_exit, seqK_ret, ev_reg, ev_cond, condK_true, condK_false, ev_block, blockK_norm, blockK_ret, blockK_exit, ev_loop, ev_skip, ev_exit, ev_ret, regK_cons, regK_nil, guard_none, guard_some, regG_true, regG_false, regO_some, op_mov, op_conv, op_bin, op_bsl, op_box, op_mks, op_s2b, op_pick, op_un, op_eq, op_len, op_ext, op_load, op_iaddr, op_slice, op_b2s, op_idxS, op_mx, op_mn, op_call, op_store, op_app, op_copy, args_eq, result_one', rv_loc, finish_norm, finish_ret, outK_some, keep_true, keep_false, keep_nil, p_bin, p_pick, p_un, p_eq, p_conv, evNew, pureK_some, newK_some, X.eval, set_none, set_some, List.map_cons, List.map_nil, List.getD_cons_zero, List.getD_cons_succ, List.getD_nil, List.set_cons_zero, List.set_cons_succ, binCV, unCV, isShift, intArithF_eq, shiftF_eq, wrapF_eq, intArith, shift, eqVal, bound, asNat_cast, cond_true, cond_false, BEq.rfl, beq_self_eq_true, evalParts, fillParts, AV.cells, AV.ofCells, XV.av, AV.xv, List.length_cons, List.length_nil, zeros, patch, setMany, List.nil_append, List.cons_append, Nat.ble, Nat.add_eq, Nat.zero_add, Nat.add_zero, Nat.reduceAdd, Nat.reduceMul, Nat.reduceSub, Nat.ble_eq, Nat.reduceLeDiff, Nat.reduceBEq, Int.reduceBEq, Int.reduceNeg, Bool.and_true, Bool.and_false, Bool.true_and, Bool.false_and, Bool.not_true, Bool.not_false, Bool.true_eq_false, Bool.false_eq_true, Int.reduceLT, Int.reduceLE, Int.reduceGT, Int.reduceGE, decide_true, decide_false, Bool.not_eq_true, loopN_norm, loopN_exit, tf, ft, ff, ev_dreg, dregK_nil, dregK_cons, dregE_true, dregP_some, dregX_some, d_mov, d_bin, d_eq, d_pick, d_un, d_conv, d_b2s, d_len, d_load, d_iaddr, d_slice, d_ext, d_call, d_store, chk_done, chk_none, chk_some, chkG_true, chkG_false, chkOne_nil, chkOne_cons, chkH_some, chkV_same, stage_none, stage_some, look_hit, look_miss, news_nil, wb_cons, wb_nil, skip0, List.reverse_cons, List.reverse_nil, w0, w1, w2, w3, e, A, p_iaddr, p_load, hkb, evEff, S, told_any, r1, r2, r3, eq32, eq8, e5]
      rfl
    · have w0 : decide ((bs.length : Int) < 1) = false := by simp; omega
      have w1 : decide ((bs.length : Int) > 300) = true := by simp; omega
      simp only [hl, enter_eq, ev_seq, seqK_norm, seqK_exit, seqK_ret, ev_reg, ev_cond, condK_true, condK_false, ev_block, blockK_norm, blockK_ret, blockK_exit, ev_loop, ev_skip, ev_exit, ev_ret, regK_cons, regK_nil, guard_none, guard_some, regG_true, regG_false, regO_some, op_mov, op_conv, op_bin, op_bsl, op_box, op_mks, op_s2b, op_pick, op_un, op_eq, op_len, op_ext, op_load, op_iaddr, op_slice, op_b2s, op_idxS, op_mx, op_mn, op_call, op_store, op_app, op_copy, args_eq, result_one', rv_loc, finish_norm, finish_ret, outK_some, keep_true, keep_false, keep_nil, p_bin, p_pick, p_un, p_eq, p_conv, evNew, pureK_some, newK_some, X.eval, set_none, set_some, List.map_cons, List.map_nil, List.getD_cons_zero, List.getD_cons_succ, List.getD_nil, List.set_cons_zero, List.set_cons_succ, binCV, unCV, isShift, intArithF_eq, shiftF_eq, wrapF_eq, intArith, shift, eqVal, bound, asNat_cast, cond_true, cond_false, BEq.rfl, beq_self_eq_true, evalParts, fillParts, AV.cells, AV.ofCells, XV.av, AV.xv, List.length_cons, List.length_nil, zeros, patch, setMany, List.nil_append, List.cons_append, Nat.ble, Nat.add_eq, Nat.zero_add, Nat.add_zero, Nat.reduceAdd, Nat.reduceMul, Nat.reduceSub, Nat.ble_eq, Nat.reduceLeDiff, Nat.reduceBEq, Int.reduceBEq, Int.reduceNeg, Bool.and_true, Bool.and_false, Bool.true_and, Bool.false_and, Bool.not_true, Bool.not_false, Bool.true_eq_false, Bool.false_eq_true, Int.reduceLT, Int.reduceLE, Int.reduceGT, Int.reduceGE, decide_true, decide_false, Bool.not_eq_true, loopN_norm, loopN_exit, tf, ft, ff, ev_dreg, dregK_nil, dregK_cons, dregE_true, dregP_some, dregX_some, d_mov, d_bin, d_eq, d_pick, d_un, d_conv, d_b2s, d_len, d_load, d_iaddr, d_slice, d_ext, d_call, d_store, chk_done, chk_none, chk_some, chkG_true, chkG_false, chkOne_nil, chkOne_cons, chkH_some, chkV_same, stage_none, stage_some, look_hit, look_miss, news_nil, wb_cons, wb_nil, skip0, List.reverse_cons, List.reverse_nil, w0, w1, told_any]
      rfl

end Lav

namespace Go.Proofs.Ytkammkogidakkaa.sumTells
open Go.ChangeShapes Go.WideShapes Go.ChangeAt Go.RowKit
open Go.ChangeMaps (open_string shut_string)
set_option linter.unusedVariables false

theorem own : ownKnob Try.prog.godebug = none := by kernel_rfl
theorem laidOut : laidOutB Try.prog = true := by kernel_rfl

/-- WHAT THE WALK IS TOLD OF A SLICE OF INTEGERS THAT CAME IN: it is nil; or it leads to a row of 'cap' cells, the numbers 'zs' (the first 'len' are its elements, the rest its spare room), each fitting its kind. -/
def IsRow (k : IntKind) (w : World) (a : Option Addr) (len cap : Nat) (zs : List Int) : Prop :=
  (a = none ∧ len = 0 ∧ cap = 0 ∧ zs = []) ∨
  ∃ x, a = some x ∧ len ≤ cap ∧ cap ≤ maxLen ∧ zs.length = cap ∧ (∀ i, i < zs.length → w.cell? (x.add i) = some (.int k (zs.getD i 0))) ∧ ∀ n ∈ zs, (Lit.int k n).wf = true

/-! ### STEP 1: THE WALK: the Go text returns true, AND WRITES NOTHING THAT WAS THERE: 'Below w.heap.size w w'' (Derived/Below.lean: '.refl', '.alloc', '.drew', '.setCell' at a new block, '.trans'). Open each 'IsRow' by 'rcases' AHEAD of 'go_enter'; part every test ahead of the walk. -/
theorem walk (a0 : Option Addr) (len0 cap0 : Nat) (z0 : List Int) (a1 : Int) (a2 : Int) (w : World) (w0 : IsRow .u8 w a0 len0 cap0 z0) (w1 : (Lit.int .i64 a1).wf = true) (w2 : (Lit.int .u8 a2).wf = true) :
    Calls Try.prog 5 #[.slice a0 len0 cap0, .int .i64 a1, .int .u8 a2] w fun e w' => e = .returned (.bool true) ∧ Below w.heap.size w w' := by
  obtain ⟨ι, h, x, I, hle, hx, hr⟩ := (Lav.Init.empty w).slice w0
  obtain ⟨bs, hbs, hB, hsh⟩ := Lav.bytes_of hr
  rw [hbs] at hr
  obtain ⟨c, rfl⟩ := Lav.u8_of w2
  exact Lav.walk_of (Lav.calls_ok 400 9) I (args := [.c x, .c (.int .i64 a1), .c (.int .u8 (c.toNat : Int))]) (vs := [.slice a0 len0 cap0, .int .i64 a1, .int .u8 c.toNat]) ⟨hx, rfl, rfl, trivial⟩ (Lav.sumTells hB hsh (Lav.whole_of hr) a1 c)

/-! ### THE ROW's STEP: WRITTEN OUT: LEAVE IT -/
set_option maxRecDepth 100000 in
theorem lifted (os : Os) (started : os.Started) (H : Type) (enc : TypeId × Value → H) :
    ReturnsInHanded {} Try.checked os 5 .any (Rows.sumTellsSpec.pre6 enc Try.prog Try.f5 Rows.sumTellsRow.domain false) (Rows.sumTellsSpec.post enc Try.prog Try.f5 false true false false) := by
  refine returnsInHanded_of_change (C := Try.checked) own started (by kernel_rfl) Try.func5
    (ChangeSpec.witness6 (enc := enc) (C := Try.checked) false ⟨#[], #[.slice none 0 0, .int .i64 0, .int .u8 0], []⟩ 8 (by kernel_rfl) (by kernel_rfl) (by kernel_rfl) (by kernel_rfl)) ?_
  intro W base args ds gs before hval0 hW hcnd _
  have hval : ∀ (j : Nat) t v, Try.f5.params[j]? = some t → args[j]? = some v → Value.okWide Try.prog W .any base t v := hval0
  have hW' := hW
  obtain ⟨p, q, hA0, hV, rfl, hfz, hnd⟩ := hW
  have hA : DataW.TrodAll enc Try.prog W 0 (fun _ => true) true Try.f5.params.toList args.toList ds p := hA0
  rw [Try.params5] at hA hval
  obtain ⟨v0, vs0, d0, ds0, p0, q0, hargs, rfl, rfl, h0, r0⟩ := trodAll_cons hA
  obtain ⟨v1, vs1, d1, ds1, p1, q1, rfl, rfl, rfl, h1, r1⟩ := trodAll_cons r0
  obtain ⟨v2, vs2, d2, ds2, p2, q2, rfl, rfl, rfl, h2, r2⟩ := trodAll_cons r1
  obtain ⟨rfl, rfl, rfl⟩ := trodAll_nil r2
  obtain rfl : args = #[v0, v1, v2] := by cases args; simp_all
  obtain ⟨rfl, rfl⟩ := trodVars_none hV
  obtain ⟨a0, len0, cap0, rfl⟩ := okWide_slice Try.underlying22 (hval 0 22 v0 rfl rfl)
  have k0 := h0
  have lt0 : ∀ x ∈ p0, x.block < W.heap.size := by obtain ⟨m, hm⟩ := k0; exact DataW.trod_lt m _ _ _ hm
  obtain ⟨z0, w0⟩ : ∃ zs, IsRow .u8 W a0 len0 cap0 zs := by
    obtain ⟨fuel, hf⟩ := h0
    rcases open_ints Try.underlying22 Try.underlying5 (by kernel_rfl) hf with ⟨hcs, _⟩ | ⟨x, l, c, zs, hcs, _, hl, hm, hz, _, hcell, hwz⟩
    · simp [Value.cells] at hcs
      obtain ⟨rfl, rfl, rfl⟩ := hcs
      exact ⟨[], .inl ⟨rfl, rfl, rfl, rfl⟩⟩
    · simp [Value.cells] at hcs
      obtain ⟨rfl, rfl, rfl⟩ := hcs
      exact ⟨zs, .inr ⟨_, rfl, hl, hm, by simpa using hz, hcell, hwz⟩⟩
  obtain ⟨a1, rfl, rfl, rfl, w1⟩ := open_int Try.underlying3 (hval 1 3 v1 rfl rfl) h1
  obtain ⟨a2, rfl, rfl, rfl, w2⟩ := open_int Try.underlying5 (hval 2 5 v2 rfl rfl) h2
  clear hA0 hval0
  refine (walk a0 len0 cap0 z0 a1 a2 W w0 w1 w2).mono fun e W' ⟨he, bel⟩ => ?_
  subst he
  exact ⟨_, rfl, _, _, _, [], _, [], hW', trodAll_mk1 (shut_bool Try.underlying4 _), (trodAll_cons_mk (Below.trod laidOut (by kernel_rfl) (of_decide_eq_true (by kernel_rfl)) k0 bel lt0) (trodAll_cons_mk (shut_int Try.underlying3 w1) (trodAll_cons_mk (shut_int Try.underlying5 w2) trodAll_mk0))), rfl, bel.frame _, fun h => by cases h⟩

theorem over : Rows.sumTellsRow.holds Try.pinned (OpenSpec.ofChange Rows.sumTellsSpec) :=
  OpenClaim.holds_of_wide 5 Try.f5 rfl rfl rfl rfl rfl rfl rfl ⟨rfl, rfl, rfl, rfl, rfl⟩ rfl rfl rfl rfl rfl (by kernel_rfl) Try.func5 (by kernel_rfl)
    (of_decide_eq_true (by kernel_rfl)) (by unfold Func.isWrapper; first | (rw [if_pos (by decide +kernel)]; kernel_rfl) | (rw [if_neg (by decide +kernel)]; exact ⟨rfl, rfl⟩))
    (fun os started H enc _ => lifted os started H enc)

/-- ████ THE STATEMENT ████ -/
theorem proved : Rows.SumTellsSaid := over
end Go.Proofs.Ytkammkogidakkaa.sumTells
