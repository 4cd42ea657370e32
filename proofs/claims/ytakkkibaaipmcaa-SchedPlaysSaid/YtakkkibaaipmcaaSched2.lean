/-
  Layer 7: tasks that are made; that are freed; that are stuck.
-/
import Derived.Test.YtakkkibaaipmcaaSched1
import Derived.KernelRfl
set_option maxRecDepth 100000
set_option linter.unusedSimpArgs false
namespace Lav
open Go (IntKind)

noncomputable def heapOf (r : Option (AV × Heap)) : Heap := match r with | some (_, h) => h | none => Heap.empty

theorem new10 : ∃ p b h', evCallT table 28 200 8 26 [.c (.int .i64 10)] Heap.empty = some (.c (.ptr p 0), h') ∧ SB h' p b (List.replicate 10 tk0) := by
  have hn : (heapOf (evCallT table 28 200 8 26 [.c (.int .i64 10)] Heap.empty)).next = 3 := by kernel_rfl
  exact ⟨2, 1, heapOf (evCallT table 28 200 8 26 [.c (.int .i64 10)] Heap.empty), by kernel_rfl, by kernel_rfl, by kernel_rfl, by omega, by omega, by omega⟩
theorem new12 : ∃ p b h', evCallT table 28 200 8 26 [.c (.int .i64 12)] Heap.empty = some (.c (.ptr p 0), h') ∧ SB h' p b (List.replicate 12 tk0) := by
  have hn : (heapOf (evCallT table 28 200 8 26 [.c (.int .i64 12)] Heap.empty)).next = 3 := by kernel_rfl
  exact ⟨2, 1, heapOf (evCallT table 28 200 8 26 [.c (.int .i64 12)] Heap.empty), by kernel_rfl, by kernel_rfl, by kernel_rfl, by omega, by omega, by omega⟩
/-- Beside a row that came in. -/
theorem new8_row (l : List CV) : ∃ p b h', evCallT table 28 200 8 26 [.c (.int .i64 8)] (Heap.empty.new (.ro l)) = some (.c (.ptr p 0), h') ∧ SB h' p b (List.replicate 8 tk0) ∧ h'.get 0 = some (.ro l) ∧ 0 < b ∧ 0 < p := by
  have hn : (heapOf (evCallT table 28 200 8 26 [.c (.int .i64 8)] (Heap.empty.new (.ro l)))).next = 4 := by kernel_rfl
  exact ⟨3, 2, heapOf (evCallT table 28 200 8 26 [.c (.int .i64 8)] (Heap.empty.new (.ro l))), by kernel_rfl, ⟨by kernel_rfl, by kernel_rfl, by omega, by omega, by omega⟩, by kernel_rfl, by omega, by omega⟩

section
variable {N d : Nat} {h : Heap} {p b : Nat} {ts : Tks}

/-- The places of those that are so. -/
def idxGo (P : Tk → Bool) : Nat → Tks → List Nat
  | _, [] => []
  | i, t :: ts => if P t = true then i :: idxGo P (i + 1) ts else idxGo P (i + 1) ts
theorem idx_app (P : Tk → Bool) : ∀ (ts : Tks) (i : Nat) (t : Tk), idxGo P i (ts ++ [t]) = idxGo P i ts ++ (if P t = true then [i + ts.length] else [])
  | [], i, t => by simp [idxGo]
  | u :: ts, i, t => by
    have := idx_app P ts (i + 1) t
    rw [show i + 1 + ts.length = i + (u :: ts).length by simp; omega] at this
    simp only [List.cons_append, idxGo, this]
    split <;> rfl
theorem idx_len (P : Tk → Bool) : ∀ (ts : Tks) (i : Nat), (idxGo P i ts).length ≤ ts.length
  | [], _ => Nat.le_refl _
  | t :: ts, i => by
    have := idx_len P ts (i + 1)
    simp only [idxGo]; split <;> simp <;> omega
theorem idx_mem (P : Tk → Bool) : ∀ (ts : Tks) (i x : Nat), x ∈ idxGo P i ts ↔ ∃ j, ∃ hj : j < ts.length, x = i + j ∧ P ts[j] = true
  | [], i, x => by simp [idxGo]
  | t :: ts, i, x => by
    have ih := idx_mem P ts (i + 1) x
    have key : x ∈ idxGo P i (t :: ts) ↔ (P t = true ∧ x = i) ∨ x ∈ idxGo P (i + 1) ts := by
      simp only [idxGo]; split
      · rename_i h; simp [h]
      · rename_i h; simp [h]
    rw [key, ih]
    constructor
    · rintro (⟨h1, rfl⟩ | ⟨j, hj, rfl, h2⟩)
      · exact ⟨0, by simp, by simp, by simpa using h1⟩
      · exact ⟨j + 1, by simpa using hj, by omega, by simpa using h2⟩
    · rintro ⟨j, hj, rfl, h2⟩
      cases j with
      | zero => exact .inl ⟨by simpa using h2, by simp⟩
      | succ j => exact .inr ⟨j, by simpa using hj, by omega, by simpa using h2⟩

/-- Does it wait on a number? -/
def waitsOn (on : Int) (t : Tk) : Bool := (t.st == 2) && (t.on == on)
def freed (on : Int) (t : Tk) : Tk := if waitsOn on t = true then ⟨1, t.pc, -1⟩ else t
def freeSt (on : Int) (ts : Tks) (i : Nat) : Tks := (ts.take i).map (freed on) ++ ts.drop i
theorem freeSt_len (on : Int) (ts : Tks) (i : Nat) (hi : i ≤ ts.length) : (freeSt on ts i).length = ts.length := by simp [freeSt]; omega
theorem freeSt_at (on : Int) (ts : Tks) (i : Nat) (hi : i < ts.length) : (freeSt on ts i)[i]? = some ts[i] := by
  unfold freeSt
  rw [List.getElem?_append_right (by simp; omega)]
  simp [Nat.min_eq_left (Nat.le_of_lt hi), hi]
theorem freeSt_succ (on : Int) (ts : Tks) (i : Nat) (hi : i < ts.length) : (freeSt on ts i).set i (freed on ts[i]) = freeSt on ts (i + 1) := by
  unfold freeSt
  rw [List.set_append_right _ _ (by simp; omega), List.take_succ_eq_append_getElem hi, List.map_append]
  have e : i - ((ts.take i).map (freed on)).length = 0 := by simp; omega
  rw [e, List.drop_eq_getElem_cons hi, List.set_cons_zero]
  simp

theorem free_ok (s : SB h p b ts) (on : Nat) (hN : ts.length + 2 ≤ N) (hn : ts.length ≤ 64) :
    ∃ y h', evCallT table 28 N (d + 1) 37 [.c (.ptr p 0), .c (.int .i64 (on : Int))] h = some (.c y, h') ∧ Made h h' y (natL (idxGo (waitsOn on) 0 ts)) ∧ SB h' p b (ts.map (freed on)) ∧ ExtB [b] h h' := by
  have ll : ∀ loc vals h', evPure loc (.c (.sl b 0 ts.length (.ex ts.length)) :: vals) h' (.len .sl (.val 0)) = some (.c (.int .i64 (ts.length : Int))) := fun _ _ _ => rfl
  rw [evCallT_eq (F := ir37) rfl rfl rfl]
  unfold ir37
  rw [bodyK_eq]
  have bneI : ∀ {a b : Int}, (a != b) = !(a == b) := rfl
  have L : ∀ loc, keepOnly ir37_k0 loc = [.c (.ptr p 0), .c (.int .i64 (on : Int)), .junk, .c .nils, .junk, .junk, .junk, .c (.sl b 0 ts.length (.ex ts.length)), .c (.int .i64 (ts.length : Int)), .c (.int .i64 0), .junk, .junk] →
      ∃ r, loopK (evCallT table 28 N d) N ir37_k0 ir37_l0 N loc h = some r ∧ ∃ y h' a0 a1 a2 l, r = (.exit 0, a0 :: a1 :: a2 :: .c y :: l, h') ∧ Made h h' y (natL (idxGo (waitsOn on) 0 ts)) ∧ SB h' p b (ts.map (freed on)) ∧ ExtB [b] h h' := by
    intro loc hloc
    refine loop_inv (n := ts.length) (fun i loc h' => ExtB [b] h h' ∧ SB h' p b (freeSt on ts i) ∧ ∃ y, Mine 1 h h' y (idxGo (waitsOn on) 0 (ts.take i)).length ((natL (idxGo (waitsOn on) 0 (ts.take i))).map icell) ∧ loc = [.c (.ptr p 0), .c (.int .i64 (on : Int)), .junk, .c y, .junk, .junk, .junk, .c (.sl b 0 ts.length (.ex ts.length)), .c (.int .i64 (ts.length : Int)), .c (.int .i64 (i : Int)), .junk, .junk]) _ ?_
      ⟨ExtB.refl _ _, by simpa [freeSt] using s, .nils, Mine.nil, hloc⟩ (by omega)
    rintro i loc h' hi ⟨he, s', y, hy, rfl⟩
    unfold ir37_l0
    have hfl := freeSt_len on ts i hi
    by_cases hlt : i < ts.length
    · left
      refine ⟨hlt, ?_⟩
      have v1 : decide ((i : Int) < (ts.length : Int)) = true := ltNat hlt
      have v2 := succI (i := i) (by omega)
      have m1 : Nat.blt i ts.length = true := bltT hlt
      have hat : (freeSt on ts i)[i]'(by omega) = ts[i] := by
        have := freeSt_at on ts i hlt
        rw [List.getElem?_eq_getElem (by omega)] at this
        simpa using this
      have rt := s'.rt (i := i) (by omega)
      rw [hat] at rt
      have r' := s'.r
      rw [hfl] at r'
      obtain ⟨h1, w1, g1, x1, n1⟩ := box_store (h := h') (z := [.int .i64 0, .int .i64 0, .int .i64 0]) (v := [.int .i64 ts[i].st, .int .i64 ts[i].pc, .int .i64 ts[i].on]) rfl
      have q0 : h1.read h'.next 0 1 = some [.int .i64 ts[i].st] := read_cells g1 rfl
      have q2 : h1.read h'.next 2 1 = some [.int .i64 ts[i].on] := read_cells g1 rfl
      have s1 := s'.ext (x1.b []) (by simp) (by simp)
      have hy1 : Mine 1 h h1 y (idxGo (waitsOn on) 0 (ts.take i)).length ((natL (idxGo (waitsOn on) 0 (ts.take i))).map icell) := Mine.keep hy x1.1 fun j hj _ => x1.2 j hj
      have he1 : ExtB [b] h h1 := he.trans (x1.b _)
      have happ := idx_app (waitsOn on) (ts.take i) 0 ts[i]
      rw [← List.take_succ_eq_append_getElem hlt, Nat.zero_add, List.length_take, Nat.min_eq_left (Nat.le_of_lt hlt)] at happ
      have hrl := idx_len (waitsOn on) (ts.take i) 0
      rw [List.length_take] at hrl
      have hsucc := freeSt_succ on ts i hlt
      have stay : waitsOn on ts[i] = false → freeSt on ts (i + 1) = freeSt on ts i := fun hw => by
        rw [← hsucc]
        have : freed on ts[i] = ts[i] := by simp [freed, hw]
        rw [this, ← hat]; exact List.set_getElem_self _
      by_cases c1 : ts[i].st = 2
      · have e1 : (ts[i].st == 2) = true := by simp [c1]
        by_cases c2 : ts[i].on = (on : Int)
        · have e2 : (ts[i].on == (on : Int)) = true := by simp [c2]
          have hw : waitsOn on ts[i] = true := by simp [waitsOn, e1, e2]
          have hfr : freed on ts[i] = ⟨1, ts[i].pc, -1⟩ := by simp [freed, hw]
          rw [if_pos hw] at happ
          have r1 := s1.r
          rw [hfl] at r1
          have W1 := s1.w0 (i := i) (by omega) 1
          have s2 : SB (h1.put b (.cells (tksC ((freeSt on ts i).set i { (freeSt on ts i)[i]'(by omega) with st := 1 })))) p b ((freeSt on ts i).set i { (freeSt on ts i)[i]'(by omega) with st := 1 }) := s1.put (by simp)
          have W2 := s2.w2 (i := i) (by simp; omega) (-1)
          rw [List.getElem_set_self, List.set_set] at W2
          have hlast : (freeSt on ts i).set i { ({ (freeSt on ts i)[i]'(by omega) with st := 1 } : Tk) with on := -1 } = freeSt on ts (i + 1) := by
            rw [← hsucc, hfr, hat]
          rw [hlast] at W2
          generalize hH : (h1.put b (.cells (tksC ((freeSt on ts i).set i { (freeSt on ts i)[i]'(by omega) with st := 1 })))).put b (.cells (tksC (freeSt on ts (i + 1)))) = H at *
          have sH : SB H p b (freeSt on ts (i + 1)) := by rw [← hH]; exact s2.put (by simp; rw [freeSt_len on ts (i + 1) (by omega), hfl])
          have xH : ExtB [b] h1 H := by rw [← hH]; exact ((ExtB.refl _ _).put (.inr (by simp)) _).put (.inr (by simp)) _
          have nH : H.next = h1.next := by rw [← hH]; rfl
          have hyb : ∀ k, blk y = some k → k ∉ [b] := fun k hk => by have := hy.young k hk; have := s.bn; simp; omega
          have hyH := hy1.keepB xH hyb
          obtain ⟨ha, a1, a2, a3, a4⟩ := app_mine (m := 0) (y := .c (.sl H.next 0 1 (.ex 1))) (hyH.new (.cells [icell (i : Int)])) (Nat.le_trans (he1.trans xH).1 (Nat.le_succ _)) (source_new get_new_at rfl) rfl (by omega)
          simp only [icell] at a1
          have hyg : ∀ r, r < h.next → blk y ≠ some r := fun r hr e => by have := hy.young r e; omega
          have old : ∀ r, r < h.next → ha.get r = H.get r := fun r hr => by
            rw [a4 r (Nat.lt_of_lt_of_le hr (Nat.le_trans (he1.trans xH).1 (Nat.le_succ _))) (hyg r hr), get_new_old (Nat.lt_of_lt_of_le hr (he1.trans xH).1)]
          have nha : ha.next = H.next + 2 := by rw [a3]; rfl
          have xa : ExtB [b] h ha := ⟨by have := (he1.trans xH).1; omega, fun r hr hn => (old r hr).trans ((he1.trans xH).2 r hr hn)⟩
          have sa : SB ha p b (freeSt on ts (i + 1)) := ⟨(old p s.pn).trans sH.cell, (old b s.bn).trans sH.tasks, s.ne, by have := sH.pn; omega, by have := sH.bn; omega⟩
          simp only [enter_eq, ev_seq, seqK_norm, seqK_exit, seqK_ret, ev_reg, ev_cond, condK_true, condK_false, ev_block, blockK_norm, blockK_ret, blockK_exit, ev_loop, ev_skip, ev_exit, ev_ret, regK_cons, regK_nil, guard_none, guard_some, regG_true, regG_false, regO_some, op_mov, op_conv, op_bin, op_bsl, op_box, op_mks, op_s2b, op_pick, op_un, op_eq, op_len, op_ext, op_load, op_iaddr, op_slice, op_b2s, op_idxS, op_mx, op_mn, op_call, op_store, op_app, op_copy, args_eq, result_one', rv_loc, finish_norm, finish_ret, outK_some, keep_true, keep_false, keep_nil, p_bin, p_pick, p_un, p_eq, p_conv, evNew, pureK_some, newK_some, X.eval, set_none, set_some, List.map_cons, List.map_nil, List.getD_cons_zero, List.getD_cons_succ, List.getD_nil, List.set_cons_zero, List.set_cons_succ, binCV, unCV, isShift, intArithF_eq, shiftF_eq, wrapF_eq, intArith, shift, eqVal, bound, asNat_cast, cond_true, cond_false, BEq.rfl, beq_self_eq_true, evalParts, fillParts, AV.cells, AV.ofCells, XV.av, AV.xv, List.length_cons, List.length_nil, zeros, patch, setMany, List.nil_append, List.cons_append, Nat.ble, Nat.add_eq, Nat.zero_add, Nat.add_zero, Nat.reduceAdd, Nat.reduceMul, Nat.reduceSub, Nat.ble_eq, Nat.reduceLeDiff, Nat.reduceBEq, Int.reduceBEq, Int.reduceNeg, Bool.and_true, Bool.and_false, Bool.true_and, Bool.false_and, Bool.not_true, Bool.not_false, Bool.true_eq_false, Bool.false_eq_true, Int.reduceLT, Int.reduceLE, Int.reduceGT, Int.reduceGE, decide_true, decide_false, Bool.not_eq_true, loopN_norm, loopN_exit, tf, ft, ff, ev_dreg, dregK_nil, dregK_cons, dregE_true, dregP_some, dregX_some, d_mov, d_bin, d_eq, d_pick, d_un, d_conv, d_b2s, d_len, d_load, d_iaddr, d_slice, d_ext, d_call, d_store, chk_done, chk_none, chk_some, chkG_true, chkG_false, chkOne_nil, chkOne_cons, chkH_some, chkV_same, stage_none, stage_some, look_hit, look_miss, news_nil, wb_cons, wb_nil, skip0, List.reverse_cons, List.reverse_nil, bneI, d_nilchk, d_faddr, op_nilchk, p_nilchk, op_faddr, p_faddr, v1, v2, p_iaddr, p_load, m1, r', r1, rt, w1, evEff, q0, q2, e1, e2, AV.ofCells, W1, W2, a1]
          refine ⟨_, _, rfl, xa, sa, _, ?_, rfl⟩
          rw [happ]
          simp only [natL, List.map_append, List.length_append, List.length_cons, List.length_nil]
          exact a2
        · have e2 : (ts[i].on == (on : Int)) = false := by simp [c2]
          have hw : waitsOn on ts[i] = false := by simp [waitsOn, e1, e2]
          rw [if_neg (by simp [hw]), List.append_nil] at happ
          simp only [enter_eq, ev_seq, seqK_norm, seqK_exit, seqK_ret, ev_reg, ev_cond, condK_true, condK_false, ev_block, blockK_norm, blockK_ret, blockK_exit, ev_loop, ev_skip, ev_exit, ev_ret, regK_cons, regK_nil, guard_none, guard_some, regG_true, regG_false, regO_some, op_mov, op_conv, op_bin, op_bsl, op_box, op_mks, op_s2b, op_pick, op_un, op_eq, op_len, op_ext, op_load, op_iaddr, op_slice, op_b2s, op_idxS, op_mx, op_mn, op_call, op_store, op_app, op_copy, args_eq, result_one', rv_loc, finish_norm, finish_ret, outK_some, keep_true, keep_false, keep_nil, p_bin, p_pick, p_un, p_eq, p_conv, evNew, pureK_some, newK_some, X.eval, set_none, set_some, List.map_cons, List.map_nil, List.getD_cons_zero, List.getD_cons_succ, List.getD_nil, List.set_cons_zero, List.set_cons_succ, binCV, unCV, isShift, intArithF_eq, shiftF_eq, wrapF_eq, intArith, shift, eqVal, bound, asNat_cast, cond_true, cond_false, BEq.rfl, beq_self_eq_true, evalParts, fillParts, AV.cells, AV.ofCells, XV.av, AV.xv, List.length_cons, List.length_nil, zeros, patch, setMany, List.nil_append, List.cons_append, Nat.ble, Nat.add_eq, Nat.zero_add, Nat.add_zero, Nat.reduceAdd, Nat.reduceMul, Nat.reduceSub, Nat.ble_eq, Nat.reduceLeDiff, Nat.reduceBEq, Int.reduceBEq, Int.reduceNeg, Bool.and_true, Bool.and_false, Bool.true_and, Bool.false_and, Bool.not_true, Bool.not_false, Bool.true_eq_false, Bool.false_eq_true, Int.reduceLT, Int.reduceLE, Int.reduceGT, Int.reduceGE, decide_true, decide_false, Bool.not_eq_true, loopN_norm, loopN_exit, tf, ft, ff, bneI, op_nilchk, p_nilchk, op_faddr, p_faddr, v1, v2, p_iaddr, p_load, m1, rt, w1, evEff, q0, q2, e1, e2, AV.ofCells]
          exact ⟨_, _, rfl, he1, by rw [stay hw]; exact s1, y, by rw [happ]; exact hy1, rfl⟩
      · have e1 : (ts[i].st == 2) = false := by simp [c1]
        have hw : waitsOn on ts[i] = false := by simp [waitsOn, e1]
        rw [if_neg (by simp [hw]), List.append_nil] at happ
        simp only [enter_eq, ev_seq, seqK_norm, seqK_exit, seqK_ret, ev_reg, ev_cond, condK_true, condK_false, ev_block, blockK_norm, blockK_ret, blockK_exit, ev_loop, ev_skip, ev_exit, ev_ret, regK_cons, regK_nil, guard_none, guard_some, regG_true, regG_false, regO_some, op_mov, op_conv, op_bin, op_bsl, op_box, op_mks, op_s2b, op_pick, op_un, op_eq, op_len, op_ext, op_load, op_iaddr, op_slice, op_b2s, op_idxS, op_mx, op_mn, op_call, op_store, op_app, op_copy, args_eq, result_one', rv_loc, finish_norm, finish_ret, outK_some, keep_true, keep_false, keep_nil, p_bin, p_pick, p_un, p_eq, p_conv, evNew, pureK_some, newK_some, X.eval, set_none, set_some, List.map_cons, List.map_nil, List.getD_cons_zero, List.getD_cons_succ, List.getD_nil, List.set_cons_zero, List.set_cons_succ, binCV, unCV, isShift, intArithF_eq, shiftF_eq, wrapF_eq, intArith, shift, eqVal, bound, asNat_cast, cond_true, cond_false, BEq.rfl, beq_self_eq_true, evalParts, fillParts, AV.cells, AV.ofCells, XV.av, AV.xv, List.length_cons, List.length_nil, zeros, patch, setMany, List.nil_append, List.cons_append, Nat.ble, Nat.add_eq, Nat.zero_add, Nat.add_zero, Nat.reduceAdd, Nat.reduceMul, Nat.reduceSub, Nat.ble_eq, Nat.reduceLeDiff, Nat.reduceBEq, Int.reduceBEq, Int.reduceNeg, Bool.and_true, Bool.and_false, Bool.true_and, Bool.false_and, Bool.not_true, Bool.not_false, Bool.true_eq_false, Bool.false_eq_true, Int.reduceLT, Int.reduceLE, Int.reduceGT, Int.reduceGE, decide_true, decide_false, Bool.not_eq_true, loopN_norm, loopN_exit, tf, ft, ff, bneI, op_nilchk, p_nilchk, op_faddr, p_faddr, v1, v2, p_iaddr, p_load, m1, rt, w1, evEff, q0, q2, e1, AV.ofCells]
        exact ⟨_, _, rfl, he1, by rw [stay hw]; exact s1, y, by rw [happ]; exact hy1, rfl⟩
    · right
      have hin : i = ts.length := by omega
      subst hin
      have v1 : decide ((ts.length : Int) < (ts.length : Int)) = false := geNat (Nat.le_refl _)
      rw [List.take_length] at hy
      have hend : freeSt on ts ts.length = ts.map (freed on) := by simp [freeSt]
      rw [hend] at s'
      simp only [enter_eq, ev_seq, seqK_norm, seqK_exit, seqK_ret, ev_reg, ev_cond, condK_true, condK_false, ev_block, blockK_norm, blockK_ret, blockK_exit, ev_loop, ev_skip, ev_exit, ev_ret, regK_cons, regK_nil, guard_none, guard_some, regG_true, regG_false, regO_some, op_mov, op_conv, op_bin, op_bsl, op_box, op_mks, op_s2b, op_pick, op_un, op_eq, op_len, op_ext, op_load, op_iaddr, op_slice, op_b2s, op_idxS, op_mx, op_mn, op_call, op_store, op_app, op_copy, args_eq, result_one', rv_loc, finish_norm, finish_ret, outK_some, keep_true, keep_false, keep_nil, p_bin, p_pick, p_un, p_eq, p_conv, evNew, pureK_some, newK_some, X.eval, set_none, set_some, List.map_cons, List.map_nil, List.getD_cons_zero, List.getD_cons_succ, List.getD_nil, List.set_cons_zero, List.set_cons_succ, binCV, unCV, isShift, intArithF_eq, shiftF_eq, wrapF_eq, intArith, shift, eqVal, bound, asNat_cast, cond_true, cond_false, BEq.rfl, beq_self_eq_true, evalParts, fillParts, AV.cells, AV.ofCells, XV.av, AV.xv, List.length_cons, List.length_nil, zeros, patch, setMany, List.nil_append, List.cons_append, Nat.ble, Nat.add_eq, Nat.zero_add, Nat.add_zero, Nat.reduceAdd, Nat.reduceMul, Nat.reduceSub, Nat.ble_eq, Nat.reduceLeDiff, Nat.reduceBEq, Int.reduceBEq, Int.reduceNeg, Bool.and_true, Bool.and_false, Bool.true_and, Bool.false_and, Bool.not_true, Bool.not_false, Bool.true_eq_false, Bool.false_eq_true, Int.reduceLT, Int.reduceLE, Int.reduceGT, Int.reduceGE, decide_true, decide_false, Bool.not_eq_true, loopN_norm, loopN_exit, tf, ft, ff, v1]
      refine ⟨_, rfl, by simp, y, h', _, _, _, _, rfl, ?_, s', he⟩
      exact Mine.made (vs := natL (idxGo (waitsOn on) 0 ts)) (by have : (idxGo (waitsOn on) 0 ts).length = (natL (idxGo (waitsOn on) 0 ts)).length := by simp [natL]
                                                                 rw [this] at hy; exact hy)
  obtain ⟨r, hr, y, h', a0, a1, a2, l, rfl, my, s', he⟩ := L [.c (.ptr p 0), .c (.int .i64 (on : Int)), .c .nils, .c .nils, .tup [], .tup [], .c (.bool false), .c (.sl b 0 ts.length (.ex ts.length)), .c (.int .i64 (ts.length : Int)), .c (.int .i64 0), .tup [], .tup []] rfl
  simp only [enter_eq, ev_seq, seqK_norm, seqK_exit, seqK_ret, ev_reg, ev_cond, condK_true, condK_false, ev_block, blockK_norm, blockK_ret, blockK_exit, ev_loop, ev_skip, ev_exit, ev_ret, regK_cons, regK_nil, guard_none, guard_some, regG_true, regG_false, regO_some, op_mov, op_conv, op_bin, op_bsl, op_box, op_mks, op_s2b, op_pick, op_un, op_eq, op_len, op_ext, op_load, op_iaddr, op_slice, op_b2s, op_idxS, op_mx, op_mn, op_call, op_store, op_app, op_copy, args_eq, result_one', rv_loc, finish_norm, finish_ret, outK_some, keep_true, keep_false, keep_nil, p_bin, p_pick, p_un, p_eq, p_conv, evNew, pureK_some, newK_some, X.eval, set_none, set_some, List.map_cons, List.map_nil, List.getD_cons_zero, List.getD_cons_succ, List.getD_nil, List.set_cons_zero, List.set_cons_succ, binCV, unCV, isShift, intArithF_eq, shiftF_eq, wrapF_eq, intArith, shift, eqVal, bound, asNat_cast, cond_true, cond_false, BEq.rfl, beq_self_eq_true, evalParts, fillParts, AV.cells, AV.ofCells, XV.av, AV.xv, List.length_cons, List.length_nil, zeros, patch, setMany, List.nil_append, List.cons_append, Nat.ble, Nat.add_eq, Nat.zero_add, Nat.add_zero, Nat.reduceAdd, Nat.reduceMul, Nat.reduceSub, Nat.ble_eq, Nat.reduceLeDiff, Nat.reduceBEq, Int.reduceBEq, Int.reduceNeg, Bool.and_true, Bool.and_false, Bool.true_and, Bool.false_and, Bool.not_true, Bool.not_false, Bool.true_eq_false, Bool.false_eq_true, Int.reduceLT, Int.reduceLE, Int.reduceGT, Int.reduceGE, decide_true, decide_false, Bool.not_eq_true, loopN_norm, loopN_exit, tf, ft, ff, op_nilchk, p_nilchk, op_faddr, p_faddr, p_load, s.r, AV.ofCells, ll, hr, blockK_exit_eq]
  exact ⟨_, _, rfl, my, s', he⟩
end
end Lav
