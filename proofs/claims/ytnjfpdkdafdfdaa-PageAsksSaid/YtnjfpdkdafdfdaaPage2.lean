/-
  Layer 2: what is in an image; bodies that the laws make.
-/
import Derived.Test.YtnjfpdkdafdfdaaPage1
set_option maxRecDepth 100000
set_option linter.unusedSimpArgs false
namespace Lav
open Go (IntKind)

def strOf (bs : List (BitVec 8)) : List Nat := bs.map BitVec.toNat
theorem strOf_inj : ∀ {a b : List (BitVec 8)}, strOf a = strOf b → a = b
  | [], [], _ => rfl
  | x :: a, y :: b, h => by
    simp only [strOf, List.map_cons, List.cons.injEq] at h
    rw [BitVec.eq_of_toNat_eq h.1, strOf_inj (a := a) (b := b) h.2]
  | [], _ :: _, h => by simp [strOf] at h
  | _ :: _, [], h => by simp [strOf] at h
theorem strOf_beq (a b : List (BitVec 8)) : (strOf a == strOf b) = decide (a = b) := by
  by_cases h : a = b
  · subst h; simp
  · rw [decide_eq_false h]
    simp only [beq_eq_false_iff_ne, ne_eq]
    exact fun e => h (strOf_inj e)
theorem bytesOf_u8s : ∀ (bs : List (BitVec 8)), bytesOf (u8s bs) = some (strOf bs)
  | [] => rfl
  | b :: bs => by
    have hb : Nat.blt b.toNat 256 = true := Nat.ble_eq_true_of_le b.isLt
    have := bytesOf_u8s bs
    show bytesOf (.int .u8 (.ofNat b.toNat) :: u8s bs) = _
    simp only [bytesOf, hb, cond_true, this]; rfl
theorem b2s_at {loc vals : List AV} {h : Heap} {X' : X} {i o n : Nat} {c : Cap} {bs : List (BitVec 8)} (hX : X'.eval loc vals = .c (.sl i o n c)) (hr : h.read i o n = some (u8s bs)) : evPure loc vals h (.b2s X') = some (.c (.str (strOf bs))) := by
  simp only [evPure, hX, hr, bytesOf_u8s]
theorem read_u8 {h : Heap} {i o n : Nat} {bs : List (BitVec 8)} (hg : h.get i = some (.cells (u8s bs))) (hn : o + n = bs.length) : h.read i o n = some (u8s (bs.drop o)) := by
  rw [read_part hg (by rw [u8s_len]; omega)]
  congr 1
  rw [List.take_of_length_le (by simp [u8s]; omega)]
  simp [u8s, List.map_drop]

section
variable {N d : Nat} {h : Heap}

theorem fill_ok (c e : BitVec 8) (at_ : Int) {k : Nat} (hk : k < 16) (ek : IntKind.i64.wrap (Int.tmod (IntKind.u64.wrap at_) 16) = (k : Int)) (hN : 20 ≤ N) :
    ∃ j h', evCallT table 24 N (d + 1) 31 [.c (.int .u8 (c.toNat : Int)), .c (.int .i64 at_), .c (.int .u8 (e.toNat : Int))] h = some (.c (.sl j 0 16 (.ex 16)), h') ∧ h'.get j = some (.cells (u8s ((List.replicate 16 c).set k e))) ∧ h.next ≤ j ∧ j < h'.next ∧ Ext h h' := by
  obtain ⟨j, hj⟩ : ∃ j, j = h.next := ⟨_, rfl⟩
  generalize hh0 : h.new (.cells (u8s (List.replicate 16 0#8))) = h0
  have n0 : h0.next = h.next + 1 := by rw [← hh0]; rfl
  have g0 : h0.get j = some (.cells (u8s (List.replicate 16 0#8))) := by rw [← hh0, hj]; exact get_new_at
  have x0 : Ext h h0 := by rw [← hh0]; exact (Ext.refl _).new _
  have ll : ∀ loc vals H, evPure loc (.c (.sl j 0 16 (.ex 16)) :: vals) H (.len .sl (.val 0)) = some (.c (.int .i64 16)) := fun _ _ _ => rfl
  have st : ∀ (H : Heap) (bs : List (BitVec 8)) (i : Nat) (b : BitVec 8), H.get j = some (.cells (u8s bs)) → i < bs.length → H.write j i [.int .u8 (b.toNat : Int)] = some (H.put j (.cells (u8s (bs.set i b)))) := fun H bs i b hg hi => by
    rw [← set_u8]; exact write_one (v := u8c b) hg (by rw [u8s_len]; exact hi)
  rw [evCallT_eq (F := ir31) rfl rfl rfl]
  unfold ir31
  rw [bodyK_eq]
  have L : ∀ loc, keepOnly ir31_k0 loc = [.c (.int .u8 (c.toNat : Int)), .c (.int .i64 at_), .c (.int .u8 (e.toNat : Int)), .junk, .c (.sl j 0 16 (.ex 16)), .c (.int .i64 0), .junk] →
      ∃ r, loopK (evCallT table 24 N d) N ir31_k0 ir31_l0 N loc h0 = some r ∧ ∃ h' l, r = (.exit 0, .c (.int .u8 (c.toNat : Int)) :: .c (.int .i64 at_) :: .c (.int .u8 (e.toNat : Int)) :: .junk :: .c (.sl j 0 16 (.ex 16)) :: l, h') ∧ h'.get j = some (.cells (u8s (List.replicate 16 c))) ∧ Ext h h' ∧ h'.next = h.next + 1 := by
    intro loc hloc
    refine loop_inv (n := 16) (fun i loc h' => Ext h h' ∧ h'.next = h.next + 1 ∧ (∃ l : List (BitVec 8), h'.get j = some (.cells (u8s l)) ∧ l.length = 16 ∧ ∀ q, q < i → l[q]? = some c) ∧ loc = [.c (.int .u8 (c.toNat : Int)), .c (.int .i64 at_), .c (.int .u8 (e.toNat : Int)), .junk, .c (.sl j 0 16 (.ex 16)), .c (.int .i64 (i : Int)), .junk]) _ ?_ ⟨x0, n0, ⟨_, g0, by simp, fun q hq => absurd hq (by omega)⟩, hloc⟩ (by omega)
    rintro i loc h' hi ⟨he, hn, ⟨l, hg, hll, hq⟩, rfl⟩
    unfold ir31_l0
    by_cases hlt : i < 16
    · left
      refine ⟨hlt, ?_⟩
      have v1 : decide ((i : Int) < 16) = true := ltNat (n := 16) hlt
      have v2 := succI (i := i) (by omega)
      have m1 : Nat.blt i 16 = true := bltT hlt
      have W := st h' l i c hg (by omega)
      simp only [enter_eq, ev_seq, seqK_norm, seqK_exit, seqK_ret, ev_reg, ev_cond, condK_true, condK_false, ev_block, blockK_norm, blockK_ret, blockK_exit, ev_loop, ev_skip, ev_exit, ev_ret, regK_cons, regK_nil, guard_none, guard_some, regG_true, regG_false, regO_some, op_mov, op_conv, op_bin, op_bsl, op_box, op_mks, op_s2b, op_pick, op_un, op_eq, op_len, op_ext, op_load, op_iaddr, op_slice, op_b2s, op_idxS, op_mx, op_mn, op_call, op_store, op_app, op_copy, args_eq, result_one', rv_loc, finish_norm, finish_ret, outK_some, keep_true, keep_false, keep_nil, p_bin, p_pick, p_un, p_eq, p_conv, evNew, pureK_some, newK_some, X.eval, set_none, set_some, List.map_cons, List.map_nil, List.getD_cons_zero, List.getD_cons_succ, List.getD_nil, List.set_cons_zero, List.set_cons_succ, binCV, unCV, isShift, intArithF_eq, shiftF_eq, wrapF_eq, intArith, shift, eqVal, bound, asNat_cast, cond_true, cond_false, BEq.rfl, beq_self_eq_true, evalParts, fillParts, AV.cells, AV.ofCells, XV.av, AV.xv, List.length_cons, List.length_nil, zeros, patch, setMany, List.nil_append, List.cons_append, Nat.ble, Nat.add_eq, Nat.zero_add, Nat.add_zero, Nat.reduceAdd, Nat.reduceMul, Nat.reduceSub, Nat.ble_eq, Nat.reduceLeDiff, Nat.reduceBEq, Int.reduceBEq, Int.reduceNeg, Bool.and_true, Bool.and_false, Bool.true_and, Bool.false_and, Bool.not_true, Bool.not_false, Bool.true_eq_false, Bool.false_eq_true, Int.reduceLT, Int.reduceLE, Int.reduceGT, Int.reduceGE, decide_true, decide_false, Bool.not_eq_true, loopN_norm, loopN_exit, tf, ft, ff, ll, v1, v2, p_iaddr, m1, Nat.mul_one, evEff, W]
      refine ⟨_, _, rfl, he.put (by omega) _, hn, ⟨_, get_put_at, by simpa using hll, fun q hqi => ?_⟩, rfl⟩
      by_cases e' : q = i
      · subst e'; rw [List.getElem?_set_self (by omega)]
      · rw [List.getElem?_set_ne (Ne.symm e')]; exact hq q (by omega)
    · right
      have hi16 : i = 16 := by omega
      subst hi16
      simp only [enter_eq, ev_seq, seqK_norm, seqK_exit, seqK_ret, ev_reg, ev_cond, condK_true, condK_false, ev_block, blockK_norm, blockK_ret, blockK_exit, ev_loop, ev_skip, ev_exit, ev_ret, regK_cons, regK_nil, guard_none, guard_some, regG_true, regG_false, regO_some, op_mov, op_conv, op_bin, op_bsl, op_box, op_mks, op_s2b, op_pick, op_un, op_eq, op_len, op_ext, op_load, op_iaddr, op_slice, op_b2s, op_idxS, op_mx, op_mn, op_call, op_store, op_app, op_copy, args_eq, result_one', rv_loc, finish_norm, finish_ret, outK_some, keep_true, keep_false, keep_nil, p_bin, p_pick, p_un, p_eq, p_conv, evNew, pureK_some, newK_some, X.eval, set_none, set_some, List.map_cons, List.map_nil, List.getD_cons_zero, List.getD_cons_succ, List.getD_nil, List.set_cons_zero, List.set_cons_succ, binCV, unCV, isShift, intArithF_eq, shiftF_eq, wrapF_eq, intArith, shift, eqVal, bound, asNat_cast, cond_true, cond_false, BEq.rfl, beq_self_eq_true, evalParts, fillParts, AV.cells, AV.ofCells, XV.av, AV.xv, List.length_cons, List.length_nil, zeros, patch, setMany, List.nil_append, List.cons_append, Nat.ble, Nat.add_eq, Nat.zero_add, Nat.add_zero, Nat.reduceAdd, Nat.reduceMul, Nat.reduceSub, Nat.ble_eq, Nat.reduceLeDiff, Nat.reduceBEq, Int.reduceBEq, Int.reduceNeg, Bool.and_true, Bool.and_false, Bool.true_and, Bool.false_and, Bool.not_true, Bool.not_false, Bool.true_eq_false, Bool.false_eq_true, Int.reduceLT, Int.reduceLE, Int.reduceGT, Int.reduceGE, decide_true, decide_false, Bool.not_eq_true, loopN_norm, loopN_exit, tf, ft, ff, ll]
      refine ⟨_, rfl, by simp, h', _, rfl, ?_, he, hn⟩
      have : l = List.replicate 16 c := by
        apply List.ext_getElem?
        intro q
        rcases Nat.lt_or_ge q 16 with h1 | h1
        · rw [hq q h1, List.getElem?_replicate, if_pos h1]
        · rw [List.getElem?_eq_none (by omega), List.getElem?_eq_none (by simp; omega)]
      rw [← this]; exact hg
  obtain ⟨r, hr, h', l, rfl, g', x', n'⟩ := L [.c (.int .u8 (c.toNat : Int)), .c (.int .i64 at_), .c (.int .u8 (e.toNat : Int)), .c .nils, .c (.sl j 0 16 (.ex 16)), .c (.int .i64 0), .tup []] rfl
  have W := st h' _ k e g' (by simpa using hk)
  have m1 : Nat.blt k 16 = true := bltT hk
  have a16 : asNat (.c (.int .i64 16)) = some 16 := rfl
  have hz : zeros 16 [.int .u8 0] = u8s (List.replicate 16 0#8) := zeros8 16
  have hz' : [CV.int IntKind.u8 0, CV.int IntKind.u8 0, CV.int IntKind.u8 0, CV.int IntKind.u8 0, CV.int IntKind.u8 0, CV.int IntKind.u8 0, CV.int IntKind.u8 0, CV.int IntKind.u8 0, CV.int IntKind.u8 0, CV.int IntKind.u8 0, CV.int IntKind.u8 0, CV.int IntKind.u8 0, CV.int IntKind.u8 0, CV.int IntKind.u8 0, CV.int IntKind.u8 0, CV.int IntKind.u8 0] = u8s (List.replicate 16 0#8) := hz
  have e16 : ((16 : Int) == 0) = false := rfl
  subst hj
  simp only [enter_eq, ev_seq, seqK_norm, seqK_exit, seqK_ret, ev_reg, ev_cond, condK_true, condK_false, ev_block, blockK_norm, blockK_ret, blockK_exit, ev_loop, ev_skip, ev_exit, ev_ret, regK_cons, regK_nil, guard_none, guard_some, regG_true, regG_false, regO_some, op_mov, op_conv, op_bin, op_bsl, op_box, op_mks, op_s2b, op_pick, op_un, op_eq, op_len, op_ext, op_load, op_iaddr, op_slice, op_b2s, op_idxS, op_mx, op_mn, op_call, op_store, op_app, op_copy, args_eq, result_one', rv_loc, finish_norm, finish_ret, outK_some, keep_true, keep_false, keep_nil, p_bin, p_pick, p_un, p_eq, p_conv, evNew, pureK_some, newK_some, X.eval, set_none, set_some, List.map_cons, List.map_nil, List.getD_cons_zero, List.getD_cons_succ, List.getD_nil, List.set_cons_zero, List.set_cons_succ, binCV, unCV, isShift, intArithF_eq, shiftF_eq, wrapF_eq, intArith, shift, eqVal, bound, asNat_cast, cond_true, cond_false, BEq.rfl, beq_self_eq_true, evalParts, fillParts, AV.cells, AV.ofCells, XV.av, AV.xv, List.length_cons, List.length_nil, zeros, patch, setMany, List.nil_append, List.cons_append, Nat.ble, Nat.add_eq, Nat.zero_add, Nat.add_zero, Nat.reduceAdd, Nat.reduceMul, Nat.reduceSub, Nat.ble_eq, Nat.reduceLeDiff, Nat.reduceBEq, Int.reduceBEq, Int.reduceNeg, Bool.and_true, Bool.and_false, Bool.true_and, Bool.false_and, Bool.not_true, Bool.not_false, Bool.true_eq_false, Bool.false_eq_true, Int.reduceLT, Int.reduceLE, Int.reduceGT, Int.reduceGE, decide_true, decide_false, Bool.not_eq_true, loopN_norm, loopN_exit, tf, ft, ff, a16, hz', hh0, hr, blockK_exit_eq, e16, ek, p_iaddr, m1, Nat.mul_one, evEff, W]
  exact ⟨h.next, _, rfl, get_put_at, Nat.le_refl _, by show h.next < h'.next; omega, x'.put (Nat.le_refl _) _⟩

theorem clone_ok {j n : Nat} {c : Cap} {bs : List (BitVec 8)} (hx : Bytes h (.sl j 8 n c) bs) {m : Nat} (hm : bs.length = m + 1) (hm2 : m < 1000) :
    ∃ q h', evCallT table 24 N (d + 1) 42 [.c (.sl j 8 n c)] h = some (.c (.sl q 0 (m + 1) (.dy 1)), h') ∧ h'.get q = some (.cells (u8s bs)) ∧ h.next ≤ q ∧ q < h'.next ∧ Ext h h' := by
  have hs := (hx.ext ((Ext.refl h).new (.cells []))).source
  rw [hm] at hs
  obtain ⟨h', a1, ⟨a2, a3⟩, a4, a5⟩ := app_new (sz := 1) (h0 := h) (h := h.new (.cells [])) (i := h.next) get_new_at (Nat.le_succ _) hs (by rw [u8s_len, hm]; simp) (by omega)
  rcases a3 with ⟨hc, _⟩ | ⟨q, hq, hg, hq1, hq2⟩
  · cases hc
  have hq' : q = h.next + 1 := by cases hq; rfl
  subst hq'
  have a1' : evApp (h.new (.cells [])) 1 (.c (.sl h.next 0 0 (.ex 0))) (.c (.sl j 8 n c)) = some (.c (.sl (h.next + 1) 0 (m + 1) (.dy 1)), h') := a1
  rw [evCallT_eq (F := ir42) rfl rfl rfl]
  unfold ir42
  rw [bodyK_eq]
  simp only [enter_eq, ev_seq, seqK_norm, seqK_exit, seqK_ret, ev_reg, ev_cond, condK_true, condK_false, ev_block, blockK_norm, blockK_ret, blockK_exit, ev_loop, ev_skip, ev_exit, ev_ret, regK_cons, regK_nil, guard_none, guard_some, regG_true, regG_false, regO_some, op_mov, op_conv, op_bin, op_bsl, op_box, op_mks, op_s2b, op_pick, op_un, op_eq, op_len, op_ext, op_load, op_iaddr, op_slice, op_b2s, op_idxS, op_mx, op_mn, op_call, op_store, op_app, op_copy, args_eq, result_one', rv_loc, finish_norm, finish_ret, outK_some, keep_true, keep_false, keep_nil, p_bin, p_pick, p_un, p_eq, p_conv, evNew, pureK_some, newK_some, X.eval, set_none, set_some, List.map_cons, List.map_nil, List.getD_cons_zero, List.getD_cons_succ, List.getD_nil, List.set_cons_zero, List.set_cons_succ, binCV, unCV, isShift, intArithF_eq, shiftF_eq, wrapF_eq, intArith, shift, eqVal, bound, asNat_cast, cond_true, cond_false, BEq.rfl, beq_self_eq_true, evalParts, fillParts, AV.cells, AV.ofCells, XV.av, AV.xv, List.length_cons, List.length_nil, zeros, patch, setMany, List.nil_append, List.cons_append, Nat.ble, Nat.add_eq, Nat.zero_add, Nat.add_zero, Nat.reduceAdd, Nat.reduceMul, Nat.reduceSub, Nat.ble_eq, Nat.reduceLeDiff, Nat.reduceBEq, Int.reduceBEq, Int.reduceNeg, Bool.and_true, Bool.and_false, Bool.true_and, Bool.false_and, Bool.not_true, Bool.not_false, Bool.true_eq_false, Bool.false_eq_true, Int.reduceLT, Int.reduceLE, Int.reduceGT, Int.reduceGE, decide_true, decide_false, Bool.not_eq_true, loopN_norm, loopN_exit, tf, ft, ff, a1']
  exact ⟨_, _, rfl, hg, hq1, hq2, ⟨by rw [a4]; show h.next ≤ h.next + 1 + 1; omega, fun i hi => by rw [a5 i (Nat.lt_succ_of_lt hi), get_new_old hi]⟩⟩

theorem equal_ok {i o n i' o' n' : Nat} {c c' : Cap} {a b : List (BitVec 8)} (h1 : h.read i o n = some (u8s a)) (h2 : h.read i' o' n' = some (u8s b)) :
    evCallT table 24 N (d + 1) 43 [.c (.sl i o n c), .c (.sl i' o' n' c')] h = some (.c (.bool (decide (a = b))), h) := by
  have s1 : ∀ loc vals, evPure loc (.c (.sl i o n c) :: vals) h (.b2s (.val 0)) = some (.c (.str (strOf a))) := fun _ _ => b2s_at rfl h1
  have s2 : ∀ loc vals, evPure loc (.c (.sl i' o' n' c') :: vals) h (.b2s (.val 0)) = some (.c (.str (strOf b))) := fun _ _ => b2s_at rfl h2
  rw [evCallT_eq (F := ir43) rfl rfl rfl]
  unfold ir43
  rw [bodyK_eq]
  simp only [enter_eq, ev_seq, seqK_norm, seqK_exit, seqK_ret, ev_reg, ev_cond, condK_true, condK_false, ev_block, blockK_norm, blockK_ret, blockK_exit, ev_loop, ev_skip, ev_exit, ev_ret, regK_cons, regK_nil, guard_none, guard_some, regG_true, regG_false, regO_some, op_mov, op_conv, op_bin, op_bsl, op_box, op_mks, op_s2b, op_pick, op_un, op_eq, op_len, op_ext, op_load, op_iaddr, op_slice, op_b2s, op_idxS, op_mx, op_mn, op_call, op_store, op_app, op_copy, args_eq, result_one', rv_loc, finish_norm, finish_ret, outK_some, keep_true, keep_false, keep_nil, p_bin, p_pick, p_un, p_eq, p_conv, evNew, pureK_some, newK_some, X.eval, set_none, set_some, List.map_cons, List.map_nil, List.getD_cons_zero, List.getD_cons_succ, List.getD_nil, List.set_cons_zero, List.set_cons_succ, binCV, unCV, isShift, intArithF_eq, shiftF_eq, wrapF_eq, intArith, shift, eqVal, bound, asNat_cast, cond_true, cond_false, BEq.rfl, beq_self_eq_true, evalParts, fillParts, AV.cells, AV.ofCells, XV.av, AV.xv, List.length_cons, List.length_nil, zeros, patch, setMany, List.nil_append, List.cons_append, Nat.ble, Nat.add_eq, Nat.zero_add, Nat.add_zero, Nat.reduceAdd, Nat.reduceMul, Nat.reduceSub, Nat.ble_eq, Nat.reduceLeDiff, Nat.reduceBEq, Int.reduceBEq, Int.reduceNeg, Bool.and_true, Bool.and_false, Bool.true_and, Bool.false_and, Bool.not_true, Bool.not_false, Bool.true_eq_false, Bool.false_eq_true, Int.reduceLT, Int.reduceLE, Int.reduceGT, Int.reduceGE, decide_true, decide_false, Bool.not_eq_true, loopN_norm, loopN_exit, tf, ft, ff, s1, s2, strOf_beq]

theorem open_ok {j id : Nat} {img : List (BitVec 8)} (hid : id < 48) (hg : h.get j = some (.cells (u8s img))) (hj : j < h.next) (hl : img.length = 24) (hz : ∃ k, ∃ hk : k < img.length, img[k] ≠ 0#8) (hN : 40 ≤ N) :
    (img = imgOf id (img.drop 8) ∧ ∃ q h', evCallT table 24 N (d + 5) 27 [.c (.int .i64 (id : Int)), .c (.sl j 0 24 (.ex 24))] h = some (.tup [.c (.sl q 0 16 (.dy 1)), .c (.int .i64 0)], h') ∧ h'.get q = some (.cells (u8s (img.drop 8))) ∧ q < h'.next ∧ Ext h h') ∨
    (img ≠ imgOf id (img.drop 8) ∧ ∃ h', evCallT table 24 N (d + 5) 27 [.c (.int .i64 (id : Int)), .c (.sl j 0 24 (.ex 24))] h = some (.tup [.c .nils, .c (.int .i64 10)], h') ∧ Ext h h') := by
  have ll : ∀ loc vals H, evPure loc (.c (.sl j 0 24 (.ex 24)) :: vals) H (.len .sl (.val 0)) = some (.c (.int .i64 24)) := fun _ _ _ => rfl
  have e0 : evCallT table 24 N (d + 4) 38 [.c (.int .i64 (id : Int))] h = some (.c (.bool true), h) := by
    rw [is_ok, decide_eq_true (show (id : Int) ≥ 0 by omega), decide_eq_true (show (id : Int) < 48 by omega)]; rfl
  have bneI : ∀ {a b : Int}, (a != b) = !(a == b) := rfl
  have hB : Bytes h (.sl j 8 16 (.ex 16)) (img.drop 8) := bytes_at hj hg (by omega)
  have hdl : (img.drop 8).length = 16 := by simp [hl]
  obtain ⟨q, h1, e1, g1, q1, q2, x1⟩ := clone_ok (N := N) (d := d + 3) hB (m := 15) (by omega) (by omega)
  have hC : Bytes h1 (.sl q 0 16 (.dy 1)) (img.drop 8) := by
    have := bytes_at (o := 0) (n := 16) (c := .dy 1) q2 g1 (by omega)
    simpa using this
  obtain ⟨y, h2, e2, g2, y1, y2, x2⟩ := seal_ok (N := N) (d := d) hid hC hdl hN
  have hil : (imgOf id (img.drop 8)).length = 24 := by simp [imgOf, headOf, hl]
  have r1 : h2.read y 0 24 = some (u8s (imgOf id (img.drop 8))) := by
    have := read_u8 (o := 0) (n := 24) g2 (by omega); simpa using this
  have r2 : h2.read j 0 24 = some (u8s img) := by
    have := read_u8 (o := 0) (n := 24) ((x1.trans x2).at_ hg hj) (by omega); simpa using this
  have e3 : evCallT table 24 N (d + 4) 43 [.c (.sl y 0 24 (.ex 24)), .c (.sl j 0 24 (.ex 24))] h2 = some (.c (.bool (decide (imgOf id (img.drop 8) = img))), h2) := equal_ok (N := N) (d := d + 3) r1 r2
  have L : ∀ loc, keepOnly ir27_k0 loc = [.c (.int .i64 (id : Int)), .c (.sl j 0 24 (.ex 24)), .junk, .junk, .c (.int .i64 0), .junk, .junk, .junk, .junk, .junk, .junk, .junk] →
      ∃ r, loopK (evCallT table 24 N (d + 4)) N ir27_k0 ir27_l0 N loc h = some r ∧ ∃ i : Nat, i < 24 ∧ ∃ a8 a9, r = (.exit 0, [.c (.int .i64 (id : Int)), .c (.sl j 0 24 (.ex 24)), .junk, .junk, .c (.int .i64 (i : Int)), .junk, .junk, .junk, a8, a9, .junk, .junk], h) := by
    intro loc hloc
    refine loop_inv (n := 24) (fun i loc h' => h' = h ∧ (∀ k (hk : k < img.length), k < i → img[k] = 0#8) ∧ loc = [.c (.int .i64 (id : Int)), .c (.sl j 0 24 (.ex 24)), .junk, .junk, .c (.int .i64 (i : Int)), .junk, .junk, .junk, .junk, .junk, .junk, .junk]) _ ?_ ⟨rfl, fun k _ hk => absurd hk (by omega), hloc⟩ (by omega)
    rintro i loc h' hi ⟨rfl, h0, rfl⟩
    unfold ir27_l0
    have hlt : i < 24 := by
      rcases Nat.lt_or_ge i 24 with h | h
      · exact h
      · obtain ⟨k, hk, hne⟩ := hz
        exact absurd (h0 k hk (by omega)) hne
    have v1 : decide ((i : Int) < 24) = true := ltNat (n := 24) hlt
    have v2 := succI (i := i) (by omega)
    have m1 : Nat.blt i 24 = true := bltT hlt
    have k1 : h'.read j i 1 = some [.int .u8 ((img[i]'(by omega)).toNat : Int)] := read_cells hg (by simp [u8s, u8c, hl, hlt])
    by_cases hb : img[i]'(by omega) = 0#8
    · left
      refine ⟨hlt, ?_⟩
      have w1 : (((img[i]'(by omega)).toNat : Int) == 0) = true := by rw [hb]; rfl
      simp only [enter_eq, ev_seq, seqK_norm, seqK_exit, seqK_ret, ev_reg, ev_cond, condK_true, condK_false, ev_block, blockK_norm, blockK_ret, blockK_exit, ev_loop, ev_skip, ev_exit, ev_ret, regK_cons, regK_nil, guard_none, guard_some, regG_true, regG_false, regO_some, op_mov, op_conv, op_bin, op_bsl, op_box, op_mks, op_s2b, op_pick, op_un, op_eq, op_len, op_ext, op_load, op_iaddr, op_slice, op_b2s, op_idxS, op_mx, op_mn, op_call, op_store, op_app, op_copy, args_eq, result_one', rv_loc, finish_norm, finish_ret, outK_some, keep_true, keep_false, keep_nil, p_bin, p_pick, p_un, p_eq, p_conv, evNew, pureK_some, newK_some, X.eval, set_none, set_some, List.map_cons, List.map_nil, List.getD_cons_zero, List.getD_cons_succ, List.getD_nil, List.set_cons_zero, List.set_cons_succ, binCV, unCV, isShift, intArithF_eq, shiftF_eq, wrapF_eq, intArith, shift, eqVal, bound, asNat_cast, cond_true, cond_false, BEq.rfl, beq_self_eq_true, evalParts, fillParts, AV.cells, AV.ofCells, XV.av, AV.xv, List.length_cons, List.length_nil, zeros, patch, setMany, List.nil_append, List.cons_append, Nat.ble, Nat.add_eq, Nat.zero_add, Nat.add_zero, Nat.reduceAdd, Nat.reduceMul, Nat.reduceSub, Nat.ble_eq, Nat.reduceLeDiff, Nat.reduceBEq, Int.reduceBEq, Int.reduceNeg, Bool.and_true, Bool.and_false, Bool.true_and, Bool.false_and, Bool.not_true, Bool.not_false, Bool.true_eq_false, Bool.false_eq_true, Int.reduceLT, Int.reduceLE, Int.reduceGT, Int.reduceGE, decide_true, decide_false, Bool.not_eq_true, loopN_norm, loopN_exit, tf, ft, ff, bneI, ll, v1, v2, p_iaddr, p_load, AV.ofCells, m1, Nat.mul_one, k1, w1]
      refine ⟨_, _, rfl, rfl, fun k hk hki => ?_, rfl⟩
      by_cases e : k = i
      · subst e; exact hb
      · exact h0 k hk (by omega)
    · right
      have w1 : (((img[i]'(by omega)).toNat : Int) == 0) = false := by
        have : (img[i]'(by omega)).toNat ≠ 0 := fun e => hb (BitVec.eq_of_toNat_eq e)
        simp only [beq_eq_false_iff_ne, ne_eq]; omega
      simp only [enter_eq, ev_seq, seqK_norm, seqK_exit, seqK_ret, ev_reg, ev_cond, condK_true, condK_false, ev_block, blockK_norm, blockK_ret, blockK_exit, ev_loop, ev_skip, ev_exit, ev_ret, regK_cons, regK_nil, guard_none, guard_some, regG_true, regG_false, regO_some, op_mov, op_conv, op_bin, op_bsl, op_box, op_mks, op_s2b, op_pick, op_un, op_eq, op_len, op_ext, op_load, op_iaddr, op_slice, op_b2s, op_idxS, op_mx, op_mn, op_call, op_store, op_app, op_copy, args_eq, result_one', rv_loc, finish_norm, finish_ret, outK_some, keep_true, keep_false, keep_nil, p_bin, p_pick, p_un, p_eq, p_conv, evNew, pureK_some, newK_some, X.eval, set_none, set_some, List.map_cons, List.map_nil, List.getD_cons_zero, List.getD_cons_succ, List.getD_nil, List.set_cons_zero, List.set_cons_succ, binCV, unCV, isShift, intArithF_eq, shiftF_eq, wrapF_eq, intArith, shift, eqVal, bound, asNat_cast, cond_true, cond_false, BEq.rfl, beq_self_eq_true, evalParts, fillParts, AV.cells, AV.ofCells, XV.av, AV.xv, List.length_cons, List.length_nil, zeros, patch, setMany, List.nil_append, List.cons_append, Nat.ble, Nat.add_eq, Nat.zero_add, Nat.add_zero, Nat.reduceAdd, Nat.reduceMul, Nat.reduceSub, Nat.ble_eq, Nat.reduceLeDiff, Nat.reduceBEq, Int.reduceBEq, Int.reduceNeg, Bool.and_true, Bool.and_false, Bool.true_and, Bool.false_and, Bool.not_true, Bool.not_false, Bool.true_eq_false, Bool.false_eq_true, Int.reduceLT, Int.reduceLE, Int.reduceGT, Int.reduceGE, decide_true, decide_false, Bool.not_eq_true, loopN_norm, loopN_exit, tf, ft, ff, bneI, ll, v1, v2, p_iaddr, p_load, AV.ofCells, m1, Nat.mul_one, k1, w1]
      exact ⟨_, rfl, by simp, i, hlt, _, _, rfl⟩
  obtain ⟨r, hr, i, hi, a8, a9, rfl⟩ := L [.c (.int .i64 (id : Int)), .c (.sl j 0 24 (.ex 24)), .c .nils, .c (.int .i64 0), .c (.int .i64 0), .tup [], .tup [], .c (.bool false), .tup [], .tup [], .tup [], .tup []] rfl
  have w2 : ((i : Int) == 24) = false := by simp; omega
  have q24 : ((24 : Int) == 24) = true := rfl
  have sl8 : ∀ loc vals H, evPure loc (.c (.sl j 0 24 (.ex 24)) :: vals) H (.slice 1 (.val 0) (some (.k (.c (.int .i64 8)))) none none) = some (.c (.sl j 8 16 (.ex 16))) := fun _ _ _ => rfl
  rw [evCallT_eq (F := ir27) rfl rfl rfl]
  unfold ir27
  rw [bodyK_eq]
  by_cases heq : imgOf id (img.drop 8) = img
  · left
    refine ⟨heq.symm, ?_⟩
    rw [decide_eq_true heq] at e3
    simp only [enter_eq, ev_seq, seqK_norm, seqK_exit, seqK_ret, ev_reg, ev_cond, condK_true, condK_false, ev_block, blockK_norm, blockK_ret, blockK_exit, ev_loop, ev_skip, ev_exit, ev_ret, regK_cons, regK_nil, guard_none, guard_some, regG_true, regG_false, regO_some, op_mov, op_conv, op_bin, op_bsl, op_box, op_mks, op_s2b, op_pick, op_un, op_eq, op_len, op_ext, op_load, op_iaddr, op_slice, op_b2s, op_idxS, op_mx, op_mn, op_call, op_store, op_app, op_copy, args_eq, result_one', rv_loc, finish_norm, finish_ret, outK_some, keep_true, keep_false, keep_nil, p_bin, p_pick, p_un, p_eq, p_conv, evNew, pureK_some, newK_some, X.eval, set_none, set_some, List.map_cons, List.map_nil, List.getD_cons_zero, List.getD_cons_succ, List.getD_nil, List.set_cons_zero, List.set_cons_succ, binCV, unCV, isShift, intArithF_eq, shiftF_eq, wrapF_eq, intArith, shift, eqVal, bound, asNat_cast, cond_true, cond_false, BEq.rfl, beq_self_eq_true, evalParts, fillParts, AV.cells, AV.ofCells, XV.av, AV.xv, List.length_cons, List.length_nil, zeros, patch, setMany, List.nil_append, List.cons_append, Nat.ble, Nat.add_eq, Nat.zero_add, Nat.add_zero, Nat.reduceAdd, Nat.reduceMul, Nat.reduceSub, Nat.ble_eq, Nat.reduceLeDiff, Nat.reduceBEq, Int.reduceBEq, Int.reduceNeg, Bool.and_true, Bool.and_false, Bool.true_and, Bool.false_and, Bool.not_true, Bool.not_false, Bool.true_eq_false, Bool.false_eq_true, Int.reduceLT, Int.reduceLE, Int.reduceGT, Int.reduceGE, decide_true, decide_false, Bool.not_eq_true, loopN_norm, loopN_exit, tf, ft, ff, bneI, e0, ll, q24, hr, blockK_exit_eq, w2, sl8, e1, e2, p_ext, List.getElem?_cons_zero, List.getElem?_cons_succ, e3, result, evResults]
    exact ⟨q, h2, rfl, x2.at_ g1 q2, Nat.lt_of_lt_of_le q2 x2.1, x1.trans x2⟩
  · right
    refine ⟨fun e => heq e.symm, ?_⟩
    rw [decide_eq_false heq] at e3
    simp only [enter_eq, ev_seq, seqK_norm, seqK_exit, seqK_ret, ev_reg, ev_cond, condK_true, condK_false, ev_block, blockK_norm, blockK_ret, blockK_exit, ev_loop, ev_skip, ev_exit, ev_ret, regK_cons, regK_nil, guard_none, guard_some, regG_true, regG_false, regO_some, op_mov, op_conv, op_bin, op_bsl, op_box, op_mks, op_s2b, op_pick, op_un, op_eq, op_len, op_ext, op_load, op_iaddr, op_slice, op_b2s, op_idxS, op_mx, op_mn, op_call, op_store, op_app, op_copy, args_eq, result_one', rv_loc, finish_norm, finish_ret, outK_some, keep_true, keep_false, keep_nil, p_bin, p_pick, p_un, p_eq, p_conv, evNew, pureK_some, newK_some, X.eval, set_none, set_some, List.map_cons, List.map_nil, List.getD_cons_zero, List.getD_cons_succ, List.getD_nil, List.set_cons_zero, List.set_cons_succ, binCV, unCV, isShift, intArithF_eq, shiftF_eq, wrapF_eq, intArith, shift, eqVal, bound, asNat_cast, cond_true, cond_false, BEq.rfl, beq_self_eq_true, evalParts, fillParts, AV.cells, AV.ofCells, XV.av, AV.xv, List.length_cons, List.length_nil, zeros, patch, setMany, List.nil_append, List.cons_append, Nat.ble, Nat.add_eq, Nat.zero_add, Nat.add_zero, Nat.reduceAdd, Nat.reduceMul, Nat.reduceSub, Nat.ble_eq, Nat.reduceLeDiff, Nat.reduceBEq, Int.reduceBEq, Int.reduceNeg, Bool.and_true, Bool.and_false, Bool.true_and, Bool.false_and, Bool.not_true, Bool.not_false, Bool.true_eq_false, Bool.false_eq_true, Int.reduceLT, Int.reduceLE, Int.reduceGT, Int.reduceGE, decide_true, decide_false, Bool.not_eq_true, loopN_norm, loopN_exit, tf, ft, ff, bneI, e0, ll, q24, hr, blockK_exit_eq, w2, sl8, e1, e2, p_ext, List.getElem?_cons_zero, List.getElem?_cons_succ, e3, result, evResults]
    exact ⟨h2, rfl, x1.trans x2⟩
end
theorem tld2 : ToldOK Go.Proofs.Try.prog 24 := told_of (calls_okF 200 9) (by kernel_rfl)
end Lav
