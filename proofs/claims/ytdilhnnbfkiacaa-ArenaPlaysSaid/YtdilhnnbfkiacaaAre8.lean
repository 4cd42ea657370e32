/-
  Layer 10: bytes that are set, bodies that are told.
-/
import Derived.Test.YtdilhnnbfkiacaaAre7
set_option maxRecDepth 100000
set_option linter.unusedSimpArgs false
namespace Lav
open Go (IntKind)

section
variable {N d : Nat} {h : Heap} {p : Nat} {a : AP} {fs : List Fm} {o : List Int} {M : Nat → Option Int} {c : Nat} {B : Nat → List (BitVec 8)}
theorem p_slice {loc vals : List AV} {h : Heap} {sz i o len k : Nat} {x : X} {l : X} (hx : x.eval loc vals = .c (.sl i o len (.ex k))) {n : Nat} (hl : asNat (l.eval loc vals) = some n) (h1 : n ≤ len) (h2 : len ≤ k) :
    evPure loc vals h (.slice sz x (some l) none none) = some (.c (.sl i (o + n * sz) (len - n) (.ex (k - n)))) := by
  have b1 : Nat.ble n len = true := Nat.ble_eq_true_of_le h1
  have b2 : Nat.ble len k = true := Nat.ble_eq_true_of_le h2
  simp only [evPure, hx, bound, hl, b1, b2, Bool.and_true, cond_true]

/-- How bytes are set. -/
def setF (fs : List Fm) (B : Nat → List (BitVec 8)) (f off : Int) (bs : List (BitVec 8)) : Int × List Fm × (Nat → List (BitVec 8)) := match usedF fs f with
  | none => (2, fs, B)
  | some (i, g) => if off < 0 ∨ off > 16 ∨ (bs.length : Int) > 16 - off then (6, fs, B) else (0, fs.set i ⟨g.st, g.pg, g.pn, true, g.y⟩, fun j => if j = i then overB (B i) bs off.toNat else B j)

theorem AB.set (A : AB h p a fs o M B) {x : CV} {bs : List (BitVec 8)} (f off : Int) (hx : Bytes h x bs) : ∃ h', evCallT table 18 N (d + 2) 19 [.c (.ptr p 0), .c (.int .i64 f), .c (.int .i64 off), .c x] h = some (.c (.int .i64 (setF fs B f off bs).1), h') ∧ AB h' p a (setF fs B f off bs).2.1 o M (setF fs B f off bs).2.2 ∧ ExtB (all p a fs) h h' ∧ YoungB h p a fs a (setF fs B f off bs).2.1 := by
  have lx : ∀ (loc vals : List AV) (h : Heap), evPure loc (.c x :: vals) h (.len .sl (.val 0)) = some (.c (.int .i64 (bs.length : Int))) := fun _ _ _ => hx.len rfl
  have yy : YoungB h p a fs a fs := fun k hk => .inl hk
  unfold setF
  cases e : usedF fs f with
  | none =>
    have e1 := used_no (N := N) (d := d) A.ah.ar (usedF_none e)
    rw [evCallT_eq (F := ir19) rfl rfl rfl]
    unfold ir19
    rw [bodyK_eq]
    simp only [enter_eq, ev_seq, seqK_norm, seqK_exit, seqK_ret, ev_reg, ev_cond, condK_true, condK_false, ev_block, blockK_norm, blockK_ret, blockK_exit, ev_loop, ev_skip, ev_exit, ev_ret, regK_cons, regK_nil, guard_none, guard_some, regG_true, regG_false, regO_some, op_mov, op_conv, op_bin, op_bsl, op_box, op_mks, op_s2b, op_pick, op_un, op_eq, op_len, op_ext, op_load, op_iaddr, op_slice, op_b2s, op_idxS, op_mx, op_mn, op_call, op_store, op_app, op_copy, args_eq, result_one', rv_loc, finish_norm, finish_ret, outK_some, keep_true, keep_false, keep_nil, p_bin, p_pick, p_un, p_eq, p_conv, evNew, pureK_some, newK_some, X.eval, set_none, set_some, List.map_cons, List.map_nil, List.getD_cons_zero, List.getD_cons_succ, List.getD_nil, List.set_cons_zero, List.set_cons_succ, binCV, unCV, isShift, intArithF_eq, shiftF_eq, wrapF_eq, intArith, shift, eqVal, bound, asNat_cast, cond_true, cond_false, BEq.rfl, beq_self_eq_true, evalParts, fillParts, AV.cells, AV.ofCells, XV.av, AV.xv, List.length_cons, List.length_nil, zeros, patch, setMany, List.nil_append, List.cons_append, Nat.ble, Nat.add_eq, Nat.zero_add, Nat.add_zero, Nat.reduceAdd, Nat.reduceMul, Nat.reduceSub, Nat.ble_eq, Nat.reduceLeDiff, Nat.reduceBEq, Int.reduceBEq, Int.reduceNeg, Bool.and_true, Bool.and_false, Bool.true_and, Bool.false_and, Bool.not_true, Bool.not_false, Bool.true_eq_false, Bool.false_eq_true, Int.reduceLT, Int.reduceLE, Int.reduceGT, Int.reduceGE, decide_true, decide_false, Bool.not_eq_true, loopN_norm, loopN_exit, tf, ft, ff, e1, bneI]
    exact ⟨h, rfl, A, ExtB.refl _ _, yy⟩
  | some q =>
    obtain ⟨i, g⟩ := q
    obtain ⟨rfl, hi, rfl, h1⟩ := usedF_some e
    have e1 := used_yes (N := N) (d := d) A.ah.ar hi h1
    by_cases c1 : off < 0
    · simp only [if_pos (show off < 0 ∨ off > 16 ∨ (bs.length : Int) > 16 - off from .inl c1)]
      have v1 : decide (off < 0) = true := decide_eq_true c1
      rw [evCallT_eq (F := ir19) rfl rfl rfl]
      unfold ir19
      rw [bodyK_eq]
      simp only [enter_eq, ev_seq, seqK_norm, seqK_exit, seqK_ret, ev_reg, ev_cond, condK_true, condK_false, ev_block, blockK_norm, blockK_ret, blockK_exit, ev_loop, ev_skip, ev_exit, ev_ret, regK_cons, regK_nil, guard_none, guard_some, regG_true, regG_false, regO_some, op_mov, op_conv, op_bin, op_bsl, op_box, op_mks, op_s2b, op_pick, op_un, op_eq, op_len, op_ext, op_load, op_iaddr, op_slice, op_b2s, op_idxS, op_mx, op_mn, op_call, op_store, op_app, op_copy, args_eq, result_one', rv_loc, finish_norm, finish_ret, outK_some, keep_true, keep_false, keep_nil, p_bin, p_pick, p_un, p_eq, p_conv, evNew, pureK_some, newK_some, X.eval, set_none, set_some, List.map_cons, List.map_nil, List.getD_cons_zero, List.getD_cons_succ, List.getD_nil, List.set_cons_zero, List.set_cons_succ, binCV, unCV, isShift, intArithF_eq, shiftF_eq, wrapF_eq, intArith, shift, eqVal, bound, asNat_cast, cond_true, cond_false, BEq.rfl, beq_self_eq_true, evalParts, fillParts, AV.cells, AV.ofCells, XV.av, AV.xv, List.length_cons, List.length_nil, zeros, patch, setMany, List.nil_append, List.cons_append, Nat.ble, Nat.add_eq, Nat.zero_add, Nat.add_zero, Nat.reduceAdd, Nat.reduceMul, Nat.reduceSub, Nat.ble_eq, Nat.reduceLeDiff, Nat.reduceBEq, Int.reduceBEq, Int.reduceNeg, Bool.and_true, Bool.and_false, Bool.true_and, Bool.false_and, Bool.not_true, Bool.not_false, Bool.true_eq_false, Bool.false_eq_true, Int.reduceLT, Int.reduceLE, Int.reduceGT, Int.reduceGE, decide_true, decide_false, Bool.not_eq_true, loopN_norm, loopN_exit, tf, ft, ff, e1, bneI, v1]
      exact ⟨h, rfl, A, ExtB.refl _ _, yy⟩
    have v1 : decide (off < 0) = false := decide_eq_false c1
    by_cases c2 : off > 16
    · simp only [if_pos (show off < 0 ∨ off > 16 ∨ (bs.length : Int) > 16 - off from .inr (.inl c2))]
      have v2 : decide (off > 16) = true := decide_eq_true c2
      rw [evCallT_eq (F := ir19) rfl rfl rfl]
      unfold ir19
      rw [bodyK_eq]
      simp only [enter_eq, ev_seq, seqK_norm, seqK_exit, seqK_ret, ev_reg, ev_cond, condK_true, condK_false, ev_block, blockK_norm, blockK_ret, blockK_exit, ev_loop, ev_skip, ev_exit, ev_ret, regK_cons, regK_nil, guard_none, guard_some, regG_true, regG_false, regO_some, op_mov, op_conv, op_bin, op_bsl, op_box, op_mks, op_s2b, op_pick, op_un, op_eq, op_len, op_ext, op_load, op_iaddr, op_slice, op_b2s, op_idxS, op_mx, op_mn, op_call, op_store, op_app, op_copy, args_eq, result_one', rv_loc, finish_norm, finish_ret, outK_some, keep_true, keep_false, keep_nil, p_bin, p_pick, p_un, p_eq, p_conv, evNew, pureK_some, newK_some, X.eval, set_none, set_some, List.map_cons, List.map_nil, List.getD_cons_zero, List.getD_cons_succ, List.getD_nil, List.set_cons_zero, List.set_cons_succ, binCV, unCV, isShift, intArithF_eq, shiftF_eq, wrapF_eq, intArith, shift, eqVal, bound, asNat_cast, cond_true, cond_false, BEq.rfl, beq_self_eq_true, evalParts, fillParts, AV.cells, AV.ofCells, XV.av, AV.xv, List.length_cons, List.length_nil, zeros, patch, setMany, List.nil_append, List.cons_append, Nat.ble, Nat.add_eq, Nat.zero_add, Nat.add_zero, Nat.reduceAdd, Nat.reduceMul, Nat.reduceSub, Nat.ble_eq, Nat.reduceLeDiff, Nat.reduceBEq, Int.reduceBEq, Int.reduceNeg, Bool.and_true, Bool.and_false, Bool.true_and, Bool.false_and, Bool.not_true, Bool.not_false, Bool.true_eq_false, Bool.false_eq_true, Int.reduceLT, Int.reduceLE, Int.reduceGT, Int.reduceGE, decide_true, decide_false, Bool.not_eq_true, loopN_norm, loopN_exit, tf, ft, ff, e1, bneI, v1, v2]
      exact ⟨h, rfl, A, ExtB.refl _ _, yy⟩
    have v2 : decide (off > 16) = false := decide_eq_false c2
    have v3 : IntKind.i64.wrap (16 - off) = 16 - off := wrapI (by omega) (by omega)
    by_cases c3 : (bs.length : Int) > 16 - off
    · simp only [if_pos (show off < 0 ∨ off > 16 ∨ (bs.length : Int) > 16 - off from .inr (.inr c3))]
      have v4 : decide ((bs.length : Int) > 16 - off) = true := decide_eq_true c3
      rw [evCallT_eq (F := ir19) rfl rfl rfl]
      unfold ir19
      rw [bodyK_eq]
      simp only [enter_eq, ev_seq, seqK_norm, seqK_exit, seqK_ret, ev_reg, ev_cond, condK_true, condK_false, ev_block, blockK_norm, blockK_ret, blockK_exit, ev_loop, ev_skip, ev_exit, ev_ret, regK_cons, regK_nil, guard_none, guard_some, regG_true, regG_false, regO_some, op_mov, op_conv, op_bin, op_bsl, op_box, op_mks, op_s2b, op_pick, op_un, op_eq, op_len, op_ext, op_load, op_iaddr, op_slice, op_b2s, op_idxS, op_mx, op_mn, op_call, op_store, op_app, op_copy, args_eq, result_one', rv_loc, finish_norm, finish_ret, outK_some, keep_true, keep_false, keep_nil, p_bin, p_pick, p_un, p_eq, p_conv, evNew, pureK_some, newK_some, X.eval, set_none, set_some, List.map_cons, List.map_nil, List.getD_cons_zero, List.getD_cons_succ, List.getD_nil, List.set_cons_zero, List.set_cons_succ, binCV, unCV, isShift, intArithF_eq, shiftF_eq, wrapF_eq, intArith, shift, eqVal, bound, asNat_cast, cond_true, cond_false, BEq.rfl, beq_self_eq_true, evalParts, fillParts, AV.cells, AV.ofCells, XV.av, AV.xv, List.length_cons, List.length_nil, zeros, patch, setMany, List.nil_append, List.cons_append, Nat.ble, Nat.add_eq, Nat.zero_add, Nat.add_zero, Nat.reduceAdd, Nat.reduceMul, Nat.reduceSub, Nat.ble_eq, Nat.reduceLeDiff, Nat.reduceBEq, Int.reduceBEq, Int.reduceNeg, Bool.and_true, Bool.and_false, Bool.true_and, Bool.false_and, Bool.not_true, Bool.not_false, Bool.true_eq_false, Bool.false_eq_true, Int.reduceLT, Int.reduceLE, Int.reduceGT, Int.reduceGE, decide_true, decide_false, Bool.not_eq_true, loopN_norm, loopN_exit, tf, ft, ff, e1, bneI, v1, v2, v3, v4, lx]
      exact ⟨h, rfl, A, ExtB.refl _ _, yy⟩
    have v4 : decide ((bs.length : Int) > 16 - off) = false := decide_eq_false c3
    simp only [if_neg (show ¬ (off < 0 ∨ off > 16 ∨ (bs.length : Int) > 16 - off) by omega)]
    obtain ⟨off, rfl⟩ : ∃ n : Nat, off = (n : Int) := ⟨off.toNat, by omega⟩
    simp only [Int.toNat_natCast]
    obtain ⟨fb, hxa, hf, hg⟩ := A.ah.ar.at_ hi
    have m1 : Nat.blt i fs.length = true := bltT hi
    have r0 := A.ah.ar.r0
    obtain ⟨b, hy, hgb, hlb, hbn, hbo⟩ := A.bh.at_ i fs[i] (List.getElem?_eq_getElem hi) h1
    have ry := (at_of hg hi).y
    rw [hy] at ry
    have hle : off + bs.length ≤ (B i).length := by omega
    have ecp := copy_over (h := h) (b := b) (off := off) (n := 16 - off) (c := .ex (16 - off)) (y := .c x) hgb hx.source (by omega) hle
    obtain ⟨H1, hH1⟩ : ∃ H, H = h.put b (.cells (u8s (overB (B i) bs off))) := ⟨_, rfl⟩
    rw [← hH1] at ecp
    have x1 : ExtB [b] h H1 := by rw [hH1]; exact (ExtB.refl _ _).put (.inr (by simp)) _
    have A1 := A.ah.ext x1 (fun k hk hm => by simp at hm; subst hm; exact hbo hk)
    have q0 := A1.ar.r0
    rw [hxa] at r0 q0
    obtain ⟨H2, w, A2, x2, n2⟩ := A1.ar.poke hi hxa (k := 3) (v := .bool true) (g := ⟨fs[i].st, fs[i].pg, fs[i].pn, true, fs[i].y⟩) (by omega) rfl
    have k := A.ah.ok i fs[i] (List.getElem?_eq_getElem hi)
    have A3 : AH H2 p a (fs.set i ⟨fs[i].st, fs[i].pg, fs[i].pn, true, fs[i].y⟩) o M :=
      ⟨by rw [cu_same hi (g := ⟨fs[i].st, fs[i].pg, fs[i].pn, true, fs[i].y⟩) Iff.rfl]; exact A2, by rw [List.length_set]; exact A.ah.sm, A.ah.fo.keep hi (by omega) (by show fs[i].st ≠ 0; omega), A.ah.fm.keep hi Iff.rfl (fun _ => rfl), A.ah.ok.set hi ⟨k.s, k.u, fun h => absurd h1 h⟩⟩
    have mb : b ∈ bods fs := mem_bods.2 ⟨i, fs[i], List.getElem?_eq_getElem hi, h1, by rw [hy]; rfl⟩
    have hl := like_set (g := ⟨fs[i].st, fs[i].pg, fs[i].pn, true, fs[i].y⟩) hi fun hs => ⟨h1, rfl⟩
    have B3 : BH H2 p a (fs.set i ⟨fs[i].st, fs[i].pg, fs[i].pn, true, fs[i].y⟩) (fun j => if j = i then overB (B i) bs off else B j) := by
      refine BH.like (fs := fs) ⟨fun j f hf hs => ?_, A.bh.ne⟩ hl
      obtain ⟨b', h2, h3, h4, h5, h6⟩ := A.bh.at_ j f hf hs
      by_cases hj : j = i
      · subst hj
        rw [List.getElem?_eq_getElem hi] at hf
        simp only [Option.some.injEq] at hf
        subst hf
        rw [hy] at h2
        cases h2
        simp only [if_true]
        exact ⟨b, hy, x2.at_ (by rw [hH1]; exact get_put_at) (Nat.lt_of_lt_of_le hbn x1.1) hbo, by rw [overB_len hle]; exact hlb, by have := x1.1; have := x2.1; omega, hbo⟩
      · simp only [if_neg hj]
        have hne := A.bh.ne j i f fs[i] hf (List.getElem?_eq_getElem hi) hs h1 hj
        rw [h2, hy] at hne
        have hbb : b' ∉ [b] := by simp [blk] at hne ⊢; exact hne
        exact ⟨b', h2, x2.at_ (x1.at_ h3 h5 hbb) (Nat.lt_of_lt_of_le h5 x1.1) h6, h4, by have := x1.1; have := x2.1; omega, h6⟩
    have es : ∀ loc vals H, evPure loc (.c (.int .i64 (off : Int)) :: .c (.sl b 0 16 (.ex 16)) :: vals) H (.slice 1 (.val 1) (some (.val 0)) none none) = some (.c (.sl b off (16 - off) (.ex (16 - off)))) := fun loc vals H => by
      have := p_slice (loc := loc) (vals := .c (.int .i64 (off : Int)) :: .c (.sl b 0 16 (.ex 16)) :: vals) (h := H) (sz := 1) (x := .val 1) (l := .val 0) (i := b) (o := 0) (len := 16) (k := 16) rfl (n := off) rfl (by omega) (by omega)
      rw [Nat.zero_add, Nat.mul_one] at this
      exact this
    rw [evCallT_eq (F := ir19) rfl rfl rfl]
    unfold ir19
    rw [bodyK_eq]
    simp only [enter_eq, ev_seq, seqK_norm, seqK_exit, seqK_ret, ev_reg, ev_cond, condK_true, condK_false, ev_block, blockK_norm, blockK_ret, blockK_exit, ev_loop, ev_skip, ev_exit, ev_ret, regK_cons, regK_nil, guard_none, guard_some, regG_true, regG_false, regO_some, op_mov, op_conv, op_bin, op_bsl, op_box, op_mks, op_s2b, op_pick, op_un, op_eq, op_len, op_ext, op_load, op_iaddr, op_slice, op_b2s, op_idxS, op_mx, op_mn, op_call, op_store, op_app, op_copy, args_eq, result_one', rv_loc, finish_norm, finish_ret, outK_some, keep_true, keep_false, keep_nil, p_bin, p_pick, p_un, p_eq, p_conv, evNew, pureK_some, newK_some, X.eval, set_none, set_some, List.map_cons, List.map_nil, List.getD_cons_zero, List.getD_cons_succ, List.getD_nil, List.set_cons_zero, List.set_cons_succ, binCV, unCV, isShift, intArithF_eq, shiftF_eq, wrapF_eq, intArith, shift, eqVal, bound, asNat_cast, cond_true, cond_false, BEq.rfl, beq_self_eq_true, evalParts, fillParts, AV.cells, AV.ofCells, XV.av, AV.xv, List.length_cons, List.length_nil, zeros, patch, setMany, List.nil_append, List.cons_append, Nat.ble, Nat.add_eq, Nat.zero_add, Nat.add_zero, Nat.reduceAdd, Nat.reduceMul, Nat.reduceSub, Nat.ble_eq, Nat.reduceLeDiff, Nat.reduceBEq, Int.reduceBEq, Int.reduceNeg, Bool.and_true, Bool.and_false, Bool.true_and, Bool.false_and, Bool.not_true, Bool.not_false, Bool.true_eq_false, Bool.false_eq_true, Int.reduceLT, Int.reduceLE, Int.reduceGT, Int.reduceGE, decide_true, decide_false, Bool.not_eq_true, loopN_norm, loopN_exit, tf, ft, ff, e1, bneI, v1, v2, v3, v4, lx, op_nilchk, p_nilchk, op_faddr, p_faddr, p_load, r0, AV.ofCells, p_iaddr, m1, ry, es, Nat.mul_one, Nat.zero_add, ecp, q0, evEff, w]
    refine ⟨H2, rfl, ⟨A3, B3⟩, (x1.mono fun k hk => by simp at hk; subst hk; exact List.mem_append.2 (.inr mb)).trans x2.ownB, fun k hk => .inl ?_⟩
    rcases List.mem_append.1 hk with hk | hk
    · exact List.mem_append.2 (.inl hk)
    · exact List.mem_append.2 (.inr (bods_like hl k hk))

/-- A frame's body is told. -/
def bodyM (fs : List Fm) (B : Nat → List (BitVec 8)) (f : Int) : List (BitVec 8) := match usedF fs f with
  | none => []
  | some (i, _) => B i
theorem AB.body (A : AB h p a fs o M B) (f : Int) : ∃ y h', evCallT table 18 N (d + 2) 20 [.c (.ptr p 0), .c (.int .i64 f)] h = some (.c y, h') ∧ (y = .nils ∧ bodyM fs B f = [] ∨ ∃ q, y = .sl q 0 16 (.dy 1) ∧ h'.get q = some (.cells (u8s (bodyM fs B f))) ∧ (bodyM fs B f).length = 16 ∧ h.next ≤ q ∧ q < h'.next) ∧ Ext h h' := by
  unfold bodyM
  cases e : usedF fs f with
  | none =>
    have e1 := used_no (N := N) (d := d) A.ah.ar (usedF_none e)
    rw [evCallT_eq (F := ir20) rfl rfl rfl]
    unfold ir20
    rw [bodyK_eq]
    simp only [enter_eq, ev_seq, seqK_norm, seqK_exit, seqK_ret, ev_reg, ev_cond, condK_true, condK_false, ev_block, blockK_norm, blockK_ret, blockK_exit, ev_loop, ev_skip, ev_exit, ev_ret, regK_cons, regK_nil, guard_none, guard_some, regG_true, regG_false, regO_some, op_mov, op_conv, op_bin, op_bsl, op_box, op_mks, op_s2b, op_pick, op_un, op_eq, op_len, op_ext, op_load, op_iaddr, op_slice, op_b2s, op_idxS, op_mx, op_mn, op_call, op_store, op_app, op_copy, args_eq, result_one', rv_loc, finish_norm, finish_ret, outK_some, keep_true, keep_false, keep_nil, p_bin, p_pick, p_un, p_eq, p_conv, evNew, pureK_some, newK_some, X.eval, set_none, set_some, List.map_cons, List.map_nil, List.getD_cons_zero, List.getD_cons_succ, List.getD_nil, List.set_cons_zero, List.set_cons_succ, binCV, unCV, isShift, intArithF_eq, shiftF_eq, wrapF_eq, intArith, shift, eqVal, bound, asNat_cast, cond_true, cond_false, BEq.rfl, beq_self_eq_true, evalParts, fillParts, AV.cells, AV.ofCells, XV.av, AV.xv, List.length_cons, List.length_nil, zeros, patch, setMany, List.nil_append, List.cons_append, Nat.ble, Nat.add_eq, Nat.zero_add, Nat.add_zero, Nat.reduceAdd, Nat.reduceMul, Nat.reduceSub, Nat.ble_eq, Nat.reduceLeDiff, Nat.reduceBEq, Int.reduceBEq, Int.reduceNeg, Bool.and_true, Bool.and_false, Bool.true_and, Bool.false_and, Bool.not_true, Bool.not_false, Bool.true_eq_false, Bool.false_eq_true, Int.reduceLT, Int.reduceLE, Int.reduceGT, Int.reduceGE, decide_true, decide_false, Bool.not_eq_true, loopN_norm, loopN_exit, tf, ft, ff, e1, bneI]
    exact ⟨.nils, h, rfl, .inl ⟨rfl, trivial⟩, Ext.refl _⟩
  | some q =>
    obtain ⟨i, g⟩ := q
    obtain ⟨rfl, hi, rfl, h1⟩ := usedF_some e
    have e1 := used_yes (N := N) (d := d) A.ah.ar hi h1
    obtain ⟨fb, hxa, hf, hg⟩ := A.ah.ar.at_ hi
    have m1 : Nat.blt i fs.length = true := bltT hi
    have r0 := A.ah.ar.r0
    rw [hxa] at r0
    obtain ⟨b, hy, hgb, hlb, hbn, hbo⟩ := A.bh.at_ i fs[i] (List.getElem?_eq_getElem hi) h1
    have ry := (at_of hg hi).y
    rw [hy] at ry
    have hb : Bytes h (.sl b 0 16 (.ex 16)) (B i) := bytes_at (o := 0) hbn hgb (by omega)
    have hs := (hb.ext ((Ext.refl h).new (.cells []))).source
    rw [hlb] at hs
    obtain ⟨h', a1, ⟨a2, a3⟩, a4, a5⟩ := app_new (sz := 1) (h0 := h) (h := h.new (.cells [])) (i := h.next) get_new_at (Nat.le_succ _) (m := 15) hs (by rw [u8s_len, hlb]) (by omega)
    rcases a3 with ⟨hc, _⟩ | ⟨q, hq, hgq, hq1, hq2⟩
    · cases hc
    have hq' : q = h.next + 1 := by cases hq; rfl
    subst hq'
    have ec : evCallT table 18 N (d + 1) 43 [.c (.sl b 0 16 (.ex 16))] h = some (.c (.sl (h.next + 1) 0 16 (.dy 1)), h') := by
      have a1' : evApp (h.new (.cells [])) 1 (.c (.sl h.next 0 0 (.ex 0))) (.c (.sl b 0 16 (.ex 16))) = some (.c (.sl (h.next + 1) 0 16 (.dy 1)), h') := a1
      rw [evCallT_eq (F := ir43) rfl rfl rfl]
      unfold ir43
      rw [bodyK_eq]
      simp only [enter_eq, ev_seq, seqK_norm, seqK_exit, seqK_ret, ev_reg, ev_cond, condK_true, condK_false, ev_block, blockK_norm, blockK_ret, blockK_exit, ev_loop, ev_skip, ev_exit, ev_ret, regK_cons, regK_nil, guard_none, guard_some, regG_true, regG_false, regO_some, op_mov, op_conv, op_bin, op_bsl, op_box, op_mks, op_s2b, op_pick, op_un, op_eq, op_len, op_ext, op_load, op_iaddr, op_slice, op_b2s, op_idxS, op_mx, op_mn, op_call, op_store, op_app, op_copy, args_eq, result_one', rv_loc, finish_norm, finish_ret, outK_some, keep_true, keep_false, keep_nil, p_bin, p_pick, p_un, p_eq, p_conv, evNew, pureK_some, newK_some, X.eval, set_none, set_some, List.map_cons, List.map_nil, List.getD_cons_zero, List.getD_cons_succ, List.getD_nil, List.set_cons_zero, List.set_cons_succ, binCV, unCV, isShift, intArithF_eq, shiftF_eq, wrapF_eq, intArith, shift, eqVal, bound, asNat_cast, cond_true, cond_false, BEq.rfl, beq_self_eq_true, evalParts, fillParts, AV.cells, AV.ofCells, XV.av, AV.xv, List.length_cons, List.length_nil, zeros, patch, setMany, List.nil_append, List.cons_append, Nat.ble, Nat.add_eq, Nat.zero_add, Nat.add_zero, Nat.reduceAdd, Nat.reduceMul, Nat.reduceSub, Nat.ble_eq, Nat.reduceLeDiff, Nat.reduceBEq, Int.reduceBEq, Int.reduceNeg, Bool.and_true, Bool.and_false, Bool.true_and, Bool.false_and, Bool.not_true, Bool.not_false, Bool.true_eq_false, Bool.false_eq_true, Int.reduceLT, Int.reduceLE, Int.reduceGT, Int.reduceGE, decide_true, decide_false, Bool.not_eq_true, loopN_norm, loopN_exit, tf, ft, ff, a1']
    rw [evCallT_eq (F := ir20) rfl rfl rfl]
    unfold ir20
    rw [bodyK_eq]
    simp only [enter_eq, ev_seq, seqK_norm, seqK_exit, seqK_ret, ev_reg, ev_cond, condK_true, condK_false, ev_block, blockK_norm, blockK_ret, blockK_exit, ev_loop, ev_skip, ev_exit, ev_ret, regK_cons, regK_nil, guard_none, guard_some, regG_true, regG_false, regO_some, op_mov, op_conv, op_bin, op_bsl, op_box, op_mks, op_s2b, op_pick, op_un, op_eq, op_len, op_ext, op_load, op_iaddr, op_slice, op_b2s, op_idxS, op_mx, op_mn, op_call, op_store, op_app, op_copy, args_eq, result_one', rv_loc, finish_norm, finish_ret, outK_some, keep_true, keep_false, keep_nil, p_bin, p_pick, p_un, p_eq, p_conv, evNew, pureK_some, newK_some, X.eval, set_none, set_some, List.map_cons, List.map_nil, List.getD_cons_zero, List.getD_cons_succ, List.getD_nil, List.set_cons_zero, List.set_cons_succ, binCV, unCV, isShift, intArithF_eq, shiftF_eq, wrapF_eq, intArith, shift, eqVal, bound, asNat_cast, cond_true, cond_false, BEq.rfl, beq_self_eq_true, evalParts, fillParts, AV.cells, AV.ofCells, XV.av, AV.xv, List.length_cons, List.length_nil, zeros, patch, setMany, List.nil_append, List.cons_append, Nat.ble, Nat.add_eq, Nat.zero_add, Nat.add_zero, Nat.reduceAdd, Nat.reduceMul, Nat.reduceSub, Nat.ble_eq, Nat.reduceLeDiff, Nat.reduceBEq, Int.reduceBEq, Int.reduceNeg, Bool.and_true, Bool.and_false, Bool.true_and, Bool.false_and, Bool.not_true, Bool.not_false, Bool.true_eq_false, Bool.false_eq_true, Int.reduceLT, Int.reduceLE, Int.reduceGT, Int.reduceGE, decide_true, decide_false, Bool.not_eq_true, loopN_norm, loopN_exit, tf, ft, ff, e1, bneI, op_nilchk, p_nilchk, op_faddr, p_faddr, p_load, r0, AV.ofCells, p_iaddr, m1, ry, ec, Nat.zero_add]
    exact ⟨_, h', rfl, .inr ⟨_, rfl, hgq, hlb, by omega, hq2⟩, ⟨by rw [a4]; show h.next ≤ h.next + 1 + 1; omega, fun i hi => by rw [a5 i (Nat.lt_succ_of_lt hi), get_new_old hi]⟩⟩
end
end Lav
