/-
  Layer 10: the document's arena: what lies where; who is used; pins, marks.
-/
import Derived.Test.YtdilhnnbfkiacaaAre8
set_option maxRecDepth 100000
set_option linter.unusedSimpArgs false
namespace Lav
open Go (IntKind)

theorem apsC_put : ∀ (fs : List Fm) (i : Nat) (_ : i < fs.length) (g : Fm), (apsC fs).take (i * 5) ++ apC g ++ (apsC fs).drop (i * 5 + 5) = apsC (fs.set i g)
  | f :: fs, 0, _, g => rfl
  | f :: fs, i + 1, h, g => by
    have := apsC_put fs i (by simpa using h) g
    rw [show (i + 1) * 5 = i * 5 + 5 by omega]
    simp only [List.set_cons_succ, apsC, List.cons_append, List.nil_append, List.take_succ_cons, List.drop_succ_cons]
    rw [← this]
theorem apsC_set {fs : List Fm} {i : Nat} (hi : i < fs.length) {k : Nat} (hk : k < 5) {v : CV} {g : Fm} (hg : apC g = (apC fs[i]).set k v) : (apsC fs).set (i * 5 + k) v = apsC (fs.set i g) := by
  rw [← apsC_put fs i hi g, hg]
  have e : apsC fs = (apsC fs).take (i * 5) ++ ((apC fs[i]) ++ (apsC fs).drop (i * 5 + 5)) := by
    rw [← List.drop_drop, apsC_drop fs i hi]
    have : List.drop 5 (apC fs[i] ++ apsC (fs.drop (i + 1))) = apsC (fs.drop (i + 1)) := rfl
    rw [this, ← apsC_drop fs i hi, List.take_append_drop]
  have ht : ((apsC fs).take (i * 5)).length = i * 5 := by rw [List.length_take, apsC_len]; omega
  conv => lhs; rw [e]
  rw [List.set_append_right _ _ (by omega), ht, Nat.add_sub_cancel_left, List.set_append_left _ _ (by simpa using hk), List.append_assoc]
theorem Ints.keepB {S : List Nat} {h h' : Heap} {x : CV} {xs : List Int} (hx : Ints h x xs) (e : ExtB S h h') (hs : ∀ k, blk x = some k → k ∉ S) : Ints h' x xs := by
  rcases hx with h1 | ⟨i, o, c, rfl, h2, h3⟩
  · exact .inl h1
  · refine .inr ⟨i, o, c, rfl, Nat.lt_of_lt_of_le h2 e.1, fun j v hj => ?_⟩
    have := e.2 i h2 (hs i rfl)
    have h4 := h3 j v hj
    simp only [Heap.read] at h4 ⊢
    rw [this]; exact h4
theorem Ints.lt {h : Heap} {x : CV} {xs : List Int} (hx : Ints h x xs) {k : Nat} (hk : blk x = some k) : k < h.next := by
  rcases hx with ⟨rfl, _⟩ | ⟨i, o, c, rfl, h2, _⟩
  · cases hk
  · simp [blk] at hk; omega

/-- The document's arena. -/
structure RA (h : Heap) (p : Nat) (x y v : CV) (fs : List Fm) (o : List Int) (S : List (List Nat)) : Prop where
  box : h.get p = some (.cells [x, y, v])
  pn : p < h.next
  fr : Mine 5 Heap.empty h x fs.length (apsC fs)
  bd : Mine 1 Heap.empty h y S.length (S.map .str)
  sl : S.length = fs.length
  id : Ints h v o
  vs : v = .nils ∨ ∃ i q, v = .sl i q o.length (.dy 1)
  xn : ∀ k, blk x = some k → k ≠ p ∧ blk y ≠ some k ∧ blk v ≠ some k
  yn : ∀ k, blk y = some k → k ≠ p ∧ blk v ≠ some k
  vn : blk v ≠ some p
def rown (p : Nat) (x y v : CV) : List Nat := p :: (blk x).toList ++ (blk y).toList ++ (blk v).toList
theorem mem_rown {p k : Nat} {x y v : CV} : k ∈ rown p x y v ↔ k = p ∨ blk x = some k ∨ blk y = some k ∨ blk v = some k := by
  simp [rown, Option.mem_toList, or_assoc]

section
variable {N d : Nat} {h : Heap} {p : Nat} {x y v : CV} {fs : List Fm} {o : List Int} {S : List (List Nat)}
theorem RA.old (A : RA h p x y v fs o S) : ∀ k ∈ rown p x y v, k < h.next := by
  intro k hk
  rcases mem_rown.1 hk with rfl | e | e | e
  · exact A.pn
  · exact A.fr.old k e
  · exact A.bd.old k e
  · exact A.id.lt e
theorem RA.ext {T : List Nat} {h' : Heap} (A : RA h p x y v fs o S) (e : ExtB T h h') (hd : ∀ k ∈ rown p x y v, k ∉ T) : RA h' p x y v fs o S :=
  ⟨e.at_ A.box A.pn (hd p (mem_rown.2 (.inl rfl))), Nat.lt_of_lt_of_le A.pn e.1, A.fr.keepB e fun k hk => hd k (mem_rown.2 (.inr (.inl hk))), A.bd.keepB e fun k hk => hd k (mem_rown.2 (.inr (.inr (.inl hk)))), A.sl,
    A.id.keepB e fun k hk => hd k (mem_rown.2 (.inr (.inr (.inr hk)))), A.vs, A.xn, A.yn, A.vn⟩
theorem RA.ext' {h' : Heap} (A : RA h p x y v fs o S) (e : Ext h h') : RA h' p x y v fs o S := A.ext (e.b []) (by simp)
theorem RA.r0 (A : RA h p x y v fs o S) : h.read p 0 1 = some [x] := read_cells A.box rfl
theorem RA.r1 (A : RA h p x y v fs o S) : h.read p 1 1 = some [y] := read_cells A.box rfl
theorem RA.r2 (A : RA h p x y v fs o S) : h.read p 2 1 = some [v] := read_cells A.box rfl
theorem RA.lx (A : RA h p x y v fs o S) : ∀ loc vals H, evPure loc (.c x :: vals) H (.len .sl (.val 0)) = some (.c (.int .i64 (fs.length : Int))) := fun _ _ _ => A.fr.len rfl
theorem RA.lv (A : RA h p x y v fs o S) : ∀ loc vals H, evPure loc (.c v :: vals) H (.len .sl (.val 0)) = some (.c (.int .i64 (o.length : Int))) := fun _ _ _ => A.id.len rfl
theorem RA.at_ (A : RA h p x y v fs o S) {i : Nat} (hi : i < fs.length) : ∃ fb, x = .sl fb 0 fs.length (.dy 5) ∧ fb < h.next ∧ h.get fb = some (.cells (apsC fs)) ∧ Told h fb i fs[i] := by
  obtain ⟨fb, e, hf, T⟩ := Tells.at_ A.fr hi
  obtain ⟨_, ⟨_, h0⟩ | ⟨fb', e', hg, _, _⟩⟩ := A.fr
  · omega
  · rw [e] at e'
    simp only [CV.sl.injEq] at e'
    obtain ⟨rfl, _⟩ := e'
    exact ⟨fb, e, hf, hg, T⟩
/-- Frames anew. -/
theorem RA.put (A : RA h p x y v fs o S) {fb : Nat} (hx : x = .sl fb 0 fs.length (.dy 5)) (gs : List Fm) (hl : gs.length = fs.length) : RA (h.put fb (.cells (apsC gs))) p x y v gs o S ∧ ExtB (rown p x y v) h (h.put fb (.cells (apsC gs))) := by
  have hb : blk x = some fb := by rw [hx]; rfl
  obtain ⟨n1, n2, n3⟩ := A.xn fb hb
  have e : ExtB [fb] h (h.put fb (.cells (apsC gs))) := (ExtB.refl _ _).put (.inr (by simp)) _
  refine ⟨⟨e.at_ A.box A.pn (by simpa using fun h => n1 h.symm), A.pn, ⟨apsC_len gs, .inr ⟨fb, by rw [hx, hl], get_put_at, Nat.zero_le _, A.fr.old fb hb⟩⟩, A.bd.keepB e fun k hk hm => ?_, by rw [A.sl, hl], A.id.keepB e fun k hk hm => ?_, A.vs, A.xn, A.yn, A.vn⟩, e.mono fun k hk => mem_rown.2 (by simp at hk; simp [hk, hb])⟩
  · simp at hm; subst hm; exact n2 hk
  · simp at hm; subst hm; exact n3 hk
theorem RA.store (A : RA h p x y v fs o S) {i : Nat} (hi : i < fs.length) {fb : Nat} (hx : x = .sl fb 0 fs.length (.dy 5)) (g : Fm) : ∃ h', h.write fb (i * 5) (apC g) = some h' ∧ RA h' p x y v (fs.set i g) o S ∧ ExtB (rown p x y v) h h' ∧ h'.next = h.next := by
  obtain ⟨fb', hx', hf, hg, _⟩ := A.at_ hi
  have : fb' = fb := by rw [hx] at hx'; cases hx'; rfl
  subst this
  have hle : (i + 1) * 5 ≤ fs.length * 5 := Nat.mul_le_mul_right _ hi
  have w := write_many (o := i * 5) (vs := apC g) hg (by rw [apsC_len]; simp; omega)
  have e : (apC g).length = 5 := rfl
  rw [e, apsC_put fs i hi g] at w
  obtain ⟨A', e'⟩ := A.put hx (fs.set i g) (by simp)
  exact ⟨_, w, A', e', rfl⟩
theorem RA.poke (A : RA h p x y v fs o S) {i : Nat} (hi : i < fs.length) {fb : Nat} (hx : x = .sl fb 0 fs.length (.dy 5)) {k : Nat} (hk : k < 5) {w : CV} {g : Fm} (hg : apC g = (apC fs[i]).set k w) : ∃ h', h.write fb (i * 5 + k) [w] = some h' ∧ RA h' p x y v (fs.set i g) o S ∧ ExtB (rown p x y v) h h' ∧ h'.next = h.next := by
  obtain ⟨fb', hx', hf, hgt, _⟩ := A.at_ hi
  have : fb' = fb := by rw [hx] at hx'; cases hx'; rfl
  subst this
  have hle : (i + 1) * 5 ≤ fs.length * 5 := Nat.mul_le_mul_right _ hi
  have wr := write_one (o := i * 5 + k) (v := w) hgt (by rw [apsC_len]; omega)
  rw [apsC_set hi hk hg] at wr
  obtain ⟨A', e'⟩ := A.put hx (fs.set i g) (by simp)
  exact ⟨_, wr, A', e', rfl⟩
/-- The idle ones anew. -/
theorem RA.idle (A : RA h p x y v fs o S) {w : CV} {o' : List Int} (hi : Ints h w o') (ws : w = .nils ∨ ∃ i q, w = .sl i q o'.length (.dy 1)) (hn : ∀ k, blk w = some k → k ≠ p ∧ blk x ≠ some k ∧ blk y ≠ some k) :
    ∃ h', h.write p 2 [w] = some h' ∧ RA h' p x y w fs o' S ∧ ExtB (rown p x y v) h h' ∧ h'.next = h.next := by
  have e : ExtB [p] h (h.put p (.cells [x, y, w])) := (ExtB.refl _ _).put (.inr (by simp)) _
  refine ⟨h.put p (.cells [x, y, w]), write_one A.box (by simp), ⟨get_put_at, A.pn, A.fr.keepB e fun k hk hm => ?_, A.bd.keepB e fun k hk hm => ?_, A.sl, hi.keepB e fun k hk hm => ?_, ws, fun k hk => ⟨(A.xn k hk).1, (A.xn k hk).2.1, fun h => (hn k h).2.1 hk⟩, fun k hk => ⟨(A.yn k hk).1, fun h => (hn k h).2.2 hk⟩, fun h => (hn p h).1 rfl⟩, e.mono fun k hk => mem_rown.2 (.inl (by simpa using hk)), rfl⟩
  · simp at hm; subst hm; exact (A.xn k hk).1 rfl
  · simp at hm; subst hm; exact (A.yn k hk).1 rfl
  · simp at hm; subst hm; exact (hn k hk).1 rfl

theorem rused_ok (A : RA h p x y v fs o S) (f : Int) : evCallT table 18 N (d + 1) 45 [.c (.ptr p 0), .c (.int .i64 f)] h = some (.c (.bool (usedF fs f).isSome), h) := by
  have r0 := A.r0
  have lx := A.lx
  rw [evCallT_eq (F := ir45) rfl rfl rfl]
  unfold ir45
  rw [bodyK_eq]
  by_cases c1 : f < 0
  · have v1 : decide (f ≥ 0) = false := decide_eq_false (by omega)
    have e : usedF fs f = none := by unfold usedF; rw [if_pos c1]
    simp only [enter_eq, ev_seq, seqK_norm, seqK_exit, seqK_ret, ev_reg, ev_cond, condK_true, condK_false, ev_block, blockK_norm, blockK_ret, blockK_exit, ev_loop, ev_skip, ev_exit, ev_ret, regK_cons, regK_nil, guard_none, guard_some, regG_true, regG_false, regO_some, op_mov, op_conv, op_bin, op_bsl, op_box, op_mks, op_s2b, op_pick, op_un, op_eq, op_len, op_ext, op_load, op_iaddr, op_slice, op_b2s, op_idxS, op_mx, op_mn, op_call, op_store, op_app, op_copy, args_eq, result_one', rv_loc, finish_norm, finish_ret, outK_some, keep_true, keep_false, keep_nil, p_bin, p_pick, p_un, p_eq, p_conv, evNew, pureK_some, newK_some, X.eval, set_none, set_some, List.map_cons, List.map_nil, List.getD_cons_zero, List.getD_cons_succ, List.getD_nil, List.set_cons_zero, List.set_cons_succ, binCV, unCV, isShift, intArithF_eq, shiftF_eq, wrapF_eq, intArith, shift, eqVal, bound, asNat_cast, cond_true, cond_false, BEq.rfl, beq_self_eq_true, evalParts, fillParts, AV.cells, AV.ofCells, XV.av, AV.xv, List.length_cons, List.length_nil, zeros, patch, setMany, List.nil_append, List.cons_append, Nat.ble, Nat.add_eq, Nat.zero_add, Nat.add_zero, Nat.reduceAdd, Nat.reduceMul, Nat.reduceSub, Nat.ble_eq, Nat.reduceLeDiff, Nat.reduceBEq, Int.reduceBEq, Int.reduceNeg, Bool.and_true, Bool.and_false, Bool.true_and, Bool.false_and, Bool.not_true, Bool.not_false, Bool.true_eq_false, Bool.false_eq_true, Int.reduceLT, Int.reduceLE, Int.reduceGT, Int.reduceGE, decide_true, decide_false, Bool.not_eq_true, loopN_norm, loopN_exit, tf, ft, ff, v1, e, Option.isSome_none]
  have v1 : decide (f ≥ 0) = true := decide_eq_true (by omega)
  obtain ⟨i, rfl⟩ : ∃ i : Nat, f = (i : Int) := ⟨f.toNat, by omega⟩
  by_cases c2 : i < fs.length
  · obtain ⟨fb, rfl, _, _, T⟩ := A.at_ c2
    have v2 : decide ((i : Int) < (fs.length : Int)) = true := ltNat c2
    have m1 : Nat.blt i fs.length = true := bltT c2
    have r1 := T.s
    have e : (usedF fs (i : Int)).isSome = (fs[i].st == 1) := by
      unfold usedF
      rw [if_neg (by omega), Int.toNat_natCast, List.getElem?_eq_getElem c2]
      by_cases h1 : fs[i].st = 1
      · simp only [if_pos h1, h1]; rfl
      · simp only [if_neg h1]
        symm
        simp only [Option.isSome_none, beq_eq_false_iff_ne, ne_eq]; exact h1
    rw [e]
    simp only [enter_eq, ev_seq, seqK_norm, seqK_exit, seqK_ret, ev_reg, ev_cond, condK_true, condK_false, ev_block, blockK_norm, blockK_ret, blockK_exit, ev_loop, ev_skip, ev_exit, ev_ret, regK_cons, regK_nil, guard_none, guard_some, regG_true, regG_false, regO_some, op_mov, op_conv, op_bin, op_bsl, op_box, op_mks, op_s2b, op_pick, op_un, op_eq, op_len, op_ext, op_load, op_iaddr, op_slice, op_b2s, op_idxS, op_mx, op_mn, op_call, op_store, op_app, op_copy, args_eq, result_one', rv_loc, finish_norm, finish_ret, outK_some, keep_true, keep_false, keep_nil, p_bin, p_pick, p_un, p_eq, p_conv, evNew, pureK_some, newK_some, X.eval, set_none, set_some, List.map_cons, List.map_nil, List.getD_cons_zero, List.getD_cons_succ, List.getD_nil, List.set_cons_zero, List.set_cons_succ, binCV, unCV, isShift, intArithF_eq, shiftF_eq, wrapF_eq, intArith, shift, eqVal, bound, asNat_cast, cond_true, cond_false, BEq.rfl, beq_self_eq_true, evalParts, fillParts, AV.cells, AV.ofCells, XV.av, AV.xv, List.length_cons, List.length_nil, zeros, patch, setMany, List.nil_append, List.cons_append, Nat.ble, Nat.add_eq, Nat.zero_add, Nat.add_zero, Nat.reduceAdd, Nat.reduceMul, Nat.reduceSub, Nat.ble_eq, Nat.reduceLeDiff, Nat.reduceBEq, Int.reduceBEq, Int.reduceNeg, Bool.and_true, Bool.and_false, Bool.true_and, Bool.false_and, Bool.not_true, Bool.not_false, Bool.true_eq_false, Bool.false_eq_true, Int.reduceLT, Int.reduceLE, Int.reduceGT, Int.reduceGE, decide_true, decide_false, Bool.not_eq_true, loopN_norm, loopN_exit, tf, ft, ff, v1, v2, op_nilchk, p_nilchk, op_faddr, p_faddr, p_load, r0, AV.ofCells, lx, p_iaddr, m1, r1]
  · have v2 : decide ((i : Int) < (fs.length : Int)) = false := geNat (by omega)
    have e : usedF fs (i : Int) = none := by unfold usedF; rw [if_neg (by omega), Int.toNat_natCast, List.getElem?_eq_none (by omega)]
    simp only [enter_eq, ev_seq, seqK_norm, seqK_exit, seqK_ret, ev_reg, ev_cond, condK_true, condK_false, ev_block, blockK_norm, blockK_ret, blockK_exit, ev_loop, ev_skip, ev_exit, ev_ret, regK_cons, regK_nil, guard_none, guard_some, regG_true, regG_false, regO_some, op_mov, op_conv, op_bin, op_bsl, op_box, op_mks, op_s2b, op_pick, op_un, op_eq, op_len, op_ext, op_load, op_iaddr, op_slice, op_b2s, op_idxS, op_mx, op_mn, op_call, op_store, op_app, op_copy, args_eq, result_one', rv_loc, finish_norm, finish_ret, outK_some, keep_true, keep_false, keep_nil, p_bin, p_pick, p_un, p_eq, p_conv, evNew, pureK_some, newK_some, X.eval, set_none, set_some, List.map_cons, List.map_nil, List.getD_cons_zero, List.getD_cons_succ, List.getD_nil, List.set_cons_zero, List.set_cons_succ, binCV, unCV, isShift, intArithF_eq, shiftF_eq, wrapF_eq, intArith, shift, eqVal, bound, asNat_cast, cond_true, cond_false, BEq.rfl, beq_self_eq_true, evalParts, fillParts, AV.cells, AV.ofCells, XV.av, AV.xv, List.length_cons, List.length_nil, zeros, patch, setMany, List.nil_append, List.cons_append, Nat.ble, Nat.add_eq, Nat.zero_add, Nat.add_zero, Nat.reduceAdd, Nat.reduceMul, Nat.reduceSub, Nat.ble_eq, Nat.reduceLeDiff, Nat.reduceBEq, Int.reduceBEq, Int.reduceNeg, Bool.and_true, Bool.and_false, Bool.true_and, Bool.false_and, Bool.not_true, Bool.not_false, Bool.true_eq_false, Bool.false_eq_true, Int.reduceLT, Int.reduceLE, Int.reduceGT, Int.reduceGE, decide_true, decide_false, Bool.not_eq_true, loopN_norm, loopN_exit, tf, ft, ff, v1, v2, op_nilchk, p_nilchk, op_faddr, p_faddr, p_load, r0, AV.ofCells, lx, e, Option.isSome_none]

theorem rpin_ok (A : RA h p x y v fs o S) (ok : OKs fs) (f : Int) : ∃ h', evCallT table 18 N (d + 2) 23 [.c (.ptr p 0), .c (.int .i64 f)] h = some (.c (.int .i64 (pinF fs f).1), h') ∧ RA h' p x y v (pinF fs f).2 o S ∧ ExtB (rown p x y v) h h' := by
  have e1 := rused_ok (N := N) (d := d) A f
  rw [evCallT_eq (F := ir23) rfl rfl rfl]
  unfold ir23
  rw [bodyK_eq]
  unfold pinF
  cases e : usedF fs f with
  | none =>
    rw [e] at e1
    simp only [enter_eq, ev_seq, seqK_norm, seqK_exit, seqK_ret, ev_reg, ev_cond, condK_true, condK_false, ev_block, blockK_norm, blockK_ret, blockK_exit, ev_loop, ev_skip, ev_exit, ev_ret, regK_cons, regK_nil, guard_none, guard_some, regG_true, regG_false, regO_some, op_mov, op_conv, op_bin, op_bsl, op_box, op_mks, op_s2b, op_pick, op_un, op_eq, op_len, op_ext, op_load, op_iaddr, op_slice, op_b2s, op_idxS, op_mx, op_mn, op_call, op_store, op_app, op_copy, args_eq, result_one', rv_loc, finish_norm, finish_ret, outK_some, keep_true, keep_false, keep_nil, p_bin, p_pick, p_un, p_eq, p_conv, evNew, pureK_some, newK_some, X.eval, set_none, set_some, List.map_cons, List.map_nil, List.getD_cons_zero, List.getD_cons_succ, List.getD_nil, List.set_cons_zero, List.set_cons_succ, binCV, unCV, isShift, intArithF_eq, shiftF_eq, wrapF_eq, intArith, shift, eqVal, bound, asNat_cast, cond_true, cond_false, BEq.rfl, beq_self_eq_true, evalParts, fillParts, AV.cells, AV.ofCells, XV.av, AV.xv, List.length_cons, List.length_nil, zeros, patch, setMany, List.nil_append, List.cons_append, Nat.ble, Nat.add_eq, Nat.zero_add, Nat.add_zero, Nat.reduceAdd, Nat.reduceMul, Nat.reduceSub, Nat.ble_eq, Nat.reduceLeDiff, Nat.reduceBEq, Int.reduceBEq, Int.reduceNeg, Bool.and_true, Bool.and_false, Bool.true_and, Bool.false_and, Bool.not_true, Bool.not_false, Bool.true_eq_false, Bool.false_eq_true, Int.reduceLT, Int.reduceLE, Int.reduceGT, Int.reduceGE, decide_true, decide_false, Bool.not_eq_true, loopN_norm, loopN_exit, tf, ft, ff, e1, Option.isSome_none]
    exact ⟨h, rfl, A, ExtB.refl _ _⟩
  | some q =>
    obtain ⟨i, g⟩ := q
    rw [e] at e1
    obtain ⟨rfl, hi, rfl, h1⟩ := usedF_some e
    have k := (ok i fs[i] (List.getElem?_eq_getElem hi)).u h1
    obtain ⟨fb, rfl, _, _, T⟩ := A.at_ hi
    have r0 := A.r0
    have m1 : Nat.blt i fs.length = true := bltT hi
    have r1 := T.n
    by_cases h2 : fs[i].pn = 1000
    · rw [h2] at r1
      simp only [if_pos h2]
      simp only [enter_eq, ev_seq, seqK_norm, seqK_exit, seqK_ret, ev_reg, ev_cond, condK_true, condK_false, ev_block, blockK_norm, blockK_ret, blockK_exit, ev_loop, ev_skip, ev_exit, ev_ret, regK_cons, regK_nil, guard_none, guard_some, regG_true, regG_false, regO_some, op_mov, op_conv, op_bin, op_bsl, op_box, op_mks, op_s2b, op_pick, op_un, op_eq, op_len, op_ext, op_load, op_iaddr, op_slice, op_b2s, op_idxS, op_mx, op_mn, op_call, op_store, op_app, op_copy, args_eq, result_one', rv_loc, finish_norm, finish_ret, outK_some, keep_true, keep_false, keep_nil, p_bin, p_pick, p_un, p_eq, p_conv, evNew, pureK_some, newK_some, X.eval, set_none, set_some, List.map_cons, List.map_nil, List.getD_cons_zero, List.getD_cons_succ, List.getD_nil, List.set_cons_zero, List.set_cons_succ, binCV, unCV, isShift, intArithF_eq, shiftF_eq, wrapF_eq, intArith, shift, eqVal, bound, asNat_cast, cond_true, cond_false, BEq.rfl, beq_self_eq_true, evalParts, fillParts, AV.cells, AV.ofCells, XV.av, AV.xv, List.length_cons, List.length_nil, zeros, patch, setMany, List.nil_append, List.cons_append, Nat.ble, Nat.add_eq, Nat.zero_add, Nat.add_zero, Nat.reduceAdd, Nat.reduceMul, Nat.reduceSub, Nat.ble_eq, Nat.reduceLeDiff, Nat.reduceBEq, Int.reduceBEq, Int.reduceNeg, Bool.and_true, Bool.and_false, Bool.true_and, Bool.false_and, Bool.not_true, Bool.not_false, Bool.true_eq_false, Bool.false_eq_true, Int.reduceLT, Int.reduceLE, Int.reduceGT, Int.reduceGE, decide_true, decide_false, Bool.not_eq_true, loopN_norm, loopN_exit, tf, ft, ff, e1, Option.isSome_some, op_nilchk, p_nilchk, op_faddr, p_faddr, p_load, r0, AV.ofCells, p_iaddr, m1, r1]
      exact ⟨h, rfl, A, ExtB.refl _ _⟩
    · have v1 : decide (fs[i].pn ≥ 1000) = false := decide_eq_false (by omega)
      have v2 : IntKind.i64.wrap (fs[i].pn + 1) = fs[i].pn + 1 := wrapI (by omega) (by omega)
      obtain ⟨h', w, A', e', n'⟩ := A.poke hi rfl (k := 2) (w := .int .i64 (fs[i].pn + 1)) (g := ⟨fs[i].st, fs[i].pg, fs[i].pn + 1, fs[i].dt, fs[i].y⟩) (by omega) rfl
      simp only [if_neg h2]
      simp only [enter_eq, ev_seq, seqK_norm, seqK_exit, seqK_ret, ev_reg, ev_cond, condK_true, condK_false, ev_block, blockK_norm, blockK_ret, blockK_exit, ev_loop, ev_skip, ev_exit, ev_ret, regK_cons, regK_nil, guard_none, guard_some, regG_true, regG_false, regO_some, op_mov, op_conv, op_bin, op_bsl, op_box, op_mks, op_s2b, op_pick, op_un, op_eq, op_len, op_ext, op_load, op_iaddr, op_slice, op_b2s, op_idxS, op_mx, op_mn, op_call, op_store, op_app, op_copy, args_eq, result_one', rv_loc, finish_norm, finish_ret, outK_some, keep_true, keep_false, keep_nil, p_bin, p_pick, p_un, p_eq, p_conv, evNew, pureK_some, newK_some, X.eval, set_none, set_some, List.map_cons, List.map_nil, List.getD_cons_zero, List.getD_cons_succ, List.getD_nil, List.set_cons_zero, List.set_cons_succ, binCV, unCV, isShift, intArithF_eq, shiftF_eq, wrapF_eq, intArith, shift, eqVal, bound, asNat_cast, cond_true, cond_false, BEq.rfl, beq_self_eq_true, evalParts, fillParts, AV.cells, AV.ofCells, XV.av, AV.xv, List.length_cons, List.length_nil, zeros, patch, setMany, List.nil_append, List.cons_append, Nat.ble, Nat.add_eq, Nat.zero_add, Nat.add_zero, Nat.reduceAdd, Nat.reduceMul, Nat.reduceSub, Nat.ble_eq, Nat.reduceLeDiff, Nat.reduceBEq, Int.reduceBEq, Int.reduceNeg, Bool.and_true, Bool.and_false, Bool.true_and, Bool.false_and, Bool.not_true, Bool.not_false, Bool.true_eq_false, Bool.false_eq_true, Int.reduceLT, Int.reduceLE, Int.reduceGT, Int.reduceGE, decide_true, decide_false, Bool.not_eq_true, loopN_norm, loopN_exit, tf, ft, ff, e1, Option.isSome_some, op_nilchk, p_nilchk, op_faddr, p_faddr, p_load, r0, AV.ofCells, p_iaddr, m1, r1, v1, v2, evEff, w]
      exact ⟨h', rfl, A', e'⟩
theorem runpin_ok (A : RA h p x y v fs o S) (ok : OKs fs) (f : Int) : ∃ h', evCallT table 18 N (d + 2) 24 [.c (.ptr p 0), .c (.int .i64 f)] h = some (.c (.int .i64 (unpinF fs f).1), h') ∧ RA h' p x y v (unpinF fs f).2 o S ∧ ExtB (rown p x y v) h h' := by
  have e1 := rused_ok (N := N) (d := d) A f
  rw [evCallT_eq (F := ir24) rfl rfl rfl]
  unfold ir24
  rw [bodyK_eq]
  unfold unpinF
  cases e : usedF fs f with
  | none =>
    rw [e] at e1
    simp only [enter_eq, ev_seq, seqK_norm, seqK_exit, seqK_ret, ev_reg, ev_cond, condK_true, condK_false, ev_block, blockK_norm, blockK_ret, blockK_exit, ev_loop, ev_skip, ev_exit, ev_ret, regK_cons, regK_nil, guard_none, guard_some, regG_true, regG_false, regO_some, op_mov, op_conv, op_bin, op_bsl, op_box, op_mks, op_s2b, op_pick, op_un, op_eq, op_len, op_ext, op_load, op_iaddr, op_slice, op_b2s, op_idxS, op_mx, op_mn, op_call, op_store, op_app, op_copy, args_eq, result_one', rv_loc, finish_norm, finish_ret, outK_some, keep_true, keep_false, keep_nil, p_bin, p_pick, p_un, p_eq, p_conv, evNew, pureK_some, newK_some, X.eval, set_none, set_some, List.map_cons, List.map_nil, List.getD_cons_zero, List.getD_cons_succ, List.getD_nil, List.set_cons_zero, List.set_cons_succ, binCV, unCV, isShift, intArithF_eq, shiftF_eq, wrapF_eq, intArith, shift, eqVal, bound, asNat_cast, cond_true, cond_false, BEq.rfl, beq_self_eq_true, evalParts, fillParts, AV.cells, AV.ofCells, XV.av, AV.xv, List.length_cons, List.length_nil, zeros, patch, setMany, List.nil_append, List.cons_append, Nat.ble, Nat.add_eq, Nat.zero_add, Nat.add_zero, Nat.reduceAdd, Nat.reduceMul, Nat.reduceSub, Nat.ble_eq, Nat.reduceLeDiff, Nat.reduceBEq, Int.reduceBEq, Int.reduceNeg, Bool.and_true, Bool.and_false, Bool.true_and, Bool.false_and, Bool.not_true, Bool.not_false, Bool.true_eq_false, Bool.false_eq_true, Int.reduceLT, Int.reduceLE, Int.reduceGT, Int.reduceGE, decide_true, decide_false, Bool.not_eq_true, loopN_norm, loopN_exit, tf, ft, ff, e1, Option.isSome_none]
    exact ⟨h, rfl, A, ExtB.refl _ _⟩
  | some q =>
    obtain ⟨i, g⟩ := q
    rw [e] at e1
    obtain ⟨rfl, hi, rfl, h1⟩ := usedF_some e
    have k := (ok i fs[i] (List.getElem?_eq_getElem hi)).u h1
    obtain ⟨fb, rfl, _, _, T⟩ := A.at_ hi
    have r0 := A.r0
    have m1 : Nat.blt i fs.length = true := bltT hi
    have r1 := T.n
    by_cases h2 : fs[i].pn = 0
    · rw [h2] at r1
      simp only [if_pos h2]
      simp only [enter_eq, ev_seq, seqK_norm, seqK_exit, seqK_ret, ev_reg, ev_cond, condK_true, condK_false, ev_block, blockK_norm, blockK_ret, blockK_exit, ev_loop, ev_skip, ev_exit, ev_ret, regK_cons, regK_nil, guard_none, guard_some, regG_true, regG_false, regO_some, op_mov, op_conv, op_bin, op_bsl, op_box, op_mks, op_s2b, op_pick, op_un, op_eq, op_len, op_ext, op_load, op_iaddr, op_slice, op_b2s, op_idxS, op_mx, op_mn, op_call, op_store, op_app, op_copy, args_eq, result_one', rv_loc, finish_norm, finish_ret, outK_some, keep_true, keep_false, keep_nil, p_bin, p_pick, p_un, p_eq, p_conv, evNew, pureK_some, newK_some, X.eval, set_none, set_some, List.map_cons, List.map_nil, List.getD_cons_zero, List.getD_cons_succ, List.getD_nil, List.set_cons_zero, List.set_cons_succ, binCV, unCV, isShift, intArithF_eq, shiftF_eq, wrapF_eq, intArith, shift, eqVal, bound, asNat_cast, cond_true, cond_false, BEq.rfl, beq_self_eq_true, evalParts, fillParts, AV.cells, AV.ofCells, XV.av, AV.xv, List.length_cons, List.length_nil, zeros, patch, setMany, List.nil_append, List.cons_append, Nat.ble, Nat.add_eq, Nat.zero_add, Nat.add_zero, Nat.reduceAdd, Nat.reduceMul, Nat.reduceSub, Nat.ble_eq, Nat.reduceLeDiff, Nat.reduceBEq, Int.reduceBEq, Int.reduceNeg, Bool.and_true, Bool.and_false, Bool.true_and, Bool.false_and, Bool.not_true, Bool.not_false, Bool.true_eq_false, Bool.false_eq_true, Int.reduceLT, Int.reduceLE, Int.reduceGT, Int.reduceGE, decide_true, decide_false, Bool.not_eq_true, loopN_norm, loopN_exit, tf, ft, ff, e1, Option.isSome_some, op_nilchk, p_nilchk, op_faddr, p_faddr, p_load, r0, AV.ofCells, p_iaddr, m1, r1]
      exact ⟨h, rfl, A, ExtB.refl _ _⟩
    · have v1 : (fs[i].pn == 0) = false := by simp only [beq_eq_false_iff_ne, ne_eq]; exact h2
      have v2 : IntKind.i64.wrap (fs[i].pn - 1) = fs[i].pn - 1 := wrapI (by omega) (by omega)
      obtain ⟨h', w, A', e', n'⟩ := A.poke hi rfl (k := 2) (w := .int .i64 (fs[i].pn - 1)) (g := ⟨fs[i].st, fs[i].pg, fs[i].pn - 1, fs[i].dt, fs[i].y⟩) (by omega) rfl
      simp only [if_neg h2]
      simp only [enter_eq, ev_seq, seqK_norm, seqK_exit, seqK_ret, ev_reg, ev_cond, condK_true, condK_false, ev_block, blockK_norm, blockK_ret, blockK_exit, ev_loop, ev_skip, ev_exit, ev_ret, regK_cons, regK_nil, guard_none, guard_some, regG_true, regG_false, regO_some, op_mov, op_conv, op_bin, op_bsl, op_box, op_mks, op_s2b, op_pick, op_un, op_eq, op_len, op_ext, op_load, op_iaddr, op_slice, op_b2s, op_idxS, op_mx, op_mn, op_call, op_store, op_app, op_copy, args_eq, result_one', rv_loc, finish_norm, finish_ret, outK_some, keep_true, keep_false, keep_nil, p_bin, p_pick, p_un, p_eq, p_conv, evNew, pureK_some, newK_some, X.eval, set_none, set_some, List.map_cons, List.map_nil, List.getD_cons_zero, List.getD_cons_succ, List.getD_nil, List.set_cons_zero, List.set_cons_succ, binCV, unCV, isShift, intArithF_eq, shiftF_eq, wrapF_eq, intArith, shift, eqVal, bound, asNat_cast, cond_true, cond_false, BEq.rfl, beq_self_eq_true, evalParts, fillParts, AV.cells, AV.ofCells, XV.av, AV.xv, List.length_cons, List.length_nil, zeros, patch, setMany, List.nil_append, List.cons_append, Nat.ble, Nat.add_eq, Nat.zero_add, Nat.add_zero, Nat.reduceAdd, Nat.reduceMul, Nat.reduceSub, Nat.ble_eq, Nat.reduceLeDiff, Nat.reduceBEq, Int.reduceBEq, Int.reduceNeg, Bool.and_true, Bool.and_false, Bool.true_and, Bool.false_and, Bool.not_true, Bool.not_false, Bool.true_eq_false, Bool.false_eq_true, Int.reduceLT, Int.reduceLE, Int.reduceGT, Int.reduceGE, decide_true, decide_false, Bool.not_eq_true, loopN_norm, loopN_exit, tf, ft, ff, e1, Option.isSome_some, op_nilchk, p_nilchk, op_faddr, p_faddr, p_load, r0, AV.ofCells, p_iaddr, m1, r1, v1, v2, evEff, w]
      exact ⟨h', rfl, A', e'⟩
theorem rmark_ok (A : RA h p x y v fs o S) (f : Int) (b : Bool) : ∃ h', evCallT table 18 N (d + 2) 26 [.c (.ptr p 0), .c (.int .i64 f), .c (.bool b)] h = some (.c (.int .i64 (markF fs f b).1), h') ∧ RA h' p x y v (markF fs f b).2 o S ∧ ExtB (rown p x y v) h h' := by
  have e1 := rused_ok (N := N) (d := d) A f
  rw [evCallT_eq (F := ir26) rfl rfl rfl]
  unfold ir26
  rw [bodyK_eq]
  unfold markF
  cases e : usedF fs f with
  | none =>
    rw [e] at e1
    simp only [enter_eq, ev_seq, seqK_norm, seqK_exit, seqK_ret, ev_reg, ev_cond, condK_true, condK_false, ev_block, blockK_norm, blockK_ret, blockK_exit, ev_loop, ev_skip, ev_exit, ev_ret, regK_cons, regK_nil, guard_none, guard_some, regG_true, regG_false, regO_some, op_mov, op_conv, op_bin, op_bsl, op_box, op_mks, op_s2b, op_pick, op_un, op_eq, op_len, op_ext, op_load, op_iaddr, op_slice, op_b2s, op_idxS, op_mx, op_mn, op_call, op_store, op_app, op_copy, args_eq, result_one', rv_loc, finish_norm, finish_ret, outK_some, keep_true, keep_false, keep_nil, p_bin, p_pick, p_un, p_eq, p_conv, evNew, pureK_some, newK_some, X.eval, set_none, set_some, List.map_cons, List.map_nil, List.getD_cons_zero, List.getD_cons_succ, List.getD_nil, List.set_cons_zero, List.set_cons_succ, binCV, unCV, isShift, intArithF_eq, shiftF_eq, wrapF_eq, intArith, shift, eqVal, bound, asNat_cast, cond_true, cond_false, BEq.rfl, beq_self_eq_true, evalParts, fillParts, AV.cells, AV.ofCells, XV.av, AV.xv, List.length_cons, List.length_nil, zeros, patch, setMany, List.nil_append, List.cons_append, Nat.ble, Nat.add_eq, Nat.zero_add, Nat.add_zero, Nat.reduceAdd, Nat.reduceMul, Nat.reduceSub, Nat.ble_eq, Nat.reduceLeDiff, Nat.reduceBEq, Int.reduceBEq, Int.reduceNeg, Bool.and_true, Bool.and_false, Bool.true_and, Bool.false_and, Bool.not_true, Bool.not_false, Bool.true_eq_false, Bool.false_eq_true, Int.reduceLT, Int.reduceLE, Int.reduceGT, Int.reduceGE, decide_true, decide_false, Bool.not_eq_true, loopN_norm, loopN_exit, tf, ft, ff, e1, Option.isSome_none]
    exact ⟨h, rfl, A, ExtB.refl _ _⟩
  | some q =>
    obtain ⟨i, g⟩ := q
    rw [e] at e1
    obtain ⟨rfl, hi, rfl, h1⟩ := usedF_some e
    obtain ⟨fb, rfl, _, _, T⟩ := A.at_ hi
    have r0 := A.r0
    have m1 : Nat.blt i fs.length = true := bltT hi
    obtain ⟨h', w, A', e', n'⟩ := A.poke hi rfl (k := 4) (w := .bool b) (g := ⟨fs[i].st, fs[i].pg, fs[i].pn, b, fs[i].y⟩) (by omega) rfl
    simp only [enter_eq, ev_seq, seqK_norm, seqK_exit, seqK_ret, ev_reg, ev_cond, condK_true, condK_false, ev_block, blockK_norm, blockK_ret, blockK_exit, ev_loop, ev_skip, ev_exit, ev_ret, regK_cons, regK_nil, guard_none, guard_some, regG_true, regG_false, regO_some, op_mov, op_conv, op_bin, op_bsl, op_box, op_mks, op_s2b, op_pick, op_un, op_eq, op_len, op_ext, op_load, op_iaddr, op_slice, op_b2s, op_idxS, op_mx, op_mn, op_call, op_store, op_app, op_copy, args_eq, result_one', rv_loc, finish_norm, finish_ret, outK_some, keep_true, keep_false, keep_nil, p_bin, p_pick, p_un, p_eq, p_conv, evNew, pureK_some, newK_some, X.eval, set_none, set_some, List.map_cons, List.map_nil, List.getD_cons_zero, List.getD_cons_succ, List.getD_nil, List.set_cons_zero, List.set_cons_succ, binCV, unCV, isShift, intArithF_eq, shiftF_eq, wrapF_eq, intArith, shift, eqVal, bound, asNat_cast, cond_true, cond_false, BEq.rfl, beq_self_eq_true, evalParts, fillParts, AV.cells, AV.ofCells, XV.av, AV.xv, List.length_cons, List.length_nil, zeros, patch, setMany, List.nil_append, List.cons_append, Nat.ble, Nat.add_eq, Nat.zero_add, Nat.add_zero, Nat.reduceAdd, Nat.reduceMul, Nat.reduceSub, Nat.ble_eq, Nat.reduceLeDiff, Nat.reduceBEq, Int.reduceBEq, Int.reduceNeg, Bool.and_true, Bool.and_false, Bool.true_and, Bool.false_and, Bool.not_true, Bool.not_false, Bool.true_eq_false, Bool.false_eq_true, Int.reduceLT, Int.reduceLE, Int.reduceGT, Int.reduceGE, decide_true, decide_false, Bool.not_eq_true, loopN_norm, loopN_exit, tf, ft, ff, e1, Option.isSome_some, op_nilchk, p_nilchk, op_faddr, p_faddr, p_load, r0, AV.ofCells, p_iaddr, m1, evEff, w]
    exact ⟨h', rfl, A', e'⟩
end
end Lav
