/-
  Layer 12: what handles do.
-/
import Derived.Test.YtakkkibaaipmcaaRep1
set_option maxRecDepth 100000
set_option linter.unusedSimpArgs false
namespace Lav
open Go (IntKind)

/-- Where a number stands, or none. -/
def placeOf : List Int → Int → Int
  | [], _ => -1
  | a :: l, x => if a = x then 0 else if placeOf l x < 0 then -1 else placeOf l x + 1
theorem placeOf_not : ∀ {o : List Int} {x : Int}, x ∉ o → placeOf o x = -1
  | [], _, _ => rfl
  | a :: l, x, h => by
    simp at h
    rw [placeOf, if_neg (fun e => h.1 e.symm), placeOf_not h.2]; rfl
theorem placeOf_mem : ∀ {o : List Int} {x : Int}, x ∈ o → ∃ k : Nat, placeOf o x = (k : Int) ∧ ∃ hk : k < o.length, o[k] = x ∧ x ∉ o.take k
  | a :: l, x, h => by
    by_cases e : a = x
    · exact ⟨0, by rw [placeOf, if_pos e]; rfl, by simp, by simpa using e, by simp⟩
    · have hx : x ∈ l := by simp at h; rcases h with h | h; exact absurd h.symm e; exact h
      obtain ⟨k, h1, hk, h2, h3⟩ := placeOf_mem hx
      refine ⟨k + 1, by rw [placeOf, if_neg e, h1, if_neg (by omega)]; rfl, by simpa using hk, by simpa using h2, ?_⟩
      simp only [List.take_succ_cons, List.mem_cons, not_or]
      exact ⟨fun e' => e e'.symm, h3⟩
theorem placeOf_first {o : List Int} {x : Int} {i : Nat} (hi : i < o.length) (e : o[i] = x) (hno : x ∉ o.take i) : placeOf o x = (i : Int) := by
  obtain ⟨k, h1, hk, h2, h3⟩ := placeOf_mem (o := o) (x := x) (by rw [← e]; exact List.getElem_mem _)
  rw [h1]
  rcases Nat.lt_trichotomy k i with h4 | h4 | h4
  · exact absurd (by rw [← h2]; exact List.mem_take_iff_getElem.2 ⟨k, by omega, rfl⟩) hno
  · rw [h4]
  · exact absurd (by rw [← e]; exact List.mem_take_iff_getElem.2 ⟨i, by omega, rfl⟩) h3
theorem place_ge (l : List Int) (x : Int) : decide (placeOf l x ≥ 0) = decide (x ∈ l) := by
  by_cases h : x ∈ l
  · obtain ⟨k, hk, _⟩ := placeOf_mem h
    rw [decide_eq_true h, hk]; exact decide_eq_true (by omega)
  · rw [decide_eq_false h, placeOf_not h]; rfl

theorem Ints.keepB {S : List Nat} {h h' : Heap} {x : CV} {xs : List Int} (hx : Ints h x xs) (e : ExtB S h h') (hs : ∀ k, blk x = some k → k ∉ S) : Ints h' x xs := by
  rcases hx with h1 | ⟨i, o, c, rfl, h2, h3⟩
  · exact .inl h1
  · refine .inr ⟨i, o, c, rfl, Nat.lt_of_lt_of_le h2 e.1, fun j v hj => ?_⟩
    have := e.2 i h2 (hs i rfl)
    have h4 := h3 j v hj
    simp only [Heap.read] at h4 ⊢
    rw [this]; exact h4

/-- Rows of six, each in a block of its own. -/
structure HB (h : Heap) (p b : Nat) (bs : List Nat) (rows : List (List Int)) : Prop where
  cell : h.get p = some (.cells [.sl b 0 rows.length (.dy 1)])
  tab : h.get b = some (.cells (bs.map fun i => .sl i 0 6 (.ex 6)))
  bl : bs.length = rows.length
  row : ∀ j (hj : j < rows.length), h.get (bs[j]'(by omega)) = some (.cells (rows[j].map icell))
  six : ∀ r ∈ rows, r.length = 6
  nd : bs.Nodup
  ne : p ≠ b
  pb : p ∉ bs
  bb : b ∉ bs
  pn : p < h.next
  bn : b < h.next
  sn : ∀ k ∈ bs, k < h.next

section
variable {N d : Nat} {h : Heap} {p b : Nat} {bs : List Nat} {rows : List (List Int)}

theorem HB.ext {h' : Heap} (t : HB h p b bs rows) {S : List Nat} (e : ExtB S h h') (hs : ∀ k ∈ p :: b :: bs, k ∉ S) : HB h' p b bs rows :=
  ⟨e.at_ t.cell t.pn (hs p (by simp)), e.at_ t.tab t.bn (hs b (by simp)), t.bl, fun j hj => e.at_ (t.row j hj) (t.sn _ (List.getElem_mem _)) (hs _ (by simp)), t.six, t.nd, t.ne, t.pb, t.bb, Nat.lt_of_lt_of_le t.pn e.1, Nat.lt_of_lt_of_le t.bn e.1, fun k hk => Nat.lt_of_lt_of_le (t.sn k hk) e.1⟩
theorem HB.r0 (t : HB h p b bs rows) : h.read p 0 1 = some [.sl b 0 rows.length (.dy 1)] := read_cells t.cell rfl
theorem HB.r1 (t : HB h p b bs rows) {j : Nat} (hj : j < rows.length) : h.read b j 1 = some [.sl (bs[j]'(by have := t.bl; omega)) 0 6 (.ex 6)] := read_cells t.tab (by simp [t.bl, hj])
theorem HB.len6 (t : HB h p b bs rows) {j : Nat} (hj : j < rows.length) : rows[j].length = 6 := t.six _ (List.getElem_mem _)
theorem HB.r2 (t : HB h p b bs rows) {j k : Nat} (hj : j < rows.length) (hk : k < 6) : h.read (bs[j]'(by have := t.bl; omega)) k 1 = some [.int .i64 (rows[j][k]'(by rw [t.len6 hj]; exact hk))] :=
  read_cells (t.row j hj) (by simp [t.len6 hj, hk, icell])
theorem HB.ints (t : HB h p b bs rows) {j : Nat} (hj : j < rows.length) : Ints h (.sl (bs[j]'(by have := t.bl; omega)) 0 6 (.ex 6)) rows[j] := by
  have := ints_cells (h := h) (xs := rows[j]) (c := .ex 6) (t.sn _ (List.getElem_mem (by have := t.bl; omega : j < bs.length))) (t.row j hj)
  rw [t.len6 hj] at this; exact this
/-- A cell is written. -/
theorem HB.put (t : HB h p b bs rows) {j k : Nat} (hj : j < rows.length) (hk : k < 6) (v : Int) :
    h.write (bs[j]'(by have := t.bl; omega)) k [.int .i64 v] = some (h.put (bs[j]'(by have := t.bl; omega)) (.cells ((rows[j].set k v).map icell))) ∧
    HB (h.put (bs[j]'(by have := t.bl; omega)) (.cells ((rows[j].set k v).map icell))) p b bs (rows.set j (rows[j].set k v)) ∧ ExtB bs h (h.put (bs[j]'(by have := t.bl; omega)) (.cells ((rows[j].set k v).map icell))) := by
  have hb : j < bs.length := by have := t.bl; omega
  have hm : bs[j] ∈ bs := List.getElem_mem _
  refine ⟨?_, ⟨?_, ?_, by simp [t.bl], fun i hi => ?_, fun r hr => ?_, t.nd, t.ne, t.pb, t.bb, t.pn, t.bn, t.sn⟩, (ExtB.refl _ _).put (.inr hm) _⟩
  · have := write_one (o := k) (v := icell v) (t.row j hj) (by simp [t.len6 hj, hk])
    rw [← List.map_set] at this; exact this
  · rw [get_put_ne (fun (e : p = bs[j]) => t.pb (by rw [e]; exact hm)), List.length_set]; exact t.cell
  · rw [get_put_ne (fun (e : b = bs[j]) => t.bb (by rw [e]; exact hm))]; exact t.tab
  · have hi' : i < rows.length := by simpa using hi
    by_cases e : i = j
    · subst e; rw [get_put_at]; simp
    · rw [get_put_ne (fun e' => e ((List.getElem_inj t.nd).1 e')), List.getElem_set_ne (fun e' => e e'.symm)]; exact t.row i hi'
  · rcases List.mem_or_eq_of_mem_set hr with h1 | h1
    · exact t.six r h1
    · rw [h1, List.length_set]; exact t.len6 hj

theorem of_in (t : HB h p b bs rows) {j : Nat} (hj : j < rows.length) : evCallT table 14 N (d + 1) 47 [.c (.ptr p 0), .c (.int .i64 (j : Int))] h = some (.c (.sl (bs[j]'(by have := t.bl; omega)) 0 6 (.ex 6)), h) := by
  have c1 : decide ((j : Int) < 0) = false := decide_eq_false (by omega)
  have c2 : decide ((j : Int) ≥ (rows.length : Int)) = false := decide_eq_false (by omega)
  have ll : ∀ loc vals h', evPure loc (.c (.sl b 0 rows.length (.dy 1)) :: vals) h' (.len .sl (.val 0)) = some (.c (.int .i64 (rows.length : Int))) := fun _ _ _ => rfl
  have m1 : Nat.blt j rows.length = true := bltT hj
  rw [evCallT_eq (F := ir47) rfl rfl rfl]
  unfold ir47
  rw [bodyK_eq]
  simp only [enter_eq, ev_seq, seqK_norm, seqK_exit, seqK_ret, ev_reg, ev_cond, condK_true, condK_false, ev_block, blockK_norm, blockK_ret, blockK_exit, ev_loop, ev_skip, ev_exit, ev_ret, regK_cons, regK_nil, guard_none, guard_some, regG_true, regG_false, regO_some, op_mov, op_conv, op_bin, op_bsl, op_box, op_mks, op_s2b, op_pick, op_un, op_eq, op_len, op_ext, op_load, op_iaddr, op_slice, op_b2s, op_idxS, op_mx, op_mn, op_call, op_store, op_app, op_copy, args_eq, result_one', rv_loc, finish_norm, finish_ret, outK_some, keep_true, keep_false, keep_nil, p_bin, p_pick, p_un, p_eq, p_conv, evNew, pureK_some, newK_some, X.eval, set_none, set_some, List.map_cons, List.map_nil, List.getD_cons_zero, List.getD_cons_succ, List.getD_nil, List.set_cons_zero, List.set_cons_succ, binCV, unCV, isShift, intArithF_eq, shiftF_eq, wrapF_eq, intArith, shift, eqVal, bound, asNat_cast, cond_true, cond_false, BEq.rfl, beq_self_eq_true, evalParts, fillParts, AV.cells, AV.ofCells, XV.av, AV.xv, List.length_cons, List.length_nil, zeros, patch, setMany, List.nil_append, List.cons_append, Nat.ble, Nat.add_eq, Nat.zero_add, Nat.add_zero, Nat.reduceAdd, Nat.reduceMul, Nat.reduceSub, Nat.ble_eq, Nat.reduceLeDiff, Nat.reduceBEq, Int.reduceBEq, Int.reduceNeg, Bool.and_true, Bool.and_false, Bool.true_and, Bool.false_and, Bool.not_true, Bool.not_false, Bool.true_eq_false, Bool.false_eq_true, Int.reduceLT, Int.reduceLE, Int.reduceGT, Int.reduceGE, decide_true, decide_false, Bool.not_eq_true, loopN_norm, loopN_exit, tf, ft, ff, c1, c2, op_nilchk, p_nilchk, op_faddr, p_faddr, p_iaddr, p_load, t.r0, t.r1 hj, m1, Nat.mul_one, AV.ofCells, ll]
theorem of_out (t : HB h p b bs rows) {c : Int} (hc : ¬ (0 ≤ c ∧ c < (rows.length : Int))) : evCallT table 14 N (d + 1) 47 [.c (.ptr p 0), .c (.int .i64 c)] h = some (.c .nils, h) := by
  have ll : ∀ loc vals h', evPure loc (.c (.sl b 0 rows.length (.dy 1)) :: vals) h' (.len .sl (.val 0)) = some (.c (.int .i64 (rows.length : Int))) := fun _ _ _ => rfl
  rw [evCallT_eq (F := ir47) rfl rfl rfl]
  unfold ir47
  rw [bodyK_eq]
  by_cases c1 : c < 0
  · simp only [enter_eq, ev_seq, seqK_norm, seqK_exit, seqK_ret, ev_reg, ev_cond, condK_true, condK_false, ev_block, blockK_norm, blockK_ret, blockK_exit, ev_loop, ev_skip, ev_exit, ev_ret, regK_cons, regK_nil, guard_none, guard_some, regG_true, regG_false, regO_some, op_mov, op_conv, op_bin, op_bsl, op_box, op_mks, op_s2b, op_pick, op_un, op_eq, op_len, op_ext, op_load, op_iaddr, op_slice, op_b2s, op_idxS, op_mx, op_mn, op_call, op_store, op_app, op_copy, args_eq, result_one', rv_loc, finish_norm, finish_ret, outK_some, keep_true, keep_false, keep_nil, p_bin, p_pick, p_un, p_eq, p_conv, evNew, pureK_some, newK_some, X.eval, set_none, set_some, List.map_cons, List.map_nil, List.getD_cons_zero, List.getD_cons_succ, List.getD_nil, List.set_cons_zero, List.set_cons_succ, binCV, unCV, isShift, intArithF_eq, shiftF_eq, wrapF_eq, intArith, shift, eqVal, bound, asNat_cast, cond_true, cond_false, BEq.rfl, beq_self_eq_true, evalParts, fillParts, AV.cells, AV.ofCells, XV.av, AV.xv, List.length_cons, List.length_nil, zeros, patch, setMany, List.nil_append, List.cons_append, Nat.ble, Nat.add_eq, Nat.zero_add, Nat.add_zero, Nat.reduceAdd, Nat.reduceMul, Nat.reduceSub, Nat.ble_eq, Nat.reduceLeDiff, Nat.reduceBEq, Int.reduceBEq, Int.reduceNeg, Bool.and_true, Bool.and_false, Bool.true_and, Bool.false_and, Bool.not_true, Bool.not_false, Bool.true_eq_false, Bool.false_eq_true, Int.reduceLT, Int.reduceLE, Int.reduceGT, Int.reduceGE, decide_true, decide_false, Bool.not_eq_true, loopN_norm, loopN_exit, tf, ft, ff, decide_eq_true c1]
  · have c2 : decide (c ≥ (rows.length : Int)) = true := decide_eq_true (by omega)
    simp only [enter_eq, ev_seq, seqK_norm, seqK_exit, seqK_ret, ev_reg, ev_cond, condK_true, condK_false, ev_block, blockK_norm, blockK_ret, blockK_exit, ev_loop, ev_skip, ev_exit, ev_ret, regK_cons, regK_nil, guard_none, guard_some, regG_true, regG_false, regO_some, op_mov, op_conv, op_bin, op_bsl, op_box, op_mks, op_s2b, op_pick, op_un, op_eq, op_len, op_ext, op_load, op_iaddr, op_slice, op_b2s, op_idxS, op_mx, op_mn, op_call, op_store, op_app, op_copy, args_eq, result_one', rv_loc, finish_norm, finish_ret, outK_some, keep_true, keep_false, keep_nil, p_bin, p_pick, p_un, p_eq, p_conv, evNew, pureK_some, newK_some, X.eval, set_none, set_some, List.map_cons, List.map_nil, List.getD_cons_zero, List.getD_cons_succ, List.getD_nil, List.set_cons_zero, List.set_cons_succ, binCV, unCV, isShift, intArithF_eq, shiftF_eq, wrapF_eq, intArith, shift, eqVal, bound, asNat_cast, cond_true, cond_false, BEq.rfl, beq_self_eq_true, evalParts, fillParts, AV.cells, AV.ofCells, XV.av, AV.xv, List.length_cons, List.length_nil, zeros, patch, setMany, List.nil_append, List.cons_append, Nat.ble, Nat.add_eq, Nat.zero_add, Nat.add_zero, Nat.reduceAdd, Nat.reduceMul, Nat.reduceSub, Nat.ble_eq, Nat.reduceLeDiff, Nat.reduceBEq, Int.reduceBEq, Int.reduceNeg, Bool.and_true, Bool.and_false, Bool.true_and, Bool.false_and, Bool.not_true, Bool.not_false, Bool.true_eq_false, Bool.false_eq_true, Int.reduceLT, Int.reduceLE, Int.reduceGT, Int.reduceGE, decide_true, decide_false, Bool.not_eq_true, loopN_norm, loopN_exit, tf, ft, ff, decide_eq_false c1, c2, op_nilchk, p_nilchk, op_faddr, p_faddr, p_load, t.r0, AV.ofCells, ll]

theorem index_ok {y : CV} {o : List Int} (hy : Ints h y o) (x : Int) (hN : o.length + 2 ≤ N) (hl : o.length < 1000000) :
    evCallT table 14 N (d + 1) 48 [.c y, .c (.int .i64 x)] h = some (.c (.int .i64 (placeOf o x)), h) := by
  have lx : ∀ (loc vals : List AV) (h : Heap), evPure loc (.c y :: vals) h (.len .sl (.val 0)) = some (.c (.int .i64 (o.length : Int))) := fun _ _ _ => hy.len rfl
  rw [evCallT_eq (F := ir48) rfl rfl rfl]
  unfold ir48
  rw [bodyK_eq]
  have L : ∀ loc, keepOnly ir48_k0 loc = [.c y, .c (.int .i64 x), .junk, .junk, .c (.int .i64 (o.length : Int)), .c (.int .i64 0), .junk, .junk] →
      ∃ r, loopK (evCallT table 14 N d) N ir48_k0 ir48_l0 N loc h = some r ∧ ((placeOf o x = -1 ∧ ∃ a0 a1 a2 l, r = (.exit 0, a0 :: a1 :: a2 :: l, h)) ∨ ∃ a0 a1 l, r = (.ret, a0 :: a1 :: .c (.int .i64 (placeOf o x)) :: l, h)) := by
    intro loc hloc
    refine loop_inv (n := o.length) (fun i loc h' => h' = h ∧ x ∉ o.take i ∧ loc = [.c y, .c (.int .i64 x), .junk, .junk, .c (.int .i64 (o.length : Int)), .c (.int .i64 (i : Int)), .junk, .junk]) _ ?_ ⟨rfl, by simp, hloc⟩ (by omega)
    rintro i loc h' hi ⟨rfl, hno, rfl⟩
    unfold ir48_l0
    by_cases hlt : i < o.length
    · have v1 : decide ((i : Int) < (o.length : Int)) = true := ltNat hlt
      have v2 := succI (i := i) (by omega)
      obtain ⟨b, o', c, rfl, _, rx⟩ := hy.sl (by omega)
      have m1 : Nat.blt i o.length = true := bltT hlt
      have k1 := rx i hlt
      by_cases e : o[i] = x
      · right
        have q1 : (x == o[i]) = true := by simp [e]
        have hp := placeOf_first hlt e hno
        simp only [enter_eq, ev_seq, seqK_norm, seqK_exit, seqK_ret, ev_reg, ev_cond, condK_true, condK_false, ev_block, blockK_norm, blockK_ret, blockK_exit, ev_loop, ev_skip, ev_exit, ev_ret, regK_cons, regK_nil, guard_none, guard_some, regG_true, regG_false, regO_some, op_mov, op_conv, op_bin, op_bsl, op_box, op_mks, op_s2b, op_pick, op_un, op_eq, op_len, op_ext, op_load, op_iaddr, op_slice, op_b2s, op_idxS, op_mx, op_mn, op_call, op_store, op_app, op_copy, args_eq, result_one', rv_loc, finish_norm, finish_ret, outK_some, keep_true, keep_false, keep_nil, p_bin, p_pick, p_un, p_eq, p_conv, evNew, pureK_some, newK_some, X.eval, set_none, set_some, List.map_cons, List.map_nil, List.getD_cons_zero, List.getD_cons_succ, List.getD_nil, List.set_cons_zero, List.set_cons_succ, binCV, unCV, isShift, intArithF_eq, shiftF_eq, wrapF_eq, intArith, shift, eqVal, bound, asNat_cast, cond_true, cond_false, BEq.rfl, beq_self_eq_true, evalParts, fillParts, AV.cells, AV.ofCells, XV.av, AV.xv, List.length_cons, List.length_nil, zeros, patch, setMany, List.nil_append, List.cons_append, Nat.ble, Nat.add_eq, Nat.zero_add, Nat.add_zero, Nat.reduceAdd, Nat.reduceMul, Nat.reduceSub, Nat.ble_eq, Nat.reduceLeDiff, Nat.reduceBEq, Int.reduceBEq, Int.reduceNeg, Bool.and_true, Bool.and_false, Bool.true_and, Bool.false_and, Bool.not_true, Bool.not_false, Bool.true_eq_false, Bool.false_eq_true, Int.reduceLT, Int.reduceLE, Int.reduceGT, Int.reduceGE, decide_true, decide_false, Bool.not_eq_true, loopN_norm, loopN_exit, tf, ft, ff, lx, v1, p_iaddr, p_load, AV.ofCells, m1, Nat.mul_one, k1, q1]
        exact ⟨_, rfl, by simp, .inr ⟨_, _, _, by rw [hp]⟩⟩
      · left
        refine ⟨hlt, ?_⟩
        have q1 : (x == o[i]) = false := by simp; exact fun e' => e e'.symm
        simp only [enter_eq, ev_seq, seqK_norm, seqK_exit, seqK_ret, ev_reg, ev_cond, condK_true, condK_false, ev_block, blockK_norm, blockK_ret, blockK_exit, ev_loop, ev_skip, ev_exit, ev_ret, regK_cons, regK_nil, guard_none, guard_some, regG_true, regG_false, regO_some, op_mov, op_conv, op_bin, op_bsl, op_box, op_mks, op_s2b, op_pick, op_un, op_eq, op_len, op_ext, op_load, op_iaddr, op_slice, op_b2s, op_idxS, op_mx, op_mn, op_call, op_store, op_app, op_copy, args_eq, result_one', rv_loc, finish_norm, finish_ret, outK_some, keep_true, keep_false, keep_nil, p_bin, p_pick, p_un, p_eq, p_conv, evNew, pureK_some, newK_some, X.eval, set_none, set_some, List.map_cons, List.map_nil, List.getD_cons_zero, List.getD_cons_succ, List.getD_nil, List.set_cons_zero, List.set_cons_succ, binCV, unCV, isShift, intArithF_eq, shiftF_eq, wrapF_eq, intArith, shift, eqVal, bound, asNat_cast, cond_true, cond_false, BEq.rfl, beq_self_eq_true, evalParts, fillParts, AV.cells, AV.ofCells, XV.av, AV.xv, List.length_cons, List.length_nil, zeros, patch, setMany, List.nil_append, List.cons_append, Nat.ble, Nat.add_eq, Nat.zero_add, Nat.add_zero, Nat.reduceAdd, Nat.reduceMul, Nat.reduceSub, Nat.ble_eq, Nat.reduceLeDiff, Nat.reduceBEq, Int.reduceBEq, Int.reduceNeg, Bool.and_true, Bool.and_false, Bool.true_and, Bool.false_and, Bool.not_true, Bool.not_false, Bool.true_eq_false, Bool.false_eq_true, Int.reduceLT, Int.reduceLE, Int.reduceGT, Int.reduceGE, decide_true, decide_false, Bool.not_eq_true, loopN_norm, loopN_exit, tf, ft, ff, lx, v1, v2, p_iaddr, p_load, AV.ofCells, m1, Nat.mul_one, k1, q1]
        refine ⟨_, _, rfl, rfl, ?_, rfl⟩
        rw [List.take_succ_eq_append_getElem hlt]
        simp only [List.mem_append, List.mem_singleton, not_or]
        exact ⟨hno, fun e' => e e'.symm⟩
    · right
      have hin : i = o.length := by omega
      subst hin
      rw [List.take_length] at hno
      have v1 : decide ((o.length : Int) < (o.length : Int)) = false := geNat (Nat.le_refl _)
      simp only [enter_eq, ev_seq, seqK_norm, seqK_exit, seqK_ret, ev_reg, ev_cond, condK_true, condK_false, ev_block, blockK_norm, blockK_ret, blockK_exit, ev_loop, ev_skip, ev_exit, ev_ret, regK_cons, regK_nil, guard_none, guard_some, regG_true, regG_false, regO_some, op_mov, op_conv, op_bin, op_bsl, op_box, op_mks, op_s2b, op_pick, op_un, op_eq, op_len, op_ext, op_load, op_iaddr, op_slice, op_b2s, op_idxS, op_mx, op_mn, op_call, op_store, op_app, op_copy, args_eq, result_one', rv_loc, finish_norm, finish_ret, outK_some, keep_true, keep_false, keep_nil, p_bin, p_pick, p_un, p_eq, p_conv, evNew, pureK_some, newK_some, X.eval, set_none, set_some, List.map_cons, List.map_nil, List.getD_cons_zero, List.getD_cons_succ, List.getD_nil, List.set_cons_zero, List.set_cons_succ, binCV, unCV, isShift, intArithF_eq, shiftF_eq, wrapF_eq, intArith, shift, eqVal, bound, asNat_cast, cond_true, cond_false, BEq.rfl, beq_self_eq_true, evalParts, fillParts, AV.cells, AV.ofCells, XV.av, AV.xv, List.length_cons, List.length_nil, zeros, patch, setMany, List.nil_append, List.cons_append, Nat.ble, Nat.add_eq, Nat.zero_add, Nat.add_zero, Nat.reduceAdd, Nat.reduceMul, Nat.reduceSub, Nat.ble_eq, Nat.reduceLeDiff, Nat.reduceBEq, Int.reduceBEq, Int.reduceNeg, Bool.and_true, Bool.and_false, Bool.true_and, Bool.false_and, Bool.not_true, Bool.not_false, Bool.true_eq_false, Bool.false_eq_true, Int.reduceLT, Int.reduceLE, Int.reduceGT, Int.reduceGE, decide_true, decide_false, Bool.not_eq_true, loopN_norm, loopN_exit, tf, ft, ff, lx, v1]
      exact ⟨_, rfl, by simp, .inl ⟨placeOf_not hno, _, _, _, _, rfl⟩⟩
  obtain ⟨r, hr, ⟨hm, a0, a1, a2, l, rfl⟩ | ⟨a0, a1, l, rfl⟩⟩ := L [.c y, .c (.int .i64 x), .c (.int .i64 0), .tup [], .c (.int .i64 (o.length : Int)), .c (.int .i64 0), .tup [], .tup []] rfl
  · simp only [enter_eq, ev_seq, seqK_norm, seqK_exit, seqK_ret, ev_reg, ev_cond, condK_true, condK_false, ev_block, blockK_norm, blockK_ret, blockK_exit, ev_loop, ev_skip, ev_exit, ev_ret, regK_cons, regK_nil, guard_none, guard_some, regG_true, regG_false, regO_some, op_mov, op_conv, op_bin, op_bsl, op_box, op_mks, op_s2b, op_pick, op_un, op_eq, op_len, op_ext, op_load, op_iaddr, op_slice, op_b2s, op_idxS, op_mx, op_mn, op_call, op_store, op_app, op_copy, args_eq, result_one', rv_loc, finish_norm, finish_ret, outK_some, keep_true, keep_false, keep_nil, p_bin, p_pick, p_un, p_eq, p_conv, evNew, pureK_some, newK_some, X.eval, set_none, set_some, List.map_cons, List.map_nil, List.getD_cons_zero, List.getD_cons_succ, List.getD_nil, List.set_cons_zero, List.set_cons_succ, binCV, unCV, isShift, intArithF_eq, shiftF_eq, wrapF_eq, intArith, shift, eqVal, bound, asNat_cast, cond_true, cond_false, BEq.rfl, beq_self_eq_true, evalParts, fillParts, AV.cells, AV.ofCells, XV.av, AV.xv, List.length_cons, List.length_nil, zeros, patch, setMany, List.nil_append, List.cons_append, Nat.ble, Nat.add_eq, Nat.zero_add, Nat.add_zero, Nat.reduceAdd, Nat.reduceMul, Nat.reduceSub, Nat.ble_eq, Nat.reduceLeDiff, Nat.reduceBEq, Int.reduceBEq, Int.reduceNeg, Bool.and_true, Bool.and_false, Bool.true_and, Bool.false_and, Bool.not_true, Bool.not_false, Bool.true_eq_false, Bool.false_eq_true, Int.reduceLT, Int.reduceLE, Int.reduceGT, Int.reduceGE, decide_true, decide_false, Bool.not_eq_true, loopN_norm, loopN_exit, tf, ft, ff, lx, hr, blockK_exit_eq, hm]
  · simp only [enter_eq, ev_seq, seqK_norm, seqK_exit, seqK_ret, ev_reg, ev_cond, condK_true, condK_false, ev_block, blockK_norm, blockK_ret, blockK_exit, ev_loop, ev_skip, ev_exit, ev_ret, regK_cons, regK_nil, guard_none, guard_some, regG_true, regG_false, regO_some, op_mov, op_conv, op_bin, op_bsl, op_box, op_mks, op_s2b, op_pick, op_un, op_eq, op_len, op_ext, op_load, op_iaddr, op_slice, op_b2s, op_idxS, op_mx, op_mn, op_call, op_store, op_app, op_copy, args_eq, result_one', rv_loc, finish_norm, finish_ret, outK_some, keep_true, keep_false, keep_nil, p_bin, p_pick, p_un, p_eq, p_conv, evNew, pureK_some, newK_some, X.eval, set_none, set_some, List.map_cons, List.map_nil, List.getD_cons_zero, List.getD_cons_succ, List.getD_nil, List.set_cons_zero, List.set_cons_succ, binCV, unCV, isShift, intArithF_eq, shiftF_eq, wrapF_eq, intArith, shift, eqVal, bound, asNat_cast, cond_true, cond_false, BEq.rfl, beq_self_eq_true, evalParts, fillParts, AV.cells, AV.ofCells, XV.av, AV.xv, List.length_cons, List.length_nil, zeros, patch, setMany, List.nil_append, List.cons_append, Nat.ble, Nat.add_eq, Nat.zero_add, Nat.add_zero, Nat.reduceAdd, Nat.reduceMul, Nat.reduceSub, Nat.ble_eq, Nat.reduceLeDiff, Nat.reduceBEq, Int.reduceBEq, Int.reduceNeg, Bool.and_true, Bool.and_false, Bool.true_and, Bool.false_and, Bool.not_true, Bool.not_false, Bool.true_eq_false, Bool.false_eq_true, Int.reduceLT, Int.reduceLE, Int.reduceGT, Int.reduceGE, decide_true, decide_false, Bool.not_eq_true, loopN_norm, loopN_exit, tf, ft, ff, lx, hr, blockK_ret]

theorem give_out (t : HB h p b bs rows) {c : Int} (g : Int) (hc : ¬ (0 ≤ c ∧ c < (rows.length : Int))) (hN : 10 ≤ N) : evCallT table 14 N (d + 2) 12 [.c (.ptr p 0), .c (.int .i64 c), .c (.int .i64 g)] h = some (.c (.int .i64 (-1)), h) := by
  have e1 := of_out (N := N) (d := d) t hc
  have e2 : evCallT table 14 N (d + 1) 48 [.c .nils, .c (.int .i64 (-1))] h = some (.c (.int .i64 (-1)), h) := index_ok (N := N) (d := d) (.inl ⟨rfl, rfl⟩) (-1) (by simp; omega) (by simp)
  rw [evCallT_eq (F := ir12) rfl rfl rfl]
  unfold ir12
  rw [bodyK_eq]
  simp only [enter_eq, ev_seq, seqK_norm, seqK_exit, seqK_ret, ev_reg, ev_cond, condK_true, condK_false, ev_block, blockK_norm, blockK_ret, blockK_exit, ev_loop, ev_skip, ev_exit, ev_ret, regK_cons, regK_nil, guard_none, guard_some, regG_true, regG_false, regO_some, op_mov, op_conv, op_bin, op_bsl, op_box, op_mks, op_s2b, op_pick, op_un, op_eq, op_len, op_ext, op_load, op_iaddr, op_slice, op_b2s, op_idxS, op_mx, op_mn, op_call, op_store, op_app, op_copy, args_eq, result_one', rv_loc, finish_norm, finish_ret, outK_some, keep_true, keep_false, keep_nil, p_bin, p_pick, p_un, p_eq, p_conv, evNew, pureK_some, newK_some, X.eval, set_none, set_some, List.map_cons, List.map_nil, List.getD_cons_zero, List.getD_cons_succ, List.getD_nil, List.set_cons_zero, List.set_cons_succ, binCV, unCV, isShift, intArithF_eq, shiftF_eq, wrapF_eq, intArith, shift, eqVal, bound, asNat_cast, cond_true, cond_false, BEq.rfl, beq_self_eq_true, evalParts, fillParts, AV.cells, AV.ofCells, XV.av, AV.xv, List.length_cons, List.length_nil, zeros, patch, setMany, List.nil_append, List.cons_append, Nat.ble, Nat.add_eq, Nat.zero_add, Nat.add_zero, Nat.reduceAdd, Nat.reduceMul, Nat.reduceSub, Nat.ble_eq, Nat.reduceLeDiff, Nat.reduceBEq, Int.reduceBEq, Int.reduceNeg, Bool.and_true, Bool.and_false, Bool.true_and, Bool.false_and, Bool.not_true, Bool.not_false, Bool.true_eq_false, Bool.false_eq_true, Int.reduceLT, Int.reduceLE, Int.reduceGT, Int.reduceGE, decide_true, decide_false, Bool.not_eq_true, loopN_norm, loopN_exit, tf, ft, ff, e1, e2]

/-- Whom a page is given to. -/
def giveM (rows : List (List Int)) (j : Nat) (g : Int) : Int × List (List Int) :=
  let r := rows.getD j []
  if 0 ≤ placeOf r (-1) ∧ 0 ≤ g then (placeOf r (-1), rows.set j (r.set (placeOf r (-1)).toNat g)) else (-1, rows)

theorem give_in (t : HB h p b bs rows) {j : Nat} (hj : j < rows.length) (g : Int) (hN : 10 ≤ N) : ∃ h', evCallT table 14 N (d + 2) 12 [.c (.ptr p 0), .c (.int .i64 (j : Int)), .c (.int .i64 g)] h = some (.c (.int .i64 (giveM rows j g).1), h') ∧ HB h' p b bs (giveM rows j g).2 ∧ ExtB bs h h' := by
  have e1 := of_in (N := N) (d := d) t hj
  have e2 := index_ok (N := N) (d := d) (t.ints hj) (-1) (by rw [t.len6 hj]; omega) (by rw [t.len6 hj]; omega)
  have hr : rows.getD j [] = rows[j] := by simp [List.getD_eq_getElem?_getD, hj]
  unfold giveM
  simp only [hr]
  rw [evCallT_eq (F := ir12) rfl rfl rfl]
  unfold ir12
  rw [bodyK_eq]
  by_cases hm : (-1 : Int) ∈ rows[j]
  · obtain ⟨k, hp, hk, _⟩ := placeOf_mem hm
    rw [hp] at e2 ⊢
    have hk6 : k < 6 := by rw [t.len6 hj] at hk; exact hk
    have m1 : Nat.blt k 6 = true := bltT hk6
    have c1 : decide ((k : Int) ≥ 0) = true := decide_eq_true (by omega)
    by_cases hg : 0 ≤ g
    · obtain ⟨W, t', x'⟩ := t.put hj hk6 g
      rw [if_pos ⟨by omega, hg⟩]
      simp only [enter_eq, ev_seq, seqK_norm, seqK_exit, seqK_ret, ev_reg, ev_cond, condK_true, condK_false, ev_block, blockK_norm, blockK_ret, blockK_exit, ev_loop, ev_skip, ev_exit, ev_ret, regK_cons, regK_nil, guard_none, guard_some, regG_true, regG_false, regO_some, op_mov, op_conv, op_bin, op_bsl, op_box, op_mks, op_s2b, op_pick, op_un, op_eq, op_len, op_ext, op_load, op_iaddr, op_slice, op_b2s, op_idxS, op_mx, op_mn, op_call, op_store, op_app, op_copy, args_eq, result_one', rv_loc, finish_norm, finish_ret, outK_some, keep_true, keep_false, keep_nil, p_bin, p_pick, p_un, p_eq, p_conv, evNew, pureK_some, newK_some, X.eval, set_none, set_some, List.map_cons, List.map_nil, List.getD_cons_zero, List.getD_cons_succ, List.getD_nil, List.set_cons_zero, List.set_cons_succ, binCV, unCV, isShift, intArithF_eq, shiftF_eq, wrapF_eq, intArith, shift, eqVal, bound, asNat_cast, cond_true, cond_false, BEq.rfl, beq_self_eq_true, evalParts, fillParts, AV.cells, AV.ofCells, XV.av, AV.xv, List.length_cons, List.length_nil, zeros, patch, setMany, List.nil_append, List.cons_append, Nat.ble, Nat.add_eq, Nat.zero_add, Nat.add_zero, Nat.reduceAdd, Nat.reduceMul, Nat.reduceSub, Nat.ble_eq, Nat.reduceLeDiff, Nat.reduceBEq, Int.reduceBEq, Int.reduceNeg, Bool.and_true, Bool.and_false, Bool.true_and, Bool.false_and, Bool.not_true, Bool.not_false, Bool.true_eq_false, Bool.false_eq_true, Int.reduceLT, Int.reduceLE, Int.reduceGT, Int.reduceGE, decide_true, decide_false, Bool.not_eq_true, loopN_norm, loopN_exit, tf, ft, ff, e1, e2, c1, decide_eq_true (show g ≥ 0 from hg), p_iaddr, m1, Nat.mul_one, evEff, W]
      exact ⟨_, rfl, by simpa using t', x'⟩
    · rw [if_neg (fun h => hg h.2)]
      simp only [enter_eq, ev_seq, seqK_norm, seqK_exit, seqK_ret, ev_reg, ev_cond, condK_true, condK_false, ev_block, blockK_norm, blockK_ret, blockK_exit, ev_loop, ev_skip, ev_exit, ev_ret, regK_cons, regK_nil, guard_none, guard_some, regG_true, regG_false, regO_some, op_mov, op_conv, op_bin, op_bsl, op_box, op_mks, op_s2b, op_pick, op_un, op_eq, op_len, op_ext, op_load, op_iaddr, op_slice, op_b2s, op_idxS, op_mx, op_mn, op_call, op_store, op_app, op_copy, args_eq, result_one', rv_loc, finish_norm, finish_ret, outK_some, keep_true, keep_false, keep_nil, p_bin, p_pick, p_un, p_eq, p_conv, evNew, pureK_some, newK_some, X.eval, set_none, set_some, List.map_cons, List.map_nil, List.getD_cons_zero, List.getD_cons_succ, List.getD_nil, List.set_cons_zero, List.set_cons_succ, binCV, unCV, isShift, intArithF_eq, shiftF_eq, wrapF_eq, intArith, shift, eqVal, bound, asNat_cast, cond_true, cond_false, BEq.rfl, beq_self_eq_true, evalParts, fillParts, AV.cells, AV.ofCells, XV.av, AV.xv, List.length_cons, List.length_nil, zeros, patch, setMany, List.nil_append, List.cons_append, Nat.ble, Nat.add_eq, Nat.zero_add, Nat.add_zero, Nat.reduceAdd, Nat.reduceMul, Nat.reduceSub, Nat.ble_eq, Nat.reduceLeDiff, Nat.reduceBEq, Int.reduceBEq, Int.reduceNeg, Bool.and_true, Bool.and_false, Bool.true_and, Bool.false_and, Bool.not_true, Bool.not_false, Bool.true_eq_false, Bool.false_eq_true, Int.reduceLT, Int.reduceLE, Int.reduceGT, Int.reduceGE, decide_true, decide_false, Bool.not_eq_true, loopN_norm, loopN_exit, tf, ft, ff, e1, e2, c1, decide_eq_false (show ¬ g ≥ 0 from hg)]
      exact ⟨_, rfl, t, ExtB.refl _ _⟩
  · rw [placeOf_not hm] at e2 ⊢
    rw [if_neg (by omega)]
    simp only [enter_eq, ev_seq, seqK_norm, seqK_exit, seqK_ret, ev_reg, ev_cond, condK_true, condK_false, ev_block, blockK_norm, blockK_ret, blockK_exit, ev_loop, ev_skip, ev_exit, ev_ret, regK_cons, regK_nil, guard_none, guard_some, regG_true, regG_false, regO_some, op_mov, op_conv, op_bin, op_bsl, op_box, op_mks, op_s2b, op_pick, op_un, op_eq, op_len, op_ext, op_load, op_iaddr, op_slice, op_b2s, op_idxS, op_mx, op_mn, op_call, op_store, op_app, op_copy, args_eq, result_one', rv_loc, finish_norm, finish_ret, outK_some, keep_true, keep_false, keep_nil, p_bin, p_pick, p_un, p_eq, p_conv, evNew, pureK_some, newK_some, X.eval, set_none, set_some, List.map_cons, List.map_nil, List.getD_cons_zero, List.getD_cons_succ, List.getD_nil, List.set_cons_zero, List.set_cons_succ, binCV, unCV, isShift, intArithF_eq, shiftF_eq, wrapF_eq, intArith, shift, eqVal, bound, asNat_cast, cond_true, cond_false, BEq.rfl, beq_self_eq_true, evalParts, fillParts, AV.cells, AV.ofCells, XV.av, AV.xv, List.length_cons, List.length_nil, zeros, patch, setMany, List.nil_append, List.cons_append, Nat.ble, Nat.add_eq, Nat.zero_add, Nat.add_zero, Nat.reduceAdd, Nat.reduceMul, Nat.reduceSub, Nat.ble_eq, Nat.reduceLeDiff, Nat.reduceBEq, Int.reduceBEq, Int.reduceNeg, Bool.and_true, Bool.and_false, Bool.true_and, Bool.false_and, Bool.not_true, Bool.not_false, Bool.true_eq_false, Bool.false_eq_true, Int.reduceLT, Int.reduceLE, Int.reduceGT, Int.reduceGE, decide_true, decide_false, Bool.not_eq_true, loopN_norm, loopN_exit, tf, ft, ff, e1, e2]
    exact ⟨_, rfl, t, ExtB.refl _ _⟩

/-- A handle's page. -/
def pageM (rows : List (List Int)) (c k : Int) : Int := if 0 ≤ c ∧ 0 ≤ k then (rows.getD c.toNat []).getD k.toNat (-1) else -1

theorem page_ok (t : HB h p b bs rows) (c k : Int) : evCallT table 14 N (d + 2) 15 [.c (.ptr p 0), .c (.int .i64 c), .c (.int .i64 k)] h = some (.c (.int .i64 (pageM rows c k)), h) := by
  rw [evCallT_eq (F := ir15) rfl rfl rfl]
  unfold ir15
  rw [bodyK_eq]
  unfold pageM
  by_cases hc : 0 ≤ c ∧ c < (rows.length : Int)
  · obtain ⟨j, rfl⟩ : ∃ j : Nat, c = (j : Int) := ⟨c.toNat, by omega⟩
    have hj : j < rows.length := by omega
    have e1 := of_in (N := N) (d := d) t hj
    have hr : rows.getD j [] = rows[j] := by simp [List.getD_eq_getElem?_getD, hj]
    by_cases h0 : k < 0
    · rw [if_neg (by omega)]
      simp only [enter_eq, ev_seq, seqK_norm, seqK_exit, seqK_ret, ev_reg, ev_cond, condK_true, condK_false, ev_block, blockK_norm, blockK_ret, blockK_exit, ev_loop, ev_skip, ev_exit, ev_ret, regK_cons, regK_nil, guard_none, guard_some, regG_true, regG_false, regO_some, op_mov, op_conv, op_bin, op_bsl, op_box, op_mks, op_s2b, op_pick, op_un, op_eq, op_len, op_ext, op_load, op_iaddr, op_slice, op_b2s, op_idxS, op_mx, op_mn, op_call, op_store, op_app, op_copy, args_eq, result_one', rv_loc, finish_norm, finish_ret, outK_some, keep_true, keep_false, keep_nil, p_bin, p_pick, p_un, p_eq, p_conv, evNew, pureK_some, newK_some, X.eval, set_none, set_some, List.map_cons, List.map_nil, List.getD_cons_zero, List.getD_cons_succ, List.getD_nil, List.set_cons_zero, List.set_cons_succ, binCV, unCV, isShift, intArithF_eq, shiftF_eq, wrapF_eq, intArith, shift, eqVal, bound, asNat_cast, cond_true, cond_false, BEq.rfl, beq_self_eq_true, evalParts, fillParts, AV.cells, AV.ofCells, XV.av, AV.xv, List.length_cons, List.length_nil, zeros, patch, setMany, List.nil_append, List.cons_append, Nat.ble, Nat.add_eq, Nat.zero_add, Nat.add_zero, Nat.reduceAdd, Nat.reduceMul, Nat.reduceSub, Nat.ble_eq, Nat.reduceLeDiff, Nat.reduceBEq, Int.reduceBEq, Int.reduceNeg, Bool.and_true, Bool.and_false, Bool.true_and, Bool.false_and, Bool.not_true, Bool.not_false, Bool.true_eq_false, Bool.false_eq_true, Int.reduceLT, Int.reduceLE, Int.reduceGT, Int.reduceGE, decide_true, decide_false, Bool.not_eq_true, loopN_norm, loopN_exit, tf, ft, ff, e1, decide_eq_true h0]
    · obtain ⟨i, rfl⟩ : ∃ i : Nat, k = (i : Int) := ⟨k.toNat, by omega⟩
      rw [if_pos ⟨by omega, by omega⟩, Int.toNat_natCast, Int.toNat_natCast, hr]
      have ll : ∀ loc vals h', evPure loc (.c (.sl (bs[j]'(by have := t.bl; omega)) 0 6 (.ex 6)) :: vals) h' (.len .sl (.val 0)) = some (.c (.int .i64 6)) := fun _ _ _ => rfl
      by_cases h6 : i < 6
      · have m1 : Nat.blt i 6 = true := bltT h6
        have c2 : decide ((i : Int) ≥ 6) = false := decide_eq_false (by omega)
        have r2 := t.r2 hj h6
        simp only [enter_eq, ev_seq, seqK_norm, seqK_exit, seqK_ret, ev_reg, ev_cond, condK_true, condK_false, ev_block, blockK_norm, blockK_ret, blockK_exit, ev_loop, ev_skip, ev_exit, ev_ret, regK_cons, regK_nil, guard_none, guard_some, regG_true, regG_false, regO_some, op_mov, op_conv, op_bin, op_bsl, op_box, op_mks, op_s2b, op_pick, op_un, op_eq, op_len, op_ext, op_load, op_iaddr, op_slice, op_b2s, op_idxS, op_mx, op_mn, op_call, op_store, op_app, op_copy, args_eq, result_one', rv_loc, finish_norm, finish_ret, outK_some, keep_true, keep_false, keep_nil, p_bin, p_pick, p_un, p_eq, p_conv, evNew, pureK_some, newK_some, X.eval, set_none, set_some, List.map_cons, List.map_nil, List.getD_cons_zero, List.getD_cons_succ, List.getD_nil, List.set_cons_zero, List.set_cons_succ, binCV, unCV, isShift, intArithF_eq, shiftF_eq, wrapF_eq, intArith, shift, eqVal, bound, asNat_cast, cond_true, cond_false, BEq.rfl, beq_self_eq_true, evalParts, fillParts, AV.cells, AV.ofCells, XV.av, AV.xv, List.length_cons, List.length_nil, zeros, patch, setMany, List.nil_append, List.cons_append, Nat.ble, Nat.add_eq, Nat.zero_add, Nat.add_zero, Nat.reduceAdd, Nat.reduceMul, Nat.reduceSub, Nat.ble_eq, Nat.reduceLeDiff, Nat.reduceBEq, Int.reduceBEq, Int.reduceNeg, Bool.and_true, Bool.and_false, Bool.true_and, Bool.false_and, Bool.not_true, Bool.not_false, Bool.true_eq_false, Bool.false_eq_true, Int.reduceLT, Int.reduceLE, Int.reduceGT, Int.reduceGE, decide_true, decide_false, Bool.not_eq_true, loopN_norm, loopN_exit, tf, ft, ff, e1, decide_eq_false h0, c2, ll, p_iaddr, p_load, m1, Nat.mul_one, r2, AV.ofCells]
        simp [List.getD_eq_getElem?_getD, t.len6 hj, h6]
      · have c2 : decide ((i : Int) ≥ 6) = true := decide_eq_true (by omega)
        simp only [enter_eq, ev_seq, seqK_norm, seqK_exit, seqK_ret, ev_reg, ev_cond, condK_true, condK_false, ev_block, blockK_norm, blockK_ret, blockK_exit, ev_loop, ev_skip, ev_exit, ev_ret, regK_cons, regK_nil, guard_none, guard_some, regG_true, regG_false, regO_some, op_mov, op_conv, op_bin, op_bsl, op_box, op_mks, op_s2b, op_pick, op_un, op_eq, op_len, op_ext, op_load, op_iaddr, op_slice, op_b2s, op_idxS, op_mx, op_mn, op_call, op_store, op_app, op_copy, args_eq, result_one', rv_loc, finish_norm, finish_ret, outK_some, keep_true, keep_false, keep_nil, p_bin, p_pick, p_un, p_eq, p_conv, evNew, pureK_some, newK_some, X.eval, set_none, set_some, List.map_cons, List.map_nil, List.getD_cons_zero, List.getD_cons_succ, List.getD_nil, List.set_cons_zero, List.set_cons_succ, binCV, unCV, isShift, intArithF_eq, shiftF_eq, wrapF_eq, intArith, shift, eqVal, bound, asNat_cast, cond_true, cond_false, BEq.rfl, beq_self_eq_true, evalParts, fillParts, AV.cells, AV.ofCells, XV.av, AV.xv, List.length_cons, List.length_nil, zeros, patch, setMany, List.nil_append, List.cons_append, Nat.ble, Nat.add_eq, Nat.zero_add, Nat.add_zero, Nat.reduceAdd, Nat.reduceMul, Nat.reduceSub, Nat.ble_eq, Nat.reduceLeDiff, Nat.reduceBEq, Int.reduceBEq, Int.reduceNeg, Bool.and_true, Bool.and_false, Bool.true_and, Bool.false_and, Bool.not_true, Bool.not_false, Bool.true_eq_false, Bool.false_eq_true, Int.reduceLT, Int.reduceLE, Int.reduceGT, Int.reduceGE, decide_true, decide_false, Bool.not_eq_true, loopN_norm, loopN_exit, tf, ft, ff, e1, decide_eq_false h0, c2, ll]
        rw [List.getD_eq_getElem?_getD, List.getElem?_eq_none (by rw [t.len6 hj]; omega)]; rfl
  · have e1 := of_out (N := N) (d := d) t hc
    have l0 : ∀ loc vals h', evPure loc (.c .nils :: vals) h' (.len .sl (.val 0)) = some (.c (.int .i64 0)) := fun _ _ _ => rfl
    have hz : (if 0 ≤ c ∧ 0 ≤ k then (rows.getD c.toNat []).getD k.toNat (-1) else -1) = -1 := by
      split
      · rw [List.getD_eq_getElem?_getD (l := rows), List.getElem?_eq_none (by omega)]; rfl
      · rfl
    rw [hz]
    by_cases h0 : k < 0
    · simp only [enter_eq, ev_seq, seqK_norm, seqK_exit, seqK_ret, ev_reg, ev_cond, condK_true, condK_false, ev_block, blockK_norm, blockK_ret, blockK_exit, ev_loop, ev_skip, ev_exit, ev_ret, regK_cons, regK_nil, guard_none, guard_some, regG_true, regG_false, regO_some, op_mov, op_conv, op_bin, op_bsl, op_box, op_mks, op_s2b, op_pick, op_un, op_eq, op_len, op_ext, op_load, op_iaddr, op_slice, op_b2s, op_idxS, op_mx, op_mn, op_call, op_store, op_app, op_copy, args_eq, result_one', rv_loc, finish_norm, finish_ret, outK_some, keep_true, keep_false, keep_nil, p_bin, p_pick, p_un, p_eq, p_conv, evNew, pureK_some, newK_some, X.eval, set_none, set_some, List.map_cons, List.map_nil, List.getD_cons_zero, List.getD_cons_succ, List.getD_nil, List.set_cons_zero, List.set_cons_succ, binCV, unCV, isShift, intArithF_eq, shiftF_eq, wrapF_eq, intArith, shift, eqVal, bound, asNat_cast, cond_true, cond_false, BEq.rfl, beq_self_eq_true, evalParts, fillParts, AV.cells, AV.ofCells, XV.av, AV.xv, List.length_cons, List.length_nil, zeros, patch, setMany, List.nil_append, List.cons_append, Nat.ble, Nat.add_eq, Nat.zero_add, Nat.add_zero, Nat.reduceAdd, Nat.reduceMul, Nat.reduceSub, Nat.ble_eq, Nat.reduceLeDiff, Nat.reduceBEq, Int.reduceBEq, Int.reduceNeg, Bool.and_true, Bool.and_false, Bool.true_and, Bool.false_and, Bool.not_true, Bool.not_false, Bool.true_eq_false, Bool.false_eq_true, Int.reduceLT, Int.reduceLE, Int.reduceGT, Int.reduceGE, decide_true, decide_false, Bool.not_eq_true, loopN_norm, loopN_exit, tf, ft, ff, e1, decide_eq_true h0]
    · have c2 : decide (k ≥ 0) = true := decide_eq_true (by omega)
      simp only [enter_eq, ev_seq, seqK_norm, seqK_exit, seqK_ret, ev_reg, ev_cond, condK_true, condK_false, ev_block, blockK_norm, blockK_ret, blockK_exit, ev_loop, ev_skip, ev_exit, ev_ret, regK_cons, regK_nil, guard_none, guard_some, regG_true, regG_false, regO_some, op_mov, op_conv, op_bin, op_bsl, op_box, op_mks, op_s2b, op_pick, op_un, op_eq, op_len, op_ext, op_load, op_iaddr, op_slice, op_b2s, op_idxS, op_mx, op_mn, op_call, op_store, op_app, op_copy, args_eq, result_one', rv_loc, finish_norm, finish_ret, outK_some, keep_true, keep_false, keep_nil, p_bin, p_pick, p_un, p_eq, p_conv, evNew, pureK_some, newK_some, X.eval, set_none, set_some, List.map_cons, List.map_nil, List.getD_cons_zero, List.getD_cons_succ, List.getD_nil, List.set_cons_zero, List.set_cons_succ, binCV, unCV, isShift, intArithF_eq, shiftF_eq, wrapF_eq, intArith, shift, eqVal, bound, asNat_cast, cond_true, cond_false, BEq.rfl, beq_self_eq_true, evalParts, fillParts, AV.cells, AV.ofCells, XV.av, AV.xv, List.length_cons, List.length_nil, zeros, patch, setMany, List.nil_append, List.cons_append, Nat.ble, Nat.add_eq, Nat.zero_add, Nat.add_zero, Nat.reduceAdd, Nat.reduceMul, Nat.reduceSub, Nat.ble_eq, Nat.reduceLeDiff, Nat.reduceBEq, Int.reduceBEq, Int.reduceNeg, Bool.and_true, Bool.and_false, Bool.true_and, Bool.false_and, Bool.not_true, Bool.not_false, Bool.true_eq_false, Bool.false_eq_true, Int.reduceLT, Int.reduceLE, Int.reduceGT, Int.reduceGE, decide_true, decide_false, Bool.not_eq_true, loopN_norm, loopN_exit, tf, ft, ff, e1, decide_eq_false h0, c2, l0]

/-- What is left when a handle comes back. -/
def backM (rows : List (List Int)) (c k : Int) : List (List Int) := if pageM rows c k = -1 then rows else rows.set c.toNat ((rows.getD c.toNat []).set k.toNat (-1))

theorem page_in {c k : Int} (hp : pageM rows c k ≠ -1) : ∃ j i : Nat, c = (j : Int) ∧ k = (i : Int) ∧ ∃ hj : j < rows.length, ∃ hi : i < rows[j].length, pageM rows c k = rows[j][i] := by
  unfold pageM at hp ⊢
  by_cases hc : 0 ≤ c ∧ 0 ≤ k
  · rw [if_pos hc] at hp ⊢
    obtain ⟨j, rfl⟩ : ∃ j : Nat, c = (j : Int) := ⟨c.toNat, by omega⟩
    obtain ⟨i, rfl⟩ : ∃ i : Nat, k = (i : Int) := ⟨k.toNat, by omega⟩
    rw [Int.toNat_natCast, Int.toNat_natCast] at *
    have hj : j < rows.length := by
      rcases Nat.lt_or_ge j rows.length with h | h
      · exact h
      · rw [List.getD_eq_getElem?_getD (l := rows), List.getElem?_eq_none h] at hp; exact absurd rfl hp
    have hr : rows.getD j [] = rows[j] := by simp [List.getD_eq_getElem?_getD, hj]
    rw [hr] at hp ⊢
    have hi : i < rows[j].length := by
      rcases Nat.lt_or_ge i rows[j].length with h | h
      · exact h
      · rw [List.getD_eq_getElem?_getD, List.getElem?_eq_none h] at hp; exact absurd rfl hp
    exact ⟨j, i, rfl, rfl, hj, hi, by simp [List.getD_eq_getElem?_getD, hi]⟩
  · rw [if_neg hc] at hp; exact absurd rfl hp

theorem back_ok (t : HB h p b bs rows) (c k : Int) : ∃ h', evCallT table 14 N (d + 3) 19 [.c (.ptr p 0), .c (.int .i64 c), .c (.int .i64 k)] h = some (.c (.int .i64 (pageM rows c k)), h') ∧ HB h' p b bs (backM rows c k) ∧ ExtB bs h h' := by
  have bneI : ∀ {a b : Int}, (a != b) = !(a == b) := rfl
  have e1 := page_ok (N := N) (d := d) t c k
  rw [evCallT_eq (F := ir19) rfl rfl rfl]
  unfold ir19
  rw [bodyK_eq]
  unfold backM
  by_cases hp : pageM rows c k = -1
  · rw [if_pos hp]
    rw [hp] at e1 ⊢
    simp only [enter_eq, ev_seq, seqK_norm, seqK_exit, seqK_ret, ev_reg, ev_cond, condK_true, condK_false, ev_block, blockK_norm, blockK_ret, blockK_exit, ev_loop, ev_skip, ev_exit, ev_ret, regK_cons, regK_nil, guard_none, guard_some, regG_true, regG_false, regO_some, op_mov, op_conv, op_bin, op_bsl, op_box, op_mks, op_s2b, op_pick, op_un, op_eq, op_len, op_ext, op_load, op_iaddr, op_slice, op_b2s, op_idxS, op_mx, op_mn, op_call, op_store, op_app, op_copy, args_eq, result_one', rv_loc, finish_norm, finish_ret, outK_some, keep_true, keep_false, keep_nil, p_bin, p_pick, p_un, p_eq, p_conv, evNew, pureK_some, newK_some, X.eval, set_none, set_some, List.map_cons, List.map_nil, List.getD_cons_zero, List.getD_cons_succ, List.getD_nil, List.set_cons_zero, List.set_cons_succ, binCV, unCV, isShift, intArithF_eq, shiftF_eq, wrapF_eq, intArith, shift, eqVal, bound, asNat_cast, cond_true, cond_false, BEq.rfl, beq_self_eq_true, evalParts, fillParts, AV.cells, AV.ofCells, XV.av, AV.xv, List.length_cons, List.length_nil, zeros, patch, setMany, List.nil_append, List.cons_append, Nat.ble, Nat.add_eq, Nat.zero_add, Nat.add_zero, Nat.reduceAdd, Nat.reduceMul, Nat.reduceSub, Nat.ble_eq, Nat.reduceLeDiff, Nat.reduceBEq, Int.reduceBEq, Int.reduceNeg, Bool.and_true, Bool.and_false, Bool.true_and, Bool.false_and, Bool.not_true, Bool.not_false, Bool.true_eq_false, Bool.false_eq_true, Int.reduceLT, Int.reduceLE, Int.reduceGT, Int.reduceGE, decide_true, decide_false, Bool.not_eq_true, loopN_norm, loopN_exit, tf, ft, ff, e1, bneI]
    exact ⟨_, rfl, t, ExtB.refl _ _⟩
  · obtain ⟨j, i, rfl, rfl, hj, hi, hpe⟩ := page_in hp
    have q1 : (pageM rows (j : Int) (i : Int) == -1) = false := by simp [hp]
    have e2 := of_in (N := N) (d := d + 1) t hj
    have hi6 : i < 6 := by rw [t.len6 hj] at hi; exact hi
    have m1 : Nat.blt i 6 = true := bltT hi6
    have hr : rows.getD j [] = rows[j] := by simp [List.getD_eq_getElem?_getD, hj]
    obtain ⟨W, t', x'⟩ := t.put hj hi6 (-1)
    rw [if_neg hp, Int.toNat_natCast, Int.toNat_natCast, hr]
    simp only [enter_eq, ev_seq, seqK_norm, seqK_exit, seqK_ret, ev_reg, ev_cond, condK_true, condK_false, ev_block, blockK_norm, blockK_ret, blockK_exit, ev_loop, ev_skip, ev_exit, ev_ret, regK_cons, regK_nil, guard_none, guard_some, regG_true, regG_false, regO_some, op_mov, op_conv, op_bin, op_bsl, op_box, op_mks, op_s2b, op_pick, op_un, op_eq, op_len, op_ext, op_load, op_iaddr, op_slice, op_b2s, op_idxS, op_mx, op_mn, op_call, op_store, op_app, op_copy, args_eq, result_one', rv_loc, finish_norm, finish_ret, outK_some, keep_true, keep_false, keep_nil, p_bin, p_pick, p_un, p_eq, p_conv, evNew, pureK_some, newK_some, X.eval, set_none, set_some, List.map_cons, List.map_nil, List.getD_cons_zero, List.getD_cons_succ, List.getD_nil, List.set_cons_zero, List.set_cons_succ, binCV, unCV, isShift, intArithF_eq, shiftF_eq, wrapF_eq, intArith, shift, eqVal, bound, asNat_cast, cond_true, cond_false, BEq.rfl, beq_self_eq_true, evalParts, fillParts, AV.cells, AV.ofCells, XV.av, AV.xv, List.length_cons, List.length_nil, zeros, patch, setMany, List.nil_append, List.cons_append, Nat.ble, Nat.add_eq, Nat.zero_add, Nat.add_zero, Nat.reduceAdd, Nat.reduceMul, Nat.reduceSub, Nat.ble_eq, Nat.reduceLeDiff, Nat.reduceBEq, Int.reduceBEq, Int.reduceNeg, Bool.and_true, Bool.and_false, Bool.true_and, Bool.false_and, Bool.not_true, Bool.not_false, Bool.true_eq_false, Bool.false_eq_true, Int.reduceLT, Int.reduceLE, Int.reduceGT, Int.reduceGE, decide_true, decide_false, Bool.not_eq_true, loopN_norm, loopN_exit, tf, ft, ff, e1, e2, bneI, q1, p_iaddr, m1, Nat.mul_one, evEff, W]
    exact ⟨_, rfl, t', x'⟩

theorem contains_ok {y : CV} {o : List Int} (hy : Ints h y o) (x : Int) (hN : o.length + 2 ≤ N) (hl : o.length < 1000000) :
    evCallT table 14 N (d + 2) 50 [.c y, .c (.int .i64 x)] h = some (.c (.bool (decide (x ∈ o))), h) := by
  have e1 := index_ok (N := N) (d := d) hy x hN hl
  have q := place_ge o x
  rw [evCallT_eq (F := ir50) rfl rfl rfl]
  unfold ir50
  rw [bodyK_eq]
  simp only [enter_eq, ev_seq, seqK_norm, seqK_exit, seqK_ret, ev_reg, ev_cond, condK_true, condK_false, ev_block, blockK_norm, blockK_ret, blockK_exit, ev_loop, ev_skip, ev_exit, ev_ret, regK_cons, regK_nil, guard_none, guard_some, regG_true, regG_false, regO_some, op_mov, op_conv, op_bin, op_bsl, op_box, op_mks, op_s2b, op_pick, op_un, op_eq, op_len, op_ext, op_load, op_iaddr, op_slice, op_b2s, op_idxS, op_mx, op_mn, op_call, op_store, op_app, op_copy, args_eq, result_one', rv_loc, finish_norm, finish_ret, outK_some, keep_true, keep_false, keep_nil, p_bin, p_pick, p_un, p_eq, p_conv, evNew, pureK_some, newK_some, X.eval, set_none, set_some, List.map_cons, List.map_nil, List.getD_cons_zero, List.getD_cons_succ, List.getD_nil, List.set_cons_zero, List.set_cons_succ, binCV, unCV, isShift, intArithF_eq, shiftF_eq, wrapF_eq, intArith, shift, eqVal, bound, asNat_cast, cond_true, cond_false, BEq.rfl, beq_self_eq_true, evalParts, fillParts, AV.cells, AV.ofCells, XV.av, AV.xv, List.length_cons, List.length_nil, zeros, patch, setMany, List.nil_append, List.cons_append, Nat.ble, Nat.add_eq, Nat.zero_add, Nat.add_zero, Nat.reduceAdd, Nat.reduceMul, Nat.reduceSub, Nat.ble_eq, Nat.reduceLeDiff, Nat.reduceBEq, Int.reduceBEq, Int.reduceNeg, Bool.and_true, Bool.and_false, Bool.true_and, Bool.false_and, Bool.not_true, Bool.not_false, Bool.true_eq_false, Bool.false_eq_true, Int.reduceLT, Int.reduceLE, Int.reduceGT, Int.reduceGE, decide_true, decide_false, Bool.not_eq_true, loopN_norm, loopN_exit, tf, ft, ff, e1, q]

/-- Whether a client has a handle without a page. -/
def roomM (rows : List (List Int)) (c : Int) : Bool := decide (0 ≤ c ∧ (-1 : Int) ∈ rows.getD c.toNat [])
theorem room_ok (t : HB h p b bs rows) (c : Int) (hN : 10 ≤ N) : evCallT table 14 N (d + 3) 23 [.c (.ptr p 0), .c (.int .i64 c)] h = some (.c (.bool (roomM rows c)), h) := by
  rw [evCallT_eq (F := ir23) rfl rfl rfl]
  unfold ir23
  rw [bodyK_eq]
  unfold roomM
  by_cases hc : 0 ≤ c ∧ c < (rows.length : Int)
  · obtain ⟨j, rfl⟩ : ∃ j : Nat, c = (j : Int) := ⟨c.toNat, by omega⟩
    have hj : j < rows.length := by omega
    have e1 := of_in (N := N) (d := d + 1) t hj
    have hr : rows.getD j [] = rows[j] := by simp [List.getD_eq_getElem?_getD, hj]
    have e2 := contains_ok (N := N) (d := d) (t.ints hj) (-1) (by rw [t.len6 hj]; omega) (by rw [t.len6 hj]; omega)
    rw [Int.toNat_natCast, hr]
    simp only [enter_eq, ev_seq, seqK_norm, seqK_exit, seqK_ret, ev_reg, ev_cond, condK_true, condK_false, ev_block, blockK_norm, blockK_ret, blockK_exit, ev_loop, ev_skip, ev_exit, ev_ret, regK_cons, regK_nil, guard_none, guard_some, regG_true, regG_false, regO_some, op_mov, op_conv, op_bin, op_bsl, op_box, op_mks, op_s2b, op_pick, op_un, op_eq, op_len, op_ext, op_load, op_iaddr, op_slice, op_b2s, op_idxS, op_mx, op_mn, op_call, op_store, op_app, op_copy, args_eq, result_one', rv_loc, finish_norm, finish_ret, outK_some, keep_true, keep_false, keep_nil, p_bin, p_pick, p_un, p_eq, p_conv, evNew, pureK_some, newK_some, X.eval, set_none, set_some, List.map_cons, List.map_nil, List.getD_cons_zero, List.getD_cons_succ, List.getD_nil, List.set_cons_zero, List.set_cons_succ, binCV, unCV, isShift, intArithF_eq, shiftF_eq, wrapF_eq, intArith, shift, eqVal, bound, asNat_cast, cond_true, cond_false, BEq.rfl, beq_self_eq_true, evalParts, fillParts, AV.cells, AV.ofCells, XV.av, AV.xv, List.length_cons, List.length_nil, zeros, patch, setMany, List.nil_append, List.cons_append, Nat.ble, Nat.add_eq, Nat.zero_add, Nat.add_zero, Nat.reduceAdd, Nat.reduceMul, Nat.reduceSub, Nat.ble_eq, Nat.reduceLeDiff, Nat.reduceBEq, Int.reduceBEq, Int.reduceNeg, Bool.and_true, Bool.and_false, Bool.true_and, Bool.false_and, Bool.not_true, Bool.not_false, Bool.true_eq_false, Bool.false_eq_true, Int.reduceLT, Int.reduceLE, Int.reduceGT, Int.reduceGE, decide_true, decide_false, Bool.not_eq_true, loopN_norm, loopN_exit, tf, ft, ff, e1, e2]
    simp
  · have e1 := of_out (N := N) (d := d + 1) t hc
    have e2 : evCallT table 14 N (d + 2) 50 [.c .nils, .c (.int .i64 (-1))] h = some (.c (.bool false), h) := contains_ok (N := N) (d := d) (o := []) (.inl ⟨rfl, rfl⟩) (-1) (by simp; omega) (by simp)
    have hz : decide (0 ≤ c ∧ (-1 : Int) ∈ rows.getD c.toNat []) = false := by
      apply decide_eq_false
      rintro ⟨h0, h1⟩
      rw [List.getD_eq_getElem?_getD, List.getElem?_eq_none (by omega)] at h1
      simp at h1
    rw [hz]
    simp only [enter_eq, ev_seq, seqK_norm, seqK_exit, seqK_ret, ev_reg, ev_cond, condK_true, condK_false, ev_block, blockK_norm, blockK_ret, blockK_exit, ev_loop, ev_skip, ev_exit, ev_ret, regK_cons, regK_nil, guard_none, guard_some, regG_true, regG_false, regO_some, op_mov, op_conv, op_bin, op_bsl, op_box, op_mks, op_s2b, op_pick, op_un, op_eq, op_len, op_ext, op_load, op_iaddr, op_slice, op_b2s, op_idxS, op_mx, op_mn, op_call, op_store, op_app, op_copy, args_eq, result_one', rv_loc, finish_norm, finish_ret, outK_some, keep_true, keep_false, keep_nil, p_bin, p_pick, p_un, p_eq, p_conv, evNew, pureK_some, newK_some, X.eval, set_none, set_some, List.map_cons, List.map_nil, List.getD_cons_zero, List.getD_cons_succ, List.getD_nil, List.set_cons_zero, List.set_cons_succ, binCV, unCV, isShift, intArithF_eq, shiftF_eq, wrapF_eq, intArith, shift, eqVal, bound, asNat_cast, cond_true, cond_false, BEq.rfl, beq_self_eq_true, evalParts, fillParts, AV.cells, AV.ofCells, XV.av, AV.xv, List.length_cons, List.length_nil, zeros, patch, setMany, List.nil_append, List.cons_append, Nat.ble, Nat.add_eq, Nat.zero_add, Nat.add_zero, Nat.reduceAdd, Nat.reduceMul, Nat.reduceSub, Nat.ble_eq, Nat.reduceLeDiff, Nat.reduceBEq, Int.reduceBEq, Int.reduceNeg, Bool.and_true, Bool.and_false, Bool.true_and, Bool.false_and, Bool.not_true, Bool.not_false, Bool.true_eq_false, Bool.false_eq_true, Int.reduceLT, Int.reduceLE, Int.reduceGT, Int.reduceGE, decide_true, decide_false, Bool.not_eq_true, loopN_norm, loopN_exit, tf, ft, ff, e1, e2]

/-- How many handles have a page. -/
def pinsM (rows : List (List Int)) (g : Int) : Nat := if g < 0 then 0 else (rows.map (List.count g)).sum
theorem pins_add (rows : List (List Int)) (g : Int) {i : Nat} (hi : i < rows.length) : ((rows.take (i + 1)).map (List.count g)).sum = ((rows.take i).map (List.count g)).sum + List.count g rows[i] := by
  rw [List.take_succ_eq_append_getElem hi, List.map_append, List.sum_append]; simp
theorem count_add (l : List Int) (g : Int) {i : Nat} (hi : i < l.length) : (l.take (i + 1)).count g = (l.take i).count g + if l[i] = g then 1 else 0 := by
  rw [List.take_succ_eq_append_getElem hi, List.count_append, List.count_singleton]
  by_cases e : l[i] = g <;> simp [e]
theorem pins_le (t : HB h p b bs rows) (g : Int) : ∀ i, i ≤ rows.length → ((rows.take i).map (List.count g)).sum ≤ i * 6
  | 0, _ => by simp
  | i + 1, hi => by
    have := pins_le t g i (by omega)
    rw [pins_add rows g (by omega)]
    have h6 := t.len6 (j := i) (by omega)
    have := List.count_le_length (a := g) (l := rows[i])
    omega

theorem pins_ok (t : HB h p b bs rows) (g : Int) (hn : rows.length ≤ 20) (hN : 30 ≤ N) : evCallT table 14 N (d + 1) 16 [.c (.ptr p 0), .c (.int .i64 g)] h = some (.c (.int .i64 (pinsM rows g : Int)), h) := by
  have bneI : ∀ {a b : Int}, (a != b) = !(a == b) := rfl
  have ll : ∀ loc vals h', evPure loc (.c (.sl b 0 rows.length (.dy 1)) :: vals) h' (.len .sl (.val 0)) = some (.c (.int .i64 (rows.length : Int))) := fun _ _ _ => rfl
  rw [evCallT_eq (F := ir16) rfl rfl rfl]
  unfold ir16
  rw [bodyK_eq]
  unfold pinsM
  by_cases hg : g < 0
  · rw [if_pos hg]
    simp only [enter_eq, ev_seq, seqK_norm, seqK_exit, seqK_ret, ev_reg, ev_cond, condK_true, condK_false, ev_block, blockK_norm, blockK_ret, blockK_exit, ev_loop, ev_skip, ev_exit, ev_ret, regK_cons, regK_nil, guard_none, guard_some, regG_true, regG_false, regO_some, op_mov, op_conv, op_bin, op_bsl, op_box, op_mks, op_s2b, op_pick, op_un, op_eq, op_len, op_ext, op_load, op_iaddr, op_slice, op_b2s, op_idxS, op_mx, op_mn, op_call, op_store, op_app, op_copy, args_eq, result_one', rv_loc, finish_norm, finish_ret, outK_some, keep_true, keep_false, keep_nil, p_bin, p_pick, p_un, p_eq, p_conv, evNew, pureK_some, newK_some, X.eval, set_none, set_some, List.map_cons, List.map_nil, List.getD_cons_zero, List.getD_cons_succ, List.getD_nil, List.set_cons_zero, List.set_cons_succ, binCV, unCV, isShift, intArithF_eq, shiftF_eq, wrapF_eq, intArith, shift, eqVal, bound, asNat_cast, cond_true, cond_false, BEq.rfl, beq_self_eq_true, evalParts, fillParts, AV.cells, AV.ofCells, XV.av, AV.xv, List.length_cons, List.length_nil, zeros, patch, setMany, List.nil_append, List.cons_append, Nat.ble, Nat.add_eq, Nat.zero_add, Nat.add_zero, Nat.reduceAdd, Nat.reduceMul, Nat.reduceSub, Nat.ble_eq, Nat.reduceLeDiff, Nat.reduceBEq, Int.reduceBEq, Int.reduceNeg, Bool.and_true, Bool.and_false, Bool.true_and, Bool.false_and, Bool.not_true, Bool.not_false, Bool.true_eq_false, Bool.false_eq_true, Int.reduceLT, Int.reduceLE, Int.reduceGT, Int.reduceGE, decide_true, decide_false, Bool.not_eq_true, loopN_norm, loopN_exit, tf, ft, ff, decide_eq_true hg]
    rfl
  rw [if_neg hg]
  have inner : ∀ (i : Nat) (hi : i < rows.length) (n : Nat) (_ : n ≤ 1000), ∀ loc, keepOnly ir16_k0 loc = [.junk, .c (.int .i64 g), .junk, .c (.int .i64 (n : Int)), .junk, .junk, .junk, .c (.sl b 0 rows.length (.dy 1)), .c (.int .i64 (rows.length : Int)), .c (.int .i64 (i : Int)), .junk, .c (.sl (bs[i]'(by have := t.bl; omega)) 0 6 (.ex 6)), .c (.int .i64 6), .c (.int .i64 0), .junk, .junk] →
      ∃ r, loopK (evCallT table 14 N d) N ir16_k0 ir16_l0 N loc h = some r ∧ ∃ a0 a1 a2 a3 b1 b2 b3 b4 b5 b6, r = (.exit 2, [a0, .c (.int .i64 g), a1, .c (.int .i64 ((n + rows[i].count g : Nat) : Int)), a2, a3, b1, .c (.sl b 0 rows.length (.dy 1)), .c (.int .i64 (rows.length : Int)), .c (.int .i64 (i : Int)), b2, b3, b4, b5, b6, .junk], h) := by
    intro i hi n hn2 loc hloc
    have h6 := t.len6 hi
    refine loop_inv (n := 6) (fun k loc h' => h' = h ∧ loc = [.junk, .c (.int .i64 g), .junk, .c (.int .i64 ((n + (rows[i].take k).count g : Nat) : Int)), .junk, .junk, .junk, .c (.sl b 0 rows.length (.dy 1)), .c (.int .i64 (rows.length : Int)), .c (.int .i64 (i : Int)), .junk, .c (.sl (bs[i]'(by have := t.bl; omega)) 0 6 (.ex 6)), .c (.int .i64 6), .c (.int .i64 (k : Int)), .junk, .junk]) _ ?_ ⟨rfl, by simpa using hloc⟩ (by omega)
    rintro k loc h' hk ⟨rfl, rfl⟩
    unfold ir16_l0
    by_cases hlt : k < 6
    · left
      refine ⟨hlt, ?_⟩
      have v1 : decide ((k : Int) < 6) = true := decide_eq_true (by omega)
      have v2 := succI (i := k) (by omega)
      have m1 : Nat.blt k 6 = true := bltT hlt
      have r2 := t.r2 hi hlt
      have ca := count_add rows[i] g (i := k) (by omega)
      by_cases e : rows[i][k]'(by omega) = g
      · have q1 : (rows[i][k]'(by omega) == g) = true := by simp [e]
        rw [if_pos e] at ca
        have cl := List.count_le_length (a := g) (l := rows[i].take k)
        rw [List.length_take] at cl
        have v3 := succI (i := n + (rows[i].take k).count g) (by omega)
        simp only [enter_eq, ev_seq, seqK_norm, seqK_exit, seqK_ret, ev_reg, ev_cond, condK_true, condK_false, ev_block, blockK_norm, blockK_ret, blockK_exit, ev_loop, ev_skip, ev_exit, ev_ret, regK_cons, regK_nil, guard_none, guard_some, regG_true, regG_false, regO_some, op_mov, op_conv, op_bin, op_bsl, op_box, op_mks, op_s2b, op_pick, op_un, op_eq, op_len, op_ext, op_load, op_iaddr, op_slice, op_b2s, op_idxS, op_mx, op_mn, op_call, op_store, op_app, op_copy, args_eq, result_one', rv_loc, finish_norm, finish_ret, outK_some, keep_true, keep_false, keep_nil, p_bin, p_pick, p_un, p_eq, p_conv, evNew, pureK_some, newK_some, X.eval, set_none, set_some, List.map_cons, List.map_nil, List.getD_cons_zero, List.getD_cons_succ, List.getD_nil, List.set_cons_zero, List.set_cons_succ, binCV, unCV, isShift, intArithF_eq, shiftF_eq, wrapF_eq, intArith, shift, eqVal, bound, asNat_cast, cond_true, cond_false, BEq.rfl, beq_self_eq_true, evalParts, fillParts, AV.cells, AV.ofCells, XV.av, AV.xv, List.length_cons, List.length_nil, zeros, patch, setMany, List.nil_append, List.cons_append, Nat.ble, Nat.add_eq, Nat.zero_add, Nat.add_zero, Nat.reduceAdd, Nat.reduceMul, Nat.reduceSub, Nat.ble_eq, Nat.reduceLeDiff, Nat.reduceBEq, Int.reduceBEq, Int.reduceNeg, Bool.and_true, Bool.and_false, Bool.true_and, Bool.false_and, Bool.not_true, Bool.not_false, Bool.true_eq_false, Bool.false_eq_true, Int.reduceLT, Int.reduceLE, Int.reduceGT, Int.reduceGE, decide_true, decide_false, Bool.not_eq_true, loopN_norm, loopN_exit, tf, ft, ff, bneI, v1, v2, v3, p_iaddr, p_load, m1, Nat.mul_one, r2, AV.ofCells, q1]
        refine ⟨_, _, rfl, rfl, ?_⟩
        rw [ca]; rfl
      · have q1 : (rows[i][k]'(by omega) == g) = false := by simp [e]
        rw [if_neg e] at ca
        simp only [enter_eq, ev_seq, seqK_norm, seqK_exit, seqK_ret, ev_reg, ev_cond, condK_true, condK_false, ev_block, blockK_norm, blockK_ret, blockK_exit, ev_loop, ev_skip, ev_exit, ev_ret, regK_cons, regK_nil, guard_none, guard_some, regG_true, regG_false, regO_some, op_mov, op_conv, op_bin, op_bsl, op_box, op_mks, op_s2b, op_pick, op_un, op_eq, op_len, op_ext, op_load, op_iaddr, op_slice, op_b2s, op_idxS, op_mx, op_mn, op_call, op_store, op_app, op_copy, args_eq, result_one', rv_loc, finish_norm, finish_ret, outK_some, keep_true, keep_false, keep_nil, p_bin, p_pick, p_un, p_eq, p_conv, evNew, pureK_some, newK_some, X.eval, set_none, set_some, List.map_cons, List.map_nil, List.getD_cons_zero, List.getD_cons_succ, List.getD_nil, List.set_cons_zero, List.set_cons_succ, binCV, unCV, isShift, intArithF_eq, shiftF_eq, wrapF_eq, intArith, shift, eqVal, bound, asNat_cast, cond_true, cond_false, BEq.rfl, beq_self_eq_true, evalParts, fillParts, AV.cells, AV.ofCells, XV.av, AV.xv, List.length_cons, List.length_nil, zeros, patch, setMany, List.nil_append, List.cons_append, Nat.ble, Nat.add_eq, Nat.zero_add, Nat.add_zero, Nat.reduceAdd, Nat.reduceMul, Nat.reduceSub, Nat.ble_eq, Nat.reduceLeDiff, Nat.reduceBEq, Int.reduceBEq, Int.reduceNeg, Bool.and_true, Bool.and_false, Bool.true_and, Bool.false_and, Bool.not_true, Bool.not_false, Bool.true_eq_false, Bool.false_eq_true, Int.reduceLT, Int.reduceLE, Int.reduceGT, Int.reduceGE, decide_true, decide_false, Bool.not_eq_true, loopN_norm, loopN_exit, tf, ft, ff, bneI, v1, v2, p_iaddr, p_load, m1, Nat.mul_one, r2, AV.ofCells, q1]
        refine ⟨_, _, rfl, rfl, ?_⟩
        rw [ca]; rfl
    · right
      have hk6 : k = 6 := by omega
      subst hk6
      rw [List.take_of_length_le (by omega)]
      simp only [enter_eq, ev_seq, seqK_norm, seqK_exit, seqK_ret, ev_reg, ev_cond, condK_true, condK_false, ev_block, blockK_norm, blockK_ret, blockK_exit, ev_loop, ev_skip, ev_exit, ev_ret, regK_cons, regK_nil, guard_none, guard_some, regG_true, regG_false, regO_some, op_mov, op_conv, op_bin, op_bsl, op_box, op_mks, op_s2b, op_pick, op_un, op_eq, op_len, op_ext, op_load, op_iaddr, op_slice, op_b2s, op_idxS, op_mx, op_mn, op_call, op_store, op_app, op_copy, args_eq, result_one', rv_loc, finish_norm, finish_ret, outK_some, keep_true, keep_false, keep_nil, p_bin, p_pick, p_un, p_eq, p_conv, evNew, pureK_some, newK_some, X.eval, set_none, set_some, List.map_cons, List.map_nil, List.getD_cons_zero, List.getD_cons_succ, List.getD_nil, List.set_cons_zero, List.set_cons_succ, binCV, unCV, isShift, intArithF_eq, shiftF_eq, wrapF_eq, intArith, shift, eqVal, bound, asNat_cast, cond_true, cond_false, BEq.rfl, beq_self_eq_true, evalParts, fillParts, AV.cells, AV.ofCells, XV.av, AV.xv, List.length_cons, List.length_nil, zeros, patch, setMany, List.nil_append, List.cons_append, Nat.ble, Nat.add_eq, Nat.zero_add, Nat.add_zero, Nat.reduceAdd, Nat.reduceMul, Nat.reduceSub, Nat.ble_eq, Nat.reduceLeDiff, Nat.reduceBEq, Int.reduceBEq, Int.reduceNeg, Bool.and_true, Bool.and_false, Bool.true_and, Bool.false_and, Bool.not_true, Bool.not_false, Bool.true_eq_false, Bool.false_eq_true, Int.reduceLT, Int.reduceLE, Int.reduceGT, Int.reduceGE, decide_true, decide_false, Bool.not_eq_true, loopN_norm, loopN_exit, tf, ft, ff]
      exact ⟨_, rfl, by simp, _, _, _, _, _, _, _, _, _, _, rfl⟩
  have L : ∀ loc, keepOnly ir16_k1 loc = [.junk, .c (.int .i64 g), .junk, .c (.int .i64 0), .junk, .junk, .junk, .c (.sl b 0 rows.length (.dy 1)), .c (.int .i64 (rows.length : Int)), .c (.int .i64 0), .junk, .junk, .junk, .junk, .junk, .junk] →
      ∃ r, loopK (evCallT table 14 N d) N ir16_k1 ir16_l1 N loc h = some r ∧ ∃ a0 a1 a2 l, r = (.exit 0, a0 :: a1 :: a2 :: .c (.int .i64 (((rows.map (List.count g)).sum : Nat) : Int)) :: l, h) := by
    intro loc hloc
    refine loop_inv (n := rows.length) (fun i loc h' => h' = h ∧ loc = [.junk, .c (.int .i64 g), .junk, .c (.int .i64 ((((rows.take i).map (List.count g)).sum : Nat) : Int)), .junk, .junk, .junk, .c (.sl b 0 rows.length (.dy 1)), .c (.int .i64 (rows.length : Int)), .c (.int .i64 (i : Int)), .junk, .junk, .junk, .junk, .junk, .junk]) _ ?_ ⟨rfl, by simpa using hloc⟩ (by omega)
    rintro i loc h' hi ⟨rfl, rfl⟩
    unfold ir16_l1
    by_cases hlt : i < rows.length
    · left
      refine ⟨hlt, ?_⟩
      have v1 : decide ((i : Int) < (rows.length : Int)) = true := ltNat hlt
      have v2 := succI (i := i) (by omega)
      have m1 : Nat.blt i rows.length = true := bltT hlt
      have l6 : ∀ loc vals h', evPure loc (.c (.sl (bs[i]'(by have := t.bl; omega)) 0 6 (.ex 6)) :: vals) h' (.len .sl (.val 0)) = some (.c (.int .i64 6)) := fun _ _ _ => rfl
      obtain ⟨r, hr, a0, a1, a2, a3, b1, b2, b3, b4, b5, b6, rfl⟩ := inner i hlt (((rows.take i).map (List.count g)).sum) (by have := pins_le t g i (by omega); omega) [.junk, .c (.int .i64 g), .junk, .c (.int .i64 ((((rows.take i).map (List.count g)).sum : Nat) : Int)), .c (.sl (bs[i]'(by have := t.bl; omega)) 0 6 (.ex 6)), .junk, .junk, .c (.sl b 0 rows.length (.dy 1)), .c (.int .i64 (rows.length : Int)), .c (.int .i64 (i : Int)), .c (.bool true), .c (.sl (bs[i]'(by have := t.bl; omega)) 0 6 (.ex 6)), .c (.int .i64 6), .c (.int .i64 0), .junk, .junk] rfl
      simp only [enter_eq, ev_seq, seqK_norm, seqK_exit, seqK_ret, ev_reg, ev_cond, condK_true, condK_false, ev_block, blockK_norm, blockK_ret, blockK_exit, ev_loop, ev_skip, ev_exit, ev_ret, regK_cons, regK_nil, guard_none, guard_some, regG_true, regG_false, regO_some, op_mov, op_conv, op_bin, op_bsl, op_box, op_mks, op_s2b, op_pick, op_un, op_eq, op_len, op_ext, op_load, op_iaddr, op_slice, op_b2s, op_idxS, op_mx, op_mn, op_call, op_store, op_app, op_copy, args_eq, result_one', rv_loc, finish_norm, finish_ret, outK_some, keep_true, keep_false, keep_nil, p_bin, p_pick, p_un, p_eq, p_conv, evNew, pureK_some, newK_some, X.eval, set_none, set_some, List.map_cons, List.map_nil, List.getD_cons_zero, List.getD_cons_succ, List.getD_nil, List.set_cons_zero, List.set_cons_succ, binCV, unCV, isShift, intArithF_eq, shiftF_eq, wrapF_eq, intArith, shift, eqVal, bound, asNat_cast, cond_true, cond_false, BEq.rfl, beq_self_eq_true, evalParts, fillParts, AV.cells, AV.ofCells, XV.av, AV.xv, List.length_cons, List.length_nil, zeros, patch, setMany, List.nil_append, List.cons_append, Nat.ble, Nat.add_eq, Nat.zero_add, Nat.add_zero, Nat.reduceAdd, Nat.reduceMul, Nat.reduceSub, Nat.ble_eq, Nat.reduceLeDiff, Nat.reduceBEq, Int.reduceBEq, Int.reduceNeg, Bool.and_true, Bool.and_false, Bool.true_and, Bool.false_and, Bool.not_true, Bool.not_false, Bool.true_eq_false, Bool.false_eq_true, Int.reduceLT, Int.reduceLE, Int.reduceGT, Int.reduceGE, decide_true, decide_false, Bool.not_eq_true, loopN_norm, loopN_exit, tf, ft, ff, v1, v2, p_iaddr, p_load, m1, Nat.mul_one, t.r1 hlt, AV.ofCells, l6, hr, blockK_exit_eq]
      refine ⟨_, _, rfl, rfl, ?_⟩
      rw [pins_add rows g hlt]; rfl
    · right
      have hin : i = rows.length := by omega
      subst hin
      rw [List.take_length]
      have v1 : decide ((rows.length : Int) < (rows.length : Int)) = false := geNat (Nat.le_refl _)
      simp only [enter_eq, ev_seq, seqK_norm, seqK_exit, seqK_ret, ev_reg, ev_cond, condK_true, condK_false, ev_block, blockK_norm, blockK_ret, blockK_exit, ev_loop, ev_skip, ev_exit, ev_ret, regK_cons, regK_nil, guard_none, guard_some, regG_true, regG_false, regO_some, op_mov, op_conv, op_bin, op_bsl, op_box, op_mks, op_s2b, op_pick, op_un, op_eq, op_len, op_ext, op_load, op_iaddr, op_slice, op_b2s, op_idxS, op_mx, op_mn, op_call, op_store, op_app, op_copy, args_eq, result_one', rv_loc, finish_norm, finish_ret, outK_some, keep_true, keep_false, keep_nil, p_bin, p_pick, p_un, p_eq, p_conv, evNew, pureK_some, newK_some, X.eval, set_none, set_some, List.map_cons, List.map_nil, List.getD_cons_zero, List.getD_cons_succ, List.getD_nil, List.set_cons_zero, List.set_cons_succ, binCV, unCV, isShift, intArithF_eq, shiftF_eq, wrapF_eq, intArith, shift, eqVal, bound, asNat_cast, cond_true, cond_false, BEq.rfl, beq_self_eq_true, evalParts, fillParts, AV.cells, AV.ofCells, XV.av, AV.xv, List.length_cons, List.length_nil, zeros, patch, setMany, List.nil_append, List.cons_append, Nat.ble, Nat.add_eq, Nat.zero_add, Nat.add_zero, Nat.reduceAdd, Nat.reduceMul, Nat.reduceSub, Nat.ble_eq, Nat.reduceLeDiff, Nat.reduceBEq, Int.reduceBEq, Int.reduceNeg, Bool.and_true, Bool.and_false, Bool.true_and, Bool.false_and, Bool.not_true, Bool.not_false, Bool.true_eq_false, Bool.false_eq_true, Int.reduceLT, Int.reduceLE, Int.reduceGT, Int.reduceGE, decide_true, decide_false, Bool.not_eq_true, loopN_norm, loopN_exit, tf, ft, ff, v1]
      exact ⟨_, rfl, by simp, _, _, _, _, rfl⟩
  obtain ⟨r, hr, a0, a1, a2, l, rfl⟩ := L [.c (.ptr p 0), .c (.int .i64 g), .c (.int .i64 0), .c (.int .i64 0), .tup [], .tup [], .c (.bool false), .c (.sl b 0 rows.length (.dy 1)), .c (.int .i64 (rows.length : Int)), .c (.int .i64 0), .tup [], .tup [], .tup [], .tup [], .tup [], .tup []] rfl
  simp only [enter_eq, ev_seq, seqK_norm, seqK_exit, seqK_ret, ev_reg, ev_cond, condK_true, condK_false, ev_block, blockK_norm, blockK_ret, blockK_exit, ev_loop, ev_skip, ev_exit, ev_ret, regK_cons, regK_nil, guard_none, guard_some, regG_true, regG_false, regO_some, op_mov, op_conv, op_bin, op_bsl, op_box, op_mks, op_s2b, op_pick, op_un, op_eq, op_len, op_ext, op_load, op_iaddr, op_slice, op_b2s, op_idxS, op_mx, op_mn, op_call, op_store, op_app, op_copy, args_eq, result_one', rv_loc, finish_norm, finish_ret, outK_some, keep_true, keep_false, keep_nil, p_bin, p_pick, p_un, p_eq, p_conv, evNew, pureK_some, newK_some, X.eval, set_none, set_some, List.map_cons, List.map_nil, List.getD_cons_zero, List.getD_cons_succ, List.getD_nil, List.set_cons_zero, List.set_cons_succ, binCV, unCV, isShift, intArithF_eq, shiftF_eq, wrapF_eq, intArith, shift, eqVal, bound, asNat_cast, cond_true, cond_false, BEq.rfl, beq_self_eq_true, evalParts, fillParts, AV.cells, AV.ofCells, XV.av, AV.xv, List.length_cons, List.length_nil, zeros, patch, setMany, List.nil_append, List.cons_append, Nat.ble, Nat.add_eq, Nat.zero_add, Nat.add_zero, Nat.reduceAdd, Nat.reduceMul, Nat.reduceSub, Nat.ble_eq, Nat.reduceLeDiff, Nat.reduceBEq, Int.reduceBEq, Int.reduceNeg, Bool.and_true, Bool.and_false, Bool.true_and, Bool.false_and, Bool.not_true, Bool.not_false, Bool.true_eq_false, Bool.false_eq_true, Int.reduceLT, Int.reduceLE, Int.reduceGT, Int.reduceGE, decide_true, decide_false, Bool.not_eq_true, loopN_norm, loopN_exit, tf, ft, ff, decide_eq_false hg, op_nilchk, p_nilchk, op_faddr, p_faddr, p_load, t.r0, AV.ofCells, ll, hr, blockK_exit_eq]

theorem clone_ok {i : Nat} {c : Cap} {o : List Int} (hy : Ints h (.sl i 0 o.length c) o) (h1 : 0 < o.length) (hl : o.length < 1000) :
    ∃ z h', evCallT table 14 N (d + 1) 49 [.c (.sl i 0 o.length c)] h = some (.c z, h') ∧ Ints h' z o ∧ Ext h h' ∧ ∀ k, blk z = some k → h.next ≤ k := by
  obtain ⟨m, hm⟩ : ∃ m, o.length = m + 1 := ⟨o.length - 1, by omega⟩
  have hs := (hy.ext ((Ext.refl h).new (.cells []))).source
  rw [hm] at hs
  obtain ⟨h', a1, a2, a3, a4⟩ := app_new (sz := 1) (h0 := h) (h := h.new (.cells [])) (i := h.next) get_new_at (Nat.le_succ _) hs (by simp [hm]) (by omega)
  rw [hm] at *
  rw [evCallT_eq (F := ir49) rfl rfl rfl]
  unfold ir49
  rw [bodyK_eq]
  simp only [enter_eq, ev_seq, seqK_norm, seqK_exit, seqK_ret, ev_reg, ev_cond, condK_true, condK_false, ev_block, blockK_norm, blockK_ret, blockK_exit, ev_loop, ev_skip, ev_exit, ev_ret, regK_cons, regK_nil, guard_none, guard_some, regG_true, regG_false, regO_some, op_mov, op_conv, op_bin, op_bsl, op_box, op_mks, op_s2b, op_pick, op_un, op_eq, op_len, op_ext, op_load, op_iaddr, op_slice, op_b2s, op_idxS, op_mx, op_mn, op_call, op_store, op_app, op_copy, args_eq, result_one', rv_loc, finish_norm, finish_ret, outK_some, keep_true, keep_false, keep_nil, p_bin, p_pick, p_un, p_eq, p_conv, evNew, pureK_some, newK_some, X.eval, set_none, set_some, List.map_cons, List.map_nil, List.getD_cons_zero, List.getD_cons_succ, List.getD_nil, List.set_cons_zero, List.set_cons_succ, binCV, unCV, isShift, intArithF_eq, shiftF_eq, wrapF_eq, intArith, shift, eqVal, bound, asNat_cast, cond_true, cond_false, BEq.rfl, beq_self_eq_true, evalParts, fillParts, AV.cells, AV.ofCells, XV.av, AV.xv, List.length_cons, List.length_nil, zeros, patch, setMany, List.nil_append, List.cons_append, Nat.ble, Nat.add_eq, Nat.zero_add, Nat.add_zero, Nat.reduceAdd, Nat.reduceMul, Nat.reduceSub, Nat.ble_eq, Nat.reduceLeDiff, Nat.reduceBEq, Int.reduceBEq, Int.reduceNeg, Bool.and_true, Bool.and_false, Bool.true_and, Bool.false_and, Bool.not_true, Bool.not_false, Bool.true_eq_false, Bool.false_eq_true, Int.reduceLT, Int.reduceLE, Int.reduceGT, Int.reduceGE, decide_true, decide_false, Bool.not_eq_true, loopN_norm, loopN_exit, tf, ft, ff, a1]
  refine ⟨_, _, rfl, ?_, ⟨by rw [a3]; show h.next ≤ h.next + 1 + 1; omega, fun j hj => by rw [a4 j (Nat.lt_succ_of_lt hj), get_new_old hj]⟩, fun k hk => by simp [blk, next_new] at hk; omega⟩
  exact (Mine.made (vs := o) (by rw [← hm] at a2 ⊢; exact a2)).ints

/-- All handles are told in slices of their own. -/
theorem all_ok (t : HB h p b bs rows) (hn : rows.length ≤ 20) (hN : 30 ≤ N) :
    ∃ y zs h', evCallT table 14 N (d + 2) 13 [.c (.ptr p 0)] h = some (.c y, h') ∧ Mine 1 h h' y rows.length zs ∧ (∀ j (hj : j < rows.length), ∃ z, zs[j]? = some z ∧ Ints h' z rows[j]) ∧ Ext h h' := by
  have ll : ∀ loc vals h', evPure loc (.c (.sl b 0 rows.length (.dy 1)) :: vals) h' (.len .sl (.val 0)) = some (.c (.int .i64 (rows.length : Int))) := fun _ _ _ => rfl
  rw [evCallT_eq (F := ir13) rfl rfl rfl]
  unfold ir13
  rw [bodyK_eq]
  have L : ∀ loc, keepOnly ir13_k0 loc = [.junk, .junk, .c .nils, .junk, .junk, .c (.sl b 0 rows.length (.dy 1)), .c (.int .i64 (rows.length : Int)), .c (.int .i64 0), .junk] →
      ∃ r, loopK (evCallT table 14 N (d + 1)) N ir13_k0 ir13_l0 N loc h = some r ∧ ∃ a0 a1 l y zs h', r = (.exit 0, a0 :: a1 :: .c y :: l, h') ∧ Mine 1 h h' y rows.length zs ∧ (∀ j (hj : j < rows.length), ∃ z, zs[j]? = some z ∧ Ints h' z rows[j]) ∧ Ext h h' := by
    intro loc hloc
    refine loop_inv (n := rows.length) (fun i loc h' => ∃ y zs, Mine 1 h h' y i zs ∧ (∀ j (hj : j < rows.length), j < i → ∃ z, zs[j]? = some z ∧ Ints h' z rows[j] ∧ ∀ k, blk z = some k → blk y ≠ some k) ∧ Ext h h' ∧ loc = [.junk, .junk, .c y, .junk, .junk, .c (.sl b 0 rows.length (.dy 1)), .c (.int .i64 (rows.length : Int)), .c (.int .i64 (i : Int)), .junk]) _ ?_ ⟨.nils, [], Mine.nil, fun j _ hj => by omega, Ext.refl _, hloc⟩ (by omega)
    rintro i loc h' hi ⟨y, zs, my, hz, he, rfl⟩
    unfold ir13_l0
    by_cases hlt : i < rows.length
    · left
      refine ⟨hlt, ?_⟩
      have v1 : decide ((i : Int) < (rows.length : Int)) = true := ltNat hlt
      have v2 := succI (i := i) (by omega)
      have m1 : Nat.blt i rows.length = true := bltT hlt
      have t' := t.ext (he.b []) (by simp)
      have h6 := t.len6 hlt
      have hI := t'.ints hlt
      obtain ⟨z, h1, e1, iz, x1, bz⟩ := clone_ok (N := N) (d := d) (i := bs[i]'(by have := t.bl; omega)) (c := .ex 6) (o := rows[i]) (by rw [h6]; exact hI) (by omega) (by omega)
      rw [h6] at e1
      have my1 : Mine 1 h h1 y i zs := my.keep x1.1 fun k hk _ => x1.2 k hk
      have hs : source (h1.new (.cells [z])) 1 (.c (.sl h1.next 0 1 (.ex 1))) = some (0 + 1, [z]) := source_new get_new_at rfl
      obtain ⟨h2, a1, a2, a3, a4⟩ := app_mine (m := 0) (my1.new (.cells [z])) (Nat.le_trans (he.trans x1).1 (Nat.le_succ _)) hs rfl (by omega)
      rw [next_new] at a1 a2 a3 a4
      have hyn : ∀ k, blk y = some k → k < h'.next := fun k hk => by
        obtain ⟨_, ⟨rfl, _⟩ | ⟨i', rfl, _, _, h5⟩⟩ := my
        · cases hk
        · simp [blk] at hk; omega
      have hle := x1.1
      have keepI : ∀ {w : CV} {o : List Int}, Ints h1 w o → (∀ k, blk w = some k → blk y ≠ some k) → Ints h2 w o := fun {w o} hw hb => by
        rcases hw with h3 | ⟨i', o', c, rfl, h4, h5⟩
        · exact .inl h3
        · refine .inr ⟨i', o', c, rfl, by omega, fun j v hj => ?_⟩
          have h7 := h5 j v hj
          simp only [Heap.read] at h7 ⊢
          rw [a4 i' (by omega) (hb i' rfl), get_new_old h4]; exact h7
      simp only [enter_eq, ev_seq, seqK_norm, seqK_exit, seqK_ret, ev_reg, ev_cond, condK_true, condK_false, ev_block, blockK_norm, blockK_ret, blockK_exit, ev_loop, ev_skip, ev_exit, ev_ret, regK_cons, regK_nil, guard_none, guard_some, regG_true, regG_false, regO_some, op_mov, op_conv, op_bin, op_bsl, op_box, op_mks, op_s2b, op_pick, op_un, op_eq, op_len, op_ext, op_load, op_iaddr, op_slice, op_b2s, op_idxS, op_mx, op_mn, op_call, op_store, op_app, op_copy, args_eq, result_one', rv_loc, finish_norm, finish_ret, outK_some, keep_true, keep_false, keep_nil, p_bin, p_pick, p_un, p_eq, p_conv, evNew, pureK_some, newK_some, X.eval, set_none, set_some, List.map_cons, List.map_nil, List.getD_cons_zero, List.getD_cons_succ, List.getD_nil, List.set_cons_zero, List.set_cons_succ, binCV, unCV, isShift, intArithF_eq, shiftF_eq, wrapF_eq, intArith, shift, eqVal, bound, asNat_cast, cond_true, cond_false, BEq.rfl, beq_self_eq_true, evalParts, fillParts, AV.cells, AV.ofCells, XV.av, AV.xv, List.length_cons, List.length_nil, zeros, patch, setMany, List.nil_append, List.cons_append, Nat.ble, Nat.add_eq, Nat.zero_add, Nat.add_zero, Nat.reduceAdd, Nat.reduceMul, Nat.reduceSub, Nat.ble_eq, Nat.reduceLeDiff, Nat.reduceBEq, Int.reduceBEq, Int.reduceNeg, Bool.and_true, Bool.and_false, Bool.true_and, Bool.false_and, Bool.not_true, Bool.not_false, Bool.true_eq_false, Bool.false_eq_true, Int.reduceLT, Int.reduceLE, Int.reduceGT, Int.reduceGE, decide_true, decide_false, Bool.not_eq_true, loopN_norm, loopN_exit, tf, ft, ff, v1, v2, p_iaddr, p_load, m1, Nat.mul_one, t'.r1 hlt, AV.ofCells, e1, a1]
      refine ⟨_, _, rfl, _, zs ++ [z], a2, fun j hj hj1 => ?_, ⟨by have := he.1; omega, fun k hk => by
        have h1 := he.1
        rw [a4 k (by omega) (fun e => by have := my.young k e; omega), get_new_old (by omega), x1.2 k (by omega), he.2 k hk]⟩, rfl⟩
      have zl : zs.length = i := by have := my.1; omega
      by_cases e : j = i
      · subst e
        refine ⟨z, by rw [List.getElem?_append_right (by omega)]; simp [zl], keepI iz (fun k hk e => by have := bz k hk; have := hyn k e; omega), fun k hk e => ?_⟩
        simp [blk] at e
        rcases iz with ⟨rfl, _⟩ | ⟨i', o', c, rfl, h4, _⟩
        · cases hk
        · simp [blk] at hk; omega
      · obtain ⟨w, hw, iw, bw⟩ := hz j hj (by omega)
        have iw1 := iw.ext x1
        refine ⟨w, by rw [List.getElem?_append_left (by omega)]; exact hw, keepI iw1 bw, fun k hk e => ?_⟩
        simp [blk] at e
        rcases iw with ⟨rfl, _⟩ | ⟨i', o', c, rfl, h4, _⟩
        · cases hk
        · simp [blk] at hk; omega
    · right
      have hin : i = rows.length := by omega
      subst hin
      have v1 : decide ((rows.length : Int) < (rows.length : Int)) = false := geNat (Nat.le_refl _)
      simp only [enter_eq, ev_seq, seqK_norm, seqK_exit, seqK_ret, ev_reg, ev_cond, condK_true, condK_false, ev_block, blockK_norm, blockK_ret, blockK_exit, ev_loop, ev_skip, ev_exit, ev_ret, regK_cons, regK_nil, guard_none, guard_some, regG_true, regG_false, regO_some, op_mov, op_conv, op_bin, op_bsl, op_box, op_mks, op_s2b, op_pick, op_un, op_eq, op_len, op_ext, op_load, op_iaddr, op_slice, op_b2s, op_idxS, op_mx, op_mn, op_call, op_store, op_app, op_copy, args_eq, result_one', rv_loc, finish_norm, finish_ret, outK_some, keep_true, keep_false, keep_nil, p_bin, p_pick, p_un, p_eq, p_conv, evNew, pureK_some, newK_some, X.eval, set_none, set_some, List.map_cons, List.map_nil, List.getD_cons_zero, List.getD_cons_succ, List.getD_nil, List.set_cons_zero, List.set_cons_succ, binCV, unCV, isShift, intArithF_eq, shiftF_eq, wrapF_eq, intArith, shift, eqVal, bound, asNat_cast, cond_true, cond_false, BEq.rfl, beq_self_eq_true, evalParts, fillParts, AV.cells, AV.ofCells, XV.av, AV.xv, List.length_cons, List.length_nil, zeros, patch, setMany, List.nil_append, List.cons_append, Nat.ble, Nat.add_eq, Nat.zero_add, Nat.add_zero, Nat.reduceAdd, Nat.reduceMul, Nat.reduceSub, Nat.ble_eq, Nat.reduceLeDiff, Nat.reduceBEq, Int.reduceBEq, Int.reduceNeg, Bool.and_true, Bool.and_false, Bool.true_and, Bool.false_and, Bool.not_true, Bool.not_false, Bool.true_eq_false, Bool.false_eq_true, Int.reduceLT, Int.reduceLE, Int.reduceGT, Int.reduceGE, decide_true, decide_false, Bool.not_eq_true, loopN_norm, loopN_exit, tf, ft, ff, v1]
      refine ⟨_, rfl, by simp, _, _, _, y, zs, h', rfl, my, fun j hj => ?_, he⟩
      obtain ⟨z, h1, h2, _⟩ := hz j hj hj
      exact ⟨z, h1, h2⟩
  obtain ⟨r, hr, a0, a1, l, y, zs, h', rfl, my, hz, he⟩ := L [.c (.ptr p 0), .c .nils, .c .nils, .tup [], .c (.bool false), .c (.sl b 0 rows.length (.dy 1)), .c (.int .i64 (rows.length : Int)), .c (.int .i64 0), .tup []] rfl
  simp only [enter_eq, ev_seq, seqK_norm, seqK_exit, seqK_ret, ev_reg, ev_cond, condK_true, condK_false, ev_block, blockK_norm, blockK_ret, blockK_exit, ev_loop, ev_skip, ev_exit, ev_ret, regK_cons, regK_nil, guard_none, guard_some, regG_true, regG_false, regO_some, op_mov, op_conv, op_bin, op_bsl, op_box, op_mks, op_s2b, op_pick, op_un, op_eq, op_len, op_ext, op_load, op_iaddr, op_slice, op_b2s, op_idxS, op_mx, op_mn, op_call, op_store, op_app, op_copy, args_eq, result_one', rv_loc, finish_norm, finish_ret, outK_some, keep_true, keep_false, keep_nil, p_bin, p_pick, p_un, p_eq, p_conv, evNew, pureK_some, newK_some, X.eval, set_none, set_some, List.map_cons, List.map_nil, List.getD_cons_zero, List.getD_cons_succ, List.getD_nil, List.set_cons_zero, List.set_cons_succ, binCV, unCV, isShift, intArithF_eq, shiftF_eq, wrapF_eq, intArith, shift, eqVal, bound, asNat_cast, cond_true, cond_false, BEq.rfl, beq_self_eq_true, evalParts, fillParts, AV.cells, AV.ofCells, XV.av, AV.xv, List.length_cons, List.length_nil, zeros, patch, setMany, List.nil_append, List.cons_append, Nat.ble, Nat.add_eq, Nat.zero_add, Nat.add_zero, Nat.reduceAdd, Nat.reduceMul, Nat.reduceSub, Nat.ble_eq, Nat.reduceLeDiff, Nat.reduceBEq, Int.reduceBEq, Int.reduceNeg, Bool.and_true, Bool.and_false, Bool.true_and, Bool.false_and, Bool.not_true, Bool.not_false, Bool.true_eq_false, Bool.false_eq_true, Int.reduceLT, Int.reduceLE, Int.reduceGT, Int.reduceGE, decide_true, decide_false, Bool.not_eq_true, loopN_norm, loopN_exit, tf, ft, ff, op_nilchk, p_nilchk, op_faddr, p_faddr, p_load, t.r0, AV.ofCells, ll, hr, blockK_exit_eq]
  exact ⟨_, _, _, rfl, my, hz, he⟩
end
end Lav
