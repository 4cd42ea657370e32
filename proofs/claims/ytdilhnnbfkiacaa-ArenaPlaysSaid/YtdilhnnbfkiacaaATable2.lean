/-
  Layer 5: what a table's functions do with its slots.
-/
import Derived.Test.YtdilhnnbfkiacaaATable1
import Derived.Test.YtdilhnnbfkiacaaFwN
set_option maxRecDepth 100000
set_option linter.unusedSimpArgs false
namespace Lav
open Go (IntKind)

abbrev Slots := List (Int × Int)
def slotC : Slots → List CV
  | [] => []
  | s :: ss => icell s.1 :: icell s.2 :: slotC ss

theorem slotC_len : ∀ (ss : Slots), (slotC ss).length = ss.length * 2
  | [] => rfl
  | s :: ss => by simp [slotC, slotC_len ss]; omega
theorem slotC_key : ∀ (ss : Slots) (i : Nat) (hi : i < ss.length), (slotC ss)[i * 2]? = some (icell ss[i].1)
  | s :: ss, 0, _ => rfl
  | s :: ss, i + 1, h => by
    rw [show (i + 1) * 2 = i * 2 + 1 + 1 by omega]
    exact slotC_key ss i (by simpa using h)
theorem slotC_val : ∀ (ss : Slots) (i : Nat) (hi : i < ss.length), (slotC ss)[i * 2 + 1]? = some (icell ss[i].2)
  | s :: ss, 0, _ => rfl
  | s :: ss, i + 1, h => by
    rw [show (i + 1) * 2 + 1 = i * 2 + 1 + 1 + 1 by omega]
    exact slotC_val ss i (by simpa using h)
theorem slotC_set : ∀ (ss : Slots) (i : Nat) (_ : i < ss.length) (k v : Int), (slotC ss).take (i * 2) ++ [icell k, icell v] ++ (slotC ss).drop (i * 2 + 2) = slotC (ss.set i (k, v))
  | s :: ss, 0, _, k, v => rfl
  | s :: ss, i + 1, h, k, v => by
    have := slotC_set ss i (by simpa using h) k v
    rw [show (i + 1) * 2 = i * 2 + 1 + 1 by omega, show i * 2 + 1 + 1 + 2 = (i * 2 + 2) + 1 + 1 by omega]
    simp only [slotC, List.take_succ_cons, List.drop_succ_cons, List.cons_append, List.set_cons_succ]
    rw [← this]

/-- A table: its cell, its slots, how many keys it counts. -/
structure TB (h : Heap) (p b : Nat) (ss : Slots) (c : Int) : Prop where
  cell : h.get p = some (.cells [.sl b 0 ss.length (.ex ss.length), .int .i64 c])
  slots : h.get b = some (.cells (slotC ss))
  ne : p ≠ b
  pn : p < h.next
  bn : b < h.next

theorem TB.ext {h h' : Heap} {p b : Nat} {ss : Slots} {c : Int} (t : TB h p b ss c) {S : List Nat} (e : ExtB S h h') (hp : p ∉ S) (hb : b ∉ S) : TB h' p b ss c :=
  ⟨e.at_ t.cell t.pn hp, e.at_ t.slots t.bn hb, t.ne, Nat.lt_of_lt_of_le t.pn e.1, Nat.lt_of_lt_of_le t.bn e.1⟩

/-- A slot is written. -/
theorem TB.write {h : Heap} {p b : Nat} {ss : Slots} {c : Int} (t : TB h p b ss c) {i : Nat} (hi : i < ss.length) (k v : Int) :
    ∃ h', h.write b (i * 2) [.int .i64 k, .int .i64 v] = some h' ∧ TB h' p b (ss.set i (k, v)) c ∧ ExtB [p, b] h h' ∧ h'.next = h.next := by
  have w := write_many (vs := [icell k, icell v]) (o := i * 2) t.slots (by rw [slotC_len]; simp; omega)
  have e : (slotC ss).take (i * 2) ++ [icell k, icell v] ++ (slotC ss).drop (i * 2 + [icell k, icell v].length) = slotC (ss.set i (k, v)) := slotC_set ss i hi k v
  rw [e] at w
  exact ⟨_, w, ⟨by rw [get_put_ne t.ne, List.length_set]; exact t.cell, get_put_at, t.ne, t.pn, t.bn⟩, (ExtB.refl _ _).put (.inr (by simp)) _, rfl⟩

/-- The count is written. -/
theorem TB.count {h : Heap} {p b : Nat} {ss : Slots} {c : Int} (t : TB h p b ss c) (c' : Int) :
    ∃ h', h.write p 1 [.int .i64 c'] = some h' ∧ TB h' p b ss c' ∧ ExtB [p, b] h h' ∧ h'.next = h.next :=
  ⟨_, write_one t.cell (by simp), ⟨get_put_at, by rw [get_put_ne (Ne.symm t.ne)]; exact t.slots, t.ne, t.pn, t.bn⟩, (ExtB.refl _ _).put (.inr (by simp)) _, rfl⟩

theorem TB.r0 {h : Heap} {p b : Nat} {ss : Slots} {c : Int} (t : TB h p b ss c) : h.read p 0 1 = some [.sl b 0 ss.length (.ex ss.length)] := read_cells t.cell rfl
theorem TB.r1 {h : Heap} {p b : Nat} {ss : Slots} {c : Int} (t : TB h p b ss c) : h.read p 1 1 = some [.int .i64 c] := read_cells t.cell rfl
theorem TB.rk {h : Heap} {p b : Nat} {ss : Slots} {c : Int} (t : TB h p b ss c) {i : Nat} (hi : i < ss.length) : h.read b (i * 2) 1 = some [.int .i64 ss[i].1] := read_cells t.slots (slotC_key ss i hi)
theorem TB.rv {h : Heap} {p b : Nat} {ss : Slots} {c : Int} (t : TB h p b ss c) {i : Nat} (hi : i < ss.length) : h.read b (i * 2 + 1) 1 = some [.int .i64 ss[i].2] := read_cells t.slots (slotC_val ss i hi)

/-- The search from a place on: where the key is, where it may stand. -/
def findGo (ss : Slots) (key : Int) : Nat → Nat → Int → Int × Int
  | 0, _, room => (-1, room)
  | c + 1, a, room =>
    if (ss.getD a (0, 0)).1 = key then ((a : Int), room)
    else if (ss.getD a (0, 0)).1 = -1 then (if room < 0 then (-1, (a : Int)) else (-1, room))
    else findGo ss key c ((a + 1) % ss.length) (if (ss.getD a (0, 0)).1 = -2 ∧ room < 0 then (a : Int) else room)
def findM (ss : Slots) (key : Int) : Int × Int := findGo ss key ss.length (placeM key ss.length).toNat (-1)

theorem getD_slot {ss : Slots} {i : Nat} (h : i < ss.length) : ss.getD i (0, 0) = ss[i] := by simp [List.getD_eq_getElem?_getD, h]

section
variable {N d : Nat} {h : Heap} {p b : Nat} {ss : Slots} {c : Int}

theorem wipe_ok (t : TB h p b ss c) (hN : ss.length + 2 ≤ N) (hn : ss.length ≤ 1024) :
    ∃ h', evCallT table 18 N (d + 1) 47 [.c (.ptr p 0)] h = some (.tup [], h') ∧ TB h' p b (List.replicate ss.length (-1, 0)) c ∧ ExtB [p, b] h h' := by
  have ll : ∀ loc vals h', evPure loc (.c (.sl b 0 ss.length (.ex ss.length)) :: vals) h' (.len .sl (.val 0)) = some (.c (.int .i64 (ss.length : Int))) := fun _ _ _ => rfl
  rw [evCallT_eq (F := ir47) rfl rfl rfl]
  unfold ir47
  rw [bodyK_eq]
  have L : ∀ loc, keepOnly ir47_k0 loc = [.c (.ptr p 0), .junk, .c (.int .i64 (ss.length : Int)), .c (.int .i64 0), .junk] →
      ∃ r, loopK (evCallT table 18 N d) N ir47_k0 ir47_l0 N loc h = some r ∧ ∃ l h', r = (.exit 0, l, h') ∧ TB h' p b (List.replicate ss.length (-1, 0)) c ∧ ExtB [p, b] h h' := by
    intro loc hloc
    refine loop_inv (n := ss.length) (fun i loc h' => ∃ ss' : Slots, ss'.length = ss.length ∧ (∀ j, j < i → ss'[j]? = some (-1, 0)) ∧ TB h' p b ss' c ∧ ExtB [p, b] h h' ∧ loc = [.c (.ptr p 0), .junk, .c (.int .i64 (ss.length : Int)), .c (.int .i64 (i : Int)), .junk]) _ ?_ ⟨ss, rfl, fun j hj => absurd hj (by omega), t, ExtB.refl _ _, hloc⟩ (by omega)
    rintro i loc h' hi ⟨ss', hl, hj, t', he, rfl⟩
    unfold ir47_l0
    by_cases hlt : i < ss.length
    · left
      refine ⟨hlt, ?_⟩
      have v1 : decide ((i : Int) < (ss.length : Int)) = true := ltNat hlt
      have v2 := succI (i := i) (by omega)
      obtain ⟨h1, w1, t1, x1, n1⟩ := t'.write (i := i) (by omega) (-1) 0
      have r0 := t'.r0
      have m1 : Nat.blt i ss'.length = true := bltT (by omega)
      simp only [enter_eq, ev_seq, seqK_norm, seqK_exit, seqK_ret, ev_reg, ev_cond, condK_true, condK_false, ev_block, blockK_norm, blockK_ret, blockK_exit, ev_loop, ev_skip, ev_exit, ev_ret, regK_cons, regK_nil, guard_none, guard_some, regG_true, regG_false, regO_some, op_mov, op_conv, op_bin, op_bsl, op_box, op_mks, op_s2b, op_pick, op_un, op_eq, op_len, op_ext, op_load, op_iaddr, op_slice, op_b2s, op_idxS, op_mx, op_mn, op_call, op_store, op_app, op_copy, args_eq, result_one', rv_loc, finish_norm, finish_ret, outK_some, keep_true, keep_false, keep_nil, p_bin, p_pick, p_un, p_eq, p_conv, evNew, pureK_some, newK_some, X.eval, set_none, set_some, List.map_cons, List.map_nil, List.getD_cons_zero, List.getD_cons_succ, List.getD_nil, List.set_cons_zero, List.set_cons_succ, binCV, unCV, isShift, intArithF_eq, shiftF_eq, wrapF_eq, intArith, shift, eqVal, bound, asNat_cast, cond_true, cond_false, BEq.rfl, beq_self_eq_true, evalParts, fillParts, AV.cells, AV.ofCells, XV.av, AV.xv, List.length_cons, List.length_nil, zeros, patch, setMany, List.nil_append, List.cons_append, Nat.ble, Nat.add_eq, Nat.zero_add, Nat.add_zero, Nat.reduceAdd, Nat.reduceMul, Nat.reduceSub, Nat.ble_eq, Nat.reduceLeDiff, Nat.reduceBEq, Int.reduceBEq, Int.reduceNeg, Bool.and_true, Bool.and_false, Bool.true_and, Bool.false_and, Bool.not_true, Bool.not_false, Bool.true_eq_false, Bool.false_eq_true, Int.reduceLT, Int.reduceLE, Int.reduceGT, Int.reduceGE, decide_true, decide_false, Bool.not_eq_true, loopN_norm, loopN_exit, tf, ft, ff, op_nilchk, p_nilchk, op_faddr, p_faddr, op_build, p_build', p_iaddr, p_load, r0, AV.ofCells, m1, v1, v2, evEff, w1]
      refine ⟨_, _, rfl, _, by simpa using hl, fun j hji => ?_, t1, he.trans x1, rfl⟩
      by_cases e : j = i
      · subst e; rw [List.getElem?_set_self (by omega)]
      · rw [List.getElem?_set_ne (by omega)]; exact hj j (by omega)
    · right
      have hin : i = ss.length := by omega
      subst hin
      have v1 : decide ((ss.length : Int) < (ss.length : Int)) = false := geNat (Nat.le_refl _)
      simp only [enter_eq, ev_seq, seqK_norm, seqK_exit, seqK_ret, ev_reg, ev_cond, condK_true, condK_false, ev_block, blockK_norm, blockK_ret, blockK_exit, ev_loop, ev_skip, ev_exit, ev_ret, regK_cons, regK_nil, guard_none, guard_some, regG_true, regG_false, regO_some, op_mov, op_conv, op_bin, op_bsl, op_box, op_mks, op_s2b, op_pick, op_un, op_eq, op_len, op_ext, op_load, op_iaddr, op_slice, op_b2s, op_idxS, op_mx, op_mn, op_call, op_store, op_app, op_copy, args_eq, result_one', rv_loc, finish_norm, finish_ret, outK_some, keep_true, keep_false, keep_nil, p_bin, p_pick, p_un, p_eq, p_conv, evNew, pureK_some, newK_some, X.eval, set_none, set_some, List.map_cons, List.map_nil, List.getD_cons_zero, List.getD_cons_succ, List.getD_nil, List.set_cons_zero, List.set_cons_succ, binCV, unCV, isShift, intArithF_eq, shiftF_eq, wrapF_eq, intArith, shift, eqVal, bound, asNat_cast, cond_true, cond_false, BEq.rfl, beq_self_eq_true, evalParts, fillParts, AV.cells, AV.ofCells, XV.av, AV.xv, List.length_cons, List.length_nil, zeros, patch, setMany, List.nil_append, List.cons_append, Nat.ble, Nat.add_eq, Nat.zero_add, Nat.add_zero, Nat.reduceAdd, Nat.reduceMul, Nat.reduceSub, Nat.ble_eq, Nat.reduceLeDiff, Nat.reduceBEq, Int.reduceBEq, Int.reduceNeg, Bool.and_true, Bool.and_false, Bool.true_and, Bool.false_and, Bool.not_true, Bool.not_false, Bool.true_eq_false, Bool.false_eq_true, Int.reduceLT, Int.reduceLE, Int.reduceGT, Int.reduceGE, decide_true, decide_false, Bool.not_eq_true, loopN_norm, loopN_exit, tf, ft, ff, v1]
      have : ss' = List.replicate ss.length (-1, 0) := by
        apply List.ext_getElem?
        intro j
        rcases Nat.lt_or_ge j ss.length with h1 | h1
        · rw [hj j h1]; simp [h1]
        · rw [List.getElem?_eq_none (by omega), List.getElem?_eq_none (by simp; omega)]
      subst this
      exact ⟨_, rfl, by simp, _, h', rfl, t', he⟩
  obtain ⟨r, hr, l, h', rfl, t', he⟩ := L [.c (.ptr p 0), .tup [], .c (.int .i64 (ss.length : Int)), .c (.int .i64 0), .tup []] rfl
  have r0 := t.r0
  simp only [enter_eq, ev_seq, seqK_norm, seqK_exit, seqK_ret, ev_reg, ev_cond, condK_true, condK_false, ev_block, blockK_norm, blockK_ret, blockK_exit, ev_loop, ev_skip, ev_exit, ev_ret, regK_cons, regK_nil, guard_none, guard_some, regG_true, regG_false, regO_some, op_mov, op_conv, op_bin, op_bsl, op_box, op_mks, op_s2b, op_pick, op_un, op_eq, op_len, op_ext, op_load, op_iaddr, op_slice, op_b2s, op_idxS, op_mx, op_mn, op_call, op_store, op_app, op_copy, args_eq, result_one', rv_loc, finish_norm, finish_ret, outK_some, keep_true, keep_false, keep_nil, p_bin, p_pick, p_un, p_eq, p_conv, evNew, pureK_some, newK_some, X.eval, set_none, set_some, List.map_cons, List.map_nil, List.getD_cons_zero, List.getD_cons_succ, List.getD_nil, List.set_cons_zero, List.set_cons_succ, binCV, unCV, isShift, intArithF_eq, shiftF_eq, wrapF_eq, intArith, shift, eqVal, bound, asNat_cast, cond_true, cond_false, BEq.rfl, beq_self_eq_true, evalParts, fillParts, AV.cells, AV.ofCells, XV.av, AV.xv, List.length_cons, List.length_nil, zeros, patch, setMany, List.nil_append, List.cons_append, Nat.ble, Nat.add_eq, Nat.zero_add, Nat.add_zero, Nat.reduceAdd, Nat.reduceMul, Nat.reduceSub, Nat.ble_eq, Nat.reduceLeDiff, Nat.reduceBEq, Int.reduceBEq, Int.reduceNeg, Bool.and_true, Bool.and_false, Bool.true_and, Bool.false_and, Bool.not_true, Bool.not_false, Bool.true_eq_false, Bool.false_eq_true, Int.reduceLT, Int.reduceLE, Int.reduceGT, Int.reduceGE, decide_true, decide_false, Bool.not_eq_true, loopN_norm, loopN_exit, tf, ft, ff, op_nilchk, p_nilchk, op_faddr, p_faddr, p_load, r0, AV.ofCells, ll, hr, blockK_exit_eq, result, evResults]
  exact ⟨_, rfl, t', he⟩

theorem find_ok (t : TB h p b ss c) (key : Int) (hk : 0 ≤ key) (hN : ss.length + 2 ≤ N) (h1 : 1 ≤ ss.length) (h2 : ss.length ≤ 1024) :
    evCallT table 18 N (d + 2) 48 [.c (.ptr p 0), .c (.int .i64 key)] h = some (.tup [.c (.int .i64 (findM ss key).1), .c (.int .i64 (findM ss key).2)], h) := by
  have ll : ∀ loc vals h', evPure loc (.c (.sl b 0 ss.length (.ex ss.length)) :: vals) h' (.len .sl (.val 0)) = some (.c (.int .i64 (ss.length : Int))) := fun _ _ _ => rfl
  obtain ⟨pb1, pb2, _⟩ := place_bounds (key := key) (size := (ss.length : Int)) (by omega) (by omega) hk
  obtain ⟨a0, ha0, ha0'⟩ : ∃ a0 : Nat, placeM key (ss.length : Int) = (a0 : Int) ∧ a0 < ss.length := ⟨(placeM key (ss.length : Int)).toNat, by omega, by omega⟩
  have e1 : evCallT table 18 N (d + 1) 52 [.c (.int .i64 key), .c (.int .i64 (ss.length : Int))] h = some (.c (.int .i64 (a0 : Int)), h) := by rw [place_ok, ha0]
  have r0 := t.r0
  have hR0 : findM ss key = findGo ss key ss.length a0 (-1) := by unfold findM; rw [ha0, Int.toNat_natCast]
  generalize hR : findM ss key = R at *
  rw [evCallT_eq (F := ir48) rfl rfl rfl]
  unfold ir48
  rw [bodyK_eq]
  have L : ∀ loc, keepOnly ir48_k0 loc = [.c (.ptr p 0), .c (.int .i64 key), .junk, .junk, .c (.int .i64 (a0 : Int)), .c (.int .i64 (-1)), .junk, .c (.int .i64 (ss.length : Int)), .c (.int .i64 0), .junk, .junk, .junk, .junk, .junk] →
      ∃ r, loopK (evCallT table 18 N (d + 1)) N ir48_k0 ir48_l0 N loc h = some r ∧ ((R.1 = -1 ∧ ∃ c0 c1 c2 c3 c4 l, r = (.exit 0, c0 :: c1 :: c2 :: c3 :: c4 :: .c (.int .i64 R.2) :: l, h)) ∨ ∃ c0 c1 l, r = (.ret, c0 :: c1 :: .c (.int .i64 R.1) :: .c (.int .i64 R.2) :: l, h)) := by
    intro loc hloc
    refine loop_inv (n := ss.length) (fun i loc h' => h' = h ∧ ∃ (a : Nat) (room : Int), a < ss.length ∧ findGo ss key (ss.length - i) a room = R ∧ loc = [.c (.ptr p 0), .c (.int .i64 key), .junk, .junk, .c (.int .i64 (a : Int)), .c (.int .i64 room), .junk, .c (.int .i64 (ss.length : Int)), .c (.int .i64 (i : Int)), .junk, .junk, .junk, .junk, .junk]) _ ?_ ⟨rfl, a0, -1, ha0', hR0.symm, hloc⟩ (by omega)
    rintro i loc h' hi ⟨rfl, a, room, ha, hres, rfl⟩
    unfold ir48_l0
    by_cases hlt : i < ss.length
    · have v1 : decide ((i : Int) < (ss.length : Int)) = true := ltNat hlt
      have v2 := succI (i := i) (by omega)
      have v3 : Int.tmod (IntKind.i64.wrap ((a : Int) + 1)) (ss.length : Int) = (((a + 1) % ss.length : Nat) : Int) := by rw [succI (by omega)]; rfl
      have v4 : ((ss.length : Int) == 0) = false := by simp only [beq_eq_false_iff_ne, ne_eq]; omega
      have m1 : Nat.blt a ss.length = true := bltT ha
      have rk := t.rk ha
      rw [show ss.length - i = (ss.length - (i + 1)) + 1 by omega] at hres
      unfold findGo at hres
      rw [getD_slot ha] at hres
      have hmod : (a + 1) % ss.length < ss.length := Nat.mod_lt _ (by omega)
      by_cases c1 : ss[a].1 = key
      · right
        rw [if_pos c1] at hres
        have q1 : (ss[a].1 == key) = true := by simp [c1]
        simp only [enter_eq, ev_seq, seqK_norm, seqK_exit, seqK_ret, ev_reg, ev_cond, condK_true, condK_false, ev_block, blockK_norm, blockK_ret, blockK_exit, ev_loop, ev_skip, ev_exit, ev_ret, regK_cons, regK_nil, guard_none, guard_some, regG_true, regG_false, regO_some, op_mov, op_conv, op_bin, op_bsl, op_box, op_mks, op_s2b, op_pick, op_un, op_eq, op_len, op_ext, op_load, op_iaddr, op_slice, op_b2s, op_idxS, op_mx, op_mn, op_call, op_store, op_app, op_copy, args_eq, result_one', rv_loc, finish_norm, finish_ret, outK_some, keep_true, keep_false, keep_nil, p_bin, p_pick, p_un, p_eq, p_conv, evNew, pureK_some, newK_some, X.eval, set_none, set_some, List.map_cons, List.map_nil, List.getD_cons_zero, List.getD_cons_succ, List.getD_nil, List.set_cons_zero, List.set_cons_succ, binCV, unCV, isShift, intArithF_eq, shiftF_eq, wrapF_eq, intArith, shift, eqVal, bound, asNat_cast, cond_true, cond_false, BEq.rfl, beq_self_eq_true, evalParts, fillParts, AV.cells, AV.ofCells, XV.av, AV.xv, List.length_cons, List.length_nil, zeros, patch, setMany, List.nil_append, List.cons_append, Nat.ble, Nat.add_eq, Nat.zero_add, Nat.add_zero, Nat.reduceAdd, Nat.reduceMul, Nat.reduceSub, Nat.ble_eq, Nat.reduceLeDiff, Nat.reduceBEq, Int.reduceBEq, Int.reduceNeg, Bool.and_true, Bool.and_false, Bool.true_and, Bool.false_and, Bool.not_true, Bool.not_false, Bool.true_eq_false, Bool.false_eq_true, Int.reduceLT, Int.reduceLE, Int.reduceGT, Int.reduceGE, decide_true, decide_false, Bool.not_eq_true, loopN_norm, loopN_exit, tf, ft, ff, op_nilchk, p_nilchk, op_faddr, p_faddr, p_iaddr, p_load, r0, AV.ofCells, m1, v1, rk, q1]
        exact ⟨_, rfl, by simp, .inr ⟨_, _, _, by rw [← hres]⟩⟩
      have q1 : (ss[a].1 == key) = false := by simp [c1]
      rw [if_neg c1] at hres
      by_cases c2 : ss[a].1 = -1
      · rw [if_pos c2] at hres
        have q2 : (ss[a].1 == -1) = true := by simp [c2]
        right
        by_cases c3 : room < 0
        · rw [if_pos c3] at hres
          simp only [enter_eq, ev_seq, seqK_norm, seqK_exit, seqK_ret, ev_reg, ev_cond, condK_true, condK_false, ev_block, blockK_norm, blockK_ret, blockK_exit, ev_loop, ev_skip, ev_exit, ev_ret, regK_cons, regK_nil, guard_none, guard_some, regG_true, regG_false, regO_some, op_mov, op_conv, op_bin, op_bsl, op_box, op_mks, op_s2b, op_pick, op_un, op_eq, op_len, op_ext, op_load, op_iaddr, op_slice, op_b2s, op_idxS, op_mx, op_mn, op_call, op_store, op_app, op_copy, args_eq, result_one', rv_loc, finish_norm, finish_ret, outK_some, keep_true, keep_false, keep_nil, p_bin, p_pick, p_un, p_eq, p_conv, evNew, pureK_some, newK_some, X.eval, set_none, set_some, List.map_cons, List.map_nil, List.getD_cons_zero, List.getD_cons_succ, List.getD_nil, List.set_cons_zero, List.set_cons_succ, binCV, unCV, isShift, intArithF_eq, shiftF_eq, wrapF_eq, intArith, shift, eqVal, bound, asNat_cast, cond_true, cond_false, BEq.rfl, beq_self_eq_true, evalParts, fillParts, AV.cells, AV.ofCells, XV.av, AV.xv, List.length_cons, List.length_nil, zeros, patch, setMany, List.nil_append, List.cons_append, Nat.ble, Nat.add_eq, Nat.zero_add, Nat.add_zero, Nat.reduceAdd, Nat.reduceMul, Nat.reduceSub, Nat.ble_eq, Nat.reduceLeDiff, Nat.reduceBEq, Int.reduceBEq, Int.reduceNeg, Bool.and_true, Bool.and_false, Bool.true_and, Bool.false_and, Bool.not_true, Bool.not_false, Bool.true_eq_false, Bool.false_eq_true, Int.reduceLT, Int.reduceLE, Int.reduceGT, Int.reduceGE, decide_true, decide_false, Bool.not_eq_true, loopN_norm, loopN_exit, tf, ft, ff, op_nilchk, p_nilchk, op_faddr, p_faddr, p_iaddr, p_load, r0, AV.ofCells, m1, v1, rk, q1, q2, decide_eq_true c3]
          exact ⟨_, rfl, by simp, .inr ⟨_, _, _, by rw [← hres]⟩⟩
        · rw [if_neg c3] at hres
          simp only [enter_eq, ev_seq, seqK_norm, seqK_exit, seqK_ret, ev_reg, ev_cond, condK_true, condK_false, ev_block, blockK_norm, blockK_ret, blockK_exit, ev_loop, ev_skip, ev_exit, ev_ret, regK_cons, regK_nil, guard_none, guard_some, regG_true, regG_false, regO_some, op_mov, op_conv, op_bin, op_bsl, op_box, op_mks, op_s2b, op_pick, op_un, op_eq, op_len, op_ext, op_load, op_iaddr, op_slice, op_b2s, op_idxS, op_mx, op_mn, op_call, op_store, op_app, op_copy, args_eq, result_one', rv_loc, finish_norm, finish_ret, outK_some, keep_true, keep_false, keep_nil, p_bin, p_pick, p_un, p_eq, p_conv, evNew, pureK_some, newK_some, X.eval, set_none, set_some, List.map_cons, List.map_nil, List.getD_cons_zero, List.getD_cons_succ, List.getD_nil, List.set_cons_zero, List.set_cons_succ, binCV, unCV, isShift, intArithF_eq, shiftF_eq, wrapF_eq, intArith, shift, eqVal, bound, asNat_cast, cond_true, cond_false, BEq.rfl, beq_self_eq_true, evalParts, fillParts, AV.cells, AV.ofCells, XV.av, AV.xv, List.length_cons, List.length_nil, zeros, patch, setMany, List.nil_append, List.cons_append, Nat.ble, Nat.add_eq, Nat.zero_add, Nat.add_zero, Nat.reduceAdd, Nat.reduceMul, Nat.reduceSub, Nat.ble_eq, Nat.reduceLeDiff, Nat.reduceBEq, Int.reduceBEq, Int.reduceNeg, Bool.and_true, Bool.and_false, Bool.true_and, Bool.false_and, Bool.not_true, Bool.not_false, Bool.true_eq_false, Bool.false_eq_true, Int.reduceLT, Int.reduceLE, Int.reduceGT, Int.reduceGE, decide_true, decide_false, Bool.not_eq_true, loopN_norm, loopN_exit, tf, ft, ff, op_nilchk, p_nilchk, op_faddr, p_faddr, p_iaddr, p_load, r0, AV.ofCells, m1, v1, rk, q1, q2, decide_eq_false c3]
          exact ⟨_, rfl, by simp, .inl ⟨by rw [← hres], _, _, _, _, _, _, by rw [← hres]⟩⟩
      · rw [if_neg c2] at hres
        have q2 : (ss[a].1 == -1) = false := by simp [c2]
        left
        refine ⟨hlt, ?_⟩
        by_cases c3 : ss[a].1 = -2
        · have q3 : (ss[a].1 == -2) = true := by simp [c3]
          by_cases c4 : room < 0
          · rw [if_pos ⟨c3, c4⟩] at hres
            simp only [enter_eq, ev_seq, seqK_norm, seqK_exit, seqK_ret, ev_reg, ev_cond, condK_true, condK_false, ev_block, blockK_norm, blockK_ret, blockK_exit, ev_loop, ev_skip, ev_exit, ev_ret, regK_cons, regK_nil, guard_none, guard_some, regG_true, regG_false, regO_some, op_mov, op_conv, op_bin, op_bsl, op_box, op_mks, op_s2b, op_pick, op_un, op_eq, op_len, op_ext, op_load, op_iaddr, op_slice, op_b2s, op_idxS, op_mx, op_mn, op_call, op_store, op_app, op_copy, args_eq, result_one', rv_loc, finish_norm, finish_ret, outK_some, keep_true, keep_false, keep_nil, p_bin, p_pick, p_un, p_eq, p_conv, evNew, pureK_some, newK_some, X.eval, set_none, set_some, List.map_cons, List.map_nil, List.getD_cons_zero, List.getD_cons_succ, List.getD_nil, List.set_cons_zero, List.set_cons_succ, binCV, unCV, isShift, intArithF_eq, shiftF_eq, wrapF_eq, intArith, shift, eqVal, bound, asNat_cast, cond_true, cond_false, BEq.rfl, beq_self_eq_true, evalParts, fillParts, AV.cells, AV.ofCells, XV.av, AV.xv, List.length_cons, List.length_nil, zeros, patch, setMany, List.nil_append, List.cons_append, Nat.ble, Nat.add_eq, Nat.zero_add, Nat.add_zero, Nat.reduceAdd, Nat.reduceMul, Nat.reduceSub, Nat.ble_eq, Nat.reduceLeDiff, Nat.reduceBEq, Int.reduceBEq, Int.reduceNeg, Bool.and_true, Bool.and_false, Bool.true_and, Bool.false_and, Bool.not_true, Bool.not_false, Bool.true_eq_false, Bool.false_eq_true, Int.reduceLT, Int.reduceLE, Int.reduceGT, Int.reduceGE, decide_true, decide_false, Bool.not_eq_true, loopN_norm, loopN_exit, tf, ft, ff, op_nilchk, p_nilchk, op_faddr, p_faddr, p_iaddr, p_load, r0, AV.ofCells, m1, v1, v2, v3, v4, ll, rk, q1, q2, q3, decide_eq_true c4]
            exact ⟨_, _, rfl, rfl, _, _, hmod, hres, rfl⟩
          · rw [if_neg (fun e => c4 e.2)] at hres
            simp only [enter_eq, ev_seq, seqK_norm, seqK_exit, seqK_ret, ev_reg, ev_cond, condK_true, condK_false, ev_block, blockK_norm, blockK_ret, blockK_exit, ev_loop, ev_skip, ev_exit, ev_ret, regK_cons, regK_nil, guard_none, guard_some, regG_true, regG_false, regO_some, op_mov, op_conv, op_bin, op_bsl, op_box, op_mks, op_s2b, op_pick, op_un, op_eq, op_len, op_ext, op_load, op_iaddr, op_slice, op_b2s, op_idxS, op_mx, op_mn, op_call, op_store, op_app, op_copy, args_eq, result_one', rv_loc, finish_norm, finish_ret, outK_some, keep_true, keep_false, keep_nil, p_bin, p_pick, p_un, p_eq, p_conv, evNew, pureK_some, newK_some, X.eval, set_none, set_some, List.map_cons, List.map_nil, List.getD_cons_zero, List.getD_cons_succ, List.getD_nil, List.set_cons_zero, List.set_cons_succ, binCV, unCV, isShift, intArithF_eq, shiftF_eq, wrapF_eq, intArith, shift, eqVal, bound, asNat_cast, cond_true, cond_false, BEq.rfl, beq_self_eq_true, evalParts, fillParts, AV.cells, AV.ofCells, XV.av, AV.xv, List.length_cons, List.length_nil, zeros, patch, setMany, List.nil_append, List.cons_append, Nat.ble, Nat.add_eq, Nat.zero_add, Nat.add_zero, Nat.reduceAdd, Nat.reduceMul, Nat.reduceSub, Nat.ble_eq, Nat.reduceLeDiff, Nat.reduceBEq, Int.reduceBEq, Int.reduceNeg, Bool.and_true, Bool.and_false, Bool.true_and, Bool.false_and, Bool.not_true, Bool.not_false, Bool.true_eq_false, Bool.false_eq_true, Int.reduceLT, Int.reduceLE, Int.reduceGT, Int.reduceGE, decide_true, decide_false, Bool.not_eq_true, loopN_norm, loopN_exit, tf, ft, ff, op_nilchk, p_nilchk, op_faddr, p_faddr, p_iaddr, p_load, r0, AV.ofCells, m1, v1, v2, v3, v4, ll, rk, q1, q2, q3, decide_eq_false c4]
            exact ⟨_, _, rfl, rfl, _, _, hmod, hres, rfl⟩
        · have q3 : (ss[a].1 == -2) = false := by simp [c3]
          rw [if_neg (fun e => c3 e.1)] at hres
          simp only [enter_eq, ev_seq, seqK_norm, seqK_exit, seqK_ret, ev_reg, ev_cond, condK_true, condK_false, ev_block, blockK_norm, blockK_ret, blockK_exit, ev_loop, ev_skip, ev_exit, ev_ret, regK_cons, regK_nil, guard_none, guard_some, regG_true, regG_false, regO_some, op_mov, op_conv, op_bin, op_bsl, op_box, op_mks, op_s2b, op_pick, op_un, op_eq, op_len, op_ext, op_load, op_iaddr, op_slice, op_b2s, op_idxS, op_mx, op_mn, op_call, op_store, op_app, op_copy, args_eq, result_one', rv_loc, finish_norm, finish_ret, outK_some, keep_true, keep_false, keep_nil, p_bin, p_pick, p_un, p_eq, p_conv, evNew, pureK_some, newK_some, X.eval, set_none, set_some, List.map_cons, List.map_nil, List.getD_cons_zero, List.getD_cons_succ, List.getD_nil, List.set_cons_zero, List.set_cons_succ, binCV, unCV, isShift, intArithF_eq, shiftF_eq, wrapF_eq, intArith, shift, eqVal, bound, asNat_cast, cond_true, cond_false, BEq.rfl, beq_self_eq_true, evalParts, fillParts, AV.cells, AV.ofCells, XV.av, AV.xv, List.length_cons, List.length_nil, zeros, patch, setMany, List.nil_append, List.cons_append, Nat.ble, Nat.add_eq, Nat.zero_add, Nat.add_zero, Nat.reduceAdd, Nat.reduceMul, Nat.reduceSub, Nat.ble_eq, Nat.reduceLeDiff, Nat.reduceBEq, Int.reduceBEq, Int.reduceNeg, Bool.and_true, Bool.and_false, Bool.true_and, Bool.false_and, Bool.not_true, Bool.not_false, Bool.true_eq_false, Bool.false_eq_true, Int.reduceLT, Int.reduceLE, Int.reduceGT, Int.reduceGE, decide_true, decide_false, Bool.not_eq_true, loopN_norm, loopN_exit, tf, ft, ff, op_nilchk, p_nilchk, op_faddr, p_faddr, p_iaddr, p_load, r0, AV.ofCells, m1, v1, v2, v3, v4, ll, rk, q1, q2, q3]
          exact ⟨_, _, rfl, rfl, _, _, hmod, hres, rfl⟩
    · right
      have hin : i = ss.length := by omega
      subst hin
      have v1 : decide ((ss.length : Int) < (ss.length : Int)) = false := geNat (Nat.le_refl _)
      rw [Nat.sub_self] at hres
      simp only [enter_eq, ev_seq, seqK_norm, seqK_exit, seqK_ret, ev_reg, ev_cond, condK_true, condK_false, ev_block, blockK_norm, blockK_ret, blockK_exit, ev_loop, ev_skip, ev_exit, ev_ret, regK_cons, regK_nil, guard_none, guard_some, regG_true, regG_false, regO_some, op_mov, op_conv, op_bin, op_bsl, op_box, op_mks, op_s2b, op_pick, op_un, op_eq, op_len, op_ext, op_load, op_iaddr, op_slice, op_b2s, op_idxS, op_mx, op_mn, op_call, op_store, op_app, op_copy, args_eq, result_one', rv_loc, finish_norm, finish_ret, outK_some, keep_true, keep_false, keep_nil, p_bin, p_pick, p_un, p_eq, p_conv, evNew, pureK_some, newK_some, X.eval, set_none, set_some, List.map_cons, List.map_nil, List.getD_cons_zero, List.getD_cons_succ, List.getD_nil, List.set_cons_zero, List.set_cons_succ, binCV, unCV, isShift, intArithF_eq, shiftF_eq, wrapF_eq, intArith, shift, eqVal, bound, asNat_cast, cond_true, cond_false, BEq.rfl, beq_self_eq_true, evalParts, fillParts, AV.cells, AV.ofCells, XV.av, AV.xv, List.length_cons, List.length_nil, zeros, patch, setMany, List.nil_append, List.cons_append, Nat.ble, Nat.add_eq, Nat.zero_add, Nat.add_zero, Nat.reduceAdd, Nat.reduceMul, Nat.reduceSub, Nat.ble_eq, Nat.reduceLeDiff, Nat.reduceBEq, Int.reduceBEq, Int.reduceNeg, Bool.and_true, Bool.and_false, Bool.true_and, Bool.false_and, Bool.not_true, Bool.not_false, Bool.true_eq_false, Bool.false_eq_true, Int.reduceLT, Int.reduceLE, Int.reduceGT, Int.reduceGE, decide_true, decide_false, Bool.not_eq_true, loopN_norm, loopN_exit, tf, ft, ff, v1]
      exact ⟨_, rfl, by simp, .inl ⟨by rw [← hres]; rfl, _, _, _, _, _, _, by rw [← hres]; rfl⟩⟩
  obtain ⟨r, hr, ⟨hm, c0, c1, c2, c3, c4, l, rfl⟩ | ⟨c0, c1, l, rfl⟩⟩ := L [.c (.ptr p 0), .c (.int .i64 key), .c (.int .i64 0), .c (.int .i64 0), .c (.int .i64 (a0 : Int)), .c (.int .i64 (-1)), .tup [], .c (.int .i64 (ss.length : Int)), .c (.int .i64 0), .tup [], .tup [], .tup [], .tup [], .tup []] rfl
  · simp only [enter_eq, ev_seq, seqK_norm, seqK_exit, seqK_ret, ev_reg, ev_cond, condK_true, condK_false, ev_block, blockK_norm, blockK_ret, blockK_exit, ev_loop, ev_skip, ev_exit, ev_ret, regK_cons, regK_nil, guard_none, guard_some, regG_true, regG_false, regO_some, op_mov, op_conv, op_bin, op_bsl, op_box, op_mks, op_s2b, op_pick, op_un, op_eq, op_len, op_ext, op_load, op_iaddr, op_slice, op_b2s, op_idxS, op_mx, op_mn, op_call, op_store, op_app, op_copy, args_eq, result_one', rv_loc, finish_norm, finish_ret, outK_some, keep_true, keep_false, keep_nil, p_bin, p_pick, p_un, p_eq, p_conv, evNew, pureK_some, newK_some, X.eval, set_none, set_some, List.map_cons, List.map_nil, List.getD_cons_zero, List.getD_cons_succ, List.getD_nil, List.set_cons_zero, List.set_cons_succ, binCV, unCV, isShift, intArithF_eq, shiftF_eq, wrapF_eq, intArith, shift, eqVal, bound, asNat_cast, cond_true, cond_false, BEq.rfl, beq_self_eq_true, evalParts, fillParts, AV.cells, AV.ofCells, XV.av, AV.xv, List.length_cons, List.length_nil, zeros, patch, setMany, List.nil_append, List.cons_append, Nat.ble, Nat.add_eq, Nat.zero_add, Nat.add_zero, Nat.reduceAdd, Nat.reduceMul, Nat.reduceSub, Nat.ble_eq, Nat.reduceLeDiff, Nat.reduceBEq, Int.reduceBEq, Int.reduceNeg, Bool.and_true, Bool.and_false, Bool.true_and, Bool.false_and, Bool.not_true, Bool.not_false, Bool.true_eq_false, Bool.false_eq_true, Int.reduceLT, Int.reduceLE, Int.reduceGT, Int.reduceGE, decide_true, decide_false, Bool.not_eq_true, loopN_norm, loopN_exit, tf, ft, ff, op_nilchk, p_nilchk, op_faddr, p_faddr, p_load, r0, AV.ofCells, ll, e1, hr, blockK_exit_eq, result, evResults, hm]
  · simp only [enter_eq, ev_seq, seqK_norm, seqK_exit, seqK_ret, ev_reg, ev_cond, condK_true, condK_false, ev_block, blockK_norm, blockK_ret, blockK_exit, ev_loop, ev_skip, ev_exit, ev_ret, regK_cons, regK_nil, guard_none, guard_some, regG_true, regG_false, regO_some, op_mov, op_conv, op_bin, op_bsl, op_box, op_mks, op_s2b, op_pick, op_un, op_eq, op_len, op_ext, op_load, op_iaddr, op_slice, op_b2s, op_idxS, op_mx, op_mn, op_call, op_store, op_app, op_copy, args_eq, result_one', rv_loc, finish_norm, finish_ret, outK_some, keep_true, keep_false, keep_nil, p_bin, p_pick, p_un, p_eq, p_conv, evNew, pureK_some, newK_some, X.eval, set_none, set_some, List.map_cons, List.map_nil, List.getD_cons_zero, List.getD_cons_succ, List.getD_nil, List.set_cons_zero, List.set_cons_succ, binCV, unCV, isShift, intArithF_eq, shiftF_eq, wrapF_eq, intArith, shift, eqVal, bound, asNat_cast, cond_true, cond_false, BEq.rfl, beq_self_eq_true, evalParts, fillParts, AV.cells, AV.ofCells, XV.av, AV.xv, List.length_cons, List.length_nil, zeros, patch, setMany, List.nil_append, List.cons_append, Nat.ble, Nat.add_eq, Nat.zero_add, Nat.add_zero, Nat.reduceAdd, Nat.reduceMul, Nat.reduceSub, Nat.ble_eq, Nat.reduceLeDiff, Nat.reduceBEq, Int.reduceBEq, Int.reduceNeg, Bool.and_true, Bool.and_false, Bool.true_and, Bool.false_and, Bool.not_true, Bool.not_false, Bool.true_eq_false, Bool.false_eq_true, Int.reduceLT, Int.reduceLE, Int.reduceGT, Int.reduceGE, decide_true, decide_false, Bool.not_eq_true, loopN_norm, loopN_exit, tf, ft, ff, op_nilchk, p_nilchk, op_faddr, p_faddr, p_load, r0, AV.ofCells, ll, e1, hr, blockK_ret, result, evResults]

def getM (ss : Slots) (key : Int) : Int := if key < 0 ∨ (findM ss key).1 < 0 then -1 else (ss.getD (findM ss key).1.toNat (0, 0)).2

theorem findGo_lt (ss : Slots) (key : Int) (hn : 0 < ss.length) : ∀ (c a : Nat) (room : Int), a < ss.length → (room = -1 ∨ ∃ r : Nat, room = (r : Int) ∧ r < ss.length) →
    (((findGo ss key c a room).1 = -1 ∨ ∃ r : Nat, (findGo ss key c a room).1 = (r : Int) ∧ r < ss.length) ∧ ((findGo ss key c a room).2 = -1 ∨ ∃ r : Nat, (findGo ss key c a room).2 = (r : Int) ∧ r < ss.length))
  | 0, a, room, _, hr => ⟨.inl rfl, hr⟩
  | c + 1, a, room, ha, hr => by
    unfold findGo
    split
    · exact ⟨.inr ⟨a, rfl, ha⟩, hr⟩
    · split
      · split
        · exact ⟨.inl rfl, .inr ⟨a, rfl, ha⟩⟩
        · exact ⟨.inl rfl, hr⟩
      · refine findGo_lt ss key hn c _ _ (Nat.mod_lt _ hn) ?_
        split
        · exact .inr ⟨a, rfl, ha⟩
        · exact hr

theorem findM_lt (ss : Slots) {key : Int} (hk : 0 ≤ key) (h1 : 1 ≤ ss.length) (h2 : ss.length ≤ 1024) :
    (((findM ss key).1 = -1 ∨ ∃ r : Nat, (findM ss key).1 = (r : Int) ∧ r < ss.length) ∧ ((findM ss key).2 = -1 ∨ ∃ r : Nat, (findM ss key).2 = (r : Int) ∧ r < ss.length)) := by
  obtain ⟨pb1, pb2, _⟩ := place_bounds (key := key) (size := (ss.length : Int)) (by omega) (by omega) hk
  exact findGo_lt ss key h1 _ _ _ (by omega) (.inl rfl)

theorem get_ok (t : TB h p b ss c) (key : Int) (hN : ss.length + 2 ≤ N) (h1 : 1 ≤ ss.length) (h2 : ss.length ≤ 1024) :
    evCallT table 18 N (d + 3) 35 [.c (.ptr p 0), .c (.int .i64 key)] h = some (.c (.int .i64 (getM ss key)), h) := by
  have r0 := t.r0
  rw [evCallT_eq (F := ir35) rfl rfl rfl]
  unfold ir35
  rw [bodyK_eq]
  unfold getM
  by_cases c1 : key < 0
  · rw [if_pos (.inl c1)]
    simp only [enter_eq, ev_seq, seqK_norm, seqK_exit, seqK_ret, ev_reg, ev_cond, condK_true, condK_false, ev_block, blockK_norm, blockK_ret, blockK_exit, ev_loop, ev_skip, ev_exit, ev_ret, regK_cons, regK_nil, guard_none, guard_some, regG_true, regG_false, regO_some, op_mov, op_conv, op_bin, op_bsl, op_box, op_mks, op_s2b, op_pick, op_un, op_eq, op_len, op_ext, op_load, op_iaddr, op_slice, op_b2s, op_idxS, op_mx, op_mn, op_call, op_store, op_app, op_copy, args_eq, result_one', rv_loc, finish_norm, finish_ret, outK_some, keep_true, keep_false, keep_nil, p_bin, p_pick, p_un, p_eq, p_conv, evNew, pureK_some, newK_some, X.eval, set_none, set_some, List.map_cons, List.map_nil, List.getD_cons_zero, List.getD_cons_succ, List.getD_nil, List.set_cons_zero, List.set_cons_succ, binCV, unCV, isShift, intArithF_eq, shiftF_eq, wrapF_eq, intArith, shift, eqVal, bound, asNat_cast, cond_true, cond_false, BEq.rfl, beq_self_eq_true, evalParts, fillParts, AV.cells, AV.ofCells, XV.av, AV.xv, List.length_cons, List.length_nil, zeros, patch, setMany, List.nil_append, List.cons_append, Nat.ble, Nat.add_eq, Nat.zero_add, Nat.add_zero, Nat.reduceAdd, Nat.reduceMul, Nat.reduceSub, Nat.ble_eq, Nat.reduceLeDiff, Nat.reduceBEq, Int.reduceBEq, Int.reduceNeg, Bool.and_true, Bool.and_false, Bool.true_and, Bool.false_and, Bool.not_true, Bool.not_false, Bool.true_eq_false, Bool.false_eq_true, Int.reduceLT, Int.reduceLE, Int.reduceGT, Int.reduceGE, decide_true, decide_false, Bool.not_eq_true, loopN_norm, loopN_exit, tf, ft, ff, decide_eq_true c1]
  have e1 := find_ok (N := N) (d := d) t key (by omega) hN h1 h2
  obtain ⟨hf, _⟩ := findM_lt ss (key := key) (by omega) h1 h2
  rcases hf with hf | ⟨r, hf, hr⟩
  · rw [if_pos (.inr (by omega))]
    rw [hf] at e1
    simp only [enter_eq, ev_seq, seqK_norm, seqK_exit, seqK_ret, ev_reg, ev_cond, condK_true, condK_false, ev_block, blockK_norm, blockK_ret, blockK_exit, ev_loop, ev_skip, ev_exit, ev_ret, regK_cons, regK_nil, guard_none, guard_some, regG_true, regG_false, regO_some, op_mov, op_conv, op_bin, op_bsl, op_box, op_mks, op_s2b, op_pick, op_un, op_eq, op_len, op_ext, op_load, op_iaddr, op_slice, op_b2s, op_idxS, op_mx, op_mn, op_call, op_store, op_app, op_copy, args_eq, result_one', rv_loc, finish_norm, finish_ret, outK_some, keep_true, keep_false, keep_nil, p_bin, p_pick, p_un, p_eq, p_conv, evNew, pureK_some, newK_some, X.eval, set_none, set_some, List.map_cons, List.map_nil, List.getD_cons_zero, List.getD_cons_succ, List.getD_nil, List.set_cons_zero, List.set_cons_succ, binCV, unCV, isShift, intArithF_eq, shiftF_eq, wrapF_eq, intArith, shift, eqVal, bound, asNat_cast, cond_true, cond_false, BEq.rfl, beq_self_eq_true, evalParts, fillParts, AV.cells, AV.ofCells, XV.av, AV.xv, List.length_cons, List.length_nil, zeros, patch, setMany, List.nil_append, List.cons_append, Nat.ble, Nat.add_eq, Nat.zero_add, Nat.add_zero, Nat.reduceAdd, Nat.reduceMul, Nat.reduceSub, Nat.ble_eq, Nat.reduceLeDiff, Nat.reduceBEq, Int.reduceBEq, Int.reduceNeg, Bool.and_true, Bool.and_false, Bool.true_and, Bool.false_and, Bool.not_true, Bool.not_false, Bool.true_eq_false, Bool.false_eq_true, Int.reduceLT, Int.reduceLE, Int.reduceGT, Int.reduceGE, decide_true, decide_false, Bool.not_eq_true, loopN_norm, loopN_exit, tf, ft, ff, decide_eq_false c1, e1, p_ext, List.getElem?_cons_zero, List.getElem?_cons_succ]
  · rw [if_neg (by omega), hf, Int.toNat_natCast, getD_slot hr]
    rw [hf] at e1
    have c2 : decide ((r : Int) < 0) = false := decide_eq_false (by omega)
    have m1 : Nat.blt r ss.length = true := bltT hr
    have rv := t.rv hr
    simp only [enter_eq, ev_seq, seqK_norm, seqK_exit, seqK_ret, ev_reg, ev_cond, condK_true, condK_false, ev_block, blockK_norm, blockK_ret, blockK_exit, ev_loop, ev_skip, ev_exit, ev_ret, regK_cons, regK_nil, guard_none, guard_some, regG_true, regG_false, regO_some, op_mov, op_conv, op_bin, op_bsl, op_box, op_mks, op_s2b, op_pick, op_un, op_eq, op_len, op_ext, op_load, op_iaddr, op_slice, op_b2s, op_idxS, op_mx, op_mn, op_call, op_store, op_app, op_copy, args_eq, result_one', rv_loc, finish_norm, finish_ret, outK_some, keep_true, keep_false, keep_nil, p_bin, p_pick, p_un, p_eq, p_conv, evNew, pureK_some, newK_some, X.eval, set_none, set_some, List.map_cons, List.map_nil, List.getD_cons_zero, List.getD_cons_succ, List.getD_nil, List.set_cons_zero, List.set_cons_succ, binCV, unCV, isShift, intArithF_eq, shiftF_eq, wrapF_eq, intArith, shift, eqVal, bound, asNat_cast, cond_true, cond_false, BEq.rfl, beq_self_eq_true, evalParts, fillParts, AV.cells, AV.ofCells, XV.av, AV.xv, List.length_cons, List.length_nil, zeros, patch, setMany, List.nil_append, List.cons_append, Nat.ble, Nat.add_eq, Nat.zero_add, Nat.add_zero, Nat.reduceAdd, Nat.reduceMul, Nat.reduceSub, Nat.ble_eq, Nat.reduceLeDiff, Nat.reduceBEq, Int.reduceBEq, Int.reduceNeg, Bool.and_true, Bool.and_false, Bool.true_and, Bool.false_and, Bool.not_true, Bool.not_false, Bool.true_eq_false, Bool.false_eq_true, Int.reduceLT, Int.reduceLE, Int.reduceGT, Int.reduceGE, decide_true, decide_false, Bool.not_eq_true, loopN_norm, loopN_exit, tf, ft, ff, decide_eq_false c1, e1, p_ext, List.getElem?_cons_zero, List.getElem?_cons_succ, c2, op_nilchk, p_nilchk, op_faddr, p_faddr, p_iaddr, p_load, r0, AV.ofCells, m1, rv]

/-- A key that is not there, where there is room. -/
theorem put_new (t : TB h p b ss c) (key v : Int) (hk : 0 ≤ key) {r : Nat} (hr : r < ss.length) (hf : findM ss key = (-1, (r : Int))) (hc : 0 ≤ c ∧ c < 100000) (hN : ss.length + 2 ≤ N) (h1 : 1 ≤ ss.length) (h2 : ss.length ≤ 1024) :
    ∃ h', evCallT table 18 N (d + 3) 39 [.c (.ptr p 0), .c (.int .i64 key), .c (.int .i64 v)] h = some (.c (.int .i64 0), h') ∧ TB h' p b (ss.set r (key, v)) (c + 1) ∧ ExtB [p, b] h h' := by
  have e1 := find_ok (N := N) (d := d) t key hk hN h1 h2
  rw [hf] at e1
  obtain ⟨h3, w1, t1, x1, _⟩ := t.write hr key v
  obtain ⟨h4, w2, t2, x2, _⟩ := t1.count (c + 1)
  have r0 := t.r0
  have r1 := t1.r1
  have c1 : decide (key < 0) = false := decide_eq_false (by omega)
  have c2 : decide ((r : Int) < 0) = false := decide_eq_false (by omega)
  have c3 : decide ((-1 : Int) ≥ 0) = false := rfl
  have c4 : IntKind.i64.wrap (c + 1) = c + 1 := wrapI (by omega) (by omega)
  have m1 : Nat.blt r ss.length = true := bltT hr
  rw [evCallT_eq (F := ir39) rfl rfl rfl]
  unfold ir39
  rw [bodyK_eq]
  simp only [enter_eq, ev_seq, seqK_norm, seqK_exit, seqK_ret, ev_reg, ev_cond, condK_true, condK_false, ev_block, blockK_norm, blockK_ret, blockK_exit, ev_loop, ev_skip, ev_exit, ev_ret, regK_cons, regK_nil, guard_none, guard_some, regG_true, regG_false, regO_some, op_mov, op_conv, op_bin, op_bsl, op_box, op_mks, op_s2b, op_pick, op_un, op_eq, op_len, op_ext, op_load, op_iaddr, op_slice, op_b2s, op_idxS, op_mx, op_mn, op_call, op_store, op_app, op_copy, args_eq, result_one', rv_loc, finish_norm, finish_ret, outK_some, keep_true, keep_false, keep_nil, p_bin, p_pick, p_un, p_eq, p_conv, evNew, pureK_some, newK_some, X.eval, set_none, set_some, List.map_cons, List.map_nil, List.getD_cons_zero, List.getD_cons_succ, List.getD_nil, List.set_cons_zero, List.set_cons_succ, binCV, unCV, isShift, intArithF_eq, shiftF_eq, wrapF_eq, intArith, shift, eqVal, bound, asNat_cast, cond_true, cond_false, BEq.rfl, beq_self_eq_true, evalParts, fillParts, AV.cells, AV.ofCells, XV.av, AV.xv, List.length_cons, List.length_nil, zeros, patch, setMany, List.nil_append, List.cons_append, Nat.ble, Nat.add_eq, Nat.zero_add, Nat.add_zero, Nat.reduceAdd, Nat.reduceMul, Nat.reduceSub, Nat.ble_eq, Nat.reduceLeDiff, Nat.reduceBEq, Int.reduceBEq, Int.reduceNeg, Bool.and_true, Bool.and_false, Bool.true_and, Bool.false_and, Bool.not_true, Bool.not_false, Bool.true_eq_false, Bool.false_eq_true, Int.reduceLT, Int.reduceLE, Int.reduceGT, Int.reduceGE, decide_true, decide_false, Bool.not_eq_true, loopN_norm, loopN_exit, tf, ft, ff, c1, c2, c3, c4, e1, p_ext, List.getElem?_cons_zero, List.getElem?_cons_succ, op_nilchk, p_nilchk, op_faddr, p_faddr, op_build, p_build', p_iaddr, p_load, r0, r1, AV.ofCells, m1, evEff, w1, w2]
  exact ⟨_, rfl, t2, x1.trans x2⟩

/-- A key that is there. -/
theorem put_held (t : TB h p b ss c) (key v : Int) (hk : 0 ≤ key) (hf : 0 ≤ (findM ss key).1) (hN : ss.length + 2 ≤ N) (h1 : 1 ≤ ss.length) (h2 : ss.length ≤ 1024) :
    evCallT table 18 N (d + 3) 39 [.c (.ptr p 0), .c (.int .i64 key), .c (.int .i64 v)] h = some (.c (.int .i64 13), h) := by
  have e1 := find_ok (N := N) (d := d) t key hk hN h1 h2
  have c1 : decide (key < 0) = false := decide_eq_false (by omega)
  have c3 := decide_eq_true (show (findM ss key).1 ≥ 0 from hf)
  rw [evCallT_eq (F := ir39) rfl rfl rfl]
  unfold ir39
  rw [bodyK_eq]
  simp only [enter_eq, ev_seq, seqK_norm, seqK_exit, seqK_ret, ev_reg, ev_cond, condK_true, condK_false, ev_block, blockK_norm, blockK_ret, blockK_exit, ev_loop, ev_skip, ev_exit, ev_ret, regK_cons, regK_nil, guard_none, guard_some, regG_true, regG_false, regO_some, op_mov, op_conv, op_bin, op_bsl, op_box, op_mks, op_s2b, op_pick, op_un, op_eq, op_len, op_ext, op_load, op_iaddr, op_slice, op_b2s, op_idxS, op_mx, op_mn, op_call, op_store, op_app, op_copy, args_eq, result_one', rv_loc, finish_norm, finish_ret, outK_some, keep_true, keep_false, keep_nil, p_bin, p_pick, p_un, p_eq, p_conv, evNew, pureK_some, newK_some, X.eval, set_none, set_some, List.map_cons, List.map_nil, List.getD_cons_zero, List.getD_cons_succ, List.getD_nil, List.set_cons_zero, List.set_cons_succ, binCV, unCV, isShift, intArithF_eq, shiftF_eq, wrapF_eq, intArith, shift, eqVal, bound, asNat_cast, cond_true, cond_false, BEq.rfl, beq_self_eq_true, evalParts, fillParts, AV.cells, AV.ofCells, XV.av, AV.xv, List.length_cons, List.length_nil, zeros, patch, setMany, List.nil_append, List.cons_append, Nat.ble, Nat.add_eq, Nat.zero_add, Nat.add_zero, Nat.reduceAdd, Nat.reduceMul, Nat.reduceSub, Nat.ble_eq, Nat.reduceLeDiff, Nat.reduceBEq, Int.reduceBEq, Int.reduceNeg, Bool.and_true, Bool.and_false, Bool.true_and, Bool.false_and, Bool.not_true, Bool.not_false, Bool.true_eq_false, Bool.false_eq_true, Int.reduceLT, Int.reduceLE, Int.reduceGT, Int.reduceGE, decide_true, decide_false, Bool.not_eq_true, loopN_norm, loopN_exit, tf, ft, ff, c1, c3, e1, p_ext, List.getElem?_cons_zero, List.getElem?_cons_succ]

/-- Out of a key that is not there. -/
theorem out_none (t : TB h p b ss c) (key : Int) (hk : 0 ≤ key) (hf : (findM ss key).1 < 0) (hN : ss.length + 2 ≤ N) (h1 : 1 ≤ ss.length) (h2 : ss.length ≤ 1024) :
    evCallT table 18 N (d + 3) 41 [.c (.ptr p 0), .c (.int .i64 key)] h = some (.c (.int .i64 (-1)), h) := by
  have e1 := find_ok (N := N) (d := d) t key hk hN h1 h2
  have c1 : decide (key < 0) = false := decide_eq_false (by omega)
  rw [evCallT_eq (F := ir41) rfl rfl rfl]
  unfold ir41
  rw [bodyK_eq]
  simp only [enter_eq, ev_seq, seqK_norm, seqK_exit, seqK_ret, ev_reg, ev_cond, condK_true, condK_false, ev_block, blockK_norm, blockK_ret, blockK_exit, ev_loop, ev_skip, ev_exit, ev_ret, regK_cons, regK_nil, guard_none, guard_some, regG_true, regG_false, regO_some, op_mov, op_conv, op_bin, op_bsl, op_box, op_mks, op_s2b, op_pick, op_un, op_eq, op_len, op_ext, op_load, op_iaddr, op_slice, op_b2s, op_idxS, op_mx, op_mn, op_call, op_store, op_app, op_copy, args_eq, result_one', rv_loc, finish_norm, finish_ret, outK_some, keep_true, keep_false, keep_nil, p_bin, p_pick, p_un, p_eq, p_conv, evNew, pureK_some, newK_some, X.eval, set_none, set_some, List.map_cons, List.map_nil, List.getD_cons_zero, List.getD_cons_succ, List.getD_nil, List.set_cons_zero, List.set_cons_succ, binCV, unCV, isShift, intArithF_eq, shiftF_eq, wrapF_eq, intArith, shift, eqVal, bound, asNat_cast, cond_true, cond_false, BEq.rfl, beq_self_eq_true, evalParts, fillParts, AV.cells, AV.ofCells, XV.av, AV.xv, List.length_cons, List.length_nil, zeros, patch, setMany, List.nil_append, List.cons_append, Nat.ble, Nat.add_eq, Nat.zero_add, Nat.add_zero, Nat.reduceAdd, Nat.reduceMul, Nat.reduceSub, Nat.ble_eq, Nat.reduceLeDiff, Nat.reduceBEq, Int.reduceBEq, Int.reduceNeg, Bool.and_true, Bool.and_false, Bool.true_and, Bool.false_and, Bool.not_true, Bool.not_false, Bool.true_eq_false, Bool.false_eq_true, Int.reduceLT, Int.reduceLE, Int.reduceGT, Int.reduceGE, decide_true, decide_false, Bool.not_eq_true, loopN_norm, loopN_exit, tf, ft, ff, c1, decide_eq_true hf, e1, p_ext, List.getElem?_cons_zero, List.getElem?_cons_succ]

/-- Out of one that is. -/
theorem out_some (t : TB h p b ss c) (key : Int) (hk : 0 ≤ key) {r : Nat} (hr : r < ss.length) (hf : (findM ss key).1 = (r : Int)) (hc : 1 ≤ c ∧ c < 100000) (hN : ss.length + 2 ≤ N) (h1 : 1 ≤ ss.length) (h2 : ss.length ≤ 1024) :
    ∃ h', evCallT table 18 N (d + 3) 41 [.c (.ptr p 0), .c (.int .i64 key)] h = some (.c (.int .i64 ss[r].2), h') ∧ TB h' p b (if c = 1 then List.replicate ss.length (-1, 0) else ss.set r (-2, 0)) (c - 1) ∧ ExtB [p, b] h h' := by
  have e1 := find_ok (N := N) (d := d) t key hk hN h1 h2
  rw [hf] at e1
  obtain ⟨h3, w1, t1, x1, _⟩ := t.write hr (-2) 0
  obtain ⟨h4, w2, t2, x2, _⟩ := t1.count (c - 1)
  have r0 := t.r0
  have rv := t.rv hr
  have r1 := t1.r1
  have r1' := t2.r1
  have c1 : decide (key < 0) = false := decide_eq_false (by omega)
  have c2 : decide ((r : Int) < 0) = false := decide_eq_false (by omega)
  have c4 : IntKind.i64.wrap (c - 1) = c - 1 := wrapI (by omega) (by omega)
  have m1 : Nat.blt r ss.length = true := bltT hr
  rw [evCallT_eq (F := ir41) rfl rfl rfl]
  unfold ir41
  rw [bodyK_eq]
  by_cases hone : c = 1
  · have c5 : (c - 1 == 0) = true := by simp; omega
    obtain ⟨h5, e5, t5, x5⟩ := wipe_ok (N := N) (d := d + 1) t2 (by simpa using hN) (by simpa using h2)
    rw [List.length_set] at t5
    rw [if_pos hone]
    simp only [enter_eq, ev_seq, seqK_norm, seqK_exit, seqK_ret, ev_reg, ev_cond, condK_true, condK_false, ev_block, blockK_norm, blockK_ret, blockK_exit, ev_loop, ev_skip, ev_exit, ev_ret, regK_cons, regK_nil, guard_none, guard_some, regG_true, regG_false, regO_some, op_mov, op_conv, op_bin, op_bsl, op_box, op_mks, op_s2b, op_pick, op_un, op_eq, op_len, op_ext, op_load, op_iaddr, op_slice, op_b2s, op_idxS, op_mx, op_mn, op_call, op_store, op_app, op_copy, args_eq, result_one', rv_loc, finish_norm, finish_ret, outK_some, keep_true, keep_false, keep_nil, p_bin, p_pick, p_un, p_eq, p_conv, evNew, pureK_some, newK_some, X.eval, set_none, set_some, List.map_cons, List.map_nil, List.getD_cons_zero, List.getD_cons_succ, List.getD_nil, List.set_cons_zero, List.set_cons_succ, binCV, unCV, isShift, intArithF_eq, shiftF_eq, wrapF_eq, intArith, shift, eqVal, bound, asNat_cast, cond_true, cond_false, BEq.rfl, beq_self_eq_true, evalParts, fillParts, AV.cells, AV.ofCells, XV.av, AV.xv, List.length_cons, List.length_nil, zeros, patch, setMany, List.nil_append, List.cons_append, Nat.ble, Nat.add_eq, Nat.zero_add, Nat.add_zero, Nat.reduceAdd, Nat.reduceMul, Nat.reduceSub, Nat.ble_eq, Nat.reduceLeDiff, Nat.reduceBEq, Int.reduceBEq, Int.reduceNeg, Bool.and_true, Bool.and_false, Bool.true_and, Bool.false_and, Bool.not_true, Bool.not_false, Bool.true_eq_false, Bool.false_eq_true, Int.reduceLT, Int.reduceLE, Int.reduceGT, Int.reduceGE, decide_true, decide_false, Bool.not_eq_true, loopN_norm, loopN_exit, tf, ft, ff, c1, c2, c4, c5, e1, p_ext, List.getElem?_cons_zero, List.getElem?_cons_succ, op_nilchk, p_nilchk, op_faddr, p_faddr, op_build, p_build', p_iaddr, p_load, r0, r1, r1', rv, AV.ofCells, m1, evEff, w1, w2, e5]
    exact ⟨_, rfl, t5, (x1.trans x2).trans x5⟩
  · have c5 : (c - 1 == 0) = false := by simp; omega
    rw [if_neg hone]
    simp only [enter_eq, ev_seq, seqK_norm, seqK_exit, seqK_ret, ev_reg, ev_cond, condK_true, condK_false, ev_block, blockK_norm, blockK_ret, blockK_exit, ev_loop, ev_skip, ev_exit, ev_ret, regK_cons, regK_nil, guard_none, guard_some, regG_true, regG_false, regO_some, op_mov, op_conv, op_bin, op_bsl, op_box, op_mks, op_s2b, op_pick, op_un, op_eq, op_len, op_ext, op_load, op_iaddr, op_slice, op_b2s, op_idxS, op_mx, op_mn, op_call, op_store, op_app, op_copy, args_eq, result_one', rv_loc, finish_norm, finish_ret, outK_some, keep_true, keep_false, keep_nil, p_bin, p_pick, p_un, p_eq, p_conv, evNew, pureK_some, newK_some, X.eval, set_none, set_some, List.map_cons, List.map_nil, List.getD_cons_zero, List.getD_cons_succ, List.getD_nil, List.set_cons_zero, List.set_cons_succ, binCV, unCV, isShift, intArithF_eq, shiftF_eq, wrapF_eq, intArith, shift, eqVal, bound, asNat_cast, cond_true, cond_false, BEq.rfl, beq_self_eq_true, evalParts, fillParts, AV.cells, AV.ofCells, XV.av, AV.xv, List.length_cons, List.length_nil, zeros, patch, setMany, List.nil_append, List.cons_append, Nat.ble, Nat.add_eq, Nat.zero_add, Nat.add_zero, Nat.reduceAdd, Nat.reduceMul, Nat.reduceSub, Nat.ble_eq, Nat.reduceLeDiff, Nat.reduceBEq, Int.reduceBEq, Int.reduceNeg, Bool.and_true, Bool.and_false, Bool.true_and, Bool.false_and, Bool.not_true, Bool.not_false, Bool.true_eq_false, Bool.false_eq_true, Int.reduceLT, Int.reduceLE, Int.reduceGT, Int.reduceGE, decide_true, decide_false, Bool.not_eq_true, loopN_norm, loopN_exit, tf, ft, ff, c1, c2, c4, c5, e1, p_ext, List.getElem?_cons_zero, List.getElem?_cons_succ, op_nilchk, p_nilchk, op_faddr, p_faddr, op_build, p_build', p_iaddr, p_load, r0, r1, r1', rv, AV.ofCells, m1, evEff, w1, w2]
    exact ⟨_, rfl, t2, x1.trans x2⟩

theorem zeros2 : ∀ n : Nat, zeros n [.int .i64 0, .int .i64 0] = slotC (List.replicate n (0, 0))
  | 0 => rfl
  | n + 1 => by
    show _ :: _ :: zeros n _ = _
    rw [zeros2 n]; rfl

theorem new_ok (n : Nat) (h : Heap) (h1 : 1 ≤ n) (h2 : n ≤ 1024) (hN : n + 2 ≤ N) :
    ∃ p b h', evCallT table 18 N (d + 2) 34 [.c (.int .i64 (n : Int))] h = some (.c (.ptr p 0), h') ∧ TB h' p b (List.replicate n (-1, 0)) 0 ∧ Ext h h' ∧ h.next ≤ p ∧ h.next ≤ b := by
  have c1 : decide ((n : Int) < 1) = false := decide_eq_false (by omega)
  have c2 : decide ((n : Int) > 1024) = false := decide_eq_false (by omega)
  have m1 : Nat.ble n n = true := Nat.ble_eq_true_of_le (Nat.le_refl _)
  have m2 : Nat.ble n 1073741824 = true := Nat.ble_eq_true_of_le (by omega)
  have t0 : TB ((h.new (.cells (zeros n [.int .i64 0, .int .i64 0]))).new (.cells [.sl h.next 0 n (.ex n), .int .i64 0])) (h.next + 1) h.next (List.replicate n (0, 0)) 0 :=
    ⟨by rw [List.length_replicate]; exact get_new_at, by rw [get_new_old (Nat.lt_succ_self _), get_new_at, zeros2], by omega, Nat.lt_succ_self _, Nat.lt_succ_of_lt (Nat.lt_succ_self _)⟩
  obtain ⟨h', e1, t1, x1⟩ := wipe_ok (N := N) (d := d) t0 (by simpa using hN) (by simpa using h2)
  rw [List.length_replicate] at t1
  rw [evCallT_eq (F := ir34) rfl rfl rfl]
  unfold ir34
  rw [bodyK_eq]
  have e1' : evCallT table 18 N (d + 1) 47 [.c (.ptr (h.new (.cells (zeros n [.int .i64 0, .int .i64 0]))).next 0)] ((h.new (.cells (zeros n [.int .i64 0, .int .i64 0]))).new (.cells [.sl h.next 0 n (.ex n), .int .i64 0])) = some (.tup [], h') := e1
  simp only [enter_eq, ev_seq, seqK_norm, seqK_exit, seqK_ret, ev_reg, ev_cond, condK_true, condK_false, ev_block, blockK_norm, blockK_ret, blockK_exit, ev_loop, ev_skip, ev_exit, ev_ret, regK_cons, regK_nil, guard_none, guard_some, regG_true, regG_false, regO_some, op_mov, op_conv, op_bin, op_bsl, op_box, op_mks, op_s2b, op_pick, op_un, op_eq, op_len, op_ext, op_load, op_iaddr, op_slice, op_b2s, op_idxS, op_mx, op_mn, op_call, op_store, op_app, op_copy, args_eq, result_one', rv_loc, finish_norm, finish_ret, outK_some, keep_true, keep_false, keep_nil, p_bin, p_pick, p_un, p_eq, p_conv, evNew, pureK_some, newK_some, X.eval, set_none, set_some, List.map_cons, List.map_nil, List.getD_cons_zero, List.getD_cons_succ, List.getD_nil, List.set_cons_zero, List.set_cons_succ, binCV, unCV, isShift, intArithF_eq, shiftF_eq, wrapF_eq, intArith, shift, eqVal, bound, asNat_cast, cond_true, cond_false, BEq.rfl, beq_self_eq_true, evalParts, fillParts, AV.cells, AV.ofCells, XV.av, AV.xv, List.length_cons, List.length_nil, zeros, patch, setMany, List.nil_append, List.cons_append, Nat.ble, Nat.add_eq, Nat.zero_add, Nat.add_zero, Nat.reduceAdd, Nat.reduceMul, Nat.reduceSub, Nat.ble_eq, Nat.reduceLeDiff, Nat.reduceBEq, Int.reduceBEq, Int.reduceNeg, Bool.and_true, Bool.and_false, Bool.true_and, Bool.false_and, Bool.not_true, Bool.not_false, Bool.true_eq_false, Bool.false_eq_true, Int.reduceLT, Int.reduceLE, Int.reduceGT, Int.reduceGE, decide_true, decide_false, Bool.not_eq_true, loopN_norm, loopN_exit, tf, ft, ff, c1, c2, m1, m2, op_build, p_build', e1']
  refine ⟨_, h.next, _, rfl, t1, ⟨Nat.le_trans (show h.next ≤ h.next + 1 + 1 by omega) x1.1, fun i hi => ?_⟩, show h.next ≤ h.next + 1 by omega, Nat.le_refl _⟩
  rw [x1.2 i (by show i < h.next + 1 + 1; omega) (by simp; omega), get_new_old (h := h.new _) (Nat.lt_succ_of_lt hi), get_new_old hi]
end
end Lav
