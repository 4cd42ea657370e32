/-
  Layer 15: the call that three bytes are, in the document's own words.
-/
import Derived.Test.YtdeehmncnfdmkaaScr3
set_option maxRecDepth 100000
set_option linter.unusedSimpArgs false
namespace Lav
open Go (IntKind)

section
variable {N d : Nat} {h : Heap}

theorem rop_0 (c : Cf) (hc : c.ok = true) {a b e : Nat} (ha : a < 256) (hb : b < 256) (he : e < 256) (hk : a % 8 = 0) (_hN : 20 ≤ N) :
    ∃ x h', evCallX table 21 37 N (d + 5) 27 [.c (.int .u8 (a : Int)), .c (.int .u8 (b : Int)), .c (.int .u8 (e : Int)), .agg (cfC c)] h = some (.agg (clC (opK c b e 0) x), h') ∧ TxtY h h' x (opK c b e 0).data ∧ Ext h h' := by
  have ok := Cf.ok_iff.1 hc
  obtain ⟨H0, hH0⟩ : ∃ H, H = (h.new (.cells (cfC c))).new (.cells clZ) := ⟨_, rfl⟩
  have x0 : Ext h H0 := by rw [hH0]; exact ((Ext.refl _).new _).new _
  have n0 : H0.next = h.next + 2 := by rw [hH0]; rfl
  have g0 : H0.get h.next = some (.cells (cfC c)) := by rw [hH0, get_new_old (Nat.lt_succ_self _)]; exact get_new_at
  have z0 : H0.get (h.next + 1) = some (.cells clZ) := by rw [hH0]; exact get_new_at
  obtain ⟨H1, e1, x1⟩ := conf_all (N := N) (d := d + 3) (h := H0) c
  rw [hc] at e1
  have n1 := x1.1
  have g1 := x1.at_ g0 (by omega)
  have z1 := x1.at_ z0 (by omega)
  obtain ⟨H2, e2, g2, x2, n2⟩ := box_store (h := H1) (z := clZ) (v := [.int .i64 1, .int .i64 0, .int .i64 0, .int .i64 0, .int .i64 0, .nils]) rfl
  have q0 : H0.read h.next 0 4 = some (cfC c) := read_all g0 rfl
  have q1 : H2.read H1.next 0 1 = some [.int .i64 1] := read_cells g2 rfl
  have q2 : H2.read h.next 0 1 = some [.int .i64 c.pages] := read_cells (x2.at_ g1 (by omega)) rfl
  have w1 := wI ha
  have w2 := wI hb
  have w3 := wI he
  have w4 : Int.tmod (a : Int) 8 = 0 := by have := tmodN a 8; rw [hk] at this; exact this
  have w5 := tmodN b 7
  have w6 := tmodN e 16
  have w7 := tdivN e 16
  have w8 : IntKind.i64.wrap (c.pages + 1) = c.pages + 1 := wrapI (by omega) (by omega)
  have w9 : Int.tmod (b : Int) (c.pages + 1) = (b : Int) % (c.pages + 1) := Int.tmod_eq_emod_of_nonneg (by omega)
  have w10 : IntKind.i64.wrap ((e / 16 : Nat) : Int) = ((e / 16 : Nat) : Int) := wI (by omega)
  have w11 : (c.pages + 1 == 0) = false := by simp only [beq_eq_false_iff_ne, ne_eq]; omega
  have w12 : IntKind.i64.wrap 1 = 1 := rfl
  have bx : AV.cells (.agg (cfC c)) = some (cfC c) := rfl
  have zz : H2.get (h.next + 1) = some (.cells clZ) := x2.at_ z1 (by omega)
  have fin : ∀ {G : Heap} {l : List CV}, G.get (h.next + 1) = some (.cells clZ) → G.get H1.next = some (.cells l) → l.length = 6 → Ext h G → G.read H1.next 0 6 = some l ∧ ∃ G', G.write (h.next + 1) 0 l = some G' ∧ G'.read (h.next + 1) 0 6 = some l ∧ Ext h G' ∧ (∀ k, k ≠ h.next + 1 → G'.get k = G.get k) ∧ G'.next = G.next := by
    intro G l gz gl hl xg
    refine ⟨read_all gl hl, ?_⟩
    obtain ⟨G', a1, a2, a3, a4⟩ := write_all (l := l) gz (by rw [hl]; rfl)
    exact ⟨G', a1, read_all a2 hl, ⟨by rw [a4]; exact xg.1, fun k hk => (a3 k (by omega)).trans (xg.2 k hk)⟩, a3, a4⟩
  rw [evCallX_eq (F := ir27) rfl rfl rfl rfl]
  unfold ir27
  rw [bodyK_eq]
  have w5' : Int.tmod (b : Int) 7 = ((b % 7 : Nat) : Int) := w5
  have w6' : Int.tmod (e : Int) 16 = ((e % 16 : Nat) : Int) := w6
  have w7' : Int.tdiv (e : Int) 16 = ((e / 16 : Nat) : Int) := w7
  obtain ⟨r1, G, r2, r3, r4, r5, r6⟩ := fin zz g2 rfl (x0.trans (x1.trans x2))
  simp only [enter_eq, ev_seq, seqK_norm, seqK_exit, seqK_ret, ev_reg, ev_cond, condK_true, condK_false, ev_block, blockK_norm, blockK_ret, blockK_exit, ev_loop, ev_skip, ev_exit, ev_ret, regK_cons, regK_nil, guard_none, guard_some, regG_true, regG_false, regO_some, op_mov, op_conv, op_bin, op_bsl, op_box, op_mks, op_s2b, op_pick, op_un, op_eq, op_len, op_ext, op_load, op_iaddr, op_slice, op_b2s, op_idxS, op_mx, op_mn, op_call, op_store, op_app, op_copy, args_eq, result_one', rv_loc, finish_norm, finish_ret, outK_some, keep_true, keep_false, keep_nil, p_bin, p_pick, p_un, p_eq, p_conv, evNew, pureK_some, newK_some, X.eval, set_none, set_some, List.map_cons, List.map_nil, List.getD_cons_zero, List.getD_cons_succ, List.getD_nil, List.set_cons_zero, List.set_cons_succ, binCV, unCV, isShift, intArithF_eq, shiftF_eq, wrapF_eq, intArith, shift, eqVal, bound, asNat_cast, cond_true, cond_false, BEq.rfl, beq_self_eq_true, evalParts, fillParts, AV.cells, AV.ofCells, XV.av, AV.xv, List.length_cons, List.length_nil, zeros, patch, setMany, List.nil_append, List.cons_append, Nat.ble, Nat.add_eq, Nat.zero_add, Nat.add_zero, Nat.reduceAdd, Nat.reduceMul, Nat.reduceSub, Nat.ble_eq, Nat.reduceLeDiff, Nat.reduceBEq, Int.reduceBEq, Int.reduceNeg, Bool.and_true, Bool.and_false, Bool.true_and, Bool.false_and, Bool.not_true, Bool.not_false, Bool.true_eq_false, Bool.false_eq_true, Int.reduceLT, Int.reduceLE, Int.reduceGT, Int.reduceGE, decide_true, decide_false, Bool.not_eq_true, loopN_norm, loopN_exit, tf, ft, ff, bx, op_faddr, p_faddr, op_build, p_build', p_load, next_new, evEff, AV.ofCells, result, evResults, RV.eval, ← hH0, q0, q1, q2, e1, e2, w1, w2, w3, w4, w5', w6', w7', w8, w9, w10, w11, w12, Int.reduceAdd, Int.reduceBEq, r1, r2, r3]
  exact ⟨_, _, rfl, .nil, r4⟩

theorem rop_1 (c : Cf) (hc : c.ok = true) {a b e : Nat} (ha : a < 256) (hb : b < 256) (he : e < 256) (hk : a % 8 = 1) (_hN : 20 ≤ N) :
    ∃ x h', evCallX table 21 37 N (d + 5) 27 [.c (.int .u8 (a : Int)), .c (.int .u8 (b : Int)), .c (.int .u8 (e : Int)), .agg (cfC c)] h = some (.agg (clC (opK c b e 1) x), h') ∧ TxtY h h' x (opK c b e 1).data ∧ Ext h h' := by
  have ok := Cf.ok_iff.1 hc
  obtain ⟨H0, hH0⟩ : ∃ H, H = (h.new (.cells (cfC c))).new (.cells clZ) := ⟨_, rfl⟩
  have x0 : Ext h H0 := by rw [hH0]; exact ((Ext.refl _).new _).new _
  have n0 : H0.next = h.next + 2 := by rw [hH0]; rfl
  have g0 : H0.get h.next = some (.cells (cfC c)) := by rw [hH0, get_new_old (Nat.lt_succ_self _)]; exact get_new_at
  have z0 : H0.get (h.next + 1) = some (.cells clZ) := by rw [hH0]; exact get_new_at
  obtain ⟨H1, e1, x1⟩ := conf_all (N := N) (d := d + 3) (h := H0) c
  rw [hc] at e1
  have n1 := x1.1
  have g1 := x1.at_ g0 (by omega)
  have z1 := x1.at_ z0 (by omega)
  obtain ⟨H2, e2, g2, x2, n2⟩ := box_store (h := H1) (z := clZ) (v := [.int .i64 2, .int .i64 0, .int .i64 0, .int .i64 0, .int .i64 0, .nils]) rfl
  have q0 : H0.read h.next 0 4 = some (cfC c) := read_all g0 rfl
  have q1 : H2.read H1.next 0 1 = some [.int .i64 2] := read_cells g2 rfl
  have q2 : H2.read h.next 0 1 = some [.int .i64 c.pages] := read_cells (x2.at_ g1 (by omega)) rfl
  have w1 := wI ha
  have w2 := wI hb
  have w3 := wI he
  have w4 : Int.tmod (a : Int) 8 = 1 := by have := tmodN a 8; rw [hk] at this; exact this
  have w5 := tmodN b 7
  have w6 := tmodN e 16
  have w7 := tdivN e 16
  have w8 : IntKind.i64.wrap (c.pages + 1) = c.pages + 1 := wrapI (by omega) (by omega)
  have w9 : Int.tmod (b : Int) (c.pages + 1) = (b : Int) % (c.pages + 1) := Int.tmod_eq_emod_of_nonneg (by omega)
  have w10 : IntKind.i64.wrap ((e / 16 : Nat) : Int) = ((e / 16 : Nat) : Int) := wI (by omega)
  have w11 : (c.pages + 1 == 0) = false := by simp only [beq_eq_false_iff_ne, ne_eq]; omega
  have w12 : IntKind.i64.wrap 2 = 2 := rfl
  have bx : AV.cells (.agg (cfC c)) = some (cfC c) := rfl
  have zz : H2.get (h.next + 1) = some (.cells clZ) := x2.at_ z1 (by omega)
  have fin : ∀ {G : Heap} {l : List CV}, G.get (h.next + 1) = some (.cells clZ) → G.get H1.next = some (.cells l) → l.length = 6 → Ext h G → G.read H1.next 0 6 = some l ∧ ∃ G', G.write (h.next + 1) 0 l = some G' ∧ G'.read (h.next + 1) 0 6 = some l ∧ Ext h G' ∧ (∀ k, k ≠ h.next + 1 → G'.get k = G.get k) ∧ G'.next = G.next := by
    intro G l gz gl hl xg
    refine ⟨read_all gl hl, ?_⟩
    obtain ⟨G', a1, a2, a3, a4⟩ := write_all (l := l) gz (by rw [hl]; rfl)
    exact ⟨G', a1, read_all a2 hl, ⟨by rw [a4]; exact xg.1, fun k hk => (a3 k (by omega)).trans (xg.2 k hk)⟩, a3, a4⟩
  rw [evCallX_eq (F := ir27) rfl rfl rfl rfl]
  unfold ir27
  rw [bodyK_eq]
  have w5' : Int.tmod (b : Int) 7 = ((b % 7 : Nat) : Int) := w5
  have w6' : Int.tmod (e : Int) 16 = ((e % 16 : Nat) : Int) := w6
  have w7' : Int.tdiv (e : Int) 16 = ((e / 16 : Nat) : Int) := w7
  obtain ⟨H3, e3, g3, s3, n3⟩ := write_at (o := 1) (v := .int .i64 ((b : Int) % (c.pages + 1))) g2 (by simp)
  have x3 : Ext h H3 := ⟨by rw [n3, n2]; omega, fun k hk => (s3 k (by omega)).trans ((x0.trans (x1.trans x2)).2 k hk)⟩
  have q3 : H3.read H1.next 0 1 = some [.int .i64 2] := read_cells g3 rfl
  obtain ⟨r1, G, r2, r3, r4, r5, r6⟩ := fin ((s3 _ (by omega)).trans zz) g3 rfl x3
  simp only [List.set_cons_succ, List.set_cons_zero] at r1 r2 r3
  simp only [enter_eq, ev_seq, seqK_norm, seqK_exit, seqK_ret, ev_reg, ev_cond, condK_true, condK_false, ev_block, blockK_norm, blockK_ret, blockK_exit, ev_loop, ev_skip, ev_exit, ev_ret, regK_cons, regK_nil, guard_none, guard_some, regG_true, regG_false, regO_some, op_mov, op_conv, op_bin, op_bsl, op_box, op_mks, op_s2b, op_pick, op_un, op_eq, op_len, op_ext, op_load, op_iaddr, op_slice, op_b2s, op_idxS, op_mx, op_mn, op_call, op_store, op_app, op_copy, args_eq, result_one', rv_loc, finish_norm, finish_ret, outK_some, keep_true, keep_false, keep_nil, p_bin, p_pick, p_un, p_eq, p_conv, evNew, pureK_some, newK_some, X.eval, set_none, set_some, List.map_cons, List.map_nil, List.getD_cons_zero, List.getD_cons_succ, List.getD_nil, List.set_cons_zero, List.set_cons_succ, binCV, unCV, isShift, intArithF_eq, shiftF_eq, wrapF_eq, intArith, shift, eqVal, bound, asNat_cast, cond_true, cond_false, BEq.rfl, beq_self_eq_true, evalParts, fillParts, AV.cells, AV.ofCells, XV.av, AV.xv, List.length_cons, List.length_nil, zeros, patch, setMany, List.nil_append, List.cons_append, Nat.ble, Nat.add_eq, Nat.zero_add, Nat.add_zero, Nat.reduceAdd, Nat.reduceMul, Nat.reduceSub, Nat.ble_eq, Nat.reduceLeDiff, Nat.reduceBEq, Int.reduceBEq, Int.reduceNeg, Bool.and_true, Bool.and_false, Bool.true_and, Bool.false_and, Bool.not_true, Bool.not_false, Bool.true_eq_false, Bool.false_eq_true, Int.reduceLT, Int.reduceLE, Int.reduceGT, Int.reduceGE, decide_true, decide_false, Bool.not_eq_true, loopN_norm, loopN_exit, tf, ft, ff, bx, op_faddr, p_faddr, op_build, p_build', p_load, next_new, evEff, AV.ofCells, result, evResults, RV.eval, ← hH0, q0, q1, q2, e1, e2, w1, w2, w3, w4, w5', w6', w7', w8, w9, w10, w11, w12, Int.reduceAdd, Int.reduceBEq, e3, q3, r1, r2, r3]
  exact ⟨_, _, rfl, .nil, r4⟩

theorem rop_2 (c : Cf) (hc : c.ok = true) {a b e : Nat} (ha : a < 256) (hb : b < 256) (he : e < 256) (hk : a % 8 = 2) (_hN : 20 ≤ N) :
    ∃ x h', evCallX table 21 37 N (d + 5) 27 [.c (.int .u8 (a : Int)), .c (.int .u8 (b : Int)), .c (.int .u8 (e : Int)), .agg (cfC c)] h = some (.agg (clC (opK c b e 2) x), h') ∧ TxtY h h' x (opK c b e 2).data ∧ Ext h h' := by
  have ok := Cf.ok_iff.1 hc
  obtain ⟨H0, hH0⟩ : ∃ H, H = (h.new (.cells (cfC c))).new (.cells clZ) := ⟨_, rfl⟩
  have x0 : Ext h H0 := by rw [hH0]; exact ((Ext.refl _).new _).new _
  have n0 : H0.next = h.next + 2 := by rw [hH0]; rfl
  have g0 : H0.get h.next = some (.cells (cfC c)) := by rw [hH0, get_new_old (Nat.lt_succ_self _)]; exact get_new_at
  have z0 : H0.get (h.next + 1) = some (.cells clZ) := by rw [hH0]; exact get_new_at
  obtain ⟨H1, e1, x1⟩ := conf_all (N := N) (d := d + 3) (h := H0) c
  rw [hc] at e1
  have n1 := x1.1
  have g1 := x1.at_ g0 (by omega)
  have z1 := x1.at_ z0 (by omega)
  obtain ⟨H2, e2, g2, x2, n2⟩ := box_store (h := H1) (z := clZ) (v := [.int .i64 3, .int .i64 0, .int .i64 0, .int .i64 0, .int .i64 0, .nils]) rfl
  have q0 : H0.read h.next 0 4 = some (cfC c) := read_all g0 rfl
  have q1 : H2.read H1.next 0 1 = some [.int .i64 3] := read_cells g2 rfl
  have q2 : H2.read h.next 0 1 = some [.int .i64 c.pages] := read_cells (x2.at_ g1 (by omega)) rfl
  have w1 := wI ha
  have w2 := wI hb
  have w3 := wI he
  have w4 : Int.tmod (a : Int) 8 = 2 := by have := tmodN a 8; rw [hk] at this; exact this
  have w5 := tmodN b 7
  have w6 := tmodN e 16
  have w7 := tdivN e 16
  have w8 : IntKind.i64.wrap (c.pages + 1) = c.pages + 1 := wrapI (by omega) (by omega)
  have w9 : Int.tmod (b : Int) (c.pages + 1) = (b : Int) % (c.pages + 1) := Int.tmod_eq_emod_of_nonneg (by omega)
  have w10 : IntKind.i64.wrap ((e / 16 : Nat) : Int) = ((e / 16 : Nat) : Int) := wI (by omega)
  have w11 : (c.pages + 1 == 0) = false := by simp only [beq_eq_false_iff_ne, ne_eq]; omega
  have w12 : IntKind.i64.wrap 3 = 3 := rfl
  have bx : AV.cells (.agg (cfC c)) = some (cfC c) := rfl
  have zz : H2.get (h.next + 1) = some (.cells clZ) := x2.at_ z1 (by omega)
  have fin : ∀ {G : Heap} {l : List CV}, G.get (h.next + 1) = some (.cells clZ) → G.get H1.next = some (.cells l) → l.length = 6 → Ext h G → G.read H1.next 0 6 = some l ∧ ∃ G', G.write (h.next + 1) 0 l = some G' ∧ G'.read (h.next + 1) 0 6 = some l ∧ Ext h G' ∧ (∀ k, k ≠ h.next + 1 → G'.get k = G.get k) ∧ G'.next = G.next := by
    intro G l gz gl hl xg
    refine ⟨read_all gl hl, ?_⟩
    obtain ⟨G', a1, a2, a3, a4⟩ := write_all (l := l) gz (by rw [hl]; rfl)
    exact ⟨G', a1, read_all a2 hl, ⟨by rw [a4]; exact xg.1, fun k hk => (a3 k (by omega)).trans (xg.2 k hk)⟩, a3, a4⟩
  rw [evCallX_eq (F := ir27) rfl rfl rfl rfl]
  unfold ir27
  rw [bodyK_eq]
  have w5' : Int.tmod (b : Int) 7 = ((b % 7 : Nat) : Int) := w5
  have w6' : Int.tmod (e : Int) 16 = ((e % 16 : Nat) : Int) := w6
  have w7' : Int.tdiv (e : Int) 16 = ((e / 16 : Nat) : Int) := w7
  obtain ⟨H3, e3, g3, s3, n3⟩ := write_at (o := 2) (v := .int .i64 ((b % 7 : Nat) : Int)) g2 (by simp)
  obtain ⟨H4, e4, g4, s4, n4⟩ := write_at (o := 3) (v := .int .i64 ((e % 16 : Nat) : Int)) g3 (by simp)
  obtain ⟨H5, e5, g5, s5, n5⟩ := write_at (o := 4) (v := .int .i64 ((e / 16 : Nat) : Int)) g4 (by simp)
  have x5 : Ext h H5 := ⟨by rw [n5, n4, n3, n2]; omega, fun k hk => (s5 k (by omega)).trans ((s4 k (by omega)).trans ((s3 k (by omega)).trans ((x0.trans (x1.trans x2)).2 k hk)))⟩
  have q3 : H3.read H1.next 0 1 = some [.int .i64 3] := read_cells g3 rfl
  obtain ⟨r1, G, r2, r3, r4, r5, r6⟩ := fin ((s5 _ (by omega)).trans ((s4 _ (by omega)).trans ((s3 _ (by omega)).trans zz))) g5 rfl x5
  simp only [List.set_cons_succ, List.set_cons_zero] at r1 r2 r3
  simp only [enter_eq, ev_seq, seqK_norm, seqK_exit, seqK_ret, ev_reg, ev_cond, condK_true, condK_false, ev_block, blockK_norm, blockK_ret, blockK_exit, ev_loop, ev_skip, ev_exit, ev_ret, regK_cons, regK_nil, guard_none, guard_some, regG_true, regG_false, regO_some, op_mov, op_conv, op_bin, op_bsl, op_box, op_mks, op_s2b, op_pick, op_un, op_eq, op_len, op_ext, op_load, op_iaddr, op_slice, op_b2s, op_idxS, op_mx, op_mn, op_call, op_store, op_app, op_copy, args_eq, result_one', rv_loc, finish_norm, finish_ret, outK_some, keep_true, keep_false, keep_nil, p_bin, p_pick, p_un, p_eq, p_conv, evNew, pureK_some, newK_some, X.eval, set_none, set_some, List.map_cons, List.map_nil, List.getD_cons_zero, List.getD_cons_succ, List.getD_nil, List.set_cons_zero, List.set_cons_succ, binCV, unCV, isShift, intArithF_eq, shiftF_eq, wrapF_eq, intArith, shift, eqVal, bound, asNat_cast, cond_true, cond_false, BEq.rfl, beq_self_eq_true, evalParts, fillParts, AV.cells, AV.ofCells, XV.av, AV.xv, List.length_cons, List.length_nil, zeros, patch, setMany, List.nil_append, List.cons_append, Nat.ble, Nat.add_eq, Nat.zero_add, Nat.add_zero, Nat.reduceAdd, Nat.reduceMul, Nat.reduceSub, Nat.ble_eq, Nat.reduceLeDiff, Nat.reduceBEq, Int.reduceBEq, Int.reduceNeg, Bool.and_true, Bool.and_false, Bool.true_and, Bool.false_and, Bool.not_true, Bool.not_false, Bool.true_eq_false, Bool.false_eq_true, Int.reduceLT, Int.reduceLE, Int.reduceGT, Int.reduceGE, decide_true, decide_false, Bool.not_eq_true, loopN_norm, loopN_exit, tf, ft, ff, bx, op_faddr, p_faddr, op_build, p_build', p_load, next_new, evEff, AV.ofCells, result, evResults, RV.eval, ← hH0, q0, q1, q2, e1, e2, w1, w2, w3, w4, w5', w6', w7', w8, w9, w10, w11, w12, Int.reduceAdd, Int.reduceBEq, e3, e4, e5, q3, r1, r2, r3]
  exact ⟨_, _, rfl, .nil, r4⟩

theorem rop_3 (c : Cf) (hc : c.ok = true) {a b e : Nat} (ha : a < 256) (hb : b < 256) (he : e < 256) (hk : a % 8 = 3) (hN : 20 ≤ N) :
    ∃ x h', evCallX table 21 37 N (d + 5) 27 [.c (.int .u8 (a : Int)), .c (.int .u8 (b : Int)), .c (.int .u8 (e : Int)), .agg (cfC c)] h = some (.agg (clC (opK c b e 3) x), h') ∧ TxtY h h' x (opK c b e 3).data ∧ Ext h h' := by
  have ok := Cf.ok_iff.1 hc
  obtain ⟨H0, hH0⟩ : ∃ H, H = (h.new (.cells (cfC c))).new (.cells clZ) := ⟨_, rfl⟩
  have x0 : Ext h H0 := by rw [hH0]; exact ((Ext.refl _).new _).new _
  have n0 : H0.next = h.next + 2 := by rw [hH0]; rfl
  have g0 : H0.get h.next = some (.cells (cfC c)) := by rw [hH0, get_new_old (Nat.lt_succ_self _)]; exact get_new_at
  have z0 : H0.get (h.next + 1) = some (.cells clZ) := by rw [hH0]; exact get_new_at
  obtain ⟨H1, e1, x1⟩ := conf_all (N := N) (d := d + 3) (h := H0) c
  rw [hc] at e1
  have n1 := x1.1
  have g1 := x1.at_ g0 (by omega)
  have z1 := x1.at_ z0 (by omega)
  obtain ⟨H2, e2, g2, x2, n2⟩ := box_store (h := H1) (z := clZ) (v := [.int .i64 4, .int .i64 0, .int .i64 0, .int .i64 0, .int .i64 0, .nils]) rfl
  have q0 : H0.read h.next 0 4 = some (cfC c) := read_all g0 rfl
  have q1 : H2.read H1.next 0 1 = some [.int .i64 4] := read_cells g2 rfl
  have q2 : H2.read h.next 0 1 = some [.int .i64 c.pages] := read_cells (x2.at_ g1 (by omega)) rfl
  have w1 := wI ha
  have w2 := wI hb
  have w3 := wI he
  have w4 : Int.tmod (a : Int) 8 = 3 := by have := tmodN a 8; rw [hk] at this; exact this
  have w5 := tmodN b 7
  have w6 := tmodN e 16
  have w7 := tdivN e 16
  have w8 : IntKind.i64.wrap (c.pages + 1) = c.pages + 1 := wrapI (by omega) (by omega)
  have w9 : Int.tmod (b : Int) (c.pages + 1) = (b : Int) % (c.pages + 1) := Int.tmod_eq_emod_of_nonneg (by omega)
  have w10 : IntKind.i64.wrap ((e / 16 : Nat) : Int) = ((e / 16 : Nat) : Int) := wI (by omega)
  have w11 : (c.pages + 1 == 0) = false := by simp only [beq_eq_false_iff_ne, ne_eq]; omega
  have w12 : IntKind.i64.wrap 4 = 4 := rfl
  have bx : AV.cells (.agg (cfC c)) = some (cfC c) := rfl
  have zz : H2.get (h.next + 1) = some (.cells clZ) := x2.at_ z1 (by omega)
  have fin : ∀ {G : Heap} {l : List CV}, G.get (h.next + 1) = some (.cells clZ) → G.get H1.next = some (.cells l) → l.length = 6 → Ext h G → G.read H1.next 0 6 = some l ∧ ∃ G', G.write (h.next + 1) 0 l = some G' ∧ G'.read (h.next + 1) 0 6 = some l ∧ Ext h G' ∧ (∀ k, k ≠ h.next + 1 → G'.get k = G.get k) ∧ G'.next = G.next := by
    intro G l gz gl hl xg
    refine ⟨read_all gl hl, ?_⟩
    obtain ⟨G', a1, a2, a3, a4⟩ := write_all (l := l) gz (by rw [hl]; rfl)
    exact ⟨G', a1, read_all a2 hl, ⟨by rw [a4]; exact xg.1, fun k hk => (a3 k (by omega)).trans (xg.2 k hk)⟩, a3, a4⟩
  rw [evCallX_eq (F := ir27) rfl rfl rfl rfl]
  unfold ir27
  rw [bodyK_eq]
  have w5' : Int.tmod (b : Int) 7 = ((b % 7 : Nat) : Int) := w5
  have w6' : Int.tmod (e : Int) 16 = ((e % 16 : Nat) : Int) := w6
  have w7' : Int.tdiv (e : Int) 16 = ((e / 16 : Nat) : Int) := w7
  obtain ⟨H3, e3, g3, s3, n3⟩ := write_at (o := 2) (v := .int .i64 ((b % 7 : Nat) : Int)) g2 (by simp)
  obtain ⟨H4, e4, g4, s4, n4⟩ := write_at (o := 3) (v := .int .i64 ((e % 16 : Nat) : Int)) g3 (by simp)
  simp only [List.set_cons_succ, List.set_cons_zero] at g4
  have x4 : Ext h H4 := ⟨by rw [n4, n3, n2]; omega, fun k hk => (s4 k (by omega)).trans ((s3 k (by omega)).trans ((x0.trans (x1.trans x2)).2 k hk))⟩
  have z4 : H4.get (h.next + 1) = some (.cells clZ) := (s4 _ (by omega)).trans ((s3 _ (by omega)).trans zz)
  obtain ⟨n, hn⟩ : ∃ n, n = e / 16 := ⟨_, rfl⟩
  rw [← hn] at w7' w10
  have n16 : n < 16 := by omega
  have L : ∀ loc, keepOnly ir27_k0 loc = [.junk, .c (.int .u8 (b : Int)), .junk, .junk, .junk, .c (.ptr (h.next + 1) 0), .c (.ptr H1.next 0), .junk, .c (.int .i64 (n : Int)), .c (.int .i64 0), .junk, .junk, .junk, .junk, .junk, .junk, .junk] →
      ∃ r, loopK (evCallX table 21 37 N (d + 4)) N ir27_k0 ir27_l0 N loc H4 = some r ∧ ∃ G x a0 a1 a2 a3 a4 l, r = (.exit 1, a0 :: a1 :: a2 :: a3 :: a4 :: .c (.ptr (h.next + 1) 0) :: .c (.ptr H1.next 0) :: l, G) ∧ G.get H1.next = some (.cells [.int .i64 4, .int .i64 0, .int .i64 ((b % 7 : Nat) : Int), .int .i64 ((e % 16 : Nat) : Int), .int .i64 0, x]) ∧ G.get (h.next + 1) = some (.cells clZ) ∧ Ext h G ∧ H4.next ≤ G.next ∧ Mine 1 H4 G x n (byteCells (List.replicate n b)) := by
    intro loc hloc
    refine loop_inv (n := n) (fun k loc G => k ≤ n ∧ ∃ x, G.get H1.next = some (.cells [.int .i64 4, .int .i64 0, .int .i64 ((b % 7 : Nat) : Int), .int .i64 ((e % 16 : Nat) : Int), .int .i64 0, x]) ∧ G.get (h.next + 1) = some (.cells clZ) ∧ Ext h G ∧ H4.next ≤ G.next ∧ Mine 1 H4 G x k (byteCells (List.replicate k b)) ∧ loc = [.junk, .c (.int .u8 (b : Int)), .junk, .junk, .junk, .c (.ptr (h.next + 1) 0), .c (.ptr H1.next 0), .junk, .c (.int .i64 (n : Int)), .c (.int .i64 (k : Int)), .junk, .junk, .junk, .junk, .junk, .junk, .junk]) _ ?_ ⟨Nat.zero_le _, .nils, g4, z4, x4, Nat.le_refl _, Mine.nil, hloc⟩ (by omega)
    rintro k loc G hk ⟨hkn, x, gG, gz, xG, nG, mine, rfl⟩
    unfold ir27_l0
    by_cases hlt : k < n
    · left
      refine ⟨hlt, ?_⟩
      have v1 : decide ((k : Int) < (n : Int)) = true := ltNat hlt
      have v2 := succI (i := k) (by omega)
      have q5 : G.read H1.next 5 1 = some [x] := read_cells gG rfl
      obtain ⟨G1, hG1⟩ : ∃ H, H = G.new (.cells [.int .u8 (b : Int)]) := ⟨_, rfl⟩
      have mine1 : Mine 1 H4 G1 x k (byteCells (List.replicate k b)) := by rw [hG1]; exact mine.new _
      have hs : source G1 1 (.c (.sl G.next 0 1 (.ex 1))) = some (0 + 1, [.int .u8 (b : Int)]) := source_new (by rw [hG1]; exact get_new_at) rfl
      obtain ⟨G2, a1, a2, a3, a4⟩ := app_mine mine1 (by rw [hG1, next_new]; omega) hs rfl (by omega)
      obtain ⟨y, hy⟩ : ∃ y, y = CV.sl G1.next 0 (k + (0 + 1)) (.dy 1) := ⟨_, rfl⟩
      rw [← hy] at a1 a2
      have k2 : ∀ j, j < H4.next → G2.get j = G.get j := fun j hj => (a4 j (by rw [hG1, next_new]; omega) (fun hb => by have := mine.young j hb; omega)).trans (by rw [hG1]; exact get_new_old (by omega))
      have n2' : G.next ≤ G2.next := by have := a3; rw [hG1, next_new] at this; omega
      obtain ⟨G3, b1, b2, b3, b4⟩ := write_at (o := 5) (v := y) ((k2 H1.next (by omega)).trans gG) (by simp)
      simp only [List.set_cons_succ, List.set_cons_zero] at b2
      simp only [enter_eq, ev_seq, seqK_norm, seqK_exit, seqK_ret, ev_reg, ev_cond, condK_true, condK_false, ev_block, blockK_norm, blockK_ret, blockK_exit, ev_loop, ev_skip, ev_exit, ev_ret, regK_cons, regK_nil, guard_none, guard_some, regG_true, regG_false, regO_some, op_mov, op_conv, op_bin, op_bsl, op_box, op_mks, op_s2b, op_pick, op_un, op_eq, op_len, op_ext, op_load, op_iaddr, op_slice, op_b2s, op_idxS, op_mx, op_mn, op_call, op_store, op_app, op_copy, args_eq, result_one', rv_loc, finish_norm, finish_ret, outK_some, keep_true, keep_false, keep_nil, p_bin, p_pick, p_un, p_eq, p_conv, evNew, pureK_some, newK_some, X.eval, set_none, set_some, List.map_cons, List.map_nil, List.getD_cons_zero, List.getD_cons_succ, List.getD_nil, List.set_cons_zero, List.set_cons_succ, binCV, unCV, isShift, intArithF_eq, shiftF_eq, wrapF_eq, intArith, shift, eqVal, bound, asNat_cast, cond_true, cond_false, BEq.rfl, beq_self_eq_true, evalParts, fillParts, AV.cells, AV.ofCells, XV.av, AV.xv, List.length_cons, List.length_nil, zeros, patch, setMany, List.nil_append, List.cons_append, Nat.ble, Nat.add_eq, Nat.zero_add, Nat.add_zero, Nat.reduceAdd, Nat.reduceMul, Nat.reduceSub, Nat.ble_eq, Nat.reduceLeDiff, Nat.reduceBEq, Int.reduceBEq, Int.reduceNeg, Bool.and_true, Bool.and_false, Bool.true_and, Bool.false_and, Bool.not_true, Bool.not_false, Bool.true_eq_false, Bool.false_eq_true, Int.reduceLT, Int.reduceLE, Int.reduceGT, Int.reduceGE, decide_true, decide_false, Bool.not_eq_true, loopN_norm, loopN_exit, tf, ft, ff, v1, v2, op_faddr, p_faddr, p_load, AV.ofCells, q5, op_bsl, ← hG1, a1, evEff, b1]
      refine ⟨_, _, rfl, by omega, y, b2, ((b3 _ (by omega)).trans (k2 _ (by omega))).trans gz, ⟨by rw [b4]; have := xG.1; omega, fun j hj => (b3 j (by omega)).trans ((k2 j (by omega)).trans (xG.2 j hj))⟩, by rw [b4]; omega, ?_, rfl⟩
      have e9 : byteCells (List.replicate (k + 1) b) = byteCells (List.replicate k b) ++ [.int .u8 (b : Int)] := by
        rw [← List.replicate_append_replicate (n := k) (m := 1)]; simp [byteCells]
      rw [e9]
      exact a2.keep (by rw [b4]; exact Nat.le_refl _) fun j hj hb => b3 j (fun hjk => by have := a2.young j hb; omega)
    · right
      have hkn' : k = n := by omega
      subst hkn'
      have v1 : decide ((k : Int) < (k : Int)) = false := geNat (Nat.le_refl _)
      simp only [enter_eq, ev_seq, seqK_norm, seqK_exit, seqK_ret, ev_reg, ev_cond, condK_true, condK_false, ev_block, blockK_norm, blockK_ret, blockK_exit, ev_loop, ev_skip, ev_exit, ev_ret, regK_cons, regK_nil, guard_none, guard_some, regG_true, regG_false, regO_some, op_mov, op_conv, op_bin, op_bsl, op_box, op_mks, op_s2b, op_pick, op_un, op_eq, op_len, op_ext, op_load, op_iaddr, op_slice, op_b2s, op_idxS, op_mx, op_mn, op_call, op_store, op_app, op_copy, args_eq, result_one', rv_loc, finish_norm, finish_ret, outK_some, keep_true, keep_false, keep_nil, p_bin, p_pick, p_un, p_eq, p_conv, evNew, pureK_some, newK_some, X.eval, set_none, set_some, List.map_cons, List.map_nil, List.getD_cons_zero, List.getD_cons_succ, List.getD_nil, List.set_cons_zero, List.set_cons_succ, binCV, unCV, isShift, intArithF_eq, shiftF_eq, wrapF_eq, intArith, shift, eqVal, bound, asNat_cast, cond_true, cond_false, BEq.rfl, beq_self_eq_true, evalParts, fillParts, AV.cells, AV.ofCells, XV.av, AV.xv, List.length_cons, List.length_nil, zeros, patch, setMany, List.nil_append, List.cons_append, Nat.ble, Nat.add_eq, Nat.zero_add, Nat.add_zero, Nat.reduceAdd, Nat.reduceMul, Nat.reduceSub, Nat.ble_eq, Nat.reduceLeDiff, Nat.reduceBEq, Int.reduceBEq, Int.reduceNeg, Bool.and_true, Bool.and_false, Bool.true_and, Bool.false_and, Bool.not_true, Bool.not_false, Bool.true_eq_false, Bool.false_eq_true, Int.reduceLT, Int.reduceLE, Int.reduceGT, Int.reduceGE, decide_true, decide_false, Bool.not_eq_true, loopN_norm, loopN_exit, tf, ft, ff, v1]
      exact ⟨_, rfl, by simp, G, x, _, _, _, _, _, _, rfl, gG, gz, xG, nG, mine⟩
  have L' := L [.c (.int .u8 (a : Int)), .c (.int .u8 (b : Int)), .c (.int .u8 (e : Int)), .agg (cfC c), .c (.ptr h.next 0), .c (.ptr (h.next + 1) 0), .c (.ptr H1.next 0), .c (.int .i64 ((e % 16 : Nat) : Int)), .c (.int .i64 (n : Int)), .c (.int .i64 0), .c (.bool false), .c (.int .i64 4), .c (.bool false), .c (.bool false), .c (.bool true), .tup [], .tup []] rfl
  obtain ⟨r, hr, G, x, a0, a1, a2, a3, a4, l, rfl, gG, gz, xG, nG, mine⟩ := L'
  obtain ⟨r1, G', r2, r3, r4, r5, r6⟩ := fin gz gG rfl xG
  simp only [enter_eq, ev_seq, seqK_norm, seqK_exit, seqK_ret, ev_reg, ev_cond, condK_true, condK_false, ev_block, blockK_norm, blockK_ret, blockK_exit, ev_loop, ev_skip, ev_exit, ev_ret, regK_cons, regK_nil, guard_none, guard_some, regG_true, regG_false, regO_some, op_mov, op_conv, op_bin, op_bsl, op_box, op_mks, op_s2b, op_pick, op_un, op_eq, op_len, op_ext, op_load, op_iaddr, op_slice, op_b2s, op_idxS, op_mx, op_mn, op_call, op_store, op_app, op_copy, args_eq, result_one', rv_loc, finish_norm, finish_ret, outK_some, keep_true, keep_false, keep_nil, p_bin, p_pick, p_un, p_eq, p_conv, evNew, pureK_some, newK_some, X.eval, set_none, set_some, List.map_cons, List.map_nil, List.getD_cons_zero, List.getD_cons_succ, List.getD_nil, List.set_cons_zero, List.set_cons_succ, binCV, unCV, isShift, intArithF_eq, shiftF_eq, wrapF_eq, intArith, shift, eqVal, bound, asNat_cast, cond_true, cond_false, BEq.rfl, beq_self_eq_true, evalParts, fillParts, AV.cells, AV.ofCells, XV.av, AV.xv, List.length_cons, List.length_nil, zeros, patch, setMany, List.nil_append, List.cons_append, Nat.ble, Nat.add_eq, Nat.zero_add, Nat.add_zero, Nat.reduceAdd, Nat.reduceMul, Nat.reduceSub, Nat.ble_eq, Nat.reduceLeDiff, Nat.reduceBEq, Int.reduceBEq, Int.reduceNeg, Bool.and_true, Bool.and_false, Bool.true_and, Bool.false_and, Bool.not_true, Bool.not_false, Bool.true_eq_false, Bool.false_eq_true, Int.reduceLT, Int.reduceLE, Int.reduceGT, Int.reduceGE, decide_true, decide_false, Bool.not_eq_true, loopN_norm, loopN_exit, tf, ft, ff, bx, op_faddr, p_faddr, op_build, p_build', p_load, next_new, evEff, AV.ofCells, result, evResults, RV.eval, ← hH0, q0, q1, q2, e1, e2, w1, w2, w3, w4, w5', w6', w7', w8, w9, w10, w11, w12, Int.reduceAdd, Int.reduceBEq, e3, e4, r1, r2, r3, hr, blockK_exit_eq]
  have hx : TxtY h G' x (List.replicate n b) := by
    obtain ⟨ml, ⟨rfl, rfl⟩ | ⟨i, rfl, m2, m3, m4⟩⟩ := mine
    · exact .nil
    · have t := Txt.all (h := G') (i := i) (c := .dy 1) (s := List.replicate n b) (by omega) ((r5 i (by omega)).trans m2) (fun x hx => by rw [List.eq_of_mem_replicate hx]; exact hb)
      rw [List.length_replicate] at t
      exact ⟨t, fun k hk => by simp [blk] at hk; omega⟩
  rw [hn] at hx
  exact ⟨_, _, rfl, hx, r4⟩

theorem rop_4 (c : Cf) (hc : c.ok = true) {a b e : Nat} (ha : a < 256) (hb : b < 256) (he : e < 256) (hk : a % 8 = 4) (_hN : 20 ≤ N) :
    ∃ x h', evCallX table 21 37 N (d + 5) 27 [.c (.int .u8 (a : Int)), .c (.int .u8 (b : Int)), .c (.int .u8 (e : Int)), .agg (cfC c)] h = some (.agg (clC (opK c b e 4) x), h') ∧ TxtY h h' x (opK c b e 4).data ∧ Ext h h' := by
  have ok := Cf.ok_iff.1 hc
  obtain ⟨H0, hH0⟩ : ∃ H, H = (h.new (.cells (cfC c))).new (.cells clZ) := ⟨_, rfl⟩
  have x0 : Ext h H0 := by rw [hH0]; exact ((Ext.refl _).new _).new _
  have n0 : H0.next = h.next + 2 := by rw [hH0]; rfl
  have g0 : H0.get h.next = some (.cells (cfC c)) := by rw [hH0, get_new_old (Nat.lt_succ_self _)]; exact get_new_at
  have z0 : H0.get (h.next + 1) = some (.cells clZ) := by rw [hH0]; exact get_new_at
  obtain ⟨H1, e1, x1⟩ := conf_all (N := N) (d := d + 3) (h := H0) c
  rw [hc] at e1
  have n1 := x1.1
  have g1 := x1.at_ g0 (by omega)
  have z1 := x1.at_ z0 (by omega)
  obtain ⟨H2, e2, g2, x2, n2⟩ := box_store (h := H1) (z := clZ) (v := [.int .i64 5, .int .i64 0, .int .i64 0, .int .i64 0, .int .i64 0, .nils]) rfl
  have q0 : H0.read h.next 0 4 = some (cfC c) := read_all g0 rfl
  have q1 : H2.read H1.next 0 1 = some [.int .i64 5] := read_cells g2 rfl
  have q2 : H2.read h.next 0 1 = some [.int .i64 c.pages] := read_cells (x2.at_ g1 (by omega)) rfl
  have w1 := wI ha
  have w2 := wI hb
  have w3 := wI he
  have w4 : Int.tmod (a : Int) 8 = 4 := by have := tmodN a 8; rw [hk] at this; exact this
  have w5 := tmodN b 7
  have w6 := tmodN e 16
  have w7 := tdivN e 16
  have w8 : IntKind.i64.wrap (c.pages + 1) = c.pages + 1 := wrapI (by omega) (by omega)
  have w9 : Int.tmod (b : Int) (c.pages + 1) = (b : Int) % (c.pages + 1) := Int.tmod_eq_emod_of_nonneg (by omega)
  have w10 : IntKind.i64.wrap ((e / 16 : Nat) : Int) = ((e / 16 : Nat) : Int) := wI (by omega)
  have w11 : (c.pages + 1 == 0) = false := by simp only [beq_eq_false_iff_ne, ne_eq]; omega
  have w12 : IntKind.i64.wrap 5 = 5 := rfl
  have bx : AV.cells (.agg (cfC c)) = some (cfC c) := rfl
  have zz : H2.get (h.next + 1) = some (.cells clZ) := x2.at_ z1 (by omega)
  have fin : ∀ {G : Heap} {l : List CV}, G.get (h.next + 1) = some (.cells clZ) → G.get H1.next = some (.cells l) → l.length = 6 → Ext h G → G.read H1.next 0 6 = some l ∧ ∃ G', G.write (h.next + 1) 0 l = some G' ∧ G'.read (h.next + 1) 0 6 = some l ∧ Ext h G' ∧ (∀ k, k ≠ h.next + 1 → G'.get k = G.get k) ∧ G'.next = G.next := by
    intro G l gz gl hl xg
    refine ⟨read_all gl hl, ?_⟩
    obtain ⟨G', a1, a2, a3, a4⟩ := write_all (l := l) gz (by rw [hl]; rfl)
    exact ⟨G', a1, read_all a2 hl, ⟨by rw [a4]; exact xg.1, fun k hk => (a3 k (by omega)).trans (xg.2 k hk)⟩, a3, a4⟩
  rw [evCallX_eq (F := ir27) rfl rfl rfl rfl]
  unfold ir27
  rw [bodyK_eq]
  have w5' : Int.tmod (b : Int) 7 = ((b % 7 : Nat) : Int) := w5
  have w6' : Int.tmod (e : Int) 16 = ((e % 16 : Nat) : Int) := w6
  have w7' : Int.tdiv (e : Int) 16 = ((e / 16 : Nat) : Int) := w7
  obtain ⟨H3, e3, g3, s3, n3⟩ := write_at (o := 2) (v := .int .i64 ((b % 7 : Nat) : Int)) g2 (by simp)
  have x3 : Ext h H3 := ⟨by rw [n3, n2]; omega, fun k hk => (s3 k (by omega)).trans ((x0.trans (x1.trans x2)).2 k hk)⟩
  have q3 : H3.read H1.next 0 1 = some [.int .i64 5] := read_cells g3 rfl
  obtain ⟨r1, G, r2, r3, r4, r5, r6⟩ := fin ((s3 _ (by omega)).trans zz) g3 rfl x3
  simp only [List.set_cons_succ, List.set_cons_zero] at r1 r2 r3
  simp only [enter_eq, ev_seq, seqK_norm, seqK_exit, seqK_ret, ev_reg, ev_cond, condK_true, condK_false, ev_block, blockK_norm, blockK_ret, blockK_exit, ev_loop, ev_skip, ev_exit, ev_ret, regK_cons, regK_nil, guard_none, guard_some, regG_true, regG_false, regO_some, op_mov, op_conv, op_bin, op_bsl, op_box, op_mks, op_s2b, op_pick, op_un, op_eq, op_len, op_ext, op_load, op_iaddr, op_slice, op_b2s, op_idxS, op_mx, op_mn, op_call, op_store, op_app, op_copy, args_eq, result_one', rv_loc, finish_norm, finish_ret, outK_some, keep_true, keep_false, keep_nil, p_bin, p_pick, p_un, p_eq, p_conv, evNew, pureK_some, newK_some, X.eval, set_none, set_some, List.map_cons, List.map_nil, List.getD_cons_zero, List.getD_cons_succ, List.getD_nil, List.set_cons_zero, List.set_cons_succ, binCV, unCV, isShift, intArithF_eq, shiftF_eq, wrapF_eq, intArith, shift, eqVal, bound, asNat_cast, cond_true, cond_false, BEq.rfl, beq_self_eq_true, evalParts, fillParts, AV.cells, AV.ofCells, XV.av, AV.xv, List.length_cons, List.length_nil, zeros, patch, setMany, List.nil_append, List.cons_append, Nat.ble, Nat.add_eq, Nat.zero_add, Nat.add_zero, Nat.reduceAdd, Nat.reduceMul, Nat.reduceSub, Nat.ble_eq, Nat.reduceLeDiff, Nat.reduceBEq, Int.reduceBEq, Int.reduceNeg, Bool.and_true, Bool.and_false, Bool.true_and, Bool.false_and, Bool.not_true, Bool.not_false, Bool.true_eq_false, Bool.false_eq_true, Int.reduceLT, Int.reduceLE, Int.reduceGT, Int.reduceGE, decide_true, decide_false, Bool.not_eq_true, loopN_norm, loopN_exit, tf, ft, ff, bx, op_faddr, p_faddr, op_build, p_build', p_load, next_new, evEff, AV.ofCells, result, evResults, RV.eval, ← hH0, q0, q1, q2, e1, e2, w1, w2, w3, w4, w5', w6', w7', w8, w9, w10, w11, w12, Int.reduceAdd, Int.reduceBEq, e3, q3, r1, r2, r3]
  exact ⟨_, _, rfl, .nil, r4⟩

theorem rop_5 (c : Cf) (hc : c.ok = true) {a b e : Nat} (ha : a < 256) (hb : b < 256) (he : e < 256) (hk : a % 8 = 5) (_hN : 20 ≤ N) :
    ∃ x h', evCallX table 21 37 N (d + 5) 27 [.c (.int .u8 (a : Int)), .c (.int .u8 (b : Int)), .c (.int .u8 (e : Int)), .agg (cfC c)] h = some (.agg (clC (opK c b e 5) x), h') ∧ TxtY h h' x (opK c b e 5).data ∧ Ext h h' := by
  have ok := Cf.ok_iff.1 hc
  obtain ⟨H0, hH0⟩ : ∃ H, H = (h.new (.cells (cfC c))).new (.cells clZ) := ⟨_, rfl⟩
  have x0 : Ext h H0 := by rw [hH0]; exact ((Ext.refl _).new _).new _
  have n0 : H0.next = h.next + 2 := by rw [hH0]; rfl
  have g0 : H0.get h.next = some (.cells (cfC c)) := by rw [hH0, get_new_old (Nat.lt_succ_self _)]; exact get_new_at
  have z0 : H0.get (h.next + 1) = some (.cells clZ) := by rw [hH0]; exact get_new_at
  obtain ⟨H1, e1, x1⟩ := conf_all (N := N) (d := d + 3) (h := H0) c
  rw [hc] at e1
  have n1 := x1.1
  have g1 := x1.at_ g0 (by omega)
  have z1 := x1.at_ z0 (by omega)
  obtain ⟨H2, e2, g2, x2, n2⟩ := box_store (h := H1) (z := clZ) (v := [.int .i64 6, .int .i64 0, .int .i64 0, .int .i64 0, .int .i64 0, .nils]) rfl
  have q0 : H0.read h.next 0 4 = some (cfC c) := read_all g0 rfl
  have q1 : H2.read H1.next 0 1 = some [.int .i64 6] := read_cells g2 rfl
  have q2 : H2.read h.next 0 1 = some [.int .i64 c.pages] := read_cells (x2.at_ g1 (by omega)) rfl
  have w1 := wI ha
  have w2 := wI hb
  have w3 := wI he
  have w4 : Int.tmod (a : Int) 8 = 5 := by have := tmodN a 8; rw [hk] at this; exact this
  have w5 := tmodN b 7
  have w6 := tmodN e 16
  have w7 := tdivN e 16
  have w8 : IntKind.i64.wrap (c.pages + 1) = c.pages + 1 := wrapI (by omega) (by omega)
  have w9 : Int.tmod (b : Int) (c.pages + 1) = (b : Int) % (c.pages + 1) := Int.tmod_eq_emod_of_nonneg (by omega)
  have w10 : IntKind.i64.wrap ((e / 16 : Nat) : Int) = ((e / 16 : Nat) : Int) := wI (by omega)
  have w11 : (c.pages + 1 == 0) = false := by simp only [beq_eq_false_iff_ne, ne_eq]; omega
  have w12 : IntKind.i64.wrap 6 = 6 := rfl
  have bx : AV.cells (.agg (cfC c)) = some (cfC c) := rfl
  have zz : H2.get (h.next + 1) = some (.cells clZ) := x2.at_ z1 (by omega)
  have fin : ∀ {G : Heap} {l : List CV}, G.get (h.next + 1) = some (.cells clZ) → G.get H1.next = some (.cells l) → l.length = 6 → Ext h G → G.read H1.next 0 6 = some l ∧ ∃ G', G.write (h.next + 1) 0 l = some G' ∧ G'.read (h.next + 1) 0 6 = some l ∧ Ext h G' ∧ (∀ k, k ≠ h.next + 1 → G'.get k = G.get k) ∧ G'.next = G.next := by
    intro G l gz gl hl xg
    refine ⟨read_all gl hl, ?_⟩
    obtain ⟨G', a1, a2, a3, a4⟩ := write_all (l := l) gz (by rw [hl]; rfl)
    exact ⟨G', a1, read_all a2 hl, ⟨by rw [a4]; exact xg.1, fun k hk => (a3 k (by omega)).trans (xg.2 k hk)⟩, a3, a4⟩
  rw [evCallX_eq (F := ir27) rfl rfl rfl rfl]
  unfold ir27
  rw [bodyK_eq]
  have w5' : Int.tmod (b : Int) 7 = ((b % 7 : Nat) : Int) := w5
  have w6' : Int.tmod (e : Int) 16 = ((e % 16 : Nat) : Int) := w6
  have w7' : Int.tdiv (e : Int) 16 = ((e / 16 : Nat) : Int) := w7
  obtain ⟨H3, e3, g3, s3, n3⟩ := write_at (o := 1) (v := .int .i64 ((b : Int) % (c.pages + 1))) g2 (by simp)
  have x3 : Ext h H3 := ⟨by rw [n3, n2]; omega, fun k hk => (s3 k (by omega)).trans ((x0.trans (x1.trans x2)).2 k hk)⟩
  have q3 : H3.read H1.next 0 1 = some [.int .i64 6] := read_cells g3 rfl
  obtain ⟨r1, G, r2, r3, r4, r5, r6⟩ := fin ((s3 _ (by omega)).trans zz) g3 rfl x3
  simp only [List.set_cons_succ, List.set_cons_zero] at r1 r2 r3
  simp only [enter_eq, ev_seq, seqK_norm, seqK_exit, seqK_ret, ev_reg, ev_cond, condK_true, condK_false, ev_block, blockK_norm, blockK_ret, blockK_exit, ev_loop, ev_skip, ev_exit, ev_ret, regK_cons, regK_nil, guard_none, guard_some, regG_true, regG_false, regO_some, op_mov, op_conv, op_bin, op_bsl, op_box, op_mks, op_s2b, op_pick, op_un, op_eq, op_len, op_ext, op_load, op_iaddr, op_slice, op_b2s, op_idxS, op_mx, op_mn, op_call, op_store, op_app, op_copy, args_eq, result_one', rv_loc, finish_norm, finish_ret, outK_some, keep_true, keep_false, keep_nil, p_bin, p_pick, p_un, p_eq, p_conv, evNew, pureK_some, newK_some, X.eval, set_none, set_some, List.map_cons, List.map_nil, List.getD_cons_zero, List.getD_cons_succ, List.getD_nil, List.set_cons_zero, List.set_cons_succ, binCV, unCV, isShift, intArithF_eq, shiftF_eq, wrapF_eq, intArith, shift, eqVal, bound, asNat_cast, cond_true, cond_false, BEq.rfl, beq_self_eq_true, evalParts, fillParts, AV.cells, AV.ofCells, XV.av, AV.xv, List.length_cons, List.length_nil, zeros, patch, setMany, List.nil_append, List.cons_append, Nat.ble, Nat.add_eq, Nat.zero_add, Nat.add_zero, Nat.reduceAdd, Nat.reduceMul, Nat.reduceSub, Nat.ble_eq, Nat.reduceLeDiff, Nat.reduceBEq, Int.reduceBEq, Int.reduceNeg, Bool.and_true, Bool.and_false, Bool.true_and, Bool.false_and, Bool.not_true, Bool.not_false, Bool.true_eq_false, Bool.false_eq_true, Int.reduceLT, Int.reduceLE, Int.reduceGT, Int.reduceGE, decide_true, decide_false, Bool.not_eq_true, loopN_norm, loopN_exit, tf, ft, ff, bx, op_faddr, p_faddr, op_build, p_build', p_load, next_new, evEff, AV.ofCells, result, evResults, RV.eval, ← hH0, q0, q1, q2, e1, e2, w1, w2, w3, w4, w5', w6', w7', w8, w9, w10, w11, w12, Int.reduceAdd, Int.reduceBEq, e3, q3, r1, r2, r3]
  exact ⟨_, _, rfl, .nil, r4⟩

theorem rop_6 (c : Cf) (hc : c.ok = true) {a b e : Nat} (ha : a < 256) (hb : b < 256) (he : e < 256) (hk : a % 8 = 6) (_hN : 20 ≤ N) :
    ∃ x h', evCallX table 21 37 N (d + 5) 27 [.c (.int .u8 (a : Int)), .c (.int .u8 (b : Int)), .c (.int .u8 (e : Int)), .agg (cfC c)] h = some (.agg (clC (opK c b e 6) x), h') ∧ TxtY h h' x (opK c b e 6).data ∧ Ext h h' := by
  have ok := Cf.ok_iff.1 hc
  obtain ⟨H0, hH0⟩ : ∃ H, H = (h.new (.cells (cfC c))).new (.cells clZ) := ⟨_, rfl⟩
  have x0 : Ext h H0 := by rw [hH0]; exact ((Ext.refl _).new _).new _
  have n0 : H0.next = h.next + 2 := by rw [hH0]; rfl
  have g0 : H0.get h.next = some (.cells (cfC c)) := by rw [hH0, get_new_old (Nat.lt_succ_self _)]; exact get_new_at
  have z0 : H0.get (h.next + 1) = some (.cells clZ) := by rw [hH0]; exact get_new_at
  obtain ⟨H1, e1, x1⟩ := conf_all (N := N) (d := d + 3) (h := H0) c
  rw [hc] at e1
  have n1 := x1.1
  have g1 := x1.at_ g0 (by omega)
  have z1 := x1.at_ z0 (by omega)
  obtain ⟨H2, e2, g2, x2, n2⟩ := box_store (h := H1) (z := clZ) (v := [.int .i64 7, .int .i64 0, .int .i64 0, .int .i64 0, .int .i64 0, .nils]) rfl
  have q0 : H0.read h.next 0 4 = some (cfC c) := read_all g0 rfl
  have q1 : H2.read H1.next 0 1 = some [.int .i64 7] := read_cells g2 rfl
  have q2 : H2.read h.next 0 1 = some [.int .i64 c.pages] := read_cells (x2.at_ g1 (by omega)) rfl
  have w1 := wI ha
  have w2 := wI hb
  have w3 := wI he
  have w4 : Int.tmod (a : Int) 8 = 6 := by have := tmodN a 8; rw [hk] at this; exact this
  have w5 := tmodN b 7
  have w6 := tmodN e 16
  have w7 := tdivN e 16
  have w8 : IntKind.i64.wrap (c.pages + 1) = c.pages + 1 := wrapI (by omega) (by omega)
  have w9 : Int.tmod (b : Int) (c.pages + 1) = (b : Int) % (c.pages + 1) := Int.tmod_eq_emod_of_nonneg (by omega)
  have w10 : IntKind.i64.wrap ((e / 16 : Nat) : Int) = ((e / 16 : Nat) : Int) := wI (by omega)
  have w11 : (c.pages + 1 == 0) = false := by simp only [beq_eq_false_iff_ne, ne_eq]; omega
  have w12 : IntKind.i64.wrap 7 = 7 := rfl
  have bx : AV.cells (.agg (cfC c)) = some (cfC c) := rfl
  have zz : H2.get (h.next + 1) = some (.cells clZ) := x2.at_ z1 (by omega)
  have fin : ∀ {G : Heap} {l : List CV}, G.get (h.next + 1) = some (.cells clZ) → G.get H1.next = some (.cells l) → l.length = 6 → Ext h G → G.read H1.next 0 6 = some l ∧ ∃ G', G.write (h.next + 1) 0 l = some G' ∧ G'.read (h.next + 1) 0 6 = some l ∧ Ext h G' ∧ (∀ k, k ≠ h.next + 1 → G'.get k = G.get k) ∧ G'.next = G.next := by
    intro G l gz gl hl xg
    refine ⟨read_all gl hl, ?_⟩
    obtain ⟨G', a1, a2, a3, a4⟩ := write_all (l := l) gz (by rw [hl]; rfl)
    exact ⟨G', a1, read_all a2 hl, ⟨by rw [a4]; exact xg.1, fun k hk => (a3 k (by omega)).trans (xg.2 k hk)⟩, a3, a4⟩
  rw [evCallX_eq (F := ir27) rfl rfl rfl rfl]
  unfold ir27
  rw [bodyK_eq]
  have w5' : Int.tmod (b : Int) 7 = ((b % 7 : Nat) : Int) := w5
  have w6' : Int.tmod (e : Int) 16 = ((e % 16 : Nat) : Int) := w6
  have w7' : Int.tdiv (e : Int) 16 = ((e / 16 : Nat) : Int) := w7
  obtain ⟨r1, G, r2, r3, r4, r5, r6⟩ := fin zz g2 rfl (x0.trans (x1.trans x2))
  simp only [enter_eq, ev_seq, seqK_norm, seqK_exit, seqK_ret, ev_reg, ev_cond, condK_true, condK_false, ev_block, blockK_norm, blockK_ret, blockK_exit, ev_loop, ev_skip, ev_exit, ev_ret, regK_cons, regK_nil, guard_none, guard_some, regG_true, regG_false, regO_some, op_mov, op_conv, op_bin, op_bsl, op_box, op_mks, op_s2b, op_pick, op_un, op_eq, op_len, op_ext, op_load, op_iaddr, op_slice, op_b2s, op_idxS, op_mx, op_mn, op_call, op_store, op_app, op_copy, args_eq, result_one', rv_loc, finish_norm, finish_ret, outK_some, keep_true, keep_false, keep_nil, p_bin, p_pick, p_un, p_eq, p_conv, evNew, pureK_some, newK_some, X.eval, set_none, set_some, List.map_cons, List.map_nil, List.getD_cons_zero, List.getD_cons_succ, List.getD_nil, List.set_cons_zero, List.set_cons_succ, binCV, unCV, isShift, intArithF_eq, shiftF_eq, wrapF_eq, intArith, shift, eqVal, bound, asNat_cast, cond_true, cond_false, BEq.rfl, beq_self_eq_true, evalParts, fillParts, AV.cells, AV.ofCells, XV.av, AV.xv, List.length_cons, List.length_nil, zeros, patch, setMany, List.nil_append, List.cons_append, Nat.ble, Nat.add_eq, Nat.zero_add, Nat.add_zero, Nat.reduceAdd, Nat.reduceMul, Nat.reduceSub, Nat.ble_eq, Nat.reduceLeDiff, Nat.reduceBEq, Int.reduceBEq, Int.reduceNeg, Bool.and_true, Bool.and_false, Bool.true_and, Bool.false_and, Bool.not_true, Bool.not_false, Bool.true_eq_false, Bool.false_eq_true, Int.reduceLT, Int.reduceLE, Int.reduceGT, Int.reduceGE, decide_true, decide_false, Bool.not_eq_true, loopN_norm, loopN_exit, tf, ft, ff, bx, op_faddr, p_faddr, op_build, p_build', p_load, next_new, evEff, AV.ofCells, result, evResults, RV.eval, ← hH0, q0, q1, q2, e1, e2, w1, w2, w3, w4, w5', w6', w7', w8, w9, w10, w11, w12, Int.reduceAdd, Int.reduceBEq, r1, r2, r3]
  exact ⟨_, _, rfl, .nil, r4⟩

theorem rop_7 (c : Cf) (hc : c.ok = true) {a b e : Nat} (ha : a < 256) (hb : b < 256) (he : e < 256) (hk : a % 8 = 7) (_hN : 20 ≤ N) :
    ∃ x h', evCallX table 21 37 N (d + 5) 27 [.c (.int .u8 (a : Int)), .c (.int .u8 (b : Int)), .c (.int .u8 (e : Int)), .agg (cfC c)] h = some (.agg (clC (opK c b e 7) x), h') ∧ TxtY h h' x (opK c b e 7).data ∧ Ext h h' := by
  have ok := Cf.ok_iff.1 hc
  obtain ⟨H0, hH0⟩ : ∃ H, H = (h.new (.cells (cfC c))).new (.cells clZ) := ⟨_, rfl⟩
  have x0 : Ext h H0 := by rw [hH0]; exact ((Ext.refl _).new _).new _
  have n0 : H0.next = h.next + 2 := by rw [hH0]; rfl
  have g0 : H0.get h.next = some (.cells (cfC c)) := by rw [hH0, get_new_old (Nat.lt_succ_self _)]; exact get_new_at
  have z0 : H0.get (h.next + 1) = some (.cells clZ) := by rw [hH0]; exact get_new_at
  obtain ⟨H1, e1, x1⟩ := conf_all (N := N) (d := d + 3) (h := H0) c
  rw [hc] at e1
  have n1 := x1.1
  have g1 := x1.at_ g0 (by omega)
  have z1 := x1.at_ z0 (by omega)
  obtain ⟨H2, e2, g2, x2, n2⟩ := box_store (h := H1) (z := clZ) (v := [.int .i64 8, .int .i64 0, .int .i64 0, .int .i64 0, .int .i64 0, .nils]) rfl
  have q0 : H0.read h.next 0 4 = some (cfC c) := read_all g0 rfl
  have q1 : H2.read H1.next 0 1 = some [.int .i64 8] := read_cells g2 rfl
  have q2 : H2.read h.next 0 1 = some [.int .i64 c.pages] := read_cells (x2.at_ g1 (by omega)) rfl
  have w1 := wI ha
  have w2 := wI hb
  have w3 := wI he
  have w4 : Int.tmod (a : Int) 8 = 7 := by have := tmodN a 8; rw [hk] at this; exact this
  have w5 := tmodN b 7
  have w6 := tmodN e 16
  have w7 := tdivN e 16
  have w8 : IntKind.i64.wrap (c.pages + 1) = c.pages + 1 := wrapI (by omega) (by omega)
  have w9 : Int.tmod (b : Int) (c.pages + 1) = (b : Int) % (c.pages + 1) := Int.tmod_eq_emod_of_nonneg (by omega)
  have w10 : IntKind.i64.wrap ((e / 16 : Nat) : Int) = ((e / 16 : Nat) : Int) := wI (by omega)
  have w11 : (c.pages + 1 == 0) = false := by simp only [beq_eq_false_iff_ne, ne_eq]; omega
  have w12 : IntKind.i64.wrap 8 = 8 := rfl
  have bx : AV.cells (.agg (cfC c)) = some (cfC c) := rfl
  have zz : H2.get (h.next + 1) = some (.cells clZ) := x2.at_ z1 (by omega)
  have fin : ∀ {G : Heap} {l : List CV}, G.get (h.next + 1) = some (.cells clZ) → G.get H1.next = some (.cells l) → l.length = 6 → Ext h G → G.read H1.next 0 6 = some l ∧ ∃ G', G.write (h.next + 1) 0 l = some G' ∧ G'.read (h.next + 1) 0 6 = some l ∧ Ext h G' ∧ (∀ k, k ≠ h.next + 1 → G'.get k = G.get k) ∧ G'.next = G.next := by
    intro G l gz gl hl xg
    refine ⟨read_all gl hl, ?_⟩
    obtain ⟨G', a1, a2, a3, a4⟩ := write_all (l := l) gz (by rw [hl]; rfl)
    exact ⟨G', a1, read_all a2 hl, ⟨by rw [a4]; exact xg.1, fun k hk => (a3 k (by omega)).trans (xg.2 k hk)⟩, a3, a4⟩
  rw [evCallX_eq (F := ir27) rfl rfl rfl rfl]
  unfold ir27
  rw [bodyK_eq]
  have w5' : Int.tmod (b : Int) 7 = ((b % 7 : Nat) : Int) := w5
  have w6' : Int.tmod (e : Int) 16 = ((e % 16 : Nat) : Int) := w6
  have w7' : Int.tdiv (e : Int) 16 = ((e / 16 : Nat) : Int) := w7
  obtain ⟨H3, e3, g3, s3, n3⟩ := write_at (o := 1) (v := .int .i64 ((b : Int) % (c.pages + 1))) g2 (by simp)
  have x3 : Ext h H3 := ⟨by rw [n3, n2]; omega, fun k hk => (s3 k (by omega)).trans ((x0.trans (x1.trans x2)).2 k hk)⟩
  have q3 : H3.read H1.next 0 1 = some [.int .i64 8] := read_cells g3 rfl
  obtain ⟨r1, G, r2, r3, r4, r5, r6⟩ := fin ((s3 _ (by omega)).trans zz) g3 rfl x3
  simp only [List.set_cons_succ, List.set_cons_zero] at r1 r2 r3
  simp only [enter_eq, ev_seq, seqK_norm, seqK_exit, seqK_ret, ev_reg, ev_cond, condK_true, condK_false, ev_block, blockK_norm, blockK_ret, blockK_exit, ev_loop, ev_skip, ev_exit, ev_ret, regK_cons, regK_nil, guard_none, guard_some, regG_true, regG_false, regO_some, op_mov, op_conv, op_bin, op_bsl, op_box, op_mks, op_s2b, op_pick, op_un, op_eq, op_len, op_ext, op_load, op_iaddr, op_slice, op_b2s, op_idxS, op_mx, op_mn, op_call, op_store, op_app, op_copy, args_eq, result_one', rv_loc, finish_norm, finish_ret, outK_some, keep_true, keep_false, keep_nil, p_bin, p_pick, p_un, p_eq, p_conv, evNew, pureK_some, newK_some, X.eval, set_none, set_some, List.map_cons, List.map_nil, List.getD_cons_zero, List.getD_cons_succ, List.getD_nil, List.set_cons_zero, List.set_cons_succ, binCV, unCV, isShift, intArithF_eq, shiftF_eq, wrapF_eq, intArith, shift, eqVal, bound, asNat_cast, cond_true, cond_false, BEq.rfl, beq_self_eq_true, evalParts, fillParts, AV.cells, AV.ofCells, XV.av, AV.xv, List.length_cons, List.length_nil, zeros, patch, setMany, List.nil_append, List.cons_append, Nat.ble, Nat.add_eq, Nat.zero_add, Nat.add_zero, Nat.reduceAdd, Nat.reduceMul, Nat.reduceSub, Nat.ble_eq, Nat.reduceLeDiff, Nat.reduceBEq, Int.reduceBEq, Int.reduceNeg, Bool.and_true, Bool.and_false, Bool.true_and, Bool.false_and, Bool.not_true, Bool.not_false, Bool.true_eq_false, Bool.false_eq_true, Int.reduceLT, Int.reduceLE, Int.reduceGT, Int.reduceGE, decide_true, decide_false, Bool.not_eq_true, loopN_norm, loopN_exit, tf, ft, ff, bx, op_faddr, p_faddr, op_build, p_build', p_load, next_new, evEff, AV.ofCells, result, evResults, RV.eval, ← hH0, q0, q1, q2, e1, e2, w1, w2, w3, w4, w5', w6', w7', w8, w9, w10, w11, w12, Int.reduceAdd, Int.reduceBEq, e3, q3, r1, r2, r3]
  exact ⟨_, _, rfl, .nil, r4⟩

theorem rop_no (c : Cf) (hc : c.ok = false) (x y z : AV) : ∃ h', evCallX table 21 37 N (d + 5) 27 [x, y, z, .agg (cfC c)] h = some (.agg clZ, h') ∧ Ext h h' := by
  obtain ⟨H0, hH0⟩ : ∃ H, H = (h.new (.cells (cfC c))).new (.cells clZ) := ⟨_, rfl⟩
  have x0 : Ext h H0 := by rw [hH0]; exact ((Ext.refl _).new _).new _
  have n0 : H0.next = h.next + 2 := by rw [hH0]; rfl
  have g0 : H0.get h.next = some (.cells (cfC c)) := by rw [hH0, get_new_old (Nat.lt_succ_self _)]; exact get_new_at
  have z0 : H0.get (h.next + 1) = some (.cells clZ) := by rw [hH0]; exact get_new_at
  obtain ⟨H1, e1, x1⟩ := conf_all (N := N) (d := d + 3) (h := H0) c
  rw [hc] at e1
  have n1 := x1.1
  have z1 := x1.at_ z0 (by omega)
  have q0 : H0.read h.next 0 4 = some (cfC c) := read_all g0 rfl
  have bx : AV.cells (.agg (cfC c)) = some (cfC c) := rfl
  obtain ⟨G, a1, a2, a3, a4⟩ := write_all (l := clZ) z1 rfl
  have r3 : G.read (h.next + 1) 0 6 = some clZ := read_all a2 rfl
  rw [evCallX_eq (F := ir27) rfl rfl rfl rfl]
  unfold ir27
  rw [bodyK_eq]
  simp only [enter_eq, ev_seq, seqK_norm, seqK_exit, seqK_ret, ev_reg, ev_cond, condK_true, condK_false, ev_block, blockK_norm, blockK_ret, blockK_exit, ev_loop, ev_skip, ev_exit, ev_ret, regK_cons, regK_nil, guard_none, guard_some, regG_true, regG_false, regO_some, op_mov, op_conv, op_bin, op_bsl, op_box, op_mks, op_s2b, op_pick, op_un, op_eq, op_len, op_ext, op_load, op_iaddr, op_slice, op_b2s, op_idxS, op_mx, op_mn, op_call, op_store, op_app, op_copy, args_eq, result_one', rv_loc, finish_norm, finish_ret, outK_some, keep_true, keep_false, keep_nil, p_bin, p_pick, p_un, p_eq, p_conv, evNew, pureK_some, newK_some, X.eval, set_none, set_some, List.map_cons, List.map_nil, List.getD_cons_zero, List.getD_cons_succ, List.getD_nil, List.set_cons_zero, List.set_cons_succ, binCV, unCV, isShift, intArithF_eq, shiftF_eq, wrapF_eq, intArith, shift, eqVal, bound, asNat_cast, cond_true, cond_false, BEq.rfl, beq_self_eq_true, evalParts, fillParts, AV.cells, AV.ofCells, XV.av, AV.xv, List.length_cons, List.length_nil, zeros, patch, setMany, List.nil_append, List.cons_append, Nat.ble, Nat.add_eq, Nat.zero_add, Nat.add_zero, Nat.reduceAdd, Nat.reduceMul, Nat.reduceSub, Nat.ble_eq, Nat.reduceLeDiff, Nat.reduceBEq, Int.reduceBEq, Int.reduceNeg, Bool.and_true, Bool.and_false, Bool.true_and, Bool.false_and, Bool.not_true, Bool.not_false, Bool.true_eq_false, Bool.false_eq_true, Int.reduceLT, Int.reduceLE, Int.reduceGT, Int.reduceGE, decide_true, decide_false, Bool.not_eq_true, loopN_norm, loopN_exit, tf, ft, ff, bx, op_build, p_build', p_load, next_new, evEff, AV.ofCells, result, evResults, RV.eval, ← hH0, q0, e1, a1, r3]
  exact ⟨_, rfl, by have := x0.1; omega, fun k hk => (a3 k (by omega)).trans ((x0.trans x1).2 k hk)⟩

theorem rop_ok (c : Cf) {a b e : Nat} (ha : a < 256) (hb : b < 256) (he : e < 256) (hN : 20 ≤ N) :
    ∃ x h', evCallX table 21 37 N (d + 5) 27 [.c (.int .u8 (a : Int)), .c (.int .u8 (b : Int)), .c (.int .u8 (e : Int)), .agg (cfC c)] h = some (.agg (clC (opOf c a b e) x), h') ∧ TxtY h h' x (opOf c a b e).data ∧ Ext h h' := by
  unfold opOf
  cases hc : c.ok with
  | false =>
    obtain ⟨h', e1, x1⟩ := rop_no (N := N) (d := d) (h := h) c hc (.c (.int .u8 (a : Int))) (.c (.int .u8 (b : Int))) (.c (.int .u8 (e : Int)))
    exact ⟨.nils, h', e1, .nil, x1⟩
  | true =>
    rw [if_pos rfl]
    have h8 : a % 8 = 0 ∨ a % 8 = 1 ∨ a % 8 = 2 ∨ a % 8 = 3 ∨ a % 8 = 4 ∨ a % 8 = 5 ∨ a % 8 = 6 ∨ a % 8 = 7 := by omega
    rcases h8 with k | k | k | k | k | k | k | k <;> rw [k]
    · exact rop_0 c hc ha hb he k hN
    · exact rop_1 c hc ha hb he k hN
    · exact rop_2 c hc ha hb he k hN
    · exact rop_3 c hc ha hb he k hN
    · exact rop_4 c hc ha hb he k hN
    · exact rop_5 c hc ha hb he k hN
    · exact rop_6 c hc ha hb he k hN
    · exact rop_7 c hc ha hb he k hN
end
end Lav
