/-
  Layer 15: the step that four bytes are.
-/
import Derived.Test.YtdeehmncnfdmkaaScr3
import Derived.Test.YtdeehmncnfdmkaaFwO
set_option maxRecDepth 100000
set_option linter.unusedSimpArgs false
namespace Lav
open Go (IntKind)

/-- A step. -/
structure Stp where
  kind : Int
  client : Int
  n : Int
  to : Int
  op : Clp
  bits : List Nat
def clz : Clp := ⟨0, 0, 0, 0, 0, []⟩
abbrev stC (s : Stp) (x y : CV) : List CV := [.int .i64 s.kind, .int .i64 s.client, .int .i64 s.n, .int .i64 s.to, .int .i64 s.op.kind, .int .i64 s.op.page, .int .i64 s.op.handle, .int .i64 s.op.off, .int .i64 s.op.n, x, y]
abbrev stZ : List CV := [.int .i64 0, .int .i64 0, .int .i64 0, .int .i64 0, .int .i64 0, .int .i64 0, .int .i64 0, .int .i64 0, .int .i64 0, .nils, .nils]
def stepK (c : Cf) (b0 b1 b2 b3 : Nat) : Nat → Stp
  | 0 => ⟨1, (b1 : Int) % c.clients, 0, 0, opOf c (b0 / 8) b2 b3, []⟩
  | 1 => ⟨1, (b1 : Int) % c.clients, 0, 0, opOf c (b0 / 8) b2 b3, []⟩
  | 2 => ⟨1, (b1 : Int) % c.clients, 0, 0, opOf c (b0 / 8) b2 b3, []⟩
  | 3 => ⟨2, 0, ((256 * b1 + b2 : Nat) : Int), 0, clz, []⟩
  | 4 => ⟨2, 0, ((256 * b1 + b2 : Nat) : Int), 0, clz, []⟩
  | 5 => ⟨2, 0, ((256 * b1 + b2 : Nat) : Int), 0, clz, []⟩
  | 6 => if b2 % 2 = 1 then ⟨5, 0, c.shards + (b3 : Int) % (32 - c.shards + 1), 0, clz, []⟩ else ⟨3, 0, ((b1 % 16 : Nat) : Int), 0, clz, []⟩
  | _ => if b1 = 255 then ⟨4, 0, 0, 0, clz, [b2, b3]⟩ else ⟨6, 0, ((b1 % 16 : Nat) : Int), (b2 : Int) % c.shards, clz, []⟩
def stepOf (c : Cf) (b0 b1 b2 b3 : Nat) : Stp := stepK c b0 b1 b2 b3 (b0 % 8)

/-- Four bytes of a slice. -/
structure Four (h : Heap) (i o : Nat) (b0 b1 b2 b3 : Nat) : Prop where
  r0 : h.read i o 1 = some [.int .u8 (b0 : Int)]
  r1 : h.read i (o + 1) 1 = some [.int .u8 (b1 : Int)]
  r2 : h.read i (o + 2) 1 = some [.int .u8 (b2 : Int)]
  r3 : h.read i (o + 3) 1 = some [.int .u8 (b3 : Int)]
  l0 : b0 < 256
  l1 : b1 < 256
  l2 : b2 < 256
  l3 : b3 < 256
  lt : i < h.next
theorem Four.ext {h h' : Heap} {i o b0 b1 b2 b3 : Nat} (f : Four h i o b0 b1 b2 b3) (e : Ext h h') : Four h' i o b0 b1 b2 b3 :=
  ⟨by rw [e.read f.lt]; exact f.r0, by rw [e.read f.lt]; exact f.r1, by rw [e.read f.lt]; exact f.r2, by rw [e.read f.lt]; exact f.r3, f.l0, f.l1, f.l2, f.l3, Nat.lt_of_lt_of_le f.lt e.1⟩

section
variable {N d : Nat} {h : Heap} {i o n : Nat} {cc : Cap} {b0 b1 b2 b3 : Nat}

theorem one_0 (c : Cf) (hc : c.ok = true) (f : Four h i o b0 b1 b2 b3) (hk : b0 % 8 = 0) (hn : 4 ≤ n) (HN : 20 ≤ N) :
    ∃ x y h', evCallX table 21 37 N (d + 6) 34 [.c (.sl i o n cc), .agg (cfC c)] h = some (.agg (stC (⟨1, (b1 : Int) % c.clients, 0, 0, opOf c (b0 / 8) b2 b3, []⟩ : Stp) x y), h') ∧ TxtY h h' x (⟨1, (b1 : Int) % c.clients, 0, 0, opOf c (b0 / 8) b2 b3, []⟩ : Stp).op.data ∧ TxtY h h' y (⟨1, (b1 : Int) % c.clients, 0, 0, opOf c (b0 / 8) b2 b3, []⟩ : Stp).bits ∧ Ext h h' := by
  have ok := Cf.ok_iff.1 hc
  have ⟨_, _, _, _, f0, f1, f2, f3, fl⟩ := f
  obtain ⟨H0, hH0⟩ : ∃ H, H = (h.new (.cells (cfC c))).new (.cells stZ) := ⟨_, rfl⟩
  have x0 : Ext h H0 := by rw [hH0]; exact ((Ext.refl _).new _).new _
  have n0 : H0.next = h.next + 2 := by rw [hH0]; rfl
  have g0 : H0.get h.next = some (.cells (cfC c)) := by rw [hH0, get_new_old (Nat.lt_succ_self _)]; exact get_new_at
  have z0 : H0.get (h.next + 1) = some (.cells stZ) := by rw [hH0]; exact get_new_at
  have q0 : H0.read h.next 0 4 = some (cfC c) := read_all g0 rfl
  have q2 : H0.read h.next 2 1 = some [.int .i64 c.shards] := read_cells g0 rfl
  have q3 : H0.read h.next 3 1 = some [.int .i64 c.clients] := read_cells g0 rfl
  have bx : AV.cells (.agg (cfC c)) = some (cfC c) := rfl
  have ⟨p0, p1, p2, p3, _, _, _, _, _⟩ := f.ext x0
  have a0' : asNat (.c (.int .i64 0)) = some 0 := rfl
  have a1' : asNat (.c (.int .i64 1)) = some 1 := rfl
  have a2' : asNat (.c (.int .i64 2)) = some 2 := rfl
  have a3' : asNat (.c (.int .i64 3)) = some 3 := rfl
  have m0 : Nat.blt 0 n = true := bltT (by omega)
  have m1 : Nat.blt 1 n = true := bltT (by omega)
  have m2 : Nat.blt 2 n = true := bltT (by omega)
  have m3 : Nat.blt 3 n = true := bltT (by omega)
  have w1 := wI f1
  have w2 := wI f2
  have w3 := wI f3
  have w4 : Int.tmod (b0 : Int) 8 = 0 := by have := tmodN b0 8; rw [hk] at this; exact this
  have w5 : IntKind.u8.wrap (Int.tdiv (b0 : Int) 8) = ((b0 / 8 : Nat) : Int) := by
    have : Int.tdiv (b0 : Int) 8 = ((b0 / 8 : Nat) : Int) := tdivN b0 8
    rw [this]; simp only [IntKind.wrap, IntKind.bits, IntKind.signed]; simp; omega
  have w6 : Int.tmod (b1 : Int) 16 = ((b1 % 16 : Nat) : Int) := tmodN b1 16
  have w7 : Int.tmod (b1 : Int) c.clients = (b1 : Int) % c.clients := Int.tmod_eq_emod_of_nonneg (by omega)
  have w8 : Int.tmod (b2 : Int) c.shards = (b2 : Int) % c.shards := Int.tmod_eq_emod_of_nonneg (by omega)
  have w9 : IntKind.i64.wrap (256 * (b1 : Int)) = 256 * (b1 : Int) := wrapI (by omega) (by omega)
  have w10 : IntKind.i64.wrap (256 * (b1 : Int) + (b2 : Int)) = ((256 * b1 + b2 : Nat) : Int) := by rw [wrapI (by omega) (by omega)]; omega
  have w11 : IntKind.i64.wrap (32 - c.shards) = 32 - c.shards := wrapI (by omega) (by omega)
  have w12 : IntKind.i64.wrap (32 - c.shards + 1) = 32 - c.shards + 1 := wrapI (by omega) (by omega)
  have w13 : Int.tmod (b3 : Int) (32 - c.shards + 1) = (b3 : Int) % (32 - c.shards + 1) := Int.tmod_eq_emod_of_nonneg (by omega)
  have w14 : IntKind.i64.wrap (c.shards + (b3 : Int) % (32 - c.shards + 1)) = c.shards + (b3 : Int) % (32 - c.shards + 1) := by
    have := Int.emod_nonneg (b3 : Int) (b := 32 - c.shards + 1) (by omega)
    have := Int.emod_lt_of_pos (b3 : Int) (b := 32 - c.shards + 1) (by omega)
    exact wrapI (by omega) (by omega)
  have w15r : Int.tmod (b2 : Int) 2 = ((b2 % 2 : Nat) : Int) := tmodN b2 2
  have k1 : (c.clients == 0) = false := by simp only [beq_eq_false_iff_ne, ne_eq]; omega
  have k2 : (c.shards == 0) = false := by simp only [beq_eq_false_iff_ne, ne_eq]; omega
  have k3 : (32 - c.shards + 1 == 0) = false := by simp only [beq_eq_false_iff_ne, ne_eq]; omega
  have w15 := w15r
  obtain ⟨x, H1, e1, t1, x1⟩ := op_ok (N := N) (d := d) (h := H0) c (a := b0 / 8) (b := b2) (e := b3) (by omega) f2 f3 HN
  have n1 := x1.1
  have q3' : H1.read h.next 3 1 = some [.int .i64 c.clients] := read_cells (x1.at_ g0 (by omega)) rfl
  obtain ⟨G, a1, a2, a3, a4⟩ := write_all (l := stC ⟨1, (b1 : Int) % c.clients, 0, 0, opOf c (b0 / 8) b2 b3, []⟩ x .nils) (x1.at_ z0 (by omega)) rfl
  have r3 : G.read (h.next + 1) 0 11 = some (stC ⟨1, (b1 : Int) % c.clients, 0, 0, opOf c (b0 / 8) b2 b3, []⟩ x .nils) := read_all a2 rfl
  have q3'' : G.read h.next 3 1 = some [.int .i64 c.clients] := read_cells ((a3 _ (by omega)).trans (x1.at_ g0 (by omega))) rfl
  have xg : Ext h G := ⟨by rw [a4]; have := x0.1; omega, fun k hk => (a3 k (by omega)).trans ((x0.trans x1).2 k hk)⟩
  have tg : TxtY h G x (opOf c (b0 / 8) b2 b3).data := (t1.keep (by omega) fun k _ hk => a3 k (by omega)).from_ (by omega)
  rw [evCallX_eq (F := ir34) rfl rfl rfl rfl]
  unfold ir34
  rw [bodyK_eq]
  simp only [enter_eq, ev_seq, seqK_norm, seqK_exit, seqK_ret, ev_reg, ev_cond, condK_true, condK_false, ev_block, blockK_norm, blockK_ret, blockK_exit, ev_loop, ev_skip, ev_exit, ev_ret, regK_cons, regK_nil, guard_none, guard_some, regG_true, regG_false, regO_some, op_mov, op_conv, op_bin, op_bsl, op_box, op_mks, op_s2b, op_pick, op_un, op_eq, op_len, op_ext, op_load, op_iaddr, op_slice, op_b2s, op_idxS, op_mx, op_mn, op_call, op_store, op_app, op_copy, args_eq, result_one', rv_loc, finish_norm, finish_ret, outK_some, keep_true, keep_false, keep_nil, p_bin, p_pick, p_un, p_eq, p_conv, evNew, pureK_some, newK_some, X.eval, set_none, set_some, List.map_cons, List.map_nil, List.getD_cons_zero, List.getD_cons_succ, List.getD_nil, List.set_cons_zero, List.set_cons_succ, binCV, unCV, isShift, intArithF_eq, shiftF_eq, wrapF_eq, intArith, shift, eqVal, bound, asNat_cast, cond_true, cond_false, BEq.rfl, beq_self_eq_true, evalParts, fillParts, AV.cells, AV.ofCells, XV.av, AV.xv, List.length_cons, List.length_nil, zeros, patch, setMany, List.nil_append, List.cons_append, Nat.ble, Nat.add_eq, Nat.zero_add, Nat.add_zero, Nat.reduceAdd, Nat.reduceMul, Nat.reduceSub, Nat.ble_eq, Nat.reduceLeDiff, Nat.reduceBEq, Int.reduceBEq, Int.reduceNeg, Bool.and_true, Bool.and_false, Bool.true_and, Bool.false_and, Bool.not_true, Bool.not_false, Bool.true_eq_false, Bool.false_eq_true, Int.reduceLT, Int.reduceLE, Int.reduceGT, Int.reduceGE, decide_true, decide_false, Bool.not_eq_true, loopN_norm, loopN_exit, tf, ft, ff, ev_dreg, dregK_nil, dregK_cons, dregE_true, dregP_some, dregX_some, d_mov, d_bin, d_eq, d_pick, d_un, d_conv, d_b2s, d_len, d_load, d_iaddr, d_slice, d_ext, d_call, d_store, chk_done, chk_none, chk_some, chkG_true, chkG_false, chkOne_nil, chkOne_cons, chkH_some, chkV_same, stage_none, stage_some, look_hit, look_miss, news_nil, wb_cons, wb_nil, skip0, List.reverse_cons, List.reverse_nil, bx, op_faddr, p_faddr, d_faddr, op_build, p_build', p_iaddr, a0', a1', a2', a3', p_load, next_new, AV.ofCells, result, evResults, RV.eval, ← hH0, q0, q2, q3, p0, p1, p2, p3, m0, m1, m2, m3, Nat.mul_one, w1, w2, w3, w4, w5, w6, w7, w8, w9, w10, w11, w12, w13, w14, w15, k1, k2, k3, Int.reduceAdd, Int.reduceBEq, evEff, d_bsl, dregW_some, d_build, next_skip, e1, a1, r3, q3', q3'']
  exact ⟨_, _, _, rfl, tg, .nil, xg⟩
theorem one_1 (c : Cf) (hc : c.ok = true) (f : Four h i o b0 b1 b2 b3) (hk : b0 % 8 = 1) (hn : 4 ≤ n) (HN : 20 ≤ N) :
    ∃ x y h', evCallX table 21 37 N (d + 6) 34 [.c (.sl i o n cc), .agg (cfC c)] h = some (.agg (stC (⟨1, (b1 : Int) % c.clients, 0, 0, opOf c (b0 / 8) b2 b3, []⟩ : Stp) x y), h') ∧ TxtY h h' x (⟨1, (b1 : Int) % c.clients, 0, 0, opOf c (b0 / 8) b2 b3, []⟩ : Stp).op.data ∧ TxtY h h' y (⟨1, (b1 : Int) % c.clients, 0, 0, opOf c (b0 / 8) b2 b3, []⟩ : Stp).bits ∧ Ext h h' := by
  have ok := Cf.ok_iff.1 hc
  have ⟨_, _, _, _, f0, f1, f2, f3, fl⟩ := f
  obtain ⟨H0, hH0⟩ : ∃ H, H = (h.new (.cells (cfC c))).new (.cells stZ) := ⟨_, rfl⟩
  have x0 : Ext h H0 := by rw [hH0]; exact ((Ext.refl _).new _).new _
  have n0 : H0.next = h.next + 2 := by rw [hH0]; rfl
  have g0 : H0.get h.next = some (.cells (cfC c)) := by rw [hH0, get_new_old (Nat.lt_succ_self _)]; exact get_new_at
  have z0 : H0.get (h.next + 1) = some (.cells stZ) := by rw [hH0]; exact get_new_at
  have q0 : H0.read h.next 0 4 = some (cfC c) := read_all g0 rfl
  have q2 : H0.read h.next 2 1 = some [.int .i64 c.shards] := read_cells g0 rfl
  have q3 : H0.read h.next 3 1 = some [.int .i64 c.clients] := read_cells g0 rfl
  have bx : AV.cells (.agg (cfC c)) = some (cfC c) := rfl
  have ⟨p0, p1, p2, p3, _, _, _, _, _⟩ := f.ext x0
  have a0' : asNat (.c (.int .i64 0)) = some 0 := rfl
  have a1' : asNat (.c (.int .i64 1)) = some 1 := rfl
  have a2' : asNat (.c (.int .i64 2)) = some 2 := rfl
  have a3' : asNat (.c (.int .i64 3)) = some 3 := rfl
  have m0 : Nat.blt 0 n = true := bltT (by omega)
  have m1 : Nat.blt 1 n = true := bltT (by omega)
  have m2 : Nat.blt 2 n = true := bltT (by omega)
  have m3 : Nat.blt 3 n = true := bltT (by omega)
  have w1 := wI f1
  have w2 := wI f2
  have w3 := wI f3
  have w4 : Int.tmod (b0 : Int) 8 = 1 := by have := tmodN b0 8; rw [hk] at this; exact this
  have w5 : IntKind.u8.wrap (Int.tdiv (b0 : Int) 8) = ((b0 / 8 : Nat) : Int) := by
    have : Int.tdiv (b0 : Int) 8 = ((b0 / 8 : Nat) : Int) := tdivN b0 8
    rw [this]; simp only [IntKind.wrap, IntKind.bits, IntKind.signed]; simp; omega
  have w6 : Int.tmod (b1 : Int) 16 = ((b1 % 16 : Nat) : Int) := tmodN b1 16
  have w7 : Int.tmod (b1 : Int) c.clients = (b1 : Int) % c.clients := Int.tmod_eq_emod_of_nonneg (by omega)
  have w8 : Int.tmod (b2 : Int) c.shards = (b2 : Int) % c.shards := Int.tmod_eq_emod_of_nonneg (by omega)
  have w9 : IntKind.i64.wrap (256 * (b1 : Int)) = 256 * (b1 : Int) := wrapI (by omega) (by omega)
  have w10 : IntKind.i64.wrap (256 * (b1 : Int) + (b2 : Int)) = ((256 * b1 + b2 : Nat) : Int) := by rw [wrapI (by omega) (by omega)]; omega
  have w11 : IntKind.i64.wrap (32 - c.shards) = 32 - c.shards := wrapI (by omega) (by omega)
  have w12 : IntKind.i64.wrap (32 - c.shards + 1) = 32 - c.shards + 1 := wrapI (by omega) (by omega)
  have w13 : Int.tmod (b3 : Int) (32 - c.shards + 1) = (b3 : Int) % (32 - c.shards + 1) := Int.tmod_eq_emod_of_nonneg (by omega)
  have w14 : IntKind.i64.wrap (c.shards + (b3 : Int) % (32 - c.shards + 1)) = c.shards + (b3 : Int) % (32 - c.shards + 1) := by
    have := Int.emod_nonneg (b3 : Int) (b := 32 - c.shards + 1) (by omega)
    have := Int.emod_lt_of_pos (b3 : Int) (b := 32 - c.shards + 1) (by omega)
    exact wrapI (by omega) (by omega)
  have w15r : Int.tmod (b2 : Int) 2 = ((b2 % 2 : Nat) : Int) := tmodN b2 2
  have k1 : (c.clients == 0) = false := by simp only [beq_eq_false_iff_ne, ne_eq]; omega
  have k2 : (c.shards == 0) = false := by simp only [beq_eq_false_iff_ne, ne_eq]; omega
  have k3 : (32 - c.shards + 1 == 0) = false := by simp only [beq_eq_false_iff_ne, ne_eq]; omega
  have w15 := w15r
  obtain ⟨x, H1, e1, t1, x1⟩ := op_ok (N := N) (d := d) (h := H0) c (a := b0 / 8) (b := b2) (e := b3) (by omega) f2 f3 HN
  have n1 := x1.1
  have q3' : H1.read h.next 3 1 = some [.int .i64 c.clients] := read_cells (x1.at_ g0 (by omega)) rfl
  obtain ⟨G, a1, a2, a3, a4⟩ := write_all (l := stC ⟨1, (b1 : Int) % c.clients, 0, 0, opOf c (b0 / 8) b2 b3, []⟩ x .nils) (x1.at_ z0 (by omega)) rfl
  have r3 : G.read (h.next + 1) 0 11 = some (stC ⟨1, (b1 : Int) % c.clients, 0, 0, opOf c (b0 / 8) b2 b3, []⟩ x .nils) := read_all a2 rfl
  have q3'' : G.read h.next 3 1 = some [.int .i64 c.clients] := read_cells ((a3 _ (by omega)).trans (x1.at_ g0 (by omega))) rfl
  have xg : Ext h G := ⟨by rw [a4]; have := x0.1; omega, fun k hk => (a3 k (by omega)).trans ((x0.trans x1).2 k hk)⟩
  have tg : TxtY h G x (opOf c (b0 / 8) b2 b3).data := (t1.keep (by omega) fun k _ hk => a3 k (by omega)).from_ (by omega)
  rw [evCallX_eq (F := ir34) rfl rfl rfl rfl]
  unfold ir34
  rw [bodyK_eq]
  simp only [enter_eq, ev_seq, seqK_norm, seqK_exit, seqK_ret, ev_reg, ev_cond, condK_true, condK_false, ev_block, blockK_norm, blockK_ret, blockK_exit, ev_loop, ev_skip, ev_exit, ev_ret, regK_cons, regK_nil, guard_none, guard_some, regG_true, regG_false, regO_some, op_mov, op_conv, op_bin, op_bsl, op_box, op_mks, op_s2b, op_pick, op_un, op_eq, op_len, op_ext, op_load, op_iaddr, op_slice, op_b2s, op_idxS, op_mx, op_mn, op_call, op_store, op_app, op_copy, args_eq, result_one', rv_loc, finish_norm, finish_ret, outK_some, keep_true, keep_false, keep_nil, p_bin, p_pick, p_un, p_eq, p_conv, evNew, pureK_some, newK_some, X.eval, set_none, set_some, List.map_cons, List.map_nil, List.getD_cons_zero, List.getD_cons_succ, List.getD_nil, List.set_cons_zero, List.set_cons_succ, binCV, unCV, isShift, intArithF_eq, shiftF_eq, wrapF_eq, intArith, shift, eqVal, bound, asNat_cast, cond_true, cond_false, BEq.rfl, beq_self_eq_true, evalParts, fillParts, AV.cells, AV.ofCells, XV.av, AV.xv, List.length_cons, List.length_nil, zeros, patch, setMany, List.nil_append, List.cons_append, Nat.ble, Nat.add_eq, Nat.zero_add, Nat.add_zero, Nat.reduceAdd, Nat.reduceMul, Nat.reduceSub, Nat.ble_eq, Nat.reduceLeDiff, Nat.reduceBEq, Int.reduceBEq, Int.reduceNeg, Bool.and_true, Bool.and_false, Bool.true_and, Bool.false_and, Bool.not_true, Bool.not_false, Bool.true_eq_false, Bool.false_eq_true, Int.reduceLT, Int.reduceLE, Int.reduceGT, Int.reduceGE, decide_true, decide_false, Bool.not_eq_true, loopN_norm, loopN_exit, tf, ft, ff, ev_dreg, dregK_nil, dregK_cons, dregE_true, dregP_some, dregX_some, d_mov, d_bin, d_eq, d_pick, d_un, d_conv, d_b2s, d_len, d_load, d_iaddr, d_slice, d_ext, d_call, d_store, chk_done, chk_none, chk_some, chkG_true, chkG_false, chkOne_nil, chkOne_cons, chkH_some, chkV_same, stage_none, stage_some, look_hit, look_miss, news_nil, wb_cons, wb_nil, skip0, List.reverse_cons, List.reverse_nil, bx, op_faddr, p_faddr, d_faddr, op_build, p_build', p_iaddr, a0', a1', a2', a3', p_load, next_new, AV.ofCells, result, evResults, RV.eval, ← hH0, q0, q2, q3, p0, p1, p2, p3, m0, m1, m2, m3, Nat.mul_one, w1, w2, w3, w4, w5, w6, w7, w8, w9, w10, w11, w12, w13, w14, w15, k1, k2, k3, Int.reduceAdd, Int.reduceBEq, evEff, d_bsl, dregW_some, d_build, next_skip, e1, a1, r3, q3', q3'']
  exact ⟨_, _, _, rfl, tg, .nil, xg⟩
theorem one_2 (c : Cf) (hc : c.ok = true) (f : Four h i o b0 b1 b2 b3) (hk : b0 % 8 = 2) (hn : 4 ≤ n) (HN : 20 ≤ N) :
    ∃ x y h', evCallX table 21 37 N (d + 6) 34 [.c (.sl i o n cc), .agg (cfC c)] h = some (.agg (stC (⟨1, (b1 : Int) % c.clients, 0, 0, opOf c (b0 / 8) b2 b3, []⟩ : Stp) x y), h') ∧ TxtY h h' x (⟨1, (b1 : Int) % c.clients, 0, 0, opOf c (b0 / 8) b2 b3, []⟩ : Stp).op.data ∧ TxtY h h' y (⟨1, (b1 : Int) % c.clients, 0, 0, opOf c (b0 / 8) b2 b3, []⟩ : Stp).bits ∧ Ext h h' := by
  have ok := Cf.ok_iff.1 hc
  have ⟨_, _, _, _, f0, f1, f2, f3, fl⟩ := f
  obtain ⟨H0, hH0⟩ : ∃ H, H = (h.new (.cells (cfC c))).new (.cells stZ) := ⟨_, rfl⟩
  have x0 : Ext h H0 := by rw [hH0]; exact ((Ext.refl _).new _).new _
  have n0 : H0.next = h.next + 2 := by rw [hH0]; rfl
  have g0 : H0.get h.next = some (.cells (cfC c)) := by rw [hH0, get_new_old (Nat.lt_succ_self _)]; exact get_new_at
  have z0 : H0.get (h.next + 1) = some (.cells stZ) := by rw [hH0]; exact get_new_at
  have q0 : H0.read h.next 0 4 = some (cfC c) := read_all g0 rfl
  have q2 : H0.read h.next 2 1 = some [.int .i64 c.shards] := read_cells g0 rfl
  have q3 : H0.read h.next 3 1 = some [.int .i64 c.clients] := read_cells g0 rfl
  have bx : AV.cells (.agg (cfC c)) = some (cfC c) := rfl
  have ⟨p0, p1, p2, p3, _, _, _, _, _⟩ := f.ext x0
  have a0' : asNat (.c (.int .i64 0)) = some 0 := rfl
  have a1' : asNat (.c (.int .i64 1)) = some 1 := rfl
  have a2' : asNat (.c (.int .i64 2)) = some 2 := rfl
  have a3' : asNat (.c (.int .i64 3)) = some 3 := rfl
  have m0 : Nat.blt 0 n = true := bltT (by omega)
  have m1 : Nat.blt 1 n = true := bltT (by omega)
  have m2 : Nat.blt 2 n = true := bltT (by omega)
  have m3 : Nat.blt 3 n = true := bltT (by omega)
  have w1 := wI f1
  have w2 := wI f2
  have w3 := wI f3
  have w4 : Int.tmod (b0 : Int) 8 = 2 := by have := tmodN b0 8; rw [hk] at this; exact this
  have w5 : IntKind.u8.wrap (Int.tdiv (b0 : Int) 8) = ((b0 / 8 : Nat) : Int) := by
    have : Int.tdiv (b0 : Int) 8 = ((b0 / 8 : Nat) : Int) := tdivN b0 8
    rw [this]; simp only [IntKind.wrap, IntKind.bits, IntKind.signed]; simp; omega
  have w6 : Int.tmod (b1 : Int) 16 = ((b1 % 16 : Nat) : Int) := tmodN b1 16
  have w7 : Int.tmod (b1 : Int) c.clients = (b1 : Int) % c.clients := Int.tmod_eq_emod_of_nonneg (by omega)
  have w8 : Int.tmod (b2 : Int) c.shards = (b2 : Int) % c.shards := Int.tmod_eq_emod_of_nonneg (by omega)
  have w9 : IntKind.i64.wrap (256 * (b1 : Int)) = 256 * (b1 : Int) := wrapI (by omega) (by omega)
  have w10 : IntKind.i64.wrap (256 * (b1 : Int) + (b2 : Int)) = ((256 * b1 + b2 : Nat) : Int) := by rw [wrapI (by omega) (by omega)]; omega
  have w11 : IntKind.i64.wrap (32 - c.shards) = 32 - c.shards := wrapI (by omega) (by omega)
  have w12 : IntKind.i64.wrap (32 - c.shards + 1) = 32 - c.shards + 1 := wrapI (by omega) (by omega)
  have w13 : Int.tmod (b3 : Int) (32 - c.shards + 1) = (b3 : Int) % (32 - c.shards + 1) := Int.tmod_eq_emod_of_nonneg (by omega)
  have w14 : IntKind.i64.wrap (c.shards + (b3 : Int) % (32 - c.shards + 1)) = c.shards + (b3 : Int) % (32 - c.shards + 1) := by
    have := Int.emod_nonneg (b3 : Int) (b := 32 - c.shards + 1) (by omega)
    have := Int.emod_lt_of_pos (b3 : Int) (b := 32 - c.shards + 1) (by omega)
    exact wrapI (by omega) (by omega)
  have w15r : Int.tmod (b2 : Int) 2 = ((b2 % 2 : Nat) : Int) := tmodN b2 2
  have k1 : (c.clients == 0) = false := by simp only [beq_eq_false_iff_ne, ne_eq]; omega
  have k2 : (c.shards == 0) = false := by simp only [beq_eq_false_iff_ne, ne_eq]; omega
  have k3 : (32 - c.shards + 1 == 0) = false := by simp only [beq_eq_false_iff_ne, ne_eq]; omega
  have w15 := w15r
  obtain ⟨x, H1, e1, t1, x1⟩ := op_ok (N := N) (d := d) (h := H0) c (a := b0 / 8) (b := b2) (e := b3) (by omega) f2 f3 HN
  have n1 := x1.1
  have q3' : H1.read h.next 3 1 = some [.int .i64 c.clients] := read_cells (x1.at_ g0 (by omega)) rfl
  obtain ⟨G, a1, a2, a3, a4⟩ := write_all (l := stC ⟨1, (b1 : Int) % c.clients, 0, 0, opOf c (b0 / 8) b2 b3, []⟩ x .nils) (x1.at_ z0 (by omega)) rfl
  have r3 : G.read (h.next + 1) 0 11 = some (stC ⟨1, (b1 : Int) % c.clients, 0, 0, opOf c (b0 / 8) b2 b3, []⟩ x .nils) := read_all a2 rfl
  have q3'' : G.read h.next 3 1 = some [.int .i64 c.clients] := read_cells ((a3 _ (by omega)).trans (x1.at_ g0 (by omega))) rfl
  have xg : Ext h G := ⟨by rw [a4]; have := x0.1; omega, fun k hk => (a3 k (by omega)).trans ((x0.trans x1).2 k hk)⟩
  have tg : TxtY h G x (opOf c (b0 / 8) b2 b3).data := (t1.keep (by omega) fun k _ hk => a3 k (by omega)).from_ (by omega)
  rw [evCallX_eq (F := ir34) rfl rfl rfl rfl]
  unfold ir34
  rw [bodyK_eq]
  simp only [enter_eq, ev_seq, seqK_norm, seqK_exit, seqK_ret, ev_reg, ev_cond, condK_true, condK_false, ev_block, blockK_norm, blockK_ret, blockK_exit, ev_loop, ev_skip, ev_exit, ev_ret, regK_cons, regK_nil, guard_none, guard_some, regG_true, regG_false, regO_some, op_mov, op_conv, op_bin, op_bsl, op_box, op_mks, op_s2b, op_pick, op_un, op_eq, op_len, op_ext, op_load, op_iaddr, op_slice, op_b2s, op_idxS, op_mx, op_mn, op_call, op_store, op_app, op_copy, args_eq, result_one', rv_loc, finish_norm, finish_ret, outK_some, keep_true, keep_false, keep_nil, p_bin, p_pick, p_un, p_eq, p_conv, evNew, pureK_some, newK_some, X.eval, set_none, set_some, List.map_cons, List.map_nil, List.getD_cons_zero, List.getD_cons_succ, List.getD_nil, List.set_cons_zero, List.set_cons_succ, binCV, unCV, isShift, intArithF_eq, shiftF_eq, wrapF_eq, intArith, shift, eqVal, bound, asNat_cast, cond_true, cond_false, BEq.rfl, beq_self_eq_true, evalParts, fillParts, AV.cells, AV.ofCells, XV.av, AV.xv, List.length_cons, List.length_nil, zeros, patch, setMany, List.nil_append, List.cons_append, Nat.ble, Nat.add_eq, Nat.zero_add, Nat.add_zero, Nat.reduceAdd, Nat.reduceMul, Nat.reduceSub, Nat.ble_eq, Nat.reduceLeDiff, Nat.reduceBEq, Int.reduceBEq, Int.reduceNeg, Bool.and_true, Bool.and_false, Bool.true_and, Bool.false_and, Bool.not_true, Bool.not_false, Bool.true_eq_false, Bool.false_eq_true, Int.reduceLT, Int.reduceLE, Int.reduceGT, Int.reduceGE, decide_true, decide_false, Bool.not_eq_true, loopN_norm, loopN_exit, tf, ft, ff, ev_dreg, dregK_nil, dregK_cons, dregE_true, dregP_some, dregX_some, d_mov, d_bin, d_eq, d_pick, d_un, d_conv, d_b2s, d_len, d_load, d_iaddr, d_slice, d_ext, d_call, d_store, chk_done, chk_none, chk_some, chkG_true, chkG_false, chkOne_nil, chkOne_cons, chkH_some, chkV_same, stage_none, stage_some, look_hit, look_miss, news_nil, wb_cons, wb_nil, skip0, List.reverse_cons, List.reverse_nil, bx, op_faddr, p_faddr, d_faddr, op_build, p_build', p_iaddr, a0', a1', a2', a3', p_load, next_new, AV.ofCells, result, evResults, RV.eval, ← hH0, q0, q2, q3, p0, p1, p2, p3, m0, m1, m2, m3, Nat.mul_one, w1, w2, w3, w4, w5, w6, w7, w8, w9, w10, w11, w12, w13, w14, w15, k1, k2, k3, Int.reduceAdd, Int.reduceBEq, evEff, d_bsl, dregW_some, d_build, next_skip, e1, a1, r3, q3', q3'']
  exact ⟨_, _, _, rfl, tg, .nil, xg⟩
theorem one_3 (c : Cf) (hc : c.ok = true) (f : Four h i o b0 b1 b2 b3) (hk : b0 % 8 = 3) (hn : 4 ≤ n) (_HN : 20 ≤ N) :
    ∃ x y h', evCallX table 21 37 N (d + 6) 34 [.c (.sl i o n cc), .agg (cfC c)] h = some (.agg (stC (⟨2, 0, ((256 * b1 + b2 : Nat) : Int), 0, clz, []⟩ : Stp) x y), h') ∧ TxtY h h' x (⟨2, 0, ((256 * b1 + b2 : Nat) : Int), 0, clz, []⟩ : Stp).op.data ∧ TxtY h h' y (⟨2, 0, ((256 * b1 + b2 : Nat) : Int), 0, clz, []⟩ : Stp).bits ∧ Ext h h' := by
  have ok := Cf.ok_iff.1 hc
  have ⟨_, _, _, _, f0, f1, f2, f3, fl⟩ := f
  obtain ⟨H0, hH0⟩ : ∃ H, H = (h.new (.cells (cfC c))).new (.cells stZ) := ⟨_, rfl⟩
  have x0 : Ext h H0 := by rw [hH0]; exact ((Ext.refl _).new _).new _
  have n0 : H0.next = h.next + 2 := by rw [hH0]; rfl
  have g0 : H0.get h.next = some (.cells (cfC c)) := by rw [hH0, get_new_old (Nat.lt_succ_self _)]; exact get_new_at
  have z0 : H0.get (h.next + 1) = some (.cells stZ) := by rw [hH0]; exact get_new_at
  have q0 : H0.read h.next 0 4 = some (cfC c) := read_all g0 rfl
  have q2 : H0.read h.next 2 1 = some [.int .i64 c.shards] := read_cells g0 rfl
  have q3 : H0.read h.next 3 1 = some [.int .i64 c.clients] := read_cells g0 rfl
  have bx : AV.cells (.agg (cfC c)) = some (cfC c) := rfl
  have ⟨p0, p1, p2, p3, _, _, _, _, _⟩ := f.ext x0
  have a0' : asNat (.c (.int .i64 0)) = some 0 := rfl
  have a1' : asNat (.c (.int .i64 1)) = some 1 := rfl
  have a2' : asNat (.c (.int .i64 2)) = some 2 := rfl
  have a3' : asNat (.c (.int .i64 3)) = some 3 := rfl
  have m0 : Nat.blt 0 n = true := bltT (by omega)
  have m1 : Nat.blt 1 n = true := bltT (by omega)
  have m2 : Nat.blt 2 n = true := bltT (by omega)
  have m3 : Nat.blt 3 n = true := bltT (by omega)
  have w1 := wI f1
  have w2 := wI f2
  have w3 := wI f3
  have w4 : Int.tmod (b0 : Int) 8 = 3 := by have := tmodN b0 8; rw [hk] at this; exact this
  have w5 : IntKind.u8.wrap (Int.tdiv (b0 : Int) 8) = ((b0 / 8 : Nat) : Int) := by
    have : Int.tdiv (b0 : Int) 8 = ((b0 / 8 : Nat) : Int) := tdivN b0 8
    rw [this]; simp only [IntKind.wrap, IntKind.bits, IntKind.signed]; simp; omega
  have w6 : Int.tmod (b1 : Int) 16 = ((b1 % 16 : Nat) : Int) := tmodN b1 16
  have w7 : Int.tmod (b1 : Int) c.clients = (b1 : Int) % c.clients := Int.tmod_eq_emod_of_nonneg (by omega)
  have w8 : Int.tmod (b2 : Int) c.shards = (b2 : Int) % c.shards := Int.tmod_eq_emod_of_nonneg (by omega)
  have w9 : IntKind.i64.wrap (256 * (b1 : Int)) = 256 * (b1 : Int) := wrapI (by omega) (by omega)
  have w10 : IntKind.i64.wrap (256 * (b1 : Int) + (b2 : Int)) = ((256 * b1 + b2 : Nat) : Int) := by rw [wrapI (by omega) (by omega)]; omega
  have w11 : IntKind.i64.wrap (32 - c.shards) = 32 - c.shards := wrapI (by omega) (by omega)
  have w12 : IntKind.i64.wrap (32 - c.shards + 1) = 32 - c.shards + 1 := wrapI (by omega) (by omega)
  have w13 : Int.tmod (b3 : Int) (32 - c.shards + 1) = (b3 : Int) % (32 - c.shards + 1) := Int.tmod_eq_emod_of_nonneg (by omega)
  have w14 : IntKind.i64.wrap (c.shards + (b3 : Int) % (32 - c.shards + 1)) = c.shards + (b3 : Int) % (32 - c.shards + 1) := by
    have := Int.emod_nonneg (b3 : Int) (b := 32 - c.shards + 1) (by omega)
    have := Int.emod_lt_of_pos (b3 : Int) (b := 32 - c.shards + 1) (by omega)
    exact wrapI (by omega) (by omega)
  have w15r : Int.tmod (b2 : Int) 2 = ((b2 % 2 : Nat) : Int) := tmodN b2 2
  have k1 : (c.clients == 0) = false := by simp only [beq_eq_false_iff_ne, ne_eq]; omega
  have k2 : (c.shards == 0) = false := by simp only [beq_eq_false_iff_ne, ne_eq]; omega
  have k3 : (32 - c.shards + 1 == 0) = false := by simp only [beq_eq_false_iff_ne, ne_eq]; omega
  have w15 := w15r
  obtain ⟨G, a1, a2, a3, a4⟩ := write_all (l := stC ⟨2, 0, ((256 * b1 + b2 : Nat) : Int), 0, clz, []⟩ .nils .nils) z0 rfl
  have r3 : G.read (h.next + 1) 0 11 = some (stC ⟨2, 0, ((256 * b1 + b2 : Nat) : Int), 0, clz, []⟩ .nils .nils) := read_all a2 rfl
  simp only [clz] at a1 r3
  rw [evCallX_eq (F := ir34) rfl rfl rfl rfl]
  unfold ir34
  rw [bodyK_eq]
  simp only [enter_eq, ev_seq, seqK_norm, seqK_exit, seqK_ret, ev_reg, ev_cond, condK_true, condK_false, ev_block, blockK_norm, blockK_ret, blockK_exit, ev_loop, ev_skip, ev_exit, ev_ret, regK_cons, regK_nil, guard_none, guard_some, regG_true, regG_false, regO_some, op_mov, op_conv, op_bin, op_bsl, op_box, op_mks, op_s2b, op_pick, op_un, op_eq, op_len, op_ext, op_load, op_iaddr, op_slice, op_b2s, op_idxS, op_mx, op_mn, op_call, op_store, op_app, op_copy, args_eq, result_one', rv_loc, finish_norm, finish_ret, outK_some, keep_true, keep_false, keep_nil, p_bin, p_pick, p_un, p_eq, p_conv, evNew, pureK_some, newK_some, X.eval, set_none, set_some, List.map_cons, List.map_nil, List.getD_cons_zero, List.getD_cons_succ, List.getD_nil, List.set_cons_zero, List.set_cons_succ, binCV, unCV, isShift, intArithF_eq, shiftF_eq, wrapF_eq, intArith, shift, eqVal, bound, asNat_cast, cond_true, cond_false, BEq.rfl, beq_self_eq_true, evalParts, fillParts, AV.cells, AV.ofCells, XV.av, AV.xv, List.length_cons, List.length_nil, zeros, patch, setMany, List.nil_append, List.cons_append, Nat.ble, Nat.add_eq, Nat.zero_add, Nat.add_zero, Nat.reduceAdd, Nat.reduceMul, Nat.reduceSub, Nat.ble_eq, Nat.reduceLeDiff, Nat.reduceBEq, Int.reduceBEq, Int.reduceNeg, Bool.and_true, Bool.and_false, Bool.true_and, Bool.false_and, Bool.not_true, Bool.not_false, Bool.true_eq_false, Bool.false_eq_true, Int.reduceLT, Int.reduceLE, Int.reduceGT, Int.reduceGE, decide_true, decide_false, Bool.not_eq_true, loopN_norm, loopN_exit, tf, ft, ff, ev_dreg, dregK_nil, dregK_cons, dregE_true, dregP_some, dregX_some, d_mov, d_bin, d_eq, d_pick, d_un, d_conv, d_b2s, d_len, d_load, d_iaddr, d_slice, d_ext, d_call, d_store, chk_done, chk_none, chk_some, chkG_true, chkG_false, chkOne_nil, chkOne_cons, chkH_some, chkV_same, stage_none, stage_some, look_hit, look_miss, news_nil, wb_cons, wb_nil, skip0, List.reverse_cons, List.reverse_nil, bx, op_faddr, p_faddr, d_faddr, op_build, p_build', p_iaddr, a0', a1', a2', a3', p_load, next_new, AV.ofCells, result, evResults, RV.eval, ← hH0, q0, q2, q3, p0, p1, p2, p3, m0, m1, m2, m3, Nat.mul_one, w1, w2, w3, w4, w5, w6, w7, w8, w9, w10, w11, w12, w13, w14, w15, k1, k2, k3, Int.reduceAdd, Int.reduceBEq, evEff, d_bsl, dregW_some, d_build, next_skip, a1, r3]
  exact ⟨_, _, _, rfl, .nil, .nil, ⟨by rw [a4]; exact x0.1, fun k hk => (a3 k (by omega)).trans (x0.2 k hk)⟩⟩
theorem one_4 (c : Cf) (hc : c.ok = true) (f : Four h i o b0 b1 b2 b3) (hk : b0 % 8 = 4) (hn : 4 ≤ n) (_HN : 20 ≤ N) :
    ∃ x y h', evCallX table 21 37 N (d + 6) 34 [.c (.sl i o n cc), .agg (cfC c)] h = some (.agg (stC (⟨2, 0, ((256 * b1 + b2 : Nat) : Int), 0, clz, []⟩ : Stp) x y), h') ∧ TxtY h h' x (⟨2, 0, ((256 * b1 + b2 : Nat) : Int), 0, clz, []⟩ : Stp).op.data ∧ TxtY h h' y (⟨2, 0, ((256 * b1 + b2 : Nat) : Int), 0, clz, []⟩ : Stp).bits ∧ Ext h h' := by
  have ok := Cf.ok_iff.1 hc
  have ⟨_, _, _, _, f0, f1, f2, f3, fl⟩ := f
  obtain ⟨H0, hH0⟩ : ∃ H, H = (h.new (.cells (cfC c))).new (.cells stZ) := ⟨_, rfl⟩
  have x0 : Ext h H0 := by rw [hH0]; exact ((Ext.refl _).new _).new _
  have n0 : H0.next = h.next + 2 := by rw [hH0]; rfl
  have g0 : H0.get h.next = some (.cells (cfC c)) := by rw [hH0, get_new_old (Nat.lt_succ_self _)]; exact get_new_at
  have z0 : H0.get (h.next + 1) = some (.cells stZ) := by rw [hH0]; exact get_new_at
  have q0 : H0.read h.next 0 4 = some (cfC c) := read_all g0 rfl
  have q2 : H0.read h.next 2 1 = some [.int .i64 c.shards] := read_cells g0 rfl
  have q3 : H0.read h.next 3 1 = some [.int .i64 c.clients] := read_cells g0 rfl
  have bx : AV.cells (.agg (cfC c)) = some (cfC c) := rfl
  have ⟨p0, p1, p2, p3, _, _, _, _, _⟩ := f.ext x0
  have a0' : asNat (.c (.int .i64 0)) = some 0 := rfl
  have a1' : asNat (.c (.int .i64 1)) = some 1 := rfl
  have a2' : asNat (.c (.int .i64 2)) = some 2 := rfl
  have a3' : asNat (.c (.int .i64 3)) = some 3 := rfl
  have m0 : Nat.blt 0 n = true := bltT (by omega)
  have m1 : Nat.blt 1 n = true := bltT (by omega)
  have m2 : Nat.blt 2 n = true := bltT (by omega)
  have m3 : Nat.blt 3 n = true := bltT (by omega)
  have w1 := wI f1
  have w2 := wI f2
  have w3 := wI f3
  have w4 : Int.tmod (b0 : Int) 8 = 4 := by have := tmodN b0 8; rw [hk] at this; exact this
  have w5 : IntKind.u8.wrap (Int.tdiv (b0 : Int) 8) = ((b0 / 8 : Nat) : Int) := by
    have : Int.tdiv (b0 : Int) 8 = ((b0 / 8 : Nat) : Int) := tdivN b0 8
    rw [this]; simp only [IntKind.wrap, IntKind.bits, IntKind.signed]; simp; omega
  have w6 : Int.tmod (b1 : Int) 16 = ((b1 % 16 : Nat) : Int) := tmodN b1 16
  have w7 : Int.tmod (b1 : Int) c.clients = (b1 : Int) % c.clients := Int.tmod_eq_emod_of_nonneg (by omega)
  have w8 : Int.tmod (b2 : Int) c.shards = (b2 : Int) % c.shards := Int.tmod_eq_emod_of_nonneg (by omega)
  have w9 : IntKind.i64.wrap (256 * (b1 : Int)) = 256 * (b1 : Int) := wrapI (by omega) (by omega)
  have w10 : IntKind.i64.wrap (256 * (b1 : Int) + (b2 : Int)) = ((256 * b1 + b2 : Nat) : Int) := by rw [wrapI (by omega) (by omega)]; omega
  have w11 : IntKind.i64.wrap (32 - c.shards) = 32 - c.shards := wrapI (by omega) (by omega)
  have w12 : IntKind.i64.wrap (32 - c.shards + 1) = 32 - c.shards + 1 := wrapI (by omega) (by omega)
  have w13 : Int.tmod (b3 : Int) (32 - c.shards + 1) = (b3 : Int) % (32 - c.shards + 1) := Int.tmod_eq_emod_of_nonneg (by omega)
  have w14 : IntKind.i64.wrap (c.shards + (b3 : Int) % (32 - c.shards + 1)) = c.shards + (b3 : Int) % (32 - c.shards + 1) := by
    have := Int.emod_nonneg (b3 : Int) (b := 32 - c.shards + 1) (by omega)
    have := Int.emod_lt_of_pos (b3 : Int) (b := 32 - c.shards + 1) (by omega)
    exact wrapI (by omega) (by omega)
  have w15r : Int.tmod (b2 : Int) 2 = ((b2 % 2 : Nat) : Int) := tmodN b2 2
  have k1 : (c.clients == 0) = false := by simp only [beq_eq_false_iff_ne, ne_eq]; omega
  have k2 : (c.shards == 0) = false := by simp only [beq_eq_false_iff_ne, ne_eq]; omega
  have k3 : (32 - c.shards + 1 == 0) = false := by simp only [beq_eq_false_iff_ne, ne_eq]; omega
  have w15 := w15r
  obtain ⟨G, a1, a2, a3, a4⟩ := write_all (l := stC ⟨2, 0, ((256 * b1 + b2 : Nat) : Int), 0, clz, []⟩ .nils .nils) z0 rfl
  have r3 : G.read (h.next + 1) 0 11 = some (stC ⟨2, 0, ((256 * b1 + b2 : Nat) : Int), 0, clz, []⟩ .nils .nils) := read_all a2 rfl
  simp only [clz] at a1 r3
  rw [evCallX_eq (F := ir34) rfl rfl rfl rfl]
  unfold ir34
  rw [bodyK_eq]
  simp only [enter_eq, ev_seq, seqK_norm, seqK_exit, seqK_ret, ev_reg, ev_cond, condK_true, condK_false, ev_block, blockK_norm, blockK_ret, blockK_exit, ev_loop, ev_skip, ev_exit, ev_ret, regK_cons, regK_nil, guard_none, guard_some, regG_true, regG_false, regO_some, op_mov, op_conv, op_bin, op_bsl, op_box, op_mks, op_s2b, op_pick, op_un, op_eq, op_len, op_ext, op_load, op_iaddr, op_slice, op_b2s, op_idxS, op_mx, op_mn, op_call, op_store, op_app, op_copy, args_eq, result_one', rv_loc, finish_norm, finish_ret, outK_some, keep_true, keep_false, keep_nil, p_bin, p_pick, p_un, p_eq, p_conv, evNew, pureK_some, newK_some, X.eval, set_none, set_some, List.map_cons, List.map_nil, List.getD_cons_zero, List.getD_cons_succ, List.getD_nil, List.set_cons_zero, List.set_cons_succ, binCV, unCV, isShift, intArithF_eq, shiftF_eq, wrapF_eq, intArith, shift, eqVal, bound, asNat_cast, cond_true, cond_false, BEq.rfl, beq_self_eq_true, evalParts, fillParts, AV.cells, AV.ofCells, XV.av, AV.xv, List.length_cons, List.length_nil, zeros, patch, setMany, List.nil_append, List.cons_append, Nat.ble, Nat.add_eq, Nat.zero_add, Nat.add_zero, Nat.reduceAdd, Nat.reduceMul, Nat.reduceSub, Nat.ble_eq, Nat.reduceLeDiff, Nat.reduceBEq, Int.reduceBEq, Int.reduceNeg, Bool.and_true, Bool.and_false, Bool.true_and, Bool.false_and, Bool.not_true, Bool.not_false, Bool.true_eq_false, Bool.false_eq_true, Int.reduceLT, Int.reduceLE, Int.reduceGT, Int.reduceGE, decide_true, decide_false, Bool.not_eq_true, loopN_norm, loopN_exit, tf, ft, ff, ev_dreg, dregK_nil, dregK_cons, dregE_true, dregP_some, dregX_some, d_mov, d_bin, d_eq, d_pick, d_un, d_conv, d_b2s, d_len, d_load, d_iaddr, d_slice, d_ext, d_call, d_store, chk_done, chk_none, chk_some, chkG_true, chkG_false, chkOne_nil, chkOne_cons, chkH_some, chkV_same, stage_none, stage_some, look_hit, look_miss, news_nil, wb_cons, wb_nil, skip0, List.reverse_cons, List.reverse_nil, bx, op_faddr, p_faddr, d_faddr, op_build, p_build', p_iaddr, a0', a1', a2', a3', p_load, next_new, AV.ofCells, result, evResults, RV.eval, ← hH0, q0, q2, q3, p0, p1, p2, p3, m0, m1, m2, m3, Nat.mul_one, w1, w2, w3, w4, w5, w6, w7, w8, w9, w10, w11, w12, w13, w14, w15, k1, k2, k3, Int.reduceAdd, Int.reduceBEq, evEff, d_bsl, dregW_some, d_build, next_skip, a1, r3]
  exact ⟨_, _, _, rfl, .nil, .nil, ⟨by rw [a4]; exact x0.1, fun k hk => (a3 k (by omega)).trans (x0.2 k hk)⟩⟩
theorem one_5 (c : Cf) (hc : c.ok = true) (f : Four h i o b0 b1 b2 b3) (hk : b0 % 8 = 5) (hn : 4 ≤ n) (_HN : 20 ≤ N) :
    ∃ x y h', evCallX table 21 37 N (d + 6) 34 [.c (.sl i o n cc), .agg (cfC c)] h = some (.agg (stC (⟨2, 0, ((256 * b1 + b2 : Nat) : Int), 0, clz, []⟩ : Stp) x y), h') ∧ TxtY h h' x (⟨2, 0, ((256 * b1 + b2 : Nat) : Int), 0, clz, []⟩ : Stp).op.data ∧ TxtY h h' y (⟨2, 0, ((256 * b1 + b2 : Nat) : Int), 0, clz, []⟩ : Stp).bits ∧ Ext h h' := by
  have ok := Cf.ok_iff.1 hc
  have ⟨_, _, _, _, f0, f1, f2, f3, fl⟩ := f
  obtain ⟨H0, hH0⟩ : ∃ H, H = (h.new (.cells (cfC c))).new (.cells stZ) := ⟨_, rfl⟩
  have x0 : Ext h H0 := by rw [hH0]; exact ((Ext.refl _).new _).new _
  have n0 : H0.next = h.next + 2 := by rw [hH0]; rfl
  have g0 : H0.get h.next = some (.cells (cfC c)) := by rw [hH0, get_new_old (Nat.lt_succ_self _)]; exact get_new_at
  have z0 : H0.get (h.next + 1) = some (.cells stZ) := by rw [hH0]; exact get_new_at
  have q0 : H0.read h.next 0 4 = some (cfC c) := read_all g0 rfl
  have q2 : H0.read h.next 2 1 = some [.int .i64 c.shards] := read_cells g0 rfl
  have q3 : H0.read h.next 3 1 = some [.int .i64 c.clients] := read_cells g0 rfl
  have bx : AV.cells (.agg (cfC c)) = some (cfC c) := rfl
  have ⟨p0, p1, p2, p3, _, _, _, _, _⟩ := f.ext x0
  have a0' : asNat (.c (.int .i64 0)) = some 0 := rfl
  have a1' : asNat (.c (.int .i64 1)) = some 1 := rfl
  have a2' : asNat (.c (.int .i64 2)) = some 2 := rfl
  have a3' : asNat (.c (.int .i64 3)) = some 3 := rfl
  have m0 : Nat.blt 0 n = true := bltT (by omega)
  have m1 : Nat.blt 1 n = true := bltT (by omega)
  have m2 : Nat.blt 2 n = true := bltT (by omega)
  have m3 : Nat.blt 3 n = true := bltT (by omega)
  have w1 := wI f1
  have w2 := wI f2
  have w3 := wI f3
  have w4 : Int.tmod (b0 : Int) 8 = 5 := by have := tmodN b0 8; rw [hk] at this; exact this
  have w5 : IntKind.u8.wrap (Int.tdiv (b0 : Int) 8) = ((b0 / 8 : Nat) : Int) := by
    have : Int.tdiv (b0 : Int) 8 = ((b0 / 8 : Nat) : Int) := tdivN b0 8
    rw [this]; simp only [IntKind.wrap, IntKind.bits, IntKind.signed]; simp; omega
  have w6 : Int.tmod (b1 : Int) 16 = ((b1 % 16 : Nat) : Int) := tmodN b1 16
  have w7 : Int.tmod (b1 : Int) c.clients = (b1 : Int) % c.clients := Int.tmod_eq_emod_of_nonneg (by omega)
  have w8 : Int.tmod (b2 : Int) c.shards = (b2 : Int) % c.shards := Int.tmod_eq_emod_of_nonneg (by omega)
  have w9 : IntKind.i64.wrap (256 * (b1 : Int)) = 256 * (b1 : Int) := wrapI (by omega) (by omega)
  have w10 : IntKind.i64.wrap (256 * (b1 : Int) + (b2 : Int)) = ((256 * b1 + b2 : Nat) : Int) := by rw [wrapI (by omega) (by omega)]; omega
  have w11 : IntKind.i64.wrap (32 - c.shards) = 32 - c.shards := wrapI (by omega) (by omega)
  have w12 : IntKind.i64.wrap (32 - c.shards + 1) = 32 - c.shards + 1 := wrapI (by omega) (by omega)
  have w13 : Int.tmod (b3 : Int) (32 - c.shards + 1) = (b3 : Int) % (32 - c.shards + 1) := Int.tmod_eq_emod_of_nonneg (by omega)
  have w14 : IntKind.i64.wrap (c.shards + (b3 : Int) % (32 - c.shards + 1)) = c.shards + (b3 : Int) % (32 - c.shards + 1) := by
    have := Int.emod_nonneg (b3 : Int) (b := 32 - c.shards + 1) (by omega)
    have := Int.emod_lt_of_pos (b3 : Int) (b := 32 - c.shards + 1) (by omega)
    exact wrapI (by omega) (by omega)
  have w15r : Int.tmod (b2 : Int) 2 = ((b2 % 2 : Nat) : Int) := tmodN b2 2
  have k1 : (c.clients == 0) = false := by simp only [beq_eq_false_iff_ne, ne_eq]; omega
  have k2 : (c.shards == 0) = false := by simp only [beq_eq_false_iff_ne, ne_eq]; omega
  have k3 : (32 - c.shards + 1 == 0) = false := by simp only [beq_eq_false_iff_ne, ne_eq]; omega
  have w15 := w15r
  obtain ⟨G, a1, a2, a3, a4⟩ := write_all (l := stC ⟨2, 0, ((256 * b1 + b2 : Nat) : Int), 0, clz, []⟩ .nils .nils) z0 rfl
  have r3 : G.read (h.next + 1) 0 11 = some (stC ⟨2, 0, ((256 * b1 + b2 : Nat) : Int), 0, clz, []⟩ .nils .nils) := read_all a2 rfl
  simp only [clz] at a1 r3
  rw [evCallX_eq (F := ir34) rfl rfl rfl rfl]
  unfold ir34
  rw [bodyK_eq]
  simp only [enter_eq, ev_seq, seqK_norm, seqK_exit, seqK_ret, ev_reg, ev_cond, condK_true, condK_false, ev_block, blockK_norm, blockK_ret, blockK_exit, ev_loop, ev_skip, ev_exit, ev_ret, regK_cons, regK_nil, guard_none, guard_some, regG_true, regG_false, regO_some, op_mov, op_conv, op_bin, op_bsl, op_box, op_mks, op_s2b, op_pick, op_un, op_eq, op_len, op_ext, op_load, op_iaddr, op_slice, op_b2s, op_idxS, op_mx, op_mn, op_call, op_store, op_app, op_copy, args_eq, result_one', rv_loc, finish_norm, finish_ret, outK_some, keep_true, keep_false, keep_nil, p_bin, p_pick, p_un, p_eq, p_conv, evNew, pureK_some, newK_some, X.eval, set_none, set_some, List.map_cons, List.map_nil, List.getD_cons_zero, List.getD_cons_succ, List.getD_nil, List.set_cons_zero, List.set_cons_succ, binCV, unCV, isShift, intArithF_eq, shiftF_eq, wrapF_eq, intArith, shift, eqVal, bound, asNat_cast, cond_true, cond_false, BEq.rfl, beq_self_eq_true, evalParts, fillParts, AV.cells, AV.ofCells, XV.av, AV.xv, List.length_cons, List.length_nil, zeros, patch, setMany, List.nil_append, List.cons_append, Nat.ble, Nat.add_eq, Nat.zero_add, Nat.add_zero, Nat.reduceAdd, Nat.reduceMul, Nat.reduceSub, Nat.ble_eq, Nat.reduceLeDiff, Nat.reduceBEq, Int.reduceBEq, Int.reduceNeg, Bool.and_true, Bool.and_false, Bool.true_and, Bool.false_and, Bool.not_true, Bool.not_false, Bool.true_eq_false, Bool.false_eq_true, Int.reduceLT, Int.reduceLE, Int.reduceGT, Int.reduceGE, decide_true, decide_false, Bool.not_eq_true, loopN_norm, loopN_exit, tf, ft, ff, ev_dreg, dregK_nil, dregK_cons, dregE_true, dregP_some, dregX_some, d_mov, d_bin, d_eq, d_pick, d_un, d_conv, d_b2s, d_len, d_load, d_iaddr, d_slice, d_ext, d_call, d_store, chk_done, chk_none, chk_some, chkG_true, chkG_false, chkOne_nil, chkOne_cons, chkH_some, chkV_same, stage_none, stage_some, look_hit, look_miss, news_nil, wb_cons, wb_nil, skip0, List.reverse_cons, List.reverse_nil, bx, op_faddr, p_faddr, d_faddr, op_build, p_build', p_iaddr, a0', a1', a2', a3', p_load, next_new, AV.ofCells, result, evResults, RV.eval, ← hH0, q0, q2, q3, p0, p1, p2, p3, m0, m1, m2, m3, Nat.mul_one, w1, w2, w3, w4, w5, w6, w7, w8, w9, w10, w11, w12, w13, w14, w15, k1, k2, k3, Int.reduceAdd, Int.reduceBEq, evEff, d_bsl, dregW_some, d_build, next_skip, a1, r3]
  exact ⟨_, _, _, rfl, .nil, .nil, ⟨by rw [a4]; exact x0.1, fun k hk => (a3 k (by omega)).trans (x0.2 k hk)⟩⟩
theorem one_6a (c : Cf) (hc : c.ok = true) (f : Four h i o b0 b1 b2 b3) (hk : b0 % 8 = 6) (hn : 4 ≤ n) (_HN : 20 ≤ N) (hb : b2 % 2 = 1) :
    ∃ x y h', evCallX table 21 37 N (d + 6) 34 [.c (.sl i o n cc), .agg (cfC c)] h = some (.agg (stC (⟨5, 0, c.shards + (b3 : Int) % (32 - c.shards + 1), 0, clz, []⟩ : Stp) x y), h') ∧ TxtY h h' x (⟨5, 0, c.shards + (b3 : Int) % (32 - c.shards + 1), 0, clz, []⟩ : Stp).op.data ∧ TxtY h h' y (⟨5, 0, c.shards + (b3 : Int) % (32 - c.shards + 1), 0, clz, []⟩ : Stp).bits ∧ Ext h h' := by
  have ok := Cf.ok_iff.1 hc
  have ⟨_, _, _, _, f0, f1, f2, f3, fl⟩ := f
  obtain ⟨H0, hH0⟩ : ∃ H, H = (h.new (.cells (cfC c))).new (.cells stZ) := ⟨_, rfl⟩
  have x0 : Ext h H0 := by rw [hH0]; exact ((Ext.refl _).new _).new _
  have n0 : H0.next = h.next + 2 := by rw [hH0]; rfl
  have g0 : H0.get h.next = some (.cells (cfC c)) := by rw [hH0, get_new_old (Nat.lt_succ_self _)]; exact get_new_at
  have z0 : H0.get (h.next + 1) = some (.cells stZ) := by rw [hH0]; exact get_new_at
  have q0 : H0.read h.next 0 4 = some (cfC c) := read_all g0 rfl
  have q2 : H0.read h.next 2 1 = some [.int .i64 c.shards] := read_cells g0 rfl
  have q3 : H0.read h.next 3 1 = some [.int .i64 c.clients] := read_cells g0 rfl
  have bx : AV.cells (.agg (cfC c)) = some (cfC c) := rfl
  have ⟨p0, p1, p2, p3, _, _, _, _, _⟩ := f.ext x0
  have a0' : asNat (.c (.int .i64 0)) = some 0 := rfl
  have a1' : asNat (.c (.int .i64 1)) = some 1 := rfl
  have a2' : asNat (.c (.int .i64 2)) = some 2 := rfl
  have a3' : asNat (.c (.int .i64 3)) = some 3 := rfl
  have m0 : Nat.blt 0 n = true := bltT (by omega)
  have m1 : Nat.blt 1 n = true := bltT (by omega)
  have m2 : Nat.blt 2 n = true := bltT (by omega)
  have m3 : Nat.blt 3 n = true := bltT (by omega)
  have w1 := wI f1
  have w2 := wI f2
  have w3 := wI f3
  have w4 : Int.tmod (b0 : Int) 8 = 6 := by have := tmodN b0 8; rw [hk] at this; exact this
  have w5 : IntKind.u8.wrap (Int.tdiv (b0 : Int) 8) = ((b0 / 8 : Nat) : Int) := by
    have : Int.tdiv (b0 : Int) 8 = ((b0 / 8 : Nat) : Int) := tdivN b0 8
    rw [this]; simp only [IntKind.wrap, IntKind.bits, IntKind.signed]; simp; omega
  have w6 : Int.tmod (b1 : Int) 16 = ((b1 % 16 : Nat) : Int) := tmodN b1 16
  have w7 : Int.tmod (b1 : Int) c.clients = (b1 : Int) % c.clients := Int.tmod_eq_emod_of_nonneg (by omega)
  have w8 : Int.tmod (b2 : Int) c.shards = (b2 : Int) % c.shards := Int.tmod_eq_emod_of_nonneg (by omega)
  have w9 : IntKind.i64.wrap (256 * (b1 : Int)) = 256 * (b1 : Int) := wrapI (by omega) (by omega)
  have w10 : IntKind.i64.wrap (256 * (b1 : Int) + (b2 : Int)) = ((256 * b1 + b2 : Nat) : Int) := by rw [wrapI (by omega) (by omega)]; omega
  have w11 : IntKind.i64.wrap (32 - c.shards) = 32 - c.shards := wrapI (by omega) (by omega)
  have w12 : IntKind.i64.wrap (32 - c.shards + 1) = 32 - c.shards + 1 := wrapI (by omega) (by omega)
  have w13 : Int.tmod (b3 : Int) (32 - c.shards + 1) = (b3 : Int) % (32 - c.shards + 1) := Int.tmod_eq_emod_of_nonneg (by omega)
  have w14 : IntKind.i64.wrap (c.shards + (b3 : Int) % (32 - c.shards + 1)) = c.shards + (b3 : Int) % (32 - c.shards + 1) := by
    have := Int.emod_nonneg (b3 : Int) (b := 32 - c.shards + 1) (by omega)
    have := Int.emod_lt_of_pos (b3 : Int) (b := 32 - c.shards + 1) (by omega)
    exact wrapI (by omega) (by omega)
  have w15r : Int.tmod (b2 : Int) 2 = ((b2 % 2 : Nat) : Int) := tmodN b2 2
  have k1 : (c.clients == 0) = false := by simp only [beq_eq_false_iff_ne, ne_eq]; omega
  have k2 : (c.shards == 0) = false := by simp only [beq_eq_false_iff_ne, ne_eq]; omega
  have k3 : (32 - c.shards + 1 == 0) = false := by simp only [beq_eq_false_iff_ne, ne_eq]; omega
  have w15 : Int.tmod (b2 : Int) 2 = 1 := by rw [w15r, hb]; rfl
  obtain ⟨G, a1, a2, a3, a4⟩ := write_all (l := stC ⟨5, 0, c.shards + (b3 : Int) % (32 - c.shards + 1), 0, clz, []⟩ .nils .nils) z0 rfl
  have r3 : G.read (h.next + 1) 0 11 = some (stC ⟨5, 0, c.shards + (b3 : Int) % (32 - c.shards + 1), 0, clz, []⟩ .nils .nils) := read_all a2 rfl
  simp only [clz] at a1 r3
  rw [evCallX_eq (F := ir34) rfl rfl rfl rfl]
  unfold ir34
  rw [bodyK_eq]
  simp only [enter_eq, ev_seq, seqK_norm, seqK_exit, seqK_ret, ev_reg, ev_cond, condK_true, condK_false, ev_block, blockK_norm, blockK_ret, blockK_exit, ev_loop, ev_skip, ev_exit, ev_ret, regK_cons, regK_nil, guard_none, guard_some, regG_true, regG_false, regO_some, op_mov, op_conv, op_bin, op_bsl, op_box, op_mks, op_s2b, op_pick, op_un, op_eq, op_len, op_ext, op_load, op_iaddr, op_slice, op_b2s, op_idxS, op_mx, op_mn, op_call, op_store, op_app, op_copy, args_eq, result_one', rv_loc, finish_norm, finish_ret, outK_some, keep_true, keep_false, keep_nil, p_bin, p_pick, p_un, p_eq, p_conv, evNew, pureK_some, newK_some, X.eval, set_none, set_some, List.map_cons, List.map_nil, List.getD_cons_zero, List.getD_cons_succ, List.getD_nil, List.set_cons_zero, List.set_cons_succ, binCV, unCV, isShift, intArithF_eq, shiftF_eq, wrapF_eq, intArith, shift, eqVal, bound, asNat_cast, cond_true, cond_false, BEq.rfl, beq_self_eq_true, evalParts, fillParts, AV.cells, AV.ofCells, XV.av, AV.xv, List.length_cons, List.length_nil, zeros, patch, setMany, List.nil_append, List.cons_append, Nat.ble, Nat.add_eq, Nat.zero_add, Nat.add_zero, Nat.reduceAdd, Nat.reduceMul, Nat.reduceSub, Nat.ble_eq, Nat.reduceLeDiff, Nat.reduceBEq, Int.reduceBEq, Int.reduceNeg, Bool.and_true, Bool.and_false, Bool.true_and, Bool.false_and, Bool.not_true, Bool.not_false, Bool.true_eq_false, Bool.false_eq_true, Int.reduceLT, Int.reduceLE, Int.reduceGT, Int.reduceGE, decide_true, decide_false, Bool.not_eq_true, loopN_norm, loopN_exit, tf, ft, ff, ev_dreg, dregK_nil, dregK_cons, dregE_true, dregP_some, dregX_some, d_mov, d_bin, d_eq, d_pick, d_un, d_conv, d_b2s, d_len, d_load, d_iaddr, d_slice, d_ext, d_call, d_store, chk_done, chk_none, chk_some, chkG_true, chkG_false, chkOne_nil, chkOne_cons, chkH_some, chkV_same, stage_none, stage_some, look_hit, look_miss, news_nil, wb_cons, wb_nil, skip0, List.reverse_cons, List.reverse_nil, bx, op_faddr, p_faddr, d_faddr, op_build, p_build', p_iaddr, a0', a1', a2', a3', p_load, next_new, AV.ofCells, result, evResults, RV.eval, ← hH0, q0, q2, q3, p0, p1, p2, p3, m0, m1, m2, m3, Nat.mul_one, w1, w2, w3, w4, w5, w6, w7, w8, w9, w10, w11, w12, w13, w14, w15, k1, k2, k3, Int.reduceAdd, Int.reduceBEq, evEff, d_bsl, dregW_some, d_build, next_skip, a1, r3]
  exact ⟨_, _, _, rfl, .nil, .nil, ⟨by rw [a4]; exact x0.1, fun k hk => (a3 k (by omega)).trans (x0.2 k hk)⟩⟩
theorem one_6b (c : Cf) (hc : c.ok = true) (f : Four h i o b0 b1 b2 b3) (hk : b0 % 8 = 6) (hn : 4 ≤ n) (_HN : 20 ≤ N) (hb : b2 % 2 = 0) :
    ∃ x y h', evCallX table 21 37 N (d + 6) 34 [.c (.sl i o n cc), .agg (cfC c)] h = some (.agg (stC (⟨3, 0, ((b1 % 16 : Nat) : Int), 0, clz, []⟩ : Stp) x y), h') ∧ TxtY h h' x (⟨3, 0, ((b1 % 16 : Nat) : Int), 0, clz, []⟩ : Stp).op.data ∧ TxtY h h' y (⟨3, 0, ((b1 % 16 : Nat) : Int), 0, clz, []⟩ : Stp).bits ∧ Ext h h' := by
  have ok := Cf.ok_iff.1 hc
  have ⟨_, _, _, _, f0, f1, f2, f3, fl⟩ := f
  obtain ⟨H0, hH0⟩ : ∃ H, H = (h.new (.cells (cfC c))).new (.cells stZ) := ⟨_, rfl⟩
  have x0 : Ext h H0 := by rw [hH0]; exact ((Ext.refl _).new _).new _
  have n0 : H0.next = h.next + 2 := by rw [hH0]; rfl
  have g0 : H0.get h.next = some (.cells (cfC c)) := by rw [hH0, get_new_old (Nat.lt_succ_self _)]; exact get_new_at
  have z0 : H0.get (h.next + 1) = some (.cells stZ) := by rw [hH0]; exact get_new_at
  have q0 : H0.read h.next 0 4 = some (cfC c) := read_all g0 rfl
  have q2 : H0.read h.next 2 1 = some [.int .i64 c.shards] := read_cells g0 rfl
  have q3 : H0.read h.next 3 1 = some [.int .i64 c.clients] := read_cells g0 rfl
  have bx : AV.cells (.agg (cfC c)) = some (cfC c) := rfl
  have ⟨p0, p1, p2, p3, _, _, _, _, _⟩ := f.ext x0
  have a0' : asNat (.c (.int .i64 0)) = some 0 := rfl
  have a1' : asNat (.c (.int .i64 1)) = some 1 := rfl
  have a2' : asNat (.c (.int .i64 2)) = some 2 := rfl
  have a3' : asNat (.c (.int .i64 3)) = some 3 := rfl
  have m0 : Nat.blt 0 n = true := bltT (by omega)
  have m1 : Nat.blt 1 n = true := bltT (by omega)
  have m2 : Nat.blt 2 n = true := bltT (by omega)
  have m3 : Nat.blt 3 n = true := bltT (by omega)
  have w1 := wI f1
  have w2 := wI f2
  have w3 := wI f3
  have w4 : Int.tmod (b0 : Int) 8 = 6 := by have := tmodN b0 8; rw [hk] at this; exact this
  have w5 : IntKind.u8.wrap (Int.tdiv (b0 : Int) 8) = ((b0 / 8 : Nat) : Int) := by
    have : Int.tdiv (b0 : Int) 8 = ((b0 / 8 : Nat) : Int) := tdivN b0 8
    rw [this]; simp only [IntKind.wrap, IntKind.bits, IntKind.signed]; simp; omega
  have w6 : Int.tmod (b1 : Int) 16 = ((b1 % 16 : Nat) : Int) := tmodN b1 16
  have w7 : Int.tmod (b1 : Int) c.clients = (b1 : Int) % c.clients := Int.tmod_eq_emod_of_nonneg (by omega)
  have w8 : Int.tmod (b2 : Int) c.shards = (b2 : Int) % c.shards := Int.tmod_eq_emod_of_nonneg (by omega)
  have w9 : IntKind.i64.wrap (256 * (b1 : Int)) = 256 * (b1 : Int) := wrapI (by omega) (by omega)
  have w10 : IntKind.i64.wrap (256 * (b1 : Int) + (b2 : Int)) = ((256 * b1 + b2 : Nat) : Int) := by rw [wrapI (by omega) (by omega)]; omega
  have w11 : IntKind.i64.wrap (32 - c.shards) = 32 - c.shards := wrapI (by omega) (by omega)
  have w12 : IntKind.i64.wrap (32 - c.shards + 1) = 32 - c.shards + 1 := wrapI (by omega) (by omega)
  have w13 : Int.tmod (b3 : Int) (32 - c.shards + 1) = (b3 : Int) % (32 - c.shards + 1) := Int.tmod_eq_emod_of_nonneg (by omega)
  have w14 : IntKind.i64.wrap (c.shards + (b3 : Int) % (32 - c.shards + 1)) = c.shards + (b3 : Int) % (32 - c.shards + 1) := by
    have := Int.emod_nonneg (b3 : Int) (b := 32 - c.shards + 1) (by omega)
    have := Int.emod_lt_of_pos (b3 : Int) (b := 32 - c.shards + 1) (by omega)
    exact wrapI (by omega) (by omega)
  have w15r : Int.tmod (b2 : Int) 2 = ((b2 % 2 : Nat) : Int) := tmodN b2 2
  have k1 : (c.clients == 0) = false := by simp only [beq_eq_false_iff_ne, ne_eq]; omega
  have k2 : (c.shards == 0) = false := by simp only [beq_eq_false_iff_ne, ne_eq]; omega
  have k3 : (32 - c.shards + 1 == 0) = false := by simp only [beq_eq_false_iff_ne, ne_eq]; omega
  have w15 : Int.tmod (b2 : Int) 2 = 0 := by rw [w15r, hb]; rfl
  obtain ⟨G, a1, a2, a3, a4⟩ := write_all (l := stC ⟨3, 0, ((b1 % 16 : Nat) : Int), 0, clz, []⟩ .nils .nils) z0 rfl
  have r3 : G.read (h.next + 1) 0 11 = some (stC ⟨3, 0, ((b1 % 16 : Nat) : Int), 0, clz, []⟩ .nils .nils) := read_all a2 rfl
  simp only [clz] at a1 r3
  rw [evCallX_eq (F := ir34) rfl rfl rfl rfl]
  unfold ir34
  rw [bodyK_eq]
  simp only [enter_eq, ev_seq, seqK_norm, seqK_exit, seqK_ret, ev_reg, ev_cond, condK_true, condK_false, ev_block, blockK_norm, blockK_ret, blockK_exit, ev_loop, ev_skip, ev_exit, ev_ret, regK_cons, regK_nil, guard_none, guard_some, regG_true, regG_false, regO_some, op_mov, op_conv, op_bin, op_bsl, op_box, op_mks, op_s2b, op_pick, op_un, op_eq, op_len, op_ext, op_load, op_iaddr, op_slice, op_b2s, op_idxS, op_mx, op_mn, op_call, op_store, op_app, op_copy, args_eq, result_one', rv_loc, finish_norm, finish_ret, outK_some, keep_true, keep_false, keep_nil, p_bin, p_pick, p_un, p_eq, p_conv, evNew, pureK_some, newK_some, X.eval, set_none, set_some, List.map_cons, List.map_nil, List.getD_cons_zero, List.getD_cons_succ, List.getD_nil, List.set_cons_zero, List.set_cons_succ, binCV, unCV, isShift, intArithF_eq, shiftF_eq, wrapF_eq, intArith, shift, eqVal, bound, asNat_cast, cond_true, cond_false, BEq.rfl, beq_self_eq_true, evalParts, fillParts, AV.cells, AV.ofCells, XV.av, AV.xv, List.length_cons, List.length_nil, zeros, patch, setMany, List.nil_append, List.cons_append, Nat.ble, Nat.add_eq, Nat.zero_add, Nat.add_zero, Nat.reduceAdd, Nat.reduceMul, Nat.reduceSub, Nat.ble_eq, Nat.reduceLeDiff, Nat.reduceBEq, Int.reduceBEq, Int.reduceNeg, Bool.and_true, Bool.and_false, Bool.true_and, Bool.false_and, Bool.not_true, Bool.not_false, Bool.true_eq_false, Bool.false_eq_true, Int.reduceLT, Int.reduceLE, Int.reduceGT, Int.reduceGE, decide_true, decide_false, Bool.not_eq_true, loopN_norm, loopN_exit, tf, ft, ff, ev_dreg, dregK_nil, dregK_cons, dregE_true, dregP_some, dregX_some, d_mov, d_bin, d_eq, d_pick, d_un, d_conv, d_b2s, d_len, d_load, d_iaddr, d_slice, d_ext, d_call, d_store, chk_done, chk_none, chk_some, chkG_true, chkG_false, chkOne_nil, chkOne_cons, chkH_some, chkV_same, stage_none, stage_some, look_hit, look_miss, news_nil, wb_cons, wb_nil, skip0, List.reverse_cons, List.reverse_nil, bx, op_faddr, p_faddr, d_faddr, op_build, p_build', p_iaddr, a0', a1', a2', a3', p_load, next_new, AV.ofCells, result, evResults, RV.eval, ← hH0, q0, q2, q3, p0, p1, p2, p3, m0, m1, m2, m3, Nat.mul_one, w1, w2, w3, w4, w5, w6, w7, w8, w9, w10, w11, w12, w13, w14, w15, k1, k2, k3, Int.reduceAdd, Int.reduceBEq, evEff, d_bsl, dregW_some, d_build, next_skip, a1, r3]
  exact ⟨_, _, _, rfl, .nil, .nil, ⟨by rw [a4]; exact x0.1, fun k hk => (a3 k (by omega)).trans (x0.2 k hk)⟩⟩
theorem one_7a (c : Cf) (hc : c.ok = true) (f : Four h i o b0 b1 b2 b3) (hk : b0 % 8 = 7) (hn : 4 ≤ n) (_HN : 20 ≤ N) (hb : b1 = 255) :
    ∃ x y h', evCallX table 21 37 N (d + 6) 34 [.c (.sl i o n cc), .agg (cfC c)] h = some (.agg (stC (⟨4, 0, 0, 0, clz, [b2, b3]⟩ : Stp) x y), h') ∧ TxtY h h' x (⟨4, 0, 0, 0, clz, [b2, b3]⟩ : Stp).op.data ∧ TxtY h h' y (⟨4, 0, 0, 0, clz, [b2, b3]⟩ : Stp).bits ∧ Ext h h' := by
  have ok := Cf.ok_iff.1 hc
  have ⟨_, _, _, _, f0, f1, f2, f3, fl⟩ := f
  obtain ⟨H0, hH0⟩ : ∃ H, H = (h.new (.cells (cfC c))).new (.cells stZ) := ⟨_, rfl⟩
  have x0 : Ext h H0 := by rw [hH0]; exact ((Ext.refl _).new _).new _
  have n0 : H0.next = h.next + 2 := by rw [hH0]; rfl
  have g0 : H0.get h.next = some (.cells (cfC c)) := by rw [hH0, get_new_old (Nat.lt_succ_self _)]; exact get_new_at
  have z0 : H0.get (h.next + 1) = some (.cells stZ) := by rw [hH0]; exact get_new_at
  have q0 : H0.read h.next 0 4 = some (cfC c) := read_all g0 rfl
  have q2 : H0.read h.next 2 1 = some [.int .i64 c.shards] := read_cells g0 rfl
  have q3 : H0.read h.next 3 1 = some [.int .i64 c.clients] := read_cells g0 rfl
  have bx : AV.cells (.agg (cfC c)) = some (cfC c) := rfl
  have ⟨p0, p1, p2, p3, _, _, _, _, _⟩ := f.ext x0
  have a0' : asNat (.c (.int .i64 0)) = some 0 := rfl
  have a1' : asNat (.c (.int .i64 1)) = some 1 := rfl
  have a2' : asNat (.c (.int .i64 2)) = some 2 := rfl
  have a3' : asNat (.c (.int .i64 3)) = some 3 := rfl
  have m0 : Nat.blt 0 n = true := bltT (by omega)
  have m1 : Nat.blt 1 n = true := bltT (by omega)
  have m2 : Nat.blt 2 n = true := bltT (by omega)
  have m3 : Nat.blt 3 n = true := bltT (by omega)
  have w1 := wI f1
  have w2 := wI f2
  have w3 := wI f3
  have w4 : Int.tmod (b0 : Int) 8 = 7 := by have := tmodN b0 8; rw [hk] at this; exact this
  have w5 : IntKind.u8.wrap (Int.tdiv (b0 : Int) 8) = ((b0 / 8 : Nat) : Int) := by
    have : Int.tdiv (b0 : Int) 8 = ((b0 / 8 : Nat) : Int) := tdivN b0 8
    rw [this]; simp only [IntKind.wrap, IntKind.bits, IntKind.signed]; simp; omega
  have w6 : Int.tmod (b1 : Int) 16 = ((b1 % 16 : Nat) : Int) := tmodN b1 16
  have w7 : Int.tmod (b1 : Int) c.clients = (b1 : Int) % c.clients := Int.tmod_eq_emod_of_nonneg (by omega)
  have w8 : Int.tmod (b2 : Int) c.shards = (b2 : Int) % c.shards := Int.tmod_eq_emod_of_nonneg (by omega)
  have w9 : IntKind.i64.wrap (256 * (b1 : Int)) = 256 * (b1 : Int) := wrapI (by omega) (by omega)
  have w10 : IntKind.i64.wrap (256 * (b1 : Int) + (b2 : Int)) = ((256 * b1 + b2 : Nat) : Int) := by rw [wrapI (by omega) (by omega)]; omega
  have w11 : IntKind.i64.wrap (32 - c.shards) = 32 - c.shards := wrapI (by omega) (by omega)
  have w12 : IntKind.i64.wrap (32 - c.shards + 1) = 32 - c.shards + 1 := wrapI (by omega) (by omega)
  have w13 : Int.tmod (b3 : Int) (32 - c.shards + 1) = (b3 : Int) % (32 - c.shards + 1) := Int.tmod_eq_emod_of_nonneg (by omega)
  have w14 : IntKind.i64.wrap (c.shards + (b3 : Int) % (32 - c.shards + 1)) = c.shards + (b3 : Int) % (32 - c.shards + 1) := by
    have := Int.emod_nonneg (b3 : Int) (b := 32 - c.shards + 1) (by omega)
    have := Int.emod_lt_of_pos (b3 : Int) (b := 32 - c.shards + 1) (by omega)
    exact wrapI (by omega) (by omega)
  have w15r : Int.tmod (b2 : Int) 2 = ((b2 % 2 : Nat) : Int) := tmodN b2 2
  have k1 : (c.clients == 0) = false := by simp only [beq_eq_false_iff_ne, ne_eq]; omega
  have k2 : (c.shards == 0) = false := by simp only [beq_eq_false_iff_ne, ne_eq]; omega
  have k3 : (32 - c.shards + 1 == 0) = false := by simp only [beq_eq_false_iff_ne, ne_eq]; omega
  have w15 := w15r
  have v1 : ((b1 : Int) == 255) = true := by simp [hb]
  have ⟨p0', p1', p2', p3', _, _, _, _, _⟩ := f.ext (x0.skip 1)
  obtain ⟨H1, hH1⟩ : ∃ H, H = (H0.skip 1).put H0.next (.cells [.int .u8 (b2 : Int), .int .u8 (b3 : Int)]) := ⟨_, rfl⟩
  obtain ⟨G, a1, a2, a3, a4⟩ := write_all (h := H1) (i := h.next + 1) (z := stZ) (l := stC ⟨4, 0, 0, 0, clz, [b2, b3]⟩ .nils (.sl H0.next 0 2 (.ex 2))) (by rw [hH1, get_put_ne (by omega)]; exact z0) rfl
  have r3 : G.read (h.next + 1) 0 11 = some (stC ⟨4, 0, 0, 0, clz, [b2, b3]⟩ .nils (.sl H0.next 0 2 (.ex 2))) := read_all a2 rfl
  simp only [clz] at a1 r3
  have n1 : H1.next = H0.next + 1 := by rw [hH1]; rfl
  have x1 : Ext h H1 := by rw [hH1]; exact (x0.skip 1).put x0.1 _
  have tg : TxtY h G (.sl H0.next 0 2 (.ex 2)) [b2, b3] := ⟨Txt.all (s := [b2, b3]) (by omega) ((a3 _ (by omega)).trans (by rw [hH1]; exact get_put_at)) (by intro b hb; simp at hb; omega), fun k hk => by simp [blk] at hk; omega⟩
  rw [evCallX_eq (F := ir34) rfl rfl rfl rfl]
  unfold ir34
  rw [bodyK_eq]
  simp only [enter_eq, ev_seq, seqK_norm, seqK_exit, seqK_ret, ev_reg, ev_cond, condK_true, condK_false, ev_block, blockK_norm, blockK_ret, blockK_exit, ev_loop, ev_skip, ev_exit, ev_ret, regK_cons, regK_nil, guard_none, guard_some, regG_true, regG_false, regO_some, op_mov, op_conv, op_bin, op_bsl, op_box, op_mks, op_s2b, op_pick, op_un, op_eq, op_len, op_ext, op_load, op_iaddr, op_slice, op_b2s, op_idxS, op_mx, op_mn, op_call, op_store, op_app, op_copy, args_eq, result_one', rv_loc, finish_norm, finish_ret, outK_some, keep_true, keep_false, keep_nil, p_bin, p_pick, p_un, p_eq, p_conv, evNew, pureK_some, newK_some, X.eval, set_none, set_some, List.map_cons, List.map_nil, List.getD_cons_zero, List.getD_cons_succ, List.getD_nil, List.set_cons_zero, List.set_cons_succ, binCV, unCV, isShift, intArithF_eq, shiftF_eq, wrapF_eq, intArith, shift, eqVal, bound, asNat_cast, cond_true, cond_false, BEq.rfl, beq_self_eq_true, evalParts, fillParts, AV.cells, AV.ofCells, XV.av, AV.xv, List.length_cons, List.length_nil, zeros, patch, setMany, List.nil_append, List.cons_append, Nat.ble, Nat.add_eq, Nat.zero_add, Nat.add_zero, Nat.reduceAdd, Nat.reduceMul, Nat.reduceSub, Nat.ble_eq, Nat.reduceLeDiff, Nat.reduceBEq, Int.reduceBEq, Int.reduceNeg, Bool.and_true, Bool.and_false, Bool.true_and, Bool.false_and, Bool.not_true, Bool.not_false, Bool.true_eq_false, Bool.false_eq_true, Int.reduceLT, Int.reduceLE, Int.reduceGT, Int.reduceGE, decide_true, decide_false, Bool.not_eq_true, loopN_norm, loopN_exit, tf, ft, ff, ev_dreg, dregK_nil, dregK_cons, dregE_true, dregP_some, dregX_some, d_mov, d_bin, d_eq, d_pick, d_un, d_conv, d_b2s, d_len, d_load, d_iaddr, d_slice, d_ext, d_call, d_store, chk_done, chk_none, chk_some, chkG_true, chkG_false, chkOne_nil, chkOne_cons, chkH_some, chkV_same, stage_none, stage_some, look_hit, look_miss, news_nil, wb_cons, wb_nil, skip0, List.reverse_cons, List.reverse_nil, bx, op_faddr, p_faddr, d_faddr, op_build, p_build', p_iaddr, a0', a1', a2', a3', p_load, next_new, AV.ofCells, result, evResults, RV.eval, ← hH0, q0, q2, q3, p0, p1, p2, p3, m0, m1, m2, m3, Nat.mul_one, w1, w2, w3, w4, w5, w6, w7, w8, w9, w10, w11, w12, w13, w14, w15, k1, k2, k3, Int.reduceAdd, Int.reduceBEq, evEff, d_bsl, dregW_some, d_build, next_skip, v1, ← hH1, p0', p1', p2', p3', a1, r3]
  exact ⟨_, _, _, rfl, .nil, tg, ⟨by rw [a4]; exact x1.1, fun k hk => (a3 k (by omega)).trans (x1.2 k hk)⟩⟩
theorem one_7b (c : Cf) (hc : c.ok = true) (f : Four h i o b0 b1 b2 b3) (hk : b0 % 8 = 7) (hn : 4 ≤ n) (_HN : 20 ≤ N) (hb : b1 ≠ 255) :
    ∃ x y h', evCallX table 21 37 N (d + 6) 34 [.c (.sl i o n cc), .agg (cfC c)] h = some (.agg (stC (⟨6, 0, ((b1 % 16 : Nat) : Int), (b2 : Int) % c.shards, clz, []⟩ : Stp) x y), h') ∧ TxtY h h' x (⟨6, 0, ((b1 % 16 : Nat) : Int), (b2 : Int) % c.shards, clz, []⟩ : Stp).op.data ∧ TxtY h h' y (⟨6, 0, ((b1 % 16 : Nat) : Int), (b2 : Int) % c.shards, clz, []⟩ : Stp).bits ∧ Ext h h' := by
  have ok := Cf.ok_iff.1 hc
  have ⟨_, _, _, _, f0, f1, f2, f3, fl⟩ := f
  obtain ⟨H0, hH0⟩ : ∃ H, H = (h.new (.cells (cfC c))).new (.cells stZ) := ⟨_, rfl⟩
  have x0 : Ext h H0 := by rw [hH0]; exact ((Ext.refl _).new _).new _
  have n0 : H0.next = h.next + 2 := by rw [hH0]; rfl
  have g0 : H0.get h.next = some (.cells (cfC c)) := by rw [hH0, get_new_old (Nat.lt_succ_self _)]; exact get_new_at
  have z0 : H0.get (h.next + 1) = some (.cells stZ) := by rw [hH0]; exact get_new_at
  have q0 : H0.read h.next 0 4 = some (cfC c) := read_all g0 rfl
  have q2 : H0.read h.next 2 1 = some [.int .i64 c.shards] := read_cells g0 rfl
  have q3 : H0.read h.next 3 1 = some [.int .i64 c.clients] := read_cells g0 rfl
  have bx : AV.cells (.agg (cfC c)) = some (cfC c) := rfl
  have ⟨p0, p1, p2, p3, _, _, _, _, _⟩ := f.ext x0
  have a0' : asNat (.c (.int .i64 0)) = some 0 := rfl
  have a1' : asNat (.c (.int .i64 1)) = some 1 := rfl
  have a2' : asNat (.c (.int .i64 2)) = some 2 := rfl
  have a3' : asNat (.c (.int .i64 3)) = some 3 := rfl
  have m0 : Nat.blt 0 n = true := bltT (by omega)
  have m1 : Nat.blt 1 n = true := bltT (by omega)
  have m2 : Nat.blt 2 n = true := bltT (by omega)
  have m3 : Nat.blt 3 n = true := bltT (by omega)
  have w1 := wI f1
  have w2 := wI f2
  have w3 := wI f3
  have w4 : Int.tmod (b0 : Int) 8 = 7 := by have := tmodN b0 8; rw [hk] at this; exact this
  have w5 : IntKind.u8.wrap (Int.tdiv (b0 : Int) 8) = ((b0 / 8 : Nat) : Int) := by
    have : Int.tdiv (b0 : Int) 8 = ((b0 / 8 : Nat) : Int) := tdivN b0 8
    rw [this]; simp only [IntKind.wrap, IntKind.bits, IntKind.signed]; simp; omega
  have w6 : Int.tmod (b1 : Int) 16 = ((b1 % 16 : Nat) : Int) := tmodN b1 16
  have w7 : Int.tmod (b1 : Int) c.clients = (b1 : Int) % c.clients := Int.tmod_eq_emod_of_nonneg (by omega)
  have w8 : Int.tmod (b2 : Int) c.shards = (b2 : Int) % c.shards := Int.tmod_eq_emod_of_nonneg (by omega)
  have w9 : IntKind.i64.wrap (256 * (b1 : Int)) = 256 * (b1 : Int) := wrapI (by omega) (by omega)
  have w10 : IntKind.i64.wrap (256 * (b1 : Int) + (b2 : Int)) = ((256 * b1 + b2 : Nat) : Int) := by rw [wrapI (by omega) (by omega)]; omega
  have w11 : IntKind.i64.wrap (32 - c.shards) = 32 - c.shards := wrapI (by omega) (by omega)
  have w12 : IntKind.i64.wrap (32 - c.shards + 1) = 32 - c.shards + 1 := wrapI (by omega) (by omega)
  have w13 : Int.tmod (b3 : Int) (32 - c.shards + 1) = (b3 : Int) % (32 - c.shards + 1) := Int.tmod_eq_emod_of_nonneg (by omega)
  have w14 : IntKind.i64.wrap (c.shards + (b3 : Int) % (32 - c.shards + 1)) = c.shards + (b3 : Int) % (32 - c.shards + 1) := by
    have := Int.emod_nonneg (b3 : Int) (b := 32 - c.shards + 1) (by omega)
    have := Int.emod_lt_of_pos (b3 : Int) (b := 32 - c.shards + 1) (by omega)
    exact wrapI (by omega) (by omega)
  have w15r : Int.tmod (b2 : Int) 2 = ((b2 % 2 : Nat) : Int) := tmodN b2 2
  have k1 : (c.clients == 0) = false := by simp only [beq_eq_false_iff_ne, ne_eq]; omega
  have k2 : (c.shards == 0) = false := by simp only [beq_eq_false_iff_ne, ne_eq]; omega
  have k3 : (32 - c.shards + 1 == 0) = false := by simp only [beq_eq_false_iff_ne, ne_eq]; omega
  have w15 := w15r
  have v1 : ((b1 : Int) == 255) = false := by simp only [beq_eq_false_iff_ne, ne_eq]; omega
  obtain ⟨G, a1, a2, a3, a4⟩ := write_all (l := stC ⟨6, 0, ((b1 % 16 : Nat) : Int), (b2 : Int) % c.shards, clz, []⟩ .nils .nils) z0 rfl
  have r3 : G.read (h.next + 1) 0 11 = some (stC ⟨6, 0, ((b1 % 16 : Nat) : Int), (b2 : Int) % c.shards, clz, []⟩ .nils .nils) := read_all a2 rfl
  simp only [clz] at a1 r3
  rw [evCallX_eq (F := ir34) rfl rfl rfl rfl]
  unfold ir34
  rw [bodyK_eq]
  simp only [enter_eq, ev_seq, seqK_norm, seqK_exit, seqK_ret, ev_reg, ev_cond, condK_true, condK_false, ev_block, blockK_norm, blockK_ret, blockK_exit, ev_loop, ev_skip, ev_exit, ev_ret, regK_cons, regK_nil, guard_none, guard_some, regG_true, regG_false, regO_some, op_mov, op_conv, op_bin, op_bsl, op_box, op_mks, op_s2b, op_pick, op_un, op_eq, op_len, op_ext, op_load, op_iaddr, op_slice, op_b2s, op_idxS, op_mx, op_mn, op_call, op_store, op_app, op_copy, args_eq, result_one', rv_loc, finish_norm, finish_ret, outK_some, keep_true, keep_false, keep_nil, p_bin, p_pick, p_un, p_eq, p_conv, evNew, pureK_some, newK_some, X.eval, set_none, set_some, List.map_cons, List.map_nil, List.getD_cons_zero, List.getD_cons_succ, List.getD_nil, List.set_cons_zero, List.set_cons_succ, binCV, unCV, isShift, intArithF_eq, shiftF_eq, wrapF_eq, intArith, shift, eqVal, bound, asNat_cast, cond_true, cond_false, BEq.rfl, beq_self_eq_true, evalParts, fillParts, AV.cells, AV.ofCells, XV.av, AV.xv, List.length_cons, List.length_nil, zeros, patch, setMany, List.nil_append, List.cons_append, Nat.ble, Nat.add_eq, Nat.zero_add, Nat.add_zero, Nat.reduceAdd, Nat.reduceMul, Nat.reduceSub, Nat.ble_eq, Nat.reduceLeDiff, Nat.reduceBEq, Int.reduceBEq, Int.reduceNeg, Bool.and_true, Bool.and_false, Bool.true_and, Bool.false_and, Bool.not_true, Bool.not_false, Bool.true_eq_false, Bool.false_eq_true, Int.reduceLT, Int.reduceLE, Int.reduceGT, Int.reduceGE, decide_true, decide_false, Bool.not_eq_true, loopN_norm, loopN_exit, tf, ft, ff, ev_dreg, dregK_nil, dregK_cons, dregE_true, dregP_some, dregX_some, d_mov, d_bin, d_eq, d_pick, d_un, d_conv, d_b2s, d_len, d_load, d_iaddr, d_slice, d_ext, d_call, d_store, chk_done, chk_none, chk_some, chkG_true, chkG_false, chkOne_nil, chkOne_cons, chkH_some, chkV_same, stage_none, stage_some, look_hit, look_miss, news_nil, wb_cons, wb_nil, skip0, List.reverse_cons, List.reverse_nil, bx, op_faddr, p_faddr, d_faddr, op_build, p_build', p_iaddr, a0', a1', a2', a3', p_load, next_new, AV.ofCells, result, evResults, RV.eval, ← hH0, q0, q2, q3, p0, p1, p2, p3, m0, m1, m2, m3, Nat.mul_one, w1, w2, w3, w4, w5, w6, w7, w8, w9, w10, w11, w12, w13, w14, w15, k1, k2, k3, Int.reduceAdd, Int.reduceBEq, evEff, d_bsl, dregW_some, d_build, next_skip, a1, r3, v1]
  exact ⟨_, _, _, rfl, .nil, .nil, ⟨by rw [a4]; exact x0.1, fun k hk => (a3 k (by omega)).trans (x0.2 k hk)⟩⟩
theorem one_ok (c : Cf) (hc : c.ok = true) (f : Four h i o b0 b1 b2 b3) (hn : 4 ≤ n) (HN : 20 ≤ N) :
    ∃ x y h', evCallX table 21 37 N (d + 6) 34 [.c (.sl i o n cc), .agg (cfC c)] h = some (.agg (stC (stepOf c b0 b1 b2 b3) x y), h') ∧ TxtY h h' x (stepOf c b0 b1 b2 b3).op.data ∧ TxtY h h' y (stepOf c b0 b1 b2 b3).bits ∧ Ext h h' := by
  have h8 : b0 % 8 = 0 ∨ b0 % 8 = 1 ∨ b0 % 8 = 2 ∨ b0 % 8 = 3 ∨ b0 % 8 = 4 ∨ b0 % 8 = 5 ∨ b0 % 8 = 6 ∨ b0 % 8 = 7 := by omega
  unfold stepOf
  rcases h8 with k | k | k | k | k | k | k | k <;> rw [k]
  · exact one_0 c hc f k hn HN
  · exact one_1 c hc f k hn HN
  · exact one_2 c hc f k hn HN
  · exact one_3 c hc f k hn HN
  · exact one_4 c hc f k hn HN
  · exact one_5 c hc f k hn HN
  · by_cases hb : b2 % 2 = 1
    · have := one_6a (d := d) c hc f k hn (cc := cc) HN hb
      simp only [stepK, if_pos hb]; exact this
    · have := one_6b (d := d) c hc f k hn (cc := cc) HN (by omega)
      simp only [stepK, if_neg hb]; exact this
  · by_cases hb : b1 = 255
    · have := one_7a (d := d) c hc f k hn (cc := cc) HN hb
      simp only [stepK, if_pos hb]; exact this
    · have := one_7b (d := d) c hc f k hn (cc := cc) HN hb
      simp only [stepK, if_neg hb]; exact this
end
end Lav
