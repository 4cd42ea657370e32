/-
  Layer 15: all steps, in the document's own words.
-/
import Derived.Test.YtdeehmncnfdmkaaScr9
import Derived.Test.YtdeehmncnfdmkaaScr4
set_option maxRecDepth 100000
set_option linter.unusedSimpArgs false
set_option linter.unusedVariables false
namespace Lav
open Go (IntKind)

section
variable {call : Nat → List AV → Heap → Option (AV × Heap)} {loc vals : List AV} {h cur : Heap} {n j k : Nat} {l r : List Inst} {ks : List (Nat × Heap)} {news : List (Nat × Nat × Blk)}
theorem d_idxS {x y : X} : dregG call n l loc h (.idxS x y) r j k vals cur ks news (some true) = dregP call n l loc h r j k vals cur ks news (evPure loc vals cur (.idxS x y)) := rfl
end
theorem idx_str {s : List Nat} {j : Nat} (hj : j < s.length) {loc vals : List AV} {h : Heap} {x y : X} (hx : x.eval loc vals = .c (.str s)) (hy : y.eval loc vals = .c (.int .i64 (j : Int))) : evPure loc vals h (.idxS x y) = some (.c (.int .u8 ((s.getD j 0 : Nat) : Int))) := by
  have e : s[j]? = some (s.getD j 0) := by simp [hj]
  simp only [evPure, hx, hy, asNat_cast, e]
  rfl
theorem low1 (n : Nat) (h : n < 256) : IntKind.u8.wrap ((BitVec.ofInt IntKind.u8.bits (n : Int) &&& BitVec.ofInt IntKind.u8.bits 1).toNat : Int) = ((n % 2 : Nat) : Int) := by
  have e : (BitVec.ofInt IntKind.u8.bits (n : Int) &&& BitVec.ofInt IntKind.u8.bits 1).toNat = n % 2 := by
    rw [BitVec.toNat_and]
    have e1 : (BitVec.ofInt IntKind.u8.bits (n : Int)).toNat = n := by
      rw [BitVec.ofInt_natCast, BitVec.toNat_ofNat]; exact Nat.mod_eq_of_lt (by show n < 2 ^ 8; omega)
    have e2 : (BitVec.ofInt IntKind.u8.bits 1).toNat = 2 ^ 1 - 1 := by decide
    rw [e1, e2, Nat.and_two_pow_sub_one_eq_mod]
  rw [e]
  simp only [IntKind.wrap, IntKind.bits, IntKind.signed]; simp; omega

abbrev LocR (s : List Nat) (p : Nat) (z : CV) (k : Nat) : List AV := [.c (.str s), .junk, .c (.ptr p 0), .junk, .c z, .c (.int .i64 ((4 * k : Nat) : Int)), .junk, .junk, .junk, .junk, .junk, .junk, .junk, .junk, .junk, .junk, .junk, .junk]

section
variable {N d : Nat} {h0 G : Heap} {s : List Nat} {z : CV} {k p : Nat}

theorem rstep_0 (c : Cf) (hc : c.ok = true) (hk : 4 * k + 4 ≤ s.length) (hs : s.length ≤ 300) (sb : ∀ j, s.getD j 0 < 256) (gc : G.get p = some (.cells (cfC c))) (hp : p < h0.next) (e0 : h0.next ≤ G.next) (R : Rows h0 G z k (stp c s))
    (hK : s.getD (4 * k) 0 % 8 = 0) (hN : 100 ≤ N) :
    ∃ z' l G', ev (evCallX table 21 37 N (d + 6)) N ir23_l0 (LocR s p z k) G = some (.norm, l, G') ∧ keepOnly ir23_k0 l = LocR s p z' (k + 1) ∧ Rows h0 G' z' (k + 1) (stp c s) ∧ (∀ j, j < h0.next → G'.get j = G.get j) ∧ G.next ≤ G'.next := by
  have ok := Cf.ok_iff.1 hc
  obtain ⟨G1, e1, x1⟩ := conf_all (N := N) (d := d + 5) (h := G) c
  rw [hc] at e1
  have n1 := x1.1
  have gc1 := x1.at_ gc (by omega)
  obtain ⟨G2, hG2⟩ : ∃ H, H = G1.new (.cells stZ) := ⟨_, rfl⟩
  have x2 : Ext G1 G2 := by rw [hG2]; exact (Ext.refl _).new _
  have n2 : G2.next = G1.next + 1 := by rw [hG2]; rfl
  have g2 : G2.get G1.next = some (.cells stZ) := by rw [hG2]; exact get_new_at
  have gc2 := x2.at_ gc1 (by omega)
  have q0 : G.read p 0 4 = some (cfC c) := read_all gc rfl
  have q1 : G2.read p 0 4 = some (cfC c) := read_all gc2 rfl
  have q2 : G2.read p 2 1 = some [.int .i64 c.shards] := read_cells gc2 rfl
  have q3 : G2.read p 3 1 = some [.int .i64 c.clients] := read_cells gc2 rfl
  obtain ⟨b0, hb0⟩ : ∃ b, b = s.getD (4 * k) 0 := ⟨_, rfl⟩
  obtain ⟨b1, hb1⟩ : ∃ b, b = s.getD (4 * k + 1) 0 := ⟨_, rfl⟩
  obtain ⟨b2, hb2⟩ : ∃ b, b = s.getD (4 * k + 2) 0 := ⟨_, rfl⟩
  obtain ⟨b3, hb3⟩ : ∃ b, b = s.getD (4 * k + 3) 0 := ⟨_, rfl⟩
  have f0 : b0 < 256 := by rw [hb0]; exact sb _
  have f1 : b1 < 256 := by rw [hb1]; exact sb _
  have f2 : b2 < 256 := by rw [hb2]; exact sb _
  have f3 : b3 < 256 := by rw [hb3]; exact sb _
  rw [← hb0] at hK
  have hst : stp c s k = ⟨1, (b1 : Int) % c.clients, 0, 0, opOf c (b0 / 8) b2 b3, []⟩ := by unfold stp stepOf; rw [← hb0, ← hb1, ← hb2, ← hb3, hK]; rfl
  have i0 : ∀ loc vals H, evPure loc (.c (.int .i64 ((4 * k : Nat) : Int)) :: .c (.str s) :: vals) H (.idxS (.val 1) (.val 0)) = some (.c (.int .u8 (b0 : Int))) := fun _ _ _ => by rw [hb0]; exact idx_str (by omega) rfl rfl
  have i1 : ∀ loc vals u H, evPure loc (.c (.int .i64 ((4 * k + 1 : Nat) : Int)) :: u :: .c (.str s) :: vals) H (.idxS (.val 2) (.val 0)) = some (.c (.int .u8 (b1 : Int))) := fun _ _ _ _ => by rw [hb1]; exact idx_str (by omega) rfl rfl
  have i2 : ∀ loc vals u H, evPure loc (.c (.int .i64 ((4 * k + 2 : Nat) : Int)) :: u :: .c (.str s) :: vals) H (.idxS (.val 2) (.val 0)) = some (.c (.int .u8 (b2 : Int))) := fun _ _ _ _ => by rw [hb2]; exact idx_str (by omega) rfl rfl
  have i3 : ∀ loc vals u H, evPure loc (.c (.int .i64 ((4 * k + 3 : Nat) : Int)) :: u :: .c (.str s) :: vals) H (.idxS (.val 2) (.val 0)) = some (.c (.int .u8 (b3 : Int))) := fun _ _ _ _ => by rw [hb3]; exact idx_str (by omega) rfl rfl
  have u1 : IntKind.i64.wrap (((4 * k : Nat) : Int) + 1) = ((4 * k + 1 : Nat) : Int) := by rw [wrapI (by omega) (by omega)]; omega
  have u2 : IntKind.i64.wrap (((4 * k : Nat) : Int) + 2) = ((4 * k + 2 : Nat) : Int) := by rw [wrapI (by omega) (by omega)]; omega
  have u3 : IntKind.i64.wrap (((4 * k : Nat) : Int) + 3) = ((4 * k + 3 : Nat) : Int) := by rw [wrapI (by omega) (by omega)]; omega
  have u4 : IntKind.i64.wrap (((4 * k : Nat) : Int) + 4) = ((4 * (k + 1) : Nat) : Int) := by rw [wrapI (by omega) (by omega)]; omega
  have v1 : decide (((4 * (k + 1) : Nat) : Int) ≤ (s.length : Int)) = true := decide_eq_true (by omega)
  have ls : ∀ loc vals H, evPure loc (.c (.str s) :: vals) H (.len .str (.val 0)) = some (.c (.int .i64 (s.length : Int))) := fun _ _ _ => rfl
  have w1 := wI f1
  have w2 := wI f2
  have w3 := wI f3
  have w4 : Int.tmod (b0 : Int) 8 = 0 := by have := tmodN b0 8; rw [hK] at this; exact this
  have w5 : IntKind.u8.wrap (Int.tdiv (b0 : Int) 8) = ((b0 / 8 : Nat) : Int) := by
    have : Int.tdiv (b0 : Int) 8 = ((b0 / 8 : Nat) : Int) := tdivN b0 8
    rw [this]; simp only [IntKind.wrap, IntKind.bits, IntKind.signed]; simp; omega
  have w6 : Int.tmod (b1 : Int) 16 = ((b1 % 16 : Nat) : Int) := tmodN b1 16
  have w7 : Int.tmod (b1 : Int) c.clients = (b1 : Int) % c.clients := Int.tmod_eq_emod_of_nonneg (by omega)
  have w8 : Int.tmod (b2 : Int) c.shards = (b2 : Int) % c.shards := Int.tmod_eq_emod_of_nonneg (by omega)
  have w9 : IntKind.i64.wrap (256 * (b1 : Int)) = 256 * (b1 : Int) := wrapI (by omega) (by omega)
  have w10 : IntKind.i64.wrap (256 * (b1 : Int) + (b2 : Int)) = ((256 * b1 + b2 : Nat) : Int) := by rw [wrapI (by omega) (by omega)]; omega
  have w11 : IntKind.i64.wrap (32 - c.shards) = 32 - c.shards := wrapI (by omega) (by omega)
  have w12 : IntKind.i64.wrap (32 - c.shards + 1) = 32 - c.shards + 1 := wrapI (by omega) (by omega)
  have w13 : Int.tmod (b3 : Int) (32 - c.shards + 1) = (b3 : Int) % (32 - c.shards + 1) := Int.tmod_eq_emod_of_nonneg (by omega)
  have w14 : IntKind.i64.wrap (c.shards + (b3 : Int) % (32 - c.shards + 1)) = c.shards + (b3 : Int) % (32 - c.shards + 1) := by
    have := Int.emod_nonneg (b3 : Int) (b := 32 - c.shards + 1) (by omega)
    have := Int.emod_lt_of_pos (b3 : Int) (b := 32 - c.shards + 1) (by omega)
    exact wrapI (by omega) (by omega)
  have k1 : (c.clients == 0) = false := by simp only [beq_eq_false_iff_ne, ne_eq]; omega
  have k2 : (c.shards == 0) = false := by simp only [beq_eq_false_iff_ne, ne_eq]; omega
  have k3 : (32 - c.shards + 1 == 0) = false := by simp only [beq_eq_false_iff_ne, ne_eq]; omega
  obtain ⟨x, G3, e3, t3, x3⟩ := rop_ok (N := N) (d := d + 1) (h := G2) c (a := b0 / 8) (b := b2) (e := b3) (by omega) f2 f3 (by omega)
  have n3 := x3.1
  have xx : Ext G G3 := (x1.trans x2).trans x3
  have q3' : G3.read p 3 1 = some [.int .i64 c.clients] := read_cells (x3.at_ gc2 (by omega)) rfl
  obtain ⟨G4, a1, a2, a3, a4⟩ := write_all (h := G3) (i := G1.next) (z := stZ) (l := stC (⟨1, (b1 : Int) % c.clients, 0, 0, opOf c (b0 / 8) b2 b3, []⟩ : Stp) x .nils) (x3.at_ g2 (by omega)) rfl
  have r3 : G4.read G1.next 0 11 = some (stC (⟨1, (b1 : Int) % c.clients, 0, 0, opOf c (b0 / 8) b2 b3, []⟩ : Stp) x .nils) := read_all a2 rfl
  obtain ⟨G5, hG5⟩ : ∃ H, H = G4.new (.cells (stC (⟨1, (b1 : Int) % c.clients, 0, 0, opOf c (b0 / 8) b2 b3, []⟩ : Stp) x .nils)) := ⟨_, rfl⟩
  have x4 : Ext G G4 := ⟨by rw [a4]; exact xx.1, fun j hj => (a3 j (by omega)).trans (xx.2 j hj)⟩
  obtain ⟨z', G6, c1, c2, c3, c4⟩ := add_row (h2 := G5) (x := x) (y := .nils) R e0 x4 (by rw [hst]; exact hG5) (by rw [hst]; exact (t3.keep (by omega) fun j hj hj' => a3 j (by omega)).from_ (by omega)) (by rw [hst]; exact .nil) (by omega)
  have q3'' : G4.read p 3 1 = some [.int .i64 c.clients] := read_cells ((a3 _ (by omega)).trans (x3.at_ gc2 (by omega))) rfl
  unfold ir23_l0
  simp only [enter_eq, ev_seq, seqK_norm, seqK_exit, seqK_ret, ev_reg, ev_cond, condK_true, condK_false, ev_block, blockK_norm, blockK_ret, blockK_exit, ev_loop, ev_skip, ev_exit, ev_ret, regK_cons, regK_nil, guard_none, guard_some, regG_true, regG_false, regO_some, op_mov, op_conv, op_bin, op_bsl, op_box, op_mks, op_s2b, op_pick, op_un, op_eq, op_len, op_ext, op_load, op_iaddr, op_slice, op_b2s, op_idxS, op_mx, op_mn, op_call, op_store, op_app, op_copy, args_eq, result_one', rv_loc, finish_norm, finish_ret, outK_some, keep_true, keep_false, keep_nil, p_bin, p_pick, p_un, p_eq, p_conv, evNew, pureK_some, newK_some, X.eval, set_none, set_some, List.map_cons, List.map_nil, List.getD_cons_zero, List.getD_cons_succ, List.getD_nil, List.set_cons_zero, List.set_cons_succ, binCV, unCV, isShift, intArithF_eq, shiftF_eq, wrapF_eq, intArith, shift, eqVal, bound, asNat_cast, cond_true, cond_false, BEq.rfl, beq_self_eq_true, evalParts, fillParts, AV.cells, AV.ofCells, XV.av, AV.xv, List.length_cons, List.length_nil, zeros, patch, setMany, List.nil_append, List.cons_append, Nat.ble, Nat.add_eq, Nat.zero_add, Nat.add_zero, Nat.reduceAdd, Nat.reduceMul, Nat.reduceSub, Nat.ble_eq, Nat.reduceLeDiff, Nat.reduceBEq, Int.reduceBEq, Int.reduceNeg, Bool.and_true, Bool.and_false, Bool.true_and, Bool.false_and, Bool.not_true, Bool.not_false, Bool.true_eq_false, Bool.false_eq_true, Int.reduceLT, Int.reduceLE, Int.reduceGT, Int.reduceGE, decide_true, decide_false, Bool.not_eq_true, loopN_norm, loopN_exit, tf, ft, ff, ev_dreg, dregK_nil, dregK_cons, dregE_true, dregP_some, dregX_some, d_mov, d_bin, d_eq, d_pick, d_un, d_conv, d_b2s, d_len, d_load, d_iaddr, d_slice, d_ext, d_call, d_store, chk_done, chk_none, chk_some, chkG_true, chkG_false, chkOne_nil, chkOne_cons, chkH_some, chkV_same, stage_none, stage_some, look_hit, look_miss, news_nil, wb_cons, wb_nil, skip0, List.reverse_cons, List.reverse_nil, i0, i1, i2, i3, d_idxS, u1, u2, u3, u4, v1, ls, op_faddr, p_faddr, d_faddr, op_build, p_build', p_load, AV.ofCells, evEff, d_build, ← hG2, q0, q1, q2, q3, e1, w1, w2, w3, w4, w5, w6, w7, w8, w9, w10, w11, w12, w13, w14, k1, k2, k3, Int.reduceAdd, Int.reduceBEq, a1, r3, ← hG5, c1, e3, q3', q3'']
  refine ⟨z', _, G6, rfl, ?_, c2, fun j hj => c4 j (by omega) (fun hz => by have := R.young j hz; omega), c3⟩
  rfl
theorem rstep_1 (c : Cf) (hc : c.ok = true) (hk : 4 * k + 4 ≤ s.length) (hs : s.length ≤ 300) (sb : ∀ j, s.getD j 0 < 256) (gc : G.get p = some (.cells (cfC c))) (hp : p < h0.next) (e0 : h0.next ≤ G.next) (R : Rows h0 G z k (stp c s))
    (hK : s.getD (4 * k) 0 % 8 = 1) (hN : 100 ≤ N) :
    ∃ z' l G', ev (evCallX table 21 37 N (d + 6)) N ir23_l0 (LocR s p z k) G = some (.norm, l, G') ∧ keepOnly ir23_k0 l = LocR s p z' (k + 1) ∧ Rows h0 G' z' (k + 1) (stp c s) ∧ (∀ j, j < h0.next → G'.get j = G.get j) ∧ G.next ≤ G'.next := by
  have ok := Cf.ok_iff.1 hc
  obtain ⟨G1, e1, x1⟩ := conf_all (N := N) (d := d + 5) (h := G) c
  rw [hc] at e1
  have n1 := x1.1
  have gc1 := x1.at_ gc (by omega)
  obtain ⟨G2, hG2⟩ : ∃ H, H = G1.new (.cells stZ) := ⟨_, rfl⟩
  have x2 : Ext G1 G2 := by rw [hG2]; exact (Ext.refl _).new _
  have n2 : G2.next = G1.next + 1 := by rw [hG2]; rfl
  have g2 : G2.get G1.next = some (.cells stZ) := by rw [hG2]; exact get_new_at
  have gc2 := x2.at_ gc1 (by omega)
  have q0 : G.read p 0 4 = some (cfC c) := read_all gc rfl
  have q1 : G2.read p 0 4 = some (cfC c) := read_all gc2 rfl
  have q2 : G2.read p 2 1 = some [.int .i64 c.shards] := read_cells gc2 rfl
  have q3 : G2.read p 3 1 = some [.int .i64 c.clients] := read_cells gc2 rfl
  obtain ⟨b0, hb0⟩ : ∃ b, b = s.getD (4 * k) 0 := ⟨_, rfl⟩
  obtain ⟨b1, hb1⟩ : ∃ b, b = s.getD (4 * k + 1) 0 := ⟨_, rfl⟩
  obtain ⟨b2, hb2⟩ : ∃ b, b = s.getD (4 * k + 2) 0 := ⟨_, rfl⟩
  obtain ⟨b3, hb3⟩ : ∃ b, b = s.getD (4 * k + 3) 0 := ⟨_, rfl⟩
  have f0 : b0 < 256 := by rw [hb0]; exact sb _
  have f1 : b1 < 256 := by rw [hb1]; exact sb _
  have f2 : b2 < 256 := by rw [hb2]; exact sb _
  have f3 : b3 < 256 := by rw [hb3]; exact sb _
  rw [← hb0] at hK
  have hst : stp c s k = ⟨1, (b1 : Int) % c.clients, 0, 0, opOf c (b0 / 8) b2 b3, []⟩ := by unfold stp stepOf; rw [← hb0, ← hb1, ← hb2, ← hb3, hK]; rfl
  have i0 : ∀ loc vals H, evPure loc (.c (.int .i64 ((4 * k : Nat) : Int)) :: .c (.str s) :: vals) H (.idxS (.val 1) (.val 0)) = some (.c (.int .u8 (b0 : Int))) := fun _ _ _ => by rw [hb0]; exact idx_str (by omega) rfl rfl
  have i1 : ∀ loc vals u H, evPure loc (.c (.int .i64 ((4 * k + 1 : Nat) : Int)) :: u :: .c (.str s) :: vals) H (.idxS (.val 2) (.val 0)) = some (.c (.int .u8 (b1 : Int))) := fun _ _ _ _ => by rw [hb1]; exact idx_str (by omega) rfl rfl
  have i2 : ∀ loc vals u H, evPure loc (.c (.int .i64 ((4 * k + 2 : Nat) : Int)) :: u :: .c (.str s) :: vals) H (.idxS (.val 2) (.val 0)) = some (.c (.int .u8 (b2 : Int))) := fun _ _ _ _ => by rw [hb2]; exact idx_str (by omega) rfl rfl
  have i3 : ∀ loc vals u H, evPure loc (.c (.int .i64 ((4 * k + 3 : Nat) : Int)) :: u :: .c (.str s) :: vals) H (.idxS (.val 2) (.val 0)) = some (.c (.int .u8 (b3 : Int))) := fun _ _ _ _ => by rw [hb3]; exact idx_str (by omega) rfl rfl
  have u1 : IntKind.i64.wrap (((4 * k : Nat) : Int) + 1) = ((4 * k + 1 : Nat) : Int) := by rw [wrapI (by omega) (by omega)]; omega
  have u2 : IntKind.i64.wrap (((4 * k : Nat) : Int) + 2) = ((4 * k + 2 : Nat) : Int) := by rw [wrapI (by omega) (by omega)]; omega
  have u3 : IntKind.i64.wrap (((4 * k : Nat) : Int) + 3) = ((4 * k + 3 : Nat) : Int) := by rw [wrapI (by omega) (by omega)]; omega
  have u4 : IntKind.i64.wrap (((4 * k : Nat) : Int) + 4) = ((4 * (k + 1) : Nat) : Int) := by rw [wrapI (by omega) (by omega)]; omega
  have v1 : decide (((4 * (k + 1) : Nat) : Int) ≤ (s.length : Int)) = true := decide_eq_true (by omega)
  have ls : ∀ loc vals H, evPure loc (.c (.str s) :: vals) H (.len .str (.val 0)) = some (.c (.int .i64 (s.length : Int))) := fun _ _ _ => rfl
  have w1 := wI f1
  have w2 := wI f2
  have w3 := wI f3
  have w4 : Int.tmod (b0 : Int) 8 = 1 := by have := tmodN b0 8; rw [hK] at this; exact this
  have w5 : IntKind.u8.wrap (Int.tdiv (b0 : Int) 8) = ((b0 / 8 : Nat) : Int) := by
    have : Int.tdiv (b0 : Int) 8 = ((b0 / 8 : Nat) : Int) := tdivN b0 8
    rw [this]; simp only [IntKind.wrap, IntKind.bits, IntKind.signed]; simp; omega
  have w6 : Int.tmod (b1 : Int) 16 = ((b1 % 16 : Nat) : Int) := tmodN b1 16
  have w7 : Int.tmod (b1 : Int) c.clients = (b1 : Int) % c.clients := Int.tmod_eq_emod_of_nonneg (by omega)
  have w8 : Int.tmod (b2 : Int) c.shards = (b2 : Int) % c.shards := Int.tmod_eq_emod_of_nonneg (by omega)
  have w9 : IntKind.i64.wrap (256 * (b1 : Int)) = 256 * (b1 : Int) := wrapI (by omega) (by omega)
  have w10 : IntKind.i64.wrap (256 * (b1 : Int) + (b2 : Int)) = ((256 * b1 + b2 : Nat) : Int) := by rw [wrapI (by omega) (by omega)]; omega
  have w11 : IntKind.i64.wrap (32 - c.shards) = 32 - c.shards := wrapI (by omega) (by omega)
  have w12 : IntKind.i64.wrap (32 - c.shards + 1) = 32 - c.shards + 1 := wrapI (by omega) (by omega)
  have w13 : Int.tmod (b3 : Int) (32 - c.shards + 1) = (b3 : Int) % (32 - c.shards + 1) := Int.tmod_eq_emod_of_nonneg (by omega)
  have w14 : IntKind.i64.wrap (c.shards + (b3 : Int) % (32 - c.shards + 1)) = c.shards + (b3 : Int) % (32 - c.shards + 1) := by
    have := Int.emod_nonneg (b3 : Int) (b := 32 - c.shards + 1) (by omega)
    have := Int.emod_lt_of_pos (b3 : Int) (b := 32 - c.shards + 1) (by omega)
    exact wrapI (by omega) (by omega)
  have k1 : (c.clients == 0) = false := by simp only [beq_eq_false_iff_ne, ne_eq]; omega
  have k2 : (c.shards == 0) = false := by simp only [beq_eq_false_iff_ne, ne_eq]; omega
  have k3 : (32 - c.shards + 1 == 0) = false := by simp only [beq_eq_false_iff_ne, ne_eq]; omega
  obtain ⟨x, G3, e3, t3, x3⟩ := rop_ok (N := N) (d := d + 1) (h := G2) c (a := b0 / 8) (b := b2) (e := b3) (by omega) f2 f3 (by omega)
  have n3 := x3.1
  have xx : Ext G G3 := (x1.trans x2).trans x3
  have q3' : G3.read p 3 1 = some [.int .i64 c.clients] := read_cells (x3.at_ gc2 (by omega)) rfl
  obtain ⟨G4, a1, a2, a3, a4⟩ := write_all (h := G3) (i := G1.next) (z := stZ) (l := stC (⟨1, (b1 : Int) % c.clients, 0, 0, opOf c (b0 / 8) b2 b3, []⟩ : Stp) x .nils) (x3.at_ g2 (by omega)) rfl
  have r3 : G4.read G1.next 0 11 = some (stC (⟨1, (b1 : Int) % c.clients, 0, 0, opOf c (b0 / 8) b2 b3, []⟩ : Stp) x .nils) := read_all a2 rfl
  obtain ⟨G5, hG5⟩ : ∃ H, H = G4.new (.cells (stC (⟨1, (b1 : Int) % c.clients, 0, 0, opOf c (b0 / 8) b2 b3, []⟩ : Stp) x .nils)) := ⟨_, rfl⟩
  have x4 : Ext G G4 := ⟨by rw [a4]; exact xx.1, fun j hj => (a3 j (by omega)).trans (xx.2 j hj)⟩
  obtain ⟨z', G6, c1, c2, c3, c4⟩ := add_row (h2 := G5) (x := x) (y := .nils) R e0 x4 (by rw [hst]; exact hG5) (by rw [hst]; exact (t3.keep (by omega) fun j hj hj' => a3 j (by omega)).from_ (by omega)) (by rw [hst]; exact .nil) (by omega)
  have q3'' : G4.read p 3 1 = some [.int .i64 c.clients] := read_cells ((a3 _ (by omega)).trans (x3.at_ gc2 (by omega))) rfl
  unfold ir23_l0
  simp only [enter_eq, ev_seq, seqK_norm, seqK_exit, seqK_ret, ev_reg, ev_cond, condK_true, condK_false, ev_block, blockK_norm, blockK_ret, blockK_exit, ev_loop, ev_skip, ev_exit, ev_ret, regK_cons, regK_nil, guard_none, guard_some, regG_true, regG_false, regO_some, op_mov, op_conv, op_bin, op_bsl, op_box, op_mks, op_s2b, op_pick, op_un, op_eq, op_len, op_ext, op_load, op_iaddr, op_slice, op_b2s, op_idxS, op_mx, op_mn, op_call, op_store, op_app, op_copy, args_eq, result_one', rv_loc, finish_norm, finish_ret, outK_some, keep_true, keep_false, keep_nil, p_bin, p_pick, p_un, p_eq, p_conv, evNew, pureK_some, newK_some, X.eval, set_none, set_some, List.map_cons, List.map_nil, List.getD_cons_zero, List.getD_cons_succ, List.getD_nil, List.set_cons_zero, List.set_cons_succ, binCV, unCV, isShift, intArithF_eq, shiftF_eq, wrapF_eq, intArith, shift, eqVal, bound, asNat_cast, cond_true, cond_false, BEq.rfl, beq_self_eq_true, evalParts, fillParts, AV.cells, AV.ofCells, XV.av, AV.xv, List.length_cons, List.length_nil, zeros, patch, setMany, List.nil_append, List.cons_append, Nat.ble, Nat.add_eq, Nat.zero_add, Nat.add_zero, Nat.reduceAdd, Nat.reduceMul, Nat.reduceSub, Nat.ble_eq, Nat.reduceLeDiff, Nat.reduceBEq, Int.reduceBEq, Int.reduceNeg, Bool.and_true, Bool.and_false, Bool.true_and, Bool.false_and, Bool.not_true, Bool.not_false, Bool.true_eq_false, Bool.false_eq_true, Int.reduceLT, Int.reduceLE, Int.reduceGT, Int.reduceGE, decide_true, decide_false, Bool.not_eq_true, loopN_norm, loopN_exit, tf, ft, ff, ev_dreg, dregK_nil, dregK_cons, dregE_true, dregP_some, dregX_some, d_mov, d_bin, d_eq, d_pick, d_un, d_conv, d_b2s, d_len, d_load, d_iaddr, d_slice, d_ext, d_call, d_store, chk_done, chk_none, chk_some, chkG_true, chkG_false, chkOne_nil, chkOne_cons, chkH_some, chkV_same, stage_none, stage_some, look_hit, look_miss, news_nil, wb_cons, wb_nil, skip0, List.reverse_cons, List.reverse_nil, i0, i1, i2, i3, d_idxS, u1, u2, u3, u4, v1, ls, op_faddr, p_faddr, d_faddr, op_build, p_build', p_load, AV.ofCells, evEff, d_build, ← hG2, q0, q1, q2, q3, e1, w1, w2, w3, w4, w5, w6, w7, w8, w9, w10, w11, w12, w13, w14, k1, k2, k3, Int.reduceAdd, Int.reduceBEq, a1, r3, ← hG5, c1, e3, q3', q3'']
  refine ⟨z', _, G6, rfl, ?_, c2, fun j hj => c4 j (by omega) (fun hz => by have := R.young j hz; omega), c3⟩
  rfl
theorem rstep_2 (c : Cf) (hc : c.ok = true) (hk : 4 * k + 4 ≤ s.length) (hs : s.length ≤ 300) (sb : ∀ j, s.getD j 0 < 256) (gc : G.get p = some (.cells (cfC c))) (hp : p < h0.next) (e0 : h0.next ≤ G.next) (R : Rows h0 G z k (stp c s))
    (hK : s.getD (4 * k) 0 % 8 = 2) (hN : 100 ≤ N) :
    ∃ z' l G', ev (evCallX table 21 37 N (d + 6)) N ir23_l0 (LocR s p z k) G = some (.norm, l, G') ∧ keepOnly ir23_k0 l = LocR s p z' (k + 1) ∧ Rows h0 G' z' (k + 1) (stp c s) ∧ (∀ j, j < h0.next → G'.get j = G.get j) ∧ G.next ≤ G'.next := by
  have ok := Cf.ok_iff.1 hc
  obtain ⟨G1, e1, x1⟩ := conf_all (N := N) (d := d + 5) (h := G) c
  rw [hc] at e1
  have n1 := x1.1
  have gc1 := x1.at_ gc (by omega)
  obtain ⟨G2, hG2⟩ : ∃ H, H = G1.new (.cells stZ) := ⟨_, rfl⟩
  have x2 : Ext G1 G2 := by rw [hG2]; exact (Ext.refl _).new _
  have n2 : G2.next = G1.next + 1 := by rw [hG2]; rfl
  have g2 : G2.get G1.next = some (.cells stZ) := by rw [hG2]; exact get_new_at
  have gc2 := x2.at_ gc1 (by omega)
  have q0 : G.read p 0 4 = some (cfC c) := read_all gc rfl
  have q1 : G2.read p 0 4 = some (cfC c) := read_all gc2 rfl
  have q2 : G2.read p 2 1 = some [.int .i64 c.shards] := read_cells gc2 rfl
  have q3 : G2.read p 3 1 = some [.int .i64 c.clients] := read_cells gc2 rfl
  obtain ⟨b0, hb0⟩ : ∃ b, b = s.getD (4 * k) 0 := ⟨_, rfl⟩
  obtain ⟨b1, hb1⟩ : ∃ b, b = s.getD (4 * k + 1) 0 := ⟨_, rfl⟩
  obtain ⟨b2, hb2⟩ : ∃ b, b = s.getD (4 * k + 2) 0 := ⟨_, rfl⟩
  obtain ⟨b3, hb3⟩ : ∃ b, b = s.getD (4 * k + 3) 0 := ⟨_, rfl⟩
  have f0 : b0 < 256 := by rw [hb0]; exact sb _
  have f1 : b1 < 256 := by rw [hb1]; exact sb _
  have f2 : b2 < 256 := by rw [hb2]; exact sb _
  have f3 : b3 < 256 := by rw [hb3]; exact sb _
  rw [← hb0] at hK
  have hst : stp c s k = ⟨1, (b1 : Int) % c.clients, 0, 0, opOf c (b0 / 8) b2 b3, []⟩ := by unfold stp stepOf; rw [← hb0, ← hb1, ← hb2, ← hb3, hK]; rfl
  have i0 : ∀ loc vals H, evPure loc (.c (.int .i64 ((4 * k : Nat) : Int)) :: .c (.str s) :: vals) H (.idxS (.val 1) (.val 0)) = some (.c (.int .u8 (b0 : Int))) := fun _ _ _ => by rw [hb0]; exact idx_str (by omega) rfl rfl
  have i1 : ∀ loc vals u H, evPure loc (.c (.int .i64 ((4 * k + 1 : Nat) : Int)) :: u :: .c (.str s) :: vals) H (.idxS (.val 2) (.val 0)) = some (.c (.int .u8 (b1 : Int))) := fun _ _ _ _ => by rw [hb1]; exact idx_str (by omega) rfl rfl
  have i2 : ∀ loc vals u H, evPure loc (.c (.int .i64 ((4 * k + 2 : Nat) : Int)) :: u :: .c (.str s) :: vals) H (.idxS (.val 2) (.val 0)) = some (.c (.int .u8 (b2 : Int))) := fun _ _ _ _ => by rw [hb2]; exact idx_str (by omega) rfl rfl
  have i3 : ∀ loc vals u H, evPure loc (.c (.int .i64 ((4 * k + 3 : Nat) : Int)) :: u :: .c (.str s) :: vals) H (.idxS (.val 2) (.val 0)) = some (.c (.int .u8 (b3 : Int))) := fun _ _ _ _ => by rw [hb3]; exact idx_str (by omega) rfl rfl
  have u1 : IntKind.i64.wrap (((4 * k : Nat) : Int) + 1) = ((4 * k + 1 : Nat) : Int) := by rw [wrapI (by omega) (by omega)]; omega
  have u2 : IntKind.i64.wrap (((4 * k : Nat) : Int) + 2) = ((4 * k + 2 : Nat) : Int) := by rw [wrapI (by omega) (by omega)]; omega
  have u3 : IntKind.i64.wrap (((4 * k : Nat) : Int) + 3) = ((4 * k + 3 : Nat) : Int) := by rw [wrapI (by omega) (by omega)]; omega
  have u4 : IntKind.i64.wrap (((4 * k : Nat) : Int) + 4) = ((4 * (k + 1) : Nat) : Int) := by rw [wrapI (by omega) (by omega)]; omega
  have v1 : decide (((4 * (k + 1) : Nat) : Int) ≤ (s.length : Int)) = true := decide_eq_true (by omega)
  have ls : ∀ loc vals H, evPure loc (.c (.str s) :: vals) H (.len .str (.val 0)) = some (.c (.int .i64 (s.length : Int))) := fun _ _ _ => rfl
  have w1 := wI f1
  have w2 := wI f2
  have w3 := wI f3
  have w4 : Int.tmod (b0 : Int) 8 = 2 := by have := tmodN b0 8; rw [hK] at this; exact this
  have w5 : IntKind.u8.wrap (Int.tdiv (b0 : Int) 8) = ((b0 / 8 : Nat) : Int) := by
    have : Int.tdiv (b0 : Int) 8 = ((b0 / 8 : Nat) : Int) := tdivN b0 8
    rw [this]; simp only [IntKind.wrap, IntKind.bits, IntKind.signed]; simp; omega
  have w6 : Int.tmod (b1 : Int) 16 = ((b1 % 16 : Nat) : Int) := tmodN b1 16
  have w7 : Int.tmod (b1 : Int) c.clients = (b1 : Int) % c.clients := Int.tmod_eq_emod_of_nonneg (by omega)
  have w8 : Int.tmod (b2 : Int) c.shards = (b2 : Int) % c.shards := Int.tmod_eq_emod_of_nonneg (by omega)
  have w9 : IntKind.i64.wrap (256 * (b1 : Int)) = 256 * (b1 : Int) := wrapI (by omega) (by omega)
  have w10 : IntKind.i64.wrap (256 * (b1 : Int) + (b2 : Int)) = ((256 * b1 + b2 : Nat) : Int) := by rw [wrapI (by omega) (by omega)]; omega
  have w11 : IntKind.i64.wrap (32 - c.shards) = 32 - c.shards := wrapI (by omega) (by omega)
  have w12 : IntKind.i64.wrap (32 - c.shards + 1) = 32 - c.shards + 1 := wrapI (by omega) (by omega)
  have w13 : Int.tmod (b3 : Int) (32 - c.shards + 1) = (b3 : Int) % (32 - c.shards + 1) := Int.tmod_eq_emod_of_nonneg (by omega)
  have w14 : IntKind.i64.wrap (c.shards + (b3 : Int) % (32 - c.shards + 1)) = c.shards + (b3 : Int) % (32 - c.shards + 1) := by
    have := Int.emod_nonneg (b3 : Int) (b := 32 - c.shards + 1) (by omega)
    have := Int.emod_lt_of_pos (b3 : Int) (b := 32 - c.shards + 1) (by omega)
    exact wrapI (by omega) (by omega)
  have k1 : (c.clients == 0) = false := by simp only [beq_eq_false_iff_ne, ne_eq]; omega
  have k2 : (c.shards == 0) = false := by simp only [beq_eq_false_iff_ne, ne_eq]; omega
  have k3 : (32 - c.shards + 1 == 0) = false := by simp only [beq_eq_false_iff_ne, ne_eq]; omega
  obtain ⟨x, G3, e3, t3, x3⟩ := rop_ok (N := N) (d := d + 1) (h := G2) c (a := b0 / 8) (b := b2) (e := b3) (by omega) f2 f3 (by omega)
  have n3 := x3.1
  have xx : Ext G G3 := (x1.trans x2).trans x3
  have q3' : G3.read p 3 1 = some [.int .i64 c.clients] := read_cells (x3.at_ gc2 (by omega)) rfl
  obtain ⟨G4, a1, a2, a3, a4⟩ := write_all (h := G3) (i := G1.next) (z := stZ) (l := stC (⟨1, (b1 : Int) % c.clients, 0, 0, opOf c (b0 / 8) b2 b3, []⟩ : Stp) x .nils) (x3.at_ g2 (by omega)) rfl
  have r3 : G4.read G1.next 0 11 = some (stC (⟨1, (b1 : Int) % c.clients, 0, 0, opOf c (b0 / 8) b2 b3, []⟩ : Stp) x .nils) := read_all a2 rfl
  obtain ⟨G5, hG5⟩ : ∃ H, H = G4.new (.cells (stC (⟨1, (b1 : Int) % c.clients, 0, 0, opOf c (b0 / 8) b2 b3, []⟩ : Stp) x .nils)) := ⟨_, rfl⟩
  have x4 : Ext G G4 := ⟨by rw [a4]; exact xx.1, fun j hj => (a3 j (by omega)).trans (xx.2 j hj)⟩
  obtain ⟨z', G6, c1, c2, c3, c4⟩ := add_row (h2 := G5) (x := x) (y := .nils) R e0 x4 (by rw [hst]; exact hG5) (by rw [hst]; exact (t3.keep (by omega) fun j hj hj' => a3 j (by omega)).from_ (by omega)) (by rw [hst]; exact .nil) (by omega)
  have q3'' : G4.read p 3 1 = some [.int .i64 c.clients] := read_cells ((a3 _ (by omega)).trans (x3.at_ gc2 (by omega))) rfl
  unfold ir23_l0
  simp only [enter_eq, ev_seq, seqK_norm, seqK_exit, seqK_ret, ev_reg, ev_cond, condK_true, condK_false, ev_block, blockK_norm, blockK_ret, blockK_exit, ev_loop, ev_skip, ev_exit, ev_ret, regK_cons, regK_nil, guard_none, guard_some, regG_true, regG_false, regO_some, op_mov, op_conv, op_bin, op_bsl, op_box, op_mks, op_s2b, op_pick, op_un, op_eq, op_len, op_ext, op_load, op_iaddr, op_slice, op_b2s, op_idxS, op_mx, op_mn, op_call, op_store, op_app, op_copy, args_eq, result_one', rv_loc, finish_norm, finish_ret, outK_some, keep_true, keep_false, keep_nil, p_bin, p_pick, p_un, p_eq, p_conv, evNew, pureK_some, newK_some, X.eval, set_none, set_some, List.map_cons, List.map_nil, List.getD_cons_zero, List.getD_cons_succ, List.getD_nil, List.set_cons_zero, List.set_cons_succ, binCV, unCV, isShift, intArithF_eq, shiftF_eq, wrapF_eq, intArith, shift, eqVal, bound, asNat_cast, cond_true, cond_false, BEq.rfl, beq_self_eq_true, evalParts, fillParts, AV.cells, AV.ofCells, XV.av, AV.xv, List.length_cons, List.length_nil, zeros, patch, setMany, List.nil_append, List.cons_append, Nat.ble, Nat.add_eq, Nat.zero_add, Nat.add_zero, Nat.reduceAdd, Nat.reduceMul, Nat.reduceSub, Nat.ble_eq, Nat.reduceLeDiff, Nat.reduceBEq, Int.reduceBEq, Int.reduceNeg, Bool.and_true, Bool.and_false, Bool.true_and, Bool.false_and, Bool.not_true, Bool.not_false, Bool.true_eq_false, Bool.false_eq_true, Int.reduceLT, Int.reduceLE, Int.reduceGT, Int.reduceGE, decide_true, decide_false, Bool.not_eq_true, loopN_norm, loopN_exit, tf, ft, ff, ev_dreg, dregK_nil, dregK_cons, dregE_true, dregP_some, dregX_some, d_mov, d_bin, d_eq, d_pick, d_un, d_conv, d_b2s, d_len, d_load, d_iaddr, d_slice, d_ext, d_call, d_store, chk_done, chk_none, chk_some, chkG_true, chkG_false, chkOne_nil, chkOne_cons, chkH_some, chkV_same, stage_none, stage_some, look_hit, look_miss, news_nil, wb_cons, wb_nil, skip0, List.reverse_cons, List.reverse_nil, i0, i1, i2, i3, d_idxS, u1, u2, u3, u4, v1, ls, op_faddr, p_faddr, d_faddr, op_build, p_build', p_load, AV.ofCells, evEff, d_build, ← hG2, q0, q1, q2, q3, e1, w1, w2, w3, w4, w5, w6, w7, w8, w9, w10, w11, w12, w13, w14, k1, k2, k3, Int.reduceAdd, Int.reduceBEq, a1, r3, ← hG5, c1, e3, q3', q3'']
  refine ⟨z', _, G6, rfl, ?_, c2, fun j hj => c4 j (by omega) (fun hz => by have := R.young j hz; omega), c3⟩
  rfl
theorem rstep_3 (c : Cf) (hc : c.ok = true) (hk : 4 * k + 4 ≤ s.length) (hs : s.length ≤ 300) (sb : ∀ j, s.getD j 0 < 256) (gc : G.get p = some (.cells (cfC c))) (hp : p < h0.next) (e0 : h0.next ≤ G.next) (R : Rows h0 G z k (stp c s))
    (hK : s.getD (4 * k) 0 % 8 = 3) (hN : 100 ≤ N) :
    ∃ z' l G', ev (evCallX table 21 37 N (d + 6)) N ir23_l0 (LocR s p z k) G = some (.norm, l, G') ∧ keepOnly ir23_k0 l = LocR s p z' (k + 1) ∧ Rows h0 G' z' (k + 1) (stp c s) ∧ (∀ j, j < h0.next → G'.get j = G.get j) ∧ G.next ≤ G'.next := by
  have ok := Cf.ok_iff.1 hc
  obtain ⟨G1, e1, x1⟩ := conf_all (N := N) (d := d + 5) (h := G) c
  rw [hc] at e1
  have n1 := x1.1
  have gc1 := x1.at_ gc (by omega)
  obtain ⟨G2, hG2⟩ : ∃ H, H = G1.new (.cells stZ) := ⟨_, rfl⟩
  have x2 : Ext G1 G2 := by rw [hG2]; exact (Ext.refl _).new _
  have n2 : G2.next = G1.next + 1 := by rw [hG2]; rfl
  have g2 : G2.get G1.next = some (.cells stZ) := by rw [hG2]; exact get_new_at
  have gc2 := x2.at_ gc1 (by omega)
  have q0 : G.read p 0 4 = some (cfC c) := read_all gc rfl
  have q1 : G2.read p 0 4 = some (cfC c) := read_all gc2 rfl
  have q2 : G2.read p 2 1 = some [.int .i64 c.shards] := read_cells gc2 rfl
  have q3 : G2.read p 3 1 = some [.int .i64 c.clients] := read_cells gc2 rfl
  obtain ⟨b0, hb0⟩ : ∃ b, b = s.getD (4 * k) 0 := ⟨_, rfl⟩
  obtain ⟨b1, hb1⟩ : ∃ b, b = s.getD (4 * k + 1) 0 := ⟨_, rfl⟩
  obtain ⟨b2, hb2⟩ : ∃ b, b = s.getD (4 * k + 2) 0 := ⟨_, rfl⟩
  obtain ⟨b3, hb3⟩ : ∃ b, b = s.getD (4 * k + 3) 0 := ⟨_, rfl⟩
  have f0 : b0 < 256 := by rw [hb0]; exact sb _
  have f1 : b1 < 256 := by rw [hb1]; exact sb _
  have f2 : b2 < 256 := by rw [hb2]; exact sb _
  have f3 : b3 < 256 := by rw [hb3]; exact sb _
  rw [← hb0] at hK
  have hst : stp c s k = ⟨2, 0, ((256 * b1 + b2 : Nat) : Int), 0, clz, []⟩ := by unfold stp stepOf; rw [← hb0, ← hb1, ← hb2, ← hb3, hK]; rfl
  have i0 : ∀ loc vals H, evPure loc (.c (.int .i64 ((4 * k : Nat) : Int)) :: .c (.str s) :: vals) H (.idxS (.val 1) (.val 0)) = some (.c (.int .u8 (b0 : Int))) := fun _ _ _ => by rw [hb0]; exact idx_str (by omega) rfl rfl
  have i1 : ∀ loc vals u H, evPure loc (.c (.int .i64 ((4 * k + 1 : Nat) : Int)) :: u :: .c (.str s) :: vals) H (.idxS (.val 2) (.val 0)) = some (.c (.int .u8 (b1 : Int))) := fun _ _ _ _ => by rw [hb1]; exact idx_str (by omega) rfl rfl
  have i2 : ∀ loc vals u H, evPure loc (.c (.int .i64 ((4 * k + 2 : Nat) : Int)) :: u :: .c (.str s) :: vals) H (.idxS (.val 2) (.val 0)) = some (.c (.int .u8 (b2 : Int))) := fun _ _ _ _ => by rw [hb2]; exact idx_str (by omega) rfl rfl
  have i3 : ∀ loc vals u H, evPure loc (.c (.int .i64 ((4 * k + 3 : Nat) : Int)) :: u :: .c (.str s) :: vals) H (.idxS (.val 2) (.val 0)) = some (.c (.int .u8 (b3 : Int))) := fun _ _ _ _ => by rw [hb3]; exact idx_str (by omega) rfl rfl
  have u1 : IntKind.i64.wrap (((4 * k : Nat) : Int) + 1) = ((4 * k + 1 : Nat) : Int) := by rw [wrapI (by omega) (by omega)]; omega
  have u2 : IntKind.i64.wrap (((4 * k : Nat) : Int) + 2) = ((4 * k + 2 : Nat) : Int) := by rw [wrapI (by omega) (by omega)]; omega
  have u3 : IntKind.i64.wrap (((4 * k : Nat) : Int) + 3) = ((4 * k + 3 : Nat) : Int) := by rw [wrapI (by omega) (by omega)]; omega
  have u4 : IntKind.i64.wrap (((4 * k : Nat) : Int) + 4) = ((4 * (k + 1) : Nat) : Int) := by rw [wrapI (by omega) (by omega)]; omega
  have v1 : decide (((4 * (k + 1) : Nat) : Int) ≤ (s.length : Int)) = true := decide_eq_true (by omega)
  have ls : ∀ loc vals H, evPure loc (.c (.str s) :: vals) H (.len .str (.val 0)) = some (.c (.int .i64 (s.length : Int))) := fun _ _ _ => rfl
  have w1 := wI f1
  have w2 := wI f2
  have w3 := wI f3
  have w4 : Int.tmod (b0 : Int) 8 = 3 := by have := tmodN b0 8; rw [hK] at this; exact this
  have w5 : IntKind.u8.wrap (Int.tdiv (b0 : Int) 8) = ((b0 / 8 : Nat) : Int) := by
    have : Int.tdiv (b0 : Int) 8 = ((b0 / 8 : Nat) : Int) := tdivN b0 8
    rw [this]; simp only [IntKind.wrap, IntKind.bits, IntKind.signed]; simp; omega
  have w6 : Int.tmod (b1 : Int) 16 = ((b1 % 16 : Nat) : Int) := tmodN b1 16
  have w7 : Int.tmod (b1 : Int) c.clients = (b1 : Int) % c.clients := Int.tmod_eq_emod_of_nonneg (by omega)
  have w8 : Int.tmod (b2 : Int) c.shards = (b2 : Int) % c.shards := Int.tmod_eq_emod_of_nonneg (by omega)
  have w9 : IntKind.i64.wrap (256 * (b1 : Int)) = 256 * (b1 : Int) := wrapI (by omega) (by omega)
  have w10 : IntKind.i64.wrap (256 * (b1 : Int) + (b2 : Int)) = ((256 * b1 + b2 : Nat) : Int) := by rw [wrapI (by omega) (by omega)]; omega
  have w11 : IntKind.i64.wrap (32 - c.shards) = 32 - c.shards := wrapI (by omega) (by omega)
  have w12 : IntKind.i64.wrap (32 - c.shards + 1) = 32 - c.shards + 1 := wrapI (by omega) (by omega)
  have w13 : Int.tmod (b3 : Int) (32 - c.shards + 1) = (b3 : Int) % (32 - c.shards + 1) := Int.tmod_eq_emod_of_nonneg (by omega)
  have w14 : IntKind.i64.wrap (c.shards + (b3 : Int) % (32 - c.shards + 1)) = c.shards + (b3 : Int) % (32 - c.shards + 1) := by
    have := Int.emod_nonneg (b3 : Int) (b := 32 - c.shards + 1) (by omega)
    have := Int.emod_lt_of_pos (b3 : Int) (b := 32 - c.shards + 1) (by omega)
    exact wrapI (by omega) (by omega)
  have k1 : (c.clients == 0) = false := by simp only [beq_eq_false_iff_ne, ne_eq]; omega
  have k2 : (c.shards == 0) = false := by simp only [beq_eq_false_iff_ne, ne_eq]; omega
  have k3 : (32 - c.shards + 1 == 0) = false := by simp only [beq_eq_false_iff_ne, ne_eq]; omega
  have xx : Ext G G2 := x1.trans x2
  obtain ⟨G4, a1, a2, a3, a4⟩ := write_all (h := G2) (i := G1.next) (z := stZ) (l := stC (⟨2, 0, ((256 * b1 + b2 : Nat) : Int), 0, clz, []⟩ : Stp) .nils .nils) g2 rfl
  simp only [clz] at a1
  have r3 : G4.read G1.next 0 11 = some (stC (⟨2, 0, ((256 * b1 + b2 : Nat) : Int), 0, clz, []⟩ : Stp) .nils .nils) := read_all a2 rfl
  simp only [clz] at r3
  obtain ⟨G5, hG5⟩ : ∃ H, H = G4.new (.cells (stC (⟨2, 0, ((256 * b1 + b2 : Nat) : Int), 0, clz, []⟩ : Stp) .nils .nils)) := ⟨_, rfl⟩
  have x4 : Ext G G4 := ⟨by rw [a4]; exact xx.1, fun j hj => (a3 j (by omega)).trans (xx.2 j hj)⟩
  obtain ⟨z', G6, c1, c2, c3, c4⟩ := add_row (h2 := G5) (x := .nils) (y := .nils) R e0 x4 (by rw [hst]; exact hG5) (by rw [hst]; exact .nil) (by rw [hst]; exact .nil) (by omega)
  simp only [clz] at hG5
  unfold ir23_l0
  simp only [enter_eq, ev_seq, seqK_norm, seqK_exit, seqK_ret, ev_reg, ev_cond, condK_true, condK_false, ev_block, blockK_norm, blockK_ret, blockK_exit, ev_loop, ev_skip, ev_exit, ev_ret, regK_cons, regK_nil, guard_none, guard_some, regG_true, regG_false, regO_some, op_mov, op_conv, op_bin, op_bsl, op_box, op_mks, op_s2b, op_pick, op_un, op_eq, op_len, op_ext, op_load, op_iaddr, op_slice, op_b2s, op_idxS, op_mx, op_mn, op_call, op_store, op_app, op_copy, args_eq, result_one', rv_loc, finish_norm, finish_ret, outK_some, keep_true, keep_false, keep_nil, p_bin, p_pick, p_un, p_eq, p_conv, evNew, pureK_some, newK_some, X.eval, set_none, set_some, List.map_cons, List.map_nil, List.getD_cons_zero, List.getD_cons_succ, List.getD_nil, List.set_cons_zero, List.set_cons_succ, binCV, unCV, isShift, intArithF_eq, shiftF_eq, wrapF_eq, intArith, shift, eqVal, bound, asNat_cast, cond_true, cond_false, BEq.rfl, beq_self_eq_true, evalParts, fillParts, AV.cells, AV.ofCells, XV.av, AV.xv, List.length_cons, List.length_nil, zeros, patch, setMany, List.nil_append, List.cons_append, Nat.ble, Nat.add_eq, Nat.zero_add, Nat.add_zero, Nat.reduceAdd, Nat.reduceMul, Nat.reduceSub, Nat.ble_eq, Nat.reduceLeDiff, Nat.reduceBEq, Int.reduceBEq, Int.reduceNeg, Bool.and_true, Bool.and_false, Bool.true_and, Bool.false_and, Bool.not_true, Bool.not_false, Bool.true_eq_false, Bool.false_eq_true, Int.reduceLT, Int.reduceLE, Int.reduceGT, Int.reduceGE, decide_true, decide_false, Bool.not_eq_true, loopN_norm, loopN_exit, tf, ft, ff, ev_dreg, dregK_nil, dregK_cons, dregE_true, dregP_some, dregX_some, d_mov, d_bin, d_eq, d_pick, d_un, d_conv, d_b2s, d_len, d_load, d_iaddr, d_slice, d_ext, d_call, d_store, chk_done, chk_none, chk_some, chkG_true, chkG_false, chkOne_nil, chkOne_cons, chkH_some, chkV_same, stage_none, stage_some, look_hit, look_miss, news_nil, wb_cons, wb_nil, skip0, List.reverse_cons, List.reverse_nil, i0, i1, i2, i3, d_idxS, u1, u2, u3, u4, v1, ls, op_faddr, p_faddr, d_faddr, op_build, p_build', p_load, AV.ofCells, evEff, d_build, ← hG2, q0, q1, q2, q3, e1, w1, w2, w3, w4, w5, w6, w7, w8, w9, w10, w11, w12, w13, w14, k1, k2, k3, Int.reduceAdd, Int.reduceBEq, a1, r3, ← hG5, c1]
  refine ⟨z', _, G6, rfl, ?_, c2, fun j hj => c4 j (by omega) (fun hz => by have := R.young j hz; omega), c3⟩
  rfl
theorem rstep_4 (c : Cf) (hc : c.ok = true) (hk : 4 * k + 4 ≤ s.length) (hs : s.length ≤ 300) (sb : ∀ j, s.getD j 0 < 256) (gc : G.get p = some (.cells (cfC c))) (hp : p < h0.next) (e0 : h0.next ≤ G.next) (R : Rows h0 G z k (stp c s))
    (hK : s.getD (4 * k) 0 % 8 = 4) (hN : 100 ≤ N) :
    ∃ z' l G', ev (evCallX table 21 37 N (d + 6)) N ir23_l0 (LocR s p z k) G = some (.norm, l, G') ∧ keepOnly ir23_k0 l = LocR s p z' (k + 1) ∧ Rows h0 G' z' (k + 1) (stp c s) ∧ (∀ j, j < h0.next → G'.get j = G.get j) ∧ G.next ≤ G'.next := by
  have ok := Cf.ok_iff.1 hc
  obtain ⟨G1, e1, x1⟩ := conf_all (N := N) (d := d + 5) (h := G) c
  rw [hc] at e1
  have n1 := x1.1
  have gc1 := x1.at_ gc (by omega)
  obtain ⟨G2, hG2⟩ : ∃ H, H = G1.new (.cells stZ) := ⟨_, rfl⟩
  have x2 : Ext G1 G2 := by rw [hG2]; exact (Ext.refl _).new _
  have n2 : G2.next = G1.next + 1 := by rw [hG2]; rfl
  have g2 : G2.get G1.next = some (.cells stZ) := by rw [hG2]; exact get_new_at
  have gc2 := x2.at_ gc1 (by omega)
  have q0 : G.read p 0 4 = some (cfC c) := read_all gc rfl
  have q1 : G2.read p 0 4 = some (cfC c) := read_all gc2 rfl
  have q2 : G2.read p 2 1 = some [.int .i64 c.shards] := read_cells gc2 rfl
  have q3 : G2.read p 3 1 = some [.int .i64 c.clients] := read_cells gc2 rfl
  obtain ⟨b0, hb0⟩ : ∃ b, b = s.getD (4 * k) 0 := ⟨_, rfl⟩
  obtain ⟨b1, hb1⟩ : ∃ b, b = s.getD (4 * k + 1) 0 := ⟨_, rfl⟩
  obtain ⟨b2, hb2⟩ : ∃ b, b = s.getD (4 * k + 2) 0 := ⟨_, rfl⟩
  obtain ⟨b3, hb3⟩ : ∃ b, b = s.getD (4 * k + 3) 0 := ⟨_, rfl⟩
  have f0 : b0 < 256 := by rw [hb0]; exact sb _
  have f1 : b1 < 256 := by rw [hb1]; exact sb _
  have f2 : b2 < 256 := by rw [hb2]; exact sb _
  have f3 : b3 < 256 := by rw [hb3]; exact sb _
  rw [← hb0] at hK
  have hst : stp c s k = ⟨2, 0, ((256 * b1 + b2 : Nat) : Int), 0, clz, []⟩ := by unfold stp stepOf; rw [← hb0, ← hb1, ← hb2, ← hb3, hK]; rfl
  have i0 : ∀ loc vals H, evPure loc (.c (.int .i64 ((4 * k : Nat) : Int)) :: .c (.str s) :: vals) H (.idxS (.val 1) (.val 0)) = some (.c (.int .u8 (b0 : Int))) := fun _ _ _ => by rw [hb0]; exact idx_str (by omega) rfl rfl
  have i1 : ∀ loc vals u H, evPure loc (.c (.int .i64 ((4 * k + 1 : Nat) : Int)) :: u :: .c (.str s) :: vals) H (.idxS (.val 2) (.val 0)) = some (.c (.int .u8 (b1 : Int))) := fun _ _ _ _ => by rw [hb1]; exact idx_str (by omega) rfl rfl
  have i2 : ∀ loc vals u H, evPure loc (.c (.int .i64 ((4 * k + 2 : Nat) : Int)) :: u :: .c (.str s) :: vals) H (.idxS (.val 2) (.val 0)) = some (.c (.int .u8 (b2 : Int))) := fun _ _ _ _ => by rw [hb2]; exact idx_str (by omega) rfl rfl
  have i3 : ∀ loc vals u H, evPure loc (.c (.int .i64 ((4 * k + 3 : Nat) : Int)) :: u :: .c (.str s) :: vals) H (.idxS (.val 2) (.val 0)) = some (.c (.int .u8 (b3 : Int))) := fun _ _ _ _ => by rw [hb3]; exact idx_str (by omega) rfl rfl
  have u1 : IntKind.i64.wrap (((4 * k : Nat) : Int) + 1) = ((4 * k + 1 : Nat) : Int) := by rw [wrapI (by omega) (by omega)]; omega
  have u2 : IntKind.i64.wrap (((4 * k : Nat) : Int) + 2) = ((4 * k + 2 : Nat) : Int) := by rw [wrapI (by omega) (by omega)]; omega
  have u3 : IntKind.i64.wrap (((4 * k : Nat) : Int) + 3) = ((4 * k + 3 : Nat) : Int) := by rw [wrapI (by omega) (by omega)]; omega
  have u4 : IntKind.i64.wrap (((4 * k : Nat) : Int) + 4) = ((4 * (k + 1) : Nat) : Int) := by rw [wrapI (by omega) (by omega)]; omega
  have v1 : decide (((4 * (k + 1) : Nat) : Int) ≤ (s.length : Int)) = true := decide_eq_true (by omega)
  have ls : ∀ loc vals H, evPure loc (.c (.str s) :: vals) H (.len .str (.val 0)) = some (.c (.int .i64 (s.length : Int))) := fun _ _ _ => rfl
  have w1 := wI f1
  have w2 := wI f2
  have w3 := wI f3
  have w4 : Int.tmod (b0 : Int) 8 = 4 := by have := tmodN b0 8; rw [hK] at this; exact this
  have w5 : IntKind.u8.wrap (Int.tdiv (b0 : Int) 8) = ((b0 / 8 : Nat) : Int) := by
    have : Int.tdiv (b0 : Int) 8 = ((b0 / 8 : Nat) : Int) := tdivN b0 8
    rw [this]; simp only [IntKind.wrap, IntKind.bits, IntKind.signed]; simp; omega
  have w6 : Int.tmod (b1 : Int) 16 = ((b1 % 16 : Nat) : Int) := tmodN b1 16
  have w7 : Int.tmod (b1 : Int) c.clients = (b1 : Int) % c.clients := Int.tmod_eq_emod_of_nonneg (by omega)
  have w8 : Int.tmod (b2 : Int) c.shards = (b2 : Int) % c.shards := Int.tmod_eq_emod_of_nonneg (by omega)
  have w9 : IntKind.i64.wrap (256 * (b1 : Int)) = 256 * (b1 : Int) := wrapI (by omega) (by omega)
  have w10 : IntKind.i64.wrap (256 * (b1 : Int) + (b2 : Int)) = ((256 * b1 + b2 : Nat) : Int) := by rw [wrapI (by omega) (by omega)]; omega
  have w11 : IntKind.i64.wrap (32 - c.shards) = 32 - c.shards := wrapI (by omega) (by omega)
  have w12 : IntKind.i64.wrap (32 - c.shards + 1) = 32 - c.shards + 1 := wrapI (by omega) (by omega)
  have w13 : Int.tmod (b3 : Int) (32 - c.shards + 1) = (b3 : Int) % (32 - c.shards + 1) := Int.tmod_eq_emod_of_nonneg (by omega)
  have w14 : IntKind.i64.wrap (c.shards + (b3 : Int) % (32 - c.shards + 1)) = c.shards + (b3 : Int) % (32 - c.shards + 1) := by
    have := Int.emod_nonneg (b3 : Int) (b := 32 - c.shards + 1) (by omega)
    have := Int.emod_lt_of_pos (b3 : Int) (b := 32 - c.shards + 1) (by omega)
    exact wrapI (by omega) (by omega)
  have k1 : (c.clients == 0) = false := by simp only [beq_eq_false_iff_ne, ne_eq]; omega
  have k2 : (c.shards == 0) = false := by simp only [beq_eq_false_iff_ne, ne_eq]; omega
  have k3 : (32 - c.shards + 1 == 0) = false := by simp only [beq_eq_false_iff_ne, ne_eq]; omega
  have xx : Ext G G2 := x1.trans x2
  obtain ⟨G4, a1, a2, a3, a4⟩ := write_all (h := G2) (i := G1.next) (z := stZ) (l := stC (⟨2, 0, ((256 * b1 + b2 : Nat) : Int), 0, clz, []⟩ : Stp) .nils .nils) g2 rfl
  simp only [clz] at a1
  have r3 : G4.read G1.next 0 11 = some (stC (⟨2, 0, ((256 * b1 + b2 : Nat) : Int), 0, clz, []⟩ : Stp) .nils .nils) := read_all a2 rfl
  simp only [clz] at r3
  obtain ⟨G5, hG5⟩ : ∃ H, H = G4.new (.cells (stC (⟨2, 0, ((256 * b1 + b2 : Nat) : Int), 0, clz, []⟩ : Stp) .nils .nils)) := ⟨_, rfl⟩
  have x4 : Ext G G4 := ⟨by rw [a4]; exact xx.1, fun j hj => (a3 j (by omega)).trans (xx.2 j hj)⟩
  obtain ⟨z', G6, c1, c2, c3, c4⟩ := add_row (h2 := G5) (x := .nils) (y := .nils) R e0 x4 (by rw [hst]; exact hG5) (by rw [hst]; exact .nil) (by rw [hst]; exact .nil) (by omega)
  simp only [clz] at hG5
  unfold ir23_l0
  simp only [enter_eq, ev_seq, seqK_norm, seqK_exit, seqK_ret, ev_reg, ev_cond, condK_true, condK_false, ev_block, blockK_norm, blockK_ret, blockK_exit, ev_loop, ev_skip, ev_exit, ev_ret, regK_cons, regK_nil, guard_none, guard_some, regG_true, regG_false, regO_some, op_mov, op_conv, op_bin, op_bsl, op_box, op_mks, op_s2b, op_pick, op_un, op_eq, op_len, op_ext, op_load, op_iaddr, op_slice, op_b2s, op_idxS, op_mx, op_mn, op_call, op_store, op_app, op_copy, args_eq, result_one', rv_loc, finish_norm, finish_ret, outK_some, keep_true, keep_false, keep_nil, p_bin, p_pick, p_un, p_eq, p_conv, evNew, pureK_some, newK_some, X.eval, set_none, set_some, List.map_cons, List.map_nil, List.getD_cons_zero, List.getD_cons_succ, List.getD_nil, List.set_cons_zero, List.set_cons_succ, binCV, unCV, isShift, intArithF_eq, shiftF_eq, wrapF_eq, intArith, shift, eqVal, bound, asNat_cast, cond_true, cond_false, BEq.rfl, beq_self_eq_true, evalParts, fillParts, AV.cells, AV.ofCells, XV.av, AV.xv, List.length_cons, List.length_nil, zeros, patch, setMany, List.nil_append, List.cons_append, Nat.ble, Nat.add_eq, Nat.zero_add, Nat.add_zero, Nat.reduceAdd, Nat.reduceMul, Nat.reduceSub, Nat.ble_eq, Nat.reduceLeDiff, Nat.reduceBEq, Int.reduceBEq, Int.reduceNeg, Bool.and_true, Bool.and_false, Bool.true_and, Bool.false_and, Bool.not_true, Bool.not_false, Bool.true_eq_false, Bool.false_eq_true, Int.reduceLT, Int.reduceLE, Int.reduceGT, Int.reduceGE, decide_true, decide_false, Bool.not_eq_true, loopN_norm, loopN_exit, tf, ft, ff, ev_dreg, dregK_nil, dregK_cons, dregE_true, dregP_some, dregX_some, d_mov, d_bin, d_eq, d_pick, d_un, d_conv, d_b2s, d_len, d_load, d_iaddr, d_slice, d_ext, d_call, d_store, chk_done, chk_none, chk_some, chkG_true, chkG_false, chkOne_nil, chkOne_cons, chkH_some, chkV_same, stage_none, stage_some, look_hit, look_miss, news_nil, wb_cons, wb_nil, skip0, List.reverse_cons, List.reverse_nil, i0, i1, i2, i3, d_idxS, u1, u2, u3, u4, v1, ls, op_faddr, p_faddr, d_faddr, op_build, p_build', p_load, AV.ofCells, evEff, d_build, ← hG2, q0, q1, q2, q3, e1, w1, w2, w3, w4, w5, w6, w7, w8, w9, w10, w11, w12, w13, w14, k1, k2, k3, Int.reduceAdd, Int.reduceBEq, a1, r3, ← hG5, c1]
  refine ⟨z', _, G6, rfl, ?_, c2, fun j hj => c4 j (by omega) (fun hz => by have := R.young j hz; omega), c3⟩
  rfl
theorem rstep_5 (c : Cf) (hc : c.ok = true) (hk : 4 * k + 4 ≤ s.length) (hs : s.length ≤ 300) (sb : ∀ j, s.getD j 0 < 256) (gc : G.get p = some (.cells (cfC c))) (hp : p < h0.next) (e0 : h0.next ≤ G.next) (R : Rows h0 G z k (stp c s))
    (hK : s.getD (4 * k) 0 % 8 = 5) (hN : 100 ≤ N) :
    ∃ z' l G', ev (evCallX table 21 37 N (d + 6)) N ir23_l0 (LocR s p z k) G = some (.norm, l, G') ∧ keepOnly ir23_k0 l = LocR s p z' (k + 1) ∧ Rows h0 G' z' (k + 1) (stp c s) ∧ (∀ j, j < h0.next → G'.get j = G.get j) ∧ G.next ≤ G'.next := by
  have ok := Cf.ok_iff.1 hc
  obtain ⟨G1, e1, x1⟩ := conf_all (N := N) (d := d + 5) (h := G) c
  rw [hc] at e1
  have n1 := x1.1
  have gc1 := x1.at_ gc (by omega)
  obtain ⟨G2, hG2⟩ : ∃ H, H = G1.new (.cells stZ) := ⟨_, rfl⟩
  have x2 : Ext G1 G2 := by rw [hG2]; exact (Ext.refl _).new _
  have n2 : G2.next = G1.next + 1 := by rw [hG2]; rfl
  have g2 : G2.get G1.next = some (.cells stZ) := by rw [hG2]; exact get_new_at
  have gc2 := x2.at_ gc1 (by omega)
  have q0 : G.read p 0 4 = some (cfC c) := read_all gc rfl
  have q1 : G2.read p 0 4 = some (cfC c) := read_all gc2 rfl
  have q2 : G2.read p 2 1 = some [.int .i64 c.shards] := read_cells gc2 rfl
  have q3 : G2.read p 3 1 = some [.int .i64 c.clients] := read_cells gc2 rfl
  obtain ⟨b0, hb0⟩ : ∃ b, b = s.getD (4 * k) 0 := ⟨_, rfl⟩
  obtain ⟨b1, hb1⟩ : ∃ b, b = s.getD (4 * k + 1) 0 := ⟨_, rfl⟩
  obtain ⟨b2, hb2⟩ : ∃ b, b = s.getD (4 * k + 2) 0 := ⟨_, rfl⟩
  obtain ⟨b3, hb3⟩ : ∃ b, b = s.getD (4 * k + 3) 0 := ⟨_, rfl⟩
  have f0 : b0 < 256 := by rw [hb0]; exact sb _
  have f1 : b1 < 256 := by rw [hb1]; exact sb _
  have f2 : b2 < 256 := by rw [hb2]; exact sb _
  have f3 : b3 < 256 := by rw [hb3]; exact sb _
  rw [← hb0] at hK
  have hst : stp c s k = ⟨2, 0, ((256 * b1 + b2 : Nat) : Int), 0, clz, []⟩ := by unfold stp stepOf; rw [← hb0, ← hb1, ← hb2, ← hb3, hK]; rfl
  have i0 : ∀ loc vals H, evPure loc (.c (.int .i64 ((4 * k : Nat) : Int)) :: .c (.str s) :: vals) H (.idxS (.val 1) (.val 0)) = some (.c (.int .u8 (b0 : Int))) := fun _ _ _ => by rw [hb0]; exact idx_str (by omega) rfl rfl
  have i1 : ∀ loc vals u H, evPure loc (.c (.int .i64 ((4 * k + 1 : Nat) : Int)) :: u :: .c (.str s) :: vals) H (.idxS (.val 2) (.val 0)) = some (.c (.int .u8 (b1 : Int))) := fun _ _ _ _ => by rw [hb1]; exact idx_str (by omega) rfl rfl
  have i2 : ∀ loc vals u H, evPure loc (.c (.int .i64 ((4 * k + 2 : Nat) : Int)) :: u :: .c (.str s) :: vals) H (.idxS (.val 2) (.val 0)) = some (.c (.int .u8 (b2 : Int))) := fun _ _ _ _ => by rw [hb2]; exact idx_str (by omega) rfl rfl
  have i3 : ∀ loc vals u H, evPure loc (.c (.int .i64 ((4 * k + 3 : Nat) : Int)) :: u :: .c (.str s) :: vals) H (.idxS (.val 2) (.val 0)) = some (.c (.int .u8 (b3 : Int))) := fun _ _ _ _ => by rw [hb3]; exact idx_str (by omega) rfl rfl
  have u1 : IntKind.i64.wrap (((4 * k : Nat) : Int) + 1) = ((4 * k + 1 : Nat) : Int) := by rw [wrapI (by omega) (by omega)]; omega
  have u2 : IntKind.i64.wrap (((4 * k : Nat) : Int) + 2) = ((4 * k + 2 : Nat) : Int) := by rw [wrapI (by omega) (by omega)]; omega
  have u3 : IntKind.i64.wrap (((4 * k : Nat) : Int) + 3) = ((4 * k + 3 : Nat) : Int) := by rw [wrapI (by omega) (by omega)]; omega
  have u4 : IntKind.i64.wrap (((4 * k : Nat) : Int) + 4) = ((4 * (k + 1) : Nat) : Int) := by rw [wrapI (by omega) (by omega)]; omega
  have v1 : decide (((4 * (k + 1) : Nat) : Int) ≤ (s.length : Int)) = true := decide_eq_true (by omega)
  have ls : ∀ loc vals H, evPure loc (.c (.str s) :: vals) H (.len .str (.val 0)) = some (.c (.int .i64 (s.length : Int))) := fun _ _ _ => rfl
  have w1 := wI f1
  have w2 := wI f2
  have w3 := wI f3
  have w4 : Int.tmod (b0 : Int) 8 = 5 := by have := tmodN b0 8; rw [hK] at this; exact this
  have w5 : IntKind.u8.wrap (Int.tdiv (b0 : Int) 8) = ((b0 / 8 : Nat) : Int) := by
    have : Int.tdiv (b0 : Int) 8 = ((b0 / 8 : Nat) : Int) := tdivN b0 8
    rw [this]; simp only [IntKind.wrap, IntKind.bits, IntKind.signed]; simp; omega
  have w6 : Int.tmod (b1 : Int) 16 = ((b1 % 16 : Nat) : Int) := tmodN b1 16
  have w7 : Int.tmod (b1 : Int) c.clients = (b1 : Int) % c.clients := Int.tmod_eq_emod_of_nonneg (by omega)
  have w8 : Int.tmod (b2 : Int) c.shards = (b2 : Int) % c.shards := Int.tmod_eq_emod_of_nonneg (by omega)
  have w9 : IntKind.i64.wrap (256 * (b1 : Int)) = 256 * (b1 : Int) := wrapI (by omega) (by omega)
  have w10 : IntKind.i64.wrap (256 * (b1 : Int) + (b2 : Int)) = ((256 * b1 + b2 : Nat) : Int) := by rw [wrapI (by omega) (by omega)]; omega
  have w11 : IntKind.i64.wrap (32 - c.shards) = 32 - c.shards := wrapI (by omega) (by omega)
  have w12 : IntKind.i64.wrap (32 - c.shards + 1) = 32 - c.shards + 1 := wrapI (by omega) (by omega)
  have w13 : Int.tmod (b3 : Int) (32 - c.shards + 1) = (b3 : Int) % (32 - c.shards + 1) := Int.tmod_eq_emod_of_nonneg (by omega)
  have w14 : IntKind.i64.wrap (c.shards + (b3 : Int) % (32 - c.shards + 1)) = c.shards + (b3 : Int) % (32 - c.shards + 1) := by
    have := Int.emod_nonneg (b3 : Int) (b := 32 - c.shards + 1) (by omega)
    have := Int.emod_lt_of_pos (b3 : Int) (b := 32 - c.shards + 1) (by omega)
    exact wrapI (by omega) (by omega)
  have k1 : (c.clients == 0) = false := by simp only [beq_eq_false_iff_ne, ne_eq]; omega
  have k2 : (c.shards == 0) = false := by simp only [beq_eq_false_iff_ne, ne_eq]; omega
  have k3 : (32 - c.shards + 1 == 0) = false := by simp only [beq_eq_false_iff_ne, ne_eq]; omega
  have xx : Ext G G2 := x1.trans x2
  obtain ⟨G4, a1, a2, a3, a4⟩ := write_all (h := G2) (i := G1.next) (z := stZ) (l := stC (⟨2, 0, ((256 * b1 + b2 : Nat) : Int), 0, clz, []⟩ : Stp) .nils .nils) g2 rfl
  simp only [clz] at a1
  have r3 : G4.read G1.next 0 11 = some (stC (⟨2, 0, ((256 * b1 + b2 : Nat) : Int), 0, clz, []⟩ : Stp) .nils .nils) := read_all a2 rfl
  simp only [clz] at r3
  obtain ⟨G5, hG5⟩ : ∃ H, H = G4.new (.cells (stC (⟨2, 0, ((256 * b1 + b2 : Nat) : Int), 0, clz, []⟩ : Stp) .nils .nils)) := ⟨_, rfl⟩
  have x4 : Ext G G4 := ⟨by rw [a4]; exact xx.1, fun j hj => (a3 j (by omega)).trans (xx.2 j hj)⟩
  obtain ⟨z', G6, c1, c2, c3, c4⟩ := add_row (h2 := G5) (x := .nils) (y := .nils) R e0 x4 (by rw [hst]; exact hG5) (by rw [hst]; exact .nil) (by rw [hst]; exact .nil) (by omega)
  simp only [clz] at hG5
  unfold ir23_l0
  simp only [enter_eq, ev_seq, seqK_norm, seqK_exit, seqK_ret, ev_reg, ev_cond, condK_true, condK_false, ev_block, blockK_norm, blockK_ret, blockK_exit, ev_loop, ev_skip, ev_exit, ev_ret, regK_cons, regK_nil, guard_none, guard_some, regG_true, regG_false, regO_some, op_mov, op_conv, op_bin, op_bsl, op_box, op_mks, op_s2b, op_pick, op_un, op_eq, op_len, op_ext, op_load, op_iaddr, op_slice, op_b2s, op_idxS, op_mx, op_mn, op_call, op_store, op_app, op_copy, args_eq, result_one', rv_loc, finish_norm, finish_ret, outK_some, keep_true, keep_false, keep_nil, p_bin, p_pick, p_un, p_eq, p_conv, evNew, pureK_some, newK_some, X.eval, set_none, set_some, List.map_cons, List.map_nil, List.getD_cons_zero, List.getD_cons_succ, List.getD_nil, List.set_cons_zero, List.set_cons_succ, binCV, unCV, isShift, intArithF_eq, shiftF_eq, wrapF_eq, intArith, shift, eqVal, bound, asNat_cast, cond_true, cond_false, BEq.rfl, beq_self_eq_true, evalParts, fillParts, AV.cells, AV.ofCells, XV.av, AV.xv, List.length_cons, List.length_nil, zeros, patch, setMany, List.nil_append, List.cons_append, Nat.ble, Nat.add_eq, Nat.zero_add, Nat.add_zero, Nat.reduceAdd, Nat.reduceMul, Nat.reduceSub, Nat.ble_eq, Nat.reduceLeDiff, Nat.reduceBEq, Int.reduceBEq, Int.reduceNeg, Bool.and_true, Bool.and_false, Bool.true_and, Bool.false_and, Bool.not_true, Bool.not_false, Bool.true_eq_false, Bool.false_eq_true, Int.reduceLT, Int.reduceLE, Int.reduceGT, Int.reduceGE, decide_true, decide_false, Bool.not_eq_true, loopN_norm, loopN_exit, tf, ft, ff, ev_dreg, dregK_nil, dregK_cons, dregE_true, dregP_some, dregX_some, d_mov, d_bin, d_eq, d_pick, d_un, d_conv, d_b2s, d_len, d_load, d_iaddr, d_slice, d_ext, d_call, d_store, chk_done, chk_none, chk_some, chkG_true, chkG_false, chkOne_nil, chkOne_cons, chkH_some, chkV_same, stage_none, stage_some, look_hit, look_miss, news_nil, wb_cons, wb_nil, skip0, List.reverse_cons, List.reverse_nil, i0, i1, i2, i3, d_idxS, u1, u2, u3, u4, v1, ls, op_faddr, p_faddr, d_faddr, op_build, p_build', p_load, AV.ofCells, evEff, d_build, ← hG2, q0, q1, q2, q3, e1, w1, w2, w3, w4, w5, w6, w7, w8, w9, w10, w11, w12, w13, w14, k1, k2, k3, Int.reduceAdd, Int.reduceBEq, a1, r3, ← hG5, c1]
  refine ⟨z', _, G6, rfl, ?_, c2, fun j hj => c4 j (by omega) (fun hz => by have := R.young j hz; omega), c3⟩
  rfl
theorem rstep_6a (c : Cf) (hc : c.ok = true) (hk : 4 * k + 4 ≤ s.length) (hs : s.length ≤ 300) (sb : ∀ j, s.getD j 0 < 256) (gc : G.get p = some (.cells (cfC c))) (hp : p < h0.next) (e0 : h0.next ≤ G.next) (R : Rows h0 G z k (stp c s))
    (hK : s.getD (4 * k) 0 % 8 = 6) (hN : 100 ≤ N) (hb : s.getD (4 * k + 2) 0 % 2 = 1) :
    ∃ z' l G', ev (evCallX table 21 37 N (d + 6)) N ir23_l0 (LocR s p z k) G = some (.norm, l, G') ∧ keepOnly ir23_k0 l = LocR s p z' (k + 1) ∧ Rows h0 G' z' (k + 1) (stp c s) ∧ (∀ j, j < h0.next → G'.get j = G.get j) ∧ G.next ≤ G'.next := by
  have ok := Cf.ok_iff.1 hc
  obtain ⟨G1, e1, x1⟩ := conf_all (N := N) (d := d + 5) (h := G) c
  rw [hc] at e1
  have n1 := x1.1
  have gc1 := x1.at_ gc (by omega)
  obtain ⟨G2, hG2⟩ : ∃ H, H = G1.new (.cells stZ) := ⟨_, rfl⟩
  have x2 : Ext G1 G2 := by rw [hG2]; exact (Ext.refl _).new _
  have n2 : G2.next = G1.next + 1 := by rw [hG2]; rfl
  have g2 : G2.get G1.next = some (.cells stZ) := by rw [hG2]; exact get_new_at
  have gc2 := x2.at_ gc1 (by omega)
  have q0 : G.read p 0 4 = some (cfC c) := read_all gc rfl
  have q1 : G2.read p 0 4 = some (cfC c) := read_all gc2 rfl
  have q2 : G2.read p 2 1 = some [.int .i64 c.shards] := read_cells gc2 rfl
  have q3 : G2.read p 3 1 = some [.int .i64 c.clients] := read_cells gc2 rfl
  obtain ⟨b0, hb0⟩ : ∃ b, b = s.getD (4 * k) 0 := ⟨_, rfl⟩
  obtain ⟨b1, hb1⟩ : ∃ b, b = s.getD (4 * k + 1) 0 := ⟨_, rfl⟩
  obtain ⟨b2, hb2⟩ : ∃ b, b = s.getD (4 * k + 2) 0 := ⟨_, rfl⟩
  obtain ⟨b3, hb3⟩ : ∃ b, b = s.getD (4 * k + 3) 0 := ⟨_, rfl⟩
  have f0 : b0 < 256 := by rw [hb0]; exact sb _
  have f1 : b1 < 256 := by rw [hb1]; exact sb _
  have f2 : b2 < 256 := by rw [hb2]; exact sb _
  have f3 : b3 < 256 := by rw [hb3]; exact sb _
  rw [← hb0] at hK
  have hst : stp c s k = ⟨5, 0, c.shards + (b3 : Int) % (32 - c.shards + 1), 0, clz, []⟩ := by unfold stp stepOf; rw [← hb0, ← hb1, ← hb2, ← hb3, hK]; rw [← hb2] at hb; simp only [stepK, if_pos hb]
  have i0 : ∀ loc vals H, evPure loc (.c (.int .i64 ((4 * k : Nat) : Int)) :: .c (.str s) :: vals) H (.idxS (.val 1) (.val 0)) = some (.c (.int .u8 (b0 : Int))) := fun _ _ _ => by rw [hb0]; exact idx_str (by omega) rfl rfl
  have i1 : ∀ loc vals u H, evPure loc (.c (.int .i64 ((4 * k + 1 : Nat) : Int)) :: u :: .c (.str s) :: vals) H (.idxS (.val 2) (.val 0)) = some (.c (.int .u8 (b1 : Int))) := fun _ _ _ _ => by rw [hb1]; exact idx_str (by omega) rfl rfl
  have i2 : ∀ loc vals u H, evPure loc (.c (.int .i64 ((4 * k + 2 : Nat) : Int)) :: u :: .c (.str s) :: vals) H (.idxS (.val 2) (.val 0)) = some (.c (.int .u8 (b2 : Int))) := fun _ _ _ _ => by rw [hb2]; exact idx_str (by omega) rfl rfl
  have i3 : ∀ loc vals u H, evPure loc (.c (.int .i64 ((4 * k + 3 : Nat) : Int)) :: u :: .c (.str s) :: vals) H (.idxS (.val 2) (.val 0)) = some (.c (.int .u8 (b3 : Int))) := fun _ _ _ _ => by rw [hb3]; exact idx_str (by omega) rfl rfl
  have u1 : IntKind.i64.wrap (((4 * k : Nat) : Int) + 1) = ((4 * k + 1 : Nat) : Int) := by rw [wrapI (by omega) (by omega)]; omega
  have u2 : IntKind.i64.wrap (((4 * k : Nat) : Int) + 2) = ((4 * k + 2 : Nat) : Int) := by rw [wrapI (by omega) (by omega)]; omega
  have u3 : IntKind.i64.wrap (((4 * k : Nat) : Int) + 3) = ((4 * k + 3 : Nat) : Int) := by rw [wrapI (by omega) (by omega)]; omega
  have u4 : IntKind.i64.wrap (((4 * k : Nat) : Int) + 4) = ((4 * (k + 1) : Nat) : Int) := by rw [wrapI (by omega) (by omega)]; omega
  have v1 : decide (((4 * (k + 1) : Nat) : Int) ≤ (s.length : Int)) = true := decide_eq_true (by omega)
  have ls : ∀ loc vals H, evPure loc (.c (.str s) :: vals) H (.len .str (.val 0)) = some (.c (.int .i64 (s.length : Int))) := fun _ _ _ => rfl
  have w1 := wI f1
  have w2 := wI f2
  have w3 := wI f3
  have w4 : Int.tmod (b0 : Int) 8 = 6 := by have := tmodN b0 8; rw [hK] at this; exact this
  have w5 : IntKind.u8.wrap (Int.tdiv (b0 : Int) 8) = ((b0 / 8 : Nat) : Int) := by
    have : Int.tdiv (b0 : Int) 8 = ((b0 / 8 : Nat) : Int) := tdivN b0 8
    rw [this]; simp only [IntKind.wrap, IntKind.bits, IntKind.signed]; simp; omega
  have w6 : Int.tmod (b1 : Int) 16 = ((b1 % 16 : Nat) : Int) := tmodN b1 16
  have w7 : Int.tmod (b1 : Int) c.clients = (b1 : Int) % c.clients := Int.tmod_eq_emod_of_nonneg (by omega)
  have w8 : Int.tmod (b2 : Int) c.shards = (b2 : Int) % c.shards := Int.tmod_eq_emod_of_nonneg (by omega)
  have w9 : IntKind.i64.wrap (256 * (b1 : Int)) = 256 * (b1 : Int) := wrapI (by omega) (by omega)
  have w10 : IntKind.i64.wrap (256 * (b1 : Int) + (b2 : Int)) = ((256 * b1 + b2 : Nat) : Int) := by rw [wrapI (by omega) (by omega)]; omega
  have w11 : IntKind.i64.wrap (32 - c.shards) = 32 - c.shards := wrapI (by omega) (by omega)
  have w12 : IntKind.i64.wrap (32 - c.shards + 1) = 32 - c.shards + 1 := wrapI (by omega) (by omega)
  have w13 : Int.tmod (b3 : Int) (32 - c.shards + 1) = (b3 : Int) % (32 - c.shards + 1) := Int.tmod_eq_emod_of_nonneg (by omega)
  have w14 : IntKind.i64.wrap (c.shards + (b3 : Int) % (32 - c.shards + 1)) = c.shards + (b3 : Int) % (32 - c.shards + 1) := by
    have := Int.emod_nonneg (b3 : Int) (b := 32 - c.shards + 1) (by omega)
    have := Int.emod_lt_of_pos (b3 : Int) (b := 32 - c.shards + 1) (by omega)
    exact wrapI (by omega) (by omega)
  have k1 : (c.clients == 0) = false := by simp only [beq_eq_false_iff_ne, ne_eq]; omega
  have k2 : (c.shards == 0) = false := by simp only [beq_eq_false_iff_ne, ne_eq]; omega
  have k3 : (32 - c.shards + 1 == 0) = false := by simp only [beq_eq_false_iff_ne, ne_eq]; omega
  have xx : Ext G G2 := x1.trans x2
  have v2 : IntKind.u8.wrap ((BitVec.ofInt IntKind.u8.bits (b2 : Int) &&& BitVec.ofInt IntKind.u8.bits 1).toNat : Int) = 1 := by
    have e := low1 b2 f2
    have hb' : b2 % 2 = 1 := by rw [hb2]; exact hb
    rw [hb'] at e
    exact e
  obtain ⟨G4, a1, a2, a3, a4⟩ := write_all (h := G2) (i := G1.next) (z := stZ) (l := stC (⟨5, 0, c.shards + (b3 : Int) % (32 - c.shards + 1), 0, clz, []⟩ : Stp) .nils .nils) g2 rfl
  simp only [clz] at a1
  have r3 : G4.read G1.next 0 11 = some (stC (⟨5, 0, c.shards + (b3 : Int) % (32 - c.shards + 1), 0, clz, []⟩ : Stp) .nils .nils) := read_all a2 rfl
  simp only [clz] at r3
  obtain ⟨G5, hG5⟩ : ∃ H, H = G4.new (.cells (stC (⟨5, 0, c.shards + (b3 : Int) % (32 - c.shards + 1), 0, clz, []⟩ : Stp) .nils .nils)) := ⟨_, rfl⟩
  have x4 : Ext G G4 := ⟨by rw [a4]; exact xx.1, fun j hj => (a3 j (by omega)).trans (xx.2 j hj)⟩
  obtain ⟨z', G6, c1, c2, c3, c4⟩ := add_row (h2 := G5) (x := .nils) (y := .nils) R e0 x4 (by rw [hst]; exact hG5) (by rw [hst]; exact .nil) (by rw [hst]; exact .nil) (by omega)
  simp only [clz] at hG5
  unfold ir23_l0
  simp only [enter_eq, ev_seq, seqK_norm, seqK_exit, seqK_ret, ev_reg, ev_cond, condK_true, condK_false, ev_block, blockK_norm, blockK_ret, blockK_exit, ev_loop, ev_skip, ev_exit, ev_ret, regK_cons, regK_nil, guard_none, guard_some, regG_true, regG_false, regO_some, op_mov, op_conv, op_bin, op_bsl, op_box, op_mks, op_s2b, op_pick, op_un, op_eq, op_len, op_ext, op_load, op_iaddr, op_slice, op_b2s, op_idxS, op_mx, op_mn, op_call, op_store, op_app, op_copy, args_eq, result_one', rv_loc, finish_norm, finish_ret, outK_some, keep_true, keep_false, keep_nil, p_bin, p_pick, p_un, p_eq, p_conv, evNew, pureK_some, newK_some, X.eval, set_none, set_some, List.map_cons, List.map_nil, List.getD_cons_zero, List.getD_cons_succ, List.getD_nil, List.set_cons_zero, List.set_cons_succ, binCV, unCV, isShift, intArithF_eq, shiftF_eq, wrapF_eq, intArith, shift, eqVal, bound, asNat_cast, cond_true, cond_false, BEq.rfl, beq_self_eq_true, evalParts, fillParts, AV.cells, AV.ofCells, XV.av, AV.xv, List.length_cons, List.length_nil, zeros, patch, setMany, List.nil_append, List.cons_append, Nat.ble, Nat.add_eq, Nat.zero_add, Nat.add_zero, Nat.reduceAdd, Nat.reduceMul, Nat.reduceSub, Nat.ble_eq, Nat.reduceLeDiff, Nat.reduceBEq, Int.reduceBEq, Int.reduceNeg, Bool.and_true, Bool.and_false, Bool.true_and, Bool.false_and, Bool.not_true, Bool.not_false, Bool.true_eq_false, Bool.false_eq_true, Int.reduceLT, Int.reduceLE, Int.reduceGT, Int.reduceGE, decide_true, decide_false, Bool.not_eq_true, loopN_norm, loopN_exit, tf, ft, ff, ev_dreg, dregK_nil, dregK_cons, dregE_true, dregP_some, dregX_some, d_mov, d_bin, d_eq, d_pick, d_un, d_conv, d_b2s, d_len, d_load, d_iaddr, d_slice, d_ext, d_call, d_store, chk_done, chk_none, chk_some, chkG_true, chkG_false, chkOne_nil, chkOne_cons, chkH_some, chkV_same, stage_none, stage_some, look_hit, look_miss, news_nil, wb_cons, wb_nil, skip0, List.reverse_cons, List.reverse_nil, i0, i1, i2, i3, d_idxS, u1, u2, u3, u4, v1, ls, op_faddr, p_faddr, d_faddr, op_build, p_build', p_load, AV.ofCells, evEff, d_build, ← hG2, q0, q1, q2, q3, e1, w1, w2, w3, w4, w5, w6, w7, w8, w9, w10, w11, w12, w13, w14, k1, k2, k3, Int.reduceAdd, Int.reduceBEq, a1, r3, ← hG5, c1, v2]
  refine ⟨z', _, G6, rfl, ?_, c2, fun j hj => c4 j (by omega) (fun hz => by have := R.young j hz; omega), c3⟩
  rfl
theorem rstep_6b (c : Cf) (hc : c.ok = true) (hk : 4 * k + 4 ≤ s.length) (hs : s.length ≤ 300) (sb : ∀ j, s.getD j 0 < 256) (gc : G.get p = some (.cells (cfC c))) (hp : p < h0.next) (e0 : h0.next ≤ G.next) (R : Rows h0 G z k (stp c s))
    (hK : s.getD (4 * k) 0 % 8 = 6) (hN : 100 ≤ N) (hb : s.getD (4 * k + 2) 0 % 2 = 0) :
    ∃ z' l G', ev (evCallX table 21 37 N (d + 6)) N ir23_l0 (LocR s p z k) G = some (.norm, l, G') ∧ keepOnly ir23_k0 l = LocR s p z' (k + 1) ∧ Rows h0 G' z' (k + 1) (stp c s) ∧ (∀ j, j < h0.next → G'.get j = G.get j) ∧ G.next ≤ G'.next := by
  have ok := Cf.ok_iff.1 hc
  obtain ⟨G1, e1, x1⟩ := conf_all (N := N) (d := d + 5) (h := G) c
  rw [hc] at e1
  have n1 := x1.1
  have gc1 := x1.at_ gc (by omega)
  obtain ⟨G2, hG2⟩ : ∃ H, H = G1.new (.cells stZ) := ⟨_, rfl⟩
  have x2 : Ext G1 G2 := by rw [hG2]; exact (Ext.refl _).new _
  have n2 : G2.next = G1.next + 1 := by rw [hG2]; rfl
  have g2 : G2.get G1.next = some (.cells stZ) := by rw [hG2]; exact get_new_at
  have gc2 := x2.at_ gc1 (by omega)
  have q0 : G.read p 0 4 = some (cfC c) := read_all gc rfl
  have q1 : G2.read p 0 4 = some (cfC c) := read_all gc2 rfl
  have q2 : G2.read p 2 1 = some [.int .i64 c.shards] := read_cells gc2 rfl
  have q3 : G2.read p 3 1 = some [.int .i64 c.clients] := read_cells gc2 rfl
  obtain ⟨b0, hb0⟩ : ∃ b, b = s.getD (4 * k) 0 := ⟨_, rfl⟩
  obtain ⟨b1, hb1⟩ : ∃ b, b = s.getD (4 * k + 1) 0 := ⟨_, rfl⟩
  obtain ⟨b2, hb2⟩ : ∃ b, b = s.getD (4 * k + 2) 0 := ⟨_, rfl⟩
  obtain ⟨b3, hb3⟩ : ∃ b, b = s.getD (4 * k + 3) 0 := ⟨_, rfl⟩
  have f0 : b0 < 256 := by rw [hb0]; exact sb _
  have f1 : b1 < 256 := by rw [hb1]; exact sb _
  have f2 : b2 < 256 := by rw [hb2]; exact sb _
  have f3 : b3 < 256 := by rw [hb3]; exact sb _
  rw [← hb0] at hK
  have hst : stp c s k = ⟨3, 0, ((b1 % 16 : Nat) : Int), 0, clz, []⟩ := by unfold stp stepOf; rw [← hb0, ← hb1, ← hb2, ← hb3, hK]; rw [← hb2] at hb; simp only [stepK, hb, show ¬ (0 : Nat) = 1 by decide, if_false]
  have i0 : ∀ loc vals H, evPure loc (.c (.int .i64 ((4 * k : Nat) : Int)) :: .c (.str s) :: vals) H (.idxS (.val 1) (.val 0)) = some (.c (.int .u8 (b0 : Int))) := fun _ _ _ => by rw [hb0]; exact idx_str (by omega) rfl rfl
  have i1 : ∀ loc vals u H, evPure loc (.c (.int .i64 ((4 * k + 1 : Nat) : Int)) :: u :: .c (.str s) :: vals) H (.idxS (.val 2) (.val 0)) = some (.c (.int .u8 (b1 : Int))) := fun _ _ _ _ => by rw [hb1]; exact idx_str (by omega) rfl rfl
  have i2 : ∀ loc vals u H, evPure loc (.c (.int .i64 ((4 * k + 2 : Nat) : Int)) :: u :: .c (.str s) :: vals) H (.idxS (.val 2) (.val 0)) = some (.c (.int .u8 (b2 : Int))) := fun _ _ _ _ => by rw [hb2]; exact idx_str (by omega) rfl rfl
  have i3 : ∀ loc vals u H, evPure loc (.c (.int .i64 ((4 * k + 3 : Nat) : Int)) :: u :: .c (.str s) :: vals) H (.idxS (.val 2) (.val 0)) = some (.c (.int .u8 (b3 : Int))) := fun _ _ _ _ => by rw [hb3]; exact idx_str (by omega) rfl rfl
  have u1 : IntKind.i64.wrap (((4 * k : Nat) : Int) + 1) = ((4 * k + 1 : Nat) : Int) := by rw [wrapI (by omega) (by omega)]; omega
  have u2 : IntKind.i64.wrap (((4 * k : Nat) : Int) + 2) = ((4 * k + 2 : Nat) : Int) := by rw [wrapI (by omega) (by omega)]; omega
  have u3 : IntKind.i64.wrap (((4 * k : Nat) : Int) + 3) = ((4 * k + 3 : Nat) : Int) := by rw [wrapI (by omega) (by omega)]; omega
  have u4 : IntKind.i64.wrap (((4 * k : Nat) : Int) + 4) = ((4 * (k + 1) : Nat) : Int) := by rw [wrapI (by omega) (by omega)]; omega
  have v1 : decide (((4 * (k + 1) : Nat) : Int) ≤ (s.length : Int)) = true := decide_eq_true (by omega)
  have ls : ∀ loc vals H, evPure loc (.c (.str s) :: vals) H (.len .str (.val 0)) = some (.c (.int .i64 (s.length : Int))) := fun _ _ _ => rfl
  have w1 := wI f1
  have w2 := wI f2
  have w3 := wI f3
  have w4 : Int.tmod (b0 : Int) 8 = 6 := by have := tmodN b0 8; rw [hK] at this; exact this
  have w5 : IntKind.u8.wrap (Int.tdiv (b0 : Int) 8) = ((b0 / 8 : Nat) : Int) := by
    have : Int.tdiv (b0 : Int) 8 = ((b0 / 8 : Nat) : Int) := tdivN b0 8
    rw [this]; simp only [IntKind.wrap, IntKind.bits, IntKind.signed]; simp; omega
  have w6 : Int.tmod (b1 : Int) 16 = ((b1 % 16 : Nat) : Int) := tmodN b1 16
  have w7 : Int.tmod (b1 : Int) c.clients = (b1 : Int) % c.clients := Int.tmod_eq_emod_of_nonneg (by omega)
  have w8 : Int.tmod (b2 : Int) c.shards = (b2 : Int) % c.shards := Int.tmod_eq_emod_of_nonneg (by omega)
  have w9 : IntKind.i64.wrap (256 * (b1 : Int)) = 256 * (b1 : Int) := wrapI (by omega) (by omega)
  have w10 : IntKind.i64.wrap (256 * (b1 : Int) + (b2 : Int)) = ((256 * b1 + b2 : Nat) : Int) := by rw [wrapI (by omega) (by omega)]; omega
  have w11 : IntKind.i64.wrap (32 - c.shards) = 32 - c.shards := wrapI (by omega) (by omega)
  have w12 : IntKind.i64.wrap (32 - c.shards + 1) = 32 - c.shards + 1 := wrapI (by omega) (by omega)
  have w13 : Int.tmod (b3 : Int) (32 - c.shards + 1) = (b3 : Int) % (32 - c.shards + 1) := Int.tmod_eq_emod_of_nonneg (by omega)
  have w14 : IntKind.i64.wrap (c.shards + (b3 : Int) % (32 - c.shards + 1)) = c.shards + (b3 : Int) % (32 - c.shards + 1) := by
    have := Int.emod_nonneg (b3 : Int) (b := 32 - c.shards + 1) (by omega)
    have := Int.emod_lt_of_pos (b3 : Int) (b := 32 - c.shards + 1) (by omega)
    exact wrapI (by omega) (by omega)
  have k1 : (c.clients == 0) = false := by simp only [beq_eq_false_iff_ne, ne_eq]; omega
  have k2 : (c.shards == 0) = false := by simp only [beq_eq_false_iff_ne, ne_eq]; omega
  have k3 : (32 - c.shards + 1 == 0) = false := by simp only [beq_eq_false_iff_ne, ne_eq]; omega
  have xx : Ext G G2 := x1.trans x2
  have v2 : IntKind.u8.wrap ((BitVec.ofInt IntKind.u8.bits (b2 : Int) &&& BitVec.ofInt IntKind.u8.bits 1).toNat : Int) = 0 := by
    have e := low1 b2 f2
    have hb' : b2 % 2 = 0 := by rw [hb2]; exact hb
    rw [hb'] at e
    exact e
  obtain ⟨G4, a1, a2, a3, a4⟩ := write_all (h := G2) (i := G1.next) (z := stZ) (l := stC (⟨3, 0, ((b1 % 16 : Nat) : Int), 0, clz, []⟩ : Stp) .nils .nils) g2 rfl
  simp only [clz] at a1
  have r3 : G4.read G1.next 0 11 = some (stC (⟨3, 0, ((b1 % 16 : Nat) : Int), 0, clz, []⟩ : Stp) .nils .nils) := read_all a2 rfl
  simp only [clz] at r3
  obtain ⟨G5, hG5⟩ : ∃ H, H = G4.new (.cells (stC (⟨3, 0, ((b1 % 16 : Nat) : Int), 0, clz, []⟩ : Stp) .nils .nils)) := ⟨_, rfl⟩
  have x4 : Ext G G4 := ⟨by rw [a4]; exact xx.1, fun j hj => (a3 j (by omega)).trans (xx.2 j hj)⟩
  obtain ⟨z', G6, c1, c2, c3, c4⟩ := add_row (h2 := G5) (x := .nils) (y := .nils) R e0 x4 (by rw [hst]; exact hG5) (by rw [hst]; exact .nil) (by rw [hst]; exact .nil) (by omega)
  simp only [clz] at hG5
  unfold ir23_l0
  simp only [enter_eq, ev_seq, seqK_norm, seqK_exit, seqK_ret, ev_reg, ev_cond, condK_true, condK_false, ev_block, blockK_norm, blockK_ret, blockK_exit, ev_loop, ev_skip, ev_exit, ev_ret, regK_cons, regK_nil, guard_none, guard_some, regG_true, regG_false, regO_some, op_mov, op_conv, op_bin, op_bsl, op_box, op_mks, op_s2b, op_pick, op_un, op_eq, op_len, op_ext, op_load, op_iaddr, op_slice, op_b2s, op_idxS, op_mx, op_mn, op_call, op_store, op_app, op_copy, args_eq, result_one', rv_loc, finish_norm, finish_ret, outK_some, keep_true, keep_false, keep_nil, p_bin, p_pick, p_un, p_eq, p_conv, evNew, pureK_some, newK_some, X.eval, set_none, set_some, List.map_cons, List.map_nil, List.getD_cons_zero, List.getD_cons_succ, List.getD_nil, List.set_cons_zero, List.set_cons_succ, binCV, unCV, isShift, intArithF_eq, shiftF_eq, wrapF_eq, intArith, shift, eqVal, bound, asNat_cast, cond_true, cond_false, BEq.rfl, beq_self_eq_true, evalParts, fillParts, AV.cells, AV.ofCells, XV.av, AV.xv, List.length_cons, List.length_nil, zeros, patch, setMany, List.nil_append, List.cons_append, Nat.ble, Nat.add_eq, Nat.zero_add, Nat.add_zero, Nat.reduceAdd, Nat.reduceMul, Nat.reduceSub, Nat.ble_eq, Nat.reduceLeDiff, Nat.reduceBEq, Int.reduceBEq, Int.reduceNeg, Bool.and_true, Bool.and_false, Bool.true_and, Bool.false_and, Bool.not_true, Bool.not_false, Bool.true_eq_false, Bool.false_eq_true, Int.reduceLT, Int.reduceLE, Int.reduceGT, Int.reduceGE, decide_true, decide_false, Bool.not_eq_true, loopN_norm, loopN_exit, tf, ft, ff, ev_dreg, dregK_nil, dregK_cons, dregE_true, dregP_some, dregX_some, d_mov, d_bin, d_eq, d_pick, d_un, d_conv, d_b2s, d_len, d_load, d_iaddr, d_slice, d_ext, d_call, d_store, chk_done, chk_none, chk_some, chkG_true, chkG_false, chkOne_nil, chkOne_cons, chkH_some, chkV_same, stage_none, stage_some, look_hit, look_miss, news_nil, wb_cons, wb_nil, skip0, List.reverse_cons, List.reverse_nil, i0, i1, i2, i3, d_idxS, u1, u2, u3, u4, v1, ls, op_faddr, p_faddr, d_faddr, op_build, p_build', p_load, AV.ofCells, evEff, d_build, ← hG2, q0, q1, q2, q3, e1, w1, w2, w3, w4, w5, w6, w7, w8, w9, w10, w11, w12, w13, w14, k1, k2, k3, Int.reduceAdd, Int.reduceBEq, a1, r3, ← hG5, c1, v2]
  refine ⟨z', _, G6, rfl, ?_, c2, fun j hj => c4 j (by omega) (fun hz => by have := R.young j hz; omega), c3⟩
  rfl
theorem rstep_7b (c : Cf) (hc : c.ok = true) (hk : 4 * k + 4 ≤ s.length) (hs : s.length ≤ 300) (sb : ∀ j, s.getD j 0 < 256) (gc : G.get p = some (.cells (cfC c))) (hp : p < h0.next) (e0 : h0.next ≤ G.next) (R : Rows h0 G z k (stp c s))
    (hK : s.getD (4 * k) 0 % 8 = 7) (hN : 100 ≤ N) (hb : s.getD (4 * k + 1) 0 ≠ 255) :
    ∃ z' l G', ev (evCallX table 21 37 N (d + 6)) N ir23_l0 (LocR s p z k) G = some (.norm, l, G') ∧ keepOnly ir23_k0 l = LocR s p z' (k + 1) ∧ Rows h0 G' z' (k + 1) (stp c s) ∧ (∀ j, j < h0.next → G'.get j = G.get j) ∧ G.next ≤ G'.next := by
  have ok := Cf.ok_iff.1 hc
  obtain ⟨G1, e1, x1⟩ := conf_all (N := N) (d := d + 5) (h := G) c
  rw [hc] at e1
  have n1 := x1.1
  have gc1 := x1.at_ gc (by omega)
  obtain ⟨G2, hG2⟩ : ∃ H, H = G1.new (.cells stZ) := ⟨_, rfl⟩
  have x2 : Ext G1 G2 := by rw [hG2]; exact (Ext.refl _).new _
  have n2 : G2.next = G1.next + 1 := by rw [hG2]; rfl
  have g2 : G2.get G1.next = some (.cells stZ) := by rw [hG2]; exact get_new_at
  have gc2 := x2.at_ gc1 (by omega)
  have q0 : G.read p 0 4 = some (cfC c) := read_all gc rfl
  have q1 : G2.read p 0 4 = some (cfC c) := read_all gc2 rfl
  have q2 : G2.read p 2 1 = some [.int .i64 c.shards] := read_cells gc2 rfl
  have q3 : G2.read p 3 1 = some [.int .i64 c.clients] := read_cells gc2 rfl
  obtain ⟨b0, hb0⟩ : ∃ b, b = s.getD (4 * k) 0 := ⟨_, rfl⟩
  obtain ⟨b1, hb1⟩ : ∃ b, b = s.getD (4 * k + 1) 0 := ⟨_, rfl⟩
  obtain ⟨b2, hb2⟩ : ∃ b, b = s.getD (4 * k + 2) 0 := ⟨_, rfl⟩
  obtain ⟨b3, hb3⟩ : ∃ b, b = s.getD (4 * k + 3) 0 := ⟨_, rfl⟩
  have f0 : b0 < 256 := by rw [hb0]; exact sb _
  have f1 : b1 < 256 := by rw [hb1]; exact sb _
  have f2 : b2 < 256 := by rw [hb2]; exact sb _
  have f3 : b3 < 256 := by rw [hb3]; exact sb _
  rw [← hb0] at hK
  have hst : stp c s k = ⟨6, 0, ((b1 % 16 : Nat) : Int), (b2 : Int) % c.shards, clz, []⟩ := by unfold stp stepOf; rw [← hb0, ← hb1, ← hb2, ← hb3, hK]; rw [← hb1] at hb; simp only [stepK, if_neg hb]
  have i0 : ∀ loc vals H, evPure loc (.c (.int .i64 ((4 * k : Nat) : Int)) :: .c (.str s) :: vals) H (.idxS (.val 1) (.val 0)) = some (.c (.int .u8 (b0 : Int))) := fun _ _ _ => by rw [hb0]; exact idx_str (by omega) rfl rfl
  have i1 : ∀ loc vals u H, evPure loc (.c (.int .i64 ((4 * k + 1 : Nat) : Int)) :: u :: .c (.str s) :: vals) H (.idxS (.val 2) (.val 0)) = some (.c (.int .u8 (b1 : Int))) := fun _ _ _ _ => by rw [hb1]; exact idx_str (by omega) rfl rfl
  have i2 : ∀ loc vals u H, evPure loc (.c (.int .i64 ((4 * k + 2 : Nat) : Int)) :: u :: .c (.str s) :: vals) H (.idxS (.val 2) (.val 0)) = some (.c (.int .u8 (b2 : Int))) := fun _ _ _ _ => by rw [hb2]; exact idx_str (by omega) rfl rfl
  have i3 : ∀ loc vals u H, evPure loc (.c (.int .i64 ((4 * k + 3 : Nat) : Int)) :: u :: .c (.str s) :: vals) H (.idxS (.val 2) (.val 0)) = some (.c (.int .u8 (b3 : Int))) := fun _ _ _ _ => by rw [hb3]; exact idx_str (by omega) rfl rfl
  have u1 : IntKind.i64.wrap (((4 * k : Nat) : Int) + 1) = ((4 * k + 1 : Nat) : Int) := by rw [wrapI (by omega) (by omega)]; omega
  have u2 : IntKind.i64.wrap (((4 * k : Nat) : Int) + 2) = ((4 * k + 2 : Nat) : Int) := by rw [wrapI (by omega) (by omega)]; omega
  have u3 : IntKind.i64.wrap (((4 * k : Nat) : Int) + 3) = ((4 * k + 3 : Nat) : Int) := by rw [wrapI (by omega) (by omega)]; omega
  have u4 : IntKind.i64.wrap (((4 * k : Nat) : Int) + 4) = ((4 * (k + 1) : Nat) : Int) := by rw [wrapI (by omega) (by omega)]; omega
  have v1 : decide (((4 * (k + 1) : Nat) : Int) ≤ (s.length : Int)) = true := decide_eq_true (by omega)
  have ls : ∀ loc vals H, evPure loc (.c (.str s) :: vals) H (.len .str (.val 0)) = some (.c (.int .i64 (s.length : Int))) := fun _ _ _ => rfl
  have w1 := wI f1
  have w2 := wI f2
  have w3 := wI f3
  have w4 : Int.tmod (b0 : Int) 8 = 7 := by have := tmodN b0 8; rw [hK] at this; exact this
  have w5 : IntKind.u8.wrap (Int.tdiv (b0 : Int) 8) = ((b0 / 8 : Nat) : Int) := by
    have : Int.tdiv (b0 : Int) 8 = ((b0 / 8 : Nat) : Int) := tdivN b0 8
    rw [this]; simp only [IntKind.wrap, IntKind.bits, IntKind.signed]; simp; omega
  have w6 : Int.tmod (b1 : Int) 16 = ((b1 % 16 : Nat) : Int) := tmodN b1 16
  have w7 : Int.tmod (b1 : Int) c.clients = (b1 : Int) % c.clients := Int.tmod_eq_emod_of_nonneg (by omega)
  have w8 : Int.tmod (b2 : Int) c.shards = (b2 : Int) % c.shards := Int.tmod_eq_emod_of_nonneg (by omega)
  have w9 : IntKind.i64.wrap (256 * (b1 : Int)) = 256 * (b1 : Int) := wrapI (by omega) (by omega)
  have w10 : IntKind.i64.wrap (256 * (b1 : Int) + (b2 : Int)) = ((256 * b1 + b2 : Nat) : Int) := by rw [wrapI (by omega) (by omega)]; omega
  have w11 : IntKind.i64.wrap (32 - c.shards) = 32 - c.shards := wrapI (by omega) (by omega)
  have w12 : IntKind.i64.wrap (32 - c.shards + 1) = 32 - c.shards + 1 := wrapI (by omega) (by omega)
  have w13 : Int.tmod (b3 : Int) (32 - c.shards + 1) = (b3 : Int) % (32 - c.shards + 1) := Int.tmod_eq_emod_of_nonneg (by omega)
  have w14 : IntKind.i64.wrap (c.shards + (b3 : Int) % (32 - c.shards + 1)) = c.shards + (b3 : Int) % (32 - c.shards + 1) := by
    have := Int.emod_nonneg (b3 : Int) (b := 32 - c.shards + 1) (by omega)
    have := Int.emod_lt_of_pos (b3 : Int) (b := 32 - c.shards + 1) (by omega)
    exact wrapI (by omega) (by omega)
  have k1 : (c.clients == 0) = false := by simp only [beq_eq_false_iff_ne, ne_eq]; omega
  have k2 : (c.shards == 0) = false := by simp only [beq_eq_false_iff_ne, ne_eq]; omega
  have k3 : (32 - c.shards + 1 == 0) = false := by simp only [beq_eq_false_iff_ne, ne_eq]; omega
  have xx : Ext G G2 := x1.trans x2
  have v2 : ((b1 : Int) == 255) = false := by rw [← hb1] at hb; simp only [beq_eq_false_iff_ne, ne_eq]; omega
  obtain ⟨G4, a1, a2, a3, a4⟩ := write_all (h := G2) (i := G1.next) (z := stZ) (l := stC (⟨6, 0, ((b1 % 16 : Nat) : Int), (b2 : Int) % c.shards, clz, []⟩ : Stp) .nils .nils) g2 rfl
  simp only [clz] at a1
  have r3 : G4.read G1.next 0 11 = some (stC (⟨6, 0, ((b1 % 16 : Nat) : Int), (b2 : Int) % c.shards, clz, []⟩ : Stp) .nils .nils) := read_all a2 rfl
  simp only [clz] at r3
  obtain ⟨G5, hG5⟩ : ∃ H, H = G4.new (.cells (stC (⟨6, 0, ((b1 % 16 : Nat) : Int), (b2 : Int) % c.shards, clz, []⟩ : Stp) .nils .nils)) := ⟨_, rfl⟩
  have x4 : Ext G G4 := ⟨by rw [a4]; exact xx.1, fun j hj => (a3 j (by omega)).trans (xx.2 j hj)⟩
  obtain ⟨z', G6, c1, c2, c3, c4⟩ := add_row (h2 := G5) (x := .nils) (y := .nils) R e0 x4 (by rw [hst]; exact hG5) (by rw [hst]; exact .nil) (by rw [hst]; exact .nil) (by omega)
  simp only [clz] at hG5
  unfold ir23_l0
  simp only [enter_eq, ev_seq, seqK_norm, seqK_exit, seqK_ret, ev_reg, ev_cond, condK_true, condK_false, ev_block, blockK_norm, blockK_ret, blockK_exit, ev_loop, ev_skip, ev_exit, ev_ret, regK_cons, regK_nil, guard_none, guard_some, regG_true, regG_false, regO_some, op_mov, op_conv, op_bin, op_bsl, op_box, op_mks, op_s2b, op_pick, op_un, op_eq, op_len, op_ext, op_load, op_iaddr, op_slice, op_b2s, op_idxS, op_mx, op_mn, op_call, op_store, op_app, op_copy, args_eq, result_one', rv_loc, finish_norm, finish_ret, outK_some, keep_true, keep_false, keep_nil, p_bin, p_pick, p_un, p_eq, p_conv, evNew, pureK_some, newK_some, X.eval, set_none, set_some, List.map_cons, List.map_nil, List.getD_cons_zero, List.getD_cons_succ, List.getD_nil, List.set_cons_zero, List.set_cons_succ, binCV, unCV, isShift, intArithF_eq, shiftF_eq, wrapF_eq, intArith, shift, eqVal, bound, asNat_cast, cond_true, cond_false, BEq.rfl, beq_self_eq_true, evalParts, fillParts, AV.cells, AV.ofCells, XV.av, AV.xv, List.length_cons, List.length_nil, zeros, patch, setMany, List.nil_append, List.cons_append, Nat.ble, Nat.add_eq, Nat.zero_add, Nat.add_zero, Nat.reduceAdd, Nat.reduceMul, Nat.reduceSub, Nat.ble_eq, Nat.reduceLeDiff, Nat.reduceBEq, Int.reduceBEq, Int.reduceNeg, Bool.and_true, Bool.and_false, Bool.true_and, Bool.false_and, Bool.not_true, Bool.not_false, Bool.true_eq_false, Bool.false_eq_true, Int.reduceLT, Int.reduceLE, Int.reduceGT, Int.reduceGE, decide_true, decide_false, Bool.not_eq_true, loopN_norm, loopN_exit, tf, ft, ff, ev_dreg, dregK_nil, dregK_cons, dregE_true, dregP_some, dregX_some, d_mov, d_bin, d_eq, d_pick, d_un, d_conv, d_b2s, d_len, d_load, d_iaddr, d_slice, d_ext, d_call, d_store, chk_done, chk_none, chk_some, chkG_true, chkG_false, chkOne_nil, chkOne_cons, chkH_some, chkV_same, stage_none, stage_some, look_hit, look_miss, news_nil, wb_cons, wb_nil, skip0, List.reverse_cons, List.reverse_nil, i0, i1, i2, i3, d_idxS, u1, u2, u3, u4, v1, ls, op_faddr, p_faddr, d_faddr, op_build, p_build', p_load, AV.ofCells, evEff, d_build, ← hG2, q0, q1, q2, q3, e1, w1, w2, w3, w4, w5, w6, w7, w8, w9, w10, w11, w12, w13, w14, k1, k2, k3, Int.reduceAdd, Int.reduceBEq, a1, r3, ← hG5, c1, v2]
  refine ⟨z', _, G6, rfl, ?_, c2, fun j hj => c4 j (by omega) (fun hz => by have := R.young j hz; omega), c3⟩
  rfl
theorem rstep_7a (c : Cf) (hc : c.ok = true) (hk : 4 * k + 4 ≤ s.length) (hs : s.length ≤ 300) (sb : ∀ j, s.getD j 0 < 256) (gc : G.get p = some (.cells (cfC c))) (hp : p < h0.next) (e0 : h0.next ≤ G.next) (R : Rows h0 G z k (stp c s))
    (hK : s.getD (4 * k) 0 % 8 = 7) (hN : 100 ≤ N) (hb : s.getD (4 * k + 1) 0 = 255) :
    ∃ z' l G', ev (evCallX table 21 37 N (d + 6)) N ir23_l0 (LocR s p z k) G = some (.norm, l, G') ∧ keepOnly ir23_k0 l = LocR s p z' (k + 1) ∧ Rows h0 G' z' (k + 1) (stp c s) ∧ (∀ j, j < h0.next → G'.get j = G.get j) ∧ G.next ≤ G'.next := by
  have ok := Cf.ok_iff.1 hc
  obtain ⟨G1, e1, x1⟩ := conf_all (N := N) (d := d + 5) (h := G) c
  rw [hc] at e1
  have n1 := x1.1
  have gc1 := x1.at_ gc (by omega)
  obtain ⟨G2, hG2⟩ : ∃ H, H = G1.new (.cells stZ) := ⟨_, rfl⟩
  have x2 : Ext G1 G2 := by rw [hG2]; exact (Ext.refl _).new _
  have n2 : G2.next = G1.next + 1 := by rw [hG2]; rfl
  have g2 : G2.get G1.next = some (.cells stZ) := by rw [hG2]; exact get_new_at
  have gc2 := x2.at_ gc1 (by omega)
  have q0 : G.read p 0 4 = some (cfC c) := read_all gc rfl
  have q1 : G2.read p 0 4 = some (cfC c) := read_all gc2 rfl
  have q2 : G2.read p 2 1 = some [.int .i64 c.shards] := read_cells gc2 rfl
  have q3 : G2.read p 3 1 = some [.int .i64 c.clients] := read_cells gc2 rfl
  obtain ⟨b0, hb0⟩ : ∃ b, b = s.getD (4 * k) 0 := ⟨_, rfl⟩
  obtain ⟨b1, hb1⟩ : ∃ b, b = s.getD (4 * k + 1) 0 := ⟨_, rfl⟩
  obtain ⟨b2, hb2⟩ : ∃ b, b = s.getD (4 * k + 2) 0 := ⟨_, rfl⟩
  obtain ⟨b3, hb3⟩ : ∃ b, b = s.getD (4 * k + 3) 0 := ⟨_, rfl⟩
  have f0 : b0 < 256 := by rw [hb0]; exact sb _
  have f1 : b1 < 256 := by rw [hb1]; exact sb _
  have f2 : b2 < 256 := by rw [hb2]; exact sb _
  have f3 : b3 < 256 := by rw [hb3]; exact sb _
  rw [← hb0] at hK
  have hst : stp c s k = ⟨4, 0, 0, 0, clz, [b2, b3]⟩ := by unfold stp stepOf; rw [← hb0, ← hb1, ← hb2, ← hb3, hK]; rw [← hb1] at hb; simp only [stepK, if_pos hb]
  have i0 : ∀ loc vals H, evPure loc (.c (.int .i64 ((4 * k : Nat) : Int)) :: .c (.str s) :: vals) H (.idxS (.val 1) (.val 0)) = some (.c (.int .u8 (b0 : Int))) := fun _ _ _ => by rw [hb0]; exact idx_str (by omega) rfl rfl
  have i1 : ∀ loc vals u H, evPure loc (.c (.int .i64 ((4 * k + 1 : Nat) : Int)) :: u :: .c (.str s) :: vals) H (.idxS (.val 2) (.val 0)) = some (.c (.int .u8 (b1 : Int))) := fun _ _ _ _ => by rw [hb1]; exact idx_str (by omega) rfl rfl
  have i2 : ∀ loc vals u H, evPure loc (.c (.int .i64 ((4 * k + 2 : Nat) : Int)) :: u :: .c (.str s) :: vals) H (.idxS (.val 2) (.val 0)) = some (.c (.int .u8 (b2 : Int))) := fun _ _ _ _ => by rw [hb2]; exact idx_str (by omega) rfl rfl
  have i3 : ∀ loc vals u H, evPure loc (.c (.int .i64 ((4 * k + 3 : Nat) : Int)) :: u :: .c (.str s) :: vals) H (.idxS (.val 2) (.val 0)) = some (.c (.int .u8 (b3 : Int))) := fun _ _ _ _ => by rw [hb3]; exact idx_str (by omega) rfl rfl
  have u1 : IntKind.i64.wrap (((4 * k : Nat) : Int) + 1) = ((4 * k + 1 : Nat) : Int) := by rw [wrapI (by omega) (by omega)]; omega
  have u2 : IntKind.i64.wrap (((4 * k : Nat) : Int) + 2) = ((4 * k + 2 : Nat) : Int) := by rw [wrapI (by omega) (by omega)]; omega
  have u3 : IntKind.i64.wrap (((4 * k : Nat) : Int) + 3) = ((4 * k + 3 : Nat) : Int) := by rw [wrapI (by omega) (by omega)]; omega
  have u4 : IntKind.i64.wrap (((4 * k : Nat) : Int) + 4) = ((4 * (k + 1) : Nat) : Int) := by rw [wrapI (by omega) (by omega)]; omega
  have v1 : decide (((4 * (k + 1) : Nat) : Int) ≤ (s.length : Int)) = true := decide_eq_true (by omega)
  have ls : ∀ loc vals H, evPure loc (.c (.str s) :: vals) H (.len .str (.val 0)) = some (.c (.int .i64 (s.length : Int))) := fun _ _ _ => rfl
  have w1 := wI f1
  have w2 := wI f2
  have w3 := wI f3
  have w4 : Int.tmod (b0 : Int) 8 = 7 := by have := tmodN b0 8; rw [hK] at this; exact this
  have w5 : IntKind.u8.wrap (Int.tdiv (b0 : Int) 8) = ((b0 / 8 : Nat) : Int) := by
    have : Int.tdiv (b0 : Int) 8 = ((b0 / 8 : Nat) : Int) := tdivN b0 8
    rw [this]; simp only [IntKind.wrap, IntKind.bits, IntKind.signed]; simp; omega
  have w6 : Int.tmod (b1 : Int) 16 = ((b1 % 16 : Nat) : Int) := tmodN b1 16
  have w7 : Int.tmod (b1 : Int) c.clients = (b1 : Int) % c.clients := Int.tmod_eq_emod_of_nonneg (by omega)
  have w8 : Int.tmod (b2 : Int) c.shards = (b2 : Int) % c.shards := Int.tmod_eq_emod_of_nonneg (by omega)
  have w9 : IntKind.i64.wrap (256 * (b1 : Int)) = 256 * (b1 : Int) := wrapI (by omega) (by omega)
  have w10 : IntKind.i64.wrap (256 * (b1 : Int) + (b2 : Int)) = ((256 * b1 + b2 : Nat) : Int) := by rw [wrapI (by omega) (by omega)]; omega
  have w11 : IntKind.i64.wrap (32 - c.shards) = 32 - c.shards := wrapI (by omega) (by omega)
  have w12 : IntKind.i64.wrap (32 - c.shards + 1) = 32 - c.shards + 1 := wrapI (by omega) (by omega)
  have w13 : Int.tmod (b3 : Int) (32 - c.shards + 1) = (b3 : Int) % (32 - c.shards + 1) := Int.tmod_eq_emod_of_nonneg (by omega)
  have w14 : IntKind.i64.wrap (c.shards + (b3 : Int) % (32 - c.shards + 1)) = c.shards + (b3 : Int) % (32 - c.shards + 1) := by
    have := Int.emod_nonneg (b3 : Int) (b := 32 - c.shards + 1) (by omega)
    have := Int.emod_lt_of_pos (b3 : Int) (b := 32 - c.shards + 1) (by omega)
    exact wrapI (by omega) (by omega)
  have k1 : (c.clients == 0) = false := by simp only [beq_eq_false_iff_ne, ne_eq]; omega
  have k2 : (c.shards == 0) = false := by simp only [beq_eq_false_iff_ne, ne_eq]; omega
  have k3 : (32 - c.shards + 1 == 0) = false := by simp only [beq_eq_false_iff_ne, ne_eq]; omega
  have v2 : ((b1 : Int) == 255) = true := by rw [← hb1] at hb; simp [hb]
  obtain ⟨G3, hG3⟩ : ∃ H, H = G2.new (.cells [.int .u8 (b2 : Int), .int .u8 (b3 : Int)]) := ⟨_, rfl⟩
  have x3 : Ext G2 G3 := by rw [hG3]; exact (Ext.refl _).new _
  have n3 : G3.next = G2.next + 1 := by rw [hG3]; rfl
  have xx : Ext G G3 := (x1.trans x2).trans x3
  have g3 : G3.get G2.next = some (.cells (byteCells [b2, b3])) := by rw [hG3]; exact get_new_at
  obtain ⟨G4, a1, a2, a3, a4⟩ := write_all (h := G3) (i := G1.next) (z := stZ) (l := stC (⟨4, 0, 0, 0, clz, [b2, b3]⟩ : Stp) .nils (.sl G2.next 0 2 (.ex 2))) (x3.at_ g2 (by omega)) rfl
  simp only [clz] at a1
  have r3 : G4.read G1.next 0 11 = some (stC (⟨4, 0, 0, 0, clz, [b2, b3]⟩ : Stp) .nils (.sl G2.next 0 2 (.ex 2))) := read_all a2 rfl
  simp only [clz] at r3
  obtain ⟨G5, hG5⟩ : ∃ H, H = G4.new (.cells (stC (⟨4, 0, 0, 0, clz, [b2, b3]⟩ : Stp) .nils (.sl G2.next 0 2 (.ex 2)))) := ⟨_, rfl⟩
  have x4 : Ext G G4 := ⟨by rw [a4]; exact xx.1, fun j hj => (a3 j (by omega)).trans (xx.2 j hj)⟩
  have tg : TxtY G G4 (.sl G2.next 0 2 (.ex 2)) [b2, b3] := ⟨Txt.all (s := [b2, b3]) (by omega) ((a3 _ (by omega)).trans g3) (by intro b hb; simp at hb; omega), fun k hk => by simp [blk] at hk; omega⟩
  obtain ⟨z', G6, c1, c2, c3, c4⟩ := add_row (h2 := G5) (x := .nils) (y := (.sl G2.next 0 2 (.ex 2))) R e0 x4 (by rw [hst]; exact hG5) (by rw [hst]; exact .nil) (by rw [hst]; exact tg) (by omega)
  simp only [clz] at hG5
  unfold ir23_l0
  simp only [enter_eq, ev_seq, seqK_norm, seqK_exit, seqK_ret, ev_reg, ev_cond, condK_true, condK_false, ev_block, blockK_norm, blockK_ret, blockK_exit, ev_loop, ev_skip, ev_exit, ev_ret, regK_cons, regK_nil, guard_none, guard_some, regG_true, regG_false, regO_some, op_mov, op_conv, op_bin, op_bsl, op_box, op_mks, op_s2b, op_pick, op_un, op_eq, op_len, op_ext, op_load, op_iaddr, op_slice, op_b2s, op_idxS, op_mx, op_mn, op_call, op_store, op_app, op_copy, args_eq, result_one', rv_loc, finish_norm, finish_ret, outK_some, keep_true, keep_false, keep_nil, p_bin, p_pick, p_un, p_eq, p_conv, evNew, pureK_some, newK_some, X.eval, set_none, set_some, List.map_cons, List.map_nil, List.getD_cons_zero, List.getD_cons_succ, List.getD_nil, List.set_cons_zero, List.set_cons_succ, binCV, unCV, isShift, intArithF_eq, shiftF_eq, wrapF_eq, intArith, shift, eqVal, bound, asNat_cast, cond_true, cond_false, BEq.rfl, beq_self_eq_true, evalParts, fillParts, AV.cells, AV.ofCells, XV.av, AV.xv, List.length_cons, List.length_nil, zeros, patch, setMany, List.nil_append, List.cons_append, Nat.ble, Nat.add_eq, Nat.zero_add, Nat.add_zero, Nat.reduceAdd, Nat.reduceMul, Nat.reduceSub, Nat.ble_eq, Nat.reduceLeDiff, Nat.reduceBEq, Int.reduceBEq, Int.reduceNeg, Bool.and_true, Bool.and_false, Bool.true_and, Bool.false_and, Bool.not_true, Bool.not_false, Bool.true_eq_false, Bool.false_eq_true, Int.reduceLT, Int.reduceLE, Int.reduceGT, Int.reduceGE, decide_true, decide_false, Bool.not_eq_true, loopN_norm, loopN_exit, tf, ft, ff, ev_dreg, dregK_nil, dregK_cons, dregE_true, dregP_some, dregX_some, d_mov, d_bin, d_eq, d_pick, d_un, d_conv, d_b2s, d_len, d_load, d_iaddr, d_slice, d_ext, d_call, d_store, chk_done, chk_none, chk_some, chkG_true, chkG_false, chkOne_nil, chkOne_cons, chkH_some, chkV_same, stage_none, stage_some, look_hit, look_miss, news_nil, wb_cons, wb_nil, skip0, List.reverse_cons, List.reverse_nil, i0, i1, i2, i3, d_idxS, u1, u2, u3, u4, v1, ls, op_faddr, p_faddr, d_faddr, op_build, p_build', p_load, AV.ofCells, evEff, d_build, ← hG2, q0, q1, q2, q3, e1, w1, w2, w3, w4, w5, w6, w7, w8, w9, w10, w11, w12, w13, w14, k1, k2, k3, Int.reduceAdd, Int.reduceBEq, a1, r3, ← hG5, c1, v2, ← hG3]
  refine ⟨z', _, G6, rfl, ?_, c2, fun j hj => c4 j (by omega) (fun hz => by have := R.young j hz; omega), c3⟩
  rfl
theorem rstep (c : Cf) (hc : c.ok = true) (hk : 4 * k + 4 ≤ s.length) (hs : s.length ≤ 300) (sb : ∀ j, s.getD j 0 < 256) (gc : G.get p = some (.cells (cfC c))) (hp : p < h0.next) (e0 : h0.next ≤ G.next) (R : Rows h0 G z k (stp c s)) (hN : 100 ≤ N) :
    ∃ z' l G', ev (evCallX table 21 37 N (d + 6)) N ir23_l0 (LocR s p z k) G = some (.norm, l, G') ∧ keepOnly ir23_k0 l = LocR s p z' (k + 1) ∧ Rows h0 G' z' (k + 1) (stp c s) ∧ (∀ j, j < h0.next → G'.get j = G.get j) ∧ G.next ≤ G'.next := by
  obtain ⟨b, hb⟩ : ∃ b, b = s.getD (4 * k) 0 := ⟨_, rfl⟩
  have h8 : b % 8 = 0 ∨ b % 8 = 1 ∨ b % 8 = 2 ∨ b % 8 = 3 ∨ b % 8 = 4 ∨ b % 8 = 5 ∨ b % 8 = 6 ∨ b % 8 = 7 := by omega
  rw [hb] at h8
  rcases h8 with q | q | q | q | q | q | q | q
  · exact rstep_0 c hc hk hs sb gc hp e0 R q hN
  · exact rstep_1 c hc hk hs sb gc hp e0 R q hN
  · exact rstep_2 c hc hk hs sb gc hp e0 R q hN
  · exact rstep_3 c hc hk hs sb gc hp e0 R q hN
  · exact rstep_4 c hc hk hs sb gc hp e0 R q hN
  · exact rstep_5 c hc hk hs sb gc hp e0 R q hN
  · rcases Nat.mod_two_eq_zero_or_one (s.getD (4 * k + 2) 0) with hb | hb
    · exact rstep_6b c hc hk hs sb gc hp e0 R q hN hb
    · exact rstep_6a c hc hk hs sb gc hp e0 R q hN hb
  · by_cases hb : s.getD (4 * k + 1) 0 = 255
    · exact rstep_7a c hc hk hs sb gc hp e0 R q hN hb
    · exact rstep_7b c hc hk hs sb gc hp e0 R q hN hb

/-- lavaboref13.Steps. -/
theorem steps_any {h : Heap} (c : Cf) (hs : s.length ≤ 300) (sb : ∀ j, s.getD j 0 < 256) (hN : 100 ≤ N) :
    ∃ z h', evCallX table 21 37 N (d + 7) 23 [.c (.str s), .agg (cfC c)] h = some (.c z, h') ∧ Rows h h' z (if c.ok then s.length / 4 else 0) (stp c s) ∧ Ext h h' := by
  obtain ⟨H0, hH0⟩ : ∃ H, H = h.new (.cells (cfC c)) := ⟨_, rfl⟩
  have x0 : Ext h H0 := by rw [hH0]; exact (Ext.refl _).new _
  have n0 : H0.next = h.next + 1 := by rw [hH0]; rfl
  have g0 : H0.get h.next = some (.cells (cfC c)) := by rw [hH0]; exact get_new_at
  have bx : AV.cells (.agg (cfC c)) = some (cfC c) := rfl
  have ls : ∀ loc vals H, evPure loc (.c (.str s) :: vals) H (.len .str (.val 0)) = some (.c (.int .i64 (s.length : Int))) := fun _ _ _ => rfl
  have L : ∀ loc, keepOnly ir23_k0 loc = LocR s h.next .nils 0 →
      ∃ r, loopK (evCallX table 21 37 N (d + 6)) N ir23_k0 ir23_l0 N loc H0 = some r ∧ ∃ z H a0 a1 a2 a3 l, r = (.exit 0, a0 :: a1 :: a2 :: a3 :: .c z :: l, H) ∧ Rows H0 H z (if c.ok then s.length / 4 else 0) (stp c s) ∧ Ext h H := by
    intro loc hloc
    refine loop_inv (n := if c.ok then s.length / 4 else 0) (fun k loc G => k ≤ (if c.ok then s.length / 4 else 0) ∧ ∃ z, Rows H0 G z k (stp c s) ∧ (∀ j, j < H0.next → G.get j = H0.get j) ∧ H0.next ≤ G.next ∧ loc = LocR s h.next z k) _ ?_ ⟨Nat.zero_le _, .nils, .nil, fun _ _ => rfl, Nat.le_refl _, hloc⟩ (by split <;> omega)
    rintro k loc G hk ⟨hkn, z, R, xg, ng, rfl⟩
    have gc : G.get h.next = some (.cells (cfC c)) := (xg _ (by omega)).trans g0
    have xh : Ext h G := ⟨by omega, fun j hj => (xg j (by omega)).trans (x0.2 j hj)⟩
    have u4 : IntKind.i64.wrap (((4 * k : Nat) : Int) + 4) = ((4 * k + 4 : Nat) : Int) := by
      have : k ≤ s.length / 4 := by
        cases hc : c.ok with
        | true => rw [hc] at hkn; exact hkn
        | false => rw [hc] at hkn; simp at hkn; omega
      rw [wrapI (by omega) (by omega)]; omega
    by_cases hlt : k < (if c.ok then s.length / 4 else 0)
    · left
      refine ⟨hlt, ?_⟩
      cases hc : c.ok with
      | false => rw [hc] at hlt; simp at hlt
      | true =>
        rw [hc, if_pos rfl] at hlt
        obtain ⟨z', l, G', e, hl, R', xg', ng'⟩ := rstep (N := N) (d := d) c hc (by omega) hs sb gc (by omega) ng R hN
        exact ⟨l, G', e, by rw [if_pos rfl]; omega, z', R', fun j hj => (xg' j hj).trans (xg j hj), by omega, hl⟩
    · right
      have hkk : k = if c.ok then s.length / 4 else 0 := by omega
      rw [← hkk]
      unfold ir23_l0
      cases hc : c.ok with
      | true =>
        rw [hc, if_pos rfl] at hkk
        have v1 : decide (((4 * k + 4 : Nat) : Int) ≤ (s.length : Int)) = false := decide_eq_false (by omega)
        simp only [enter_eq, ev_seq, seqK_norm, seqK_exit, seqK_ret, ev_reg, ev_cond, condK_true, condK_false, ev_block, blockK_norm, blockK_ret, blockK_exit, ev_loop, ev_skip, ev_exit, ev_ret, regK_cons, regK_nil, guard_none, guard_some, regG_true, regG_false, regO_some, op_mov, op_conv, op_bin, op_bsl, op_box, op_mks, op_s2b, op_pick, op_un, op_eq, op_len, op_ext, op_load, op_iaddr, op_slice, op_b2s, op_idxS, op_mx, op_mn, op_call, op_store, op_app, op_copy, args_eq, result_one', rv_loc, finish_norm, finish_ret, outK_some, keep_true, keep_false, keep_nil, p_bin, p_pick, p_un, p_eq, p_conv, evNew, pureK_some, newK_some, X.eval, set_none, set_some, List.map_cons, List.map_nil, List.getD_cons_zero, List.getD_cons_succ, List.getD_nil, List.set_cons_zero, List.set_cons_succ, binCV, unCV, isShift, intArithF_eq, shiftF_eq, wrapF_eq, intArith, shift, eqVal, bound, asNat_cast, cond_true, cond_false, BEq.rfl, beq_self_eq_true, evalParts, fillParts, AV.cells, AV.ofCells, XV.av, AV.xv, List.length_cons, List.length_nil, zeros, patch, setMany, List.nil_append, List.cons_append, Nat.ble, Nat.add_eq, Nat.zero_add, Nat.add_zero, Nat.reduceAdd, Nat.reduceMul, Nat.reduceSub, Nat.ble_eq, Nat.reduceLeDiff, Nat.reduceBEq, Int.reduceBEq, Int.reduceNeg, Bool.and_true, Bool.and_false, Bool.true_and, Bool.false_and, Bool.not_true, Bool.not_false, Bool.true_eq_false, Bool.false_eq_true, Int.reduceLT, Int.reduceLE, Int.reduceGT, Int.reduceGE, decide_true, decide_false, Bool.not_eq_true, loopN_norm, loopN_exit, tf, ft, ff, u4, ls, v1]
        exact ⟨_, rfl, by simp, z, G, _, _, _, _, _, rfl, R, xh⟩
      | false =>
        by_cases hl : 4 * k + 4 ≤ s.length
        · have v1 : decide (((4 * k + 4 : Nat) : Int) ≤ (s.length : Int)) = true := decide_eq_true (by omega)
          have q0 : G.read h.next 0 4 = some (cfC c) := read_all gc rfl
          obtain ⟨G1, e1, x1⟩ := conf_all (N := N) (d := d + 5) (h := G) c
          rw [hc] at e1
          simp only [enter_eq, ev_seq, seqK_norm, seqK_exit, seqK_ret, ev_reg, ev_cond, condK_true, condK_false, ev_block, blockK_norm, blockK_ret, blockK_exit, ev_loop, ev_skip, ev_exit, ev_ret, regK_cons, regK_nil, guard_none, guard_some, regG_true, regG_false, regO_some, op_mov, op_conv, op_bin, op_bsl, op_box, op_mks, op_s2b, op_pick, op_un, op_eq, op_len, op_ext, op_load, op_iaddr, op_slice, op_b2s, op_idxS, op_mx, op_mn, op_call, op_store, op_app, op_copy, args_eq, result_one', rv_loc, finish_norm, finish_ret, outK_some, keep_true, keep_false, keep_nil, p_bin, p_pick, p_un, p_eq, p_conv, evNew, pureK_some, newK_some, X.eval, set_none, set_some, List.map_cons, List.map_nil, List.getD_cons_zero, List.getD_cons_succ, List.getD_nil, List.set_cons_zero, List.set_cons_succ, binCV, unCV, isShift, intArithF_eq, shiftF_eq, wrapF_eq, intArith, shift, eqVal, bound, asNat_cast, cond_true, cond_false, BEq.rfl, beq_self_eq_true, evalParts, fillParts, AV.cells, AV.ofCells, XV.av, AV.xv, List.length_cons, List.length_nil, zeros, patch, setMany, List.nil_append, List.cons_append, Nat.ble, Nat.add_eq, Nat.zero_add, Nat.add_zero, Nat.reduceAdd, Nat.reduceMul, Nat.reduceSub, Nat.ble_eq, Nat.reduceLeDiff, Nat.reduceBEq, Int.reduceBEq, Int.reduceNeg, Bool.and_true, Bool.and_false, Bool.true_and, Bool.false_and, Bool.not_true, Bool.not_false, Bool.true_eq_false, Bool.false_eq_true, Int.reduceLT, Int.reduceLE, Int.reduceGT, Int.reduceGE, decide_true, decide_false, Bool.not_eq_true, loopN_norm, loopN_exit, tf, ft, ff, u4, ls, v1, p_load, AV.ofCells, q0, e1]
          exact ⟨_, rfl, by simp, z, G1, _, _, _, _, _, rfl, R.ext x1, xh.trans x1⟩
        · have v1 : decide (((4 * k + 4 : Nat) : Int) ≤ (s.length : Int)) = false := decide_eq_false (by omega)
          simp only [enter_eq, ev_seq, seqK_norm, seqK_exit, seqK_ret, ev_reg, ev_cond, condK_true, condK_false, ev_block, blockK_norm, blockK_ret, blockK_exit, ev_loop, ev_skip, ev_exit, ev_ret, regK_cons, regK_nil, guard_none, guard_some, regG_true, regG_false, regO_some, op_mov, op_conv, op_bin, op_bsl, op_box, op_mks, op_s2b, op_pick, op_un, op_eq, op_len, op_ext, op_load, op_iaddr, op_slice, op_b2s, op_idxS, op_mx, op_mn, op_call, op_store, op_app, op_copy, args_eq, result_one', rv_loc, finish_norm, finish_ret, outK_some, keep_true, keep_false, keep_nil, p_bin, p_pick, p_un, p_eq, p_conv, evNew, pureK_some, newK_some, X.eval, set_none, set_some, List.map_cons, List.map_nil, List.getD_cons_zero, List.getD_cons_succ, List.getD_nil, List.set_cons_zero, List.set_cons_succ, binCV, unCV, isShift, intArithF_eq, shiftF_eq, wrapF_eq, intArith, shift, eqVal, bound, asNat_cast, cond_true, cond_false, BEq.rfl, beq_self_eq_true, evalParts, fillParts, AV.cells, AV.ofCells, XV.av, AV.xv, List.length_cons, List.length_nil, zeros, patch, setMany, List.nil_append, List.cons_append, Nat.ble, Nat.add_eq, Nat.zero_add, Nat.add_zero, Nat.reduceAdd, Nat.reduceMul, Nat.reduceSub, Nat.ble_eq, Nat.reduceLeDiff, Nat.reduceBEq, Int.reduceBEq, Int.reduceNeg, Bool.and_true, Bool.and_false, Bool.true_and, Bool.false_and, Bool.not_true, Bool.not_false, Bool.true_eq_false, Bool.false_eq_true, Int.reduceLT, Int.reduceLE, Int.reduceGT, Int.reduceGE, decide_true, decide_false, Bool.not_eq_true, loopN_norm, loopN_exit, tf, ft, ff, u4, ls, v1]
          exact ⟨_, rfl, by simp, z, G, _, _, _, _, _, rfl, R, xh⟩
  obtain ⟨r, hr, z, H, a0, a1, a2, a3, l, rfl, R, xh⟩ := L [.c (.str s), .agg (cfC c), .c (.ptr h.next 0), .c .nils, .c .nils, .c (.int .i64 0), .tup [], .tup [], .tup [], .tup [], .tup [], .tup [], .tup [], .tup [], .tup [], .tup [], .tup [], .tup []] rfl
  rw [evCallX_eq (F := ir23) rfl rfl rfl rfl]
  unfold ir23
  rw [bodyK_eq]
  simp only [enter_eq, ev_seq, seqK_norm, seqK_exit, seqK_ret, ev_reg, ev_cond, condK_true, condK_false, ev_block, blockK_norm, blockK_ret, blockK_exit, ev_loop, ev_skip, ev_exit, ev_ret, regK_cons, regK_nil, guard_none, guard_some, regG_true, regG_false, regO_some, op_mov, op_conv, op_bin, op_bsl, op_box, op_mks, op_s2b, op_pick, op_un, op_eq, op_len, op_ext, op_load, op_iaddr, op_slice, op_b2s, op_idxS, op_mx, op_mn, op_call, op_store, op_app, op_copy, args_eq, result_one', rv_loc, finish_norm, finish_ret, outK_some, keep_true, keep_false, keep_nil, p_bin, p_pick, p_un, p_eq, p_conv, evNew, pureK_some, newK_some, X.eval, set_none, set_some, List.map_cons, List.map_nil, List.getD_cons_zero, List.getD_cons_succ, List.getD_nil, List.set_cons_zero, List.set_cons_succ, binCV, unCV, isShift, intArithF_eq, shiftF_eq, wrapF_eq, intArith, shift, eqVal, bound, asNat_cast, cond_true, cond_false, BEq.rfl, beq_self_eq_true, evalParts, fillParts, AV.cells, AV.ofCells, XV.av, AV.xv, List.length_cons, List.length_nil, zeros, patch, setMany, List.nil_append, List.cons_append, Nat.ble, Nat.add_eq, Nat.zero_add, Nat.add_zero, Nat.reduceAdd, Nat.reduceMul, Nat.reduceSub, Nat.ble_eq, Nat.reduceLeDiff, Nat.reduceBEq, Int.reduceBEq, Int.reduceNeg, Bool.and_true, Bool.and_false, Bool.true_and, Bool.false_and, Bool.not_true, Bool.not_false, Bool.true_eq_false, Bool.false_eq_true, Int.reduceLT, Int.reduceLE, Int.reduceGT, Int.reduceGE, decide_true, decide_false, Bool.not_eq_true, loopN_norm, loopN_exit, tf, ft, ff, bx, ← hH0, hr, blockK_exit_eq]
  exact ⟨z, H, rfl, R.from_ (by omega), xh⟩
end
end Lav
