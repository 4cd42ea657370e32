/-
  Layer 15: bytes that are repeated; what a call is made of.
-/
import Derived.Test.YtdeehmncnfdmkaaScr0
import Derived.Test.YtdeehmncnfdmkaaFwP
set_option maxRecDepth 100000
set_option linter.unusedSimpArgs false
namespace Lav
open Go (IntKind)

theorem evCallX_eq {table : List (Nat × IRF)} {T Y N d f : Nat} {F : IRF} {args : List AV} {h : Heap} (hT : Nat.beq f T = false) (hX : Nat.beq f Y = false) (hl : table.lookup f = some F) (hn : (args.length == F.nparams) = true) :
    evCallX table T Y N (d + 1) f args h = bodyK (evCallX table T Y N d) N F args h := by
  rw [evCallX_succ, hT, cond_false, hX, cond_false]
  simp only [stepCall, hl, hn, cond_true]; rfl
theorem evCallX_told {table : List (Nat × IRF)} {T Y N d : Nat} {h : Heap} : evCallX table T Y N (d + 1) T [] h = some (.c (.bool true), h) := by
  have : Nat.beq T T = true := by simp
  rw [evCallX_succ, this]; rfl

theorem d_copy {call : Nat → List AV → Heap → Option (AV × Heap)} {loc vals : List AV} {h cur : Heap} {n j k m : Nat} {l r : List Inst} {ks : List (Nat × Heap)} {news : List (Nat × Nat × Blk)} {x y : X} :
    dregG call n l loc h (.copy m x y) r j k vals cur ks news (some true) = dregX call n l loc h r j k vals ks news (evCopy cur m (x.eval loc vals) (y.eval loc vals)) := rfl

theorem low32 (n : Nat) (h : n < 4294967296) : IntKind.u64.wrap ((BitVec.ofInt IntKind.u64.bits (n : Int) &&& BitVec.ofInt IntKind.u64.bits 4294967295).toNat : Int) = (n : Int) := by
  have e : (BitVec.ofInt IntKind.u64.bits (n : Int) &&& BitVec.ofInt IntKind.u64.bits 4294967295).toNat = n := by
    rw [BitVec.toNat_and]
    have e1 : (BitVec.ofInt IntKind.u64.bits (n : Int)).toNat = n := by
      rw [BitVec.ofInt_natCast, BitVec.toNat_ofNat]; exact Nat.mod_eq_of_lt (by show n < 2 ^ 64; omega)
    have e2 : (BitVec.ofInt IntKind.u64.bits 4294967295).toNat = 2 ^ 32 - 1 := by decide
    rw [e1, e2, Nat.and_two_pow_sub_one_eq_mod]; exact Nat.mod_eq_of_lt (by omega)
  rw [e]; exact wrapUNat (by omega)

theorem zeros_add {z : List CV} : ∀ (a b : Nat), zeros (a + b) z = zeros a z ++ zeros b z
  | 0, b => by simp [zeros]
  | a + 1, b => by rw [show a + 1 + b = (a + b) + 1 by omega]; simp only [zeros, zeros_add a b, List.append_assoc]
theorem zeros_take {z : List CV} {k n : Nat} (h : k ≤ n) : (zeros n z).take (k * z.length) = zeros k z := by
  obtain ⟨m, rfl⟩ : ∃ m, n = k + m := ⟨n - k, by omega⟩
  rw [zeros_add, List.take_left' (zeros_length k _)]
theorem zeros_drop {z : List CV} {k n : Nat} (h : k ≤ n) : (zeros n z).drop (k * z.length) = zeros (n - k) z := by
  obtain ⟨m, rfl⟩ : ∃ m, n = k + m := ⟨n - k, by omega⟩
  rw [zeros_add, List.drop_left' (zeros_length k _), Nat.add_sub_cancel_left]
theorem zeros_one {v : List CV} : zeros 1 v = v := by simp [zeros]

/-- The first k of n are filled. -/
def half (n k : Nat) (z v : List CV) : List CV := zeros k v ++ zeros (n - k) z
theorem half_len {n k : Nat} {z v : List CV} (hl : v.length = z.length) (h : k ≤ n) : (half n k z v).length = n * z.length := by
  unfold half; rw [List.length_append, zeros_length, zeros_length, hl, ← Nat.add_mul]; congr 1; omega
/-- m more. -/
theorem half_put {n k m : Nat} {z v : List CV} (hl : v.length = z.length) (h : k + m ≤ n) : (half n k z v).take (k * z.length) ++ zeros m v ++ (half n k z v).drop (k * z.length + (zeros m v).length) = half n (k + m) z v := by
  unfold half
  have e1 : (zeros k v).length = k * z.length := by rw [zeros_length, hl]
  have e2 : (zeros m v).length = m * z.length := by rw [zeros_length, hl]
  rw [List.take_left' e1, e2, ← List.drop_drop, List.drop_left' e1, zeros_drop (by omega), zeros_add, show n - k - m = n - (k + m) by omega]

/-- A copy into what is not filled yet. -/
theorem copy_more {n k sz : Nat} {z v : List CV} {h : Heap} {j : Nat} {c c' : Cap} (hz : z.length = sz) (hl : v.length = z.length) (hg : h.get j = some (.cells (half n k z v))) (hk : k ≤ n) :
    evCopy h sz (.c (.sl j (k * sz) (n - k) c)) (.c (.sl j 0 k c')) = some (.c (.int .i64 ((min k (n - k) : Nat) : Int)), h.put j (.cells (half n (k + min k (n - k)) z v))) := by
  subst hz
  have hr : h.read j 0 (k * z.length) = some (zeros k v) := by
    rw [read_part hg (by rw [half_len hl hk]; have := Nat.mul_le_mul_right z.length hk; omega), List.drop_zero]
    unfold half
    rw [List.take_left' (by rw [zeros_length, hl])]
  have ht : (zeros k v).take (min k (n - k) * z.length) = zeros (min k (n - k)) v := by rw [← hl]; exact zeros_take (by omega)
  have hw := write_many (o := k * z.length) (vs := zeros (min k (n - k)) v) hg (by
    rw [half_len hl hk, zeros_length, hl, ← Nat.add_mul]; exact Nat.mul_le_mul_right _ (by omega))
  rw [half_put hl (by omega)] at hw
  have hs : source h z.length (.c (.sl j 0 k c')) = some (k, zeros k v) := by simp only [source, hr]
  unfold evCopy
  simp only [hs, ht, hw]
  rfl

section
variable {N d : Nat} {h : Heap}
theorem mul64_ok (n : Nat) (hn : n < 100000) : evCallX table 21 37 N (d + 1) 39 [.c (.int .u64 1), .c (.int .u64 (n : Int))] h = some (.tup [.c (.int .u64 0), .c (.int .u64 (n : Int))], h) := by
  have e1 : IntKind.u64.wrap ((BitVec.ofInt IntKind.u64.bits 1 &&& BitVec.ofInt IntKind.u64.bits 4294967295).toNat : Int) = 1 := low32 1 (by omega)
  have e2 := low32 n (by omega)
  have e3 : IntKind.u64.wrap (1 * (n : Int)) = (n : Int) := by rw [Int.one_mul]; exact wrapUNat (by omega)
  have e4 : (1 : Int).fdiv (2 ^ (min (Int.toNat 32) IntKind.u64.bits)) = 0 := by decide
  have e5 : (n : Int).fdiv (2 ^ (min (Int.toNat 32) IntKind.u64.bits)) = 0 := by
    have : (2 : Int) ^ (min (Int.toNat 32) IntKind.u64.bits) = 4294967296 := by decide
    rw [this, Int.fdiv_eq_ediv_of_nonneg _ (by omega)]; omega
  rw [evCallX_eq (F := ir39) rfl rfl rfl rfl]
  unfold ir39
  rw [bodyK_eq]
  have e6 : IntKind.u64.wrap (IntKind.u64.wrap (0 * (n : Int)) + 0) = 0 := by rw [Int.zero_mul]; rfl
  simp only [enter_eq, ev_seq, seqK_norm, seqK_exit, seqK_ret, ev_reg, ev_cond, condK_true, condK_false, ev_block, blockK_norm, blockK_ret, blockK_exit, ev_loop, ev_skip, ev_exit, ev_ret, regK_cons, regK_nil, guard_none, guard_some, regG_true, regG_false, regO_some, op_mov, op_conv, op_bin, op_bsl, op_box, op_mks, op_s2b, op_pick, op_un, op_eq, op_len, op_ext, op_load, op_iaddr, op_slice, op_b2s, op_idxS, op_mx, op_mn, op_call, op_store, op_app, op_copy, args_eq, result_one', rv_loc, finish_norm, finish_ret, outK_some, keep_true, keep_false, keep_nil, p_bin, p_pick, p_un, p_eq, p_conv, evNew, pureK_some, newK_some, X.eval, set_none, set_some, List.map_cons, List.map_nil, List.getD_cons_zero, List.getD_cons_succ, List.getD_nil, List.set_cons_zero, List.set_cons_succ, binCV, unCV, isShift, intArithF_eq, shiftF_eq, wrapF_eq, intArith, shift, eqVal, bound, asNat_cast, cond_true, cond_false, BEq.rfl, beq_self_eq_true, evalParts, fillParts, AV.cells, AV.ofCells, XV.av, AV.xv, List.length_cons, List.length_nil, zeros, patch, setMany, List.nil_append, List.cons_append, Nat.ble, Nat.add_eq, Nat.zero_add, Nat.add_zero, Nat.reduceAdd, Nat.reduceMul, Nat.reduceSub, Nat.ble_eq, Nat.reduceLeDiff, Nat.reduceBEq, Int.reduceBEq, Int.reduceNeg, Bool.and_true, Bool.and_false, Bool.true_and, Bool.false_and, Bool.not_true, Bool.not_false, Bool.true_eq_false, Bool.false_eq_true, Int.reduceLT, Int.reduceLE, Int.reduceGT, Int.reduceGE, decide_true, decide_false, Bool.not_eq_true, loopN_norm, loopN_exit, tf, ft, ff, e1, e2, e3, e4, e5, e6]
  rfl

theorem mul_ok (n : Nat) (hn : n < 100000) : evCallX table 21 37 N (d + 2) 36 [.c (.int .u64 1), .c (.int .u64 (n : Int))] h = some (.tup [.c (.int .u64 0), .c (.int .u64 (n : Int))], h) := by
  have e1 := mul64_ok (N := N) (d := d) (h := h) n hn
  rw [evCallX_eq (F := ir36) rfl rfl rfl rfl]
  unfold ir36
  rw [bodyK_eq]
  simp only [enter_eq, ev_seq, seqK_norm, seqK_exit, seqK_ret, ev_reg, ev_cond, condK_true, condK_false, ev_block, blockK_norm, blockK_ret, blockK_exit, ev_loop, ev_skip, ev_exit, ev_ret, regK_cons, regK_nil, guard_none, guard_some, regG_true, regG_false, regO_some, op_mov, op_conv, op_bin, op_bsl, op_box, op_mks, op_s2b, op_pick, op_un, op_eq, op_len, op_ext, op_load, op_iaddr, op_slice, op_b2s, op_idxS, op_mx, op_mn, op_call, op_store, op_app, op_copy, args_eq, result_one', rv_loc, finish_norm, finish_ret, outK_some, keep_true, keep_false, keep_nil, p_bin, p_pick, p_un, p_eq, p_conv, evNew, pureK_some, newK_some, X.eval, set_none, set_some, List.map_cons, List.map_nil, List.getD_cons_zero, List.getD_cons_succ, List.getD_nil, List.set_cons_zero, List.set_cons_succ, binCV, unCV, isShift, intArithF_eq, shiftF_eq, wrapF_eq, intArith, shift, eqVal, bound, asNat_cast, cond_true, cond_false, BEq.rfl, beq_self_eq_true, evalParts, fillParts, AV.cells, AV.ofCells, XV.av, AV.xv, List.length_cons, List.length_nil, zeros, patch, setMany, List.nil_append, List.cons_append, Nat.ble, Nat.add_eq, Nat.zero_add, Nat.add_zero, Nat.reduceAdd, Nat.reduceMul, Nat.reduceSub, Nat.ble_eq, Nat.reduceLeDiff, Nat.reduceBEq, Int.reduceBEq, Int.reduceNeg, Bool.and_true, Bool.and_false, Bool.true_and, Bool.false_and, Bool.not_true, Bool.not_false, Bool.true_eq_false, Bool.false_eq_true, Int.reduceLT, Int.reduceLE, Int.reduceGT, Int.reduceGE, decide_true, decide_false, Bool.not_eq_true, loopN_norm, loopN_exit, tf, ft, ff, e1, op_ext, p_ext, List.getElem?_cons_zero, List.getElem?_cons_succ]
  rfl

theorem pow_gt : ∀ (n : Nat), n < 2 ^ n
  | 0 => by simp
  | n + 1 => by have := pow_gt n; rw [Nat.pow_succ]; omega


theorem mnz_call {n : Nat} (hn : n < 1000) : evCallX table 21 37 N (d + 1) 37 [.c (.int .i64 (n : Int))] h = some (.c (.sl h.next 0 n (.dy 1)), h.new (.cells (List.replicate n anyC))) := by
  have hb : Nat.ble n 1048576 = true := Nat.ble_eq_true_of_le (by omega)
  rw [evCallX_succ]
  show mnzF [.c (.int .i64 (.ofNat n))] h = _
  simp only [mnzF, hb, cond_true]

theorem zeros_any : ∀ n, zeros n [anyC] = List.replicate n anyC
  | 0 => rfl
  | n + 1 => by rw [List.replicate_succ, ← zeros_any n]; rfl

theorem repeat_ok {i n : Nat} {c : Cap} {v : List CV} (hg : h.get i = some (.cells v)) (hi : i < h.next) (hv : v.length = 1) (hn : n < 1000) (hN : n + 2 ≤ N) :
    ∃ h', evCallX table 21 37 N (d + 3) 35 [.c (.sl i 0 1 c), .c (.int .i64 (n : Int))] h = some (.c (.sl h.next 0 n (.ex n)), h') ∧ h'.get h.next = some (.cells (zeros n v)) ∧ Ext h h' ∧ h'.next = h.next + 1 := by
  rw [evCallX_eq (F := ir35) rfl rfl rfl rfl]
  unfold ir35
  rw [bodyK_eq]
  by_cases h0 : n = 0
  · subst h0
    have q0 : ((((0 : Nat) : Int)) == 0) = true := rfl
    simp only [enter_eq, ev_seq, seqK_norm, seqK_exit, seqK_ret, ev_reg, ev_cond, condK_true, condK_false, ev_block, blockK_norm, blockK_ret, blockK_exit, ev_loop, ev_skip, ev_exit, ev_ret, regK_cons, regK_nil, guard_none, guard_some, regG_true, regG_false, regO_some, op_mov, op_conv, op_bin, op_bsl, op_box, op_mks, op_s2b, op_pick, op_un, op_eq, op_len, op_ext, op_load, op_iaddr, op_slice, op_b2s, op_idxS, op_mx, op_mn, op_call, op_store, op_app, op_copy, args_eq, result_one', rv_loc, finish_norm, finish_ret, outK_some, keep_true, keep_false, keep_nil, p_bin, p_pick, p_un, p_eq, p_conv, evNew, pureK_some, newK_some, X.eval, set_none, set_some, List.map_cons, List.map_nil, List.getD_cons_zero, List.getD_cons_succ, List.getD_nil, List.set_cons_zero, List.set_cons_succ, binCV, unCV, isShift, intArithF_eq, shiftF_eq, wrapF_eq, intArith, shift, eqVal, bound, asNat_cast, cond_true, cond_false, BEq.rfl, beq_self_eq_true, evalParts, fillParts, AV.cells, AV.ofCells, XV.av, AV.xv, List.length_cons, List.length_nil, zeros, patch, setMany, List.nil_append, List.cons_append, Nat.ble, Nat.add_eq, Nat.zero_add, Nat.add_zero, Nat.reduceAdd, Nat.reduceMul, Nat.reduceSub, Nat.ble_eq, Nat.reduceLeDiff, Nat.reduceBEq, Int.reduceBEq, Int.reduceNeg, Bool.and_true, Bool.and_false, Bool.true_and, Bool.false_and, Bool.not_true, Bool.not_false, Bool.true_eq_false, Bool.false_eq_true, Int.reduceLT, Int.reduceLE, Int.reduceGT, Int.reduceGE, decide_true, decide_false, Bool.not_eq_true, loopN_norm, loopN_exit, tf, ft, ff, q0]
    exact ⟨_, rfl, get_new_at, (Ext.refl _).new _, rfl⟩
  have q0 : (((n : Nat) : Int) == 0) = false := by simp only [beq_eq_false_iff_ne, ne_eq]; omega
  have h1 : 1 ≤ n := by omega
  have c1 : decide ((n : Int) < 0) = false := decide_eq_false (by omega)
  have u1 : IntKind.u64.wrap (n : Int) = (n : Int) := wrapUNat (by omega)
  have u2 : IntKind.u64.wrap 1 = 1 := rfl
  have u3 : IntKind.i64.wrap (n : Int) = (n : Int) := wrapNat (by omega)
  have u4 : decide ((n : Int) > 9223372036854775807) = false := decide_eq_false (by omega)
  have u5 : Nat.ble n n = true := Nat.ble_eq_true_of_le (Nat.le_refl _)
  have u7 : decide ((n : Int) > 8192) = false := decide_eq_false (by omega)
  have l1 : ∀ loc vals h', evPure loc (.c (.sl i 0 1 c) :: vals) h' (.len .sl (.val 0)) = some (.c (.int .i64 1)) := fun _ _ _ => rfl
  have e1 := mul_ok (N := N) (d := d) (h := h) n (by omega)
  have e2 := mnz_call (N := N) (d := d + 1) (h := h) (n := n) hn
  obtain ⟨z, hz⟩ : ∃ z : List CV, z = [anyC] := ⟨_, rfl⟩
  have lz : z.length = 1 := by rw [hz]; rfl
  have hl : v.length = z.length := by rw [hv, lz]
  rw [← zeros_any, ← hz] at e2
  have g0 : (h.new (.cells (zeros n z))).get h.next = some (.cells (half n 0 z v)) := get_new_at
  have hs : source (h.new (.cells (zeros n z))) 1 (.c (.sl i 0 1 c)) = some (1, v) := source_new ((get_new_old hi).trans hg) (by rw [hv])
  have w1 := write_many (o := 0) (vs := v) g0 (by rw [half_len hl (by omega), hl, Nat.zero_add]; have := Nat.mul_le_mul_right z.length h1; omega)
  have hp := half_put (n := n) (k := 0) (m := 1) (z := z) (v := v) hl (by omega)
  rw [zeros_one, Nat.zero_mul] at hp
  rw [hp] at w1
  have tk : v.take (min 1 n * 1) = v := by rw [Nat.min_eq_left h1, Nat.one_mul, List.take_of_length_le (by omega)]
  have cp : evCopy (h.new (.cells (zeros n z))) 1 (.c (.sl h.next 0 n (.ex n))) (.c (.sl i 0 1 c)) = some (.c (.int .i64 ((1 : Nat) : Int)), (h.new (.cells (zeros n z))).put h.next (.cells (half n (0 + 1) z v))) := by
    unfold evCopy
    simp only [hs, tk, w1]
    rw [Nat.min_eq_left h1]; rfl
  obtain ⟨h2, e3⟩ : ∃ h2, h2 = (h.new (.cells (zeros n z))).put h.next (.cells (half n (0 + 1) z v)) := ⟨_, rfl⟩
  rw [← e3] at cp
  have x2 : Ext h h2 := by rw [e3]; exact ((Ext.refl _).new _).put (Nat.le_refl _) _
  have n2 : h2.next = h.next + 1 := by rw [e3]; rfl
  have g2 : h2.get h.next = some (.cells (half n (0 + 1) z v)) := by rw [e3]; exact get_put_at
  have s0 : ∀ loc vals H, evPure loc (.c (.int .i64 (n : Int)) :: .c (.int .i64 (n : Int)) :: .c (.sl h.next 0 n (.dy 1)) :: vals) H (.slice 1 (.val 2) none (some (.val 1)) (some (.val 0))) = some (.c (.sl h.next 0 n (.ex n))) := fun loc vals H => by
    have b0 : Nat.ble 0 n = true := Nat.ble_eq_true_of_le (by omega)
    simp only [evPure, X.eval, List.getD_cons_zero, List.getD_cons_succ, bound, asNat_cast, b0, u5, Bool.true_and, cond_true, Nat.zero_add, Nat.zero_mul, Nat.sub_zero]
  have cp' : evCopy (h.new (.cells (zeros n z))) 1 (.c (.sl h.next 0 n (.ex n))) (.c (.sl i 0 1 c)) = some (.c (.int .i64 1), h2) := cp
  have L : ∀ loc, keepOnly ir35_k0 loc = [.junk, .junk, .junk, .junk, .junk, .c (.int .i64 (n : Int)), .c (.int .i64 (n : Int)), .c (.sl h.next 0 n (.ex n)), .c (.int .i64 1), .junk, .junk, .junk, .junk, .junk, .junk, .junk, .junk] →
      ∃ r, loopK (evCallX table 21 37 N (d + 2)) N ir35_k0 ir35_l0 N loc h2 = some r ∧ ∃ h' a0 a1 a2 a3 a4 a5 a6 l, r = (.exit 0, a0 :: a1 :: a2 :: a3 :: a4 :: a5 :: a6 :: .c (.sl h.next 0 n (.ex n)) :: l, h') ∧ h'.get h.next = some (.cells (zeros n v)) ∧ Ext h h' ∧ h'.next = h.next + 1 := by
    intro loc hloc
    refine loop_inv (n := n) (fun k loc h' => h'.get h.next = some (.cells (half n (min (2 ^ k) n) z v)) ∧ Ext h h' ∧ h'.next = h.next + 1 ∧ loc = [.junk, .junk, .junk, .junk, .junk, .c (.int .i64 (n : Int)), .c (.int .i64 (n : Int)), .c (.sl h.next 0 n (.ex n)), .c (.int .i64 ((min (2 ^ k) n : Nat) : Int)), .junk, .junk, .junk, .junk, .junk, .junk, .junk, .junk]) _ ?_ ⟨by rw [Nat.pow_zero, Nat.min_eq_left h1]; exact g2, x2, n2, by rw [Nat.pow_zero, Nat.min_eq_left h1]; exact hloc⟩ (by omega)
    rintro k loc h' hk ⟨g, xe, hn', rfl⟩
    unfold ir35_l0
    have hp1 := pow_gt k
    by_cases hlt : 2 ^ k < n
    · left
      refine ⟨by omega, ?_⟩
      rw [Nat.min_eq_left (Nat.le_of_lt hlt)] at g ⊢
      have v1 : decide (((2 ^ k : Nat) : Int) < (n : Int)) = true := ltNat hlt
      have mn : (if (n : Int) < ((2 ^ k : Nat) : Int) then (n : Int) else ((2 ^ k : Nat) : Int)) = ((2 ^ k : Nat) : Int) := if_neg (by omega)
      have s1 : ∀ loc vals H, evPure loc (.c (.int .i64 ((2 ^ k : Nat) : Int)) :: .c (.sl h.next 0 n (.ex n)) :: vals) H (.slice 1 (.val 1) (some (.val 0)) none none) = some (.c (.sl h.next (2 ^ k * 1) (n - 2 ^ k) (.ex (n - 2 ^ k)))) := fun loc vals H => by
        have b1 : Nat.ble (2 ^ k) n = true := Nat.ble_eq_true_of_le (by omega)
        have b2 : Nat.ble n n = true := Nat.ble_eq_true_of_le (Nat.le_refl _)
        simp only [evPure, X.eval, List.getD_cons_zero, List.getD_cons_succ, bound, asNat_cast, b1, b2, Bool.true_and, cond_true, Nat.zero_add]
      have s2 : ∀ loc vals H, evPure loc (.c (.int .i64 ((2 ^ k : Nat) : Int)) :: .c (.sl h.next 0 n (.ex n)) :: vals) H (.slice 1 (.val 1) none (some (.val 0)) none) = some (.c (.sl h.next 0 (2 ^ k) (.ex n))) := fun loc vals H => by
        have b1 : Nat.ble (2 ^ k) n = true := Nat.ble_eq_true_of_le (by omega)
        have b2 : Nat.ble 0 (2 ^ k) = true := Nat.ble_eq_true_of_le (Nat.zero_le _)
        simp only [evPure, X.eval, List.getD_cons_zero, List.getD_cons_succ, bound, asNat_cast, b1, b2, Bool.true_and, cond_true, Nat.zero_add, Nat.zero_mul, Nat.sub_zero]
      have cm := copy_more (sz := 1) (c := .ex (n - 2 ^ k)) (c' := .ex n) lz hl g (by omega)
      have hm : 2 ^ k + min (2 ^ k) (n - 2 ^ k) = min (2 ^ (k + 1)) n := by rw [Nat.pow_succ]; omega
      rw [hm] at cm
      have v2 : IntKind.i64.wrap (((2 ^ k : Nat) : Int) + ((min (2 ^ k) (n - 2 ^ k) : Nat) : Int)) = ((min (2 ^ (k + 1)) n : Nat) : Int) := by
        rw [← hm, wrapI (by omega) (by omega)]; omega
      simp only [enter_eq, ev_seq, seqK_norm, seqK_exit, seqK_ret, ev_reg, ev_cond, condK_true, condK_false, ev_block, blockK_norm, blockK_ret, blockK_exit, ev_loop, ev_skip, ev_exit, ev_ret, regK_cons, regK_nil, guard_none, guard_some, regG_true, regG_false, regO_some, op_mov, op_conv, op_bin, op_bsl, op_box, op_mks, op_s2b, op_pick, op_un, op_eq, op_len, op_ext, op_load, op_iaddr, op_slice, op_b2s, op_idxS, op_mx, op_mn, op_call, op_store, op_app, op_copy, args_eq, result_one', rv_loc, finish_norm, finish_ret, outK_some, keep_true, keep_false, keep_nil, p_bin, p_pick, p_un, p_eq, p_conv, evNew, pureK_some, newK_some, X.eval, set_none, set_some, List.map_cons, List.map_nil, List.getD_cons_zero, List.getD_cons_succ, List.getD_nil, List.set_cons_zero, List.set_cons_succ, binCV, unCV, isShift, intArithF_eq, shiftF_eq, wrapF_eq, intArith, shift, eqVal, bound, asNat_cast, cond_true, cond_false, BEq.rfl, beq_self_eq_true, evalParts, fillParts, AV.cells, AV.ofCells, XV.av, AV.xv, List.length_cons, List.length_nil, zeros, patch, setMany, List.nil_append, List.cons_append, Nat.ble, Nat.add_eq, Nat.zero_add, Nat.add_zero, Nat.reduceAdd, Nat.reduceMul, Nat.reduceSub, Nat.ble_eq, Nat.reduceLeDiff, Nat.reduceBEq, Int.reduceBEq, Int.reduceNeg, Bool.and_true, Bool.and_false, Bool.true_and, Bool.false_and, Bool.not_true, Bool.not_false, Bool.true_eq_false, Bool.false_eq_true, Int.reduceLT, Int.reduceLE, Int.reduceGT, Int.reduceGE, decide_true, decide_false, Bool.not_eq_true, loopN_norm, loopN_exit, tf, ft, ff, ev_dreg, dregK_nil, dregK_cons, dregE_true, dregP_some, dregX_some, d_mov, d_bin, d_eq, d_pick, d_un, d_conv, d_b2s, d_len, d_load, d_iaddr, d_slice, d_ext, d_call, d_store, chk_done, chk_none, chk_some, chkG_true, chkG_false, chkOne_nil, chkOne_cons, chkH_some, chkV_same, stage_none, stage_some, look_hit, look_miss, news_nil, wb_cons, wb_nil, skip0, List.reverse_cons, List.reverse_nil, v1, p_mn, foldInt, mn, s1, s2, d_copy, cm, v2]
      exact ⟨_, _, rfl, get_put_at, xe.put (Nat.le_refl _) _, hn', rfl⟩
    · right
      rw [Nat.min_eq_right (by omega)] at g ⊢
      have v1 : decide ((n : Int) < (n : Int)) = false := geNat (Nat.le_refl _)
      simp only [enter_eq, ev_seq, seqK_norm, seqK_exit, seqK_ret, ev_reg, ev_cond, condK_true, condK_false, ev_block, blockK_norm, blockK_ret, blockK_exit, ev_loop, ev_skip, ev_exit, ev_ret, regK_cons, regK_nil, guard_none, guard_some, regG_true, regG_false, regO_some, op_mov, op_conv, op_bin, op_bsl, op_box, op_mks, op_s2b, op_pick, op_un, op_eq, op_len, op_ext, op_load, op_iaddr, op_slice, op_b2s, op_idxS, op_mx, op_mn, op_call, op_store, op_app, op_copy, args_eq, result_one', rv_loc, finish_norm, finish_ret, outK_some, keep_true, keep_false, keep_nil, p_bin, p_pick, p_un, p_eq, p_conv, evNew, pureK_some, newK_some, X.eval, set_none, set_some, List.map_cons, List.map_nil, List.getD_cons_zero, List.getD_cons_succ, List.getD_nil, List.set_cons_zero, List.set_cons_succ, binCV, unCV, isShift, intArithF_eq, shiftF_eq, wrapF_eq, intArith, shift, eqVal, bound, asNat_cast, cond_true, cond_false, BEq.rfl, beq_self_eq_true, evalParts, fillParts, AV.cells, AV.ofCells, XV.av, AV.xv, List.length_cons, List.length_nil, zeros, patch, setMany, List.nil_append, List.cons_append, Nat.ble, Nat.add_eq, Nat.zero_add, Nat.add_zero, Nat.reduceAdd, Nat.reduceMul, Nat.reduceSub, Nat.ble_eq, Nat.reduceLeDiff, Nat.reduceBEq, Int.reduceBEq, Int.reduceNeg, Bool.and_true, Bool.and_false, Bool.true_and, Bool.false_and, Bool.not_true, Bool.not_false, Bool.true_eq_false, Bool.false_eq_true, Int.reduceLT, Int.reduceLE, Int.reduceGT, Int.reduceGE, decide_true, decide_false, Bool.not_eq_true, loopN_norm, loopN_exit, tf, ft, ff, v1]
      refine ⟨_, rfl, by simp, _, _, _, _, _, _, _, _, _, rfl, ?_, xe, hn'⟩
      rw [g]; unfold half; simp [zeros]
  obtain ⟨r, hr, h', a0, a1, a2, a3, a4, a5, a6, l, rfl, g', x', n'⟩ := L [.c (.sl i 0 1 c), .c (.int .i64 (n : Int)), .c .nils, .c (.int .u64 0), .c (.int .u64 (n : Int)), .c (.int .i64 (n : Int)), .c (.int .i64 (n : Int)), .c (.sl h.next 0 n (.ex n)), .c (.int .i64 1), .tup [], .c (.bool false), .c (.bool false), .c (.bool false), .c (.bool false), .c (.bool false), .tup [], .tup []] rfl
  simp only [enter_eq, ev_seq, seqK_norm, seqK_exit, seqK_ret, ev_reg, ev_cond, condK_true, condK_false, ev_block, blockK_norm, blockK_ret, blockK_exit, ev_loop, ev_skip, ev_exit, ev_ret, regK_cons, regK_nil, guard_none, guard_some, regG_true, regG_false, regO_some, op_mov, op_conv, op_bin, op_bsl, op_box, op_mks, op_s2b, op_pick, op_un, op_eq, op_len, op_ext, op_load, op_iaddr, op_slice, op_b2s, op_idxS, op_mx, op_mn, op_call, op_store, op_app, op_copy, args_eq, result_one', rv_loc, finish_norm, finish_ret, outK_some, keep_true, keep_false, keep_nil, p_bin, p_pick, p_un, p_eq, p_conv, evNew, pureK_some, newK_some, X.eval, set_none, set_some, List.map_cons, List.map_nil, List.getD_cons_zero, List.getD_cons_succ, List.getD_nil, List.set_cons_zero, List.set_cons_succ, binCV, unCV, isShift, intArithF_eq, shiftF_eq, wrapF_eq, intArith, shift, eqVal, bound, asNat_cast, cond_true, cond_false, BEq.rfl, beq_self_eq_true, evalParts, fillParts, AV.cells, AV.ofCells, XV.av, AV.xv, List.length_cons, List.length_nil, zeros, patch, setMany, List.nil_append, List.cons_append, Nat.ble, Nat.add_eq, Nat.zero_add, Nat.add_zero, Nat.reduceAdd, Nat.reduceMul, Nat.reduceSub, Nat.ble_eq, Nat.reduceLeDiff, Nat.reduceBEq, Int.reduceBEq, Int.reduceNeg, Bool.and_true, Bool.and_false, Bool.true_and, Bool.false_and, Bool.not_true, Bool.not_false, Bool.true_eq_false, Bool.false_eq_true, Int.reduceLT, Int.reduceLE, Int.reduceGT, Int.reduceGE, decide_true, decide_false, Bool.not_eq_true, loopN_norm, loopN_exit, tf, ft, ff, q0, c1, u1, u2, u3, u4, u7, l1, e1, op_ext, p_ext, List.getElem?_cons_zero, List.getElem?_cons_succ, e2, s0, cp', hr, blockK_exit_eq]
  exact ⟨_, rfl, g', x', n'⟩
end
end Lav
