/-
  Layer 15: all steps of bytes.
-/
import Derived.Test.YtdeehmncnfdmkaaScr5
set_option maxRecDepth 100000
set_option linter.unusedSimpArgs false
namespace Lav
open Go (IntKind)

/-- A step's cells beside a slice. -/
def Sees (h : Heap) (z : CV) (l : List CV) (s : Stp) : Prop := ∃ x y, l = stC s x y ∧ Txt h x s.op.data ∧ Txt h y s.bits ∧ (∀ k, blk x = some k → blk z ≠ some k) ∧ (∀ k, blk y = some k → blk z ≠ some k)
theorem Txt.old {h : Heap} {x : CV} {s : List Nat} (t : Txt h x s) : ∀ k, blk x = some k → k < h.next := by
  intro k hk
  rcases t with ⟨rfl, _⟩ | ⟨i, o, c, rfl, h2, _⟩
  · cases hk
  · simp [blk] at hk; omega
theorem Sees.ext {h h' : Heap} {z : CV} {l : List CV} {s : Stp} (t : Sees h z l s) (e : Ext h h') : Sees h' z l s := by
  obtain ⟨x, y, h1, h2, h3, h4, h5⟩ := t
  exact ⟨x, y, h1, h2.ext e, h3.ext e, h4, h5⟩

/-- A slice of steps. -/
def Rows (h0 h : Heap) (z : CV) (n : Nat) (f : Nat → Stp) : Prop := ∃ l, Mine 11 h0 h z n l ∧ ∀ j, j < n → Sees h z ((l.drop (j * 11)).take 11) (f j)
theorem Rows.nil {h0 h : Heap} {f : Nat → Stp} : Rows h0 h .nils 0 f := ⟨[], Mine.nil, fun j hj => by omega⟩
theorem Rows.ext {h0 h h' : Heap} {z : CV} {n : Nat} {f : Nat → Stp} (r : Rows h0 h z n f) (e : Ext h h') : Rows h0 h' z n f := by
  obtain ⟨l, h1, h2⟩ := r
  exact ⟨l, h1.keep e.1 fun k hk _ => e.2 k hk, fun j hj => (h2 j hj).ext e⟩
theorem Rows.len {h0 h1 h : Heap} {z : CV} {n : Nat} {f : Nat → Stp} (r : Rows h0 h1 z n f) {loc vals : List AV} {X : X} (hX : X.eval loc vals = .c z) : evPure loc vals h (.len .sl X) = some (.c (.int .i64 (n : Int))) := by
  obtain ⟨l, h1, _⟩ := r
  exact h1.len hX
theorem Rows.young {h0 h : Heap} {z : CV} {n : Nat} {f : Nat → Stp} (r : Rows h0 h z n f) : ∀ k, blk z = some k → h0.next ≤ k := by
  obtain ⟨l, h1, _⟩ := r
  exact h1.young
theorem Rows.from_ {h00 h0 h : Heap} {z : CV} {n : Nat} {f : Nat → Stp} (r : Rows h0 h z n f) (e : h00.next ≤ h0.next) : Rows h00 h z n f := by
  obtain ⟨l, ⟨hl, h1⟩, h2⟩ := r
  exact ⟨l, ⟨hl, h1.imp id fun ⟨i, q1, q2, q3, q4⟩ => ⟨i, q1, q2, Nat.le_trans e q3, q4⟩⟩, h2⟩
theorem Rows.congr {h0 h : Heap} {z : CV} {n : Nat} {f g : Nat → Stp} (r : Rows h0 h z n f) (e : ∀ j, j < n → f j = g j) : Rows h0 h z n g := by
  obtain ⟨l, h1, h2⟩ := r
  exact ⟨l, h1, fun j hj => by rw [← e j hj]; exact h2 j hj⟩
theorem Rows.at_ {h0 h : Heap} {z : CV} {n : Nat} {f : Nat → Stp} (r : Rows h0 h z n f) {j : Nat} (hj : j < n) :
    ∃ i x y, z = .sl i 0 n (.dy 11) ∧ i < h.next ∧ h.read i (j * 11) 11 = some (stC (f j) x y) ∧ Txt h x (f j).op.data ∧ Txt h y (f j).bits := by
  obtain ⟨l, ⟨hl, ⟨_, h0⟩ | ⟨i, rfl, hg, _, hi⟩⟩, h2⟩ := r
  · omega
  obtain ⟨x, y, e, tx, ty, _, _⟩ := h2 j hj
  refine ⟨i, x, y, rfl, hi, ?_, tx, ty⟩
  have hle : (j + 1) * 11 ≤ n * 11 := Nat.mul_le_mul_right _ hj
  rw [read_part hg (by omega), e]

/-- One step more. -/
theorem add_row {h0 h h1 h2 : Heap} {z : CV} {n : Nat} {f : Nat → Stp} {x y : CV} (r : Rows h0 h z n f) (e0 : h0.next ≤ h.next) (e1 : Ext h h1) (e2 : h2 = h1.new (.cells (stC (f n) x y)))
    (tx : TxtY h h1 x (f n).op.data) (ty : TxtY h h1 y (f n).bits) (hn : n < 100000) :
    ∃ z' h3, evApp h2 11 (.c z) (.c (.sl h1.next 0 1 (.ex 1))) = some (.c z', h3) ∧ Rows h0 h3 z' (n + 1) f ∧ h.next ≤ h3.next ∧ (∀ k, k < h.next → blk z ≠ some k → h3.get k = h.get k) := by
  have e12 : Ext h h2 := by rw [e2]; exact e1.new _
  have n2 : h2.next = h1.next + 1 := by rw [e2]; rfl
  obtain ⟨l, m, hs⟩ := r.ext e12
  have src : source h2 11 (.c (.sl h1.next 0 1 (.ex 1))) = some (0 + 1, stC (f n) x y) := source_new (by rw [e2]; exact get_new_at) rfl
  obtain ⟨h3, a1, a2, a3, a4⟩ := app_mine m (by have := e12.1; omega) src rfl (by omega)
  have yz := r.young
  have oldz : ∀ k, blk z = some k → k < h.next := by
    intro k hk
    obtain ⟨l', ⟨_, ⟨rfl, _⟩ | ⟨i, rfl, _, _, h5⟩⟩, _⟩ := r
    · cases hk
    · simp [blk] at hk; omega
  refine ⟨_, h3, a1, ⟨_, a2, fun j hj => ?_⟩, by have := e12.1; omega, fun k hk hz => (a4 k (by have := e12.1; omega) hz).trans (e12.2 k hk)⟩
  have kp : ∀ {x : CV} {s : List Nat}, Txt h2 x s → (∀ k, blk x = some k → blk z ≠ some k) → Txt h3 x s ∧ ∀ k, blk x = some k → blk (CV.sl h2.next 0 (n + (0 + 1)) (.dy 11)) ≠ some k := fun {x s} t hb =>
    ⟨t.keep (by omega) fun k hk hx => a4 k hk (hb k hx), fun k hk => by have := t.old k hk; simp [blk]; omega⟩
  have hl := m.1
  rcases Nat.lt_or_ge j n with hjn | hjn
  · obtain ⟨x', y', q1, q2, q3, q4, q5⟩ := hs j hjn
    obtain ⟨u1, u2⟩ := kp q2 q4
    obtain ⟨u3, u4⟩ := kp q3 q5
    refine ⟨x', y', ?_, u1, u3, u2, u4⟩
    have hle : (j + 1) * 11 ≤ n * 11 := Nat.mul_le_mul_right _ hjn
    rw [List.drop_append_of_le_length (by omega), List.take_append_of_le_length (by rw [List.length_drop]; omega)]
    exact q1
  · have hjn' : j = n := by omega
    subst hjn'
    have yx : ∀ k, blk x = some k → blk z ≠ some k := fun k hk hz => by have := tx.2 k hk; have := oldz k hz; omega
    have yy : ∀ k, blk y = some k → blk z ≠ some k := fun k hk hz => by have := ty.2 k hk; have := oldz k hz; omega
    have x2 : Ext h1 h2 := by rw [e2]; exact (Ext.refl _).new _
    obtain ⟨u1, u2⟩ := kp (tx.1.ext x2) yx
    obtain ⟨u3, u4⟩ := kp (ty.1.ext x2) yy
    refine ⟨x, y, ?_, u1, u3, u2, u4⟩
    rw [List.drop_append, List.drop_of_length_le (by omega), hl, Nat.sub_self, List.drop_zero, List.nil_append]
    rfl

def stp (c : Cf) (s : List Nat) (k : Nat) : Stp := stepOf c (s.getD (4 * k) 0) (s.getD (4 * k + 1) 0) (s.getD (4 * k + 2) 0) (s.getD (4 * k + 3) 0)

/-- Further on. -/
def adv (x : CV) (k : Nat) : CV := match x with
  | .sl i o n c => .sl i (o + 4 * k) (n - 4 * k) c
  | x => x

theorem byteAt {h : Heap} {i o : Nat} {c : Cap} {s : List Nat} (t : Txt h (.sl i o s.length c) s) {j : Nat} (hj : j < s.length) : h.read i (o + j) 1 = some [.int .u8 ((s.getD j 0 : Nat) : Int)] ∧ s.getD j 0 < 256 ∧ i < h.next := by
  rcases t with ⟨h1, _⟩ | ⟨i', o', c', h1, h2, h3, h4⟩
  · cases h1
  cases h1
  have e : s.getD j 0 = s[j] := by simp [hj]
  rcases h3 with rfl | h3
  · simp at hj
  rw [e]
  refine ⟨?_, h4 _ (List.getElem_mem _), h2⟩
  have := read_sub h3 (b := j) (c := 1) (by omega)
  rw [this]
  simp [byteCells, List.drop_eq_getElem_cons, hj]
theorem four_at {h : Heap} {i o : Nat} {c : Cap} {s : List Nat} (t : Txt h (.sl i o s.length c) s) {k : Nat} (hk : 4 * k + 4 ≤ s.length) : Four h i (o + 4 * k) (s.getD (4 * k) 0) (s.getD (4 * k + 1) 0) (s.getD (4 * k + 2) 0) (s.getD (4 * k + 3) 0) :=
  ⟨(byteAt t (by omega)).1, by rw [Nat.add_assoc]; exact (byteAt t (by omega)).1, by rw [Nat.add_assoc]; exact (byteAt t (by omega)).1, by rw [Nat.add_assoc]; exact (byteAt t (by omega)).1, (byteAt t (by omega)).2.1, (byteAt t (by omega)).2.1, (byteAt t (by omega)).2.1, (byteAt t (by omega)).2.1, (byteAt t (j := 4 * k) (by omega)).2.2⟩

section
variable {N d : Nat} {h : Heap}

theorem all_no (c : Cf) (hc : c.ok = false) (x : AV) : ∃ h', evCallX table 21 37 N (d + 7) 22 [x, .agg (cfC c)] h = some (.c .nils, h') ∧ Ext h h' := by
  obtain ⟨H0, hH0⟩ : ∃ H, H = h.new (.cells (cfC c)) := ⟨_, rfl⟩
  have x0 : Ext h H0 := by rw [hH0]; exact (Ext.refl _).new _
  have g0 : H0.get h.next = some (.cells (cfC c)) := by rw [hH0]; exact get_new_at
  have q0 : H0.read h.next 0 4 = some (cfC c) := read_all g0 rfl
  obtain ⟨H1, e1, x1⟩ := may_all (N := N) (d := d + 5) (h := H0) c
  rw [hc] at e1
  have bx : AV.cells (.agg (cfC c)) = some (cfC c) := rfl
  rw [evCallX_eq (F := ir22) rfl rfl rfl rfl]
  unfold ir22
  rw [bodyK_eq]
  simp only [enter_eq, ev_seq, seqK_norm, seqK_exit, seqK_ret, ev_reg, ev_cond, condK_true, condK_false, ev_block, blockK_norm, blockK_ret, blockK_exit, ev_loop, ev_skip, ev_exit, ev_ret, regK_cons, regK_nil, guard_none, guard_some, regG_true, regG_false, regO_some, op_mov, op_conv, op_bin, op_bsl, op_box, op_mks, op_s2b, op_pick, op_un, op_eq, op_len, op_ext, op_load, op_iaddr, op_slice, op_b2s, op_idxS, op_mx, op_mn, op_call, op_store, op_app, op_copy, args_eq, result_one', rv_loc, finish_norm, finish_ret, outK_some, keep_true, keep_false, keep_nil, p_bin, p_pick, p_un, p_eq, p_conv, evNew, pureK_some, newK_some, X.eval, set_none, set_some, List.map_cons, List.map_nil, List.getD_cons_zero, List.getD_cons_succ, List.getD_nil, List.set_cons_zero, List.set_cons_succ, binCV, unCV, isShift, intArithF_eq, shiftF_eq, wrapF_eq, intArith, shift, eqVal, bound, asNat_cast, cond_true, cond_false, BEq.rfl, beq_self_eq_true, evalParts, fillParts, AV.cells, AV.ofCells, XV.av, AV.xv, List.length_cons, List.length_nil, zeros, patch, setMany, List.nil_append, List.cons_append, Nat.ble, Nat.add_eq, Nat.zero_add, Nat.add_zero, Nat.reduceAdd, Nat.reduceMul, Nat.reduceSub, Nat.ble_eq, Nat.reduceLeDiff, Nat.reduceBEq, Int.reduceBEq, Int.reduceNeg, Bool.and_true, Bool.and_false, Bool.true_and, Bool.false_and, Bool.not_true, Bool.not_false, Bool.true_eq_false, Bool.false_eq_true, Int.reduceLT, Int.reduceLE, Int.reduceGT, Int.reduceGE, decide_true, decide_false, Bool.not_eq_true, loopN_norm, loopN_exit, tf, ft, ff, bx, ← hH0, p_load, AV.ofCells, q0, e1]
  exact ⟨_, rfl, x0.trans x1⟩

theorem all_ok (c : Cf) (hc : c.ok = true) {s : List Nat} {b : CV} (t : Txt h b s) (sh : b = .nils ∨ ∃ i o, b = .sl i o s.length (.dy 1)) (hs : s.length ≤ 300) (hN : 100 ≤ N) :
    ∃ z h', evCallX table 21 37 N (d + 7) 22 [.c b, .agg (cfC c)] h = some (.c z, h') ∧ Rows h h' z (s.length / 4) (stp c s) ∧ Ext h h' := by
  obtain ⟨H0, hH0⟩ : ∃ H, H = h.new (.cells (cfC c)) := ⟨_, rfl⟩
  have x0 : Ext h H0 := by rw [hH0]; exact (Ext.refl _).new _
  have n0 : H0.next = h.next + 1 := by rw [hH0]; rfl
  have g0 : H0.get h.next = some (.cells (cfC c)) := by rw [hH0]; exact get_new_at
  have q0 : H0.read h.next 0 4 = some (cfC c) := read_all g0 rfl
  obtain ⟨H1, e1, x1⟩ := may_all (N := N) (d := d + 5) (h := H0) c
  rw [hc] at e1
  have n1 := x1.1
  have bx : AV.cells (.agg (cfC c)) = some (cfC c) := rfl
  have la : ∀ k, k ≤ s.length / 4 → ∀ loc vals H, evPure loc (.c (adv b k) :: vals) H (.len .sl (.val 0)) = some (.c (.int .i64 ((s.length - 4 * k : Nat) : Int))) := by
    intro k hk loc vals H
    rcases sh with rfl | ⟨i, o, rfl⟩
    · rcases t with ⟨_, rfl⟩ | ⟨i, o, c, h1, _⟩
      · simp at hk; subst hk; rfl
      · cases h1
    · rfl
  have L : ∀ loc, keepOnly ir22_k0 loc = [.c b, .junk, .c (.ptr h.next 0), .junk, .c .nils, .junk, .junk] →
      ∃ r, loopK (evCallX table 21 37 N (d + 6)) N ir22_k0 ir22_l0 N loc H1 = some r ∧ ∃ z H a0 a1 a2 a3 l, r = (.exit 0, a0 :: a1 :: a2 :: a3 :: .c z :: l, H) ∧ Rows H1 H z (s.length / 4) (stp c s) ∧ Ext h H ∧ H1.next ≤ H.next := by
    intro loc hloc
    refine loop_inv (n := s.length / 4) (fun k loc H => k ≤ s.length / 4 ∧ ∃ z, Rows H1 H z k (stp c s) ∧ Ext h H ∧ H1.next ≤ H.next ∧ H.get h.next = some (.cells (cfC c)) ∧ loc = [.c (adv b k), .junk, .c (.ptr h.next 0), .junk, .c z, .junk, .junk]) _ ?_ ⟨Nat.zero_le _, .nils, .nil, x0.trans x1, Nat.le_refl _, x1.at_ g0 (by omega), ?_⟩ (by omega)
    · rintro k loc H hk ⟨hkn, z, rw_, xh, nh, gc, rfl⟩
      unfold ir22_l0
      by_cases hlt : k < s.length / 4
      · left
        refine ⟨hlt, ?_⟩
        obtain ⟨i, o, rfl⟩ : ∃ i o, b = .sl i o s.length (.dy 1) := by
          rcases sh with rfl | sh
          · rcases t with ⟨_, rfl⟩ | ⟨i, o, c, h1, _⟩
            · simp at hlt
            · cases h1
          · exact sh
        have v1 : decide (((s.length - 4 * k : Nat) : Int) < 4) = false := decide_eq_false (by omega)
        have q1 : H.read h.next 0 4 = some (cfC c) := read_all gc rfl
        have hf := four_at (t.ext xh) (k := k) (by omega)
        obtain ⟨x, y, H2, e2, tx, ty, x2⟩ := one_ok (N := N) (d := d) (h := H) (n := s.length - 4 * k) (cc := .dy 1) c hc hf (by omega) (by omega)
        obtain ⟨H3, hH3⟩ : ∃ H3, H3 = H2.new (.cells (stC (stp c s k) x y)) := ⟨_, rfl⟩
        obtain ⟨z', H4, a1, a2, a3, a4⟩ := add_row rw_ nh x2 hH3 tx ty (by omega)
        have ly := la k hkn
        have s1 : ∀ loc vals H, evPure loc (.c (.sl i (o + 4 * k) (s.length - 4 * k) (.dy 1)) :: vals) H (.slice 1 (.val 0) (some (.k (.c (.int .i64 4)))) none none) = some (.c (adv (.sl i o s.length (.dy 1)) (k + 1))) := fun loc vals H => by
          have a4 : asNat (.c (.int .i64 4)) = some 4 := rfl
          have b1 : Nat.ble 4 (s.length - 4 * k) = true := Nat.ble_eq_true_of_le (by omega)
          have b2 : Nat.ble (s.length - 4 * k) (s.length - 4 * k) = true := Nat.ble_eq_true_of_le (Nat.le_refl _)
          simp only [adv, evPure, X.eval, List.getD_cons_zero, List.getD_cons_succ, bound, a4, b1, b2, Bool.true_and, cond_true, beq_self_eq_true, Nat.mul_one]
          rw [Nat.mul_succ, Nat.add_assoc, Nat.sub_sub]
        have ea : adv (.sl i o s.length (.dy 1)) k = .sl i (o + 4 * k) (s.length - 4 * k) (.dy 1) := rfl
        have key : ∀ st, st = stp c s k → evCallX table 21 37 N (d + 6) 34 [.c (.sl i (o + 4 * k) (s.length - 4 * k) (.dy 1)), .agg (cfC c)] H = some (.agg (stC st x y), H2) ∧ H3 = H2.new (.cells (stC st x y)) := fun st hst => by rw [hst]; exact ⟨e2, hH3⟩
        obtain ⟨st, hst⟩ : ∃ st, st = stp c s k := ⟨_, rfl⟩
        obtain ⟨e3, hH3'⟩ := key st hst
        rw [ea] at ly ⊢
        simp only [enter_eq, ev_seq, seqK_norm, seqK_exit, seqK_ret, ev_reg, ev_cond, condK_true, condK_false, ev_block, blockK_norm, blockK_ret, blockK_exit, ev_loop, ev_skip, ev_exit, ev_ret, regK_cons, regK_nil, guard_none, guard_some, regG_true, regG_false, regO_some, op_mov, op_conv, op_bin, op_bsl, op_box, op_mks, op_s2b, op_pick, op_un, op_eq, op_len, op_ext, op_load, op_iaddr, op_slice, op_b2s, op_idxS, op_mx, op_mn, op_call, op_store, op_app, op_copy, args_eq, result_one', rv_loc, finish_norm, finish_ret, outK_some, keep_true, keep_false, keep_nil, p_bin, p_pick, p_un, p_eq, p_conv, evNew, pureK_some, newK_some, X.eval, set_none, set_some, List.map_cons, List.map_nil, List.getD_cons_zero, List.getD_cons_succ, List.getD_nil, List.set_cons_zero, List.set_cons_succ, binCV, unCV, isShift, intArithF_eq, shiftF_eq, wrapF_eq, intArith, shift, eqVal, bound, asNat_cast, cond_true, cond_false, BEq.rfl, beq_self_eq_true, evalParts, fillParts, AV.cells, AV.ofCells, XV.av, AV.xv, List.length_cons, List.length_nil, zeros, patch, setMany, List.nil_append, List.cons_append, Nat.ble, Nat.add_eq, Nat.zero_add, Nat.add_zero, Nat.reduceAdd, Nat.reduceMul, Nat.reduceSub, Nat.ble_eq, Nat.reduceLeDiff, Nat.reduceBEq, Int.reduceBEq, Int.reduceNeg, Bool.and_true, Bool.and_false, Bool.true_and, Bool.false_and, Bool.not_true, Bool.not_false, Bool.true_eq_false, Bool.false_eq_true, Int.reduceLT, Int.reduceLE, Int.reduceGT, Int.reduceGE, decide_true, decide_false, Bool.not_eq_true, loopN_norm, loopN_exit, tf, ft, ff, ly, v1, p_load, AV.ofCells, q1, e3, ← hH3', a1, s1]
        exact ⟨_, _, rfl, by omega, z', a2, ⟨by have := xh.1; omega, fun j hj => (a4 j (by omega) (fun hz => by have := rw_.young j hz; omega)).trans (xh.2 j hj)⟩, by omega, (a4 _ (by omega) (fun hz => by have := rw_.young _ hz; omega)).trans gc, rfl⟩
      · right
        have hkn' : k = s.length / 4 := by omega
        have v1 : decide (((s.length - 4 * k : Nat) : Int) < 4) = true := decide_eq_true (by omega)
        have ly := la k hkn
        simp only [enter_eq, ev_seq, seqK_norm, seqK_exit, seqK_ret, ev_reg, ev_cond, condK_true, condK_false, ev_block, blockK_norm, blockK_ret, blockK_exit, ev_loop, ev_skip, ev_exit, ev_ret, regK_cons, regK_nil, guard_none, guard_some, regG_true, regG_false, regO_some, op_mov, op_conv, op_bin, op_bsl, op_box, op_mks, op_s2b, op_pick, op_un, op_eq, op_len, op_ext, op_load, op_iaddr, op_slice, op_b2s, op_idxS, op_mx, op_mn, op_call, op_store, op_app, op_copy, args_eq, result_one', rv_loc, finish_norm, finish_ret, outK_some, keep_true, keep_false, keep_nil, p_bin, p_pick, p_un, p_eq, p_conv, evNew, pureK_some, newK_some, X.eval, set_none, set_some, List.map_cons, List.map_nil, List.getD_cons_zero, List.getD_cons_succ, List.getD_nil, List.set_cons_zero, List.set_cons_succ, binCV, unCV, isShift, intArithF_eq, shiftF_eq, wrapF_eq, intArith, shift, eqVal, bound, asNat_cast, cond_true, cond_false, BEq.rfl, beq_self_eq_true, evalParts, fillParts, AV.cells, AV.ofCells, XV.av, AV.xv, List.length_cons, List.length_nil, zeros, patch, setMany, List.nil_append, List.cons_append, Nat.ble, Nat.add_eq, Nat.zero_add, Nat.add_zero, Nat.reduceAdd, Nat.reduceMul, Nat.reduceSub, Nat.ble_eq, Nat.reduceLeDiff, Nat.reduceBEq, Int.reduceBEq, Int.reduceNeg, Bool.and_true, Bool.and_false, Bool.true_and, Bool.false_and, Bool.not_true, Bool.not_false, Bool.true_eq_false, Bool.false_eq_true, Int.reduceLT, Int.reduceLE, Int.reduceGT, Int.reduceGE, decide_true, decide_false, Bool.not_eq_true, loopN_norm, loopN_exit, tf, ft, ff, ly, v1]
        exact ⟨_, rfl, by simp, z, H, _, _, _, _, _, rfl, by rw [← hkn']; exact rw_, xh, nh⟩
    · rw [hloc]
      rcases sh with rfl | ⟨i, o, rfl⟩ <;> rfl
  obtain ⟨r, hr, z, H, a0, a1, a2, a3, l, rfl, rs, xh, nh⟩ := L [.c b, .agg (cfC c), .c (.ptr h.next 0), .c .nils, .c .nils, .c (.bool false), .tup []] rfl
  rw [evCallX_eq (F := ir22) rfl rfl rfl rfl]
  unfold ir22
  rw [bodyK_eq]
  simp only [enter_eq, ev_seq, seqK_norm, seqK_exit, seqK_ret, ev_reg, ev_cond, condK_true, condK_false, ev_block, blockK_norm, blockK_ret, blockK_exit, ev_loop, ev_skip, ev_exit, ev_ret, regK_cons, regK_nil, guard_none, guard_some, regG_true, regG_false, regO_some, op_mov, op_conv, op_bin, op_bsl, op_box, op_mks, op_s2b, op_pick, op_un, op_eq, op_len, op_ext, op_load, op_iaddr, op_slice, op_b2s, op_idxS, op_mx, op_mn, op_call, op_store, op_app, op_copy, args_eq, result_one', rv_loc, finish_norm, finish_ret, outK_some, keep_true, keep_false, keep_nil, p_bin, p_pick, p_un, p_eq, p_conv, evNew, pureK_some, newK_some, X.eval, set_none, set_some, List.map_cons, List.map_nil, List.getD_cons_zero, List.getD_cons_succ, List.getD_nil, List.set_cons_zero, List.set_cons_succ, binCV, unCV, isShift, intArithF_eq, shiftF_eq, wrapF_eq, intArith, shift, eqVal, bound, asNat_cast, cond_true, cond_false, BEq.rfl, beq_self_eq_true, evalParts, fillParts, AV.cells, AV.ofCells, XV.av, AV.xv, List.length_cons, List.length_nil, zeros, patch, setMany, List.nil_append, List.cons_append, Nat.ble, Nat.add_eq, Nat.zero_add, Nat.add_zero, Nat.reduceAdd, Nat.reduceMul, Nat.reduceSub, Nat.ble_eq, Nat.reduceLeDiff, Nat.reduceBEq, Int.reduceBEq, Int.reduceNeg, Bool.and_true, Bool.and_false, Bool.true_and, Bool.false_and, Bool.not_true, Bool.not_false, Bool.true_eq_false, Bool.false_eq_true, Int.reduceLT, Int.reduceLE, Int.reduceGT, Int.reduceGE, decide_true, decide_false, Bool.not_eq_true, loopN_norm, loopN_exit, tf, ft, ff, bx, ← hH0, p_load, AV.ofCells, q0, e1, hr, blockK_exit_eq]
  exact ⟨_, _, rfl, rs.from_ (by omega), xh⟩
end
end Lav
