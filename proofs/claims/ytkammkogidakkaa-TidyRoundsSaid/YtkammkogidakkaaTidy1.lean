/-
  Layer 21: what tidy.Pick and tidy.Due compute over twelve frames that are used and not pinned.
-/
import Derived.Test.YtkammkogidakkaaIr
import Derived.Test.YtkammkogidakkaaFwM
set_option maxRecDepth 100000
set_option linter.unusedSimpArgs false
namespace Lav
open Go (IntKind)

def fr (i : Nat) (d : Bool) : List CV := [.int .i64 1, .int .i64 (i : Int), .int .i64 0, .int .i64 0, .bool d]
def frm : Nat → List Bool → List CV
  | _, [] => []
  | k, d :: ds => fr k d ++ frm (k + 1) ds

theorem frm_len : ∀ (ds : List Bool) (k : Nat), (frm k ds).length = ds.length * 5
  | [], _ => rfl
  | d :: ds, k => by simp [frm, fr, frm_len ds (k + 1)]; omega
theorem frm_append : ∀ (ds : List Bool) (k : Nat) (d : Bool), frm k (ds ++ [d]) = frm k ds ++ fr (k + ds.length) d
  | [], k, d => by simp [frm]
  | e :: ds, k, d => by
    simp only [List.cons_append, frm, frm_append ds (k + 1) d, List.append_assoc, List.length_cons]
    rw [show k + 1 + ds.length = k + (ds.length + 1) by omega]
theorem frm_drop : ∀ (i : Nat) (ds : List Bool) (k : Nat), (frm k ds).drop (i * 5) = frm (k + i) (ds.drop i)
  | 0, _, _ => by simp
  | i + 1, [], _ => by simp [frm]
  | i + 1, d :: ds, k => by
    rw [show (i + 1) * 5 = 5 + i * 5 by omega, ← List.drop_drop]
    show ((fr k d ++ frm (k + 1) ds).drop 5).drop (i * 5) = _
    have : (fr k d ++ frm (k + 1) ds).drop 5 = frm (k + 1) ds := rfl
    rw [this, frm_drop i ds (k + 1), show k + 1 + i = k + (i + 1) by omega]; rfl
theorem frm_set : ∀ (i : Nat) (ds : List Bool) (k : Nat) (b : Bool), (frm k ds).set (i * 5 + 4) (.bool b) = frm k (ds.set i b)
  | _, [], _, _ => by simp [frm]
  | 0, d :: ds, k, b => rfl
  | i + 1, d :: ds, k, b => by
    show (fr k d ++ frm (k + 1) ds).set ((i + 1) * 5 + 4) (.bool b) = fr k d ++ frm (k + 1) (ds.set i b)
    rw [List.set_append_right _ _ (by simp [fr]; omega)]
    rw [show (i + 1) * 5 + 4 - (fr k d).length = i * 5 + 4 by simp [fr]; omega, frm_set i ds (k + 1) b]
theorem frm_cut {ds : List Bool} {i : Nat} (hi : i < ds.length) : cut (frm 0 ds) (i * 5) 5 = some (fr i ds[i]) := by
  rw [cut_part (by rw [frm_len]; omega), frm_drop, List.drop_eq_getElem_cons hi]
  simp [frm, fr]
theorem frm_dirty {ds : List Bool} {i : Nat} (hi : i < ds.length) : (frm 0 ds)[i * 5 + 4]? = some (.bool ds[i]) := by
  have h := frm_drop i ds 0
  have e : ((frm 0 ds).drop (i * 5))[4]? = (frm 0 ds)[i * 5 + 4]? := by rw [List.getElem?_drop]
  rw [← e, h, List.drop_eq_getElem_cons hi]
  simp [frm, fr]

/-- What is picked. -/
def pkGo (ds : List Bool) (most : Nat) : Nat → Nat → List Nat → List Nat
  | 0, _, out => out
  | c + 1, k, out => if most ≤ out.length then out else pkGo ds most c ((k + 1) % 12) (if ds.getD k false then out ++ [k] else out)

theorem pkGo_mem (ds : List Bool) (most : Nat) : ∀ (c k : Nat) (out : List Nat), k < 12 → (∀ x ∈ out, x < 12 ∧ ds.getD x false = true) → ∀ x ∈ pkGo ds most c k out, x < 12 ∧ ds.getD x false = true
  | 0, _, _, _, h => h
  | c + 1, k, out, hk, h => by
    unfold pkGo
    split
    · exact h
    · refine pkGo_mem ds most c _ _ (by omega) fun x hx => ?_
      split at hx
      · rename_i hd
        rcases List.mem_append.1 hx with h1 | h1
        · exact h x h1
        · have : x = k := by simpa using h1
          subst this; exact ⟨hk, hd⟩
      · exact h x hx

theorem pkGo_nodup (ds : List Bool) (most : Nat) : ∀ (c k : Nat) (out : List Nat), c ≤ 12 → k < 12 → out.Nodup → (∀ x ∈ out, ∀ j, j < c → (k + j) % 12 ≠ x) → (pkGo ds most c k out).Nodup
  | 0, _, _, _, _, h, _ => h
  | c + 1, k, out, hc, hk, h, hj => by
    unfold pkGo
    split
    · exact h
    · have h0 : k ∉ out := fun hx => hj k hx 0 (by omega) (by omega)
      refine pkGo_nodup ds most c _ _ (by omega) (by omega) ?_ fun x hx j hjc => ?_
      · split
        · rw [List.nodup_append]
          exact ⟨h, by simp, fun a ha b hb => by simp at hb; subst hb; intro e; subst e; exact h0 ha⟩
        · exact h
      · have hx' : x ∈ out ∨ x = k := by
          split at hx
          · rcases List.mem_append.1 hx with h1 | h1
            · exact .inl h1
            · exact .inr (by simpa using h1)
          · exact .inl hx
        rcases hx' with h1 | rfl
        · have := hj x h1 (j + 1) (by omega)
          omega
        · omega

theorem pkGo_grow (ds : List Bool) (most : Nat) : ∀ (c k : Nat) (out : List Nat), out.length ≤ (pkGo ds most c k out).length
  | 0, _, _ => Nat.le_refl _
  | c + 1, k, out => by
    unfold pkGo
    split
    · exact Nat.le_refl _
    · refine Nat.le_trans ?_ (pkGo_grow ds most c _ _)
      split <;> simp

theorem pkGo_some (ds : List Bool) (most : Nat) (hm : 0 < most) : ∀ (c k : Nat), k < 12 → (∃ j, j < c ∧ ds.getD ((k + j) % 12) false = true) → 0 < (pkGo ds most c k []).length
  | 0, _, _, ⟨j, hj, _⟩ => by omega
  | c + 1, k, hk, ⟨j, hj, hd⟩ => by
    unfold pkGo
    rw [if_neg (by simp; omega)]
    split
    · exact Nat.lt_of_lt_of_le (by simp) (pkGo_grow ds most c _ _)
    · rename_i hn
      refine pkGo_some ds most hm c _ (by omega) ⟨j - 1, ?_, ?_⟩
      · have : j ≠ 0 := fun e => by subst e; rw [show (k + 0) % 12 = k by omega] at hd; exact hn hd
        omega
      · have : j ≠ 0 := fun e => by subst e; rw [show (k + 0) % 12 = k by omega] at hd; exact hn hd
        rw [show ((k + 1) % 12 + (j - 1)) % 12 = (k + j) % 12 by omega]; exact hd

theorem pkGo_none (ds : List Bool) (most : Nat) (hd : ∀ k, ds.getD k false = false) : ∀ (c k : Nat) (out : List Nat), pkGo ds most c k out = out
  | 0, _, _ => rfl
  | c + 1, k, out => by
    unfold pkGo
    split
    · rfl
    · rw [if_neg (by rw [hd]; simp)]
      exact pkGo_none ds most hd c _ _

/-- How many are dirty. -/
def dirty (ds : List Bool) : Nat := ds.count true
theorem dirty_append (ds : List Bool) (d : Bool) : dirty (ds ++ [d]) = dirty ds + d.toNat := by
  simp only [dirty, List.count_append]; cases d <;> rfl
theorem dirty_set : ∀ (ds : List Bool) (i : Nat), ds.getD i false = true → dirty (ds.set i false) + 1 = dirty ds
  | [], i, h => by simp at h
  | d :: ds, 0, h => by
    have : d = true := by simpa using h
    subst this; simp [dirty]
  | d :: ds, i + 1, h => by
    have := dirty_set ds i (by simpa using h)
    simp only [dirty, List.set_cons_succ, List.count_cons] at *
    omega
theorem dirty_le (ds : List Bool) : dirty ds ≤ ds.length := List.count_le_length
theorem dirty_none {ds : List Bool} (h : dirty ds = 0) (k : Nat) : ds.getD k false = false := by
  have hn : true ∉ ds := List.count_eq_zero.1 h
  rcases Nat.lt_or_ge k ds.length with hk | hk
  · rw [List.getD_eq_getElem?_getD, List.getElem?_eq_getElem hk]
    cases e : ds[k] with
    | false => rfl
    | true => exact absurd (e ▸ List.getElem_mem hk) hn
  · simp [List.getD_eq_getElem?_getD, List.getElem?_eq_none hk]
theorem dirty_some {ds : List Bool} (h : 0 < dirty ds) : ∃ k, k < ds.length ∧ ds.getD k false = true := by
  have hn : true ∈ ds := List.count_pos_iff.1 h
  obtain ⟨k, hk, e⟩ := List.getElem_of_mem hn
  exact ⟨k, hk, by simp [List.getD_eq_getElem?_getD, hk, e]⟩

def natI (n : Nat) : Int := (n : Int)
def ints (l : List Nat) : List CV := (l.map natI).map icell

section
variable {N d : Nat}

theorem bne_not' {a b : Int} : (a != b) = !(a == b) := rfl

theorem pick_ok {h : Heap} {b most frm' : Nat} {ds : List Bool} (hN : 13 ≤ N) (hg : h.get b = some (.cells (frm 0 ds))) (hb : b < h.next) (hds : ds.length = 12) (hm : most ≤ 12) (_hf : frm' ≤ 12) :
    ∃ y h', evCallT table 21 N (d + 1) 20 [.c (.sl b 0 12 (.dy 5)), .c (.int .i64 (frm' : Int)), .c (.int .i64 (most : Int))] h = some (.c y, h') ∧ Mine 1 h h' y (pkGo ds most 12 (frm' % 12) []).length (ints (pkGo ds most 12 (frm' % 12) [])) ∧ Ext h h' := by
  rw [evCallT_eq (F := ir20) rfl rfl rfl]
  unfold ir20
  rw [bodyK_eq]
  generalize hR : pkGo ds most 12 (frm' % 12) [] = R
  have L : ∀ loc, keepOnly ir20_k0 loc = [.c (.sl b 0 12 (.dy 5)), .junk, .c (.int .i64 (most : Int)), .junk, .c (.int .i64 12), .c (.int .i64 ((frm' % 12 : Nat) : Int)), .c .nils, .junk, .junk, .junk, .c (.int .i64 12), .c (.int .i64 0), .junk, .junk, .junk] →
      ∃ r, loopK (evCallT table 21 N d) N ir20_k0 ir20_l0 N loc h = some r ∧ ∃ y h' a0 a1 a2 a3 a4 a5 l, r = (.exit 0, a0 :: a1 :: a2 :: a3 :: a4 :: a5 :: .c y :: l, h') ∧ Mine 1 h h' y R.length (ints R) ∧ Ext h h' := by
    intro loc hloc
    refine loop_inv (n := 12) (fun i loc h' => ∃ k out y, k < 12 ∧ pkGo ds most (12 - i) k out = R ∧ Mine 1 h h' y out.length (ints out) ∧ Ext h h' ∧ out.length ≤ i ∧
      loc = [.c (.sl b 0 12 (.dy 5)), .junk, .c (.int .i64 (most : Int)), .junk, .c (.int .i64 12), .c (.int .i64 (k : Int)), .c y, .junk, .junk, .junk, .c (.int .i64 12), .c (.int .i64 (i : Int)), .junk, .junk, .junk]) _ ?_ ⟨frm' % 12, [], .nils, by omega, hR, Mine.nil, Ext.refl h, Nat.le_refl _, hloc⟩ (by omega)
    rintro i loc h' hi ⟨k, out, y, hk, hR', ho, he, hol, rfl⟩
    have ly : ∀ loc vals : List AV, ∀ h : Heap, evPure loc (.c y :: vals) h (.len .sl (.val 0)) = some (.c (.int .i64 (out.length : Int))) := fun _ _ _ => ho.len rfl
    unfold ir20_l0
    by_cases hlt : i < 12
    · have v1 : decide ((i : Int) < 12) = true := ltNat (n := 12) hlt
      have v1' := succI (i := i) (by omega)
      have v2' : Int.tmod (IntKind.i64.wrap ((k : Int) + 1)) 12 = (((k + 1) % 12 : Nat) : Int) := by
        rw [succI (by omega)]; rfl
      have v3 : ((12 : Int) == 0) = false := rfl
      have hc : pkGo ds most (12 - i) k out = if most ≤ out.length then out else pkGo ds most (11 - i) ((k + 1) % 12) (if ds.getD k false then out ++ [k] else out) := by
        rw [show 12 - i = (11 - i) + 1 by omega]; rfl
      by_cases hmo : most ≤ out.length
      · right
        have v4 : decide ((out.length : Int) ≥ (most : Int)) = true := by simp; omega
        rw [hc, if_pos hmo] at hR'
        subst hR'
        simp only [enter_eq, ev_seq, seqK_norm, seqK_exit, seqK_ret, ev_reg, ev_cond, condK_true, condK_false, ev_block, blockK_norm, blockK_ret, blockK_exit, ev_loop, ev_skip, ev_exit, ev_ret, regK_cons, regK_nil, guard_none, guard_some, regG_true, regG_false, regO_some, op_mov, op_conv, op_bin, op_bsl, op_box, op_mks, op_s2b, op_pick, op_un, op_eq, op_len, op_ext, op_load, op_iaddr, op_slice, op_b2s, op_idxS, op_mx, op_mn, op_call, op_store, op_app, op_copy, args_eq, result_one', rv_loc, finish_norm, finish_ret, outK_some, keep_true, keep_false, keep_nil, p_bin, p_pick, p_un, p_eq, p_conv, evNew, pureK_some, newK_some, X.eval, set_none, set_some, List.map_cons, List.map_nil, List.getD_cons_zero, List.getD_cons_succ, List.getD_nil, List.set_cons_zero, List.set_cons_succ, binCV, unCV, isShift, intArithF_eq, shiftF_eq, wrapF_eq, intArith, shift, eqVal, bound, asNat_cast, cond_true, cond_false, BEq.rfl, beq_self_eq_true, evalParts, fillParts, AV.cells, AV.ofCells, XV.av, AV.xv, List.length_cons, List.length_nil, zeros, patch, setMany, List.nil_append, List.cons_append, Nat.ble, Nat.add_eq, Nat.zero_add, Nat.add_zero, Nat.reduceAdd, Nat.reduceMul, Nat.reduceSub, Nat.ble_eq, Nat.reduceLeDiff, Nat.reduceBEq, Int.reduceBEq, Int.reduceNeg, Bool.and_true, Bool.and_false, Bool.true_and, Bool.false_and, Bool.not_true, Bool.not_false, Bool.true_eq_false, Bool.false_eq_true, Int.reduceLT, Int.reduceLE, Int.reduceGT, Int.reduceGE, decide_true, decide_false, Bool.not_eq_true, loopN_norm, loopN_exit, tf, ft, ff, ly, v1, v2', v3, v4]
        exact ⟨_, rfl, by simp, y, h', _, _, _, _, _, _, _, rfl, ho, he⟩
      · left
        refine ⟨hlt, ?_⟩
        rw [hc, if_neg hmo] at hR'
        have v4 : decide ((out.length : Int) ≥ (most : Int)) = false := by simp; omega
        have v5 : Nat.blt k 12 = true := bltT hk
        have hgb := he.at_ hg hb
        have v6 : h'.read b (k * 5) 5 = some (fr k ds[k]) := by
          simp only [Heap.read, hgb]; exact frm_cut (by omega)
        obtain ⟨h1, w1, g1, x1, n1⟩ := box_store (h := h') (z := [.int .i64 0, .int .i64 0, .int .i64 0, .int .i64 0, .bool false]) (v := fr k ds[k]) rfl
        have q0 : h1.read h'.next 0 1 = some [.int .i64 1] := read_cells g1 rfl
        have q2 : h1.read h'.next 2 1 = some [.int .i64 0] := read_cells g1 rfl
        have q4 : h1.read h'.next 4 1 = some [.bool ds[k]] := read_cells g1 rfl
        have ho1 : Mine 1 h h1 y out.length (ints out) := ho.keep x1.1 fun j hj _ => x1.2 j hj
        have he1 : Ext h h1 := he.trans x1
        have v7 : ((12 : Nat) : Int) = 12 := rfl
        have hget : ds.getD k false = ds[k] := by simp [List.getD_eq_getElem?_getD, hk, hds]
        rw [hget] at hR'
        cases hd : ds[k] with
        | false =>
          rw [hd] at w1 q4 v6 hR'
          simp only [fr] at w1
          simp only [enter_eq, ev_seq, seqK_norm, seqK_exit, seqK_ret, ev_reg, ev_cond, condK_true, condK_false, ev_block, blockK_norm, blockK_ret, blockK_exit, ev_loop, ev_skip, ev_exit, ev_ret, regK_cons, regK_nil, guard_none, guard_some, regG_true, regG_false, regO_some, op_mov, op_conv, op_bin, op_bsl, op_box, op_mks, op_s2b, op_pick, op_un, op_eq, op_len, op_ext, op_load, op_iaddr, op_slice, op_b2s, op_idxS, op_mx, op_mn, op_call, op_store, op_app, op_copy, args_eq, result_one', rv_loc, finish_norm, finish_ret, outK_some, keep_true, keep_false, keep_nil, p_bin, p_pick, p_un, p_eq, p_conv, evNew, pureK_some, newK_some, X.eval, set_none, set_some, List.map_cons, List.map_nil, List.getD_cons_zero, List.getD_cons_succ, List.getD_nil, List.set_cons_zero, List.set_cons_succ, binCV, unCV, isShift, intArithF_eq, shiftF_eq, wrapF_eq, intArith, shift, eqVal, bound, asNat_cast, cond_true, cond_false, BEq.rfl, beq_self_eq_true, evalParts, fillParts, AV.cells, AV.ofCells, XV.av, AV.xv, List.length_cons, List.length_nil, zeros, patch, setMany, List.nil_append, List.cons_append, Nat.ble, Nat.add_eq, Nat.zero_add, Nat.add_zero, Nat.reduceAdd, Nat.reduceMul, Nat.reduceSub, Nat.ble_eq, Nat.reduceLeDiff, Nat.reduceBEq, Int.reduceBEq, Int.reduceNeg, Bool.and_true, Bool.and_false, Bool.true_and, Bool.false_and, Bool.not_true, Bool.not_false, Bool.true_eq_false, Bool.false_eq_true, Int.reduceLT, Int.reduceLE, Int.reduceGT, Int.reduceGE, decide_true, decide_false, Bool.not_eq_true, loopN_norm, loopN_exit, tf, ft, ff, bne_not', p_faddr, op_faddr, ly, v1, v1', v2', v3, v4, p_iaddr, p_load, v5, v6, w1, evEff, q0, q2, q4, AV.ofCells, fr]
          exact ⟨_, _, rfl, _, _, y, Nat.mod_lt _ (by omega), by rw [show 12 - (i + 1) = 11 - i by omega]; simpa using hR', ho1, he1, by omega, rfl⟩
        | true =>
          rw [hd] at w1 q4 v6 hR'
          simp only [fr] at w1
          obtain ⟨ha, a1, a2, a3, _⟩ := app_int (v := .int .i64 (k : Int)) (c := .ex 1) (ho1.new (.cells [.int .i64 (k : Int)])) (he1.new _) get_new_at (by omega)
          have a2' : Mine 1 h ha (.sl (h1.next + 1) 0 (out.length + 1) (.dy 1)) (out ++ [k]).length (ints (out ++ [k])) := by
            simp only [ints, List.map_append, List.length_append, List.length_cons, List.length_nil]; exact a2
          simp only [enter_eq, ev_seq, seqK_norm, seqK_exit, seqK_ret, ev_reg, ev_cond, condK_true, condK_false, ev_block, blockK_norm, blockK_ret, blockK_exit, ev_loop, ev_skip, ev_exit, ev_ret, regK_cons, regK_nil, guard_none, guard_some, regG_true, regG_false, regO_some, op_mov, op_conv, op_bin, op_bsl, op_box, op_mks, op_s2b, op_pick, op_un, op_eq, op_len, op_ext, op_load, op_iaddr, op_slice, op_b2s, op_idxS, op_mx, op_mn, op_call, op_store, op_app, op_copy, args_eq, result_one', rv_loc, finish_norm, finish_ret, outK_some, keep_true, keep_false, keep_nil, p_bin, p_pick, p_un, p_eq, p_conv, evNew, pureK_some, newK_some, X.eval, set_none, set_some, List.map_cons, List.map_nil, List.getD_cons_zero, List.getD_cons_succ, List.getD_nil, List.set_cons_zero, List.set_cons_succ, binCV, unCV, isShift, intArithF_eq, shiftF_eq, wrapF_eq, intArith, shift, eqVal, bound, asNat_cast, cond_true, cond_false, BEq.rfl, beq_self_eq_true, evalParts, fillParts, AV.cells, AV.ofCells, XV.av, AV.xv, List.length_cons, List.length_nil, zeros, patch, setMany, List.nil_append, List.cons_append, Nat.ble, Nat.add_eq, Nat.zero_add, Nat.add_zero, Nat.reduceAdd, Nat.reduceMul, Nat.reduceSub, Nat.ble_eq, Nat.reduceLeDiff, Nat.reduceBEq, Int.reduceBEq, Int.reduceNeg, Bool.and_true, Bool.and_false, Bool.true_and, Bool.false_and, Bool.not_true, Bool.not_false, Bool.true_eq_false, Bool.false_eq_true, Int.reduceLT, Int.reduceLE, Int.reduceGT, Int.reduceGE, decide_true, decide_false, Bool.not_eq_true, loopN_norm, loopN_exit, tf, ft, ff, bne_not', p_faddr, op_faddr, ly, v1, v1', v2', v3, v4, p_iaddr, p_load, v5, v6, w1, evEff, q0, q2, q4, AV.ofCells, fr, a1]
          exact ⟨_, _, rfl, _, _, _, Nat.mod_lt _ (by omega), by rw [show 12 - (i + 1) = 11 - i by omega]; simpa using hR', a2', a3, by simp; omega, rfl⟩
    · right
      have hi12 : i = 12 := by omega
      subst hi12
      simp only [enter_eq, ev_seq, seqK_norm, seqK_exit, seqK_ret, ev_reg, ev_cond, condK_true, condK_false, ev_block, blockK_norm, blockK_ret, blockK_exit, ev_loop, ev_skip, ev_exit, ev_ret, regK_cons, regK_nil, guard_none, guard_some, regG_true, regG_false, regO_some, op_mov, op_conv, op_bin, op_bsl, op_box, op_mks, op_s2b, op_pick, op_un, op_eq, op_len, op_ext, op_load, op_iaddr, op_slice, op_b2s, op_idxS, op_mx, op_mn, op_call, op_store, op_app, op_copy, args_eq, result_one', rv_loc, finish_norm, finish_ret, outK_some, keep_true, keep_false, keep_nil, p_bin, p_pick, p_un, p_eq, p_conv, evNew, pureK_some, newK_some, X.eval, set_none, set_some, List.map_cons, List.map_nil, List.getD_cons_zero, List.getD_cons_succ, List.getD_nil, List.set_cons_zero, List.set_cons_succ, binCV, unCV, isShift, intArithF_eq, shiftF_eq, wrapF_eq, intArith, shift, eqVal, bound, asNat_cast, cond_true, cond_false, BEq.rfl, beq_self_eq_true, evalParts, fillParts, AV.cells, AV.ofCells, XV.av, AV.xv, List.length_cons, List.length_nil, zeros, patch, setMany, List.nil_append, List.cons_append, Nat.ble, Nat.add_eq, Nat.zero_add, Nat.add_zero, Nat.reduceAdd, Nat.reduceMul, Nat.reduceSub, Nat.ble_eq, Nat.reduceLeDiff, Nat.reduceBEq, Int.reduceBEq, Int.reduceNeg, Bool.and_true, Bool.and_false, Bool.true_and, Bool.false_and, Bool.not_true, Bool.not_false, Bool.true_eq_false, Bool.false_eq_true, Int.reduceLT, Int.reduceLE, Int.reduceGT, Int.reduceGE, decide_true, decide_false, Bool.not_eq_true, loopN_norm, loopN_exit, tf, ft, ff]
      refine ⟨_, rfl, by simp, y, h', _, _, _, _, _, _, _, rfl, ?_, he⟩
      have : out = R := hR'
      rw [← this]; exact ho
  have v2 : Int.tmod (IntKind.i64.wrap (Int.tmod (frm' : Int) 12 + 12)) 12 = ((frm' % 12 : Nat) : Int) := by
    have e1 : Int.tmod (frm' : Int) 12 = ((frm' % 12 : Nat) : Int) := rfl
    have e2 : ((frm' % 12 : Nat) : Int) + 12 = ((frm' % 12 + 12 : Nat) : Int) := by omega
    rw [e1, e2, wrapNat (by omega)]
    show (((frm' % 12 + 12) % 12 : Nat) : Int) = _
    rw [Nat.add_mod_right, Nat.mod_mod]
  obtain ⟨r, hr, y, h', a0, a1, a2, a3, a4, a5, l, rfl, ho, he⟩ := L [.c (.sl b 0 12 (.dy 5)), .c (.int .i64 (frm' : Int)), .c (.int .i64 (most : Int)), .c .nils, .c (.int .i64 12), .c (.int .i64 ((frm' % 12 : Nat) : Int)), .c .nils, .tup [], .tup [], .c (.bool false), .c (.int .i64 12), .c (.int .i64 0), .tup [], .tup [], .tup []] rfl
  have l0 : ∀ loc vals h', evPure loc (.c (.sl b 0 12 (.dy 5)) :: vals) h' (.len .sl (.val 0)) = some (.c (.int .i64 12)) := fun _ _ _ => rfl
  have v3 : ((12 : Int) == 0) = false := rfl
  simp only [enter_eq, ev_seq, seqK_norm, seqK_exit, seqK_ret, ev_reg, ev_cond, condK_true, condK_false, ev_block, blockK_norm, blockK_ret, blockK_exit, ev_loop, ev_skip, ev_exit, ev_ret, regK_cons, regK_nil, guard_none, guard_some, regG_true, regG_false, regO_some, op_mov, op_conv, op_bin, op_bsl, op_box, op_mks, op_s2b, op_pick, op_un, op_eq, op_len, op_ext, op_load, op_iaddr, op_slice, op_b2s, op_idxS, op_mx, op_mn, op_call, op_store, op_app, op_copy, args_eq, result_one', rv_loc, finish_norm, finish_ret, outK_some, keep_true, keep_false, keep_nil, p_bin, p_pick, p_un, p_eq, p_conv, evNew, pureK_some, newK_some, X.eval, set_none, set_some, List.map_cons, List.map_nil, List.getD_cons_zero, List.getD_cons_succ, List.getD_nil, List.set_cons_zero, List.set_cons_succ, binCV, unCV, isShift, intArithF_eq, shiftF_eq, wrapF_eq, intArith, shift, eqVal, bound, asNat_cast, cond_true, cond_false, BEq.rfl, beq_self_eq_true, evalParts, fillParts, AV.cells, AV.ofCells, XV.av, AV.xv, List.length_cons, List.length_nil, zeros, patch, setMany, List.nil_append, List.cons_append, Nat.ble, Nat.add_eq, Nat.zero_add, Nat.add_zero, Nat.reduceAdd, Nat.reduceMul, Nat.reduceSub, Nat.ble_eq, Nat.reduceLeDiff, Nat.reduceBEq, Int.reduceBEq, Int.reduceNeg, Bool.and_true, Bool.and_false, Bool.true_and, Bool.false_and, Bool.not_true, Bool.not_false, Bool.true_eq_false, Bool.false_eq_true, Int.reduceLT, Int.reduceLE, Int.reduceGT, Int.reduceGE, decide_true, decide_false, Bool.not_eq_true, loopN_norm, loopN_exit, tf, ft, ff, l0, v2, v3, hr, blockK_exit_eq]
  exact ⟨_, _, rfl, ho, he⟩

theorem due_ok {h : Heap} {b : Nat} {ds : List Bool} (hN : 13 ≤ N) (hg : h.get b = some (.cells (frm 0 ds))) (hb : b < h.next) (hds : ds.length = 12) (hd : ∀ k, ds.getD k false = false) :
    ∃ h', evCallT table 21 N (d + 1) 22 [.c (.sl b 0 12 (.dy 5))] h = some (.c (.bool false), h') := by
  rw [evCallT_eq (F := ir22) rfl rfl rfl]
  unfold ir22
  rw [bodyK_eq]
  have L : ∀ loc, keepOnly ir22_k0 loc = [.junk, .junk, .c (.int .i64 0), .c (.int .i64 0), .junk, .c (.sl b 0 12 (.dy 5)), .c (.int .i64 12), .c (.int .i64 0), .junk, .junk, .junk] →
      ∃ r, loopK (evCallT table 21 N d) N ir22_k0 ir22_l0 N loc h = some r ∧ ∃ h' a0 a1 a2 l, r = (.exit 0, a0 :: a1 :: a2 :: .c (.int .i64 0) :: l, h') := by
    intro loc hloc
    refine loop_inv (n := 12) (fun i loc h' => Ext h h' ∧ loc = [.junk, .junk, .c (.int .i64 (i : Int)), .c (.int .i64 0), .junk, .c (.sl b 0 12 (.dy 5)), .c (.int .i64 12), .c (.int .i64 (i : Int)), .junk, .junk, .junk]) _ ?_ ⟨Ext.refl h, hloc⟩ (by omega)
    rintro i loc h' hi ⟨he, rfl⟩
    unfold ir22_l0
    by_cases hlt : i < 12
    · left
      refine ⟨hlt, ?_⟩
      have v1 : decide ((i : Int) < 12) = true := ltNat (n := 12) hlt
      have v1' := succI (i := i) (by omega)
      have v5 : Nat.blt i 12 = true := bltT hlt
      have hgb := he.at_ hg hb
      have hdi : ds[i] = false := by have := hd i; simpa [List.getD_eq_getElem?_getD, hds, hlt] using this
      have v6 : h'.read b (i * 5) 5 = some (fr i false) := by
        simp only [Heap.read, hgb]; rw [frm_cut (by omega), hdi]
      obtain ⟨h1, w1, g1, x1, n1⟩ := box_store (h := h') (z := [.int .i64 0, .int .i64 0, .int .i64 0, .int .i64 0, .bool false]) (v := fr i false) rfl
      have q0 : h1.read h'.next 0 1 = some [.int .i64 1] := read_cells g1 rfl
      have q4 : h1.read h'.next 4 1 = some [.bool false] := read_cells g1 rfl
      simp only [fr] at w1
      simp only [enter_eq, ev_seq, seqK_norm, seqK_exit, seqK_ret, ev_reg, ev_cond, condK_true, condK_false, ev_block, blockK_norm, blockK_ret, blockK_exit, ev_loop, ev_skip, ev_exit, ev_ret, regK_cons, regK_nil, guard_none, guard_some, regG_true, regG_false, regO_some, op_mov, op_conv, op_bin, op_bsl, op_box, op_mks, op_s2b, op_pick, op_un, op_eq, op_len, op_ext, op_load, op_iaddr, op_slice, op_b2s, op_idxS, op_mx, op_mn, op_call, op_store, op_app, op_copy, args_eq, result_one', rv_loc, finish_norm, finish_ret, outK_some, keep_true, keep_false, keep_nil, p_bin, p_pick, p_un, p_eq, p_conv, evNew, pureK_some, newK_some, X.eval, set_none, set_some, List.map_cons, List.map_nil, List.getD_cons_zero, List.getD_cons_succ, List.getD_nil, List.set_cons_zero, List.set_cons_succ, binCV, unCV, isShift, intArithF_eq, shiftF_eq, wrapF_eq, intArith, shift, eqVal, bound, asNat_cast, cond_true, cond_false, BEq.rfl, beq_self_eq_true, evalParts, fillParts, AV.cells, AV.ofCells, XV.av, AV.xv, List.length_cons, List.length_nil, zeros, patch, setMany, List.nil_append, List.cons_append, Nat.ble, Nat.add_eq, Nat.zero_add, Nat.add_zero, Nat.reduceAdd, Nat.reduceMul, Nat.reduceSub, Nat.ble_eq, Nat.reduceLeDiff, Nat.reduceBEq, Int.reduceBEq, Int.reduceNeg, Bool.and_true, Bool.and_false, Bool.true_and, Bool.false_and, Bool.not_true, Bool.not_false, Bool.true_eq_false, Bool.false_eq_true, Int.reduceLT, Int.reduceLE, Int.reduceGT, Int.reduceGE, decide_true, decide_false, Bool.not_eq_true, loopN_norm, loopN_exit, tf, ft, ff, bne_not', p_faddr, op_faddr, v1, v1', p_iaddr, p_load, v5, v6, w1, evEff, q0, q4, AV.ofCells, fr]
      exact ⟨_, _, rfl, he.trans x1, rfl⟩
    · right
      have hi12 : i = 12 := by omega
      subst hi12
      simp only [enter_eq, ev_seq, seqK_norm, seqK_exit, seqK_ret, ev_reg, ev_cond, condK_true, condK_false, ev_block, blockK_norm, blockK_ret, blockK_exit, ev_loop, ev_skip, ev_exit, ev_ret, regK_cons, regK_nil, guard_none, guard_some, regG_true, regG_false, regO_some, op_mov, op_conv, op_bin, op_bsl, op_box, op_mks, op_s2b, op_pick, op_un, op_eq, op_len, op_ext, op_load, op_iaddr, op_slice, op_b2s, op_idxS, op_mx, op_mn, op_call, op_store, op_app, op_copy, args_eq, result_one', rv_loc, finish_norm, finish_ret, outK_some, keep_true, keep_false, keep_nil, p_bin, p_pick, p_un, p_eq, p_conv, evNew, pureK_some, newK_some, X.eval, set_none, set_some, List.map_cons, List.map_nil, List.getD_cons_zero, List.getD_cons_succ, List.getD_nil, List.set_cons_zero, List.set_cons_succ, binCV, unCV, isShift, intArithF_eq, shiftF_eq, wrapF_eq, intArith, shift, eqVal, bound, asNat_cast, cond_true, cond_false, BEq.rfl, beq_self_eq_true, evalParts, fillParts, AV.cells, AV.ofCells, XV.av, AV.xv, List.length_cons, List.length_nil, zeros, patch, setMany, List.nil_append, List.cons_append, Nat.ble, Nat.add_eq, Nat.zero_add, Nat.add_zero, Nat.reduceAdd, Nat.reduceMul, Nat.reduceSub, Nat.ble_eq, Nat.reduceLeDiff, Nat.reduceBEq, Int.reduceBEq, Int.reduceNeg, Bool.and_true, Bool.and_false, Bool.true_and, Bool.false_and, Bool.not_true, Bool.not_false, Bool.true_eq_false, Bool.false_eq_true, Int.reduceLT, Int.reduceLE, Int.reduceGT, Int.reduceGE, decide_true, decide_false, Bool.not_eq_true, loopN_norm, loopN_exit, tf, ft, ff]
      exact ⟨_, rfl, by simp, h', _, _, _, _, rfl⟩
  obtain ⟨r, hr, h', a0, a1, a2, l, rfl⟩ := L [.c (.sl b 0 12 (.dy 5)), .c (.bool false), .c (.int .i64 0), .c (.int .i64 0), .tup [], .c (.sl b 0 12 (.dy 5)), .c (.int .i64 12), .c (.int .i64 0), .tup [], .tup [], .tup []] rfl
  have l0 : ∀ loc vals h', evPure loc (.c (.sl b 0 12 (.dy 5)) :: vals) h' (.len .sl (.val 0)) = some (.c (.int .i64 12)) := fun _ _ _ => rfl
  simp only [enter_eq, ev_seq, seqK_norm, seqK_exit, seqK_ret, ev_reg, ev_cond, condK_true, condK_false, ev_block, blockK_norm, blockK_ret, blockK_exit, ev_loop, ev_skip, ev_exit, ev_ret, regK_cons, regK_nil, guard_none, guard_some, regG_true, regG_false, regO_some, op_mov, op_conv, op_bin, op_bsl, op_box, op_mks, op_s2b, op_pick, op_un, op_eq, op_len, op_ext, op_load, op_iaddr, op_slice, op_b2s, op_idxS, op_mx, op_mn, op_call, op_store, op_app, op_copy, args_eq, result_one', rv_loc, finish_norm, finish_ret, outK_some, keep_true, keep_false, keep_nil, p_bin, p_pick, p_un, p_eq, p_conv, evNew, pureK_some, newK_some, X.eval, set_none, set_some, List.map_cons, List.map_nil, List.getD_cons_zero, List.getD_cons_succ, List.getD_nil, List.set_cons_zero, List.set_cons_succ, binCV, unCV, isShift, intArithF_eq, shiftF_eq, wrapF_eq, intArith, shift, eqVal, bound, asNat_cast, cond_true, cond_false, BEq.rfl, beq_self_eq_true, evalParts, fillParts, AV.cells, AV.ofCells, XV.av, AV.xv, List.length_cons, List.length_nil, zeros, patch, setMany, List.nil_append, List.cons_append, Nat.ble, Nat.add_eq, Nat.zero_add, Nat.add_zero, Nat.reduceAdd, Nat.reduceMul, Nat.reduceSub, Nat.ble_eq, Nat.reduceLeDiff, Nat.reduceBEq, Int.reduceBEq, Int.reduceNeg, Bool.and_true, Bool.and_false, Bool.true_and, Bool.false_and, Bool.not_true, Bool.not_false, Bool.true_eq_false, Bool.false_eq_true, Int.reduceLT, Int.reduceLE, Int.reduceGT, Int.reduceGE, decide_true, decide_false, Bool.not_eq_true, loopN_norm, loopN_exit, tf, ft, ff, l0, hr, blockK_exit_eq]
  exact ⟨_, rfl⟩

theorem p_build {loc vals : List AV} {h : Heap} {z : List CV} {ps : List (Nat × Nat × X)} : evPure loc vals h (.build z ps) = (match evalParts loc vals ps with
    | some ps => match fillParts z ps with
      | some l => some (.agg l)
      | none => none
    | none => none) := rfl
end
end Lav
