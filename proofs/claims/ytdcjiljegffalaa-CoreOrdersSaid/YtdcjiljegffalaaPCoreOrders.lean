/-
  Proved: whatever number and touches come in, lavabolaw11.CoreOrders returns true and changes nothing that was there. No conditions beyond the given statement's.
-/
import Derived.Test.YtdcjiljegffalaaRows
import Derived.Test.YtdcjiljegffalaaCore7
import Derived.WalkKit
import Derived.ProofKit
import Derived.OpenShut
import Derived.ShutString
import Derived.ChangeOld
import Derived.Below
set_option maxRecDepth 100000
set_option linter.unusedSimpArgs false
namespace Lav
open Go (IntKind)
theorem applyM_touch (od ts : List Int) (x : Int) : (keptT ts x).foldl applyM ((toldT ts x).foldl applyM od) = applyM (ts.foldl applyM od) x := by
  unfold keptT toldT
  by_cases h : ts.length + 1 < 8
  · rw [if_pos h, if_pos h, List.foldl_append]; rfl
  · rw [if_neg h, if_neg h, List.foldl_append]; rfl
/-- Who was touched later stands ahead. -/
def Late (ls : List Int) (x y : Int) : Prop := ls.getD y.toNat 0 < ls.getD x.toNat 0
theorem late_set {ls : List Int} {vo : List Int} {p : Nat} {v : Int} (hp : p < ls.length) (nd : vo.Nodup) (pos : ∀ x ∈ vo, ∃ j : Nat, x = (j : Int)) (hw : vo.Pairwise (Late ls)) (hm : (p : Int) ∈ vo) (hv : ∀ x ∈ vo, ls.getD x.toNat 0 < v) : (applyM vo (p : Int)).Pairwise (Late (ls.set p v)) := by
  unfold applyM
  rw [if_pos hm]
  have same : ∀ x ∈ vo.erase (p : Int), (ls.set p v).getD x.toNat 0 = ls.getD x.toNat 0 := fun x hx => by
    obtain ⟨hne, hx'⟩ := nd.mem_erase_iff.1 hx
    obtain ⟨j, rfl⟩ := pos x hx'
    have : p ≠ j := fun e => hne (by rw [e])
    simp only [Int.toNat_natCast, List.getD_eq_getElem?_getD, List.getElem?_set_ne this]
  have new : (ls.set p v).getD (p : Int).toNat 0 = v := by
    simp [List.getD_eq_getElem?_getD, hp]
  rw [List.pairwise_cons]
  refine ⟨fun x hx => ?_, ?_⟩
  · show (ls.set p v).getD x.toNat 0 < (ls.set p v).getD (p : Int).toNat 0
    rw [same x hx, new]
    exact hv x (List.mem_of_mem_erase hx)
  · refine List.Pairwise.imp_of_mem ?_ (hw.sublist List.erase_sublist)
    intro a b ha hb hab
    show (ls.set p v).getD b.toNat 0 < (ls.set p v).getD a.toNat 0
    rw [same a ha, same b hb]
    exact hab
theorem rv_late : ∀ (k : Nat) (ls : List Int), (∀ j, j < k → ls.getD j 0 = (j : Int)) → (rv k).Pairwise (Late ls)
  | 0, _, _ => List.Pairwise.nil
  | k + 1, ls, h => by
    show ((k : Int) :: rv k).Pairwise (Late ls)
    rw [List.pairwise_cons]
    refine ⟨fun x hx => ?_, rv_late k ls fun j hj => h j (by omega)⟩
    obtain ⟨j, hj, rfl⟩ := rv_mem.1 hx
    show ls.getD (j : Int).toNat 0 < ls.getD (k : Int).toNat 0
    rw [Int.toNat_natCast, Int.toNat_natCast, h j (by omega), h k (by omega)]
    omega
theorem zeros_ints (k : Nat) : zeros k [CV.int .i64 0] = (List.replicate k (0 : Int)).map icell := by
  induction k with
  | zero => rfl
  | succ k ih => simp only [zeros, ih, List.replicate_succ, List.map_cons, icell]; rfl
theorem icell_set (ls : List Int) (j : Nat) (v : Int) : (ls.map icell).set j (.int .i64 v) = (ls.set j v).map icell := by simp [icell]
theorem few' {a : Int} {k : Nat} (h0 : 0 < k) (hk : k < 100000) : ∃ f : Nat, f < k ∧ IntKind.i64.wrap (Int.tmod (IntKind.u64.wrap a) (k : Int)) = f := few h0 hk
theorem Fill.find {h : Heap} {q : Nat} {z : CP} {fs : List Fm} {o : List Int} {M : Nat → Option Int} {od ts : List Int} {k p : Nat} {bit : Nat → Bool} (C : CH h q z fs o M od ts) (F : Fill k k bit fs) (hp : p < k) : findF fs (p : Int) = (p : Int) := by
  have hl : p < fs.length := by rw [F.len]; exact hp
  have f := F.full p fs[p] (List.getElem?_eq_getElem hl) hp
  have h2 := C.ah.fm.one hl f.1 (q := p) f.2.1
  have h3 := findF_eq C.ah.fm p
  rw [h2] at h3
  rw [← h3]; rfl

theorem coreOrders {h : Heap} {x : CV} {xs : List Int} (n : Int) (hx : Ints h x xs) : good (evCallT table 15 200 9 4 [.c (.int .i64 n), .c x] h) = true := by
  have lx : ∀ (loc vals : List AV) (h : Heap), evPure loc (.c x :: vals) h (.len .sl (.val 0)) = some (.c (.int .i64 (xs.length : Int))) := fun _ _ _ => hx.len rfl
  obtain ⟨k0, hk0, e1⟩ : ∃ k : Nat, k < 7 ∧ IntKind.i64.wrap (Int.tmod (IntKind.u64.wrap n) 7) = k := few (by omega) (by omega)
  have w1 : IntKind.i64.wrap (2 + (k0 : Int)) = ((k0 + 2 : Nat) : Int) := by rw [wrapI (by omega) (by omega)]; omega
  obtain ⟨k, hk⟩ : ∃ k, k = k0 + 2 := ⟨_, rfl⟩
  rw [← hk] at w1
  obtain ⟨q, z, H0, e3, C0, x0, y0⟩ := core_new (N := 200) (d := 3) (h := h) k (by omega) (by omega)
  have e3' : evCallT table 15 200 8 7 [.c (.int .i64 (k : Int))] h = some (.c (.ptr q 0), H0) := e3
  obtain ⟨lb, hlb⟩ : ∃ b, b = H0.next := ⟨_, rfl⟩
  obtain ⟨G0, hG0⟩ : ∃ H, H = H0.new (.cells (zeros k [.int .i64 0])) := ⟨_, rfl⟩
  have xg0 : Ext H0 G0 := by rw [hG0]; exact (Ext.refl _).new _
  have hlb0 : G0.get lb = some (.cells ((List.replicate k (0 : Int)).map icell)) := by rw [hG0, hlb, ← zeros_ints]; exact get_new_at
  have lbn : lb < G0.next := by rw [hG0, hlb]; exact Nat.lt_succ_self _
  have own_lb : lb ∉ z.own q := fun hm => by have := C0.old lb hm; omega
  have ak : asNat (.c (.int .i64 (k : Int))) = some k := rfl
  have bk : Nat.ble k 1073741824 = true := Nat.ble_eq_true_of_le (by omega)
  have bkk : Nat.ble k k = true := Nat.ble_eq_true_of_le (Nat.le_refl _)
  have L1 : ∀ loc, keepOnly ir4_k2 loc = [.junk, .c x, .junk, .c (.int .i64 (k : Int)), .c (.ptr q 0), .c (.sl lb 0 k (.ex k)), .c (.int .i64 0), .junk, .junk, .junk, .junk, .junk, .junk, .junk, .junk, .junk, .junk, .junk, .junk, .junk, .junk, .junk, .junk] →
      ∃ r, loopK (evCallT table 15 200 8) 200 ir4_k2 ir4_l2 200 loc G0 = some r ∧ ∃ a0 a2 a6 l G, r = (.exit 0, a0 :: .c x :: a2 :: .c (.int .i64 (k : Int)) :: .c (.ptr q 0) :: .c (.sl lb 0 k (.ex k)) :: a6 :: l, G) ∧ l.length = 16 ∧ ∃ fs M, ∃ ls : List Int, CH G q z fs [] M (rv k) [] ∧ Fill k k (fun _ => false) fs ∧ G.get lb = some (.cells (ls.map icell)) ∧ ls.length = k ∧ (∀ j, j < k → ls.getD j 0 = (j : Int)) ∧ ExtB (lb :: z.own q) G0 G := by
    intro loc hloc
    refine loop_inv (n := k) (fun i loc G => i ≤ k ∧ (∃ fs M, ∃ ls : List Int, CH G q z fs ((ints k).drop i) M (rv i) [] ∧ Fill k i (fun _ => false) fs ∧ G.get lb = some (.cells (ls.map icell)) ∧ ls.length = k ∧ (∀ j, j < i → ls.getD j 0 = (j : Int))) ∧ ExtB (lb :: z.own q) G0 G ∧ loc = [.junk, .c x, .junk, .c (.int .i64 (k : Int)), .c (.ptr q 0), .c (.sl lb 0 k (.ex k)), .c (.int .i64 (i : Int)), .junk, .junk, .junk, .junk, .junk, .junk, .junk, .junk, .junk, .junk, .junk, .junk, .junk, .junk, .junk, .junk]) _ ?_ ⟨Nat.zero_le _, ⟨_, _, _, C0.ext' xg0, ⟨by simp, fun j f _ h => by omega, fun j f hf _ => List.eq_of_mem_replicate (List.mem_of_getElem? hf)⟩, hlb0, by simp, fun j hj => by omega⟩, ExtB.refl _ _, hloc⟩ (by omega)
    rintro i loc G hi ⟨hik, ⟨fs, M, ls, C, F, hg, hll, hls⟩, xg, rfl⟩
    unfold ir4_l2
    by_cases hlt : i < k
    · left
      refine ⟨hlt, ?_⟩
      have v1 : decide ((i : Int) < (k : Int)) = true := ltNat hlt
      have v2 := succI (i := i) (by omega)
      have m1 : Nat.blt i k = true := bltT hlt
      have hl : i < fs.length := by rw [F.len]; exact hlt
      rw [ints_drop hlt] at C
      obtain ⟨y, M1, G1, e4, C1, x1, _⟩ := room_free (N := 200) (d := 1) C (g := i) (by omega) (F.no (Nat.le_refl _)) (by omega)
      rw [F.used hik] at C1
      have e4' : evCallT table 15 200 8 11 [.c (.ptr q 0), .c (.int .i64 (i : Int))] G = some (.tup [.c (.int .i64 0), .c (.int .i64 (i : Int)), .c (.int .i64 (-1))], G1) := e4
      obtain ⟨G2, e5, C2, x2⟩ := let_ok (N := 200) (d := 5) C1 (i : Int)
      have hl1 : i < (fs.set i ⟨1, (i : Int), 1, false, y⟩).length := by simp; exact hl
      have hg1 : (fs.set i ⟨1, (i : Int), 1, false, y⟩)[i] = ⟨1, (i : Int), 1, false, y⟩ := by simp
      have eu : unpinF (fs.set i ⟨1, (i : Int), 1, false, y⟩) (i : Int) = (0, fs.set i ⟨1, (i : Int), 0, false, y⟩) := by
        unfold unpinF
        rw [usedF_eq hl1 (by rw [hg1]), hg1]
        simp only [List.set_set]
        rfl
      rw [eu] at e5 C2
      have e5' : evCallT table 15 200 8 13 [.c (.ptr q 0), .c (.int .i64 (i : Int))] G1 = some (.c (.int .i64 0), G2) := e5
      have x12 := x1.trans x2
      have hgn : lb < G.next := Nat.lt_of_lt_of_le lbn xg.1
      have hg2 := x12.at_ hg hgn own_lb
      have wr := write_one (o := i) (v := .int .i64 (i : Int)) hg2 (by simp [hll]; exact hlt)
      rw [icell_set] at wr
      obtain ⟨G3, hG3⟩ : ∃ H, H = G2.put lb (.cells ((ls.set i (i : Int)).map icell)) := ⟨_, rfl⟩
      rw [← hG3] at wr
      have x3 : ExtB [lb] G2 G3 := by rw [hG3]; exact (ExtB.refl _ _).put (.inr (by simp)) _
      have C3 := C2.ext x3 fun j hj hm => by simp at hm; subst hm; exact own_lb hj
      simp only [enter_eq, ev_seq, seqK_norm, seqK_exit, seqK_ret, ev_reg, ev_cond, condK_true, condK_false, ev_block, blockK_norm, blockK_ret, blockK_exit, ev_loop, ev_skip, ev_exit, ev_ret, regK_cons, regK_nil, guard_none, guard_some, regG_true, regG_false, regO_some, op_mov, op_conv, op_bin, op_bsl, op_box, op_mks, op_s2b, op_pick, op_un, op_eq, op_len, op_ext, op_load, op_iaddr, op_slice, op_b2s, op_idxS, op_mx, op_mn, op_call, op_store, op_app, op_copy, args_eq, result_one', rv_loc, finish_norm, finish_ret, outK_some, keep_true, keep_false, keep_nil, p_bin, p_pick, p_un, p_eq, p_conv, evNew, pureK_some, newK_some, X.eval, set_none, set_some, List.map_cons, List.map_nil, List.getD_cons_zero, List.getD_cons_succ, List.getD_nil, List.set_cons_zero, List.set_cons_succ, binCV, unCV, isShift, intArithF_eq, shiftF_eq, wrapF_eq, intArith, shift, eqVal, bound, asNat_cast, cond_true, cond_false, BEq.rfl, beq_self_eq_true, evalParts, fillParts, AV.cells, AV.ofCells, XV.av, AV.xv, List.length_cons, List.length_nil, zeros, patch, setMany, List.nil_append, List.cons_append, Nat.ble, Nat.add_eq, Nat.zero_add, Nat.add_zero, Nat.reduceAdd, Nat.reduceMul, Nat.reduceSub, Nat.ble_eq, Nat.reduceLeDiff, Nat.reduceBEq, Int.reduceBEq, Int.reduceNeg, Bool.and_true, Bool.and_false, Bool.true_and, Bool.false_and, Bool.not_true, Bool.not_false, Bool.true_eq_false, Bool.false_eq_true, Int.reduceLT, Int.reduceLE, Int.reduceGT, Int.reduceGE, decide_true, decide_false, Bool.not_eq_true, loopN_norm, loopN_exit, tf, ft, ff, v1, v2, e4', p_ext, List.getElem?_cons_zero, List.getElem?_cons_succ, e5', bneI, p_iaddr, m1, evEff, Nat.mul_one, wr]
      refine ⟨_, _, rfl, by omega, ⟨_, M1, _, C3, ⟨by simp [F.len], fun j f hf hj => ?_, fun j f hf hj => ?_⟩, by rw [hG3]; exact get_put_at, by simp [hll], fun j hj => ?_⟩, (xg.trans (x12.mono fun j hj => List.mem_cons_of_mem _ hj)).trans (x3.mono fun j hj => by simp at hj; simp [hj]), rfl⟩
      · rcases (set_at hl).1 hf with ⟨rfl, rfl⟩ | ⟨hne, hf'⟩
        · exact ⟨rfl, rfl, rfl, rfl⟩
        · exact F.full j f hf' (by omega)
      · rcases (set_at hl).1 hf with ⟨rfl, rfl⟩ | ⟨hne, hf'⟩
        · omega
        · exact F.rest j f hf' (by omega)
      · by_cases hj' : j = i
        · subst hj'; simp [List.getD_eq_getElem?_getD, hll, hlt]
        · have := hls j (by omega)
          rw [List.getD_eq_getElem?_getD] at this ⊢
          rw [List.getElem?_set_ne (fun e => hj' e.symm)]; exact this
    · right
      have hik' : i = k := by omega
      subst hik'
      have v1 : decide ((i : Int) < (i : Int)) = false := geNat (Nat.le_refl _)
      have hd : (ints i).drop i = [] := List.drop_of_length_le (by rw [ints_len]; omega)
      rw [hd] at C
      simp only [enter_eq, ev_seq, seqK_norm, seqK_exit, seqK_ret, ev_reg, ev_cond, condK_true, condK_false, ev_block, blockK_norm, blockK_ret, blockK_exit, ev_loop, ev_skip, ev_exit, ev_ret, regK_cons, regK_nil, guard_none, guard_some, regG_true, regG_false, regO_some, op_mov, op_conv, op_bin, op_bsl, op_box, op_mks, op_s2b, op_pick, op_un, op_eq, op_len, op_ext, op_load, op_iaddr, op_slice, op_b2s, op_idxS, op_mx, op_mn, op_call, op_store, op_app, op_copy, args_eq, result_one', rv_loc, finish_norm, finish_ret, outK_some, keep_true, keep_false, keep_nil, p_bin, p_pick, p_un, p_eq, p_conv, evNew, pureK_some, newK_some, X.eval, set_none, set_some, List.map_cons, List.map_nil, List.getD_cons_zero, List.getD_cons_succ, List.getD_nil, List.set_cons_zero, List.set_cons_succ, binCV, unCV, isShift, intArithF_eq, shiftF_eq, wrapF_eq, intArith, shift, eqVal, bound, asNat_cast, cond_true, cond_false, BEq.rfl, beq_self_eq_true, evalParts, fillParts, AV.cells, AV.ofCells, XV.av, AV.xv, List.length_cons, List.length_nil, zeros, patch, setMany, List.nil_append, List.cons_append, Nat.ble, Nat.add_eq, Nat.zero_add, Nat.add_zero, Nat.reduceAdd, Nat.reduceMul, Nat.reduceSub, Nat.ble_eq, Nat.reduceLeDiff, Nat.reduceBEq, Int.reduceBEq, Int.reduceNeg, Bool.and_true, Bool.and_false, Bool.true_and, Bool.false_and, Bool.not_true, Bool.not_false, Bool.true_eq_false, Bool.false_eq_true, Int.reduceLT, Int.reduceLE, Int.reduceGT, Int.reduceGE, decide_true, decide_false, Bool.not_eq_true, loopN_norm, loopN_exit, tf, ft, ff, v1]
      exact ⟨_, rfl, by simp, _, _, _, _, G, rfl, rfl, fs, M, ls, C, F, hg, hll, hls, xg⟩
  obtain ⟨r1, ⟨b0, b2, b6, l, G1, rfl, hll16, fs1, M1, ls1, C1, F1, hg1, hll1, hls1, xg1⟩, hr1⟩ := loop_any L1 rfl
  have xh1 : Ext h G1 := (x0.trans xg0).own xg1 fun j hj => by
    rcases List.mem_cons.1 hj with rfl | hj
    · have := x0.1; omega
    · exact y0 j hj
  have L2 : ∀ loc, keepOnly ir4_k1 loc = [.junk, .c x, .junk, .c (.int .i64 (k : Int)), .c (.ptr q 0), .c (.sl lb 0 k (.ex k)), .junk, .junk, .junk, .c (.int .i64 0), .junk, .junk, .junk, .junk, .junk, .junk, .junk, .junk, .junk, .junk, .junk, .junk, .junk] →
      ∃ r, loopK (evCallT table 15 200 8) 200 ir4_k1 ir4_l1 200 loc G1 = some r ∧ ∃ a0 a1 a2 l G, r = (.exit 2, a0 :: a1 :: a2 :: .c (.int .i64 (k : Int)) :: .c (.ptr q 0) :: .c (.sl lb 0 k (.ex k)) :: l, G) ∧ l.length = 17 ∧ ∃ fs M od ts, ∃ ls : List Int, CH G q z fs [] M od ts ∧ Fill k k (fun _ => false) fs ∧ G.get lb = some (.cells (ls.map icell)) ∧ ls.length = k ∧ (ts.foldl applyM od).Pairwise (Late ls) ∧ (∀ y, y ∈ od ↔ ∃ j : Nat, j < k ∧ y = (j : Int)) := by
    intro loc hloc
    refine loop_inv (n := min 60 xs.length) (fun i loc G => i ≤ min 60 xs.length ∧ (∃ fs M od ts, ∃ ls : List Int, CH G q z fs [] M od ts ∧ Fill k k (fun _ => false) fs ∧ G.get lb = some (.cells (ls.map icell)) ∧ ls.length = k ∧ (ts.foldl applyM od).Pairwise (Late ls) ∧ (∀ y, y ∈ od ↔ ∃ j : Nat, j < k ∧ y = (j : Int)) ∧ ∀ j, j < k → ls.getD j 0 < (k : Int) + (i : Int)) ∧ Ext h G ∧ lb < G.next ∧ loc = [.junk, .c x, .junk, .c (.int .i64 (k : Int)), .c (.ptr q 0), .c (.sl lb 0 k (.ex k)), .junk, .junk, .junk, .c (.int .i64 (i : Int)), .junk, .junk, .junk, .junk, .junk, .junk, .junk, .junk, .junk, .junk, .junk, .junk, .junk]) _ ?_ ⟨Nat.zero_le _, ⟨fs1, M1, rv k, [], ls1, C1, F1, hg1, hll1, rv_late k ls1 hls1, fun y => rv_mem, fun j hj => by rw [hls1 j hj]; omega⟩, xh1, Nat.lt_of_lt_of_le lbn xg1.1, hloc⟩ (by omega)
    rintro i loc G hi ⟨hik, ⟨fs, M, od, ts, ls, C, F, hg, hll, hpw, hmem, hbd⟩, xg, lbG, rfl⟩
    unfold ir4_l1
    by_cases hlt : i < min 60 xs.length
    · left
      refine ⟨hlt, ?_⟩
      have v1 : decide ((i : Int) < (xs.length : Int)) = true := ltNat (by omega)
      have v2 := succI (i := i) (by omega)
      have v3 : decide ((i : Int) < 60) = true := decide_eq_true (by omega)
      obtain ⟨ix, ox, cx, rfl, hix, rx⟩ := (hx.ext xg).sl (by omega)
      have m1 : Nat.blt i xs.length = true := bltT (by omega)
      have k1 := rx i (by omega)
      have wk : IntKind.u64.wrap (k : Int) = (k : Int) := wrapUNat (by omega)
      have kz : ((k : Int) == 0) = false := by simp only [beq_eq_false_iff_ne, ne_eq]; omega
      obtain ⟨p, hp, ep⟩ := few' (a := xs[i]'(by omega)) (k := k) (by omega) (by omega)
      have hl : p < fs.length := by rw [F.len]; exact hp
      have fp := F.full p fs[p] (List.getElem?_eq_getElem hl) hp
      have hfil : od.filter (usedB fs) = od := by
        rw [List.filter_eq_self]
        intro y hy
        obtain ⟨j, hj, rfl⟩ := (hmem y).1 hy
        have hjl : j < fs.length := by rw [F.len]; exact hj
        rw [usedB_eq hjl, (F.full j fs[j] (List.getElem?_eq_getElem hjl) hj).1]; rfl
      obtain ⟨G2, e4, C2, x2⟩ := hit_yes (N := 200) (d := 2) C (F.find C hp) hl fp.1 (by rw [fp.2.2.1]; decide) (by omega)
      rw [hfil] at C2
      have e4' : evCallT table 15 200 8 10 [.c (.ptr q 0), .c (.int .i64 (p : Int))] G = some (.c (.int .i64 (p : Int)), G2) := e4
      obtain ⟨G3, e5, C3, x3⟩ := let_ok (N := 200) (d := 5) C2 (p : Int)
      have hfp : (⟨fs[p].st, fs[p].pg, fs[p].pn + 1, fs[p].dt, fs[p].y⟩ : Fm) = ⟨1, (p : Int), 1, false, fs[p].y⟩ := by rw [fp.1, fp.2.1, fp.2.2.1, fp.2.2.2]; rfl
      rw [hfp] at e5 C3
      have hl1 : p < (fs.set p ⟨1, (p : Int), 1, false, fs[p].y⟩).length := by simp; exact hl
      have hg1 : (fs.set p ⟨1, (p : Int), 1, false, fs[p].y⟩)[p] = ⟨1, (p : Int), 1, false, fs[p].y⟩ := by simp
      have eu : unpinF (fs.set p ⟨1, (p : Int), 1, false, fs[p].y⟩) (p : Int) = (0, fs.set p ⟨1, (p : Int), 0, false, fs[p].y⟩) := by
        unfold unpinF
        rw [usedF_eq hl1 (by rw [hg1]), hg1]
        simp only [List.set_set]
        rfl
      rw [eu] at e5 C3
      have e5' : evCallT table 15 200 8 13 [.c (.ptr q 0), .c (.int .i64 (p : Int))] G2 = some (.c (.int .i64 0), G3) := e5
      have x23 := x2.trans x3
      have hg3 := x23.at_ hg lbG own_lb
      have wki : IntKind.i64.wrap ((k : Int) + (i : Int)) = (k : Int) + (i : Int) := wrapI (by omega) (by omega)
      have wr := write_one (o := p) (v := .int .i64 ((k : Int) + (i : Int))) hg3 (by simp [hll]; exact hp)
      rw [icell_set] at wr
      obtain ⟨G4, hG4⟩ : ∃ H, H = G3.put lb (.cells ((ls.set p ((k : Int) + (i : Int))).map icell)) := ⟨_, rfl⟩
      rw [← hG4] at wr
      have x4 : ExtB [lb] G3 G4 := by rw [hG4]; exact (ExtB.refl _ _).put (.inr (by simp)) _
      have C4 := C3.ext x4 fun j hj hm => by simp at hm; subst hm; exact own_lb hj
      have v4 : decide ((p : Int) < 0) = false := decide_eq_false (by omega)
      have m2 : Nat.blt p k = true := bltT hp
      have k1' : ∀ G', Ext h G' → True := fun _ _ => trivial
      simp only [enter_eq, ev_seq, seqK_norm, seqK_exit, seqK_ret, ev_reg, ev_cond, condK_true, condK_false, ev_block, blockK_norm, blockK_ret, blockK_exit, ev_loop, ev_skip, ev_exit, ev_ret, regK_cons, regK_nil, guard_none, guard_some, regG_true, regG_false, regO_some, op_mov, op_conv, op_bin, op_bsl, op_box, op_mks, op_s2b, op_pick, op_un, op_eq, op_len, op_ext, op_load, op_iaddr, op_slice, op_b2s, op_idxS, op_mx, op_mn, op_call, op_store, op_app, op_copy, args_eq, result_one', rv_loc, finish_norm, finish_ret, outK_some, keep_true, keep_false, keep_nil, p_bin, p_pick, p_un, p_eq, p_conv, evNew, pureK_some, newK_some, X.eval, set_none, set_some, List.map_cons, List.map_nil, List.getD_cons_zero, List.getD_cons_succ, List.getD_nil, List.set_cons_zero, List.set_cons_succ, binCV, unCV, isShift, intArithF_eq, shiftF_eq, wrapF_eq, intArith, shift, eqVal, bound, asNat_cast, cond_true, cond_false, BEq.rfl, beq_self_eq_true, evalParts, fillParts, AV.cells, AV.ofCells, XV.av, AV.xv, List.length_cons, List.length_nil, zeros, patch, setMany, List.nil_append, List.cons_append, Nat.ble, Nat.add_eq, Nat.zero_add, Nat.add_zero, Nat.reduceAdd, Nat.reduceMul, Nat.reduceSub, Nat.ble_eq, Nat.reduceLeDiff, Nat.reduceBEq, Int.reduceBEq, Int.reduceNeg, Bool.and_true, Bool.and_false, Bool.true_and, Bool.false_and, Bool.not_true, Bool.not_false, Bool.true_eq_false, Bool.false_eq_true, Int.reduceLT, Int.reduceLE, Int.reduceGT, Int.reduceGE, decide_true, decide_false, Bool.not_eq_true, loopN_norm, loopN_exit, tf, ft, ff, lx, v1, v2, v3, v4, p_iaddr, m1, p_load, AV.ofCells, Nat.mul_one, k1, wk, kz, ep, e4', e5', bneI, m2, wki, evEff, wr]
      have hw : ((toldT ts (p : Int)).foldl applyM od).Nodup := C4.ll.nd
      have nd : (ts.foldl applyM od).Nodup := by
        have : ∀ (ts : List Int) (o : List Int), o.Nodup → (ts.foldl applyM o).Nodup := by
          intro ts
          induction ts with
          | nil => intro o h; exact h
          | cons t ts ih =>
            intro o h
            refine ih _ ?_
            unfold applyM
            split
            · exact List.nodup_cons.2 ⟨fun hm => ((h.mem_erase_iff).1 hm).1 rfl, h.erase _⟩
            · exact h
        exact this ts od C.ll.nd
      refine ⟨_, _, rfl, by omega, ⟨_, M, _, _, _, C4, ⟨by simp [F.len], fun j f hf hj => ?_, fun j f hf hj => ?_⟩, by rw [hG4]; exact get_put_at, by simp [hll], ?_, fun y => ?_, fun j hj => ?_⟩, ?_, ?_, rfl⟩
      · rcases (set_at hl).1 hf with ⟨rfl, rfl⟩ | ⟨hne, hf'⟩
        · exact ⟨rfl, rfl, rfl, rfl⟩
        · exact F.full j f hf' (by omega)
      · rcases (set_at hl).1 hf with ⟨rfl, rfl⟩ | ⟨hne, hf'⟩
        · omega
        · exact F.rest j f hf' (by omega)
      · rw [applyM_touch]
        refine late_set (by rw [hll]; exact hp) nd (fun y hy => ?_) hpw (applyM_all.2 ((hmem _).2 ⟨p, hp, rfl⟩)) fun y hy => ?_
        · obtain ⟨j, _, rfl⟩ := (hmem y).1 (applyM_all.1 hy)
          exact ⟨j, rfl⟩
        · obtain ⟨j, hj, rfl⟩ := (hmem y).1 (applyM_all.1 hy)
          rw [Int.toNat_natCast]
          exact hbd j hj
      · rw [applyM_all]; exact hmem y
      · rw [List.getD_eq_getElem?_getD]
        by_cases hjp : p = j
        · subst hjp
          rw [List.getElem?_set_self (by rw [hll]; exact hp)]
          show (k : Int) + (i : Int) < _
          omega
        · rw [List.getElem?_set_ne hjp, ← List.getD_eq_getElem?_getD]
          have := hbd j hj
          omega
      · exact (xg.own x23 y0).own x4 fun j hj => by simp at hj; subst hj; have := x0.1; omega
      · have := x23.1; have := x4.1; omega
    · right
      have v2 : decide ((i : Int) < (xs.length : Int)) = true ∧ decide ((i : Int) < 60) = false ∨ decide ((i : Int) < (xs.length : Int)) = false := by
        by_cases h : i < xs.length
        · exact .inl ⟨ltNat h, decide_eq_false (by omega)⟩
        · exact .inr (geNat (by omega))
      rcases v2 with ⟨v1, v2⟩ | v1
      · simp only [enter_eq, ev_seq, seqK_norm, seqK_exit, seqK_ret, ev_reg, ev_cond, condK_true, condK_false, ev_block, blockK_norm, blockK_ret, blockK_exit, ev_loop, ev_skip, ev_exit, ev_ret, regK_cons, regK_nil, guard_none, guard_some, regG_true, regG_false, regO_some, op_mov, op_conv, op_bin, op_bsl, op_box, op_mks, op_s2b, op_pick, op_un, op_eq, op_len, op_ext, op_load, op_iaddr, op_slice, op_b2s, op_idxS, op_mx, op_mn, op_call, op_store, op_app, op_copy, args_eq, result_one', rv_loc, finish_norm, finish_ret, outK_some, keep_true, keep_false, keep_nil, p_bin, p_pick, p_un, p_eq, p_conv, evNew, pureK_some, newK_some, X.eval, set_none, set_some, List.map_cons, List.map_nil, List.getD_cons_zero, List.getD_cons_succ, List.getD_nil, List.set_cons_zero, List.set_cons_succ, binCV, unCV, isShift, intArithF_eq, shiftF_eq, wrapF_eq, intArith, shift, eqVal, bound, asNat_cast, cond_true, cond_false, BEq.rfl, beq_self_eq_true, evalParts, fillParts, AV.cells, AV.ofCells, XV.av, AV.xv, List.length_cons, List.length_nil, zeros, patch, setMany, List.nil_append, List.cons_append, Nat.ble, Nat.add_eq, Nat.zero_add, Nat.add_zero, Nat.reduceAdd, Nat.reduceMul, Nat.reduceSub, Nat.ble_eq, Nat.reduceLeDiff, Nat.reduceBEq, Int.reduceBEq, Int.reduceNeg, Bool.and_true, Bool.and_false, Bool.true_and, Bool.false_and, Bool.not_true, Bool.not_false, Bool.true_eq_false, Bool.false_eq_true, Int.reduceLT, Int.reduceLE, Int.reduceGT, Int.reduceGE, decide_true, decide_false, Bool.not_eq_true, loopN_norm, loopN_exit, tf, ft, ff, lx, v1, v2]
        exact ⟨_, rfl, by simp, _, _, _, _, G, rfl, rfl, fs, M, od, ts, ls, C, F, hg, hll, hpw, hmem⟩
      · simp only [enter_eq, ev_seq, seqK_norm, seqK_exit, seqK_ret, ev_reg, ev_cond, condK_true, condK_false, ev_block, blockK_norm, blockK_ret, blockK_exit, ev_loop, ev_skip, ev_exit, ev_ret, regK_cons, regK_nil, guard_none, guard_some, regG_true, regG_false, regO_some, op_mov, op_conv, op_bin, op_bsl, op_box, op_mks, op_s2b, op_pick, op_un, op_eq, op_len, op_ext, op_load, op_iaddr, op_slice, op_b2s, op_idxS, op_mx, op_mn, op_call, op_store, op_app, op_copy, args_eq, result_one', rv_loc, finish_norm, finish_ret, outK_some, keep_true, keep_false, keep_nil, p_bin, p_pick, p_un, p_eq, p_conv, evNew, pureK_some, newK_some, X.eval, set_none, set_some, List.map_cons, List.map_nil, List.getD_cons_zero, List.getD_cons_succ, List.getD_nil, List.set_cons_zero, List.set_cons_succ, binCV, unCV, isShift, intArithF_eq, shiftF_eq, wrapF_eq, intArith, shift, eqVal, bound, asNat_cast, cond_true, cond_false, BEq.rfl, beq_self_eq_true, evalParts, fillParts, AV.cells, AV.ofCells, XV.av, AV.xv, List.length_cons, List.length_nil, zeros, patch, setMany, List.nil_append, List.cons_append, Nat.ble, Nat.add_eq, Nat.zero_add, Nat.add_zero, Nat.reduceAdd, Nat.reduceMul, Nat.reduceSub, Nat.ble_eq, Nat.reduceLeDiff, Nat.reduceBEq, Int.reduceBEq, Int.reduceNeg, Bool.and_true, Bool.and_false, Bool.true_and, Bool.false_and, Bool.not_true, Bool.not_false, Bool.true_eq_false, Bool.false_eq_true, Int.reduceLT, Int.reduceLE, Int.reduceGT, Int.reduceGE, decide_true, decide_false, Bool.not_eq_true, loopN_norm, loopN_exit, tf, ft, ff, lx, v1]
        exact ⟨_, rfl, by simp, _, _, _, _, G, rfl, rfl, fs, M, od, ts, ls, C, F, hg, hll, hpw, hmem⟩
  obtain ⟨r2, ⟨c0, c1, c2, l2, G2, rfl, hl17, fs, M, od, ts, ls, C2, F2, hg2, hll2, hpw, hmem⟩, hr2⟩ := loop_any L2 rfl
  have L3 : ∀ loc, keepOnly ir4_k0 loc = [.junk, .junk, .junk, .c (.int .i64 (k : Int)), .c (.ptr q 0), .c (.sl lb 0 k (.ex k)), .junk, .junk, .junk, .junk, .junk, .junk, .c (.int .i64 0), .c (.int .i64 0), .junk, .junk, .junk, .junk, .junk, .junk, .junk, .junk, .junk] →
      ∃ r, loopK (evCallT table 15 200 8) 200 ir4_k0 ir4_l0 200 loc G2 = some r ∧ ∃ w : Nat, w < k ∧ (∀ j, j < k → ls.getD w 0 ≤ ls.getD j 0) ∧ ∃ a0 a1 a2 a3 a5 a6 a7 a8 a9 a10 a11 l, r = (.exit 4, a0 :: a1 :: a2 :: a3 :: .c (.ptr q 0) :: a5 :: a6 :: a7 :: a8 :: a9 :: a10 :: a11 :: .c (.int .i64 (w : Int)) :: l, G2) ∧ l.length = 10 := by
    intro loc hloc
    refine loop_inv (n := k) (fun i loc G => i ≤ k ∧ G = G2 ∧ ∃ w : Nat, w < k ∧ (∀ j, j < i → ls.getD w 0 ≤ ls.getD j 0) ∧ loc = [.junk, .junk, .junk, .c (.int .i64 (k : Int)), .c (.ptr q 0), .c (.sl lb 0 k (.ex k)), .junk, .junk, .junk, .junk, .junk, .junk, .c (.int .i64 (w : Int)), .c (.int .i64 (i : Int)), .junk, .junk, .junk, .junk, .junk, .junk, .junk, .junk, .junk]) _ ?_ ⟨Nat.zero_le _, rfl, 0, by omega, fun j hj => by omega, hloc⟩ (by omega)
    rintro i loc G hi ⟨hik, rfl, w, hw, hmin, rfl⟩
    unfold ir4_l0
    by_cases hlt : i < k
    · left
      refine ⟨hlt, ?_⟩
      have v1 : decide ((i : Int) < (k : Int)) = true := ltNat hlt
      have v2 := succI (i := i) (by omega)
      have m1 : Nat.blt i k = true := bltT hlt
      have m2 : Nat.blt w k = true := bltT hw
      have r1 : G.read lb i 1 = some [.int .i64 (ls.getD i 0)] := read_cells hg2 (by simp [List.getD_eq_getElem?_getD, hll2, hlt, icell])
      have r2 : G.read lb w 1 = some [.int .i64 (ls.getD w 0)] := read_cells hg2 (by simp [List.getD_eq_getElem?_getD, hll2, hw, icell])
      by_cases hc : ls.getD i 0 < ls.getD w 0
      · have v3 : decide (ls.getD i 0 < ls.getD w 0) = true := decide_eq_true hc
        simp only [enter_eq, ev_seq, seqK_norm, seqK_exit, seqK_ret, ev_reg, ev_cond, condK_true, condK_false, ev_block, blockK_norm, blockK_ret, blockK_exit, ev_loop, ev_skip, ev_exit, ev_ret, regK_cons, regK_nil, guard_none, guard_some, regG_true, regG_false, regO_some, op_mov, op_conv, op_bin, op_bsl, op_box, op_mks, op_s2b, op_pick, op_un, op_eq, op_len, op_ext, op_load, op_iaddr, op_slice, op_b2s, op_idxS, op_mx, op_mn, op_call, op_store, op_app, op_copy, args_eq, result_one', rv_loc, finish_norm, finish_ret, outK_some, keep_true, keep_false, keep_nil, p_bin, p_pick, p_un, p_eq, p_conv, evNew, pureK_some, newK_some, X.eval, set_none, set_some, List.map_cons, List.map_nil, List.getD_cons_zero, List.getD_cons_succ, List.getD_nil, List.set_cons_zero, List.set_cons_succ, binCV, unCV, isShift, intArithF_eq, shiftF_eq, wrapF_eq, intArith, shift, eqVal, bound, asNat_cast, cond_true, cond_false, BEq.rfl, beq_self_eq_true, evalParts, fillParts, AV.cells, AV.ofCells, XV.av, AV.xv, List.length_cons, List.length_nil, zeros, patch, setMany, List.nil_append, List.cons_append, Nat.ble, Nat.add_eq, Nat.zero_add, Nat.add_zero, Nat.reduceAdd, Nat.reduceMul, Nat.reduceSub, Nat.ble_eq, Nat.reduceLeDiff, Nat.reduceBEq, Int.reduceBEq, Int.reduceNeg, Bool.and_true, Bool.and_false, Bool.true_and, Bool.false_and, Bool.not_true, Bool.not_false, Bool.true_eq_false, Bool.false_eq_true, Int.reduceLT, Int.reduceLE, Int.reduceGT, Int.reduceGE, decide_true, decide_false, Bool.not_eq_true, loopN_norm, loopN_exit, tf, ft, ff, ev_dreg, dregK_nil, dregK_cons, dregE_true, dregP_some, dregX_some, d_mov, d_bin, d_eq, d_pick, d_un, d_conv, d_b2s, d_len, d_load, d_iaddr, d_slice, d_ext, d_call, d_store, chk_done, chk_none, chk_some, chkG_true, chkG_false, chkOne_nil, chkOne_cons, chkH_some, chkV_same, stage_none, stage_some, look_hit, look_miss, news_nil, wb_cons, wb_nil, skip0, List.reverse_cons, List.reverse_nil, v1, v2, v3, p_iaddr, m1, m2, p_load, AV.ofCells, Nat.mul_one, r1, r2]
        refine ⟨_, _, rfl, by omega, rfl, i, hlt, fun j hj => ?_, rfl⟩
        by_cases e : j = i
        · subst e; exact Int.le_refl _
        · have := hmin j (by omega); omega
      · have v3 : decide (ls.getD i 0 < ls.getD w 0) = false := decide_eq_false hc
        simp only [enter_eq, ev_seq, seqK_norm, seqK_exit, seqK_ret, ev_reg, ev_cond, condK_true, condK_false, ev_block, blockK_norm, blockK_ret, blockK_exit, ev_loop, ev_skip, ev_exit, ev_ret, regK_cons, regK_nil, guard_none, guard_some, regG_true, regG_false, regO_some, op_mov, op_conv, op_bin, op_bsl, op_box, op_mks, op_s2b, op_pick, op_un, op_eq, op_len, op_ext, op_load, op_iaddr, op_slice, op_b2s, op_idxS, op_mx, op_mn, op_call, op_store, op_app, op_copy, args_eq, result_one', rv_loc, finish_norm, finish_ret, outK_some, keep_true, keep_false, keep_nil, p_bin, p_pick, p_un, p_eq, p_conv, evNew, pureK_some, newK_some, X.eval, set_none, set_some, List.map_cons, List.map_nil, List.getD_cons_zero, List.getD_cons_succ, List.getD_nil, List.set_cons_zero, List.set_cons_succ, binCV, unCV, isShift, intArithF_eq, shiftF_eq, wrapF_eq, intArith, shift, eqVal, bound, asNat_cast, cond_true, cond_false, BEq.rfl, beq_self_eq_true, evalParts, fillParts, AV.cells, AV.ofCells, XV.av, AV.xv, List.length_cons, List.length_nil, zeros, patch, setMany, List.nil_append, List.cons_append, Nat.ble, Nat.add_eq, Nat.zero_add, Nat.add_zero, Nat.reduceAdd, Nat.reduceMul, Nat.reduceSub, Nat.ble_eq, Nat.reduceLeDiff, Nat.reduceBEq, Int.reduceBEq, Int.reduceNeg, Bool.and_true, Bool.and_false, Bool.true_and, Bool.false_and, Bool.not_true, Bool.not_false, Bool.true_eq_false, Bool.false_eq_true, Int.reduceLT, Int.reduceLE, Int.reduceGT, Int.reduceGE, decide_true, decide_false, Bool.not_eq_true, loopN_norm, loopN_exit, tf, ft, ff, ev_dreg, dregK_nil, dregK_cons, dregE_true, dregP_some, dregX_some, d_mov, d_bin, d_eq, d_pick, d_un, d_conv, d_b2s, d_len, d_load, d_iaddr, d_slice, d_ext, d_call, d_store, chk_done, chk_none, chk_some, chkG_true, chkG_false, chkOne_nil, chkOne_cons, chkH_some, chkV_same, stage_none, stage_some, look_hit, look_miss, news_nil, wb_cons, wb_nil, skip0, List.reverse_cons, List.reverse_nil, v1, v2, v3, p_iaddr, m1, m2, p_load, AV.ofCells, Nat.mul_one, r1, r2]
        refine ⟨_, _, rfl, by omega, rfl, w, hw, fun j hj => ?_, rfl⟩
        by_cases e : j = i
        · subst e; omega
        · exact hmin j (by omega)
    · right
      have hik' : i = k := by omega
      subst hik'
      have v1 : decide ((i : Int) < (i : Int)) = false := geNat (Nat.le_refl _)
      simp only [enter_eq, ev_seq, seqK_norm, seqK_exit, seqK_ret, ev_reg, ev_cond, condK_true, condK_false, ev_block, blockK_norm, blockK_ret, blockK_exit, ev_loop, ev_skip, ev_exit, ev_ret, regK_cons, regK_nil, guard_none, guard_some, regG_true, regG_false, regO_some, op_mov, op_conv, op_bin, op_bsl, op_box, op_mks, op_s2b, op_pick, op_un, op_eq, op_len, op_ext, op_load, op_iaddr, op_slice, op_b2s, op_idxS, op_mx, op_mn, op_call, op_store, op_app, op_copy, args_eq, result_one', rv_loc, finish_norm, finish_ret, outK_some, keep_true, keep_false, keep_nil, p_bin, p_pick, p_un, p_eq, p_conv, evNew, pureK_some, newK_some, X.eval, set_none, set_some, List.map_cons, List.map_nil, List.getD_cons_zero, List.getD_cons_succ, List.getD_nil, List.set_cons_zero, List.set_cons_succ, binCV, unCV, isShift, intArithF_eq, shiftF_eq, wrapF_eq, intArith, shift, eqVal, bound, asNat_cast, cond_true, cond_false, BEq.rfl, beq_self_eq_true, evalParts, fillParts, AV.cells, AV.ofCells, XV.av, AV.xv, List.length_cons, List.length_nil, zeros, patch, setMany, List.nil_append, List.cons_append, Nat.ble, Nat.add_eq, Nat.zero_add, Nat.add_zero, Nat.reduceAdd, Nat.reduceMul, Nat.reduceSub, Nat.ble_eq, Nat.reduceLeDiff, Nat.reduceBEq, Int.reduceBEq, Int.reduceNeg, Bool.and_true, Bool.and_false, Bool.true_and, Bool.false_and, Bool.not_true, Bool.not_false, Bool.true_eq_false, Bool.false_eq_true, Int.reduceLT, Int.reduceLE, Int.reduceGT, Int.reduceGE, decide_true, decide_false, Bool.not_eq_true, loopN_norm, loopN_exit, tf, ft, ff, v1]
      exact ⟨_, rfl, by simp, w, hw, hmin, _, _, _, _, _, _, _, _, _, _, _, _, rfl, rfl⟩
  obtain ⟨r3, ⟨w, hw, hmin, d0, d1, d2, d3, d5, d6, d7, d8, d9, d10, d11, l3, rfl, hl10⟩, hr3⟩ := loop_any L3 rfl
  have hfil : od.filter (usedB fs) = od := by
    rw [List.filter_eq_self]
    intro y hy
    obtain ⟨j, hj, rfl⟩ := (hmem y).1 hy
    have hjl : j < fs.length := by rw [F2.len]; exact hj
    rw [usedB_eq hjl, (F2.full j fs[j] (List.getElem?_eq_getElem hjl) hj).1]; rfl
  obtain ⟨v, hv⟩ : ∃ v, v = ts.foldl applyM od := ⟨_, rfl⟩
  have hvm : ∀ y, y ∈ v ↔ ∃ j : Nat, j < k ∧ y = (j : Int) := fun y => by rw [hv, applyM_all]; exact hmem y
  have hne : v ≠ [] := fun e => by
    have := (hvm (0 : Nat)).2 ⟨0, by omega, rfl⟩
    rw [e] at this
    cases this
  have hsplit : v.dropLast ++ [v.getLast hne] = v := List.dropLast_concat_getLast hne
  obtain ⟨j, hj, ej⟩ := (hvm _).1 (List.getLast_mem hne)
  rw [ej] at hsplit
  have hwj : w = j := by
    rw [← hv, ← hsplit, List.pairwise_append] at hpw
    have hm := (hvm (w : Int)).2 ⟨w, hw, rfl⟩
    rw [← hsplit, List.mem_append] at hm
    rcases hm with hm | hm
    · have h1 := hpw.2.2 (w : Int) hm (j : Int) (by simp)
      have h2 := hmin j hj
      have h3 : ls.getD (j : Int).toNat 0 < ls.getD (w : Int).toNat 0 := h1
      rw [Int.toNat_natCast, Int.toNat_natCast] at h3
      omega
    · simp at hm; omega
  subst hwj
  have hwl : w < fs.length := by rw [F2.len]; exact hw
  have fw := F2.full w fs[w] (List.getElem?_eq_getElem hwl) hw
  have hfr : frm fs (w : Int) = fs[w] := frm_eq hwl
  have hsp : spareF fs (ts.foldl applyM (od.filter (usedB fs))) = (0, (w : Int), (w : Int)) := by
    rw [hfil, ← hv, ← hsplit, spare_last (by rw [hfr, fw.2.2.1]; decide), hfr, fw.2.2.2, fw.2.1]; rfl
  have hno : findF fs ((40 : Nat) : Int) < 0 := by
    rw [findF_no fun j f hf hs hp => by
      have hjk : j < k := by rw [← F2.len]; exact (List.getElem?_eq_some_iff.1 hf).1
      have := (F2.full j f hf hjk).2.1
      omega]
    decide
  obtain ⟨y, M3, G3, e7, C3, x3, _⟩ := room_go (N := 200) (d := 1) (g := 40) C2 (by omega) hno hsp (by omega)
  have e7' : evCallT table 15 200 8 11 [.c (.ptr q 0), .c (.int .i64 40)] G2 = some (.tup [.c (.int .i64 0), .c (.int .i64 (w : Int)), .c (.int .i64 (w : Int))], G3) := e7
  obtain ⟨l00, l01, l02, l03, l04, l05, l06, l07, l08, l09, l10, l11, l12, l13, l14, l15, rfl⟩ : ∃ a0 a1 a2 a3 a4 a5 a6 a7 a8 a9 b0 b1 b2 b3 b4 b5, l = [a0, a1, a2, a3, a4, a5, a6, a7, a8, a9, b0, b1, b2, b3, b4, b5] := by
    match l, hll16 with
    | [a0, a1, a2, a3, a4, a5, a6, a7, a8, a9, b0, b1, b2, b3, b4, b5], _ => exact ⟨a0, a1, a2, a3, a4, a5, a6, a7, a8, a9, b0, b1, b2, b3, b4, b5, rfl⟩
  obtain ⟨m00, m01, m02, m03, m04, m05, m06, m07, m08, m09, m10, m11, m12, m13, m14, m15, m16, rfl⟩ : ∃ a0 a1 a2 a3 a4 a5 a6 a7 a8 a9 b0 b1 b2 b3 b4 b5 b6, l2 = [a0, a1, a2, a3, a4, a5, a6, a7, a8, a9, b0, b1, b2, b3, b4, b5, b6] := by
    match l2, hl17 with
    | [a0, a1, a2, a3, a4, a5, a6, a7, a8, a9, b0, b1, b2, b3, b4, b5, b6], _ => exact ⟨a0, a1, a2, a3, a4, a5, a6, a7, a8, a9, b0, b1, b2, b3, b4, b5, b6, rfl⟩
  obtain ⟨n00, n01, n02, n03, n04, n05, n06, n07, n08, n09, rfl⟩ : ∃ a0 a1 a2 a3 a4 a5 a6 a7 a8 a9, l3 = [a0, a1, a2, a3, a4, a5, a6, a7, a8, a9] := by
    match l3, hl10 with
    | [a0, a1, a2, a3, a4, a5, a6, a7, a8, a9], _ => exact ⟨a0, a1, a2, a3, a4, a5, a6, a7, a8, a9, rfl⟩
  subst hlb
  rw [evCallT_eq (F := ir4) rfl rfl rfl]
  unfold ir4
  rw [bodyK_eq]
  simp only [enter_eq, ev_seq, seqK_norm, seqK_exit, seqK_ret, ev_reg, ev_cond, condK_true, condK_false, ev_block, blockK_norm, blockK_ret, blockK_exit, ev_loop, ev_skip, ev_exit, ev_ret, regK_cons, regK_nil, guard_none, guard_some, regG_true, regG_false, regO_some, op_mov, op_conv, op_bin, op_bsl, op_box, op_mks, op_s2b, op_pick, op_un, op_eq, op_len, op_ext, op_load, op_iaddr, op_slice, op_b2s, op_idxS, op_mx, op_mn, op_call, op_store, op_app, op_copy, args_eq, result_one', rv_loc, finish_norm, finish_ret, outK_some, keep_true, keep_false, keep_nil, p_bin, p_pick, p_un, p_eq, p_conv, evNew, pureK_some, newK_some, X.eval, set_none, set_some, List.map_cons, List.map_nil, List.getD_cons_zero, List.getD_cons_succ, List.getD_nil, List.set_cons_zero, List.set_cons_succ, binCV, unCV, isShift, intArithF_eq, shiftF_eq, wrapF_eq, intArith, shift, eqVal, bound, asNat_cast, cond_true, cond_false, BEq.rfl, beq_self_eq_true, evalParts, fillParts, AV.cells, AV.ofCells, XV.av, AV.xv, List.length_cons, List.length_nil, zeros, patch, setMany, List.nil_append, List.cons_append, Nat.ble, Nat.add_eq, Nat.zero_add, Nat.add_zero, Nat.reduceAdd, Nat.reduceMul, Nat.reduceSub, Nat.ble_eq, Nat.reduceLeDiff, Nat.reduceBEq, Int.reduceBEq, Int.reduceNeg, Bool.and_true, Bool.and_false, Bool.true_and, Bool.false_and, Bool.not_true, Bool.not_false, Bool.true_eq_false, Bool.false_eq_true, Int.reduceLT, Int.reduceLE, Int.reduceGT, Int.reduceGE, decide_true, decide_false, Bool.not_eq_true, loopN_norm, loopN_exit, tf, ft, ff, e1, w1, e3', ak, bk, bkk, ← hG0]
  rw [hr1 _ rfl]
  simp only [enter_eq, ev_seq, seqK_norm, seqK_exit, seqK_ret, ev_reg, ev_cond, condK_true, condK_false, ev_block, blockK_norm, blockK_ret, blockK_exit, ev_loop, ev_skip, ev_exit, ev_ret, regK_cons, regK_nil, guard_none, guard_some, regG_true, regG_false, regO_some, op_mov, op_conv, op_bin, op_bsl, op_box, op_mks, op_s2b, op_pick, op_un, op_eq, op_len, op_ext, op_load, op_iaddr, op_slice, op_b2s, op_idxS, op_mx, op_mn, op_call, op_store, op_app, op_copy, args_eq, result_one', rv_loc, finish_norm, finish_ret, outK_some, keep_true, keep_false, keep_nil, p_bin, p_pick, p_un, p_eq, p_conv, evNew, pureK_some, newK_some, X.eval, set_none, set_some, List.map_cons, List.map_nil, List.getD_cons_zero, List.getD_cons_succ, List.getD_nil, List.set_cons_zero, List.set_cons_succ, binCV, unCV, isShift, intArithF_eq, shiftF_eq, wrapF_eq, intArith, shift, eqVal, bound, asNat_cast, cond_true, cond_false, BEq.rfl, beq_self_eq_true, evalParts, fillParts, AV.cells, AV.ofCells, XV.av, AV.xv, List.length_cons, List.length_nil, zeros, patch, setMany, List.nil_append, List.cons_append, Nat.ble, Nat.add_eq, Nat.zero_add, Nat.add_zero, Nat.reduceAdd, Nat.reduceMul, Nat.reduceSub, Nat.ble_eq, Nat.reduceLeDiff, Nat.reduceBEq, Int.reduceBEq, Int.reduceNeg, Bool.and_true, Bool.and_false, Bool.true_and, Bool.false_and, Bool.not_true, Bool.not_false, Bool.true_eq_false, Bool.false_eq_true, Int.reduceLT, Int.reduceLE, Int.reduceGT, Int.reduceGE, decide_true, decide_false, Bool.not_eq_true, loopN_norm, loopN_exit, tf, ft, ff, blockK_exit_eq]
  rw [hr2 _ rfl]
  simp only [enter_eq, ev_seq, seqK_norm, seqK_exit, seqK_ret, ev_reg, ev_cond, condK_true, condK_false, ev_block, blockK_norm, blockK_ret, blockK_exit, ev_loop, ev_skip, ev_exit, ev_ret, regK_cons, regK_nil, guard_none, guard_some, regG_true, regG_false, regO_some, op_mov, op_conv, op_bin, op_bsl, op_box, op_mks, op_s2b, op_pick, op_un, op_eq, op_len, op_ext, op_load, op_iaddr, op_slice, op_b2s, op_idxS, op_mx, op_mn, op_call, op_store, op_app, op_copy, args_eq, result_one', rv_loc, finish_norm, finish_ret, outK_some, keep_true, keep_false, keep_nil, p_bin, p_pick, p_un, p_eq, p_conv, evNew, pureK_some, newK_some, X.eval, set_none, set_some, List.map_cons, List.map_nil, List.getD_cons_zero, List.getD_cons_succ, List.getD_nil, List.set_cons_zero, List.set_cons_succ, binCV, unCV, isShift, intArithF_eq, shiftF_eq, wrapF_eq, intArith, shift, eqVal, bound, asNat_cast, cond_true, cond_false, BEq.rfl, beq_self_eq_true, evalParts, fillParts, AV.cells, AV.ofCells, XV.av, AV.xv, List.length_cons, List.length_nil, zeros, patch, setMany, List.nil_append, List.cons_append, Nat.ble, Nat.add_eq, Nat.zero_add, Nat.add_zero, Nat.reduceAdd, Nat.reduceMul, Nat.reduceSub, Nat.ble_eq, Nat.reduceLeDiff, Nat.reduceBEq, Int.reduceBEq, Int.reduceNeg, Bool.and_true, Bool.and_false, Bool.true_and, Bool.false_and, Bool.not_true, Bool.not_false, Bool.true_eq_false, Bool.false_eq_true, Int.reduceLT, Int.reduceLE, Int.reduceGT, Int.reduceGE, decide_true, decide_false, Bool.not_eq_true, loopN_norm, loopN_exit, tf, ft, ff, blockK_exit_eq]
  rw [hr3 _ rfl]
  simp only [enter_eq, ev_seq, seqK_norm, seqK_exit, seqK_ret, ev_reg, ev_cond, condK_true, condK_false, ev_block, blockK_norm, blockK_ret, blockK_exit, ev_loop, ev_skip, ev_exit, ev_ret, regK_cons, regK_nil, guard_none, guard_some, regG_true, regG_false, regO_some, op_mov, op_conv, op_bin, op_bsl, op_box, op_mks, op_s2b, op_pick, op_un, op_eq, op_len, op_ext, op_load, op_iaddr, op_slice, op_b2s, op_idxS, op_mx, op_mn, op_call, op_store, op_app, op_copy, args_eq, result_one', rv_loc, finish_norm, finish_ret, outK_some, keep_true, keep_false, keep_nil, p_bin, p_pick, p_un, p_eq, p_conv, evNew, pureK_some, newK_some, X.eval, set_none, set_some, List.map_cons, List.map_nil, List.getD_cons_zero, List.getD_cons_succ, List.getD_nil, List.set_cons_zero, List.set_cons_succ, binCV, unCV, isShift, intArithF_eq, shiftF_eq, wrapF_eq, intArith, shift, eqVal, bound, asNat_cast, cond_true, cond_false, BEq.rfl, beq_self_eq_true, evalParts, fillParts, AV.cells, AV.ofCells, XV.av, AV.xv, List.length_cons, List.length_nil, zeros, patch, setMany, List.nil_append, List.cons_append, Nat.ble, Nat.add_eq, Nat.zero_add, Nat.add_zero, Nat.reduceAdd, Nat.reduceMul, Nat.reduceSub, Nat.ble_eq, Nat.reduceLeDiff, Nat.reduceBEq, Int.reduceBEq, Int.reduceNeg, Bool.and_true, Bool.and_false, Bool.true_and, Bool.false_and, Bool.not_true, Bool.not_false, Bool.true_eq_false, Bool.false_eq_true, Int.reduceLT, Int.reduceLE, Int.reduceGT, Int.reduceGE, decide_true, decide_false, Bool.not_eq_true, loopN_norm, loopN_exit, tf, ft, ff, blockK_exit_eq, e7', p_ext, List.getElem?_cons_zero, List.getElem?_cons_succ, bneI, eqq, evCallT_told]
  rfl
end Lav

namespace Go.Proofs.Ytdcjiljegffalaa.coreOrders
open Go.ChangeShapes Go.WideShapes Go.ChangeAt Go.RowKit
open Go.ChangeMaps (open_string shut_string)
set_option linter.unusedVariables false

theorem own : ownKnob Try.prog.godebug = none := by kernel_rfl
theorem laidOut : laidOutB Try.prog = true := by kernel_rfl

/-- WHAT THE WALK IS TOLD OF A SLICE OF INTEGERS THAT CAME IN: it is nil; or it leads to a row of 'cap' cells, the numbers 'zs' (the first 'len' are its elements, the rest its spare room), each fitting its kind. -/
def IsRow (k : IntKind) (w : World) (a : Option Addr) (len cap : Nat) (zs : List Int) : Prop :=
  (a = none ∧ len = 0 ∧ cap = 0 ∧ zs = []) ∨
  ∃ x, a = some x ∧ len ≤ cap ∧ cap ≤ maxLen ∧ zs.length = cap ∧ (∀ i, i < zs.length → w.cell? (x.add i) = some (.int k (zs.getD i 0))) ∧ ∀ n ∈ zs, (Lit.int k n).wf = true

/-! ### STEP 1: THE WALK: the Go text returns true, AND WRITES NOTHING THAT WAS THERE: 'Below w.heap.size w w'' (Derived/Below.lean: '.refl', '.alloc', '.drew', '.setCell' at a new block, '.trans'). Open each 'IsRow' by 'rcases' AHEAD of 'go_enter'; part every test ahead of the walk. -/
theorem walk (a0 : Int) (a1 : Option Addr) (len1 cap1 : Nat) (z1 : List Int) (w : World) (w0 : (Lit.int .i64 a0).wf = true) (w1 : IsRow .i64 w a1 len1 cap1 z1) :
    Calls Try.prog 4 #[.int .i64 a0, .slice a1 len1 cap1] w fun e w' => e = .returned (.bool true) ∧ Below w.heap.size w w' := by
  obtain ⟨ι, h, x, I, hle, hx, hr⟩ := (Lav.Init.empty w).slice w1
  exact Lav.walk_of (Lav.evCallT_sound Lav.mixed Lav.table_ok Lav.tld11 200 9) I (args := [.c (.int .i64 a0), .c x]) (vs := [.int .i64 a0, .slice a1 len1 cap1]) ⟨rfl, hx, trivial⟩ (Lav.coreOrders a0 (Lav.ints_of hr))

/-! ### THE ROW's STEP: WRITTEN OUT: LEAVE IT -/
set_option maxRecDepth 100000 in
theorem lifted (os : Os) (started : os.Started) (H : Type) (enc : TypeId × Value → H) :
    ReturnsInHanded {} Try.checked os 4 .any (Rows.coreOrdersSpec.pre6 enc Try.prog Try.f4 Rows.coreOrdersRow.domain false) (Rows.coreOrdersSpec.post enc Try.prog Try.f4 false true false false) := by
  refine returnsInHanded_of_change (C := Try.checked) own started (by kernel_rfl) Try.func4
    (ChangeSpec.witness6 (enc := enc) (C := Try.checked) false ⟨#[], #[.int .i64 0, .slice none 0 0], []⟩ 8 (by kernel_rfl) (by kernel_rfl) (by kernel_rfl) (by kernel_rfl)) ?_
  intro W base args ds gs before hval0 hW hcnd _
  have hval : ∀ (j : Nat) t v, Try.f4.params[j]? = some t → args[j]? = some v → Value.okWide Try.prog W .any base t v := hval0
  have hW' := hW
  obtain ⟨p, q, hA0, hV, rfl, hfz, hnd⟩ := hW
  have hA : DataW.TrodAll enc Try.prog W 0 (fun _ => true) true Try.f4.params.toList args.toList ds p := hA0
  rw [Try.params4] at hA hval
  obtain ⟨v0, vs0, d0, ds0, p0, q0, hargs, rfl, rfl, h0, r0⟩ := trodAll_cons hA
  obtain ⟨v1, vs1, d1, ds1, p1, q1, rfl, rfl, rfl, h1, r1⟩ := trodAll_cons r0
  obtain ⟨rfl, rfl, rfl⟩ := trodAll_nil r1
  obtain rfl : args = #[v0, v1] := by cases args; simp_all
  obtain ⟨rfl, rfl⟩ := trodVars_none hV
  obtain ⟨a0, rfl, rfl, rfl, w0⟩ := open_int Try.underlying3 (hval 0 3 v0 rfl rfl) h0
  obtain ⟨a1, len1, cap1, rfl⟩ := okWide_slice Try.underlying40 (hval 1 40 v1 rfl rfl)
  have k1 := h1
  have lt1 : ∀ x ∈ p1, x.block < W.heap.size := by obtain ⟨m, hm⟩ := k1; exact DataW.trod_lt m _ _ _ hm
  obtain ⟨z1, w1⟩ : ∃ zs, IsRow .i64 W a1 len1 cap1 zs := by
    obtain ⟨fuel, hf⟩ := h1
    rcases open_ints Try.underlying40 Try.underlying3 (by kernel_rfl) hf with ⟨hcs, _⟩ | ⟨x, l, c, zs, hcs, _, hl, hm, hz, _, hcell, hwz⟩
    · simp [Value.cells] at hcs
      obtain ⟨rfl, rfl, rfl⟩ := hcs
      exact ⟨[], .inl ⟨rfl, rfl, rfl, rfl⟩⟩
    · simp [Value.cells] at hcs
      obtain ⟨rfl, rfl, rfl⟩ := hcs
      exact ⟨zs, .inr ⟨_, rfl, hl, hm, by simpa using hz, hcell, hwz⟩⟩
  clear hA0 hval0
  refine (walk a0 a1 len1 cap1 z1 W w0 w1).mono fun e W' ⟨he, bel⟩ => ?_
  subst he
  exact ⟨_, rfl, _, _, _, [], _, [], hW', trodAll_mk1 (shut_bool Try.underlying4 _), (trodAll_cons_mk (shut_int Try.underlying3 w0) (trodAll_cons_mk (Below.trod laidOut (by kernel_rfl) (of_decide_eq_true (by kernel_rfl)) k1 bel lt1) trodAll_mk0)), rfl, bel.frame _, fun h => by cases h⟩

theorem over : Rows.coreOrdersRow.holds Try.pinned (OpenSpec.ofChange Rows.coreOrdersSpec) :=
  OpenClaim.holds_of_wide 4 Try.f4 rfl rfl rfl rfl rfl rfl rfl ⟨rfl, rfl, rfl, rfl, rfl⟩ rfl rfl rfl rfl rfl (by kernel_rfl) Try.func4 (by kernel_rfl)
    (of_decide_eq_true (by kernel_rfl)) (by unfold Func.isWrapper; first | (rw [if_pos (by decide +kernel)]; kernel_rfl) | (rw [if_neg (by decide +kernel)]; exact ⟨rfl, rfl⟩))
    (fun os started H enc _ => lifted os started H enc)

/-- ████ THE STATEMENT ████ -/
theorem proved : Rows.CoreOrdersSaid := over
end Go.Proofs.Ytdcjiljegffalaa.coreOrders
