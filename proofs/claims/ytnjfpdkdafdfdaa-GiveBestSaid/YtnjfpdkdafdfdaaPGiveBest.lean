/-
  Proved: whatever numbers come in, lavabolaw17.GiveBest returns true and changes nothing that was there. No conditions beyond the given statement's.
-/
import Derived.Test.YtnjfpdkdafdfdaaRows
import Derived.Test.YtnjfpdkdafdfdaaInts0
import Derived.Test.YtnjfpdkdafdfdaaInts1
import Derived.Test.YtnjfpdkdafdfdaaGive1
import Derived.Test.YtnjfpdkdafdfdaaGive2
import Derived.WalkKit
import Derived.ProofKit
import Derived.OpenShut
import Derived.ShutString
import Derived.ChangeOld
import Derived.Below
set_option maxRecDepth 100000
set_option linter.unusedSimpArgs false
namespace Lav
open Go (IntKind)
theorem giveBest {x : CV} {h : Heap} {xs : List Int} (need : Int) (hx : Ints h x xs) : good (evCallT table 22 100 9 8 [.c x, .c (.int .i64 need)] h) = true := by
  have lx : ∀ (loc vals : List AV) (h : Heap), evPure loc (.c x :: vals) h (.len .sl (.val 0)) = some (.c (.int .i64 (xs.length : Int))) := fun _ _ _ => hx.len rfl
  obtain ⟨k, hk, ek⟩ := few (a := need) (m := 4) (by omega) (by omega)
  have ek' : IntKind.i64.wrap (Int.tmod (IntKind.u64.wrap need) 4) = (k : Int) := ek
  rw [evCallT_eq (F := ir8) rfl rfl rfl]
  unfold ir8
  rw [bodyK_eq]
  by_cases hl : xs.length < 8
  · have v0 : decide ((xs.length : Int) < 8) = true := by simp; omega
    simp only [enter_eq, ev_seq, seqK_norm, seqK_exit, seqK_ret, ev_reg, ev_cond, condK_true, condK_false, ev_block, blockK_norm, blockK_ret, blockK_exit, ev_loop, ev_skip, ev_exit, ev_ret, regK_cons, regK_nil, guard_none, guard_some, regG_true, regG_false, regO_some, op_mov, op_conv, op_bin, op_bsl, op_box, op_mks, op_s2b, op_pick, op_un, op_eq, op_len, op_ext, op_load, op_iaddr, op_slice, op_b2s, op_idxS, op_mx, op_mn, op_call, op_store, op_app, op_copy, args_eq, result_one', rv_loc, finish_norm, finish_ret, outK_some, keep_true, keep_false, keep_nil, p_bin, p_pick, p_un, p_eq, p_conv, evNew, pureK_some, newK_some, X.eval, set_none, set_some, List.map_cons, List.map_nil, List.getD_cons_zero, List.getD_cons_succ, List.getD_nil, List.set_cons_zero, List.set_cons_succ, binCV, unCV, isShift, intArithF_eq, shiftF_eq, wrapF_eq, intArith, shift, eqVal, bound, asNat_cast, cond_true, cond_false, BEq.rfl, beq_self_eq_true, evalParts, fillParts, AV.cells, AV.ofCells, XV.av, AV.xv, List.length_cons, List.length_nil, zeros, patch, setMany, List.nil_append, List.cons_append, Nat.ble, Nat.add_eq, Nat.zero_add, Nat.add_zero, Nat.reduceAdd, Nat.reduceMul, Nat.reduceSub, Nat.ble_eq, Nat.reduceLeDiff, Nat.reduceBEq, Int.reduceBEq, Int.reduceNeg, Bool.and_true, Bool.and_false, Bool.true_and, Bool.false_and, Bool.not_true, Bool.not_false, Bool.true_eq_false, Bool.false_eq_true, Int.reduceLT, Int.reduceLE, Int.reduceGT, Int.reduceGE, decide_true, decide_false, Bool.not_eq_true, loopN_norm, loopN_exit, tf, ft, ff, lx, v0, evCallT_told]
    rfl
  have v0 : decide ((xs.length : Int) < 8) = false := by simp; omega
  obtain ⟨bx, ox, cx, rfl, hbx, rx⟩ := hx.sl (by omega)
  have L1 : ∀ loc, keepOnly ir8_k1 loc = [.c (.sl bx ox xs.length cx), .junk, .junk, .c .nils, .c .nils, .c (.bool false), .c (.bool false), .c (.int .i64 (k : Int)), .c (.int .i64 0), .junk, .junk, .junk, .junk, .junk, .junk, .junk, .junk] →
      ∃ r, loopK (evCallT table 22 100 8) 100 ir8_k1 ir8_l1 100 loc h = some r ∧ ∃ h' a b, ∃ la lb : List Int, ∃ some_ any : Bool, ∃ a8 a12, la.length = 4 ∧ lb.length = 4 ∧ (∀ v ∈ la, 0 ≤ v ∧ v ≤ 9) ∧ (∀ v ∈ lb, 0 ≤ v ∧ v ≤ 9) ∧ Ints h' a la ∧ Ints h' b lb ∧
        (some_ = true ↔ ∃ j, ∃ hj : j < la.length, j ≠ k ∧ la[j] > 0) ∧ (any = true ↔ ∃ j, ∃ hj : j < lb.length, j ≠ k ∧ lb[j] > 0) ∧
        r = (.exit 0, [.c (.sl bx ox xs.length cx), .junk, .junk, .c a, .c b, .c (.bool some_), .c (.bool any), .c (.int .i64 (k : Int)), a8, .junk, .junk, .junk, a12, .junk, .junk, .junk, .junk], h') := by
    intro loc hloc
    refine loop_inv (n := 4) (fun i loc h' => ∃ (a b : CV) (la lb : List Int) (some_ any : Bool), la.length = i ∧ lb.length = i ∧ (∀ v ∈ la, 0 ≤ v ∧ v ≤ 9) ∧ (∀ v ∈ lb, 0 ≤ v ∧ v ≤ 9) ∧ Mine 1 h h' a i (la.map icell) ∧ Mine 1 h h' b i (lb.map icell) ∧ (∀ k, blk a = some k → blk b ≠ some k) ∧ Ext h h' ∧
      (some_ = true ↔ ∃ j, ∃ hj : j < la.length, j ≠ k ∧ la[j] > 0) ∧ (any = true ↔ ∃ j, ∃ hj : j < lb.length, j ≠ k ∧ lb[j] > 0) ∧
      loc = [.c (.sl bx ox xs.length cx), .junk, .junk, .c a, .c b, .c (.bool some_), .c (.bool any), .c (.int .i64 (k : Int)), .c (.int .i64 (i : Int)), .junk, .junk, .junk, .junk, .junk, .junk, .junk, .junk]) _ ?_ ⟨.nils, .nils, [], [], false, false, rfl, rfl, by simp, by simp, Mine.nil, Mine.nil, by simp [blk], Ext.refl h, by simp, by simp, hloc⟩ (by omega)
    rintro i loc h' hi ⟨a, b, la, lb, sm, an, hla, hlb, ba, bb, ma, mb, hab, he, hsm, han, rfl⟩
    unfold ir8_l1
    by_cases hlt : i < 4
    · left
      refine ⟨hlt, ?_⟩
      have v1 : decide ((i : Int) < 4) = true := ltNat (n := 4) hlt
      have v2 := succI (i := i) (by omega)
      have v3 : IntKind.i64.wrap (4 + (i : Int)) = ((4 + i : Nat) : Int) := by rw [wrapI (by omega) (by omega)]; omega
      have m1 : Nat.blt i xs.length = true := bltT (by omega)
      have m2 : Nat.blt (4 + i) xs.length = true := bltT (by omega)
      have m3 : Nat.blt i (i + 1) = true := bltT (by omega)
      obtain ⟨v, hv, ev⟩ := few (a := xs[i]'(by omega)) (m := 10) (by omega) (by omega)
      have ev' : IntKind.i64.wrap (Int.tmod (IntKind.u64.wrap (xs[i]'(by omega))) 10) = (v : Int) := ev
      obtain ⟨w, hw, ew⟩ := few (a := xs[4 + i]'(by omega)) (m := 10) (by omega) (by omega)
      have ew' : IntKind.i64.wrap (Int.tmod (IntKind.u64.wrap (xs[4 + i]'(by omega))) 10) = (w : Int) := ew
      obtain ⟨H1, H2, a1, a2, ma', mb', keep, nx⟩ := app_two (v : Int) (w : Int) he.1 ma mb hab (by omega)
      have rd : ∀ H : Heap, H.get bx = h'.get bx → H.read bx (ox + i) 1 = some [.int .i64 (xs[i]'(by omega))] ∧ H.read bx (ox + (4 + i)) 1 = some [.int .i64 (xs[4 + i]'(by omega))] := fun H e => by
        rw [read_of (h := h) (e.trans (he.2 bx hbx)), read_of (h := h) (e.trans (he.2 bx hbx))]; exact ⟨rx i (by omega), rx (4 + i) (by omega)⟩
      have q1 := (rd (h'.skip 2) rfl).1
      have q1' := (rd (h'.skip 2) rfl).2
      have q2 := (rd H1 (keep bx hbx).1).2
      have hb' : bx < h'.next := Nat.lt_of_lt_of_le hbx he.1
      have q3 := (rd ((h'.skip 2).put h'.next (.cells [icell (v : Int)])) (get_put_ne (by omega))).2
      simp only [icell] at a1 a2 q3
      have ga : H2.get (h'.next + 2) = some (.cells ((la ++ [(v : Int)]).map icell)) := by
        obtain ⟨_, ⟨hc, _⟩ | ⟨j, hj, hg, _⟩⟩ := ma'
        · cases hc
        · cases hj; exact hg
      have gb : H2.get (h'.next + 3) = some (.cells ((lb ++ [(w : Int)]).map icell)) := by
        obtain ⟨_, ⟨hc, _⟩ | ⟨j, hj, hg, _⟩⟩ := mb'
        · cases hc
        · cases hj; exact hg
      have ra : H2.read (h'.next + 2) i 1 = some [.int .i64 (v : Int)] := read_cells ga (getP hla)
      have rb : H2.read (h'.next + 3) i 1 = some [.int .i64 (w : Int)] := read_cells gb (getP hlb)
      have ext2 : Ext h H2 := ⟨by rw [nx]; have := he.1; omega, fun j hj => (keep j hj).2.trans (he.2 j hj)⟩
      have upd_ : ∀ (l : List Int) (s : Bool) (u : Int), l.length = i → (s = true ↔ ∃ j, ∃ hj : j < l.length, j ≠ k ∧ l[j] > 0) → ((s || (decide ((i : Int) ≠ (k : Int)) && decide (u > 0))) = true ↔ ∃ j, ∃ hj : j < (l ++ [u]).length, j ≠ k ∧ (l ++ [u])[j] > 0) := by
        intro l s u hl hs
        constructor
        · intro h1
          rcases Bool.or_eq_true_iff.1 h1 with h2 | h2
          · obtain ⟨j, hj, h3, h4⟩ := hs.1 h2
            exact ⟨j, by simp; omega, h3, by rw [List.getElem_append_left hj]; exact h4⟩
          · simp only [Bool.and_eq_true, decide_eq_true_eq] at h2
            exact ⟨i, by simp; omega, by omega, by rw [List.getElem_append_right (by omega)]; simp; exact h2.2⟩
        · rintro ⟨j, hj, h3, h4⟩
          by_cases e : j < l.length
          · rw [List.getElem_append_left e] at h4
            rw [hs.2 ⟨j, e, h3, h4⟩]; rfl
          · have : j = i := by simp at hj; omega
            subst this
            rw [List.getElem_append_right (by omega)] at h4
            simp at h4
            have : (j : Int) ≠ (k : Int) := by omega
            simp [this, h4]
      have usm := upd_ la sm (v : Int) hla hsm
      have uan := upd_ lb an (w : Int) hlb han
      have mem1 : ∀ (l : List Int) (u : Nat), u < 10 → (∀ v ∈ l, 0 ≤ v ∧ v ≤ 9) → ∀ v ∈ l ++ [(u : Int)], 0 ≤ v ∧ v ≤ 9 := fun l u hu hl z hz => by
        rcases List.mem_append.1 hz with h1 | h1
        · exact hl z h1
        · have : z = (u : Int) := by simpa using h1
          omega
      have hab' : ∀ k, blk (.sl (h'.next + 2) 0 (i + 1) (.dy 1)) = some k → blk (.sl (h'.next + 3) 0 (i + 1) (.dy 1)) ≠ some k := by simp [blk]
      have key : ∀ r, (∃ loc' h'', r = some (Ex.norm, loc', h'') ∧ h'' = H2 ∧ keepOnly ir8_k1 loc' = [.c (.sl bx ox xs.length cx), .junk, .junk, .c (.sl (h'.next + 2) 0 (i + 1) (.dy 1)), .c (.sl (h'.next + 3) 0 (i + 1) (.dy 1)), .c (.bool (sm || (decide ((i : Int) ≠ (k : Int)) && decide ((v : Int) > 0)))), .c (.bool (an || (decide ((i : Int) ≠ (k : Int)) && decide ((w : Int) > 0)))), .c (.int .i64 (k : Int)), .c (.int .i64 ((i + 1 : Nat) : Int)), .junk, .junk, .junk, .junk, .junk, .junk, .junk, .junk]) →
          ∃ loc' h'', r = some (Ex.norm, loc', h'') ∧ ∃ (a b : CV) (la lb : List Int) (some_ any : Bool), la.length = i + 1 ∧ lb.length = i + 1 ∧ (∀ v ∈ la, 0 ≤ v ∧ v ≤ 9) ∧ (∀ v ∈ lb, 0 ≤ v ∧ v ≤ 9) ∧ Mine 1 h h'' a (i + 1) (la.map icell) ∧ Mine 1 h h'' b (i + 1) (lb.map icell) ∧ (∀ k, blk a = some k → blk b ≠ some k) ∧ Ext h h'' ∧
            (some_ = true ↔ ∃ j, ∃ hj : j < la.length, j ≠ k ∧ la[j] > 0) ∧ (any = true ↔ ∃ j, ∃ hj : j < lb.length, j ≠ k ∧ lb[j] > 0) ∧
            keepOnly ir8_k1 loc' = [.c (.sl bx ox xs.length cx), .junk, .junk, .c a, .c b, .c (.bool some_), .c (.bool any), .c (.int .i64 (k : Int)), .c (.int .i64 ((i + 1 : Nat) : Int)), .junk, .junk, .junk, .junk, .junk, .junk, .junk, .junk] := by
        rintro r ⟨loc', h'', e1, rfl, e2⟩
        exact ⟨loc', _, e1, _, _, la ++ [(v : Int)], lb ++ [(w : Int)], _, _, by simp [hla], by simp [hlb], mem1 la v hv ba, mem1 lb w hw bb, ma', mb', hab', ext2, usm, uan, e2⟩
      apply key
      have dn : decide ((i : Int) ≠ (k : Int)) = !((i : Int) == (k : Int)) := by by_cases e : (i : Int) = (k : Int) <;> simp [e]
      rw [dn]
      cases cik : ((i : Int) == (k : Int)) <;> cases sm <;> cases an <;>
        simp only [enter_eq, ev_seq, seqK_norm, seqK_exit, seqK_ret, ev_reg, ev_cond, condK_true, condK_false, ev_block, blockK_norm, blockK_ret, blockK_exit, ev_loop, ev_skip, ev_exit, ev_ret, regK_cons, regK_nil, guard_none, guard_some, regG_true, regG_false, regO_some, op_mov, op_conv, op_bin, op_bsl, op_box, op_mks, op_s2b, op_pick, op_un, op_eq, op_len, op_ext, op_load, op_iaddr, op_slice, op_b2s, op_idxS, op_mx, op_mn, op_call, op_store, op_app, op_copy, args_eq, result_one', rv_loc, finish_norm, finish_ret, outK_some, keep_true, keep_false, keep_nil, p_bin, p_pick, p_un, p_eq, p_conv, evNew, pureK_some, newK_some, X.eval, set_none, set_some, List.map_cons, List.map_nil, List.getD_cons_zero, List.getD_cons_succ, List.getD_nil, List.set_cons_zero, List.set_cons_succ, binCV, unCV, isShift, intArithF_eq, shiftF_eq, wrapF_eq, intArith, shift, eqVal, bound, asNat_cast, cond_true, cond_false, BEq.rfl, beq_self_eq_true, evalParts, fillParts, AV.cells, AV.ofCells, XV.av, AV.xv, List.length_cons, List.length_nil, zeros, patch, setMany, List.nil_append, List.cons_append, Nat.ble, Nat.add_eq, Nat.zero_add, Nat.add_zero, Nat.reduceAdd, Nat.reduceMul, Nat.reduceSub, Nat.ble_eq, Nat.reduceLeDiff, Nat.reduceBEq, Int.reduceBEq, Int.reduceNeg, Bool.and_true, Bool.and_false, Bool.true_and, Bool.false_and, Bool.not_true, Bool.not_false, Bool.true_eq_false, Bool.false_eq_true, Int.reduceLT, Int.reduceLE, Int.reduceGT, Int.reduceGE, decide_true, decide_false, Bool.not_eq_true, loopN_norm, loopN_exit, tf, ft, ff, ev_dreg, dregK_nil, dregK_cons, dregE_true, dregP_some, dregX_some, d_mov, d_bin, d_eq, d_pick, d_un, d_conv, d_b2s, d_len, d_load, d_iaddr, d_slice, d_ext, d_call, d_store, chk_done, chk_none, chk_some, chkG_true, chkG_false, chkOne_nil, chkOne_cons, chkH_some, chkV_same, stage_none, stage_some, look_hit, look_miss, news_nil, wb_cons, wb_nil, skip0, List.reverse_cons, List.reverse_nil, d_bsl, d_app, dregW_some, d_mov_not, d_bin_not, d_iaddr_not, d_load_not, d_pick_not, bneI, v1, v2, v3, p_iaddr, p_load, m1, m2, m3, Nat.mul_one, q1, q1', q2, q3, ev', ew', a1, a2, ra, rb, cik] <;>
        exact ⟨_, _, rfl, rfl, rfl⟩
    · right
      have hi4 : i = 4 := by omega
      subst hi4
      simp only [enter_eq, ev_seq, seqK_norm, seqK_exit, seqK_ret, ev_reg, ev_cond, condK_true, condK_false, ev_block, blockK_norm, blockK_ret, blockK_exit, ev_loop, ev_skip, ev_exit, ev_ret, regK_cons, regK_nil, guard_none, guard_some, regG_true, regG_false, regO_some, op_mov, op_conv, op_bin, op_bsl, op_box, op_mks, op_s2b, op_pick, op_un, op_eq, op_len, op_ext, op_load, op_iaddr, op_slice, op_b2s, op_idxS, op_mx, op_mn, op_call, op_store, op_app, op_copy, args_eq, result_one', rv_loc, finish_norm, finish_ret, outK_some, keep_true, keep_false, keep_nil, p_bin, p_pick, p_un, p_eq, p_conv, evNew, pureK_some, newK_some, X.eval, set_none, set_some, List.map_cons, List.map_nil, List.getD_cons_zero, List.getD_cons_succ, List.getD_nil, List.set_cons_zero, List.set_cons_succ, binCV, unCV, isShift, intArithF_eq, shiftF_eq, wrapF_eq, intArith, shift, eqVal, bound, asNat_cast, cond_true, cond_false, BEq.rfl, beq_self_eq_true, evalParts, fillParts, AV.cells, AV.ofCells, XV.av, AV.xv, List.length_cons, List.length_nil, zeros, patch, setMany, List.nil_append, List.cons_append, Nat.ble, Nat.add_eq, Nat.zero_add, Nat.add_zero, Nat.reduceAdd, Nat.reduceMul, Nat.reduceSub, Nat.ble_eq, Nat.reduceLeDiff, Nat.reduceBEq, Int.reduceBEq, Int.reduceNeg, Bool.and_true, Bool.and_false, Bool.true_and, Bool.false_and, Bool.not_true, Bool.not_false, Bool.true_eq_false, Bool.false_eq_true, Int.reduceLT, Int.reduceLE, Int.reduceGT, Int.reduceGE, decide_true, decide_false, Bool.not_eq_true, loopN_norm, loopN_exit, tf, ft, ff]
      exact ⟨_, rfl, by simp, h', a, b, la, lb, sm, an, _, _, hla, hlb, ba, bb, (Mine.made ma).ints, (Mine.made mb).ints, hsm, han, rfl⟩
  obtain ⟨r, hr1, h', a, b, la, lb, sm, an, a8, a12, hla, hlb, ba, bb, ia, ib, hsm, han, rfl⟩ := L1 [.c (.sl bx ox xs.length cx), .c (.int .i64 need), .c (.bool false), .c .nils, .c .nils, .c (.bool false), .c (.bool false), .c (.int .i64 (k : Int)), .c (.int .i64 0), .tup [], .tup [], .c (.bool false), .tup [], .tup [], .tup [], .tup [], .tup []] rfl
  obtain ⟨g, e1, hg⟩ : ∃ g : Int, evCallT table 22 100 8 23 [.c a, .c b, .c (.int .i64 (k : Int))] h' = some (.c (.int .i64 g), h') ∧ GiveP la lb k g := from_ok (N := 100) (d := 4) k ia ib (fun v hv => (ba v hv).1) (fun v hv => (bb v hv).1) hla hlb hk (by omega)
  have out : (sm = false ∧ an = false ∧ g = -1) ∨ (sm = true ∧ ∃ j, ∃ hj : j < la.length, g = (j : Int) ∧ j ≠ k ∧ la[j] > 0 ∧ ∀ i (_ : i < la.length), i ≠ k → la[i] ≤ la[j]) ∨
      (sm = false ∧ an = true ∧ ∃ j, ∃ hj : j < lb.length, g = (j : Int) ∧ j ≠ k ∧ lb[j] > 0 ∧ ∀ i (_ : i < lb.length), i ≠ k → lb[i] ≤ lb[j]) := by
    have first : ∀ g', MostP la (k : Int) la.length g' → 0 ≤ g' → sm = true ∧ ∃ j, ∃ hj : j < la.length, g' = (j : Int) ∧ j ≠ k ∧ la[j] > 0 ∧ ∀ i (_ : i < la.length), i ≠ k → la[i] ≤ la[j] := by
      intro g' hm h0
      rcases hm with ⟨rfl, _⟩ | ⟨j, hj, _, rfl, hjk, hjp, hm⟩
      · omega
      · exact ⟨hsm.2 ⟨j, hj, by omega, hjp⟩, j, hj, rfl, by omega, hjp, fun i hi hik => hm i hi hi (by omega)⟩
    rcases hg with ⟨hm, h0⟩ | ⟨hm, hm2⟩
    · obtain ⟨h1, h2⟩ := first g hm h0
      exact .inr (.inl ⟨h1, h2⟩)
    · have hsf : sm = false := by
        rcases hm with ⟨_, h0⟩ | ⟨j, _, _, hc, _⟩
        · cases hs : sm with
          | false => rfl
          | true =>
            obtain ⟨j, hj, hjk, hjp⟩ := hsm.1 hs
            have := h0 j hj hj (by omega)
            omega
        · omega
      rcases hm2 with ⟨rfl, h0⟩ | ⟨j, hj, _, rfl, hjk, hjp, hm⟩
      · refine .inl ⟨hsf, ?_, rfl⟩
        cases hs : an with
        | false => rfl
        | true =>
          obtain ⟨j, hj, hjk, hjp⟩ := han.1 hs
          have := h0 j hj hj (by omega)
          omega
      · exact .inr (.inr ⟨hsf, han.2 ⟨j, hj, by omega, hjp⟩, j, hj, rfl, by omega, hjp, fun i hi hik => hm i hi hi (by omega)⟩)
  have L0 : ∀ (sm' : Bool) (j : Nat) (hj : j < 4), j ≠ k → (if sm' = true then ∀ i (_ : i < la.length), i ≠ k → la[i] ≤ la[j]'(by omega) else ∀ i (_ : i < lb.length), i ≠ k → lb[i] ≤ lb[j]'(by omega)) →
      ∀ loc, keepOnly ir8_k0 loc = [.junk, .junk, .junk, .c a, .c b, .c (.bool sm'), .junk, .c (.int .i64 (k : Int)), .junk, .c (.int .i64 (j : Int)), .c (.int .i64 0), .junk, .junk, .junk, .junk, .junk, .junk] →
      ∃ r, loopK (evCallT table 22 100 8) 100 ir8_k0 ir8_l0 100 loc h' = some r ∧ ∃ a0 a1 a2 a6 a8 l, r = (.exit 2, a0 :: a1 :: a2 :: .c a :: .c b :: .c (.bool sm') :: a6 :: .c (.int .i64 (k : Int)) :: a8 :: .c (.int .i64 (j : Int)) :: l, h') := by
    intro sm' j hj hjk hall loc hloc
    refine loop_inv (n := 4) (fun i loc h'' => h'' = h' ∧ loc = [.junk, .junk, .junk, .c a, .c b, .c (.bool sm'), .junk, .c (.int .i64 (k : Int)), .junk, .c (.int .i64 (j : Int)), .c (.int .i64 (i : Int)), .junk, .junk, .junk, .junk, .junk, .junk]) _ ?_ ⟨rfl, hloc⟩ (by omega)
    rintro i loc h'' hi ⟨rfl, rfl⟩
    unfold ir8_l0
    by_cases hlt : i < 4
    · left
      refine ⟨hlt, ?_⟩
      have v1 : decide ((i : Int) < 4) = true := ltNat (n := 4) hlt
      have v2 := succI (i := i) (by omega)
      by_cases hik : i = k
      · have q1 : ((i : Int) == (k : Int)) = true := by simp [hik]
        cases sm' <;> (simp only [enter_eq, ev_seq, seqK_norm, seqK_exit, seqK_ret, ev_reg, ev_cond, condK_true, condK_false, ev_block, blockK_norm, blockK_ret, blockK_exit, ev_loop, ev_skip, ev_exit, ev_ret, regK_cons, regK_nil, guard_none, guard_some, regG_true, regG_false, regO_some, op_mov, op_conv, op_bin, op_bsl, op_box, op_mks, op_s2b, op_pick, op_un, op_eq, op_len, op_ext, op_load, op_iaddr, op_slice, op_b2s, op_idxS, op_mx, op_mn, op_call, op_store, op_app, op_copy, args_eq, result_one', rv_loc, finish_norm, finish_ret, outK_some, keep_true, keep_false, keep_nil, p_bin, p_pick, p_un, p_eq, p_conv, evNew, pureK_some, newK_some, X.eval, set_none, set_some, List.map_cons, List.map_nil, List.getD_cons_zero, List.getD_cons_succ, List.getD_nil, List.set_cons_zero, List.set_cons_succ, binCV, unCV, isShift, intArithF_eq, shiftF_eq, wrapF_eq, intArith, shift, eqVal, bound, asNat_cast, cond_true, cond_false, BEq.rfl, beq_self_eq_true, evalParts, fillParts, AV.cells, AV.ofCells, XV.av, AV.xv, List.length_cons, List.length_nil, zeros, patch, setMany, List.nil_append, List.cons_append, Nat.ble, Nat.add_eq, Nat.zero_add, Nat.add_zero, Nat.reduceAdd, Nat.reduceMul, Nat.reduceSub, Nat.ble_eq, Nat.reduceLeDiff, Nat.reduceBEq, Int.reduceBEq, Int.reduceNeg, Bool.and_true, Bool.and_false, Bool.true_and, Bool.false_and, Bool.not_true, Bool.not_false, Bool.true_eq_false, Bool.false_eq_true, Int.reduceLT, Int.reduceLE, Int.reduceGT, Int.reduceGE, decide_true, decide_false, Bool.not_eq_true, loopN_norm, loopN_exit, tf, ft, ff, ev_dreg, dregK_nil, dregK_cons, dregE_true, dregP_some, dregX_some, d_mov, d_bin, d_eq, d_pick, d_un, d_conv, d_b2s, d_len, d_load, d_iaddr, d_slice, d_ext, d_call, d_store, chk_done, chk_none, chk_some, chkG_true, chkG_false, chkOne_nil, chkOne_cons, chkH_some, chkV_same, stage_none, stage_some, look_hit, look_miss, news_nil, wb_cons, wb_nil, skip0, List.reverse_cons, List.reverse_nil, d_mov_not, d_bin_not, d_iaddr_not, d_load_not, d_pick_not, d_un_not, bneI, v1, v2, q1]; exact ⟨_, _, rfl, rfl, rfl⟩)
      · have q1 : ((i : Int) == (k : Int)) = false := by simp; omega
        obtain ⟨b1, o1, c1, rfl, _, r1⟩ := ia.sl (by omega)
        obtain ⟨b2, o2, c2, rfl, _, r2⟩ := ib.sl (by omega)
        have k1 := r1 i (by omega)
        have k1' := r1 j (by omega)
        have k2 := r2 i (by omega)
        have k2' := r2 j (by omega)
        have m1 : Nat.blt i la.length = true := bltT (by omega)
        have m1' : Nat.blt j la.length = true := bltT (by omega)
        have m2 : Nat.blt i lb.length = true := bltT (by omega)
        have m2' : Nat.blt j lb.length = true := bltT (by omega)
        cases sm' with
        | false =>
          have := hall i (by omega) hik
          have q2 : decide (lb[i]'(by omega) > lb[j]'(by omega)) = false := decide_eq_false (by omega)
          simp only [enter_eq, ev_seq, seqK_norm, seqK_exit, seqK_ret, ev_reg, ev_cond, condK_true, condK_false, ev_block, blockK_norm, blockK_ret, blockK_exit, ev_loop, ev_skip, ev_exit, ev_ret, regK_cons, regK_nil, guard_none, guard_some, regG_true, regG_false, regO_some, op_mov, op_conv, op_bin, op_bsl, op_box, op_mks, op_s2b, op_pick, op_un, op_eq, op_len, op_ext, op_load, op_iaddr, op_slice, op_b2s, op_idxS, op_mx, op_mn, op_call, op_store, op_app, op_copy, args_eq, result_one', rv_loc, finish_norm, finish_ret, outK_some, keep_true, keep_false, keep_nil, p_bin, p_pick, p_un, p_eq, p_conv, evNew, pureK_some, newK_some, X.eval, set_none, set_some, List.map_cons, List.map_nil, List.getD_cons_zero, List.getD_cons_succ, List.getD_nil, List.set_cons_zero, List.set_cons_succ, binCV, unCV, isShift, intArithF_eq, shiftF_eq, wrapF_eq, intArith, shift, eqVal, bound, asNat_cast, cond_true, cond_false, BEq.rfl, beq_self_eq_true, evalParts, fillParts, AV.cells, AV.ofCells, XV.av, AV.xv, List.length_cons, List.length_nil, zeros, patch, setMany, List.nil_append, List.cons_append, Nat.ble, Nat.add_eq, Nat.zero_add, Nat.add_zero, Nat.reduceAdd, Nat.reduceMul, Nat.reduceSub, Nat.ble_eq, Nat.reduceLeDiff, Nat.reduceBEq, Int.reduceBEq, Int.reduceNeg, Bool.and_true, Bool.and_false, Bool.true_and, Bool.false_and, Bool.not_true, Bool.not_false, Bool.true_eq_false, Bool.false_eq_true, Int.reduceLT, Int.reduceLE, Int.reduceGT, Int.reduceGE, decide_true, decide_false, Bool.not_eq_true, loopN_norm, loopN_exit, tf, ft, ff, ev_dreg, dregK_nil, dregK_cons, dregE_true, dregP_some, dregX_some, d_mov, d_bin, d_eq, d_pick, d_un, d_conv, d_b2s, d_len, d_load, d_iaddr, d_slice, d_ext, d_call, d_store, chk_done, chk_none, chk_some, chkG_true, chkG_false, chkOne_nil, chkOne_cons, chkH_some, chkV_same, stage_none, stage_some, look_hit, look_miss, news_nil, wb_cons, wb_nil, skip0, List.reverse_cons, List.reverse_nil, d_mov_not, d_bin_not, d_iaddr_not, d_load_not, d_pick_not, d_un_not, bneI, v1, v2, q1, q2, p_iaddr, p_load, m2, m2', Nat.mul_one, k2, k2']
          exact ⟨_, _, rfl, rfl, rfl⟩
        | true =>
          have := hall i (by omega) hik
          have q2 : decide (la[i]'(by omega) > la[j]'(by omega)) = false := decide_eq_false (by omega)
          simp only [enter_eq, ev_seq, seqK_norm, seqK_exit, seqK_ret, ev_reg, ev_cond, condK_true, condK_false, ev_block, blockK_norm, blockK_ret, blockK_exit, ev_loop, ev_skip, ev_exit, ev_ret, regK_cons, regK_nil, guard_none, guard_some, regG_true, regG_false, regO_some, op_mov, op_conv, op_bin, op_bsl, op_box, op_mks, op_s2b, op_pick, op_un, op_eq, op_len, op_ext, op_load, op_iaddr, op_slice, op_b2s, op_idxS, op_mx, op_mn, op_call, op_store, op_app, op_copy, args_eq, result_one', rv_loc, finish_norm, finish_ret, outK_some, keep_true, keep_false, keep_nil, p_bin, p_pick, p_un, p_eq, p_conv, evNew, pureK_some, newK_some, X.eval, set_none, set_some, List.map_cons, List.map_nil, List.getD_cons_zero, List.getD_cons_succ, List.getD_nil, List.set_cons_zero, List.set_cons_succ, binCV, unCV, isShift, intArithF_eq, shiftF_eq, wrapF_eq, intArith, shift, eqVal, bound, asNat_cast, cond_true, cond_false, BEq.rfl, beq_self_eq_true, evalParts, fillParts, AV.cells, AV.ofCells, XV.av, AV.xv, List.length_cons, List.length_nil, zeros, patch, setMany, List.nil_append, List.cons_append, Nat.ble, Nat.add_eq, Nat.zero_add, Nat.add_zero, Nat.reduceAdd, Nat.reduceMul, Nat.reduceSub, Nat.ble_eq, Nat.reduceLeDiff, Nat.reduceBEq, Int.reduceBEq, Int.reduceNeg, Bool.and_true, Bool.and_false, Bool.true_and, Bool.false_and, Bool.not_true, Bool.not_false, Bool.true_eq_false, Bool.false_eq_true, Int.reduceLT, Int.reduceLE, Int.reduceGT, Int.reduceGE, decide_true, decide_false, Bool.not_eq_true, loopN_norm, loopN_exit, tf, ft, ff, ev_dreg, dregK_nil, dregK_cons, dregE_true, dregP_some, dregX_some, d_mov, d_bin, d_eq, d_pick, d_un, d_conv, d_b2s, d_len, d_load, d_iaddr, d_slice, d_ext, d_call, d_store, chk_done, chk_none, chk_some, chkG_true, chkG_false, chkOne_nil, chkOne_cons, chkH_some, chkV_same, stage_none, stage_some, look_hit, look_miss, news_nil, wb_cons, wb_nil, skip0, List.reverse_cons, List.reverse_nil, d_mov_not, d_bin_not, d_iaddr_not, d_load_not, d_pick_not, d_un_not, bneI, v1, v2, q1, q2, p_iaddr, p_load, m1, m1', Nat.mul_one, k1, k1']
          exact ⟨_, _, rfl, rfl, rfl⟩
    · right
      have hi4 : i = 4 := by omega
      subst hi4
      simp only [enter_eq, ev_seq, seqK_norm, seqK_exit, seqK_ret, ev_reg, ev_cond, condK_true, condK_false, ev_block, blockK_norm, blockK_ret, blockK_exit, ev_loop, ev_skip, ev_exit, ev_ret, regK_cons, regK_nil, guard_none, guard_some, regG_true, regG_false, regO_some, op_mov, op_conv, op_bin, op_bsl, op_box, op_mks, op_s2b, op_pick, op_un, op_eq, op_len, op_ext, op_load, op_iaddr, op_slice, op_b2s, op_idxS, op_mx, op_mn, op_call, op_store, op_app, op_copy, args_eq, result_one', rv_loc, finish_norm, finish_ret, outK_some, keep_true, keep_false, keep_nil, p_bin, p_pick, p_un, p_eq, p_conv, evNew, pureK_some, newK_some, X.eval, set_none, set_some, List.map_cons, List.map_nil, List.getD_cons_zero, List.getD_cons_succ, List.getD_nil, List.set_cons_zero, List.set_cons_succ, binCV, unCV, isShift, intArithF_eq, shiftF_eq, wrapF_eq, intArith, shift, eqVal, bound, asNat_cast, cond_true, cond_false, BEq.rfl, beq_self_eq_true, evalParts, fillParts, AV.cells, AV.ofCells, XV.av, AV.xv, List.length_cons, List.length_nil, zeros, patch, setMany, List.nil_append, List.cons_append, Nat.ble, Nat.add_eq, Nat.zero_add, Nat.add_zero, Nat.reduceAdd, Nat.reduceMul, Nat.reduceSub, Nat.ble_eq, Nat.reduceLeDiff, Nat.reduceBEq, Int.reduceBEq, Int.reduceNeg, Bool.and_true, Bool.and_false, Bool.true_and, Bool.false_and, Bool.not_true, Bool.not_false, Bool.true_eq_false, Bool.false_eq_true, Int.reduceLT, Int.reduceLE, Int.reduceGT, Int.reduceGE, decide_true, decide_false, Bool.not_eq_true, loopN_norm, loopN_exit, tf, ft, ff]
      exact ⟨_, rfl, by simp, _, _, _, _, _, _, rfl⟩
  rcases out with ⟨rfl, rfl, rfl⟩ | ⟨rfl, j, hj, rfl, hjk, hjp, hall⟩ | ⟨rfl, rfl, j, hj, rfl, hjk, hjp, hall⟩
  · simp only [enter_eq, ev_seq, seqK_norm, seqK_exit, seqK_ret, ev_reg, ev_cond, condK_true, condK_false, ev_block, blockK_norm, blockK_ret, blockK_exit, ev_loop, ev_skip, ev_exit, ev_ret, regK_cons, regK_nil, guard_none, guard_some, regG_true, regG_false, regO_some, op_mov, op_conv, op_bin, op_bsl, op_box, op_mks, op_s2b, op_pick, op_un, op_eq, op_len, op_ext, op_load, op_iaddr, op_slice, op_b2s, op_idxS, op_mx, op_mn, op_call, op_store, op_app, op_copy, args_eq, result_one', rv_loc, finish_norm, finish_ret, outK_some, keep_true, keep_false, keep_nil, p_bin, p_pick, p_un, p_eq, p_conv, evNew, pureK_some, newK_some, X.eval, set_none, set_some, List.map_cons, List.map_nil, List.getD_cons_zero, List.getD_cons_succ, List.getD_nil, List.set_cons_zero, List.set_cons_succ, binCV, unCV, isShift, intArithF_eq, shiftF_eq, wrapF_eq, intArith, shift, eqVal, bound, asNat_cast, cond_true, cond_false, BEq.rfl, beq_self_eq_true, evalParts, fillParts, AV.cells, AV.ofCells, XV.av, AV.xv, List.length_cons, List.length_nil, zeros, patch, setMany, List.nil_append, List.cons_append, Nat.ble, Nat.add_eq, Nat.zero_add, Nat.add_zero, Nat.reduceAdd, Nat.reduceMul, Nat.reduceSub, Nat.ble_eq, Nat.reduceLeDiff, Nat.reduceBEq, Int.reduceBEq, Int.reduceNeg, Bool.and_true, Bool.and_false, Bool.true_and, Bool.false_and, Bool.not_true, Bool.not_false, Bool.true_eq_false, Bool.false_eq_true, Int.reduceLT, Int.reduceLE, Int.reduceGT, Int.reduceGE, decide_true, decide_false, Bool.not_eq_true, loopN_norm, loopN_exit, tf, ft, ff, lx, v0, ek', hr1, blockK_exit_eq, e1, evCallT_told]
    rfl
  · have c1 : decide ((j : Int) < 0) = false := decide_eq_false (by omega)
    have c2 : decide ((j : Int) ≥ 4) = false := decide_eq_false (by omega)
    have c3 : ((j : Int) == (k : Int)) = false := by simp; omega
    have c4 : decide (la[j] > 0) = true := decide_eq_true hjp
    obtain ⟨r, hr0, a0, a1, a2, a6, a8', l, rfl⟩ := L0 true j (by omega) hjk (by rw [if_pos rfl]; exact hall) [.c (.sl bx ox xs.length cx), .junk, .junk, .c a, .c b, .c (.bool true), .c (.bool an), .c (.int .i64 (k : Int)), a8, .c (.int .i64 (j : Int)), .c (.int .i64 0), .junk, a12, .c (.bool false), .c (.bool false), .junk, .junk] rfl
    obtain ⟨b1, o1, cc1, rfl, _, r1⟩ := ia.sl (by omega)
    have k1 := r1 j (by omega)
    have m1 : Nat.blt j la.length = true := bltT (by omega)
    simp only [enter_eq, ev_seq, seqK_norm, seqK_exit, seqK_ret, ev_reg, ev_cond, condK_true, condK_false, ev_block, blockK_norm, blockK_ret, blockK_exit, ev_loop, ev_skip, ev_exit, ev_ret, regK_cons, regK_nil, guard_none, guard_some, regG_true, regG_false, regO_some, op_mov, op_conv, op_bin, op_bsl, op_box, op_mks, op_s2b, op_pick, op_un, op_eq, op_len, op_ext, op_load, op_iaddr, op_slice, op_b2s, op_idxS, op_mx, op_mn, op_call, op_store, op_app, op_copy, args_eq, result_one', rv_loc, finish_norm, finish_ret, outK_some, keep_true, keep_false, keep_nil, p_bin, p_pick, p_un, p_eq, p_conv, evNew, pureK_some, newK_some, X.eval, set_none, set_some, List.map_cons, List.map_nil, List.getD_cons_zero, List.getD_cons_succ, List.getD_nil, List.set_cons_zero, List.set_cons_succ, binCV, unCV, isShift, intArithF_eq, shiftF_eq, wrapF_eq, intArith, shift, eqVal, bound, asNat_cast, cond_true, cond_false, BEq.rfl, beq_self_eq_true, evalParts, fillParts, AV.cells, AV.ofCells, XV.av, AV.xv, List.length_cons, List.length_nil, zeros, patch, setMany, List.nil_append, List.cons_append, Nat.ble, Nat.add_eq, Nat.zero_add, Nat.add_zero, Nat.reduceAdd, Nat.reduceMul, Nat.reduceSub, Nat.ble_eq, Nat.reduceLeDiff, Nat.reduceBEq, Int.reduceBEq, Int.reduceNeg, Bool.and_true, Bool.and_false, Bool.true_and, Bool.false_and, Bool.not_true, Bool.not_false, Bool.true_eq_false, Bool.false_eq_true, Int.reduceLT, Int.reduceLE, Int.reduceGT, Int.reduceGE, decide_true, decide_false, Bool.not_eq_true, loopN_norm, loopN_exit, tf, ft, ff, lx, v0, ek', hr1, blockK_exit_eq, e1, c1, c2, c3, hr0, evCallT_told, p_iaddr, p_load, m1, Nat.mul_one, k1, c4]
    rfl
  · have c1 : decide ((j : Int) < 0) = false := decide_eq_false (by omega)
    have c2 : decide ((j : Int) ≥ 4) = false := decide_eq_false (by omega)
    have c3 : ((j : Int) == (k : Int)) = false := by simp; omega
    have c4 : decide (lb[j] > 0) = true := decide_eq_true hjp
    obtain ⟨r, hr0, a0, a1, a2, a6, a8', l, rfl⟩ := L0 false j (by omega) hjk (by rw [if_neg (by simp)]; exact hall) [.c (.sl bx ox xs.length cx), .junk, .junk, .c a, .c b, .c (.bool false), .c (.bool true), .c (.int .i64 (k : Int)), a8, .c (.int .i64 (j : Int)), .c (.int .i64 0), .junk, a12, .c (.bool false), .c (.bool false), .junk, .junk] rfl
    obtain ⟨b1, o1, cc1, rfl, _, r1⟩ := ib.sl (by omega)
    have k1 := r1 j (by omega)
    have m1 : Nat.blt j lb.length = true := bltT (by omega)
    simp only [enter_eq, ev_seq, seqK_norm, seqK_exit, seqK_ret, ev_reg, ev_cond, condK_true, condK_false, ev_block, blockK_norm, blockK_ret, blockK_exit, ev_loop, ev_skip, ev_exit, ev_ret, regK_cons, regK_nil, guard_none, guard_some, regG_true, regG_false, regO_some, op_mov, op_conv, op_bin, op_bsl, op_box, op_mks, op_s2b, op_pick, op_un, op_eq, op_len, op_ext, op_load, op_iaddr, op_slice, op_b2s, op_idxS, op_mx, op_mn, op_call, op_store, op_app, op_copy, args_eq, result_one', rv_loc, finish_norm, finish_ret, outK_some, keep_true, keep_false, keep_nil, p_bin, p_pick, p_un, p_eq, p_conv, evNew, pureK_some, newK_some, X.eval, set_none, set_some, List.map_cons, List.map_nil, List.getD_cons_zero, List.getD_cons_succ, List.getD_nil, List.set_cons_zero, List.set_cons_succ, binCV, unCV, isShift, intArithF_eq, shiftF_eq, wrapF_eq, intArith, shift, eqVal, bound, asNat_cast, cond_true, cond_false, BEq.rfl, beq_self_eq_true, evalParts, fillParts, AV.cells, AV.ofCells, XV.av, AV.xv, List.length_cons, List.length_nil, zeros, patch, setMany, List.nil_append, List.cons_append, Nat.ble, Nat.add_eq, Nat.zero_add, Nat.add_zero, Nat.reduceAdd, Nat.reduceMul, Nat.reduceSub, Nat.ble_eq, Nat.reduceLeDiff, Nat.reduceBEq, Int.reduceBEq, Int.reduceNeg, Bool.and_true, Bool.and_false, Bool.true_and, Bool.false_and, Bool.not_true, Bool.not_false, Bool.true_eq_false, Bool.false_eq_true, Int.reduceLT, Int.reduceLE, Int.reduceGT, Int.reduceGE, decide_true, decide_false, Bool.not_eq_true, loopN_norm, loopN_exit, tf, ft, ff, lx, v0, ek', hr1, blockK_exit_eq, e1, c1, c2, c3, hr0, evCallT_told, p_iaddr, p_load, m1, Nat.mul_one, k1, c4]
    rfl

end Lav

namespace Go.Proofs.Ytnjfpdkdafdfdaa.giveBest
open Go.ChangeShapes Go.WideShapes Go.ChangeAt Go.RowKit
open Go.ChangeMaps (open_string shut_string)
set_option linter.unusedVariables false

theorem own : ownKnob Try.prog.godebug = none := by kernel_rfl
theorem laidOut : laidOutB Try.prog = true := by kernel_rfl

/-- WHAT THE WALK IS TOLD OF A SLICE OF INTEGERS THAT CAME IN: it is nil; or it leads to a row of 'cap' cells, the numbers 'zs' (the first 'len' are its elements, the rest its spare room), each fitting its kind. -/
def IsRow (k : IntKind) (w : World) (a : Option Addr) (len cap : Nat) (zs : List Int) : Prop :=
  (a = none ∧ len = 0 ∧ cap = 0 ∧ zs = []) ∨
  ∃ x, a = some x ∧ len ≤ cap ∧ cap ≤ maxLen ∧ zs.length = cap ∧ (∀ i, i < zs.length → w.cell? (x.add i) = some (.int k (zs.getD i 0))) ∧ ∀ n ∈ zs, (Lit.int k n).wf = true

/-! ### STEP 1: THE WALK: the Go text returns true, AND WRITES NOTHING THAT WAS THERE: 'Below w.heap.size w w'' (Derived/Below.lean: '.refl', '.alloc', '.drew', '.setCell' at a new block, '.trans'). Open each 'IsRow' by 'rcases' AHEAD of 'go_enter'; part every test ahead of the walk. -/
theorem walk (a0 : Option Addr) (len0 cap0 : Nat) (z0 : List Int) (a1 : Int) (w : World) (w0 : IsRow .i64 w a0 len0 cap0 z0) (w1 : (Lit.int .i64 a1).wf = true) :
    Calls Try.prog 8 #[.slice a0 len0 cap0, .int .i64 a1] w fun e w' => e = .returned (.bool true) ∧ Below w.heap.size w w' := by
  obtain ⟨ι, h, x, I, hle, hx, hr⟩ := (Lav.Init.empty w).slice w0
  exact Lav.walk_of (Lav.evCallT_sound Lav.mixed Lav.table_ok Lav.tld17 100 9) I (args := [.c x, .c (.int .i64 a1)]) (vs := [.slice a0 len0 cap0, .int .i64 a1]) ⟨hx, rfl, trivial⟩ (Lav.giveBest a1 (Lav.ints_of hr))

/-! ### THE ROW's STEP: WRITTEN OUT: LEAVE IT -/
set_option maxRecDepth 100000 in
theorem lifted (os : Os) (started : os.Started) (H : Type) (enc : TypeId × Value → H) :
    ReturnsInHanded {} Try.checked os 8 .any (Rows.giveBestSpec.pre6 enc Try.prog Try.f8 Rows.giveBestRow.domain false) (Rows.giveBestSpec.post enc Try.prog Try.f8 false true false false) := by
  refine returnsInHanded_of_change (C := Try.checked) own started (by kernel_rfl) Try.func8
    (ChangeSpec.witness6 (enc := enc) (C := Try.checked) false ⟨#[], #[.slice none 0 0, .int .i64 0], []⟩ 8 (by kernel_rfl) (by kernel_rfl) (by kernel_rfl) (by kernel_rfl)) ?_
  intro W base args ds gs before hval0 hW hcnd _
  have hval : ∀ (j : Nat) t v, Try.f8.params[j]? = some t → args[j]? = some v → Value.okWide Try.prog W .any base t v := hval0
  have hW' := hW
  obtain ⟨p, q, hA0, hV, rfl, hfz, hnd⟩ := hW
  have hA : DataW.TrodAll enc Try.prog W 0 (fun _ => true) true Try.f8.params.toList args.toList ds p := hA0
  rw [Try.params8] at hA hval
  obtain ⟨v0, vs0, d0, ds0, p0, q0, hargs, rfl, rfl, h0, r0⟩ := trodAll_cons hA
  obtain ⟨v1, vs1, d1, ds1, p1, q1, rfl, rfl, rfl, h1, r1⟩ := trodAll_cons r0
  obtain ⟨rfl, rfl, rfl⟩ := trodAll_nil r1
  obtain rfl : args = #[v0, v1] := by cases args; simp_all
  obtain ⟨rfl, rfl⟩ := trodVars_none hV
  obtain ⟨a0, len0, cap0, rfl⟩ := okWide_slice Try.underlying22 (hval 0 22 v0 rfl rfl)
  have k0 := h0
  have lt0 : ∀ x ∈ p0, x.block < W.heap.size := by obtain ⟨m, hm⟩ := k0; exact DataW.trod_lt m _ _ _ hm
  obtain ⟨z0, w0⟩ : ∃ zs, IsRow .i64 W a0 len0 cap0 zs := by
    obtain ⟨fuel, hf⟩ := h0
    rcases open_ints Try.underlying22 Try.underlying3 (by kernel_rfl) hf with ⟨hcs, _⟩ | ⟨x, l, c, zs, hcs, _, hl, hm, hz, _, hcell, hwz⟩
    · simp [Value.cells] at hcs
      obtain ⟨rfl, rfl, rfl⟩ := hcs
      exact ⟨[], .inl ⟨rfl, rfl, rfl, rfl⟩⟩
    · simp [Value.cells] at hcs
      obtain ⟨rfl, rfl, rfl⟩ := hcs
      exact ⟨zs, .inr ⟨_, rfl, hl, hm, by simpa using hz, hcell, hwz⟩⟩
  obtain ⟨a1, rfl, rfl, rfl, w1⟩ := open_int Try.underlying3 (hval 1 3 v1 rfl rfl) h1
  clear hA0 hval0
  refine (walk a0 len0 cap0 z0 a1 W w0 w1).mono fun e W' ⟨he, bel⟩ => ?_
  subst he
  exact ⟨_, rfl, _, _, _, [], _, [], hW', trodAll_mk1 (shut_bool Try.underlying4 _), (trodAll_cons_mk (Below.trod laidOut (by kernel_rfl) (of_decide_eq_true (by kernel_rfl)) k0 bel lt0) (trodAll_cons_mk (shut_int Try.underlying3 w1) trodAll_mk0)), rfl, bel.frame _, fun h => by cases h⟩

theorem over : Rows.giveBestRow.holds Try.pinned (OpenSpec.ofChange Rows.giveBestSpec) :=
  OpenClaim.holds_of_wide 8 Try.f8 rfl rfl rfl rfl rfl rfl rfl ⟨rfl, rfl, rfl, rfl, rfl⟩ rfl rfl rfl rfl rfl (by kernel_rfl) Try.func8 (by kernel_rfl)
    (of_decide_eq_true (by kernel_rfl)) (by unfold Func.isWrapper; first | (rw [if_pos (by decide +kernel)]; kernel_rfl) | (rw [if_neg (by decide +kernel)]; exact ⟨rfl, rfl⟩))
    (fun os started H enc _ => lifted os started H enc)

/-- ████ THE STATEMENT ████ -/
theorem proved : Rows.GiveBestSaid := over
end Go.Proofs.Ytnjfpdkdafdfdaa.giveBest
