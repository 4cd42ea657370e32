/-
  Proved: whatever number of clients and steps come in, lavabolaw12.HandlePlays returns true and changes nothing that was there. No conditions beyond the given statement's.
-/
import Derived.Test.YtakkkibaaipmcaaRows
import Derived.Test.YtakkkibaaipmcaaFwP
import Derived.Test.YtakkkibaaipmcaaOps0
import Derived.Test.YtakkkibaaipmcaaInts0
import Derived.Test.YtakkkibaaipmcaaRep1
import Derived.Test.YtakkkibaaipmcaaHandle1
import Derived.Test.YtakkkibaaipmcaaHandle2
import Derived.WalkKit
import Derived.ProofKit
import Derived.OpenShut
import Derived.ShutString
import Derived.ChangeOld
import Derived.Below
set_option maxRecDepth 100000
set_option linter.unusedSimpArgs false
namespace Lav
open Go (IntKind)
theorem tld12 : ToldOK Go.Proofs.Try.prog 14 := told_of (calls_okF 200 9) (by kernel_rfl)
abbrev J13 : List AV := [.junk, .junk, .junk, .junk, .junk, .junk, .junk, .junk, .junk, .junk, .junk, .junk, .junk]
abbrev J10 : List AV := [.junk, .junk, .junk, .junk, .junk, .junk, .junk, .junk, .junk, .junk]
abbrev At12 (x : CV) (p q i : Nat) : List AV := .junk :: .c x :: .junk :: .c (.ptr p 0) :: .c (.ptr q 0) :: .c (.int .i64 (i : Int)) :: J13

/-- Both have the same rows. -/
structure Tw (h : Heap) (p b : Nat) (bs : List Nat) (q e : Nat) (es : List Nat) (rows : List (List Int)) : Prop where
  t : HB h p b bs rows
  r : HB h q e es rows
  ge : ∀ r ∈ rows, ∀ v ∈ r, (-1 : Int) ≤ v
  few : rows.length ≤ 6
  dis : ∀ k ∈ p :: b :: bs, k ∉ q :: e :: es

section
variable {h : Heap} {p b q e m bx ox : Nat} {bs es : List Nat} {rows : List (List Int)} {cc : Cap} {xs : List Int}

theorem Tw.ext (T : Tw h p b bs q e es rows) {h' : Heap} {S : List Nat} (x : ExtB S h h') (hs : ∀ k ∈ S, k ∉ p :: b :: bs ∧ k ∉ q :: e :: es) : Tw h' p b bs q e es rows :=
  ⟨T.t.ext x fun k hk hS => (hs k hS).1 hk, T.r.ext x fun k hk hS => (hs k hS).2 hk, T.ge, T.few, T.dis⟩

theorem give_ge {rows : List (List Int)} (hge : ∀ r ∈ rows, ∀ v ∈ r, (-1 : Int) ≤ v) (j : Nat) (g : Int) : ∀ r ∈ (giveM rows j g).2, ∀ v ∈ r, (-1 : Int) ≤ v := by
  unfold giveM
  intro r hr v hv
  simp only at hr
  split at hr
  · rename_i hc
    rcases List.mem_or_eq_of_mem_set hr with h1 | h1
    · exact hge r h1 v hv
    · subst h1
      rcases List.mem_or_eq_of_mem_set hv with h2 | h2
      · rw [List.getD_eq_getElem?_getD] at h2
        by_cases hj : j < rows.length
        · rw [List.getElem?_eq_getElem hj] at h2; exact hge _ (List.getElem_mem hj) v h2
        · rw [List.getElem?_eq_none (by omega)] at h2; simp at h2
      · omega
  · exact hge r hr v hv
theorem give_len (rows : List (List Int)) (j : Nat) (g : Int) : (giveM rows j g).2.length = rows.length := by
  unfold giveM; simp only; split
  · simp
  · rfl
theorem back_ge {rows : List (List Int)} (hge : ∀ r ∈ rows, ∀ v ∈ r, (-1 : Int) ≤ v) (c k : Int) : ∀ r ∈ backM rows c k, ∀ v ∈ r, (-1 : Int) ≤ v := by
  unfold backM
  intro r hr v hv
  split at hr
  · exact hge r hr v hv
  · rcases List.mem_or_eq_of_mem_set hr with h1 | h1
    · exact hge r h1 v hv
    · subst h1
      rcases List.mem_or_eq_of_mem_set hv with h2 | h2
      · rw [List.getD_eq_getElem?_getD] at h2
        by_cases hj : c.toNat < rows.length
        · rw [List.getElem?_eq_getElem hj] at h2; exact hge _ (List.getElem_mem hj) v h2
        · rw [List.getElem?_eq_none (by omega)] at h2; simp at h2
      · omega
theorem back_len (rows : List (List Int)) (c k : Int) : (backM rows c k).length = rows.length := by
  unfold backM; split
  · rfl
  · simp

theorem doGive (T : Tw h p b bs q e es rows) (c g : Int) : ∃ v h1 h2 rows', evCallT table 14 200 8 12 [.c (.ptr p 0), .c (.int .i64 c), .c (.int .i64 g)] h = some (.c (.int .i64 v), h1) ∧ evCallT table 14 200 8 18 [.c (.ptr q 0), .c (.int .i64 c), .c (.int .i64 g)] h1 = some (.c (.int .i64 v), h2) ∧
    Tw h2 p b bs q e es rows' ∧ rows'.length = rows.length ∧ ExtB (bs ++ es) h h1 ∧ ExtB (bs ++ es) h h2 := by
  by_cases hc : 0 ≤ c ∧ c < (rows.length : Int)
  · obtain ⟨j, rfl⟩ : ∃ j : Nat, c = (j : Int) := ⟨c.toNat, by omega⟩
    have hj : j < rows.length := by omega
    obtain ⟨h1, e1, t1, x1⟩ := give_in (N := 200) (d := 6) T.t hj g (by omega)
    have r1 := T.r.ext x1 (fun k hk hS => T.dis k (by simp [hS]) hk)
    obtain ⟨h2, e2, r2, x2⟩ := rgive_in (N := 200) (d := 7) r1 hj g (by omega) T.ge
    have t2 := t1.ext x2 (fun k hk hS => T.dis k hk (by simp [hS]))
    exact ⟨_, h1, h2, _, e1, e2, ⟨t2, r2, give_ge T.ge j g, by rw [give_len]; exact T.few, T.dis⟩, give_len _ _ _, x1.mono (fun k hk => List.mem_append.2 (.inl hk)), (x1.mono (fun k hk => List.mem_append.2 (.inl hk))).trans (x2.mono (fun k hk => List.mem_append.2 (.inr hk)))⟩
  · exact ⟨_, h, h, rows, give_out (N := 200) (d := 6) T.t g hc (by omega), rgive_out (N := 200) (d := 7) T.r g hc, T, rfl, ExtB.refl _ _, ExtB.refl _ _⟩
theorem doBack (T : Tw h p b bs q e es rows) (c k : Int) : ∃ v h1 h2 rows', evCallT table 14 200 8 19 [.c (.ptr p 0), .c (.int .i64 c), .c (.int .i64 k)] h = some (.c (.int .i64 v), h1) ∧ evCallT table 14 200 8 20 [.c (.ptr q 0), .c (.int .i64 c), .c (.int .i64 k)] h1 = some (.c (.int .i64 v), h2) ∧
    Tw h2 p b bs q e es rows' ∧ rows'.length = rows.length ∧ ExtB (bs ++ es) h h1 ∧ ExtB (bs ++ es) h h2 := by
  obtain ⟨h1, e1, t1, x1⟩ := back_ok (N := 200) (d := 5) T.t c k
  have r1 := T.r.ext x1 (fun k hk hS => T.dis k (by simp [hS]) hk)
  obtain ⟨h2, e2, r2, x2⟩ := rback_ok (N := 200) (d := 6) r1 c k T.ge
  have t2 := t1.ext x2 (fun k hk hS => T.dis k hk (by simp [hS]))
  exact ⟨_, h1, h2, _, e1, e2, ⟨t2, r2, back_ge T.ge c k, by rw [back_len]; exact T.few, T.dis⟩, back_len _ _ _, x1.mono (fun k hk => List.mem_append.2 (.inl hk)), (x1.mono (fun k hk => List.mem_append.2 (.inl hk))).trans (x2.mono (fun k hk => List.mem_append.2 (.inr hk)))⟩

/-- All rows are told alike. -/
theorem rowsAlike (T : Tw h p b bs q e es rows) (h0 : 0 < rows.length) {hh : Heap} {y : CV} {zs : List CV} (x : CV) (i : Nat) (my : Mine 1 hh h y rows.length zs) (hz : ∀ j (hj : j < rows.length), ∃ z, zs[j]? = some z ∧ Ints h z rows[j]) :
    ∀ loc, keepOnly ir4_k0 loc = .junk :: .c x :: .junk :: .c (.ptr p 0) :: .c (.ptr q 0) :: .c (.int .i64 (i : Int)) :: .junk :: .c y :: .c (.int .i64 0) :: J10 → ∃ r, loopK (evCallT table 14 200 8) 200 ir4_k0 ir4_l0 200 loc h = some r ∧
      r = (.exit 2, [.junk, .c x, .junk, .c (.ptr p 0), .c (.ptr q 0), .c (.int .i64 (i : Int)), .junk, .c y, .c (.int .i64 (rows.length : Int)), .junk, .junk, .junk, .junk, .junk, .junk, .junk, .junk, .c (.bool false), .junk], h) := by
  intro loc hloc
  obtain ⟨_, ⟨_, h00⟩ | ⟨yi, rfl, gy, _, _⟩⟩ := my
  · omega
  have few := T.few
  have ly : ∀ loc vals h', evPure loc (.c (.sl yi 0 rows.length (.dy 1)) :: vals) h' (.len .sl (.val 0)) = some (.c (.int .i64 (rows.length : Int))) := fun _ _ _ => rfl
  refine loop_inv (n := rows.length) (fun c loc h' => h' = h ∧ loc = .junk :: .c x :: .junk :: .c (.ptr p 0) :: .c (.ptr q 0) :: .c (.int .i64 (i : Int)) :: .junk :: .c (.sl yi 0 rows.length (.dy 1)) :: .c (.int .i64 (c : Int)) :: J10) _ ?_ ⟨rfl, hloc⟩ (by omega)
  rintro c loc h' hc ⟨rfl, rfl⟩
  unfold ir4_l0
  by_cases hlt : c < rows.length
  · left
    refine ⟨hlt, ?_⟩
    have v1 : decide ((c : Int) < (rows.length : Int)) = true := ltNat hlt
    have v2 := succI (i := c) (by omega)
    have m1 : Nat.blt c rows.length = true := bltT hlt
    obtain ⟨z, hz1, hz2⟩ := hz c hlt
    have ry : h'.read yi c 1 = some [z] := read_cells gy hz1
    have ei : evCallT table 14 200 8 25 [.c z, .c (.sl (es[c]'(by have := T.r.bl; omega)) 0 6 (.ex 6))] h' = some (.c (.bool true), h') := by
      have h6 := T.t.len6 hlt
      have := ints_ok (T := 14) (N := 200) (d := 7) rfl hz2 (T.r.ints hlt) (by omega) (by omega)
      rw [decide_eq_true rfl] at this; exact this
    have zav : AV.ofCells false [z] = some (.c z) := rfl
    simp only [enter_eq, ev_seq, seqK_norm, seqK_exit, seqK_ret, ev_reg, ev_cond, condK_true, condK_false, ev_block, blockK_norm, blockK_ret, blockK_exit, ev_loop, ev_skip, ev_exit, ev_ret, regK_cons, regK_nil, guard_none, guard_some, regG_true, regG_false, regO_some, op_mov, op_conv, op_bin, op_bsl, op_box, op_mks, op_s2b, op_pick, op_un, op_eq, op_len, op_ext, op_load, op_iaddr, op_slice, op_b2s, op_idxS, op_mx, op_mn, op_call, op_store, op_app, op_copy, args_eq, result_one', rv_loc, finish_norm, finish_ret, outK_some, keep_true, keep_false, keep_nil, p_bin, p_pick, p_un, p_eq, p_conv, evNew, pureK_some, newK_some, X.eval, set_none, set_some, List.map_cons, List.map_nil, List.getD_cons_zero, List.getD_cons_succ, List.getD_nil, List.set_cons_zero, List.set_cons_succ, binCV, unCV, isShift, intArithF_eq, shiftF_eq, wrapF_eq, intArith, shift, eqVal, bound, asNat_cast, cond_true, cond_false, BEq.rfl, beq_self_eq_true, evalParts, fillParts, AV.cells, AV.ofCells, XV.av, AV.xv, List.length_cons, List.length_nil, zeros, patch, setMany, List.nil_append, List.cons_append, Nat.ble, Nat.add_eq, Nat.zero_add, Nat.add_zero, Nat.reduceAdd, Nat.reduceMul, Nat.reduceSub, Nat.ble_eq, Nat.reduceLeDiff, Nat.reduceBEq, Int.reduceBEq, Int.reduceNeg, Bool.and_true, Bool.and_false, Bool.true_and, Bool.false_and, Bool.not_true, Bool.not_false, Bool.true_eq_false, Bool.false_eq_true, Int.reduceLT, Int.reduceLE, Int.reduceGT, Int.reduceGE, decide_true, decide_false, Bool.not_eq_true, loopN_norm, loopN_exit, tf, ft, ff, ev_dreg, dregK_nil, dregK_cons, dregE_true, dregP_some, dregX_some, d_mov, d_bin, d_eq, d_pick, d_un, d_conv, d_b2s, d_len, d_load, d_iaddr, d_slice, d_ext, d_call, d_store, chk_done, chk_none, chk_some, chkG_true, chkG_false, chkOne_nil, chkOne_cons, chkH_some, chkV_same, stage_none, stage_some, look_hit, look_miss, news_nil, wb_cons, wb_nil, skip0, List.reverse_cons, List.reverse_nil, ly, v1, v2, m1, p_iaddr, d_nilchk, p_nilchk, d_faddr, p_faddr, p_load, Nat.mul_one, ry, T.r.r0, T.r.r1 hlt, AV.ofCells, ei]
    exact ⟨_, _, rfl, rfl, rfl⟩
  · right
    have hin : c = rows.length := by omega
    subst hin
    have v1 : decide ((rows.length : Int) < (rows.length : Int)) = false := geNat (Nat.le_refl _)
    simp only [enter_eq, ev_seq, seqK_norm, seqK_exit, seqK_ret, ev_reg, ev_cond, condK_true, condK_false, ev_block, blockK_norm, blockK_ret, blockK_exit, ev_loop, ev_skip, ev_exit, ev_ret, regK_cons, regK_nil, guard_none, guard_some, regG_true, regG_false, regO_some, op_mov, op_conv, op_bin, op_bsl, op_box, op_mks, op_s2b, op_pick, op_un, op_eq, op_len, op_ext, op_load, op_iaddr, op_slice, op_b2s, op_idxS, op_mx, op_mn, op_call, op_store, op_app, op_copy, args_eq, result_one', rv_loc, finish_norm, finish_ret, outK_some, keep_true, keep_false, keep_nil, p_bin, p_pick, p_un, p_eq, p_conv, evNew, pureK_some, newK_some, X.eval, set_none, set_some, List.map_cons, List.map_nil, List.getD_cons_zero, List.getD_cons_succ, List.getD_nil, List.set_cons_zero, List.set_cons_succ, binCV, unCV, isShift, intArithF_eq, shiftF_eq, wrapF_eq, intArith, shift, eqVal, bound, asNat_cast, cond_true, cond_false, BEq.rfl, beq_self_eq_true, evalParts, fillParts, AV.cells, AV.ofCells, XV.av, AV.xv, List.length_cons, List.length_nil, zeros, patch, setMany, List.nil_append, List.cons_append, Nat.ble, Nat.add_eq, Nat.zero_add, Nat.add_zero, Nat.reduceAdd, Nat.reduceMul, Nat.reduceSub, Nat.ble_eq, Nat.reduceLeDiff, Nat.reduceBEq, Int.reduceBEq, Int.reduceNeg, Bool.and_true, Bool.and_false, Bool.true_and, Bool.false_and, Bool.not_true, Bool.not_false, Bool.true_eq_false, Bool.false_eq_true, Int.reduceLT, Int.reduceLE, Int.reduceGT, Int.reduceGE, decide_true, decide_false, Bool.not_eq_true, loopN_norm, loopN_exit, tf, ft, ff, ly, v1]
    exact ⟨_, rfl, by simp, rfl⟩
theorem stepG (T : Tw h p b bs q e es rows) (h0 : 0 < rows.length) (hlow : ∀ k ∈ bs ++ es, k < h.next) (hx : Recs 4 h (.sl bx ox m cc) m xs) {i : Nat} (hi : i < m) (hm : m ≤ 150) {K : Int} (hK : K < 3) (ek : Int.tmod (IntKind.i64.wrap (Int.tmod (xs.getD (i * 4) 0) 5 + 5)) 5 = K) :
    ∃ l H rows', ev (evCallT table 14 200 8) 200 ir4_l1 (At12 (.sl bx ox m cc) p q i) h = some (.norm, l, H) ∧ keepOnly ir4_k1 l = At12 (.sl bx ox m cc) p q (i + 1) ∧ Tw H p b bs q e es rows' ∧ rows'.length = rows.length ∧ ExtB (bs ++ es) h H := by
  have bneI : ∀ {a b : Int}, (a != b) = !(a == b) := rfl
  have bneB : ∀ {x : Bool}, (x != x) = false := by simp
  have lx : ∀ (loc vals : List AV) (h : Heap), evPure loc (.c (.sl bx ox m cc) :: vals) h (.len .sl (.val 0)) = some (.c (.int .i64 (m : Int))) := fun _ _ _ => hx.len rfl
  have v1 : decide ((i : Int) < (m : Int)) = true := ltNat hi
  have v2 := succI (i := i) (by omega)
  have m1 : Nat.blt i m = true := bltT hi
  have k0 := hx.op4 hi
  generalize xs.getD (i * 4 + 1) 0 = ac at *
  generalize xs.getD (i * 4 + 2) 0 = ag at *
  generalize xs.getD (i * 4 + 3) 0 = ah at *
  obtain ⟨h1, w1, g1, x1, n1⟩ := box_store (h := h) (z := [.int .i64 0, .int .i64 0, .int .i64 0, .int .i64 0]) (v := [.int .i64 (xs.getD (i * 4) 0), .int .i64 ac, .int .i64 ag, .int .i64 ah]) rfl
  have T1 := T.ext (x1.b []) (by simp)
  obtain ⟨v, h2, h3, rows', e2, e3, T3, hl3, xa, xb⟩ := (show ∃ v h2 h3 rows', evCallT table 14 200 8 12 [.c (.ptr p 0), .c (.int .i64 ac), .c (.int .i64 ag)] h1 = some (.c (.int .i64 v), h2) ∧ evCallT table 14 200 8 18 [.c (.ptr q 0), .c (.int .i64 ac), .c (.int .i64 ag)] h2 = some (.c (.int .i64 v), h3) ∧ Tw h3 p b bs q e es rows' ∧ rows'.length = rows.length ∧ ExtB (bs ++ es) h1 h2 ∧ ExtB (bs ++ es) h1 h3 from doGive T1 ac ag)
  have T3' := T3
  have hrl : 0 < rows'.length := by omega
  obtain ⟨y, zs, h4, e4, my, hz, x4⟩ : ∃ y zs h', evCallT table 14 200 8 13 [.c (.ptr p 0)] h3 = some (.c y, h') ∧ Mine 1 h3 h' y rows'.length zs ∧ (∀ j (hj : j < rows'.length), ∃ z, zs[j]? = some z ∧ Ints h' z rows'[j]) ∧ Ext h3 h' := all_ok (N := 200) (d := 6) T3.t (by have := T3.few; omega) (by omega)
  have T4 := T3.ext (x4.b []) (by simp)
  have own : ∀ {H : Heap}, ExtB (bs ++ es) h1 H → H.get h.next = some (.cells [.int .i64 (xs.getD (i * 4) 0), .int .i64 ac, .int .i64 ag, .int .i64 ah]) := fun {H} x => x.at_ g1 (by omega) (fun hS => by have := hlow _ hS; omega)
  have o0 : ∀ {H : Heap}, ExtB (bs ++ es) h1 H → H.read h.next 0 1 = some [.int .i64 (xs.getD (i * 4) 0)] := fun {H} x => read_cells (own x) rfl
  have o1 : ∀ {H : Heap}, ExtB (bs ++ es) h1 H → H.read h.next 1 1 = some [.int .i64 ac] := fun {H} x => read_cells (own x) rfl
  have o2 : ∀ {H : Heap}, ExtB (bs ++ es) h1 H → H.read h.next 2 1 = some [.int .i64 ag] := fun {H} x => read_cells (own x) rfl
  have o3 : ∀ {H : Heap}, ExtB (bs ++ es) h1 H → H.read h.next 3 1 = some [.int .i64 ah] := fun {H} x => read_cells (own x) rfl
  have xc : ExtB (bs ++ es) h1 h4 := xb.trans (x4.b _)
  have p1 : evCallT table 14 200 8 15 [.c (.ptr p 0), .c (.int .i64 ac), .c (.int .i64 ah)] h4 = some (.c (.int .i64 (pageM rows' ac ah)), h4) := page_ok (N := 200) (d := 6) T4.t ac ah
  have p2 : evCallT table 14 200 8 21 [.c (.ptr q 0), .c (.int .i64 ac), .c (.int .i64 ah)] h4 = some (.c (.int .i64 (pageM rows' ac ah)), h4) := rpage_ok (N := 200) (d := 7) T4.r ac ah
  have p3 : evCallT table 14 200 8 16 [.c (.ptr p 0), .c (.int .i64 ag)] h4 = some (.c (.int .i64 (pinsM rows' ag : Int)), h4) := pins_ok (N := 200) (d := 7) T4.t ag (by have := T4.few; omega) (by omega)
  have p4 : evCallT table 14 200 8 22 [.c (.ptr q 0), .c (.int .i64 ag)] h4 = some (.c (.int .i64 (pinsM rows' ag : Int)), h4) := rpins_ok (N := 200) (d := 7) T4.r ag (by have := T4.few; omega) (by omega)
  have p5 : evCallT table 14 200 8 23 [.c (.ptr p 0), .c (.int .i64 ac)] h4 = some (.c (.bool (roomM rows' ac)), h4) := room_ok (N := 200) (d := 5) T4.t ac (by omega)
  have p6 : evCallT table 14 200 8 24 [.c (.ptr q 0), .c (.int .i64 ac)] h4 = some (.c (.bool (roomM rows' ac)), h4) := rroom_ok (N := 200) (d := 7) T4.r ac (by omega) T4.ge
  have ly : ∀ (loc vals : List AV) (h : Heap), evPure loc (.c y :: vals) h (.len .sl (.val 0)) = some (.c (.int .i64 (rows'.length : Int))) := fun _ _ _ => my.len rfl
  have lq : ∀ (loc vals : List AV) (h : Heap), evPure loc (.c (.sl e 0 rows'.length (.dy 1)) :: vals) h (.len .sl (.val 0)) = some (.c (.int .i64 (rows'.length : Int))) := fun _ _ _ => rfl
  have q7 : ((rows'.length : Int) == (rows'.length : Int)) = true := by simp
  have c1 : decide (K < 3) = true := decide_eq_true hK
  obtain ⟨r, hr, rfl⟩ := rowsAlike T4 hrl (.sl bx ox m cc) i my hz [.junk, .c (.sl bx ox m cc), .junk, .c (.ptr p 0), .c (.ptr q 0), .c (.int .i64 (i : Int)), .c (.ptr h.next 0), .c y, .c (.int .i64 0), .junk, .junk, .junk, .c (.bool true), .c (.bool true), .c (.bool false), .junk, .c (.bool false), .junk, .junk] rfl
  unfold ir4_l1
  simp only [enter_eq, ev_seq, seqK_norm, seqK_exit, seqK_ret, ev_reg, ev_cond, condK_true, condK_false, ev_block, blockK_norm, blockK_ret, blockK_exit, ev_loop, ev_skip, ev_exit, ev_ret, regK_cons, regK_nil, guard_none, guard_some, regG_true, regG_false, regO_some, op_mov, op_conv, op_bin, op_bsl, op_box, op_mks, op_s2b, op_pick, op_un, op_eq, op_len, op_ext, op_load, op_iaddr, op_slice, op_b2s, op_idxS, op_mx, op_mn, op_call, op_store, op_app, op_copy, args_eq, result_one', rv_loc, finish_norm, finish_ret, outK_some, keep_true, keep_false, keep_nil, p_bin, p_pick, p_un, p_eq, p_conv, evNew, pureK_some, newK_some, X.eval, set_none, set_some, List.map_cons, List.map_nil, List.getD_cons_zero, List.getD_cons_succ, List.getD_nil, List.set_cons_zero, List.set_cons_succ, binCV, unCV, isShift, intArithF_eq, shiftF_eq, wrapF_eq, intArith, shift, eqVal, bound, asNat_cast, cond_true, cond_false, BEq.rfl, beq_self_eq_true, evalParts, fillParts, AV.cells, AV.ofCells, XV.av, AV.xv, List.length_cons, List.length_nil, zeros, patch, setMany, List.nil_append, List.cons_append, Nat.ble, Nat.add_eq, Nat.zero_add, Nat.add_zero, Nat.reduceAdd, Nat.reduceMul, Nat.reduceSub, Nat.ble_eq, Nat.reduceLeDiff, Nat.reduceBEq, Int.reduceBEq, Int.reduceNeg, Bool.and_true, Bool.and_false, Bool.true_and, Bool.false_and, Bool.not_true, Bool.not_false, Bool.true_eq_false, Bool.false_eq_true, Int.reduceLT, Int.reduceLE, Int.reduceGT, Int.reduceGE, decide_true, decide_false, Bool.not_eq_true, loopN_norm, loopN_exit, tf, ft, ff, ev_dreg, dregK_nil, dregK_cons, dregE_true, dregP_some, dregX_some, d_mov, d_bin, d_eq, d_pick, d_un, d_conv, d_b2s, d_len, d_load, d_iaddr, d_slice, d_ext, d_call, d_store, chk_done, chk_none, chk_some, chkG_true, chkG_false, chkOne_nil, chkOne_cons, chkH_some, chkV_same, stage_none, stage_some, look_hit, look_miss, news_nil, wb_cons, wb_nil, skip0, List.reverse_cons, List.reverse_nil, bneI, bneB, lx, v1, v2, m1, p_iaddr, p_faddr, op_faddr, d_faddr, d_nilchk, p_nilchk, p_load, AV.ofCells, k0, ek, evEff, w1, c1, o0 (ExtB.refl _ h1), o1 (ExtB.refl _ h1), o2 (ExtB.refl _ h1), o3 (ExtB.refl _ h1), o1 xa, o2 xa, o3 xa, o1 xb, o2 xb, o3 xb, o1 xc, o2 xc, o3 xc, e2, e3, e4, p1, p2, p3, p4, p5, p6, T4.r.r0, ly, lq, q7, hr, blockK_exit_eq]
  refine ⟨_, _, rows', rfl, ?_, T4, hl3, (x1.b _).trans xc⟩; rfl

theorem stepB (T : Tw h p b bs q e es rows) (h0 : 0 < rows.length) (hlow : ∀ k ∈ bs ++ es, k < h.next) (hx : Recs 4 h (.sl bx ox m cc) m xs) {i : Nat} (hi : i < m) (hm : m ≤ 150) {K : Int} (hK : 3 ≤ K) (ek : Int.tmod (IntKind.i64.wrap (Int.tmod (xs.getD (i * 4) 0) 5 + 5)) 5 = K) :
    ∃ l H rows', ev (evCallT table 14 200 8) 200 ir4_l1 (At12 (.sl bx ox m cc) p q i) h = some (.norm, l, H) ∧ keepOnly ir4_k1 l = At12 (.sl bx ox m cc) p q (i + 1) ∧ Tw H p b bs q e es rows' ∧ rows'.length = rows.length ∧ ExtB (bs ++ es) h H := by
  have bneI : ∀ {a b : Int}, (a != b) = !(a == b) := rfl
  have bneB : ∀ {x : Bool}, (x != x) = false := by simp
  have lx : ∀ (loc vals : List AV) (h : Heap), evPure loc (.c (.sl bx ox m cc) :: vals) h (.len .sl (.val 0)) = some (.c (.int .i64 (m : Int))) := fun _ _ _ => hx.len rfl
  have v1 : decide ((i : Int) < (m : Int)) = true := ltNat hi
  have v2 := succI (i := i) (by omega)
  have m1 : Nat.blt i m = true := bltT hi
  have k0 := hx.op4 hi
  generalize xs.getD (i * 4 + 1) 0 = ac at *
  generalize xs.getD (i * 4 + 2) 0 = ag at *
  generalize xs.getD (i * 4 + 3) 0 = ah at *
  obtain ⟨h1, w1, g1, x1, n1⟩ := box_store (h := h) (z := [.int .i64 0, .int .i64 0, .int .i64 0, .int .i64 0]) (v := [.int .i64 (xs.getD (i * 4) 0), .int .i64 ac, .int .i64 ag, .int .i64 ah]) rfl
  have T1 := T.ext (x1.b []) (by simp)
  obtain ⟨v, h2, h3, rows', e2, e3, T3, hl3, xa, xb⟩ := (show ∃ v h2 h3 rows', evCallT table 14 200 8 19 [.c (.ptr p 0), .c (.int .i64 ac), .c (.int .i64 ah)] h1 = some (.c (.int .i64 v), h2) ∧ evCallT table 14 200 8 20 [.c (.ptr q 0), .c (.int .i64 ac), .c (.int .i64 ah)] h2 = some (.c (.int .i64 v), h3) ∧ Tw h3 p b bs q e es rows' ∧ rows'.length = rows.length ∧ ExtB (bs ++ es) h1 h2 ∧ ExtB (bs ++ es) h1 h3 from doBack T1 ac ah)
  have T3' := T3
  have hrl : 0 < rows'.length := by omega
  obtain ⟨y, zs, h4, e4, my, hz, x4⟩ : ∃ y zs h', evCallT table 14 200 8 13 [.c (.ptr p 0)] h3 = some (.c y, h') ∧ Mine 1 h3 h' y rows'.length zs ∧ (∀ j (hj : j < rows'.length), ∃ z, zs[j]? = some z ∧ Ints h' z rows'[j]) ∧ Ext h3 h' := all_ok (N := 200) (d := 6) T3.t (by have := T3.few; omega) (by omega)
  have T4 := T3.ext (x4.b []) (by simp)
  have own : ∀ {H : Heap}, ExtB (bs ++ es) h1 H → H.get h.next = some (.cells [.int .i64 (xs.getD (i * 4) 0), .int .i64 ac, .int .i64 ag, .int .i64 ah]) := fun {H} x => x.at_ g1 (by omega) (fun hS => by have := hlow _ hS; omega)
  have o0 : ∀ {H : Heap}, ExtB (bs ++ es) h1 H → H.read h.next 0 1 = some [.int .i64 (xs.getD (i * 4) 0)] := fun {H} x => read_cells (own x) rfl
  have o1 : ∀ {H : Heap}, ExtB (bs ++ es) h1 H → H.read h.next 1 1 = some [.int .i64 ac] := fun {H} x => read_cells (own x) rfl
  have o2 : ∀ {H : Heap}, ExtB (bs ++ es) h1 H → H.read h.next 2 1 = some [.int .i64 ag] := fun {H} x => read_cells (own x) rfl
  have o3 : ∀ {H : Heap}, ExtB (bs ++ es) h1 H → H.read h.next 3 1 = some [.int .i64 ah] := fun {H} x => read_cells (own x) rfl
  have xc : ExtB (bs ++ es) h1 h4 := xb.trans (x4.b _)
  have p1 : evCallT table 14 200 8 15 [.c (.ptr p 0), .c (.int .i64 ac), .c (.int .i64 ah)] h4 = some (.c (.int .i64 (pageM rows' ac ah)), h4) := page_ok (N := 200) (d := 6) T4.t ac ah
  have p2 : evCallT table 14 200 8 21 [.c (.ptr q 0), .c (.int .i64 ac), .c (.int .i64 ah)] h4 = some (.c (.int .i64 (pageM rows' ac ah)), h4) := rpage_ok (N := 200) (d := 7) T4.r ac ah
  have p3 : evCallT table 14 200 8 16 [.c (.ptr p 0), .c (.int .i64 ag)] h4 = some (.c (.int .i64 (pinsM rows' ag : Int)), h4) := pins_ok (N := 200) (d := 7) T4.t ag (by have := T4.few; omega) (by omega)
  have p4 : evCallT table 14 200 8 22 [.c (.ptr q 0), .c (.int .i64 ag)] h4 = some (.c (.int .i64 (pinsM rows' ag : Int)), h4) := rpins_ok (N := 200) (d := 7) T4.r ag (by have := T4.few; omega) (by omega)
  have p5 : evCallT table 14 200 8 23 [.c (.ptr p 0), .c (.int .i64 ac)] h4 = some (.c (.bool (roomM rows' ac)), h4) := room_ok (N := 200) (d := 5) T4.t ac (by omega)
  have p6 : evCallT table 14 200 8 24 [.c (.ptr q 0), .c (.int .i64 ac)] h4 = some (.c (.bool (roomM rows' ac)), h4) := rroom_ok (N := 200) (d := 7) T4.r ac (by omega) T4.ge
  have ly : ∀ (loc vals : List AV) (h : Heap), evPure loc (.c y :: vals) h (.len .sl (.val 0)) = some (.c (.int .i64 (rows'.length : Int))) := fun _ _ _ => my.len rfl
  have lq : ∀ (loc vals : List AV) (h : Heap), evPure loc (.c (.sl e 0 rows'.length (.dy 1)) :: vals) h (.len .sl (.val 0)) = some (.c (.int .i64 (rows'.length : Int))) := fun _ _ _ => rfl
  have q7 : ((rows'.length : Int) == (rows'.length : Int)) = true := by simp
  have c1 : decide (K < 3) = false := decide_eq_false (by omega)
  obtain ⟨r, hr, rfl⟩ := rowsAlike T4 hrl (.sl bx ox m cc) i my hz [.junk, .c (.sl bx ox m cc), .junk, .c (.ptr p 0), .c (.ptr q 0), .c (.int .i64 (i : Int)), .c (.ptr h.next 0), .c y, .c (.int .i64 0), .junk, .junk, .junk, .c (.bool true), .c (.bool false), .junk, .c (.bool false), .c (.bool false), .junk, .junk] rfl
  unfold ir4_l1
  simp only [enter_eq, ev_seq, seqK_norm, seqK_exit, seqK_ret, ev_reg, ev_cond, condK_true, condK_false, ev_block, blockK_norm, blockK_ret, blockK_exit, ev_loop, ev_skip, ev_exit, ev_ret, regK_cons, regK_nil, guard_none, guard_some, regG_true, regG_false, regO_some, op_mov, op_conv, op_bin, op_bsl, op_box, op_mks, op_s2b, op_pick, op_un, op_eq, op_len, op_ext, op_load, op_iaddr, op_slice, op_b2s, op_idxS, op_mx, op_mn, op_call, op_store, op_app, op_copy, args_eq, result_one', rv_loc, finish_norm, finish_ret, outK_some, keep_true, keep_false, keep_nil, p_bin, p_pick, p_un, p_eq, p_conv, evNew, pureK_some, newK_some, X.eval, set_none, set_some, List.map_cons, List.map_nil, List.getD_cons_zero, List.getD_cons_succ, List.getD_nil, List.set_cons_zero, List.set_cons_succ, binCV, unCV, isShift, intArithF_eq, shiftF_eq, wrapF_eq, intArith, shift, eqVal, bound, asNat_cast, cond_true, cond_false, BEq.rfl, beq_self_eq_true, evalParts, fillParts, AV.cells, AV.ofCells, XV.av, AV.xv, List.length_cons, List.length_nil, zeros, patch, setMany, List.nil_append, List.cons_append, Nat.ble, Nat.add_eq, Nat.zero_add, Nat.add_zero, Nat.reduceAdd, Nat.reduceMul, Nat.reduceSub, Nat.ble_eq, Nat.reduceLeDiff, Nat.reduceBEq, Int.reduceBEq, Int.reduceNeg, Bool.and_true, Bool.and_false, Bool.true_and, Bool.false_and, Bool.not_true, Bool.not_false, Bool.true_eq_false, Bool.false_eq_true, Int.reduceLT, Int.reduceLE, Int.reduceGT, Int.reduceGE, decide_true, decide_false, Bool.not_eq_true, loopN_norm, loopN_exit, tf, ft, ff, ev_dreg, dregK_nil, dregK_cons, dregE_true, dregP_some, dregX_some, d_mov, d_bin, d_eq, d_pick, d_un, d_conv, d_b2s, d_len, d_load, d_iaddr, d_slice, d_ext, d_call, d_store, chk_done, chk_none, chk_some, chkG_true, chkG_false, chkOne_nil, chkOne_cons, chkH_some, chkV_same, stage_none, stage_some, look_hit, look_miss, news_nil, wb_cons, wb_nil, skip0, List.reverse_cons, List.reverse_nil, bneI, bneB, lx, v1, v2, m1, p_iaddr, p_faddr, op_faddr, d_faddr, d_nilchk, p_nilchk, p_load, AV.ofCells, k0, ek, evEff, w1, c1, o0 (ExtB.refl _ h1), o1 (ExtB.refl _ h1), o2 (ExtB.refl _ h1), o3 (ExtB.refl _ h1), o1 xa, o2 xa, o3 xa, o1 xb, o2 xb, o3 xb, o1 xc, o2 xc, o3 xc, e2, e3, e4, p1, p2, p3, p4, p5, p6, T4.r.r0, ly, lq, q7, hr, blockK_exit_eq]
  refine ⟨_, _, rows', rfl, ?_, T4, hl3, (x1.b _).trans xc⟩; rfl
end

theorem handlePlays {x : CV} {h : Heap} {m : Nat} {xs : List Int} (n : Int) (hx : Recs 4 h x m xs) : good (evCallT table 14 200 9 4 [.c (.int .i64 n), .c x] h) = true := by
  have lx : ∀ (loc vals : List AV) (h : Heap), evPure loc (.c x :: vals) h (.len .sl (.val 0)) = some (.c (.int .i64 (m : Int))) := fun _ _ _ => hx.len rfl
  rw [evCallT_eq (F := ir4) rfl rfl rfl]
  unfold ir4
  rw [bodyK_eq]
  by_cases hn : 1 ≤ n ∧ n ≤ 6
  · obtain ⟨k, rfl⟩ : ∃ k : Nat, n = (k : Int) := ⟨n.toNat, by omega⟩
    obtain ⟨p, b, bs, h1, e1, t1, x1, hp, hb, hbs⟩ : ∃ p b bs h', evCallT table 14 200 8 11 [.c (.int .i64 (k : Int))] h = some (.c (.ptr p 0), h') ∧ HB h' p b bs (List.replicate k six0) ∧ Ext h h' ∧ h.next ≤ p ∧ h.next ≤ b ∧ ∀ k ∈ bs, h.next ≤ k := new_ok (N := 200) (d := 4) (by omega) (by omega) (by omega)
    obtain ⟨q, e, es, h2, e2, t2, x2, hq, he, hes⟩ : ∃ p b bs h', evCallT table 14 200 8 17 [.c (.int .i64 (k : Int))] h1 = some (.c (.ptr p 0), h') ∧ HB h' p b bs (List.replicate k six0) ∧ Ext h1 h' ∧ h1.next ≤ p ∧ h1.next ≤ b ∧ ∀ k ∈ bs, h1.next ≤ k := rnew_ok (N := 200) (d := 7) (by omega) (by omega) (by omega)
    have old1 : ∀ k ∈ p :: b :: bs, k < h1.next ∧ h.next ≤ k := fun k hk => by
      rcases List.mem_cons.1 hk with rfl | hk
      · exact ⟨t1.pn, hp⟩
      rcases List.mem_cons.1 hk with rfl | hk
      · exact ⟨t1.bn, hb⟩
      · exact ⟨t1.sn k hk, hbs k hk⟩
    have new2 : ∀ k ∈ q :: e :: es, h1.next ≤ k := fun k hk => by
      rcases List.mem_cons.1 hk with rfl | hk
      · exact hq
      rcases List.mem_cons.1 hk with rfl | hk
      · exact he
      · exact hes k hk
    have T : Tw h2 p b bs q e es (List.replicate k six0) :=
      ⟨t1.ext (x2.b []) (by simp), t2, fun r hr v hv => by rw [(List.mem_replicate.1 hr).2] at hv; simp [six0] at hv; omega, by simp; omega, fun k hk hk' => by have := (old1 k hk).1; have := new2 k hk'; omega⟩
    have hx2 : Recs 4 h2 x m xs := (hx.ext x1).ext x2
    have hx1n := x1.1
    have hxb : ∀ k, blk x = some k → k ∉ bs ++ es := fun k hk hS => by
      rcases hx.is with ⟨rfl, _⟩ | ⟨i, o, c, rfl, hi⟩
      · cases hk
      · simp [blk] at hk
        subst hk
        rcases List.mem_append.1 hS with h3 | h3
        · have := hbs _ h3; omega
        · have := hes _ h3; omega
    by_cases hm : m ≤ 150
    · have v0 : decide ((m : Int) > 150) = false := by simp; omega
      have L : ∀ loc, keepOnly ir4_k1 loc = At12 x p q 0 → ∃ r, loopK (evCallT table 14 200 8) 200 ir4_k1 ir4_l1 200 loc h2 = some r ∧ ∃ a0 a1 a2 l h', r = (.exit 0, a0 :: a1 :: a2 :: l, h') := by
        intro loc hloc
        refine loop_inv (n := m) (fun i loc h' => ∃ rows, Tw h' p b bs q e es rows ∧ rows.length = k ∧ Recs 4 h' x m xs ∧ loc = At12 x p q i) _ ?_ ⟨_, T, by simp, hx2, hloc⟩ (by omega)
        rintro i loc h' hi ⟨rows, T', hl, hx', rfl⟩
        by_cases hlt : i < m
        · left
          refine ⟨hlt, ?_⟩
          obtain ⟨K, hK, ek⟩ := kindM (m := 5) (by omega) (by omega) (xs.getD (i * 4) 0)
          have ek' : Int.tmod (IntKind.i64.wrap (Int.tmod (xs.getD (i * 4) 0) 5 + 5)) 5 = (K : Int) := ek
          obtain ⟨bx, ox, cc, rfl, _⟩ : ∃ i o c, x = .sl i o m c ∧ i < h'.next := by
            rcases hx'.is with ⟨_, h0⟩ | h1
            · omega
            · exact h1
          have low : ∀ k ∈ bs ++ es, k < h'.next := fun k hk => (List.mem_append.1 hk).elim (fun h => T'.t.sn k h) fun h => T'.r.sn k h
          by_cases c1 : K < 3
          · obtain ⟨l, H, rows', e1, e2, T2, hl2, x⟩ := stepG T' (by omega) low hx' hlt hm (K := (K : Int)) (by omega) ek'
            exact ⟨_, _, e1, _, T2, by omega, hx'.extB x hxb, e2⟩
          · obtain ⟨l, H, rows', e1, e2, T2, hl2, x⟩ := stepB T' (by omega) low hx' hlt hm (K := (K : Int)) (by omega) ek'
            exact ⟨_, _, e1, _, T2, by omega, hx'.extB x hxb, e2⟩
        · right
          have v1 : decide ((i : Int) < (m : Int)) = false := geNat (by omega)
          unfold ir4_l1
          simp only [enter_eq, ev_seq, seqK_norm, seqK_exit, seqK_ret, ev_reg, ev_cond, condK_true, condK_false, ev_block, blockK_norm, blockK_ret, blockK_exit, ev_loop, ev_skip, ev_exit, ev_ret, regK_cons, regK_nil, guard_none, guard_some, regG_true, regG_false, regO_some, op_mov, op_conv, op_bin, op_bsl, op_box, op_mks, op_s2b, op_pick, op_un, op_eq, op_len, op_ext, op_load, op_iaddr, op_slice, op_b2s, op_idxS, op_mx, op_mn, op_call, op_store, op_app, op_copy, args_eq, result_one', rv_loc, finish_norm, finish_ret, outK_some, keep_true, keep_false, keep_nil, p_bin, p_pick, p_un, p_eq, p_conv, evNew, pureK_some, newK_some, X.eval, set_none, set_some, List.map_cons, List.map_nil, List.getD_cons_zero, List.getD_cons_succ, List.getD_nil, List.set_cons_zero, List.set_cons_succ, binCV, unCV, isShift, intArithF_eq, shiftF_eq, wrapF_eq, intArith, shift, eqVal, bound, asNat_cast, cond_true, cond_false, BEq.rfl, beq_self_eq_true, evalParts, fillParts, AV.cells, AV.ofCells, XV.av, AV.xv, List.length_cons, List.length_nil, zeros, patch, setMany, List.nil_append, List.cons_append, Nat.ble, Nat.add_eq, Nat.zero_add, Nat.add_zero, Nat.reduceAdd, Nat.reduceMul, Nat.reduceSub, Nat.ble_eq, Nat.reduceLeDiff, Nat.reduceBEq, Int.reduceBEq, Int.reduceNeg, Bool.and_true, Bool.and_false, Bool.true_and, Bool.false_and, Bool.not_true, Bool.not_false, Bool.true_eq_false, Bool.false_eq_true, Int.reduceLT, Int.reduceLE, Int.reduceGT, Int.reduceGE, decide_true, decide_false, Bool.not_eq_true, loopN_norm, loopN_exit, tf, ft, ff, lx, v1]
          exact ⟨_, rfl, by simp, _, _, _, _, _, rfl⟩
      obtain ⟨r, hr, a0, a1, a2, l, h', rfl⟩ := L [.c (.int .i64 (k : Int)), .c x, .c (.bool false), .c (.ptr p 0), .c (.ptr q 0), .c (.int .i64 0), .tup [], .tup [], .tup [], .c (.bool false), .c (.bool false), .c (.bool false), .tup [], .tup [], .tup [], .tup [], .tup [], .tup [], .tup []] rfl
      simp only [enter_eq, ev_seq, seqK_norm, seqK_exit, seqK_ret, ev_reg, ev_cond, condK_true, condK_false, ev_block, blockK_norm, blockK_ret, blockK_exit, ev_loop, ev_skip, ev_exit, ev_ret, regK_cons, regK_nil, guard_none, guard_some, regG_true, regG_false, regO_some, op_mov, op_conv, op_bin, op_bsl, op_box, op_mks, op_s2b, op_pick, op_un, op_eq, op_len, op_ext, op_load, op_iaddr, op_slice, op_b2s, op_idxS, op_mx, op_mn, op_call, op_store, op_app, op_copy, args_eq, result_one', rv_loc, finish_norm, finish_ret, outK_some, keep_true, keep_false, keep_nil, p_bin, p_pick, p_un, p_eq, p_conv, evNew, pureK_some, newK_some, X.eval, set_none, set_some, List.map_cons, List.map_nil, List.getD_cons_zero, List.getD_cons_succ, List.getD_nil, List.set_cons_zero, List.set_cons_succ, binCV, unCV, isShift, intArithF_eq, shiftF_eq, wrapF_eq, intArith, shift, eqVal, bound, asNat_cast, cond_true, cond_false, BEq.rfl, beq_self_eq_true, evalParts, fillParts, AV.cells, AV.ofCells, XV.av, AV.xv, List.length_cons, List.length_nil, zeros, patch, setMany, List.nil_append, List.cons_append, Nat.ble, Nat.add_eq, Nat.zero_add, Nat.add_zero, Nat.reduceAdd, Nat.reduceMul, Nat.reduceSub, Nat.ble_eq, Nat.reduceLeDiff, Nat.reduceBEq, Int.reduceBEq, Int.reduceNeg, Bool.and_true, Bool.and_false, Bool.true_and, Bool.false_and, Bool.not_true, Bool.not_false, Bool.true_eq_false, Bool.false_eq_true, Int.reduceLT, Int.reduceLE, Int.reduceGT, Int.reduceGE, decide_true, decide_false, Bool.not_eq_true, loopN_norm, loopN_exit, tf, ft, ff, e1, e2, lx, v0, hr, blockK_exit_eq, evCallT_told]
      rfl
    · have v0 : decide ((m : Int) > 150) = true := by simp; omega
      simp only [enter_eq, ev_seq, seqK_norm, seqK_exit, seqK_ret, ev_reg, ev_cond, condK_true, condK_false, ev_block, blockK_norm, blockK_ret, blockK_exit, ev_loop, ev_skip, ev_exit, ev_ret, regK_cons, regK_nil, guard_none, guard_some, regG_true, regG_false, regO_some, op_mov, op_conv, op_bin, op_bsl, op_box, op_mks, op_s2b, op_pick, op_un, op_eq, op_len, op_ext, op_load, op_iaddr, op_slice, op_b2s, op_idxS, op_mx, op_mn, op_call, op_store, op_app, op_copy, args_eq, result_one', rv_loc, finish_norm, finish_ret, outK_some, keep_true, keep_false, keep_nil, p_bin, p_pick, p_un, p_eq, p_conv, evNew, pureK_some, newK_some, X.eval, set_none, set_some, List.map_cons, List.map_nil, List.getD_cons_zero, List.getD_cons_succ, List.getD_nil, List.set_cons_zero, List.set_cons_succ, binCV, unCV, isShift, intArithF_eq, shiftF_eq, wrapF_eq, intArith, shift, eqVal, bound, asNat_cast, cond_true, cond_false, BEq.rfl, beq_self_eq_true, evalParts, fillParts, AV.cells, AV.ofCells, XV.av, AV.xv, List.length_cons, List.length_nil, zeros, patch, setMany, List.nil_append, List.cons_append, Nat.ble, Nat.add_eq, Nat.zero_add, Nat.add_zero, Nat.reduceAdd, Nat.reduceMul, Nat.reduceSub, Nat.ble_eq, Nat.reduceLeDiff, Nat.reduceBEq, Int.reduceBEq, Int.reduceNeg, Bool.and_true, Bool.and_false, Bool.true_and, Bool.false_and, Bool.not_true, Bool.not_false, Bool.true_eq_false, Bool.false_eq_true, Int.reduceLT, Int.reduceLE, Int.reduceGT, Int.reduceGE, decide_true, decide_false, Bool.not_eq_true, loopN_norm, loopN_exit, tf, ft, ff, e1, e2, lx, v0, evCallT_told]
      rfl
  · have e1 : evCallT table 14 200 8 11 [.c (.int .i64 n)] h = some (.c .nilp, h) := new_no (N := 200) (d := 7) hn
    have e2 : evCallT table 14 200 8 17 [.c (.int .i64 n)] h = some (.c .nilp, h) := rnew_no (N := 200) (d := 7) hn
    simp only [enter_eq, ev_seq, seqK_norm, seqK_exit, seqK_ret, ev_reg, ev_cond, condK_true, condK_false, ev_block, blockK_norm, blockK_ret, blockK_exit, ev_loop, ev_skip, ev_exit, ev_ret, regK_cons, regK_nil, guard_none, guard_some, regG_true, regG_false, regO_some, op_mov, op_conv, op_bin, op_bsl, op_box, op_mks, op_s2b, op_pick, op_un, op_eq, op_len, op_ext, op_load, op_iaddr, op_slice, op_b2s, op_idxS, op_mx, op_mn, op_call, op_store, op_app, op_copy, args_eq, result_one', rv_loc, finish_norm, finish_ret, outK_some, keep_true, keep_false, keep_nil, p_bin, p_pick, p_un, p_eq, p_conv, evNew, pureK_some, newK_some, X.eval, set_none, set_some, List.map_cons, List.map_nil, List.getD_cons_zero, List.getD_cons_succ, List.getD_nil, List.set_cons_zero, List.set_cons_succ, binCV, unCV, isShift, intArithF_eq, shiftF_eq, wrapF_eq, intArith, shift, eqVal, bound, asNat_cast, cond_true, cond_false, BEq.rfl, beq_self_eq_true, evalParts, fillParts, AV.cells, AV.ofCells, XV.av, AV.xv, List.length_cons, List.length_nil, zeros, patch, setMany, List.nil_append, List.cons_append, Nat.ble, Nat.add_eq, Nat.zero_add, Nat.add_zero, Nat.reduceAdd, Nat.reduceMul, Nat.reduceSub, Nat.ble_eq, Nat.reduceLeDiff, Nat.reduceBEq, Int.reduceBEq, Int.reduceNeg, Bool.and_true, Bool.and_false, Bool.true_and, Bool.false_and, Bool.not_true, Bool.not_false, Bool.true_eq_false, Bool.false_eq_true, Int.reduceLT, Int.reduceLE, Int.reduceGT, Int.reduceGE, decide_true, decide_false, Bool.not_eq_true, loopN_norm, loopN_exit, tf, ft, ff, e1, e2, evCallT_told]
    rfl

end Lav

namespace Go.Proofs.Ytakkkibaaipmcaa.handlePlays
open Go.ChangeShapes Go.WideShapes Go.ChangeAt Go.RowKit
open Go.ChangeMaps (open_string shut_string)
set_option linter.unusedVariables false

theorem own : ownKnob Try.prog.godebug = none := by kernel_rfl
theorem laidOut : laidOutB Try.prog = true := by kernel_rfl

/-- What the walk is told of a slice of records of ints that came in: it is nil; or it leads to a row of 'cap' records, 'sz' cells each. -/
def IsRecs (sz : Nat) (w : World) (a : Option Addr) (len cap : Nat) (zs : List Int) : Prop :=
  (a = none ∧ len = 0 ∧ cap = 0 ∧ zs = []) ∨
  ∃ x, a = some x ∧ len ≤ cap ∧ cap ≤ maxLen ∧ zs.length = cap * sz ∧ (∀ i, i < zs.length → w.cell? (x.add i) = some (.int .i64 (zs.getD i 0))) ∧ ∀ n ∈ zs, (Lit.int .i64 n).wf = true

theorem walk (a0 : Int) (a1 : Option Addr) (len1 cap1 : Nat) (z1 : List Int) (w : World) (w0 : (Lit.int .i64 a0).wf = true) (w1 : IsRecs 4 w a1 len1 cap1 z1) :
    Calls Try.prog 4 #[.int .i64 a0, .slice a1 len1 cap1] w fun e w' => e = .returned (.bool true) ∧ Below w.heap.size w w' := by
  obtain ⟨ι, h, x, I, hle, hx, hr⟩ := (Lav.Init.empty w).recs (sz := 4) (by omega) w1
  exact Lav.walk_of (Lav.evCallT_sound Lav.mixed Lav.table_ok Lav.tld12 200 9) I (args := [.c (.int .i64 a0), .c x]) (vs := [.int .i64 a0, .slice a1 len1 cap1]) ⟨rfl, hx, trivial⟩ (Lav.handlePlays a0 (Lav.recs_of hr))

set_option maxRecDepth 100000 in
theorem lifted (os : Os) (started : os.Started) (H : Type) (enc : TypeId × Value → H) :
    ReturnsInHanded {} Try.checked os 4 .any (Rows.handlePlaysSpec.pre6 enc Try.prog Try.f4 Rows.handlePlaysRow.domain false) (Rows.handlePlaysSpec.post enc Try.prog Try.f4 false true false false) := by
  refine returnsInHanded_of_change (C := Try.checked) own started (by kernel_rfl) Try.func4
    (ChangeSpec.witness6 (enc := enc) (C := Try.checked) false ⟨#[], #[.int .i64 0, .slice none 0 0], []⟩ 8 (by kernel_rfl) (by kernel_rfl) (by kernel_rfl) (by kernel_rfl)) ?_
  intro W base args ds gs before hval0 hW hcnd _
  have hval : ∀ (j : Nat) t v, Try.f4.params[j]? = some t → args[j]? = some v → Value.okWide Try.prog W .any base t v := hval0
  have hW' := hW
  obtain ⟨p, q, hA0, hV, rfl, hfz, hnd⟩ := hW
  have hA : DataW.TrodAll enc Try.prog W 0 (fun _ => true) true Try.f4.params.toList args.toList ds p := hA0
  rw [Try.params4] at hA hval
  obtain ⟨v0, vs0, d0, ds0, p0, q0, hargs, rfl, rfl, h0, r0⟩ := trodAll_cons hA
  obtain ⟨v1, vs1, d1, ds1, p1, q1, rfl, rfl, rfl, h1, r1⟩ := trodAll_cons r0
  obtain ⟨rfl, rfl, rfl⟩ := trodAll_nil r1
  obtain rfl : args = #[v0, v1] := by cases args; simp_all
  obtain ⟨rfl, rfl⟩ := trodVars_none hV
  obtain ⟨a0, rfl, rfl, rfl, w0⟩ := open_int Try.underlying3 (hval 0 3 v0 rfl rfl) h0
  obtain ⟨a1, len1, cap1, rfl⟩ := okWide_slice Try.underlying32 (hval 1 32 v1 rfl rfl)
  have k1 := h1
  have lt1 : ∀ x ∈ p1, x.block < W.heap.size := by obtain ⟨m, hm⟩ := k1; exact DataW.trod_lt m _ _ _ hm
  obtain ⟨z1, w1⟩ : ∃ zs, IsRecs 4 W a1 len1 cap1 zs := by
    obtain ⟨fuel, hf⟩ := h1
    rcases Lav.open_recs (sz := 4) Try.underlying32 Try.underlying36 (by kernel_rfl) (by
        intro j hj
        match j, hj with
        | 0, _ => exact ⟨0, _, rfl, rfl, Try.underlying3, by kernel_rfl⟩
        | 1, _ => exact ⟨1, _, rfl, rfl, Try.underlying3, by kernel_rfl⟩
        | 2, _ => exact ⟨2, _, rfl, rfl, Try.underlying3, by kernel_rfl⟩
        | 3, _ => exact ⟨3, _, rfl, rfl, Try.underlying3, by kernel_rfl⟩
        | j + 4, hj => omega) hf with hcs | ⟨x, l, c, zs, hcs, hl, hm, hz, hcell, hwz⟩
    · simp [Value.cells] at hcs
      obtain ⟨rfl, rfl, rfl⟩ := hcs
      exact ⟨[], .inl ⟨rfl, rfl, rfl, rfl⟩⟩
    · simp [Value.cells] at hcs
      obtain ⟨rfl, rfl, rfl⟩ := hcs
      exact ⟨zs, .inr ⟨_, rfl, hl, hm, by simpa using hz, hcell, hwz⟩⟩
  clear hA0 hval0
  refine (walk a0 a1 len1 cap1 z1 W w0 w1).mono fun e W' ⟨he, bel⟩ => ?_
  subst he
  exact ⟨_, rfl, _, _, _, [], _, [], hW', trodAll_mk1 (shut_bool Try.underlying4 _), (trodAll_cons_mk (shut_int Try.underlying3 w0) (trodAll_cons_mk (Below.trod laidOut (by kernel_rfl) (of_decide_eq_true (by kernel_rfl)) k1 bel lt1) trodAll_mk0)), rfl, bel.frame _, fun h => by cases h⟩

theorem over : Rows.handlePlaysRow.holds Try.pinned (OpenSpec.ofChange Rows.handlePlaysSpec) :=
  OpenClaim.holds_of_wide 4 Try.f4 rfl rfl rfl rfl rfl rfl rfl ⟨rfl, rfl, rfl, rfl, rfl⟩ rfl rfl rfl rfl rfl (by kernel_rfl) Try.func4 (by kernel_rfl)
    (of_decide_eq_true (by kernel_rfl)) (by unfold Func.isWrapper; first | (rw [if_pos (by decide +kernel)]; kernel_rfl) | (rw [if_neg (by decide +kernel)]; exact ⟨rfl, rfl⟩))
    (fun os started H enc _ => lifted os started H enc)

theorem proved : Rows.HandlePlaysSaid := over
end Go.Proofs.Ytakkkibaaipmcaa.handlePlays
