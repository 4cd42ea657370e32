/-
  Layer 4: a list's cells, and what its functions do with them.
-/
import Derived.Test.YtdilhnnbfkiacaaIr
import Derived.Test.YtdilhnnbfkiacaaFwN
set_option maxRecDepth 100000
set_option linter.unusedSimpArgs false
namespace Lav
open Go (IntKind)

abbrev Ent := Bool × Int × Int
def entC : List Ent → List CV
  | [] => []
  | e :: es => .bool e.1 :: icell e.2.1 :: icell e.2.2 :: entC es
theorem entC_len : ∀ (es : List Ent), (entC es).length = es.length * 3
  | [] => rfl
  | e :: es => by simp [entC, entC_len es]; omega
theorem entC_at : ∀ (es : List Ent) (i : Nat) (hi : i < es.length), (entC es)[i * 3]? = some (.bool es[i].1) ∧ (entC es)[i * 3 + 1]? = some (icell es[i].2.1) ∧ (entC es)[i * 3 + 2]? = some (icell es[i].2.2)
  | e :: es, 0, _ => ⟨rfl, rfl, rfl⟩
  | e :: es, i + 1, h => by
    rw [show (i + 1) * 3 = i * 3 + 1 + 1 + 1 by omega]
    exact entC_at es i (by simpa using h)
theorem entC_all : ∀ (es : List Ent) (i : Nat) (hi : i < es.length), ((entC es).drop (i * 3)).take 3 = [.bool es[i].1, icell es[i].2.1, icell es[i].2.2]
  | e :: es, 0, _ => rfl
  | e :: es, i + 1, h => by
    rw [show (i + 1) * 3 = i * 3 + 1 + 1 + 1 by omega]
    exact entC_all es i (by simpa using h)
theorem entC_in : ∀ (es : List Ent) (i : Nat) (hi : i < es.length) (v : Bool), (entC es).set (i * 3) (.bool v) = entC (es.set i (v, es[i].2))
  | e :: es, 0, _, v => rfl
  | e :: es, i + 1, h, v => by
    rw [show (i + 1) * 3 = i * 3 + 1 + 1 + 1 by omega]
    simp only [entC, List.set_cons_succ]
    rw [entC_in es i (by simpa using h) v]; rfl
theorem entC_pv : ∀ (es : List Ent) (i : Nat) (hi : i < es.length) (v : Int), (entC es).set (i * 3 + 1) (icell v) = entC (es.set i (es[i].1, v, es[i].2.2))
  | e :: es, 0, _, v => rfl
  | e :: es, i + 1, h, v => by
    rw [show (i + 1) * 3 + 1 = (i * 3 + 1) + 1 + 1 + 1 by omega]
    simp only [entC, List.set_cons_succ]
    rw [entC_pv es i (by simpa using h) v]; rfl
theorem entC_nx : ∀ (es : List Ent) (i : Nat) (hi : i < es.length) (v : Int), (entC es).set (i * 3 + 2) (icell v) = entC (es.set i (es[i].1, es[i].2.1, v))
  | e :: es, 0, _, v => rfl
  | e :: es, i + 1, h, v => by
    rw [show (i + 1) * 3 + 2 = (i * 3 + 2) + 1 + 1 + 1 by omega]
    simp only [entC, List.set_cons_succ]
    rw [entC_nx es i (by simpa using h) v]; rfl
theorem entC_no : ∀ (es : List Ent) (i : Nat) (_ : i < es.length), (entC es).take (i * 3) ++ [.bool false, icell 0, icell 0] ++ (entC es).drop (i * 3 + 3) = entC (es.set i (false, 0, 0))
  | e :: es, 0, _ => rfl
  | e :: es, i + 1, h => by
    have := entC_no es i (by simpa using h)
    rw [show (i + 1) * 3 = i * 3 + 1 + 1 + 1 by omega, show i * 3 + 1 + 1 + 1 + 3 = (i * 3 + 3) + 1 + 1 + 1 by omega]
    simp only [entC, List.take_succ_cons, List.drop_succ_cons, List.cons_append, List.set_cons_succ]
    rw [← this]

/-- What a list holds: its entries, its first one, its last one. -/
structure St where
  es : List Ent
  f : Int
  l : Int

structure LS (h : Heap) (p b : Nat) (st : St) (c : Int) : Prop where
  cell : h.get p = some (.cells [.sl b 0 st.es.length (.ex st.es.length), .int .i64 st.f, .int .i64 st.l, .int .i64 c])
  ents : h.get b = some (.cells (entC st.es))
  ne : p ≠ b
  pn : p < h.next
  bn : b < h.next

section
variable {h : Heap} {p b : Nat} {st : St} {c : Int}
theorem LS.ext {h' : Heap} (t : LS h p b st c) {S : List Nat} (e : ExtB S h h') (hp : p ∉ S) (hb : b ∉ S) : LS h' p b st c :=
  ⟨e.at_ t.cell t.pn hp, e.at_ t.ents t.bn hb, t.ne, Nat.lt_of_lt_of_le t.pn e.1, Nat.lt_of_lt_of_le t.bn e.1⟩
theorem LS.r0 (t : LS h p b st c) : h.read p 0 1 = some [.sl b 0 st.es.length (.ex st.es.length)] := read_cells t.cell rfl
theorem LS.r1 (t : LS h p b st c) : h.read p 1 1 = some [.int .i64 st.f] := read_cells t.cell rfl
theorem LS.r2 (t : LS h p b st c) : h.read p 2 1 = some [.int .i64 st.l] := read_cells t.cell rfl
theorem LS.r3 (t : LS h p b st c) : h.read p 3 1 = some [.int .i64 c] := read_cells t.cell rfl
theorem LS.rin (t : LS h p b st c) {i : Nat} (hi : i < st.es.length) : h.read b (i * 3) 1 = some [.bool st.es[i].1] := read_cells t.ents (entC_at st.es i hi).1
theorem LS.rnx (t : LS h p b st c) {i : Nat} (hi : i < st.es.length) : h.read b (i * 3 + 2) 1 = some [.int .i64 st.es[i].2.2] := read_cells t.ents (entC_at st.es i hi).2.2
theorem LS.rall (t : LS h p b st c) {i : Nat} (hi : i < st.es.length) : h.read b (i * 3) 3 = some [.bool st.es[i].1, .int .i64 st.es[i].2.1, .int .i64 st.es[i].2.2] := by
  rw [read_part t.ents (by rw [entC_len]; omega), entC_all st.es i hi]; rfl

theorem LS.put (t : LS h p b st c) (es : List Ent) (hl : es.length = st.es.length) : LS (h.put b (.cells (entC es))) p b ⟨es, st.f, st.l⟩ c :=
  ⟨by rw [get_put_ne t.ne, hl]; exact t.cell, get_put_at, t.ne, t.pn, t.bn⟩
theorem LS.win (t : LS h p b st c) {i : Nat} (hi : i < st.es.length) (v : Bool) :
    ∃ h', h.write b (i * 3) [.bool v] = some h' ∧ LS h' p b ⟨st.es.set i (v, st.es[i].2), st.f, st.l⟩ c ∧ ExtB [p, b] h h' ∧ h'.next = h.next := by
  refine ⟨_, write_one (v := .bool v) t.ents (by rw [entC_len]; omega), ?_, (ExtB.refl _ _).put (.inr (by simp)) _, rfl⟩
  rw [entC_in st.es i hi v]; exact t.put _ (by simp)
theorem LS.wpv (t : LS h p b st c) {i : Nat} (hi : i < st.es.length) (v : Int) :
    ∃ h', h.write b (i * 3 + 1) [.int .i64 v] = some h' ∧ LS h' p b ⟨st.es.set i (st.es[i].1, v, st.es[i].2.2), st.f, st.l⟩ c ∧ ExtB [p, b] h h' ∧ h'.next = h.next := by
  refine ⟨_, write_one (v := .int .i64 v) t.ents (by rw [entC_len]; omega), ?_, (ExtB.refl _ _).put (.inr (by simp)) _, rfl⟩
  have := entC_pv st.es i hi v
  simp only [icell] at this
  rw [this]; exact t.put _ (by simp)
theorem LS.wnx (t : LS h p b st c) {i : Nat} (hi : i < st.es.length) (v : Int) :
    ∃ h', h.write b (i * 3 + 2) [.int .i64 v] = some h' ∧ LS h' p b ⟨st.es.set i (st.es[i].1, st.es[i].2.1, v), st.f, st.l⟩ c ∧ ExtB [p, b] h h' ∧ h'.next = h.next := by
  refine ⟨_, write_one (v := .int .i64 v) t.ents (by rw [entC_len]; omega), ?_, (ExtB.refl _ _).put (.inr (by simp)) _, rfl⟩
  have := entC_nx st.es i hi v
  simp only [icell] at this
  rw [this]; exact t.put _ (by simp)
theorem LS.wno (t : LS h p b st c) {i : Nat} (hi : i < st.es.length) :
    ∃ h', h.write b (i * 3) [.bool false, .int .i64 0, .int .i64 0] = some h' ∧ LS h' p b ⟨st.es.set i (false, 0, 0), st.f, st.l⟩ c ∧ ExtB [p, b] h h' ∧ h'.next = h.next := by
  have w := write_many (vs := [.bool false, icell 0, icell 0]) (o := i * 3) t.ents (by rw [entC_len]; simp; omega)
  have e : (entC st.es).take (i * 3) ++ [.bool false, icell 0, icell 0] ++ (entC st.es).drop (i * 3 + [CV.bool false, icell 0, icell 0].length) = entC (st.es.set i (false, 0, 0)) := entC_no st.es i hi
  rw [e] at w
  exact ⟨_, w, t.put _ (by simp), (ExtB.refl _ _).put (.inr (by simp)) _, rfl⟩
theorem LS.wf (t : LS h p b st c) (v : Int) : ∃ h', h.write p 1 [.int .i64 v] = some h' ∧ LS h' p b ⟨st.es, v, st.l⟩ c ∧ ExtB [p, b] h h' ∧ h'.next = h.next :=
  ⟨_, write_one t.cell (by simp), ⟨get_put_at, by rw [get_put_ne (Ne.symm t.ne)]; exact t.ents, t.ne, t.pn, t.bn⟩, (ExtB.refl _ _).put (.inr (by simp)) _, rfl⟩
theorem LS.wl (t : LS h p b st c) (v : Int) : ∃ h', h.write p 2 [.int .i64 v] = some h' ∧ LS h' p b ⟨st.es, st.f, v⟩ c ∧ ExtB [p, b] h h' ∧ h'.next = h.next :=
  ⟨_, write_one t.cell (by simp), ⟨get_put_at, by rw [get_put_ne (Ne.symm t.ne)]; exact t.ents, t.ne, t.pn, t.bn⟩, (ExtB.refl _ _).put (.inr (by simp)) _, rfl⟩
theorem LS.wc (t : LS h p b st c) (v : Int) : ∃ h', h.write p 3 [.int .i64 v] = some h' ∧ LS h' p b st v ∧ ExtB [p, b] h h' ∧ h'.next = h.next :=
  ⟨_, write_one t.cell (by simp), ⟨get_put_at, by rw [get_put_ne (Ne.symm t.ne)]; exact t.ents, t.ne, t.pn, t.bn⟩, (ExtB.refl _ _).put (.inr (by simp)) _, rfl⟩
end

/-- A member, or the end. -/
def Valid (n : Nat) (a : Int) : Prop := a = -1 ∨ ∃ i : Nat, a = (i : Int) ∧ i < n
def ent (st : St) (a : Int) : Ent := st.es.getD a.toNat (false, 0, 0)
def nx (st : St) (a : Int) : Int := if a = -1 then st.f else (ent st a).2.2
def pv (st : St) (a : Int) : Int := if a = -1 then st.l else (ent st a).2.1
def setNx (st : St) (a v : Int) : St := if a = -1 then ⟨st.es, v, st.l⟩ else ⟨st.es.set a.toNat ((ent st a).1, (ent st a).2.1, v), st.f, st.l⟩
def setPv (st : St) (a v : Int) : St := if a = -1 then ⟨st.es, st.f, v⟩ else ⟨st.es.set a.toNat ((ent st a).1, v, (ent st a).2.2), st.f, st.l⟩
def tie (st : St) (a c : Int) : St := setPv (setNx st a c) c a

theorem setNx_len (st : St) (a v : Int) : (setNx st a v).es.length = st.es.length := by unfold setNx; split <;> simp
theorem setPv_len (st : St) (a v : Int) : (setPv st a v).es.length = st.es.length := by unfold setPv; split <;> simp
theorem tie_len (st : St) (a v : Int) : (tie st a v).es.length = st.es.length := by unfold tie; rw [setPv_len, setNx_len]
theorem ent_eq {st : St} {i : Nat} (hi : i < st.es.length) : ent st (i : Int) = st.es[i] := by simp [ent, List.getD_eq_getElem?_getD, hi]
theorem ent_setNx {st : St} {a v x : Int} (ha : Valid st.es.length a) (hx : 0 ≤ x) : ent (setNx st a v) x = if x = a then ((ent st x).1, (ent st x).2.1, v) else ent st x := by
  rcases ha with rfl | ⟨i, rfl, hi⟩
  · rw [if_neg (by omega)]; rfl
  · obtain ⟨j, rfl⟩ : ∃ j : Nat, x = (j : Int) := ⟨x.toNat, by omega⟩
    unfold setNx
    rw [if_neg (by omega)]
    by_cases e : i = j
    · subst e
      rw [if_pos rfl]
      simp only [ent, List.getD_eq_getElem?_getD, Int.toNat_natCast]
      rw [List.getElem?_set_self hi]; rfl
    · rw [if_neg (by omega)]
      simp only [ent, List.getD_eq_getElem?_getD, Int.toNat_natCast]
      rw [List.getElem?_set_ne e]
theorem ent_setPv {st : St} {a v x : Int} (ha : Valid st.es.length a) (hx : 0 ≤ x) : ent (setPv st a v) x = if x = a then ((ent st x).1, v, (ent st x).2.2) else ent st x := by
  rcases ha with rfl | ⟨i, rfl, hi⟩
  · rw [if_neg (by omega)]; rfl
  · obtain ⟨j, rfl⟩ : ∃ j : Nat, x = (j : Int) := ⟨x.toNat, by omega⟩
    unfold setPv
    rw [if_neg (by omega)]
    by_cases e : i = j
    · subst e
      rw [if_pos rfl]
      simp only [ent, List.getD_eq_getElem?_getD, Int.toNat_natCast]
      rw [List.getElem?_set_self hi]; rfl
    · rw [if_neg (by omega)]
      simp only [ent, List.getD_eq_getElem?_getD, Int.toNat_natCast]
      rw [List.getElem?_set_ne e]
theorem Valid.pos {n : Nat} {a : Int} (h : Valid n a) (h' : a ≠ -1) : 0 ≤ a := by rcases h with h | ⟨i, h, _⟩ <;> omega

theorem nx_tie {st : St} {a c x : Int} (ha : Valid st.es.length a) (hc : Valid st.es.length c) (hx : Valid st.es.length x) : nx (tie st a c) x = if x = a then c else nx st x := by
  unfold tie
  have hc' : Valid (setNx st a c).es.length c := by rw [setNx_len]; exact hc
  have e1 : nx (setPv (setNx st a c) c a) x = nx (setNx st a c) x := by
    unfold nx
    by_cases e : x = -1
    · rw [if_pos e, if_pos e]; unfold setPv; split <;> rfl
    · rw [if_neg e, if_neg e, ent_setPv hc' (hx.pos e)]; split <;> rfl
  rw [e1]
  unfold nx
  by_cases e : x = -1
  · rw [if_pos e, if_pos e]
    unfold setNx
    by_cases e2 : a = -1
    · rw [if_pos e2, if_pos (by omega)]
    · rw [if_neg e2, if_neg (by omega)]
  · rw [if_neg e, if_neg e, ent_setNx ha (hx.pos e)]; split <;> rfl
theorem pv_tie {st : St} {a c x : Int} (ha : Valid st.es.length a) (hc : Valid st.es.length c) (hx : Valid st.es.length x) : pv (tie st a c) x = if x = c then a else pv st x := by
  unfold tie
  have hc' : Valid (setNx st a c).es.length c := by rw [setNx_len]; exact hc
  have e1 : pv (setNx st a c) x = pv st x := by
    unfold pv
    by_cases e : x = -1
    · rw [if_pos e, if_pos e]; unfold setNx; split <;> rfl
    · rw [if_neg e, if_neg e, ent_setNx ha (hx.pos e)]; split <;> rfl
  rw [← e1]
  unfold pv
  by_cases e : x = -1
  · rw [if_pos e, if_pos e]
    generalize setNx st a c = s at *
    unfold setPv
    by_cases e2 : c = -1
    · rw [if_pos e2, if_pos (by omega)]
    · rw [if_neg e2, if_neg (by omega)]
  · rw [if_neg e, if_neg e, ent_setPv hc' (hx.pos e)]; split <;> rfl
theorem in_tie {st : St} {a c x : Int} (ha : Valid st.es.length a) (hc : Valid st.es.length c) (hx : 0 ≤ x) : (ent (tie st a c) x).1 = (ent st x).1 := by
  unfold tie
  have hc' : Valid (setNx st a c).es.length c := by rw [setNx_len]; exact hc
  rw [ent_setPv hc' hx]
  have : (if x = c then ((ent (setNx st a c) x).1, a, (ent (setNx st a c) x).2.2) else ent (setNx st a c) x).1 = (ent (setNx st a c) x).1 := by split <;> rfl
  rw [this, ent_setNx ha hx]
  split <;> rfl

section
variable {N d : Nat} {h : Heap} {p b : Nat} {st : St} {c : Int}

theorem tie_ok (t : LS h p b st c) {x y : Int} (hx : Valid st.es.length x) (hy : Valid st.es.length y) :
    ∃ h', evCallT table 18 N (d + 1) 50 [.c (.ptr p 0), .c (.int .i64 x), .c (.int .i64 y)] h = some (.tup [], h') ∧ LS h' p b (tie st x y) c ∧ ExtB [p, b] h h' := by
  obtain ⟨h1, w1, t1, x1, n1⟩ : ∃ h1, (if x = -1 then h.write p 1 [.int .i64 y] else h.write b (x.toNat * 3 + 2) [.int .i64 y]) = some h1 ∧ LS h1 p b (setNx st x y) c ∧ ExtB [p, b] h h1 ∧ h1.next = h.next := by
    unfold setNx
    rcases hx with rfl | ⟨i, rfl, hi⟩
    · rw [if_pos rfl, if_pos rfl]; exact t.wf y
    · rw [if_neg (by omega), if_neg (by omega), ent_eq hi, Int.toNat_natCast]; exact t.wnx hi y
  have hy' : Valid (setNx st x y).es.length y := by rw [setNx_len]; exact hy
  obtain ⟨h2, w2, t2, x2, n2⟩ : ∃ h2, (if y = -1 then h1.write p 2 [.int .i64 x] else h1.write b (y.toNat * 3 + 1) [.int .i64 x]) = some h2 ∧ LS h2 p b (tie st x y) c ∧ ExtB [p, b] h1 h2 ∧ h2.next = h1.next := by
    unfold tie
    generalize setNx st x y = s at *
    unfold setPv
    rcases hy' with rfl | ⟨i, rfl, hi⟩
    · rw [if_pos rfl, if_pos rfl]; exact t1.wl x
    · rw [if_neg (by omega), if_neg (by omega), ent_eq hi, Int.toNat_natCast]; exact t1.wpv hi x
  refine ⟨h2, ?_, t2, x1.trans x2⟩
  have r0 := t.r0
  have r0' := t1.r0
  rw [setNx_len] at r0'
  rw [evCallT_eq (F := ir50) rfl rfl rfl]
  unfold ir50
  rw [bodyK_eq]
  rcases hx with rfl | ⟨i, rfl, hi⟩
  · rw [if_pos rfl] at w1
    rcases hy with rfl | ⟨j, rfl, hj⟩
    · rw [if_pos rfl] at w2
      simp only [enter_eq, ev_seq, seqK_norm, seqK_exit, seqK_ret, ev_reg, ev_cond, condK_true, condK_false, ev_block, blockK_norm, blockK_ret, blockK_exit, ev_loop, ev_skip, ev_exit, ev_ret, regK_cons, regK_nil, guard_none, guard_some, regG_true, regG_false, regO_some, op_mov, op_conv, op_bin, op_bsl, op_box, op_mks, op_s2b, op_pick, op_un, op_eq, op_len, op_ext, op_load, op_iaddr, op_slice, op_b2s, op_idxS, op_mx, op_mn, op_call, op_store, op_app, op_copy, args_eq, result_one', rv_loc, finish_norm, finish_ret, outK_some, keep_true, keep_false, keep_nil, p_bin, p_pick, p_un, p_eq, p_conv, evNew, pureK_some, newK_some, X.eval, set_none, set_some, List.map_cons, List.map_nil, List.getD_cons_zero, List.getD_cons_succ, List.getD_nil, List.set_cons_zero, List.set_cons_succ, binCV, unCV, isShift, intArithF_eq, shiftF_eq, wrapF_eq, intArith, shift, eqVal, bound, asNat_cast, cond_true, cond_false, BEq.rfl, beq_self_eq_true, evalParts, fillParts, AV.cells, AV.ofCells, XV.av, AV.xv, List.length_cons, List.length_nil, zeros, patch, setMany, List.nil_append, List.cons_append, Nat.ble, Nat.add_eq, Nat.zero_add, Nat.add_zero, Nat.reduceAdd, Nat.reduceMul, Nat.reduceSub, Nat.ble_eq, Nat.reduceLeDiff, Nat.reduceBEq, Int.reduceBEq, Int.reduceNeg, Bool.and_true, Bool.and_false, Bool.true_and, Bool.false_and, Bool.not_true, Bool.not_false, Bool.true_eq_false, Bool.false_eq_true, Int.reduceLT, Int.reduceLE, Int.reduceGT, Int.reduceGE, decide_true, decide_false, Bool.not_eq_true, loopN_norm, loopN_exit, tf, ft, ff, op_nilchk, p_nilchk, op_faddr, p_faddr, p_iaddr, p_load, r0, AV.ofCells, evEff, w1, w2, result, evResults]
    · rw [if_neg (by omega), Int.toNat_natCast] at w2
      have q : ((j : Int) == -1) = false := by simp only [beq_eq_false_iff_ne, ne_eq]; omega
      have m1 : Nat.blt j st.es.length = true := bltT hj
      simp only [enter_eq, ev_seq, seqK_norm, seqK_exit, seqK_ret, ev_reg, ev_cond, condK_true, condK_false, ev_block, blockK_norm, blockK_ret, blockK_exit, ev_loop, ev_skip, ev_exit, ev_ret, regK_cons, regK_nil, guard_none, guard_some, regG_true, regG_false, regO_some, op_mov, op_conv, op_bin, op_bsl, op_box, op_mks, op_s2b, op_pick, op_un, op_eq, op_len, op_ext, op_load, op_iaddr, op_slice, op_b2s, op_idxS, op_mx, op_mn, op_call, op_store, op_app, op_copy, args_eq, result_one', rv_loc, finish_norm, finish_ret, outK_some, keep_true, keep_false, keep_nil, p_bin, p_pick, p_un, p_eq, p_conv, evNew, pureK_some, newK_some, X.eval, set_none, set_some, List.map_cons, List.map_nil, List.getD_cons_zero, List.getD_cons_succ, List.getD_nil, List.set_cons_zero, List.set_cons_succ, binCV, unCV, isShift, intArithF_eq, shiftF_eq, wrapF_eq, intArith, shift, eqVal, bound, asNat_cast, cond_true, cond_false, BEq.rfl, beq_self_eq_true, evalParts, fillParts, AV.cells, AV.ofCells, XV.av, AV.xv, List.length_cons, List.length_nil, zeros, patch, setMany, List.nil_append, List.cons_append, Nat.ble, Nat.add_eq, Nat.zero_add, Nat.add_zero, Nat.reduceAdd, Nat.reduceMul, Nat.reduceSub, Nat.ble_eq, Nat.reduceLeDiff, Nat.reduceBEq, Int.reduceBEq, Int.reduceNeg, Bool.and_true, Bool.and_false, Bool.true_and, Bool.false_and, Bool.not_true, Bool.not_false, Bool.true_eq_false, Bool.false_eq_true, Int.reduceLT, Int.reduceLE, Int.reduceGT, Int.reduceGE, decide_true, decide_false, Bool.not_eq_true, loopN_norm, loopN_exit, tf, ft, ff, op_nilchk, p_nilchk, op_faddr, p_faddr, p_iaddr, p_load, r0, r0', m1, AV.ofCells, evEff, w1, w2, q, result, evResults]
  · rw [if_neg (by omega), Int.toNat_natCast] at w1
    have q1 : ((i : Int) == -1) = false := by simp only [beq_eq_false_iff_ne, ne_eq]; omega
    have m0 : Nat.blt i st.es.length = true := bltT hi
    rcases hy with rfl | ⟨j, rfl, hj⟩
    · rw [if_pos rfl] at w2
      simp only [enter_eq, ev_seq, seqK_norm, seqK_exit, seqK_ret, ev_reg, ev_cond, condK_true, condK_false, ev_block, blockK_norm, blockK_ret, blockK_exit, ev_loop, ev_skip, ev_exit, ev_ret, regK_cons, regK_nil, guard_none, guard_some, regG_true, regG_false, regO_some, op_mov, op_conv, op_bin, op_bsl, op_box, op_mks, op_s2b, op_pick, op_un, op_eq, op_len, op_ext, op_load, op_iaddr, op_slice, op_b2s, op_idxS, op_mx, op_mn, op_call, op_store, op_app, op_copy, args_eq, result_one', rv_loc, finish_norm, finish_ret, outK_some, keep_true, keep_false, keep_nil, p_bin, p_pick, p_un, p_eq, p_conv, evNew, pureK_some, newK_some, X.eval, set_none, set_some, List.map_cons, List.map_nil, List.getD_cons_zero, List.getD_cons_succ, List.getD_nil, List.set_cons_zero, List.set_cons_succ, binCV, unCV, isShift, intArithF_eq, shiftF_eq, wrapF_eq, intArith, shift, eqVal, bound, asNat_cast, cond_true, cond_false, BEq.rfl, beq_self_eq_true, evalParts, fillParts, AV.cells, AV.ofCells, XV.av, AV.xv, List.length_cons, List.length_nil, zeros, patch, setMany, List.nil_append, List.cons_append, Nat.ble, Nat.add_eq, Nat.zero_add, Nat.add_zero, Nat.reduceAdd, Nat.reduceMul, Nat.reduceSub, Nat.ble_eq, Nat.reduceLeDiff, Nat.reduceBEq, Int.reduceBEq, Int.reduceNeg, Bool.and_true, Bool.and_false, Bool.true_and, Bool.false_and, Bool.not_true, Bool.not_false, Bool.true_eq_false, Bool.false_eq_true, Int.reduceLT, Int.reduceLE, Int.reduceGT, Int.reduceGE, decide_true, decide_false, Bool.not_eq_true, loopN_norm, loopN_exit, tf, ft, ff, op_nilchk, p_nilchk, op_faddr, p_faddr, p_iaddr, p_load, r0, r0', m0, AV.ofCells, evEff, w1, w2, q1, result, evResults]
    · rw [if_neg (by omega), Int.toNat_natCast] at w2
      have q : ((j : Int) == -1) = false := by simp only [beq_eq_false_iff_ne, ne_eq]; omega
      have m1 : Nat.blt j st.es.length = true := bltT hj
      simp only [enter_eq, ev_seq, seqK_norm, seqK_exit, seqK_ret, ev_reg, ev_cond, condK_true, condK_false, ev_block, blockK_norm, blockK_ret, blockK_exit, ev_loop, ev_skip, ev_exit, ev_ret, regK_cons, regK_nil, guard_none, guard_some, regG_true, regG_false, regO_some, op_mov, op_conv, op_bin, op_bsl, op_box, op_mks, op_s2b, op_pick, op_un, op_eq, op_len, op_ext, op_load, op_iaddr, op_slice, op_b2s, op_idxS, op_mx, op_mn, op_call, op_store, op_app, op_copy, args_eq, result_one', rv_loc, finish_norm, finish_ret, outK_some, keep_true, keep_false, keep_nil, p_bin, p_pick, p_un, p_eq, p_conv, evNew, pureK_some, newK_some, X.eval, set_none, set_some, List.map_cons, List.map_nil, List.getD_cons_zero, List.getD_cons_succ, List.getD_nil, List.set_cons_zero, List.set_cons_succ, binCV, unCV, isShift, intArithF_eq, shiftF_eq, wrapF_eq, intArith, shift, eqVal, bound, asNat_cast, cond_true, cond_false, BEq.rfl, beq_self_eq_true, evalParts, fillParts, AV.cells, AV.ofCells, XV.av, AV.xv, List.length_cons, List.length_nil, zeros, patch, setMany, List.nil_append, List.cons_append, Nat.ble, Nat.add_eq, Nat.zero_add, Nat.add_zero, Nat.reduceAdd, Nat.reduceMul, Nat.reduceSub, Nat.ble_eq, Nat.reduceLeDiff, Nat.reduceBEq, Int.reduceBEq, Int.reduceNeg, Bool.and_true, Bool.and_false, Bool.true_and, Bool.false_and, Bool.not_true, Bool.not_false, Bool.true_eq_false, Bool.false_eq_true, Int.reduceLT, Int.reduceLE, Int.reduceGT, Int.reduceGE, decide_true, decide_false, Bool.not_eq_true, loopN_norm, loopN_exit, tf, ft, ff, op_nilchk, p_nilchk, op_faddr, p_faddr, p_iaddr, p_load, r0, r0', m0, m1, AV.ofCells, evEff, w1, w2, q, q1, result, evResults]

theorem has_raw (t : LS h p b st c) (x : Int) : evCallT table 18 N (d + 1) 49 [.c (.ptr p 0), .c (.int .i64 x)] h = some (.c (.bool (decide (0 ≤ x ∧ x < (st.es.length : Int)) && (ent st x).1)), h) := by
  have r0 := t.r0
  have ll : ∀ loc vals h', evPure loc (.c (.sl b 0 st.es.length (.ex st.es.length)) :: vals) h' (.len .sl (.val 0)) = some (.c (.int .i64 (st.es.length : Int))) := fun _ _ _ => rfl
  rw [evCallT_eq (F := ir49) rfl rfl rfl]
  unfold ir49
  rw [bodyK_eq]
  by_cases c1 : x ≥ 0
  · obtain ⟨i, rfl⟩ : ∃ i : Nat, x = (i : Int) := ⟨x.toNat, by omega⟩
    by_cases c2 : i < st.es.length
    · have v1 : decide ((i : Int) < (st.es.length : Int)) = true := ltNat c2
      have m1 : Nat.blt i st.es.length = true := bltT c2
      have ri := t.rin c2
      rw [ent_eq c2, decide_eq_true (show 0 ≤ (i : Int) ∧ (i : Int) < (st.es.length : Int) by omega)]
      simp only [enter_eq, ev_seq, seqK_norm, seqK_exit, seqK_ret, ev_reg, ev_cond, condK_true, condK_false, ev_block, blockK_norm, blockK_ret, blockK_exit, ev_loop, ev_skip, ev_exit, ev_ret, regK_cons, regK_nil, guard_none, guard_some, regG_true, regG_false, regO_some, op_mov, op_conv, op_bin, op_bsl, op_box, op_mks, op_s2b, op_pick, op_un, op_eq, op_len, op_ext, op_load, op_iaddr, op_slice, op_b2s, op_idxS, op_mx, op_mn, op_call, op_store, op_app, op_copy, args_eq, result_one', rv_loc, finish_norm, finish_ret, outK_some, keep_true, keep_false, keep_nil, p_bin, p_pick, p_un, p_eq, p_conv, evNew, pureK_some, newK_some, X.eval, set_none, set_some, List.map_cons, List.map_nil, List.getD_cons_zero, List.getD_cons_succ, List.getD_nil, List.set_cons_zero, List.set_cons_succ, binCV, unCV, isShift, intArithF_eq, shiftF_eq, wrapF_eq, intArith, shift, eqVal, bound, asNat_cast, cond_true, cond_false, BEq.rfl, beq_self_eq_true, evalParts, fillParts, AV.cells, AV.ofCells, XV.av, AV.xv, List.length_cons, List.length_nil, zeros, patch, setMany, List.nil_append, List.cons_append, Nat.ble, Nat.add_eq, Nat.zero_add, Nat.add_zero, Nat.reduceAdd, Nat.reduceMul, Nat.reduceSub, Nat.ble_eq, Nat.reduceLeDiff, Nat.reduceBEq, Int.reduceBEq, Int.reduceNeg, Bool.and_true, Bool.and_false, Bool.true_and, Bool.false_and, Bool.not_true, Bool.not_false, Bool.true_eq_false, Bool.false_eq_true, Int.reduceLT, Int.reduceLE, Int.reduceGT, Int.reduceGE, decide_true, decide_false, Bool.not_eq_true, loopN_norm, loopN_exit, tf, ft, ff, op_nilchk, p_nilchk, op_faddr, p_faddr, p_iaddr, p_load, r0, ll, m1, v1, ri, AV.ofCells, decide_eq_true c1]
    · have v1 : decide ((i : Int) < (st.es.length : Int)) = false := geNat (by omega)
      rw [decide_eq_false (show ¬ (0 ≤ (i : Int) ∧ (i : Int) < (st.es.length : Int)) by omega)]
      simp only [enter_eq, ev_seq, seqK_norm, seqK_exit, seqK_ret, ev_reg, ev_cond, condK_true, condK_false, ev_block, blockK_norm, blockK_ret, blockK_exit, ev_loop, ev_skip, ev_exit, ev_ret, regK_cons, regK_nil, guard_none, guard_some, regG_true, regG_false, regO_some, op_mov, op_conv, op_bin, op_bsl, op_box, op_mks, op_s2b, op_pick, op_un, op_eq, op_len, op_ext, op_load, op_iaddr, op_slice, op_b2s, op_idxS, op_mx, op_mn, op_call, op_store, op_app, op_copy, args_eq, result_one', rv_loc, finish_norm, finish_ret, outK_some, keep_true, keep_false, keep_nil, p_bin, p_pick, p_un, p_eq, p_conv, evNew, pureK_some, newK_some, X.eval, set_none, set_some, List.map_cons, List.map_nil, List.getD_cons_zero, List.getD_cons_succ, List.getD_nil, List.set_cons_zero, List.set_cons_succ, binCV, unCV, isShift, intArithF_eq, shiftF_eq, wrapF_eq, intArith, shift, eqVal, bound, asNat_cast, cond_true, cond_false, BEq.rfl, beq_self_eq_true, evalParts, fillParts, AV.cells, AV.ofCells, XV.av, AV.xv, List.length_cons, List.length_nil, zeros, patch, setMany, List.nil_append, List.cons_append, Nat.ble, Nat.add_eq, Nat.zero_add, Nat.add_zero, Nat.reduceAdd, Nat.reduceMul, Nat.reduceSub, Nat.ble_eq, Nat.reduceLeDiff, Nat.reduceBEq, Int.reduceBEq, Int.reduceNeg, Bool.and_true, Bool.and_false, Bool.true_and, Bool.false_and, Bool.not_true, Bool.not_false, Bool.true_eq_false, Bool.false_eq_true, Int.reduceLT, Int.reduceLE, Int.reduceGT, Int.reduceGE, decide_true, decide_false, Bool.not_eq_true, loopN_norm, loopN_exit, tf, ft, ff, op_nilchk, p_nilchk, op_faddr, p_faddr, p_iaddr, p_load, r0, ll, v1, AV.ofCells, decide_eq_true c1]
  · rw [decide_eq_false (show ¬ (0 ≤ x ∧ x < (st.es.length : Int)) by omega)]
    simp only [enter_eq, ev_seq, seqK_norm, seqK_exit, seqK_ret, ev_reg, ev_cond, condK_true, condK_false, ev_block, blockK_norm, blockK_ret, blockK_exit, ev_loop, ev_skip, ev_exit, ev_ret, regK_cons, regK_nil, guard_none, guard_some, regG_true, regG_false, regO_some, op_mov, op_conv, op_bin, op_bsl, op_box, op_mks, op_s2b, op_pick, op_un, op_eq, op_len, op_ext, op_load, op_iaddr, op_slice, op_b2s, op_idxS, op_mx, op_mn, op_call, op_store, op_app, op_copy, args_eq, result_one', rv_loc, finish_norm, finish_ret, outK_some, keep_true, keep_false, keep_nil, p_bin, p_pick, p_un, p_eq, p_conv, evNew, pureK_some, newK_some, X.eval, set_none, set_some, List.map_cons, List.map_nil, List.getD_cons_zero, List.getD_cons_succ, List.getD_nil, List.set_cons_zero, List.set_cons_succ, binCV, unCV, isShift, intArithF_eq, shiftF_eq, wrapF_eq, intArith, shift, eqVal, bound, asNat_cast, cond_true, cond_false, BEq.rfl, beq_self_eq_true, evalParts, fillParts, AV.cells, AV.ofCells, XV.av, AV.xv, List.length_cons, List.length_nil, zeros, patch, setMany, List.nil_append, List.cons_append, Nat.ble, Nat.add_eq, Nat.zero_add, Nat.add_zero, Nat.reduceAdd, Nat.reduceMul, Nat.reduceSub, Nat.ble_eq, Nat.reduceLeDiff, Nat.reduceBEq, Int.reduceBEq, Int.reduceNeg, Bool.and_true, Bool.and_false, Bool.true_and, Bool.false_and, Bool.not_true, Bool.not_false, Bool.true_eq_false, Bool.false_eq_true, Int.reduceLT, Int.reduceLE, Int.reduceGT, Int.reduceGE, decide_true, decide_false, Bool.not_eq_true, loopN_norm, loopN_exit, tf, ft, ff, decide_eq_false c1]
theorem may_raw (t : LS h p b st c) (x : Int) : evCallT table 18 N (d + 1) 51 [.c (.ptr p 0), .c (.int .i64 x)] h = some (.c (.bool (decide (0 ≤ x ∧ x < (st.es.length : Int)) && !(ent st x).1)), h) := by
  have r0 := t.r0
  have ll : ∀ loc vals h', evPure loc (.c (.sl b 0 st.es.length (.ex st.es.length)) :: vals) h' (.len .sl (.val 0)) = some (.c (.int .i64 (st.es.length : Int))) := fun _ _ _ => rfl
  rw [evCallT_eq (F := ir51) rfl rfl rfl]
  unfold ir51
  rw [bodyK_eq]
  by_cases c1 : x ≥ 0
  · obtain ⟨i, rfl⟩ : ∃ i : Nat, x = (i : Int) := ⟨x.toNat, by omega⟩
    by_cases c2 : i < st.es.length
    · have v1 : decide ((i : Int) < (st.es.length : Int)) = true := ltNat c2
      have m1 : Nat.blt i st.es.length = true := bltT c2
      have ri := t.rin c2
      rw [ent_eq c2, decide_eq_true (show 0 ≤ (i : Int) ∧ (i : Int) < (st.es.length : Int) by omega)]
      simp only [enter_eq, ev_seq, seqK_norm, seqK_exit, seqK_ret, ev_reg, ev_cond, condK_true, condK_false, ev_block, blockK_norm, blockK_ret, blockK_exit, ev_loop, ev_skip, ev_exit, ev_ret, regK_cons, regK_nil, guard_none, guard_some, regG_true, regG_false, regO_some, op_mov, op_conv, op_bin, op_bsl, op_box, op_mks, op_s2b, op_pick, op_un, op_eq, op_len, op_ext, op_load, op_iaddr, op_slice, op_b2s, op_idxS, op_mx, op_mn, op_call, op_store, op_app, op_copy, args_eq, result_one', rv_loc, finish_norm, finish_ret, outK_some, keep_true, keep_false, keep_nil, p_bin, p_pick, p_un, p_eq, p_conv, evNew, pureK_some, newK_some, X.eval, set_none, set_some, List.map_cons, List.map_nil, List.getD_cons_zero, List.getD_cons_succ, List.getD_nil, List.set_cons_zero, List.set_cons_succ, binCV, unCV, isShift, intArithF_eq, shiftF_eq, wrapF_eq, intArith, shift, eqVal, bound, asNat_cast, cond_true, cond_false, BEq.rfl, beq_self_eq_true, evalParts, fillParts, AV.cells, AV.ofCells, XV.av, AV.xv, List.length_cons, List.length_nil, zeros, patch, setMany, List.nil_append, List.cons_append, Nat.ble, Nat.add_eq, Nat.zero_add, Nat.add_zero, Nat.reduceAdd, Nat.reduceMul, Nat.reduceSub, Nat.ble_eq, Nat.reduceLeDiff, Nat.reduceBEq, Int.reduceBEq, Int.reduceNeg, Bool.and_true, Bool.and_false, Bool.true_and, Bool.false_and, Bool.not_true, Bool.not_false, Bool.true_eq_false, Bool.false_eq_true, Int.reduceLT, Int.reduceLE, Int.reduceGT, Int.reduceGE, decide_true, decide_false, Bool.not_eq_true, loopN_norm, loopN_exit, tf, ft, ff, op_nilchk, p_nilchk, op_faddr, p_faddr, p_iaddr, p_load, r0, ll, m1, v1, ri, AV.ofCells, decide_eq_true c1]
    · have v1 : decide ((i : Int) < (st.es.length : Int)) = false := geNat (by omega)
      rw [decide_eq_false (show ¬ (0 ≤ (i : Int) ∧ (i : Int) < (st.es.length : Int)) by omega)]
      simp only [enter_eq, ev_seq, seqK_norm, seqK_exit, seqK_ret, ev_reg, ev_cond, condK_true, condK_false, ev_block, blockK_norm, blockK_ret, blockK_exit, ev_loop, ev_skip, ev_exit, ev_ret, regK_cons, regK_nil, guard_none, guard_some, regG_true, regG_false, regO_some, op_mov, op_conv, op_bin, op_bsl, op_box, op_mks, op_s2b, op_pick, op_un, op_eq, op_len, op_ext, op_load, op_iaddr, op_slice, op_b2s, op_idxS, op_mx, op_mn, op_call, op_store, op_app, op_copy, args_eq, result_one', rv_loc, finish_norm, finish_ret, outK_some, keep_true, keep_false, keep_nil, p_bin, p_pick, p_un, p_eq, p_conv, evNew, pureK_some, newK_some, X.eval, set_none, set_some, List.map_cons, List.map_nil, List.getD_cons_zero, List.getD_cons_succ, List.getD_nil, List.set_cons_zero, List.set_cons_succ, binCV, unCV, isShift, intArithF_eq, shiftF_eq, wrapF_eq, intArith, shift, eqVal, bound, asNat_cast, cond_true, cond_false, BEq.rfl, beq_self_eq_true, evalParts, fillParts, AV.cells, AV.ofCells, XV.av, AV.xv, List.length_cons, List.length_nil, zeros, patch, setMany, List.nil_append, List.cons_append, Nat.ble, Nat.add_eq, Nat.zero_add, Nat.add_zero, Nat.reduceAdd, Nat.reduceMul, Nat.reduceSub, Nat.ble_eq, Nat.reduceLeDiff, Nat.reduceBEq, Int.reduceBEq, Int.reduceNeg, Bool.and_true, Bool.and_false, Bool.true_and, Bool.false_and, Bool.not_true, Bool.not_false, Bool.true_eq_false, Bool.false_eq_true, Int.reduceLT, Int.reduceLE, Int.reduceGT, Int.reduceGE, decide_true, decide_false, Bool.not_eq_true, loopN_norm, loopN_exit, tf, ft, ff, op_nilchk, p_nilchk, op_faddr, p_faddr, p_iaddr, p_load, r0, ll, v1, AV.ofCells, decide_eq_true c1]
  · rw [decide_eq_false (show ¬ (0 ≤ x ∧ x < (st.es.length : Int)) by omega)]
    simp only [enter_eq, ev_seq, seqK_norm, seqK_exit, seqK_ret, ev_reg, ev_cond, condK_true, condK_false, ev_block, blockK_norm, blockK_ret, blockK_exit, ev_loop, ev_skip, ev_exit, ev_ret, regK_cons, regK_nil, guard_none, guard_some, regG_true, regG_false, regO_some, op_mov, op_conv, op_bin, op_bsl, op_box, op_mks, op_s2b, op_pick, op_un, op_eq, op_len, op_ext, op_load, op_iaddr, op_slice, op_b2s, op_idxS, op_mx, op_mn, op_call, op_store, op_app, op_copy, args_eq, result_one', rv_loc, finish_norm, finish_ret, outK_some, keep_true, keep_false, keep_nil, p_bin, p_pick, p_un, p_eq, p_conv, evNew, pureK_some, newK_some, X.eval, set_none, set_some, List.map_cons, List.map_nil, List.getD_cons_zero, List.getD_cons_succ, List.getD_nil, List.set_cons_zero, List.set_cons_succ, binCV, unCV, isShift, intArithF_eq, shiftF_eq, wrapF_eq, intArith, shift, eqVal, bound, asNat_cast, cond_true, cond_false, BEq.rfl, beq_self_eq_true, evalParts, fillParts, AV.cells, AV.ofCells, XV.av, AV.xv, List.length_cons, List.length_nil, zeros, patch, setMany, List.nil_append, List.cons_append, Nat.ble, Nat.add_eq, Nat.zero_add, Nat.add_zero, Nat.reduceAdd, Nat.reduceMul, Nat.reduceSub, Nat.ble_eq, Nat.reduceLeDiff, Nat.reduceBEq, Int.reduceBEq, Int.reduceNeg, Bool.and_true, Bool.and_false, Bool.true_and, Bool.false_and, Bool.not_true, Bool.not_false, Bool.true_eq_false, Bool.false_eq_true, Int.reduceLT, Int.reduceLE, Int.reduceGT, Int.reduceGE, decide_true, decide_false, Bool.not_eq_true, loopN_norm, loopN_exit, tf, ft, ff, decide_eq_false c1]

theorem first_raw (t : LS h p b st c) : evCallT table 18 N (d + 1) 37 [.c (.ptr p 0)] h = some (.c (.int .i64 st.f), h) := by
  have r := t.r1
  rw [evCallT_eq (F := ir37) rfl rfl rfl]
  unfold ir37
  rw [bodyK_eq]
  simp only [enter_eq, ev_seq, seqK_norm, seqK_exit, seqK_ret, ev_reg, ev_cond, condK_true, condK_false, ev_block, blockK_norm, blockK_ret, blockK_exit, ev_loop, ev_skip, ev_exit, ev_ret, regK_cons, regK_nil, guard_none, guard_some, regG_true, regG_false, regO_some, op_mov, op_conv, op_bin, op_bsl, op_box, op_mks, op_s2b, op_pick, op_un, op_eq, op_len, op_ext, op_load, op_iaddr, op_slice, op_b2s, op_idxS, op_mx, op_mn, op_call, op_store, op_app, op_copy, args_eq, result_one', rv_loc, finish_norm, finish_ret, outK_some, keep_true, keep_false, keep_nil, p_bin, p_pick, p_un, p_eq, p_conv, evNew, pureK_some, newK_some, X.eval, set_none, set_some, List.map_cons, List.map_nil, List.getD_cons_zero, List.getD_cons_succ, List.getD_nil, List.set_cons_zero, List.set_cons_succ, binCV, unCV, isShift, intArithF_eq, shiftF_eq, wrapF_eq, intArith, shift, eqVal, bound, asNat_cast, cond_true, cond_false, BEq.rfl, beq_self_eq_true, evalParts, fillParts, AV.cells, AV.ofCells, XV.av, AV.xv, List.length_cons, List.length_nil, zeros, patch, setMany, List.nil_append, List.cons_append, Nat.ble, Nat.add_eq, Nat.zero_add, Nat.add_zero, Nat.reduceAdd, Nat.reduceMul, Nat.reduceSub, Nat.ble_eq, Nat.reduceLeDiff, Nat.reduceBEq, Int.reduceBEq, Int.reduceNeg, Bool.and_true, Bool.and_false, Bool.true_and, Bool.false_and, Bool.not_true, Bool.not_false, Bool.true_eq_false, Bool.false_eq_true, Int.reduceLT, Int.reduceLE, Int.reduceGT, Int.reduceGE, decide_true, decide_false, Bool.not_eq_true, loopN_norm, loopN_exit, tf, ft, ff, op_nilchk, p_nilchk, op_faddr, p_faddr, p_load, r, AV.ofCells]
theorem len_raw (t : LS h p b st c) : evCallT table 18 N (d + 1) 36 [.c (.ptr p 0)] h = some (.c (.int .i64 c), h) := by
  have r := t.r3
  rw [evCallT_eq (F := ir36) rfl rfl rfl]
  unfold ir36
  rw [bodyK_eq]
  simp only [enter_eq, ev_seq, seqK_norm, seqK_exit, seqK_ret, ev_reg, ev_cond, condK_true, condK_false, ev_block, blockK_norm, blockK_ret, blockK_exit, ev_loop, ev_skip, ev_exit, ev_ret, regK_cons, regK_nil, guard_none, guard_some, regG_true, regG_false, regO_some, op_mov, op_conv, op_bin, op_bsl, op_box, op_mks, op_s2b, op_pick, op_un, op_eq, op_len, op_ext, op_load, op_iaddr, op_slice, op_b2s, op_idxS, op_mx, op_mn, op_call, op_store, op_app, op_copy, args_eq, result_one', rv_loc, finish_norm, finish_ret, outK_some, keep_true, keep_false, keep_nil, p_bin, p_pick, p_un, p_eq, p_conv, evNew, pureK_some, newK_some, X.eval, set_none, set_some, List.map_cons, List.map_nil, List.getD_cons_zero, List.getD_cons_succ, List.getD_nil, List.set_cons_zero, List.set_cons_succ, binCV, unCV, isShift, intArithF_eq, shiftF_eq, wrapF_eq, intArith, shift, eqVal, bound, asNat_cast, cond_true, cond_false, BEq.rfl, beq_self_eq_true, evalParts, fillParts, AV.cells, AV.ofCells, XV.av, AV.xv, List.length_cons, List.length_nil, zeros, patch, setMany, List.nil_append, List.cons_append, Nat.ble, Nat.add_eq, Nat.zero_add, Nat.add_zero, Nat.reduceAdd, Nat.reduceMul, Nat.reduceSub, Nat.ble_eq, Nat.reduceLeDiff, Nat.reduceBEq, Int.reduceBEq, Int.reduceNeg, Bool.and_true, Bool.and_false, Bool.true_and, Bool.false_and, Bool.not_true, Bool.not_false, Bool.true_eq_false, Bool.false_eq_true, Int.reduceLT, Int.reduceLE, Int.reduceGT, Int.reduceGE, decide_true, decide_false, Bool.not_eq_true, loopN_norm, loopN_exit, tf, ft, ff, op_nilchk, p_nilchk, op_faddr, p_faddr, p_load, r, AV.ofCells]
end
end Lav
