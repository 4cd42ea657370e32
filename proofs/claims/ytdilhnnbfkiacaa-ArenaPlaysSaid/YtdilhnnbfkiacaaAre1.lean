/-
  Layer 10: what the program's arena does.
-/
import Derived.Test.YtdilhnnbfkiacaaAList3
import Derived.Test.YtdilhnnbfkiacaaATable3
import Derived.Test.YtdilhnnbfkiacaaAre0
import Derived.Test.YtdilhnnbfkiacaaFwO
set_option maxRecDepth 100000
set_option linter.unusedSimpArgs false
namespace Lav
open Go (IntKind)

theorem bneI {a b : Int} : (a != b) = !(a == b) := rfl
theorem eqq (a : Int) : (a == a) = true := by simp

theorem nodup_le : ∀ (n : Nat) (o : List Int), o.Nodup → (∀ x ∈ o, 0 ≤ x ∧ x < (n : Int)) → o.length ≤ n
  | 0, o, _, h => by
    cases o with
    | nil => simp
    | cons a l => have := h a (by simp); omega
  | n + 1, o, nd, h => by
    by_cases hm : (n : Int) ∈ o
    · have := nodup_le n (o.erase (n : Int)) (nd.erase _) fun x hx => by
        have h1 := (nd.mem_erase_iff).1 hx
        have := h x h1.2; have := h1.1; omega
      rw [List.length_erase_of_mem hm] at this
      omega
    · have := nodup_le n o nd fun x hx => by
        have := h x hx
        have : x ≠ (n : Int) := fun e => hm (e ▸ hx)
        omega
      omega

/-- Where an arena's parts lie. -/
structure AP where
  x : CV
  q : Nat
  lb : Nat
  r : Nat
  tb : Nat
def own (p : Nat) (a : AP) : List Nat := p :: a.q :: a.lb :: a.r :: a.tb :: (blk a.x).toList

structure Ra (h : Heap) (p : Nat) (a : AP) (fs : List Fm) (o : List Int) (M : Nat → Option Int) (c : Nat) : Prop where
  box : h.get p = some (.cells [a.x, .ptr a.q 0, .ptr a.r 0])
  pn : p < h.next
  fr : Mine 5 Heap.empty h a.x fs.length (frsC fs)
  ll : LL h a.q a.lb 32 o
  dt : DT h a.r a.tb 96 M c
  nd : [p, a.q, a.lb, a.r, a.tb].Nodup
  xn : ∀ k, blk a.x = some k → k ∉ [p, a.q, a.lb, a.r, a.tb]

theorem DT.rn {h : Heap} {p b n : Nat} {M : Nat → Option Int} {c : Nat} (t : DT h p b n M c) : p < h.next ∧ b < h.next := by
  obtain ⟨⟨ss, _, tb, _⟩, _⟩ := t
  exact ⟨tb.pn, tb.bn⟩
theorem Mine.old {sz : Nat} {h0 h : Heap} {x : CV} {n : Nat} {l : List CV} (m : Mine sz h0 h x n l) : ∀ k, blk x = some k → k < h.next := by
  intro k hk
  obtain ⟨_, ⟨rfl, _⟩ | ⟨i, rfl, _, _, h1⟩⟩ := m
  · cases hk
  · simp [blk] at hk; omega

section
variable {N d : Nat} {h : Heap} {p : Nat} {a : AP} {fs : List Fm} {o : List Int} {M : Nat → Option Int} {c : Nat}

theorem mem_own {k : Nat} : k ∈ own p a ↔ k = p ∨ k = a.q ∨ k = a.lb ∨ k = a.r ∨ k = a.tb ∨ blk a.x = some k := by
  simp [own, Option.mem_toList]
theorem Ra.old (A : Ra h p a fs o M c) : ∀ k ∈ own p a, k < h.next := by
  intro k hk
  rcases mem_own.1 hk with rfl | rfl | rfl | rfl | rfl | e
  · exact A.pn
  · exact A.ll.pn
  · exact A.ll.bn
  · exact A.dt.rn.1
  · exact A.dt.rn.2
  · exact A.fr.old k e
theorem Ra.ext {S : List Nat} {h' : Heap} (A : Ra h p a fs o M c) (e : ExtB S h h') (hd : ∀ k ∈ own p a, k ∉ S) : Ra h' p a fs o M c :=
  ⟨e.at_ A.box A.pn (hd p (mem_own.2 (.inl rfl))), Nat.lt_of_lt_of_le A.pn e.1, A.fr.keepB e fun k hk => hd k (mem_own.2 (by simp [hk])),
    A.ll.ext e (hd _ (mem_own.2 (by simp))) (hd _ (mem_own.2 (by simp))), A.dt.ext e (hd _ (mem_own.2 (by simp))) (hd _ (mem_own.2 (by simp))), A.nd, A.xn⟩
theorem Ra.ext' {h' : Heap} (A : Ra h p a fs o M c) (e : Ext h h') : Ra h' p a fs o M c := A.ext (e.b []) (by simp)
theorem ExtB.own {S : List Nat} {h' : Heap} (e : ExtB S h h') (hs : ∀ k ∈ S, k ∈ own p a) : ExtB (Lav.own p a) h h' := e.mono hs

theorem Ra.r0 (A : Ra h p a fs o M c) : h.read p 0 1 = some [a.x] := read_cells A.box rfl
theorem Ra.r1 (A : Ra h p a fs o M c) : h.read p 1 1 = some [.ptr a.q 0] := read_cells A.box rfl
theorem Ra.r2 (A : Ra h p a fs o M c) : h.read p 2 1 = some [.ptr a.r 0] := read_cells A.box rfl
theorem Ra.lx (A : Ra h p a fs o M c) : ∀ loc vals H, evPure loc (.c a.x :: vals) H (.len .sl (.val 0)) = some (.c (.int .i64 (fs.length : Int))) := fun _ _ _ => A.fr.len rfl
theorem Ra.at_ (A : Ra h p a fs o M c) {i : Nat} (hi : i < fs.length) : ∃ fb, a.x = .sl fb 0 fs.length (.dy 5) ∧ fb < h.next ∧ h.get fb = some (.cells (frsC fs)) := by
  obtain ⟨_, ⟨_, h0⟩ | ⟨fb, e, hg, _, hf⟩⟩ := A.fr
  · omega
  · exact ⟨fb, e, hf, hg⟩

structure At (h : Heap) (fb i : Nat) (f : Fm) : Prop where
  s : h.read fb (i * 5) 1 = some [.int .i64 f.st]
  g : h.read fb (i * 5 + 1) 1 = some [.int .i64 f.pg]
  n : h.read fb (i * 5 + 2) 1 = some [.int .i64 f.pn]
  d : h.read fb (i * 5 + 3) 1 = some [.bool f.dt]
  y : h.read fb (i * 5 + 4) 1 = some [f.y]
  all : h.read fb (i * 5) 5 = some (frC f)
theorem at_of {fb : Nat} (hg : h.get fb = some (.cells (frsC fs))) {i : Nat} (hi : i < fs.length) : At h fb i fs[i] := by
  refine ⟨read_cells hg ((frsC_at hi (k := 0) (by omega)).trans rfl), read_cells hg ((frsC_at hi (k := 1) (by omega)).trans rfl), read_cells hg ((frsC_at hi (k := 2) (by omega)).trans rfl), read_cells hg ((frsC_at hi (k := 3) (by omega)).trans rfl), read_cells hg ((frsC_at hi (k := 4) (by omega)).trans rfl), ?_⟩
  have hle : (i + 1) * 5 ≤ fs.length * 5 := Nat.mul_le_mul_right _ hi
  rw [read_part hg (by rw [frsC_len]; omega), frsC_drop fs i hi]
  rfl

/-- A frame anew. -/
theorem Ra.put (A : Ra h p a fs o M c) {fb : Nat} (hx : a.x = .sl fb 0 fs.length (.dy 5)) (gs : List Fm) (hl : gs.length = fs.length) : Ra (h.put fb (.cells (frsC gs))) p a gs o M c ∧ ExtB (own p a) h (h.put fb (.cells (frsC gs))) := by
  have hb : blk a.x = some fb := by rw [hx]; rfl
  have hn := A.xn fb hb
  have e : ExtB [fb] h (h.put fb (.cells (frsC gs))) := (ExtB.refl _ _).put (.inr (by simp)) _
  simp at hn
  obtain ⟨n1, n2, n3, n4, n5⟩ := hn
  refine ⟨⟨e.at_ A.box A.pn (by simpa using fun h => n1 h.symm), A.pn, ?_, A.ll.ext e (by simpa using fun h => n2 h.symm) (by simpa using fun h => n3 h.symm), A.dt.ext e (by simpa using fun h => n4 h.symm) (by simpa using fun h => n5 h.symm), A.nd, A.xn⟩, e.mono fun k hk => mem_own.2 (by simp at hk; simp [hk, hb])⟩
  refine ⟨frsC_len gs, .inr ⟨fb, by rw [hx, hl], get_put_at, Nat.zero_le _, A.fr.old fb hb⟩⟩
theorem Ra.store (A : Ra h p a fs o M c) {i : Nat} (hi : i < fs.length) {fb : Nat} (hx : a.x = .sl fb 0 fs.length (.dy 5)) (g : Fm) : ∃ h', h.write fb (i * 5) (frC g) = some h' ∧ Ra h' p a (fs.set i g) o M c ∧ ExtB (own p a) h h' ∧ h'.next = h.next := by
  obtain ⟨fb', hx', hf, hg⟩ := A.at_ hi
  have : fb' = fb := by rw [hx] at hx'; cases hx'; rfl
  subst this
  have hle : (i + 1) * 5 ≤ fs.length * 5 := Nat.mul_le_mul_right _ hi
  have w := write_many (o := i * 5) (vs := frC g) hg (by rw [frsC_len]; simp; omega)
  have e : (frC g).length = 5 := rfl
  rw [e, frsC_put fs i hi g] at w
  obtain ⟨A', e'⟩ := A.put hx (fs.set i g) (by simp)
  exact ⟨_, w, A', e', rfl⟩
theorem Ra.poke (A : Ra h p a fs o M c) {i : Nat} (hi : i < fs.length) {fb : Nat} (hx : a.x = .sl fb 0 fs.length (.dy 5)) {k : Nat} (hk : k < 5) {v : CV} {g : Fm} (hg : frC g = (frC fs[i]).set k v) : ∃ h', h.write fb (i * 5 + k) [v] = some h' ∧ Ra h' p a (fs.set i g) o M c ∧ ExtB (own p a) h h' ∧ h'.next = h.next := by
  obtain ⟨fb', hx', hf, hgt⟩ := A.at_ hi
  have : fb' = fb := by rw [hx] at hx'; cases hx'; rfl
  subst this
  have hle : (i + 1) * 5 ≤ fs.length * 5 := Nat.mul_le_mul_right _ hi
  have w := write_one (o := i * 5 + k) (v := v) hgt (by rw [frsC_len]; omega)
  rw [frsC_set hi hk hg] at w
  obtain ⟨A', e'⟩ := A.put hx (fs.set i g) (by simp)
  exact ⟨_, w, A', e', rfl⟩

/-- The list's and the table's steps. -/
theorem Ra.list {h' : Heap} {o' : List Int} (A : Ra h p a fs o M c) (l : LL h' a.q a.lb 32 o') (e : ExtB [a.q, a.lb] h h') : Ra h' p a fs o' M c ∧ ExtB (own p a) h h' := by
  have n1 := A.nd
  simp at n1
  obtain ⟨⟨p1, p2, p3, p4⟩, ⟨q1, q2, q3⟩, ⟨l1, l2⟩, r1⟩ := n1
  refine ⟨⟨e.at_ A.box A.pn (by simp; exact ⟨p1, p2⟩), Nat.lt_of_lt_of_le A.pn e.1, A.fr.keepB e fun k hk => ?_, l, A.dt.ext e (by simp; exact ⟨fun h => q2 h.symm, fun h => l1 h.symm⟩) (by simp; exact ⟨fun h => q3 h.symm, fun h => l2 h.symm⟩), A.nd, A.xn⟩, e.mono fun k hk => mem_own.2 (by simp at hk; rcases hk with h | h <;> simp [h])⟩
  have := A.xn k hk
  simp at this
  simp [this]
theorem Ra.tab {h' : Heap} {M' : Nat → Option Int} {c' : Nat} (A : Ra h p a fs o M c) (l : DT h' a.r a.tb 96 M' c') (e : ExtB [a.r, a.tb] h h') : Ra h' p a fs o M' c' ∧ ExtB (own p a) h h' := by
  have n1 := A.nd
  simp at n1
  obtain ⟨⟨p1, p2, p3, p4⟩, ⟨q1, q2, q3⟩, ⟨l1, l2⟩, r1⟩ := n1
  refine ⟨⟨e.at_ A.box A.pn (by simp; exact ⟨p3, p4⟩), Nat.lt_of_lt_of_le A.pn e.1, A.fr.keepB e fun k hk => ?_, A.ll.ext e (by simp; exact ⟨q2, q3⟩) (by simp; exact ⟨l1, l2⟩), l, A.nd, A.xn⟩, e.mono fun k hk => mem_own.2 (by simp at hk; rcases hk with h | h <;> simp [h])⟩
  have := A.xn k hk
  simp at this
  simp [this]

/-- An arena as it may be. -/
structure AH (h : Heap) (p : Nat) (a : AP) (fs : List Fm) (o : List Int) (M : Nat → Option Int) : Prop where
  ar : Ra h p a fs o M (cu fs)
  sm : fs.length ≤ 32
  fo : FO fs o
  fm : FM fs M
  ok : OKs fs
theorem AH.ext {S : List Nat} {h' : Heap} (A : AH h p a fs o M) (e : ExtB S h h') (hd : ∀ k ∈ own p a, k ∉ S) : AH h' p a fs o M := ⟨A.ar.ext e hd, A.sm, A.fo, A.fm, A.ok⟩
theorem AH.ext' {h' : Heap} (A : AH h p a fs o M) (e : Ext h h') : AH h' p a fs o M := ⟨A.ar.ext' e, A.sm, A.fo, A.fm, A.ok⟩
theorem AH.len (A : AH h p a fs o M) : o.length ≤ 32 := nodup_le 32 o A.ar.ll.nd A.ar.ll.lt

theorem used_yes (A : Ra h p a fs o M c) {i : Nat} (hi : i < fs.length) (h1 : fs[i].st = 1) : evCallT table 18 N (d + 1) 40 [.c (.ptr p 0), .c (.int .i64 (i : Int))] h = some (.c (.int .i64 0), h) := by
  obtain ⟨fb, hx, hf, hg⟩ := A.at_ hi
  have a1 := (at_of hg hi).s
  rw [h1] at a1
  have c1 : decide ((i : Int) < 0) = false := decide_eq_false (by omega)
  have c2 : decide ((i : Int) ≥ (fs.length : Int)) = false := decide_eq_false (by omega)
  have m1 : Nat.blt i fs.length = true := bltT hi
  have r0 := A.r0
  have lx := A.lx
  rw [hx] at r0 lx
  rw [evCallT_eq (F := ir40) rfl rfl rfl]
  unfold ir40
  rw [bodyK_eq]
  simp only [enter_eq, ev_seq, seqK_norm, seqK_exit, seqK_ret, ev_reg, ev_cond, condK_true, condK_false, ev_block, blockK_norm, blockK_ret, blockK_exit, ev_loop, ev_skip, ev_exit, ev_ret, regK_cons, regK_nil, guard_none, guard_some, regG_true, regG_false, regO_some, op_mov, op_conv, op_bin, op_bsl, op_box, op_mks, op_s2b, op_pick, op_un, op_eq, op_len, op_ext, op_load, op_iaddr, op_slice, op_b2s, op_idxS, op_mx, op_mn, op_call, op_store, op_app, op_copy, args_eq, result_one', rv_loc, finish_norm, finish_ret, outK_some, keep_true, keep_false, keep_nil, p_bin, p_pick, p_un, p_eq, p_conv, evNew, pureK_some, newK_some, X.eval, set_none, set_some, List.map_cons, List.map_nil, List.getD_cons_zero, List.getD_cons_succ, List.getD_nil, List.set_cons_zero, List.set_cons_succ, binCV, unCV, isShift, intArithF_eq, shiftF_eq, wrapF_eq, intArith, shift, eqVal, bound, asNat_cast, cond_true, cond_false, BEq.rfl, beq_self_eq_true, evalParts, fillParts, AV.cells, AV.ofCells, XV.av, AV.xv, List.length_cons, List.length_nil, zeros, patch, setMany, List.nil_append, List.cons_append, Nat.ble, Nat.add_eq, Nat.zero_add, Nat.add_zero, Nat.reduceAdd, Nat.reduceMul, Nat.reduceSub, Nat.ble_eq, Nat.reduceLeDiff, Nat.reduceBEq, Int.reduceBEq, Int.reduceNeg, Bool.and_true, Bool.and_false, Bool.true_and, Bool.false_and, Bool.not_true, Bool.not_false, Bool.true_eq_false, Bool.false_eq_true, Int.reduceLT, Int.reduceLE, Int.reduceGT, Int.reduceGE, decide_true, decide_false, Bool.not_eq_true, loopN_norm, loopN_exit, tf, ft, ff, op_nilchk, p_nilchk, op_faddr, p_faddr, p_load, r0, AV.ofCells, lx, c1, c2, p_iaddr, m1, a1, bneI, Nat.zero_add]

theorem used_no (A : Ra h p a fs o M c) {f : Int} (hf : ¬ ∃ (i : Nat) (g : Fm), f = (i : Int) ∧ fs[i]? = some g ∧ g.st = 1) : evCallT table 18 N (d + 1) 40 [.c (.ptr p 0), .c (.int .i64 f)] h = some (.c (.int .i64 2), h) := by
  have r0 := A.r0
  have lx := A.lx
  rw [evCallT_eq (F := ir40) rfl rfl rfl]
  unfold ir40
  rw [bodyK_eq]
  by_cases c1 : f < 0
  · have v1 : decide (f < 0) = true := decide_eq_true c1
    simp only [enter_eq, ev_seq, seqK_norm, seqK_exit, seqK_ret, ev_reg, ev_cond, condK_true, condK_false, ev_block, blockK_norm, blockK_ret, blockK_exit, ev_loop, ev_skip, ev_exit, ev_ret, regK_cons, regK_nil, guard_none, guard_some, regG_true, regG_false, regO_some, op_mov, op_conv, op_bin, op_bsl, op_box, op_mks, op_s2b, op_pick, op_un, op_eq, op_len, op_ext, op_load, op_iaddr, op_slice, op_b2s, op_idxS, op_mx, op_mn, op_call, op_store, op_app, op_copy, args_eq, result_one', rv_loc, finish_norm, finish_ret, outK_some, keep_true, keep_false, keep_nil, p_bin, p_pick, p_un, p_eq, p_conv, evNew, pureK_some, newK_some, X.eval, set_none, set_some, List.map_cons, List.map_nil, List.getD_cons_zero, List.getD_cons_succ, List.getD_nil, List.set_cons_zero, List.set_cons_succ, binCV, unCV, isShift, intArithF_eq, shiftF_eq, wrapF_eq, intArith, shift, eqVal, bound, asNat_cast, cond_true, cond_false, BEq.rfl, beq_self_eq_true, evalParts, fillParts, AV.cells, AV.ofCells, XV.av, AV.xv, List.length_cons, List.length_nil, zeros, patch, setMany, List.nil_append, List.cons_append, Nat.ble, Nat.add_eq, Nat.zero_add, Nat.add_zero, Nat.reduceAdd, Nat.reduceMul, Nat.reduceSub, Nat.ble_eq, Nat.reduceLeDiff, Nat.reduceBEq, Int.reduceBEq, Int.reduceNeg, Bool.and_true, Bool.and_false, Bool.true_and, Bool.false_and, Bool.not_true, Bool.not_false, Bool.true_eq_false, Bool.false_eq_true, Int.reduceLT, Int.reduceLE, Int.reduceGT, Int.reduceGE, decide_true, decide_false, Bool.not_eq_true, loopN_norm, loopN_exit, tf, ft, ff, v1]
  have v1 : decide (f < 0) = false := decide_eq_false c1
  obtain ⟨i, rfl⟩ : ∃ i : Nat, f = (i : Int) := ⟨f.toNat, by omega⟩
  by_cases c2 : fs.length ≤ i
  · have v2 : decide ((i : Int) ≥ (fs.length : Int)) = true := decide_eq_true (by omega)
    simp only [enter_eq, ev_seq, seqK_norm, seqK_exit, seqK_ret, ev_reg, ev_cond, condK_true, condK_false, ev_block, blockK_norm, blockK_ret, blockK_exit, ev_loop, ev_skip, ev_exit, ev_ret, regK_cons, regK_nil, guard_none, guard_some, regG_true, regG_false, regO_some, op_mov, op_conv, op_bin, op_bsl, op_box, op_mks, op_s2b, op_pick, op_un, op_eq, op_len, op_ext, op_load, op_iaddr, op_slice, op_b2s, op_idxS, op_mx, op_mn, op_call, op_store, op_app, op_copy, args_eq, result_one', rv_loc, finish_norm, finish_ret, outK_some, keep_true, keep_false, keep_nil, p_bin, p_pick, p_un, p_eq, p_conv, evNew, pureK_some, newK_some, X.eval, set_none, set_some, List.map_cons, List.map_nil, List.getD_cons_zero, List.getD_cons_succ, List.getD_nil, List.set_cons_zero, List.set_cons_succ, binCV, unCV, isShift, intArithF_eq, shiftF_eq, wrapF_eq, intArith, shift, eqVal, bound, asNat_cast, cond_true, cond_false, BEq.rfl, beq_self_eq_true, evalParts, fillParts, AV.cells, AV.ofCells, XV.av, AV.xv, List.length_cons, List.length_nil, zeros, patch, setMany, List.nil_append, List.cons_append, Nat.ble, Nat.add_eq, Nat.zero_add, Nat.add_zero, Nat.reduceAdd, Nat.reduceMul, Nat.reduceSub, Nat.ble_eq, Nat.reduceLeDiff, Nat.reduceBEq, Int.reduceBEq, Int.reduceNeg, Bool.and_true, Bool.and_false, Bool.true_and, Bool.false_and, Bool.not_true, Bool.not_false, Bool.true_eq_false, Bool.false_eq_true, Int.reduceLT, Int.reduceLE, Int.reduceGT, Int.reduceGE, decide_true, decide_false, Bool.not_eq_true, loopN_norm, loopN_exit, tf, ft, ff, op_nilchk, p_nilchk, op_faddr, p_faddr, p_load, r0, AV.ofCells, lx, v1, v2]
  have v2 : decide ((i : Int) ≥ (fs.length : Int)) = false := decide_eq_false (by omega)
  have hi : i < fs.length := by omega
  obtain ⟨fb, hx, hfb, hg⟩ := A.at_ hi
  have a1 := (at_of hg hi).s
  have v3 : (fs[i].st == 1) = false := by
    simp only [beq_eq_false_iff_ne, ne_eq]
    exact fun e => hf ⟨i, fs[i], rfl, List.getElem?_eq_getElem hi, e⟩
  have m1 : Nat.blt i fs.length = true := bltT hi
  rw [hx] at r0 lx
  simp only [enter_eq, ev_seq, seqK_norm, seqK_exit, seqK_ret, ev_reg, ev_cond, condK_true, condK_false, ev_block, blockK_norm, blockK_ret, blockK_exit, ev_loop, ev_skip, ev_exit, ev_ret, regK_cons, regK_nil, guard_none, guard_some, regG_true, regG_false, regO_some, op_mov, op_conv, op_bin, op_bsl, op_box, op_mks, op_s2b, op_pick, op_un, op_eq, op_len, op_ext, op_load, op_iaddr, op_slice, op_b2s, op_idxS, op_mx, op_mn, op_call, op_store, op_app, op_copy, args_eq, result_one', rv_loc, finish_norm, finish_ret, outK_some, keep_true, keep_false, keep_nil, p_bin, p_pick, p_un, p_eq, p_conv, evNew, pureK_some, newK_some, X.eval, set_none, set_some, List.map_cons, List.map_nil, List.getD_cons_zero, List.getD_cons_succ, List.getD_nil, List.set_cons_zero, List.set_cons_succ, binCV, unCV, isShift, intArithF_eq, shiftF_eq, wrapF_eq, intArith, shift, eqVal, bound, asNat_cast, cond_true, cond_false, BEq.rfl, beq_self_eq_true, evalParts, fillParts, AV.cells, AV.ofCells, XV.av, AV.xv, List.length_cons, List.length_nil, zeros, patch, setMany, List.nil_append, List.cons_append, Nat.ble, Nat.add_eq, Nat.zero_add, Nat.add_zero, Nat.reduceAdd, Nat.reduceMul, Nat.reduceSub, Nat.ble_eq, Nat.reduceLeDiff, Nat.reduceBEq, Int.reduceBEq, Int.reduceNeg, Bool.and_true, Bool.and_false, Bool.true_and, Bool.false_and, Bool.not_true, Bool.not_false, Bool.true_eq_false, Bool.false_eq_true, Int.reduceLT, Int.reduceLE, Int.reduceGT, Int.reduceGE, decide_true, decide_false, Bool.not_eq_true, loopN_norm, loopN_exit, tf, ft, ff, op_nilchk, p_nilchk, op_faddr, p_faddr, p_load, r0, AV.ofCells, lx, v1, v2, p_iaddr, m1, a1, bneI, v3, Nat.zero_add]

/-- A frame's pins. -/
theorem pin_no (A : Ra h p a fs o M c) {f : Int} (hf : ¬ ∃ (i : Nat) (g : Fm), f = (i : Int) ∧ fs[i]? = some g ∧ g.st = 1) : evCallT table 18 N (d + 2) 12 [.c (.ptr p 0), .c (.int .i64 f)] h = some (.c (.int .i64 2), h) := by
  have e1 := used_no (N := N) (d := d) A hf
  rw [evCallT_eq (F := ir12) rfl rfl rfl]
  unfold ir12
  rw [bodyK_eq]
  simp only [enter_eq, ev_seq, seqK_norm, seqK_exit, seqK_ret, ev_reg, ev_cond, condK_true, condK_false, ev_block, blockK_norm, blockK_ret, blockK_exit, ev_loop, ev_skip, ev_exit, ev_ret, regK_cons, regK_nil, guard_none, guard_some, regG_true, regG_false, regO_some, op_mov, op_conv, op_bin, op_bsl, op_box, op_mks, op_s2b, op_pick, op_un, op_eq, op_len, op_ext, op_load, op_iaddr, op_slice, op_b2s, op_idxS, op_mx, op_mn, op_call, op_store, op_app, op_copy, args_eq, result_one', rv_loc, finish_norm, finish_ret, outK_some, keep_true, keep_false, keep_nil, p_bin, p_pick, p_un, p_eq, p_conv, evNew, pureK_some, newK_some, X.eval, set_none, set_some, List.map_cons, List.map_nil, List.getD_cons_zero, List.getD_cons_succ, List.getD_nil, List.set_cons_zero, List.set_cons_succ, binCV, unCV, isShift, intArithF_eq, shiftF_eq, wrapF_eq, intArith, shift, eqVal, bound, asNat_cast, cond_true, cond_false, BEq.rfl, beq_self_eq_true, evalParts, fillParts, AV.cells, AV.ofCells, XV.av, AV.xv, List.length_cons, List.length_nil, zeros, patch, setMany, List.nil_append, List.cons_append, Nat.ble, Nat.add_eq, Nat.zero_add, Nat.add_zero, Nat.reduceAdd, Nat.reduceMul, Nat.reduceSub, Nat.ble_eq, Nat.reduceLeDiff, Nat.reduceBEq, Int.reduceBEq, Int.reduceNeg, Bool.and_true, Bool.and_false, Bool.true_and, Bool.false_and, Bool.not_true, Bool.not_false, Bool.true_eq_false, Bool.false_eq_true, Int.reduceLT, Int.reduceLE, Int.reduceGT, Int.reduceGE, decide_true, decide_false, Bool.not_eq_true, loopN_norm, loopN_exit, tf, ft, ff, e1, bneI]
theorem unpin_no (A : Ra h p a fs o M c) {f : Int} (hf : ¬ ∃ (i : Nat) (g : Fm), f = (i : Int) ∧ fs[i]? = some g ∧ g.st = 1) : evCallT table 18 N (d + 2) 13 [.c (.ptr p 0), .c (.int .i64 f)] h = some (.c (.int .i64 2), h) := by
  have e1 := used_no (N := N) (d := d) A hf
  rw [evCallT_eq (F := ir13) rfl rfl rfl]
  unfold ir13
  rw [bodyK_eq]
  simp only [enter_eq, ev_seq, seqK_norm, seqK_exit, seqK_ret, ev_reg, ev_cond, condK_true, condK_false, ev_block, blockK_norm, blockK_ret, blockK_exit, ev_loop, ev_skip, ev_exit, ev_ret, regK_cons, regK_nil, guard_none, guard_some, regG_true, regG_false, regO_some, op_mov, op_conv, op_bin, op_bsl, op_box, op_mks, op_s2b, op_pick, op_un, op_eq, op_len, op_ext, op_load, op_iaddr, op_slice, op_b2s, op_idxS, op_mx, op_mn, op_call, op_store, op_app, op_copy, args_eq, result_one', rv_loc, finish_norm, finish_ret, outK_some, keep_true, keep_false, keep_nil, p_bin, p_pick, p_un, p_eq, p_conv, evNew, pureK_some, newK_some, X.eval, set_none, set_some, List.map_cons, List.map_nil, List.getD_cons_zero, List.getD_cons_succ, List.getD_nil, List.set_cons_zero, List.set_cons_succ, binCV, unCV, isShift, intArithF_eq, shiftF_eq, wrapF_eq, intArith, shift, eqVal, bound, asNat_cast, cond_true, cond_false, BEq.rfl, beq_self_eq_true, evalParts, fillParts, AV.cells, AV.ofCells, XV.av, AV.xv, List.length_cons, List.length_nil, zeros, patch, setMany, List.nil_append, List.cons_append, Nat.ble, Nat.add_eq, Nat.zero_add, Nat.add_zero, Nat.reduceAdd, Nat.reduceMul, Nat.reduceSub, Nat.ble_eq, Nat.reduceLeDiff, Nat.reduceBEq, Int.reduceBEq, Int.reduceNeg, Bool.and_true, Bool.and_false, Bool.true_and, Bool.false_and, Bool.not_true, Bool.not_false, Bool.true_eq_false, Bool.false_eq_true, Int.reduceLT, Int.reduceLE, Int.reduceGT, Int.reduceGE, decide_true, decide_false, Bool.not_eq_true, loopN_norm, loopN_exit, tf, ft, ff, e1, bneI]
theorem drop_no (A : Ra h p a fs o M c) {f : Int} (hf : ¬ ∃ (i : Nat) (g : Fm), f = (i : Int) ∧ fs[i]? = some g ∧ g.st = 1) : evCallT table 18 N (d + 2) 14 [.c (.ptr p 0), .c (.int .i64 f)] h = some (.c (.int .i64 2), h) := by
  have e1 := used_no (N := N) (d := d) A hf
  rw [evCallT_eq (F := ir14) rfl rfl rfl]
  unfold ir14
  rw [bodyK_eq]
  simp only [enter_eq, ev_seq, seqK_norm, seqK_exit, seqK_ret, ev_reg, ev_cond, condK_true, condK_false, ev_block, blockK_norm, blockK_ret, blockK_exit, ev_loop, ev_skip, ev_exit, ev_ret, regK_cons, regK_nil, guard_none, guard_some, regG_true, regG_false, regO_some, op_mov, op_conv, op_bin, op_bsl, op_box, op_mks, op_s2b, op_pick, op_un, op_eq, op_len, op_ext, op_load, op_iaddr, op_slice, op_b2s, op_idxS, op_mx, op_mn, op_call, op_store, op_app, op_copy, args_eq, result_one', rv_loc, finish_norm, finish_ret, outK_some, keep_true, keep_false, keep_nil, p_bin, p_pick, p_un, p_eq, p_conv, evNew, pureK_some, newK_some, X.eval, set_none, set_some, List.map_cons, List.map_nil, List.getD_cons_zero, List.getD_cons_succ, List.getD_nil, List.set_cons_zero, List.set_cons_succ, binCV, unCV, isShift, intArithF_eq, shiftF_eq, wrapF_eq, intArith, shift, eqVal, bound, asNat_cast, cond_true, cond_false, BEq.rfl, beq_self_eq_true, evalParts, fillParts, AV.cells, AV.ofCells, XV.av, AV.xv, List.length_cons, List.length_nil, zeros, patch, setMany, List.nil_append, List.cons_append, Nat.ble, Nat.add_eq, Nat.zero_add, Nat.add_zero, Nat.reduceAdd, Nat.reduceMul, Nat.reduceSub, Nat.ble_eq, Nat.reduceLeDiff, Nat.reduceBEq, Int.reduceBEq, Int.reduceNeg, Bool.and_true, Bool.and_false, Bool.true_and, Bool.false_and, Bool.not_true, Bool.not_false, Bool.true_eq_false, Bool.false_eq_true, Int.reduceLT, Int.reduceLE, Int.reduceGT, Int.reduceGE, decide_true, decide_false, Bool.not_eq_true, loopN_norm, loopN_exit, tf, ft, ff, e1, bneI]
theorem pin_full (A : Ra h p a fs o M c) {i : Nat} (hi : i < fs.length) (h1 : fs[i].st = 1) (h2 : fs[i].pn = 1000) : evCallT table 18 N (d + 2) 12 [.c (.ptr p 0), .c (.int .i64 (i : Int))] h = some (.c (.int .i64 12), h) := by
  have e1 := used_yes (N := N) (d := d) A hi h1
  obtain ⟨fb, hx, hf, hg⟩ := A.at_ hi
  have a1 := (at_of hg hi).n
  rw [h2] at a1
  have m1 : Nat.blt i fs.length = true := bltT hi
  have r0 := A.r0
  rw [hx] at r0
  rw [evCallT_eq (F := ir12) rfl rfl rfl]
  unfold ir12
  rw [bodyK_eq]
  simp only [enter_eq, ev_seq, seqK_norm, seqK_exit, seqK_ret, ev_reg, ev_cond, condK_true, condK_false, ev_block, blockK_norm, blockK_ret, blockK_exit, ev_loop, ev_skip, ev_exit, ev_ret, regK_cons, regK_nil, guard_none, guard_some, regG_true, regG_false, regO_some, op_mov, op_conv, op_bin, op_bsl, op_box, op_mks, op_s2b, op_pick, op_un, op_eq, op_len, op_ext, op_load, op_iaddr, op_slice, op_b2s, op_idxS, op_mx, op_mn, op_call, op_store, op_app, op_copy, args_eq, result_one', rv_loc, finish_norm, finish_ret, outK_some, keep_true, keep_false, keep_nil, p_bin, p_pick, p_un, p_eq, p_conv, evNew, pureK_some, newK_some, X.eval, set_none, set_some, List.map_cons, List.map_nil, List.getD_cons_zero, List.getD_cons_succ, List.getD_nil, List.set_cons_zero, List.set_cons_succ, binCV, unCV, isShift, intArithF_eq, shiftF_eq, wrapF_eq, intArith, shift, eqVal, bound, asNat_cast, cond_true, cond_false, BEq.rfl, beq_self_eq_true, evalParts, fillParts, AV.cells, AV.ofCells, XV.av, AV.xv, List.length_cons, List.length_nil, zeros, patch, setMany, List.nil_append, List.cons_append, Nat.ble, Nat.add_eq, Nat.zero_add, Nat.add_zero, Nat.reduceAdd, Nat.reduceMul, Nat.reduceSub, Nat.ble_eq, Nat.reduceLeDiff, Nat.reduceBEq, Int.reduceBEq, Int.reduceNeg, Bool.and_true, Bool.and_false, Bool.true_and, Bool.false_and, Bool.not_true, Bool.not_false, Bool.true_eq_false, Bool.false_eq_true, Int.reduceLT, Int.reduceLE, Int.reduceGT, Int.reduceGE, decide_true, decide_false, Bool.not_eq_true, loopN_norm, loopN_exit, tf, ft, ff, e1, bneI, op_nilchk, p_nilchk, op_faddr, p_faddr, p_load, r0, AV.ofCells, p_iaddr, m1, a1]
theorem pin_ar (A : Ra h p a fs o M c) {i : Nat} (hi : i < fs.length) (h1 : fs[i].st = 1) (h2 : fs[i].pn < 1000) (h3 : 0 ≤ fs[i].pn) :
    ∃ h', evCallT table 18 N (d + 2) 12 [.c (.ptr p 0), .c (.int .i64 (i : Int))] h = some (.c (.int .i64 0), h') ∧ Ra h' p a (fs.set i ⟨fs[i].st, fs[i].pg, fs[i].pn + 1, fs[i].dt, fs[i].y⟩) o M c ∧ ExtB (own p a) h h' := by
  have e1 := used_yes (N := N) (d := d) A hi h1
  obtain ⟨fb, hx, hf, hg⟩ := A.at_ hi
  have a1 := (at_of hg hi).n
  have m1 : Nat.blt i fs.length = true := bltT hi
  have r0 := A.r0
  rw [hx] at r0
  have v1 : (fs[i].pn == 1000) = false := by simp only [beq_eq_false_iff_ne, ne_eq]; omega
  have v2 : IntKind.i64.wrap (fs[i].pn + 1) = fs[i].pn + 1 := wrapI (by omega) (by omega)
  obtain ⟨h', w, A', e', n'⟩ := A.poke hi hx (k := 2) (v := .int .i64 (fs[i].pn + 1)) (g := ⟨fs[i].st, fs[i].pg, fs[i].pn + 1, fs[i].dt, fs[i].y⟩) (by omega) rfl
  rw [evCallT_eq (F := ir12) rfl rfl rfl]
  unfold ir12
  rw [bodyK_eq]
  simp only [enter_eq, ev_seq, seqK_norm, seqK_exit, seqK_ret, ev_reg, ev_cond, condK_true, condK_false, ev_block, blockK_norm, blockK_ret, blockK_exit, ev_loop, ev_skip, ev_exit, ev_ret, regK_cons, regK_nil, guard_none, guard_some, regG_true, regG_false, regO_some, op_mov, op_conv, op_bin, op_bsl, op_box, op_mks, op_s2b, op_pick, op_un, op_eq, op_len, op_ext, op_load, op_iaddr, op_slice, op_b2s, op_idxS, op_mx, op_mn, op_call, op_store, op_app, op_copy, args_eq, result_one', rv_loc, finish_norm, finish_ret, outK_some, keep_true, keep_false, keep_nil, p_bin, p_pick, p_un, p_eq, p_conv, evNew, pureK_some, newK_some, X.eval, set_none, set_some, List.map_cons, List.map_nil, List.getD_cons_zero, List.getD_cons_succ, List.getD_nil, List.set_cons_zero, List.set_cons_succ, binCV, unCV, isShift, intArithF_eq, shiftF_eq, wrapF_eq, intArith, shift, eqVal, bound, asNat_cast, cond_true, cond_false, BEq.rfl, beq_self_eq_true, evalParts, fillParts, AV.cells, AV.ofCells, XV.av, AV.xv, List.length_cons, List.length_nil, zeros, patch, setMany, List.nil_append, List.cons_append, Nat.ble, Nat.add_eq, Nat.zero_add, Nat.add_zero, Nat.reduceAdd, Nat.reduceMul, Nat.reduceSub, Nat.ble_eq, Nat.reduceLeDiff, Nat.reduceBEq, Int.reduceBEq, Int.reduceNeg, Bool.and_true, Bool.and_false, Bool.true_and, Bool.false_and, Bool.not_true, Bool.not_false, Bool.true_eq_false, Bool.false_eq_true, Int.reduceLT, Int.reduceLE, Int.reduceGT, Int.reduceGE, decide_true, decide_false, Bool.not_eq_true, loopN_norm, loopN_exit, tf, ft, ff, e1, bneI, op_nilchk, p_nilchk, op_faddr, p_faddr, p_load, r0, AV.ofCells, p_iaddr, m1, a1, v1, v2, evEff, w, Nat.zero_add]
  exact ⟨_, rfl, A', e'⟩
theorem unpin_none (A : Ra h p a fs o M c) {i : Nat} (hi : i < fs.length) (h1 : fs[i].st = 1) (h2 : fs[i].pn = 0) : evCallT table 18 N (d + 2) 13 [.c (.ptr p 0), .c (.int .i64 (i : Int))] h = some (.c (.int .i64 12), h) := by
  have e1 := used_yes (N := N) (d := d) A hi h1
  obtain ⟨fb, hx, hf, hg⟩ := A.at_ hi
  have a1 := (at_of hg hi).n
  rw [h2] at a1
  have m1 : Nat.blt i fs.length = true := bltT hi
  have r0 := A.r0
  rw [hx] at r0
  rw [evCallT_eq (F := ir13) rfl rfl rfl]
  unfold ir13
  rw [bodyK_eq]
  simp only [enter_eq, ev_seq, seqK_norm, seqK_exit, seqK_ret, ev_reg, ev_cond, condK_true, condK_false, ev_block, blockK_norm, blockK_ret, blockK_exit, ev_loop, ev_skip, ev_exit, ev_ret, regK_cons, regK_nil, guard_none, guard_some, regG_true, regG_false, regO_some, op_mov, op_conv, op_bin, op_bsl, op_box, op_mks, op_s2b, op_pick, op_un, op_eq, op_len, op_ext, op_load, op_iaddr, op_slice, op_b2s, op_idxS, op_mx, op_mn, op_call, op_store, op_app, op_copy, args_eq, result_one', rv_loc, finish_norm, finish_ret, outK_some, keep_true, keep_false, keep_nil, p_bin, p_pick, p_un, p_eq, p_conv, evNew, pureK_some, newK_some, X.eval, set_none, set_some, List.map_cons, List.map_nil, List.getD_cons_zero, List.getD_cons_succ, List.getD_nil, List.set_cons_zero, List.set_cons_succ, binCV, unCV, isShift, intArithF_eq, shiftF_eq, wrapF_eq, intArith, shift, eqVal, bound, asNat_cast, cond_true, cond_false, BEq.rfl, beq_self_eq_true, evalParts, fillParts, AV.cells, AV.ofCells, XV.av, AV.xv, List.length_cons, List.length_nil, zeros, patch, setMany, List.nil_append, List.cons_append, Nat.ble, Nat.add_eq, Nat.zero_add, Nat.add_zero, Nat.reduceAdd, Nat.reduceMul, Nat.reduceSub, Nat.ble_eq, Nat.reduceLeDiff, Nat.reduceBEq, Int.reduceBEq, Int.reduceNeg, Bool.and_true, Bool.and_false, Bool.true_and, Bool.false_and, Bool.not_true, Bool.not_false, Bool.true_eq_false, Bool.false_eq_true, Int.reduceLT, Int.reduceLE, Int.reduceGT, Int.reduceGE, decide_true, decide_false, Bool.not_eq_true, loopN_norm, loopN_exit, tf, ft, ff, e1, bneI, op_nilchk, p_nilchk, op_faddr, p_faddr, p_load, r0, AV.ofCells, p_iaddr, m1, a1]
theorem unpin_ar (A : Ra h p a fs o M c) {i : Nat} (hi : i < fs.length) (h1 : fs[i].st = 1) (h2 : fs[i].pn ≤ 1000) (h3 : 0 < fs[i].pn) :
    ∃ h', evCallT table 18 N (d + 2) 13 [.c (.ptr p 0), .c (.int .i64 (i : Int))] h = some (.c (.int .i64 0), h') ∧ Ra h' p a (fs.set i ⟨fs[i].st, fs[i].pg, fs[i].pn - 1, fs[i].dt, fs[i].y⟩) o M c ∧ ExtB (own p a) h h' := by
  have e1 := used_yes (N := N) (d := d) A hi h1
  obtain ⟨fb, hx, hf, hg⟩ := A.at_ hi
  have a1 := (at_of hg hi).n
  have m1 : Nat.blt i fs.length = true := bltT hi
  have r0 := A.r0
  rw [hx] at r0
  have v1 : (fs[i].pn == 0) = false := by simp only [beq_eq_false_iff_ne, ne_eq]; omega
  have v2 : IntKind.i64.wrap (fs[i].pn - 1) = fs[i].pn - 1 := wrapI (by omega) (by omega)
  obtain ⟨h', w, A', e', n'⟩ := A.poke hi hx (k := 2) (v := .int .i64 (fs[i].pn - 1)) (g := ⟨fs[i].st, fs[i].pg, fs[i].pn - 1, fs[i].dt, fs[i].y⟩) (by omega) rfl
  rw [evCallT_eq (F := ir13) rfl rfl rfl]
  unfold ir13
  rw [bodyK_eq]
  simp only [enter_eq, ev_seq, seqK_norm, seqK_exit, seqK_ret, ev_reg, ev_cond, condK_true, condK_false, ev_block, blockK_norm, blockK_ret, blockK_exit, ev_loop, ev_skip, ev_exit, ev_ret, regK_cons, regK_nil, guard_none, guard_some, regG_true, regG_false, regO_some, op_mov, op_conv, op_bin, op_bsl, op_box, op_mks, op_s2b, op_pick, op_un, op_eq, op_len, op_ext, op_load, op_iaddr, op_slice, op_b2s, op_idxS, op_mx, op_mn, op_call, op_store, op_app, op_copy, args_eq, result_one', rv_loc, finish_norm, finish_ret, outK_some, keep_true, keep_false, keep_nil, p_bin, p_pick, p_un, p_eq, p_conv, evNew, pureK_some, newK_some, X.eval, set_none, set_some, List.map_cons, List.map_nil, List.getD_cons_zero, List.getD_cons_succ, List.getD_nil, List.set_cons_zero, List.set_cons_succ, binCV, unCV, isShift, intArithF_eq, shiftF_eq, wrapF_eq, intArith, shift, eqVal, bound, asNat_cast, cond_true, cond_false, BEq.rfl, beq_self_eq_true, evalParts, fillParts, AV.cells, AV.ofCells, XV.av, AV.xv, List.length_cons, List.length_nil, zeros, patch, setMany, List.nil_append, List.cons_append, Nat.ble, Nat.add_eq, Nat.zero_add, Nat.add_zero, Nat.reduceAdd, Nat.reduceMul, Nat.reduceSub, Nat.ble_eq, Nat.reduceLeDiff, Nat.reduceBEq, Int.reduceBEq, Int.reduceNeg, Bool.and_true, Bool.and_false, Bool.true_and, Bool.false_and, Bool.not_true, Bool.not_false, Bool.true_eq_false, Bool.false_eq_true, Int.reduceLT, Int.reduceLE, Int.reduceGT, Int.reduceGE, decide_true, decide_false, Bool.not_eq_true, loopN_norm, loopN_exit, tf, ft, ff, e1, bneI, op_nilchk, p_nilchk, op_faddr, p_faddr, p_load, r0, AV.ofCells, p_iaddr, m1, a1, v1, v2, evEff, w, Nat.zero_add]
  exact ⟨_, rfl, A', e'⟩
end
end Lav
