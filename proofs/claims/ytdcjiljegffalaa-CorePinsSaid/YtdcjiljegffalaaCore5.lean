/-
  Layer 11: somebody goes for a page; a new core.
-/
import Derived.Test.YtdcjiljegffalaaCore4
set_option maxRecDepth 100000
set_option linter.unusedSimpArgs false
namespace Lav
open Go (IntKind)

theorem findF_no {fs : List Fm} {k : Int} (h : ∀ (i : Nat) (f : Fm), fs[i]? = some f → f.st = 1 → f.pg ≠ k) : findF fs k = -1 := by
  unfold findF
  cases hf : fs.findIdx? (fun f => f.st == 1 && f.pg == k) with
  | none => rfl
  | some i =>
    obtain ⟨hi, hp, _⟩ := List.findIdx?_eq_some_iff_getElem.1 hf
    rw [Bool.and_eq_true] at hp
    exact absurd (eq_of_beq hp.2) (h i fs[i] (List.getElem?_eq_getElem hi) (eq_of_beq hp.1))
theorem findF_none {fs : List Fm} {k : Int} (h : findF fs k < 0) : ∀ (i : Nat) (f : Fm), fs[i]? = some f → f.st = 1 → f.pg ≠ k := by
  intro i f hf hs hp
  unfold findF at h
  cases hi : fs.findIdx? (fun f => f.st == 1 && f.pg == k) with
  | some j => rw [hi] at h; simp at h; omega
  | none =>
    have := (List.findIdx?_eq_none_iff.1 hi) f (List.mem_of_getElem? hf)
    rw [hs, hp] at this
    simp at this
theorem spareF_some {fs : List Fm} {O : List Int} {x old : Int} (h : spareF fs O = (0, x, old)) : x ∈ O ∧ (frm fs x).pn ≤ 0 ∧ (frm fs x).dt = false ∧ old = (frm fs x).pg := by
  unfold spareF at h
  cases hf : O.reverse.find? (idleB fs) with
  | none => rw [hf] at h; simp at h
  | some y =>
    rw [hf] at h
    simp only [Prod.mk.injEq] at h
    obtain ⟨h1, rfl, rfl⟩ := h
    have hm := List.mem_of_find?_eq_some hf
    have hp := List.find?_some hf
    refine ⟨by simpa using hm, ?_, ?_, rfl⟩
    · unfold idleB at hp
      simp at hp
      exact hp
    · cases hd : (frm fs y).dt with
      | false => rfl
      | true => rw [hd] at h1; simp at h1

section
variable {N d : Nat} {h : Heap} {k : Nat} {z : CP} {fs : List Fm} {o : List Int} {M : Nat → Option Int} {od ts : List Int}

theorem room_go {g i : Nat} {old : Int} (C : CH h k z fs [] M od ts) (hg : g < 48) (hf : findF fs (g : Int) < 0) (hs : spareF fs (ts.foldl applyM (od.filter (usedB fs))) = (0, (i : Int), old)) (hN : 100 ≤ N) :
    ∃ y M' h', evCallT table 15 N (d + 7) 11 [.c (.ptr k 0), .c (.int .i64 (g : Int))] h = some (.tup [.c (.int .i64 0), .c (.int .i64 (i : Int)), .c (.int .i64 old)], h') ∧
      CH h' k z (fs.set i ⟨1, (g : Int), 1, false, y⟩) [] M' ((i : Int) :: (ts.foldl applyM (od.filter (usedB fs))).erase (i : Int)) [] ∧ ExtB (z.own k) h h' ∧ ∃ hi : i < fs.length, fs[i].st = 1 ∧ fs[i].pn = 0 ∧ fs[i].dt = false ∧ fs[i].pg = old := by
  obtain ⟨H1, e1, C1, x1⟩ := tidy_ok (N := N) (d := d + 1) C hN
  have r0 := C1.r0
  have sm := C.ah.sm
  have e2 := C1.ah.find (N := N) (d := d + 2) (g : Int) hN
  have v1 : decide ((g : Int) < 0) = false := decide_eq_false (by omega)
  have v2 : decide ((g : Int) ≥ 48) = false := decide_eq_false (by omega)
  have v3 : decide (findF fs (g : Int) ≥ 0) = false := decide_eq_false (by omega)
  have e3 : evCallT table 15 N (d + 6) 24 [.c (.ptr z.p 0)] H1 = some (.c (.int .i64 0), H1) := free_ok (N := N) (d := d + 4) C1.ah.ar
  obtain ⟨H2, e4, C2, x2⟩ := spare_ok (N := N) (d := d) C1 hN
  have ff2 : (od.filter (usedB fs)).filter (usedB fs) = od.filter (usedB fs) := List.filter_filter.trans (by simp)
  rw [ff2] at e4 C2
  have hmem : ∀ x ∈ ts.foldl applyM (od.filter (usedB fs)), usedB fs x = true := fun x hx => (List.mem_filter.1 (applyM_all.1 hx)).2
  generalize ts.foldl applyM (od.filter (usedB fs)) = O at *
  obtain ⟨hx, hpn, hdt, hpg⟩ := spareF_some hs
  obtain ⟨i', ei, hi⟩ := C2.lo _ hx
  have : i' = i := by omega
  subst this
  have hu := hmem _ hx
  rw [usedB_eq hi] at hu
  have h1 : fs[i'].st = 1 := eq_of_beq hu
  rw [frm_eq hi] at hpn hdt hpg
  have kk := (C.ah.ok i' fs[i'] (List.getElem?_eq_getElem hi)).u h1
  have h0 : fs[i'].pn = 0 := by omega
  rw [hs] at e4
  have q0 := C2.r0
  have q1 := C2.r1
  have ap := C.ap
  obtain ⟨H3, e5, l3, x3⟩ : ∃ h', evCallT table 15 N (d + 6) 26 [.c (.ptr z.q 0), .c (.int .i64 (i' : Int))] H2 = some (.c (.bool true), h') ∧ LL h' z.q z.b 32 (O.erase (i' : Int)) ∧ ExtB [z.q, z.b] H2 h' := out_ok (N := N) (d := d + 4) C2.ll hx (by have := C2.len; omega)
  have n1 := C.nd
  simp only [List.nodup_cons, List.mem_cons, not_or, List.not_mem_nil, not_false_eq_true, List.nodup_nil, and_true] at n1
  obtain ⟨⟨p1', p2', p3', p4'⟩, ⟨q1', q2', q3'⟩, ⟨l1', l2'⟩, r1'⟩ := n1
  have nqb : ∀ j ∈ Lav.own z.p z.a, j ∉ [z.q, z.b] := fun j hj hm => by
    simp at hm
    rcases hm with rfl | rfl
    · exact ap _ (by simp) hj
    · exact ap _ (by simp) hj
  have bx3 := x3.at_ C2.box C2.kn (by simp [p1', p2'])
  have kn3 : k < H3.next := Nat.lt_of_lt_of_le C2.kn x3.1
  have A3 := C2.ah.ext x3 nqb
  have rg3 := C2.rg.ext x3 (by simp; exact ⟨fun h => q2' h.symm, fun h => l1' h.symm⟩) (by simp; exact ⟨fun h => q3' h.symm, fun h => l2' h.symm⟩)
  have s0 : H3.read k 0 1 = some [.ptr z.p 0] := read_cells bx3 rfl
  obtain ⟨M4, H4, e6, A4, x4⟩ := A3.drop (N := N) (d := d + 2) (i' : Int) hN
  have ed : dropF fs [] (i' : Int) = (0, fs.set i' frZ, [(i' : Int)]) := by
    unfold dropF
    rw [usedF_eq hi h1]
    simp only [h0]
    rfl
  rw [ed] at e6 A4
  have bx4 := x4.at_ bx3 kn3 (ap _ (by simp))
  have kn4 : k < H4.next := Nat.lt_of_lt_of_le kn3 x4.1
  have t0 : H4.read k 0 1 = some [.ptr z.p 0] := read_cells bx4 rfl
  obtain ⟨y, M5, H5, e7, A5, x5, _⟩ := A4.take (N := N) (d := d + 1) (g : Int) hN
  have hfn : findF (fs.set i' frZ) (g : Int) = -1 := findF_no fun j f hf' hs' => by
    rcases (set_at hi).1 hf' with ⟨_, rfl⟩ | ⟨_, h'⟩
    · cases hs'
    · exact findF_none hf j f h' hs'
  have et : takeF (fs.set i' frZ) [(i' : Int)] (g : Int) y = ((i' : Int), fs.set i' ⟨1, (g : Int), 0, false, y⟩, []) := by
    unfold takeF; rw [if_neg (by omega)]; simp only [Int.toNat_natCast, List.set_set]
  rw [et] at e7 A5
  have bx5 := x5.at_ bx4 kn4 (ap _ (by simp))
  have kn5 : k < H5.next := Nat.lt_of_lt_of_le kn4 x5.1
  have u0 : H5.read k 0 1 = some [.ptr z.p 0] := read_cells bx5 rfl
  obtain ⟨H6, e8, A6, x6⟩ := A5.pin (N := N) (d := d + 4) (i' : Int)
  have hi2 : i' < (fs.set i' ⟨1, (g : Int), 0, false, y⟩).length := by simp; exact hi
  have hgt : (fs.set i' ⟨1, (g : Int), 0, false, y⟩)[i'] = ⟨1, (g : Int), 0, false, y⟩ := by simp
  have ep : pinF (fs.set i' ⟨1, (g : Int), 0, false, y⟩) (i' : Int) = (0, fs.set i' ⟨1, (g : Int), 1, false, y⟩) := by
    unfold pinF
    rw [usedF_eq hi2 (by rw [hgt]), hgt]
    simp only [List.set_set]
    rfl
  rw [ep] at e8 A6
  have bx6 := x6.at_ bx5 kn5 (ap _ (by simp))
  have kn6 : k < H6.next := Nat.lt_of_lt_of_le kn5 x6.1
  have w1 : H6.read k 1 1 = some [.ptr z.q 0] := read_cells bx6 rfl
  have x46 := (x4.trans x5).trans x6
  have l6 := l3.ext x46 (ap _ (by simp)) (ap _ (by simp))
  have rg6 := rg3.ext x46 (ap _ (by simp)) (ap _ (by simp))
  have hno : (i' : Int) ∉ O.erase (i' : Int) := fun hm => ((C2.ll.nd.mem_erase_iff).1 hm).1 rfl
  obtain ⟨lo, hh⟩ := front_new (y := y) (g := g) hi hno (fun x hx => C2.lo x (List.mem_of_mem_erase hx)) (fun j f hf hs hne => (C2.ll.nd.mem_erase_iff).2 ⟨by omega, C2.hi j f hf hs⟩)
  obtain ⟨H7, e9, l7, x7⟩ : ∃ h', evCallT table 15 N (d + 6) 29 [.c (.ptr z.q 0), .c (.int .i64 (i' : Int))] H6 = some (.c (.bool true), h') ∧ LL h' z.q z.b 32 ((i' : Int) :: O.erase (i' : Int)) ∧ ExtB [z.q, z.b] H6 h' :=
    front_ok (N := N) (d := d + 4) l6 (by omega) (by omega) hno (by have := l3.le; omega)
  have C7 : CH H7 k z (fs.set i' ⟨1, (g : Int), 1, false, y⟩) [] M5 ((i' : Int) :: O.erase (i' : Int)) [] :=
    ⟨x7.at_ bx6 kn6 (by simp [p1', p2']), Nat.lt_of_lt_of_le kn6 x7.1, A6.ext x7 nqb, l7, rg6.ext x7 (by simp; exact ⟨fun h => q2' h.symm, fun h => l1' h.symm⟩) (by simp; exact ⟨fun h => q3' h.symm, fun h => l2' h.symm⟩), by simp, C.nd, C.ap, lo, hh⟩
  rw [evCallT_eq (F := ir11) rfl rfl rfl]
  unfold ir11
  rw [bodyK_eq]
  simp only [enter_eq, ev_seq, seqK_norm, seqK_exit, seqK_ret, ev_reg, ev_cond, condK_true, condK_false, ev_block, blockK_norm, blockK_ret, blockK_exit, ev_loop, ev_skip, ev_exit, ev_ret, regK_cons, regK_nil, guard_none, guard_some, regG_true, regG_false, regO_some, op_mov, op_conv, op_bin, op_bsl, op_box, op_mks, op_s2b, op_pick, op_un, op_eq, op_len, op_ext, op_load, op_iaddr, op_slice, op_b2s, op_idxS, op_mx, op_mn, op_call, op_store, op_app, op_copy, args_eq, result_one', rv_loc, finish_norm, finish_ret, outK_some, keep_true, keep_false, keep_nil, p_bin, p_pick, p_un, p_eq, p_conv, evNew, pureK_some, newK_some, X.eval, set_none, set_some, List.map_cons, List.map_nil, List.getD_cons_zero, List.getD_cons_succ, List.getD_nil, List.set_cons_zero, List.set_cons_succ, binCV, unCV, isShift, intArithF_eq, shiftF_eq, wrapF_eq, intArith, shift, eqVal, bound, asNat_cast, cond_true, cond_false, BEq.rfl, beq_self_eq_true, evalParts, fillParts, AV.cells, AV.ofCells, XV.av, AV.xv, List.length_cons, List.length_nil, zeros, patch, setMany, List.nil_append, List.cons_append, Nat.ble, Nat.add_eq, Nat.zero_add, Nat.add_zero, Nat.reduceAdd, Nat.reduceMul, Nat.reduceSub, Nat.ble_eq, Nat.reduceLeDiff, Nat.reduceBEq, Int.reduceBEq, Int.reduceNeg, Bool.and_true, Bool.and_false, Bool.true_and, Bool.false_and, Bool.not_true, Bool.not_false, Bool.true_eq_false, Bool.false_eq_true, Int.reduceLT, Int.reduceLE, Int.reduceGT, Int.reduceGE, decide_true, decide_false, Bool.not_eq_true, loopN_norm, loopN_exit, tf, ft, ff, op_faddr, p_faddr, op_nilchk, p_nilchk, p_load, AV.ofCells, p_ext, List.getElem?_cons_zero, List.getElem?_cons_succ, v1, v2, v3, e1, r0, e2, e3, e4, bneI, q1, e5, s0, e6, t0, e7, u0, e8, w1, e9, result, evResults]
  have sq : ∀ j ∈ [z.q, z.b], j ∈ z.own k := fun j hj => by simp at hj; rcases hj with h | h <;> simp [CP.own, h]
  exact ⟨y, M5, H7, rfl, C7, ((((x1.trans x2).trans (x3.mono sq)).trans (x46.mono fun j hj => by simp [CP.own, hj])).trans (x7.mono sq)), hi, h1, h0, hdt, hpg.symm⟩

/-- A new core. -/
theorem core_new (n : Nat) (hn : n ≤ 32) (hN : 100 ≤ N) : ∃ k z h', evCallT table 15 N (d + 5) 7 [.c (.int .i64 (n : Int))] h = some (.c (.ptr k 0), h') ∧ CH h' k z (List.replicate n frZ) (ints n) (fun _ => none) [] [] ∧ Ext h h' ∧ ∀ j ∈ z.own k, h.next ≤ j := by
  obtain ⟨p, a, H1, e1, A1, x1, y1⟩ := new_ar (N := N) (d := d) (h := h) n hn hN
  obtain ⟨q, b, H2, e2, l2, x2, hq, hb⟩ : ∃ p b h', evCallT table 15 N (d + 4) 18 [.c (.int .i64 32)] H1 = some (.c (.ptr p 0), h') ∧ LL h' p b 32 [] ∧ Ext H1 h' ∧ H1.next ≤ p ∧ H1.next ≤ b := new_ok' (N := N) (d := d + 3) 32 H1 (by omega)
  obtain ⟨r, c, H3, e3, g3, x3, hr, hc⟩ := ring_new (N := N) (d := d + 3) H2
  obtain ⟨H4, hH4⟩ : ∃ H, H = H3.new (.cells [.ptr p 0, .ptr q 0, .ptr r 0]) := ⟨_, rfl⟩
  have x4 : Ext H3 H4 := by rw [hH4]; exact (Ext.refl _).new _
  have n4 : H4.next = H3.next + 1 := by rw [hH4]; rfl
  have o1 := A1.ar.old
  have lq := l2.pn
  have lb := l2.bn
  have qb := l2.qb
  have rc := g3.ne
  have rn := g3.pn
  have cn := g3.cn
  have a1 := x1.1
  have a2 := x2.1
  have a3 := x3.1
  have C4 : CH H4 H3.next ⟨p, a, q, b, r, c⟩ (List.replicate n frZ) (ints n) (fun _ => none) [] [] := by
    refine ⟨by rw [hH4]; exact get_new_at, by omega, ((A1.ext' x2).ext' x3).ext' x4, (l2.ext (x3.b []) (by simp) (by simp)).ext (x4.b []) (by simp) (by simp), g3.ext (x4.b []) (by simp) (by simp), by simp, ?_, fun j hj hm => ?_, by simp, fun i f hf hs => ?_⟩
    · simp; omega
    · have := o1 j hm
      simp at hj
      omega
    · have : f = frZ := List.eq_of_mem_replicate (List.mem_of_getElem? hf)
      subst this
      cases hs
  rw [evCallT_eq (F := ir7) rfl rfl rfl]
  unfold ir7
  rw [bodyK_eq]
  simp only [enter_eq, ev_seq, seqK_norm, seqK_exit, seqK_ret, ev_reg, ev_cond, condK_true, condK_false, ev_block, blockK_norm, blockK_ret, blockK_exit, ev_loop, ev_skip, ev_exit, ev_ret, regK_cons, regK_nil, guard_none, guard_some, regG_true, regG_false, regO_some, op_mov, op_conv, op_bin, op_bsl, op_box, op_mks, op_s2b, op_pick, op_un, op_eq, op_len, op_ext, op_load, op_iaddr, op_slice, op_b2s, op_idxS, op_mx, op_mn, op_call, op_store, op_app, op_copy, args_eq, result_one', rv_loc, finish_norm, finish_ret, outK_some, keep_true, keep_false, keep_nil, p_bin, p_pick, p_un, p_eq, p_conv, evNew, pureK_some, newK_some, X.eval, set_none, set_some, List.map_cons, List.map_nil, List.getD_cons_zero, List.getD_cons_succ, List.getD_nil, List.set_cons_zero, List.set_cons_succ, binCV, unCV, isShift, intArithF_eq, shiftF_eq, wrapF_eq, intArith, shift, eqVal, bound, asNat_cast, cond_true, cond_false, BEq.rfl, beq_self_eq_true, evalParts, fillParts, AV.cells, AV.ofCells, XV.av, AV.xv, List.length_cons, List.length_nil, zeros, patch, setMany, List.nil_append, List.cons_append, Nat.ble, Nat.add_eq, Nat.zero_add, Nat.add_zero, Nat.reduceAdd, Nat.reduceMul, Nat.reduceSub, Nat.ble_eq, Nat.reduceLeDiff, Nat.reduceBEq, Int.reduceBEq, Int.reduceNeg, Bool.and_true, Bool.and_false, Bool.true_and, Bool.false_and, Bool.not_true, Bool.not_false, Bool.true_eq_false, Bool.false_eq_true, Int.reduceLT, Int.reduceLE, Int.reduceGT, Int.reduceGE, decide_true, decide_false, Bool.not_eq_true, loopN_norm, loopN_exit, tf, ft, ff, e1, e2, e3, op_build, p_build', ← hH4]
  refine ⟨_, ⟨p, a, q, b, r, c⟩, H4, rfl, C4, ((x1.trans x2).trans x3).trans x4, fun j hj => ?_⟩
  simp only [CP.own, List.mem_cons] at hj
  rcases hj with rfl | rfl | rfl | rfl | rfl | hj
  · omega
  · omega
  · omega
  · omega
  · omega
  · exact y1 j hj
theorem tld11 : ToldOK Go.Proofs.Try.prog 15 := told_of (calls_okF 200 9) (by kernel_rfl)
end
end Lav
