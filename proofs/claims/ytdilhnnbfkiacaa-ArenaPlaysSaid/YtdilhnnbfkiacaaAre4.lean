/-
  Layer 10: all frames; a new arena; steps of arenas that may be.
-/
import Derived.Test.YtdilhnnbfkiacaaAre3
set_option maxRecDepth 100000
set_option linter.unusedSimpArgs false
namespace Lav
open Go (IntKind)

/-- Frames as they are told. -/
abbrev apC (f : Fm) : List CV := [.int .i64 f.st, .int .i64 f.pg, .int .i64 f.pn, .int .i64 0, .bool f.dt]
def apsC : List Fm → List CV
  | [] => []
  | f :: fs => apC f ++ apsC fs
theorem apsC_len : ∀ (fs : List Fm), (apsC fs).length = fs.length * 5
  | [] => rfl
  | f :: fs => by simp [apsC, apsC_len fs]; omega
theorem apsC_app : ∀ (fs gs : List Fm), apsC (fs ++ gs) = apsC fs ++ apsC gs
  | [], _ => rfl
  | f :: fs, gs => by simp [apsC, apsC_app fs gs]
theorem apsC_drop : ∀ (fs : List Fm) (i : Nat) (hi : i < fs.length), (apsC fs).drop (i * 5) = apC fs[i] ++ apsC (fs.drop (i + 1))
  | f :: fs, 0, _ => rfl
  | f :: fs, i + 1, h => by
    rw [show (i + 1) * 5 = 5 + i * 5 by omega, ← List.drop_drop]
    exact apsC_drop fs i (by simpa using h)
theorem apsC_at {fs : List Fm} {i : Nat} (hi : i < fs.length) {k : Nat} (hk : k < 5) : (apsC fs)[i * 5 + k]? = (apC fs[i])[k]? := by
  have := apsC_drop fs i hi
  rw [← List.getElem?_drop, this, List.getElem?_append_left (by simpa using hk)]

structure Told (h : Heap) (fb i : Nat) (f : Fm) : Prop where
  s : h.read fb (i * 5) 1 = some [.int .i64 f.st]
  g : h.read fb (i * 5 + 1) 1 = some [.int .i64 f.pg]
  n : h.read fb (i * 5 + 2) 1 = some [.int .i64 f.pn]
  d : h.read fb (i * 5 + 4) 1 = some [.bool f.dt]
  all : h.read fb (i * 5) 5 = some (apC f)
/-- A slice of frames that were told. -/
def Tells (h0 h : Heap) (y : CV) (fs : List Fm) : Prop := Mine 5 h0 h y fs.length (apsC fs)
theorem Tells.at_ {h0 h : Heap} {y : CV} {fs : List Fm} (t : Tells h0 h y fs) {i : Nat} (hi : i < fs.length) : ∃ fb, y = .sl fb 0 fs.length (.dy 5) ∧ fb < h.next ∧ Told h fb i fs[i] := by
  obtain ⟨_, ⟨_, h0⟩ | ⟨fb, e, hg, _, hf⟩⟩ := t
  · omega
  refine ⟨fb, e, hf, read_cells hg ((apsC_at hi (k := 0) (by omega)).trans rfl), read_cells hg ((apsC_at hi (k := 1) (by omega)).trans rfl), read_cells hg ((apsC_at hi (k := 2) (by omega)).trans rfl), read_cells hg ((apsC_at hi (k := 4) (by omega)).trans rfl), ?_⟩
  have hle : (i + 1) * 5 ≤ fs.length * 5 := Nat.mul_le_mul_right _ hi
  rw [read_part hg (by rw [apsC_len]; omega), apsC_drop fs i hi]
  rfl
theorem Tells.len {h0 h : Heap} {y : CV} {fs : List Fm} (t : Tells h0 h y fs) : ∀ loc vals H, evPure loc (.c y :: vals) H (.len .sl (.val 0)) = some (.c (.int .i64 (fs.length : Int))) := fun _ _ _ => Mine.len t rfl

section
variable {N d : Nat} {h : Heap} {p : Nat} {a : AP} {fs : List Fm} {o : List Int} {M : Nat → Option Int} {c : Nat}

theorem frames_ok (A : Ra h p a fs o M c) (sm : fs.length ≤ 32) (hN : 100 ≤ N) : ∃ y h', evCallT table 18 N (d + 1) 17 [.c (.ptr p 0)] h = some (.c y, h') ∧ Tells h h' y fs ∧ Ext h h' := by
  have r0 := A.r0
  have lx := A.lx
  have L : ∀ loc, keepOnly ir17_k0 loc = [.junk, .junk, .c .nils, .junk, .junk, .c a.x, .c (.int .i64 (fs.length : Int)), .c (.int .i64 0), .junk] →
      ∃ r, loopK (evCallT table 18 N d) N ir17_k0 ir17_l0 N loc h = some r ∧ ∃ a0 a1 y l G, r = (.exit 0, a0 :: a1 :: .c y :: l, G) ∧ Tells h G y fs ∧ Ext h G := by
    intro loc hloc
    refine loop_inv (n := fs.length) (fun k loc G => k ≤ fs.length ∧ Ext h G ∧ ∃ y, Mine 5 h G y k (apsC (fs.take k)) ∧ loc = [.junk, .junk, .c y, .junk, .junk, .c a.x, .c (.int .i64 (fs.length : Int)), .c (.int .i64 (k : Int)), .junk]) _ ?_ ⟨Nat.zero_le _, Ext.refl _, .nils, Mine.nil, hloc⟩ (by omega)
    rintro k loc G hk ⟨hkn, xg, y, my, rfl⟩
    unfold ir17_l0
    by_cases hlt : k < fs.length
    · left
      refine ⟨hlt, ?_⟩
      obtain ⟨fb, hx, hf, hg⟩ := (A.ext' xg).at_ hlt
      have t := (at_of hg hlt).all
      have m1 : Nat.blt k fs.length = true := bltT hlt
      have v1 : decide ((k : Int) < (fs.length : Int)) = true := ltNat hlt
      have v2 := succI (i := k) (by omega)
      obtain ⟨G1, e1, g1, x1, n1⟩ := box_store (h := G) (z := [.int .i64 0, .int .i64 0, .int .i64 0, .bool false, .nils]) (v := frC fs[k]) rfl
      have s0 : G1.read G.next 0 1 = some [.int .i64 fs[k].st] := read_cells g1 rfl
      have s1 : G1.read G.next 1 1 = some [.int .i64 fs[k].pg] := read_cells g1 rfl
      have s2 : G1.read G.next 2 1 = some [.int .i64 fs[k].pn] := read_cells g1 rfl
      have s3 : G1.read G.next 3 1 = some [.bool fs[k].dt] := read_cells g1 rfl
      obtain ⟨f, hff⟩ : ∃ f, f = fs[k] := ⟨_, rfl⟩
      rw [← hff] at t e1 s0 s1 s2 s3
      obtain ⟨G2, hG2⟩ : ∃ H, H = G1.new (.cells (apC f)) := ⟨_, rfl⟩
      have x2 : Ext G1 G2 := by rw [hG2]; exact (Ext.refl _).new _
      have src : source G2 5 (.c (.sl G1.next 0 1 (.ex 1))) = some (0 + 1, apC f) := source_new (by rw [hG2]; exact get_new_at) rfl
      have my2 : Mine 5 h G2 y k (apsC (fs.take k)) := my.keep (by have := (x1.trans x2).1; omega) fun j hj _ => (x1.trans x2).2 j hj
      obtain ⟨G3, a1, a2, a3, a4⟩ := app_mine my2 (xg.trans (x1.trans x2)).1 src rfl (by omega)
      have x3 : Ext h G3 := by
        have xx := xg.trans (x1.trans x2)
        exact ⟨by have := xx.1; omega, fun j hj => (a4 j (by have := xx.1; omega) (fun hb => by have := my.young j hb; omega)).trans (xx.2 j hj)⟩
      have et : fs.take (k + 1) = fs.take k ++ [f] := by rw [List.take_succ_eq_append_getElem hlt, hff]
      simp only [enter_eq, ev_seq, seqK_norm, seqK_exit, seqK_ret, ev_reg, ev_cond, condK_true, condK_false, ev_block, blockK_norm, blockK_ret, blockK_exit, ev_loop, ev_skip, ev_exit, ev_ret, regK_cons, regK_nil, guard_none, guard_some, regG_true, regG_false, regO_some, op_mov, op_conv, op_bin, op_bsl, op_box, op_mks, op_s2b, op_pick, op_un, op_eq, op_len, op_ext, op_load, op_iaddr, op_slice, op_b2s, op_idxS, op_mx, op_mn, op_call, op_store, op_app, op_copy, args_eq, result_one', rv_loc, finish_norm, finish_ret, outK_some, keep_true, keep_false, keep_nil, p_bin, p_pick, p_un, p_eq, p_conv, evNew, pureK_some, newK_some, X.eval, set_none, set_some, List.map_cons, List.map_nil, List.getD_cons_zero, List.getD_cons_succ, List.getD_nil, List.set_cons_zero, List.set_cons_succ, binCV, unCV, isShift, intArithF_eq, shiftF_eq, wrapF_eq, intArith, shift, eqVal, bound, asNat_cast, cond_true, cond_false, BEq.rfl, beq_self_eq_true, evalParts, fillParts, AV.cells, AV.ofCells, XV.av, AV.xv, List.length_cons, List.length_nil, zeros, patch, setMany, List.nil_append, List.cons_append, Nat.ble, Nat.add_eq, Nat.zero_add, Nat.add_zero, Nat.reduceAdd, Nat.reduceMul, Nat.reduceSub, Nat.ble_eq, Nat.reduceLeDiff, Nat.reduceBEq, Int.reduceBEq, Int.reduceNeg, Bool.and_true, Bool.and_false, Bool.true_and, Bool.false_and, Bool.not_true, Bool.not_false, Bool.true_eq_false, Bool.false_eq_true, Int.reduceLT, Int.reduceLE, Int.reduceGT, Int.reduceGE, decide_true, decide_false, Bool.not_eq_true, loopN_norm, loopN_exit, tf, ft, ff, v1, v2, hx, p_iaddr, m1, p_load, AV.ofCells, Nat.zero_add, t, evEff, e1, op_faddr, p_faddr, s0, s1, s2, s3, op_build, p_build', ← hG2, a1]
      refine ⟨_, _, rfl, by omega, x3, _, by rw [et, apsC_app]; simp only [apsC, List.append_nil]; exact a2, rfl⟩
    · right
      have hkn' : k = fs.length := by omega
      have v1 : decide ((k : Int) < (fs.length : Int)) = false := geNat (by omega)
      simp only [enter_eq, ev_seq, seqK_norm, seqK_exit, seqK_ret, ev_reg, ev_cond, condK_true, condK_false, ev_block, blockK_norm, blockK_ret, blockK_exit, ev_loop, ev_skip, ev_exit, ev_ret, regK_cons, regK_nil, guard_none, guard_some, regG_true, regG_false, regO_some, op_mov, op_conv, op_bin, op_bsl, op_box, op_mks, op_s2b, op_pick, op_un, op_eq, op_len, op_ext, op_load, op_iaddr, op_slice, op_b2s, op_idxS, op_mx, op_mn, op_call, op_store, op_app, op_copy, args_eq, result_one', rv_loc, finish_norm, finish_ret, outK_some, keep_true, keep_false, keep_nil, p_bin, p_pick, p_un, p_eq, p_conv, evNew, pureK_some, newK_some, X.eval, set_none, set_some, List.map_cons, List.map_nil, List.getD_cons_zero, List.getD_cons_succ, List.getD_nil, List.set_cons_zero, List.set_cons_succ, binCV, unCV, isShift, intArithF_eq, shiftF_eq, wrapF_eq, intArith, shift, eqVal, bound, asNat_cast, cond_true, cond_false, BEq.rfl, beq_self_eq_true, evalParts, fillParts, AV.cells, AV.ofCells, XV.av, AV.xv, List.length_cons, List.length_nil, zeros, patch, setMany, List.nil_append, List.cons_append, Nat.ble, Nat.add_eq, Nat.zero_add, Nat.add_zero, Nat.reduceAdd, Nat.reduceMul, Nat.reduceSub, Nat.ble_eq, Nat.reduceLeDiff, Nat.reduceBEq, Int.reduceBEq, Int.reduceNeg, Bool.and_true, Bool.and_false, Bool.true_and, Bool.false_and, Bool.not_true, Bool.not_false, Bool.true_eq_false, Bool.false_eq_true, Int.reduceLT, Int.reduceLE, Int.reduceGT, Int.reduceGE, decide_true, decide_false, Bool.not_eq_true, loopN_norm, loopN_exit, tf, ft, ff, v1]
      refine ⟨_, rfl, by simp, _, _, y, _, G, rfl, ?_, xg⟩
      rw [hkn', List.take_length] at my
      exact my
  obtain ⟨r, hr, a0, a1, y, l, G, rfl, t, xg⟩ := L [.c (.ptr p 0), .c .nils, .c .nils, .tup [], .c (.bool false), .c a.x, .c (.int .i64 (fs.length : Int)), .c (.int .i64 0), .tup []] rfl
  rw [evCallT_eq (F := ir17) rfl rfl rfl]
  unfold ir17
  rw [bodyK_eq]
  simp only [enter_eq, ev_seq, seqK_norm, seqK_exit, seqK_ret, ev_reg, ev_cond, condK_true, condK_false, ev_block, blockK_norm, blockK_ret, blockK_exit, ev_loop, ev_skip, ev_exit, ev_ret, regK_cons, regK_nil, guard_none, guard_some, regG_true, regG_false, regO_some, op_mov, op_conv, op_bin, op_bsl, op_box, op_mks, op_s2b, op_pick, op_un, op_eq, op_len, op_ext, op_load, op_iaddr, op_slice, op_b2s, op_idxS, op_mx, op_mn, op_call, op_store, op_app, op_copy, args_eq, result_one', rv_loc, finish_norm, finish_ret, outK_some, keep_true, keep_false, keep_nil, p_bin, p_pick, p_un, p_eq, p_conv, evNew, pureK_some, newK_some, X.eval, set_none, set_some, List.map_cons, List.map_nil, List.getD_cons_zero, List.getD_cons_succ, List.getD_nil, List.set_cons_zero, List.set_cons_succ, binCV, unCV, isShift, intArithF_eq, shiftF_eq, wrapF_eq, intArith, shift, eqVal, bound, asNat_cast, cond_true, cond_false, BEq.rfl, beq_self_eq_true, evalParts, fillParts, AV.cells, AV.ofCells, XV.av, AV.xv, List.length_cons, List.length_nil, zeros, patch, setMany, List.nil_append, List.cons_append, Nat.ble, Nat.add_eq, Nat.zero_add, Nat.add_zero, Nat.reduceAdd, Nat.reduceMul, Nat.reduceSub, Nat.ble_eq, Nat.reduceLeDiff, Nat.reduceBEq, Int.reduceBEq, Int.reduceNeg, Bool.and_true, Bool.and_false, Bool.true_and, Bool.false_and, Bool.not_true, Bool.not_false, Bool.true_eq_false, Bool.false_eq_true, Int.reduceLT, Int.reduceLE, Int.reduceGT, Int.reduceGE, decide_true, decide_false, Bool.not_eq_true, loopN_norm, loopN_exit, tf, ft, ff, op_nilchk, p_nilchk, op_faddr, p_faddr, p_load, r0, AV.ofCells, lx, hr, blockK_exit_eq]
  exact ⟨y, G, rfl, t, xg⟩

/-! ### Steps -/
def findF (fs : List Fm) (k : Int) : Int := match fs.findIdx? (fun f => f.st == 1 && f.pg == k) with
  | some i => (i : Int)
  | none => -1
theorem findF_eq (m : FM fs M) (k : Nat) : (M k).getD (-1) = findF fs k := by
  unfold findF
  cases hf : fs.findIdx? (fun f => f.st == 1 && f.pg == (k : Int)) with
  | some i =>
    obtain ⟨hi, hp, _⟩ := List.findIdx?_eq_some_iff_getElem.1 hf
    rw [Bool.and_eq_true] at hp
    have h1 : fs[i].st = 1 := eq_of_beq hp.1
    have h2 : fs[i].pg = (k : Int) := eq_of_beq hp.2
    rw [m.one hi h1 h2]; rfl
  | none =>
    cases hm : M k with
    | none => rfl
    | some v =>
      obtain ⟨i, f, rfl, hi, h1, h2⟩ := (m k v).1 hm
      obtain ⟨hl, e⟩ := List.getElem?_eq_some_iff.1 hi
      have := (List.findIdx?_eq_none_iff.1 hf) f (e ▸ List.getElem_mem _)
      rw [h1, h2] at this
      simp at this
theorem findF_neg (ok : OKs fs) {k : Int} (hk : k < 0) : findF fs k = -1 := by
  unfold findF
  cases hf : fs.findIdx? (fun f => f.st == 1 && f.pg == k) with
  | some i =>
    obtain ⟨hi, hp, _⟩ := List.findIdx?_eq_some_iff_getElem.1 hf
    rw [Bool.and_eq_true] at hp
    have h1 : fs[i].st = 1 := eq_of_beq hp.1
    have h2 : fs[i].pg = k := eq_of_beq hp.2
    have := (ok i fs[i] (List.getElem?_eq_getElem hi)).u h1
    omega
  | none => rfl
theorem findF_ge (fs : List Fm) (k : Int) : -1 ≤ findF fs k := by unfold findF; split <;> omega

theorem AH.find (A : AH h p a fs o M) (k : Int) (hN : 100 ≤ N) : evCallT table 18 N (d + 4) 9 [.c (.ptr p 0), .c (.int .i64 k)] h = some (.c (.int .i64 (findF fs k)), h) := by
  by_cases hk : k < 0
  · rw [findF_neg A.ok hk]; exact find_neg A.ar hk hN
  · obtain ⟨n, rfl⟩ : ∃ n : Nat, k = (n : Int) := ⟨k.toNat, by omega⟩
    rw [← findF_eq A.fm]; exact afind_ok A.ar n hN

/-- A used frame, by a number. -/
def usedF (fs : List Fm) (f : Int) : Option (Nat × Fm) := if f < 0 then none else match fs[f.toNat]? with
  | some g => if g.st = 1 then some (f.toNat, g) else none
  | none => none
theorem usedF_some {f : Int} {i : Nat} {g : Fm} (e : usedF fs f = some (i, g)) : f = (i : Int) ∧ ∃ hi : i < fs.length, fs[i] = g ∧ g.st = 1 := by
  unfold usedF at e
  split at e
  · cases e
  · split at e
    · rename_i g' hg
      split at e
      · simp at e
        obtain ⟨rfl, rfl⟩ := e
        obtain ⟨hl, e'⟩ := List.getElem?_eq_some_iff.1 hg
        exact ⟨by omega, hl, e', by assumption⟩
      · cases e
    · cases e
theorem usedF_none {f : Int} (e : usedF fs f = none) : ¬ ∃ (i : Nat) (g : Fm), f = (i : Int) ∧ fs[i]? = some g ∧ g.st = 1 := by
  rintro ⟨i, g, rfl, hg, h1⟩
  unfold usedF at e
  rw [if_neg (by omega), Int.toNat_natCast, hg] at e
  simp [h1] at e

def pinF (fs : List Fm) (f : Int) : Int × List Fm := match usedF fs f with
  | none => (2, fs)
  | some (i, g) => if g.pn = 1000 then (12, fs) else (0, fs.set i ⟨g.st, g.pg, g.pn + 1, g.dt, g.y⟩)
def unpinF (fs : List Fm) (f : Int) : Int × List Fm := match usedF fs f with
  | none => (2, fs)
  | some (i, g) => if g.pn = 0 then (12, fs) else (0, fs.set i ⟨g.st, g.pg, g.pn - 1, g.dt, g.y⟩)
def dropF (fs : List Fm) (o : List Int) (f : Int) : Int × List Fm × List Int := match usedF fs f with
  | none => (2, fs, o)
  | some (i, g) => if 0 < g.pn then (7, fs, o) else (0, fs.set i frZ, o ++ [(i : Int)])
def retireF (fs : List Fm) : List Int → Int × List Fm × List Int
  | [] => (-1, fs, [])
  | f :: o => (f, fs.set f.toNat (match fs[f.toNat]? with | some g => ⟨4, g.pg, g.pn, g.dt, g.y⟩ | none => frZ), o)
def addF (fs : List Fm) (o : List Int) : Int × List Fm × List Int :=
  if retIdx fs = 32 then (-1, fs, o) else if retIdx fs < fs.length then ((retIdx fs : Int), fs.set (retIdx fs) frZ, o ++ [(retIdx fs : Int)]) else ((fs.length : Int), fs ++ [frZ], o ++ [(fs.length : Int)])
def takeF (fs : List Fm) (o : List Int) (g : Int) (y : CV) : Int × List Fm × List Int :=
  if g < 0 ∨ g ≥ 48 ∨ 0 ≤ findF fs g then (-1, fs, o) else match o with
  | [] => (-1, fs, [])
  | f :: o' => (f, fs.set f.toNat ⟨1, g, 0, false, y⟩, o')

theorem cu_same {i : Nat} (hi : i < fs.length) {g : Fm} (e : fs[i].st = 1 ↔ g.st = 1) : cu (fs.set i g) = cu fs := by
  have := cu_set fs i hi g
  by_cases h1 : g.st = 1
  · rw [if_pos h1, if_pos (e.2 h1)] at this; omega
  · rw [if_neg h1, if_neg (fun h => h1 (e.1 h))] at this; omega

theorem AH.pin (A : AH h p a fs o M) (f : Int) : ∃ h', evCallT table 18 N (d + 2) 12 [.c (.ptr p 0), .c (.int .i64 f)] h = some (.c (.int .i64 (pinF fs f).1), h') ∧ AH h' p a (pinF fs f).2 o M ∧ ExtB (own p a) h h' := by
  unfold pinF
  cases e : usedF fs f with
  | none => exact ⟨h, pin_no A.ar (usedF_none e), A, ExtB.refl _ _⟩
  | some x =>
    obtain ⟨i, g⟩ := x
    obtain ⟨rfl, hi, rfl, h1⟩ := usedF_some e
    have k := (A.ok i fs[i] (List.getElem?_eq_getElem hi)).u h1
    by_cases h2 : fs[i].pn = 1000
    · simp only [h2, if_true]; exact ⟨h, pin_full A.ar hi h1 h2, A, ExtB.refl _ _⟩
    · simp only [if_neg h2]
      obtain ⟨h', e1, A1, x1⟩ := pin_ar (N := N) (d := d) A.ar hi h1 (by omega) (by omega)
      refine ⟨h', e1, ⟨by rw [cu_same hi (g := ⟨fs[i].st, fs[i].pg, fs[i].pn + 1, fs[i].dt, fs[i].y⟩) Iff.rfl]; exact A1, by rw [List.length_set]; exact A.sm, A.fo.keep hi (by omega) (by show fs[i].st ≠ 0; omega), A.fm.keep hi Iff.rfl (fun _ => rfl), A.ok.set hi ⟨.inr (.inl h1), fun _ => ⟨k.1, k.2.1, by show 0 ≤ fs[i].pn + 1; omega, by show fs[i].pn + 1 ≤ 1000; omega⟩, fun h => absurd h1 h⟩⟩, x1⟩
theorem AH.unpin (A : AH h p a fs o M) (f : Int) : ∃ h', evCallT table 18 N (d + 2) 13 [.c (.ptr p 0), .c (.int .i64 f)] h = some (.c (.int .i64 (unpinF fs f).1), h') ∧ AH h' p a (unpinF fs f).2 o M ∧ ExtB (own p a) h h' := by
  unfold unpinF
  cases e : usedF fs f with
  | none => exact ⟨h, unpin_no A.ar (usedF_none e), A, ExtB.refl _ _⟩
  | some x =>
    obtain ⟨i, g⟩ := x
    obtain ⟨rfl, hi, rfl, h1⟩ := usedF_some e
    have k := (A.ok i fs[i] (List.getElem?_eq_getElem hi)).u h1
    by_cases h2 : fs[i].pn = 0
    · simp only [h2, if_true]; exact ⟨h, unpin_none A.ar hi h1 h2, A, ExtB.refl _ _⟩
    · simp only [if_neg h2]
      obtain ⟨h', e1, A1, x1⟩ := unpin_ar (N := N) (d := d) A.ar hi h1 (by omega) (by omega)
      refine ⟨h', e1, ⟨by rw [cu_same hi (g := ⟨fs[i].st, fs[i].pg, fs[i].pn - 1, fs[i].dt, fs[i].y⟩) Iff.rfl]; exact A1, by rw [List.length_set]; exact A.sm, A.fo.keep hi (by omega) (by show fs[i].st ≠ 0; omega), A.fm.keep hi Iff.rfl (fun _ => rfl), A.ok.set hi ⟨.inr (.inl h1), fun _ => ⟨k.1, k.2.1, by show 0 ≤ fs[i].pn - 1; omega, by show fs[i].pn - 1 ≤ 1000; omega⟩, fun h => absurd h1 h⟩⟩, x1⟩
theorem AH.drop (A : AH h p a fs o M) (f : Int) (hN : 100 ≤ N) : ∃ M' h', evCallT table 18 N (d + 4) 14 [.c (.ptr p 0), .c (.int .i64 f)] h = some (.c (.int .i64 (dropF fs o f).1), h') ∧ AH h' p a (dropF fs o f).2.1 (dropF fs o f).2.2 M' ∧ ExtB (own p a) h h' := by
  have hl := A.len
  have sm := A.sm
  unfold dropF
  cases e : usedF fs f with
  | none => exact ⟨M, h, drop_no A.ar (usedF_none e), A, ExtB.refl _ _⟩
  | some x =>
    obtain ⟨i, g⟩ := x
    obtain ⟨rfl, hi, rfl, h1⟩ := usedF_some e
    have k := (A.ok i fs[i] (List.getElem?_eq_getElem hi)).u h1
    by_cases h2 : 0 < fs[i].pn
    · simp only [if_pos h2]; exact ⟨M, h, drop_pins A.ar hi h1 h2, A, ExtB.refl _ _⟩
    · simp only [if_neg h2]
      obtain ⟨q, hq⟩ : ∃ q : Nat, fs[i].pg = (q : Int) := ⟨fs[i].pg.toNat, by omega⟩
      have hm := A.fm.one hi h1 hq
      obtain ⟨h', e1, A1, x1, c1⟩ := drop_ar (N := N) (d := d) A.ar hi h1 (by omega) hq hm (by omega) (A.fo.not hi (by omega)) (by omega) (by have := cu_le fs; omega) hN
      have hc : cu (fs.set i frZ) = cu fs - 1 := by
        have := cu_set fs i hi frZ
        rw [if_pos h1, if_neg (by decide)] at this; omega
      exact ⟨_, h', e1, ⟨by rw [hc]; exact A1, by rw [List.length_set]; exact sm, A.fo.free hi rfl, A.fm.drop hi h1 hq (by decide), A.ok.set hi frZ_ok⟩, x1⟩
theorem AH.retire (A : AH h p a fs o M) : ∃ h', evCallT table 18 N (d + 3) 16 [.c (.ptr p 0)] h = some (.c (.int .i64 (retireF fs o).1), h') ∧ AH h' p a (retireF fs o).2.1 (retireF fs o).2.2 M ∧ ExtB (own p a) h h' := by
  have hl := A.len
  cases o with
  | nil => exact ⟨h, retire_no A.ar, A, ExtB.refl _ _⟩
  | cons f o' =>
    obtain ⟨i, hi, rfl, h0⟩ := A.fo.lt (x := f) (by simp)
    have k := (A.ok i fs[i] (List.getElem?_eq_getElem hi)).n (by omega)
    obtain ⟨h', e1, A1, x1⟩ := retire_ar (N := N) (d := d) A.ar hi (by simp at hl; omega)
    have nd := A.ar.ll.nd
    have fo := A.fo.take nd hi (g := ⟨4, fs[i].pg, fs[i].pn, fs[i].dt, fs[i].y⟩) (by show (4 : Int) ≠ 0; decide)
    rw [List.erase_cons_head] at fo
    unfold retireF
    simp only [Int.toNat_natCast, List.getElem?_eq_getElem hi]
    exact ⟨h', e1, ⟨by rw [cu_same hi ⟨fun h => by omega, fun h => absurd h (by show (4 : Int) ≠ 1; decide)⟩]; exact A1, by rw [List.length_set]; exact A.sm, fo, A.fm.keep hi ⟨fun h => by omega, fun h => absurd h (by show (4 : Int) ≠ 1; decide)⟩ (fun h => absurd h (by show (4 : Int) ≠ 1; decide)), A.ok.set hi ⟨.inr (.inr rfl), fun h => absurd h (by show (4 : Int) ≠ 1; decide), fun _ => k⟩⟩, x1⟩

/-- Nothing that was another's becomes an arena's own. -/
def Young (h : Heap) (p : Nat) (a a' : AP) : Prop := ∀ k ∈ own p a', k ∈ own p a ∨ h.next ≤ k
theorem Young.refl : Young h p a a := fun _ h => .inl h

theorem AH.add (A : AH h p a fs o M) (hN : 100 ≤ N) : ∃ a' h', evCallT table 18 N (d + 3) 15 [.c (.ptr p 0)] h = some (.c (.int .i64 (addF fs o).1), h') ∧ AH h' p a' (addF fs o).2.1 (addF fs o).2.2 M ∧ ExtB (own p a) h h' ∧ Young h p a a' := by
  have hl := A.len
  have sm := A.sm
  have hle := retIdx_le fs
  unfold addF
  by_cases h1 : retIdx fs = 32
  · rw [if_pos h1]; exact ⟨a, h, add_full A.ar sm h1 hN, A, ExtB.refl _ _, Young.refl⟩
  rw [if_neg h1]
  by_cases h2 : retIdx fs < fs.length
  · rw [if_pos h2]
    have h4 := retIdx_at h2
    have k := A.ok _ _ (List.getElem?_eq_getElem h2)
    obtain ⟨h', e1, A1, x1⟩ := add_back (N := N) (d := d) A.ar h2 sm (A.fo.not h2 (by omega)) (by omega) hN
    exact ⟨a, h', e1, ⟨by rw [cu_same h2 ⟨fun h => by omega, fun h => absurd h (by decide)⟩]; exact A1, by rw [List.length_set]; exact sm, A.fo.free h2 rfl, A.fm.keep h2 ⟨fun h => by omega, fun h => absurd h (by decide)⟩ (fun h => absurd h (by decide)), A.ok.set h2 frZ_ok⟩, x1, Young.refl⟩
  · rw [if_neg h2]
    have hne : (fs.length : Int) ∉ o := fun hm => by
      obtain ⟨i, hi, e, _⟩ := A.fo.lt hm
      omega
    obtain ⟨x, h', e1, A1, x1, yx⟩ := add_new (N := N) (d := d) A.ar (by omega) (by omega) hne (by omega) hN
    refine ⟨_, h', e1, ⟨by rw [cu_app]; exact A1, by simp; omega, A.fo.app rfl, A.fm.app (by decide), A.ok.app frZ_ok⟩, x1, fun k hk => ?_⟩
    rcases mem_own.1 hk with h | h | h | h | h | h
    · exact .inl (mem_own.2 (.inl h))
    · exact .inl (mem_own.2 (.inr (.inl h)))
    · exact .inl (mem_own.2 (.inr (.inr (.inl h))))
    · exact .inl (mem_own.2 (.inr (.inr (.inr (.inl h)))))
    · exact .inl (mem_own.2 (.inr (.inr (.inr (.inr (.inl h))))))
    · exact .inr (yx k h)

theorem AH.take (A : AH h p a fs o M) (g : Int) (hN : 100 ≤ N) : ∃ y M' h', evCallT table 18 N (d + 5) 11 [.c (.ptr p 0), .c (.int .i64 g)] h = some (.c (.int .i64 (takeF fs o g y).1), h') ∧ AH h' p a (takeF fs o g y).2.1 (takeF fs o g y).2.2 M' ∧ ExtB (own p a) h h' ∧
    (y = .nils ∧ h' = h ∨ ∃ b, y = .sl b 0 16 (.ex 16) ∧ h.next ≤ b ∧ b < h'.next ∧ h'.get b = some (.cells (zeros 16 [.int .u8 0]))) := by
  have hl := A.len
  unfold takeF
  by_cases h1 : g < 0 ∨ g ≥ 48
  · refine ⟨.nils, M, h, ?_, ?_, ExtB.refl _ _, .inl ⟨rfl, rfl⟩⟩ <;> rw [if_pos (by rcases h1 with h | h <;> simp [h])]
    · exact take_bad h1
    · exact A
  obtain ⟨n, rfl⟩ : ∃ n : Nat, g = (n : Int) := ⟨g.toNat, by omega⟩
  have hf := findF_eq A.fm n
  have hge := findF_ge fs (n : Int)
  cases hm : M n with
  | some v =>
    rw [hm] at hf
    have hv : v = findF fs (n : Int) := hf
    have h0 : 0 ≤ v := by
      obtain ⟨i, f, rfl, _⟩ := (A.fm n v).1 hm
      omega
    refine ⟨.nils, M, h, ?_, ?_, ExtB.refl _ _, .inl ⟨rfl, rfl⟩⟩ <;> rw [if_pos (.inr (.inr (hv ▸ h0)))]
    · exact take_held A.ar (by omega) h0 hm hN
    · exact A
  | none =>
    rw [hm] at hf
    have hv : -1 = findF fs (n : Int) := hf
    have hno : ¬ ((n : Int) < 0 ∨ (n : Int) ≥ 48 ∨ 0 ≤ findF fs (n : Int)) := by omega
    cases o with
    | nil =>
      refine ⟨.nils, M, h, ?_, ?_, ExtB.refl _ _, .inl ⟨rfl, rfl⟩⟩ <;> rw [if_neg hno]
      · exact take_none A.ar (by omega) hm hN
      · exact A
    | cons f o' =>
      obtain ⟨i, hi, rfl, h0⟩ := A.fo.lt (x := f) (by simp)
      obtain ⟨b, h', e1, A1, x1, y1, y2, y3⟩ := take_ar (N := N) (d := d) A.ar hi (g := n) (by omega) hm (by simp at hl; omega) (by have := cu_le fs; have := A.sm; omega) hN
      have fo := A.fo.take A.ar.ll.nd hi (g := ⟨1, (n : Int), 0, false, .sl b 0 16 (.ex 16)⟩) (by show (1 : Int) ≠ 0; decide)
      rw [List.erase_cons_head] at fo
      have hc : cu (fs.set i ⟨1, (n : Int), 0, false, .sl b 0 16 (.ex 16)⟩) = cu fs + 1 := by
        have := cu_set fs i hi ⟨1, (n : Int), 0, false, .sl b 0 16 (.ex 16)⟩
        rw [if_neg (by omega), if_pos rfl] at this; omega
      refine ⟨.sl b 0 16 (.ex 16), (fun j => if j = n then some (i : Int) else M j), h', ?_, ?_, x1, .inr ⟨b, rfl, y1, y2, y3⟩⟩ <;> rw [if_neg hno]
      · exact e1
      · simp only [Int.toNat_natCast]
        exact ⟨by rw [hc]; exact A1, by rw [List.length_set]; exact A.sm, fo, A.fm.take hi (by omega) hm rfl rfl, A.ok.set hi ⟨.inr (.inl rfl), fun _ => ⟨by show (0:Int) ≤ n; omega, by show (n:Int) < 48; omega, by show (0:Int) ≤ 0; decide, by show (0:Int) ≤ 1000; decide⟩, fun h => absurd rfl h⟩⟩
end
end Lav
