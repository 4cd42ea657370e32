/-
  Proved: whatever steps come in, lavabolaw12.HandlePins returns true and changes nothing that was there. No conditions beyond the given statement's.
-/
import Derived.Test.YtakkkibaaipmcaaRows
import Derived.Test.YtakkkibaaipmcaaFwP
import Derived.Test.YtakkkibaaipmcaaOps0
import Derived.Test.YtakkkibaaipmcaaRep1
import Derived.Test.YtakkkibaaipmcaaHandle1
import Derived.Test.YtakkkibaaipmcaaHandle2
import Derived.WalkKit
import Derived.ProofKit
import Derived.OpenShut
import Derived.ShutString
import Derived.ChangeOld
import Derived.Below
set_option maxRecDepth 100000
set_option linter.unusedSimpArgs false
namespace Lav
open Go (IntKind)
theorem tld12 : ToldOK Go.Proofs.Try.prog 14 := told_of (calls_okF 200 9) (by kernel_rfl)
abbrev J7 : List AV := [.junk, .junk, .junk, .junk, .junk, .junk, .junk]
abbrev AtP (x : CV) (p n i : Nat) : List AV := .c x :: .junk :: .c (.ptr p 0) :: .c (.int .i64 (n : Int)) :: .c (.int .i64 (i : Int)) :: .junk :: .junk :: .junk :: J7
abbrev InP (x : CV) (p n i s g : Nat) : List AV := .c x :: .junk :: .c (.ptr p 0) :: .c (.int .i64 (n : Int)) :: .c (.int .i64 (i : Int)) :: .junk :: .c (.int .i64 (s : Int)) :: .c (.int .i64 (g : Int)) :: J7

/-- How many handles have a page. -/
def havF (l : List Int) : Nat := l.countP fun v => decide (0 ≤ v)
def hav (rows : List (List Int)) : Nat := (rows.map havF).sum
theorem hav_one : ∀ (l : List Int), (∀ v ∈ l, -1 ≤ v ∧ v < 5) → l.count 0 + l.count 1 + l.count 2 + l.count 3 + l.count 4 = havF l
  | [], _ => rfl
  | v :: l, h => by
    have ih := hav_one l fun v hv => h v (by simp [hv])
    have hv := h v (by simp)
    unfold havF at *
    simp only [List.count_cons, List.countP_cons, beq_iff_eq, decide_eq_true_eq]
    have : v = -1 ∨ v = 0 ∨ v = 1 ∨ v = 2 ∨ v = 3 ∨ v = 4 := by omega
    rcases this with rfl | rfl | rfl | rfl | rfl | rfl <;> simp <;> omega
def cnt (rows : List (List Int)) (g : Int) : Nat := (rows.map (List.count g)).sum
theorem hav_all : ∀ (rows : List (List Int)), (∀ r ∈ rows, ∀ v ∈ r, -1 ≤ v ∧ v < 5) → cnt rows 0 + cnt rows 1 + cnt rows 2 + cnt rows 3 + cnt rows 4 = hav rows
  | [], _ => rfl
  | r :: rows, h => by
    have ih := hav_all rows fun r hr => h r (by simp [hr])
    have h1 := hav_one r (h r (by simp))
    unfold hav cnt at *
    simp only [List.map_cons, List.sum_cons]
    omega
theorem hav_set : ∀ (l : List Int) (k : Nat) (hk : k < l.length) (v : Int), havF (l.set k v) + (if 0 ≤ l[k] then 1 else 0) = havF l + if 0 ≤ v then 1 else 0
  | a :: l, 0, _, v => by
    unfold havF
    simp only [List.set_cons_zero, List.countP_cons, decide_eq_true_eq, List.getElem_cons_zero]; omega
  | a :: l, k + 1, hk, v => by
    have := hav_set l k (by simpa using hk) v
    unfold havF at *
    simp only [List.set_cons_succ, List.countP_cons, List.getElem_cons_succ, decide_eq_true_eq] at *; omega
theorem hav_row : ∀ (rows : List (List Int)) (j : Nat) (hj : j < rows.length) (r : List Int), hav (rows.set j r) + havF rows[j] = hav rows + havF r
  | a :: rows, 0, _, r => by unfold hav; simp; omega
  | a :: rows, j + 1, hj, r => by
    have := hav_row rows j (by simpa using hj) r
    unfold hav at *
    simp only [List.set_cons_succ, List.map_cons, List.sum_cons, List.getElem_cons_succ] at *; omega

section
variable {h : Heap} {p b m bx ox : Nat} {bs : List Nat} {rows : List (List Int)} {cc : Cap} {xs : List Int}

theorem set_ok {rows : List (List Int)} (hr : ∀ r ∈ rows, ∀ v ∈ r, -1 ≤ v ∧ v < 5) {j : Nat} (hj : j < rows.length) (k : Nat) {g : Int} (hg : -1 ≤ g ∧ g < 5) : ∀ r ∈ rows.set j (rows[j].set k g), ∀ v ∈ r, -1 ≤ v ∧ v < 5 := by
  intro r h1 v hv
  rcases List.mem_or_eq_of_mem_set h1 with h1 | h1
  · exact hr r h1 v hv
  · subst h1
    rcases List.mem_or_eq_of_mem_set hv with h2 | h2
    · exact hr _ (List.getElem_mem hj) v h2
    · rw [h2]; exact hg

theorem give_hav (hr : ∀ r ∈ rows, ∀ v ∈ r, -1 ≤ v ∧ v < 5) {j : Nat} (hj : j < rows.length) {g : Nat} (hg : g < 5) :
    (∀ r ∈ (giveM rows j g).2, ∀ v ∈ r, -1 ≤ v ∧ v < 5) ∧ (giveM rows j g).2.length = rows.length ∧ (((giveM rows j g).1 ≥ 0 ∧ hav (giveM rows j g).2 = hav rows + 1) ∨ (¬ (giveM rows j g).1 ≥ 0 ∧ hav (giveM rows j g).2 = hav rows)) := by
  have hd : rows.getD j [] = rows[j] := by simp [List.getD_eq_getElem?_getD, hj]
  unfold giveM
  simp only [hd]
  by_cases hm : (-1 : Int) ∈ rows[j]
  · obtain ⟨k, hp, hk, hke, _⟩ := placeOf_mem hm
    rw [hp, if_pos ⟨by omega, by omega⟩]
    have h1 := hav_set rows[j] k hk (g : Int)
    have h2 := hav_row rows j hj (rows[j].set k (g : Int))
    rw [if_neg (by omega), if_pos (by omega)] at h1
    refine ⟨set_ok hr hj _ (by omega), by simp, .inl ⟨by show (k : Int) ≥ 0; omega, ?_⟩⟩
    show hav (rows.set j (rows[j].set (k : Int).toNat (g : Int))) = _
    rw [Int.toNat_natCast]; omega
  · rw [placeOf_not hm, if_neg (by omega)]
    exact ⟨hr, rfl, .inr ⟨by show ¬ (-1 : Int) ≥ 0; omega, rfl⟩⟩

theorem back_hav (hr : ∀ r ∈ rows, ∀ v ∈ r, -1 ≤ v ∧ v < 5) (c k : Int) :
    (∀ r ∈ backM rows c k, ∀ v ∈ r, -1 ≤ v ∧ v < 5) ∧ (backM rows c k).length = rows.length ∧ ((pageM rows c k ≥ 0 ∧ hav (backM rows c k) + 1 = hav rows) ∨ (¬ pageM rows c k ≥ 0 ∧ hav (backM rows c k) = hav rows)) := by
  unfold backM
  by_cases hp : pageM rows c k = -1
  · rw [if_pos hp]; exact ⟨hr, rfl, .inr ⟨by omega, rfl⟩⟩
  · rw [if_neg hp]
    obtain ⟨j, i, rfl, rfl, hj, hi, hpe⟩ := page_in hp
    have hv := hr rows[j] (List.getElem_mem _) _ (List.getElem_mem hi)
    have hd : rows.getD j [] = rows[j] := by simp [List.getD_eq_getElem?_getD, hj]
    rw [Int.toNat_natCast, Int.toNat_natCast, hd]
    have h1 := hav_set rows[j] i hi (-1)
    have h2 := hav_row rows j hj (rows[j].set i (-1))
    rw [if_pos (by omega), if_neg (by omega)] at h1
    exact ⟨set_ok hr hj _ (by omega), by simp, .inl ⟨by omega, by omega⟩⟩

/-- The sum of all pages' pins. -/
def upTo (rows : List (List Int)) : Nat → Nat
  | 0 => 0
  | g + 1 => upTo rows g + cnt rows (g : Int)
theorem upTo_five (rows : List (List Int)) : upTo rows 5 = cnt rows 0 + cnt rows 1 + cnt rows 2 + cnt rows 3 + cnt rows 4 := by
  simp [upTo]
theorem pins_cnt (rows : List (List Int)) (g : Nat) : pinsM rows (g : Int) = cnt rows (g : Int) := by
  unfold pinsM cnt; rw [if_neg (by omega)]

theorem sumPins (t : HB h p b bs rows) (h3 : rows.length = 3) (x : CV) (n i : Nat) : ∀ loc, keepOnly ir6_k0 loc = InP x p n i 0 0 → ∃ r, loopK (evCallT table 14 200 8) 200 ir6_k0 ir6_l0 200 loc h = some r ∧
    r = (.exit 2, [.c x, .junk, .c (.ptr p 0), .c (.int .i64 (n : Int)), .c (.int .i64 (i : Int)), .junk, .c (.int .i64 (upTo rows 5 : Int)), .c (.int .i64 5), .junk, .junk, .junk, .junk, .junk, .c (.bool false), .junk], h) := by
  intro loc hloc
  refine loop_inv (n := 5) (fun g loc h' => h' = h ∧ upTo rows g ≤ g * 100 ∧ loc = InP x p n i (upTo rows g) g) _ ?_ ⟨rfl, by simp [upTo], hloc⟩ (by omega)
  rintro g loc h' hg ⟨rfl, hle, rfl⟩
  unfold ir6_l0
  by_cases hlt : g < 5
  · left
    refine ⟨hlt, ?_⟩
    have v1 : decide ((g : Int) < 5) = true := decide_eq_true (by omega)
    have v2 := succI (i := g) (by omega)
    have e1 : evCallT table 14 200 8 16 [.c (.ptr p 0), .c (.int .i64 (g : Int))] h' = some (.c (.int .i64 (cnt rows (g : Int) : Int)), h') := by
      have := pins_ok (N := 200) (d := 7) t (g : Int) (by omega) (by omega)
      rw [pins_cnt] at this; exact this
    have hc : cnt rows (g : Int) ≤ 18 := by
      have := pins_le t (g : Int) rows.length (Nat.le_refl _)
      rw [List.take_length] at this
      unfold cnt; omega
    have v3 : IntKind.i64.wrap ((upTo rows g : Int) + (cnt rows (g : Int) : Int)) = (upTo rows (g + 1) : Int) := by
      rw [wrapI (by omega) (by omega)]; simp [upTo]
    simp only [enter_eq, ev_seq, seqK_norm, seqK_exit, seqK_ret, ev_reg, ev_cond, condK_true, condK_false, ev_block, blockK_norm, blockK_ret, blockK_exit, ev_loop, ev_skip, ev_exit, ev_ret, regK_cons, regK_nil, guard_none, guard_some, regG_true, regG_false, regO_some, op_mov, op_conv, op_bin, op_bsl, op_box, op_mks, op_s2b, op_pick, op_un, op_eq, op_len, op_ext, op_load, op_iaddr, op_slice, op_b2s, op_idxS, op_mx, op_mn, op_call, op_store, op_app, op_copy, args_eq, result_one', rv_loc, finish_norm, finish_ret, outK_some, keep_true, keep_false, keep_nil, p_bin, p_pick, p_un, p_eq, p_conv, evNew, pureK_some, newK_some, X.eval, set_none, set_some, List.map_cons, List.map_nil, List.getD_cons_zero, List.getD_cons_succ, List.getD_nil, List.set_cons_zero, List.set_cons_succ, binCV, unCV, isShift, intArithF_eq, shiftF_eq, wrapF_eq, intArith, shift, eqVal, bound, asNat_cast, cond_true, cond_false, BEq.rfl, beq_self_eq_true, evalParts, fillParts, AV.cells, AV.ofCells, XV.av, AV.xv, List.length_cons, List.length_nil, zeros, patch, setMany, List.nil_append, List.cons_append, Nat.ble, Nat.add_eq, Nat.zero_add, Nat.add_zero, Nat.reduceAdd, Nat.reduceMul, Nat.reduceSub, Nat.ble_eq, Nat.reduceLeDiff, Nat.reduceBEq, Int.reduceBEq, Int.reduceNeg, Bool.and_true, Bool.and_false, Bool.true_and, Bool.false_and, Bool.not_true, Bool.not_false, Bool.true_eq_false, Bool.false_eq_true, Int.reduceLT, Int.reduceLE, Int.reduceGT, Int.reduceGE, decide_true, decide_false, Bool.not_eq_true, loopN_norm, loopN_exit, tf, ft, ff, v1, v2, e1, v3]
    refine ⟨_, _, rfl, rfl, ?_, rfl⟩
    simp only [upTo]; omega
  · right
    have hin : g = 5 := by omega
    subst hin
    simp only [enter_eq, ev_seq, seqK_norm, seqK_exit, seqK_ret, ev_reg, ev_cond, condK_true, condK_false, ev_block, blockK_norm, blockK_ret, blockK_exit, ev_loop, ev_skip, ev_exit, ev_ret, regK_cons, regK_nil, guard_none, guard_some, regG_true, regG_false, regO_some, op_mov, op_conv, op_bin, op_bsl, op_box, op_mks, op_s2b, op_pick, op_un, op_eq, op_len, op_ext, op_load, op_iaddr, op_slice, op_b2s, op_idxS, op_mx, op_mn, op_call, op_store, op_app, op_copy, args_eq, result_one', rv_loc, finish_norm, finish_ret, outK_some, keep_true, keep_false, keep_nil, p_bin, p_pick, p_un, p_eq, p_conv, evNew, pureK_some, newK_some, X.eval, set_none, set_some, List.map_cons, List.map_nil, List.getD_cons_zero, List.getD_cons_succ, List.getD_nil, List.set_cons_zero, List.set_cons_succ, binCV, unCV, isShift, intArithF_eq, shiftF_eq, wrapF_eq, intArith, shift, eqVal, bound, asNat_cast, cond_true, cond_false, BEq.rfl, beq_self_eq_true, evalParts, fillParts, AV.cells, AV.ofCells, XV.av, AV.xv, List.length_cons, List.length_nil, zeros, patch, setMany, List.nil_append, List.cons_append, Nat.ble, Nat.add_eq, Nat.zero_add, Nat.add_zero, Nat.reduceAdd, Nat.reduceMul, Nat.reduceSub, Nat.ble_eq, Nat.reduceLeDiff, Nat.reduceBEq, Int.reduceBEq, Int.reduceNeg, Bool.and_true, Bool.and_false, Bool.true_and, Bool.false_and, Bool.not_true, Bool.not_false, Bool.true_eq_false, Bool.false_eq_true, Int.reduceLT, Int.reduceLE, Int.reduceGT, Int.reduceGE, decide_true, decide_false, Bool.not_eq_true, loopN_norm, loopN_exit, tf, ft, ff]
    exact ⟨_, rfl, by simp, rfl⟩
theorem stepG (t : HB h p b bs rows) (h3 : rows.length = 3) (ok : ∀ r ∈ rows, ∀ v ∈ r, -1 ≤ v ∧ v < 5) (hx : Recs 4 h (.sl bx ox m cc) m xs) {i : Nat} (hi : i < m) (hi2 : i < 100) {c : Nat} (hc : c < 3) (ec : IntKind.i64.wrap (Int.tmod (IntKind.u64.wrap (xs.getD (i * 4 + 1) 0)) 3) = (c : Int)) {K : Int} (eK : IntKind.i64.wrap ((BitVec.ofInt IntKind.i64.bits (xs.getD (i * 4) 0) &&& BitVec.ofInt IntKind.i64.bits 1).toNat : Int) = K) (hK : (K == 0) = true) :
    ∃ l H rows', ev (evCallT table 14 200 8) 200 ir6_l1 (AtP (.sl bx ox m cc) p (hav rows) i) h = some (.norm, l, H) ∧ keepOnly ir6_k1 l = AtP (.sl bx ox m cc) p (hav rows') (i + 1) ∧ HB H p b bs rows' ∧ rows'.length = 3 ∧ (∀ r ∈ rows', ∀ v ∈ r, -1 ≤ v ∧ v < 5) ∧ ExtB bs h H := by
  have bneI : ∀ {a b : Int}, (a != b) = !(a == b) := rfl
  have lx : ∀ (loc vals : List AV) (h : Heap), evPure loc (.c (.sl bx ox m cc) :: vals) h (.len .sl (.val 0)) = some (.c (.int .i64 (m : Int))) := fun _ _ _ => hx.len rfl
  have v1 : decide ((i : Int) < (m : Int)) = true := ltNat hi
  have v3 : decide ((i : Int) < 100) = true := decide_eq_true (by omega)
  have v2 := succI (i := i) (by omega)
  have m1 : Nat.blt i m = true := bltT hi
  have k0 := hx.at_ (i := i) (k := 0) hi (by omega)
  have k1 := hx.at_ (i := i) (k := 1) hi (by omega)
  have k2 := hx.at_ (i := i) (k := 2) hi (by omega)
  have k3 := hx.at_ (i := i) (k := 3) hi (by omega)
  simp only [Nat.add_zero] at k0
  have hle : hav rows ≤ 18 := by
    have ha := hav_all rows ok
    have hcnt : ∀ l : List Int, havF l ≤ l.length := fun l => List.countP_le_length
    have : ∀ l : List (List Int), (∀ r ∈ l, r.length = 6) → hav l ≤ l.length * 6 := fun l => by
      induction l with
      | nil => intro _; simp [hav]
      | cons r l ih =>
        intro h6
        have h1 := ih fun r hr => h6 r (by simp [hr])
        have h2 := hcnt r
        have h4 := h6 r (by simp)
        unfold hav at *
        simp only [List.map_cons, List.sum_cons, List.length_cons]; omega
    have := this rows t.six; omega
  obtain ⟨g, hg, eg⟩ := few (a := xs.getD (i * 4 + 2) 0) (m := 5) (by omega) (by omega)
  have eg' : IntKind.i64.wrap (Int.tmod (IntKind.u64.wrap (xs.getD (i * 4 + 2) 0)) 5) = (g : Int) := eg
  have hcr : c < rows.length := by omega
  obtain ⟨H, e1, t1, x1⟩ : ∃ h', evCallT table 14 200 8 12 [.c (.ptr p 0), .c (.int .i64 (c : Int)), .c (.int .i64 (g : Int))] h = some (.c (.int .i64 (giveM rows c (g : Int)).1), h') ∧ HB h' p b bs (giveM rows c (g : Int)).2 ∧ ExtB bs h h' := give_in (N := 200) (d := 6) t hcr (g : Int) (by omega)
  obtain ⟨ok', hl', hv⟩ := give_hav ok hcr hg
  have hs := hav_all _ ok'
  rw [← upTo_five] at hs
  rcases hv with ⟨q, hv⟩ | ⟨q, hv⟩
  · have c1 : decide ((giveM rows c (g : Int)).1 ≥ 0) = true := decide_eq_true q
    have v4 := succI (i := hav rows) (by omega)
    rw [← hv] at v4
    obtain ⟨r, hr, rfl⟩ := sumPins t1 (by omega) (.sl bx ox m cc) (hav (giveM rows c (g : Int)).2) i [.c (.sl bx ox m cc), .junk, .c (.ptr p 0), .c (.int .i64 (hav (giveM rows c (g : Int)).2 : Int)), .c (.int .i64 (i : Int)), .c (.int .i64 (c : Int)), .c (.int .i64 0), .c (.int .i64 0), .junk, .c (.bool true), .c (.bool true), .c (.bool true), .junk, .junk, .junk] rfl
    rw [hs] at hr
    unfold ir6_l1
    simp only [enter_eq, ev_seq, seqK_norm, seqK_exit, seqK_ret, ev_reg, ev_cond, condK_true, condK_false, ev_block, blockK_norm, blockK_ret, blockK_exit, ev_loop, ev_skip, ev_exit, ev_ret, regK_cons, regK_nil, guard_none, guard_some, regG_true, regG_false, regO_some, op_mov, op_conv, op_bin, op_bsl, op_box, op_mks, op_s2b, op_pick, op_un, op_eq, op_len, op_ext, op_load, op_iaddr, op_slice, op_b2s, op_idxS, op_mx, op_mn, op_call, op_store, op_app, op_copy, args_eq, result_one', rv_loc, finish_norm, finish_ret, outK_some, keep_true, keep_false, keep_nil, p_bin, p_pick, p_un, p_eq, p_conv, evNew, pureK_some, newK_some, X.eval, set_none, set_some, List.map_cons, List.map_nil, List.getD_cons_zero, List.getD_cons_succ, List.getD_nil, List.set_cons_zero, List.set_cons_succ, binCV, unCV, isShift, intArithF_eq, shiftF_eq, wrapF_eq, intArith, shift, eqVal, bound, asNat_cast, cond_true, cond_false, BEq.rfl, beq_self_eq_true, evalParts, fillParts, AV.cells, AV.ofCells, XV.av, AV.xv, List.length_cons, List.length_nil, zeros, patch, setMany, List.nil_append, List.cons_append, Nat.ble, Nat.add_eq, Nat.zero_add, Nat.add_zero, Nat.reduceAdd, Nat.reduceMul, Nat.reduceSub, Nat.ble_eq, Nat.reduceLeDiff, Nat.reduceBEq, Int.reduceBEq, Int.reduceNeg, Bool.and_true, Bool.and_false, Bool.true_and, Bool.false_and, Bool.not_true, Bool.not_false, Bool.true_eq_false, Bool.false_eq_true, Int.reduceLT, Int.reduceLE, Int.reduceGT, Int.reduceGE, decide_true, decide_false, Bool.not_eq_true, loopN_norm, loopN_exit, tf, ft, ff, bneI, lx, v1, v2, v3, m1, p_iaddr, p_faddr, op_faddr, p_load, AV.ofCells, k0, k1, k2, ec, eK, hK, eg', e1, c1, v4, hr, blockK_exit_eq]
    refine ⟨_, _, _, rfl, ?_, t1, by omega, ok', x1⟩; rfl
  · have c1 : decide ((giveM rows c (g : Int)).1 ≥ 0) = false := decide_eq_false q
    obtain ⟨r, hr, rfl⟩ := sumPins t1 (by omega) (.sl bx ox m cc) (hav rows) i [.c (.sl bx ox m cc), .junk, .c (.ptr p 0), .c (.int .i64 (hav rows : Int)), .c (.int .i64 (i : Int)), .c (.int .i64 (c : Int)), .c (.int .i64 0), .c (.int .i64 0), .junk, .c (.bool true), .c (.bool true), .c (.bool false), .junk, .junk, .junk] rfl
    rw [hs, hv] at hr
    unfold ir6_l1
    simp only [enter_eq, ev_seq, seqK_norm, seqK_exit, seqK_ret, ev_reg, ev_cond, condK_true, condK_false, ev_block, blockK_norm, blockK_ret, blockK_exit, ev_loop, ev_skip, ev_exit, ev_ret, regK_cons, regK_nil, guard_none, guard_some, regG_true, regG_false, regO_some, op_mov, op_conv, op_bin, op_bsl, op_box, op_mks, op_s2b, op_pick, op_un, op_eq, op_len, op_ext, op_load, op_iaddr, op_slice, op_b2s, op_idxS, op_mx, op_mn, op_call, op_store, op_app, op_copy, args_eq, result_one', rv_loc, finish_norm, finish_ret, outK_some, keep_true, keep_false, keep_nil, p_bin, p_pick, p_un, p_eq, p_conv, evNew, pureK_some, newK_some, X.eval, set_none, set_some, List.map_cons, List.map_nil, List.getD_cons_zero, List.getD_cons_succ, List.getD_nil, List.set_cons_zero, List.set_cons_succ, binCV, unCV, isShift, intArithF_eq, shiftF_eq, wrapF_eq, intArith, shift, eqVal, bound, asNat_cast, cond_true, cond_false, BEq.rfl, beq_self_eq_true, evalParts, fillParts, AV.cells, AV.ofCells, XV.av, AV.xv, List.length_cons, List.length_nil, zeros, patch, setMany, List.nil_append, List.cons_append, Nat.ble, Nat.add_eq, Nat.zero_add, Nat.add_zero, Nat.reduceAdd, Nat.reduceMul, Nat.reduceSub, Nat.ble_eq, Nat.reduceLeDiff, Nat.reduceBEq, Int.reduceBEq, Int.reduceNeg, Bool.and_true, Bool.and_false, Bool.true_and, Bool.false_and, Bool.not_true, Bool.not_false, Bool.true_eq_false, Bool.false_eq_true, Int.reduceLT, Int.reduceLE, Int.reduceGT, Int.reduceGE, decide_true, decide_false, Bool.not_eq_true, loopN_norm, loopN_exit, tf, ft, ff, bneI, lx, v1, v2, v3, m1, p_iaddr, p_faddr, op_faddr, p_load, AV.ofCells, k0, k1, k2, ec, eK, hK, eg', e1, c1, hr, blockK_exit_eq]
    refine ⟨_, _, _, rfl, ?_, t1, by omega, ok', x1⟩
    rw [hv]; rfl

theorem stepB (t : HB h p b bs rows) (h3 : rows.length = 3) (ok : ∀ r ∈ rows, ∀ v ∈ r, -1 ≤ v ∧ v < 5) (hx : Recs 4 h (.sl bx ox m cc) m xs) {i : Nat} (hi : i < m) (hi2 : i < 100) {c : Nat} (ec : IntKind.i64.wrap (Int.tmod (IntKind.u64.wrap (xs.getD (i * 4 + 1) 0)) 3) = (c : Int)) {K : Int} (eK : IntKind.i64.wrap ((BitVec.ofInt IntKind.i64.bits (xs.getD (i * 4) 0) &&& BitVec.ofInt IntKind.i64.bits 1).toNat : Int) = K) (hK : (K == 0) = false) :
    ∃ l H rows', ev (evCallT table 14 200 8) 200 ir6_l1 (AtP (.sl bx ox m cc) p (hav rows) i) h = some (.norm, l, H) ∧ keepOnly ir6_k1 l = AtP (.sl bx ox m cc) p (hav rows') (i + 1) ∧ HB H p b bs rows' ∧ rows'.length = 3 ∧ (∀ r ∈ rows', ∀ v ∈ r, -1 ≤ v ∧ v < 5) ∧ ExtB bs h H := by
  have bneI : ∀ {a b : Int}, (a != b) = !(a == b) := rfl
  have lx : ∀ (loc vals : List AV) (h : Heap), evPure loc (.c (.sl bx ox m cc) :: vals) h (.len .sl (.val 0)) = some (.c (.int .i64 (m : Int))) := fun _ _ _ => hx.len rfl
  have v1 : decide ((i : Int) < (m : Int)) = true := ltNat hi
  have v3 : decide ((i : Int) < 100) = true := decide_eq_true (by omega)
  have v2 := succI (i := i) (by omega)
  have m1 : Nat.blt i m = true := bltT hi
  have k0 := hx.at_ (i := i) (k := 0) hi (by omega)
  have k1 := hx.at_ (i := i) (k := 1) hi (by omega)
  have k2 := hx.at_ (i := i) (k := 2) hi (by omega)
  have k3 := hx.at_ (i := i) (k := 3) hi (by omega)
  simp only [Nat.add_zero] at k0
  have hle : hav rows ≤ 18 := by
    have ha := hav_all rows ok
    have hcnt : ∀ l : List Int, havF l ≤ l.length := fun l => List.countP_le_length
    have : ∀ l : List (List Int), (∀ r ∈ l, r.length = 6) → hav l ≤ l.length * 6 := fun l => by
      induction l with
      | nil => intro _; simp [hav]
      | cons r l ih =>
        intro h6
        have h1 := ih fun r hr => h6 r (by simp [hr])
        have h2 := hcnt r
        have h4 := h6 r (by simp)
        unfold hav at *
        simp only [List.map_cons, List.sum_cons, List.length_cons]; omega
    have := this rows t.six; omega
  obtain ⟨g, hg, eg⟩ := few (a := xs.getD (i * 4 + 3) 0) (m := 6) (by omega) (by omega)
  have eg' : IntKind.i64.wrap (Int.tmod (IntKind.u64.wrap (xs.getD (i * 4 + 3) 0)) 6) = (g : Int) := eg
  obtain ⟨H, e1, t1, x1⟩ : ∃ h', evCallT table 14 200 8 19 [.c (.ptr p 0), .c (.int .i64 (c : Int)), .c (.int .i64 (g : Int))] h = some (.c (.int .i64 (pageM rows (c : Int) (g : Int))), h') ∧ HB h' p b bs (backM rows (c : Int) (g : Int)) ∧ ExtB bs h h' := back_ok (N := 200) (d := 5) t (c : Int) (g : Int)
  obtain ⟨ok', hl', hv⟩ := back_hav ok (c : Int) (g : Int)
  have hs := hav_all _ ok'
  rw [← upTo_five] at hs
  rcases hv with ⟨q, hv⟩ | ⟨q, hv⟩
  · have c1 : decide (pageM rows (c : Int) (g : Int) ≥ 0) = true := decide_eq_true q
    have v4 : IntKind.i64.wrap ((hav rows : Int) - 1) = (hav (backM rows (c : Int) (g : Int)) : Int) := by rw [wrapI (by omega) (by omega)]; omega
    obtain ⟨r, hr, rfl⟩ := sumPins t1 (by omega) (.sl bx ox m cc) (hav (backM rows (c : Int) (g : Int))) i [.c (.sl bx ox m cc), .junk, .c (.ptr p 0), .c (.int .i64 (hav (backM rows (c : Int) (g : Int)) : Int)), .c (.int .i64 (i : Int)), .c (.int .i64 (c : Int)), .c (.int .i64 0), .c (.int .i64 0), .junk, .c (.bool true), .c (.bool false), .junk, .c (.bool true), .junk, .junk] rfl
    rw [hs] at hr
    unfold ir6_l1
    simp only [enter_eq, ev_seq, seqK_norm, seqK_exit, seqK_ret, ev_reg, ev_cond, condK_true, condK_false, ev_block, blockK_norm, blockK_ret, blockK_exit, ev_loop, ev_skip, ev_exit, ev_ret, regK_cons, regK_nil, guard_none, guard_some, regG_true, regG_false, regO_some, op_mov, op_conv, op_bin, op_bsl, op_box, op_mks, op_s2b, op_pick, op_un, op_eq, op_len, op_ext, op_load, op_iaddr, op_slice, op_b2s, op_idxS, op_mx, op_mn, op_call, op_store, op_app, op_copy, args_eq, result_one', rv_loc, finish_norm, finish_ret, outK_some, keep_true, keep_false, keep_nil, p_bin, p_pick, p_un, p_eq, p_conv, evNew, pureK_some, newK_some, X.eval, set_none, set_some, List.map_cons, List.map_nil, List.getD_cons_zero, List.getD_cons_succ, List.getD_nil, List.set_cons_zero, List.set_cons_succ, binCV, unCV, isShift, intArithF_eq, shiftF_eq, wrapF_eq, intArith, shift, eqVal, bound, asNat_cast, cond_true, cond_false, BEq.rfl, beq_self_eq_true, evalParts, fillParts, AV.cells, AV.ofCells, XV.av, AV.xv, List.length_cons, List.length_nil, zeros, patch, setMany, List.nil_append, List.cons_append, Nat.ble, Nat.add_eq, Nat.zero_add, Nat.add_zero, Nat.reduceAdd, Nat.reduceMul, Nat.reduceSub, Nat.ble_eq, Nat.reduceLeDiff, Nat.reduceBEq, Int.reduceBEq, Int.reduceNeg, Bool.and_true, Bool.and_false, Bool.true_and, Bool.false_and, Bool.not_true, Bool.not_false, Bool.true_eq_false, Bool.false_eq_true, Int.reduceLT, Int.reduceLE, Int.reduceGT, Int.reduceGE, decide_true, decide_false, Bool.not_eq_true, loopN_norm, loopN_exit, tf, ft, ff, bneI, lx, v1, v2, v3, m1, p_iaddr, p_faddr, op_faddr, p_load, AV.ofCells, k0, k1, k3, ec, eK, hK, eg', e1, c1, v4, hr, blockK_exit_eq]
    refine ⟨_, _, _, rfl, ?_, t1, by omega, ok', x1⟩; rfl
  · have c1 : decide (pageM rows (c : Int) (g : Int) ≥ 0) = false := decide_eq_false q
    obtain ⟨r, hr, rfl⟩ := sumPins t1 (by omega) (.sl bx ox m cc) (hav rows) i [.c (.sl bx ox m cc), .junk, .c (.ptr p 0), .c (.int .i64 (hav rows : Int)), .c (.int .i64 (i : Int)), .c (.int .i64 (c : Int)), .c (.int .i64 0), .c (.int .i64 0), .junk, .c (.bool true), .c (.bool false), .junk, .c (.bool false), .junk, .junk] rfl
    rw [hs, hv] at hr
    unfold ir6_l1
    simp only [enter_eq, ev_seq, seqK_norm, seqK_exit, seqK_ret, ev_reg, ev_cond, condK_true, condK_false, ev_block, blockK_norm, blockK_ret, blockK_exit, ev_loop, ev_skip, ev_exit, ev_ret, regK_cons, regK_nil, guard_none, guard_some, regG_true, regG_false, regO_some, op_mov, op_conv, op_bin, op_bsl, op_box, op_mks, op_s2b, op_pick, op_un, op_eq, op_len, op_ext, op_load, op_iaddr, op_slice, op_b2s, op_idxS, op_mx, op_mn, op_call, op_store, op_app, op_copy, args_eq, result_one', rv_loc, finish_norm, finish_ret, outK_some, keep_true, keep_false, keep_nil, p_bin, p_pick, p_un, p_eq, p_conv, evNew, pureK_some, newK_some, X.eval, set_none, set_some, List.map_cons, List.map_nil, List.getD_cons_zero, List.getD_cons_succ, List.getD_nil, List.set_cons_zero, List.set_cons_succ, binCV, unCV, isShift, intArithF_eq, shiftF_eq, wrapF_eq, intArith, shift, eqVal, bound, asNat_cast, cond_true, cond_false, BEq.rfl, beq_self_eq_true, evalParts, fillParts, AV.cells, AV.ofCells, XV.av, AV.xv, List.length_cons, List.length_nil, zeros, patch, setMany, List.nil_append, List.cons_append, Nat.ble, Nat.add_eq, Nat.zero_add, Nat.add_zero, Nat.reduceAdd, Nat.reduceMul, Nat.reduceSub, Nat.ble_eq, Nat.reduceLeDiff, Nat.reduceBEq, Int.reduceBEq, Int.reduceNeg, Bool.and_true, Bool.and_false, Bool.true_and, Bool.false_and, Bool.not_true, Bool.not_false, Bool.true_eq_false, Bool.false_eq_true, Int.reduceLT, Int.reduceLE, Int.reduceGT, Int.reduceGE, decide_true, decide_false, Bool.not_eq_true, loopN_norm, loopN_exit, tf, ft, ff, bneI, lx, v1, v2, v3, m1, p_iaddr, p_faddr, op_faddr, p_load, AV.ofCells, k0, k1, k3, ec, eK, hK, eg', e1, c1, hr, blockK_exit_eq]
    refine ⟨_, _, _, rfl, ?_, t1, by omega, ok', x1⟩
    rw [hv]; rfl
end

theorem handlePins {x : CV} {h : Heap} {m : Nat} {xs : List Int} (hx : Recs 4 h x m xs) : good (evCallT table 14 200 9 6 [.c x] h) = true := by
  have lx : ∀ (loc vals : List AV) (h : Heap), evPure loc (.c x :: vals) h (.len .sl (.val 0)) = some (.c (.int .i64 (m : Int))) := fun _ _ _ => hx.len rfl
  rw [evCallT_eq (F := ir6) rfl rfl rfl]
  unfold ir6
  rw [bodyK_eq]
  obtain ⟨p, b, bs, h1, e1, t1, x1, hp, hb, hbs⟩ : ∃ p b bs h', evCallT table 14 200 8 11 [.c (.int .i64 3)] h = some (.c (.ptr p 0), h') ∧ HB h' p b bs (List.replicate 3 six0) ∧ Ext h h' ∧ h.next ≤ p ∧ h.next ≤ b ∧ ∀ k ∈ bs, h.next ≤ k := new_ok (N := 200) (d := 4) (n := 3) (by omega) (by omega) (by omega)
  have hx2 : Recs 4 h1 x m xs := hx.ext x1
  have hxb : ∀ k, blk x = some k → k ∉ bs := fun k hk hS => by
    rcases hx.is with ⟨rfl, _⟩ | ⟨i, o, c, rfl, hi⟩
    · cases hk
    · simp [blk] at hk
      subst hk
      have := hbs _ hS; omega
  have ok0 : ∀ r ∈ List.replicate 3 six0, ∀ v ∈ r, (-1 : Int) ≤ v ∧ v < 5 := fun r hr v hv => by
    rw [(List.mem_replicate.1 hr).2] at hv; simp [six0] at hv; omega
  have L : ∀ loc, keepOnly ir6_k1 loc = AtP x p 0 0 → ∃ r, loopK (evCallT table 14 200 8) 200 ir6_k1 ir6_l1 200 loc h1 = some r ∧ ∃ a0 a1 l h', r = (.exit 0, a0 :: a1 :: l, h') := by
    intro loc hloc
    refine loop_inv (n := min m 100) (fun i loc h' => ∃ rows, HB h' p b bs rows ∧ rows.length = 3 ∧ (∀ r ∈ rows, ∀ v ∈ r, (-1 : Int) ≤ v ∧ v < 5) ∧ Recs 4 h' x m xs ∧ loc = AtP x p (hav rows) i) _ ?_ ⟨_, t1, rfl, ok0, hx2, hloc⟩ (by omega)
    rintro i loc h' hi ⟨rows, t', hl, ok, hx', rfl⟩
    by_cases hlt : i < m ∧ i < 100
    · left
      refine ⟨by omega, ?_⟩
      obtain ⟨hl1, hl2⟩ := hlt
      obtain ⟨c, hc, ec⟩ := few (a := xs.getD (i * 4 + 1) 0) (m := 3) (by omega) (by omega)
      have ec' : IntKind.i64.wrap (Int.tmod (IntKind.u64.wrap (xs.getD (i * 4 + 1) 0)) 3) = (c : Int) := ec
      obtain ⟨K, eK⟩ : ∃ K, IntKind.i64.wrap ((BitVec.ofInt IntKind.i64.bits (xs.getD (i * 4) 0) &&& BitVec.ofInt IntKind.i64.bits 1).toNat : Int) = K := ⟨_, rfl⟩
      obtain ⟨bx, ox, cc, rfl, _⟩ : ∃ i o c, x = .sl i o m c ∧ i < h'.next := by
        rcases hx'.is with ⟨_, h0⟩ | h1
        · omega
        · exact h1
      cases h0 : (K == 0) with
      | true =>
        obtain ⟨l, H, rows', e1, e2, t2, hl2, ok2, x⟩ := stepG t' hl ok hx' hl1 hl2 hc ec' eK h0
        exact ⟨_, _, e1, _, t2, hl2, ok2, hx'.extB x hxb, e2⟩
      | false =>
        obtain ⟨l, H, rows', e1, e2, t2, hl2, ok2, x⟩ := stepB t' hl ok hx' hl1 hl2 ec' eK h0
        exact ⟨_, _, e1, _, t2, hl2, ok2, hx'.extB x hxb, e2⟩
    · right
      unfold ir6_l1
      by_cases h3 : i < m
      · have v1 : decide ((i : Int) < (m : Int)) = true := ltNat h3
        have v3 : decide ((i : Int) < 100) = false := decide_eq_false (by omega)
        simp only [enter_eq, ev_seq, seqK_norm, seqK_exit, seqK_ret, ev_reg, ev_cond, condK_true, condK_false, ev_block, blockK_norm, blockK_ret, blockK_exit, ev_loop, ev_skip, ev_exit, ev_ret, regK_cons, regK_nil, guard_none, guard_some, regG_true, regG_false, regO_some, op_mov, op_conv, op_bin, op_bsl, op_box, op_mks, op_s2b, op_pick, op_un, op_eq, op_len, op_ext, op_load, op_iaddr, op_slice, op_b2s, op_idxS, op_mx, op_mn, op_call, op_store, op_app, op_copy, args_eq, result_one', rv_loc, finish_norm, finish_ret, outK_some, keep_true, keep_false, keep_nil, p_bin, p_pick, p_un, p_eq, p_conv, evNew, pureK_some, newK_some, X.eval, set_none, set_some, List.map_cons, List.map_nil, List.getD_cons_zero, List.getD_cons_succ, List.getD_nil, List.set_cons_zero, List.set_cons_succ, binCV, unCV, isShift, intArithF_eq, shiftF_eq, wrapF_eq, intArith, shift, eqVal, bound, asNat_cast, cond_true, cond_false, BEq.rfl, beq_self_eq_true, evalParts, fillParts, AV.cells, AV.ofCells, XV.av, AV.xv, List.length_cons, List.length_nil, zeros, patch, setMany, List.nil_append, List.cons_append, Nat.ble, Nat.add_eq, Nat.zero_add, Nat.add_zero, Nat.reduceAdd, Nat.reduceMul, Nat.reduceSub, Nat.ble_eq, Nat.reduceLeDiff, Nat.reduceBEq, Int.reduceBEq, Int.reduceNeg, Bool.and_true, Bool.and_false, Bool.true_and, Bool.false_and, Bool.not_true, Bool.not_false, Bool.true_eq_false, Bool.false_eq_true, Int.reduceLT, Int.reduceLE, Int.reduceGT, Int.reduceGE, decide_true, decide_false, Bool.not_eq_true, loopN_norm, loopN_exit, tf, ft, ff, lx, v1, v3]
        exact ⟨_, rfl, by simp, _, _, _, _, rfl⟩
      · have v1 : decide ((i : Int) < (m : Int)) = false := geNat (by omega)
        simp only [enter_eq, ev_seq, seqK_norm, seqK_exit, seqK_ret, ev_reg, ev_cond, condK_true, condK_false, ev_block, blockK_norm, blockK_ret, blockK_exit, ev_loop, ev_skip, ev_exit, ev_ret, regK_cons, regK_nil, guard_none, guard_some, regG_true, regG_false, regO_some, op_mov, op_conv, op_bin, op_bsl, op_box, op_mks, op_s2b, op_pick, op_un, op_eq, op_len, op_ext, op_load, op_iaddr, op_slice, op_b2s, op_idxS, op_mx, op_mn, op_call, op_store, op_app, op_copy, args_eq, result_one', rv_loc, finish_norm, finish_ret, outK_some, keep_true, keep_false, keep_nil, p_bin, p_pick, p_un, p_eq, p_conv, evNew, pureK_some, newK_some, X.eval, set_none, set_some, List.map_cons, List.map_nil, List.getD_cons_zero, List.getD_cons_succ, List.getD_nil, List.set_cons_zero, List.set_cons_succ, binCV, unCV, isShift, intArithF_eq, shiftF_eq, wrapF_eq, intArith, shift, eqVal, bound, asNat_cast, cond_true, cond_false, BEq.rfl, beq_self_eq_true, evalParts, fillParts, AV.cells, AV.ofCells, XV.av, AV.xv, List.length_cons, List.length_nil, zeros, patch, setMany, List.nil_append, List.cons_append, Nat.ble, Nat.add_eq, Nat.zero_add, Nat.add_zero, Nat.reduceAdd, Nat.reduceMul, Nat.reduceSub, Nat.ble_eq, Nat.reduceLeDiff, Nat.reduceBEq, Int.reduceBEq, Int.reduceNeg, Bool.and_true, Bool.and_false, Bool.true_and, Bool.false_and, Bool.not_true, Bool.not_false, Bool.true_eq_false, Bool.false_eq_true, Int.reduceLT, Int.reduceLE, Int.reduceGT, Int.reduceGE, decide_true, decide_false, Bool.not_eq_true, loopN_norm, loopN_exit, tf, ft, ff, lx, v1]
        exact ⟨_, rfl, by simp, _, _, _, _, rfl⟩
  obtain ⟨r, hr, a0, a1, l, h', rfl⟩ := L [.c x, .c (.bool false), .c (.ptr p 0), .c (.int .i64 0), .c (.int .i64 0), .tup [], .tup [], .tup [], .c (.bool false), .tup [], .tup [], .tup [], .tup [], .tup [], .tup []] rfl
  simp only [enter_eq, ev_seq, seqK_norm, seqK_exit, seqK_ret, ev_reg, ev_cond, condK_true, condK_false, ev_block, blockK_norm, blockK_ret, blockK_exit, ev_loop, ev_skip, ev_exit, ev_ret, regK_cons, regK_nil, guard_none, guard_some, regG_true, regG_false, regO_some, op_mov, op_conv, op_bin, op_bsl, op_box, op_mks, op_s2b, op_pick, op_un, op_eq, op_len, op_ext, op_load, op_iaddr, op_slice, op_b2s, op_idxS, op_mx, op_mn, op_call, op_store, op_app, op_copy, args_eq, result_one', rv_loc, finish_norm, finish_ret, outK_some, keep_true, keep_false, keep_nil, p_bin, p_pick, p_un, p_eq, p_conv, evNew, pureK_some, newK_some, X.eval, set_none, set_some, List.map_cons, List.map_nil, List.getD_cons_zero, List.getD_cons_succ, List.getD_nil, List.set_cons_zero, List.set_cons_succ, binCV, unCV, isShift, intArithF_eq, shiftF_eq, wrapF_eq, intArith, shift, eqVal, bound, asNat_cast, cond_true, cond_false, BEq.rfl, beq_self_eq_true, evalParts, fillParts, AV.cells, AV.ofCells, XV.av, AV.xv, List.length_cons, List.length_nil, zeros, patch, setMany, List.nil_append, List.cons_append, Nat.ble, Nat.add_eq, Nat.zero_add, Nat.add_zero, Nat.reduceAdd, Nat.reduceMul, Nat.reduceSub, Nat.ble_eq, Nat.reduceLeDiff, Nat.reduceBEq, Int.reduceBEq, Int.reduceNeg, Bool.and_true, Bool.and_false, Bool.true_and, Bool.false_and, Bool.not_true, Bool.not_false, Bool.true_eq_false, Bool.false_eq_true, Int.reduceLT, Int.reduceLE, Int.reduceGT, Int.reduceGE, decide_true, decide_false, Bool.not_eq_true, loopN_norm, loopN_exit, tf, ft, ff, e1, hr, blockK_exit_eq, evCallT_told]
  rfl

end Lav

namespace Go.Proofs.Ytakkkibaaipmcaa.handlePins
open Go.ChangeShapes Go.WideShapes Go.ChangeAt Go.RowKit
open Go.ChangeMaps (open_string shut_string)
set_option linter.unusedVariables false

theorem own : ownKnob Try.prog.godebug = none := by kernel_rfl
theorem laidOut : laidOutB Try.prog = true := by kernel_rfl

/-- What the walk is told of a slice of records of ints that came in: it is nil; or it leads to a row of 'cap' records, 'sz' cells each. -/
def IsRecs (sz : Nat) (w : World) (a : Option Addr) (len cap : Nat) (zs : List Int) : Prop :=
  (a = none ∧ len = 0 ∧ cap = 0 ∧ zs = []) ∨
  ∃ x, a = some x ∧ len ≤ cap ∧ cap ≤ maxLen ∧ zs.length = cap * sz ∧ (∀ i, i < zs.length → w.cell? (x.add i) = some (.int .i64 (zs.getD i 0))) ∧ ∀ n ∈ zs, (Lit.int .i64 n).wf = true

theorem walk (a0 : Option Addr) (len0 cap0 : Nat) (z0 : List Int) (w : World) (w0 : IsRecs 4 w a0 len0 cap0 z0) :
    Calls Try.prog 6 #[.slice a0 len0 cap0] w fun e w' => e = .returned (.bool true) ∧ Below w.heap.size w w' := by
  obtain ⟨ι, h, x, I, hle, hx, hr⟩ := (Lav.Init.empty w).recs (sz := 4) (by omega) w0
  exact Lav.walk_of (Lav.evCallT_sound Lav.mixed Lav.table_ok Lav.tld12 200 9) I (args := [.c x]) (vs := [.slice a0 len0 cap0]) ⟨hx, trivial⟩ (Lav.handlePins (Lav.recs_of hr))

set_option maxRecDepth 100000 in
theorem lifted (os : Os) (started : os.Started) (H : Type) (enc : TypeId × Value → H) :
    ReturnsInHanded {} Try.checked os 6 .any (Rows.handlePinsSpec.pre6 enc Try.prog Try.f6 Rows.handlePinsRow.domain false) (Rows.handlePinsSpec.post enc Try.prog Try.f6 false true false false) := by
  refine returnsInHanded_of_change (C := Try.checked) own started (by kernel_rfl) Try.func6
    (ChangeSpec.witness6 (enc := enc) (C := Try.checked) false ⟨#[], #[.slice none 0 0], []⟩ 8 (by kernel_rfl) (by kernel_rfl) (by kernel_rfl) (by kernel_rfl)) ?_
  intro W base args ds gs before hval0 hW hcnd _
  have hval : ∀ (j : Nat) t v, Try.f6.params[j]? = some t → args[j]? = some v → Value.okWide Try.prog W .any base t v := hval0
  have hW' := hW
  obtain ⟨p, q, hA0, hV, rfl, hfz, hnd⟩ := hW
  have hA : DataW.TrodAll enc Try.prog W 0 (fun _ => true) true Try.f6.params.toList args.toList ds p := hA0
  rw [Try.params6] at hA hval
  obtain ⟨v0, vs0, d0, ds0, p0, q0, hargs, rfl, rfl, h0, r0⟩ := trodAll_cons hA
  obtain ⟨rfl, rfl, rfl⟩ := trodAll_nil r0
  obtain rfl : args = #[v0] := by cases args; simp_all
  obtain ⟨rfl, rfl⟩ := trodVars_none hV
  obtain ⟨a0, len0, cap0, rfl⟩ := okWide_slice Try.underlying32 (hval 0 32 v0 rfl rfl)
  have k0 := h0
  have lt0 : ∀ x ∈ p0, x.block < W.heap.size := by obtain ⟨m, hm⟩ := k0; exact DataW.trod_lt m _ _ _ hm
  obtain ⟨z0, w0⟩ : ∃ zs, IsRecs 4 W a0 len0 cap0 zs := by
    obtain ⟨fuel, hf⟩ := h0
    rcases Lav.open_recs (sz := 4) Try.underlying32 Try.underlying36 (by kernel_rfl) (by
        intro j hj
        match j, hj with
        | 0, _ => exact ⟨0, _, rfl, rfl, Try.underlying3, by kernel_rfl⟩
        | 1, _ => exact ⟨1, _, rfl, rfl, Try.underlying3, by kernel_rfl⟩
        | 2, _ => exact ⟨2, _, rfl, rfl, Try.underlying3, by kernel_rfl⟩
        | 3, _ => exact ⟨3, _, rfl, rfl, Try.underlying3, by kernel_rfl⟩
        | j + 4, hj => omega) hf with hcs | ⟨x, l, c, zs, hcs, hl, hm, hz, hcell, hwz⟩
    · simp [Value.cells] at hcs
      obtain ⟨rfl, rfl, rfl⟩ := hcs
      exact ⟨[], .inl ⟨rfl, rfl, rfl, rfl⟩⟩
    · simp [Value.cells] at hcs
      obtain ⟨rfl, rfl, rfl⟩ := hcs
      exact ⟨zs, .inr ⟨_, rfl, hl, hm, by simpa using hz, hcell, hwz⟩⟩
  clear hA0 hval0
  refine (walk a0 len0 cap0 z0 W w0).mono fun e W' ⟨he, bel⟩ => ?_
  subst he
  exact ⟨_, rfl, _, _, _, [], _, [], hW', trodAll_mk1 (shut_bool Try.underlying4 _), (trodAll_cons_mk (Below.trod laidOut (by kernel_rfl) (of_decide_eq_true (by kernel_rfl)) k0 bel lt0) trodAll_mk0), rfl, bel.frame _, fun h => by cases h⟩

theorem over : Rows.handlePinsRow.holds Try.pinned (OpenSpec.ofChange Rows.handlePinsSpec) :=
  OpenClaim.holds_of_wide 6 Try.f6 rfl rfl rfl rfl rfl rfl rfl ⟨rfl, rfl, rfl, rfl, rfl⟩ rfl rfl rfl rfl rfl (by kernel_rfl) Try.func6 (by kernel_rfl)
    (of_decide_eq_true (by kernel_rfl)) (by unfold Func.isWrapper; first | (rw [if_pos (by decide +kernel)]; kernel_rfl) | (rw [if_neg (by decide +kernel)]; exact ⟨rfl, rfl⟩))
    (fun os started H enc _ => lifted os started H enc)

theorem proved : Rows.HandlePinsSaid := over
end Go.Proofs.Ytakkkibaaipmcaa.handlePins
