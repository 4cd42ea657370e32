/-
  Layer 2: images of pages.
-/
import Derived.Test.YtnjfpdkdafdfdaaSumT
set_option maxRecDepth 100000
set_option linter.unusedSimpArgs false
namespace Lav
open Go (IntKind)

def u8c (b : BitVec 8) : CV := .int .u8 (b.toNat : Int)
def u8s (bs : List (BitVec 8)) : List CV := bs.map u8c
theorem u8s_len (bs : List (BitVec 8)) : (u8s bs).length = bs.length := by simp [u8s]

theorem Bytes.ext {h h' : Heap} {x : CV} {bs : List (BitVec 8)} (hx : Bytes h x bs) (e : Ext h h') : Bytes h' x bs := by
  rcases hx with h1 | ⟨i, o, c, h1, h2, h3⟩
  · exact .inl h1
  · exact .inr ⟨i, o, c, h1, Nat.lt_of_lt_of_le h2 e.1, fun j b hj => (e.read h2).trans (h3 j b hj)⟩
theorem Bytes.len {h h0 : Heap} {x : CV} {bs : List (BitVec 8)} (hx : Bytes h0 x bs) {loc vals : List AV} {X' : X} (hX : X'.eval loc vals = .c x) : evPure loc vals h (.len .sl X') = some (.c (.int .i64 (bs.length : Int))) := by
  rcases hx with ⟨rfl, rfl⟩ | ⟨i, o, c, rfl, _, _⟩ <;> simp only [evPure, hX] <;> rfl

/-- Bytes in a block of their own, from a place on. -/
theorem bytes_at {h : Heap} {i o n : Nat} {c : Cap} {bs : List (BitVec 8)} (hi : i < h.next) (hg : h.get i = some (.cells (u8s bs))) (hn : n = bs.length - o) : Bytes h (.sl i o n c) (bs.drop o) := by
  refine .inr ⟨i, o, c, by rw [hn, List.length_drop], hi, fun j b hj => ?_⟩
  rw [Nat.mul_one]
  refine read_cells hg ?_
  rw [List.getElem?_drop] at hj
  simp [u8s, hj, u8c]

/-- All of a slice of bytes, as a copy takes it. -/
theorem Bytes.source {h : Heap} {x : CV} {bs : List (BitVec 8)} (hx : Bytes h x bs) : source h 1 (.c x) = some (bs.length, u8s bs) := by
  rcases hx with ⟨rfl, rfl⟩ | ⟨i, o, c, rfl, hi, hr⟩
  · rfl
  · by_cases h0 : bs = []
    · subst h0
      simp only [Lav.source, List.length_nil, Nat.zero_mul]
      cases hr0 : h.read i o 0 with
      | none => rfl
      | some l =>
        have : l = [] := by
          have key : ∀ m, cut m o 0 = some l → l = [] := fun m hm => by
            unfold cut at hm
            cases hc : Nat.ble (o + 0) m.length with
            | false => rw [hc] at hm; cases hm
            | true => rw [hc] at hm; simp at hm; exact hm
          unfold Heap.read at hr0
          split at hr0
          · exact key _ hr0
          · exact key _ hr0
          · cases hr0
        subst this; rfl
    · have hpos : 0 < bs.length := List.length_pos_iff.2 h0
      have key : ∀ m : List CV, (∀ j b, bs[j]? = some b → cut m (o + j * 1) 1 = some [u8c b]) → cut m o (bs.length * 1) = some (u8s bs) := by
        intro m hm
        have cut1 : ∀ p v, cut m p 1 = some [v] → p < m.length ∧ m[p]? = some v := by
          intro p v hc
          unfold cut at hc
          cases hb : Nat.ble (p + 1) m.length with
          | false => rw [hb] at hc; cases hc
          | true =>
            rw [hb] at hc
            have hl : p + 1 ≤ m.length := Nat.le_of_ble_eq_true hb
            simp only [cond_true, Option.some.injEq] at hc
            rw [List.drop_eq_getElem_cons (by omega), List.take_succ_cons, List.take_zero] at hc
            simp only [List.cons.injEq, and_true] at hc
            exact ⟨by omega, by rw [List.getElem?_eq_getElem (by omega), hc]⟩
        have hlast := (cut1 _ _ (hm (bs.length - 1) bs[bs.length - 1] (by simp))).1
        rw [Nat.mul_one, cut_part (by omega)]
        congr 1
        apply List.ext_getElem?
        intro j
        rcases Nat.lt_or_ge j bs.length with hj | hj
        · have := (cut1 _ _ (hm j bs[j] (by simp [hj]))).2
          rw [Nat.mul_one] at this
          rw [List.getElem?_take, if_pos hj, List.getElem?_drop, this]; simp [hj, u8s]
        · rw [List.getElem?_take, if_neg (by omega), List.getElem?_eq_none (by simp [u8s]; omega)]
      have whole : h.read i o (bs.length * 1) = some (u8s bs) := by
        unfold Heap.read at hr ⊢
        cases hg : h.get i with
        | none => have := hr 0 bs[0] (by simp [hpos]); simp [hg] at this
        | some b =>
          cases b with
          | cells m => simp only [hg] at hr ⊢; exact key m hr
          | ro m => simp only [hg] at hr ⊢; exact key m hr
          | chan c m => have := hr 0 bs[0] (by simp [hpos]); simp [hg] at this
      simp only [Lav.source, whole]

/-- A page's image. -/
def headOf (id : Nat) (body : List (BitVec 8)) : List (BitVec 8) := [BitVec.ofNat 8 (id + 1), 0#8, 90#8, 165#8] ++ body
def byteOf (s : BitVec 32) (i : Nat) : BitVec 8 := (s >>> (8 * i)).setWidth 8
def imgOf (id : Nat) (body : List (BitVec 8)) : List (BitVec 8) := [byteOf (bof (headOf id body)) 0, byteOf (bof (headOf id body)) 1, byteOf (bof (headOf id body)) 2, byteOf (bof (headOf id body)) 3] ++ headOf id body

theorem wrap8 (b : BitVec 32) : IntKind.u8.wrap (b.toNat : Int) = ((b.setWidth 8).toNat : Int) := by
  have hb := b.isLt
  rw [BitVec.toNat_setWidth]
  generalize b.toNat = n at *
  simp only [IntKind.wrap, IntKind.bits, IntKind.signed]
  simp
theorem shr32n (b : BitVec 32) (i : Nat) (hi : i < 4) : (b.toNat : Int).fdiv (2 ^ (min (Int.toNat ((8 * i : Nat) : Int)) IntKind.u32.bits)) = ((b >>> (8 * i)).toNat : Int) := by
  rw [BitVec.toNat_ushiftRight, Nat.shiftRight_eq_div_pow, Int.toNat_natCast]
  have e : min (8 * i) IntKind.u32.bits = 8 * i := by simp only [IntKind.bits]; omega
  rw [e, Int.fdiv_eq_ediv_of_nonneg _ (by exact_mod_cast Nat.zero_le _)]
  norm_cast

section
variable {N d : Nat} {h : Heap}

theorem is_ok (id : Int) : evCallT table 24 N (d + 1) 38 [.c (.int .i64 id)] h = some (.c (.bool (decide (id ≥ 0) && decide (id < 48))), h) := by
  rw [evCallT_eq (F := ir38) rfl rfl rfl]
  unfold ir38
  rw [bodyK_eq]
  cases h0 : decide (id ≥ 0) <;> simp only [enter_eq, ev_seq, seqK_norm, seqK_exit, seqK_ret, ev_reg, ev_cond, condK_true, condK_false, ev_block, blockK_norm, blockK_ret, blockK_exit, ev_loop, ev_skip, ev_exit, ev_ret, regK_cons, regK_nil, guard_none, guard_some, regG_true, regG_false, regO_some, op_mov, op_conv, op_bin, op_bsl, op_box, op_mks, op_s2b, op_pick, op_un, op_eq, op_len, op_ext, op_load, op_iaddr, op_slice, op_b2s, op_idxS, op_mx, op_mn, op_call, op_store, op_app, op_copy, args_eq, result_one', rv_loc, finish_norm, finish_ret, outK_some, keep_true, keep_false, keep_nil, p_bin, p_pick, p_un, p_eq, p_conv, evNew, pureK_some, newK_some, X.eval, set_none, set_some, List.map_cons, List.map_nil, List.getD_cons_zero, List.getD_cons_succ, List.getD_nil, List.set_cons_zero, List.set_cons_succ, binCV, unCV, isShift, intArithF_eq, shiftF_eq, wrapF_eq, intArith, shift, eqVal, bound, asNat_cast, cond_true, cond_false, BEq.rfl, beq_self_eq_true, evalParts, fillParts, AV.cells, AV.ofCells, XV.av, AV.xv, List.length_cons, List.length_nil, zeros, patch, setMany, List.nil_append, List.cons_append, Nat.ble, Nat.add_eq, Nat.zero_add, Nat.add_zero, Nat.reduceAdd, Nat.reduceMul, Nat.reduceSub, Nat.ble_eq, Nat.reduceLeDiff, Nat.reduceBEq, Int.reduceBEq, Int.reduceNeg, Bool.and_true, Bool.and_false, Bool.true_and, Bool.false_and, Bool.not_true, Bool.not_false, Bool.true_eq_false, Bool.false_eq_true, Int.reduceLT, Int.reduceLE, Int.reduceGT, Int.reduceGE, decide_true, decide_false, Bool.not_eq_true, loopN_norm, loopN_exit, tf, ft, ff, h0, Bool.true_and, Bool.false_and]

theorem zeros8 : ∀ n : Nat, zeros n [.int .u8 0] = u8s (List.replicate n 0#8)
  | 0 => rfl
  | n + 1 => by
    show _ :: zeros n _ = _
    rw [zeros8 n]; rfl

theorem blank_ok : evCallT table 24 N (d + 1) 29 [] h = some (.c (.sl h.next 0 24 (.ex 24)), h.new (.cells (u8s (List.replicate 24 0#8)))) := by
  rw [evCallT_eq (F := ir29) rfl rfl rfl]
  unfold ir29
  rw [bodyK_eq]
  have a24 : asNat (.c (.int .i64 24)) = some 24 := rfl
  rw [← zeros8 24]
  simp only [enter_eq, ev_seq, seqK_norm, seqK_exit, seqK_ret, ev_reg, ev_cond, condK_true, condK_false, ev_block, blockK_norm, blockK_ret, blockK_exit, ev_loop, ev_skip, ev_exit, ev_ret, regK_cons, regK_nil, guard_none, guard_some, regG_true, regG_false, regO_some, op_mov, op_conv, op_bin, op_bsl, op_box, op_mks, op_s2b, op_pick, op_un, op_eq, op_len, op_ext, op_load, op_iaddr, op_slice, op_b2s, op_idxS, op_mx, op_mn, op_call, op_store, op_app, op_copy, args_eq, result_one', rv_loc, finish_norm, finish_ret, outK_some, keep_true, keep_false, keep_nil, evPure, evNew, pureK_some, newK_some, X.eval, set_none, set_some, List.map_cons, List.map_nil, List.getD_cons_zero, List.getD_cons_succ, List.getD_nil, List.set_cons_zero, List.set_cons_succ, binCV, unCV, isShift, intArithF_eq, shiftF_eq, wrapF_eq, intArith, shift, eqVal, bound, asNat_cast, cond_true, cond_false, BEq.rfl, beq_self_eq_true, evalParts, fillParts, AV.cells, AV.ofCells, XV.av, AV.xv, List.length_cons, List.length_nil, zeros, patch, setMany, List.nil_append, List.cons_append, Nat.ble, Nat.add_eq, Nat.zero_add, Nat.add_zero, Nat.reduceAdd, Nat.reduceMul, Nat.reduceSub, Nat.ble_eq, Nat.reduceLeDiff, Nat.reduceBEq, Int.reduceBEq, Int.reduceNeg, Bool.and_true, Bool.and_false, Bool.true_and, Bool.false_and, Bool.not_true, Bool.not_false, Bool.true_eq_false, Bool.false_eq_true, Int.reduceLT, Int.reduceLE, Int.reduceGT, Int.reduceGE, decide_true, decide_false, Bool.not_eq_true, loopN_norm, loopN_exit, tf, ft, ff, a24]

theorem set_u8 {bs : List (BitVec 8)} {i : Nat} {b : BitVec 8} : (u8s bs).set i (u8c b) = u8s (bs.set i b) := by simp [u8s, List.map_set]

theorem seal_ok {x : CV} {body : List (BitVec 8)} {id : Nat} (hid : id < 48) (hx : Bytes h x body) (hl : body.length = 16) (hN : 40 ≤ N) :
    ∃ j h', evCallT table 24 N (d + 4) 25 [.c (.int .i64 (id : Int)), .c x] h = some (.tup [.c (.sl j 0 24 (.ex 24)), .c (.int .i64 0)], h') ∧ h'.get j = some (.cells (u8s (imgOf id body))) ∧ h.next ≤ j ∧ j < h'.next ∧ Ext h h' := by
  have lx : ∀ (loc vals : List AV) (h : Heap), evPure loc (.c x :: vals) h (.len .sl (.val 0)) = some (.c (.int .i64 16)) := fun _ _ _ => (hx.len rfl).trans (by rw [hl]; rfl)
  have e0 : evCallT table 24 N (d + 3) 38 [.c (.int .i64 (id : Int))] h = some (.c (.bool true), h) := by
    rw [is_ok, decide_eq_true (show (id : Int) ≥ 0 by omega), decide_eq_true (show (id : Int) < 48 by omega)]; rfl
  have e1 : evCallT table 24 N (d + 3) 29 [] h = _ := blank_ok (N := N) (d := d + 2)
  obtain ⟨j, hj⟩ : ∃ j, j = h.next := ⟨_, rfl⟩
  generalize hh0 : h.new (.cells (u8s (List.replicate 24 0#8))) = h0 at *
  have n0 : h0.next = h.next + 1 := by rw [← hh0]; rfl
  have g0 : h0.get j = some (.cells (u8s (List.replicate 24 0#8))) := by rw [← hh0, hj]; exact get_new_at
  have x0 : Ext h h0 := by rw [← hh0]; exact (Ext.refl _).new _
  rw [← hj] at e1
  have c1 : IntKind.i64.wrap ((id : Int) + 1) = ((id + 1 : Nat) : Int) := succI (by omega)
  have c2 : IntKind.u8.wrap ((id + 1 : Nat) : Int) = ((BitVec.ofNat 8 (id + 1)).toNat : Int) := by
    rw [BitVec.toNat_ofNat]
    simp only [IntKind.wrap, IntKind.bits, IntKind.signed]
    simp
  have c3 : ((id + 1 : Nat) : Int).fdiv (2 ^ (min (Int.toNat 8) IntKind.i64.bits)) = 0 := by
    show ((id + 1 : Nat) : Int).fdiv 256 = 0
    rw [Int.fdiv_eq_ediv_of_nonneg _ (by omega)]; omega
  have c4 : IntKind.u8.wrap 0 = 0 := rfl
  have c5 : decide ((8 : Int) < 0) = false := rfl
  -- the stores of the head
  have st : ∀ (H : Heap) (bs : List (BitVec 8)) (i : Nat) (b : BitVec 8), H.get j = some (.cells (u8s bs)) → i < bs.length → H.write j i [.int .u8 (b.toNat : Int)] = some (H.put j (.cells (u8s (bs.set i b)))) := fun H bs i b hg hi => by
    rw [← set_u8]; exact write_one (v := u8c b) hg (by rw [u8s_len]; exact hi)
  have W4 := st h0 _ 4 (BitVec.ofNat 8 (id + 1)) g0 (by simp)
  have W5 : (h0.put j (.cells (u8s ((List.replicate 24 0#8).set 4 (BitVec.ofNat 8 (id + 1)))))).write j 5 [.int .u8 0] = _ := st _ _ 5 0#8 get_put_at (by simp)
  have W6 : ((h0.put j (.cells (u8s ((List.replicate 24 0#8).set 4 (BitVec.ofNat 8 (id + 1)))))).put j (.cells (u8s (((List.replicate 24 0#8).set 4 (BitVec.ofNat 8 (id + 1))).set 5 0#8)))).write j 6 [.int .u8 90] = _ := st _ _ 6 90#8 get_put_at (by simp)
  have W7 : (((h0.put j (.cells (u8s ((List.replicate 24 0#8).set 4 (BitVec.ofNat 8 (id + 1)))))).put j (.cells (u8s (((List.replicate 24 0#8).set 4 (BitVec.ofNat 8 (id + 1))).set 5 0#8)))).put j (.cells (u8s ((((List.replicate 24 0#8).set 4 (BitVec.ofNat 8 (id + 1))).set 5 0#8).set 6 90#8)))).write j 7 [.int .u8 165] = _ := st _ _ 7 165#8 get_put_at (by simp)
  have hlist : (((((List.replicate 24 0#8).set 4 (BitVec.ofNat 8 (id + 1))).set 5 0#8).set 6 90#8).set 7 165#8) = [0#8, 0#8, 0#8, 0#8, BitVec.ofNat 8 (id + 1), 0#8, 90#8, 165#8] ++ List.replicate 16 0#8 := rfl
  generalize hH7 : ((((h0.put j (.cells (u8s ((List.replicate 24 0#8).set 4 (BitVec.ofNat 8 (id + 1)))))).put j (.cells (u8s (((List.replicate 24 0#8).set 4 (BitVec.ofNat 8 (id + 1))).set 5 0#8)))).put j (.cells (u8s ((((List.replicate 24 0#8).set 4 (BitVec.ofNat 8 (id + 1))).set 5 0#8).set 6 90#8)))).put j (.cells (u8s (((((List.replicate 24 0#8).set 4 (BitVec.ofNat 8 (id + 1))).set 5 0#8).set 6 90#8).set 7 165#8)))) = h7 at *
  have g7 : h7.get j = some (.cells (u8s ([0#8, 0#8, 0#8, 0#8, BitVec.ofNat 8 (id + 1), 0#8, 90#8, 165#8] ++ List.replicate 16 0#8))) := by rw [← hH7, hlist]; exact get_put_at
  have x7 : Ext h h7 := by rw [← hH7]; exact (((x0.put (by omega) _).put (by omega) _).put (by omega) _).put (by omega) _
  have n7 : h7.next = h.next + 1 := by rw [← hH7]; exact n0
  -- the body
  have src := (hx.ext x7).source
  rw [hl] at src
  have WC : h7.write j 8 (u8s body) = some (h7.put j (.cells (u8s ([0#8, 0#8, 0#8, 0#8] ++ headOf id body)))) := by
    have := write_many (vs := u8s body) (o := 8) g7 (by simp [u8s, hl])
    rw [this]
    congr 3
    have e : ∀ l : List (BitVec 8), l.length = 16 → (u8s ([0#8, 0#8, 0#8, 0#8, BitVec.ofNat 8 (id + 1), 0#8, 90#8, 165#8] ++ List.replicate 16 0#8)).take 8 ++ u8s l ++ (u8s ([0#8, 0#8, 0#8, 0#8, BitVec.ofNat 8 (id + 1), 0#8, 90#8, 165#8] ++ List.replicate 16 0#8)).drop (8 + (u8s l).length) = u8s ([0#8, 0#8, 0#8, 0#8] ++ headOf id l) := fun l hl => by
      rw [u8s_len, hl]
      simp [u8s, headOf]
    rw [e body hl]
  have cp : evCopy h7 1 (.c (.sl j (0 + 8 * 1) (24 - 8) (.ex (24 - 8)))) (.c x) = some (.c (.int .i64 16), h7.put j (.cells (u8s ([0#8, 0#8, 0#8, 0#8] ++ headOf id body)))) := by
    have tk : (u8s body).take (min 16 (24 - 8) * 1) = u8s body := List.take_of_length_le (by rw [u8s_len, hl]; decide)
    simp only [evCopy, src, tk]
    have : (0 + 8 * 1) = 8 := rfl
    rw [this, WC]; rfl
  generalize hH8 : h7.put j (.cells (u8s ([0#8, 0#8, 0#8, 0#8] ++ headOf id body))) = h8 at *
  have g8 : h8.get j = some (.cells (u8s ([0#8, 0#8, 0#8, 0#8] ++ headOf id body))) := by rw [← hH8]; exact get_put_at
  have x8 : Ext h h8 := by rw [← hH8]; exact x7.put (by omega) _
  have n8 : h8.next = h.next + 1 := by rw [← hH8]; exact n7
  have hB : Bytes h8 (.sl j 4 20 (.ex 20)) (headOf id body) := by
    have := bytes_at (o := 4) (n := 20) (c := .ex 20) (by omega) g8 (by simp [headOf, hl])
    exact this
  have hhl : (headOf id body).length = 20 := by simp [headOf, hl]
  have e2 : evCallT table 24 N (d + 3) 39 [.c (.sl j 4 20 (.ex 20))] h8 = some (.c (.int .u32 ((bof (headOf id body)).toNat : Int)), h8) := of_ok (N := N) (d := d) (by omega) (by omega) hB
  generalize hs : bof (headOf id body) = s at *
  have L : ∀ loc, keepOnly ir25_k0 loc = [.junk, .junk, .junk, .junk, .c (.sl j 0 24 (.ex 24)), .c (.int .u32 (s.toNat : Int)), .junk, .junk, .c (.int .i64 0), .junk] →
      ∃ r, loopK (evCallT table 24 N (d + 3)) N ir25_k0 ir25_l0 N loc h8 = some r ∧ ∃ h' a0 a1 a2 a3 l, r = (.exit 0, a0 :: a1 :: a2 :: a3 :: .c (.sl j 0 24 (.ex 24)) :: l, h') ∧ h'.get j = some (.cells (u8s (imgOf id body))) ∧ Ext h h' ∧ h'.next = h.next + 1 := by
    intro loc hloc
    refine loop_inv (n := 4) (fun i loc h' => Ext h h' ∧ h'.next = h.next + 1 ∧ (∃ l : List (BitVec 8), h'.get j = some (.cells (u8s (l ++ headOf id body))) ∧ l.length = 4 ∧ ∀ k, k < i → l[k]? = some (byteOf s k)) ∧ loc = [.junk, .junk, .junk, .junk, .c (.sl j 0 24 (.ex 24)), .c (.int .u32 (s.toNat : Int)), .junk, .junk, .c (.int .i64 (i : Int)), .junk]) _ ?_ ⟨x8, n8, ⟨_, g8, rfl, fun k hk => absurd hk (by omega)⟩, hloc⟩ (by omega)
    rintro i loc h' hi ⟨he, hn, ⟨l, hg, hll, hk⟩, rfl⟩
    unfold ir25_l0
    by_cases hlt : i < 4
    · left
      refine ⟨hlt, ?_⟩
      have v1 : decide ((i : Int) < 4) = true := ltNat (n := 4) hlt
      have v2 := succI (i := i) (by omega)
      have m1 : Nat.blt i 24 = true := bltT (by omega)
      have w1 : IntKind.i64.wrap (8 * (i : Int)) = ((8 * i : Nat) : Int) := by rw [wrapI (by omega) (by omega)]; omega
      have w2 : IntKind.u64.wrap ((8 * i : Nat) : Int) = ((8 * i : Nat) : Int) := wrapUNat (by omega)
      have w3 : decide (((8 * i : Nat) : Int) < 0) = false := decide_eq_false (by omega)
      have w4 := shr32n s i hlt
      have w5 : IntKind.u8.wrap ((s >>> (8 * i)).toNat : Int) = ((byteOf s i).toNat : Int) := wrap8 _
      have W := st h' _ i (byteOf s i) hg (by simp [headOf, hl]; omega)
      simp only [enter_eq, ev_seq, seqK_norm, seqK_exit, seqK_ret, ev_reg, ev_cond, condK_true, condK_false, ev_block, blockK_norm, blockK_ret, blockK_exit, ev_loop, ev_skip, ev_exit, ev_ret, regK_cons, regK_nil, guard_none, guard_some, regG_true, regG_false, regO_some, op_mov, op_conv, op_bin, op_bsl, op_box, op_mks, op_s2b, op_pick, op_un, op_eq, op_len, op_ext, op_load, op_iaddr, op_slice, op_b2s, op_idxS, op_mx, op_mn, op_call, op_store, op_app, op_copy, args_eq, result_one', rv_loc, finish_norm, finish_ret, outK_some, keep_true, keep_false, keep_nil, p_bin, p_pick, p_un, p_eq, p_conv, evNew, pureK_some, newK_some, X.eval, set_none, set_some, List.map_cons, List.map_nil, List.getD_cons_zero, List.getD_cons_succ, List.getD_nil, List.set_cons_zero, List.set_cons_succ, binCV, unCV, isShift, intArithF_eq, shiftF_eq, wrapF_eq, intArith, shift, eqVal, bound, asNat_cast, cond_true, cond_false, BEq.rfl, beq_self_eq_true, evalParts, fillParts, AV.cells, AV.ofCells, XV.av, AV.xv, List.length_cons, List.length_nil, zeros, patch, setMany, List.nil_append, List.cons_append, Nat.ble, Nat.add_eq, Nat.zero_add, Nat.add_zero, Nat.reduceAdd, Nat.reduceMul, Nat.reduceSub, Nat.ble_eq, Nat.reduceLeDiff, Nat.reduceBEq, Int.reduceBEq, Int.reduceNeg, Bool.and_true, Bool.and_false, Bool.true_and, Bool.false_and, Bool.not_true, Bool.not_false, Bool.true_eq_false, Bool.false_eq_true, Int.reduceLT, Int.reduceLE, Int.reduceGT, Int.reduceGE, decide_true, decide_false, Bool.not_eq_true, loopN_norm, loopN_exit, tf, ft, ff, v1, v2, w1, w2, w3, w4, w5, p_iaddr, m1, Nat.mul_one, evEff, W]
      refine ⟨_, _, rfl, he.put (by omega) _, hn, ⟨l.set i (byteOf s i), by rw [get_put_at, List.set_append_left _ _ (by omega)], by simpa using hll, fun k hki => ?_⟩, rfl⟩
      by_cases e : k = i
      · subst e; rw [List.getElem?_set_self (by omega)]
      · rw [List.getElem?_set_ne (Ne.symm e)]; exact hk k (by omega)
    · right
      have hi4 : i = 4 := by omega
      subst hi4
      simp only [enter_eq, ev_seq, seqK_norm, seqK_exit, seqK_ret, ev_reg, ev_cond, condK_true, condK_false, ev_block, blockK_norm, blockK_ret, blockK_exit, ev_loop, ev_skip, ev_exit, ev_ret, regK_cons, regK_nil, guard_none, guard_some, regG_true, regG_false, regO_some, op_mov, op_conv, op_bin, op_bsl, op_box, op_mks, op_s2b, op_pick, op_un, op_eq, op_len, op_ext, op_load, op_iaddr, op_slice, op_b2s, op_idxS, op_mx, op_mn, op_call, op_store, op_app, op_copy, args_eq, result_one', rv_loc, finish_norm, finish_ret, outK_some, keep_true, keep_false, keep_nil, p_bin, p_pick, p_un, p_eq, p_conv, evNew, pureK_some, newK_some, X.eval, set_none, set_some, List.map_cons, List.map_nil, List.getD_cons_zero, List.getD_cons_succ, List.getD_nil, List.set_cons_zero, List.set_cons_succ, binCV, unCV, isShift, intArithF_eq, shiftF_eq, wrapF_eq, intArith, shift, eqVal, bound, asNat_cast, cond_true, cond_false, BEq.rfl, beq_self_eq_true, evalParts, fillParts, AV.cells, AV.ofCells, XV.av, AV.xv, List.length_cons, List.length_nil, zeros, patch, setMany, List.nil_append, List.cons_append, Nat.ble, Nat.add_eq, Nat.zero_add, Nat.add_zero, Nat.reduceAdd, Nat.reduceMul, Nat.reduceSub, Nat.ble_eq, Nat.reduceLeDiff, Nat.reduceBEq, Int.reduceBEq, Int.reduceNeg, Bool.and_true, Bool.and_false, Bool.true_and, Bool.false_and, Bool.not_true, Bool.not_false, Bool.true_eq_false, Bool.false_eq_true, Int.reduceLT, Int.reduceLE, Int.reduceGT, Int.reduceGE, decide_true, decide_false, Bool.not_eq_true, loopN_norm, loopN_exit, tf, ft, ff]
      refine ⟨_, rfl, by simp, h', _, _, _, _, _, rfl, ?_, he, hn⟩
      rw [hg]
      congr 3
      have e4 : l = [byteOf s 0, byteOf s 1, byteOf s 2, byteOf s 3] := by
        apply List.ext_getElem?
        intro k
        rcases Nat.lt_or_ge k 4 with h | h
        · rw [hk k h]
          match k, h with
          | 0, _ => rfl
          | 1, _ => rfl
          | 2, _ => rfl
          | 3, _ => rfl
        · rw [List.getElem?_eq_none (by omega), List.getElem?_eq_none (by simp; omega)]
      rw [e4]; unfold imgOf; rw [hs]
  obtain ⟨r, hr, h', a0, a1, a2, a3, l, rfl, g', x', n'⟩ := L [.c (.int .i64 (id : Int)), .c x, .c .nils, .c (.int .i64 0), .c (.sl j 0 24 (.ex 24)), .c (.int .u32 (s.toNat : Int)), .tup [], .c (.bool false), .c (.int .i64 0), .tup []] rfl
  have bne16 : ((16 : Int) != 16) = false := rfl
  have sl8 : ∀ loc vals H, evPure loc (.c (.sl j 0 24 (.ex 24)) :: vals) H (.slice 1 (.val 0) (some (.k (.c (.int .i64 8)))) none none) = some (.c (.sl j (0 + 8 * 1) (24 - 8) (.ex (24 - 8)))) := fun _ _ _ => rfl
  have sl4 : ∀ loc vals H, evPure loc (.c (.sl j 0 24 (.ex 24)) :: vals) H (.slice 1 (.val 0) (some (.k (.c (.int .i64 4)))) none none) = some (.c (.sl j 4 20 (.ex 20))) := fun _ _ _ => rfl
  rw [evCallT_eq (F := ir25) rfl rfl rfl]
  unfold ir25
  rw [bodyK_eq]
  have a4 : asNat (.c (.int .i64 4)) = some 4 := rfl
  have a5 : asNat (.c (.int .i64 5)) = some 5 := rfl
  have a6 : asNat (.c (.int .i64 6)) = some 6 := rfl
  have a7 : asNat (.c (.int .i64 7)) = some 7 := rfl
  have b4 : Nat.blt 4 24 = true := rfl
  have b5 : Nat.blt 5 24 = true := rfl
  have b6 : Nat.blt 6 24 = true := rfl
  have b7 : Nat.blt 7 24 = true := rfl
  simp only [enter_eq, ev_seq, seqK_norm, seqK_exit, seqK_ret, ev_reg, ev_cond, condK_true, condK_false, ev_block, blockK_norm, blockK_ret, blockK_exit, ev_loop, ev_skip, ev_exit, ev_ret, regK_cons, regK_nil, guard_none, guard_some, regG_true, regG_false, regO_some, op_mov, op_conv, op_bin, op_bsl, op_box, op_mks, op_s2b, op_pick, op_un, op_eq, op_len, op_ext, op_load, op_iaddr, op_slice, op_b2s, op_idxS, op_mx, op_mn, op_call, op_store, op_app, op_copy, args_eq, result_one', rv_loc, finish_norm, finish_ret, outK_some, keep_true, keep_false, keep_nil, p_bin, p_pick, p_un, p_eq, p_conv, evNew, pureK_some, newK_some, X.eval, set_none, set_some, List.map_cons, List.map_nil, List.getD_cons_zero, List.getD_cons_succ, List.getD_nil, List.set_cons_zero, List.set_cons_succ, binCV, unCV, isShift, intArithF_eq, shiftF_eq, wrapF_eq, intArith, shift, eqVal, bound, asNat_cast, cond_true, cond_false, BEq.rfl, beq_self_eq_true, evalParts, fillParts, AV.cells, AV.ofCells, XV.av, AV.xv, List.length_cons, List.length_nil, zeros, patch, setMany, List.nil_append, List.cons_append, Nat.ble, Nat.add_eq, Nat.zero_add, Nat.add_zero, Nat.reduceAdd, Nat.reduceMul, Nat.reduceSub, Nat.ble_eq, Nat.reduceLeDiff, Nat.reduceBEq, Int.reduceBEq, Int.reduceNeg, Bool.and_true, Bool.and_false, Bool.true_and, Bool.false_and, Bool.not_true, Bool.not_false, Bool.true_eq_false, Bool.false_eq_true, Int.reduceLT, Int.reduceLE, Int.reduceGT, Int.reduceGE, decide_true, decide_false, Bool.not_eq_true, loopN_norm, loopN_exit, tf, ft, ff, e0, lx, bne16, e1, c1, c2, c3, c4, c5, p_iaddr, a4, a5, a6, a7, b4, b5, b6, b7, Nat.mul_one, evEff, W4, W5, W6, W7, sl8, sl4, cp, e2, hr, blockK_exit_eq, result, evResults]
  exact ⟨j, h', rfl, g', by omega, by omega, x'⟩
end
end Lav
