/-
  Symbolic execution: loops by an invariant; heaps that only grow beside what was there; slices that are read, made and added to.
-/
import Derived.Test.YtdilhnnbfkiacaaFwW
namespace Lav
open Go (IntKind BinOp UnOp)

/-! ### Calls -/
theorem nat_beq_ne {a b : Nat} (h : a ≠ b) : Nat.beq a b = false := by
  cases hb : Nat.beq a b with
  | false => rfl
  | true => exact absurd (Nat.eq_of_beq_eq_true hb) h

theorem evCallT_succ (table : List (Nat × IRF)) (T N d f : Nat) (args : List AV) (h : Heap) : evCallT table T N (d + 1) f args h = bif Nat.beq f T then toldF args h else stepCall table N (evCallT table T N d) f args h := by
  rw [← callF1_step]; rfl

theorem evCallT_eq {table : List (Nat × IRF)} {T N d f : Nat} {F : IRF} {args : List AV} {h : Heap} (hT : Nat.beq f T = false) (hl : table.lookup f = some F) (hn : (args.length == F.nparams) = true) :
    evCallT table T N (d + 1) f args h = bodyK (evCallT table T N d) N F args h := by
  rw [evCallT_succ, hT, cond_false]
  simp only [stepCall, hl, hn, cond_true]; rfl

theorem evCallT_told {table : List (Nat × IRF)} {T N d : Nat} {h : Heap} : evCallT table T N (d + 1) T [] h = some (.c (.bool true), h) := by
  have : Nat.beq T T = true := by simp
  rw [evCallT_succ, this]; rfl

/-! ### Loops -/
theorem loop_inv {call : Nat → List AV → Heap → Option (AV × Heap)} {N n : Nat} {keep : List Bool} {body : IR} (Inv : Nat → List AV → Heap → Prop) (Post : Ex × List AV × Heap → Prop)
    (step : ∀ i loc h, i ≤ n → Inv i loc h → (i < n ∧ ∃ loc' h', ev call N body loc h = some (.norm, loc', h') ∧ Inv (i + 1) (keepOnly keep loc') h') ∨ ∃ r, ev call N body loc h = some r ∧ r.1 ≠ .norm ∧ Post r)
    {loc : List AV} {h : Heap} {fuel : Nat} (h0 : Inv 0 (keepOnly keep loc) h) (hf : n < fuel) : ∃ r, loopK call N keep body fuel loc h = some r ∧ Post r := by
  have key : ∀ (k i : Nat) (loc : List AV) (h : Heap) (fuel : Nat), n - i = k → i ≤ n → n - i < fuel → Inv i (keepOnly keep loc) h → ∃ r, loopK call N keep body fuel loc h = some r ∧ Post r := by
    intro k
    induction k with
    | zero =>
      intro i loc h fuel hk hi hfu hinv
      obtain ⟨f, rfl⟩ : ∃ f, fuel = f + 1 := ⟨fuel - 1, by omega⟩
      rcases step i _ h hi hinv with ⟨hlt, _⟩ | ⟨r, hr, hn, hp⟩
      · omega
      · refine ⟨r, ?_, hp⟩
        rw [loopK_succ, hr]
        obtain ⟨e, l, h1⟩ := r
        cases e with
        | norm => exact absurd rfl hn
        | exit j => rfl
        | ret => rfl
    | succ k ih =>
      intro i loc h fuel hk hi hfu hinv
      obtain ⟨f, rfl⟩ : ∃ f, fuel = f + 1 := ⟨fuel - 1, by omega⟩
      rcases step i _ h hi hinv with ⟨hlt, loc', h', hr, hnext⟩ | ⟨r, hr, hn, hp⟩
      · obtain ⟨r, e, hp⟩ := ih (i + 1) loc' h' f (by omega) (by omega) (by omega) hnext
        refine ⟨r, ?_, hp⟩
        rw [loopK_succ, hr]; exact e
      · refine ⟨r, ?_, hp⟩
        rw [loopK_succ, hr]
        obtain ⟨e, l, h1⟩ := r
        cases e with
        | norm => exact absurd rfl hn
        | exit j => rfl
        | ret => rfl
  exact key n 0 loc h fuel (by omega) (by omega) (by omega) h0

/-! ### Heaps that grow -/
def Ext (h h' : Heap) : Prop := h.next ≤ h'.next ∧ ∀ i, i < h.next → h'.get i = h.get i
theorem Ext.refl (h : Heap) : Ext h h := ⟨Nat.le_refl _, fun _ _ => rfl⟩
theorem Ext.trans {a b c : Heap} (x : Ext a b) (y : Ext b c) : Ext a c := ⟨Nat.le_trans x.1 y.1, fun i hi => (y.2 i (Nat.lt_of_lt_of_le hi x.1)).trans (x.2 i hi)⟩
theorem get_new_old {h : Heap} {b : Blk} {i : Nat} (hi : i < h.next) : (h.new b).get i = h.get i := by
  rw [Heap.get_new]; simp only [upd]; rw [if_neg (by omega)]
theorem get_new_at {h : Heap} {b : Blk} : (h.new b).get h.next = some b := by
  rw [Heap.get_new]; simp [upd]
theorem get_put_ne {h : Heap} {b : Blk} {i j : Nat} (hi : i ≠ j) : (h.put j b).get i = h.get i := by
  rw [Heap.get_put]; simp only [upd]; rw [if_neg hi]
theorem get_put_at {h : Heap} {b : Blk} {i : Nat} : (h.put i b).get i = some b := by
  rw [Heap.get_put]; simp [upd]
theorem get_kill_ne {h : Heap} {i j : Nat} (hi : i ≠ j) : (h.kill j).get i = h.get i := by
  rw [Heap.get_kill]; simp only [upd]; rw [if_neg hi]
theorem next_new {h : Heap} {b : Blk} : (h.new b).next = h.next + 1 := rfl
theorem next_put {h : Heap} {b : Blk} {i : Nat} : (h.put i b).next = h.next := rfl
theorem next_kill {h : Heap} {i : Nat} : (h.kill i).next = h.next := rfl
theorem next_skip {h : Heap} {n : Nat} : (h.skip n).next = h.next + n := rfl
theorem Ext.new {a h : Heap} (x : Ext a h) (b : Blk) : Ext a (h.new b) := ⟨Nat.le_succ_of_le x.1, fun i hi => (get_new_old (Nat.lt_of_lt_of_le hi x.1)).trans (x.2 i hi)⟩
theorem Ext.put {a h : Heap} (x : Ext a h) {i : Nat} (hi : a.next ≤ i) (b : Blk) : Ext a (h.put i b) := ⟨x.1, fun j hj => (get_put_ne (by omega)).trans (x.2 j hj)⟩
theorem Ext.kill {a h : Heap} (x : Ext a h) {i : Nat} (hi : a.next ≤ i) : Ext a (h.kill i) := ⟨x.1, fun j hj => (get_kill_ne (by omega)).trans (x.2 j hj)⟩
theorem Ext.skip {a h : Heap} (x : Ext a h) (n : Nat) : Ext a (h.skip n) := ⟨Nat.le_trans x.1 (Nat.le_add_right _ _), x.2⟩
theorem Ext.at_ {a h : Heap} (x : Ext a h) {i : Nat} {b : Blk} (hg : a.get i = some b) (hi : i < a.next) : h.get i = some b := (x.2 i hi).trans hg
theorem Ext.read {a h : Heap} (x : Ext a h) {i o n : Nat} (hi : i < a.next) : h.read i o n = a.read i o n := by
  simp only [Heap.read, x.2 i hi]

/-! ### Cells -/
theorem cut_at {l : List CV} {j : Nat} {v : CV} (h : l[j]? = some v) : cut l j 1 = some [v] := by
  have hlt : j < l.length := by
    rcases Nat.lt_or_ge j l.length with h' | h'
    · exact h'
    · rw [List.getElem?_eq_none h'] at h; cases h
  have hb : Nat.ble (j + 1) l.length = true := Nat.ble_eq_true_of_le hlt
  simp only [cut, hb, cond_true]
  rw [List.drop_eq_getElem_cons hlt, List.take_succ_cons, List.take_zero]
  rw [List.getElem?_eq_getElem hlt] at h
  simp only [Option.some.injEq] at h
  rw [h]
theorem cut_part {l : List CV} {o n : Nat} (h : o + n ≤ l.length) : cut l o n = some ((l.drop o).take n) := by
  have hb : Nat.ble (o + n) l.length = true := Nat.ble_eq_true_of_le h
  simp only [cut, hb, cond_true]
theorem read_cells {h : Heap} {i o : Nat} {l : List CV} {v : CV} (hg : h.get i = some (.cells l)) (hv : l[o]? = some v) : h.read i o 1 = some [v] := by
  simp only [Heap.read, hg]; exact cut_at hv
theorem read_ro {h : Heap} {i o : Nat} {l : List CV} {v : CV} (hg : h.get i = some (.ro l)) (hv : l[o]? = some v) : h.read i o 1 = some [v] := by
  simp only [Heap.read, hg]; exact cut_at hv
theorem read_part {h : Heap} {i o n : Nat} {l : List CV} (hg : h.get i = some (.cells l)) (hn : o + n ≤ l.length) : h.read i o n = some ((l.drop o).take n) := by
  simp only [Heap.read, hg]; exact cut_part hn
theorem write_one {h : Heap} {i o : Nat} {l : List CV} {v : CV} (hg : h.get i = some (.cells l)) (ho : o < l.length) : h.write i o [v] = some (h.put i (.cells (l.set o v))) := by
  have hb : Nat.ble (o + 1) l.length = true := Nat.ble_eq_true_of_le ho
  simp only [Heap.write, hg, patch, List.length_cons, List.length_nil, Nat.zero_add, hb, cond_true, setMany]

theorem setMany_eq : ∀ (vs l : List CV) (o : Nat), o + vs.length ≤ l.length → setMany l o vs = l.take o ++ vs ++ l.drop (o + vs.length)
  | [], l, o, _ => by simp [setMany]
  | v :: vs, l, o, h => by
    have hlen : o + (vs.length + 1) ≤ l.length := by simpa using h
    rw [setMany, setMany_eq vs (l.set o v) (o + 1) (by simp; omega)]
    have e1 : (l.set o v).take (o + 1) = l.take o ++ [v] := by
      rw [List.take_set, List.take_succ_eq_append_getElem (by omega : o < l.length), List.set_append_right _ _ (by simp; omega)]
      have : o - (l.take o).length = 0 := by simp; omega
      rw [this]; rfl
    have e2 : (l.set o v).drop (o + 1 + vs.length) = l.drop (o + (vs.length + 1)) := by
      rw [List.drop_set_of_lt (by omega)]; congr 1; omega
    rw [e1, e2]; simp

theorem write_many {h : Heap} {i o : Nat} {l vs : List CV} (hg : h.get i = some (.cells l)) (ho : o + vs.length ≤ l.length) : h.write i o vs = some (h.put i (.cells (l.take o ++ vs ++ l.drop (o + vs.length)))) := by
  have hb : Nat.ble (o + vs.length) l.length = true := Nat.ble_eq_true_of_le ho
  simp only [Heap.write, hg, patch, hb, cond_true, setMany_eq _ _ _ ho]

/-- A new block, written over at once. -/
theorem box_store {h : Heap} {z v : List CV} (hl : v.length = z.length) : ∃ h', (h.new (.cells z)).write h.next 0 v = some h' ∧ h'.get h.next = some (.cells v) ∧ Ext h h' ∧ h'.next = h.next + 1 := by
  refine ⟨_, write_many get_new_at (by omega), ?_, ((Ext.refl h).new _).put (Nat.le_refl _) _, rfl⟩
  rw [get_put_at, hl]; simp

/-! ### Slices of ints that are read -/
def Ints (h : Heap) (x : CV) (xs : List Int) : Prop :=
  (x = .nils ∧ xs = []) ∨ ∃ i o c, x = .sl i o xs.length c ∧ i < h.next ∧ ∀ j v, xs[j]? = some v → h.read i (o + j * 1) 1 = some [.int .i64 v]

theorem Ints.ext {h h' : Heap} {x : CV} {xs : List Int} (hx : Ints h x xs) (e : Ext h h') : Ints h' x xs := by
  rcases hx with h1 | ⟨i, o, c, h1, h2, h3⟩
  · exact .inl h1
  · exact .inr ⟨i, o, c, h1, Nat.lt_of_lt_of_le h2 e.1, fun j v hj => (e.read h2).trans (h3 j v hj)⟩

theorem Ints.len {h h0 : Heap} {x : CV} {xs : List Int} (hx : Ints h0 x xs) {loc vals : List AV} {X : X} (hX : X.eval loc vals = .c x) : evPure loc vals h (.len .sl X) = some (.c (.int .i64 (xs.length : Int))) := by
  rcases hx with ⟨rfl, rfl⟩ | ⟨i, o, c, rfl, _, _⟩ <;> simp only [evPure, hX] <;> rfl

/-- The slice itself, where it has an element. -/
theorem Ints.sl {h : Heap} {x : CV} {xs : List Int} (hx : Ints h x xs) (hn : 0 < xs.length) : ∃ i o c, x = .sl i o xs.length c ∧ i < h.next ∧ ∀ j (hj : j < xs.length), h.read i (o + j) 1 = some [.int .i64 xs[j]] := by
  rcases hx with ⟨_, rfl⟩ | ⟨i, o, c, h1, h2, h3⟩
  · simp at hn
  · exact ⟨i, o, c, h1, h2, fun j hj => by have := h3 j xs[j] (by simp [hj]); rwa [Nat.mul_one] at this⟩

theorem ints_of {h h' : Heap} {x : CV} {l : List Int} (r : RowIs .i64 h x h' l) : Ints h' x l := by
  obtain ⟨_, _, hr⟩ := r
  rcases hr with ⟨rfl, rfl, rfl⟩ | ⟨rfl, rfl, rfl⟩ | ⟨rfl, rfl⟩
  · exact .inl ⟨rfl, rfl⟩
  · exact .inr ⟨h.next, 0, .dy 1, rfl, Nat.lt_succ_self _, by simp⟩
  · exact .inr ⟨h.next, 0, .dy 1, rfl, Nat.lt_succ_self _, fun j v hj => read_ro get_new_at (by simp [hj])⟩

theorem ints_cells {h : Heap} {i : Nat} {xs : List Int} {c : Cap} (hi : i < h.next) (hg : h.get i = some (.cells (xs.map (.int .i64)))) : Ints h (.sl i 0 xs.length c) xs :=
  .inr ⟨i, 0, c, rfl, hi, fun j v hj => read_cells hg (by simp [hj])⟩

theorem RowIs.ext {k : IntKind} {h h' : Heap} {x : CV} {l : List Int} (r : RowIs k h x h' l) : Ext h h' := by
  obtain ⟨_, _, hr⟩ := r
  rcases hr with ⟨_, rfl, _⟩ | ⟨_, rfl, _⟩ | ⟨_, rfl⟩
  · exact Ext.refl _
  · exact (Ext.refl _).skip 1
  · exact (Ext.refl _).new _

/-! ### Slices that are added to -/
/-- A slice that was made since h0: n elements of sz cells. -/
def Mine (sz : Nat) (h0 h : Heap) (x : CV) (n : Nat) (l : List CV) : Prop :=
  l.length = n * sz ∧ ((x = .nils ∧ n = 0) ∨ ∃ i, x = .sl i 0 n (.dy sz) ∧ h.get i = some (.cells l) ∧ h0.next ≤ i ∧ i < h.next)

theorem Mine.nil {sz : Nat} {h0 h : Heap} : Mine sz h0 h .nils 0 [] := ⟨by simp, .inl ⟨rfl, rfl⟩⟩

theorem Mine.len {sz : Nat} {h0 h1 h : Heap} {x : CV} {n : Nat} {l : List CV} (ho : Mine sz h0 h1 x n l) {loc vals : List AV} {X : X} (hX : X.eval loc vals = .c x) : evPure loc vals h (.len .sl X) = some (.c (.int .i64 (n : Int))) := by
  obtain ⟨_, ⟨rfl, rfl⟩ | ⟨i, rfl, _⟩⟩ := ho <;> simp only [evPure, hX] <;> rfl

/-- Its block. -/
def blk : CV → Option Nat
  | .sl i _ _ _ => some i
  | _ => none

theorem app_own {sz : Nat} {h0 h : Heap} {x : CV} {y : AV} {n m : Nat} {l new : List CV} (ho : Mine sz h0 h x n l) (he : Ext h0 h) (hs : source h sz y = some (m + 1, new)) (hl : new.length = (m + 1) * sz) (hb : n + (m + 1) ≤ 1073741824) :
    ∃ h', evApp h sz (.c x) y = some (.c (.sl h.next 0 (n + (m + 1)) (.dy sz)), h') ∧ Mine sz h0 h' (.sl h.next 0 (n + (m + 1)) (.dy sz)) (n + (m + 1)) (l ++ new) ∧ Ext h0 h' ∧ h'.next = h.next + 1 ∧ (∀ k, k < h.next → blk x ≠ some k → h'.get k = h.get k) := by
  obtain ⟨hlen, ⟨rfl, rfl⟩ | ⟨i, rfl, hg, hi, hi'⟩⟩ := ho
  · have hnil : l = [] := List.eq_nil_of_length_eq_zero (by simpa using hlen)
    subst hnil
    have b1 : Nat.ble (m + 1) 1073741824 = true := Nat.ble_eq_true_of_le (by omega)
    refine ⟨h.new (.cells new), ?_, ⟨by simp [hl], .inr ⟨h.next, rfl, by simpa using get_new_at, he.1, Nat.lt_succ_self _⟩⟩, he.new _, rfl, fun k hk _ => get_new_old hk⟩
    unfold evApp
    simp only [hs, b1, cond_true, Nat.zero_add]
  · have b1 : Nat.ble (n + (m + 1)) 1073741824 = true := Nat.ble_eq_true_of_le (by omega)
    have b2 : (sz == sz && 0 + n * sz == l.length) = true := by simp [hlen]
    refine ⟨(h.kill i).new (.cells (l ++ new)), ?_, ⟨by simp [hl, hlen, Nat.add_mul], .inr ⟨h.next, rfl, get_new_at, he.1, Nat.lt_succ_self _⟩⟩, (he.kill hi).new _, rfl, fun k hk hne => ?_⟩
    · unfold evApp
      simp only [hs, b1, hg, b2, cond_true, List.drop_zero]
    · have : k ≠ i := fun e => hne (by rw [e]; rfl)
      rw [get_new_old (h := h.kill i) hk, get_kill_ne this]

theorem source_new {h : Heap} {sz n j : Nat} {l : List CV} {c : Cap} (hg : h.get j = some (.cells l)) (hl : l.length = n * sz) : source h sz (.c (.sl j 0 n c)) = some (n, l) := by
  have : h.read j 0 (n * sz) = some l := by
    rw [read_part hg (by omega), ← hl, List.drop_zero, List.take_length]
  simp only [source, this]

/-- What was made and added to stands so where other blocks are made and turned. -/
theorem Mine.keep {sz : Nat} {h0 h h' : Heap} {x : CV} {n : Nat} {l : List CV} (ho : Mine sz h0 h x n l) (hn : h.next ≤ h'.next) (hk : ∀ k, k < h.next → blk x = some k → h'.get k = h.get k) : Mine sz h0 h' x n l := by
  obtain ⟨hlen, h1 | ⟨i, rfl, hg, hi, hi'⟩⟩ := ho
  · exact ⟨hlen, .inl h1⟩
  · exact ⟨hlen, .inr ⟨i, rfl, (hk i hi' rfl).trans hg, hi, Nat.lt_of_lt_of_le hi' hn⟩⟩

theorem Mine.new {sz : Nat} {h0 h : Heap} {x : CV} {n : Nat} {l : List CV} (ho : Mine sz h0 h x n l) (b : Blk) : Mine sz h0 (h.new b) x n l := ho.keep (Nat.le_succ _) fun _ hk _ => get_new_old hk

/-- One int more. -/
theorem app_int {h0 h : Heap} {x : CV} {l : List CV} {n j : Nat} {v : CV} {c : Cap} (ho : Mine 1 h0 h x n l) (he : Ext h0 h) (hg : h.get j = some (.cells [v])) (hb : n < 1073741824) :
    ∃ h', evApp h 1 (.c x) (.c (.sl j 0 1 c)) = some (.c (.sl h.next 0 (n + 1) (.dy 1)), h') ∧ Mine 1 h0 h' (.sl h.next 0 (n + 1) (.dy 1)) (n + 1) (l ++ [v]) ∧ Ext h0 h' ∧ h'.next = h.next + 1 ∧ (∀ k, k < h.next → blk x ≠ some k → h'.get k = h.get k) :=
  app_own (m := 0) ho he (source_new hg rfl) rfl (by omega)

theorem Mine.ints {h0 h : Heap} {x : CV} {n : Nat} {xs : List Int} (ho : Mine 1 h0 h x n (xs.map (.int .i64))) : Ints h x xs := by
  obtain ⟨hlen, ⟨rfl, rfl⟩ | ⟨i, rfl, hg, _, hi⟩⟩ := ho
  · exact .inl ⟨rfl, by simpa using hlen⟩
  · have : n = xs.length := by simpa using hlen.symm
    subst this
    exact ints_cells hi hg

/-! ### Numbers -/
theorem wrapNat {n : Nat} (h : n < 9223372036854775808) : IntKind.i64.wrap (n : Int) = (n : Int) := by
  simp only [IntKind.wrap, IntKind.bits, IntKind.signed]
  simp
  omega
theorem wrapUNat {n : Nat} (h : n < 18446744073709551616) : IntKind.u64.wrap (n : Int) = (n : Int) := by
  simp only [IntKind.wrap, IntKind.bits, IntKind.signed]
  simp
  omega
theorem wrapI {a : Int} (h : -9223372036854775808 ≤ a) (h' : a < 9223372036854775808) : IntKind.i64.wrap a = a := by
  simp only [IntKind.wrap, IntKind.bits, IntKind.signed]
  simp
  omega
theorem succI {i : Nat} (h : i < 1000000) : IntKind.i64.wrap ((i : Int) + 1) = ((i + 1 : Nat) : Int) := by
  rw [wrapI (by omega) (by omega)]; omega
theorem ltNat {i n : Nat} (h : i < n) : decide ((i : Int) < (n : Int)) = true := by simp; omega
theorem geNat {i n : Nat} (h : n ≤ i) : decide ((i : Int) < (n : Int)) = false := by simp; omega
theorem bltT {i n : Nat} (h : i < n) : Nat.blt i n = true := Nat.ble_eq_true_of_le h
end Lav
