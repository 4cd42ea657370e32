/-
  A region that draws its order: whichever order is drawn, it does what the evaluator says.
-/
import Derived.Test.YtdilhnnbfkiacaaFwE
import Derived.Orders
namespace Lav
open Go

/-! ### Numbers of blocks -/
theorem newsOf_append (a b : List Inst) : newsOf (a ++ b) = newsOf a + newsOf b := by
  induction a with
  | nil => simp [newsOf]
  | cons x a ih => simp only [List.cons_append, newsOf, ih]; omega

theorem newsOf_succ {l : List Inst} {j : Nat} {i : Inst} (h : l[j]? = some i) : newsOf (l.take (j + 1)) = newsOf (l.take j) + newsOf [i] := by
  rw [List.take_add_one, h]; exact newsOf_append _ _

theorem newsOf_mono (l : List Inst) {j j' : Nat} (h : j ≤ j') : newsOf (l.take j) ≤ newsOf (l.take j') := by
  have e := List.take_append_drop j (l.take j')
  rw [List.take_take, Nat.min_eq_left h] at e
  have := congrArg newsOf e
  rw [newsOf_append] at this
  omega

theorem newsOf_lt {l : List Inst} {j j' : Nat} {i : Inst} (h : j < j') (hi : l[j]? = some i) (hk : i.op.kd = .new) : newsOf (l.take j) < newsOf (l.take j') := by
  have h1 := newsOf_mono l (show j + 1 ≤ j' from h)
  rw [newsOf_succ hi] at h1
  have : newsOf [i] = 1 := by simp [newsOf, hk]
  omega

theorem newsOf_le (l : List Inst) (j : Nat) : newsOf (l.take j) ≤ newsOf l := by
  have h := congrArg newsOf (List.take_append_drop j l)
  rw [newsOf_append] at h; omega

theorem newsOf_lt_all {l : List Inst} {j : Nat} {i : Inst} (hi : l[j]? = some i) (hk : i.op.kd = .new) : newsOf (l.take j) < newsOf l := by
  have h1 := newsOf_le l (j + 1)
  rw [newsOf_succ hi] at h1
  have : newsOf [i] = 1 := by simp [newsOf, hk]
  omega

theorem kdAt_new_length (l : List Inst) : (kdAt .new l).length = newsOf l := by
  unfold kdAt
  rw [List.length_map]
  suffices h : ∀ (l : List Inst) (k : Nat), ((l.zipIdx k).filter fun p => p.1.op.kd == Kd.new).length = newsOf l from h l 0
  intro l
  induction l with
  | nil => intro k; rfl
  | cons x l ih =>
    intro k
    rw [List.zipIdx_cons, List.filter_cons]
    cases hk : x.op.kd <;> simp [newsOf, hk, ih] <;> omega

theorem kdAt_sorted (k : Kd) (l : List Inst) : (kdAt k l).Pairwise (· < ·) := by
  unfold kdAt
  have h : (l.zipIdx.map (·.2)).Pairwise (· < ·) := by
    rw [List.zipIdx_map_snd]; exact List.pairwise_lt_range'
  exact h.sublist (List.Sublist.map _ List.filter_sublist)

theorem evNew_ro {loc vals : List AV} {op : IOp} {f : Nat → AV} {b : Blk} (h : evNew loc vals op = some (f, b)) : b.isRo = false := by
  cases op <;> simp only [evNew] at h
  case box x =>
    split at h
    · simp only [Option.some.injEq, Prod.mk.injEq] at h; obtain ⟨_, rfl⟩ := h; rfl
    · cases h
  case s2b x =>
    split at h
    · simp only [Option.some.injEq, Prod.mk.injEq] at h; obtain ⟨_, rfl⟩ := h; rfl
    · cases h
  case mks =>
    split at h
    · revert h
      cases (_ && _ : Bool) with
      | false => intro h; cases h
      | true => intro h; simp only [cond_true, Option.some.injEq, Prod.mk.injEq] at h; obtain ⟨_, rfl⟩ := h; rfl
    · cases h
  case bsl =>
    split at h
    · split at h
      · simp only [Option.some.injEq, Prod.mk.injEq] at h; obtain ⟨_, rfl⟩ := h; rfl
      · cases h
    · cases h
  case mkch =>
    split at h
    · revert h
      cases (Nat.ble _ _ : Bool) with
      | false => intro h; cases h
      | true => intro h; simp only [cond_true, Option.some.injEq, Prod.mk.injEq] at h; obtain ⟨_, rfl⟩ := h; rfl
    · cases h
  all_goals cases h

def start : Option Nat → Nat
  | none => 0
  | some e => e + 1

theorem behind_iff {e : Option Nat} {a : Nat} : behind e a = true ↔ start e ≤ a := by
  cases e with
  | none => simp [behind, start]
  | some y =>
    simp only [behind, start]
    exact ⟨fun h => Nat.le_of_ble_eq_true h, fun h => Nat.ble_eq_true_of_le h⟩

theorem lastBelow_spec : ∀ (es : List Nat) (i : Nat) (r : Option Nat), es.Pairwise (· < ·) → (∀ x, r = some x → ∀ e ∈ es, x < e) → (∀ x, r = some x → x < i) →
    (∀ e ∈ es, e < i → e < start (lastBelow es i r)) ∧ start r ≤ start (lastBelow es i r) ∧ start (lastBelow es i r) ≤ i
  | [], i, r, _, _, hr => by
    refine ⟨by simp, Nat.le_refl _, ?_⟩
    cases r with
    | none => exact Nat.zero_le _
    | some x => exact hr x rfl
  | e :: es, i, r, hp, hx, hr => by
    have hp' := List.pairwise_cons.1 hp
    unfold lastBelow
    cases hb : Nat.blt e i with
    | true =>
      have hlt : e < i := Nat.lt_of_succ_le (Nat.le_of_ble_eq_true hb)
      simp only [cond_true]
      obtain ⟨h1, h2, h3⟩ := lastBelow_spec es i (some e) hp'.2 (fun x q e' he' => by cases q; exact hp'.1 e' he') (fun x q => by cases q; exact hlt)
      refine ⟨fun e' he' hlt' => ?_, ?_, h3⟩
      · rcases List.mem_cons.1 he' with rfl | he'
        · exact h2
        · exact h1 e' he' hlt'
      · cases r with
        | none => exact Nat.zero_le _
        | some x => have := hx x rfl e (by simp); simp only [start] at h2 ⊢; omega
    | false =>
      have hge : i ≤ e := by
        rcases Nat.lt_or_ge e i with h | h
        · rw [show Nat.blt e i = true from Nat.ble_eq_true_of_le h] at hb; cases hb
        · exact h
      simp only [cond_false]
      refine ⟨fun e' he' hlt' => ?_, Nat.le_refl _, ?_⟩
      · rcases List.mem_cons.1 he' with rfl | he'
        · omega
        · have := hp'.1 e' he'; omega
      · cases r with
        | none => exact Nat.zero_le _
        | some x => exact hr x rfl

/-! ### What is fixed over a region -/
structure DD where
  P : Program
  slots : List Nat
  ntmps : Nat
  ops : Array Oper
  call : Nat → List AV → Heap → Option (AV × Heap)
  loc : List AV
  h : Heap
  l : List Inst
  S : DS
  V : Nat → AV
  G : Nat → Bool
  C : Nat → Heap
  W : Nat → Option (Nat × Blk)
  a0 : Act
  ι0 : Inj
  w0 : World
  B : Nat
  effs : List Nat
  news : List Nat

namespace DD
variable (D : DD)
def bits : List Nat := aheadOf D.ops.toList []
def rank (j : Nat) : Nat := newsOf (D.l.take j)
def kd (j : Nat) (k : Kd) : Prop := ∃ i, D.l[j]? = some i ∧ i.op.kd = k
end DD

structure DK (D : DD) : Prop where
  hcall : CallX D.P D.call
  len : D.l.length = D.ops.size
  inst : ∀ j o, D.ops[j]? = some o → ∃ dst g, D.l[j]? = some ⟨dst, cOp D.P D.slots (dsAt D.ops.toList j) o.op, g, chks D.bits D.effs D.news j (cOp D.P D.slots (dsAt D.ops.toList j) o.op)⟩ ∧
    cDst D.slots D.ntmps o.dst = some dst ∧ cGuard D.ops.toList (dsAt D.ops.toList j) j o.guard = some g
  okx : ∀ j o i, D.ops[j]? = some o → D.l[j]? = some i → ∀ x ∈ i.op.xs, okX D.slots (dsAt D.ops.toList j) (looks D.ops.toList o) x = true
  step : ∀ j i, D.l[j]? = some i → DStep D.call D.loc D.h.next i j (newsOf (D.l.take j)) (vseg D.V 0 j) D.V D.G D.C D.W
  ks : ∀ j, D.kd j .eff → D.S.ks.lookup j = some (D.C (j + 1))
  nw : ∀ j, j < D.l.length → D.S.news.lookup j = D.W j
  c0 : D.C 0 = D.h.skip (newsOf D.l)
  effs : ∀ j, j ∈ D.effs ↔ D.kd j .eff
  sorted : D.effs.Pairwise (· < ·)
  news : ∀ j, j ∈ D.news ↔ D.kd j .new
  settled : Lav.settled D.ops.toList D.bits = true
  ok : effsOk D.bits D.effs D.news = true
  chk : ∀ j i, D.l[j]? = some i → D.G j = true → ∀ p ∈ i.chk, ∃ H, stage (D.h.skip (newsOf D.l)) D.S p.1 = some H ∧ evPure D.loc (vseg D.V 0 j) (withNews D.S p.2 H) i.op = some (D.V j)
  nodup : noDup D.slots = true
  fr0 : FR D.slots D.ntmps D.ι0 D.loc D.a0

/-- Where the region stands: what has been carried out, the last effect of that, the blocks made behind it. -/
structure DI (D : DD) (L : Nat → Prop) (eo : Option Nat) (ι : Inj) (f : Nat → Option Blk) (a : Act) (w : World) : Prop where
  top : ∀ e, eo = some e → L e ∧ D.kd e .eff
  last : ∀ e, L e → D.kd e .eff → e < start eo
  next : D.h.next + newsOf D.l ≤ (D.C (start eo)).next
  fresh : ∀ i, (D.C (start eo)).next ≤ i → ι i = none
  res : ∀ j, D.kd j .new → ¬ L j → ι (D.h.next + D.rank j) = none
  dead : ∀ j, D.kd j .new → start eo ≤ j → (D.C (start eo)).get (D.h.next + D.rank j) = none
  spec : ∀ i b, f i = some b ↔ ∃ j, L j ∧ start eo ≤ j ∧ j < D.l.length ∧ D.W j = some (i, b)
  rel : HR D.B ι (over f (D.C (start eo)).get) w
  fr : Fr D.ι0 D.h.get D.w0 ι (over f (D.C (start eo)).get) w
  le : Le D.ι0 ι
  same : ∀ i, i < D.h.next → ι i = D.ι0 i
  deadb : ∀ i, i < D.h.next → D.h.get i = none → (D.C (start eo)).get i = none
  size : a.tmps.size = D.ntmps
  defers : a.defers = []
  new : ∀ j o t, L j → D.ops[j]? = some o → o.dst = some t → (∀ m q, L m → j < m → D.ops[m]? = some q → q.dst ≠ some t) → AR ι (D.V j) (a.tmps.getD t undef)
  old : ∀ t, (∀ m q, L m → D.ops[m]? = some q → q.dst ≠ some t) → a.tmps.getD t undef = D.a0.tmps.getD t undef

section
variable {D : DD} (K : DK D)
include K

theorem DK.W_id {j : Nat} {i : Inst} {p : Nat × Blk} (hi : D.l[j]? = some i) (hw : D.W j = some p) : i.op.kd = .new ∧ p.1 = D.h.next + D.rank j ∧ p.2.isRo = false := by
  have s := K.step j i hi
  cases hg : D.G j with
  | false => have := (s.not hg).2.1; rw [this] at hw; cases hw
  | true =>
    cases hk : i.op.kd with
    | pure => have := (s.pure hg hk).2.1; rw [this] at hw; cases hw
    | eff => have := (s.eff hg hk).2; rw [this] at hw; cases hw
    | new =>
      obtain ⟨f, b, h1, h2, h3, h4⟩ := s.new hg hk
      rw [h3] at hw; cases hw
      exact ⟨rfl, rfl, evNew_ro h1⟩

theorem DK.W_kd {j : Nat} {p : Nat × Blk} (hj : j < D.l.length) (hw : D.W j = some p) : D.kd j .new ∧ p.1 = D.h.next + D.rank j ∧ p.2.isRo = false := by
  have hi : D.l[j]? = some D.l[j] := by simp
  obtain ⟨h1, h2, h3⟩ := K.W_id hi hw
  exact ⟨⟨_, hi, h1⟩, h2, h3⟩

omit K in
theorem DD.rank_inj {j j' : Nat} (h : D.kd j .new) (h' : D.kd j' .new) (e : D.rank j = D.rank j') : j = j' := by
  obtain ⟨i, hi, hk⟩ := h
  obtain ⟨i', hi', hk'⟩ := h'
  unfold DD.rank at e
  rcases Nat.lt_trichotomy j j' with hl | hl | hl
  · have := newsOf_lt hl hi hk; omega
  · exact hl
  · have := newsOf_lt hl hi' hk'; omega

omit K in
theorem DD.rank_lt {j : Nat} (h : D.kd j .new) : D.rank j < newsOf D.l := by
  obtain ⟨i, hi, hk⟩ := h; exact newsOf_lt_all hi hk

omit K in
theorem DD.kd_fun {j : Nat} {k k' : Kd} (h : D.kd j k) (h' : D.kd j k') : k = k' := by
  obtain ⟨i, hi, rfl⟩ := h
  obtain ⟨i', hi', rfl⟩ := h'
  rw [hi] at hi'; cases hi'; rfl

/-- The heap from one effect on. -/
theorem DK.between {s : Nat} (hd : ∀ j, D.kd j .new → s ≤ j → (D.C s).get (D.h.next + D.rank j) = none) : ∀ (m : Nat), s + m ≤ D.l.length → (∀ j, s ≤ j → j < s + m → ¬ D.kd j .eff) →
    (D.C (s + m)).next = (D.C s).next ∧ ∀ i b, (D.C (s + m)).get i = some b ↔ ((D.C s).get i = some b ∨ ∃ j, s ≤ j ∧ j < s + m ∧ D.W j = some (i, b)) := by
  intro m
  induction m with
  | zero => intro _ _; exact ⟨rfl, fun i b => ⟨fun h => .inl h, fun h => h.resolve_right (by rintro ⟨j, h1, h2, _⟩; omega)⟩⟩
  | succ m ih =>
    intro hm hne
    obtain ⟨ih1, ih2⟩ := ih (by omega) (fun j h1 h2 => hne j h1 (by omega))
    have hi : D.l[s + m]? = some (D.l[s + m]'(by omega)) := by simp
    generalize D.l[s + m]'(by omega) = i0 at hi
    have st := K.step _ _ hi
    have quiet : D.W (s + m) = none → D.C (s + m + 1) = D.C (s + m) → (D.C (s + (m + 1))).next = (D.C s).next ∧ ∀ i b, (D.C (s + (m + 1))).get i = some b ↔ ((D.C s).get i = some b ∨ ∃ j, s ≤ j ∧ j < s + (m + 1) ∧ D.W j = some (i, b)) := by
      intro hw hc
      rw [show s + (m + 1) = s + m + 1 by omega, hc]
      refine ⟨ih1, fun i b => (ih2 i b).trans ⟨fun h => h.imp id (fun ⟨j, h1, h2, h3⟩ => ⟨j, h1, by omega, h3⟩), fun h => h.imp id (fun ⟨j, h1, h2, h3⟩ => ⟨j, h1, ?_, h3⟩)⟩⟩
      by_cases e : j = s + m
      · subst e; rw [hw] at h3; cases h3
      · omega
    cases hg : D.G (s + m) with
    | false => exact quiet (st.not hg).2.1 (st.not hg).2.2
    | true =>
      cases hk : i0.op.kd with
      | pure => exact quiet (st.pure hg hk).2.1 (st.pure hg hk).2.2
      | eff => exact absurd ⟨_, hi, hk⟩ (hne (s + m) (by omega) (by omega))
      | new =>
        obtain ⟨f, b0, h1, h2, h3, h4⟩ := st.new hg hk
        have hkd : D.kd (s + m) .new := ⟨_, hi, hk⟩
        rw [show s + (m + 1) = s + m + 1 by omega, h4]
        refine ⟨ih1, fun i b => ?_⟩
        rw [Heap.get_put]
        by_cases e : i = D.h.next + newsOf (D.l.take (s + m))
        · subst e
          simp only [upd, if_true]
          constructor
          · intro h; cases h; exact .inr ⟨s + m, by omega, by omega, h3⟩
          · rintro (h | ⟨j, j1, j2, j3⟩)
            · have := hd (s + m) hkd (by omega)
              unfold DD.rank at this; rw [this] at h; cases h
            · obtain ⟨k1, k2, _⟩ := K.W_kd (by omega) j3
              have : j = s + m := DD.rank_inj k1 hkd (by simp only at k2; unfold DD.rank at k2 ⊢; omega)
              subst this; rw [h3] at j3; cases j3; rfl
        · simp only [upd, e, if_false]
          rw [ih2 i b]
          constructor
          · exact fun h => h.imp id (fun ⟨j, h1, h2, h3⟩ => ⟨j, h1, by omega, h3⟩)
          · refine fun h => h.imp id (fun ⟨j, j1, j2, j3⟩ => ⟨j, j1, ?_, j3⟩)
            by_cases e' : j = s + m
            · subst e'; rw [h3] at j3; cases j3; exact absurd rfl e
            · omega

variable {L : Nat → Prop} {eo : Option Nat} {ι : Inj} {f : Nat → Option Blk} {a : Act} {w : World}

theorem DI.f_none (I : DI D L eo ι f a w) {i : Nat} {b : Blk} (h : (D.C (start eo)).get i = some b) : f i = none := by
  cases hf : f i with
  | none => rfl
  | some b' =>
    obtain ⟨j, h1, h2, h3, h4⟩ := (I.spec i b').1 hf
    obtain ⟨k1, k2, _⟩ := K.W_kd h3 h4
    have := I.dead j k1 h2
    simp only at k2
    rw [← k2, h] at this; cases this

theorem DI.sub_base (I : DI D L eo ι f a w) : Sub (D.C (start eo)).get (over f (D.C (start eo)).get) := by
  intro i b h
  rw [over_none (I.f_none K h)]; exact h

omit K in
theorem DI.sub_f {g : Nat → Option Blk} : Sub f (over f g) := fun _ _ h => over_some h

/-- Everything ahead of an effect has been carried out: the heap ahead of it is a part of what is there. -/
theorem DI.sub_at (I : DI D L eo ι f a w) {i : Nat} (hs : start eo ≤ i) (hi : i ≤ D.l.length) (hne : ∀ j, start eo ≤ j → j < i → ¬ D.kd j .eff) (hall : ∀ j, start eo ≤ j → j < i → D.kd j .new → L j) :
    (D.C i).next = (D.C (start eo)).next ∧ Sub (D.C i).get (over f (D.C (start eo)).get) := by
  obtain ⟨m, rfl⟩ : ∃ m, i = start eo + m := ⟨i - start eo, by omega⟩
  obtain ⟨h1, h2⟩ := K.between (s := start eo) I.dead m hi hne
  refine ⟨h1, fun x b hx => ?_⟩
  rcases (h2 x b).1 hx with h | ⟨j, j1, j2, j3⟩
  · exact I.sub_base K x b h
  · exact over_some ((I.spec x b).2 ⟨j, hall j j1 j2 (K.W_kd (by omega) j3).1, j1, by omega, j3⟩)

/-! ### The temporaries -/
theorem DI.put4 (I : DI D L eo ι f a w) {ι' : Inj} {i : Nat} {o : Oper} {v : Value} (ho : D.ops[i]? = some o) (hnl : ¬ L i) (hlater : ∀ m q t, L m → i < m → D.ops[m]? = some q → q.dst = some t → o.dst ≠ some t) (hle : Le ι ι') (hv : AR ι' (D.V i) v) :
    (a.put o.dst v).tmps.size = D.ntmps ∧ (a.put o.dst v).defers = [] ∧
    (∀ j o' t, (j = i ∨ L j) → D.ops[j]? = some o' → o'.dst = some t → (∀ m q, (m = i ∨ L m) → j < m → D.ops[m]? = some q → q.dst ≠ some t) → AR ι' (D.V j) ((a.put o.dst v).tmps.getD t undef)) ∧
    (∀ t, (∀ m q, (m = i ∨ L m) → D.ops[m]? = some q → q.dst ≠ some t) → (a.put o.dst v).tmps.getD t undef = D.a0.tmps.getD t undef) := by
  cases hd : o.dst with
  | none =>
    refine ⟨I.size, I.defers, fun j o' t hj ho' ht hm => ?_, fun t hm => I.old t (fun m q h => hm m q (.inr h))⟩
    rcases hj with rfl | hj
    · rw [ho] at ho'; cases ho'; rw [hd] at ht; cases ht
    · exact (I.new j o' t hj ho' ht (fun m q h => hm m q (.inr h))).mono hle
  | some d =>
    obtain ⟨dst, g, _, hcd, _⟩ := K.inst i o ho
    have hlt : d < a.tmps.size := by rw [I.size]; exact cDst_lt hcd d hd
    refine ⟨by simp [Act.put, I.size], I.defers, fun j o' t hj ho' ht hm => ?_, fun t hm => ?_⟩
    · simp only [Act.put, getD_set _ _ _ _ hlt]
      by_cases e : d = t
      · subst e
        rw [if_pos rfl]
        rcases hj with rfl | hj
        · exact hv
        · rcases Nat.lt_trichotomy j i with h | h | h
          · exact absurd hd (hm i o (.inl rfl) h ho)
          · subst h; exact absurd hj hnl
          · exact absurd hd (hlater j o' d hj h ho' ht)
      · rw [if_neg e]
        rcases hj with rfl | hj
        · rw [ho] at ho'; cases ho'; rw [hd] at ht; cases ht; exact absurd rfl e
        · exact (I.new j o' t hj ho' ht (fun m q h => hm m q (.inr h))).mono hle
    · simp only [Act.put, getD_set _ _ _ _ hlt]
      by_cases e : d = t
      · subst e; exact absurd hd (hm i o (.inl rfl) ho)
      · rw [if_neg e]; exact I.old t (fun m q h => hm m q (.inr h))

/-- An operation that leaves the heap alone. -/
theorem DI.quiet (I : DI D L eo ι f a w) {i : Nat} {o : Oper} {v : Value} (ho : D.ops[i]? = some o) (hnl : ¬ L i) (hlater : ∀ m q t, L m → i < m → D.ops[m]? = some q → q.dst = some t → o.dst ≠ some t) (hk : ¬ D.kd i .eff) (hW : D.W i = none)
    (hv : AR ι (D.V i) v) : DI D (fun j => j = i ∨ L j) eo ι f (a.put o.dst v) w := by
  obtain ⟨t1, t2, t3, t4⟩ := I.put4 K ho hnl hlater (Le.refl ι) hv
  refine ⟨fun e he => ⟨.inr (I.top e he).1, (I.top e he).2⟩, fun e he hke => ?_, I.next, I.fresh, fun j hj hl => I.res j hj (fun h => hl (.inr h)), I.dead, fun x b => (I.spec x b).trans ⟨fun ⟨j, h⟩ => ⟨j, .inr h.1, h.2⟩, ?_⟩, I.rel, I.fr, I.le, I.same, I.deadb, t1, t2, t3, t4⟩
  · rcases he with rfl | he
    · exact absurd hke hk
    · exact I.last e he hke
  · rintro ⟨j, rfl | h, h2, h3, h4⟩
    · rw [hW] at h4; cases h4
    · exact ⟨j, h, h2, h3, h4⟩

/-- An operation that makes a block. -/
theorem DI.made (I : DI D L eo ι f a w) {i : Nat} {o : Oper} {v : Value} {w' : World} {fn : Nat → AV} {b : Blk} (ho : D.ops[i]? = some o) (hnl : ¬ L i) (hlater : ∀ m q t, L m → i < m → D.ops[m]? = some q → q.dst = some t → o.dst ≠ some t) (hk : D.kd i .new) (hW : D.W i = some (D.h.next + D.rank i, b))
    (hs : start eo ≤ i) (hV : D.V i = fn (D.h.next + D.rank i)) (hn : NewOK D.B ι w fn b v w') : ∃ ι' f', DI D (fun j => j = i ∨ L j) eo ι' f' (a.put o.dst v) w' := by
  have hlen : i < D.l.length := by
    obtain ⟨x, hx, _⟩ := hk
    rcases Nat.lt_or_ge i D.l.length with h | h
    · exact h
    · rw [List.getElem?_eq_none h] at hx; cases hx
  obtain ⟨lim, ⟨r1, r2, r3, r4, r5⟩, hro, hall⟩ := hn
  have hnone := I.res i hk hnl
  obtain ⟨ha, hb⟩ := hall _ hnone
  have hle : Le ι (ι.put (D.h.next + D.rank i) (w.heap.size, 0, lim)) := Inj.put_le hnone
  have hoth : ∀ x, x ≠ w.heap.size → x < w.heap.size → w'.heap[x]? = w.heap[x]? := fun x _ hx => r5 x hx
  have hlt := DD.rank_lt hk
  have hg : over (upd f (D.h.next + D.rank i) (some b)) (D.C (start eo)).get = upd (over f (D.C (start eo)).get) (D.h.next + D.rank i) (some b) := by
    funext x
    by_cases e : x = D.h.next + D.rank i
    · subst e; simp [over, upd]
    · simp [over, upd, e]
  have hrel := I.rel.set hle Inj.put_at hb hro r4 hoth (by
    intro j kj hj hgj _ b' x y e
    obtain ⟨b'', x', y', e', hb'⟩ := I.rel.at_ j kj hgj
    rw [e'] at e; simp only [Option.some.injEq, Prod.mk.injEq] at e
    have := hb'.lt; omega)
  have hfr := Fr.set (k' := b) I.rel hle (Inj.put_at (x := (w.heap.size, 0, lim))) r4 hoth r1 r2 r3 (.inr (Nat.le_refl _))
  obtain ⟨t1, t2, t3, t4⟩ := I.put4 K ho hnl hlater hle (by rw [hV]; exact ha)
  refine ⟨ι.put (D.h.next + D.rank i) (w.heap.size, 0, lim), upd f (D.h.next + D.rank i) (some b), ⟨fun e he => ⟨.inr (I.top e he).1, (I.top e he).2⟩, fun e he hke => ?_, I.next, fun x hx => ?_, fun j hj hl => ?_, I.dead, fun x y => ?_, ?_, ?_, I.le.trans hle, fun x hx => ?_, I.deadb, t1, t2, t3, t4⟩⟩
  · rcases he with rfl | he
    · cases DD.kd_fun hke hk
    · exact I.last e he hke
  · have := I.next
    rw [Inj.put_ne (by omega)]; exact I.fresh x hx
  · have hji : j ≠ i := fun e => hl (.inl e)
    have : D.rank j ≠ D.rank i := fun e => hji (DD.rank_inj hj hk e)
    rw [Inj.put_ne (by omega)]; exact I.res j hj (fun h => hl (.inr h))
  · by_cases e : x = D.h.next + D.rank i
    · subst e
      simp only [upd, if_true]
      constructor
      · intro h; cases h; exact ⟨i, .inl rfl, hs, hlen, hW⟩
      · rintro ⟨j, _, _, h3, h4⟩
        obtain ⟨k1, k2, _⟩ := K.W_kd h3 h4
        have : j = i := DD.rank_inj k1 hk (by simp only at k2; omega)
        subst this; rw [hW] at h4; cases h4; rfl
    · simp only [upd, e, if_false]
      rw [I.spec x y]
      constructor
      · rintro ⟨j, h⟩; exact ⟨j, .inr h.1, h.2⟩
      · rintro ⟨j, rfl | h, h2, h3, h4⟩
        · rw [hW] at h4; cases h4; exact absurd rfl e
        · exact ⟨j, h, h2, h3, h4⟩
  · rw [hg]; exact hrel
  · rw [hg]; exact I.fr.trans hfr
  · rw [Inj.put_ne (by omega)]; exact I.same x hx

/-- An effect. -/
theorem DI.effect (I : DI D L eo ι f a w) {i : Nat} {o : Oper} {v : Value} {w' : World} {ι' : Inj} (ho : D.ops[i]? = some o) (hnl : ¬ L i) (hlater : ∀ m q t, L m → i < m → D.ops[m]? = some q → q.dst = some t → o.dst ≠ some t) (hk : D.kd i .eff) (hW : D.W i = none)
    (hs : start eo ≤ i) (hlen : i < D.l.length) (hne : ∀ j, start eo ≤ j → j < i → ¬ D.kd j .eff) (hall : ∀ j, start eo ≤ j → j < i → D.kd j .new → L j) (hlast : ∀ e, L e → D.kd e .eff → e < i)
    (hp : Post D.B ι (D.C i) w ι' (D.C (i + 1)) w') (hv : AR ι' (D.V i) v) : ∃ f', DI D (fun j => j = i ∨ L j) (some i) ι' f' (a.put o.dst v) w' := by
  classical
  obtain ⟨hnext, hsub⟩ := I.sub_at K hs (Nat.le_of_lt hlen) hne hall
  have hbtw := K.between (s := start eo) I.dead (i - start eo) (by omega) (fun j h1 h2 => hne j h1 (by omega))
  rw [show start eo + (i - start eo) = i by omega] at hbtw
  have hbn := I.next
  have hfresh : ∀ x, (D.C i).next ≤ x → ι x = none := fun x hx => I.fresh x (by omega)
  have hle := hp.le hfresh
  let cond : Nat → Prop := fun x => ∃ m b, L m ∧ i < m ∧ m < D.l.length ∧ D.W m = some (x, b)
  let f' : Nat → Option Blk := fun x => if cond x then f x else none
  have hspec : ∀ x b, f' x = some b ↔ ∃ j, L j ∧ i < j ∧ j < D.l.length ∧ D.W j = some (x, b) := by
    intro x b
    by_cases hc : cond x
    · have e : f' x = f x := if_pos hc
      rw [e, I.spec x b]
      obtain ⟨m, b', m1, m2, m3, m4⟩ := hc
      constructor
      · rintro ⟨j, j1, j2, j3, j4⟩
        obtain ⟨k1, k2, _⟩ := K.W_kd j3 j4
        obtain ⟨q1, q2, _⟩ := K.W_kd m3 m4
        have : j = m := DD.rank_inj k1 q1 (by simp only at k2 q2; omega)
        subst this
        exact ⟨j, j1, m2, j3, j4⟩
      · rintro ⟨j, j1, j2, j3, j4⟩; exact ⟨j, j1, by omega, j3, j4⟩
    · have e : f' x = none := if_neg hc
      rw [e]
      constructor
      · intro h; cases h
      · rintro ⟨j, j1, j2, j3, j4⟩; exact absurd ⟨j, b, j1, j2, j3, j4⟩ hc
  have hdeadi : ∀ j, D.kd j .new → i ≤ j → (D.C i).get (D.h.next + D.rank j) = none := by
    intro j hj hij
    cases hg : (D.C i).get (D.h.next + D.rank j) with
    | none => rfl
    | some b =>
      rcases (hbtw.2 _ _).1 hg with h | ⟨m, m1, m2, m3⟩
      · rw [I.dead j hj (by omega)] at h; cases h
      · obtain ⟨q1, q2, _⟩ := K.W_kd (by omega) m3
        have : j = m := DD.rank_inj hj q1 (by simp only at q2; omega)
        omega
  have hf'f : Sub f' f := by
    intro x b h
    obtain ⟨j, j1, j2, j3, j4⟩ := (hspec x b).1 h
    exact (I.spec x b).2 ⟨j, j1, by omega, j3, j4⟩
  obtain ⟨hrel, hfr⟩ := frame_post (g := over f (D.C (start eo)).get) (f := f') I.rel hsub (fun x b h => over_some (hf'f x b h))
    (by
      intro x b h
      obtain ⟨j, j1, j2, j3, j4⟩ := (hspec x b).1 h
      exact (K.W_kd j3 j4).2.2)
    (by
      intro x b h
      obtain ⟨j, j1, j2, j3, j4⟩ := (hspec x b).1 h
      obtain ⟨k1, k2, _⟩ := K.W_kd j3 j4
      have := DD.rank_lt k1
      simp only at k2
      refine ⟨by omega, ?_⟩
      rw [k2]; exact hdeadi j k1 (by omega))
    hp hle
  obtain ⟨t1, t2, t3, t4⟩ := I.put4 K ho hnl hlater hle hv
  have hpn := hp.next
  refine ⟨f', ⟨fun e he => by cases he; exact ⟨.inl rfl, hk⟩, fun e he hke => ?_, by show _ ≤ (D.C (i + 1)).next; omega, hp.fresh, fun j hj hl => ?_, fun j hj hij => ?_, fun x b => ?_, hrel, I.fr.trans hfr, I.le.trans hle, fun x hx => ?_, fun x hx hn => ?_, t1, t2, t3, t4⟩⟩
  · rcases he with rfl | he
    · exact Nat.lt_succ_self _
    · exact Nat.lt_succ_of_lt (hlast e he hke)
  · have := DD.rank_lt hj
    rw [hp.same _ (by omega)]
    exact I.res j hj (fun h => hl (.inr h))
  · have := DD.rank_lt hj
    have hij' : i + 1 ≤ j := hij
    exact hp.dead _ (by omega) (hdeadi j hj (by omega))
  · rw [hspec x b]
    constructor
    · rintro ⟨j, j1, j2, j3, j4⟩; exact ⟨j, .inr j1, j2, j3, j4⟩
    · rintro ⟨j, rfl | j1, j2, j3, j4⟩
      · exact absurd j2 (Nat.not_succ_le_self _)
      · exact ⟨j, j1, j2, j3, j4⟩
  · rw [hp.same x (by omega)]; exact I.same x hx
  · refine hp.dead x (by omega) ?_
    cases hg : (D.C i).get x with
    | none => rfl
    | some b =>
      rcases (hbtw.2 _ _).1 hg with h | ⟨m, m1, m2, m3⟩
      · rw [I.deadb x hx hn] at h; cases h
      · obtain ⟨q1, q2, _⟩ := K.W_kd (by omega) m3
        simp only at q2; omega
end
end Lav
