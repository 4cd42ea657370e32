/-
  A region that draws its order: frames, orders, what stands ahead of what.
-/
import Derived.Test.YtdilhnnbfkiacaaFwD
namespace Lav
open Go

section
variable {B : Nat} {ι ι' : Inj} {w w' : World}

def over (f g : Nat → Option Blk) : Nat → Option Blk := fun i => match f i with | some b => some b | none => g i

theorem over_some {f g : Nat → Option Blk} {i : Nat} {b : Blk} (h : f i = some b) : over f g i = some b := by simp [over, h]
theorem over_none {f g : Nat → Option Blk} {i : Nat} (h : f i = none) : over f g i = g i := by simp [over, h]

/-- Blocks that an evaluation does not know of stay as they are. -/
theorem frame_post {g f : Nat → Option Blk} {c c' : Heap} (hr : HR B ι g w) (hsub : Sub c.get g) (hfs : Sub f g) (hfro : ∀ i k, f i = some k → k.isRo = false) (hfn : ∀ i k, f i = some k → i < c.next ∧ c.get i = none)
    (p : Post B ι c w ι' c' w') (hle : Le ι ι') : HR B ι' (over f c'.get) w' ∧ Fr ι g w ι' (over f c'.get) w' := by
  have hown : ∀ b, Own ι c.get b → Own ι g b := fun b hb => hb.sub hsub
  have hf : ∀ i k, f i = some k → ∃ b base lim, ι i = some (b, base, lim) ∧ BR B ι b base lim w k ∧ ¬ Own ι c.get b := by
    intro i k hi
    obtain ⟨b, base, lim, h1, h2⟩ := hr.at_ i k (hfs i k hi)
    refine ⟨b, base, lim, h1, h2, ?_⟩
    rintro ⟨j, kj, x, y, e1, e2, e3⟩
    have hij : i ≠ j := by intro e; subst e; rw [(hfn i k hi).2] at e1; cases e1
    exact hr.apart i j k kj (hfs i k hi) (hsub j kj e1) (hfro i k hi) e2 hij _ _ _ _ _ _ h1 e3 rfl
  refine ⟨⟨fun i k hi => ?_, fun i j ki kj hi hj hri hrj hne b x y b' x' y' e1 e2 => ?_, Nat.le_trans hr.base p.fr.size⟩, ⟨p.fr.os, p.fr.output, p.fr.tape, p.fr.size, fun b hb hn => p.fr.keep b hb (fun h => hn (hown b h)), fun b hb => ?_⟩⟩
  · cases hfi : f i with
    | some k' =>
      rw [over_some hfi] at hi; cases hi
      obtain ⟨b, base, lim, h1, h2, h3⟩ := hf i _ hfi
      exact ⟨b, base, lim, hle _ _ h1, h2.move hle (p.fr.keep b h2.lt h3)⟩
    | none => rw [over_none hfi] at hi; exact p.rel.at_ i k hi
  · have cross : ∀ i j ki kj, f i = some ki → f j = none → c'.get j = some kj → kj.isRo = false → ∀ b x y b' x' y', ι' i = some (b, x, y) → ι' j = some (b', x', y') → b ≠ b' := by
      intro i j ki kj hi hj hcj hrj b x y b' x' y' e1 e2 e
      subst e
      obtain ⟨b0, base, lim, h1, h2, h3⟩ := hf i _ hi
      rw [hle _ _ h1] at e1; simp only [Option.some.injEq, Prod.mk.injEq] at e1
      obtain ⟨rfl, _, _⟩ := e1
      rcases p.fr.own b0 ⟨j, kj, _, _, hcj, hrj, e2⟩ with h | h
      · exact h3 h
      · have := h2.lt; omega
    cases hfi : f i with
    | some k1 =>
      rw [over_some hfi] at hi; cases hi
      cases hfj : f j with
      | some k2 =>
        rw [over_some hfj] at hj; cases hj
        obtain ⟨b0, base, lim, h1, h2, h3⟩ := hf i _ hfi
        obtain ⟨b1, base1, lim1, h1', h2', h3'⟩ := hf j _ hfj
        rw [hle _ _ h1] at e1; rw [hle _ _ h1'] at e2
        simp only [Option.some.injEq, Prod.mk.injEq] at e1 e2
        obtain ⟨rfl, _, _⟩ := e1
        obtain ⟨rfl, _, _⟩ := e2
        exact hr.apart i j _ _ (hfs _ _ hfi) (hfs _ _ hfj) hri hrj hne _ _ _ _ _ _ h1 h1'
      | none =>
        rw [over_none hfj] at hj
        exact cross i j _ kj hfi hfj hj hrj _ _ _ _ _ _ e1 e2
    | none =>
      rw [over_none hfi] at hi
      cases hfj : f j with
      | some k2 =>
        rw [over_some hfj] at hj; cases hj
        exact fun e => cross j i _ ki hfj hfi hi hri _ _ _ _ _ _ e2 e1 e.symm
      | none =>
        rw [over_none hfj] at hj
        exact p.rel.apart i j ki kj hi hj hri hrj hne _ _ _ _ _ _ e1 e2
  · obtain ⟨i, k, base, lim, h1, h2, h3⟩ := hb
    cases hfi : f i with
    | some k' =>
      rw [over_some hfi] at h1; cases h1
      obtain ⟨b0, base0, lim0, g1, g2, g3⟩ := hf i _ hfi
      rw [hle _ _ g1] at h3; simp only [Option.some.injEq, Prod.mk.injEq] at h3
      obtain ⟨rfl, rfl, rfl⟩ := h3
      exact .inl ⟨i, _, _, _, hfs _ _ hfi, h2, g1⟩
    | none =>
      rw [over_none hfi] at h1
      rcases p.fr.own b ⟨i, k, base, lim, h1, h2, h3⟩ with h | h
      · exact .inl (hown b h)
      · exact .inr h
end

/-! ### What stands ahead -/
theorem foldl_bits (bd : Edge → Bool) (prev : Nat → Nat) (i : Nat) : ∀ (es : List Edge) (s : Nat),
    (es.foldl (fun s e => bif bd e then s ||| 2 ^ e.on ||| prev e.on else s) s).testBit i = true → s.testBit i = true ∨ ∃ e ∈ es, bd e = true ∧ (i = e.on ∨ (prev e.on).testBit i = true)
  | [], s, h => .inl h
  | e :: es, s, h => by
    rw [List.foldl_cons] at h
    rcases foldl_bits bd prev i es _ h with h1 | ⟨e', h1, h2⟩
    · cases hb : bd e with
      | false => rw [hb] at h1; exact .inl h1
      | true =>
        rw [hb] at h1
        simp only [cond_true, Nat.testBit_or, Bool.or_eq_true, Nat.testBit_two_pow, decide_eq_true_eq] at h1
        rcases h1 with (h1 | h1) | h1
        · exact .inl h1
        · exact .inr ⟨e, by simp, hb, .inl h1.symm⟩
        · exact .inr ⟨e, by simp, hb, .inr h1⟩
    · exact .inr ⟨e', by simp [h1], h2⟩

/-- What the bits say of the operations from number m on. -/
theorem aheadOf_spec (l : List Oper) : ∀ (rest : List Oper) (acc : List Nat) , (∀ k, rest[k]? = l[acc.length + k]?) →
    (∀ j, j < acc.length → (aheadOf rest acc).getD j 0 = acc.reverse.getD j 0) ∧
    ∀ j i, acc.length ≤ j → ((aheadOf rest acc).getD j 0).testBit i = true → ∃ o e, l[j]? = some o ∧ e ∈ o.after.toList ∧ Region.binds .any e = true ∧ (i = e.on ∨ (e.on < j ∧ ((aheadOf rest acc).getD e.on 0).testBit i = true))
  | [], acc, _ => by
    refine ⟨fun j hj => rfl, fun j i hj hb => ?_⟩
    simp only [aheadOf] at hb
    rw [List.getD_eq_getElem?_getD, List.getElem?_eq_none (by simpa using hj)] at hb
    simp at hb
  | o :: rest, acc, hl => by
    have h0 : l[acc.length]? = some o := by simpa using (hl 0).symm
    simp only [aheadOf]
    obtain ⟨h1, h2⟩ := aheadOf_spec l rest ((o.after.toList.foldl (fun s e => bif Region.binds .any e then s ||| 2 ^ e.on ||| (acc.reverse.getD e.on 0) else s) 0) :: acc)
      (fun k => by have := hl (k + 1); simpa [Nat.add_assoc, Nat.add_comm 1 k] using this)
    generalize hx : (o.after.toList.foldl (fun s e => bif Region.binds .any e then s ||| 2 ^ e.on ||| (acc.reverse.getD e.on 0) else s) 0) = x at h1 h2 ⊢
    refine ⟨fun j hj => ?_, fun j i hj hb => ?_⟩
    · rw [h1 j (by simp; omega)]
      simp only [List.reverse_cons, List.getD_eq_getElem?_getD]
      rw [List.getElem?_append_left (by simpa using hj)]
    · by_cases e : j = acc.length
      · subst e
        rw [h1 _ (by simp)] at hb
        have : ((x :: acc).reverse).getD acc.length 0 = x := by
          simp only [List.reverse_cons, List.getD_eq_getElem?_getD]
          rw [List.getElem?_append_right (by simp)]
          simp
        rw [this, ← hx] at hb
        rcases foldl_bits (Region.binds .any) (fun x => acc.reverse.getD x 0) i _ _ hb with h3 | ⟨e, he, hbd, h3⟩
        · simp at h3
        · refine ⟨o, e, h0, he, hbd, ?_⟩
          rcases h3 with h3 | h3
          · exact .inl h3
          · refine .inr ?_
            have hlt : e.on < acc.length := by
              rcases Nat.lt_or_ge e.on acc.length with h' | h'
              · exact h'
              · rw [List.getD_eq_getElem?_getD, List.getElem?_eq_none (by simpa using h')] at h3; simp at h3
            refine ⟨hlt, ?_⟩
            rw [h1 _ (by simp; omega)]
            simp only [List.reverse_cons, List.getD_eq_getElem?_getD]
            rw [List.getElem?_append_left (by simpa using hlt)]
            simpa [List.getD_eq_getElem?_getD] using h3
      · exact h2 j i (by simp; omega) hb

theorem anc_edge {l : List Oper} {i j : Nat} (h : anc (aheadOf l []) i j = true) : ∃ o e, l[j]? = some o ∧ e ∈ o.after.toList ∧ Region.binds .any e = true ∧ (i = e.on ∨ (e.on < j ∧ anc (aheadOf l []) i e.on = true)) :=
  (aheadOf_spec l l [] (fun k => by simp)).2 j i (Nat.zero_le _) h

/-- A set of operations that holds, with each, all that must stand ahead of it. -/
def Closed (l : List Oper) (L : Nat → Prop) : Prop := ∀ j o e, L j → l[j]? = some o → e ∈ o.after.toList → Region.binds .any e = true → L e.on

theorem Closed.anc {l : List Oper} {L : Nat → Prop} (h : Closed l L) : ∀ (j i : Nat), (∀ o e, l[j]? = some o → e ∈ o.after.toList → Region.binds .any e = true → L e.on) → anc (aheadOf l []) i j = true → L i := by
  intro j
  induction j using Nat.strongRecOn with
  | _ j ih =>
    intro i hj ha
    obtain ⟨o, e, h1, h2, h3, h4⟩ := anc_edge ha
    have hL := hj o e h1 h2 h3
    rcases h4 with rfl | ⟨h4, h5⟩
    · exact hL
    · exact ih e.on h4 i (fun o' e' => h e.on o' e' hL) h5

/-! ### The compiler's region, operation by operation -/
def dsAt (l : List Oper) (j : Nat) : List (Option Nat) := ((l.take j).map (·.dst)).reverse

theorem dsAt_succ {l : List Oper} {j : Nat} {o : Oper} (h : l[j]? = some o) : dsAt l (j + 1) = o.dst :: dsAt l j := by
  unfold dsAt
  have : l.take (j + 1) = l.take j ++ [o] := by rw [List.take_add_one, h]; rfl
  rw [this]; simp

theorem cRegion_get {P : Program} {slots : List Nat} {ntmps : Nat} (l : List Oper) : ∀ (rest : List Oper) (j : Nat) (is : List Inst), (∀ k, rest[k]? = l[j + k]?) → cRegion P slots ntmps l rest (dsAt l j) j = some is →
    is.length = rest.length ∧ ∀ m o, rest[m]? = some o → ∃ dst g, is[m]? = some ⟨dst, cOp P slots (dsAt l (j + m)) o.op, g, []⟩ ∧ cDst slots ntmps o.dst = some dst ∧ cGuard l (dsAt l (j + m)) (j + m) o.guard = some g
  | [], j, is, _, h => by simp [cRegion] at h; subst h; exact ⟨rfl, fun m o ho => by simp at ho⟩
  | o :: rest, j, is, hl, h => by
    have h0 : l[j]? = some o := by simpa using (hl 0).symm
    unfold cRegion at h
    split at h
    · rename_i d g hd hg
      split at h
      · rename_i is' his
        simp only [Option.some.injEq] at h; subst h
        rw [← dsAt_succ h0] at his
        obtain ⟨h1, h2⟩ := cRegion_get l rest (j + 1) is' (fun k => by have := hl (k + 1); simpa [Nat.add_assoc, Nat.add_comm 1 k] using this) his
        refine ⟨by simp [h1], fun m q hq => ?_⟩
        cases m with
        | zero => simp at hq; subst hq; exact ⟨d, g, rfl, hd, hg⟩
        | succ m =>
          obtain ⟨d', g', e1, e2, e3⟩ := h2 m q (by simpa using hq)
          rw [show j + (m + 1) = j + 1 + m by omega]
          exact ⟨d', g', by simpa using e1, e2, e3⟩
      · cases h
    · cases h

theorem withChks_get (b es ns : List Nat) : ∀ (is : List Inst) (i m : Nat), (withChks b es ns i is)[m]? = (is[m]?).map fun x => { x with chk := chks b es ns (i + m) x.op }
  | [], i, m => by simp [withChks]
  | x :: r, i, m => by
    cases m with
    | zero => simp [withChks]
    | succ m => simp only [withChks, List.getElem?_cons_succ]; rw [withChks_get b es ns r (i + 1) m, show i + 1 + m = i + (m + 1) by omega]

theorem withChks_length (b es ns : List Nat) : ∀ (is : List Inst) (i : Nat), (withChks b es ns i is).length = is.length
  | [], i => rfl
  | x :: r, i => by simp [withChks, withChks_length b es ns r (i + 1)]

theorem okXs_get {slots : List Nat} (l : List Oper) : ∀ (rest : List Oper) (is : List Inst) (j : Nat), (∀ k, rest[k]? = l[j + k]?) → okXs slots l rest is (dsAt l j) = true →
    ∀ m o i, rest[m]? = some o → is[m]? = some i → ∀ x ∈ i.op.xs, okX slots (dsAt l (j + m)) (looks l o) x = true
  | [], is, j, _, _ => fun m o i ho => by simp at ho
  | o :: rest, [], j, _, h => by simp [okXs] at h
  | o :: rest, i :: is, j, hl, h => by
    have h0 : l[j]? = some o := by simpa using (hl 0).symm
    simp only [okXs, Bool.and_eq_true, List.all_eq_true] at h
    obtain ⟨h1, h2⟩ := h
    rw [← dsAt_succ h0] at h2
    intro m q i' hq hi'
    cases m with
    | zero => simp at hq hi'; subst hq; subst hi'; exact h1
    | succ m =>
      rw [show j + (m + 1) = j + 1 + m by omega]
      exact okXs_get l rest is (j + 1) (fun k => by have := hl (k + 1); simpa [Nat.add_assoc, Nat.add_comm 1 k] using this) h2 m q i' (by simpa using hq) (by simpa using hi')

theorem mem_kdAt {k : Kd} {is : List Inst} {j : Nat} : j ∈ kdAt k is ↔ ∃ i, is[j]? = some i ∧ i.op.kd = k := by
  simp only [kdAt, List.mem_map, List.mem_filter]
  constructor
  · rintro ⟨⟨i, m⟩, ⟨h1, h2⟩, rfl⟩
    exact ⟨i, List.mem_zipIdx_iff_getElem?.1 h1, by simpa using h2⟩
  · rintro ⟨i, h1, h2⟩
    exact ⟨(i, j), ⟨List.mem_zipIdx_iff_getElem?.2 h1, by simpa using h2⟩, rfl⟩

theorem settled_spec {l : List Oper} {b : List Nat} (h : settled l b = true) {i j d : Nat} {o q : Oper} (ho : l[i]? = some o) (hq : l[j]? = some q) (hd : o.dst = some d) (hne : i ≠ j) (hl : d ∈ looks l q ∨ q.dst = some d) :
    if i < j then anc b i j = true else anc b j i = true := by
  simp only [settled, List.all_eq_true] at h
  have h1 := h (o, i) (List.mem_zipIdx_iff_getElem?.2 ho)
  simp only [hd, List.all_eq_true] at h1
  have h2 := h1 (q, j) (List.mem_zipIdx_iff_getElem?.2 hq)
  have e1 : (i == j) = false := by simpa using hne
  have e2 : ((looks l q).contains d || q.dst == some d) = true := by
    rcases hl with hl | hl
    · simp [hl]
    · simp [hl]
  simp only [e1, e2, Bool.not_true, Bool.or_false, Bool.false_or] at h2
  by_cases hlt : i < j
  · have : Nat.blt i j = true := Nat.ble_eq_true_of_le hlt
    rw [this] at h2; rw [if_pos hlt]; exact h2
  · have : Nat.blt i j = false := by
      cases hb : Nat.blt i j with
      | false => rfl
      | true => exact absurd (Nat.lt_of_succ_le (Nat.le_of_ble_eq_true hb)) hlt
    rw [this] at h2; rw [if_neg hlt]; exact h2

theorem posOf_spec {l : List Oper} : ∀ (j : Nat) (t d : Nat), j ≤ l.length → posOf (dsAt l j) t = some d → d < j ∧ (∃ o, l[j - 1 - d]? = some o ∧ o.dst = some t) ∧ ∀ m q, j - 1 - d < m → m < j → l[m]? = some q → q.dst ≠ some t := by
  intro j
  induction j with
  | zero => intro t d _ h; simp [dsAt, posOf] at h
  | succ j ih =>
    intro t d hj h
    obtain ⟨o, ho⟩ : ∃ o, l[j]? = some o := ⟨l[j], by simp⟩
    rw [dsAt_succ ho] at h
    have shift : (posOf (dsAt l j) t).map (· + 1) = some d → (o.dst ≠ some t) → d < j + 1 ∧ (∃ o, l[j + 1 - 1 - d]? = some o ∧ o.dst = some t) ∧ ∀ m q, j + 1 - 1 - d < m → m < j + 1 → l[m]? = some q → q.dst ≠ some t := by
      intro h hne
      cases hp : posOf (dsAt l j) t with
      | none => rw [hp] at h; cases h
      | some e =>
        rw [hp] at h; simp at h; subst h
        obtain ⟨h1, h2, h3⟩ := ih t e (by omega) hp
        refine ⟨by omega, by rw [show j + 1 - 1 - (e + 1) = j - 1 - e by omega]; exact h2, fun m q hm1 hm2 hq => ?_⟩
        by_cases em : m = j
        · subst em; rw [ho] at hq; cases hq; exact hne
        · exact h3 m q (by omega) (by omega) hq
    cases hd : o.dst with
    | none =>
      rw [hd, posOf_cons_none] at h
      exact shift h (by rw [hd]; simp)
    | some u =>
      rw [hd, posOf_cons_some] at h
      by_cases e : u = t
      · rw [if_pos e] at h; simp at h; subst h
        exact ⟨by omega, ⟨o, by simpa using ho, by rw [hd, e]⟩, fun m q h1 h2 => by omega⟩
      · rw [if_neg e] at h
        exact shift h (by rw [hd]; simp [e])

theorem posOf_none {l : List Oper} : ∀ (j : Nat) (t : Nat), j ≤ l.length → posOf (dsAt l j) t = none → ∀ m q, m < j → l[m]? = some q → q.dst ≠ some t := by
  intro j
  induction j with
  | zero => intro t _ _ m q h; omega
  | succ j ih =>
    intro t hj h m q hm hq
    obtain ⟨o, ho⟩ : ∃ o, l[j]? = some o := ⟨l[j], by simp⟩
    rw [dsAt_succ ho] at h
    have shift : (posOf (dsAt l j) t).map (· + 1) = none → o.dst ≠ some t → q.dst ≠ some t := by
      intro h hne
      have hp : posOf (dsAt l j) t = none := by cases hp : posOf (dsAt l j) t with
        | none => rfl
        | some e => rw [hp] at h; cases h
      by_cases em : m = j
      · subst em; rw [ho] at hq; cases hq; exact hne
      · exact ih t (by omega) hp m q (by omega) hq
    cases hd : o.dst with
    | none => rw [hd, posOf_cons_none] at h; exact shift h (by rw [hd]; simp)
    | some u =>
      rw [hd, posOf_cons_some] at h
      by_cases e : u = t
      · rw [if_pos e] at h; cases h
      · rw [if_neg e] at h; exact shift h (by rw [hd]; simp [e])

end Lav
