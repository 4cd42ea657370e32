/-
  Layer 4: a list and its order.
-/
import Derived.Test.YtdilhnnbfkiacaaAList1
set_option maxRecDepth 100000
set_option linter.unusedSimpArgs false
namespace Lav
open Go (IntKind)

/-! ### Ties along a row -/
def Adj (f g : Int → Int) : List Int → Prop
  | a :: b :: l => f a = b ∧ g b = a ∧ Adj f g (b :: l)
  | _ => True

theorem Adj.frame {f g f' g' : Int → Int} : ∀ {l : List Int}, Adj f g l → (∀ a ∈ l.dropLast, f' a = f a) → (∀ b ∈ l.tail, g' b = g b) → Adj f' g' l
  | [], _, _, _ => trivial
  | [a], _, _, _ => trivial
  | a :: b :: l, h, h1, h2 => by
    refine ⟨?_, ?_, Adj.frame h.2.2 (fun x hx => h1 x (by simp [List.dropLast]; exact .inr hx)) (fun x hx => h2 x (by simp at hx ⊢; exact .inr hx))⟩
    · rw [h1 a (by simp [List.dropLast])]; exact h.1
    · rw [h2 b (by simp)]; exact h.2.1
theorem Adj.split {f g : Int → Int} {x : Int} : ∀ {l m : List Int}, Adj f g (l ++ x :: m) ↔ Adj f g (l ++ [x]) ∧ Adj f g (x :: m)
  | [], m => by simp [Adj]
  | [a], m => by simp [Adj, and_assoc]
  | a :: b :: l, m => by
    have := Adj.split (f := f) (g := g) (x := x) (l := b :: l) (m := m)
    simp only [List.cons_append, Adj] at this ⊢
    rw [this]
    simp only [and_assoc]

structure Ord (st : St) (n : Nat) (o : List Int) : Prop where
  len : st.es.length = n
  nd : o.Nodup
  lt : ∀ x ∈ o, 0 ≤ x ∧ x < (n : Int)
  ins : ∀ x : Int, 0 ≤ x → x < (n : Int) → (ent st x).1 = decide (x ∈ o)
  adj : Adj (nx st) (pv st) (-1 :: (o ++ [-1]))

theorem Ord.has {st : St} {n : Nat} {o : List Int} (r : Ord st n o) (x : Int) : (decide (0 ≤ x ∧ x < (st.es.length : Int)) && (ent st x).1) = decide (x ∈ o) := by
  rw [r.len]
  by_cases h : 0 ≤ x ∧ x < (n : Int)
  · rw [decide_eq_true h, Bool.true_and, r.ins x h.1 h.2]
  · rw [decide_eq_false h, Bool.false_and, decide_eq_false (fun hm => h (r.lt x hm))]
theorem Ord.may {st : St} {n : Nat} {o : List Int} (r : Ord st n o) (x : Int) : (decide (0 ≤ x ∧ x < (st.es.length : Int)) && !(ent st x).1) = decide (0 ≤ x ∧ x < (n : Int) ∧ x ∉ o) := by
  rw [r.len]
  by_cases h : 0 ≤ x ∧ x < (n : Int)
  · rw [decide_eq_true h, Bool.true_and, r.ins x h.1 h.2]
    by_cases hm : x ∈ o
    · rw [decide_eq_true hm, decide_eq_false (fun e => e.2.2 hm)]; rfl
    · rw [decide_eq_false hm, decide_eq_true ⟨h.1, h.2, hm⟩]; rfl
  · rw [decide_eq_false h, Bool.false_and, decide_eq_false (fun e => h ⟨e.1, e.2.1⟩)]
theorem Ord.valid {st : St} {n : Nat} {o : List Int} (r : Ord st n o) {x : Int} (hx : x ∈ o) : Valid st.es.length x := by
  have := r.lt x hx
  exact .inr ⟨x.toNat, by omega, by have := r.len; omega⟩
theorem Ord.valid' {st : St} {n : Nat} {o : List Int} (r : Ord st n o) {x : Int} (hx : x ∈ -1 :: (o ++ [-1])) : Valid st.es.length x := by
  simp at hx
  rcases hx with rfl | hx | rfl
  · exact .inl rfl
  · exact r.valid hx
  · exact .inl rfl
/-- What follows a member. -/
def nextOf : List Int → Int → Int
  | [], _ => -1
  | a :: l, x => if a = x then l.headD (-1) else nextOf l x
theorem nextOf_adj {f g : Int → Int} : ∀ {o : List Int} {x : Int}, Adj f g (o ++ [-1]) → x ∈ o → f x = nextOf o x
  | [], _, _, h => by simp at h
  | [a], x, h, hx => by
    simp at hx; subst hx
    simp only [nextOf, if_true]; exact h.1
  | a :: b :: l, x, h, hx => by
    by_cases e : a = x
    · subst e; simp only [nextOf, if_true]; exact h.1
    · rw [nextOf, if_neg e]
      refine nextOf_adj h.2.2 ?_
      simp at hx ⊢
      rcases hx with hx | hx
      · exact absurd hx.symm e
      · exact hx
theorem nextOf_not : ∀ {o : List Int} {x : Int}, x ∉ o → nextOf o x = -1
  | [], _, _ => rfl
  | a :: l, x, h => by
    simp at h
    rw [nextOf, if_neg (fun e => h.1 e.symm)]
    exact nextOf_not h.2
theorem Ord.first {st : St} {n : Nat} {o : List Int} (r : Ord st n o) : st.f = o.headD (-1) := by
  have := r.adj
  cases o with
  | nil => exact this.1
  | cons a l => exact this.1
theorem Adj.last {f g : Int → Int} : ∀ {a : Int} {o : List Int}, Adj f g (a :: (o ++ [-1])) → g (-1) = o.getLastD a
  | a, [], h => h.2.1
  | a, b :: l, h => by
    have := Adj.last (a := b) (o := l) h.2.2
    rw [this]; cases l with
    | nil => rfl
    | cons c m => simp [List.getLastD]
theorem Ord.last {st : St} {n : Nat} {o : List Int} (r : Ord st n o) : st.l = o.getLastD (-1) := Adj.last r.adj
theorem Ord.next {st : St} {n : Nat} {o : List Int} (r : Ord st n o) {x : Int} (hx : x ∈ o) : (ent st x).2.2 = nextOf o x := by
  have := r.lt x hx
  have e : nx st x = (ent st x).2.2 := by unfold nx; rw [if_neg (by omega)]
  rw [← e]
  have h := r.adj
  cases o with
  | nil => simp at hx
  | cons a l => exact nextOf_adj h.2.2 hx

theorem ent_setIn {st : St} {i : Nat} (hi : i < st.es.length) (v : Bool) (x : Int) (hx : 0 ≤ x) : ent ⟨st.es.set i (v, st.es[i].2), st.f, st.l⟩ x = if x = (i : Int) then (v, (ent st x).2) else ent st x := by
  obtain ⟨j, rfl⟩ : ∃ j : Nat, x = (j : Int) := ⟨x.toNat, by omega⟩
  simp only [ent, List.getD_eq_getElem?_getD, Int.toNat_natCast]
  by_cases e : i = j
  · subst e; rw [if_pos rfl, List.getElem?_set_self hi]; simp [hi]
  · rw [if_neg (by omega), List.getElem?_set_ne e]
theorem ent_setNo {st : St} {i : Nat} (hi : i < st.es.length) (x : Int) (hx : 0 ≤ x) : ent ⟨st.es.set i (false, 0, 0), st.f, st.l⟩ x = if x = (i : Int) then (false, 0, 0) else ent st x := by
  obtain ⟨j, rfl⟩ : ∃ j : Nat, x = (j : Int) := ⟨x.toNat, by omega⟩
  simp only [ent, List.getD_eq_getElem?_getD, Int.toNat_natCast]
  by_cases e : i = j
  · subst e; rw [if_pos rfl, List.getElem?_set_self hi]; rfl
  · rw [if_neg (by omega), List.getElem?_set_ne e]

theorem mem_row {x : Int} {o1 o2 : List Int} (h : x ∈ -1 :: ((o1 ++ o2) ++ [-1])) : x = -1 ∨ x ∈ o1 ∨ x ∈ o2 := by
  rw [List.mem_cons, List.mem_append, List.mem_append, List.mem_singleton] at h
  rcases h with h | (h | h) | h
  · exact .inl h
  · exact .inr (.inl h)
  · exact .inr (.inr h)
  · exact .inl h

/-- One more, between two neighbours of the row. -/
theorem Ord.put {st : St} {n : Nat} {o1 o2 : List Int} (r : Ord st n (o1 ++ o2)) {i : Nat} (hi : i < st.es.length) (hx : (i : Int) ∉ o1 ++ o2) {a c : Int} (ha : (-1 :: o1).getLast (by simp) = a) (hc : (o2 ++ [-1]).head (by simp) = c) (st2 : St)
    (hn : st2.es.length = n) (hin : ∀ x, 0 ≤ x → (ent st2 x).1 = if x = (i : Int) then true else (ent st x).1)
    (hnx : ∀ x, Valid n x → nx st2 x = if x = (i : Int) then c else if x = a then (i : Int) else nx st x) (hpv : ∀ x, Valid n x → pv st2 x = if x = (i : Int) then a else if x = c then (i : Int) else pv st x) : Ord st2 n (o1 ++ (i : Int) :: o2) := by
  have hnn := r.len
  obtain ⟨A, hA⟩ : ∃ A, -1 :: o1 = A ++ [a] := ⟨(-1 :: o1).dropLast, by rw [← ha, List.dropLast_concat_getLast]⟩
  obtain ⟨C, hC⟩ : ∃ C, o2 ++ [-1] = c :: C := ⟨(o2 ++ [-1]).tail, by rw [← hc, List.cons_head_tail]⟩
  have hf : -1 :: ((o1 ++ o2) ++ [-1]) = A ++ a :: c :: C := by
    rw [List.append_assoc, ← List.cons_append, hA, hC, List.append_assoc]; rfl
  have hf' : -1 :: ((o1 ++ (i : Int) :: o2) ++ [-1]) = A ++ a :: (i : Int) :: c :: C := by
    rw [List.append_assoc, ← List.cons_append, hA, List.cons_append, hC, List.append_assoc]; rfl
  have hadj := r.adj
  have hv : ∀ x ∈ A ++ a :: c :: C, Valid n x := fun x hx' => by
    rw [← hnn]; exact r.valid' (by rw [hf]; exact hx')
  have hne : ∀ x ∈ A ++ a :: c :: C, x ≠ (i : Int) := fun x hx' e => by
    rw [← hf] at hx'
    rcases mem_row hx' with h | h | h
    · omega
    · exact hx (by rw [← e]; simp [h])
    · exact hx (by rw [← e]; simp [h])
  rw [hf, Adj.split] at hadj
  obtain ⟨h1, h2⟩ := hadj
  -- a stands once behind nobody of A; c once ahead of nobody of C
  have ndf : (o1 ++ o2).Nodup := r.nd
  have hpos : ∀ x ∈ o1 ++ o2, x ≠ -1 := fun x hx' e => by have := r.lt x hx'; omega
  have aA : ∀ x ∈ A, x ≠ a := fun x hxA e => by
    subst e
    have nd1 : (-1 :: o1).Nodup := by
      rw [List.nodup_cons]
      exact ⟨fun h => hpos (-1) (by simp [h]) rfl, (List.nodup_append.1 ndf).1⟩
    rw [hA, List.nodup_append] at nd1
    exact nd1.2.2 x hxA x (by simp) rfl
  have cC : ∀ x ∈ C, x ≠ c := fun x hxC e => by
    subst e
    have nd2 : (o2 ++ [-1]).Nodup := by
      rw [List.nodup_append]
      refine ⟨(List.nodup_append.1 ndf).2.1, by simp, fun u hu v hv' e => ?_⟩
      simp at hv'; subst hv'; subst e
      exact hpos _ (by simp [hu]) rfl
    rw [hC, List.nodup_cons] at nd2
    exact nd2.1 hxC
  have acne : ∀ x ∈ A, x ≠ a ∧ x ≠ (i : Int) := fun x hxA => ⟨aA x hxA, hne x (by simp [hxA])⟩
  have r1 := r.lt
  refine ⟨hn, ?_, fun x hx' => ?_, fun x h0 h1' => ?_, ?_⟩
  · rw [List.nodup_append] at ndf ⊢
    refine ⟨ndf.1, ?_, fun u hu v hv' e => ?_⟩
    · rw [List.nodup_cons]; exact ⟨fun h => hx (by simp [h]), ndf.2.1⟩
    · simp at hv'
      rcases hv' with rfl | hv'
      · exact hx (by simp [← e, hu])
      · exact ndf.2.2 u hu v hv' e
  · simp at hx'
    rcases hx' with hx' | rfl | hx'
    · exact r1 x (by simp [hx'])
    · omega
    · exact r1 x (by simp [hx'])
  · rw [hin x h0]
    by_cases e : x = (i : Int)
    · rw [if_pos e]; exact (decide_eq_true (by simp [e])).symm
    · rw [if_neg e, r.ins x h0 h1']
      congr 1
      simp [e]
  · rw [hf', Adj.split]
    refine ⟨h1.frame (fun x hx' => ?_) (fun x hx' => ?_), ?_, ?_, ?_⟩
    · have hxA : x ∈ A := by simpa using hx'
      rw [hnx x (hv x (by simp [hxA])), if_neg (acne x hxA).2, if_neg (acne x hxA).1]
    · -- behind the first of the row: never c
      have hxm : x ∈ A ++ a :: c :: C := by
        have := List.mem_of_mem_tail hx'
        simp at this ⊢; rcases this with h | h <;> simp [h]
      rw [hpv x (hv x hxm), if_neg (hne x hxm), if_neg]
      intro e
      subst e
      -- x is in the tail of A ++ [a] = -1 :: o1, so in o1; c is in o2 or -1
      rw [← hA] at hx'
      simp at hx'
      have : x ∈ o2 ++ [-1] := by rw [hC]; simp
      simp at this
      rcases this with h | h
      · exact (List.nodup_append.1 ndf).2.2 x hx' x h rfl
      · exact hpos x (by simp [hx']) h
    · rw [hnx a (hv a (by simp)), if_neg (hne a (by simp)), if_pos rfl]
    · rw [hpv (i : Int) (.inr ⟨i, rfl, by omega⟩), if_pos rfl]
    · refine ⟨?_, ?_, h2.2.2.frame (fun x hx' => ?_) (fun x hx' => ?_)⟩
      · rw [hnx (i : Int) (.inr ⟨i, rfl, by omega⟩), if_pos rfl]
      · rw [hpv c (hv c (by simp)), if_neg (hne c (by simp)), if_pos rfl]
      · have hxm : x ∈ A ++ a :: c :: C := by
          have := List.dropLast_subset _ hx'
          simp at this ⊢; rcases this with h | h <;> simp [h]
        rw [hnx x (hv x hxm), if_neg (hne x hxm), if_neg]
        intro e
        subst e
        rw [← hC, List.dropLast_concat] at hx'
        have : x ∈ -1 :: o1 := by rw [hA]; simp
        simp at this
        rcases this with h | h
        · exact hpos x (by simp [hx']) h
        · exact (List.nodup_append.1 ndf).2.2 x h x hx' rfl
      · have hxC : x ∈ C := by simpa using hx'
        have hxm : x ∈ A ++ a :: c :: C := by simp [hxC]
        rw [hpv x (hv x hxm), if_neg (hne x hxm), if_neg (cC x hxC)]

/-- One less. -/
theorem Ord.cut {st : St} {n : Nat} {o1 o2 : List Int} {i : Nat} (r : Ord st n (o1 ++ (i : Int) :: o2)) (st2 : St)
    (hn : st2.es.length = n) (hin : ∀ x, 0 ≤ x → (ent st2 x).1 = if x = (i : Int) then false else (ent st x).1)
    (hnx : ∀ x, Valid n x → x ≠ (i : Int) → nx st2 x = if x = pv st (i : Int) then nx st (i : Int) else nx st x) (hpv : ∀ x, Valid n x → x ≠ (i : Int) → pv st2 x = if x = nx st (i : Int) then pv st (i : Int) else pv st x) : Ord st2 n (o1 ++ o2) := by
  have hnn := r.len
  obtain ⟨a, A, hA⟩ : ∃ a A, -1 :: o1 = A ++ [a] := ⟨(-1 :: o1).getLast (by simp), (-1 :: o1).dropLast, by rw [List.dropLast_concat_getLast]⟩
  obtain ⟨c, C, hC⟩ : ∃ c C, o2 ++ [-1] = c :: C := ⟨(o2 ++ [-1]).head (by simp), (o2 ++ [-1]).tail, by rw [List.cons_head_tail]⟩
  have hf' : -1 :: ((o1 ++ o2) ++ [-1]) = A ++ a :: c :: C := by
    rw [List.append_assoc, ← List.cons_append, hA, hC, List.append_assoc]; rfl
  have hf : -1 :: ((o1 ++ (i : Int) :: o2) ++ [-1]) = A ++ a :: (i : Int) :: c :: C := by
    rw [List.append_assoc, ← List.cons_append, hA, List.cons_append, hC, List.append_assoc]; rfl
  have hadj := r.adj
  have hv : ∀ x ∈ A ++ a :: (i : Int) :: c :: C, Valid n x := fun x hx' => by
    rw [← hnn]; exact r.valid' (by rw [hf]; exact hx')
  rw [hf, Adj.split] at hadj
  obtain ⟨h1, h2, h3, h4, h5, h6⟩ := hadj
  have hpv_i : pv st (i : Int) = a := h3
  have hnx_i : nx st (i : Int) = c := h4
  rw [hpv_i, hnx_i] at hnx hpv
  have nd := r.nd
  have hpos : ∀ x ∈ o1 ++ (i : Int) :: o2, x ≠ -1 := fun x hx' e => by have := r.lt x hx'; omega
  have nd' := List.nodup_append.1 nd
  have ndi := List.nodup_cons.1 nd'.2.1
  have hi1 : (i : Int) ∉ o1 := fun h => nd'.2.2 _ h _ (by simp) rfl
  have hne : ∀ x ∈ A ++ a :: c :: C, x ≠ (i : Int) := fun x hx' e => by
    rw [← hf'] at hx'
    rcases mem_row hx' with h | h | h
    · omega
    · exact hi1 (by rw [← e]; exact h)
    · exact ndi.1 (by rw [← e]; exact h)
  have aA : ∀ x ∈ A, x ≠ a := fun x hxA e => by
    subst e
    have nd1 : (-1 :: o1).Nodup := by
      rw [List.nodup_cons]
      exact ⟨fun h => hpos (-1) (by simp [h]) rfl, nd'.1⟩
    rw [hA, List.nodup_append] at nd1
    exact nd1.2.2 x hxA x (by simp) rfl
  have cC : ∀ x ∈ C, x ≠ c := fun x hxC e => by
    subst e
    have nd2 : (o2 ++ [-1]).Nodup := by
      rw [List.nodup_append]
      refine ⟨ndi.2, by simp, fun u hu v hv' e => ?_⟩
      simp at hv'; subst hv'; subst e
      exact hpos _ (by simp [hu]) rfl
    rw [hC, List.nodup_cons] at nd2
    exact nd2.1 hxC
  have hvm : ∀ x ∈ A ++ a :: c :: C, Valid n x := fun x hx' => hv x (by simp at hx' ⊢; rcases hx' with h | h | h | h <;> simp [h])
  refine ⟨hn, ?_, fun x hx' => r.lt x (by simp at hx' ⊢; rcases hx' with h | h <;> simp [h]), fun x h0 h1' => ?_, ?_⟩
  · rw [List.nodup_append]
    exact ⟨nd'.1, ndi.2, fun u hu v hv' => nd'.2.2 u hu v (by simp [hv'])⟩
  · rw [hin x h0]
    by_cases e : x = (i : Int)
    · rw [if_pos e]; exact (decide_eq_false (by rw [e]; simp; exact ⟨hi1, ndi.1⟩)).symm
    · rw [if_neg e, r.ins x h0 h1']
      congr 1
      simp [e]
  · rw [hf', Adj.split]
    refine ⟨h1.frame (fun x hx' => ?_) (fun x hx' => ?_), ?_, ?_, ?_⟩
    · have hxA : x ∈ A := by simpa using hx'
      rw [hnx x (hvm x (by simp [hxA])) (hne x (by simp [hxA])), if_neg (aA x hxA)]
    · have hxm : x ∈ A ++ a :: c :: C := by
        have := List.mem_of_mem_tail hx'
        simp at this ⊢; rcases this with h | h <;> simp [h]
      rw [hpv x (hvm x hxm) (hne x hxm), if_neg]
      intro e
      subst e
      rw [← hA] at hx'
      simp at hx'
      have : x ∈ o2 ++ [-1] := by rw [hC]; simp
      simp at this
      rcases this with h | h
      · exact nd'.2.2 x hx' x (by simp [h]) rfl
      · exact hpos x (by simp [hx']) h
    · rw [hnx a (hvm a (by simp)) (hne a (by simp)), if_pos rfl]
    · rw [hpv c (hvm c (by simp)) (hne c (by simp)), if_pos rfl]
    · refine h6.frame (fun x hx' => ?_) (fun x hx' => ?_)
      · have hxm : x ∈ A ++ a :: c :: C := by
          have := List.dropLast_subset _ hx'
          simp at this ⊢; rcases this with h | h <;> simp [h]
        rw [hnx x (hvm x hxm) (hne x hxm), if_neg]
        intro e
        subst e
        rw [← hC, List.dropLast_concat] at hx'
        have : x ∈ -1 :: o1 := by rw [hA]; simp
        simp at this
        rcases this with h | h
        · exact hpos x (by simp [hx']) h
        · exact nd'.2.2 x h x (by simp [hx']) rfl
      · have hxC : x ∈ C := by simpa using hx'
        have hxm : x ∈ A ++ a :: c :: C := by simp [hxC]
        rw [hpv x (hvm x hxm) (hne x hxm), if_neg (cC x hxC)]
end Lav
