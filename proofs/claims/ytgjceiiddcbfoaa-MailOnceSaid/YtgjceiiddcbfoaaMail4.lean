/-
  Layer 9: both boxes, step by step.
-/
import Derived.Test.YtgjceiiddcbfoaaMail3
set_option maxRecDepth 100000
set_option linter.unusedSimpArgs false
namespace Lav
open Go (IntKind)

/-- Who's answer. -/
def lk : Wd → Int → Option Int
  | [], _ => none
  | w :: l, k => if w.1 = k then some w.2 else lk l k
theorem lk_none : ∀ {l : Wd} {k : Int}, k ∉ keys l → lk l k = none
  | [], _, _ => rfl
  | w :: l, k, h => by
    simp only [keys, List.map_cons, List.mem_cons, not_or] at h
    rw [lk, if_neg (fun e => h.1 e.symm)]; exact lk_none h.2
theorem lk_some : ∀ {l : Wd} {k : Int}, k ∈ keys l → lk l k ≠ none
  | w :: l, k, h => by
    rw [lk]; split
    · simp
    · rename_i e
      simp only [keys, List.map_cons, List.mem_cons] at h
      exact lk_some (h.resolve_left fun e' => e e'.symm)
theorem lk_app : ∀ {l : Wd} {k v : Int} (x : Int), k ∉ keys l → lk (l ++ [(k, v)]) x = if x = k then some v else lk l x
  | [], k, v, x, _ => by
    simp only [List.nil_append, lk]
    by_cases e : x = k
    · rw [if_pos e, if_pos e.symm]
    · rw [if_neg e, if_neg fun e' => e e'.symm]
  | w :: l, k, v, x, h => by
    simp only [keys, List.map_cons, List.mem_cons, not_or] at h
    rw [List.cons_append, lk, lk_app x h.2, lk]
    by_cases e : w.1 = x
    · rw [if_pos e, if_pos e, if_neg (fun e' => h.1 (by rw [e, e']))]
    · rw [if_neg e, if_neg e]
theorem lk_at : ∀ {l : Wd} {i : Nat} (hi : i < l.length), (keys l).Nodup → lk l l[i].1 = some l[i].2
  | w :: l, 0, _, _ => by simp [lk]
  | w :: l, i + 1, hi, nd => by
    simp only [keys, List.map_cons, List.nodup_cons] at nd
    have hi' : i < l.length := by simpa using hi
    simp only [List.getElem_cons_succ]
    rw [lk, if_neg (fun e => nd.1 (by rw [e]; exact List.mem_map.2 ⟨_, List.getElem_mem hi', rfl⟩))]
    exact lk_at hi' nd.2
theorem lk_out : ∀ {l : Wd} {i : Nat} (hi : i < l.length), (keys l).Nodup → ∀ x, lk (l.take i ++ l.drop (i + 1)) x = if x = l[i].1 then none else lk l x
  | w :: l, 0, _, nd, x => by
    simp only [keys, List.map_cons, List.nodup_cons] at nd
    simp only [List.take_zero, List.nil_append, Nat.zero_add, List.drop_succ_cons, List.drop_zero, List.getElem_cons_zero, lk]
    by_cases e : x = w.1
    · rw [if_pos e, e]; exact lk_none nd.1
    · rw [if_neg e, if_neg fun e' => e e'.symm]
  | w :: l, i + 1, hi, nd, x => by
    simp only [keys, List.map_cons, List.nodup_cons] at nd
    have hi' : i < l.length := by simpa using hi
    have ih := lk_out hi' nd.2 x
    simp only [List.take_succ_cons, List.cons_append, List.drop_succ_cons, List.getElem_cons_succ, lk] at *
    rw [ih]
    by_cases e : w.1 = x
    · rw [if_pos e, if_pos e, if_neg]
      intro e'
      exact nd.1 (by rw [e, e']; exact List.mem_map.2 ⟨_, List.getElem_mem hi', rfl⟩)
    · rw [if_neg e, if_neg e]

theorem nodup_le : ∀ (n : Nat) (o : List Int), o.Nodup → (∀ x ∈ o, 0 ≤ x ∧ x < (n : Int)) → o.length ≤ n
  | 0, o, _, h => by
    cases o with
    | nil => simp
    | cons a l => have := h a (by simp); omega
  | n + 1, o, nd, h => by
    by_cases hm : (n : Int) ∈ o
    · have := nodup_le n (o.erase (n : Int)) (nd.erase _) fun x hx => by
        have h1 := (nd.mem_erase_iff).1 hx
        have := h x h1.2; have := h1.1; omega
      rw [List.length_erase_of_mem hm] at this
      omega
    · have := nodup_le n o nd fun x hx => by
        have := h x hx
        have : x ≠ (n : Int) := fun e => hm (e ▸ hx)
        omega
      omega

/-- Both boxes stand alike. -/
structure Duo (h : Heap) (p w : Nat) (cs : List Nat) (q B : Nat) (ws an : Wd) (op : List Int) : Prop where
  m : MB h p w cs ws (fun j => decide ((j : Int) ∈ keys ws)) (fun j => decide ((j : Int) ∈ op)) (fun j => lk an j)
  r : ∃ x1 x2 x3, RB h q B ws an op x1 x2 x3
  nd : (keys ws ++ (op ++ keys an)).Nodup
  rg : ∀ k ∈ keys ws ++ (op ++ keys an), 0 ≤ k ∧ k < ((64 : Nat) : Int)
  w8 : ws.length ≤ 8
  hB : B ≤ h.next
  lo : ∀ k ∈ p :: w :: cs, k < B
  ne : q ∉ p :: w :: cs

theorem flatk (ws : Wd) : (keys ws).length = ws.length := by simp [keys]

section
variable {N d : Nat} {h : Heap} {p w q B : Nat} {cs : List Nat} {ws an : Wd} {op : List Int}

theorem Duo.sizes (D : Duo h p w cs q B ws an op) : ws.length + (op.length + an.length) ≤ 64 := by
  have := nodup_le 64 _ D.nd D.rg
  simpa [keys] using this
theorem Duo.ext (D : Duo h p w cs q B ws an op) {h' : Heap} (e : Ext h h') : Duo h' p w cs q B ws an op := by
  obtain ⟨x1, x2, x3, r⟩ := D.r
  exact ⟨D.m.ext (e.b []) (by simp) (by simp) (by simp), ⟨x1, x2, x3, r.ext (e.b []) (by simp) (by simp)⟩, D.nd, D.rg, D.w8, Nat.le_trans D.hB e.1, D.lo, D.ne⟩

/-- From both boxes' parts behind a step. -/
theorem duo_of {h1 h2 : Heap} {ws' an' : Wd} {op' : List Int} {fa fo : Nat → Bool} {fh : Nat → Option Int} {x1 x2 x3 : CV} (D : Duo h p w cs q B ws an op) (m : MB h1 p w cs ws' fa fo fh) (x : ExtB [q] h1 h2) (r : RB h2 q B ws' an' op' x1 x2 x3) (hle : h.next ≤ h1.next)
    (ha : ∀ j : Nat, j < 64 → fa j = decide ((j : Int) ∈ keys ws')) (ho : ∀ j : Nat, j < 64 → fo j = decide ((j : Int) ∈ op')) (hh : ∀ j : Nat, j < 64 → fh j = lk an' j)
    (nd : (keys ws' ++ (op' ++ keys an')).Nodup) (rg : ∀ k ∈ keys ws' ++ (op' ++ keys an'), 0 ≤ k ∧ k < ((64 : Nat) : Int)) (w8 : ws'.length ≤ 8) : Duo h2 p w cs q B ws' an' op' := by
  have ne := D.ne
  simp only [List.mem_cons, not_or] at ne
  exact ⟨(m.ext x (by simp; exact fun e => ne.1 e.symm) (by simp; exact fun e => ne.2.1 e.symm) (fun a ha e => ne.2.2 (by simp at e; rw [← e]; exact ha))).congr ha ho hh, ⟨_, _, _, r⟩, nd, rg, w8, Nat.le_trans D.hB (Nat.le_trans hle x.1), D.lo, D.ne⟩
theorem Duo.rext (D : Duo h p w cs q B ws an op) {S : List Nat} {h' : Heap} (e : ExtB S h h') (hs : ∀ k ∈ S, k ∈ p :: w :: cs) : ∃ x1 x2 x3, RB h' q B ws an op x1 x2 x3 := by
  obtain ⟨x1, x2, x3, r⟩ := D.r
  exact ⟨x1, x2, x3, r.ext e (fun hq => D.ne (hs q hq)) fun k hk => D.lo k (hs k hk)⟩

theorem duo_post (D : Duo h p w cs q B ws an op) (k v : Int) (hN : 70 ≤ N) (hN2 : N ≤ 1000) : ∃ c h1 h2 ws', evCallT table 13 N (d + 2) 14 [.c (.ptr p 0), .c (.int .i64 k), .c (.int .i64 v)] h = some (.c (.int .i64 c), h1) ∧
    evCallT table 13 N (d + 2) 15 [.c (.ptr q 0), .c (.int .i64 k), .c (.int .i64 v)] h1 = some (.c (.int .i64 c), h2) ∧ Duo h2 p w cs q B ws' an op ∧ ExtB (q :: p :: w :: cs) h h1 ∧ ExtB (q :: p :: w :: cs) h h2 := by
  have sz := D.sizes
  obtain ⟨x1, x2, x3, r⟩ := D.r
  by_cases hk : 0 ≤ k ∧ k < 64
  · obtain ⟨j, rfl⟩ : ∃ j : Nat, k = (j : Int) := ⟨k.toNat, by omega⟩
    have hj : j < 64 := by omega
    by_cases hh : (j : Int) ∈ keys ws ∨ (j : Int) ∈ keys an ∨ (j : Int) ∈ op
    · refine ⟨13, h, h, ws, post_held (N := N) (d := d) D.m v hj ?_, rpost_held (N := N) (d := d) r v hk hh (by omega) (by omega) (by omega) hN2, D, ExtB.refl _ _, ExtB.refl _ _⟩
      rcases hh with h1 | h1 | h1
      · exact .inl (decide_eq_true h1)
      · exact .inr (.inr (lk_some h1))
      · exact .inr (.inl (decide_eq_true h1))
    · have hh' := hh
      simp only [not_or] at hh'
      obtain ⟨h1, e1, m1, xx1⟩ := post_ok (N := N) (d := d) D.m v hj (decide_eq_false hh'.1) (decide_eq_false hh'.2.2) (lk_none hh'.2.1) D.w8
      obtain ⟨y1, y2, y3, r1⟩ := D.rext xx1 (by simp)
      obtain ⟨z1, h2, e2, r2, xx2⟩ := rpost_ok (N := N) (d := d) r1 (Nat.le_trans D.hB xx1.1) v hk hh (by omega) (by omega) (by omega) hN2
      refine ⟨_, h1, h2, _, e1, e2, duo_of D m1 xx2 r2 xx1.1 ?_ (fun _ _ => rfl) (fun _ _ => rfl) ?_ ?_ ?_, xx1.mono (by simp), (xx1.mono (by simp)).trans (xx2.mono (by simp))⟩
      · intro j' _
        split
        · simp only [keys, List.map_append, List.map_cons, List.map_nil, List.mem_append, List.mem_singleton]
          by_cases e : j' = j
          · subst e; simp
          · have e' : ¬ (j' : Int) = (j : Int) := by omega
            rw [if_neg e]; exact decide_eq_decide.2 ⟨.inl, fun h => h.resolve_right e'⟩
        · rfl
      · split
        · have nd := D.nd
          have hnot : (j : Int) ∉ keys ws ++ (op ++ keys an) := by simp only [List.mem_append, not_or]; exact ⟨hh'.1, hh'.2.2, hh'.2.1⟩
          have pm : (keys (ws ++ [((j : Int), v)]) ++ (op ++ keys an)).Perm ((j : Int) :: (keys ws ++ (op ++ keys an))) := by
            unfold keys
            rw [List.map_append, List.append_assoc]
            exact List.perm_middle
          exact (pm.nodup_iff).2 (List.nodup_cons.2 ⟨hnot, nd⟩)
        · exact D.nd
      · intro x hx
        split at hx
        · simp only [keys, List.map_append, List.map_cons, List.map_nil, List.mem_append, List.mem_singleton] at hx
          rcases hx with (h3 | h3) | h3
          · exact D.rg x (List.mem_append.2 (.inl h3))
          · rw [h3]; exact hk
          · exact D.rg x (List.mem_append.2 (.inr (List.mem_append.2 h3)))
        · exact D.rg x hx
      · split
        · simp; omega
        · exact D.w8
  · exact ⟨1, h, h, ws, post_arg (N := N) (d := d) v hk, rpost_arg (N := N) (d := d) v hk, D, ExtB.refl _ _, ExtB.refl _ _⟩
theorem inKeys_eq (l : Wd) (j : Nat) : inKeys l j = decide ((j : Int) ∈ keys l) := rfl

theorem duo_take (D : Duo h p w cs q B ws an op) (n : Int) (hN : 70 ≤ N) : ∃ y1 h1 y2 h2 ws' op', evCallT table 13 N (d + 1) 17 [.c (.ptr p 0), .c (.int .i64 n)] h = some (.c y1, h1) ∧
    evCallT table 13 N (d + 1) 18 [.c (.ptr q 0), .c (.int .i64 n)] h1 = some (.c y2, h2) ∧ evCallT table 13 N (d + 1) 16 [.c y1, .c y2] h2 = some (.c (.bool true), h2) ∧ Duo h2 p w cs q B ws' an op' ∧ ExtB (q :: p :: w :: cs) h h1 ∧ ExtB (q :: p :: w :: cs) h h2 := by
  have sz := D.sizes
  have hrg : ∀ x ∈ keys ws, 0 ≤ x ∧ x < 64 := fun x hx => D.rg x (List.mem_append.2 (.inl hx))
  obtain ⟨y1, h1, e1, s1, m1, xx1⟩ := take_ok (N := N) (d := d) D.m n D.w8 hrg (by omega)
  obtain ⟨x1, x2, x3, r1⟩ := D.rext xx1 (by simp)
  obtain ⟨y2, z1, z3, h2, e2, s2, b2, r2, xx2⟩ := rtake_ok (N := N) (d := d) r1 (Nat.le_trans D.hB xx1.1) n D.w8 (by omega) (by omega)
  have s1' := s1.recs.extB xx2 fun k hk => by have := s1.young k hk; have := r1.qB; have := D.hB; simp; omega
  have tl : (ws.take n.toNat).length ≤ ws.length := by rw [List.length_take]; omega
  have e3 := pairs_ok (N := N) (d := d) s1' s2 (by omega) (by omega)
  have sp : keys ws = keys (ws.take n.toNat) ++ keys (ws.drop n.toNat) := by
    unfold keys; rw [← List.map_append, List.take_append_drop]
  have nd := D.nd
  rw [sp] at nd
  have pm : (keys (ws.drop n.toNat) ++ ((op ++ keys (ws.take n.toNat)) ++ keys an)).Perm ((keys (ws.take n.toNat) ++ keys (ws.drop n.toNat)) ++ (op ++ keys an)) := by
    rw [List.perm_iff_count]; intro a; simp only [List.count_append]; omega
  refine ⟨y1, h1, y2, h2, _, _, e1, e2, e3, duo_of D m1 xx2 r2 xx1.1 ?_ ?_ (fun _ _ => rfl) ((pm.nodup_iff).2 nd) (fun k hk => ?_) (by simp; have := D.w8; omega), xx1.mono (by simp), (xx1.mono (by simp)).trans (xx2.mono (by simp))⟩
  · intro j _
    simp only [inKeys_eq, sp, List.mem_append]
    by_cases hT : (j : Int) ∈ keys (ws.take n.toNat)
    · have hD : (j : Int) ∉ keys (ws.drop n.toNat) := fun hD => by
        have := (List.nodup_append.1 (List.nodup_append.1 nd).1).2.2 _ hT _ hD
        exact this rfl
      simp [hT, hD]
    · simp [hT]
  · intro j _
    simp only [inKeys_eq, List.mem_append]
    by_cases hT : (j : Int) ∈ keys (ws.take n.toNat) <;> simp [hT]
  · have := (pm.mem_iff).1 hk
    rw [← sp] at this
    exact D.rg k this

theorem duo_answer (D : Duo h p w cs q B ws an op) (k v : Int) (hN : 70 ≤ N) (hN2 : N ≤ 1000) : ∃ c h1 h2 an' op', evCallT table 13 N (d + 2) 19 [.c (.ptr p 0), .c (.int .i64 k), .c (.int .i64 v)] h = some (.c (.int .i64 c), h1) ∧
    evCallT table 13 N (d + 2) 20 [.c (.ptr q 0), .c (.int .i64 k), .c (.int .i64 v)] h1 = some (.c (.int .i64 c), h2) ∧ Duo h2 p w cs q B ws an' op' ∧ ExtB (q :: p :: w :: cs) h h1 ∧ ExtB (q :: p :: w :: cs) h h2 := by
  have sz := D.sizes
  by_cases hk : k ∈ op
  · have hr := D.rg k (List.mem_append.2 (.inr (List.mem_append.2 (.inl hk))))
    obtain ⟨j, rfl⟩ : ∃ j : Nat, k = (j : Int) := ⟨k.toNat, by omega⟩
    have hj : j < 64 := by omega
    have nd2 := (List.nodup_append.1 D.nd).2.1
    have ndo := (List.nodup_append.1 nd2).1
    have hka : (j : Int) ∉ keys an := fun e => (List.nodup_append.1 nd2).2.2 _ hk _ e rfl
    obtain ⟨h1, e1, m1, xx1⟩ := answer_ok (N := N) (d := d) D.m v hj (decide_eq_true hk) (lk_none hka)
    obtain ⟨x1, x2, x3, r1⟩ := D.rext xx1 (by simp +contextual)
    obtain ⟨z2, z3, h2, e2, r2, xx2⟩ := ranswer_ok (N := N) (d := d) r1 (Nat.le_trans D.hB xx1.1) v hk (by omega) (by omega) hN2
    have pm : (keys ws ++ (op.erase (j : Int) ++ keys (an ++ [((j : Int), v)]))).Perm (keys ws ++ (op ++ keys an)) := by
      rw [List.perm_iff_count]; intro a
      have := (List.perm_cons_erase hk).count_eq a
      simp only [keys, List.map_append, List.map_cons, List.map_nil, List.count_append, List.count_cons, List.count_nil] at *
      omega
    refine ⟨0, h1, h2, _, _, e1, e2, duo_of D m1 xx2 r2 xx1.1 (fun _ _ => rfl) ?_ ?_ ((pm.nodup_iff).2 D.nd) (fun x hx => D.rg x ((pm.mem_iff).1 hx)) D.w8, xx1.mono (by simp +contextual), (xx1.mono (by simp +contextual)).trans (xx2.mono (by simp))⟩
    · intro i _
      by_cases e : i = j
      · subst e; rw [if_pos rfl]; exact (decide_eq_false fun e => (ndo.mem_erase_iff.1 e).1 rfl).symm
      · have e' : (i : Int) ≠ (j : Int) := by omega
        rw [if_neg e]
        apply decide_eq_decide.2
        rw [ndo.mem_erase_iff]; exact ⟨fun h => ⟨e', h⟩, fun h => h.2⟩
    · intro i _
      rw [lk_app _ hka]
      by_cases e : i = j
      · subst e; simp
      · have e' : ¬ (i : Int) = (j : Int) := by omega
        rw [if_neg e, if_neg e']
  · obtain ⟨x1, x2, x3, r⟩ := D.r
    exact ⟨2, h, h, an, op, answer_no (N := N) (d := d) D.m (fun j _ e => decide_eq_false (e ▸ hk)), ranswer_no (N := N) (d := d) r v hk (by omega) hN2, D, ExtB.refl _ _, ExtB.refl _ _⟩

theorem duo_hear (D : Duo h p w cs q B ws an op) (k : Int) (hN : 70 ≤ N) (hN2 : N ≤ 1000) : ∃ c b h1 h2 an', evCallT table 13 N (d + 2) 21 [.c (.ptr p 0), .c (.int .i64 k)] h = some (.tup [.c (.int .i64 c), .c (.bool b)], h1) ∧
    evCallT table 13 N (d + 2) 22 [.c (.ptr q 0), .c (.int .i64 k)] h1 = some (.tup [.c (.int .i64 c), .c (.bool b)], h2) ∧ Duo h2 p w cs q B ws an' op ∧ ExtB (q :: p :: w :: cs) h h1 ∧ ExtB (q :: p :: w :: cs) h h2 := by
  have sz := D.sizes
  by_cases hk : k ∈ keys an
  · have hr := D.rg k (List.mem_append.2 (.inr (List.mem_append.2 (.inr hk))))
    obtain ⟨j, rfl⟩ : ∃ j : Nat, k = (j : Int) := ⟨k.toNat, by omega⟩
    have hj : j < 64 := by omega
    have nd2 := (List.nodup_append.1 D.nd).2.1
    have nda := (List.nodup_append.1 nd2).2.1
    obtain ⟨i, hp, hi, hie, hno⟩ := placeOf_mem hk
    have hi' : i < an.length := by rw [flatk] at hi; exact hi
    have hkey : an[i].1 = (j : Int) := by rw [← hie]; simp [keys]
    have hlk : lk an (j : Int) = some an[i].2 := by rw [← hkey]; exact lk_at hi' nda
    obtain ⟨h1, e1, m1, xx1⟩ := hear_ok (N := N) (d := d) D.m hj hlk
    obtain ⟨x1, x2, x3, r1⟩ := D.rext xx1 (by simp +contextual)
    obtain ⟨z2, h2, e2, r2, xx2⟩ := rhear_ok (N := N) (d := d) r1 (Nat.le_trans D.hB xx1.1) hp hi' (by omega) hN2
    have hke : keys (an.take i ++ an.drop (i + 1)) = (keys an).erase (j : Int) := by
      rw [erase_place hi hie hno]; unfold keys; rw [List.map_append, List.map_take, List.map_drop]
    have nde : (keys ws ++ (op ++ (keys an).erase (j : Int))).Nodup := by
      have sub : (keys ws ++ (op ++ (keys an).erase (j : Int))).Sublist (keys ws ++ (op ++ keys an)) := (List.Sublist.refl _).append ((List.Sublist.refl _).append List.erase_sublist)
      exact sub.nodup D.nd
    refine ⟨_, true, h1, h2, _, e1, e2, duo_of D m1 xx2 r2 xx1.1 (fun _ _ => rfl) (fun _ _ => rfl) ?_ (by rw [hke]; exact nde) (fun x hx => ?_) D.w8, xx1.mono (by simp +contextual), (xx1.mono (by simp +contextual)).trans (xx2.mono (by simp))⟩
    · intro i' _
      rw [lk_out hi' nda, hkey]
      by_cases e : i' = j
      · subst e; simp
      · have e' : ¬ (i' : Int) = (j : Int) := by omega
        rw [if_neg e, if_neg e']
    · rw [hke] at hx
      apply D.rg x
      simp only [List.mem_append] at hx ⊢
      rcases hx with h3 | h3 | h3
      · exact .inl h3
      · exact .inr (.inl h3)
      · exact .inr (.inr (List.mem_of_mem_erase h3))
  · obtain ⟨x1, x2, x3, r⟩ := D.r
    exact ⟨0, false, h, h, an, hear_no (N := N) (d := d) D.m (fun j _ e => lk_none (e ▸ hk)), rhear_no (N := N) (d := d) r hk (by omega) hN2, D, ExtB.refl _ _, ExtB.refl _ _⟩
end
end Lav
