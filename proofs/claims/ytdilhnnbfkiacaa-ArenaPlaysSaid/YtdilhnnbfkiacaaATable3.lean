/-
  Layer 5: a table is a dictionary.
-/
import Derived.Test.YtdilhnnbfkiacaaATable2
set_option maxRecDepth 100000
set_option linter.unusedSimpArgs false
namespace Lav
open Go (IntKind)

def pl (ss : Slots) (key : Int) : Nat := (placeM key ss.length).toNat
/-- The j-th place of a key's way, and the key that stands there. -/
def way (ss : Slots) (key : Int) (j : Nat) : Nat := (pl ss key + j) % ss.length
def keyAt (ss : Slots) (i : Nat) : Int := (ss.getD i (0, 0)).1
def Clear (ss : Slots) (key : Int) (m : Nat) : Prop := ∀ j, j < m → keyAt ss (way ss key j) ≠ -1 ∧ keyAt ss (way ss key j) ≠ key
structure Good (ss : Slots) : Prop where
  path : ∀ i, i < ss.length → 0 ≤ keyAt ss i → ∃ m, m < ss.length ∧ way ss (keyAt ss i) m = i ∧ Clear ss (keyAt ss i) m
  low : ∀ i, i < ss.length → -2 ≤ keyAt ss i

theorem way_lt {ss : Slots} (h : 1 ≤ ss.length) (key : Int) (j : Nat) : way ss key j < ss.length := Nat.mod_lt _ h
theorem way_succ {ss : Slots} (key : Int) (j : Nat) : (way ss key j + 1) % ss.length = way ss key (j + 1) := by
  unfold way; rw [Nat.mod_add_mod, Nat.add_assoc]

theorem found {ss : Slots} {key : Int} {m : Nat} (h1 : 1 ≤ ss.length) (hm : m < ss.length) (hc : Clear ss key m) (hk : keyAt ss (way ss key m) = key) :
    ∀ (d j : Nat) (room : Int), j + d = m → (findGo ss key (ss.length - j) (way ss key j) room).1 = (way ss key m : Int)
  | 0, j, room, hj => by
    have : j = m := by omega
    subst this
    rw [show ss.length - j = (ss.length - (j + 1)) + 1 by omega]
    unfold findGo
    rw [if_pos (show (ss.getD (way ss key j) (0, 0)).1 = key from hk)]
  | d + 1, j, room, hj => by
    obtain ⟨h2, h3⟩ := hc j (by omega)
    rw [show ss.length - j = (ss.length - (j + 1)) + 1 by omega]
    unfold findGo
    rw [if_neg (show ¬ (ss.getD (way ss key j) (0, 0)).1 = key from h3), if_neg (show ¬ (ss.getD (way ss key j) (0, 0)).1 = -1 from h2), way_succ]
    exact found h1 hm hc hk d (j + 1) _ (by omega)

theorem absent {ss : Slots} {key : Int} (h1 : 1 ≤ ss.length) (hno : ∀ i, i < ss.length → keyAt ss i ≠ key) : ∀ (c a : Nat) (room : Int), a < ss.length → (findGo ss key c a room).1 = -1
  | 0, _, _, _ => rfl
  | c + 1, a, room, ha => by
    unfold findGo
    rw [if_neg (show ¬ (ss.getD a (0, 0)).1 = key from hno a ha)]
    split
    · split <;> rfl
    · exact absent h1 hno c _ _ (Nat.mod_lt _ h1)

theorem stays {ss : Slots} {key : Int} (h1 : 1 ≤ ss.length) (hno : ∀ i, i < ss.length → keyAt ss i ≠ key) : ∀ (c a : Nat) (room : Int), a < ss.length → 0 ≤ room → (findGo ss key c a room).2 = room
  | 0, _, _, _, _ => rfl
  | c + 1, a, room, ha, hr => by
    unfold findGo
    rw [if_neg (show ¬ (ss.getD a (0, 0)).1 = key from hno a ha)]
    split
    · rw [if_neg (by omega)]
    · rw [if_neg (by omega)]
      exact stays h1 hno c _ _ (Nat.mod_lt _ h1) hr

theorem room_at {ss : Slots} {key : Int} {m : Nat} (h1 : 1 ≤ ss.length) (hm : m < ss.length) (hno : ∀ i, i < ss.length → keyAt ss i ≠ key) (hlow : ∀ i, i < ss.length → -2 ≤ keyAt ss i) (hc : ∀ j, j < m → 0 ≤ keyAt ss (way ss key j)) (hk : keyAt ss (way ss key m) < 0) :
    ∀ (d j : Nat), j + d = m → (findGo ss key (ss.length - j) (way ss key j) (-1)).2 = (way ss key m : Int)
  | 0, j, hj => by
    have : j = m := by omega
    subst this
    have hw := way_lt h1 key j
    rw [show ss.length - j = (ss.length - (j + 1)) + 1 by omega]
    unfold findGo
    rw [if_neg (show ¬ (ss.getD (way ss key j) (0, 0)).1 = key from hno _ hw)]
    by_cases e : keyAt ss (way ss key j) = -1
    · rw [if_pos (show (ss.getD (way ss key j) (0, 0)).1 = -1 from e), if_pos (by omega)]
    · have := hlow _ hw
      rw [if_neg (show ¬ (ss.getD (way ss key j) (0, 0)).1 = -1 from e), if_pos ⟨show (ss.getD (way ss key j) (0, 0)).1 = -2 by unfold keyAt at *; omega, by omega⟩]
      exact stays h1 hno _ _ _ (Nat.mod_lt _ h1) (by omega)
  | d + 1, j, hj => by
    have hw := way_lt h1 key j
    have hp := hc j (by omega)
    rw [show ss.length - j = (ss.length - (j + 1)) + 1 by omega]
    unfold findGo
    rw [if_neg (show ¬ (ss.getD (way ss key j) (0, 0)).1 = key from hno _ hw), if_neg (show ¬ (ss.getD (way ss key j) (0, 0)).1 = -1 by unfold keyAt at hp; omega), if_neg (fun e => by unfold keyAt at hp; omega), way_succ]
    exact room_at h1 hm hno hlow hc hk d (j + 1) (by omega)

theorem findM_way {ss : Slots} {key : Int} (h1 : 1 ≤ ss.length) (h2 : ss.length ≤ 1024) (hk : 0 ≤ key) : findM ss key = findGo ss key (ss.length - 0) (way ss key 0) (-1) := by
  obtain ⟨b1, b2, _⟩ := place_bounds (key := key) (size := (ss.length : Int)) (by omega) (by omega) hk
  unfold findM way pl
  rw [Nat.sub_zero, Nat.add_zero, Nat.mod_eq_of_lt (by omega)]

theorem least {P : Nat → Prop} : ∀ n, P n → ∃ m, m ≤ n ∧ P m ∧ ∀ k, k < m → ¬ P k := by
  intro n
  induction n using Nat.strongRecOn with
  | _ n ih =>
    intro h
    by_cases hk : ∃ k, k < n ∧ P k
    · obtain ⟨k, hk1, hk2⟩ := hk
      obtain ⟨m, h1, h2, h3⟩ := ih k hk1 hk2
      exact ⟨m, by omega, h2, h3⟩
    · exact ⟨n, Nat.le_refl _, h, fun k hk' hp => hk ⟨k, hk', hp⟩⟩

/-- How many keys. -/
def cnt : Slots → Nat
  | [] => 0
  | s :: ss => (if 0 ≤ s.1 then 1 else 0) + cnt ss
theorem cnt_set : ∀ (ss : Slots) (r : Nat) (hr : r < ss.length) (s : Int × Int), cnt (ss.set r s) + (if 0 ≤ ss[r].1 then 1 else 0) = cnt ss + (if 0 ≤ s.1 then 1 else 0)
  | t :: ss, 0, _, s => by simp only [List.set_cons_zero, cnt, List.getElem_cons_zero]; omega
  | t :: ss, r + 1, hr, s => by
    have := cnt_set ss r (by simpa using hr) s
    simp only [List.set_cons_succ, cnt, List.getElem_cons_succ]; omega
theorem cnt_free : ∀ (ss : Slots), cnt ss < ss.length → ∃ i, i < ss.length ∧ keyAt ss i < 0
  | [], h => by simp [cnt] at h
  | s :: ss, h => by
    by_cases hs : 0 ≤ s.1
    · simp only [cnt, if_pos hs, List.length_cons] at h
      obtain ⟨i, h1, h2⟩ := cnt_free ss (by omega)
      exact ⟨i + 1, by simpa using h1, by simpa [keyAt] using h2⟩
    · exact ⟨0, by simp, by simpa [keyAt] using hs⟩
theorem cnt_pos : ∀ (ss : Slots) (i : Nat) (_ : i < ss.length), 0 ≤ keyAt ss i → 0 < cnt ss
  | s :: ss, 0, _, h => by
    have : 0 ≤ s.1 := by simpa [keyAt] using h
    simp [cnt, this]; omega
  | s :: ss, i + 1, hi, h => by
    have := cnt_pos ss i (by simpa using hi) (by simpa [keyAt] using h)
    simp only [cnt]; omega
theorem cnt_rep (n : Nat) : cnt (List.replicate n (-1, 0)) = 0 := by
  induction n with
  | zero => rfl
  | succ n ih => simp [List.replicate_succ, cnt, ih]

theorem keyAt_eq {ss : Slots} {i : Nat} (h : i < ss.length) : keyAt ss i = ss[i].1 := by unfold keyAt; rw [getD_slot h]
theorem keyAt_set {ss : Slots} {i j : Nat} {s : Int × Int} (hj : j < ss.length) : keyAt (ss.set j s) i = if i = j then s.1 else keyAt ss i := by
  unfold keyAt
  simp only [List.getD_eq_getElem?_getD]
  by_cases e : i = j
  · subst e; rw [List.getElem?_set_self hj, if_pos rfl]; rfl
  · rw [List.getElem?_set_ne (Ne.symm e), if_neg e]
theorem way_set {ss : Slots} {r : Nat} {s : Int × Int} (key : Int) (j : Nat) : way (ss.set r s) key j = way ss key j := by
  unfold way pl; rw [List.length_set]

/-- What a table holds. -/
structure DT (h : Heap) (p b n : Nat) (M : Nat → Option Int) (c : Nat) : Prop where
  slots : ∃ ss : Slots, ss.length = n ∧ TB h p b ss (c : Int) ∧ Good ss ∧ cnt ss = c ∧ ∀ k v, M k = some v ↔ ∃ i, ∃ hi : i < ss.length, ss[i] = ((k : Int), v)
  big : 1 ≤ n ∧ n ≤ 1024

theorem DT.ext {h h' : Heap} {p b n : Nat} {M : Nat → Option Int} {c : Nat} (t : DT h p b n M c) {S : List Nat} (e : ExtB S h h') (hp : p ∉ S) (hb : b ∉ S) : DT h' p b n M c := by
  obtain ⟨⟨ss, h1, h2, h3⟩, hb'⟩ := t
  exact ⟨⟨ss, h1, h2.ext e hp hb, h3⟩, hb'⟩

theorem good_rep (n : Nat) : Good (List.replicate n (-1, 0)) := by
  have key : ∀ i, i < (List.replicate n ((-1 : Int), (0 : Int))).length → keyAt (List.replicate n (-1, 0)) i = -1 := fun i hi => by
    rw [keyAt_eq hi]; simp
  exact ⟨fun i hi h0 => by rw [key i hi] at h0; omega, fun i hi => by rw [key i hi]; omega⟩

section
variable {N d : Nat} {h : Heap} {p b n : Nat} {M : Nat → Option Int} {c : Nat}

theorem DT.new (n : Nat) (h : Heap) (h1 : 1 ≤ n) (h2 : n ≤ 1024) (hN : n + 2 ≤ N) :
    ∃ p b h', evCallT table 18 N (d + 2) 34 [.c (.int .i64 (n : Int))] h = some (.c (.ptr p 0), h') ∧ DT h' p b n (fun _ => none) 0 ∧ Ext h h' ∧ h.next ≤ p ∧ h.next ≤ b ∧ p < h'.next ∧ b < h'.next := by
  obtain ⟨p, b, h', e, t, x, hp, hb⟩ := new_ok (N := N) (d := d) n h h1 h2 hN
  refine ⟨p, b, h', e, ⟨⟨_, by simp, t, good_rep n, cnt_rep n, fun k v => ⟨fun e => (by cases e), fun ⟨i, hi, e⟩ => ?_⟩⟩, h1, h2⟩, x, hp, hb, t.pn, t.bn⟩
  simp at e

/-- One key, one slot. -/
theorem Good.one {ss : Slots} (g : Good ss) {i j : Nat} (hi : i < ss.length) (hj : j < ss.length) (h0 : 0 ≤ keyAt ss i) (he : keyAt ss i = keyAt ss j) : i = j := by
  obtain ⟨m1, a1, a2, a3⟩ := g.path i hi h0
  obtain ⟨m2, b1, b2, b3⟩ := g.path j hj (he ▸ h0)
  rw [← he] at b2 b3
  rcases Nat.lt_trichotomy m1 m2 with h | h | h
  · exact absurd (by rw [a2]) (b3 m1 h).2
  · subst h; exact a2.symm.trans b2
  · exact absurd (by rw [b2]; exact he.symm) (a3 m2 h).2

theorem DT.find_some {ss : Slots} (g : Good ss) (h1 : 1 ≤ ss.length) (h2 : ss.length ≤ 1024) {i : Nat} (hi : i < ss.length) (h0 : 0 ≤ keyAt ss i) : (findM ss (keyAt ss i)).1 = (i : Int) := by
  obtain ⟨m, a1, a2, a3⟩ := g.path i hi h0
  rw [findM_way h1 h2 h0, found h1 a1 a3 (by rw [a2]) m 0 (-1) (by omega), a2]

theorem DT.no_key {ss : Slots} {M : Nat → Option Int} (hM : ∀ k v, M k = some v ↔ ∃ i, ∃ hi : i < ss.length, ss[i] = ((k : Int), v)) {k : Nat} (hk : M k = none) : ∀ i, i < ss.length → keyAt ss i ≠ (k : Int) := by
  intro i hi e
  have : M k = some ss[i].2 := (hM k _).2 ⟨i, hi, by rw [← e, keyAt_eq hi]⟩
  rw [hk] at this; cases this

theorem DT.get (t : DT h p b n M c) (k : Nat) (hN : n + 2 ≤ N) : evCallT table 18 N (d + 3) 35 [.c (.ptr p 0), .c (.int .i64 (k : Int))] h = some (.c (.int .i64 ((M k).getD (-1))), h) := by
  obtain ⟨⟨ss, rfl, tb, g, hc, hM⟩, h1, h2⟩ := t
  rw [get_ok tb (k : Int) hN h1 h2]
  congr 3
  unfold getM
  cases hk : M k with
  | none =>
    have hno := DT.no_key hM hk
    have hf1 : (findM ss (k : Int)).1 = -1 := by rw [findM_way h1 h2 (by omega), absent h1 hno _ _ _ (way_lt h1 _ _)]
    rw [if_pos (.inr (by omega))]; rfl
  | some v =>
    obtain ⟨i, hi, e⟩ := (hM k v).1 hk
    have hki : keyAt ss i = (k : Int) := by rw [keyAt_eq hi, e]
    have hf := DT.find_some g h1 h2 hi (by omega)
    rw [hki] at hf
    rw [if_neg (by omega), hf, Int.toNat_natCast, getD_slot hi, e]; rfl

theorem DT.put_held (t : DT h p b n M c) {k : Nat} {w : Int} (hk : M k = some w) (v : Int) (hN : n + 2 ≤ N) : evCallT table 18 N (d + 3) 39 [.c (.ptr p 0), .c (.int .i64 (k : Int)), .c (.int .i64 v)] h = some (.c (.int .i64 13), h) := by
  obtain ⟨⟨ss, rfl, tb, g, hc, hM⟩, h1, h2⟩ := t
  obtain ⟨i, hi, e⟩ := (hM k w).1 hk
  have hki : keyAt ss i = (k : Int) := by rw [keyAt_eq hi, e]
  have hf := DT.find_some g h1 h2 hi (by omega)
  rw [hki] at hf
  exact Lav.put_held tb (k : Int) v (by omega) (by omega) hN h1 h2

theorem DT.put_new (t : DT h p b n M c) {k : Nat} (hk : M k = none) (v : Int) (hcn : c < n) (hN : n + 2 ≤ N) :
    ∃ h', evCallT table 18 N (d + 3) 39 [.c (.ptr p 0), .c (.int .i64 (k : Int)), .c (.int .i64 v)] h = some (.c (.int .i64 0), h') ∧ DT h' p b n (fun j => if j = k then some v else M j) (c + 1) ∧ ExtB [p, b] h h' := by
  obtain ⟨⟨ss, rfl, tb, g, hc, hM⟩, h1, h2⟩ := t
  have hno := DT.no_key hM hk
  obtain ⟨i0, hi0, hneg⟩ := cnt_free ss (by omega)
  -- the first free slot of the way
  obtain ⟨b1, b2, _⟩ := place_bounds (key := (k : Int)) (size := (ss.length : Int)) (by omega) (by omega) (by omega)
  have hpl : pl ss (k : Int) < ss.length := by unfold pl; omega
  have hreach : way ss (k : Int) ((i0 + ss.length - pl ss (k : Int)) % ss.length) = i0 := by
    unfold way
    rw [Nat.add_mod_mod, show pl ss (k : Int) + (i0 + ss.length - pl ss (k : Int)) = i0 + ss.length by omega, Nat.add_mod_right, Nat.mod_eq_of_lt hi0]
  obtain ⟨m, hm1, hm2, hm3⟩ := least (P := fun j => keyAt ss (way ss (k : Int) j) < 0) _ (show keyAt ss (way ss (k : Int) ((i0 + ss.length - pl ss (k : Int)) % ss.length)) < 0 by rw [hreach]; exact hneg)
  have hm : m < ss.length := Nat.lt_of_le_of_lt hm1 (Nat.mod_lt _ h1)
  have hmc : ∀ j, j < m → 0 ≤ keyAt ss (way ss (k : Int) j) := fun j hj => by have := hm3 j hj; omega
  have hr : way ss (k : Int) m < ss.length := way_lt h1 _ _
  have hf : findM ss (k : Int) = (-1, (way ss (k : Int) m : Int)) := by
    rw [findM_way h1 h2 (by omega)]
    exact Prod.ext (absent h1 hno _ _ _ (way_lt h1 _ _)) (room_at h1 hm hno g.low hmc hm2 m 0 (by omega))
  generalize hrr : way ss (k : Int) m = r at *
  obtain ⟨h', e1, t1, x1⟩ := Lav.put_new (N := N) (d := d) tb (k : Int) v (by omega) hr hf (by omega) hN h1 h2
  have hkr : keyAt ss r = ss[r].1 := keyAt_eq hr
  have hcnt := cnt_set ss r hr ((k : Int), v)
  rw [if_neg (by omega), if_pos (show (0 : Int) ≤ ((k : Int), v).1 by simp)] at hcnt
  refine ⟨h', e1, ⟨⟨ss.set r ((k : Int), v), by simp, t1, ⟨fun i hi h0 => ?_, fun i hi => ?_⟩, by omega, fun k' v' => ?_⟩, by simpa using h1, by simpa using h2⟩, x1⟩
  · rw [List.length_set] at hi ⊢
    rw [keyAt_set hr] at h0 ⊢
    by_cases e : i = r
    · subst e
      rw [if_pos rfl] at h0 ⊢
      refine ⟨m, hm, by rw [way_set]; exact hrr, fun j hj => ?_⟩
      rw [way_set, keyAt_set hr]
      have hp := hmc j hj
      have hne : way ss (k : Int) j ≠ i := fun e => by rw [e] at hp; omega
      rw [if_neg hne]
      have hp' : 0 ≤ keyAt ss (way ss ((k : Int), v).1 j) := hp
      exact ⟨by omega, hno _ (way_lt h1 _ _)⟩
    · rw [if_neg e] at h0 ⊢
      obtain ⟨m', a1, a2, a3⟩ := g.path i hi h0
      refine ⟨m', a1, by rw [way_set]; exact a2, fun j hj => ?_⟩
      rw [way_set, keyAt_set hr]
      split
      · exact ⟨by show (k : Int) ≠ -1; omega, fun e => hno i hi (show keyAt ss i = (k : Int) from e.symm)⟩
      · exact a3 j hj
  · rw [List.length_set] at hi
    rw [keyAt_set hr]
    split
    · show -2 ≤ (k : Int); omega
    · exact g.low i hi
  · by_cases ek : k' = k
    · subst ek
      rw [if_pos rfl]
      constructor
      · intro e
        have : v = v' := by simpa using e
        subst this
        exact ⟨r, by simpa using hr, by simp⟩
      · rintro ⟨i, hi, e⟩
        rw [List.length_set] at hi
        by_cases ei : i = r
        · subst ei; simp at e; simp [e]
        · rw [List.getElem_set_ne (Ne.symm ei)] at e
          exact absurd (by rw [keyAt_eq hi, e]) (hno i hi)
    · rw [if_neg ek, hM k' v']
      constructor
      · rintro ⟨i, hi, e⟩
        have ei : i ≠ r := fun e' => by subst e'; rw [hkr, e] at hm2; simp at hm2; omega
        exact ⟨i, by simpa using hi, by rw [List.getElem_set_ne (Ne.symm ei)]; exact e⟩
      · rintro ⟨i, hi, e⟩
        rw [List.length_set] at hi
        by_cases ei : i = r
        · subst ei
          simp at e
          omega
        · rw [List.getElem_set_ne (Ne.symm ei)] at e
          exact ⟨i, hi, e⟩

theorem DT.out_none (t : DT h p b n M c) {k : Nat} (hk : M k = none) (hN : n + 2 ≤ N) : evCallT table 18 N (d + 3) 41 [.c (.ptr p 0), .c (.int .i64 (k : Int))] h = some (.c (.int .i64 (-1)), h) := by
  obtain ⟨⟨ss, rfl, tb, g, hc, hM⟩, h1, h2⟩ := t
  have hno := DT.no_key hM hk
  exact Lav.out_none tb (k : Int) (by omega) (by rw [findM_way h1 h2 (by omega), absent h1 hno _ _ _ (way_lt h1 _ _)]; omega) hN h1 h2

theorem DT.out_some (t : DT h p b n M c) {k : Nat} {v : Int} (hk : M k = some v) (hN : n + 2 ≤ N) (hc5 : c < 100000) :
    ∃ h', evCallT table 18 N (d + 3) 41 [.c (.ptr p 0), .c (.int .i64 (k : Int))] h = some (.c (.int .i64 v), h') ∧ DT h' p b n (fun j => if j = k then none else M j) (c - 1) ∧ ExtB [p, b] h h' ∧ 1 ≤ c := by
  obtain ⟨⟨ss, rfl, tb, g, hc, hM⟩, h1, h2⟩ := t
  obtain ⟨r, hr, e⟩ := (hM k v).1 hk
  have hkr : keyAt ss r = (k : Int) := by rw [keyAt_eq hr, e]
  have hf := DT.find_some g h1 h2 hr (by omega)
  rw [hkr] at hf
  have hcpos := cnt_pos ss r hr (by omega)
  obtain ⟨h', e1, t1, x1⟩ := Lav.out_some (N := N) (d := d) tb (k : Int) (by omega) hr hf (by omega) hN h1 h2
  rw [e] at e1
  have hcnt := cnt_set ss r hr (-2, 0)
  rw [if_pos (by rw [e]; simp), if_neg (by simp)] at hcnt
  have hcast : ((c : Int) - 1) = ((c - 1 : Nat) : Int) := by omega
  rw [hcast] at t1
  -- what is left
  have hM' : ∀ k' v', (if k' = k then none else M k') = some v' ↔ ∃ i, ∃ hi : i < (ss.set r (-2, 0)).length, (ss.set r (-2, 0))[i] = ((k' : Int), v') := by
    intro k' v'
    by_cases ek : k' = k
    · subst ek
      rw [if_pos rfl]
      refine ⟨fun e => (by cases e), ?_⟩
      rintro ⟨i, hi, e'⟩
      rw [List.length_set] at hi
      by_cases ei : i = r
      · subst ei; simp at e'
      · rw [List.getElem_set_ne (Ne.symm ei)] at e'
        exact absurd (g.one hi hr (by rw [keyAt_eq hi, e']; simp) (by rw [hkr, keyAt_eq hi, e'])) ei
    · rw [if_neg ek, hM k' v']
      constructor
      · rintro ⟨i, hi, e'⟩
        have ei : i ≠ r := fun e2 => by subst e2; rw [e] at e'; simp at e'; omega
        exact ⟨i, by simpa using hi, by rw [List.getElem_set_ne (Ne.symm ei)]; exact e'⟩
      · rintro ⟨i, hi, e'⟩
        rw [List.length_set] at hi
        by_cases ei : i = r
        · subst ei; simp at e'
        · rw [List.getElem_set_ne (Ne.symm ei)] at e'
          exact ⟨i, hi, e'⟩
  refine ⟨h', e1, ⟨?_, by omega, by omega⟩, x1, by omega⟩
  by_cases hone : (c : Int) = 1
  · rw [if_pos hone] at t1
    refine ⟨_, by simp, t1, good_rep _, by rw [cnt_rep]; omega, fun k' v' => ?_⟩
    rw [hM' k' v']
    constructor
    · rintro ⟨i, hi, e'⟩
      have := cnt_pos (ss.set r (-2, 0)) i hi (by rw [keyAt_eq hi, e']; simp)
      omega
    · rintro ⟨i, hi, e'⟩
      simp at e'
  · rw [if_neg hone] at t1
    refine ⟨_, by simp, t1, ⟨fun i hi h0 => ?_, fun i hi => ?_⟩, by omega, hM'⟩
    · rw [List.length_set] at hi ⊢
      rw [keyAt_set hr] at h0 ⊢
      by_cases ei : i = r
      · rw [if_pos ei] at h0; simp at h0
      · rw [if_neg ei] at h0 ⊢
        obtain ⟨m', a1, a2, a3⟩ := g.path i hi h0
        refine ⟨m', a1, by rw [way_set]; exact a2, fun j hj => ?_⟩
        rw [way_set, keyAt_set hr]
        split
        · exact ⟨by show (-2 : Int) ≠ -1; omega, by show (-2 : Int) ≠ _; omega⟩
        · exact a3 j hj
    · rw [List.length_set] at hi
      rw [keyAt_set hr]
      split
      · show (-2 : Int) ≤ -2; omega
      · exact g.low i hi
end
end Lav
