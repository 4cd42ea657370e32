/-
  Layer 9: the program's box beside what its senders have sent, got and heard.
-/
import Derived.Test.YtgjceiiddcbfoaaMail4
set_option maxRecDepth 100000
set_option linter.unusedSimpArgs false
namespace Lav
open Go (IntKind)

/-- Twelve numbers. -/
def nums (f : Nat → Nat) : List CV := (List.range 12).map fun j => icell (f j : Int)
theorem nums_len {f : Nat → Nat} : (nums f).length = 12 := by simp [nums]
theorem nums_get {f : Nat → Nat} {j : Nat} (h : j < 12) : (nums f)[j]? = some (icell (f j : Int)) := by simp [nums, h]
def upd1 (f : Nat → Nat) (t : Nat) : Nat → Nat := fun j => if j = t then f j + 1 else f j
theorem nums_set {f : Nat → Nat} {t : Nat} : (nums f).set t (icell ((f t + 1 : Nat) : Int)) = nums (upd1 f t) := by
  apply List.ext_getElem?
  intro j
  rw [List.getElem?_set]
  rcases Nat.lt_or_ge j 12 with hj | hj
  · rw [nums_get hj, nums_get hj]
    by_cases e : t = j
    · subst e; simp [nums_len, hj, upd1]
    · rw [if_neg e]; simp [upd1, show ¬ j = t from fun e' => e e'.symm]
  · rw [List.getElem?_eq_none (by rw [nums_len]; exact hj : (nums f).length ≤ j), List.getElem?_eq_none (by rw [nums_len]; exact hj)]
    split
    · rename_i e; subst e; simp [nums_len]; omega
    · rfl

/-- The words of those who wait. -/
def wds (sent : Nat → Nat) (R : List Nat) : Wd := R.map fun (t : Nat) => ((t : Int), ((100 * t + sent t - 1 : Nat) : Int))
theorem wds_keys (sent : Nat → Nat) (R : List Nat) (j : Nat) : decide ((j : Int) ∈ keys (wds sent R)) = decide (j ∈ R) := by
  apply decide_eq_decide.2
  unfold keys wds
  rw [List.map_map, List.mem_map]
  constructor
  · rintro ⟨t, ht, e⟩
    have : (t : Int) = (j : Int) := e
    have : t = j := by omega
    rw [← this]; exact ht
  · intro h; exact ⟨j, h, rfl⟩
theorem wds_congr {f g : Nat → Nat} {R : List Nat} (h : ∀ t ∈ R, f t = g t) : wds f R = wds g R := by
  apply List.map_congr_left
  intro t ht
  rw [h t ht]

/-- The queue: those who wait, in a part of a block of its own. -/
def Qu (h : Heap) (B : Nat) (y : CV) (q : List Nat) : Prop :=
  (y = .nils ∧ q = []) ∨ ∃ i pre, y = .sl i pre.length q.length (.dy 1) ∧ h.get i = some (.cells ((pre ++ q).map fun (n : Nat) => icell (n : Int))) ∧ B ≤ i ∧ i < h.next

theorem Qu.len {h h0 : Heap} {B : Nat} {y : CV} {q : List Nat} (hq : Qu h0 B y q) {loc vals : List AV} {X : X} (hX : X.eval loc vals = .c y) : evPure loc vals h (.len .sl X) = some (.c (.int .i64 (q.length : Int))) := by
  rcases hq with ⟨rfl, rfl⟩ | ⟨i, pre, rfl, _⟩ <;> simp only [evPure, hX] <;> rfl
theorem Qu.ext {h h' : Heap} {B : Nat} {y : CV} {q : List Nat} (hq : Qu h B y q) {S : List Nat} (e : ExtB S h h') (hs : ∀ k, blk y = some k → k ∉ S) : Qu h' B y q := by
  rcases hq with h1 | ⟨i, pre, rfl, g, hb, hn⟩
  · exact .inl h1
  · exact .inr ⟨i, pre, rfl, e.at_ g hn (hs i rfl), hb, Nat.lt_of_lt_of_le hn e.1⟩
theorem Qu.old {h : Heap} {B : Nat} {y : CV} {q : List Nat} (hq : Qu h B y q) : ∀ k, blk y = some k → B ≤ k ∧ k < h.next := by
  intro k hk
  rcases hq with ⟨rfl, _⟩ | ⟨i, pre, rfl, g, hb, hn⟩
  · cases hk
  · simp [blk] at hk; omega
/-- The first one. -/
theorem Qu.first {h : Heap} {B : Nat} {y : CV} {t : Nat} {q : List Nat} (hq : Qu h B y (t :: q)) : ∃ i o, y = .sl i o (q.length + 1) (.dy 1) ∧ h.read i o 1 = some [.int .i64 (t : Int)] ∧ Qu h B (.sl i (o + 1) q.length (.dy 1)) q := by
  rcases hq with ⟨_, h1⟩ | ⟨i, pre, rfl, g, hb, hn⟩
  · cases h1
  · refine ⟨i, pre.length, rfl, read_cells g (by simp [icell]), .inr ⟨i, pre ++ [t], by simp, by rw [List.append_assoc]; exact g, hb, hn⟩⟩
/-- One more. -/
theorem Qu.app {h : Heap} {B : Nat} {y : CV} {q : List Nat} (hq : Qu h B y q) (hB : B ≤ h.next) (t : Nat) (hl : q.length < 1000) :
    ∃ z h', evApp (h.new (.cells [.int .i64 (t : Int)])) 1 (.c y) (.c (.sl h.next 0 1 (.ex 1))) = some (.c z, h') ∧ Qu h' B z (q ++ [t]) ∧ h.next ≤ h'.next ∧ ∀ j, j < h.next → blk y ≠ some j → h'.get j = h.get j := by
  have hs : source (h.new (.cells [.int .i64 (t : Int)])) 1 (.c (.sl h.next 0 1 (.ex 1))) = some (1, [.int .i64 (t : Int)]) := source_new get_new_at rfl
  rcases hq with ⟨rfl, rfl⟩ | ⟨i, pre, rfl, g, hb, hn⟩
  · refine ⟨.sl (h.next + 1) 0 1 (.dy 1), (h.new (.cells [.int .i64 (t : Int)])).new (.cells [.int .i64 (t : Int)]), ?_, .inr ⟨h.next + 1, [], rfl, get_new_at (h := h.new (.cells [.int .i64 (t : Int)])), by omega, by show h.next + 1 < h.next + 1 + 1; omega⟩, by show h.next ≤ h.next + 1 + 1; omega, fun j hj _ => ?_⟩
    · unfold evApp
      simp only [hs]
      rfl
    · rw [get_new_old (h := h.new (.cells [.int .i64 (t : Int)])) (Nat.lt_succ_of_lt hj), get_new_old hj]
  · have g' : (h.new (.cells [.int .i64 (t : Int)])).get i = some (.cells ((pre ++ q).map fun (n : Nat) => icell (n : Int))) := (get_new_old hn).trans g
    have b1 : Nat.ble (q.length + 1) 1073741824 = true := Nat.ble_eq_true_of_le (by omega)
    have b2 : ((1 : Nat) == 1 && pre.length + q.length * 1 == ((pre ++ q).map fun (n : Nat) => icell (n : Int)).length) = true := by simp
    refine ⟨.sl (h.next + 1) 0 (q.length + 1) (.dy 1), ((h.new (.cells [.int .i64 (t : Int)])).kill i).new (.cells ((q ++ [t]).map fun (n : Nat) => icell (n : Int))), ?_, .inr ⟨h.next + 1, [], by simp, get_new_at (h := (h.new (.cells [.int .i64 (t : Int)])).kill i), by omega, by show h.next + 1 < h.next + 1 + 1; omega⟩, by show h.next ≤ h.next + 1 + 1; omega, fun j hj hne => ?_⟩
    · unfold evApp
      have dr : ((pre ++ q).map fun (n : Nat) => icell (n : Int)).drop pre.length = q.map fun (n : Nat) => icell (n : Int) := by rw [← List.map_drop]; simp
      rw [List.map_append (l₁ := q)]
      simp only [hs, b1, g', b2, cond_true, dr, List.map_cons, List.map_nil]
      rfl
    · have : j ≠ i := fun e => hne (by rw [e]; rfl)
      rw [get_new_old (h := (h.new (.cells [.int .i64 (t : Int)])).kill i) (Nat.lt_succ_of_lt hj), get_kill_ne this, get_new_old hj]

/-- What stands in the channels. -/
def ansF (sent got heard : Nat → Nat) (j : Nat) : Option Int := if j < 12 ∧ heard j < got j then some ((7 * (100 * j + sent j - 1) : Nat) : Int) else none

/-- Only blocks from A on are turned. -/
def Old (A : Nat) (h h' : Heap) : Prop := h.next ≤ h'.next ∧ ∀ j, j < A → h'.get j = h.get j
theorem Old.refl {A : Nat} {h : Heap} : Old A h h := ⟨Nat.le_refl _, fun _ _ => rfl⟩
theorem Old.trans {A : Nat} {a b c : Heap} (x : Old A a b) (y : Old A b c) : Old A a c := ⟨Nat.le_trans x.1 y.1, fun j hj => (y.2 j hj).trans (x.2 j hj)⟩
theorem ExtB.old {A : Nat} {S : List Nat} {h h' : Heap} (e : ExtB S h h') (hA : A ≤ h.next) (hs : ∀ k ∈ S, A ≤ k) : Old A h h' := ⟨e.1, fun j hj => e.2 j (by omega) fun hS => by have := hs j hS; omega⟩
theorem Recs.keep {sz n : Nat} {h h' : Heap} {x : CV} {l : List Int} (r : Recs sz h x n l) (hn : h.next ≤ h'.next) (hk : ∀ k, blk x = some k → h'.get k = h.get k) : Recs sz h' x n l := by
  refine ⟨r.1, ?_⟩
  rcases r.2 with h1 | ⟨i, o, c, rfl, h2, h3⟩
  · exact .inl h1
  · refine .inr ⟨i, o, c, rfl, Nat.lt_of_lt_of_le h2 hn, fun j v hj => ?_⟩
    have h4 := h3 j v hj
    simp only [Heap.read] at h4 ⊢
    rw [hk i rfl]; exact h4

structure On (h : Heap) (p w : Nat) (cs : List Nat) (b3 b4 b5 A B : Nat) (sent got heard : Nat → Nat) (T R : List Nat) (y : CV) : Prop where
  m : MB h p w cs (wds sent R) (fun j => decide (j ∈ R)) (fun j => decide (j ∈ T)) (ansF sent got heard)
  s : h.get b3 = some (.cells (nums sent))
  g : h.get b4 = some (.cells (nums got))
  e : h.get b5 = some (.cells (nums heard))
  qu : Qu h B y (T ++ R)
  nd : (T ++ R).Nodup
  lt : ∀ t ∈ T ++ R, t < 12
  inn : ∀ t ∈ T ++ R, sent t = heard t + 1 ∧ got t = heard t
  out : ∀ t, t < 12 → t ∉ T ++ R → got t = sent t ∧ (heard t = sent t ∨ heard t + 1 = sent t)
  r8 : (T ++ R).length ≤ 8
  big : ∀ t, sent t ≤ 1000
  lo : ∀ k ∈ [b3, b4, b5, p, w], k < B
  loc : ∀ k ∈ cs, k < B
  hB : B ≤ h.next
  hA : ∀ k ∈ [b3, b4, b5, p, w], A ≤ k
  hAc : ∀ k ∈ cs, A ≤ k
  n34 : b3 ≠ b4
  n35 : b3 ≠ b5
  n45 : b4 ≠ b5
  n3 : b3 ∉ p :: w :: cs
  n4 : b4 ∉ p :: w :: cs
  n5 : b5 ∉ p :: w :: cs

section
variable {N d : Nat} {h : Heap} {p w b3 b4 b5 A B : Nat} {cs : List Nat} {sent got heard : Nat → Nat} {T R : List Nat} {y : CV}

theorem On.r3 (O : On h p w cs b3 b4 b5 A B sent got heard T R y) {j : Nat} (hj : j < 12) : h.read b3 j 1 = some [.int .i64 (sent j : Int)] := read_cells O.s (nums_get hj)
theorem On.r4 (O : On h p w cs b3 b4 b5 A B sent got heard T R y) {j : Nat} (hj : j < 12) : h.read b4 j 1 = some [.int .i64 (got j : Int)] := read_cells O.g (nums_get hj)
theorem On.r5 (O : On h p w cs b3 b4 b5 A B sent got heard T R y) {j : Nat} (hj : j < 12) : h.read b5 j 1 = some [.int .i64 (heard j : Int)] := read_cells O.e (nums_get hj)

/-- Other blocks are turned, or made. -/
theorem On.ext (O : On h p w cs b3 b4 b5 A B sent got heard T R y) {S : List Nat} {h' : Heap} (x : ExtB S h h') (hs : ∀ k ∈ S, B ≤ k ∧ blk y ≠ some k) : On h' p w cs b3 b4 b5 A B sent got heard T R y := by
  have no : ∀ k ∈ [b3, b4, b5, p, w], k ∉ S := fun k hk hS => by have := O.lo k hk; have := (hs k hS).1; omega
  have noc : ∀ k ∈ cs, k ∉ S := fun k hk hS => by have := O.loc k hk; have := (hs k hS).1; omega
  have l3 := O.lo b3 (by simp)
  have l4 := O.lo b4 (by simp)
  have l5 := O.lo b5 (by simp)
  have hB := O.hB
  exact ⟨O.m.ext x (no p (by simp)) (no w (by simp)) noc, x.at_ O.s (by omega) (no b3 (by simp)), x.at_ O.g (by omega) (no b4 (by simp)), x.at_ O.e (by omega) (no b5 (by simp)), O.qu.ext x (fun k hk hS => (hs k hS).2 hk),
    O.nd, O.lt, O.inn, O.out, O.r8, O.big, O.lo, O.loc, Nat.le_trans O.hB x.1, O.hA, O.hAc, O.n34, O.n35, O.n45, O.n3, O.n4, O.n5⟩

/-- Nobody's word is taken who may not post. -/
theorem on_held (O : On h p w cs b3 b4 b5 A B sent got heard [] R y) {t : Nat} (ht : t < 12) (hn : sent t ≠ heard t) (v : Int) : evCallT table 13 N (d + 2) 14 [.c (.ptr p 0), .c (.int .i64 (t : Int)), .c (.int .i64 v)] h = some (.c (.int .i64 13), h) := by
  refine post_held O.m v (by omega) ?_
  by_cases hR : t ∈ R
  · exact .inl (decide_eq_true hR)
  · have := O.out t ht hR
    refine .inr (.inr ?_)
    unfold ansF
    rw [if_pos ⟨ht, by omega⟩]; simp

theorem on_free (O : On h p w cs b3 b4 b5 A B sent got heard [] R y) {t : Nat} (ht : t < 12) (hn : sent t = heard t) : t ∉ R ∧ got t = sent t := by
  have hR : t ∉ R := fun hR => by have := O.inn t hR; omega
  exact ⟨hR, (O.out t ht hR).1⟩

theorem On.AB (O : On h p w cs b3 b4 b5 A B sent got heard T R y) : A ≤ B := by have := O.hA p (by simp); have := O.lo p (by simp); omega

/-- From its parts. -/
theorem On.of {h' : Heap} {sent' got' heard' : Nat → Nat} {T' R' : List Nat} {y' : CV} (O : On h p w cs b3 b4 b5 A B sent got heard T R y)
    (m : MB h' p w cs (wds sent' R') (fun j => decide (j ∈ R')) (fun j => decide (j ∈ T')) (ansF sent' got' heard')) (s : h'.get b3 = some (.cells (nums sent'))) (g : h'.get b4 = some (.cells (nums got'))) (e : h'.get b5 = some (.cells (nums heard'))) (qu : Qu h' B y' (T' ++ R'))
    (nd : (T' ++ R').Nodup) (lt : ∀ t ∈ T' ++ R', t < 12) (inn : ∀ t ∈ T' ++ R', sent' t = heard' t + 1 ∧ got' t = heard' t) (out : ∀ t, t < 12 → t ∉ T' ++ R' → got' t = sent' t ∧ (heard' t = sent' t ∨ heard' t + 1 = sent' t))
    (r8 : (T' ++ R').length ≤ 8) (big : ∀ t, sent' t ≤ 1000) (hn : h.next ≤ h'.next) : On h' p w cs b3 b4 b5 A B sent' got' heard' T' R' y' :=
  ⟨m, s, g, e, qu, nd, lt, inn, out, r8, big, O.lo, O.loc, Nat.le_trans O.hB hn, O.hA, O.hAc, O.n34, O.n35, O.n45, O.n3, O.n4, O.n5⟩

/-- A box's step leaves the numbers and the queue alone. -/
theorem On.rest (O : On h p w cs b3 b4 b5 A B sent got heard T R y) {S : List Nat} {h' : Heap} (x : ExtB S h h') (hs : ∀ k ∈ S, k ∈ p :: w :: cs) :
    h'.get b3 = some (.cells (nums sent)) ∧ h'.get b4 = some (.cells (nums got)) ∧ h'.get b5 = some (.cells (nums heard)) ∧ Qu h' B y (T ++ R) ∧ Old A h h' := by
  have l3 := O.lo b3 (by simp)
  have l4 := O.lo b4 (by simp)
  have l5 := O.lo b5 (by simp)
  have hB := O.hB
  have AB := O.AB
  have low : ∀ k ∈ p :: w :: cs, k < B ∧ A ≤ k := fun k hk => by
    rcases List.mem_cons.1 hk with rfl | hk
    · exact ⟨O.lo _ (by simp), O.hA _ (by simp)⟩
    · rcases List.mem_cons.1 hk with rfl | hk
      · exact ⟨O.lo _ (by simp), O.hA _ (by simp)⟩
      · exact ⟨O.loc _ hk, O.hAc _ hk⟩
  exact ⟨x.at_ O.s (by omega) (fun e => O.n3 (hs _ e)), x.at_ O.g (by omega) (fun e => O.n4 (hs _ e)), x.at_ O.e (by omega) (fun e => O.n5 (hs _ e)), O.qu.ext x (fun k hk hS => by have := (O.qu.old k hk).1; have := (low k (hs k hS)).1; omega),
    x.old (by omega) fun k hk => (low k (hs k hk)).2⟩

theorem on_full (O : On h p w cs b3 b4 b5 A B sent got heard [] R y) {t : Nat} (ht : t < 12) (hn : sent t = heard t) (h8 : 8 ≤ R.length) (v : Int) : ∃ h', evCallT table 13 N (d + 2) 14 [.c (.ptr p 0), .c (.int .i64 (t : Int)), .c (.int .i64 v)] h = some (.c (.int .i64 8), h') ∧ On h' p w cs b3 b4 b5 A B sent got heard [] R y ∧ Old A h h' := by
  obtain ⟨hR, hg⟩ := on_free O ht hn
  have r8 := O.r8
  have lw : (wds sent R).length = R.length := by simp [wds]
  have ha : ansF sent got heard t = none := by unfold ansF; rw [if_neg (by omega)]
  obtain ⟨h1, e1, m1, x1⟩ := post_ok (N := N) (d := d) O.m v (j := t) (by omega) (decide_eq_false hR) (by simp) ha (by rw [lw]; simpa using r8)
  have hc : ¬ (wds sent R).length < 8 := by omega
  rw [if_neg hc] at e1
  rw [if_neg hc, if_neg hc] at m1
  obtain ⟨s, g, e, qu, old⟩ := O.rest x1 (by simp)
  exact ⟨h1, e1, O.of m1 s g e qu O.nd O.lt O.inn O.out O.r8 O.big x1.1, old⟩

theorem on_post (O : On h p w cs b3 b4 b5 A B sent got heard [] R y) {t : Nat} (ht : t < 12) (hn : sent t = heard t) (h8 : R.length < 8) (hbig : sent t < 1000) :
    ∃ h1, evCallT table 13 N (d + 2) 14 [.c (.ptr p 0), .c (.int .i64 (t : Int)), .c (.int .i64 ((100 * t + sent t : Nat) : Int))] h = some (.c (.int .i64 0), h1) ∧ h1.read b3 t 1 = some [.int .i64 (sent t : Int)] ∧ h1.read b5 t 1 = some [.int .i64 (heard t : Int)] ∧
      h1.write b3 t [.int .i64 ((sent t + 1 : Nat) : Int)] = some (h1.put b3 (.cells (nums (upd1 sent t)))) ∧
      ∃ z h2, evApp ((h1.put b3 (.cells (nums (upd1 sent t)))).new (.cells [.int .i64 (t : Int)])) 1 (.c y) (.c (.sl h1.next 0 1 (.ex 1))) = some (.c z, h2) ∧ On h2 p w cs b3 b4 b5 A B (upd1 sent t) got heard [] (R ++ [t]) z ∧ Old A h h2 := by
  obtain ⟨hR, hg⟩ := on_free O ht hn
  have lw : (wds sent R).length = R.length := by simp [wds]
  have ha : ansF sent got heard t = none := by unfold ansF; rw [if_neg (by omega)]
  obtain ⟨h1, e1, m1, x1⟩ := post_ok (N := N) (d := d) O.m ((100 * t + sent t : Nat) : Int) (j := t) (by omega) (decide_eq_false hR) (by simp) ha (by omega)
  have hc : (wds sent R).length < 8 := by omega
  rw [if_pos hc] at e1
  rw [if_pos hc, if_pos hc] at m1
  obtain ⟨s, g, e, qu, old⟩ := O.rest x1 (by simp)
  rw [List.nil_append] at qu
  have l3 := O.lo b3 (by simp)
  have hB := O.hB
  have hx1 := x1.1
  have a3 := O.hA b3 (by simp)
  have hsent : (fun j => sent j) = sent := rfl
  have x2 : ExtB [b3] h1 (h1.put b3 (.cells (nums (upd1 sent t)))) := (ExtB.refl _ _).put (.inr (by simp)) _
  have n3 := O.n3
  simp only [List.mem_cons, not_or] at n3
  have m2 := m1.ext x2 (by simp; exact fun e => n3.1 e.symm) (by simp; exact fun e => n3.2.1 e.symm) (fun a ha e => n3.2.2 (by simp at e; rw [← e]; exact ha))
  have qu2 : Qu (h1.put b3 (.cells (nums (upd1 sent t)))) B y R := qu.ext x2 fun k hk hS => by have := (qu.old k hk).1; simp at hS; omega
  obtain ⟨z, h2, f1, f2, f3, f4⟩ := qu2.app (by rw [next_put]; omega) t (by omega)
  rw [next_put] at f1 f3 f4
  have x3 : ExtB (blk y).toList (h1.put b3 (.cells (nums (upd1 sent t)))) h2 := ⟨f3, fun j hj hn => f4 j hj fun e => hn (by simpa using e)⟩
  have hyl : ∀ k, k < B → k ∉ (blk y).toList := fun k hk hS => by have := (qu.old k (by simpa using hS)).1; omega
  have m3 := m2.ext x3 (hyl p (O.lo p (by simp))) (hyl w (O.lo w (by simp))) fun a ha => hyl a (O.loc a ha)
  have w3 : wds sent R ++ [((t : Int), ((100 * t + sent t : Nat) : Int))] = wds (upd1 sent t) (R ++ [t]) := by
    unfold wds
    rw [List.map_append]
    congr 1
    · apply List.map_congr_left
      intro a ha
      have : a ≠ t := fun e => hR (e ▸ ha)
      simp [upd1, this]
    · simp only [List.map_cons, List.map_nil, upd1, if_pos]
      rw [show 100 * t + (sent t + 1) - 1 = 100 * t + sent t by omega]
  rw [w3] at m3
  have hnl := O.n34
  have hn5 := O.n35
  refine ⟨h1, e1, read_cells s (nums_get ht), read_cells e (nums_get ht), ?_, z, h2, f1, O.of (m3.congr ?_ (fun _ _ => rfl) ?_) (x3.at_ get_put_at (by rw [next_put]; omega) (hyl b3 l3)) (x3.at_ (by rw [get_put_ne (fun e => hnl e.symm)]; exact g) (by rw [next_put]; have := O.lo b4 (by simp); omega) (hyl b4 (O.lo b4 (by simp))))
    (x3.at_ (by rw [get_put_ne (fun e => hn5 e.symm)]; exact e) (by rw [next_put]; have := O.lo b5 (by simp); omega) (hyl b5 (O.lo b5 (by simp)))) f2 ?_ ?_ ?_ ?_ ?_ ?_ (by omega), ?_⟩
  · have := write_one (o := t) (v := icell ((sent t + 1 : Nat) : Int)) s (by rw [nums_len]; exact ht)
    rw [nums_set] at this; exact this
  · intro j _
    by_cases e : j = t
    · subst e; simp
    · rw [if_neg e]; apply decide_eq_decide.2; simp [e]
  · intro j _
    unfold ansF upd1
    by_cases e : j = t
    · subst e
      rw [if_neg (by omega), if_neg (by omega)]
    · simp [e]
  · rw [List.nil_append]
    have nd := O.nd
    rw [List.nil_append] at nd
    exact List.nodup_append.2 ⟨nd, by simp, fun a hm b hb e => hR (by rw [List.mem_singleton] at hb; rw [← hb, ← e]; exact hm)⟩
  · intro a ha
    simp at ha
    rcases ha with ha | rfl
    · exact O.lt a (by simpa using ha)
    · exact ht
  · intro a ha
    simp at ha
    unfold upd1
    rcases ha with ha | rfl
    · have : a ≠ t := fun e => hR (e ▸ ha)
      rw [if_neg this]; exact O.inn a (by simpa using ha)
    · rw [if_pos rfl]; omega
  · intro a h12 ha
    simp at ha
    unfold upd1
    rw [if_neg ha.2]
    exact O.out a h12 (by simpa using ha.1)
  · simp; omega
  · intro a
    unfold upd1
    have := O.big a
    split
    · rename_i e; subst e; omega
    · exact this
  · exact old.trans ((x2.old (by have := O.AB; omega) (fun k hk => by simp at hk; omega)).trans (x3.old (by rw [next_put]; have := O.AB; omega) fun k hk => by have := (qu.old k (by simpa using hk)).1; have := O.AB; omega))

theorem flat_wds (sent : Nat → Nat) (R : List Nat) (n : Nat) : (wds sent R).take n = wds sent (R.take n) ∧ (wds sent R).drop n = wds sent (R.drop n) := by
  unfold wds; exact ⟨by rw [List.map_take], by rw [List.map_drop]⟩

theorem on_take (O : On h p w cs b3 b4 b5 A B sent got heard [] R y) (hN : 12 ≤ N) :
    ∃ x h1, evCallT table 13 N (d + 1) 17 [.c (.ptr p 0), .c (.int .i64 2)] h = some (.c x, h1) ∧ Recs 2 h1 x (R.take 2).length (flat (wds sent (R.take 2))) ∧ (∀ k, blk x = some k → B ≤ k ∧ blk y ≠ some k) ∧ On h1 p w cs b3 b4 b5 A B sent got heard (R.take 2) (R.drop 2) y ∧ Old A h h1 := by
  have r8 := O.r8
  have lw : (wds sent R).length = R.length := by simp [wds]
  have nd := O.nd
  rw [List.nil_append] at nd r8
  obtain ⟨x, h1, e1, s1, m1, x1⟩ := take_ok (N := N) (d := d) O.m 2 (by omega) (fun k hk => by
    obtain ⟨a, ha, rfl⟩ := List.mem_map.1 hk
    obtain ⟨t, ht, rfl⟩ := List.mem_map.1 ha
    have := O.lt t (by simpa using ht)
    exact ⟨by show (0 : Int) ≤ (t : Int); omega, by show (t : Int) < 64; omega⟩) hN
  have h2 : (2 : Int).toNat = 2 := rfl
  rw [h2, (flat_wds sent R 2).1] at s1 m1
  rw [(flat_wds sent R 2).2] at m1
  have lw2 : (wds sent (R.take 2)).length = (R.take 2).length := by simp [wds]
  rw [lw2] at s1
  obtain ⟨s, g, e, qu, old⟩ := O.rest x1 (by simp)
  rw [List.nil_append] at qu
  have hB := O.hB
  have td : R.take 2 ++ R.drop 2 = R := List.take_append_drop 2 R
  refine ⟨x, h1, e1, s1.recs, fun k hk => ?_, O.of (m1.congr ?_ ?_ (fun _ _ => rfl)) s g e (by rw [td]; exact qu) (by rw [td]; exact nd) (by rw [td]; simpa using O.lt) (by rw [td]; simpa using O.inn) (by rw [td]; simpa using O.out) (by rw [td]; exact r8) O.big x1.1, old⟩
  · have h3 := s1.young k hk
    exact ⟨by omega, fun e => by have := (O.qu.old k e).2; omega⟩
  · intro j _
    rw [inKeys_eq, wds_keys]
    have nd' := nd
    rw [← td] at nd'
    by_cases hT : j ∈ R.take 2
    · have hD : j ∉ R.drop 2 := fun hD => (List.nodup_append.1 nd').2.2 _ hT _ hD rfl
      simp [hT, hD]
    · have : (j ∈ R) ↔ j ∈ R.drop 2 := by
        constructor
        · intro hm; rw [← td] at hm; exact (List.mem_append.1 hm).resolve_left hT
        · exact List.mem_of_mem_drop
      simp [hT, this]
  · intro j _
    rw [inKeys_eq, wds_keys]
    by_cases hT : j ∈ R.take 2 <;> simp [hT]

theorem on_answer {t : Nat} {T : List Nat} {y1 : CV} (O : On h p w cs b3 b4 b5 A B sent got heard (t :: T) R y) (q1 : Qu h B y1 (T ++ R)) (hy : blk y1 = blk y) :
    h.write b4 t [.int .i64 ((got t + 1 : Nat) : Int)] = some (h.put b4 (.cells (nums (upd1 got t)))) ∧
    ∃ h1, evCallT table 13 N (d + 2) 19 [.c (.ptr p 0), .c (.int .i64 (t : Int)), .c (.int .i64 ((7 * (100 * t + sent t - 1) : Nat) : Int))] (h.put b4 (.cells (nums (upd1 got t)))) = some (.c (.int .i64 0), h1) ∧
      evCallT table 13 N (d + 2) 19 [.c (.ptr p 0), .c (.int .i64 (t : Int)), .c (.int .i64 1)] h1 = some (.c (.int .i64 2), h1) ∧ On h1 p w cs b3 b4 b5 A B sent (upd1 got t) heard T R y1 ∧ Old A h h1 ∧ ExtB (b4 :: p :: w :: cs) h h1 := by
  have ht := O.lt t (by simp)
  have hi := O.inn t (by simp)
  have nd := O.nd
  rw [List.cons_append, List.nodup_cons] at nd
  simp only [List.mem_append, not_or] at nd
  have x0 : ExtB [b4] h (h.put b4 (.cells (nums (upd1 got t)))) := (ExtB.refl _ _).put (.inr (by simp)) _
  have n4 := O.n4
  simp only [List.mem_cons, not_or] at n4
  have m0 := O.m.ext x0 (by simp; exact fun e => n4.1 e.symm) (by simp; exact fun e => n4.2.1 e.symm) (fun a ha e => n4.2.2 (by simp at e; rw [← e]; exact ha))
  have an : ansF sent got heard t = none := by unfold ansF; rw [if_neg (by omega)]
  obtain ⟨h1, e1, m1, x1⟩ := answer_ok (N := N) (d := d) m0 ((7 * (100 * t + sent t - 1) : Nat) : Int) (j := t) (by omega) (by simp) an
  have l3 := O.lo b3 (by simp)
  have l4 := O.lo b4 (by simp)
  have l5 := O.lo b5 (by simp)
  have hB := O.hB
  have AB := O.AB
  have a4 := O.hA b4 (by simp)
  have n3 := O.n3
  have n5 := O.n5
  simp only [List.mem_cons, not_or] at n3 n5
  have xx : ExtB (b4 :: p :: w :: cs) h h1 := (x0.mono (by simp)).trans (x1.mono (by simp +contextual))
  have low : ∀ k ∈ b4 :: p :: w :: cs, k < B ∧ A ≤ k := fun k hk => by
    rcases List.mem_cons.1 hk with rfl | hk
    · exact ⟨l4, a4⟩
    rcases List.mem_cons.1 hk with rfl | hk
    · exact ⟨O.lo _ (by simp), O.hA _ (by simp)⟩
    · rcases List.mem_cons.1 hk with rfl | hk
      · exact ⟨O.lo _ (by simp), O.hA _ (by simp)⟩
      · exact ⟨O.loc _ hk, O.hAc _ hk⟩
  have m2 : MB h1 p w cs (wds sent R) (fun j => decide (j ∈ R)) (fun j => decide (j ∈ T)) (ansF sent (upd1 got t) heard) := m1.congr (fun _ _ => rfl) (fun j _ => by
      by_cases e : j = t
      · subst e; rw [if_pos rfl]; exact (decide_eq_false nd.1.1).symm
      · rw [if_neg e]; apply decide_eq_decide.2; simp [e]) (fun j _ => by
      unfold ansF upd1
      by_cases e : j = t
      · subst e; rw [if_pos rfl, if_pos rfl, if_pos ⟨ht, by omega⟩]
      · simp only [if_neg e])
  refine ⟨?_, h1, e1, answer_no m2 (fun j _ e => ?_), O.of m2 (xx.at_ O.s (by omega) (by simp only [List.mem_cons, not_or]; exact ⟨O.n34, n3⟩)) (x1.at_ get_put_at (by rw [next_put]; omega) (fun h => ?_)) (xx.at_ O.e (by omega) (by simp only [List.mem_cons, not_or]; exact ⟨fun e => O.n45 e.symm, n5⟩)) (q1.ext xx fun k hk hS => by have := (O.qu.old k (hy ▸ hk)).1; have := (low k hS).1; omega) nd.2 ?_ ?_ ?_ ?_ O.big xx.1, xx.old (by omega) (fun k hk => (low k hk).2), xx⟩
  · have := write_one (o := t) (v := icell ((got t + 1 : Nat) : Int)) O.g (by rw [nums_len]; exact ht)
    rw [nums_set] at this; exact this
  · have : j = t := by omega
    subst this; exact decide_eq_false nd.1.1
  · rcases List.mem_cons.1 h with h | h
    · exact n4.1 h
    · exact n4.2.2 h
  · exact fun a ha => O.lt a (List.mem_cons_of_mem _ ha)
  · intro a ha
    have : a ≠ t := fun e => by subst e; exact (List.mem_append.1 ha).elim nd.1.1 nd.1.2
    unfold upd1; rw [if_neg this]
    exact O.inn a (List.mem_cons_of_mem _ ha)
  · intro a h12 ha
    unfold upd1
    by_cases e : a = t
    · subst e; rw [if_pos rfl]; omega
    · rw [if_neg e]
      exact O.out a h12 (fun hm => by rcases List.mem_cons.1 hm with h | h; exact e h; exact ha h)
  · have := O.r8; simp at this ⊢; omega

theorem on_hear (O : On h p w cs b3 b4 b5 A B sent got heard [] R y) {t : Nat} (ht : t < 12) :
    (¬ heard t < got t ∧ evCallT table 13 N (d + 2) 21 [.c (.ptr p 0), .c (.int .i64 (t : Int))] h = some (.tup [.c (.int .i64 0), .c (.bool false)], h)) ∨
    (heard t < got t ∧ 1 ≤ sent t ∧ ∃ h1, evCallT table 13 N (d + 2) 21 [.c (.ptr p 0), .c (.int .i64 (t : Int))] h = some (.tup [.c (.int .i64 ((7 * (100 * t + sent t - 1) : Nat) : Int)), .c (.bool true)], h1) ∧
      h1.read b3 t 1 = some [.int .i64 (sent t : Int)] ∧ h1.read b4 t 1 = some [.int .i64 (got t : Int)] ∧ h1.read b5 t 1 = some [.int .i64 (heard t : Int)] ∧ h1.write b5 t [.int .i64 ((heard t + 1 : Nat) : Int)] = some (h1.put b5 (.cells (nums (upd1 heard t)))) ∧
      On (h1.put b5 (.cells (nums (upd1 heard t)))) p w cs b3 b4 b5 A B sent got (upd1 heard t) [] R y ∧ Old A h (h1.put b5 (.cells (nums (upd1 heard t))))) := by
  by_cases hg : heard t < got t
  · right
    have hR : t ∉ R := fun hR => by have := O.inn t hR; omega
    have ho := O.out t ht hR
    have ha : ansF sent got heard t = some ((7 * (100 * t + sent t - 1) : Nat) : Int) := by unfold ansF; rw [if_pos ⟨ht, hg⟩]
    obtain ⟨h1, e1, m1, x1⟩ := hear_ok (N := N) (d := d) O.m (j := t) (by omega) ha
    obtain ⟨s, g, e, qu, old⟩ := O.rest x1 (by simp +contextual)
    have n5 := O.n5
    simp only [List.mem_cons, not_or] at n5
    have x2 : ExtB [b5] h1 (h1.put b5 (.cells (nums (upd1 heard t)))) := (ExtB.refl _ _).put (.inr (by simp)) _
    have m2 := m1.ext x2 (by simp; exact fun e => n5.1 e.symm) (by simp; exact fun e => n5.2.1 e.symm) (fun a ha e => n5.2.2 (by simp at e; rw [← e]; exact ha))
    have l5 := O.lo b5 (by simp)
    have l4 := O.lo b4 (by simp)
    have l3 := O.lo b3 (by simp)
    have hB := O.hB
    have hx1 := x1.1
    refine ⟨hg, by omega, h1, e1, read_cells s (nums_get ht), read_cells g (nums_get ht), read_cells e (nums_get ht), ?_, O.of (m2.congr (fun _ _ => rfl) (fun _ _ => rfl) ?_) (x2.at_ s (by omega) (by simp; exact O.n35)) (x2.at_ g (by omega) (by simp; exact O.n45)) get_put_at (qu.ext x2 fun k hk hS => by have := (qu.old k hk).1; simp at hS; omega) O.nd O.lt ?_ ?_ O.r8 O.big (by rw [next_put]; exact x1.1), old.trans (x2.old (by have := O.AB; omega) fun k hk => by simp at hk; subst hk; exact O.hA _ (by simp))⟩
    · have := write_one (o := t) (v := icell ((heard t + 1 : Nat) : Int)) e (by rw [nums_len]; exact ht)
      rw [nums_set] at this; exact this
    · intro j _
      unfold ansF upd1
      by_cases e : j = t
      · subst e; rw [if_pos rfl, if_pos rfl, if_neg (by omega)]
      · simp only [if_neg e]
    · intro a ha
      have : a ≠ t := fun e => hR (e ▸ (by simpa using ha))
      unfold upd1; rw [if_neg this]; exact O.inn a ha
    · intro a h12 ha
      unfold upd1
      by_cases e : a = t
      · subst e; rw [if_pos rfl]; omega
      · rw [if_neg e]; exact O.out a h12 ha
  · left
    refine ⟨hg, hear_no O.m fun j hj e => ?_⟩
    have : j = t := by omega
    subst this
    unfold ansF; rw [if_neg (by omega)]
end
end Lav
