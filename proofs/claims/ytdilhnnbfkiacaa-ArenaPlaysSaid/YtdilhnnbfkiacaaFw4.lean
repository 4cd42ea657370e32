/-
  The abstract heap stands for the model's: what a new block, a write, an append in place do to that.
-/
import Derived.Test.YtdilhnnbfkiacaaFw3
namespace Lav
open Go

def Blk.isRo : Blk → Bool
  | .ro _ => true
  | _ => false

/-- Block b of the world bears the abstract block, from cell 'base' on. Blocks from B on are the call's own. -/
def BR (B : Nat) (ι : Inj) (b base lim : Nat) (w : World) : Blk → Prop
  | .cells l => B ≤ b ∧ ∃ c e fz, w.heap[b]? = some (.cells c e fz) ∧ base + lim = c.size ∧ l.length ≤ lim ∧ (fz.1 = fz.2 ∨ c.size ≤ fz.1) ∧
      ∀ (j : Nat) (x : CV), l[j]? = some x → ∃ v, c[base + j]? = some v ∧ CR ι x v
  | .ro l => b < B ∧ ∃ c e fz, w.heap[b]? = some (.cells c e fz) ∧ ∀ (j : Nat) (x : CV), l[j]? = some x → ∃ v, c[base + j]? = some v ∧ CR ι x v
  | .chan cap buf => B ≤ b ∧ ∃ vs s r, w.heap[b]? = some (.chan cap vs false s r false) ∧ All2 (XR ι) buf vs.toList

theorem BR.move {B : Nat} {ι ι' : Inj} {b base lim : Nat} {w w' : World} {k : Blk} (h : BR B ι b base lim w k) (hle : Le ι ι') (hw : w'.heap[b]? = w.heap[b]?) :
    BR B ι' b base lim w' k := by
  cases k with
  | cells l =>
    obtain ⟨h1, c, e, fz, h2, h3, h4, h5, h6⟩ := h
    exact ⟨h1, c, e, fz, hw.trans h2, h3, h4, h5, fun j x hx => let ⟨v, a, r⟩ := h6 j x hx; ⟨v, a, r.mono hle⟩⟩
  | ro l =>
    obtain ⟨h1, c, e, fz, h2, h6⟩ := h
    exact ⟨h1, c, e, fz, hw.trans h2, fun j x hx => let ⟨v, a, r⟩ := h6 j x hx; ⟨v, a, r.mono hle⟩⟩
  | chan cap buf =>
    obtain ⟨h1, vs, s, r, h2, h3⟩ := h
    exact ⟨h1, vs, s, r, hw.trans h2, h3.imp fun _ _ x => x.mono hle⟩

theorem BR.lt {B : Nat} {ι : Inj} {b base lim : Nat} {w : World} {k : Blk} (h : BR B ι b base lim w k) : b < w.heap.size := by
  have key : ∀ o, w.heap[b]? = some o → b < w.heap.size := fun o ho => by
    rcases Nat.lt_or_ge b w.heap.size with h | h
    · exact h
    · simp [Array.getElem?_eq_none h] at ho
  cases k with
  | cells l => obtain ⟨_, c, e, fz, h2, _⟩ := h; exact key _ h2
  | ro l => obtain ⟨_, c, e, fz, h2, _⟩ := h; exact key _ h2
  | chan cap buf => obtain ⟨_, vs, s, r, h2, _⟩ := h; exact key _ h2

theorem BR.own {B : Nat} {ι : Inj} {b base lim : Nat} {w : World} {k : Blk} (h : BR B ι b base lim w k) (hk : k.isRo = false) : B ≤ b := by
  cases k with
  | cells l => exact h.1
  | ro l => simp [Blk.isRo] at hk
  | chan cap buf => exact h.1

theorem BR.ro {B : Nat} {ι : Inj} {b base lim : Nat} {w : World} {k : Blk} (h : BR B ι b base lim w k) (hk : k.isRo = true) : b < B := by
  cases k with
  | cells l => simp [Blk.isRo] at hk
  | ro l => exact h.1
  | chan cap buf => simp [Blk.isRo] at hk

structure HR (B : Nat) (ι : Inj) (g : Nat → Option Blk) (w : World) : Prop where
  at_ : ∀ i k, g i = some k → ∃ b base lim, ι i = some (b, base, lim) ∧ BR B ι b base lim w k
  apart : ∀ i j ki kj, g i = some ki → g j = some kj → ki.isRo = false → kj.isRo = false → i ≠ j →
    ∀ b x y b' x' y', ι i = some (b, x, y) → ι j = some (b', x', y') → b ≠ b'
  base : B ≤ w.heap.size

/-- Block b belongs to one of the writable abstract blocks. -/
def Own (ι : Inj) (g : Nat → Option Blk) (b : Nat) : Prop := ∃ i k base lim, g i = some k ∧ k.isRo = false ∧ ι i = some (b, base, lim)

structure Fr (ι : Inj) (g : Nat → Option Blk) (w : World) (ι' : Inj) (g' : Nat → Option Blk) (w' : World) : Prop where
  os : w'.os = w.os
  output : w'.output = w.output
  tape : w'.tape = w.tape
  size : w.heap.size ≤ w'.heap.size
  keep : ∀ b, b < w.heap.size → ¬ Own ι g b → w'.heap[b]? = w.heap[b]?
  own : ∀ b, Own ι' g' b → Own ι g b ∨ w.heap.size ≤ b

theorem Fr.refl (ι : Inj) (g : Nat → Option Blk) (w : World) : Fr ι g w ι g w := ⟨rfl, rfl, rfl, Nat.le_refl _, fun _ _ _ => rfl, fun _ h => .inl h⟩

theorem Fr.trans {ι ι' ι'' : Inj} {g g' g'' : Nat → Option Blk} {w w' w'' : World} (h : Fr ι g w ι' g' w') (k : Fr ι' g' w' ι'' g'' w'') : Fr ι g w ι'' g'' w'' where
  os := k.os.trans h.os
  output := k.output.trans h.output
  tape := k.tape.trans h.tape
  size := Nat.le_trans h.size k.size
  keep b hb hn := by
    rw [k.keep b (Nat.lt_of_lt_of_le hb h.size) (fun ho => (h.own b ho).elim hn (fun h1 => by omega)), h.keep b hb hn]
  own b ho := by
    rcases k.own b ho with h1 | h1
    · exact h.own b h1
    · exact .inr (Nat.le_trans h.size h1)

/-- Fewer blocks are known. -/
def Sub (g g' : Nat → Option Blk) : Prop := ∀ i k, g i = some k → g' i = some k

theorem HR.sub {B : Nat} {ι : Inj} {g g' : Nat → Option Blk} {w : World} (h : HR B ι g' w) (hs : Sub g g') : HR B ι g w :=
  ⟨fun i k hi => h.at_ i k (hs i k hi), fun i j ki kj hi hj => h.apart i j ki kj (hs _ _ hi) (hs _ _ hj), h.base⟩

theorem Own.sub {ι : Inj} {g g' : Nat → Option Blk} {b : Nat} (h : Own ι g b) (hs : Sub g g') : Own ι g' b :=
  let ⟨i, k, base, lim, h1, h2, h3⟩ := h; ⟨i, k, base, lim, hs _ _ h1, h2, h3⟩

theorem HR.drew {B : Nat} {ι : Inj} {g : Nat → Option Blk} {w : World} (h : HR B ι g w) (n : Nat) : HR B ι g { w with drawn := n } :=
  ⟨fun i k hi => let ⟨b, base, lim, h1, h2⟩ := h.at_ i k hi; ⟨b, base, lim, h1, h2.move (Le.refl _) rfl⟩, h.apart, h.base⟩

theorem Fr.drew {ι : Inj} {g : Nat → Option Blk} {w : World} (n : Nat) : Fr ι g w ι g { w with drawn := n } :=
  ⟨rfl, rfl, rfl, Nat.le_refl _, fun _ _ _ => rfl, fun _ h => .inl h⟩

section
variable {B : Nat} {ι ι' : Inj} {g : Nat → Option Blk} {w w' : World} {i b base lim : Nat} {k' : Blk}

/-- One block is new, or another one than it was; all others are as they were. -/
theorem HR.set (h : HR B ι g w) (hle : Le ι ι') (hi : ι' i = some (b, base, lim)) (hk : BR B ι' b base lim w' k') (hro : k'.isRo = false) (hsize : w.heap.size ≤ w'.heap.size)
    (hother : ∀ x, x ≠ b → x < w.heap.size → w'.heap[x]? = w.heap[x]?)
    (hfree : ∀ j kj, j ≠ i → g j = some kj → kj.isRo = false → ∀ b' x y, ι j = some (b', x, y) → b' ≠ b) : HR B ι' (upd g i (some k')) w' := by
  have hB := hk.own hro
  have old : ∀ j kj, j ≠ i → g j = some kj → ∃ b' x y, ι j = some (b', x, y) ∧ BR B ι b' x y w kj ∧ b' ≠ b := by
    intro j kj hj hg
    obtain ⟨b', x, y, h1, h2⟩ := h.at_ j kj hg
    refine ⟨b', x, y, h1, h2, ?_⟩
    cases hr : kj.isRo with
    | true => have := h2.ro hr; omega
    | false => exact hfree j kj hj hg hr _ _ _ h1
  refine ⟨fun j kj hj => ?_, fun j j' kj kj' hj hj' hr hr' hne b1 x1 y1 b2 x2 y2 e1 e2 => ?_, Nat.le_trans h.base hsize⟩
  · by_cases e : j = i
    · subst e; simp [upd] at hj; subst hj; exact ⟨b, base, lim, hi, hk⟩
    · simp [upd, e] at hj
      obtain ⟨b', x, y, h1, h2, h3⟩ := old j kj e hj
      exact ⟨b', x, y, hle _ _ h1, h2.move hle (hother _ h3 h2.lt)⟩
  · by_cases e : j = i
    · subst e
      have e' : j' ≠ j := fun q => hne q.symm
      simp [upd, e'] at hj'
      obtain ⟨b', x, y, h1, h2, h3⟩ := old j' kj' e' hj'
      rw [hle _ _ h1] at e2; rw [hi] at e1
      simp only [Option.some.injEq, Prod.mk.injEq] at e1 e2
      omega
    · simp [upd, e] at hj
      obtain ⟨b', x, y, h1, h2, h3⟩ := old j kj e hj
      by_cases e' : j' = i
      · subst e'
        rw [hle _ _ h1] at e1; rw [hi] at e2
        simp only [Option.some.injEq, Prod.mk.injEq] at e1 e2
        omega
      · simp [upd, e'] at hj'
        obtain ⟨b'', x', y', h1', h2', h3'⟩ := old j' kj' e' hj'
        rw [hle _ _ h1] at e1; rw [hle _ _ h1'] at e2
        simp only [Option.some.injEq, Prod.mk.injEq] at e1 e2
        have := h.apart j j' kj kj' hj hj' hr hr' hne _ _ _ _ _ _ h1 h1'
        omega

theorem Fr.set (h : HR B ι g w) (hle : Le ι ι') (hi : ι' i = some (b, base, lim)) (hsize : w.heap.size ≤ w'.heap.size)
    (hother : ∀ x, x ≠ b → x < w.heap.size → w'.heap[x]? = w.heap[x]?) (hos : w'.os = w.os) (hout : w'.output = w.output) (htape : w'.tape = w.tape)
    (hown : Own ι g b ∨ w.heap.size ≤ b) : Fr ι g w ι' (upd g i (some k')) w' := by
  refine ⟨hos, hout, htape, hsize, fun x hx hn => hother x ?_ hx, fun x hx => ?_⟩
  · intro e; subst e
    rcases hown with h1 | h1
    · exact hn h1
    · omega
  · obtain ⟨j, kj, x1, y1, h1, h2, h3⟩ := hx
    by_cases e : j = i
    · subst e
      rw [hi] at h3
      simp only [Option.some.injEq, Prod.mk.injEq] at h3
      obtain ⟨rfl, _, _⟩ := h3
      exact hown
    · simp [upd, e] at h1
      obtain ⟨b', x', y', h1', _⟩ := h.at_ j kj h1
      rw [hle _ _ h1'] at h3
      simp only [Option.some.injEq, Prod.mk.injEq] at h3
      obtain ⟨rfl, rfl, rfl⟩ := h3
      exact .inl ⟨j, kj, _, _, h1, h2, h1'⟩
end

def Inj.put (ι : Inj) (i : Nat) (x : Nat × Nat × Nat) : Inj := fun j => if j = i then some x else ι j

theorem Inj.put_le {ι : Inj} {i : Nat} {x : Nat × Nat × Nat} (h : ι i = none) : Le ι (ι.put i x) := by
  intro j y hj
  by_cases e : j = i
  · subst e; rw [h] at hj; cases hj
  · simpa [Inj.put, e] using hj
theorem Inj.put_at {ι : Inj} {i : Nat} {x : Nat × Nat × Nat} : (ι.put i x) i = some x := by simp [Inj.put]
theorem Inj.put_ne {ι : Inj} {i j : Nat} {x : Nat × Nat × Nat} (h : j ≠ i) : (ι.put i x) j = ι j := by simp [Inj.put, h]

/-- What an evaluation from heap h to heap h' leaves. -/
structure Post (B : Nat) (ι : Inj) (h : Heap) (w : World) (ι' : Inj) (h' : Heap) (w' : World) : Prop where
  next : h.next ≤ h'.next
  same : ∀ i, i < h.next → ι' i = ι i
  dead : ∀ i, i < h.next → h.get i = none → h'.get i = none
  rel : HR B ι' h'.get w'
  fresh : ∀ i, h'.next ≤ i → ι' i = none
  fr : Fr ι h.get w ι' h'.get w'

theorem Post.le {B : Nat} {ι ι' : Inj} {h h' : Heap} {w w' : World} (p : Post B ι h w ι' h' w') (hf : ∀ i, h.next ≤ i → ι i = none) : Le ι ι' := by
  intro i x hx
  rcases Nat.lt_or_ge i h.next with hl | hl
  · rw [p.same i hl]; exact hx
  · rw [hf i hl] at hx; cases hx

theorem Post.refl {B : Nat} {ι : Inj} {h : Heap} {w : World} (hr : HR B ι h.get w) (hf : ∀ i, h.next ≤ i → ι i = none) : Post B ι h w ι h w :=
  ⟨Nat.le_refl _, fun _ _ => rfl, fun _ _ h => h, hr, hf, Fr.refl _ _ _⟩

theorem Post.drew {B : Nat} {ι : Inj} {h : Heap} {w : World} (n : Nat) (hr : HR B ι h.get w) (hf : ∀ i, h.next ≤ i → ι i = none) : Post B ι h w ι h { w with drawn := n } :=
  ⟨Nat.le_refl _, fun _ _ => rfl, fun _ _ h => h, hr.drew n, hf, Fr.drew n⟩

theorem Post.trans {B : Nat} {ι ι' ι'' : Inj} {h h' h'' : Heap} {w w' w'' : World} (p : Post B ι h w ι' h' w') (q : Post B ι' h' w' ι'' h'' w'') : Post B ι h w ι'' h'' w'' where
  next := Nat.le_trans p.next q.next
  same i hi := by rw [q.same i (Nat.lt_of_lt_of_le hi p.next), p.same i hi]
  dead i hi hn := q.dead i (Nat.lt_of_lt_of_le hi p.next) (p.dead i hi hn)
  rel := q.rel
  fresh := q.fresh
  fr := p.fr.trans q.fr

/-! ### A new block -/
theorem heap_new (w : World) (o : Obj) : (w.alloc o).heap[w.heap.size]? = some o := by
  show (w.heap.push o)[w.heap.size]? = some o
  simp
theorem heap_old (w : World) (o : Obj) (x : Nat) (h : x ≠ w.heap.size) : (w.alloc o).heap[x]? = w.heap[x]? := by
  show (w.heap.push o)[x]? = _
  rw [Array.getElem?_push, if_neg h]

theorem BR.new {B : Nat} {ι : Inj} {w : World} {l : List CV} {c : Array Value} {e : TypeId} {fz : Nat × Nat} (hB : B ≤ w.heap.size) (hl : l.length ≤ c.size) (hfz : fz.1 = fz.2 ∨ c.size ≤ fz.1)
    (h : ∀ (j : Nat) (x : CV), l[j]? = some x → ∃ v, c[j]? = some v ∧ CR ι x v) : BR B ι w.heap.size 0 c.size (w.alloc (.cells c e fz)) (.cells l) :=
  ⟨hB, c, e, fz, heap_new w _, by simp, hl, hfz, by simpa using h⟩

section
variable {B : Nat} {ι : Inj} {g : Nat → Option Blk} {w : World} {i : Nat}

/-- A new block of whatever kind under a number that stands for nothing yet. -/
theorem HR.alloc {o : Obj} {k : Blk} {lim : Nat} (h : HR B ι g w) (hi : ι i = none) (hro : k.isRo = false)
    (hk : BR B (ι.put i (w.heap.size, 0, lim)) w.heap.size 0 lim (w.alloc o) k) :
    HR B (ι.put i (w.heap.size, 0, lim)) (upd g i (some k)) (w.alloc o) ∧ Fr ι g w (ι.put i (w.heap.size, 0, lim)) (upd g i (some k)) (w.alloc o) := by
  have hother : ∀ x, x ≠ w.heap.size → x < w.heap.size → (w.alloc o).heap[x]? = w.heap[x]? := fun x hx _ => heap_old w _ x hx
  have hs : w.heap.size ≤ (w.alloc o).heap.size := by simp
  refine ⟨h.set (Inj.put_le hi) Inj.put_at hk hro hs hother ?_, Fr.set h (Inj.put_le hi) Inj.put_at hs hother rfl rfl rfl (.inr (Nat.le_refl _))⟩
  intro j kj hj hg _ b' x y e
  obtain ⟨b'', x', y', e', hb⟩ := h.at_ j kj hg
  rw [e'] at e; simp only [Option.some.injEq, Prod.mk.injEq] at e
  have := hb.lt; omega
end

section
variable {B : Nat} {ι : Inj} {h : Heap} {w : World}

theorem Post.new {o : Obj} {k : Blk} {lim : Nat} (hr : HR B ι h.get w) (hf : ∀ i, h.next ≤ i → ι i = none) (hro : k.isRo = false)
    (hk : BR B (ι.put h.next (w.heap.size, 0, lim)) w.heap.size 0 lim (w.alloc o) k) :
    Post B ι h w (ι.put h.next (w.heap.size, 0, lim)) (h.new k) (w.alloc o) := by
  obtain ⟨h1, h2⟩ := hr.alloc (o := o) (hf _ (Nat.le_refl _)) hro hk
  refine ⟨by simp [Heap.new], fun i hi => Inj.put_ne (by omega), fun i hi hn => ?_, ?_, fun i hi => ?_, ?_⟩
  · rw [Heap.get_new]; simp [upd, hn]; omega
  · rw [Heap.get_new]; exact h1
  · rw [Inj.put_ne (by simp [Heap.new] at hi; omega)]; exact hf i (by simp [Heap.new] at hi; omega)
  · rw [Heap.get_new]; exact h2

/-- Block i holds something else. -/
theorem Post.put {w' : World} {i b base lim : Nat} {k k' : Blk} (hr : HR B ι h.get w) (hf : ∀ i, h.next ≤ i → ι i = none) (hg : h.get i = some k) (hro : k.isRo = false) (hro' : k'.isRo = false)
    (hi : ι i = some (b, base, lim)) (hk : BR B ι b base lim w' k') (hsize : w.heap.size ≤ w'.heap.size) (hother : ∀ x, x ≠ b → x < w.heap.size → w'.heap[x]? = w.heap[x]?)
    (hos : w'.os = w.os) (hout : w'.output = w.output) (htape : w'.tape = w.tape) : Post B ι h w ι (h.put i k') w' := by
  refine ⟨by simp [Heap.put], fun _ _ => rfl, fun j hj hn => ?_, ?_, by simpa [Heap.put] using hf, ?_⟩
  · rw [Heap.get_put]
    by_cases e : j = i
    · subst e; rw [hg] at hn; cases hn
    · simp [upd, e, hn]
  · rw [Heap.get_put]
    exact hr.set (Le.refl _) hi hk hro' hsize hother fun j kj hj hgj hrj b' x y e => hr.apart j i kj k hgj hg hrj hro hj _ _ _ _ _ _ e hi
  · rw [Heap.get_put]
    exact Fr.set hr (Le.refl _) hi hsize hother hos hout htape (.inl ⟨i, k, base, lim, hg, hro, hi⟩)

/-- Block i is given up; a new number stands for what lies there now. -/
theorem Post.take {w' : World} {i b base lim base' lim' : Nat} {k k' : Blk} (hr : HR B ι h.get w) (hf : ∀ i, h.next ≤ i → ι i = none) (hg : h.get i = some k) (hro : k.isRo = false) (hro' : k'.isRo = false)
    (hi : ι i = some (b, base, lim)) (hk : BR B (ι.put h.next (b, base', lim')) b base' lim' w' k') (hsize : w.heap.size ≤ w'.heap.size) (hother : ∀ x, x ≠ b → x < w.heap.size → w'.heap[x]? = w.heap[x]?)
    (hos : w'.os = w.os) (hout : w'.output = w.output) (htape : w'.tape = w.tape) : Post B ι h w (ι.put h.next (b, base', lim')) ((h.kill i).new k') w' := by
  have hni : i ≠ h.next := by intro e; subst e; rw [hf _ (Nat.le_refl _)] at hi; cases hi
  have hget : ((h.kill i).new k').get = upd (upd h.get i none) h.next (some k') := by rw [Heap.get_new, Heap.get_kill]; rfl
  have hsub : Sub (upd h.get i none) h.get := by
    intro j kj hj
    by_cases e : j = i
    · simp [upd, e] at hj
    · simpa [upd, e] using hj
  have hr0 := hr.sub hsub
  have hle : Le ι (ι.put h.next (b, base', lim')) := Inj.put_le (hf _ (Nat.le_refl _))
  refine ⟨by simp [Heap.new, Heap.kill], fun j hj => Inj.put_ne (by omega), fun j hj hn => ?_, ?_, fun j hj => ?_, ?_⟩
  · rw [hget]
    have : j ≠ h.next := by omega
    simp [upd, this, hn]
  · rw [hget]
    refine hr0.set hle Inj.put_at hk hro' hsize hother fun j kj hj hgj hrj b' x y e => ?_
    have hji : j ≠ i := by intro q; subst q; simp [upd] at hgj
    exact hr.apart j i kj k (hsub _ _ hgj) hg hrj hro hji _ _ _ _ _ _ e hi
  · have : h.next + 1 ≤ j := by simpa [Heap.new, Heap.kill] using hj
    rw [Inj.put_ne (by omega)]; exact hf j (by omega)
  · rw [hget]
    have f1 := Fr.set (k' := k') hr0 hle (Inj.put_at (x := (b, base', lim'))) hsize hother hos hout htape
    refine ⟨hos, hout, htape, hsize, fun x hx hn => hother x (fun e => hn (e ▸ ⟨i, k, base, lim, hg, hro, hi⟩)) hx, fun x hx => ?_⟩
    obtain ⟨j, kj, x1, y1, h1, h2, h3⟩ := hx
    by_cases e : j = h.next
    · subst e
      rw [Inj.put_at] at h3; simp only [Option.some.injEq, Prod.mk.injEq] at h3
      obtain ⟨rfl, _, _⟩ := h3
      exact .inl ⟨i, k, base, lim, hg, hro, hi⟩
    · simp only [upd, e, if_false] at h1
      rw [Inj.put_ne e] at h3
      by_cases e' : j = i
      · simp [e'] at h1
      · simp [e'] at h1
        exact .inl ⟨j, kj, x1, y1, h1, h2, h3⟩
end

/-! ### Reading -/
theorem HR.read {B : Nat} {ι : Inj} {h : Heap} {w : World} {i o n : Nat} {l : List CV} (hr : HR B ι h.get w) (hl : h.read i o n = some l) :
    ∃ b base lim, ι i = some (b, base, lim) ∧ l.length = n ∧ ∀ (j : Nat) (x : CV), l[j]? = some x → ∃ v, w.cell? ⟨b, base + o + j, none⟩ = some v ∧ CR ι x v := by
  have key : ∀ (m l : List CV), cut m o n = some l → l.length = n ∧ ∀ (j : Nat) (x : CV), l[j]? = some x → m[o + j]? = some x := by
    intro m l hm
    unfold cut at hm
    cases hc : Nat.ble (o + n) m.length with
    | false => rw [hc] at hm; cases hm
    | true =>
      rw [hc] at hm
      have : o + n ≤ m.length := Nat.le_of_ble_eq_true hc
      simp only [cond_true, Option.some.injEq] at hm
      subst hm
      refine ⟨by simp; omega, fun j x hx => ?_⟩
      rw [List.getElem?_take] at hx
      split at hx
      · rwa [List.getElem?_drop] at hx
      · cases hx
  unfold Heap.read at hl
  split at hl
  · rename_i m hg
    obtain ⟨b, base, lim, h1, h2⟩ := hr.at_ _ _ hg
    obtain ⟨e1, e2⟩ := key _ _ hl
    obtain ⟨_, c, e, fz, hb, _, _, _, hc⟩ := h2
    refine ⟨b, base, lim, h1, e1, fun j x hx => ?_⟩
    obtain ⟨v, hv, hcr⟩ := hc _ _ (e2 j x hx)
    exact ⟨v, by simp [World.cell?, hb, Nat.add_assoc, hv], hcr⟩
  · rename_i m hg
    obtain ⟨b, base, lim, h1, h2⟩ := hr.at_ _ _ hg
    obtain ⟨e1, e2⟩ := key _ _ hl
    obtain ⟨_, c, e, fz, hb, hc⟩ := h2
    refine ⟨b, base, lim, h1, e1, fun j x hx => ?_⟩
    obtain ⟨v, hv, hcr⟩ := hc _ _ (e2 j x hx)
    exact ⟨v, by simp [World.cell?, hb, Nat.add_assoc, hv], hcr⟩
  · cases hl

theorem all2_choose {ι : Inj} : ∀ (l : List CV) (f : Nat → Option Value) (o : Nat), (∀ (j : Nat) (x : CV), l[j]? = some x → ∃ v, f (o + j) = some v ∧ CR ι x v) →
    ∃ vs : List Value, All2 (CR ι) l vs ∧ ∀ (j : Nat) (v : Value), vs[j]? = some v → f (o + j) = some v
  | [], _, _, _ => ⟨[], trivial, by simp⟩
  | x :: l, f, o, h => by
    obtain ⟨v, hv, hc⟩ := h 0 x rfl
    obtain ⟨vs, h1, h2⟩ := all2_choose l f (o + 1) (fun j y hy => by
      obtain ⟨u, hu, hcu⟩ := h (j + 1) y (by simpa using hy)
      exact ⟨u, by rw [show o + 1 + j = o + (j + 1) by omega]; exact hu, hcu⟩)
    refine ⟨v :: vs, ⟨hc, h1⟩, fun j u hu => ?_⟩
    cases j with
    | zero => simp at hu; subst hu; exact hv
    | succ j => have := h2 j u (by simpa using hu); rw [show o + 1 + j = o + (j + 1) by omega] at this; exact this

/-- The cells that a read takes, as the model's loads take them. -/
theorem HR.loads {B : Nat} {ι : Inj} {h : Heap} {w : World} {i o n : Nat} {l : List CV} (hr : HR B ι h.get w) (hl : h.read i o n = some l) :
    ∃ b base lim, ∃ vs : List Value, ι i = some (b, base, lim) ∧ All2 (CR ι) l vs ∧ vs.length = n ∧ l.length = n ∧ (∀ (j : Nat) (v : Value), vs[j]? = some v → w.cell? ⟨b, base + o + j, none⟩ = some v) ∧
      ∀ P : Program, (loadCells ⟨b, base + o, none⟩ n).run P w = .ok vs.toArray w := by
  obtain ⟨b, base, lim, h1, h2, h3⟩ := hr.read hl
  obtain ⟨vs, h4, h5⟩ := all2_choose l (fun j => w.cell? ⟨b, base + o + j, none⟩) 0 (fun j x hx => by simpa using h3 j x hx)
  have hlen : vs.length = n := by rw [← h4.length, h2]
  have hcell : ∀ (j : Nat) (v : Value), vs[j]? = some v → w.cell? ⟨b, base + o + j, none⟩ = some v := fun j v hv => by simpa using h5 j v hv
  refine ⟨b, base, lim, vs, h1, h4, hlen, h2, hcell, fun P => ?_⟩
  have := run_loadCells_list (P := P) (w := w) ⟨b, base + o, none⟩ vs (fun j v hv => by rw [Addr.add_lit]; exact hcell j v hv)
  rw [hlen] at this
  exact this

end Lav
