/-
  How abstract values and heaps stand for the model's values and worlds; that this is kept by what the evaluator does to a heap.
-/
import Derived.Test.YtdilhnnbfkiacaaFw2
import Derived.Calls
import Derived.Laws.Entries
import Derived.Laws.Tables
import Derived.Laws.IdiomCopy
import Derived.Laws.Cells
import Derived.Laws.StructEq
import Derived.Laws.BytesString
namespace Lav
open Go

/-! ### Lists side by side -/
def All2 {α β : Type} (R : α → β → Prop) : List α → List β → Prop
  | [], [] => True
  | a :: l, b :: m => R a b ∧ All2 R l m
  | _, _ => False

section
variable {α β γ : Type} {R S : α → β → Prop}

theorem All2.imp (h : ∀ a b, R a b → S a b) : ∀ {l : List α} {m : List β}, All2 R l m → All2 S l m
  | [], [], _ => trivial
  | _ :: _, _ :: _, ⟨h1, h2⟩ => ⟨h _ _ h1, All2.imp h h2⟩
  | [], _ :: _, h => h.elim
  | _ :: _, [], h => h.elim

theorem All2.length : ∀ {l : List α} {m : List β}, All2 R l m → l.length = m.length
  | [], [], _ => rfl
  | _ :: _, _ :: _, ⟨_, h2⟩ => by simp [All2.length h2]
  | [], _ :: _, h => h.elim
  | _ :: _, [], h => h.elim

theorem All2.get : ∀ {l : List α} {m : List β}, All2 R l m → ∀ (i : Nat) (a : α), l[i]? = some a → ∃ b, m[i]? = some b ∧ R a b
  | [], [], _, i, a, h => by simp at h
  | x :: l, y :: m, ⟨h1, h2⟩, 0, a, h => ⟨y, rfl, by simp at h; exact h ▸ h1⟩
  | x :: l, y :: m, ⟨h1, h2⟩, i + 1, a, h => by simpa using All2.get h2 i a (by simpa using h)
  | [], _ :: _, h, _, _, _ => h.elim
  | _ :: _, [], h, _, _, _ => h.elim

theorem All2.of_get : ∀ {l : List α} {m : List β}, l.length = m.length → (∀ (i : Nat) (a : α), l[i]? = some a → ∃ b, m[i]? = some b ∧ R a b) → All2 R l m
  | [], [], _, _ => trivial
  | x :: l, y :: m, hl, h => ⟨by obtain ⟨b, hb, hr⟩ := h 0 x rfl; simp at hb; exact hb ▸ hr,
      All2.of_get (by simpa using hl) (fun i a ha => by obtain ⟨b, hb, hr⟩ := h (i + 1) a (by simpa using ha); exact ⟨b, by simpa using hb, hr⟩)⟩
  | [], _ :: _, hl, _ => by simp at hl
  | _ :: _, [], hl, _ => by simp at hl

theorem All2.append : ∀ {l : List α} {m : List β} {l' : List α} {m' : List β}, All2 R l m → All2 R l' m' → All2 R (l ++ l') (m ++ m')
  | [], [], _, _, _, h => h
  | _ :: _, _ :: _, _, _, ⟨h1, h2⟩, h => ⟨h1, All2.append h2 h⟩
  | [], _ :: _, _, _, h, _ => h.elim
  | _ :: _, [], _, _, h, _ => h.elim

theorem All2.take : ∀ (n : Nat) {l : List α} {m : List β}, All2 R l m → All2 R (l.take n) (m.take n)
  | 0, _, _, _ => by simp [All2]
  | _ + 1, [], [], _ => by simp [All2]
  | n + 1, _ :: _, _ :: _, ⟨h1, h2⟩ => ⟨h1, All2.take n h2⟩
  | _ + 1, [], _ :: _, h => h.elim
  | _ + 1, _ :: _, [], h => h.elim

theorem All2.drop : ∀ (n : Nat) {l : List α} {m : List β}, All2 R l m → All2 R (l.drop n) (m.drop n)
  | 0, _, _, h => by simpa using h
  | _ + 1, [], [], _ => by simp [All2]
  | n + 1, _ :: _, _ :: _, ⟨_, h2⟩ => by simpa using All2.drop n h2
  | _ + 1, [], _ :: _, h => h.elim
  | _ + 1, _ :: _, [], h => h.elim
end

/-! ### Values -/
/-- Where an abstract block lies: the block, where it begins there, how many cells it may fill. -/
abbrev Inj := Nat → Option (Nat × Nat × Nat)

def CapOK (c : Cap) (o cap lim : Nat) : Prop :=
  match c with
  | .ex k => cap = k
  | .dy sz => o + cap * sz ≤ lim

def capVal (ι : Inj) (p : Nat × Nat) (v : Value) : Prop := ∃ b base lim, ι p.1 = some (b, base, lim) ∧ v = .pointer (some ⟨b, base + p.2, none⟩)

def CR (ι : Inj) : CV → Value → Prop
  | .bool b, v => v = .bool b
  | .int k n, v => v = .int k n
  | .res false m r, v => (m = 0 ∧ ∃ (k : IntKind) (n : Int), v = .int k n) ∨ ∃ n : Int, v = .int .i64 n ∧ IntKind.u64.wrap n % (m : Int) = (r : Int)
  | .res true m r, v => ∃ n : Int, v = .int .u64 n ∧ 0 ≤ n ∧ n % (m : Int) = (r : Int)
  | .str l, v => ∃ s : ByteArray, v = .string s ∧ s.data.toList.map UInt8.toNat = l
  | .nilp, v => v = .pointer none
  | .ptr i o, v => ∃ b base lim, ι i = some (b, base, lim) ∧ v = .pointer (some ⟨b, base + o, none⟩)
  | .nils, v => v = .slice none 0 0
  | .sl i o len c, v => ∃ b base lim a cap, ι i = some (b, base, lim) ∧ v = .slice (some a) len cap ∧ len ≤ cap ∧ (cap ≠ 0 → a = ⟨b, base + o, none⟩) ∧ CapOK c o cap lim
  | .nilch, v => v = .chan none
  | .ch i, v => ∃ b base lim, ι i = some (b, base, lim) ∧ v = .chan (some b)
  | .nilf, v => v = .nilFunc
  | .fn f caps, v => ∃ vs : Array Value, v = .func (.func f) #[] vs ∧ All2 (capVal ι) caps vs.toList

def XR (ι : Inj) : XV → Value → Prop
  | .c x, v => CR ι x v
  | .agg l, v => ∃ cs : Array Value, v = .agg cs ∧ All2 (CR ι) l cs.toList

def AR (ι : Inj) : AV → Value → Prop
  | .c x, v => CR ι x v
  | .agg l, v => ∃ cs : Array Value, v = .agg cs ∧ All2 (CR ι) l cs.toList
  | .tup l, v => ∃ vs : Array Value, v = .tuple vs ∧ All2 (XR ι) l vs.toList
  | .junk, _ => True

def Le (ι ι' : Inj) : Prop := ∀ i x, ι i = some x → ι' i = some x

theorem Le.refl (ι : Inj) : Le ι ι := fun _ _ h => h
theorem Le.trans {a b c : Inj} (h : Le a b) (k : Le b c) : Le a c := fun i x hx => k i x (h i x hx)

theorem capVal.mono {ι ι' : Inj} (h : Le ι ι') {p : Nat × Nat} {v : Value} (hc : capVal ι p v) : capVal ι' p v :=
  let ⟨b, base, lim, h1, h2⟩ := hc; ⟨b, base, lim, h _ _ h1, h2⟩

theorem CR.mono {ι ι' : Inj} (h : Le ι ι') {x : CV} {v : Value} (hc : CR ι x v) : CR ι' x v := by
  cases x with
  | ptr i o => obtain ⟨b, base, lim, h1, h2⟩ := hc; exact ⟨b, base, lim, h _ _ h1, h2⟩
  | sl i o len c => obtain ⟨b, base, lim, a, cap, h1, h2⟩ := hc; exact ⟨b, base, lim, a, cap, h _ _ h1, h2⟩
  | ch i => obtain ⟨b, base, lim, h1, h2⟩ := hc; exact ⟨b, base, lim, h _ _ h1, h2⟩
  | fn f caps => obtain ⟨vs, h1, h2⟩ := hc; exact ⟨vs, h1, h2.imp fun _ _ h' => h'.mono h⟩
  | res u m r => cases u <;> exact hc
  | _ => exact hc

theorem XR.mono {ι ι' : Inj} (h : Le ι ι') {x : XV} {v : Value} (hc : XR ι x v) : XR ι' x v := by
  cases x with
  | c x => exact CR.mono h (x := x) hc
  | agg l => obtain ⟨cs, h1, h2⟩ := hc; exact ⟨cs, h1, h2.imp fun _ _ h' => h'.mono h⟩

theorem AR.mono {ι ι' : Inj} (h : Le ι ι') {x : AV} {v : Value} (hc : AR ι x v) : AR ι' x v := by
  cases x with
  | c x => exact CR.mono h (x := x) hc
  | agg l => obtain ⟨cs, h1, h2⟩ := hc; exact ⟨cs, h1, h2.imp fun _ _ h' => h'.mono h⟩
  | tup l => obtain ⟨cs, h1, h2⟩ := hc; exact ⟨cs, h1, h2.imp fun _ _ h' => h'.mono h⟩
  | junk => trivial

theorem AR.of_xv {ι : Inj} {x : XV} {v : Value} : AR ι x.av v ↔ XR ι x v := by cases x <;> exact Iff.rfl
theorem XR.of_av {ι : Inj} {a : AV} {x : XV} {v : Value} (h : a.xv = some x) (hr : AR ι a v) : XR ι x v := by
  cases a <;> simp [AV.xv] at h <;> subst h <;> exact hr

/-- One cell's value is one cell. -/
theorem CR.cells {ι : Inj} {x : CV} {v : Value} (h : CR ι x v) : v.cells = #[v] := by
  cases x with
  | ptr i o => obtain ⟨b, base, lim, h1, rfl⟩ := h; rfl
  | sl i o len c => obtain ⟨b, base, lim, a, cap, h1, rfl, _⟩ := h; rfl
  | ch i => obtain ⟨b, base, lim, h1, rfl⟩ := h; rfl
  | fn f caps => obtain ⟨vs, rfl, _⟩ := h; rfl
  | str l => obtain ⟨s, rfl, _⟩ := h; rfl
  | res u m r => cases u with
    | false => rcases h with ⟨_, k, n, rfl⟩ | ⟨n, rfl, _⟩ <;> rfl
    | true => obtain ⟨n, rfl, _⟩ := h; rfl
  | _ => simp only [CR] at h; subst h; rfl

theorem CR.one {ι : Inj} {x : CV} {v : Value} (h : CR ι x v) : v.oneCell' = true := by
  cases x with
  | ptr i o => obtain ⟨b, base, lim, h1, rfl⟩ := h; rfl
  | sl i o len c => obtain ⟨b, base, lim, a, cap, h1, rfl, _⟩ := h; rfl
  | ch i => obtain ⟨b, base, lim, h1, rfl⟩ := h; rfl
  | fn f caps => obtain ⟨vs, rfl, _⟩ := h; rfl
  | str l => obtain ⟨s, rfl, _⟩ := h; rfl
  | res u m r => cases u with
    | false => rcases h with ⟨_, k, n, rfl⟩ | ⟨n, rfl, _⟩ <;> rfl
    | true => obtain ⟨n, rfl, _⟩ := h; rfl
  | _ => simp only [CR] at h; subst h; rfl

theorem AR.cells {ι : Inj} {a : AV} {v : Value} {l : List CV} (h : AR ι a v) (hl : a.cells = some l) : All2 (CR ι) l v.cells.toList := by
  cases a with
  | c x => simp [AV.cells] at hl; subst hl; rw [CR.cells h]; exact ⟨h, trivial⟩
  | agg m => simp [AV.cells] at hl; subst hl; obtain ⟨cs, rfl, h2⟩ := h; exact h2
  | tup m => simp [AV.cells] at hl
  | junk => simp [AV.cells] at hl

theorem All2.ones {ι : Inj} : ∀ {l : List CV} {m : List Value}, All2 (CR ι) l m → ∀ v ∈ m, v.oneCell' = true
  | [], [], _, v, hv => by simp at hv
  | _ :: _, y :: m, ⟨h1, h2⟩, v, hv => by
    rcases List.mem_cons.1 hv with rfl | hv
    · exact h1.one
    · exact All2.ones h2 v hv
  | [], _ :: _, h, _, _ => h.elim
  | _ :: _, [], h, _, _ => h.elim

/-! ### The tree -/
theorem Tr.get_nil {α : Type} (n : Nat) : (Tr.nil : Tr α).get n = none := by cases n <;> rfl

theorem Tr.get_setF {α : Type} (x : Option α) : ∀ (f : Nat) (t : Tr α) (n m : Nat), n < f → (Tr.setF x f t n).get m = if m = n then x else t.get m := by
  intro f
  induction f with
  | zero => intro t n m h; omega
  | succ f ih =>
    intro t n m h
    have hl : ∀ k, t.left.get k = t.get (2 * k + 1) := by
      intro k; cases t with
      | nil => simp [Tr.left, Tr.get_nil]
      | node l v r => show l.get k = Tr.get (.node l v r) (2 * k + 1); simp [Tr.get]
    have hr : ∀ k, t.right.get k = t.get (2 * k + 2) := by
      intro k; cases t with
      | nil => simp [Tr.right, Tr.get_nil]
      | node l v r =>
        have e1 : (2 * k + 1) % 2 = 0 + 1 := by omega
        have e2 : (2 * k + 1) / 2 = k := by omega
        show r.get k = Tr.get (.node l v r) (2 * k + 1 + 1)
        simp only [Tr.get, e1, e2]
    have hv : t.val = t.get 0 := by cases t <;> rfl
    have split : ∀ (a b : Tr α) (y : Option α), (Tr.node a y b).get m = match m with | 0 => y | k + 1 => if k % 2 = 0 then a.get (k / 2) else b.get (k / 2) := by
      intro a b y
      cases m with
      | zero => rfl
      | succ k =>
        simp only [Tr.get]
        rcases Nat.mod_two_eq_zero_or_one k with e | e <;> simp [e]
    have tsplit : t.get m = match m with | 0 => t.val | k + 1 => if k % 2 = 0 then t.left.get (k / 2) else t.right.get (k / 2) := by
      cases m with
      | zero => exact hv.symm
      | succ k =>
        simp only
        rcases Nat.mod_two_eq_zero_or_one k with e | e
        · rw [if_pos e, hl]; congr 1; omega
        · rw [if_neg (by omega), hr]; congr 1; omega
    cases n with
    | zero =>
      rw [Tr.setF, split, tsplit]
      cases m with
      | zero => simp
      | succ k => simp
    | succ n =>
      rcases Nat.mod_two_eq_zero_or_one n with e | e
      · have : Tr.setF x (f + 1) t (n + 1) = .node (Tr.setF x f t.left (n / 2)) t.val t.right := by simp [Tr.setF, e]
        rw [this, split, tsplit]
        cases m with
        | zero => simp
        | succ k =>
          simp only [Nat.add_right_cancel_iff]
          rcases Nat.mod_two_eq_zero_or_one k with e' | e'
          · rw [if_pos e', if_pos e', ih _ _ _ (by omega)]
            by_cases hk : k = n
            · subst hk; simp
            · rw [if_neg hk, if_neg (by omega)]
          · have ne : ¬ k % 2 = 0 := by omega
            have nk : k ≠ n := by intro hk; subst hk; omega
            simp only [ne, if_false, nk]
      · have : Tr.setF x (f + 1) t (n + 1) = .node t.left t.val (Tr.setF x f t.right (n / 2)) := by simp [Tr.setF, e]
        rw [this, split, tsplit]
        cases m with
        | zero => simp
        | succ k =>
          simp only [Nat.add_right_cancel_iff]
          rcases Nat.mod_two_eq_zero_or_one k with e' | e'
          · have nk : k ≠ n := by intro hk; subst hk; omega
            simp only [e', if_true, nk, if_false]
          · have ne : ¬ k % 2 = 0 := by omega
            simp only [ne, if_false]
            rw [ih _ _ _ (by omega)]
            by_cases hk : k = n
            · subst hk; simp
            · rw [if_neg hk, if_neg (by omega)]

theorem Tr.get_set {α : Type} (t : Tr α) (n m : Nat) (x : Option α) : (t.set n x).get m = if m = n then x else t.get m :=
  Tr.get_setF x (n + 1) t n m (Nat.lt_succ_self n)

def upd (g : Nat → Option Blk) (i : Nat) (x : Option Blk) : Nat → Option Blk := fun j => if j = i then x else g j

theorem Heap.get_put (h : Heap) (i : Nat) (b : Blk) : (h.put i b).get = upd h.get i (some b) := by
  funext j; simp [Heap.get, Heap.put, Tr.get_set, upd]
theorem Heap.get_kill (h : Heap) (i : Nat) : (h.kill i).get = upd h.get i none := by
  funext j; simp [Heap.get, Heap.kill, Tr.get_set, upd]
theorem Heap.get_new (h : Heap) (b : Blk) : (h.new b).get = upd h.get h.next (some b) := by
  funext j; simp [Heap.get, Heap.new, Tr.get_set, upd]
theorem Heap.get_skip (h : Heap) (n : Nat) : (h.skip n).get = h.get := rfl

end Lav
