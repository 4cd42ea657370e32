/-
  From the evaluator's answer to the walk that a row asks for: arguments, and what is left behind the call.
-/
import Derived.Test.YtdilhnnbfkiacaaFwI
import Derived.Below
namespace Lav
open Go

/-- The evaluator says true. -/
def good (r : Option (AV × Heap)) : Bool :=
  match r with
  | some (.c (.bool b), _) => b
  | _ => false

theorem good_inv {r : Option (AV × Heap)} (h : good r = true) : ∃ h', r = some (.c (.bool true), h') := by
  unfold good at h
  split at h
  · rename_i b h'; subst h; exact ⟨h', rfl⟩
  · cases h

/-- What a call finds: blocks that it may read. -/
structure Init (w : World) (ι : Inj) (h : Heap) : Prop where
  rel : HR w.heap.size ι h.get w
  fresh : ∀ i, h.next ≤ i → ι i = none
  ro : ∀ i k, h.get i = some k → k.isRo = true

theorem Init.empty (w : World) : Init w (fun _ => none) Heap.empty :=
  ⟨⟨fun i k h => by simp [Heap.get, Heap.empty, Tr.get_nil] at h, fun i j ki kj h => by simp [Heap.get, Heap.empty, Tr.get_nil] at h, Nat.le_refl _⟩, fun _ _ => rfl, fun i k h => by simp [Heap.get, Heap.empty, Tr.get_nil] at h⟩

theorem walk_of {P : Program} {call : Nat → List AV → Heap → Option (AV × Heap)} (hc : CallOK P call) {w : World} {ι : Inj} {h : Heap} (I : Init w ι h) {f : Nat} {args : List AV} {vs : List Value} (ha : All2 (AR ι) args vs) (hg : good (call f args h) = true) :
    Calls P f vs.toArray w fun e w' => e = .returned (.bool true) ∧ RowKit.Below w.heap.size w w' := by
  obtain ⟨h', he⟩ := good_inv hg
  refine ((hc f args h _ _ he).2 w.heap.size ι w vs I.rel I.fresh ha).mono fun e w' ⟨v, hv, ι', hr, hp⟩ => ?_
  have hvb : v = .bool true := hr
  subst hvb
  refine ⟨hv, hp.fr.os, hp.fr.tape, hp.fr.output, hp.fr.size, fun k hk => hp.fr.keep k hk ?_⟩
  rintro ⟨i, b, x, y, h1, h2, _⟩
  rw [I.ro i b h1] at h2; cases h2

theorem Init.skip {w : World} {ι : Inj} {h : Heap} (I : Init w ι h) (p : Nat × Nat × Nat) : Init w (ι.put h.next p) (h.skip 1) ∧ Le ι (ι.put h.next p) := by
  have hle : Le ι (ι.put h.next p) := Inj.put_le (I.fresh _ (Nat.le_refl _))
  refine ⟨⟨⟨fun i k hi => ?_, fun i j ki kj hi hj hr => ?_, Nat.le_refl _⟩, fun i hi => ?_, I.ro⟩, hle⟩
  · obtain ⟨b, base, lim, h1, h2⟩ := I.rel.at_ i k hi
    exact ⟨b, base, lim, hle _ _ h1, h2.move hle rfl⟩
  · rw [I.ro i ki hi] at hr; cases hr
  · have : h.next + 1 ≤ i := hi
    rw [Inj.put_ne (by omega)]; exact I.fresh i (by omega)

theorem Init.block {w : World} {ι : Inj} {h : Heap} (I : Init w ι h) {b base lim : Nat} {l : List CV} (hk : ∀ ι', Le ι ι' → BR w.heap.size ι' b base lim w (.ro l)) :
    Init w (ι.put h.next (b, base, lim)) (h.new (.ro l)) ∧ Le ι (ι.put h.next (b, base, lim)) := by
  have hle : Le ι (ι.put h.next (b, base, lim)) := Inj.put_le (I.fresh _ (Nat.le_refl _))
  refine ⟨⟨⟨fun i k hi => ?_, fun i j ki kj hi hj hr => ?_, Nat.le_refl _⟩, fun i hi => ?_, fun i k hi => ?_⟩, hle⟩
  · rw [Heap.get_new] at hi
    by_cases e : i = h.next
    · subst e; simp [upd] at hi; subst hi
      exact ⟨b, base, lim, Inj.put_at, hk _ hle⟩
    · simp [upd, e] at hi
      obtain ⟨b', base', lim', h1, h2⟩ := I.rel.at_ i k hi
      exact ⟨b', base', lim', hle _ _ h1, h2.move hle rfl⟩
  · rw [Heap.get_new] at hi
    by_cases e : i = h.next
    · subst e; simp [upd] at hi; subst hi; cases hr
    · simp [upd, e] at hi; rw [I.ro i ki hi] at hr; cases hr
  · have : h.next + 1 ≤ i := by simpa [Heap.new] using hi
    rw [Inj.put_ne (by omega)]; exact I.fresh i (by omega)
  · rw [Heap.get_new] at hi
    by_cases e : i = h.next
    · subst e; simp [upd] at hi; subst hi; rfl
    · simp [upd, e] at hi; exact I.ro i k hi

/-- What the evaluator has of a slice of integers that came in. -/
def RowIs (k : IntKind) (h : Heap) (x : CV) (h' : Heap) (l : List Int) : Prop :=
  (∀ n ∈ l, (Lit.int k n).wf = true) ∧ l.length ≤ maxLen ∧
  ((x = .nils ∧ h' = h ∧ l = []) ∨ (x = .sl h.next 0 0 (.dy 1) ∧ h' = h.skip 1 ∧ l = []) ∨ (x = .sl h.next 0 l.length (.dy 1) ∧ h' = h.new (.ro (l.map (.int k)))))

theorem Init.slice {w : World} {ι : Inj} {h : Heap} (I : Init w ι h) {k : IntKind} {a : Option Addr} {len cap : Nat} {zs : List Int}
    (r : (a = none ∧ len = 0 ∧ cap = 0 ∧ zs = []) ∨ ∃ x, a = some x ∧ len ≤ cap ∧ cap ≤ maxLen ∧ zs.length = cap ∧ (∀ i, i < zs.length → w.cell? (x.add i) = some (.int k (zs.getD i 0))) ∧ ∀ n ∈ zs, (Lit.int k n).wf = true) :
    ∃ ι' h' x, Init w ι' h' ∧ Le ι ι' ∧ CR ι' x (.slice a len cap) ∧ RowIs k h x h' (zs.take len) := by
  rcases r with ⟨rfl, rfl, rfl, rfl⟩ | ⟨x, rfl, hl, hm, hz, hcell, hwf⟩
  · exact ⟨ι, h, .nils, I, Le.refl _, rfl, by simp, by simp, .inl ⟨rfl, rfl, rfl⟩⟩
  · have hw' : ∀ n ∈ zs.take len, (Lit.int k n).wf = true := fun n hn => hwf n (List.mem_of_mem_take hn)
    have hlen : (zs.take len).length = len := by rw [List.length_take]; omega
    by_cases h0 : cap = 0
    · have hl0 : len = 0 := by omega
      subst h0; subst hl0
      obtain ⟨I', hle⟩ := I.skip (x.block, x.off, 0)
      exact ⟨_, _, .sl h.next 0 0 (.dy 1), I', hle, ⟨x.block, x.off, 0, x, 0, Inj.put_at, rfl, Nat.le_refl _, fun e => absurd rfl e, by simp [CapOK]⟩, hw', by simp, .inr (.inl ⟨rfl, rfl, by simp⟩)⟩
    · have hc0 := hcell 0 (by omega)
      have hadd0 : x.add 0 = x := by simp [Addr.add]
      rw [hadd0] at hc0
      obtain ⟨c, e, fz, hb, hsp⟩ : ∃ c e fz, w.heap[x.block]? = some (.cells c e fz) ∧ x.spot = none := by
        unfold World.cell? at hc0
        split at hc0
        · rename_i c e fz hb
          refine ⟨c, e, fz, hb, ?_⟩
          cases hs : x.spot with
          | none => rfl
          | some q => rw [hs] at hc0; simp at hc0
        · cases hc0
      have hget : ∀ (j : Nat) (n : Int), zs[j]? = some n → c[x.off + j]? = some (.int k n) := by
        intro j n hj
        have hjl : j < zs.length := by
          rcases Nat.lt_or_ge j zs.length with h | h
          · exact h
          · rw [List.getElem?_eq_none h] at hj; cases hj
        have := hcell j hjl
        unfold World.cell? at this
        have e1 : (x.add j).block = x.block := by unfold Addr.add; split <;> rfl
        have e2 : (x.add j).off = x.off + j := by unfold Addr.add; split <;> simp_all
        have e3 : (x.add j).spot = none := by unfold Addr.add; split <;> simp_all
        rw [e1, hb] at this
        simp only [e2, e3, Option.isSome_none, Bool.false_eq_true, if_false] at this
        rw [this]; simp [List.getD_eq_getElem?_getD, hj]
      have hblt : x.block < w.heap.size := by
        rcases Nat.lt_or_ge x.block w.heap.size with h | h
        · exact h
        · rw [Array.getElem?_eq_none h] at hb; cases hb
      obtain ⟨I', hle⟩ := I.block (b := x.block) (base := x.off) (lim := cap) (l := (zs.take len).map (.int k)) fun ι' _ => ⟨hblt, c, e, fz, hb, fun j y hy => by
        rw [List.getElem?_map, List.getElem?_take] at hy
        split at hy
        · cases hj : zs[j]? with
          | none => rw [hj] at hy; cases hy
          | some n => rw [hj] at hy; simp only [Option.map_some, Option.some.injEq] at hy; subst hy; exact ⟨_, hget j n hj, rfl⟩
        · simp at hy⟩
      refine ⟨_, _, .sl h.next 0 len (.dy 1), I', hle, ⟨x.block, x.off, cap, x, cap, Inj.put_at, rfl, hl, fun _ => ?_, by simp [CapOK]⟩, hw', by rw [hlen]; omega, .inr (.inr ⟨by rw [hlen], rfl⟩)⟩
      cases x; simp_all

theorem All2.mono {ι ι' : Inj} (h : Le ι ι') {l : List AV} {m : List Value} (ha : All2 (AR ι) l m) : All2 (AR ι') l m := ha.imp fun _ _ x => x.mono h

/-! ### A table's rows -/
theorem TableOK.nil {P : Program} : TableOK P [] := fun f F h => by simp at h

theorem TableOK.cons {P : Program} {l : List (Nat × IRF)} {f : Nat} {F : IRF} {fn : Func} {slots : List Nat} {keeps : List (List Bool)} (hf : P.funcs[f]? = some fn) (hc : cFunc P slots keeps fn = some F) (h : TableOK P l) : TableOK P ((f, F) :: l) := by
  intro g G hg
  rw [List.lookup_cons] at hg
  split at hg
  · rename_i e
    simp only [Option.some.injEq] at hg; subst hg
    have e' : g = f := by simpa using e
    subst e'
    obtain ⟨c, rs, _, _, _, _, _, _, hF⟩ := cFunc_inv hc
    have : F.slots = slots := by rw [hF]
    exact ⟨fn, keeps, hf, by rw [this]; exact hc⟩
  · exact h g G hg

/-- All numbers below n. -/
def allLt (p : Nat → Bool) : Nat → Bool
  | 0 => true
  | n + 1 => p n && allLt p n

theorem allLt_spec {p : Nat → Bool} {n : Nat} (h : allLt p n = true) (k : Nat) (hk : k < n) : p k = true := by
  induction n with
  | zero => omega
  | succ n ih =>
    simp only [allLt, Bool.and_eq_true] at h
    by_cases e : k = n
    · subst e; exact h.1
    · exact ih h.2 (by omega)

/-- Of an int, as a uint, its remainder. -/
theorem res_of (a : Int) (m : Nat) (hm : 0 < m) : ∃ r, r < m ∧ ∀ ι : Inj, AR ι (.c (.res false m r)) (.int .i64 a) := by
  have h1 : 0 ≤ IntKind.u64.wrap a % (m : Int) := Int.emod_nonneg _ (by omega)
  have h2 : IntKind.u64.wrap a % (m : Int) < m := Int.emod_lt_of_pos _ (by omega)
  exact ⟨(IntKind.u64.wrap a % (m : Int)).toNat, by omega, fun ι => .inr ⟨a, rfl, by omega⟩⟩

theorem byte_of (a : Int) (h : (Lit.int .u8 a).wf = true) : ∃ r, r < 256 ∧ ∀ ι : Inj, AR ι (.c (.int .u8 (Int.ofNat r))) (.int .u8 a) := by
  have hb : 0 ≤ a ∧ a < 256 := by
    simp only [Lit.wf, IntKind.min, IntKind.max, IntKind.bits, IntKind.signed] at h
    simp at h
    omega
  refine ⟨a.toNat, by omega, fun ι => ?_⟩
  show Value.int .u8 a = Value.int .u8 (Int.ofNat a.toNat)
  congr 1
  show a = (a.toNat : Int)
  omega

/-- Numbers that are cut to a few. -/
theorem few {a : Int} {m : Nat} (hm : 0 < m) (hm' : m < 100000) : ∃ k : Nat, k < m ∧ IntKind.i64.wrap (Int.tmod (IntKind.u64.wrap a) m) = k := by
  have h0 : 0 ≤ IntKind.u64.wrap a := by simp only [IntKind.wrap, IntKind.bits, IntKind.signed]; simp; omega
  have h1 : 0 ≤ Int.tmod (IntKind.u64.wrap a) m := Int.tmod_nonneg _ h0
  have h2 : Int.tmod (IntKind.u64.wrap a) m < m := Int.tmod_lt_of_pos _ (by omega)
  refine ⟨(Int.tmod (IntKind.u64.wrap a) m).toNat, by omega, ?_⟩
  generalize Int.tmod (IntKind.u64.wrap a) m = x at *
  simp only [IntKind.wrap, IntKind.bits, IntKind.signed]
  simp
  omega
end Lav
