/-
  A region that draws its order: what the evaluator's run of it says, operation by operation.
-/
import Derived.Test.YtdilhnnbfkiacaaFwC
namespace Lav
open Go

/-! ### What an operation answers hangs on its operands alone -/
section
variable {loc vals loc' vals' : List AV} {h : Heap}

theorem bound_cong {x : Option X} {d : Nat} (hx : ∀ y ∈ x.toList, y.eval loc vals = y.eval loc' vals') : bound loc vals x d = bound loc' vals' x d := by
  cases x with
  | none => rfl
  | some y => simp only [bound, hx y (by simp)]

theorem evalParts_cong : ∀ {ps : List (Nat × Nat × X)}, (∀ y ∈ ps.map (fun p => p.2.2), y.eval loc vals = y.eval loc' vals') → evalParts loc vals ps = evalParts loc' vals' ps
  | [], _ => rfl
  | (o, n, x) :: r, hx => by
    simp only [evalParts, hx x (by simp), evalParts_cong (ps := r) (fun y hy => hx y (by simp at hy ⊢; exact .inr hy))]

theorem evalCaps_cong : ∀ {xs : List X}, (∀ y ∈ xs, y.eval loc vals = y.eval loc' vals') → evalCaps loc vals xs = evalCaps loc' vals' xs
  | [], _ => rfl
  | x :: r, hx => by
    simp only [evalCaps, hx x (by simp), evalCaps_cong (xs := r) (fun y hy => hx y (by simp [hy]))]

theorem foldInt_cong (f : Int → Int → Int) : ∀ {xs : List X} (a : AV), (∀ y ∈ xs, y.eval loc vals = y.eval loc' vals') → foldInt loc vals f a xs = foldInt loc' vals' f a xs
  | [], a, _ => by cases a <;> rfl
  | x :: r, a, hx => by
    cases a with
    | c v =>
      cases v with
      | int k n =>
        simp only [foldInt, hx x (by simp)]
        split
        · rename_i k' b hb
          rw [foldInt_cong f (xs := r) _ (fun y hy => hx y (by simp [hy]))]
        · rfl
      | _ => rfl
    | _ => rfl

theorem evArgs_cong {xs : List X} (hx : ∀ y ∈ xs, y.eval loc vals = y.eval loc' vals') : evArgs loc vals xs = evArgs loc' vals' xs := List.map_congr_left hx

theorem evPure_cong {op : IOp} (hx : ∀ y ∈ op.xs, y.eval loc vals = y.eval loc' vals') : evPure loc vals h op = evPure loc' vals' h op := by
  cases op with
  | slice sz x lo hi m =>
    have e1 := hx x (by simp [IOp.xs])
    have e2 := bound_cong (x := lo) (d := 0) (loc := loc) (vals := vals) (loc' := loc') (vals' := vals') (fun y hy => hx y (by simp only [IOp.xs, List.mem_cons, List.mem_append]; exact .inr (.inl (.inl hy))))
    have e3 : ∀ d, bound loc vals hi d = bound loc' vals' hi d := fun d => bound_cong (fun y hy => hx y (by simp only [IOp.xs, List.mem_cons, List.mem_append]; exact .inr (.inl (.inr hy))))
    cases m with
    | none =>
      simp only [evPure, e1, e2, e3]
      cases X.eval loc' vals' x with
      | c q => cases q <;> first | rfl | (rename_i c; cases c <;> rfl)
      | _ => rfl
    | some z =>
      have e4 := hx z (by simp [IOp.xs])
      have e5 := bound_cong (x := some z) (d := 0) (loc := loc) (vals := vals) (loc' := loc') (vals' := vals') (fun y hy => by simp at hy; subst hy; exact e4)
      simp only [evPure, e1, e2, e3, e5]
      cases X.eval loc' vals' x with
      | c q => cases q <;> first | rfl | (rename_i c; cases c <;> simp only [e4])
      | _ => rfl
  | sstr x lo hi =>
    have e1 := hx x (by simp [IOp.xs])
    have e2 := bound_cong (x := lo) (d := 0) (loc := loc) (vals := vals) (loc' := loc') (vals' := vals') (fun y hy => hx y (by simp only [IOp.xs, List.mem_cons, List.mem_append]; exact .inr (.inl hy)))
    have e3 : ∀ d, bound loc vals hi d = bound loc' vals' hi d := fun d => bound_cong (fun y hy => hx y (by simp only [IOp.xs, List.mem_cons, List.mem_append]; exact .inr (.inr hy)))
    simp only [evPure, e1, e2, e3]
  | sarr n sz x lo hi =>
    have e1 := hx x (by simp [IOp.xs])
    have e2 := bound_cong (x := lo) (d := 0) (loc := loc) (vals := vals) (loc' := loc') (vals' := vals') (fun y hy => hx y (by simp only [IOp.xs, List.mem_cons, List.mem_append]; exact .inr (.inl hy)))
    have e3 : ∀ d, bound loc vals hi d = bound loc' vals' hi d := fun d => bound_cong (fun y hy => hx y (by simp only [IOp.xs, List.mem_cons, List.mem_append]; exact .inr (.inr hy)))
    simp only [evPure, e1, e2, e3]
  | build z ps => simp only [evPure, evalParts_cong (ps := ps) hx]
  | mkfn f l => simp only [evPure, evalCaps_cong (xs := l) hx]
  | mx l =>
    cases l with
    | nil => rfl
    | cons x r =>
      simp only [evPure, hx x (by simp [IOp.xs])]
      split
      · rw [foldInt_cong _ (xs := r) _ (fun y hy => hx y (by simp [IOp.xs, hy]))]
      · rfl
  | mn l =>
    cases l with
    | nil => rfl
    | cons x r =>
      simp only [evPure, hx x (by simp [IOp.xs])]
      split
      · rw [foldInt_cong _ (xs := r) _ (fun y hy => hx y (by simp [IOp.xs, hy]))]
      · rfl
  | pick c a b => simp only [evPure, hx c (by simp [IOp.xs]), hx a (by simp [IOp.xs]), hx b (by simp [IOp.xs])]
  | bin o x y => simp only [evPure, hx x (by simp [IOp.xs]), hx y (by simp [IOp.xs])]
  | eq k n x y => simp only [evPure, hx x (by simp [IOp.xs]), hx y (by simp [IOp.xs])]
  | iaddr s x y => simp only [evPure, hx x (by simp [IOp.xs]), hx y (by simp [IOp.xs])]
  | iaddrA s n x y => simp only [evPure, hx x (by simp [IOp.xs]), hx y (by simp [IOp.xs])]
  | idxA s n g x y => simp only [evPure, hx x (by simp [IOp.xs]), hx y (by simp [IOp.xs])]
  | idxS x y => simp only [evPure, hx x (by simp [IOp.xs]), hx y (by simp [IOp.xs])]
  | mov x => simp only [evPure, hx x (by simp [IOp.xs])]
  | load n g x => simp only [evPure, hx x (by simp [IOp.xs])]
  | un o x => simp only [evPure, hx x (by simp [IOp.xs])]
  | conv k x => simp only [evPure, hx x (by simp [IOp.xs])]
  | b2s x => simp only [evPure, hx x (by simp [IOp.xs])]
  | faddr o x => simp only [evPure, hx x (by simp [IOp.xs])]
  | field o n g x => simp only [evPure, hx x (by simp [IOp.xs])]
  | ext i x => simp only [evPure, hx x (by simp [IOp.xs])]
  | nilchk x => simp only [evPure, hx x (by simp [IOp.xs])]
  | len k x => simp only [evPure, hx x (by simp [IOp.xs])]
  | _ => rfl

theorem evNew_cong {op : IOp} (hx : ∀ y ∈ op.xs, y.eval loc vals = y.eval loc' vals') : evNew loc vals op = evNew loc' vals' op := by
  cases op with
  | box x => simp only [evNew, hx x (by simp [IOp.xs])]
  | s2b x => simp only [evNew, hx x (by simp [IOp.xs])]
  | mks s z x y => simp only [evNew, hx x (by simp [IOp.xs]), hx y (by simp [IOp.xs])]
  | bsl n z ps => simp only [evNew, evalParts_cong (ps := ps) hx]
  | mkch b x => simp only [evNew, hx x (by simp [IOp.xs])]
  | _ => rfl

theorem evEff_cong {call : Nat → List AV → Heap → Option (AV × Heap)} {op : IOp} (hx : ∀ y ∈ op.xs, y.eval loc vals = y.eval loc' vals') : evEff loc vals call h op = evEff loc' vals' call h op := by
  cases op with
  | store n x y => simp only [evEff, hx x (by simp [IOp.xs]), hx y (by simp [IOp.xs])]
  | app s b x y => simp only [evEff, hx x (by simp [IOp.xs]), hx y (by simp [IOp.xs])]
  | copy s x y => simp only [evEff, hx x (by simp [IOp.xs]), hx y (by simp [IOp.xs])]
  | call f l => simp only [evEff, evArgs_cong (xs := l) hx]
  | callv f l => simp only [evEff, hx f (by simp [IOp.xs]), evArgs_cong (xs := l) (fun y hy => hx y (by simp [IOp.xs, hy]))]
  | recvd x z => simp only [evEff, evComm, hx x (by simp [IOp.xs])]
  | sendd x y => simp only [evEff, evComm, hx x (by simp [IOp.xs]), hx y (by simp [IOp.xs])]
  | send x y => simp only [evEff, evComm, hx x (by simp [IOp.xs]), hx y (by simp [IOp.xs])]
  | mark x => simp only [evEff, hx x (by simp [IOp.xs])]
  | _ => rfl

/-- An operation that reads nothing answers the same over every heap. -/
theorem evPure_heap {op : IOp} {h' : Heap} (hr : op.reads = false) : evPure loc vals h op = evPure loc vals h' op := by
  cases op <;> first | (simp [IOp.reads] at hr; done) | rfl
end

/-! ### The run -/
/-- The values of the operations from number j on, m of them, the last one first. -/
def vseg (V : Nat → AV) (j : Nat) : Nat → List AV
  | 0 => []
  | m + 1 => V (j + m) :: vseg V j m

theorem vseg_length (V : Nat → AV) (j : Nat) : ∀ m, (vseg V j m).length = m
  | 0 => rfl
  | m + 1 => by simp [vseg, vseg_length V j m]

theorem vseg_front (V : Nat → AV) (j : Nat) : ∀ m, vseg V j (m + 1) = vseg V (j + 1) m ++ [V j]
  | 0 => rfl
  | m + 1 => by
    rw [vseg, vseg_front V j m]
    simp only [vseg, List.cons_append]
    congr 2
    omega

theorem vseg_cong {V V' : Nat → AV} {j : Nat} : ∀ {m : Nat}, (∀ x, j ≤ x → x < j + m → V x = V' x) → vseg V j m = vseg V' j m
  | 0, _ => rfl
  | m + 1, h => by
    rw [vseg, vseg, h (j + m) (by omega) (by omega), vseg_cong (fun x h1 h2 => h x h1 (by omega))]

theorem vseg_get (V : Nat → AV) (m d : Nat) (h : d < m) : (vseg V 0 m).getD d .junk = V (m - 1 - d) := by
  induction m generalizing d with
  | zero => omega
  | succ m ih =>
    cases d with
    | zero => simp [vseg]
    | succ d =>
      have := ih d (by omega)
      simp only [vseg, List.getD_cons_succ, this]
      congr 1; omega

def newsOf : List Inst → Nat
  | [] => 0
  | i :: r => (match i.op.kd with | .new => 1 | _ => 0) + newsOf r

section
variable (call : Nat → List AV → Heap → Option (AV × Heap)) (loc : List AV) (base : Nat)

/-- What the run says of the operation number x. -/
structure DStep (i : Inst) (x rank : Nat) (vals : List AV) (V : Nat → AV) (G : Nat → Bool) (C : Nat → Heap) (W : Nat → Option (Nat × Blk)) : Prop where
  guard : evGuard loc vals i.guard = some (G x)
  not : G x = false → V x = .tup [] ∧ W x = none ∧ C (x + 1) = C x
  pure : G x = true → i.op.kd = .pure → evPure loc vals (C x) i.op = some (V x) ∧ W x = none ∧ C (x + 1) = C x
  new : G x = true → i.op.kd = .new → ∃ f b, evNew loc vals i.op = some (f, b) ∧ V x = f (base + rank) ∧ W x = some (base + rank, b) ∧ C (x + 1) = (C x).put (base + rank) b
  eff : G x = true → i.op.kd = .eff → evEff loc vals call (C x) i.op = some (V x, C (x + 1)) ∧ W x = none

theorem lookup_ne {α : Type} {a k : Nat} {b : α} {l : List (Nat × α)} (h : a ≠ k) : List.lookup a ((k, b) :: l) = List.lookup a l := by
  have : (a == k) = false := by simpa using h
  simp [List.lookup, this]
theorem lookup_eq {α : Type} {a : Nat} {b : α} {l : List (Nat × α)} : List.lookup a ((a, b) :: l) = some b := by simp [List.lookup]

theorem drun_of : ∀ (is : List Inst) (j k : Nat) (s S : DS), evRunD call loc base is j k s = some S →
    ∃ (V : Nat → AV) (G : Nat → Bool) (C : Nat → Heap) (W : Nat → Option (Nat × Blk)),
      C j = s.cur ∧ C (j + is.length) = S.cur ∧ S.vals = vseg V j is.length ++ s.vals ∧
      (∀ e, e < j → S.ks.lookup e = s.ks.lookup e) ∧ (∀ e, e < j → S.news.lookup e = s.news.lookup e) ∧
      ∀ (m : Nat) (i : Inst), is[m]? = some i → DStep call loc base i (j + m) (k + newsOf (is.take m)) (vseg V j m ++ s.vals) V G C W ∧
        (i.op.kd = .eff → S.ks.lookup (j + m) = some (C (j + m + 1))) ∧ (∀ p, W (j + m) = some p → S.news.lookup (j + m) = some p) ∧ (W (j + m) = none → S.news.lookup (j + m) = s.news.lookup (j + m)) := by
  intro is
  induction is with
  | nil =>
    intro j k s S h
    simp [evRunD] at h; subst h
    exact ⟨fun _ => .junk, fun _ => false, fun _ => s.cur, fun _ => none, rfl, rfl, rfl, fun _ _ => rfl, fun _ _ => rfl, fun m i hi => by simp at hi⟩
  | cons i is ih =>
    intro j k s S h
    have main : ∀ (k' : Nat) (g : Bool) (v : AV) (cur' : Heap) (ks' : List (Nat × Heap)) (news' : List (Nat × Nat × Blk)) (w : Option (Nat × Blk)),
        evRunD call loc base is (j + 1) k' ⟨v :: s.vals, cur', ks', news'⟩ = some S → evGuard loc s.vals i.guard = some g → k' = k + (match i.op.kd with | .new => 1 | _ => 0) →
        (∀ e, e < j → ks'.lookup e = s.ks.lookup e) → (∀ e, e ≠ j → news'.lookup e = s.news.lookup e) → (w = none → news'.lookup j = s.news.lookup j) → (i.op.kd = .eff → ks'.lookup j = some cur') → (∀ p, w = some p → news'.lookup j = some p) →
        (g = false → v = .tup [] ∧ w = none ∧ cur' = s.cur) →
        (g = true → i.op.kd = .pure → evPure loc s.vals s.cur i.op = some v ∧ w = none ∧ cur' = s.cur) →
        (g = true → i.op.kd = .new → ∃ f b, evNew loc s.vals i.op = some (f, b) ∧ v = f (base + k) ∧ w = some (base + k, b) ∧ cur' = s.cur.put (base + k) b) →
        (g = true → i.op.kd = .eff → evEff loc s.vals call s.cur i.op = some (v, cur') ∧ w = none) →
        ∃ (V : Nat → AV) (G : Nat → Bool) (C : Nat → Heap) (W : Nat → Option (Nat × Blk)),
          C j = s.cur ∧ C (j + (i :: is).length) = S.cur ∧ S.vals = vseg V j (i :: is).length ++ s.vals ∧
          (∀ e, e < j → S.ks.lookup e = s.ks.lookup e) ∧ (∀ e, e < j → S.news.lookup e = s.news.lookup e) ∧
          ∀ (m : Nat) (i' : Inst), (i :: is)[m]? = some i' → DStep call loc base i' (j + m) (k + newsOf ((i :: is).take m)) (vseg V j m ++ s.vals) V G C W ∧
            (i'.op.kd = .eff → S.ks.lookup (j + m) = some (C (j + m + 1))) ∧ (∀ p, W (j + m) = some p → S.news.lookup (j + m) = some p) ∧ (W (j + m) = none → S.news.lookup (j + m) = s.news.lookup (j + m)) := by
      intro k' g v cur' ks' news' w hrun hg hk' hks hnews hnone hksj hnewsj hn hp hnw hef
      obtain ⟨V, G, C, W, c1, c2, c3, c4, c5, c6⟩ := ih (j + 1) k' ⟨v :: s.vals, cur', ks', news'⟩ S hrun
      let V' : Nat → AV := fun x => if x = j then v else V x
      let G' : Nat → Bool := fun x => if x = j then g else G x
      let C' : Nat → Heap := fun x => if x = j then s.cur else C x
      let W' : Nat → Option (Nat × Blk) := fun x => if x = j then w else W x
      have Vj : V' j = v := by simp [V']
      have Gj : G' j = g := by simp [G']
      have Cj : C' j = s.cur := by simp [C']
      have Wj : W' j = w := by simp [W']
      have Vn : ∀ x, x ≠ j → V' x = V x := fun x hx => by simp [V', hx]
      have Gn : ∀ x, x ≠ j → G' x = G x := fun x hx => by simp [G', hx]
      have Cn : ∀ x, x ≠ j → C' x = C x := fun x hx => by simp [C', hx]
      have Wn : ∀ x, x ≠ j → W' x = W x := fun x hx => by simp [W', hx]
      have Cj1 : C' (j + 1) = cur' := by rw [Cn _ (by omega), c1]
      have seg : ∀ m, vseg V' (j + 1) m = vseg V (j + 1) m := fun m => vseg_cong (fun x h1 _ => Vn x (by omega))
      refine ⟨V', G', C', W', Cj, ?_, ?_, ?_, ?_, ?_⟩
      · rw [Cn _ (by simp), List.length_cons, show j + (is.length + 1) = j + 1 + is.length by omega, c2]
      · rw [c3, List.length_cons, vseg_front, seg, Vj]; simp
      · intro e he; rw [c4 e (by omega)]; exact hks e he
      · intro e he; rw [c5 e (by omega)]; exact hnews e (by omega)
      · intro m i' hi'
        cases m with
        | zero =>
          simp at hi'; subst hi'
          refine ⟨⟨?_, ?_, ?_, ?_, ?_⟩, ?_, ?_, ?_⟩
          · simp only [vseg, Nat.add_zero, List.nil_append]; rw [Gj]; exact hg
          · simp only [Nat.add_zero]; rw [Gj, Vj, Wj, Cj, Cj1]; exact hn
          · simp only [vseg, Nat.add_zero, List.nil_append]; rw [Gj, Vj, Wj, Cj, Cj1]; exact hp
          · simp only [vseg, Nat.add_zero, List.nil_append, List.take_zero, newsOf]; rw [Gj, Vj, Wj, Cj, Cj1]; exact hnw
          · simp only [vseg, Nat.add_zero, List.nil_append]; rw [Gj, Vj, Wj, Cj, Cj1]; exact hef
          · intro hk; rw [Nat.add_zero, Cj1, c4 j (by omega)]; exact hksj hk
          · intro p hp'; rw [Nat.add_zero] at hp' ⊢; rw [Wj] at hp'; rw [c5 j (by omega)]; exact hnewsj p hp'
          · intro hp'; rw [Nat.add_zero] at hp' ⊢; rw [Wj] at hp'; rw [c5 j (by omega)]; exact hnone hp'
        | succ m =>
          obtain ⟨d1, d2, d3, d4⟩ := c6 m i' (by simpa using hi')
          have ex : j + (m + 1) = j + 1 + m := by omega
          have nj : j + 1 + m ≠ j := by omega
          have nj1 : j + 1 + m + 1 ≠ j := by omega
          have ek : k + newsOf ((i :: is).take (m + 1)) = k' + newsOf (is.take m) := by
            simp only [List.take_succ_cons, newsOf]; omega
          have ev : vseg V' j (m + 1) ++ s.vals = vseg V (j + 1) m ++ v :: s.vals := by rw [vseg_front, seg, Vj]; simp
          rw [ex, ek, ev]
          refine ⟨⟨?_, ?_, ?_, ?_, ?_⟩, ?_, ?_, ?_⟩
          · rw [Gn _ nj]; exact d1.guard
          · rw [Gn _ nj, Vn _ nj, Wn _ nj, Cn _ nj, Cn _ nj1]; exact d1.not
          · rw [Gn _ nj, Vn _ nj, Wn _ nj, Cn _ nj, Cn _ nj1]; exact d1.pure
          · rw [Gn _ nj, Vn _ nj, Wn _ nj, Cn _ nj, Cn _ nj1]; exact d1.new
          · rw [Gn _ nj, Vn _ nj, Wn _ nj, Cn _ nj, Cn _ nj1]; exact d1.eff
          · rw [Cn _ nj1]; exact d2
          · rw [Wn _ nj]; exact d3
          · rw [Wn _ nj]; intro hw; rw [d4 hw]; exact hnews _ (by omega)
    simp only [evRunD] at h
    split at h
    · cases h
    · rename_i g hg
      split at h
      · rename_i hkd
        split at h
        · exact main k false _ _ _ _ none h hg (by rw [hkd]; rfl) (fun _ _ => rfl) (fun _ _ => rfl) (fun _ => rfl) (by rw [hkd]; intro q; cases q) (by intro p q; cases q) (fun _ => ⟨rfl, rfl, rfl⟩) (by intro q; cases q) (by intro q; cases q) (by intro q; cases q)
        · split at h
          · rename_i v hv
            exact main k true _ _ _ _ none h hg (by rw [hkd]; rfl) (fun _ _ => rfl) (fun _ _ => rfl) (fun _ => rfl) (by rw [hkd]; intro q; cases q) (by intro p q; cases q) (by intro q; cases q) (fun _ _ => ⟨hv, rfl, rfl⟩) (by intro _ q; rw [hkd] at q; cases q) (by intro _ q; rw [hkd] at q; cases q)
          · cases h
      · rename_i hkd
        split at h
        · exact main (k + 1) false _ _ _ _ none h hg (by rw [hkd]) (fun _ _ => rfl) (fun _ _ => rfl) (fun _ => rfl) (by rw [hkd]; intro q; cases q) (by intro p q; cases q) (fun _ => ⟨rfl, rfl, rfl⟩) (by intro q; cases q) (by intro q; cases q) (by intro q; cases q)
        · split at h
          · rename_i f b hv
            exact main (k + 1) true _ _ _ _ (some (base + k, b)) h hg (by rw [hkd]) (fun _ _ => rfl) (fun e he => lookup_ne (by omega)) (by intro q; cases q) (by rw [hkd]; intro q; cases q) (by intro p q; cases q; exact lookup_eq) (by intro q; cases q)
              (by intro _ q; rw [hkd] at q; cases q) (fun _ _ => ⟨f, b, hv, rfl, rfl, rfl⟩) (by intro _ q; rw [hkd] at q; cases q)
          · cases h
      · rename_i hkd
        split at h
        · exact main k false _ _ _ _ none h hg (by rw [hkd]; rfl) (fun e he => lookup_ne (by omega)) (fun _ _ => rfl) (fun _ => rfl) (fun _ => lookup_eq) (by intro p q; cases q) (fun _ => ⟨rfl, rfl, rfl⟩) (by intro q; cases q) (by intro q; cases q) (by intro q; cases q)
        · split at h
          · rename_i v h' hv
            exact main k true _ _ _ _ none h hg (by rw [hkd]; rfl) (fun e he => lookup_ne (by omega)) (fun _ _ => rfl) (fun _ => rfl) (fun _ => lookup_eq) (by intro p q; cases q) (by intro q; cases q)
              (by intro _ q; rw [hkd] at q; cases q) (by intro _ q; rw [hkd] at q; cases q) (fun _ _ => ⟨hv, rfl⟩)
          · cases h
end
end Lav
