/-
  Operations that leave the heap alone: what the evaluator answers the model answers.
-/
import Derived.Test.YtdilhnnbfkiacaaFw4
import Derived.ChangeKeysEq
namespace Lav
open Go

theorem ob_some {α β : Type} {x : Option α} {f : α → Option β} {b : β} (h : ob x f = some b) : ∃ a, x = some a ∧ f a = some b := by
  cases x with
  | none => cases h
  | some a => exact ⟨a, rfl, h⟩

section runs
variable {P : Program} {w : World}

theorem run_size {t n : Nat} (h : tSize P t = some n) : (Go.sizeOf t).run P w = .ok n w := by
  unfold tSize at h
  cases hi : P.info? t with
  | none => rw [hi] at h; cases h
  | some i => rw [hi] at h; simp at h; simp [Go.sizeOf, typeInfo, hi, h]

theorem run_bytes {t n : Nat} (h : tBytes P t = some n) : ∃ i, (typeInfo t).run P w = .ok i w ∧ i.bytes = n := by
  unfold tBytes at h
  cases hi : P.info? t with
  | none => rw [hi] at h; cases h
  | some i => rw [hi] at h; simp at h; exact ⟨i, by simp [typeInfo, hi], h⟩

theorem run_agg {t : Nat} {g : Bool} (h : tAgg P t = some g) : (isAgg t).run P w = .ok g w := by
  unfold tAgg at h
  cases hu : P.underlying t with
  | none => rw [hu] at h; cases h
  | some d => rw [hu] at h; cases d <;> simp at h <;> simp [isAgg, run_underlying hu, h]

end runs

/-! ### Constants -/
theorem absC_sound {ι : Inj} : ∀ {v : Value} {c : CV}, absC v = some c → CR ι c v := by
  intro v c h
  cases v with
  | pointer a => cases a <;> simp [absC] at h; subst h; rfl
  | slice a l c' =>
    cases a with
    | none => cases l <;> cases c' <;> simp [absC] at h; subst h; rfl
    | some a => simp [absC] at h
  | chan r => cases r <;> simp [absC] at h; subst h; rfl
  | func fn a b =>
    cases fn <;> simp only [absC] at h
    case func f =>
      cases hs : (a.size == 0 && b.size == 0) with
      | false => rw [hs] at h; cases h
      | true =>
        rw [hs] at h; simp at h hs; subst h
        obtain ⟨h1, h2⟩ := hs
        subst h1; subst h2
        exact ⟨#[], rfl, trivial⟩
    all_goals cases h
  | string s => simp [absC] at h; subst h; exact ⟨s, rfl, rfl⟩
  | _ => simp [absC] at h; try (subst h; rfl)

theorem absCs_sound {ι : Inj} : ∀ {vs : List Value} {l : List CV}, absCs vs = some l → All2 (CR ι) l vs
  | [], l, h => by simp [absCs] at h; subst h; trivial
  | v :: r, l, h => by
    unfold absCs at h
    split at h
    · rename_i c hc
      split at h
      · rename_i t ht
        simp at h; subst h
        exact ⟨absC_sound hc, absCs_sound ht⟩
      · cases h
    · cases h

theorem absV_sound {ι : Inj} {v : Value} {a : AV} (h : absV v = some a) : AR ι a v := by
  have other : ∀ {v : Value} {a : AV}, (match absC v with | some c => some (AV.c c) | none => none) = some a → AR ι a v := by
    intro v a h
    split at h
    · rename_i c hc; simp at h; subst h; exact absC_sound hc
    · cases h
  cases v with
  | agg cs =>
    simp only [absV] at h
    split at h
    · rename_i l hl; simp at h; subst h; exact ⟨cs, rfl, absCs_sound hl⟩
    · cases h
  | tuple vs =>
    simp only [absV] at h
    cases hs : vs.size == 0 with
    | false => rw [hs] at h; cases h
    | true =>
      rw [hs] at h; simp at h hs; subst h; subst hs
      exact ⟨#[], rfl, trivial⟩
  | _ => exact other h

/-! ### Operands that are numbers -/
theorem asNat_sound {ι : Inj} {a : AV} {v : Value} {m : Nat} (h : asNat a = some m) (hr : AR ι a v) : ∃ k, v = .int k (Int.ofNat m) := by
  cases a with
  | c x =>
    cases x with
    | int k n =>
      cases n with
      | ofNat m' => simp [asNat] at h; subst h; exact ⟨k, hr⟩
      | negSucc _ => simp [asNat] at h
    | _ => simp [asNat] at h
  | _ => simp [asNat] at h

theorem run_asIntOf {P : Program} {w : World} (k : IntKind) (n : Int) : (asIntOf (.int k n)).run P w = .ok (k, n) w := rfl

theorem run_bound {P : Program} {w : World} {k : IntKind} {m y : Nat} {code : BoundsCode} (h : m ≤ y) : (Instr.sliceBound (.int k (Int.ofNat m)) y code).run P w = .ok m w := by
  have : (m : Int) ≤ (y : Int) := by omega
  simp [Instr.sliceBound, run_asIntOf, this]

theorem ofCells_sound {ι : Inj} {g : Bool} {l : List CV} {a : AV} {vs : List Value} (h : AV.ofCells g l = some a) (hr : All2 (CR ι) l vs) :
    (g = true ∧ a = .agg l) ∨ (g = false ∧ ∃ x v, l = [x] ∧ vs = [v] ∧ a = .c x ∧ CR ι x v) := by
  cases g with
  | true => simp [AV.ofCells] at h; exact .inl ⟨rfl, h.symm⟩
  | false =>
    match l, vs, hr with
    | [x], [v], ⟨h1, _⟩ => simp [AV.ofCells] at h; exact .inr ⟨rfl, x, v, rfl, rfl, h.symm, h1⟩
    | [], _, _ => simp [AV.ofCells] at h
    | _ :: _ :: _, _, _ => simp [AV.ofCells] at h
    | [_], [], hh => exact hh.elim
    | [_], _ :: _ :: _, ⟨_, hh⟩ => exact hh.elim

theorem cut_spec {l r : List CV} {o n : Nat} (h : cut l o n = some r) : o + n ≤ l.length ∧ r = (l.drop o).take n ∧ r.length = n := by
  unfold cut at h
  cases hc : Nat.ble (o + n) l.length with
  | false => rw [hc] at h; cases h
  | true =>
    rw [hc] at h
    have : o + n ≤ l.length := Nat.le_of_ble_eq_true hc
    simp only [cond_true, Option.some.injEq] at h
    subst h
    exact ⟨this, rfl, by simp; omega⟩

/-- A part of an aggregate. -/
theorem run_part {P : Program} {w : World} {ι : Inj} {t n off : Nat} {g : Bool} {l r : List CV} {cs : Array Value} {a : AV} (hn : tSize P t = some n) (hg : tAgg P t = some g)
    (hl : All2 (CR ι) l cs.toList) (hc : cut l off n = some r) (ha : AV.ofCells g r = some a) : ∃ v, (part t cs off).run P w = .ok v w ∧ AR ι a v := by
  obtain ⟨h1, h2, h3⟩ := cut_spec hc
  have hsub : All2 (CR ι) r ((cs.toList.drop off).take n) := by rw [h2]; exact (hl.drop off).take n
  rcases ofCells_sound ha hsub with ⟨rfl, rfl⟩ | ⟨rfl, x, v, rfl, hv, rfl, hcr⟩
  · refine ⟨.agg (cs.extract off (off + n)), by simp [part, run_agg hg, run_size hn], _, rfl, ?_⟩
    rw [Array.toList_extract]
    simpa [List.extract_eq_take_drop] using hsub
  · have hn1 : n = 1 := by simpa using h3.symm
    subst hn1
    have hget : cs[off]? = some v := by
      have : ((cs.toList.drop off).take 1)[0]? = some v := by rw [hv]; rfl
      simpa [List.getElem?_take, List.getElem?_drop] using this
    exact ⟨v, by simp [part, run_agg hg, hget], hcr⟩

/-! ### The operations -/
section ops
variable {P : Program} {slots : List Nat} {ds : List (Option Nat)} {loc vals : List AV} {ρ : Operand → Value} {ι : Inj} {B : Nat} {h : Heap} {w : World}

/-- What the evaluator has for an operand stands for what the model has. -/
def OpsR (slots : List Nat) (ds : List (Option Nat)) (loc vals : List AV) (ι : Inj) (ρ : Operand → Value) : Prop :=
  ∀ x y, cX slots ds x = some y → AR ι (y.eval loc vals) (ρ x)

theorem intArith_sound {op : BinOp} {k : IntKind} {a b : Int} {c : CV} {t : TypeId} (hs : isShift op = false) (h : intArith op k a b = some c) :
    ∃ v, (binOp op t (.int k a) (.int k b)).run P w = .ok v w ∧ CR ι c v := by
  cases op <;> simp [intArith] at h <;>
    first
      | (subst h; refine ⟨_, ?_, rfl⟩; simp [binOp, Op.intArith, Op.intCmp, Op.intBits]; done)
      | (simp [isShift] at hs; done)
      | skip
  case quo =>
    cases hb : b == 0 with
    | true => rw [hb] at h; cases h
    | false =>
      rw [hb] at h; simp at h hb; subst h
      refine ⟨_, ?_, rfl⟩; simp [binOp, Op.intDiv, hb]
  case rem =>
    cases hb : b == 0 with
    | true => rw [hb] at h; cases h
    | false =>
      rw [hb] at h; simp at h hb; subst h
      refine ⟨_, ?_, rfl⟩; simp [binOp, Op.intDiv, hb]

theorem shift_sound {op : BinOp} {k k' : IntKind} {a b : Int} {c : CV} {t : TypeId} (hs : isShift op = true) (h : shift op k a b = some c) :
    ∃ v, (binOp op t (.int k a) (.int k' b)).run P w = .ok v w ∧ CR ι c v := by
  unfold shift at h
  cases hb : decide (b < 0) with
  | true => rw [hb] at h; cases h
  | false =>
    rw [hb] at h
    have hb' : ¬ b < 0 := by simpa using hb
    cases op <;> simp [isShift] at hs <;> simp only [cond_false, Option.some.injEq] at h <;> subst h
    · exact ⟨_, by simp only [binOp, Op.shift, if_neg hb']; rfl, rfl⟩
    · exact ⟨_, by simp only [binOp, Op.shift, if_neg hb']; rfl, rfl⟩

theorem str_eq {s u : ByteArray} : (s.toList == u.toList) = (s.data.toList.map UInt8.toNat == u.data.toList.map UInt8.toNat) := by
  have inj : ∀ (l m : List UInt8), (l.map UInt8.toNat = m.map UInt8.toNat) ↔ l = m := by
    intro l
    induction l with
    | nil => intro m; cases m <;> simp
    | cons x l ih =>
      intro m
      cases m with
      | nil => simp
      | cons y m => simp [ih m, UInt8.toNat_inj]
  rw [ByteArray.toList_eq, ByteArray.toList_eq, Bool.eq_iff_iff, beq_iff_eq, beq_iff_eq, inj]

theorem res_rem {n : Int} {m r q : Nat} (h0 : 0 ≤ n) (h : n % (m : Int) = (r : Int)) (hd : m % (q + 1) = 0) : n.tmod (Int.ofNat (q + 1)) = Int.ofNat (r % (q + 1)) := by
  rw [Int.tmod_eq_emod_of_nonneg h0]
  have hdvd : ((q + 1 : Nat) : Int) ∣ (m : Int) := Int.natCast_dvd_natCast.2 (Nat.dvd_of_mod_eq_zero hd)
  have := Int.emod_emod_of_dvd n hdvd
  rw [h] at this
  show n % ((q + 1 : Nat) : Int) = ((r % (q + 1) : Nat) : Int)
  rw [← this]; rfl

theorem binCV_sound {op : BinOp} {x y c : CV} {u v : Value} {t : TypeId} (h : binCV op x y = some c) (hx : CR ι x u) (hy : CR ι y v) :
    ∃ r, (binOp op t u v).run P w = .ok r w ∧ CR ι c r := by
  cases x with
  | int k a =>
    cases y with
    | int k' b =>
      simp only [CR] at hx hy; subst hx; subst hy
      simp only [binCV] at h
      cases hs : isShift op with
      | true => rw [hs, cond_true, shiftF_eq] at h; exact shift_sound hs h
      | false =>
        rw [hs] at h
        cases hk : k == k' with
        | false => rw [hk] at h; cases h
        | true => rw [hk, cond_false, cond_true, intArithF_eq] at h; simp at hk; subst hk; exact intArith_sound hs h
    | _ => simp [binCV] at h
  | str a =>
    cases y with
    | str b =>
      obtain ⟨s, rfl, hs⟩ := hx
      obtain ⟨q, rfl, hq⟩ := hy
      cases op <;> simp only [binCV] at h
      case add =>
        cases hl : Nat.ble (a.length + b.length) 1073741824 with
        | false => rw [hl] at h; cases h
        | true =>
          rw [hl] at h; simp only [cond_true, Option.some.injEq] at h; subst h
          have hl' := Nat.le_of_ble_eq_true hl
          have e1 : s.size = a.length := by rw [← hs]; simp
          have e2 : q.size = b.length := by rw [← hq]; simp
          refine ⟨.string (s ++ q), ?_, s ++ q, rfl, ?_⟩
          · have : ¬ (((s.size + q.size : Nat) : Int) > IntKind.i64.max) := by rw [IntKind.max_i64]; omega
            simp only [binOp, Op.stringOp, if_neg this]
            rfl
          · rw [← hs, ← hq, ← List.map_append]
            congr 1
      case eql =>
        simp only [Option.some.injEq] at h; subst h
        refine ⟨_, by simp only [binOp, Op.stringOp]; rfl, ?_⟩
        rw [← hs, ← hq]; simp only [CR, str_eq]
      case neq =>
        simp only [Option.some.injEq] at h; subst h
        refine ⟨_, by simp only [binOp, Op.stringOp]; rfl, ?_⟩
        rw [← hs, ← hq]; simp only [CR, str_eq]
      all_goals cases h
    | _ => simp [binCV] at h
  | res u m r =>
    cases y with
    | int k b =>
      simp only [binCV] at h
      split at h
      · rename_i q
        cases hd : m % (q + 1) == 0 with
        | false => rw [hd] at h; cases h
        | true =>
          rw [hd] at h; simp only [cond_true, Option.some.injEq] at h; subst h
          obtain ⟨n, rfl, h0, hm⟩ := hx
          simp only [CR] at hy; subst hy
          refine intArith_sound (P := P) (w := w) (t := t) (op := .rem) rfl ?_
          have e : (Int.ofNat (q + 1) == 0) = false := rfl
          simp only [intArith, e, cond_false]
          rw [res_rem h0 hm (by simpa using hd)]
      · cases h
    | _ => simp [binCV] at h
  | _ => simp [binCV] at h

theorem eqGuard_prim {op : BinOp} {x y c : CV} {u v : Value} {t : TypeId} {a b : Operand} (h : binCV op x y = some c) (hx : CR ι x u) : (eqGuard op t a b u v).run P w = .ok () w := by
  cases x with
  | int k n => simp only [CR] at hx; subst hx; rw [eqGuard_at_int]; rfl
  | str l => obtain ⟨s, rfl, _⟩ := hx; rw [eqGuard_at_string]; rfl
  | res u m r =>
    cases y with
    | int k b =>
      simp only [binCV] at h
      split at h
      · rfl
      · cases h
    | _ => simp [binCV] at h
  | _ => cases y <;> simp [binCV] at h

theorem unCV_sound {op : UnOp} {x c : CV} {u : Value} (h : unCV op x = some c) (hx : CR ι x u) : ∃ r, (Op.unary op u).run P w = .ok r w ∧ CR ι c r := by
  cases op <;> cases x <;> simp [unCV, intArithF_eq] at h <;> simp only [CR] at hx <;> subst hx
  case neg.int k n => simp [intArith] at h; subst h; refine ⟨_, ?_, rfl⟩; simp [Op.unary, Op.intArith]
  case not.bool b => subst h; exact ⟨_, rfl, rfl⟩
  case xor.int k n =>
    simp [intArith] at h; subst h
    refine ⟨_, ?_, rfl⟩; simp [Op.unary, Op.intBits]



theorem eqKind_inv {t : TypeId} {k : EqK} (h : eqKind P t = some k) :
    match k with
    | .prim => True
    | .bool => P.underlying t = some .bool
    | .ptr => ∃ e, P.underlying t = some (.pointer e)
    | .slice => ∃ e, P.underlying t = some (.slice e)
    | .func => ∃ a b c, P.underlying t = some (.func a b c)
    | .agg ks => P.eqGuardType P.depth t = false ∧ ((∃ fs, P.underlying t = some (.struct fs) ∧ flatFields P 0 fs.toList = some ks ∧ P.stoodInHeld t = false) ∨
        (∃ n e b, P.underlying t = some (.array n e) ∧ flatLeaf P e = some b ∧ tSize P e = some 1 ∧ ks = List.replicate n b)) := by
  unfold eqKind at h
  cases hu : P.underlying t with
  | none => rw [hu] at h; cases h
  | some d =>
    rw [hu] at h
    cases d <;> simp only [Option.some.injEq, reduceCtorEq] at h
    case struct fs =>
      split at h
      · rename_i ks hks
        cases hc : (!P.stoodInHeld t && !P.eqGuardType P.depth t) with
        | false => rw [hc] at h; cases h
        | true =>
          rw [hc] at h; simp only [cond_true, Option.some.injEq] at h; subst h
          simp at hc
          exact ⟨hc.2, .inl ⟨fs, rfl, hks, hc.1⟩⟩
      · cases h
    case array n e =>
      split at h
      · rename_i b hb
        cases hc : (tSize P e == some 1 && !P.eqGuardType P.depth t) with
        | false => rw [hc] at h; cases h
        | true =>
          rw [hc] at h; simp only [cond_true, Option.some.injEq] at h; subst h
          simp at hc
          exact ⟨hc.2, .inr ⟨n, e, b, rfl, hb, hc.1, rfl⟩⟩
      · cases h
    all_goals (subst h; first | exact ⟨_, rfl⟩ | exact ⟨_, _, _, rfl⟩ | rfl | trivial)

theorem leaf_eq {t : TypeId} {b : Bool} {x y : CV} {u v : Value} {r : Bool} (d : Nat) (hb : flatLeaf P t = some b) (hx : CR ι x u) (hy : CR ι y v) (h : eqCells [b] [x] [y] = some r) :
    (Op.equalIn (d + 1) t u v).run P w = .ok r w := by
  unfold flatLeaf at hb
  split at hb
  · rename_i k hu
    simp at hb; subst hb
    cases x <;> cases y <;> simp [eqCells] at h
    rename_i k1 a k2 c
    simp only [CR] at hx hy; subst hx; subst hy
    cases hk : k1 == k2 with
    | false => rw [hk] at h; simp at h
    | true =>
      rw [hk] at h; simp at h hk; subst hk; subst h
      simp [Op.equalIn, run_underlying hu]
  · rename_i hu
    simp at hb; subst hb
    cases x <;> cases y <;> simp [eqCells] at h
    rename_i a c
    simp only [CR] at hx hy; subst hx; subst hy; subst h
    simp [Op.equalIn, run_underlying hu]
  · cases hb

theorem eqCells_cons {b : Bool} {ks : List Bool} {l m : List CV} {r : Bool} (h : eqCells (b :: ks) l m = some r) :
    ∃ x l' y m' r1 r2, l = x :: l' ∧ m = y :: m' ∧ eqCells [b] [x] [y] = some r1 ∧ eqCells ks l' m' = some r2 ∧ r = (r1 && r2) := by
  cases l with
  | nil => cases b <;> simp [eqCells] at h
  | cons x l =>
    cases m with
    | nil => cases b <;> cases x <;> simp [eqCells] at h
    | cons y m =>
      cases b with
      | false =>
        cases x <;> cases y <;> simp [eqCells] at h
        rename_i a c
        split at h
        · rename_i r2 h2
          simp at h
          exact ⟨_, _, _, _, a == c, r2, rfl, rfl, by simp [eqCells], h2, h.symm⟩
        · cases h
      | true =>
        cases x <;> cases y <;> simp [eqCells] at h
        rename_i k1 a k2 c
        cases hk : k1 == k2 with
        | false => rw [hk] at h; simp at h
        | true =>
          rw [hk] at h; simp only [cond_true] at h
          split at h
          · rename_i r2 h2
            simp at h
            exact ⟨_, _, _, _, a == c, r2, rfl, rfl, by simp [eqCells, hk], h2, h.symm⟩
          · cases h

theorem run_part1 {t : TypeId} {b : Bool} {cs : Array Value} {n : Nat} {v : Value} (hb : flatLeaf P t = some b) (hv : cs.toList[n]? = some v) : (part t cs n).run P w = .ok v w := by
  have hg : tAgg P t = some false := by
    unfold flatLeaf at hb
    split at hb
    · rename_i k hu; simp [tAgg, hu]
    · rename_i hu; simp [tAgg, hu]
    · cases hb
  have : cs[n]? = some v := by simpa using hv
  simp [part, run_agg hg, this]

theorem drop_cons {α : Type} {l : List α} {n : Nat} {x : α} {r : List α} (h : l.drop n = x :: r) : l[n]? = some x ∧ l.drop (n + 1) = r := by
  refine ⟨?_, ?_⟩
  · have : (l.drop n)[0]? = some x := by rw [h]; rfl
    simpa using this
  · rw [← List.drop_drop, h]; rfl

theorem struct_eq (d : Nat) {xs ys : Array Value} {l m : List CV} (hx : All2 (CR ι) l xs.toList) (hy : All2 (CR ι) m ys.toList) :
    ∀ (fs : List Field) (n : Nat) (ks : List Bool) (r : Bool), flatFields P n fs = some ks → eqCells ks (l.drop n) (m.drop n) = some r → (Op.eqFields (d + 1) xs ys fs).run P w = .ok r w
  | [], n, ks, r, hf, he => by
    simp [flatFields] at hf; subst hf
    cases hl : l.drop n <;> cases hm : m.drop n <;> rw [hl, hm] at he <;> simp [eqCells] at he
    subst he; rfl
  | f :: fs, n, ks, r, hf, he => by
    unfold flatFields at hf
    split at hf
    · rename_i k ks' hk hks
      cases hc : (f.offset == n && f.name != "_" && tSize P f.type == some 1) with
      | false => rw [hc] at hf; cases hf
      | true =>
        rw [hc] at hf; simp only [cond_true, Option.some.injEq] at hf; subst hf
        simp at hc
        obtain ⟨⟨rfl, hname⟩, _⟩ := hc
        obtain ⟨x, l', y, m', r1, r2, hl, hm, h1, h2, rfl⟩ := eqCells_cons he
        obtain ⟨e1, e2⟩ := drop_cons hl
        obtain ⟨e3, e4⟩ := drop_cons hm
        obtain ⟨u, hu, cu⟩ := hx.get _ _ e1
        obtain ⟨v, hv, cv⟩ := hy.get _ _ e3
        have ih := struct_eq d hx hy fs (f.offset + 1) ks' r2 hks (by rw [e2, e4]; exact h2)
        have hne : f.name ≠ "_" := by simpa using hname
        rw [Op.eqFields]
        simp only [hne, ne_eq, not_false_eq_true, if_true, Sem.run_bind, run_part1 hk hu, run_part1 hk hv, Result.andThen_ok, leaf_eq d hk cu cv h1]
        cases r1 with
        | false => simp
        | true => simp [ih]
    · cases hf

theorem array_eq (d n : Nat) {e : TypeId} {b : Bool} {xs ys : Array Value} {l m : List CV} {r : Bool} {t : TypeId} (ht : P.underlying t = some (.array n e)) (hb : flatLeaf P e = some b) (hs : tSize P e = some 1)
    (hx : All2 (CR ι) l xs.toList) (hy : All2 (CR ι) m ys.toList) (h : eqCells (List.replicate n b) l m = some r) : (Op.equalIn (d + 2) t (.agg xs) (.agg ys)).run P w = .ok r w := by
  obtain ⟨i, hi, h1⟩ : ∃ i, P.info? e = some i ∧ i.size = 1 := by
    unfold tSize at hs
    cases hi : P.info? e with
    | none => rw [hi] at hs; cases hs
    | some i => rw [hi] at hs; simp at hs; exact ⟨i, rfl, hs⟩
  have hc : P.cellsOf e = 1 := by simp [Program.cellsOf, hi, h1]
  have loop : ∀ (k i : Nat) (r : Bool), eqCells (List.replicate k b) (l.drop i) (m.drop i) = some r →
      (Op.eqItems (d + 1) e 1 xs ys (List.range' i k)).run P w = .ok r w := by
    intro k
    induction k with
    | zero =>
      intro i r he
      cases hl : l.drop i <;> cases hm : m.drop i <;> rw [hl, hm] at he <;> simp [eqCells] at he
      subst he; simp [Op.eqItems]
    | succ k ih =>
      intro i r he
      rw [List.replicate_succ] at he
      obtain ⟨x, l', y, m', r1, r2, hl, hm, h1, h2, rfl⟩ := eqCells_cons he
      obtain ⟨e1, e2⟩ := drop_cons hl
      obtain ⟨e3, e4⟩ := drop_cons hm
      obtain ⟨u, hu, cu⟩ := hx.get _ _ e1
      obtain ⟨v, hv, cv⟩ := hy.get _ _ e3
      rw [List.range'_succ, Op.eqItems]
      simp only [Nat.mul_one, Sem.run_bind, run_part1 hb hu, run_part1 hb hv, Result.andThen_ok, leaf_eq d hb cu cv h1]
      have := ih (i + 1) r2 (by rw [e2, e4]; exact h2)
      cases r1 with
      | false => simp
      | true => simp [this]
  rw [run_equalIn_array (P := P) w (d + 1) xs ys ht hi, hc, List.range_eq_range']
  exact loop n 0 r (by simpa using h)

theorem eqIn_bool {t : TypeId} (d : Nat) (a b : Bool) (hu : P.underlying t = some .bool) : (Op.equalIn (d + 2) t (.bool a) (.bool b)).run P w = .ok (a == b) w := by
  rw [Op.equalIn, Sem.run_bind, run_underlying hu]; rfl
theorem eqIn_ptr0 {t e : TypeId} (d : Nat) (b : Option Addr) (hu : P.underlying t = some (.pointer e)) : (Op.equalIn (d + 2) t (.pointer none) (.pointer b)).run P w = .ok b.isNone w := by
  rw [Op.equalIn, Sem.run_bind, run_underlying hu]; cases b <;> rfl
theorem eqIn_ptr1 {t e : TypeId} (d : Nat) (a : Addr) (hu : P.underlying t = some (.pointer e)) : (Op.equalIn (d + 2) t (.pointer (some a)) (.pointer none)).run P w = .ok false w := by
  rw [Op.equalIn, Sem.run_bind, run_underlying hu]; rfl
theorem eqIn_sl0 {t e : TypeId} (d l c l' c' : Nat) (b : Option Addr) (hu : P.underlying t = some (.slice e)) : (Op.equalIn (d + 2) t (.slice none l c) (.slice b l' c')).run P w = .ok b.isNone w := by
  rw [Op.equalIn, Sem.run_bind, run_underlying hu]; cases b <;> rfl
theorem eqIn_sl1 {t e : TypeId} (d l c l' c' : Nat) (a : Addr) (hu : P.underlying t = some (.slice e)) : (Op.equalIn (d + 2) t (.slice (some a) l c) (.slice none l' c')).run P w = .ok false w := by
  rw [Op.equalIn, Sem.run_bind, run_underlying hu]; rfl
theorem eqIn_fn00 {t : TypeId} {x y : Array TypeId} {z : Bool} (d : Nat) (hu : P.underlying t = some (.func x y z)) : (Op.equalIn (d + 2) t .nilFunc .nilFunc).run P w = .ok true w := by
  rw [Op.equalIn, Sem.run_bind, run_underlying hu]; rfl
theorem eqIn_fn01 {t : TypeId} {x y : Array TypeId} {z : Bool} (d : Nat) (f : Fn) (a b : Array Value) (hu : P.underlying t = some (.func x y z)) : (Op.equalIn (d + 2) t .nilFunc (.func f a b)).run P w = .ok false w := by
  rw [Op.equalIn, Sem.run_bind, run_underlying hu]; rfl
theorem eqIn_fn10 {t : TypeId} {x y : Array TypeId} {z : Bool} (d : Nat) (f : Fn) (a b : Array Value) (hu : P.underlying t = some (.func x y z)) : (Op.equalIn (d + 2) t (.func f a b) .nilFunc).run P w = .ok false w := by
  rw [Op.equalIn, Sem.run_bind, run_underlying hu]; rfl

theorem prim_eq {op : BinOp} {t : TypeId} {k : EqK} {neg : Bool} {a b : AV} {u v : Value} {r : Bool} {x y : Operand} (ho : (op = .eql ∧ neg = false) ∨ (op = .neq ∧ neg = true))
    (hk : eqKind P t = some k) (h : eqVal k a b = some r) (ha : AR ι a u) (hb : AR ι b v) :
    (eqGuard op t x y u v).run P w = .ok () w ∧ (binOp op t u v).run P w = .ok (.bool (bif neg then !r else r)) w := by
  have fin : ∀ (u v : Value), (eqGuard op t x y u v).run P w = .ok () w → (∀ d : Nat, (Op.equalIn (d + 2) t u v).run P w = .ok r w) →
      (binOp .eql t u v = (do pure (.bool (← Op.equal t u v)))) → (binOp .neq t u v = (do pure (.bool (!(← Op.equal t u v))))) →
      (eqGuard op t x y u v).run P w = .ok () w ∧ (binOp op t u v).run P w = .ok (.bool (bif neg then !r else r)) w := by
    intro u v h1 h2 h3 h4
    refine ⟨h1, ?_⟩
    have he : (Op.equal t u v).run P w = .ok r w := h2 9998
    rcases ho with ⟨rfl, rfl⟩ | ⟨rfl, rfl⟩
    · rw [h3]; simp [he]
    · rw [h4]; simp [he]
  have inv := eqKind_inv hk
  unfold eqVal at h
  split at h <;> first | (cases h; done) | (simp only [Option.some.injEq] at h) | skip
  · simp only [AR, CR] at ha hb; subst ha; subst hb; subst h
    exact fin _ _ (by rw [eqGuard_at_bool]; rfl) (fun d => eqIn_bool d _ _ inv) rfl rfl
  · obtain ⟨e, hu⟩ := inv
    simp only [AR, CR] at ha hb; subst ha; subst hb; subst h
    exact fin _ _ (by rw [eqGuard_at_pointer]; rfl) (fun d => eqIn_ptr0 d _ hu) rfl rfl
  · obtain ⟨e, hu⟩ := inv
    simp only [AR, CR] at ha hb; obtain ⟨b', base, lim, _, rfl⟩ := hb; subst ha; subst h
    exact fin _ _ (by rw [eqGuard_at_pointer]; rfl) (fun d => eqIn_ptr0 d _ hu) rfl rfl
  · obtain ⟨e, hu⟩ := inv
    simp only [AR, CR] at ha hb; obtain ⟨b', base, lim, _, rfl⟩ := ha; subst hb; subst h
    exact fin _ _ (by rw [eqGuard_at_pointer]; rfl) (fun d => eqIn_ptr1 d _ hu) rfl rfl
  · obtain ⟨e, hu⟩ := inv
    simp only [AR, CR] at ha hb; subst ha; subst hb; subst h
    exact fin _ _ (by rw [eqGuard_at_slice]; rfl) (fun d => eqIn_sl0 d _ _ _ _ _ hu) rfl rfl
  · obtain ⟨e, hu⟩ := inv
    simp only [AR, CR] at ha hb; obtain ⟨b', base, lim, aa, cap, _, rfl, _⟩ := hb; subst ha; subst h
    exact fin _ _ (by rw [eqGuard_at_slice]; rfl) (fun d => eqIn_sl0 d _ _ _ _ _ hu) rfl rfl
  · obtain ⟨e, hu⟩ := inv
    simp only [AR, CR] at ha hb; obtain ⟨b', base, lim, aa, cap, _, rfl, _⟩ := ha; subst hb; subst h
    exact fin _ _ (by rw [eqGuard_at_slice]; rfl) (fun d => eqIn_sl1 d _ _ _ _ _ hu) rfl rfl
  · obtain ⟨e1, e2, e3, hu⟩ := inv
    simp only [AR, CR] at ha hb; subst ha; subst hb; subst h
    exact fin _ _ (by rw [eqGuard_at_nilFunc]; rfl) (fun d => eqIn_fn00 d hu) rfl rfl
  · obtain ⟨e1, e2, e3, hu⟩ := inv
    simp only [AR, CR] at ha hb; obtain ⟨vs, rfl, _⟩ := hb; subst ha; subst h
    exact fin _ _ (by rw [eqGuard_at_nilFunc]; rfl) (fun d => eqIn_fn01 d _ _ _ hu) rfl rfl
  · obtain ⟨e1, e2, e3, hu⟩ := inv
    simp only [AR, CR] at ha hb; obtain ⟨vs, rfl, _⟩ := ha; subst hb; subst h
    exact fin _ _ (by rw [eqGuard_at_func]; rfl) (fun d => eqIn_fn10 d _ _ _ hu) rfl rfl
  · rename_i ks l m
    obtain ⟨hgd, inv⟩ := inv
    obtain ⟨xs, rfl, hx⟩ := ha
    obtain ⟨ys, rfl, hy⟩ := hb
    refine fin _ _ (run_eqGuard_agg (P := P) w op t x y xs ys hgd) (fun d => ?_) rfl rfl
    rcases inv with ⟨fs, hu, hf, hst⟩ | ⟨n, e, b, hu, hf, hsz, rfl⟩
    · have hff : P.fieldsOf t = fs := by simp [Program.fieldsOf, hu]
      rw [run_equalIn_struct (P := P) w (d + 1) t xs ys (by rw [hff]; exact hu) hst, hff]
      exact struct_eq d hx hy fs.toList 0 ks r hf (by simpa using h)
    · exact array_eq d n hu hf hsz hx hy h
end ops
end Lav
