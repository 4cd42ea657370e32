/-
  All operations that leave the heap alone.
-/
import Derived.Test.YtdilhnnbfkiacaaFw6
import Derived.Conc.LoneSelect
namespace Lav
open Go

section ops
variable {P : Program} {slots : List Nat} {ds : List (Option Nat)} {loc vals : List AV} {ρ : Operand → Value} {ι : Inj} {B : Nat} {h : Heap} {w : World}

theorem run_value {s : Sem Value} {v : Value} {w' : World} (hs : s.run P w = .ok v w') : (do pure (Next.value (← s)) : Sem Next).run P w = .ok (.value v) w' := by simp [hs]

theorem ops_map {parts : Array (Nat × Operand)} : (parts.map fun (i, x) => (i, ρ x)) = (parts.toList.map fun (i, x) => (i, ρ x)).toArray := by
  apply Array.toList_inj.1; simp

theorem push_bytes : ∀ (ns : List Int), (∀ n ∈ ns, 0 ≤ n ∧ n < 256) → ∀ s : ByteArray,
    (ns.foldl (fun r n => r.push (UInt8.ofNat n.toNat)) s).data.toList.map UInt8.toNat = s.data.toList.map UInt8.toNat ++ ns.map Int.toNat
  | [], _, s => by simp
  | n :: ns, h, s => by
    rw [List.foldl_cons, push_bytes ns (fun m hm => h m (by simp [hm]))]
    obtain ⟨h1, h2⟩ := h n (by simp)
    have : n.toNat % 256 = n.toNat := Nat.mod_eq_of_lt (by omega)
    simp [ByteArray.push, this]

theorem eqGuard_none {op : BinOp} (h1 : op ≠ .eql) (h2 : op ≠ .neq) (t : TypeId) (x y : Operand) (u v : Value) : (eqGuard op t x y u v).run P w = .ok () w := by
  cases op <;> first | rfl | exact absurd rfl h1 | exact absurd rfl h2

theorem bin_pure (H : OpsR slots ds loc vals ι ρ) {op : BinOp} {t : TypeId} {x y : Operand} {iop : IOp} {r : AV} (hc : cBin P slots ds op t x y = some iop) (he : evPure loc vals h iop = some r) :
    ∃ v, (do eqGuard op t x y (ρ x) (ρ y); binOp op t (ρ x) (ρ y) : Sem Value).run P w = .ok v w ∧ AR ι r v := by
  unfold cBin at hc
  obtain ⟨a, ha, hc⟩ := ob_some hc
  obtain ⟨b, hb, hc⟩ := ob_some hc
  have hx := H _ _ ha
  have hy := H _ _ hb
  have plain : ∀ o : BinOp, evPure loc vals h (.bin o a b) = some r → op = o →
      ∃ v, (do eqGuard op t x y (ρ x) (ρ y); binOp op t (ρ x) (ρ y) : Sem Value).run P w = .ok v w ∧ AR ι r v := by
    intro o he e
    subst e
    simp only [evPure] at he
    split at he
    · rename_i p q h1 h2
      rw [h1] at hx; rw [h2] at hy
      split at he
      · rename_i c hcv
        simp only [Option.some.injEq] at he; subst he
        obtain ⟨v, hv, hr⟩ := binCV_sound (P := P) (w := w) (t := t) hcv hx hy
        refine ⟨v, ?_, hr⟩
        have hg := eqGuard_prim (P := P) (w := w) (t := t) (a := x) (b := y) (v := ρ y) hcv hx
        simp only [Sem.run_bind, hg, Result.andThen_ok, hv]
      · cases he
    · cases he
  have eqs : ∀ (k : EqK) (neg : Bool), eqKind P t = some k → ((op = .eql ∧ neg = false) ∨ (op = .neq ∧ neg = true)) → evPure loc vals h (.eq k neg a b) = some r →
      ∃ v, (do eqGuard op t x y (ρ x) (ρ y); binOp op t (ρ x) (ρ y) : Sem Value).run P w = .ok v w ∧ AR ι r v := by
    intro k neg hk ho he
    simp only [evPure] at he
    split at he
    · rename_i q hq
      simp only [Option.some.injEq] at he; subst he
      obtain ⟨h1, h2⟩ := prim_eq (P := P) (w := w) (x := x) (y := y) ho hk hq hx hy
      exact ⟨_, by simp only [Sem.run_bind, h1, Result.andThen_ok, h2], rfl⟩
    · cases he
  split at hc
  · obtain ⟨k, hk, hc⟩ := ob_some hc
    split at hc
    · simp only [Option.some.injEq] at hc; subst hc; exact plain _ he rfl
    · simp only [Option.some.injEq] at hc; subst hc; exact eqs _ _ hk (.inl ⟨rfl, rfl⟩) he
  · obtain ⟨k, hk, hc⟩ := ob_some hc
    split at hc
    · simp only [Option.some.injEq] at hc; subst hc; exact plain _ he rfl
    · simp only [Option.some.injEq] at hc; subst hc; exact eqs _ _ hk (.inr ⟨rfl, rfl⟩) he
  · simp only [Option.some.injEq] at hc; subst hc; exact plain _ he rfl

theorem conv_pure (H : OpsR slots ds loc vals ι ρ) (hr : HR B ι h.get w) {src dst : TypeId} {x : Operand} {iop : IOp} {r : AV} (hc : cConv P slots ds src dst x = some iop) (hk : iop.kd = .pure)
    (he : evPure loc vals h iop = some r) : ∃ v, (convert src dst (ρ x)).run P w = .ok v w ∧ AR ι r v := by
  unfold cConv at hc
  obtain ⟨a, ha, hc⟩ := ob_some hc
  have hx := H _ _ ha
  split at hc
  · rename_i k0 k h1 h2
    simp only [Option.some.injEq] at hc; subst hc
    simp only [evPure] at he
    split at he
    · rename_i k1 n hn
      rw [hn] at hx; simp only [AR, CR] at hx
      simp only [Option.some.injEq, wrapF_eq] at he; subst he
      refine ⟨.int k (k.wrap n), ?_, rfl⟩
      rw [hx]
      simp only [convert, Sem.run_bind, run_underlying h1, run_underlying h2, Result.andThen_ok]
      rfl
    · rename_i u m r hn
      rw [hn] at hx
      split at he
      · cases hz : Nat.beq m 0 with
        | true => rw [hz] at he; cases he
        | false =>
        rw [hz] at he
        simp only [cond_false, Option.some.injEq] at he; subst he
        have hne : m ≠ 0 := fun e => by subst e; cases hz
        obtain ⟨h0, _⟩ | ⟨n, hv, hm⟩ := hx
        · exact absurd h0 hne
        refine ⟨.int .u64 (IntKind.u64.wrap n), ?_, IntKind.u64.wrap n, rfl, ?_, hm⟩
        · rw [hv]
          simp only [convert, Sem.run_bind, run_underlying h1, run_underlying h2, Result.andThen_ok]
          rfl
        · simp only [IntKind.wrap, IntKind.bits, IntKind.signed]; simp; omega
      · cases he
    · cases he
  · rename_i e0 e h1 h2
    cases hb : (src == dst && isU8 P e) with
    | false => rw [hb] at hc; cases hc
    | true => rw [hb] at hc; simp only [cond_true, Option.some.injEq] at hc; subst hc; simp [IOp.kd] at hk
  · rename_i e h1 h2
    cases hb : isU8 P e with
    | false => rw [hb] at hc; cases hc
    | true =>
      rw [hb] at hc; simp only [cond_true, Option.some.injEq] at hc; subst hc
      have hu8 : P.underlying e = some (.int .u8) := by
        unfold isU8 at hb
        split at hb
        · assumption
        · cases hb
      simp only [evPure] at he
      have conv : ∀ v, (∀ s, v ≠ .string s) → (∀ k n, v ≠ .int k n) → (convert src dst v).run P w = (Conv.bytesToString v).run P w := by
        intro v hs hi
        simp only [convert, Sem.run_bind, run_underlying h1, run_underlying h2, Result.andThen_ok]
        cases v <;> first | exact absurd rfl (hs _) | exact absurd rfl (hi _ _) | (simp [run_underlying hu8])
      split at he
      · rename_i hq
        rw [hq] at hx; simp only [AR, CR] at hx
        simp only [Option.some.injEq] at he; subst he
        refine ⟨.string .empty, ?_, .empty, rfl, rfl⟩
        rw [hx, conv _ (by intro s; simp) (by intro k n; simp)]
        rfl
      · rename_i i o len c hq
        rw [hq] at hx
        obtain ⟨b, base, lim, ad, cap, hi, hv, hlc, had, hcap⟩ := hx
        split at he
        · rename_i l hl
          split at he
          · rename_i q hq'
            simp only [Option.some.injEq] at he; subst he
            obtain ⟨b', base', lim', vs, hi', h2', hlen, hll, hcell, hrun⟩ := hr.loads hl
            rw [hi] at hi'; simp only [Option.some.injEq, Prod.mk.injEq] at hi'
            obtain ⟨rfl, rfl, rfl⟩ := hi'
            obtain ⟨ns, rfl, hns, hmap⟩ := bytesOf_spec hq' h2'
            have hlen' : ns.length = len := by simpa using hlen
            by_cases h0 : cap = 0
            · have : len = 0 := by omega
              subst this
              have hns0 : ns = [] := List.eq_nil_of_length_eq_zero hlen'
              subst hns0
              simp at hmap; subst hmap
              refine ⟨.string .empty, ?_, .empty, rfl, rfl⟩
              rw [hv, conv _ (by intro s; simp) (by intro k n; simp)]
              simp [Conv.bytesToString, loadCells, loadCellsFrom]
            · rw [hv, had h0, conv _ (by intro s; simp) (by intro k n; simp)]
              have hb := run_bytesToString (P := P) w ⟨b, base + o, none⟩ len cap ns (hrun P)
              refine ⟨_, hb, _, rfl, ?_⟩
              rw [← hmap]
              have := push_bytes ns hns ByteArray.empty
              rw [this]; rfl
          · cases he
        · split at he
          · simp only [Option.some.injEq] at he; subst he
            refine ⟨.string .empty, ?_, .empty, rfl, rfl⟩
            rw [hv, conv _ (by intro s; simp) (by intro k n; simp)]
            simp [Conv.bytesToString, loadCells, loadCellsFrom]
          · cases he
      · cases he
  · cases hb : isU8 P _ with
    | false => rw [hb] at hc; cases hc
    | true => rw [hb] at hc; simp only [cond_true, Option.some.injEq] at hc; subst hc; simp [IOp.kd] at hk
  · cases hc

def LenOK (P : Program) (t : TypeId) : LenK → Prop
  | .str => P.underlying t = some .string
  | .sl => ∃ e, P.underlying t = some (.slice e)
  | .ch => ∃ d e, P.underlying t = some (.chan d e)

theorem len_pure (H : OpsR slots ds loc vals ι ρ) (hr : HR B ι h.get w) {ats : Array TypeId} {t ty : TypeId} {x : Operand} {a : X} {r : AV} {k : LenK} (hat : ats[0]? = some t) (ha : cX slots ds x = some a)
    (ht : LenOK P t k) (he : evPure loc vals h (.len k a) = some r) :
    ∃ v, (Builtin.len_ ats ty #[ρ x]).run P w = .ok v w ∧ AR ι r v := by
  have hx := H _ _ ha
  simp only [evPure] at he
  split at he
  · rename_i s hs
    rw [hs] at hx; obtain ⟨bs, hv, hbs⟩ := hx
    simp only [Option.some.injEq] at he; subst he
    refine ⟨goInt bs.size, ?_, by rw [← size_of_bytes hbs]; rfl⟩
    rw [hv]
    simp [Builtin.len_, hat, run_underlying (show P.underlying t = _ from ht)]
  · rename_i hs
    rw [hs] at hx; simp only [AR, CR] at hx
    obtain ⟨e, ht⟩ := ht
    simp only [Option.some.injEq] at he; subst he
    refine ⟨goInt (0 : Nat), ?_, rfl⟩
    rw [hx]
    simp [Builtin.len_, hat, run_underlying (show P.underlying t = _ from ht)]
  · rename_i i o n c hs
    rw [hs] at hx; obtain ⟨b, base, lim, ad, cap, hi, hv, _⟩ := hx
    obtain ⟨e, ht⟩ := ht
    simp only [Option.some.injEq] at he; subst he
    refine ⟨goInt n, ?_, rfl⟩
    rw [hv]
    simp [Builtin.len_, hat, run_underlying (show P.underlying t = _ from ht)]
  · rename_i hs
    rw [hs] at hx; simp only [AR, CR] at hx
    obtain ⟨d, e, ht⟩ := ht
    simp only [Option.some.injEq] at he; subst he
    refine ⟨goInt (0 : Nat), ?_, rfl⟩
    rw [hx]
    simp [Builtin.len_, hat, run_underlying (show P.underlying t = _ from ht)]
  · rename_i i hs
    rw [hs] at hx; obtain ⟨b, base, lim, hi, hv⟩ := hx
    obtain ⟨d, e, ht⟩ := ht
    split at he
    · rename_i cap buf hg
      simp only [Option.some.injEq] at he; subst he
      obtain ⟨b', base', lim', hi', hB, vs, s, r, hb, hbuf⟩ := hr.at_ _ _ hg
      rw [hi] at hi'; simp only [Option.some.injEq, Prod.mk.injEq] at hi'
      obtain ⟨rfl, rfl, rfl⟩ := hi'
      refine ⟨goInt vs.size, ?_, ?_⟩
      · rw [hv]
        have hgo : (getObj b).run P w = .ok (.chan cap vs false s r false) w := by simp [getObj, Sem.run, hb]
        simp [Builtin.len_, hat, run_underlying ht, hgo]
      · have := hbuf.length
        simp at this
        rw [this]; rfl
    · cases he
  · cases he

theorem args_all {args : List Operand} {as : Array Operand} (h : as.toList = args) : (as.map ρ).toList = args.map ρ := by rw [← h]; simp

theorem builtin_pure (H : OpsR slots ds loc vals ι ρ) (hr : HR B ι h.get w) {b : Builtin} {ats : Array TypeId} {ty : TypeId} {args : Array Operand} {iop : IOp} {r : AV} {cs : Array Bool}
    (hc : cBuiltin P slots ds b ats.toList args.toList = some iop) (hk : iop.kd = .pure) (he : evPure loc vals h iop = some r) :
    ∃ v, (builtin b ats ty cs (args.map ρ)).run P w = .ok (.value v) w ∧ AR ι r v := by
  unfold cBuiltin at hc
  split at hc
  · rename_i t x h1 h2
    have e1 : args.map ρ = #[ρ x] := by apply Array.toList_inj.1; simp [h2]
    have e2 : ats[0]? = some t := by rw [← Array.getElem?_toList, h1]; rfl
    obtain ⟨a, ha, hc⟩ := ob_some hc
    have fin : ∀ (k : LenK), LenOK P t k →
        evPure loc vals h (.len k a) = some r → ∃ v, (builtin .len ats ty cs (args.map ρ)).run P w = .ok (.value v) w ∧ AR ι r v := by
      intro k hk he
      obtain ⟨v, hv, hr'⟩ := len_pure (ty := ty) H hr e2 ha hk he
      exact ⟨v, by rw [e1]; simp [builtin, hv], hr'⟩
    have cst : ∀ n : Nat, (Builtin.len_ ats ty #[ρ x]).run P w = .ok (goInt n) w → evPure loc vals h (.mov (.k (.c (.int .i64 (Int.ofNat n))))) = some r →
        ∃ v, (builtin .len ats ty cs (args.map ρ)).run P w = .ok (.value v) w ∧ AR ι r v := by
      intro n hn he
      simp only [evPure, X.eval, Option.some.injEq] at he; subst he
      exact ⟨goInt n, by rw [e1]; simp [builtin, hn], rfl⟩
    split at hc
    · rename_i hu; simp only [Option.some.injEq] at hc; subst hc; exact fin .str hu he
    · rename_i e hu; simp only [Option.some.injEq] at hc; subst hc; exact fin .sl ⟨e, hu⟩ he
    · rename_i d e hu; simp only [Option.some.injEq] at hc; subst hc; exact fin .ch ⟨d, e, hu⟩ he
    · rename_i n e hu
      simp only [Option.some.injEq] at hc; subst hc
      exact cst n (by simp [Builtin.len_, e2, run_underlying hu]) he
    · rename_i e hu
      split at hc
      · rename_i n e' hu'
        simp only [Option.some.injEq] at hc; subst hc
        exact cst n (by simp [Builtin.len_, e2, run_underlying hu, run_underlying hu']) he
      · cases hc
    · cases hc
  · rename_i xs
    obtain ⟨as, ha, hc⟩ := ob_some hc
    simp only [Option.some.injEq] at hc; subst hc
    have hxs := cXs_sound H ha
    simp only [evPure] at he
    split at he
    · rename_i y ys
      cases hargs : args.toList with
      | nil => rw [hargs] at hxs; exact hxs.elim
      | cons x xs =>
        rw [hargs] at hxs
        obtain ⟨h1, h2⟩ := hxs
        have h1 : AR ι (y.eval loc vals) (ρ x) := h1
        split at he
        · rename_i k n hn
          rw [hn] at h1; simp only [AR, CR] at h1
          obtain ⟨v, hv, hr'⟩ := fold_sound (P := P) (w := w) _ Builtin.max2 (fun k a b => rfl) ys xs k n r h2 he
          refine ⟨v, ?_, hr'⟩
          have : (args.map ρ).toList = .int k n :: xs.map ρ := by rw [Array.toList_map, hargs, List.map_cons, h1]
          simp only [builtin, Builtin.max_, this, Sem.run_bind, hv, Result.andThen_ok, Sem.run_pure]
        · cases he
    · cases he
  · rename_i xs
    obtain ⟨as, ha, hc⟩ := ob_some hc
    simp only [Option.some.injEq] at hc; subst hc
    have hxs := cXs_sound H ha
    simp only [evPure] at he
    split at he
    · rename_i y ys
      cases hargs : args.toList with
      | nil => rw [hargs] at hxs; exact hxs.elim
      | cons x xs =>
        rw [hargs] at hxs
        obtain ⟨h1, h2⟩ := hxs
        have h1 : AR ι (y.eval loc vals) (ρ x) := h1
        split at he
        · rename_i k n hn
          rw [hn] at h1; simp only [AR, CR] at h1
          obtain ⟨v, hv, hr'⟩ := fold_sound (P := P) (w := w) _ Builtin.min2 (fun k a b => rfl) ys xs k n r h2 he
          refine ⟨v, ?_, hr'⟩
          have : (args.map ρ).toList = .int k n :: xs.map ρ := by rw [Array.toList_map, hargs, List.map_cons, h1]
          simp only [builtin, Builtin.min_, this, Sem.run_bind, hv, Result.andThen_ok, Sem.run_pure]
        · cases he
    · cases he
  · obtain ⟨e, he', hc⟩ := ob_some hc
    obtain ⟨a, ha, hc⟩ := ob_some hc
    obtain ⟨b, hb, hc⟩ := ob_some hc
    cases hs : sourceOk P e.1 _ with
    | false => rw [hs] at hc; cases hc
    | true => rw [hs] at hc; simp only [cond_true, Option.some.injEq] at hc; subst hc; simp [IOp.kd] at hk
  · obtain ⟨e, he', hc⟩ := ob_some hc
    obtain ⟨a, ha, hc⟩ := ob_some hc
    obtain ⟨b, hb, hc⟩ := ob_some hc
    cases hs : sourceOk P e.1 _ with
    | false => rw [hs] at hc; cases hc
    | true => rw [hs] at hc; simp only [cond_true, Option.some.injEq] at hc; subst hc; simp [IOp.kd] at hk
  · cases hc

/-- An operation that leaves the heap alone answers as the evaluator says, and the world is the same. -/
theorem pure_sound (H : OpsR slots ds loc vals ι ρ) (hr : HR B ι h.get w) {o : Oper} {iop : IOp} {r : AV} (hc : cOp? P slots ds o.op = some iop) (hk : iop.kd = .pure) (he : evPure loc vals h iop = some r) :
    ∃ v, (execOp ρ o).run P w = .ok (.value v) w ∧ AR ι r v := by
  obtain ⟨dst, op, ty, pos, after, guard⟩ := o
  cases op <;> simp only [cOp?] at hc
  case move x =>
    obtain ⟨a, ha, hc⟩ := ob_some hc
    simp only [Option.some.injEq] at hc; subst hc
    simp only [evPure, Option.some.injEq] at he; subst he
    exact ⟨ρ x, rfl, H _ _ ha⟩
  case assign x =>
    obtain ⟨a, ha, hc⟩ := ob_some hc
    simp only [Option.some.injEq] at hc; subst hc
    simp only [evPure, Option.some.injEq] at he; subst he
    exact ⟨ρ x, rfl, H _ _ ha⟩
  case pick c x y =>
    obtain ⟨c', hc', hc⟩ := ob_some hc
    obtain ⟨a, ha, hc⟩ := ob_some hc
    obtain ⟨b, hb, hc⟩ := ob_some hc
    simp only [Option.some.injEq] at hc; subst hc
    simp only [evPure] at he
    split at he
    · rename_i t ht
      have hcc := H _ _ hc'
      rw [ht] at hcc; simp only [AR, CR] at hcc
      simp only [Option.some.injEq] at he; subst he
      cases t with
      | true => exact ⟨ρ x, by simp [execOp, hcc, asBool], H _ _ ha⟩
      | false => exact ⟨ρ y, by simp [execOp, hcc, asBool], H _ _ hb⟩
    · cases he
  case alloc t =>
    obtain ⟨z, hz, hc⟩ := ob_some hc
    simp only [Option.some.injEq] at hc; subst hc; simp [IOp.kd] at hk
  case box t x =>
    obtain ⟨z, hz, hc⟩ := ob_some hc
    simp only [Option.some.injEq] at hc; subst hc; simp [IOp.kd] at hk
  case build t parts =>
    obtain ⟨v, hv, hr'⟩ := build_sound (P := P) (w := w) H hc (by unfold cBuild at hc; exact he)
    refine ⟨v, ?_, hr'⟩
    have := run_value (P := P) hv
    simp only [execOp, ops_map]; exact this
  case buildSlice t len parts =>
    unfold cBuildSlice at hc
    split at hc
    · obtain ⟨z, hz, hc⟩ := ob_some hc
      obtain ⟨n, hn, hc⟩ := ob_some hc
      cases hb : (z.length == n && Nat.ble (len * n) 16777216) with
      | false => rw [hb] at hc; cases hc
      | true =>
        rw [hb] at hc; simp only [cond_true] at hc
        obtain ⟨ps, hps, hc⟩ := ob_some hc
        simp only [Option.some.injEq] at hc; subst hc; simp [IOp.kd] at hk
    · cases hc
  case load t x =>
    obtain ⟨a, ha, hc⟩ := ob_some hc
    obtain ⟨n, hn, hc⟩ := ob_some hc
    obtain ⟨g, hg, hc⟩ := ob_some hc
    cases hb : (g || n == 1) with
    | false => rw [hb] at hc; cases hc
    | true =>
      rw [hb] at hc; simp only [cond_true, Option.some.injEq] at hc; subst hc
      have hx := H _ _ ha
      simp only [evPure] at he
      split at he
      · rename_i i o ho
        rw [ho] at hx
        split at he
        · rename_i l hl
          obtain ⟨u, hu, hr'⟩ := load_sound (P := P) hr hn hg hx hl he
          exact ⟨u, run_value hu, hr'⟩
        · cases he
      · cases he
  case store t x v =>
    obtain ⟨a, ha, hc⟩ := ob_some hc
    obtain ⟨b, hb, hc⟩ := ob_some hc
    obtain ⟨n, hn, hc⟩ := ob_some hc
    simp only [Option.some.injEq] at hc; subst hc; simp [IOp.kd] at hk
  case nilCheck x =>
    obtain ⟨a, ha, hc⟩ := ob_some hc
    simp only [Option.some.injEq] at hc; subst hc
    have hx := H _ _ ha
    simp only [evPure] at he
    split at he
    · rename_i i o ho
      rw [ho] at hx
      simp only [Option.some.injEq] at he; subst he
      obtain ⟨b, base, lim, hi, hv⟩ := hx
      exact ⟨ρ x, by simp only [execOp, hv]; rfl, b, base, lim, hi, hv⟩
    · rename_i f l hf
      rw [hf] at hx
      simp only [Option.some.injEq] at he; subst he
      obtain ⟨vs, hv, hl⟩ := hx
      exact ⟨ρ x, by simp only [execOp, hv]; rfl, vs, hv, hl⟩
    · cases he
  case binOp op t x y yt =>
    obtain ⟨v, hv, hr'⟩ := bin_pure (P := P) (w := w) H hc he
    exact ⟨v, run_value hv, hr'⟩
  case unOp op t x =>
    obtain ⟨a, ha, hc⟩ := ob_some hc
    simp only [Option.some.injEq] at hc; subst hc
    have hx := H _ _ ha
    simp only [evPure] at he
    split at he
    · rename_i q hq
      rw [hq] at hx
      split at he
      · rename_i c hcv
        simp only [Option.some.injEq] at he; subst he
        obtain ⟨u, hu, hr'⟩ := unCV_sound (P := P) (w := w) hcv hx
        exact ⟨u, run_value hu, hr'⟩
      · cases he
    · cases he
  case convert src dst x =>
    obtain ⟨v, hv, hr'⟩ := conv_pure (P := P) H hr hc hk he
    exact ⟨v, run_value hv, hr'⟩
  case makeFunc fn first caps =>
    cases fn <;> simp only [reduceCtorEq] at hc
    case func f =>
      cases hb : first.size == 0 with
      | false => rw [hb] at hc; cases hc
      | true =>
        rw [hb] at hc; simp only [cond_true] at hc
        simp at hb; subst hb
        obtain ⟨cs, hcs, hc⟩ := ob_some hc
        simp only [Option.some.injEq] at hc; subst hc
        simp only [evPure] at he
        split at he
        · rename_i l hl
          simp only [Option.some.injEq] at he; subst he
          have := caps_sound (cXs_sound H hcs) hl
          exact ⟨.func (.func f) #[] (caps.map ρ), by simp [execOp, Instr.makeFunc], caps.map ρ, rfl, by simpa using this⟩
        · cases he
  case makeSlice t l c =>
    unfold cMakeSlice at hc
    split at hc
    · obtain ⟨z, hz, hc⟩ := ob_some hc
      obtain ⟨n, hn, hc⟩ := ob_some hc
      obtain ⟨m, hm, hc⟩ := ob_some hc
      obtain ⟨x, hx, hc⟩ := ob_some hc
      obtain ⟨y, hy, hc⟩ := ob_some hc
      cases hb : (z.length == n && Nat.ble m 1024) with
      | false => rw [hb] at hc; cases hc
      | true => rw [hb] at hc; simp only [cond_true, Option.some.injEq] at hc; subst hc; simp [IOp.kd] at hk
    · cases hc
  case makeChan t n =>
    split at hc
    · obtain ⟨b, hb, hc⟩ := ob_some hc
      obtain ⟨x, hx, hc⟩ := ob_some hc
      cases hb : (Nat.ble b 1024) with
      | false => rw [hb] at hc; cases hc
      | true => rw [hb] at hc; simp only [cond_true, Option.some.injEq] at hc; subst hc; simp [IOp.kd] at hk
    · cases hc
  case slice t x lo hi mx =>
    unfold cSlice at hc
    obtain ⟨a, ha, hc⟩ := ob_some hc
    obtain ⟨l, hl, hc⟩ := ob_some hc
    obtain ⟨r', hr'', hc⟩ := ob_some hc
    obtain ⟨m, hm, hc⟩ := ob_some hc
    have none_of : m = none → mx = none := by
      intro e; subst e
      cases mx with
      | none => rfl
      | some z =>
        unfold cXo at hm
        split at hm
        · rename_i heq; cases heq
        · split at hm <;> simp at hm
    split at hc
    · rename_i hu
      cases m with
      | some _ => cases hc
      | none =>
        simp only [Option.some.injEq] at hc; subst hc
        have := none_of rfl; subst this
        obtain ⟨v, hv, hr'⟩ := sstr_sound (P := P) (w := w) H hu ha hl hr'' he
        exact ⟨v, run_value hv, hr'⟩
    · rename_i e hu
      obtain ⟨sz, hsz, hc⟩ := ob_some hc
      have hmx : mx.isSome → hi.isSome := by
        intro hs
        cases m with
        | none => rw [none_of rfl] at hs; cases hs
        | some _ =>
          cases r' with
          | none => cases hc
          | some _ =>
            cases hi with
            | some _ => rfl
            | none => simp [cXo] at hr''
      have : some (IOp.slice sz a l r' m) = some iop := by
        cases m <;> cases r' <;> first | exact hc | cases hc
      simp only [Option.some.injEq] at this; subst this
      obtain ⟨v, hv, hr'⟩ := slice_sound (P := P) (w := w) H hu hsz ha hl hr'' hm hmx he
      exact ⟨v, run_value hv, hr'⟩
    · rename_i n e hu
      obtain ⟨sz, hsz, hc⟩ := ob_some hc
      cases m with
      | some _ => cases hc
      | none =>
        simp only [Option.some.injEq] at hc; subst hc
        have := none_of rfl; subst this
        obtain ⟨v, hv, hr'⟩ := sarr_sound (P := P) (w := w) H hu hsz ha hl hr'' he
        exact ⟨v, run_value hv, hr'⟩
    · cases hc
  case fieldAddr t x f =>
    unfold cFieldAddr at hc
    obtain ⟨a, ha, hc⟩ := ob_some hc
    have hx := H _ _ ha
    split at hc
    · rename_i fs hu
      obtain ⟨fd, hf, hc⟩ := ob_some hc
      obtain ⟨n, hn, hc⟩ := ob_some hc
      cases hb : n == 0 with
      | true => rw [hb] at hc; cases hc
      | false =>
        rw [hb] at hc; simp only [cond_false, Option.some.injEq] at hc; subst hc
        simp at hb
        simp only [evPure] at he
        split at he
        · rename_i i o ho
          rw [ho] at hx
          obtain ⟨b, base, lim, hi, hv⟩ := hx
          simp only [Option.some.injEq] at he; subst he
          refine ⟨.pointer (some ⟨b, base + (o + fd.offset), none⟩), run_value ?_, b, base, lim, hi, rfl⟩
          rw [hv]
          simp [Instr.fieldAt, Instr.sureAddr, run_underlying hu, hf, fieldPlace, run_size hn, hb, Addr.add_lit, Nat.add_assoc]
        · cases he
    · cases hc
  case field t x f =>
    unfold cField at hc
    obtain ⟨a, ha, hc⟩ := ob_some hc
    have hx := H _ _ ha
    split at hc
    · rename_i fs hu
      obtain ⟨fd, hf, hc⟩ := ob_some hc
      obtain ⟨n, hn, hc⟩ := ob_some hc
      obtain ⟨g, hg, hc⟩ := ob_some hc
      simp only [Option.some.injEq] at hc; subst hc
      simp only [evPure] at he
      split at he
      · rename_i l hl
        rw [hl] at hx
        obtain ⟨cs, hv, hcs⟩ := hx
        split at he
        · rename_i q hq
          obtain ⟨v, hv', hr'⟩ := run_part (P := P) (w := w) hn hg hcs hq he
          refine ⟨v, run_value ?_, hr'⟩
          rw [hv]
          simp [Instr.field, run_underlying hu, hf, asAgg, hv']
        · cases he
      · cases he
    · cases hc
  case indexAddr t x i =>
    unfold cIdxAddr at hc
    obtain ⟨a, ha, hc⟩ := ob_some hc
    obtain ⟨b, hb, hc⟩ := ob_some hc
    split at hc
    · rename_i e hu
      obtain ⟨sz, hsz, hc⟩ := ob_some hc
      simp only [Option.some.injEq] at hc; subst hc
      obtain ⟨v, hv, hr'⟩ := iaddr_sound (P := P) (w := w) H hu hsz ha hb he rfl
      exact ⟨v, run_value hv, hr'⟩
    · rename_i n e hu
      obtain ⟨sz, hsz, hc⟩ := ob_some hc
      simp only [Option.some.injEq] at hc; subst hc
      obtain ⟨v, hv, hr'⟩ := iaddrA_sound (P := P) (w := w) H hu hsz ha hb he
      exact ⟨v, run_value hv, hr'⟩
    · cases hc
  case index t x i =>
    unfold cIdx at hc
    obtain ⟨a, ha, hc⟩ := ob_some hc
    obtain ⟨b, hb, hc⟩ := ob_some hc
    split at hc
    · rename_i hu
      simp only [Option.some.injEq] at hc; subst hc
      obtain ⟨v, hv, hr'⟩ := idxS_sound (P := P) (w := w) H hu ha hb he
      exact ⟨v, run_value hv, hr'⟩
    · rename_i n e hu
      obtain ⟨sz, hsz, hc⟩ := ob_some hc
      obtain ⟨g, hg, hc⟩ := ob_some hc
      simp only [Option.some.injEq] at hc; subst hc
      obtain ⟨v, hv, hr'⟩ := idxA_sound (P := P) (w := w) H hu hsz hg ha hb he
      exact ⟨v, run_value hv, hr'⟩
    · cases hc
  case extract x i =>
    obtain ⟨a, ha, hc⟩ := ob_some hc
    simp only [Option.some.injEq] at hc; subst hc
    have hx := H _ _ ha
    simp only [evPure] at he
    split at he
    · rename_i l hl
      rw [hl] at hx
      obtain ⟨vs, hv, hvs⟩ := hx
      split at he
      · rename_i q hq
        simp only [Option.some.injEq] at he; subst he
        obtain ⟨u, hu, hxr⟩ := hvs.get _ _ hq
        have hu' : vs[i]? = some u := by simpa using hu
        refine ⟨u, run_value ?_, AR.of_xv.2 hxr⟩
        rw [hv]
        simp [Instr.extract, hu']
      · cases he
    · cases he
  case call c =>
    unfold cCall at hc
    split at hc
    · rename_i b hb
      obtain ⟨v, hv, hr'⟩ := builtin_pure (P := P) (w := w) (ty := ty) (cs := c.args.map fun | .const _ => true | _ => false) H hr hc hk he
      refine ⟨v, ?_, hr'⟩
      simp only [execOp, resolve, hb, Sem.run_bind, Sem.run_pure, Result.andThen_ok, invoke]
      exact hv
    · obtain ⟨as, ha, hc⟩ := ob_some hc
      simp only [Option.some.injEq] at hc; subst hc; simp [IOp.kd] at hk
    · obtain ⟨f, hf, hc⟩ := ob_some hc
      obtain ⟨as, ha, hc⟩ := ob_some hc
      simp only [Option.some.injEq] at hc; subst hc; simp [IOp.kd] at hk
    · cases hc
  case send ch v =>
    obtain ⟨f, hf, hc⟩ := ob_some hc
    obtain ⟨as, ha, hc⟩ := ob_some hc
    simp only [Option.some.injEq] at hc; subst hc; simp [IOp.kd] at hk
  case select cases blocking =>
    unfold cSelect at hc
    split at hc
    · obtain ⟨f, hf, hc⟩ := ob_some hc
      split at hc
      · obtain ⟨x, hx, hc⟩ := ob_some hc
        obtain ⟨z, hz, hc⟩ := ob_some hc
        simp only [Option.some.injEq] at hc; subst hc; simp [IOp.kd] at hk
      · obtain ⟨x, hx, hc⟩ := ob_some hc
        obtain ⟨z, hz, hc⟩ := ob_some hc
        simp only [Option.some.injEq] at hc; subst hc; simp [IOp.kd] at hk
    · cases hc
  all_goals cases hc
end ops
end Lav
