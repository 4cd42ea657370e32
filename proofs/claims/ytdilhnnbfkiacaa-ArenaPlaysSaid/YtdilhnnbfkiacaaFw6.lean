/-
  Operations that leave the heap alone, one by one, and all together.
-/
import Derived.Test.YtdilhnnbfkiacaaFw5
namespace Lav
open Go

theorem size_of_bytes {s : ByteArray} {l : List Nat} (h : s.data.toList.map UInt8.toNat = l) : s.size = l.length := by
  rw [← h]; simp

section ops
variable {P : Program} {slots : List Nat} {ds : List (Option Nat)} {loc vals : List AV} {ρ : Operand → Value} {ι : Inj} {B : Nat} {h : Heap} {w : World}

/-! ### loads -/
theorem load_sound {t n : Nat} {g : Bool} {i o : Nat} {l : List CV} {a : AV} {v : Value} (hr : HR B ι h.get w) (hn : tSize P t = some n) (hg : tAgg P t = some g)
    (hv : CR ι (.ptr i o) v) (hl : h.read i o n = some l) (ha : AV.ofCells g l = some a) : ∃ u, (Instr.loadAt t v).run P w = .ok u w ∧ AR ι a u := by
  obtain ⟨b, base, lim, hi, rfl⟩ := hv
  obtain ⟨b', base', lim', vs, hi', h2, hlen, _, hcell, hrun⟩ := hr.loads hl
  rw [hi] at hi'; simp only [Option.some.injEq, Prod.mk.injEq] at hi'
  obtain ⟨rfl, rfl, rfl⟩ := hi'
  rcases ofCells_sound ha h2 with ⟨rfl, rfl⟩ | ⟨rfl, x, u, rfl, rfl, rfl, hcr⟩
  · exact ⟨.agg vs.toArray, by simp [Instr.loadAt, Instr.sureAddr, loadVar, run_agg hg, run_size hn, hrun], _, rfl, by simpa using h2⟩
  · have := hcell 0 u rfl
    exact ⟨u, by simp [Instr.loadAt, Instr.sureAddr, loadVar, run_agg hg, show w.cell? ⟨b, base + o, none⟩ = some u from this], hcr⟩

/-! ### bytes to a text -/
theorem bytesOf_spec {ι : Inj} : ∀ {l : List CV} {r : List Nat} {vs : List Value}, bytesOf l = some r → All2 (CR ι) l vs →
    ∃ ns : List Int, vs = ns.map (Value.int .u8) ∧ (∀ n ∈ ns, 0 ≤ n ∧ n < 256) ∧ ns.map Int.toNat = r
  | [], r, [], h, _ => by simp [bytesOf] at h; subst h; exact ⟨[], rfl, by simp, rfl⟩
  | x :: l, r, v :: vs, h, ⟨h1, h2⟩ => by
    cases x with
    | int k n =>
      cases k <;> cases n <;> simp only [bytesOf, reduceCtorEq] at h
      rename_i n
      cases hb : Nat.blt n 256 with
      | false => rw [hb] at h; cases h
      | true =>
        rw [hb] at h; simp only [cond_true] at h
        split at h
        · rename_i r' hr'
          simp at h; subst h
          obtain ⟨ns, e1, e2, e3⟩ := bytesOf_spec hr' h2
          simp only [CR] at h1
          have hlt : n < 256 := Nat.lt_of_succ_le (Nat.le_of_ble_eq_true hb)
          refine ⟨Int.ofNat n :: ns, by simp [h1, e1], ?_, by simp [e3]⟩
          intro m hm
          rcases List.mem_cons.1 hm with rfl | hm
          · simp; omega
          · exact e2 m hm
        · cases h
    | _ => simp [bytesOf] at h
  | [], _, _ :: _, _, h => h.elim
  | _ :: _, _, [], _, h => h.elim

/-! ### slicing -/
theorem bound_cases {x : Option Operand} {y : Option X} {d m : Nat} (H : OpsR slots ds loc vals ι ρ) (hc : cXo slots ds x = some y) (h : bound loc vals y d = some m) :
    (x = none ∧ y = none ∧ m = d) ∨ ∃ z z' k, x = some z ∧ y = some z' ∧ ρ z = .int k (Int.ofNat m) := by
  cases x with
  | none => simp [cXo] at hc; subst hc; simp [bound] at h; exact .inl ⟨rfl, rfl, h.symm⟩
  | some z =>
    unfold cXo at hc
    split at hc
    · rename_i heq; cases heq
    · rename_i z' heq
      simp at heq; subst heq
      split at hc
      · rename_i y' hy
        simp at hc; subst hc
        obtain ⟨k, hk⟩ := asNat_sound h (H _ _ hy)
        exact .inr ⟨z, y', k, rfl, rfl, hk⟩
      · cases hc

/-- The bounds of a slicing, as the model asks them. -/
theorem run_bounds {isS : Bool} {len cap l r m : Nat} {lo hi mx : Option Operand} {lo' hi' mx' : Option X} (H : OpsR slots ds loc vals ι ρ)
    (cl : cXo slots ds lo = some lo') (ch : cXo slots ds hi = some hi') (cm : cXo slots ds mx = some mx') (hmx : mx.isSome → hi.isSome)
    (hl : bound loc vals lo' 0 = some l) (hh : bound loc vals hi' len = some r) (hm : bound loc vals mx' cap = some m) (h1 : l ≤ r) (h2 : r ≤ m) (h3 : m ≤ cap) :
    (Instr.sliceBounds isS len cap (lo.map ρ) (hi.map ρ) (mx.map ρ)).run P w = .ok (l, r, m) w := by
  rcases bound_cases H cm hm with ⟨rfl, rfl, rfl⟩ | ⟨z, z', k, rfl, rfl, ez⟩
  · rcases bound_cases H ch hh with ⟨rfl, rfl, rfl⟩ | ⟨y, y', k', rfl, rfl, ey⟩
    · rcases bound_cases H cl hl with ⟨rfl, rfl, rfl⟩ | ⟨x, x', k'', rfl, rfl, ex⟩
      · simp [Instr.sliceBounds]
      · simp only [Instr.sliceBounds, Option.map_some, Option.map_none, ex, Sem.run_bind, Sem.run_pure, Result.andThen_ok, run_bound h1]
    · rcases bound_cases H cl hl with ⟨rfl, rfl, rfl⟩ | ⟨x, x', k'', rfl, rfl, ex⟩
      · simp only [Instr.sliceBounds, Option.map_some, Option.map_none, ey, Sem.run_bind, Sem.run_pure, Result.andThen_ok, run_bound h2]
      · simp only [Instr.sliceBounds, Option.map_some, Option.map_none, ey, ex, Sem.run_bind, Sem.run_pure, Result.andThen_ok, run_bound h2, run_bound h1]
  · cases hi with
    | none => simp at hmx
    | some y =>
      rcases bound_cases H ch hh with ⟨e, _⟩ | ⟨y, y', k', e, rfl, ey⟩
      · cases e
      · cases e
        rcases bound_cases H cl hl with ⟨rfl, rfl, rfl⟩ | ⟨x, x', k'', rfl, rfl, ex⟩
        · simp only [Instr.sliceBounds, Option.map_some, Option.map_none, ez, ey, Sem.run_bind, Sem.run_pure, Result.andThen_ok, run_bound h3, run_bound h2]
        · simp only [Instr.sliceBounds, Option.map_some, ez, ey, ex, Sem.run_bind, Sem.run_pure, Result.andThen_ok, run_bound h3, run_bound h2, run_bound h1]

theorem cap_step {c c' : Cap} {o l cap m lim sz : Nat} (hc : CapOK c o cap lim) (hlm : l ≤ m) (hm : m ≤ cap) (h : (c = .dy sz ∧ c' = .dy sz ∧ m = cap) ∨ c' = .ex (m - l)) : CapOK c' (o + l * sz) (m - l) lim := by
  rcases h with ⟨rfl, rfl, rfl⟩ | rfl
  · simp only [CapOK] at hc ⊢
    have : l * sz + (m - l) * sz = m * sz := by rw [← Nat.add_mul]; congr 1; omega
    omega
  · rfl

theorem slice_some {t e sz : Nat} {i o len l r m : Nat} {c' : Cap} {v : Value} {b base lim cap : Nat} {a : Addr} {lo hi' mx : Option Value} (hu : P.underlying t = some (.slice e)) (hsz : tSize P e = some sz)
    (hi : ι i = some (b, base, lim)) (hv : v = .slice (some a) len cap) (ha : cap ≠ 0 → a = ⟨b, base + o, none⟩)
    (hb : (Instr.sliceBounds true len cap lo hi' mx).run P w = .ok (l, r, m) w) (h1 : l ≤ r) (h2 : r ≤ m) (h3 : m ≤ cap) (hc' : CapOK c' (o + l * sz) (m - l) lim) :
    ∃ u, (Instr.sliceAt t v lo hi' mx).run P w = .ok u w ∧ CR ι (.sl i (o + l * sz) (r - l) c') u := by
  subst hv
  refine ⟨.slice (if m = l then some a else (some a).map (·.add (l * sz))) (r - l) (m - l), ?_, ?_⟩
  · simp only [Instr.sliceAt, Instr.slice, Sem.run_bind, run_underlying hu, Result.andThen_ok, hb, run_size hsz, Sem.run_pure]
  · refine ⟨b, base, lim, if m = l then a else a.add (l * sz), m - l, hi, ?_, by omega, fun hne => ?_, hc'⟩
    · by_cases e : m = l
      · simp [e]
      · simp [e]
    · have e : m ≠ l := by omega
      rw [if_neg e, ha (by omega), Addr.add_lit, Nat.add_assoc]

theorem slice_sound {t e sz : Nat} {x : Operand} {lo hi mx : Option Operand} {a : X} {lo' hi' mx' : Option X} {r : AV} (H : OpsR slots ds loc vals ι ρ) (hu : P.underlying t = some (.slice e)) (hsz : tSize P e = some sz)
    (ca : cX slots ds x = some a) (cl : cXo slots ds lo = some lo') (ch : cXo slots ds hi = some hi') (cm : cXo slots ds mx = some mx') (hmx : mx.isSome → hi.isSome)
    (he : evPure loc vals h (.slice sz a lo' hi' mx') = some r) : ∃ v, (Instr.sliceAt t (ρ x) (lo.map ρ) (hi.map ρ) (mx.map ρ)).run P w = .ok v w ∧ AR ι r v := by
  have hx := H _ _ ca
  simp only [evPure] at he
  cases hxe : a.eval loc vals with
  | c q =>
    cases q with
    | sl i o len c =>
      rw [hxe] at hx; simp only [hxe] at he
      obtain ⟨b, base, lim, ad, cap, hi0, hv, hlc, had, hcap⟩ := hx
      split at he
      · rename_i l rr hl hh
        cases hmx' : mx' with
        | none =>
          have hbm : bound loc vals mx' cap = some cap := by rw [hmx']; rfl
          cases c with
          | dy sz' =>
            simp only [hmx'] at he
            cases hc : (Nat.ble l rr && Nat.ble rr len && sz == sz') with
            | false => rw [hc] at he; cases he
            | true =>
              rw [hc] at he
              simp only [cond_true, Option.some.injEq] at he
              simp only [Bool.and_eq_true, Nat.ble_eq, beq_iff_eq] at hc
              obtain ⟨⟨c1, c2⟩, rfl⟩ := hc
              subst he
              have hb := run_bounds (P := P) (w := w) (isS := true) (len := len) (cap := cap) H cl ch cm hmx hl hh hbm c1 (by omega) (Nat.le_refl _)
              exact slice_some (c' := .dy sz) hu hsz hi0 hv had hb c1 (by omega) (Nat.le_refl _) (cap_step (c := .dy sz) hcap (by omega) (Nat.le_refl _) (.inl ⟨rfl, rfl, rfl⟩))
          | ex k =>
            simp only [hmx'] at he
            have hk : cap = k := hcap
            subst hk
            cases hc : (Nat.ble l rr && Nat.ble rr cap) with
            | false => rw [hc] at he; cases he
            | true =>
              rw [hc] at he
              simp only [cond_true, Option.some.injEq] at he
              simp only [Bool.and_eq_true, Nat.ble_eq] at hc
              subst he
              have hb := run_bounds (P := P) (w := w) (isS := true) (len := len) (cap := cap) H cl ch cm hmx hl hh hbm hc.1 hc.2 (Nat.le_refl _)
              exact slice_some (c' := .ex (cap - l)) hu hsz hi0 hv had hb hc.1 hc.2 (Nat.le_refl _) rfl
        | some m' =>
          have key : ∀ m, asNat (m'.eval loc vals) = some m → l ≤ rr → rr ≤ m → m ≤ cap → some (AV.c (.sl i (o + l * sz) (rr - l) (.ex (m - l)))) = some r →
              ∃ v, (Instr.sliceAt t (ρ x) (lo.map ρ) (hi.map ρ) (mx.map ρ)).run P w = .ok v w ∧ AR ι r v := by
            intro m hm c1 c2 c3 e
            simp only [Option.some.injEq] at e; subst e
            have hb := run_bounds (P := P) (w := w) (isS := true) (len := len) (cap := cap) H cl ch cm hmx hl hh (show bound loc vals mx' cap = some m by rw [hmx']; exact hm) c1 c2 c3
            exact slice_some (c' := .ex (m - l)) hu hsz hi0 hv had hb c1 c2 c3 rfl
          cases c with
          | dy sz' =>
            simp only [hmx'] at he
            split at he
            · rename_i m hm
              cases hc : (Nat.ble l rr && Nat.ble rr m && Nat.ble m len) with
              | false => rw [hc] at he; cases he
              | true =>
                rw [hc] at he
                simp only [Bool.and_eq_true, Nat.ble_eq] at hc
                exact key m hm hc.1.1 hc.1.2 (by omega) he
            · cases he
          | ex k =>
            simp only [hmx'] at he
            have hk : cap = k := hcap
            split at he
            · rename_i m hm
              cases hc : (Nat.ble l rr && Nat.ble rr m && Nat.ble m k) with
              | false => rw [hc] at he; cases he
              | true =>
                rw [hc] at he
                simp only [Bool.and_eq_true, Nat.ble_eq] at hc
                exact key m hm hc.1.1 hc.1.2 (by omega) he
            · cases he
      · cases he
    | nils =>
      rw [hxe] at hx; simp only [hxe] at he
      simp only [AR, CR] at hx
      split at he
      · rename_i hl hh hm
        simp only [Option.some.injEq] at he; subst he
        have hb := run_bounds (P := P) (w := w) (isS := true) (len := 0) (cap := 0) H cl ch cm hmx hl hh hm (Nat.le_refl _) (Nat.le_refl _) (Nat.le_refl _)
        refine ⟨.slice none 0 0, ?_, rfl⟩
        rw [hx]
        simp only [Instr.sliceAt, Instr.slice, Sem.run_bind, run_underlying hu, Result.andThen_ok, hb, run_size hsz, Sem.run_pure]
        rfl
      · cases he
    | _ => simp [hxe] at he
  | _ => simp [hxe] at he

theorem sarr_sound {t n e sz : Nat} {x : Operand} {lo hi : Option Operand} {a : X} {lo' hi' : Option X} {r : AV} (H : OpsR slots ds loc vals ι ρ) (hu : P.underlying t = some (.array n e)) (hsz : tSize P e = some sz)
    (ca : cX slots ds x = some a) (cl : cXo slots ds lo = some lo') (ch : cXo slots ds hi = some hi')
    (he : evPure loc vals h (.sarr n sz a lo' hi') = some r) : ∃ v, (Instr.sliceAt t (ρ x) (lo.map ρ) (hi.map ρ) none).run P w = .ok v w ∧ AR ι r v := by
  have hx := H _ _ ca
  simp only [evPure] at he
  cases hxe : a.eval loc vals with
  | c q =>
    cases q with
    | ptr i o =>
      rw [hxe] at hx; simp only [hxe] at he
      obtain ⟨b, base, lim, hi0, hv⟩ := hx
      split at he
      · rename_i l rr hl hh
        cases hc : (Nat.ble l rr && Nat.ble rr n) with
        | false => rw [hc] at he; cases he
        | true =>
          rw [hc] at he
          simp only [cond_true, Option.some.injEq] at he
          simp only [Bool.and_eq_true, Nat.ble_eq] at hc
          subst he
          have hb := run_bounds (P := P) (w := w) (isS := false) (len := n) (cap := n) (mx := none) (mx' := none) H cl ch rfl (by simp) hl hh rfl hc.1 hc.2 (Nat.le_refl _)
          refine ⟨.slice (some (if n = l then ⟨b, base + o, none⟩ else Addr.add ⟨b, base + o, none⟩ (l * sz))) (rr - l) (n - l), ?_, ?_⟩
          · rw [hv]
            simp only [Option.map_none] at hb
            simp only [Instr.sliceAt, Instr.sureAddr, Sem.run_bind, run_underlying hu, Result.andThen_ok, hb, run_size hsz, Sem.run_pure]
          · refine ⟨b, base, lim, _, n - l, hi0, rfl, by omega, fun hne => ?_, rfl⟩
            rw [if_neg (by omega), Addr.add_lit, Nat.add_assoc]
      · cases he
    | _ => simp [hxe] at he
  | _ => simp [hxe] at he

theorem sstr_sound {t : Nat} {x : Operand} {lo hi : Option Operand} {a : X} {lo' hi' : Option X} {r : AV} (H : OpsR slots ds loc vals ι ρ) (hu : P.underlying t = some .string)
    (ca : cX slots ds x = some a) (cl : cXo slots ds lo = some lo') (ch : cXo slots ds hi = some hi')
    (he : evPure loc vals h (.sstr a lo' hi') = some r) : ∃ v, (Instr.sliceAt t (ρ x) (lo.map ρ) (hi.map ρ) none).run P w = .ok v w ∧ AR ι r v := by
  have hx := H _ _ ca
  simp only [evPure] at he
  cases hxe : a.eval loc vals with
  | c q =>
    cases q with
    | str s =>
      rw [hxe] at hx; simp only [hxe] at he
      obtain ⟨bs, hv, hs⟩ := hx
      split at he
      · rename_i l rr hl hh
        cases hc : (Nat.ble l rr && Nat.ble rr s.length) with
        | false => rw [hc] at he; cases he
        | true =>
          rw [hc] at he
          simp only [cond_true, Option.some.injEq] at he
          simp only [Bool.and_eq_true, Nat.ble_eq] at hc
          subst he
          have hlen := size_of_bytes hs
          rw [← hlen] at hh
          have hb := run_bounds (P := P) (w := w) (isS := false) (len := bs.size) (cap := bs.size) (mx := none) (mx' := none) H cl ch rfl (by simp) hl hh rfl hc.1 (by omega) (Nat.le_refl _)
          refine ⟨.string (bs.extract l rr), ?_, bs.extract l rr, rfl, ?_⟩
          · rw [hv]
            simp only [Option.map_none] at hb
            simp only [Instr.sliceAt, Instr.slice, Sem.run_bind, run_underlying hu, Result.andThen_ok, hb, Option.isSome_none, Bool.false_eq_true, if_false, Sem.run_pure]
          · rw [ByteArray.data_extract, Array.toList_extract, List.extract_eq_take_drop, List.map_take, List.map_drop, hs]
      · cases he
    | _ => simp [hxe] at he
  | _ => simp [hxe] at he


/-! ### indexing -/
theorem iaddr_sound {t e sz i : Nat} {x y : Operand} {a b : X} {r : AV} (H : OpsR slots ds loc vals ι ρ) (hu : P.underlying t = some (.slice e)) (hsz : tSize P e = some sz)
    (ca : cX slots ds x = some a) (cb : cX slots ds y = some b) (he : evPure loc vals h (.iaddr sz a b) = some r) (_ : i = 0) :
    ∃ v, (Instr.indexAt t (ρ x) (ρ y)).run P w = .ok v w ∧ AR ι r v := by
  have hx := H _ _ ca
  have hy := H _ _ cb
  simp only [evPure] at he
  split at he
  · rename_i i o len c j h1 h2
    rw [h1] at hx
    obtain ⟨k, hk⟩ := asNat_sound h2 hy
    obtain ⟨bb, base, lim, ad, cap, hi0, hv, hlc, had, hcap⟩ := hx
    cases hc : Nat.blt j len with
    | false => rw [hc] at he; cases he
    | true =>
      rw [hc] at he; simp only [cond_true, Option.some.injEq] at he; subst he
      have hlt : j < len := Nat.lt_of_succ_le (Nat.le_of_ble_eq_true hc)
      refine ⟨.pointer (some ⟨bb, base + (o + j * sz), none⟩), ?_, bb, base, lim, hi0, rfl⟩
      rw [hv, hk, had (by omega)]
      have h1 : (0 : Int) ≤ Int.ofNat j ∧ Int.ofNat j < (len : Int) := by constructor <;> simp <;> omega
      simp only [Instr.indexAt, Sem.run_bind, run_asIntOf, run_underlying hu, Result.andThen_ok, Sem.run_pure, Sem.run_ite, h1, and_self, if_true, run_size hsz, Addr.add_lit]
      simp [Nat.add_assoc]
  · cases he

theorem iaddrA_sound {t e n sz : Nat} {x y : Operand} {a b : X} {r : AV} (H : OpsR slots ds loc vals ι ρ) (hu : P.underlying t = some (.array n e)) (hsz : tSize P e = some sz)
    (ca : cX slots ds x = some a) (cb : cX slots ds y = some b) (he : evPure loc vals h (.iaddrA sz n a b) = some r) :
    ∃ v, (Instr.indexAt t (ρ x) (ρ y)).run P w = .ok v w ∧ AR ι r v := by
  have hx := H _ _ ca
  have hy := H _ _ cb
  simp only [evPure] at he
  split at he
  · rename_i i o j h1 h2
    rw [h1] at hx
    obtain ⟨k, hk⟩ := asNat_sound h2 hy
    obtain ⟨bb, base, lim, hi0, hv⟩ := hx
    cases hc : Nat.blt j n with
    | false => rw [hc] at he; cases he
    | true =>
      rw [hc] at he; simp only [cond_true, Option.some.injEq] at he; subst he
      have hlt : j < n := Nat.lt_of_succ_le (Nat.le_of_ble_eq_true hc)
      refine ⟨.pointer (some ⟨bb, base + (o + j * sz), none⟩), ?_, bb, base, lim, hi0, rfl⟩
      rw [hv, hk]
      have h1 : (0 : Int) ≤ Int.ofNat j ∧ Int.ofNat j < (n : Int) := by constructor <;> simp <;> omega
      simp only [Instr.indexAt, Instr.sureAddr, Sem.run_bind, run_asIntOf, run_underlying hu, Result.andThen_ok, Sem.run_pure, Sem.run_ite, h1, and_self, if_true, run_size hsz, Addr.add_lit]
      simp [Nat.add_assoc]
  · cases he

theorem idxA_sound {t e n sz : Nat} {g : Bool} {x y : Operand} {a b : X} {r : AV} (H : OpsR slots ds loc vals ι ρ) (hu : P.underlying t = some (.array n e)) (hsz : tSize P e = some sz) (hg : tAgg P e = some g)
    (ca : cX slots ds x = some a) (cb : cX slots ds y = some b) (he : evPure loc vals h (.idxA sz n g a b) = some r) :
    ∃ v, (Instr.index t (ρ x) (ρ y)).run P w = .ok v w ∧ AR ι r v := by
  have hx := H _ _ ca
  have hy := H _ _ cb
  simp only [evPure] at he
  split at he
  · rename_i l j h1 h2
    rw [h1] at hx
    obtain ⟨k, hk⟩ := asNat_sound h2 hy
    obtain ⟨cs, hv, hl⟩ := hx
    cases hc : Nat.blt j n with
    | false => rw [hc] at he; cases he
    | true =>
      rw [hc] at he; simp only [cond_true] at he
      have hlt : j < n := Nat.lt_of_succ_le (Nat.le_of_ble_eq_true hc)
      split at he
      · rename_i q hq
        obtain ⟨v, hv', hr'⟩ := run_part (P := P) (w := w) hsz hg hl hq he
        refine ⟨v, ?_, hr'⟩
        rw [hv, hk]
        have h1 : (0 : Int) ≤ Int.ofNat j ∧ Int.ofNat j < (n : Int) := by constructor <;> simp <;> omega
        have h2 : (Int.ofNat j).toNat = j := rfl
        simp only [Instr.index, Sem.run_bind, run_asIntOf, run_underlying hu, Result.andThen_ok, Sem.run_ite, h1, and_self, if_true, run_size hsz, h2, hv']
      · cases he
  · cases he

theorem idxS_sound {t : Nat} {x y : Operand} {a b : X} {r : AV} (H : OpsR slots ds loc vals ι ρ) (hu : P.underlying t = some .string)
    (ca : cX slots ds x = some a) (cb : cX slots ds y = some b) (he : evPure loc vals h (.idxS a b) = some r) :
    ∃ v, (Instr.index t (ρ x) (ρ y)).run P w = .ok v w ∧ AR ι r v := by
  have hx := H _ _ ca
  have hy := H _ _ cb
  simp only [evPure] at he
  split at he
  · rename_i s j h1 h2
    rw [h1] at hx
    obtain ⟨k, hk⟩ := asNat_sound h2 hy
    obtain ⟨bs, hv, hs⟩ := hx
    split at he
    · rename_i c hc
      simp only [Option.some.injEq] at he; subst he
      rw [← hs, List.getElem?_map] at hc
      cases hb : bs.data.toList[j]? with
      | none => rw [hb] at hc; simp at hc
      | some u =>
        rw [hb] at hc; simp at hc
        have hj : j < bs.size := by
          rcases Nat.lt_or_ge j bs.data.toList.length with h' | h'
          · simpa using h'
          · rw [List.getElem?_eq_none h'] at hb; cases hb
        have hbj : bs[j]? = some u := by
          have e1 : bs[j]? = some bs[j] := by simp [hj]
          rw [e1]
          have e2 : bs.data.toList[j]? = some bs[j] := by
            have : j < bs.data.toList.length := by simpa using hj
            rw [List.getElem?_eq_getElem this]; rfl
          rw [e2] at hb; exact hb
        refine ⟨.int .u8 (Int.ofNat c), ?_, rfl⟩
        rw [hv, hk]
        have h2 : (Int.ofNat j).toNat = j := rfl
        have h3 : (0 : Int) ≤ Int.ofNat j := by simp
        simp only [Instr.index, Sem.run_bind, run_asIntOf, run_underlying hu, Result.andThen_ok, h3, if_true, h2, hbj, Sem.run_pure, hc]
        rfl
    · cases he
  · cases he

/-! ### building -/
theorem setMany_spec : ∀ (vs l : List CV) (o : Nat), o + vs.length ≤ l.length → (setMany l o vs).length = l.length ∧
    ∀ j : Nat, (setMany l o vs)[j]? = if o ≤ j ∧ j < o + vs.length then vs[j - o]? else l[j]?
  | [], l, o, _ => by simp [setMany]; intro j h1 h2; omega
  | v :: vs, l, o, h => by
    simp only [List.length_cons] at h
    obtain ⟨h1, h2⟩ := setMany_spec vs (l.set o v) (o + 1) (by simp; omega)
    refine ⟨by simp [setMany, h1], fun j => ?_⟩
    simp only [setMany, List.length_cons]
    rw [h2 j]
    by_cases e : j = o
    · subst e
      rw [if_neg (by omega), if_pos (by omega), List.getElem?_set_self (by omega)]
      simp
    · by_cases e' : o + 1 ≤ j ∧ j < o + 1 + vs.length
      · rw [if_pos e', if_pos (by omega)]
        rw [show j - o = (j - (o + 1)) + 1 by omega]; simp
      · rw [if_neg e', if_neg (by omega)]
        simp [Ne.symm e]

theorem patch_spec {l vs r : List CV} {o : Nat} (h : patch l o vs = some r) : o + vs.length ≤ l.length ∧ r = setMany l o vs := by
  unfold patch at h
  cases hc : Nat.ble (o + vs.length) l.length with
  | false => rw [hc] at h; cases h
  | true => rw [hc] at h; simp at h; exact ⟨Nat.le_of_ble_eq_true hc, h.symm⟩

theorem fold_set (vs : List Value) : ∀ (k : Nat) (cs : Array Value) (off : Nat),
    ((vs.zipIdx k).foldl (fun cs (p : Value × Nat) => cs.setIfInBounds (off + p.2) p.1) cs).size = cs.size ∧
    ∀ j : Nat, j < cs.size → ((vs.zipIdx k).foldl (fun cs (p : Value × Nat) => cs.setIfInBounds (off + p.2) p.1) cs)[j]? = if off + k ≤ j ∧ j < off + k + vs.length then vs[j - (off + k)]? else cs[j]? := by
  induction vs with
  | nil => intro k cs off; refine ⟨by simp, fun j _ => ?_⟩; simp; intro h1 h2; omega
  | cons v vs ih =>
    intro k cs off
    simp only [List.zipIdx_cons, List.foldl_cons, List.length_cons]
    obtain ⟨h1, h2⟩ := ih (k + 1) (cs.setIfInBounds (off + k) v) off
    refine ⟨by rw [h1]; simp, fun j hj => ?_⟩
    rw [h2 j (by simpa using hj)]
    by_cases e : j = off + k
    · subst e
      rw [if_neg (by omega), if_pos (by omega)]
      simp [hj]
    · by_cases e' : off + (k + 1) ≤ j ∧ j < off + (k + 1) + vs.length
      · rw [if_pos e', if_pos (by omega)]
        rw [show j - (off + k) = (j - (off + (k + 1))) + 1 by omega]; simp
      · rw [if_neg e', if_neg (by omega)]
        rw [Array.getElem?_setIfInBounds_ne (Ne.symm e)]

/-- One part laid in. -/
theorem fill_one {l r vs : List CV} {o : Nat} {cs : Array Value} {us : Array Value} (hl : All2 (CR ι) l cs.toList) (hv : All2 (CR ι) vs us.toList) (hp : patch l o vs = some r) :
    All2 (CR ι) r (us.zipIdx.foldl (fun cs (p : Value × Nat) => cs.setIfInBounds (o + p.2) p.1) cs).toList := by
  obtain ⟨h1, rfl⟩ := patch_spec hp
  obtain ⟨s1, s2⟩ := setMany_spec vs l o h1
  have hlen : l.length = cs.size := by simpa using hl.length
  have hvl : vs.length = us.size := by simpa using hv.length
  have hz : us.zipIdx.foldl (fun cs (p : Value × Nat) => cs.setIfInBounds (o + p.2) p.1) cs = (us.toList.zipIdx 0).foldl (fun cs (p : Value × Nat) => cs.setIfInBounds (o + p.2) p.1) cs := by
    rw [← Array.foldl_toList, Array.toList_zipIdx]
  obtain ⟨f1, f2⟩ := fold_set us.toList 0 cs o
  rw [hz]
  refine All2.of_get (by simp [s1, f1, hlen]) fun j x hx => ?_
  have hj : j < cs.size := by
    rcases Nat.lt_or_ge j (setMany l o vs).length with h' | h'
    · omega
    · rw [List.getElem?_eq_none h'] at hx; cases hx
  rw [s2 j] at hx
  have f2j := f2 j hj
  simp only [Nat.add_zero, Array.length_toList] at f2j
  rw [Array.getElem?_toList, f2j]
  by_cases e : o ≤ j ∧ j < o + vs.length
  · rw [if_pos e] at hx
    rw [if_pos (by omega)]
    exact hv.get _ _ hx
  · rw [if_neg e] at hx
    rw [if_neg (by omega)]
    have := hl.get _ _ hx
    simpa using this

/-- Parts, as the compiler has them and as the model has them. -/
theorem fill_sound {place : Nat → Option (Nat × Nat)} (H : OpsR slots ds loc vals ι ρ) : ∀ {parts : List (Nat × Operand)} {ps : List (Nat × Nat × X)} {qs : List (Nat × List CV)} {l r : List CV} {cs : Array Value},
    partPlaces slots place ds parts = some ps → evalParts loc vals ps = some qs → fillParts l qs = some r → All2 (CR ι) l cs.toList →
    ∃ cs' : Array Value, Instr.fill place cs (parts.map fun (i, x) => (i, ρ x)) = some cs' ∧ All2 (CR ι) r cs'.toList
  | [], ps, qs, l, r, cs, h1, h2, h3, hl => by
    simp [partPlaces] at h1; subst h1
    simp [evalParts] at h2; subst h2
    simp [fillParts] at h3; subst h3
    exact ⟨cs, by simp [Instr.fill], hl⟩
  | (i, x) :: parts, ps, qs, l, r, cs, h1, h2, h3, hl => by
    unfold partPlaces at h1
    split at h1
    · rename_i off n y hp hy
      split at h1
      · rename_i t ht
        simp only [Option.some.injEq] at h1; subst h1
        unfold evalParts at h2
        split at h2
        · rename_i cells hcells
          cases hn : cells.length == n with
          | false => rw [hn] at h2; cases h2
          | true =>
            rw [hn] at h2; simp only [cond_true] at h2
            simp at hn
            split at h2
            · rename_i t' ht'
              simp only [Option.some.injEq] at h2; subst h2
              unfold fillParts at h3
              split at h3
              · rename_i l' hl'
                have hcr := (H _ _ hy).cells hcells
                have hone := fill_one hl hcr hl'
                obtain ⟨b1, _⟩ := patch_spec hl'
                have hsz : (ρ x).cells.size = n := by
                  have := hcr.length
                  simp at this; omega
                have hle : off + (ρ x).cells.size ≤ cs.size := by
                  have := hl.length
                  simp at this; omega
                obtain ⟨cs', f1, f2⟩ := fill_sound H ht ht' h3 hone
                refine ⟨cs', ?_, f2⟩
                simp only [List.map_cons, Instr.fill, hp]
                rw [if_neg (by simp [hsz]; omega)]
                exact f1
              · cases h3
            · cases h2
        · cases h2
      · cases h1
    · cases h1


theorem tZero_inv {t : TypeId} {a : AV} (hz : tZero P t = some a) : ∃ i v, P.info? t = some i ∧ i.zero = some v ∧ absV v = some a := by
  unfold tZero at hz
  cases hi : P.info? t with
  | none => rw [hi] at hz; cases hz
  | some i =>
    rw [hi] at hz
    cases hv : i.zero with
    | none => simp [hv] at hz
    | some v => simp [hv] at hz; exact ⟨i, v, rfl, hv, hz⟩

theorem tZeros_inv {t : TypeId} {z : List CV} (hz : tZeros P t = some z) : ∃ i v, P.info? t = some i ∧ i.zero = some v ∧ ∀ ι : Inj, All2 (CR ι) z v.cells.toList := by
  unfold tZeros at hz
  cases ha : tZero P t with
  | none => rw [ha] at hz; cases hz
  | some a =>
    rw [ha] at hz
    obtain ⟨i, v, h1, h2, h3⟩ := tZero_inv ha
    exact ⟨i, v, h1, h2, fun ι => (absV_sound (ι := ι) h3).cells hz⟩

theorem build_sound {t : TypeId} {parts : List (Nat × Operand)} {iop : IOp} {r : AV} (H : OpsR slots ds loc vals ι ρ) (hc : cBuild P slots ds t parts = some iop)
    (he : evPure loc vals h iop = some r) : ∃ v, (Instr.build t (parts.map fun (i, x) => (i, ρ x)).toArray).run P w = .ok v w ∧ AR ι r v := by
  unfold cBuild at hc
  obtain ⟨z, hz, hc⟩ := ob_some hc
  obtain ⟨it, zv, hit, hzv, hzr⟩ := tZeros_inv hz
  have fin : ∀ (place : Nat → Option (Nat × Nat)) (ps : List (Nat × Nat × X)), partPlaces slots place ds parts = some ps → evPure loc vals h (.build z ps) = some r →
      ∃ (l : List CV) (cs' : Array Value), r = .agg l ∧ Instr.fill place zv.cells (parts.map fun (i, x) => (i, ρ x)) = some cs' ∧ All2 (CR ι) l cs'.toList := by
    intro place ps hp he
    simp only [evPure] at he
    split at he
    · rename_i qs hq
      split at he
      · rename_i l hl
        simp only [Option.some.injEq] at he
        obtain ⟨cs', f1, f2⟩ := fill_sound H hp hq hl (hzr ι)
        exact ⟨l, cs', he.symm, f1, f2⟩
      · cases he
    · cases he
  split at hc
  · rename_i fs hu
    obtain ⟨pl, hpl, hc⟩ := ob_some hc
    obtain ⟨ps, hps, hc⟩ := ob_some hc
    simp only [Option.some.injEq] at hc; subst hc
    obtain ⟨l, cs', rfl, f1, f2⟩ := fin _ ps hps he
    refine ⟨.agg cs', run_build w t _ cs' ?_, _, rfl, f2⟩
    unfold fieldPlaces at hpl
    have e : (fun x : Nat => pl.toArray[x]?) = (fun i => pl[i]?) := by funext i; simp
    simp only [Program.built, hit, hu, hzv, hpl, e]
    exact f1
  · rename_i n e hu
    obtain ⟨m, hm, hc⟩ := ob_some hc
    obtain ⟨ps, hps, hc⟩ := ob_some hc
    simp only [Option.some.injEq] at hc; subst hc
    obtain ⟨l, cs', rfl, f1, f2⟩ := fin _ ps hps he
    refine ⟨.agg cs', run_build w t _ cs' ?_, _, rfl, f2⟩
    unfold tSize at hm
    cases hie : P.info? e with
    | none => rw [hie] at hm; cases hm
    | some ie =>
      rw [hie] at hm; simp at hm
      simp only [Program.built, hit, hu, hzv, hie, hm]
      exact f1
  · cases hc

/-! ### max, min -/
theorem cXs_sound (H : OpsR slots ds loc vals ι ρ) : ∀ {xs : List Operand} {ys : List X}, cXs slots ds xs = some ys → All2 (fun y x => AR ι (y.eval loc vals) (ρ x)) ys xs
  | [], ys, h => by simp [cXs] at h; subst h; trivial
  | x :: r, ys, h => by
    unfold cXs at h
    split at h
    · rename_i y hy
      split at h
      · rename_i t ht
        simp at h; subst h
        exact ⟨H _ _ hy, cXs_sound H ht⟩
      · cases h
    · cases h

theorem fold_sound (f : Int → Int → Int) (g : Value → Value → Sem Value) (hg : ∀ k a b, g (.int k a) (.int k b) = pure (.int k (f a b))) :
    ∀ (ys : List X) (xs : List Operand) (k : IntKind) (a : Int) (r : AV), All2 (fun y x => AR ι (y.eval loc vals) (ρ x)) ys xs → foldInt loc vals f (.c (.int k a)) ys = some r →
      ∃ v, ((xs.map ρ).foldlM g (.int k a)).run P w = .ok v w ∧ AR ι r v
  | [], [], k, a, r, _, he => by simp [foldInt] at he; subst he; exact ⟨_, rfl, rfl⟩
  | y :: ys, x :: xs, k, a, r, ⟨h1, h2⟩, he => by
    simp only [foldInt] at he
    split at he
    · rename_i k' b hb
      have h1 : AR ι (y.eval loc vals) (ρ x) := h1
      rw [hb] at h1
      cases hk : k == k' with
      | false => rw [hk] at he; cases he
      | true =>
        rw [hk] at he; simp only [cond_true] at he
        simp at hk; subst hk
        simp only [AR, CR] at h1
        obtain ⟨v, hv, hr⟩ := fold_sound f g hg ys xs k (f a b) r h2 he
        refine ⟨v, ?_, hr⟩
        simp only [List.map_cons, List.foldlM_cons, h1, hg, pure_bind, hv]
    · cases he
  | [], _ :: _, _, _, _, h, _ => h.elim
  | _ :: _, [], _, _, _, h, _ => h.elim

theorem caps_sound : ∀ {xs : List Operand} {ys : List X} {l : List (Nat × Nat)}, All2 (fun y x => AR ι (y.eval loc vals) (ρ x)) ys xs → evalCaps loc vals ys = some l → All2 (capVal ι) l (xs.map ρ)
  | [], [], l, _, h => by simp [evalCaps] at h; subst h; trivial
  | x :: xs, y :: ys, l, ⟨h1, h2⟩, h => by
    simp only [evalCaps] at h
    split at h
    · rename_i i o hy
      split at h
      · rename_i t ht
        simp at h; subst h
        have h1 : AR ι (y.eval loc vals) (ρ x) := h1
        rw [hy] at h1
        exact ⟨h1, caps_sound h2 ht⟩
      · cases h
    · cases h
  | [], _ :: _, _, h, _ => h.elim
  | _ :: _, [], _, h, _ => h.elim
end ops
end Lav
