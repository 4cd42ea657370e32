/-
  Operations that make one new block.
-/
import Derived.Test.YtdilhnnbfkiacaaFw7
namespace Lav
open Go

theorem zeros_length : ∀ (n : Nat) (z : List CV), (zeros n z).length = n * z.length
  | 0, z => by simp [zeros]
  | n + 1, z => by simp [zeros, zeros_length n z, Nat.succ_mul]; omega

theorem zeros_get : ∀ (n : Nat) (z : List CV) (j : Nat), j < n * z.length → (zeros n z)[j]? = z[j % z.length]?
  | 0, z, j, h => by simp at h
  | n + 1, z, j, h => by
    rw [Nat.succ_mul] at h
    simp only [zeros]
    by_cases hj : j < z.length
    · rw [List.getElem?_append_left hj, Nat.mod_eq_of_lt hj]
    · rw [List.getElem?_append_right (by omega), zeros_get n z (j - z.length) (by omega)]
      congr 1
      rw [Nat.mod_eq_sub_mod (by omega : z.length ≤ j)]

/-- The model's own way to lay zeros. -/
theorem zeros_rel {ι : Inj} {z : List CV} {zs : Array Value} (h : All2 (CR ι) z zs.toList) (n m : Nat) (hm : m = n * zs.size) :
    All2 (CR ι) (zeros n z) ((Array.range m).map (zs[· % zs.size]!)).toList := by
  have hlen : z.length = zs.size := by simpa using h.length
  refine All2.of_get (by simp [zeros_length, hlen, hm]) fun j x hx => ?_
  have hj : j < n * z.length := by
    rcases Nat.lt_or_ge j (zeros n z).length with h' | h'
    · rwa [zeros_length] at h'
    · rw [List.getElem?_eq_none h'] at hx; cases hx
  rw [zeros_get n z j hj] at hx
  obtain ⟨v, hv, hc⟩ := h.get _ _ hx
  refine ⟨v, ?_, hc⟩
  have hpos : 0 < zs.size := by
    rcases Nat.eq_zero_or_pos zs.size with h' | h'
    · rw [hlen, h'] at hj; simp at hj
    · exact h'
  have hjm : j < m := by rw [hm, ← hlen]; exact hj
  rw [hlen] at hv
  have hv' : zs[j % zs.size]? = some v := by simpa using hv
  have hlt : j % zs.size < zs.size := Nat.mod_lt _ hpos
  rw [Array.getElem?_eq_getElem hlt] at hv'
  simp only [Option.some.injEq] at hv'
  simp [hjm, hlt, hv']

section ops
variable {P : Program} {slots : List Nat} {ds : List (Option Nat)} {loc vals : List AV} {ρ : Operand → Value} {ι : Inj} {B : Nat} {w : World}

/-- The world with a draw or more behind it, and one new block. -/
def World.plus (w : World) (n : Nat) (o : Obj) : World := World.alloc { w with drawn := n } o

/-- What a new block's operation leaves, whichever number the new block gets. -/
def NewOK (B : Nat) (ι : Inj) (w : World) (f : Nat → AV) (k : Blk) (v : Value) (w' : World) : Prop :=
  ∃ lim, (w'.os = w.os ∧ w'.output = w.output ∧ w'.tape = w.tape ∧ w.heap.size ≤ w'.heap.size ∧ ∀ x, x < w.heap.size → w'.heap[x]? = w.heap[x]?) ∧ k.isRo = false ∧
    ∀ i, ι i = none → AR (ι.put i (w.heap.size, 0, lim)) (f i) v ∧ BR B (ι.put i (w.heap.size, 0, lim)) w.heap.size 0 lim w' k

theorem plus_rest (w : World) (n : Nat) (o : Obj) : (World.plus w n o).os = w.os ∧ (World.plus w n o).output = w.output ∧ (World.plus w n o).tape = w.tape ∧ w.heap.size ≤ (World.plus w n o).heap.size ∧
    ∀ x, x < w.heap.size → (World.plus w n o).heap[x]? = w.heap[x]? :=
  ⟨rfl, rfl, rfl, by show w.heap.size ≤ (w.heap.push o).size; simp, fun x hx => heap_old { w with drawn := n } o x (Nat.ne_of_lt hx)⟩

theorem plus_at (n : Nat) (o : Obj) : (World.plus w n o).heap[w.heap.size]? = some o := heap_new { w with drawn := n } o

theorem newRow_ok {l : List CV} {c : Array Value} {e : TypeId} (hB : B ≤ w.heap.size) (hl : All2 (CR ι) l c.toList) :
    ∀ i, ι i = none → BR B (ι.put i (w.heap.size, 0, c.size)) w.heap.size 0 c.size (World.plus w w.drawn (.cells c e)) (.cells l) := by
  intro i hi
  refine ⟨hB, c, e, (0, 0), plus_at _ _, by simp, by simpa using Nat.le_of_eq hl.length, .inl rfl, fun j x hx => ?_⟩
  obtain ⟨v, hv, hc⟩ := hl.get _ _ hx
  exact ⟨v, by simpa using hv, hc.mono (Inj.put_le hi)⟩

theorem plus_self (o : Obj) : World.plus w w.drawn o = w.alloc o := rfl

theorem box_new {t : TypeId} {a : AV} {v : Value} {l : List CV} (hB : B ≤ w.heap.size) (ha : AR ι a v) (hl : a.cells = some l) :
    ∃ u w', (newVar t v).run P w = .ok u w' ∧ NewOK B ι w (fun i => .c (.ptr i 0)) (.cells l) (.pointer (some u)) w' := by
  refine ⟨⟨w.heap.size, 0, none⟩, World.plus w w.drawn (.cells v.cells t), rfl, _, plus_rest w _ _, rfl, fun i hi => ⟨?_, newRow_ok hB (ha.cells hl) i hi⟩⟩
  exact ⟨w.heap.size, 0, _, Inj.put_at, by simp⟩

theorem asInt_run {a : X} {x : Operand} {m : Nat} (H : OpsR slots ds loc vals ι ρ) (hx : cX slots ds x = some a) (hm : asNat (a.eval loc vals) = some m) : (asInt (ρ x)).run P w = .ok (Int.ofNat m) w := by
  obtain ⟨k, hk⟩ := asNat_sound hm (H _ _ hx)
  rw [hk]; rfl

theorem wrap64_small {n : Nat} (h : n ≤ 1099511627776) : IntKind.i64.wrap (Int.ofNat n) = Int.ofNat n := by
  have : (n : Int) ≤ 1099511627776 := by omega
  simp only [IntKind.wrap, IntKind.bits, IntKind.signed]
  simp
  omega

theorem mks_new {t e n bytes : Nat} {z : List CV} {x y : Operand} {a b : X} {f : Nat → AV} {k : Blk} (H : OpsR slots ds loc vals ι ρ) (hB : B ≤ w.heap.size) (hu : P.underlying t = some (.slice e)) (hz : tZeros P e = some z) (hn : tSize P e = some n)
    (hb : tBytes P e = some bytes) (hbb : bytes ≤ 1024) (hx : cX slots ds x = some a) (hy : cX slots ds y = some b) (he : evNew loc vals (.mks n z a b) = some (f, k)) :
    ∃ v w', (Instr.makeSlice t (ρ x) (ρ y)).run P w = .ok v w' ∧ NewOK B ι w f k v w' := by
  simp only [evNew] at he
  split at he
  · rename_i l c hl hc
    cases hcond : (Nat.ble l c && Nat.ble c 1073741824 && z.length == n) with
    | false => rw [hcond] at he; cases he
    | true =>
      rw [hcond] at he; simp only [cond_true, Option.some.injEq, Prod.mk.injEq] at he
      obtain ⟨rfl, rfl⟩ := he
      simp only [Bool.and_eq_true, Nat.ble_eq, beq_iff_eq] at hcond
      obtain ⟨⟨h1, h2⟩, h3⟩ := hcond
      obtain ⟨i, hi, hbi⟩ := run_bytes (P := P) (w := w) hb
      obtain ⟨it, zv, hit, hzv, hzr⟩ := tZeros_inv hz
      have hzs : zv.cells.size = n := by
        have := (hzr ι).length
        simp at this; omega
      have hwl : IntKind.i64.wrap (Int.ofNat l) = Int.ofNat l := wrap64_small (by omega)
      have hwc : IntKind.i64.wrap (Int.ofNat c) = Int.ofNat c := wrap64_small (by omega)
      have hbig : ¬ ((i.bytes : Int) * Int.ofNat c > 2 ^ 48) := by
        have h5 : i.bytes * c ≤ 1099511627776 := Nat.le_trans (Nat.mul_le_mul (by omega : i.bytes ≤ 1024) h2) (by decide)
        show ¬ ((i.bytes : Int) * (c : Int) > 2 ^ 48)
        rw [← Int.natCast_mul]
        omega
      have hng : ¬ (Int.ofNat c < 0) := by simp
      have hngl : ¬ (Int.ofNat l < 0) := by simp
      have hlc : ¬ (Int.ofNat l > Int.ofNat c) := by simp; omega
      have hsz : (Go.sizeOf e).run P w = .ok n w := run_size hn
      have hzero : (zeroValue e).run P w = .ok zv w := by simp [zeroValue, typeInfo, hit, hzv]
      have hcn : (Int.ofNat c).toNat = c := rfl
      have hln : (Int.ofNat l).toNat = l := rfl
      refine ⟨.slice (some ⟨w.heap.size, 0, none⟩) l c, World.plus w w.drawn (.cells ((Array.range (c * n)).map ((if c * n = 0 then (#[] : Array Value) else zv.cells)[· % (if c * n = 0 then (#[] : Array Value) else zv.cells).size]!)) e), ?_, _, plus_rest w _ _, rfl, fun i hi => ⟨?_, newRow_ok hB ?_ i hi⟩⟩
      · simp only [Instr.makeSlice, Sem.run_bind, run_underlying hu, Result.andThen_ok, asInt_run H hx hl, asInt_run H hy hc, hi, hwl, hwc]
        simp only [hng, hngl, hlc, hbig, decide_false, Bool.or_false, Bool.false_eq_true, if_false, Sem.run_bind, run_askRoom, Result.andThen_ok, hsz, hcn, hln]
        by_cases h0 : c * n = 0
        · simp only [h0, if_true]
          rfl
        · simp only [h0, if_false, Sem.run_bind, hzero, Result.andThen_ok, Sem.run_pure]
          rfl
      · refine ⟨w.heap.size, 0, _, ⟨w.heap.size, 0, none⟩, c, Inj.put_at, rfl, h1, fun _ => by simp, rfl⟩
      · by_cases h0 : c * n = 0
        · have e0 : zeros c z = [] := List.eq_nil_of_length_eq_zero (by rw [zeros_length, h3]; exact h0)
          rw [e0, h0]; simp [All2]
        · simp only [h0, if_false]
          exact zeros_rel (hzr ι) c _ (by rw [hzs])
  · cases he

theorem bsl_new {t len : Nat} {parts : List (Nat × Operand)} {iop : IOp} {f : Nat → AV} {k : Blk} (H : OpsR slots ds loc vals ι ρ) (hB : B ≤ w.heap.size) (hc : cBuildSlice P slots ds t len parts = some iop) (he : evNew loc vals iop = some (f, k)) :
    ∃ v w', (Instr.buildSlice t len (parts.map fun (i, x) => (i, ρ x)).toArray).run P w = .ok v w' ∧ NewOK B ι w f k v w' := by
  unfold cBuildSlice at hc
  split at hc
  · rename_i e hu
    obtain ⟨z, hz, hc⟩ := ob_some hc
    obtain ⟨n, hn, hc⟩ := ob_some hc
    cases hb : (z.length == n && Nat.ble (len * n) 16777216) with
    | false => rw [hb] at hc; cases hc
    | true =>
      rw [hb] at hc; simp only [cond_true] at hc
      simp only [Bool.and_eq_true, Nat.ble_eq, beq_iff_eq] at hb
      obtain ⟨h1, h2⟩ := hb
      obtain ⟨ps, hps, hc⟩ := ob_some hc
      simp only [Option.some.injEq] at hc; subst hc
      simp only [evNew] at he
      split at he
      · rename_i qs hqs
        split at he
        · rename_i l hl
          simp only [Option.some.injEq, Prod.mk.injEq] at he
          obtain ⟨rfl, rfl⟩ := he
          obtain ⟨it, zv, hit, hzv, hzr⟩ := tZeros_inv hz
          have hzs : zv.cells.size = n := by
            have := (hzr ι).length
            simp at this; omega
          have hzero : (zeroValue e).run P w = .ok zv w := by simp [zeroValue, typeInfo, hit, hzv]
          have hsz : (Go.sizeOf e).run P w = .ok n w := run_size hn
          have hrel : All2 (CR ι) (zeros len z) ((Array.range (len * n)).map ((if len * n = 0 then (#[] : Array Value) else zv.cells)[· % (if len * n = 0 then (#[] : Array Value) else zv.cells).size]!)).toList := by
            by_cases h0 : len * n = 0
            · have e0 : zeros len z = [] := List.eq_nil_of_length_eq_zero (by rw [zeros_length, h1]; exact h0)
              rw [e0, h0]; simp [All2]
            · simp only [h0, if_false]
              exact zeros_rel (hzr ι) len _ (by rw [hzs])
          obtain ⟨cs', f1, f2⟩ := fill_sound H hps hqs hl hrel
          refine ⟨.slice (some ⟨w.heap.size, 0, none⟩) len len, World.plus w w.drawn (.cells cs' e), ?_, _, plus_rest w _ _, rfl, fun i hi => ⟨?_, newRow_ok hB f2 i hi⟩⟩
          · have hbig : ¬ (len * n > 2 ^ 24) := by simp; omega
            by_cases h0 : len * n = 0
            · simp only [h0, if_true] at f1
              have hz0 : ¬ (0 > 2 ^ 24) := by omega
              simp only [Instr.buildSlice, Sem.run_bind, run_underlying hu, hsz, Result.andThen_ok, h0, hz0, if_false, if_true, Sem.run_pure, f1]
              rfl
            · simp only [h0, if_false] at f1
              simp only [Instr.buildSlice, Sem.run_bind, run_underlying hu, hsz, Result.andThen_ok, hbig, if_false, Sem.run_pure, Sem.run_ite, h0, hzero]
              simp [f1, newRow]
              rfl
          · exact ⟨w.heap.size, 0, _, ⟨w.heap.size, 0, none⟩, len, Inj.put_at, rfl, Nat.le_refl _, fun _ => by simp, rfl⟩
        · cases he
      · cases he
  · cases hc

theorem byteCells_rel {s : ByteArray} {l : List Nat} (hs : s.data.toList.map UInt8.toNat = l) : All2 (CR ι) (byteCells l) (s.data.map fun b => (Value.int .u8 b.toNat)).toList := by
  subst hs
  simp only [byteCells, Array.toList_map, List.map_map]
  generalize s.data.toList = m
  induction m with
  | nil => trivial
  | cons b m ih => exact ⟨rfl, ih⟩

theorem run_markStringish {b o : Nat} {c : Array Value} {e : TypeId} {fz : Nat × Nat} (hb : w.heap[b]? = some (.cells c e fz)) (hfz : fz.1 = fz.2 ∨ c.size ≤ fz.1) :
    ∃ w', (markStringish ⟨b, o, none⟩).run P w = .ok () w' ∧ w'.os = w.os ∧ w'.output = w.output ∧ w'.tape = w.tape ∧ w'.heap.size = w.heap.size ∧
      ∃ fz', w'.heap[b]? = some (.cells c e fz') ∧ (fz'.1 = fz'.2 ∨ c.size ≤ fz'.1) ∧ ∀ x, x ≠ b → w'.heap[x]? = w.heap[x]? := by
  have hsh : w.shape? b = some (e, c.size) := by simp [World.shape?, hb]
  refine ⟨w.freeze { block := b, off := c.size } 1, by simp only [markStringish, Sem.run_bind, run_shape, hsh, Result.andThen_ok, run_freeze], rfl, rfl, rfl, by simp [World.freeze], ?_⟩
  obtain ⟨lo, hi⟩ := fz
  refine ⟨if lo == hi then (c.size, c.size + 1) else (min lo c.size, max hi (c.size + 1)), ?_, ?_, fun x hx => ?_⟩
  · simp only [World.freeze, Nat.one_ne_zero, if_false, Array.getElem?_modify, if_true, hb, Option.map_some]
  · by_cases h : lo = hi
    · subst h; simp
    · have : c.size ≤ lo := by rcases hfz with h' | h'; exact absurd h' h; exact h'
      simp [h]; right; omega
  · simp [World.freeze, Array.getElem?_modify, Ne.symm hx]

theorem s2b_new {src dst e : Nat} {x : Operand} {a : X} {f : Nat → AV} {k : Blk} (H : OpsR slots ds loc vals ι ρ) (hB : B ≤ w.heap.size) (h1 : P.underlying src = some .string) (h2 : P.underlying dst = some (.slice e)) (he8 : isU8 P e = true)
    (hx : cX slots ds x = some a) (he : evNew loc vals (.s2b a) = some (f, k)) : ∃ v w', (convert src dst (ρ x)).run P w = .ok v w' ∧ NewOK B ι w f k v w' := by
  have hu8 : P.underlying e = some (.int .u8) := by
    unfold isU8 at he8
    split at he8
    · assumption
    · cases he8
  simp only [evNew] at he
  split at he
  · rename_i s hs
    have hr := H _ _ hx
    rw [hs] at hr
    obtain ⟨bs, hv, hbs⟩ := hr
    simp only [Option.some.injEq, Prod.mk.injEq] at he
    obtain ⟨rfl, rfl⟩ := he
    have hlen := size_of_bytes hbs
    let q := Question.appendCap bs.size 0 e
    let cap := q.cut (w.tape w.drawn q)
    let w1 : World := { w with drawn := w.drawn + 1 }
    let cs : Array Value := (bs.data.map fun b => (Value.int .u8 b.toNat)) ++ Array.replicate (cap - bs.size) (.int .u8 0)
    have hcap : bs.size ≤ cap := Nat.le_add_right _ _
    have hcs : cs.size = cap := by
      show ((bs.data.map _) ++ Array.replicate (cap - bs.size) _).size = cap
      rw [Array.size_append, Array.size_map, Array.size_replicate]
      show bs.size + (cap - bs.size) = cap
      omega
    obtain ⟨w', hm, m1, m2, m3, m4, fz', m5, m6, m7⟩ := run_markStringish (P := P) (w := w1.alloc (.cells cs e)) (b := w.heap.size) (o := 0) (c := cs) (e := e) (fz := (0, 0)) (heap_new w1 _) (.inl rfl)
    refine ⟨.slice (some ⟨w.heap.size, 0, none⟩) bs.size cap, w', ?_, cs.size, ⟨m1, m2, m3, ?_, ?_⟩, rfl, fun i hi => ⟨?_, ?_⟩⟩
    · rw [hv]
      simp only [convert, Sem.run_bind, run_underlying h1, run_underlying h2, Result.andThen_ok, run_underlying hu8, Conv.stringToBytes, run_choose]
      have hq : (Question.appendCap bs.size 0 e).forced = false := rfl
      simp only [hq, Bool.false_eq_true, if_false, Result.andThen_ok]
      show (((newRow e cs).run P w1).andThen _) = _
      have hn : (newRow e cs).run P w1 = .ok ⟨w.heap.size, 0, none⟩ (w1.alloc (.cells cs e)) := rfl
      rw [hn]
      simp only [Result.andThen_ok]
      rw [hm]
      rfl
    · rw [m4]; show w.heap.size ≤ (w.heap.push _).size; simp
    · intro x hx
      rw [m7 x (Nat.ne_of_lt hx)]
      exact heap_old w1 _ x (Nat.ne_of_lt hx)
    · refine ⟨w.heap.size, 0, _, ⟨w.heap.size, 0, none⟩, cap, Inj.put_at, ?_, ?_, fun _ => by simp, ?_⟩
      · rw [hlen]
      · rw [← hlen]; exact hcap
      · show 0 + cap * 1 ≤ cs.size
        omega
    · refine ⟨hB, cs, e, fz', m5, by simp, ?_, m6, ?_⟩
      · simp only [byteCells, List.length_map]; omega
      · intro j y hy
        have hrel := byteCells_rel (ι := ι) hbs
        obtain ⟨v, hv', hc⟩ := hrel.get _ _ hy
        refine ⟨v, ?_, hc.mono (Inj.put_le hi)⟩
        have hj : j < bs.size := by
          rcases Nat.lt_or_ge j (byteCells s).length with h' | h'
          · simp only [byteCells, List.length_map] at h'; omega
          · rw [List.getElem?_eq_none h'] at hy; cases hy
        show cs[0 + j]? = some v
        rw [Nat.zero_add]
        show ((bs.data.map _) ++ Array.replicate (cap - bs.size) _)[j]? = some v
        rw [Array.getElem?_append_left (by simpa using hj), ← Array.getElem?_toList]
        exact hv'
  · cases he

theorem mkch_new {t e b : Nat} {d : ChanDir} {x : Operand} {a : X} {f : Nat → AV} {k : Blk} (H : OpsR slots ds loc vals ι ρ) (hB : B ≤ w.heap.size) (hu : P.underlying t = some (.chan d e)) (hb : tBytes P e = some b) (hbb : b ≤ 1024)
    (hx : cX slots ds x = some a) (he : evNew loc vals (.mkch b a) = some (f, k)) : ∃ v w', (Instr.makeChan t (ρ x)).run P w = .ok v w' ∧ NewOK B ι w f k v w' := by
  simp only [evNew] at he
  split at he
  · rename_i m hm
    cases hc : Nat.ble m 1048576 with
    | false => rw [hc] at he; cases he
    | true =>
      rw [hc] at he; simp only [cond_true, Option.some.injEq, Prod.mk.injEq] at he
      obtain ⟨rfl, rfl⟩ := he
      have hm' := Nat.le_of_ble_eq_true hc
      obtain ⟨i, hi, hbi⟩ := run_bytes (P := P) (w := w) hb
      have h5 : i.bytes * m ≤ 1073741824 := Nat.le_trans (Nat.mul_le_mul (by omega : i.bytes ≤ 1024) hm') (by decide)
      have hc1 : ¬ (Int.ofNat m < 0 ∨ Int.ofNat m > IntKind.i64.max ∨ (i.bytes : Int) * Int.ofNat m > 2 ^ 48 - 112) := by
        have e1 : (i.bytes : Int) * Int.ofNat m = ((i.bytes * m : Nat) : Int) := by
          show (i.bytes : Int) * (m : Int) = _
          rw [Int.natCast_mul]
        rw [IntKind.max_i64, e1]
        simp only [Int.ofNat_eq_natCast]
        omega
      refine ⟨.chan (some w.heap.size), World.plus w w.drawn (.chan m #[] false 0 0 false), ?_, 0, plus_rest w _ _, rfl, fun i hi => ⟨?_, ?_⟩⟩
      · simp only [Instr.makeChan, Sem.run_bind, asInt_run H hx hm, run_underlying hu, Result.andThen_ok, hi, hc1, if_false]
        rfl
      · exact ⟨w.heap.size, 0, 0, Inj.put_at, rfl⟩
      · exact ⟨hB, #[], 0, 0, plus_at _ _, trivial⟩
  · cases he

/-- An operation that makes one new block: the world has one more. -/
theorem new_sound (H : OpsR slots ds loc vals ι ρ) (hB : B ≤ w.heap.size) {o : Oper} {iop : IOp} {f : Nat → AV} {k : Blk} (hc : cOp? P slots ds o.op = some iop) (hk : iop.kd = .new) (he : evNew loc vals iop = some (f, k)) :
    ∃ v w', (execOp ρ o).run P w = .ok (.value v) w' ∧ NewOK B ι w f k v w' := by
  obtain ⟨dst, op, ty, pos, after, guard⟩ := o
  cases op <;> simp only [cOp?] at hc
  case alloc t =>
    obtain ⟨z, hz, hc⟩ := ob_some hc
    simp only [Option.some.injEq] at hc; subst hc
    simp only [evNew, X.eval] at he
    split at he
    · rename_i l hl
      simp only [Option.some.injEq, Prod.mk.injEq] at he
      obtain ⟨rfl, rfl⟩ := he
      obtain ⟨it, zv, hit, hzv, hza⟩ := tZero_inv hz
      have hzero : (zeroValue t).run P w = .ok zv w := by simp [zeroValue, typeInfo, hit, hzv]
      obtain ⟨u, w', h1, h2⟩ := box_new (P := P) (t := t) hB (absV_sound (ι := ι) hza) hl
      refine ⟨_, w', run_value ?_, h2⟩
      simp only [Instr.alloc, Sem.run_bind, hzero, Result.andThen_ok, h1, Sem.run_pure]
    · cases he
  case box t x =>
    obtain ⟨a, ha, hc⟩ := ob_some hc
    simp only [Option.some.injEq] at hc; subst hc
    simp only [evNew] at he
    split at he
    · rename_i l hl
      simp only [Option.some.injEq, Prod.mk.injEq] at he
      obtain ⟨rfl, rfl⟩ := he
      obtain ⟨u, w', h1, h2⟩ := box_new (P := P) (t := t) hB (H _ _ ha) hl
      refine ⟨_, w', run_value ?_, h2⟩
      simp only [Instr.box, Sem.run_bind, Result.andThen_ok, h1, Sem.run_pure]
    · cases he
  case buildSlice t len parts =>
    obtain ⟨v, w', h1, h2⟩ := bsl_new (P := P) H hB hc he
    refine ⟨v, w', ?_, h2⟩
    have := run_value (P := P) h1
    simp only [execOp, ops_map]; exact this
  case makeSlice t l c =>
    unfold cMakeSlice at hc
    split at hc
    · rename_i e hu
      obtain ⟨z, hz, hc⟩ := ob_some hc
      obtain ⟨n, hn, hc⟩ := ob_some hc
      obtain ⟨m, hm, hc⟩ := ob_some hc
      obtain ⟨x, hx, hc⟩ := ob_some hc
      obtain ⟨y, hy, hc⟩ := ob_some hc
      cases hb : (z.length == n && Nat.ble m 1024) with
      | false => rw [hb] at hc; cases hc
      | true =>
        rw [hb] at hc; simp only [cond_true, Option.some.injEq] at hc; subst hc
        simp only [Bool.and_eq_true, Nat.ble_eq, beq_iff_eq] at hb
        obtain ⟨v, w', h1, h2⟩ := mks_new (P := P) H hB hu hz hn hm hb.2 hx hy he
        exact ⟨v, w', run_value h1, h2⟩
    · cases hc
  case makeChan t n =>
    split at hc
    · rename_i d e hu
      obtain ⟨b, hb, hc⟩ := ob_some hc
      obtain ⟨x, hx, hc⟩ := ob_some hc
      cases hbb : (Nat.ble b 1024) with
      | false => rw [hbb] at hc; cases hc
      | true =>
        rw [hbb] at hc; simp only [cond_true, Option.some.injEq] at hc; subst hc
        obtain ⟨v, w', h1, h2⟩ := mkch_new (P := P) H hB hu hb (Nat.le_of_ble_eq_true hbb) hx he
        exact ⟨v, w', run_value h1, h2⟩
    · cases hc
  case convert src dst x =>
    unfold cConv at hc
    obtain ⟨a, ha, hc⟩ := ob_some hc
    split at hc
    · simp only [Option.some.injEq] at hc; subst hc; simp [IOp.kd] at hk
    · cases hb : (src == dst && isU8 P _) with
      | false => rw [hb] at hc; cases hc
      | true => rw [hb] at hc; simp only [cond_true, Option.some.injEq] at hc; subst hc; simp [IOp.kd] at hk
    · cases hb : isU8 P _ with
      | false => rw [hb] at hc; cases hc
      | true => rw [hb] at hc; simp only [cond_true, Option.some.injEq] at hc; subst hc; simp [IOp.kd] at hk
    · rename_i e h1 h2
      cases hb : isU8 P e with
      | false => rw [hb] at hc; cases hc
      | true =>
        rw [hb] at hc; simp only [cond_true, Option.some.injEq] at hc; subst hc
        obtain ⟨v, w', h3, h4⟩ := s2b_new (P := P) H hB h1 h2 hb ha he
        exact ⟨v, w', run_value h3, h4⟩
    · cases hc
  case makeFunc fn first caps =>
    cases fn <;> simp only [reduceCtorEq] at hc
    case func g =>
      cases hb : first.size == 0 with
      | false => rw [hb] at hc; cases hc
      | true =>
        rw [hb] at hc; simp only [cond_true] at hc
        obtain ⟨cs, hcs, hc⟩ := ob_some hc
        simp only [Option.some.injEq] at hc; subst hc; simp [IOp.kd] at hk
  all_goals
    exfalso
    clear he
    (try simp only [cBin, cSlice, cFieldAddr, cField, cIdxAddr, cIdx, cBuild, cCall, cBuiltin, cSelect] at hc)
    (try simp only [ob, Bool.cond_eq_ite] at hc)
    repeat' split at hc
    all_goals first | (cases hc; done) | (simp only [Option.some.injEq] at hc; subst hc; simp [IOp.kd] at hk; done) | skip
end ops
end Lav
