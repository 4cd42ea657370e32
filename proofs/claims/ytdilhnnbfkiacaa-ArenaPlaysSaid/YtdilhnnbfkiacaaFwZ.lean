/-
  Slices of records that come in, of numbers, bools and bytes: what a row says of them, what the evaluator has of them.
-/
import Derived.Test.YtdilhnnbfkiacaaFwR
import Derived.Deep.Slices
import Derived.ChangeSlices
import Derived.ChangeArms
namespace Lav
open Go

/-- Kinds of a record's cells. -/
inductive CK where
  | int
  | bool
  | bytes
  deriving DecidableEq

def RowOf (k : IntKind) (w : World) (a : Option Addr) (len cap : Nat) (zs : List Int) : Prop :=
  (a = none ∧ len = 0 ∧ cap = 0 ∧ zs = []) ∨
  ∃ x, a = some x ∧ len ≤ cap ∧ cap ≤ maxLen ∧ zs.length = cap ∧ (∀ i, i < zs.length → w.cell? (x.add i) = some (.int k (zs.getD i 0))) ∧ ∀ n ∈ zs, (Lit.int k n).wf = true

/-- What stands in a cell that came in. -/
def CKV (w : World) : CK → Value → Prop
  | .int, v => ∃ n : Int, v = .int .i64 n ∧ (Lit.int .i64 n).wf = true
  | .bool, v => ∃ b, v = .bool b
  | .bytes, v => ∃ a len cap zs, v = .slice a len cap ∧ RowOf .u8 w a len cap zs

/-- A slice of records that came in. -/
def MixIs (ks : List CK) (w : World) (a : Option Addr) (len cap : Nat) : Prop :=
  (a = none ∧ len = 0 ∧ cap = 0) ∨
  ∃ x, a = some x ∧ len ≤ cap ∧ cap ≤ maxLen ∧ ∀ i j k, i < cap → ks[j]? = some k → ∃ v, w.cell? (x.add (i * ks.length + j)) = some v ∧ CKV w k v

/-- A type's cells. -/
def Flat (P : Program) : Nat → TypeId → List CK → Prop
  | 0, t, ks => (P.underlying t = some (.int .i64) ∧ ks = [.int]) ∨ (P.underlying t = some .bool ∧ ks = [.bool]) ∨ (∃ e, P.underlying t = some (.slice e) ∧ P.underlying e = some (.int .u8) ∧ P.cellsOf e = 1 ∧ ks = [.bytes])
  | d + 1, t, ks => Flat P d t ks ∨ ∃ fs, P.underlying t = some (.struct fs) ∧ P.cellsOf t = ks.length ∧ ∀ j k, ks[j]? = some k → ∃ (i : Nat) (f : Field) (j' : Nat) (ks' : List CK), fs[i]? = some f ∧ j = f.offset + j' ∧ P.cellsOf f.type = ks'.length ∧ ks'[j']? = some k ∧ Flat P d f.type ks'
theorem Flat.int {P : Program} {t : TypeId} (h : P.underlying t = some (.int .i64)) : Flat P 0 t [.int] := .inl ⟨h, rfl⟩
theorem Flat.bool {P : Program} {t : TypeId} (h : P.underlying t = some .bool) : Flat P 0 t [.bool] := .inr (.inl ⟨h, rfl⟩)
theorem Flat.bytes {P : Program} {t e : TypeId} (h : P.underlying t = some (.slice e)) (he : P.underlying e = some (.int .u8)) (hc : P.cellsOf e = 1) : Flat P 0 t [.bytes] := .inr (.inr ⟨e, h, he, hc, rfl⟩)
theorem Flat.up {P : Program} {d : Nat} {t : TypeId} {ks : List CK} (h : Flat P d t ks) : Flat P (d + 1) t ks := .inl h

section
variable {H : Type} {enc : TypeId × Value → H} {P : Program} {w : World} {base : Nat} {held : Bool}

theorem trod_flat : ∀ (d : Nat) {t : TypeId} {ks : List CK} {fuel : Nat} {cs : List Value} {x : DataW H × List MemPlace}, Flat P d t ks → DataW.trod enc P w base (fun _ => true) held fuel t cs = some x → ∀ (j : Nat) (k : CK), ks[j]? = some k → ∃ v, cs[j]? = some v ∧ CKV w k v
  | 0, t, ks, fuel, cs, x, hf, h => by
    have one : ∀ {a k : CK} {j : Nat}, [a][j]? = some k → j = 0 ∧ k = a := fun {a k j} hj => by
      cases j with
      | zero => exact ⟨rfl, by simpa using hj.symm⟩
      | succ j => simp at hj
    rcases hf with ⟨ht, rfl⟩ | ⟨ht, rfl⟩ | ⟨e, ht, he, hc, rfl⟩
    · obtain ⟨n, rfl, _, hw⟩ := DataW.trod_int ht h
      intro j k hj
      obtain ⟨rfl, rfl⟩ := one hj
      exact ⟨_, rfl, n, rfl, hw⟩
    · obtain ⟨b, rfl, _⟩ := DataW.trod_bool ht h
      intro j k hj
      obtain ⟨rfl, rfl⟩ := one hj
      exact ⟨_, rfl, b, rfl⟩
    · intro j k hj
      obtain ⟨rfl, rfl⟩ := one hj
      rcases Go.ChangeShapes.open_ints ht he hc h with ⟨rfl, _⟩ | ⟨a, l, c, zs, rfl, _, hl, hm, hz, _, hcell, hwz⟩
      · exact ⟨_, rfl, none, 0, 0, [], rfl, .inl ⟨rfl, rfl, rfl, rfl⟩⟩
      · exact ⟨_, rfl, some a, l, c, zs, rfl, .inr ⟨a, rfl, hl, hm, by simpa using hz, hcell, hwz⟩⟩
  | d + 1, t, ks, fuel, cs, x, hf, h => by
    rcases hf with hf | ⟨fs, ht, hc, hfs⟩
    · exact trod_flat d hf h
    · intro j k hj
      obtain ⟨i, f, j', ks', hif, rfl, hc', hk', hf'⟩ := hfs j k hj
      obtain ⟨xs, n, _, _, _, hxl, hfx⟩ := DataW.trod_struct ht h
      have hlt : i < xs.length := by
        rw [hxl]
        rcases Nat.lt_or_ge i fs.size with h' | h'
        · exact h'
        · rw [Array.getElem?_eq_none h'] at hif; cases hif
      have hy := hfx i f hif
      rw [List.getElem?_eq_getElem hlt] at hy
      obtain ⟨v, hv, hk⟩ := trod_flat d hf' hy j' k hk'
      refine ⟨v, ?_, hk⟩
      rw [List.getElem?_take] at hv
      split at hv
      · rw [List.getElem?_drop] at hv; exact hv
      · cases hv

theorem open_mix {t e : TypeId} {d fuel : Nat} {ks : List CK} {cs : List Value} {x : DataW H × List MemPlace} (ht : P.underlying t = some (.slice e)) (ce : P.cellsOf e = ks.length) (hf : Flat P d e ks)
    (h : DataW.trod enc P w base (fun _ => true) held fuel t cs = some x) : ∃ a len cap, cs = [.slice a len cap] ∧ MixIs ks w a len cap := by
  rcases Go.Deep.open_slice ht h with ⟨h0, _⟩ | ⟨a, len, cap, m, n, D, Pl, rfl, hb, hl, hm, hmm, rfl, hx⟩
  · exact ⟨none, 0, 0, h0, .inl ⟨rfl, rfl, rfl⟩⟩
  · refine ⟨some a, len, cap, rfl, .inr ⟨a, rfl, hl, hm, fun i j k hi hj => ?_⟩⟩
    simp only [if_true] at hmm
    subst hmm
    obtain ⟨cs', h1, h2⟩ := hx i hi
    rw [ce] at h1
    obtain ⟨_, hlen, hcell⟩ := World.cells?_some h1
    obtain ⟨v, hv, hk⟩ := trod_flat d hf h2 j k hj
    have hjl : j < ks.length := by
      rcases Nat.lt_or_ge j ks.length with h' | h'
      · exact h'
      · rw [List.getElem?_eq_none h'] at hj; cases hj
    have := hcell j hjl
    rw [Go.Deep.add_add, hv] at this
    exact ⟨v, this, hk⟩
end

/-- Bytes that came in. -/
def ByteRow (h : Heap) (c : CV) (l : List Int) : Prop :=
  (c = .nils ∧ l = []) ∨ ∃ i, c = .sl i 0 l.length (.dy 1) ∧ i < h.next ∧ (l ≠ [] → h.get i = some (.ro (l.map (.int .u8)))) ∧ ∀ n ∈ l, (Lit.int .u8 n).wf = true
/-- What the evaluator has of a cell that came in. -/
def CellIs (h : Heap) : CK → CV → Prop
  | .int, c => ∃ n : Int, c = .int .i64 n ∧ (Lit.int .i64 n).wf = true
  | .bool, c => ∃ b, c = .bool b
  | .bytes, c => ∃ l, ByteRow h c l
theorem ByteRow.ext {h h' : Heap} {c : CV} {l : List Int} (r : ByteRow h c l) (e : Ext h h') : ByteRow h' c l := by
  rcases r with h1 | ⟨i, h1, h2, h3, h4⟩
  · exact .inl h1
  · exact .inr ⟨i, h1, Nat.lt_of_lt_of_le h2 e.1, fun hl => e.at_ (h3 hl) h2, h4⟩
theorem CellIs.ext {h h' : Heap} {k : CK} {c : CV} (r : CellIs h k c) (e : Ext h h') : CellIs h' k c := by
  cases k with
  | int => exact r
  | bool => exact r
  | bytes => obtain ⟨l, hl⟩ := r; exact ⟨l, hl.ext e⟩

theorem row_byte {h h' : Heap} {x : CV} {l : List Int} (r : RowIs .u8 h x h' l) : ByteRow h' x l := by
  obtain ⟨hw, _, hr⟩ := r
  rcases hr with ⟨rfl, rfl, rfl⟩ | ⟨rfl, rfl, rfl⟩ | ⟨rfl, rfl⟩
  · exact .inl ⟨rfl, rfl⟩
  · exact .inr ⟨h.next, rfl, Nat.lt_succ_self _, fun h => absurd rfl h, by simp⟩
  · exact .inr ⟨h.next, rfl, Nat.lt_succ_self _, fun _ => get_new_at, hw⟩

theorem cells_in {w : World} : ∀ (l : List (CK × Value)), (∀ p ∈ l, CKV w p.1 p.2) → ∀ {ι : Inj} {h : Heap}, Init w ι h → ∃ (ι' : Inj) (h' : Heap) (cs : List CV), Init w ι' h' ∧ Le ι ι' ∧ Ext h h' ∧ cs.length = l.length ∧ ∀ (j : Nat) (k : CK) (v : Value), l[j]? = some (k, v) → ∃ c, cs[j]? = some c ∧ CR ι' c v ∧ CellIs h' k c
  | [], _, ι, h, I => ⟨ι, h, [], I, Le.refl _, Ext.refl _, rfl, fun j k v hj => by simp at hj⟩
  | (k, v) :: l, hl, ι, h, I => by
    obtain ⟨ι1, h1, c, I1, le1, x1, hc, hk⟩ : ∃ ι' h' c, Init w ι' h' ∧ Le ι ι' ∧ Ext h h' ∧ CR ι' c v ∧ CellIs h' k c := by
      have := hl (k, v) (by simp)
      cases k with
      | int => obtain ⟨n, e, hw⟩ := this; exact ⟨ι, h, .int .i64 n, I, Le.refl _, Ext.refl _, e, n, rfl, hw⟩
      | bool => obtain ⟨b, e⟩ := this; exact ⟨ι, h, .bool b, I, Le.refl _, Ext.refl _, e, b, rfl⟩
      | bytes =>
        obtain ⟨a, len, cap, zs, e, hr⟩ := this
        obtain ⟨ι', h', x, I', le, hc, hx⟩ := I.slice hr
        simp only at e
        subst e
        exact ⟨ι', h', x, I', le, hx.ext, hc, _, row_byte hx⟩
    obtain ⟨ι2, h2, cs, I2, le2, x2, hlen, hall⟩ := cells_in l (fun p hp => hl p (by simp [hp])) I1
    refine ⟨ι2, h2, c :: cs, I2, fun i y hy => le2 i y (le1 i y hy), x1.trans x2, by simp [hlen], fun j k' v' hj => ?_⟩
    cases j with
    | zero =>
      simp at hj
      obtain ⟨rfl, rfl⟩ := hj
      exact ⟨c, rfl, hc.mono le2, hk.ext x2⟩
    | succ j => exact hall j k' v' (by simpa using hj)

/-- Records that came in: n of them. -/
def Mix (ks : List CK) (h : Heap) (x : CV) (n : Nat) (cs : List CV) : Prop :=
  cs.length = n * ks.length ∧ ((x = .nils ∧ n = 0) ∨ ∃ i, x = .sl i 0 n (.dy ks.length) ∧ i < h.next ∧ (n ≠ 0 → h.get i = some (.ro cs))) ∧
  ∀ i j k, i < n → ks[j]? = some k → ∃ c, cs[i * ks.length + j]? = some c ∧ CellIs h k c

theorem Init.mix {w : World} {ι : Inj} {h : Heap} (I : Init w ι h) {ks : List CK} {a : Option Addr} {len cap : Nat} (hks : 0 < ks.length) (r : MixIs ks w a len cap) :
    ∃ ι' h' x cs, Init w ι' h' ∧ Le ι ι' ∧ Ext h h' ∧ CR ι' x (.slice a len cap) ∧ Mix ks h' x len cs := by
  rcases r with ⟨rfl, rfl, rfl⟩ | ⟨x, rfl, hl, hm, hcell⟩
  · exact ⟨ι, h, .nils, [], I, Le.refl _, Ext.refl _, rfl, by simp, .inl ⟨rfl, rfl⟩, fun i j k hi => by omega⟩
  · by_cases h0 : cap = 0
    · have hl0 : len = 0 := by omega
      subst h0; subst hl0
      obtain ⟨I', hle⟩ := I.skip (x.block, x.off, 0)
      exact ⟨_, _, .sl h.next 0 0 (.dy ks.length), [], I', hle, (Ext.refl _).skip 1, ⟨x.block, x.off, 0, x, 0, Inj.put_at, rfl, Nat.le_refl _, fun e => absurd rfl e, by simp [CapOK]⟩, by simp, .inr ⟨h.next, rfl, Nat.lt_succ_self _, fun h => absurd rfl h⟩, fun i j k hi => by omega⟩
    · have each : ∀ p, p < len * ks.length → ∃ q : CK × Value, ks[p % ks.length]? = some q.1 ∧ w.cell? (x.add p) = some q.2 ∧ CKV w q.1 q.2 := fun p hp => by
        have hi : p / ks.length < cap := Nat.lt_of_lt_of_le (Nat.div_lt_of_lt_mul (by rw [Nat.mul_comm]; exact hp)) hl
        have hj : p % ks.length < ks.length := Nat.mod_lt _ hks
        obtain ⟨v, hv, hk⟩ := hcell (p / ks.length) (p % ks.length) ks[p % ks.length] hi (List.getElem?_eq_getElem hj)
        have e : p / ks.length * ks.length + p % ks.length = p := by rw [Nat.mul_comm]; exact Nat.div_add_mod p ks.length
        rw [e] at hv
        exact ⟨(ks[p % ks.length], v), List.getElem?_eq_getElem hj, hv, hk⟩
      haveI : Inhabited (CK × Value) := ⟨(.int, .bool false)⟩
      obtain ⟨f, hf⟩ := Go.Deep.choose_lt each
      obtain ⟨ι1, h1, cs, I1, le1, x1, hlen, hall⟩ := cells_in ((List.range (len * ks.length)).map f) (fun p hp => by
        obtain ⟨j, hj, rfl⟩ := List.mem_map.1 hp
        exact (hf j (by simpa using hj)).2.2) I
      simp only [List.length_map, List.length_range] at hlen
      have hc0 : ∃ v, w.cell? x = some v := by
        obtain ⟨v, hv, _⟩ := hcell 0 0 ks[0] (by omega) (List.getElem?_eq_getElem hks)
        have hadd0 : x.add (0 * ks.length + 0) = x := by simp [Addr.add]
        rw [hadd0] at hv
        exact ⟨v, hv⟩
      obtain ⟨v0, hc0⟩ := hc0
      obtain ⟨c, e, fz, hb, hsp⟩ : ∃ c e fz, w.heap[x.block]? = some (.cells c e fz) ∧ x.spot = none := by
        unfold World.cell? at hc0
        split at hc0
        · rename_i c e fz hb
          refine ⟨c, e, fz, hb, ?_⟩
          cases hs : x.spot with
          | none => rfl
          | some q => rw [hs] at hc0; simp at hc0
        · cases hc0
      have hget : ∀ (p : Nat) (v : Value), w.cell? (x.add p) = some v → c[x.off + p]? = some v := by
        intro p v this
        unfold World.cell? at this
        have e1 : (x.add p).block = x.block := by unfold Addr.add; split <;> rfl
        have e2 : (x.add p).off = x.off + p := by unfold Addr.add; split <;> simp_all
        have e3 : (x.add p).spot = none := by unfold Addr.add; split <;> simp_all
        rw [e1, hb] at this
        simpa only [e2, e3, Option.isSome_none, Bool.false_eq_true, if_false] using this
      have hblt : x.block < w.heap.size := by
        rcases Nat.lt_or_ge x.block w.heap.size with h | h
        · exact h
        · rw [Array.getElem?_eq_none h] at hb; cases hb
      have at_ : ∀ p, p < len * ks.length → ∃ y, cs[p]? = some y ∧ CR ι1 y (f p).2 ∧ CellIs h1 (f p).1 y := fun p hp => by
        exact hall p (f p).1 (f p).2 (by simp [hp])
      obtain ⟨I', hle⟩ := I1.block (b := x.block) (base := x.off) (lim := cap * ks.length) (l := cs) fun ι' hle' => ⟨hblt, c, e, fz, hb, fun j y hy => by
        have hj : j < len * ks.length := by
          rcases Nat.lt_or_ge j (len * ks.length) with h' | h'
          · exact h'
          · rw [List.getElem?_eq_none (by omega)] at hy; cases hy
        obtain ⟨y', hy', hc', _⟩ := at_ j hj
        rw [hy] at hy'
        cases hy'
        exact ⟨_, hget j _ (hf j hj).2.1, hc'.mono hle'⟩⟩
      refine ⟨_, _, .sl h1.next 0 len (.dy ks.length), cs, I', fun i y hy => hle i y (le1 i y hy), x1.new _, ⟨x.block, x.off, cap * ks.length, x, cap, Inj.put_at, rfl, hl, fun _ => ?_, by simp [CapOK]⟩, hlen, .inr ⟨h1.next, rfl, Nat.lt_succ_self _, fun _ => get_new_at⟩, fun i j k hi hj => ?_⟩
      · cases x; simp_all
      · have hjl : j < ks.length := by
          rcases Nat.lt_or_ge j ks.length with h' | h'
          · exact h'
          · rw [List.getElem?_eq_none h'] at hj; cases hj
        have hp : i * ks.length + j < len * ks.length := by
          have : (i + 1) * ks.length ≤ len * ks.length := Nat.mul_le_mul_right _ hi
          rw [Nat.add_mul] at this; omega
        obtain ⟨y, h1', _, h3⟩ := at_ _ hp
        have hm' : (i * ks.length + j) % ks.length = j := by rw [Nat.mul_comm, Nat.mul_add_mod]; exact Nat.mod_eq_of_lt hjl
        have := (hf _ hp).1
        rw [hm', hj] at this
        simp only [Option.some.injEq] at this
        refine ⟨y, h1', ?_⟩
        rw [this]
        exact h3.ext ((Ext.refl _).new _)

theorem Mix.ext {ks : List CK} {h h' : Heap} {x : CV} {n : Nat} {cs : List CV} (r : Mix ks h x n cs) (e : Ext h h') : Mix ks h' x n cs := by
  obtain ⟨h1, h2, h3⟩ := r
  refine ⟨h1, ?_, fun i j k hi hj => let ⟨c, a, b⟩ := h3 i j k hi hj; ⟨c, a, b.ext e⟩⟩
  rcases h2 with h2 | ⟨i, a, b, c⟩
  · exact .inl h2
  · exact .inr ⟨i, a, Nat.lt_of_lt_of_le b e.1, fun hn => e.at_ (c hn) b⟩
theorem Mix.len {ks : List CK} {h0 h : Heap} {x : CV} {n : Nat} {cs : List CV} (r : Mix ks h0 x n cs) {loc vals : List AV} {X : X} (hX : X.eval loc vals = .c x) : evPure loc vals h (.len .sl X) = some (.c (.int .i64 (n : Int))) := by
  rcases r.2.1 with ⟨rfl, rfl⟩ | ⟨i, rfl, _, _⟩ <;> simp only [evPure, hX] <;> rfl
theorem Mix.sl {ks : List CK} {h : Heap} {x : CV} {n : Nat} {cs : List CV} (r : Mix ks h x n cs) (hn : 0 < n) : ∃ b, x = .sl b 0 n (.dy ks.length) ∧ b < h.next ∧ h.get b = some (.ro cs) := by
  rcases r.2.1 with ⟨_, h0⟩ | ⟨i, h1, h2, h3⟩
  · omega
  · exact ⟨i, h1, h2, h3 (by omega)⟩
theorem read_part_ro {h : Heap} {i o n : Nat} {l : List CV} (hg : h.get i = some (.ro l)) (hn : o + n ≤ l.length) : h.read i o n = some ((l.drop o).take n) := by
  simp only [Heap.read, hg]; exact cut_part hn
end Lav
