/-
  Slices of records of ints that come in: what a row says of them, what the evaluator has of them.
-/
import Derived.Test.YtdilhnnbfkiacaaFwN
import Derived.Deep.Slices
namespace Lav
open Go

section
variable {H : Type} {enc : TypeId × Value → H} {P : Program} {w : World} {base : Nat} {spare : Nat → Bool} {held : Bool}

theorem open_recs {t e : TypeId} {fs : Array Field} {sz fuel : Nat} {cs : List Value} {x : DataW H × List MemPlace} (ht : P.underlying t = some (.slice e)) (he : P.underlying e = some (.struct fs)) (ce : P.cellsOf e = sz)
    (hf : ∀ j, j < sz → ∃ (i : Nat) (f : Field), fs[i]? = some f ∧ f.offset = j ∧ P.underlying f.type = some (.int .i64) ∧ P.cellsOf f.type = 1) (h : DataW.trod enc P w base spare held fuel t cs = some x) :
    cs = [.slice none 0 0] ∨
    ∃ (a : Addr) (len cap : Nat) (zs : List Int), cs = [.slice (some a) len cap] ∧ len ≤ cap ∧ cap ≤ maxLen ∧ zs.length = (if spare a.block then cap else len) * sz ∧
      (∀ i, i < zs.length → w.cell? (a.add i) = some (.int .i64 (zs.getD i 0))) ∧ ∀ n ∈ zs, (Lit.int .i64 n).wf = true := by
  rcases Go.Deep.open_slice ht h with ⟨h0, _⟩ | ⟨a, len, cap, m, n, D, Pl, rfl, hb, hl, hm, hmm, rfl, hx⟩
  · exact .inl h0
  right
  have each : ∀ p, p < m * sz → ∃ v : Int, w.cell? (a.add p) = some (.int .i64 v) ∧ (Lit.int .i64 v).wf = true := by
    intro p hp
    have hsz : 0 < sz := by
      rcases Nat.eq_zero_or_pos sz with h0 | h0
      · subst h0; simp at hp
      · exact h0
    have hi : p / sz < m := Nat.div_lt_of_lt_mul (by rw [Nat.mul_comm]; exact hp)
    have hj : p % sz < sz := Nat.mod_lt _ hsz
    obtain ⟨cs', h1, h2⟩ := hx (p / sz) hi
    rw [ce] at h1
    obtain ⟨_, hlen, hcell⟩ := World.cells?_some h1
    obtain ⟨xs, k, _, _, _, hxl, hfx⟩ := DataW.trod_struct he h2
    obtain ⟨i, f, hif, hoff, hu, hc1⟩ := hf (p % sz) hj
    have hlt : i < xs.length := by
      rw [hxl]
      rcases Nat.lt_or_ge i fs.size with h' | h'
      · exact h'
      · rw [Array.getElem?_eq_none h'] at hif; cases hif
    have hy := hfx i f hif
    rw [List.getElem?_eq_getElem hlt, hoff, hc1] at hy
    obtain ⟨v, hv, _, hw⟩ := DataW.trod_int hu hy
    have hcs : cs'[p % sz]? = some (.int .i64 v) := by
      have : ((cs'.drop (p % sz)).take 1)[0]? = some (.int .i64 v) := by rw [hv]; rfl
      rw [List.getElem?_take, if_pos (by omega), List.getElem?_drop] at this
      simpa using this
    have hadd := hcell (p % sz) hj
    rw [Go.Deep.add_add, hcs] at hadd
    have hpe : p / sz * sz + p % sz = p := by rw [Nat.mul_comm]; exact Nat.div_add_mod p sz
    rw [hpe] at hadd
    exact ⟨v, hadd, hw⟩
  obtain ⟨f, hfv⟩ := Go.Deep.choose_lt each
  refine ⟨a, len, cap, (List.range (m * sz)).map f, rfl, hl, hm, by simp [hmm], fun i hi => ?_, fun n hn => ?_⟩
  · have hi' : i < m * sz := by simpa using hi
    have := (hfv i hi').1
    rw [this]; simp [List.getD_eq_getElem?_getD, hi']
  · obtain ⟨i, hi, rfl⟩ := List.mem_map.1 hn
    exact (hfv i (by simpa using hi)).2
end

/-- What the evaluator has of a slice of records of ints that came in: n of them, sz cells each. -/
def RecsIs (sz : Nat) (h : Heap) (x : CV) (h' : Heap) (n : Nat) (l : List Int) : Prop :=
  (∀ v ∈ l, (Lit.int .i64 v).wf = true) ∧ l.length = n * sz ∧
  ((x = .nils ∧ h' = h ∧ n = 0) ∨ (x = .sl h.next 0 0 (.dy sz) ∧ h' = h.skip 1 ∧ n = 0) ∨ (x = .sl h.next 0 n (.dy sz) ∧ h' = h.new (.ro (l.map (.int .i64)))))

theorem Init.recs {w : World} {ι : Inj} {h : Heap} (I : Init w ι h) {a : Option Addr} {len cap sz : Nat} (hsz : 0 < sz) {zs : List Int}
    (r : (a = none ∧ len = 0 ∧ cap = 0 ∧ zs = []) ∨ ∃ x, a = some x ∧ len ≤ cap ∧ cap ≤ maxLen ∧ zs.length = cap * sz ∧ (∀ i, i < zs.length → w.cell? (x.add i) = some (.int .i64 (zs.getD i 0))) ∧ ∀ n ∈ zs, (Lit.int .i64 n).wf = true) :
    ∃ ι' h' x, Init w ι' h' ∧ Le ι ι' ∧ CR ι' x (.slice a len cap) ∧ RecsIs sz h x h' len (zs.take (len * sz)) := by
  rcases r with ⟨rfl, rfl, rfl, rfl⟩ | ⟨x, rfl, hl, hm, hz, hcell, hwf⟩
  · exact ⟨ι, h, .nils, I, Le.refl _, rfl, by simp, by simp, .inl ⟨rfl, rfl, rfl⟩⟩
  · have hw' : ∀ n ∈ zs.take (len * sz), (Lit.int .i64 n).wf = true := fun n hn => hwf n (List.mem_of_mem_take hn)
    have hlen : (zs.take (len * sz)).length = len * sz := by rw [List.length_take, hz]; exact Nat.min_eq_left (Nat.mul_le_mul_right _ hl)
    by_cases h0 : cap = 0
    · have hl0 : len = 0 := by omega
      subst h0; subst hl0
      obtain ⟨I', hle⟩ := I.skip (x.block, x.off, 0)
      exact ⟨_, _, .sl h.next 0 0 (.dy sz), I', hle, ⟨x.block, x.off, 0, x, 0, Inj.put_at, rfl, Nat.le_refl _, fun e => absurd rfl e, by simp [CapOK]⟩, hw', hlen, .inr (.inl ⟨rfl, rfl, rfl⟩)⟩
    · have hc0 := hcell 0 (by rw [hz]; exact Nat.mul_pos (by omega) hsz)
      have hadd0 : x.add 0 = x := by simp [Addr.add]
      rw [hadd0] at hc0
      obtain ⟨c, e, fz, hb, hsp⟩ : ∃ c e fz, w.heap[x.block]? = some (.cells c e fz) ∧ x.spot = none := by
        unfold World.cell? at hc0
        split at hc0
        · rename_i c e fz hb
          refine ⟨c, e, fz, hb, ?_⟩
          cases hs : x.spot with
          | none => rfl
          | some q => rw [hs] at hc0; simp at hc0
        · cases hc0
      have hget : ∀ (j : Nat) (n : Int), zs[j]? = some n → c[x.off + j]? = some (.int .i64 n) := by
        intro j n hj
        have hjl : j < zs.length := by
          rcases Nat.lt_or_ge j zs.length with h | h
          · exact h
          · rw [List.getElem?_eq_none h] at hj; cases hj
        have := hcell j hjl
        unfold World.cell? at this
        have e1 : (x.add j).block = x.block := by unfold Addr.add; split <;> rfl
        have e2 : (x.add j).off = x.off + j := by unfold Addr.add; split <;> simp_all
        have e3 : (x.add j).spot = none := by unfold Addr.add; split <;> simp_all
        rw [e1, hb] at this
        simp only [e2, e3, Option.isSome_none, Bool.false_eq_true, if_false] at this
        rw [this]; simp [List.getD_eq_getElem?_getD, hj]
      have hblt : x.block < w.heap.size := by
        rcases Nat.lt_or_ge x.block w.heap.size with h | h
        · exact h
        · rw [Array.getElem?_eq_none h] at hb; cases hb
      obtain ⟨I', hle⟩ := I.block (b := x.block) (base := x.off) (lim := cap * sz) (l := (zs.take (len * sz)).map (.int .i64)) fun ι' _ => ⟨hblt, c, e, fz, hb, fun j y hy => by
        rw [List.getElem?_map, List.getElem?_take] at hy
        split at hy
        · cases hj : zs[j]? with
          | none => rw [hj] at hy; cases hy
          | some n => rw [hj] at hy; simp only [Option.map_some, Option.some.injEq] at hy; subst hy; exact ⟨_, hget j n hj, rfl⟩
        · simp at hy⟩
      refine ⟨_, _, .sl h.next 0 len (.dy sz), I', hle, ⟨x.block, x.off, cap * sz, x, cap, Inj.put_at, rfl, hl, fun _ => ?_, by simp [CapOK]⟩, hw', hlen, .inr (.inr ⟨rfl, rfl⟩)⟩
      cases x; simp_all

/-- Records that may be read. -/
def Recs (sz : Nat) (h : Heap) (x : CV) (n : Nat) (l : List Int) : Prop :=
  l.length = n * sz ∧ ((x = .nils ∧ n = 0) ∨ ∃ i o c, x = .sl i o n c ∧ i < h.next ∧ ∀ j v, l[j]? = some v → h.read i (o + j) 1 = some [.int .i64 v])

theorem RecsIs.ext {sz : Nat} {h h' : Heap} {x : CV} {n : Nat} {l : List Int} (r : RecsIs sz h x h' n l) : Ext h h' := by
  obtain ⟨_, _, hr⟩ := r
  rcases hr with ⟨_, rfl, _⟩ | ⟨_, rfl, _⟩ | ⟨_, rfl⟩
  · exact Ext.refl _
  · exact (Ext.refl _).skip 1
  · exact (Ext.refl _).new _

theorem recs_of {sz : Nat} {h h' : Heap} {x : CV} {n : Nat} {l : List Int} (r : RecsIs sz h x h' n l) : Recs sz h' x n l := by
  obtain ⟨_, hl, hr⟩ := r
  refine ⟨hl, ?_⟩
  rcases hr with ⟨rfl, rfl, hn⟩ | ⟨rfl, rfl, hn⟩ | ⟨rfl, rfl⟩
  · exact .inl ⟨rfl, hn⟩
  · subst hn
    have : l = [] := List.eq_nil_of_length_eq_zero (by simpa using hl)
    subst this
    exact .inr ⟨h.next, 0, _, rfl, Nat.lt_succ_self _, by simp⟩
  · exact .inr ⟨h.next, 0, _, rfl, Nat.lt_succ_self _, fun j v hj => read_ro get_new_at (by simp [hj])⟩

theorem Recs.ext {sz : Nat} {h h' : Heap} {x : CV} {n : Nat} {l : List Int} (r : Recs sz h x n l) (e : Ext h h') : Recs sz h' x n l := by
  refine ⟨r.1, ?_⟩
  rcases r.2 with h1 | ⟨i, o, c, h1, h2, h3⟩
  · exact .inl h1
  · exact .inr ⟨i, o, c, h1, Nat.lt_of_lt_of_le h2 e.1, fun j v hj => (e.read h2).trans (h3 j v hj)⟩

theorem Recs.extB {sz : Nat} {S : List Nat} {h h' : Heap} {x : CV} {n : Nat} {l : List Int} (r : Recs sz h x n l) (e : ExtB S h h') (hs : ∀ k, blk x = some k → k ∉ S) : Recs sz h' x n l := by
  refine ⟨r.1, ?_⟩
  rcases r.2 with h1 | ⟨i, o, c, rfl, h2, h3⟩
  · exact .inl h1
  · refine .inr ⟨i, o, c, rfl, Nat.lt_of_lt_of_le h2 e.1, fun j v hj => ?_⟩
    have := e.2 i h2 (hs i rfl)
    have h4 := h3 j v hj
    simp only [Heap.read] at h4 ⊢
    rw [this]; exact h4

theorem Recs.len {sz : Nat} {h0 h : Heap} {x : CV} {n : Nat} {l : List Int} (r : Recs sz h0 x n l) {loc vals : List AV} {X : X} (hX : X.eval loc vals = .c x) : evPure loc vals h (.len .sl X) = some (.c (.int .i64 (n : Int))) := by
  rcases r.2 with ⟨rfl, rfl⟩ | ⟨i, o, c, rfl, _, _⟩ <;> simp only [evPure, hX] <;> rfl

/-- A record's cells. -/
theorem Recs.sl {sz : Nat} {h : Heap} {x : CV} {n : Nat} {l : List Int} (r : Recs sz h x n l) (hn : 0 < n) : ∃ i o c, x = .sl i o n c ∧ i < h.next ∧ ∀ j k (_ : j < n) (_ : k < sz), h.read i (o + j * sz + k) 1 = some [.int .i64 (l.getD (j * sz + k) 0)] := by
  obtain ⟨hl, ⟨_, h0⟩ | ⟨i, o, c, h1, h2, h3⟩⟩ := r
  · omega
  · refine ⟨i, o, c, h1, h2, fun j k hj hk => ?_⟩
    have hlt : j * sz + k < l.length := by
      rw [hl]
      have : (j + 1) * sz ≤ n * sz := Nat.mul_le_mul_right _ hj
      rw [Nat.add_mul] at this; omega
    have := h3 (j * sz + k) l[j * sz + k] (by simp [hlt])
    rw [← Nat.add_assoc] at this
    rw [this]; simp [List.getD_eq_getElem?_getD, hlt]
end Lav
