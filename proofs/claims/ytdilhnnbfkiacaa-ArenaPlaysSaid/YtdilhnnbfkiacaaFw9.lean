/-
  Operations that write, and what an append leaves.
-/
import Derived.Test.YtdilhnnbfkiacaaFw8
namespace Lav
open Go

section
variable {P : Program} {slots : List Nat} {ds : List (Option Nat)} {loc vals : List AV} {ρ : Operand → Value} {ι : Inj} {B : Nat} {h : Heap} {w : World}

theorem setCells_heap (b : Nat) : ∀ (vs : List Value) (off : Nat) (w : World) (c : Array Value) (e : TypeId) (fz : Nat × Nat), w.heap[b]? = some (.cells c e fz) → off + vs.length ≤ c.size →
    ∃ c' : Array Value, (w.setCells b off vs).heap[b]? = some (.cells c' e fz) ∧ c'.size = c.size ∧ (∀ j : Nat, c'[j]? = if off ≤ j ∧ j < off + vs.length then vs[j - off]? else c[j]?) ∧
      (∀ x, x ≠ b → (w.setCells b off vs).heap[x]? = w.heap[x]?) ∧ (w.setCells b off vs).heap.size = w.heap.size ∧ (w.setCells b off vs).os = w.os ∧ (w.setCells b off vs).output = w.output ∧ (w.setCells b off vs).tape = w.tape
  | [], off, w, c, e, fz, hb, _ => ⟨c, hb, rfl, by intro j; simp; intro h1 h2; omega, fun _ _ => rfl, rfl, rfl, rfl, rfl⟩
  | v :: vs, off, w, c, e, fz, hb, hle => by
    simp only [List.length_cons] at hle
    have hb' : (w.setCell ⟨b, off, none⟩ v).heap[b]? = some (.cells (c.setIfInBounds off v) e fz) := by
      simp [World.setCell, Array.getElem?_modify, hb]
    obtain ⟨c', h1, h2, h3, h4, h5, h6, h7, h8⟩ := setCells_heap b vs (off + 1) _ _ e fz hb' (by simp; omega)
    refine ⟨c', h1, by simpa using h2, fun j => ?_, fun x hx => ?_, by rw [World.setCells, h5]; simp, h6, h7, h8⟩
    · rw [h3 j]
      simp only [List.length_cons]
      by_cases e1 : j = off
      · subst e1
        rw [if_neg (by omega), if_pos (by omega)]
        have : j < c.size := by omega
        simp [this]
      · by_cases e2 : off + 1 ≤ j ∧ j < off + 1 + vs.length
        · rw [if_pos e2, if_pos (by omega), show j - off = (j - (off + 1)) + 1 by omega]; simp
        · rw [if_neg e2, if_neg (by omega), Array.getElem?_setIfInBounds_ne (Ne.symm e1)]
    · rw [World.setCells, h4 x hx]
      simp [World.setCell, Array.getElem?_modify, Ne.symm hx]

/-- Cells written into one of the call's own blocks. -/
theorem store_cells {b off : Nat} {vs : List Value} {c : Array Value} {e : TypeId} {fz : Nat × Nat} (hb : w.heap[b]? = some (.cells c e fz)) (hfz : fz.1 = fz.2 ∨ c.size ≤ fz.1) (hle : off + vs.length ≤ c.size)
    (h1 : ∀ v ∈ vs, v.oneCell' = true) : (storeCells ⟨b, off, none⟩ vs).run P w = .ok () (w.setCells b off vs) := by
  have := run_storeCells_cells (P := P) b off vs 0 w (fun j hj => by
    have : off + 0 + j < c.size := by omega
    simp [World.cell?, hb]; omega) (fun j hj => by
    obtain ⟨lo, hi⟩ := fz
    simp only [World.frozen?, hb]
    simp only at hfz
    have hj : off + 0 + j < c.size := by omega
    rcases hfz with h' | h'
    · subst h'
      cases hd : decide (lo ≤ off + 0 + j) with
      | false => rfl
      | true => simp at hd ⊢; omega
    · simp; omega) h1
  simpa using this

theorem write_inv {i o : Nat} {l : List CV} {h' : Heap} (hw : h.write i o l = some h') : ∃ l0 l1, h.get i = some (.cells l0) ∧ patch l0 o l = some l1 ∧ h' = h.put i (.cells l1) := by
  unfold Heap.write at hw
  split at hw
  · rename_i l0 hg
    split at hw
    · rename_i l1 hp
      simp only [Option.some.injEq] at hw
      exact ⟨l0, l1, hg, hp, hw.symm⟩
    · cases hw
  · cases hw

/-- A write of the evaluator's is the model's storing of cells. -/
theorem write_sound (hr : HR B ι h.get w) (hf : ∀ i, h.next ≤ i → ι i = none) {i o b base lim : Nat} {l : List CV} {vs : List Value} {h' : Heap} (hw : h.write i o l = some h') (hi : ι i = some (b, base, lim)) (hv : All2 (CR ι) l vs) :
    ∃ w', (storeCells ⟨b, base + o, none⟩ vs).run P w = .ok () w' ∧ Post B ι h w ι h' w' := by
  obtain ⟨l0, l1, hg, hp, rfl⟩ := write_inv hw
  obtain ⟨p1, rfl⟩ := patch_spec hp
  obtain ⟨s1, s2⟩ := setMany_spec l l0 o p1
  obtain ⟨b', base', lim', hi', hB, c, e, fz, hb, hlim, hll, hfz, hcells⟩ := hr.at_ _ _ hg
  rw [hi] at hi'; simp only [Option.some.injEq, Prod.mk.injEq] at hi'
  obtain ⟨rfl, rfl, rfl⟩ := hi'
  have hvl : l.length = vs.length := hv.length
  have hle : base + o + vs.length ≤ c.size := by omega
  obtain ⟨c', q1, q2, q3, q4, q5, q6, q7, q8⟩ := setCells_heap b vs (base + o) w c e fz hb hle
  refine ⟨_, store_cells (P := P) hb hfz hle hv.ones, Post.put hr hf hg rfl rfl hi ?_ (by rw [q5]; exact Nat.le_refl _) (fun x hx _ => q4 x hx) q6 q7 q8⟩
  refine ⟨hB, c', e, fz, q1, by omega, by omega, by rw [q2]; exact hfz, fun j x hx => ?_⟩
  rw [s2 j] at hx
  rw [q3]
  by_cases e1 : o ≤ j ∧ j < o + l.length
  · rw [if_pos e1] at hx
    rw [if_pos (by omega), show base + j - (base + o) = j - o by omega]
    exact hv.get _ _ hx
  · rw [if_neg e1] at hx
    rw [if_neg (by omega)]
    exact hcells _ _ hx

/-! ### What an append or a copy takes -/
theorem source_sound (hr : HR B ι h.get w) {sz n : Nat} {a : AV} {v : Value} {l : List CV} (hs : source h sz a = some (n, l)) (ha : AR ι a v) :
    (Builtin.lenOf v).run P w = .ok n w ∧ l.length = n * sz ∧ ∀ m, m ≤ n → ∃ vs : List Value, (∀ w2 : World, w2.heap = w.heap → (Builtin.firstCells sz m v).run P w2 = .ok vs.toArray w2) ∧ All2 (CR ι) (l.take (m * sz)) vs := by
  unfold source at hs
  split at hs
  · simp only [Option.some.injEq, Prod.mk.injEq] at hs
    obtain ⟨rfl, rfl⟩ := hs
    simp only [AR, CR] at ha; subst ha
    exact ⟨rfl, by simp, fun m hm => ⟨[], fun _ _ => rfl, by simp [All2]⟩⟩
  · rename_i i o len c
    split at hs
    · rename_i l' hl
      simp only [Option.some.injEq, Prod.mk.injEq] at hs
      obtain ⟨rfl, rfl⟩ := hs
      obtain ⟨b, base, lim, ad, cap, hi, rfl, hlc, had, hcap⟩ := ha
      obtain ⟨b', base', lim', vs, hi', h2, hlen, hll, hcell, hrun⟩ := hr.loads hl
      rw [hi] at hi'; simp only [Option.some.injEq, Prod.mk.injEq] at hi'
      obtain ⟨rfl, rfl, rfl⟩ := hi'
      refine ⟨rfl, hll, fun m hm => ?_⟩
      by_cases h0 : cap = 0
      · have hm0 : m = 0 := by omega
        subst hm0
        exact ⟨[], fun _ _ => by simp [Builtin.firstCells, loadCells, loadCellsFrom], by simp [All2]⟩
      · refine ⟨vs.take (m * sz), fun w2 hw2 => ?_, h2.take _⟩
        have hml : m * sz ≤ len * sz := Nat.mul_le_mul_right _ hm
        rw [had h0]
        have := run_loadCells_list (P := P) (w := w2) ⟨b, base + o, none⟩ (vs.take (m * sz)) (fun j u hu => by
          rw [Addr.add_lit, World.cell?, hw2]
          rw [List.getElem?_take] at hu
          split at hu
          · exact hcell j u hu
          · cases hu)
        rw [show (vs.take (m * sz)).length = m * sz by rw [List.length_take]; omega] at this
        exact this
    · split at hs
      · simp only [Option.some.injEq, Prod.mk.injEq] at hs
        obtain ⟨rfl, rfl⟩ := hs
        obtain ⟨b, base, lim, ad, cap, hi, rfl, hlc, had, hcap⟩ := ha
        refine ⟨rfl, by simp, fun m hm => ?_⟩
        have hm0 : m = 0 := by omega
        subst hm0
        exact ⟨[], fun _ _ => by simp [Builtin.firstCells, loadCells, loadCellsFrom], by simp [All2]⟩
      · cases hs
  · rename_i s
    cases h1 : sz == 1 with
    | false => rw [h1] at hs; cases hs
    | true =>
      rw [h1] at hs; simp at h1; subst h1
      simp only [cond_true, Option.some.injEq, Prod.mk.injEq] at hs
      obtain ⟨rfl, rfl⟩ := hs
      obtain ⟨bs, rfl, hbs⟩ := ha
      have hlen := size_of_bytes hbs
      refine ⟨by rw [← hlen]; rfl, by simp [byteCells], fun m hm => ⟨((bs.extract 0 m).data.map fun b => Value.int .u8 b.toNat).toList, fun _ _ => rfl, ?_⟩⟩
      have hrel := byteCells_rel (ι := ι) hbs
      have h3 := hrel.take (m * 1)
      have e : ((bs.extract 0 m).data.map fun b => Value.int .u8 b.toNat).toList = (bs.data.map fun b => Value.int .u8 b.toNat).toList.take (m * 1) := by
        rw [ByteArray.data_extract]
        simp [List.extract_eq_take_drop]
      rw [e]; exact h3
  · cases hs

theorem take_all {l : List CV} {n : Nat} (h : l.length = n) : l.take n = l := by subst h; exact List.take_length

theorem elemOf_inv {t : TypeId} {p : Nat × Nat} (he : elemOf P t = some p) : ∃ e z, P.underlying t = some (.slice e) ∧ tSize P e = some p.1 ∧ tBytes P e = some p.2 ∧ tZeros P e = some z ∧ z.length = p.1 ∧ p.1 ≠ 0 ∧ p.2 ≠ 0 ∧ p.2 ≤ 1024 := by
  unfold elemOf at he
  split at he
  · rename_i e hu
    obtain ⟨n, hn, he⟩ := ob_some he
    obtain ⟨b, hb, he⟩ := ob_some he
    obtain ⟨z, hz, he⟩ := ob_some he
    cases hc : (z.length == n && !(n == 0) && !(b == 0) && Nat.ble b 1024) with
    | false => rw [hc] at he; cases he
    | true =>
      rw [hc] at he; simp only [cond_true, Option.some.injEq] at he; subst he
      simp only [Bool.and_eq_true, Nat.ble_eq, beq_iff_eq, Bool.not_eq_true', beq_eq_false_iff_ne] at hc
      exact ⟨e, z, hu, hn, hb, hz, hc.1.1.1, hc.1.1.2, hc.1.2, hc.2⟩
  · cases he

theorem sourceOk_inv {sz : Nat} {t : TypeId} (hs : sourceOk P sz t = true) : ∃ d, P.underlying t = some d ∧ (match d with | .int _ => false | _ => true) = true := by
  unfold sourceOk at hs
  split at hs
  · rename_i e hu; exact ⟨_, hu, rfl⟩
  · rename_i hu; exact ⟨_, hu, rfl⟩
  · cases hs

theorem growBy_le (n : Nat) : ∀ (r c : Nat), c ≤ n → Builtin.growBy n r c ≤ 2 * n + 1000
  | 0, c, h => by simp [Builtin.growBy]; omega
  | r + 1, c, h => by
    unfold Builtin.growBy
    split
    · omega
    · by_cases h' : c + (c + 768) / 4 ≤ n
      · exact growBy_le n r _ h'
      · cases r with
        | zero => simp [Builtin.growBy]; omega
        | succ r => unfold Builtin.growBy; rw [if_pos (by omega)]; omega

theorem nextslicecap_le {n c : Nat} (h : c < n) : Builtin.nextslicecap n c ≤ 2 * n + 1000 := by
  unfold Builtin.nextslicecap
  split
  · omega
  · split
    · omega
    · exact growBy_le n 4 c (by omega)

end
end Lav
