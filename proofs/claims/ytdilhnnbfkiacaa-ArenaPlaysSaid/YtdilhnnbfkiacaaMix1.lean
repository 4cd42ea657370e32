/-
  Records of numbers, bools and bytes that came in: their cells.
-/
import Derived.Test.YtdilhnnbfkiacaaFwZ
import Derived.Test.YtdilhnnbfkiacaaOps0
set_option maxRecDepth 100000
set_option linter.unusedSimpArgs false
namespace Lav
open Go (IntKind)

section
variable {h : Heap} {n : Nat} {x : CV} {cs : List CV} {ks : List CK}
theorem Mix.cell (r : Mix ks h x n cs) {b i j : Nat} {k : CK} (hg : h.get b = some (.ro cs)) (hi : i < n) (hj : ks[j]? = some k) : ∃ c, h.read b (i * ks.length + j) 1 = some [c] ∧ CellIs h k c := by
  obtain ⟨c, hc, hk⟩ := r.2.2 i j k hi hj
  exact ⟨c, read_ro hg hc, hk⟩
theorem Mix.int (r : Mix ks h x n cs) {b i j : Nat} (hg : h.get b = some (.ro cs)) (hi : i < n) (hj : ks[j]? = some .int) : ∃ v : Int, h.read b (i * ks.length + j) 1 = some [.int .i64 v] := by
  obtain ⟨c, hc, v, rfl, _⟩ := r.cell hg hi hj
  exact ⟨v, hc⟩
theorem Mix.bool (r : Mix ks h x n cs) {b i j : Nat} (hg : h.get b = some (.ro cs)) (hi : i < n) (hj : ks[j]? = some .bool) : ∃ v, h.read b (i * ks.length + j) 1 = some [.bool v] := by
  obtain ⟨c, hc, v, rfl⟩ := r.cell hg hi hj
  exact ⟨v, hc⟩
theorem Mix.bytes (r : Mix ks h x n cs) {b i j : Nat} (hg : h.get b = some (.ro cs)) (hi : i < n) (hj : ks[j]? = some .bytes) : ∃ c l, h.read b (i * ks.length + j) 1 = some [c] ∧ ByteRow h c l := by
  obtain ⟨c, hc, l, hl⟩ := r.cell hg hi hj
  exact ⟨c, l, hc, hl⟩
end

/-- A loop's answer hangs on what is kept alone. -/
theorem loop_any {call : Nat → List AV → Heap → Option (AV × Heap)} {N n : Nat} {keep : List Bool} {body : IR} {h : Heap} {C : List AV} {Post : Ex × List AV × Heap → Prop}
    (H : ∀ loc, keepOnly keep loc = C → ∃ r, loopK call N keep body n loc h = some r ∧ Post r) (h0 : keepOnly keep C = C) (hn : 0 < n := by omega) : ∃ r, Post r ∧ ∀ loc, keepOnly keep loc = C → loopK call N keep body n loc h = some r := by
  obtain ⟨n, rfl⟩ : ∃ k, n = k + 1 := ⟨n - 1, by omega⟩
  obtain ⟨r, hr, hp⟩ := H C h0
  refine ⟨r, hp, fun loc hl => ?_⟩
  rw [← hr, loopK_succ, loopK_succ, hl, h0]
/-- Blocks of its own are turned alone. -/
theorem Ext.own {h G G' : Heap} {S : List Nat} (xg : Ext h G) (x' : ExtB S G G') (y : ∀ k ∈ S, h.next ≤ k) : Ext h G' :=
  ⟨Nat.le_trans xg.1 x'.1, fun k hk => (x'.2 k (Nat.lt_of_lt_of_le hk xg.1) fun hm => by have := y k hm; omega).trans (xg.2 k hk)⟩
end Lav
