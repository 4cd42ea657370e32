/-
  Records of ints that come in by value: what a row says of them.
-/
import Derived.Test.YtdeehmncnfdmkaaFwR
namespace Lav
open Go

section
variable {H : Type} {enc : TypeId × Value → H} {P : Program} {w : World} {base : Nat} {spare : Nat → Bool} {held : Bool}

theorem open_struct {t : TypeId} {fs : Array Field} {sz : Nat} {v : Array Value} {d : DataW H} {ps : List MemPlace} (ht : P.underlying t = some (.struct fs)) (hs : v.size = sz)
    (hf : ∀ j, j < sz → ∃ (i : Nat) (f : Field), fs[i]? = some f ∧ f.offset = j ∧ P.underlying f.type = some (.int .i64) ∧ P.cellsOf f.type = 1) (h : DataW.Trod enc P w base spare held t (.agg v) d ps) :
    ∃ zs : List Int, v = (zs.map (Value.int .i64)).toArray ∧ zs.length = sz ∧ ∀ n ∈ zs, (Lit.int .i64 n).wf = true := by
  obtain ⟨fuel, h2⟩ := h
  have each : ∀ p, p < sz → ∃ n : Int, v[p]? = some (.int .i64 n) ∧ (Lit.int .i64 n).wf = true := by
    intro p hp
    obtain ⟨xs, k, _, _, _, hxl, hfx⟩ := DataW.trod_struct ht h2
    obtain ⟨i, f, hif, hoff, hu, hc1⟩ := hf p hp
    have hlt : i < xs.length := by
      rw [hxl]
      rcases Nat.lt_or_ge i fs.size with h' | h'
      · exact h'
      · rw [Array.getElem?_eq_none h'] at hif; cases hif
    have hy := hfx i f hif
    rw [List.getElem?_eq_getElem hlt, hoff, hc1] at hy
    obtain ⟨n, hv, _, hw⟩ := DataW.trod_int hu hy
    have hcs : (Value.cells (.agg v)).toList[p]? = some (.int .i64 n) := by
      have : (((Value.cells (.agg v)).toList.drop p).take 1)[0]? = some (.int .i64 n) := by rw [hv]; rfl
      rw [List.getElem?_take, if_pos (by omega), List.getElem?_drop] at this
      simpa using this
    refine ⟨n, ?_, hw⟩
    simpa [Value.cells] using hcs
  obtain ⟨f, hfv⟩ := Go.Deep.choose_lt each
  refine ⟨(List.range sz).map f, ?_, by simp, fun n hn => ?_⟩
  · apply Array.ext'
    apply List.ext_getElem?
    intro j
    rcases Nat.lt_or_ge j sz with hj | hj
    · have := (hfv j hj).1
      simp only [List.getElem?_map, Array.getElem?_toList, this]
      simp [hj]
    · rw [List.getElem?_eq_none (by simp; omega), List.getElem?_eq_none (by simp; omega)]
  · obtain ⟨i, hi, rfl⟩ := List.mem_map.1 hn
    exact (hfv i (by simpa using hi)).2
end
theorem ar_ints {ι : Inj} {zs : List Int} : AR ι (.agg (zs.map (.int .i64))) (.agg (zs.map (Value.int .i64)).toArray) := by
  refine ⟨_, rfl, ?_⟩
  show All2 (CR ι) _ (zs.map (Value.int .i64)).toArray.toList
  induction zs with
  | nil => exact trivial
  | cons z zs ih => exact ⟨rfl, by simpa using ih⟩
end Lav
