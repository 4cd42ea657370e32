/-
  Layer 11: a frame's mark; how many are free.
-/
import Derived.Test.YtdcjiljegffalaaCore5
import Derived.Test.YtdcjiljegffalaaCAre6
set_option maxRecDepth 100000
set_option linter.unusedSimpArgs false
namespace Lav
open Go (IntKind)

section
variable {N d : Nat} {h : Heap} {k : Nat} {z : CP} {fs : List Fm} {o : List Int} {M : Nat → Option Int} {od ts : List Int}
theorem markF_st (fs : List Fm) (f : Int) (b : Bool) : (markF fs f b).2.length = fs.length ∧ ∀ (i : Nat) (g : Fm), (markF fs f b).2[i]? = some g → ∃ g0, fs[i]? = some g0 ∧ g.st = g0.st ∧ g.pg = g0.pg ∧ g.pn = g0.pn := by
  unfold markF
  cases e : usedF fs f with
  | none => exact ⟨rfl, fun _ g hg => ⟨g, hg, rfl, rfl, rfl⟩⟩
  | some x =>
    obtain ⟨i, g⟩ := x
    obtain ⟨rfl, hi, rfl, h1⟩ := usedF_some e
    refine ⟨by simp, fun j g hg => ?_⟩
    rcases (set_at hi).1 hg with ⟨rfl, rfl⟩ | ⟨_, h⟩
    · exact ⟨fs[j], List.getElem?_eq_getElem hi, rfl, rfl, rfl⟩
    · exact ⟨g, h, rfl, rfl, rfl⟩
theorem CH.mark (C : CH h k z fs o M od ts) (f : Int) (b : Bool) : ∃ h', evCallT table 15 N (d + 2) 14 [.c (.ptr z.p 0), .c (.int .i64 f), .c (.bool b)] h = some (.c (.int .i64 (markF fs f b).1), h') ∧ CH h' k z (markF fs f b).2 o M od ts ∧ ExtB (z.own k) h h' := by
  obtain ⟨h', e, A, x⟩ := C.ah.mark (N := N) (d := d) f b
  have s := markF_st fs f b
  obtain ⟨C', x'⟩ := C.arena A x (fun x hx => let ⟨i, h1, h2⟩ := C.lo x hx; ⟨i, h1, by rw [s.1]; exact h2⟩) fun i g hg hs => let ⟨g0, h1, h2, _⟩ := s.2 i g hg; C.hi i g0 h1 (by rw [← h2]; exact hs)
  exact ⟨h', e, C', x'⟩
theorem CH.frames (C : CH h k z fs o M od ts) (hN : 100 ≤ N) : ∃ y h', evCallT table 15 N (d + 1) 9 [.c (.ptr z.p 0)] h = some (.c y, h') ∧ Tells h h' y fs ∧ CH h' k z fs o M od ts ∧ Ext h h' := by
  obtain ⟨y, h', e, T, x⟩ := frames_ok (N := N) (d := d) C.ah.ar C.ah.sm hN
  exact ⟨y, h', e, T, C.ext' x, x⟩
end
end Lav
