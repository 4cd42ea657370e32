/-
  Symbolic execution: slices of ints that were made; what is filled place by place.
-/
import Derived.Test.YtdilhnnbfkiacaaFwL
namespace Lav
open Go (IntKind BinOp UnOp)

def icell (v : Int) : CV := .int .i64 v

/-- A slice of ints in a block of its own that was made since h0. -/
def Made (h0 h : Heap) (x : CV) (vs : List Int) : Prop :=
  (x = .nils ∧ vs = []) ∨ ∃ i c, x = .sl i 0 vs.length c ∧ h.get i = some (.cells (vs.map icell)) ∧ h0.next ≤ i ∧ i < h.next

theorem Made.ints {h0 h : Heap} {x : CV} {vs : List Int} (m : Made h0 h x vs) : Ints h x vs := by
  rcases m with h1 | ⟨i, c, rfl, hg, _, hi⟩
  · exact .inl h1
  · exact ints_cells hi hg

theorem Mine.made {h0 h : Heap} {x : CV} {n : Nat} {vs : List Int} (m : Mine 1 h0 h x n (vs.map icell)) : Made h0 h x vs := by
  obtain ⟨hlen, ⟨rfl, rfl⟩ | ⟨i, rfl, hg, h1, hi⟩⟩ := m
  · exact .inl ⟨rfl, by simpa using hlen⟩
  · have : n = vs.length := by simpa using hlen.symm
    subst this
    exact .inr ⟨i, _, rfl, hg, h1, hi⟩

theorem Made.len {h0 h1 h : Heap} {x : CV} {vs : List Int} (m : Made h0 h1 x vs) {loc vals : List AV} {X : X} (hX : X.eval loc vals = .c x) : evPure loc vals h (.len .sl X) = some (.c (.int .i64 (vs.length : Int))) := m.ints.len hX

theorem Made.keep {h0 h h' : Heap} {x : CV} {vs : List Int} (m : Made h0 h x vs) (hn : h.next ≤ h'.next) (hk : ∀ k, k < h.next → blk x = some k → h'.get k = h.get k) : Made h0 h' x vs := by
  rcases m with h1 | ⟨i, c, rfl, hg, h1, hi⟩
  · exact .inl h1
  · exact .inr ⟨i, c, rfl, (hk i hi rfl).trans hg, h1, Nat.lt_of_lt_of_le hi hn⟩

theorem Made.ext {h0 h h' : Heap} {x : CV} {vs : List Int} (m : Made h0 h x vs) (e : Ext h h') : Made h0 h' x vs := m.keep e.1 fun k hk _ => e.2 k hk

theorem Made.from_ {h0 h00 h : Heap} {x : CV} {vs : List Int} (m : Made h0 h x vs) (e : h00.next ≤ h0.next) : Made h00 h x vs := by
  rcases m with h1 | ⟨i, c, rfl, hg, h1, hi⟩
  · exact .inl h1
  · exact .inr ⟨i, c, rfl, hg, Nat.le_trans e h1, hi⟩

theorem cells_of {l : List CV} {n : Nat} {f : Nat → CV} (hl : l.length = n) (h : ∀ j, j < n → l[j]? = some (f j)) : l = (List.range n).map f := by
  apply List.ext_getElem?
  intro j
  rcases Nat.lt_or_ge j n with hj | hj
  · rw [h j hj]; simp [hj]
  · rw [List.getElem?_eq_none (by omega), List.getElem?_eq_none (by simp; omega)]

theorem zerosGet {n : Nat} {z : CV} : ∀ {j : Nat}, j < n → (zeros n [z])[j]? = some z := by
  induction n with
  | zero => intro j h; omega
  | succ n ih =>
    intro j h
    cases j with
    | zero => rfl
    | succ j => simpa [zeros] using ih (j := j) (by omega)
theorem zerosLen {n : Nat} {z : CV} : (zeros n [z]).length = n := by
  induction n with
  | zero => rfl
  | succ n ih => simp [zeros, ih]

theorem loopK_end' {call : Nat → List AV → Heap → Option (AV × Heap)} {N n j : Nat} {keep : List Bool} {a : IR} {loc loc1 loc' : List AV} {h h' : Heap} (hk : keepOnly keep loc = loc1) (he : ev call N a loc1 h = some (.exit j, loc', h')) : loopK call N keep a (n + 1) loc h = some (.exit j, loc', h') := by
  rw [loopK_succ, hk, he]; rfl

theorem p_mn {loc vals : List AV} {h : Heap} {x : X} {r : List X} : evPure loc vals h (.mn (x :: r)) = (match x.eval loc vals with
      | .c (.int k n) => foldInt loc vals (fun a b => if b < a then b else a) (.c (.int k n)) r
      | _ => none) := rfl
theorem p_mx {loc vals : List AV} {h : Heap} {x : X} {r : List X} : evPure loc vals h (.mx (x :: r)) = (match x.eval loc vals with
      | .c (.int k n) => foldInt loc vals (fun a b => if b > a then b else a) (.c (.int k n)) r
      | _ => none) := rfl
theorem p_ext {loc vals : List AV} {h : Heap} {i : Nat} {x : X} : evPure loc vals h (.ext i x) = (match x.eval loc vals with
    | .tup l => match l[i]? with
      | some v => some v.av
      | none => none
    | _ => none) := rfl
theorem p_faddr {loc vals : List AV} {h : Heap} {off : Nat} {x : X} : evPure loc vals h (.faddr off x) = (match x.eval loc vals with
    | .c (.ptr i o) => some (.c (.ptr i (o + off)))
    | _ => none) := rfl
theorem op_callv {call : Nat → List AV → Heap → Option (AV × Heap)} {loc vals : List AV} {h : Heap} {f : X} {l : List X} : evOp loc vals call h (.callv f l) = (match f.eval loc vals with
    | .c (.fn g caps) => call g (evArgs loc vals l ++ capVals caps) h
    | _ => none) := rfl
theorem op_faddr {call : Nat → List AV → Heap → Option (AV × Heap)} {loc vals : List AV} {h : Heap} {n : Nat} {x : X} : evOp loc vals call h (.faddr n x) = pureK h (evPure loc vals h (.faddr n x)) := rfl
theorem op_mkch {call : Nat → List AV → Heap → Option (AV × Heap)} {loc vals : List AV} {h : Heap} {n : Nat} {x : X} : evOp loc vals call h (.mkch n x) = newK h (evNew loc vals (.mkch n x)) := rfl
theorem op_build {call : Nat → List AV → Heap → Option (AV × Heap)} {loc vals : List AV} {h : Heap} {z : List CV} {ps : List (Nat × Nat × X)} : evOp loc vals call h (.build z ps) = pureK h (evPure loc vals h (.build z ps)) := rfl
theorem op_nilchk {call : Nat → List AV → Heap → Option (AV × Heap)} {loc vals : List AV} {h : Heap} {x : X} : evOp loc vals call h (.nilchk x) = pureK h (evPure loc vals h (.nilchk x)) := rfl
theorem op_field {call : Nat → List AV → Heap → Option (AV × Heap)} {loc vals : List AV} {h : Heap} {o n : Nat} {g : Bool} {x : X} : evOp loc vals call h (.field o n g x) = pureK h (evPure loc vals h (.field o n g x)) := rfl
theorem op_mkfn {call : Nat → List AV → Heap → Option (AV × Heap)} {loc vals : List AV} {h : Heap} {f : Nat} {l : List X} : evOp loc vals call h (.mkfn f l) = pureK h (evPure loc vals h (.mkfn f l)) := rfl
theorem op_recvd {call : Nat → List AV → Heap → Option (AV × Heap)} {loc vals : List AV} {h : Heap} {x : X} {z : XV} : evOp loc vals call h (.recvd x z) = evComm loc vals h (.recvd x z) := rfl
theorem op_sendd {call : Nat → List AV → Heap → Option (AV × Heap)} {loc vals : List AV} {h : Heap} {x y : X} : evOp loc vals call h (.sendd x y) = evComm loc vals h (.sendd x y) := rfl
theorem op_send {call : Nat → List AV → Heap → Option (AV × Heap)} {loc vals : List AV} {h : Heap} {x y : X} : evOp loc vals call h (.send x y) = evComm loc vals h (.send x y) := rfl
end Lav
