/-
  Calls of a function that takes nothing and answers true whatever the world is (the laws' own 'told'): the evaluator need not walk it again.
-/
import Derived.Test.YtdilhnnbfkiacaaFwV
import Derived.Test.YtdilhnnbfkiacaaFwU
namespace Lav
open Go

/-- One call over whatever stands for the calls in it. -/
def stepCall (table : List (Nat × IRF)) (N : Nat) (call : Call) : Call := fun f args h =>
  match table.lookup f with
  | none => none
  | some F =>
    bif args.length == F.nparams then
      match ev call N F.body (enter F.slots args) h with
      | some (.norm, loc, h') => match result loc h' F.results with
        | some r => some (r, h')
        | none => none
      | some (.ret, loc, h') => match result loc h' F.results with
        | some r => some (r, h')
        | none => none
      | _ => none
    else none

theorem stepCall_sound {P : Program} {table : List (Nat × IRF)} (hm : P.follows .mixedOrders = true) (ht : TableOK P table) (N : Nat) {call : Call} (hc : CallX P call) : CallOK P (stepCall table N call) := by
  intro f args h r h' he
  simp only [stepCall] at he
  split at he
  · cases he
  · rename_i F hF
    obtain ⟨fn, keeps, hfn, hcf⟩ := ht f F hF
    obtain ⟨c, rs, hb, hrs, hname, hsz, hsl, hnd, hFe⟩ := cFunc_inv hcf
    cases hlen : (args.length == F.nparams) with
    | false => rw [hlen] at he; cases he
    | true =>
      rw [hlen] at he; simp only [cond_true] at he
      have hlen' : args.length = fn.params.size + fn.nfree := by rw [hFe] at hlen; simpa using hlen
      refine ⟨⟨fn, hfn, hname, by rw [hb]; rfl⟩, fun B ι w vs hr hf ha => ?_⟩
      have hvl : vs.length = args.length := ha.length.symm
      have hfr := enter_sound (slots := F.slots) (ntmps := fn.ntmps) ha (by omega)
      have hbody : F.body = (cCode P F.slots fn.ntmps c keeps).1 := by rw [hFe]
      have hres : F.results = rs := by rw [hFe]
      have main : ∀ (ex : Ex) (loc' : List AV) (h1 : Heap), ev call N F.body (enter F.slots args) h = some (ex, loc', h1) → (ex = .norm ∨ ex = .ret) → result loc' h1 F.results = some r → h1 = h' → Calls P f vs.toArray w fun e w' => ∃ v, e = .returned v ∧ Left B ι h w r h' v w' := by
        rintro ex loc' h1 hev hex hresult rfl
        rw [hbody] at hev
        have hdoes := code_sound hc hm hnd N c keeps _ _ _ _ _ ι _ B w hfr hev hr hf
        intro cs
        let b : Frame := { (default : Frame) with fn := f, kind := .normal }
        have henter : Frame.enter P f vs.toArray .normal = b.at { tmps := vs.toArray ++ Array.replicate (fn.ntmps - vs.toArray.size) undef, defers := [] } [.code c] := by
          simp [Frame.enter, Frame.at, hfn, hb, b]
        obtain ⟨a', w', ι', g1, g2, g3⟩ := hdoes b [] cs rfl
        rw [← henter] at g3
        rw [hres] at hresult
        obtain ⟨v, hv, hvr⟩ := result_sound (P := P) (fn := fn) g1 g2.rel hrs hresult
        rcases hex with rfl | rfl
        · exact ⟨.returned v, w', _, ⟨v, rfl, ι', hvr, g2⟩, Steps.trans g3 (.one step_end), rfl, rfl, g1.defers, rfl, fn, hfn, hv⟩
        · obtain ⟨todo, hs⟩ := g3
          exact ⟨.returned v, w', _, ⟨v, rfl, ι', hvr, g2⟩, hs, rfl, rfl, g1.defers, rfl, fn, hfn, hv⟩
      split at he
      · rename_i loc' h1 hev
        split at he
        · rename_i r' hr'
          simp only [Option.some.injEq, Prod.mk.injEq] at he
          obtain ⟨rfl, rfl⟩ := he
          exact main _ _ _ hev (.inl rfl) hr' rfl
        · cases he
      · rename_i loc' h1 hev
        split at he
        · rename_i r' hr'
          simp only [Option.some.injEq, Prod.mk.injEq] at he
          obtain ⟨rfl, rfl⟩ := he
          exact main _ _ _ hev (.inr rfl) hr' rfl
        · cases he
      · cases he

theorem callF1_step (table : List (Nat × IRF)) (N : Nat) (call : Call) (f : Nat) (args : List AV) (h : Heap) : callF1 call N args h (lookF table f) = stepCall table N call f args h := by
  rw [lookF_eq]
  simp only [stepCall, callF1]
  cases table.lookup f with
  | none => rfl
  | some F =>
    simp only [bodyF, evF_eq]
    rw [nbeq]; rfl

def toldF (args : List AV) (h : Heap) : Option (AV × Heap) := match args with
  | [] => some (.c (.bool true), h)
  | _ => none

/-- The evaluator that takes 'told' as true. -/
noncomputable def evCallT (table : List (Nat × IRF)) (told N : Nat) (d : Nat) : Call :=
  Nat.rec (fun _ _ _ => none) (fun _ ih f args h => bif Nat.beq f told then toldF args h else callF1 ih N args h (lookF table f)) d

/-- It is true, and turns nothing that was there. -/
def ToldOK (P : Program) (told : Nat) : Prop := (∃ fn, P.funcs[told]? = some fn ∧ (fn.name == "runtime.NumGoroutine") = false ∧ fn.body.isNone = false) ∧
  ∀ w, Calls P told #[] w fun e w' => e = .returned (.bool true) ∧ RowKit.Below w.heap.size w w'

theorem told_of {P : Program} {call : Call} (hc : CallOK P call) {told : Nat} (hg : good (call told [] Heap.empty) = true) : ToldOK P told := by
  obtain ⟨h', he⟩ := good_inv hg
  exact ⟨(hc told [] Heap.empty _ _ he).1, fun w => walk_of hc (Init.empty w) (args := []) (vs := []) trivial hg⟩

theorem below_post {B : Nat} {ι : Inj} {h : Heap} {w w' : World} (hr : HR B ι h.get w) (hf : ∀ i, h.next ≤ i → ι i = none) (hb : RowKit.Below w.heap.size w w') : Post B ι h w ι h w' :=
  ⟨Nat.le_refl _, fun _ _ => rfl, fun _ _ x => x, ⟨fun i k hi => let ⟨b, base, lim, h1, h2⟩ := hr.at_ i k hi; ⟨b, base, lim, h1, h2.move (Le.refl _) (hb.block b h2.lt)⟩, hr.apart, Nat.le_trans hr.base hb.size⟩, hf,
    ⟨hb.os, hb.output, hb.tape, hb.size, fun b hl _ => hb.block b hl, fun _ x => .inl x⟩⟩

theorem evCallT_sound {P : Program} {table : List (Nat × IRF)} {told : Nat} (hm : P.follows .mixedOrders = true) (ht : TableOK P table) (hT : ToldOK P told) (N : Nat) : ∀ d, CallOK P (evCallT table told N d)
  | 0 => fun f args h r h' he => by cases he
  | d + 1 => by
    intro f args h r h' he
    have he' : (bif Nat.beq f told then toldF args h else callF1 (evCallT table told N d) N args h (lookF table f)) = some (r, h') := he
    cases hb : Nat.beq f told with
    | false =>
      rw [hb, cond_false, callF1_step] at he'
      exact stepCall_sound hm ht N (evCallT_sound hm ht hT N d).x f args h r h' he'
    | true =>
      rw [hb, cond_true] at he'
      have hft : f = told := Nat.eq_of_beq_eq_true hb
      subst hft
      cases args with
      | cons a l => cases he'
      | nil =>
        simp only [toldF, Option.some.injEq, Prod.mk.injEq] at he'
        obtain ⟨rfl, rfl⟩ := he'
        refine ⟨hT.1, fun B ι w vs hr hf ha => ?_⟩
        have hvs : vs = [] := by
          cases vs with
          | nil => rfl
          | cons v vs => exact ha.elim
        subst hvs
        exact (hT.2 w).mono fun e w' ⟨h1, h2⟩ => ⟨_, h1, ι, rfl, below_post hr hf h2⟩
end Lav
