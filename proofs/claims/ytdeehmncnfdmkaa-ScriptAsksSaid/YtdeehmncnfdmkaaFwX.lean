/-
  The model's own entry that gives new bytes of which nothing is known.
-/
import Derived.Test.YtdeehmncnfdmkaaFwW
import Derived.Lib.MakeNoZero
import Derived.Laws.Externs
namespace Lav
open Go

/-- A byte of which nothing is known. -/
def anyC : CV := .res false 0 0

def mnzF (args : List AV) (h : Heap) : Option (AV × Heap) := match args with
  | [.c (.int .i64 (.ofNat k))] => bif Nat.ble k 1048576 then some (.c (.sl h.next 0 k (.dy 1)), h.new (.cells (List.replicate k anyC))) else none
  | _ => none

def MnzOK (P : Program) (X : Nat) : Prop := ∃ fn ps t e, P.funcs[X]? = some fn ∧ (fn.name == "runtime.NumGoroutine") = false ∧ fn.body.isNone = true ∧ (Extern.findNext fn).isNone = true ∧ Extern.find fn = some (Extern.BytealgMakeNoZero.makeNoZero ps #[t]) ∧ P.underlying t = some (.slice e)

theorem digits_u8 : ∀ (n t : Nat) (acc : Array Value), (∀ v ∈ acc.toList, ∃ x, v = .int .u8 x) → ∀ v ∈ (Extern.BytealgMakeNoZero.digits n t acc).toList, ∃ x, v = .int .u8 x
  | 0, _, _, h => h
  | n + 1, t, acc, h => by
    rw [Extern.BytealgMakeNoZero.digits]
    refine digits_u8 n (t / 256) _ fun v hv => ?_
    simp only [Array.toList_push, List.mem_append, List.mem_singleton] at hv
    rcases hv with hv | rfl
    · exact h v hv
    · exact ⟨_, rfl⟩

theorem run_mnz {P : Program} (w : World) (ps : Array TypeId) (t e : TypeId) (ht : P.underlying t = some (.slice e)) (n : Nat) (hn : n ≤ 281474976710656) :
    ∃ cs : Array Value, (Extern.BytealgMakeNoZero.makeNoZero ps #[t] #[.int .i64 n]).run P w = .ok (.slice (some ⟨w.heap.size, 0, none⟩) n cs.size) (w.drew.drew.alloc (.cells cs e)) ∧ n ≤ cs.size ∧ ∀ v ∈ cs.toList, ∃ x, v = .int .u8 x := by
  refine ⟨Extern.BytealgMakeNoZero.digits (grownCap w n 0 e) ((Question.extern "internal/bytealg.MakeNoZero.bytes" 0).cut (w.tape (w.drawn + 1) (.extern "internal/bytealg.MakeNoZero.bytes" 0))) #[], ?_, ?_, digits_u8 _ _ _ (by simp)⟩
  · have h1 : ¬ (n : Int) < 0 := by omega
    have h2 : ¬ (281474976710656 : Int) < (n : Int) := by omega
    delta Extern.BytealgMakeNoZero.makeNoZero
    change Sem.run P (bind (underlying t) _) w = _
    simp [run_underlying ht, h1, h2, Question.forced, newRow, Lib.size_digits, grownCap]
  · rw [Lib.size_digits]
    simpa using grownCap_ge w n 0 e

theorem mnz_sound {P : Program} {X : Nat} (hX : MnzOK P X) {args : List AV} {h h' : Heap} {r : AV} (he : mnzF args h = some (r, h')) {B : Nat} {ι : Inj} {w : World} {vs : List Value} (hr : HR B ι h.get w) (hf : ∀ i, h.next ≤ i → ι i = none) (ha : All2 (AR ι) args vs) :
    ∃ v w', (callFunc X vs.toArray).run P w = .ok (.value v) w' ∧ Left B ι h w r h' v w' := by
  obtain ⟨fn, ps, t, e, hfn, hn1, hb, hfx, hfd, ht⟩ := hX
  unfold mnzF at he
  split at he
  · rename_i k
    cases hk : Nat.ble k 1048576 with
    | false => rw [hk] at he; cases he
    | true =>
      rw [hk] at he
      simp only [cond_true, Option.some.injEq, Prod.mk.injEq] at he
      obtain ⟨rfl, rfl⟩ := he
      have hk' := Nat.le_of_ble_eq_true hk
      obtain ⟨v0, rfl, hv0⟩ : ∃ v0, vs = [v0] ∧ AR ι (.c (.int .i64 (.ofNat k))) v0 := by
        match vs, ha with
        | [v0], ha => exact ⟨v0, rfl, ha.1⟩
      have hv : v0 = .int .i64 (k : Int) := hv0
      subst hv
      obtain ⟨cs, hrun, hle, hu⟩ := run_mnz (P := P) w ps t e ht k (by omega)
      have hfx' : Extern.findNext fn = none := by simpa using hfx
      have hcall : (callFunc X #[.int .i64 (k : Int)]).run P w = .ok (.value (.slice (some ⟨w.heap.size, 0, none⟩) k cs.size)) (w.drew.drew.alloc (.cells cs e)) := by
        rw [run_callFunc_extern hfn hn1 hb hfx' hfd, hrun]; rfl
      have hnew : NewOK B ι w (fun j => .c (.sl j 0 k (.dy 1))) (.cells (List.replicate k anyC)) (.slice (some ⟨w.heap.size, 0, none⟩) k cs.size) (w.drew.drew.alloc (.cells cs e)) := by
        refine ⟨cs.size, plus_rest w (w.drawn + 2) (.cells cs e), rfl, fun j hj => ⟨?_, ?_⟩⟩
        · refine ⟨w.heap.size, 0, _, _, cs.size, Inj.put_at, rfl, hle, fun _ => by simp, ?_⟩
          show 0 + cs.size * 1 ≤ cs.size
          omega
        · refine ⟨hr.base, cs, e, (0, 0), plus_at (w := w) (w.drawn + 2) _, by simp, ?_, .inl rfl, fun m y hy => ?_⟩
          · rw [List.length_replicate]; exact hle
          · have hm : m < k := by
              rcases Nat.lt_or_ge m k with h' | h'
              · exact h'
              · rw [List.getElem?_eq_none (by simpa using h')] at hy; cases hy
            have hy' : y = anyC := by
              rw [List.getElem?_replicate, if_pos hm] at hy
              simpa using hy.symm
            subst hy'
            obtain ⟨x, hx⟩ := hu (cs[m]'(by omega)) (by simp)
            refine ⟨cs[m]'(by omega), ?_, .inl ⟨rfl, _, _, hx⟩⟩
            show cs[0 + m]? = _
            rw [Nat.zero_add, Array.getElem?_eq_getElem (by omega)]
      obtain ⟨ι', ha', hp⟩ := hnew.post hr hf
      exact ⟨_, _, hcall, ι', ha', hp⟩
  · cases he
/-- The evaluator that takes 'told' as true and knows the entry. -/
noncomputable def evCallX (table : List (Nat × IRF)) (told mnz N : Nat) (d : Nat) : Call :=
  Nat.rec (fun _ _ _ => none) (fun _ ih f args h => bif Nat.beq f told then toldF args h else bif Nat.beq f mnz then mnzF args h else stepCall table N ih f args h) d

theorem evCallX_succ (table : List (Nat × IRF)) (T X N d f : Nat) (args : List AV) (h : Heap) : evCallX table T X N (d + 1) f args h = bif Nat.beq f T then toldF args h else bif Nat.beq f X then mnzF args h else stepCall table N (evCallX table T X N d) f args h := rfl

theorem told_x {P : Program} {told : Nat} (hT : ToldOK P told) {args : List AV} {h h' : Heap} {r : AV} (he : toldF args h = some (r, h')) :
    (∃ fn, P.funcs[told]? = some fn ∧ (fn.name == "runtime.NumGoroutine") = false ∧ fn.body.isNone = false) ∧
    ∀ B ι w (vs : List Value), HR B ι h.get w → (∀ i, h.next ≤ i → ι i = none) → All2 (AR ι) args vs → Calls P told vs.toArray w fun e w' => ∃ v, e = .returned v ∧ Left B ι h w r h' v w' := by
  cases args with
  | cons a l => cases he
  | nil =>
    simp only [toldF, Option.some.injEq, Prod.mk.injEq] at he
    obtain ⟨rfl, rfl⟩ := he
    refine ⟨hT.1, fun B ι w vs hr hf ha => ?_⟩
    have hvs : vs = [] := by
      cases vs with
      | nil => rfl
      | cons v vs => exact ha.elim
    subst hvs
    exact (hT.2 w).mono fun e w' ⟨h1, h2⟩ => ⟨_, h1, ι, rfl, below_post hr hf h2⟩

theorem evCallX_sound {P : Program} {table : List (Nat × IRF)} {told mnz : Nat} (hm : P.follows .mixedOrders = true) (ht : TableOK P table) (hT : ToldOK P told) (hX : MnzOK P mnz) (N : Nat) : ∀ d, CallX P (evCallX table told mnz N d)
  | 0 => fun f args h r h' he => by cases he
  | d + 1 => by
    intro f args h r h' he
    rw [evCallX_succ] at he
    cases hb : Nat.beq f told with
    | true =>
      rw [hb, cond_true] at he
      have hft : f = told := Nat.eq_of_beq_eq_true hb
      subst hft
      exact .inl (told_x hT he)
    | false =>
      rw [hb, cond_false] at he
      cases hx : Nat.beq f mnz with
      | true =>
        rw [hx, cond_true] at he
        have hfx : f = mnz := Nat.eq_of_beq_eq_true hx
        subst hfx
        exact .inr fun B ι w vs hr hf ha => mnz_sound hX he hr hf ha
      | false =>
        rw [hx, cond_false] at he
        exact .inl (stepCall_sound hm ht N (evCallX_sound hm ht hT hX N d) f args h r h' he)

/-- The same without 'told', made for the kernel. -/
noncomputable def evCallM (table : List (Nat × IRF)) (mnz N : Nat) (d : Nat) : Call :=
  Nat.rec (fun _ _ _ => none) (fun _ ih f args h => bif Nat.beq f mnz then mnzF args h else callF1 ih N args h (lookF table f)) d
theorem evCallM_sound {P : Program} {table : List (Nat × IRF)} {mnz : Nat} (hm : P.follows .mixedOrders = true) (ht : TableOK P table) (hX : MnzOK P mnz) (N : Nat) : ∀ d, CallX P (evCallM table mnz N d)
  | 0 => fun f args h r h' he => by cases he
  | d + 1 => by
    intro f args h r h' he
    have he' : (bif Nat.beq f mnz then mnzF args h else callF1 (evCallM table mnz N d) N args h (lookF table f)) = some (r, h') := he
    cases hx : Nat.beq f mnz with
    | true =>
      rw [hx, cond_true] at he'
      have hfx : f = mnz := Nat.eq_of_beq_eq_true hx
      subst hfx
      exact .inr fun B ι w vs hr hf ha => mnz_sound hX he' hr hf ha
    | false =>
      rw [hx, cond_false, callF1_step] at he'
      exact .inl (stepCall_sound hm ht N (evCallM_sound hm ht hX N d) f args h r h' he')
noncomputable def topM (table : List (Nat × IRF)) (mnz N d : Nat) : Call := fun f args h => callF1 (evCallM table mnz N d) N args h (lookF table f)
theorem topM_sound {P : Program} {table : List (Nat × IRF)} {mnz : Nat} (hm : P.follows .mixedOrders = true) (ht : TableOK P table) (hX : MnzOK P mnz) (N d : Nat) : CallOK P (topM table mnz N d) := fun f args h r h' he => by
  have he' : callF1 (evCallM table mnz N d) N args h (lookF table f) = some (r, h') := he
  rw [callF1_step] at he'
  exact stepCall_sound hm ht N (evCallM_sound hm ht hX N d) f args h r h' he'

/-- A law is no entry. -/
noncomputable def topX (table : List (Nat × IRF)) (told mnz N d : Nat) : Call := fun f args h => stepCall table N (evCallX table told mnz N d) f args h
theorem topX_sound {P : Program} {table : List (Nat × IRF)} {told mnz : Nat} (hm : P.follows .mixedOrders = true) (ht : TableOK P table) (hT : ToldOK P told) (hX : MnzOK P mnz) (N d : Nat) : CallOK P (topX table told mnz N d) :=
  stepCall_sound hm ht N (evCallX_sound hm ht hT hX N d)
end Lav
