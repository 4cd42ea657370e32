/-
  Code and calls: what the evaluator answers is what the model's machine does.
-/
import Derived.Test.YtdilhnnbfkiacaaFwH
import Derived.Scope
namespace Lav
open Go

def Ex.to : Ex → Exit
  | .norm => .normal
  | .exit id => .exit id
  | .ret => .ret

theorem cRegion_length {P : Program} {slots : List Nat} {ntmps : Nat} {l rest : List Oper} {ds : List (Option Nat)} {j : Nat} {is : List Inst} (h : cRegion P slots ntmps l rest ds j = some is) : is.length = rest.length := by
  induction rest generalizing ds j is with
  | nil => simp [cRegion] at h; subst h; rfl
  | cons o rest ih =>
    unfold cRegion at h
    split at h
    · split at h
      · rename_i t ht
        simp only [Option.some.injEq] at h; subst h
        simp [ih ht]
      · cases h
    · cases h

theorem keepOnly_length : ∀ (m : List Bool) (l : List AV), (keepOnly m l).length = l.length
  | [], l => by cases l <;> rfl
  | b :: m, [] => rfl
  | b :: m, v :: r => by simp [keepOnly, keepOnly_length m r]

theorem keepOnly_get : ∀ (m : List Bool) (l : List AV) (i : Nat), (keepOnly m l).getD i .junk = l.getD i .junk ∨ (keepOnly m l).getD i .junk = .junk
  | [], l, i => .inl (by cases l <;> rfl)
  | b :: m, [], i => .inl rfl
  | b :: m, v :: r, 0 => by cases b <;> simp [keepOnly]
  | b :: m, v :: r, i + 1 => by simpa [keepOnly] using keepOnly_get m r i

section
variable {P : Program} {slots : List Nat} {ntmps : Nat} {call : Nat → List AV → Heap → Option (AV × Heap)}

theorem FR.keep {ι : Inj} {loc : List AV} {a : Act} (m : List Bool) (h : FR slots ntmps ι loc a) : FR slots ntmps ι (keepOnly m loc) a :=
  ⟨h.size, h.defers, by rw [keepOnly_length]; exact h.len, fun i s hs => by
    rcases keepOnly_get m loc i with e | e
    · rw [e]; exact h.rel i s hs
    · rw [e]; trivial⟩

/-- What a piece of code does. -/
def Does (P : Program) (slots : List Nat) (ntmps B : Nat) (ι : Inj) (h : Heap) (w : World) (a : Act) (it : List Item → List Item) (ex : Ex) (loc' : List AV) (h' : Heap) : Prop :=
  ∀ (b : Frame) (k : List Item) (cs : List Frame), b.kind = .normal → ∃ a' w' ι', FR slots ntmps ι' loc' a' ∧ Post B ι h w ι' h' w' ∧ Arrives P (lone (b.at a (it k)) cs w) b k cs ex.to a' w'

theorem Does.norm_of {B : Nat} {ι : Inj} {h h' : Heap} {w : World} {a : Act} {it : List Item → List Item} {loc' : List AV} (g : Goes P slots ntmps B ι h w a it loc' h' (fun k => k)) : Does P slots ntmps B ι h w a it .norm loc' h' :=
  fun b k cs hk => let ⟨a', w', ι', h1, h2, h3⟩ := g b k cs hk; ⟨a', w', ι', h1, h2, h3⟩

theorem reg_sound (hcall : CallX P call) (hnd : noDup slots = true) {N num : Nat} {ops : Array Oper} {ι : Inj} {loc loc' : List AV} {h h' : Heap} {ex : Ex} {a : Act} {B : Nat} {w : World}
    (hfr : FR slots ntmps ι loc a) (he : ev call N (cReg P slots ntmps ops.toList false) loc h = some (ex, loc', h')) (hr : HR B ι h.get w) (hf : ∀ i, h.next ≤ i → ι i = none) :
    ex = .norm ∧ Goes P slots ntmps B ι h w a (.code (.region num ops false) :: ·) loc' h' (fun k => k) := by
  unfold cReg at he
  split at he
  · simp [ev] at he
  · rename_i l hl
    simp only [ev, evReg] at he
    split at he
    · rename_i vals h1 hrun
      simp only [Option.some.injEq, Prod.mk.injEq] at he
      obtain ⟨rfl, rfl, rfl⟩ := he
      refine ⟨rfl, ?_⟩
      have htr : TR ntmps ι a [] [] a := ⟨hfr.size, rfl, fun t d hp => by simp [posOf] at hp, fun _ _ => rfl⟩
      obtain ⟨rv, e1, e2, e3⟩ := run_sound hcall hnd hfr ops.toList 0 [] l [] vals h h1 loc ι B a w (fun k => by simp) (by simp) hl hrun htr hfr (Le.refl _) hr hf
      intro b k cs hk
      obtain ⟨a', w', ι', g1, g2, g3⟩ := e3 b k cs hk
      refine ⟨a', w', ι', ?_, g2, ?_⟩
      · rw [e1]; simpa using g1
      · refine Steps.head step_region (Steps.trans ?_ (.one (step_region_end (ops := ops))))
        have : List.range ops.size = List.range' 0 ops.toList.length := by simp [List.range_eq_range']
        rw [this]; exact g3
    · cases he

theorem code_sound (hcall : CallX P call) (hm : P.follows .mixedOrders = true) (hnd : noDup slots = true) (N : Nat) : ∀ (c : Code) (ks : List (List Bool)) (loc loc' : List AV) (h h' : Heap) (ex : Ex) (ι : Inj) (a : Act) (B : Nat) (w : World),
    FR slots ntmps ι loc a → ev call N (cCode P slots ntmps c ks).1 loc h = some (ex, loc', h') → HR B ι h.get w → (∀ i, h.next ≤ i → ι i = none) → Does P slots ntmps B ι h w a (.code c :: ·) ex loc' h' := by
  intro c
  induction c with
  | skip =>
    intro ks loc loc' h h' ex ι a B w hfr he hr hf b k cs hk
    simp only [cCode, ev, Option.some.injEq, Prod.mk.injEq] at he
    obtain ⟨rfl, rfl, rfl⟩ := he
    exact ⟨a, w, ι, hfr, Post.refl hr hf, .one step_skip⟩
  | label l =>
    intro ks loc loc' h h' ex ι a B w hfr he hr hf b k cs hk
    simp only [cCode, ev, Option.some.injEq, Prod.mk.injEq] at he
    obtain ⟨rfl, rfl, rfl⟩ := he
    exact ⟨a, w, ι, hfr, Post.refl hr hf, .one step_label⟩
  | region id ops draw =>
    intro ks loc loc' h h' ex ι a B w hfr he hr hf
    simp only [cCode] at he
    cases draw with
    | false =>
      obtain ⟨rfl, hg⟩ := reg_sound (num := id) hcall hnd hfr he hr hf
      exact Does.norm_of hg
    | true =>
      obtain ⟨rfl, hg⟩ := dreg_sound (num := id) hcall hm hfr he hr hf
      exact Does.norm_of hg
  | seq x y ihx ihy =>
    intro ks loc loc' h h' ex ι a B w hfr he hr hf b k cs hk
    simp only [cCode, ev] at he
    split at he
    · rename_i loc1 h1 hx
      obtain ⟨a1, w1, ι1, g1, g2, g3⟩ := ihx ks loc loc1 h h1 .norm ι a B w hfr hx hr hf b (.code y :: k) cs hk
      obtain ⟨a2, w2, ι2, k1, k2, k3⟩ := ihy _ loc1 loc' h1 h' ex ι1 a1 B w1 g1 he g2.rel g2.fresh b k cs hk
      exact ⟨a2, w2, ι2, k1, g2.trans k2, .of_steps (.head step_seq g3) k3⟩
    · rename_i hne
      obtain ⟨a1, w1, ι1, g1, g2, g3⟩ := ihx ks loc loc' h h' ex ι a B w hfr he hr hf b (.code y :: k) cs hk
      have hex : ex.to ≠ .normal := by
        cases ex with
        | norm => exact absurd he (hne loc' h')
        | exit id => simp [Ex.to]
        | ret => simp [Ex.to]
      exact ⟨a1, w1, ι1, g1, g2, .of_steps (.one step_seq) (.pass (x := .code y) rfl (fun _ _ => .inl hex) g3)⟩
  | cond c x y ihx ihy =>
    intro ks loc loc' h h' ex ι a B w hfr he hr hf b k cs hk
    simp only [cCode] at he
    split at he
    · rename_i v hv
      have htr : TR ntmps ι a [] [] a := ⟨hfr.size, rfl, fun t d hp => by simp [posOf] at hp, fun _ _ => rfl⟩
      have hop := (htr.ops hfr (Le.refl _)) c v hv
      simp only [ev] at he
      split at he
      · rename_i hb
        rw [hb] at hop
        obtain ⟨a1, w1, ι1, g1, g2, g3⟩ := ihx ks loc loc' h h' ex ι a B w hfr he hr hf b k cs hk
        have hc : a.eval c = .bool true := hop
        exact ⟨a1, w1, ι1, g1, g2, .of_steps (.one (step_cond hc)) g3⟩
      · rename_i hb
        rw [hb] at hop
        obtain ⟨a1, w1, ι1, g1, g2, g3⟩ := ihy _ loc loc' h h' ex ι a B w hfr he hr hf b k cs hk
        have hc : a.eval c = .bool false := hop
        exact ⟨a1, w1, ι1, g1, g2, .of_steps (.one (step_cond hc)) g3⟩
      · cases he
    · simp [ev] at he
  | block id x ih =>
    intro ks loc loc' h h' ex ι a B w hfr he hr hf b k cs hk
    simp only [cCode, ev] at he
    split at he
    · rename_i j loc1 h1 hx
      simp only [Option.some.injEq, Prod.mk.injEq] at he
      obtain ⟨rfl, rfl, rfl⟩ := he
      obtain ⟨a1, w1, ι1, g1, g2, g3⟩ := ih ks loc loc1 h h1 (.exit j) ι a B w hfr hx hr hf b (.inBlock id :: k) cs hk
      refine ⟨a1, w1, ι1, g1, g2, ?_⟩
      by_cases e : j = id
      · subst e
        simp only [beq_self_eq_true, cond_true]
        exact .head step_block (g3 k (by simp [exitTo]))
      · have e' : (j == id) = false := by simpa using e
        rw [e']; simp only [cond_false]
        refine fun k' hk' => .head step_block (g3 k' ?_)
        have : (id == j) = false := by simp; exact fun h => e h.symm
        simp [exitTo, this, hk']
    · rename_i hne
      obtain ⟨a1, w1, ι1, g1, g2, g3⟩ := ih ks loc loc' h h' ex ι a B w hfr he hr hf b (.inBlock id :: k) cs hk
      refine ⟨a1, w1, ι1, g1, g2, ?_⟩
      cases ex with
      | norm => exact .head step_block (Steps.trans g3 (.one step_inBlock))
      | exit j => exact absurd he (hne j loc' h')
      | ret => exact .of_steps (.one step_block) g3
  | loop x ih =>
    have key : ∀ (keep : List Bool) (ks : List (List Bool)) (n : Nat) (loc loc' : List AV) (h h' : Heap) (ex : Ex) (ι : Inj) (a : Act) (B : Nat) (w : World), FR slots ntmps ι loc a → evLoop (ev call N (cCode P slots ntmps x ks).1) keep n loc h = some (ex, loc', h') →
        HR B ι h.get w → (∀ i, h.next ≤ i → ι i = none) → Does P slots ntmps B ι h w a (fun k => .code x :: .inLoop x :: k) ex loc' h' := by
      intro keep ks n
      induction n with
      | zero => intro loc loc' h h' ex ι a B w _ he; simp [evLoop] at he
      | succ n ihn =>
        intro loc loc' h h' ex ι a B w hfr he hr hf b k cs hk
        simp only [evLoop] at he
        split at he
        · rename_i loc1 h1 hx
          obtain ⟨a1, w1, ι1, g1, g2, g3⟩ := ih ks _ loc1 h h1 .norm ι a B w (hfr.keep keep) hx hr hf b (.inLoop x :: k) cs hk
          obtain ⟨a2, w2, ι2, k1, k2, k3⟩ := ihn loc1 loc' h1 h' ex ι1 a1 B w1 g1 he g2.rel g2.fresh b k cs hk
          exact ⟨a2, w2, ι2, k1, g2.trans k2, .of_steps (Steps.trans g3 (.one step_inLoop)) k3⟩
        · rename_i hne
          obtain ⟨a1, w1, ι1, g1, g2, g3⟩ := ih ks _ loc' h h' ex ι a B w (hfr.keep keep) he hr hf b (.inLoop x :: k) cs hk
          have hex : ex.to ≠ .normal := by
            cases ex with
            | norm => exact absurd he (hne loc' h')
            | exit id => simp [Ex.to]
            | ret => simp [Ex.to]
          exact ⟨a1, w1, ι1, g1, g2, .pass (x := .inLoop x) rfl (fun _ _ => .inl hex) g3⟩
    intro ks loc loc' h h' ex ι a B w hfr he hr hf b k cs hk
    have : ∃ keep ks', evLoop (ev call N (cCode P slots ntmps x ks').1) keep N loc h = some (ex, loc', h') := by
      cases ks with
      | nil => exact ⟨[], [], by simpa only [cCode, ev] using he⟩
      | cons q qs => exact ⟨q, qs, by simpa only [cCode, ev] using he⟩
    obtain ⟨keep, ks', he'⟩ := this
    obtain ⟨a1, w1, ι1, g1, g2, g3⟩ := key keep ks' N loc loc' h h' ex ι a B w hfr he' hr hf b k cs hk
    exact ⟨a1, w1, ι1, g1, g2, .of_steps (.one step_loop) g3⟩
  | rangeFunc f ps as bd => intro ks loc loc' h h' ex ι a B w hfr he; simp [cCode, ev] at he
  | exit id =>
    intro ks loc loc' h h' ex ι a B w hfr he hr hf b k cs hk
    simp only [cCode, ev, Option.some.injEq, Prod.mk.injEq] at he
    obtain ⟨rfl, rfl, rfl⟩ := he
    exact ⟨a, w, ι, hfr, Post.refl hr hf, fun _ hk => .one (step_exit hk)⟩
  | scope x ih =>
    intro ks loc loc' h h' ex ι a B w hfr he hr hf b k cs hk
    obtain ⟨a1, w1, ι1, g1, g2, g3⟩ := ih ks loc loc' h h' ex ι a B w hfr he hr hf b (.inScope x :: k) cs hk
    refine ⟨a1, w1, ι1, g1, g2, ?_⟩
    cases ex with
    | norm => exact .head step_scope (Steps.trans g3 (.one step_inScope))
    | exit id => exact fun k' hk' => .head step_scope (g3 k' (by simp [exitTo, hk']))
    | ret => exact .of_steps (.one step_scope) g3
  | goto l => intro ks loc loc' h h' ex ι a B w hfr he; simp [cCode, ev] at he
  | ret =>
    intro ks loc loc' h h' ex ι a B w hfr he hr hf b k cs hk
    simp only [cCode, ev, Option.some.injEq, Prod.mk.injEq] at he
    obtain ⟨rfl, rfl, rfl⟩ := he
    exact ⟨a, w, ι, hfr, Post.refl hr hf, _, .one step_ret⟩
  | refuse why => intro ks loc loc' h h' ex ι a B w hfr he; simp [cCode, ev] at he

/-! ### Results -/
def resultOf (tmps : Array Value) : ResultVar → Sem Value
  | .tmp t => pure (tmps.getD t undef)
  | .cell a t => do loadVar t (← asAddr (tmps.getD a undef))

theorem results_eq (fn : Func) (tmps : Array Value) : results fn tmps = (do
    let vs ← fn.results.mapM (resultOf tmps)
    pure (if h : vs.size = 1 then vs[0] else .tuple vs)) := by
  unfold results
  congr 1

def cResult1 (P : Program) (slots : List Nat) : ResultVar → Option RV
  | .tmp t => (slotOf slots t).map RV.loc
  | .cell a t => ob (slotOf slots a) fun i => ob (tSize P t) fun n => ob (tAgg P t) fun g => bif g || n == 1 then some (RV.cell i n g) else none

variable {ι : Inj} {loc : List AV} {h : Heap} {a : Act} {B : Nat} {w : World}

theorem cResults_cons {r : ResultVar} {rs : List ResultVar} {l : List RV} (hc : cResults P slots (r :: rs) = some l) : ∃ x t, l = x :: t ∧ cResults P slots rs = some t ∧
    cResult1 P slots r = some x := by
  unfold cResults at hc
  split at hc
  · rename_i x hx
    split at hc
    · rename_i t ht
      simp only [Option.some.injEq] at hc
      exact ⟨x, t, hc.symm, ht, hx⟩
    · cases hc
  · cases hc

theorem result_one (hfr : FR slots ntmps ι loc a) (hr : HR B ι h.get w) {r : ResultVar} {x : RV} {v : AV} (hx : cResult1 P slots r = some x) (hv : x.eval loc h = some v) :
    ∃ u, (resultOf a.tmps r).run P w = .ok u w ∧ AR ι v u := by
  cases r with
  | tmp t =>
    simp only [cResult1, Option.map_eq_some_iff] at hx
    obtain ⟨i, hi, rfl⟩ := hx
    simp only [RV.eval, Option.some.injEq] at hv; subst hv
    exact ⟨_, rfl, hfr.rel i t (slotOf_some hi)⟩
  | cell ad t =>
    simp only [cResult1] at hx
    obtain ⟨i, hi, hx⟩ := ob_some hx
    obtain ⟨n, hn, hx⟩ := ob_some hx
    obtain ⟨g, hg, hx⟩ := ob_some hx
    cases hb : (g || n == 1) with
    | false => rw [hb] at hx; cases hx
    | true =>
      rw [hb] at hx; simp only [cond_true, Option.some.injEq] at hx; subst hx
      have hrel := hfr.rel i ad (slotOf_some hi)
      simp only [RV.eval] at hv
      split at hv
      · rename_i b o hbo
        rw [hbo] at hrel
        split at hv
        · rename_i l hl
          obtain ⟨u, hu, hur⟩ := load_sound (P := P) hr hn hg hrel hl hv
          obtain ⟨bb, base, lim, hi', hval⟩ := hrel
          refine ⟨u, ?_, hur⟩
          rw [hval] at hu
          simp only [resultOf, hval, asAddr, Sem.run_bind, Sem.run_pure, Result.andThen_ok]
          simpa [Instr.loadAt, Instr.sureAddr] using hu
        · cases hv
      · cases hv

theorem result_many (hfr : FR slots ntmps ι loc a) (hr : HR B ι h.get w) : ∀ {rs : List ResultVar} {l : List RV} {xs : List XV}, cResults P slots rs = some l → evResults loc h l = some xs →
    ∃ us : List Value, (rs.mapM (resultOf a.tmps)).run P w = .ok us w ∧ All2 (XR ι) xs us
  | [], l, xs, hc, he => by
    simp [cResults] at hc; subst hc
    simp [evResults] at he; subst he
    exact ⟨[], rfl, trivial⟩
  | r :: rs, l, xs, hc, he => by
    obtain ⟨x, t, rfl, ht, hx⟩ := cResults_cons hc
    unfold evResults at he
    split at he
    · rename_i v hv
      split at he
      · rename_i y hy
        split at he
        · rename_i ys hys
          simp only [Option.some.injEq] at he; subst he
          obtain ⟨u, hu, hur⟩ := result_one hfr hr hx hv
          obtain ⟨us, hus, husr⟩ := result_many hfr hr ht hys
          refine ⟨u :: us, ?_, XR.of_av hy hur, husr⟩
          simp only [List.mapM_cons, Sem.run_bind, hu, hus, Result.andThen_ok]; rfl
        · cases he
      · cases he
    · cases he

theorem results_run (fn : Func) (tmps : Array Value) {us : List Value} (hm : (fn.results.toList.mapM (resultOf tmps)).run P w = .ok us w) :
    (results fn tmps).run P w = .ok (if h : us.toArray.size = 1 then us.toArray[0] else .tuple us.toArray) w := by
  rw [results_eq, Array.mapM_eq_mapM_toList]
  simp only [Sem.run_bind, Sem.run_map, hm, Result.andThen_ok, Sem.run_pure]

theorem result_sound (hfr : FR slots ntmps ι loc a) (hr : HR B ι h.get w) {fn : Func} {l : List RV} {r : AV} (hc : cResults P slots fn.results.toList = some l) (he : result loc h l = some r) :
    ∃ v, (results fn a.tmps).run P w = .ok v w ∧ AR ι r v := by
  have many : ∀ xs, evResults loc h l = some xs → r = .tup xs → l.length ≠ 1 → ∃ v, (results fn a.tmps).run P w = .ok v w ∧ AR ι r v := by
    intro xs hxs hrx hl
    obtain ⟨us, hus, hur⟩ := result_many hfr hr hc hxs
    have hlen : us.length = l.length := by
      rw [← hur.length]
      have : ∀ (l : List RV) (xs : List XV), evResults loc h l = some xs → xs.length = l.length := by
        intro l
        induction l with
        | nil => intro xs h; simp [evResults] at h; subst h; rfl
        | cons q l ih =>
          intro xs h
          unfold evResults at h
          split at h
          · split at h
            · split at h
              · rename_i ys hys
                simp only [Option.some.injEq] at h; subst h
                simp [ih ys hys]
              · cases h
            · cases h
          · cases h
      exact this l xs hxs
    have hne : ¬ us.toArray.size = 1 := by simpa [hlen] using hl
    refine ⟨.tuple us.toArray, ?_, ?_⟩
    · rw [results_run fn a.tmps hus, dif_neg hne]
    · subst hrx; exact ⟨us.toArray, rfl, by simpa using hur⟩
  match l, hc, he, many with
  | [], hc, he, many =>
    simp [result, evResults] at he
    exact many [] rfl he.symm (by simp)
  | [x], hc, he, many =>
    simp only [result] at he
    cases hrs : fn.results.toList with
    | nil => rw [hrs] at hc; simp [cResults] at hc
    | cons q qs =>
      rw [hrs] at hc
      obtain ⟨x', t, e, ht, hx⟩ := cResults_cons hc
      cases e
      have hq : qs = [] := by
        cases qs with
        | nil => rfl
        | cons q2 qs2 => obtain ⟨_, _, e, _⟩ := cResults_cons ht; cases e
      subst hq
      obtain ⟨u, hu, hur⟩ := result_one hfr hr hx he
      have hm : (fn.results.toList.mapM (resultOf a.tmps)).run P w = .ok [u] w := by
        rw [hrs]; simp only [List.mapM_cons, List.mapM_nil, Sem.run_bind, hu, Result.andThen_ok]; rfl
      exact ⟨u, by rw [results_run fn a.tmps hm]; rfl, hur⟩
  | x :: y :: zs, hc, he, many =>
    simp only [result] at he
    split at he
    · rename_i xs hxs
      simp only [Option.some.injEq] at he
      exact many xs hxs he.symm (by simp)
    · cases he
end

/-! ### Calls -/
def TableOK (P : Program) (table : List (Nat × IRF)) : Prop := ∀ f F, table.lookup f = some F → ∃ fn keeps, P.funcs[f]? = some fn ∧ cFunc P F.slots keeps fn = some F

theorem cFunc_inv {P : Program} {slots : List Nat} {keeps : List (List Bool)} {fn : Func} {F : IRF} (h : cFunc P slots keeps fn = some F) : ∃ c rs, fn.body = some c ∧ cResults P slots fn.results.toList = some rs ∧ (fn.name == "runtime.NumGoroutine") = false ∧
    fn.params.size + fn.nfree ≤ fn.ntmps ∧ (∀ s ∈ slots, s < fn.ntmps) ∧ noDup slots = true ∧ F = ⟨slots, fn.params.size + fn.nfree, rs, (cCode P slots fn.ntmps c keeps).1⟩ := by
  unfold cFunc at h
  split at h
  · rename_i c rs hb hrs
    cases hcond : (fn.name == "runtime.NumGoroutine" || decide (fn.nfree + fn.params.size > fn.ntmps) || !slots.all fun s => Nat.blt s fn.ntmps) || !noDup slots with
    | true => rw [hcond] at h; cases h
    | false =>
      rw [hcond] at h
      simp only [cond_false, Option.some.injEq] at h
      simp only [Bool.or_eq_false_iff, Bool.not_eq_false', decide_eq_false_iff_not] at hcond
      obtain ⟨⟨⟨h1, h2⟩, h3⟩, h4⟩ := hcond
      refine ⟨c, rs, hb, hrs, h1, by omega, fun s hs => ?_, h4, h.symm⟩
      have := List.all_eq_true.1 h3 s hs
      exact Nat.lt_of_succ_le (Nat.le_of_ble_eq_true this)
  · cases h

theorem enter_sound {slots : List Nat} {ntmps : Nat} {ι : Inj} {args : List AV} {vs : List Value} (ha : All2 (AR ι) args vs) (hle : vs.length ≤ ntmps) :
    FR slots ntmps ι (enter slots args) { tmps := vs.toArray ++ Array.replicate (ntmps - vs.toArray.size) undef, defers := [] } := by
  refine ⟨by simp; omega, rfl, by simp [enter], fun i s hs => ?_⟩
  have e : (enter slots args).getD i .junk = args.getD s (.tup []) := by
    simp only [enter, List.getD_eq_getElem?_getD, List.getElem?_map, hs, Option.map_some, Option.getD_some]
  rw [e]
  show AR ι _ ((vs.toArray ++ Array.replicate (ntmps - vs.toArray.size) undef).getD s undef)
  rw [Array.getD_eq_getD_getElem?, Array.getElem?_append]
  cases hx : args[s]? with
  | some x =>
    obtain ⟨v, hv, hr⟩ := ha.get s x hx
    have hlt : s < vs.length := by
      rcases Nat.lt_or_ge s vs.length with h | h
      · exact h
      · rw [List.getElem?_eq_none h] at hv; cases hv
    rw [if_pos (by simpa using hlt)]
    simp only [List.getD_eq_getElem?_getD, hx, Option.getD_some, List.getElem?_toArray, hv]
    exact hr
  | none =>
    have hge : args.length ≤ s := List.getElem?_eq_none_iff.1 hx
    rw [if_neg (by have := ha.length; simp; omega)]
    simp only [List.getD_eq_getElem?_getD, hx, Option.getD_none, Array.getElem?_replicate]
    split
    · exact ⟨#[], rfl, trivial⟩
    · exact ⟨#[], rfl, trivial⟩

theorem evCall_sound {P : Program} {table : List (Nat × IRF)} (hm : P.follows .mixedOrders = true) (ht : TableOK P table) (N : Nat) : ∀ d, CallOK P (evCall table N d)
  | 0 => fun f args h r h' he => by simp [evCall] at he
  | d + 1 => by
    intro f args h r h' he
    simp only [evCall] at he
    split at he
    · cases he
    · rename_i F hF
      obtain ⟨fn, keeps, hfn, hcf⟩ := ht f F hF
      obtain ⟨c, rs, hb, hrs, hname, hsz, hsl, hnd, hFe⟩ := cFunc_inv hcf
      cases hlen : (args.length == F.nparams) with
      | false => rw [hlen] at he; cases he
      | true =>
        rw [hlen] at he; simp only [cond_true] at he
        have hlen' : args.length = fn.params.size + fn.nfree := by rw [hFe] at hlen; simpa using hlen
        refine ⟨⟨fn, hfn, hname, by rw [hb]; rfl⟩, fun B ι w vs hr hf ha => ?_⟩
        have hvl : vs.length = args.length := ha.length.symm
        have hfr := enter_sound (slots := F.slots) (ntmps := fn.ntmps) ha (by omega)
        have hbody : F.body = (cCode P F.slots fn.ntmps c keeps).1 := by rw [hFe]
        have hres : F.results = rs := by rw [hFe]
        have main : ∀ (ex : Ex) (loc' : List AV) (h1 : Heap), ev (evCall table N d) N F.body (enter F.slots args) h = some (ex, loc', h1) → (ex = .norm ∨ ex = .ret) → result loc' h1 F.results = some r → h1 = h' → Calls P f vs.toArray w fun e w' => ∃ v, e = .returned v ∧ Left B ι h w r h' v w' := by
          rintro ex loc' h1 hev hex hresult rfl
          rw [hbody] at hev
          have hdoes := code_sound (evCall_sound hm ht N d).x hm hnd N c keeps _ _ _ _ _ ι _ B w hfr hev hr hf
          intro cs
          let b : Frame := { (default : Frame) with fn := f, kind := .normal }
          have henter : Frame.enter P f vs.toArray .normal = b.at { tmps := vs.toArray ++ Array.replicate (fn.ntmps - vs.toArray.size) undef, defers := [] } [.code c] := by
            simp [Frame.enter, Frame.at, hfn, hb, b]
          obtain ⟨a', w', ι', g1, g2, g3⟩ := hdoes b [] cs rfl
          rw [← henter] at g3
          rw [hres] at hresult
          obtain ⟨v, hv, hvr⟩ := result_sound (P := P) (fn := fn) g1 g2.rel hrs hresult
          rcases hex with rfl | rfl
          · exact ⟨.returned v, w', _, ⟨v, rfl, ι', hvr, g2⟩, Steps.trans g3 (.one step_end), rfl, rfl, g1.defers, rfl, fn, hfn, hv⟩
          · obtain ⟨todo, hs⟩ := g3
            exact ⟨.returned v, w', _, ⟨v, rfl, ι', hvr, g2⟩, hs, rfl, rfl, g1.defers, rfl, fn, hfn, hv⟩
        split at he
        · rename_i loc' h1 hev
          split at he
          · rename_i r' hr'
            simp only [Option.some.injEq, Prod.mk.injEq] at he
            obtain ⟨rfl, rfl⟩ := he
            exact main _ _ _ hev (.inl rfl) hr' rfl
          · cases he
        · rename_i loc' h1 hev
          split at he
          · rename_i r' hr'
            simp only [Option.some.injEq, Prod.mk.injEq] at he
            obtain ⟨rfl, rfl⟩ := he
            exact main _ _ _ hev (.inr rfl) hr' rfl
          · cases he
        · cases he
end Lav
