/-
  A region in the order of its text.
-/
import Derived.Test.YtdilhnnbfkiacaaFwB
namespace Lav
open Go

/-- A frame's locals. -/
structure FR (slots : List Nat) (ntmps : Nat) (ι : Inj) (loc : List AV) (a : Act) : Prop where
  size : a.tmps.size = ntmps
  defers : a.defers = []
  len : loc.length = slots.length
  rel : ∀ (i s : Nat), slots[i]? = some s → AR ι (loc.getD i .junk) (a.tmps.getD s undef)

theorem FR.mono {slots : List Nat} {ntmps : Nat} {ι ι' : Inj} {loc : List AV} {a : Act} (h : FR slots ntmps ι loc a) (hle : Le ι ι') : FR slots ntmps ι' loc a :=
  ⟨h.size, h.defers, h.len, fun i s hs => (h.rel i s hs).mono hle⟩

theorem posOf_cons_some {d t : Nat} {ds : List (Option Nat)} : posOf (some d :: ds) t = if d = t then some 0 else (posOf ds t).map (· + 1) := by
  simp only [posOf]
  by_cases h : d = t
  · subst h; simp
  · have : (d == t) = false := by simpa using h
    rw [this]; simp only [cond_false, if_neg h]
    cases posOf ds t <;> rfl

theorem posOf_cons_none {t : Nat} {ds : List (Option Nat)} : posOf (none :: ds) t = (posOf ds t).map (· + 1) := by
  simp only [posOf]
  cases posOf ds t <;> rfl

theorem slotOf_some {slots : List Nat} {t i : Nat} (h : slotOf slots t = some i) : slots[i]? = some t := by
  induction slots generalizing i with
  | nil => simp [slotOf] at h
  | cons u r ih =>
    simp only [slotOf] at h
    cases hb : u == t with
    | true => rw [hb] at h; simp at h hb; subst h; subst hb; rfl
    | false =>
      rw [hb] at h; simp only [cond_false] at h
      split at h
      · rename_i j hj; simp at h; subst h; simpa using ih hj
      · cases h

theorem slotOf_none {slots : List Nat} {t : Nat} (h : slotOf slots t = none) : t ∉ slots := by
  induction slots with
  | nil => simp
  | cons u r ih =>
    simp only [slotOf] at h
    cases hb : u == t with
    | true => rw [hb] at h; cases h
    | false =>
      rw [hb] at h; simp only [cond_false] at h
      split at h
      · cases h
      · rename_i hj
        simp at hb
        simp only [List.mem_cons, not_or]
        exact ⟨fun e => hb e.symm, ih hj⟩

theorem noDup_spec {slots : List Nat} (h : noDup slots = true) : ∀ (i j s : Nat), slots[i]? = some s → slots[j]? = some s → i = j := by
  induction slots with
  | nil => intro i j s hi; simp at hi
  | cons u r ih =>
    simp only [noDup, Bool.and_eq_true, Bool.not_eq_true', List.contains_eq_mem, decide_eq_false_iff_not] at h
    intro i j s hi hj
    cases i with
    | zero =>
      cases j with
      | zero => rfl
      | succ j =>
        simp at hi hj; subst hi
        exact absurd (List.mem_of_getElem? hj) h.1
    | succ i =>
      cases j with
      | zero =>
        simp at hi hj; subst hj
        exact absurd (List.mem_of_getElem? hi) h.1
      | succ j => simp at hi hj; rw [ih h.2 i j s hi hj]

theorem getD_set (tmps : Array Value) (d t : Nat) (v : Value) (h : d < tmps.size) : (tmps.setIfInBounds d v).getD t undef = if d = t then v else tmps.getD t undef := by
  simp only [Array.getD_eq_getD_getElem?]
  by_cases e : d = t
  · subst e; simp [h]
  · rw [Array.getElem?_setIfInBounds_ne e, if_neg e]

section
variable {P : Program} {slots : List Nat} {ntmps : Nat}

theorem FR.put {ι : Inj} {loc : List AV} {a : Act} {dst : Option Nat} {d' : Option Nat} {r : AV} {v : Value} (h : FR slots ntmps ι loc a) (hnd : noDup slots = true) (hd : cDst slots ntmps dst = some d') (hr : AR ι r v) :
    FR slots ntmps ι (setLoc loc d' r) (a.put dst v) := by
  cases dst with
  | none => simp [cDst] at hd; subst hd; exact h
  | some d =>
    simp only [cDst] at hd
    cases hb : Nat.blt d ntmps with
    | false => rw [hb] at hd; cases hd
    | true =>
      rw [hb] at hd; simp only [cond_true, Option.some.injEq] at hd
      have hlt : d < a.tmps.size := by rw [h.size]; exact Nat.lt_of_succ_le (Nat.le_of_ble_eq_true hb)
      subst hd
      refine ⟨by simp [Act.put, h.size], h.defers, by cases slotOf slots d <;> simp [setLoc, h.len], fun i s hs => ?_⟩
      simp only [Act.put, getD_set _ _ _ _ hlt]
      by_cases e : d = s
      · subst e
        rw [if_pos rfl]
        cases hso : slotOf slots d with
        | none => exact absurd (List.mem_of_getElem? hs) (slotOf_none hso)
        | some j =>
          have hj := slotOf_some hso
          have := noDup_spec hnd i j d hs hj
          subst this
          have hil : i < loc.length := by
            rw [h.len]
            rcases Nat.lt_or_ge i slots.length with h' | h'
            · exact h'
            · rw [List.getElem?_eq_none h'] at hs; cases hs
          simp only [setLoc, List.getD_eq_getElem?_getD, List.getElem?_set_self hil, Option.getD_some]
          exact hr
      · rw [if_neg e]
        cases hso : slotOf slots d with
        | none => exact h.rel i s hs
        | some j =>
          have hj := slotOf_some hso
          have hij : j ≠ i := by
            intro q; subst q
            rw [hs] at hj; simp at hj; exact e hj.symm
          simp only [setLoc, List.getD_eq_getElem?_getD, List.getElem?_set_ne hij]
          simpa [List.getD_eq_getElem?_getD] using h.rel i s hs

/-- The temporaries in the midst of a region: those written hold the values, others what they held at its begin. -/
structure TR (ntmps : Nat) (ι : Inj) (a0 : Act) (ds : List (Option Nat)) (vals : List AV) (a : Act) : Prop where
  size : a.tmps.size = ntmps
  len : ds.length = vals.length
  new : ∀ t d, posOf ds t = some d → AR ι (vals.getD d .junk) (a.tmps.getD t undef)
  old : ∀ t, posOf ds t = none → a.tmps.getD t undef = a0.tmps.getD t undef

theorem TR.mono {ι ι' : Inj} {a0 a : Act} {ds : List (Option Nat)} {vals : List AV} (h : TR ntmps ι a0 ds vals a) (hle : Le ι ι') : TR ntmps ι' a0 ds vals a :=
  ⟨h.size, h.len, fun t d hd => (h.new t d hd).mono hle, h.old⟩

theorem TR.ops {ι ι0 : Inj} {a0 a : Act} {ds : List (Option Nat)} {loc vals : List AV} (h : TR ntmps ι a0 ds vals a) (h0 : FR slots ntmps ι0 loc a0) (hle : Le ι0 ι) : OpsR slots ds loc vals ι a.eval := by
  intro x y hx
  cases x with
  | tmp t =>
    simp only [cX] at hx
    split at hx
    · rename_i d hd
      simp at hx; subst hx
      exact h.new t d hd
    · rename_i hn
      split at hx
      · rename_i i hi
        simp at hx; subst hx
        have := (h0.rel i t (slotOf_some hi)).mono hle
        simp only [X.eval, Act.eval]
        rw [h.old t hn]; exact this
      · cases hx
  | const v =>
    simp only [cX] at hx
    split at hx
    · rename_i a' ha; simp at hx; subst hx; exact absV_sound ha
    · cases hx
  | func f => simp [cX] at hx; subst hx; exact ⟨#[], rfl, trivial⟩
  | global g => simp [cX] at hx

theorem TR.put {ι : Inj} {a0 a : Act} {ds : List (Option Nat)} {vals : List AV} {dst d' : Option Nat} {r : AV} {v : Value} (h : TR ntmps ι a0 ds vals a) (hd : cDst slots ntmps dst = some d') (hr : AR ι r v) :
    TR ntmps ι a0 (dst :: ds) (r :: vals) (a.put dst v) := by
  cases dst with
  | none =>
    refine ⟨h.size, by simp [h.len], fun t d hp => ?_, fun t hp => ?_⟩
    · rw [posOf_cons_none] at hp
      cases hq : posOf ds t with
      | none => rw [hq] at hp; cases hp
      | some e => rw [hq] at hp; simp at hp; subst hp; simpa [Act.put] using h.new t e hq
    · rw [posOf_cons_none] at hp
      cases hq : posOf ds t with
      | none => exact h.old t hq
      | some e => rw [hq] at hp; cases hp
  | some d =>
    simp only [cDst] at hd
    cases hb : Nat.blt d ntmps with
    | false => rw [hb] at hd; cases hd
    | true =>
      have hlt : d < a.tmps.size := by rw [h.size]; exact Nat.lt_of_succ_le (Nat.le_of_ble_eq_true hb)
      refine ⟨by simp [Act.put, h.size], by simp [h.len], fun t e hp => ?_, fun t hp => ?_⟩
      · rw [posOf_cons_some] at hp
        simp only [Act.put, getD_set _ _ _ _ hlt]
        by_cases q : d = t
        · rw [if_pos q] at hp ⊢; simp at hp; subst hp; simpa using hr
        · rw [if_neg q] at hp ⊢
          cases hq : posOf ds t with
          | none => rw [hq] at hp; cases hp
          | some e' => rw [hq] at hp; simp at hp; subst hp; simpa using h.new t e' hq
      · rw [posOf_cons_some] at hp
        simp only [Act.put, getD_set _ _ _ _ hlt]
        by_cases q : d = t
        · rw [if_pos q] at hp; cases hp
        · rw [if_neg q] at hp ⊢
          cases hq : posOf ds t with
          | none => exact h.old t hq
          | some e' => rw [hq] at hp; cases hp

/-- A guard says what the model's says. -/
theorem guard_sound {ops : Array Oper} {ι : Inj} {a0 a : Act} {ds : List (Option Nat)} {loc vals : List AV} {o : Oper} {j : Nat} {g : Option (X × Bool)} {q : Bool} (h : TR ntmps ι a0 ds vals a) (hds : ∀ i d, posOf ds d = some i → d < ntmps)
    (hg : cGuard ops.toList ds j o.guard = some g) (he : evGuard loc vals g = some q) : Region.wanted o (yielded ops a.tmps) = q := by
  cases hgd : o.guard with
  | none =>
    rw [hgd] at hg; simp [cGuard] at hg; subst hg
    simp [evGuard] at he; subst he
    simp [Region.wanted, hgd]
  | some p =>
    obtain ⟨i, want⟩ := p
    rw [hgd] at hg; simp only [cGuard] at hg
    obtain ⟨oi, hoi, hg⟩ := ob_some hg
    obtain ⟨d, hd, hg⟩ := ob_some hg
    obtain ⟨r, hr, hg⟩ := ob_some hg
    cases hb : r + i + 1 == j with
    | false => rw [hb] at hg; cases hg
    | true =>
      rw [hb] at hg; simp only [cond_true, Option.some.injEq] at hg; subst hg
      have hv := h.new d r hr
      have hlt : d < a.tmps.size := by rw [h.size]; exact hds r d hr
      have hy : yielded ops a.tmps i = match a.tmps.getD d undef with | .bool b => some b | _ => none := by
        have h1 : ops[i]? = some oi := by rw [← Array.getElem?_toList]; exact hoi
        simp only [yielded, h1, Option.bind_some, hd, Array.getElem?_eq_getElem hlt, Array.getD_eq_getD_getElem?, Option.getD_some]
        cases a.tmps[d] <;> rfl
      simp only [evGuard, X.eval] at he
      simp only [Region.wanted, hgd, hy]
      split at he
      · rename_i b hb'
        rw [hb'] at hv; simp only [AR, CR] at hv
        simp only [Option.some.injEq] at he; subst he
        rw [hv]
        cases b <;> cases want <;> rfl
      · rename_i hb'
        rw [hb'] at hv
        obtain ⟨vs, hvs, hl⟩ := hv
        simp only [Option.some.injEq] at he; subst he
        rw [hvs]; rfl
      · cases he

theorem posOf_lt {ds : List (Option Nat)} (h : ∀ d, some d ∈ ds → d < ntmps) : ∀ (i d : Nat), posOf ds d = some i → d < ntmps := by
  induction ds with
  | nil => intro i d hp; simp [posOf] at hp
  | cons x ds ih =>
    intro i d hp
    have ih' := ih (fun d hd => h d (by simp [hd]))
    cases x with
    | none =>
      rw [posOf_cons_none] at hp
      cases hq : posOf ds d with
      | none => rw [hq] at hp; cases hp
      | some e => exact ih' e d hq
    | some u =>
      rw [posOf_cons_some] at hp
      by_cases q : u = d
      · subst q; exact h u (by simp)
      · rw [if_neg q] at hp
        cases hq : posOf ds d with
        | none => rw [hq] at hp; cases hp
        | some e => exact ih' e d hq

theorem cDst_lt {dst d' : Option Nat} (h : cDst slots ntmps dst = some d') : ∀ d, dst = some d → d < ntmps := by
  intro d hd; subst hd
  simp only [cDst] at h
  cases hb : Nat.blt d ntmps with
  | false => rw [hb] at h; cases h
  | true => exact Nat.lt_of_succ_le (Nat.le_of_ble_eq_true hb)

variable {call : Nat → List AV → Heap → Option (AV × Heap)}

/-- What the compiler has for one operation. -/
theorem cOp_some {ds : List (Option Nat)} {o : Op} (h : cOp P slots ds o ≠ .bad) : cOp? P slots ds o = some (cOp P slots ds o) := by
  unfold cOp at h ⊢
  split
  · rename_i x hx; rw [hx]
  · rename_i hx; rw [hx] at h; exact absurd rfl h

theorem op_sound (hcall : CallX P call) {ops : Array Oper} {i : Nat} {o : Oper} {a : Act} {ι : Inj} {B : Nat} {h h' : Heap} {w : World} {ds : List (Option Nat)} {loc vals : List AV} {r : AV} (H : OpsR slots ds loc vals ι a.eval)
    (hr : HR B ι h.get w) (hf : ∀ i, h.next ≤ i → ι i = none) (ho : ops[i]? = some o) (hw : Region.wanted o (yielded ops a.tmps) = true) (he : evOp loc vals call h (cOp P slots ds o.op) = some (r, h')) :
    OpTo P ops i o.dst a w (Left B ι h w r h') := by
  have hne : cOp P slots ds o.op ≠ .bad := by
    intro hb; rw [hb] at he; simp [evOp, IOp.kd, evEff] at he
  have hc := cOp_some (P := P) (slots := slots) (ds := ds) (o := o.op) hne
  unfold evOp at he
  split at he
  · rename_i hk
    split at he
    · rename_i v hv
      simp only [Option.some.injEq, Prod.mk.injEq] at he
      obtain ⟨rfl, rfl⟩ := he
      obtain ⟨u, hu, hur⟩ := pure_sound (P := P) H hr hc hk hv
      exact OpTo.value ho hw hu ⟨ι, hur, Post.refl hr hf⟩
    · cases he
  · rename_i hk
    split at he
    · rename_i f b hv
      simp only [Option.some.injEq, Prod.mk.injEq] at he
      obtain ⟨rfl, rfl⟩ := he
      obtain ⟨u, w', hu, hn⟩ := new_sound (P := P) (ι := ι) H hr.base hc hk hv
      obtain ⟨ι', h1, h2⟩ := hn.post hr hf
      exact OpTo.value ho hw hu ⟨ι', h1, h2⟩
    · cases he
  · rename_i hk
    exact eff_sound hcall H hr hf ho hw hc hk he

/-- A region from its operation number j on. -/
theorem run_sound (hcall : CallX P call) (hnd : noDup slots = true) {ops : Array Oper} {ι0 : Inj} {loc : List AV} {a0 : Act} (h0 : FR slots ntmps ι0 loc a0) :
    ∀ (rest : List Oper) (j : Nat) (ds : List (Option Nat)) (is : List Inst) (vals valsF : List AV) (h h' : Heap) (locC : List AV) (ι : Inj) (B : Nat) (a : Act) (w : World),
      (∀ k, rest[k]? = ops[j + k]?) → (∀ d, some d ∈ ds → d < ntmps) → cRegion P slots ntmps ops.toList rest ds j = some is → evRun call loc is vals h = some (valsF, h') →
      TR ntmps ι a0 ds vals a → FR slots ntmps ι locC a → Le ι0 ι → HR B ι h.get w → (∀ i, h.next ≤ i → ι i = none) →
      ∃ rv, valsF = rv.reverse ++ vals ∧ rv.length = rest.length ∧ ∀ (b : Frame) (k : List Item) (cs : List Frame), b.kind = .normal → ∃ a' w' ι', FR slots ntmps ι' (writeBack is rv locC) a' ∧ Post B ι h w ι' h' w' ∧
        Steps P (lone (b.at a (.inRegion ops (List.range' j rest.length) :: k)) cs w) (lone (b.at a' (.inRegion ops [] :: k)) cs w') := by
  intro rest
  induction rest with
  | nil =>
    intro j ds is vals valsF h h' locC ι B a w _ _ hc he htr hfr hle hr hf
    simp [cRegion] at hc; subst hc
    simp [evRun] at he; obtain ⟨rfl, rfl⟩ := he
    exact ⟨[], by simp, rfl, fun b k cs _ => ⟨a, w, ι, hfr, Post.refl hr hf, Steps.refl _ _⟩⟩
  | cons o rest ih =>
    intro j ds is vals valsF h h' locC ι B a w hget hlt hc he htr hfr hle hr hf
    have ho : ops[j]? = some o := by simpa using (hget 0).symm
    unfold cRegion at hc
    split at hc
    · rename_i d' g hd hg
      split at hc
      · rename_i is' his
        simp only [Option.some.injEq] at hc; subst hc
        have hops := htr.ops h0 hle
        have hlt' : ∀ d, some d ∈ o.dst :: ds → d < ntmps := by
          intro d hm
          rcases List.mem_cons.1 hm with e | hm
          · exact cDst_lt hd d e.symm
          · exact hlt d hm
        have hget' : ∀ k, rest[k]? = ops[j + 1 + k]? := fun k => by
          have := hget (k + 1)
          simpa [Nat.add_assoc, Nat.add_comm 1 k] using this
        have step : ∀ (r : AV) (h1 : Heap), evRun call loc is' (r :: vals) h1 = some (valsF, h') → OpTo P ops j o.dst a w (Left B ι h w r h1) →
            ∃ rv, valsF = rv.reverse ++ vals ∧ rv.length = (o :: rest).length ∧ ∀ (b : Frame) (k : List Item) (cs : List Frame), b.kind = .normal → ∃ a' w' ι', FR slots ntmps ι' (writeBack (⟨d', cOp P slots ds o.op, g, []⟩ :: is') rv locC) a' ∧ Post B ι h w ι' h' w' ∧
              Steps P (lone (b.at a (.inRegion ops (List.range' j (o :: rest).length) :: k)) cs w) (lone (b.at a' (.inRegion ops [] :: k)) cs w') := by
          intro r h1 he' hop
          have next : ∀ (v : Value) (w1 : World) (ι1 : Inj), AR ι1 r v → Post B ι h w ι1 h1 w1 → _ := fun v w1 ι1 hrv hp =>
            ih (j + 1) (o.dst :: ds) is' (r :: vals) valsF h1 h' (setLoc locC d' r) ι1 B (a.put o.dst v) w1 hget' hlt' his he' ((htr.mono (hp.le hf)).put hd hrv) ((hfr.mono (hp.le hf)).put hnd hd hrv) (hle.trans (hp.le hf)) hp.rel hp.fresh
          obtain ⟨v0, w0, ⟨ι1, hrv0, hp0⟩, _⟩ := hop (default : Frame) [] [] [] rfl
          obtain ⟨rv0, e1, e2, _⟩ := next v0 w0 ι1 hrv0 hp0
          refine ⟨r :: rv0, by simp [e1], by simp [e2], fun b k cs hk => ?_⟩
          obtain ⟨v, w1, ⟨ι1, hrv, hp⟩, hs⟩ := hop b (List.range' (j + 1) rest.length) k cs hk
          obtain ⟨rv1, f1, f2, f3⟩ := next v w1 ι1 hrv hp
          have hrv1 : rv1 = rv0 := by
            have hh : rv1.reverse ++ (r :: vals) = rv0.reverse ++ (r :: vals) := f1.symm.trans e1
            exact List.reverse_inj.1 (List.append_cancel_right hh)
          subst hrv1
          obtain ⟨a', w', ι', g1, g2, g3⟩ := f3 b k cs hk
          refine ⟨a', w', ι', g1, hp.trans g2, ?_⟩
          have : List.range' j (o :: rest).length = j :: List.range' (j + 1) rest.length := by simp [List.range'_succ]
          rw [this]
          exact Steps.trans hs g3
        simp only [evRun] at he
        split at he
        · cases he
        · rename_i hgd
          have hwant := guard_sound htr (posOf_lt hlt) hg hgd
          exact step _ _ he (OpTo.unwanted ho hwant ⟨ι, ⟨#[], rfl, trivial⟩, Post.refl hr hf⟩)
        · rename_i hgd
          have hwant := guard_sound htr (posOf_lt hlt) hg hgd
          split at he
          · rename_i r h1 hop
            exact step r h1 he (op_sound hcall hops hr hf ho hwant hop)
          · cases he
      · cases hc
    · cases hc
end
end Lav
