/-
  A region that draws its order, whole; a region in the order of its text, whole.
-/
import Derived.Test.YtdilhnnbfkiacaaFwG
namespace Lav
open Go

theorem filter_le {p p' : Nat → Bool} (h : ∀ x, p' x = true → p x = true) : ∀ (l : List Nat), (l.filter p').length ≤ (l.filter p).length
  | [] => Nat.le_refl _
  | x :: l => by
    have := filter_le h l
    rw [List.filter_cons, List.filter_cons]
    cases hp' : p' x with
    | true => rw [h x hp']; simp; omega
    | false => cases p x <;> simp <;> omega

theorem filter_lt {p p' : Nat → Bool} (h : ∀ x, p' x = true → p x = true) {i : Nat} (hp : p i = true) (hp' : p' i = false) : ∀ (l : List Nat), i ∈ l → (l.filter p').length < (l.filter p).length
  | [], hi => by simp at hi
  | x :: l, hi => by
    rw [List.filter_cons, List.filter_cons]
    rcases List.mem_cons.1 hi with rfl | hi
    · have := filter_le h l
      rw [hp, hp']; simp; omega
    · have := filter_lt h hp hp' l hi
      cases hq : p' x with
      | true => rw [h x hq]; simp; omega
      | false => cases p x <;> simp <;> omega

theorem writeBack_length : ∀ (is : List Inst) (vs loc : List AV), (writeBack is vs loc).length = loc.length
  | [], _, _ => rfl
  | i :: r, [], loc => rfl
  | i :: r, v :: vs, loc => by
    rw [writeBack, writeBack_length r vs]
    cases i.dst <;> simp [setLoc]

theorem writeBack_spec (V : Nat → AV) (k : Nat) : ∀ (is : List Inst) (j : Nat) (loc : List AV), k < loc.length →
    ((∀ (m : Nat) (i : Inst), is[m]? = some i → i.dst ≠ some k) ∧ (writeBack is (vseg V j is.length).reverse loc).getD k .junk = loc.getD k .junk) ∨
    ∃ (m : Nat) (i : Inst), is[m]? = some i ∧ i.dst = some k ∧ (∀ (m' : Nat) (i' : Inst), m < m' → is[m']? = some i' → i'.dst ≠ some k) ∧ (writeBack is (vseg V j is.length).reverse loc).getD k .junk = V (j + m)
  | [], j, loc, _ => .inl ⟨by simp, rfl⟩
  | x :: r, j, loc, hk => by
    have e : writeBack (x :: r) (vseg V j (x :: r).length).reverse loc = writeBack r (vseg V (j + 1) r.length).reverse (setLoc loc x.dst (V j)) := by
      rw [List.length_cons, vseg_front, List.reverse_append]; rfl
    rw [e]
    have hk' : k < (setLoc loc x.dst (V j)).length := by cases x.dst <;> simpa [setLoc] using hk
    rcases writeBack_spec V k r (j + 1) (setLoc loc x.dst (V j)) hk' with ⟨h1, h2⟩ | ⟨m, i, h1, h2, h3, h4⟩
    · by_cases hx : x.dst = some k
      · refine .inr ⟨0, x, rfl, hx, fun m' i' hm' hi' => ?_, ?_⟩
        · obtain ⟨m'', rfl⟩ : ∃ q, m' = q + 1 := ⟨m' - 1, by omega⟩
          exact h1 m'' i' (by simpa using hi')
        · rw [h2, hx]
          simp only [setLoc, List.getD_eq_getElem?_getD, List.getElem?_set_self hk, Option.getD_some, Nat.add_zero]
      · refine .inl ⟨fun m i hi => ?_, ?_⟩
        · cases m with
          | zero => simp at hi; subst hi; exact hx
          | succ m => exact h1 m i (by simpa using hi)
        · rw [h2]
          cases hd : x.dst with
          | none => rfl
          | some q =>
            have : q ≠ k := fun e => hx (by rw [hd, e])
            simp only [setLoc, List.getD_eq_getElem?_getD, List.getElem?_set_ne this]
    · refine .inr ⟨m + 1, i, by simpa using h1, h2, fun m' i' hm' hi' => ?_, ?_⟩
      · obtain ⟨m'', rfl⟩ : ∃ q, m' = q + 1 := ⟨m' - 1, by omega⟩
        exact h3 m'' i' (by omega) (by simpa using hi')
      · rw [h4, show j + 1 + m = j + (m + 1) by omega]

def Lst (listed : Array Bool) (j : Nat) : Prop := listed.getD j false = true

theorem Lst_start {n j : Nat} (h : Lst (Array.replicate n false) j) : False := by
  unfold Lst at h
  rw [Array.getD_eq_getD_getElem?, Array.getElem?_replicate] at h
  split at h <;> cases h

theorem Lst_set {listed : Array Bool} {i : Nat} (hi : i < listed.size) : Lst (listed.setIfInBounds i true) = fun j => j = i ∨ Lst listed j := by
  funext j
  apply propext
  unfold Lst
  by_cases e : j = i
  · subst e; simp [hi]
  · rw [getD_set_ne false (Ne.symm e)]; simp [e]

section
variable {D : DD} (K : DK D)
include K
variable {L : Nat → Prop} {eo : Option Nat} {ι : Inj} {f : Nat → Option Blk} {a : Act} {w : World}

theorem DI.done (I : DI D L eo ι f a w) (hall : ∀ j, j < D.ops.size → L j) (hL : ∀ j, L j → j < D.ops.size) :
    FR D.slots D.ntmps ι (writeBack D.l (vseg D.V 0 D.l.length).reverse D.loc) a ∧ Post D.B D.ι0 D.h D.w0 ι (D.C D.l.length) w := by
  have hs : start eo ≤ D.l.length := by
    cases he : eo with
    | none => exact Nat.zero_le _
    | some e => have := hL e (I.top e he).1; rw [K.len]; exact this
  have hne : ∀ j, start eo ≤ j → j < D.l.length → ¬ D.kd j .eff := fun j h1 h2 hk => by
    have := I.last j (hall j (by rw [← K.len]; exact h2)) hk; omega
  have hb := K.between (s := start eo) I.dead (D.l.length - start eo) (by omega) (fun j h1 h2 => hne j h1 (by omega))
  rw [show start eo + (D.l.length - start eo) = D.l.length by omega] at hb
  have hg : over f (D.C (start eo)).get = (D.C D.l.length).get := by
    funext x
    cases h1 : f x with
    | some b =>
      rw [over_some h1]
      obtain ⟨j, j1, j2, j3, j4⟩ := (I.spec x b).1 h1
      exact ((hb.2 x b).2 (.inr ⟨j, j2, j3, j4⟩)).symm
    | none =>
      rw [over_none h1]
      cases h2 : (D.C D.l.length).get x with
      | none =>
        cases h3 : (D.C (start eo)).get x with
        | none => rfl
        | some b => rw [(hb.2 x b).2 (.inl h3)] at h2; cases h2
      | some b =>
        rcases (hb.2 x b).1 h2 with h3 | ⟨j, j1, j2, j3⟩
        · exact h3
        · rw [(I.spec x b).2 ⟨j, hall j (by rw [← K.len]; exact j2), j1, j2, j3⟩] at h1; cases h1
  have hn := I.next
  refine ⟨⟨I.size, I.defers, by rw [writeBack_length]; exact K.fr0.len, fun i s hs => ?_⟩, ⟨by omega, I.same, fun i hi hn' => ?_, ?_, fun i hi => I.fresh i (by omega), ?_⟩⟩
  · have hil : i < D.loc.length := by
      rw [K.fr0.len]
      rcases Nat.lt_or_ge i D.slots.length with h | h
      · exact h
      · rw [List.getElem?_eq_none h] at hs; cases hs
    -- who writes the slot
    have hdst : ∀ (m : Nat) (q : Oper) (x : Inst), D.ops[m]? = some q → D.l[m]? = some x → (x.dst = some i ↔ q.dst = some s) := by
      intro m q x hq hx
      obtain ⟨dst, g, hi', hcd, _⟩ := K.inst m q hq
      rw [hx] at hi'; cases hi'
      show dst = some i ↔ _
      cases hd : q.dst with
      | none => rw [hd] at hcd; simp [cDst] at hcd; subst hcd; simp
      | some d =>
        rw [hd] at hcd
        simp only [cDst] at hcd
        cases hb : Nat.blt d D.ntmps with
        | false => rw [hb] at hcd; cases hcd
        | true =>
          rw [hb] at hcd; simp only [cond_true, Option.some.injEq] at hcd
          subst hcd
          constructor
          · intro h
            have := slotOf_some h
            rw [hs] at this; exact this.symm
          · intro h
            cases h
            cases hso : slotOf D.slots s with
            | none => exact absurd (List.mem_of_getElem? hs) (slotOf_none hso)
            | some j => rw [noDup_spec K.nodup j i s (slotOf_some hso) hs]
    have hop : ∀ (m : Nat) (x : Inst), D.l[m]? = some x → ∃ q, D.ops[m]? = some q := by
      intro m x hx
      have : m < D.ops.size := by
        rw [← K.len]
        rcases Nat.lt_or_ge m D.l.length with h | h
        · exact h
        · rw [List.getElem?_eq_none h] at hx; cases hx
      exact ⟨D.ops[m], by simp [this]⟩
    have hin : ∀ (m : Nat) (q : Oper), D.ops[m]? = some q → ∃ x, D.l[m]? = some x := fun m q hq => by
      obtain ⟨dst, g, hi', _⟩ := K.inst m q hq; exact ⟨_, hi'⟩
    rcases writeBack_spec D.V i D.l 0 D.loc hil with ⟨h1, h2⟩ | ⟨m, x, h1, h2, h3, h4⟩
    · rw [h2, I.old s (fun m q _ hq hd => by
        obtain ⟨x, hx⟩ := hin m q hq
        exact h1 m x hx ((hdst m q x hq hx).2 hd))]
      exact (K.fr0.rel i s hs).mono I.le
    · rw [h4, Nat.zero_add]
      obtain ⟨q, hq⟩ := hop m x h1
      refine I.new m q s (hall m (by rcases Nat.lt_or_ge m D.ops.size with h | h
                                     · exact h
                                     · rw [Array.getElem?_eq_none h] at hq; cases hq)) hq ((hdst m q x hq h1).1 h2) fun m' q' _ hlt hq' hd => ?_
      obtain ⟨x', hx'⟩ := hin m' q' hq'
      exact h3 m' x' hlt hx' ((hdst m' q' x' hq' hx').2 hd)
  · cases hc : (D.C D.l.length).get i with
    | none => rfl
    | some b =>
      rcases (hb.2 i b).1 hc with h | ⟨m, m1, m2, m3⟩
      · rw [I.deadb i hi hn'] at h; cases h
      · obtain ⟨q1, q2, _⟩ := K.W_kd m2 m3
        simp only at q2; omega
  · rw [← hg]; exact I.rel
  · rw [← hg]; exact I.fr

theorem all_listed (hback : edgesBack D.ops.toList = true) {listed : Array Bool} (hsz : listed.size = D.ops.size) (hr : Region.ready .any D.ops listed = []) : ∀ j, j < D.ops.size → Lst listed j := by
  have _ := K.len
  intro j
  induction j using Nat.strongRecOn with
  | _ j ih =>
    intro hj
    cases hl : listed.getD j false with
    | true => exact hl
    | false =>
      have ho : D.ops[j]? = some D.ops[j] := by simp [hj]
      have : j ∈ Region.ready .any D.ops listed := by
        rw [mem_ready]
        refine ⟨?_, _, ho, fun e he hb => ?_⟩
        · rw [← hl]; simp [hsz, hj]
        · have hb' := hback
          simp only [edgesBack, List.all_eq_true] at hb'
          have := hb' (D.ops[j], j) (List.mem_zipIdx_iff_getElem?.2 (by simp [hj])) e (by simpa using he)
          simp only [hb, Bool.not_true, Bool.false_or] at this
          have hlt : e.on < j := Nat.lt_of_succ_le (Nat.le_of_ble_eq_true this)
          exact ih e.on hlt (by omega)
      rw [hr] at this; cases this

theorem DI.order (hback : edgesBack D.ops.toList = true) : ∀ (fuel t : Nat) (listed : Array Bool) (eo : Option Nat) (ι : Inj) (f : Nat → Option Blk) (a : Act) (w : World), listed.size = D.ops.size → Closed D.ops.toList (Lst listed) →
    ((List.range D.ops.size).filter fun j => !listed.getD j true).length ≤ fuel → DI D (Lst listed) eo ι f a w → ∀ (b : Frame) (k : List Item) (cs : List Frame), b.kind = .normal →
    ∃ a' w' ι', FR D.slots D.ntmps ι' (writeBack D.l (vseg D.V 0 D.l.length).reverse D.loc) a' ∧ Post D.B D.ι0 D.h D.w0 ι' (D.C D.l.length) w' ∧
      Steps D.P (lone (b.at a (.inRegion D.ops (Region.linearise.go .any D.ops fuel t listed []) :: k)) cs w) (lone (b.at a' (.inRegion D.ops [] :: k)) cs w') := by
  intro fuel
  have fin : ∀ (listed : Array Bool) (eo : Option Nat) (ι : Inj) (f : Nat → Option Blk) (a : Act) (w : World), listed.size = D.ops.size → (∀ j, j < D.ops.size → Lst listed j) → DI D (Lst listed) eo ι f a w → ∀ (b : Frame) (k : List Item) (cs : List Frame), b.kind = .normal →
      ∃ a' w' ι', FR D.slots D.ntmps ι' (writeBack D.l (vseg D.V 0 D.l.length).reverse D.loc) a' ∧ Post D.B D.ι0 D.h D.w0 ι' (D.C D.l.length) w' ∧
        Steps D.P (lone (b.at a (.inRegion D.ops [] :: k)) cs w) (lone (b.at a' (.inRegion D.ops [] :: k)) cs w') := by
    intro listed eo ι f a w hsz hall I b k cs _
    obtain ⟨h1, h2⟩ := I.done K hall (fun j hj => by
      rcases Nat.lt_or_ge j D.ops.size with h | h
      · exact h
      · unfold Lst at hj
        rw [Array.getD_eq_getD_getElem?, Array.getElem?_eq_none (by omega)] at hj; cases hj)
    exact ⟨a, w, ι, h1, h2, Steps.refl _ _⟩
  induction fuel with
  | zero =>
    intro t listed eo ι f a w hsz hcl hcnt I b k cs hk
    simp only [Region.linearise.go, List.reverse_nil]
    refine fin listed eo ι f a w hsz (fun j hj => ?_) I b k cs hk
    have hnil := List.eq_nil_of_length_eq_zero (Nat.le_zero.1 hcnt)
    have := List.filter_eq_nil_iff.1 hnil j (List.mem_range.2 hj)
    simp [hsz, hj] at this
    unfold Lst; simp [hsz, hj, this]
  | succ fuel ih =>
    intro t listed eo ι f a w hsz hcl hcnt I b k cs hk
    simp only [Region.linearise.go]
    change ∃ a' w' ι', _ ∧ _ ∧ Steps D.P (lone (b.at a (.inRegion D.ops (match (Region.ready .any D.ops listed)[t % (Region.ready .any D.ops listed).length]? with
      | some i => Region.linearise.go .any D.ops fuel (t / (Region.ready .any D.ops listed).length) (listed.setIfInBounds i true) [i]
      | none => [].reverse) :: k)) cs w) _
    cases hi : (Region.ready .any D.ops listed)[t % (Region.ready .any D.ops listed).length]? with
    | none =>
      have hnil : Region.ready .any D.ops listed = [] := by
        cases hr : Region.ready .any D.ops listed with
        | nil => rfl
        | cons x xs =>
          rw [hr] at hi
          have hlt : t % (x :: xs).length < (x :: xs).length := Nat.mod_lt _ (by simp)
          rw [List.getElem?_eq_getElem hlt] at hi; cases hi
      exact fin listed eo ι f a w hsz (all_listed K hback hsz hnil) I b k cs hk
    | some i =>
      simp only []
      rw [linearise_go_acc, List.reverse_singleton, List.singleton_append]
      obtain ⟨hn, o, ho, hedge⟩ := mem_ready.1 (List.mem_of_getElem? hi)
      have hlt : i < D.ops.size := by
        rcases Nat.lt_or_ge i D.ops.size with h | h
        · exact h
        · rw [Array.getElem?_eq_none h] at ho; cases ho
      have hready : ∀ o' e, D.ops.toList[i]? = some o' → e ∈ o'.after.toList → Region.binds .any e = true → Lst listed e.on := by
        intro o' e ho' he hb
        rw [Array.getElem?_toList, ho] at ho'; cases ho'
        exact hedge e (by simpa using he) hb
      have hnl : ¬ Lst listed i := by
        intro h; unfold Lst at h
        simp [hsz, hlt] at h hn
        rw [h] at hn; cases hn
      have N : Next D (Lst listed) i o := ⟨ho, hnl, fun j h => hcl.anc i j hready h, fun j hj h => hnl (hcl.anc j i (fun o' e h1 h2 h3 => hcl j o' e hj h1 h2 h3) h)⟩
      have hset := Lst_set (listed := listed) (i := i) (by omega)
      obtain ⟨v, w', ⟨eo', ι', f', I'⟩, hsteps⟩ := I.step K N b (Region.linearise.go .any D.ops fuel (t / (Region.ready .any D.ops listed).length) (listed.setIfInBounds i true) []) k cs hk
      rw [← hset] at I'
      have hcl' : Closed D.ops.toList (Lst (listed.setIfInBounds i true)) := by
        rw [hset]
        intro j o' e hj h1 h2 h3
        rcases hj with rfl | hj
        · exact .inr (hready o' e h1 h2 h3)
        · exact .inr (hcl j o' e hj h1 h2 h3)
      have hcnt' : ((List.range D.ops.size).filter fun j => !(listed.setIfInBounds i true).getD j true).length ≤ fuel := by
        have := filter_lt (p := fun j => !listed.getD j true) (p' := fun j => !(listed.setIfInBounds i true).getD j true) (i := i) (fun x hx => by
          by_cases e : x = i
          · subst e; simp [hsz, hlt] at hx
          · rw [getD_set_ne true (Ne.symm e)] at hx; exact hx) (by rw [hn]; rfl) (by simp [hsz, hlt]) (List.range D.ops.size) (List.mem_range.2 hlt)
        omega
      obtain ⟨a', w'', ι'', g1, g2, g3⟩ := ih _ _ eo' ι' f' _ w' (by simp [hsz]) hcl' hcnt' I' b k cs hk
      exact ⟨a', w'', ι'', g1, g2, Steps.trans hsteps g3⟩
end

theorem chkOne_spec {loc : List AV} {h0 : Heap} {S : DS} {op : IOp} {vals : List AV} {v : AV} : ∀ {l : List (Option Nat × List Nat)}, chkOne loc h0 S op vals v l = true → ∀ p ∈ l, ∃ H, stage h0 S p.1 = some H ∧ evPure loc vals (withNews S p.2 H) op = some v
  | [], _, p, hp => by simp at hp
  | (e, ps) :: r, h, p, hp => by
    unfold chkOne at h
    split at h
    · rename_i H hH
      split at h
      · rename_i u hu
        simp only [Bool.and_eq_true, decide_eq_true_eq] at h
        rcases List.mem_cons.1 hp with rfl | hp
        · exact ⟨H, hH, by rw [hu, h.1]⟩
        · exact chkOne_spec h.2 p hp
      · cases h
    · cases h

theorem chkAll_spec {loc : List AV} {h0 : Heap} {S : DS} {V : Nat → AV} {G : Nat → Bool} {l : List Inst} (hG : ∀ j i, l[j]? = some i → evGuard loc (vseg V 0 j) i.guard = some (G j)) : ∀ (n : Nat), n ≤ l.length → chkAll loc h0 S (l.take n).reverse (vseg V 0 n) = true →
    ∀ j i, j < n → l[j]? = some i → G j = true → ∀ p ∈ i.chk, ∃ H, stage h0 S p.1 = some H ∧ evPure loc (vseg V 0 j) (withNews S p.2 H) i.op = some (V j) := by
  intro n
  induction n with
  | zero => intro _ _ j i hj; omega
  | succ n ih =>
    intro hn h j i hj hi hg p hp
    have hin : l[n]? = some (l[n]'(by omega)) := by simp
    generalize l[n]'(by omega) = x at hin
    have e : (l.take (n + 1)).reverse = x :: (l.take n).reverse := by rw [List.take_add_one, hin]; simp
    rw [e] at h
    simp only [vseg, chkAll, Bool.and_eq_true, Nat.zero_add] at h
    by_cases ej : j = n
    · subst ej
      rw [hi] at hin; cases hin
      have h1 := h.1
      rw [hG j i hi, hg] at h1
      cases hc : i.chk with
      | nil => rw [hc] at hp; simp at hp
      | cons c cs =>
        rw [hc] at h1 hp
        exact chkOne_spec h1 p hp
    · exact ih (by omega) h.2 j i (by omega) hi hg p hp

section
variable {P : Program} {slots : List Nat} {ntmps : Nat} {call : Nat → List AV → Heap → Option (AV × Heap)}

/-- What a piece of code does, run from here. -/
def Goes (P : Program) (slots : List Nat) (ntmps B : Nat) (ι : Inj) (h : Heap) (w : World) (a : Act) (it : List Item → List Item) (loc' : List AV) (h' : Heap) (fin : List Item → List Item) : Prop :=
  ∀ (b : Frame) (k : List Item) (cs : List Frame), b.kind = .normal → ∃ a' w' ι', FR slots ntmps ι' loc' a' ∧ Post B ι h w ι' h' w' ∧ Steps P (lone (b.at a (it k)) cs w) (lone (b.at a' (fin k)) cs w')

theorem dreg_sound (hcall : CallX P call) (hm : P.follows .mixedOrders = true) {N num : Nat} {ops : Array Oper} {ι : Inj} {loc loc' : List AV} {h h' : Heap} {ex : Ex} {a : Act} {B : Nat} {w : World}
    (hfr : FR slots ntmps ι loc a) (he : ev call N (cReg P slots ntmps ops.toList true) loc h = some (ex, loc', h')) (hr : HR B ι h.get w) (hf : ∀ i, h.next ≤ i → ι i = none) :
    ex = .norm ∧ Goes P slots ntmps B ι h w a (.code (.region num ops true) :: ·) loc' h' (fun k => k) := by
  unfold cReg at he
  split at he
  · simp [ev] at he
  · rename_i l0 hl0
    simp only at he
    generalize hbs : aheadOf ops.toList [] = bs at he
    generalize hes : kdAt .eff l0 = es at he
    generalize hns : kdAt .new l0 = ns at he
    cases hcond : (Lav.settled ops.toList bs && edgesBack ops.toList && effsOk bs es ns && okXs slots ops.toList ops.toList l0 [] && noDup slots) with
    | false => rw [hcond] at he; simp [ev] at he
    | true =>
      rw [hcond] at he
      simp only [Bool.and_eq_true] at hcond
      obtain ⟨⟨⟨⟨c1, c2⟩, c3⟩, c4⟩, c5⟩ := hcond
      simp only [cond_true, ev, evDReg] at he
      obtain ⟨g1, g2⟩ := cRegion_get (P := P) (slots := slots) (ntmps := ntmps) ops.toList ops.toList 0 l0 (fun k => by simp) hl0
      have g3 := okXs_get (slots := slots) ops.toList ops.toList l0 0 (fun k => by simp) c4
      generalize hl : withChks bs es ns 0 l0 = l at he
      have hlen : l.length = ops.size := by rw [← hl, withChks_length, g1]; simp
      have hget : ∀ m, l[m]? = (l0[m]?).map fun (x : Inst) => { x with chk := chks bs es ns m x.op } := fun m => by rw [← hl, withChks_get]; simp
      have hkd : ∀ k, kdAt k l = kdAt k l0 := by
        intro k
        unfold kdAt
        have : ∀ (l0 : List Inst) (i j : Nat), (((withChks bs es ns i l0).zipIdx j).filter fun p => p.1.op.kd == k).map (·.2) = ((l0.zipIdx j).filter fun p => p.1.op.kd == k).map (·.2) := by
          intro l0
          induction l0 with
          | nil => intro i j; rfl
          | cons x l0 ih =>
            intro i j
            simp only [withChks, List.zipIdx_cons, List.filter_cons]
            cases hx : (x.op.kd == k) <;> simp [ih]
        rw [← hl]; exact this l0 0 0
      have hn : ns.length = newsOf l := by rw [← hns, ← hkd, kdAt_new_length]
      rw [hn] at he
      split at he
      · rename_i S hS
        cases hchk : chkAll loc (h.skip (newsOf l)) S l.reverse S.vals with
        | false => rw [hchk] at he; cases he
        | true =>
          rw [hchk] at he
          simp only [cond_true, Option.some.injEq, Prod.mk.injEq] at he
          obtain ⟨rfl, rfl, rfl⟩ := he
          refine ⟨rfl, ?_⟩
          obtain ⟨V, G, C, W, d1, d2, d3, _, _, d6⟩ := drun_of call loc h.next l 0 0 _ _ hS
          simp only [List.append_nil, Nat.zero_add] at d2 d3 d6
          let D : DD := ⟨P, slots, ntmps, ops, call, loc, h, l, S, V, G, C, W, a, ι, w, B, es, ns⟩
          have hkds : ∀ j k, D.kd j k ↔ j ∈ kdAt k l0 := fun j k => by rw [← hkd]; exact mem_kdAt.symm
          have K : DK D := {
            hcall := hcall
            len := hlen
            inst := fun j o ho => by
              obtain ⟨dst, g, e1, e2, e3⟩ := g2 j o (by rw [Array.getElem?_toList]; exact ho)
              rw [Nat.zero_add] at e1 e3
              refine ⟨dst, g, ?_, e2, e3⟩
              show l[j]? = _
              rw [hget, e1]
              show _ = some (Inst.mk dst _ g (chks (aheadOf ops.toList []) es ns j _))
              rw [hbs]; rfl
            okx := fun j o i ho hi => by
              have hi' : l[j]? = some i := hi
              rw [hget] at hi'
              cases hx : l0[j]? with
              | none => rw [hx] at hi'; cases hi'
              | some x =>
                rw [hx] at hi'; simp only [Option.map_some, Option.some.injEq] at hi'; subst hi'
                have := g3 j o x (by rw [Array.getElem?_toList]; exact ho) hx
                rw [Nat.zero_add] at this
                exact this
            step := fun j i hi => (d6 j i hi).1
            ks := fun j ⟨i, hi, hk⟩ => (d6 j i hi).2.1 hk
            nw := fun j hj => by
              have hi : l[j]? = some (l[j]'hj) := by simp
              obtain ⟨_, _, e1, e2⟩ := d6 j _ hi
              show S.news.lookup j = W j
              cases hw : W j with
              | none => rw [e2 hw]; rfl
              | some p => exact e1 p hw
            c0 := d1
            effs := fun j => by rw [hkds]; show j ∈ es ↔ _; rw [hes]
            sorted := by show es.Pairwise _; rw [← hes]; exact kdAt_sorted _ _
            news := fun j => by rw [hkds]; show j ∈ ns ↔ _; rw [hns]
            settled := by show Lav.settled ops.toList (aheadOf ops.toList []) = true; rw [hbs]; exact c1
            ok := by show effsOk (aheadOf ops.toList []) es ns = true; rw [hbs]; exact c3
            chk := fun j i hi hg p hp => by
              have hjl : j < l.length := by
                have hi' : l[j]? = some i := hi
                rcases Nat.lt_or_ge j l.length with h | h
                · exact h
                · rw [List.getElem?_eq_none h] at hi'; cases hi'
              rw [d3] at hchk
              exact chkAll_spec (V := V) (G := G) (l := l) (fun j i hi => (d6 j i hi).1.guard) l.length (Nat.le_refl _) (by rw [List.take_length]; exact hchk) j i hjl hi hg p hp
            nodup := c5
            fr0 := hfr }
          have hover : over (fun _ => none) (C 0).get = h.get := by funext x; rw [d1]; rfl
          have I0 : DI D (Lst (Array.replicate ops.size false)) none ι (fun _ => none) a { w with drawn := w.drawn + 1 } := {
            top := fun e q => by cases q
            last := fun e q => (Lst_start q).elim
            next := by show h.next + newsOf l ≤ (C 0).next; rw [d1]; exact Nat.le_refl _
            fresh := fun i hi => by
              have : (C 0).next ≤ i := hi
              rw [d1] at this
              exact hf i (Nat.le_trans (Nat.le_add_right _ _) this)
            res := fun j _ _ => hf _ (Nat.le_add_right _ _)
            dead := fun j hj _ => by
              show (C 0).get _ = none
              rw [d1]
              show h.get _ = none
              cases hg : h.get (D.h.next + D.rank j) with
              | none => rfl
              | some b =>
                obtain ⟨b', x, y, e, _⟩ := hr.at_ _ _ hg
                rw [hf _ (Nat.le_add_right _ _)] at e; cases e
            spec := fun i b => by
              constructor
              · intro q; cases q
              · rintro ⟨_, q, _⟩; exact (Lst_start q).elim
            rel := by show HR B ι (over (fun _ => none) (C 0).get) _; rw [hover]; exact hr.drew _
            fr := by show Fr ι h.get w ι (over (fun _ => none) (C 0).get) _; rw [hover]; exact Fr.drew _
            le := Le.refl _
            same := fun _ _ => rfl
            deadb := fun i hi hn' => by show (C 0).get i = none; rw [d1]; exact hn'
            size := hfr.size
            defers := hfr.defers
            new := fun j o t q => (Lst_start q).elim
            old := fun _ _ => rfl }
          intro b k cs hk
          obtain ⟨a', w', ι', h1, h2, h3⟩ := I0.order K c2 ops.size (w.tape w.drawn (.order b.fn num)) (Array.replicate ops.size false) none ι _ a _ (by simp [D]) (fun j o e q => (Lst_start q).elim) (by
              refine Nat.le_trans (List.length_filter_le _ _) ?_
              simp [D]) b k cs hk
          refine ⟨a', w', ι', ?_, ?_, ?_⟩
          · rw [d3]; exact h1
          · rw [← d2]; exact h2
          · refine Steps.head step_region_draw (Steps.trans ?_ (.one (step_region_end (ops := ops))))
            have : Region.schedule (P.follows .mixedOrders) ops (w.tape w.drawn (.order b.fn num)) = Region.linearise.go .any ops ops.size (w.tape w.drawn (.order b.fn num)) (Array.replicate ops.size false) [] := by
              simp only [Region.schedule, hm, Bool.true_or, if_true]; rfl
            rw [this]
            exact h3
      · cases he
end
end Lav
