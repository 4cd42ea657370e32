/-
  A region that draws its order: one operation of it, and the whole.
-/
import Derived.Test.YtdilhnnbfkiacaaFwF
namespace Lav
open Go

def mask (l : List AV) (p : Nat → Bool) : List AV := l.mapIdx fun k v => bif p k then v else .junk

theorem mask_getD (l : List AV) (p : Nat → Bool) (k : Nat) : (mask l p).getD k .junk = bif p k then l.getD k .junk else .junk := by
  simp only [mask, List.getD_eq_getElem?_getD, List.getElem?_mapIdx]
  cases h : l[k]? with
  | none => cases p k <;> rfl
  | some v => rfl

theorem withNews_sub {S : DS} {g : Nat → Option Blk} : ∀ (ps : List Nat) (H : Heap), Sub H.get g → (∀ p ∈ ps, ∀ i b, S.news.lookup p = some (i, b) → g i = some b) → Sub (withNews S ps H).get g
  | [], H, h, _ => h
  | p :: r, H, h, hp => by
    unfold withNews
    split
    · rename_i i b hl
      refine withNews_sub r _ ?_ (fun q hq => hp q (by simp [hq]))
      rw [Heap.get_put]
      intro x y hx
      by_cases e : x = i
      · subst e; simp [upd] at hx; subst hx; exact hp p (by simp) _ _ hl
      · simp [upd, e] at hx; exact h x y hx
    · exact withNews_sub r H h (fun q hq => hp q (by simp [hq]))

section
variable {D : DD} (K : DK D)
include K

theorem DK.effs_spec {e e' : Nat} (h : D.kd e .eff) (h' : D.kd e' .eff) (hl : e < e') : anc D.bits e e' = true := by
  have hok := K.ok
  simp only [effsOk, Bool.and_eq_true, List.all_eq_true] at hok
  have := hok.1 e ((K.effs e).2 h) e' ((K.effs e').2 h')
  have hb : Nat.blt e e' = true := Nat.ble_eq_true_of_le hl
  simpa [hb] using this

theorem DK.news_spec {a e : Nat} (h : D.kd a .new) (h' : D.kd e .eff) (hl : a < e) : anc D.bits a e = true := by
  have hok := K.ok
  simp only [effsOk, Bool.and_eq_true, List.all_eq_true] at hok
  have := hok.2 a ((K.news a).2 h) e ((K.effs e).2 h')
  have hb : Nat.blt a e = true := Nat.ble_eq_true_of_le hl
  simpa [hb] using this

variable {L : Nat → Prop} {eo : Option Nat} {ι : Inj} {f : Nat → Option Blk} {a : Act} {w : World} {i : Nat} {o : Oper}

/-- What may be said of the operation that is next. -/
structure Next (D : DD) (L : Nat → Prop) (i : Nat) (o : Oper) : Prop where
  o : D.ops[i]? = some o
  nl : ¬ L i
  anc : ∀ j, anc D.bits j i = true → L j
  desc : ∀ j, L j → Lav.anc D.bits i j = true → False

omit K in
theorem Next.ol (N : Next D L i o) : D.ops.toList[i]? = some o := by rw [Array.getElem?_toList]; exact N.o

theorem Next.later (N : Next D L i o) : ∀ m q t, L m → i < m → D.ops[m]? = some q → q.dst = some t → o.dst ≠ some t := by
  intro m q t hm hlt hq ht hd
  have := settled_spec K.settled N.ol (by rw [Array.getElem?_toList]; exact hq) hd (Nat.ne_of_lt hlt) (.inr ht)
  rw [if_pos hlt] at this
  exact N.desc m hm this

theorem DI.seen (I : DI D L eo ι f a w) (N : Next D L i o) {t d : Nat} (ht : t ∈ looks D.ops.toList o) (hp : posOf (dsAt D.ops.toList i) t = some d) : AR ι ((vseg D.V 0 i).getD d .junk) (a.tmps.getD t undef) := by
  have hlen : i ≤ D.ops.toList.length := by
    rcases Nat.lt_or_ge i D.ops.toList.length with h | h
    · exact Nat.le_of_lt h
    · have := N.ol; rw [List.getElem?_eq_none h] at this; cases this
  obtain ⟨h1, ⟨q, hq, hqd⟩, h3⟩ := posOf_spec i t d hlen hp
  rw [vseg_get _ _ _ h1]
  refine I.new (i - 1 - d) q t ?_ (by rw [← Array.getElem?_toList]; exact hq) hqd ?_
  · have := settled_spec K.settled hq N.ol hqd (by omega) (.inl ht)
    rw [if_pos (by omega)] at this
    exact N.anc _ this
  · intro m q' hm hlt hq' hd
    rw [← Array.getElem?_toList] at hq'
    rcases Nat.lt_trichotomy m i with h | h | h
    · exact h3 m q' hlt h hq' hd
    · subst h; exact N.nl hm
    · have := settled_spec K.settled hq' N.ol hd (by omega) (.inl ht)
      rw [if_neg (by omega)] at this
      exact N.desc m hm this

theorem DI.unseen (I : DI D L eo ι f a w) (N : Next D L i o) {t : Nat} (ht : t ∈ looks D.ops.toList o) (hp : posOf (dsAt D.ops.toList i) t = none) : a.tmps.getD t undef = D.a0.tmps.getD t undef := by
  have hlen : i ≤ D.ops.toList.length := by
    rcases Nat.lt_or_ge i D.ops.toList.length with h | h
    · exact Nat.le_of_lt h
    · have := N.ol; rw [List.getElem?_eq_none h] at this; cases this
  refine I.old t fun m q' hm hq' hd => ?_
  rw [← Array.getElem?_toList] at hq'
  rcases Nat.lt_trichotomy m i with h | h | h
  · exact posOf_none i t hlen hp m q' h hq' hd
  · subst h; exact N.nl hm
  · have := settled_spec K.settled hq' N.ol hd (by omega) (.inl ht)
    rw [if_neg (by omega)] at this
    exact N.desc m hm this

theorem DI.operands (I : DI D L eo ι f a w) (N : Next D L i o) : ∃ loc' vals', OpsR D.slots (dsAt D.ops.toList i) loc' vals' ι a.eval ∧ ∀ x, okX D.slots (dsAt D.ops.toList i) (looks D.ops.toList o) x = true → x.eval D.loc (vseg D.V 0 i) = x.eval loc' vals' := by
  have hlen : i ≤ D.ops.toList.length := by
    rcases Nat.lt_or_ge i D.ops.toList.length with h | h
    · exact Nat.le_of_lt h
    · have := N.ol; rw [List.getElem?_eq_none h] at this; cases this
  refine ⟨mask D.loc (fun k => okX D.slots (dsAt D.ops.toList i) (looks D.ops.toList o) (.loc k)), mask (vseg D.V 0 i) (fun k => okX D.slots (dsAt D.ops.toList i) (looks D.ops.toList o) (.val k)), ?_, ?_⟩
  · intro x y hx
    cases x with
    | tmp t =>
      simp only [cX] at hx
      split at hx
      · rename_i d hd
        simp at hx; subst hx
        simp only [X.eval, mask_getD]
        cases hok : okX D.slots (dsAt D.ops.toList i) (looks D.ops.toList o) (.val d) with
        | false => trivial
        | true =>
          simp only [okX, List.any_eq_true, beq_iff_eq] at hok
          obtain ⟨t', ht', hp'⟩ := hok
          obtain ⟨_, ⟨q, hq, hqd⟩, _⟩ := posOf_spec i t d hlen hd
          obtain ⟨_, ⟨q', hq', hqd'⟩, _⟩ := posOf_spec i t' d hlen hp'
          rw [hq] at hq'; cases hq'
          rw [hqd] at hqd'; cases hqd'
          exact I.seen K N ht' hd
      · rename_i hn
        split at hx
        · rename_i k hk
          simp at hx; subst hx
          simp only [X.eval, mask_getD]
          cases hok : okX D.slots (dsAt D.ops.toList i) (looks D.ops.toList o) (.loc k) with
          | false => trivial
          | true =>
            simp only [okX, List.any_eq_true, Bool.and_eq_true, beq_iff_eq] at hok
            obtain ⟨t', ht', hp', hs'⟩ := hok
            have e1 := slotOf_some hk
            have e2 := slotOf_some hs'
            rw [e1] at e2; cases e2
            simp only [cond_true, Act.eval]
            rw [I.unseen K N ht' hn]
            exact (K.fr0.rel k t e1).mono I.le
        · cases hx
    | const v =>
      simp only [cX] at hx
      split at hx
      · rename_i a' ha; simp at hx; subst hx; exact absV_sound ha
      · cases hx
    | func f => simp [cX] at hx; subst hx; exact ⟨#[], rfl, trivial⟩
    | global g => simp [cX] at hx
  · intro x hx
    cases x with
    | loc k => simp only [X.eval, mask_getD, hx, cond_true]
    | val k => simp only [X.eval, mask_getD, hx, cond_true]
    | k v => rfl

theorem DI.wanted (I : DI D L eo ι f a w) (N : Next D L i o) {g : Option (X × Bool)} {q : Bool} (hg : cGuard D.ops.toList (dsAt D.ops.toList i) i o.guard = some g) (he : evGuard D.loc (vseg D.V 0 i) g = some q) : Region.wanted o (yielded D.ops a.tmps) = q := by
  cases hgd : o.guard with
  | none =>
    rw [hgd] at hg; simp [cGuard] at hg; subst hg
    simp [evGuard] at he; subst he
    simp [Region.wanted, hgd]
  | some p =>
    obtain ⟨j, want⟩ := p
    rw [hgd] at hg; simp only [cGuard] at hg
    obtain ⟨oi, hoi, hg⟩ := ob_some hg
    obtain ⟨d, hd, hg⟩ := ob_some hg
    obtain ⟨r, hr, hg⟩ := ob_some hg
    cases hb : r + j + 1 == i with
    | false => rw [hb] at hg; cases hg
    | true =>
      rw [hb] at hg; simp only [cond_true, Option.some.injEq] at hg; subst hg
      have hmem : d ∈ looks D.ops.toList o := by
        simp only [looks, List.mem_append, hgd, hoi, Option.bind_some, hd]
        exact .inr (by simp)
      have hv := I.seen K N hmem hr
      have hoi' : D.ops[j]? = some oi := by rw [← Array.getElem?_toList]; exact hoi
      obtain ⟨dst, g', _, hcd, _⟩ := K.inst j oi hoi'
      have hlt : d < a.tmps.size := by rw [I.size]; exact cDst_lt hcd d hd
      have hy : yielded D.ops a.tmps j = match a.tmps.getD d undef with | .bool b => some b | _ => none := by
        simp only [yielded, hoi', Option.bind_some, hd, Array.getElem?_eq_getElem hlt, Array.getD_eq_getD_getElem?, Option.getD_some]
        cases a.tmps[d] <;> rfl
      simp only [evGuard, X.eval] at he
      simp only [Region.wanted, hgd, hy]
      split at he
      · rename_i b hb'
        rw [hb'] at hv; simp only [AR, CR] at hv
        simp only [Option.some.injEq] at he; subst he
        rw [hv]
        cases b <;> cases want <;> rfl
      · rename_i hb'
        rw [hb'] at hv
        obtain ⟨vs, hvs, hl⟩ := hv
        simp only [Option.some.injEq] at he; subst he
        rw [hvs]; rfl
      · cases he

omit K in
theorem Next.start_le (I : DI D L eo ι f a w) (N : Next D L i o) (h : ∀ e, i < e → D.kd e .eff → Lav.anc D.bits i e = true) : start eo ≤ i := by
  cases he : eo with
  | none => exact Nat.zero_le _
  | some e =>
    obtain ⟨h1, h2⟩ := I.top e he
    show e + 1 ≤ i
    rcases Nat.lt_trichotomy e i with hl | hl | hl
    · exact hl
    · subst hl; exact absurd h1 N.nl
    · exact (N.desc e h1 (h e hl h2)).elim

/-- What a reading operation reads is there. -/
theorem DI.readable (I : DI D L eo ι f a w) (N : Next D L i o) {ins : Inst} (hi : D.l[i]? = some ins) (hchk : ins.chk = chks D.bits D.effs D.news i ins.op) (hG : D.G i = true) (hk : ins.op.kd = .pure) :
    ∃ H : Heap, Sub H.get (over f (D.C (start eo)).get) ∧ evPure D.loc (vseg D.V 0 i) H ins.op = some (D.V i) := by
  have st := K.step i ins hi
  have hev := (st.pure hG hk).1
  have hlen : i < D.l.length := by
    rcases Nat.lt_or_ge i D.l.length with h | h
    · exact h
    · rw [List.getElem?_eq_none h] at hi; cases hi
  cases hr : ins.op.reads with
  | false =>
    exact ⟨Heap.empty, fun x b h => by simp [Heap.get, Heap.empty, Tr.get_nil] at h, by rw [← evPure_heap (h := D.C i) (h' := Heap.empty) hr]; exact hev⟩
  | true =>
    have hmay : mayStage D.bits D.effs i eo = true := by
      simp only [mayStage, Bool.and_eq_true, List.all_eq_true]
      constructor
      · intro x hx
        cases ha : anc D.bits x i with
        | false => rfl
        | true =>
          have := I.last x (N.anc x ha) ((K.effs x).1 hx)
          cases eo with
          | none => exact absurd this (Nat.not_lt_zero _)
          | some y => simp only [Bool.not_true, Bool.false_or]; exact Nat.ble_eq_true_of_le (Nat.le_of_lt_succ this)
      · cases he : eo with
        | none => rfl
        | some y =>
          have hy := (I.top y he).1
          simp only [Bool.and_eq_true, Bool.not_eq_true', beq_eq_false_iff_ne]
          refine ⟨?_, fun e => N.nl (e ▸ hy)⟩
          cases ha : anc D.bits i y with
          | false => rfl
          | true => exact (N.desc y hy ha).elim
    have hmem : eo ∈ none :: D.effs.map some := by
      cases he : eo with
      | none => simp
      | some y => simp [(K.effs y).2 (I.top y he).2]
    cases h1 : oneStage D.bits D.effs D.news i with
    | true =>
      simp only [oneStage, Bool.and_eq_true, List.all_eq_true] at h1
      have heo : eo = lastBelow D.effs i none := by
        have := h1.1 eo hmem
        simpa [hmay] using this
      obtain ⟨l1, _, l3⟩ := lastBelow_spec D.effs i none K.sorted (fun x q => by cases q) (fun x q => by cases q)
      rw [← heo] at l1 l3
      obtain ⟨_, hsub⟩ := I.sub_at K l3 (Nat.le_of_lt hlen) (fun j h1 h2 hj => by have := l1 j ((K.effs j).2 hj) h2; omega) (fun j j1 j2 hj => by
        have := h1.2 j ((K.news j).2 hj)
        have hb : Nat.blt j i = true := Nat.ble_eq_true_of_le j2
        have hbh : behind (lastBelow D.effs i none) j = true := by rw [← heo]; exact behind_iff.2 j1
        simp only [hb, hbh, Bool.and_self, Bool.not_true, Bool.false_or] at this
        exact N.anc j this)
      exact ⟨D.C i, hsub, hev⟩
    | false =>
      have hc : (eo, D.news.filter fun a => behind eo a && anc D.bits a i) ∈ ins.chk := by
        rw [hchk]
        simp only [chks, hr, h1, Bool.not_false, Bool.and_self, cond_true, List.mem_map, List.mem_filter]
        exact ⟨eo, ⟨hmem, hmay⟩, rfl⟩
      obtain ⟨H, hst, he⟩ := K.chk i ins hi hG _ hc
      have hH : H = D.C (start eo) := by
        cases heo : eo with
        | none => rw [heo] at hst; simp only [stage, Option.some.injEq] at hst; rw [← hst]; exact K.c0.symm
        | some y => rw [heo] at hst; simp only [stage] at hst; rw [K.ks y (I.top y heo).2] at hst; cases hst; rfl
      subst hH
      refine ⟨_, withNews_sub _ _ (I.sub_base K) (fun p hp x b hl => ?_), he⟩
      simp only [List.mem_filter, Bool.and_eq_true] at hp
      obtain ⟨p1, p2, p3⟩ := hp
      have hpl : p < D.l.length := by
        obtain ⟨q, hq, _⟩ := (K.news p).1 p1
        rcases Nat.lt_or_ge p D.l.length with h | h
        · exact h
        · rw [List.getElem?_eq_none h] at hq; cases hq
      rw [K.nw p hpl] at hl
      exact over_some ((I.spec x b).2 ⟨p, N.anc p p3, behind_iff.1 p2, hpl, hl⟩)

/-- One operation. -/
theorem DI.step (I : DI D L eo ι f a w) (N : Next D L i o) : OpTo D.P D.ops i o.dst a w (fun v w' => ∃ eo' ι' f', DI D (fun j => j = i ∨ L j) eo' ι' f' (a.put o.dst v) w') := by
  obtain ⟨dst, g, hi, hcd, hcg⟩ := K.inst i o N.o
  have hokx := K.okx i o _ N.o hi
  generalize hins : (⟨dst, cOp D.P D.slots (dsAt D.ops.toList i) o.op, g, chks D.bits D.effs D.news i (cOp D.P D.slots (dsAt D.ops.toList i) o.op)⟩ : Inst) = ins at hi hokx
  have hop : ins.op = cOp D.P D.slots (dsAt D.ops.toList i) o.op := by rw [← hins]
  have hgd : ins.guard = g := by rw [← hins]
  have hchk : ins.chk = chks D.bits D.effs D.news i ins.op := by rw [← hins]
  have st := K.step i ins hi
  have hlen : i < D.l.length := by
    rcases Nat.lt_or_ge i D.l.length with h | h
    · exact h
    · rw [List.getElem?_eq_none h] at hi; cases hi
  have hguard := st.guard
  rw [hgd] at hguard
  have hwant := I.wanted K N hcg hguard
  obtain ⟨loc', vals', hops, hcong⟩ := I.operands K N
  have hcong' : ∀ y ∈ ins.op.xs, y.eval D.loc (vseg D.V 0 i) = y.eval loc' vals' := fun y hy => hcong y (hokx y hy)
  have hlater := N.later K
  -- what an effect needs
  have heff : D.kd i .eff → ∀ (hs : start eo ≤ i), (∀ j, start eo ≤ j → j < i → ¬ D.kd j .eff) ∧ (∀ j, start eo ≤ j → j < i → D.kd j .new → L j) ∧ (∀ e, L e → D.kd e .eff → e < i) := by
    intro hk hs
    refine ⟨fun j j1 j2 hj => ?_, fun j j1 j2 hj => N.anc j (K.news_spec hj hk j2), fun e he hke => ?_⟩
    · have := I.last j (N.anc j (K.effs_spec hj hk j2)) hj; omega
    · rcases Nat.lt_trichotomy e i with h | h | h
      · exact h
      · subst h; exact absurd he N.nl
      · exact (N.desc e he (K.effs_spec hk hke h)).elim
  cases hG : D.G i with
  | false =>
    rw [hG] at hwant
    obtain ⟨hV, hW, hC⟩ := st.not hG
    have hv : AR ι (D.V i) undef := by rw [hV]; exact ⟨#[], rfl, trivial⟩
    refine OpTo.unwanted N.o hwant ?_
    by_cases hk : ins.op.kd = .eff
    · have hkd : D.kd i .eff := ⟨ins, hi, hk⟩
      have hs := Next.start_le I N (fun e hl he => K.effs_spec hkd he hl)
      obtain ⟨h1, h2, h3⟩ := heff hkd hs
      obtain ⟨hnext, hsub⟩ := I.sub_at K hs (Nat.le_of_lt hlen) h1 h2
      have hp : Post D.B ι (D.C i) w ι (D.C (i + 1)) w := by
        rw [hC]; exact Post.refl (I.rel.sub hsub) (fun x hx => I.fresh x (by omega))
      obtain ⟨f', I'⟩ := I.effect K N.o N.nl hlater hkd hW hs hlen h1 h2 h3 hp hv
      exact ⟨_, _, _, I'⟩
    · exact ⟨eo, ι, f, I.quiet K N.o N.nl hlater (fun ⟨q, hq, hqk⟩ => by rw [hi] at hq; cases hq; exact hk hqk) hW hv⟩
  | true =>
    rw [hG] at hwant
    cases hk : ins.op.kd with
    | pure =>
      obtain ⟨H, hsub, he⟩ := I.readable K N hi hchk hG hk
      obtain ⟨_, hW, _⟩ := st.pure hG hk
      rw [evPure_cong hcong'] at he
      have hc := cOp_some (P := D.P) (slots := D.slots) (ds := dsAt D.ops.toList i) (o := o.op) (by rw [← hop]; intro e; rw [e] at hk; cases hk)
      rw [← hop] at hc
      obtain ⟨u, hu, hur⟩ := pure_sound (P := D.P) (o := o) hops (I.rel.sub hsub) hc hk he
      exact OpTo.value N.o hwant hu ⟨eo, ι, f, I.quiet K N.o N.nl hlater (fun ⟨q, hq, hqk⟩ => by rw [hi] at hq; cases hq; rw [hk] at hqk; cases hqk) hW hur⟩
    | new =>
      have hkd : D.kd i .new := ⟨ins, hi, hk⟩
      obtain ⟨fn, b, he, hV, hW, _⟩ := st.new hG hk
      rw [evNew_cong hcong'] at he
      have hc := cOp_some (P := D.P) (slots := D.slots) (ds := dsAt D.ops.toList i) (o := o.op) (by rw [← hop]; intro e; rw [e] at hk; cases hk)
      rw [← hop] at hc
      obtain ⟨u, w', hu, hn⟩ := new_sound (P := D.P) (o := o) hops I.rel.base hc hk he
      have hs := Next.start_le I N (fun e hl he => K.news_spec hkd he hl)
      obtain ⟨ι', f', I'⟩ := I.made K N.o N.nl hlater hkd hW hs hV hn
      exact OpTo.value N.o hwant hu ⟨eo, ι', f', I'⟩
    | eff =>
      have hkd : D.kd i .eff := ⟨ins, hi, hk⟩
      obtain ⟨he, hW⟩ := st.eff hG hk
      rw [evEff_cong hcong'] at he
      have hc := cOp_some (P := D.P) (slots := D.slots) (ds := dsAt D.ops.toList i) (o := o.op) (by rw [← hop]; intro e; rw [e] at he; simp [evEff] at he)
      rw [← hop] at hc
      have hs := Next.start_le I N (fun e hl he => K.effs_spec hkd he hl)
      obtain ⟨h1, h2, h3⟩ := heff hkd hs
      obtain ⟨hnext, hsub⟩ := I.sub_at K hs (Nat.le_of_lt hlen) h1 h2
      refine (eff_sound (P := D.P) K.hcall hops (I.rel.sub hsub) (fun x hx => I.fresh x (by omega)) N.o hwant hc hk he).mono ?_
      rintro v w' ⟨ι', hv, hp⟩
      obtain ⟨f', I'⟩ := I.effect K N.o N.nl hlater hkd hW hs hlen h1 h2 h3 hp hv
      exact ⟨_, _, _, I'⟩
end
end Lav
