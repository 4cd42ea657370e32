/-
  Append and copy.
-/
import Derived.Test.YtdilhnnbfkiacaaFw9
import Derived.Deep.AppendSrc
import Derived.Deep.Upon
namespace Lav
open Go

section
variable {P : Program} {slots : List Nat} {ds : List (Option Nat)} {loc vals : List AV} {ρ : Operand → Value} {ι : Inj} {B : Nat} {h : Heap} {w : World}

theorem AR.new_id {f : Nat → AV} {i : Nat} {x : Nat × Nat × Nat} {v : Value} (h : AR (ι.put i x) (f i) v) : AR (ι.put i x) (f i) v := h

/-- A new block's operation on the evaluator's heap. -/
theorem NewOK.post {f : Nat → AV} {k : Blk} {v : Value} {w' : World} (hn : NewOK B ι w f k v w') (hr : HR B ι h.get w) (hf : ∀ i, h.next ≤ i → ι i = none) :
    ∃ ι', AR ι' (f h.next) v ∧ Post B ι h w ι' (h.new k) w' := by
  obtain ⟨lim, ⟨r1, r2, r3, r4, r5⟩, hro, hall⟩ := hn
  obtain ⟨ha, hb⟩ := hall h.next (hf _ (Nat.le_refl _))
  have hle : Le ι (ι.put h.next (w.heap.size, 0, lim)) := Inj.put_le (hf _ (Nat.le_refl _))
  have hoth : ∀ x, x ≠ w.heap.size → x < w.heap.size → w'.heap[x]? = w.heap[x]? := fun x _ hx => r5 x hx
  refine ⟨_, ha, by simp [Heap.new], fun i hi => Inj.put_ne (by omega), fun i hi hn' => ?_, ?_, fun i hi => ?_, ?_⟩
  · rw [Heap.get_new]; simp [upd, hn']; omega
  · rw [Heap.get_new]
    refine hr.set hle Inj.put_at hb hro r4 hoth ?_
    intro j kj hj hg _ b' x y e
    obtain ⟨b'', x', y', e', hb'⟩ := hr.at_ j kj hg
    rw [e'] at e; simp only [Option.some.injEq, Prod.mk.injEq] at e
    have := hb'.lt; omega
  · have : h.next + 1 ≤ i := by simpa [Heap.new] using hi
    rw [Inj.put_ne (by omega)]; exact hf i (by omega)
  · rw [Heap.get_new]
    exact Fr.set hr hle Inj.put_at r4 hoth r1 r2 r3 (.inr (Nat.le_refl _))

theorem src_of (hr : HR B ι h.get w) {sz n : Nat} {tx : TypeId} {a : AV} {v : Value} {l : List CV} (hs : source h sz a = some (n, l)) (ha : AR ι a v) (hk : sourceOk P sz tx = true) :
    ∃ vs : List Value, Src P sz tx v n vs w ∧ All2 (CR ι) l vs := by
  obtain ⟨h1, h2, h3⟩ := source_sound (P := P) hr hs ha
  obtain ⟨vs, h4, h5⟩ := h3 n (Nat.le_refl _)
  rw [← h2, List.take_length] at h5
  have hlen : ∀ w' : World, (Builtin.lenOf v).run P w' = .ok n w' := by
    intro w'
    cases v <;> simp [Builtin.lenOf] at h1 ⊢ <;> exact h1
  refine ⟨vs, ⟨?_, hlen, h4 w rfl, h4 w.drew rfl, by rw [← h5.length, h2], h5.ones⟩, h5⟩
  unfold sourceOk at hk
  split at hk
  · rename_i e hu; exact .inl ⟨e, hu⟩
  · rename_i hu; exact .inr hu
  · cases hk

theorem info_of {e sz b : Nat} {z : List CV} (h1 : tSize P e = some sz) (h2 : tBytes P e = some b) (h3 : tZeros P e = some z) (h4 : z.length = sz) :
    ∃ i zv, P.info? e = some i ∧ i.size = sz ∧ i.bytes = b ∧ i.zero = some zv ∧ zv.cells.size = sz := by
  obtain ⟨i, zv, hi, hz, hr⟩ := tZeros_inv h3
  refine ⟨i, zv, hi, ?_, ?_, hz, ?_⟩
  · unfold tSize at h1; rw [hi] at h1; simpa using h1
  · unfold tBytes at h2; rw [hi] at h2; simpa using h2
  · have := (hr (fun _ => none)).length
    simp at this; omega

/-- The road without room: a new block. -/
theorem grow_sound (hr : HR B ι h.get w) (hf : ∀ i, h.next ≤ i → ι i = none) {t tx ty e sz b n sLen sCap : Nat} {z : List CV} {base : Option Addr} {x : Value} {olds news : List Value} {lo ln : List CV}
    (ht : P.underlying t = some (.slice e)) (h1 : tSize P e = some sz) (h2 : tBytes P e = some b) (h3 : tZeros P e = some z) (h4 : z.length = sz) (hb : b ≤ 1024)
    (hold : (Builtin.firstCells sz sLen (.slice base sLen sCap)).run P w.drew = .ok olds.toArray w.drew) (hlo : All2 (CR ι) lo olds) (hlol : lo.length = sLen * sz)
    (hs : Src P sz tx x n news w) (hln : All2 (CR ι) ln news) (hg : sCap < sLen + n) (hsmall : sLen + n ≤ 1073741824) :
    ∃ v w' ι', (Builtin.append_ #[t, tx] ty #[.slice base sLen sCap, x]).run P w = .ok v w' ∧ CR ι' (.sl h.next 0 (sLen + n) (.dy sz)) v ∧ Post B ι h w ι' (h.new (.cells (lo ++ ln))) w' := by
  obtain ⟨i, zv, hi, e1, e2, hz, e3⟩ := info_of h1 h2 h3 h4
  subst e1; subst e2
  have hfit : Builtin.nextslicecap (sLen + n) sCap * i.bytes ≤ 281474976710656 := by
    have := nextslicecap_le hg
    exact Nat.le_trans (Nat.mul_le_mul (by omega : _ ≤ 2147484648) hb) (by decide)
  have hrun := run_append_grow_src (P := P) w t tx ty e i zv ht hi hz base sLen sCap olds hold x n news hs hg (by omega) hfit
  have hcap := grownCap_ge w (sLen + n) sCap e
  let cap := grownCap w (sLen + n) sCap e
  let cs : Array Value := (olds ++ news).toArray ++ Builtin.zeroCells zv.cells (cap - (sLen + n))
  have hsize : cs.size = cap * i.size := by
    have ho : olds.length = sLen * i.size := by rw [← hlo.length, hlol]
    have hn := hs.newsLen
    show ((olds ++ news).toArray ++ Builtin.zeroCells zv.cells (cap - (sLen + n))).size = _
    rw [Array.size_append, Builtin.zeroCells, Array.size_map, Array.size_range, e3]
    rw [List.size_toArray, List.length_append, ho, hn, ← Nat.add_mul, ← Nat.add_mul]
    congr 1
    show sLen + n + (cap - (sLen + n)) = cap
    have : sLen + n ≤ cap := hcap
    omega
  have hnew : NewOK B ι w (fun j => .c (.sl j 0 (sLen + n) (.dy i.size))) (.cells (lo ++ ln)) (.slice (some ⟨w.heap.size, 0, none⟩) (sLen + n) cap) (w.drew.alloc (.cells cs e)) := by
    refine ⟨cs.size, plus_rest w (w.drawn + 1) (.cells cs e), rfl, fun j hj => ⟨?_, ?_⟩⟩
    · refine ⟨w.heap.size, 0, _, _, cap, Inj.put_at, rfl, hcap, fun _ => by simp, ?_⟩
      show 0 + cap * i.size ≤ cs.size
      omega
    · have hall := hlo.append hln
      refine ⟨hr.base, cs, e, (0, 0), plus_at (w := w) (w.drawn + 1) _, by simp, ?_, .inl rfl, fun k y hy => ?_⟩
      · rw [hall.length, hsize]
        have ho : olds.length = sLen * i.size := by rw [← hlo.length, hlol]
        rw [List.length_append, ho, hs.newsLen, ← Nat.add_mul]
        exact Nat.mul_le_mul_right _ hcap
      · obtain ⟨v, hv, hc⟩ := hall.get _ _ hy
        refine ⟨v, ?_, hc.mono (Inj.put_le hj)⟩
        have hk : k < (olds ++ news).length := by
          rcases Nat.lt_or_ge k (olds ++ news).length with h' | h'
          · exact h'
          · rw [List.getElem?_eq_none h'] at hv; cases hv
        show cs[0 + k]? = some v
        rw [Nat.zero_add]
        show ((olds ++ news).toArray ++ Builtin.zeroCells zv.cells (cap - (sLen + n)))[k]? = some v
        rw [Array.getElem?_append_left (by simpa using hk)]
        simpa using hv
  obtain ⟨ι', ha, hp⟩ := hnew.post hr hf
  exact ⟨_, _, ι', hrun, ha, hp⟩

theorem Post.weaken {h' h'' : Heap} {ι' : Inj} {w' : World} (p : Post B ι h w ι' h' w') (hs : Sub h''.get h'.get) (hn : h''.next = h'.next) : Post B ι h w ι' h'' w' := by
  refine ⟨by rw [hn]; exact p.next, p.same, fun i hi hg => ?_, p.rel.sub hs, by rw [hn]; exact p.fresh, ?_⟩
  · cases hx : h''.get i with
    | none => rfl
    | some k => have := hs i k hx; rw [p.dead i hi hg] at this; cases this
  · exact ⟨p.fr.os, p.fr.output, p.fr.tape, p.fr.size, p.fr.keep, fun b hb => p.fr.own b (hb.sub hs)⟩

theorem app_sound (hr : HR B ι h.get w) (hf : ∀ i, h.next ≤ i → ι i = none) {t tx ty : TypeId} {p : Nat × Nat} {a b r : AV} {s x : Value} {h' : Heap} (hel : elemOf P t = some p) (hk : sourceOk P p.1 tx = true) (ha : AR ι a s) (hb : AR ι b x)
    (he : evApp h p.1 a b = some (r, h')) : ∃ v w' ι', (Builtin.append_ #[t, tx] ty #[s, x]).run P w = .ok v w' ∧ AR ι' r v ∧ Post B ι h w ι' h' w' := by
  obtain ⟨e, z, ht, h1, h2, h3, h4, h5, h6, h7⟩ := elemOf_inv hel
  obtain ⟨i, zv, hi, e1, e2, hz, e3⟩ := info_of h1 h2 h3 h4
  unfold evApp at he
  split at he
  · cases he
  · rename_i n new hsrc
    obtain ⟨vs, hs, hvs⟩ := src_of (P := P) hr hsrc hb hk
    have nothing : ∀ (base : Option Addr) (sLen sCap : Nat), n = 0 → sLen ≤ sCap → (Builtin.append_ #[t, tx] ty #[.slice base sLen sCap, x]).run P w = .ok (.slice base sLen sCap) w := by
      intro base sLen sCap h0 hle
      subst h0
      have : vs = [] := List.eq_nil_of_length_eq_zero (by rw [hs.newsLen]; simp)
      subst this
      rw [← e1] at hs
      exact run_append_nothing (P := P) w t tx ty e i ht hi base sLen sCap hle x hs
    split at he
    · simp only [AR, CR] at ha; subst ha
      split at he
      · simp only [Option.some.injEq, Prod.mk.injEq] at he
        obtain ⟨rfl, rfl⟩ := he
        exact ⟨_, w, ι, nothing none 0 0 rfl (Nat.le_refl _), rfl, Post.refl hr hf⟩
      · rename_i m
        cases hc : Nat.ble (m + 1) 1073741824 with
        | false => rw [hc] at he; cases he
        | true =>
          rw [hc] at he; simp only [cond_true, Option.some.injEq, Prod.mk.injEq] at he
          obtain ⟨rfl, rfl⟩ := he
          have hc' := Nat.le_of_ble_eq_true hc
          obtain ⟨v, w', ι', q1, q2, q3⟩ := grow_sound (P := P) (ty := ty) hr hf (olds := []) (lo := []) (base := none) (sLen := 0) (sCap := 0) ht h1 h2 h3 h4 h7 rfl trivial (by simp) hs hvs (by omega) (by omega)
          have q2' : CR ι' (.sl h.next 0 (m + 1) (.dy p.1)) v := by simpa using q2
          exact ⟨v, w', ι', q1, q2', by simpa using q3⟩
    · rename_i i0 o len c
      obtain ⟨bb, base, lim, ad, cap, hi0, rfl, hlc, had, hcap⟩ := ha
      split at he
      · simp only [Option.some.injEq, Prod.mk.injEq] at he
        obtain ⟨rfl, rfl⟩ := he
        exact ⟨_, w, ι, nothing (some ad) len cap rfl hlc, ⟨bb, base, lim, ad, cap, hi0, rfl, hlc, had, hcap⟩, Post.refl hr hf⟩
      · rename_i m
        cases hc : Nat.ble (len + (m + 1)) 1073741824 with
        | false => rw [hc] at he; cases he
        | true =>
          rw [hc] at he; simp only [cond_true] at he
          have hc' := Nat.le_of_ble_eq_true hc
          split at he
          · rename_i k
            have hk' : cap = k := hcap
            subst hk'
            cases hroom : Nat.ble (len + (m + 1)) cap with
            | true =>
              rw [hroom] at he; simp only [cond_true] at he
              have hroom' := Nat.le_of_ble_eq_true hroom
              split at he
              · rename_i h1' hw
                simp only [Option.some.injEq, Prod.mk.injEq] at he
                obtain ⟨rfl, rfl⟩ := he
                obtain ⟨w', s1, s2⟩ := write_sound (P := P) hr hf hw hi0 hvs
                refine ⟨.slice (some ad) (len + (m + 1)) cap, w', ι, ?_, ⟨bb, base, lim, ad, cap, hi0, rfl, hroom', had, rfl⟩, s2⟩
                obtain ⟨l0, l1, hg, hp, _⟩ := write_inv hw
                obtain ⟨p1, _⟩ := patch_spec hp
                obtain ⟨b', base', lim', hi', hB, c, e', fz, hbk, hlim, hll, hfz, hcells⟩ := hr.at_ _ _ hg
                rw [hi0] at hi'; simp only [Option.some.injEq, Prod.mk.injEq] at hi'
                obtain ⟨rfl, rfl, rfl⟩ := hi'
                have hvl : new.length = vs.length := hvs.length
                rw [had (by omega)]
                rw [← e1] at hs
                have hst := store_cells (P := P) (off := base + (o + len * p.1)) (vs := vs) hbk hfz (by omega) hs.one
                rw [s1] at hst
                simp only [Result.ok.injEq, true_and] at hst
                have hcell : ∀ j, j < vs.length → (w.cell? ⟨bb, base + o + len * i.size + j, none⟩).isSome = true := fun j hj => by
                  have : base + o + len * i.size + j < c.size := by rw [e1]; omega
                  simp only [World.cell?, hbk, Option.isSome_none, Bool.false_eq_true, if_false]
                  simp [this]
                have hfr : ∀ j, j < vs.length → w.frozen? ⟨bb, base + o + len * i.size + j, none⟩ = false := fun j hj => by
                  have : base + o + len * i.size + j < c.size := by rw [e1]; omega
                  obtain ⟨lo', hi'⟩ := fz
                  simp only [World.frozen?, hbk]
                  simp only at hfz
                  rcases hfz with h' | h'
                  · subst h'
                    cases hd : decide (lo' ≤ base + o + len * i.size + j) with
                    | false => rfl
                    | true => simp at hd ⊢; omega
                  · simp; omega
                have := run_append_room_src (P := P) w t tx ty e i ht hi bb (base + o) len cap x (m + 1) vs hs hroom' hcell hfr
                rw [this, hst, e1, Nat.add_assoc]
              · cases he
            | false =>
              rw [hroom] at he; simp only [cond_false] at he
              have hroom' : cap < len + (m + 1) := by
                rcases Nat.lt_or_ge cap (len + (m + 1)) with h' | h'
                · exact h'
                · rw [Nat.ble_eq_true_of_le h'] at hroom; cases hroom
              split at he
              · rename_i old hold
                simp only [Option.some.injEq, Prod.mk.injEq] at he
                obtain ⟨rfl, rfl⟩ := he
                have hsrc0 : source h p.1 (.c (.sl i0 o len (.ex cap))) = some (len, old) := by simp only [source, hold]
                obtain ⟨olds, hso, hvo⟩ := src_of (P := P) hr hsrc0 (show AR ι (.c (.sl i0 o len (.ex cap))) (.slice (some ad) len cap) from ⟨bb, base, lim, ad, cap, hi0, rfl, hlc, had, rfl⟩) (tx := t) (by simp [sourceOk, ht, h1])
                have hol : old.length = len * p.1 := by rw [hvo.length, hso.newsLen]
                exact grow_sound (P := P) (ty := ty) hr hf ht h1 h2 h3 h4 h7 hso.cellsD hvo hol hs hvs hroom' hc'
              · cases he
          · rename_i sz'
            split at he
            · rename_i l hg
              cases hcd : (p.1 == sz' && o + len * p.1 == l.length) with
              | false => rw [hcd] at he; cases he
              | true =>
                rw [hcd] at he; simp only [cond_true, Option.some.injEq, Prod.mk.injEq] at he
                obtain ⟨rfl, rfl⟩ := he
                simp only [Bool.and_eq_true, beq_iff_eq] at hcd
                obtain ⟨hsz', hend⟩ := hcd
                subst hsz'
                have hcap' : o + cap * p.1 ≤ lim := hcap
                obtain ⟨b', base', lim', hi', hB, c, e', fz, hbk, hlim, hll, hfz, hcells⟩ := hr.at_ _ _ hg
                rw [hi0] at hi'; simp only [Option.some.injEq, Prod.mk.injEq] at hi'
                obtain ⟨rfl, rfl, rfl⟩ := hi'
                have hvl : new.length = vs.length := hvs.length
                have hvn : vs.length = (m + 1) * p.1 := hs.newsLen
                have hpos : 0 < p.1 := Nat.pos_of_ne_zero h5
                rcases Nat.lt_or_ge cap (len + (m + 1)) with hroom | hroom
                · have hold : h.read i0 o (len * p.1) = some (l.drop o) := by
                    simp only [Heap.read, hg, cut]
                    rw [Nat.ble_eq_true_of_le (by omega)]
                    simp only [cond_true, Option.some.injEq]
                    exact List.take_of_length_le (by rw [List.length_drop]; omega)
                  have hsrc0 : source h p.1 (.c (.sl i0 o len (.dy p.1))) = some (len, l.drop o) := by simp only [source, hold]
                  obtain ⟨olds, hso, hvo⟩ := src_of (P := P) hr hsrc0 (show AR ι (.c (.sl i0 o len (.dy p.1))) (.slice (some ad) len cap) from ⟨bb, base, lim, ad, cap, hi0, rfl, hlc, had, hcap⟩) (tx := t) (by simp [sourceOk, ht, h1])
                  have hol : (l.drop o).length = len * p.1 := by rw [hvo.length, hso.newsLen]
                  obtain ⟨v, w', ι', q1, q2, q3⟩ := grow_sound (P := P) (ty := ty) hr hf ht h1 h2 h3 h4 h7 hso.cellsD hvo hol hs hvs hroom hc'
                  refine ⟨v, w', ι', q1, q2, q3.weaken ?_ rfl⟩
                  intro j kj hj
                  rw [Heap.get_new, Heap.get_kill] at hj
                  rw [Heap.get_new]
                  by_cases ej : j = h.next
                  · subst ej; simpa [upd, Heap.kill] using hj
                  · have ej' : j ≠ (h.kill i0).next := ej
                    simp only [upd, ej', if_false] at hj
                    simp only [upd, ej, if_false]
                    split at hj
                    · cases hj
                    · exact hj
                · have hcapz : cap ≠ 0 := by omega
                  have hmul : (len + (m + 1)) * p.1 ≤ cap * p.1 := Nat.mul_le_mul_right _ hroom
                  rw [Nat.add_mul] at hmul
                  have hle : base + (o + len * p.1) + vs.length ≤ c.size := by omega
                  obtain ⟨c', q1, q2, q3, q4, q5, q6, q7, q8⟩ := setCells_heap bb vs (base + (o + len * p.1)) w c e' fz hbk hle
                  have hcell : ∀ j, j < vs.length → (w.cell? ⟨bb, base + o + len * i.size + j, none⟩).isSome = true := fun j hj => by
                    have : base + o + len * i.size + j < c.size := by rw [e1]; omega
                    simp only [World.cell?, hbk, Option.isSome_none, Bool.false_eq_true, if_false]
                    simp [this]
                  have hfr : ∀ j, j < vs.length → w.frozen? ⟨bb, base + o + len * i.size + j, none⟩ = false := fun j hj => by
                    have : base + o + len * i.size + j < c.size := by rw [e1]; omega
                    obtain ⟨lo', hi'⟩ := fz
                    simp only [World.frozen?, hbk]
                    simp only at hfz
                    rcases hfz with h' | h'
                    · subst h'
                      cases hd : decide (lo' ≤ base + o + len * i.size + j) with
                      | false => rfl
                      | true => simp at hd ⊢; omega
                    · simp; omega
                  have hs' := hs
                  rw [← e1] at hs'
                  have hrun := run_append_room_src (P := P) w t tx ty e i ht hi bb (base + o) len cap x (m + 1) vs hs' hroom hcell hfr
                  have hle' : Le ι (ι.put h.next (bb, base + o, lim - o)) := Inj.put_le (hf _ (Nat.le_refl _))
                  have hoff : base + o + len * i.size = base + (o + len * p.1) := by rw [e1]; omega
                  refine ⟨.slice (some ⟨bb, base + o, none⟩) (len + (m + 1)) cap, w.setCells bb (base + (o + len * p.1)) vs, ι.put h.next (bb, base + o, lim - o), ?_, ?_, ?_⟩
                  · rw [had hcapz, hrun, hoff]
                  · exact ⟨bb, base + o, lim - o, _, cap, Inj.put_at, rfl, hroom, fun _ => by simp, by show 0 + cap * p.1 ≤ lim - o; omega⟩
                  · refine Post.take hr hf hg rfl rfl hi0 ?_ (by rw [q5]; exact Nat.le_refl _) (fun x hx _ => q4 x hx) q6 q7 q8
                    refine ⟨hB, c', e', fz, q1, by omega, by rw [List.length_append, List.length_drop]; omega, by rw [q2]; exact hfz, fun j y hy => ?_⟩
                    rw [q3]
                    by_cases hj : j < (l.drop o).length
                    · rw [List.getElem?_append_left hj, List.getElem?_drop] at hy
                      rw [List.length_drop] at hj
                      rw [if_neg (by omega)]
                      obtain ⟨v, hv, hcr⟩ := hcells _ _ hy
                      exact ⟨v, by rw [Nat.add_assoc]; exact hv, hcr.mono hle'⟩
                    · rw [List.getElem?_append_right (by omega)] at hy
                      rw [List.length_drop] at hj hy
                      obtain ⟨v, hv, hcr⟩ := hvs.get _ _ hy
                      have hjl : j - (l.length - o) < vs.length := by
                        rcases Nat.lt_or_ge (j - (l.length - o)) vs.length with h' | h'
                        · exact h'
                        · rw [List.getElem?_eq_none h'] at hv; cases hv
                      rw [if_pos (by omega)]
                      refine ⟨v, ?_, hcr.mono hle'⟩
                      rw [show base + o + j - (base + (o + len * p.1)) = j - (l.length - o) by omega]
                      exact hv
            · cases he
          
    · cases he

theorem copy_sound (hr : HR B ι h.get w) (hf : ∀ i, h.next ≤ i → ι i = none) {t tx ty : TypeId} {p : Nat × Nat} {a b r : AV} {d x : Value} {h' : Heap} (hel : elemOf P t = some p) (ha : AR ι a d) (hb : AR ι b x)
    (he : evCopy h p.1 a b = some (r, h')) : ∃ v w' ι', (Builtin.copy_ #[t, tx] ty #[d, x]).run P w = .ok v w' ∧ AR ι' r v ∧ Post B ι h w ι' h' w' := by
  obtain ⟨e, z, ht, h1, h2, h3, h4, h5, h6, h7⟩ := elemOf_inv hel
  unfold evCopy at he
  split at he
  · cases he
  · rename_i n new hsrc
    obtain ⟨hlen, hnl, hcells⟩ := source_sound (P := P) hr hsrc hb
    split at he
    · simp only [AR, CR] at ha; subst ha
      simp only [Option.some.injEq, Prod.mk.injEq] at he
      obtain ⟨rfl, rfl⟩ := he
      obtain ⟨vs, hv, hvs⟩ := hcells 0 (Nat.zero_le _)
      refine ⟨goInt (0 : Nat), w, ι, ?_, rfl, Post.refl hr hf⟩
      simp [Builtin.copy_, run_underlying ht, hlen, run_size h1, hv w rfl]
    · rename_i i0 o len c
      obtain ⟨bb, base, lim, ad, cap, hi0, rfl, hlc, had, hcap⟩ := ha
      split at he
      · rename_i h1' hw
        simp only [Option.some.injEq, Prod.mk.injEq] at he
        obtain ⟨rfl, rfl⟩ := he
        obtain ⟨vs, hv, hvs⟩ := hcells (min n len) (Nat.min_le_left _ _)
        obtain ⟨w', s1, s2⟩ := write_sound (P := P) hr hf hw hi0 hvs
        refine ⟨goInt (min n len : Nat), w', ι, ?_, rfl, s2⟩
        have hm : Nat.min n len = min n len := rfl
        by_cases h0 : cap = 0
        · have hl0 : len = 0 := by omega
          subst hl0
          have hvs0 : vs = [] := by
            apply List.eq_nil_of_length_eq_zero
            rw [← hvs.length]; simp
          subst hvs0
          have hw' : w' = w := by
            have e0 : (storeCells ⟨bb, base + o, none⟩ []).run P w = .ok () w := rfl
            rw [e0] at s1; simpa using s1.symm
          subst hw'
          have hv0 := hv _ rfl
          simp only [Nat.min_zero] at hv0
          have hm0 : Nat.min n 0 = 0 := Nat.min_zero n
          simp [Builtin.copy_, run_underlying ht, hlen, hm0, run_size h1, hv0, storeCells]
        · rw [had h0]
          have hvw := hv w rfl
          simp [Builtin.copy_, run_underlying ht, hlen, hm, run_size h1, hvw, s1]
      · cases he
    · cases he
end
end Lav
