/-
  One operation as steps of the machine: values, calls, communications.
-/
import Derived.Test.YtdilhnnbfkiacaaFwA
import Derived.Conc.LoneSelectN
namespace Lav
open Go Go.Conc

/-- The operation number i is carried out: what it yields is written, and the region goes on. -/
def OpTo (P : Program) (ops : Array Oper) (i : Nat) (dst : Option Tmp) (a : Act) (w : World) (R : Value → World → Prop) : Prop :=
  ∀ (b : Frame) (rest : List Nat) (k : List Item) (cs : List Frame), b.kind = .normal → ∃ v w', R v w' ∧
    Steps P (lone (b.at a (.inRegion ops (i :: rest) :: k)) cs w) (lone (b.at (a.put dst v) (.inRegion ops rest :: k)) cs w')

section
variable {P : Program} {ops : Array Oper} {i : Nat} {o : Oper} {a : Act} {w : World} {R : Value → World → Prop}

theorem OpTo.mono {R' : Value → World → Prop} {dst : Option Tmp} (h : OpTo P ops i dst a w R) (hr : ∀ v w, R v w → R' v w) : OpTo P ops i dst a w R' :=
  fun b rest k cs hk => let ⟨v, w', r, s⟩ := h b rest k cs hk; ⟨v, w', hr _ _ r, s⟩

theorem finish_op (ho : ops[i]? = some o) (b : Frame) (rest : List Nat) (k : List Item) (v : Value) : (b.at a (.inRegion ops (i :: rest) :: k)).finish v = b.at (a.put o.dst v) (.inRegion ops rest :: k) := by
  rw [Frame.finish_at, ho]; rfl

theorem OpTo.value (ho : ops[i]? = some o) (hw : Region.wanted o (yielded ops a.tmps) = true) {v : Value} {w' : World} (hr : (execOp a.eval o).run P w = .ok (.value v) w') (h : R v w') : OpTo P ops i o.dst a w R := by
  intro b rest k cs _
  refine ⟨v, w', h, .one (step_lone_go ?_)⟩
  have hg := stepG_op (P := P) (b := b) (k := k) (cs := cs) (w := w) (rest := rest) ho hw
  rw [hg, ← finish_op ho]; simp [stepG.apply, hr]

theorem OpTo.skip (ho : ops[i]? = some o) (hw : Region.wanted o (yielded ops a.tmps) = true) {w' : World} (hr : (execOp a.eval o).run P w = .ok .skip w') (h : R undef w') : OpTo P ops i o.dst a w R := by
  intro b rest k cs _
  refine ⟨undef, w', h, .one (step_lone_go ?_)⟩
  have hg := stepG_op (P := P) (b := b) (k := k) (cs := cs) (w := w) (rest := rest) ho hw
  rw [hg, ← finish_op ho]; simp [stepG.apply, hr]

theorem OpTo.call (ho : ops[i]? = some o) (hw : Region.wanted o (yielded ops a.tmps) = true) {f : FuncId} {args : Array Value} {w' : World} (hr : (execOp a.eval o).run P w = .ok (.enter f args) w')
    (h : Calls P f args w' fun e w'' => ∃ v, e = .returned v ∧ R v w'') : OpTo P ops i o.dst a w R := by
  intro b rest k cs _
  obtain ⟨e, w'', fr, ⟨v, rfl, hR⟩, hsteps, _, hleave⟩ := h (b.at a (.inRegion ops (i :: rest) :: k) :: cs)
  have hg := stepG_op (P := P) (b := b) (k := k) (cs := cs) (w := w) (rest := rest) ho hw
  have henter : step P (lone (b.at a (.inRegion ops (i :: rest) :: k)) cs w) =
      .next (lone (Frame.enter P f args .normal) (b.at a (.inRegion ops (i :: rest) :: k) :: cs) w') :=
    step_lone_go (by rw [hg]; simp [stepG.apply, hr, Frame.at])
  refine ⟨v, w'', hR, .head henter (Steps.trans hsteps (.one ?_))⟩
  rw [← finish_op ho]; exact step_leave_returned hleave

theorem OpTo.unwanted (ho : ops[i]? = some o) (hw : Region.wanted o (yielded ops a.tmps) = false) (h : R undef w) : OpTo P ops i o.dst a w R := by
  intro b rest k cs _
  refine ⟨undef, w, h, .one ?_⟩
  have := step_op_skip (P := P) (b := b) (a := a) (k := k) (cs := cs) (w := w) (ops := ops) (i := i) (rest := rest) (by simp [ho, hw])
  simpa [ho] using this

/-! ### Communications -/
variable {c cap s r : Nat} {buf : Array Value} {v z : Value} {w' : World}

theorem OpTo.recv_none (ho : ops[i]? = some o) (hw : Region.wanted o (yielded ops a.tmps) = true) (hr : (execOp a.eval o).run P w = .ok (.comm #[rcase c z] false .select) w')
    (hc : w'.heap[c]? = some (.chan cap #[] false s r false)) (h : R (.tuple #[goInt (-1), .bool false, z]) w') : OpTo P ops i o.dst a w R := by
  intro b rest k cs hk
  have hg := stepG_comm (P := P) (main := true) (b := b) (a := a) (k := k) (cs := cs) (rest := rest) ho hw (by rw [hk]; simp) hr
  refine ⟨_, w', h, .one ?_⟩
  rw [lone_eq_solo, step_lone_select_default hg hc, finish_op ho]; rfl

theorem OpTo.recv_some (ho : ops[i]? = some o) (hw : Region.wanted o (yielded ops a.tmps) = true) (hr : (execOp a.eval o).run P w = .ok (.comm #[rcase c z] false .select) w')
    (hc : w'.heap[c]? = some (.chan cap buf false s r false)) (hb : 0 < buf.size) (h : R (.tuple #[goInt 0, .bool true, buf.getD 0 undef]) (w'.setChan c cap (buf.extract 1 buf.size) false s (r + 1) false)) : OpTo P ops i o.dst a w R := by
  intro b rest k cs hk
  have hg := stepG_comm (P := P) (main := true) (b := b) (a := a) (k := k) (cs := cs) (rest := rest) ho hw (by rw [hk]; simp) hr
  refine ⟨_, _, h, .one ?_⟩
  rw [lone_eq_solo, step_lone_select_recv_buf hg hc hb, finish_op ho]; rfl

theorem OpTo.send_room (ho : ops[i]? = some o) (hw : Region.wanted o (yielded ops a.tmps) = true) (hr : (execOp a.eval o).run P w = .ok (.comm #[scase c v z] false .select) w')
    (hc : w'.heap[c]? = some (.chan cap buf false s r false)) (hb : buf.size < cap) (h : R (.tuple #[goInt 0, .bool false]) (w'.setChan c cap (buf.push v) false (s + 1) r false)) : OpTo P ops i o.dst a w R := by
  intro b rest k cs hk
  have hg := stepG_comm (P := P) (main := true) (b := b) (a := a) (k := k) (cs := cs) (rest := rest) ho hw (by rw [hk]; simp) hr
  refine ⟨_, _, h, .one ?_⟩
  rw [lone_eq_solo, step_lone_select_send_room hg hc hb, finish_op ho]; rfl

theorem OpTo.send_full (ho : ops[i]? = some o) (hw : Region.wanted o (yielded ops a.tmps) = true) (hr : (execOp a.eval o).run P w = .ok (.comm #[scase c v z] false .select) w')
    (hc : w'.heap[c]? = some (.chan cap buf false s r false)) (hb : cap ≤ buf.size) (h : R (.tuple #[goInt (-1), .bool false]) w') : OpTo P ops i o.dst a w R := by
  intro b rest k cs hk
  have hg := stepG_comm (P := P) (main := true) (b := b) (a := a) (k := k) (cs := cs) (rest := rest) ho hw (by rw [hk]; simp) hr
  refine ⟨_, _, h, .one ?_⟩
  rw [lone_eq_solo, step_lone_select_send_full hg hc hb, finish_op ho]; rfl

theorem OpTo.send_plain (ho : ops[i]? = some o) (hw : Region.wanted o (yielded ops a.tmps) = true) (hr : (execOp a.eval o).run P w = .ok (.comm #[scase c v z] true .send) w')
    (hc : w'.heap[c]? = some (.chan cap buf false s r false)) (hb : buf.size < cap) (h : R undef (w'.setChan c cap (buf.push v) false (s + 1) r false)) : OpTo P ops i o.dst a w R := by
  intro b rest k cs hk
  have hg := stepG_comm (P := P) (main := true) (b := b) (a := a) (k := k) (cs := cs) (rest := rest) ho hw (by rw [hk]; simp) hr
  refine ⟨_, _, h, .one ?_⟩
  rw [lone_eq_solo, step_lone_send_room hg hc hb, finish_op ho]; rfl
end

/-! ### Operations that write, as steps -/
section
variable {P : Program} {slots : List Nat} {ds : List (Option Nat)} {loc vals : List AV} {ι : Inj} {B : Nat} {h : Heap} {w : World} {ops : Array Oper} {i : Nat} {o : Oper} {a : Act}
variable {call : Nat → List AV → Heap → Option (AV × Heap)}

/-- What stands for a state: the values that a function answers, the heap behind it. -/
def Left (B : Nat) (ι : Inj) (h : Heap) (w : World) (r : AV) (h' : Heap) (v : Value) (w' : World) : Prop := ∃ ι', AR ι' r v ∧ Post B ι h w ι' h' w'

/-- The evaluator's calls are the model's. -/
def CallOK (P : Program) (call : Nat → List AV → Heap → Option (AV × Heap)) : Prop :=
  ∀ f args h r h', call f args h = some (r, h') → (∃ fn, P.funcs[f]? = some fn ∧ (fn.name == "runtime.NumGoroutine") = false ∧ fn.body.isNone = false) ∧
    ∀ B ι w (vs : List Value), HR B ι h.get w → (∀ i, h.next ≤ i → ι i = none) → All2 (AR ι) args vs → Calls P f vs.toArray w fun e w' => ∃ v, e = .returned v ∧ Left B ι h w r h' v w'

/-- The same where a call may also be one of the model's own entries, which runs at once. -/
def CallX (P : Program) (call : Nat → List AV → Heap → Option (AV × Heap)) : Prop :=
  ∀ f args h r h', call f args h = some (r, h') →
    ((∃ fn, P.funcs[f]? = some fn ∧ (fn.name == "runtime.NumGoroutine") = false ∧ fn.body.isNone = false) ∧
      ∀ B ι w (vs : List Value), HR B ι h.get w → (∀ i, h.next ≤ i → ι i = none) → All2 (AR ι) args vs → Calls P f vs.toArray w fun e w' => ∃ v, e = .returned v ∧ Left B ι h w r h' v w') ∨
    ∀ B ι w (vs : List Value), HR B ι h.get w → (∀ i, h.next ≤ i → ι i = none) → All2 (AR ι) args vs → ∃ v w', (callFunc f vs.toArray).run P w = .ok (.value v) w' ∧ Left B ι h w r h' v w'
theorem CallOK.x {P : Program} {call : Nat → List AV → Heap → Option (AV × Heap)} (hc : CallOK P call) : CallX P call := fun f args h r h' he => .inl (hc f args h r h' he)

theorem setChan_rest (w : World) (c cap : Nat) (buf : Array Value) (cl : Bool) (s r : Nat) (tm : Bool) : (w.setChan c cap buf cl s r tm).os = w.os ∧ (w.setChan c cap buf cl s r tm).output = w.output ∧ (w.setChan c cap buf cl s r tm).tape = w.tape ∧
    ∀ x, x ≠ c → (w.setChan c cap buf cl s r tm).heap[x]? = w.heap[x]? :=
  ⟨rfl, rfl, rfl, fun x hx => by simp [World.setChan, Array.getElem?_setIfInBounds_ne (Ne.symm hx)]⟩

theorem chan_post (hr : HR B ι h.get w) (hf : ∀ i, h.next ≤ i → ι i = none) {i b base lim cap s r : Nat} {k : Blk} {buf : List XV} {vs : Array Value} (hg : h.get i = some k) (hro : k.isRo = false) (hi : ι i = some (b, base, lim)) (hB : B ≤ b) (hb : b < w.heap.size)
    (hbuf : All2 (XR ι) buf vs.toList) : Post B ι h w ι (h.put i (.chan cap buf)) (w.setChan b cap vs false s r false) := by
  obtain ⟨r1, r2, r3, r4⟩ := setChan_rest w b cap vs false s r false
  refine Post.put hr hf hg hro rfl hi ?_ (by rw [size_setChan]; exact Nat.le_refl _) (fun x hx _ => r4 x hx) r1 r2 r3
  exact ⟨hB, vs, s, r, heap_setChan w b cap vs false s r false hb, hbuf⟩

theorem call_run {f : FuncId} {fn : Func} {args : Array Value} (hf : P.funcs[f]? = some fn) (h1 : (fn.name == "runtime.NumGoroutine") = false) (h2 : fn.body.isNone = false) : (callFunc f args).run P w = .ok (.enter f args) w := by
  simp only [callFunc, Sem.run_bind, run_program, Result.andThen_ok, hf, h1, h2, Bool.false_eq_true, if_false]
  rfl

/-- An operation that writes. -/
theorem eff_sound (hcall : CallX P call) (H : OpsR slots ds loc vals ι a.eval) (hr : HR B ι h.get w) (hf : ∀ i, h.next ≤ i → ι i = none) (ho : ops[i]? = some o) (hw : Region.wanted o (yielded ops a.tmps) = true)
    {iop : IOp} {r : AV} {h' : Heap} (hc : cOp? P slots ds o.op = some iop) (hk : iop.kd = .eff) (he : evEff loc vals call h iop = some (r, h')) : OpTo P ops i o.dst a w (Left B ι h w r h') := by
  obtain ⟨dst, op, ty, pos, after, guard⟩ := o
  cases op <;> simp only [cOp?] at hc
  case store t x v =>
    obtain ⟨p, hp, hc⟩ := ob_some hc
    obtain ⟨q, hq, hc⟩ := ob_some hc
    obtain ⟨n, hn, hc⟩ := ob_some hc
    simp only [Option.some.injEq] at hc; subst hc
    simp only [evEff] at he
    split at he
    · rename_i j off l hpe hqe
      cases hl : l.length == n with
      | false => rw [hl] at he; cases he
      | true =>
        rw [hl] at he; simp only [cond_true] at he
        simp at hl
        split at he
        · rename_i h1 hwr
          simp only [Option.some.injEq, Prod.mk.injEq] at he
          obtain ⟨rfl, rfl⟩ := he
          have hx := H _ _ hp
          rw [hpe] at hx
          obtain ⟨b, base, lim, hi, hv⟩ := hx
          have hcells := (H _ _ hq).cells hqe
          obtain ⟨w', s1, s2⟩ := write_sound (P := P) hr hf hwr hi hcells
          refine OpTo.skip (w' := w') ho hw ?_ ⟨ι, ⟨#[], rfl, trivial⟩, s2⟩
          have hsz : ¬ ((a.eval v).cells.size ≠ n) := by
            have := hcells.length
            simp at this; omega
          simp only [execOp, Instr.storeAt, hv, Instr.sureAddr, storeVar, Sem.run_bind, Sem.run_pure, Result.andThen_ok, run_size hn, hsz, if_false, s1]
        · cases he
    · cases he
  case convert src dt x =>
    unfold cConv at hc
    obtain ⟨p, hp, hc⟩ := ob_some hc
    split at hc
    · simp only [Option.some.injEq] at hc; subst hc; simp [IOp.kd] at hk
    · rename_i e0 e h1 h2
      cases hb : (src == dt && isU8 P e) with
      | false => rw [hb] at hc; cases hc
      | true =>
        rw [hb] at hc; simp only [cond_true, Option.some.injEq] at hc; subst hc
        simp only [Bool.and_eq_true, beq_iff_eq] at hb
        obtain ⟨rfl, h8⟩ := hb
        have hu8 : P.underlying e = some (.int .u8) := by
          unfold isU8 at h8
          split at h8
          · assumption
          · cases h8
        simp only [evEff] at he
        split at he
        · rename_i j off n c hpe
          split at he
          · rename_i l hg
            cases hn1 : Nat.ble 1 n with
            | false => rw [hn1] at he; cases he
            | true =>
            rw [hn1] at he
            have hn1' := Nat.le_of_ble_eq_true hn1
            simp only [cond_true, Option.some.injEq, Prod.mk.injEq] at he
            obtain ⟨rfl, rfl⟩ := he
            have hx := H _ _ hp
            rw [hpe] at hx
            obtain ⟨b, base, lim, ad, cap, hi, hv, hlc, had, hcap⟩ := hx
            obtain ⟨b', base', lim', hi', hB, cc, e', fz, hbk, hlim, hll, hfz, hcells⟩ := hr.at_ _ _ hg
            rw [hi] at hi'; simp only [Option.some.injEq, Prod.mk.injEq] at hi'
            obtain ⟨rfl, rfl, rfl⟩ := hi'
            have hcz : cap ≠ 0 := by omega
            obtain ⟨w', m0, m1, m2, m3, m4, fz', m5, m6, m7⟩ := run_markStringish (P := P) (o := base + off) hbk hfz
            have hpost : Post B ι h w ι h w' := by
              have hsame : upd h.get j (some (.cells l)) = h.get := by
                funext x
                by_cases ex : x = j
                · subst ex; simp [upd, hg]
                · simp [upd, ex]
              have hk' : BR B ι b base lim w' (.cells l) := ⟨hB, cc, e', fz', m5, hlim, hll, m6, hcells⟩
              have h1 := hr.set (Le.refl _) hi hk' rfl (by rw [m4]; exact Nat.le_refl _) (fun x hx _ => m7 x hx) (fun j' kj hj hgj hrj b' x y e => hr.apart j' j kj _ hgj hg hrj rfl hj _ _ _ _ _ _ e hi)
              have h2 := Fr.set (k' := .cells l) hr (Le.refl _) hi (by rw [m4]; exact Nat.le_refl _) (fun x hx _ => m7 x hx) m1 m2 m3 (.inl ⟨j, _, base, lim, hg, rfl, hi⟩)
              rw [hsame] at h1 h2
              exact ⟨Nat.le_refl _, fun _ _ => rfl, fun _ _ x => x, h1, hf, h2⟩
            refine OpTo.value (v := a.eval x) (w' := w') ho hw ?_ ⟨ι, ⟨b, base, lim, ad, cap, hi, hv, hlc, had, hcap⟩, hpost⟩
            refine run_value ?_
            have he0 : e0 = e := by rw [h1] at h2; simpa using h2
            subst he0
            rw [hv, had hcz]
            simp only [convert, Sem.run_bind, run_underlying h1, run_underlying hu8, Result.andThen_ok, beq_self_eq_true]
            rw [m0]
            rfl
          · cases he
        · cases he
    · cases hb : isU8 P _ with
      | false => rw [hb] at hc; cases hc
      | true => rw [hb] at hc; simp only [cond_true, Option.some.injEq] at hc; subst hc; simp [IOp.kd] at hk
    · cases hb : isU8 P _ with
      | false => rw [hb] at hc; cases hc
      | true => rw [hb] at hc; simp only [cond_true, Option.some.injEq] at hc; subst hc; simp [IOp.kd] at hk
    · cases hc
  case send ch v =>
    obtain ⟨p, hp, hc⟩ := ob_some hc
    obtain ⟨q, hq, hc⟩ := ob_some hc
    simp only [Option.some.injEq] at hc; subst hc
    simp only [evEff, evComm] at he
    split at he
    · rename_i j x hpe hqe
      split at he
      · rename_i cap buf hg
        cases hl : Nat.blt buf.length cap with
        | false => rw [hl] at he; cases he
        | true =>
          rw [hl] at he; simp only [cond_true, Option.some.injEq, Prod.mk.injEq] at he
          obtain ⟨rfl, rfl⟩ := he
          have hlt : buf.length < cap := Nat.lt_of_succ_le (Nat.le_of_ble_eq_true hl)
          have hx := H _ _ hp
          rw [hpe] at hx
          obtain ⟨b, base, lim, hi, hv⟩ := hx
          have hxv := XR.of_av hqe (H _ _ hq)
          obtain ⟨b', base', lim', hi', hbr⟩ := hr.at_ _ _ hg
          rw [hi] at hi'; simp only [Option.some.injEq, Prod.mk.injEq] at hi'
          obtain ⟨rfl, rfl, rfl⟩ := hi'
          have hblt := hbr.lt
          obtain ⟨hB, vs, s, r, hbk, hbuf⟩ := hbr
          have hlen := hbuf.length
          simp at hlen
          refine OpTo.send_plain (c := b) (z := .tuple #[]) (v := a.eval v) ho hw ?_ hbk (by omega) ⟨ι, ⟨#[], rfl, trivial⟩, ?_⟩
          · simp only [execOp, hv]; rfl
          · exact chan_post hr hf hg rfl hi hB hblt (by rw [Array.toList_push]; exact hbuf.append ⟨hxv, trivial⟩)
      · cases he
    · cases he
  case select cases blocking =>
    unfold cSelect at hc
    split at hc
    · rename_i cs hcs
      have hcases : cases = #[cs] := by apply Array.toList_inj.1; simpa using hcs
      subst hcases
      obtain ⟨p, hp, hc⟩ := ob_some hc
      have hx := H _ _ hp
      split at hc
      · rename_i v hsend
        obtain ⟨q, hq, hc⟩ := ob_some hc
        obtain ⟨z, hz, hc⟩ := ob_some hc
        simp only [Option.some.injEq] at hc; subst hc
        obtain ⟨it, zv, hit, hzv, hza⟩ := tZero_inv hz
        have hzero : (zeroValue cs.elem).run P w = .ok zv w := by simp [zeroValue, typeInfo, hit, hzv]
        simp only [evEff, evComm] at he
        split at he
        · rename_i j x hpe hqe
          split at he
          · rename_i cap buf hg
            rw [hpe] at hx
            obtain ⟨b, base, lim, hi, hv⟩ := hx
            have hxv := XR.of_av hqe (H _ _ hq)
            obtain ⟨b', base', lim', hi', hbr⟩ := hr.at_ _ _ hg
            rw [hi] at hi'; simp only [Option.some.injEq, Prod.mk.injEq] at hi'
            obtain ⟨rfl, rfl, rfl⟩ := hi'
            have hblt := hbr.lt
            obtain ⟨hB, vs, s, r, hbk, hbuf⟩ := hbr
            have hlen := hbuf.length
            simp at hlen
            have hrun : (execOp a.eval ⟨dst, .select #[cs] false, ty, pos, after, guard⟩).run P w = .ok (.comm #[scase b (a.eval v) zv] false .select) w := by
              simp [execOp, hv, hsend, hzero, scase]
            cases hl : Nat.blt buf.length cap with
            | true =>
              rw [hl] at he; simp only [cond_true, Option.some.injEq, Prod.mk.injEq] at he
              obtain ⟨rfl, rfl⟩ := he
              have hlt : buf.length < cap := Nat.lt_of_succ_le (Nat.le_of_ble_eq_true hl)
              refine OpTo.send_room ho hw hrun hbk (by omega) ⟨ι, ⟨_, rfl, rfl, rfl, trivial⟩, ?_⟩
              exact chan_post hr hf hg rfl hi hB hblt (by rw [Array.toList_push]; exact hbuf.append ⟨hxv, trivial⟩)
            | false =>
              rw [hl] at he; simp only [cond_false, Option.some.injEq, Prod.mk.injEq] at he
              obtain ⟨rfl, rfl⟩ := he
              have hge : cap ≤ buf.length := by
                rcases Nat.lt_or_ge buf.length cap with h' | h'
                · have : Nat.blt buf.length cap = true := Nat.ble_eq_true_of_le h'
                  rw [hl] at this; cases this
                · exact h'
              exact OpTo.send_full ho hw hrun hbk (by omega) ⟨ι, ⟨_, rfl, rfl, rfl, trivial⟩, Post.refl hr hf⟩
          · cases he
        · cases he
      · rename_i hsend
        obtain ⟨z, hz, hc⟩ := ob_some hc
        obtain ⟨zx, hzx, hc⟩ := ob_some hc
        simp only [Option.some.injEq] at hc; subst hc
        obtain ⟨it, zv, hit, hzv, hza⟩ := tZero_inv hz
        have hzero : (zeroValue cs.elem).run P w = .ok zv w := by simp [zeroValue, typeInfo, hit, hzv]
        have hzr : XR ι zx zv := XR.of_av hzx (absV_sound hza)
        simp only [evEff, evComm] at he
        split at he
        · rename_i j hpe
          split at he
          · rename_i cap buf hg
            rw [hpe] at hx
            obtain ⟨b, base, lim, hi, hv⟩ := hx
            obtain ⟨b', base', lim', hi', hbr⟩ := hr.at_ _ _ hg
            rw [hi] at hi'; simp only [Option.some.injEq, Prod.mk.injEq] at hi'
            obtain ⟨rfl, rfl, rfl⟩ := hi'
            have hblt := hbr.lt
            obtain ⟨hB, vs, s, r, hbk, hbuf⟩ := hbr
            have hrun : (execOp a.eval ⟨dst, .select #[cs] false, ty, pos, after, guard⟩).run P w = .ok (.comm #[rcase b zv] false .select) w := by
              simp [execOp, hv, hsend, hzero, rcase]
            split at he
            · simp only [Option.some.injEq, Prod.mk.injEq] at he
              obtain ⟨rfl, rfl⟩ := he
              have hvs : vs = #[] := by
                have := hbuf.length
                simp at this; exact Array.size_eq_zero_iff.1 this.symm
              subst hvs
              exact OpTo.recv_none ho hw hrun hbk ⟨ι, ⟨_, rfl, rfl, rfl, hzr, trivial⟩, Post.refl hr hf⟩
            · rename_i x rest
              simp only [Option.some.injEq, Prod.mk.injEq] at he
              obtain ⟨rfl, rfl⟩ := he
              cases hvl : vs.toList with
              | nil => rw [hvl] at hbuf; exact hbuf.elim
              | cons u us =>
                have hvs : vs = (u :: us).toArray := by apply Array.toList_inj.1; simpa using hvl
                subst hvs
                simp only at hbuf
                obtain ⟨hxu, hrest⟩ := hbuf
                refine OpTo.recv_some ho hw hrun hbk (by simp) ⟨ι, ⟨_, rfl, rfl, rfl, ?_, trivial⟩, ?_⟩
                · simpa using hxu
                · refine chan_post hr hf hg rfl hi hB hblt ?_
                  have : ((u :: us).toArray.extract 1 (u :: us).toArray.size).toList = us := by simp
                  rw [this]; exact hrest
          · cases he
        · cases he
    · cases hc
  case call c =>
    unfold cCall at hc
    have cargs : ∀ {as : List X} {r : AV} {h' : Heap} {g : Nat} {caps : List (Nat × Nat)} {cv : Array Value}, cXs slots ds c.args.toList = some as → call g (evArgs loc vals as ++ capVals caps) h = some (r, h') → All2 (capVal ι) caps cv.toList →
        (execOp a.eval ⟨dst, .call c, ty, pos, after, guard⟩).run P w = (callFunc g (c.args.map a.eval ++ cv)).run P w → OpTo P ops i dst a w (Left B ι h w r h') := by
      intro as r h' g caps cv has hcl hcv hrun
      have hargs : All2 (AR ι) (evArgs loc vals as ++ capVals caps) ((c.args.map a.eval).toList ++ cv.toList) := by
        refine All2.append ?_ ?_
        · have := cXs_sound H has
          rw [Array.toList_map]
          clear has hcl hrun
          generalize c.args.toList = xs at this
          induction as generalizing xs with
          | nil => cases xs with
            | nil => trivial
            | cons _ _ => exact this.elim
          | cons y ys ih => cases xs with
            | nil => exact this.elim
            | cons x xs => exact ⟨this.1, ih xs this.2⟩
        · clear hcl hrun
          generalize cv.toList = vs at hcv
          induction caps generalizing vs with
          | nil => cases vs with
            | nil => trivial
            | cons _ _ => exact hcv.elim
          | cons y ys ih => cases vs with
            | nil => exact hcv.elim
            | cons x xs => exact ⟨hcv.1, ih xs hcv.2⟩
      have harr : ((c.args.map a.eval).toList ++ cv.toList).toArray = c.args.map a.eval ++ cv := by
        apply Array.toList_inj.1
        simp
      rcases hcall _ _ _ _ _ hcl with ⟨⟨fn, hfn, hn1, hn2⟩, hcalls⟩ | hran
      · have := hcalls B ι w _ hr hf hargs
        refine OpTo.call ho hw ?_ this
        rw [hrun, call_run hfn hn1 hn2, harr]
      · obtain ⟨v, w', q1, q2⟩ := hran B ι w _ hr hf hargs
        refine OpTo.value ho hw ?_ q2
        rw [hrun, ← harr]; exact q1
    split at hc
    · rename_i bi hb
      have hrun : ∀ {v : Value} {w' : World}, (builtin bi c.argTypes ty (c.args.map fun | .const _ => true | _ => false) (c.args.map a.eval)).run P w = .ok (.value v) w' →
          (execOp a.eval ⟨dst, .call c, ty, pos, after, guard⟩).run P w = .ok (.value v) w' := by
        intro v w' hh
        simp only [execOp, resolve, hb, Sem.run_bind, Sem.run_pure, Result.andThen_ok, invoke]
        exact hh
      unfold cBuiltin at hc
      split at hc
      · obtain ⟨p, hp, hc⟩ := ob_some hc
        split at hc <;> first | (simp only [Option.some.injEq] at hc; subst hc; simp [IOp.kd] at hk; done) | (split at hc <;> first | (simp only [Option.some.injEq] at hc; subst hc; simp [IOp.kd] at hk; done) | cases hc) | cases hc
      · obtain ⟨p, hp, hc⟩ := ob_some hc
        simp only [Option.some.injEq] at hc; subst hc; simp [IOp.kd] at hk
      · obtain ⟨p, hp, hc⟩ := ob_some hc
        simp only [Option.some.injEq] at hc; subst hc; simp [IOp.kd] at hk
      · rename_i st xt x y h1 h2
        obtain ⟨el, hel, hc⟩ := ob_some hc
        obtain ⟨p, hp, hc⟩ := ob_some hc
        obtain ⟨q, hq, hc⟩ := ob_some hc
        cases hs : sourceOk P el.1 xt with
        | false => rw [hs] at hc; cases hc
        | true =>
          rw [hs] at hc; simp only [cond_true, Option.some.injEq] at hc; subst hc
          simp only [evEff] at he
          obtain ⟨v, w', ι', q1, q2, q3⟩ := app_sound (P := P) (ty := ty) hr hf hel hs (H _ _ hp) (H _ _ hq) he
          refine OpTo.value ho hw (hrun ?_) ⟨ι', q2, q3⟩
          have e1 : c.argTypes = #[st, xt] := by apply Array.toList_inj.1; simpa using h1
          have e2 : c.args = #[x, y] := by apply Array.toList_inj.1; simpa using h2
          rw [e1, e2]
          simp [builtin, q1]
      · rename_i st xt x y h1 h2
        obtain ⟨el, hel, hc⟩ := ob_some hc
        obtain ⟨p, hp, hc⟩ := ob_some hc
        obtain ⟨q, hq, hc⟩ := ob_some hc
        cases hs : sourceOk P el.1 xt with
        | false => rw [hs] at hc; cases hc
        | true =>
          rw [hs] at hc; simp only [cond_true, Option.some.injEq] at hc; subst hc
          simp only [evEff] at he
          obtain ⟨v, w', ι', q1, q2, q3⟩ := copy_sound (P := P) (ty := ty) (tx := xt) hr hf hel (H _ _ hp) (H _ _ hq) he
          refine OpTo.value ho hw (hrun ?_) ⟨ι', q2, q3⟩
          have e1 : c.argTypes = #[st, xt] := by apply Array.toList_inj.1; simpa using h1
          have e2 : c.args = #[x, y] := by apply Array.toList_inj.1; simpa using h2
          rw [e1, e2]
          simp [builtin, q1]
      · cases hc
    · rename_i f hcal
      obtain ⟨as, has, hc⟩ := ob_some hc
      simp only [Option.some.injEq] at hc; subst hc
      simp only [evEff] at he
      refine cargs (caps := []) (cv := #[]) has (by simpa [capVals] using he) trivial ?_
      simp [execOp, resolve, hcal, Act.eval, Deferred.ofValue, invoke]
    · rename_i x hcal
      obtain ⟨f, hf', hc⟩ := ob_some hc
      obtain ⟨as, has, hc⟩ := ob_some hc
      simp only [Option.some.injEq] at hc; subst hc
      simp only [evEff] at he
      split at he
      · rename_i g caps hfe
        have hx := H _ _ hf'
        rw [hfe] at hx
        obtain ⟨vs, hv, hcv⟩ := hx
        refine cargs (caps := caps) (cv := vs) has he hcv ?_
        simp [execOp, resolve, hcal, hv, Deferred.ofValue, invoke]
      · cases he
    · cases hc
  case makeFunc fn first caps =>
    cases fn <;> simp only [reduceCtorEq] at hc
    case func g =>
      cases hb : first.size == 0 with
      | false => rw [hb] at hc; cases hc
      | true =>
        rw [hb] at hc; simp only [cond_true] at hc
        obtain ⟨cs, hcs, hc⟩ := ob_some hc
        simp only [Option.some.injEq] at hc; subst hc; simp [IOp.kd] at hk
  all_goals
    exfalso
    clear he
    (try simp only [cBin, cSlice, cFieldAddr, cField, cIdxAddr, cIdx, cBuild, cBuildSlice, cMakeSlice] at hc)
    (try simp only [ob, Bool.cond_eq_ite] at hc)
    repeat' split at hc
    all_goals first | (cases hc; done) | (simp only [Option.some.injEq] at hc; subst hc; simp [IOp.kd] at hk; done) | skip
end
end Lav
