/-
  Symbolic execution: heaps that turn a few blocks; adding many; channels; regions that draw their order and make blocks.
-/
import Derived.Test.YtdilhnnbfkiacaaFwM
namespace Lav
open Go (IntKind BinOp UnOp)

/-! ### Heaps that turn a few blocks -/
def ExtB (S : List Nat) (h h' : Heap) : Prop := h.next ≤ h'.next ∧ ∀ i, i < h.next → i ∉ S → h'.get i = h.get i
theorem ExtB.refl (S : List Nat) (h : Heap) : ExtB S h h := ⟨Nat.le_refl _, fun _ _ _ => rfl⟩
theorem ExtB.trans {S : List Nat} {a b c : Heap} (x : ExtB S a b) (y : ExtB S b c) : ExtB S a c := ⟨Nat.le_trans x.1 y.1, fun i hi hn => (y.2 i (Nat.lt_of_lt_of_le hi x.1) hn).trans (x.2 i hi hn)⟩
theorem ExtB.mono {S S' : List Nat} {a b : Heap} (x : ExtB S a b) (h : ∀ i ∈ S, i ∈ S') : ExtB S' a b := ⟨x.1, fun i hi hn => x.2 i hi fun hs => hn (h i hs)⟩
theorem Ext.b {a b : Heap} (x : Ext a b) (S : List Nat) : ExtB S a b := ⟨x.1, fun i hi _ => x.2 i hi⟩
theorem ExtB.new {S : List Nat} {a h : Heap} (x : ExtB S a h) (b : Blk) : ExtB S a (h.new b) := ⟨Nat.le_succ_of_le x.1, fun i hi hn => (get_new_old (Nat.lt_of_lt_of_le hi x.1)).trans (x.2 i hi hn)⟩
theorem ExtB.put {S : List Nat} {a h : Heap} (x : ExtB S a h) {i : Nat} (hi : a.next ≤ i ∨ i ∈ S) (b : Blk) : ExtB S a (h.put i b) :=
  ⟨x.1, fun j hj hn => (get_put_ne (fun e => by subst e; exact hi.elim (fun h => absurd h (by omega)) hn)).trans (x.2 j hj hn)⟩
theorem ExtB.at_ {S : List Nat} {a h : Heap} (x : ExtB S a h) {i : Nat} {b : Blk} (hg : a.get i = some b) (hi : i < a.next) (hn : i ∉ S) : h.get i = some b := (x.2 i hi hn).trans hg

/-- Blocks of its own, where others are turned. -/
theorem Made.keepB {S : List Nat} {h0 h h' : Heap} {x : CV} {vs : List Int} (m : Made h0 h x vs) (e : ExtB S h h') (hn : ∀ k, blk x = some k → k ∉ S) : Made h0 h' x vs := m.keep e.1 fun k hk hb => e.2 k hk (hn k hb)
theorem Mine.keepB {S : List Nat} {sz : Nat} {h0 h h' : Heap} {x : CV} {n : Nat} {l : List CV} (m : Mine sz h0 h x n l) (e : ExtB S h h') (hn : ∀ k, blk x = some k → k ∉ S) : Mine sz h0 h' x n l := Mine.keep m e.1 fun k hk hb => e.2 k hk (hn k hb)
theorem Made.young {h0 h : Heap} {x : CV} {vs : List Int} (m : Made h0 h x vs) : ∀ k, blk x = some k → h0.next ≤ k := by
  intro k hk
  rcases m with ⟨rfl, _⟩ | ⟨i, c, rfl, _, h1, _⟩
  · cases hk
  · simp [blk] at hk; omega
theorem Mine.young {sz : Nat} {h0 h : Heap} {x : CV} {n : Nat} {l : List CV} (m : Mine sz h0 h x n l) : ∀ k, blk x = some k → h0.next ≤ k := by
  intro k hk
  obtain ⟨_, ⟨rfl, _⟩ | ⟨i, rfl, _, h1, _⟩⟩ := m
  · cases hk
  · simp [blk] at hk; omega

theorem app_mine {sz : Nat} {h0 h : Heap} {x : CV} {y : AV} {n m : Nat} {l new : List CV} (ho : Mine sz h0 h x n l) (he : h0.next ≤ h.next) (hs : source h sz y = some (m + 1, new)) (hl : new.length = (m + 1) * sz) (hb : n + (m + 1) ≤ 1073741824) :
    ∃ h', evApp h sz (.c x) y = some (.c (.sl h.next 0 (n + (m + 1)) (.dy sz)), h') ∧ Mine sz h0 h' (.sl h.next 0 (n + (m + 1)) (.dy sz)) (n + (m + 1)) (l ++ new) ∧ h'.next = h.next + 1 ∧ (∀ k, k < h.next → blk x ≠ some k → h'.get k = h.get k) := by
  obtain ⟨hlen, ⟨rfl, rfl⟩ | ⟨i, rfl, hg, hi, hi'⟩⟩ := ho
  · have hnil : l = [] := List.eq_nil_of_length_eq_zero (by simpa using hlen)
    subst hnil
    have b1 : Nat.ble (m + 1) 1073741824 = true := Nat.ble_eq_true_of_le (by omega)
    refine ⟨h.new (.cells new), ?_, ⟨by simp [hl], .inr ⟨h.next, rfl, by simpa using get_new_at, he, Nat.lt_succ_self _⟩⟩, rfl, fun k hk _ => get_new_old hk⟩
    unfold evApp
    simp only [hs, b1, cond_true, Nat.zero_add]
  · have b1 : Nat.ble (n + (m + 1)) 1073741824 = true := Nat.ble_eq_true_of_le (by omega)
    have b2 : (sz == sz && 0 + n * sz == l.length) = true := by simp [hlen]
    refine ⟨(h.kill i).new (.cells (l ++ new)), ?_, ⟨by simp [hl, hlen, Nat.add_mul], .inr ⟨h.next, rfl, get_new_at, he, Nat.lt_succ_self _⟩⟩, rfl, fun k hk hne => ?_⟩
    · unfold evApp
      simp only [hs, b1, hg, b2, cond_true, List.drop_zero]
    · have : k ≠ i := fun e => hne (by rw [e]; rfl)
      rw [get_new_old (h := h.kill i) hk, get_kill_ne this]

/-- The same to an empty slice that was just made. -/
theorem app_new {sz : Nat} {h0 h : Heap} {i : Nat} {y : AV} {m : Nat} {new : List CV} (hg : h.get i = some (.cells [])) (he : h0.next ≤ h.next) (hs : source h sz y = some (m + 1, new)) (hl : new.length = (m + 1) * sz) (hb : m + 1 ≤ 1073741824) :
    ∃ h', evApp h sz (.c (.sl i 0 0 (.ex 0))) y = some (.c (.sl h.next 0 (m + 1) (.dy sz)), h') ∧ Mine sz h0 h' (.sl h.next 0 (m + 1) (.dy sz)) (m + 1) new ∧ h'.next = h.next + 1 ∧ (∀ k, k < h.next → h'.get k = h.get k) := by
  have b1 : Nat.ble (m + 1) 1073741824 = true := Nat.ble_eq_true_of_le (by omega)
  have b2 : Nat.ble (m + 1) 0 = false := rfl
  have hr : h.read i 0 (0 * sz) = some [] := by rw [Nat.zero_mul, read_part hg (by simp)]; rfl
  refine ⟨h.new (.cells new), ?_, ⟨hl, .inr ⟨h.next, rfl, get_new_at, he, Nat.lt_succ_self _⟩⟩, rfl, fun k hk => get_new_old hk⟩
  unfold evApp
  simp only [hs, Nat.zero_add, b1, b2, hr, cond_true, cond_false, List.nil_append]

/-- Nothing to add. -/
theorem app_none {sz : Nat} {h : Heap} {x : CV} {y : AV} (hx : x = .nils ∨ ∃ i o n c, x = .sl i o n c) (hs : source h sz y = some (0, [])) : evApp h sz (.c x) y = some (.c x, h) := by
  rcases hx with rfl | ⟨i, o, n, c, rfl⟩ <;> simp only [evApp, hs]

/-- All of a slice of ints, as an append takes it. -/
theorem Ints.source {h : Heap} {x : CV} {xs : List Int} (hx : Ints h x xs) : source h 1 (.c x) = some (xs.length, xs.map icell) := by
  rcases hx with ⟨rfl, rfl⟩ | ⟨i, o, c, rfl, hi, hr⟩
  · rfl
  · by_cases h0 : xs = []
    · subst h0
      simp only [Lav.source, List.length_nil, Nat.zero_mul]
      cases hr0 : h.read i o 0 with
      | none => rfl
      | some l =>
        have : l = [] := by
          have key : ∀ m, cut m o 0 = some l → l = [] := fun m hm => by
            unfold cut at hm
            cases hc : Nat.ble (o + 0) m.length with
            | false => rw [hc] at hm; cases hm
            | true => rw [hc] at hm; simp at hm; exact hm
          unfold Heap.read at hr0
          split at hr0
          · exact key _ hr0
          · exact key _ hr0
          · cases hr0
        subst this; rfl
    · have hpos : 0 < xs.length := List.length_pos_iff.2 h0
      have key : ∀ m : List CV, (∀ j v, xs[j]? = some v → cut m (o + j * 1) 1 = some [.int .i64 v]) → cut m o (xs.length * 1) = some (xs.map icell) := by
        intro m hm
        have cut1 : ∀ p v, cut m p 1 = some [v] → p < m.length ∧ m[p]? = some v := by
          intro p v hc
          unfold cut at hc
          cases hb : Nat.ble (p + 1) m.length with
          | false => rw [hb] at hc; cases hc
          | true =>
            rw [hb] at hc
            have hl : p + 1 ≤ m.length := Nat.le_of_ble_eq_true hb
            simp only [cond_true, Option.some.injEq] at hc
            rw [List.drop_eq_getElem_cons (by omega), List.take_succ_cons, List.take_zero] at hc
            simp only [List.cons.injEq, and_true] at hc
            exact ⟨by omega, by rw [List.getElem?_eq_getElem (by omega), hc]⟩
        have hlast := (cut1 _ _ (hm (xs.length - 1) xs[xs.length - 1] (by simp))).1
        rw [Nat.mul_one, cut_part (by omega)]
        congr 1
        apply List.ext_getElem?
        intro j
        rcases Nat.lt_or_ge j xs.length with hj | hj
        · have := (cut1 _ _ (hm j xs[j] (by simp [hj]))).2
          rw [Nat.mul_one] at this
          rw [List.getElem?_take, if_pos hj, List.getElem?_drop, this]; simp [hj, icell]
        · rw [List.getElem?_take, if_neg (by omega), List.getElem?_eq_none (by simp; omega)]
      have whole : h.read i o (xs.length * 1) = some (xs.map icell) := by
        unfold Heap.read at hr ⊢
        cases hg : h.get i with
        | none => have := hr 0 xs[0] (by simp [hpos]); simp [hg] at this
        | some b =>
          cases b with
          | cells m => simp only [hg] at hr ⊢; exact key m hr
          | ro m => simp only [hg] at hr ⊢; exact key m hr
          | chan c m => have := hr 0 xs[0] (by simp [hpos]); simp [hg] at this
      simp only [Lav.source, whole]

/-! ### Regions that draw their order -/
section
variable {call : Nat → List AV → Heap → Option (AV × Heap)} {loc vals : List AV} {h cur : Heap} {n j k : Nat} {l r : List Inst} {ks : List (Nat × Heap)} {news : List (Nat × Nat × Blk)}
def dregW (call : Nat → List AV → Heap → Option (AV × Heap)) (n : Nat) (l : List Inst) (loc : List AV) (h : Heap) (r : List Inst) (j k : Nat) (vals : List AV) (cur : Heap) (ks : List (Nat × Heap)) (news : List (Nat × Nat × Blk)) (v : Option ((Nat → AV) × Blk)) : Option (Ex × List AV × Heap) :=
  match v with
  | some (f, b) => dregK call n l loc h r (j + 1) (k + 1) (f (h.next + k) :: vals) (cur.put (h.next + k) b) ks ((j, h.next + k, b) :: news)
  | none => none
theorem dregW_some {f : Nat → AV} {b : Blk} : dregW call n l loc h r j k vals cur ks news (some (f, b)) = dregK call n l loc h r (j + 1) (k + 1) (f (h.next + k) :: vals) (cur.put (h.next + k) b) ks ((j, h.next + k, b) :: news) := rfl
theorem d_bsl {m : Nat} {z : List CV} {ps : List (Nat × Nat × X)} : dregG call n l loc h (.bsl m z ps) r j k vals cur ks news (some true) = dregW call n l loc h r j k vals cur ks news (evNew loc vals (.bsl m z ps)) := rfl
theorem d_mks {m : Nat} {z : List CV} {x y : X} : dregG call n l loc h (.mks m z x y) r j k vals cur ks news (some true) = dregW call n l loc h r j k vals cur ks news (evNew loc vals (.mks m z x y)) := rfl
theorem d_box {x : X} : dregG call n l loc h (.box x) r j k vals cur ks news (some true) = dregW call n l loc h r j k vals cur ks news (evNew loc vals (.box x)) := rfl
theorem d_app {m b : Nat} {x y : X} : dregG call n l loc h (.app m b x y) r j k vals cur ks news (some true) = dregX call n l loc h r j k vals ks news (evApp cur m (x.eval loc vals) (y.eval loc vals)) := rfl
theorem d_faddr {m : Nat} {x : X} : dregG call n l loc h (.faddr m x) r j k vals cur ks news (some true) = dregP call n l loc h r j k vals cur ks news (evPure loc vals cur (.faddr m x)) := rfl
theorem d_nilchk {x : X} : dregG call n l loc h (.nilchk x) r j k vals cur ks news (some true) = dregP call n l loc h r j k vals cur ks news (evPure loc vals cur (.nilchk x)) := rfl
theorem d_mov_not {x : X} : dregG call n l loc h (.mov x) r j k vals cur ks news (some false) = dregK call n l loc h r (j + 1) k (.tup [] :: vals) cur ks news := rfl
theorem d_bin_not {o : BinOp} {x y : X} : dregG call n l loc h (.bin o x y) r j k vals cur ks news (some false) = dregK call n l loc h r (j + 1) k (.tup [] :: vals) cur ks news := rfl
theorem d_un_not {o : UnOp} {x : X} : dregG call n l loc h (.un o x) r j k vals cur ks news (some false) = dregK call n l loc h r (j + 1) k (.tup [] :: vals) cur ks news := rfl
theorem d_pick_not {x y z : X} : dregG call n l loc h (.pick x y z) r j k vals cur ks news (some false) = dregK call n l loc h r (j + 1) k (.tup [] :: vals) cur ks news := rfl
theorem d_iaddr_not {m : Nat} {x y : X} : dregG call n l loc h (.iaddr m x y) r j k vals cur ks news (some false) = dregK call n l loc h r (j + 1) k (.tup [] :: vals) cur ks news := rfl
theorem d_faddr_not {m : Nat} {x : X} : dregG call n l loc h (.faddr m x) r j k vals cur ks news (some false) = dregK call n l loc h r (j + 1) k (.tup [] :: vals) cur ks news := rfl
theorem d_load_not {m : Nat} {g : Bool} {x : X} : dregG call n l loc h (.load m g x) r j k vals cur ks news (some false) = dregK call n l loc h r (j + 1) k (.tup [] :: vals) cur ks news := rfl
theorem d_len_not {k' : LenK} {x : X} : dregG call n l loc h (.len k' x) r j k vals cur ks news (some false) = dregK call n l loc h r (j + 1) k (.tup [] :: vals) cur ks news := rfl
theorem d_eq_not {k' : EqK} {b : Bool} {x y : X} : dregG call n l loc h (.eq k' b x y) r j k vals cur ks news (some false) = dregK call n l loc h r (j + 1) k (.tup [] :: vals) cur ks news := rfl
theorem d_nilchk_not {x : X} : dregG call n l loc h (.nilchk x) r j k vals cur ks news (some false) = dregK call n l loc h r (j + 1) k (.tup [] :: vals) cur ks news := rfl
theorem d_call_not {f : Nat} {xs : List X} : dregG call n l loc h (.call f xs) r j k vals cur ks news (some false) = dregK call n l loc h r (j + 1) k (.tup [] :: vals) cur ((j, cur) :: ks) news := rfl
end
theorem p_build' {loc vals : List AV} {h : Heap} {z : List CV} {ps : List (Nat × Nat × X)} : evPure loc vals h (.build z ps) = (match evalParts loc vals ps with
    | some ps => match fillParts z ps with
      | some l => some (.agg l)
      | none => none
    | none => none) := rfl
theorem p_nilchk {loc vals : List AV} {h : Heap} {x : X} : evPure loc vals h (.nilchk x) = (match x.eval loc vals with
    | .c (.ptr i o) => some (.c (.ptr i o))
    | .c (.fn f l) => some (.c (.fn f l))
    | _ => none) := rfl
theorem p_len_ch {loc vals : List AV} {h : Heap} {x : X} {i cap : Nat} {buf : List XV} (hx : x.eval loc vals = .c (.ch i)) (hg : h.get i = some (.chan cap buf)) : evPure loc vals h (.len .ch x) = some (.c (.int .i64 (buf.length : Int))) := by
  simp only [evPure, hx, hg]; rfl
theorem c_recvd {loc vals : List AV} {h : Heap} {x : X} {z : XV} : evComm loc vals h (.recvd x z) = (match x.eval loc vals with
    | .c (.ch i) => match h.get i with
      | some (.chan cap buf) => match buf with
        | [] => some (.tup [.c (.int .i64 (-1)), .c (.bool false), z], h)
        | v :: rest => some (.tup [.c (.int .i64 0), .c (.bool true), v], h.put i (.chan cap rest))
      | _ => none
    | _ => none) := rfl
theorem c_sendd {loc vals : List AV} {h : Heap} {x y : X} : evComm loc vals h (.sendd x y) = (match x.eval loc vals, (y.eval loc vals).xv with
    | .c (.ch i), some x => match h.get i with
      | some (.chan cap buf) => bif Nat.blt buf.length cap then some (.tup [.c (.int .i64 0), .c (.bool false)], h.put i (.chan cap (buf ++ [x])))
          else some (.tup [.c (.int .i64 (-1)), .c (.bool false)], h)
      | _ => none
    | _, _ => none) := rfl
theorem c_send {loc vals : List AV} {h : Heap} {x y : X} : evComm loc vals h (.send x y) = (match x.eval loc vals, (y.eval loc vals).xv with
    | .c (.ch i), some x => match h.get i with
      | some (.chan cap buf) => bif Nat.blt buf.length cap then some (.tup [], h.put i (.chan cap (buf ++ [x]))) else none
      | _ => none
    | _, _ => none) := rfl
end Lav
