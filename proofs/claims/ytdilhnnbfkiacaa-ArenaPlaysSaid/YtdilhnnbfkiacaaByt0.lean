/-
  Bytes: slices of bytes, texts.
-/
import Derived.Test.YtdilhnnbfkiacaaFwZ
import Derived.Test.YtdilhnnbfkiacaaFwN
set_option maxRecDepth 100000
set_option linter.unusedSimpArgs false
namespace Lav
open Go (IntKind)

/-- A slice of bytes that may be read. -/
def Bytes (h : Heap) (x : CV) (bs : List (BitVec 8)) : Prop :=
  (x = .nils ∧ bs = []) ∨ ∃ i o c, x = .sl i o bs.length c ∧ i < h.next ∧ ∀ j b, bs[j]? = some b → h.read i (o + j * 1) 1 = some [.int .u8 (b.toNat : Int)]
def u8c (b : BitVec 8) : CV := .int .u8 (b.toNat : Int)
def u8s (bs : List (BitVec 8)) : List CV := bs.map u8c
theorem u8s_len (bs : List (BitVec 8)) : (u8s bs).length = bs.length := by simp [u8s]
theorem Bytes.ext {h h' : Heap} {x : CV} {bs : List (BitVec 8)} (hx : Bytes h x bs) (e : Ext h h') : Bytes h' x bs := by
  rcases hx with h1 | ⟨i, o, c, h1, h2, h3⟩
  · exact .inl h1
  · exact .inr ⟨i, o, c, h1, Nat.lt_of_lt_of_le h2 e.1, fun j b hj => (e.read h2).trans (h3 j b hj)⟩
theorem Bytes.len {h h0 : Heap} {x : CV} {bs : List (BitVec 8)} (hx : Bytes h0 x bs) {loc vals : List AV} {X' : X} (hX : X'.eval loc vals = .c x) : evPure loc vals h (.len .sl X') = some (.c (.int .i64 (bs.length : Int))) := by
  rcases hx with ⟨rfl, rfl⟩ | ⟨i, o, c, rfl, _, _⟩ <;> simp only [evPure, hX] <;> rfl
theorem bytes_at {h : Heap} {i o n : Nat} {c : Cap} {bs : List (BitVec 8)} (hi : i < h.next) (hg : h.get i = some (.cells (u8s bs))) (hn : n = bs.length - o) : Bytes h (.sl i o n c) (bs.drop o) := by
  refine .inr ⟨i, o, c, by rw [hn, List.length_drop], hi, fun j b hj => ?_⟩
  rw [Nat.mul_one]
  refine read_cells hg ?_
  rw [List.getElem?_drop] at hj
  simp [u8s, hj, u8c]
theorem Bytes.source {h : Heap} {x : CV} {bs : List (BitVec 8)} (hx : Bytes h x bs) : source h 1 (.c x) = some (bs.length, u8s bs) := by
  rcases hx with ⟨rfl, rfl⟩ | ⟨i, o, c, rfl, hi, hr⟩
  · rfl
  · by_cases h0 : bs = []
    · subst h0
      simp only [Lav.source, List.length_nil, Nat.zero_mul]
      cases hr0 : h.read i o 0 with
      | none => rfl
      | some l =>
        have : l = [] := by
          have key : ∀ m, cut m o 0 = some l → l = [] := fun m hm => by
            unfold cut at hm
            cases hc : Nat.ble (o + 0) m.length with
            | false => rw [hc] at hm; cases hm
            | true => rw [hc] at hm; simp at hm; exact hm
          unfold Heap.read at hr0
          split at hr0
          · exact key _ hr0
          · exact key _ hr0
          · cases hr0
        subst this; rfl
    · have hpos : 0 < bs.length := List.length_pos_iff.2 h0
      have key : ∀ m : List CV, (∀ j b, bs[j]? = some b → cut m (o + j * 1) 1 = some [u8c b]) → cut m o (bs.length * 1) = some (u8s bs) := by
        intro m hm
        have cut1 : ∀ p v, cut m p 1 = some [v] → p < m.length ∧ m[p]? = some v := by
          intro p v hc
          unfold cut at hc
          cases hb : Nat.ble (p + 1) m.length with
          | false => rw [hb] at hc; cases hc
          | true =>
            rw [hb] at hc
            have hl : p + 1 ≤ m.length := Nat.le_of_ble_eq_true hb
            simp only [cond_true, Option.some.injEq] at hc
            rw [List.drop_eq_getElem_cons (by omega), List.take_succ_cons, List.take_zero] at hc
            simp only [List.cons.injEq, and_true] at hc
            exact ⟨by omega, by rw [List.getElem?_eq_getElem (by omega), hc]⟩
        have hlast := (cut1 _ _ (hm (bs.length - 1) bs[bs.length - 1] (by simp))).1
        rw [Nat.mul_one, cut_part (by omega)]
        congr 1
        apply List.ext_getElem?
        intro j
        rcases Nat.lt_or_ge j bs.length with hj | hj
        · have := (cut1 _ _ (hm j bs[j] (by simp [hj]))).2
          rw [Nat.mul_one] at this
          rw [List.getElem?_take, if_pos hj, List.getElem?_drop, this]; simp [hj, u8s]
        · rw [List.getElem?_take, if_neg (by omega), List.getElem?_eq_none (by simp [u8s]; omega)]
      have whole : h.read i o (bs.length * 1) = some (u8s bs) := by
        unfold Heap.read at hr ⊢
        cases hg : h.get i with
        | none => have := hr 0 bs[0] (by simp [hpos]); simp [hg] at this
        | some b =>
          cases b with
          | cells m => simp only [hg] at hr ⊢; exact key m hr
          | ro m => simp only [hg] at hr ⊢; exact key m hr
          | chan c m => have := hr 0 bs[0] (by simp [hpos]); simp [hg] at this
      simp only [Lav.source, whole]
def strOf (bs : List (BitVec 8)) : List Nat := bs.map BitVec.toNat
theorem strOf_inj : ∀ {a b : List (BitVec 8)}, strOf a = strOf b → a = b
  | [], [], _ => rfl
  | x :: a, y :: b, h => by
    simp only [strOf, List.map_cons, List.cons.injEq] at h
    rw [BitVec.eq_of_toNat_eq h.1, strOf_inj (a := a) (b := b) h.2]
  | [], _ :: _, h => by simp [strOf] at h
  | _ :: _, [], h => by simp [strOf] at h
theorem strOf_beq (a b : List (BitVec 8)) : (strOf a == strOf b) = decide (a = b) := by
  by_cases h : a = b
  · subst h; simp
  · rw [decide_eq_false h]
    simp only [beq_eq_false_iff_ne, ne_eq]
    exact fun e => h (strOf_inj e)
theorem bytesOf_u8s : ∀ (bs : List (BitVec 8)), bytesOf (u8s bs) = some (strOf bs)
  | [] => rfl
  | b :: bs => by
    have hb : Nat.blt b.toNat 256 = true := Nat.ble_eq_true_of_le b.isLt
    have := bytesOf_u8s bs
    show bytesOf (.int .u8 (.ofNat b.toNat) :: u8s bs) = _
    simp only [bytesOf, hb, cond_true, this]; rfl
theorem b2s_at {loc vals : List AV} {h : Heap} {X' : X} {i o n : Nat} {c : Cap} {bs : List (BitVec 8)} (hX : X'.eval loc vals = .c (.sl i o n c)) (hr : h.read i o n = some (u8s bs)) : evPure loc vals h (.b2s X') = some (.c (.str (strOf bs))) := by
  simp only [evPure, hX, hr, bytesOf_u8s]
theorem read_u8 {h : Heap} {i o n : Nat} {bs : List (BitVec 8)} (hg : h.get i = some (.cells (u8s bs))) (hn : o + n = bs.length) : h.read i o n = some (u8s (bs.drop o)) := by
  rw [read_part hg (by rw [u8s_len]; omega)]
  congr 1
  rw [List.take_of_length_le (by simp [u8s]; omega)]
  simp [u8s, List.map_drop]
theorem strOf_app (a b : List (BitVec 8)) : strOf (a ++ b) = strOf a ++ strOf b := by simp [strOf]
theorem strOf_len (a : List (BitVec 8)) : (strOf a).length = a.length := by simp [strOf]
theorem u8s_app (a b : List (BitVec 8)) : u8s (a ++ b) = u8s a ++ u8s b := by simp [u8s]
theorem u8_of {a : Int} (h : (Go.Lit.int .u8 a).wf = true) : ∃ b : BitVec 8, a = (b.toNat : Int) := by
  have hb : 0 ≤ a ∧ a < 256 := by
    simp only [Go.Lit.wf, IntKind.min, IntKind.max, IntKind.bits, IntKind.signed] at h
    simp at h
    omega
  refine ⟨BitVec.ofNat 8 a.toNat, ?_⟩
  simp only [BitVec.toNat_ofNat]
  omega
theorem u8s_of : ∀ {l : List Int}, (∀ n ∈ l, (Go.Lit.int .u8 n).wf = true) → ∃ bs : List (BitVec 8), l = bs.map fun b => (b.toNat : Int)
  | [], _ => ⟨[], rfl⟩
  | n :: l, h => by
    obtain ⟨b, hb⟩ := u8_of (h n (by simp))
    obtain ⟨bs, hbs⟩ := u8s_of (l := l) (fun m hm => h m (by simp [hm]))
    exact ⟨b :: bs, by rw [hb, hbs]; rfl⟩
theorem bytes_row {h : Heap} {x : CV} {l : List Int} (r : ByteRow h x l) : ∃ bs : List (BitVec 8), Bytes h x bs ∧ (x = .nils ∧ bs = [] ∨ ∃ i, x = .sl i 0 bs.length (.dy 1) ∧ i < h.next ∧ (bs ≠ [] → h.get i = some (.ro (u8s bs)))) := by
  rcases r with ⟨rfl, rfl⟩ | ⟨i, rfl, hi, hg, hw⟩
  · exact ⟨[], .inl ⟨rfl, rfl⟩, .inl ⟨rfl, rfl⟩⟩
  · obtain ⟨bs, rfl⟩ := u8s_of hw
    have e : (bs.map (fun b : BitVec 8 => (b.toNat : Int))).map (CV.int .u8) = u8s bs := by simp [u8s, u8c, Function.comp_def]
    rw [List.length_map]
    have hg' : bs ≠ [] → h.get i = some (.ro (u8s bs)) := fun hn => by rw [← e]; exact hg (by simpa using hn)
    refine ⟨bs, .inr ⟨i, 0, .dy 1, rfl, hi, fun j b hj => ?_⟩, .inr ⟨i, rfl, hi, hg'⟩⟩
    have hn : bs ≠ [] := fun e => by rw [e] at hj; simp at hj
    rw [Nat.zero_add, Nat.mul_one]
    exact read_ro (hg' hn) (by simp [u8s, hj, u8c])
/-- The text of a slice of bytes that came in. -/
theorem row_text {h H : Heap} {x : CV} {bs : List (BitVec 8)} (r : x = .nils ∧ bs = [] ∨ ∃ i, x = .sl i 0 bs.length (.dy 1) ∧ i < h.next ∧ (bs ≠ [] → h.get i = some (.ro (u8s bs)))) (e : Ext h H) : ∀ loc vals, evPure loc (.c x :: vals) H (.b2s (.val 0)) = some (.c (.str (strOf bs))) := by
  intro loc vals
  rcases r with ⟨rfl, rfl⟩ | ⟨i, rfl, hi, hg⟩
  · rfl
  · by_cases hn : bs = []
    · subst hn
      simp only [evPure, X.eval, List.getD_cons_zero, List.length_nil]
      cases hr : H.read i 0 0 with
      | none => rfl
      | some l =>
        have key : ∀ m, cut m 0 0 = some l → l = [] := fun m hm => by
          have hb : Nat.ble (0 + 0) m.length = true := Nat.ble_eq_true_of_le (Nat.zero_le _)
          unfold cut at hm
          rw [hb] at hm
          simpa using hm.symm
        have : l = [] := by
          unfold Heap.read at hr
          split at hr
          · exact key _ hr
          · exact key _ hr
          · cases hr
        subst this; rfl
    · have h2 := e.at_ (hg hn) hi
      refine b2s_at rfl ?_
      have := read_part_ro (o := 0) (n := bs.length) h2 (by rw [u8s_len]; omega)
      rw [this, List.drop_zero, List.take_of_length_le (by rw [u8s_len]; omega)]
/-- Bytes that are laid over others. -/
def overB (B bs : List (BitVec 8)) (off : Nat) : List (BitVec 8) := B.take off ++ bs ++ B.drop (off + bs.length)
theorem overB_len {B bs : List (BitVec 8)} {off : Nat} (h : off + bs.length ≤ B.length) : (overB B bs off).length = B.length := by
  simp [overB]; omega
theorem copy_over {h : Heap} {b off n : Nat} {c : Cap} {y : AV} {B bs : List (BitVec 8)} (hg : h.get b = some (.cells (u8s B))) (hs : source h 1 y = some (bs.length, u8s bs)) (hn : bs.length ≤ n) (hl : off + bs.length ≤ B.length) :
    evCopy h 1 (.c (.sl b off n c)) y = some (.c (.int .i64 (bs.length : Int)), h.put b (.cells (u8s (overB B bs off)))) := by
  have w := write_many (o := off) (vs := u8s bs) hg (by rw [u8s_len, u8s_len]; exact hl)
  have e : (u8s B).take off ++ u8s bs ++ (u8s B).drop (off + (u8s bs).length) = u8s (overB B bs off) := by
    rw [u8s_len]; simp [u8s, overB, List.map_take, List.map_drop]
  have ht : (u8s bs).take (min bs.length n * 1) = u8s bs := List.take_of_length_le (by rw [u8s_len]; omega)
  rw [e] at w
  unfold evCopy
  simp only [hs, ht, w]
  rw [Nat.min_eq_left hn]; rfl
theorem zeros8 : ∀ n : Nat, zeros n [.int .u8 0] = u8s (List.replicate n 0#8)
  | 0 => rfl
  | n + 1 => by simp only [zeros, zeros8 n, List.replicate_succ, u8s, List.map_cons, u8c]; rfl
end Lav
