/-
  The evaluator, step by step, for symbolic values: regions that draw their order.
-/
import Derived.Test.YtdilhnnbfkiacaaFwT
namespace Lav
open Go (IntKind BinOp UnOp)

section
variable {call : Nat → List AV → Heap → Option (AV × Heap)} {N : Nat} {loc vals : List AV} {h cur : Heap} {n j k : Nat} {l r : List Inst} {ks : List (Nat × Heap)} {news : List (Nat × Nat × Blk)}

def dregK (call : Nat → List AV → Heap → Option (AV × Heap)) (n : Nat) (l : List Inst) (loc : List AV) (h : Heap) (r : List Inst) (j k : Nat) (vals : List AV) (cur : Heap) (ks : List (Nat × Heap)) (news : List (Nat × Nat × Blk)) : Option (Ex × List AV × Heap) :=
  match evRunD call loc h.next r j k ⟨vals, cur, ks, news⟩ with
  | some s => bif chkAll loc (h.skip n) s l.reverse s.vals then some (.norm, writeBack l s.vals.reverse loc, s.cur) else none
  | none => none

theorem ev_dreg : ev call N (.dreg n l) loc h = dregK call n l loc h l 0 0 [] (h.skip n) [] [] := rfl

def dregE (l : List Inst) (loc vals : List AV) (cur : Heap) (b : Bool) : Option (Ex × List AV × Heap) := bif b then some (.norm, writeBack l vals.reverse loc, cur) else none
theorem dregK_nil : dregK call n l loc h [] j k vals cur ks news = dregE l loc vals cur (chkAll loc (h.skip n) ⟨vals, cur, ks, news⟩ l.reverse vals) := rfl
theorem dregE_true : dregE l loc vals cur true = some (.norm, writeBack l vals.reverse loc, cur) := rfl

def dregG (call : Nat → List AV → Heap → Option (AV × Heap)) (n : Nat) (l : List Inst) (loc : List AV) (h : Heap) (op : IOp) (r : List Inst) (j k : Nat) (vals : List AV) (cur : Heap) (ks : List (Nat × Heap)) (news : List (Nat × Nat × Blk)) (g : Option Bool) : Option (Ex × List AV × Heap) :=
  match g with
  | none => none
  | some g =>
    match op.kd with
    | .pure => match g with
      | false => dregK call n l loc h r (j + 1) k (.tup [] :: vals) cur ks news
      | true => match evPure loc vals cur op with
        | some v => dregK call n l loc h r (j + 1) k (v :: vals) cur ks news
        | none => none
    | .new => match g with
      | false => dregK call n l loc h r (j + 1) (k + 1) (.tup [] :: vals) cur ks news
      | true => match evNew loc vals op with
        | some (f, b) => dregK call n l loc h r (j + 1) (k + 1) (f (h.next + k) :: vals) (cur.put (h.next + k) b) ks ((j, h.next + k, b) :: news)
        | none => none
    | .eff => match g with
      | false => dregK call n l loc h r (j + 1) k (.tup [] :: vals) cur ((j, cur) :: ks) news
      | true => match evEff loc vals call cur op with
        | some (v, h') => dregK call n l loc h r (j + 1) k (v :: vals) h' ((j, h') :: ks) news
        | none => none

theorem dregK_cons {d : Option Nat} {op : IOp} {g : Option (X × Bool)} {c : List (Option Nat × List Nat)} : dregK call n l loc h (⟨d, op, g, c⟩ :: r) j k vals cur ks news = dregG call n l loc h op r j k vals cur ks news (evGuard loc vals g) := by
  simp only [dregK, evRunD, dregG]
  cases hg : evGuard loc vals g with
  | none => rfl
  | some b =>
    cases hk : op.kd with
    | pure =>
      cases b with
      | false => rfl
      | true => cases he : evPure loc vals cur op <;> rfl
    | new =>
      cases b with
      | false => rfl
      | true =>
        cases he : evNew loc vals op with
        | none => rfl
        | some p => rfl
    | eff =>
      cases b with
      | false => rfl
      | true =>
        cases he : evEff loc vals call cur op with
        | none => rfl
        | some p => rfl

def dregP (call : Nat → List AV → Heap → Option (AV × Heap)) (n : Nat) (l : List Inst) (loc : List AV) (h : Heap) (r : List Inst) (j k : Nat) (vals : List AV) (cur : Heap) (ks : List (Nat × Heap)) (news : List (Nat × Nat × Blk)) (v : Option AV) : Option (Ex × List AV × Heap) :=
  match v with
  | some v => dregK call n l loc h r (j + 1) k (v :: vals) cur ks news
  | none => none
theorem dregP_some {v : AV} : dregP call n l loc h r j k vals cur ks news (some v) = dregK call n l loc h r (j + 1) k (v :: vals) cur ks news := rfl
def dregX (call : Nat → List AV → Heap → Option (AV × Heap)) (n : Nat) (l : List Inst) (loc : List AV) (h : Heap) (r : List Inst) (j k : Nat) (vals : List AV) (ks : List (Nat × Heap)) (news : List (Nat × Nat × Blk)) (v : Option (AV × Heap)) : Option (Ex × List AV × Heap) :=
  match v with
  | some (v, h') => dregK call n l loc h r (j + 1) k (v :: vals) h' ((j, h') :: ks) news
  | none => none
theorem dregX_some {v : AV} {h' : Heap} : dregX call n l loc h r j k vals ks news (some (v, h')) = dregK call n l loc h r (j + 1) k (v :: vals) h' ((j, h') :: ks) news := rfl

theorem dregG_pure {op : IOp} (hk : op.kd = .pure) : dregG call n l loc h op r j k vals cur ks news (some true) = dregP call n l loc h r j k vals cur ks news (evPure loc vals cur op) := by
  simp only [dregG, hk]; rfl
theorem dregG_eff {op : IOp} (hk : op.kd = .eff) : dregG call n l loc h op r j k vals cur ks news (some true) = dregX call n l loc h r j k vals ks news (evEff loc vals call cur op) := by
  simp only [dregG, hk]; rfl
theorem dregG_pure_not {op : IOp} (hk : op.kd = .pure) : dregG call n l loc h op r j k vals cur ks news (some false) = dregK call n l loc h r (j + 1) k (.tup [] :: vals) cur ks news := by
  simp only [dregG, hk]
theorem dregG_eff_not {op : IOp} (hk : op.kd = .eff) : dregG call n l loc h op r j k vals cur ks news (some false) = dregK call n l loc h r (j + 1) k (.tup [] :: vals) cur ((j, cur) :: ks) news := by
  simp only [dregG, hk]

theorem d_mov {x : X} : dregG call n l loc h (.mov x) r j k vals cur ks news (some true) = dregK call n l loc h r (j + 1) k (x.eval loc vals :: vals) cur ks news := rfl
theorem d_bin {o : BinOp} {x y : X} : dregG call n l loc h (.bin o x y) r j k vals cur ks news (some true) = dregP call n l loc h r j k vals cur ks news (evPure loc vals cur (.bin o x y)) := rfl
theorem d_eq {o : EqK} {b : Bool} {x y : X} : dregG call n l loc h (.eq o b x y) r j k vals cur ks news (some true) = dregP call n l loc h r j k vals cur ks news (evPure loc vals cur (.eq o b x y)) := rfl
theorem d_pick {c x y : X} : dregG call n l loc h (.pick c x y) r j k vals cur ks news (some true) = dregP call n l loc h r j k vals cur ks news (evPure loc vals cur (.pick c x y)) := rfl
theorem d_un {o : UnOp} {x : X} : dregG call n l loc h (.un o x) r j k vals cur ks news (some true) = dregP call n l loc h r j k vals cur ks news (evPure loc vals cur (.un o x)) := rfl
theorem d_conv {o : IntKind} {x : X} : dregG call n l loc h (.conv o x) r j k vals cur ks news (some true) = dregP call n l loc h r j k vals cur ks news (evPure loc vals cur (.conv o x)) := rfl
theorem d_b2s {x : X} : dregG call n l loc h (.b2s x) r j k vals cur ks news (some true) = dregP call n l loc h r j k vals cur ks news (evPure loc vals cur (.b2s x)) := rfl
theorem d_len {o : LenK} {x : X} : dregG call n l loc h (.len o x) r j k vals cur ks news (some true) = dregP call n l loc h r j k vals cur ks news (evPure loc vals cur (.len o x)) := rfl
theorem d_load {m : Nat} {b : Bool} {x : X} : dregG call n l loc h (.load m b x) r j k vals cur ks news (some true) = dregP call n l loc h r j k vals cur ks news (evPure loc vals cur (.load m b x)) := rfl
theorem d_iaddr {m : Nat} {x y : X} : dregG call n l loc h (.iaddr m x y) r j k vals cur ks news (some true) = dregP call n l loc h r j k vals cur ks news (evPure loc vals cur (.iaddr m x y)) := rfl
theorem d_slice {m : Nat} {x : X} {a b c : Option X} : dregG call n l loc h (.slice m x a b c) r j k vals cur ks news (some true) = dregP call n l loc h r j k vals cur ks news (evPure loc vals cur (.slice m x a b c)) := rfl
theorem d_ext {m : Nat} {x : X} : dregG call n l loc h (.ext m x) r j k vals cur ks news (some true) = dregP call n l loc h r j k vals cur ks news (evPure loc vals cur (.ext m x)) := rfl
theorem d_call {f : Nat} {xs : List X} : dregG call n l loc h (.call f xs) r j k vals cur ks news (some true) = dregX call n l loc h r j k vals ks news (call f (evArgs loc vals xs) cur) := rfl
theorem d_store {m : Nat} {x y : X} : dregG call n l loc h (.store m x y) r j k vals cur ks news (some true) = dregX call n l loc h r j k vals ks news (evEff loc vals call cur (.store m x y)) := rfl

/-! The other moments -/
variable {h0 : Heap} {s : DS} {vs : List AV} {v : AV} {d : Option Nat} {op : IOp} {g : Option (X × Bool)} {c : Option Nat × List Nat} {cs : List (Option Nat × List Nat)}
theorem chk_done {vs : List AV} : chkAll loc h0 s [] vs = true := rfl
theorem chk_none : chkAll loc h0 s (⟨d, op, g, []⟩ :: r) (v :: vs) = chkAll loc h0 s r vs := rfl
def chkG (loc : List AV) (h0 : Heap) (s : DS) (op : IOp) (vs : List AV) (v : AV) (c : List (Option Nat × List Nat)) (g : Option Bool) : Bool :=
  match g with
  | some true => chkOne loc h0 s op vs v c
  | some false => true
  | none => false
theorem chk_some : chkAll loc h0 s (⟨d, op, g, c :: cs⟩ :: r) (v :: vs) = (chkG loc h0 s op vs v (c :: cs) (evGuard loc vs g) && chkAll loc h0 s r vs) := rfl
theorem chkG_true : chkG loc h0 s op vs v cs (some true) = chkOne loc h0 s op vs v cs := rfl
theorem chkG_false : chkG loc h0 s op vs v cs (some false) = true := rfl
def chkH (loc : List AV) (h0 : Heap) (s : DS) (op : IOp) (vs : List AV) (v : AV) (ps : List Nat) (cs : List (Option Nat × List Nat)) (h : Option Heap) : Bool :=
  match h with
  | some h => (match evPure loc vs (withNews s ps h) op with
    | some u => decide (u = v) && chkOne loc h0 s op vs v cs
    | none => false)
  | none => false
def chkV (loc : List AV) (h0 : Heap) (s : DS) (op : IOp) (vs : List AV) (v : AV) (cs : List (Option Nat × List Nat)) (u : Option AV) : Bool :=
  match u with
  | some u => decide (u = v) && chkOne loc h0 s op vs v cs
  | none => false
theorem chkOne_nil : chkOne loc h0 s op vs v [] = true := rfl
theorem chkOne_cons {e : Option Nat} {ps : List Nat} : chkOne loc h0 s op vs v ((e, ps) :: cs) = chkH loc h0 s op vs v ps cs (stage h0 s e) := rfl
theorem chkH_some {ps : List Nat} {h : Heap} : chkH loc h0 s op vs v ps cs (some h) = chkV loc h0 s op vs v cs (evPure loc vs (withNews s ps h) op) := rfl
theorem chkV_same : chkV loc h0 s op vs v cs (some v) = chkOne loc h0 s op vs v cs := by simp [chkV]
theorem stage_none : stage h0 s none = some h0 := rfl
theorem stage_some {e : Nat} {vals : List AV} : stage h0 ⟨vals, cur, ks, news⟩ (some e) = ks.lookup e := rfl
theorem look_hit {α : Type} {e : Nat} {x : α} {l : List (Nat × α)} : List.lookup e ((e, x) :: l) = some x := lookup_eq
theorem look_miss {α : Type} {e e' : Nat} {x : α} {l : List (Nat × α)} (hne : (e == e') = false) : List.lookup e ((e', x) :: l) = List.lookup e l := by
  simp [List.lookup, hne]
theorem news_nil {h : Heap} : withNews s [] h = h := rfl
theorem wb_cons {i : Inst} {vs out : List AV} : writeBack (i :: r) (v :: vs) out = writeBack r vs (setLoc out i.dst v) := rfl
theorem wb_nil {vs out : List AV} : writeBack [] vs out = out := rfl
theorem skip0 : h.skip 0 = h := rfl
theorem asNat_cast {k : IntKind} {n : Nat} : asNat (.c (.int k (n : Int))) = some n := rfl
theorem ofNat_cast {n : Nat} : Int.ofNat n = (n : Int) := rfl
end
section
variable {loc vals : List AV} {h : Heap}
theorem p_bin {o : BinOp} {x y : X} : evPure loc vals h (.bin o x y) = (match x.eval loc vals, y.eval loc vals with
    | .c a, .c b => match binCV o a b with
      | some v => some (.c v)
      | none => none
    | _, _ => none) := rfl
theorem p_pick {c a b : X} : evPure loc vals h (.pick c a b) = (match c.eval loc vals with
    | .c (.bool t) => some (bif t then a.eval loc vals else b.eval loc vals)
    | _ => none) := rfl
theorem p_un {o : UnOp} {x : X} : evPure loc vals h (.un o x) = (match x.eval loc vals with
    | .c a => match unCV o a with
      | some v => some (.c v)
      | none => none
    | _ => none) := rfl
theorem p_eq {k : EqK} {n : Bool} {x y : X} : evPure loc vals h (.eq k n x y) = (match eqVal k (x.eval loc vals) (y.eval loc vals) with
    | some b => some (.c (.bool (bif n then !b else b)))
    | none => none) := rfl
theorem p_conv {k : IntKind} {x : X} : evPure loc vals h (.conv k x) = (match x.eval loc vals with
    | .c (.int _ n) => some (.c (.int k (wrapF k n)))
    | .c (.res u m r) => match u, k with
      | false, .u64 => bif Nat.beq m 0 then none else some (.c (.res true m r))
      | _, _ => none
    | _ => none) := rfl
end
theorem p_iaddr {loc vals : List AV} {h : Heap} {sz : Nat} {x y : X} : evPure loc vals h (.iaddr sz x y) = (match x.eval loc vals, asNat (y.eval loc vals) with
    | .c (.sl i o n _), some j => bif Nat.blt j n then some (.c (.ptr i (o + j * sz))) else none
    | _, _ => none) := rfl
theorem p_load {loc vals : List AV} {h : Heap} {n : Nat} {g : Bool} {x : X} : evPure loc vals h (.load n g x) = (match x.eval loc vals with
    | .c (.ptr i o) => match h.read i o n with
      | some l => AV.ofCells g l
      | none => none
    | _ => none) := rfl
theorem tf : (true == false) = false := rfl
theorem ft : (false == true) = false := rfl
theorem ff : (false == false) = true := rfl

end Lav
