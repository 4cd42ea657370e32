/-
  The evaluator, step by step, for symbolic values: each law hands on without looking ahead.
-/
import Derived.Test.YtdilhnnbfkiacaaFw1
namespace Lav
open Go (IntKind BinOp UnOp)

def finish (F : IRF) (r : Option (Ex × List AV × Heap)) : Option (AV × Heap) :=
  match r with
  | some (.norm, loc, h') => match result loc h' F.results with
    | some r => some (r, h')
    | none => none
  | some (.ret, loc, h') => match result loc h' F.results with
    | some r => some (r, h')
    | none => none
  | _ => none


/-- A function's body, begun. -/
def bodyK (call : Nat → List AV → Heap → Option (AV × Heap)) (N : Nat) (F : IRF) (args : List AV) (h : Heap) : Option (AV × Heap) := finish F (ev call N F.body (enter F.slots args) h)

theorem evCall_eq {table : List (Nat × IRF)} {N d f : Nat} {F : IRF} {args : List AV} {h : Heap} (hl : table.lookup f = some F) (hn : (args.length == F.nparams) = true) :
    evCall table N (d + 1) f args h = bodyK (evCall table N d) N F args h := by
  simp only [evCall, hl, hn, cond_true]; rfl

theorem bodyK_eq {call : Nat → List AV → Heap → Option (AV × Heap)} {N : Nat} {s : List Nat} {n : Nat} {rs : List RV} {b : IR} {args : List AV} {h : Heap} :
    bodyK call N ⟨s, n, rs, b⟩ args h = finish ⟨s, n, rs, .skip⟩ (ev call N b (enter s args) h) := rfl

def outK (h : Heap) (r : Option AV) : Option (AV × Heap) := match r with | some r => some (r, h) | none => none
theorem outK_some {h : Heap} {v : AV} : outK h (some v) = some (v, h) := rfl
theorem finish_norm {F : IRF} {loc : List AV} {h : Heap} : finish F (some (.norm, loc, h)) = outK h (result loc h F.results) := rfl
theorem finish_ret {F : IRF} {loc : List AV} {h : Heap} : finish F (some (.ret, loc, h)) = outK h (result loc h F.results) := rfl

section
variable {call : Nat → List AV → Heap → Option (AV × Heap)} {N : Nat} {loc vals : List AV} {h : Heap}

def seqK (call : Nat → List AV → Heap → Option (AV × Heap)) (N : Nat) (b : IR) (r : Option (Ex × List AV × Heap)) : Option (Ex × List AV × Heap) :=
  match r with
  | some (.norm, loc', h') => ev call N b loc' h'
  | r => r
theorem ev_seq {a b : IR} : ev call N (.seq a b) loc h = seqK call N b (ev call N a loc h) := rfl
theorem seqK_norm {b : IR} : seqK call N b (some (.norm, loc, h)) = ev call N b loc h := rfl
theorem seqK_exit {b : IR} {j : Nat} : seqK call N b (some (.exit j, loc, h)) = some (.exit j, loc, h) := rfl
theorem seqK_ret {b : IR} : seqK call N b (some (.ret, loc, h)) = some (.ret, loc, h) := rfl

def condK (call : Nat → List AV → Heap → Option (AV × Heap)) (N : Nat) (a b : IR) (loc : List AV) (h : Heap) (v : AV) : Option (Ex × List AV × Heap) :=
  match v with
  | .c (.bool true) => ev call N a loc h
  | .c (.bool false) => ev call N b loc h
  | _ => none
theorem ev_cond {x : X} {a b : IR} : ev call N (.cond x a b) loc h = condK call N a b loc h (x.eval loc []) := rfl
theorem condK_true {a b : IR} : condK call N a b loc h (.c (.bool true)) = ev call N a loc h := rfl
theorem condK_false {a b : IR} : condK call N a b loc h (.c (.bool false)) = ev call N b loc h := rfl

def blockK (id : Nat) (r : Option (Ex × List AV × Heap)) : Option (Ex × List AV × Heap) :=
  match r with
  | some (.exit j, loc', h') => some (bif j == id then .norm else .exit j, loc', h')
  | r => r
theorem ev_block {id : Nat} {a : IR} : ev call N (.block id a) loc h = blockK id (ev call N a loc h) := rfl
theorem blockK_norm {id : Nat} : blockK id (some (.norm, loc, h)) = some (.norm, loc, h) := rfl
theorem blockK_ret {id : Nat} : blockK id (some (.ret, loc, h)) = some (.ret, loc, h) := rfl
theorem blockK_exit {id j : Nat} : blockK id (some (.exit j, loc, h)) = some (bif j == id then .norm else .exit j, loc, h) := rfl
theorem blockK_exit_eq {id : Nat} : blockK id (some (.exit id, loc, h)) = some (.norm, loc, h) := by simp [blockK]

def loopK (call : Nat → List AV → Heap → Option (AV × Heap)) (N : Nat) (keep : List Bool) (a : IR) (n : Nat) (loc : List AV) (h : Heap) : Option (Ex × List AV × Heap) := evLoop (ev call N a) keep n loc h
def loopN (call : Nat → List AV → Heap → Option (AV × Heap)) (N : Nat) (keep : List Bool) (a : IR) (n : Nat) (r : Option (Ex × List AV × Heap)) : Option (Ex × List AV × Heap) :=
  match r with
  | some (.norm, loc', h') => loopK call N keep a n loc' h'
  | r => r
theorem ev_loop {keep : List Bool} {a : IR} : ev call N (.loop keep a) loc h = loopK call N keep a N loc h := rfl
theorem loopK_succ {keep : List Bool} {a : IR} {n : Nat} : loopK call N keep a (n + 1) loc h = loopN call N keep a n (ev call N a (keepOnly keep loc) h) := rfl
theorem loopN_norm {keep : List Bool} {a : IR} {n : Nat} : loopN call N keep a n (some (.norm, loc, h)) = loopK call N keep a n loc h := rfl
theorem loopN_exit {keep : List Bool} {a : IR} {n j : Nat} : loopN call N keep a n (some (.exit j, loc, h)) = some (.exit j, loc, h) := rfl
theorem loopN_ret {keep : List Bool} {a : IR} {n : Nat} : loopN call N keep a n (some (.ret, loc, h)) = some (.ret, loc, h) := rfl

theorem ev_skip : ev call N .skip loc h = some (.norm, loc, h) := rfl
theorem ev_exit {id : Nat} : ev call N (.exit id) loc h = some (.exit id, loc, h) := rfl
theorem ev_ret : ev call N .ret loc h = some (.ret, loc, h) := rfl

/-! Regions -/
/-- Where the locals stand is kept beside the values: each operation writes its own at once. -/
def regK (call : Nat → List AV → Heap → Option (AV × Heap)) (loc : List AV) (l : List Inst) (vals out : List AV) (h : Heap) : Option (Ex × List AV × Heap) :=
  match evRun call loc l vals h with
  | some (vs, h') => some (.norm, writeBack l (vs.reverse.drop vals.length) out, h')
  | none => none

theorem evRun_length {l : List Inst} : ∀ {vals vs : List AV} {h h' : Heap}, evRun call loc l vals h = some (vs, h') → ∃ ws, vs = ws ++ vals ∧ ws.length = l.length := by
  induction l with
  | nil => intro vals vs h h' he; simp [evRun] at he; exact ⟨[], by simp [he.1], rfl⟩
  | cons i r ih =>
    intro vals vs h h' he
    have step : ∀ {v : AV} {h1 : Heap}, evRun call loc r (v :: vals) h1 = some (vs, h') → ∃ ws, vs = ws ++ vals ∧ ws.length = (i :: r).length := by
      intro v h1 h2
      obtain ⟨ws, e1, e2⟩ := ih h2
      exact ⟨ws ++ [v], by simp [e1], by simp [e2]⟩
    simp only [evRun] at he
    split at he
    · cases he
    · exact step he
    · split at he
      · exact step he
      · cases he

def regG (call : Nat → List AV → Heap → Option (AV × Heap)) (loc : List AV) (i : Inst) (r : List Inst) (vals out : List AV) (h : Heap) (g : Option Bool) : Option (Ex × List AV × Heap) :=
  match g with
  | none => none
  | some false => regK call loc r (.tup [] :: vals) (setLoc out i.dst (.tup [])) h
  | some true => match evOp loc vals call h i.op with
    | some (v, h') => regK call loc r (v :: vals) (setLoc out i.dst v) h'
    | none => none

def regO (call : Nat → List AV → Heap → Option (AV × Heap)) (loc : List AV) (d : Option Nat) (r : List Inst) (vals out : List AV) (x : Option (AV × Heap)) : Option (Ex × List AV × Heap) :=
  match x with
  | some (v, h') => regK call loc r (v :: vals) (setLoc out d v) h'
  | none => none

theorem ev_reg {l : List Inst} : ev call N (.reg l) loc h = regK call loc l [] loc h := by
  simp only [ev, evReg, regK, List.length_nil, List.drop_zero]
  rfl

theorem regK_nil {out : List AV} : regK call loc [] vals out h = some (.norm, out, h) := rfl

theorem regK_cons {d : Option Nat} {op : IOp} {g : Option (X × Bool)} {c : List (Option Nat × List Nat)} {r : List Inst} {out : List AV} : regK call loc (⟨d, op, g, c⟩ :: r) vals out h = regG call loc ⟨d, op, g, c⟩ r vals out h (evGuard loc vals g) := by
  have back : ∀ {v : AV} {h1 : Heap}, (match evRun call loc r (v :: vals) h1 with
      | some (vs, h') => some (Ex.norm, writeBack (⟨d, op, g, c⟩ :: r) (vs.reverse.drop vals.length) out, h')
      | none => none) = regK call loc r (v :: vals) (setLoc out d v) h1 := by
    intro v h1
    simp only [regK]
    split
    · rename_i vs h' he
      obtain ⟨ws, rfl, hl⟩ := evRun_length he
      have e1 : (ws ++ v :: vals).reverse.drop vals.length = v :: ws.reverse := by
        rw [List.reverse_append, List.reverse_cons, List.append_assoc]
        exact List.drop_left' (by simp)
      have e2 : (ws ++ v :: vals).reverse.drop (v :: vals).length = ws.reverse := by
        rw [List.reverse_append]
        exact List.drop_left' (by simp)
      rw [e1, e2]; rfl
    · rfl
  simp only [regK, evRun, regG]
  cases hg : evGuard loc vals g with
  | none => rfl
  | some b =>
    cases b with
    | false => exact back
    | true =>
      cases ho : evOp loc vals call h op with
      | none => rfl
      | some p => obtain ⟨v, h'⟩ := p; exact back

theorem regG_true {d : Option Nat} {op : IOp} {g : Option (X × Bool)} {c : List (Option Nat × List Nat)} {r : List Inst} {out : List AV} : regG call loc ⟨d, op, g, c⟩ r vals out h (some true) = regO call loc d r vals out (evOp loc vals call h op) := rfl
theorem regG_false {d : Option Nat} {op : IOp} {g : Option (X × Bool)} {c : List (Option Nat × List Nat)} {r : List Inst} {out : List AV} : regG call loc ⟨d, op, g, c⟩ r vals out h (some false) = regK call loc r (.tup [] :: vals) (setLoc out d (.tup [])) h := rfl
theorem regO_some {d : Option Nat} {r : List Inst} {out : List AV} {v : AV} : regO call loc d r vals out (some (v, h)) = regK call loc r (v :: vals) (setLoc out d v) h := rfl

theorem guard_none : evGuard loc vals none = some true := rfl
theorem guard_some {x : X} {want : Bool} : evGuard loc vals (some (x, want)) = (match x.eval loc vals with
    | .c (.bool b) => some (b == want)
    | .tup [] => some false
    | _ => none) := rfl

/-! Operations -/
def pureK (h : Heap) (v : Option AV) : Option (AV × Heap) := match v with | some v => some (v, h) | none => none
theorem pureK_some {v : AV} : pureK h (some v) = some (v, h) := rfl
theorem op_mov {x : X} : evOp loc vals call h (.mov x) = some (x.eval loc vals, h) := rfl
theorem op_bin {o : BinOp} {x y : X} : evOp loc vals call h (.bin o x y) = pureK h (evPure loc vals h (.bin o x y)) := rfl
theorem op_pick {c x y : X} : evOp loc vals call h (.pick c x y) = pureK h (evPure loc vals h (.pick c x y)) := rfl
theorem op_un {o : UnOp} {x : X} : evOp loc vals call h (.un o x) = pureK h (evPure loc vals h (.un o x)) := rfl
theorem op_conv {k : IntKind} {x : X} : evOp loc vals call h (.conv k x) = pureK h (evPure loc vals h (.conv k x)) := rfl
theorem op_eq {k : EqK} {b : Bool} {x y : X} : evOp loc vals call h (.eq k b x y) = pureK h (evPure loc vals h (.eq k b x y)) := rfl
theorem op_len {k : LenK} {x : X} : evOp loc vals call h (.len k x) = pureK h (evPure loc vals h (.len k x)) := rfl
theorem op_ext {k : Nat} {x : X} : evOp loc vals call h (.ext k x) = pureK h (evPure loc vals h (.ext k x)) := rfl
theorem op_load {n : Nat} {g : Bool} {x : X} : evOp loc vals call h (.load n g x) = pureK h (evPure loc vals h (.load n g x)) := rfl
theorem op_iaddr {n : Nat} {x y : X} : evOp loc vals call h (.iaddr n x y) = pureK h (evPure loc vals h (.iaddr n x y)) := rfl
theorem op_slice {n : Nat} {x : X} {a b c : Option X} : evOp loc vals call h (.slice n x a b c) = pureK h (evPure loc vals h (.slice n x a b c)) := rfl
theorem op_b2s {x : X} : evOp loc vals call h (.b2s x) = pureK h (evPure loc vals h (.b2s x)) := rfl
theorem op_idxS {x y : X} : evOp loc vals call h (.idxS x y) = pureK h (evPure loc vals h (.idxS x y)) := rfl
theorem op_mx {l : List X} : evOp loc vals call h (.mx l) = pureK h (evPure loc vals h (.mx l)) := rfl
theorem op_mn {l : List X} : evOp loc vals call h (.mn l) = pureK h (evPure loc vals h (.mn l)) := rfl
theorem op_call {f : Nat} {l : List X} : evOp loc vals call h (.call f l) = call f (evArgs loc vals l) h := rfl
theorem op_store {n : Nat} {x y : X} : evOp loc vals call h (.store n x y) = evEff loc vals call h (.store n x y) := rfl
theorem op_app {n m : Nat} {x y : X} : evOp loc vals call h (.app n m x y) = evApp h n (x.eval loc vals) (y.eval loc vals) := rfl
theorem op_copy {n : Nat} {x y : X} : evOp loc vals call h (.copy n x y) = evCopy h n (x.eval loc vals) (y.eval loc vals) := rfl
def newK (h : Heap) (r : Option ((Nat → AV) × Blk)) : Option (AV × Heap) := match r with | some (f, b) => some (f h.next, h.new b) | none => none
theorem newK_some {f : Nat → AV} {b : Blk} : newK h (some (f, b)) = some (f h.next, h.new b) := rfl
theorem op_box {x : X} : evOp loc vals call h (.box x) = newK h (evNew loc vals (.box x)) := rfl
theorem op_bsl {n : Nat} {z : List CV} {ps : List (Nat × Nat × X)} : evOp loc vals call h (.bsl n z ps) = newK h (evNew loc vals (.bsl n z ps)) := rfl
theorem op_mks {n : Nat} {z : List CV} {x y : X} : evOp loc vals call h (.mks n z x y) = newK h (evNew loc vals (.mks n z x y)) := rfl
theorem op_s2b {x : X} : evOp loc vals call h (.s2b x) = newK h (evNew loc vals (.s2b x)) := rfl

theorem args_eq {xs : List X} : evArgs loc vals xs = xs.map (X.eval loc vals) := rfl
theorem enter_eq {s : List Nat} {args : List AV} : enter s args = s.map (fun i => args.getD i (.tup [])) := rfl
theorem result_one' {r : RV} : result loc h [r] = r.eval loc h := rfl
theorem rv_loc {i : Nat} : RV.eval loc h (.loc i) = some (loc.getD i .junk) := rfl
theorem set_none {v : AV} : setLoc loc none v = loc := rfl
theorem set_some {v : AV} {i : Nat} : setLoc loc (some i) v = loc.set i v := rfl
theorem keep_true {m : List Bool} {v : AV} {r : List AV} : keepOnly (true :: m) (v :: r) = v :: keepOnly m r := rfl
theorem keep_false {m : List Bool} {v : AV} {r : List AV} : keepOnly (false :: m) (v :: r) = .junk :: keepOnly m r := rfl
theorem keep_nil {r : List AV} : keepOnly [] r = r := by cases r <;> rfl
end
end Lav
