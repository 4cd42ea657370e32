/-
  The evaluator once more, written for the kernel's eye: recursors and small closed arms; that it is the same.
-/
import Derived.Test.YtdilhnnbfkiacaaFwT
set_option linter.unusedSimpArgs false
namespace Lav
open Go (IntKind BinOp UnOp)

abbrev Call := Nat → List AV → Heap → Option (AV × Heap)
abbrev Op2 := List AV → List AV → Call → Heap → Option (AV × Heap)

/-! ### Operands -/
noncomputable def nth (l : List AV) : Nat → AV := List.rec (fun _ => AV.junk) (fun v _ ih i => Nat.casesOn i v ih) l

theorem nth_eq : ∀ (l : List AV) (i : Nat), nth l i = l.getD i .junk
  | [], _ => rfl
  | _ :: _, 0 => rfl
  | _ :: l, i + 1 => (nth_eq l i : nth l i = l.getD i .junk)

noncomputable def xF (x : X) : List AV → List AV → AV := X.casesOn x (fun i loc _ => nth loc i) (fun d _ vals => nth vals d) (fun v _ _ => v)

theorem xF_eq (x : X) (loc vals : List AV) : xF x loc vals = x.eval loc vals := by
  cases x with
  | loc i => exact nth_eq loc i
  | val d => exact nth_eq vals d
  | k v => rfl

/-! ### Numbers -/
theorem nbeq (m n : Nat) : Nat.beq m n = (m == n) := by
  cases h : Nat.beq m n with
  | true => exact (beq_iff_eq.2 (Nat.eq_of_beq_eq_true h)).symm
  | false => exact (beq_eq_false_iff_ne.2 (Nat.ne_of_beq_eq_false h)).symm
def kn : IntKind → Nat
  | .i8 => 0 | .i16 => 1 | .i32 => 2 | .i64 => 3 | .u8 => 4 | .u16 => 5 | .u32 => 6 | .u64 => 7
def keqF (a b : IntKind) : Bool := Nat.beq (kn a) (kn b)
theorem keqF_eq (a b : IntKind) : keqF a b = (a == b) := by cases a <;> cases b <;> rfl

def ieqF (a b : Int) : Bool :=
  match a with
  | .ofNat m => match b with | .ofNat n => Nat.beq m n | .negSucc _ => false
  | .negSucc m => match b with | .ofNat _ => false | .negSucc n => Nat.beq m n
theorem ieqF_eq (a b : Int) : ieqF a b = (a == b) := by
  have key : ∀ m n : Nat, Nat.beq m n = decide (m = n) := fun m n => by
    cases h : Nat.beq m n with
    | true => exact (decide_eq_true (Nat.eq_of_beq_eq_true h)).symm
    | false => exact (decide_eq_false (Nat.ne_of_beq_eq_false h)).symm
  cases a with
  | ofNat m =>
    cases b with
    | ofNat n =>
      simp only [ieqF, key]
      by_cases e : m = n
      · subst e; simp
      · have : ¬ (Int.ofNat m = Int.ofNat n) := fun q => e (Int.ofNat.inj q)
        simp only [e, decide_false]; exact (beq_eq_false_iff_ne.2 this).symm
    | negSucc n => rfl
  | negSucc m =>
    cases b with
    | ofNat n => rfl
    | negSucc n =>
      simp only [ieqF, key]
      by_cases e : m = n
      · subst e; simp
      · have : ¬ (Int.negSucc m = Int.negSucc n) := fun q => e (Int.negSucc.inj q)
        simp only [e, decide_false]; exact (beq_eq_false_iff_ne.2 this).symm

def bAdd (k : IntKind) (a b : Int) : Option CV := some (.int k (wrapF k (Int.add a b)))
def bSub (k : IntKind) (a b : Int) : Option CV := some (.int k (wrapF k (Int.sub a b)))
def bMul (k : IntKind) (a b : Int) : Option CV := some (.int k (wrapF k (Int.mul a b)))
def bRem (k : IntKind) (a b : Int) : Option CV := bif ieqF b 0 then none else some (.int k (Int.tmod a b))
def bQuo (k : IntKind) (a b : Int) : Option CV := bif ieqF b 0 then none else some (.int k (wrapF k (Int.tdiv a b)))
def bEql (_ : IntKind) (a b : Int) : Option CV := some (.bool (ieqF a b))
def bNeq (_ : IntKind) (a b : Int) : Option CV := some (.bool (!(ieqF a b)))
def bLss (_ : IntKind) (a b : Int) : Option CV := some (.bool (iltb a b))
def bLeq (_ : IntKind) (a b : Int) : Option CV := some (.bool (!(iltb b a)))
def bGtr (_ : IntKind) (a b : Int) : Option CV := some (.bool (iltb b a))
def bGeq (_ : IntKind) (a b : Int) : Option CV := some (.bool (!(iltb a b)))

def bF (o : BinOp) : IntKind → Int → Int → Option CV :=
  match o with
  | .add => bAdd | .sub => bSub | .mul => bMul | .quo => bQuo | .rem => bRem | .eql => bEql | .neq => bNeq | .lss => bLss | .leq => bLeq | .gtr => bGtr | .geq => bGeq
  | .and => intArithF .and | .or => intArithF .or | .xor => intArithF .xor | .andNot => intArithF .andNot
  | .shl => intArithF .shl | .shr => intArithF .shr
theorem bF_eq (o : BinOp) (k : IntKind) (a b : Int) : bF o k a b = intArithF o k a b := by
  cases o <;> simp only [bF, bAdd, bSub, bMul, bQuo, bRem, bEql, bNeq, bLss, bLeq, bGtr, bGeq, intArithF, ieqF_eq] <;> rfl

def cInt (o : BinOp) (k : IntKind) (a : Int) (y : CV) : Option CV :=
  match y with
  | .int k' b => bif isShift o then shiftF o k a b else bif keqF k k' then bF o k a b else none
  | y => binCV o (.int k a) y
def cvF (o : BinOp) (x y : CV) : Option CV :=
  match x with
  | .int k a => cInt o k a y
  | x => binCV o x y
theorem cvF_eq (o : BinOp) (x y : CV) : cvF o x y = binCV o x y := by
  cases x with
  | int k a =>
    cases y with
    | int k' b => simp only [cvF, cInt, binCV, keqF_eq, bF_eq]
    | _ => rfl
  | _ => rfl

/-! ### Operations -/
def okF (h : Heap) (v : Option AV) : Option (AV × Heap) := match v with | some v => some (v, h) | none => none
def cOk (h : Heap) (v : Option CV) : Option (AV × Heap) := match v with | some v => some (.c v, h) | none => none

def bin2 (o : BinOp) (h : Heap) (a : CV) (v : AV) : Option (AV × Heap) := match v with | .c b => cOk h (cvF o a b) | _ => none
def bin1 (o : BinOp) (h : Heap) (u v : AV) : Option (AV × Heap) := match u with | .c a => bin2 o h a v | _ => none
noncomputable def fBin (o : BinOp) (x y : X) : Op2 := fun loc vals _ h => bin1 o h (xF x loc vals) (xF y loc vals)
noncomputable def fMov (x : X) : Op2 := fun loc vals _ h => some (xF x loc vals, h)
def pick1 (h : Heap) (a b c : AV) : Option (AV × Heap) := match c with | .c (.bool t) => some (bif t then a else b, h) | _ => none
noncomputable def fPick (c x y : X) : Op2 := fun loc vals _ h => pick1 h (xF x loc vals) (xF y loc vals) (xF c loc vals)
def load1 (n : Nat) (g : Bool) (h : Heap) (u : AV) : Option (AV × Heap) := match u with
  | .c (.ptr i o) => match h.read i o n with
    | some l => okF h (AV.ofCells g l)
    | none => none
  | _ => none
noncomputable def fLoad (n : Nat) (g : Bool) (x : X) : Op2 := fun loc vals _ h => load1 n g h (xF x loc vals)
def iaddr2 (sz : Nat) (h : Heap) (i o n : Nat) (v : AV) : Option (AV × Heap) := match asNat v with
  | some j => bif Nat.blt j n then some (.c (.ptr i (o + j * sz)), h) else none
  | none => none
def iaddr1 (sz : Nat) (h : Heap) (u v : AV) : Option (AV × Heap) := match u with
  | .c (.sl i o n _) => iaddr2 sz h i o n v
  | _ => none
noncomputable def fIaddr (sz : Nat) (x y : X) : Op2 := fun loc vals _ h => iaddr1 sz h (xF x loc vals) (xF y loc vals)
noncomputable def fCall (f : Nat) (l : List X) : Op2 := fun loc vals call h => call f (List.rec [] (fun x _ ih => xF x loc vals :: ih) l) h
def fSlow (op : IOp) : Op2 := fun loc vals call h => evOp loc vals call h op

theorem fBin_eq (o : BinOp) (x y : X) (loc vals : List AV) (call : Call) (h : Heap) : fBin o x y loc vals call h = evOp loc vals call h (.bin o x y) := by
  simp only [fBin, xF_eq, evOp, IOp.kd, evPure]
  cases x.eval loc vals <;> cases y.eval loc vals <;> simp only [bin1, bin2, cOk, cvF_eq]
  rename_i a b
  cases binCV o a b <;> rfl
theorem fMov_eq (x : X) (loc vals : List AV) (call : Call) (h : Heap) : fMov x loc vals call h = evOp loc vals call h (.mov x) := by
  simp only [fMov, xF_eq, evOp, IOp.kd, evPure]
theorem fPick_eq (c x y : X) (loc vals : List AV) (call : Call) (h : Heap) : fPick c x y loc vals call h = evOp loc vals call h (.pick c x y) := by
  simp only [fPick, xF_eq, evOp, IOp.kd, evPure]
  cases c.eval loc vals with
  | c v => cases v <;> rfl
  | _ => rfl
theorem fLoad_eq (n : Nat) (g : Bool) (x : X) (loc vals : List AV) (call : Call) (h : Heap) : fLoad n g x loc vals call h = evOp loc vals call h (.load n g x) := by
  simp only [fLoad, xF_eq, evOp, IOp.kd, evPure]
  cases x.eval loc vals with
  | c v =>
    cases v with
    | ptr i o =>
      simp only [load1]
      cases h.read i o n with
      | none => rfl
      | some l => cases AV.ofCells g l <;> rfl
    | _ => rfl
  | _ => rfl
theorem fCall_eq (f : Nat) (l : List X) (loc vals : List AV) (call : Call) (h : Heap) : fCall f l loc vals call h = evOp loc vals call h (.call f l) := by
  show call f _ h = call f _ h
  congr 1
  induction l with
  | nil => rfl
  | cons x l ih =>
    show xF x loc vals :: _ = x.eval loc vals :: _
    rw [xF_eq]; congr 1

noncomputable def opF (op : IOp) : Op2 :=
  match op with
  | .mov x => fMov x
  | .bin o x y => fBin o x y
  | .pick c x y => fPick c x y
  | .load n g x => fLoad n g x
  | .call f l => fCall f l
  | op => fSlow op

theorem opF_eq (op : IOp) (loc vals : List AV) (call : Call) (h : Heap) : opF op loc vals call h = evOp loc vals call h op := by
  cases op with
  | mov x => exact fMov_eq x loc vals call h
  | bin o x y => exact fBin_eq o x y loc vals call h
  | pick c x y => exact fPick_eq c x y loc vals call h
  | load n g x => exact fLoad_eq n g x loc vals call h
  | call f l => exact fCall_eq f l loc vals call h
  | _ => rfl

/-! ### Regions -/
def guard1 (want : Bool) (v : AV) : Option Bool := match v with
  | .c (.bool b) => some (b == want)
  | .tup [] => some false
  | _ => none
noncomputable def gF (g : Option (X × Bool)) : List AV → List AV → Option Bool :=
  match g with
  | none => fun _ _ => some true
  | some (x, want) => fun loc vals => guard1 want (xF x loc vals)
theorem gF_eq (g : Option (X × Bool)) (loc vals : List AV) : gF g loc vals = evGuard loc vals g := by
  cases g with
  | none => rfl
  | some p =>
    obtain ⟨x, want⟩ := p
    simp only [gF, xF_eq, evGuard, guard1]
    rfl

abbrev RunK := List AV → Heap → Option (List AV × Heap)
def run2 (ih : RunK) (vals : List AV) (r : Option (AV × Heap)) : Option (List AV × Heap) := match r with
  | some (v, h') => ih (v :: vals) h'
  | none => none
def run1 (op : Op2) (loc : List AV) (call : Call) (ih : RunK) (vals : List AV) (h : Heap) (g : Option Bool) : Option (List AV × Heap) := match g with
  | none => none
  | some false => ih (.tup [] :: vals) h
  | some true => run2 ih vals (op loc vals call h)
noncomputable def runC (call : Call) (loc : List AV) (i : Inst) (_ : List Inst) (ih : RunK) : RunK := fun vals h => run1 (opF i.op) loc call ih vals h (gF i.guard loc vals)
noncomputable def runF (call : Call) (loc : List AV) (l : List Inst) : RunK := List.rec (fun vals h => some (vals, h)) (runC call loc) l

theorem runF_eq (call : Call) (loc : List AV) : ∀ (l : List Inst) (vals : List AV) (h : Heap), runF call loc l vals h = evRun call loc l vals h
  | [], _, _ => rfl
  | i :: l, vals, h => by
    have ih := runF_eq call loc l
    show run1 (opF i.op) loc call (runF call loc l) vals h (gF i.guard loc vals) = _
    rw [gF_eq]
    simp only [evRun, run1]
    cases evGuard loc vals i.guard with
    | none => rfl
    | some b =>
      cases b with
      | false => exact ih _ _
      | true =>
        simp only [opF_eq]
        cases evOp loc vals call h i.op with
        | none => rfl
        | some p => exact ih _ _

/-! ### Code -/
abbrev EvK := List AV → Heap → Option (Ex × List AV × Heap)
def regF (l : List Inst) (loc : List AV) (r : Option (List AV × Heap)) : Option (Ex × List AV × Heap) := match r with
  | some (vals, h') => some (.norm, writeBack l vals.reverse loc, h')
  | none => none
def seqF (ihb : EvK) (r : Option (Ex × List AV × Heap)) : Option (Ex × List AV × Heap) := match r with
  | some (.norm, loc', h') => ihb loc' h'
  | r => r
def condF (iha ihb : EvK) (loc : List AV) (h : Heap) (v : AV) : Option (Ex × List AV × Heap) := match v with
  | .c (.bool true) => iha loc h
  | .c (.bool false) => ihb loc h
  | _ => none
noncomputable def evF (call : Call) (N : Nat) (c : IR) : EvK :=
  IR.rec (motive := fun _ => EvK) (fun loc h => some (.norm, loc, h)) (fun l loc h => regF l loc (runF call loc l [] h)) (fun n l loc h => evDReg call n l loc h) (fun _ _ iha ihb loc h => seqF ihb (iha loc h))
    (fun x _ _ iha ihb loc h => condF iha ihb loc h (xF x loc [])) (fun id _ iha loc h => blockK id (iha loc h)) (fun keep _ iha loc h => evLoop iha keep N loc h) (fun id loc h => some (.exit id, loc, h)) (fun loc h => some (.ret, loc, h)) (fun _ _ => none) c

theorem evF_eq (call : Call) (N : Nat) : ∀ (c : IR) (loc : List AV) (h : Heap), evF call N c loc h = ev call N c loc h := by
  intro c
  induction c with
  | skip => intro loc h; rfl
  | reg l =>
    intro loc h
    show regF l loc (runF call loc l [] h) = evReg call l loc h
    rw [runF_eq]; rfl
  | dreg n l => intro loc h; rfl
  | seq a b iha ihb =>
    intro loc h
    show seqF (evF call N b) (evF call N a loc h) = _
    rw [iha, show evF call N b = ev call N b from funext fun l => funext fun h => ihb l h]; rfl
  | cond x a b iha ihb =>
    intro loc h
    show condF (evF call N a) (evF call N b) loc h (xF x loc []) = _
    rw [xF_eq, show evF call N a = ev call N a from funext fun l => funext fun h => iha l h, show evF call N b = ev call N b from funext fun l => funext fun h => ihb l h]; rfl
  | block id a iha =>
    intro loc h
    show blockK id (evF call N a loc h) = _
    rw [iha]; rfl
  | loop keep a iha =>
    intro loc h
    show evLoop (evF call N a) keep N loc h = _
    rw [show evF call N a = ev call N a from funext fun l => funext fun h => iha l h]; rfl
  | exit id => intro loc h; rfl
  | ret => intro loc h; rfl
  | bad => intro loc h; rfl

noncomputable def bodyF (call : Call) (N : Nat) (F : IRF) (args : List AV) (h : Heap) : Option (AV × Heap) :=
  bif Nat.beq args.length F.nparams then finish F (evF call N F.body (enter F.slots args) h) else none
noncomputable def callF1 (call : Call) (N : Nat) (args : List AV) (h : Heap) (F : Option IRF) : Option (AV × Heap) := match F with
  | none => none
  | some F => bodyF call N F args h
noncomputable def lookF (table : List (Nat × IRF)) (f : Nat) : Option IRF := List.rec none (fun p _ ih => bif Nat.beq f p.1 then some p.2 else ih) table
noncomputable def evCallF (table : List (Nat × IRF)) (N : Nat) (d : Nat) : Call := Nat.rec (fun _ _ _ => none) (fun _ ih f args h => callF1 ih N args h (lookF table f)) d

theorem lookF_eq (f : Nat) : ∀ table : List (Nat × IRF), lookF table f = table.lookup f
  | [] => rfl
  | p :: l => by
    show (bif Nat.beq f p.1 then some p.2 else lookF l f) = _
    rw [lookF_eq f l]
    obtain ⟨a, b⟩ := p
    simp only [List.lookup]
    rw [nbeq]
    cases f == a <;> rfl

theorem evCallF_eq (table : List (Nat × IRF)) (N : Nat) : ∀ d, evCallF table N d = evCall table N d
  | 0 => rfl
  | d + 1 => by
    funext f args h
    show callF1 (evCallF table N d) N args h (lookF table f) = _
    rw [evCallF_eq table N d, lookF_eq]
    simp only [evCall, callF1]
    cases table.lookup f with
    | none => rfl
    | some F =>
      simp only [bodyF, evF_eq]
      rw [nbeq]; rfl
end Lav
