/-
  The words of a small verified interpreter for Go code as the model loads it: abstract values, an abstract heap, an intermediate code, and the evaluator itself. Nothing here speaks of the model's worlds.
-/
import GoSem.Step
namespace Lav
open Go (IntKind BinOp UnOp)

/-- What is known of a slice's capacity: exactly so many elements, or at least its length (elements of 'sz' cells). -/
inductive Cap where
  | ex (k : Nat)
  | dy (sz : Nat)
  deriving DecidableEq, Repr, Inhabited

/-- The value of one cell. Pointers and slices name abstract blocks. -/
inductive CV where
  | bool (b : Bool)
  | int (k : IntKind) (n : Int)
  /-- A number of which only a remainder is known: an int (as a uint), or a uint. -/
  | res (u : Bool) (m r : Nat)
  | str (l : List Nat)
  | nilp
  | ptr (i o : Nat)
  | nils
  | sl (i o len : Nat) (c : Cap)
  | nilch
  | ch (i : Nat)
  | nilf
  | fn (f : Nat) (caps : List (Nat × Nat))
  deriving DecidableEq, Repr, Inhabited

/-- A part of a tuple; an element of a channel. -/
inductive XV where
  | c (v : CV)
  | agg (l : List CV)
  deriving DecidableEq, Repr, Inhabited

/-- The value of a temporary. -/
inductive AV where
  | c (v : CV)
  | agg (l : List CV)
  | tup (l : List XV)
  | junk
  deriving DecidableEq, Repr, Inhabited

/-- A block: cells of our own, cells that may only be read, a channel. -/
inductive Blk where
  | cells (l : List CV)
  | ro (l : List CV)
  | chan (cap : Nat) (buf : List XV)
  deriving Repr, Inhabited

/-! ### The heap: a tree by the numbers' bits -/
inductive Tr (α : Type) where
  | nil
  | node (l : Tr α) (v : Option α) (r : Tr α)
  deriving Repr, Inhabited

def Tr.get {α : Type} : Tr α → Nat → Option α
  | .nil, _ => none
  | .node l v r, n =>
    match n with
    | 0 => v
    | m + 1 =>
      match m % 2 with
      | 0 => l.get (m / 2)
      | _ + 1 => r.get (m / 2)

def Tr.left {α : Type} : Tr α → Tr α
  | .nil => .nil
  | .node l _ _ => l
def Tr.val {α : Type} : Tr α → Option α
  | .nil => none
  | .node _ v _ => v
def Tr.right {α : Type} : Tr α → Tr α
  | .nil => .nil
  | .node _ _ r => r

def Tr.setF {α : Type} (x : Option α) : Nat → Tr α → Nat → Tr α
  | 0, t, _ => t
  | f + 1, t, n =>
    match n with
    | 0 => .node t.left x t.right
    | m + 1 =>
      match m % 2 with
      | 0 => .node (setF x f t.left (m / 2)) t.val t.right
      | _ + 1 => .node t.left t.val (setF x f t.right (m / 2))

def Tr.set {α : Type} (t : Tr α) (n : Nat) (x : Option α) : Tr α := Tr.setF x (n + 1) t n

structure Heap where
  next : Nat
  m : Tr Blk
  deriving Repr, Inhabited

def Heap.empty : Heap := ⟨0, .nil⟩
def Heap.get (h : Heap) (i : Nat) : Option Blk := h.m.get i
def Heap.put (h : Heap) (i : Nat) (b : Blk) : Heap := { h with m := h.m.set i (some b) }
def Heap.kill (h : Heap) (i : Nat) : Heap := { h with m := h.m.set i none }
def Heap.new (h : Heap) (b : Blk) : Heap := { next := h.next + 1, m := h.m.set h.next (some b) }
/-- So many numbers are kept for the allocations of a region. -/
def Heap.skip (h : Heap) (n : Nat) : Heap := { h with next := h.next + n }

/-! ### The code -/
/-- An operand: a local, the value of an operation of the same region (0: the last one), a constant. -/
inductive X where
  | loc (i : Nat)
  | val (d : Nat)
  | k (v : AV)
  deriving Repr, Inhabited

/-- How '==' goes at a type: numbers and strings by themselves, bools, pointers, slices against nil, functions against nil, structs and arrays cell by cell. -/
inductive EqK where
  | prim
  | bool
  | ptr
  | slice
  | func
  | agg (ks : List Bool)
  deriving DecidableEq, Repr, Inhabited

inductive LenK where
  | str | sl | ch
  deriving DecidableEq, Repr, Inhabited

inductive IOp where
  | bad
  | mov (x : X)
  | pick (c a b : X)
  | box (x : X)
  | load (n : Nat) (agg : Bool) (x : X)
  | store (n : Nat) (x v : X)
  | bin (op : BinOp) (x y : X)
  | eq (k : EqK) (neg : Bool) (x y : X)
  | un (op : UnOp) (x : X)
  | conv (k : IntKind) (x : X)
  | b2s (x : X)
  | s2b (x : X)
  | mks (sz : Nat) (zero : List CV) (len cap : X)
  | slice (sz : Nat) (x : X) (lo hi mx : Option X)
  | sstr (x : X) (lo hi : Option X)
  | sarr (n sz : Nat) (x : X) (lo hi : Option X)
  | faddr (off : Nat) (x : X)
  | field (off n : Nat) (agg : Bool) (x : X)
  | iaddr (sz : Nat) (x i : X)
  | iaddrA (sz n : Nat) (x i : X)
  | idxA (sz n : Nat) (agg : Bool) (x i : X)
  | idxS (x i : X)
  | build (zero : List CV) (parts : List (Nat × Nat × X))
  | bsl (len : Nat) (zero : List CV) (parts : List (Nat × Nat × X))
  | ext (i : Nat) (x : X)
  | mkfn (f : Nat) (caps : List X)
  | nilchk (x : X)
  | len (k : LenK) (x : X)
  | mx (args : List X)
  | mn (args : List X)
  | app (sz bytes : Nat) (s x : X)
  | copy (sz : Nat) (d s : X)
  | call (f : Nat) (args : List X)
  | callv (f : X) (args : List X)
  | mkch (bytes : Nat) (n : X)
  | recvd (ch : X) (zero : XV)
  | sendd (ch v : X)
  | send (ch v : X)
  | mark (x : X)
  deriving Repr, Inhabited

/-- One operation: the local that it writes; the operation; its guard; at which other moments of a region that draws its order it must answer the same: behind which effect (none: ahead of all), which blocks of the region are there. -/
structure Inst where
  dst : Option Nat
  op : IOp
  guard : Option (X × Bool)
  chk : List (Option Nat × List Nat)
  deriving Repr, Inhabited

inductive IR where
  | skip
  | reg (l : List Inst)
  | dreg (news : Nat) (l : List Inst)
  | seq (a b : IR)
  | cond (x : X) (a b : IR)
  | block (id : Nat) (a : IR)
  | loop (keep : List Bool) (a : IR)
  | exit (id : Nat)
  | ret
  | bad
  deriving Repr, Inhabited

inductive Ex where
  | norm
  | exit (id : Nat)
  | ret
  deriving DecidableEq, Repr, Inhabited

/-! ### Values -/
def AV.cells : AV → Option (List CV)
  | .c v => some [v]
  | .agg l => some l
  | _ => none

def AV.ofCells (agg : Bool) (l : List CV) : Option AV :=
  match agg with
  | true => some (.agg l)
  | false => match l with
    | [v] => some (.c v)
    | _ => none

def XV.av : XV → AV
  | .c v => .c v
  | .agg l => .agg l
def AV.xv : AV → Option XV
  | .c v => some (.c v)
  | .agg l => some (.agg l)
  | _ => none

/-- Numbers below this one are as they are at the kind. -/
def lim : IntKind → Nat
  | .i8 => 128
  | .i16 => 32768
  | .i32 => 2147483648
  | .i64 => 9223372036854775808
  | .u8 => 256
  | .u16 => 65536
  | .u32 => 4294967296
  | .u64 => 18446744073709551616

/-- 'wrap', told at once where nothing is cut. -/
def wrapF (k : IntKind) (n : Int) : Int :=
  match n with
  | .ofNat m => bif Nat.blt m (lim k) then .ofNat m else k.wrap (.ofNat m)
  | .negSucc m => bif k.signed && Nat.blt m (lim k) then .negSucc m else k.wrap (.negSucc m)

theorem wrapF_eq (k : IntKind) (n : Int) : wrapF k n = k.wrap n := by
  cases n with
  | ofNat m =>
    simp only [wrapF]
    cases hb : Nat.blt m (lim k) with
    | false => rfl
    | true =>
      have hlt : m < lim k := Nat.lt_of_succ_le (Nat.le_of_ble_eq_true hb)
      simp only [cond_true]
      cases k <;> simp only [lim] at hlt <;> simp only [IntKind.wrap, IntKind.bits, IntKind.signed] <;> simp <;> omega
  | negSucc m =>
    simp only [wrapF]
    cases hb : (k.signed && Nat.blt m (lim k)) with
    | false => rfl
    | true =>
      simp only [Bool.and_eq_true] at hb
      have hlt : m < lim k := Nat.lt_of_succ_le (Nat.le_of_ble_eq_true hb.2)
      have hs := hb.1
      simp only [cond_true]
      cases k <;> simp [IntKind.signed] at hs <;> simp only [lim] at hlt <;> simp only [IntKind.wrap, IntKind.bits, IntKind.signed] <;> simp <;> omega

def iltb (a b : Int) : Bool :=
  match a, b with
  | .ofNat m, .ofNat n => Nat.blt m n
  | .negSucc _, .ofNat _ => true
  | .ofNat _, .negSucc _ => false
  | .negSucc m, .negSucc n => Nat.blt n m

theorem iltb_eq (a b : Int) : iltb a b = decide (a < b) := by
  have key : ∀ m n : Nat, Nat.blt m n = decide (m < n) := fun m n => by
    cases h : Nat.blt m n with
    | true => exact (decide_eq_true (Nat.lt_of_succ_le (Nat.le_of_ble_eq_true h))).symm
    | false =>
      refine (decide_eq_false fun hl => ?_).symm
      rw [show Nat.blt m n = true from Nat.ble_eq_true_of_le hl] at h; cases h
  cases a with
  | ofNat m =>
    cases b with
    | ofNat n =>
      simp only [iltb, key]
      have : (Int.ofNat m < Int.ofNat n) = (m < n) := propext Int.ofNat_lt
      simp only [this]
    | negSucc n =>
      have : ¬ (Int.ofNat m < Int.negSucc n) := by have h1 : (0 : Int) ≤ Int.ofNat m := Int.natCast_nonneg m; have h2 := Int.negSucc_lt_zero n; omega
      simp only [iltb, this, decide_false]
  | negSucc m =>
    cases b with
    | ofNat n =>
      have : Int.negSucc m < Int.ofNat n := by have h1 : (0 : Int) ≤ Int.ofNat n := Int.natCast_nonneg n; have h2 := Int.negSucc_lt_zero m; omega
      simp only [iltb, this, decide_true]
    | negSucc n =>
      have : (Int.negSucc m < Int.negSucc n) = (n < m) := by
        have e1 : Int.negSucc m = -((m : Int) + 1) := rfl
        have e2 : Int.negSucc n = -((n : Int) + 1) := rfl
        rw [e1, e2]; apply propext; omega
      simp only [iltb, key, this]

def intArith (op : BinOp) (k : IntKind) (a b : Int) : Option CV :=
  match op with
  | .add => some (.int k (k.wrap (a + b)))
  | .sub => some (.int k (k.wrap (a - b)))
  | .mul => some (.int k (k.wrap (a * b)))
  | .quo => bif b == 0 then none else some (.int k (k.wrap (a.tdiv b)))
  | .rem => bif b == 0 then none else some (.int k (a.tmod b))
  | .and => some (.int k (k.wrap (BitVec.ofInt k.bits a &&& BitVec.ofInt k.bits b).toNat))
  | .or => some (.int k (k.wrap (BitVec.ofInt k.bits a ||| BitVec.ofInt k.bits b).toNat))
  | .xor => some (.int k (k.wrap (BitVec.ofInt k.bits a ^^^ BitVec.ofInt k.bits b).toNat))
  | .andNot => some (.int k (k.wrap (BitVec.ofInt k.bits a &&& ~~~(BitVec.ofInt k.bits b)).toNat))
  | .eql => some (.bool (a == b))
  | .neq => some (.bool (a != b))
  | .lss => some (.bool (decide (a < b)))
  | .leq => some (.bool (decide (a ≤ b)))
  | .gtr => some (.bool (decide (a > b)))
  | .geq => some (.bool (decide (a ≥ b)))
  | _ => none

def shift (op : BinOp) (k : IntKind) (a b : Int) : Option CV :=
  bif decide (b < 0) then none else
  match op with
  | .shl => some (.int k (k.wrap (a * 2 ^ (min b.toNat k.bits))))
  | .shr => some (.int k (a.fdiv (2 ^ (min b.toNat k.bits))))
  | _ => none

/-- The same, told faster. -/
def intArithF (op : BinOp) (k : IntKind) (a b : Int) : Option CV :=
  match op with
  | .add => some (.int k (wrapF k (a + b)))
  | .sub => some (.int k (wrapF k (a - b)))
  | .mul => some (.int k (wrapF k (a * b)))
  | .quo => bif b == 0 then none else some (.int k (wrapF k (a.tdiv b)))
  | .rem => bif b == 0 then none else some (.int k (a.tmod b))
  | .and => some (.int k (wrapF k (BitVec.ofInt k.bits a &&& BitVec.ofInt k.bits b).toNat))
  | .or => some (.int k (wrapF k (BitVec.ofInt k.bits a ||| BitVec.ofInt k.bits b).toNat))
  | .xor => some (.int k (wrapF k (BitVec.ofInt k.bits a ^^^ BitVec.ofInt k.bits b).toNat))
  | .eql => some (.bool (a == b))
  | .neq => some (.bool (a != b))
  | .lss => some (.bool (iltb a b))
  | .leq => some (.bool (!(iltb b a)))
  | .gtr => some (.bool (iltb b a))
  | .geq => some (.bool (!(iltb a b)))
  | op => intArith op k a b

theorem intArithF_eq (op : BinOp) (k : IntKind) (a b : Int) : intArithF op k a b = intArith op k a b := by
  have nlt : ∀ a b : Int, (!(decide (b < a))) = decide (a ≤ b) := fun a b => by
    by_cases h : a ≤ b
    · rw [decide_eq_true h, decide_eq_false (by omega)]; rfl
    · rw [decide_eq_false h, decide_eq_true (by omega)]; rfl
  cases op <;> simp only [intArithF, intArith, wrapF_eq, iltb_eq, nlt, GT.gt, GE.ge]

def shiftF (op : BinOp) (k : IntKind) (a b : Int) : Option CV :=
  bif iltb b 0 then none else
  match op with
  | .shl => some (.int k (wrapF k (a * 2 ^ (min b.toNat k.bits))))
  | .shr => some (.int k (a.fdiv (2 ^ (min b.toNat k.bits))))
  | _ => none

theorem shiftF_eq (op : BinOp) (k : IntKind) (a b : Int) : shiftF op k a b = shift op k a b := by
  cases op <;> simp only [shiftF, shift, wrapF_eq, iltb_eq]

def isShift : BinOp → Bool
  | .shl | .shr => true
  | _ => false

def binCV (op : BinOp) (x y : CV) : Option CV :=
  match x, y with
  | .int k a, .int k' b => bif isShift op then shiftF op k a b else bif k == k' then intArithF op k a b else none
  | .str a, .str b =>
    match op with
    | .add => bif Nat.ble (a.length + b.length) 1073741824 then some (.str (a ++ b)) else none
    | .eql => some (.bool (a == b))
    | .neq => some (.bool (!(a == b)))
    | _ => none
  | .res u m r, .int k b => match op, u, k, b with
    | .rem, true, .u64, .ofNat (q + 1) => bif m % (q + 1) == 0 then some (.int .u64 (Int.ofNat (r % (q + 1)))) else none
    | _, _, _, _ => none
  | _, _ => none

/-- Numbers (true) and bools (false) cell by cell. -/
def eqCells : List Bool → List CV → List CV → Option Bool
  | [], [], [] => some true
  | true :: ks, .int k a :: l, .int k' b :: m => bif k == k' then (match eqCells ks l m with | some r => some (a == b && r) | none => none) else none
  | false :: ks, .bool a :: l, .bool b :: m => match eqCells ks l m with | some r => some (a == b && r) | none => none
  | _, _, _ => none

def eqVal (k : EqK) (x y : AV) : Option Bool :=
  match k, x, y with
  | .bool, .c (.bool a), .c (.bool b) => some (a == b)
  | .ptr, .c .nilp, .c .nilp => some true
  | .ptr, .c .nilp, .c (.ptr _ _) => some false
  | .ptr, .c (.ptr _ _), .c .nilp => some false
  | .slice, .c .nils, .c .nils => some true
  | .slice, .c .nils, .c (.sl _ _ _ _) => some false
  | .slice, .c (.sl _ _ _ _), .c .nils => some false
  | .func, .c .nilf, .c .nilf => some true
  | .func, .c .nilf, .c (.fn _ _) => some false
  | .func, .c (.fn _ _), .c .nilf => some false
  | .agg ks, .agg l, .agg m => eqCells ks l m
  | _, _, _ => none

def unCV (op : UnOp) (x : CV) : Option CV :=
  match op, x with
  | .neg, .int k n => intArithF .sub k 0 n
  | .xor, .int k n => intArithF .xor k (if k.signed then -1 else k.max) n
  | .not, .bool b => some (.bool !b)
  | _, _ => none

def asNat (x : AV) : Option Nat :=
  match x with
  | .c (.int _ n) => match n with
    | .ofNat m => some m
    | .negSucc _ => none
  | _ => none

/-- bytes of a text out of cells -/
def bytesOf : List CV → Option (List Nat)
  | [] => some []
  | .int .u8 (.ofNat n) :: l => bif Nat.blt n 256 then (match bytesOf l with | some r => some (n :: r) | none => none) else none
  | _ => none

def byteCells (l : List Nat) : List CV := l.map fun n => .int .u8 (Int.ofNat n)

/-- so many zeros -/
def zeros (n : Nat) (zero : List CV) : List CV :=
  match n with
  | 0 => []
  | m + 1 => zero ++ zeros m zero

/-- A stretch of cells. -/
def cut (l : List CV) (o n : Nat) : Option (List CV) :=
  bif Nat.ble (o + n) l.length then some ((l.drop o).take n) else none

def setMany : List CV → Nat → List CV → List CV
  | l, _, [] => l
  | l, o, v :: vs => setMany (l.set o v) (o + 1) vs

def patch (l : List CV) (o : Nat) (vs : List CV) : Option (List CV) :=
  bif Nat.ble (o + vs.length) l.length then some (setMany l o vs) else none

def Heap.read (h : Heap) (i o n : Nat) : Option (List CV) :=
  match h.get i with
  | some (.cells l) => cut l o n
  | some (.ro l) => cut l o n
  | _ => none

def Heap.write (h : Heap) (i o : Nat) (vs : List CV) : Option Heap :=
  match h.get i with
  | some (.cells l) => match patch l o vs with
    | some l' => some (h.put i (.cells l'))
    | none => none
  | _ => none

/-- The operands of an operation. -/
def IOp.xs : IOp → List X
  | .bad => []
  | .mov x | .box x | .load _ _ x | .un _ x | .conv _ x | .b2s x | .s2b x | .faddr _ x | .field _ _ _ x | .ext _ x | .nilchk x | .len _ x | .mkch _ x | .recvd x _ | .mark x => [x]
  | .pick c a b => [c, a, b]
  | .store _ x v | .bin _ x v | .eq _ _ x v | .mks _ _ x v | .iaddr _ x v | .iaddrA _ _ x v | .idxA _ _ _ x v | .idxS x v | .app _ _ x v | .copy _ x v | .sendd x v | .send x v => [x, v]
  | .slice _ x lo hi m => x :: (lo.toList ++ hi.toList ++ m.toList)
  | .sstr x lo hi | .sarr _ _ x lo hi => x :: (lo.toList ++ hi.toList)
  | .build _ ps | .bsl _ _ ps => ps.map fun p => p.2.2
  | .mkfn _ l | .mx l | .mn l | .call _ l => l
  | .callv f l => f :: l

/-! ### Operations -/
section
variable (loc vals : List AV)

def X.eval : X → AV
  | .loc i => loc.getD i .junk
  | .val d => vals.getD d .junk
  | .k v => v

def evalParts : List (Nat × Nat × X) → Option (List (Nat × List CV))
  | [] => some []
  | (o, n, x) :: r =>
    match (x.eval loc vals).cells with
    | some l => bif l.length == n then (match evalParts r with | some t => some ((o, l) :: t) | none => none) else none
    | none => none

def fillParts (l : List CV) : List (Nat × List CV) → Option (List CV)
  | [] => some l
  | (o, vs) :: r => match patch l o vs with
    | some l' => fillParts l' r
    | none => none

def evalCaps : List X → Option (List (Nat × Nat))
  | [] => some []
  | x :: r => match x.eval loc vals with
    | .c (.ptr i o) => match evalCaps r with
      | some t => some ((i, o) :: t)
      | none => none
    | _ => none

def bound (x : Option X) (dflt : Nat) : Option Nat :=
  match x with
  | none => some dflt
  | some x => asNat (x.eval loc vals)

def foldInt (f : Int → Int → Int) : AV → List X → Option AV
  | a, [] => some a
  | .c (.int k a), x :: r => match x.eval loc vals with
    | .c (.int k' b) => bif k == k' then foldInt f (.c (.int k (f a b))) r else none
    | _ => none
  | _, _ => none

/-- Operations that leave the heap alone and whose answer hangs on the operands, and for loads on the heap. -/
def evPure (h : Heap) : IOp → Option AV
  | .mov x => some (x.eval loc vals)
  | .pick c a b => match c.eval loc vals with
    | .c (.bool t) => some (bif t then a.eval loc vals else b.eval loc vals)
    | _ => none
  | .load n agg x => match x.eval loc vals with
    | .c (.ptr i o) => match h.read i o n with
      | some l => AV.ofCells agg l
      | none => none
    | _ => none
  | .bin op x y => match x.eval loc vals, y.eval loc vals with
    | .c a, .c b => match binCV op a b with
      | some v => some (.c v)
      | none => none
    | _, _ => none
  | .eq k neg x y => match eqVal k (x.eval loc vals) (y.eval loc vals) with
    | some b => some (.c (.bool (bif neg then !b else b)))
    | none => none
  | .un op x => match x.eval loc vals with
    | .c a => match unCV op a with
      | some v => some (.c v)
      | none => none
    | _ => none
  | .conv k x => match x.eval loc vals with
    | .c (.int _ n) => some (.c (.int k (wrapF k n)))
    | .c (.res u m r) => match u, k with
      | false, .u64 => bif Nat.beq m 0 then none else some (.c (.res true m r))
      | _, _ => none
    | _ => none
  | .b2s x => match x.eval loc vals with
    | .c .nils => some (.c (.str []))
    | .c (.sl i o len _) => match h.read i o len with
      | some l => match bytesOf l with
        | some r => some (.c (.str r))
        | none => none
      | none => match len with
        | 0 => some (.c (.str []))
        | _ + 1 => none
    | _ => none
  | .slice sz x lo hi mx => match x.eval loc vals with
    | .c (.sl i o len c) =>
      match bound loc vals lo 0, bound loc vals hi len with
      | some l, some r =>
        match mx, c with
        | none, .dy sz' => bif Nat.ble l r && Nat.ble r len && sz == sz' then some (.c (.sl i (o + l * sz) (r - l) (.dy sz))) else none
        | none, .ex k => bif Nat.ble l r && Nat.ble r k then some (.c (.sl i (o + l * sz) (r - l) (.ex (k - l)))) else none
        | some m, .dy _ => match asNat (m.eval loc vals) with
          | some m => bif Nat.ble l r && Nat.ble r m && Nat.ble m len then some (.c (.sl i (o + l * sz) (r - l) (.ex (m - l)))) else none
          | none => none
        | some m, .ex k => match asNat (m.eval loc vals) with
          | some m => bif Nat.ble l r && Nat.ble r m && Nat.ble m k then some (.c (.sl i (o + l * sz) (r - l) (.ex (m - l)))) else none
          | none => none
      | _, _ => none
    | .c .nils =>
      match bound loc vals lo 0, bound loc vals hi 0, bound loc vals mx 0 with
      | some 0, some 0, some 0 => some (.c .nils)
      | _, _, _ => none
    | _ => none
  | .sstr x lo hi => match x.eval loc vals with
    | .c (.str s) => match bound loc vals lo 0, bound loc vals hi s.length with
      | some l, some r => bif Nat.ble l r && Nat.ble r s.length then some (.c (.str ((s.drop l).take (r - l)))) else none
      | _, _ => none
    | _ => none
  | .sarr n sz x lo hi => match x.eval loc vals with
    | .c (.ptr i o) => match bound loc vals lo 0, bound loc vals hi n with
      | some l, some r => bif Nat.ble l r && Nat.ble r n then some (.c (.sl i (o + l * sz) (r - l) (.ex (n - l)))) else none
      | _, _ => none
    | _ => none
  | .faddr off x => match x.eval loc vals with
    | .c (.ptr i o) => some (.c (.ptr i (o + off)))
    | _ => none
  | .field off n agg x => match x.eval loc vals with
    | .agg l => match cut l off n with
      | some r => AV.ofCells agg r
      | none => none
    | _ => none
  | .iaddr sz x i => match x.eval loc vals, asNat (i.eval loc vals) with
    | .c (.sl b o len _), some j => bif Nat.blt j len then some (.c (.ptr b (o + j * sz))) else none
    | _, _ => none
  | .iaddrA sz n x i => match x.eval loc vals, asNat (i.eval loc vals) with
    | .c (.ptr b o), some j => bif Nat.blt j n then some (.c (.ptr b (o + j * sz))) else none
    | _, _ => none
  | .idxA sz n agg x i => match x.eval loc vals, asNat (i.eval loc vals) with
    | .agg l, some j => bif Nat.blt j n then (match cut l (j * sz) sz with
      | some r => AV.ofCells agg r
      | none => none) else none
    | _, _ => none
  | .idxS x i => match x.eval loc vals, asNat (i.eval loc vals) with
    | .c (.str s), some j => match s[j]? with
      | some b => some (.c (.int .u8 (Int.ofNat b)))
      | none => none
    | _, _ => none
  | .build zero parts => match evalParts loc vals parts with
    | some ps => match fillParts zero ps with
      | some l => some (.agg l)
      | none => none
    | none => none
  | .ext i x => match x.eval loc vals with
    | .tup l => match l[i]? with
      | some v => some v.av
      | none => none
    | _ => none
  | .mkfn f caps => match evalCaps loc vals caps with
    | some l => some (.c (.fn f l))
    | none => none
  | .nilchk x => match x.eval loc vals with
    | .c (.ptr i o) => some (.c (.ptr i o))
    | .c (.fn f l) => some (.c (.fn f l))
    | _ => none
  | .len k x => match k, x.eval loc vals with
    | .str, .c (.str s) => some (.c (.int .i64 (Int.ofNat s.length)))
    | .sl, .c .nils => some (.c (.int .i64 0))
    | .sl, .c (.sl _ _ n _) => some (.c (.int .i64 (Int.ofNat n)))
    | .ch, .c .nilch => some (.c (.int .i64 0))
    | .ch, .c (.ch i) => match h.get i with
      | some (.chan _ buf) => some (.c (.int .i64 (Int.ofNat buf.length)))
      | _ => none
    | _, _ => none
  | .mx args => match args with
    | x :: r => match x.eval loc vals with
      | .c (.int k n) => foldInt loc vals (fun a b => if b > a then b else a) (.c (.int k n)) r
      | _ => none
    | _ => none
  | .mn args => match args with
    | x :: r => match x.eval loc vals with
      | .c (.int k n) => foldInt loc vals (fun a b => if b < a then b else a) (.c (.int k n)) r
      | _ => none
    | _ => none
  | _ => none

/-- Operations that make one new block and leave all others alone: the answer as a function of the new block's number, the block. -/
def evNew : IOp → Option ((Nat → AV) × Blk)
  | .box x => match (x.eval loc vals).cells with
    | some l => some ((fun i => .c (.ptr i 0)), .cells l)
    | none => none
  | .s2b x => match x.eval loc vals with
    | .c (.str s) => some ((fun i => .c (.sl i 0 s.length (.dy 1))), .cells (byteCells s))
    | _ => none
  | .mks sz zero len cap => match asNat (len.eval loc vals), asNat (cap.eval loc vals) with
    | some l, some c => bif Nat.ble l c && Nat.ble c 1073741824 && zero.length == sz then some ((fun i => .c (.sl i 0 l (.ex c))), .cells (zeros c zero)) else none
    | _, _ => none
  | .bsl len zero parts => match evalParts loc vals parts with
    | some ps => match fillParts (zeros len zero) ps with
      | some l => some ((fun i => .c (.sl i 0 len (.ex len))), .cells l)
      | none => none
    | none => none
  | .mkch _ n => match asNat (n.eval loc vals) with
    | some m => bif Nat.ble m 1048576 then some ((fun i => .c (.ch i)), .chan m []) else none
    | none => none
  | _ => none

/-- The cells that an append or a copy takes: of a slice, of a text. -/
def source (h : Heap) (sz : Nat) (x : AV) : Option (Nat × List CV) :=
  match x with
  | .c .nils => some (0, [])
  | .c (.sl i o n _) => match h.read i o (n * sz) with
    | some l => some (n, l)
    | none => match n with
      | 0 => some (0, [])
      | _ + 1 => none
  | .c (.str s) => bif sz == 1 then some (s.length, byteCells s) else none
  | _ => none

def evApp (h : Heap) (sz : Nat) (s x : AV) : Option (AV × Heap) :=
  match source h sz x with
  | none => none
  | some (n, new) =>
    match s with
    | .c .nils => match n with
      | 0 => some (.c .nils, h)
      | _ + 1 => bif Nat.ble n 1073741824 then some (.c (.sl h.next 0 n (.dy sz)), h.new (.cells new)) else none
    | .c (.sl i o len c) =>
      match n with
      | 0 => some (.c (.sl i o len c), h)
      | _ + 1 =>
        bif Nat.ble (len + n) 1073741824 then
          match c with
          | .ex k =>
            bif Nat.ble (len + n) k then
              match h.write i (o + len * sz) new with
              | some h' => some (.c (.sl i o (len + n) (.ex k)), h')
              | none => none
            else match h.read i o (len * sz) with
              | some old => some (.c (.sl h.next 0 (len + n) (.dy sz)), h.new (.cells (old ++ new)))
              | none => none
          | .dy sz' =>
            match h.get i with
            | some (.cells l) =>
              bif sz == sz' && o + len * sz == l.length then some (.c (.sl h.next 0 (len + n) (.dy sz)), (h.kill i).new (.cells (l.drop o ++ new))) else none
            | _ => none
        else none
    | _ => none

def evCopy (h : Heap) (sz : Nat) (d s : AV) : Option (AV × Heap) :=
  match source h sz s with
  | none => none
  | some (n, new) =>
    match d with
    | .c .nils => some (.c (.int .i64 0), h)
    | .c (.sl i o len _) =>
      match h.write i o (new.take (min n len * sz)) with
      | some h' => some (.c (.int .i64 (Int.ofNat (min n len))), h')
      | none => none
    | _ => none

def evComm (h : Heap) : IOp → Option (AV × Heap)
  | .recvd ch zero => match ch.eval loc vals with
    | .c (.ch i) => match h.get i with
      | some (.chan cap buf) => match buf with
        | [] => some (.tup [.c (.int .i64 (-1)), .c (.bool false), zero], h)
        | v :: rest => some (.tup [.c (.int .i64 0), .c (.bool true), v], h.put i (.chan cap rest))
      | _ => none
    | _ => none
  | .sendd ch v => match ch.eval loc vals, (v.eval loc vals).xv with
    | .c (.ch i), some x => match h.get i with
      | some (.chan cap buf) => bif Nat.blt buf.length cap then some (.tup [.c (.int .i64 0), .c (.bool false)], h.put i (.chan cap (buf ++ [x])))
          else some (.tup [.c (.int .i64 (-1)), .c (.bool false)], h)
      | _ => none
    | _, _ => none
  | .send ch v => match ch.eval loc vals, (v.eval loc vals).xv with
    | .c (.ch i), some x => match h.get i with
      | some (.chan cap buf) => bif Nat.blt buf.length cap then some (.tup [], h.put i (.chan cap (buf ++ [x]))) else none
      | _ => none
    | _, _ => none
  | _ => none

def evArgs (xs : List X) : List AV := xs.map (X.eval loc vals)

def capVals (l : List (Nat × Nat)) : List AV := l.map fun p => .c (.ptr p.1 p.2)

/-- The kinds of operations. -/
inductive Kd where
  | pure | new | eff
  deriving DecidableEq, Repr

def IOp.kd : IOp → Kd
  | .box _ | .s2b _ | .mks .. | .bsl .. | .mkch .. => .new
  | .store .. | .app .. | .copy .. | .call .. | .callv .. | .recvd .. | .sendd .. | .send .. | .mark .. | .bad => .eff
  | _ => .pure

variable (call : Nat → List AV → Heap → Option (AV × Heap))

def evEff (h : Heap) (op : IOp) : Option (AV × Heap) :=
  match op with
  | .store n x v => match x.eval loc vals, (v.eval loc vals).cells with
    | .c (.ptr i o), some l => bif l.length == n then (match h.write i o l with
      | some h' => some (.tup [], h')
      | none => none) else none
    | _, _ => none
  | .app sz _ s x => evApp h sz (s.eval loc vals) (x.eval loc vals)
  | .copy sz d s => evCopy h sz (d.eval loc vals) (s.eval loc vals)
  | .call f args => call f (evArgs loc vals args) h
  | .callv f args => match f.eval loc vals with
    | .c (.fn g caps) => call g (evArgs loc vals args ++ capVals caps) h
    | _ => none
  | .recvd a b => evComm loc vals h (.recvd a b)
  | .sendd a b => evComm loc vals h (.sendd a b)
  | .send a b => evComm loc vals h (.send a b)
  | .mark x => match x.eval loc vals with
    | .c (.sl i o n c) => match h.get i with
      | some (.cells _) => bif Nat.ble 1 n then some (.c (.sl i o n c), h) else none
      | _ => none
    | _ => none
  | _ => none

def evOp (h : Heap) (op : IOp) : Option (AV × Heap) :=
  match op.kd with
  | .pure => match evPure loc vals h op with
    | some v => some (v, h)
    | none => none
  | .new => match evNew loc vals op with
    | some (f, b) => some (f h.next, h.new b)
    | none => none
  | .eff => evEff loc vals call h op

/-- some true: wanted; some false: not wanted. -/
def evGuard (g : Option (X × Bool)) : Option Bool :=
  match g with
  | none => some true
  | some (x, want) => match x.eval loc vals with
    | .c (.bool b) => some (b == want)
    | .tup [] => some false
    | _ => none
end

/-- A region in the order of its text. -/
def evRun (call : Nat → List AV → Heap → Option (AV × Heap)) (loc : List AV) : List Inst → List AV → Heap → Option (List AV × Heap)
  | [], vals, h => some (vals, h)
  | i :: r, vals, h =>
    match evGuard loc vals i.guard with
    | none => none
    | some false => evRun call loc r (.tup [] :: vals) h
    | some true => match evOp loc vals call h i.op with
      | some (v, h') => evRun call loc r (v :: vals) h'
      | none => none

/-- A region that draws its order, in the order of its text: the values (the last one first), the heap, the heap behind each effect, the blocks that were made. -/
structure DS where
  vals : List AV
  cur : Heap
  ks : List (Nat × Heap)
  news : List (Nat × Nat × Blk)
  deriving Inhabited

def evRunD (call : Nat → List AV → Heap → Option (AV × Heap)) (loc : List AV) (base : Nat) : List Inst → Nat → Nat → DS → Option DS
  | [], _, _, s => some s
  | i :: r, j, k, s =>
    match evGuard loc s.vals i.guard with
    | none => none
    | some g =>
      match i.op.kd with
      | .pure =>
        match g with
        | false => evRunD call loc base r (j + 1) k ⟨.tup [] :: s.vals, s.cur, s.ks, s.news⟩
        | true => match evPure loc s.vals s.cur i.op with
          | some v => evRunD call loc base r (j + 1) k ⟨v :: s.vals, s.cur, s.ks, s.news⟩
          | none => none
      | .new =>
        match g with
        | false => evRunD call loc base r (j + 1) (k + 1) ⟨.tup [] :: s.vals, s.cur, s.ks, s.news⟩
        | true => match evNew loc s.vals i.op with
          | some (f, b) => evRunD call loc base r (j + 1) (k + 1) ⟨f (base + k) :: s.vals, s.cur.put (base + k) b, s.ks, (j, base + k, b) :: s.news⟩
          | none => none
      | .eff =>
        match g with
        | false => evRunD call loc base r (j + 1) k ⟨.tup [] :: s.vals, s.cur, (j, s.cur) :: s.ks, s.news⟩
        | true => match evEff loc s.vals call s.cur i.op with
          | some (v, h') => evRunD call loc base r (j + 1) k ⟨v :: s.vals, h', (j, h') :: s.ks, s.news⟩
          | none => none

/-- The heap of a moment: behind an effect, with some of the blocks that were made. -/
def stage (h0 : Heap) (s : DS) (e : Option Nat) : Option Heap :=
  match e with
  | none => some h0
  | some e => s.ks.lookup e

def withNews (s : DS) : List Nat → Heap → Heap
  | [], h => h
  | p :: r, h => match s.news.lookup p with
    | some (i, b) => withNews s r (h.put i b)
    | none => withNews s r h

def chkOne (loc : List AV) (h0 : Heap) (s : DS) (op : IOp) (vals : List AV) (v : AV) : List (Option Nat × List Nat) → Bool
  | [] => true
  | (e, ps) :: r =>
    match stage h0 s e with
    | some h => match evPure loc vals (withNews s ps h) op with
      | some u => decide (u = v) && chkOne loc h0 s op vals v r
      | none => false
    | none => false

/-- The moments of each operation; the operations and their values from the last one on. -/
def chkAll (loc : List AV) (h0 : Heap) (s : DS) : List Inst → List AV → Bool
  | [], _ => true
  | i :: r, vals =>
    match vals with
    | [] => false
    | v :: vs =>
      (match i.chk with
       | [] => true
       | c :: cs => match evGuard loc vs i.guard with
         | some true => chkOne loc h0 s i.op vs v (c :: cs)
         | some false => true
         | none => false) && chkAll loc h0 s r vs

def setLoc (loc : List AV) (d : Option Nat) (v : AV) : List AV :=
  match d with
  | some d => loc.set d v
  | none => loc

/-- What the locals hold behind a region: the values in the order of its text. -/
def writeBack : List Inst → List AV → List AV → List AV
  | [], _, loc => loc
  | i :: r, v :: vals, loc => writeBack r vals (setLoc loc i.dst v)
  | _ :: _, [], loc => loc

/-- Locals that are not kept are forgotten (an empty list keeps all). -/
def keepOnly : List Bool → List AV → List AV
  | b :: m, v :: r => (bif b then v else .junk) :: keepOnly m r
  | _, r => r

section
variable (call : Nat → List AV → Heap → Option (AV × Heap))

def evLoop (body : List AV → Heap → Option (Ex × List AV × Heap)) (keep : List Bool) : Nat → List AV → Heap → Option (Ex × List AV × Heap)
  | 0, _, _ => none
  | n + 1, loc, h =>
    match body (keepOnly keep loc) h with
    | some (.norm, loc', h') => evLoop body keep n loc' h'
    | r => r

def evReg (l : List Inst) (loc : List AV) (h : Heap) : Option (Ex × List AV × Heap) :=
  match evRun call loc l [] h with
  | some (vals, h') => some (.norm, writeBack l vals.reverse loc, h')
  | none => none

def evDReg (n : Nat) (l : List Inst) (loc : List AV) (h : Heap) : Option (Ex × List AV × Heap) :=
  match evRunD call loc h.next l 0 0 ⟨[], h.skip n, [], []⟩ with
  | some s => bif chkAll loc (h.skip n) s l.reverse s.vals then some (.norm, writeBack l s.vals.reverse loc, s.cur) else none
  | none => none

def ev (N : Nat) : IR → List AV → Heap → Option (Ex × List AV × Heap)
  | .skip, loc, h => some (.norm, loc, h)
  | .reg l, loc, h => evReg call l loc h
  | .dreg n l, loc, h => evDReg call n l loc h
  | .seq a b, loc, h => match ev N a loc h with
    | some (.norm, loc', h') => ev N b loc' h'
    | r => r
  | .cond x a b, loc, h => match x.eval loc [] with
    | .c (.bool true) => ev N a loc h
    | .c (.bool false) => ev N b loc h
    | _ => none
  | .block id a, loc, h => match ev N a loc h with
    | some (.exit j, loc', h') => some (bif j == id then .norm else .exit j, loc', h')
    | r => r
  | .loop keep a, loc, h => evLoop (ev N a) keep N loc h
  | .exit id, loc, h => some (.exit id, loc, h)
  | .ret, loc, h => some (.ret, loc, h)
  | .bad, _, _ => none
end

inductive RV where
  | loc (i : Nat)
  | cell (i n : Nat) (agg : Bool)
  deriving Repr, Inhabited

structure IRF where
  slots : List Nat
  nparams : Nat
  results : List RV
  body : IR
  deriving Repr, Inhabited

def RV.eval (loc : List AV) (h : Heap) : RV → Option AV
  | .loc i => some (loc.getD i .junk)
  | .cell i n agg => match loc.getD i .junk with
    | .c (.ptr b o) => match h.read b o n with
      | some l => AV.ofCells agg l
      | none => none
    | _ => none

def evResults (loc : List AV) (h : Heap) : List RV → Option (List XV)
  | [] => some []
  | r :: rs => match r.eval loc h with
    | some v => match v.xv with
      | some x => match evResults loc h rs with
        | some xs => some (x :: xs)
        | none => none
      | none => none
    | none => none

def result (loc : List AV) (h : Heap) : List RV → Option AV
  | [r] => r.eval loc h
  | rs => match evResults loc h rs with
    | some xs => some (.tup xs)
    | none => none

def enter (slots : List Nat) (args : List AV) : List AV := slots.map fun s => args.getD s (.tup [])

def evCall (table : List (Nat × IRF)) (N : Nat) : Nat → Nat → List AV → Heap → Option (AV × Heap)
  | 0, _, _, _ => none
  | d + 1, f, args, h =>
    match table.lookup f with
    | none => none
    | some F =>
      bif args.length == F.nparams then
        match ev (evCall table N d) N F.body (enter F.slots args) h with
        | some (.norm, loc, h') => match result loc h' F.results with
          | some r => some (r, h')
          | none => none
        | some (.ret, loc, h') => match result loc h' F.results with
          | some r => some (r, h')
          | none => none
        | _ => none
      else none

end Lav
