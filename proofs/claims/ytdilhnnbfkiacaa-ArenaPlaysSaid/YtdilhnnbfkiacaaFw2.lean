/-
  The compiler from the model's code to the intermediate code, over a program's own table of types. What it can't take becomes 'bad', at which the evaluator has no answer.
-/
import Derived.Test.YtdilhnnbfkiacaaFw1
import GoSem.Step
namespace Lav
open Go (IntKind BinOp UnOp Value Program TypeId Operand Op Oper Code Func Builtin Edge)

/-! ### Constants -/
def absC : Value → Option CV
  | .bool b => some (.bool b)
  | .int k n => some (.int k n)
  | .string s => some (.str (s.data.toList.map UInt8.toNat))
  | .pointer none => some .nilp
  | .slice none 0 0 => some .nils
  | .chan none => some .nilch
  | .nilFunc => some .nilf
  | .func (.func f) first caps => bif first.size == 0 && caps.size == 0 then some (.fn f []) else none
  | _ => none

def absCs : List Value → Option (List CV)
  | [] => some []
  | v :: r => match absC v with
    | some c => match absCs r with
      | some t => some (c :: t)
      | none => none
    | none => none

def absV : Value → Option AV
  | .agg cs => match absCs cs.toList with
    | some l => some (.agg l)
    | none => none
  | .tuple vs => bif vs.size == 0 then some (.tup []) else none
  | v => match absC v with
    | some c => some (.c c)
    | none => none

/-! ### Operands -/
def noDup : List Nat → Bool
  | [] => true
  | x :: r => !(r.contains x) && noDup r


def posOf (ds : List (Option Nat)) (t : Nat) : Option Nat :=
  match ds with
  | [] => none
  | d :: r => match d with
    | some u => bif u == t then some 0 else (match posOf r t with | some i => some (i + 1) | none => none)
    | none => match posOf r t with | some i => some (i + 1) | none => none

def slotOf (slots : List Nat) (t : Nat) : Option Nat :=
  match slots with
  | [] => none
  | u :: r => bif u == t then some 0 else (match slotOf r t with | some i => some (i + 1) | none => none)

section
variable (P : Program) (slots : List Nat)

def cX (ds : List (Option Nat)) : Operand → Option X
  | .tmp t => match posOf ds t with
    | some d => some (.val d)
    | none => match slotOf slots t with
      | some i => some (.loc i)
      | none => none
  | .const v => match absV v with
    | some a => some (.k a)
    | none => none
  | .func f => some (.k (.c (.fn f [])))
  | .global _ => none

def cXo (ds : List (Option Nat)) : Option Operand → Option (Option X)
  | none => some none
  | some x => match cX slots ds x with
    | some y => some (some y)
    | none => none

def cXs (ds : List (Option Nat)) : List Operand → Option (List X)
  | [] => some []
  | x :: r => match cX slots ds x with
    | some y => match cXs ds r with
      | some t => some (y :: t)
      | none => none
    | none => none

/-! ### Types -/
def tSize (t : TypeId) : Option Nat := (P.info? t).map (·.size)
def tBytes (t : TypeId) : Option Nat := (P.info? t).map (·.bytes)

def tAgg (t : TypeId) : Option Bool :=
  match P.underlying t with
  | some (.struct _) => some true
  | some (.array _ _) => some true
  | some _ => some false
  | none => none

def tZero (t : TypeId) : Option AV := (P.info? t).bind fun i => i.zero.bind absV
def tZeros (t : TypeId) : Option (List CV) := (tZero P t).bind AV.cells

def isU8 (t : TypeId) : Bool := match P.underlying t with | some (.int .u8) => true | _ => false

/-- A type whose values are one number (true), one bool (false). -/
def flatLeaf (t : TypeId) : Option Bool :=
  match P.underlying t with
  | some (.int _) => some true
  | some .bool => some false
  | _ => none

def flatFields : Nat → List Go.Field → Option (List Bool)
  | _, [] => some []
  | n, f :: r =>
    match flatLeaf P f.type, flatFields (n + 1) r with
    | some k, some ks => bif f.offset == n && f.name != "_" && tSize P f.type == some 1 then some (k :: ks) else none
    | _, _ => none

/-- How '==' goes at a type; none: not by this. -/
def eqKind (t : TypeId) : Option EqK :=
  match P.underlying t with
  | some (.int _) => some .prim
  | some .string => some .prim
  | some .bool => some .bool
  | some (.pointer _) => some .ptr
  | some (.slice _) => some .slice
  | some (.func _ _ _) => some .func
  | some (.struct fs) => match flatFields P 0 fs.toList with
    | some ks => bif !P.stoodInHeld t && !P.eqGuardType P.depth t then some (.agg ks) else none
    | none => none
  | some (.array n e) => match flatLeaf P e with
    | some k => bif tSize P e == some 1 && !P.eqGuardType P.depth t then some (.agg (List.replicate n k)) else none
    | none => none
  | _ => none

/-! ### Operations -/
def partPlaces (place : Nat → Option (Nat × Nat)) (ds : List (Option Nat)) : List (Nat × Operand) → Option (List (Nat × Nat × X))
  | [] => some []
  | (i, x) :: r => match place i, cX slots ds x with
    | some (off, n), some y => match partPlaces place ds r with
      | some t => some ((off, n, y) :: t)
      | none => none
    | _, _ => none

def fieldPlaces (fs : List Go.Field) : Option (List (Nat × Nat)) := fs.mapM fun f => (P.info? f.type).map fun i => (f.offset, i.size)

def ob {α β : Type} (x : Option α) (f : α → Option β) : Option β := match x with | some a => f a | none => none

def cBin (ds : List (Option Nat)) (op : BinOp) (t : TypeId) (x y : Operand) : Option IOp :=
  ob (cX slots ds x) fun a => ob (cX slots ds y) fun b =>
    match op with
    | .eql => ob (eqKind P t) fun k => match k with | .prim => some (.bin .eql a b) | k => some (.eq k false a b)
    | .neq => ob (eqKind P t) fun k => match k with | .prim => some (.bin .neq a b) | k => some (.eq k true a b)
    | op => some (.bin op a b)

def cConv (ds : List (Option Nat)) (src dst : TypeId) (x : Operand) : Option IOp :=
  ob (cX slots ds x) fun a =>
    match P.underlying src, P.underlying dst with
    | some (.int _), some (.int k) => some (.conv k a)
    | some (.slice _), some (.slice e) => bif src == dst && isU8 P e then some (.mark a) else none
    | some (.slice e), some .string => bif isU8 P e then some (.b2s a) else none
    | some .string, some (.slice e) => bif isU8 P e then some (.s2b a) else none
    | _, _ => none

def cSlice (ds : List (Option Nat)) (t : TypeId) (x : Operand) (lo hi mx : Option Operand) : Option IOp :=
  ob (cX slots ds x) fun a => ob (cXo slots ds lo) fun l => ob (cXo slots ds hi) fun r => ob (cXo slots ds mx) fun m =>
    match P.underlying t with
    | some .string => match m with | none => some (.sstr a l r) | some _ => none
    | some (.slice e) => ob (tSize P e) fun sz => match m, r with
      | some _, none => none
      | _, _ => some (.slice sz a l r m)
    | some (.array n e) => ob (tSize P e) fun sz => match m with | none => some (.sarr n sz a l r) | some _ => none
    | _ => none

def cIdx (ds : List (Option Nat)) (t : TypeId) (x i : Operand) : Option IOp :=
  ob (cX slots ds x) fun a => ob (cX slots ds i) fun b =>
    match P.underlying t with
    | some .string => some (.idxS a b)
    | some (.array n e) => ob (tSize P e) fun sz => ob (tAgg P e) fun g => some (.idxA sz n g a b)
    | _ => none

def cIdxAddr (ds : List (Option Nat)) (t : TypeId) (x i : Operand) : Option IOp :=
  ob (cX slots ds x) fun a => ob (cX slots ds i) fun b =>
    match P.underlying t with
    | some (.slice e) => ob (tSize P e) fun sz => some (.iaddr sz a b)
    | some (.array n e) => ob (tSize P e) fun sz => some (.iaddrA sz n a b)
    | _ => none

def cField (ds : List (Option Nat)) (t : TypeId) (x : Operand) (f : Nat) : Option IOp :=
  ob (cX slots ds x) fun a =>
    match P.underlying t with
    | some (.struct fs) => ob fs[f]? fun f => ob (tSize P f.type) fun n => ob (tAgg P f.type) fun g => some (.field f.offset n g a)
    | _ => none

def cFieldAddr (ds : List (Option Nat)) (t : TypeId) (x : Operand) (f : Nat) : Option IOp :=
  ob (cX slots ds x) fun a =>
    match P.underlying t with
    | some (.struct fs) => ob fs[f]? fun f => ob (tSize P f.type) fun n => bif n == 0 then none else some (.faddr f.offset a)
    | _ => none

def cBuild (ds : List (Option Nat)) (t : TypeId) (parts : List (Nat × Operand)) : Option IOp :=
  ob (tZeros P t) fun z =>
    match P.underlying t with
    | some (.struct fs) => ob (fieldPlaces P fs.toList) fun pl => ob (partPlaces slots (fun i => pl[i]?) ds parts) fun ps => some (.build z ps)
    | some (.array _ e) => ob (tSize P e) fun n => ob (partPlaces slots (fun i => some (i * n, n)) ds parts) fun ps => some (.build z ps)
    | _ => none

def cBuildSlice (ds : List (Option Nat)) (t : TypeId) (len : Nat) (parts : List (Nat × Operand)) : Option IOp :=
  match P.underlying t with
  | some (.slice e) => ob (tZeros P e) fun z => ob (tSize P e) fun n =>
      bif z.length == n && Nat.ble (len * n) 16777216 then ob (partPlaces slots (fun i => some (i * n, n)) ds parts) fun ps => some (.bsl len z ps) else none
  | _ => none

def cMakeSlice (ds : List (Option Nat)) (t : TypeId) (l c : Operand) : Option IOp :=
  match P.underlying t with
  | some (.slice e) => ob (tZeros P e) fun z => ob (tSize P e) fun n => ob (tBytes P e) fun b => ob (cX slots ds l) fun x => ob (cX slots ds c) fun y =>
      bif z.length == n && Nat.ble b 1024 then some (.mks n z x y) else none
  | _ => none

/-- A slice type's elements: cells, bytes. -/
def elemOf (t : TypeId) : Option (Nat × Nat) :=
  match P.underlying t with
  | some (.slice e) => ob (tSize P e) fun n => ob (tBytes P e) fun b => ob (tZeros P e) fun z => bif z.length == n && !(n == 0) && !(b == 0) && Nat.ble b 1024 then some (n, b) else none
  | _ => none

/-- What an append or a copy may take from: a slice whose elements have so many cells, a text. -/
def sourceOk (sz : Nat) (t : TypeId) : Bool :=
  match P.underlying t with
  | some (.slice e) => tSize P e == some sz
  | some .string => sz == 1
  | _ => false

def cBuiltin (ds : List (Option Nat)) (b : Builtin) (argTypes : List TypeId) (args : List Operand) : Option IOp :=
  match b, argTypes, args with
  | .len, [t], [x] => ob (cX slots ds x) fun a =>
    match P.underlying t with
    | some .string => some (.len .str a)
    | some (.slice _) => some (.len .sl a)
    | some (.chan _ _) => some (.len .ch a)
    | some (.array n _) => some (.mov (.k (.c (.int .i64 (Int.ofNat n)))))
    | some (.pointer e) => match P.underlying e with
      | some (.array n _) => some (.mov (.k (.c (.int .i64 (Int.ofNat n)))))
      | _ => none
    | _ => none
  | .max, _, xs => ob (cXs slots ds xs) fun as => some (.mx as)
  | .min, _, xs => ob (cXs slots ds xs) fun as => some (.mn as)
  | .append, [s, t], [x, y] => ob (elemOf P s) fun e => ob (cX slots ds x) fun a => ob (cX slots ds y) fun b =>
      bif sourceOk P e.1 t then some (.app e.1 e.2 a b) else none
  | .copy, [s, t], [x, y] => ob (elemOf P s) fun e => ob (cX slots ds x) fun a => ob (cX slots ds y) fun b =>
      bif sourceOk P e.1 t then some (.copy e.1 a b) else none
  | _, _, _ => none

def cCall (ds : List (Option Nat)) (c : Go.Call) : Option IOp :=
  match c.callee with
  | .builtin b => cBuiltin P slots ds b c.argTypes.toList c.args.toList
  | .value (.func f) => ob (cXs slots ds c.args.toList) fun as => some (.call f as)
  | .value x => ob (cX slots ds x) fun f => ob (cXs slots ds c.args.toList) fun as => some (.callv f as)
  | .invoke _ _ => none

def cSelect (ds : List (Option Nat)) (cases : List Go.SelectCase) (blocking : Bool) : Option IOp :=
  match cases, blocking with
  | [c], false => ob (cX slots ds c.chan) fun ch =>
    match c.send with
    | some v => ob (cX slots ds v) fun x => ob (tZero P c.elem) fun _ => some (.sendd ch x)
    | none => ob (tZero P c.elem) fun z => ob z.xv fun z => some (.recvd ch z)
  | _, _ => none

def cOp? (ds : List (Option Nat)) : Op → Option IOp
  | .move x | .assign x => ob (cX slots ds x) fun a => some (.mov a)
  | .pick c x y => ob (cX slots ds c) fun c => ob (cX slots ds x) fun a => ob (cX slots ds y) fun b => some (.pick c a b)
  | .alloc t => ob (tZero P t) fun z => some (.box (.k z))
  | .box _ x => ob (cX slots ds x) fun a => some (.box a)
  | .load t x => ob (cX slots ds x) fun a => ob (tSize P t) fun n => ob (tAgg P t) fun g => bif g || n == 1 then some (.load n g a) else none
  | .store t x v => ob (cX slots ds x) fun a => ob (cX slots ds v) fun b => ob (tSize P t) fun n => some (.store n a b)
  | .binOp op t x y _ => cBin P slots ds op t x y
  | .unOp op _ x => ob (cX slots ds x) fun a => some (.un op a)
  | .convert src dst x => cConv P slots ds src dst x
  | .makeSlice t l c => cMakeSlice P slots ds t l c
  | .slice t x lo hi mx => cSlice P slots ds t x lo hi mx
  | .fieldAddr t x f => cFieldAddr P slots ds t x f
  | .field t x f => cField P slots ds t x f
  | .indexAddr t x i => cIdxAddr P slots ds t x i
  | .index t x i => cIdx P slots ds t x i
  | .build t parts => cBuild P slots ds t parts.toList
  | .buildSlice t len parts => cBuildSlice P slots ds t len parts.toList
  | .extract x i => ob (cX slots ds x) fun a => some (.ext i a)
  | .makeFunc (.func f) first caps => bif first.size == 0 then ob (cXs slots ds caps.toList) fun cs => some (.mkfn f cs) else none
  | .nilCheck x => ob (cX slots ds x) fun a => some (.nilchk a)
  | .call c => cCall P slots ds c
  | .makeChan t n => match P.underlying t with
    | some (.chan _ e) => ob (tBytes P e) fun b => ob (cX slots ds n) fun x => bif Nat.ble b 1024 then some (.mkch b x) else none
    | _ => none
  | .select cases blocking => cSelect P slots ds cases.toList blocking
  | .send ch v => ob (cX slots ds ch) fun c => ob (cX slots ds v) fun x => some (.send c x)
  | _ => none

def cOp (ds : List (Option Nat)) (o : Op) : IOp := match cOp? P slots ds o with | some x => x | none => .bad

/-- The guard of the operation number j: the operation that it names is the last one that wrote its temporary. -/
def cGuard (ops : List Oper) (ds : List (Option Nat)) (j : Nat) (g : Option (Nat × Bool)) : Option (Option (X × Bool)) :=
  match g with
  | none => some none
  | some (i, want) => ob (ops[i]?) fun o => ob o.dst fun d => ob (posOf ds d) fun r => bif r + i + 1 == j then some (some (.val r, want)) else none

def cDst (ntmps : Nat) (dst : Option Nat) : Option (Option Nat) :=
  match dst with
  | none => some none
  | some d => bif Nat.blt d ntmps then some (slotOf slots d) else none

def cRegion (ntmps : Nat) (ops : List Oper) : List Oper → List (Option Nat) → Nat → Option (List Inst)
  | [], _, _ => some []
  | o :: r, ds, j =>
    match cDst slots ntmps o.dst, cGuard ops ds j o.guard with
    | some dst, some g => match cRegion ntmps ops r (o.dst :: ds) (j + 1) with
      | some t => some (⟨dst, cOp P slots ds o.op, g, []⟩ :: t)
      | none => none
    | _, _ => none

/-! ### A region that draws its order -/
/-- The temporaries that an operation looks at. -/
def looks (ops : List Oper) (o : Oper) : List Nat :=
  (o.op.operands.toList.filterMap fun | .tmp t => some t | _ => none) ++
  (match o.guard with
   | some (g, _) => ((ops[g]?).bind (·.dst)).toList
   | none => [])

/-- Of each operation the operations that come ahead of it in every order, as bits. -/
def aheadOf : List Oper → List Nat → List Nat
  | [], acc => acc.reverse
  | o :: r, acc =>
    aheadOf r ((o.after.toList.foldl (fun s e => bif Go.Region.binds .any e then s ||| 2 ^ e.on ||| (acc.reverse.getD e.on 0) else s) 0) :: acc)

/-- Whoever writes a temporary stands ahead of, or behind, whoever looks at it or writes it, in every order. -/
def settled (ops : List Oper) (b : List Nat) : Bool :=
  ops.zipIdx.all fun (o, i) => match o.dst with
    | none => true
    | some d => ops.zipIdx.all fun (q, j) =>
        i == j || !((looks ops q).contains d || q.dst == some d) || (bif Nat.blt i j then (b.getD j 0).testBit i else (b.getD i 0).testBit j)

def edgesBack (ops : List Oper) : Bool := ops.zipIdx.all fun (o, i) => o.after.toList.all fun e => !Go.Region.binds .any e || Nat.blt e.on i

def IOp.reads : IOp → Bool
  | .load .. | .len .. | .b2s .. => true
  | _ => false

section
variable (bits : List Nat) (effs news : List Nat)

def anc (i j : Nat) : Bool := (bits.getD j 0).testBit i

/-- May the operation number i be carried out while e is the last effect that has been? -/
def mayStage (i : Nat) (e : Option Nat) : Bool :=
  (effs.all fun x => !(anc bits x i) || (match e with | some y => Nat.ble x y | none => false)) &&
  (match e with | some y => !(anc bits i y) && !(y == i) | none => true)

def lastBelow : List Nat → Nat → Option Nat → Option Nat
  | [], _, r => r
  | e :: es, i, r => bif Nat.blt e i then lastBelow es i (some e) else r

def behind (e : Option Nat) (a : Nat) : Bool := match e with | some y => Nat.blt y a | none => true

/-- The text's own moment is the only one. -/
def oneStage (i : Nat) : Bool :=
  ((none :: effs.map some).all fun e => !(mayStage bits effs i e) || e == lastBelow effs i none) &&
  (news.all fun a => !(Nat.blt a i && behind (lastBelow effs i none) a) || anc bits a i)

def chks (i : Nat) (op : IOp) : List (Option Nat × List Nat) :=
  bif op.reads && !(oneStage bits effs news i) then
    ((none :: effs.map some).filter (mayStage bits effs i)).map fun e => (e, news.filter fun a => behind e a && anc bits a i)
  else []

/-- Effects stand in one order; what was made ahead of one in the text stands ahead of it. -/
def effsOk : Bool :=
  (effs.all fun i => effs.all fun j => !(Nat.blt i j) || anc bits i j) &&
  (news.all fun a => effs.all fun j => !(Nat.blt a j) || anc bits a j)
end

/-- The operand is one of those that the operation looks at. -/
def okX (ds : List (Option Nat)) (ts : List Nat) : X → Bool
  | .k _ => true
  | .val d => ts.any fun t => posOf ds t == some d
  | .loc i => ts.any fun t => posOf ds t == none && slotOf slots t == some i

def okXs (ops : List Oper) : List Oper → List Inst → List (Option Nat) → Bool
  | [], [], _ => true
  | o :: r, i :: is, ds => (i.op.xs.all fun x => okX slots ds (looks ops o) x) && okXs ops r is (o.dst :: ds)
  | _, _, _ => false

def kdAt (k : Kd) (l : List Inst) : List Nat := (l.zipIdx.filter fun p => p.1.op.kd == k).map (·.2)

def withChks (bits effs news : List Nat) : Nat → List Inst → List Inst
  | _, [] => []
  | i, x :: r => { x with chk := chks bits effs news i x.op } :: withChks bits effs news (i + 1) r

def cReg (ntmps : Nat) (ops : List Oper) (draw : Bool) : IR :=
  match cRegion P slots ntmps ops ops [] 0 with
  | none => .bad
  | some l => match draw with
    | false => .reg l
    | true =>
      let b := aheadOf ops []
      let effs := kdAt .eff l
      let news := kdAt .new l
      bif settled ops b && edgesBack ops && effsOk b effs news && okXs slots ops ops l [] && noDup slots then .dreg news.length (withChks b effs news 0 l) else .bad

/-! ### Code -/
def cCode (ntmps : Nat) : Code → List (List Bool) → IR × List (List Bool)
  | .skip, ks => (.skip, ks)
  | .label _, ks => (.skip, ks)
  | .region _ ops draw, ks => (cReg P slots ntmps ops.toList draw, ks)
  | .seq a b, ks => let (x, ks) := cCode ntmps a ks; let (y, ks) := cCode ntmps b ks; (.seq x y, ks)
  | .cond c a b, ks => let (x, ks) := cCode ntmps a ks; let (y, ks) := cCode ntmps b ks
    match cX slots [] c with
    | some v => (.cond v x y, ks)
    | none => (.bad, ks)
  | .block id a, ks => let (x, ks) := cCode ntmps a ks; (.block id x, ks)
  | .loop a, ks => match ks with
    | k :: ks => let (x, ks) := cCode ntmps a ks; (.loop k x, ks)
    | [] => let (x, ks) := cCode ntmps a []; (.loop [] x, ks)
  | .scope a, ks => cCode ntmps a ks
  | .exit id, ks => (.exit id, ks)
  | .ret, ks => (.ret, ks)
  | _, ks => (.bad, ks)
end

def cResults (P : Program) (slots : List Nat) : List Go.ResultVar → Option (List RV)
  | [] => some []
  | r :: rs => match (match r with
      | .tmp t => (slotOf slots t).map RV.loc
      | .cell a t => ob (slotOf slots a) fun i => ob (tSize P t) fun n => ob (tAgg P t) fun g => bif g || n == 1 then some (RV.cell i n g) else none : Option RV) with
    | some x => match cResults P slots rs with
      | some t => some (x :: t)
      | none => none
    | none => none

/-- A function compiled: the temporaries that are its locals; what each loop keeps. -/
def cFunc (P : Program) (slots : List Nat) (keeps : List (List Bool)) (fn : Func) : Option IRF :=
  match fn.body, cResults P slots fn.results.toList with
  | some c, some rs =>
    bif fn.name == "runtime.NumGoroutine" || fn.nfree + fn.params.size > fn.ntmps || !(slots.all fun s => Nat.blt s fn.ntmps) || !(noDup slots) then none
    else some ⟨slots, fn.params.size + fn.nfree, rs, (cCode P slots fn.ntmps c keeps).1⟩
  | _, _ => none

end Lav
