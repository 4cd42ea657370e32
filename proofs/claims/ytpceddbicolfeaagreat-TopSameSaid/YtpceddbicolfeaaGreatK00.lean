import GoSem.Step
import Derived.Calls
import Derived.Laws.Entries
import Derived.Laws.Tables
import Derived.Laws.IdiomCopy
import Derived.Laws.Cells
import Derived.Laws.StructEq
import Derived.Laws.BytesString
import Derived.ChangeKeysEq
import Derived.Conc.LoneSelect
import Derived.Deep.AppendSrc
import Derived.Deep.Upon
namespace Lav
open Go (IntKind BinOp UnOp)
inductive Cap where
 | ex (k:Nat)
 | dy (sz:Nat)
 deriving DecidableEq,Repr,Inhabited
inductive CV where
 | bool (b:Bool)
 | int (k:IntKind) (n:Int)
 | res (u:Bool) (m r:Nat)
 | str (l:List Nat)
 | nilp
 | ptr (i o:Nat)
 | nils
 | sl (i o len:Nat) (c:Cap)
 | nilch
 | ch (i:Nat)
 | nilf
 | fn (f:Nat) (caps:List (Nat × Nat))
 | nilm
 | mp (i:Nat)
 deriving DecidableEq,Repr,Inhabited
inductive XV where
 | c (v:CV)
 | agg (l:List CV)
 deriving DecidableEq,Repr,Inhabited
inductive AV where
 | c (v:CV)
 | agg (l:List CV)
 | tup (l:List XV)
 | junk
 deriving DecidableEq,Repr,Inhabited
inductive Blk where
 | cells (l:List CV)
 | ro (l:List CV)
 | chan (cap:Nat) (buf:List XV)
 | map (clock:Nat) (es:List (Int × Nat × CV))
 deriving Repr,Inhabited
inductive Tr (α:Type) where
 | nil
 | node (l:Tr α) (v:Option α) (r:Tr α)
 deriving Repr,Inhabited
def Tr.get {α:Type}:Tr α→Nat→Option α
 | .nil,_=>none
 | .node l v r,n =>
  match n with
  | 0=>v
  | m + 1 =>
   match m % 2 with
   | 0=>l.get (m / 2)
   | _ + 1=>r.get (m / 2)
def Tr.left {α:Type}:Tr α→Tr α
 | .nil=>.nil
 | .node l _ _=>l
def Tr.val {α:Type}:Tr α→Option α
 | .nil=>none
 | .node _ v _=>v
def Tr.right {α:Type}:Tr α→Tr α
 | .nil=>.nil
 | .node _ _ r=>r
def Tr.setF {α:Type} (x:Option α):Nat→Tr α→Nat→Tr α
 | 0,t,_=>t
 | f + 1,t,n =>
  match n with
  | 0=>.node t.left x t.right
  | m + 1 =>
   match m % 2 with
   | 0=>.node (setF x f t.left (m / 2)) t.val t.right
   | _ + 1=>.node t.left t.val (setF x f t.right (m / 2))
def Tr.set {α:Type} (t:Tr α) (n:Nat) (x:Option α):Tr α:=Tr.setF x (n + 1) t n
structure Heap where
 next:Nat
 m:Tr Blk
 deriving Repr,Inhabited
def Heap.empty:Heap:=⟨0,.nil⟩
def Heap.get (h:Heap) (i:Nat):Option Blk:=h.m.get i
def Heap.put (h:Heap) (i:Nat) (b:Blk):Heap:={ h with m:=h.m.set i (some b) }
def Heap.kill (h:Heap) (i:Nat):Heap:={ h with m:=h.m.set i none }
def Heap.new (h:Heap) (b:Blk):Heap:={ next:=h.next + 1,m:=h.m.set h.next (some b) }
def Heap.skip (h:Heap) (n:Nat):Heap:={ h with next:=h.next + n }
inductive X where
 | loc (i:Nat)
 | val (d:Nat)
 | k (v:AV)
 deriving Repr,Inhabited
inductive EqK where
 | prim
 | bool
 | ptr
 | slice
 | func
 | agg (ks:List Bool)
 deriving DecidableEq,Repr,Inhabited
inductive LenK where
 | str | sl | ch
 deriving DecidableEq,Repr,Inhabited
inductive IOp where
 | bad
 | mov (x:X)
 | pick (c a b:X)
 | box (x:X)
 | load (n:Nat) (agg:Bool) (x:X)
 | store (n:Nat) (x v:X)
 | bin (op:BinOp) (x y:X)
 | eq (k:EqK) (neg:Bool) (x y:X)
 | un (op:UnOp) (x:X)
 | conv (k:IntKind) (x:X)
 | b2s (x:X)
 | s2b (x:X)
 | mks (sz:Nat) (zero:List CV) (len cap:X)
 | slice (sz:Nat) (x:X) (lo hi mx:Option X)
 | sstr (x:X) (lo hi:Option X)
 | sarr (n sz:Nat) (x:X) (lo hi:Option X)
 | faddr (off:Nat) (x:X)
 | field (off n:Nat) (agg:Bool) (x:X)
 | iaddr (sz:Nat) (x i:X)
 | iaddrA (sz n:Nat) (x i:X)
 | idxA (sz n:Nat) (agg:Bool) (x i:X)
 | idxS (x i:X)
 | build (zero:List CV) (parts:List (Nat × Nat × X))
 | bsl (len:Nat) (zero:List CV) (parts:List (Nat × Nat × X))
 | ext (i:Nat) (x:X)
 | mkfn (f:Nat) (caps:List X)
 | nilchk (x:X)
 | len (k:LenK) (x:X)
 | mx (args:List X)
 | mn (args:List X)
 | app (sz bytes:Nat) (s x:X)
 | copy (sz:Nat) (d s:X)
 | call (f:Nat) (args:List X)
 | callv (f:X) (args:List X)
 | mkch (bytes:Nat) (n:X)
 | recvd (ch:X) (zero:XV)
 | sendd (ch v:X)
 | send (ch v:X)
 | mark (x:X)
 | cap (x:X)
 | appz (sz:Nat) (zero:List CV) (s n:X)
 | mkmap
 | mget (zero:CV) (ok:Bool) (m k:X)
 | mput (m k v:X)
 | mdel (m k:X)
 | mclr (m:X)
 | ment (zero:CV) (m k:X)
 | mest (m s v:X)
 deriving Repr,Inhabited
structure Inst where
 dst:Option Nat
 op:IOp
 guard:Option (X × Bool)
 chk:List (Option Nat × List Nat)
 deriving Repr,Inhabited
inductive IR where
 | skip
 | reg (l:List Inst)
 | dreg (news:Nat) (l:List Inst)
 | seq (a b:IR)
 | cond (x:X) (a b:IR)
 | block (id:Nat) (a:IR)
 | loop (keep:List Bool) (a:IR)
 | exit (id:Nat)
 | ret
 | bad
 deriving Repr,Inhabited
inductive Ex where
 | norm
 | exit (id:Nat)
 | ret
 deriving DecidableEq,Repr,Inhabited
def AV.cells:AV→Option (List CV)
 | .c v=>some [v]
 | .agg l=>some l
 | _=>none
def AV.ofCells (agg:Bool) (l:List CV):Option AV :=
 match agg with
 | true=>some (.agg l)
 | false=>match l with
  | [v]=>some (.c v)
  | _=>none
def XV.av:XV→AV
 | .c v=>.c v
 | .agg l=>.agg l
def AV.xv:AV→Option XV
 | .c v=>some (.c v)
 | .agg l=>some (.agg l)
 | _=>none
def lim:IntKind→Nat
 | .i8=>128
 | .i16=>32768
 | .i32=>2147483648
 | .i64=>9223372036854775808
 | .u8=>256
 | .u16=>65536
 | .u32=>4294967296
 | .u64=>18446744073709551616
def zes (k:IntKind) (n:Int):Int :=
 match n with
 | .ofNat m=>bif Nat.blt m (lim k) then .ofNat m else k.wrap (.ofNat m)
 | .negSucc m=>bif k.signed && Nat.blt m (lim k) then .negSucc m else k.wrap (.negSucc m)
theorem zgl (k:IntKind) (n:Int):zes k n=k.wrap n:=by
 cases n with
 | ofNat m =>
  simp only [zes]
  cases hb:Nat.blt m (lim k) with
  | false=>rfl
  | true =>
   have hlt:m < lim k:=Nat.lt_of_succ_le (Nat.le_of_ble_eq_true hb)
   simp only [cond_true]
   cases k<;>simp only [lim] at hlt<;>simp only [IntKind.wrap,IntKind.bits,IntKind.signed]<;>simp<;>omega
 | negSucc m =>
  simp only [zes]
  cases hb:(k.signed && Nat.blt m (lim k)) with
  | false=>rfl
  | true =>
   simp only [Bool.and_eq_true] at hb
   have hlt:m < lim k:=Nat.lt_of_succ_le (Nat.le_of_ble_eq_true hb.2)
   have hs:=hb.1
   simp only [cond_true]
   cases k<;>simp [IntKind.signed] at hs<;>simp only [lim] at hlt<;>simp only [IntKind.wrap,IntKind.bits,IntKind.signed]<;>simp<;>omega
def zfq (a b:Int):Bool :=
 match a,b with
 | .ofNat m,.ofNat n=>Nat.blt m n
 | .negSucc _,.ofNat _=>true
 | .ofNat _,.negSucc _=>false
 | .negSucc m,.negSucc n=>Nat.blt n m
theorem zny (a b:Int):zfq a b=decide (a < b):=by
 have key:∀ m n:Nat,Nat.blt m n=decide (m < n):=fun m n=>by
  cases h:Nat.blt m n with
  | true=>exact (decide_eq_true (Nat.lt_of_succ_le (Nat.le_of_ble_eq_true h))).symm
  | false =>
   refine (decide_eq_false fun hl=>?_).symm
   rw [show Nat.blt m n=true from Nat.ble_eq_true_of_le hl] at h;cases h
 cases a with
 | ofNat m =>
  cases b with
  | ofNat n =>
   simp only [zfq,key]
   have:(Int.ofNat m < Int.ofNat n)=(m < n):=propext Int.ofNat_lt
   simp only [this]
  | negSucc n =>
   have : ¬ (Int.ofNat m < Int.negSucc n):=by have h1:(0:Int)≤Int.ofNat m:=Int.natCast_nonneg m;have h2:=Int.negSucc_lt_zero n;omega
   simp only [zfq,this,decide_false]
 | negSucc m =>
  cases b with
  | ofNat n =>
   have:Int.negSucc m < Int.ofNat n:=by have h1:(0:Int)≤Int.ofNat n:=Int.natCast_nonneg n;have h2:=Int.negSucc_lt_zero m;omega
   simp only [zfq,this,decide_true]
  | negSucc n =>
   have:(Int.negSucc m < Int.negSucc n)=(n < m):=by
    have e1:Int.negSucc m = -((m:Int) + 1):=rfl
    have e2:Int.negSucc n = -((n:Int) + 1):=rfl
    rw [e1,e2];apply propext;omega
   simp only [zfq,key,this]
def intArith (op:BinOp) (k:IntKind) (a b:Int):Option CV :=
 match op with
 | .add=>some (.int k (k.wrap (a + b)))
 | .sub=>some (.int k (k.wrap (a - b)))
 | .mul=>some (.int k (k.wrap (a * b)))
 | .quo=>bif b == 0 then none else some (.int k (k.wrap (a.tdiv b)))
 | .rem=>bif b == 0 then none else some (.int k (a.tmod b))
 | .and=>some (.int k (k.wrap (BitVec.ofInt k.bits a &&& BitVec.ofInt k.bits b).toNat))
 | .or=>some (.int k (k.wrap (BitVec.ofInt k.bits a ||| BitVec.ofInt k.bits b).toNat))
 | .xor=>some (.int k (k.wrap (BitVec.ofInt k.bits a ^^^ BitVec.ofInt k.bits b).toNat))
 | .andNot=>some (.int k (k.wrap (BitVec.ofInt k.bits a &&& ~~~(BitVec.ofInt k.bits b)).toNat))
 | .eql=>some (.bool (a == b))
 | .neq=>some (.bool (a != b))
 | .lss=>some (.bool (decide (a < b)))
 | .leq=>some (.bool (decide (a≤b)))
 | .gtr=>some (.bool (decide (a > b)))
 | .geq=>some (.bool (decide (a ≥ b)))
 | _=>none
def shift (op:BinOp) (k:IntKind) (a b:Int):Option CV :=
 bif decide (b < 0) then none else
 match op with
 | .shl=>some (.int k (k.wrap (a * 2 ^ (min b.toNat k.bits))))
 | .shr=>some (.int k (a.fdiv (2 ^ (min b.toNat k.bits))))
 | _=>none
def zcz (op:BinOp) (k:IntKind) (a b:Int):Option CV :=
 match op with
 | .add=>some (.int k (zes k (a + b)))
 | .sub=>some (.int k (zes k (a - b)))
 | .mul=>some (.int k (zes k (a * b)))
 | .quo=>bif b == 0 then none else some (.int k (zes k (a.tdiv b)))
 | .rem=>bif b == 0 then none else some (.int k (a.tmod b))
 | .and=>some (.int k (zes k (BitVec.ofInt k.bits a &&& BitVec.ofInt k.bits b).toNat))
 | .or=>some (.int k (zes k (BitVec.ofInt k.bits a ||| BitVec.ofInt k.bits b).toNat))
 | .xor=>some (.int k (zes k (BitVec.ofInt k.bits a ^^^ BitVec.ofInt k.bits b).toNat))
 | .eql=>some (.bool (a == b))
 | .neq=>some (.bool (a != b))
 | .lss=>some (.bool (zfq a b))
 | .leq=>some (.bool (!(zfq b a)))
 | .gtr=>some (.bool (zfq b a))
 | .geq=>some (.bool (!(zfq a b)))
 | op=>intArith op k a b
theorem zab (op:BinOp) (k:IntKind) (a b:Int):zcz op k a b=intArith op k a b:=by
 have nlt:∀ a b:Int,(!(decide (b < a)))=decide (a≤b):=fun a b=>by
  by_cases h:a≤b
  ·rw [decide_eq_true h,decide_eq_false (by omega)];rfl
  ·rw [decide_eq_false h,decide_eq_true (by omega)];rfl
 cases op<;>simp only [zcz,intArith,zgl,zny,nlt,GT.gt,GE.ge]
def zii (op:BinOp) (k:IntKind) (a b:Int):Option CV :=
 bif zfq b 0 then none else
 match op with
 | .shl=>some (.int k (zes k (a * 2 ^ (min b.toNat k.bits))))
 | .shr=>some (.int k (a.fdiv (2 ^ (min b.toNat k.bits))))
 | _=>none
theorem zak (op:BinOp) (k:IntKind) (a b:Int):zii op k a b=shift op k a b:=by
 cases op<;>simp only [zii,shift,zgl,zny]
def zaq:BinOp→Bool
 | .shl | .shr=>true
 | _=>false
def zay (op:BinOp) (x y:CV):Option CV :=
 match x,y with
 | .int k a,.int k' b=>bif zaq op then zii op k a b else bif k == k' then zcz op k a b else none
 | .str a,.str b =>
  match op with
  | .add=>bif Nat.ble (a.length + b.length) 1073741824 then some (.str (a++b)) else none
  | .eql=>some (.bool (a == b))
  | .neq=>some (.bool (!(a == b)))
  | _=>none
 | .res u m r,.int k b=>match op,u,k,b with
  | .rem,true,.u64,.ofNat (q + 1)=>bif m % (q + 1) == 0 then some (.int .u64 (Int.ofNat (r % (q + 1)))) else none
  | _,_,_,_=>none
 | _,_=>none
def zcq:List Bool→List CV→List CV→Option Bool
 | [],[],[]=>some true
 | true :: ks,.int k a :: l,.int k' b :: m=>bif k == k' then (match zcq ks l m with | some r=>some (a == b && r) | none=>none) else none
 | false :: ks,.bool a :: l,.bool b :: m=>match zcq ks l m with | some r=>some (a == b && r) | none=>none
 | _,_,_=>none
def zfo (k:EqK) (x y:AV):Option Bool :=
 match k,x,y with
 | .bool,.c (.bool a),.c (.bool b)=>some (a == b)
 | .ptr,.c .nilp,.c .nilp=>some true
 | .ptr,.c .nilp,.c (.ptr _ _)=>some false
 | .ptr,.c (.ptr _ _),.c .nilp=>some false
 | .slice,.c .nils,.c .nils=>some true
 | .slice,.c .nils,.c (.sl _ _ _ _)=>some false
 | .slice,.c (.sl _ _ _ _),.c .nils=>some false
 | .func,.c .nilf,.c .nilf=>some true
 | .func,.c .nilf,.c (.fn _ _)=>some false
 | .func,.c (.fn _ _),.c .nilf=>some false
 | .agg ks,.agg l,.agg m=>zcq ks l m
 | _,_,_=>none
def zdk (op:UnOp) (x:CV):Option CV :=
 match op,x with
 | .neg,.int k n=>zcz .sub k 0 n
 | .xor,.int k n=>zcz .xor k (if k.signed then -1 else k.max) n
 | .not,.bool b=>some (.bool !b)
 | _,_=>none
def zda (x:AV):Option Nat :=
 match x with
 | .c (.int _ n)=>match n with
  | .ofNat m=>some m
  | .negSucc _=>none
 | _=>none
def bytesOf:List CV→Option (List Nat)
 | []=>some []
 | .int .u8 (.ofNat n) :: l=>bif Nat.blt n 256 then (match bytesOf l with | some r=>some (n :: r) | none=>none) else none
 | _=>none
def byteCells (l:List Nat):List CV:=l.map fun n=>.int .u8 (Int.ofNat n)
def zeros (n:Nat) (zero:List CV):List CV :=
 match n with
 | 0=>[]
 | m + 1=>zero++zeros m zero
def cut (l:List CV) (o n:Nat):Option (List CV) :=
 bif Nat.ble (o + n) l.length then some ((l.drop o).take n) else none
def setMany:List CV→Nat→List CV→List CV
 | l,_,[]=>l
 | l,o,v :: vs=>setMany (l.set o v) (o + 1) vs
def zdf (l:List CV) (o:Nat) (vs:List CV):Option (List CV) :=
 bif Nat.ble (o + vs.length) l.length then some (setMany l o vs) else none
def Heap.read (h:Heap) (i o n:Nat):Option (List CV) :=
 match h.get i with
 | some (.cells l)=>cut l o n
 | some (.ro l)=>cut l o n
 | _=>none
def Heap.write (h:Heap) (i o:Nat) (vs:List CV):Option Heap :=
 match h.get i with
 | some (.cells l)=>match zdf l o vs with
  | some l'=>some (h.put i (.cells l'))
  | none=>none
 | _=>none
abbrev Ent:=Int × Nat × CV
def ze4:List Ent→Int→Option (Nat × CV)
 | [],_=>none
 | (a,b,v) :: r,n=>bif a == n then some (b,v) else ze4 r n
def ze9:List Ent→Nat→Int→CV→List Ent
 | [],c,n,x=>[(n,c,x)]
 | (a,b,v) :: r,c,n,x=>bif a == n then (a,b,x) :: r else (a,b,v) :: ze9 r c n x
def zht:List Ent→Int→List Ent
 | [],_=>[]
 | (a,b,v) :: r,n=>bif a == n then r else (a,b,v) :: zht r n
def mAt:List Ent→Nat→CV→Option (List Ent)
 | [],_,_=>none
 | (a,b,v) :: r,k,x=>bif b == k then some ((a,b,x) :: r) else match mAt r k x with
  | some t=>some ((a,b,v) :: t)
  | none=>none
def zjv (es:List Ent) (c:Nat) (n:Int):Nat:=match ze4 es n with
 | some _=>c
 | none=>c + 1
def Heap.ents (h:Heap) (x:AV):Option (List Ent) :=
 match x with
 | .c .nilm=>some []
 | .c (.mp i)=>match h.get i with
  | some (.map _ es)=>some es
  | _=>none
 | _=>none
def asKey (x:AV):Option Int :=
 match x with
 | .c (.int .i64 n)=>some n
 | _=>none
def asC (x:AV):Option CV :=
 match x with
 | .c v=>some v
 | _=>none
def zvv (zero:CV) (ok:Bool) (r:Option (Nat × CV)):AV :=
 match r,ok with
 | some (_,v),true=>.tup [.c v,.c (.bool true)]
 | none,true=>.tup [.c zero,.c (.bool false)]
 | some (_,v),false=>.c v
 | none,false=>.c zero
def IOp.xs:IOp→List X
 | .bad | .mkmap=>[]
 | .mov x | .box x | .load _ _ x | .un _ x | .conv _ x | .b2s x | .s2b x | .faddr _ x | .field _ _ _ x | .ext _ x | .nilchk x | .len _ x | .mkch _ x | .recvd x _ | .mark x | .cap x | .mclr x=>[x]
 | .pick c a b | .mput c a b | .mest c a b=>[c,a,b]
 | .store _ x v | .bin _ x v | .eq _ _ x v | .mks _ _ x v | .iaddr _ x v | .iaddrA _ _ x v | .idxA _ _ _ x v | .idxS x v | .app _ _ x v | .copy _ x v | .sendd x v | .send x v | .mget _ _ x v | .mdel x v | .appz _ _ x v | .ment _ x v=>[x,v]
 | .slice _ x lo hi m=>x :: (lo.toList++hi.toList++m.toList)
 | .sstr x lo hi | .sarr _ _ x lo hi=>x :: (lo.toList++hi.toList)
 | .build _ ps | .bsl _ _ ps=>ps.map fun p=>p.2.2
 | .mkfn _ l | .mx l | .mn l | .call _ l=>l
 | .callv f l=>f :: l
section
variable (loc vals:List AV)
def X.eval:X→AV
 | .loc i=>loc.getD i .junk
 | .val d=>vals.getD d .junk
 | .k v=>v
def zb0:List (Nat × Nat × X)→Option (List (Nat × List CV))
 | []=>some []
 | (o,n,x) :: r =>
  match (x.eval loc vals).cells with
  | some l=>bif l.length == n then (match zb0 r with | some t=>some ((o,l) :: t) | none=>none) else none
  | none=>none
def zb1 (l:List CV):List (Nat × List CV)→Option (List CV)
 | []=>some l
 | (o,vs) :: r=>match zdf l o vs with
  | some l'=>zb1 l' r
  | none=>none
def zed:List X→Option (List (Nat × Nat))
 | []=>some []
 | x :: r=>match x.eval loc vals with
  | .c (.ptr i o)=>match zed r with
   | some t=>some ((i,o) :: t)
   | none=>none
  | _=>none
def bound (x:Option X) (dflt:Nat):Option Nat :=
 match x with
 | none=>some dflt
 | some x=>zda (x.eval loc vals)
def zdg (f:Int→Int→Int):AV→List X→Option AV
 | a,[]=>some a
 | .c (.int k a),x :: r=>match x.eval loc vals with
  | .c (.int k' b)=>bif k == k' then zdg f (.c (.int k (f a b))) r else none
  | _=>none
 | _,_=>none
def zao (h:Heap):IOp→Option AV
 | .mov x=>some (x.eval loc vals)
 | .pick c a b=>match c.eval loc vals with
  | .c (.bool t)=>some (bif t then a.eval loc vals else b.eval loc vals)
  | _=>none
 | .load n agg x=>match x.eval loc vals with
  | .c (.ptr i o)=>match h.read i o n with
   | some l=>AV.ofCells agg l
   | none=>none
  | _=>none
 | .bin op x y=>match x.eval loc vals,y.eval loc vals with
  | .c a,.c b=>match zay op a b with
   | some v=>some (.c v)
   | none=>none
  | _,_=>none
 | .eq k neg x y=>match zfo k (x.eval loc vals) (y.eval loc vals) with
  | some b=>some (.c (.bool (bif neg then !b else b)))
  | none=>none
 | .un op x=>match x.eval loc vals with
  | .c a=>match zdk op a with
   | some v=>some (.c v)
   | none=>none
  | _=>none
 | .conv k x=>match x.eval loc vals with
  | .c (.int _ n)=>some (.c (.int k (zes k n)))
  | .c (.res u m r)=>match u,k with
   | false,.u64=>bif Nat.beq m 0 then none else some (.c (.res true m r))
   | _,_=>none
  | _=>none
 | .b2s x=>match x.eval loc vals with
  | .c .nils=>some (.c (.str []))
  | .c (.sl i o len _)=>match h.read i o len with
   | some l=>match bytesOf l with
    | some r=>some (.c (.str r))
    | none=>none
   | none=>match len with
    | 0=>some (.c (.str []))
    | _ + 1=>none
  | _=>none
 | .slice sz x lo hi mx=>match x.eval loc vals with
  | .c (.sl i o len c) =>
   match bound loc vals lo 0,bound loc vals hi len with
   | some l,some r =>
    match mx,c with
    | none,.dy sz'=>bif Nat.ble l r && Nat.ble r len && sz == sz' then some (.c (.sl i (o + l * sz) (r - l) (.dy sz))) else none
    | none,.ex k=>bif Nat.ble l r && Nat.ble r k then some (.c (.sl i (o + l * sz) (r - l) (.ex (k - l)))) else none
    | some m,.dy _=>match zda (m.eval loc vals) with
     | some m=>bif Nat.ble l r && Nat.ble r m && Nat.ble m len then some (.c (.sl i (o + l * sz) (r - l) (.ex (m - l)))) else none
     | none=>none
    | some m,.ex k=>match zda (m.eval loc vals) with
     | some m=>bif Nat.ble l r && Nat.ble r m && Nat.ble m k then some (.c (.sl i (o + l * sz) (r - l) (.ex (m - l)))) else none
     | none=>none
   | _,_=>none
  | .c .nils =>
   match bound loc vals lo 0,bound loc vals hi 0,bound loc vals mx 0 with
   | some 0,some 0,some 0=>some (.c .nils)
   | _,_,_=>none
  | _=>none
 | .sstr x lo hi=>match x.eval loc vals with
  | .c (.str s)=>match bound loc vals lo 0,bound loc vals hi s.length with
   | some l,some r=>bif Nat.ble l r && Nat.ble r s.length then some (.c (.str ((s.drop l).take (r - l)))) else none
   | _,_=>none
  | _=>none
 | .sarr n sz x lo hi=>match x.eval loc vals with
  | .c (.ptr i o)=>match bound loc vals lo 0,bound loc vals hi n with
   | some l,some r=>bif Nat.ble l r && Nat.ble r n then some (.c (.sl i (o + l * sz) (r - l) (.ex (n - l)))) else none
   | _,_=>none
  | _=>none
 | .faddr off x=>match x.eval loc vals with
  | .c (.ptr i o)=>some (.c (.ptr i (o + off)))
  | _=>none
 | .field off n agg x=>match x.eval loc vals with
  | .agg l=>match cut l off n with
   | some r=>AV.ofCells agg r
   | none=>none
  | _=>none
 | .iaddr sz x i=>match x.eval loc vals,zda (i.eval loc vals) with
  | .c (.sl b o len _),some j=>bif Nat.blt j len then some (.c (.ptr b (o + j * sz))) else none
  | _,_=>none
 | .iaddrA sz n x i=>match x.eval loc vals,zda (i.eval loc vals) with
  | .c (.ptr b o),some j=>bif Nat.blt j n then some (.c (.ptr b (o + j * sz))) else none
  | _,_=>none
 | .idxA sz n agg x i=>match x.eval loc vals,zda (i.eval loc vals) with
  | .agg l,some j=>bif Nat.blt j n then (match cut l (j * sz) sz with
   | some r=>AV.ofCells agg r
   | none=>none) else none
  | _,_=>none
 | .idxS x i=>match x.eval loc vals,zda (i.eval loc vals) with
  | .c (.str s),some j=>match s[j]? with
   | some b=>some (.c (.int .u8 (Int.ofNat b)))
   | none=>none
  | _,_=>none
 | .build zero parts=>match zb0 loc vals parts with
  | some ps=>match zb1 zero ps with
   | some l=>some (.agg l)
   | none=>none
  | none=>none
 | .ext i x=>match x.eval loc vals with
  | .tup l=>match l[i]? with
   | some v=>some v.av
   | none=>none
  | _=>none
 | .mkfn f caps=>match zed loc vals caps with
  | some l=>some (.c (.fn f l))
  | none=>none
 | .nilchk x=>match x.eval loc vals with
  | .c (.ptr i o)=>some (.c (.ptr i o))
  | .c (.fn f l)=>some (.c (.fn f l))
  | _=>none
 | .len k x=>match k,x.eval loc vals with
  | .str,.c (.str s)=>some (.c (.int .i64 (Int.ofNat s.length)))
  | .sl,.c .nils=>some (.c (.int .i64 0))
  | .sl,.c (.sl _ _ n _)=>some (.c (.int .i64 (Int.ofNat n)))
  | .ch,.c .nilch=>some (.c (.int .i64 0))
  | .ch,.c (.ch i)=>match h.get i with
   | some (.chan _ buf)=>some (.c (.int .i64 (Int.ofNat buf.length)))
   | _=>none
  | _,_=>none
 | .cap x=>match x.eval loc vals with
  | .c .nils=>some (.c (.int .i64 0))
  | .c (.sl _ _ _ (.ex k))=>some (.c (.int .i64 (Int.ofNat k)))
  | _=>none
 | .mget zero ok m k=>match h.ents (m.eval loc vals),asKey (k.eval loc vals) with
  | some es,some n=>some (zvv zero ok (ze4 es n))
  | _,_=>none
 | .mx args=>match args with
  | x :: r=>match x.eval loc vals with
   | .c (.int k n)=>zdg loc vals (fun a b=>if b > a then b else a) (.c (.int k n)) r
   | _=>none
  | _=>none
 | .mn args=>match args with
  | x :: r=>match x.eval loc vals with
   | .c (.int k n)=>zdg loc vals (fun a b=>if b < a then b else a) (.c (.int k n)) r
   | _=>none
  | _=>none
 | _=>none
def zbf:IOp→Option ((Nat→AV) × Blk)
 | .box x=>match (x.eval loc vals).cells with
  | some l=>some ((fun i=>.c (.ptr i 0)),.cells l)
  | none=>none
 | .s2b x=>match x.eval loc vals with
  | .c (.str s)=>some ((fun i=>.c (.sl i 0 s.length (.dy 1))),.cells (byteCells s))
  | _=>none
 | .mks sz zero len cap=>match zda (len.eval loc vals),zda (cap.eval loc vals) with
  | some l,some c=>bif Nat.ble l c && Nat.ble c 1073741824 && zero.length == sz then some ((fun i=>.c (.sl i 0 l (.ex c))),.cells (zeros c zero)) else none
  | _,_=>none
 | .bsl len zero parts=>match zb0 loc vals parts with
  | some ps=>match zb1 (zeros len zero) ps with
   | some l=>some ((fun i=>.c (.sl i 0 len (.ex len))),.cells l)
   | none=>none
  | none=>none
 | .mkch _ n=>match zda (n.eval loc vals) with
  | some m=>bif Nat.ble m 1048576 then some ((fun i=>.c (.ch i)),.chan m []) else none
  | none=>none
 | .mkmap=>some ((fun i=>.c (.mp i)),.map 0 [])
 | _=>none
def source (h:Heap) (sz:Nat) (x:AV):Option (Nat × List CV) :=
 match x with
 | .c .nils=>some (0,[])
 | .c (.sl i o n _)=>match h.read i o (n * sz) with
  | some l=>some (n,l)
  | none=>match n with
   | 0=>some (0,[])
   | _ + 1=>none
 | .c (.str s)=>bif sz == 1 then some (s.length,byteCells s) else none
 | _=>none
def zdw (h:Heap) (sz:Nat) (s x:AV):Option (AV × Heap) :=
 match source h sz x with
 | none=>none
 | some (n,new) =>
  match s with
  | .c .nils=>match n with
   | 0=>some (.c .nils,h)
   | _ + 1=>bif Nat.ble n 1073741824 then some (.c (.sl h.next 0 n (.dy sz)),h.new (.cells new)) else none
  | .c (.sl i o len c) =>
   match n with
   | 0=>some (.c (.sl i o len c),h)
   | _ + 1 =>
    bif Nat.ble (len + n) 1073741824 then
     match c with
     | .ex k =>
      bif Nat.ble (len + n) k then
       match h.write i (o + len * sz) new with
       | some h'=>some (.c (.sl i o (len + n) (.ex k)),h')
       | none=>none
      else match h.read i o (len * sz) with
       | some old=>some (.c (.sl h.next 0 (len + n) (.dy sz)),h.new (.cells (old++new)))
       | none=>none
     | .dy sz' =>
      match h.get i with
      | some (.cells l) =>
       bif sz == sz' && Nat.ble (o + len * sz) l.length then some (.c (.sl h.next 0 (len + n) (.dy sz)),(h.kill i).new (.cells ((l.drop o).take (len * sz)++new))) else none
      | _=>none
    else none
  | _=>none
def zij (h:Heap) (sz:Nat) (d s:AV):Option (AV × Heap) :=
 match source h sz s with
 | none=>none
 | some (n,new) =>
  match d with
  | .c .nils=>some (.c (.int .i64 0),h)
  | .c (.sl i o len _) =>
   match h.write i o (new.take (min n len * sz)) with
   | some h'=>some (.c (.int .i64 (Int.ofNat (min n len))),h')
   | none=>none
  | _=>none
def zfi (h:Heap):IOp→Option (AV × Heap)
 | .recvd ch zero=>match ch.eval loc vals with
  | .c (.ch i)=>match h.get i with
   | some (.chan cap buf)=>match buf with
    | []=>some (.tup [.c (.int .i64 (-1)),.c (.bool false),zero],h)
    | v :: rest=>some (.tup [.c (.int .i64 0),.c (.bool true),v],h.put i (.chan cap rest))
   | _=>none
  | _=>none
 | .sendd ch v=>match ch.eval loc vals,(v.eval loc vals).xv with
  | .c (.ch i),some x=>match h.get i with
   | some (.chan cap buf)=>bif Nat.blt buf.length cap then some (.tup [.c (.int .i64 0),.c (.bool false)],h.put i (.chan cap (buf++[x])))
     else some (.tup [.c (.int .i64 (-1)),.c (.bool false)],h)
   | _=>none
  | _,_=>none
 | .send ch v=>match ch.eval loc vals,(v.eval loc vals).xv with
  | .c (.ch i),some x=>match h.get i with
   | some (.chan cap buf)=>bif Nat.blt buf.length cap then some (.tup [],h.put i (.chan cap (buf++[x]))) else none
   | _=>none
  | _,_=>none
 | _=>none
def zjj (h:Heap) (sz:Nat) (zero:List CV) (s n:AV):Option (AV × Heap) :=
 match s,zda n with
 | .c .nils,some m=>match m with
  | 0=>some (.c .nils,h)
  | k + 1=>bif Nat.ble (k + 1) 1048576 then some (.c (.sl h.next 0 (k + 1) (.dy sz)),h.new (.cells (zeros (k + 1) zero))) else none
 | _,_=>none
def zfa (h:Heap) (m:AV) (f:Nat→List Ent→Option (AV × Nat × List Ent)):Option (AV × Heap) :=
 match m with
 | .c (.mp i)=>match h.get i with
  | some (.map c es)=>match f c es with
   | some (r,c',es')=>some (r,h.put i (.map c' es'))
   | none=>none
  | _=>none
 | _=>none
def zrz (n:Int) (x:CV) (c:Nat) (es:List Ent):Option (AV × Nat × List Ent):=some (.tup [],zjv es c n,ze9 es c n x)
def zr0 (n:Int) (c:Nat) (es:List Ent):Option (AV × Nat × List Ent):=some (.tup [],c,zht es n)
def zr1 (c:Nat) (_:List Ent):Option (AV × Nat × List Ent):=some (.tup [],c,[])
def zpi (zero:CV) (n:Int) (c:Nat) (es:List Ent):Option (AV × Nat × List Ent):=match ze4 es n with
 | some (b,v)=>some (.tup [.c v,.c (.int .i64 (Int.ofNat b))],c,es)
 | none=>some (.tup [.c zero,.c (.int .i64 (Int.ofNat c))],c + 1,ze9 es c n zero)
def zr2 (k:Nat) (x:CV) (c:Nat) (es:List Ent):Option (AV × Nat × List Ent):=match mAt es k x with
 | some es'=>some (.tup [],c,es')
 | none=>none
def zet (xs:List X):List AV:=xs.map (X.eval loc vals)
def zf2 (l:List (Nat × Nat)):List AV:=l.map fun p=>.c (.ptr p.1 p.2)
inductive Kd where
 | pure | new | eff
 deriving DecidableEq,Repr
def IOp.kd:IOp→Kd
 | .box _ | .s2b _ | .mks .. | .bsl .. | .mkch .. | .mkmap=>.new
 | .store .. | .app .. | .copy .. | .call .. | .callv .. | .recvd .. | .sendd .. | .send .. | .mark .. | .appz .. | .mput .. | .mdel .. | .mclr .. | .ment .. | .mest .. | .bad=>.eff
 | _=>.pure
variable (call:Nat→List AV→Heap→Option (AV × Heap))
def zbj (h:Heap) (op:IOp):Option (AV × Heap) :=
 match op with
 | .store n x v=>match x.eval loc vals,(v.eval loc vals).cells with
  | .c (.ptr i o),some l=>bif l.length == n then (match h.write i o l with
   | some h'=>some (.tup [],h')
   | none=>none) else none
  | _,_=>none
 | .app sz _ s x=>zdw h sz (s.eval loc vals) (x.eval loc vals)
 | .copy sz d s=>zij h sz (d.eval loc vals) (s.eval loc vals)
 | .call f args=>call f (zet loc vals args) h
 | .callv f args=>match f.eval loc vals with
  | .c (.fn g caps)=>call g (zet loc vals args++zf2 caps) h
  | _=>none
 | .recvd a b=>zfi loc vals h (.recvd a b)
 | .sendd a b=>zfi loc vals h (.sendd a b)
 | .send a b=>zfi loc vals h (.send a b)
 | .appz sz z s n=>zjj h sz z (s.eval loc vals) (n.eval loc vals)
 | .mput m k v=>match asKey (k.eval loc vals),asC (v.eval loc vals) with
  | some n,some x=>zfa h (m.eval loc vals) (zrz n x)
  | _,_=>none
 | .mdel m k=>match asKey (k.eval loc vals) with
  | some n=>zfa h (m.eval loc vals) (zr0 n)
  | none=>none
 | .mclr m=>zfa h (m.eval loc vals) zr1
 | .ment z m k=>match asKey (k.eval loc vals) with
  | some n=>zfa h (m.eval loc vals) (zpi z n)
  | none=>none
 | .mest m s v=>match zda (s.eval loc vals),asC (v.eval loc vals) with
  | some k,some x=>zfa h (m.eval loc vals) (zr2 k x)
  | _,_=>none
 | .mark x=>match x.eval loc vals with
  | .c (.sl i o n c)=>match h.get i with
   | some (.cells _)=>bif Nat.ble 1 n then some (.c (.sl i o n c),h) else none
   | _=>none
  | _=>none
 | _=>none
def zcj (h:Heap) (op:IOp):Option (AV × Heap) :=
 match op.kd with
 | .pure=>match zao loc vals h op with
  | some v=>some (v,h)
  | none=>none
 | .new=>match zbf loc vals op with
  | some (f,b)=>some (f h.next,h.new b)
  | none=>none
 | .eff=>zbj loc vals call h op
def zcy (g:Option (X × Bool)):Option Bool :=
 match g with
 | none=>some true
 | some (x,want)=>match x.eval loc vals with
  | .c (.bool b)=>some (b == want)
  | .tup []=>some false
  | _=>none
end
def zd5 (call:Nat→List AV→Heap→Option (AV × Heap)) (loc:List AV):List Inst→List AV→Heap→Option (List AV × Heap)
 | [],vals,h=>some (vals,h)
 | i :: r,vals,h =>
  match zcy loc vals i.guard with
  | none=>none
  | some false=>zd5 call loc r (.tup [] :: vals) h
  | some true=>match zcj loc vals call h i.op with
   | some (v,h')=>zd5 call loc r (v :: vals) h'
   | none=>none
structure DS where
 vals:List AV
 cur:Heap
 ks:List (Nat × Heap)
 news:List (Nat × Nat × Blk)
 deriving Inhabited
def zd9 (call:Nat→List AV→Heap→Option (AV × Heap)) (loc:List AV) (base:Nat):List Inst→Nat→Nat→DS→Option DS
 | [],_,_,s=>some s
 | i :: r,j,k,s =>
  match zcy loc s.vals i.guard with
  | none=>none
  | some g =>
   match i.op.kd with
   | .pure =>
    match g with
    | false=>zd9 call loc base r (j + 1) k ⟨.tup [] :: s.vals,s.cur,s.ks,s.news⟩
    | true=>match zao loc s.vals s.cur i.op with
     | some v=>zd9 call loc base r (j + 1) k ⟨v :: s.vals,s.cur,s.ks,s.news⟩
     | none=>none
   | .new =>
    match g with
    | false=>zd9 call loc base r (j + 1) (k + 1) ⟨.tup [] :: s.vals,s.cur,s.ks,s.news⟩
    | true=>match zbf loc s.vals i.op with
     | some (f,b)=>zd9 call loc base r (j + 1) (k + 1) ⟨f (base + k) :: s.vals,s.cur.put (base + k) b,s.ks,(j,base + k,b) :: s.news⟩
     | none=>none
   | .eff =>
    match g with
    | false=>zd9 call loc base r (j + 1) k ⟨.tup [] :: s.vals,s.cur,(j,s.cur) :: s.ks,s.news⟩
    | true=>match zbj loc s.vals call s.cur i.op with
     | some (v,h')=>zd9 call loc base r (j + 1) k ⟨v :: s.vals,h',(j,h') :: s.ks,s.news⟩
     | none=>none
def stage (h0:Heap) (s:DS) (e:Option Nat):Option Heap :=
 match e with
 | none=>some h0
 | some e=>s.ks.lookup e
def zdy (s:DS):List Nat→Heap→Heap
 | [],h=>h
 | p :: r,h=>match s.news.lookup p with
  | some (i,b)=>zdy s r (h.put i b)
  | none=>zdy s r h
def zeu (loc:List AV) (h0:Heap) (s:DS) (op:IOp) (vals:List AV) (v:AV):List (Option Nat × List Nat)→Bool
 | []=>true
 | (e,ps) :: r =>
  match stage h0 s e with
  | some h=>match zao loc vals (zdy s ps h) op with
   | some u=>decide (u=v) && zeu loc h0 s op vals v r
   | none=>false
  | none=>false
def zeg (loc:List AV) (h0:Heap) (s:DS):List Inst→List AV→Bool
  | [],_=>true
  | i :: r,vals =>
    match vals with
    | []=>false
    | v :: vs =>
      (match i.chk with
       | []=>true
       | c :: cs=>match zcy loc vs i.guard with
         | some true=>zeu loc h0 s i.op vs v (c :: cs)
         | some false=>true
         | none=>false) && zeg loc h0 s r vs
def zc2 (loc:List AV) (d:Option Nat) (v:AV):List AV :=
 match d with
 | some d=>loc.set d v
 | none=>loc
def zb4:List Inst→List AV→List AV→List AV
 | [],_,loc=>loc
 | i :: r,v :: vals,loc=>zb4 r vals (zc2 loc i.dst v)
 | _ :: _,[],loc=>loc
def zbv:List Bool→List AV→List AV
 | b :: m,v :: r=>(bif b then v else .junk) :: zbv m r
 | _,r=>r
section
variable (call:Nat→List AV→Heap→Option (AV × Heap))
def zfj (body:List AV→Heap→Option (Ex × List AV × Heap)) (keep:List Bool):Nat→List AV→Heap→Option (Ex × List AV × Heap)
 | 0,_,_=>none
 | n + 1,loc,h =>
  match body (zbv keep loc) h with
  | some (.norm,loc',h')=>zfj body keep n loc' h'
  | r=>r
def zmy (l:List Inst) (loc:List AV) (h:Heap):Option (Ex × List AV × Heap) :=
 match zd5 call loc l [] h with
 | some (vals,h')=>some (.norm,zb4 l vals.reverse loc,h')
 | none=>none
def zmz (n:Nat) (l:List Inst) (loc:List AV) (h:Heap):Option (Ex × List AV × Heap) :=
 match zd9 call loc h.next l 0 0 ⟨[],h.skip n,[],[]⟩ with
 | some s=>bif zeg loc (h.skip n) s l.reverse s.vals then some (.norm,zb4 l s.vals.reverse loc,s.cur) else none
 | none=>none
def ev (N:Nat):IR→List AV→Heap→Option (Ex × List AV × Heap)
 | .skip,loc,h=>some (.norm,loc,h)
 | .reg l,loc,h=>zmy call l loc h
 | .dreg n l,loc,h=>zmz call n l loc h
 | .seq a b,loc,h=>match ev N a loc h with
  | some (.norm,loc',h')=>ev N b loc' h'
  | r=>r
 | .cond x a b,loc,h=>match x.eval loc [] with
  | .c (.bool true)=>ev N a loc h
  | .c (.bool false)=>ev N b loc h
  | _=>none
 | .block id a,loc,h=>match ev N a loc h with
  | some (.exit j,loc',h')=>some (bif j == id then .norm else .exit j,loc',h')
  | r=>r
 | .loop keep a,loc,h=>zfj (ev N a) keep N loc h
 | .exit id,loc,h=>some (.exit id,loc,h)
 | .ret,loc,h=>some (.ret,loc,h)
 | .bad,_,_=>none
end
inductive RV where
 | loc (i:Nat)
 | cell (i n:Nat) (agg:Bool)
 deriving Repr,Inhabited
structure IRF where
 slots:List Nat
 nparams:Nat
 results:List RV
 body:IR
 deriving Repr,Inhabited
def RV.eval (loc:List AV) (h:Heap):RV→Option AV
 | .loc i=>some (loc.getD i .junk)
 | .cell i n agg=>match loc.getD i .junk with
  | .c (.ptr b o)=>match h.read b o n with
   | some l=>AV.ofCells agg l
   | none=>none
  | _=>none
def zcb (loc:List AV) (h:Heap):List RV→Option (List XV)
 | []=>some []
 | r :: rs=>match r.eval loc h with
  | some v=>match v.xv with
   | some x=>match zcb loc h rs with
    | some xs=>some (x :: xs)
    | none=>none
   | none=>none
  | none=>none
def zbk (loc:List AV) (h:Heap):List RV→Option AV
 | [r]=>r.eval loc h
 | rs=>match zcb loc h rs with
  | some xs=>some (.tup xs)
  | none=>none
def enter (slots:List Nat) (args:List AV):List AV:=slots.map fun s=>args.getD s (.tup [])
end Lav
namespace Lav
open Go (IntKind BinOp UnOp Value Program TypeId Operand Op Oper Code Func Builtin Edge)
def zhu:Value→Option CV
 | .bool b=>some (.bool b)
 | .int k n=>some (.int k n)
 | .string s=>some (.str (s.data.toList.map UInt8.toNat))
 | .pointer none=>some .nilp
 | .slice none 0 0=>some .nils
 | .chan none=>some .nilch
 | .nilFunc=>some .nilf
 | .map none=>some .nilm
 | .func (.func f) first caps=>bif first.size == 0 && caps.size == 0 then some (.fn f []) else none
 | _=>none
def zm0:List Value→Option (List CV)
 | []=>some []
 | v :: r=>match zhu v with
  | some c=>match zm0 r with
   | some t=>some (c :: t)
   | none=>none
  | none=>none
def znz:Value→Option AV
 | .agg cs=>match zm0 cs.toList with
  | some l=>some (.agg l)
  | none=>none
 | .tuple vs=>bif vs.size == 0 then some (.tup []) else none
 | v=>match zhu v with
  | some c=>some (.c c)
  | none=>none
def zgi:List Nat→Bool
 | []=>true
 | x :: r=>!(r.contains x) && zgi r
def zcv (ds:List (Option Nat)) (t:Nat):Option Nat :=
 match ds with
 | []=>none
 | d :: r=>match d with
  | some u=>bif u == t then some 0 else (match zcv r t with | some i=>some (i + 1) | none=>none)
  | none=>match zcv r t with | some i=>some (i + 1) | none=>none
def zea (slots:List Nat) (t:Nat):Option Nat :=
 match slots with
 | []=>none
 | u :: r=>bif u == t then some 0 else (match zea r t with | some i=>some (i + 1) | none=>none)
section
variable (P:Program) (slots:List Nat)
def cX (ds:List (Option Nat)):Operand→Option X
 | .tmp t=>match zcv ds t with
  | some d=>some (.val d)
  | none=>match zea slots t with
   | some i=>some (.loc i)
   | none=>none
 | .const v=>match znz v with
  | some a=>some (.k a)
  | none=>none
 | .func f=>some (.k (.c (.fn f [])))
 | .global _=>none
def cXo (ds:List (Option Nat)):Option Operand→Option (Option X)
 | none=>some none
 | some x=>match cX slots ds x with
  | some y=>some (some y)
  | none=>none
def cXs (ds:List (Option Nat)):List Operand→Option (List X)
 | []=>some []
 | x :: r=>match cX slots ds x with
  | some y=>match cXs ds r with
   | some t=>some (y :: t)
   | none=>none
  | none=>none
def zck (t:TypeId):Option Nat:=(P.info? t).map (·.size)
def zfr (t:TypeId):Option Nat:=(P.info? t).map (·.bytes)
def zgs (t:TypeId):Option Bool :=
 match P.underlying t with
 | some (.struct _)=>some true
 | some (.array _ _)=>some true
 | some _=>some false
 | none=>none
def zh3 (t:TypeId):Option AV:=(P.info? t).bind fun i=>i.zero.bind znz
def zfs (t:TypeId):Option (List CV):=(zh3 P t).bind AV.cells
def zga (t:TypeId):Bool:=match P.underlying t with | some (.int .u8)=>true | _=>false
def zft (t:TypeId):Option Bool :=
 match P.underlying t with
 | some (.int _)=>some true
 | some .bool=>some false
 | _=>none
def zf3:Nat→List Go.Field→Option (List Bool)
 | _,[]=>some []
 | n,f :: r =>
  match zft P f.type,zf3 (n + 1) r with
  | some k,some ks=>bif f.offset == n && f.name != "_" && zck P f.type == some 1 then some (k :: ks) else none
  | _,_=>none
def zjk (t:TypeId):Option EqK :=
 match P.underlying t with
 | some (.int _)=>some .prim
 | some .string=>some .prim
 | some .bool=>some .bool
 | some (.pointer _)=>some .ptr
 | some (.slice _)=>some .slice
 | some (.func _ _ _)=>some .func
 | some (.struct fs)=>match zf3 P 0 fs.toList with
  | some ks=>bif !P.stoodInHeld t && !P.eqGuardType P.depth t then some (.agg ks) else none
  | none=>none
 | some (.array n e)=>match zft P e with
  | some k=>bif zck P e == some 1 && !P.eqGuardType P.depth t then some (.agg (List.replicate n k)) else none
  | none=>none
 | _=>none
def zev (place:Nat→Option (Nat × Nat)) (ds:List (Option Nat)):List (Nat × Operand)→Option (List (Nat × Nat × X))
 | []=>some []
 | (i,x) :: r=>match place i,cX slots ds x with
  | some (off,n),some y=>match zev place ds r with
   | some t=>some ((off,n,y) :: t)
   | none=>none
  | _,_=>none
def zlw (fs:List Go.Field):Option (List (Nat × Nat)):=fs.mapM fun f=>(P.info? f.type).map fun i=>(f.offset,i.size)
def ob {α β:Type} (x:Option α) (f:α→Option β):Option β:=match x with | some a=>f a | none=>none
def zpj (ds:List (Option Nat)) (op:BinOp) (t:TypeId) (x y:Operand):Option IOp :=
 ob (cX slots ds x) fun a=>ob (cX slots ds y) fun b =>
  match op with
  | .eql=>ob (zjk P t) fun k=>match k with | .prim=>some (.bin .eql a b) | k=>some (.eq k false a b)
  | .neq=>ob (zjk P t) fun k=>match k with | .prim=>some (.bin .neq a b) | k=>some (.eq k true a b)
  | op=>some (.bin op a b)
def zm1 (ds:List (Option Nat)) (src dst:TypeId) (x:Operand):Option IOp :=
 ob (cX slots ds x) fun a =>
  match P.underlying src,P.underlying dst with
  | some (.int _),some (.int k)=>some (.conv k a)
  | some (.slice _),some (.slice e)=>bif src == dst && zga P e then some (.mark a) else none
  | some (.slice e),some .string=>bif zga P e then some (.b2s a) else none
  | some .string,some (.slice e)=>bif zga P e then some (.s2b a) else none
  | _,_=>none
def zm2 (ds:List (Option Nat)) (t:TypeId) (x:Operand) (lo hi mx:Option Operand):Option IOp :=
 ob (cX slots ds x) fun a=>ob (cXo slots ds lo) fun l=>ob (cXo slots ds hi) fun r=>ob (cXo slots ds mx) fun m =>
  match P.underlying t with
  | some .string=>match m with | none=>some (.sstr a l r) | some _=>none
  | some (.slice e)=>ob (zck P e) fun sz=>match m,r with
   | some _,none=>none
   | _,_=>some (.slice sz a l r m)
  | some (.array n e)=>ob (zck P e) fun sz=>match m with | none=>some (.sarr n sz a l r) | some _=>none
  | _=>none
def zr3 (ds:List (Option Nat)) (t:TypeId) (x i:Operand):Option IOp :=
 ob (cX slots ds x) fun a=>ob (cX slots ds i) fun b =>
  match P.underlying t with
  | some .string=>some (.idxS a b)
  | some (.array n e)=>ob (zck P e) fun sz=>ob (zgs P e) fun g=>some (.idxA sz n g a b)
  | _=>none
def zjw (ds:List (Option Nat)) (t:TypeId) (x i:Operand):Option IOp :=
 ob (cX slots ds x) fun a=>ob (cX slots ds i) fun b =>
  match P.underlying t with
  | some (.slice e)=>ob (zck P e) fun sz=>some (.iaddr sz a b)
  | some (.array n e)=>ob (zck P e) fun sz=>some (.iaddrA sz n a b)
  | _=>none
def zm3 (ds:List (Option Nat)) (t:TypeId) (x:Operand) (f:Nat):Option IOp :=
 ob (cX slots ds x) fun a =>
  match P.underlying t with
  | some (.struct fs)=>ob fs[f]? fun f=>ob (zck P f.type) fun n=>ob (zgs P f.type) fun g=>some (.field f.offset n g a)
  | _=>none
def zh4 (ds:List (Option Nat)) (t:TypeId) (x:Operand) (f:Nat):Option IOp :=
 ob (cX slots ds x) fun a =>
  match P.underlying t with
  | some (.struct fs)=>ob fs[f]? fun f=>ob (zck P f.type) fun n=>bif n == 0 then none else some (.faddr f.offset a)
  | _=>none
def zjl (ds:List (Option Nat)) (t:TypeId) (parts:List (Nat × Operand)):Option IOp :=
 ob (zfs P t) fun z =>
  match P.underlying t with
  | some (.struct fs)=>ob (zlw P fs.toList) fun pl=>ob (zev slots (fun i=>pl[i]?) ds parts) fun ps=>some (.build z ps)
  | some (.array _ e)=>ob (zck P e) fun n=>ob (zev slots (fun i=>some (i * n,n)) ds parts) fun ps=>some (.build z ps)
  | _=>none
def zgd (ds:List (Option Nat)) (t:TypeId) (len:Nat) (parts:List (Nat × Operand)):Option IOp :=
 match P.underlying t with
 | some (.slice e)=>ob (zfs P e) fun z=>ob (zck P e) fun n =>
   bif z.length == n && Nat.ble (len * n) 16777216 then ob (zev slots (fun i=>some (i * n,n)) ds parts) fun ps=>some (.bsl len z ps) else none
 | _=>none
def zh5 (ds:List (Option Nat)) (t:TypeId) (l c:Operand):Option IOp :=
 match P.underlying t with
 | some (.slice e)=>ob (zfs P e) fun z=>ob (zck P e) fun n=>ob (zfr P e) fun b=>ob (cX slots ds l) fun x=>ob (cX slots ds c) fun y =>
   bif z.length == n && Nat.ble b 1024 then some (.mks n z x y) else none
 | _=>none
def elemOf (t:TypeId):Option (Nat × Nat) :=
 match P.underlying t with
 | some (.slice e)=>ob (zck P e) fun n=>ob (zfr P e) fun b=>ob (zfs P e) fun z=>bif z.length == n && !(n == 0) && !(b == 0) && Nat.ble b 1024 then some (n,b) else none
 | _=>none
def zn0 (s t:TypeId):Option (List CV) :=
 match P.underlying s,P.underlying t with
 | some (.slice e),some (.int _)=>zfs P e
 | _,_=>none
def mapOf (t:TypeId):Option CV :=
 match P.underlying t with
 | some (.map k e)=>match P.underlying k,zgs P e,zh3 P e with
  | some (.int .i64),some false,some (.c z)=>some z
  | _,_,_=>none
 | _=>none
def zek (sz:Nat) (t:TypeId):Bool :=
 match P.underlying t with
 | some (.slice e)=>zck P e == some sz
 | some .string=>sz == 1
 | _=>false
def zik (ds:List (Option Nat)) (b:Builtin) (argTypes:List TypeId) (args:List Operand):Option IOp :=
 match b,argTypes,args with
 | .len,[t],[x]=>ob (cX slots ds x) fun a =>
  match P.underlying t with
  | some .string=>some (.len .str a)
  | some (.slice _)=>some (.len .sl a)
  | some (.chan _ _)=>some (.len .ch a)
  | some (.array n _)=>some (.mov (.k (.c (.int .i64 (Int.ofNat n)))))
  | some (.pointer e)=>match P.underlying e with
   | some (.array n _)=>some (.mov (.k (.c (.int .i64 (Int.ofNat n)))))
   | _=>none
  | _=>none
 | .max,_,xs=>ob (cXs slots ds xs) fun as=>some (.mx as)
 | .min,_,xs=>ob (cXs slots ds xs) fun as=>some (.mn as)
 | .append,[s,t],[x,y]=>ob (elemOf P s) fun e=>ob (cX slots ds x) fun a=>ob (cX slots ds y) fun b =>
   bif zek P e.1 t then some (.app e.1 e.2 a b) else ob (zn0 P s t) fun z=>some (.appz e.1 z a b)
 | .copy,[s,t],[x,y]=>ob (elemOf P s) fun e=>ob (cX slots ds x) fun a=>ob (cX slots ds y) fun b =>
   bif zek P e.1 t then some (.copy e.1 a b) else none
 | .cap,[t],[x]=>ob (cX slots ds x) fun a =>
  match P.underlying t with
  | some (.slice _)=>some (.cap a)
  | _=>none
 | .delete,[t,_],[x,y]=>ob (mapOf P t) fun _=>ob (cX slots ds x) fun a=>ob (cX slots ds y) fun b=>some (.mdel a b)
 | .clear,[t],[x]=>ob (mapOf P t) fun _=>ob (cX slots ds x) fun a=>some (.mclr a)
 | _,_,_=>none
def zo9 (ds:List (Option Nat)) (c:Go.Call):Option IOp :=
 match c.callee with
 | .builtin b=>zik P slots ds b c.argTypes.toList c.args.toList
 | .value (.func f)=>ob (cXs slots ds c.args.toList) fun as=>some (.call f as)
 | .value x=>ob (cX slots ds x) fun f=>ob (cXs slots ds c.args.toList) fun as=>some (.callv f as)
 | .invoke _ _=>none
def zll (ds:List (Option Nat)) (cases:List Go.SelectCase) (blocking:Bool):Option IOp :=
 match cases,blocking with
 | [c],false=>ob (cX slots ds c.chan) fun ch =>
  match c.send with
  | some v=>ob (cX slots ds v) fun x=>ob (zh3 P c.elem) fun _=>some (.sendd ch x)
  | none=>ob (zh3 P c.elem) fun z=>ob z.xv fun z=>some (.recvd ch z)
 | _,_=>none
def cOp? (ds:List (Option Nat)):Op→Option IOp
 | .move x | .assign x=>ob (cX slots ds x) fun a=>some (.mov a)
 | .pick c x y=>ob (cX slots ds c) fun c=>ob (cX slots ds x) fun a=>ob (cX slots ds y) fun b=>some (.pick c a b)
 | .alloc t=>ob (zh3 P t) fun z=>some (.box (.k z))
 | .box _ x=>ob (cX slots ds x) fun a=>some (.box a)
 | .load t x=>ob (cX slots ds x) fun a=>ob (zck P t) fun n=>ob (zgs P t) fun g=>bif g || n == 1 then some (.load n g a) else none
 | .store t x v=>ob (cX slots ds x) fun a=>ob (cX slots ds v) fun b=>ob (zck P t) fun n=>some (.store n a b)
 | .binOp op t x y _=>zpj P slots ds op t x y
 | .unOp op _ x=>ob (cX slots ds x) fun a=>some (.un op a)
 | .convert src dst x=>zm1 P slots ds src dst x
 | .makeSlice t l c=>zh5 P slots ds t l c
 | .slice t x lo hi mx=>zm2 P slots ds t x lo hi mx
 | .fieldAddr t x f=>zh4 P slots ds t x f
 | .field t x f=>zm3 P slots ds t x f
 | .indexAddr t x i=>zjw P slots ds t x i
 | .index t x i=>zr3 P slots ds t x i
 | .build t parts=>zjl P slots ds t parts.toList
 | .buildSlice t len parts=>zgd P slots ds t len parts.toList
 | .extract x i=>ob (cX slots ds x) fun a=>some (.ext i a)
 | .makeFunc (.func f) first caps=>bif first.size == 0 then ob (cXs slots ds caps.toList) fun cs=>some (.mkfn f cs) else none
 | .nilCheck x=>ob (cX slots ds x) fun a=>some (.nilchk a)
 | .call c=>zo9 P slots ds c
 | .makeChan t n=>match P.underlying t with
  | some (.chan _ e)=>ob (zfr P e) fun b=>ob (cX slots ds n) fun x=>bif Nat.ble b 1024 then some (.mkch b x) else none
  | _=>none
 | .makeMap t none=>ob (mapOf P t) fun _=>some .mkmap
 | .lookup t x i ok=>ob (mapOf P t) fun z=>ob (cX slots ds x) fun a=>ob (cX slots ds i) fun b=>some (.mget z ok a b)
 | .mapUpdate t m k v | .insert t m k v=>ob (mapOf P t) fun _=>ob (cX slots ds m) fun a=>ob (cX slots ds k) fun b=>ob (cX slots ds v) fun c=>some (.mput a b c)
 | .mapEntry t m k=>ob (mapOf P t) fun z=>ob (cX slots ds m) fun a=>ob (cX slots ds k) fun b=>some (.ment z a b)
 | .entryStore t m s v=>ob (mapOf P t) fun _=>ob (cX slots ds m) fun a=>ob (cX slots ds s) fun b=>ob (cX slots ds v) fun c=>some (.mest a b c)
 | .select cases blocking=>zll P slots ds cases.toList blocking
 | .send ch v=>ob (cX slots ds ch) fun c=>ob (cX slots ds v) fun x=>some (.send c x)
 | _=>none
def cOp (ds:List (Option Nat)) (o:Op):IOp:=match cOp? P slots ds o with | some x=>x | none=>.bad
def zgt (ops:List Oper) (ds:List (Option Nat)) (j:Nat) (g:Option (Nat × Bool)):Option (Option (X × Bool)) :=
 match g with
 | none=>some none
 | some (i,want)=>ob (ops[i]?) fun o=>ob o.dst fun d=>ob (zcv ds d) fun r=>bif r + i + 1 == j then some (some (.val r,want)) else none
def zhv (ntmps:Nat) (dst:Option Nat):Option (Option Nat) :=
 match dst with
 | none=>some none
 | some d=>bif Nat.blt d ntmps then some (zea slots d) else none
def zgm (ntmps:Nat) (ops:List Oper):List Oper→List (Option Nat)→Nat→Option (List Inst)
 | [],_,_=>some []
 | o :: r,ds,j =>
  match zhv slots ntmps o.dst,zgt ops ds j o.guard with
  | some dst,some g=>match zgm ntmps ops r (o.dst :: ds) (j + 1) with
   | some t=>some (⟨dst,cOp P slots ds o.op,g,[]⟩ :: t)
   | none=>none
  | _,_=>none
def looks (ops:List Oper) (o:Oper):List Nat :=
  (o.op.operands.toList.filterMap fun | .tmp t=>some t | _=>none) ++
  (match o.guard with
   | some (g,_)=>((ops[g]?).bind (·.dst)).toList
   | none=>[])
def zd3:List Oper→List Nat→List Nat
 | [],acc=>acc.reverse
 | o :: r,acc =>
  zd3 r ((o.after.toList.foldl (fun s e=>bif Go.Region.binds .any e then s ||| 2 ^ e.on ||| (acc.reverse.getD e.on 0) else s) 0) :: acc)
def settled (ops:List Oper) (b:List Nat):Bool :=
 ops.zipIdx.all fun (o,i)=>match o.dst with
  | none=>true
  | some d=>ops.zipIdx.all fun (q,j) =>
    i == j || !((looks ops q).contains d || q.dst == some d) || (bif Nat.blt i j then (b.getD j 0).testBit i else (b.getD i 0).testBit j)
def zhk (ops:List Oper):Bool:=ops.zipIdx.all fun (o,i)=>o.after.toList.all fun e=>!Go.Region.binds .any e || Nat.blt e.on i
def IOp.reads:IOp→Bool
 | .load .. | .len .. | .b2s .. | .mget ..=>true
 | _=>false
section
variable (bits:List Nat) (effs news:List Nat)
def anc (i j:Nat):Bool:=(bits.getD j 0).testBit i
def zjx (i:Nat) (e:Option Nat):Bool :=
 (effs.all fun x=>!(anc bits x i) || (match e with | some y=>Nat.ble x y | none=>false)) &&
 (match e with | some y=>!(anc bits i y) && !(y == i) | none=>true)
def zew:List Nat→Nat→Option Nat→Option Nat
 | [],_,r=>r
 | e :: es,i,r=>bif Nat.blt e i then zew es i (some e) else r
def behind (e:Option Nat) (a:Nat):Bool:=match e with | some y=>Nat.blt y a | none=>true
def zmc (i:Nat):Bool :=
 ((none :: effs.map some).all fun e=>!(zjx bits effs i e) || e == zew effs i none) &&
 (news.all fun a=>!(Nat.blt a i && behind (zew effs i none) a) || anc bits a i)
def zjy (i:Nat) (op:IOp):List (Option Nat × List Nat) :=
 bif op.reads && !(zmc bits effs news i) then
  ((none :: effs.map some).filter (zjx bits effs i)).map fun e=>(e,news.filter fun a=>behind e a && anc bits a i)
 else []
def zjm:Bool :=
 (effs.all fun i=>effs.all fun j=>!(Nat.blt i j) || anc bits i j) &&
 (news.all fun a=>effs.all fun j=>!(Nat.blt a j) || anc bits a j)
end
def okX (ds:List (Option Nat)) (ts:List Nat):X→Bool
 | .k _=>true
 | .val d=>ts.any fun t=>zcv ds t == some d
 | .loc i=>ts.any fun t=>zcv ds t == none && zea slots t == some i
def zn1 (ops:List Oper):List Oper→List Inst→List (Option Nat)→Bool
 | [],[],_=>true
 | o :: r,i :: is,ds=>(i.op.xs.all fun x=>okX slots ds (looks ops o) x) && zn1 ops r is (o.dst :: ds)
 | _,_,_=>false
def zgu (k:Kd) (l:List Inst):List Nat:=(l.zipIdx.filter fun p=>p.1.op.kd == k).map (·.2)
def zel (bits effs news:List Nat):Nat→List Inst→List Inst
 | _,[]=>[]
 | i,x :: r=>{ x with chk:=zjy bits effs news i x.op } :: zel bits effs news (i + 1) r
def zpk (ntmps:Nat) (ops:List Oper) (draw:Bool):IR :=
 match zgm P slots ntmps ops ops [] 0 with
 | none=>.bad
 | some l=>match draw with
  | false=>.reg l
  | true =>
   let b:=zd3 ops []
   let effs:=zgu .eff l
   let news:=zgu .new l
   bif settled ops b && zhk ops && zjm b effs news && zn1 slots ops ops l [] && zgi slots then .dreg news.length (zel b effs news 0 l) else .bad
def zdh (ntmps:Nat):Code→List (List Bool)→IR × List (List Bool)
 | .skip,ks=>(.skip,ks)
 | .label _,ks=>(.skip,ks)
 | .region _ ops draw,ks=>(zpk P slots ntmps ops.toList draw,ks)
 | .seq a b,ks=>let (x,ks):=zdh ntmps a ks;let (y,ks):=zdh ntmps b ks;(.seq x y,ks)
 | .cond c a b,ks=>let (x,ks):=zdh ntmps a ks;let (y,ks):=zdh ntmps b ks
  match cX slots [] c with
  | some v=>(.cond v x y,ks)
  | none=>(.bad,ks)
 | .block id a,ks=>let (x,ks):=zdh ntmps a ks;(.block id x,ks)
 | .loop a,ks=>match ks with
  | k :: ks=>let (x,ks):=zdh ntmps a ks;(.loop k x,ks)
  | []=>let (x,ks):=zdh ntmps a [];(.loop [] x,ks)
 | .scope a,ks=>zdh ntmps a ks
 | .exit id,ks=>(.exit id,ks)
 | .ret,ks=>(.ret,ks)
 | _,ks=>(.bad,ks)
end
def ze3 (P:Program) (slots:List Nat):List Go.ResultVar→Option (List RV)
 | []=>some []
 | r :: rs=>match (match r with
   | .tmp t=>(zea slots t).map RV.loc
   | .cell a t=>ob (zea slots a) fun i=>ob (zck P t) fun n=>ob (zgs P t) fun g=>bif g || n == 1 then some (RV.cell i n g) else none:Option RV) with
  | some x=>match ze3 P slots rs with
   | some t=>some (x :: t)
   | none=>none
  | none=>none
def zaw (P:Program) (slots:List Nat) (keeps:List (List Bool)) (fn:Func):Option IRF :=
 match fn.body,ze3 P slots fn.results.toList with
 | some c,some rs =>
  bif fn.name == "runtime.NumGoroutine" || fn.nfree + fn.params.size > fn.ntmps || !(slots.all fun s=>Nat.blt s fn.ntmps) || !(zgi slots) then none
  else some ⟨slots,fn.params.size + fn.nfree,rs,(zdh P slots fn.ntmps c keeps).1⟩
 | _,_=>none
end Lav
namespace Lav
open Go
def All2 {α β:Type} (R:α→β→Prop):List α→List β→Prop
 | [],[]=>True
 | a :: l,b :: m=>R a b∧All2 R l m
 | _,_=>False
section
variable {α β γ:Type} {R S:α→β→Prop}
theorem All2.imp (h:∀ a b,R a b→S a b):∀ {l:List α} {m:List β},All2 R l m→All2 S l m
 | [],[],_=>trivial
 | _ :: _,_ :: _,⟨h1,h2⟩=>⟨h _ _ h1,All2.imp h h2⟩
 | [],_ :: _,h=>h.elim
 | _ :: _,[],h=>h.elim
theorem All2.length:∀ {l:List α} {m:List β},All2 R l m→l.length=m.length
 | [],[],_=>rfl
 | _ :: _,_ :: _,⟨_,h2⟩=>by simp [All2.length h2]
 | [],_ :: _,h=>h.elim
 | _ :: _,[],h=>h.elim
theorem All2.get:∀ {l:List α} {m:List β},All2 R l m→∀ (i:Nat) (a:α),l[i]? = some a→∃ b,m[i]? = some b∧R a b
 | [],[],_,i,a,h=>by simp at h
 | x :: l,y :: m,⟨h1,h2⟩,0,a,h=>⟨y,rfl,by simp at h;exact h ▸ h1⟩
 | x :: l,y :: m,⟨h1,h2⟩,i + 1,a,h=>by simpa using All2.get h2 i a (by simpa using h)
 | [],_ :: _,h,_,_,_=>h.elim
 | _ :: _,[],h,_,_,_=>h.elim
theorem All2.of_get:∀ {l:List α} {m:List β},l.length=m.length→(∀ (i:Nat) (a:α),l[i]? = some a→∃ b,m[i]? = some b∧R a b)→All2 R l m
 | [],[],_,_=>trivial
 | x :: l,y :: m,hl,h=>⟨by obtain ⟨b,hb,hr⟩:=h 0 x rfl;simp at hb;exact hb ▸ hr,
   All2.of_get (by simpa using hl) (fun i a ha=>by obtain ⟨b,hb,hr⟩:=h (i + 1) a (by simpa using ha);exact ⟨b,by simpa using hb,hr⟩)⟩
 | [],_ :: _,hl,_=>by simp at hl
 | _ :: _,[],hl,_=>by simp at hl
theorem All2.append:∀ {l:List α} {m:List β} {l':List α} {m':List β},All2 R l m→All2 R l' m'→All2 R (l++l') (m++m')
 | [],[],_,_,_,h=>h
 | _ :: _,_ :: _,_,_,⟨h1,h2⟩,h=>⟨h1,All2.append h2 h⟩
 | [],_ :: _,_,_,h,_=>h.elim
 | _ :: _,[],_,_,h,_=>h.elim
theorem All2.take:∀ (n:Nat) {l:List α} {m:List β},All2 R l m→All2 R (l.take n) (m.take n)
 | 0,_,_,_=>by simp [All2]
 | _ + 1,[],[],_=>by simp [All2]
 | n + 1,_ :: _,_ :: _,⟨h1,h2⟩=>⟨h1,All2.take n h2⟩
 | _ + 1,[],_ :: _,h=>h.elim
 | _ + 1,_ :: _,[],h=>h.elim
theorem All2.drop:∀ (n:Nat) {l:List α} {m:List β},All2 R l m→All2 R (l.drop n) (m.drop n)
 | 0,_,_,h=>by simpa using h
 | _ + 1,[],[],_=>by simp [All2]
 | n + 1,_ :: _,_ :: _,⟨_,h2⟩=>by simpa using All2.drop n h2
 | _ + 1,[],_ :: _,h=>h.elim
 | _ + 1,_ :: _,[],h=>h.elim
end
abbrev Inj:=Nat→Option (Nat × Nat × Nat)
def zjz (c:Cap) (o cap lim:Nat):Prop :=
 match c with
 | .ex k=>cap=k
 | .dy sz=>o + cap * sz≤lim
def capVal (ι:Inj) (p:Nat × Nat) (v:Value):Prop:=∃ b base lim,ι p.1=some (b,base,lim)∧v = .pointer (some ⟨b,base + p.2,none⟩)
def CR (ι:Inj):CV→Value→Prop
 | .bool b,v=>v = .bool b
 | .int k n,v=>v = .int k n
 | .res false m r,v=>(m=0∧∃ (k:IntKind) (n:Int),v = .int k n)∨∃ n:Int,v = .int .i64 n∧IntKind.u64.wrap n % (m:Int)=(r:Int)
 | .res true m r,v=>∃ n:Int,v = .int .u64 n∧0≤n∧n % (m:Int)=(r:Int)
 | .str l,v=>∃ s:ByteArray,v = .string s∧s.data.toList.map UInt8.toNat=l
 | .nilp,v=>v = .pointer none
 | .ptr i o,v=>∃ b base lim,ι i=some (b,base,lim)∧v = .pointer (some ⟨b,base + o,none⟩)
 | .nils,v=>v = .slice none 0 0
 | .sl i o len c,v=>∃ b base lim a cap,ι i=some (b,base,lim)∧v = .slice (some a) len cap∧len≤cap∧(cap≠0→a=⟨b,base + o,none⟩)∧zjz c o cap lim
 | .nilch,v=>v = .chan none
 | .ch i,v=>∃ b base lim,ι i=some (b,base,lim)∧v = .chan (some b)
 | .nilf,v=>v = .nilFunc
 | .fn f caps,v=>∃ vs:Array Value,v = .func (.func f) #[] vs∧All2 (capVal ι) caps vs.toList
 | .nilm,v=>v = .map none
 | .mp i,v=>∃ b base lim,ι i=some (b,base,lim)∧v = .map (some b)
def XR (ι:Inj):XV→Value→Prop
 | .c x,v=>CR ι x v
 | .agg l,v=>∃ cs:Array Value,v = .agg cs∧All2 (CR ι) l cs.toList
def AR (ι:Inj):AV→Value→Prop
 | .c x,v=>CR ι x v
 | .agg l,v=>∃ cs:Array Value,v = .agg cs∧All2 (CR ι) l cs.toList
 | .tup l,v=>∃ vs:Array Value,v = .tuple vs∧All2 (XR ι) l vs.toList
 | .junk,_=>True
def Le (ι ι':Inj):Prop:=∀ i x,ι i=some x→ι' i=some x
theorem Le.refl (ι:Inj):Le ι ι:=fun _ _ h=>h
theorem Le.trans {a b c:Inj} (h:Le a b) (k:Le b c):Le a c:=fun i x hx=>k i x (h i x hx)
theorem capVal.mono {ι ι':Inj} (h:Le ι ι') {p:Nat × Nat} {v:Value} (hc:capVal ι p v):capVal ι' p v :=
 let ⟨b,base,lim,h1,h2⟩:=hc;⟨b,base,lim,h _ _ h1,h2⟩
theorem CR.mono {ι ι':Inj} (h:Le ι ι') {x:CV} {v:Value} (hc:CR ι x v):CR ι' x v:=by
 cases x with
 | ptr i o=>obtain ⟨b,base,lim,h1,h2⟩:=hc;exact ⟨b,base,lim,h _ _ h1,h2⟩
 | sl i o len c=>obtain ⟨b,base,lim,a,cap,h1,h2⟩:=hc;exact ⟨b,base,lim,a,cap,h _ _ h1,h2⟩
 | ch i=>obtain ⟨b,base,lim,h1,h2⟩:=hc;exact ⟨b,base,lim,h _ _ h1,h2⟩
 | mp i=>obtain ⟨b,base,lim,h1,h2⟩:=hc;exact ⟨b,base,lim,h _ _ h1,h2⟩
 | fn f caps=>obtain ⟨vs,h1,h2⟩:=hc;exact ⟨vs,h1,h2.imp fun _ _ h'=>h'.mono h⟩
 | res u m r=>cases u<;>exact hc
 | _=>exact hc
theorem XR.mono {ι ι':Inj} (h:Le ι ι') {x:XV} {v:Value} (hc:XR ι x v):XR ι' x v:=by
 cases x with
 | c x=>exact CR.mono h (x:=x) hc
 | agg l=>obtain ⟨cs,h1,h2⟩:=hc;exact ⟨cs,h1,h2.imp fun _ _ h'=>h'.mono h⟩
theorem AR.mono {ι ι':Inj} (h:Le ι ι') {x:AV} {v:Value} (hc:AR ι x v):AR ι' x v:=by
 cases x with
 | c x=>exact CR.mono h (x:=x) hc
 | agg l=>obtain ⟨cs,h1,h2⟩:=hc;exact ⟨cs,h1,h2.imp fun _ _ h'=>h'.mono h⟩
 | tup l=>obtain ⟨cs,h1,h2⟩:=hc;exact ⟨cs,h1,h2.imp fun _ _ h'=>h'.mono h⟩
 | junk=>trivial
theorem AR.of_xv {ι:Inj} {x:XV} {v:Value}:AR ι x.av v↔XR ι x v:=by cases x<;>exact Iff.rfl
theorem XR.of_av {ι:Inj} {a:AV} {x:XV} {v:Value} (h:a.xv=some x) (hr:AR ι a v):XR ι x v:=by
 cases a<;>simp [AV.xv] at h<;>subst h<;>exact hr
theorem CR.cells {ι:Inj} {x:CV} {v:Value} (h:CR ι x v):v.cells = #[v]:=by
 cases x with
 | ptr i o=>obtain ⟨b,base,lim,h1,rfl⟩:=h;rfl
 | sl i o len c=>obtain ⟨b,base,lim,a,cap,h1,rfl,_⟩:=h;rfl
 | ch i=>obtain ⟨b,base,lim,h1,rfl⟩:=h;rfl
 | mp i=>obtain ⟨b,base,lim,h1,rfl⟩:=h;rfl
 | fn f caps=>obtain ⟨vs,rfl,_⟩:=h;rfl
 | str l=>obtain ⟨s,rfl,_⟩:=h;rfl
 | res u m r=>cases u with
  | false=>rcases h with ⟨_,k,n,rfl⟩ | ⟨n,rfl,_⟩<;>rfl
  | true=>obtain ⟨n,rfl,_⟩:=h;rfl
 | _=>simp only [CR] at h;subst h;rfl
theorem CR.one {ι:Inj} {x:CV} {v:Value} (h:CR ι x v):v.oneCell'=true:=by
 cases x with
 | ptr i o=>obtain ⟨b,base,lim,h1,rfl⟩:=h;rfl
 | sl i o len c=>obtain ⟨b,base,lim,a,cap,h1,rfl,_⟩:=h;rfl
 | ch i=>obtain ⟨b,base,lim,h1,rfl⟩:=h;rfl
 | mp i=>obtain ⟨b,base,lim,h1,rfl⟩:=h;rfl
 | fn f caps=>obtain ⟨vs,rfl,_⟩:=h;rfl
 | str l=>obtain ⟨s,rfl,_⟩:=h;rfl
 | res u m r=>cases u with
  | false=>rcases h with ⟨_,k,n,rfl⟩ | ⟨n,rfl,_⟩<;>rfl
  | true=>obtain ⟨n,rfl,_⟩:=h;rfl
 | _=>simp only [CR] at h;subst h;rfl
theorem AR.cells {ι:Inj} {a:AV} {v:Value} {l:List CV} (h:AR ι a v) (hl:a.cells=some l):All2 (CR ι) l v.cells.toList:=by
 cases a with
 | c x=>simp [AV.cells] at hl;subst hl;rw [CR.cells h];exact ⟨h,trivial⟩
 | agg m=>simp [AV.cells] at hl;subst hl;obtain ⟨cs,rfl,h2⟩:=h;exact h2
 | tup m=>simp [AV.cells] at hl
 | junk=>simp [AV.cells] at hl
theorem All2.ones {ι:Inj}:∀ {l:List CV} {m:List Value},All2 (CR ι) l m→∀ v∈m,v.oneCell'=true
 | [],[],_,v,hv=>by simp at hv
 | _ :: _,y :: m,⟨h1,h2⟩,v,hv=>by
  rcases List.mem_cons.1 hv with rfl | hv
  ·exact h1.one
  ·exact All2.ones h2 v hv
 | [],_ :: _,h,_,_=>h.elim
 | _ :: _,[],h,_,_=>h.elim
theorem Tr.get_nil {α:Type} (n:Nat):(Tr.nil:Tr α).get n=none:=by cases n<;>rfl
theorem Tr.get_setF {α:Type} (x:Option α):∀ (f:Nat) (t:Tr α) (n m:Nat),n < f→(Tr.setF x f t n).get m=if m=n then x else t.get m:=by
 intro f
 induction f with
 | zero=>intro t n m h;omega
 | succ f ih =>
  intro t n m h
  have hl:∀ k,t.left.get k=t.get (2 * k + 1):=by
   intro k;cases t with
   | nil=>simp [Tr.left,Tr.get_nil]
   | node l v r=>show l.get k=Tr.get (.node l v r) (2 * k + 1);simp [Tr.get]
  have hr:∀ k,t.right.get k=t.get (2 * k + 2):=by
   intro k;cases t with
   | nil=>simp [Tr.right,Tr.get_nil]
   | node l v r =>
    have e1:(2 * k + 1) % 2=0 + 1:=by omega
    have e2:(2 * k + 1) / 2=k:=by omega
    show r.get k=Tr.get (.node l v r) (2 * k + 1 + 1)
    simp only [Tr.get,e1,e2]
  have hv:t.val=t.get 0:=by cases t<;>rfl
  have split:∀ (a b:Tr α) (y:Option α),(Tr.node a y b).get m=match m with | 0=>y | k + 1=>if k % 2=0 then a.get (k / 2) else b.get (k / 2):=by
   intro a b y
   cases m with
   | zero=>rfl
   | succ k =>
    simp only [Tr.get]
    rcases Nat.mod_two_eq_zero_or_one k with e | e<;>simp [e]
  have tsplit:t.get m=match m with | 0=>t.val | k + 1=>if k % 2=0 then t.left.get (k / 2) else t.right.get (k / 2):=by
   cases m with
   | zero=>exact hv.symm
   | succ k =>
    simp only
    rcases Nat.mod_two_eq_zero_or_one k with e | e
    ·rw [if_pos e,hl];congr 1;omega
    ·rw [if_neg (by omega),hr];congr 1;omega
  cases n with
  | zero =>
   rw [Tr.setF,split,tsplit]
   cases m with
   | zero=>simp
   | succ k=>simp
  | succ n =>
   rcases Nat.mod_two_eq_zero_or_one n with e | e
   ·have:Tr.setF x (f + 1) t (n + 1) = .node (Tr.setF x f t.left (n / 2)) t.val t.right:=by simp [Tr.setF,e]
    rw [this,split,tsplit]
    cases m with
    | zero=>simp
    | succ k =>
     simp only [Nat.add_right_cancel_iff]
     rcases Nat.mod_two_eq_zero_or_one k with e' | e'
     ·rw [if_pos e',if_pos e',ih _ _ _ (by omega)]
      by_cases hk:k=n
      ·subst hk;simp
      ·rw [if_neg hk,if_neg (by omega)]
     ·have ne : ¬ k % 2=0:=by omega
      have nk:k≠n:=by intro hk;subst hk;omega
      simp only [ne,if_false,nk]
   ·have:Tr.setF x (f + 1) t (n + 1) = .node t.left t.val (Tr.setF x f t.right (n / 2)):=by simp [Tr.setF,e]
    rw [this,split,tsplit]
    cases m with
    | zero=>simp
    | succ k =>
     simp only [Nat.add_right_cancel_iff]
     rcases Nat.mod_two_eq_zero_or_one k with e' | e'
     ·have nk:k≠n:=by intro hk;subst hk;omega
      simp only [e',if_true,nk,if_false]
     ·have ne : ¬ k % 2=0:=by omega
      simp only [ne,if_false]
      rw [ih _ _ _ (by omega)]
      by_cases hk:k=n
      ·subst hk;simp
      ·rw [if_neg hk,if_neg (by omega)]
theorem Tr.get_set {α:Type} (t:Tr α) (n m:Nat) (x:Option α):(t.set n x).get m=if m=n then x else t.get m :=
 Tr.get_setF x (n + 1) t n m (Nat.lt_succ_self n)
def upd (g:Nat→Option Blk) (i:Nat) (x:Option Blk):Nat→Option Blk:=fun j=>if j=i then x else g j
theorem Heap.get_put (h:Heap) (i:Nat) (b:Blk):(h.put i b).get=upd h.get i (some b):=by
 funext j;simp [Heap.get,Heap.put,Tr.get_set,upd]
theorem Heap.get_kill (h:Heap) (i:Nat):(h.kill i).get=upd h.get i none:=by
 funext j;simp [Heap.get,Heap.kill,Tr.get_set,upd]
theorem Heap.get_new (h:Heap) (b:Blk):(h.new b).get=upd h.get h.next (some b):=by
 funext j;simp [Heap.get,Heap.new,Tr.get_set,upd]
end Lav
namespace Lav
open Go
def Blk.isRo:Blk→Bool
 | .ro _=>true
 | _=>false
def MR (ι:Inj) (p:Ent) (e:MapEntry):Prop:=e.key = .int .i64 p.1∧e.born=p.2.1∧CR ι p.2.2 e.val
def BR (B:Nat) (ι:Inj) (b base lim:Nat) (w:World):Blk→Prop
 | .cells l=>B≤b∧∃ c e fz,w.heap[b]? = some (.cells c e fz)∧base + lim=c.size∧l.length≤lim∧(fz.1=fz.2∨c.size≤fz.1) ∧
   ∀ (j:Nat) (x:CV),l[j]? = some x→∃ v,c[base + j]? = some v∧CR ι x v
 | .ro l=>b < B∧∃ c e fz,w.heap[b]? = some (.cells c e fz)∧∀ (j:Nat) (x:CV),l[j]? = some x→∃ v,c[base + j]? = some v∧CR ι x v
 | .chan cap buf=>B≤b∧∃ vs s r,w.heap[b]? = some (.chan cap vs false s r false)∧All2 (XR ι) buf vs.toList
 | .map clock es=>B≤b∧∃ ms:Array MapEntry,w.heap[b]? = some (.map ms clock)∧All2 (MR ι) es ms.toList∧ms.toList.Pairwise (fun x y=>x.born < y.born) ∧
   (∀ x∈ms.toList,x.born < clock)∧(es.map (·.1)).Nodup
theorem BR.move {B:Nat} {ι ι':Inj} {b base lim:Nat} {w w':World} {k:Blk} (h:BR B ι b base lim w k) (hle:Le ι ι') (hw:w'.heap[b]? = w.heap[b]?) :
  BR B ι' b base lim w' k:=by
 cases k with
 | cells l =>
  obtain ⟨h1,c,e,fz,h2,h3,h4,h5,h6⟩:=h
  exact ⟨h1,c,e,fz,hw.trans h2,h3,h4,h5,fun j x hx=>let ⟨v,a,r⟩:=h6 j x hx;⟨v,a,r.mono hle⟩⟩
 | ro l =>
  obtain ⟨h1,c,e,fz,h2,h6⟩:=h
  exact ⟨h1,c,e,fz,hw.trans h2,fun j x hx=>let ⟨v,a,r⟩:=h6 j x hx;⟨v,a,r.mono hle⟩⟩
 | chan cap buf =>
  obtain ⟨h1,vs,s,r,h2,h3⟩:=h
  exact ⟨h1,vs,s,r,hw.trans h2,h3.imp fun _ _ x=>x.mono hle⟩
 | map c es =>
  obtain ⟨h1,ms,h2,h3,h4⟩:=h
  exact ⟨h1,ms,hw.trans h2,h3.imp fun _ _ x=>⟨x.1,x.2.1,x.2.2.mono hle⟩,h4⟩
theorem BR.lt {B:Nat} {ι:Inj} {b base lim:Nat} {w:World} {k:Blk} (h:BR B ι b base lim w k):b < w.heap.size:=by
 have key:∀ o,w.heap[b]? = some o→b < w.heap.size:=fun o ho=>by
  rcases Nat.lt_or_ge b w.heap.size with h | h
  ·exact h
  ·simp [Array.getElem?_eq_none h] at ho
 cases k with
 | cells l=>obtain ⟨_,c,e,fz,h2,_⟩:=h;exact key _ h2
 | ro l=>obtain ⟨_,c,e,fz,h2,_⟩:=h;exact key _ h2
 | chan cap buf=>obtain ⟨_,vs,s,r,h2,_⟩:=h;exact key _ h2
 | map c es=>obtain ⟨_,ms,h2,_⟩:=h;exact key _ h2
theorem BR.own {B:Nat} {ι:Inj} {b base lim:Nat} {w:World} {k:Blk} (h:BR B ι b base lim w k) (hk:k.isRo=false):B≤b:=by
 cases k with
 | cells l=>exact h.1
 | ro l=>simp [Blk.isRo] at hk
 | chan cap buf=>exact h.1
 | map c es=>exact h.1
theorem BR.ro {B:Nat} {ι:Inj} {b base lim:Nat} {w:World} {k:Blk} (h:BR B ι b base lim w k) (hk:k.isRo=true):b < B:=by
 cases k with
 | cells l=>simp [Blk.isRo] at hk
 | ro l=>exact h.1
 | chan cap buf=>simp [Blk.isRo] at hk
 | map c es=>simp [Blk.isRo] at hk
structure HR (B:Nat) (ι:Inj) (g:Nat→Option Blk) (w:World):Prop where
 at_:∀ i k,g i=some k→∃ b base lim,ι i=some (b,base,lim)∧BR B ι b base lim w k
 apart:∀ i j ki kj,g i=some ki→g j=some kj→ki.isRo=false→kj.isRo=false→i≠j →
  ∀ b x y b' x' y',ι i=some (b,x,y)→ι j=some (b',x',y')→b≠b'
 base:B≤w.heap.size
def Own (ι:Inj) (g:Nat→Option Blk) (b:Nat):Prop:=∃ i k base lim,g i=some k∧k.isRo=false∧ι i=some (b,base,lim)
structure Fr (ι:Inj) (g:Nat→Option Blk) (w:World) (ι':Inj) (g':Nat→Option Blk) (w':World):Prop where
 os:w'.os=w.os
 output:w'.output=w.output
 tape:w'.tape=w.tape
 size:w.heap.size≤w'.heap.size
 keep:∀ b,b < w.heap.size→¬ Own ι g b→w'.heap[b]? = w.heap[b]?
 own:∀ b,Own ι' g' b→Own ι g b∨w.heap.size≤b
theorem Fr.refl (ι:Inj) (g:Nat→Option Blk) (w:World):Fr ι g w ι g w:=⟨rfl,rfl,rfl,Nat.le_refl _,fun _ _ _=>rfl,fun _ h=>.inl h⟩
theorem Fr.trans {ι ι' ι'':Inj} {g g' g'':Nat→Option Blk} {w w' w'':World} (h:Fr ι g w ι' g' w') (k:Fr ι' g' w' ι'' g'' w''):Fr ι g w ι'' g'' w'' where
 os:=k.os.trans h.os
 output:=k.output.trans h.output
 tape:=k.tape.trans h.tape
 size:=Nat.le_trans h.size k.size
 keep b hb hn:=by
  rw [k.keep b (Nat.lt_of_lt_of_le hb h.size) (fun ho=>(h.own b ho).elim hn (fun h1=>by omega)),h.keep b hb hn]
 own b ho:=by
  rcases k.own b ho with h1 | h1
  ·exact h.own b h1
  ·exact .inr (Nat.le_trans h.size h1)
def Sub (g g':Nat→Option Blk):Prop:=∀ i k,g i=some k→g' i=some k
theorem HR.sub {B:Nat} {ι:Inj} {g g':Nat→Option Blk} {w:World} (h:HR B ι g' w) (hs:Sub g g'):HR B ι g w :=
 ⟨fun i k hi=>h.at_ i k (hs i k hi),fun i j ki kj hi hj=>h.apart i j ki kj (hs _ _ hi) (hs _ _ hj),h.base⟩
theorem Own.sub {ι:Inj} {g g':Nat→Option Blk} {b:Nat} (h:Own ι g b) (hs:Sub g g'):Own ι g' b :=
 let ⟨i,k,base,lim,h1,h2,h3⟩:=h;⟨i,k,base,lim,hs _ _ h1,h2,h3⟩
theorem HR.drew {B:Nat} {ι:Inj} {g:Nat→Option Blk} {w:World} (h:HR B ι g w) (n:Nat):HR B ι g { w with drawn:=n } :=
 ⟨fun i k hi=>let ⟨b,base,lim,h1,h2⟩:=h.at_ i k hi;⟨b,base,lim,h1,h2.move (Le.refl _) rfl⟩,h.apart,h.base⟩
theorem Fr.drew {ι:Inj} {g:Nat→Option Blk} {w:World} (n:Nat):Fr ι g w ι g { w with drawn:=n } :=
 ⟨rfl,rfl,rfl,Nat.le_refl _,fun _ _ _=>rfl,fun _ h=>.inl h⟩
section
variable {B:Nat} {ι ι':Inj} {g:Nat→Option Blk} {w w':World} {i b base lim:Nat} {k':Blk}
theorem HR.set (h:HR B ι g w) (hle:Le ι ι') (hi:ι' i=some (b,base,lim)) (hk:BR B ι' b base lim w' k') (hro:k'.isRo=false) (hsize:w.heap.size≤w'.heap.size)
  (hother:∀ x,x≠b→x < w.heap.size→w'.heap[x]? = w.heap[x]?)
  (hfree:∀ j kj,j≠i→g j=some kj→kj.isRo=false→∀ b' x y,ι j=some (b',x,y)→b'≠b):HR B ι' (upd g i (some k')) w':=by
 have hB:=hk.own hro
 have old:∀ j kj,j≠i→g j=some kj→∃ b' x y,ι j=some (b',x,y)∧BR B ι b' x y w kj∧b'≠b:=by
  intro j kj hj hg
  obtain ⟨b',x,y,h1,h2⟩:=h.at_ j kj hg
  refine ⟨b',x,y,h1,h2,?_⟩
  cases hr:kj.isRo with
  | true=>have:=h2.ro hr;omega
  | false=>exact hfree j kj hj hg hr _ _ _ h1
 refine ⟨fun j kj hj=>?_,fun j j' kj kj' hj hj' hr hr' hne b1 x1 y1 b2 x2 y2 e1 e2=>?_,Nat.le_trans h.base hsize⟩
 ·by_cases e:j=i
  ·subst e;simp [upd] at hj;subst hj;exact ⟨b,base,lim,hi,hk⟩
  ·simp [upd,e] at hj
   obtain ⟨b',x,y,h1,h2,h3⟩:=old j kj e hj
   exact ⟨b',x,y,hle _ _ h1,h2.move hle (hother _ h3 h2.lt)⟩
 ·by_cases e:j=i
  ·subst e
   have e':j'≠j:=fun q=>hne q.symm
   simp [upd,e'] at hj'
   obtain ⟨b',x,y,h1,h2,h3⟩:=old j' kj' e' hj'
   rw [hle _ _ h1] at e2;rw [hi] at e1
   simp only [Option.some.injEq,Prod.mk.injEq] at e1 e2
   omega
  ·simp [upd,e] at hj
   obtain ⟨b',x,y,h1,h2,h3⟩:=old j kj e hj
   by_cases e':j'=i
   ·subst e'
    rw [hle _ _ h1] at e1;rw [hi] at e2
    simp only [Option.some.injEq,Prod.mk.injEq] at e1 e2
    omega
   ·simp [upd,e'] at hj'
    obtain ⟨b'',x',y',h1',h2',h3'⟩:=old j' kj' e' hj'
    rw [hle _ _ h1] at e1;rw [hle _ _ h1'] at e2
    simp only [Option.some.injEq,Prod.mk.injEq] at e1 e2
    have:=h.apart j j' kj kj' hj hj' hr hr' hne _ _ _ _ _ _ h1 h1'
    omega
theorem Fr.set (h:HR B ι g w) (hle:Le ι ι') (hi:ι' i=some (b,base,lim)) (hsize:w.heap.size≤w'.heap.size)
  (hother:∀ x,x≠b→x < w.heap.size→w'.heap[x]? = w.heap[x]?) (hos:w'.os=w.os) (hout:w'.output=w.output) (htape:w'.tape=w.tape)
  (hown:Own ι g b∨w.heap.size≤b):Fr ι g w ι' (upd g i (some k')) w':=by
 refine ⟨hos,hout,htape,hsize,fun x hx hn=>hother x ?_ hx,fun x hx=>?_⟩
 ·intro e;subst e
  rcases hown with h1 | h1
  ·exact hn h1
  ·omega
 ·obtain ⟨j,kj,x1,y1,h1,h2,h3⟩:=hx
  by_cases e:j=i
  ·subst e
   rw [hi] at h3
   simp only [Option.some.injEq,Prod.mk.injEq] at h3
   obtain ⟨rfl,_,_⟩:=h3
   exact hown
  ·simp [upd,e] at h1
   obtain ⟨b',x',y',h1',_⟩:=h.at_ j kj h1
   rw [hle _ _ h1'] at h3
   simp only [Option.some.injEq,Prod.mk.injEq] at h3
   obtain ⟨rfl,rfl,rfl⟩:=h3
   exact .inl ⟨j,kj,_,_,h1,h2,h1'⟩
end
def Inj.put (ι:Inj) (i:Nat) (x:Nat × Nat × Nat):Inj:=fun j=>if j=i then some x else ι j
theorem Inj.put_le {ι:Inj} {i:Nat} {x:Nat × Nat × Nat} (h:ι i=none):Le ι (ι.put i x):=by
 intro j y hj
 by_cases e:j=i
 ·subst e;rw [h] at hj;cases hj
 ·simpa [Inj.put,e] using hj
theorem Inj.put_at {ι:Inj} {i:Nat} {x:Nat × Nat × Nat}:(ι.put i x) i=some x:=by simp [Inj.put]
theorem Inj.put_ne {ι:Inj} {i j:Nat} {x:Nat × Nat × Nat} (h:j≠i):(ι.put i x) j=ι j:=by simp [Inj.put,h]
structure Post (B:Nat) (ι:Inj) (h:Heap) (w:World) (ι':Inj) (h':Heap) (w':World):Prop where
 next:h.next≤h'.next
 same:∀ i,i < h.next→ι' i=ι i
 dead:∀ i,i < h.next→h.get i=none→h'.get i=none
 rel:HR B ι' h'.get w'
 fresh:∀ i,h'.next≤i→ι' i=none
 fr:Fr ι h.get w ι' h'.get w'
theorem Post.le {B:Nat} {ι ι':Inj} {h h':Heap} {w w':World} (p:Post B ι h w ι' h' w') (hf:∀ i,h.next≤i→ι i=none):Le ι ι':=by
 intro i x hx
 rcases Nat.lt_or_ge i h.next with hl | hl
 ·rw [p.same i hl];exact hx
 ·rw [hf i hl] at hx;cases hx
theorem Post.refl {B:Nat} {ι:Inj} {h:Heap} {w:World} (hr:HR B ι h.get w) (hf:∀ i,h.next≤i→ι i=none):Post B ι h w ι h w :=
 ⟨Nat.le_refl _,fun _ _=>rfl,fun _ _ h=>h,hr,hf,Fr.refl _ _ _⟩
theorem Post.trans {B:Nat} {ι ι' ι'':Inj} {h h' h'':Heap} {w w' w'':World} (p:Post B ι h w ι' h' w') (q:Post B ι' h' w' ι'' h'' w''):Post B ι h w ι'' h'' w'' where
 next:=Nat.le_trans p.next q.next
 same i hi:=by rw [q.same i (Nat.lt_of_lt_of_le hi p.next),p.same i hi]
 dead i hi hn:=q.dead i (Nat.lt_of_lt_of_le hi p.next) (p.dead i hi hn)
 rel:=q.rel
 fresh:=q.fresh
 fr:=p.fr.trans q.fr
theorem zpl (w:World) (o:Obj):(w.alloc o).heap[w.heap.size]? = some o:=by
 show (w.heap.push o)[w.heap.size]? = some o
 simp
theorem zpm (w:World) (o:Obj) (x:Nat) (h:x≠w.heap.size):(w.alloc o).heap[x]? = w.heap[x]?:=by
 show (w.heap.push o)[x]? = _
 rw [Array.getElem?_push,if_neg h]
section
variable {B:Nat} {ι:Inj} {g:Nat→Option Blk} {w:World} {i:Nat}
end
section
variable {B:Nat} {ι:Inj} {h:Heap} {w:World}
theorem Post.put {w':World} {i b base lim:Nat} {k k':Blk} (hr:HR B ι h.get w) (hf:∀ i,h.next≤i→ι i=none) (hg:h.get i=some k) (hro:k.isRo=false) (hro':k'.isRo=false)
  (hi:ι i=some (b,base,lim)) (hk:BR B ι b base lim w' k') (hsize:w.heap.size≤w'.heap.size) (hother:∀ x,x≠b→x < w.heap.size→w'.heap[x]? = w.heap[x]?)
  (hos:w'.os=w.os) (hout:w'.output=w.output) (htape:w'.tape=w.tape):Post B ι h w ι (h.put i k') w':=by
 refine ⟨by simp [Heap.put],fun _ _=>rfl,fun j hj hn=>?_,?_,by simpa [Heap.put] using hf,?_⟩
 ·rw [Heap.get_put]
  by_cases e:j=i
  ·subst e;rw [hg] at hn;cases hn
  ·simp [upd,e,hn]
 ·rw [Heap.get_put]
  exact hr.set (Le.refl _) hi hk hro' hsize hother fun j kj hj hgj hrj b' x y e=>hr.apart j i kj k hgj hg hrj hro hj _ _ _ _ _ _ e hi
 ·rw [Heap.get_put]
  exact Fr.set hr (Le.refl _) hi hsize hother hos hout htape (.inl ⟨i,k,base,lim,hg,hro,hi⟩)
theorem Post.take {w':World} {i b base lim base' lim':Nat} {k k':Blk} (hr:HR B ι h.get w) (hf:∀ i,h.next≤i→ι i=none) (hg:h.get i=some k) (hro:k.isRo=false) (hro':k'.isRo=false)
  (hi:ι i=some (b,base,lim)) (hk:BR B (ι.put h.next (b,base',lim')) b base' lim' w' k') (hsize:w.heap.size≤w'.heap.size) (hother:∀ x,x≠b→x < w.heap.size→w'.heap[x]? = w.heap[x]?)
  (hos:w'.os=w.os) (hout:w'.output=w.output) (htape:w'.tape=w.tape):Post B ι h w (ι.put h.next (b,base',lim')) ((h.kill i).new k') w':=by
 have hni:i≠h.next:=by intro e;subst e;rw [hf _ (Nat.le_refl _)] at hi;cases hi
 have hget:((h.kill i).new k').get=upd (upd h.get i none) h.next (some k'):=by rw [Heap.get_new,Heap.get_kill];rfl
 have hsub:Sub (upd h.get i none) h.get:=by
  intro j kj hj
  by_cases e:j=i
  ·simp [upd,e] at hj
  ·simpa [upd,e] using hj
 have hr0:=hr.sub hsub
 have hle:Le ι (ι.put h.next (b,base',lim')):=Inj.put_le (hf _ (Nat.le_refl _))
 refine ⟨by simp [Heap.new,Heap.kill],fun j hj=>Inj.put_ne (by omega),fun j hj hn=>?_,?_,fun j hj=>?_,?_⟩
 ·rw [hget]
  have:j≠h.next:=by omega
  simp [upd,this,hn]
 ·rw [hget]
  refine hr0.set hle Inj.put_at hk hro' hsize hother fun j kj hj hgj hrj b' x y e=>?_
  have hji:j≠i:=by intro q;subst q;simp [upd] at hgj
  exact hr.apart j i kj k (hsub _ _ hgj) hg hrj hro hji _ _ _ _ _ _ e hi
 ·have:h.next + 1≤j:=by simpa [Heap.new,Heap.kill] using hj
  rw [Inj.put_ne (by omega)];exact hf j (by omega)
 ·rw [hget]
  have f1:=Fr.set (k':=k') hr0 hle (Inj.put_at (x:=(b,base',lim'))) hsize hother hos hout htape
  refine ⟨hos,hout,htape,hsize,fun x hx hn=>hother x (fun e=>hn (e ▸ ⟨i,k,base,lim,hg,hro,hi⟩)) hx,fun x hx=>?_⟩
  obtain ⟨j,kj,x1,y1,h1,h2,h3⟩:=hx
  by_cases e:j=h.next
  ·subst e
   rw [Inj.put_at] at h3;simp only [Option.some.injEq,Prod.mk.injEq] at h3
   obtain ⟨rfl,_,_⟩:=h3
   exact .inl ⟨i,k,base,lim,hg,hro,hi⟩
  ·simp only [upd,e,if_false] at h1
   rw [Inj.put_ne e] at h3
   by_cases e':j=i
   ·simp [e'] at h1
   ·simp [e'] at h1
    exact .inl ⟨j,kj,x1,y1,h1,h2,h3⟩
end
theorem HR.read {B:Nat} {ι:Inj} {h:Heap} {w:World} {i o n:Nat} {l:List CV} (hr:HR B ι h.get w) (hl:h.read i o n=some l) :
  ∃ b base lim,ι i=some (b,base,lim)∧l.length=n∧∀ (j:Nat) (x:CV),l[j]? = some x→∃ v,w.cell? ⟨b,base + o + j,none⟩=some v∧CR ι x v:=by
 have key:∀ (m l:List CV),cut m o n=some l→l.length=n∧∀ (j:Nat) (x:CV),l[j]? = some x→m[o + j]? = some x:=by
  intro m l hm
  unfold cut at hm
  cases hc:Nat.ble (o + n) m.length with
  | false=>rw [hc] at hm;cases hm
  | true =>
   rw [hc] at hm
   have:o + n≤m.length:=Nat.le_of_ble_eq_true hc
   simp only [cond_true,Option.some.injEq] at hm
   subst hm
   refine ⟨by simp;omega,fun j x hx=>?_⟩
   rw [List.getElem?_take] at hx
   split at hx
   ·rwa [List.getElem?_drop] at hx
   ·cases hx
 unfold Heap.read at hl
 split at hl
 ·rename_i m hg
  obtain ⟨b,base,lim,h1,h2⟩:=hr.at_ _ _ hg
  obtain ⟨e1,e2⟩:=key _ _ hl
  obtain ⟨_,c,e,fz,hb,_,_,_,hc⟩:=h2
  refine ⟨b,base,lim,h1,e1,fun j x hx=>?_⟩
  obtain ⟨v,hv,hcr⟩:=hc _ _ (e2 j x hx)
  exact ⟨v,by simp [World.cell?,hb,Nat.add_assoc,hv],hcr⟩
 ·rename_i m hg
  obtain ⟨b,base,lim,h1,h2⟩:=hr.at_ _ _ hg
  obtain ⟨e1,e2⟩:=key _ _ hl
  obtain ⟨_,c,e,fz,hb,hc⟩:=h2
  refine ⟨b,base,lim,h1,e1,fun j x hx=>?_⟩
  obtain ⟨v,hv,hcr⟩:=hc _ _ (e2 j x hx)
  exact ⟨v,by simp [World.cell?,hb,Nat.add_assoc,hv],hcr⟩
 ·cases hl
theorem zlx {ι:Inj}:∀ (l:List CV) (f:Nat→Option Value) (o:Nat),(∀ (j:Nat) (x:CV),l[j]? = some x→∃ v,f (o + j)=some v∧CR ι x v) →
  ∃ vs:List Value,All2 (CR ι) l vs∧∀ (j:Nat) (v:Value),vs[j]? = some v→f (o + j)=some v
 | [],_,_,_=>⟨[],trivial,by simp⟩
 | x :: l,f,o,h=>by
  obtain ⟨v,hv,hc⟩:=h 0 x rfl
  obtain ⟨vs,h1,h2⟩:=zlx l f (o + 1) (fun j y hy=>by
   obtain ⟨u,hu,hcu⟩:=h (j + 1) y (by simpa using hy)
   exact ⟨u,by rw [show o + 1 + j=o + (j + 1) by omega];exact hu,hcu⟩)
  refine ⟨v :: vs,⟨hc,h1⟩,fun j u hu=>?_⟩
  cases j with
  | zero=>simp at hu;subst hu;exact hv
  | succ j=>have:=h2 j u (by simpa using hu);rw [show o + 1 + j=o + (j + 1) by omega] at this;exact this
theorem HR.loads {B:Nat} {ι:Inj} {h:Heap} {w:World} {i o n:Nat} {l:List CV} (hr:HR B ι h.get w) (hl:h.read i o n=some l) :
  ∃ b base lim,∃ vs:List Value,ι i=some (b,base,lim)∧All2 (CR ι) l vs∧vs.length=n∧l.length=n∧(∀ (j:Nat) (v:Value),vs[j]? = some v→w.cell? ⟨b,base + o + j,none⟩=some v) ∧
   ∀ P:Program,(loadCells ⟨b,base + o,none⟩ n).run P w = .ok vs.toArray w:=by
 obtain ⟨b,base,lim,h1,h2,h3⟩:=hr.read hl
 obtain ⟨vs,h4,h5⟩:=zlx l (fun j=>w.cell? ⟨b,base + o + j,none⟩) 0 (fun j x hx=>by simpa using h3 j x hx)
 have hlen:vs.length=n:=by rw [← h4.length,h2]
 have hcell:∀ (j:Nat) (v:Value),vs[j]? = some v→w.cell? ⟨b,base + o + j,none⟩=some v:=fun j v hv=>by simpa using h5 j v hv
 refine ⟨b,base,lim,vs,h1,h4,hlen,h2,hcell,fun P=>?_⟩
 have:=run_loadCells_list (P:=P) (w:=w) ⟨b,base + o,none⟩ vs (fun j v hv=>by rw [Addr.add_lit];exact hcell j v hv)
 rw [hlen] at this
 exact this
end Lav
namespace Lav
open Go
theorem zan {α β:Type} {x:Option α} {f:α→Option β} {b:β} (h:ob x f=some b):∃ a,x=some a∧f a=some b:=by
 cases x with
 | none=>cases h
 | some a=>exact ⟨a,rfl,h⟩
section runs
variable {P:Program} {w:World}
theorem zds {t n:Nat} (h:zck P t=some n):(Go.sizeOf t).run P w = .ok n w:=by
 unfold zck at h
 cases hi:P.info? t with
 | none=>rw [hi] at h;cases h
 | some i=>rw [hi] at h;simp at h;simp [Go.sizeOf,typeInfo,hi,h]
theorem zoe {t n:Nat} (h:zfr P t=some n):∃ i,(typeInfo t).run P w = .ok i w∧i.bytes=n:=by
 unfold zfr at h
 cases hi:P.info? t with
 | none=>rw [hi] at h;cases h
 | some i=>rw [hi] at h;simp at h;exact ⟨i,by simp [typeInfo,hi],h⟩
theorem zjn {t:Nat} {g:Bool} (h:zgs P t=some g):(isAgg t).run P w = .ok g w:=by
 unfold zgs at h
 cases hu:P.underlying t with
 | none=>rw [hu] at h;cases h
 | some d=>rw [hu] at h;cases d<;>simp at h<;>simp [isAgg,run_underlying hu,h]
end runs
theorem zm4 {ι:Inj}:∀ {v:Value} {c:CV},zhu v=some c→CR ι c v:=by
 intro v c h
 cases v with
 | pointer a=>cases a<;>simp [zhu] at h;subst h;rfl
 | slice a l c' =>
  cases a with
  | none=>cases l<;>cases c'<;>simp [zhu] at h;subst h;rfl
  | some a=>simp [zhu] at h
 | chan r=>cases r<;>simp [zhu] at h;subst h;rfl
 | map r=>cases r<;>simp [zhu] at h;subst h;rfl
 | func fn a b =>
  cases fn<;>simp only [zhu] at h
  case func f =>
   cases hs:(a.size == 0 && b.size == 0) with
   | false=>rw [hs] at h;cases h
   | true =>
    rw [hs] at h;simp at h hs;subst h
    obtain ⟨h1,h2⟩:=hs
    subst h1;subst h2
    exact ⟨#[],rfl,trivial⟩
  all_goals cases h
 | string s=>simp [zhu] at h;subst h;exact ⟨s,rfl,rfl⟩
 | _=>simp [zhu] at h;try (subst h;rfl)
theorem zly {ι:Inj}:∀ {vs:List Value} {l:List CV},zm0 vs=some l→All2 (CR ι) l vs
 | [],l,h=>by simp [zm0] at h;subst h;trivial
 | v :: r,l,h=>by
  unfold zm0 at h
  split at h
  ·rename_i c hc
   split at h
   ·rename_i t ht
    simp at h;subst h
    exact ⟨zm4 hc,zly ht⟩
   ·cases h
  ·cases h
theorem zfb {ι:Inj} {v:Value} {a:AV} (h:znz v=some a):AR ι a v:=by
 have other:∀ {v:Value} {a:AV},(match zhu v with | some c=>some (AV.c c) | none=>none)=some a→AR ι a v:=by
  intro v a h
  split at h
  ·rename_i c hc;simp at h;subst h;exact zm4 hc
  ·cases h
 cases v with
 | agg cs =>
  simp only [znz] at h
  split at h
  ·rename_i l hl;simp at h;subst h;exact ⟨cs,rfl,zly hl⟩
  ·cases h
 | tuple vs =>
  simp only [znz] at h
  cases hs:vs.size == 0 with
  | false=>rw [hs] at h;cases h
  | true =>
   rw [hs] at h;simp at h hs;subst h;subst hs
   exact ⟨#[],rfl,trivial⟩
 | _=>exact other h
theorem zej {ι:Inj} {a:AV} {v:Value} {m:Nat} (h:zda a=some m) (hr:AR ι a v):∃ k,v = .int k (Int.ofNat m):=by
 cases a with
 | c x =>
  cases x with
  | int k n =>
   cases n with
   | ofNat m'=>simp [zda] at h;subst h;exact ⟨k,hr⟩
   | negSucc _=>simp [zda] at h
  | _=>simp [zda] at h
 | _=>simp [zda] at h
theorem zge {P:Program} {w:World} (k:IntKind) (n:Int):(asIntOf (.int k n)).run P w = .ok (k,n) w:=rfl
theorem zex {P:Program} {w:World} {k:IntKind} {m y:Nat} {code:BoundsCode} (h:m≤y):(Instr.sliceBound (.int k (Int.ofNat m)) y code).run P w = .ok m w:=by
 have:(m:Int)≤(y:Int):=by omega
 simp [Instr.sliceBound,zge,this]
theorem zkr {ι:Inj} {g:Bool} {l:List CV} {a:AV} {vs:List Value} (h:AV.ofCells g l=some a) (hr:All2 (CR ι) l vs) :
  (g=true∧a = .agg l)∨(g=false∧∃ x v,l=[x]∧vs=[v]∧a = .c x∧CR ι x v):=by
 cases g with
 | true=>simp [AV.ofCells] at h;exact .inl ⟨rfl,h.symm⟩
 | false =>
  match l,vs,hr with
  | [x],[v],⟨h1,_⟩=>simp [AV.ofCells] at h;exact .inr ⟨rfl,x,v,rfl,rfl,h.symm,h1⟩
  | [],_,_=>simp [AV.ofCells] at h
  | _ :: _ :: _,_,_=>simp [AV.ofCells] at h
  | [_],[],hh=>exact hh.elim
  | [_],_ :: _ :: _,⟨_,hh⟩=>exact hh.elim
theorem zvw {l r:List CV} {o n:Nat} (h:cut l o n=some r):o + n≤l.length∧r=(l.drop o).take n∧r.length=n:=by
 unfold cut at h
 cases hc:Nat.ble (o + n) l.length with
 | false=>rw [hc] at h;cases h
 | true =>
  rw [hc] at h
  have:o + n≤l.length:=Nat.le_of_ble_eq_true hc
  simp only [cond_true,Option.some.injEq] at h
  subst h
  exact ⟨this,rfl,by simp;omega⟩
theorem zpn {P:Program} {w:World} {ι:Inj} {t n off:Nat} {g:Bool} {l r:List CV} {cs:Array Value} {a:AV} (hn:zck P t=some n) (hg:zgs P t=some g)
  (hl:All2 (CR ι) l cs.toList) (hc:cut l off n=some r) (ha:AV.ofCells g r=some a):∃ v,(part t cs off).run P w = .ok v w∧AR ι a v:=by
 obtain ⟨h1,h2,h3⟩:=zvw hc
 have hsub:All2 (CR ι) r ((cs.toList.drop off).take n):=by rw [h2];exact (hl.drop off).take n
 rcases zkr ha hsub with ⟨rfl,rfl⟩ | ⟨rfl,x,v,rfl,hv,rfl,hcr⟩
 ·refine ⟨.agg (cs.extract off (off + n)),by simp [part,zjn hg,zds hn],_,rfl,?_⟩
  rw [Array.toList_extract]
  simpa [List.extract_eq_take_drop] using hsub
 ·have hn1:n=1:=by simpa using h3.symm
  subst hn1
  have hget:cs[off]? = some v:=by
   have:((cs.toList.drop off).take 1)[0]? = some v:=by rw [hv];rfl
   simpa [List.getElem?_take,List.getElem?_drop] using this
  exact ⟨v,by simp [part,zjn hg,hget],hcr⟩
section ops
variable {P:Program} {slots:List Nat} {ds:List (Option Nat)} {loc vals:List AV} {ρ:Operand→Value} {ι:Inj} {B:Nat} {h:Heap} {w:World}
def zd4 (slots:List Nat) (ds:List (Option Nat)) (loc vals:List AV) (ι:Inj) (ρ:Operand→Value):Prop :=
 ∀ x y,cX slots ds x=some y→AR ι (y.eval loc vals) (ρ x)
theorem zjo {op:BinOp} {k:IntKind} {a b:Int} {c:CV} {t:TypeId} (hs:zaq op=false) (h:intArith op k a b=some c) :
  ∃ v,(binOp op t (.int k a) (.int k b)).run P w = .ok v w∧CR ι c v:=by
 cases op<;>simp [intArith] at h <;>
  first
   | (subst h;refine ⟨_,?_,rfl⟩;simp [binOp,Op.intArith,Op.intCmp,Op.intBits];done)
   | (simp [zaq] at hs;done)
   | skip
 case quo =>
  cases hb:b == 0 with
  | true=>rw [hb] at h;cases h
  | false =>
   rw [hb] at h;simp at h hb;subst h
   refine ⟨_,?_,rfl⟩;simp [binOp,Op.intDiv,hb]
 case rem =>
  cases hb:b == 0 with
  | true=>rw [hb] at h;cases h
  | false =>
   rw [hb] at h;simp at h hb;subst h
   refine ⟨_,?_,rfl⟩;simp [binOp,Op.intDiv,hb]
theorem zqx {op:BinOp} {k k':IntKind} {a b:Int} {c:CV} {t:TypeId} (hs:zaq op=true) (h:shift op k a b=some c) :
  ∃ v,(binOp op t (.int k a) (.int k' b)).run P w = .ok v w∧CR ι c v:=by
 unfold shift at h
 cases hb:decide (b < 0) with
 | true=>rw [hb] at h;cases h
 | false =>
  rw [hb] at h
  have hb' : ¬ b < 0:=by simpa using hb
  cases op<;>simp [zaq] at hs<;>simp only [cond_false,Option.some.injEq] at h<;>subst h
  ·exact ⟨_,by simp only [binOp,Op.shift,if_neg hb'];rfl,rfl⟩
  ·exact ⟨_,by simp only [binOp,Op.shift,if_neg hb'];rfl,rfl⟩
theorem zt7 {s u:ByteArray}:(s.toList == u.toList)=(s.data.toList.map UInt8.toNat == u.data.toList.map UInt8.toNat):=by
 have inj:∀ (l m:List UInt8),(l.map UInt8.toNat=m.map UInt8.toNat)↔l=m:=by
  intro l
  induction l with
  | nil=>intro m;cases m<;>simp
  | cons x l ih =>
   intro m
   cases m with
   | nil=>simp
   | cons y m=>simp [ih m,UInt8.toNat_inj]
 rw [ByteArray.toList_eq,ByteArray.toList_eq,Bool.eq_iff_iff,beq_iff_eq,beq_iff_eq,inj]
theorem zym {n:Int} {m r q:Nat} (h0:0≤n) (h:n % (m:Int)=(r:Int)) (hd:m % (q + 1)=0):n.tmod (Int.ofNat (q + 1))=Int.ofNat (r % (q + 1)):=by
 rw [Int.tmod_eq_emod_of_nonneg h0]
 have hdvd:((q + 1:Nat):Int)∣(m:Int):=Int.natCast_dvd_natCast.2 (Nat.dvd_of_mod_eq_zero hd)
 have:=Int.emod_emod_of_dvd n hdvd
 rw [h] at this
 show n % ((q + 1:Nat):Int)=((r % (q + 1):Nat):Int)
 rw [← this];rfl
theorem zqy {op:BinOp} {x y c:CV} {u v:Value} {t:TypeId} (h:zay op x y=some c) (hx:CR ι x u) (hy:CR ι y v) :
  ∃ r,(binOp op t u v).run P w = .ok r w∧CR ι c r:=by
 cases x with
 | int k a =>
  cases y with
  | int k' b =>
   simp only [CR] at hx hy;subst hx;subst hy
   simp only [zay] at h
   cases hs:zaq op with
   | true=>rw [hs,cond_true,zak] at h;exact zqx hs h
   | false =>
    rw [hs] at h
    cases hk:k == k' with
    | false=>rw [hk] at h;cases h
    | true=>rw [hk,cond_false,cond_true,zab] at h;simp at hk;subst hk;exact zjo hs h
  | _=>simp [zay] at h
 | str a =>
  cases y with
  | str b =>
   obtain ⟨s,rfl,hs⟩:=hx
   obtain ⟨q,rfl,hq⟩:=hy
   cases op<;>simp only [zay] at h
   case add =>
    cases hl:Nat.ble (a.length + b.length) 1073741824 with
    | false=>rw [hl] at h;cases h
    | true =>
     rw [hl] at h;simp only [cond_true,Option.some.injEq] at h;subst h
     have hl':=Nat.le_of_ble_eq_true hl
     have e1:s.size=a.length:=by rw [← hs];simp
     have e2:q.size=b.length:=by rw [← hq];simp
     refine ⟨.string (s++q),?_,s++q,rfl,?_⟩
     ·have : ¬ (((s.size + q.size:Nat):Int) > IntKind.i64.max):=by rw [IntKind.max_i64];omega
      simp only [binOp,Op.stringOp,if_neg this]
      rfl
     ·rw [← hs,← hq,← List.map_append]
      congr 1
   case eql =>
    simp only [Option.some.injEq] at h;subst h
    refine ⟨_,by simp only [binOp,Op.stringOp];rfl,?_⟩
    rw [← hs,← hq];simp only [CR,zt7]
   case neq =>
    simp only [Option.some.injEq] at h;subst h
    refine ⟨_,by simp only [binOp,Op.stringOp];rfl,?_⟩
    rw [← hs,← hq];simp only [CR,zt7]
   all_goals cases h
  | _=>simp [zay] at h
 | res u m r =>
  cases y with
  | int k b =>
   simp only [zay] at h
   split at h
   ·rename_i q
    cases hd:m % (q + 1) == 0 with
    | false=>rw [hd] at h;cases h
    | true =>
     rw [hd] at h;simp only [cond_true,Option.some.injEq] at h;subst h
     obtain ⟨n,rfl,h0,hm⟩:=hx
     simp only [CR] at hy;subst hy
     refine zjo (P:=P) (w:=w) (t:=t) (op:=.rem) rfl ?_
     have e:(Int.ofNat (q + 1) == 0)=false:=rfl
     simp only [intArith,e,cond_false]
     rw [zym h0 hm (by simpa using hd)]
   ·cases h
  | _=>simp [zay] at h
 | _=>simp [zay] at h
theorem zpo {op:BinOp} {x y c:CV} {u v:Value} {t:TypeId} {a b:Operand} (h:zay op x y=some c) (hx:CR ι x u):(eqGuard op t a b u v).run P w = .ok () w:=by
 cases x with
 | int k n=>simp only [CR] at hx;subst hx;rw [eqGuard_at_int];rfl
 | str l=>obtain ⟨s,rfl,_⟩:=hx;rw [eqGuard_at_string];rfl
 | res u m r =>
  cases y with
  | int k b =>
   simp only [zay] at h
   split at h
   ·rfl
   ·cases h
  | _=>simp [zay] at h
 | _=>cases y<;>simp [zay] at h
theorem zr4 {op:UnOp} {x c:CV} {u:Value} (h:zdk op x=some c) (hx:CR ι x u):∃ r,(Op.unary op u).run P w = .ok r w∧CR ι c r:=by
 cases op<;>cases x<;>simp [zdk,zab] at h<;>simp only [CR] at hx<;>subst hx
 case neg.int k n=>simp [intArith] at h;subst h;refine ⟨_,?_,rfl⟩;simp [Op.unary,Op.intArith]
 case not.bool b=>subst h;exact ⟨_,rfl,rfl⟩
 case xor.int k n =>
  simp [intArith] at h;subst h
  refine ⟨_,?_,rfl⟩;simp [Op.unary,Op.intBits]
theorem zr5 {t:TypeId} {k:EqK} (h:zjk P t=some k) :
  match k with
  | .prim=>True
  | .bool=>P.underlying t=some .bool
  | .ptr=>∃ e,P.underlying t=some (.pointer e)
  | .slice=>∃ e,P.underlying t=some (.slice e)
  | .func=>∃ a b c,P.underlying t=some (.func a b c)
  | .agg ks=>P.eqGuardType P.depth t=false∧((∃ fs,P.underlying t=some (.struct fs)∧zf3 P 0 fs.toList=some ks∧P.stoodInHeld t=false) ∨
    (∃ n e b,P.underlying t=some (.array n e)∧zft P e=some b∧zck P e=some 1∧ks=List.replicate n b)):=by
 unfold zjk at h
 cases hu:P.underlying t with
 | none=>rw [hu] at h;cases h
 | some d =>
  rw [hu] at h
  cases d<;>simp only [Option.some.injEq,reduceCtorEq] at h
  case struct fs =>
   split at h
   ·rename_i ks hks
    cases hc:(!P.stoodInHeld t && !P.eqGuardType P.depth t) with
    | false=>rw [hc] at h;cases h
    | true =>
     rw [hc] at h;simp only [cond_true,Option.some.injEq] at h;subst h
     simp at hc
     exact ⟨hc.2,.inl ⟨fs,rfl,hks,hc.1⟩⟩
   ·cases h
  case array n e =>
   split at h
   ·rename_i b hb
    cases hc:(zck P e == some 1 && !P.eqGuardType P.depth t) with
    | false=>rw [hc] at h;cases h
    | true =>
     rw [hc] at h;simp only [cond_true,Option.some.injEq] at h;subst h
     simp at hc
     exact ⟨hc.2,.inr ⟨n,e,b,rfl,hb,hc.1,rfl⟩⟩
   ·cases h
  all_goals (subst h;first | exact ⟨_,rfl⟩ | exact ⟨_,_,_,rfl⟩ | rfl | trivial)
theorem zri {t:TypeId} {b:Bool} {x y:CV} {u v:Value} {r:Bool} (d:Nat) (hb:zft P t=some b) (hx:CR ι x u) (hy:CR ι y v) (h:zcq [b] [x] [y]=some r) :
  (Op.equalIn (d + 1) t u v).run P w = .ok r w:=by
 unfold zft at hb
 split at hb
 ·rename_i k hu
  simp at hb;subst hb
  cases x<;>cases y<;>simp [zcq] at h
  rename_i k1 a k2 c
  simp only [CR] at hx hy;subst hx;subst hy
  cases hk:k1 == k2 with
  | false=>rw [hk] at h;simp at h
  | true =>
   rw [hk] at h;simp at h hk;subst hk;subst h
   simp [Op.equalIn,run_underlying hu]
 ·rename_i hu
  simp at hb;subst hb
  cases x<;>cases y<;>simp [zcq] at h
  rename_i a c
  simp only [CR] at hx hy;subst hx;subst hy;subst h
  simp [Op.equalIn,run_underlying hu]
 ·cases hb
theorem zkv {b:Bool} {ks:List Bool} {l m:List CV} {r:Bool} (h:zcq (b :: ks) l m=some r) :
  ∃ x l' y m' r1 r2,l=x :: l'∧m=y :: m'∧zcq [b] [x] [y]=some r1∧zcq ks l' m'=some r2∧r=(r1 && r2):=by
 cases l with
 | nil=>cases b<;>simp [zcq] at h
 | cons x l =>
  cases m with
  | nil=>cases b<;>cases x<;>simp [zcq] at h
  | cons y m =>
   cases b with
   | false =>
    cases x<;>cases y<;>simp [zcq] at h
    rename_i a c
    split at h
    ·rename_i r2 h2
     simp at h
     exact ⟨_,_,_,_,a == c,r2,rfl,rfl,by simp [zcq],h2,h.symm⟩
    ·cases h
   | true =>
    cases x<;>cases y<;>simp [zcq] at h
    rename_i k1 a k2 c
    cases hk:k1 == k2 with
    | false=>rw [hk] at h;simp at h
    | true =>
     rw [hk] at h;simp only [cond_true] at h
     split at h
     ·rename_i r2 h2
      simp at h
      exact ⟨_,_,_,_,a == c,r2,rfl,rfl,by simp [zcq,hk],h2,h.symm⟩
     ·cases h
theorem ziz {t:TypeId} {b:Bool} {cs:Array Value} {n:Nat} {v:Value} (hb:zft P t=some b) (hv:cs.toList[n]? = some v):(part t cs n).run P w = .ok v w:=by
 have hg:zgs P t=some false:=by
  unfold zft at hb
  split at hb
  ·rename_i k hu;simp [zgs,hu]
  ·rename_i hu;simp [zgs,hu]
  ·cases hb
 have:cs[n]? = some v:=by simpa using hv
 simp [part,zjn hg,this]
theorem zi0 {α:Type} {l:List α} {n:Nat} {x:α} {r:List α} (h:l.drop n=x :: r):l[n]? = some x∧l.drop (n + 1)=r:=by
 refine ⟨?_,?_⟩
 ·have:(l.drop n)[0]? = some x:=by rw [h];rfl
  simpa using this
 ·rw [← List.drop_drop,h];rfl
theorem zof (d:Nat) {xs ys:Array Value} {l m:List CV} (hx:All2 (CR ι) l xs.toList) (hy:All2 (CR ι) m ys.toList) :
  ∀ (fs:List Field) (n:Nat) (ks:List Bool) (r:Bool),zf3 P n fs=some ks→zcq ks (l.drop n) (m.drop n)=some r→(Op.eqFields (d + 1) xs ys fs).run P w = .ok r w
 | [],n,ks,r,hf,he=>by
  simp [zf3] at hf;subst hf
  cases hl:l.drop n<;>cases hm:m.drop n<;>rw [hl,hm] at he<;>simp [zcq] at he
  subst he;rfl
 | f :: fs,n,ks,r,hf,he=>by
  unfold zf3 at hf
  split at hf
  ·rename_i k ks' hk hks
   cases hc:(f.offset == n && f.name != "_" && zck P f.type == some 1) with
   | false=>rw [hc] at hf;cases hf
   | true =>
    rw [hc] at hf;simp only [cond_true,Option.some.injEq] at hf;subst hf
    simp at hc
    obtain ⟨⟨rfl,hname⟩,_⟩:=hc
    obtain ⟨x,l',y,m',r1,r2,hl,hm,h1,h2,rfl⟩:=zkv he
    obtain ⟨e1,e2⟩:=zi0 hl
    obtain ⟨e3,e4⟩:=zi0 hm
    obtain ⟨u,hu,cu⟩:=hx.get _ _ e1
    obtain ⟨v,hv,cv⟩:=hy.get _ _ e3
    have ih:=zof d hx hy fs (f.offset + 1) ks' r2 hks (by rw [e2,e4];exact h2)
    have hne:f.name≠"_":=by simpa using hname
    rw [Op.eqFields]
    simp only [hne,ne_eq,not_false_eq_true,if_true,Sem.run_bind,ziz hk hu,ziz hk hv,Result.andThen_ok,zri d hk cu cv h1]
    cases r1 with
    | false=>simp
    | true=>simp [ih]
  ·cases hf
theorem zvx (d n:Nat) {e:TypeId} {b:Bool} {xs ys:Array Value} {l m:List CV} {r:Bool} {t:TypeId} (ht:P.underlying t=some (.array n e)) (hb:zft P e=some b) (hs:zck P e=some 1)
  (hx:All2 (CR ι) l xs.toList) (hy:All2 (CR ι) m ys.toList) (h:zcq (List.replicate n b) l m=some r):(Op.equalIn (d + 2) t (.agg xs) (.agg ys)).run P w = .ok r w:=by
 obtain ⟨i,hi,h1⟩ : ∃ i,P.info? e=some i∧i.size=1:=by
  unfold zck at hs
  cases hi:P.info? e with
  | none=>rw [hi] at hs;cases hs
  | some i=>rw [hi] at hs;simp at hs;exact ⟨i,rfl,hs⟩
 have hc:P.cellsOf e=1:=by simp [Program.cellsOf,hi,h1]
 have loop:∀ (k i:Nat) (r:Bool),zcq (List.replicate k b) (l.drop i) (m.drop i)=some r →
   (Op.eqItems (d + 1) e 1 xs ys (List.range' i k)).run P w = .ok r w:=by
  intro k
  induction k with
  | zero =>
   intro i r he
   cases hl:l.drop i<;>cases hm:m.drop i<;>rw [hl,hm] at he<;>simp [zcq] at he
   subst he;simp [Op.eqItems]
  | succ k ih =>
   intro i r he
   rw [List.replicate_succ] at he
   obtain ⟨x,l',y,m',r1,r2,hl,hm,h1,h2,rfl⟩:=zkv he
   obtain ⟨e1,e2⟩:=zi0 hl
   obtain ⟨e3,e4⟩:=zi0 hm
   obtain ⟨u,hu,cu⟩:=hx.get _ _ e1
   obtain ⟨v,hv,cv⟩:=hy.get _ _ e3
   rw [List.range'_succ,Op.eqItems]
   simp only [Nat.mul_one,Sem.run_bind,ziz hb hu,ziz hb hv,Result.andThen_ok,zri d hb cu cv h1]
   have:=ih (i + 1) r2 (by rw [e2,e4];exact h2)
   cases r1 with
   | false=>simp
   | true=>simp [this]
 rw [run_equalIn_array (P:=P) w (d + 1) xs ys ht hi,hc,List.range_eq_range']
 exact loop n 0 r (by simpa using h)
theorem zt8 {t:TypeId} (d:Nat) (a b:Bool) (hu:P.underlying t=some .bool):(Op.equalIn (d + 2) t (.bool a) (.bool b)).run P w = .ok (a == b) w:=by
 rw [Op.equalIn,Sem.run_bind,run_underlying hu];rfl
theorem zog {t e:TypeId} (d:Nat) (b:Option Addr) (hu:P.underlying t=some (.pointer e)):(Op.equalIn (d + 2) t (.pointer none) (.pointer b)).run P w = .ok b.isNone w:=by
 rw [Op.equalIn,Sem.run_bind,run_underlying hu];cases b<;>rfl
theorem zt9 {t e:TypeId} (d:Nat) (a:Addr) (hu:P.underlying t=some (.pointer e)):(Op.equalIn (d + 2) t (.pointer (some a)) (.pointer none)).run P w = .ok false w:=by
 rw [Op.equalIn,Sem.run_bind,run_underlying hu];rfl
theorem zpp {t e:TypeId} (d l c l' c':Nat) (b:Option Addr) (hu:P.underlying t=some (.slice e)):(Op.equalIn (d + 2) t (.slice none l c) (.slice b l' c')).run P w = .ok b.isNone w:=by
 rw [Op.equalIn,Sem.run_bind,run_underlying hu];cases b<;>rfl
theorem zvy {t e:TypeId} (d l c l' c':Nat) (a:Addr) (hu:P.underlying t=some (.slice e)):(Op.equalIn (d + 2) t (.slice (some a) l c) (.slice none l' c')).run P w = .ok false w:=by
 rw [Op.equalIn,Sem.run_bind,run_underlying hu];rfl
theorem zua {t:TypeId} {x y:Array TypeId} {z:Bool} (d:Nat) (hu:P.underlying t=some (.func x y z)):(Op.equalIn (d + 2) t .nilFunc .nilFunc).run P w = .ok true w:=by
 rw [Op.equalIn,Sem.run_bind,run_underlying hu];rfl
theorem zub {t:TypeId} {x y:Array TypeId} {z:Bool} (d:Nat) (f:Fn) (a b:Array Value) (hu:P.underlying t=some (.func x y z)):(Op.equalIn (d + 2) t .nilFunc (.func f a b)).run P w = .ok false w:=by
 rw [Op.equalIn,Sem.run_bind,run_underlying hu];rfl
theorem zuc {t:TypeId} {x y:Array TypeId} {z:Bool} (d:Nat) (f:Fn) (a b:Array Value) (hu:P.underlying t=some (.func x y z)):(Op.equalIn (d + 2) t (.func f a b) .nilFunc).run P w = .ok false w:=by
 rw [Op.equalIn,Sem.run_bind,run_underlying hu];rfl
theorem zyn {op:BinOp} {t:TypeId} {k:EqK} {neg:Bool} {a b:AV} {u v:Value} {r:Bool} {x y:Operand} (ho:(op = .eql∧neg=false)∨(op = .neq∧neg=true))
  (hk:zjk P t=some k) (h:zfo k a b=some r) (ha:AR ι a u) (hb:AR ι b v) :
  (eqGuard op t x y u v).run P w = .ok () w∧(binOp op t u v).run P w = .ok (.bool (bif neg then !r else r)) w:=by
 have fin:∀ (u v:Value),(eqGuard op t x y u v).run P w = .ok () w→(∀ d:Nat,(Op.equalIn (d + 2) t u v).run P w = .ok r w) →
   (binOp .eql t u v=(do pure (.bool (← Op.equal t u v))))→(binOp .neq t u v=(do pure (.bool (!(← Op.equal t u v))))) →
   (eqGuard op t x y u v).run P w = .ok () w∧(binOp op t u v).run P w = .ok (.bool (bif neg then !r else r)) w:=by
  intro u v h1 h2 h3 h4
  refine ⟨h1,?_⟩
  have he:(Op.equal t u v).run P w = .ok r w:=h2 9998
  rcases ho with ⟨rfl,rfl⟩ | ⟨rfl,rfl⟩
  ·rw [h3];simp [he]
  ·rw [h4];simp [he]
 have inv:=zr5 hk
 unfold zfo at h
 split at h<;>first | (cases h;done) | (simp only [Option.some.injEq] at h) | skip
 ·simp only [AR,CR] at ha hb;subst ha;subst hb;subst h
  exact fin _ _ (by rw [eqGuard_at_bool];rfl) (fun d=>zt8 d _ _ inv) rfl rfl
 ·obtain ⟨e,hu⟩:=inv
  simp only [AR,CR] at ha hb;subst ha;subst hb;subst h
  exact fin _ _ (by rw [eqGuard_at_pointer];rfl) (fun d=>zog d _ hu) rfl rfl
 ·obtain ⟨e,hu⟩:=inv
  simp only [AR,CR] at ha hb;obtain ⟨b',base,lim,_,rfl⟩:=hb;subst ha;subst h
  exact fin _ _ (by rw [eqGuard_at_pointer];rfl) (fun d=>zog d _ hu) rfl rfl
 ·obtain ⟨e,hu⟩:=inv
  simp only [AR,CR] at ha hb;obtain ⟨b',base,lim,_,rfl⟩:=ha;subst hb;subst h
  exact fin _ _ (by rw [eqGuard_at_pointer];rfl) (fun d=>zt9 d _ hu) rfl rfl
 ·obtain ⟨e,hu⟩:=inv
  simp only [AR,CR] at ha hb;subst ha;subst hb;subst h
  exact fin _ _ (by rw [eqGuard_at_slice];rfl) (fun d=>zpp d _ _ _ _ _ hu) rfl rfl
 ·obtain ⟨e,hu⟩:=inv
  simp only [AR,CR] at ha hb;obtain ⟨b',base,lim,aa,cap,_,rfl,_⟩:=hb;subst ha;subst h
  exact fin _ _ (by rw [eqGuard_at_slice];rfl) (fun d=>zpp d _ _ _ _ _ hu) rfl rfl
 ·obtain ⟨e,hu⟩:=inv
  simp only [AR,CR] at ha hb;obtain ⟨b',base,lim,aa,cap,_,rfl,_⟩:=ha;subst hb;subst h
  exact fin _ _ (by rw [eqGuard_at_slice];rfl) (fun d=>zvy d _ _ _ _ _ hu) rfl rfl
 ·obtain ⟨e1,e2,e3,hu⟩:=inv
  simp only [AR,CR] at ha hb;subst ha;subst hb;subst h
  exact fin _ _ (by rw [eqGuard_at_nilFunc];rfl) (fun d=>zua d hu) rfl rfl
 ·obtain ⟨e1,e2,e3,hu⟩:=inv
  simp only [AR,CR] at ha hb;obtain ⟨vs,rfl,_⟩:=hb;subst ha;subst h
  exact fin _ _ (by rw [eqGuard_at_nilFunc];rfl) (fun d=>zub d _ _ _ hu) rfl rfl
 ·obtain ⟨e1,e2,e3,hu⟩:=inv
  simp only [AR,CR] at ha hb;obtain ⟨vs,rfl,_⟩:=ha;subst hb;subst h
  exact fin _ _ (by rw [eqGuard_at_func];rfl) (fun d=>zuc d _ _ _ hu) rfl rfl
 ·rename_i ks l m
  obtain ⟨hgd,inv⟩:=inv
  obtain ⟨xs,rfl,hx⟩:=ha
  obtain ⟨ys,rfl,hy⟩:=hb
  refine fin _ _ (run_eqGuard_agg (P:=P) w op t x y xs ys hgd) (fun d=>?_) rfl rfl
  rcases inv with ⟨fs,hu,hf,hst⟩ | ⟨n,e,b,hu,hf,hsz,rfl⟩
  ·have hff:P.fieldsOf t=fs:=by simp [Program.fieldsOf,hu]
   rw [run_equalIn_struct (P:=P) w (d + 1) t xs ys (by rw [hff];exact hu) hst,hff]
   exact zof d hx hy fs.toList 0 ks r hf (by simpa using h)
  ·exact zvx d n hu hf hsz hx hy h
end ops
end Lav
namespace Lav
open Go
theorem zgj {s:ByteArray} {l:List Nat} (h:s.data.toList.map UInt8.toNat=l):s.size=l.length:=by
 rw [← h];simp
section ops
variable {P:Program} {slots:List Nat} {ds:List (Option Nat)} {loc vals:List AV} {ρ:Operand→Value} {ι:Inj} {B:Nat} {h:Heap} {w:World}
theorem zm5 {t n:Nat} {g:Bool} {i o:Nat} {l:List CV} {a:AV} {v:Value} (hr:HR B ι h.get w) (hn:zck P t=some n) (hg:zgs P t=some g)
  (hv:CR ι (.ptr i o) v) (hl:h.read i o n=some l) (ha:AV.ofCells g l=some a):∃ u,(Instr.loadAt t v).run P w = .ok u w∧AR ι a u:=by
 obtain ⟨b,base,lim,hi,rfl⟩:=hv
 obtain ⟨b',base',lim',vs,hi',h2,hlen,_,hcell,hrun⟩:=hr.loads hl
 rw [hi] at hi';simp only [Option.some.injEq,Prod.mk.injEq] at hi'
 obtain ⟨rfl,rfl,rfl⟩:=hi'
 rcases zkr ha h2 with ⟨rfl,rfl⟩ | ⟨rfl,x,u,rfl,rfl,rfl,hcr⟩
 ·exact ⟨.agg vs.toArray,by simp [Instr.loadAt,Instr.sureAddr,loadVar,zjn hg,zds hn,hrun],_,rfl,by simpa using h2⟩
 ·have:=hcell 0 u rfl
  exact ⟨u,by simp [Instr.loadAt,Instr.sureAddr,loadVar,zjn hg,show w.cell? ⟨b,base + o,none⟩=some u from this],hcr⟩
theorem zkw {ι:Inj}:∀ {l:List CV} {r:List Nat} {vs:List Value},bytesOf l=some r→All2 (CR ι) l vs →
  ∃ ns:List Int,vs=ns.map (Value.int .u8)∧(∀ n∈ns,0≤n∧n < 256)∧ns.map Int.toNat=r
 | [],r,[],h,_=>by simp [bytesOf] at h;subst h;exact ⟨[],rfl,by simp,rfl⟩
 | x :: l,r,v :: vs,h,⟨h1,h2⟩=>by
  cases x with
  | int k n =>
   cases k<;>cases n<;>simp only [bytesOf,reduceCtorEq] at h
   rename_i n
   cases hb:Nat.blt n 256 with
   | false=>rw [hb] at h;cases h
   | true =>
    rw [hb] at h;simp only [cond_true] at h
    split at h
    ·rename_i r' hr'
     simp at h;subst h
     obtain ⟨ns,e1,e2,e3⟩:=zkw hr' h2
     simp only [CR] at h1
     have hlt:n < 256:=Nat.lt_of_succ_le (Nat.le_of_ble_eq_true hb)
     refine ⟨Int.ofNat n :: ns,by simp [h1,e1],?_,by simp [e3]⟩
     intro m hm
     rcases List.mem_cons.1 hm with rfl | hm
     ·simp;omega
     ·exact e2 m hm
    ·cases h
  | _=>simp [bytesOf] at h
 | [],_,_ :: _,_,h=>h.elim
 | _ :: _,_,[],_,h=>h.elim
theorem zfl {x:Option Operand} {y:Option X} {d m:Nat} (H:zd4 slots ds loc vals ι ρ) (hc:cXo slots ds x=some y) (h:bound loc vals y d=some m) :
  (x=none∧y=none∧m=d)∨∃ z z' k,x=some z∧y=some z'∧ρ z = .int k (Int.ofNat m):=by
 cases x with
 | none=>simp [cXo] at hc;subst hc;simp [bound] at h;exact .inl ⟨rfl,rfl,h.symm⟩
 | some z =>
  unfold cXo at hc
  split at hc
  ·rename_i heq;cases heq
  ·rename_i z' heq
   simp at heq;subst heq
   split at hc
   ·rename_i y' hy
    simp at hc;subst hc
    obtain ⟨k,hk⟩:=zej h (H _ _ hy)
    exact .inr ⟨z,y',k,rfl,rfl,hk⟩
   ·cases hc
theorem zf4 {isS:Bool} {len cap l r m:Nat} {lo hi mx:Option Operand} {lo' hi' mx':Option X} (H:zd4 slots ds loc vals ι ρ)
  (cl:cXo slots ds lo=some lo') (ch:cXo slots ds hi=some hi') (cm:cXo slots ds mx=some mx') (hmx:mx.isSome→hi.isSome)
  (hl:bound loc vals lo' 0=some l) (hh:bound loc vals hi' len=some r) (hm:bound loc vals mx' cap=some m) (h1:l≤r) (h2:r≤m) (h3:m≤cap) :
  (Instr.sliceBounds isS len cap (lo.map ρ) (hi.map ρ) (mx.map ρ)).run P w = .ok (l,r,m) w:=by
 rcases zfl H cm hm with ⟨rfl,rfl,rfl⟩ | ⟨z,z',k,rfl,rfl,ez⟩
 ·rcases zfl H ch hh with ⟨rfl,rfl,rfl⟩ | ⟨y,y',k',rfl,rfl,ey⟩
  ·rcases zfl H cl hl with ⟨rfl,rfl,rfl⟩ | ⟨x,x',k'',rfl,rfl,ex⟩
   ·simp [Instr.sliceBounds]
   ·simp only [Instr.sliceBounds,Option.map_some,Option.map_none,ex,Sem.run_bind,Sem.run_pure,Result.andThen_ok,zex h1]
  ·rcases zfl H cl hl with ⟨rfl,rfl,rfl⟩ | ⟨x,x',k'',rfl,rfl,ex⟩
   ·simp only [Instr.sliceBounds,Option.map_some,Option.map_none,ey,Sem.run_bind,Sem.run_pure,Result.andThen_ok,zex h2]
   ·simp only [Instr.sliceBounds,Option.map_some,Option.map_none,ey,ex,Sem.run_bind,Sem.run_pure,Result.andThen_ok,zex h2,zex h1]
 ·cases hi with
  | none=>simp at hmx
  | some y =>
   rcases zfl H ch hh with ⟨e,_⟩ | ⟨y,y',k',e,rfl,ey⟩
   ·cases e
   ·cases e
    rcases zfl H cl hl with ⟨rfl,rfl,rfl⟩ | ⟨x,x',k'',rfl,rfl,ex⟩
    ·simp only [Instr.sliceBounds,Option.map_some,Option.map_none,ez,ey,Sem.run_bind,Sem.run_pure,Result.andThen_ok,zex h3,zex h2]
    ·simp only [Instr.sliceBounds,Option.map_some,ez,ey,ex,Sem.run_bind,Sem.run_pure,Result.andThen_ok,zex h3,zex h2,zex h1]
theorem zvz {c c':Cap} {o l cap m lim sz:Nat} (hc:zjz c o cap lim) (hlm:l≤m) (hm:m≤cap) (h:(c = .dy sz∧c' = .dy sz∧m=cap)∨c' = .ex (m - l)):zjz c' (o + l * sz) (m - l) lim:=by
 rcases h with ⟨rfl,rfl,rfl⟩ | rfl
 ·simp only [zjz] at hc ⊢
  have:l * sz + (m - l) * sz=m * sz:=by rw [← Nat.add_mul];congr 1;omega
  omega
 ·rfl
theorem zj0 {t e sz:Nat} {i o len l r m:Nat} {c':Cap} {v:Value} {b base lim cap:Nat} {a:Addr} {lo hi' mx:Option Value} (hu:P.underlying t=some (.slice e)) (hsz:zck P e=some sz)
  (hi:ι i=some (b,base,lim)) (hv:v = .slice (some a) len cap) (ha:cap≠0→a=⟨b,base + o,none⟩)
  (hb:(Instr.sliceBounds true len cap lo hi' mx).run P w = .ok (l,r,m) w) (h1:l≤r) (h2:r≤m) (h3:m≤cap) (hc':zjz c' (o + l * sz) (m - l) lim) :
  ∃ u,(Instr.sliceAt t v lo hi' mx).run P w = .ok u w∧CR ι (.sl i (o + l * sz) (r - l) c') u:=by
 subst hv
 refine ⟨.slice (if m=l then some a else (some a).map (·.add (l * sz))) (r - l) (m - l),?_,?_⟩
 ·simp only [Instr.sliceAt,Instr.slice,Sem.run_bind,run_underlying hu,Result.andThen_ok,hb,zds hsz,Sem.run_pure]
 ·refine ⟨b,base,lim,if m=l then a else a.add (l * sz),m - l,hi,?_,by omega,fun hne=>?_,hc'⟩
  ·by_cases e:m=l
   ·simp [e]
   ·simp [e]
  ·have e:m≠l:=by omega
   rw [if_neg e,ha (by omega),Addr.add_lit,Nat.add_assoc]
theorem zqz {t e sz:Nat} {x:Operand} {lo hi mx:Option Operand} {a:X} {lo' hi' mx':Option X} {r:AV} (H:zd4 slots ds loc vals ι ρ) (hu:P.underlying t=some (.slice e)) (hsz:zck P e=some sz)
  (ca:cX slots ds x=some a) (cl:cXo slots ds lo=some lo') (ch:cXo slots ds hi=some hi') (cm:cXo slots ds mx=some mx') (hmx:mx.isSome→hi.isSome)
  (he:zao loc vals h (.slice sz a lo' hi' mx')=some r):∃ v,(Instr.sliceAt t (ρ x) (lo.map ρ) (hi.map ρ) (mx.map ρ)).run P w = .ok v w∧AR ι r v:=by
 have hx:=H _ _ ca
 simp only [zao] at he
 cases hxe:a.eval loc vals with
 | c q =>
  cases q with
  | sl i o len c =>
   rw [hxe] at hx;simp only [hxe] at he
   obtain ⟨b,base,lim,ad,cap,hi0,hv,hlc,had,hcap⟩:=hx
   split at he
   ·rename_i l rr hl hh
    cases hmx':mx' with
    | none =>
     have hbm:bound loc vals mx' cap=some cap:=by rw [hmx'];rfl
     cases c with
     | dy sz' =>
      simp only [hmx'] at he
      cases hc:(Nat.ble l rr && Nat.ble rr len && sz == sz') with
      | false=>rw [hc] at he;cases he
      | true =>
       rw [hc] at he
       simp only [cond_true,Option.some.injEq] at he
       simp only [Bool.and_eq_true,Nat.ble_eq,beq_iff_eq] at hc
       obtain ⟨⟨c1,c2⟩,rfl⟩:=hc
       subst he
       have hb:=zf4 (P:=P) (w:=w) (isS:=true) (len:=len) (cap:=cap) H cl ch cm hmx hl hh hbm c1 (by omega) (Nat.le_refl _)
       exact zj0 (c':=.dy sz) hu hsz hi0 hv had hb c1 (by omega) (Nat.le_refl _) (zvz (c:=.dy sz) hcap (by omega) (Nat.le_refl _) (.inl ⟨rfl,rfl,rfl⟩))
     | ex k =>
      simp only [hmx'] at he
      have hk:cap=k:=hcap
      subst hk
      cases hc:(Nat.ble l rr && Nat.ble rr cap) with
      | false=>rw [hc] at he;cases he
      | true =>
       rw [hc] at he
       simp only [cond_true,Option.some.injEq] at he
       simp only [Bool.and_eq_true,Nat.ble_eq] at hc
       subst he
       have hb:=zf4 (P:=P) (w:=w) (isS:=true) (len:=len) (cap:=cap) H cl ch cm hmx hl hh hbm hc.1 hc.2 (Nat.le_refl _)
       exact zj0 (c':=.ex (cap - l)) hu hsz hi0 hv had hb hc.1 hc.2 (Nat.le_refl _) rfl
    | some m' =>
     have key:∀ m,zda (m'.eval loc vals)=some m→l≤rr→rr≤m→m≤cap→some (AV.c (.sl i (o + l * sz) (rr - l) (.ex (m - l))))=some r →
       ∃ v,(Instr.sliceAt t (ρ x) (lo.map ρ) (hi.map ρ) (mx.map ρ)).run P w = .ok v w∧AR ι r v:=by
      intro m hm c1 c2 c3 e
      simp only [Option.some.injEq] at e;subst e
      have hb:=zf4 (P:=P) (w:=w) (isS:=true) (len:=len) (cap:=cap) H cl ch cm hmx hl hh (show bound loc vals mx' cap=some m by rw [hmx'];exact hm) c1 c2 c3
      exact zj0 (c':=.ex (m - l)) hu hsz hi0 hv had hb c1 c2 c3 rfl
     cases c with
     | dy sz' =>
      simp only [hmx'] at he
      split at he
      ·rename_i m hm
       cases hc:(Nat.ble l rr && Nat.ble rr m && Nat.ble m len) with
       | false=>rw [hc] at he;cases he
       | true =>
        rw [hc] at he
        simp only [Bool.and_eq_true,Nat.ble_eq] at hc
        exact key m hm hc.1.1 hc.1.2 (by omega) he
      ·cases he
     | ex k =>
      simp only [hmx'] at he
      have hk:cap=k:=hcap
      split at he
      ·rename_i m hm
       cases hc:(Nat.ble l rr && Nat.ble rr m && Nat.ble m k) with
       | false=>rw [hc] at he;cases he
       | true =>
        rw [hc] at he
        simp only [Bool.and_eq_true,Nat.ble_eq] at hc
        exact key m hm hc.1.1 hc.1.2 (by omega) he
      ·cases he
   ·cases he
  | nils =>
   rw [hxe] at hx;simp only [hxe] at he
   simp only [AR,CR] at hx
   split at he
   ·rename_i hl hh hm
    simp only [Option.some.injEq] at he;subst he
    have hb:=zf4 (P:=P) (w:=w) (isS:=true) (len:=0) (cap:=0) H cl ch cm hmx hl hh hm (Nat.le_refl _) (Nat.le_refl _) (Nat.le_refl _)
    refine ⟨.slice none 0 0,?_,rfl⟩
    rw [hx]
    simp only [Instr.sliceAt,Instr.slice,Sem.run_bind,run_underlying hu,Result.andThen_ok,hb,zds hsz,Sem.run_pure]
    rfl
   ·cases he
  | _=>simp [hxe] at he
 | _=>simp [hxe] at he
theorem zr6 {t n e sz:Nat} {x:Operand} {lo hi:Option Operand} {a:X} {lo' hi':Option X} {r:AV} (H:zd4 slots ds loc vals ι ρ) (hu:P.underlying t=some (.array n e)) (hsz:zck P e=some sz)
  (ca:cX slots ds x=some a) (cl:cXo slots ds lo=some lo') (ch:cXo slots ds hi=some hi')
  (he:zao loc vals h (.sarr n sz a lo' hi')=some r):∃ v,(Instr.sliceAt t (ρ x) (lo.map ρ) (hi.map ρ) none).run P w = .ok v w∧AR ι r v:=by
 have hx:=H _ _ ca
 simp only [zao] at he
 cases hxe:a.eval loc vals with
 | c q =>
  cases q with
  | ptr i o =>
   rw [hxe] at hx;simp only [hxe] at he
   obtain ⟨b,base,lim,hi0,hv⟩:=hx
   split at he
   ·rename_i l rr hl hh
    cases hc:(Nat.ble l rr && Nat.ble rr n) with
    | false=>rw [hc] at he;cases he
    | true =>
     rw [hc] at he
     simp only [cond_true,Option.some.injEq] at he
     simp only [Bool.and_eq_true,Nat.ble_eq] at hc
     subst he
     have hb:=zf4 (P:=P) (w:=w) (isS:=false) (len:=n) (cap:=n) (mx:=none) (mx':=none) H cl ch rfl (by simp) hl hh rfl hc.1 hc.2 (Nat.le_refl _)
     refine ⟨.slice (some (if n=l then ⟨b,base + o,none⟩ else Addr.add ⟨b,base + o,none⟩ (l * sz))) (rr - l) (n - l),?_,?_⟩
     ·rw [hv]
      simp only [Option.map_none] at hb
      simp only [Instr.sliceAt,Instr.sureAddr,Sem.run_bind,run_underlying hu,Result.andThen_ok,hb,zds hsz,Sem.run_pure]
     ·refine ⟨b,base,lim,_,n - l,hi0,rfl,by omega,fun hne=>?_,rfl⟩
      rw [if_neg (by omega),Addr.add_lit,Nat.add_assoc]
   ·cases he
  | _=>simp [hxe] at he
 | _=>simp [hxe] at he
theorem zr7 {t:Nat} {x:Operand} {lo hi:Option Operand} {a:X} {lo' hi':Option X} {r:AV} (H:zd4 slots ds loc vals ι ρ) (hu:P.underlying t=some .string)
  (ca:cX slots ds x=some a) (cl:cXo slots ds lo=some lo') (ch:cXo slots ds hi=some hi')
  (he:zao loc vals h (.sstr a lo' hi')=some r):∃ v,(Instr.sliceAt t (ρ x) (lo.map ρ) (hi.map ρ) none).run P w = .ok v w∧AR ι r v:=by
 have hx:=H _ _ ca
 simp only [zao] at he
 cases hxe:a.eval loc vals with
 | c q =>
  cases q with
  | str s =>
   rw [hxe] at hx;simp only [hxe] at he
   obtain ⟨bs,hv,hs⟩:=hx
   split at he
   ·rename_i l rr hl hh
    cases hc:(Nat.ble l rr && Nat.ble rr s.length) with
    | false=>rw [hc] at he;cases he
    | true =>
     rw [hc] at he
     simp only [cond_true,Option.some.injEq] at he
     simp only [Bool.and_eq_true,Nat.ble_eq] at hc
     subst he
     have hlen:=zgj hs
     rw [← hlen] at hh
     have hb:=zf4 (P:=P) (w:=w) (isS:=false) (len:=bs.size) (cap:=bs.size) (mx:=none) (mx':=none) H cl ch rfl (by simp) hl hh rfl hc.1 (by omega) (Nat.le_refl _)
     refine ⟨.string (bs.extract l rr),?_,bs.extract l rr,rfl,?_⟩
     ·rw [hv]
      simp only [Option.map_none] at hb
      simp only [Instr.sliceAt,Instr.slice,Sem.run_bind,run_underlying hu,Result.andThen_ok,hb,Option.isSome_none,Bool.false_eq_true,if_false,Sem.run_pure]
     ·rw [ByteArray.data_extract,Array.toList_extract,List.extract_eq_take_drop,List.map_take,List.map_drop,hs]
   ·cases he
  | _=>simp [hxe] at he
 | _=>simp [hxe] at he
theorem zq0 {t e sz i:Nat} {x y:Operand} {a b:X} {r:AV} (H:zd4 slots ds loc vals ι ρ) (hu:P.underlying t=some (.slice e)) (hsz:zck P e=some sz)
  (ca:cX slots ds x=some a) (cb:cX slots ds y=some b) (he:zao loc vals h (.iaddr sz a b)=some r) (_:i=0) :
  ∃ v,(Instr.indexAt t (ρ x) (ρ y)).run P w = .ok v w∧AR ι r v:=by
 have hx:=H _ _ ca
 have hy:=H _ _ cb
 simp only [zao] at he
 split at he
 ·rename_i i o len c j h1 h2
  rw [h1] at hx
  obtain ⟨k,hk⟩:=zej h2 hy
  obtain ⟨bb,base,lim,ad,cap,hi0,hv,hlc,had,hcap⟩:=hx
  cases hc:Nat.blt j len with
  | false=>rw [hc] at he;cases he
  | true =>
   rw [hc] at he;simp only [cond_true,Option.some.injEq] at he;subst he
   have hlt:j < len:=Nat.lt_of_succ_le (Nat.le_of_ble_eq_true hc)
   refine ⟨.pointer (some ⟨bb,base + (o + j * sz),none⟩),?_,bb,base,lim,hi0,rfl⟩
   rw [hv,hk,had (by omega)]
   have h1:(0:Int)≤Int.ofNat j∧Int.ofNat j < (len:Int):=by constructor<;>simp<;>omega
   simp only [Instr.indexAt,Sem.run_bind,zge,run_underlying hu,Result.andThen_ok,Sem.run_pure,Sem.run_ite,h1,and_self,if_true,zds hsz,Addr.add_lit]
   simp [Nat.add_assoc]
 ·cases he
theorem zpq {t e n sz:Nat} {x y:Operand} {a b:X} {r:AV} (H:zd4 slots ds loc vals ι ρ) (hu:P.underlying t=some (.array n e)) (hsz:zck P e=some sz)
  (ca:cX slots ds x=some a) (cb:cX slots ds y=some b) (he:zao loc vals h (.iaddrA sz n a b)=some r) :
  ∃ v,(Instr.indexAt t (ρ x) (ρ y)).run P w = .ok v w∧AR ι r v:=by
 have hx:=H _ _ ca
 have hy:=H _ _ cb
 simp only [zao] at he
 split at he
 ·rename_i i o j h1 h2
  rw [h1] at hx
  obtain ⟨k,hk⟩:=zej h2 hy
  obtain ⟨bb,base,lim,hi0,hv⟩:=hx
  cases hc:Nat.blt j n with
  | false=>rw [hc] at he;cases he
  | true =>
   rw [hc] at he;simp only [cond_true,Option.some.injEq] at he;subst he
   have hlt:j < n:=Nat.lt_of_succ_le (Nat.le_of_ble_eq_true hc)
   refine ⟨.pointer (some ⟨bb,base + (o + j * sz),none⟩),?_,bb,base,lim,hi0,rfl⟩
   rw [hv,hk]
   have h1:(0:Int)≤Int.ofNat j∧Int.ofNat j < (n:Int):=by constructor<;>simp<;>omega
   simp only [Instr.indexAt,Instr.sureAddr,Sem.run_bind,zge,run_underlying hu,Result.andThen_ok,Sem.run_pure,Sem.run_ite,h1,and_self,if_true,zds hsz,Addr.add_lit]
   simp [Nat.add_assoc]
 ·cases he
theorem zr8 {t e n sz:Nat} {g:Bool} {x y:Operand} {a b:X} {r:AV} (H:zd4 slots ds loc vals ι ρ) (hu:P.underlying t=some (.array n e)) (hsz:zck P e=some sz) (hg:zgs P e=some g)
  (ca:cX slots ds x=some a) (cb:cX slots ds y=some b) (he:zao loc vals h (.idxA sz n g a b)=some r) :
  ∃ v,(Instr.index t (ρ x) (ρ y)).run P w = .ok v w∧AR ι r v:=by
 have hx:=H _ _ ca
 have hy:=H _ _ cb
 simp only [zao] at he
 split at he
 ·rename_i l j h1 h2
  rw [h1] at hx
  obtain ⟨k,hk⟩:=zej h2 hy
  obtain ⟨cs,hv,hl⟩:=hx
  cases hc:Nat.blt j n with
  | false=>rw [hc] at he;cases he
  | true =>
   rw [hc] at he;simp only [cond_true] at he
   have hlt:j < n:=Nat.lt_of_succ_le (Nat.le_of_ble_eq_true hc)
   split at he
   ·rename_i q hq
    obtain ⟨v,hv',hr'⟩:=zpn (P:=P) (w:=w) hsz hg hl hq he
    refine ⟨v,?_,hr'⟩
    rw [hv,hk]
    have h1:(0:Int)≤Int.ofNat j∧Int.ofNat j < (n:Int):=by constructor<;>simp<;>omega
    have h2:(Int.ofNat j).toNat=j:=rfl
    simp only [Instr.index,Sem.run_bind,zge,run_underlying hu,Result.andThen_ok,Sem.run_ite,h1,and_self,if_true,zds hsz,h2,hv']
   ·cases he
 ·cases he
theorem zr9 {t:Nat} {x y:Operand} {a b:X} {r:AV} (H:zd4 slots ds loc vals ι ρ) (hu:P.underlying t=some .string)
  (ca:cX slots ds x=some a) (cb:cX slots ds y=some b) (he:zao loc vals h (.idxS a b)=some r) :
  ∃ v,(Instr.index t (ρ x) (ρ y)).run P w = .ok v w∧AR ι r v:=by
 have hx:=H _ _ ca
 have hy:=H _ _ cb
 simp only [zao] at he
 split at he
 ·rename_i s j h1 h2
  rw [h1] at hx
  obtain ⟨k,hk⟩:=zej h2 hy
  obtain ⟨bs,hv,hs⟩:=hx
  split at he
  ·rename_i c hc
   simp only [Option.some.injEq] at he;subst he
   rw [← hs,List.getElem?_map] at hc
   cases hb:bs.data.toList[j]? with
   | none=>rw [hb] at hc;simp at hc
   | some u =>
    rw [hb] at hc;simp at hc
    have hj:j < bs.size:=by
     rcases Nat.lt_or_ge j bs.data.toList.length with h' | h'
     ·simpa using h'
     ·rw [List.getElem?_eq_none h'] at hb;cases hb
    have hbj:bs[j]? = some u:=by
     have e1:bs[j]? = some bs[j]:=by simp [hj]
     rw [e1]
     have e2:bs.data.toList[j]? = some bs[j]:=by
      have:j < bs.data.toList.length:=by simpa using hj
      rw [List.getElem?_eq_getElem this];rfl
     rw [e2] at hb;exact hb
    refine ⟨.int .u8 (Int.ofNat c),?_,rfl⟩
    rw [hv,hk]
    have h2:(Int.ofNat j).toNat=j:=rfl
    have h3:(0:Int)≤Int.ofNat j:=by simp
    simp only [Instr.index,Sem.run_bind,zge,run_underlying hu,Result.andThen_ok,h3,if_true,h2,hbj,Sem.run_pure,hc]
    rfl
  ·cases he
 ·cases he
theorem zil:∀ (vs l:List CV) (o:Nat),o + vs.length≤l.length→(setMany l o vs).length=l.length ∧
  ∀ j:Nat,(setMany l o vs)[j]? = if o≤j∧j < o + vs.length then vs[j - o]? else l[j]?
 | [],l,o,_=>by simp [setMany];intro j h1 h2;omega
 | v :: vs,l,o,h=>by
  simp only [List.length_cons] at h
  obtain ⟨h1,h2⟩:=zil vs (l.set o v) (o + 1) (by simp;omega)
  refine ⟨by simp [setMany,h1],fun j=>?_⟩
  simp only [setMany,List.length_cons]
  rw [h2 j]
  by_cases e:j=o
  ·subst e
   rw [if_neg (by omega),if_pos (by omega),List.getElem?_set_self (by omega)]
   simp
  ·by_cases e':o + 1≤j∧j < o + 1 + vs.length
   ·rw [if_pos e',if_pos (by omega)]
    rw [show j - o=(j - (o + 1)) + 1 by omega];simp
   ·rw [if_neg e',if_neg (by omega)]
    simp [Ne.symm e]
theorem zh6 {l vs r:List CV} {o:Nat} (h:zdf l o vs=some r):o + vs.length≤l.length∧r=setMany l o vs:=by
 unfold zdf at h
 cases hc:Nat.ble (o + vs.length) l.length with
 | false=>rw [hc] at h;cases h
 | true=>rw [hc] at h;simp at h;exact ⟨Nat.le_of_ble_eq_true hc,h.symm⟩
theorem zv0 (vs:List Value):∀ (k:Nat) (cs:Array Value) (off:Nat),
  ((vs.zipIdx k).foldl (fun cs (p:Value × Nat)=>cs.setIfInBounds (off + p.2) p.1) cs).size=cs.size ∧
  ∀ j:Nat,j < cs.size→((vs.zipIdx k).foldl (fun cs (p:Value × Nat)=>cs.setIfInBounds (off + p.2) p.1) cs)[j]? = if off + k≤j∧j < off + k + vs.length then vs[j - (off + k)]? else cs[j]?:=by
 induction vs with
 | nil=>intro k cs off;refine ⟨by simp,fun j _=>?_⟩;simp;intro h1 h2;omega
 | cons v vs ih =>
  intro k cs off
  simp only [List.zipIdx_cons,List.foldl_cons,List.length_cons]
  obtain ⟨h1,h2⟩:=ih (k + 1) (cs.setIfInBounds (off + k) v) off
  refine ⟨by rw [h1];simp,fun j hj=>?_⟩
  rw [h2 j (by simpa using hj)]
  by_cases e:j=off + k
  ·subst e
   rw [if_neg (by omega),if_pos (by omega)]
   simp [hj]
  ·by_cases e':off + (k + 1)≤j∧j < off + (k + 1) + vs.length
   ·rw [if_pos e',if_pos (by omega)]
    rw [show j - (off + k)=(j - (off + (k + 1))) + 1 by omega];simp
   ·rw [if_neg e',if_neg (by omega)]
    rw [Array.getElem?_setIfInBounds_ne (Ne.symm e)]
theorem zv1 {l r vs:List CV} {o:Nat} {cs:Array Value} {us:Array Value} (hl:All2 (CR ι) l cs.toList) (hv:All2 (CR ι) vs us.toList) (hp:zdf l o vs=some r) :
  All2 (CR ι) r (us.zipIdx.foldl (fun cs (p:Value × Nat)=>cs.setIfInBounds (o + p.2) p.1) cs).toList:=by
 obtain ⟨h1,rfl⟩:=zh6 hp
 obtain ⟨s1,s2⟩:=zil vs l o h1
 have hlen:l.length=cs.size:=by simpa using hl.length
 have hvl:vs.length=us.size:=by simpa using hv.length
 have hz:us.zipIdx.foldl (fun cs (p:Value × Nat)=>cs.setIfInBounds (o + p.2) p.1) cs=(us.toList.zipIdx 0).foldl (fun cs (p:Value × Nat)=>cs.setIfInBounds (o + p.2) p.1) cs:=by
  rw [← Array.foldl_toList,Array.toList_zipIdx]
 obtain ⟨f1,f2⟩:=zv0 us.toList 0 cs o
 rw [hz]
 refine All2.of_get (by simp [s1,f1,hlen]) fun j x hx=>?_
 have hj:j < cs.size:=by
  rcases Nat.lt_or_ge j (setMany l o vs).length with h' | h'
  ·omega
  ·rw [List.getElem?_eq_none h'] at hx;cases hx
 rw [s2 j] at hx
 have f2j:=f2 j hj
 simp only [Nat.add_zero,Array.length_toList] at f2j
 rw [Array.getElem?_toList,f2j]
 by_cases e:o≤j∧j < o + vs.length
 ·rw [if_pos e] at hx
  rw [if_pos (by omega)]
  exact hv.get _ _ hx
 ·rw [if_neg e] at hx
  rw [if_neg (by omega)]
  have:=hl.get _ _ hx
  simpa using this
theorem zj1 {place:Nat→Option (Nat × Nat)} (H:zd4 slots ds loc vals ι ρ):∀ {parts:List (Nat × Operand)} {ps:List (Nat × Nat × X)} {qs:List (Nat × List CV)} {l r:List CV} {cs:Array Value},
  zev slots place ds parts=some ps→zb0 loc vals ps=some qs→zb1 l qs=some r→All2 (CR ι) l cs.toList →
  ∃ cs':Array Value,Instr.fill place cs (parts.map fun (i,x)=>(i,ρ x))=some cs'∧All2 (CR ι) r cs'.toList
 | [],ps,qs,l,r,cs,h1,h2,h3,hl=>by
  simp [zev] at h1;subst h1
  simp [zb0] at h2;subst h2
  simp [zb1] at h3;subst h3
  exact ⟨cs,by simp [Instr.fill],hl⟩
 | (i,x) :: parts,ps,qs,l,r,cs,h1,h2,h3,hl=>by
  unfold zev at h1
  split at h1
  ·rename_i off n y hp hy
   split at h1
   ·rename_i t ht
    simp only [Option.some.injEq] at h1;subst h1
    unfold zb0 at h2
    split at h2
    ·rename_i cells hcells
     cases hn:cells.length == n with
     | false=>rw [hn] at h2;cases h2
     | true =>
      rw [hn] at h2;simp only [cond_true] at h2
      simp at hn
      split at h2
      ·rename_i t' ht'
       simp only [Option.some.injEq] at h2;subst h2
       unfold zb1 at h3
       split at h3
       ·rename_i l' hl'
        have hcr:=(H _ _ hy).cells hcells
        have hone:=zv1 hl hcr hl'
        obtain ⟨b1,_⟩:=zh6 hl'
        have hsz:(ρ x).cells.size=n:=by
         have:=hcr.length
         simp at this;omega
        have hle:off + (ρ x).cells.size≤cs.size:=by
         have:=hl.length
         simp at this;omega
        obtain ⟨cs',f1,f2⟩:=zj1 H ht ht' h3 hone
        refine ⟨cs',?_,f2⟩
        simp only [List.map_cons,Instr.fill,hp]
        rw [if_neg (by simp [hsz];omega)]
        exact f1
       ·cases h3
      ·cases h2
    ·cases h2
   ·cases h1
  ·cases h1
theorem zgn {t:TypeId} {a:AV} (hz:zh3 P t=some a):∃ i v,P.info? t=some i∧i.zero=some v∧znz v=some a:=by
 unfold zh3 at hz
 cases hi:P.info? t with
 | none=>rw [hi] at hz;cases hz
 | some i =>
  rw [hi] at hz
  cases hv:i.zero with
  | none=>simp [hv] at hz
  | some v=>simp [hv] at hz;exact ⟨i,v,rfl,hv,hz⟩
theorem zgv {t:TypeId} {z:List CV} (hz:zfs P t=some z):∃ i v,P.info? t=some i∧i.zero=some v∧∀ ι:Inj,All2 (CR ι) z v.cells.toList:=by
 unfold zfs at hz
 cases ha:zh3 P t with
 | none=>rw [ha] at hz;cases hz
 | some a =>
  rw [ha] at hz
  obtain ⟨i,v,h1,h2,h3⟩:=zgn ha
  exact ⟨i,v,h1,h2,fun ι=>(zfb (ι:=ι) h3).cells hz⟩
theorem zq1 {t:TypeId} {parts:List (Nat × Operand)} {iop:IOp} {r:AV} (H:zd4 slots ds loc vals ι ρ) (hc:zjl P slots ds t parts=some iop)
  (he:zao loc vals h iop=some r):∃ v,(Instr.build t (parts.map fun (i,x)=>(i,ρ x)).toArray).run P w = .ok v w∧AR ι r v:=by
 unfold zjl at hc
 obtain ⟨z,hz,hc⟩:=zan hc
 obtain ⟨it,zv,hit,hzv,hzr⟩:=zgv hz
 have fin:∀ (place:Nat→Option (Nat × Nat)) (ps:List (Nat × Nat × X)),zev slots place ds parts=some ps→zao loc vals h (.build z ps)=some r →
   ∃ (l:List CV) (cs':Array Value),r = .agg l∧Instr.fill place zv.cells (parts.map fun (i,x)=>(i,ρ x))=some cs'∧All2 (CR ι) l cs'.toList:=by
  intro place ps hp he
  simp only [zao] at he
  split at he
  ·rename_i qs hq
   split at he
   ·rename_i l hl
    simp only [Option.some.injEq] at he
    obtain ⟨cs',f1,f2⟩:=zj1 H hp hq hl (hzr ι)
    exact ⟨l,cs',he.symm,f1,f2⟩
   ·cases he
  ·cases he
 split at hc
 ·rename_i fs hu
  obtain ⟨pl,hpl,hc⟩:=zan hc
  obtain ⟨ps,hps,hc⟩:=zan hc
  simp only [Option.some.injEq] at hc;subst hc
  obtain ⟨l,cs',rfl,f1,f2⟩:=fin _ ps hps he
  refine ⟨.agg cs',run_build w t _ cs' ?_,_,rfl,f2⟩
  unfold zlw at hpl
  have e:(fun x:Nat=>pl.toArray[x]?)=(fun i=>pl[i]?):=by funext i;simp
  simp only [Program.built,hit,hu,hzv,hpl,e]
  exact f1
 ·rename_i n e hu
  obtain ⟨m,hm,hc⟩:=zan hc
  obtain ⟨ps,hps,hc⟩:=zan hc
  simp only [Option.some.injEq] at hc;subst hc
  obtain ⟨l,cs',rfl,f1,f2⟩:=fin _ ps hps he
  refine ⟨.agg cs',run_build w t _ cs' ?_,_,rfl,f2⟩
  unfold zck at hm
  cases hie:P.info? e with
  | none=>rw [hie] at hm;cases hm
  | some ie =>
   rw [hie] at hm;simp at hm
   simp only [Program.built,hit,hu,hzv,hie,hm]
   exact f1
 ·cases hc
theorem zhl (H:zd4 slots ds loc vals ι ρ):∀ {xs:List Operand} {ys:List X},cXs slots ds xs=some ys→All2 (fun y x=>AR ι (y.eval loc vals) (ρ x)) ys xs
 | [],ys,h=>by simp [cXs] at h;subst h;trivial
 | x :: r,ys,h=>by
  unfold cXs at h
  split at h
  ·rename_i y hy
   split at h
   ·rename_i t ht
    simp at h;subst h
    exact ⟨H _ _ hy,zhl H ht⟩
   ·cases h
  ·cases h
theorem zj2 (f:Int→Int→Int) (g:Value→Value→Sem Value) (hg:∀ k a b,g (.int k a) (.int k b)=pure (.int k (f a b))) :
  ∀ (ys:List X) (xs:List Operand) (k:IntKind) (a:Int) (r:AV),All2 (fun y x=>AR ι (y.eval loc vals) (ρ x)) ys xs→zdg loc vals f (.c (.int k a)) ys=some r →
   ∃ v,((xs.map ρ).foldlM g (.int k a)).run P w = .ok v w∧AR ι r v
 | [],[],k,a,r,_,he=>by simp [zdg] at he;subst he;exact ⟨_,rfl,rfl⟩
 | y :: ys,x :: xs,k,a,r,⟨h1,h2⟩,he=>by
  simp only [zdg] at he
  split at he
  ·rename_i k' b hb
   have h1:AR ι (y.eval loc vals) (ρ x):=h1
   rw [hb] at h1
   cases hk:k == k' with
   | false=>rw [hk] at he;cases he
   | true =>
    rw [hk] at he;simp only [cond_true] at he
    simp at hk;subst hk
    simp only [AR,CR] at h1
    obtain ⟨v,hv,hr⟩:=zj2 f g hg ys xs k (f a b) r h2 he
    refine ⟨v,?_,hr⟩
    simp only [List.map_cons,List.foldlM_cons,h1,hg,pure_bind,hv]
  ·cases he
 | [],_ :: _,_,_,_,h,_=>h.elim
 | _ :: _,[],_,_,_,h,_=>h.elim
theorem zm6:∀ {xs:List Operand} {ys:List X} {l:List (Nat × Nat)},All2 (fun y x=>AR ι (y.eval loc vals) (ρ x)) ys xs→zed loc vals ys=some l→All2 (capVal ι) l (xs.map ρ)
 | [],[],l,_,h=>by simp [zed] at h;subst h;trivial
 | x :: xs,y :: ys,l,⟨h1,h2⟩,h=>by
  simp only [zed] at h
  split at h
  ·rename_i i o hy
   split at h
   ·rename_i t ht
    simp at h;subst h
    have h1:AR ι (y.eval loc vals) (ρ x):=h1
    rw [hy] at h1
    exact ⟨h1,zm6 h2 ht⟩
   ·cases h
  ·cases h
 | [],_ :: _,_,h,_=>h.elim
 | _ :: _,[],_,h,_=>h.elim
end ops
end Lav
namespace Lav
open Go
section ops
variable {P:Program} {slots:List Nat} {ds:List (Option Nat)} {loc vals:List AV} {ρ:Operand→Value} {ι:Inj} {B:Nat} {h:Heap} {w:World}
theorem zcc {s:Sem Value} {v:Value} {w':World} (hs:s.run P w = .ok v w'):(do pure (Next.value (← s)):Sem Next).run P w = .ok (.value v) w':=by simp [hs]
theorem zrj {parts:Array (Nat × Operand)}:(parts.map fun (i,x)=>(i,ρ x))=(parts.toList.map fun (i,x)=>(i,ρ x)).toArray:=by
 apply Array.toList_inj.1;simp
theorem zm7:∀ (ns:List Int),(∀ n∈ns,0≤n∧n < 256)→∀ s:ByteArray,
  (ns.foldl (fun r n=>r.push (UInt8.ofNat n.toNat)) s).data.toList.map UInt8.toNat=s.data.toList.map UInt8.toNat++ns.map Int.toNat
 | [],_,s=>by simp
 | n :: ns,h,s=>by
  rw [List.foldl_cons,zm7 ns (fun m hm=>h m (by simp [hm]))]
  obtain ⟨h1,h2⟩:=h n (by simp)
  have:n.toNat % 256=n.toNat:=Nat.mod_eq_of_lt (by omega)
  simp [ByteArray.push,this]
theorem zv2 (H:zd4 slots ds loc vals ι ρ) {op:BinOp} {t:TypeId} {x y:Operand} {iop:IOp} {r:AV} (hc:zpj P slots ds op t x y=some iop) (he:zao loc vals h iop=some r) :
  ∃ v,(do eqGuard op t x y (ρ x) (ρ y);binOp op t (ρ x) (ρ y):Sem Value).run P w = .ok v w∧AR ι r v:=by
 unfold zpj at hc
 obtain ⟨a,ha,hc⟩:=zan hc
 obtain ⟨b,hb,hc⟩:=zan hc
 have hx:=H _ _ ha
 have hy:=H _ _ hb
 have plain:∀ o:BinOp,zao loc vals h (.bin o a b)=some r→op=o →
   ∃ v,(do eqGuard op t x y (ρ x) (ρ y);binOp op t (ρ x) (ρ y):Sem Value).run P w = .ok v w∧AR ι r v:=by
  intro o he e
  subst e
  simp only [zao] at he
  split at he
  ·rename_i p q h1 h2
   rw [h1] at hx;rw [h2] at hy
   split at he
   ·rename_i c hcv
    simp only [Option.some.injEq] at he;subst he
    obtain ⟨v,hv,hr⟩:=zqy (P:=P) (w:=w) (t:=t) hcv hx hy
    refine ⟨v,?_,hr⟩
    have hg:=zpo (P:=P) (w:=w) (t:=t) (a:=x) (b:=y) (v:=ρ y) hcv hx
    simp only [Sem.run_bind,hg,Result.andThen_ok,hv]
   ·cases he
  ·cases he
 have eqs:∀ (k:EqK) (neg:Bool),zjk P t=some k→((op = .eql∧neg=false)∨(op = .neq∧neg=true))→zao loc vals h (.eq k neg a b)=some r →
   ∃ v,(do eqGuard op t x y (ρ x) (ρ y);binOp op t (ρ x) (ρ y):Sem Value).run P w = .ok v w∧AR ι r v:=by
  intro k neg hk ho he
  simp only [zao] at he
  split at he
  ·rename_i q hq
   simp only [Option.some.injEq] at he;subst he
   obtain ⟨h1,h2⟩:=zyn (P:=P) (w:=w) (x:=x) (y:=y) ho hk hq hx hy
   exact ⟨_,by simp only [Sem.run_bind,h1,Result.andThen_ok,h2],rfl⟩
  ·cases he
 split at hc
 ·obtain ⟨k,hk,hc⟩:=zan hc
  split at hc
  ·simp only [Option.some.injEq] at hc;subst hc;exact plain _ he rfl
  ·simp only [Option.some.injEq] at hc;subst hc;exact eqs _ _ hk (.inl ⟨rfl,rfl⟩) he
 ·obtain ⟨k,hk,hc⟩:=zan hc
  split at hc
  ·simp only [Option.some.injEq] at hc;subst hc;exact plain _ he rfl
  ·simp only [Option.some.injEq] at hc;subst hc;exact eqs _ _ hk (.inr ⟨rfl,rfl⟩) he
 ·simp only [Option.some.injEq] at hc;subst hc;exact plain _ he rfl
theorem zud (H:zd4 slots ds loc vals ι ρ) (hr:HR B ι h.get w) {src dst:TypeId} {x:Operand} {iop:IOp} {r:AV} (hc:zm1 P slots ds src dst x=some iop) (hk:iop.kd = .pure)
  (he:zao loc vals h iop=some r):∃ v,(convert src dst (ρ x)).run P w = .ok v w∧AR ι r v:=by
 unfold zm1 at hc
 obtain ⟨a,ha,hc⟩:=zan hc
 have hx:=H _ _ ha
 split at hc
 ·rename_i k0 k h1 h2
  simp only [Option.some.injEq] at hc;subst hc
  simp only [zao] at he
  split at he
  ·rename_i k1 n hn
   rw [hn] at hx;simp only [AR,CR] at hx
   simp only [Option.some.injEq,zgl] at he;subst he
   refine ⟨.int k (k.wrap n),?_,rfl⟩
   rw [hx]
   simp only [convert,Sem.run_bind,run_underlying h1,run_underlying h2,Result.andThen_ok]
   rfl
  ·rename_i u m r hn
   rw [hn] at hx
   split at he
   ·cases hz:Nat.beq m 0 with
    | true=>rw [hz] at he;cases he
    | false =>
    rw [hz] at he
    simp only [cond_false,Option.some.injEq] at he;subst he
    have hne:m≠0:=fun e=>by subst e;cases hz
    obtain ⟨h0,_⟩ | ⟨n,hv,hm⟩:=hx
    ·exact absurd h0 hne
    refine ⟨.int .u64 (IntKind.u64.wrap n),?_,IntKind.u64.wrap n,rfl,?_,hm⟩
    ·rw [hv]
     simp only [convert,Sem.run_bind,run_underlying h1,run_underlying h2,Result.andThen_ok]
     rfl
    ·simp only [IntKind.wrap,IntKind.bits,IntKind.signed];simp;omega
   ·cases he
  ·cases he
 ·rename_i e0 e h1 h2
  cases hb:(src == dst && zga P e) with
  | false=>rw [hb] at hc;cases hc
  | true=>rw [hb] at hc;simp only [cond_true,Option.some.injEq] at hc;subst hc;simp [IOp.kd] at hk
 ·rename_i e h1 h2
  cases hb:zga P e with
  | false=>rw [hb] at hc;cases hc
  | true =>
   rw [hb] at hc;simp only [cond_true,Option.some.injEq] at hc;subst hc
   have hu8:P.underlying e=some (.int .u8):=by
    unfold zga at hb
    split at hb
    ·assumption
    ·cases hb
   simp only [zao] at he
   have conv:∀ v,(∀ s,v≠.string s)→(∀ k n,v≠.int k n)→(convert src dst v).run P w=(Conv.bytesToString v).run P w:=by
    intro v hs hi
    simp only [convert,Sem.run_bind,run_underlying h1,run_underlying h2,Result.andThen_ok]
    cases v<;>first | exact absurd rfl (hs _) | exact absurd rfl (hi _ _) | (simp [run_underlying hu8])
   split at he
   ·rename_i hq
    rw [hq] at hx;simp only [AR,CR] at hx
    simp only [Option.some.injEq] at he;subst he
    refine ⟨.string .empty,?_,.empty,rfl,rfl⟩
    rw [hx,conv _ (by intro s;simp) (by intro k n;simp)]
    rfl
   ·rename_i i o len c hq
    rw [hq] at hx
    obtain ⟨b,base,lim,ad,cap,hi,hv,hlc,had,hcap⟩:=hx
    split at he
    ·rename_i l hl
     split at he
     ·rename_i q hq'
      simp only [Option.some.injEq] at he;subst he
      obtain ⟨b',base',lim',vs,hi',h2',hlen,hll,hcell,hrun⟩:=hr.loads hl
      rw [hi] at hi';simp only [Option.some.injEq,Prod.mk.injEq] at hi'
      obtain ⟨rfl,rfl,rfl⟩:=hi'
      obtain ⟨ns,rfl,hns,hmap⟩:=zkw hq' h2'
      have hlen':ns.length=len:=by simpa using hlen
      by_cases h0:cap=0
      ·have:len=0:=by omega
       subst this
       have hns0:ns=[]:=List.eq_nil_of_length_eq_zero hlen'
       subst hns0
       simp at hmap;subst hmap
       refine ⟨.string .empty,?_,.empty,rfl,rfl⟩
       rw [hv,conv _ (by intro s;simp) (by intro k n;simp)]
       simp [Conv.bytesToString,loadCells,loadCellsFrom]
      ·rw [hv,had h0,conv _ (by intro s;simp) (by intro k n;simp)]
       have hb:=run_bytesToString (P:=P) w ⟨b,base + o,none⟩ len cap ns (hrun P)
       refine ⟨_,hb,_,rfl,?_⟩
       rw [← hmap]
       have:=zm7 ns hns ByteArray.empty
       rw [this];rfl
     ·cases he
    ·split at he
     ·simp only [Option.some.injEq] at he;subst he
      refine ⟨.string .empty,?_,.empty,rfl,rfl⟩
      rw [hv,conv _ (by intro s;simp) (by intro k n;simp)]
      simp [Conv.bytesToString,loadCells,loadCellsFrom]
     ·cases he
   ·cases he
 ·cases hb:zga P _ with
  | false=>rw [hb] at hc;cases hc
  | true=>rw [hb] at hc;simp only [cond_true,Option.some.injEq] at hc;subst hc;simp [IOp.kd] at hk
 ·cases hc
def zx3 (P:Program) (t:TypeId):LenK→Prop
 | .str=>P.underlying t=some .string
 | .sl=>∃ e,P.underlying t=some (.slice e)
 | .ch=>∃ d e,P.underlying t=some (.chan d e)
theorem zv3 (H:zd4 slots ds loc vals ι ρ) (hr:HR B ι h.get w) {ats:Array TypeId} {t ty:TypeId} {x:Operand} {a:X} {r:AV} {k:LenK} (hat:ats[0]? = some t) (ha:cX slots ds x=some a)
  (ht:zx3 P t k) (he:zao loc vals h (.len k a)=some r) :
  ∃ v,(Builtin.len_ ats ty #[ρ x]).run P w = .ok v w∧AR ι r v:=by
 have hx:=H _ _ ha
 simp only [zao] at he
 split at he
 ·rename_i s hs
  rw [hs] at hx;obtain ⟨bs,hv,hbs⟩:=hx
  simp only [Option.some.injEq] at he;subst he
  refine ⟨goInt bs.size,?_,by rw [← zgj hbs];rfl⟩
  rw [hv]
  simp [Builtin.len_,hat,run_underlying (show P.underlying t=_ from ht)]
 ·rename_i hs
  rw [hs] at hx;simp only [AR,CR] at hx
  obtain ⟨e,ht⟩:=ht
  simp only [Option.some.injEq] at he;subst he
  refine ⟨goInt (0:Nat),?_,rfl⟩
  rw [hx]
  simp [Builtin.len_,hat,run_underlying (show P.underlying t=_ from ht)]
 ·rename_i i o n c hs
  rw [hs] at hx;obtain ⟨b,base,lim,ad,cap,hi,hv,_⟩:=hx
  obtain ⟨e,ht⟩:=ht
  simp only [Option.some.injEq] at he;subst he
  refine ⟨goInt n,?_,rfl⟩
  rw [hv]
  simp [Builtin.len_,hat,run_underlying (show P.underlying t=_ from ht)]
 ·rename_i hs
  rw [hs] at hx;simp only [AR,CR] at hx
  obtain ⟨d,e,ht⟩:=ht
  simp only [Option.some.injEq] at he;subst he
  refine ⟨goInt (0:Nat),?_,rfl⟩
  rw [hx]
  simp [Builtin.len_,hat,run_underlying (show P.underlying t=_ from ht)]
 ·rename_i i hs
  rw [hs] at hx;obtain ⟨b,base,lim,hi,hv⟩:=hx
  obtain ⟨d,e,ht⟩:=ht
  split at he
  ·rename_i cap buf hg
   simp only [Option.some.injEq] at he;subst he
   obtain ⟨b',base',lim',hi',hB,vs,s,r,hb,hbuf⟩:=hr.at_ _ _ hg
   rw [hi] at hi';simp only [Option.some.injEq,Prod.mk.injEq] at hi'
   obtain ⟨rfl,rfl,rfl⟩:=hi'
   refine ⟨goInt vs.size,?_,?_⟩
   ·rw [hv]
    have hgo:(getObj b).run P w = .ok (.chan cap vs false s r false) w:=by simp [getObj,Sem.run,hb]
    simp [Builtin.len_,hat,run_underlying ht,hgo]
   ·have:=hbuf.length
    simp at this
    rw [this];rfl
  ·cases he
 ·cases he
theorem zpr (H:zd4 slots ds loc vals ι ρ) (hr:HR B ι h.get w) {b:Builtin} {ats:Array TypeId} {ty:TypeId} {args:Array Operand} {iop:IOp} {r:AV} {cs:Array Bool}
  (hc:zik P slots ds b ats.toList args.toList=some iop) (hk:iop.kd = .pure) (he:zao loc vals h iop=some r) :
  ∃ v,(builtin b ats ty cs (args.map ρ)).run P w = .ok (.value v) w∧AR ι r v:=by
 unfold zik at hc
 split at hc
 ·rename_i t x h1 h2
  have e1:args.map ρ = #[ρ x]:=by apply Array.toList_inj.1;simp [h2]
  have e2:ats[0]? = some t:=by rw [← Array.getElem?_toList,h1];rfl
  obtain ⟨a,ha,hc⟩:=zan hc
  have fin:∀ (k:LenK),zx3 P t k →
    zao loc vals h (.len k a)=some r→∃ v,(builtin .len ats ty cs (args.map ρ)).run P w = .ok (.value v) w∧AR ι r v:=by
   intro k hk he
   obtain ⟨v,hv,hr'⟩:=zv3 (ty:=ty) H hr e2 ha hk he
   exact ⟨v,by rw [e1];simp [builtin,hv],hr'⟩
  have cst:∀ n:Nat,(Builtin.len_ ats ty #[ρ x]).run P w = .ok (goInt n) w→zao loc vals h (.mov (.k (.c (.int .i64 (Int.ofNat n)))))=some r →
    ∃ v,(builtin .len ats ty cs (args.map ρ)).run P w = .ok (.value v) w∧AR ι r v:=by
   intro n hn he
   simp only [zao,X.eval,Option.some.injEq] at he;subst he
   exact ⟨goInt n,by rw [e1];simp [builtin,hn],rfl⟩
  split at hc
  ·rename_i hu;simp only [Option.some.injEq] at hc;subst hc;exact fin .str hu he
  ·rename_i e hu;simp only [Option.some.injEq] at hc;subst hc;exact fin .sl ⟨e,hu⟩ he
  ·rename_i d e hu;simp only [Option.some.injEq] at hc;subst hc;exact fin .ch ⟨d,e,hu⟩ he
  ·rename_i n e hu
   simp only [Option.some.injEq] at hc;subst hc
   exact cst n (by simp [Builtin.len_,e2,run_underlying hu]) he
  ·rename_i e hu
   split at hc
   ·rename_i n e' hu'
    simp only [Option.some.injEq] at hc;subst hc
    exact cst n (by simp [Builtin.len_,e2,run_underlying hu,run_underlying hu']) he
   ·cases hc
  ·cases hc
 ·rename_i xs
  obtain ⟨as,ha,hc⟩:=zan hc
  simp only [Option.some.injEq] at hc;subst hc
  have hxs:=zhl H ha
  simp only [zao] at he
  split at he
  ·rename_i y ys
   cases hargs:args.toList with
   | nil=>rw [hargs] at hxs;exact hxs.elim
   | cons x xs =>
    rw [hargs] at hxs
    obtain ⟨h1,h2⟩:=hxs
    have h1:AR ι (y.eval loc vals) (ρ x):=h1
    split at he
    ·rename_i k n hn
     rw [hn] at h1;simp only [AR,CR] at h1
     obtain ⟨v,hv,hr'⟩:=zj2 (P:=P) (w:=w) _ Builtin.max2 (fun k a b=>rfl) ys xs k n r h2 he
     refine ⟨v,?_,hr'⟩
     have:(args.map ρ).toList = .int k n :: xs.map ρ:=by rw [Array.toList_map,hargs,List.map_cons,h1]
     simp only [builtin,Builtin.max_,this,Sem.run_bind,hv,Result.andThen_ok,Sem.run_pure]
    ·cases he
  ·cases he
 ·rename_i xs
  obtain ⟨as,ha,hc⟩:=zan hc
  simp only [Option.some.injEq] at hc;subst hc
  have hxs:=zhl H ha
  simp only [zao] at he
  split at he
  ·rename_i y ys
   cases hargs:args.toList with
   | nil=>rw [hargs] at hxs;exact hxs.elim
   | cons x xs =>
    rw [hargs] at hxs
    obtain ⟨h1,h2⟩:=hxs
    have h1:AR ι (y.eval loc vals) (ρ x):=h1
    split at he
    ·rename_i k n hn
     rw [hn] at h1;simp only [AR,CR] at h1
     obtain ⟨v,hv,hr'⟩:=zj2 (P:=P) (w:=w) _ Builtin.min2 (fun k a b=>rfl) ys xs k n r h2 he
     refine ⟨v,?_,hr'⟩
     have:(args.map ρ).toList = .int k n :: xs.map ρ:=by rw [Array.toList_map,hargs,List.map_cons,h1]
     simp only [builtin,Builtin.min_,this,Sem.run_bind,hv,Result.andThen_ok,Sem.run_pure]
    ·cases he
  ·cases he
 ·obtain ⟨e,he',hc⟩:=zan hc
  obtain ⟨a,ha,hc⟩:=zan hc
  obtain ⟨b,hb,hc⟩:=zan hc
  cases hs:zek P e.1 _ with
  | false =>
   rw [hs] at hc
   obtain ⟨z,hz,hc⟩:=zan hc
   simp only [Option.some.injEq] at hc;subst hc;simp [IOp.kd] at hk
  | true=>rw [hs] at hc;simp only [cond_true,Option.some.injEq] at hc;subst hc;simp [IOp.kd] at hk
 ·obtain ⟨e,he',hc⟩:=zan hc
  obtain ⟨a,ha,hc⟩:=zan hc
  obtain ⟨b,hb,hc⟩:=zan hc
  cases hs:zek P e.1 _ with
  | false=>rw [hs] at hc;cases hc
  | true=>rw [hs] at hc;simp only [cond_true,Option.some.injEq] at hc;subst hc;simp [IOp.kd] at hk
 ·rename_i t x h1 h2
  have e1:args.map ρ = #[ρ x]:=by apply Array.toList_inj.1;simp [h2]
  have e2:ats[0]? = some t:=by rw [← Array.getElem?_toList,h1];rfl
  obtain ⟨a,ha,hc⟩:=zan hc
  split at hc
  ·rename_i e hu
   simp only [Option.some.injEq] at hc;subst hc
   have hx:=H _ _ ha
   simp only [zao] at he
   split at he
   ·rename_i hs
    rw [hs] at hx;simp only [AR,CR] at hx
    simp only [Option.some.injEq] at he;subst he
    refine ⟨goInt (0:Nat),?_,rfl⟩
    rw [e1,hx]
    simp [builtin,Builtin.cap_,e2,run_underlying hu]
   ·rename_i i o n k hs
    rw [hs] at hx;obtain ⟨b,base,lim,ad,cap,hi,hv,_,_,hcap⟩:=hx
    simp only [Option.some.injEq] at he;subst he
    have hcap:cap=k:=hcap
    refine ⟨goInt k,?_,rfl⟩
    rw [e1,hv]
    simp [builtin,Builtin.cap_,e2,run_underlying hu,hcap]
   ·cases he
  ·cases hc
 ·obtain ⟨z,hz,hc⟩:=zan hc
  obtain ⟨a,ha,hc⟩:=zan hc
  obtain ⟨b,hb,hc⟩:=zan hc
  simp only [Option.some.injEq] at hc;subst hc;simp [IOp.kd] at hk
 ·obtain ⟨z,hz,hc⟩:=zan hc
  obtain ⟨a,ha,hc⟩:=zan hc
  simp only [Option.some.injEq] at hc;subst hc;simp [IOp.kd] at hk
 ·cases hc
theorem zhm {t:TypeId} {z:CV} (h:mapOf P t=some z):∃ k e,P.underlying t=some (.map k e)∧P.underlying k=some (.int .i64)∧zh3 P e=some (.c z):=by
 unfold mapOf at h
 split at h
 ·rename_i k e hu
  split at h
  ·rename_i z' h1 h2 h3
   simp only [Option.some.injEq] at h;subst h
   exact ⟨k,e,hu,h1,h3⟩
  ·cases h
 ·cases h
theorem run_checkKey {k:TypeId} {q:IntKind} (hk:P.underlying k=some (.int q)) (b:Bool) (v:Value) (w:World):(Instr.checkKey b 10000 k v).run P w = .ok () w:=by
 show (Instr.checkKey b (9999 + 1) k v).run P w = .ok () w
 unfold Instr.checkKey
 simp only [Sem.run_bind,run_underlying hk,Result.andThen_ok,Sem.run_pure]
theorem zgw {ι:Inj} (n:Int):∀ {es:List Ent} {ms:List MapEntry} (i:Nat),All2 (MR ι) es ms →
  (ze4 es n=none∧Instr.findNow (.int .i64) (.int .i64 n) ms i=some none∧(∀ p∈es,p.1≠n)∧(∀ c x,ze9 es c n x=es++[(n,c,x)])∧zht es n=es) ∨
  ∃ j e b x,ze4 es n=some (b,x)∧ms[j]? = some e∧es[j]? = some (n,b,x)∧Instr.findNow (.int .i64) (.int .i64 n) ms i=some (some (i + j,e.val))∧(∀ c y,ze9 es c n y=es.set j (n,b,y))∧zht es n=es.eraseIdx j
 | [],[],i,_=>.inl ⟨rfl,rfl,by simp,fun _ _=>rfl,rfl⟩
 | (a,b,v) :: es,e :: ms,i,⟨⟨h1,h2⟩,h3⟩=>by
  by_cases hn:a=n
  ·subst hn
   refine .inr ⟨0,e,b,v,by simp [ze4],rfl,rfl,?_,fun c y=>by simp [ze9],by simp [zht]⟩
   simp [Instr.findNow,h1,Instr.sameNow]
  ·have hb:(a == n)=false:=by simpa using hn
   have hs:Instr.findNow (.int .i64) (.int .i64 n) (e :: ms) i=Instr.findNow (.int .i64) (.int .i64 n) ms (i + 1):=by
    have:(n == a)=false:=by simpa using fun h=>hn h.symm
    have hk:Instr.sameNow (.int .i64) (.int .i64 n) e.key=some false:=by rw [h1];simp [Instr.sameNow,this]
    rw [Instr.findNow,hk]
   rcases zgw n (i + 1) h3 with ⟨q1,q2,q3,q4,q5⟩ | ⟨j,e',b',x,q1,q2,q3,q4,q5,q6⟩
   ·refine .inl ⟨by simp only [ze4,hb,cond_false,q1],hs.trans q2,?_,fun c x=>by simp only [ze9,hb,cond_false,q4,List.cons_append],by simp only [zht,hb,cond_false,q5]⟩
    intro p hp
    rcases List.mem_cons.1 hp with rfl | hp
    ·exact hn
    ·exact q3 p hp
   ·refine .inr ⟨j + 1,e',b',x,by simp only [ze4,hb,cond_false,q1],by simpa using q2,by simpa using q3,?_,fun c y=>by simp only [ze9,hb,cond_false,q5,List.set_cons_succ],by simp only [zht,hb,cond_false,q6,List.eraseIdx_cons_succ]⟩
    rw [hs,q4]
    congr 3
    omega
 | [],_ :: _,_,h=>h.elim
 | _ :: _,[],_,h=>h.elim
theorem run_findKey {k:TypeId} (hk:P.underlying k=some (.int .i64)) {n:Int} {ms:List MapEntry} {r:Option (Nat × Value)} (h:Instr.findNow (.int .i64) (.int .i64 n) ms 0=some r) (w:World):(Instr.findKey k (.int .i64 n) ms).run P w = .ok r w:=by
 unfold Instr.findKey
 simp only [Sem.run_bind,run_underlying hk,Result.andThen_ok,h,Sem.run_pure]
theorem zlm {ι:Inj} {x:AV} {v:Value} {n:Int} (h:asKey x=some n) (hr:AR ι x v):v = .int .i64 n:=by
 unfold asKey at h
 split at h
 ·simp only [Option.some.injEq] at h;subst h;exact hr
 ·cases h
theorem zsa (hr:HR B ι h.get w) {x:AV} {v:Value} {es:List Ent} (he:h.ents x=some es) (ha:AR ι x v) :
  (v = .map none∧es=[])∨∃ b ms clock,v = .map (some b)∧w.heap[b]? = some (.map ms clock)∧All2 (MR ι) es ms.toList:=by
 unfold Heap.ents at he
 split at he
 ·simp only [Option.some.injEq] at he;exact .inl ⟨ha,he.symm⟩
 ·rename_i i
  obtain ⟨b,base,lim,hi,hv⟩:=ha
  split at he
  ·rename_i clock es' hg
   simp only [Option.some.injEq] at he;subst he
   obtain ⟨b',base',lim',hi',hB,ms,hb,hms,_⟩:=hr.at_ _ _ hg
   rw [hi] at hi';simp only [Option.some.injEq,Prod.mk.injEq] at hi'
   obtain ⟨rfl,rfl,rfl⟩:=hi'
   exact .inr ⟨b,ms,clock,hv,hb,hms⟩
  ·cases he
 ·cases he
theorem zq2 (hr:HR B ι h.get w) {t:TypeId} {z:CV} (ht:mapOf P t=some z) {m k:AV} {vm vk:Value} (hm:AR ι m vm) (hk:AR ι k vk) {es:List Ent} {n:Int} (he:h.ents m=some es) (hn:asKey k=some n) (ok:Bool) :
  ∃ v,(Instr.lookup t vm vk ok).run P w = .ok v w∧AR ι (zvv z ok (ze4 es n)) v:=by
 obtain ⟨kt,e,hu,hku,hz⟩:=zhm ht
 obtain ⟨it,zv,hit,hzv,hza⟩:=zgn hz
 have hzero:(zeroValue e).run P w = .ok zv w:=by simp [zeroValue,typeInfo,hit,hzv]
 have hzr:CR ι z zv:=zfb hza
 have hvk:=zlm hn hk
 subst hvk
 have fin:∀ (u:CV) (v:Value) (b:Bool) (r:Option (Nat × CV)),CR ι u v→(r=none∧u=z∧b=false∨∃ c,r=some (c,u)∧b=true)→AR ι (zvv z ok r) (if ok then .tuple #[v,.bool b] else v):=by
  rintro u v b r h1 (⟨rfl,rfl,rfl⟩ | ⟨c,rfl,rfl⟩)
  ·cases ok with
   | true=>exact ⟨_,rfl,h1,rfl,trivial⟩
   | false=>exact h1
  ·cases ok with
   | true=>exact ⟨_,rfl,h1,rfl,trivial⟩
   | false=>exact h1
 rcases zsa hr he hm with ⟨rfl,rfl⟩ | ⟨b,ms,clock,rfl,hb,hms⟩
 ·refine ⟨_,?_,fin z zv false none hzr (.inl ⟨rfl,rfl,rfl⟩)⟩
  have hf:=run_findKey (P:=P) hku (n:=n) (ms:=[]) (r:=none) rfl w
  simp only [Instr.lookup,Sem.run_bind,run_underlying hu,Result.andThen_ok,Sem.run_pure,run_checkKey hku,hf,hzero]
 ·have hgo:(getObj b).run P w = .ok (.map ms clock) w:=by simp [getObj,Sem.run,hb]
  rcases zgw n 0 hms with ⟨q1,q2,_⟩ | ⟨j,e',c,x,q1,q2,q3,q4,_⟩
  ·refine ⟨_,?_,fin z zv false _ hzr (.inl ⟨q1,rfl,rfl⟩)⟩
   have hf:=run_findKey (P:=P) hku q2 w
   simp only [Instr.lookup,Sem.run_bind,run_underlying hu,Result.andThen_ok,hgo,Sem.run_pure,run_checkKey hku,hf,hzero]
  ·obtain ⟨e2,q5,_,_,q6⟩:=hms.get j _ q3
   rw [q2] at q5;simp only [Option.some.injEq] at q5;subst q5
   refine ⟨_,?_,fin x e'.val true _ q6 (.inr ⟨c,q1,rfl⟩)⟩
   have hf:=run_findKey (P:=P) hku q4 w
   simp only [Instr.lookup,Sem.run_bind,run_underlying hu,Result.andThen_ok,hgo,Sem.run_pure,run_checkKey hku,hf]
theorem zm8 (H:zd4 slots ds loc vals ι ρ) (hr:HR B ι h.get w) {o:Oper} {iop:IOp} {r:AV} (hc:cOp? P slots ds o.op=some iop) (hk:iop.kd = .pure) (he:zao loc vals h iop=some r) :
  ∃ v,(execOp ρ o).run P w = .ok (.value v) w∧AR ι r v:=by
 obtain ⟨dst,op,ty,pos,after,guard⟩:=o
 cases op<;>simp only [cOp?] at hc
 case move x =>
  obtain ⟨a,ha,hc⟩:=zan hc
  simp only [Option.some.injEq] at hc;subst hc
  simp only [zao,Option.some.injEq] at he;subst he
  exact ⟨ρ x,rfl,H _ _ ha⟩
 case assign x =>
  obtain ⟨a,ha,hc⟩:=zan hc
  simp only [Option.some.injEq] at hc;subst hc
  simp only [zao,Option.some.injEq] at he;subst he
  exact ⟨ρ x,rfl,H _ _ ha⟩
 case pick c x y =>
  obtain ⟨c',hc',hc⟩:=zan hc
  obtain ⟨a,ha,hc⟩:=zan hc
  obtain ⟨b,hb,hc⟩:=zan hc
  simp only [Option.some.injEq] at hc;subst hc
  simp only [zao] at he
  split at he
  ·rename_i t ht
   have hcc:=H _ _ hc'
   rw [ht] at hcc;simp only [AR,CR] at hcc
   simp only [Option.some.injEq] at he;subst he
   cases t with
   | true=>exact ⟨ρ x,by simp [execOp,hcc,asBool],H _ _ ha⟩
   | false=>exact ⟨ρ y,by simp [execOp,hcc,asBool],H _ _ hb⟩
  ·cases he
 case alloc t =>
  obtain ⟨z,hz,hc⟩:=zan hc
  simp only [Option.some.injEq] at hc;subst hc;simp [IOp.kd] at hk
 case box t x =>
  obtain ⟨z,hz,hc⟩:=zan hc
  simp only [Option.some.injEq] at hc;subst hc;simp [IOp.kd] at hk
 case build t parts =>
  obtain ⟨v,hv,hr'⟩:=zq1 (P:=P) (w:=w) H hc (by unfold zjl at hc;exact he)
  refine ⟨v,?_,hr'⟩
  have:=zcc (P:=P) hv
  simp only [execOp,zrj];exact this
 case buildSlice t len parts =>
  unfold zgd at hc
  split at hc
  ·obtain ⟨z,hz,hc⟩:=zan hc
   obtain ⟨n,hn,hc⟩:=zan hc
   cases hb:(z.length == n && Nat.ble (len * n) 16777216) with
   | false=>rw [hb] at hc;cases hc
   | true =>
    rw [hb] at hc;simp only [cond_true] at hc
    obtain ⟨ps,hps,hc⟩:=zan hc
    simp only [Option.some.injEq] at hc;subst hc;simp [IOp.kd] at hk
  ·cases hc
 case load t x =>
  obtain ⟨a,ha,hc⟩:=zan hc
  obtain ⟨n,hn,hc⟩:=zan hc
  obtain ⟨g,hg,hc⟩:=zan hc
  cases hb:(g || n == 1) with
  | false=>rw [hb] at hc;cases hc
  | true =>
   rw [hb] at hc;simp only [cond_true,Option.some.injEq] at hc;subst hc
   have hx:=H _ _ ha
   simp only [zao] at he
   split at he
   ·rename_i i o ho
    rw [ho] at hx
    split at he
    ·rename_i l hl
     obtain ⟨u,hu,hr'⟩:=zm5 (P:=P) hr hn hg hx hl he
     exact ⟨u,zcc hu,hr'⟩
    ·cases he
   ·cases he
 case store t x v =>
  obtain ⟨a,ha,hc⟩:=zan hc
  obtain ⟨b,hb,hc⟩:=zan hc
  obtain ⟨n,hn,hc⟩:=zan hc
  simp only [Option.some.injEq] at hc;subst hc;simp [IOp.kd] at hk
 case nilCheck x =>
  obtain ⟨a,ha,hc⟩:=zan hc
  simp only [Option.some.injEq] at hc;subst hc
  have hx:=H _ _ ha
  simp only [zao] at he
  split at he
  ·rename_i i o ho
   rw [ho] at hx
   simp only [Option.some.injEq] at he;subst he
   obtain ⟨b,base,lim,hi,hv⟩:=hx
   exact ⟨ρ x,by simp only [execOp,hv];rfl,b,base,lim,hi,hv⟩
  ·rename_i f l hf
   rw [hf] at hx
   simp only [Option.some.injEq] at he;subst he
   obtain ⟨vs,hv,hl⟩:=hx
   exact ⟨ρ x,by simp only [execOp,hv];rfl,vs,hv,hl⟩
  ·cases he
 case binOp op t x y yt =>
  obtain ⟨v,hv,hr'⟩:=zv2 (P:=P) (w:=w) H hc he
  exact ⟨v,zcc hv,hr'⟩
 case unOp op t x =>
  obtain ⟨a,ha,hc⟩:=zan hc
  simp only [Option.some.injEq] at hc;subst hc
  have hx:=H _ _ ha
  simp only [zao] at he
  split at he
  ·rename_i q hq
   rw [hq] at hx
   split at he
   ·rename_i c hcv
    simp only [Option.some.injEq] at he;subst he
    obtain ⟨u,hu,hr'⟩:=zr4 (P:=P) (w:=w) hcv hx
    exact ⟨u,zcc hu,hr'⟩
   ·cases he
  ·cases he
 case convert src dst x =>
  obtain ⟨v,hv,hr'⟩:=zud (P:=P) H hr hc hk he
  exact ⟨v,zcc hv,hr'⟩
 case makeFunc fn first caps =>
  cases fn<;>simp only [reduceCtorEq] at hc
  case func f =>
   cases hb:first.size == 0 with
   | false=>rw [hb] at hc;cases hc
   | true =>
    rw [hb] at hc;simp only [cond_true] at hc
    simp at hb;subst hb
    obtain ⟨cs,hcs,hc⟩:=zan hc
    simp only [Option.some.injEq] at hc;subst hc
    simp only [zao] at he
    split at he
    ·rename_i l hl
     simp only [Option.some.injEq] at he;subst he
     have:=zm6 (zhl H hcs) hl
     exact ⟨.func (.func f) #[] (caps.map ρ),by simp [execOp,Instr.makeFunc],caps.map ρ,rfl,by simpa using this⟩
    ·cases he
 case makeSlice t l c =>
  unfold zh5 at hc
  split at hc
  ·obtain ⟨z,hz,hc⟩:=zan hc
   obtain ⟨n,hn,hc⟩:=zan hc
   obtain ⟨m,hm,hc⟩:=zan hc
   obtain ⟨x,hx,hc⟩:=zan hc
   obtain ⟨y,hy,hc⟩:=zan hc
   cases hb:(z.length == n && Nat.ble m 1024) with
   | false=>rw [hb] at hc;cases hc
   | true=>rw [hb] at hc;simp only [cond_true,Option.some.injEq] at hc;subst hc;simp [IOp.kd] at hk
  ·cases hc
 case makeMap t res =>
  cases res with
  | some _=>cases hc
  | none =>
   obtain ⟨z,hz,hc⟩:=zan hc
   simp only [Option.some.injEq] at hc;subst hc;simp [IOp.kd] at hk
 case mapUpdate t m k v =>
  obtain ⟨z,hz,hc⟩:=zan hc
  obtain ⟨x,hx,hc⟩:=zan hc
  obtain ⟨y,hy,hc⟩:=zan hc
  obtain ⟨u,hu,hc⟩:=zan hc
  simp only [Option.some.injEq] at hc;subst hc;simp [IOp.kd] at hk
 case insert t m k v =>
  obtain ⟨z,hz,hc⟩:=zan hc
  obtain ⟨x,hx,hc⟩:=zan hc
  obtain ⟨y,hy,hc⟩:=zan hc
  obtain ⟨u,hu,hc⟩:=zan hc
  simp only [Option.some.injEq] at hc;subst hc;simp [IOp.kd] at hk
 case entryStore t m k v =>
  obtain ⟨z,hz,hc⟩:=zan hc
  obtain ⟨x,hx,hc⟩:=zan hc
  obtain ⟨y,hy,hc⟩:=zan hc
  obtain ⟨u,hu,hc⟩:=zan hc
  simp only [Option.some.injEq] at hc;subst hc;simp [IOp.kd] at hk
 case mapEntry t m k =>
  obtain ⟨z,hz,hc⟩:=zan hc
  obtain ⟨x,hx,hc⟩:=zan hc
  obtain ⟨y,hy,hc⟩:=zan hc
  simp only [Option.some.injEq] at hc;subst hc;simp [IOp.kd] at hk
 case lookup t x i ok =>
  obtain ⟨z,hz,hc⟩:=zan hc
  obtain ⟨a,ha,hc⟩:=zan hc
  obtain ⟨b,hb,hc⟩:=zan hc
  simp only [Option.some.injEq] at hc;subst hc
  simp only [zao] at he
  split at he
  ·rename_i es n h1 h2
   simp only [Option.some.injEq] at he;subst he
   obtain ⟨v,q1,q2⟩:=zq2 (P:=P) hr hz (H _ _ ha) (H _ _ hb) h1 h2 ok
   exact ⟨v,zcc q1,q2⟩
  ·cases he
 case makeChan t n =>
  split at hc
  ·obtain ⟨b,hb,hc⟩:=zan hc
   obtain ⟨x,hx,hc⟩:=zan hc
   cases hb:(Nat.ble b 1024) with
   | false=>rw [hb] at hc;cases hc
   | true=>rw [hb] at hc;simp only [cond_true,Option.some.injEq] at hc;subst hc;simp [IOp.kd] at hk
  ·cases hc
 case slice t x lo hi mx =>
  unfold zm2 at hc
  obtain ⟨a,ha,hc⟩:=zan hc
  obtain ⟨l,hl,hc⟩:=zan hc
  obtain ⟨r',hr'',hc⟩:=zan hc
  obtain ⟨m,hm,hc⟩:=zan hc
  have none_of:m=none→mx=none:=by
   intro e;subst e
   cases mx with
   | none=>rfl
   | some z =>
    unfold cXo at hm
    split at hm
    ·rename_i heq;cases heq
    ·split at hm<;>simp at hm
  split at hc
  ·rename_i hu
   cases m with
   | some _=>cases hc
   | none =>
    simp only [Option.some.injEq] at hc;subst hc
    have:=none_of rfl;subst this
    obtain ⟨v,hv,hr'⟩:=zr7 (P:=P) (w:=w) H hu ha hl hr'' he
    exact ⟨v,zcc hv,hr'⟩
  ·rename_i e hu
   obtain ⟨sz,hsz,hc⟩:=zan hc
   have hmx:mx.isSome→hi.isSome:=by
    intro hs
    cases m with
    | none=>rw [none_of rfl] at hs;cases hs
    | some _ =>
     cases r' with
     | none=>cases hc
     | some _ =>
      cases hi with
      | some _=>rfl
      | none=>simp [cXo] at hr''
   have:some (IOp.slice sz a l r' m)=some iop:=by
    cases m<;>cases r'<;>first | exact hc | cases hc
   simp only [Option.some.injEq] at this;subst this
   obtain ⟨v,hv,hr'⟩:=zqz (P:=P) (w:=w) H hu hsz ha hl hr'' hm hmx he
   exact ⟨v,zcc hv,hr'⟩
  ·rename_i n e hu
   obtain ⟨sz,hsz,hc⟩:=zan hc
   cases m with
   | some _=>cases hc
   | none =>
    simp only [Option.some.injEq] at hc;subst hc
    have:=none_of rfl;subst this
    obtain ⟨v,hv,hr'⟩:=zr6 (P:=P) (w:=w) H hu hsz ha hl hr'' he
    exact ⟨v,zcc hv,hr'⟩
  ·cases hc
 case fieldAddr t x f =>
  unfold zh4 at hc
  obtain ⟨a,ha,hc⟩:=zan hc
  have hx:=H _ _ ha
  split at hc
  ·rename_i fs hu
   obtain ⟨fd,hf,hc⟩:=zan hc
   obtain ⟨n,hn,hc⟩:=zan hc
   cases hb:n == 0 with
   | true=>rw [hb] at hc;cases hc
   | false =>
    rw [hb] at hc;simp only [cond_false,Option.some.injEq] at hc;subst hc
    simp at hb
    simp only [zao] at he
    split at he
    ·rename_i i o ho
     rw [ho] at hx
     obtain ⟨b,base,lim,hi,hv⟩:=hx
     simp only [Option.some.injEq] at he;subst he
     refine ⟨.pointer (some ⟨b,base + (o + fd.offset),none⟩),zcc ?_,b,base,lim,hi,rfl⟩
     rw [hv]
     simp [Instr.fieldAt,Instr.sureAddr,run_underlying hu,hf,fieldPlace,zds hn,hb,Addr.add_lit,Nat.add_assoc]
    ·cases he
  ·cases hc
 case field t x f =>
  unfold zm3 at hc
  obtain ⟨a,ha,hc⟩:=zan hc
  have hx:=H _ _ ha
  split at hc
  ·rename_i fs hu
   obtain ⟨fd,hf,hc⟩:=zan hc
   obtain ⟨n,hn,hc⟩:=zan hc
   obtain ⟨g,hg,hc⟩:=zan hc
   simp only [Option.some.injEq] at hc;subst hc
   simp only [zao] at he
   split at he
   ·rename_i l hl
    rw [hl] at hx
    obtain ⟨cs,hv,hcs⟩:=hx
    split at he
    ·rename_i q hq
     obtain ⟨v,hv',hr'⟩:=zpn (P:=P) (w:=w) hn hg hcs hq he
     refine ⟨v,zcc ?_,hr'⟩
     rw [hv]
     simp [Instr.field,run_underlying hu,hf,asAgg,hv']
    ·cases he
   ·cases he
  ·cases hc
 case indexAddr t x i =>
  unfold zjw at hc
  obtain ⟨a,ha,hc⟩:=zan hc
  obtain ⟨b,hb,hc⟩:=zan hc
  split at hc
  ·rename_i e hu
   obtain ⟨sz,hsz,hc⟩:=zan hc
   simp only [Option.some.injEq] at hc;subst hc
   obtain ⟨v,hv,hr'⟩:=zq0 (P:=P) (w:=w) H hu hsz ha hb he rfl
   exact ⟨v,zcc hv,hr'⟩
  ·rename_i n e hu
   obtain ⟨sz,hsz,hc⟩:=zan hc
   simp only [Option.some.injEq] at hc;subst hc
   obtain ⟨v,hv,hr'⟩:=zpq (P:=P) (w:=w) H hu hsz ha hb he
   exact ⟨v,zcc hv,hr'⟩
  ·cases hc
 case index t x i =>
  unfold zr3 at hc
  obtain ⟨a,ha,hc⟩:=zan hc
  obtain ⟨b,hb,hc⟩:=zan hc
  split at hc
  ·rename_i hu
   simp only [Option.some.injEq] at hc;subst hc
   obtain ⟨v,hv,hr'⟩:=zr9 (P:=P) (w:=w) H hu ha hb he
   exact ⟨v,zcc hv,hr'⟩
  ·rename_i n e hu
   obtain ⟨sz,hsz,hc⟩:=zan hc
   obtain ⟨g,hg,hc⟩:=zan hc
   simp only [Option.some.injEq] at hc;subst hc
   obtain ⟨v,hv,hr'⟩:=zr8 (P:=P) (w:=w) H hu hsz hg ha hb he
   exact ⟨v,zcc hv,hr'⟩
  ·cases hc
 case extract x i =>
  obtain ⟨a,ha,hc⟩:=zan hc
  simp only [Option.some.injEq] at hc;subst hc
  have hx:=H _ _ ha
  simp only [zao] at he
  split at he
  ·rename_i l hl
   rw [hl] at hx
   obtain ⟨vs,hv,hvs⟩:=hx
   split at he
   ·rename_i q hq
    simp only [Option.some.injEq] at he;subst he
    obtain ⟨u,hu,hxr⟩:=hvs.get _ _ hq
    have hu':vs[i]? = some u:=by simpa using hu
    refine ⟨u,zcc ?_,AR.of_xv.2 hxr⟩
    rw [hv]
    simp [Instr.extract,hu']
   ·cases he
  ·cases he
 case call c =>
  unfold zo9 at hc
  split at hc
  ·rename_i b hb
   obtain ⟨v,hv,hr'⟩:=zpr (P:=P) (w:=w) (ty:=ty) (cs:=c.args.map fun | .const _=>true | _=>false) H hr hc hk he
   refine ⟨v,?_,hr'⟩
   simp only [execOp,resolve,hb,Sem.run_bind,Sem.run_pure,Result.andThen_ok,invoke]
   exact hv
  ·obtain ⟨as,ha,hc⟩:=zan hc
   simp only [Option.some.injEq] at hc;subst hc;simp [IOp.kd] at hk
  ·obtain ⟨f,hf,hc⟩:=zan hc
   obtain ⟨as,ha,hc⟩:=zan hc
   simp only [Option.some.injEq] at hc;subst hc;simp [IOp.kd] at hk
  ·cases hc
 case send ch v =>
  obtain ⟨f,hf,hc⟩:=zan hc
  obtain ⟨as,ha,hc⟩:=zan hc
  simp only [Option.some.injEq] at hc;subst hc;simp [IOp.kd] at hk
 case select cases blocking =>
  unfold zll at hc
  split at hc
  ·obtain ⟨f,hf,hc⟩:=zan hc
   split at hc
   ·obtain ⟨x,hx,hc⟩:=zan hc
    obtain ⟨z,hz,hc⟩:=zan hc
    simp only [Option.some.injEq] at hc;subst hc;simp [IOp.kd] at hk
   ·obtain ⟨x,hx,hc⟩:=zan hc
    obtain ⟨z,hz,hc⟩:=zan hc
    simp only [Option.some.injEq] at hc;subst hc;simp [IOp.kd] at hk
  ·cases hc
 all_goals cases hc
end ops
end Lav
namespace Lav
open Go
theorem zeros_length:∀ (n:Nat) (z:List CV),(zeros n z).length=n * z.length
 | 0,z=>by simp [zeros]
 | n + 1,z=>by simp [zeros,zeros_length n z,Nat.succ_mul];omega
theorem zoh:∀ (n:Nat) (z:List CV) (j:Nat),j < n * z.length→(zeros n z)[j]? = z[j % z.length]?
 | 0,z,j,h=>by simp at h
 | n + 1,z,j,h=>by
  rw [Nat.succ_mul] at h
  simp only [zeros]
  by_cases hj:j < z.length
  ·rw [List.getElem?_append_left hj,Nat.mod_eq_of_lt hj]
  ·rw [List.getElem?_append_right (by omega),zoh n z (j - z.length) (by omega)]
   congr 1
   rw [Nat.mod_eq_sub_mod (by omega:z.length≤j)]
theorem zkx {ι:Inj} {z:List CV} {zs:Array Value} (h:All2 (CR ι) z zs.toList) (n m:Nat) (hm:m=n * zs.size) :
  All2 (CR ι) (zeros n z) ((Array.range m).map (zs[· % zs.size]!)).toList:=by
 have hlen:z.length=zs.size:=by simpa using h.length
 refine All2.of_get (by simp [zeros_length,hlen,hm]) fun j x hx=>?_
 have hj:j < n * z.length:=by
  rcases Nat.lt_or_ge j (zeros n z).length with h' | h'
  ·rwa [zeros_length] at h'
  ·rw [List.getElem?_eq_none h'] at hx;cases hx
 rw [zoh n z j hj] at hx
 obtain ⟨v,hv,hc⟩:=h.get _ _ hx
 refine ⟨v,?_,hc⟩
 have hpos:0 < zs.size:=by
  rcases Nat.eq_zero_or_pos zs.size with h' | h'
  ·rw [hlen,h'] at hj;simp at hj
  ·exact h'
 have hjm:j < m:=by rw [hm,← hlen];exact hj
 rw [hlen] at hv
 have hv':zs[j % zs.size]? = some v:=by simpa using hv
 have hlt:j % zs.size < zs.size:=Nat.mod_lt _ hpos
 rw [Array.getElem?_eq_getElem hlt] at hv'
 simp only [Option.some.injEq] at hv'
 simp [hjm,hlt,hv']
section ops
variable {P:Program} {slots:List Nat} {ds:List (Option Nat)} {loc vals:List AV} {ρ:Operand→Value} {ι:Inj} {B:Nat} {w:World}
def World.plus (w:World) (n:Nat) (o:Obj):World:=World.alloc { w with drawn:=n } o
def NewOK (B:Nat) (ι:Inj) (w:World) (f:Nat→AV) (k:Blk) (v:Value) (w':World):Prop :=
 ∃ lim,(w'.os=w.os∧w'.output=w.output∧w'.tape=w.tape∧w.heap.size≤w'.heap.size∧∀ x,x < w.heap.size→w'.heap[x]? = w.heap[x]?)∧k.isRo=false ∧
  ∀ i,ι i=none→AR (ι.put i (w.heap.size,0,lim)) (f i) v∧BR B (ι.put i (w.heap.size,0,lim)) w.heap.size 0 lim w' k
theorem zfu (w:World) (n:Nat) (o:Obj):(World.plus w n o).os=w.os∧(World.plus w n o).output=w.output∧(World.plus w n o).tape=w.tape∧w.heap.size≤(World.plus w n o).heap.size ∧
  ∀ x,x < w.heap.size→(World.plus w n o).heap[x]? = w.heap[x]? :=
 ⟨rfl,rfl,rfl,by show w.heap.size≤(w.heap.push o).size;simp,fun x hx=>zpm { w with drawn:=n } o x (Nat.ne_of_lt hx)⟩
theorem zjp (n:Nat) (o:Obj):(World.plus w n o).heap[w.heap.size]? = some o:=zpl { w with drawn:=n } o
theorem zky {l:List CV} {c:Array Value} {e:TypeId} (hB:B≤w.heap.size) (hl:All2 (CR ι) l c.toList) :
  ∀ i,ι i=none→BR B (ι.put i (w.heap.size,0,c.size)) w.heap.size 0 c.size (World.plus w w.drawn (.cells c e)) (.cells l):=by
 intro i hi
 refine ⟨hB,c,e,(0,0),zjp _ _,by simp,by simpa using Nat.le_of_eq hl.length,.inl rfl,fun j x hx=>?_⟩
 obtain ⟨v,hv,hc⟩:=hl.get _ _ hx
 exact ⟨v,by simpa using hv,hc.mono (Inj.put_le hi)⟩
theorem zrk {t:TypeId} {a:AV} {v:Value} {l:List CV} (hB:B≤w.heap.size) (ha:AR ι a v) (hl:a.cells=some l) :
  ∃ u w',(newVar t v).run P w = .ok u w'∧NewOK B ι w (fun i=>.c (.ptr i 0)) (.cells l) (.pointer (some u)) w':=by
 refine ⟨⟨w.heap.size,0,none⟩,World.plus w w.drawn (.cells v.cells t),rfl,_,zfu w _ _,rfl,fun i hi=>⟨?_,zky hB (ha.cells hl) i hi⟩⟩
 exact ⟨w.heap.size,0,_,Inj.put_at,by simp⟩
theorem zkz {a:X} {x:Operand} {m:Nat} (H:zd4 slots ds loc vals ι ρ) (hx:cX slots ds x=some a) (hm:zda (a.eval loc vals)=some m):(asInt (ρ x)).run P w = .ok (Int.ofNat m) w:=by
 obtain ⟨k,hk⟩:=zej hm (H _ _ hx)
 rw [hk];rfl
theorem zgx {n:Nat} (h:n≤1099511627776):IntKind.i64.wrap (Int.ofNat n)=Int.ofNat n:=by
 have:(n:Int)≤1099511627776:=by omega
 simp only [IntKind.wrap,IntKind.bits,IntKind.signed]
 simp
 omega
theorem zyo {t e n bytes:Nat} {z:List CV} {x y:Operand} {a b:X} {f:Nat→AV} {k:Blk} (H:zd4 slots ds loc vals ι ρ) (hB:B≤w.heap.size) (hu:P.underlying t=some (.slice e)) (hz:zfs P e=some z) (hn:zck P e=some n)
  (hb:zfr P e=some bytes) (hbb:bytes≤1024) (hx:cX slots ds x=some a) (hy:cX slots ds y=some b) (he:zbf loc vals (.mks n z a b)=some (f,k)) :
  ∃ v w',(Instr.makeSlice t (ρ x) (ρ y)).run P w = .ok v w'∧NewOK B ι w f k v w':=by
 simp only [zbf] at he
 split at he
 ·rename_i l c hl hc
  cases hcond:(Nat.ble l c && Nat.ble c 1073741824 && z.length == n) with
  | false=>rw [hcond] at he;cases he
  | true =>
   rw [hcond] at he;simp only [cond_true,Option.some.injEq,Prod.mk.injEq] at he
   obtain ⟨rfl,rfl⟩:=he
   simp only [Bool.and_eq_true,Nat.ble_eq,beq_iff_eq] at hcond
   obtain ⟨⟨h1,h2⟩,h3⟩:=hcond
   obtain ⟨i,hi,hbi⟩:=zoe (P:=P) (w:=w) hb
   obtain ⟨it,zv,hit,hzv,hzr⟩:=zgv hz
   have hzs:zv.cells.size=n:=by
    have:=(hzr ι).length
    simp at this;omega
   have hwl:IntKind.i64.wrap (Int.ofNat l)=Int.ofNat l:=zgx (by omega)
   have hwc:IntKind.i64.wrap (Int.ofNat c)=Int.ofNat c:=zgx (by omega)
   have hbig : ¬ ((i.bytes:Int) * Int.ofNat c > 2 ^ 48):=by
    have h5:i.bytes * c≤1099511627776:=Nat.le_trans (Nat.mul_le_mul (by omega:i.bytes≤1024) h2) (by decide)
    show ¬ ((i.bytes:Int) * (c:Int) > 2 ^ 48)
    rw [← Int.natCast_mul]
    omega
   have hng : ¬ (Int.ofNat c < 0):=by simp
   have hngl : ¬ (Int.ofNat l < 0):=by simp
   have hlc : ¬ (Int.ofNat l > Int.ofNat c):=by simp;omega
   have hsz:(Go.sizeOf e).run P w = .ok n w:=zds hn
   have hzero:(zeroValue e).run P w = .ok zv w:=by simp [zeroValue,typeInfo,hit,hzv]
   have hcn:(Int.ofNat c).toNat=c:=rfl
   have hln:(Int.ofNat l).toNat=l:=rfl
   refine ⟨.slice (some ⟨w.heap.size,0,none⟩) l c,World.plus w w.drawn (.cells ((Array.range (c * n)).map ((if c * n=0 then (#[]:Array Value) else zv.cells)[· % (if c * n=0 then (#[]:Array Value) else zv.cells).size]!)) e),?_,_,zfu w _ _,rfl,fun i hi=>⟨?_,zky hB ?_ i hi⟩⟩
   ·simp only [Instr.makeSlice,Sem.run_bind,run_underlying hu,Result.andThen_ok,zkz H hx hl,zkz H hy hc,hi,hwl,hwc]
    simp only [hng,hngl,hlc,hbig,decide_false,Bool.or_false,Bool.false_eq_true,if_false,Sem.run_bind,run_askRoom,Result.andThen_ok,hsz,hcn,hln]
    by_cases h0:c * n=0
    ·simp only [h0,if_true]
     rfl
    ·simp only [h0,if_false,Sem.run_bind,hzero,Result.andThen_ok,Sem.run_pure]
     rfl
   ·refine ⟨w.heap.size,0,_,⟨w.heap.size,0,none⟩,c,Inj.put_at,rfl,h1,fun _=>by simp,rfl⟩
   ·by_cases h0:c * n=0
    ·have e0:zeros c z=[]:=List.eq_nil_of_length_eq_zero (by rw [zeros_length,h3];exact h0)
     rw [e0,h0];simp [All2]
    ·simp only [h0,if_false]
     exact zkx (hzr ι) c _ (by rw [hzs])
 ·cases he
theorem zyp {t len:Nat} {parts:List (Nat × Operand)} {iop:IOp} {f:Nat→AV} {k:Blk} (H:zd4 slots ds loc vals ι ρ) (hB:B≤w.heap.size) (hc:zgd P slots ds t len parts=some iop) (he:zbf loc vals iop=some (f,k)) :
  ∃ v w',(Instr.buildSlice t len (parts.map fun (i,x)=>(i,ρ x)).toArray).run P w = .ok v w'∧NewOK B ι w f k v w':=by
 unfold zgd at hc
 split at hc
 ·rename_i e hu
  obtain ⟨z,hz,hc⟩:=zan hc
  obtain ⟨n,hn,hc⟩:=zan hc
  cases hb:(z.length == n && Nat.ble (len * n) 16777216) with
  | false=>rw [hb] at hc;cases hc
  | true =>
   rw [hb] at hc;simp only [cond_true] at hc
   simp only [Bool.and_eq_true,Nat.ble_eq,beq_iff_eq] at hb
   obtain ⟨h1,h2⟩:=hb
   obtain ⟨ps,hps,hc⟩:=zan hc
   simp only [Option.some.injEq] at hc;subst hc
   simp only [zbf] at he
   split at he
   ·rename_i qs hqs
    split at he
    ·rename_i l hl
     simp only [Option.some.injEq,Prod.mk.injEq] at he
     obtain ⟨rfl,rfl⟩:=he
     obtain ⟨it,zv,hit,hzv,hzr⟩:=zgv hz
     have hzs:zv.cells.size=n:=by
      have:=(hzr ι).length
      simp at this;omega
     have hzero:(zeroValue e).run P w = .ok zv w:=by simp [zeroValue,typeInfo,hit,hzv]
     have hsz:(Go.sizeOf e).run P w = .ok n w:=zds hn
     have hrel:All2 (CR ι) (zeros len z) ((Array.range (len * n)).map ((if len * n=0 then (#[]:Array Value) else zv.cells)[· % (if len * n=0 then (#[]:Array Value) else zv.cells).size]!)).toList:=by
      by_cases h0:len * n=0
      ·have e0:zeros len z=[]:=List.eq_nil_of_length_eq_zero (by rw [zeros_length,h1];exact h0)
       rw [e0,h0];simp [All2]
      ·simp only [h0,if_false]
       exact zkx (hzr ι) len _ (by rw [hzs])
     obtain ⟨cs',f1,f2⟩:=zj1 H hps hqs hl hrel
     refine ⟨.slice (some ⟨w.heap.size,0,none⟩) len len,World.plus w w.drawn (.cells cs' e),?_,_,zfu w _ _,rfl,fun i hi=>⟨?_,zky hB f2 i hi⟩⟩
     ·have hbig : ¬ (len * n > 2 ^ 24):=by simp;omega
      by_cases h0:len * n=0
      ·simp only [h0,if_true] at f1
       have hz0 : ¬ (0 > 2 ^ 24):=by omega
       simp only [Instr.buildSlice,Sem.run_bind,run_underlying hu,hsz,Result.andThen_ok,h0,hz0,if_false,if_true,Sem.run_pure,f1]
       rfl
      ·simp only [h0,if_false] at f1
       simp only [Instr.buildSlice,Sem.run_bind,run_underlying hu,hsz,Result.andThen_ok,hbig,if_false,Sem.run_pure,Sem.run_ite,h0,hzero]
       simp [f1,newRow]
       rfl
     ·exact ⟨w.heap.size,0,_,⟨w.heap.size,0,none⟩,len,Inj.put_at,rfl,Nat.le_refl _,fun _=>by simp,rfl⟩
    ·cases he
   ·cases he
 ·cases hc
theorem zks {s:ByteArray} {l:List Nat} (hs:s.data.toList.map UInt8.toNat=l):All2 (CR ι) (byteCells l) (s.data.map fun b=>(Value.int .u8 b.toNat)).toList:=by
 subst hs
 simp only [byteCells,Array.toList_map,List.map_map]
 generalize s.data.toList=m
 induction m with
 | nil=>trivial
 | cons b m ih=>exact ⟨rfl,ih⟩
theorem zh2 {b o:Nat} {c:Array Value} {e:TypeId} {fz:Nat × Nat} (hb:w.heap[b]? = some (.cells c e fz)) (hfz:fz.1=fz.2∨c.size≤fz.1) :
  ∃ w',(markStringish ⟨b,o,none⟩).run P w = .ok () w'∧w'.os=w.os∧w'.output=w.output∧w'.tape=w.tape∧w'.heap.size=w.heap.size ∧
   ∃ fz',w'.heap[b]? = some (.cells c e fz')∧(fz'.1=fz'.2∨c.size≤fz'.1)∧∀ x,x≠b→w'.heap[x]? = w.heap[x]?:=by
 have hsh:w.shape? b=some (e,c.size):=by simp [World.shape?,hb]
 refine ⟨w.freeze { block:=b,off:=c.size } 1,by simp only [markStringish,Sem.run_bind,run_shape,hsh,Result.andThen_ok,run_freeze],rfl,rfl,rfl,by simp [World.freeze],?_⟩
 obtain ⟨lo,hi⟩:=fz
 refine ⟨if lo == hi then (c.size,c.size + 1) else (min lo c.size,max hi (c.size + 1)),?_,?_,fun x hx=>?_⟩
 ·simp only [World.freeze,Nat.one_ne_zero,if_false,Array.getElem?_modify,if_true,hb,Option.map_some]
 ·by_cases h:lo=hi
  ·subst h;simp
  ·have:c.size≤lo:=by rcases hfz with h' | h';exact absurd h' h;exact h'
   simp [h];right;omega
 ·simp [World.freeze,Array.getElem?_modify,Ne.symm hx]
theorem zyq {src dst e:Nat} {x:Operand} {a:X} {f:Nat→AV} {k:Blk} (H:zd4 slots ds loc vals ι ρ) (hB:B≤w.heap.size) (h1:P.underlying src=some .string) (h2:P.underlying dst=some (.slice e)) (he8:zga P e=true)
  (hx:cX slots ds x=some a) (he:zbf loc vals (.s2b a)=some (f,k)):∃ v w',(convert src dst (ρ x)).run P w = .ok v w'∧NewOK B ι w f k v w':=by
 have hu8:P.underlying e=some (.int .u8):=by
  unfold zga at he8
  split at he8
  ·assumption
  ·cases he8
 simp only [zbf] at he
 split at he
 ·rename_i s hs
  have hr:=H _ _ hx
  rw [hs] at hr
  obtain ⟨bs,hv,hbs⟩:=hr
  simp only [Option.some.injEq,Prod.mk.injEq] at he
  obtain ⟨rfl,rfl⟩:=he
  have hlen:=zgj hbs
  let q:=Question.appendCap bs.size 0 e
  let cap:=q.cut (w.tape w.drawn q)
  let w1:World:={ w with drawn:=w.drawn + 1 }
  let cs:Array Value:=(bs.data.map fun b=>(Value.int .u8 b.toNat))++Array.replicate (cap - bs.size) (.int .u8 0)
  have hcap:bs.size≤cap:=Nat.le_add_right _ _
  have hcs:cs.size=cap:=by
   show ((bs.data.map _)++Array.replicate (cap - bs.size) _).size=cap
   rw [Array.size_append,Array.size_map,Array.size_replicate]
   show bs.size + (cap - bs.size)=cap
   omega
  obtain ⟨w',hm,m1,m2,m3,m4,fz',m5,m6,m7⟩:=zh2 (P:=P) (w:=w1.alloc (.cells cs e)) (b:=w.heap.size) (o:=0) (c:=cs) (e:=e) (fz:=(0,0)) (zpl w1 _) (.inl rfl)
  refine ⟨.slice (some ⟨w.heap.size,0,none⟩) bs.size cap,w',?_,cs.size,⟨m1,m2,m3,?_,?_⟩,rfl,fun i hi=>⟨?_,?_⟩⟩
  ·rw [hv]
   simp only [convert,Sem.run_bind,run_underlying h1,run_underlying h2,Result.andThen_ok,run_underlying hu8,Conv.stringToBytes,run_choose]
   have hq:(Question.appendCap bs.size 0 e).forced=false:=rfl
   simp only [hq,Bool.false_eq_true,if_false,Result.andThen_ok]
   show (((newRow e cs).run P w1).andThen _)=_
   have hn:(newRow e cs).run P w1 = .ok ⟨w.heap.size,0,none⟩ (w1.alloc (.cells cs e)):=rfl
   rw [hn]
   simp only [Result.andThen_ok]
   rw [hm]
   rfl
  ·rw [m4];show w.heap.size≤(w.heap.push _).size;simp
  ·intro x hx
   rw [m7 x (Nat.ne_of_lt hx)]
   exact zpm w1 _ x (Nat.ne_of_lt hx)
  ·refine ⟨w.heap.size,0,_,⟨w.heap.size,0,none⟩,cap,Inj.put_at,?_,?_,fun _=>by simp,?_⟩
   ·rw [hlen]
   ·rw [← hlen];exact hcap
   ·show 0 + cap * 1≤cs.size
    omega
  ·refine ⟨hB,cs,e,fz',m5,by simp,?_,m6,?_⟩
   ·simp only [byteCells,List.length_map];omega
   ·intro j y hy
    have hrel:=zks (ι:=ι) hbs
    obtain ⟨v,hv',hc⟩:=hrel.get _ _ hy
    refine ⟨v,?_,hc.mono (Inj.put_le hi)⟩
    have hj:j < bs.size:=by
     rcases Nat.lt_or_ge j (byteCells s).length with h' | h'
     ·simp only [byteCells,List.length_map] at h';omega
     ·rw [List.getElem?_eq_none h'] at hy;cases hy
    show cs[0 + j]? = some v
    rw [Nat.zero_add]
    show ((bs.data.map _)++Array.replicate (cap - bs.size) _)[j]? = some v
    rw [Array.getElem?_append_left (by simpa using hj),← Array.getElem?_toList]
    exact hv'
 ·cases he
theorem zv4 {t e b:Nat} {d:ChanDir} {x:Operand} {a:X} {f:Nat→AV} {k:Blk} (H:zd4 slots ds loc vals ι ρ) (hB:B≤w.heap.size) (hu:P.underlying t=some (.chan d e)) (hb:zfr P e=some b) (hbb:b≤1024)
  (hx:cX slots ds x=some a) (he:zbf loc vals (.mkch b a)=some (f,k)):∃ v w',(Instr.makeChan t (ρ x)).run P w = .ok v w'∧NewOK B ι w f k v w':=by
 simp only [zbf] at he
 split at he
 ·rename_i m hm
  cases hc:Nat.ble m 1048576 with
  | false=>rw [hc] at he;cases he
  | true =>
   rw [hc] at he;simp only [cond_true,Option.some.injEq,Prod.mk.injEq] at he
   obtain ⟨rfl,rfl⟩:=he
   have hm':=Nat.le_of_ble_eq_true hc
   obtain ⟨i,hi,hbi⟩:=zoe (P:=P) (w:=w) hb
   have h5:i.bytes * m≤1073741824:=Nat.le_trans (Nat.mul_le_mul (by omega:i.bytes≤1024) hm') (by decide)
   have hc1 : ¬ (Int.ofNat m < 0∨Int.ofNat m > IntKind.i64.max∨(i.bytes:Int) * Int.ofNat m > 2 ^ 48 - 112):=by
    have e1:(i.bytes:Int) * Int.ofNat m=((i.bytes * m:Nat):Int):=by
     show (i.bytes:Int) * (m:Int)=_
     rw [Int.natCast_mul]
    rw [IntKind.max_i64,e1]
    simp only [Int.ofNat_eq_natCast]
    omega
   refine ⟨.chan (some w.heap.size),World.plus w w.drawn (.chan m #[] false 0 0 false),?_,0,zfu w _ _,rfl,fun i hi=>⟨?_,?_⟩⟩
   ·simp only [Instr.makeChan,Sem.run_bind,zkz H hx hm,run_underlying hu,Result.andThen_ok,hi,hc1,if_false]
    rfl
   ·exact ⟨w.heap.size,0,0,Inj.put_at,rfl⟩
   ·exact ⟨hB,#[],0,0,zjp _ _,trivial⟩
 ·cases he
theorem zue {t:TypeId} {f:Nat→AV} {k:Blk} (hB:B≤w.heap.size) (he:zbf loc vals .mkmap=some (f,k)):∃ v w',(Instr.makeMap t none).run P w = .ok v w'∧NewOK B ι w f k v w':=by
 simp only [zbf,Option.some.injEq,Prod.mk.injEq] at he
 obtain ⟨rfl,rfl⟩:=he
 refine ⟨.map (some w.heap.size),World.plus w w.drawn (.map #[] 0),rfl,0,zfu w _ _,rfl,fun i hi=>⟨⟨w.heap.size,0,0,Inj.put_at,rfl⟩,hB,#[],zjp _ _,trivial,?_,?_,?_⟩⟩<;>simp
theorem zoi (H:zd4 slots ds loc vals ι ρ) (hB:B≤w.heap.size) {o:Oper} {iop:IOp} {f:Nat→AV} {k:Blk} (hc:cOp? P slots ds o.op=some iop) (hk:iop.kd = .new) (he:zbf loc vals iop=some (f,k)) :
  ∃ v w',(execOp ρ o).run P w = .ok (.value v) w'∧NewOK B ι w f k v w':=by
 obtain ⟨dst,op,ty,pos,after,guard⟩:=o
 cases op<;>simp only [cOp?] at hc
 case alloc t =>
  obtain ⟨z,hz,hc⟩:=zan hc
  simp only [Option.some.injEq] at hc;subst hc
  simp only [zbf,X.eval] at he
  split at he
  ·rename_i l hl
   simp only [Option.some.injEq,Prod.mk.injEq] at he
   obtain ⟨rfl,rfl⟩:=he
   obtain ⟨it,zv,hit,hzv,hza⟩:=zgn hz
   have hzero:(zeroValue t).run P w = .ok zv w:=by simp [zeroValue,typeInfo,hit,hzv]
   obtain ⟨u,w',h1,h2⟩:=zrk (P:=P) (t:=t) hB (zfb (ι:=ι) hza) hl
   refine ⟨_,w',zcc ?_,h2⟩
   simp only [Instr.alloc,Sem.run_bind,hzero,Result.andThen_ok,h1,Sem.run_pure]
  ·cases he
 case box t x =>
  obtain ⟨a,ha,hc⟩:=zan hc
  simp only [Option.some.injEq] at hc;subst hc
  simp only [zbf] at he
  split at he
  ·rename_i l hl
   simp only [Option.some.injEq,Prod.mk.injEq] at he
   obtain ⟨rfl,rfl⟩:=he
   obtain ⟨u,w',h1,h2⟩:=zrk (P:=P) (t:=t) hB (H _ _ ha) hl
   refine ⟨_,w',zcc ?_,h2⟩
   simp only [Instr.box,Sem.run_bind,Result.andThen_ok,h1,Sem.run_pure]
  ·cases he
 case buildSlice t len parts =>
  obtain ⟨v,w',h1,h2⟩:=zyp (P:=P) H hB hc he
  refine ⟨v,w',?_,h2⟩
  have:=zcc (P:=P) h1
  simp only [execOp,zrj];exact this
 case makeSlice t l c =>
  unfold zh5 at hc
  split at hc
  ·rename_i e hu
   obtain ⟨z,hz,hc⟩:=zan hc
   obtain ⟨n,hn,hc⟩:=zan hc
   obtain ⟨m,hm,hc⟩:=zan hc
   obtain ⟨x,hx,hc⟩:=zan hc
   obtain ⟨y,hy,hc⟩:=zan hc
   cases hb:(z.length == n && Nat.ble m 1024) with
   | false=>rw [hb] at hc;cases hc
   | true =>
    rw [hb] at hc;simp only [cond_true,Option.some.injEq] at hc;subst hc
    simp only [Bool.and_eq_true,Nat.ble_eq,beq_iff_eq] at hb
    obtain ⟨v,w',h1,h2⟩:=zyo (P:=P) H hB hu hz hn hm hb.2 hx hy he
    exact ⟨v,w',zcc h1,h2⟩
  ·cases hc
 case makeChan t n =>
  split at hc
  ·rename_i d e hu
   obtain ⟨b,hb,hc⟩:=zan hc
   obtain ⟨x,hx,hc⟩:=zan hc
   cases hbb:(Nat.ble b 1024) with
   | false=>rw [hbb] at hc;cases hc
   | true =>
    rw [hbb] at hc;simp only [cond_true,Option.some.injEq] at hc;subst hc
    obtain ⟨v,w',h1,h2⟩:=zv4 (P:=P) H hB hu hb (Nat.le_of_ble_eq_true hbb) hx he
    exact ⟨v,w',zcc h1,h2⟩
  ·cases hc
 case makeMap t res =>
  cases res with
  | some _=>cases hc
  | none =>
   obtain ⟨z,hz,hc⟩:=zan hc
   simp only [Option.some.injEq] at hc;subst hc
   obtain ⟨v,w',h1,h2⟩:=zue (P:=P) (t:=t) hB he
   exact ⟨v,w',zcc h1,h2⟩
 case convert src dst x =>
  unfold zm1 at hc
  obtain ⟨a,ha,hc⟩:=zan hc
  split at hc
  ·simp only [Option.some.injEq] at hc;subst hc;simp [IOp.kd] at hk
  ·cases hb:(src == dst && zga P _) with
   | false=>rw [hb] at hc;cases hc
   | true=>rw [hb] at hc;simp only [cond_true,Option.some.injEq] at hc;subst hc;simp [IOp.kd] at hk
  ·cases hb:zga P _ with
   | false=>rw [hb] at hc;cases hc
   | true=>rw [hb] at hc;simp only [cond_true,Option.some.injEq] at hc;subst hc;simp [IOp.kd] at hk
  ·rename_i e h1 h2
   cases hb:zga P e with
   | false=>rw [hb] at hc;cases hc
   | true =>
    rw [hb] at hc;simp only [cond_true,Option.some.injEq] at hc;subst hc
    obtain ⟨v,w',h3,h4⟩:=zyq (P:=P) H hB h1 h2 hb ha he
    exact ⟨v,w',zcc h3,h4⟩
  ·cases hc
 case makeFunc fn first caps =>
  cases fn<;>simp only [reduceCtorEq] at hc
  case func g =>
   cases hb:first.size == 0 with
   | false=>rw [hb] at hc;cases hc
   | true =>
    rw [hb] at hc;simp only [cond_true] at hc
    obtain ⟨cs,hcs,hc⟩:=zan hc
    simp only [Option.some.injEq] at hc;subst hc;simp [IOp.kd] at hk
 all_goals
  exfalso
  clear he
  (try simp only [zpj,zm2,zh4,zm3,zjw,zr3,zjl,zo9,zik,zll] at hc)
  (try simp only [ob,Bool.cond_eq_ite] at hc)
  repeat' split at hc
  all_goals first | (cases hc;done) | (simp only [Option.some.injEq] at hc;subst hc;simp [IOp.kd] at hk;done) | skip
end ops
end Lav
namespace Lav
open Go
section
variable {P:Program} {slots:List Nat} {ds:List (Option Nat)} {loc vals:List AV} {ρ:Operand→Value} {ι:Inj} {B:Nat} {h:Heap} {w:World}
theorem zhw (b:Nat):∀ (vs:List Value) (off:Nat) (w:World) (c:Array Value) (e:TypeId) (fz:Nat × Nat),w.heap[b]? = some (.cells c e fz)→off + vs.length≤c.size →
  ∃ c':Array Value,(w.setCells b off vs).heap[b]? = some (.cells c' e fz)∧c'.size=c.size∧(∀ j:Nat,c'[j]? = if off≤j∧j < off + vs.length then vs[j - off]? else c[j]?) ∧
   (∀ x,x≠b→(w.setCells b off vs).heap[x]? = w.heap[x]?)∧(w.setCells b off vs).heap.size=w.heap.size∧(w.setCells b off vs).os=w.os∧(w.setCells b off vs).output=w.output∧(w.setCells b off vs).tape=w.tape
 | [],off,w,c,e,fz,hb,_=>⟨c,hb,rfl,by intro j;simp;intro h1 h2;omega,fun _ _=>rfl,rfl,rfl,rfl,rfl⟩
 | v :: vs,off,w,c,e,fz,hb,hle=>by
  simp only [List.length_cons] at hle
  have hb':(w.setCell ⟨b,off,none⟩ v).heap[b]? = some (.cells (c.setIfInBounds off v) e fz):=by
   simp [World.setCell,Array.getElem?_modify,hb]
  obtain ⟨c',h1,h2,h3,h4,h5,h6,h7,h8⟩:=zhw b vs (off + 1) _ _ e fz hb' (by simp;omega)
  refine ⟨c',h1,by simpa using h2,fun j=>?_,fun x hx=>?_,by rw [World.setCells,h5];simp,h6,h7,h8⟩
  ·rw [h3 j]
   simp only [List.length_cons]
   by_cases e1:j=off
   ·subst e1
    rw [if_neg (by omega),if_pos (by omega)]
    have:j < c.size:=by omega
    simp [this]
   ·by_cases e2:off + 1≤j∧j < off + 1 + vs.length
    ·rw [if_pos e2,if_pos (by omega),show j - off=(j - (off + 1)) + 1 by omega];simp
    ·rw [if_neg e2,if_neg (by omega),Array.getElem?_setIfInBounds_ne (Ne.symm e1)]
  ·rw [World.setCells,h4 x hx]
   simp [World.setCell,Array.getElem?_modify,Ne.symm hx]
theorem zlz {b off:Nat} {vs:List Value} {c:Array Value} {e:TypeId} {fz:Nat × Nat} (hb:w.heap[b]? = some (.cells c e fz)) (hfz:fz.1=fz.2∨c.size≤fz.1) (hle:off + vs.length≤c.size)
  (h1:∀ v∈vs,v.oneCell'=true):(storeCells ⟨b,off,none⟩ vs).run P w = .ok () (w.setCells b off vs):=by
 have:=run_storeCells_cells (P:=P) b off vs 0 w (fun j hj=>by
  have:off + 0 + j < c.size:=by omega
  simp [World.cell?,hb];omega) (fun j hj=>by
  obtain ⟨lo,hi⟩:=fz
  simp only [World.frozen?,hb]
  simp only at hfz
  have hj:off + 0 + j < c.size:=by omega
  rcases hfz with h' | h'
  ·subst h'
   cases hd:decide (lo≤off + 0 + j) with
   | false=>rfl
   | true=>simp at hd ⊢;omega
  ·simp;omega) h1
 simpa using this
theorem zoj {i o:Nat} {l:List CV} {h':Heap} (hw:h.write i o l=some h'):∃ l0 l1,h.get i=some (.cells l0)∧zdf l0 o l=some l1∧h'=h.put i (.cells l1):=by
 unfold Heap.write at hw
 split at hw
 ·rename_i l0 hg
  split at hw
  ·rename_i l1 hp
   simp only [Option.some.injEq] at hw
   exact ⟨l0,l1,hg,hp,hw.symm⟩
  ·cases hw
 ·cases hw
theorem zja (hr:HR B ι h.get w) (hf:∀ i,h.next≤i→ι i=none) {i o b base lim:Nat} {l:List CV} {vs:List Value} {h':Heap} (hw:h.write i o l=some h') (hi:ι i=some (b,base,lim)) (hv:All2 (CR ι) l vs) :
  ∃ w',(storeCells ⟨b,base + o,none⟩ vs).run P w = .ok () w'∧Post B ι h w ι h' w':=by
 obtain ⟨l0,l1,hg,hp,rfl⟩:=zoj hw
 obtain ⟨p1,rfl⟩:=zh6 hp
 obtain ⟨s1,s2⟩:=zil l l0 o p1
 obtain ⟨b',base',lim',hi',hB,c,e,fz,hb,hlim,hll,hfz,hcells⟩:=hr.at_ _ _ hg
 rw [hi] at hi';simp only [Option.some.injEq,Prod.mk.injEq] at hi'
 obtain ⟨rfl,rfl,rfl⟩:=hi'
 have hvl:l.length=vs.length:=hv.length
 have hle:base + o + vs.length≤c.size:=by omega
 obtain ⟨c',q1,q2,q3,q4,q5,q6,q7,q8⟩:=zhw b vs (base + o) w c e fz hb hle
 refine ⟨_,zlz (P:=P) hb hfz hle hv.ones,Post.put hr hf hg rfl rfl hi ?_ (by rw [q5];exact Nat.le_refl _) (fun x hx _=>q4 x hx) q6 q7 q8⟩
 refine ⟨hB,c',e,fz,q1,by omega,by omega,by rw [q2];exact hfz,fun j x hx=>?_⟩
 rw [s2 j] at hx
 rw [q3]
 by_cases e1:o≤j∧j < o + l.length
 ·rw [if_pos e1] at hx
  rw [if_pos (by omega),show base + j - (base + o)=j - o by omega]
  exact hv.get _ _ hx
 ·rw [if_neg e1] at hx
  rw [if_neg (by omega)]
  exact hcells _ _ hx
theorem zk0 (hr:HR B ι h.get w) {sz n:Nat} {a:AV} {v:Value} {l:List CV} (hs:source h sz a=some (n,l)) (ha:AR ι a v) :
  (Builtin.lenOf v).run P w = .ok n w∧l.length=n * sz∧∀ m,m≤n→∃ vs:List Value,(∀ w2:World,w2.heap=w.heap→(Builtin.firstCells sz m v).run P w2 = .ok vs.toArray w2)∧All2 (CR ι) (l.take (m * sz)) vs:=by
 unfold source at hs
 split at hs
 ·simp only [Option.some.injEq,Prod.mk.injEq] at hs
  obtain ⟨rfl,rfl⟩:=hs
  simp only [AR,CR] at ha;subst ha
  exact ⟨rfl,by simp,fun m hm=>⟨[],fun _ _=>rfl,by simp [All2]⟩⟩
 ·rename_i i o len c
  split at hs
  ·rename_i l' hl
   simp only [Option.some.injEq,Prod.mk.injEq] at hs
   obtain ⟨rfl,rfl⟩:=hs
   obtain ⟨b,base,lim,ad,cap,hi,rfl,hlc,had,hcap⟩:=ha
   obtain ⟨b',base',lim',vs,hi',h2,hlen,hll,hcell,hrun⟩:=hr.loads hl
   rw [hi] at hi';simp only [Option.some.injEq,Prod.mk.injEq] at hi'
   obtain ⟨rfl,rfl,rfl⟩:=hi'
   refine ⟨rfl,hll,fun m hm=>?_⟩
   by_cases h0:cap=0
   ·have hm0:m=0:=by omega
    subst hm0
    exact ⟨[],fun _ _=>by simp [Builtin.firstCells,loadCells,loadCellsFrom],by simp [All2]⟩
   ·refine ⟨vs.take (m * sz),fun w2 hw2=>?_,h2.take _⟩
    have hml:m * sz≤len * sz:=Nat.mul_le_mul_right _ hm
    rw [had h0]
    have:=run_loadCells_list (P:=P) (w:=w2) ⟨b,base + o,none⟩ (vs.take (m * sz)) (fun j u hu=>by
     rw [Addr.add_lit,World.cell?,hw2]
     rw [List.getElem?_take] at hu
     split at hu
     ·exact hcell j u hu
     ·cases hu)
    rw [show (vs.take (m * sz)).length=m * sz by rw [List.length_take];omega] at this
    exact this
  ·split at hs
   ·simp only [Option.some.injEq,Prod.mk.injEq] at hs
    obtain ⟨rfl,rfl⟩:=hs
    obtain ⟨b,base,lim,ad,cap,hi,rfl,hlc,had,hcap⟩:=ha
    refine ⟨rfl,by simp,fun m hm=>?_⟩
    have hm0:m=0:=by omega
    subst hm0
    exact ⟨[],fun _ _=>by simp [Builtin.firstCells,loadCells,loadCellsFrom],by simp [All2]⟩
   ·cases hs
 ·rename_i s
  cases h1:sz == 1 with
  | false=>rw [h1] at hs;cases hs
  | true =>
   rw [h1] at hs;simp at h1;subst h1
   simp only [cond_true,Option.some.injEq,Prod.mk.injEq] at hs
   obtain ⟨rfl,rfl⟩:=hs
   obtain ⟨bs,rfl,hbs⟩:=ha
   have hlen:=zgj hbs
   refine ⟨by rw [← hlen];rfl,by simp [byteCells],fun m hm=>⟨((bs.extract 0 m).data.map fun b=>Value.int .u8 b.toNat).toList,fun _ _=>rfl,?_⟩⟩
   have hrel:=zks (ι:=ι) hbs
   have h3:=hrel.take (m * 1)
   have e:((bs.extract 0 m).data.map fun b=>Value.int .u8 b.toNat).toList=(bs.data.map fun b=>Value.int .u8 b.toNat).toList.take (m * 1):=by
    rw [ByteArray.data_extract]
    simp [List.extract_eq_take_drop]
   rw [e];exact h3
 ·cases hs
theorem zj3 {t:TypeId} {p:Nat × Nat} (he:elemOf P t=some p):∃ e z,P.underlying t=some (.slice e)∧zck P e=some p.1∧zfr P e=some p.2∧zfs P e=some z∧z.length=p.1∧p.1≠0∧p.2≠0∧p.2≤1024:=by
 unfold elemOf at he
 split at he
 ·rename_i e hu
  obtain ⟨n,hn,he⟩:=zan he
  obtain ⟨b,hb,he⟩:=zan he
  obtain ⟨z,hz,he⟩:=zan he
  cases hc:(z.length == n && !(n == 0) && !(b == 0) && Nat.ble b 1024) with
  | false=>rw [hc] at he;cases he
  | true =>
   rw [hc] at he;simp only [cond_true,Option.some.injEq] at he;subst he
   simp only [Bool.and_eq_true,Nat.ble_eq,beq_iff_eq,Bool.not_eq_true',beq_eq_false_iff_ne] at hc
   exact ⟨e,z,hu,hn,hb,hz,hc.1.1.1,hc.1.1.2,hc.1.2,hc.2⟩
 ·cases he
theorem zok (n:Nat):∀ (r c:Nat),c≤n→Builtin.growBy n r c≤2 * n + 1000
 | 0,c,h=>by simp [Builtin.growBy];omega
 | r + 1,c,h=>by
  unfold Builtin.growBy
  split
  ·omega
  ·by_cases h':c + (c + 768) / 4≤n
   ·exact zok n r _ h'
   ·cases r with
    | zero=>simp [Builtin.growBy];omega
    | succ r=>unfold Builtin.growBy;rw [if_pos (by omega)];omega
theorem nextslicecap_le {n c:Nat} (h:c < n):Builtin.nextslicecap n c≤2 * n + 1000:=by
 unfold Builtin.nextslicecap
 split
 ·omega
 ·split
  ·omega
  ·exact zok n 4 c (by omega)
end
end Lav
namespace Lav
open Go
section
variable {P:Program} {slots:List Nat} {ds:List (Option Nat)} {loc vals:List AV} {ρ:Operand→Value} {ι:Inj} {B:Nat} {h:Heap} {w:World}
theorem NewOK.post {f:Nat→AV} {k:Blk} {v:Value} {w':World} (hn:NewOK B ι w f k v w') (hr:HR B ι h.get w) (hf:∀ i,h.next≤i→ι i=none) :
  ∃ ι',AR ι' (f h.next) v∧Post B ι h w ι' (h.new k) w':=by
 obtain ⟨lim,⟨r1,r2,r3,r4,r5⟩,hro,hall⟩:=hn
 obtain ⟨ha,hb⟩:=hall h.next (hf _ (Nat.le_refl _))
 have hle:Le ι (ι.put h.next (w.heap.size,0,lim)):=Inj.put_le (hf _ (Nat.le_refl _))
 have hoth:∀ x,x≠w.heap.size→x < w.heap.size→w'.heap[x]? = w.heap[x]?:=fun x _ hx=>r5 x hx
 refine ⟨_,ha,by simp [Heap.new],fun i hi=>Inj.put_ne (by omega),fun i hi hn'=>?_,?_,fun i hi=>?_,?_⟩
 ·rw [Heap.get_new];simp [upd,hn'];omega
 ·rw [Heap.get_new]
  refine hr.set hle Inj.put_at hb hro r4 hoth ?_
  intro j kj hj hg _ b' x y e
  obtain ⟨b'',x',y',e',hb'⟩:=hr.at_ j kj hg
  rw [e'] at e;simp only [Option.some.injEq,Prod.mk.injEq] at e
  have:=hb'.lt;omega
 ·have:h.next + 1≤i:=by simpa [Heap.new] using hi
  rw [Inj.put_ne (by omega)];exact hf i (by omega)
 ·rw [Heap.get_new]
  exact Fr.set hr hle Inj.put_at r4 hoth r1 r2 r3 (.inr (Nat.le_refl _))
theorem zps (hr:HR B ι h.get w) {sz n:Nat} {tx:TypeId} {a:AV} {v:Value} {l:List CV} (hs:source h sz a=some (n,l)) (ha:AR ι a v) (hk:zek P sz tx=true) :
  ∃ vs:List Value,Src P sz tx v n vs w∧All2 (CR ι) l vs:=by
 obtain ⟨h1,h2,h3⟩:=zk0 (P:=P) hr hs ha
 obtain ⟨vs,h4,h5⟩:=h3 n (Nat.le_refl _)
 rw [← h2,List.take_length] at h5
 have hlen:∀ w':World,(Builtin.lenOf v).run P w' = .ok n w':=by
  intro w'
  cases v<;>simp [Builtin.lenOf] at h1 ⊢<;>exact h1
 refine ⟨vs,⟨?_,hlen,h4 w rfl,h4 w.drew rfl,by rw [← h5.length,h2],h5.ones⟩,h5⟩
 unfold zek at hk
 split at hk
 ·rename_i e hu;exact .inl ⟨e,hu⟩
 ·rename_i hu;exact .inr hu
 ·cases hk
theorem zn2 {e sz b:Nat} {z:List CV} (h1:zck P e=some sz) (h2:zfr P e=some b) (h3:zfs P e=some z) (h4:z.length=sz) :
  ∃ i zv,P.info? e=some i∧i.size=sz∧i.bytes=b∧i.zero=some zv∧zv.cells.size=sz:=by
 obtain ⟨i,zv,hi,hz,hr⟩:=zgv h3
 refine ⟨i,zv,hi,?_,?_,hz,?_⟩
 ·unfold zck at h1;rw [hi] at h1;simpa using h1
 ·unfold zfr at h2;rw [hi] at h2;simpa using h2
 ·have:=(hr (fun _=>none)).length
  simp at this;omega
theorem zj4 (hr:HR B ι h.get w) (hf:∀ i,h.next≤i→ι i=none) {t tx ty e sz b n sLen sCap:Nat} {z:List CV} {base:Option Addr} {x:Value} {olds news:List Value} {lo ln:List CV}
  (ht:P.underlying t=some (.slice e)) (h1:zck P e=some sz) (h2:zfr P e=some b) (h3:zfs P e=some z) (h4:z.length=sz) (hb:b≤1024)
  (hold:(Builtin.firstCells sz sLen (.slice base sLen sCap)).run P w.drew = .ok olds.toArray w.drew) (hlo:All2 (CR ι) lo olds) (hlol:lo.length=sLen * sz)
  (hs:Src P sz tx x n news w) (hln:All2 (CR ι) ln news) (hg:sCap < sLen + n) (hsmall:sLen + n≤1073741824) :
  ∃ v w' ι',(Builtin.append_ #[t,tx] ty #[.slice base sLen sCap,x]).run P w = .ok v w'∧CR ι' (.sl h.next 0 (sLen + n) (.dy sz)) v∧Post B ι h w ι' (h.new (.cells (lo++ln))) w':=by
 obtain ⟨i,zv,hi,e1,e2,hz,e3⟩:=zn2 h1 h2 h3 h4
 subst e1;subst e2
 have hfit:Builtin.nextslicecap (sLen + n) sCap * i.bytes≤281474976710656:=by
  have:=nextslicecap_le hg
  exact Nat.le_trans (Nat.mul_le_mul (by omega:_≤2147484648) hb) (by decide)
 have hrun:=run_append_grow_src (P:=P) w t tx ty e i zv ht hi hz base sLen sCap olds hold x n news hs hg (by omega) hfit
 have hcap:=grownCap_ge w (sLen + n) sCap e
 let cap:=grownCap w (sLen + n) sCap e
 let cs:Array Value:=(olds++news).toArray++Builtin.zeroCells zv.cells (cap - (sLen + n))
 have hsize:cs.size=cap * i.size:=by
  have ho:olds.length=sLen * i.size:=by rw [← hlo.length,hlol]
  have hn:=hs.newsLen
  show ((olds++news).toArray++Builtin.zeroCells zv.cells (cap - (sLen + n))).size=_
  rw [Array.size_append,Builtin.zeroCells,Array.size_map,Array.size_range,e3]
  rw [List.size_toArray,List.length_append,ho,hn,← Nat.add_mul,← Nat.add_mul]
  congr 1
  show sLen + n + (cap - (sLen + n))=cap
  have:sLen + n≤cap:=hcap
  omega
 have hnew:NewOK B ι w (fun j=>.c (.sl j 0 (sLen + n) (.dy i.size))) (.cells (lo++ln)) (.slice (some ⟨w.heap.size,0,none⟩) (sLen + n) cap) (w.drew.alloc (.cells cs e)):=by
  refine ⟨cs.size,zfu w (w.drawn + 1) (.cells cs e),rfl,fun j hj=>⟨?_,?_⟩⟩
  ·refine ⟨w.heap.size,0,_,_,cap,Inj.put_at,rfl,hcap,fun _=>by simp,?_⟩
   show 0 + cap * i.size≤cs.size
   omega
  ·have hall:=hlo.append hln
   refine ⟨hr.base,cs,e,(0,0),zjp (w:=w) (w.drawn + 1) _,by simp,?_,.inl rfl,fun k y hy=>?_⟩
   ·rw [hall.length,hsize]
    have ho:olds.length=sLen * i.size:=by rw [← hlo.length,hlol]
    rw [List.length_append,ho,hs.newsLen,← Nat.add_mul]
    exact Nat.mul_le_mul_right _ hcap
   ·obtain ⟨v,hv,hc⟩:=hall.get _ _ hy
    refine ⟨v,?_,hc.mono (Inj.put_le hj)⟩
    have hk:k < (olds++news).length:=by
     rcases Nat.lt_or_ge k (olds++news).length with h' | h'
     ·exact h'
     ·rw [List.getElem?_eq_none h'] at hv;cases hv
    show cs[0 + k]? = some v
    rw [Nat.zero_add]
    show ((olds++news).toArray++Builtin.zeroCells zv.cells (cap - (sLen + n)))[k]? = some v
    rw [Array.getElem?_append_left (by simpa using hk)]
    simpa using hv
 obtain ⟨ι',ha,hp⟩:=hnew.post hr hf
 exact ⟨_,_,ι',hrun,ha,hp⟩
theorem Post.weaken {h' h'':Heap} {ι':Inj} {w':World} (p:Post B ι h w ι' h' w') (hs:Sub h''.get h'.get) (hn:h''.next=h'.next):Post B ι h w ι' h'' w':=by
 refine ⟨by rw [hn];exact p.next,p.same,fun i hi hg=>?_,p.rel.sub hs,by rw [hn];exact p.fresh,?_⟩
 ·cases hx:h''.get i with
  | none=>rfl
  | some k=>have:=hs i k hx;rw [p.dead i hi hg] at this;cases this
 ·exact ⟨p.fr.os,p.fr.output,p.fr.tape,p.fr.size,p.fr.keep,fun b hb=>p.fr.own b (hb.sub hs)⟩
theorem zuf (hr:HR B ι h.get w) (hf:∀ i,h.next≤i→ι i=none) {t tx ty:TypeId} {p:Nat × Nat} {a b r:AV} {s x:Value} {h':Heap} (hel:elemOf P t=some p) (hk:zek P p.1 tx=true) (ha:AR ι a s) (hb:AR ι b x)
  (he:zdw h p.1 a b=some (r,h')):∃ v w' ι',(Builtin.append_ #[t,tx] ty #[s,x]).run P w = .ok v w'∧AR ι' r v∧Post B ι h w ι' h' w':=by
 obtain ⟨e,z,ht,h1,h2,h3,h4,h5,h6,h7⟩:=zj3 hel
 obtain ⟨i,zv,hi,e1,e2,hz,e3⟩:=zn2 h1 h2 h3 h4
 unfold zdw at he
 split at he
 ·cases he
 ·rename_i n new hsrc
  obtain ⟨vs,hs,hvs⟩:=zps (P:=P) hr hsrc hb hk
  have nothing:∀ (base:Option Addr) (sLen sCap:Nat),n=0→sLen≤sCap→(Builtin.append_ #[t,tx] ty #[.slice base sLen sCap,x]).run P w = .ok (.slice base sLen sCap) w:=by
   intro base sLen sCap h0 hle
   subst h0
   have:vs=[]:=List.eq_nil_of_length_eq_zero (by rw [hs.newsLen];simp)
   subst this
   rw [← e1] at hs
   exact run_append_nothing (P:=P) w t tx ty e i ht hi base sLen sCap hle x hs
  split at he
  ·simp only [AR,CR] at ha;subst ha
   split at he
   ·simp only [Option.some.injEq,Prod.mk.injEq] at he
    obtain ⟨rfl,rfl⟩:=he
    exact ⟨_,w,ι,nothing none 0 0 rfl (Nat.le_refl _),rfl,Post.refl hr hf⟩
   ·rename_i m
    cases hc:Nat.ble (m + 1) 1073741824 with
    | false=>rw [hc] at he;cases he
    | true =>
     rw [hc] at he;simp only [cond_true,Option.some.injEq,Prod.mk.injEq] at he
     obtain ⟨rfl,rfl⟩:=he
     have hc':=Nat.le_of_ble_eq_true hc
     obtain ⟨v,w',ι',q1,q2,q3⟩:=zj4 (P:=P) (ty:=ty) hr hf (olds:=[]) (lo:=[]) (base:=none) (sLen:=0) (sCap:=0) ht h1 h2 h3 h4 h7 rfl trivial (by simp) hs hvs (by omega) (by omega)
     have q2':CR ι' (.sl h.next 0 (m + 1) (.dy p.1)) v:=by simpa using q2
     exact ⟨v,w',ι',q1,q2',by simpa using q3⟩
  ·rename_i i0 o len c
   obtain ⟨bb,base,lim,ad,cap,hi0,rfl,hlc,had,hcap⟩:=ha
   split at he
   ·simp only [Option.some.injEq,Prod.mk.injEq] at he
    obtain ⟨rfl,rfl⟩:=he
    exact ⟨_,w,ι,nothing (some ad) len cap rfl hlc,⟨bb,base,lim,ad,cap,hi0,rfl,hlc,had,hcap⟩,Post.refl hr hf⟩
   ·rename_i m
    cases hc:Nat.ble (len + (m + 1)) 1073741824 with
    | false=>rw [hc] at he;cases he
    | true =>
     rw [hc] at he;simp only [cond_true] at he
     have hc':=Nat.le_of_ble_eq_true hc
     split at he
     ·rename_i k
      have hk':cap=k:=hcap
      subst hk'
      cases hroom:Nat.ble (len + (m + 1)) cap with
      | true =>
       rw [hroom] at he;simp only [cond_true] at he
       have hroom':=Nat.le_of_ble_eq_true hroom
       split at he
       ·rename_i h1' hw
        simp only [Option.some.injEq,Prod.mk.injEq] at he
        obtain ⟨rfl,rfl⟩:=he
        obtain ⟨w',s1,s2⟩:=zja (P:=P) hr hf hw hi0 hvs
        refine ⟨.slice (some ad) (len + (m + 1)) cap,w',ι,?_,⟨bb,base,lim,ad,cap,hi0,rfl,hroom',had,rfl⟩,s2⟩
        obtain ⟨l0,l1,hg,hp,_⟩:=zoj hw
        obtain ⟨p1,_⟩:=zh6 hp
        obtain ⟨b',base',lim',hi',hB,c,e',fz,hbk,hlim,hll,hfz,hcells⟩:=hr.at_ _ _ hg
        rw [hi0] at hi';simp only [Option.some.injEq,Prod.mk.injEq] at hi'
        obtain ⟨rfl,rfl,rfl⟩:=hi'
        have hvl:new.length=vs.length:=hvs.length
        rw [had (by omega)]
        rw [← e1] at hs
        have hst:=zlz (P:=P) (off:=base + (o + len * p.1)) (vs:=vs) hbk hfz (by omega) hs.one
        rw [s1] at hst
        simp only [Result.ok.injEq,true_and] at hst
        have hcell:∀ j,j < vs.length→(w.cell? ⟨bb,base + o + len * i.size + j,none⟩).isSome=true:=fun j hj=>by
         have:base + o + len * i.size + j < c.size:=by rw [e1];omega
         simp only [World.cell?,hbk,Option.isSome_none,Bool.false_eq_true,if_false]
         simp [this]
        have hfr:∀ j,j < vs.length→w.frozen? ⟨bb,base + o + len * i.size + j,none⟩=false:=fun j hj=>by
         have:base + o + len * i.size + j < c.size:=by rw [e1];omega
         obtain ⟨lo',hi'⟩:=fz
         simp only [World.frozen?,hbk]
         simp only at hfz
         rcases hfz with h' | h'
         ·subst h'
          cases hd:decide (lo'≤base + o + len * i.size + j) with
          | false=>rfl
          | true=>simp at hd ⊢;omega
         ·simp;omega
        have:=run_append_room_src (P:=P) w t tx ty e i ht hi bb (base + o) len cap x (m + 1) vs hs hroom' hcell hfr
        rw [this,hst,e1,Nat.add_assoc]
       ·cases he
      | false =>
       rw [hroom] at he;simp only [cond_false] at he
       have hroom':cap < len + (m + 1):=by
        rcases Nat.lt_or_ge cap (len + (m + 1)) with h' | h'
        ·exact h'
        ·rw [Nat.ble_eq_true_of_le h'] at hroom;cases hroom
       split at he
       ·rename_i old hold
        simp only [Option.some.injEq,Prod.mk.injEq] at he
        obtain ⟨rfl,rfl⟩:=he
        have hsrc0:source h p.1 (.c (.sl i0 o len (.ex cap)))=some (len,old):=by simp only [source,hold]
        obtain ⟨olds,hso,hvo⟩:=zps (P:=P) hr hsrc0 (show AR ι (.c (.sl i0 o len (.ex cap))) (.slice (some ad) len cap) from ⟨bb,base,lim,ad,cap,hi0,rfl,hlc,had,rfl⟩) (tx:=t) (by simp [zek,ht,h1])
        have hol:old.length=len * p.1:=by rw [hvo.length,hso.newsLen]
        exact zj4 (P:=P) (ty:=ty) hr hf ht h1 h2 h3 h4 h7 hso.cellsD hvo hol hs hvs hroom' hc'
       ·cases he
     ·rename_i sz'
      split at he
      ·rename_i l hg
       cases hcd:(p.1 == sz' && Nat.ble (o + len * p.1) l.length) with
       | false=>rw [hcd] at he;cases he
       | true =>
        rw [hcd] at he;simp only [cond_true,Option.some.injEq,Prod.mk.injEq] at he
        obtain ⟨rfl,rfl⟩:=he
        simp only [Bool.and_eq_true,beq_iff_eq,Nat.ble_eq] at hcd
        obtain ⟨hsz',hend⟩:=hcd
        subst hsz'
        have hL:((l.drop o).take (len * p.1)).length=len * p.1:=by rw [List.length_take,List.length_drop];omega
        have hLg:∀ k,k < len * p.1→((l.drop o).take (len * p.1))[k]? = l[o + k]?:=fun k hk=>by rw [List.getElem?_take_of_lt hk,List.getElem?_drop]
        generalize hLd:(l.drop o).take (len * p.1)=L at *
        have hcap':o + cap * p.1≤lim:=hcap
        obtain ⟨b',base',lim',hi',hB,c,e',fz,hbk,hlim,hll,hfz,hcells⟩:=hr.at_ _ _ hg
        rw [hi0] at hi';simp only [Option.some.injEq,Prod.mk.injEq] at hi'
        obtain ⟨rfl,rfl,rfl⟩:=hi'
        have hvl:new.length=vs.length:=hvs.length
        have hvn:vs.length=(m + 1) * p.1:=hs.newsLen
        have hpos:0 < p.1:=Nat.pos_of_ne_zero h5
        rcases Nat.lt_or_ge cap (len + (m + 1)) with hroom | hroom
        ·have hold:h.read i0 o (len * p.1)=some L:=by
          simp only [Heap.read,hg,cut]
          rw [Nat.ble_eq_true_of_le (by omega)]
          simp only [cond_true,hLd]
         have hsrc0:source h p.1 (.c (.sl i0 o len (.dy p.1)))=some (len,L):=by simp only [source,hold]
         obtain ⟨olds,hso,hvo⟩:=zps (P:=P) hr hsrc0 (show AR ι (.c (.sl i0 o len (.dy p.1))) (.slice (some ad) len cap) from ⟨bb,base,lim,ad,cap,hi0,rfl,hlc,had,hcap⟩) (tx:=t) (by simp [zek,ht,h1])
         have hol:=hL
         obtain ⟨v,w',ι',q1,q2,q3⟩:=zj4 (P:=P) (ty:=ty) hr hf ht h1 h2 h3 h4 h7 hso.cellsD hvo hol hs hvs hroom hc'
         refine ⟨v,w',ι',q1,q2,q3.weaken ?_ rfl⟩
         intro j kj hj
         rw [Heap.get_new,Heap.get_kill] at hj
         rw [Heap.get_new]
         by_cases ej:j=h.next
         ·subst ej;simpa [upd,Heap.kill] using hj
         ·have ej':j≠(h.kill i0).next:=ej
          simp only [upd,ej',if_false] at hj
          simp only [upd,ej,if_false]
          split at hj
          ·cases hj
          ·exact hj
        ·have hcapz:cap≠0:=by omega
         have hmul:(len + (m + 1)) * p.1≤cap * p.1:=Nat.mul_le_mul_right _ hroom
         rw [Nat.add_mul] at hmul
         have hle:base + (o + len * p.1) + vs.length≤c.size:=by omega
         obtain ⟨c',q1,q2,q3,q4,q5,q6,q7,q8⟩:=zhw bb vs (base + (o + len * p.1)) w c e' fz hbk hle
         have hcell:∀ j,j < vs.length→(w.cell? ⟨bb,base + o + len * i.size + j,none⟩).isSome=true:=fun j hj=>by
          have:base + o + len * i.size + j < c.size:=by rw [e1];omega
          simp only [World.cell?,hbk,Option.isSome_none,Bool.false_eq_true,if_false]
          simp [this]
         have hfr:∀ j,j < vs.length→w.frozen? ⟨bb,base + o + len * i.size + j,none⟩=false:=fun j hj=>by
          have:base + o + len * i.size + j < c.size:=by rw [e1];omega
          obtain ⟨lo',hi'⟩:=fz
          simp only [World.frozen?,hbk]
          simp only at hfz
          rcases hfz with h' | h'
          ·subst h'
           cases hd:decide (lo'≤base + o + len * i.size + j) with
           | false=>rfl
           | true=>simp at hd ⊢;omega
          ·simp;omega
         have hs':=hs
         rw [← e1] at hs'
         have hrun:=run_append_room_src (P:=P) w t tx ty e i ht hi bb (base + o) len cap x (m + 1) vs hs' hroom hcell hfr
         have hle':Le ι (ι.put h.next (bb,base + o,lim - o)):=Inj.put_le (hf _ (Nat.le_refl _))
         have hoff:base + o + len * i.size=base + (o + len * p.1):=by rw [e1];omega
         refine ⟨.slice (some ⟨bb,base + o,none⟩) (len + (m + 1)) cap,w.setCells bb (base + (o + len * p.1)) vs,ι.put h.next (bb,base + o,lim - o),?_,?_,?_⟩
         ·rw [had hcapz,hrun,hoff]
         ·exact ⟨bb,base + o,lim - o,_,cap,Inj.put_at,rfl,hroom,fun _=>by simp,by show 0 + cap * p.1≤lim - o;omega⟩
         ·refine Post.take hr hf hg rfl rfl hi0 ?_ (by rw [q5];exact Nat.le_refl _) (fun x hx _=>q4 x hx) q6 q7 q8
          refine ⟨hB,c',e',fz,q1,by omega,by rw [List.length_append,hL];omega,by rw [q2];exact hfz,fun j y hy=>?_⟩
          rw [q3]
          by_cases hj:j < L.length
          ·rw [List.getElem?_append_left hj,hLg j (by omega)] at hy
           rw [hL] at hj
           rw [if_neg (by omega)]
           obtain ⟨v,hv,hcr⟩:=hcells _ _ hy
           exact ⟨v,by rw [Nat.add_assoc];exact hv,hcr.mono hle'⟩
          ·rw [List.getElem?_append_right (by omega)] at hy
           rw [hL] at hj hy
           obtain ⟨v,hv,hcr⟩:=hvs.get _ _ hy
           have hjl:j - len * p.1 < vs.length:=by
            rcases Nat.lt_or_ge (j - len * p.1) vs.length with h' | h'
            ·exact h'
            ·rw [List.getElem?_eq_none h'] at hv;cases hv
           rw [if_pos (by omega)]
           refine ⟨v,?_,hcr.mono hle'⟩
           rw [show base + o + j - (base + (o + len * p.1))=j - len * p.1 by omega]
           exact hv
      ·cases he
  ·cases he
theorem zsb (hr:HR B ι h.get w) (hf:∀ i,h.next≤i→ι i=none) {t tx ty:TypeId} {p:Nat × Nat} {z:List CV} {a b r:AV} {s x:Value} {h':Heap} (hel:elemOf P t=some p) (hk:zn0 P t tx=some z) (ha:AR ι a s) (hb:AR ι b x)
  (he:zjj h p.1 z a b=some (r,h')):∃ v w' ι',(Builtin.append_ #[t,tx] ty #[s,x]).run P w = .ok v w'∧AR ι' r v∧Post B ι h w ι' h' w':=by
 obtain ⟨e,z',ht,h1,h2,h3,h4,h5,h6,h7⟩:=zj3 hel
 unfold zn0 at hk
 rw [ht] at hk
 split at hk
 ·rename_i e0 q hte hq
  simp only [Option.some.injEq,TypeDesc.slice.injEq] at hte
  subst hte
  rw [h3] at hk
  simp only [Option.some.injEq] at hk
  subst hk
  obtain ⟨i,zv,hi,e1,e2,hz,e3⟩:=zn2 h1 h2 h3 h4
  obtain ⟨i',zv',hi',hz',hrel⟩:=zgv h3
  rw [hi] at hi';simp only [Option.some.injEq] at hi';subst hi'
  rw [hz] at hz';simp only [Option.some.injEq] at hz';subst hz'
  unfold zjj at he
  split at he
  ·rename_i m hm
   simp only [AR,CR] at ha;subst ha
   obtain ⟨kk,hkk⟩:=zej hm hb
   subst hkk
   split at he
   ·simp only [Option.some.injEq,Prod.mk.injEq] at he
    obtain ⟨rfl,rfl⟩:=he
    refine ⟨_,w,ι,?_,rfl,Post.refl hr hf⟩
    have hw0:IntKind.i64.wrap (Int.ofNat 0)=0:=zgx (by omega)
    have hw0':IntKind.i64.wrap 0=0:=hw0
    simp [Builtin.append_,run_underlying ht,run_underlying hq,Go.sizeOf,typeInfo,hi,asInt,asIntOf,hw0']
   ·rename_i m
    cases hc:Nat.ble (m + 1) 1048576 with
    | false=>rw [hc] at he;cases he
    | true =>
     rw [hc] at he;simp only [cond_true,Option.some.injEq,Prod.mk.injEq] at he
     obtain ⟨rfl,rfl⟩:=he
     have hc':=Nat.le_of_ble_eq_true hc
     have hw1:IntKind.i64.wrap ((m:Int) + 1)=(m:Int) + 1:=zgx (n:=m + 1) (by omega)
     have hg:0 < 0 + (m + 1):=by omega
     have hn : ¬ (m + 1≤0):=by omega
     have hns : ¬ ((m + 1) * i.size=0):=by
      rw [e1];exact Nat.mul_ne_zero (by omega) h5
     have hfit:Builtin.nextslicecap (m + 1) 0 * i.bytes≤281474976710656:=by
      have:=nextslicecap_le hg
      rw [Nat.zero_add] at this
      exact Nat.le_trans (Nat.mul_le_mul (by omega:_≤2147484648) (by omega:i.bytes≤1024)) (by decide)
     have hfit' : ¬ (281474976710656 < Builtin.nextslicecap (m + 1) 0 * i.bytes):=by omega
     have hb48 : ¬ (281474976710656 < ((m:Int) + 1) * (i.bytes:Int)):=by
      have:(m + 1) * i.bytes≤281474976710656:=Nat.le_trans (Nat.mul_le_mul (by omega:m + 1≤1048576) (by omega:i.bytes≤1024)) (by decide)
      have e5:((m:Int) + 1) * (i.bytes:Int)=(((m + 1) * i.bytes:Nat):Int):=by push_cast;rfl
      omega
     have h63 : ¬ (9223372036854775807 < (m:Int) + 1):=by omega
     have hneg : ¬ ((m:Int) + 1 < 0):=by omega
     have hneg' : ¬ ((m:Int) + 1≤0):=by omega
     have hmx:max ((m:Int) + 1) 0=(m:Int) + 1:=by omega
     have htn:((m:Int) + 1).toNat=m + 1:=by omega
     have hcap:=grownCap_ge w (m + 1) 0 e
     let cap:=grownCap w (m + 1) 0 e
     let cs:Array Value:=Builtin.zeroCells zv.cells (m + 1)++Builtin.zeroCells zv.cells (cap - (m + 1))
     have hrun:(Builtin.append_ #[t,tx] ty #[.slice none 0 0,.int kk (Int.ofNat (m + 1))]).run P w = .ok (.slice (some ⟨w.heap.size,0,none⟩) (m + 1) cap) (w.drew.alloc (.cells cs e)):=by
      simp [Builtin.append_,run_underlying ht,run_underlying hq,Go.sizeOf,typeInfo,zeroValue,hi,hz,asInt,asIntOf,hw1,hneg,hneg',hmx,hb48,htn,hns,h63,hfit',Question.forced,newRow,grownCap,Builtin.firstCells,cs,cap]
     have hzc:(Builtin.zeroCells zv.cells (m + 1)).size=(m + 1) * p.1:=by simp [Builtin.zeroCells,e3]
     have hsize:cs.size=cap * p.1:=by
      show (Builtin.zeroCells zv.cells (m + 1)++Builtin.zeroCells zv.cells (cap - (m + 1))).size=_
      rw [Array.size_append,hzc,Builtin.zeroCells,Array.size_map,Array.size_range,e3,← Nat.add_mul]
      congr 1
      have:m + 1≤cap:=hcap
      omega
     have hnew:NewOK B ι w (fun j=>.c (.sl j 0 (m + 1) (.dy p.1))) (.cells (zeros (m + 1) z')) (.slice (some ⟨w.heap.size,0,none⟩) (m + 1) cap) (w.drew.alloc (.cells cs e)):=by
      refine ⟨cs.size,zfu w (w.drawn + 1) (.cells cs e),rfl,fun j hj=>⟨?_,?_⟩⟩
      ·refine ⟨w.heap.size,0,_,_,cap,Inj.put_at,rfl,hcap,fun _=>by simp,?_⟩
       show 0 + cap * p.1≤cs.size
       omega
      ·have hall:=zkx (hrel ι) (m + 1) ((m + 1) * zv.cells.size) rfl
       refine ⟨hr.base,cs,e,(0,0),zjp (w:=w) (w.drawn + 1) _,by simp,?_,.inl rfl,fun k y hy=>?_⟩
       ·rw [zeros_length,h4,hsize]
        exact Nat.mul_le_mul_right _ hcap
       ·obtain ⟨v,hv,hcr⟩:=hall.get _ _ hy
        refine ⟨v,?_,hcr.mono (Inj.put_le hj)⟩
        have hkl:k < (zeros (m + 1) z').length:=by
         rcases Nat.lt_or_ge k (zeros (m + 1) z').length with h' | h'
         ·exact h'
         ·rw [List.getElem?_eq_none h'] at hy;cases hy
        rw [zeros_length,h4] at hkl
        show cs[0 + k]? = some v
        rw [Nat.zero_add]
        show (Builtin.zeroCells zv.cells (m + 1)++Builtin.zeroCells zv.cells (cap - (m + 1)))[k]? = some v
        rw [Array.getElem?_append_left (by rw [hzc];exact hkl),← Array.getElem?_toList]
        exact hv
     obtain ⟨ι',ha,hp⟩:=hnew.post hr hf
     exact ⟨_,_,ι',hrun,ha,hp⟩
  ·cases he
 ·cases hk
theorem zsc (hr:HR B ι h.get w) (hf:∀ i,h.next≤i→ι i=none) {t tx ty:TypeId} {p:Nat × Nat} {a b r:AV} {d x:Value} {h':Heap} (hel:elemOf P t=some p) (ha:AR ι a d) (hb:AR ι b x)
  (he:zij h p.1 a b=some (r,h')):∃ v w' ι',(Builtin.copy_ #[t,tx] ty #[d,x]).run P w = .ok v w'∧AR ι' r v∧Post B ι h w ι' h' w':=by
 obtain ⟨e,z,ht,h1,h2,h3,h4,h5,h6,h7⟩:=zj3 hel
 unfold zij at he
 split at he
 ·cases he
 ·rename_i n new hsrc
  obtain ⟨hlen,hnl,hcells⟩:=zk0 (P:=P) hr hsrc hb
  split at he
  ·simp only [AR,CR] at ha;subst ha
   simp only [Option.some.injEq,Prod.mk.injEq] at he
   obtain ⟨rfl,rfl⟩:=he
   obtain ⟨vs,hv,hvs⟩:=hcells 0 (Nat.zero_le _)
   refine ⟨goInt (0:Nat),w,ι,?_,rfl,Post.refl hr hf⟩
   simp [Builtin.copy_,run_underlying ht,hlen,zds h1,hv w rfl]
  ·rename_i i0 o len c
   obtain ⟨bb,base,lim,ad,cap,hi0,rfl,hlc,had,hcap⟩:=ha
   split at he
   ·rename_i h1' hw
    simp only [Option.some.injEq,Prod.mk.injEq] at he
    obtain ⟨rfl,rfl⟩:=he
    obtain ⟨vs,hv,hvs⟩:=hcells (min n len) (Nat.min_le_left _ _)
    obtain ⟨w',s1,s2⟩:=zja (P:=P) hr hf hw hi0 hvs
    refine ⟨goInt (min n len:Nat),w',ι,?_,rfl,s2⟩
    have hm:Nat.min n len=min n len:=rfl
    by_cases h0:cap=0
    ·have hl0:len=0:=by omega
     subst hl0
     have hvs0:vs=[]:=by
      apply List.eq_nil_of_length_eq_zero
      rw [← hvs.length];simp
     subst hvs0
     have hw':w'=w:=by
      have e0:(storeCells ⟨bb,base + o,none⟩ []).run P w = .ok () w:=rfl
      rw [e0] at s1;simpa using s1.symm
     subst hw'
     have hv0:=hv _ rfl
     simp only [Nat.min_zero] at hv0
     have hm0:Nat.min n 0=0:=Nat.min_zero n
     simp [Builtin.copy_,run_underlying ht,hlen,hm0,zds h1,hv0,storeCells]
    ·rw [had h0]
     have hvw:=hv w rfl
     simp [Builtin.copy_,run_underlying ht,hlen,hm,zds h1,hvw,s1]
   ·cases he
  ·cases he
end
end Lav
