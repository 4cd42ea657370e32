import Derived.KernelRfl
import Derived.Test.YtpceddbicolfeaaGreatK13
set_option maxRecDepth 100000
set_option linter.unusedVariables false
namespace Lav.M
open Go (IntKind)
abbrev By:=List (BitVec 8)
theorem zrf {st st':Nat→Int} {v v':Int}:∀ {out:List Nat},(∀ j∈out,v < st j↔v' < st' j)→zdx st v out=zdx st' v' out:=by
 intro out h
 unfold zdx
 have h':∀ j∈out.reverse,decide (v < st j)=decide (v' < st' j):=fun j hj=>decide_eq_decide.2 (h j (by simpa using hj))
 generalize out.reverse=l at h'
 induction l with
 | nil=>rfl
 | cons a l ih =>
  rw [List.dropWhile_cons,List.dropWhile_cons,h' a (by simp)]
  split
  ·exact ih fun j hj=>h' j (by simp [hj])
  ·rfl
theorem zko (st:Nat→Int):∀ n,∀ j∈zby st n,0 < st j
 | 0,j,h=>by simp [zby] at h
 | n + 1,j,h=>by
  unfold zby at h
  split at h
  ·exact zko st n j h
  ·rename_i hn
   rcases List.mem_append.1 h with h1 | h1
   ·exact zko st n j (List.mem_of_mem_take h1)
   ·rcases List.mem_cons.1 h1 with rfl | h1
    ·omega
    ·exact zko st n j (List.mem_of_mem_drop h1)
theorem zkp {st st':Nat→Int}:∀ n,(∀ i,i < n→(st i≤0↔st' i≤0))→(∀ i j,i < n→j < n→0 < st i→0 < st j→(st i < st j↔st' i < st' j))→zby st n=zby st' n
 | 0,_,_=>rfl
 | n + 1,h1,h2=>by
  have ih:=zkp (st:=st) (st':=st') n (fun i hi=>h1 i (by omega)) (fun i j hi hj=>h2 i j (by omega) (by omega))
  unfold zby
  by_cases hn:st n≤0
  ·rw [if_pos hn,if_pos ((h1 n (by omega)).1 hn)];exact ih
  ·rw [if_neg hn,if_neg fun h=>hn ((h1 n (by omega)).2 h),← ih]
   have e:zdx st (st n) (zby st n)=zdx st' (st' n) (zby st n):=zrf fun j hj=>h2 n j (by omega) (by have:=zf9 st n j hj;omega) (by omega) (zko st n j hj)
   rw [e]
structure Alike (l l':List Ev):Prop where
 len:l'.length=l.length
 ev:∀ i,i < l.length→(zbh l' i).cl=(zbh l i).cl∧(zbh l' i).op=(zbh l i).op∧(zbh l' i).rs=(zbh l i).rs∧((zbh l' i).en > 0↔(zbh l i).en > 0)∧((zbh l' i).en=0↔(zbh l i).en=0)∧((zbh l i).st≤0↔(zbh l' i).st≤0)
 lt:∀ i j,i < l.length→j < l.length→0 < (zbh l i).st→0 < (zbh l j).st→((zbh l i).st < (zbh l j).st↔(zbh l' i).st < (zbh l' j).st)
theorem ziy {l:List Ev} {i:Nat} (hi:i < l.length):stL l i=(zbh l i).st:=by
 unfold stL;rw [zhs hi];rfl
theorem Alike.ord {l l':List Ev} (A:Alike l l'):zby (stL l) l.length=zby (stL l') l'.length:=by
 rw [A.len]
 refine zkp _ (fun i hi=>?_) fun i j hi hj h1 h2=>?_
 ·rw [ziy hi,ziy (by rw [A.len];exact hi)];exact (A.ev i hi).2.2.2.2.2
 ·rw [ziy hi] at h1 ⊢
  rw [ziy hj] at h2 ⊢
  rw [ziy (by rw [A.len];exact hi),ziy (by rw [A.len];exact hj)]
  exact A.lt i j hi hj h1 h2
theorem Alike.step {l l':List Ev} (A:Alike l l') {i:Nat} (hi:i < l.length) (s:MS):zc9 s (zbh l' i)=zc9 s (zbh l i):=by
 obtain ⟨h1,h2,h3,h4,h5,_⟩:=A.ev i hi
 unfold zc9
 rw [h1,h2,h3]
 have e1:((zbh l' i).en == 0)=((zbh l i).en == 0):=by rw [Bool.eq_iff_iff];simpa using h5
 rw [e1]
 by_cases c:(zbh l i).en > 0
 ·simp only [c,h4.2 c]
 ·simp only [c]
  have : ¬ (zbh l' i).en > 0:=fun h=>c (h4.1 h)
  simp only [this]
theorem Alike.ok {l l':List Ev} (A:Alike l l'):∀ {o:List Nat} {s:MS},(∀ j∈o,j < l.length)→okG l s o=okG l' s o∧zd1 l s o=zd1 l' s o
 | [],s,_=>⟨rfl,rfl⟩
 | j :: o,s,h=>by
  have e:=A.step (h j (by simp)) s
  obtain ⟨h1,h2⟩:=Alike.ok A (o:=o) (s:=(zc9 s (zbh l j)).2) fun k hk=>h k (by simp [hk])
  unfold okG zd1
  rw [e,h1,h2]
  exact ⟨rfl,rfl⟩
theorem Alike.okG {l l':List Ev} (A:Alike l l') (s:MS):Lav.okG l s (zby (stL l) l.length)=Lav.okG l' s (zby (stL l') l'.length):=by
 rw [← A.ord];exact (A.ok fun j hj=>zf9 _ _ j hj).1
theorem Alike.fin {l l':List Ev} (A:Alike l l') (p c:Nat):zer l p c=zer l' p c:=by
 unfold zer
 rw [← A.ord];exact (A.ok fun j hj=>zf9 _ _ j hj).2
def NoFlush (l:List Ev):Prop:=∀ e∈l,e.op.kd≠6∧e.op.kd≠7
theorem NoFlush.at_ {l:List Ev} (h:NoFlush l) (j:Nat):(zbh l j).op.kd≠6∧(zbh l j).op.kd≠7:=by
 by_cases hj:j < l.length
 ·exact h _ (by unfold zbh;rw [List.getD_eq_getElem?_getD,List.getElem?_eq_getElem hj];exact List.getElem_mem hj)
 ·have:zbh l j=default:=by unfold zbh;rw [List.getD_eq_getElem?_getD,List.getElem?_eq_none (by omega)];rfl
  rw [this]
  exact ⟨by decide,by decide⟩
theorem zqm {l:List Ev} {g:Nat} (h:NoFlush l):∀ {o:List Nat} {s:MS} {b:Int},(flG l g s b o).1=b
 | [],_,_=>rfl
 | j :: o,s,b=>by
  have hc:ze2 s (zbh l j) g=false:=by
   obtain ⟨h1,h2⟩:=h.at_ j
   unfold ze2
   have e1:((zbh l j).op.kd == 6)=false:=by simpa using h1
   have e2:((zbh l j).op.kd == 7)=false:=by simpa using h2
   rw [e1,e2];simp
  unfold flG
  rw [hc,if_neg (by decide)]
  exact zqm h
theorem ztm {l:List Ev} (h:NoFlush l) (p c g:Nat):zid l p c g (List.replicate 24 0#8)=true:=by
 have e:zg8 g (List.replicate 24 0#8)=11:=by unfold zg8;rw [if_pos rfl]
 unfold zid zg7
 rw [e,if_pos rfl,zqm h];rfl
def bv (l:List Nat):By:=l.map (BitVec.ofNat 8)
def z (n:Nat):By:=List.replicate n 0#8
def base9:List Ev:=[⟨0,⟨1,0,0,0,0,[]⟩,⟨0,0,0,[]⟩,1,3,3⟩,⟨0,⟨4,0,0,0,0,bv [97]⟩,⟨0,0,0,[]⟩,4,7,7⟩,⟨0,⟨5,0,0,0,0,[]⟩,⟨0,0,0,[]⟩,9,12,12⟩,⟨1,⟨1,0,0,0,0,[]⟩,⟨0,1,0,[]⟩,14,17,17⟩,⟨1,⟨4,0,0,0,0,bv [98]⟩,⟨0,0,0,[]⟩,19,22,22⟩,⟨1,⟨5,0,0,0,0,[]⟩,⟨0,0,0,[]⟩,24,27,27⟩,⟨2,⟨1,0,0,0,0,[]⟩,⟨0,2,0,[]⟩,29,32,32⟩,⟨2,⟨4,0,0,0,0,bv [99]⟩,⟨0,0,0,[]⟩,34,37,37⟩,⟨2,⟨5,0,0,0,0,[]⟩,⟨0,0,0,[]⟩,39,42,42⟩]
def fe (b:Bool) (c bg t:Int):Ev:=⟨c,⟨2,1,0,0,0,[]⟩,bif b then ⟨0,1,0,[]⟩ else okR,bg,bif b then t else 0,bif b then t else 0⟩
def sameL (b0 b1 b2:Bool) (t0 t1 t2:Int):List Ev:=base9++[fe b0 0 44 t0,fe b1 1 45 t1,fe b2 2 46 t2]
def rowF (b:Bool):List Int:=bif b then [1,-1,-1,-1,-1,-1] else [-1,-1,-1,-1,-1,-1]
structure Ends (b0 b1 b2:Bool) (t0 t1 t2 now:Int):Prop where
 n:46≤now
 e0:b0=true→46 < t0∧t0≤now
 e1:b1=true→46 < t1∧t1≤now
 e2:b2=true→46 < t2∧t2≤now
def zhj (b0 b1 b2:Bool):Bool:=[43,44,45].all fun r0=>[43,44,45].all fun r1=>[43,44,45].all fun r2 =>
 okG (sameL b0 b1 b2 r0 r1 r2) (zc6 8 3) (zby (stL (sameL b0 b1 b2 r0 r1 r2)) 12) && ((zer (sameL b0 b1 b2 r0 r1 r2) 8 3).hs == [rowF b0,rowF b1,rowF b2])
theorem zvc:(zhj false false false && zhj false false true && zhj false true false && zhj false true true && zhj true false false && zhj true false true && zhj true true false && zhj true true true)=true:=by kernel_rfl
theorem zxh (b0 b1 b2:Bool):zhj b0 b1 b2=true:=by
 have h:=zvc
 rw [Bool.and_eq_true,Bool.and_eq_true,Bool.and_eq_true,Bool.and_eq_true,Bool.and_eq_true,Bool.and_eq_true,Bool.and_eq_true] at h
 obtain ⟨⟨⟨⟨⟨⟨⟨h1,h2⟩,h3⟩,h4⟩,h5⟩,h6⟩,h7⟩,h8⟩:=h
 match b0,b1,b2 with
 | false,false,false=>exact h1
 | false,false,true=>exact h2
 | false,true,false=>exact h3
 | false,true,true=>exact h4
 | true,false,false=>exact h5
 | true,false,true=>exact h6
 | true,true,false=>exact h7
 | true,true,true=>exact h8
theorem ev9 (b0 b1 b2:Bool) (t0 t1 t2:Int) {i:Nat} (hi:i < 9):zbh (sameL b0 b1 b2 t0 t1 t2) i=zbh base9 i:=by
 unfold zbh sameL
 rw [List.getD_eq_getElem?_getD,List.getD_eq_getElem?_getD,List.getElem?_append_left hi]
theorem zxi:((List.range 9).all fun i=>decide (0 < (zbh base9 i).st) && (decide ((zbh base9 i).st≤42) && decide (0 < (zbh base9 i).en)))=true:=by kernel_rfl
theorem zoa (i:Nat) (hi:i < 9):0 < (zbh base9 i).st∧(zbh base9 i).st≤42∧0 < (zbh base9 i).en:=by
 have:=List.all_eq_true.1 zxi i (List.mem_range.2 hi)
 simpa only [Bool.and_eq_true,decide_eq_true_eq] using this
theorem zaiu {b:Bool} {c bg t:Int} (h:0 < (fe b c bg t).st):b=true:=by
 cases b with
 | false=>simp [fe] at h
 | true=>rfl
theorem zns {b0 b1 b2:Bool} {t0 t1 t2 now:Int} (E:Ends b0 b1 b2 t0 t1 t2 now) :
  Alike (sameL b0 b1 b2 t0 t1 t2) (sameL b0 b1 b2 (43 + (if b1=true∧t1 < t0 then 1 else 0) + (if b2=true∧t2 < t0 then 1 else 0)) (43 + (if b0=true∧t0 < t1 then 1 else 0) + (if b2=true∧t2 < t1 then 1 else 0)) (43 + (if b0=true∧t0 < t2 then 1 else 0) + (if b1=true∧t1 < t2 then 1 else 0))):=by
 obtain ⟨en,e0,e1,e2⟩:=E
 have a9:∀ x0 x1 x2:Int,zbh (sameL b0 b1 b2 x0 x1 x2) 9=fe b0 0 44 x0:=fun _ _ _=>rfl
 have a10:∀ x0 x1 x2:Int,zbh (sameL b0 b1 b2 x0 x1 x2) 10=fe b1 1 45 x1:=fun _ _ _=>rfl
 have a11:∀ x0 x1 x2:Int,zbh (sameL b0 b1 b2 x0 x1 x2) 11=fe b2 2 46 x2:=fun _ _ _=>rfl
 have len:∀ x0 x1 x2:Int,(sameL b0 b1 b2 x0 x1 x2).length=12:=fun _ _ _=>rfl
 have p0:(0:Int)≤(if b1=true∧t1 < t0 then 1 else 0)∧(0:Int)≤(if b2=true∧t2 < t0 then 1 else 0):=by constructor<;>split<;>omega
 have p1:(0:Int)≤(if b0=true∧t0 < t1 then 1 else 0)∧(0:Int)≤(if b2=true∧t2 < t1 then 1 else 0):=by constructor<;>split<;>omega
 have p2:(0:Int)≤(if b0=true∧t0 < t2 then 1 else 0)∧(0:Int)≤(if b1=true∧t1 < t2 then 1 else 0):=by constructor<;>split<;>omega
 have q01:b0=true→b1=true→(t0 < t1↔(43:Int) + (if b1=true∧t1 < t0 then 1 else 0) + (if b2=true∧t2 < t0 then 1 else 0) < 43 + (if b0=true∧t0 < t1 then 1 else 0) + (if b2=true∧t2 < t1 then 1 else 0)):=by
  intro h0 h1
  simp only [h0,h1,true_and]
  cases b2<;>simp only [true_and,false_and,if_false,Bool.false_eq_true]<;>repeat' split
  all_goals omega
 have q10:b0=true→b1=true→(t1 < t0↔(43:Int) + (if b0=true∧t0 < t1 then 1 else 0) + (if b2=true∧t2 < t1 then 1 else 0) < 43 + (if b1=true∧t1 < t0 then 1 else 0) + (if b2=true∧t2 < t0 then 1 else 0)):=by
  intro h0 h1
  simp only [h0,h1,true_and]
  cases b2<;>simp only [true_and,false_and,if_false,Bool.false_eq_true]<;>repeat' split
  all_goals omega
 have q02:b0=true→b2=true→(t0 < t2↔(43:Int) + (if b1=true∧t1 < t0 then 1 else 0) + (if b2=true∧t2 < t0 then 1 else 0) < 43 + (if b0=true∧t0 < t2 then 1 else 0) + (if b1=true∧t1 < t2 then 1 else 0)):=by
  intro h0 h1
  simp only [h0,h1,true_and]
  cases b1<;>simp only [true_and,false_and,if_false,Bool.false_eq_true]<;>repeat' split
  all_goals omega
 have q20:b0=true→b2=true→(t2 < t0↔(43:Int) + (if b0=true∧t0 < t2 then 1 else 0) + (if b1=true∧t1 < t2 then 1 else 0) < 43 + (if b1=true∧t1 < t0 then 1 else 0) + (if b2=true∧t2 < t0 then 1 else 0)):=by
  intro h0 h1
  simp only [h0,h1,true_and]
  cases b1<;>simp only [true_and,false_and,if_false,Bool.false_eq_true]<;>repeat' split
  all_goals omega
 have q12:b1=true→b2=true→(t1 < t2↔(43:Int) + (if b0=true∧t0 < t1 then 1 else 0) + (if b2=true∧t2 < t1 then 1 else 0) < 43 + (if b0=true∧t0 < t2 then 1 else 0) + (if b1=true∧t1 < t2 then 1 else 0)):=by
  intro h0 h1
  simp only [h0,h1,true_and]
  cases b0<;>simp only [true_and,false_and,if_false,Bool.false_eq_true]<;>repeat' split
  all_goals omega
 have q21:b1=true→b2=true→(t2 < t1↔(43:Int) + (if b0=true∧t0 < t2 then 1 else 0) + (if b1=true∧t1 < t2 then 1 else 0) < 43 + (if b0=true∧t0 < t1 then 1 else 0) + (if b2=true∧t2 < t1 then 1 else 0)):=by
  intro h0 h1
  simp only [h0,h1,true_and]
  cases b0<;>simp only [true_and,false_and,if_false,Bool.false_eq_true]<;>repeat' split
  all_goals omega
 generalize hr0:(43:Int) + (if b1=true∧t1 < t0 then 1 else 0) + (if b2=true∧t2 < t0 then 1 else 0)=r0 at *
 generalize hr1:(43:Int) + (if b0=true∧t0 < t1 then 1 else 0) + (if b2=true∧t2 < t1 then 1 else 0)=r1 at *
 generalize hr2:(43:Int) + (if b0=true∧t0 < t2 then 1 else 0) + (if b1=true∧t1 < t2 then 1 else 0)=r2 at *
 have g0:43≤r0:=by omega
 have g1:43≤r1:=by omega
 have g2:43≤r2:=by omega
 have stv:∀ (b:Bool) (c bg t:Int),(fe b c bg t).st=bif b then t else 0:=fun _ _ _ _=>rfl
 refine ⟨rfl,fun i hi=>?_,fun i j hi hj h1 h2=>?_⟩
 ·rw [len] at hi
  by_cases h9:i < 9
  ·rw [ev9 _ _ _ _ _ _ h9,ev9 _ _ _ _ _ _ h9]
   exact ⟨rfl,rfl,rfl,Iff.rfl,Iff.rfl,Iff.rfl⟩
  ·have:i=9∨i=10∨i=11:=by omega
   rcases this with rfl | rfl | rfl
   ·rw [a9,a9]
    cases b0 with
    | false=>exact ⟨rfl,rfl,rfl,Iff.rfl,Iff.rfl,Iff.rfl⟩
    | true=>have:=e0 rfl;refine ⟨rfl,rfl,rfl,?_,?_,?_⟩<;>simp only [fe,cond_true]<;>omega
   ·rw [a10,a10]
    cases b1 with
    | false=>exact ⟨rfl,rfl,rfl,Iff.rfl,Iff.rfl,Iff.rfl⟩
    | true=>have:=e1 rfl;refine ⟨rfl,rfl,rfl,?_,?_,?_⟩<;>simp only [fe,cond_true]<;>omega
   ·rw [a11,a11]
    cases b2 with
    | false=>exact ⟨rfl,rfl,rfl,Iff.rfl,Iff.rfl,Iff.rfl⟩
    | true=>have:=e2 rfl;refine ⟨rfl,rfl,rfl,?_,?_,?_⟩<;>simp only [fe,cond_true]<;>omega
 ·rw [len] at hi hj
  have big:∀ k,¬ k < 9→k < 12→0 < (zbh (sameL b0 b1 b2 t0 t1 t2) k).st→42 < (zbh (sameL b0 b1 b2 t0 t1 t2) k).st∧42 < (zbh (sameL b0 b1 b2 r0 r1 r2) k).st:=by
   intro k hk hk2 h0
   have:k=9∨k=10∨k=11:=by omega
   rcases this with rfl | rfl | rfl
   ·rw [a9] at h0 ⊢;rw [a9];rw [stv] at h0 ⊢;rw [stv]
    cases b0 with
    | false=>simp at h0
    | true=>have:=e0 rfl;simp only [cond_true];omega
   ·rw [a10] at h0 ⊢;rw [a10];rw [stv] at h0 ⊢;rw [stv]
    cases b1 with
    | false=>simp at h0
    | true=>have:=e1 rfl;simp only [cond_true];omega
   ·rw [a11] at h0 ⊢;rw [a11];rw [stv] at h0 ⊢;rw [stv]
    cases b2 with
    | false=>simp at h0
    | true=>have:=e2 rfl;simp only [cond_true];omega
  by_cases h9:i < 9
  ·have bi:=zoa i h9
   rw [ev9 _ _ _ _ _ _ h9,ev9 _ _ _ _ _ _ h9]
   by_cases k9:j < 9
   ·rw [ev9 _ _ _ _ _ _ k9,ev9 _ _ _ _ _ _ k9]
   ·have:=big j k9 hj h2
    constructor<;>intro<;>omega
  ·by_cases k9:j < 9
   ·have bj:=zoa j k9
    rw [ev9 _ _ _ _ _ _ k9,ev9 _ _ _ _ _ _ k9]
    have:=big i h9 hi h1
    constructor<;>intro<;>omega
   ·have ci:i=9∨i=10∨i=11:=by omega
    have cj:j=9∨j=10∨j=11:=by omega
    have tr:∀ {b:Bool} {c bg t:Int},0 < (fe b c bg t).st→b=true:=fun {b c bg t} h=>zaiu h
    rcases ci with rfl | rfl | rfl<;>rcases cj with rfl | rfl | rfl<;>simp only [a9,a10,a11] at h1 h2 ⊢
    ·constructor<;>intro h<;>omega
    ·have:=tr h1;have:=tr h2;subst_vars;exact q01 rfl rfl
    ·have:=tr h1;have:=tr h2;subst_vars;exact q02 rfl rfl
    ·have:=tr h1;have:=tr h2;subst_vars;exact q10 rfl rfl
    ·constructor<;>intro h<;>omega
    ·have:=tr h1;have:=tr h2;subst_vars;exact q12 rfl rfl
    ·have:=tr h1;have:=tr h2;subst_vars;exact q20 rfl rfl
    ·have:=tr h1;have:=tr h2;subst_vars;exact q21 rfl rfl
    ·constructor<;>intro h<;>omega
theorem zxj (b0 b1 b2:Bool) (t0 t1 t2:Int):((List.range 9).all fun i=>zql (sameL b0 b1 b2 t0 t1 t2) 3 i)=true:=by kernel_rfl
theorem zxk (b0 b1 b2:Bool) (t0 t1 t2:Int):((List.range 12).all fun i=>zxg (sameL b0 b1 b2 t0 t1 t2) 3 i)=true:=by kernel_rfl
def zli (l:List Ev) (c bg:Int) (i:Nat):Bool:=(List.range i).all fun k=>!(decide ((zbh l k).cl=c)) || (decide (0 < (zbh l k).en) && decide ((zbh l k).en < bg))
theorem zzj (b0 b1 b2:Bool) (t0 t1 t2:Int):(zli (sameL b0 b1 b2 t0 t1 t2) 0 44 9 && (zli (sameL b0 b1 b2 t0 t1 t2) 1 45 10 && zli (sameL b0 b1 b2 t0 t1 t2) 2 46 11))=true:=by kernel_rfl
theorem zvd {l:List Ev} {c bg:Int} {i:Nat} (h:zli l c bg i=true):∀ k f,k < i→l[k]? = some f→f.cl=c→0 < f.en∧f.en < bg:=by
 intro k f hk hf hc
 have:=List.all_eq_true.1 h k (List.mem_range.2 hk)
 have e:zbh l k=f:=by unfold zbh;rw [List.getD_eq_getElem?_getD,hf];rfl
 rw [e] at this
 simpa [hc] using this
theorem zzk {l:List Ev} {c i:Nat} (h:zxg l c i=true):(zbh l i).may c:=by
 unfold zxg at h
 simp only [Bool.and_eq_true,decide_eq_true_eq] at h
 exact h
theorem zmu {l:List Ev} {b:Bool} {c bg t now:Int} {i:Nat} {q:Ev} (hc:0≤c∧c < 3) (hb:0 < bg∧bg≤46) (e:b=true→46 < t∧t≤now) (hq:l[i]? = some q) (hqb:q.bg≤bg) (hp:zli l c bg (i + 1)=true):AloneP l (i + 1) (fe b c bg t) 3:=by
 refine ⟨hc.1,hc.2,hb.1,fun p f hp hf=>?_,fun h=>?_,fun h=>?_,zvd hp⟩
 ·have:p=i:=by omega
  subst this
  rw [hq] at hf
  simp only [Option.some.injEq] at hf
  subst hf;exact hqb
 ·cases b with
  | false=>simp [fe] at h
  | true=>have:=e rfl;simp only [fe,cond_true];omega
 ·cases b with
  | false=>exact ⟨rfl,.inl rfl⟩
  | true=>have:=e rfl;simp only [fe,cond_true] at h;omega
theorem zo6 {b0 b1 b2:Bool} {t0 t1 t2 now:Int} (E:Ends b0 b1 b2 t0 t1 t2 now):HistOK (sameL b0 b1 b2 t0 t1 t2) 8 3∧(zer (sameL b0 b1 b2 t0 t1 t2) 8 3).hs=[rowF b0,rowF b1,rowF b2]:=by
 have A:=zns E
 have len:(sameL b0 b1 b2 t0 t1 t2).length=12:=rfl
 have r:∀ (p q:Prop) [Decidable p] [Decidable q],((43:Int) + (if p then 1 else 0) + (if q then 1 else 0))∈([43,44,45]:List Int):=by
  intro p q _ _
  by_cases hp:p<;>by_cases hq:q<;>simp [hp,hq]
 have C:=zxh b0 b1 b2
 unfold zhj at C
 have C1:=List.all_eq_true.1 (List.all_eq_true.1 (List.all_eq_true.1 C _ (r (b1=true∧t1 < t0) (b2=true∧t2 < t0))) _ (r (b0=true∧t0 < t1) (b2=true∧t2 < t1))) _ (r (b0=true∧t0 < t2) (b1=true∧t1 < t2))
 rw [Bool.and_eq_true] at C1
 have P:=zzj b0 b1 b2 t0 t1 t2
 rw [Bool.and_eq_true,Bool.and_eq_true] at P
 refine ⟨⟨by rw [len];decide,fun i hi=>?_,fun i hi=>zzk (List.all_eq_true.1 (zxk b0 b1 b2 t0 t1 t2) i (List.mem_range.2 hi)),?_⟩,?_⟩
 ·rw [len] at hi
  by_cases h9:i < 9
  ·exact zva (List.all_eq_true.1 (zxj b0 b1 b2 t0 t1 t2) i (List.mem_range.2 h9))
  ·have ci:i=9∨i=10∨i=11:=by omega
   rcases ci with rfl | rfl | rfl
   ·exact zmu (i:=8) (q:=base9.getD 8 default) (by decide) (by decide) E.e0 rfl (by decide) P.1
   ·exact zmu (i:=9) (q:=fe b0 0 44 t0) (by decide) (by decide) E.e1 rfl (by show (44:Int)≤45;decide) P.2.1
   ·exact zmu (i:=10) (q:=fe b1 1 45 t1) (by decide) (by decide) E.e2 rfl (by show (45:Int)≤46;decide) P.2.2
 ·rw [A.okG];exact C1.1
 ·rw [A.fin];exact eq_of_beq C1.2
theorem zlj {l r:List Ev} {i:Nat} (hi:i < l.length):zbh (l++r) i=zbh l i:=by
 unfold zbh;rw [List.getD_eq_getElem?_getD,List.getD_eq_getElem?_getD,List.getElem?_append_left hi]
theorem zi9 {l:List Ev} {e:Ev}:zbh (l++[e]) l.length=e:=by
 unfold zbh;rw [List.getD_eq_getElem?_getD,List.getElem?_append_right (Nat.le_refl _)];simp
theorem zkq {l r:List Ev} {i:Nat} (hi:i < l.length):stL (l++r) i=stL l i:=by
 unfold stL;rw [List.getElem?_append_left hi]
theorem zve {l:List Ev} {r:List Ev}:∀ n,n≤l.length→zby (stL (l++r)) n=zby (stL l) n:=by
 intro n hn
 refine zkp n (fun i hi=>by rw [zkq (by omega)]) fun i j hi hj _ _=>by rw [zkq (by omega),zkq (by omega)]
theorem zxl {l:List Ev} {e:Ev} (hp:0 < e.st) (hb:∀ f∈l,f.st≤e.st):zby (stL (l++[e])) (l.length + 1)=zby (stL l) l.length++[l.length]:=by
 have se:stL (l++[e]) l.length=e.st:=by unfold stL;rw [List.getElem?_append_right (Nat.le_refl _)];simp
 have e0:zby (stL (l++[e])) (l.length + 1)=if stL (l++[e]) l.length≤0 then zby (stL (l++[e])) l.length else (zby (stL (l++[e])) l.length).take (zdx (stL (l++[e])) (stL (l++[e]) l.length) (zby (stL (l++[e])) l.length))++l.length :: (zby (stL (l++[e])) l.length).drop (zdx (stL (l++[e])) (stL (l++[e]) l.length) (zby (stL (l++[e])) l.length)):=rfl
 rw [e0,se,if_neg (by omega),zve l.length (Nat.le_refl _)]
 have hk:zdx (stL (l++[e])) e.st (zby (stL l) l.length)=(zby (stL l) l.length).length:=by
  unfold zdx
  have:∀ j∈(zby (stL l) l.length).reverse,decide (e.st < stL (l++[e]) j)=false:=by
   intro j hj
   have hj':j < l.length:=zf9 _ _ j (by simpa using hj)
   rw [zkq hj',ziy hj']
   have:=hb (zbh l j) (by unfold zbh;rw [List.getD_eq_getElem?_getD,List.getElem?_eq_getElem hj'];exact List.getElem_mem hj')
   exact decide_eq_false (by omega)
  cases hr:(zby (stL l) l.length).reverse with
  | nil =>
   have:(zby (stL l) l.length).length=0:=by rw [← List.length_reverse,hr];rfl
   simp [this]
  | cons a tl =>
   rw [hr] at this
   rw [List.dropWhile_cons,this a (by simp)]
   simp only [Bool.false_eq_true,if_false]
   rw [← hr,List.length_reverse]
 rw [hk,List.take_length,List.drop_length]
theorem zqn {l r:List Ev}:∀ {o:List Nat} {s:MS},(∀ j∈o,j < l.length)→okG (l++r) s o=okG l s o∧zd1 (l++r) s o=zd1 l s o
 | [],_,_=>⟨rfl,rfl⟩
 | j :: o,s,h=>by
  obtain ⟨h1,h2⟩:=zqn (o:=o) (s:=(zc9 s (zbh l j)).2) fun k hk=>h k (by simp [hk])
  unfold okG zd1
  rw [zlj (h j (by simp)),h1,h2]
  exact ⟨rfl,rfl⟩
theorem zhg {l:List Ev}:∀ {s:MS} {a b:List Nat},zd1 l s (a++b)=zd1 l (zd1 l s a) b
 | s,[],b=>rfl
 | s,j :: a,b=>zhg (s:=(zc9 s (zbh l j)).2) (a:=a)
structure Last (l:List Ev) (e:Ev) (p c:Nat):Prop where
 old:∀ f∈l,0 < f.en∧f.en < e.bg∧f.bg≤e.bg∧f.st≤e.st
 bg:0 < e.bg
 st:e.bg≤e.st∧e.st≤e.en
 cl:0≤e.cl∧e.cl < (c:Int)
 kd:1≤e.op.kd∧e.op.kd≤8
 few:l.length < 900
 ok:(zc9 (zer l p c) e).1=true
theorem zlk {l:List Ev} {e:Ev} {p c:Nat} (K:HistOK l p c) (L:Last l e p c):HistOK (l++[e]) p c∧zer (l++[e]) p c=(zc9 (zer l p c) e).2:=by
 have len:(l++[e]).length=l.length + 1:=by simp
 have mem:∀ {i f},(l++[e])[i]? = some f→i < l.length→f∈l:=fun {i f} h hi=>by
  rw [List.getElem?_append_left hi] at h
  exact List.mem_of_getElem? h
 have ord:=zxl (l:=l) (e:=e) (by have:=L.bg;have:=L.st.1;omega) fun f hf=>(L.old f hf).2.2.2
 obtain ⟨o1,o2⟩:=zqn (l:=l) (r:=[e]) (o:=zby (stL l) l.length) (s:=zc6 p c) fun j hj=>zf9 _ _ j hj
 have hfin:zd1 (l++[e]) (zc6 p c) (zby (stL l) l.length)=zer l p c:=o2
 refine ⟨⟨by rw [len];have:=L.few;omega,fun i hi=>?_,fun i hi=>?_,?_⟩,?_⟩
 ·rw [len] at hi
  by_cases h:i < l.length
  ·rw [zlj h]
   have A:=K.al i h
   exact ⟨A.c0,A.c1,A.b0,fun q f hq hf=>A.b1 q f hq (by rw [List.getElem?_append_left (by omega)] at hf;exact hf),A.s1,A.s0,fun k f hk hf=>A.k1 k f hk (by rw [List.getElem?_append_left (by omega)] at hf;exact hf)⟩
  ·obtain rfl:i=l.length:=by omega
   rw [zi9]
   refine ⟨L.cl.1,L.cl.2,L.bg,fun q f hq hf=>(L.old f (mem hf (by omega))).2.2.1,fun _=>L.st,fun h=>absurd ?_ h,fun k f hk hf _=>⟨(L.old f (mem hf (by omega))).1,(L.old f (mem hf (by omega))).2.1⟩⟩
   have:=L.bg;have:=L.st.1;have:=L.st.2;omega
 ·rw [len] at hi
  by_cases h:i < l.length
  ·rw [zlj h];exact K.may i h
  ·obtain rfl:i=l.length:=by omega
   rw [zi9];exact ⟨L.cl.1,L.cl.2,L.kd.1,L.kd.2⟩
 ·rw [len,ord,zlt,o1,K.ok,hfin]
  unfold okG
  rw [zi9,L.ok];rfl
 ·show zd1 (l++[e]) (zc6 p c) (zby (stL (l++[e])) (l++[e]).length)=_
  rw [len,ord,zhg,hfin]
  show (zc9 (zer l p c) (zbh (l++[e]) l.length)).2=_
  rw [zi9]
def rdE (c bg st:Int):Ev:=⟨c,⟨3,0,0,0,1,[]⟩,⟨0,0,0,bv [98]⟩,bg,st,st⟩
def framedH (hs:List (List Int)) (fs:List Fra) (cap:Int) (works:Bool) (asked:Int) (pages:Nat):Bool:=decide (fs.length≤32) && (match whF pages fs fs.length with
 | some (n,w)=>decide ((n:Int)=cap) && ((works || decide ((n:Int)=asked)) && (List.range pages).all fun k=>ztl hs fs w k)
 | none=>false)
def msF:MS:=⟨[true,true,true,false,false,false,false,false],[bv [97]++z 15,bv [98]++z 15,bv [99]++z 15,z 16,z 16,z 16,z 16,z 16],[rowF true,rowF true,rowF true]⟩
def msB (a:MS):Bool:=a.th == msF.th && (a.bd == msF.bd && a.hs == msF.hs)
theorem znt {a:MS} (h:msB a=true):a=msF:=by
 obtain ⟨x,y,w⟩:=a
 unfold msB at h
 rw [Bool.and_eq_true,Bool.and_eq_true] at h
 obtain ⟨h1,h2,h3⟩:=h
 have e1:x=msF.th:=eq_of_beq h1
 have e2:y=msF.bd:=eq_of_beq h2
 have e3:w=msF.hs:=eq_of_beq h3
 subst e1 e2 e3;rfl
theorem zaa2:([43,44,45].all fun r0=>[43,44,45].all fun r1=>[43,44,45].all fun r2=>msB (zer (sameL true true true r0 r1 r2) 8 3))=true:=by kernel_rfl
theorem zxm {t0 t1 t2 now:Int} (E:Ends true true true t0 t1 t2 now):zer (sameL true true true t0 t1 t2) 8 3=msF:=by
 have A:=zns E
 have r:∀ (p q:Prop) [Decidable p] [Decidable q],((43:Int) + (if p then 1 else 0) + (if q then 1 else 0))∈([43,44,45]:List Int):=by
  intro p q _ _
  by_cases hp:p<;>by_cases hq:q<;>simp [hp,hq]
 rw [A.fin]
 exact znt (List.all_eq_true.1 (List.all_eq_true.1 (List.all_eq_true.1 zaa2 _ (r _ _)) _ (r _ _)) _ (r _ _))
theorem zaiv:(zia (doF msF 0 ⟨3,0,0,0,1,[]⟩).1 ⟨0,0,0,bv [98]⟩ && (zia (doF msF 1 ⟨3,0,0,0,1,[]⟩).1 ⟨0,0,0,bv [98]⟩ && (zia (doF msF 2 ⟨3,0,0,0,1,[]⟩).1 ⟨0,0,0,bv [98]⟩ && (msB (doF msF 0 ⟨3,0,0,0,1,[]⟩).2 && (msB (doF msF 1 ⟨3,0,0,0,1,[]⟩).2 && msB (doF msF 2 ⟨3,0,0,0,1,[]⟩).2)))))=true:=by kernel_rfl
theorem zih {c:Int} (hc:c=0∨c=1∨c=2) (g s:Int):zc9 msF (rdE c g s)=(true,msF):=by
 have hb:zkj 3 0=false:=by decide
 have h:=zaiv
 rw [Bool.and_eq_true,Bool.and_eq_true,Bool.and_eq_true,Bool.and_eq_true,Bool.and_eq_true] at h
 obtain ⟨a0,a1,a2,b0,b1,b2⟩:=h
 have key:∀ n:Nat,zia (doF msF n ⟨3,0,0,0,1,[]⟩).1 ⟨0,0,0,bv [98]⟩=true→(doF msF n ⟨3,0,0,0,1,[]⟩).2=msF→zc9 msF (rdE (n:Int) g s)=(true,msF):=by
  intro n h1 h2
  unfold zc9
  have e1:(rdE (n:Int) g s).op=⟨3,0,0,0,1,[]⟩:=rfl
  have e2:(rdE (n:Int) g s).rs=⟨0,0,0,bv [98]⟩:=rfl
  have e3:(rdE (n:Int) g s).cl.toNat=n:=rfl
  rw [e1,e2,e3,if_neg (fun h=>by have:=h.2;rw [hb] at this;cases this),h1,h2,Bool.or_true]
 rcases hc with rfl | rfl | rfl
 ·exact key 0 a0 (znt b0)
 ·exact key 1 a1 (znt b1)
 ·exact key 2 a2 (znt b2)
theorem zxn:(base9.all fun f=>decide (0 < f.en) && (decide (f.en≤42) && (decide (f.bg≤42) && decide (f.st≤42))))=true:=by kernel_rfl
theorem zqo {t0 t1 t2 now:Int} (E:Ends true true true t0 t1 t2 now):∀ f∈sameL true true true t0 t1 t2,0 < f.en∧f.en≤now∧f.bg≤now∧f.st≤now∧0 < f.st:=by
 have n:=E.n
 have e0:=E.e0 rfl
 have e1:=E.e1 rfl
 have e2:=E.e2 rfl
 intro f hf
 rcases List.mem_append.1 hf with h | h
 ·have:=List.all_eq_true.1 zxn f h
  simp only [Bool.and_eq_true,decide_eq_true_eq] at this
  have p:0 < f.st:=by
   obtain ⟨i,hi,rfl⟩:=List.mem_iff_getElem.1 h
   have:=(zoa i hi).1
   unfold zbh at this
   rw [List.getD_eq_getElem?_getD,List.getElem?_eq_getElem hi] at this
   exact this
  omega
 ·simp only [List.mem_cons,List.not_mem_nil,or_false] at h
  rcases h with rfl | rfl | rfl
  ·show 0 < t0∧t0≤now∧(44:Int)≤now∧t0≤now∧0 < t0;omega
  ·show 0 < t1∧t1≤now∧(45:Int)≤now∧t1≤now∧0 < t1;omega
  ·show 0 < t2∧t2≤now∧(46:Int)≤now∧t2≤now∧0 < t2;omega
structure Reads (now g0 s0 g1 s1 g2 s2 n':Int):Prop where
 a:now < g0
 b:g0≤s0
 c:s0 < g1
 d:g1≤s1
 e:s1 < g2
 f:g2≤s2
 g:s2≤n'
def finL (t0 t1 t2 g0 s0 g1 s1 g2 s2:Int):List Ev:=sameL true true true t0 t1 t2++[rdE 0 g0 s0,rdE 1 g1 s1,rdE 2 g2 s2]
section
variable {t0 t1 t2 now g0 s0 g1 s1 g2 s2 n':Int}
theorem zxo (E:Ends true true true t0 t1 t2 now) (R:Reads now g0 s0 g1 s1 g2 s2 n'):∀ f∈finL t0 t1 t2 g0 s0 g1 s1 g2 s2,0 < f.st:=by
 have n:=E.n
 obtain ⟨a,b,c,d,e,f,g⟩:=R
 intro f hf
 rcases List.mem_append.1 hf with h | h
 ·exact (zqo E f h).2.2.2.2
 ·simp only [List.mem_cons,List.not_mem_nil,or_false] at h
  rcases h with rfl | rfl | rfl
  ·show 0 < s0;omega
  ·show 0 < s1;omega
  ·show 0 < s2;omega
theorem zxp (E:Ends true true true t0 t1 t2 now) (R:Reads now g0 s0 g1 s1 g2 s2 n'):HistOK (finL t0 t1 t2 g0 s0 g1 s1 g2 s2) 8 3∧zer (finL t0 t1 t2 g0 s0 g1 s1 g2 s2) 8 3=msF:=by
 have n:=E.n
 obtain ⟨a,b,c,d,e,f,g⟩:=R
 have o:=zqo E
 have F0:=zxm E
 have l0:(sameL true true true t0 t1 t2).length=12:=rfl
 obtain ⟨K1,F1⟩:=zlk (l:=sameL true true true t0 t1 t2) (e:=rdE 0 g0 s0) (zo6 E).1
  ⟨fun f hf=>by have:=o f hf;show 0 < f.en∧f.en < g0∧f.bg≤g0∧f.st≤s0;omega,by show 0 < g0;omega,by show g0≤s0∧s0≤s0;omega,by show (0:Int)≤0∧(0:Int) < 3;decide,by show (1:Int)≤3∧(3:Int)≤8;decide,by rw [l0];decide,by rw [F0,zih (.inl rfl)]⟩
 rw [F0,zih (.inl rfl)] at F1
 have o1:∀ f∈sameL true true true t0 t1 t2++[rdE 0 g0 s0],0 < f.en∧f.en≤s0∧f.bg≤s0∧f.st≤s0:=by
  intro f hf
  rcases List.mem_append.1 hf with h | h
  ·have:=o f h;omega
  ·rw [List.mem_singleton.1 h];show 0 < s0∧s0≤s0∧g0≤s0∧s0≤s0;omega
 obtain ⟨K2,F2⟩:=zlk (e:=rdE 1 g1 s1) K1
  ⟨fun f hf=>by have:=o1 f hf;show 0 < f.en∧f.en < g1∧f.bg≤g1∧f.st≤s1;omega,by show 0 < g1;omega,by show g1≤s1∧s1≤s1;omega,by show (0:Int)≤1∧(1:Int) < 3;decide,by show (1:Int)≤3∧(3:Int)≤8;decide,by rw [List.length_append,l0];show (13:Nat) < 900;decide,by rw [F1,zih (.inr (.inl rfl))]⟩
 rw [F1,zih (.inr (.inl rfl))] at F2
 have o2:∀ f∈(sameL true true true t0 t1 t2++[rdE 0 g0 s0])++[rdE 1 g1 s1],0 < f.en∧f.en≤s1∧f.bg≤s1∧f.st≤s1:=by
  intro f hf
  rcases List.mem_append.1 hf with h | h
  ·have:=o1 f h;omega
  ·rw [List.mem_singleton.1 h];show 0 < s1∧s1≤s1∧g1≤s1∧s1≤s1;omega
 obtain ⟨K3,F3⟩:=zlk (e:=rdE 2 g2 s2) K2
  ⟨fun f hf=>by have:=o2 f hf;show 0 < f.en∧f.en < g2∧f.bg≤g2∧f.st≤s2;omega,by show 0 < g2;omega,by show g2≤s2∧s2≤s2;omega,by show (0:Int)≤2∧(2:Int) < 3;decide,by show (1:Int)≤3∧(3:Int)≤8;decide,by rw [List.length_append,List.length_append,l0];show (14:Nat) < 900;decide,by rw [F2,zih (.inr (.inr rfl))]⟩
 rw [F2,zih (.inr (.inr rfl))] at F3
 have e:finL t0 t1 t2 g0 s0 g1 s1 g2 s2=((sameL true true true t0 t1 t2++[rdE 0 g0 s0])++[rdE 1 g1 s1])++[rdE 2 g2 s2]:=by unfold finL;simp
 rw [e]
 exact ⟨K3,F3⟩
theorem znu (v:PV):zif v=framedH (zer v.l v.pages v.clients).hs v.fs v.cap v.works v.asked v.pages:=by
 unfold zif framedH
 cases whF v.pages v.fs v.fs.length<;>rfl
def view (l:List Ev) (fs:List Fra) (works:Bool) (now:Int) (full:List Bool):PV:=⟨l,List.replicate 8 (List.replicate 24 0#8),fs,6,works,false,now,8,6,3,3,full,6,6⟩
theorem zaa3 (t0 t1 t2 g0 s0 g1 s1 g2 s2:Int):(((finL t0 t1 t2 g0 s0 g1 s1 g2 s2).all fun e=>e.rs.code == 0) && (finL t0 t1 t2 g0 s0 g1 s1 g2 s2).all fun e=>!(e.op.kd == 6) && !(e.op.kd == 7))=true:=by kernel_rfl
theorem zxq {N:Nat} (hN:3000≤N) (E:Ends true true true t0 t1 t2 now) (R:Reads now g0 s0 g1 s1 g2 s2 n') {full:List Bool} {fs:List Fra} (hfs:framedH msF.hs fs 6 false 6 8=true) (hf:(full.length:Int)=n' + 1) (hs:n' < 900000) :
  RightV N (view (finL t0 t1 t2 g0 s0 g1 s1 g2 s2) fs false n' full):=by
 obtain ⟨K,F⟩:=zxp E R
 have C:=zaa3 t0 t1 t2 g0 s0 g1 s1 g2 s2
 rw [Bool.and_eq_true] at C
 obtain ⟨c4,c5⟩:=C
 have nf:NoFlush (finL t0 t1 t2 g0 s0 g1 s1 g2 s2):=fun e he=>by
  have:=List.all_eq_true.1 c5 e he
  simp only [Bool.and_eq_true,Bool.not_eq_true',beq_eq_false_iff_ne] at this
  exact this
 refine ⟨⟨fun d' hd=>zvb hN hd,by show 0 < 8;decide,by show 8≤48;decide,K⟩,fun i hi=>?_,rfl,fun k hk=>?_,rfl,?_,fun i hi=>?_,?_,by show full.length≤1000000;omega⟩
 ·have hi:i < (finL t0 t1 t2 g0 s0 g1 s1 g2 s2).length:=hi
  have:=zxo E R (zbh (finL t0 t1 t2 g0 s0 g1 s1 g2 s2) i) (by unfold zbh;rw [List.getD_eq_getElem?_getD,List.getElem?_eq_getElem hi];exact List.getElem_mem hi)
  show (zbh (finL t0 t1 t2 g0 s0 g1 s1 g2 s2) i).st≠0
  omega
 ·have hk8:k < 8:=hk
  have e:(List.replicate 8 (List.replicate 24 0#8)).getD k []=List.replicate 24 0#8:=by
   rw [List.getD_eq_getElem?_getD,List.getElem?_replicate,if_pos hk8];rfl
  show (List.replicate 8 (List.replicate 24 0#8)).getD k []=_∧zid (finL t0 t1 t2 g0 s0 g1 s1 g2 s2) 8 3 k ((List.replicate 8 (List.replicate 24 0#8)).getD k [])=true
  rw [e]
  exact ⟨rfl,ztm nf 8 3 k⟩
 ·rw [znu]
  show framedH (zer (finL t0 t1 t2 g0 s0 g1 s1 g2 s2) 8 3).hs _ _ _ _ _=true
  rw [F];exact hfs
 ·have hi:i < (finL t0 t1 t2 g0 s0 g1 s1 g2 s2).length:=hi
  have:=List.all_eq_true.1 c4 (zbh (finL t0 t1 t2 g0 s0 g1 s1 g2 s2) i) (by unfold zbh;rw [List.getD_eq_getElem?_getD,List.getElem?_eq_getElem hi];exact List.getElem_mem hi)
  simp only [beq_iff_eq] at this
  show (zbh (finL t0 t1 t2 g0 s0 g1 s1 g2 s2) i).rs.code≠8
  omega
 ·show n'=(full.length:Int) - 1;omega
end
theorem same_framed {N:Nat} (hN:3000≤N) {b0 b1 b2:Bool} {t0 t1 t2 now:Int} (E:Ends b0 b1 b2 t0 t1 t2 now) {fs:List Fra} {w:Bool} (hfs:framedH [rowF b0,rowF b1,rowF b2] fs 6 w 6 8=true) {n:Int} {full:List Bool} :
  GoodH N (view (sameL b0 b1 b2 t0 t1 t2) fs w n full)∧zif (view (sameL b0 b1 b2 t0 t1 t2) fs w n full)=true:=by
 obtain ⟨K,F⟩:=zo6 E
 refine ⟨⟨fun d' hd=>zvb hN hd,by show 0 < 8;decide,by show 8≤48;decide,K⟩,?_⟩
 rw [znu]
 show framedH (zer (sameL b0 b1 b2 t0 t1 t2) 8 3).hs _ _ _ _ _=true
 rw [F];exact hfs
end Lav.M
set_option maxRecDepth 100000
set_option linter.unusedVariables false
namespace Lav
open Q
def inf (i:Nat):Bool × Bool × Bool × Nat:=infos.getD i (false,false,false,0)
def b0I (i:Nat):Bool:=(inf i).1
def b1I (i:Nat):Bool:=(inf i).2.1
def b2I (i:Nat):Bool:=(inf i).2.2.1
def zcu (i:Nat):Nat:=(inf i).2.2.2
def zhh (i:Nat):Nat:=(rdy i).length
structure In (h0:Heap) (i p:Nat) (g:Heap):Prop where
 lt:i < 108
 ex:∃ ρ t0 t1 t2,At h0 ρ (H i t0 t1 t2) g∧ρ 0=p∧M.Ends (b0I i) (b1I i) (b2I i) t0 t1 t2 (46 + (zcu i:Int))
theorem zzl (t0 t1 t2:Int):((List.range 108).all fun i=>Nat.blt 0 (H i t0 t1 t2).length)=true:=by kernel_rfl
theorem zob {i:Nat} (hi:i < 108) (t0 t1 t2:Int):0 < (H i t0 t1 t2).length:=Nat.le_of_ble_eq_true (List.all_eq_true.1 (zzl t0 t1 t2) i (List.mem_range.2 hi))
theorem zzm:((List.range 108).all fun i=>(Nat.beq i 107 || Nat.blt 0 (zhh i)) && Nat.blt (zhh i) 9)=true:=by kernel_rfl
theorem zvf {i:Nat} (hi:i < 108):(i=107∨0 < zhh i)∧zhh i < 9:=by
 have h:=List.all_eq_true.1 zzm i (List.mem_range.2 hi)
 rw [Bool.and_eq_true,Bool.or_eq_true] at h
 exact ⟨h.1.imp Nat.eq_of_beq_eq_true Nat.le_of_ble_eq_true,Nat.le_of_ble_eq_true h.2⟩
def zoc (e:Nat × Nat × Nat × Nat × Nat):Bool:=Nat.blt e.2.2.1 108 && (Nat.beq (zcu e.2.2.1) (zcu e.1 + 1) && (Nat.beq e.2.2.2.2 (47 + zcu e.1) && ((b0I e.2.2.1 == (b0I e.1 || Nat.beq e.2.2.2.1 0)) && ((b1I e.2.2.1 == (b1I e.1 || Nat.beq e.2.2.2.1 1)) && (b2I e.2.2.1 == (b2I e.1 || Nat.beq e.2.2.2.1 2))))))
def ztn (i k:Nat):Option (Nat × Nat × Nat × Nat × Nat):=eds.find? fun e=>Nat.beq e.1 i && Nat.beq e.2.1 k
theorem zvg:((List.range 108).all fun i=>(List.range (zhh i)).all fun k=>match ztn i k with
 | some e=>zoc e
 | none=>false)=true:=by kernel_rfl
theorem zzn {i k:Nat} (hi:i < 108) (hk:k < zhh i):∃ j u,j < 108∧EP i k j u (47 + zcu i)∧zcu j=zcu i + 1∧b0I j=(b0I i || Nat.beq u 0)∧b1I j=(b1I i || Nat.beq u 1)∧b2I j=(b2I i || Nat.beq u 2):=by
 have h:=List.all_eq_true.1 (List.all_eq_true.1 zvg i (List.mem_range.2 hi)) k (List.mem_range.2 hk)
 cases hf:ztn i k with
 | none=>rw [hf] at h;cases h
 | some e =>
  rw [hf] at h
  unfold ztn at hf
  have hm:=List.mem_of_find?_eq_some hf
  have hp:=List.find?_some hf
  simp only [Bool.and_eq_true] at hp
  obtain ⟨a,b,j,u,n⟩:=e
  have ea:a=i:=Nat.eq_of_beq_eq_true hp.1
  have eb:b=k:=Nat.eq_of_beq_eq_true hp.2
  subst ea eb
  have h':zoc (a,b,j,u,n)=true:=h
  unfold zoc at h'
  simp only [Bool.and_eq_true,beq_iff_eq] at h'
  obtain ⟨h1,h2,h3,h4,h5,h6⟩:=h'
  have en:n=47 + zcu a:=Nat.eq_of_beq_eq_true h3
  subst en
  have hE:=edsP.mem (a,b,j,u,47 + zcu a) hm
  dsimp only at hE
  exact ⟨j,u,Nat.le_of_ble_eq_true h1,hE,Nat.eq_of_beq_eq_true h2,h4,h5,h6⟩
def zxr (k:Int):List CV:=[.int .i64 2,.int .i64 0,.int .i64 k,.int .i64 0,.int .i64 0,.int .i64 0,.int .i64 0,.int .i64 0,.int .i64 0,.nils,.nils]
theorem zmv {b:Bool} {u c:Nat} {t now:Int} {m:Nat} (hm:(m:Int)=now + 1) (h46:46≤now) (e:b=true→46 < t∧t≤now) (h:(b || Nat.beq u c)=true):46 < zn9 u c t (.ofNat m)∧zn9 u c t (.ofNat m)≤now + 1:=by
 unfold zn9
 cases hu:Nat.beq u c with
 | true=>show 46 < (m:Int)∧(m:Int)≤now + 1;omega
 | false =>
  rw [hu,Bool.or_false] at h
  have:=e h
  show 46 < t∧t≤now + 1;omega
theorem zzo {h0 g:Heap} {i p:Nat} (I:In h0 i p g) (h:0 < zhh i) (n:Int) {N d:Nat} (hN:3000≤N) (hd:60≤d) :
  ∃ h' j,evCallO OS table N d 14 [.c (.ptr p 0),.agg (zxr n)] g=some (.c (.bool true),h')∧In h0 j p h'∧zcu j=zcu i + 1:=by
 obtain ⟨hi,ρ,t0,t1,t2,A,hp,E⟩:=I
 have e46:=E.n
 have h9:=(zvf hi).2
 have p1:=Int.emod_nonneg n (show ((zhh i:Nat):Int)≠0 by omega)
 have p2:=Int.emod_lt_of_pos n (show 0 < ((zhh i:Nat):Int) by omega)
 obtain ⟨k,hk⟩ : ∃ k:Nat,n % ((zhh i:Nat):Int)=(k:Int):=⟨(n % ((zhh i:Nat):Int)).toNat,by omega⟩
 have hkl:k < zhh i:=by omega
 obtain ⟨j,u,hj,he,hdep,f0,f1,f2⟩:=zzn hi hkl
 obtain ⟨ts,m,e1,e2,e3⟩:=he t0 t1 t2
 obtain ⟨ρ',g',ev,A',kp,_,_⟩:=zfn zdv (zu0 (L:=(rdy i).length) (k:=k) hk hkl (by have:(rdy i).length=zhh i:=rfl;omega)) hN (by omega) hd e1 e2 A
 refine ⟨g',j,?_,⟨hj,ρ',_,_,_,A',(kp 0 e3 (zob hi t0 t1 t2)).trans hp,?_⟩,hdep⟩
 ·rw [← hp];exact ev
 ·have hm:((47 + zcu i:Nat):Int)=46 + (zcu i:Int) + 1:=by omega
  have hn:(46:Int) + (zcu j:Int)=46 + (zcu i:Int) + 1:=by omega
  rw [hn]
  exact ⟨by omega,fun hb=>zmv hm e46 E.e0 (f0 ▸ hb),fun hb=>zmv hm e46 E.e1 (f1 ▸ hb),fun hb=>zmv hm e46 E.e2 (f2 ▸ hb)⟩
theorem zzp {h0 g:Heap} {p:Nat} (I:In h0 107 p g) (n:Int) {N d:Nat} (hN:3000≤N) (hd:60≤d) :
  ∃ h',evCallO OS table N d 14 [.c (.ptr p 0),.agg (zxr n)] g=some (.c (.bool false),h')∧In h0 107 p h':=by
 obtain ⟨hi,ρ,t0,t1,t2,A,hp,E⟩:=I
 obtain ⟨e1,e2⟩:=last t0 t1 t2
 obtain ⟨ρ',g',ev,A',kp,_,_⟩:=zfn (τ:=fun _=>n) zdv ((zmm 82 178 196).two table) hN (by omega) hd e1 e2 A
 exact ⟨g',by rw [← hp];exact ev,hi,ρ',t0,t1,t2,A',(kp 0 rfl (zob hi t0 t1 t2)).trans hp,E⟩
theorem zzq {h0 g:Heap} {i p:Nat} (I:In h0 i p g) (n:Int) {N d:Nat} (hN:3000≤N) (hd:60≤d) :
  ∃ h' j v,evCallO OS table N d 14 [.c (.ptr p 0),.agg (zxr n)] g=some (.c (.bool v),h')∧In h0 j p h'∧((i=107∧j=107)∨zcu j=zcu i + 1):=by
 rcases (zvf I.lt).1 with rfl | h
 ·obtain ⟨h',e,I'⟩:=zzp I n hN hd
  exact ⟨h',107,false,e,I',.inl ⟨rfl,rfl⟩⟩
 ·obtain ⟨h',j,e,I',hj⟩:=zzo I h n hN hd
  exact ⟨h',j,true,e,I',.inr hj⟩
def zqp (x:Option Nat) (n:Nat):Bool:=match x with
 | some s=>Nat.blt 46 s && Nat.ble s n
 | none=>true
def zto (e:Nat × Nat × Option Nat × Option Nat × Option Nat):Bool:=Nat.blt e.2.1 108 && (Nat.blt (zcu e.1) (zcu e.2.1) && ((zqp e.2.2.1 (46 + zcu e.2.1) && (zqp e.2.2.2.1 (46 + zcu e.2.1) && zqp e.2.2.2.2 (46 + zcu e.2.1))) && ((b0I e.2.1 == (b0I e.1 || e.2.2.1.isSome)) && ((b1I e.2.1 == (b1I e.1 || e.2.2.2.1.isSome)) && (b2I e.2.1 == (b2I e.1 || e.2.2.2.2.isSome))))))
def ztp (i:Nat):Option (Nat × Nat × Option Nat × Option Nat × Option Nat):=rds.find? fun e=>Nat.beq e.1 i
theorem zaa4:((List.range 107).all fun i=>match ztp i with
 | some e=>zto e
 | none=>false)=true:=by kernel_rfl
theorem zmw {b:Bool} {x:Option Nat} {t n n':Int} {m:Nat} (hm:(m:Int)=n') (hn:n≤n') (hx:zqp x m=true) (e:b=true→46 < t∧t≤n) (h:(b || x.isSome)=true):46 < upO x t∧upO x t≤n':=by
 cases x with
 | some s =>
  unfold zqp at hx
  rw [Bool.and_eq_true] at hx
  have h1:=Nat.le_of_ble_eq_true hx.1
  have h2:=Nat.le_of_ble_eq_true hx.2
  show 46 < (s:Int)∧(s:Int)≤n';omega
 | none =>
  have:=e (by simpa using h)
  show 46 < t∧t≤n';omega
theorem zxs {h0 g:Heap} {i p:Nat} (I:In h0 i p g) (hne:i≠107) {N d:Nat} (hN:3000≤N) (hd:60≤d) :
  ∃ h' j,evCallO OS table N d 23 [.c (.ptr p 0)] g=some (.tup [],h')∧In h0 j p h'∧zcu i < zcu j:=by
 obtain ⟨hi,ρ,t0,t1,t2,A,hp,E⟩:=I
 have e46:=E.n
 have h:=List.all_eq_true.1 zaa4 i (List.mem_range.2 (by omega))
 cases hf:ztp i with
 | none=>rw [hf] at h;cases h
 | some e =>
  rw [hf] at h
  unfold ztp at hf
  have hm:=List.mem_of_find?_eq_some hf
  have hq:=List.find?_some hf
  obtain ⟨a,j,x0,x1,x2⟩:=e
  have ea:a=i:=Nat.eq_of_beq_eq_true hq
  subst ea
  have h':zto (a,j,x0,x1,x2)=true:=h
  unfold zto at h'
  simp only [Bool.and_eq_true,beq_iff_eq] at h'
  obtain ⟨h1,h2,⟨c0,c1,c2⟩,f0,f1,f2⟩:=h'
  have hdep:zcu a < zcu j:=Nat.le_of_ble_eq_true h2
  have hR:=rdsP.mem (a,j,x0,x1,x2) hm
  dsimp only at hR
  obtain ⟨ts,m,e1,e2,e3⟩:=hR t0 t1 t2
  obtain ⟨ρ',g',ev,A',kp,_,_⟩:=zfn zdv zdn hN (by omega) hd e1 e2 A
  have hmm:((46 + zcu j:Nat):Int)=46 + (zcu j:Int):=by omega
  refine ⟨g',j,?_,⟨Nat.le_of_ble_eq_true h1,ρ',_,_,_,A',(kp 0 e3 (zob hi t0 t1 t2)).trans hp,by omega,fun hb=>zmw hmm (by omega) c0 E.e0 (f0 ▸ hb),fun hb=>zmw hmm (by omega) c1 E.e1 (f1 ▸ hb),fun hb=>zmw hmm (by omega) c2 E.e2 (f2 ▸ hb)⟩,hdep⟩
  rw [← hp];exact ev
end Lav
set_option maxRecDepth 100000
set_option linter.unusedVariables false
namespace Lav
open Go (IntKind)
open Q
theorem zqq {loc vals:List AV} {h:Heap} {off n:Nat} {g:Bool} {x:X}:zao loc vals h (.field off n g x)=(match x.eval loc vals with
  | .agg l=>match cut l off n with
   | some r=>AV.ofCells g r
   | none=>none
  | _=>none):=rfl
section
variable {N d:Nat} {h:Heap} {q sp tb t:Nat} {st x y:Int}
theorem zaiw (rs:h.read sp 0 1=some [.sl tb 0 6 (.ex 6)]) (ht:t < 3):evCallO OS table N (d + 1) 60 [.c (.ptr sp 0),.c (.int .i64 (t:Int))] h=some (.c (.bool true),h):=by
 have c1:decide ((t:Int) ≥ 0)=true:=decide_eq_true (by omega)
 have c2:decide ((t:Int) < 6)=true:=decide_eq_true (by omega)
 have ll:∀ loc vals h',zao loc (.c (.sl tb 0 6 (.ex 6)) :: vals) h' (.len .sl (.val 0))=some (.c (.int .i64 6)):=fun _ _ _=>rfl
 rw [zbi (F:=ir60) rfl rfl rfl]
 unfold ir60
 rw [zbp]
 simp only [za9,zap,zac,zas,zbl,zad,zaj,zaa,zau,zae,zaf,zar,zax,zba,zj8,zbg,za4,zco,zc8,zaz,za1,za6,zbe,zme,zag,X.eval,zal,zai,List.map_cons,List.map_nil,List.getD_cons_zero,List.getD_cons_succ,List.getD_nil,List.set_cons_zero,List.set_cons_succ,zay,zaq,zab,zak,intArith,shift,zfo,cond_true,cond_false,BEq.rfl,AV.ofCells,Nat.add_zero,Bool.not_false,Int.reduceLT,decide_false,c1,c2,zcw,zcm,za0,za3,za8,rs,AV.ofCells,ll]
theorem zaa5 (rs:h.read sp 0 1=some [.sl tb 0 6 (.ex 6)]) (rt:h.read tb (t * 3) 3=some [.int .i64 st,.int .i64 x,.int .i64 y]) (ls:sp < h.next) (lt:tb < h.next) (ht:t < 3) :
  ∃ h',evCallO OS table N (d + 2) 43 [.c (.ptr sp 0),.c (.int .i64 (t:Int))] h=some (.agg [.int .i64 st,.int .i64 x,.int .i64 y],h')∧Ext h h':=by
 have m1:Nat.blt t 6=true:=zc0 (by omega)
 have x0:Ext h (h.new (.cells [.int .i64 0,.int .i64 0,.int .i64 0])):=(Ext.refl h).new _
 have rs0:=(x0.read (o:=0) (n:=1) ls).trans rs
 have rt0:=(x0.read (o:=t * 3) (n:=3) lt).trans rt
 have e1:=zaiw (N:=N) (d:=d) rs0 ht
 obtain ⟨h1,w1,g1,x1,n1⟩:=ze1 (h:=h) (z:=[.int .i64 0,.int .i64 0,.int .i64 0]) (v:=[.int .i64 st,.int .i64 x,.int .i64 y]) rfl
 have rr:h1.read h.next 0 3=some [.int .i64 st,.int .i64 x,.int .i64 y]:=by
  rw [zcd g1 (by simp)];rfl
 rw [zbi (F:=ir43) rfl rfl rfl]
 unfold ir43
 rw [zbp]
 simp only [za9,zap,zac,zas,zat,zam,za5,zbl,zad,zaj,zaa,zae,zaf,zar,zbq,zdq,za4,zbt,zbd,zbo,zbb,zaz,za1,zee,zbf,zag,za7,X.eval,zal,zai,List.map_cons,List.map_nil,List.getD_cons_zero,List.getD_cons_succ,List.getD_nil,List.set_cons_zero,List.set_cons_succ,zdk,zbc,cond_true,BEq.rfl,AV.cells,AV.ofCells,List.length_cons,List.length_nil,Nat.zero_add,Nat.add_zero,Nat.reduceAdd,Bool.not_true,e1,zcw,zcm,za0,za3,zbr,za8,Nat.zero_add,rs0,rt0,m1,AV.ofCells,zbj,w1,zbk,RV.eval,rr]
 exact ⟨_,rfl,x1⟩
theorem zqr (r3:h.read q 3 1=some [.int .i64 3]) (r5:h.read q 5 1=some [.ptr sp 0]) (rs:h.read sp 0 1=some [.sl tb 0 6 (.ex 6)]) (rt:h.read tb (t * 3) 3=some [.int .i64 st,.int .i64 x,.int .i64 y]) (ls:sp < h.next) (lt:tb < h.next) (ht:t < 3) :
  ∃ h',evCallO OS table N (d + 3) 22 [.c (.ptr q 0),.c (.int .i64 (t:Int))] h=some (.c (.bool (st == 1 || st == 2)),h')∧Ext h h':=by
 have v0:decide ((t:Int) < 0)=false:=decide_eq_false (by omega)
 have v1:decide ((t:Int) ≥ 3)=false:=decide_eq_false (by omega)
 obtain ⟨H1,e1,x1⟩:=zaa5 (N:=N) (d:=d) rs rt ls lt ht
 have cut3:∀ (x y z:CV),cut [x,y,z] 0 1=some [x]:=fun _ _ _=>rfl
 rw [zbi (F:=ir22) rfl rfl rfl]
 unfold ir22
 rw [zbp]
 cases hs1:(st == 1) with
 | true =>
  simp only [za9,zap,zac,zas,zat,zam,za5,zbl,zad,zaj,zaa,zau,zae,zbn,zaf,zar,zax,zba,zj8,za4,zbd,zbb,zaz,za1,za6,zbe,zme,zag,X.eval,zal,zai,List.map_cons,List.map_nil,List.getD_cons_zero,List.getD_cons_succ,List.getD_nil,List.set_cons_zero,List.set_cons_succ,zay,zaq,zab,zak,intArith,shift,zfo,cond_true,cond_false,BEq.rfl,AV.ofCells,Nat.zero_add,Nat.add_zero,Bool.not_false,Int.reduceLT,decide_false,tf,za0,za3,zcw,zcm,za8,AV.ofCells,zbk,RV.eval,v0,v1,r3,r5,e1,zqe,zqq,cut3,hs1]
  exact ⟨H1,by simp,x1⟩
 | false =>
  simp only [za9,zap,zac,zas,zat,zam,za5,zbl,zad,zaj,zaa,zau,zae,zaf,zar,zax,zba,zj8,za4,zbd,zbb,zaz,za1,za6,zbe,zme,zag,X.eval,zal,zai,List.map_cons,List.map_nil,List.getD_cons_zero,List.getD_cons_succ,List.getD_nil,List.set_cons_zero,List.set_cons_succ,zay,zaq,zab,zak,intArith,shift,zfo,cond_true,cond_false,BEq.rfl,AV.ofCells,Nat.zero_add,Nat.add_zero,Bool.not_false,Int.reduceLT,decide_false,za0,za3,zcw,zcm,za8,AV.ofCells,zbk,RV.eval,v0,v1,r3,r5,e1,zqe,zqq,cut3,hs1]
  exact ⟨H1,by simp,x1⟩
end
def zye (l:List Blk) (b0 b1 b2:Bool):Bool:=match cellAt l 1 3,cellAt l 1 5,cellAt l 4 0,(l[15]? : Option Blk) with
 | some (.int .i64 (.ofNat 3)),some (.ptr 4 0),some (.sl 15 0 6 (.ex 6)),some (.cells (.int .i64 s0 :: .int .i64 _ :: .int .i64 _ :: .int .i64 s1 :: .int .i64 _ :: .int .i64 _ :: .int .i64 s2 :: .int .i64 _ :: .int .i64 _ :: _))=>((s0 == 1 || s0 == 2) == !b0) && (((s1 == 1 || s1 == 2) == !b1) && ((s2 == 1 || s2 == 2) == !b2))
 | _,_,_,_=>false
theorem zxt (t0 t1 t2:Int):((List.range 108).all fun i=>zye (H i t0 t1 t2) (b0I i) (b1I i) (b2I i))=true:=by kernel_rfl
def bI (i c:Nat):Bool:=match c with
 | 0=>b0I i
 | 1=>b1I i
 | _=>b2I i
theorem zod {h0 g:Heap} {i:Nat} (hi:i < 108) {ρ:Nat→Nat} {t0 t1 t2:Int} (A:At h0 ρ (H i t0 t1 t2) g) {c:Nat} (hc:c < 3) {N d:Nat} :
  ∃ h',evCallO OS table N (d + 3) 22 [.c (.ptr (ρ 1) 0),.c (.int .i64 (c:Int))] g=some (.c (.bool (!(bI i c))),h')∧Ext g h':=by
 have h:=List.all_eq_true.1 (zxt t0 t1 t2) i (List.mem_range.2 hi)
 unfold zye at h
 split at h
 ·rename_i s0 x0 y0 s1 x1 y1 s2 x2 y2 r e3 e5 e4 e15
  simp only [Bool.and_eq_true,beq_iff_eq] at h
  obtain ⟨k0,k1,k2⟩:=h
  have r3:g.read (ρ 1) 3 1=some [.int .i64 3]:=A.cell e3
  have r5:g.read (ρ 1) 5 1=some [.ptr (ρ 4) 0]:=A.cell e5
  have r4:g.read (ρ 4) 0 1=some [.sl (ρ 15) 0 6 (.ex 6)]:=A.cell e4
  have l15:15 < (H i t0 t1 t2).length:=(List.getElem?_eq_some_iff.1 e15).1
  have g15:=A.emb.get l15
  rw [(List.getElem?_eq_some_iff.1 e15).2] at g15
  have l4:=A.emb.lt (show 4 < (H i t0 t1 t2).length by omega)
  have lt:=A.emb.lt l15
  have hc3:c=0∨c=1∨c=2:=by omega
  rcases hc3 with rfl | rfl | rfl
  ·have:=zqr (N:=N) (d:=d) (t:=0) r3 r5 r4 (st:=s0) (x:=x0) (y:=y0) (by rw [zcd g15 (by simp [mvs])];rfl) l4 lt (by omega)
   rw [k0] at this;exact this
  ·have:=zqr (N:=N) (d:=d) (t:=1) r3 r5 r4 (st:=s1) (x:=x1) (y:=y1) (by rw [zcd g15 (by simp [mvs])];rfl) l4 lt (by omega)
   rw [k1] at this;exact this
  ·have:=zqr (N:=N) (d:=d) (t:=2) r3 r5 r4 (st:=s2) (x:=x2) (y:=y2) (by rw [zcd g15 (by simp [mvs])];rfl) l4 lt (by omega)
   rw [k2] at this;exact this
 ·cases h
end Lav
set_option maxRecDepth 100000
namespace Lav
namespace Q
def hP0:List Blk:=[cs ([p 1 0,a 8,a 6,a 3,a 3,s 2 0 1 1,a 6,a 6]),cs ([a 8,a 6,a 3,a 3,p 3 0,p 4 0,p 5 0,a 1,d 6 0 16 1,m 0,a 0,a 0,s 7 0 8 8,d 8 0 3 1,d 9 0 6 3,s 10 0 6 6,ns,ch 11,a 0,a 6,f,f,f]),cs ([f]),cs ([d 12 0 8 1,mp 13,a 0,a 0,f]),cs ([s 14 0 6 6]),cs ([d 15 0 3 1]),cs (rp 5 [a 0,a 1,a 2]++[a 0]),cs (rp 8 [f]),cs ([p 16 0,p 17 0,p 18 0]),cs ([a 1,a 0,a 0]++rp 2 [a 1,a 0,a 1,a 1]++[a 1,a 1,a 2,a 0,a 1,a 2,a 1]),cs (rp 6 [a 0,a 0,a 0,a 0,a 0,a 0,m 0,ns,ns,ns,a 0,a 0]),ck 4 [],cs ([s 19 0 24 24,s 20 0 24 24,s 21 0 24 24,s 22 0 24 24,s 23 0 24 24,s 24 0 24 24,s 25 0 24 24,s 26 0 24 24]),mk 0 [],cs (rp 6 [a 0,a 0,m 0]),cs ([s 27 0 6 6,s 28 0 6 6,s 29 0 6 6]),cs ([p 30 0,m 0,ns,ns,d 31 0 2 1,mp 32]),cs ([p 33 0,m 0,ns,ns,d 34 0 2 1,mp 35]),cs ([p 36 0,m 0,ns,ns,d 37 0 2 1,mp 38]),cs (rp 24 [u 0]),cs (rp 24 [u 0]),cs (rp 24 [u 0]),cs (rp 24 [u 0]),cs (rp 24 [u 0]),cs (rp 24 [u 0]),cs (rp 24 [u 0]),cs (rp 24 [u 0]),cs (rp 6 [m 0]),cs (rp 6 [m 0]),cs (rp 6 [m 0]),cs ([p 39 0,p 40 0,p 41 0]),cs ([a 0,a 1]),mk 0 [],cs ([p 42 0,p 43 0,p 44 0]),cs ([a 2,a 3]),mk 0 [],cs ([p 45 0,p 46 0,p 47 0]),cs ([a 4,a 5]),mk 0 [],cs ([d 48 0 2 5,p 49 0,p 50 0]),cs ([s 51 0 32 32,m 0,m 0,a 0]),cs ([ch 52]),cs ([d 53 0 2 5,p 54 0,p 55 0]),cs ([s 56 0 32 32,m 0,m 0,a 0]),cs ([ch 57]),cs ([d 58 0 2 5,p 59 0,p 60 0]),cs ([s 61 0 32 32,m 0,m 0,a 0]),cs ([ch 62]),cs (rp 2 [a 0,m 0,a 0,f,ns]),cs ([s 63 0 32 32,a 0,a 1,a 2]),cs ([s 64 0 96 96,a 0]),cs (rp 32 [f,a 0,a 0]),ck 8 [],cs (rp 2 [a 0,m 0,a 0,f,ns]),cs ([s 65 0 32 32,a 0,a 1,a 2]),cs ([s 66 0 96 96,a 0]),cs (rp 32 [f,a 0,a 0]),ck 8 [],cs (rp 2 [a 0,m 0,a 0,f,ns]),cs ([s 67 0 32 32,a 0,a 1,a 2]),cs ([s 68 0 96 96,a 0]),cs (rp 32 [f,a 0,a 0]),ck 8 [],cs ([t,m 0,a 1,t,a 0,m 0]++rp 30 [f,a 0,a 0]),cs (rp 96 [m 0,a 0]),cs ([t,m 0,a 1,t,a 0,m 0]++rp 30 [f,a 0,a 0]),cs (rp 96 [m 0,a 0]),cs ([t,m 0,a 1,t,a 0,m 0]++rp 30 [f,a 0,a 0]),cs (rp 96 [m 0,a 0])]
theorem hs0:zc1 (ts 69 [(0,167),(1,5),(2,166),(3,7),(4,34),(5,35),(6,81),(7,3),(8,153),(9,161),(10,83),(11,4),(12,31),(13,6),(14,33),(15,47),(16,86),(17,113),(18,140),(19,9),(20,12),(21,15),(22,18),(23,21),(25,27),(26,30),(27,38),(28,42),(29,46),(30,97),(31,111),(32,85),(33,124),(34,138),(35,112),(36,151),(37,165),(38,139),(39,92),(40,94),(41,96),(42,119),(43,121),(44,123),(45,146),(46,148),(47,150),(48,109),(49,89),(50,91),(51,93),(52,95),(53,136),(54,116),(55,118),(56,120),(57,122),(58,163),(59,143),(60,145),(61,147),(62,149),(63,88),(64,90),(65,115),(66,117),(67,142),(68,144)]) (evCallO OS table 3000 60 24 [.agg [a 8,a 6,a 3,a 3]] (hp ([]:List Blk)))=some (AV.mv τ0 (at0 (ts 69 [(0,167),(1,5),(2,166),(3,7),(4,34),(5,35),(6,81),(7,3),(8,153),(9,161),(10,83),(11,4),(12,31),(13,6),(14,33),(15,47),(16,86),(17,113),(18,140),(19,9),(20,12),(21,15),(22,18),(23,21),(25,27),(26,30),(27,38),(28,42),(29,46),(30,97),(31,111),(32,85),(33,124),(34,138),(35,112),(36,151),(37,165),(38,139),(39,92),(40,94),(41,96),(42,119),(43,121),(44,123),(45,146),(46,148),(47,150),(48,109),(49,89),(50,91),(51,93),(52,95),(53,136),(54,116),(55,118),(56,120),(57,122),(58,163),(59,143),(60,145),(61,147),(62,149),(63,88),(64,90),(65,115),(66,117),(67,142),(68,144)])) (.c (p 0 0)),168,hP0.map fun b=>some (b.mv τ0 (at0 (ts 69 [(0,167),(1,5),(2,166),(3,7),(4,34),(5,35),(6,81),(7,3),(8,153),(9,161),(10,83),(11,4),(12,31),(13,6),(14,33),(15,47),(16,86),(17,113),(18,140),(19,9),(20,12),(21,15),(22,18),(23,21),(25,27),(26,30),(27,38),(28,42),(29,46),(30,97),(31,111),(32,85),(33,124),(34,138),(35,112),(36,151),(37,165),(38,139),(39,92),(40,94),(41,96),(42,119),(43,121),(44,123),(45,146),(46,148),(47,150),(48,109),(49,89),(50,91),(51,93),(52,95),(53,136),(54,116),(55,118),(56,120),(57,122),(58,163),(59,143),(60,145),(61,147),(62,149),(63,88),(64,90),(65,115),(66,117),(67,142),(68,144)])))):=by kernel_rfl
theorem hs0f:fit ([]:List Blk) [.agg [a 8,a 6,a 3,a 3]] (ts 69 [(0,167),(1,5),(2,166),(3,7),(4,34),(5,35),(6,81),(7,3),(8,153),(9,161),(10,83),(11,4),(12,31),(13,6),(14,33),(15,47),(16,86),(17,113),(18,140),(19,9),(20,12),(21,15),(22,18),(23,21),(25,27),(26,30),(27,38),(28,42),(29,46),(30,97),(31,111),(32,85),(33,124),(34,138),(35,112),(36,151),(37,165),(38,139),(39,92),(40,94),(41,96),(42,119),(43,121),(44,123),(45,146),(46,148),(47,150),(48,109),(49,89),(50,91),(51,93),(52,95),(53,136),(54,116),(55,118),(56,120),(57,122),(58,163),(59,143),(60,145),(61,147),(62,149),(63,88),(64,90),(65,115),(66,117),(67,142),(68,144)]) 168=true:=by kernel_rfl
def hA0:List Blk:=pt hP0 71 [(0,cs ([p 1 0,a 8,a 6,a 3,a 3,d 2 0 4 1,a 6,a 6])),(1,cs ([a 8,a 6,a 3,a 3,p 3 0,p 4 0,p 5 0,a 1,d 6 0 16 1,m 0,a 0,a 0,s 7 0 8 8,d 8 0 3 1,d 9 0 6 3,s 10 0 6 6,d 69 0 1 14,ch 11,a 3,a 6,f,f,f])),(2,cs ([f,f,f,f])),(7,cs ([t]++rp 7 [f])),(11,ck 4 [.c (a 0)]),(14,cs ([a 3,a 2]++rp 2 [m 0,a 0,a 0]++[m 0,a 1]++rp 2 [a 0,m 0,a 0]++[a 0,m 0])),(27,cs ([a 0]++rp 5 [m 0])),(40,cs ([s 51 0 32 32,a 0,a 0,a 1])),(48,cs ([a 1,a 0,a 1,t,s 70 0 16 16,a 0,m 0,a 0,f,ns])),(49,cs ([s 63 0 32 32,a 1,a 1,a 1])),(50,cs ([s 64 0 96 96,a 1])),(51,cs ([t,m 0,m 0]++rp 31 [f,a 0,a 0])),(63,cs ([f,a 0,a 0,t,m 0,m 0]++rp 30 [f,a 0,a 0])),(64,cs ([a 0]++rp 95 [a 0,m 0]++[a 0])),(69,cs ([a 0,a 1]++rp 4 [a 0]++[ns,a 0,a 0,a 0,ns,a 1,a 3,a 3])),(70,cs (rp 16 [u 0]))]
theorem ha0:zc1 (ts 71 [(2,331),(69,76),(70,264)]) (evCallO OS table 3000 60 11 [.c (p 0 0),.c (a 0),.agg [a 1,a 0,a 0,a 0,a 0,ns]] (hp hP0))=some (AV.mv τ0 (at0 (ts 71 [(2,331),(69,76),(70,264)])) (.c (t)),336,hA0.map fun b=>some (b.mv τ0 (at0 (ts 71 [(2,331),(69,76),(70,264)])))):=by kernel_rfl
theorem ha0f:fit hP0 [.c (p 0 0),.c (a 0),.agg [a 1,a 0,a 0,a 0,a 0,ns]] (ts 71 [(2,331),(69,76),(70,264)]) 336=true:=by kernel_rfl
def hD0:List Blk:=hA0++[cs ([u 97])]
def hB0:List Blk:=pt hD0 72 [(0,cs ([p 1 0,a 8,a 6,a 3,a 3,d 2 0 9 1,a 6,a 6])),(1,cs ([a 8,a 6,a 3,a 3,p 3 0,p 4 0,p 5 0,a 1,d 6 0 16 1,m 0,a 0,a 0,s 7 0 8 8,d 8 0 3 1,d 9 0 6 3,s 10 0 6 6,d 69 0 2 14,ch 11,a 8,a 6,f,f,f])),(2,cs (rp 9 [f])),(10,cs ([a 1]++rp 5 [a 0,a 0,a 0,a 0,a 0,m 0,ns,ns,ns,a 0,a 0,a 0]++rp 5 [a 0]++[m 0,ns,ns,ns,a 0,a 0])),(52,ck 8 [.c (a 0)]),(69,cs ([a 0,a 1]++rp 4 [a 0]++[ns,a 0,a 0,a 0,ns,a 1,a 3,a 3,a 0,a 4]++rp 4 [a 0]++[d 71 0 1 1,a 0,a 0,a 0,ns,a 4,a 7,a 7])),(70,cs ([u 97]++rp 15 [u 0]))]
theorem hb0:zc1 (ts 72 [(2,525),(69,81),(71,79)]) (evCallO OS table 3000 60 11 [.c (p 0 0),.c (a 0),.agg [a 4,a 0,a 0,a 0,a 0,s 71 0 1 1]] (hp hD0))=some (AV.mv τ0 (at0 (ts 72 [(2,525),(69,81),(71,79)])) (.c (t)),530,hB0.map fun b=>some (b.mv τ0 (at0 (ts 72 [(2,525),(69,81),(71,79)])))):=by kernel_rfl
theorem hb0f:fit hD0 [.c (p 0 0),.c (a 0),.agg [a 4,a 0,a 0,a 0,a 0,s 71 0 1 1]] (ts 72 [(2,525),(69,81),(71,79)]) 530=true:=by kernel_rfl
def hC0:List Blk:=pt hB0 73 [(0,cs ([p 1 0,a 8,a 6,a 3,a 3,d 2 0 14 1,a 6,a 6])),(1,cs ([a 8,a 6,a 3,a 3,p 3 0,p 4 0,p 5 0,a 1,d 6 0 16 1,m 0,a 0,a 0,s 7 0 8 8,d 8 0 3 1,d 9 0 6 3,s 10 0 6 6,d 69 0 3 14,ch 11,a 13,a 6,f,f,f])),(2,cs (rp 14 [f])),(10,cs ([a 2]++rp 3 [a 0,a 0,a 0,a 0,a 0,m 0,ns,ns,ns,a 0,a 0,a 0]++[a 0,a 0,a 1,a 0,a 0,m 0,ns,d 72 0 1 1]++rp 2 [ns,a 0,a 0,a 0,a 0,a 0,a 0,a 0,a 0,m 0,ns,ns]++[ns,a 0,a 0])),(11,ck 4 []),(14,cs ([a 3,a 2]++rp 2 [m 0,a 0,a 0]++[m 0,a 1,a 3]++rp 2 [m 0,a 0,a 0]++[m 0])),(16,cs ([p 30 0,a 3,ns,ns,d 31 0 2 1,mp 32])),(27,cs (rp 6 [m 0])),(48,cs ([a 1,a 0,a 0,t,s 70 0 16 16,a 0,m 0,a 0,f,ns])),(52,ck 8 [.c (a 0),.c (a 0)]),(69,cs ([a 0,a 1]++rp 4 [a 0]++[ns,a 0,a 0,a 0,ns,a 1,a 3,a 3,a 0,a 4]++rp 4 [a 0]++[d 71 0 1 1,a 0,a 0,a 0,ns,a 4,a 7,a 7,a 0,a 5]++rp 4 [a 0]++[ns,a 0,a 0,a 0,ns,a 9,a 12,a 12])),(72,cs ([a 0]))]
theorem hc0:zc1 (ts 73 [(2,507),(69,79),(72,448)]) (evCallO OS table 3000 60 11 [.c (p 0 0),.c (a 0),.agg [a 5,a 0,a 0,a 0,a 0,ns]] (hp hB0))=some (AV.mv τ0 (at0 (ts 73 [(2,507),(69,79),(72,448)])) (.c (t)),512,hC0.map fun b=>some (b.mv τ0 (at0 (ts 73 [(2,507),(69,79),(72,448)])))):=by kernel_rfl
theorem hc0f:fit hB0 [.c (p 0 0),.c (a 0),.agg [a 5,a 0,a 0,a 0,a 0,ns]] (ts 73 [(2,507),(69,79),(72,448)]) 512=true:=by kernel_rfl
def hA1:List Blk:=pt hC0 74 [(0,cs ([p 1 0,a 8,a 6,a 3,a 3,d 2 0 19 1,a 6,a 6])),(1,cs ([a 8,a 6,a 3,a 3,p 3 0,p 4 0,p 5 0,a 1,d 6 0 16 1,m 0,a 0,a 0,s 7 0 8 8,d 8 0 3 1,d 9 0 6 3,s 10 0 6 6,d 69 0 4 14,ch 11,a 18,a 6,f,f,f])),(2,cs (rp 19 [f])),(3,cs ([d 12 0 8 1,mp 13,a 1,a 0,f])),(7,cs ([t,t]++rp 6 [f])),(10,cs ([a 2]++rp 5 [a 0]++[m 0,ns,ns,ns,a 0,a 0,a 3,a 1,a 1]++rp 2 [a 0,a 0,a 0,m 0,ns,ns,ns,a 0,a 0,a 0,a 0,a 0]++[a 1,a 0,a 0,m 0,ns,ns,ns,a 1]++rp 2 [a 0,a 0,a 0,a 0,a 0,a 0,a 0,m 0,ns,ns,ns,a 0]++[a 0])),(11,ck 4 [.c (a 1)]),(13,mk 1 [(0,0,d 72 0 24 1)]),(14,cs (rp 2 [a 3,a 2,m 0]++[a 0,a 0,m 0,a 1]++rp 2 [a 0,m 0,a 0]++[a 0,m 0])),(16,cs ([p 30 0,m 0,ns,ns,d 31 0 2 1,mp 32])),(28,cs ([a 1]++rp 5 [m 0])),(43,cs ([s 56 0 32 32,a 0,a 0,a 1])),(48,cs ([a 1,a 0,a 0,f,s 70 0 16 16,a 0,m 0,a 0,f,ns])),(53,cs ([a 1,a 1,a 1,t,s 73 0 16 16,a 0,m 0,a 0,f,ns])),(54,cs ([s 65 0 32 32,a 1,a 1,a 1])),(55,cs ([s 66 0 96 96,a 1])),(56,cs ([t,m 0,m 0]++rp 31 [f,a 0,a 0])),(65,cs ([f,a 0,a 0,t,m 0,m 0]++rp 30 [f,a 0,a 0])),(66,cs (rp 87 [m 0,a 0]++[a 1]++rp 8 [a 0,m 0]++[a 0])),(69,cs ([a 0,a 1]++rp 4 [a 0]++[ns,a 0,a 0,a 0,ns,a 1,a 3,a 3,a 0,a 4]++rp 4 [a 0]++[d 71 0 1 1,a 0,a 0,a 0,ns,a 4,a 7,a 7,a 0,a 5]++rp 4 [a 0]++[ns,a 0,a 0,a 0,ns,a 9,a 12,a 12,a 1,a 1]++rp 4 [a 0]++[ns,a 0,a 1,a 0,ns,a 14,a 17,a 17])),(72,cs ([u 115,u 32,u 94,u 1,u 1,u 0,u 90,u 165,u 97]++rp 15 [u 0])),(73,cs (rp 16 [u 0]))]
theorem ha1:zc1 (ts 74 [(2,516),(69,80),(72,252),(73,364)]) (evCallO OS table 3000 60 11 [.c (p 0 0),.c (a 1),.agg [a 1,a 0,a 0,a 0,a 0,ns]] (hp hC0))=some (AV.mv τ0 (at0 (ts 74 [(2,516),(69,80),(72,252),(73,364)])) (.c (t)),521,hA1.map fun b=>some (b.mv τ0 (at0 (ts 74 [(2,516),(69,80),(72,252),(73,364)])))):=by kernel_rfl
theorem ha1f:fit hC0 [.c (p 0 0),.c (a 1),.agg [a 1,a 0,a 0,a 0,a 0,ns]] (ts 74 [(2,516),(69,80),(72,252),(73,364)]) 521=true:=by kernel_rfl
def hD1:List Blk:=hA1++[cs ([u 98])]
def hB1:List Blk:=pt hD1 75 [(0,cs ([p 1 0,a 8,a 6,a 3,a 3,d 2 0 24 1,a 6,a 6])),(1,cs ([a 8,a 6,a 3,a 3,p 3 0,p 4 0,p 5 0,a 1,d 6 0 16 1,m 0,a 0,a 0,s 7 0 8 8,d 8 0 3 1,d 9 0 6 3,s 10 0 6 6,d 69 0 5 14,ch 11,a 23,a 6,f,f,f])),(2,cs (rp 24 [f])),(10,cs ([a 2]++rp 5 [a 0]++[m 0,ns,ns,ns,a 0,a 0,a 4,a 1,a 1,a 0,a 0,a 0,m 0,ns,ns,ns]++rp 8 [a 0]++[m 0,ns,ns,ns]++rp 4 [a 0]++[a 1,a 1]++rp 2 [a 0,a 0,m 0,ns,ns,ns,a 0,a 0,a 0,a 0,a 0,a 0]++[a 0,a 0,m 0,ns,ns,ns,a 0,a 0])),(57,ck 8 [.c (a 0)]),(69,cs ([a 0,a 1]++rp 4 [a 0]++[ns,a 0,a 0,a 0,ns,a 1,a 3,a 3,a 0,a 4]++rp 4 [a 0]++[d 71 0 1 1,a 0,a 0,a 0,ns,a 4,a 7,a 7,a 0,a 5]++rp 4 [a 0]++[ns,a 0,a 0,a 0,ns,a 9,a 12,a 12,a 1,a 1]++rp 4 [a 0]++[ns,a 0,a 1,a 0,ns,a 14,a 17,a 17,a 1,a 4]++rp 4 [a 0]++[d 74 0 1 1,a 0,a 0,a 0,ns,a 19,a 22,a 22])),(73,cs ([u 98]++rp 15 [u 0]))]
theorem hb1:zc1 (ts 75 [(2,528),(69,84),(74,82)]) (evCallO OS table 3000 60 11 [.c (p 0 0),.c (a 1),.agg [a 4,a 0,a 0,a 0,a 0,s 74 0 1 1]] (hp hD1))=some (AV.mv τ0 (at0 (ts 75 [(2,528),(69,84),(74,82)])) (.c (t)),533,hB1.map fun b=>some (b.mv τ0 (at0 (ts 75 [(2,528),(69,84),(74,82)])))):=by kernel_rfl
theorem hb1f:fit hD1 [.c (p 0 0),.c (a 1),.agg [a 4,a 0,a 0,a 0,a 0,s 74 0 1 1]] (ts 75 [(2,528),(69,84),(74,82)]) 533=true:=by kernel_rfl
def hC1:List Blk:=pt hB1 76 [(0,cs ([p 1 0,a 8,a 6,a 3,a 3,d 2 0 29 1,a 6,a 6])),(1,cs ([a 8,a 6,a 3,a 3,p 3 0,p 4 0,p 5 0,a 1,d 6 0 16 1,m 0,a 0,a 0,s 7 0 8 8,d 8 0 3 1,d 9 0 6 3,s 10 0 6 6,d 69 0 6 14,ch 11,a 28,a 6,f,f,f])),(2,cs (rp 29 [f])),(10,cs ([a 2]++rp 5 [a 0]++[m 0,ns,ns,ns,a 0,a 0,a 5,a 1,a 1,a 0,a 0,a 0,m 0,ns,ns,ns]++rp 8 [a 0]++[m 0,ns,ns,ns]++rp 4 [a 0]++[a 1,a 1,a 0,a 0,m 0,ns,d 75 0 1 1]++rp 2 [ns,a 0,a 0,a 0,a 0,a 0,a 0,a 0,a 0,m 0,ns,ns]++[ns,a 0,a 0])),(11,ck 4 []),(14,cs (rp 2 [a 3,a 2,m 0]++[a 0,a 0,m 0,a 1,a 3]++rp 2 [m 0,a 0,a 0]++[m 0])),(17,cs ([p 33 0,a 3,ns,ns,d 34 0 2 1,mp 35])),(28,cs (rp 6 [m 0])),(53,cs ([a 1,a 1,a 0,t,s 73 0 16 16,a 0,m 0,a 0,f,ns])),(57,ck 8 [.c (a 0),.c (a 0)]),(69,cs ([a 0,a 1]++rp 4 [a 0]++[ns,a 0,a 0,a 0,ns,a 1,a 3,a 3,a 0,a 4]++rp 4 [a 0]++[d 71 0 1 1,a 0,a 0,a 0,ns,a 4,a 7,a 7,a 0,a 5]++rp 4 [a 0]++[ns,a 0,a 0,a 0,ns,a 9,a 12,a 12,a 1,a 1]++rp 4 [a 0]++[ns,a 0,a 1,a 0,ns,a 14,a 17,a 17,a 1,a 4]++rp 4 [a 0]++[d 74 0 1 1,a 0,a 0,a 0,ns,a 19,a 22,a 22,a 1,a 5]++rp 4 [a 0]++[ns,a 0,a 0,a 0,ns,a 24,a 27,a 27])),(75,cs ([a 1]))]
theorem hc1:zc1 (ts 76 [(2,511),(69,82),(75,451)]) (evCallO OS table 3000 60 11 [.c (p 0 0),.c (a 1),.agg [a 5,a 0,a 0,a 0,a 0,ns]] (hp hB1))=some (AV.mv τ0 (at0 (ts 76 [(2,511),(69,82),(75,451)])) (.c (t)),516,hC1.map fun b=>some (b.mv τ0 (at0 (ts 76 [(2,511),(69,82),(75,451)])))):=by kernel_rfl
theorem hc1f:fit hB1 [.c (p 0 0),.c (a 1),.agg [a 5,a 0,a 0,a 0,a 0,ns]] (ts 76 [(2,511),(69,82),(75,451)]) 516=true:=by kernel_rfl
def hA2:List Blk:=pt hC1 77 [(0,cs ([p 1 0,a 8,a 6,a 3,a 3,d 2 0 34 1,a 6,a 6])),(1,cs ([a 8,a 6,a 3,a 3,p 3 0,p 4 0,p 5 0,a 1,d 6 0 16 1,m 0,a 0,a 0,s 7 0 8 8,d 8 0 3 1,d 9 0 6 3,s 10 0 6 6,d 69 0 7 14,ch 11,a 33,a 6,f,f,f])),(2,cs (rp 34 [f])),(3,cs ([d 12 0 8 1,mp 13,a 2,a 0,f])),(7,cs ([t,t,t,f,f,f,f,f])),(10,cs ([a 2]++rp 5 [a 0]++[m 0,ns,ns,ns,a 0,a 0,a 5,a 1,a 1,a 0,a 0,a 0,m 0,ns,ns,ns,a 0,a 0,a 6,a 2,a 2,a 0,a 0,a 0,m 0,ns,ns,ns]++rp 4 [a 0]++[a 1,a 1,a 0,a 0,m 0,ns,ns,ns,a 1]++rp 2 [a 0,a 0,a 0,a 0,a 0,a 0,a 0,m 0,ns,ns,ns,a 0]++[a 0])),(11,ck 4 [.c (a 2)]),(13,mk 2 [(0,0,d 72 0 24 1),(1,1,d 75 0 24 1)]),(14,cs (rp 3 [a 3,a 2,m 0]++[a 1]++rp 2 [a 0,m 0,a 0]++[a 0,m 0])),(17,cs ([p 33 0,m 0,ns,ns,d 34 0 2 1,mp 35])),(29,cs ([a 2]++rp 5 [m 0])),(46,cs ([s 61 0 32 32,a 0,a 0,a 1])),(53,cs ([a 1,a 1,a 0,f,s 73 0 16 16,a 0,m 0,a 0,f,ns])),(58,cs ([a 1,a 2,a 1,t,s 76 0 16 16,a 0,m 0,a 0,f,ns])),(59,cs ([s 67 0 32 32,a 1,a 1,a 1])),(60,cs ([s 68 0 96 96,a 1])),(61,cs ([t,m 0,m 0]++rp 31 [f,a 0,a 0])),(67,cs ([f,a 0,a 0,t,m 0,m 0]++rp 30 [f,a 0,a 0])),(68,cs (rp 14 [m 0,a 0]++[a 2]++rp 81 [a 0,m 0]++[a 0])),(69,cs ([a 0,a 1]++rp 4 [a 0]++[ns,a 0,a 0,a 0,ns,a 1,a 3,a 3,a 0,a 4]++rp 4 [a 0]++[d 71 0 1 1,a 0,a 0,a 0,ns,a 4,a 7,a 7,a 0,a 5]++rp 4 [a 0]++[ns,a 0,a 0,a 0,ns,a 9,a 12,a 12,a 1,a 1]++rp 4 [a 0]++[ns,a 0,a 1,a 0,ns,a 14,a 17,a 17,a 1,a 4]++rp 4 [a 0]++[d 74 0 1 1,a 0,a 0,a 0,ns,a 19,a 22,a 22,a 1,a 5]++rp 4 [a 0]++[ns,a 0,a 0,a 0,ns,a 24,a 27,a 27,a 2,a 1]++rp 4 [a 0]++[ns,a 0,a 2,a 0,ns,a 29,a 32,a 32])),(75,cs ([u 31,u 194,u 155,u 178,u 2,u 0,u 90,u 165,u 98]++rp 15 [u 0])),(76,cs (rp 16 [u 0]))]
theorem ha2:zc1 (ts 77 [(2,519),(69,83),(75,255),(76,367)]) (evCallO OS table 3000 60 11 [.c (p 0 0),.c (a 2),.agg [a 1,a 0,a 0,a 0,a 0,ns]] (hp hC1))=some (AV.mv τ0 (at0 (ts 77 [(2,519),(69,83),(75,255),(76,367)])) (.c (t)),524,hA2.map fun b=>some (b.mv τ0 (at0 (ts 77 [(2,519),(69,83),(75,255),(76,367)])))):=by kernel_rfl
theorem ha2f:fit hC1 [.c (p 0 0),.c (a 2),.agg [a 1,a 0,a 0,a 0,a 0,ns]] (ts 77 [(2,519),(69,83),(75,255),(76,367)]) 524=true:=by kernel_rfl
def hD2:List Blk:=hA2++[cs ([u 99])]
def hB2:List Blk:=pt hD2 78 [(0,cs ([p 1 0,a 8,a 6,a 3,a 3,d 2 0 39 1,a 6,a 6])),(1,cs ([a 8,a 6,a 3,a 3,p 3 0,p 4 0,p 5 0,a 1,d 6 0 16 1,m 0,a 0,a 0,s 7 0 8 8,d 8 0 3 1,d 9 0 6 3,s 10 0 6 6,d 69 0 8 14,ch 11,a 38,a 6,f,f,f])),(2,cs (rp 39 [f])),(10,cs ([a 2]++rp 5 [a 0]++[m 0,ns,ns,ns,a 0,a 0,a 5,a 1,a 1,a 0,a 0,a 0,m 0,ns,ns,ns,a 0,a 0,a 7,a 2,a 2,a 0,a 0,a 0,m 0,ns,ns,ns]++rp 4 [a 0]++[a 2,a 1]++rp 2 [a 0,a 0,m 0,ns,ns,ns,a 0,a 0,a 0,a 0,a 0,a 0]++[a 0,a 0,m 0,ns,ns,ns,a 0,a 0])),(62,ck 8 [.c (a 0)]),(69,cs ([a 0,a 1]++rp 4 [a 0]++[ns,a 0,a 0,a 0,ns,a 1,a 3,a 3,a 0,a 4]++rp 4 [a 0]++[d 71 0 1 1,a 0,a 0,a 0,ns,a 4,a 7,a 7,a 0,a 5]++rp 4 [a 0]++[ns,a 0,a 0,a 0,ns,a 9,a 12,a 12,a 1,a 1]++rp 4 [a 0]++[ns,a 0,a 1,a 0,ns,a 14,a 17,a 17,a 1,a 4]++rp 4 [a 0]++[d 74 0 1 1,a 0,a 0,a 0,ns,a 19,a 22,a 22,a 1,a 5]++rp 4 [a 0]++[ns,a 0,a 0,a 0,ns,a 24,a 27,a 27,a 2,a 1]++rp 4 [a 0]++[ns,a 0,a 2,a 0,ns,a 29,a 32,a 32,a 2,a 4]++rp 4 [a 0]++[d 77 0 1 1,a 0,a 0,a 0,ns,a 34,a 37,a 37])),(76,cs ([u 99]++rp 15 [u 0]))]
theorem hb2:zc1 (ts 78 [(2,531),(69,87),(77,85)]) (evCallO OS table 3000 60 11 [.c (p 0 0),.c (a 2),.agg [a 4,a 0,a 0,a 0,a 0,s 77 0 1 1]] (hp hD2))=some (AV.mv τ0 (at0 (ts 78 [(2,531),(69,87),(77,85)])) (.c (t)),536,hB2.map fun b=>some (b.mv τ0 (at0 (ts 78 [(2,531),(69,87),(77,85)])))):=by kernel_rfl
theorem hb2f:fit hD2 [.c (p 0 0),.c (a 2),.agg [a 4,a 0,a 0,a 0,a 0,s 77 0 1 1]] (ts 78 [(2,531),(69,87),(77,85)]) 536=true:=by kernel_rfl
def hC2:List Blk:=pt hB2 79 [(0,cs ([p 1 0,a 8,a 6,a 3,a 3,d 2 0 44 1,a 6,a 6])),(1,cs ([a 8,a 6,a 3,a 3,p 3 0,p 4 0,p 5 0,a 1,d 6 0 16 1,m 0,a 0,a 0,s 7 0 8 8,d 8 0 3 1,d 9 0 6 3,s 10 0 6 6,d 69 0 9 14,ch 11,a 43,a 6,f,f,f])),(2,cs (rp 44 [f])),(10,cs ([a 2]++rp 5 [a 0]++[m 0,ns,ns,ns,a 0,a 0,a 5,a 1,a 1,a 0,a 0,a 0,m 0,ns,ns,ns,a 0,a 0,a 8,a 2,a 2,a 0,a 0,a 0,m 0,ns,ns,ns]++rp 4 [a 0]++[a 2,a 1,a 0,a 0,m 0,ns,d 78 0 1 1]++rp 2 [ns,a 0,a 0,a 0,a 0,a 0,a 0,a 0,a 0,m 0,ns,ns]++[ns,a 0,a 0])),(11,ck 4 []),(14,cs (rp 3 [a 3,a 2,m 0]++[a 1,a 3]++rp 2 [m 0,a 0,a 0]++[m 0])),(18,cs ([p 36 0,a 3,ns,ns,d 37 0 2 1,mp 38])),(29,cs (rp 6 [m 0])),(58,cs ([a 1,a 2,a 0,t,s 76 0 16 16,a 0,m 0,a 0,f,ns])),(62,ck 8 [.c (a 0),.c (a 0)]),(69,cs ([a 0,a 1]++rp 4 [a 0]++[ns,a 0,a 0,a 0,ns,a 1,a 3,a 3,a 0,a 4]++rp 4 [a 0]++[d 71 0 1 1,a 0,a 0,a 0,ns,a 4,a 7,a 7,a 0,a 5]++rp 4 [a 0]++[ns,a 0,a 0,a 0,ns,a 9,a 12,a 12,a 1,a 1]++rp 4 [a 0]++[ns,a 0,a 1,a 0,ns,a 14,a 17,a 17,a 1,a 4]++rp 4 [a 0]++[d 74 0 1 1,a 0,a 0,a 0,ns,a 19,a 22,a 22,a 1,a 5]++rp 4 [a 0]++[ns,a 0,a 0,a 0,ns,a 24,a 27,a 27,a 2,a 1]++rp 4 [a 0]++[ns,a 0,a 2,a 0,ns,a 29,a 32,a 32,a 2,a 4]++rp 4 [a 0]++[d 77 0 1 1,a 0,a 0,a 0,ns,a 34,a 37,a 37,a 2,a 5]++rp 4 [a 0]++[ns,a 0,a 0,a 0,ns,a 39,a 42,a 42])),(78,cs ([a 2]))]
theorem hc2:zc1 (ts 79 [(2,514),(69,85),(78,454)]) (evCallO OS table 3000 60 11 [.c (p 0 0),.c (a 2),.agg [a 5,a 0,a 0,a 0,a 0,ns]] (hp hB2))=some (AV.mv τ0 (at0 (ts 79 [(2,514),(69,85),(78,454)])) (.c (t)),519,hC2.map fun b=>some (b.mv τ0 (at0 (ts 79 [(2,514),(69,85),(78,454)])))):=by kernel_rfl
theorem hc2f:fit hB2 [.c (p 0 0),.c (a 2),.agg [a 5,a 0,a 0,a 0,a 0,ns]] (ts 79 [(2,514),(69,85),(78,454)]) 519=true:=by kernel_rfl
def hS0:List Blk:=pt hC2 79 [(0,cs ([p 1 0,a 8,a 6,a 3,a 3,d 2 0 45 1,a 6,a 6])),(1,cs ([a 8,a 6,a 3,a 3,p 3 0,p 4 0,p 5 0,a 1,d 6 0 16 1,m 0,a 0,a 0,s 7 0 8 8,d 8 0 3 1,d 9 0 6 3,s 10 0 6 6,d 69 0 10 14,ch 11,a 44,a 6,f,f,f])),(2,cs (rp 45 [f])),(10,cs ([a 9]++rp 5 [a 0]++[m 0,ns,ns,ns,a 0,a 0,a 5,a 1,a 1,a 0,a 0,a 0,m 0,ns,ns,ns,a 0,a 0,a 8,a 2,a 2,a 0,a 0,a 0,m 0,ns,ns,ns]++rp 4 [a 0]++[a 2,a 1,a 0,a 0,m 0,ns,d 78 0 1 1]++rp 2 [ns,a 0,a 0,a 0,a 0,a 0,a 0,a 0,a 0,m 0,ns,ns]++[ns,a 0,a 0])),(14,cs ([a 1,a 0]++rp 2 [m 0,a 3,a 2]++[m 0,a 1,a 3]++rp 2 [m 0,a 0,a 0]++[m 0])),(69,cs ([a 0,a 1]++rp 4 [a 0]++[ns,a 0,a 0,a 0,ns,a 1,a 3,a 3,a 0,a 4]++rp 4 [a 0]++[d 71 0 1 1,a 0,a 0,a 0,ns,a 4,a 7,a 7,a 0,a 5]++rp 4 [a 0]++[ns,a 0,a 0,a 0,ns,a 9,a 12,a 12,a 1,a 1]++rp 4 [a 0]++[ns,a 0,a 1,a 0,ns,a 14,a 17,a 17,a 1,a 4]++rp 4 [a 0]++[d 74 0 1 1,a 0,a 0,a 0,ns,a 19,a 22,a 22,a 1,a 5]++rp 4 [a 0]++[ns,a 0,a 0,a 0,ns,a 24,a 27,a 27,a 2,a 1]++rp 4 [a 0]++[ns,a 0,a 2,a 0,ns,a 29,a 32,a 32,a 2,a 4]++rp 4 [a 0]++[d 77 0 1 1,a 0,a 0,a 0,ns,a 34,a 37,a 37,a 2,a 5]++rp 4 [a 0]++[ns,a 0,a 0,a 0,ns,a 39,a 42,a 42,a 0,a 2,a 1]++rp 2 [a 0,a 0,a 0,ns]++[a 44,a 0,a 0]))]
theorem hd0:zc1 (ts 79 [(2,135),(69,85)]) (evCallO OS table 3000 60 14 [.c (p 0 0),.agg [a 1,a 0,a 0,a 0,a 2,a 1,a 0,a 0,a 0,ns,ns]] (hp hC2))=some (AV.mv τ0 (at0 (ts 79 [(2,135),(69,85)])) (.c (t)),136,hS0.map fun b=>some (b.mv τ0 (at0 (ts 79 [(2,135),(69,85)])))):=by kernel_rfl
theorem hd0f:fit hC2 [.c (p 0 0),.agg [a 1,a 0,a 0,a 0,a 2,a 1,a 0,a 0,a 0,ns,ns]] (ts 79 [(2,135),(69,85)]) 136=true:=by kernel_rfl
def hS1:List Blk:=pt hS0 79 [(0,cs ([p 1 0,a 8,a 6,a 3,a 3,d 2 0 46 1,a 6,a 6])),(1,cs ([a 8,a 6,a 3,a 3,p 3 0,p 4 0,p 5 0,a 1,d 6 0 16 1,m 0,a 0,a 0,s 7 0 8 8,d 8 0 3 1,d 9 0 6 3,s 10 0 6 6,d 69 0 11 14,ch 11,a 45,a 6,f,f,f])),(2,cs (rp 46 [f])),(10,cs ([a 9]++rp 5 [a 0]++[m 0,ns,ns,ns,a 0,a 0,a 10]++rp 5 [a 0]++[m 0,ns,ns,ns,a 0,a 0,a 8,a 2,a 2,a 0,a 0,a 0,m 0,ns,ns,ns]++rp 4 [a 0]++[a 2,a 1,a 0,a 0,m 0,ns,d 78 0 1 1]++rp 2 [ns,a 0,a 0,a 0,a 0,a 0,a 0,a 0,a 0,m 0,ns,ns]++[ns,a 0,a 0])),(14,cs (rp 2 [a 1,a 0,m 0]++[a 3,a 2,m 0,a 1,a 3]++rp 2 [m 0,a 0,a 0]++[m 0])),(69,cs ([a 0,a 1]++rp 4 [a 0]++[ns,a 0,a 0,a 0,ns,a 1,a 3,a 3,a 0,a 4]++rp 4 [a 0]++[d 71 0 1 1,a 0,a 0,a 0,ns,a 4,a 7,a 7,a 0,a 5]++rp 4 [a 0]++[ns,a 0,a 0,a 0,ns,a 9,a 12,a 12,a 1,a 1]++rp 4 [a 0]++[ns,a 0,a 1,a 0,ns,a 14,a 17,a 17,a 1,a 4]++rp 4 [a 0]++[d 74 0 1 1,a 0,a 0,a 0,ns,a 19,a 22,a 22,a 1,a 5]++rp 4 [a 0]++[ns,a 0,a 0,a 0,ns,a 24,a 27,a 27,a 2,a 1]++rp 4 [a 0]++[ns,a 0,a 2,a 0,ns,a 29,a 32,a 32,a 2,a 4]++rp 4 [a 0]++[d 77 0 1 1,a 0,a 0,a 0,ns,a 34,a 37,a 37,a 2,a 5]++rp 4 [a 0]++[ns,a 0,a 0,a 0,ns,a 39,a 42,a 42,a 0,a 2,a 1]++rp 2 [a 0,a 0,a 0,ns]++[a 44,a 0,a 0,a 1,a 2,a 1]++rp 2 [a 0,a 0,a 0,ns]++[a 45,a 0,a 0]))]
theorem hd1:zc1 (ts 79 [(2,135),(69,85)]) (evCallO OS table 3000 60 14 [.c (p 0 0),.agg [a 1,a 1,a 0,a 0,a 2,a 1,a 0,a 0,a 0,ns,ns]] (hp hS0))=some (AV.mv τ0 (at0 (ts 79 [(2,135),(69,85)])) (.c (t)),136,hS1.map fun b=>some (b.mv τ0 (at0 (ts 79 [(2,135),(69,85)])))):=by kernel_rfl
theorem hd1f:fit hS0 [.c (p 0 0),.agg [a 1,a 1,a 0,a 0,a 2,a 1,a 0,a 0,a 0,ns,ns]] (ts 79 [(2,135),(69,85)]) 136=true:=by kernel_rfl
theorem hd2 (t0 t1 t2:Int):zc1 (ts 79 [(2,135),(11,85),(12,11),(13,12),(14,13),(15,14),(16,15),(17,16),(18,17),(19,18),(20,78),(21,71),(22,74),(23,77),(24,19),(25,20),(26,21),(27,22),(28,23),(29,24),(30,25),(31,26),(32,72),(33,75),(34,27),(35,28),(36,29),(37,30),(38,31),(39,32),(40,33),(41,34),(42,35),(43,36),(44,37),(45,38),(46,39),(47,40),(48,41),(49,42),(50,43),(51,44),(52,45),(53,46),(54,47),(55,48),(56,49),(57,50),(58,51),(59,52),(60,53),(61,54),(62,55),(63,56),(64,57),(65,58),(66,59),(67,60),(68,61),(69,62),(71,63),(72,64),(74,65),(75,66),(77,67),(78,68)]) (evCallO OS table 3000 60 14 [.c (p 0 0),.agg [a 1,a 2,a 0,a 0,a 2,a 1,a 0,a 0,a 0,ns,ns]] (hp hS1))=some (AV.mv τ0 (at0 (ts 79 [(2,135),(11,85),(12,11),(13,12),(14,13),(15,14),(16,15),(17,16),(18,17),(19,18),(20,78),(21,71),(22,74),(23,77),(24,19),(25,20),(26,21),(27,22),(28,23),(29,24),(30,25),(31,26),(32,72),(33,75),(34,27),(35,28),(36,29),(37,30),(38,31),(39,32),(40,33),(41,34),(42,35),(43,36),(44,37),(45,38),(46,39),(47,40),(48,41),(49,42),(50,43),(51,44),(52,45),(53,46),(54,47),(55,48),(56,49),(57,50),(58,51),(59,52),(60,53),(61,54),(62,55),(63,56),(64,57),(65,58),(66,59),(67,60),(68,61),(69,62),(71,63),(72,64),(74,65),(75,66),(77,67),(78,68)])) (.c (t)),136,(H 0 t0 t1 t2).map fun b=>some (b.mv τ0 (at0 (ts 79 [(2,135),(11,85),(12,11),(13,12),(14,13),(15,14),(16,15),(17,16),(18,17),(19,18),(20,78),(21,71),(22,74),(23,77),(24,19),(25,20),(26,21),(27,22),(28,23),(29,24),(30,25),(31,26),(32,72),(33,75),(34,27),(35,28),(36,29),(37,30),(38,31),(39,32),(40,33),(41,34),(42,35),(43,36),(44,37),(45,38),(46,39),(47,40),(48,41),(49,42),(50,43),(51,44),(52,45),(53,46),(54,47),(55,48),(56,49),(57,50),(58,51),(59,52),(60,53),(61,54),(62,55),(63,56),(64,57),(65,58),(66,59),(67,60),(68,61),(69,62),(71,63),(72,64),(74,65),(75,66),(77,67),(78,68)])))):=by kernel_rfl
theorem hd2f:fit hS1 [.c (p 0 0),.agg [a 1,a 2,a 0,a 0,a 2,a 1,a 0,a 0,a 0,ns,ns]] (ts 79 [(2,135),(11,85),(12,11),(13,12),(14,13),(15,14),(16,15),(17,16),(18,17),(19,18),(20,78),(21,71),(22,74),(23,77),(24,19),(25,20),(26,21),(27,22),(28,23),(29,24),(30,25),(31,26),(32,72),(33,75),(34,27),(35,28),(36,29),(37,30),(38,31),(39,32),(40,33),(41,34),(42,35),(43,36),(44,37),(45,38),(46,39),(47,40),(48,41),(49,42),(50,43),(51,44),(52,45),(53,46),(54,47),(55,48),(56,49),(57,50),(58,51),(59,52),(60,53),(61,54),(62,55),(63,56),(64,57),(65,58),(66,59),(67,60),(68,61),(69,62),(71,63),(72,64),(74,65),(75,66),(77,67),(78,68)]) 136=true:=by kernel_rfl
end Q
end Lav
set_option maxRecDepth 100000
set_option linter.unusedVariables false
namespace Lav
open Go (IntKind)
open Q
def SgP (f:Nat) (args:List AV) (l l':List Blk):Prop:=∃ (ts:List Nat) (n:Nat),zc1 ts (evCallO OS table 3000 60 f args (hp l))=some (AV.mv τ0 (at0 ts) (.c t),n,l'.map fun b=>some (b.mv τ0 (at0 ts)))∧fit l args ts n=true∧at0 ts 0=0
section
variable {h0 g:Heap} {ρ:Nat→Nat} {p N d:Nat}
theorem zpf {f:Nat} {args:List AV} {l l':List Blk} (S:SgP f args l l') (A:At h0 ρ l g) (hl:0 < l.length) (hN:3000≤N) (hd:60≤d) :
  ∃ ρ' g',evCallO OS table N d f (mva τ0 ρ args) g=some (.c (.bool true),g')∧At h0 ρ' l' g'∧ρ' 0=ρ 0:=by
 obtain ⟨ts,n,e1,e2,e3⟩:=S
 obtain ⟨ρ',g',ev,A',kp,_,_⟩:=zfn zdv zdn hN (by omega) hd e1 e2 A
 exact ⟨ρ',g',ev,A',kp 0 e3 hl⟩
theorem ztq {lp la lb lc:List Blk} {c v:Nat} (S1:SgP 11 [.c (Q.p 0 0),.c (a c),.agg [a 1,a 0,a 0,a 0,a 0,ns]] lp la) (S2:SgP 11 [.c (Q.p 0 0),.c (a c),.agg [a 4,a 0,a 0,a 0,a 0,s la.length 0 1 1]] (la++[cs [u v]]) lb) (S3:SgP 11 [.c (Q.p 0 0),.c (a c),.agg [a 5,a 0,a 0,a 0,a 0,ns]] lb lc)
  (hw:(la.all (Blk.lt la.length) && (Nat.blt 0 lp.length && (Nat.blt 0 la.length && Nat.blt 0 lb.length)))=true) (A:At h0 ρ lp g) (hp:ρ 0=p) (hN:3000≤N) (hd:60≤d) :
  ∃ g1 g2 g3 ρ',evCallO OS table N d 11 [.c (.ptr p 0),.c (.int .i64 (c:Int)),.agg [.int .i64 1,.int .i64 0,.int .i64 0,.int .i64 0,.int .i64 0,.nils]] g=some (.c (.bool true),g1) ∧
   evCallO OS table N d 11 [.c (.ptr p 0),.c (.int .i64 (c:Int)),.agg [.int .i64 4,.int .i64 0,.int .i64 0,.int .i64 0,.int .i64 0,.sl g1.next 0 1 (.ex 1)]] (g1.new (.cells [.int .u8 (v:Int)]))=some (.c (.bool true),g2) ∧
   evCallO OS table N d 11 [.c (.ptr p 0),.c (.int .i64 (c:Int)),.agg [.int .i64 5,.int .i64 0,.int .i64 0,.int .i64 0,.int .i64 0,.nils]] g2=some (.c (.bool true),g3)∧At h0 ρ' lc g3∧ρ' 0=p:=by
 simp only [Bool.and_eq_true] at hw
 obtain ⟨w1,w2,w3,w4⟩:=hw
 obtain ⟨ρ1,g1,e1,A1,k1⟩:=zpf S1 A (Nat.le_of_ble_eq_true w2) hN hd
 have B:=A1.snoc [.int .u8 (v:Int)] rfl rfl w1
 have hla:0 < la.length:=Nat.le_of_ble_eq_true w3
 obtain ⟨ρ2,g2,e2,A2,k2⟩:=zpf S2 B (by simp) hN hd
 obtain ⟨ρ3,g3,e3,A3,k3⟩:=zpf S3 A2 (Nat.le_of_ble_eq_true w4) hN hd
 have q1:ρ1 0=p:=k1.trans hp
 have q2':(fun i=>if i=la.length then g1.next else ρ1 i) 0=p:=by
  show (if 0=la.length then g1.next else ρ1 0)=p
  rw [if_neg (by omega)];exact q1
 have q2:ρ2 0=p:=k2.trans q2'
 refine ⟨g1,g2,g3,ρ3,?_,?_,?_,A3,k3.trans q2⟩
 ·rw [← hp];exact e1
 ·have e2':evCallO OS table N d 11 [.c (.ptr ((fun i=>if i=la.length then g1.next else ρ1 i) 0) 0),.c (.int .i64 (c:Int)),.agg [.int .i64 4,.int .i64 0,.int .i64 0,.int .i64 0,.int .i64 0,.sl ((fun i=>if i=la.length then g1.next else ρ1 i) la.length) 0 1 (.ex 1)]] (g1.new (.cells [.int .u8 (v:Int)]))=some (.c (.bool true),g2):=e2
  rw [q2',show (fun i=>if i=la.length then g1.next else ρ1 i) la.length=g1.next from if_pos rfl] at e2'
  exact e2'
 ·rw [← q2];exact e3
end
def zqs:Nat→List Blk
 | 0=>hP0
 | 1=>hC0
 | 2=>hC1
 | _=>hC2
theorem mks {h0 g:Heap} {ρ:Nat→Nat} {p N d i:Nat} (hi:i < 3) (A:At h0 ρ (zqs i) g) (hp:ρ 0=p) (hN:3000≤N) (hd:60≤d) :
  ∃ g1 g2 g3 ρ',evCallO OS table N d 11 [.c (.ptr p 0),.c (.int .i64 (i:Int)),.agg [.int .i64 1,.int .i64 0,.int .i64 0,.int .i64 0,.int .i64 0,.nils]] g=some (.c (.bool true),g1) ∧
   evCallO OS table N d 11 [.c (.ptr p 0),.c (.int .i64 (i:Int)),.agg [.int .i64 4,.int .i64 0,.int .i64 0,.int .i64 0,.int .i64 0,.sl g1.next 0 1 (.ex 1)]] (g1.new (.cells [.int .u8 ((97 + i:Nat):Int)]))=some (.c (.bool true),g2) ∧
   evCallO OS table N d 11 [.c (.ptr p 0),.c (.int .i64 (i:Int)),.agg [.int .i64 5,.int .i64 0,.int .i64 0,.int .i64 0,.int .i64 0,.nils]] g2=some (.c (.bool true),g3)∧At h0 ρ' (zqs (i + 1)) g3∧ρ' 0=p:=by
 match i,hi with
 | 0,_=>exact ztq (c:=0) (v:=97) ⟨_,_,ha0,ha0f,by kernel_rfl⟩ ⟨_,_,hb0,hb0f,by kernel_rfl⟩ ⟨_,_,hc0,hc0f,by kernel_rfl⟩ (by kernel_rfl) A hp hN hd
 | 1,_=>exact ztq (c:=1) (v:=98) ⟨_,_,ha1,ha1f,by kernel_rfl⟩ ⟨_,_,hb1,hb1f,by kernel_rfl⟩ ⟨_,_,hc1,hc1f,by kernel_rfl⟩ (by kernel_rfl) A hp hN hd
 | 2,_=>exact ztq (c:=2) (v:=99) ⟨_,_,ha2,ha2f,by kernel_rfl⟩ ⟨_,_,hb2,hb2f,by kernel_rfl⟩ ⟨_,_,hc2,hc2f,by kernel_rfl⟩ (by kernel_rfl) A hp hN hd
theorem zxu {N d:Nat} {h:Heap} (hN:3000≤N):∃ h' ρ p,evCallO OS table N (d + 61) 10 [.c (.int .i64 3)] h=some (.c (.ptr p 0),h')∧At h ρ hC2 h'∧ρ 0=p:=by
 obtain ⟨ρ0,h1,e1,A0,_,_,_⟩:=zfn zdv zdn hN (by omega) (show 60≤d + 60 by omega) hs0 hs0f (At.empty h)
 have e1':evCallO OS table N (d + 60) 24 [.agg [.int .i64 8,.int .i64 6,.int .i64 3,.int .i64 3]] h=some (.c (.ptr (ρ0 0) 0),h1):=e1
 generalize hp:ρ0 0=p at e1'
 have L:∀ loc,zbv ir10_k0 loc=[.c (.int .i64 3),.junk,.c (.ptr p 0),.c (.int .i64 0),.junk,.junk] →
   ∃ r,zcr (evCallO OS table N (d + 60)) N ir10_k0 ir10_l0 N loc h1=some r∧∃ H ρ a0 a1 a3 a4 a5,At h ρ hC2 H∧ρ 0=p∧r=(.exit 0,[a0,a1,.c (.ptr p 0),a3,a4,a5],H):=by
  intro loc hloc
  refine zcl (n:=3) (fun i loc H=>(∃ ρ,At h ρ (zqs i) H∧ρ 0=p)∧loc=[.c (.int .i64 3),.junk,.c (.ptr p 0),.c (.int .i64 (i:Int)),.junk,.junk]) _ ?_ ⟨⟨ρ0,A0,hp⟩,hloc⟩ (by omega)
  rintro i loc H hi ⟨⟨ρ,A,hq⟩,rfl⟩
  unfold ir10_l0
  by_cases hlt:i < 3
  ·left
   have v1:decide ((i:Int) < 3)=true:=decide_eq_true (by omega)
   have v2:=zdm (i:=i) (by omega)
   have v3:(i:Int).tmod 3=(i:Int):=by
    rw [Int.tmod_eq_emod_of_nonneg (by omega)];omega
   obtain ⟨g1,g2,g3,ρ',e2,e3,e4,A',hq'⟩:=mks (N:=N) (d:=d + 60) hlt A hq hN (by omega)
   have w1:IntKind.i64.wrap (97 + (i:Int))=97 + (i:Int):=zf7 (by omega) (by omega)
   have w2:IntKind.u8.wrap (97 + (i:Int))=((97 + i:Nat):Int):=by
    have:IntKind.u8.wrap (97 + (i:Int))=(97 + (i:Int)) % 256:=by simp [IntKind.wrap,IntKind.bits,IntKind.signed]
    rw [this];omega
   simp only [zap,zac,zas,zat,zav,zam,za2,zbm,za5,zad,zaj,zaa,zau,zae,zaf,zar,zln,zax,zk7,zba,zdq,zj8,zbd,zbb,za6,zbe,zee,zme,zp4,zbf,zag,za7,X.eval,zal,zai,List.map_cons,List.map_nil,List.getD_cons_zero,List.getD_cons_succ,List.set_cons_zero,List.set_cons_succ,zay,zdk,zaq,zab,zak,zgl,intArith,shift,zfo,cond_true,cond_false,BEq.rfl,zb0,zb1,AV.cells,List.length_cons,List.length_nil,zeros,zdf,setMany,List.nil_append,List.cons_append,Nat.ble,Nat.zero_add,Nat.reduceAdd,Int.reduceBEq,Bool.not_true,Bool.not_false,Int.reduceLT,decide_false,zdl,zdt,v1,v3,e2,w1,w2,e3,e4,v2]
   exact ⟨hlt,_,_,rfl,⟨ρ',A',hq'⟩,rfl⟩
  ·right
   have hin:i=3:=by omega
   subst hin
   have v1:decide (((3:Nat):Int) < 3)=false:=rfl
   simp only [zap,zac,zb2,zas,zat,zam,zcf,zad,zaj,zaa,zau,zae,zaf,zar,zax,zba,zj8,za6,zbe,zme,zag,X.eval,zal,zai,List.getD_cons_zero,List.getD_cons_succ,List.set_cons_zero,List.set_cons_succ,zay,zaq,zab,zak,intArith,shift,zfo,cond_true,cond_false,BEq.rfl,Bool.not_false,Int.reduceLT,decide_false,v1]
   exact ⟨_,rfl,by simp,H,ρ,_,_,_,_,_,A,hq,rfl⟩
 obtain ⟨r,⟨H,ρ,a0,a1,a3,a4,a5,A,hq,rfl⟩,hr0⟩:=zcn L rfl
 rw [zbi (F:=ir10) rfl rfl rfl]
 unfold ir10
 rw [zbp]
 simp only [za9,zap,zac,zas,za2,zb9,zad,zaj,zaa,zae,zaf,zar,zbd,zbb,zag,X.eval,zal,zai,List.map_cons,List.map_nil,List.getD_cons_zero,List.getD_cons_succ,List.getD_nil,List.set_cons_zero,List.set_cons_succ,cond_true,BEq.rfl,zb0,zb1,AV.cells,List.length_cons,List.length_nil,zdf,setMany,Nat.ble,Nat.zero_add,Nat.reduceAdd,zdl,zdt,e1']
 rw [hr0 _ rfl]
 simp only [zap,zac,zas,zbu,zbl,zad,zaj,zaa,zae,zaf,zar,zaz,za1,X.eval,zal,zai,List.getD_cons_zero,List.getD_cons_succ,List.set_cons_zero,List.set_cons_succ,cond_true,BEq.rfl,zbk,RV.eval]
 exact ⟨H,ρ,p,rfl,A,hq⟩
end Lav
set_option maxRecDepth 100000
set_option linter.unusedVariables false
namespace Lav
open Go (IntKind)
def zgk (f:Nat) (l:List Blk) (r:AV) (ts:List Nat) (news:List Blk):Prop:=∃ n,zpe l.length [] ts (evCallO OS table 3000 60 f [.c (Q.p 1 0)] (hk l []))=some (r,n,(live l.length []).map (fun i=>l[i]?),news.map some)∧fit l [.c (Q.p 1 0)] ts n=true
theorem look_ok {f:Nat} {l:List Blk} {r:AV} {ts:List Nat} {news:List Blk} (L:zgk f l r ts news) {N:Nat} (hN:3000≤N) {ρ:Nat→Nat} {g:Heap} (E:Emb ρ (hp l) g) {d:Nat} (hd:60≤d) {G:Heap} (x:Ext g G) :
  ∃ G' σ,evCallO OS table N d f [.c (.ptr (ρ 1) 0)] G=some (r.mv τ0 σ,G')∧Ext G G'∧∀ (j:Nat) (b:Blk),news[j]? = some b→∃ t,ts[j]? = some t∧σ t < G'.next∧G'.get (σ t)=some (b.mv τ0 σ):=by
 obtain ⟨n,e1,e2⟩:=L
 obtain ⟨G',e,x',nw⟩:=obs zdv zdn hN (by omega) hd e1 e2 (show Emb ρ (hk l []) G from E.ext x)
 exact ⟨G',_,e,x',nw⟩
theorem znv {f:Nat} {l:List Blk} {v:CV} (L:zgk f l (.c v) [] []) (hv:∀ σ,v.mv τ0 σ=v) {N:Nat} (hN:3000≤N) {ρ:Nat→Nat} {g:Heap} (E:Emb ρ (hp l) g) {d:Nat} (hd:60≤d) {G:Heap} (x:Ext g G) :
  ∃ G',evCallO OS table N d f [.c (.ptr (ρ 1) 0)] G=some (.c v,G')∧Ext G G':=by
 obtain ⟨G',σ,e,x',-⟩:=look_ok L hN E hd x
 refine ⟨G',?_,x'⟩
 rw [e]
 show some (AV.c (v.mv τ0 σ),G')=_
 rw [hv]
theorem zmx {α:Type} (f:α→List CV) (k:Nat) (hf:∀ a,(f a).length=k):∀ (L:List α) (i:Nat) (a:α),L[i]? = some a→cut (L.flatMap f) (i * k) k=some (f a)
 | [],i,a,h=>by simp at h
 | x :: L,0,a,h=>by
  simp only [List.getElem?_cons_zero,Option.some.injEq] at h
  subst h
  unfold cut
  have:Nat.ble (0 * k + k) ((x :: L).flatMap f).length=true:=Nat.ble_eq_true_of_le (by simp [hf])
  rw [this]
  simp only [cond_true,Nat.zero_mul,List.drop_zero,List.flatMap_cons]
  rw [List.take_append_of_le_length (by rw [hf];exact Nat.le_refl _),List.take_of_length_le (by rw [hf];exact Nat.le_refl _)]
 | x :: L,i + 1,a,h=>by
  have ih:=zmx f k hf L i a (by simpa using h)
  unfold cut at ih ⊢
  have e1:(i + 1) * k=k + i * k:=by rw [Nat.succ_mul];omega
  have hlen:((x :: L).flatMap f).length=k + (L.flatMap f).length:=by simp [hf]
  cases hb:Nat.ble (i * k + k) (L.flatMap f).length with
  | false=>rw [hb] at ih;cases ih
  | true =>
   rw [hb] at ih
   have hb2:Nat.ble ((i + 1) * k + k) ((x :: L).flatMap f).length=true:=Nat.ble_eq_true_of_le (by have:=Nat.le_of_ble_eq_true hb;rw [hlen,e1];omega)
   rw [hb2]
   simp only [cond_true,Option.some.injEq] at ih ⊢
   rw [← ih,e1,List.flatMap_cons,← List.drop_drop,List.drop_append_of_le_length (by rw [hf];exact Nat.le_refl _)]
   have:(f x).drop k=[]:=List.drop_of_length_le (by rw [hf];exact Nat.le_refl _)
   rw [this,List.nil_append]
def evX (t:Ev × CV × CV):List CV:=evC t.1 t.2.1 t.2.2
def dok (D:List (Nat × List (BitVec 8))) (v:CV) (bs:List (BitVec 8)):Bool:=match v with
 | .nils=>bs.isEmpty
 | .sl i 0 n _=>Nat.beq n bs.length && D.any fun x=>Nat.beq x.1 i && x.2 == bs
 | _=>false
theorem zaa6 (σ:Nat→Nat) (L:List (Ev × CV × CV)):mvs τ0 σ (L.flatMap evX)=(L.map fun t=>(t.1,t.2.1.mv τ0 σ,t.2.2.mv τ0 σ)).flatMap evX:=by
 unfold mvs
 rw [List.map_flatMap,List.flatMap_map]
 rfl
theorem zvh (σ:Nat→Nat) (bs:List (BitVec 8)):mvs τ0 σ (u8s bs)=u8s bs:=by
 unfold mvs u8s
 rw [List.map_map];rfl
theorem zvi {D:List (Nat × List (BitVec 8))} {σ:Nat→Nat} {G:Heap} (hD:∀ x∈D,σ x.1 < G.next∧G.get (σ x.1)=some (.cells (u8s x.2))) {v:CV} {bs:List (BitVec 8)} (h:dok D v bs=true):Bytes G (v.mv τ0 σ) bs:=by
 unfold dok at h
 split at h
 ·exact .inl ⟨rfl,List.isEmpty_iff.1 h⟩
 ·rename_i i n c
  rw [Bool.and_eq_true,List.any_eq_true] at h
  obtain ⟨hn,x,hx,hb⟩:=h
  rw [Bool.and_eq_true] at hb
  obtain ⟨h1,h2⟩:=hD x hx
  have e1:=Nat.eq_of_beq_eq_true hb.1
  have e2:x.2=bs:=eq_of_beq hb.2
  rw [e1] at h1 h2
  rw [e2] at h2
  refine .inr ⟨σ i,0,c,by rw [← Nat.eq_of_beq_eq_true hn];rfl,h1,fun j b hj=>?_⟩
  refine zah h2 ?_
  unfold u8s
  rw [List.getElem?_map,show 0 + j * 1=j by omega,hj];rfl
 ·cases h
def zxv (D:List (Nat × List (BitVec 8))):List Blk:=D.map fun x=>.cells (u8s x.2)
theorem zqt {l:List Blk} {k:Nat} {c:Cap} {L:List (Ev × CV × CV)} {D:List (Nat × List (BitVec 8))} (H:zgk 12 l (.c (.sl k 0 L.length c)) (k :: D.map (·.1)) (.cells (L.flatMap evX) :: zxv D))
  (hB:(L.all fun t=>dok D t.2.1 t.1.op.data && dok D t.2.2 t.1.rs.rd)=true) {N:Nat} (hN:3000≤N) {ρ:Nat→Nat} {g:Heap} (E:Emb ρ (hp l) g) {d:Nat} (hd:60≤d) {G:Heap} (x:Ext g G) :
  ∃ y G',evCallO OS table N d 12 [.c (.ptr (ρ 1) 0)] G=some (.c y,G')∧Evs G' y (L.map (·.1))∧Ext G G':=by
 obtain ⟨G',σ,e,x',nw⟩:=look_ok H hN E hd x
 refine ⟨_,G',e,?_,x'⟩
 obtain ⟨t,ht,l0,g0⟩:=nw 0 _ rfl
 simp only [List.getElem?_cons_zero,Option.some.injEq] at ht
 subst ht
 have g0':G'.get (σ k)=some (.cells ((L.map fun t=>(t.1,t.2.1.mv τ0 σ,t.2.2.mv τ0 σ)).flatMap evX)):=by
  rw [g0,← zaa6];rfl
 have hD:∀ x∈D,σ x.1 < G'.next∧G'.get (σ x.1)=some (.cells (u8s x.2)):=by
  intro x hx
  obtain ⟨j,hj,rfl⟩:=List.getElem_of_mem hx
  obtain ⟨t,ht,l1,g1⟩:=nw (j + 1) (.cells (u8s D[j].2)) (by unfold zxv;simp [hj])
  simp only [List.getElem?_cons_succ,List.getElem?_map,List.getElem?_eq_getElem hj,Option.map_some,Option.some.injEq] at ht
  subst ht
  refine ⟨l1,g1.trans ?_⟩
  show some (Blk.cells (mvs τ0 σ (u8s D[j].2)))=_
  rw [zvh]
 refine .inr ⟨σ k,c,by rw [List.length_map];rfl,l0,fun i e he=>?_⟩
 rw [List.getElem?_map] at he
 cases hi:L[i]? with
 | none=>rw [hi] at he;cases he
 | some t =>
  rw [hi] at he
  simp only [Option.map_some,Option.some.injEq] at he
  subst he
  have hb:=List.all_eq_true.1 hB t (List.mem_of_getElem? hi)
  rw [Bool.and_eq_true] at hb
  refine ⟨t.2.1.mv τ0 σ,t.2.2.mv τ0 σ,?_,zvi hD hb.1,zvi hD hb.2⟩
  unfold Heap.read
  rw [g0']
  exact zmx evX 14 (fun t=>zdc t.1 t.2.1 t.2.2) _ i (t.1,t.2.1.mv τ0 σ,t.2.2.mv τ0 σ) (by rw [List.getElem?_map,hi];rfl)
theorem zvj {l:List Blk} {k:Nat} {c:Cap} {fs:List Fra} (H:zgk 31 l (.c (.sl k 0 fs.length c)) [k] [.cells (fs.flatMap zji)]) {N:Nat} (hN:3000≤N) {ρ:Nat→Nat} {g:Heap} (E:Emb ρ (hp l) g) {d:Nat} (hd:60≤d) {G:Heap} (x:Ext g G) :
  ∃ y G',evCallO OS table N d 31 [.c (.ptr (ρ 1) 0)] G=some (.c y,G')∧Fras G' y fs∧Ext G G':=by
 obtain ⟨G',σ,e,x',nw⟩:=look_ok H hN E hd x
 refine ⟨_,G',e,?_,x'⟩
 obtain ⟨t,ht,l0,g0⟩:=nw 0 _ rfl
 simp only [List.getElem?_cons_zero,Option.some.injEq] at ht
 subst ht
 have g0':G'.get (σ k)=some (.cells (fs.flatMap zji)):=by
  rw [g0]
  show some (Blk.cells (mvs τ0 σ (fs.flatMap zji)))=_
  unfold mvs
  rw [List.map_flatMap]
  rfl
 refine .inr ⟨σ k,c,rfl,l0,fun i hi=>?_⟩
 unfold Heap.read
 rw [g0']
 have:zg9 fs i=fs[i]:=by unfold zg9;rw [List.getD_eq_getElem?_getD,List.getElem?_eq_getElem hi];rfl
 rw [this]
 exact zmx zji 5 (fun _=>rfl) fs i fs[i] (List.getElem?_eq_getElem hi)
theorem zvk {l:List Blk} {k:Nat} {c:Cap} {K:List Nat} (H:zgk 15 l (.c (.sl k 0 K.length c)) (k :: K) (.cells (K.map fun i=>.sl i 0 24 (.dy 1)) :: K.map fun _=>.cells (u8s (List.replicate 24 0#8)))) {N:Nat} (hN:3000≤N) {ρ:Nat→Nat} {g:Heap} (E:Emb ρ (hp l) g) {d:Nat} (hd:60≤d) {G:Heap} (x:Ext g G) :
  ∃ y G',evCallO OS table N d 15 [.c (.ptr (ρ 1) 0)] G=some (.c y,G')∧Imgs G' y (List.replicate K.length (List.replicate 24 0#8))∧Ext G G':=by
 obtain ⟨G',σ,e,x',nw⟩:=look_ok H hN E hd x
 refine ⟨_,G',e,?_,x'⟩
 obtain ⟨t,ht,l0,g0⟩:=nw 0 _ rfl
 simp only [List.getElem?_cons_zero,Option.some.injEq] at ht
 subst ht
 have g0':G'.get (σ k)=some (.cells (K.map fun i=>.sl (σ i) 0 24 (.dy 1))):=by
  rw [g0]
  show some (Blk.cells (mvs τ0 σ (K.map fun i=>.sl i 0 24 (.dy 1))))=_
  unfold mvs
  rw [List.map_map];rfl
 refine .inr ⟨σ k,c,by rw [List.length_replicate];rfl,l0,fun i hi=>?_⟩
 rw [List.length_replicate] at hi
 have ei:(List.replicate K.length (List.replicate 24 0#8)).getD i []=List.replicate 24 0#8:=by
  rw [List.getD_eq_getElem?_getD,List.getElem?_replicate,if_pos hi];rfl
 rw [ei]
 obtain ⟨t,ht,l1,g1⟩:=nw (i + 1) (.cells (u8s (List.replicate 24 0#8))) (by simp [hi])
 simp only [List.getElem?_cons_succ,List.getElem?_eq_getElem hi,Option.some.injEq] at ht
 subst ht
 have g1':G'.get (σ K[i])=some (.cells (u8s (List.replicate 24 0#8))):=by
  rw [g1]
  show some (Blk.cells (mvs τ0 σ (u8s _)))=_
  rw [zvh]
 refine ⟨.sl (σ K[i]) 0 24 (.dy 1),zah g0' (by rw [List.getElem?_map,List.getElem?_eq_getElem hi];rfl),.inr ⟨σ K[i],0,.dy 1,by rw [List.length_replicate],l1,fun j b hj=>?_⟩,σ K[i],by rw [List.length_replicate]⟩
 refine zah g1' ?_
 unfold u8s
 rw [List.getElem?_map,show 0 + j * 1=j by omega,hj];rfl
end Lav
set_option maxRecDepth 100000
set_option linter.unusedVariables false
namespace Lav
open Q
def bv (l:List Nat):List (BitVec 8):=M.bv l
def wd (ds rs:List (Nat × Nat)):Nat→List Ev→List (Ev × CV × CV)
 | _,[]=>[]
 | i,e :: l=>(e,(match ds.lookup i with
  | some k=>.sl k 0 1 (.dy 1)
  | none=>.nils),(match rs.lookup i with
  | some k=>.sl k 0 1 (.dy 1)
  | none=>.nils)) :: wd ds rs (i + 1) l
theorem znw (ds rs:List (Nat × Nat)):∀ (l:List Ev) (i:Nat),(wd ds rs i l).map (·.1)=l
 | [],_=>rfl
 | e :: l,i=>by
  show e :: (wd ds rs (i + 1) l).map (·.1)=_
  rw [znw]
structure Shows (l:List Blk) (L:List (Ev × CV × CV)) (fs:List Fra) (works:Bool) (now:Nat):Prop where
 pb:∃ c,l[0]? = some (.cells [.ptr 1 0,.int .i64 8,.int .i64 6,.int .i64 3,.int .i64 3,.sl 2 0 (now + 1) c,.int .i64 6,.int .i64 6])
 ev:∃ k c D,zgk 12 l (.c (.sl k 0 L.length c)) (k :: D.map (·.1)) (.cells (L.flatMap evX) :: zxv D)∧(L.all fun t=>dok D t.2.1 t.1.op.data && dok D t.2.2 t.1.rs.rd)=true
 im:∃ k c K,K.length=8∧zgk 15 l (.c (.sl k 0 K.length c)) (k :: K) (.cells (K.map fun i=>.sl i 0 24 (.dy 1)) :: K.map fun _=>.cells (u8s (List.replicate 24 0#8)))
 fr:∃ k c,zgk 31 l (.c (.sl k 0 fs.length c)) [k] [.cells (fs.flatMap zji)]
 cp:zgk 18 l (.c (.int .i64 6)) [] []
 wk:zgk 40 l (.c (.bool works)) [] []
 dn:zgk 38 l (.c (.bool false)) [] []
 nw:zgk 37 l (.c (.int .i64 (.ofNat now))) [] []
theorem zqu {l:List Blk} {L:List (Ev × CV × CV)} {fs:List Fra} {works:Bool} {now:Nat} (S:Shows l L fs works now) {N:Nat} (hN:3000≤N) {h0 g:Heap} {ρ:Nat→Nat} (A:At h0 ρ l g):Sees N g (ρ 0) (M.view (L.map (·.1)) fs works now (List.replicate (now + 1) false)):=by
 obtain ⟨⟨c0,pb⟩,⟨k1,c1,D,h1,h1'⟩,⟨k2,c2,K,hK,h2⟩,⟨k3,c3,h3⟩,h4,h5,h6,h7⟩:=S
 have hl:0 < l.length:=(List.getElem?_eq_some_iff.1 pb).1
 have hg:=A.emb.get hl
 rw [(List.getElem?_eq_some_iff.1 pb).2] at hg
 refine ⟨⟨ρ 1,.sl (ρ 2) 0 (now + 1) c0,hg,⟨ρ 2,c0,by show _=CV.sl _ 0 (List.replicate (now + 1) false).length _;rw [List.length_replicate]⟩,fun d hd G x=>zqt h1 h1' hN A.emb hd x,fun d hd G x=>?_,fun d hd G x=>zvj h3 hN A.emb hd x,fun d hd G x=>znv h4 (fun _=>rfl) hN A.emb hd x,fun d hd G x=>znv h5 (fun _=>rfl) hN A.emb hd x,fun d hd G x=>znv h6 (fun _=>rfl) hN A.emb hd x,fun d hd G x=>znv h7 (fun _=>rfl) hN A.emb hd x⟩,A.emb.lt hl⟩
 have:=zvk h2 hN A.emb hd x
 rw [hK] at this
 exact this
def DP (c:Nat) (l l':List Blk):Prop:=∃ (ts:List Nat) (n:Nat),zc1 ts (evCallO OS table 3000 60 11 [.c (p 0 0),.c (a c),.agg [a 3,a 0,a 0,a 0,a 1,ns]] (hp l))=some (AV.mv τ0 (at0 ts) (.c t),n,l'.map fun b=>some (b.mv τ0 (at0 ts)))∧fit l [.c (p 0 0),.c (a c),.agg [a 3,a 0,a 0,a 0,a 1,ns]] ts n=true∧at0 ts 0=0
end Lav
set_option maxRecDepth 100000
set_option linter.unusedVariables false
namespace Lav
open Q
theorem w1 (t0 t1 t2:Int):Shows (H 1 t0 t1 t2) (wd [(1,82),(4,84),(7,86)] [] 0 (M.sameL false false false t0 t1 t2)) [⟨1,0,0,0,false⟩,⟨0,(-1),0,0,false⟩,⟨1,1,0,1,false⟩,⟨0,(-1),0,1,false⟩,⟨1,2,0,2,true⟩,⟨0,(-1),0,2,false⟩] false 47:=⟨⟨.dy 1,by kernel_rfl⟩,⟨80,.dy 14,[(82,bv [97]),(84,bv [98]),(86,bv [99])],⟨87,by kernel_rfl,by kernel_rfl⟩,by kernel_rfl⟩,⟨110,.dy 1,[80,84,88,92,96,100,104,108],rfl,⟨111,by kernel_rfl,by kernel_rfl⟩⟩,⟨126,.dy 5,⟨127,by kernel_rfl,by kernel_rfl⟩⟩,⟨85,by kernel_rfl,by kernel_rfl⟩,⟨79,by kernel_rfl,by kernel_rfl⟩,⟨79,by kernel_rfl,by kernel_rfl⟩,⟨79,by kernel_rfl,by kernel_rfl⟩⟩
theorem w2 (t0 t1 t2:Int):Shows (H 2 t0 t1 t2) (wd [(1,82),(4,84),(7,86)] [] 0 (M.sameL false false false t0 t1 t2)) [⟨1,0,0,0,false⟩,⟨0,(-1),0,0,false⟩,⟨1,1,0,1,false⟩,⟨0,(-1),0,1,false⟩,⟨1,2,0,2,true⟩,⟨0,(-1),0,2,false⟩] false 47:=⟨⟨.dy 1,by kernel_rfl⟩,⟨80,.dy 14,[(82,bv [97]),(84,bv [98]),(86,bv [99])],⟨87,by kernel_rfl,by kernel_rfl⟩,by kernel_rfl⟩,⟨110,.dy 1,[80,84,88,92,96,100,104,108],rfl,⟨111,by kernel_rfl,by kernel_rfl⟩⟩,⟨126,.dy 5,⟨127,by kernel_rfl,by kernel_rfl⟩⟩,⟨85,by kernel_rfl,by kernel_rfl⟩,⟨79,by kernel_rfl,by kernel_rfl⟩,⟨79,by kernel_rfl,by kernel_rfl⟩,⟨79,by kernel_rfl,by kernel_rfl⟩⟩
theorem w3 (t0 t1 t2:Int):Shows (H 3 t0 t1 t2) (wd [(1,82),(4,84),(7,86)] [] 0 (M.sameL false false false t0 t1 t2)) [⟨1,0,0,0,false⟩,⟨0,(-1),0,0,false⟩,⟨1,1,0,1,false⟩,⟨0,(-1),0,1,false⟩,⟨1,2,0,2,true⟩,⟨0,(-1),0,2,false⟩] false 47:=⟨⟨.dy 1,by kernel_rfl⟩,⟨80,.dy 14,[(82,bv [97]),(84,bv [98]),(86,bv [99])],⟨87,by kernel_rfl,by kernel_rfl⟩,by kernel_rfl⟩,⟨110,.dy 1,[80,84,88,92,96,100,104,108],rfl,⟨111,by kernel_rfl,by kernel_rfl⟩⟩,⟨126,.dy 5,⟨127,by kernel_rfl,by kernel_rfl⟩⟩,⟨85,by kernel_rfl,by kernel_rfl⟩,⟨79,by kernel_rfl,by kernel_rfl⟩,⟨79,by kernel_rfl,by kernel_rfl⟩,⟨79,by kernel_rfl,by kernel_rfl⟩⟩
theorem w4 (t0 t1 t2:Int):Shows (H 4 t0 t1 t2) (wd [(1,83),(4,85),(7,87)] [] 0 (M.sameL false false false t0 t1 t2)) [⟨1,0,0,0,false⟩,⟨0,(-1),0,0,false⟩,⟨1,1,0,1,false⟩,⟨0,(-1),0,1,false⟩,⟨1,2,0,2,false⟩,⟨0,(-1),0,2,false⟩] false 47:=⟨⟨.dy 1,by kernel_rfl⟩,⟨81,.dy 14,[(83,bv [97]),(85,bv [98]),(87,bv [99])],⟨88,by kernel_rfl,by kernel_rfl⟩,by kernel_rfl⟩,⟨111,.dy 1,[81,85,89,93,97,101,105,109],rfl,⟨112,by kernel_rfl,by kernel_rfl⟩⟩,⟨127,.dy 5,⟨128,by kernel_rfl,by kernel_rfl⟩⟩,⟨86,by kernel_rfl,by kernel_rfl⟩,⟨80,by kernel_rfl,by kernel_rfl⟩,⟨80,by kernel_rfl,by kernel_rfl⟩,⟨80,by kernel_rfl,by kernel_rfl⟩⟩
theorem w76 (t0 t1 t2:Int):Shows (H 76 t0 t1 t2) (wd [(1,82),(4,84),(7,86)] [] 0 (M.sameL true true true t0 t1 t2)) [⟨1,0,0,0,false⟩,⟨0,(-1),0,0,false⟩,⟨1,1,3,1,false⟩,⟨0,(-1),0,1,false⟩,⟨1,2,0,2,true⟩,⟨0,(-1),0,2,false⟩] false 52:=⟨⟨.dy 1,by kernel_rfl⟩,⟨80,.dy 14,[(82,bv [97]),(84,bv [98]),(86,bv [99])],⟨87,by kernel_rfl,by kernel_rfl⟩,by kernel_rfl⟩,⟨110,.dy 1,[80,84,88,92,96,100,104,108],rfl,⟨111,by kernel_rfl,by kernel_rfl⟩⟩,⟨126,.dy 5,⟨127,by kernel_rfl,by kernel_rfl⟩⟩,⟨85,by kernel_rfl,by kernel_rfl⟩,⟨79,by kernel_rfl,by kernel_rfl⟩,⟨79,by kernel_rfl,by kernel_rfl⟩,⟨79,by kernel_rfl,by kernel_rfl⟩⟩
theorem w77 (t0 t1 t2:Int):Shows (H 77 t0 t1 t2) (wd [(1,83),(4,85),(7,87)] [] 0 (M.sameL true true false t0 t1 t2)) [⟨1,0,0,0,false⟩,⟨0,(-1),0,0,false⟩,⟨1,1,2,1,false⟩,⟨0,(-1),0,1,false⟩,⟨1,2,0,2,false⟩,⟨0,(-1),0,2,false⟩] false 52:=⟨⟨.dy 1,by kernel_rfl⟩,⟨81,.dy 14,[(83,bv [97]),(85,bv [98]),(87,bv [99])],⟨88,by kernel_rfl,by kernel_rfl⟩,by kernel_rfl⟩,⟨111,.dy 1,[81,85,89,93,97,101,105,109],rfl,⟨112,by kernel_rfl,by kernel_rfl⟩⟩,⟨127,.dy 5,⟨128,by kernel_rfl,by kernel_rfl⟩⟩,⟨86,by kernel_rfl,by kernel_rfl⟩,⟨80,by kernel_rfl,by kernel_rfl⟩,⟨80,by kernel_rfl,by kernel_rfl⟩,⟨80,by kernel_rfl,by kernel_rfl⟩⟩
theorem w78 (t0 t1 t2:Int):Shows (H 78 t0 t1 t2) (wd [(1,82),(4,84),(7,86)] [] 0 (M.sameL true true false t0 t1 t2)) [⟨1,0,0,0,false⟩,⟨0,(-1),0,0,false⟩,⟨1,1,2,1,false⟩,⟨0,(-1),0,1,false⟩,⟨1,2,0,2,false⟩,⟨0,(-1),0,2,false⟩] false 52:=⟨⟨.dy 1,by kernel_rfl⟩,⟨80,.dy 14,[(82,bv [97]),(84,bv [98]),(86,bv [99])],⟨87,by kernel_rfl,by kernel_rfl⟩,by kernel_rfl⟩,⟨110,.dy 1,[80,84,88,92,96,100,104,108],rfl,⟨111,by kernel_rfl,by kernel_rfl⟩⟩,⟨126,.dy 5,⟨127,by kernel_rfl,by kernel_rfl⟩⟩,⟨85,by kernel_rfl,by kernel_rfl⟩,⟨79,by kernel_rfl,by kernel_rfl⟩,⟨79,by kernel_rfl,by kernel_rfl⟩,⟨79,by kernel_rfl,by kernel_rfl⟩⟩
theorem w79 (t0 t1 t2:Int):Shows (H 79 t0 t1 t2) (wd [(1,83),(4,85),(7,87)] [] 0 (M.sameL true false true t0 t1 t2)) [⟨1,0,0,0,false⟩,⟨0,(-1),0,0,false⟩,⟨1,1,2,1,false⟩,⟨0,(-1),0,1,false⟩,⟨1,2,0,2,false⟩,⟨0,(-1),0,2,false⟩] false 52:=⟨⟨.dy 1,by kernel_rfl⟩,⟨81,.dy 14,[(83,bv [97]),(85,bv [98]),(87,bv [99])],⟨88,by kernel_rfl,by kernel_rfl⟩,by kernel_rfl⟩,⟨111,.dy 1,[81,85,89,93,97,101,105,109],rfl,⟨112,by kernel_rfl,by kernel_rfl⟩⟩,⟨127,.dy 5,⟨128,by kernel_rfl,by kernel_rfl⟩⟩,⟨86,by kernel_rfl,by kernel_rfl⟩,⟨80,by kernel_rfl,by kernel_rfl⟩,⟨80,by kernel_rfl,by kernel_rfl⟩,⟨80,by kernel_rfl,by kernel_rfl⟩⟩
theorem w80 (t0 t1 t2:Int):Shows (H 80 t0 t1 t2) (wd [(1,82),(4,84),(7,86)] [] 0 (M.sameL true false false t0 t1 t2)) [⟨1,0,0,0,false⟩,⟨0,(-1),0,0,false⟩,⟨1,1,1,1,false⟩,⟨0,(-1),0,1,false⟩,⟨1,2,0,2,false⟩,⟨0,(-1),0,2,false⟩] false 52:=⟨⟨.dy 1,by kernel_rfl⟩,⟨80,.dy 14,[(82,bv [97]),(84,bv [98]),(86,bv [99])],⟨87,by kernel_rfl,by kernel_rfl⟩,by kernel_rfl⟩,⟨110,.dy 1,[80,84,88,92,96,100,104,108],rfl,⟨111,by kernel_rfl,by kernel_rfl⟩⟩,⟨126,.dy 5,⟨127,by kernel_rfl,by kernel_rfl⟩⟩,⟨85,by kernel_rfl,by kernel_rfl⟩,⟨79,by kernel_rfl,by kernel_rfl⟩,⟨79,by kernel_rfl,by kernel_rfl⟩,⟨79,by kernel_rfl,by kernel_rfl⟩⟩
theorem w81 (t0 t1 t2:Int):Shows (H 81 t0 t1 t2) (wd [(1,82),(4,84),(7,86)] [] 0 (M.sameL true false false t0 t1 t2)) [⟨1,0,0,0,false⟩,⟨0,(-1),0,0,false⟩,⟨1,1,1,1,false⟩,⟨0,(-1),0,1,false⟩,⟨1,2,0,2,false⟩,⟨0,(-1),0,2,false⟩] false 52:=⟨⟨.dy 1,by kernel_rfl⟩,⟨80,.dy 14,[(82,bv [97]),(84,bv [98]),(86,bv [99])],⟨87,by kernel_rfl,by kernel_rfl⟩,by kernel_rfl⟩,⟨110,.dy 1,[80,84,88,92,96,100,104,108],rfl,⟨111,by kernel_rfl,by kernel_rfl⟩⟩,⟨126,.dy 5,⟨127,by kernel_rfl,by kernel_rfl⟩⟩,⟨85,by kernel_rfl,by kernel_rfl⟩,⟨79,by kernel_rfl,by kernel_rfl⟩,⟨79,by kernel_rfl,by kernel_rfl⟩,⟨79,by kernel_rfl,by kernel_rfl⟩⟩
theorem w82 (t0 t1 t2:Int):Shows (H 82 t0 t1 t2) (wd [(1,82),(4,84),(7,86)] [] 0 (M.sameL true false true t0 t1 t2)) [⟨1,0,0,0,false⟩,⟨0,(-1),0,0,false⟩,⟨1,1,2,1,false⟩,⟨0,(-1),0,1,false⟩,⟨1,2,0,2,false⟩,⟨0,(-1),0,2,false⟩] false 52:=⟨⟨.dy 1,by kernel_rfl⟩,⟨80,.dy 14,[(82,bv [97]),(84,bv [98]),(86,bv [99])],⟨87,by kernel_rfl,by kernel_rfl⟩,by kernel_rfl⟩,⟨110,.dy 1,[80,84,88,92,96,100,104,108],rfl,⟨111,by kernel_rfl,by kernel_rfl⟩⟩,⟨126,.dy 5,⟨127,by kernel_rfl,by kernel_rfl⟩⟩,⟨85,by kernel_rfl,by kernel_rfl⟩,⟨79,by kernel_rfl,by kernel_rfl⟩,⟨79,by kernel_rfl,by kernel_rfl⟩,⟨79,by kernel_rfl,by kernel_rfl⟩⟩
theorem w83 (t0 t1 t2:Int):Shows (H 83 t0 t1 t2) (wd [(1,82),(4,84),(7,86)] [] 0 (M.sameL true false false t0 t1 t2)) [⟨1,0,0,0,false⟩,⟨0,(-1),0,0,false⟩,⟨1,1,1,1,false⟩,⟨0,(-1),0,1,false⟩,⟨1,2,0,2,false⟩,⟨0,(-1),0,2,false⟩] false 52:=⟨⟨.dy 1,by kernel_rfl⟩,⟨80,.dy 14,[(82,bv [97]),(84,bv [98]),(86,bv [99])],⟨87,by kernel_rfl,by kernel_rfl⟩,by kernel_rfl⟩,⟨110,.dy 1,[80,84,88,92,96,100,104,108],rfl,⟨111,by kernel_rfl,by kernel_rfl⟩⟩,⟨126,.dy 5,⟨127,by kernel_rfl,by kernel_rfl⟩⟩,⟨85,by kernel_rfl,by kernel_rfl⟩,⟨79,by kernel_rfl,by kernel_rfl⟩,⟨79,by kernel_rfl,by kernel_rfl⟩,⟨79,by kernel_rfl,by kernel_rfl⟩⟩
theorem w84 (t0 t1 t2:Int):Shows (H 84 t0 t1 t2) (wd [(1,83),(4,85),(7,87)] [] 0 (M.sameL false true true t0 t1 t2)) [⟨1,0,0,0,false⟩,⟨0,(-1),0,0,false⟩,⟨1,1,2,1,false⟩,⟨0,(-1),0,1,false⟩,⟨1,2,0,2,false⟩,⟨0,(-1),0,2,false⟩] false 52:=⟨⟨.dy 1,by kernel_rfl⟩,⟨81,.dy 14,[(83,bv [97]),(85,bv [98]),(87,bv [99])],⟨88,by kernel_rfl,by kernel_rfl⟩,by kernel_rfl⟩,⟨111,.dy 1,[81,85,89,93,97,101,105,109],rfl,⟨112,by kernel_rfl,by kernel_rfl⟩⟩,⟨127,.dy 5,⟨128,by kernel_rfl,by kernel_rfl⟩⟩,⟨86,by kernel_rfl,by kernel_rfl⟩,⟨80,by kernel_rfl,by kernel_rfl⟩,⟨80,by kernel_rfl,by kernel_rfl⟩,⟨80,by kernel_rfl,by kernel_rfl⟩⟩
theorem w85 (t0 t1 t2:Int):Shows (H 85 t0 t1 t2) (wd [(1,82),(4,84),(7,86)] [] 0 (M.sameL false true false t0 t1 t2)) [⟨1,0,0,0,false⟩,⟨0,(-1),0,0,false⟩,⟨1,1,1,1,false⟩,⟨0,(-1),0,1,false⟩,⟨1,2,0,2,false⟩,⟨0,(-1),0,2,false⟩] false 52:=⟨⟨.dy 1,by kernel_rfl⟩,⟨80,.dy 14,[(82,bv [97]),(84,bv [98]),(86,bv [99])],⟨87,by kernel_rfl,by kernel_rfl⟩,by kernel_rfl⟩,⟨110,.dy 1,[80,84,88,92,96,100,104,108],rfl,⟨111,by kernel_rfl,by kernel_rfl⟩⟩,⟨126,.dy 5,⟨127,by kernel_rfl,by kernel_rfl⟩⟩,⟨85,by kernel_rfl,by kernel_rfl⟩,⟨79,by kernel_rfl,by kernel_rfl⟩,⟨79,by kernel_rfl,by kernel_rfl⟩,⟨79,by kernel_rfl,by kernel_rfl⟩⟩
theorem w86 (t0 t1 t2:Int):Shows (H 86 t0 t1 t2) (wd [(1,82),(4,84),(7,86)] [] 0 (M.sameL false true false t0 t1 t2)) [⟨1,0,0,0,false⟩,⟨0,(-1),0,0,false⟩,⟨1,1,1,1,false⟩,⟨0,(-1),0,1,false⟩,⟨1,2,0,2,false⟩,⟨0,(-1),0,2,false⟩] false 52:=⟨⟨.dy 1,by kernel_rfl⟩,⟨80,.dy 14,[(82,bv [97]),(84,bv [98]),(86,bv [99])],⟨87,by kernel_rfl,by kernel_rfl⟩,by kernel_rfl⟩,⟨110,.dy 1,[80,84,88,92,96,100,104,108],rfl,⟨111,by kernel_rfl,by kernel_rfl⟩⟩,⟨126,.dy 5,⟨127,by kernel_rfl,by kernel_rfl⟩⟩,⟨85,by kernel_rfl,by kernel_rfl⟩,⟨79,by kernel_rfl,by kernel_rfl⟩,⟨79,by kernel_rfl,by kernel_rfl⟩,⟨79,by kernel_rfl,by kernel_rfl⟩⟩
theorem w87 (t0 t1 t2:Int):Shows (H 87 t0 t1 t2) (wd [(1,82),(4,84),(7,86)] [] 0 (M.sameL false false true t0 t1 t2)) [⟨1,0,0,0,false⟩,⟨0,(-1),0,0,false⟩,⟨1,1,1,1,false⟩,⟨0,(-1),0,1,false⟩,⟨1,2,0,2,false⟩,⟨0,(-1),0,2,false⟩] false 52:=⟨⟨.dy 1,by kernel_rfl⟩,⟨80,.dy 14,[(82,bv [97]),(84,bv [98]),(86,bv [99])],⟨87,by kernel_rfl,by kernel_rfl⟩,by kernel_rfl⟩,⟨110,.dy 1,[80,84,88,92,96,100,104,108],rfl,⟨111,by kernel_rfl,by kernel_rfl⟩⟩,⟨126,.dy 5,⟨127,by kernel_rfl,by kernel_rfl⟩⟩,⟨85,by kernel_rfl,by kernel_rfl⟩,⟨79,by kernel_rfl,by kernel_rfl⟩,⟨79,by kernel_rfl,by kernel_rfl⟩,⟨79,by kernel_rfl,by kernel_rfl⟩⟩
theorem w88 (t0 t1 t2:Int):Shows (H 88 t0 t1 t2) (wd [(1,82),(4,84),(7,86)] [] 0 (M.sameL false false false t0 t1 t2)) [⟨1,0,0,0,false⟩,⟨0,(-1),0,0,false⟩,⟨1,1,0,1,false⟩,⟨0,(-1),0,1,false⟩,⟨1,2,0,2,false⟩,⟨0,(-1),0,2,false⟩] false 52:=⟨⟨.dy 1,by kernel_rfl⟩,⟨80,.dy 14,[(82,bv [97]),(84,bv [98]),(86,bv [99])],⟨87,by kernel_rfl,by kernel_rfl⟩,by kernel_rfl⟩,⟨110,.dy 1,[80,84,88,92,96,100,104,108],rfl,⟨111,by kernel_rfl,by kernel_rfl⟩⟩,⟨126,.dy 5,⟨127,by kernel_rfl,by kernel_rfl⟩⟩,⟨85,by kernel_rfl,by kernel_rfl⟩,⟨79,by kernel_rfl,by kernel_rfl⟩,⟨79,by kernel_rfl,by kernel_rfl⟩,⟨79,by kernel_rfl,by kernel_rfl⟩⟩
theorem w89 (t0 t1 t2:Int):Shows (H 89 t0 t1 t2) (wd [(1,82),(4,84),(7,86)] [] 0 (M.sameL false false true t0 t1 t2)) [⟨1,0,0,0,false⟩,⟨0,(-1),0,0,false⟩,⟨1,1,1,1,false⟩,⟨0,(-1),0,1,false⟩,⟨1,2,0,2,false⟩,⟨0,(-1),0,2,false⟩] false 52:=⟨⟨.dy 1,by kernel_rfl⟩,⟨80,.dy 14,[(82,bv [97]),(84,bv [98]),(86,bv [99])],⟨87,by kernel_rfl,by kernel_rfl⟩,by kernel_rfl⟩,⟨110,.dy 1,[80,84,88,92,96,100,104,108],rfl,⟨111,by kernel_rfl,by kernel_rfl⟩⟩,⟨126,.dy 5,⟨127,by kernel_rfl,by kernel_rfl⟩⟩,⟨85,by kernel_rfl,by kernel_rfl⟩,⟨79,by kernel_rfl,by kernel_rfl⟩,⟨79,by kernel_rfl,by kernel_rfl⟩,⟨79,by kernel_rfl,by kernel_rfl⟩⟩
theorem w90 (t0 t1 t2:Int):Shows (H 90 t0 t1 t2) (wd [(1,82),(4,84),(7,86)] [] 0 (M.sameL false true true t0 t1 t2)) [⟨1,0,0,0,false⟩,⟨0,(-1),0,0,false⟩,⟨1,1,2,1,false⟩,⟨0,(-1),0,1,false⟩,⟨1,2,0,2,false⟩,⟨0,(-1),0,2,false⟩] false 52:=⟨⟨.dy 1,by kernel_rfl⟩,⟨80,.dy 14,[(82,bv [97]),(84,bv [98]),(86,bv [99])],⟨87,by kernel_rfl,by kernel_rfl⟩,by kernel_rfl⟩,⟨110,.dy 1,[80,84,88,92,96,100,104,108],rfl,⟨111,by kernel_rfl,by kernel_rfl⟩⟩,⟨126,.dy 5,⟨127,by kernel_rfl,by kernel_rfl⟩⟩,⟨85,by kernel_rfl,by kernel_rfl⟩,⟨79,by kernel_rfl,by kernel_rfl⟩,⟨79,by kernel_rfl,by kernel_rfl⟩,⟨79,by kernel_rfl,by kernel_rfl⟩⟩
theorem w91 (t0 t1 t2:Int):Shows (H 91 t0 t1 t2) (wd [(1,82),(4,84),(7,86)] [] 0 (M.sameL false true false t0 t1 t2)) [⟨1,0,0,0,false⟩,⟨0,(-1),0,0,false⟩,⟨1,1,1,1,false⟩,⟨0,(-1),0,1,false⟩,⟨1,2,0,2,false⟩,⟨0,(-1),0,2,false⟩] false 52:=⟨⟨.dy 1,by kernel_rfl⟩,⟨80,.dy 14,[(82,bv [97]),(84,bv [98]),(86,bv [99])],⟨87,by kernel_rfl,by kernel_rfl⟩,by kernel_rfl⟩,⟨110,.dy 1,[80,84,88,92,96,100,104,108],rfl,⟨111,by kernel_rfl,by kernel_rfl⟩⟩,⟨126,.dy 5,⟨127,by kernel_rfl,by kernel_rfl⟩⟩,⟨85,by kernel_rfl,by kernel_rfl⟩,⟨79,by kernel_rfl,by kernel_rfl⟩,⟨79,by kernel_rfl,by kernel_rfl⟩,⟨79,by kernel_rfl,by kernel_rfl⟩⟩
theorem w92 (t0 t1 t2:Int):Shows (H 92 t0 t1 t2) (wd [(1,82),(4,84),(7,86)] [] 0 (M.sameL false false true t0 t1 t2)) [⟨1,0,0,0,false⟩,⟨0,(-1),0,0,false⟩,⟨1,1,1,1,false⟩,⟨0,(-1),0,1,false⟩,⟨1,2,0,2,false⟩,⟨0,(-1),0,2,false⟩] false 52:=⟨⟨.dy 1,by kernel_rfl⟩,⟨80,.dy 14,[(82,bv [97]),(84,bv [98]),(86,bv [99])],⟨87,by kernel_rfl,by kernel_rfl⟩,by kernel_rfl⟩,⟨110,.dy 1,[80,84,88,92,96,100,104,108],rfl,⟨111,by kernel_rfl,by kernel_rfl⟩⟩,⟨126,.dy 5,⟨127,by kernel_rfl,by kernel_rfl⟩⟩,⟨85,by kernel_rfl,by kernel_rfl⟩,⟨79,by kernel_rfl,by kernel_rfl⟩,⟨79,by kernel_rfl,by kernel_rfl⟩,⟨79,by kernel_rfl,by kernel_rfl⟩⟩
theorem w107 (t0 t1 t2:Int):Shows (H 107 t0 t1 t2) (wd [(1,82),(4,84),(7,86)] [] 0 (M.sameL true true true t0 t1 t2)) [⟨1,0,0,0,false⟩,⟨0,(-1),0,0,false⟩,⟨1,1,3,1,false⟩,⟨0,(-1),0,1,false⟩,⟨1,2,0,2,false⟩,⟨0,(-1),0,2,false⟩] false 55:=⟨⟨.dy 1,by kernel_rfl⟩,⟨80,.dy 14,[(82,bv [97]),(84,bv [98]),(86,bv [99])],⟨87,by kernel_rfl,by kernel_rfl⟩,by kernel_rfl⟩,⟨110,.dy 1,[80,84,88,92,96,100,104,108],rfl,⟨111,by kernel_rfl,by kernel_rfl⟩⟩,⟨126,.dy 5,⟨127,by kernel_rfl,by kernel_rfl⟩⟩,⟨85,by kernel_rfl,by kernel_rfl⟩,⟨79,by kernel_rfl,by kernel_rfl⟩,⟨79,by kernel_rfl,by kernel_rfl⟩,⟨79,by kernel_rfl,by kernel_rfl⟩⟩
end Lav
set_option maxRecDepth 100000
set_option linter.unusedVariables false
namespace Lav
open Go (IntKind)
open Q
def ShF (i:Nat) (t0 t1 t2:Int):Prop:=∃ ds fs w now,Shows (H i t0 t1 t2) (wd ds [] 0 (M.sameL (b0I i) (b1I i) (b2I i) t0 t1 t2)) fs w now∧M.framedH [M.rowF (b0I i),M.rowF (b1I i),M.rowF (b2I i)] fs 6 w 6 8=true
def frL:List Nat:=[1,2,3,4,76,77,78,79,80,81,82,83,84,85,86,87,88,89,90,91,92,107]
theorem zvl (t0 t1 t2:Int):AllP (fun i=>ShF i t0 t1 t2) frL:=⟨⟨_,_,_,_,w1 t0 t1 t2,by kernel_rfl⟩,⟨_,_,_,_,w2 t0 t1 t2,by kernel_rfl⟩,⟨_,_,_,_,w3 t0 t1 t2,by kernel_rfl⟩,⟨_,_,_,_,w4 t0 t1 t2,by kernel_rfl⟩,⟨_,_,_,_,w76 t0 t1 t2,by kernel_rfl⟩,⟨_,_,_,_,w77 t0 t1 t2,by kernel_rfl⟩,⟨_,_,_,_,w78 t0 t1 t2,by kernel_rfl⟩,⟨_,_,_,_,w79 t0 t1 t2,by kernel_rfl⟩,⟨_,_,_,_,w80 t0 t1 t2,by kernel_rfl⟩,⟨_,_,_,_,w81 t0 t1 t2,by kernel_rfl⟩,⟨_,_,_,_,w82 t0 t1 t2,by kernel_rfl⟩,⟨_,_,_,_,w83 t0 t1 t2,by kernel_rfl⟩,⟨_,_,_,_,w84 t0 t1 t2,by kernel_rfl⟩,⟨_,_,_,_,w85 t0 t1 t2,by kernel_rfl⟩,⟨_,_,_,_,w86 t0 t1 t2,by kernel_rfl⟩,⟨_,_,_,_,w87 t0 t1 t2,by kernel_rfl⟩,⟨_,_,_,_,w88 t0 t1 t2,by kernel_rfl⟩,⟨_,_,_,_,w89 t0 t1 t2,by kernel_rfl⟩,⟨_,_,_,_,w90 t0 t1 t2,by kernel_rfl⟩,⟨_,_,_,_,w91 t0 t1 t2,by kernel_rfl⟩,⟨_,_,_,_,w92 t0 t1 t2,by kernel_rfl⟩,⟨_,_,_,_,w107 t0 t1 t2,by kernel_rfl⟩,trivial⟩
theorem zry:((List.range 108).all fun i=>Nat.ble (zcu i) 9 && (!(Nat.beq i 107 || (Nat.beq (zcu i) 1 || Nat.beq (zcu i) 6)) || frL.any fun k=>Nat.beq i k))=true:=by kernel_rfl
theorem zqv {i:Nat} (hi:i < 108):zcu i≤9:=by
 have h:=List.all_eq_true.1 zry i (List.mem_range.2 hi)
 rw [Bool.and_eq_true] at h
 exact Nat.le_of_ble_eq_true h.1
theorem zaa7 {i:Nat} (hi:i < 108) (h0:i=107∨zcu i=1∨zcu i=6):i∈frL:=by
 have h:=List.all_eq_true.1 zry i (List.mem_range.2 hi)
 rw [Bool.and_eq_true,Bool.or_eq_true] at h
 have c:(Nat.beq i 107 || (Nat.beq (zcu i) 1 || Nat.beq (zcu i) 6))=true:=by
  rw [Bool.or_eq_true,Bool.or_eq_true]
  rcases h0 with h | h | h
  ·exact .inl (by rw [h];rfl)
  ·exact .inr (.inl (by rw [h];rfl))
  ·exact .inr (.inr (by rw [h];rfl))
 rw [c] at h
 rcases h.2 with h | h
 ·cases h
 ·obtain ⟨k,hk,e⟩:=List.any_eq_true.1 h
  rw [Nat.eq_of_beq_eq_true e];exact hk
theorem zvm {h0 g:Heap} {i p:Nat} (I:In h0 i p g) (hf:i=107∨zcu i=1∨zcu i=6):∃ h',evCallO OS table 3000 65 20 [.c (.ptr p 0)] g=some (.c (.bool true),h')∧Ext g h':=by
 obtain ⟨hi,ρ,t0,t1,t2,A,hp,E⟩:=I
 obtain ⟨ds,fs,w,now,S,fr⟩:=(zvl t0 t1 t2).mem i (zaa7 hi hf)
 have V:=zqu S (N:=3000) (Nat.le_refl _) A
 rw [znw,hp] at V
 obtain ⟨Gd,hfr⟩:=M.same_framed (N:=3000) (Nat.le_refl _) E fr (n:=(now:Int)) (full:=List.replicate (now + 1) false)
 exact zo5 (N:=3000) (d:=64) V Gd rfl hfr (by omega) (by omega)
theorem In.other {h0 g g':Heap} {i p:Nat} (I:In h0 i p g) (x:Ext g g'):In h0 i p g':=by
 obtain ⟨hi,ρ,t0,t1,t2,A,hp,E⟩:=I
 exact ⟨hi,ρ,t0,t1,t2,A.other x,hp,E⟩
theorem In.ext {h0 g:Heap} {i p:Nat} (I:In h0 i p g):Ext h0 g:=by
 obtain ⟨hi,ρ,t0,t1,t2,A,hp,E⟩:=I
 exact A.ext
def zpg (l:List Blk):Bool:=match (l[0]? : Option Blk) with
 | some (.cells (.ptr 1 0 :: .int .i64 (.ofNat 8) :: .int .i64 (.ofNat 6) :: .int .i64 (.ofNat 3) :: .int .i64 (.ofNat 3) :: _))=>true
 | _=>false
theorem zju {l:List Blk} (h:zpg l=true) {h0 g:Heap} {ρ:Nat→Nat} (A:At h0 ρ l g):g.read (ρ 0) 0 1=some [.ptr (ρ 1) 0]∧g.read (ρ 0) 1 4=some [.int .i64 8,.int .i64 6,.int .i64 3,.int .i64 3]:=by
 unfold zpg at h
 split at h
 ·rename_i r e
  have hl:0 < l.length:=(List.getElem?_eq_some_iff.1 e).1
  have hg:=A.emb.get hl
  rw [(List.getElem?_eq_some_iff.1 e).2] at hg
  constructor
  ·rw [zcd hg (by simp [mvs])];rfl
  ·rw [zcd hg (by simp [mvs])];rfl
 ·cases h
theorem zxw (t0 t1 t2:Int):((List.range 108).all fun i=>zpg (H i t0 t1 t2))=true:=by kernel_rfl
theorem zxx {N d:Nat} (hN:3000≤N) (hd:60≤d) (h:Heap):∃ h',evCallO OS table N d 21 [.agg [.int .i64 8,.int .i64 6,.int .i64 3,.int .i64 3],.c (.int .i64 3)] h=some (.c (.int .i64 2140),h')∧Ext h h':=by
 have e1:zc1 [] (evCallO OS table 3000 60 21 [.agg [a 8,a 6,a 3,a 3],.c (a 3)] (hp ([]:List Blk)))=some (AV.mv τ0 (at0 []) (.c (a 2140)),2,([]:List Blk).map fun b=>some (b.mv τ0 (at0 []))):=by kernel_rfl
 have e2:fit ([]:List Blk) [.agg [a 8,a 6,a 3,a 3],.c (a 3)] [] 2=true:=by kernel_rfl
 obtain ⟨ρ',g',e,A,_⟩:=zfn zdv zdn hN (by omega) hd e1 e2 (At.empty h)
 exact ⟨g',e,A.ext⟩
section
variable {h:Heap}
def zph:Nat→List Blk
 | 0=>hC2
 | 1=>hS0
 | 2=>hS1
 | _=>H 0 0 0 0
theorem zaix {k:Nat} (hk:k < 3):SgP 14 [.c (Q.p 0 0),.agg [a 1,a k,a 0,a 0,a 2,a 1,a 0,a 0,a 0,ns,ns]] (zph k) (zph (k + 1))∧0 < (zph k).length:=by
 match k,hk with
 | 0,_=>exact ⟨⟨_,_,hd0,hd0f,by kernel_rfl⟩,by decide⟩
 | 1,_=>exact ⟨⟨_,_,hd1,hd1f,by kernel_rfl⟩,by decide⟩
 | 2,_=>exact ⟨⟨_,_,hd2 0 0 0,hd2f,by kernel_rfl⟩,by decide⟩
theorem ztr {H1:Heap} {p:Nat} {ρ:Nat→Nat} (A:At h ρ hC2 H1) (hp:ρ 0=p) {y:CV} :
  ∀ loc,zbv ir6_k4 loc=[.c y,.junk,.c (.ptr p 0),.c (.int .i64 0),.junk,.junk,.junk,.junk,.junk,.junk,.junk,.junk,.junk,.junk,.junk,.junk,.junk,.junk,.junk,.junk] →
   ∃ r,zcr (evCallO OS table 3000 65) 3000 ir6_k4 ir6_l4 3000 loc H1=some r∧∃ H L,In h 0 p H∧r=(.exit 0,.c y :: .junk :: .c (.ptr p 0) :: L,H)∧L.length=17:=by
 intro loc hloc
 refine zcl (n:=3) (fun i loc H=>(∃ ρ,At h ρ (zph i) H∧ρ 0=p)∧loc=[.c y,.junk,.c (.ptr p 0),.c (.int .i64 (i:Int)),.junk,.junk,.junk,.junk,.junk,.junk,.junk,.junk,.junk,.junk,.junk,.junk,.junk,.junk,.junk,.junk]) _ ?_ ⟨⟨ρ,A,hp⟩,hloc⟩ (by omega)
 rintro i loc G hi ⟨⟨ρ1,A1,hp1⟩,rfl⟩
 unfold ir6_l4
 by_cases hlt:i < 3
 ·left
  have v1:decide ((i:Int) < 3)=true:=decide_eq_true (by omega)
  have v2:=zdm (i:=i) (by omega)
  obtain ⟨S,hl⟩:=zaix hlt
  obtain ⟨ρ2,G2,e2,A2,k2⟩:=zpf (N:=3000) (d:=65) S A1 hl (Nat.le_refl _) (by omega)
  have e2':evCallO OS table 3000 65 14 [.c (.ptr p 0),.agg [.int .i64 1,.int .i64 (i:Int),.int .i64 0,.int .i64 0,.int .i64 2,.int .i64 1,.int .i64 0,.int .i64 0,.int .i64 0,.nils,.nils]] G=some (.c (.bool true),G2):=by rw [← hp1];exact e2
  simp only [zap,zac,zas,zat,zav,zam,za2,zbm,za5,zad,zaj,zaa,zae,zaf,zar,zax,zdq,zbd,zbb,za6,zee,zag,X.eval,zal,zai,List.map_cons,List.map_nil,List.getD_cons_zero,List.getD_cons_succ,List.set_cons_zero,List.set_cons_succ,zay,zdk,zaq,zab,zak,intArith,shift,cond_true,cond_false,BEq.rfl,zb0,zb1,AV.cells,List.length_cons,List.length_nil,zdf,setMany,Nat.ble,Nat.zero_add,Nat.reduceAdd,Bool.not_true,Int.reduceLT,decide_false,zdl,zdt,v1,e2',v2]
  exact ⟨hlt,_,_,rfl,⟨ρ2,A2,k2.trans hp1⟩,rfl⟩
 ·right
  have hin:i=3:=by omega
  subst hin
  have v1:decide (((3:Nat):Int) < 3)=false:=rfl
  simp only [zap,zac,zb2,zas,zat,zam,zcf,zad,zaj,zaa,zae,zaf,zar,zax,za6,zag,X.eval,zal,zai,List.getD_cons_zero,List.getD_cons_succ,List.set_cons_zero,List.set_cons_succ,zay,zaq,zab,zak,intArith,shift,cond_true,cond_false,BEq.rfl,Int.reduceLT,decide_false,v1]
  exact ⟨_,rfl,by simp,G,_,⟨by omega,ρ1,0,0,0,A1,hp1,by simp [show zcu 0=0 from rfl],fun h=>absurd (show b0I 0=false by rfl) (by rw [h];decide),fun h=>absurd (show b1I 0=false by rfl) (by rw [h];decide),fun h=>absurd (show b2I 0=false by rfl) (by rw [h];decide)⟩,rfl,rfl⟩
theorem zts {H1:Heap} {p:Nat} {y:CV} {picks:List Int} (I:In h 0 p H1) (hy:Ints h y picks) :
  ∀ loc,zbv ir6_k3 loc=[.c y,.junk,.c (.ptr p 0),.junk,.c (.int .i64 0),.junk,.junk,.junk,.junk,.junk,.junk,.junk,.junk,.junk,.junk,.junk,.junk,.junk,.junk,.junk] →
   ∃ r,zcr (evCallO OS table 3000 65) 3000 ir6_k3 ir6_l3 3000 loc H1=some r∧∃ H L j a0 a1,In h j p H∧r=(.exit 2,a0 :: a1 :: .c (.ptr p 0) :: L,H)∧L.length=17:=by
 intro loc hloc
 have ly:∀ loc vals H,zao loc (.c y :: vals) H (.len .sl (.val 0))=some (.c (.int .i64 (picks.length:Int))):=fun _ _ _=>hy.len rfl
 refine zcl (n:=min picks.length 200) (fun i loc H=>(∃ j,In h j p H∧(j=107∨zcu j=i))∧loc=[.c y,.junk,.c (.ptr p 0),.junk,.c (.int .i64 (i:Int)),.junk,.junk,.junk,.junk,.junk,.junk,.junk,.junk,.junk,.junk,.junk,.junk,.junk,.junk,.junk]) _ ?_ ⟨⟨0,I,.inr rfl⟩,hloc⟩ (by omega)
 rintro i loc H hi ⟨⟨j,J,hj⟩,rfl⟩
 unfold ir6_l3
 by_cases hlt:i < min picks.length 200
 ·left
  have hl1:i < picks.length:=by omega
  have v1:decide ((i:Int) < (picks.length:Int))=true:=ze6 hl1
  have v0:decide ((i:Int) < 200)=true:=decide_eq_true (by omega)
  have v2:=zdm (i:=i) (by omega)
  have m1:Nat.blt i picks.length=true:=zc0 hl1
  have hyH:=hy.ext J.ext
  rcases hyH with ⟨_,hz⟩ | ⟨yb,yo,yc,rfl,yl,yr⟩
  ·rw [hz] at hl1;simp at hl1
  have ry:H.read yb (yo + i) 1=some [.int .i64 picks[i]]:=by
   have:=yr i picks[i] (List.getElem?_eq_getElem hl1)
   rw [Nat.mul_one] at this;exact this
  obtain ⟨H2,j2,v,e2,J2,hj2⟩:=zzq (N:=3000) (d:=65) J picks[i] (Nat.le_refl _) (by omega)
  have e2':evCallO OS table 3000 65 14 [.c (.ptr p 0),.agg [.int .i64 2,.int .i64 0,.int .i64 picks[i],.int .i64 0,.int .i64 0,.int .i64 0,.int .i64 0,.int .i64 0,.int .i64 0,.nils,.nils]] H=some (.c (.bool v),H2):=e2
  have hn:j2=107∨zcu j2=i + 1:=by
   rcases hj2 with ⟨_,h⟩ | h
   ·exact .inl h
   ·rcases hj with rfl | h1
    ·have:=zqv J2.lt
     have:zcu 107=9:=rfl
     omega
    ·right;omega
  cases hq:((i:Int).tmod 5 == 0) with
  | true =>
   have hq':(i:Int).tmod 5=0:=by simpa using hq
   have hfr:j2=107∨zcu j2=1∨zcu j2=6:=by
    rcases hn with h | h
    ·exact .inl h
    ·have:=zqv J2.lt
     rw [Int.tmod_eq_emod_of_nonneg (by omega)] at hq'
     omega
   obtain ⟨H3,e3,x3⟩:=zvm J2 hfr
   simp only [zap,zac,zas,zat,zav,zam,za2,zbm,za5,zad,zaj,zaa,zau,zae,zaf,zar,zax,zba,zdq,zbg,za4,zbt,zbd,zbb,za6,zbe,zee,zag,X.eval,zal,zai,List.map_cons,List.map_nil,List.getD_cons_zero,List.getD_cons_succ,List.set_cons_zero,List.set_cons_succ,zay,zdk,zaq,zab,zak,intArith,shift,zbc,cond_true,cond_false,BEq.rfl,zb0,zb1,AV.cells,AV.ofCells,List.length_cons,List.length_nil,zdf,setMany,Nat.ble,Nat.zero_add,Nat.reduceAdd,Int.reduceBEq,Bool.not_true,Int.reduceLT,decide_false,za8,zbr,zdl,zdt,AV.ofCells,Nat.mul_one,ly,v1,v0,m1,ry,e2',hq,e3,v2]
   exact ⟨hlt,_,_,rfl,⟨j2,J2.other x3,hn⟩,rfl⟩
  | false =>
   simp only [zap,zac,zas,zat,zav,zam,za2,zbm,za5,zad,zaj,zaa,zau,zae,zbn,zaf,zar,zax,zba,zbg,za4,zbt,zbd,zbb,za6,zbe,zag,X.eval,zal,zai,List.map_cons,List.map_nil,List.getD_cons_zero,List.getD_cons_succ,List.set_cons_zero,List.set_cons_succ,zay,zaq,zab,zak,intArith,shift,zbc,cond_true,cond_false,BEq.rfl,zb0,zb1,AV.cells,AV.ofCells,List.length_cons,List.length_nil,zdf,setMany,Nat.ble,Nat.zero_add,Nat.reduceAdd,Int.reduceBEq,Int.reduceLT,decide_false,ft,za8,zbr,zdl,zdt,AV.ofCells,Nat.mul_one,ly,v1,v0,m1,ry,e2',hq,v2]
   exact ⟨hlt,_,_,rfl,⟨j2,J2,hn⟩,rfl⟩
 ·right
  by_cases h1:i < picks.length
  ·have v1:decide ((i:Int) < (picks.length:Int))=true:=ze6 h1
   have v0:decide ((i:Int) < 200)=false:=decide_eq_false (by omega)
   simp only [zap,zac,zb2,zas,zat,zam,zcf,zad,zaj,zaa,zau,zae,zaf,zar,zax,zba,zbg,za6,zbe,zag,X.eval,zal,zai,List.getD_cons_zero,List.getD_cons_succ,List.set_cons_zero,List.set_cons_succ,zay,zaq,zab,zak,intArith,shift,cond_true,cond_false,BEq.rfl,Int.reduceLT,decide_false,ly,v1,v0]
   exact ⟨_,rfl,by simp,H,_,j,_,_,J,rfl,rfl⟩
  ·have v1:decide ((i:Int) < (picks.length:Int))=false:=zfg (by omega)
   simp only [zap,zac,zb2,zas,zat,zam,zcf,zad,zaj,zaa,zau,zae,zbn,zaf,zar,zax,zba,zbg,za6,zbe,zag,X.eval,zal,zai,List.getD_cons_zero,List.getD_cons_succ,List.set_cons_zero,List.set_cons_succ,zay,zaq,zab,zak,intArith,shift,cond_true,cond_false,BEq.rfl,ft,ly,v1]
   exact ⟨_,rfl,by simp,H,_,j,_,_,J,rfl,rfl⟩
theorem zxy:((List.range 108).all fun i=>!(b0I i && (b1I i && b2I i)) || (Nat.beq i 76 || (Nat.beq i 93 || (Nat.beq i 103 || Nat.beq i 107))))=true:=by kernel_rfl
theorem zzr {i:Nat} (hi:i < 108) (h0:b0I i=true) (h1:b1I i=true) (h2:b2I i=true):i=76∨i=93∨i=103∨i=107:=by
 have:=List.all_eq_true.1 zxy i (List.mem_range.2 hi)
 rw [h0,h1,h2] at this
 rw [Bool.or_eq_true,Bool.or_eq_true,Bool.or_eq_true,Bool.or_eq_true] at this
 rcases this with h | h | h | h | h
 ·cases h
 ·exact .inl (Nat.eq_of_beq_eq_true h)
 ·exact .inr (.inl (Nat.eq_of_beq_eq_true h))
 ·exact .inr (.inr (.inl (Nat.eq_of_beq_eq_true h)))
 ·exact .inr (.inr (.inr (Nat.eq_of_beq_eq_true h)))
theorem zrg {H1:Heap} {p i0:Nat} (I:In h i0 p H1) :
  ∀ loc,zbv ir6_k2 loc=[.junk,.junk,.c (.ptr p 0),.junk,.junk,.c (.int .i64 0),.junk,.junk,.junk,.junk,.junk,.junk,.junk,.junk,.junk,.junk,.junk,.junk,.junk,.junk] →
   ∃ r,zcr (evCallO OS table 3000 65) 3000 ir6_k2 ir6_l2 3000 loc H1=some r∧∃ H L j a0 a1,In h j p H∧(b0I j=true∧b1I j=true∧b2I j=true)∧r=(.exit 4,a0 :: a1 :: .c (.ptr p 0) :: L,H)∧L.length=17:=by
 intro loc hloc
 refine zcl (n:=9) (fun i loc H=>(∃ j,In h j p H∧i≤zcu j)∧loc=[.junk,.junk,.c (.ptr p 0),.junk,.junk,.c (.int .i64 (i:Int)),.junk,.junk,.junk,.junk,.junk,.junk,.junk,.junk,.junk,.junk,.junk,.junk,.junk,.junk]) _ ?_ ⟨⟨i0,I,Nat.zero_le _⟩,hloc⟩ (by omega)
 rintro i loc H hi ⟨⟨j,J,hij⟩,rfl⟩
 unfold ir6_l2
 have J0:=J
 obtain ⟨hj,ρ,t0,t1,t2,A,hp,E⟩:=J
 have rt:=List.all_eq_true.1 (zxw t0 t1 t2) j (List.mem_range.2 hj)
 obtain ⟨r0,r4⟩:=zju rt A
 rw [hp] at r0 r4
 obtain ⟨H2,e2',x2⟩:=zxx (N:=3000) (d:=65) (Nat.le_refl _) (by omega) H
 have v1:decide ((i:Int) < 2140)=true:=decide_eq_true (by omega)
 have A2:=A.other x2
 have r02:=(zju rt A2).1
 rw [hp] at r02
 obtain ⟨H3,e3,x3⟩:=zod (N:=3000) (d:=62) hj A2 (c:=0) (by omega)
 have e3':evCallO OS table 3000 65 22 [.c (.ptr (ρ 1) 0),.c (.int .i64 0)] H2=some (.c (.bool (!(b0I j))),H3):=e3
 have A3:=A2.other x3
 have r03:=(zju rt A3).1
 rw [hp] at r03
 obtain ⟨H4,e4,x4⟩:=zod (N:=3000) (d:=62) hj A3 (c:=1) (by omega)
 have e4':evCallO OS table 3000 65 22 [.c (.ptr (ρ 1) 0),.c (.int .i64 1)] H3=some (.c (.bool (!(b1I j))),H4):=e4
 have A4:=A3.other x4
 have r04:=(zju rt A4).1
 rw [hp] at r04
 obtain ⟨H5,e5,x5⟩:=zod (N:=3000) (d:=62) hj A4 (c:=2) (by omega)
 have e5':evCallO OS table 3000 65 22 [.c (.ptr (ρ 1) 0),.c (.int .i64 2)] H4=some (.c (.bool (!(b2I j))),H5):=e5
 have v2:=zdm (i:=i) (by omega)
 have go:∀ {HX:Heap},Ext H HX→¬ (b0I j=true∧b1I j=true∧b2I j=true)→∃ H6,evCallO OS table 3000 65 23 [.c (.ptr p 0)] HX=some (.tup [],H6)∧(∃ j2,In h j2 p H6∧i + 1≤zcu j2)∧i < 9:=by
  intro HX xx hbj
  obtain ⟨H6,j2,e6,J6,hd⟩:=zxs (N:=3000) (d:=65) (J0.other xx) (fun e=>hbj (by rw [e];exact ⟨rfl,rfl,rfl⟩)) (Nat.le_refl _) (by omega)
  have:=zqv J6.lt
  exact ⟨H6,e6,⟨j2,J6,by omega⟩,by omega⟩
 cases hb0:b0I j with
 | false =>
  rw [hb0] at e3'
  obtain ⟨H6,e6,⟨j2,J6,hd⟩,hlt⟩:=go (x2.trans x3) (by rw [hb0];simp)
  left
  simp only [zap,zac,zas,zat,zav,za2,zbm,za5,zad,zaj,zaa,zau,zae,zbn,zaf,zar,zax,zba,za4,zbd,zbb,za6,zbe,zag,X.eval,zal,zai,List.map_cons,List.map_nil,List.getD_cons_zero,List.getD_cons_succ,List.set_cons_zero,List.set_cons_succ,zay,zaq,zab,zak,intArith,shift,cond_true,cond_false,BEq.rfl,AV.ofCells,Nat.zero_add,Nat.add_zero,Bool.not_false,Int.reduceLT,decide_false,tf,za0,za3,zcw,zcm,za8,AV.ofCells,r4,e2',v1,r02,e3',Bool.not_false,e6,v2]
  exact ⟨hlt,_,_,rfl,⟨j2,J6,hd⟩,rfl⟩
 | true =>
  rw [hb0] at e3'
  cases hb1:b1I j with
  | false =>
   rw [hb1] at e4'
   obtain ⟨H6,e6,⟨j2,J6,hd⟩,hlt⟩:=go ((x2.trans x3).trans x4) (by rw [hb1];simp)
   left
   simp only [zap,zac,zas,zat,zav,za2,zbm,za5,zad,zaj,zaa,zau,zae,zbn,zaf,zar,zax,zba,za4,zbd,zbb,za6,zbe,zag,X.eval,zal,zai,List.map_cons,List.map_nil,List.getD_cons_zero,List.getD_cons_succ,List.set_cons_zero,List.set_cons_succ,zay,zaq,zab,zak,intArith,shift,cond_true,cond_false,BEq.rfl,AV.ofCells,Nat.zero_add,Nat.add_zero,Bool.not_true,Bool.not_false,Int.reduceLT,decide_false,tf,za0,za3,zcw,zcm,za8,AV.ofCells,r4,e2',v1,r02,e3',r03,e4',Bool.not_false,Bool.not_true,e6,v2]
   exact ⟨hlt,_,_,rfl,⟨j2,J6,hd⟩,rfl⟩
  | true =>
   rw [hb1] at e4'
   cases hb2:b2I j with
   | false =>
    rw [hb2] at e5'
    obtain ⟨H6,e6,⟨j2,J6,hd⟩,hlt⟩:=go (((x2.trans x3).trans x4).trans x5) (by rw [hb2];simp)
    left
    simp only [zap,zac,zas,zat,zav,za2,zbm,za5,zad,zaj,zaa,zau,zae,zaf,zar,zax,zba,za4,zbd,zbb,za6,zbe,zag,X.eval,zal,zai,List.map_cons,List.map_nil,List.getD_cons_zero,List.getD_cons_succ,List.set_cons_zero,List.set_cons_succ,zay,zaq,zab,zak,intArith,shift,cond_true,cond_false,BEq.rfl,AV.ofCells,Nat.zero_add,Nat.add_zero,Bool.not_true,Bool.not_false,Int.reduceLT,decide_false,za0,za3,zcw,zcm,za8,AV.ofCells,r4,e2',v1,r02,e3',r03,e4',r04,e5',Bool.not_false,Bool.not_true,e6,v2]
    exact ⟨hlt,_,_,rfl,⟨j2,J6,hd⟩,rfl⟩
   | true =>
    rw [hb2] at e5'
    right
    simp only [zap,zac,zb2,zas,zat,zam,zcf,zad,zaj,zaa,zau,zae,zaf,zar,zax,zba,za4,zbd,zbb,za6,zbe,zag,X.eval,zal,zai,List.map_cons,List.map_nil,List.getD_cons_zero,List.getD_cons_succ,List.set_cons_zero,List.set_cons_succ,zay,zaq,zab,zak,intArith,shift,cond_true,cond_false,BEq.rfl,AV.ofCells,Nat.zero_add,Nat.add_zero,Bool.not_true,Int.reduceLT,decide_false,za0,za3,zcw,zcm,za8,AV.ofCells,r4,e2',v1,r02,e3',r03,e4',r04,e5',Bool.not_true]
    exact ⟨_,rfl,by simp,H5,_,j,_,_,J0.other (((x2.trans x3).trans x4).trans x5),⟨hb0,hb1,hb2⟩,rfl,rfl⟩
end
end Lav
