import Derived.KernelRfl
import Derived.Test.YtpceddbicolfeaaGreatK05
set_option maxRecDepth 100000
namespace Lav
open Go (IntKind)
def zlx (pages i:Nat) (f:Fra) (a:Nat × List Int):Option (Nat × List Int) :=
 if f.st=4 then some a else if f.pg = -1 then some (a.1 + 1,a.2) else if 0≤f.pg∧f.pg < (pages:Int)∧a.2.getD f.pg.toNat 0=0 then some (a.1 + 1,a.2.set f.pg.toNat ((i + 1:Nat):Int)) else none
def whF (pages:Nat) (fs:List Fra):Nat→Option (Nat × List Int)
 | 0=>some (0,List.replicate pages 0)
 | k + 1=>match whF pages fs k with
  | some a=>zlx pages k (ziz fs k) a
  | none=>none
theorem zta {pages i:Nat} {f:Fra} {a b:Nat × List Int} (h:zlx pages i f a=some b):b.2.length=a.2.length∧b.1≤a.1 + 1∧(∀ j,j < a.2.length→b.2.getD j 0=a.2.getD j 0∨b.2.getD j 0=((i + 1:Nat):Int)):=by
 unfold zlx at h
 split at h
 ·simp only [Option.some.injEq] at h;subst h;exact ⟨rfl,by omega,fun _ _=>.inl rfl⟩
 ·split at h
  ·simp only [Option.some.injEq] at h;subst h;exact ⟨rfl,Nat.le_refl _,fun _ _=>.inl rfl⟩
  ·split at h
   ·simp only [Option.some.injEq] at h;subst h
    refine ⟨by simp,Nat.le_refl _,fun j hj=>?_⟩
    by_cases e:f.pg.toNat=j
    ·right;subst e;simp [List.getD_eq_getElem?_getD,hj]
    ·left;simp [List.getD_eq_getElem?_getD,List.getElem?_set_ne e]
   ·cases h
theorem zm5 {pages:Nat} {fs:List Fra}:∀ {k:Nat} {a:Nat × List Int},whF pages fs k=some a→a.2.length=pages∧a.1≤k∧∀ j,j < pages→a.2.getD j 0=0∨∃ i:Nat,i < k∧a.2.getD j 0=((i + 1:Nat):Int)
 | 0,a,h=>by
  simp only [whF,Option.some.injEq] at h;subst h
  exact ⟨by simp,Nat.le_refl _,fun j hj=>.inl (by simp [List.getD_eq_getElem?_getD,hj])⟩
 | k + 1,a,h=>by
  unfold whF at h
  split at h
  ·rename_i b hb
   obtain ⟨h1,h2,h3⟩:=zm5 hb
   obtain ⟨g1,g2,g3⟩:=zta h
   refine ⟨g1.trans h1,by omega,fun j hj=>?_⟩
   rcases g3 j (by omega) with e | e
   ·rw [e]
    rcases h3 j hj with e2 | ⟨i,hi,e2⟩
    ·exact .inl e2
    ·exact .inr ⟨i,by omega,e2⟩
   ·exact .inr ⟨k,by omega,e⟩
  ·cases h
def zw2 (hs:List (List Int)) (fs:List Fra) (w:List Int) (k:Nat):Bool :=
 zer hs (k:Int) == 0 || (w.getD k 0 != 0 && (((ziz fs (w.getD k 0 - 1).toNat).st == 1 || (ziz fs (w.getD k 0 - 1).toNat).st == 2) && decide ((zer hs (k:Int):Int)≤(ziz fs (w.getD k 0 - 1).toNat).pn)))
def zl7 (v:PV):Bool:=decide (v.fs.length≤32) && (match whF v.pages v.fs v.fs.length with
 | some (n,w)=>decide ((n:Int)=v.cap) && ((v.works || decide ((n:Int)=v.asked)) && (List.range v.pages).all fun k=>zw2 (zod v.l v.pages v.clients).hs v.fs w k)
 | none=>false)
section
variable {N d:Nat} {h G G':Heap} {p:Nat} {v:PV}
theorem Fras.len {h H:Heap} {y:CV} {fs:List Fra} (I:Fras h y fs) {loc vals:List AV}:za2 loc (.c y :: vals) H (.len .sl (.val 0))=some (.c (.int .i64 (fs.length:Int))):=by
 rcases I with ⟨rfl,rfl⟩ | ⟨b,c,rfl,_⟩<;>rfl
theorem zuk (S:Sees N h p v) (g:GoodH N v) (hdown:v.down=false) (hf:zl7 v=true) (hN:1010≤N) (hd:62≤d):∃ h',evCallO OS table N (d + 1) 20 [.c (.ptr p 0)] h=some (.c (.bool true),h')∧Ext h h':=by
 obtain ⟨q,fc,b1,b2,b3,b4,b5,b6,b7,b8,b9⟩:=S.box
 obtain ⟨d,rfl⟩ : ∃ k,d=k + 12:=⟨d - 12,by omega⟩
 have lt:=S.lt
 have p48:=g.p48
 obtain ⟨H1,f1,x1⟩:=b8 (d + 12) (by omega) h (Ext.refl h)
 rw [hdown] at f1
 have S1:=S.ext x1
 obtain ⟨x,z,H2,f2,SR2,x2,own⟩:=zwd (N:=N) (d:=d + 11) S1 g hN (by omega)
 have lx:=SR2.len3
 obtain ⟨H3,w3,g3,x3,n3⟩:=zfd (h:=H2) (z:=[.nils,.nils,.nils]) (v:=x) (by rw [lx];rfl)
 have w3':(H2.new (.cells [.nils,.nils,.nils])).write H2.next 0 x=some H3:=w3
 obtain ⟨y,H4,f4,I4,x4⟩:=b5 (d + 12) (by omega) H3 ((x1.trans x2).trans x3)
 have xa:Ext h H4:=((x1.trans x2).trans x3).trans x4
 have la:∀ loc vals H,za2 loc (.c y :: vals) H (.len .sl (.val 0))=some (.c (.int .i64 (v.fs.length:Int))):=fun _ _ _=>I4.len
 unfold zl7 at hf
 rw [Bool.and_eq_true] at hf
 obtain ⟨hf0,hf⟩:=hf
 have h32:v.fs.length≤32:=by simpa using hf0
 split at hf
 rotate_left
 ·cases hf
 rename_i n w hw
 simp only [Bool.and_eq_true,Bool.or_eq_true,decide_eq_true_eq,List.all_eq_true,List.mem_range] at hf
 obtain ⟨hcap,hask,hpin⟩:=hf
 obtain ⟨wl,wn,wv⟩:=zm5 hw
 simp only at wl wn wv
 have some_at:∀ k,k≤v.fs.length→∃ a,whF v.pages v.fs k=some a:=by
  intro k hk
  obtain ⟨m,hm⟩ : ∃ m,v.fs.length=k + m:=⟨v.fs.length - k,by omega⟩
  have gen:∀ m,(∃ a,whF v.pages v.fs (k + m)=some a)→∃ a,whF v.pages v.fs k=some a:=by
   intro m
   induction m with
   | zero=>exact id
   | succ m ih =>
    rintro ⟨a,ha⟩
    refine ih ?_
    rw [show k + (m + 1)=(k + m) + 1 by omega] at ha
    unfold whF at ha
    split at ha
    ·rename_i b hb;exact ⟨b,hb⟩
    ·cases ha
  exact gen m ⟨_,by rw [← hm];exact hw⟩
 have u1:h.read p 1 1=some [.int .i64 (v.pages:Int)]:=zam b1 rfl
 have u7:h.read p 7 1=some [.int .i64 v.asked]:=zam b1 rfl
 have rp:∀ {G},Ext h G→G.read p 0 1=some [.ptr q 0]∧G.read p 1 1=some [.int .i64 (v.pages:Int)]∧G.read p 7 1=some [.int .i64 v.asked]:=fun {G} e=>⟨(e.read lt).trans (zam b1 rfl),(e.read lt).trans u1,(e.read lt).trans u7⟩
 have hz:zeros v.pages [CV.int .i64 0]=(List.replicate v.pages (0:Int)).map zb9:=by
  induction v.pages with
  | zero=>rfl
  | succ k ih=>show CV.int .i64 0 :: zeros k _=_;rw [ih];rfl
 have e5:=(Ext.refl H4).new (.cells ((List.replicate v.pages (0:Int)).map zb9))
 generalize hg5:H4.new (.cells ((List.replicate v.pages (0:Int)).map zb9))=H5 at e5
 have g5:H5.get H4.next=some (.cells ((List.replicate v.pages (0:Int)).map zb9)):=by rw [← hg5];exact zb8
 have n5:H5.next=H4.next + 1:=by rw [← hg5];rfl
 have bl1:Nat.ble v.pages v.pages=true:=Nat.ble_eq_true_of_le (Nat.le_refl _)
 have bl2:Nat.ble v.pages 1073741824=true:=Nat.ble_eq_true_of_le (by omega)
 have fra:∀ {G},ExtB [H4.next] H5 G→∀ i,i < v.fs.length→∃ b c,y = .sl b 0 v.fs.length c∧G.read b (i * 5) 5=some (zqf (ziz v.fs i)):=by
  intro G xg i hi
  rcases I4 with ⟨_,h0⟩ | ⟨b,c,hy,hb,hr⟩
  ·rw [h0] at hi;simp at hi
  ·refine ⟨b,c,hy,?_⟩
   have:=hr i hi
   have hg:G.get b=H4.get b:=(xg.2 b (by omega) (by simp;omega)).trans (e5.2 b hb)
   unfold Heap.read at this ⊢
   rw [hg];exact this
 have L1:∀ loc,zb3 ir20_k1 loc=[.c (.ptr p 0),.junk,.c (.ptr H2.next 0),.junk,.c y,.c (.int .i64 0),.c (.sl H4.next 0 v.pages (.ex v.pages)),.c (.int .i64 0),.junk,.junk,.junk,.junk,.junk,.junk,.junk,.junk,.junk,.junk,.junk,.junk,.junk,.junk,.junk] →
   ∃ r,zc5 (evCallO OS table N (d + 12)) N ir20_k1 ir20_l1 N loc H5=some r∧∃ q7 q8 q14 q15 q16 q17 G,r=(.exit 0,[.c (.ptr p 0),.junk,.c (.ptr H2.next 0),.junk,.c y,.c (.int .i64 (n:Int)),.c (.sl H4.next 0 v.pages (.ex v.pages)),q7,q8,.junk,.junk,.junk,.junk,.junk,q14,q15,q16,q17,.junk,.junk,.junk,.junk,.junk],G)∧ExtB [H4.next] H5 G∧G.get H4.next=some (.cells (w.map zb9)):=by
  intro loc hloc
  refine zde (n:=v.fs.length) (fun k loc G=>∃ a,whF v.pages v.fs k=some a∧ExtB [H4.next] H5 G∧G.get H4.next=some (.cells (a.2.map zb9))∧loc=[.c (.ptr p 0),.junk,.c (.ptr H2.next 0),.junk,.c y,.c (.int .i64 (a.1:Int)),.c (.sl H4.next 0 v.pages (.ex v.pages)),.c (.int .i64 (k:Int)),.junk,.junk,.junk,.junk,.junk,.junk,.junk,.junk,.junk,.junk,.junk,.junk,.junk,.junk,.junk]) _ ?_ ⟨_,rfl,ExtB.refl _ _,g5,hloc⟩ (by omega)
  rintro k loc G hk ⟨⟨m,ww⟩,ha,xg,gw,rfl⟩
  obtain ⟨al,am,av⟩:=zm5 ha
  simp only at al am av gw
  unfold ir20_l1
  by_cases hlt:k < v.fs.length
  ·left
   refine ⟨hlt,?_⟩
   have v1:=ze1 hlt
   have v2:=zeb (i:=k) (by omega)
   have v3:=zeb (i:=m) (by omega)
   obtain ⟨b,c,hy,hr⟩:=fra xg k hlt
   obtain ⟨a2,ha2⟩:=some_at (k + 1) (by omega)
   have hstep:zlx v.pages k (ziz v.fs k) (m,ww)=some a2:=by
    have:=ha2
    unfold whF at this
    rw [ha] at this
    exact this
   generalize hfk:ziz v.fs k=f at *
   have m1:Nat.blt k v.fs.length=true:=zdp hlt
   have r0:G.read b (k * 5) 1=some [.int .i64 f.st]:=ze5 (b:=0) (c:=1) hr (by omega)
   have r1:G.read b (k * 5 + 1) 1=some [.int .i64 f.pg]:=ze5 (b:=1) (c:=1) hr (by omega)
   subst hy
   unfold zlx at hstep
   by_cases c4:f.st=4
   ·rw [if_pos c4] at hstep
    simp only [Option.some.injEq] at hstep;subst hstep
    have k4:(f.st == 4)=true:=by simpa using c4
    simp only [zap,zac,zck,zaq,zat,zao,zau,zbw,zax,zc2,zad,zai,zab,zae,zaf,zar,zav,zbc,za3,zbf,za6,zag,X.eval,zak,zah,List.getD_cons_zero,List.getD_cons_succ,List.set_cons_zero,List.set_cons_succ,zaz,zan,zaa,zaj,intArith,shift,za0,cond_true,cond_false,BEq.rfl,AV.ofCells,Nat.zero_add,Nat.add_zero,Int.reduceNeg,Int.reduceLT,decide_false,la,v1,zbk,za1,za5,za9,AV.ofCells,m1,r0,k4,v2]
    exact ⟨_,_,rfl,_,ha2,xg,gw,rfl⟩
   ·rw [if_neg c4] at hstep
    have k4:(f.st == 4)=false:=by simpa using c4
    by_cases cm:f.pg = -1
    ·rw [if_pos cm] at hstep
     simp only [Option.some.injEq] at hstep;subst hstep
     have km:(f.pg == -1)=true:=by simpa using cm
     simp only [zap,zac,zaq,zat,zao,zal,zau,zay,zax,zad,zai,zab,zae,zaf,zar,zav,zbc,za3,zbf,za6,zag,X.eval,zak,zah,List.getD_cons_zero,List.getD_cons_succ,List.set_cons_zero,List.set_cons_succ,zaz,zan,zaa,zaj,intArith,shift,za0,cond_true,cond_false,BEq.rfl,AV.ofCells,Nat.zero_add,Nat.add_zero,Int.reduceNeg,Bool.not_true,Int.reduceLT,decide_true,decide_false,la,v1,zbk,za1,za5,za9,AV.ofCells,m1,r0,k4,v3,r1,zd1,km,v2]
     exact ⟨_,_,rfl,_,ha2,xg,gw,rfl⟩
    ·rw [if_neg cm] at hstep
     have km:(f.pg == -1)=false:=by simpa using cm
     split at hstep
     ·rename_i hc
      simp only [Option.some.injEq] at hstep;subst hstep
      obtain ⟨hc0,hc1,hc2⟩:=hc
      obtain ⟨pg,hpg⟩:=Int.eq_ofNat_of_zero_le hc0
      rw [hpg] at r1 km hc1 hc2 ha2
      simp only [Int.toNat_natCast] at hc2 ha2
      have hpl:pg < v.pages:=by omega
      have k1:decide ((pg:Int) < 0)=false:=decide_eq_false (by omega)
      have k2:decide ((pg:Int) ≥ (v.pages:Int))=false:=decide_eq_false (by omega)
      have m2:Nat.blt pg v.pages=true:=zdp hpl
      have rw_:G.read H4.next pg 1=some [.int .i64 0]:=by
       refine zam gw ?_
       rw [← hc2]
       simp [List.getD_eq_getElem?_getD,show pg < ww.length by omega,zb9]
      have wr:G.write H4.next pg [.int .i64 ((k + 1:Nat):Int)]=some (G.put H4.next (.cells ((ww.set pg ((k + 1:Nat):Int)).map zb9))):=by
       rw [zef gw (by simp;omega)]
       simp [List.map_set,zb9]
      have up:=(rp (G:=H5) (xa.trans e5)).2.1
      have up':G.read p 1 1=some [.int .i64 (v.pages:Int)]:=by
       have lp:p < H4.next:=Nat.lt_of_lt_of_le lt xa.1
       have hg:G.get p=H5.get p:=xg.2 p (by omega) (by simp;omega)
       unfold Heap.read at up ⊢;rw [hg];exact up
      simp only [zap,zac,zaq,zat,zao,zal,zau,zay,zax,zad,zai,zab,zas,zae,zaf,zar,zav,za8,zbc,za3,zbf,zbg,za6,zbe,zag,X.eval,zak,zah,List.getD_cons_zero,List.getD_cons_succ,List.set_cons_zero,List.set_cons_succ,zaz,zan,zaa,zaj,intArith,shift,za0,cond_true,cond_false,BEq.rfl,AV.cells,AV.ofCells,List.length_cons,List.length_nil,Nat.zero_add,Nat.add_zero,Int.reduceNeg,Bool.not_true,Bool.not_false,Int.reduceLT,decide_true,decide_false,la,v1,zbk,za1,za5,zdn,zdf,za9,AV.ofCells,m1,r0,k4,v3,r1,zd1,km,k1,up',k2,m2,rw_,zbl,wr,v2,Nat.mul_one]
      refine ⟨_,_,rfl,_,ha2,xg.put (.inr (by simp)) _,zc9,rfl⟩
     ·cases hstep
  ·right
   have:k=v.fs.length:=by omega
   subst this
   rw [hw] at ha
   simp only [Option.some.injEq,Prod.mk.injEq] at ha
   obtain ⟨rfl,rfl⟩:=ha
   have v1:decide ((v.fs.length:Int) < (v.fs.length:Int))=false:=zfj (Nat.le_refl _)
   simp only [zap,zac,zck,zaq,zat,zal,zc2,zad,zai,zab,zae,zaf,zar,zav,zbc,za6,zag,X.eval,zak,zah,List.getD_cons_zero,List.getD_cons_succ,List.set_cons_zero,List.set_cons_succ,zaz,zan,zaa,zaj,intArith,shift,cond_true,cond_false,BEq.rfl,Int.reduceNeg,la,v1]
   exact ⟨_,rfl,by simp,_,_,_,_,_,_,_,rfl,xg,gw⟩
 obtain ⟨r1,⟨q7,q8,q14,q15,q16,q17,H6,rfl,x6,g6⟩,hr1⟩:=zdm L1 rfl
 have x6h:Ext h H6:=⟨by have:=xa.1;have:=x6.1;omega,fun i hi=>by
  have l4:=Nat.lt_of_lt_of_le hi xa.1
  exact (x6.2 i (by omega) (by simp;omega)).trans ((xa.trans e5).2 i hi)⟩
 obtain ⟨H7,f7,x7⟩:=b6 (d + 12) (by omega) H6 x6h
 obtain ⟨H8,f8,x8⟩:=b7 (d + 12) (by omega) H7 (x6h.trans x7)
 have lh4:h.next≤H4.next:=xa.1
 have l6:H4.next < H6.next:=by have:=x6.1;omega
 have S6:SR H6 x z (zod v.l v.pages v.clients):=((((SR2.ext x3).ext x4).ext e5).extB x6 (fun j hj hm=>by simp at hm;have:=SR2.lt j hj;have:=x3.1;have:=x4.1;omega))
 have B6:H6.get H2.next=some (.cells x):=x6.at_ (e5.at_ (x4.at_ g3 (by omega)) (by have:=x4.1;omega)) (by have:=x4.1;omega) (by simp;have:=x4.1;omega)
 have lb2:H2.next < H6.next:=by have:=x4.1;omega
 have x78:Ext H6 H8:=x7.trans x8
 have nI:decide ((n:Int) > 32)=false:=decide_eq_false (by omega)
 have nC:((n:Int) == v.cap)=true:=by simpa using hcap
 have L0:∀ K,Ext H6 K→∀ loc,zb3 ir20_k0 loc=[.c (.ptr p 0),.junk,.c (.ptr H2.next 0),.junk,.c y,.junk,.c (.sl H4.next 0 v.pages (.ex v.pages)),.junk,.junk,.c (.int .i64 0),.junk,.junk,.junk,.junk,.junk,.junk,.junk,.junk,.junk,.junk,.junk,.junk,.junk] →
   ∃ r,zc5 (evCallO OS table N (d + 12)) N ir20_k0 ir20_l0 N loc K=some r∧∃ a0 a1 l' G,r=(.exit 2,a0 :: a1 :: l',G)∧Ext H6 G:=by
  intro K xK loc hloc
  refine zde (n:=v.pages) (fun k loc G=>Ext H6 G∧loc=[.c (.ptr p 0),.junk,.c (.ptr H2.next 0),.junk,.c y,.junk,.c (.sl H4.next 0 v.pages (.ex v.pages)),.junk,.junk,.c (.int .i64 (k:Int)),.junk,.junk,.junk,.junk,.junk,.junk,.junk,.junk,.junk,.junk,.junk,.junk,.junk]) _ ?_ ⟨xK,hloc⟩ (by omega)
  rintro k loc G hk ⟨xg,rfl⟩
  unfold ir20_l0
  have up:=(rp (x6h.trans xg)).2.1
  by_cases hlt:k < v.pages
  ·left
   refine ⟨hlt,?_⟩
   have v1:=ze1 hlt
   have v2:=zeb (i:=k) (by omega)
   have SG:=S6.ext xg
   have rx:G.read H2.next 0 3=some x:=by rw [zdi (xg.at_ B6 lb2) (by omega),List.drop_zero,List.take_of_length_le (by omega)]
   obtain ⟨G1,f9,x9⟩:=zrm (N:=N) (d:=d + 11) SG (k:Int) (by omega)
   have hp:=hpin k hlt
   unfold zw2 at hp
   generalize hpn:zer (zod v.l v.pages v.clients).hs (k:Int)=pn at *
   by_cases c0:pn=0
   ·have k0:((pn:Int) == 0)=true:=by simp [c0]
    simp only [zap,zac,zck,zaq,zat,zao,zau,zbw,zax,zc2,zad,zai,zab,zae,zaf,zar,zav,za3,zba,za7,za6,zag,X.eval,zak,zah,List.map_cons,List.map_nil,List.getD_cons_zero,List.getD_cons_succ,List.set_cons_zero,List.set_cons_succ,zaz,zan,zaa,zaj,intArith,shift,cond_true,cond_false,BEq.rfl,AV.ofCells,Nat.zero_add,Nat.add_zero,Int.reduceLT,decide_false,zdn,zdf,za1,za5,za9,AV.ofCells,up,v1,rx,f9,k0,v2]
    exact ⟨_,_,rfl,xg.trans x9,rfl⟩
   ·have k0:((pn:Int) == 0)=false:=by simp only [beq_eq_false_iff_ne,ne_eq];omega
    have kn:(pn == 0)=false:=by simpa using c0
    rw [kn,Bool.false_or] at hp
    simp only [Bool.and_eq_true,Bool.or_eq_true,bne_iff_ne,ne_eq,beq_iff_eq,decide_eq_true_eq] at hp
    obtain ⟨hw0,hst,hpl⟩:=hp
    rcases wv k hlt with hbad | ⟨i,hi,hwi⟩
    ·exact absurd hbad hw0
    rw [hwi] at hst hpl
    have hi1:(((i + 1:Nat):Int) - 1).toNat=i:=by omega
    rw [hi1] at hst hpl
    have xg1:=xg.trans x9
    have m1:Nat.blt k v.pages=true:=zdp hlt
    have rw_:G1.read H4.next k 1=some [.int .i64 ((i + 1:Nat):Int)]:=by
     refine zam (xg1.at_ g6 l6) ?_
     rw [← hwi]
     simp [List.getD_eq_getElem?_getD,show k < w.length by omega,zb9]
    have k1:(((i + 1:Nat):Int) == 0)=false:=by simp only [beq_eq_false_iff_ne,ne_eq];omega
    have k2:IntKind.i64.wrap (((i + 1:Nat):Int) - 1)=(i:Int):=by rw [zgf (by omega) (by omega)];omega
    have m2:Nat.blt i v.fs.length=true:=zdp hi
    obtain ⟨b,c,hy,hr⟩:=fra (G:=G1) ((x6.trans (xg1.b _))) i hi
    generalize hfi:ziz v.fs i=f at *
    obtain ⟨G2,w9,g9,x10,n10⟩:=zfd (h:=G1) (z:=[.int .i64 0,.int .i64 0,.int .i64 0,.int .i64 0,.bool false]) (v:=zqf f) rfl
    have w9':(G1.new (.cells [.int .i64 0,.int .i64 0,.int .i64 0,.int .i64 0,.bool false])).write G1.next 0 (zqf f)=some G2:=w9
    have fl:(zqf f).length=5:=rfl
    have s0:G2.read G1.next 0 1=some [.int .i64 f.st]:=zam g9 rfl
    have s2:G2.read G1.next 2 1=some [.int .i64 f.pn]:=zam g9 rfl
    have k5:decide (f.pn < (pn:Int))=false:=decide_eq_false (by omega)
    subst hy
    by_cases c1:f.st=1
    ·have k3:(f.st == 1)=true:=by simpa using c1
     simp only [zap,zac,zaq,zat,zao,zal,zau,zay,zax,zad,zai,zab,zas,zae,zbd,zaf,zar,zav,zbn,za8,za3,zbf,zba,zbg,za7,za6,zbe,zbh,zag,zaw,X.eval,zak,zah,List.map_cons,List.map_nil,List.getD_cons_zero,List.getD_cons_succ,List.set_cons_zero,List.set_cons_succ,zaz,zan,zaa,zaj,intArith,shift,za0,cond_true,cond_false,BEq.rfl,AV.cells,AV.ofCells,Nat.zero_add,Nat.add_zero,Bool.not_true,Int.reduceLT,decide_false,ft,zdn,zdf,za1,za5,zbk,za9,AV.ofCells,up,v1,rx,f9,k0,m1,rw_,k1,k2,m2,hr,zbl,fl,w9',s0,s2,zd1,k3,k5,v2,Nat.mul_one,Nat.zero_add]
     exact ⟨_,_,rfl,xg1.trans x10,rfl⟩
    ·have k3:(f.st == 1)=false:=by simpa using c1
     have k4:(f.st == 2)=true:=by
      rcases hst with e | e
      ·exact absurd e c1
      ·simpa using e
     simp only [zap,zac,zaq,zat,zao,zal,zau,zay,zax,zad,zai,zab,zas,zae,zaf,zar,zav,zbn,za8,za3,zbf,zba,zbg,za7,za6,zbe,zbh,zag,zaw,X.eval,zak,zah,List.map_cons,List.map_nil,List.getD_cons_zero,List.getD_cons_succ,List.set_cons_zero,List.set_cons_succ,zaz,zan,zaa,zaj,intArith,shift,za0,cond_true,cond_false,BEq.rfl,AV.cells,AV.ofCells,Nat.zero_add,Nat.add_zero,Bool.not_true,Bool.not_false,Int.reduceLT,decide_false,zdn,zdf,za1,za5,zbk,za9,AV.ofCells,up,v1,rx,f9,k0,m1,rw_,k1,k2,m2,hr,zbl,fl,w9',s0,s2,zd1,k3,k4,k5,v2,Nat.mul_one,Nat.zero_add]
     exact ⟨_,_,rfl,xg1.trans x10,rfl⟩
  ·right
   have:k=v.pages:=by omega
   rw [this]
   have v1:decide ((v.pages:Int) < (v.pages:Int))=false:=zfj (Nat.le_refl _)
   simp only [zap,zac,zck,zaq,zat,zal,zc2,zad,zai,zab,zae,zaf,zar,zav,za3,za6,zag,X.eval,zak,zah,List.getD_cons_zero,List.getD_cons_succ,List.set_cons_zero,List.set_cons_succ,zaz,zan,zaa,zaj,intArith,shift,cond_true,cond_false,BEq.rfl,AV.ofCells,Nat.zero_add,Nat.add_zero,zdn,zdf,za1,za5,za9,AV.ofCells,up,v1]
   exact ⟨_,rfl,by simp,_,_,_,_,rfl,xg⟩
 have q0:=(rp (Ext.refl h)).1
 have q2:=(rp ((x1.trans x2).trans x3)).1
 have q4:=(rp (xa)).2.1
 have q6:=(rp x6h).1
 have q7':=(rp (x6h.trans x7)).1
 have q8':=(rp (x6h.trans x78)).2.2
 have v32:decide ((v.fs.length:Int) > 32)=false:=decide_eq_false (by omega)
 rw [zbp (F:=ir20) rfl rfl rfl]
 unfold ir20
 rw [zbv]
 simp only [zbm,zap,zac,zaq,zat,zal,zau,zci,zax,zad,zai,zab,zas,zae,zaf,zar,zav,zbn,znm,za8,zcd,zbc,zem,za3,zba,zbg,za7,za6,zbe,zcx,zbh,zag,zaw,X.eval,zak,zah,List.map_cons,List.map_nil,List.getD_cons_zero,List.getD_cons_succ,List.getD_nil,List.set_cons_zero,List.set_cons_succ,zaz,zcj,zan,zaa,zaj,intArith,shift,za0,cond_true,cond_false,BEq.rfl,AV.cells,AV.ofCells,XV.av,List.length_cons,List.length_nil,Nat.zero_add,Nat.add_zero,Bool.and_true,Bool.not_true,Int.reduceLT,decide_false,zdn,zdf,za1,za5,za9,AV.ofCells,q0,f1,f2,zg7,zem,List.getElem?_cons_zero,List.getElem?_cons_succ,zbl,lx,w3',q2,f4,la,v32,q4,bl1,bl2,hz,hg5]
 rw [hr1 _ rfl]
 cases kw:v.works with
 | true =>
  rw [kw] at f8
  simp only [zap,zac,zaq,zat,zal,zau,zbw,zci,zax,zad,zai,zab,zas,zae,zbd,zaf,zar,zav,za8,zcd,za3,zba,za7,za6,zbe,zcx,zag,X.eval,zak,zah,List.map_cons,List.map_nil,List.getD_cons_zero,List.getD_cons_succ,List.set_cons_zero,List.set_cons_succ,zaz,zcj,zan,zaa,zaj,intArith,shift,cond_true,cond_false,BEq.rfl,AV.ofCells,Nat.add_zero,Bool.not_true,Int.reduceLT,decide_false,ft,zdn,zdf,za1,za5,za9,AV.ofCells,q6,f7,zd1,nC,nI,q7',f8]
  obtain ⟨r0,⟨a0,a1,l',G,rfl,x9⟩,hr0⟩:=zdm (L0 H8 x78) rfl
  rw [hr0 _ rfl]
  simp only [zap,zac,zaq,zbw,zbq,zad,zai,zab,zae,zaf,zar,zbb,zbi,X.eval,zah,List.getD_cons_zero,List.getD_cons_succ,List.set_cons_zero,List.set_cons_succ,cond_true,BEq.rfl,zbu,RV.eval]
  exact ⟨G,rfl,x6h.trans x9⟩
 | false =>
  rw [kw] at f8
  have nA:((n:Int) == v.asked)=true:=by
   rcases hask with e | e
   ·rw [kw] at e;cases e
   ·simpa using e
  simp only [zap,zac,zaq,zat,zal,zau,zbw,zci,zax,zad,zai,zab,zas,zae,zaf,zar,zav,za8,zcd,za3,zba,za7,za6,zbe,zcx,zag,X.eval,zak,zah,List.map_cons,List.map_nil,List.getD_cons_zero,List.getD_cons_succ,List.set_cons_zero,List.set_cons_succ,zaz,zcj,zan,zaa,zaj,intArith,shift,cond_true,cond_false,BEq.rfl,AV.ofCells,Nat.zero_add,Nat.add_zero,Bool.not_true,Bool.not_false,Int.reduceLT,decide_false,zdn,zdf,za1,za5,za9,AV.ofCells,q6,f7,zd1,nC,nI,q7',f8,q8',nA]
  obtain ⟨r0,⟨a0,a1,l',G,rfl,x9⟩,hr0⟩:=zdm (L0 H8 x78) rfl
  rw [hr0 _ rfl]
  simp only [zap,zac,zaq,zbw,zbq,zad,zai,zab,zae,zaf,zar,zbb,zbi,X.eval,zah,List.getD_cons_zero,List.getD_cons_succ,List.set_cons_zero,List.set_cons_succ,cond_true,BEq.rfl,zbu,RV.eval]
  exact ⟨G,rfl,x6h.trans x9⟩
structure RightV (N:Nat) (v:PV):Prop where
 g:GoodH N v
 fin:∀ i,i < v.l.length→(zcb v.l i).st≠0
 il:v.im.length=v.pages
 im:∀ k,k < v.pages→(v.im.getD k []).length=24∧zf3 v.l v.pages v.clients k (v.im.getD k [])=true
 down:v.down=false
 fr:zl7 v=true
 no:∀ i,i < v.l.length→(zcb v.l i).rs.code≠8
 now:v.now=(v.full.length:Int) - 1
 small:v.full.length≤1000000
theorem zwe (S:Sees N h p v) (R:RightV N v) (hN:1010≤N) (hd:64≤d):∃ h',evCallO OS table N (d + 1) 17 [.c (.ptr p 0)] h=some (.c (.bool true),h')∧Ext h h':=by
 obtain ⟨d,rfl⟩ : ∃ k,d=k + 1:=⟨d - 1,by omega⟩
 obtain ⟨H1,f1,x1⟩:=zwc (N:=N) (d:=d) S R.g hN (by omega)
 obtain ⟨H2,f2,x2⟩:=zrq (N:=N) (d:=d) (S.ext x1) R.g R.fin R.il R.im hN (by omega)
 obtain ⟨H3,f3,x3⟩:=zuk (N:=N) (d:=d) (S.ext (x1.trans x2)) R.g R.down R.fr hN (by omega)
 obtain ⟨H4,f4,x4⟩:=zuj (N:=N) (d:=d) (S.ext ((x1.trans x2).trans x3)) R.g.K.hs R.no hN (by omega)
 have x:=((x1.trans x2).trans x3).trans x4
 obtain ⟨q,fc,b1,⟨fb,cc,rfl⟩,b3,b4,b5,b6,b7,b8,b9⟩:=S.box
 obtain ⟨H5,f5,x5⟩:=b9 (d + 1) (by omega) H4 x
 have lt:=S.lt
 have r0:H4.read p 0 1=some [.ptr q 0]:=(x.read lt).trans (zam b1 rfl)
 have r5:H4.read p 5 1=some [.sl fb 0 v.full.length cc]:=(x.read lt).trans (zam b1 rfl)
 have s5:H5.read p 5 1=some [.sl fb 0 v.full.length cc]:=(x5.read (Nat.lt_of_lt_of_le lt x.1)).trans r5
 have hs:=R.small
 have v1:IntKind.i64.wrap ((v.full.length:Int) - 1)=(v.full.length:Int) - 1:=zgf (by omega) (by omega)
 have v2:(v.now == (v.full.length:Int) - 1)=true:=by simpa using R.now
 rw [zbp (F:=ir17) rfl rfl rfl]
 unfold ir17
 rw [zbv]
 simp only [zbm,zap,zac,zaq,zbq,zad,zai,zab,zas,zae,zaf,zar,za7,zbb,zbi,za6,zbe,X.eval,zak,zah,List.map_cons,List.map_nil,List.getD_cons_zero,List.getD_cons_succ,List.getD_nil,List.set_cons_zero,List.set_cons_succ,zaz,zan,zaa,zaj,intArith,shift,cond_true,cond_false,BEq.rfl,AV.ofCells,List.nil_append,List.cons_append,Nat.zero_add,Nat.add_zero,Nat.reduceAdd,Nat.reduceBEq,Bool.and_true,Int.reduceLT,decide_false,zb5,zby,zbs,zbr,zbt,zd2,zco,zdj,zcw,zwr,zcn,zgk,zb1,zb2,zga,zfv,ze9,zex,zfw,zfx,zfa,zgb,zfz,zgc,zb6,zcc,zct,List.reverse_cons,List.reverse_nil,zce,zgy,zdf,za5,za9,AV.ofCells,f1,f2,f3,f4,r0,f5,r5,s5,zb0,v1,v2,zbu,RV.eval]
 exact ⟨H5,rfl,x.trans x5⟩
end
end Lav
set_option maxRecDepth 100000
namespace Lav
open Go (IntKind)
def cF (w:Nat) (b:BitVec 8) (i:Nat):Nat:=(if i=w then b else b ^^^ 1#8).toNat
def xC (w:Nat) (b:BitVec 8) (i:Nat):CV:=.int .u8 (.ofNat (cF w b i))
theorem zoe (b:BitVec 8):IntKind.u8.wrap ((BitVec.ofInt IntKind.u8.bits (b.toNat:Int) ^^^ BitVec.ofInt IntKind.u8.bits 1).toNat:Int)=((b ^^^ 1#8).toNat:Int):=by
 have e:BitVec.ofInt 8 (b.toNat:Int)=b:=by rw [BitVec.ofInt_natCast];simp
 show IntKind.u8.wrap ((BitVec.ofInt 8 (b.toNat:Int) ^^^ 1#8).toNat:Int)=_
 rw [e]
 generalize b ^^^ 1#8=y
 have:=y.isLt
 simp only [IntKind.wrap,IntKind.bits,IntKind.signed]
 simp
 omega
theorem zgm:IntKind.i64.wrap (0 + 1)=1∧IntKind.i64.wrap (1 + 1)=2∧IntKind.i64.wrap (2 + 1)=3∧IntKind.i64.wrap (3 + 1)=4∧IntKind.i64.wrap (4 + 1)=5∧IntKind.i64.wrap (5 + 1)=6:=⟨rfl,rfl,rfl,rfl,rfl,rfl⟩
theorem tb0 {N d:Nat} (hN:3000≤N) (hd:60≤d) {h0 g:Heap} {ρ:Nat→Nat} {w:Nat} (b:BitVec 8) (bv:CV) (A:At h0 ρ (Q.nP0 zbo (cF w b)) g) {p:Nat} (hp:ρ 0=p) :
  ∃ loc' ρ' g',ev (evCallO OS table N d) N ir7_l1 [.junk,.c (.int .u8 (b.toNat:Int)),.c bv,.junk,.c (.ptr p 0),.c (.int .i64 (w:Int)),.c (.int .i64 0),.junk,.junk,.junk,.junk,.junk,.junk,.junk,.junk,.junk,.junk,.junk,.junk,.junk] g=some (.norm,loc',g')∧zb3 ir7_k1 loc'=[.junk,.c (.int .u8 (b.toNat:Int)),.c bv,.junk,.c (.ptr p 0),.c (.int .i64 (w:Int)),.c (.int .i64 1),.junk,.junk,.junk,.junk,.junk,.junk,.junk,.junk,.junk,.junk,.junk,.junk,.junk]∧At h0 ρ' (Q.nC0 zbo (cF w b)) g'∧ρ' 0=p:=by
 have lp:(Q.nP0 zbo (cF w b)).length=37:=by kernel_rfl
 have lA:(Q.nA0 zbo (cF w b)).length=39:=by kernel_rfl
 have lD:(Q.nD0 zbo (cF w b)).length=40:=by kernel_rfl
 have lB:(Q.nB0 zbo (cF w b)).length=40:=by kernel_rfl
 obtain ⟨r1,h1,e1,A1,k1,n1,-⟩:=zen zc1 zcr hN (by omega) hd (Q.na0 zbo (cF w b)) (Q.na0f zbo (cF w b)) A
 have q1:r1 0=p:=(k1 0 (by kernel_rfl) (by rw [lp];omega)).trans hp
 have B1:=A1.snoc (Q.rp 8 [Q.uc (cF w b) 0]) (by kernel_rfl) (by kernel_rfl) (by kernel_rfl)
 obtain ⟨r2,h2,e2,A2,k2,n2,-⟩:=zen (l:=Q.nD0 zbo (cF w b)) zc1 zcr hN (by omega) hd (Q.nb0 zbo (cF w b)) (Q.nb0f zbo (cF w b)) B1
 have q2:r2 0=p:=(k2 0 (by kernel_rfl) (by rw [lD];omega)).trans q1
 obtain ⟨r3,h3,e3,A3,k3,n3,-⟩:=zen zc1 zcr hN (by omega) hd (Q.nc0 zbo (cF w b)) (Q.nc0f zbo (cF w b)) A2
 have q3:r3 0=p:=(k3 0 (by kernel_rfl) (by rw [lB];omega)).trans q2
 have f1:evCallO OS table N d 11 [.c (.ptr p 0),.c (.int .i64 0),.agg [.int .i64 1,.int .i64 0,.int .i64 0,.int .i64 0,.int .i64 0,.nils]] g=some (.c (.bool true),h1):=by rw [← hp];exact e1
 have f2:evCallO OS table N d 11 [.c (.ptr p 0),.c (.int .i64 0),.agg [.int .i64 4,.int .i64 0,.int .i64 0,.int .i64 2,.int .i64 0,.sl h1.next 0 8 (.ex 8)]] (h1.new (.cells [xC w b 0,xC w b 0,xC w b 0,xC w b 0,xC w b 0,xC w b 0,xC w b 0,xC w b 0]))=some (.c (.bool true),h2):=by
  have z0:(if 0=(Q.nA0 zbo (cF w b)).length then h1.next else r1 0)=p:=(if_neg (by rw [lA];omega)).trans q1
  have z1:(if 39=(Q.nA0 zbo (cF w b)).length then h1.next else r1 39)=h1.next:=if_pos (by rw [lA])
  rw [← z0,← z1];exact e2
 have f3:evCallO OS table N d 11 [.c (.ptr p 0),.c (.int .i64 0),.agg [.int .i64 5,.int .i64 0,.int .i64 0,.int .i64 0,.int .i64 0,.nils]] h2=some (.c (.bool true),h3):=by rw [← q2];exact e3
 unfold ir7_l1
 by_cases c1:0=w
 ·have v1:((0:Int) == (w:Int))=true:=by simp only [beq_iff_eq];omega
  have hx:xC w b 0 = .int .u8 (b.toNat:Int):=by show CV.int .u8 (((if 0=w then b else b ^^^ 1#8).toNat:Nat):Int)=_;rw [if_pos c1]
  rw [hx] at f2
  simp only [zap,zac,zaq,zat,zao,zal,zau,zay,zax,zad,zai,zab,zas,zae,zaf,zar,zav,zep,za8,zcd,zba,za7,za6,zbe,zcx,zbh,zag,zaw,X.eval,zak,zah,List.map_cons,List.map_nil,List.getD_cons_zero,List.getD_cons_succ,List.set_cons_zero,List.set_cons_succ,zaz,zcj,zan,zaa,zaj,intArith,shift,cond_true,cond_false,BEq.rfl,zb4,zb7,AV.cells,List.length_cons,List.length_nil,zeros,zdo,setMany,List.nil_append,List.cons_append,Nat.ble,Nat.zero_add,Nat.reduceAdd,Bool.not_true,Int.reduceLT,decide_true,decide_false,zd1,v1,zds,zdl,f1,f2,f3,zgm]
  exact ⟨_,r3,h3,rfl,rfl,A3,q3⟩
 ·have v1:((0:Int) == (w:Int))=false:=by simp only [beq_eq_false_iff_ne,ne_eq];omega
  have hx:xC w b 0 = .int .u8 ((b ^^^ 1#8).toNat:Int):=by show CV.int .u8 (((if 0=w then b else b ^^^ 1#8).toNat:Nat):Int)=_;rw [if_neg c1]
  rw [hx] at f2
  simp only [zap,zac,zaq,zat,zao,zal,zau,zay,zax,zad,zai,zab,zas,zae,zaf,zar,zav,zep,za8,zcd,zba,za7,za6,zbe,zcx,zbh,zag,zaw,X.eval,zak,zah,List.map_cons,List.map_nil,List.getD_cons_zero,List.getD_cons_succ,List.set_cons_zero,List.set_cons_succ,zaz,zcj,zan,zaa,zaj,intArith,shift,cond_true,cond_false,BEq.rfl,zb4,zb7,AV.cells,List.length_cons,List.length_nil,zeros,zdo,setMany,List.nil_append,List.cons_append,Nat.ble,Nat.zero_add,Nat.reduceAdd,Bool.not_true,Bool.not_false,Int.reduceLT,decide_true,decide_false,zd1,v1,zds,zdl,f1,f2,f3,zoe,zgm]
  exact ⟨_,r3,h3,rfl,rfl,A3,q3⟩
theorem tb1 {N d:Nat} (hN:3000≤N) (hd:60≤d) {h0 g:Heap} {ρ:Nat→Nat} {w:Nat} (b:BitVec 8) (bv:CV) (A:At h0 ρ (Q.nC0 zbo (cF w b)) g) {p:Nat} (hp:ρ 0=p) :
  ∃ loc' ρ' g',ev (evCallO OS table N d) N ir7_l1 [.junk,.c (.int .u8 (b.toNat:Int)),.c bv,.junk,.c (.ptr p 0),.c (.int .i64 (w:Int)),.c (.int .i64 1),.junk,.junk,.junk,.junk,.junk,.junk,.junk,.junk,.junk,.junk,.junk,.junk,.junk] g=some (.norm,loc',g')∧zb3 ir7_k1 loc'=[.junk,.c (.int .u8 (b.toNat:Int)),.c bv,.junk,.c (.ptr p 0),.c (.int .i64 (w:Int)),.c (.int .i64 2),.junk,.junk,.junk,.junk,.junk,.junk,.junk,.junk,.junk,.junk,.junk,.junk,.junk]∧At h0 ρ' (Q.nC1 zbo (cF w b)) g'∧ρ' 0=p:=by
 have lp:(Q.nC0 zbo (cF w b)).length=41:=by kernel_rfl
 have lA:(Q.nA1 zbo (cF w b)).length=43:=by kernel_rfl
 have lD:(Q.nD1 zbo (cF w b)).length=44:=by kernel_rfl
 have lB:(Q.nB1 zbo (cF w b)).length=44:=by kernel_rfl
 obtain ⟨r1,h1,e1,A1,k1,n1,-⟩:=zen zc1 zcr hN (by omega) hd (Q.na1 zbo (cF w b)) (Q.na1f zbo (cF w b)) A
 have q1:r1 0=p:=(k1 0 (by kernel_rfl) (by rw [lp];omega)).trans hp
 have B1:=A1.snoc (Q.rp 8 [Q.uc (cF w b) 1]) (by kernel_rfl) (by kernel_rfl) (by kernel_rfl)
 obtain ⟨r2,h2,e2,A2,k2,n2,-⟩:=zen (l:=Q.nD1 zbo (cF w b)) zc1 zcr hN (by omega) hd (Q.nb1 zbo (cF w b)) (Q.nb1f zbo (cF w b)) B1
 have q2:r2 0=p:=(k2 0 (by kernel_rfl) (by rw [lD];omega)).trans q1
 obtain ⟨r3,h3,e3,A3,k3,n3,-⟩:=zen zc1 zcr hN (by omega) hd (Q.nc1 zbo (cF w b)) (Q.nc1f zbo (cF w b)) A2
 have q3:r3 0=p:=(k3 0 (by kernel_rfl) (by rw [lB];omega)).trans q2
 have f1:evCallO OS table N d 11 [.c (.ptr p 0),.c (.int .i64 0),.agg [.int .i64 1,.int .i64 0,.int .i64 0,.int .i64 0,.int .i64 0,.nils]] g=some (.c (.bool true),h1):=by rw [← hp];exact e1
 have f2:evCallO OS table N d 11 [.c (.ptr p 0),.c (.int .i64 0),.agg [.int .i64 4,.int .i64 0,.int .i64 0,.int .i64 2,.int .i64 0,.sl h1.next 0 8 (.ex 8)]] (h1.new (.cells [xC w b 1,xC w b 1,xC w b 1,xC w b 1,xC w b 1,xC w b 1,xC w b 1,xC w b 1]))=some (.c (.bool true),h2):=by
  have z0:(if 0=(Q.nA1 zbo (cF w b)).length then h1.next else r1 0)=p:=(if_neg (by rw [lA];omega)).trans q1
  have z1:(if 43=(Q.nA1 zbo (cF w b)).length then h1.next else r1 43)=h1.next:=if_pos (by rw [lA])
  rw [← z0,← z1];exact e2
 have f3:evCallO OS table N d 11 [.c (.ptr p 0),.c (.int .i64 0),.agg [.int .i64 5,.int .i64 0,.int .i64 0,.int .i64 0,.int .i64 0,.nils]] h2=some (.c (.bool true),h3):=by rw [← q2];exact e3
 unfold ir7_l1
 by_cases c1:1=w
 ·have v1:((1:Int) == (w:Int))=true:=by simp only [beq_iff_eq];omega
  have hx:xC w b 1 = .int .u8 (b.toNat:Int):=by show CV.int .u8 (((if 1=w then b else b ^^^ 1#8).toNat:Nat):Int)=_;rw [if_pos c1]
  rw [hx] at f2
  simp only [zap,zac,zaq,zat,zao,zal,zau,zay,zax,zad,zai,zab,zas,zae,zaf,zar,zav,zep,za8,zcd,zba,za7,za6,zbe,zcx,zbh,zag,zaw,X.eval,zak,zah,List.map_cons,List.map_nil,List.getD_cons_zero,List.getD_cons_succ,List.set_cons_zero,List.set_cons_succ,zaz,zcj,zan,zaa,zaj,intArith,shift,cond_true,cond_false,BEq.rfl,zb4,zb7,AV.cells,List.length_cons,List.length_nil,zeros,zdo,setMany,List.nil_append,List.cons_append,Nat.ble,Nat.zero_add,Nat.reduceAdd,Bool.not_true,Int.reduceLT,decide_true,decide_false,zd1,v1,zds,zdl,f1,f2,f3,zgm]
  exact ⟨_,r3,h3,rfl,rfl,A3,q3⟩
 ·have v1:((1:Int) == (w:Int))=false:=by simp only [beq_eq_false_iff_ne,ne_eq];omega
  have hx:xC w b 1 = .int .u8 ((b ^^^ 1#8).toNat:Int):=by show CV.int .u8 (((if 1=w then b else b ^^^ 1#8).toNat:Nat):Int)=_;rw [if_neg c1]
  rw [hx] at f2
  simp only [zap,zac,zaq,zat,zao,zal,zau,zay,zax,zad,zai,zab,zas,zae,zaf,zar,zav,zep,za8,zcd,zba,za7,za6,zbe,zcx,zbh,zag,zaw,X.eval,zak,zah,List.map_cons,List.map_nil,List.getD_cons_zero,List.getD_cons_succ,List.set_cons_zero,List.set_cons_succ,zaz,zcj,zan,zaa,zaj,intArith,shift,cond_true,cond_false,BEq.rfl,zb4,zb7,AV.cells,List.length_cons,List.length_nil,zeros,zdo,setMany,List.nil_append,List.cons_append,Nat.ble,Nat.zero_add,Nat.reduceAdd,Bool.not_true,Bool.not_false,Int.reduceLT,decide_true,decide_false,zd1,v1,zds,zdl,f1,f2,f3,zoe,zgm]
  exact ⟨_,r3,h3,rfl,rfl,A3,q3⟩
theorem tb2 {N d:Nat} (hN:3000≤N) (hd:60≤d) {h0 g:Heap} {ρ:Nat→Nat} {w:Nat} (b:BitVec 8) (bv:CV) (A:At h0 ρ (Q.nC1 zbo (cF w b)) g) {p:Nat} (hp:ρ 0=p) :
  ∃ loc' ρ' g',ev (evCallO OS table N d) N ir7_l1 [.junk,.c (.int .u8 (b.toNat:Int)),.c bv,.junk,.c (.ptr p 0),.c (.int .i64 (w:Int)),.c (.int .i64 2),.junk,.junk,.junk,.junk,.junk,.junk,.junk,.junk,.junk,.junk,.junk,.junk,.junk] g=some (.norm,loc',g')∧zb3 ir7_k1 loc'=[.junk,.c (.int .u8 (b.toNat:Int)),.c bv,.junk,.c (.ptr p 0),.c (.int .i64 (w:Int)),.c (.int .i64 3),.junk,.junk,.junk,.junk,.junk,.junk,.junk,.junk,.junk,.junk,.junk,.junk,.junk]∧At h0 ρ' (Q.nC2 zbo (cF w b)) g'∧ρ' 0=p:=by
 have lp:(Q.nC1 zbo (cF w b)).length=44:=by kernel_rfl
 have lA:(Q.nA2 zbo (cF w b)).length=44:=by kernel_rfl
 have lD:(Q.nD2 zbo (cF w b)).length=45:=by kernel_rfl
 have lB:(Q.nB2 zbo (cF w b)).length=46:=by kernel_rfl
 obtain ⟨r1,h1,e1,A1,k1,n1,-⟩:=zen zc1 zcr hN (by omega) hd (Q.na2 zbo (cF w b)) (Q.na2f zbo (cF w b)) A
 have q1:r1 0=p:=(k1 0 (by kernel_rfl) (by rw [lp];omega)).trans hp
 have B1:=A1.snoc (Q.rp 8 [Q.uc (cF w b) 2]) (by kernel_rfl) (by kernel_rfl) (by kernel_rfl)
 obtain ⟨r2,h2,e2,A2,k2,n2,-⟩:=zen (l:=Q.nD2 zbo (cF w b)) zc1 zcr hN (by omega) hd (Q.nb2 zbo (cF w b)) (Q.nb2f zbo (cF w b)) B1
 have q2:r2 0=p:=(k2 0 (by kernel_rfl) (by rw [lD];omega)).trans q1
 obtain ⟨r3,h3,e3,A3,k3,n3,-⟩:=zen zc1 zcr hN (by omega) hd (Q.nc2 zbo (cF w b)) (Q.nc2f zbo (cF w b)) A2
 have q3:r3 0=p:=(k3 0 (by kernel_rfl) (by rw [lB];omega)).trans q2
 have f1:evCallO OS table N d 11 [.c (.ptr p 0),.c (.int .i64 0),.agg [.int .i64 1,.int .i64 0,.int .i64 0,.int .i64 0,.int .i64 0,.nils]] g=some (.c (.bool true),h1):=by rw [← hp];exact e1
 have f2:evCallO OS table N d 11 [.c (.ptr p 0),.c (.int .i64 0),.agg [.int .i64 4,.int .i64 0,.int .i64 0,.int .i64 2,.int .i64 0,.sl h1.next 0 8 (.ex 8)]] (h1.new (.cells [xC w b 2,xC w b 2,xC w b 2,xC w b 2,xC w b 2,xC w b 2,xC w b 2,xC w b 2]))=some (.c (.bool true),h2):=by
  have z0:(if 0=(Q.nA2 zbo (cF w b)).length then h1.next else r1 0)=p:=(if_neg (by rw [lA];omega)).trans q1
  have z1:(if 44=(Q.nA2 zbo (cF w b)).length then h1.next else r1 44)=h1.next:=if_pos (by rw [lA])
  rw [← z0,← z1];exact e2
 have f3:evCallO OS table N d 11 [.c (.ptr p 0),.c (.int .i64 0),.agg [.int .i64 5,.int .i64 0,.int .i64 0,.int .i64 0,.int .i64 0,.nils]] h2=some (.c (.bool true),h3):=by rw [← q2];exact e3
 unfold ir7_l1
 by_cases c1:2=w
 ·have v1:((2:Int) == (w:Int))=true:=by simp only [beq_iff_eq];omega
  have hx:xC w b 2 = .int .u8 (b.toNat:Int):=by show CV.int .u8 (((if 2=w then b else b ^^^ 1#8).toNat:Nat):Int)=_;rw [if_pos c1]
  rw [hx] at f2
  simp only [zap,zac,zaq,zat,zao,zal,zau,zay,zax,zad,zai,zab,zas,zae,zaf,zar,zav,zep,za8,zcd,zba,za7,za6,zbe,zcx,zbh,zag,zaw,X.eval,zak,zah,List.map_cons,List.map_nil,List.getD_cons_zero,List.getD_cons_succ,List.set_cons_zero,List.set_cons_succ,zaz,zcj,zan,zaa,zaj,intArith,shift,cond_true,cond_false,BEq.rfl,zb4,zb7,AV.cells,List.length_cons,List.length_nil,zeros,zdo,setMany,List.nil_append,List.cons_append,Nat.ble,Nat.zero_add,Nat.reduceAdd,Bool.not_true,Int.reduceLT,decide_true,decide_false,zd1,v1,zds,zdl,f1,f2,f3,zgm]
  exact ⟨_,r3,h3,rfl,rfl,A3,q3⟩
 ·have v1:((2:Int) == (w:Int))=false:=by simp only [beq_eq_false_iff_ne,ne_eq];omega
  have hx:xC w b 2 = .int .u8 ((b ^^^ 1#8).toNat:Int):=by show CV.int .u8 (((if 2=w then b else b ^^^ 1#8).toNat:Nat):Int)=_;rw [if_neg c1]
  rw [hx] at f2
  simp only [zap,zac,zaq,zat,zao,zal,zau,zay,zax,zad,zai,zab,zas,zae,zaf,zar,zav,zep,za8,zcd,zba,za7,za6,zbe,zcx,zbh,zag,zaw,X.eval,zak,zah,List.map_cons,List.map_nil,List.getD_cons_zero,List.getD_cons_succ,List.set_cons_zero,List.set_cons_succ,zaz,zcj,zan,zaa,zaj,intArith,shift,cond_true,cond_false,BEq.rfl,zb4,zb7,AV.cells,List.length_cons,List.length_nil,zeros,zdo,setMany,List.nil_append,List.cons_append,Nat.ble,Nat.zero_add,Nat.reduceAdd,Bool.not_true,Bool.not_false,Int.reduceLT,decide_true,decide_false,zd1,v1,zds,zdl,f1,f2,f3,zoe,zgm]
  exact ⟨_,r3,h3,rfl,rfl,A3,q3⟩
theorem tb3 {N d:Nat} (hN:3000≤N) (hd:60≤d) {h0 g:Heap} {ρ:Nat→Nat} {w:Nat} (b:BitVec 8) (bv:CV) (A:At h0 ρ (Q.nC2 zbo (cF w b)) g) {p:Nat} (hp:ρ 0=p) :
  ∃ loc' ρ' g',ev (evCallO OS table N d) N ir7_l1 [.junk,.c (.int .u8 (b.toNat:Int)),.c bv,.junk,.c (.ptr p 0),.c (.int .i64 (w:Int)),.c (.int .i64 3),.junk,.junk,.junk,.junk,.junk,.junk,.junk,.junk,.junk,.junk,.junk,.junk,.junk] g=some (.norm,loc',g')∧zb3 ir7_k1 loc'=[.junk,.c (.int .u8 (b.toNat:Int)),.c bv,.junk,.c (.ptr p 0),.c (.int .i64 (w:Int)),.c (.int .i64 4),.junk,.junk,.junk,.junk,.junk,.junk,.junk,.junk,.junk,.junk,.junk,.junk,.junk]∧At h0 ρ' (Q.nC3 zbo (cF w b)) g'∧ρ' 0=p:=by
 have lp:(Q.nC2 zbo (cF w b)).length=46:=by kernel_rfl
 have lA:(Q.nA3 zbo (cF w b)).length=47:=by kernel_rfl
 have lD:(Q.nD3 zbo (cF w b)).length=48:=by kernel_rfl
 have lB:(Q.nB3 zbo (cF w b)).length=48:=by kernel_rfl
 obtain ⟨r1,h1,e1,A1,k1,n1,-⟩:=zen zc1 zcr hN (by omega) hd (Q.na3 zbo (cF w b)) (Q.na3f zbo (cF w b)) A
 have q1:r1 0=p:=(k1 0 (by kernel_rfl) (by rw [lp];omega)).trans hp
 have B1:=A1.snoc (Q.rp 8 [Q.uc (cF w b) 3]) (by kernel_rfl) (by kernel_rfl) (by kernel_rfl)
 obtain ⟨r2,h2,e2,A2,k2,n2,-⟩:=zen (l:=Q.nD3 zbo (cF w b)) zc1 zcr hN (by omega) hd (Q.nb3 zbo (cF w b)) (Q.nb3f zbo (cF w b)) B1
 have q2:r2 0=p:=(k2 0 (by kernel_rfl) (by rw [lD];omega)).trans q1
 obtain ⟨r3,h3,e3,A3,k3,n3,-⟩:=zen zc1 zcr hN (by omega) hd (Q.nc3 zbo (cF w b)) (Q.nc3f zbo (cF w b)) A2
 have q3:r3 0=p:=(k3 0 (by kernel_rfl) (by rw [lB];omega)).trans q2
 have f1:evCallO OS table N d 11 [.c (.ptr p 0),.c (.int .i64 0),.agg [.int .i64 1,.int .i64 0,.int .i64 0,.int .i64 0,.int .i64 0,.nils]] g=some (.c (.bool true),h1):=by rw [← hp];exact e1
 have f2:evCallO OS table N d 11 [.c (.ptr p 0),.c (.int .i64 0),.agg [.int .i64 4,.int .i64 0,.int .i64 0,.int .i64 2,.int .i64 0,.sl h1.next 0 8 (.ex 8)]] (h1.new (.cells [xC w b 3,xC w b 3,xC w b 3,xC w b 3,xC w b 3,xC w b 3,xC w b 3,xC w b 3]))=some (.c (.bool true),h2):=by
  have z0:(if 0=(Q.nA3 zbo (cF w b)).length then h1.next else r1 0)=p:=(if_neg (by rw [lA];omega)).trans q1
  have z1:(if 47=(Q.nA3 zbo (cF w b)).length then h1.next else r1 47)=h1.next:=if_pos (by rw [lA])
  rw [← z0,← z1];exact e2
 have f3:evCallO OS table N d 11 [.c (.ptr p 0),.c (.int .i64 0),.agg [.int .i64 5,.int .i64 0,.int .i64 0,.int .i64 0,.int .i64 0,.nils]] h2=some (.c (.bool true),h3):=by rw [← q2];exact e3
 unfold ir7_l1
 by_cases c1:3=w
 ·have v1:((3:Int) == (w:Int))=true:=by simp only [beq_iff_eq];omega
  have hx:xC w b 3 = .int .u8 (b.toNat:Int):=by show CV.int .u8 (((if 3=w then b else b ^^^ 1#8).toNat:Nat):Int)=_;rw [if_pos c1]
  rw [hx] at f2
  simp only [zap,zac,zaq,zat,zao,zal,zau,zay,zax,zad,zai,zab,zas,zae,zaf,zar,zav,zep,za8,zcd,zba,za7,za6,zbe,zcx,zbh,zag,zaw,X.eval,zak,zah,List.map_cons,List.map_nil,List.getD_cons_zero,List.getD_cons_succ,List.set_cons_zero,List.set_cons_succ,zaz,zcj,zan,zaa,zaj,intArith,shift,cond_true,cond_false,BEq.rfl,zb4,zb7,AV.cells,List.length_cons,List.length_nil,zeros,zdo,setMany,List.nil_append,List.cons_append,Nat.ble,Nat.zero_add,Nat.reduceAdd,Bool.not_true,Int.reduceLT,decide_true,decide_false,zd1,v1,zds,zdl,f1,f2,f3,zgm]
  exact ⟨_,r3,h3,rfl,rfl,A3,q3⟩
 ·have v1:((3:Int) == (w:Int))=false:=by simp only [beq_eq_false_iff_ne,ne_eq];omega
  have hx:xC w b 3 = .int .u8 ((b ^^^ 1#8).toNat:Int):=by show CV.int .u8 (((if 3=w then b else b ^^^ 1#8).toNat:Nat):Int)=_;rw [if_neg c1]
  rw [hx] at f2
  simp only [zap,zac,zaq,zat,zao,zal,zau,zay,zax,zad,zai,zab,zas,zae,zaf,zar,zav,zep,za8,zcd,zba,za7,za6,zbe,zcx,zbh,zag,zaw,X.eval,zak,zah,List.map_cons,List.map_nil,List.getD_cons_zero,List.getD_cons_succ,List.set_cons_zero,List.set_cons_succ,zaz,zcj,zan,zaa,zaj,intArith,shift,cond_true,cond_false,BEq.rfl,zb4,zb7,AV.cells,List.length_cons,List.length_nil,zeros,zdo,setMany,List.nil_append,List.cons_append,Nat.ble,Nat.zero_add,Nat.reduceAdd,Bool.not_true,Bool.not_false,Int.reduceLT,decide_true,decide_false,zd1,v1,zds,zdl,f1,f2,f3,zoe,zgm]
  exact ⟨_,r3,h3,rfl,rfl,A3,q3⟩
theorem tb4 {N d:Nat} (hN:3000≤N) (hd:60≤d) {h0 g:Heap} {ρ:Nat→Nat} {w:Nat} (b:BitVec 8) (bv:CV) (A:At h0 ρ (Q.nC3 zbo (cF w b)) g) {p:Nat} (hp:ρ 0=p) :
  ∃ loc' ρ' g',ev (evCallO OS table N d) N ir7_l1 [.junk,.c (.int .u8 (b.toNat:Int)),.c bv,.junk,.c (.ptr p 0),.c (.int .i64 (w:Int)),.c (.int .i64 4),.junk,.junk,.junk,.junk,.junk,.junk,.junk,.junk,.junk,.junk,.junk,.junk,.junk] g=some (.norm,loc',g')∧zb3 ir7_k1 loc'=[.junk,.c (.int .u8 (b.toNat:Int)),.c bv,.junk,.c (.ptr p 0),.c (.int .i64 (w:Int)),.c (.int .i64 5),.junk,.junk,.junk,.junk,.junk,.junk,.junk,.junk,.junk,.junk,.junk,.junk,.junk]∧At h0 ρ' (Q.nC4 zbo (cF w b)) g'∧ρ' 0=p:=by
 have lp:(Q.nC3 zbo (cF w b)).length=48:=by kernel_rfl
 have lA:(Q.nA4 zbo (cF w b)).length=48:=by kernel_rfl
 have lD:(Q.nD4 zbo (cF w b)).length=49:=by kernel_rfl
 have lB:(Q.nB4 zbo (cF w b)).length=50:=by kernel_rfl
 obtain ⟨r1,h1,e1,A1,k1,n1,-⟩:=zen zc1 zcr hN (by omega) hd (Q.na4 zbo (cF w b)) (Q.na4f zbo (cF w b)) A
 have q1:r1 0=p:=(k1 0 (by kernel_rfl) (by rw [lp];omega)).trans hp
 have B1:=A1.snoc (Q.rp 8 [Q.uc (cF w b) 4]) (by kernel_rfl) (by kernel_rfl) (by kernel_rfl)
 obtain ⟨r2,h2,e2,A2,k2,n2,-⟩:=zen (l:=Q.nD4 zbo (cF w b)) zc1 zcr hN (by omega) hd (Q.nb4 zbo (cF w b)) (Q.nb4f zbo (cF w b)) B1
 have q2:r2 0=p:=(k2 0 (by kernel_rfl) (by rw [lD];omega)).trans q1
 obtain ⟨r3,h3,e3,A3,k3,n3,-⟩:=zen zc1 zcr hN (by omega) hd (Q.nc4 zbo (cF w b)) (Q.nc4f zbo (cF w b)) A2
 have q3:r3 0=p:=(k3 0 (by kernel_rfl) (by rw [lB];omega)).trans q2
 have f1:evCallO OS table N d 11 [.c (.ptr p 0),.c (.int .i64 0),.agg [.int .i64 1,.int .i64 0,.int .i64 0,.int .i64 0,.int .i64 0,.nils]] g=some (.c (.bool true),h1):=by rw [← hp];exact e1
 have f2:evCallO OS table N d 11 [.c (.ptr p 0),.c (.int .i64 0),.agg [.int .i64 4,.int .i64 0,.int .i64 0,.int .i64 2,.int .i64 0,.sl h1.next 0 8 (.ex 8)]] (h1.new (.cells [xC w b 4,xC w b 4,xC w b 4,xC w b 4,xC w b 4,xC w b 4,xC w b 4,xC w b 4]))=some (.c (.bool true),h2):=by
  have z0:(if 0=(Q.nA4 zbo (cF w b)).length then h1.next else r1 0)=p:=(if_neg (by rw [lA];omega)).trans q1
  have z1:(if 48=(Q.nA4 zbo (cF w b)).length then h1.next else r1 48)=h1.next:=if_pos (by rw [lA])
  rw [← z0,← z1];exact e2
 have f3:evCallO OS table N d 11 [.c (.ptr p 0),.c (.int .i64 0),.agg [.int .i64 5,.int .i64 0,.int .i64 0,.int .i64 0,.int .i64 0,.nils]] h2=some (.c (.bool true),h3):=by rw [← q2];exact e3
 unfold ir7_l1
 by_cases c1:4=w
 ·have v1:((4:Int) == (w:Int))=true:=by simp only [beq_iff_eq];omega
  have hx:xC w b 4 = .int .u8 (b.toNat:Int):=by show CV.int .u8 (((if 4=w then b else b ^^^ 1#8).toNat:Nat):Int)=_;rw [if_pos c1]
  rw [hx] at f2
  simp only [zap,zac,zaq,zat,zao,zal,zau,zay,zax,zad,zai,zab,zas,zae,zaf,zar,zav,zep,za8,zcd,zba,za7,za6,zbe,zcx,zbh,zag,zaw,X.eval,zak,zah,List.map_cons,List.map_nil,List.getD_cons_zero,List.getD_cons_succ,List.set_cons_zero,List.set_cons_succ,zaz,zcj,zan,zaa,zaj,intArith,shift,cond_true,cond_false,BEq.rfl,zb4,zb7,AV.cells,List.length_cons,List.length_nil,zeros,zdo,setMany,List.nil_append,List.cons_append,Nat.ble,Nat.zero_add,Nat.reduceAdd,Bool.not_true,Int.reduceLT,decide_true,decide_false,zd1,v1,zds,zdl,f1,f2,f3,zgm]
  exact ⟨_,r3,h3,rfl,rfl,A3,q3⟩
 ·have v1:((4:Int) == (w:Int))=false:=by simp only [beq_eq_false_iff_ne,ne_eq];omega
  have hx:xC w b 4 = .int .u8 ((b ^^^ 1#8).toNat:Int):=by show CV.int .u8 (((if 4=w then b else b ^^^ 1#8).toNat:Nat):Int)=_;rw [if_neg c1]
  rw [hx] at f2
  simp only [zap,zac,zaq,zat,zao,zal,zau,zay,zax,zad,zai,zab,zas,zae,zaf,zar,zav,zep,za8,zcd,zba,za7,za6,zbe,zcx,zbh,zag,zaw,X.eval,zak,zah,List.map_cons,List.map_nil,List.getD_cons_zero,List.getD_cons_succ,List.set_cons_zero,List.set_cons_succ,zaz,zcj,zan,zaa,zaj,intArith,shift,cond_true,cond_false,BEq.rfl,zb4,zb7,AV.cells,List.length_cons,List.length_nil,zeros,zdo,setMany,List.nil_append,List.cons_append,Nat.ble,Nat.zero_add,Nat.reduceAdd,Bool.not_true,Bool.not_false,Int.reduceLT,decide_true,decide_false,zd1,v1,zds,zdl,f1,f2,f3,zoe,zgm]
  exact ⟨_,r3,h3,rfl,rfl,A3,q3⟩
theorem tb5 {N d:Nat} (hN:3000≤N) (hd:60≤d) {h0 g:Heap} {ρ:Nat→Nat} {w:Nat} (b:BitVec 8) (bv:CV) (A:At h0 ρ (Q.nC4 zbo (cF w b)) g) {p:Nat} (hp:ρ 0=p) :
  ∃ loc' ρ' g',ev (evCallO OS table N d) N ir7_l1 [.junk,.c (.int .u8 (b.toNat:Int)),.c bv,.junk,.c (.ptr p 0),.c (.int .i64 (w:Int)),.c (.int .i64 5),.junk,.junk,.junk,.junk,.junk,.junk,.junk,.junk,.junk,.junk,.junk,.junk,.junk] g=some (.norm,loc',g')∧zb3 ir7_k1 loc'=[.junk,.c (.int .u8 (b.toNat:Int)),.c bv,.junk,.c (.ptr p 0),.c (.int .i64 (w:Int)),.c (.int .i64 6),.junk,.junk,.junk,.junk,.junk,.junk,.junk,.junk,.junk,.junk,.junk,.junk,.junk]∧At h0 ρ' (Q.nC5 zbo (cF w b)) g'∧ρ' 0=p:=by
 have lp:(Q.nC4 zbo (cF w b)).length=50:=by kernel_rfl
 have lA:(Q.nA5 zbo (cF w b)).length=51:=by kernel_rfl
 have lD:(Q.nD5 zbo (cF w b)).length=52:=by kernel_rfl
 have lB:(Q.nB5 zbo (cF w b)).length=52:=by kernel_rfl
 obtain ⟨r1,h1,e1,A1,k1,n1,-⟩:=zen zc1 zcr hN (by omega) hd (Q.na5 zbo (cF w b)) (Q.na5f zbo (cF w b)) A
 have q1:r1 0=p:=(k1 0 (by kernel_rfl) (by rw [lp];omega)).trans hp
 have B1:=A1.snoc (Q.rp 8 [Q.uc (cF w b) 5]) (by kernel_rfl) (by kernel_rfl) (by kernel_rfl)
 obtain ⟨r2,h2,e2,A2,k2,n2,-⟩:=zen (l:=Q.nD5 zbo (cF w b)) zc1 zcr hN (by omega) hd (Q.nb5 zbo (cF w b)) (Q.nb5f zbo (cF w b)) B1
 have q2:r2 0=p:=(k2 0 (by kernel_rfl) (by rw [lD];omega)).trans q1
 obtain ⟨r3,h3,e3,A3,k3,n3,-⟩:=zen zc1 zcr hN (by omega) hd (Q.nc5 zbo (cF w b)) (Q.nc5f zbo (cF w b)) A2
 have q3:r3 0=p:=(k3 0 (by kernel_rfl) (by rw [lB];omega)).trans q2
 have f1:evCallO OS table N d 11 [.c (.ptr p 0),.c (.int .i64 0),.agg [.int .i64 1,.int .i64 0,.int .i64 0,.int .i64 0,.int .i64 0,.nils]] g=some (.c (.bool true),h1):=by rw [← hp];exact e1
 have f2:evCallO OS table N d 11 [.c (.ptr p 0),.c (.int .i64 0),.agg [.int .i64 4,.int .i64 0,.int .i64 0,.int .i64 2,.int .i64 0,.sl h1.next 0 8 (.ex 8)]] (h1.new (.cells [xC w b 5,xC w b 5,xC w b 5,xC w b 5,xC w b 5,xC w b 5,xC w b 5,xC w b 5]))=some (.c (.bool true),h2):=by
  have z0:(if 0=(Q.nA5 zbo (cF w b)).length then h1.next else r1 0)=p:=(if_neg (by rw [lA];omega)).trans q1
  have z1:(if 51=(Q.nA5 zbo (cF w b)).length then h1.next else r1 51)=h1.next:=if_pos (by rw [lA])
  rw [← z0,← z1];exact e2
 have f3:evCallO OS table N d 11 [.c (.ptr p 0),.c (.int .i64 0),.agg [.int .i64 5,.int .i64 0,.int .i64 0,.int .i64 0,.int .i64 0,.nils]] h2=some (.c (.bool true),h3):=by rw [← q2];exact e3
 unfold ir7_l1
 by_cases c1:5=w
 ·have v1:((5:Int) == (w:Int))=true:=by simp only [beq_iff_eq];omega
  have hx:xC w b 5 = .int .u8 (b.toNat:Int):=by show CV.int .u8 (((if 5=w then b else b ^^^ 1#8).toNat:Nat):Int)=_;rw [if_pos c1]
  rw [hx] at f2
  simp only [zap,zac,zaq,zat,zao,zal,zau,zay,zax,zad,zai,zab,zas,zae,zaf,zar,zav,zep,za8,zcd,zba,za7,za6,zbe,zcx,zbh,zag,zaw,X.eval,zak,zah,List.map_cons,List.map_nil,List.getD_cons_zero,List.getD_cons_succ,List.set_cons_zero,List.set_cons_succ,zaz,zcj,zan,zaa,zaj,intArith,shift,cond_true,cond_false,BEq.rfl,zb4,zb7,AV.cells,List.length_cons,List.length_nil,zeros,zdo,setMany,List.nil_append,List.cons_append,Nat.ble,Nat.zero_add,Nat.reduceAdd,Bool.not_true,Int.reduceLT,decide_true,decide_false,zd1,v1,zds,zdl,f1,f2,f3,zgm]
  exact ⟨_,r3,h3,rfl,rfl,A3,q3⟩
 ·have v1:((5:Int) == (w:Int))=false:=by simp only [beq_eq_false_iff_ne,ne_eq];omega
  have hx:xC w b 5 = .int .u8 ((b ^^^ 1#8).toNat:Int):=by show CV.int .u8 (((if 5=w then b else b ^^^ 1#8).toNat:Nat):Int)=_;rw [if_neg c1]
  rw [hx] at f2
  simp only [zap,zac,zaq,zat,zao,zal,zau,zay,zax,zad,zai,zab,zas,zae,zaf,zar,zav,zep,za8,zcd,zba,za7,za6,zbe,zcx,zbh,zag,zaw,X.eval,zak,zah,List.map_cons,List.map_nil,List.getD_cons_zero,List.getD_cons_succ,List.set_cons_zero,List.set_cons_succ,zaz,zcj,zan,zaa,zaj,intArith,shift,cond_true,cond_false,BEq.rfl,zb4,zb7,AV.cells,List.length_cons,List.length_nil,zeros,zdo,setMany,List.nil_append,List.cons_append,Nat.ble,Nat.zero_add,Nat.reduceAdd,Bool.not_true,Bool.not_false,Int.reduceLT,decide_true,decide_false,zd1,v1,zds,zdl,f1,f2,f3,zoe,zgm]
  exact ⟨_,r3,h3,rfl,rfl,A3,q3⟩
end Lav
set_option maxRecDepth 100000
namespace Lav
open Go (IntKind)
def Img (h:Heap) (v:CV) (bs:List (BitVec 8)):Prop:=∃ b c,v = .sl b 0 bs.length c∧(c = .dy 1∨c = .ex bs.length)∧b < h.next∧h.get b=some (.cells (u8s bs))
theorem Img.bytes {h:Heap} {v:CV} {bs:List (BitVec 8)} (I:Img h v bs):Bytes h v bs:=by
 obtain ⟨b,c,rfl,hc,hb,hg⟩:=I
 have:=bytes_at (o:=0) (n:=bs.length) (c:=c) hb hg (by simp)
 simpa using this
theorem Img.extB {h h':Heap} {v:CV} {bs:List (BitVec 8)} {L:List Nat} (I:Img h v bs) (e:ExtB L h h') (hn:∀ k,blk v=some k→k ∉ L):Img h' v bs:=by
 obtain ⟨b,c,rfl,hc,hb,hg⟩:=I
 exact ⟨b,c,rfl,hc,Nat.lt_of_lt_of_le hb e.1,e.at_ hg hb (hn b rfl)⟩
theorem Img.ext {h h':Heap} {v:CV} {bs:List (BitVec 8)} (I:Img h v bs) (e:Ext h h'):Img h' v bs:=I.extB (e.b []) (by simp)
theorem zqh {h G:Heap} {v:CV} {n:Nat} {bs:List (BitVec 8)} (m:Mine 1 h G v n (u8s bs)) (hn:0 < n):Img G v bs∧∀ k,blk v=some k→h.next≤k:=by
 obtain ⟨hl,⟨rfl,h0⟩ | ⟨i,rfl,hg,h1,h2⟩⟩:=m
 ·omega
 ·have:n=bs.length:=by simpa [u8s] using hl.symm
  subst this
  exact ⟨⟨i,_,rfl,.inl rfl,h2,hg⟩,fun k hk=>by simp [blk] at hk;omega⟩
theorem zx3 {h G:Heap} {v:CV} {n:Nat} {l:List CV} (m:Mine 1 h G v n l) (hn:0 < n):∃ i,v = .sl i 0 n (.dy 1):=by
 obtain ⟨hl,⟨rfl,h0⟩ | ⟨i,rfl,hg,h1,h2⟩⟩:=m
 ·omega
 ·exact ⟨i,rfl⟩
section
variable {N d:Nat} {h:Heap}
theorem zul {v:CV} {bs:List (BitVec 8)} (I:Img h v bs) (hl:0 < bs.length) (hb:bs.length≤1000):∃ w h',evCallO OS table N (d + 1) 28 [.c v] h=some (.c w,h')∧Img h' w bs∧Ext h h'∧(∀ k,blk w=some k→h.next≤k)∧∃ i,w = .sl i 0 bs.length (.dy 1):=by
 obtain ⟨b,c,rfl,hc,hlt,hg⟩:=I
 have e1:=(Ext.refl h).new (.cells [])
 have g0:Grow h (h.new (.cells [])) (.sl h.next 0 0 (.ex 0)) 0 []:=.inr ⟨rfl,rfl,h.next,rfl,zb8,Nat.le_refl _,Nat.lt_succ_self _⟩
 have hg1:(h.new (.cells [])).get b=some (.cells (u8s bs)):=(zdd hlt).trans hg
 have s0:source (h.new (.cells [])) 1 (.c (.sl b 0 bs.length c))=some (bs.length,u8s bs):=zg6 hg1 (by simp [u8s])
 obtain ⟨w,h',a,g,e,n1,k1,y1⟩:=zky g0 e1 s0 (by simp [u8s]) (by omega)
 rw [zbp (F:=ir28) rfl rfl rfl]
 unfold ir28
 rw [zbv]
 simp only [zbm,zap,zac,zaq,zat,zal,zax,zbq,zad,zai,zab,zae,zaf,zar,zep,zix,zif,zbb,zbi,zko,zbh,zag,zaw,X.eval,zak,zah,List.map_cons,List.map_nil,List.getD_cons_zero,List.getD_cons_succ,List.getD_nil,List.set_cons_zero,List.set_cons_succ,zf1,cond_false,zb4,zb7,zeros,Bool.not_false,a,zbu,RV.eval]
 rcases g with m | ⟨h0,_⟩
 ·rw [List.nil_append] at m
  obtain ⟨I',y⟩:=zqh m (by omega)
  obtain ⟨i,hi⟩:=zx3 m (by omega)
  exact ⟨w,h',rfl,I',e,y,i,by rw [hi,Nat.zero_add]⟩
 ·omega
theorem zum {loc vals:List AV} {h:Heap}:za2 loc (.c .nils :: vals) h (.cap (.val 0))=some (.c (.int .i64 0)):=rfl
theorem zy8 {call:Nat→List AV→Heap→Option (AV × Heap)} {loc vals:List AV} {h:Heap} {x:X}:zdg loc vals call h (.cap x)=zew h (za2 loc vals h (.cap x)):=rfl
theorem zx4 {call:Nat→List AV→Heap→Option (AV × Heap)} {loc vals:List AV} {h:Heap} {sz:Nat} {z:List CV} {x y:X}:zdg loc vals call h (.appz sz z x y)=zh9 h sz z (x.eval loc vals) (y.eval loc vals):=rfl
theorem zx5 {n:Nat} (hn:0 < n) (hb:n≤1000) (h:Heap):evCallO OS table N (d + 1) 123 [.c .nils,.c (.int .i64 (n:Int))] h=some (.c (.sl h.next 0 0 (.dy 1)),h.new (.cells (zeros n [.int .u8 0]))):=by
 have v1:decide ((n:Int) < 0)=false:=decide_eq_false (by omega)
 have v2:IntKind.i64.wrap ((n:Int) - 0)=(n:Int):=by rw [zgf (by omega) (by omega)];omega
 have v3:decide ((n:Int) > 0)=true:=decide_eq_true (by omega)
 have w0:IntKind.i64.wrap (0 - 0)=0:=rfl
 obtain ⟨k,rfl⟩ : ∃ k,n=k + 1:=⟨n - 1,by omega⟩
 have a1:zh9 h 1 [.int .u8 0] (.c .nils) (.c (.int .i64 ((k + 1:Nat):Int)))=some (.c (.sl h.next 0 (k + 1) (.dy 1)),h.new (.cells (zeros (k + 1) [.int .u8 0]))):=by
  have b1:Nat.ble (k + 1) 1048576=true:=Nat.ble_eq_true_of_le (by omega)
  show (bif Nat.ble (k + 1) 1048576 then some (AV.c (.sl h.next 0 (k + 1) (.dy 1)),h.new (.cells (zeros (k + 1) [.int .u8 0]))) else none)=_
  rw [b1];rfl
 have s1:∀ loc vals H y,za2 loc (.c (.int .i64 0) :: y :: .c .nils :: vals) H (.slice 1 (.val 2) none (some (.val 0)) none)=some (.c .nils):=fun _ _ _ _=>rfl
 have s2:∀ loc vals H,za2 loc (.c (.int .i64 0) :: .c .nils :: .c (.sl h.next 0 (k + 1) (.dy 1)) :: vals) H (.slice 1 (.val 2) none (some (.val 0)) none)=some (.c (.sl h.next 0 0 (.dy 1))):=fun _ _ _=>rfl
 rw [zbp (F:=ir123) rfl rfl rfl]
 unfold ir123
 rw [zbv]
 simp only [zbm,zap,zac,zaq,zat,zao,zal,zax,zbq,zad,zai,zab,zae,zaf,zar,zav,zbc,zjb,zbb,zbi,za6,zag,X.eval,zak,zah,List.map_cons,List.map_nil,List.getD_cons_zero,List.getD_cons_succ,List.getD_nil,List.set_cons_zero,List.set_cons_succ,zaz,zan,zaa,zaj,intArith,shift,cond_true,cond_false,BEq.rfl,zeros,List.nil_append,List.cons_append,Int.reduceLT,decide_false,v1,zy8,zum,zt3,w0,v2,v3,s1,zx4,a1,s2,zbu,RV.eval]
theorem zo8 {u v:CV} {as' bs:List (BitVec 8)} {q:Nat} (hq:h.get q=some (.cells [u,v])) (hql:q < h.next) (ha:Bytes h u as') (hb:Bytes h v bs) (h1:0 < as'.length) (h2:0 < bs.length) (h3:as'.length + bs.length≤1000) (hN:10≤N) :
  ∃ w h',evCallO OS table N (d + 2) 83 [.c (.sl q 0 2 (.ex 2))] h=some (.c w,h')∧Img h' w (as'++bs)∧Ext h h'∧∀ k,blk w=some k→h.next≤k:=by
 have r0:h.read q 0 1=some [u]:=zam hq rfl
 have r1:h.read q 1 1=some [v]:=zam hq rfl
 have lu:∀ loc vals H,za2 loc (.c u :: vals) H (.len .sl (.val 0))=some (.c (.int .i64 (as'.length:Int))):=fun _ _ _=>ha.len rfl
 have lv:∀ loc vals H,za2 loc (.c v :: vals) H (.len .sl (.val 0))=some (.c (.int .i64 (bs.length:Int))):=fun _ _ _=>hb.len rfl
 have z1:IntKind.i64.wrap (0 + (as'.length:Int))=(as'.length:Int):=by rw [zgf (by omega) (by omega)];omega
 have z2:IntKind.i64.wrap ((as'.length:Int) + (bs.length:Int))=((as'.length + bs.length:Nat):Int):=by rw [zgf (by omega) (by omega)];omega
 have y1:decide ((as'.length:Int) < 0)=false:=decide_eq_false (by omega)
 have y2:decide (((as'.length + bs.length:Nat):Int) < 0)=false:=decide_eq_false (by omega)
 have b0:Nat.blt 0 2=true:=rfl
 have b1:Nat.blt 1 2=true:=rfl
 have c1:IntKind.i64.wrap (0 + 1)=1:=rfl
 have c2:IntKind.i64.wrap (1 + 1)=2:=rfl
 have L1:∀ loc,zb3 ir83_k1 loc=[.c (.sl q 0 2 (.ex 2)),.junk,.c (.int .i64 0),.junk,.junk,.junk,.c (.sl q 0 2 (.ex 2)),.c (.int .i64 2),.c (.int .i64 0),.junk,.junk,.junk,.junk,.junk,.junk] →
   ∃ r,zc5 (evCallO OS table N (d + 1)) N ir83_k1 ir83_l1 N loc h=some r∧∃ a1 a3 a4 a5 a6 a7 a8 a9 a10 a11 a12 a13 a14,r=(.exit 0,[.c (.sl q 0 2 (.ex 2)),a1,.c (.int .i64 ((as'.length + bs.length:Nat):Int)),a3,a4,a5,a6,a7,a8,a9,a10,a11,a12,a13,a14],h):=by
  intro loc hloc
  refine zde (n:=2) (fun k loc G=>G=h∧loc=[.c (.sl q 0 2 (.ex 2)),.junk,.c (.int .i64 (match k with | 0=>0 | 1=>(as'.length:Int) | _=>((as'.length + bs.length:Nat):Int))),.junk,.junk,.junk,.c (.sl q 0 2 (.ex 2)),.c (.int .i64 2),.c (.int .i64 (match k with | 0=>0 | 1=>1 | _=>2)),.junk,.junk,.junk,.junk,.junk,.junk]) _ ?_ ⟨rfl,hloc⟩ (by omega)
  rintro k loc G hk ⟨rfl,rfl⟩
  unfold ir83_l1
  match k,hk with
  | 0,_ =>
   left
   simp only [zap,zac,zaq,zat,zao,zal,zau,zay,zax,zad,zai,zab,zae,zaf,zar,zav,zbc,za3,zbf,za6,zag,X.eval,zak,zah,List.getD_cons_zero,List.getD_cons_succ,List.set_cons_zero,List.set_cons_succ,zaz,zan,zaa,zaj,intArith,shift,cond_true,cond_false,BEq.rfl,AV.ofCells,Nat.zero_add,Nat.add_zero,Int.reduceLT,decide_true,decide_false,zbk,za9,AV.ofCells,zls,b0,r0,lu,z1,y1,c1,Nat.mul_one]
   exact ⟨by omega,_,_,rfl,rfl,rfl⟩
  | 1,_ =>
   left
   simp only [zap,zac,zaq,zat,zao,zal,zau,zay,zax,zad,zai,zab,zae,zaf,zar,zav,zbc,za3,zbf,za6,zag,X.eval,zak,zah,List.getD_cons_zero,List.getD_cons_succ,List.set_cons_zero,List.set_cons_succ,zaz,zan,zaa,zaj,intArith,shift,cond_true,cond_false,BEq.rfl,AV.ofCells,Nat.zero_add,Nat.reduceAdd,Int.reduceLT,decide_true,decide_false,zbk,za9,AV.ofCells,zt4,b1,r1,lv,z2,y2,c2,Nat.mul_one]
   exact ⟨by omega,_,_,rfl,rfl,rfl⟩
  | 2,_ =>
   right
   simp only [zap,zac,zck,zaq,zat,zal,zc2,zad,zai,zab,zae,zaf,zav,za6,zag,X.eval,zah,List.getD_cons_zero,List.getD_cons_succ,List.set_cons_zero,List.set_cons_succ,zaz,zan,zaa,zaj,intArith,shift,cond_true,cond_false,BEq.rfl,Int.reduceLT,decide_false]
   exact ⟨_,rfl,by simp,_,_,_,_,_,_,_,_,_,_,_,_,_,rfl⟩
 obtain ⟨r,⟨a1,a3,a4,a5,a6,a7,a8,a9,a10,a11,a12,a13,a14,rfl⟩,hr1⟩:=zdm L1 rfl
 have e0:=(Ext.refl h).new (.cells (zeros (as'.length + bs.length) [.int .u8 0]))
 have gr:=zx5 (N:=N) (d:=d) (n:=as'.length + bs.length) (by omega) h3 h
 generalize hH:h.new (.cells (zeros (as'.length + bs.length) [.int .u8 0]))=H0 at e0 gr
 have gz:H0.get h.next=some (.cells (zeros (as'.length + bs.length) [.int .u8 0])):=by rw [← hH];exact zb8
 have n0:H0.next=h.next + 1:=by rw [← hH];rfl
 have s1:=(ha.ext e0).source
 obtain ⟨m,hm⟩ : ∃ m,as'.length=m + 1:=⟨as'.length - 1,by omega⟩
 have ap1:zed H0 1 (.c (.sl h.next 0 0 (.dy 1))) (.c u)=some (.c (.sl H0.next 0 as'.length (.dy 1)),(H0.kill h.next).new (.cells (u8s as'))):=by
  unfold zed
  rw [s1]
  have q1:Nat.ble (m + 1) 1073741824=true:=Nat.ble_eq_true_of_le (by omega)
  simp only [hm,q1,gz,cond_true,beq_self_eq_true,Nat.zero_mul,Nat.zero_add,List.drop_zero,List.take_zero,List.nil_append,Bool.true_and]
  rw [show Nat.ble 0 (zeros (m + 1 + bs.length) [CV.int IntKind.u8 0]).length=true from Nat.ble_eq_true_of_le (Nat.zero_le _)]
  simp only [cond_true]
 have e1:Ext h ((H0.kill h.next).new (.cells (u8s as'))):=(e0.kill (Nat.le_refl _)).new _
 have mi:Mine 1 h ((H0.kill h.next).new (.cells (u8s as'))) (.sl H0.next 0 as'.length (.dy 1)) as'.length (u8s as'):=⟨by simp [u8s],.inr ⟨H0.next,rfl,zb8,by omega,Nat.lt_succ_self _⟩⟩
 generalize (H0.kill h.next).new (.cells (u8s as'))=H1 at ap1 e1 mi
 obtain ⟨m2,hm2⟩ : ∃ m,bs.length=m + 1:=⟨bs.length - 1,by omega⟩
 have s2:=(hb.ext e1).source
 rw [hm2] at s2
 obtain ⟨H2,ap2,mi2,n2,k2⟩:=zjg mi e1.1 s2 (by simp [u8s,hm2]) (by omega)
 have e2:Ext h H2:=⟨by have:=e1.1;omega,fun k hk=>(k2 k (Nat.lt_of_lt_of_le hk e1.1) (fun hb=>by have:=mi.young k hb;omega)).trans (e1.2 k hk)⟩
 have q0:H0.read q 0 1=some [u]:=(e0.read hql).trans r0
 have q1:H1.read q 1 1=some [v]:=(e1.read hql).trans r1
 have L0:∀ loc,zb3 ir83_k0 loc=[.junk,.junk,.junk,.junk,.c (.sl h.next 0 0 (.dy 1)),.junk,.junk,.junk,.junk,.junk,.junk,.c (.sl q 0 2 (.ex 2)),.c (.int .i64 2),.c (.int .i64 0),.junk] →
   ∃ r,zc5 (evCallO OS table N (d + 1)) N ir83_k0 ir83_l0 N loc H0=some r∧∃ a0 a1 a2 a3 l',r=(.exit 2,a0 :: a1 :: a2 :: a3 :: .c (.sl H1.next 0 (as'.length + (m2 + 1)) (.dy 1)) :: l',H2):=by
  intro loc hloc
  refine zde (n:=2) (fun k loc G=>G=(match k with | 0=>H0 | 1=>H1 | _=>H2)∧loc=[.junk,.junk,.junk,.junk,.c (match k with | 0=>.sl h.next 0 0 (.dy 1) | 1=>.sl H0.next 0 as'.length (.dy 1) | _=>.sl H1.next 0 (as'.length + (m2 + 1)) (.dy 1)),.junk,.junk,.junk,.junk,.junk,.junk,.c (.sl q 0 2 (.ex 2)),.c (.int .i64 2),.c (.int .i64 (match k with | 0=>0 | 1=>1 | _=>2)),.junk]) _ ?_ ⟨rfl,hloc⟩ (by omega)
  rintro k loc G hk ⟨rfl,rfl⟩
  unfold ir83_l0
  match k,hk with
  | 0,_ =>
   left
   simp only [zap,zac,zaq,zat,zao,zau,zay,zax,zad,zai,zab,zae,zaf,zar,zav,za3,zbf,zif,za6,zag,X.eval,zak,zah,List.getD_cons_zero,List.getD_cons_succ,List.set_cons_zero,List.set_cons_succ,zaz,zan,zaa,zaj,intArith,shift,cond_true,cond_false,BEq.rfl,AV.ofCells,Nat.zero_add,Nat.add_zero,Int.reduceLT,decide_true,decide_false,zbk,za9,AV.ofCells,zls,b0,q0,ap1,c1,Nat.mul_one]
   exact ⟨by omega,_,_,rfl,rfl,rfl⟩
  | 1,_ =>
   left
   simp only [zap,zac,zaq,zat,zao,zau,zay,zax,zad,zai,zab,zae,zaf,zar,zav,za3,zbf,zif,za6,zag,X.eval,zak,zah,List.getD_cons_zero,List.getD_cons_succ,List.set_cons_zero,List.set_cons_succ,zaz,zan,zaa,zaj,intArith,shift,cond_true,cond_false,BEq.rfl,AV.ofCells,Nat.zero_add,Nat.reduceAdd,Int.reduceLT,decide_true,decide_false,zbk,za9,AV.ofCells,zt4,b1,q1,ap2,c2,Nat.mul_one]
   exact ⟨by omega,_,_,rfl,rfl,rfl⟩
  | 2,_ =>
   right
   simp only [zap,zac,zck,zaq,zat,zal,zc2,zad,zai,zab,zae,zaf,zav,za6,zag,X.eval,zah,List.getD_cons_zero,List.getD_cons_succ,List.set_cons_zero,List.set_cons_succ,zaz,zan,zaa,zaj,intArith,shift,cond_true,cond_false,BEq.rfl,Int.reduceLT,decide_false]
   exact ⟨_,rfl,by simp,_,_,_,_,_,rfl⟩
 obtain ⟨r2,⟨p0,p1,p2,p3,l2,rfl⟩,hr0⟩:=zdm L0 rfl
 rw [← zri] at mi2
 obtain ⟨I,y⟩:=zqh mi2 (by omega)
 rw [zbp (F:=ir83) rfl rfl rfl]
 unfold ir83
 rw [zbv]
 simp only [zbm,zap,zac,zaq,zau,zci,zad,zai,zab,zae,zaf,zar,zbc,zag,X.eval,zah,List.map_cons,List.map_nil,List.getD_cons_zero,List.getD_cons_succ,List.getD_nil,List.set_cons_zero,List.set_cons_succ,zb0,Int.cast_ofNat_Int]
 rw [hr1 _ rfl]
 simp only [zap,zac,zaq,zau,zbw,zci,zad,zai,zab,zae,zaf,zar,zbc,zba,za7,zag,X.eval,zak,zah,List.map_cons,List.map_nil,List.getD_cons_zero,List.getD_cons_succ,List.set_cons_zero,List.set_cons_succ,cond_true,BEq.rfl,gr,zb0,Int.cast_ofNat_Int]
 rw [hr0 _ rfl]
 simp only [zap,zac,zaq,zbw,zbq,zad,zai,zab,zae,zaf,zar,zbb,zbi,X.eval,zak,zah,List.getD_cons_zero,List.getD_cons_succ,List.set_cons_zero,List.set_cons_succ,cond_true,BEq.rfl,zbu,RV.eval]
 exact ⟨_,H2,rfl,I,e2,y⟩
end
end Lav
set_option maxRecDepth 100000
set_option linter.unusedSimpArgs false
namespace Lav
open Go (IntKind)
def zgq (bits:List (BitVec 8)) (j:Nat):Nat:=if j / 4 < bits.length then ((bits.getD (j / 4) 0).toNat / 2 ^ (2 * (j % 4))) % 4 else 0
def zqi (what:Nat) (new old:List (BitVec 8)):List (BitVec 8):=match what with
 | 0=>old
 | 1=>new
 | 2=>new.take 12++old.drop 12
 | _=>old.take 12++new.drop 12
def zeq (bits:List (BitVec 8)) (ks:List Nat) (wm:Nat→List (BitVec 8)) (im:List (List (BitVec 8))):Nat→List (List (BitVec 8))
 | 0=>im
 | j + 1=>(zeq bits ks wm im j).set (ks.getD j 0) (zqi (zgq bits j) (wm (ks.getD j 0)) ((zeq bits ks wm im j).getD (ks.getD j 0) []))
theorem zi0 (bits:List (BitVec 8)) (ks:List Nat) (wm:Nat→List (BitVec 8)) (im:List (List (BitVec 8))):∀ j,(zeq bits ks wm im j).length=im.length
 | 0=>rfl
 | j + 1=>by
  show (List.set _ _ _).length=_
  rw [List.length_set];exact zi0 bits ks wm im j
theorem zun:∀ r:Fin 4,∀ x:Fin 256,IntKind.i64.wrap (IntKind.u8.wrap ((BitVec.ofInt 8 (((x.val:Nat):Int).fdiv (2 ^ (min (Int.toNat (IntKind.u64.wrap (IntKind.i64.wrap (2 * ((r.val:Nat):Int))))) 8))) &&& BitVec.ofInt 8 3).toNat:Int))=(((x.val / 2 ^ (2 * r.val)) % 4:Nat):Int):=by decide +kernel
def Img24 (h:Heap) (v:CV) (bs:List (BitVec 8)):Prop:=bs.length=24∧Img h v bs
theorem Img24.img {h:Heap} {v:CV} {bs:List (BitVec 8)} (I:Img24 h v bs):Img h v bs:=I.2
theorem Img24.extB {h h':Heap} {v:CV} {bs:List (BitVec 8)} {L:List Nat} (I:Img24 h v bs) (e:ExtB L h h') (hn:∀ k,blk v=some k→k ∉ L):Img24 h' v bs:=⟨I.1,I.2.extB e hn⟩
theorem Img24.ext {h h':Heap} {v:CV} {bs:List (BitVec 8)} (I:Img24 h v bs) (e:Ext h h'):Img24 h' v bs:=⟨I.1,I.2.ext e⟩
theorem zmp {h:Heap} {i n:Nat} {c:Cap} {bs:List (BitVec 8)} (hi:i < h.next) (hg:h.get i=some (.cells (u8s bs))) (hn:n≤bs.length):Bytes h (.sl i 0 n c) (bs.take n):=by
 refine .inr ⟨i,0,c,by rw [List.length_take,Nat.min_eq_left hn],hi,fun j b hj=>?_⟩
 rw [Nat.mul_one]
 refine zam hg ?_
 have hj':bs[j]? = some b:=by
  rw [List.getElem?_take] at hj
  split at hj
  ·exact hj
  ·cases hj
 simp [u8s,hj',u8c]
theorem Img24.front {h:Heap} {v:CV} {bs:List (BitVec 8)} (I:Img24 h v bs):∃ w,Bytes h w (bs.take 12)∧∀ loc vals H,za2 loc (.c v :: vals) H (.slice 1 (.val 0) none (some (.k (.c (.int .i64 12)))) none)=some (.c w):=by
 obtain ⟨hl,b,c,rfl,hc,hb,hg⟩:=I
 rw [hl] at hc ⊢
 rcases hc with rfl | rfl
 ·exact ⟨.sl b 0 12 (.dy 1),zmp hb hg (by omega),fun _ _ _=>rfl⟩
 ·exact ⟨.sl b 0 12 (.ex 24),zmp hb hg (by omega),fun _ _ _=>rfl⟩
theorem Img24.back {h:Heap} {v:CV} {bs:List (BitVec 8)} (I:Img24 h v bs):∃ w,Bytes h w (bs.drop 12)∧∀ loc vals H,za2 loc (.c v :: vals) H (.slice 1 (.val 0) (some (.k (.c (.int .i64 12)))) none none)=some (.c w):=by
 obtain ⟨hl,b,c,rfl,hc,hb,hg⟩:=I
 rw [hl] at hc ⊢
 rcases hc with rfl | rfl
 ·exact ⟨.sl b 12 12 (.dy 1),bytes_at (o:=12) (n:=12) (c:=.dy 1) hb hg (by omega),fun _ _ _=>rfl⟩
 ·exact ⟨.sl b 12 12 (.ex 12),bytes_at (o:=12) (n:=12) (c:=.ex 12) hb hg (by omega),fun _ _ _=>rfl⟩
section
variable {N d:Nat} {h:Heap}
structure DKs (h:Heap) (p pg m n:Nat) (c:Cap) (vs:List CV) (es:List Ent) (down:Bool) (im:List (List (BitVec 8))):Prop where
 a:∃ acc fl,h.get p=some (.cells [.sl pg 0 n c,.mp m,acc,fl,.bool down])
 b:h.get pg=some (.cells vs)
 mm:∃ ck,h.get m=some (.map ck es)
 ap:p < h.next
 bp:pg < h.next
 mp:m < h.next
 vl:vs.length=n
 il:im.length=n
 ii:∀ i,i < n→Img24 h (vs.getD i .nils) (im.getD i [])
 n1:p≠pg
 n2:p≠m
 n3:pg≠m
 s1:∀ i,i < n→∀ k,blk (vs.getD i .nils)=some k→k≠p∧k≠pg∧k≠m
theorem DKs.ext {p pg m n:Nat} {c:Cap} {vs:List CV} {es:List Ent} {down:Bool} {im:List (List (BitVec 8))} {h':Heap} (D:DKs h p pg m n c vs es down im) (e:Ext h h'):DKs h' p pg m n c vs es down im:=by
 obtain ⟨acc,fl,ha⟩:=D.a
 obtain ⟨ck,hm⟩:=D.mm
 exact ⟨⟨acc,fl,e.at_ ha D.ap⟩,e.at_ D.b D.bp,⟨ck,e.at_ hm D.mp⟩,Nat.lt_of_lt_of_le D.ap e.1,Nat.lt_of_lt_of_le D.bp e.1,Nat.lt_of_lt_of_le D.mp e.1,D.vl,D.il,fun i hi=>(D.ii i hi).ext e,D.n1,D.n2,D.n3,D.s1⟩
theorem DKs.page {p pg m n:Nat} {c:Cap} {vs:List CV} {es:List Ent} {down:Bool} {im:List (List (BitVec 8))} (D:DKs h p pg m n c vs es down im) {k:Nat} (hk:k < n) {w:CV} {x:List (BitVec 8)} (I:Img24 h w x) (hw:∀ j,blk w=some j→j≠p∧j≠pg∧j≠m) :
  h.write pg k [w]=some (h.put pg (.cells (vs.set k w)))∧DKs (h.put pg (.cells (vs.set k w))) p pg m n c (vs.set k w) es down (im.set k x)∧ExtB [p,pg,m] h (h.put pg (.cells (vs.set k w))):=by
 have x1:ExtB [p,pg,m] h (h.put pg (.cells (vs.set k w))):=(ExtB.refl _ _).put (.inr (by simp)) _
 have x2:ExtB [pg] h (h.put pg (.cells (vs.set k w))):=(ExtB.refl _ _).put (.inr (by simp)) _
 obtain ⟨acc,fl,ha⟩:=D.a
 obtain ⟨ck,hm⟩:=D.mm
 have gn:∀ {j},j≠pg→(h.put pg (.cells (vs.set k w))).get j=h.get j:=fun hj=>zcl hj
 have zf8:∀ {α:Type} (l:List α) (i:Nat) (z y:α),(l.set k y).getD i z=if i=k∧k < l.length then y else l.getD i z:=fun l i z y=>by
  rw [List.getD_eq_getElem?_getD,List.getD_eq_getElem?_getD,List.getElem?_set]
  by_cases h1:k=i
  ·subst h1
   by_cases h2:k < l.length
   ·simp [h2]
   ·simp [h2]
  ·rw [if_neg h1,if_neg (by omega)]
 refine ⟨by rw [zef D.b (by rw [D.vl];exact hk)],⟨⟨acc,fl,(gn D.n1).trans ha⟩,zc9,⟨ck,(gn D.n3.symm).trans hm⟩,D.ap,D.bp,D.mp,by rw [List.length_set];exact D.vl,by rw [List.length_set];exact D.il,fun i hi=>?_,D.n1,D.n2,D.n3,fun i hi j hj=>?_⟩,x1⟩
 ·rw [zf8,zf8,D.vl,D.il]
  by_cases c1:i=k∧k < n
  ·rw [if_pos c1,if_pos c1]
   exact I.extB x2 (fun j hj=>by have:=hw j hj;simp;exact this.2.1)
  ·rw [if_neg c1,if_neg c1]
   exact (D.ii i hi).extB x2 (fun j hj=>by have:=D.s1 i hi j hj;simp;exact this.2.1)
 ·rw [zf8,D.vl] at hj
  by_cases c1:i=k∧k < n
  ·rw [if_pos c1] at hj;exact hw j hj
  ·rw [if_neg c1] at hj;exact D.s1 i hi j hj
end
end Lav
set_option maxRecDepth 100000
namespace Lav
open Go (IntKind)
theorem zj9 {call:Nat→List AV→Heap→Option (AV × Heap)} {loc vals:List AV} {h:Heap} {z:CV} {ok:Bool} {x y:X}:zdg loc vals call h (.mget z ok x y)=zew h (za2 loc vals h (.mget z ok x y)):=rfl
theorem zly {loc vals:List AV} {h:Heap} {z:CV} {x y:X}:za2 loc vals h (.mget z false x y)=(match h.ents (x.eval loc vals),asKey (y.eval loc vals) with
  | some es,some n=>some (zkb z false (ze8 es n))
  | _,_=>none):=rfl
theorem zx6 {call:Nat→List AV→Heap→Option (AV × Heap)} {loc vals:List AV} {h:Heap} {x:X}:zdg loc vals call h (.mclr x)=zfi h (x.eval loc vals) zn1:=rfl
section
variable {N d:Nat} {h:Heap} {p pg m n:Nat} {c:Cap} {vs:List CV} {es:List Ent} {im:List (List (BitVec 8))}
theorem zwf {bv:CV} {bits:List (BitVec 8)} {ks:List Nat} {wm:Nat→List (BitVec 8)} (D:DKs h p pg m n c vs es false im) (hb:Bytes h bv bits)
  (hk:zl2 (es.map (·.1))=ks.map fun k:Nat=>(k:Int)) (hs:(Nat.ble es.length 1000 && zhj (es.map (·.1)))=true) (hn:ks≠[]) (h8:ks.length≤900) (hkn:∀ k∈ks,k < n)
  (hw:∀ k∈ks,∃ e v,ze8 es (k:Int)=some (e,v)∧Img24 h v (wm k)∧∀ j,blk v=some j→j≠p∧j≠pg∧j≠m) (hbl:∀ b,blk bv=some b→b≠p∧b≠pg∧b≠m) (hN:1000≤N) :
  ∃ h' vs',evCallO OS table N (d + 3) 52 [.c (.ptr p 0),.c bv] h=some (.c (.bool true),h')∧DKs h' p pg m n c vs' [] true (zeq bits ks wm im ks.length)∧ExtB [p,pg,m] h h':=by
 obtain ⟨acc,fl,ha⟩:=D.a
 obtain ⟨ck,hm⟩:=D.mm
 have r4:h.read p 4 1=some [.bool false]:=zam ha rfl
 have w4:h.write p 4 [.bool true]=some (h.put p (.cells [.sl pg 0 n c,.mp m,acc,fl,.bool true])):=by
  rw [zef ha (by simp)];rfl
 have xp:ExtB [p] h (h.put p (.cells [.sl pg 0 n c,.mp m,acc,fl,.bool true])):=(ExtB.refl _ _).put (.inr (by simp)) _
 have D0:DKs (h.put p (.cells [.sl pg 0 n c,.mp m,acc,fl,.bool true])) p pg m n c vs es true im :=
  ⟨⟨acc,fl,zc9⟩,(zcl D.n1.symm).trans D.b,⟨ck,(zcl D.n2.symm).trans hm⟩,D.ap,D.bp,D.mp,D.vl,D.il,fun i hi=>(D.ii i hi).extB xp (fun j hj=>by have:=D.s1 i hi j hj;simp;exact this.1),D.n1,D.n2,D.n3,D.s1⟩
 generalize h.put p (.cells [.sl pg 0 n c,.mp m,acc,fl,.bool true])=H0 at w4 xp D0
 obtain ⟨acc0,fl0,ha0⟩:=D0.a
 obtain ⟨ck0,hm0⟩:=D0.mm
 obtain ⟨k0,kr,hks⟩ : ∃ a b,ks=a :: b:=by cases ks with
  | nil=>exact absurd rfl hn
  | cons a b=>exact ⟨a,b,rfl⟩
 have f82:evCallO OS table N (d + 2) 82 [.c (.ptr p 0)] H0=some (.c (.sl H0.next 0 ks.length (.dy 1)),H0.new (.cells (intCells (ks.map fun k:Nat=>(k:Int))))):=by
  show zhe [.c (.ptr p 0)] H0=_
  unfold zhe
  have r1:H0.read p (0 + 1) 1=some [.mp m]:=zam ha0 rfl
  simp only [r1,hm0,hs,cond_true,hk,hks,List.map_cons,List.length_cons,List.length_map]
 have xw:Ext H0 (H0.new (.cells (intCells (ks.map fun k:Nat=>(k:Int))))):=(Ext.refl H0).new _
 have gw:(H0.new (.cells (intCells (ks.map fun k:Nat=>(k:Int))))).get H0.next=some (.cells (intCells (ks.map fun k:Nat=>(k:Int)))):=zb8
 have D1:=D0.ext xw
 have nw:(H0.new (.cells (intCells (ks.map fun k:Nat=>(k:Int))))).next=H0.next + 1:=rfl
 generalize H0.new (.cells (intCells (ks.map fun k:Nat=>(k:Int))))=H1 at f82 xw gw D1 nw
 have xp3:ExtB [p,pg,m] h H1:=(xp.mono (fun j hj=>by simp at hj;simp [hj])).trans (xw.b _)
 have hlt0:h.next≤H0.next:=xp.1
 have L:∀ loc,zb3 ir52_k0 loc=[.c (.ptr p 0),.c bv,.junk,.c (.int .i64 0),.junk,.junk,.junk,.junk,.c (.sl H0.next 0 ks.length (.dy 1)),.c (.int .i64 (ks.length:Int)),.c (.int .i64 0),.junk,.junk,.junk,.junk,.junk,.junk,.junk] →
   ∃ r,zc5 (evCallO OS table N (d + 2)) N ir52_k0 ir52_l0 N loc H1=some r∧∃ a1 a2 l' G vs',r=(.exit 0,.c (.ptr p 0) :: a1 :: a2 :: l',G)∧DKs G p pg m n c vs' es true (zeq bits ks wm im ks.length)∧ExtB [p,pg,m] H1 G:=by
  intro loc hloc
  refine zde (n:=ks.length) (fun k loc G=>∃ vs',DKs G p pg m n c vs' es true (zeq bits ks wm im k)∧ExtB [p,pg,m] H1 G∧loc=[.c (.ptr p 0),.c bv,.junk,.c (.int .i64 (k:Int)),.junk,.junk,.junk,.junk,.c (.sl H0.next 0 ks.length (.dy 1)),.c (.int .i64 (ks.length:Int)),.c (.int .i64 (k:Int)),.junk,.junk,.junk,.junk,.junk,.junk,.junk]) _ ?_ ⟨vs,D1,ExtB.refl _ _,hloc⟩ (by omega)
  rintro k loc G hk' ⟨vs',DG,xg,rfl⟩
  unfold ir52_l0
  by_cases hlt:k < ks.length
  ·left
   have v1:=ze1 hlt
   have v2:=zeb (i:=k) (by omega)
   have m1:Nat.blt k ks.length=true:=zdp hlt
   have xa:ExtB [p,pg,m] h G:=xp3.trans xg
   have rk:G.read H0.next k 1=some [.int .i64 (ks.getD k 0:Int)]:=by
    have gG:G.get H0.next=H1.get H0.next:=xg.2 _ (by omega) (by simp;have:=D.ap;have:=D.bp;have:=D.mp;omega)
    refine zam (gG.trans gw) ?_
    simp [intCells,hlt,List.getD_eq_getElem?_getD]
   have hmem:ks.getD k 0∈ks:=by simp [List.getD_eq_getElem?_getD,hlt]
   have hkn':=hkn _ hmem
   obtain ⟨ee,v,hf,I,hv⟩:=hw _ hmem
   generalize hq:ks.getD k 0=q at *
   have IG:Img24 G v (wm q):=I.extB xa (fun j hj=>by have:=hv j hj;simp;exact this)
   have vq:IntKind.i64.wrap (Int.tdiv (k:Int) 4)=((k / 4:Nat):Int):=by
    have:Int.tdiv (k:Int) 4=((k / 4:Nat):Int):=by rw [Int.tdiv_eq_ediv_of_nonneg (by omega)];omega
    rw [this,zgf (by omega) (by omega)]
   have vr:Int.tmod (k:Int) 4=((k % 4:Nat):Int):=by rw [Int.tmod_eq_emod_of_nonneg (by omega)];omega
   have lb:∀ loc vals H,za2 loc (.c bv :: vals) H (.len .sl (.val 0))=some (.c (.int .i64 (bits.length:Int))):=fun _ _ _=>hb.len rfl
   obtain ⟨ckG,hmG⟩:=DG.mm
   obtain ⟨aG,fG,haG⟩:=DG.a
   have g1:G.read p 1 1=some [.mp m]:=zam haG rfl
   have g0:G.read p 0 1=some [.sl pg 0 n c]:=zam haG rfl
   have gm:G.ents (.c (.mp m))=some es:=by show (match G.get m with | some (.map _ es)=>some es | _=>none)=_;rw [hmG]
   have gv:G.read pg q 1=some [vs'.getD q .nils]:=zam DG.b (by simp [List.getD_eq_getElem?_getD,DG.vl,hkn'])
   have mq:Nat.blt q n=true:=zdp hkn'
   have akq:asKey (.c (.int .i64 (q:Int)))=some (q:Int):=rfl
   have IO:=DG.ii q hkn'
   have so:=DG.s1 q hkn'
   generalize hold:vs'.getD q .nils=vo at *
   have hnop:(zeq bits ks wm im k).set q ((zeq bits ks wm im k).getD q [])=zeq bits ks wm im k:=by
    apply List.ext_getElem?
    intro i
    rw [List.getElem?_set]
    by_cases e:q=i
    ·subst e
     have:q < (zeq bits ks wm im k).length:=by rw [zi0,D.il];exact hkn'
     simp [this,List.getD_eq_getElem?_getD]
    ·rw [if_neg e]
   by_cases c1:k / 4 < bits.length
   rotate_left
   ·have u1:decide (((k / 4:Nat):Int) < (bits.length:Int))=false:=decide_eq_false (by omega)
    have hwf:zgq bits k=0:=by unfold zgq;rw [if_neg c1]
    have hcr:zeq bits ks wm im (k + 1)=zeq bits ks wm im k:=by
     show List.set _ _ _=_
     rw [hwf,hq]
     exact hnop
    simp only [zap,zac,zaq,zat,zao,zal,zau,zbw,zax,zc2,zad,zai,zab,zae,zaf,zar,zav,zbc,za3,zbf,za6,zag,X.eval,zak,zah,List.getD_cons_zero,List.getD_cons_succ,List.set_cons_zero,List.set_cons_succ,zaz,zan,zaa,zaj,intArith,shift,za0,cond_true,cond_false,BEq.rfl,AV.ofCells,Nat.zero_add,Nat.reduceBEq,Int.reduceBEq,Int.reduceLT,decide_false,zbk,za9,AV.ofCells,m1,rk,v1,vq,lb,u1,v2,zdn,zdf,za1,za5,g1,zj9,zly,gm,akq,hf,zkb,Nat.mul_one]
    exact ⟨hlt,_,_,rfl,vs',by rw [hcr];exact DG,xg,rfl⟩
   have u1:decide (((k / 4:Nat):Int) < (bits.length:Int))=true:=decide_eq_true (by omega)
   rcases hb with ⟨_,h0⟩ | ⟨bi,bo,bc,rfl,hbi,hbr⟩
   ·rw [h0] at c1;simp at c1
   have hbx:=hbl bi rfl
   have rb:G.read bi (bo + k / 4) 1=some [.int .u8 ((bits.getD (k / 4) 0).toNat:Int)]:=by
    have h1:=hbr (k / 4) _ (List.getElem?_eq_getElem c1)
    rw [Nat.mul_one] at h1
    have gG:G.get bi=h.get bi:=xa.2 _ hbi (by simp;exact hbx)
    unfold Heap.read at h1 ⊢
    rw [gG,h1]
    simp [List.getD_eq_getElem?_getD,c1]
   have mb:Nat.blt (k / 4) bits.length=true:=zdp c1
   have hwb:=zun ⟨k % 4,by omega⟩ ⟨(bits.getD (k / 4) 0).toNat,(bits.getD (k / 4) 0).isLt⟩
   have hwf:zgq bits k=((bits.getD (k / 4) 0).toNat / 2 ^ (2 * (k % 4))) % 4:=by unfold zgq;rw [if_pos c1]
   have u0:decide (IntKind.u64.wrap (IntKind.i64.wrap (2 * ((k % 4:Nat):Int))) < 0)=false:=by
    have:k % 4=0∨k % 4=1∨k % 4=2∨k % 4=3:=by omega
    rcases this with e | e | e | e<;>rw [e]<;>rfl
   rw [← hwf] at hwb
   replace hwb:IntKind.i64.wrap (IntKind.u8.wrap ((BitVec.ofInt IntKind.u8.bits (((bits.getD (k / 4) 0).toNat:Int).fdiv (2 ^ min (IntKind.u64.wrap (IntKind.i64.wrap (2 * ((k % 4:Nat):Int)))).toNat IntKind.u8.bits)) &&& BitVec.ofInt IntKind.u8.bits 3).toNat:Int))=((zgq bits k:Nat):Int):=hwb
   have hw4:zgq bits k < 4:=by rw [hwf];omega
   have hcr:zeq bits ks wm im (k + 1)=(zeq bits ks wm im k).set q (zqi (zgq bits k) (wm q) ((zeq bits ks wm im k).getD q [])):=by
    show List.set _ _ _=_
    rw [hq]
   generalize zgq bits k=w at *
   have hw:w=0∨w=1∨w=2∨w=3:=by omega
   rcases hw with rfl | rfl | rfl | rfl
   ·rw [Int.ofNat_zero] at hwb
    simp only [zap,zac,zaq,zat,zao,zau,zbw,zax,zc2,zad,zai,zab,zae,zaf,zar,zfe,zav,zbc,za3,zbf,za6,zhd,zag,X.eval,zak,zah,List.getD_cons_zero,List.getD_cons_succ,List.set_cons_zero,List.set_cons_succ,zaz,zan,zaa,zaj,zd8,intArith,shift,za0,cond_true,cond_false,BEq.rfl,AV.ofCells,Nat.zero_add,Nat.reduceBEq,Int.reduceBEq,Int.reduceLT,decide_false,zbk,za9,AV.ofCells,m1,rk,v1,vq,vr,u0,lb,u1,mb,rb,hwb,v2,zdn,zdf,za1,za5,g1,zj9,zly,gm,akq,hf,zkb,za0,Nat.mul_one]
    exact ⟨hlt,_,_,rfl,vs',by rw [hcr];show DKs G p pg m n c vs' es true (List.set _ _ (List.getD _ _ _));rw [hnop];exact DG,xg,rfl⟩
   ·rw [show ((1:Nat):Int)=1 from rfl] at hwb
    obtain ⟨wr,DG2,x2⟩:=DG.page hkn' IG hv
    simp only [zap,zac,zaq,zat,zao,zal,zau,zay,zax,zad,zai,zab,zae,zaf,zar,zfe,zav,zbc,za3,zbf,zbg,za6,zhd,zag,X.eval,zak,zah,List.getD_cons_zero,List.getD_cons_succ,List.set_cons_zero,List.set_cons_succ,zaz,zan,zaa,zaj,zd8,intArith,shift,za0,cond_true,cond_false,BEq.rfl,AV.cells,AV.ofCells,List.length_cons,List.length_nil,Nat.zero_add,Nat.add_zero,Int.reduceBEq,Int.reduceLT,decide_false,zbk,za9,AV.ofCells,m1,rk,v1,vq,vr,u0,lb,u1,mb,rb,hwb,v2,zdn,zdf,za1,za5,g1,g0,zj9,zly,gm,akq,hf,zkb,mq,za0,Nat.mul_one,zbl,wr]
    exact ⟨hlt,_,_,rfl,_,by rw [hcr];exact DG2,xg.trans x2,rfl⟩
   ·rw [show ((2:Nat):Int)=2 from rfl] at hwb
    obtain ⟨wa,Ba,sa⟩:=IG.front
    obtain ⟨wb,Bb,sb⟩:=IO.back
    have xn:Ext G (G.new (.cells [wa,wb])):=(Ext.refl G).new _
    obtain ⟨w,H2,fc,Iw,x2,yw⟩:=zo8 (N:=N) (d:=d) (q:=G.next) (h:=G.new (.cells [wa,wb])) zb8 (Nat.lt_succ_self _) (Ba.ext xn) (Bb.ext xn) (by rw [List.length_take,IG.1];omega) (by rw [List.length_drop,IO.1];omega) (by rw [List.length_take,List.length_drop,IG.1,IO.1];omega) (by omega)
    have hsk:∀ i o n,(G.skip 1).read i o n=G.read i o n:=fun _ _ _=>rfl
    have hw':(G.skip 1).put G.next (.cells [wa,wb])=G.new (.cells [wa,wb]):=rfl
    have D3:=DG.ext (xn.trans x2)
    have z0:H2.read p 0 1=some [.sl pg 0 n c]:=((xn.trans x2).read DG.ap).trans g0
    obtain ⟨wr,DG2,x3⟩:=D3.page hkn' (w:=w) (x:=(wm q).take 12++((zeq bits ks wm im k).getD q []).drop 12) ⟨by rw [List.length_append,List.length_take,List.length_drop,IG.1,IO.1];rfl,Iw⟩ (fun j hj=>by have:=yw j hj;have:=DG.ap;have:=DG.bp;have:=DG.mp;simp only [Heap.new] at *;omega)
    simp only [zap,zac,zaq,zat,zao,zal,zau,zay,zax,zad,zai,zab,zae,zaf,zar,zfe,zav,zbc,za3,zbf,za7,za6,zhd,zbh,zag,X.eval,zak,zah,List.map_cons,List.map_nil,List.getD_cons_zero,List.getD_cons_succ,List.set_cons_zero,List.set_cons_succ,zaz,zan,zaa,zaj,zd8,intArith,shift,za0,cond_true,cond_false,BEq.rfl,zb4,zb7,AV.cells,AV.ofCells,List.length_cons,List.length_nil,zeros,zdo,setMany,List.nil_append,List.cons_append,Nat.ble,Nat.zero_add,Nat.add_zero,Nat.reduceAdd,Nat.reduceBEq,Int.reduceBEq,Bool.and_true,Int.reduceLT,decide_false,zb5,zby,zbs,zbr,zbt,zd2,zco,zcn,zcq,zl1,zgk,zg4,zb1,zb2,zga,zfv,ze9,zex,zfw,zfx,zfy,zfa,zgb,zfz,zgc,zb6,zcc,List.reverse_cons,List.reverse_nil,zpe,zce,zgy,zbk,za9,AV.ofCells,m1,rk,v1,vq,vr,u0,lb,u1,mb,rb,hwb,v2,zdn,zdf,za1,za5,g1,g0,gv,zj9,zly,gm,akq,hf,zkb,mq,za0,Nat.mul_one,sa,sb,zhx,hsk,hw',fc,z0,zbl,wr]
    exact ⟨hlt,_,_,rfl,_,by rw [hcr];exact DG2,xg.trans (((xn.trans x2).b _).trans x3),rfl⟩
   ·rw [show ((3:Nat):Int)=3 from rfl] at hwb
    obtain ⟨wa,Ba,sa⟩:=IO.front
    obtain ⟨wb,Bb,sb⟩:=IG.back
    have xn:Ext G (G.new (.cells [wa,wb])):=(Ext.refl G).new _
    obtain ⟨w,H2,fc,Iw,x2,yw⟩:=zo8 (N:=N) (d:=d) (q:=G.next) (h:=G.new (.cells [wa,wb])) zb8 (Nat.lt_succ_self _) (Ba.ext xn) (Bb.ext xn) (by rw [List.length_take,IO.1];omega) (by rw [List.length_drop,IG.1];omega) (by rw [List.length_take,List.length_drop,IO.1,IG.1];omega) (by omega)
    have hsk:∀ i o n,(G.skip 1).read i o n=G.read i o n:=fun _ _ _=>rfl
    have hw':(G.skip 1).put G.next (.cells [wa,wb])=G.new (.cells [wa,wb]):=rfl
    have D3:=DG.ext (xn.trans x2)
    have z0:H2.read p 0 1=some [.sl pg 0 n c]:=((xn.trans x2).read DG.ap).trans g0
    obtain ⟨wr,DG2,x3⟩:=D3.page hkn' (w:=w) (x:=((zeq bits ks wm im k).getD q []).take 12++(wm q).drop 12) ⟨by rw [List.length_append,List.length_take,List.length_drop,IO.1,IG.1];rfl,Iw⟩ (fun j hj=>by have:=yw j hj;have:=DG.ap;have:=DG.bp;have:=DG.mp;simp only [Heap.new] at *;omega)
    simp only [zap,zac,zaq,zat,zao,zal,zau,zay,zax,zad,zai,zab,zae,zaf,zar,zfe,zav,zbc,za3,zbf,za7,za6,zhd,zbh,zag,X.eval,zak,zah,List.map_cons,List.map_nil,List.getD_cons_zero,List.getD_cons_succ,List.set_cons_zero,List.set_cons_succ,zaz,zan,zaa,zaj,zd8,intArith,shift,za0,cond_true,cond_false,BEq.rfl,zb4,zb7,AV.cells,AV.ofCells,List.length_cons,List.length_nil,zeros,zdo,setMany,List.nil_append,List.cons_append,Nat.ble,Nat.zero_add,Nat.add_zero,Nat.reduceAdd,Nat.reduceBEq,Int.reduceBEq,Bool.and_true,Int.reduceLT,decide_false,zb5,zby,zbs,zbr,zbt,zd2,zco,zcn,zcq,zl1,zgk,zg4,zb1,zb2,zga,zfv,ze9,zex,zfw,zfx,zfy,zfa,zgb,zfz,zgc,zb6,zcc,List.reverse_cons,List.reverse_nil,zpe,zce,zgy,zbk,za9,AV.ofCells,m1,rk,v1,vq,vr,u0,lb,u1,mb,rb,hwb,v2,zdn,zdf,za1,za5,g1,g0,gv,zj9,zly,gm,akq,hf,zkb,mq,za0,Nat.mul_one,sa,sb,zhx,hsk,hw',fc,z0,zbl,wr]
    exact ⟨hlt,_,_,rfl,_,by rw [hcr];exact DG2,xg.trans (((xn.trans x2).b _).trans x3),rfl⟩
  ·right
   have:k=ks.length:=by omega
   subst this
   have v1:decide ((ks.length:Int) < (ks.length:Int))=false:=zfj (Nat.le_refl _)
   simp only [zap,zac,zck,zaq,zat,zal,zc2,zad,zai,zab,zae,zaf,zav,za6,zag,X.eval,zah,List.getD_cons_zero,List.getD_cons_succ,List.set_cons_zero,List.set_cons_succ,zaz,zan,zaa,zaj,intArith,shift,cond_true,cond_false,BEq.rfl,v1]
   exact ⟨_,rfl,by simp,_,_,_,_,_,rfl,DG,xg⟩
 obtain ⟨r,⟨a1,a2,l',G,vs',rfl,DG,xg⟩,hr⟩:=zdm L rfl
 obtain ⟨ckG,hmG⟩:=DG.mm
 obtain ⟨aG,fG,haG⟩:=DG.a
 have g1:G.read p 1 1=some [.mp m]:=zam haG rfl
 have mc:zfi G (.c (.mp m)) zn1=some (.tup [],G.put m (.map ckG [])):=by unfold zfi;simp only [hmG];rfl
 have xm:ExtB [m] G (G.put m (.map ckG [])):=(ExtB.refl _ _).put (.inr (by simp)) _
 have gn:∀ {j},j≠m→(G.put m (.map ckG [])).get j=G.get j:=fun hj=>zcl hj
 have DF:DKs (G.put m (.map ckG [])) p pg m n c vs' [] true (zeq bits ks wm im ks.length) :=
  ⟨⟨aG,fG,(gn D.n2).trans haG⟩,(gn D.n3).trans DG.b,⟨ckG,zc9⟩,DG.ap,DG.bp,DG.mp,DG.vl,DG.il,fun i hi=>(DG.ii i hi).extB xm (fun j hj=>by have:=DG.s1 i hi j hj;simp;exact this.2.2),D.n1,D.n2,D.n3,DG.s1⟩
 have xmm:ExtB [p,pg,m] G (G.put m (.map ckG [])):=(ExtB.refl _ _).put (.inr (by simp)) _
 rw [zbp (F:=ir52) rfl rfl rfl]
 unfold ir52
 rw [zbv]
 simp only [zbm,zap,zac,zaq,zat,zal,zau,zci,zax,zad,zai,zab,zas,zae,zaf,zar,za8,zix,zbc,za3,zba,zbg,za7,zbe,zko,zag,X.eval,zak,zah,List.map_cons,List.map_nil,List.getD_cons_zero,List.getD_cons_succ,List.getD_nil,List.set_cons_zero,List.set_cons_succ,zf1,cond_true,cond_false,BEq.rfl,AV.cells,AV.ofCells,List.length_cons,List.length_nil,Nat.zero_add,Bool.not_false,zdn,zdf,za1,za5,za9,AV.ofCells,r4,zbl,w4,f82,zb0]
 rw [hr _ rfl]
 simp only [zap,zac,zaq,zbw,zbq,zad,zai,zab,zae,zaf,zar,za3,zbb,zbi,zag,X.eval,zak,zah,List.getD_cons_zero,List.getD_cons_succ,List.set_cons_zero,List.set_cons_succ,cond_true,BEq.rfl,AV.ofCells,Nat.zero_add,zdn,zdf,za1,za5,za9,AV.ofCells,g1,zx6,mc,zbu,RV.eval]
 exact ⟨_,vs',rfl,DF,xp3.trans (xg.trans xmm)⟩
end
end Lav
set_option maxRecDepth 100000
namespace Lav
open Go (IntKind)
section
variable {N d:Nat} {h:Heap} {p pg m n:Nat} {c:Cap} {vs:List CV} {es:List Ent} {im:List (List (BitVec 8))} {down:Bool}
theorem zwg (D:DKs h p pg m n c vs es down im) (h48:n≤48) (hN:100≤N) :
  ∃ y h',evCallO OS table N (d + 2) 32 [.c (.ptr p 0)] h=some (.c y,h')∧Imgs h' y im∧Ext h h':=by
 obtain ⟨acc,fl,ha⟩:=D.a
 have r0:h.read p 0 1=some [.sl pg 0 n c]:=zam ha rfl
 have L:∀ loc,zb3 ir32_k0 loc=[.junk,.junk,.c .nils,.junk,.junk,.c (.sl pg 0 n c),.c (.int .i64 (n:Int)),.c (.int .i64 0),.junk] →
   ∃ r,zc5 (evCallO OS table N (d + 1)) N ir32_k0 ir32_l0 N loc h=some r∧∃ a0 a1 x l' G ws,r=(.exit 0,a0 :: a1 :: .c x :: l',G)∧Mine 1 h G x n ws∧(∀ i,i < n→Img24 G (ws.getD i .nils) (im.getD i [])∧∃ j,ws.getD i .nils = .sl j 0 24 (.dy 1))∧Ext h G:=by
  intro loc hloc
  refine zde (n:=n) (fun k loc G=>∃ x ws,Mine 1 h G x k ws∧(∀ i,i < k→Img24 G (ws.getD i .nils) (im.getD i [])∧(∀ j,blk (ws.getD i .nils)=some j→blk x≠some j)∧∃ j,ws.getD i .nils = .sl j 0 24 (.dy 1))∧Ext h G∧loc=[.junk,.junk,.c x,.junk,.junk,.c (.sl pg 0 n c),.c (.int .i64 (n:Int)),.c (.int .i64 (k:Int)),.junk]) _ ?_ ⟨.nils,[],Mine.nil,fun i hi=>absurd hi (Nat.not_lt_zero i),Ext.refl _,hloc⟩ (by omega)
  rintro k loc G hk ⟨x,ws,mi,hB,xg,rfl⟩
  unfold ir32_l0
  by_cases hlt:k < n
  ·left
   have v1:=ze1 hlt
   have v2:=zeb (i:=k) (by omega)
   have m1:Nat.blt k n=true:=zdp hlt
   have DG:=D.ext xg
   have gv:G.read pg k 1=some [vs.getD k .nils]:=zam DG.b (by simp [List.getD_eq_getElem?_getD,DG.vl,hlt])
   have I:=DG.ii k hlt
   obtain ⟨w,H1,f1,I1,x1,y1,iw,hiw⟩:=zul (N:=N) (d:=d) I.img (by rw [I.1];omega) (by rw [I.1];omega)
   have xb:Ext H1 (H1.new (.cells [w])):=(Ext.refl H1).new _
   have m2:=(mi.keep x1.1 fun k hk _=>x1.2 k hk).new (.cells [w])
   have hle:h.next≤(H1.new (.cells [w])).next:=(xg.trans (x1.trans xb)).1
   obtain ⟨G1,a1,m3,n1,k1⟩:=zjg (m:=0) m2 hle (zg6 (n:=1) (c:=.ex 1) zb8 rfl) rfl (by omega)
   have hw:∀ i o n,(G.skip 0).read i o n=G.read i o n:=fun _ _ _=>rfl
   have wl:ws.length=k:=by simpa using mi.1
   have xk:ExtB (blk x).toList (H1.new (.cells [w])) G1:=⟨by omega,fun j hj hn=>k1 j hj (fun e=>hn (by rw [e];simp))⟩
   have xa:Ext h G1:=⟨by have:=xk.1;omega,fun j hj=>by
    rw [k1 j (Nat.lt_of_lt_of_le hj hle) (fun e=>by have:=m2.young j e;omega)]
    exact (xg.trans (x1.trans xb)).2 j hj⟩
   have hN1:G1.next=(H1.new (.cells [w])).next + 1:=n1
   have inv:∀ i,i < k + 1→Img24 G1 ((ws++[w]).getD i .nils) (im.getD i [])∧(∀ j,blk ((ws++[w]).getD i .nils)=some j→blk (CV.sl (H1.new (.cells [w])).next 0 (k + (0 + 1)) (.dy 1))≠some j)∧∃ j,(ws++[w]).getD i .nils = .sl j 0 24 (.dy 1):=by
    intro i hi
    have lt_of:∀ {H:Heap} {v:CV} {b:List (BitVec 8)},Img24 H v b→∀ j,blk v=some j→j < H.next:=fun I j hj=>by
     obtain ⟨_,b,c,rfl,_,hb,_⟩:=I
     simp only [blk,Option.some.injEq] at hj;omega
    by_cases c1:i < k
    ·have e:(ws++[w]).getD i .nils=ws.getD i .nils:=by rw [List.getD_eq_getElem?_getD,List.getD_eq_getElem?_getD,List.getElem?_append_left (by omega)]
     rw [e]
     obtain ⟨I0,ne,dy⟩:=hB i c1
     have I2:=I0.ext (x1.trans xb)
     refine ⟨I2.extB xk (fun j hj hm=>ne j hj (by simpa using hm)),fun j hj he=>?_,dy⟩
     have:=lt_of I2 j hj
     simp only [blk,Option.some.injEq] at he;omega
    ·have e:i=k:=by omega
     subst e
     have e:(ws++[w]).getD i .nils=w:=by rw [List.getD_eq_getElem?_getD,← wl,List.getElem?_concat_length];rfl
     rw [e]
     have I2:Img24 (H1.new (.cells [w])) w (im.getD i []):=Img24.ext ⟨I.1,I1⟩ xb
     refine ⟨I2.extB xk (fun j hj hm=>?_),fun j hj he=>?_,iw,by rw [hiw,I.1]⟩
     ·have q1:=y1 j hj
      have hm':blk x=some j:=by simpa using hm
      obtain ⟨_,⟨rfl,_⟩ | ⟨b,rfl,_,_,hb⟩⟩:=mi
      ·cases hm'
      ·simp only [blk,Option.some.injEq] at hm';omega
     ·have:=lt_of I2 j hj
      simp only [blk,Option.some.injEq] at he;omega
   simp only [zap,zac,zaq,zat,zao,zau,zay,zax,zad,zai,zab,zae,zaf,zar,zav,zep,za3,zbf,zba,zif,za7,za6,zbh,zag,zaw,X.eval,zak,zah,List.map_cons,List.map_nil,List.getD_cons_zero,List.getD_cons_succ,List.set_cons_zero,List.set_cons_succ,zaz,zan,zaa,zaj,intArith,shift,za0,cond_true,cond_false,BEq.rfl,zb4,zb7,AV.cells,AV.ofCells,List.length_cons,List.length_nil,zeros,zdo,setMany,List.nil_append,List.cons_append,Nat.ble,Nat.zero_add,Int.reduceLT,decide_false,v1,zbk,za9,AV.ofCells,m1,gv,f1,a1,v2,Nat.mul_one]
   exact ⟨hlt,_,_,rfl,_,_,m3,inv,xa,rfl⟩
  ·right
   have:k=n:=by omega
   subst this
   have v1:decide ((k:Int) < (k:Int))=false:=zfj (Nat.le_refl _)
   simp only [zap,zac,zck,zaq,zat,zal,zc2,zad,zai,zab,zae,zaf,zav,za6,zag,X.eval,zah,List.getD_cons_zero,List.getD_cons_succ,List.set_cons_zero,List.set_cons_succ,zaz,zan,zaa,zaj,intArith,shift,cond_true,cond_false,BEq.rfl,v1]
   exact ⟨_,rfl,by simp,_,_,_,_,_,_,rfl,mi,fun i hi=>⟨(hB i hi).1,(hB i hi).2.2⟩,xg⟩
 obtain ⟨r,⟨a0,a1,x,l',G,ws,rfl,mi,hB,xg⟩,hr⟩:=zdm L rfl
 rw [zbp (F:=ir32) rfl rfl rfl]
 unfold ir32
 rw [zbv]
 simp only [zbm,zap,zac,zaq,zat,zal,zau,zci,zax,zad,zai,zab,zae,zaf,zar,zix,zbc,za3,zko,zag,X.eval,zak,zah,List.map_cons,List.map_nil,List.getD_cons_zero,List.getD_cons_succ,List.getD_nil,List.set_cons_zero,List.set_cons_succ,zf1,cond_false,AV.ofCells,Nat.add_zero,Bool.not_false,zdn,zdf,za1,za5,za9,AV.ofCells,r0,zb0]
 rw [hr _ rfl]
 simp only [zap,zac,zaq,zbw,zbq,zad,zai,zab,zae,zaf,zar,zbb,zbi,X.eval,zak,zah,List.getD_cons_zero,List.getD_cons_succ,List.set_cons_zero,List.set_cons_succ,cond_true,BEq.rfl,zbu,RV.eval]
 refine ⟨x,G,rfl,?_,xg⟩
 obtain ⟨hlen,⟨rfl,h0⟩ | ⟨i,rfl,hg,_,hi⟩⟩:=mi
 ·exact .inl ⟨rfl,List.eq_nil_of_length_eq_zero (by rw [D.il];exact h0)⟩
 ·refine .inr ⟨i,.dy 1,by rw [D.il],hi,fun g hg'=>⟨ws.getD g .nils,?_,(hB g (by rw [← D.il];exact hg')).1.2.bytes,by obtain ⟨i24,j,hj⟩:=hB g (by rw [← D.il];exact hg');exact ⟨j,by rw [hj,i24.1]⟩⟩⟩
  refine zam hg ?_
  have:g < ws.length:=by rw [hlen,Nat.mul_one,← D.il];exact hg'
  simp [List.getD_eq_getElem?_getD,this]
end
end Lav
set_option maxRecDepth 100000
set_option linter.unusedSimpArgs false
namespace Lav
open Go (IntKind)
def zh0 (x:BitVec 8):List (BitVec 8):=[0#8,0#8,x,x,x,x,x,x,x,x,0#8,0#8,0#8,0#8,0#8,0#8]
def xB (w:Nat) (b:BitVec 8) (k:Nat):BitVec 8:=if k=w then b else b ^^^ 1#8
theorem zwh (s:BitVec 32) (c:BitVec 8):zbo (s.toNat:Int) (c.toNat:Int)=((zf2 s c).toNat:Int):=by
 have e1:BitVec.ofInt 32 (s.toNat:Int)=s:=ofInt32 s
 have e2:BitVec.ofInt 32 (c.toNat:Int)=c.setWidth 32:=by
  rw [BitVec.ofInt_natCast]
  apply BitVec.eq_of_toNat_eq
  simp
 unfold zbo zf2
 rw [e1,e2]
theorem zo9:∀ (l:List (BitVec 8)) (s:BitVec 32),(l.map fun c:BitVec 8=>(c.toNat:Int)).foldl zbo (s.toNat:Int)=((zh8 s l).toNat:Int)
 | [],_=>rfl
 | c :: l,s=>by
  show (l.map fun c:BitVec 8=>(c.toNat:Int)).foldl zbo (zbo (s.toNat:Int) (c.toNat:Int))=_
  rw [zwh];exact zo9 l (zf2 s c)
theorem zx7 (l:List (BitVec 8)):zvt zbo (l.map fun c:BitVec 8=>(c.toNat:Int))=((bof l).toNat:Int):=by
 have h:=zo9 l 4294967295#32
 have e:((4294967295#32).toNat:Int)=4294967295:=rfl
 rw [e] at h
 unfold zvt bof
 rw [h,zd8,show BitVec.ofInt 32 ((zh8 4294967295#32 l).toNat:Int)=zh8 4294967295#32 l from ofInt32 _,show BitVec.ofInt 32 4294967295=BitVec.allOnes 32 from by decide,BitVec.allOnes_xor]
 exact wrap32 _
theorem zwi {k j:Nat} (hk:k < 48) (hj:j < 4) (x:BitVec 8):zpf zbo (k + 1) x.toNat j=((byteOf (bof (zcs k (zh0 x))) j).toNat:Int):=by
 have hl:([Int.ofNat (k + 1),0,90,165,0,0,Int.ofNat x.toNat,Int.ofNat x.toNat,Int.ofNat x.toNat,Int.ofNat x.toNat,Int.ofNat x.toNat,Int.ofNat x.toNat,Int.ofNat x.toNat,Int.ofNat x.toNat,0,0,0,0,0,0]:List Int)=(zcs k (zh0 x)).map fun c:BitVec 8=>(c.toNat:Int):=by
  have hh:((BitVec.ofNat 8 (k + 1)).toNat:Int)=Int.ofNat (k + 1):=by
   rw [BitVec.toNat_ofNat,Nat.mod_eq_of_lt (by omega)];rfl
  simp only [zcs,zh0,List.cons_append,List.nil_append,List.map_cons,List.map_nil,hh]
  rfl
 unfold zpf
 rw [hl,zx7,zd8]
 have h1:=zqe (bof (zcs k (zh0 x))) j hj
 have h2:min (Int.toNat ((8 * j:Nat):Int)) IntKind.u32.bits=min (8 * j) 32:=by rw [Int.toNat_natCast];rfl
 rw [h2] at h1
 rw [h1]
 exact zs4 _
theorem zuo {k:Nat} (hk:k < 48) (w:Nat) (b:BitVec 8):[Q.sx zbo (cF w b) k 0,Q.sx zbo (cF w b) k 1,Q.sx zbo (cF w b) k 2,Q.sx zbo (cF w b) k 3,Q.u (k + 1),Q.u 0,Q.u 90,Q.u 165,Q.u 0,Q.u 0]++Q.rp 8 [Q.uc (cF w b) k]++Q.rp 6 [Q.u 0]=u8s (zeh k (zh0 (xB w b k))):=by
 have hh:(BitVec.ofNat 8 (k + 1)).toNat=k + 1:=by rw [BitVec.toNat_ofNat,Nat.mod_eq_of_lt (by omega)]
 have s:∀ j,j < 4→Q.sx zbo (cF w b) k j=u8c (byteOf (bof (zcs k (zh0 (xB w b k)))) j):=fun j hj=>by
  show CV.int .u8 (zpf zbo (k + 1) (xB w b k).toNat j)=_
  rw [zwi hk hj];rfl
 have e:Q.u (k + 1)=u8c (BitVec.ofNat 8 (k + 1)):=by
  show CV.int .u8 (.ofNat (k + 1)) = .int .u8 (((BitVec.ofNat 8 (k + 1)).toNat:Nat):Int)
  rw [hh];rfl
 rw [s 0 (by omega),s 1 (by omega),s 2 (by omega),s 3 (by omega),e]
 rfl
section
variable {h0 h:Heap} {ρ:Nat→Nat} {l:List Blk}
theorem At.blk (A:At h0 ρ l h) {i:Nat} {b:Blk} (hi:l[i]? = some b):h.get (ρ i)=some (b.mv τ0 ρ)∧ρ i < h.next:=by
 obtain ⟨hl,rfl⟩:=List.getElem?_eq_some_iff.1 hi
 exact ⟨A.emb.get hl,A.emb.lt hl⟩
theorem At.ne (A:At h0 ρ l h) {i j:Nat} (hi:i < l.length) (hj:j < l.length) (hn:i≠j):ρ i≠ρ j:=fun e =>
 hn (A.emb.inj i j (by rw [zhm hi];simp) (by rw [zhm hj];simp) e)
end
theorem zqj (T:Int→Int→Int) (c:Nat→Nat):(Q.nC5 T c).length=52:=by kernel_rfl
def tvs (ρ:Nat→Nat):List CV:=[.sl (ρ 17) 0 24 (.ex 24),.sl (ρ 18) 0 24 (.ex 24),.sl (ρ 19) 0 24 (.ex 24),.sl (ρ 20) 0 24 (.ex 24),.sl (ρ 21) 0 24 (.ex 24),.sl (ρ 22) 0 24 (.ex 24)]
def tes (ρ:Nat→Nat):List Ent:=[(0,0,.sl (ρ 40) 0 24 (.dy 1)),(1,1,.sl (ρ 38) 0 24 (.dy 1)),(2,2,.sl (ρ 42) 0 24 (.dy 1)),(3,3,.sl (ρ 43) 0 24 (.dy 1)),(4,4,.sl (ρ 46) 0 24 (.dy 1))]
def blank:List (BitVec 8):=List.replicate 24 0#8
def twm (w:Nat) (b:BitVec 8) (k:Nat):List (BitVec 8):=zeh k (zh0 (xB w b k))
section
variable {N d:Nat} {h0 h:Heap} {ρ:Nat→Nat} {w:Nat} {b:BitVec 8}
theorem zpa (A:At h0 ρ (Q.nC5 zbo (cF w b)) h):DKs h (ρ 3) (ρ 12) (ρ 13) 6 (.dy 1) (tvs ρ) (tes ρ) false (List.replicate 6 blank):=by
 have L:=zqj zbo (cF w b)
 obtain ⟨g3,l3⟩:=A.blk (i:=3) (b:=Q.cs ([Q.d 12 0 6 1,Q.mp 13,Q.a 5,Q.a 0,Q.f])) (by kernel_rfl)
 obtain ⟨g12,l12⟩:=A.blk (i:=12) (b:=Q.cs ([Q.s 17 0 24 24,Q.s 18 0 24 24,Q.s 19 0 24 24,Q.s 20 0 24 24,Q.s 21 0 24 24,Q.s 22 0 24 24])) (by kernel_rfl)
 obtain ⟨g13,l13⟩:=A.blk (i:=13) (b:=Q.mk 5 [(0,0,Q.d 40 0 24 1),(1,1,Q.d 38 0 24 1),(2,2,Q.d 42 0 24 1),(3,3,Q.d 43 0 24 1),(4,4,Q.d 46 0 24 1)]) (by kernel_rfl)
 have bl:∀ i,17≤i→i≤22→(Q.nC5 zbo (cF w b))[i]? = some (Q.cs (Q.rp 24 [Q.u 0]))→Img24 h (.sl (ρ i) 0 24 (.ex 24)) blank:=fun i _ _ hi=>by
  obtain ⟨g,l⟩:=A.blk hi
  exact ⟨rfl,ρ i,.ex 24,rfl,.inr rfl,l,g⟩
 have ne:∀ i,17≤i→i≤22→ρ i≠ρ 3∧ρ i≠ρ 12∧ρ i≠ρ 13:=fun i h1 h2=>⟨A.ne (by rw [L];omega) (by rw [L];omega) (by omega),A.ne (by rw [L];omega) (by rw [L];omega) (by omega),A.ne (by rw [L];omega) (by rw [L];omega) (by omega)⟩
 refine ⟨⟨_,_,g3⟩,g12,⟨_,g13⟩,l3,l12,l13,rfl,rfl,fun i hi=>?_,A.ne (by rw [L];omega) (by rw [L];omega) (by omega),A.ne (by rw [L];omega) (by rw [L];omega) (by omega),A.ne (by rw [L];omega) (by rw [L];omega) (by omega),fun i hi k hk=>?_⟩
 ·match i,hi with
  | 0,_=>exact bl 17 (by omega) (by omega) (by kernel_rfl)
  | 1,_=>exact bl 18 (by omega) (by omega) (by kernel_rfl)
  | 2,_=>exact bl 19 (by omega) (by omega) (by kernel_rfl)
  | 3,_=>exact bl 20 (by omega) (by omega) (by kernel_rfl)
  | 4,_=>exact bl 21 (by omega) (by omega) (by kernel_rfl)
  | 5,_=>exact bl 22 (by omega) (by omega) (by kernel_rfl)
 ·match i,hi,hk with
  | 0,_,hk=>simp only [tvs,List.getD_cons_zero,List.getD_cons_succ,Lav.blk,Option.some.injEq] at hk;rw [← hk];exact ne 17 (by omega) (by omega)
  | 1,_,hk=>simp only [tvs,List.getD_cons_zero,List.getD_cons_succ,Lav.blk,Option.some.injEq] at hk;rw [← hk];exact ne 18 (by omega) (by omega)
  | 2,_,hk=>simp only [tvs,List.getD_cons_zero,List.getD_cons_succ,Lav.blk,Option.some.injEq] at hk;rw [← hk];exact ne 19 (by omega) (by omega)
  | 3,_,hk=>simp only [tvs,List.getD_cons_zero,List.getD_cons_succ,Lav.blk,Option.some.injEq] at hk;rw [← hk];exact ne 20 (by omega) (by omega)
  | 4,_,hk=>simp only [tvs,List.getD_cons_zero,List.getD_cons_succ,Lav.blk,Option.some.injEq] at hk;rw [← hk];exact ne 21 (by omega) (by omega)
  | 5,_,hk=>simp only [tvs,List.getD_cons_zero,List.getD_cons_succ,Lav.blk,Option.some.injEq] at hk;rw [← hk];exact ne 22 (by omega) (by omega)
theorem ztb (A:At h0 ρ (Q.nC5 zbo (cF w b)) h):∀ k∈([0,1,2,3,4]:List Nat),∃ e v,ze8 (tes ρ) (k:Int)=some (e,v)∧Img24 h v (twm w b k)∧∀ j,blk v=some j→j≠ρ 3∧j≠ρ 12∧j≠ρ 13:=by
 have L:=zqj zbo (cF w b)
 have ne:∀ i,i < 52→13 < i→ρ i≠ρ 3∧ρ i≠ρ 12∧ρ i≠ρ 13:=fun i h1 h2=>⟨A.ne (by rw [L];omega) (by rw [L];omega) (by omega),A.ne (by rw [L];omega) (by rw [L];omega) (by omega),A.ne (by rw [L];omega) (by rw [L];omega) (by omega)⟩
 have im:∀ (i k:Nat),k < 48→i < 52→13 < i→(Q.nC5 zbo (cF w b))[i]? = some (Q.cs ([Q.sx zbo (cF w b) k 0,Q.sx zbo (cF w b) k 1,Q.sx zbo (cF w b) k 2,Q.sx zbo (cF w b) k 3,Q.u (k + 1),Q.u 0,Q.u 90,Q.u 165,Q.u 0,Q.u 0]++Q.rp 8 [Q.uc (cF w b) k]++Q.rp 6 [Q.u 0])) →
   Img24 h (.sl (ρ i) 0 24 (.dy 1)) (twm w b k)∧∀ j,blk (.sl (ρ i) 0 24 (.dy 1))=some j→j≠ρ 3∧j≠ρ 12∧j≠ρ 13:=fun i k hk hi h13 hb=>by
  obtain ⟨g,l⟩:=A.blk hb
  rw [zuo hk w b] at g
  refine ⟨⟨rfl,ρ i,.dy 1,rfl,.inl rfl,l,?_⟩,fun j hj=>by simp only [Lav.blk,Option.some.injEq] at hj;rw [← hj];exact ne i hi h13⟩
  rw [g]
  show some (Blk.cells (mvs τ0 ρ (u8s _)))=_
  rw [zp8]
  ·rfl
  ·exact List.all_eq_true.2 fun v hv=>by simp only [u8s,List.mem_map] at hv;obtain ⟨x,_,rfl⟩:=hv;rfl
  ·exact List.all_eq_true.2 fun v hv=>by simp only [u8s,List.mem_map] at hv;obtain ⟨x,_,rfl⟩:=hv;rfl
 intro k hk
 simp only [List.mem_cons,List.not_mem_nil,or_false] at hk
 rcases hk with rfl | rfl | rfl | rfl | rfl
 ·exact ⟨0,_,rfl,im 40 0 (by omega) (by omega) (by omega) (by kernel_rfl)⟩
 ·exact ⟨1,_,rfl,im 38 1 (by omega) (by omega) (by omega) (by kernel_rfl)⟩
 ·exact ⟨2,_,rfl,im 42 2 (by omega) (by omega) (by omega) (by kernel_rfl)⟩
 ·exact ⟨3,_,rfl,im 43 3 (by omega) (by omega) (by omega) (by kernel_rfl)⟩
 ·exact ⟨4,_,rfl,im 46 4 (by omega) (by omega) (by omega) (by kernel_rfl)⟩
end
end Lav
set_option maxRecDepth 100000
set_option linter.unusedSimpArgs false
set_option linter.unusedVariables false
namespace Lav
open Go (IntKind)
theorem zqk {α:Type} (f:α→List CV) (k:Nat) (hf:∀ a,(f a).length=k):∀ (L:List α) (i:Nat) (a:α),L[i]? = some a→cut (L.flatMap f) (i * k) k=some (f a)
 | [],i,a,h=>by simp at h
 | x :: L,0,a,h=>by
  simp only [List.getElem?_cons_zero,Option.some.injEq] at h
  subst h
  unfold cut
  have:Nat.ble (0 * k + k) ((x :: L).flatMap f).length=true:=Nat.ble_eq_true_of_le (by simp [hf])
  rw [this]
  simp only [cond_true,Nat.zero_mul,List.drop_zero,List.flatMap_cons]
  rw [List.take_append_of_le_length (by rw [hf];exact Nat.le_refl _),List.take_of_length_le (by rw [hf];exact Nat.le_refl _)]
 | x :: L,i + 1,a,h=>by
  have ih:=zqk f k hf L i a (by simpa using h)
  unfold cut at ih ⊢
  have e1:(i + 1) * k=k + i * k:=by rw [Nat.succ_mul];omega
  have hlen:((x :: L).flatMap f).length=k + (L.flatMap f).length:=by simp [hf]
  cases hb:Nat.ble (i * k + k) (L.flatMap f).length with
  | false=>rw [hb] at ih;cases ih
  | true =>
   rw [hb] at ih
   have hb2:Nat.ble ((i + 1) * k + k) ((x :: L).flatMap f).length=true:=Nat.ble_eq_true_of_le (by have:=Nat.le_of_ble_eq_true hb;rw [hlen,e1];omega)
   rw [hb2]
   simp only [cond_true,Option.some.injEq] at ih ⊢
   rw [← ih,e1,List.flatMap_cons,← List.drop_drop,List.drop_append_of_le_length (by rw [hf];exact Nat.le_refl _)]
   have:(f x).drop k=[]:=List.drop_of_length_le (by rw [hf];exact Nat.le_refl _)
   rw [this,List.nil_append]
theorem zql {g:Heap} {b:Nat} {c:Cap} {L:List (Ev × CV × CV)} (hb:b < g.next) (hg:g.get b=some (.cells (L.flatMap fun t=>evC t.1 t.2.1 t.2.2))) (hB:∀ t∈L,Bytes g t.2.1 t.1.op.data∧Bytes g t.2.2 t.1.rs.rd):Evs g (.sl b 0 (L.map (·.1)).length c) (L.map (·.1)):=by
 refine .inr ⟨b,c,rfl,hb,fun i e he=>?_⟩
 rw [List.getElem?_map] at he
 cases hi:L[i]? with
 | none=>rw [hi] at he;cases he
 | some t =>
  rw [hi] at he
  simp only [Option.map_some,Option.some.injEq] at he
  subst he
  refine ⟨t.2.1,t.2.2,?_,hB t (List.mem_of_getElem? hi)⟩
  unfold Heap.read
  rw [hg]
  exact zqk (fun t:Ev × CV × CV=>evC t.1 t.2.1 t.2.2) 14 (fun t=>zbx t.1 t.2.1 t.2.2) L i t hi
theorem Emb.extH {ρ:Nat→Nat} {h g g':Heap} (E:Emb ρ h g) (x:Ext g g'):Emb ρ h g' :=
 ⟨fun i b hb=>by obtain ⟨h1,h2,h3⟩:=E.at_ i b hb;exact ⟨h1,Nat.lt_of_lt_of_le h2 x.1,(x.2 _ h2).trans h3⟩,E.inj⟩
def tfs:List Fra:=[⟨1,4,0,0,false⟩,⟨1,5,0,0,true⟩]
def tE0 (x:Nat→BitVec 8):Ev:=⟨0,⟨1,0,0,0,0,[]⟩,⟨0,0,0,[]⟩,1,3,3⟩
def tE1 (x:Nat→BitVec 8):Ev:=⟨0,⟨4,0,0,2,0,[x 0,x 0,x 0,x 0,x 0,x 0,x 0,x 0]⟩,⟨0,0,0,[]⟩,4,7,7⟩
def tE2 (x:Nat→BitVec 8):Ev:=⟨0,⟨5,0,0,0,0,[]⟩,⟨0,0,0,[]⟩,9,12,12⟩
def tE3 (x:Nat→BitVec 8):Ev:=⟨0,⟨1,0,0,0,0,[]⟩,⟨0,1,0,[]⟩,14,19,19⟩
def tE4 (x:Nat→BitVec 8):Ev:=⟨0,⟨4,0,0,2,0,[x 1,x 1,x 1,x 1,x 1,x 1,x 1,x 1]⟩,⟨0,0,0,[]⟩,21,24,24⟩
def tE5 (x:Nat→BitVec 8):Ev:=⟨0,⟨5,0,0,0,0,[]⟩,⟨0,0,0,[]⟩,26,29,29⟩
def tE6 (x:Nat→BitVec 8):Ev:=⟨0,⟨1,0,0,0,0,[]⟩,⟨0,2,0,[]⟩,31,33,33⟩
def tE7 (x:Nat→BitVec 8):Ev:=⟨0,⟨4,0,0,2,0,[x 2,x 2,x 2,x 2,x 2,x 2,x 2,x 2]⟩,⟨0,0,0,[]⟩,34,37,37⟩
def tE8 (x:Nat→BitVec 8):Ev:=⟨0,⟨5,0,0,0,0,[]⟩,⟨0,0,0,[]⟩,39,44,44⟩
def tE9 (x:Nat→BitVec 8):Ev:=⟨0,⟨1,0,0,0,0,[]⟩,⟨0,3,0,[]⟩,46,52,52⟩
def zy9 (x:Nat→BitVec 8):Ev:=⟨0,⟨4,0,0,2,0,[x 3,x 3,x 3,x 3,x 3,x 3,x 3,x 3]⟩,⟨0,0,0,[]⟩,54,57,57⟩
def zza (x:Nat→BitVec 8):Ev:=⟨0,⟨5,0,0,0,0,[]⟩,⟨0,0,0,[]⟩,59,62,62⟩
def zzb (x:Nat→BitVec 8):Ev:=⟨0,⟨1,0,0,0,0,[]⟩,⟨0,4,0,[]⟩,64,66,66⟩
def zzc (x:Nat→BitVec 8):Ev:=⟨0,⟨4,0,0,2,0,[x 4,x 4,x 4,x 4,x 4,x 4,x 4,x 4]⟩,⟨0,0,0,[]⟩,67,70,70⟩
def zzd (x:Nat→BitVec 8):Ev:=⟨0,⟨5,0,0,0,0,[]⟩,⟨0,0,0,[]⟩,72,77,77⟩
def zze (x:Nat→BitVec 8):Ev:=⟨0,⟨1,0,0,0,0,[]⟩,⟨0,5,0,[]⟩,79,85,85⟩
def zzf (x:Nat→BitVec 8):Ev:=⟨0,⟨4,0,0,2,0,[x 5,x 5,x 5,x 5,x 5,x 5,x 5,x 5]⟩,⟨0,0,0,[]⟩,87,90,90⟩
def zzg (x:Nat→BitVec 8):Ev:=⟨0,⟨5,0,0,0,0,[]⟩,⟨0,0,0,[]⟩,92,95,95⟩
def tl (x:Nat→BitVec 8):List Ev:=[tE0 x,tE1 x,tE2 x,tE3 x,tE4 x,tE5 x,tE6 x,tE7 x,tE8 x,tE9 x,zy9 x,zza x,zzb x,zzc x,zzd x,zze x,zzf x,zzg x]
def tL (x:Nat→BitVec 8) (σ:Nat→Nat):List (Ev × CV × CV):=[(tE0 x,.nils,.nils),(tE1 x,.sl (σ 55) 0 8 (.dy 1),.nils),(tE2 x,.nils,.nils),(tE3 x,.nils,.nils),(tE4 x,.sl (σ 57) 0 8 (.dy 1),.nils),(tE5 x,.nils,.nils),(tE6 x,.nils,.nils),(tE7 x,.sl (σ 59) 0 8 (.dy 1),.nils),(tE8 x,.nils,.nils),(tE9 x,.nils,.nils),(zy9 x,.sl (σ 61) 0 8 (.dy 1),.nils),(zza x,.nils,.nils),(zzb x,.nils,.nils),(zzc x,.sl (σ 63) 0 8 (.dy 1),.nils),(zzd x,.nils,.nils),(zze x,.nils,.nils),(zzf x,.sl (σ 65) 0 8 (.dy 1),.nils),(zzg x,.nils,.nils)]
theorem zx8 {N:Nat} (hN:3000≤N) {g:Heap} {ρ:Nat→Nat} {w:Nat} {b:BitVec 8} (E:Emb ρ (hk (Q.nC5 zbo (cF w b)) []) g) :
  (∀ d,60≤d→∀ G,Ext g G→∃ y G',evCallO OS table N d 12 [.c (.ptr (ρ 1) 0)] G=some (.c y,G')∧Evs G' y (tl (xB w b))∧Ext G G') ∧
  (∀ d,60≤d→∀ G,Ext g G→∃ y G',evCallO OS table N d 31 [.c (.ptr (ρ 1) 0)] G=some (.c y,G')∧Fras G' y tfs∧Ext G G') ∧
  (∀ d,60≤d→∀ G,Ext g G→∃ G',evCallO OS table N d 18 [.c (.ptr (ρ 1) 0)] G=some (.c (.int .i64 2),G')∧Ext G G') ∧
  (∀ d,60≤d→∀ G,Ext g G→∃ G',evCallO OS table N d 40 [.c (.ptr (ρ 1) 0)] G=some (.c (.bool false),G')∧Ext G G') ∧
  (∀ d,60≤d→∀ G,Ext g G→∃ G',evCallO OS table N d 38 [.c (.ptr (ρ 1) 0)] G=some (.c (.bool false),G')∧Ext G G') ∧
  (∀ d,60≤d→∀ G,Ext g G→∃ G',evCallO OS table N d 37 [.c (.ptr (ρ 1) 0)] G=some (.c (.int .i64 96),G')∧Ext G G'):=by
 have hlen:(Q.nC5 zbo (cF w b)).length=52:=by kernel_rfl
 refine ⟨fun d hd G x=>?_,fun d hd G x=>?_,fun d hd G x=>?_,fun d hd G x=>?_,fun d hd G x=>?_,fun d hd G x=>?_⟩
 ·obtain ⟨G',e,x',nw⟩:=obs zc1 zcr hN (by omega) hd (Q.oh zbo (cF w b)) (Q.ohf zbo (cF w b)) (E.extH x)
  generalize ext ρ (Q.nC5 zbo (cF w b)).length G.next=σ at e nw
  refine ⟨_,G',e,?_,x'⟩
  have bl:∀ {t i:Nat} (_:i < 6),σ t < G'.next→G'.get (σ t)=some (Blk.mv τ0 σ (Q.cs (Q.rp 8 [Q.uc (cF w b) i])))→Bytes G' (.sl (σ t) 0 8 (.dy 1)) [xB w b i,xB w b i,xB w b i,xB w b i,xB w b i,xB w b i,xB w b i,xB w b i]:=fun {t i} _ hl hg =>
   bytes_at (o:=0) (n:=8) (c:=.dy 1) (bs:=[xB w b i,xB w b i,xB w b i,xB w b i,xB w b i,xB w b i,xB w b i,xB w b i]) hl hg rfl
  obtain ⟨_,hj,l0,g0⟩:=nw 0 _ rfl
  simp only [List.getElem?_cons_zero,Option.some.injEq] at hj
  subst hj
  obtain ⟨_,hj,l1,g1⟩:=nw 1 _ rfl
  simp only [List.getElem?_cons_zero,List.getElem?_cons_succ,Option.some.injEq] at hj
  subst hj
  obtain ⟨_,hj,l2,g2⟩:=nw 2 _ rfl
  simp only [List.getElem?_cons_zero,List.getElem?_cons_succ,Option.some.injEq] at hj
  subst hj
  obtain ⟨_,hj,l3,g3⟩:=nw 3 _ rfl
  simp only [List.getElem?_cons_zero,List.getElem?_cons_succ,Option.some.injEq] at hj
  subst hj
  obtain ⟨_,hj,l4,g4⟩:=nw 4 _ rfl
  simp only [List.getElem?_cons_zero,List.getElem?_cons_succ,Option.some.injEq] at hj
  subst hj
  obtain ⟨_,hj,l5,g5⟩:=nw 5 _ rfl
  simp only [List.getElem?_cons_zero,List.getElem?_cons_succ,Option.some.injEq] at hj
  subst hj
  obtain ⟨_,hj,l6,g6⟩:=nw 6 _ rfl
  simp only [List.getElem?_cons_zero,List.getElem?_cons_succ,Option.some.injEq] at hj
  subst hj
  refine zql (L:=tL (xB w b) σ) l0 g0 ?_
  unfold tL
  simp only [List.forall_mem_cons]
  exact ⟨⟨.inl ⟨rfl,rfl⟩,.inl ⟨rfl,rfl⟩⟩,⟨bl (i:=0) (by omega) l1 g1,.inl ⟨rfl,rfl⟩⟩,⟨.inl ⟨rfl,rfl⟩,.inl ⟨rfl,rfl⟩⟩,⟨.inl ⟨rfl,rfl⟩,.inl ⟨rfl,rfl⟩⟩,⟨bl (i:=1) (by omega) l2 g2,.inl ⟨rfl,rfl⟩⟩,⟨.inl ⟨rfl,rfl⟩,.inl ⟨rfl,rfl⟩⟩,⟨.inl ⟨rfl,rfl⟩,.inl ⟨rfl,rfl⟩⟩,⟨bl (i:=2) (by omega) l3 g3,.inl ⟨rfl,rfl⟩⟩,⟨.inl ⟨rfl,rfl⟩,.inl ⟨rfl,rfl⟩⟩,⟨.inl ⟨rfl,rfl⟩,.inl ⟨rfl,rfl⟩⟩,⟨bl (i:=3) (by omega) l4 g4,.inl ⟨rfl,rfl⟩⟩,⟨.inl ⟨rfl,rfl⟩,.inl ⟨rfl,rfl⟩⟩,⟨.inl ⟨rfl,rfl⟩,.inl ⟨rfl,rfl⟩⟩,⟨bl (i:=4) (by omega) l5 g5,.inl ⟨rfl,rfl⟩⟩,⟨.inl ⟨rfl,rfl⟩,.inl ⟨rfl,rfl⟩⟩,⟨.inl ⟨rfl,rfl⟩,.inl ⟨rfl,rfl⟩⟩,⟨bl (i:=5) (by omega) l6 g6,.inl ⟨rfl,rfl⟩⟩,⟨.inl ⟨rfl,rfl⟩,.inl ⟨rfl,rfl⟩⟩,fun _ h=>by cases h⟩
 ·obtain ⟨G',e,x',nw⟩:=obs zc1 zcr hN (by omega) hd (Q.of zbo (cF w b)) (Q.off zbo (cF w b)) (E.extH x)
  generalize ext ρ (Q.nC5 zbo (cF w b)).length G.next=σ at e nw
  obtain ⟨_,hj,l0,g0⟩:=nw 0 _ rfl
  simp only [List.getElem?_cons_zero,Option.some.injEq] at hj
  subst hj
  refine ⟨_,G',e,.inr ⟨σ 67,.dy 5,rfl,l0,fun i hi=>?_⟩,x'⟩
  rw [zdi g0 (by show i * 5 + 5≤10;simp [tfs] at hi;omega)]
  match i,hi with
  | 0,_=>rfl
  | 1,_=>rfl
 ·obtain ⟨G',e,x',-⟩:=obs zc1 zcr hN (by omega) hd (Q.ocap zbo (cF w b)) (Q.ocapf zbo (cF w b)) (E.extH x)
  exact ⟨G',e,x'⟩
 ·obtain ⟨G',e,x',-⟩:=obs zc1 zcr hN (by omega) hd (Q.owk zbo (cF w b)) (Q.owkf zbo (cF w b)) (E.extH x)
  exact ⟨G',e,x'⟩
 ·obtain ⟨G',e,x',-⟩:=obs zc1 zcr hN (by omega) hd (Q.odn zbo (cF w b)) (Q.odnf zbo (cF w b)) (E.extH x)
  exact ⟨G',e,x'⟩
 ·obtain ⟨G',e,x',-⟩:=obs zc1 zcr hN (by omega) hd (Q.onw zbo (cF w b)) (Q.onwf zbo (cF w b)) (E.extH x)
  exact ⟨G',e,x'⟩
theorem zrr {N:Nat} (hN:3000≤N) {g:Heap} {ρ:Nat→Nat} {w:Nat} {b:BitVec 8} (E:Emb ρ (hk (Q.nX zbo (cF w b)) [0,2,3,12,13]) g) :
  (∀ d,60≤d→∀ G,Ext g G→∃ y G',evCallO OS table N d 12 [.c (.ptr (ρ 1) 0)] G=some (.c y,G')∧Evs G' y (tl (xB w b))∧Ext G G') ∧
  (∀ d,60≤d→∀ G,Ext g G→∃ y G',evCallO OS table N d 31 [.c (.ptr (ρ 1) 0)] G=some (.c y,G')∧Fras G' y tfs∧Ext G G') ∧
  (∀ d,60≤d→∀ G,Ext g G→∃ G',evCallO OS table N d 18 [.c (.ptr (ρ 1) 0)] G=some (.c (.int .i64 2),G')∧Ext G G') ∧
  (∀ d,60≤d→∀ G,Ext g G→∃ G',evCallO OS table N d 40 [.c (.ptr (ρ 1) 0)] G=some (.c (.bool false),G')∧Ext G G') ∧
  (∀ d,60≤d→∀ G,Ext g G→∃ G',evCallO OS table N d 38 [.c (.ptr (ρ 1) 0)] G=some (.c (.bool true),G')∧Ext G G') ∧
  (∀ d,60≤d→∀ G,Ext g G→∃ G',evCallO OS table N d 37 [.c (.ptr (ρ 1) 0)] G=some (.c (.int .i64 97),G')∧Ext G G'):=by
 have hlen:(Q.nX zbo (cF w b)).length=52:=by kernel_rfl
 refine ⟨fun d hd G x=>?_,fun d hd G x=>?_,fun d hd G x=>?_,fun d hd G x=>?_,fun d hd G x=>?_,fun d hd G x=>?_⟩
 ·obtain ⟨G',e,x',nw⟩:=obs zc1 zcr hN (by omega) hd (Q.xh zbo (cF w b)) (Q.xhf zbo (cF w b)) (E.extH x)
  generalize ext ρ (Q.nX zbo (cF w b)).length G.next=σ at e nw
  refine ⟨_,G',e,?_,x'⟩
  have bl:∀ {t i:Nat} (_:i < 6),σ t < G'.next→G'.get (σ t)=some (Blk.mv τ0 σ (Q.cs (Q.rp 8 [Q.uc (cF w b) i])))→Bytes G' (.sl (σ t) 0 8 (.dy 1)) [xB w b i,xB w b i,xB w b i,xB w b i,xB w b i,xB w b i,xB w b i,xB w b i]:=fun {t i} _ hl hg =>
   bytes_at (o:=0) (n:=8) (c:=.dy 1) (bs:=[xB w b i,xB w b i,xB w b i,xB w b i,xB w b i,xB w b i,xB w b i,xB w b i]) hl hg rfl
  obtain ⟨_,hj,l0,g0⟩:=nw 0 _ rfl
  simp only [List.getElem?_cons_zero,Option.some.injEq] at hj
  subst hj
  obtain ⟨_,hj,l1,g1⟩:=nw 1 _ rfl
  simp only [List.getElem?_cons_zero,List.getElem?_cons_succ,Option.some.injEq] at hj
  subst hj
  obtain ⟨_,hj,l2,g2⟩:=nw 2 _ rfl
  simp only [List.getElem?_cons_zero,List.getElem?_cons_succ,Option.some.injEq] at hj
  subst hj
  obtain ⟨_,hj,l3,g3⟩:=nw 3 _ rfl
  simp only [List.getElem?_cons_zero,List.getElem?_cons_succ,Option.some.injEq] at hj
  subst hj
  obtain ⟨_,hj,l4,g4⟩:=nw 4 _ rfl
  simp only [List.getElem?_cons_zero,List.getElem?_cons_succ,Option.some.injEq] at hj
  subst hj
  obtain ⟨_,hj,l5,g5⟩:=nw 5 _ rfl
  simp only [List.getElem?_cons_zero,List.getElem?_cons_succ,Option.some.injEq] at hj
  subst hj
  obtain ⟨_,hj,l6,g6⟩:=nw 6 _ rfl
  simp only [List.getElem?_cons_zero,List.getElem?_cons_succ,Option.some.injEq] at hj
  subst hj
  refine zql (L:=tL (xB w b) σ) l0 g0 ?_
  unfold tL
  simp only [List.forall_mem_cons]
  exact ⟨⟨.inl ⟨rfl,rfl⟩,.inl ⟨rfl,rfl⟩⟩,⟨bl (i:=0) (by omega) l1 g1,.inl ⟨rfl,rfl⟩⟩,⟨.inl ⟨rfl,rfl⟩,.inl ⟨rfl,rfl⟩⟩,⟨.inl ⟨rfl,rfl⟩,.inl ⟨rfl,rfl⟩⟩,⟨bl (i:=1) (by omega) l2 g2,.inl ⟨rfl,rfl⟩⟩,⟨.inl ⟨rfl,rfl⟩,.inl ⟨rfl,rfl⟩⟩,⟨.inl ⟨rfl,rfl⟩,.inl ⟨rfl,rfl⟩⟩,⟨bl (i:=2) (by omega) l3 g3,.inl ⟨rfl,rfl⟩⟩,⟨.inl ⟨rfl,rfl⟩,.inl ⟨rfl,rfl⟩⟩,⟨.inl ⟨rfl,rfl⟩,.inl ⟨rfl,rfl⟩⟩,⟨bl (i:=3) (by omega) l4 g4,.inl ⟨rfl,rfl⟩⟩,⟨.inl ⟨rfl,rfl⟩,.inl ⟨rfl,rfl⟩⟩,⟨.inl ⟨rfl,rfl⟩,.inl ⟨rfl,rfl⟩⟩,⟨bl (i:=4) (by omega) l5 g5,.inl ⟨rfl,rfl⟩⟩,⟨.inl ⟨rfl,rfl⟩,.inl ⟨rfl,rfl⟩⟩,⟨.inl ⟨rfl,rfl⟩,.inl ⟨rfl,rfl⟩⟩,⟨bl (i:=5) (by omega) l6 g6,.inl ⟨rfl,rfl⟩⟩,⟨.inl ⟨rfl,rfl⟩,.inl ⟨rfl,rfl⟩⟩,fun _ h=>by cases h⟩
 ·obtain ⟨G',e,x',nw⟩:=obs zc1 zcr hN (by omega) hd (Q.xf zbo (cF w b)) (Q.xff zbo (cF w b)) (E.extH x)
  generalize ext ρ (Q.nX zbo (cF w b)).length G.next=σ at e nw
  obtain ⟨_,hj,l0,g0⟩:=nw 0 _ rfl
  simp only [List.getElem?_cons_zero,Option.some.injEq] at hj
  subst hj
  refine ⟨_,G',e,.inr ⟨σ 67,.dy 5,rfl,l0,fun i hi=>?_⟩,x'⟩
  rw [zdi g0 (by show i * 5 + 5≤10;simp [tfs] at hi;omega)]
  match i,hi with
  | 0,_=>rfl
  | 1,_=>rfl
 ·obtain ⟨G',e,x',-⟩:=obs zc1 zcr hN (by omega) hd (Q.xcap zbo (cF w b)) (Q.xcapf zbo (cF w b)) (E.extH x)
  exact ⟨G',e,x'⟩
 ·obtain ⟨G',e,x',-⟩:=obs zc1 zcr hN (by omega) hd (Q.xwk zbo (cF w b)) (Q.xwkf zbo (cF w b)) (E.extH x)
  exact ⟨G',e,x'⟩
 ·obtain ⟨G',e,x',-⟩:=obs zc1 zcr hN (by omega) hd (Q.xdn zbo (cF w b)) (Q.xdnf zbo (cF w b)) (E.extH x)
  exact ⟨G',e,x'⟩
 ·obtain ⟨G',e,x',-⟩:=obs zc1 zcr hN (by omega) hd (Q.xnw zbo (cF w b)) (Q.xnwf zbo (cF w b)) (E.extH x)
  exact ⟨G',e,x'⟩
end Lav
set_option maxRecDepth 100000
namespace Lav
open Go (IntKind)
def zqm (l:List Ev) (n:Int) (i:Nat):Bool :=
 decide (0≤(zcb l i).cl) && (decide ((zcb l i).cl < n) && (decide (0 < (zcb l i).bg) && ((match i with | 0=>true | p + 1=>decide ((zcb l p).bg≤(zcb l i).bg)) &&
  ((if 0 < (zcb l i).en then decide ((zcb l i).bg≤(zcb l i).st) && decide ((zcb l i).st≤(zcb l i).en) else decide ((zcb l i).en=0) && (decide ((zcb l i).st=0) || decide ((zcb l i).bg≤(zcb l i).st))) &&
  (List.range i).all fun k=>!(decide ((zcb l k).cl=(zcb l i).cl)) || (decide (0 < (zcb l k).en) && decide ((zcb l k).en < (zcb l i).bg))))))
theorem zup {l:List Ev} {n:Int} {i:Nat} (h:zqm l n i=true):AloneP l i (zcb l i) n:=by
 unfold zqm at h
 simp only [Bool.and_eq_true,decide_eq_true_eq] at h
 obtain ⟨h1,h2,h3,h4,h5,h6⟩:=h
 have at_:∀ {k:Nat} {f:Ev},l[k]? = some f→zcb l k=f:=fun hk=>by unfold zcb;rw [List.getD_eq_getElem?_getD,hk];rfl
 refine ⟨h1,h2,h3,fun p f hp hf=>?_,fun he=>?_,fun he=>?_,fun k f hk hf hc=>?_⟩
 ·subst hp
  simp only [decide_eq_true_eq] at h4
  rw [← at_ hf];exact h4
 ·rw [if_pos he] at h5
  simpa using h5
 ·rw [if_neg he] at h5
  simpa using h5
 ·have:=List.all_eq_true.1 h6 k (List.mem_range.2 hk)
  rw [at_ hf] at this
  simp only [hc,decide_true,Bool.not_true,Bool.false_or,Bool.and_eq_true,decide_eq_true_eq] at this
  exact this
def zzh (l:List Ev) (c:Nat) (i:Nat):Bool:=decide (0≤(zcb l i).cl) && (decide ((zcb l i).cl < (c:Int)) && (decide (1≤(zcb l i).op.kd) && decide ((zcb l i).op.kd≤8)))
def ztc (l:List Ev) (p c:Nat):Bool:=Nat.ble l.length 900 && ((List.range l.length).all (fun i=>zqm l (c:Int) i && zzh l c i) && okG l (zdq p c) (zc7 (stL l) l.length))
theorem zwj {l:List Ev} {p c:Nat} (h:ztc l p c=true):HistOK l p c:=by
 unfold ztc at h
 simp only [Bool.and_eq_true] at h
 obtain ⟨h1,h2,h3⟩:=h
 have ha:=List.all_eq_true.1 h2
 refine ⟨Nat.le_of_ble_eq_true h1,fun i hi=>?_,fun i hi=>?_,h3⟩
 ·have:=ha i (List.mem_range.2 hi)
  simp only [Bool.and_eq_true] at this
  exact zup this.1
 ·have:=ha i (List.mem_range.2 hi)
  simp only [Bool.and_eq_true] at this
  have:=this.2
  unfold zzh at this
  simp only [Bool.and_eq_true,decide_eq_true_eq] at this
  exact this
end Lav
set_option maxRecDepth 100000
set_option linter.unusedSimpArgs false
namespace Lav
open Go (IntKind)
def Q.zst:CV:=.str (List.replicate 16 0)
theorem Q.new61:zgg ([]:List Blk).length [] [29,31,34,32] (evCallO OS table 3000 6 73 [.c (a 6),.c (a 1)] (hk [] []))=some (.agg [d 29 0 6 1,d 31 0 6 1,d 34 0 1 1],35,(live ([]:List Blk).length []).map (fun i=>([]:List Blk)[i]?),([cs (rp 6 [f]),cs (rp 6 [zst]),cs ([s 32 0 6 6]),cs (rp 6 [m 0])]:List Blk).map some):=by kernel_rfl
theorem Q.new61f:fit ([]:List Blk) [.c (a 6),.c (a 1)] [29,31,34,32] 35=true:=by kernel_rfl
theorem zzi {N d:Nat} (hN:3000≤N) (hd:6≤d):zk1 N d 6 1:=by
 intro h
 obtain ⟨g',e,x,nw⟩:=obs zc1 zfl hN (by omega) hd Q.new61 Q.new61f (show Emb (fun _=>0) (hk [] []) h from Emb.empty _ h)
 have hs:∀ t,ext (fun _=>0) ([]:List Blk).length h.next t=h.next + t:=fun t=>by
  show (if t < 0 then _ else _)=_
  rw [if_neg (Nat.not_lt_zero _)];rfl
 generalize ext (fun _=>0) ([]:List Blk).length h.next=σ at e nw hs
 obtain ⟨_,hj,l0,g0⟩:=nw 0 _ rfl
 simp only [List.getElem?_cons_zero,List.getElem?_cons_succ,Option.some.injEq] at hj
 subst hj
 obtain ⟨_,hj,l1,g1⟩:=nw 1 _ rfl
 simp only [List.getElem?_cons_zero,List.getElem?_cons_succ,Option.some.injEq] at hj
 subst hj
 obtain ⟨_,hj,l2,g2⟩:=nw 2 _ rfl
 simp only [List.getElem?_cons_zero,List.getElem?_cons_succ,Option.some.injEq] at hj
 subst hj
 obtain ⟨_,hj,l3,g3⟩:=nw 3 _ rfl
 simp only [List.getElem?_cons_zero,List.getElem?_cons_succ,Option.some.injEq] at hj
 subst hj
 refine ⟨_,⟨σ 29,σ 31,σ 34,[σ 32],.dy 1,.dy 1,.dy 1⟩,g',e,⟨rfl,g0,g1,g2,rfl,fun i hi=>?_,fun j hj=>?_,?_,rfl,fun l hl=>?_,by decide,by decide,fun l hl v hv=>?_⟩,x,fun j hj=>?_⟩
 ·match i,hi with
  | 0,_=>exact ⟨g3,rfl⟩
 ·simp only [SP.own,List.mem_cons,List.not_mem_nil,or_false] at hj
  rcases hj with rfl | rfl | rfl | rfl
  all_goals assumption
 ·simp only [SP.own,hs,List.nodup_cons,List.mem_cons,List.not_mem_nil,or_false,not_or]
  refine ⟨?_,?_,?_,?_⟩<;>first | omega | (refine ⟨?_,?_⟩<;>omega) | simp
 ·rw [List.eq_of_mem_replicate hl];rfl
 ·rw [List.eq_of_mem_replicate hl] at hv
  rw [List.eq_of_mem_replicate hv]
  show (-1:Int) < _
  simp [zdq]
 ·simp only [SP.own,hs,List.mem_cons,List.not_mem_nil,or_false] at hj
  omega
end Lav
set_option maxRecDepth 100000
namespace Lav
open Go (IntKind)
theorem zzj (x:Nat→BitVec 8):ztc (tl x) 6 1=true:=by kernel_rfl
theorem zx9 (x:Nat→BitVec 8):((List.range 6).all fun g=>zf4 (tl x) 6 1 g == 0)=true:=by kernel_rfl
theorem zw3 (x:Nat→BitVec 8):((List.range 18).all fun i=>!(decide ((zcb (tl x) i).st=0)) && !(decide ((zcb (tl x) i).rs.code=8)))=true:=by kernel_rfl
def v0 (w:Nat) (b:BitVec 8):PV:=⟨tl (xB w b),List.replicate 6 blank,tfs,2,false,false,96,6,2,1,1,List.replicate 97 false,2,2⟩
def v1 (w:Nat) (b:BitVec 8) (im:List (List (BitVec 8))):PV:=⟨tl (xB w b),im,tfs,2,false,true,97,6,2,1,1,List.replicate 98 false,2,2⟩
theorem zwk (w:Nat) (b:BitVec 8):zl7 (v0 w b)=true:=by kernel_rfl
section
variable {N d:Nat} {h0 h:Heap} {ρ:Nat→Nat} {w:Nat} {b:BitVec 8}
theorem zof {x:Nat→BitVec 8} {k:Nat} (hk:k < 6):zf4 (tl x) 6 1 k=0:=by
 have:=List.all_eq_true.1 (zx9 x) k (List.mem_range.2 hk)
 simpa using this
theorem zuq (hN:3000≤N) {v:PV} (hl:v.l=tl (xB w b)) (hp:v.pages=6) (hc:v.clients=1):GoodH N v :=
 ⟨fun d' hd=>by rw [hp,hc];exact zzi hN hd,by omega,by omega,by rw [hl,hp,hc];exact zwj (zzj _)⟩
theorem zrs {q dk pg m n:Nat} {c:Cap} {vs:List CV} {es:List Ent} {im:List (List (BitVec 8))} {down:Bool} (hq:h.read q 4 1=some [.ptr dk 0]) (D:DKs h dk pg m n c vs es down im) (h48:n≤48) (hN:100≤N) :
  ∃ y h',evCallO OS table N (d + 3) 15 [.c (.ptr q 0)] h=some (.c y,h')∧Imgs h' y im∧Ext h h':=by
 obtain ⟨y,h',e,I,x⟩:=zwg (N:=N) (d:=d) D h48 hN
 rw [zbp (F:=ir15) rfl rfl rfl]
 unfold ir15
 rw [zbv]
 simp only [zbm,zap,zac,zaq,zat,zal,zax,zbq,zad,zai,zab,zae,zaf,zar,zix,za3,zba,za7,zbb,zbi,zko,zag,X.eval,zak,zah,List.map_cons,List.map_nil,List.getD_cons_zero,List.getD_cons_succ,List.getD_nil,List.set_cons_zero,List.set_cons_succ,zf1,cond_false,AV.ofCells,Nat.zero_add,Bool.not_false,zdn,zdf,za1,za5,za9,AV.ofCells,hq,e,zbu,RV.eval]
 exact ⟨y,h',rfl,I,x⟩
theorem zz2 (hN:3000≤N) (A:At h0 ρ (Q.nC5 zbo (cF w b)) h):Sees N h (ρ 0) (v0 w b):=by
 obtain ⟨g0,l0⟩:=A.blk (i:=0) (b:=Q.cs ([Q.p 1 0,Q.a 6,Q.a 2,Q.a 1,Q.a 1,Q.d 2 0 97 1,Q.a 2,Q.a 2])) (by kernel_rfl)
 obtain ⟨g1,l1⟩:=A.blk (i:=1) (b:=Q.cs ([Q.a 6,Q.a 2,Q.a 1,Q.a 1,Q.p 3 0,Q.p 4 0,Q.p 5 0,Q.a 1,Q.d 6 0 16 1,Q.m 0,Q.a 0,Q.a 0,Q.s 7 0 6 6,Q.d 8 0 1 1,Q.d 9 0 2 3,Q.s 10 0 4 4,Q.d 37 0 18 14,Q.ch 11,Q.a 96,Q.a 2,Q.f,Q.f,Q.f])) (by kernel_rfl)
 obtain ⟨s1,s2,s3,s4,s5,s6⟩:=zx8 hN (show Emb ρ (hk (Q.nC5 zbo (cF w b)) []) h from A.emb)
 have D:=zpa A
 refine ⟨⟨ρ 1,.sl (ρ 2) 0 97 (.dy 1),g0,⟨ρ 2,.dy 1,rfl⟩,s1,fun d hd G x=>?_,s2,s3,s4,s5,s6⟩,l0⟩
 obtain ⟨d,rfl⟩ : ∃ k,d=k + 3:=⟨d - 3,by omega⟩
 exact zrs (N:=N) (d:=d) (zam (x.at_ g1 l1) rfl) (D.ext x) (by omega) (by omega)
theorem zzk (hN:3000≤N):RightV N (v0 w b):=by
 have f:=List.all_eq_true.1 (zw3 (xB w b))
 refine ⟨zuq hN rfl rfl rfl,fun i hi=>?_,rfl,fun k hk=>?_,rfl,zwk w b,fun i hi=>?_,rfl,by show 97≤1000000;omega⟩
 ·have:=f i (List.mem_range.2 hi)
  simp only [Bool.and_eq_true,Bool.not_eq_true',decide_eq_false_iff_not] at this
  exact this.1
 ·have e:(v0 w b).im.getD k []=blank:=by
   show (List.replicate 6 blank).getD k []=blank
   rw [List.getD_eq_getElem?_getD,List.getElem?_replicate,if_pos (show k < 6 from hk)];rfl
  rw [e]
  refine ⟨rfl,?_⟩
  unfold zf3
  have h11:zcy k blank=11:=if_pos rfl
  rw [if_pos h11]
  show (zf4 (tl (xB w b)) 6 1 k == 0)=true
  rw [zof hk];rfl
 ·have:=f i (List.mem_range.2 hi)
  simp only [Bool.and_eq_true,Bool.not_eq_true',decide_eq_false_iff_not] at this
  exact this.2
end
end Lav
set_option maxRecDepth 100000
set_option linter.unusedSimpArgs false
namespace Lav
open Go (IntKind)
def stG (l:List Ev):MS→List Nat→MS
 | s,[]=>s
 | s,j :: r=>stG l (zch s (zcb l j)) r
section
variable {l:List Ev} {g:Nat} {f cd:Int} {B:List Nat}
theorem zqn:∀ {O:List Nat} {q:PG},q.first=true→(pgG l g f cd B q O).first=true
 | [],_,h=>h
 | j :: r,q,h=>by
  refine zqn (O:=r) (q:=zhz g f cd B q (zcb l j)) ?_
  show (if _ then _ else _)=true
  split
  ·rw [h];rfl
  ·exact h
theorem zqo:∀ {O:List Nat} {q:PG},q.last=true→(pgG l g f cd B q O).last=true
 | [],_,h=>h
 | j :: r,q,h=>by
  refine zqo (O:=r) (q:=zhz g f cd B q (zcb l j)) ?_
  show (if _ then _ else _)=true
  split
  ·rw [h];rfl
  ·exact h
theorem zqp:∀ {O:List Nat} {i:Nat} {q:PG},i < O.length→zbz (stG l q.s (O.take i)) (zcb l (O.getD i 0)) g f cd=true→frB (zch (stG l q.s (O.take i)) (zcb l (O.getD i 0))) g B=true→(pgG l g f cd B q O).first=true
 | [],_,_,hi,_,_=>absurd hi (Nat.not_lt_zero _)
 | j :: r,0,q,_,h1,h2=>by
  refine zqn (O:=r) (q:=zhz g f cd B q (zcb l j)) ?_
  show (if zbz q.s (zcb l j) g f cd=true then (q.first || frB (zch q.s (zcb l j)) g B) else q.first)=true
  rw [if_pos (show zbz q.s (zcb l j) g f cd=true from h1),show frB (zch q.s (zcb l j)) g B=true from h2,Bool.or_true]
 | j :: r,i + 1,q,hi,h1,h2=>zqp (O:=r) (i:=i) (q:=zhz g f cd B q (zcb l j)) (by simpa using hi) h1 h2
theorem zog:∀ {O:List Nat} {i:Nat} {q:PG},i < O.length→zbz (stG l q.s (O.take i)) (zcb l (O.getD i 0)) g f cd=true→laB (zch (stG l q.s (O.take i)) (zcb l (O.getD i 0))) g B=true→(pgG l g f cd B q O).last=true
 | [],_,_,hi,_,_=>absurd hi (Nat.not_lt_zero _)
 | j :: r,0,q,_,h1,h2=>by
  refine zqo (O:=r) (q:=zhz g f cd B q (zcb l j)) ?_
  show (if zbz q.s (zcb l j) g f cd=true then (q.last || laB (zch q.s (zcb l j)) g B) else q.last)=true
  rw [if_pos (show zbz q.s (zcb l j) g f cd=true from h1),show laB (zch q.s (zcb l j)) g B=true from h2,Bool.or_true]
 | j :: r,i + 1,q,hi,h1,h2=>zog (O:=r) (i:=i) (q:=zhz g f cd B q (zcb l j)) (by simpa using hi) h1 h2
end
abbrev sT (x:Nat→BitVec 8) (i:Nat):MS:=stG (tl x) (zdq 6 1) ((zc7 (stL (tl x)) 18).take i)
abbrev eT (x:Nat→BitVec 8) (i:Nat):Ev:=zcb (tl x) ((zc7 (stL (tl x)) 18).getD i 0)
theorem zzl (x:Nat→BitVec 8) (cd:Int) (B:List Nat) {k:Nat} (hk:k < 5):(zhi (tl x) 6 1 k 0 cd B).torn=true:=by
 match k,hk with
 | 0,_=>show _=true;kernel_rfl
 | 1,_=>show _=true;kernel_rfl
 | 2,_=>show _=true;kernel_rfl
 | 3,_=>show _=true;kernel_rfl
 | 4,_=>show _=true;kernel_rfl
theorem zz3 (x:Nat→BitVec 8) {k:Nat} (hk:k < 5):zbz (sT x (3 * k)) (eT x (3 * k)) k 0 0=true∧(zch (sT x (3 * k)) (eT x (3 * k))).bd.getD k []=z16∧zbz (sT x (3 * k + 1)) (eT x (3 * k + 1)) k 0 0=true∧(zch (sT x (3 * k + 1)) (eT x (3 * k + 1))).bd.getD k []=zh0 (x k):=by
 match k,hk with
 | 0,_=>exact ⟨by kernel_rfl,by kernel_rfl,by kernel_rfl,by kernel_rfl⟩
 | 1,_=>exact ⟨by kernel_rfl,by kernel_rfl,by kernel_rfl,by kernel_rfl⟩
 | 2,_=>exact ⟨by kernel_rfl,by kernel_rfl,by kernel_rfl,by kernel_rfl⟩
 | 3,_=>exact ⟨by kernel_rfl,by kernel_rfl,by kernel_rfl,by kernel_rfl⟩
 | 4,_=>exact ⟨by kernel_rfl,by kernel_rfl,by kernel_rfl,by kernel_rfl⟩
theorem ztd (x:Nat→BitVec 8):(zc7 (stL (tl x)) 18).length=18:=by kernel_rfl
section
variable {w:Nat} {b:BitVec 8} {k:Nat}
theorem zqq {x:Nat→BitVec 8} (hk:k < 5) {img:List (BitVec 8)} (hn:img≠blank) (h0:zeh k (img.drop 8)=img→(strOf (img.drop 8)).take 4=(strOf (zh0 (x k))).take 4∧(((strOf (img.drop 8)).drop 4).take 12=((strOf (zh0 (x k))).drop 4).take 12∨((strOf (img.drop 8)).drop 4).take 12=((strOf z16).drop 4).take 12)):zf3 (tl x) 6 1 k img=true:=by
 have fk:zf4 (tl x) 6 1 k=0:=zof (by omega)
 unfold zf3
 rw [fk]
 by_cases c1:zeh k (img.drop 8)=img
 ·have oc:zcy k img=0:=by
   show (if img=blank then (11:Int) else _)=0
   rw [if_neg hn,if_pos c1]
  have os:zjs k img=strOf (img.drop 8):=by
   show (if img=blank then [] else _)=_
   rw [if_neg hn,if_pos c1]
  rw [oc,os,if_neg (by decide),if_neg (by decide)]
  obtain ⟨h4,h12⟩:=h0 c1
  obtain ⟨t1,t2,t3,t4⟩:=zz3 x hk
  have hf:(zhi (tl x) 6 1 k 0 0 (strOf (img.drop 8))).first=true:=by
   refine zqp (O:=zc7 (stL (tl x)) (tl x).length) (i:=3 * k + 1) (by show _ < (zc7 (stL (tl x)) 18).length;rw [ztd];omega) t3 ?_
   show ((strOf ((zch (sT x (3 * k + 1)) (eT x (3 * k + 1))).bd.getD k [])).take 4 == _)=true
   rw [t4,h4];exact beq_self_eq_true _
  have hla:(zhi (tl x) 6 1 k 0 0 (strOf (img.drop 8))).last=true:=by
   rcases h12 with h | h
   ·refine zog (O:=zc7 (stL (tl x)) (tl x).length) (i:=3 * k + 1) (by show _ < (zc7 (stL (tl x)) 18).length;rw [ztd];omega) t3 ?_
    show (((strOf ((zch (sT x (3 * k + 1)) (eT x (3 * k + 1))).bd.getD k [])).drop 4).take 12 == _)=true
    rw [t4,h];exact beq_self_eq_true _
   ·refine zog (O:=zc7 (stL (tl x)) (tl x).length) (i:=3 * k) (by show _ < (zc7 (stL (tl x)) 18).length;rw [ztd];omega) t1 ?_
    show (((strOf ((zch (sT x (3 * k)) (eT x (3 * k))).bd.getD k [])).drop 4).take 12 == _)=true
    rw [t2,h];exact beq_self_eq_true _
  rw [hf,hla];rfl
 ·have oc:zcy k img=10:=by
   show (if img=blank then (11:Int) else _)=10
   rw [if_neg hn,if_neg c1]
  rw [oc,if_neg (by decide),if_pos rfl]
  exact zzl x _ _ hk
theorem zqr {x:Nat→BitVec 8} (hk:k < 6):zf3 (tl x) 6 1 k blank=true:=by
 unfold zf3
 have h11:zcy k blank=11:=if_pos rfl
 rw [if_pos h11,zof hk];rfl
theorem zzm (hk:k < 5) (x:BitVec 8) (a c:List (BitVec 8)) (hc:(zeh k (zh0 x)).take 12++a=c):c≠blank:=fun e=>by
 have h1:c.getD 4 0#8=BitVec.ofNat 8 (k + 1):=by rw [← hc];rfl
 rw [e] at h1
 have h2:(0#8:BitVec 8)=BitVec.ofNat 8 (k + 1):=h1
 have:=congrArg BitVec.toNat h2
 simp at this
 omega
theorem znz (hk:k < 5) (what:Nat):(zqi what (twm w b k) blank).length=24∧zf3 (tl (xB w b)) 6 1 k (zqi what (twm w b k) blank)=true∧(zqi what (twm w b k) blank).getD 8 1#8=0#8:=by
 match what with
 | 0=>exact ⟨rfl,zqr (by omega),rfl⟩
 | 1 =>
  refine ⟨rfl,zqq hk (zzm hk (xB w b k) ((twm w b k).drop 12) _ rfl) fun _=>⟨rfl,.inl rfl⟩,rfl⟩
 | 2 =>
  refine ⟨rfl,zqq hk (zzm hk (xB w b k) (blank.drop 12) _ rfl) fun _=>⟨rfl,.inr rfl⟩,rfl⟩
 | n + 3 =>
  show (blank.take 12++(twm w b k).drop 12).length=24∧zf3 (tl (xB w b)) 6 1 k (blank.take 12++(twm w b k).drop 12)=true∧(blank.take 12++(twm w b k).drop 12).getD 8 1#8=0#8
  refine ⟨rfl,?_,rfl⟩
  by_cases c1:blank.take 12++(twm w b k).drop 12=blank
  ·rw [c1];exact zqr (by omega)
  ·refine zqq hk c1 fun h=>?_
   have h1:(zeh k ((blank.take 12++(twm w b k).drop 12).drop 8)).getD 4 0#8=BitVec.ofNat 8 (k + 1):=rfl
   rw [h] at h1
   have h2:(0#8:BitVec 8)=BitVec.ofNat 8 (k + 1):=h1
   have:=congrArg BitVec.toNat h2
   simp at this
   omega
end
def tim (w:Nat) (b:BitVec 8) (bits:List (BitVec 8)):List (List (BitVec 8)):=zeq bits [0,1,2,3,4] (twm w b) (List.replicate 6 blank) 5
theorem zte (w:Nat) (b:BitVec 8) (bits:List (BitVec 8)) {k:Nat} (hk:k < 6):((tim w b bits).getD k []).length=24∧zf3 (tl (xB w b)) 6 1 k ((tim w b bits).getD k [])=true∧((tim w b bits).getD k []).getD 8 1#8=0#8:=by
 match k,hk with
 | 0,_=>exact znz (k:=0) (by omega) (zgq bits 0)
 | 1,_=>exact znz (k:=1) (by omega) (zgq bits 1)
 | 2,_=>exact znz (k:=2) (by omega) (zgq bits 2)
 | 3,_=>exact znz (k:=3) (by omega) (zgq bits 3)
 | 4,_=>exact znz (k:=4) (by omega) (zgq bits 4)
 | 5,_=>exact ⟨rfl,zqr (k:=5) (by omega),rfl⟩
end Lav
set_option maxRecDepth 100000
namespace Lav
open Go (IntKind)
section
variable {N d:Nat} {h0 h:Heap} {ρ:Nat→Nat} {w:Nat} {b:BitVec 8}
theorem DKs.keep {p pg m n:Nat} {c:Cap} {vs:List CV} {es:List Ent} {down:Bool} {im:List (List (BitVec 8))} {S:List Nat} {h':Heap} (D:DKs h p pg m n c vs es down im) (x:ExtB S h h') (hS:∀ s∈S,s≠p∧s≠pg∧s≠m∧∃ l,h.get s=some (.cells l)∧l.length≠24):DKs h' p pg m n c vs es down im:=by
 obtain ⟨acc,fl,ha⟩:=D.a
 obtain ⟨ck,hm⟩:=D.mm
 refine ⟨⟨acc,fl,x.at_ ha D.ap (fun hs=>(hS _ hs).1 rfl)⟩,x.at_ D.b D.bp (fun hs=>(hS _ hs).2.1 rfl),⟨ck,x.at_ hm D.mp (fun hs=>(hS _ hs).2.2.1 rfl)⟩,Nat.lt_of_lt_of_le D.ap x.1,Nat.lt_of_lt_of_le D.bp x.1,Nat.lt_of_lt_of_le D.mp x.1,D.vl,D.il,fun i hi=>(D.ii i hi).extB x fun k hk hs=>?_,D.n1,D.n2,D.n3,D.s1⟩
 obtain ⟨_,_,_,l,hl,hn⟩:=hS k hs
 obtain ⟨h24,bb,cc,e,_,_,hg⟩:=D.ii i hi
 rw [e] at hk
 simp only [blk,Option.some.injEq] at hk
 rw [hk,hl] at hg
 simp only [Option.some.injEq,Blk.cells.injEq] at hg
 apply hn
 rw [hg];unfold u8s;rw [List.length_map];exact h24
def ze2 (ρ:Nat→Nat) (now:Int) (down:Bool):List CV:=[.int .i64 6,.int .i64 2,.int .i64 1,.int .i64 1,.ptr (ρ 3) 0,.ptr (ρ 4) 0,.ptr (ρ 5) 0,.int .i64 1,.sl (ρ 6) 0 16 (.dy 1),.int .i64 (-1),.int .i64 0,.int .i64 0,.sl (ρ 7) 0 6 (.ex 6),.sl (ρ 8) 0 1 (.dy 1),.sl (ρ 9) 0 2 (.dy 3),.sl (ρ 10) 0 4 (.ex 4),.sl (ρ 37) 0 18 (.dy 14),.ch (ρ 11),.int .i64 now,.int .i64 2,.bool false,.bool false,.bool down]
theorem zwl (hN:3000≤N) (A:At h0 ρ (Q.nC5 zbo (cF w b)) h) {bv:CV} {bits:List (BitVec 8)} (hb:Bytes h bv bits) (hbl:∀ k,blk bv=some k→k < h0.next) :
  ∃ h' vs',evCallO OS table N (d + 4) 29 [.c (.ptr (ρ 1) 0),.agg [.int .i64 4,.int .i64 0,.int .i64 0,.int .i64 0,.int .i64 0,.int .i64 0,.int .i64 0,.int .i64 0,.int .i64 0,.nils,bv]] h=some (.c (.bool true),h') ∧
   DKs h' (ρ 3) (ρ 12) (ρ 13) 6 (.dy 1) vs' [] true (tim w b bits)∧h'.get (ρ 1)=some (.cells (ze2 ρ 97 true))∧ExtB [ρ 1,ρ 3,ρ 12,ρ 13] h h':=by
 have L:=zqj zbo (cF w b)
 have e0:=(Ext.refl h).new (.cells [.int .i64 4,.int .i64 0,.int .i64 0,.int .i64 0,.int .i64 0,.int .i64 0,.int .i64 0,.int .i64 0,.int .i64 0,.nils,bv])
 have A0:=A.new (.cells [.int .i64 4,.int .i64 0,.int .i64 0,.int .i64 0,.int .i64 0,.int .i64 0,.int .i64 0,.int .i64 0,.int .i64 0,.nils,bv])
 have gb:(h.new (.cells [.int .i64 4,.int .i64 0,.int .i64 0,.int .i64 0,.int .i64 0,.int .i64 0,.int .i64 0,.int .i64 0,.int .i64 0,.nils,bv])).get h.next=some (.cells [.int .i64 4,.int .i64 0,.int .i64 0,.int .i64 0,.int .i64 0,.int .i64 0,.int .i64 0,.int .i64 0,.int .i64 0,.nils,bv]):=zb8
 have n0:(h.new (.cells [.int .i64 4,.int .i64 0,.int .i64 0,.int .i64 0,.int .i64 0,.int .i64 0,.int .i64 0,.int .i64 0,.int .i64 0,.nils,bv])).next=h.next + 1:=rfl
 generalize hg0:h.new (.cells [.int .i64 4,.int .i64 0,.int .i64 0,.int .i64 0,.int .i64 0,.int .i64 0,.int .i64 0,.int .i64 0,.int .i64 0,.nils,bv])=H0 at e0 A0 gb n0
 obtain ⟨g1,l1⟩:=A0.blk (i:=1) (b:=Q.cs ([Q.a 6,Q.a 2,Q.a 1,Q.a 1,Q.p 3 0,Q.p 4 0,Q.p 5 0,Q.a 1,Q.d 6 0 16 1,Q.m 0,Q.a 0,Q.a 0,Q.s 7 0 6 6,Q.d 8 0 1 1,Q.d 9 0 2 3,Q.s 10 0 4 4,Q.d 37 0 18 14,Q.ch 11,Q.a 96,Q.a 2,Q.f,Q.f,Q.f])) (by kernel_rfl)
 have g1':H0.get (ρ 1)=some (.cells (ze2 ρ 96 false)):=g1
 have D0:=zpa A0
 obtain ⟨H1,vs',fc,D1,x1⟩:=zwf (N:=N) (d:=d) (ks:=[0,1,2,3,4]) (wm:=twm w b) D0 (hb.ext e0) rfl rfl (by simp) (by simp) (by simp) (ztb A0) (fun k hk=>by
  have h1:=hbl k hk
  have y3:=A.young 3 (by rw [L];omega)
  have y12:=A.young 12 (by rw [L];omega)
  have y13:=A.young 13 (by rw [L];omega)
  omega) (by omega)
 have ne:∀ i,i < 52→i≠1→ρ 1≠ρ i:=fun i h1 h2=>A.ne (by rw [L];omega) (by rw [L];omega) (by omega)
 have p1:H1.get (ρ 1)=some (.cells (ze2 ρ 96 false)):=x1.at_ g1' l1 (by simp [ne 3,ne 12,ne 13])
 have w22:H1.write (ρ 1) 22 [.bool true]=some (H1.put (ρ 1) (.cells (ze2 ρ 96 true))):=by rw [zef p1 (by simp [ze2])];rfl
 have p2:(H1.put (ρ 1) (.cells (ze2 ρ 96 true))).get (ρ 1)=some (.cells (ze2 ρ 96 true)):=zc9
 have x2:ExtB [ρ 1] H1 (H1.put (ρ 1) (.cells (ze2 ρ 96 true))):=(ExtB.refl _ _).put (.inr (by simp)) _
 have D2:=D1.keep x2 (fun s hs=>by
  have:s=ρ 1:=by simpa using hs
  subst this
  exact ⟨ne 3 (by omega) (by omega),ne 12 (by omega) (by omega),ne 13 (by omega) (by omega),_,p1,by simp [ze2]⟩)
 generalize H1.put (ρ 1) (.cells (ze2 ρ 96 true))=H2 at w22 p2 x2 D2
 have r18:H2.read (ρ 1) 18 1=some [.int .i64 96]:=zam p2 rfl
 have w18:H2.write (ρ 1) 18 [.int .i64 97]=some (H2.put (ρ 1) (.cells (ze2 ρ 97 true))):=by rw [zef p2 (by simp [ze2])];rfl
 have x3:ExtB [ρ 1] H2 (H2.put (ρ 1) (.cells (ze2 ρ 97 true))):=(ExtB.refl _ _).put (.inr (by simp)) _
 have D3:=D2.keep x3 (fun s hs=>by
  have:s=ρ 1:=by simpa using hs
  subst this
  exact ⟨ne 3 (by omega) (by omega),ne 12 (by omega) (by omega),ne 13 (by omega) (by omega),_,p2,by simp [ze2]⟩)
 have p3:(H2.put (ρ 1) (.cells (ze2 ρ 97 true))).get (ρ 1)=some (.cells (ze2 ρ 97 true)):=zc9
 generalize H2.put (ρ 1) (.cells (ze2 ρ 97 true))=H3 at w18 x3 D3 p3
 have r22:H0.read (ρ 1) 22 1=some [.bool false]:=zam g1' rfl
 have r4:H0.read (ρ 1) 4 1=some [.ptr (ρ 3) 0]:=zam g1' rfl
 have k0:H0.read h.next 0 1=some [.int .i64 4]:=zam gb rfl
 have k10:H0.read h.next 10 1=some [bv]:=zam gb rfl
 have a97:IntKind.i64.wrap (96 + 1)=97:=rfl
 rw [zbp (F:=ir29) rfl rfl rfl]
 unfold ir29
 rw [zbv]
 simp only [zbm,zap,zac,zaq,zat,zao,zal,zau,zay,zax,zbq,zad,zai,zab,zas,zae,zaf,zar,zav,zbn,za8,zix,za3,zbg,za7,zbb,zbi,za6,zbe,zko,zbh,zag,zaw,X.eval,zak,zah,List.map_cons,List.map_nil,List.getD_cons_zero,List.getD_cons_succ,List.getD_nil,List.set_cons_zero,List.set_cons_succ,zaz,zan,zaa,zaj,intArith,shift,zf1,cond_true,cond_false,BEq.rfl,AV.cells,AV.ofCells,List.length_cons,List.length_nil,List.nil_append,List.cons_append,Nat.zero_add,Nat.add_zero,Nat.reduceAdd,Int.reduceBEq,Bool.not_false,Int.reduceLT,decide_false,zb5,zby,zbs,zbr,zbt,zd2,zco,zcn,zgk,zb1,zb2,zb6,zcc,zct,List.reverse_cons,List.reverse_nil,hg0,zce,zgy,zdn,zdf,za1,za5,za9,AV.ofCells,r22,k0,r4,k10,fc,zbl,w22,r18,a97,w18,zbu,RV.eval]
 refine ⟨H3,vs',rfl,D3,p3,?_⟩
 exact (e0.b _).trans ((x1.mono (fun j hj=>by simp at hj ⊢;omega)).trans ((x2.mono (by simp)).trans (x3.mono (by simp))))
end
end Lav
set_option maxRecDepth 100000
namespace Lav
open Go (IntKind)
section
variable {N d:Nat} {h0 h:Heap} {ρ:Nat→Nat} {w:Nat} {b:BitVec 8}
theorem zzn {y:CV} (F:Fras h y tfs) (hN:10≤N):evCallO OS table N (d + 1) 30 [.c y] h=some (.c (.bool false),h):=by
 rcases F with ⟨_,h2⟩ | ⟨bb,c,rfl,hb,hr⟩
 ·cases h2
 have r:=hr 0 (by decide)
 have r0:h.read bb 0 1=some [.int .i64 1]:=ze5 (b:=0) (c:=1) r (by decide)
 have r2:h.read bb 2 1=some [.int .i64 0]:=ze5 (b:=2) (c:=1) r (by decide)
 obtain ⟨M,rfl⟩ : ∃ M,N=M + 1:=⟨N - 1,by omega⟩
 have b0:Nat.blt 0 2=true:=rfl
 have L:∀ loc,zb3 ir30_k0 loc=[.c (.sl bb 0 2 c),.junk,.c (.int .i64 0),.junk,.junk]→∃ l',zc5 (evCallO OS table (M + 1) d) (M + 1) ir30_k0 ir30_l0 (M + 1) loc h=some (.ret,.c (.sl bb 0 2 c) :: .c (.bool false) :: l',h):=by
  intro loc hloc
  rw [zfu,hloc]
  unfold ir30_l0
  simp only [zap,zac,zca,zaq,zat,zao,zau,zc8,zax,zbq,zad,zai,zab,zas,zae,zaf,zar,zav,za8,zbc,za3,zbf,za6,zbe,zag,X.eval,zak,zah,List.getD_cons_zero,List.getD_cons_succ,List.set_cons_zero,List.set_cons_succ,zaz,zan,zaa,zaj,intArith,shift,cond_true,cond_false,BEq.rfl,AV.ofCells,Nat.zero_add,Nat.add_zero,Int.reduceBEq,Int.reduceLT,decide_true,decide_false,zb0,Int.cast_ofNat_Int,zbk,zls,b0,za1,za5,za9,AV.ofCells,r0,r2,Nat.zero_mul]
  exact ⟨_,rfl⟩
 obtain ⟨l',hl⟩:=L [.c (.sl bb 0 2 c),.c (.bool false),.c (.int .i64 0),.tup [],.tup []] rfl
 rw [zbp (F:=ir30) rfl rfl rfl]
 unfold ir30
 rw [zbv]
 have hl':zc5 (evCallO OS table (M + 1) d) (M + 1) ir30_k0 ir30_l0 (M + 1) [.c (.sl bb 0 (List.length tfs) c),.c (.bool false),.c (.int .i64 0),.tup [],.tup []] h=some (.ret,.c (.sl bb 0 2 c) :: .c (.bool false) :: l',h):=hl
 simp only [zbm,zap,zac,zca,zaq,zau,zc8,zci,zad,zai,zab,zae,zaf,zar,zbb,zbi,X.eval,zah,List.map_cons,List.map_nil,List.getD_cons_zero,List.getD_cons_succ,List.getD_nil,List.set_cons_zero,List.set_cons_succ,hl',zbu,RV.eval]
theorem zzo (T:Int→Int→Int) (c:Nat→Nat):(live 52 [0,1,2,3,12,13]).map (fun i=>(Q.nX T c)[i]?)=(live 52 [0,1,2,3,12,13]).map (fun i=>(Q.nC5 T c)[i]?):=by kernel_rfl
theorem zzp (T:Int→Int→Int) (c:Nat→Nat):(Q.nX T c).length=52:=by kernel_rfl
theorem zz4 (T:Int→Int→Int) (c:Nat→Nat) (ρ:Nat→Nat):((Q.nX T c)[1]?).map (Blk.mv τ0 ρ)=some (.cells (ze2 ρ 97 true)):=by kernel_rfl
theorem zw4 (A:At h0 ρ (Q.nC5 zbo (cF w b)) h) {h':Heap} (p1:h'.get (ρ 1)=some (.cells (ze2 ρ 97 true))) (x:ExtB [ρ 0,ρ 1,ρ 2,ρ 3,ρ 12,ρ 13] h h'):Emb ρ (hk (Q.nX zbo (cF w b)) [0,2,3,12,13]) h':=by
 have L:=zqj zbo (cF w b)
 have key:∀ i,(hk (Q.nX zbo (cF w b)) [0,2,3,12,13]).get i≠none→i < 52∧i ∉ [0,2,3,12,13]:=fun i hi=>by
  rw [zj8] at hi
  by_cases c1:i∈[0,2,3,12,13]
  ·rw [if_pos c1] at hi;exact absurd rfl hi
  ·rw [if_neg c1] at hi
   refine ⟨?_,c1⟩
   refine Nat.lt_of_not_le fun hn=>hi (List.getElem?_eq_none ?_)
   rw [zzp];exact hn
 refine ⟨fun i bb hi=>?_,fun i j hi hj e=>?_⟩
 ·obtain ⟨h1,h2⟩:=key i (by rw [hi];simp)
  rw [zj8,if_neg h2] at hi
  refine ⟨by rw [zh4,zzp];exact h1,Nat.lt_of_lt_of_le (A.emb.lt (by rw [L];exact h1)) x.1,?_⟩
  by_cases c1:i=1
  ·subst c1
   have:=zz4 zbo (cF w b) ρ
   rw [hi] at this
   rw [p1];exact this.symm
  ·have hm:i∈live 52 [0,1,2,3,12,13]:=live_mem.2 ⟨h1,by simp at h2 ⊢;omega⟩
   have:=(List.map_inj_left.1 (zzo zbo (cF w b))) i hm
   rw [hi] at this
   obtain ⟨g,l⟩:=A.blk this.symm
   have ne:∀ j,j < 52→i≠j→ρ i≠ρ j:=fun j hj hn=>A.ne (by rw [L];exact h1) (by rw [L];exact hj) hn
   refine x.at_ g l ?_
   simp only [List.mem_cons,List.not_mem_nil,or_false,not_or] at h2 ⊢
   exact ⟨ne 0 (by omega) (by omega),ne 1 (by omega) (by omega),ne 2 (by omega) (by omega),ne 3 (by omega) (by omega),ne 12 (by omega) (by omega),ne 13 (by omega) (by omega)⟩
 ·exact A.emb.inj i j (by rw [zhm (by rw [L];exact (key i hi).1)];simp) (by rw [zhm (by rw [L];exact (key j hj).1)];simp) e
def zh1 (ρ:Nat→Nat) (fb n:Nat):List CV:=[.ptr (ρ 1) 0,.int .i64 6,.int .i64 2,.int .i64 1,.int .i64 1,.sl fb 0 n (.dy 1),.int .i64 2,.int .i64 2]
theorem zwm (hN:3000≤N) (hd:64≤d) (A:At h0 ρ (Q.nC5 zbo (cF w b)) h) {bv:CV} {bits:List (BitVec 8)} (hb:Bytes h bv bits) (hbl:∀ k,blk bv=some k→k < h0.next) :
  ∃ h',evCallO OS table N (d + 1) 14 [.c (.ptr (ρ 0) 0),.agg [.int .i64 4,.int .i64 0,.int .i64 0,.int .i64 0,.int .i64 0,.int .i64 0,.int .i64 0,.int .i64 0,.int .i64 0,.nils,bv]] h=some (.c (.bool true),h')∧Sees N h' (ρ 0) (v1 w b (tim w b bits)):=by
 obtain ⟨d,rfl⟩ : ∃ k,d=k + 4:=⟨d - 4,by omega⟩
 have L:=zqj zbo (cF w b)
 have ne:∀ i j,i < 52→j < 52→i≠j→ρ i≠ρ j:=fun i j h1 h2 h3=>A.ne (by rw [L];exact h1) (by rw [L];exact h2) h3
 have lt:∀ i,i < 52→ρ i < h.next:=fun i hi=>A.emb.lt (by rw [L];exact hi)
 obtain ⟨g0,-⟩:=A.blk (i:=0) (b:=Q.cs ([Q.p 1 0,Q.a 6,Q.a 2,Q.a 1,Q.a 1,Q.d 2 0 97 1,Q.a 2,Q.a 2])) (by kernel_rfl)
 obtain ⟨g2,-⟩:=A.blk (i:=2) (b:=Q.cs (Q.rp 97 [Q.f])) (by kernel_rfl)
 replace g0:h.get (ρ 0)=some (.cells (zh1 ρ (ρ 2) 97)):=g0
 replace g2:h.get (ρ 2)=some (.cells (zeros 97 [.bool false])):=g2
 have e0:=(Ext.refl h).new (.cells [.int .i64 4,.int .i64 0,.int .i64 0,.int .i64 0,.int .i64 0,.int .i64 0,.int .i64 0,.int .i64 0,.int .i64 0,.nils,bv])
 have A0:=A.new (.cells [.int .i64 4,.int .i64 0,.int .i64 0,.int .i64 0,.int .i64 0,.int .i64 0,.int .i64 0,.int .i64 0,.int .i64 0,.nils,bv])
 have gb:(h.new (.cells [.int .i64 4,.int .i64 0,.int .i64 0,.int .i64 0,.int .i64 0,.int .i64 0,.int .i64 0,.int .i64 0,.int .i64 0,.nils,bv])).get h.next=some (.cells [.int .i64 4,.int .i64 0,.int .i64 0,.int .i64 0,.int .i64 0,.int .i64 0,.int .i64 0,.int .i64 0,.int .i64 0,.nils,bv]):=zb8
 have n0:(h.new (.cells [.int .i64 4,.int .i64 0,.int .i64 0,.int .i64 0,.int .i64 0,.int .i64 0,.int .i64 0,.int .i64 0,.int .i64 0,.nils,bv])).next=h.next + 1:=rfl
 generalize hg0:h.new (.cells [.int .i64 4,.int .i64 0,.int .i64 0,.int .i64 0,.int .i64 0,.int .i64 0,.int .i64 0,.int .i64 0,.int .i64 0,.nils,bv])=G0 at e0 A0 gb n0
 obtain ⟨G1,vs',f1,D1,p1,x1⟩:=zwl (N:=N) (d:=d) hN A0 (hb.ext e0) hbl
 have out:∀ j,j < h.next + 1→j≠ρ 1→j≠ρ 3→j≠ρ 12→j≠ρ 13→G1.get j=G0.get j:=fun j hj h1 h2 h3 h4=>x1.2 j (by omega) (by simp;exact ⟨h1,h2,h3,h4⟩)
 have b1:G1.get h.next=some (.cells [.int .i64 4,.int .i64 0,.int .i64 0,.int .i64 0,.int .i64 0,.int .i64 0,.int .i64 0,.int .i64 0,.int .i64 0,.nils,bv]):=(out _ (by omega) (by have:=lt 1 (by omega);omega) (by have:=lt 3 (by omega);omega) (by have:=lt 12 (by omega);omega) (by have:=lt 13 (by omega);omega)).trans gb
 have q0:G1.get (ρ 0)=some (.cells (zh1 ρ (ρ 2) 97)):=(out _ (by have:=lt 0 (by omega);omega) (ne 0 1 (by omega) (by omega) (by omega)) (ne 0 3 (by omega) (by omega) (by omega)) (ne 0 12 (by omega) (by omega) (by omega)) (ne 0 13 (by omega) (by omega) (by omega))).trans (e0.at_ g0 (lt 0 (by omega)))
 have q2:G1.get (ρ 2)=some (.cells (zeros 97 [.bool false])):=(out _ (by have:=lt 2 (by omega);omega) (ne 2 1 (by omega) (by omega) (by omega)) (ne 2 3 (by omega) (by omega) (by omega)) (ne 2 12 (by omega) (by omega) (by omega)) (ne 2 13 (by omega) (by omega) (by omega))).trans (e0.at_ g2 (lt 2 (by omega)))
 have nG:h.next + 1≤G1.next:=by have:=x1.1;omega
 have E1:=zw4 A p1 ((e0.b _).trans (x1.mono (fun j hj=>by simp at hj ⊢;omega)))
 obtain ⟨s1,s2,s3,s4,s5,s6⟩:=zrr hN E1
 have xs:Ext G1 (G1.skip 1):=⟨Nat.le_succ _,fun _ _=>rfl⟩
 obtain ⟨y,G2,f2,F2,x2⟩:=s2 (d + 4) (by omega) (G1.skip 1) xs
 have x12:=xs.trans x2
 have n2:G1.next < G2.next:=x2.1
 have ff3:=zzn (N:=N) (d:=d + 3) F2 (by omega)
 have r0:G0.read (ρ 0) 0 1=some [.ptr (ρ 1) 0]:=zam (e0.at_ g0 (lt 0 (by omega))) rfl
 have k0:G0.read h.next 0 11=some [.int .i64 4,.int .i64 0,.int .i64 0,.int .i64 0,.int .i64 0,.int .i64 0,.int .i64 0,.int .i64 0,.int .i64 0,.nils,bv]:=by rw [zdi gb (by simp)];rfl
 have kk:G1.read h.next 0 1=some [.int .i64 4]:=zam b1 rfl
 have hsk:∀ i o n,(G1.skip 1).read i o n=G1.read i o n:=fun _ _ _=>rfl
 have t0:G1.read (ρ 0) 0 1=some [.ptr (ρ 1) 0]:=zam q0 rfl
 have t5:G1.read (ρ 0) 5 1=some [.sl (ρ 2) 0 97 (.dy 1)]:=zam q0 rfl
 have u5:G2.read (ρ 0) 5 1=some [.sl (ρ 2) 0 97 (.dy 1)]:=(x12.read (by have:=lt 0 (by omega);omega)).trans t5
 have nn:∀ j,j < 52→ρ j≠G1.next:=fun j hj=>by have:=lt j hj;omega
 have v2:(G2.put G1.next (.cells [.bool false])).get (ρ 2)=some (.cells (zeros 97 [.bool false])):=(zcl (nn 2 (by omega))).trans (x12.at_ q2 (by have:=lt 2 (by omega);omega))
 have v0':(G2.put G1.next (.cells [.bool false])).get (ρ 0)=some (.cells (zh1 ρ (ρ 2) 97)):=(zcl (nn 0 (by omega))).trans (x12.at_ q0 (by have:=lt 0 (by omega);omega))
 have src:source (G2.put G1.next (.cells [.bool false])) 1 (.c (.sl G1.next 0 1 (.ex 1)))=some (0 + 1,[.bool false]):=zg6 zc9 rfl
 have x23:ExtB [G1.next] G2 (G2.put G1.next (.cells [.bool false])):=(ExtB.refl _ _).put (.inr (by simp)) _
 have n3:(G2.put G1.next (.cells [.bool false])).next=G2.next:=rfl
 generalize hg3:G2.put G1.next (.cells [.bool false])=G3 at v2 v0' src x23 n3
 have y2:=A.young 2 (by rw [L];omega)
 have hn0:h0.next≤h.next:=A.ext.1
 have m3:Mine 1 h0 G3 (.sl (ρ 2) 0 97 (.dy 1)) 97 (zeros 97 [.bool false]):=⟨rfl,.inr ⟨ρ 2,rfl,v2,y2,by have:=lt 2 (by omega);omega⟩⟩
 obtain ⟨G4,a4,m4,n4,k4⟩:=zjg (m:=0) m3 (by omega) src rfl (by omega)
 have w0:G4.get (ρ 0)=some (.cells (zh1 ρ (ρ 2) 97)):=(k4 _ (by have:=lt 0 (by omega);omega) (fun e=>by simp only [blk,Option.some.injEq] at e;exact ne 2 0 (by omega) (by omega) (by omega) e)).trans v0'
 have w5:G4.write (ρ 0) 5 [.sl G3.next 0 (97 + (0 + 1)) (.dy 1)]=some (G4.put (ρ 0) (.cells (zh1 ρ G3.next 98))):=by rw [zef w0 (by simp [zh1])];rfl
 rw [zbp (F:=ir14) rfl rfl rfl]
 unfold ir14
 rw [zbv]
 simp only [zbm,zap,zac,zaq,zat,zal,zax,zbq,zad,zai,zab,zae,zaf,zar,zav,zbn,za3,za7,zc0,zdh,zbb,zbi,za6,zcx,zbh,zag,zaw,X.eval,zak,zah,List.map_cons,List.map_nil,List.getD_cons_zero,List.getD_cons_succ,List.getD_nil,List.set_cons_zero,List.set_cons_succ,zaz,zcj,zan,zaa,zaj,intArith,shift,cond_true,cond_false,BEq.rfl,zb4,zb7,AV.cells,AV.ofCells,List.length_cons,List.length_nil,zeros,zdo,setMany,List.nil_append,List.cons_append,Nat.ble,Nat.zero_add,Nat.add_zero,Nat.reduceAdd,Nat.reduceBEq,Int.reduceBEq,Bool.and_true,Bool.not_true,Int.reduceLT,decide_false,zb5,zby,zbs,zbr,zbt,zd2,zco,zyy,zcn,zgk,zg4,zb1,zb2,zga,zfv,ze9,zex,zfw,zfx,zfy,zfa,zgb,zfz,zgc,zb6,zcc,zct,List.reverse_cons,List.reverse_nil,hg0,zce,zgy,zpe,zwu,zhx,zdf,za1,za5,za9,AV.ofCells,r0,k0,f1,kk,hsk,t0,t5,f2,ff3,hg3,a4,u5,zbl,w5]
 have z0:(G4.put (ρ 0) (.cells (zh1 ρ G3.next 98))).get (ρ 0)=some (.cells (zh1 ρ G3.next 98)):=zc9
 have x15:ExtB [ρ 0,ρ 2] G1 (G4.put (ρ 0) (.cells (zh1 ρ G3.next 98))):=by
  refine ⟨by show G1.next≤G4.next;omega,fun j hj hn=>?_⟩
  simp only [List.mem_cons,List.not_mem_nil,or_false,not_or] at hn
  rw [zcl hn.1,k4 j (by omega) (fun e=>by simp only [blk,Option.some.injEq] at e;exact hn.2 e.symm)]
  exact (x23.2 j (by omega) (by simp;omega)).trans (x12.2 j hj)
 generalize G4.put (ρ 0) (.cells (zh1 ρ G3.next 98))=G5 at z0 x15
 have D5:=D1.keep x15 (fun s hs=>by
  simp only [List.mem_cons,List.not_mem_nil,or_false] at hs
  rcases hs with rfl | rfl
  ·exact ⟨ne 0 3 (by omega) (by omega) (by omega),ne 0 12 (by omega) (by omega) (by omega),ne 0 13 (by omega) (by omega) (by omega),_,q0,by simp [zh1]⟩
  ·exact ⟨ne 2 3 (by omega) (by omega) (by omega),ne 2 12 (by omega) (by omega) (by omega),ne 2 13 (by omega) (by omega) (by omega),_,q2,by decide⟩)
 have l1:ρ 1 < G1.next:=by have:=lt 1 (by omega);omega
 have p5:G5.get (ρ 1)=some (.cells (ze2 ρ 97 true)):=x15.at_ p1 l1 (by simp;exact ⟨ne 1 0 (by omega) (by omega) (by omega),ne 1 2 (by omega) (by omega) (by omega)⟩)
 have E5:=zw4 A p5 (((e0.b _).trans (x1.mono (fun j hj=>by simp at hj ⊢;omega))).trans (x15.mono (fun j hj=>by simp at hj ⊢;omega)))
 obtain ⟨t1,t2,t3,t4,t5,t6⟩:=zrr hN E5
 refine ⟨G5,rfl,⟨ρ 1,.sl G3.next 0 98 (.dy 1),z0,⟨_,_,rfl⟩,t1,fun d hd G x=>?_,t2,t3,t4,t5,t6⟩,by have:=x15.1;have:=lt 0 (by omega);omega⟩
 obtain ⟨d,rfl⟩ : ∃ k,d=k + 3:=⟨d - 3,by omega⟩
 exact zrs (N:=N) (d:=d) (zam (x.at_ p5 (Nat.lt_of_lt_of_le l1 x15.1)) rfl) (D5.ext x) (by omega) (by omega)
end
end Lav
set_option maxRecDepth 100000
namespace Lav
open Go (IntKind)
theorem good_some {x:Option (AV × Heap)} (e:∃ h',x=some (.c (.bool true),h')):zsg x=true:=by obtain ⟨h',rfl⟩:=e;rfl
theorem zzq (a:Int):∃ w:Nat,w < 3∧IntKind.i64.wrap (Int.tmod (IntKind.u64.wrap a) 3)=(w:Int):=by
 have h0:0≤IntKind.u64.wrap a:=by simp only [IntKind.wrap,IntKind.bits,IntKind.signed];simp;omega
 generalize IntKind.u64.wrap a=x at *
 rw [Int.tmod_eq_emod_of_nonneg h0]
 exact ⟨(x % 3).toNat,by omega,by rw [zgf (by omega) (by omega)];omega⟩
theorem topTorn {h:Heap} {a0:Int} {b:BitVec 8} {bv:CV} {bits:List (BitVec 8)} (hb:Bytes h bv bits) (hbk:∀ k,blk bv=some k→k < h.next):∃ h',evCallO OS table 3000 66 7 [.c (.int .i64 a0),.c (.int .u8 (b.toNat:Int)),.c bv] h=some (.c (.bool true),h'):=by
 obtain ⟨w,hw,hwv⟩:=zzq a0
 obtain ⟨ρ,g0,e0,A,-,-,-⟩:=zen zc1 zcr (Nat.le_refl 3000) (by omega) (show 60≤65 by omega) (Q.ns0 zbo (cF w b)) (Q.ns0f zbo (cF w b)) (At.empty h)
 have f0:evCallO OS table 3000 65 24 [.agg [.int .i64 6,.int .i64 2,.int .i64 1,.int .i64 1]] h=some (.c (.ptr (ρ 0) 0),g0):=e0
 have lb:∀ loc vals H,za2 loc (.c bv :: vals) H (.len .sl (.val 0))=some (.c (.int .i64 (bits.length:Int))):=fun _ _ _=>hb.len rfl
 rw [zbp (F:=ir7) rfl rfl rfl]
 unfold ir7
 rw [zbv]
 by_cases c1:bits.length > 10
 ·obtain ⟨h9,e9,-⟩:=zwv (N:=3000) (d:=64) (Nat.le_refl _) (by omega) g0
  have v1:decide ((bits.length:Int) > 10)=true:=decide_eq_true (by omega)
  simp only [zbm,zap,zac,zca,zaq,zat,zao,zbq,zad,zai,zab,zas,zae,zaf,zar,zfe,zav,za8,zix,zbc,zba,za7,zbb,zbi,za6,zbe,zko,zhd,zag,X.eval,zak,zah,List.map_cons,List.map_nil,List.getD_cons_zero,List.getD_cons_succ,List.getD_nil,List.set_cons_zero,List.set_cons_succ,zaz,zan,zaa,zaj,zd8,intArith,shift,zf1,cond_true,cond_false,BEq.rfl,zb4,zb7,AV.cells,List.length_cons,List.length_nil,zdo,setMany,Nat.ble,Nat.zero_add,Nat.reduceAdd,Int.reduceBEq,Bool.not_false,Int.reduceLT,decide_false,zds,zdl,f0,hwv,lb,v1,e9,zbu,RV.eval]
  exact ⟨h9,rfl⟩
 have nb:decide ((bits.length:Int) > 10)=false:=decide_eq_false (by omega)
 obtain ⟨c0,r0,G0,t0,k0,A0,p0⟩:=tb0 (N:=3000) (d:=65) (Nat.le_refl _) (by omega) b bv A rfl
 obtain ⟨c1,r1,G1,t1,k1,A1,p1⟩:=tb1 (N:=3000) (d:=65) (Nat.le_refl _) (by omega) b bv A0 p0
 obtain ⟨c2,r2,G2,t2,k2,A2,p2⟩:=tb2 (N:=3000) (d:=65) (Nat.le_refl _) (by omega) b bv A1 p1
 obtain ⟨c3,r3,G3,t3,k3,A3,p3⟩:=tb3 (N:=3000) (d:=65) (Nat.le_refl _) (by omega) b bv A2 p2
 obtain ⟨c4,r4,G4,t4,k4,A4,p4⟩:=tb4 (N:=3000) (d:=65) (Nat.le_refl _) (by omega) b bv A3 p3
 obtain ⟨c5,r5,G5,t5,k5,A5,p5⟩:=tb5 (N:=3000) (d:=65) (Nat.le_refl _) (by omega) b bv A4 p4
 have t6:ev (evCallO OS table 3000 65) 3000 ir7_l1 [.junk,.c (.int .u8 (b.toNat:Int)),.c bv,.junk,.c (.ptr (ρ 0) 0),.c (.int .i64 (w:Int)),.c (.int .i64 6),.junk,.junk,.junk,.junk,.junk,.junk,.junk,.junk,.junk,.junk,.junk,.junk,.junk] G5=some (.exit 0,[.junk,.c (.int .u8 (b.toNat:Int)),.c bv,.junk,.c (.ptr (ρ 0) 0),.c (.int .i64 (w:Int)),.c (.int .i64 6),.junk,.junk,.junk,.junk,.junk,.junk,.c (.bool false),.junk,.junk,.junk,.junk,.junk,.junk],G5):=rfl
 have L:∀ loc,zb3 ir7_k1 loc=[.junk,.c (.int .u8 (b.toNat:Int)),.c bv,.junk,.c (.ptr (ρ 0) 0),.c (.int .i64 (w:Int)),.c (.int .i64 0),.junk,.junk,.junk,.junk,.junk,.junk,.junk,.junk,.junk,.junk,.junk,.junk,.junk]→zc5 (evCallO OS table 3000 65) 3000 ir7_k1 ir7_l1 3000 loc g0=some (.exit 0,[.junk,.c (.int .u8 (b.toNat:Int)),.c bv,.junk,.c (.ptr (ρ 0) 0),.c (.int .i64 (w:Int)),.c (.int .i64 6),.junk,.junk,.junk,.junk,.junk,.junk,.c (.bool false),.junk,.junk,.junk,.junk,.junk,.junk],G5):=fun loc hk =>
  (zey (n:=2999) hk t0).trans ((zey (n:=2998) k0 t1).trans ((zey (n:=2997) k1 t2).trans ((zey (n:=2996) k2 t3).trans ((zey (n:=2995) k3 t4).trans ((zey (n:=2994) k4 t5).trans (zig (n:=2993) k5 t6))))))
 obtain ⟨H1,f1,x1⟩:=zwe (N:=3000) (d:=64) (zz2 (Nat.le_refl _) A5) (zzk (Nat.le_refl _)) (by omega) (by omega)
 have A6:=A5.other x1
 obtain ⟨H2,f2,S2⟩:=zwm (N:=3000) (d:=64) (Nat.le_refl _) (by omega) A6 (hb.ext A6.ext) hbk
 have gd:=zuq (N:=3000) (w:=w) (b:=b) (Nat.le_refl _) (v:=v1 w b (tim w b bits)) rfl rfl rfl
 obtain ⟨H3,f3,x3⟩:=zrq (N:=3000) (d:=64) S2 gd (fun i hi=>by
  have:=List.all_eq_true.1 (zw3 (xB w b)) i (List.mem_range.2 hi)
  simp only [Bool.and_eq_true,Bool.not_eq_true',decide_eq_false_iff_not] at this
  exact this.1) (zi0 _ _ _ _ _) (fun k hk=>⟨(zte w b bits hk).1,(zte w b bits hk).2.1⟩) (by omega) (by omega)
 have S3:=S2.ext x3
 obtain ⟨q,fc,b1,b2,b3,b4,-⟩:=S3.box
 obtain ⟨y,H4,f4,I4,x4⟩:=b4 65 (by omega) H3 (Ext.refl _)
 rw [p5] at f1 f2 f3 b1
 have q0:H3.read (ρ 0) 0 1=some [.ptr q 0]:=zam b1 rfl
 have il:(tim w b bits).length=6:=zi0 _ _ _ _ _
 have ly:∀ loc vals H,za2 loc (.c y :: vals) H (.len .sl (.val 0))=some (.c (.int .i64 6)):=fun _ _ _=>by
  have:=zk3 (H:=H4) I4 (loc:=[]) (vals:=[])
  have e:=@zk3 H4
  exact (zk3 I4).trans (by show some (AV.c (CV.int .i64 (((tim w b bits).length:Nat):Int)))=_;rw [il];rfl)
 have L0:∀ loc,zb3 ir7_k0 loc=[.junk,.junk,.junk,.junk,.junk,.junk,.junk,.junk,.c y,.c (.int .i64 0),.junk,.junk,.junk,.junk,.junk,.junk,.junk,.junk,.junk,.junk] →
   ∃ r,zc5 (evCallO OS table 3000 65) 3000 ir7_k0 ir7_l0 3000 loc H4=some r∧∃ a0 a1 a2 a3 l' G,r=(.exit 2,a0 :: a1 :: a2 :: a3 :: l',G):=by
  intro loc hloc
  refine zde (n:=6) (fun k loc G=>Ext H4 G∧loc=[.junk,.junk,.junk,.junk,.junk,.junk,.junk,.junk,.c y,.c (.int .i64 (k:Int)),.junk,.junk,.junk,.junk,.junk,.junk,.junk,.junk,.junk,.junk]) _ ?_ ⟨Ext.refl _,hloc⟩ (by omega)
  rintro k loc G hk ⟨xg,rfl⟩
  unfold ir7_l0
  by_cases hlt:k < 6
  ·left
   refine ⟨hlt,?_⟩
   have z1:decide ((k:Int) < 6)=true:=decide_eq_true (by omega)
   have z2:=zeb (i:=k) (by omega)
   obtain ⟨bb,c,hy,hbb,wv,hwr,hB,i,hi⟩:=I4.at_ (g:=k) (by show k < (tim w b bits).length;rw [il];exact hlt)
   replace hB:Bytes H4 wv ((tim w b bits).getD k []):=hB
   replace hi:wv = .sl i 0 ((tim w b bits).getD k []).length (.dy 1):=hi
   obtain ⟨h24,-,h8⟩:=zte w b bits hlt
   replace hy:y = .sl bb 0 (tim w b bits).length c:=hy
   rw [il] at hy
   rw [h24] at hi
   generalize (tim w b bits).getD k []=img at hB h24 h8
   subst hi
   have m1:Nat.blt k 6=true:=zdp hlt
   have rw_:G.read bb k 1=some [.sl i 0 24 (.dy 1)]:=(xg.read hbb).trans hwr
   obtain ⟨yo,bs,G2,fo,Bo,so,xo⟩:=zwa (N:=3000) (d:=60) (id:=k) (by omega) (hB.ext xg) h24 (by omega)
   have xg2:=xg.trans xo
   by_cases d1:img=List.replicate 24 0#8
   ·rw [if_pos d1] at fo
    subst hy
    simp only [zap,zac,zaq,zat,zao,zal,zau,zay,zax,zad,zai,zab,zas,zae,zbd,zaf,zar,zav,za8,zem,za3,zbf,zba,za7,za6,zbe,zag,X.eval,zak,zah,List.map_cons,List.map_nil,List.getD_cons_zero,List.getD_cons_succ,List.set_cons_zero,List.set_cons_succ,zaz,zan,zaa,zaj,intArith,shift,za0,cond_true,cond_false,BEq.rfl,AV.ofCells,XV.av,Nat.zero_add,Int.reduceBEq,Bool.not_true,Bool.not_false,Int.reduceLT,decide_false,ft,zd1,z1,zbk,za9,AV.ofCells,m1,rw_,fo,zg7,List.getElem?_cons_zero,List.getElem?_cons_succ,z2,Nat.mul_one]
    exact ⟨_,_,rfl,xg2,rfl⟩
   ·rw [if_neg d1] at fo so
    by_cases d2:zeh k (img.drop 8)=img
    ·rw [if_pos d2] at fo so
     have hbs:=zlt so
     have hl16:bs.length=16:=by rw [hbs,List.length_drop,h24]
     have lo:∀ loc vals H,za2 loc (.c yo :: vals) H (.len .sl (.val 0))=some (.c (.int .i64 16)):=fun _ _ _=>by
      have:=Bo.len (h:=G2) (loc:=[]) (vals:=[.c yo]) (X':=.val 0) rfl
      exact (Bo.len rfl).trans (by rw [hl16];rfl)
     rcases Bo with ⟨_,hn⟩ | ⟨yi,yq,yc,rfl,hyi,hyr⟩
     ·rw [hn] at hl16;cases hl16
     have hz:bs[0]? = some 0#8:=by
      rw [hbs,List.getElem?_drop]
      have:(8:Nat) < img.length:=by omega
      rw [List.getD_eq_getElem?_getD,List.getElem?_eq_getElem this] at h8
      rw [Nat.add_zero,List.getElem?_eq_getElem this]
      exact congrArg some h8
     have rz:G2.read yi yq 1=some [.int .u8 0]:=by have:=hyr 0 _ hz;rw [Nat.zero_mul,Nat.add_zero] at this;exact this
     rw [hl16] at *
     have m16:Nat.blt 0 16=true:=rfl
     subst hy
     simp only [zap,zac,zaq,zat,zao,zal,zau,zay,zax,zad,zai,zab,zas,zae,zbd,zaf,zar,zav,za8,zbc,zem,za3,zbf,zba,za7,za6,zbe,zag,X.eval,zak,zah,List.map_cons,List.map_nil,List.getD_cons_zero,List.getD_cons_succ,List.set_cons_zero,List.set_cons_succ,zaz,zan,zaa,zaj,intArith,shift,za0,cond_true,cond_false,BEq.rfl,AV.ofCells,XV.av,Nat.zero_add,Nat.add_zero,Bool.not_true,Int.reduceLT,decide_false,ft,zd1,z1,zbk,za9,AV.ofCells,m1,rw_,fo,zg7,List.getElem?_cons_zero,List.getElem?_cons_succ,z2,Nat.mul_one,zb0,zls,m16,rz,Int.cast_ofNat_Int]
     exact ⟨_,_,rfl,xg2,rfl⟩
    ·rw [if_neg d2] at fo
     subst hy
     simp only [zap,zac,zaq,zat,zao,zal,zau,zay,zax,zad,zai,zab,zas,zae,zbd,zaf,zar,zav,za8,zem,za3,zbf,zba,za7,za6,zbe,zag,X.eval,zak,zah,List.map_cons,List.map_nil,List.getD_cons_zero,List.getD_cons_succ,List.set_cons_zero,List.set_cons_succ,zaz,zan,zaa,zaj,intArith,shift,za0,cond_true,cond_false,BEq.rfl,AV.ofCells,XV.av,Nat.zero_add,Int.reduceBEq,Bool.not_true,Bool.not_false,Int.reduceLT,decide_false,ft,zd1,z1,zbk,za9,AV.ofCells,m1,rw_,fo,zg7,List.getElem?_cons_zero,List.getElem?_cons_succ,z2,Nat.mul_one]
     exact ⟨_,_,rfl,xg2,rfl⟩
  ·right
   have:k=6:=by omega
   subst this
   simp only [zap,zac,zck,zaq,zat,zal,zc2,zad,zai,zab,zae,zaf,zar,zav,za6,zag,X.eval,zak,zah,List.getD_cons_zero,List.getD_cons_succ,List.set_cons_zero,List.set_cons_succ,zaz,zan,zaa,zaj,intArith,shift,cond_true,cond_false,BEq.rfl,Int.reduceLT,decide_false,Int.cast_ofNat_Int]
   exact ⟨_,rfl,by simp,_,_,_,_,_,_,rfl⟩
 obtain ⟨r,⟨a0',a1,a2,a3,l',G,rfl⟩,hr⟩:=zdm L0 rfl
 obtain ⟨h9,e9,-⟩:=zwv (N:=3000) (d:=64) (Nat.le_refl _) (by omega) G
 simp only [zbm,zap,zac,zaq,zat,zal,zau,zci,zax,zad,zai,zab,zas,zae,zaf,zar,zfe,zav,za8,zix,zbc,zba,za7,za6,zbe,zko,zhd,zag,X.eval,zak,zah,List.map_cons,List.map_nil,List.getD_cons_zero,List.getD_cons_succ,List.getD_nil,List.set_cons_zero,List.set_cons_succ,zaz,zan,zaa,zaj,zd8,intArith,shift,zf1,cond_true,cond_false,BEq.rfl,zb4,zb7,AV.cells,List.length_cons,List.length_nil,zdo,setMany,Nat.ble,Nat.zero_add,Nat.reduceAdd,Int.reduceBEq,Bool.not_false,Int.reduceLT,decide_false,zds,zdl,f0,hwv,lb,nb]
 rw [L _ rfl]
 simp only [zap,zac,zaq,zat,zal,zau,zbw,zci,zax,zad,zai,zab,zas,zae,zaf,zar,zav,za8,zcd,zbc,za3,zba,za7,za6,zbe,zcx,zag,X.eval,zak,zah,List.map_cons,List.map_nil,List.getD_cons_zero,List.getD_cons_succ,List.set_cons_zero,List.set_cons_succ,zaz,zcj,zan,zaa,zaj,intArith,shift,cond_true,cond_false,BEq.rfl,zb4,zb7,AV.cells,AV.ofCells,List.length_cons,List.length_nil,zdo,setMany,Nat.ble,Nat.zero_add,Nat.add_zero,Nat.reduceAdd,Bool.not_true,Int.reduceLT,decide_false,zds,zdl,zdn,zdf,za1,za5,za9,AV.ofCells,f1,f2,f3,q0,f4,ly,zd1]
 rw [hr _ rfl]
 simp only [zap,zac,zaq,zbw,zbq,zad,zai,zab,zae,zaf,zar,zba,za7,zbb,zbi,X.eval,zak,zah,List.map_nil,List.getD_cons_zero,List.getD_cons_succ,List.set_cons_zero,List.set_cons_succ,cond_true,BEq.rfl,e9,zbu,RV.eval]
 exact ⟨h9,rfl⟩
end Lav
