import Derived.Test.YtpceddbicolfeaaGreatK04
set_option maxRecDepth 100000
namespace Lav
open Go (IntKind)
section
variable {N d:Nat} {h H G:Heap} {b e:Nat} {x op:List CV} {z:SP} {s:MS}
theorem SR.tb (S:SR h x z s):z.t≠z.b:=by
 have n:=S.nd
 simp only [SP.own,List.nodup_cons,List.mem_cons,not_or] at n
 exact n.1.1
theorem zy3 {dc:CV} {o:OpM} (S:SR h x z s) {c:Nat} (hc:c < s.hs.length) (hk:o.kd=8) (h0:0≤o.pg) (hl:o.pg < (s.th.length:Int)) (ht:s.th.getD o.pg.toNat false=true) (hN:10≤N):zej N d h x z s c o dc:=by
 obtain ⟨H,b,e,hH,hb,he,B⟩:=zhf h x (opC o dc)
 have r2:H.read h.next 2 1=some [.sl z.hh 0 s.hs.length z.ch]:=zam B.xa (by rw [S.xe];rfl)
 have r0:H.read h.next 0 1=some [.sl z.t 0 s.th.length z.ct]:=zam B.xa (by rw [S.xe];rfl)
 have r1:H.read h.next 1 1=some [.sl z.b 0 s.th.length z.cb]:=zam B.xa (by rw [S.xe];rfl)
 have r3:H.read b 0 1=some [.int .i64 8]:=zam B.ob (by rw [← hk];rfl)
 have r4:H.read b 1 1=some [.int .i64 o.pg]:=zam B.ob rfl
 have r5:H.read b 2 1=some [.int .i64 o.hd]:=zam B.ob rfl
 have v1:decide ((c:Int) < 0)=false:=decide_eq_false (by omega)
 have v2:decide ((c:Int) ≥ (s.hs.length:Int))=false:=decide_eq_false (by omega)
 have SH:=S.ext B.ext
 have rx:=B.xs S.len3
 obtain ⟨g,hg⟩:=Int.eq_ofNat_of_zero_le h0
 rw [hg] at r4 hl
 have hgl:g < s.th.length:=by omega
 have u1:decide ((g:Int) < 0)=false:=decide_eq_false (by omega)
 have u2:decide ((g:Int) ≥ (s.th.length:Int))=false:=decide_eq_false (by omega)
 have ht':s.th.getD g false=true:=by rw [hg] at ht;simpa using ht
 have k1:=SH.rt hgl
 rw [ht'] at k1
 have m1:Nat.blt g s.th.length=true:=zdp hgl
 have hgf:∀ (A B C:ResM × MS),(if (g:Int) < 0∨(s.th.length:Int)≤(g:Int) then A else if s.th.getD ((g:Int)).toNat false=false then B else C)=C:=fun A B C=>by
  rw [if_neg (by omega),if_neg (by rw [Int.toNat_natCast,ht'];decide)]
 obtain ⟨H1,f0,x1⟩:=zrm (N:=N) (d:=d + 1) SH (g:Int) hN
 have SH1:=SH.ext x1
 have B1:=B.more x1
 by_cases c1:0 < zer s.hs (g:Int)
 ·have w1:decide ((zer s.hs (g:Int):Int) > 0)=true:=decide_eq_true (by omega)
  obtain ⟨H2,f2,x2⟩:=zg8 (N:=N) (d:=d + 1) 7 H1
  obtain ⟨G,w,rr,n,fr⟩:=zg0 (H:=H2) (e:=e) (v:=zdc (zdk 7) .nils) (B1.more x2).re rfl
  obtain ⟨S',x'⟩:=(SH1.ext x2).fin (((B.ext.trans x1).trans x2).b _) S.lt B.ee n fr
  have hf:doF s c o=(zdk 7,s):=by
   unfold doF
   rw [hk,if_neg (by decide),if_pos (by decide),hg,hgf,if_neg (by decide),if_neg (by decide),if_pos c1]
  unfold zej
  rw [hf,zbp (F:=ir99) rfl rfl rfl]
  unfold ir99
  rw [zbv]
  simp only [zdc,zdk,zb9] at w rr f2 ⊢
  simp only [zbm,zap,zac,zca,zaq,zat,zao,zal,zau,zc8,zax,zbq,zad,zai,zab,zas,zae,zaf,zar,zav,zbn,za8,zcd,zbc,za3,zbf,zba,zbg,za7,zbb,zbi,za6,zbe,zcx,zbh,zag,zaw,X.eval,zak,zah,List.map_cons,List.map_nil,List.getD_cons_zero,List.getD_cons_succ,List.getD_nil,List.set_cons_zero,List.set_cons_succ,zaz,zcj,zan,zaa,zaj,intArith,shift,za0,cond_true,cond_false,BEq.rfl,AV.cells,AV.ofCells,List.length_cons,List.length_nil,Nat.zero_add,Nat.add_zero,Nat.reduceAdd,Int.reduceBEq,Int.reduceNeg,Bool.not_true,Int.reduceLT,Int.reduceGT,decide_false,hb,he,hH,za1,za5,za9,zbk,AV.ofCells,r0,r2,r3,r4,rx,zb0,v1,v2,zbl,zbu,RV.eval,u1,u2,m1,k1,Nat.mul_one,f0,w1,f2,w,rr]
  exact ⟨_,G,rfl,.inl ⟨rfl,rfl⟩,S',x'⟩
 ·have w1:decide ((zer s.hs (g:Int):Int) > 0)=false:=decide_eq_false (by omega)
  have q0:H1.read h.next 0 1=some [.sl z.t 0 s.th.length z.ct]:=zam B1.xa (by rw [S.xe];rfl)
  have q1:H1.read h.next 1 1=some [.sl z.b 0 s.th.length z.cb]:=zam B1.xa (by rw [S.xe];rfl)
  obtain ⟨H2,f2,x2⟩:=zqb (N:=N) (d:=d + 1) H1
  have SH2:=SH1.ext x2
  have B2:=B1.more x2
  have p0:H2.read h.next 0 1=some [.sl z.t 0 s.th.length z.ct]:=zam B2.xa (by rw [S.xe];rfl)
  have p1:H2.read h.next 1 1=some [.sl z.b 0 s.th.length z.cb]:=zam B2.xa (by rw [S.xe];rfl)
  have lh:=S.lt z.t (by simp [SP.own])
  have lb:=S.lt z.b (by simp [SP.own])
  have w5:H2.write z.t g [.bool false]=some (H2.put z.t (.cells ((s.th.set g false).map zfb))):=by
   rw [zef SH2.t (by simpa using hgl)];simp [List.map_set,zfb]
  have w6:(H2.put z.t (.cells ((s.th.set g false).map zfb))).write z.b g [zgz z16]=some ((H2.put z.t (.cells ((s.th.set g false).map zfb))).put z.b (.cells ((s.bd.set g z16).map zgz))):=by
   rw [zef ((zcl S.tb.symm).trans SH2.b) (by rw [List.length_map,S.len];exact hgl)];simp [List.map_set]
  have S3:=SH2.setP (g:=g) (v:=false)
  have x3:ExtB z.own H2 ((H2.put z.t (.cells ((s.th.set g false).map zfb))).put z.b (.cells ((s.bd.set g z16).map zgz))):=((ExtB.refl _ _).put (.inr (by simp [SP.own])) _).put (.inr (by simp [SP.own])) _
  have y0:(H2.put z.t (.cells ((s.th.set g false).map zfb))).read h.next 1 1=some [.sl z.b 0 s.th.length z.cb]:=zam ((zcl (by omega)).trans B2.xa) (by rw [S.xe];rfl)
  have y1:(H2.put z.t (.cells ((s.th.set g false).map zfb))).read h.next 0 1=some [.sl z.t 0 s.th.length z.ct]:=zam ((zcl (by omega)).trans B2.xa) (by rw [S.xe];rfl)
  have bb:=B2.moreB x3 S.lt
  generalize (H2.put z.t (.cells ((s.th.set g false).map zfb))).put z.b (.cells ((s.bd.set g z16).map zgz))=H3 at w6 S3 x3 bb
  have y2:H3.read h.next 1 1=some [.sl z.b 0 s.th.length z.cb]:=zam bb.2.1 (by rw [S.xe];rfl)
  have y3:H3.read h.next 0 1=some [.sl z.t 0 s.th.length z.ct]:=zam bb.2.1 (by rw [S.xe];rfl)
  obtain ⟨G,w,rr,n,fr⟩:=zg0 (H:=H3) (e:=e) (v:=zdc okR .nils) bb.2.2.2 rfl
  obtain ⟨S',x'⟩:=S3.fin ((((B.ext.trans x1).trans x2).b _).trans x3) S.lt B.ee n fr
  have hf:doF s c o=(okR,s.setP g false):=by
   unfold doF
   rw [hk,if_neg (by decide),if_pos (by decide),hg,hgf,if_neg (by decide),if_neg (by decide),if_neg c1]
   rfl
  unfold zej
  rw [hf,zbp (F:=ir99) rfl rfl rfl]
  unfold ir99
  rw [zbv]
  simp only [zdc,okR,zb9] at w rr ⊢
  simp only [zbm,zap,zac,zaq,zat,zao,zal,zau,zay,zax,zbq,zad,zai,zab,zas,zae,zaf,zar,zav,zbn,za8,zcd,zbc,za3,zbf,zba,zbg,za7,zbb,zbi,za6,zbe,zcx,zbh,zag,zaw,X.eval,zak,zah,List.map_cons,List.map_nil,List.getD_cons_zero,List.getD_cons_succ,List.getD_nil,List.set_cons_zero,List.set_cons_succ,zaz,zcj,zan,zaa,zaj,intArith,shift,za0,cond_true,cond_false,BEq.rfl,zb4,zb7,AV.cells,AV.ofCells,List.length_cons,List.length_nil,List.nil_append,List.cons_append,Nat.zero_add,Nat.add_zero,Nat.reduceAdd,Nat.reduceBEq,Int.reduceBEq,Int.reduceNeg,Bool.and_true,Bool.not_true,Int.reduceLT,Int.reduceGT,decide_false,zb5,zby,zbs,zbr,zbt,zd2,zco,zcn,zcq,zgk,zg4,zb1,zb2,zga,zfv,ze9,zex,zfw,zfx,zfy,zfa,zgb,zfz,zgc,zb6,zcc,zct,List.reverse_cons,List.reverse_nil,zce,hb,he,hH,za1,za5,za9,zbk,AV.ofCells,r0,r2,r3,r4,rx,zb0,v1,v2,zds,zdl,zbl,zbu,RV.eval,u1,u2,m1,k1,Nat.mul_one,f0,w1,q0,q1,f2,p0,p1,w5,y0,w6,w,rr]
  exact ⟨_,G,rfl,.inl ⟨rfl,rfl⟩,S',x'⟩
theorem zy4 {dc:CV} {o:OpM} (S:SR h x z s) {c:Nat} (hc:c < s.hs.length) (hk:o.kd=1) (hN:60≤N):zej N d h x z s c o dc:=by
 obtain ⟨H,b,e,hH,hb,he,B⟩:=zhf h x (opC o dc)
 have r2:H.read h.next 2 1=some [.sl z.hh 0 s.hs.length z.ch]:=zam B.xa (by rw [S.xe];rfl)
 have r0:H.read h.next 0 1=some [.sl z.t 0 s.th.length z.ct]:=zam B.xa (by rw [S.xe];rfl)
 have r1:H.read h.next 1 1=some [.sl z.b 0 s.th.length z.cb]:=zam B.xa (by rw [S.xe];rfl)
 have r3:H.read b 0 1=some [.int .i64 1]:=zam B.ob (by rw [← hk];rfl)
 have r4:H.read b 1 1=some [.int .i64 o.pg]:=zam B.ob rfl
 have r5:H.read b 2 1=some [.int .i64 o.hd]:=zam B.ob rfl
 have v1:decide ((c:Int) < 0)=false:=decide_eq_false (by omega)
 have v2:decide ((c:Int) ≥ (s.hs.length:Int))=false:=decide_eq_false (by omega)
 have SH:=S.ext B.ext
 have rx:=B.xs S.len3
 obtain ⟨H1,f1,x1⟩:=zrj (N:=N) (d:=d + 1) SH hc (by omega)
 have SH1:=SH.ext x1
 have B1:=B.more x1
 by_cases c1:zda (s.hg c) < 6
 rotate_left
 ·have w1:decide (zda (s.hg c) < 6)=false:=decide_eq_false c1
  rw [w1] at f1
  obtain ⟨H2,f2,x2⟩:=zg8 (N:=N) (d:=d + 1) 4 H1
  obtain ⟨G,w,rr,n,fr⟩:=zg0 (H:=H2) (e:=e) (v:=zdc (zdk 4) .nils) (B1.more x2).re rfl
  obtain ⟨S',x'⟩:=(SH1.ext x2).fin (((B.ext.trans x1).trans x2).b _) S.lt B.ee n fr
  have hf:doF s c o=(zdk 4,s):=by
   unfold doF
   rw [hk,if_pos rfl,if_neg c1]
  unfold zej
  rw [hf,zbp (F:=ir99) rfl rfl rfl]
  unfold ir99
  rw [zbv]
  simp only [zdc,zdk,zb9] at w rr f2 ⊢
  simp only [zbm,zap,zac,zca,zaq,zat,zao,zal,zau,zc8,zax,zbq,zad,zai,zab,zas,zae,zaf,zar,zav,zbn,za8,zcd,zbc,za3,zba,zbg,za7,zbb,zbi,za6,zbe,zcx,zbh,zag,zaw,X.eval,zak,zah,List.map_cons,List.map_nil,List.getD_cons_zero,List.getD_cons_succ,List.getD_nil,List.set_cons_zero,List.set_cons_succ,zaz,zcj,zan,zaa,zaj,intArith,shift,cond_true,cond_false,BEq.rfl,AV.cells,AV.ofCells,List.length_cons,List.length_nil,Nat.zero_add,Nat.add_zero,Nat.reduceAdd,Int.reduceBEq,Int.reduceNeg,Bool.not_false,Int.reduceLT,Int.reduceGT,decide_false,hb,he,hH,za1,za5,za9,AV.ofCells,r2,r3,r4,rx,zb0,v1,v2,zbl,zbu,RV.eval,f1,f2,w,rr]
  exact ⟨_,G,rfl,.inl ⟨rfl,rfl⟩,S',x'⟩
 have w1:decide (zda (s.hg c) < 6)=true:=decide_eq_true c1
 rw [w1] at f1
 have q0:H1.read h.next 0 1=some [.sl z.t 0 s.th.length z.ct]:=zam B1.xa (by rw [S.xe];rfl)
 have q1:H1.read h.next 1 1=some [.sl z.b 0 s.th.length z.cb]:=zam B1.xa (by rw [S.xe];rfl)
 have few:=S.few
 have fl:=zo4 s.th
 have L:∀ loc,zb3 ir99_k0 loc=[.junk,.c (.int .i64 (c:Int)),.junk,.c (.ptr h.next 0),.junk,.c (.ptr e 0),.c (.int .i64 0),.junk,.junk,.junk,.junk,.junk,.junk,.junk,.junk,.junk,.junk,.junk,.junk,.junk,.junk,.junk,.junk,.junk,.junk,.junk,.junk] →
   ∃ r,zc5 (evCallO OS table N (d + 2)) N ir99_k0 ir99_l0 N loc H1=some r∧∃ q,r=(.exit 1,[.junk,.c (.int .i64 (c:Int)),.junk,.c (.ptr h.next 0),.junk,.c (.ptr e 0),.c (.int .i64 (zd6 s.th:Int)),.junk,.junk,.junk,.junk,.junk,.junk,.junk,.junk,.junk,q,.junk,.junk,.junk,.junk,.junk,.junk,.junk,.junk,.junk,.junk],H1):=by
  intro loc hloc
  refine zde (n:=s.th.length) (fun i loc G=>G=H1∧i≤zd6 s.th∧loc=[.junk,.c (.int .i64 (c:Int)),.junk,.c (.ptr h.next 0),.junk,.c (.ptr e 0),.c (.int .i64 (i:Int)),.junk,.junk,.junk,.junk,.junk,.junk,.junk,.junk,.junk,.junk,.junk,.junk,.junk,.junk,.junk,.junk,.junk,.junk,.junk,.junk]) _ ?_ ⟨rfl,Nat.zero_le _,hloc⟩ (by omega)
  rintro i loc G hi ⟨rfl,hle,rfl⟩
  unfold ir99_l0
  by_cases hlt:i < s.th.length
  ·have t1:=ze1 hlt
   have t2:=zeb (i:=i) (by omega)
   have m2:Nat.blt i s.th.length=true:=zdp hlt
   have k2:=SH1.rt hlt
   rcases Nat.lt_or_ge i (zd6 s.th) with hl | hl
   ·left
    rw [zo5 hl] at k2
    simp only [zap,zac,zaq,zat,zao,zau,zay,zax,zad,zai,zab,zas,zae,zaf,zar,zav,za8,zbc,za3,zbf,za6,zbe,zag,X.eval,zak,zah,List.getD_cons_zero,List.getD_cons_succ,List.set_cons_zero,List.set_cons_succ,zaz,zan,zaa,zaj,intArith,shift,za0,cond_true,cond_false,BEq.rfl,AV.ofCells,Nat.zero_add,Nat.add_zero,Int.reduceLT,decide_false,za1,za5,za9,zbk,AV.ofCells,q0,zb0,t1,m2,k2,Nat.mul_one,t2]
    exact ⟨hlt,_,_,rfl,rfl,hl,rfl⟩
   ·right
    have he:zd6 s.th=i:=by omega
    rw [← he,zo6 (by omega),he] at k2
    simp only [zap,zac,zck,zaq,zat,zal,zc2,zad,zai,zab,zas,zae,zaf,zar,zav,za8,zbc,za3,zbf,za6,zbe,zag,X.eval,zak,zah,List.getD_cons_zero,List.getD_cons_succ,List.set_cons_zero,List.set_cons_succ,zaz,zan,zaa,zaj,intArith,shift,za0,cond_true,cond_false,BEq.rfl,AV.ofCells,Nat.zero_add,Nat.add_zero,za1,za5,za9,zbk,AV.ofCells,q0,zb0,t1,m2,k2,Nat.mul_one]
    exact ⟨_,rfl,by simp,_,by rw [he]⟩
  ·right
   have he:i=s.th.length:=by omega
   have h2:zd6 s.th=s.th.length:=by omega
   subst he
   have t1:decide ((s.th.length:Int) < (s.th.length:Int))=false:=zfj (Nat.le_refl _)
   simp only [zap,zac,zck,zaq,zat,zal,zc2,zad,zai,zab,zas,zae,zbd,zaf,zar,zav,za8,zbc,za3,za6,zbe,zag,X.eval,zak,zah,List.getD_cons_zero,List.getD_cons_succ,List.set_cons_zero,List.set_cons_succ,zaz,zan,zaa,zaj,intArith,shift,cond_true,cond_false,BEq.rfl,AV.ofCells,Nat.add_zero,ft,za1,za5,za9,AV.ofCells,q0,zb0,t1]
   exact ⟨_,rfl,by simp,_,by rw [h2]⟩
 obtain ⟨r,⟨qq,rfl⟩,hr⟩:=zdm L rfl
 by_cases c2:zd6 s.th < s.th.length
 rotate_left
 ·have h2:zd6 s.th=s.th.length:=by omega
  obtain ⟨H2,f2,x2⟩:=zg8 (N:=N) (d:=d + 1) 3 H1
  obtain ⟨G,w,rr,n,fr⟩:=zg0 (H:=H2) (e:=e) (v:=zdc (zdk 3) .nils) (B1.more x2).re rfl
  obtain ⟨S',x'⟩:=(SH1.ext x2).fin (((B.ext.trans x1).trans x2).b _) S.lt B.ee n fr
  have hf:doF s c o=(zdk 3,s):=by
   unfold doF
   rw [hk,if_pos rfl,if_pos c1,if_neg c2]
  have t1:((s.th.length:Int) == (s.th.length:Int))=true:=by simp
  rw [h2] at hr
  unfold zej
  rw [hf,zbp (F:=ir99) rfl rfl rfl]
  unfold ir99
  rw [zbv]
  simp only [zdc,zdk,zb9] at w rr f2 ⊢
  simp only [zbm,zap,zac,zaq,zat,zao,zal,zau,zci,zax,zad,zai,zab,zas,zae,zaf,zar,zav,zbn,za8,zcd,zbc,za3,zba,za7,za6,zbe,zcx,zbh,zag,zaw,X.eval,zak,zah,List.map_cons,List.map_nil,List.getD_cons_zero,List.getD_cons_succ,List.getD_nil,List.set_cons_zero,List.set_cons_succ,zaz,zcj,zan,zaa,zaj,intArith,shift,cond_true,cond_false,BEq.rfl,AV.cells,AV.ofCells,Nat.zero_add,Nat.add_zero,Int.reduceBEq,Int.reduceNeg,Bool.not_true,Int.reduceLT,Int.reduceGT,decide_false,hb,he,hH,za1,za5,za9,AV.ofCells,r2,r3,r4,rx,zb0,v1,v2,f1]
  rw [hr _ rfl]
  simp only [zap,zac,zca,zaq,zat,zao,zc8,zbw,zbq,zad,zai,zab,zae,zaf,zar,zav,zbc,za3,zba,zbg,za7,zbb,zbi,za6,zag,X.eval,zak,zah,List.map_cons,List.map_nil,List.getD_cons_zero,List.getD_cons_succ,List.set_cons_zero,List.set_cons_succ,zaz,zan,zaa,zaj,intArith,shift,cond_true,cond_false,BEq.rfl,AV.cells,AV.ofCells,List.length_cons,List.length_nil,Nat.zero_add,Nat.add_zero,Nat.reduceAdd,za1,za5,za9,AV.ofCells,zb0,zbl,zbu,RV.eval,q0,f2,w,rr]
  exact ⟨_,G,rfl,.inl ⟨rfl,rfl⟩,S',x'⟩
 have t1:((zd6 s.th:Int) == (s.th.length:Int))=false:=by simp only [beq_eq_false_iff_ne,ne_eq];omega
 generalize hg:zd6 s.th=g at *
 obtain ⟨H2,f2,x2⟩:=zqb (N:=N) (d:=d + 1) H1
 have SH2:=SH1.ext x2
 have B2:=B1.more x2
 have m1:Nat.blt g s.th.length=true:=zdp c2
 have p0:H2.read h.next 0 1=some [.sl z.t 0 s.th.length z.ct]:=zam B2.xa (by rw [S.xe];rfl)
 have p1:H2.read h.next 1 1=some [.sl z.b 0 s.th.length z.cb]:=zam B2.xa (by rw [S.xe];rfl)
 have lh:=S.lt z.t (by simp [SP.own])
 have lb:=S.lt z.b (by simp [SP.own])
 have w5:H2.write z.t g [.bool true]=some (H2.put z.t (.cells ((s.th.set g true).map zfb))):=by
  rw [zef SH2.t (by simpa using c2)];simp [List.map_set,zfb]
 have w6:(H2.put z.t (.cells ((s.th.set g true).map zfb))).write z.b g [zgz z16]=some ((H2.put z.t (.cells ((s.th.set g true).map zfb))).put z.b (.cells ((s.bd.set g z16).map zgz))):=by
  rw [zef ((zcl S.tb.symm).trans SH2.b) (by rw [List.length_map,S.len];exact c2)];simp [List.map_set]
 have S3:=SH2.setP (g:=g) (v:=true)
 have x3:ExtB z.own H2 ((H2.put z.t (.cells ((s.th.set g true).map zfb))).put z.b (.cells ((s.bd.set g z16).map zgz))):=((ExtB.refl _ _).put (.inr (by simp [SP.own])) _).put (.inr (by simp [SP.own])) _
 have y0:(H2.put z.t (.cells ((s.th.set g true).map zfb))).read h.next 1 1=some [.sl z.b 0 s.th.length z.cb]:=zam ((zcl (by omega)).trans B2.xa) (by rw [S.xe];rfl)
 have y1:(H2.put z.t (.cells ((s.th.set g true).map zfb))).read h.next 0 1=some [.sl z.t 0 s.th.length z.ct]:=zam ((zcl (by omega)).trans B2.xa) (by rw [S.xe];rfl)
 have bb:=B2.moreB x3 S.lt
 generalize (H2.put z.t (.cells ((s.th.set g true).map zfb))).put z.b (.cells ((s.bd.set g z16).map zgz))=H3 at w6 S3 x3 bb
 have y2:H3.read h.next 1 1=some [.sl z.b 0 s.th.length z.cb]:=zam bb.2.1 (by rw [S.xe];rfl)
 have y3:H3.read h.next 0 1=some [.sl z.t 0 s.th.length z.ct]:=zam bb.2.1 (by rw [S.xe];rfl)
 have rx3:H3.read h.next 0 3=some x:=by rw [zdi bb.2.1 (by rw [S.len3];omega),List.drop_zero,List.take_of_length_le (by rw [S.len3];omega)]
 have hg3:(s.setP g true).hg c=s.hg c:=rfl
 obtain ⟨H4,f4,S4,x4⟩:=zrk (N:=N) (d:=d + 1) S3 hc (g:Int) (by simp [MS.setP];omega) (by rw [hg3];exact c1) (by omega)
 rw [hg3] at f4 S4
 have x34:=x3.trans (x4.mono fun j hj=>by simp [SP.own,hj])
 have bb4:=B2.moreB x34 S.lt
 obtain ⟨G,w,rr,n,fr⟩:=zg0 (H:=H4) (e:=e) (v:=zdc ⟨0,(g:Int),(zda (s.hg c):Int),[]⟩ .nils) bb4.2.2.2 rfl
 obtain ⟨S',x'⟩:=S4.fin ((((B.ext.trans x1).trans x2).b _).trans x34) S.lt B.ee n fr
 have hf:doF s c o=(⟨0,(g:Int),(zda (s.hg c):Int),[]⟩,(s.setP g true).setH c (zda (s.hg c)) (g:Int)):=by
  unfold doF
  rw [hk,if_pos rfl,if_pos c1,hg,if_pos c2]
 unfold zej
 rw [hf,zbp (F:=ir99) rfl rfl rfl]
 unfold ir99
 rw [zbv]
 simp only [zdc,zb9] at w rr ⊢
 simp only [zbm,zap,zac,zaq,zat,zao,zal,zau,zci,zax,zad,zai,zab,zas,zae,zaf,zar,zav,zbn,za8,zcd,zbc,za3,zba,za7,za6,zbe,zcx,zbh,zag,zaw,X.eval,zak,zah,List.map_cons,List.map_nil,List.getD_cons_zero,List.getD_cons_succ,List.getD_nil,List.set_cons_zero,List.set_cons_succ,zaz,zcj,zan,zaa,zaj,intArith,shift,cond_true,cond_false,BEq.rfl,AV.cells,AV.ofCells,Nat.zero_add,Nat.add_zero,Int.reduceBEq,Int.reduceNeg,Bool.not_true,Int.reduceLT,Int.reduceGT,decide_false,hb,he,hH,za1,za5,za9,AV.ofCells,r2,r3,r4,rx,zb0,v1,v2,f1]
 rw [hr _ rfl]
 simp only [zap,zac,zca,zaq,zat,zal,zc8,zbw,zax,zbq,zad,zai,zab,zae,zaf,zar,zav,zbc,za3,zba,zbg,za7,zbb,zbi,za6,zag,X.eval,zak,zah,List.map_cons,List.map_nil,List.getD_cons_zero,List.getD_cons_succ,List.set_cons_zero,List.set_cons_succ,zaz,zan,zaa,zaj,intArith,shift,za0,cond_true,cond_false,BEq.rfl,zb4,zb7,AV.cells,AV.ofCells,List.length_cons,List.length_nil,zdo,setMany,List.nil_append,List.cons_append,Nat.ble,Nat.zero_add,Nat.add_zero,Nat.reduceAdd,Nat.reduceBEq,Bool.and_true,zb5,zby,zbs,zbr,zbt,zd2,zco,zcn,zcq,zgk,zg4,zb1,zb2,zga,zfv,ze9,zex,zfw,zfx,zfy,zfa,zgb,zfz,zgc,zb6,zcc,zct,List.reverse_cons,List.reverse_nil,zce,za1,za5,za9,zbk,AV.ofCells,zb0,zds,zdl,zbl,zbu,RV.eval,q0,q1,t1,f2,p0,p1,m1,Nat.mul_one,w5,y0,w6,rx3,f4,w,rr]
 exact ⟨_,G,rfl,.inl ⟨rfl,rfl⟩,S',x'⟩
theorem zw0 {dc:CV} {o:OpM} (S:SR h x z s) {c:Nat} (hc:c < s.hs.length) (hk:1≤o.kd∧o.kd≤8) (hd:Bytes h dc o.data) (hN:60≤N):zej N d h x z s c o dc:=by
 have paged:∀ K:Int,o.kd=K→(K=2∨K=6∨K=8)→(0≤o.pg→o.pg < (s.th.length:Int)→s.th.getD o.pg.toNat false=true→zej N d h x z s c o dc)→zej N d h x z s c o dc:=by
  intro K hK h26 hyes
  by_cases c1:o.pg < 0∨(s.th.length:Int)≤o.pg∨s.th.getD o.pg.toNat false=false
  ·exact zvu S hc hK h26 c1
  ·simp only [not_or] at c1
   exact hyes (by omega) (by omega) (by simpa using c1.2.2)
 have handled:∀ K:Int,o.kd=K→(K=3∨K=4∨K=5)→(0≤zd7 s.hs c o.hd→zej N d h x z s c o dc)→zej N d h x z s c o dc:=by
  intro K hK h26 hyes
  by_cases c1:zd7 s.hs c o.hd < 0
  ·exact zud S hc hK h26 c1
  ·exact hyes (by omega)
 obtain ⟨k1,k2⟩:=hk
 have:o.kd=1∨o.kd=2∨o.kd=3∨o.kd=4∨o.kd=5∨o.kd=6∨o.kd=7∨o.kd=8:=by omega
 rcases this with k | k | k | k | k | k | k | k
 ·exact zy4 S hc k hN
 ·exact paged 2 k (by omega) fun h0 hl ht=>zvw S hc k h0 hl ht (by omega)
 ·exact handled 3 k (by omega) fun hn=>zxx S hc k hn
 ·exact handled 4 k (by omega) fun hn=>zvz S hc k hn hd
 ·exact handled 5 k (by omega) fun hn=>zvx S hc k hn
 ·exact paged 6 k (by omega) fun h0 hl ht=>zvv S hc k h0 hl ht
 ·exact zy2 S hc k
 ·exact paged 8 k (by omega) fun h0 hl ht=>zy3 S hc k h0 hl ht (by omega)
end
end Lav
set_option maxRecDepth 100000
namespace Lav
open Go (IntKind)
structure Ev where
 cl:Int
 op:OpM
 rs:ResM
 bg:Int
 st:Int
 en:Int
def evC (e:Ev) (dc rc:CV):List CV:=zb9 e.cl :: (opC e.op dc++(zdc e.rs rc++[zb9 e.bg,zb9 e.st,zb9 e.en]))
theorem zm3 (r:ResM) (c:CV):(zdc r c).length=4:=rfl
theorem zbx (e:Ev) (dc rc:CV):(evC e dc rc).length=14:=rfl
def zlw (kd code:Int):Bool :=
 if code=8 then kd == 1 || kd == 2 else if code=9 then kd == 1 || (kd == 2 || (kd == 6 || kd == 7)) else if code=10 then kd == 2 else false
def zny (a b:ResM):Bool:=a.code == b.code && (a.rp == b.rp && (a.rh == b.rh && decide (a.rd=b.rd)))
section
variable {N d:Nat} {h:Heap} {x:List CV} {z:SP} {s:MS}
theorem Bytes.extB {h h':Heap} {y:CV} {bs:List (BitVec 8)} {L:List Nat} (hx:Bytes h y bs) (e:ExtB L h h') (hn:∀ k,blk y=some k→k ∉ L):Bytes h' y bs:=by
 rcases hx with h1 | ⟨i,o,c,rfl,h2,h3⟩
 ·exact .inl h1
 ·refine .inr ⟨i,o,c,rfl,Nat.lt_of_lt_of_le h2 e.1,fun j b hj=>?_⟩
  have:=e.2 i h2 (hn i rfl)
  unfold Heap.read
  rw [this]
  exact h3 j b hj
theorem zue (o:OpM) (dc:CV) (code:Int) (h:Heap):∃ h',evCallO OS table N (d + 1) 98 [.agg (opC o dc),.c (.int .i64 code)] h=some (.c (.bool (zlw o.kd code)),h')∧Ext h h':=by
 have e1:=(Ext.refl h).new (.cells (opC o dc))
 have r0:(h.new (.cells (opC o dc))).read h.next 0 1=some [.int .i64 o.kd]:=zam zb8 rfl
 rw [zbp (F:=ir98) rfl rfl rfl]
 unfold ir98 zlw
 rw [zbv]
 by_cases c1:code=8
 ·subst c1
  rw [if_pos rfl]
  cases k1:(o.kd == 1)<;>cases k2:(o.kd == 2) <;>
   simp only [zbm,zap,zac,zca,zaq,zat,zao,zau,zc8,zbq,zad,zai,zab,zas,zae,zbd,zaf,zar,zav,zbn,za8,za3,zbb,zbi,za6,zbe,zbh,zag,zaw,X.eval,zak,zah,List.map_cons,List.map_nil,List.getD_cons_zero,List.getD_cons_succ,List.getD_nil,List.set_cons_zero,List.set_cons_succ,zaz,zan,zaa,zaj,intArith,shift,cond_true,cond_false,BEq.rfl,AV.cells,AV.ofCells,Nat.add_zero,Int.reduceLT,decide_false,tf,za1,za5,za9,AV.ofCells,r0,k1,k2,zbu,RV.eval,Bool.or_false,Bool.or_true]<;>exact ⟨_,rfl,e1⟩
 have v1:(code == 8)=false:=by simpa using c1
 rw [if_neg c1]
 by_cases c2:code=9
 ·subst c2
  rw [if_pos rfl]
  cases k1:(o.kd == 1)<;>cases k2:(o.kd == 2)<;>cases k3:(o.kd == 6)<;>cases k4:(o.kd == 7) <;>
   simp only [zbm,zap,zac,zca,zaq,zat,zao,zal,zau,zc8,zbq,zad,zai,zab,zas,zae,zbd,zaf,zar,zav,zbn,za8,za3,zbb,zbi,za6,zbe,zbh,zag,zaw,X.eval,zak,zah,List.map_cons,List.map_nil,List.getD_cons_zero,List.getD_cons_succ,List.getD_nil,List.set_cons_zero,List.set_cons_succ,zaz,zan,zaa,zaj,intArith,shift,cond_true,cond_false,BEq.rfl,AV.cells,AV.ofCells,Nat.add_zero,Int.reduceLT,decide_false,tf,za1,za5,za9,AV.ofCells,r0,v1,k1,k2,k3,k4,zbu,RV.eval,Bool.or_false,Bool.or_true]<;>exact ⟨_,rfl,e1⟩
 have v2:(code == 9)=false:=by simpa using c2
 rw [if_neg c2]
 by_cases c3:code=10
 ·subst c3
  rw [if_pos rfl]
  simp only [zbm,zap,zac,zca,zaq,zat,zao,zal,zau,zc8,zbq,zad,zai,zab,zae,zaf,zar,zav,zbn,za3,zbb,zbi,za6,zbh,zag,zaw,X.eval,zak,zah,List.map_cons,List.map_nil,List.getD_cons_zero,List.getD_cons_succ,List.getD_nil,List.set_cons_zero,List.set_cons_succ,zaz,zan,zaa,zaj,intArith,shift,cond_true,cond_false,BEq.rfl,AV.cells,AV.ofCells,Nat.add_zero,Int.reduceLT,decide_false,za1,za5,za9,AV.ofCells,r0,v1,v2,zbu,RV.eval]
  exact ⟨_,rfl,e1⟩
 have v3:(code == 10)=false:=by simpa using c3
 rw [if_neg c3]
 simp only [zbm,zap,zac,zaq,zat,zal,zau,zay,zax,zbq,zad,zai,zab,zae,zaf,zar,zav,zbn,zbb,zbi,za6,zbh,zag,zaw,X.eval,zak,zah,List.map_cons,List.map_nil,List.getD_cons_zero,List.getD_cons_succ,List.getD_nil,List.set_cons_zero,List.set_cons_succ,zaz,zan,zaa,zaj,intArith,shift,cond_true,cond_false,BEq.rfl,AV.cells,Int.reduceLT,decide_false,v1,v2,v3,zbu,RV.eval]
 exact ⟨_,rfl,e1⟩
theorem zv0 (h:Heap) (x y:List CV):∃ H b,(h.new (.cells x)).new (.cells y)=H∧(h.new (.cells x)).next=b∧Ext h H∧H.get h.next=some (.cells x)∧H.get b=some (.cells y)∧H.next=h.next + 2∧b=h.next + 1 :=
 ⟨_,_,rfl,rfl,((Ext.refl h).new _).new _,(zdd (Nat.lt_succ_self _)).trans zb8,zb8,rfl,rfl⟩
theorem zxy {a b:ResM} {ac bc:CV} {h:Heap} (ha:Bytes h ac a.rd) (hb:Bytes h bc b.rd):∃ h',evCallO OS table N (d + 1) 100 [.agg (zdc a ac),.agg (zdc b bc)] h=some (.c (.bool (zny a b)),h')∧Ext h h':=by
 obtain ⟨H,q,hH,hq,e1,g1,g2,_,_⟩:=zv0 h (zdc a ac) (zdc b bc)
 have a0:H.read h.next 0 1=some [.int .i64 a.code]:=zam g1 rfl
 have a1:H.read h.next 1 1=some [.int .i64 a.rp]:=zam g1 rfl
 have a2:H.read h.next 2 1=some [.int .i64 a.rh]:=zam g1 rfl
 have a3:H.read h.next 3 1=some [ac]:=zam g1 rfl
 have b0:H.read q 0 1=some [.int .i64 b.code]:=zam g2 rfl
 have b1:H.read q 1 1=some [.int .i64 b.rp]:=zam g2 rfl
 have b2:H.read q 2 1=some [.int .i64 b.rh]:=zam g2 rfl
 have b3:H.read q 3 1=some [bc]:=zam g2 rfl
 have s1:∀ loc vals,za2 loc (.c ac :: vals) H (.b2s (.val 0))=some (.c (.str (strOf a.rd))):=fun _ _=>(ha.ext e1).b2s
 have s2:∀ loc vals,za2 loc (.c bc :: vals) H (.b2s (.val 0))=some (.c (.str (strOf b.rd))):=fun _ _=>(hb.ext e1).b2s
 have k3:=zjr a.rd b.rd
 rw [zbp (F:=ir100) rfl rfl rfl]
 unfold ir100 zny
 rw [zbv]
 cases k0:(a.code == b.code)<;>cases k1:(a.rp == b.rp)<;>cases k2:(a.rh == b.rh) <;>
  simp only [zbm,zap,zac,zaq,zbq,zad,zai,zab,zas,zae,zbd,zaf,zar,zav,zbn,za8,za3,zlj,zbb,zbi,za6,zbe,zbh,zag,zaw,X.eval,zak,zah,List.map_cons,List.map_nil,List.getD_cons_zero,List.getD_cons_succ,List.getD_nil,List.set_cons_zero,List.set_cons_succ,zaz,zan,zaa,zaj,intArith,shift,cond_true,cond_false,BEq.rfl,AV.cells,AV.ofCells,Nat.zero_add,Nat.add_zero,Bool.and_false,Bool.true_and,Bool.false_and,ft,hH,hq,za1,za5,za9,AV.ofCells,a0,a1,a2,a3,b0,b1,b2,b3,s1,s2,k0,k1,k2,k3,zbu,RV.eval]<;>exact ⟨_,rfl,e1⟩
def zfk (s:MS) (e:Ev):Bool × MS :=
 if e.en > 0∧zlw e.op.kd e.rs.code=true then (e.rs.rp == 0 && (e.rs.rh == 0 && e.rs.rd.length == 0),s)
 else (e.en == 0 || zny (doF s e.cl.toNat e.op).1 e.rs,(doF s e.cl.toNat e.op).2)
def Ev.may (e:Ev) (clients:Nat):Prop:=0≤e.cl∧e.cl < (clients:Int)∧1≤e.op.kd∧e.op.kd≤8
theorem step_ok {e:Ev} {dc rc:CV} (S:SR h x z s) (hm:e.may s.hs.length) (hd:Bytes h dc e.op.data) (hr:Bytes h rc e.rs.rd) (hrn:∀ k,blk rc=some k→k ∉ z.own) (hN:60≤N) :
  ∃ h',evCallO OS table N (d + 4) 76 [.agg x,.agg (evC e dc rc)] h=some (.c (.bool (zfk s e).1),h')∧SR h' x z (zfk s e).2∧ExtB z.own h h':=by
 obtain ⟨H,b,hH,hb,e1,g1,g2,n2,nb⟩:=zv0 h x (evC e dc rc)
 have SH:=S.ext e1
 have rx:H.read h.next 0 3=some x:=by rw [zdi g1 (by rw [S.len3];omega),List.drop_zero,List.take_of_length_le (by rw [S.len3];omega)]
 have r0:H.read b 0 1=some [.int .i64 e.cl]:=zam g2 rfl
 have r1:H.read b 1 6=some (opC e.op dc):=by rw [zdi g2 (by rw [zbx];omega)];rfl
 have r7:H.read b 7 1=some [.int .i64 e.rs.code]:=zam g2 rfl
 have r8:H.read b 8 1=some [.int .i64 e.rs.rp]:=zam g2 rfl
 have r9:H.read b 9 1=some [.int .i64 e.rs.rh]:=zam g2 rfl
 have r10:H.read b 10 1=some [rc]:=zam g2 rfl
 have r13:H.read b 13 1=some [.int .i64 e.en]:=zam g2 rfl
 have lw:∀ loc vals H,za2 loc (.c rc :: vals) H (.len .sl (.val 0))=some (.c (.int .i64 (e.rs.rd.length:Int))):=fun _ _ _=>hr.len rfl
 obtain ⟨H1,f1,x1⟩:=zue (N:=N) (d:=d + 2) e.op dc e.rs.code H
 obtain ⟨m1,m2,m3,m4⟩:=hm
 by_cases c1:e.en > 0∧zlw e.op.kd e.rs.code=true
 ·have v1:decide (e.en > 0)=true:=decide_eq_true c1.1
  have hf:zfk s e=(e.rs.rp == 0 && (e.rs.rh == 0 && e.rs.rd.length == 0),s):=by unfold zfk;rw [if_pos c1]
  rw [c1.2] at f1
  have y1:H1.read b 8 1=some [.int .i64 e.rs.rp]:=(x1.read (by omega)).trans r8
  have y2:H1.read b 9 1=some [.int .i64 e.rs.rh]:=(x1.read (by omega)).trans r9
  have y3:H1.read b 10 1=some [rc]:=(x1.read (by omega)).trans r10
  have k3:((e.rs.rd.length:Int) == 0)=(e.rs.rd.length == 0):=by
   rw [Bool.eq_iff_iff];simp
  rw [hf,zbp (F:=ir76) rfl rfl rfl]
  unfold ir76
  rw [zbv]
  cases k1:(e.rs.rp == 0)<;>cases k2:(e.rs.rh == 0) <;>
   simp only [zbm,zap,zac,zca,zaq,zat,zao,zbq,zad,zai,zab,zas,zae,zbd,zaf,zar,zav,zbn,za8,zbc,za3,zba,za7,zbb,zbi,za6,zbe,zbh,zag,zaw,X.eval,zak,zah,List.map_cons,List.map_nil,List.getD_cons_zero,List.getD_cons_succ,List.getD_nil,List.set_cons_zero,List.set_cons_succ,zaz,zan,zaa,zaj,intArith,shift,cond_true,cond_false,BEq.rfl,AV.cells,AV.ofCells,Nat.zero_add,Nat.add_zero,Nat.reduceAdd,Bool.and_false,Bool.true_and,Bool.false_and,Int.reduceLT,decide_false,ft,hH,hb,za1,za5,za9,AV.ofCells,r1,r7,r13,v1,f1,y1,y2,y3,lw,k1,k2,k3,zbu,RV.eval]<;>exact ⟨_,rfl,(SH.ext x1),(e1.trans x1).b _⟩
 ·have hf:zfk s e=(e.en == 0 || zny (doF s e.cl.toNat e.op).1 e.rs,(doF s e.cl.toNat e.op).2):=by unfold zfk;rw [if_neg c1]
  obtain ⟨c,hc⟩:=Int.eq_ofNat_of_zero_le m1
  have hcl:c < s.hs.length:=by omega
  have ec:e.cl.toNat=c:=by rw [hc];rfl
  rw [ec] at hf
  have main:∀ G,Ext H G→∃ rc2 h',evCallO OS table N (d + 3) 99 [.agg x,.c (.int .i64 e.cl),.agg (opC e.op dc)] G=some (.agg (zdc (doF s c e.op).1 rc2),h')∧Bytes h' rc2 (doF s c e.op).1.rd∧SR h' x z (doF s c e.op).2∧ExtB z.own G h':=by
   intro G xG
   rw [hc]
   exact zw0 (N:=N) (d:=d) (SH.ext xG) hcl ⟨m3,m4⟩ (hd.ext (e1.trans xG)) hN
  have rest:∀ G,Ext H G→∃ rc2 H2 H3 H4,evCallO OS table N (d + 3) 99 [.agg x,.c (.int .i64 e.cl),.agg (opC e.op dc)] G=some (.agg (zdc (doF s c e.op).1 rc2),H2) ∧
    (H2.new (.cells [.int .i64 0,.int .i64 0,.int .i64 0,.nils])).write H2.next 0 (zdc (doF s c e.op).1 rc2)=some H3∧H3.read b 13 1=some [.int .i64 e.en]∧H3.read H2.next 0 4=some (zdc (doF s c e.op).1 rc2)∧H3.read b 7 4=some (zdc e.rs rc) ∧
    evCallO OS table N (d + 3) 100 [.agg (zdc (doF s c e.op).1 rc2),.agg (zdc e.rs rc)] H3=some (.c (.bool (zny (doF s c e.op).1 e.rs)),H4)∧SR H3 x z (doF s c e.op).2∧ExtB z.own h H3∧SR H4 x z (doF s c e.op).2∧ExtB z.own h H4:=by
   intro G xG
   obtain ⟨rc2,H2,f2,y2,S2,x2⟩:=main G xG
   obtain ⟨H3,w3,g3,x3,n3⟩:=zfd (h:=H2) (z:=[.int .i64 0,.int .i64 0,.int .i64 0,.nils]) (v:=zdc (doF s c e.op).1 rc2) rfl
   have gb:G.get b=some (.cells (evC e dc rc)):=xG.at_ g2 (by omega)
   have lo:=S.lt
   have gb2:H2.get b=some (.cells (evC e dc rc)):=x2.at_ gb (by have:=xG.1;omega) (fun hm=>by have:=lo b hm;omega)
   have l2:b < H2.next:=by have:=xG.1;have:=x2.1;omega
   have gb3:=x3.at_ gb2 l2
   have e2:ExtB z.own h H2:=((e1.trans xG).b _).trans x2
   have e3:ExtB z.own h H3:=e2.trans (x3.b _)
   obtain ⟨H4,f4,x4⟩:=zxy (N:=N) (d:=d + 2) (y2.ext x3) (hr.extB e3 hrn)
   refine ⟨rc2,H2,H3,H4,f2,w3,zam gb3 rfl,?_,?_,f4,S2.ext x3,e3,(S2.ext x3).ext x4,e3.trans (x4.b _)⟩
   ·rw [zdi g3 (by simp [zdc])];rfl
   ·rw [zdi gb3 (by rw [zbx];omega)];rfl
  by_cases c2:e.en > 0
  ·have v1:decide (e.en > 0)=true:=decide_eq_true c2
   have v2:(e.en == 0)=false:=by simp only [beq_eq_false_iff_ne,ne_eq];omega
   have vb:zlw e.op.kd e.rs.code=false:=by
    cases hb2:zlw e.op.kd e.rs.code with
    | false=>rfl
    | true=>exact absurd ⟨c2,hb2⟩ c1
   rw [vb] at f1
   obtain ⟨rc2,H2,H3,H4,f2,w3,p1,p2,p3,f4,S3,e3,S4,e4⟩:=rest H1 x1
   have q0:H1.read b 0 1=some [.int .i64 e.cl]:=(x1.read (by omega)).trans r0
   have q1:H1.read b 1 6=some (opC e.op dc):=(x1.read (by omega)).trans r1
   have qx:H1.read h.next 0 3=some x:=(x1.read (by omega)).trans rx
   rw [hf,zbp (F:=ir76) rfl rfl rfl]
   unfold ir76
   rw [zbv]
   simp only [zbm,zap,zac,zaq,zat,zal,zax,zbq,zad,zai,zab,zas,zae,zaf,zar,zav,zbn,za8,za3,zba,zbg,za7,zc0,zdh,zbb,zbi,za6,zbe,zbh,zag,zaw,X.eval,zak,zah,List.map_cons,List.map_nil,List.getD_cons_zero,List.getD_cons_succ,List.getD_nil,List.set_cons_zero,List.set_cons_succ,zaz,zan,zaa,zaj,intArith,shift,cond_true,cond_false,BEq.rfl,AV.cells,AV.ofCells,Nat.zero_add,Nat.add_zero,Int.reduceLT,decide_false,hH,hb,za1,za5,za9,AV.ofCells,r1,r7,r13,v1,f1,q0,q1,qx,f2,zbl,zm3,w3,p1,v2,p2,p3,f4]
   exact ⟨H4,rfl,S4,e4⟩
  ·have v1:decide (e.en > 0)=false:=decide_eq_false c2
   obtain ⟨rc2,H2,H3,H4,f2,w3,p1,p2,p3,f4,S3,e3,S4,e4⟩:=rest H (Ext.refl H)
   rw [hf,zbp (F:=ir76) rfl rfl rfl]
   unfold ir76
   rw [zbv]
   by_cases c3:e.en=0
   ·have v2:(e.en == 0)=true:=by simp [c3]
    simp only [zbm,zap,zac,zaq,zat,zal,zax,zbq,zad,zai,zab,zas,zae,zbd,zaf,zar,zav,zbn,za8,za3,zba,zbg,za7,zc0,zdh,zbb,zbi,za6,zbe,zbh,zag,zaw,X.eval,zak,zah,List.map_cons,List.map_nil,List.getD_cons_zero,List.getD_cons_succ,List.getD_nil,List.set_cons_zero,List.set_cons_succ,zaz,zan,zaa,zaj,intArith,shift,cond_true,cond_false,BEq.rfl,AV.cells,AV.ofCells,Nat.zero_add,Nat.add_zero,Int.reduceLT,decide_false,tf,ft,hH,hb,za1,za5,za9,AV.ofCells,r0,r1,r13,rx,v1,f2,zbl,zm3,w3,p1,v2,Bool.true_or]
    exact ⟨H3,rfl,S3,e3⟩
   ·have v2:(e.en == 0)=false:=by simp [c3]
    simp only [zbm,zap,zac,zaq,zat,zal,zax,zbq,zad,zai,zab,zas,zae,zbd,zaf,zar,zav,zbn,za8,za3,zba,zbg,za7,zc0,zdh,zbb,zbi,za6,zbe,zbh,zag,zaw,X.eval,zak,zah,List.map_cons,List.map_nil,List.getD_cons_zero,List.getD_cons_succ,List.getD_nil,List.set_cons_zero,List.set_cons_succ,zaz,zan,zaa,zaj,intArith,shift,cond_true,cond_false,BEq.rfl,AV.cells,AV.ofCells,Nat.zero_add,Nat.add_zero,Int.reduceLT,decide_false,ft,hH,hb,za1,za5,za9,AV.ofCells,r0,r1,r13,rx,v1,f2,zbl,zm3,w3,p1,v2,p2,p3,f4,Bool.false_or]
    exact ⟨H4,rfl,S4,e4⟩
def zch (s:MS) (e:Ev):MS:=if e.en=0∨zlw e.op.kd e.rs.code=false then (doF s e.cl.toNat e.op).2 else s
theorem zqc {e:Ev} {dc rc:CV} (S:SR h x z s) (hm:e.may s.hs.length) (hd:Bytes h dc e.op.data) (hN:60≤N) :
  ∃ h',evCallO OS table N (d + 4) 96 [.agg x,.agg (evC e dc rc)] h=some (.tup [],h')∧SR h' x z (zch s e)∧ExtB z.own h h':=by
 obtain ⟨H,b,hH,hb,e1,g1,g2,n2,nb⟩:=zv0 h x (evC e dc rc)
 have SH:=S.ext e1
 have rx:H.read h.next 0 3=some x:=by rw [zdi g1 (by rw [S.len3];omega),List.drop_zero,List.take_of_length_le (by rw [S.len3];omega)]
 have r0:H.read b 0 1=some [.int .i64 e.cl]:=zam g2 rfl
 have r1:H.read b 1 6=some (opC e.op dc):=by rw [zdi g2 (by rw [zbx];omega)];rfl
 have r7:H.read b 7 1=some [.int .i64 e.rs.code]:=zam g2 rfl
 have r13:H.read b 13 1=some [.int .i64 e.en]:=zam g2 rfl
 obtain ⟨H1,f1,x1⟩:=zue (N:=N) (d:=d + 2) e.op dc e.rs.code H
 obtain ⟨m1,m2,m3,m4⟩:=hm
 obtain ⟨c,hc⟩:=Int.eq_ofNat_of_zero_le m1
 have hcl:c < s.hs.length:=by omega
 have ec:e.cl.toNat=c:=by rw [hc];rfl
 have main:∀ G,Ext H G→∃ rc2 h',evCallO OS table N (d + 3) 99 [.agg x,.c (.int .i64 e.cl),.agg (opC e.op dc)] G=some (.agg (zdc (doF s c e.op).1 rc2),h')∧Bytes h' rc2 (doF s c e.op).1.rd∧SR h' x z (doF s c e.op).2∧ExtB z.own G h':=by
  intro G xG
  rw [hc]
  exact zw0 (N:=N) (d:=d) (SH.ext xG) hcl ⟨m3,m4⟩ (hd.ext (e1.trans xG)) hN
 have q0:H1.read b 0 1=some [.int .i64 e.cl]:=(x1.read (by omega)).trans r0
 have q1:H1.read b 1 6=some (opC e.op dc):=(x1.read (by omega)).trans r1
 have qx:H1.read h.next 0 3=some x:=(x1.read (by omega)).trans rx
 unfold zch
 rw [ec,zbp (F:=ir96) rfl rfl rfl]
 unfold ir96
 rw [zbv]
 by_cases c1:e.en=0
 ·have v1:(e.en == 0)=true:=by simp [c1]
  rw [if_pos (.inl c1)]
  obtain ⟨rc2,H2,f2,_,S2,x2⟩:=main H (Ext.refl H)
  simp only [zbm,zap,zac,zaq,zat,zao,zad,zai,zab,zas,zae,zbd,zaf,zar,zav,zbn,za8,za3,zba,za7,zju,zbi,za6,zbe,zbh,zag,zaw,X.eval,zak,zah,List.map_cons,List.map_nil,List.getD_cons_zero,List.getD_cons_succ,List.getD_nil,List.set_cons_zero,List.set_cons_succ,zaz,zan,zaa,zaj,intArith,shift,cond_true,cond_false,BEq.rfl,AV.cells,AV.ofCells,Nat.zero_add,Nat.add_zero,Int.reduceLT,decide_false,tf,hH,hb,za1,za5,za9,AV.ofCells,r0,r1,r13,rx,v1,f2,zbu,zcz]
  exact ⟨H2,rfl,S2,(e1.b _).trans x2⟩
 ·have v1:(e.en == 0)=false:=by simp [c1]
  cases vb:zlw e.op.kd e.rs.code with
  | true =>
   rw [if_neg (by simp [c1])]
   rw [vb] at f1
   simp only [zbm,zap,zac,zaq,zat,zal,zax,zad,zai,zab,zas,zae,zaf,zar,zav,zbn,za8,zcd,za3,zba,za7,zju,zbi,za6,zbe,zcx,zbh,zag,zaw,X.eval,zak,zah,List.map_cons,List.map_nil,List.getD_cons_zero,List.getD_cons_succ,List.getD_nil,List.set_cons_zero,List.set_cons_succ,zaz,zcj,zan,zaa,zaj,intArith,shift,cond_true,cond_false,BEq.rfl,AV.cells,AV.ofCells,Nat.zero_add,Nat.add_zero,Bool.not_true,Int.reduceLT,decide_false,hH,hb,za1,za5,za9,AV.ofCells,r1,r7,r13,v1,f1,zbu,zcz]
   exact ⟨H1,rfl,SH.ext x1,(e1.trans x1).b _⟩
  | false =>
   rw [if_pos (.inr rfl)]
   rw [vb] at f1
   obtain ⟨rc2,H2,f2,_,S2,x2⟩:=main H1 x1
   simp only [zbm,zap,zac,zaq,zat,zao,zad,zai,zab,zas,zae,zaf,zar,zav,zbn,za8,zcd,za3,zba,za7,zju,zbi,za6,zbe,zcx,zbh,zag,zaw,X.eval,zak,zah,List.map_cons,List.map_nil,List.getD_cons_zero,List.getD_cons_succ,List.getD_nil,List.set_cons_zero,List.set_cons_succ,zaz,zcj,zan,zaa,zaj,intArith,shift,cond_true,cond_false,BEq.rfl,AV.cells,AV.ofCells,Nat.zero_add,Nat.add_zero,Bool.not_false,Int.reduceLT,decide_false,hH,hb,za1,za5,za9,AV.ofCells,r1,r7,r13,q0,q1,qx,v1,f1,f2,zbu,zcz]
   exact ⟨H2,rfl,S2,((e1.trans x1).b _).trans x2⟩
end
end Lav
set_option maxRecDepth 100000
namespace Lav
open Go (IntKind)
def Evs (h:Heap) (y:CV) (l:List Ev):Prop:=(y = .nils∧l=[])∨∃ b c,y = .sl b 0 l.length c∧b < h.next ∧
 ∀ i e,l[i]? = some e→∃ dc rc,h.read b (i * 14) 14=some (evC e dc rc)∧Bytes h dc e.op.data∧Bytes h rc e.rs.rd
theorem blk_old {h:Heap} {y:CV} {bs:List (BitVec 8)} (hx:Bytes h y bs):∀ k,blk y=some k→k < h.next:=by
 intro k hk
 rcases hx with ⟨rfl,_⟩ | ⟨i,o,c,rfl,h2,_⟩
 ·cases hk
 ·simp [blk] at hk;omega
theorem Evs.ext {h h':Heap} {y:CV} {l:List Ev} (E:Evs h y l) (e:Ext h h'):Evs h' y l:=by
 rcases E with h1 | ⟨b,c,rfl,hb,hr⟩
 ·exact .inl h1
 ·refine .inr ⟨b,c,rfl,Nat.lt_of_lt_of_le hb e.1,fun i v hv=>?_⟩
  obtain ⟨dc,rc,h1,h2,h3⟩:=hr i v hv
  exact ⟨dc,rc,(e.read hb).trans h1,h2.ext e,h3.ext e⟩
theorem Evs.len {h h0:Heap} {y:CV} {l:List Ev} (E:Evs h0 y l) {loc vals:List AV}:za2 loc (.c y :: vals) h (.len .sl (.val 0))=some (.c (.int .i64 (l.length:Int))):=by
 rcases E with ⟨rfl,rfl⟩ | ⟨b,c,rfl,_⟩<;>rfl
theorem Evs.sl {h:Heap} {y:CV} {l:List Ev} (E:Evs h y l) (hn:0 < l.length):∃ b c,y = .sl b 0 l.length c∧b < h.next ∧
  ∀ i e,l[i]? = some e→∃ dc rc,h.read b (i * 14) 14=some (evC e dc rc)∧Bytes h dc e.op.data∧Bytes h rc e.rs.rd:=by
 rcases E with ⟨_,rfl⟩ | h1
 ·simp at hn
 ·exact h1
structure EvN (h:Heap) (b i:Nat) (e:Ev):Prop where
 cl:h.read b (i * 14) 1=some [.int .i64 e.cl]
 bg:h.read b (i * 14 + 11) 1=some [.int .i64 e.bg]
 st:h.read b (i * 14 + 12) 1=some [.int .i64 e.st]
 en:h.read b (i * 14 + 13) 1=some [.int .i64 e.en]
 code:h.read b (i * 14 + 7) 1=some [.int .i64 e.rs.code]
 kd:h.read b (i * 14 + 1) 1=some [.int .i64 e.op.kd]
 hd:h.read b (i * 14 + 3) 1=some [.int .i64 e.op.hd]
theorem evN {h:Heap} {b i:Nat} {e:Ev} {dc rc:CV} (hr:h.read b (i * 14) 14=some (evC e dc rc)):EvN h b i e :=
 ⟨ze5 (b:=0) (c:=1) hr (by omega),ze5 (b:=11) (c:=1) hr (by omega),ze5 (b:=12) (c:=1) hr (by omega),ze5 (b:=13) (c:=1) hr (by omega),ze5 (b:=7) (c:=1) hr (by omega),ze5 (b:=1) (c:=1) hr (by omega),ze5 (b:=3) (c:=1) hr (by omega)⟩
structure AloneP (l:List Ev) (i:Nat) (e:Ev) (n:Int):Prop where
 c0:0≤e.cl
 c1:e.cl < n
 b0:0 < e.bg
 b1:∀ p f,i=p + 1→l[p]? = some f→f.bg≤e.bg
 s1:0 < e.en→e.bg≤e.st∧e.st≤e.en
 s0 : ¬ 0 < e.en→e.en=0∧(e.st=0∨e.bg≤e.st)
 k1:∀ k f,k < i→l[k]? = some f→f.cl=e.cl→0 < f.en∧f.en < e.bg
section
variable {N d:Nat} {h:Heap} {y:CV} {l:List Ev}
theorem zv1 (E:Evs h y l) {i:Nat} {e:Ev} {n:Int} (he:l[i]? = some e) (A:AloneP l i e n) (hs:l.length≤1000) (hN:1010≤N) :
  ∃ h',evCallO OS table N (d + 1) 74 [.c y,.c (.int .i64 (i:Int)),.c (.int .i64 n)] h=some (.c (.bool true),h')∧Ext h h':=by
 obtain ⟨hi,hie⟩:=List.getElem?_eq_some_iff.1 he
 obtain ⟨b,c,rfl,hb,hr⟩:=E.sl (by omega)
 obtain ⟨dc,rc,hrd,_,_⟩:=hr i e he
 obtain ⟨H,w,g1,e1,n1⟩:=zfd (h:=h) (z:=[.int .i64 0,.int .i64 0,.int .i64 0,.int .i64 0,.int .i64 0,.int .i64 0,.nils,.int .i64 0,.int .i64 0,.int .i64 0,.nils,.int .i64 0,.int .i64 0,.int .i64 0]) (v:=evC e dc rc) rfl
 have a0:H.read h.next 0 1=some [.int .i64 e.cl]:=zam g1 rfl
 have a11:H.read h.next 11 1=some [.int .i64 e.bg]:=zam g1 rfl
 have a12:H.read h.next 12 1=some [.int .i64 e.st]:=zam g1 rfl
 have a13:H.read h.next 13 1=some [.int .i64 e.en]:=zam g1 rfl
 have m1:Nat.blt i l.length=true:=zdp hi
 have v1:decide (e.cl < 0)=false:=decide_eq_false (by have:=A.c0;omega)
 have v2:decide (e.cl ≥ n)=false:=decide_eq_false (by have:=A.c1;omega)
 have v3:decide (e.bg≤0)=false:=decide_eq_false (by have:=A.b0;omega)
 have hx:(h.new (.cells [.int .i64 0,.int .i64 0,.int .i64 0,.int .i64 0,.int .i64 0,.int .i64 0,.nils,.int .i64 0,.int .i64 0,.int .i64 0,.nils,.int .i64 0,.int .i64 0,.int .i64 0])).write h.next 0 (evC e dc rc)=some H:=w
 have read_old:∀ {o n'},H.read b o n'=h.read b o n':=fun {o n'}=>e1.read hb
 have evk:∀ k f,l[k]? = some f→EvN H b k f:=fun k f hf=>by
  obtain ⟨dc',rc',h1,_,_⟩:=hr k f hf
  exact evN (read_old.trans h1)
 have L:∀ loc,zb3 ir74_k0 loc=[.c (.sl b 0 l.length c),.c (.int .i64 (i:Int)),.junk,.junk,.c (.ptr h.next 0),.c (.int .i64 0),.junk,.junk,.junk,.junk,.junk,.junk] →
   ∃ r,zc5 (evCallO OS table N d) N ir74_k0 ir74_l0 N loc H=some r∧∃ p1 p2 p3 p4 l',r=(.exit 0,p1 :: p2 :: p3 :: p4 :: l',H):=by
  intro loc hloc
  refine zde (n:=i) (fun k loc G=>G=H∧loc=[.c (.sl b 0 l.length c),.c (.int .i64 (i:Int)),.junk,.junk,.c (.ptr h.next 0),.c (.int .i64 (k:Int)),.junk,.junk,.junk,.junk,.junk,.junk]) _ ?_ ⟨rfl,hloc⟩ (by omega)
  rintro k loc G hk ⟨rfl,rfl⟩
  unfold ir74_l0
  by_cases hlt:k < i
  ·left
   have t1:=ze1 hlt
   have t2:=zeb (i:=k) (by omega)
   have m2:Nat.blt k l.length=true:=zdp (by omega)
   obtain ⟨f,hf⟩ : ∃ f,l[k]? = some f:=⟨l[k]'(by omega),by simp⟩
   have ev:=evk k f hf
   have q0:=ev.cl
   have q13:=ev.en
   cases t3:(f.cl == e.cl) with
   | false =>
    simp only [zap,zac,zaq,zat,zao,zal,zau,zay,zax,zad,zai,zab,zas,zae,zaf,zar,zav,za6,zbe,zag,X.eval,zak,zah,List.getD_cons_zero,List.getD_cons_succ,List.set_cons_zero,List.set_cons_succ,zaz,zan,zaa,zaj,intArith,shift,za0,cond_true,cond_false,BEq.rfl,AV.ofCells,List.nil_append,List.cons_append,Nat.zero_add,Nat.add_zero,Nat.reduceAdd,Int.reduceLT,decide_false,ft,zb5,zby,zbs,zbr,zbt,zco,zdj,zcw,zcn,zcq,zb1,zb2,zb6,zcc,zct,List.reverse_cons,List.reverse_nil,zce,zcu,zcv,zcf,zcg,zcm,zsw,t1,zbk,za5,za9,AV.ofCells,m2,q0,a0,t3,t2]
    exact ⟨hlt,_,_,rfl,rfl,rfl⟩
   | true =>
    obtain ⟨z1,z2⟩:=A.k1 k f hlt hf (by simpa using t3)
    have t4:decide (f.en≤0)=false:=decide_eq_false (by omega)
    have t5:decide (f.en ≥ e.bg)=false:=decide_eq_false (by omega)
    simp only [zap,zac,zaq,zat,zao,zal,zau,zay,zax,zad,zai,zab,zas,zae,zaf,zar,zav,za6,zbe,zag,X.eval,zak,zah,List.getD_cons_zero,List.getD_cons_succ,List.set_cons_zero,List.set_cons_succ,zaz,zan,zaa,zaj,intArith,shift,za0,cond_true,cond_false,BEq.rfl,AV.ofCells,List.nil_append,List.cons_append,Nat.zero_add,Nat.add_zero,Nat.reduceAdd,Int.reduceLT,decide_false,zb5,zby,zbs,zbr,zbt,zco,zdj,zcw,zcn,zcq,zb1,zb2,zb6,zcc,zct,List.reverse_cons,List.reverse_nil,zce,t1,zbk,za5,za9,AV.ofCells,m2,q0,a0,t3,q13,t4,a11,t5,t2]
    exact ⟨hlt,_,_,rfl,rfl,rfl⟩
  ·right
   have:k=i:=by omega
   subst this
   have t1:decide ((k:Int) < (k:Int))=false:=zfj (Nat.le_refl _)
   simp only [zap,zac,zck,zaq,zat,zal,zc2,zad,zai,zab,zae,zaf,zar,zav,za6,zag,X.eval,zak,zah,List.getD_cons_zero,List.getD_cons_succ,List.set_cons_zero,List.set_cons_succ,zaz,zan,zaa,zaj,intArith,shift,cond_true,cond_false,BEq.rfl,t1]
   exact ⟨_,rfl,by simp,_,_,_,_,_,rfl⟩
 obtain ⟨r,⟨p1,p2,p3,p4,l',rfl⟩,hr2⟩:=zdm L rfl
 rw [zbp (F:=ir74) rfl rfl rfl]
 unfold ir74
 rw [zbv]
 by_cases ci:i=0
 ·subst ci
  have v4:decide (((0:Nat):Int) > 0)=false:=rfl
  by_cases ce:0 < e.en
  ·have t1:decide (e.en > 0)=true:=decide_eq_true ce
   obtain ⟨z1,z2⟩:=A.s1 ce
   have t2:decide (e.st < e.bg)=false:=decide_eq_false (by omega)
   have t3:decide (e.st > e.en)=false:=decide_eq_false (by omega)
   simp only [zbm,zap,zac,zaq,zat,zao,zal,zau,zci,zax,zad,zai,zab,zas,zae,zaf,zar,zav,zbn,za8,za3,zbf,zbg,za6,zbe,zbh,zag,zaw,X.eval,zak,zah,List.map_cons,List.map_nil,List.getD_cons_zero,List.getD_cons_succ,List.getD_nil,List.set_cons_zero,List.set_cons_succ,zaz,zan,zaa,zaj,intArith,shift,za0,cond_true,cond_false,BEq.rfl,AV.cells,AV.ofCells,List.nil_append,List.cons_append,Nat.zero_add,Nat.add_zero,Nat.reduceAdd,Nat.reduceMul,Int.reduceLT,decide_false,ft,zb5,zby,zbs,zbr,zbt,zco,zdj,zcw,zcn,zb1,zb2,zb6,zcc,zct,List.reverse_cons,List.reverse_nil,zce,zcu,zcv,zcf,zcg,zcm,zbk,za1,za5,za9,AV.ofCells,m1,hrd,zbl,zbx,hx,a0,a11,v1,v2,v3,v4,a13,t1,a12,t2,t3]
   rw [hr2 _ rfl]
   simp only [zap,zac,zaq,zbw,zbq,zad,zai,zab,zae,zaf,zar,zbb,zbi,X.eval,zah,List.getD_cons_zero,List.getD_cons_succ,List.set_cons_zero,List.set_cons_succ,cond_true,BEq.rfl,zbu,RV.eval]
   exact ⟨H,rfl,e1⟩
  ·have t1:decide (e.en > 0)=false:=decide_eq_false ce
   obtain ⟨z1,z2⟩:=A.s0 ce
   have t2:decide (e.en < 0)=false:=decide_eq_false (by omega)
   by_cases cs:e.st=0
   ·have t3:(e.st == 0)=true:=by simp [cs]
    simp only [zbm,zap,zac,zaq,zat,zal,zau,zci,zax,zad,zai,zab,zas,zae,zbd,zaf,zar,zav,zbn,za8,za3,zbf,zbg,za6,zbe,zbh,zag,zaw,X.eval,zak,zah,List.map_cons,List.map_nil,List.getD_cons_zero,List.getD_cons_succ,List.getD_nil,List.set_cons_zero,List.set_cons_succ,zaz,zan,zaa,zaj,intArith,shift,za0,cond_true,cond_false,BEq.rfl,AV.cells,AV.ofCells,List.nil_append,List.cons_append,Nat.zero_add,Nat.add_zero,Nat.reduceAdd,Nat.reduceMul,Bool.not_true,Int.reduceLT,decide_false,ft,zb5,zby,zbs,zbr,zbt,zco,zdj,zcw,zcn,zb1,zb2,zb6,zcc,zct,List.reverse_cons,List.reverse_nil,zce,zcu,zcv,zcf,zcg,zcm,zbk,za1,za5,za9,AV.ofCells,m1,hrd,zbl,zbx,hx,a0,a11,v1,v2,v3,v4,a13,t1,t2,a12,zd1,t3]
    rw [hr2 _ rfl]
    simp only [zap,zac,zaq,zbw,zbq,zad,zai,zab,zae,zaf,zar,zbb,zbi,X.eval,zah,List.getD_cons_zero,List.getD_cons_succ,List.set_cons_zero,List.set_cons_succ,cond_true,BEq.rfl,zbu,RV.eval]
    exact ⟨H,rfl,e1⟩
   ·have t3:(e.st == 0)=false:=by simp [cs]
    have t4:decide (e.st < e.bg)=false:=decide_eq_false (by rcases z2 with z2 | z2;exact absurd z2 cs;omega)
    simp only [zbm,zap,zac,zaq,zat,zal,zau,zci,zax,zad,zai,zab,zas,zae,zaf,zar,zav,zbn,za8,za3,zbf,zbg,za6,zbe,zbh,zag,zaw,X.eval,zak,zah,List.map_cons,List.map_nil,List.getD_cons_zero,List.getD_cons_succ,List.getD_nil,List.set_cons_zero,List.set_cons_succ,zaz,zan,zaa,zaj,intArith,shift,za0,cond_true,cond_false,BEq.rfl,AV.cells,AV.ofCells,List.nil_append,List.cons_append,Nat.zero_add,Nat.add_zero,Nat.reduceAdd,Nat.reduceMul,Bool.not_false,Int.reduceLT,decide_false,ft,zb5,zby,zbs,zbr,zbt,zco,zdj,zcw,zcn,zb1,zb2,zb6,zcc,zct,List.reverse_cons,List.reverse_nil,zce,zcu,zcv,zcf,zcg,zcm,zbk,za1,za5,za9,AV.ofCells,m1,hrd,zbl,zbx,hx,a0,a11,v1,v2,v3,v4,a13,t1,t2,a12,zd1,t3,t4]
    rw [hr2 _ rfl]
    simp only [zap,zac,zaq,zbw,zbq,zad,zai,zab,zae,zaf,zar,zbb,zbi,X.eval,zah,List.getD_cons_zero,List.getD_cons_succ,List.set_cons_zero,List.set_cons_succ,cond_true,BEq.rfl,zbu,RV.eval]
    exact ⟨H,rfl,e1⟩
 ·obtain ⟨p,rfl⟩ : ∃ p,i=p + 1:=⟨i - 1,by omega⟩
  obtain ⟨f,hf⟩ : ∃ f,l[p]? = some f:=⟨l[p]'(by omega),by simp⟩
  have ev:=evk p f hf
  have q11:=ev.bg
  have m3:Nat.blt p l.length=true:=zdp (by omega)
  have v4:decide (((p + 1:Nat):Int) > 0)=true:=decide_eq_true (by omega)
  have v5:IntKind.i64.wrap (((p + 1:Nat):Int) - 1)=(p:Int):=by rw [zgf (by omega) (by omega)];omega
  have v6:decide (e.bg < f.bg)=false:=decide_eq_false (by have:=A.b1 p f rfl hf;omega)
  by_cases ce:0 < e.en
  ·have t1:decide (e.en > 0)=true:=decide_eq_true ce
   obtain ⟨z1,z2⟩:=A.s1 ce
   have t2:decide (e.st < e.bg)=false:=decide_eq_false (by omega)
   have t3:decide (e.st > e.en)=false:=decide_eq_false (by omega)
   simp only [zbm,zap,zac,zaq,zat,zao,zal,zau,zci,zax,zad,zai,zab,zas,zae,zaf,zar,zav,zbn,za8,za3,zbf,zbg,za6,zbe,zbh,zag,zaw,X.eval,zak,zah,List.map_cons,List.map_nil,List.getD_cons_zero,List.getD_cons_succ,List.getD_nil,List.set_cons_zero,List.set_cons_succ,zaz,zan,zaa,zaj,intArith,shift,za0,cond_true,cond_false,BEq.rfl,AV.cells,AV.ofCells,List.nil_append,List.cons_append,Nat.zero_add,Nat.add_zero,Nat.reduceAdd,Int.reduceLT,decide_false,zb5,zby,zbs,zbr,zbt,zco,zdj,zcw,zcn,zcq,zb1,zb2,zb6,zcc,zct,List.reverse_cons,List.reverse_nil,zce,zbk,za1,za5,za9,AV.ofCells,m1,hrd,zbl,zbx,hx,a0,a11,v1,v2,v3,v4,v5,m3,q11,v6,a13,t1,a12,t2,t3]
   rw [hr2 _ rfl]
   simp only [zap,zac,zaq,zbw,zbq,zad,zai,zab,zae,zaf,zar,zbb,zbi,X.eval,zah,List.getD_cons_zero,List.getD_cons_succ,List.set_cons_zero,List.set_cons_succ,cond_true,BEq.rfl,zbu,RV.eval]
   exact ⟨H,rfl,e1⟩
  ·have t1:decide (e.en > 0)=false:=decide_eq_false ce
   obtain ⟨z1,z2⟩:=A.s0 ce
   have t2:decide (e.en < 0)=false:=decide_eq_false (by omega)
   by_cases cs:e.st=0
   ·have t3:(e.st == 0)=true:=by simp [cs]
    simp only [zbm,zap,zac,zaq,zat,zal,zau,zci,zax,zad,zai,zab,zas,zae,zbd,zaf,zar,zav,zbn,za8,za3,zbf,zbg,za6,zbe,zbh,zag,zaw,X.eval,zak,zah,List.map_cons,List.map_nil,List.getD_cons_zero,List.getD_cons_succ,List.getD_nil,List.set_cons_zero,List.set_cons_succ,zaz,zan,zaa,zaj,intArith,shift,za0,cond_true,cond_false,BEq.rfl,AV.cells,AV.ofCells,List.nil_append,List.cons_append,Nat.zero_add,Nat.add_zero,Nat.reduceAdd,Bool.not_true,Int.reduceLT,decide_false,ft,zb5,zby,zbs,zbr,zbt,zco,zdj,zcw,zcn,zcq,zb1,zb2,zb6,zcc,zct,List.reverse_cons,List.reverse_nil,zce,zbk,za1,za5,za9,AV.ofCells,m1,hrd,zbl,zbx,hx,a0,a11,v1,v2,v3,v4,v5,m3,q11,v6,a13,t1,t2,a12,zd1,t3]
    rw [hr2 _ rfl]
    simp only [zap,zac,zaq,zbw,zbq,zad,zai,zab,zae,zaf,zar,zbb,zbi,X.eval,zah,List.getD_cons_zero,List.getD_cons_succ,List.set_cons_zero,List.set_cons_succ,cond_true,BEq.rfl,zbu,RV.eval]
    exact ⟨H,rfl,e1⟩
   ·have t3:(e.st == 0)=false:=by simp [cs]
    have t4:decide (e.st < e.bg)=false:=decide_eq_false (by rcases z2 with z2 | z2;exact absurd z2 cs;omega)
    simp only [zbm,zap,zac,zaq,zat,zal,zau,zci,zax,zad,zai,zab,zas,zae,zaf,zar,zav,zbn,za8,za3,zbf,zbg,za6,zbe,zbh,zag,zaw,X.eval,zak,zah,List.map_cons,List.map_nil,List.getD_cons_zero,List.getD_cons_succ,List.getD_nil,List.set_cons_zero,List.set_cons_succ,zaz,zan,zaa,zaj,intArith,shift,za0,cond_true,cond_false,BEq.rfl,AV.cells,AV.ofCells,List.nil_append,List.cons_append,Nat.zero_add,Nat.add_zero,Nat.reduceAdd,Bool.not_false,Int.reduceLT,decide_false,zb5,zby,zbs,zbr,zbt,zco,zdj,zcw,zcn,zcq,zb1,zb2,zb6,zcc,zct,List.reverse_cons,List.reverse_nil,zce,zbk,za1,za5,za9,AV.ofCells,m1,hrd,zbl,zbx,hx,a0,a11,v1,v2,v3,v4,v5,m3,q11,v6,a13,t1,t2,a12,zd1,t3,t4]
    rw [hr2 _ rfl]
    simp only [zap,zac,zaq,zbw,zbq,zad,zai,zab,zae,zaf,zar,zbb,zbi,X.eval,zah,List.getD_cons_zero,List.getD_cons_succ,List.set_cons_zero,List.set_cons_succ,cond_true,BEq.rfl,zbu,RV.eval]
    exact ⟨H,rfl,e1⟩
end
def Grow (h G:Heap) (v:CV) (n:Nat) (cs:List CV):Prop:=Mine 1 h G v n cs∨(n=0∧cs=[]∧∃ b,v = .sl b 0 0 (.ex 0)∧G.get b=some (.cells [])∧h.next≤b∧b < G.next)
theorem Grow.young {h G:Heap} {v:CV} {n:Nat} {cs:List CV} (g:Grow h G v n cs):∀ k,blk v=some k→h.next≤k∧k < G.next:=by
 intro k hk
 rcases g with ⟨_,⟨rfl,_⟩ | ⟨i,rfl,_,h1,h2⟩⟩ | ⟨_,_,b,rfl,_,h1,h2⟩
 ·cases hk
 ·simp [blk] at hk;omega
 ·simp [blk] at hk;omega
theorem Grow.keep {h G G':Heap} {v:CV} {n:Nat} {cs:List CV} (g:Grow h G v n cs) (hn:G.next≤G'.next) (hk:∀ k,k < G.next→blk v=some k→G'.get k=G.get k):Grow h G' v n cs:=by
 rcases g with m | ⟨h1,h2,b,rfl,h3,h4,h5⟩
 ·exact .inl (Mine.keep m hn hk)
 ·exact .inr ⟨h1,h2,b,rfl,(hk b h5 rfl).trans h3,h4,Nat.lt_of_lt_of_le h5 hn⟩
theorem zky {h G:Heap} {v:CV} {n m:Nat} {cs new:List CV} {y:AV} (g:Grow h G v n cs) (e:Ext h G) (hs:source G 1 y=some (m,new)) (hl:new.length=m) (hb:n + m≤1000000) :
  ∃ v' G',zed G 1 (.c v) y=some (.c v',G')∧Grow h G' v' (n + m) (cs++new)∧Ext h G'∧G.next≤G'.next∧(∀ k,k < G.next→blk v≠some k→G'.get k=G.get k)∧∀ k,blk v'=some k→k < G.next→blk v=some k:=by
 cases m with
 | zero =>
  have:new=[]:=List.eq_nil_of_length_eq_zero hl
  subst this
  refine ⟨v,G,zvn ?_ hs,by simpa using g,e,Nat.le_refl _,fun _ _ _=>rfl,fun k hk _=>hk⟩
  rcases g with ⟨_,⟨rfl,_⟩ | ⟨i,rfl,_⟩⟩ | ⟨_,_,b,rfl,_⟩
  ·exact .inl rfl
  ·exact .inr ⟨_,_,_,_,rfl⟩
  ·exact .inr ⟨_,_,_,_,rfl⟩
 | succ m =>
  rcases g with mi | ⟨rfl,rfl,b,rfl,h3,h4,h5⟩
  ·obtain ⟨G',a,mi',n',k'⟩:=zjg mi e.1 hs (by omega) (by omega)
   refine ⟨_,G',a,.inl mi',⟨by have:=e.1;omega,fun k hk=>?_⟩,by omega,k',fun k hk hlt=>?_⟩
   ·rw [k' k (Nat.lt_of_lt_of_le hk e.1) fun hb=>by have:=(Grow.young (.inl mi) k hb).1;omega]
    exact e.2 k hk
   ·simp [blk] at hk;omega
  ·obtain ⟨G',a,mi',n',k'⟩:=zrf (h0:=h) h3 e.1 hs (by omega) (by omega)
   refine ⟨_,G',a,.inl (by simpa using mi'),⟨by have:=e.1;omega,fun k hk=>?_⟩,by omega,fun k hk _=>k' k hk,fun k hk hlt=>?_⟩
   ·rw [k' k (Nat.lt_of_lt_of_le hk e.1)];exact e.2 k hk
   ·simp [blk] at hk;omega
def zkz (x:CV) (a b:Nat):CV:=match x with
 | .sl j o _ _=>.sl j (o + a) (b - a) (.dy 1)
 | y=>y
theorem zmo {h G H:Heap} {x:CV} {n a b:Nat} {cs:List CV} (m:Mine 1 h G x n cs) (hH:∀ k,blk x=some k→H.get k=G.get k) (hab:a≤b) (hb:b≤n):source H 1 (.c (zkz x a b))=some (b - a,(cs.drop a).take (b - a)):=by
 obtain ⟨hl,⟨rfl,rfl⟩ | ⟨i,rfl,hg,_,_⟩⟩:=m
 ·have:cs=[]:=List.eq_nil_of_length_eq_zero (by omega)
  subst this
  have:b - a=0:=by omega
  rw [this];rfl
 ·have hg':H.get i=some (.cells cs):=(hH i rfl).trans hg
  show source H 1 (.c (.sl i (0 + a) (b - a) (.dy 1)))=_
  unfold Lav.source
  simp only [Nat.mul_one]
  rw [zdi hg' (by omega),Nat.zero_add]
theorem zy5 {h G:Heap} {x:CV} {n k:Nat} {cs:List CV} (i:Int) (m:Mine 1 h G x n cs) (e:Ext h G) (hk:k≤n) (hn:n≤1000) :
  ∃ v1 G1 v2 G2 v3 G3,zed (G.new (.cells [])) 1 (.c (.sl G.next 0 0 (.ex 0))) (.c (zkz x 0 k))=some (.c v1,G1)∧zed (G1.new (.cells [zb9 i])) 1 (.c v1) (.c (.sl G1.next 0 1 (.ex 1)))=some (.c v2,G2) ∧
   zed G2 1 (.c v2) (.c (zkz x k n))=some (.c v3,G3)∧Mine 1 h G3 v3 (n + 1) (cs.take k++zb9 i :: cs.drop k)∧Ext h G3:=by
 have hl:cs.length=n:=by have:=m.1;omega
 have old:∀ j,blk x=some j→j < G.next:=fun j hj=>(Grow.young (.inl m) j hj).2
 have g0:Grow h (G.new (.cells [])) (.sl G.next 0 0 (.ex 0)) 0 []:=.inr ⟨rfl,rfl,G.next,rfl,zb8,e.1,Nat.lt_succ_self _⟩
 have s0:source (G.new (.cells [])) 1 (.c (zkz x 0 k))=some (k,cs.take k):=by
  have:=zmo (H:=G.new (.cells [])) (a:=0) (b:=k) m (fun j hj=>zdd (old j hj)) (Nat.zero_le _) hk
  simpa using this
 obtain ⟨v1,G1,a1,g1,e1,n1,k1,y1⟩:=zky g0 (e.new _) s0 (by simp;omega) (by omega)
 have keep1:∀ j,blk x=some j→G1.get j=G.get j:=fun j hj=>by
  have:=old j hj
  rw [k1 j (by simp [Heap.new];omega) (by simp [blk];omega)]
  exact zdd this
 have nx1:G.next < G1.next:=by simp [Heap.new] at n1;omega
 have g1':=g1.keep (G':=G1.new (.cells [zb9 i])) (Nat.le_succ _) fun j hj _=>zdd hj
 have s1:source (G1.new (.cells [zb9 i])) 1 (.c (.sl G1.next 0 1 (.ex 1)))=some (1,[zb9 i]):=zg6 zb8 rfl
 obtain ⟨v2,G2,a2,g2,e2,n2,k2,y2⟩:=zky g1' (e1.new _) s1 rfl (by omega)
 have nb1:∀ j,blk x=some j→blk v1≠some j:=fun j hj hv=>by
  have h1:=old j hj
  have:=y1 j hv (by simp [Heap.new];omega)
  simp [blk] at this;omega
 have nb2:∀ j,blk x=some j→blk v2≠some j:=fun j hj hv=>by
  have h1:=old j hj
  exact nb1 j hj (y2 j hv (by simp [Heap.new];omega))
 have keep2:∀ j,blk x=some j→G2.get j=G.get j:=fun j hj=>by
  have h1:=old j hj
  rw [k2 j (by simp [Heap.new];omega) (nb1 j hj),zdd (by omega)]
  exact keep1 j hj
 have s2:source G2 1 (.c (zkz x k n))=some (n - k,cs.drop k):=by
  have:=zmo (H:=G2) (a:=k) (b:=n) m keep2 hk (Nat.le_refl _)
  rw [List.take_of_length_le (by simp;omega)] at this
  exact this
 obtain ⟨v3,G3,a3,g3,e3,n3,k3,y3⟩:=zky g2 e2 s2 (by simp;omega) (by omega)
 refine ⟨v1,G1,v2,G2,v3,G3,a1,a2,a3,?_,e3⟩
 have he:0 + k + 1 + (n - k)=n + 1:=by omega
 rw [he] at g3
 simp only [List.nil_append,List.append_assoc,List.singleton_append] at g3
 rcases g3 with m3 | ⟨h1,_⟩
 ·exact m3
 ·omega
def stL (l:List Ev) (i:Nat):Int:=((l[i]?).map Ev.st).getD 0
def zgh (st:Nat→Int) (v:Int) (out:List Nat):Nat:=(out.reverse.dropWhile fun j=>decide (v < st j)).length
def zc7 (st:Nat→Int):Nat→List Nat
 | 0=>[]
 | n + 1=>if st n≤0 then zc7 st n else (zc7 st n).take (zgh st (st n) (zc7 st n))++n :: (zc7 st n).drop (zgh st (st n) (zc7 st n))
theorem zl6 (st:Nat→Int):∀ n,∀ j∈zc7 st n,j < n
 | 0,j,h=>by simp [zc7] at h
 | n + 1,j,h=>by
  have ih:=zl6 st n
  unfold zc7 at h
  split at h
  ·have:=ih j h;omega
  ·simp only [List.mem_append,List.mem_cons] at h
   rcases h with h | rfl | h
   ·have:=ih j (List.mem_of_mem_take h);omega
   ·omega
   ·have:=ih j (List.mem_of_mem_drop h);omega
theorem zh5 (st:Nat→Int):∀ n,(zc7 st n).length≤n
 | 0=>Nat.le_refl _
 | n + 1=>by
  have ih:=zh5 st n
  unfold zc7
  split
  ·omega
  ·simp only [List.length_append,List.length_cons,List.length_take,List.length_drop];omega
theorem zv2 (st:Nat→Int) (v:Int) (out:List Nat):zgh st v out≤out.length:=by
 have:(out.reverse.dropWhile fun j=>decide (v < st j)).length≤out.reverse.length:=(List.dropWhile_suffix _).length_le
 simpa [zgh] using this
theorem zs2 {st:Nat→Int} {v:Int} {out:List Nat} {k:Nat} (hk:k + 1≤out.length):zgh st v (out.take (k + 1))=if v < st (out.getD k 0) then zgh st v (out.take k) else k + 1:=by
 unfold zgh
 have ht:out.take (k + 1)=out.take k++[out.getD k 0]:=by
  rw [List.take_succ_eq_append_getElem (by omega),List.getD_eq_getElem?_getD,List.getElem?_eq_getElem (by omega)];rfl
 rw [ht,List.reverse_append,List.reverse_singleton,List.singleton_append,List.dropWhile_cons]
 by_cases c:v < st (out.getD k 0)
 ·rw [if_pos c,if_pos (by simpa using c)]
 ·rw [if_neg c,if_neg (by simpa using c)]
  simp;omega
end Lav
set_option maxRecDepth 100000
namespace Lav
open Go (IntKind)
section
variable {N d:Nat} {h:Heap} {y:CV} {l:List Ev}
theorem zxz {G:Heap} {x:CV} {n k:Nat} {cs:List CV} (m:Mine 1 h G x n cs) (hk:k≤n):∀ loc vals H,za2 loc (.c (.int .i64 (k:Int)) :: .c x :: vals) H (.slice 1 (.val 1) none (some (.val 0)) none)=some (.c (zkz x 0 k)):=by
 intro loc vals H
 obtain ⟨_,⟨rfl,rfl⟩ | ⟨i,rfl,_⟩⟩:=m
 ·have:k=0:=by omega
  subst this;rfl
 ·have b1:(Nat.ble 0 k && Nat.ble k n && (1:Nat) == 1)=true:=by simp [hk]
  show (bif (Nat.ble 0 k && Nat.ble k n && (1:Nat) == 1) then some (AV.c (.sl i (0 + 0 * 1) (k - 0) (.dy 1))) else none)=_
  rw [b1];rfl
theorem zx0 {G:Heap} {x:CV} {n k:Nat} {cs:List CV} (m:Mine 1 h G x n cs) (hk:k≤n):∀ loc vals H,za2 loc (.c (.int .i64 (k:Int)) :: .c x :: vals) H (.slice 1 (.val 1) (some (.val 0)) none none)=some (.c (zkz x k n)):=by
 intro loc vals H
 obtain ⟨_,⟨rfl,rfl⟩ | ⟨i,rfl,_⟩⟩:=m
 ·have:k=0:=by omega
  subst this;rfl
 ·have b1:(Nat.ble k n && Nat.ble n n && (1:Nat) == 1)=true:=by simp [hk]
  show (bif (Nat.ble k n && Nat.ble n n && (1:Nat) == 1) then some (AV.c (.sl i (0 + k * 1) (n - k) (.dy 1))) else none)=_
  rw [b1,Nat.mul_one];rfl
def zio (l:List Nat):List CV:=l.map fun j:Nat=>zb9 (j:Int)
theorem zk0 (E:Evs h y l) (hs:l.length≤900) (hN:1010≤N):∃ x h',evCallO OS table N (d + 1) 75 [.c y] h=some (.c x,h')∧Mine 1 h h' x (zc7 (stL l) l.length).length (zio (zc7 (stL l) l.length))∧Ext h h':=by
 have lw:∀ loc vals H,za2 loc (.c y :: vals) H (.len .sl (.val 0))=some (.c (.int .i64 (l.length:Int))):=fun _ _ _=>E.len
 have stamp:∀ i,i < l.length→∃ b c,y = .sl b 0 l.length c∧∀ G,Ext h G→G.read b (i * 14 + 12) 1=some [.int .i64 (stL l i)]:=by
  intro i hi
  obtain ⟨b,c,rfl,hb,hr⟩:=E.sl (by omega)
  refine ⟨b,c,rfl,fun G xG=>?_⟩
  obtain ⟨dc,rc,h1,_,_⟩:=hr i l[i] (by simp [hi])
  have:=(evN ((xG.read hb).trans h1)).st
  rw [this]
  simp [stL,hi]
 have inner:∀ G x i (o:List Nat),i < l.length→Ext h G→Mine 1 h G x o.length (zio o)→(∀ j∈o,j < l.length)→o.length≤900 →
   ∀ loc,zb3 ir75_k0 loc=[.c y,.junk,.c x,.c (.int .i64 (i:Int)),.c (.int .i64 (o.length:Int)),.junk,.junk,.junk,.junk] →
   ∃ r,zc5 (evCallO OS table N d) N ir75_k0 ir75_l0 N loc G=some r∧∃ q,r=(.exit 2,[.c y,.junk,.c x,.c (.int .i64 (i:Int)),.c (.int .i64 (zgh (stL l) (stL l i) o:Int)),.junk,.junk,.junk,q],G):=by
  intro G x i o hi xG m hol hlen loc hloc
  obtain ⟨b,c,hy,hst⟩:=stamp i hi
  refine zde (n:=o.length) (fun t loc G'=>G'=G∧t≤o.length∧zgh (stL l) (stL l i) o=zgh (stL l) (stL l i) (o.take (o.length - t))∧loc=[.c y,.junk,.c x,.c (.int .i64 (i:Int)),.c (.int .i64 ((o.length - t:Nat):Int)),.junk,.junk,.junk,.junk]) _ ?_ ⟨rfl,Nat.zero_le _,by simp,by simpa using hloc⟩ (by omega)
  rintro t loc G' ht ⟨rfl,htl,hbk,rfl⟩
  unfold ir75_l0
  by_cases hz:o.length - t=0
  ·right
   have v1:decide (((o.length - t:Nat):Int) > 0)=false:=decide_eq_false (by omega)
   have hb0:zgh (stL l) (stL l i) o=0:=by rw [hbk,hz];rfl
   simp only [zap,zac,zck,zat,zal,zc2,zab,zas,za6,zbe,X.eval,zak,zah,List.getD_cons_zero,List.getD_cons_succ,List.set_cons_zero,List.set_cons_succ,zaz,zan,zaa,zaj,intArith,shift,cond_true,cond_false,BEq.rfl,List.nil_append,List.cons_append,Nat.zero_add,Nat.reduceAdd,Int.reduceLT,decide_false,ft,zb5,zby,zbs,zbr,zbt,zco,zdj,zcw,zb1,zb2,zb6,zcc,zct,List.reverse_cons,List.reverse_nil,zcu,zcv,zcf,zcg,zcm,v1]
   exact ⟨_,rfl,by simp,_,by rw [hb0,hz]⟩
  ·obtain ⟨k,hk⟩ : ∃ k,o.length - t=k + 1:=⟨o.length - t - 1,by omega⟩
   have v1:decide (((o.length - t:Nat):Int) > 0)=true:=decide_eq_true (by omega)
   have v2:IntKind.i64.wrap (((o.length - t:Nat):Int) - 1)=(k:Int):=by rw [zgf (by omega) (by omega)];omega
   have hkl:k < o.length:=by omega
   have hstep:=zs2 (st:=stL l) (v:=stL l i) (out:=o) (k:=k) (by omega)
   rw [hk,hstep] at hbk
   have hoj:o.getD k 0 < l.length:=by
    rw [List.getD_eq_getElem?_getD,List.getElem?_eq_getElem hkl]
    exact hol _ (List.getElem_mem hkl)
   obtain ⟨_,⟨rfl,h0⟩ | ⟨j,rfl,hg,_,_⟩⟩:=m
   ·omega
   have m1:Nat.blt k o.length=true:=zdp hkl
   have q1:G'.read j k 1=some [.int .i64 (o.getD k 0:Int)]:=zam hg (by simp [zio,List.getD_eq_getElem?_getD,hkl,zb9])
   obtain ⟨b',c',hy',hst'⟩:=stamp (o.getD k 0) hoj
   have m2:Nat.blt (o.getD k 0) l.length=true:=zdp hoj
   have m3:Nat.blt i l.length=true:=zdp hi
   rw [hy] at hy'
   simp only [CV.sl.injEq] at hy'
   obtain ⟨rfl,_,_,rfl⟩:=hy'
   have s1:=hst' G' xG
   have s2:=hst G' xG
   by_cases hgt:stL l i < stL l (o.getD k 0)
   ·left
    rw [if_pos hgt] at hbk
    have v3:decide (stL l (o.getD k 0) > stL l i)=true:=decide_eq_true hgt
    simp only [zap,zac,zaq,zat,zao,zau,zay,zax,zad,zai,zab,zas,zae,zaf,zar,zav,za6,zbe,zag,X.eval,zak,zah,List.getD_cons_zero,List.getD_cons_succ,List.set_cons_zero,List.set_cons_succ,zaz,zan,zaa,zaj,intArith,shift,za0,cond_true,cond_false,BEq.rfl,AV.ofCells,List.nil_append,List.cons_append,Nat.zero_add,Nat.reduceAdd,Int.reduceLT,decide_false,zb5,zby,zbs,zbr,zbt,zco,zdj,zcw,zcn,zcq,zb1,zb2,zb6,zcc,zct,List.reverse_cons,List.reverse_nil,zce,v1,v2,hy,zbk,za5,za9,AV.ofCells,m1,q1,m2,s1,m3,s2,v3,Nat.mul_one]
    exact ⟨by omega,_,_,rfl,rfl,by omega,by rw [hbk];congr 2;omega,by rw [show o.length - (t + 1)=k by omega];rfl⟩
   ·right
    rw [if_neg hgt] at hbk
    have v3:decide (stL l (o.getD k 0) > stL l i)=false:=decide_eq_false hgt
    simp only [zap,zac,zck,zat,zal,zc2,zab,zas,za6,zbe,X.eval,zak,zah,List.getD_cons_zero,List.getD_cons_succ,List.set_cons_zero,List.set_cons_succ,zaz,zan,zaa,zaj,intArith,shift,za0,cond_true,cond_false,BEq.rfl,AV.ofCells,List.nil_append,List.cons_append,Nat.zero_add,Nat.reduceAdd,Int.reduceLT,decide_false,zb5,zby,zbs,zbr,zbt,zco,zdj,zcw,zcn,zcq,zb1,zb2,zb6,zcc,zct,List.reverse_cons,List.reverse_nil,zce,v1,v2,hy,zbk,za5,za9,AV.ofCells,m1,q1,m2,s1,m3,s2,v3,Nat.mul_one]
    exact ⟨_,rfl,by simp,_,by rw [hbk,hk]⟩
 have L:∀ loc,zb3 ir75_k1 loc=[.c y,.junk,.c .nils,.c (.int .i64 0),.junk,.junk,.junk,.junk,.junk] →
   ∃ r,zc5 (evCallO OS table N d) N ir75_k1 ir75_l1 N loc h=some r∧∃ a b x l' G,r=(.exit 0,a :: b :: .c x :: l',G)∧Mine 1 h G x (zc7 (stL l) l.length).length (zio (zc7 (stL l) l.length))∧Ext h G:=by
  intro loc hloc
  refine zde (n:=l.length) (fun i loc G=>∃ x,Mine 1 h G x (zc7 (stL l) i).length (zio (zc7 (stL l) i))∧Ext h G∧loc=[.c y,.junk,.c x,.c (.int .i64 (i:Int)),.junk,.junk,.junk,.junk,.junk]) _ ?_ ⟨.nils,Mine.nil,Ext.refl h,hloc⟩ (by omega)
  rintro i loc G hi ⟨x,m,xG,rfl⟩
  unfold ir75_l1
  by_cases hlt:i < l.length
  ·left
   refine ⟨hlt,?_⟩
   have v1:=ze1 hlt
   have v2:=zeb (i:=i) (by omega)
   have m3:Nat.blt i l.length=true:=zdp hlt
   obtain ⟨b,c,hy,hst⟩:=stamp i hlt
   have s2:=hst G xG
   have olen:=zh5 (stL l) i
   by_cases hz:stL l i≤0
   ·have v3:decide (stL l i≤0)=true:=decide_eq_true hz
    have ho:zc7 (stL l) (i + 1)=zc7 (stL l) i:=by
     show (if stL l i≤0 then _ else _)=_
     rw [if_pos hz]
    subst hy
    simp only [zap,zac,zck,zaq,zat,zao,zau,zbw,zax,zc2,zad,zai,zab,zae,zaf,zar,zav,zbc,za3,zbf,za6,zag,X.eval,zak,zah,List.getD_cons_zero,List.getD_cons_succ,List.set_cons_zero,List.set_cons_succ,zaz,zan,zaa,zaj,intArith,shift,za0,cond_true,cond_false,BEq.rfl,AV.ofCells,Nat.zero_add,Int.reduceLT,decide_false,lw,v1,zbk,za1,za5,za9,AV.ofCells,m3,s2,v3,v2]
    exact ⟨_,_,rfl,x,by rw [ho];exact m,xG,rfl⟩
   ·have v3:decide (stL l i≤0)=false:=decide_eq_false hz
    have hk:=zv2 (stL l) (stL l i) (zc7 (stL l) i)
    have ho:zc7 (stL l) (i + 1)=(zc7 (stL l) i).take (zgh (stL l) (stL l i) (zc7 (stL l) i))++i :: (zc7 (stL l) i).drop (zgh (stL l) (stL l i) (zc7 (stL l) i)):=by
     show (if stL l i≤0 then _ else _)=_
     rw [if_neg hz]
    have lx:∀ loc vals H,za2 loc (.c x :: vals) H (.len .sl (.val 0))=some (.c (.int .i64 ((zc7 (stL l) i).length:Int))):=fun _ _ _=>m.len rfl
    obtain ⟨r,⟨q,rfl⟩,hr⟩:=zdm (inner G x i (zc7 (stL l) i) hlt xG m (fun j hj=>by have:=zl6 (stL l) i j hj;omega) (by omega)) rfl
    have sh:=zxz m hk
    have sl:=zx0 m hk
    obtain ⟨w1,G1,w2,G2,w3,G3,a1,a2,a3,m',x3⟩:=zy5 (i:Int) m xG hk (by omega)
    have hw:(G1.skip 1).put G1.next (.cells [.int .i64 (i:Int)])=G1.new (.cells [zb9 (i:Int)]):=rfl
    have hout:(zio (zc7 (stL l) i)).take (zgh (stL l) (stL l i) (zc7 (stL l) i))++zb9 (i:Int) :: (zio (zc7 (stL l) i)).drop (zgh (stL l) (stL l i) (zc7 (stL l) i))=zio (zc7 (stL l) (i + 1)):=by
     rw [ho];simp [zio,List.map_take,List.map_drop]
    have hlen:(zc7 (stL l) i).length + 1=(zc7 (stL l) (i + 1)).length:=by
     rw [ho];simp;omega
    rw [hout,hlen] at m'
    subst hy
    simp only [zb9] at a2
    simp only [zap,zac,zaq,zat,zao,zal,zau,zci,zax,zad,zai,zab,zae,zaf,zar,zav,zbc,za3,zbf,za6,zag,X.eval,zak,zah,List.getD_cons_zero,List.getD_cons_succ,List.set_cons_zero,List.set_cons_succ,zaz,zan,zaa,zaj,intArith,shift,za0,cond_true,cond_false,BEq.rfl,AV.ofCells,Nat.zero_add,Int.reduceLT,decide_false,lw,v1,zbk,za1,za5,za9,AV.ofCells,m3,s2,v3,lx]
    rw [hr _ rfl]
    simp only [zap,zac,zaq,zay,zbw,zad,zai,zab,zae,zaf,zar,zav,zep,zjb,zif,za6,zbh,zag,zaw,X.eval,zak,zah,List.getD_cons_zero,List.getD_cons_succ,List.set_cons_zero,List.set_cons_succ,zaz,zan,zaa,zaj,intArith,shift,cond_true,cond_false,BEq.rfl,zb4,zb7,AV.cells,List.length_cons,List.length_nil,zeros,zdo,setMany,List.nil_append,List.cons_append,Nat.ble,Nat.zero_add,Nat.add_zero,Nat.reduceAdd,Int.reduceLT,decide_false,zb5,zby,zbs,zbr,zbt,zd2,zco,zl1,zb1,zb2,zb6,zcc,List.reverse_cons,List.reverse_nil,zpe,zwu,zl1,zhx,zb9,sh,sl,a1,a2,a3,hw,v2]
    exact ⟨_,_,rfl,w3,m',x3,rfl⟩
  ·right
   have:i=l.length:=by omega
   subst this
   have v1:decide ((l.length:Int) < (l.length:Int))=false:=zfj (Nat.le_refl _)
   simp only [zap,zac,zck,zaq,zat,zal,zc2,zad,zai,zab,zae,zaf,zar,zav,zbc,za6,zag,X.eval,zak,zah,List.getD_cons_zero,List.getD_cons_succ,List.set_cons_zero,List.set_cons_succ,zaz,zan,zaa,zaj,intArith,shift,cond_true,cond_false,BEq.rfl,lw,v1]
   exact ⟨_,rfl,by simp,_,_,_,_,_,rfl,m,xG⟩
 obtain ⟨r,⟨a,b,x,l',G,rfl,m,xG⟩,hr⟩:=zdm L rfl
 rw [zbp (F:=ir75) rfl rfl rfl]
 unfold ir75
 rw [zbv]
 simp only [zbm,zap,zac,zaq,zau,zci,zad,zai,zab,zae,zaf,zar,X.eval,zah,List.map_cons,List.map_nil,List.getD_cons_zero,List.getD_cons_succ,List.getD_nil,List.set_cons_zero,List.set_cons_succ]
 rw [hr _ rfl]
 simp only [zap,zac,zaq,zbw,zbq,zad,zai,zab,zae,zaf,zar,zbb,zbi,X.eval,zak,zah,List.getD_cons_zero,List.getD_cons_succ,List.set_cons_zero,List.set_cons_succ,cond_true,BEq.rfl,zbu,RV.eval]
 exact ⟨x,G,rfl,m,xG⟩
end
end Lav
set_option maxRecDepth 100000
namespace Lav
open Go (IntKind)
def zdq (p c:Nat):MS:=⟨List.replicate p false,List.replicate p z16,List.replicate c (List.replicate 6 (-1))⟩
def zk1 (N d p c:Nat):Prop:=∀ h,∃ x z h',evCallO OS table N d 73 [.c (.int .i64 (p:Int)),.c (.int .i64 (c:Int))] h=some (.agg x,h')∧SR h' x z (zdq p c)∧Ext h h'∧∀ j∈z.own,h.next≤j
instance:Inhabited OpM:=⟨⟨0,0,0,0,0,[]⟩⟩
instance:Inhabited ResM:=⟨⟨0,0,0,[]⟩⟩
instance:Inhabited Ev:=⟨⟨0,default,default,0,0,0⟩⟩
def zcb (l:List Ev) (i:Nat):Ev:=l.getD i default
theorem zo7 {l:List Ev} {i:Nat} (hi:i < l.length):l[i]? = some (zcb l i):=by simp [zcb,List.getD_eq_getElem?_getD,hi]
def okG (l:List Ev):MS→List Nat→Bool
 | _,[]=>true
 | s,j :: r=>(zfk s (zcb l j)).1 && okG l (zfk s (zcb l j)).2 r
def zgo (l:List Ev):MS→List Nat→MS
 | s,[]=>s
 | s,j :: r=>zgo l (zfk s (zcb l j)).2 r
theorem zoc {l:List Ev}:∀ {s:MS} {a b:List Nat},okG l s (a++b)=(okG l s a && okG l (zgo l s a) b)
 | s,[],b=>by simp [okG,zgo]
 | s,j :: a,b=>by
  show ((zfk s (zcb l j)).1 && okG l (zfk s (zcb l j)).2 (a++b))=((zfk s (zcb l j)).1 && okG l (zfk s (zcb l j)).2 a && okG l (zgo l (zfk s (zcb l j)).2 a) b)
  rw [zoc,Bool.and_assoc]
theorem zm4 {l:List Ev}:∀ {s:MS} {a b:List Nat},zgo l s (a++b)=zgo l (zgo l s a) b
 | _,[],_=>rfl
 | s,j :: a,b=>zm4 (s:=(zfk s (zcb l j)).2) (a:=a) (b:=b)
structure OI (h:Heap) (p4:Nat) (x:List CV) (z:SP) (ox:CV) (o:List Nat) (s:MS) (G:Heap):Prop where
 S:SR G x z s
 e:Ext h G
 b4:G.get p4=some (.cells x)
 l4:p4 < G.next
 n4:p4 ∉ z.own
 own:∀ j∈z.own,h.next≤j
 o:Ints G ox (o.map fun j:Nat=>(j:Int))
 no:∀ j,blk ox=some j→j ∉ z.own
section
variable {N d:Nat} {h G G':Heap} {p4:Nat} {x:List CV} {z:SP} {ox:CV} {o:List Nat} {s s':MS} {y:CV} {l:List Ev}
theorem Ints.extB {h h':Heap} {x:CV} {xs:List Int} {L:List Nat} (hx:Ints h x xs) (e:ExtB L h h') (hn:∀ k,blk x=some k→k ∉ L):Ints h' x xs:=by
 rcases hx with h1 | ⟨i,o,c,rfl,h2,h3⟩
 ·exact .inl h1
 ·refine .inr ⟨i,o,c,rfl,Nat.lt_of_lt_of_le h2 e.1,fun j hj=>?_⟩
  have:=e.2 i h2 (hn i rfl)
  unfold Heap.read
  rw [this]
  exact h3 j hj
theorem OI.step (I:OI h p4 x z ox o s G) (S':SR G' x z s') (e:ExtB z.own G G'):OI h p4 x z ox o s' G' :=
 ⟨S',⟨Nat.le_trans I.e.1 e.1,fun k hk=>(e.2 k (Nat.lt_of_lt_of_le hk I.e.1) fun hm=>by have:=I.own k hm;omega).trans (I.e.2 k hk)⟩,e.at_ I.b4 I.l4 I.n4,Nat.lt_of_lt_of_le I.l4 e.1,I.n4,I.own,I.o.extB e I.no,I.no⟩
theorem OI.more (I:OI h p4 x z ox o s G) (e:Ext G G'):OI h p4 x z ox o s G':=I.step (I.S.ext e) (e.b _)
theorem OI.r4 (I:OI h p4 x z ox o s G):G.read p4 0 3=some x:=by
 rw [zdi I.b4 (by rw [I.S.len3];omega),List.drop_zero,List.take_of_length_le (by rw [I.S.len3];omega)]
theorem OI.len (I:OI h p4 x z ox o s G):∀ loc vals H,za2 loc (.c ox :: vals) H (.len .sl (.val 0))=some (.c (.int .i64 (o.length:Int))):=fun _ _ _=>by
 have:=I.o.len (h:=G) (loc:=[]) (vals:=[.c ox]) (X:=.val 0) rfl
 rw [List.length_map] at this
 exact I.o.len rfl |>.trans (by rw [List.length_map])
theorem OI.at_ (I:OI h p4 x z ox o s G) {k:Nat} (hk:k < o.length):∃ j q c,ox = .sl j q o.length c∧G.read j (q + k) 1=some [.int .i64 (o.getD k 0:Int)]:=by
 obtain ⟨j,q,c,e,_,hr⟩:=I.o.sl (by simp;omega)
 rw [List.length_map] at e
 refine ⟨j,q,c,e,?_⟩
 have:=hr k (by simpa using hk)
 rw [this]
 simp [List.getD_eq_getElem?_getD,hk]
theorem zi1 (E:Evs h y l) (e:Ext h G) {i:Nat} (hi:i < l.length):∃ b c dc rc,y = .sl b 0 l.length c∧b < h.next∧G.read b (i * 14) 14=some (evC (zcb l i) dc rc)∧Bytes h dc (zcb l i).op.data∧Bytes h rc (zcb l i).rs.rd:=by
 obtain ⟨b,c,rfl,hb,hr⟩:=E.sl (by omega)
 obtain ⟨dc,rc,h1,h2,h3⟩:=hr i _ (zo7 hi)
 exact ⟨b,c,dc,rc,rfl,hb,(e.read hb).trans h1,h2,h3⟩
theorem SR.hsl {h h':Heap} {s s':MS} (S:SR h x z s) (S':SR h' x z s'):s'.hs.length=s.hs.length:=by
 have:=S.xe.symm.trans S'.xe
 simp only [List.cons.injEq,CV.sl.injEq,and_true,true_and] at this
 exact this.2.2.symm
theorem OI.start {x:List CV} {h0 H1 H2 H3:Heap} (S:SR H1 x z s) (own:∀ j∈z.own,h0.next≤j) (e0:Ext h0 H1) (eb:Ext H1 H2) (b4:H2.get p4=some (.cells x)) (l4:p4 < H2.next) (g4:H1.next≤p4) (e3:Ext H2 H3) (m:Mine 1 H2 H3 ox o.length (zio o)):OI h0 p4 x z ox o s H3:=by
 have lt:=S.lt
 refine ⟨S.ext (eb.trans e3),e0.trans (eb.trans e3),e3.at_ b4 l4,Nat.lt_of_lt_of_le l4 e3.1,fun hm=>by have:=lt _ hm;omega,own,?_,fun j hj hm=>?_⟩
 ·have:zio o=(o.map fun j:Nat=>(j:Int)).map (.int .i64):=by simp [zio,zb9]
  rw [this] at m
  exact m.ints
 ·have h1:=m.young j hj
  have h2:=lt _ hm
  have:=eb.1
  omega
theorem zk2 {p c:Nat} (hnew:zk1 N d p c) (hp:0 < p) (E:Evs h y l) (hs:l.length≤900) (hal:∀ i,i < l.length→AloneP l i (zcb l i) (c:Int)) (hmay:∀ i,i < l.length→(zcb l i).may c)
  (hok:okG l (zdq p c) (zc7 (stL l) l.length)=true) (hN:1010≤N) (hd:5≤d) :
  ∃ h',evCallO OS table N (d + 1) 47 [.c y,.c (.int .i64 (p:Int)),.c (.int .i64 (c:Int))] h=some (.c (.int .i64 0),h')∧Ext h h':=by
 obtain ⟨d,rfl⟩ : ∃ k,d=k + 5:=⟨d - 5,by omega⟩
 obtain ⟨x,z,H1,f1,S1,x1,own⟩:=hnew h
 obtain ⟨H2,w2,g2,x2,n2⟩:=zfd (h:=H1) (z:=[.nils,.nils,.nils]) (v:=x) (by rw [S1.len3];rfl)
 have lx:=S1.len3
 have r4:H2.read H1.next 0 1=some [.sl z.t 0 p z.ct]:=zam g2 (by rw [S1.xe];simp [zdq])
 have lw:∀ loc vals H,za2 loc (.c y :: vals) H (.len .sl (.val 0))=some (.c (.int .i64 (l.length:Int))):=fun _ _ _=>E.len
 have v0:((p:Int) == 0)=false:=by simp only [beq_eq_false_iff_ne,ne_eq];omega
 have L1:∀ loc,zb3 ir47_k1 loc=[.c y,.junk,.c (.int .i64 (c:Int)),.junk,.c (.ptr H1.next 0),.c (.int .i64 0),.junk,.junk,.junk,.junk,.junk,.junk,.junk] →
   ∃ r,zc5 (evCallO OS table N (d + 5)) N ir47_k1 ir47_l1 N loc H2=some r∧∃ q1 q2 G,r=(.exit 0,[.c y,.junk,.c (.int .i64 (c:Int)),.junk,.c (.ptr H1.next 0),q1,.junk,.junk,.junk,q2,.junk,.junk,.junk],G)∧Ext H2 G:=by
  intro loc hloc
  refine zde (n:=l.length) (fun i loc G=>Ext H2 G∧loc=[.c y,.junk,.c (.int .i64 (c:Int)),.junk,.c (.ptr H1.next 0),.c (.int .i64 (i:Int)),.junk,.junk,.junk,.junk,.junk,.junk,.junk]) _ ?_ ⟨Ext.refl _,hloc⟩ (by omega)
  rintro i loc G hi ⟨xg,rfl⟩
  unfold ir47_l1
  by_cases hlt:i < l.length
  ·left
   have v1:=ze1 hlt
   have v2:=zeb (i:=i) (by omega)
   obtain ⟨G1,f2,y2⟩:=zv1 (N:=N) (d:=d + 4) (E.ext ((x1.trans x2).trans xg)) (zo7 hlt) (hal i hlt) (by omega) hN
   simp only [zap,zac,zaq,zat,zao,zal,zau,zay,zax,zad,zai,zab,zae,zaf,zar,zav,zcd,zbc,zba,za7,za6,zcx,zag,X.eval,zak,zah,List.map_cons,List.map_nil,List.getD_cons_zero,List.getD_cons_succ,List.set_cons_zero,List.set_cons_succ,zaz,zcj,zan,zaa,zaj,intArith,shift,cond_true,cond_false,BEq.rfl,Bool.not_true,Int.reduceLT,decide_false,lw,v1,f2,v2]
   exact ⟨hlt,_,_,rfl,xg.trans y2,rfl⟩
  ·right
   have:i=l.length:=by omega
   subst this
   have v1:decide ((l.length:Int) < (l.length:Int))=false:=zfj (Nat.le_refl _)
   simp only [zap,zac,zck,zaq,zat,zal,zc2,zad,zai,zab,zae,zaf,zar,zav,zbc,za6,zag,X.eval,zak,zah,List.getD_cons_zero,List.getD_cons_succ,List.set_cons_zero,List.set_cons_succ,zaz,zan,zaa,zaj,intArith,shift,cond_true,cond_false,BEq.rfl,lw,v1]
   exact ⟨_,rfl,by simp,_,_,_,rfl,xg⟩
 obtain ⟨r1,⟨q1,q2,H3,rfl,x3⟩,hr1⟩:=zdm L1 rfl
 obtain ⟨ox,H4,f4,m4,x4⟩:=zk0 (N:=N) (d:=d + 4) (E.ext ((x1.trans x2).trans x3)) hs hN
 have I0:OI h H1.next x z ox (zc7 (stL l) l.length) (zdq p c) H4:=OI.start S1 own x1 (x2.trans x3) (x3.at_ g2 (by omega)) (by have:=x3.1;omega) (Nat.le_refl _) x4 m4
 generalize hO:zc7 (stL l) l.length=O at *
 have hOl:∀ k,k < O.length→O.getD k 0 < l.length:=fun k hk=>by
  have:=zl6 (stL l) l.length (O.getD k 0) (by rw [hO,List.getD_eq_getElem?_getD,List.getElem?_eq_getElem hk];exact List.getElem_mem hk)
  exact this
 have hOn:O.length≤900:=by rw [← hO];exact Nat.le_trans (zh5 _ _) hs
 have lo:=I0.len
 have L0:∀ loc,zb3 ir47_k0 loc=[.c y,.junk,.junk,.junk,.c (.ptr H1.next 0),.junk,.c ox,.c (.int .i64 0),.junk,.junk,.junk,.junk,.junk] →
   ∃ r,zc5 (evCallO OS table N (d + 5)) N ir47_k0 ir47_l0 N loc H4=some r∧∃ a b e q l' G,r=(.exit 2,a :: b :: e :: q :: l',G)∧Ext h G:=by
  intro loc hloc
  refine zde (n:=O.length) (fun k loc G=>OI h H1.next x z ox O (zgo l (zdq p c) (O.take k)) G∧loc=[.c y,.junk,.junk,.junk,.c (.ptr H1.next 0),.junk,.c ox,.c (.int .i64 (k:Int)),.junk,.junk,.junk,.junk,.junk]) _ ?_ ⟨I0,hloc⟩ (by omega)
  rintro k loc G hk ⟨I,rfl⟩
  unfold ir47_l0
  by_cases hlt:k < O.length
  ·left
   have v1:=ze1 hlt
   have v2:=zeb (i:=k) (by omega)
   obtain ⟨j,q,cc,hox,hro⟩:=I.at_ hlt
   have hj:=hOl k hlt
   obtain ⟨b,c',dc,rc,hy,hb,hre,hd1,hr1⟩:=zi1 E I.e hj
   have m1:Nat.blt k O.length=true:=zdp hlt
   have m2:Nat.blt (O.getD k 0) l.length=true:=zdp hj
   have hcl:(zgo l (zdq p c) (O.take k)).hs.length=c:=by rw [S1.hsl I.S];simp [zdq]
   obtain ⟨G1,f5,S5,x5⟩:=step_ok (N:=N) (d:=d + 1) I.S (e:=zcb l (O.getD k 0)) (by rw [hcl];exact hmay _ hj) (hd1.ext I.e) (hr1.ext I.e) (fun t ht hm=>by have:=I.own t hm;have:=blk_old hr1 t ht;omega) (by omega)
   have htk:O.take (k + 1)=O.take k++[O.getD k 0]:=by
    rw [List.take_succ_eq_append_getElem hlt,List.getD_eq_getElem?_getD,List.getElem?_eq_getElem hlt];rfl
   have hrun:zgo l (zdq p c) (O.take (k + 1))=(zfk (zgo l (zdq p c) (O.take k)) (zcb l (O.getD k 0))).2:=by rw [htk,zm4];rfl
   have htrue:(zfk (zgo l (zdq p c) (O.take k)) (zcb l (O.getD k 0))).1=true:=by
    have h1:okG l (zdq p c) (O.take (k + 1)++O.drop (k + 1))=true:=by rw [List.take_append_drop];exact hok
    rw [zoc,htk,zoc] at h1
    simp only [Bool.and_eq_true,okG] at h1
    exact h1.1.2.1
   rw [htrue] at f5
   have r3:=I.r4
   subst hox
   subst hy
   simp only [zap,zac,zaq,zat,zao,zal,zau,zay,zax,zad,zai,zab,zae,zaf,zar,zav,zbc,za7,za6,zcx,zag,X.eval,zak,zah,List.map_cons,List.map_nil,List.getD_cons_zero,List.getD_cons_succ,List.set_cons_zero,List.set_cons_succ,zaz,zcj,zan,zaa,zaj,intArith,shift,za0,cond_true,cond_false,BEq.rfl,AV.ofCells,List.nil_append,List.cons_append,Nat.zero_add,Nat.reduceAdd,Bool.not_true,Int.reduceLT,decide_false,zb5,zby,zbs,zbr,zbt,zd2,zco,zyy,zcn,zcq,zgk,zb1,zb2,zb6,zcc,zct,List.reverse_cons,List.reverse_nil,lo,v1,zbk,za9,AV.ofCells,r3,m1,hro,m2,hre,f5,v2,Nat.mul_one,Nat.zero_add]
   refine ⟨hlt,_,_,rfl,?_,rfl⟩
   rw [hrun]
   exact I.step S5 x5
  ·right
   have:k=O.length:=by omega
   subst this
   have v1:decide ((O.length:Int) < (O.length:Int))=false:=zfj (Nat.le_refl _)
   simp only [zap,zac,zck,zaq,zat,zal,zc2,zad,zai,zab,zae,zaf,zar,zav,zbc,za6,zag,X.eval,zak,zah,List.getD_cons_zero,List.getD_cons_succ,List.set_cons_zero,List.set_cons_succ,zaz,zan,zaa,zaj,intArith,shift,cond_true,cond_false,BEq.rfl,lo,v1]
   exact ⟨_,rfl,by simp,_,_,_,_,_,_,rfl,I.e⟩
 obtain ⟨r0,⟨a,b,e,q,l',H5,rfl,x5⟩,hr0⟩:=zdm L0 rfl
 have w2':(H1.new (.cells [.nils,.nils,.nils])).write H1.next 0 x=some H2:=w2
 rw [zbp (F:=ir47) rfl rfl rfl]
 unfold ir47
 rw [zbv]
 simp only [zbm,zap,zac,zaq,zat,zal,zau,zci,zax,zad,zai,zab,zae,zaf,zar,zav,zbn,zbc,za3,zba,zbg,za7,za6,zbh,zag,zaw,X.eval,zak,zah,List.map_cons,List.map_nil,List.getD_cons_zero,List.getD_cons_succ,List.getD_nil,List.set_cons_zero,List.set_cons_succ,zaz,zan,zaa,zaj,intArith,shift,cond_true,cond_false,BEq.rfl,AV.cells,AV.ofCells,Nat.add_zero,Int.reduceNeg,Int.reduceLT,decide_false,f1,zbl,lx,w2',za1,za5,za9,AV.ofCells,r4,zb0,v0]
 rw [hr1 _ rfl]
 simp only [zap,zac,zaq,zau,zbw,zci,zad,zai,zab,zae,zaf,zar,zba,za7,X.eval,zak,zah,List.map_cons,List.map_nil,List.getD_cons_zero,List.set_cons_zero,List.set_cons_succ,cond_true,BEq.rfl,f4]
 rw [hr0 _ rfl]
 simp only [zap,zac,zaq,zbw,zbq,zad,zai,zab,zae,zaf,zar,zbb,zbi,X.eval,zah,List.getD_cons_zero,List.getD_cons_succ,List.set_cons_zero,List.set_cons_succ,cond_true,BEq.rfl,zbu,RV.eval]
 exact ⟨H5,rfl,x5⟩
end
end Lav
set_option maxRecDepth 100000
namespace Lav
open Go (IntKind)
structure HistOK (l:List Ev) (p c:Nat):Prop where
 hs:l.length≤900
 al:∀ i,i < l.length→AloneP l i (zcb l i) (c:Int)
 may:∀ i,i < l.length→(zcb l i).may c
 ok:okG l (zdq p c) (zc7 (stL l) l.length)=true
def zod (l:List Ev) (p c:Nat):MS:=zgo l (zdq p c) (zc7 (stL l) l.length)
section
variable {N d:Nat} {h G G':Heap} {p4:Nat} {x:List CV} {z:SP} {ox:CV} {o:List Nat} {s s':MS} {y:CV} {l:List Ev}
theorem zh6 {O:List Nat} {k:Nat} (hk:k < O.length):O.take (k + 1)=O.take k++[O.getD k 0]:=by
 rw [List.take_succ_eq_append_getElem hk,List.getD_eq_getElem?_getD,List.getElem?_eq_getElem hk];rfl
theorem zqd {l:List Ev} {k:Nat} (hk:k < (zc7 (stL l) l.length).length):(zc7 (stL l) l.length).getD k 0 < l.length :=
 zl6 (stL l) l.length _ (by rw [List.getD_eq_getElem?_getD,List.getElem?_eq_getElem hk];exact List.getElem_mem hk)
theorem zv3 {p c:Nat} (hnew:zk1 N d p c) (hp:0 < p) (E:Evs h y l) (K:HistOK l p c) (hN:1010≤N) (hd:6≤d) (hnew':zk1 N (d + 1) p c) :
  ∃ x z h',evCallO OS table N (d + 2) 59 [.c y,.c (.int .i64 (p:Int)),.c (.int .i64 (c:Int))] h=some (.tup [.agg x,.c (.bool true)],h')∧SR h' x z (zod l p c)∧Ext h h'∧∀ j∈z.own,h.next≤j:=by
 have e0:=(Ext.refl h).new (.cells [.nils,.nils,.nils])
 generalize hg0:h.new (.cells [.nils,.nils,.nils])=H0 at e0
 have g0:H0.get h.next=some (.cells [.nils,.nils,.nils]):=by rw [← hg0];exact zb8
 have n0:H0.next=h.next + 1:=by rw [← hg0];rfl
 obtain ⟨Hc,fc,xc⟩:=zk2 hnew hp (E.ext e0) K.hs K.al K.may K.ok hN (by omega)
 obtain ⟨x,z,H1,f1,S1,x1,own⟩:=hnew' Hc
 obtain ⟨H2,w2,g2,x2,n2⟩:=zfd (h:=H1) (z:=[.nils,.nils,.nils]) (v:=x) (by rw [S1.len3];rfl)
 have lx:=S1.len3
 have w2':(H1.new (.cells [.nils,.nils,.nils])).write H1.next 0 x=some H2:=w2
 have xa:Ext h H2:=((e0.trans xc).trans x1).trans x2
 obtain ⟨ox,H4,f4,m4,x4⟩:=zk0 (N:=N) (d:=d) (E.ext xa) K.hs hN
 have I0:OI Hc H1.next x z ox (zc7 (stL l) l.length) (zdq p c) H4:=OI.start S1 own x1 x2 g2 (by omega) (Nat.le_refl _) x4 m4
 have Ec:=E.ext (e0.trans xc)
 generalize hO:zc7 (stL l) l.length=O at *
 have hOl:∀ k,k < O.length→O.getD k 0 < l.length:=fun k hk=>by rw [← hO] at hk ⊢;exact zqd hk
 have hOn:O.length≤900:=by rw [← hO];exact Nat.le_trans (zh5 _ _) K.hs
 have lo:=I0.len
 obtain ⟨d,rfl⟩ : ∃ k,d=k + 6:=⟨d - 6,by omega⟩
 have L0:∀ loc,zb3 ir59_k0 loc=[.c y,.junk,.junk,.c (.ptr h.next 0),.junk,.c (.ptr H1.next 0),.c ox,.c (.int .i64 0),.junk,.junk] →
   ∃ r,zc5 (evCallO OS table N (d + 7)) N ir59_k0 ir59_l0 N loc H4=some r∧∃ a1 a2 a3 a5 a7 l' G,r=(.exit 0,a1 :: a2 :: a3 :: .c (.ptr h.next 0) :: a5 :: .c (.ptr H1.next 0) :: a7 :: l',G)∧OI Hc H1.next x z ox O (zgo l (zdq p c) O) G:=by
  intro loc hloc
  refine zde (n:=O.length) (fun k loc G=>OI Hc H1.next x z ox O (zgo l (zdq p c) (O.take k)) G∧loc=[.c y,.junk,.junk,.c (.ptr h.next 0),.junk,.c (.ptr H1.next 0),.c ox,.c (.int .i64 (k:Int)),.junk,.junk]) _ ?_ ⟨I0,hloc⟩ (by omega)
  rintro k loc G hk ⟨I,rfl⟩
  unfold ir59_l0
  by_cases hlt:k < O.length
  ·left
   have v1:=ze1 hlt
   have v2:=zeb (i:=k) (by omega)
   obtain ⟨j,q,cc,hox,hro⟩:=I.at_ hlt
   have hj:=hOl k hlt
   obtain ⟨b,c',dc,rc,hy,hb,hre,hd1,hr1⟩:=zi1 Ec I.e hj
   have m1:Nat.blt k O.length=true:=zdp hlt
   have m2:Nat.blt (O.getD k 0) l.length=true:=zdp hj
   have hcl:(zgo l (zdq p c) (O.take k)).hs.length=c:=by rw [S1.hsl I.S];simp [zdq]
   obtain ⟨G1,f5,S5,x5⟩:=step_ok (N:=N) (d:=d + 3) I.S (e:=zcb l (O.getD k 0)) (by rw [hcl];exact K.may _ hj) (hd1.ext I.e) (hr1.ext I.e) (fun t ht hm=>by have:=I.own t hm;have:=blk_old hr1 t ht;omega) (by omega)
   have hrun:zgo l (zdq p c) (O.take (k + 1))=(zfk (zgo l (zdq p c) (O.take k)) (zcb l (O.getD k 0))).2:=by rw [zh6 hlt,zm4];rfl
   have r3:=I.r4
   subst hox
   subst hy
   simp only [zap,zac,zaq,zat,zao,zau,zay,zax,zad,zai,zab,zae,zaf,zar,zav,zbc,za7,za6,zag,X.eval,zak,zah,List.map_cons,List.map_nil,List.getD_cons_zero,List.getD_cons_succ,List.set_cons_zero,List.set_cons_succ,zaz,zan,zaa,zaj,intArith,shift,za0,cond_true,cond_false,BEq.rfl,AV.ofCells,List.nil_append,List.cons_append,Nat.zero_add,Nat.reduceAdd,Int.reduceLT,decide_false,zb5,zby,zbs,zbr,zbt,zd2,zco,zcn,zcq,zgk,zb1,zb2,zb6,zcc,zct,List.reverse_cons,List.reverse_nil,lo,v1,zbk,za9,AV.ofCells,r3,m1,hro,m2,hre,f5,v2,Nat.mul_one,Nat.zero_add]
   refine ⟨hlt,_,_,rfl,?_,rfl⟩
   rw [hrun]
   exact I.step S5 x5
  ·right
   have:k=O.length:=by omega
   subst this
   have v1:decide ((O.length:Int) < (O.length:Int))=false:=zfj (Nat.le_refl _)
   rw [List.take_length] at I
   simp only [zap,zac,zck,zaq,zat,zal,zc2,zad,zai,zab,zae,zaf,zar,zav,zbc,za6,zag,X.eval,zak,zah,List.getD_cons_zero,List.getD_cons_succ,List.set_cons_zero,List.set_cons_succ,zaz,zan,zaa,zaj,intArith,shift,cond_true,cond_false,BEq.rfl,lo,v1]
   exact ⟨_,rfl,by simp,_,_,_,_,_,_,_,rfl,I⟩
 obtain ⟨r0,⟨a1,a2,a3,a5,a7,l',H5,rfl,I⟩,hr0⟩:=zdm L0 rfl
 have r5:=I.r4
 have g5:H5.get h.next=some (.cells [.nils,.nils,.nils]):=I.e.at_ (xc.at_ g0 (by omega)) (by have:=xc.1;omega)
 have w6:=zg5 (o:=0) (vs:=x) g5 (by rw [lx];exact Nat.le_refl _)
 have hx0:([CV.nils,.nils,.nils].take 0++x++[CV.nils,.nils,.nils].drop (0 + x.length))=x:=by rw [lx];simp
 rw [hx0] at w6
 have r6:(H5.put h.next (.cells x)).read h.next 0 3=some x:=by rw [zdi zc9 (by omega),List.drop_zero,List.take_of_length_le (by omega)]
 have y6:ExtB [h.next] H5 (H5.put h.next (.cells x)):=(ExtB.refl _ _).put (.inr (by simp)) _
 have S6:=I.S.extB y6 (fun j hj hm=>by simp at hm;have:=own j hj;have:=xc.1;omega)
 have v0:((0:Int) == 0)=true:=rfl
 rw [zbp (F:=ir59) rfl rfl rfl]
 unfold ir59
 rw [zbv]
 simp only [zbm,zap,zac,zaq,zat,zal,zau,zci,zax,zad,zai,zab,zae,zaf,zar,zav,zbn,zba,zbg,za7,za6,zbh,zag,zaw,X.eval,zak,zah,List.map_cons,List.map_nil,List.getD_cons_zero,List.getD_cons_succ,List.getD_nil,List.set_cons_zero,List.set_cons_succ,zaz,zan,zaa,zaj,intArith,shift,cond_true,cond_false,BEq.rfl,AV.cells,Bool.not_true,Int.reduceLT,decide_false,hg0,fc,zd1,f1,zbl,lx,w2',f4]
 rw [hr0 _ rfl]
 simp only [zap,zac,zaq,zbw,zbq,zad,zai,zab,zae,zaf,zar,za3,zbg,zbb,zbi,zag,X.eval,zak,zah,List.getD_cons_zero,List.getD_cons_succ,List.set_cons_zero,List.set_cons_succ,cond_true,BEq.rfl,AV.cells,AV.ofCells,AV.xv,za9,AV.ofCells,r5,zbl,lx,w6,zbu,zcz,RV.eval,r6]
 refine ⟨x,z,_,rfl,?_,((e0.trans xc).trans I.e).put (Nat.le_refl _) _,fun j hj=>by have:=own j hj;have:=(e0.trans xc).1;omega⟩
 rw [zod,hO];exact S6
def zgl (s:MS) (e:Ev) (g:Nat):Bool:=decide (e.en > 0) && (e.rs.code == 0 && ((e.op.kd == 6 && e.op.pg == (g:Int)) || (e.op.kd == 7 && s.th.getD g false)))
def flG (l:List Ev) (g:Nat):MS→Int→List Nat→Int × MS
 | s,b,[]=>(b,s)
 | s,b,j :: r=>flG l g (zch s (zcb l j)) (if zgl s (zcb l j) g=true then (if (zcb l j).st > b then (zcb l j).st else b) else b) r
theorem zrn {l:List Ev} {g:Nat}:∀ {s:MS} {b:Int} {a r:List Nat},flG l g s b (a++r)=flG l g (flG l g s b a).2 (flG l g s b a).1 r
 | _,_,[],_=>rfl
 | s,b,j :: a,r=>zrn (s:=zch s (zcb l j)) (b:=if zgl s (zcb l j) g=true then (if (zcb l j).st > b then (zcb l j).st else b) else b) (a:=a) (r:=r)
def zf4 (l:List Ev) (p c g:Nat):Int:=(flG l g (zdq p c) 0 (zc7 (stL l) l.length)).1
theorem SR.tsl {h h':Heap} {s s':MS} (S:SR h x z s) (S':SR h' x z s'):s'.th.length=s.th.length:=by
 have:=S.xe.symm.trans S'.xe
 simp only [List.cons.injEq,CV.sl.injEq,and_true,true_and] at this
 exact this.1.symm
theorem zs3 {p c g:Nat} (hnew:zk1 N d p c) (hp:0 < p) (hg:g < p) (E:Evs h y l) (K:HistOK l p c) (hN:1010≤N) (hd:6≤d) (hnew':zk1 N (d + 1) p c) :
  ∃ h',evCallO OS table N (d + 2) 93 [.c y,.c (.int .i64 (p:Int)),.c (.int .i64 (c:Int)),.c (.int .i64 (g:Int))] h=some (.c (.int .i64 (zf4 l p c g)),h')∧Ext h h':=by
 obtain ⟨Hc,fc,xc⟩:=zk2 hnew hp E K.hs K.al K.may K.ok hN (by omega)
 obtain ⟨x,z,H1,f1,S1,x1,own⟩:=hnew' Hc
 obtain ⟨H2,w2,g2,x2,n2⟩:=zfd (h:=H1) (z:=[.nils,.nils,.nils]) (v:=x) (by rw [S1.len3];rfl)
 have lx:=S1.len3
 have w2':(H1.new (.cells [.nils,.nils,.nils])).write H1.next 0 x=some H2:=w2
 have xa:Ext h H2:=(xc.trans x1).trans x2
 obtain ⟨ox,H4,f4,m4,x4⟩:=zk0 (N:=N) (d:=d) (E.ext xa) K.hs hN
 have I0:OI Hc H1.next x z ox (zc7 (stL l) l.length) (zdq p c) H4:=OI.start S1 own x1 x2 g2 (by omega) (Nat.le_refl _) x4 m4
 have Ec:=E.ext xc
 have hfl:zf4 l p c g=(flG l g (zdq p c) 0 (zc7 (stL l) l.length)).1:=rfl
 generalize hO:zc7 (stL l) l.length=O at *
 have hOl:∀ k,k < O.length→O.getD k 0 < l.length:=fun k hk=>by rw [← hO] at hk ⊢;exact zqd hk
 have hOn:O.length≤900:=by rw [← hO];exact Nat.le_trans (zh5 _ _) K.hs
 have lo:=I0.len
 obtain ⟨d,rfl⟩ : ∃ k,d=k + 6:=⟨d - 6,by omega⟩
 have L0:∀ loc,zb3 ir93_k0 loc=[.c y,.c (.int .i64 (p:Int)),.junk,.c (.int .i64 (g:Int)),.junk,.c (.ptr H1.next 0),.c ox,.c (.int .i64 0),.c (.int .i64 0),.junk,.junk,.junk,.junk] →
   ∃ r,zc5 (evCallO OS table N (d + 7)) N ir93_k0 ir93_l0 N loc H4=some r∧∃ a0 a1 a2 a3 a4 a5 a6 l' G,r=(.exit 0,a0 :: a1 :: a2 :: a3 :: a4 :: a5 :: a6 :: .c (.int .i64 (zf4 l p c g)) :: l',G)∧Ext Hc G:=by
  intro loc hloc
  refine zde (n:=O.length) (fun k loc G=>OI Hc H1.next x z ox O (flG l g (zdq p c) 0 (O.take k)).2 G∧loc=[.c y,.c (.int .i64 (p:Int)),.junk,.c (.int .i64 (g:Int)),.junk,.c (.ptr H1.next 0),.c ox,.c (.int .i64 (flG l g (zdq p c) 0 (O.take k)).1),.c (.int .i64 (k:Int)),.junk,.junk,.junk,.junk]) _ ?_ ⟨I0,hloc⟩ (by omega)
  rintro k loc G hk ⟨I,rfl⟩
  unfold ir93_l0
  by_cases hlt:k < O.length
  ·left
   refine ⟨hlt,?_⟩
   have v1:=ze1 hlt
   have v2:=zeb (i:=k) (by omega)
   obtain ⟨j,q,cc,hox,hro⟩:=I.at_ hlt
   have hj:=hOl k hlt
   obtain ⟨b,c',dc,rc,hy,hb,hre,hd1,hr1⟩:=zi1 Ec I.e hj
   have m1:Nat.blt k O.length=true:=zdp hlt
   have m2:Nat.blt (O.getD k 0) l.length=true:=zdp hj
   have htk:=zh6 hlt
   have hnx:flG l g (zdq p c) 0 (O.take (k + 1))=flG l g (flG l g (zdq p c) 0 (O.take k)).2 (flG l g (zdq p c) 0 (O.take k)).1 [O.getD k 0]:=by rw [htk,zrn]
   generalize hst:(flG l g (zdq p c) 0 (O.take k)).2=s at *
   generalize hbs:(flG l g (zdq p c) 0 (O.take k)).1=best at *
   have hcl:s.hs.length=c:=by rw [S1.hsl I.S];simp [zdq]
   have htl:s.th.length=p:=by rw [S1.tsl I.S];simp [zdq]
   generalize he:zcb l (O.getD k 0)=e at *
   obtain ⟨G1,w3,g3,x3,n3⟩:=zfd (h:=G) (z:=[.int .i64 0,.int .i64 0,.int .i64 0,.int .i64 0,.int .i64 0,.int .i64 0,.nils,.int .i64 0,.int .i64 0,.int .i64 0,.nils,.int .i64 0,.int .i64 0,.int .i64 0]) (v:=evC e dc rc) rfl
   have w3':(G.new (.cells [.int .i64 0,.int .i64 0,.int .i64 0,.int .i64 0,.int .i64 0,.int .i64 0,.nils,.int .i64 0,.int .i64 0,.int .i64 0,.nils,.int .i64 0,.int .i64 0,.int .i64 0])).write G.next 0 (evC e dc rc)=some G1:=w3
   have I1:=I.more x3
   have a1:G1.read G.next 1 1=some [.int .i64 e.op.kd]:=zam g3 rfl
   have a2:G1.read G.next 2 1=some [.int .i64 e.op.pg]:=zam g3 rfl
   have a7:G1.read G.next 7 1=some [.int .i64 e.rs.code]:=zam g3 rfl
   have a12:G1.read G.next 12 1=some [.int .i64 e.st]:=zam g3 rfl
   have a13:G1.read G.next 13 1=some [.int .i64 e.en]:=zam g3 rfl
   have aa:G1.read G.next 0 14=some (evC e dc rc):=by rw [zdi g3 (by rw [zbx];omega)];rfl
   have r3:=I1.r4
   have r0:G1.read H1.next 0 1=some [.sl z.t 0 s.th.length z.ct]:=zam I1.b4 (by rw [I1.S.xe];rfl)
   have m3:Nat.blt g s.th.length=true:=zdp (by omega)
   have k6:=I1.S.rt (i:=g) (by omega)
   have hmay:=K.may _ hj
   rw [he] at hmay
   obtain ⟨G2,f5,S5,x5⟩:=zqc (N:=N) (d:=d + 3) (rc:=rc) I1.S (e:=e) (by rw [hcl];exact hmay) (hd1.ext (I.e.trans x3)) (by omega)
   have hfin:=I1.step S5 x5
   have g0:decide ((g:Int) ≥ 0)=true:=decide_eq_true (by omega)
   have gp:decide ((g:Int) < (p:Int))=true:=decide_eq_true (by omega)
   have fin:∀ (v:Int),(if zgl s e g=true then (if e.st > best then e.st else best) else best)=v→OI Hc H1.next x z ox O (flG l g (zdq p c) 0 (O.take (k + 1))).2 G2∧(flG l g (zdq p c) 0 (O.take (k + 1))).1=v:=by
    intro v hv
    rw [hnx]
    simp only [flG,he,hv]
    exact ⟨hfin,trivial⟩
   subst hox
   subst hy
   cases k1:decide (e.en > 0) with
   | false =>
    obtain ⟨I2,hb2⟩:=fin best (by simp only [zgl,k1,Bool.false_and,Bool.false_eq_true,if_false])
    simp only [zap,zac,zaq,zat,zao,zal,zau,zay,zax,zad,zai,zab,zas,zae,zbd,zaf,zar,zav,zbn,za8,zbc,za3,zbf,zba,zbg,za7,za6,zbe,zbh,zag,zaw,X.eval,zak,zah,List.map_cons,List.map_nil,List.getD_cons_zero,List.getD_cons_succ,List.set_cons_zero,List.set_cons_succ,zaz,zan,zaa,zaj,intArith,shift,za0,cond_true,cond_false,BEq.rfl,AV.cells,AV.ofCells,Nat.zero_add,Int.reduceLT,decide_false,ft,lo,v1,zbk,za1,za5,za9,AV.ofCells,m1,hro,m2,hre,zbl,zbx,w3',a13,r3,aa,f5,v2,Nat.mul_one,Nat.zero_add,k1]
    exact ⟨_,_,rfl,I2,by rw [hb2];rfl⟩
   | true =>
    cases k2:(e.rs.code == 0) with
    | false =>
     obtain ⟨I2,hb2⟩:=fin best (by simp only [zgl,k1,k2,Bool.false_and,Bool.and_false,Bool.false_eq_true,if_false])
     simp only [zap,zac,zaq,zat,zao,zal,zau,zay,zax,zad,zai,zab,zas,zae,zbd,zaf,zar,zav,zbn,za8,zbc,za3,zbf,zba,zbg,za7,za6,zbe,zbh,zag,zaw,X.eval,zak,zah,List.map_cons,List.map_nil,List.getD_cons_zero,List.getD_cons_succ,List.set_cons_zero,List.set_cons_succ,zaz,zan,zaa,zaj,intArith,shift,za0,cond_true,cond_false,BEq.rfl,AV.cells,AV.ofCells,Nat.zero_add,Nat.add_zero,Int.reduceLT,decide_false,ft,lo,v1,zbk,za1,za5,za9,AV.ofCells,m1,hro,m2,hre,zbl,zbx,w3',a7,a13,r3,aa,f5,v2,Nat.mul_one,Nat.zero_add,k1,k2]
     exact ⟨_,_,rfl,I2,by rw [hb2];rfl⟩
    | true =>
     cases k3:(e.op.kd == 6) with
     | false =>
      cases k5:(e.op.kd == 7) with
      | false =>
       obtain ⟨I2,hb2⟩:=fin best (by simp only [zgl,k1,k2,k3,k5,Bool.false_and,Bool.and_false,Bool.or_false,Bool.false_eq_true,if_false])
       simp only [zap,zac,zaq,zat,zao,zal,zau,zay,zax,zad,zai,zab,zas,zae,zbd,zaf,zar,zav,zbn,za8,zbc,za3,zbf,zba,zbg,za7,za6,zbe,zbh,zag,zaw,X.eval,zak,zah,List.map_cons,List.map_nil,List.getD_cons_zero,List.getD_cons_succ,List.set_cons_zero,List.set_cons_succ,zaz,zan,zaa,zaj,intArith,shift,za0,cond_true,cond_false,BEq.rfl,AV.cells,AV.ofCells,Nat.zero_add,Nat.add_zero,Int.reduceLT,decide_false,ft,lo,v1,zbk,za1,za5,za9,AV.ofCells,m1,hro,m2,hre,zbl,zbx,w3',a1,a7,a13,r3,aa,f5,v2,Nat.mul_one,Nat.zero_add,k1,k2,k3,k5]
       exact ⟨_,_,rfl,I2,by rw [hb2];rfl⟩
      | true =>
       cases k7:(s.th.getD g false) with
       | false =>
        rw [k7] at k6
        obtain ⟨I2,hb2⟩:=fin best (by simp only [zgl,k1,k2,k3,k5,k7,Bool.false_and,Bool.and_false,Bool.or_false,Bool.false_eq_true,if_false])
        simp only [zap,zac,zaq,zat,zao,zal,zau,zay,zax,zad,zai,zab,zas,zae,zbd,zaf,zar,zav,zbn,za8,zbc,za3,zbf,zba,zbg,za7,za6,zbe,zbh,zag,zaw,X.eval,zak,zah,List.map_cons,List.map_nil,List.getD_cons_zero,List.getD_cons_succ,List.set_cons_zero,List.set_cons_succ,zaz,zan,zaa,zaj,intArith,shift,za0,cond_true,cond_false,BEq.rfl,AV.cells,AV.ofCells,Nat.zero_add,Nat.add_zero,Int.reduceLT,decide_false,ft,lo,v1,zbk,za1,za5,za9,AV.ofCells,m1,hro,m2,hre,zbl,zbx,w3',a1,a7,a13,r3,r0,m3,k6,aa,f5,g0,gp,v2,Nat.mul_one,Nat.zero_add,k1,k2,k3,k5]
        exact ⟨_,_,rfl,I2,by rw [hb2];rfl⟩
       | true =>
        rw [k7] at k6
        obtain ⟨I2,hb2⟩:=fin (if e.st > best then e.st else best) (by simp only [zgl,k1,k2,k3,k5,k7,Bool.false_and,Bool.false_or,Bool.and_true,if_true])
        simp only [zap,zac,zaq,zat,zao,zau,zay,zax,zad,zai,zab,zas,zae,zbd,zaf,zar,zav,zbn,za8,zbc,za3,zbf,zsl,zba,zbg,za7,za6,zbe,zbh,zag,zaw,X.eval,zak,zah,List.map_cons,List.map_nil,List.getD_cons_zero,List.getD_cons_succ,List.set_cons_zero,List.set_cons_succ,zaz,zan,zaa,zaj,intArith,shift,za0,cond_true,cond_false,BEq.rfl,AV.cells,AV.ofCells,Nat.zero_add,Nat.add_zero,Int.reduceLT,decide_false,ft,lo,v1,zbk,za1,za5,za9,AV.ofCells,m1,hro,m2,hre,zbl,zbx,w3',a1,a7,a12,a13,r3,r0,m3,k6,aa,f5,g0,gp,v2,Nat.mul_one,Nat.zero_add,zvm,zei,k1,k2,k3,k5]
        exact ⟨_,_,rfl,I2,by rw [hb2];rfl⟩
     | true =>
      cases k4:(e.op.pg == (g:Int)) with
      | false =>
       cases k5:(e.op.kd == 7) with
       | false =>
        obtain ⟨I2,hb2⟩:=fin best (by simp only [zgl,k1,k2,k3,k4,k5,Bool.false_and,Bool.and_false,Bool.or_false,Bool.false_eq_true,if_false])
        simp only [zap,zac,zaq,zat,zao,zal,zau,zay,zax,zad,zai,zab,zas,zae,zbd,zaf,zar,zav,zbn,za8,zbc,za3,zbf,zba,zbg,za7,za6,zbe,zbh,zag,zaw,X.eval,zak,zah,List.map_cons,List.map_nil,List.getD_cons_zero,List.getD_cons_succ,List.set_cons_zero,List.set_cons_succ,zaz,zan,zaa,zaj,intArith,shift,za0,cond_true,cond_false,BEq.rfl,AV.cells,AV.ofCells,Nat.zero_add,Nat.add_zero,Nat.reduceAdd,Int.reduceLT,decide_false,ft,lo,v1,zbk,za1,za5,za9,AV.ofCells,m1,hro,m2,hre,zbl,zbx,w3',a1,a2,a7,a13,r3,aa,f5,v2,Nat.mul_one,Nat.zero_add,k1,k2,k3,k4,k5]
        exact ⟨_,_,rfl,I2,by rw [hb2];rfl⟩
       | true =>
        cases k7:(s.th.getD g false) with
        | false =>
         rw [k7] at k6
         obtain ⟨I2,hb2⟩:=fin best (by simp only [zgl,k1,k2,k3,k4,k5,k7,Bool.and_false,Bool.or_false,Bool.false_eq_true,if_false])
         simp only [zap,zac,zaq,zat,zao,zal,zau,zay,zax,zad,zai,zab,zas,zae,zaf,zar,zav,zbn,za8,zbc,za3,zbf,zba,zbg,za7,za6,zbe,zbh,zag,zaw,X.eval,zak,zah,List.map_cons,List.map_nil,List.getD_cons_zero,List.getD_cons_succ,List.set_cons_zero,List.set_cons_succ,zaz,zan,zaa,zaj,intArith,shift,za0,cond_true,cond_false,BEq.rfl,AV.cells,AV.ofCells,Nat.zero_add,Nat.add_zero,Nat.reduceAdd,Int.reduceLT,decide_false,lo,v1,zbk,za1,za5,za9,AV.ofCells,m1,hro,m2,hre,zbl,zbx,w3',a1,a2,a7,a13,r3,r0,m3,k6,aa,f5,g0,gp,v2,Nat.mul_one,Nat.zero_add,k1,k2,k3,k4,k5]
         exact ⟨_,_,rfl,I2,by rw [hb2];rfl⟩
        | true =>
         rw [k7] at k6
         obtain ⟨I2,hb2⟩:=fin (if e.st > best then e.st else best) (by simp only [zgl,k1,k2,k3,k4,k5,k7,Bool.and_false,Bool.false_or,Bool.and_true,if_true])
         simp only [zap,zac,zaq,zat,zao,zau,zay,zax,zad,zai,zab,zas,zae,zaf,zar,zav,zbn,za8,zbc,za3,zbf,zsl,zba,zbg,za7,za6,zbe,zbh,zag,zaw,X.eval,zak,zah,List.map_cons,List.map_nil,List.getD_cons_zero,List.getD_cons_succ,List.set_cons_zero,List.set_cons_succ,zaz,zan,zaa,zaj,intArith,shift,za0,cond_true,cond_false,BEq.rfl,AV.cells,AV.ofCells,Nat.zero_add,Nat.add_zero,Nat.reduceAdd,Int.reduceLT,decide_false,lo,v1,zbk,za1,za5,za9,AV.ofCells,m1,hro,m2,hre,zbl,zbx,w3',a1,a2,a7,a12,a13,r3,r0,m3,k6,aa,f5,g0,gp,v2,Nat.mul_one,Nat.zero_add,zvm,zei,k1,k2,k3,k4,k5]
         exact ⟨_,_,rfl,I2,by rw [hb2];rfl⟩
      | true =>
       obtain ⟨I2,hb2⟩:=fin (if e.st > best then e.st else best) (by simp only [zgl,k1,k2,k3,k4,Bool.true_or,Bool.and_true,if_true])
       simp only [zap,zac,zaq,zat,zao,zau,zay,zax,zad,zai,zab,zas,zae,zbd,zaf,zar,zav,zbn,za8,zbc,za3,zbf,zsl,zba,zbg,za7,za6,zbe,zbh,zag,zaw,X.eval,zak,zah,List.map_cons,List.map_nil,List.getD_cons_zero,List.getD_cons_succ,List.set_cons_zero,List.set_cons_succ,zaz,zan,zaa,zaj,intArith,shift,za0,cond_true,cond_false,BEq.rfl,AV.cells,AV.ofCells,Nat.zero_add,Nat.add_zero,Nat.reduceAdd,Int.reduceLT,decide_false,tf,lo,v1,zbk,za1,za5,za9,AV.ofCells,m1,hro,m2,hre,zbl,zbx,w3',a1,a2,a7,a12,a13,r3,aa,f5,v2,Nat.mul_one,Nat.zero_add,zvm,zei,k1,k2,k3,k4]
       exact ⟨_,_,rfl,I2,by rw [hb2];rfl⟩
  ·right
   have:k=O.length:=by omega
   subst this
   have v1:decide ((O.length:Int) < (O.length:Int))=false:=zfj (Nat.le_refl _)
   rw [List.take_length] at I
   simp only [zap,zac,zck,zaq,zat,zal,zc2,zad,zai,zab,zae,zaf,zar,zav,zbc,za6,zag,X.eval,zak,zah,List.getD_cons_zero,List.getD_cons_succ,List.set_cons_zero,List.set_cons_succ,zaz,zan,zaa,zaj,intArith,shift,cond_true,cond_false,BEq.rfl,lo,v1]
   rw [List.take_length,hfl]
   exact ⟨_,rfl,by simp,_,_,_,_,_,_,_,_,_,rfl,I.e⟩
 obtain ⟨r0,⟨a0,a1,a2,a3,a4,a5,a6,l',H5,rfl,x5⟩,hr0⟩:=zdm L0 rfl
 have v0:((0:Int) == 0)=true:=rfl
 rw [zbp (F:=ir93) rfl rfl rfl]
 unfold ir93
 rw [zbv]
 simp only [zbm,zap,zac,zaq,zat,zal,zau,zci,zax,zad,zai,zab,zae,zaf,zar,zav,zbn,zba,zbg,za7,za6,zbh,zag,zaw,X.eval,zak,zah,List.map_cons,List.map_nil,List.getD_cons_zero,List.getD_cons_succ,List.getD_nil,List.set_cons_zero,List.set_cons_succ,zaz,zan,zaa,zaj,intArith,shift,cond_true,cond_false,BEq.rfl,AV.cells,Int.reduceNeg,Bool.not_true,Int.reduceLT,decide_false,fc,zd1,f1,zbl,lx,w2',f4]
 rw [hr0 _ rfl]
 simp only [zap,zac,zaq,zbw,zbq,zad,zai,zab,zae,zaf,zar,zbb,zbi,X.eval,zak,zah,List.getD_cons_zero,List.getD_cons_succ,List.set_cons_zero,List.set_cons_succ,cond_true,BEq.rfl,zbu,RV.eval]
 exact ⟨H5,rfl,xc.trans x5⟩
end
end Lav
set_option maxRecDepth 100000
namespace Lav
open Go (IntKind)
def zcs (id:Nat) (body:List (BitVec 8)):List (BitVec 8):=[BitVec.ofNat 8 (id + 1),0#8,90#8,165#8]++body
def byteOf (s:BitVec 32) (i:Nat):BitVec 8:=(s >>> (8 * i)).setWidth 8
def zeh (id:Nat) (body:List (BitVec 8)):List (BitVec 8):=[byteOf (bof (zcs id body)) 0,byteOf (bof (zcs id body)) 1,byteOf (bof (zcs id body)) 2,byteOf (bof (zcs id body)) 3]++zcs id body
theorem zs4 (b:BitVec 32):IntKind.u8.wrap (b.toNat:Int)=((b.setWidth 8).toNat:Int):=by
 have hb:=b.isLt
 rw [BitVec.toNat_setWidth]
 generalize b.toNat=n at *
 simp only [IntKind.wrap,IntKind.bits,IntKind.signed]
 simp
theorem zqe (b:BitVec 32) (i:Nat) (hi:i < 4):(b.toNat:Int).fdiv (2 ^ (min (Int.toNat ((8 * i:Nat):Int)) IntKind.u32.bits))=((b >>> (8 * i)).toNat:Int):=by
 rw [BitVec.toNat_ushiftRight,Nat.shiftRight_eq_div_pow,Int.toNat_natCast]
 have e:min (8 * i) IntKind.u32.bits=8 * i:=by simp only [IntKind.bits];omega
 rw [e,Int.fdiv_eq_ediv_of_nonneg _ (by exact_mod_cast Nat.zero_le _)]
 norm_cast
section
variable {N d:Nat} {h:Heap}
theorem zw1 (id:Int):evCallO OS table N (d + 1) 33 [.c (.int .i64 id)] h=some (.c (.bool (decide (id ≥ 0) && decide (id < 48))),h):=by
 rw [zbp (F:=ir33) rfl rfl rfl]
 unfold ir33
 rw [zbv]
 cases h0:decide (id ≥ 0)<;>simp only [zbm,zap,zac,zaq,zbq,zad,zai,zab,zas,zae,zbd,zaf,zar,zav,za8,zc0,zdh,zbb,zbi,za6,zbe,zag,X.eval,zak,zah,List.map_cons,List.map_nil,List.getD_cons_zero,List.getD_cons_succ,List.getD_nil,List.set_cons_zero,List.set_cons_succ,zaz,zan,zaa,zaj,intArith,shift,cond_true,cond_false,BEq.rfl,Bool.true_and,Bool.false_and,Int.reduceLT,decide_false,ft,h0,Bool.true_and,Bool.false_and]
theorem zv4:evCallO OS table N (d + 1) 57 [] h=some (.c (.sl h.next 0 24 (.ex 24)),h.new (.cells (u8s (List.replicate 24 0#8)))):=by
 rw [zbp (F:=ir57) rfl rfl rfl]
 unfold ir57
 rw [zbv]
 have a24:zdu (.c (.int .i64 24))=some 24:=rfl
 rw [← znw 24]
 simp only [zbm,zap,zac,zaq,zbq,zad,zai,zab,zae,zaf,zar,znm,zc0,zdh,zbb,zbi,zbh,zaw,X.eval,zak,zah,List.map_cons,List.map_nil,List.getD_cons_zero,List.getD_nil,List.set_cons_zero,cond_true,BEq.rfl,List.length_cons,List.length_nil,zeros,List.nil_append,List.cons_append,Nat.ble,Nat.zero_add,Bool.and_true,a24]
theorem zy6 {bs:List (BitVec 8)} {i:Nat} {b:BitVec 8}:(u8s bs).set i (u8c b)=u8s (bs.set i b):=by simp [u8s,List.map_set]
theorem zx1 {x:CV} {body:List (BitVec 8)} {id:Nat} (hid:id < 48) (hx:Bytes h x body) (hl:body.length=16) (hN:40≤N) :
  ∃ j h',evCallO OS table N (d + 4) 34 [.c (.int .i64 (id:Int)),.c x] h=some (.tup [.c (.sl j 0 24 (.ex 24)),.c (.int .i64 0)],h')∧h'.get j=some (.cells (u8s (zeh id body)))∧h.next≤j∧j < h'.next∧Ext h h':=by
 have lx:∀ (loc vals:List AV) (h:Heap),za2 loc (.c x :: vals) h (.len .sl (.val 0))=some (.c (.int .i64 16)):=fun _ _ _=>(hx.len rfl).trans (by rw [hl];rfl)
 have e0:evCallO OS table N (d + 3) 33 [.c (.int .i64 (id:Int))] h=some (.c (.bool true),h):=by
  rw [zw1,decide_eq_true (show (id:Int) ≥ 0 by omega),decide_eq_true (show (id:Int) < 48 by omega)];rfl
 have e1:evCallO OS table N (d + 3) 57 [] h=_:=zv4 (N:=N) (d:=d + 2)
 obtain ⟨j,hj⟩ : ∃ j,j=h.next:=⟨_,rfl⟩
 generalize hh0:h.new (.cells (u8s (List.replicate 24 0#8)))=h0 at *
 have n0:h0.next=h.next + 1:=by rw [← hh0];rfl
 have g0:h0.get j=some (.cells (u8s (List.replicate 24 0#8))):=by rw [← hh0,hj];exact zb8
 have x0:Ext h h0:=by rw [← hh0];exact (Ext.refl _).new _
 rw [← hj] at e1
 have c1:IntKind.i64.wrap ((id:Int) + 1)=((id + 1:Nat):Int):=zeb (by omega)
 have c2:IntKind.u8.wrap ((id + 1:Nat):Int)=((BitVec.ofNat 8 (id + 1)).toNat:Int):=by
  rw [BitVec.toNat_ofNat]
  simp only [IntKind.wrap,IntKind.bits,IntKind.signed]
  simp
 have c3:((id + 1:Nat):Int).fdiv (2 ^ (min (Int.toNat 8) IntKind.i64.bits))=0:=by
  show ((id + 1:Nat):Int).fdiv 256=0
  rw [Int.fdiv_eq_ediv_of_nonneg _ (by omega)];omega
 have c4:IntKind.u8.wrap 0=0:=rfl
 have c5:decide ((8:Int) < 0)=false:=rfl
 have st:∀ (H:Heap) (bs:List (BitVec 8)) (i:Nat) (b:BitVec 8),H.get j=some (.cells (u8s bs))→i < bs.length→H.write j i [.int .u8 (b.toNat:Int)]=some (H.put j (.cells (u8s (bs.set i b)))):=fun H bs i b hg hi=>by
  rw [← zy6];exact zef (v:=u8c b) hg (by rw [zj6];exact hi)
 have W4:=st h0 _ 4 (BitVec.ofNat 8 (id + 1)) g0 (by simp)
 have W5:(h0.put j (.cells (u8s ((List.replicate 24 0#8).set 4 (BitVec.ofNat 8 (id + 1)))))).write j 5 [.int .u8 0]=_:=st _ _ 5 0#8 zc9 (by simp)
 have W6:((h0.put j (.cells (u8s ((List.replicate 24 0#8).set 4 (BitVec.ofNat 8 (id + 1)))))).put j (.cells (u8s (((List.replicate 24 0#8).set 4 (BitVec.ofNat 8 (id + 1))).set 5 0#8)))).write j 6 [.int .u8 90]=_:=st _ _ 6 90#8 zc9 (by simp)
 have W7:(((h0.put j (.cells (u8s ((List.replicate 24 0#8).set 4 (BitVec.ofNat 8 (id + 1)))))).put j (.cells (u8s (((List.replicate 24 0#8).set 4 (BitVec.ofNat 8 (id + 1))).set 5 0#8)))).put j (.cells (u8s ((((List.replicate 24 0#8).set 4 (BitVec.ofNat 8 (id + 1))).set 5 0#8).set 6 90#8)))).write j 7 [.int .u8 165]=_:=st _ _ 7 165#8 zc9 (by simp)
 have hlist:(((((List.replicate 24 0#8).set 4 (BitVec.ofNat 8 (id + 1))).set 5 0#8).set 6 90#8).set 7 165#8)=[0#8,0#8,0#8,0#8,BitVec.ofNat 8 (id + 1),0#8,90#8,165#8]++List.replicate 16 0#8:=rfl
 generalize hH7:((((h0.put j (.cells (u8s ((List.replicate 24 0#8).set 4 (BitVec.ofNat 8 (id + 1)))))).put j (.cells (u8s (((List.replicate 24 0#8).set 4 (BitVec.ofNat 8 (id + 1))).set 5 0#8)))).put j (.cells (u8s ((((List.replicate 24 0#8).set 4 (BitVec.ofNat 8 (id + 1))).set 5 0#8).set 6 90#8)))).put j (.cells (u8s (((((List.replicate 24 0#8).set 4 (BitVec.ofNat 8 (id + 1))).set 5 0#8).set 6 90#8).set 7 165#8))))=h7 at *
 have g7:h7.get j=some (.cells (u8s ([0#8,0#8,0#8,0#8,BitVec.ofNat 8 (id + 1),0#8,90#8,165#8]++List.replicate 16 0#8))):=by rw [← hH7,hlist];exact zc9
 have x7:Ext h h7:=by rw [← hH7];exact (((x0.put (by omega) _).put (by omega) _).put (by omega) _).put (by omega) _
 have n7:h7.next=h.next + 1:=by rw [← hH7];exact n0
 have src:=(hx.ext x7).source
 rw [hl] at src
 have WC:h7.write j 8 (u8s body)=some (h7.put j (.cells (u8s ([0#8,0#8,0#8,0#8]++zcs id body)))):=by
  have:=zg5 (vs:=u8s body) (o:=8) g7 (by simp [u8s,hl])
  rw [this]
  congr 3
  have e:∀ l:List (BitVec 8),l.length=16→(u8s ([0#8,0#8,0#8,0#8,BitVec.ofNat 8 (id + 1),0#8,90#8,165#8]++List.replicate 16 0#8)).take 8++u8s l++(u8s ([0#8,0#8,0#8,0#8,BitVec.ofNat 8 (id + 1),0#8,90#8,165#8]++List.replicate 16 0#8)).drop (8 + (u8s l).length)=u8s ([0#8,0#8,0#8,0#8]++zcs id l):=fun l hl=>by
   rw [zj6,hl]
   simp [u8s,zcs]
  rw [e body hl]
 have cp:zha h7 1 (.c (.sl j (0 + 8 * 1) (24 - 8) (.ex (24 - 8)))) (.c x)=some (.c (.int .i64 16),h7.put j (.cells (u8s ([0#8,0#8,0#8,0#8]++zcs id body)))):=by
  have tk:(u8s body).take (min 16 (24 - 8) * 1)=u8s body:=List.take_of_length_le (by rw [zj6,hl];decide)
  simp only [zha,src,tk]
  have:(0 + 8 * 1)=8:=rfl
  rw [this,WC];rfl
 generalize hH8:h7.put j (.cells (u8s ([0#8,0#8,0#8,0#8]++zcs id body)))=h8 at *
 have g8:h8.get j=some (.cells (u8s ([0#8,0#8,0#8,0#8]++zcs id body))):=by rw [← hH8];exact zc9
 have x8:Ext h h8:=by rw [← hH8];exact x7.put (by omega) _
 have n8:h8.next=h.next + 1:=by rw [← hH8];exact n7
 have hB:Bytes h8 (.sl j 4 20 (.ex 20)) (zcs id body):=by
  have:=bytes_at (o:=4) (n:=20) (c:=.ex 20) (by omega) g8 (by simp [zcs,hl])
  exact this
 have hhl:(zcs id body).length=20:=by simp [zcs,hl]
 have e2:evCallO OS table N (d + 3) 58 [.c (.sl j 4 20 (.ex 20))] h8=some (.c (.int .u32 ((bof (zcs id body)).toNat:Int)),h8):=zz1 (N:=N) (d:=d) (by omega) (by omega) hB
 generalize hs:bof (zcs id body)=s at *
 have L:∀ loc,zb3 ir34_k0 loc=[.junk,.junk,.junk,.junk,.c (.sl j 0 24 (.ex 24)),.c (.int .u32 (s.toNat:Int)),.junk,.junk,.c (.int .i64 0),.junk] →
   ∃ r,zc5 (evCallO OS table N (d + 3)) N ir34_k0 ir34_l0 N loc h8=some r∧∃ h' a0 a1 a2 a3 l,r=(.exit 0,a0 :: a1 :: a2 :: a3 :: .c (.sl j 0 24 (.ex 24)) :: l,h')∧h'.get j=some (.cells (u8s (zeh id body)))∧Ext h h'∧h'.next=h.next + 1:=by
  intro loc hloc
  refine zde (n:=4) (fun i loc h'=>Ext h h'∧h'.next=h.next + 1∧(∃ l:List (BitVec 8),h'.get j=some (.cells (u8s (l++zcs id body)))∧l.length=4∧∀ k,k < i→l[k]? = some (byteOf s k))∧loc=[.junk,.junk,.junk,.junk,.c (.sl j 0 24 (.ex 24)),.c (.int .u32 (s.toNat:Int)),.junk,.junk,.c (.int .i64 (i:Int)),.junk]) _ ?_ ⟨x8,n8,⟨_,g8,rfl,fun k hk=>absurd hk (by omega)⟩,hloc⟩ (by omega)
  rintro i loc h' hi ⟨he,hn,⟨l,hg,hll,hk⟩,rfl⟩
  unfold ir34_l0
  by_cases hlt:i < 4
  ·left
   refine ⟨hlt,?_⟩
   have v1:decide ((i:Int) < 4)=true:=ze1 (n:=4) hlt
   have v2:=zeb (i:=i) (by omega)
   have m1:Nat.blt i 24=true:=zdp (by omega)
   have w1:IntKind.i64.wrap (8 * (i:Int))=((8 * i:Nat):Int):=by rw [zgf (by omega) (by omega)];omega
   have w2:IntKind.u64.wrap ((8 * i:Nat):Int)=((8 * i:Nat):Int):=zp9 (by omega)
   have w3:decide (((8 * i:Nat):Int) < 0)=false:=decide_eq_false (by omega)
   have w4:=zqe s i hlt
   have w5:IntKind.u8.wrap ((s >>> (8 * i)).toNat:Int)=((byteOf s i).toNat:Int):=zs4 _
   have W:=st h' _ i (byteOf s i) hg (by simp [zcs,hl];omega)
   simp only [zap,zac,zaq,zat,zao,zau,zay,zax,zad,zai,zab,zae,zaf,zar,zfe,zav,zbf,zbg,za6,zhd,zag,X.eval,zak,zah,List.getD_cons_zero,List.getD_cons_succ,List.set_cons_zero,List.set_cons_succ,zaz,zan,zaa,zaj,zd8,intArith,shift,za0,cond_true,cond_false,BEq.rfl,AV.cells,List.length_cons,List.length_nil,Nat.zero_add,Int.reduceLT,decide_false,v1,v2,w1,w2,w3,w4,w5,zbk,m1,Nat.mul_one,zbl,W]
   refine ⟨_,_,rfl,he.put (by omega) _,hn,⟨l.set i (byteOf s i),by rw [zc9,List.set_append_left _ _ (by omega)],by simpa using hll,fun k hki=>?_⟩,rfl⟩
   by_cases e:k=i
   ·subst e;rw [List.getElem?_set_self (by omega)]
   ·rw [List.getElem?_set_ne (Ne.symm e)];exact hk k (by omega)
  ·right
   have hi4:i=4:=by omega
   subst hi4
   simp only [zap,zac,zaq,zat,zad,zai,zab,zae,zaf,zav,za6,zag,X.eval,zah,List.getD_cons_zero,List.getD_cons_succ,List.set_cons_zero,List.set_cons_succ,zaz,zan,zaa,zaj,intArith,shift,cond_true,cond_false,BEq.rfl,Int.reduceLT,decide_false]
   refine ⟨_,rfl,by simp,h',_,_,_,_,_,rfl,?_,he,hn⟩
   rw [hg]
   congr 3
   have e4:l=[byteOf s 0,byteOf s 1,byteOf s 2,byteOf s 3]:=by
    apply List.ext_getElem?
    intro k
    rcases Nat.lt_or_ge k 4 with h | h
    ·rw [hk k h]
     match k,h with
     | 0,_=>rfl
     | 1,_=>rfl
     | 2,_=>rfl
     | 3,_=>rfl
    ·rw [List.getElem?_eq_none (by omega),List.getElem?_eq_none (by simp;omega)]
   rw [e4];unfold zeh;rw [hs]
 obtain ⟨r,hr,h',a0,a1,a2,a3,l,rfl,g',x',n'⟩:=L [.c (.int .i64 (id:Int)),.c x,.c .nils,.c (.int .i64 0),.c (.sl j 0 24 (.ex 24)),.c (.int .u32 (s.toNat:Int)),.tup [],.c (.bool false),.c (.int .i64 0),.tup []] rfl
 have bne16:((16:Int) != 16)=false:=rfl
 have sl8:∀ loc vals H,za2 loc (.c (.sl j 0 24 (.ex 24)) :: vals) H (.slice 1 (.val 0) (some (.k (.c (.int .i64 8)))) none none)=some (.c (.sl j (0 + 8 * 1) (24 - 8) (.ex (24 - 8)))):=fun _ _ _=>rfl
 have sl4:∀ loc vals H,za2 loc (.c (.sl j 0 24 (.ex 24)) :: vals) H (.slice 1 (.val 0) (some (.k (.c (.int .i64 4)))) none none)=some (.c (.sl j 4 20 (.ex 20))):=fun _ _ _=>rfl
 rw [zbp (F:=ir34) rfl rfl rfl]
 unfold ir34
 rw [zbv]
 have a4:zdu (.c (.int .i64 4))=some 4:=rfl
 have a5:zdu (.c (.int .i64 5))=some 5:=rfl
 have a6:zdu (.c (.int .i64 6))=some 6:=rfl
 have a7:zdu (.c (.int .i64 7))=some 7:=rfl
 have b4:Nat.blt 4 24=true:=rfl
 have b5:Nat.blt 5 24=true:=rfl
 have b6:Nat.blt 6 24=true:=rfl
 have b7:Nat.blt 7 24=true:=rfl
 simp only [zbm,zap,zac,zaq,zat,zal,zau,zbw,zci,zax,zbq,zad,zai,zab,zas,zae,zaf,zar,zfe,zav,za8,zcd,zbc,zbf,zjb,zba,zbg,zxf,za7,zdh,zbb,zbi,za6,zbe,zcx,zhd,zag,X.eval,zak,zah,List.map_cons,List.map_nil,List.getD_cons_zero,List.getD_cons_succ,List.getD_nil,List.set_cons_zero,List.set_cons_succ,zaz,zcj,zan,zaa,zaj,zd8,intArith,shift,cond_true,cond_false,BEq.rfl,AV.cells,AV.xv,List.length_cons,List.length_nil,Nat.zero_add,Nat.reduceSub,Bool.not_true,Int.reduceLT,decide_false,e0,lx,bne16,e1,c1,c2,c3,c4,zbk,a4,a5,a6,a7,b4,b5,b6,b7,Nat.mul_one,zbl,W4,W5,W6,W7,sl8,sl4,cp,e2,hr,zbu,zcz]
 exact ⟨j,h',rfl,g',by omega,by omega,x'⟩
end
end Lav
set_option maxRecDepth 100000
namespace Lav
open Go (IntKind)
section
variable {N d:Nat} {h:Heap}
theorem zv5 {i o n i' o' n':Nat} {c c':Cap} {a b:List (BitVec 8)} (h1:h.read i o n=some (u8s a)) (h2:h.read i' o' n'=some (u8s b)) :
  evCallO OS table N (d + 1) 35 [.c (.sl i o n c),.c (.sl i' o' n' c')] h=some (.c (.bool (decide (a=b))),h):=by
 have s1:∀ loc vals,za2 loc (.c (.sl i o n c) :: vals) h (.b2s (.val 0))=some (.c (.str (strOf a))):=fun _ _=>zlu rfl h1
 have s2:∀ loc vals,za2 loc (.c (.sl i' o' n' c') :: vals) h (.b2s (.val 0))=some (.c (.str (strOf b))):=fun _ _=>zlu rfl h2
 rw [zbp (F:=ir35) rfl rfl rfl]
 unfold ir35
 rw [zbv]
 simp only [zbm,zap,zac,zaq,zbq,zad,zai,zab,zae,zaf,zar,zav,zlj,zc0,zdh,zbb,zbi,za6,zag,X.eval,zak,zah,List.map_cons,List.map_nil,List.getD_cons_zero,List.getD_cons_succ,List.getD_nil,List.set_cons_zero,List.set_cons_succ,zaz,s1,s2,zjr]
end
end Lav
set_option maxRecDepth 100000
namespace Lav
open Go (IntKind)
section
variable {call:Nat→List AV→Heap→Option (AV × Heap)} {N:Nat} {h:Heap}
theorem zs5 {b:BitVec 32} {i:Nat} (hi:i < 8):ev call N ir262_l0 [.c (.int .u32 (b.toNat:Int)),.junk,.junk,.c (.int .i64 (i:Int)),.junk,.junk,.junk] h =
  some (.norm,[.c (.int .u32 ((zkx b).toNat:Int)),.junk,.junk,.c (.int .i64 ((i + 1:Nat):Int)),.c (.int .u32 ((b &&& 1#32).toNat:Int)),.c (.bool true),.c (.bool (low b))],h):=by
 have hlt:decide ((i:Int) < 8)=true:=by simp;omega
 unfold ir262_l0
 rw [zo2]
 have hlow:decide (b &&& 1#32=1#32)=low b:=rfl
 cases hb:low b<;>simp only [zap,zac,zaq,zat,zao,zal,zau,zay,zax,zad,zai,zab,zae,zaf,zar,zav,za2,zag,X.eval,zak,zah,List.getD_cons_zero,List.getD_cons_succ,List.set_cons_zero,List.set_cons_succ,zaz,zan,zaa,zaj,intArith,shift,cond_true,cond_false,BEq.rfl,Bool.false_eq_true,Int.reduceLT,decide_false,hlt,znx (show i < 1000000 by omega),zt8,zww,zwx,zwy,hlow,hb,if_true,if_false]<;>rfl
theorem zuf {b:BitVec 32}:ev call N ir262_l0 [.c (.int .u32 (b.toNat:Int)),.junk,.junk,.c (.int .i64 8),.junk,.junk,.junk] h =
  some (.exit 0,[.c (.int .u32 (b.toNat:Int)),.junk,.junk,.c (.int .i64 8),.junk,.c (.bool false),.junk],h):=rfl
theorem zs6:∀ (j:Nat) (i:Nat) (b:BitVec 32) (y1 y2 y4 y5 y6:AV) (n:Nat),i + j=8→∃ z4,zc5 call N ir262_k0 ir262_l0 (n + j + 1) [.c (.int .u32 (b.toNat:Int)),y1,y2,.c (.int .i64 (i:Int)),y4,y5,y6] h =
  some (.exit 0,[.c (.int .u32 ((zlv j b).toNat:Int)),.junk,.junk,.c (.int .i64 8),.junk,z4,.junk],h):=by
 intro j
 induction j with
 | zero =>
  intro i b y1 y2 y4 y5 y6 n hij
  have:i=8:=by omega
  subst this
  exact ⟨_,zig rfl zuf⟩
 | succ j ih =>
  intro i b y1 y2 y4 y5 y6 n hij
  obtain ⟨z,hz⟩:=ih (i + 1) (zkx b) .junk .junk (.c (.int .u32 ((b &&& 1#32).toNat:Int))) (.c (.bool true)) (.c (.bool (low b))) n (by omega)
  exact ⟨z,(zey rfl (zs5 (by omega))).trans hz⟩
theorem zv6 {M d:Nat} (s:BitVec 32) (c:BitVec 8) (h:Heap):evCallO OS table (M + 9) (d + 1) 262 [.c (.int .u32 (s.toNat:Int)),.c (.int .u8 (c.toNat:Int))] h=some (.c (.int .u32 ((zf2 s c).toNat:Int)),h):=by
 rw [zbp (F:=ir262) rfl rfl rfl]
 unfold ir262
 rw [zbv]
 obtain ⟨z,hz⟩:=zs6 (call:=evCallO OS table (M + 9) d) (N:=M + 9) (h:=h) 8 0 (s ^^^ c.setWidth 32) (.c (.int .u8 (c.toNat:Int))) (.c (.int .u32 0)) (.tup []) (.tup []) (.tup []) M rfl
 have hz':zc5 (evCallO OS table (M + 9) d) (M + 9) ir262_k0 ir262_l0 (M + 9) [.c (.int .u32 ((s ^^^ c.setWidth 32).toNat:Int)),.c (.int .u8 (c.toNat:Int)),.c (.int .u32 0),.c (.int .i64 0),.tup [],.tup [],.tup []] h=_:=hz
 simp only [zbm,zap,zac,zaq,zau,zbw,zci,zbq,zad,zai,zab,zae,zaf,zar,zfe,zav,zc0,zdh,zbb,zbi,za2,zag,X.eval,zak,zah,List.map_cons,List.map_nil,List.getD_cons_zero,List.getD_cons_succ,List.getD_nil,List.set_cons_zero,List.set_cons_succ,zaz,zan,zaa,zaj,zd8,intArith,shift,cond_true,cond_false,BEq.rfl,zt9,zsz,hz']
 rfl
theorem zs7 {s:BitVec 32} {bs:List (BitVec 8)} {j:Nat} (hj:j < bs.length) (hn:bs.length < 1000000)
  (T:call 262 [.c (.int .u32 (s.toNat:Int)),.c (.int .u8 (bs[j].toNat:Int))] h=some (.c (.int .u32 ((zf2 s bs[j]).toNat:Int)),h)) :
  ev call N ir228_l0 [.c (.int .u32 (s.toNat:Int)),.c (.str (strOf bs)),.junk,.c (.int .i64 (j:Int)),.junk] h =
   some (.norm,[.c (.int .u32 ((zf2 s bs[j]).toNat:Int)),.c (.str (strOf bs)),.junk,.c (.int .i64 ((j + 1:Nat):Int)),.c (.bool true)],h):=by
 have hlen:(strOf bs).length=bs.length:=by simp [strOf]
 have hlt:decide ((j:Int) < (bs.length:Int))=true:=by simp;omega
 have hg:(strOf bs)[j]? = some bs[j].toNat:=by simp [strOf,hj]
 unfold ir228_l0
 simp only [zap,zac,zaq,zat,zao,zau,zay,zax,zad,zai,zab,zae,zaf,zar,zav,zbc,zxe,zba,za7,za2,zag,X.eval,zak,zah,List.map_cons,List.map_nil,List.getD_cons_zero,List.getD_cons_succ,List.set_cons_zero,List.set_cons_succ,zaz,zan,zaa,zaj,intArith,shift,za0,cond_true,cond_false,BEq.rfl,Int.reduceLT,decide_false,znn,hlen,hlt,hg,T,znx (show j < 1000000 by omega)]
theorem zug {s:BitVec 32} {bs:List (BitVec 8)}:ev call N ir228_l0 [.c (.int .u32 (s.toNat:Int)),.c (.str (strOf bs)),.junk,.c (.int .i64 (bs.length:Int)),.junk] h =
  some (.exit 0,[.c (.int .u32 (s.toNat:Int)),.c (.str (strOf bs)),.junk,.c (.int .i64 (bs.length:Int)),.c (.bool false)],h):=by
 have hlen:(strOf bs).length=bs.length:=by simp [strOf]
 have hlt:decide ((bs.length:Int) < (bs.length:Int))=false:=by simp
 unfold ir228_l0
 simp only [zap,zac,zck,zaq,zat,zal,zc2,zad,zai,zab,zae,zaf,zar,zav,zbc,za2,zag,X.eval,zak,zah,List.getD_cons_zero,List.getD_cons_succ,List.set_cons_zero,List.set_cons_succ,zaz,zan,zaa,zaj,intArith,shift,cond_true,cond_false,BEq.rfl,znn,hlen,hlt]
theorem zs8 (T:∀ (s:BitVec 32) (c:BitVec 8) (h:Heap),call 262 [.c (.int .u32 (s.toNat:Int)),.c (.int .u8 (c.toNat:Int))] h=some (.c (.int .u32 ((zf2 s c).toNat:Int)),h))
  {bs:List (BitVec 8)} (hn:bs.length < 1000000):∀ (k j:Nat) (s:BitVec 32) (y2 y4:AV) (n:Nat),j + k=bs.length →
  zc5 call N ir228_k0 ir228_l0 (n + k + 1) [.c (.int .u32 (s.toNat:Int)),.c (.str (strOf bs)),y2,.c (.int .i64 (j:Int)),y4] h =
   some (.exit 0,[.c (.int .u32 ((zh8 s (bs.drop j)).toNat:Int)),.c (.str (strOf bs)),.junk,.c (.int .i64 (bs.length:Int)),.c (.bool false)],h):=by
 intro k
 induction k with
 | zero =>
  intro j s y2 y4 n hj
  have:j=bs.length:=by omega
  subst this
  rw [List.drop_length]
  exact zig rfl zug
 | succ k ih =>
  intro j s y2 y4 n hj
  have hlt:j < bs.length:=by omega
  have hd:bs.drop j=bs[j] :: bs.drop (j + 1):=List.drop_eq_getElem_cons hlt
  refine (zey rfl (zs7 hlt hn (T _ _ _))).trans ?_
  rw [hd];exact ih (j + 1) (zf2 s bs[j]) .junk (.c (.bool true)) n (by omega)
end
theorem zv7 {N d:Nat} {s:BitVec 32} {bs:List (BitVec 8)} {h:Heap} (hN:bs.length + 9≤N) (hn:bs.length < 1000000) :
  evCallO OS table N (d + 2) 228 [.c (.int .u32 (s.toNat:Int)),.c (.str (strOf bs))] h=some (.c (.int .u32 ((zh8 s bs).toNat:Int)),h):=by
 obtain ⟨m,rfl⟩ : ∃ m,N=m + 9:=⟨N - 9,by omega⟩
 have T:∀ (s:BitVec 32) (c:BitVec 8) (h:Heap),evCallO OS table (m + 9) (d + 1) 262 [.c (.int .u32 (s.toNat:Int)),.c (.int .u8 (c.toNat:Int))] h=some (.c (.int .u32 ((zf2 s c).toNat:Int)),h):=fun s c h=>zv6 s c h
 rw [zbp (F:=ir228) rfl rfl rfl]
 unfold ir228
 rw [zbv]
 obtain ⟨q,hq⟩ : ∃ q,m + 9=q + bs.length + 1:=⟨m + 8 - bs.length,by omega⟩
 have hz:=zs8 (call:=evCallO OS table (m + 9) (d + 1)) (N:=m + 9) (h:=h) T hn bs.length 0 s (.c (.int .u32 0)) (.tup []) q (by omega)
 rw [← hq] at hz
 have hz':zc5 (evCallO OS table (m + 9) (d + 1)) (m + 9) ir228_k0 ir228_l0 (m + 9) [.c (.int .u32 (s.toNat:Int)),.c (.str (strOf bs)),.c (.int .u32 0),.c (.int .i64 0),.tup []] h=_:=hz
 rw [List.drop_zero] at hz'
 simp only [zbm,zap,zac,zaq,zau,zbw,zci,zbq,zad,zai,zab,zae,zaf,zar,zc0,zdh,zbb,zbi,X.eval,zak,zah,List.map_cons,List.map_nil,List.getD_cons_zero,List.getD_cons_succ,List.getD_nil,List.set_cons_zero,List.set_cons_succ,cond_true,BEq.rfl,hz']
theorem zy7 {N d:Nat} {bs:List (BitVec 8)} {h:Heap} (hN:bs.length + 9≤N) (hn:bs.length < 1000000) :
  evCallO OS table N (d + 3) 189 [.c (.str (strOf bs))] h=some (.c (.int .u32 ((bof bs).toNat:Int)),h):=by
 have M:evCallO OS table N (d + 2) 228 [.c (.int .u32 4294967295),.c (.str (strOf bs))] h=some (.c (.int .u32 ((zh8 4294967295#32 bs).toNat:Int)),h):=zv7 (s:=4294967295#32) hN hn
 rw [zbp (F:=ir189) rfl rfl rfl]
 unfold ir189
 rw [zbv]
 simp only [zbm,zap,zac,zaq,zbq,zad,zai,zab,zae,zaf,zar,zcd,zba,za7,zc0,zdh,zbb,zbi,za2,zag,X.eval,zak,zah,List.map_cons,List.map_nil,List.getD_cons_zero,List.getD_cons_succ,List.getD_nil,List.set_cons_zero,List.set_cons_succ,zcj,zaa,intArith,Int.reduceNeg,M,zwz]
 rfl
section
variable {N d:Nat} {h:Heap}
theorem zro (s:BitVec 32) {k:Nat} (h1:1≤k) (hk:k≤4) (hN:10≤N):∃ h',evCallO OS table N (d + 1) 188 [.c (.int .u32 (s.toNat:Int)),.c (.int .i64 (k:Int))] h=some (.c (.str (strOf ((List.range k).map (byteOf s)))),h')∧Ext h h':=by
 rw [zbp (F:=ir188) rfl rfl rfl]
 unfold ir188
 rw [zbv]
 have L:∀ loc,zb3 ir188_k0 loc=[.c (.int .u32 (s.toNat:Int)),.c (.int .i64 (k:Int)),.junk,.c .nils,.c (.int .i64 0),.junk] →
   ∃ r,zc5 (evCallO OS table N d) N ir188_k0 ir188_l0 N loc h=some r∧∃ a0 a1 a2 y l h',r=(.exit 0,a0 :: a1 :: a2 :: .c y :: l,h')∧Mine 1 h h' y k (u8s ((List.range k).map (byteOf s)))∧Ext h h':=by
  intro loc hloc
  refine zde (n:=k) (fun i loc h'=>∃ y,Mine 1 h h' y i (u8s ((List.range i).map (byteOf s)))∧Ext h h'∧loc=[.c (.int .u32 (s.toNat:Int)),.c (.int .i64 (k:Int)),.junk,.c y,.c (.int .i64 (i:Int)),.junk]) _ ?_ ⟨.nils,Mine.nil,Ext.refl _,hloc⟩ (by omega)
  rintro i loc h' hi ⟨y,my,he,rfl⟩
  unfold ir188_l0
  by_cases hlt:i < k
  ·left
   refine ⟨hlt,?_⟩
   have v1:decide ((i:Int) < (k:Int))=true:=ze1 hlt
   have v2:=zeb (i:=i) (by omega)
   have w1:IntKind.i64.wrap (8 * (i:Int))=((8 * i:Nat):Int):=by rw [zgf (by omega) (by omega)];omega
   have w2:IntKind.u64.wrap ((8 * i:Nat):Int)=((8 * i:Nat):Int):=zp9 (by omega)
   have w3:decide (((8 * i:Nat):Int) < 0)=false:=decide_eq_false (by omega)
   have w4:=zqe s i (by omega)
   have w5:IntKind.u8.wrap ((s >>> (8 * i)).toNat:Int)=((byteOf s i).toNat:Int):=zs4 _
   obtain ⟨h2,a1,a2,a3,a4,_⟩:=zxr (v:=u8c (byteOf s i)) (c:=.ex 1) (my.new (.cells [u8c (byteOf s i)])) (he.new _) (zb8 (h:=h')) (by omega)
   simp only [u8c] at a1
   simp only [zap,zac,zaq,zat,zao,zau,zay,zax,zad,zai,zab,zae,zaf,zar,zfe,zav,zep,zif,za6,zhd,zbh,zag,zaw,X.eval,zak,zah,List.getD_cons_zero,List.getD_cons_succ,List.set_cons_zero,List.set_cons_succ,zaz,zan,zaa,zaj,zd8,intArith,shift,cond_true,cond_false,BEq.rfl,zb4,zb7,AV.cells,List.length_cons,List.length_nil,zeros,zdo,setMany,List.nil_append,List.cons_append,Nat.ble,Nat.zero_add,Int.reduceLT,decide_false,v1,v2,w1,w2,w3,w4,w5,a1]
   refine ⟨_,_,rfl,_,?_,a3,rfl⟩
   rw [List.range_succ,List.map_append,zri];exact a2
  ·right
   have hin:i=k:=by omega
   subst hin
   have v1:decide ((i:Int) < (i:Int))=false:=zfj (Nat.le_refl _)
   simp only [zap,zac,zck,zaq,zat,zal,zc2,zad,zai,zab,zae,zaf,zar,zav,za6,zag,X.eval,zak,zah,List.getD_cons_zero,List.getD_cons_succ,List.set_cons_zero,List.set_cons_succ,zaz,zan,zaa,zaj,intArith,shift,cond_true,cond_false,BEq.rfl,v1]
   exact ⟨_,rfl,by simp,_,_,_,y,_,h',rfl,my,he⟩
 obtain ⟨r,hr,a0,a1,a2,y,l,h',rfl,my,he⟩:=L [.c (.int .u32 (s.toNat:Int)),.c (.int .i64 (k:Int)),.c (.str []),.c .nils,.c (.int .i64 0),.tup []] rfl
 obtain ⟨_,⟨_,h0⟩ | ⟨i,rfl,g,_,_⟩⟩:=my
 ·omega
 have rr:h'.read i 0 k=some (u8s ((List.range k).map (byteOf s))):=by
  have:=zl5 (o:=0) (n:=k) g (by simp);simpa using this
 have sb:∀ loc vals,za2 loc (.c (.sl i 0 k (.dy 1)) :: vals) h' (.b2s (.val 0))=some (.c (.str (strOf ((List.range k).map (byteOf s))))):=fun _ _=>zlu rfl rr
 simp only [zbm,zap,zac,zaq,zau,zbw,zci,zbq,zad,zai,zab,zae,zaf,zar,zlj,zc0,zdh,zbb,zbi,zag,X.eval,zak,zah,List.map_cons,List.map_nil,List.getD_cons_zero,List.getD_cons_succ,List.getD_nil,List.set_cons_zero,List.set_cons_succ,cond_true,BEq.rfl,hr,sb]
 exact ⟨_,rfl,he⟩
theorem zs9:∀ id:Fin 48,byteOf (BitVec.ofNat 32 (id.val + 1)) 0=BitVec.ofNat 8 (id.val + 1)∧byteOf (BitVec.ofNat 32 (id.val + 1)) 1=0#8:=by decide
theorem zv8 {id:Nat} (hid:id < 48) {body:List (BitVec 8)} (hl:body.length=16) (hN:40≤N):∃ h',evCallO OS table N (d + 4) 132 [.c (.int .i64 (id:Int)),.c (.str (strOf body))] h=some (.tup [.c (.str (strOf (zeh id body))),.c (.int .i64 0)],h')∧Ext h h':=by
 have zd1:∀ {a b:Int},(a != b) = !(a == b):=rfl
 have c1:decide ((id:Int) < 0)=false:=decide_eq_false (by omega)
 have c2:decide ((id:Int) ≥ 48)=false:=decide_eq_false (by omega)
 have c3:((body.length:Int) == 16)=true:=by rw [hl];rfl
 have ls:∀ loc vals H,za2 loc (.c (.str (strOf body)) :: vals) H (.len .str (.val 0))=some (.c (.int .i64 (body.length:Int))):=fun _ _ _=>by rw [← zeg body];rfl
 have w1:IntKind.i64.wrap ((id:Int) + 1)=((id + 1:Nat):Int):=zeb (by omega)
 have w2:IntKind.u32.wrap ((id + 1:Nat):Int)=((BitVec.ofNat 32 (id + 1)).toNat:Int):=by
  rw [BitVec.toNat_ofNat]
  simp only [IntKind.wrap,IntKind.bits,IntKind.signed]
  simp
 obtain ⟨h1,e1,x1⟩:=zro (N:=N) (d:=d + 2) (h:=h) (BitVec.ofNat 32 (id + 1)) (k:=2) (by omega) (by omega) (by omega)
 have hb:=zs9 ⟨id,hid⟩
 have e1':evCallO OS table N (d + 3) 188 [.c (.int .u32 ((BitVec.ofNat 32 (id + 1)).toNat:Int)),.c (.int .i64 2)] h=some (.c (.str (strOf [BitVec.ofNat 8 (id + 1),0#8])),h1):=by
  have:(List.range 2).map (byteOf (BitVec.ofNat 32 (id + 1)))=[BitVec.ofNat 8 (id + 1),0#8]:=by
   rw [show List.range 2=[0,1] from rfl,List.map_cons,List.map_cons,List.map_nil,hb.1,hb.2]
  rw [this] at e1;exact e1
 have cat:((strOf [BitVec.ofNat 8 (id + 1),0#8]++[90,165])++strOf body)=strOf (zcs id body):=by
  unfold zcs;rw [zo1];rfl
 have hhl:(zcs id body).length=20:=by simp [zcs,hl]
 have e2:evCallO OS table N (d + 3) 189 [.c (.str (strOf (zcs id body)))] h1=some (.c (.int .u32 ((bof (zcs id body)).toNat:Int)),h1):=zy7 (by omega) (by omega)
 obtain ⟨h2,e3,x2⟩:=zro (N:=N) (d:=d + 2) (h:=h1) (bof (zcs id body)) (k:=4) (by omega) (by omega) (by omega)
 have e3':evCallO OS table N (d + 3) 188 [.c (.int .u32 ((bof (zcs id body)).toNat:Int)),.c (.int .i64 4)] h1=some (.c (.str (strOf [byteOf (bof (zcs id body)) 0,byteOf (bof (zcs id body)) 1,byteOf (bof (zcs id body)) 2,byteOf (bof (zcs id body)) 3])),h2):=e3
 have cat2:strOf [byteOf (bof (zcs id body)) 0,byteOf (bof (zcs id body)) 1,byteOf (bof (zcs id body)) 2,byteOf (bof (zcs id body)) 3]++strOf (zcs id body)=strOf (zeh id body):=by unfold zeh;rw [zo1]
 have q1:Nat.ble (strOf [BitVec.ofNat 8 (id + 1),0#8]).length 1073741822=true:=by rw [zeg];rfl
 rw [zbp (F:=ir132) rfl rfl rfl]
 unfold ir132
 rw [zbv]
 have q2:Nat.ble ((strOf [BitVec.ofNat 8 (id + 1),0#8]++[90,165]).length + (strOf body).length) 1073741824=true:=by rw [List.length_append,zeg,zeg,hl];rfl
 have q3:Nat.ble ((strOf [byteOf (bof (zcs id body)) 0,byteOf (bof (zcs id body)) 1,byteOf (bof (zcs id body)) 2,byteOf (bof (zcs id body)) 3]).length + (strOf (zcs id body)).length) 1073741824=true:=by rw [zeg,zeg,hhl];rfl
 simp only [zbm,zap,zac,zaq,zat,zal,zax,zbq,zad,zai,zab,zas,zae,zaf,zar,zfe,zav,za8,zbc,zba,za7,zdh,zbb,zbi,za6,zbe,zhd,zag,X.eval,zak,zah,List.map_cons,List.map_nil,List.getD_cons_zero,List.getD_cons_succ,List.getD_nil,List.set_cons_zero,List.set_cons_succ,zaz,zan,zaa,zaj,zd8,intArith,shift,cond_true,cond_false,BEq.rfl,AV.xv,List.length_cons,List.length_nil,Nat.ble,Nat.zero_add,Nat.reduceAdd,Bool.not_true,Int.reduceLT,decide_false,q1,q2,q3,c1,c2,ls,zd1,c3,w1,w2,e1',cat,e2,e3',cat2,zbu,zcz]
 exact ⟨_,rfl,x1.trans x2⟩
theorem zuh:∃ h',evCallO OS table N (d + 1) 131 [] h=some (.c (.str (strOf (List.replicate 24 0#8))),h')∧Ext h h':=by
 have a24:zdu (.c (.int .i64 24))=some 24:=rfl
 have g:(h.new (.cells (u8s (List.replicate 24 0#8)))).get h.next=some (.cells (u8s (List.replicate 24 0#8))):=zb8
 have rr:(h.new (.cells (u8s (List.replicate 24 0#8)))).read h.next 0 24=some (u8s (List.replicate 24 0#8)):=by
  have:=zl5 (o:=0) (n:=24) g (by simp);simpa using this
 have hz:zeros 24 [.int .u8 0]=u8s (List.replicate 24 0#8):=znw 24
 obtain ⟨H,hH⟩ : ∃ H,H=h.new (.cells (u8s (List.replicate 24 0#8))):=⟨_,rfl⟩
 rw [← hH] at rr
 have sb:∀ loc vals,za2 loc (.c (.sl h.next 0 24 (.ex 24)) :: vals) H (.b2s (.val 0))=some (.c (.str (strOf (List.replicate 24 0#8)))):=fun _ _=>zlu rfl rr
 have nw:∀ loc vals,zbh loc vals (.mks 1 [.int .u8 0] (.k (.c (.int .i64 24))) (.k (.c (.int .i64 24))))=some ((fun i=>.c (.sl i 0 24 (.ex 24))),.cells (u8s (List.replicate 24 0#8))):=fun loc vals=>by
  rw [← hz];rfl
 rw [zbp (F:=ir131) rfl rfl rfl]
 unfold ir131
 rw [zbv]
 simp only [zbm,zap,zac,zaq,zbq,zad,zai,zab,zae,zaf,zar,znm,zlj,nw,zaw,← hH,X.eval,List.getD_cons_zero,List.map_cons,List.map_nil,sb,zag,zak,zah,List.set_cons_zero,zbb,zc0,zdh,zbi]
 exact ⟨_,rfl,by rw [hH];exact (Ext.refl _).new _⟩
theorem zv9 {id:Nat} (hid:id < 48) {img:List (BitVec 8)} (hl:img.length=24) (hN:40≤N):∃ h',evCallO OS table N (d + 5) 94 [.c (.int .i64 (id:Int)),.c (.str (strOf img))] h =
  some (.tup [.c (.str (if img=List.replicate 24 0#8 then [] else if zeh id (img.drop 8)=img then strOf (img.drop 8) else [])),.c (.int .i64 (if img=List.replicate 24 0#8 then 11 else if zeh id (img.drop 8)=img then 0 else 10))],h')∧Ext h h':=by
 have zd1:∀ {a b:Int},(a != b) = !(a == b):=rfl
 have bneS:∀ {a b:List Nat},(a != b) = !(a == b):=rfl
 have c1:decide ((id:Int) < 0)=false:=decide_eq_false (by omega)
 have c2:decide ((id:Int) ≥ 48)=false:=decide_eq_false (by omega)
 have c3:((img.length:Int) == 24)=true:=by rw [hl];rfl
 have ls:∀ loc vals H,za2 loc (.c (.str (strOf img)) :: vals) H (.len .str (.val 0))=some (.c (.int .i64 (img.length:Int))):=fun _ _ _=>by rw [← zeg img];rfl
 obtain ⟨h1,e1,x1⟩:=zuh (N:=N) (d:=d + 3) (h:=h)
 have q1:=zjr img (List.replicate 24 0#8)
 have sd:(strOf img).drop 8=strOf (img.drop 8):=by simp [strOf,List.map_drop]
 have ss:∀ loc vals H,za2 loc (.c (.str (strOf img)) :: vals) H (.sstr (.val 0) (some (.k (.c (.int .i64 8)))) none)=some (.c (.str (strOf (img.drop 8)))):=fun loc vals H=>by
  have b1:Nat.ble 8 (strOf img).length=true:=by rw [zeg,hl];rfl
  have b2:Nat.ble (strOf img).length (strOf img).length=true:=Nat.ble_eq_true_of_le (Nat.le_refl _)
  simp only [za2,X.eval,List.getD_cons_zero,bound,zdu,b1,b2,Bool.true_and,cond_true]
  rw [List.take_of_length_le (by simp),sd]
 obtain ⟨h2,e2,x2⟩:=zv8 (N:=N) (d:=d) (h:=h1) hid (body:=img.drop 8) (by simp [hl]) hN
 have q2:=zjr (zeh id (img.drop 8)) img
 rw [zbp (F:=ir94) rfl rfl rfl]
 unfold ir94
 rw [zbv]
 by_cases hb:img=List.replicate 24 0#8
 ·rw [decide_eq_true hb] at q1
  rw [if_pos hb,if_pos hb]
  simp only [zbm,zap,zac,zca,zaq,zat,zao,zal,zax,zbq,zad,zai,zab,zas,zae,zaf,zar,zav,za8,zbc,zba,za7,zdh,zbb,zbi,za6,zbe,zag,X.eval,zak,zah,List.map_cons,List.map_nil,List.getD_cons_zero,List.getD_cons_succ,List.getD_nil,List.set_cons_zero,List.set_cons_succ,zaz,zan,zaa,zaj,intArith,shift,cond_true,cond_false,BEq.rfl,AV.xv,Bool.not_true,Int.reduceLT,decide_false,c1,c2,ls,zd1,c3,e1,q1,zbu,zcz]
  exact ⟨_,rfl,x1⟩
 ·rw [decide_eq_false hb] at q1
  rw [if_neg hb,if_neg hb]
  by_cases hi:zeh id (img.drop 8)=img
  ·rw [decide_eq_true hi] at q2
   rw [if_pos hi,if_pos hi]
   simp only [zbm,zap,zac,zaq,zat,zal,zax,zbq,zad,zai,zab,zas,zae,zaf,zar,zav,za8,zbc,zem,zba,za7,zdh,zbb,zbi,za6,zbe,zag,X.eval,zak,zah,List.map_cons,List.map_nil,List.getD_cons_zero,List.getD_cons_succ,List.getD_nil,List.set_cons_zero,List.set_cons_succ,zaz,zan,zaa,zaj,intArith,shift,cond_true,cond_false,BEq.rfl,XV.av,AV.xv,Bool.not_true,Int.reduceLT,decide_false,c1,c2,ls,zd1,c3,e1,q1,zrg,ss,e2,zem,zg7,List.getElem?_cons_zero,List.getElem?_cons_succ,q2,zbu,zcz]
   exact ⟨_,rfl,x1.trans x2⟩
  ·rw [decide_eq_false hi] at q2
   rw [if_neg hi,if_neg hi]
   simp only [zbm,zap,zac,zca,zaq,zat,zao,zal,zax,zbq,zad,zai,zab,zas,zae,zaf,zar,zav,za8,zbc,zem,zba,za7,zdh,zbb,zbi,za6,zbe,zag,X.eval,zak,zah,List.map_cons,List.map_nil,List.getD_cons_zero,List.getD_cons_succ,List.getD_nil,List.set_cons_zero,List.set_cons_succ,zaz,zan,zaa,zaj,intArith,shift,cond_true,cond_false,BEq.rfl,XV.av,AV.xv,Bool.not_true,Bool.not_false,Int.reduceLT,decide_false,c1,c2,ls,zd1,c3,e1,q1,zrg,ss,e2,zem,zg7,List.getElem?_cons_zero,List.getElem?_cons_succ,q2,zbu,zcz]
   exact ⟨_,rfl,x1.trans x2⟩
theorem Bytes.whole {h:Heap} {i o n:Nat} {c:Cap} {bs:List (BitVec 8)} (hx:Bytes h (.sl i o n c) bs) (h0:0 < bs.length):n=bs.length∧i < h.next∧h.read i o n=some (u8s bs):=by
 have hs:=hx.source
 rcases hx with ⟨h1,_⟩ | ⟨i',o',c',h1,h2,_⟩
 ·cases h1
 ·cases h1
  obtain ⟨k,hk⟩ : ∃ k,bs.length=k + 1:=⟨bs.length - 1,by omega⟩
  refine ⟨rfl,h2,?_⟩
  simp only [Lav.source,Nat.mul_one] at hs
  cases hr:h.read i o bs.length with
  | none=>rw [hr,hk] at hs;cases hs
  | some y=>rw [hr] at hs;simp only [Option.some.injEq,Prod.mk.injEq,true_and] at hs;rw [hs]
theorem zui {j o n:Nat} {c:Cap} {bs:List (BitVec 8)} (hx:Bytes h (.sl j o n c) bs) {m:Nat} (hm:bs.length=m + 1) (hm2:m < 1000) :
  ∃ q h',evCallO OS table N (d + 1) 28 [.c (.sl j o n c)] h=some (.c (.sl q 0 (m + 1) (.dy 1)),h')∧h'.get q=some (.cells (u8s bs))∧h.next≤q∧q < h'.next∧Ext h h':=by
 have hs:=(hx.ext ((Ext.refl h).new (.cells []))).source
 rw [hm] at hs
 obtain ⟨h',a1,⟨a2,a3⟩,a4,a5⟩:=zrf (sz:=1) (h0:=h) (h:=h.new (.cells [])) (i:=h.next) zb8 (Nat.le_succ _) hs (by rw [zj6,hm];simp) (by omega)
 rcases a3 with ⟨hc,_⟩ | ⟨q,hq,hg,hq1,hq2⟩
 ·cases hc
 have hq':q=h.next + 1:=by cases hq;rfl
 subst hq'
 have a1':zed (h.new (.cells [])) 1 (.c (.sl h.next 0 0 (.ex 0))) (.c (.sl j o n c))=some (.c (.sl (h.next + 1) 0 (m + 1) (.dy 1)),h'):=a1
 rw [zbp (F:=ir28) rfl rfl rfl]
 unfold ir28
 rw [zbv]
 simp only [zbm,zap,zac,zaq,zat,zal,zax,zbq,zad,zai,zab,zae,zaf,zar,zep,zix,zif,zc0,zdh,zbb,zbi,zko,zbh,zag,zaw,X.eval,zak,zah,List.map_cons,List.map_nil,List.getD_cons_zero,List.getD_cons_succ,List.getD_nil,List.set_cons_zero,List.set_cons_succ,zf1,cond_false,zb4,zb7,zeros,Bool.not_false,a1']
 exact ⟨_,_,rfl,hg,hq1,hq2,⟨by rw [a4];show h.next≤h.next + 1 + 1;omega,fun i hi=>by rw [a5 i (Nat.lt_succ_of_lt hi),zdd hi]⟩⟩
theorem zwa {i o id:Nat} {img:List (BitVec 8)} (hid:id < 48) (hx:Bytes h (.sl i o 24 (.dy 1)) img) (hl:img.length=24) (hN:40≤N) :
  ∃ y bs h',evCallO OS table N (d + 5) 16 [.c (.int .i64 (id:Int)),.c (.sl i o 24 (.dy 1))] h=some (.tup [.c y,.c (.int .i64 (if img=List.replicate 24 0#8 then 11 else if zeh id (img.drop 8)=img then 0 else 10))],h')∧Bytes h' y bs ∧
   strOf bs=(if img=List.replicate 24 0#8 then [] else if zeh id (img.drop 8)=img then strOf (img.drop 8) else [])∧Ext h h':=by
 have ll:∀ loc vals H,za2 loc (.c (.sl i o 24 (.dy 1)) :: vals) H (.len .sl (.val 0))=some (.c (.int .i64 24)):=fun _ _ _=>rfl
 have e0:evCallO OS table N (d + 4) 33 [.c (.int .i64 (id:Int))] h=some (.c (.bool true),h):=by
  rw [zw1,decide_eq_true (show (id:Int) ≥ 0 by omega),decide_eq_true (show (id:Int) < 48 by omega)];rfl
 have zd1:∀ {a b:Int},(a != b) = !(a == b):=rfl
 obtain ⟨_,iln,hw⟩:=hx.whole (by omega)
 have q24:((24:Int) == 24)=true:=rfl
 have L:∀ loc,zb3 ir16_k0 loc=[.c (.int .i64 (id:Int)),.c (.sl i o 24 (.dy 1)),.junk,.junk,.c (.int .i64 0),.junk,.junk,.junk,.junk,.junk,.junk,.junk] →
   ∃ r,zc5 (evCallO OS table N (d + 4)) N ir16_k0 ir16_l0 N loc h=some r∧∃ k:Nat,k≤24∧(k=24↔img=List.replicate 24 0#8)∧∃ a8 a9,r=(.exit 0,[.c (.int .i64 (id:Int)),.c (.sl i o 24 (.dy 1)),.junk,.junk,.c (.int .i64 (k:Int)),.junk,.junk,.junk,a8,a9,.junk,.junk],h):=by
  intro loc hloc
  refine zde (n:=24) (fun k loc h'=>h'=h∧(∀ j (hj:j < img.length),j < k→img[j]=0#8)∧loc=[.c (.int .i64 (id:Int)),.c (.sl i o 24 (.dy 1)),.junk,.junk,.c (.int .i64 (k:Int)),.junk,.junk,.junk,.junk,.junk,.junk,.junk]) _ ?_ ⟨rfl,fun k _ hk=>absurd hk (by omega),hloc⟩ (by omega)
  rintro k loc h' hk ⟨rfl,h0,rfl⟩
  unfold ir16_l0
  by_cases hlt:k < 24
  ·have v1:decide ((k:Int) < 24)=true:=ze1 (n:=24) hlt
   have v2:=zeb (i:=k) (by omega)
   have m1:Nat.blt k 24=true:=zdp hlt
   have k1:h'.read i (o + k) 1=some [.int .u8 ((img[k]'(by omega)).toNat:Int)]:=by
    rcases hx with ⟨h1,_⟩ | ⟨i',o',c',h1,h2,h3⟩
    ·cases h1
    ·simp only [CV.sl.injEq] at h1
     obtain ⟨rfl,rfl,_,_⟩:=h1
     have:=h3 k (img[k]'(by omega)) (by simp [hl,hlt])
     rw [Nat.mul_one] at this;exact this
   by_cases hb:img[k]'(by omega)=0#8
   ·left
    refine ⟨hlt,?_⟩
    have w1:(((img[k]'(by omega)).toNat:Int) == 0)=true:=by rw [hb];rfl
    simp only [zap,zac,zaq,zat,zao,zal,zau,zay,zax,zad,zai,zab,zae,zaf,zar,zav,zbc,za3,zbf,za6,zag,X.eval,zak,zah,List.getD_cons_zero,List.getD_cons_succ,List.set_cons_zero,List.set_cons_succ,zaz,zan,zaa,zaj,intArith,shift,za0,cond_true,cond_false,BEq.rfl,AV.ofCells,Bool.not_true,Int.reduceLT,decide_false,zd1,ll,v1,v2,zbk,za9,AV.ofCells,m1,Nat.mul_one,k1,w1]
    refine ⟨_,_,rfl,rfl,fun j hj hji=>?_,rfl⟩
    by_cases e:j=k
    ·subst e;exact hb
    ·exact h0 j hj (by omega)
   ·right
    have w1:(((img[k]'(by omega)).toNat:Int) == 0)=false:=by
     have:(img[k]'(by omega)).toNat≠0:=fun e=>hb (BitVec.eq_of_toNat_eq e)
     simp only [beq_eq_false_iff_ne,ne_eq];omega
    simp only [zap,zac,zck,zaq,zat,zao,zau,zbw,zax,zc2,zad,zai,zab,zae,zaf,zar,zav,zbc,za3,zbf,za6,zag,X.eval,zak,zah,List.getD_cons_zero,List.getD_cons_succ,List.set_cons_zero,List.set_cons_succ,zaz,zan,zaa,zaj,intArith,shift,za0,cond_true,cond_false,BEq.rfl,AV.ofCells,Nat.reduceBEq,Bool.not_false,Int.reduceLT,decide_false,zd1,ll,v1,zbk,za9,AV.ofCells,m1,Nat.mul_one,k1,w1]
    refine ⟨_,rfl,by simp,k,by omega,⟨fun e=>by omega,fun e=>?_⟩,_,_,rfl⟩
    exfalso;apply hb
    have e2:img[k]? = some 0#8:=by rw [e,List.getElem?_replicate,if_pos hlt]
    rw [List.getElem?_eq_getElem (by omega)] at e2
    simpa using e2
  ·right
   have hk24:k=24:=by omega
   subst hk24
   simp only [zap,zac,zaq,zat,zad,zai,zab,zae,zaf,zar,zav,zbc,za6,zag,X.eval,zak,zah,List.getD_cons_zero,List.getD_cons_succ,List.set_cons_zero,List.set_cons_succ,zaz,zan,zaa,zaj,intArith,shift,cond_true,cond_false,BEq.rfl,Int.reduceLT,decide_false,ll]
   refine ⟨_,rfl,by simp,24,Nat.le_refl _,⟨fun _=>?_,fun _=>rfl⟩,_,_,rfl⟩
   apply List.ext_getElem?
   intro j
   rcases Nat.lt_or_ge j 24 with h1 | h1
   ·rw [List.getElem?_eq_getElem (by omega),h0 j (by omega) h1,List.getElem?_replicate,if_pos h1]
   ·rw [List.getElem?_eq_none (by omega),List.getElem?_eq_none (by simp;omega)]
 obtain ⟨r,hr,k,hk,hk24,a8,a9,rfl⟩:=L [.c (.int .i64 (id:Int)),.c (.sl i o 24 (.dy 1)),.c .nils,.c (.int .i64 0),.c (.int .i64 0),.tup [],.tup [],.c (.bool false),.tup [],.tup [],.tup [],.tup []] rfl
 have sl8:∀ loc vals H,za2 loc (.c (.sl i o 24 (.dy 1)) :: vals) H (.slice 1 (.val 0) (some (.k (.c (.int .i64 8)))) none none)=some (.c (.sl i (o + 8) 16 (.dy 1))):=fun _ _ _=>rfl
 rw [zbp (F:=ir16) rfl rfl rfl]
 unfold ir16
 rw [zbv]
 by_cases hb:img=List.replicate 24 0#8
 ·have w2:((k:Int) == 24)=true:=by rw [hk24.2 hb];rfl
  rw [if_pos hb,if_pos hb]
  simp only [zbm,zap,zac,zca,zaq,zat,zao,zal,zau,zbw,zci,zax,zbq,zad,zai,zab,zas,zae,zaf,zar,zav,za8,zcd,zbc,zba,za7,zdh,zbb,zbi,za6,zbe,zcx,zag,X.eval,zak,zah,List.map_cons,List.map_nil,List.getD_cons_zero,List.getD_cons_succ,List.getD_nil,List.set_cons_zero,List.set_cons_succ,zaz,zcj,zan,zaa,zaj,intArith,shift,cond_true,cond_false,BEq.rfl,AV.xv,Bool.not_true,Int.reduceLT,decide_false,zd1,e0,ll,hr,w2,zbu,zcz]
  exact ⟨.nils,[],_,rfl,.inl ⟨rfl,rfl⟩,rfl,Ext.refl _⟩
 ·have w2:((k:Int) == 24)=false:=by
   have:k≠24:=fun e=>hb (hk24.1 e)
   simp only [beq_eq_false_iff_ne,ne_eq];omega
  rw [if_neg hb,if_neg hb]
  have hB:Bytes h (.sl i (o + 8) 16 (.dy 1)) (img.drop 8):=by
   have:=hx.part (a:=8) (m:=16) (by omega) (.dy 1)
   rw [List.take_of_length_le (by simp [hl])] at this
   exact this
  have hdl:(img.drop 8).length=16:=by simp [hl]
  obtain ⟨q,h1,e1,g1,q1,q2,x1⟩:=zui (N:=N) (d:=d + 3) hB (m:=15) (by omega) (by omega)
  have hC:Bytes h1 (.sl q 0 16 (.dy 1)) (img.drop 8):=by
   have:=bytes_at (o:=0) (n:=16) (c:=.dy 1) q2 g1 (by omega)
   simpa using this
  obtain ⟨y,h2,e2,g2,y1,y2,x2⟩:=zx1 (N:=N) (d:=d) hid hC hdl hN
  have hil:(zeh id (img.drop 8)).length=24:=by simp [zeh,zcs,hl]
  have r1:h2.read y 0 24=some (u8s (zeh id (img.drop 8))):=by
   have:=zl5 (o:=0) (n:=24) g2 (by omega);simpa using this
  have r2:h2.read i o 24=some (u8s img):=by rw [(x1.trans x2).read iln];exact hw
  have e3:evCallO OS table N (d + 4) 35 [.c (.sl y 0 24 (.ex 24)),.c (.sl i o 24 (.dy 1))] h2=some (.c (.bool (decide (zeh id (img.drop 8)=img))),h2):=zv5 (N:=N) (d:=d + 3) r1 r2
  by_cases heq:zeh id (img.drop 8)=img
  ·rw [decide_eq_true heq] at e3
   rw [if_pos heq,if_pos heq]
   simp only [zbm,zap,zac,zaq,zat,zal,zau,zbw,zci,zax,zbq,zad,zai,zab,zas,zae,zaf,zar,zav,za8,zcd,zbc,zem,zjb,zba,za7,zdh,zbb,zbi,za6,zbe,zcx,zag,X.eval,zak,zah,List.map_cons,List.map_nil,List.getD_cons_zero,List.getD_cons_succ,List.getD_nil,List.set_cons_zero,List.set_cons_succ,zaz,zcj,zan,zaa,zaj,intArith,shift,cond_true,cond_false,BEq.rfl,XV.av,AV.xv,Nat.reduceAdd,Bool.not_true,Int.reduceLT,decide_false,zd1,e0,ll,hr,w2,sl8,e1,e2,zem,zg7,List.getElem?_cons_zero,List.getElem?_cons_succ,e3,zbu,zcz]
   exact ⟨_,img.drop 8,h2,rfl,hC.ext x2,rfl,x1.trans x2⟩
  ·rw [decide_eq_false heq] at e3
   rw [if_neg heq,if_neg heq]
   simp only [zbm,zap,zac,zca,zaq,zat,zao,zal,zau,zbw,zci,zax,zbq,zad,zai,zab,zas,zae,zaf,zar,zav,za8,zcd,zbc,zem,zjb,zba,za7,zdh,zbb,zbi,za6,zbe,zcx,zag,X.eval,zak,zah,List.map_cons,List.map_nil,List.getD_cons_zero,List.getD_cons_succ,List.getD_nil,List.set_cons_zero,List.set_cons_succ,zaz,zcj,zan,zaa,zaj,intArith,shift,cond_true,cond_false,BEq.rfl,XV.av,AV.xv,Nat.reduceAdd,Bool.not_true,Bool.not_false,Int.reduceLT,decide_false,zd1,e0,ll,hr,w2,sl8,e1,e2,zem,zg7,List.getElem?_cons_zero,List.getElem?_cons_succ,e3,zbu,zcz]
   exact ⟨.nils,[],h2,rfl,.inl ⟨rfl,rfl⟩,rfl,x1.trans x2⟩
end
end Lav
set_option maxRecDepth 100000
namespace Lav
open Go (IntKind)
def zcy (g:Nat) (img:List (BitVec 8)):Int:=if img=List.replicate 24 0#8 then 11 else if zeh g (img.drop 8)=img then 0 else 10
def zjs (g:Nat) (img:List (BitVec 8)):List Nat:=if img=List.replicate 24 0#8 then [] else if zeh g (img.drop 8)=img then strOf (img.drop 8) else []
theorem zea {k:IntKind}:zdu (.c (.int k 4))=some 4:=rfl
structure PG where
 s:MS
 torn:Bool
 first:Bool
 last:Bool
def frB (s:MS) (g:Nat) (B:List Nat):Bool:=((strOf (s.bd.getD g [])).take 4 == B.take 4)
def laB (s:MS) (g:Nat) (B:List Nat):Bool:=(((strOf (s.bd.getD g [])).drop 4).take 12 == (B.drop 4).take 12)
def zcp (s:MS) (e:Ev) (g:Nat) (f:Int):Bool:=decide (e.st > f) && ((e.op.kd == 4 && zd7 s.hs e.cl e.op.hd == (g:Int)) || (e.op.kd == 1 && (!(s.th.getD g false) && (zch s e).th.getD g false)))
def zbz (s:MS) (e:Ev) (g:Nat) (f cd:Int):Bool:=decide (e.st ≥ f) && ((zch s e).th.getD g false && cd == 0)
def zhz (g:Nat) (f cd:Int) (B:List Nat) (q:PG) (e:Ev):PG :=
 ⟨zch q.s e,if zcp q.s e g f=true then true else q.torn,if zbz q.s e g f cd=true then (q.first || frB (zch q.s e) g B) else q.first,if zbz q.s e g f cd=true then (q.last || laB (zch q.s e) g B) else q.last⟩
def pgG (l:List Ev) (g:Nat) (f cd:Int) (B:List Nat):PG→List Nat→PG
 | q,[]=>q
 | q,j :: r=>pgG l g f cd B (zhz g f cd B q (zcb l j)) r
theorem zrp {l:List Ev} {g:Nat} {f cd:Int} {B:List Nat}:∀ {q:PG} {a r:List Nat},pgG l g f cd B q (a++r)=pgG l g f cd B (pgG l g f cd B q a) r
 | _,[],_=>rfl
 | q,j :: a,r=>zrp (q:=zhz g f cd B q (zcb l j)) (a:=a) (r:=r)
def zhi (l:List Ev) (p c g:Nat) (f cd:Int) (B:List Nat):PG:=pgG l g f cd B ⟨zdq p c,false,false,false⟩ (zc7 (stL l) l.length)
def zf3 (l:List Ev) (p c g:Nat) (img:List (BitVec 8)):Bool :=
 if zcy g img=11 then zf4 l p c g == 0
 else if zcy g img=10 then (zhi l p c g (zf4 l p c g) (zcy g img) (zjs g img)).torn
 else zcy g img == 0 && ((zhi l p c g (zf4 l p c g) (zcy g img) (zjs g img)).first && (zhi l p c g (zf4 l p c g) (zcy g img) (zjs g img)).last)
section
variable {call:Nat→List AV→Heap→Option (AV × Heap)} {loc vals:List AV} {h cur:Heap} {n j k:Nat} {l r:List Inst} {ks:List (Nat × Heap)} {news:List (Nat × Nat × Blk)}
theorem zc6 {x:X} {a b:Option X}:zd9 call n l loc h (.sstr x a b) r j k vals cur ks news (some false)=zek call n l loc h r (j + 1) k (.tup [] :: vals) cur ks news:=rfl
end
section
variable {N d:Nat} {h G G':Heap} {p4:Nat} {x:List CV} {z:SP} {ox:CV} {o:List Nat} {s s':MS} {y:CV} {l:List Ev}
set_option maxHeartbeats 8000000 in
theorem zx2 {p c g:Nat} (hnew:∀ d',6≤d'→zk1 N d' p c) (hp:0 < p) (hg:g < p) (hp48:p≤48) (E:Evs h y l) (K:HistOK l p c) (hfin:∀ i,i < l.length→(zcb l i).st≠0) {img:List (BitVec 8)} (hl:img.length=24) (hN:1010≤N) (hd:8≤d) :
  ∃ h',evCallO OS table N (d + 1) 72 [.c y,.c (.int .i64 (p:Int)),.c (.int .i64 (c:Int)),.c (.int .i64 (g:Int)),.c (.str (strOf img))] h=some (.c (.bool (zf3 l p c g img)),h')∧Ext h h':=by
 obtain ⟨d,rfl⟩ : ∃ k,d=k + 8:=⟨d - 8,by omega⟩
 obtain ⟨Hc,fc,xc⟩:=zs3 (N:=N) (d:=d + 6) (hnew _ (by omega)) hp hg E K hN (by omega) (hnew _ (by omega))
 obtain ⟨Ho,fo,xo⟩:=zv9 (N:=N) (d:=d + 3) (h:=Hc) (id:=g) (by omega) hl (by omega)
 have fo':evCallO OS table N (d + 8) 94 [.c (.int .i64 (g:Int)),.c (.str (strOf img))] Hc=some (.tup [.c (.str (zjs g img)),.c (.int .i64 (zcy g img))],Ho):=fo
 have hcd:zcy g img=11∨zcy g img=0∨zcy g img=10:=by
  unfold zcy
  split
  ·exact .inl rfl
  ·split
   ·exact .inr (.inl rfl)
   ·exact .inr (.inr rfl)
 by_cases c11:zcy g img=11
 ·have hf:zf3 l p c g img=(zf4 l p c g == 0):=by unfold zf3;rw [if_pos c11]
  rw [c11] at fo'
  rw [hf,zbp (F:=ir72) rfl rfl rfl]
  unfold ir72
  rw [zbv]
  simp only [zbm,zap,zac,zca,zaq,zat,zao,zbq,zad,zai,zab,zae,zaf,zar,zav,zem,zba,za7,zbb,zbi,za6,zag,X.eval,zak,zah,List.map_cons,List.map_nil,List.getD_cons_zero,List.getD_cons_succ,List.getD_nil,List.set_cons_zero,List.set_cons_succ,zaz,zan,zaa,zaj,intArith,shift,cond_true,cond_false,BEq.rfl,XV.av,Int.reduceLT,decide_false,fc,fo',zem,zg7,List.getElem?_cons_zero,List.getElem?_cons_succ,zbu,RV.eval]
  exact ⟨Ho,rfl,xc.trans xo⟩
 have v11:(zcy g img == 11)=false:=by simpa using c11
 obtain ⟨x,z,H1,f1,S1,x1,own⟩:=hnew (d + 8) (by omega) Ho
 obtain ⟨H2,w2,g2,x2,n2⟩:=zfd (h:=H1) (z:=[.nils,.nils,.nils]) (v:=x) (by rw [S1.len3];rfl)
 have lx:=S1.len3
 have w2':(H1.new (.cells [.nils,.nils,.nils])).write H1.next 0 x=some H2:=w2
 have xa:Ext h H2:=((xc.trans xo).trans x1).trans x2
 obtain ⟨ox,H4,f4,m4,x4⟩:=zk0 (N:=N) (d:=d + 7) (E.ext xa) K.hs hN
 have I0:OI Ho H1.next x z ox (zc7 (stL l) l.length) (zdq p c) H4:=OI.start S1 own x1 x2 g2 (by omega) (Nat.le_refl _) x4 m4
 have Ec:=E.ext (xc.trans xo)
 have hpe:∀ f cd B,zhi l p c g f cd B=pgG l g f cd B ⟨zdq p c,false,false,false⟩ (zc7 (stL l) l.length):=fun _ _ _=>rfl
 generalize hO:zc7 (stL l) l.length=O at *
 have hOl:∀ k,k < O.length→O.getD k 0 < l.length:=fun k hk=>by rw [← hO] at hk ⊢;exact zqd hk
 have hOn:O.length≤900:=by rw [← hO];exact Nat.le_trans (zh5 _ _) K.hs
 have lo:=I0.len
 have hBl:zcy g img=0→(zjs g img).length=16:=by
  unfold zcy zjs
  intro h0
  split at h0
  ·simp at h0
  ·split at h0
   ·rename_i h1 h2
    rw [if_neg h1,if_pos h2];simp [strOf,hl]
   ·simp at h0
 generalize hF:zf4 l p c g=F at *
 generalize hB:zjs g img=B at *
 have L1:∀ loc,zb3 ir72_k1 loc=[.c y,.junk,.junk,.c (.int .i64 (g:Int)),.junk,.junk,.c (.int .i64 F),.c (.str B),.c (.int .i64 (zcy g img)),.c (.ptr H1.next 0),.c ox,.c (.bool false),.c (.bool false),.c (.bool false),.c (.int .i64 0),.junk,.junk,.junk,.junk,.junk,.junk,.junk,.junk,.junk,.junk,.junk] →
   ∃ r,zc5 (evCallO OS table N (d + 8)) N ir72_k1 ir72_l1 N loc H4=some r∧∃ q15 q16 q17 q18 q19 q20 q21 q22 q23 q24 q25 q14 G,r=(.exit 0,[.c y,.junk,.junk,.c (.int .i64 (g:Int)),.junk,.junk,.c (.int .i64 F),.c (.str B),.c (.int .i64 (zcy g img)),.c (.ptr H1.next 0),.c ox,.c (.bool (zhi l p c g F (zcy g img) B).torn),.c (.bool (zhi l p c g F (zcy g img) B).first),.c (.bool (zhi l p c g F (zcy g img) B).last),q14,q15,q16,q17,q18,q19,q20,q21,q22,q23,q24,q25],G)∧OI Ho H1.next x z ox O (zhi l p c g F (zcy g img) B).s G:=by
  intro loc hloc
  refine zde (n:=O.length) (fun k loc G=>OI Ho H1.next x z ox O (pgG l g F (zcy g img) B ⟨zdq p c,false,false,false⟩ (O.take k)).s G∧loc=[.c y,.junk,.junk,.c (.int .i64 (g:Int)),.junk,.junk,.c (.int .i64 F),.c (.str B),.c (.int .i64 (zcy g img)),.c (.ptr H1.next 0),.c ox,.c (.bool (pgG l g F (zcy g img) B ⟨zdq p c,false,false,false⟩ (O.take k)).torn),.c (.bool (pgG l g F (zcy g img) B ⟨zdq p c,false,false,false⟩ (O.take k)).first),.c (.bool (pgG l g F (zcy g img) B ⟨zdq p c,false,false,false⟩ (O.take k)).last),.c (.int .i64 (k:Int)),.junk,.junk,.junk,.junk,.junk,.junk,.junk,.junk,.junk,.junk,.junk]) _ ?_ ⟨I0,hloc⟩ (by omega)
  rintro k loc G hk ⟨I,rfl⟩
  unfold ir72_l1
  by_cases hlt:k < O.length
  ·left
   refine ⟨hlt,?_⟩
   have v1:=ze1 hlt
   have v2:=zeb (i:=k) (by omega)
   obtain ⟨j,q,cc,hox,hro⟩:=I.at_ hlt
   have hj:=hOl k hlt
   obtain ⟨b,c',dc,rc,hy,hb,hre,hd1,hr1⟩:=zi1 Ec I.e hj
   have m1:Nat.blt k O.length=true:=zdp hlt
   have m2:Nat.blt (O.getD k 0) l.length=true:=zdp hj
   have hnx:pgG l g F (zcy g img) B ⟨zdq p c,false,false,false⟩ (O.take (k + 1))=zhz g F (zcy g img) B (pgG l g F (zcy g img) B ⟨zdq p c,false,false,false⟩ (O.take k)) (zcb l (O.getD k 0)):=by rw [zh6 hlt,zrp];rfl
   generalize hq:pgG l g F (zcy g img) B ⟨zdq p c,false,false,false⟩ (O.take k)=Q at *
   generalize hq2:pgG l g F (zcy g img) B ⟨zdq p c,false,false,false⟩ (O.take (k + 1))=Q2 at *
   obtain ⟨s,torn,first,last⟩:=Q
   replace I:OI Ho H1.next x z ox O s G:=I
   have hcl:s.hs.length=c:=by rw [S1.hsl I.S];simp [zdq]
   have htl:s.th.length=p:=by rw [S1.tsl I.S];simp [zdq]
   generalize he:zcb l (O.getD k 0)=e at *
   have hmay:=K.may _ hj
   rw [he] at hmay
   obtain ⟨G1,w3,g3,x3,n3⟩:=zfd (h:=G) (z:=[.int .i64 0,.int .i64 0,.int .i64 0,.int .i64 0,.int .i64 0,.int .i64 0,.nils,.int .i64 0,.int .i64 0,.int .i64 0,.nils,.int .i64 0,.int .i64 0,.int .i64 0]) (v:=evC e dc rc) rfl
   have w3':(G.new (.cells [.int .i64 0,.int .i64 0,.int .i64 0,.int .i64 0,.int .i64 0,.int .i64 0,.nils,.int .i64 0,.int .i64 0,.int .i64 0,.nils,.int .i64 0,.int .i64 0,.int .i64 0])).write G.next 0 (evC e dc rc)=some G1:=w3
   have I1:=I.more x3
   have a0:G1.read G.next 0 1=some [.int .i64 e.cl]:=zam g3 rfl
   have a3:G1.read G.next 3 1=some [.int .i64 e.op.hd]:=zam g3 rfl
   have r3:=I1.r4
   obtain ⟨G2,fh,xh⟩:=zj7 (N:=N) (d:=d + 7) I1.S e.cl e.op.hd
   have I2:=I1.more xh
   have r3b:=I2.r4
   have r0:G2.read H1.next 0 1=some [.sl z.t 0 s.th.length z.ct]:=zam I2.b4 (by rw [I2.S.xe];rfl)
   have m3:Nat.blt g s.th.length=true:=zdp (by omega)
   have k6:=I2.S.rt (i:=g) (by omega)
   have gB:G2.get G.next=some (.cells (evC e dc rc)):=xh.at_ g3 (by omega)
   have aa:G2.read G.next 0 14=some (evC e dc rc):=by rw [zdi gB (by rw [zbx];omega)];rfl
   obtain ⟨G3,f5,S5,x5⟩:=zqc (N:=N) (d:=d + 4) (rc:=rc) I2.S (e:=e) (by rw [hcl];exact hmay) (hd1.ext I2.e) (by omega)
   have I3:=I2.step S5 x5
   have gC:G3.get G.next=some (.cells (evC e dc rc)):=x5.at_ gB (by have:=xh.1;omega) (fun hm=>by have:=I.S.lt _ hm;omega)
   have b1:G3.read G.next 1 1=some [.int .i64 e.op.kd]:=zam gC rfl
   have b12:G3.read G.next 12 1=some [.int .i64 e.st]:=zam gC rfl
   have htl':(zch s e).th.length=s.th.length:=I.S.tsl S5
   have s0:G3.read H1.next 0 1=some [.sl z.t 0 s.th.length z.ct]:=zam I3.b4 (by rw [I3.S.xe,htl'];rfl)
   have s1:G3.read H1.next 1 1=some [.sl z.b 0 s.th.length z.cb]:=zam I3.b4 (by rw [I3.S.xe,htl'];rfl)
   have k7:=I3.S.rt (i:=g) (by omega)
   have k8:=I3.S.rb (i:=g) (by omega)
   have lB:(strOf ((zch s e).bd.getD g [])).length=16:=by rw [zeg,I3.S.bl' (by omega)]
   have q1:Nat.ble 4 16=true:=rfl
   have q2:Nat.ble 0 4=true:=rfl
   have q3:Nat.ble 16 16=true:=rfl
   have fin:∀ t f' l',(if zcp s e g F=true then true else torn)=t→(if zbz s e g F (zcy g img)=true then (first || frB (zch s e) g B) else first)=f'→(if zbz s e g F (zcy g img)=true then (last || laB (zch s e) g B) else last)=l'→OI Ho H1.next x z ox O Q2.s G3∧Q2.torn=t∧Q2.first=f'∧Q2.last=l':=by
    intro t f' l' h1 h2 h3
    rw [hnx]
    exact ⟨I3,h1,h2,h3⟩
   subst hox
   subst hy
   cases t1:decide (e.st > F) with
   | false =>
    cases u1:decide (e.st ≥ F) with
    | false =>
     obtain ⟨I9,z1,z2,z3⟩:=fin torn first last (by simp only [zcp,t1,Bool.false_and,Bool.false_eq_true,if_false]) (by simp only [zbz,u1,Bool.false_and,Bool.false_eq_true,if_false]) (by simp only [zbz,u1,Bool.false_and,Bool.false_eq_true,if_false])
     simp only [zap,zac,zaq,zat,zao,zal,zau,zay,zax,zad,zai,zab,zas,zae,zbd,zaf,zar,zav,zbn,za8,zbc,za3,zbf,zba,zbg,za7,za6,zbe,zbh,zag,zaw,X.eval,zak,zah,List.map_cons,List.map_nil,List.getD_cons_zero,List.getD_cons_succ,List.set_cons_zero,List.set_cons_succ,zaz,zan,zaa,zaj,intArith,shift,za0,cond_true,cond_false,BEq.rfl,AV.cells,AV.ofCells,Nat.zero_add,Nat.add_zero,Nat.reduceAdd,Int.reduceLT,decide_false,ft,lo,v1,zbk,za1,za5,za9,AV.ofCells,m1,hro,m2,hre,zbl,zbx,w3',a0,a3,r3,fh,r3b,r0,m3,k6,aa,f5,b12,v2,Nat.mul_one,Nat.zero_add,t1,u1]
     exact ⟨_,_,rfl,I9,by rw [z1,z2,z3];rfl⟩
    | true =>
     cases w2:((zch s e).th.getD g false) with
     | false =>
      rw [w2] at k7
      obtain ⟨I9,z1,z2,z3⟩:=fin torn first last (by simp only [zcp,t1,w2,Bool.false_and,Bool.and_false,Bool.or_false,Bool.false_eq_true,if_false]) (by simp only [zbz,u1,w2,Bool.false_and,Bool.and_false,Bool.false_eq_true,if_false]) (by simp only [zbz,u1,w2,Bool.false_and,Bool.and_false,Bool.false_eq_true,if_false])
      simp only [zap,zac,zaq,zat,zao,zal,zau,zay,zax,zad,zai,zab,zas,zae,zbd,zaf,zar,zav,zbn,za8,zbc,za3,zbf,zba,zbg,za7,za6,zbe,zbh,zag,zaw,X.eval,zak,zah,List.map_cons,List.map_nil,List.getD_cons_zero,List.getD_cons_succ,List.set_cons_zero,List.set_cons_succ,zaz,zan,zaa,zaj,intArith,shift,za0,cond_true,cond_false,BEq.rfl,AV.cells,AV.ofCells,Nat.zero_add,Nat.add_zero,Nat.reduceAdd,Int.reduceLT,decide_false,ft,lo,v1,zbk,za1,za5,za9,AV.ofCells,m1,hro,m2,hre,zbl,zbx,w3',a0,a3,r3,fh,r3b,r0,m3,k6,aa,f5,b12,s0,k7,v2,Nat.mul_one,Nat.zero_add,t1,u1]
      exact ⟨_,_,rfl,I9,by rw [z1,z2,z3];rfl⟩
     | true =>
      rw [w2] at k7
      cases u3:(zcy g img == 0) with
      | false =>
       obtain ⟨I9,z1,z2,z3⟩:=fin torn first last (by simp only [zcp,t1,w2,Bool.false_and,Bool.and_true,Bool.false_eq_true,if_false]) (by simp only [zbz,u1,w2,u3,Bool.and_false,Bool.false_eq_true,if_false]) (by simp only [zbz,u1,w2,u3,Bool.and_false,Bool.false_eq_true,if_false])
       simp only [zap,zac,zaq,zat,zao,zal,zau,zay,zax,zad,zai,zab,zas,zae,zbd,zaf,zar,zav,zbn,za8,zbc,za3,zbf,zba,zbg,za7,za6,zbe,zbh,zag,zaw,X.eval,zak,zah,List.map_cons,List.map_nil,List.getD_cons_zero,List.getD_cons_succ,List.set_cons_zero,List.set_cons_succ,zaz,zan,zaa,zaj,intArith,shift,za0,cond_true,cond_false,BEq.rfl,AV.cells,AV.ofCells,Nat.zero_add,Nat.add_zero,Nat.reduceAdd,Int.reduceLT,decide_false,ft,lo,v1,zbk,za1,za5,za9,AV.ofCells,m1,hro,m2,hre,zbl,zbx,w3',a0,a3,r3,fh,r3b,r0,m3,k6,aa,f5,b12,s0,k7,v2,Nat.mul_one,Nat.zero_add,t1,u1,u3]
       exact ⟨_,_,rfl,I9,by rw [z1,z2,z3];rfl⟩
      | true =>
       have b16:B.length=16:=hBl (by simpa using u3)
       cases f1:first with
       | false =>
        cases f2:last with
        | false =>
         obtain ⟨I9,z1,z2,z3⟩:=fin torn (frB (zch s e) g B) (laB (zch s e) g B) (by simp only [zcp,t1,w2,Bool.false_and,Bool.and_true,Bool.false_eq_true,if_false]) (by simp only [zbz,u1,w2,u3,f1,Bool.false_or,Bool.and_true,if_true]) (by simp only [zbz,u1,w2,u3,f2,Bool.false_or,Bool.and_true,if_true])
         simp only [zap,zac,zaq,zat,zao,zal,zau,zay,zax,zad,zai,zab,zas,zae,zbd,zaf,zar,zav,zbn,za8,zbc,za3,zbf,zba,zbg,za7,za6,zbe,zbh,zag,zaw,X.eval,zak,zah,List.map_cons,List.map_nil,List.getD_cons_zero,List.getD_cons_succ,List.set_cons_zero,List.set_cons_succ,zaz,zan,zaa,zaj,intArith,shift,bound,za0,cond_true,cond_false,BEq.rfl,AV.cells,AV.ofCells,List.nil_append,List.cons_append,Nat.ble,Nat.zero_add,Nat.add_zero,Nat.reduceAdd,Nat.reduceSub,Bool.and_true,Int.reduceLT,decide_false,ft,zb5,zby,zbs,zbr,zbt,zco,zdj,zcw,zcn,zcq,zb1,zb2,zb6,zcc,zct,List.reverse_cons,List.reverse_nil,zea,zce,zd4,zd5,lo,v1,zbk,za1,za5,za9,AV.ofCells,m1,hro,m2,hre,zbl,zbx,w3',a0,a3,r3,fh,r3b,r0,m3,k6,aa,f5,b12,s0,s1,k7,k8,lB,q1,q3,v2,Nat.mul_one,Nat.zero_add,List.drop_zero,Nat.sub_zero,b16,t1,u1,u3]
         exact ⟨_,_,rfl,I9,by rw [z1,z2,z3];rfl⟩
        | true =>
         obtain ⟨I9,z1,z2,z3⟩:=fin torn (frB (zch s e) g B) true (by simp only [zcp,t1,w2,Bool.false_and,Bool.and_true,Bool.false_eq_true,if_false]) (by simp only [zbz,u1,w2,u3,f1,Bool.false_or,Bool.and_true,if_true]) (by simp only [zbz,u1,w2,u3,f2,Bool.true_or,Bool.and_true,if_true])
         simp only [zap,zac,zaq,zat,zao,zal,zau,zay,zax,zad,zai,zab,zas,zae,zbd,zaf,zar,zav,zbn,za8,zbc,za3,zbf,zba,zbg,za7,za6,zbe,zbh,zag,zaw,X.eval,zak,zah,List.map_cons,List.map_nil,List.getD_cons_zero,List.getD_cons_succ,List.set_cons_zero,List.set_cons_succ,zaz,zan,zaa,zaj,intArith,shift,bound,za0,cond_true,cond_false,BEq.rfl,AV.cells,AV.ofCells,List.nil_append,List.cons_append,Nat.ble,Nat.zero_add,Nat.add_zero,Nat.reduceAdd,Bool.and_true,Int.reduceLT,decide_false,tf,ft,zb5,zby,zbs,zbr,zbt,zco,zdj,zcw,zcn,zcq,zb1,zb2,zb6,zcc,zct,List.reverse_cons,List.reverse_nil,zea,zce,zd4,zd5,zc6,zcu,zcv,zcf,zcg,zcm,lo,v1,zbk,za1,za5,za9,AV.ofCells,m1,hro,m2,hre,zbl,zbx,w3',a0,a3,r3,fh,r3b,r0,m3,k6,aa,f5,b12,s0,s1,k7,k8,lB,q1,v2,Nat.mul_one,Nat.zero_add,List.drop_zero,Nat.sub_zero,b16,t1,u1,u3]
         exact ⟨_,_,rfl,I9,by rw [z1,z2,z3];rfl⟩
       | true =>
        cases f2:last with
        | false =>
         obtain ⟨I9,z1,z2,z3⟩:=fin torn true (laB (zch s e) g B) (by simp only [zcp,t1,w2,Bool.false_and,Bool.and_true,Bool.false_eq_true,if_false]) (by simp only [zbz,u1,w2,u3,f1,Bool.true_or,Bool.and_true,if_true]) (by simp only [zbz,u1,w2,u3,f2,Bool.false_or,Bool.and_true,if_true])
         simp only [zap,zac,zaq,zat,zao,zal,zau,zay,zax,zad,zai,zab,zas,zae,zbd,zaf,zar,zav,zbn,za8,zbc,za3,zbf,zba,zbg,za7,za6,zbe,zbh,zag,zaw,X.eval,zak,zah,List.map_cons,List.map_nil,List.getD_cons_zero,List.getD_cons_succ,List.set_cons_zero,List.set_cons_succ,zaz,zan,zaa,zaj,intArith,shift,bound,za0,cond_true,cond_false,BEq.rfl,AV.cells,AV.ofCells,List.nil_append,List.cons_append,Nat.ble,Nat.zero_add,Nat.add_zero,Nat.reduceAdd,Nat.reduceSub,Bool.and_true,Int.reduceLT,decide_false,tf,ft,zb5,zby,zbs,zbr,zbt,zco,zdj,zcw,zcn,zcq,zb1,zb2,zb6,zcc,zct,List.reverse_cons,List.reverse_nil,zea,zce,zd4,zd5,zc6,zcu,zcv,zcf,zcg,zcm,lo,v1,zbk,za1,za5,za9,AV.ofCells,m1,hro,m2,hre,zbl,zbx,w3',a0,a3,r3,fh,r3b,r0,m3,k6,aa,f5,b12,s0,s1,k7,k8,lB,q3,v2,Nat.mul_one,Nat.zero_add,b16,t1,u1,u3]
         exact ⟨_,_,rfl,I9,by rw [z1,z2,z3];rfl⟩
        | true =>
         obtain ⟨I9,z1,z2,z3⟩:=fin torn true true (by simp only [zcp,t1,w2,Bool.false_and,Bool.and_true,Bool.false_eq_true,if_false]) (by simp only [zbz,u1,w2,u3,f1,Bool.true_or,Bool.and_true,if_true]) (by simp only [zbz,u1,w2,u3,f2,Bool.true_or,Bool.and_true,if_true])
         simp only [zap,zac,zaq,zat,zao,zal,zau,zay,zax,zad,zai,zab,zas,zae,zbd,zaf,zar,zav,zbn,za8,zbc,za3,zbf,zba,zbg,za7,za6,zbe,zbh,zag,zaw,X.eval,zak,zah,List.map_cons,List.map_nil,List.getD_cons_zero,List.getD_cons_succ,List.set_cons_zero,List.set_cons_succ,zaz,zan,zaa,zaj,intArith,shift,za0,cond_true,cond_false,BEq.rfl,AV.cells,AV.ofCells,List.nil_append,List.cons_append,Nat.zero_add,Nat.add_zero,Nat.reduceAdd,Int.reduceLT,decide_false,tf,ft,zb5,zby,zbs,zbr,zbt,zco,zcw,zb1,zb2,zb6,zcc,zct,List.reverse_cons,List.reverse_nil,zc6,zcu,zcv,zcf,zcg,zcm,lo,v1,zbk,za1,za5,za9,AV.ofCells,m1,hro,m2,hre,zbl,zbx,w3',a0,a3,r3,fh,r3b,r0,m3,k6,aa,f5,b12,s0,k7,v2,Nat.mul_one,Nat.zero_add,t1,u1,u3]
         exact ⟨_,_,rfl,I9,by rw [z1,z2,z3];rfl⟩
   | true =>
    cases t2:(e.op.kd == 4) with
    | false =>
     cases t4:(e.op.kd == 1) with
     | false =>
      cases u1:decide (e.st ≥ F) with
      | false =>
       obtain ⟨I9,z1,z2,z3⟩:=fin torn first last (by simp only [zcp,t1,t2,t4,Bool.false_and,Bool.and_false,Bool.or_false,Bool.false_eq_true,if_false]) (by simp only [zbz,u1,Bool.false_and,Bool.false_eq_true,if_false]) (by simp only [zbz,u1,Bool.false_and,Bool.false_eq_true,if_false])
       simp only [zap,zac,zaq,zat,zao,zal,zau,zay,zax,zad,zai,zab,zas,zae,zbd,zaf,zar,zav,zbn,za8,zbc,za3,zbf,zba,zbg,za7,za6,zbe,zbh,zag,zaw,X.eval,zak,zah,List.map_cons,List.map_nil,List.getD_cons_zero,List.getD_cons_succ,List.set_cons_zero,List.set_cons_succ,zaz,zan,zaa,zaj,intArith,shift,za0,cond_true,cond_false,BEq.rfl,AV.cells,AV.ofCells,Nat.zero_add,Nat.add_zero,Nat.reduceAdd,Int.reduceLT,decide_false,ft,lo,v1,zbk,za1,za5,za9,AV.ofCells,m1,hro,m2,hre,zbl,zbx,w3',a0,a3,r3,fh,r3b,r0,m3,k6,aa,f5,b1,b12,v2,Nat.mul_one,Nat.zero_add,t1,t2,t4,u1]
       exact ⟨_,_,rfl,I9,by rw [z1,z2,z3];rfl⟩
      | true =>
       cases w2:((zch s e).th.getD g false) with
       | false =>
        rw [w2] at k7
        obtain ⟨I9,z1,z2,z3⟩:=fin torn first last (by simp only [zcp,t1,t2,t4,w2,Bool.false_and,Bool.and_false,Bool.or_false,Bool.false_eq_true,if_false]) (by simp only [zbz,u1,w2,Bool.false_and,Bool.and_false,Bool.false_eq_true,if_false]) (by simp only [zbz,u1,w2,Bool.false_and,Bool.and_false,Bool.false_eq_true,if_false])
        simp only [zap,zac,zaq,zat,zao,zal,zau,zay,zax,zad,zai,zab,zas,zae,zbd,zaf,zar,zav,zbn,za8,zbc,za3,zbf,zba,zbg,za7,za6,zbe,zbh,zag,zaw,X.eval,zak,zah,List.map_cons,List.map_nil,List.getD_cons_zero,List.getD_cons_succ,List.set_cons_zero,List.set_cons_succ,zaz,zan,zaa,zaj,intArith,shift,za0,cond_true,cond_false,BEq.rfl,AV.cells,AV.ofCells,Nat.zero_add,Nat.add_zero,Nat.reduceAdd,Int.reduceLT,decide_false,ft,lo,v1,zbk,za1,za5,za9,AV.ofCells,m1,hro,m2,hre,zbl,zbx,w3',a0,a3,r3,fh,r3b,r0,m3,k6,aa,f5,b1,b12,s0,k7,v2,Nat.mul_one,Nat.zero_add,t1,t2,t4,u1]
        exact ⟨_,_,rfl,I9,by rw [z1,z2,z3];rfl⟩
       | true =>
        rw [w2] at k7
        cases u3:(zcy g img == 0) with
        | false =>
         obtain ⟨I9,z1,z2,z3⟩:=fin torn first last (by simp only [zcp,t1,t2,t4,w2,Bool.false_and,Bool.and_false,Bool.or_false,Bool.and_true,Bool.false_eq_true,if_false]) (by simp only [zbz,u1,w2,u3,Bool.and_false,Bool.false_eq_true,if_false]) (by simp only [zbz,u1,w2,u3,Bool.and_false,Bool.false_eq_true,if_false])
         simp only [zap,zac,zaq,zat,zao,zal,zau,zay,zax,zad,zai,zab,zas,zae,zbd,zaf,zar,zav,zbn,za8,zbc,za3,zbf,zba,zbg,za7,za6,zbe,zbh,zag,zaw,X.eval,zak,zah,List.map_cons,List.map_nil,List.getD_cons_zero,List.getD_cons_succ,List.set_cons_zero,List.set_cons_succ,zaz,zan,zaa,zaj,intArith,shift,za0,cond_true,cond_false,BEq.rfl,AV.cells,AV.ofCells,Nat.zero_add,Nat.add_zero,Nat.reduceAdd,Int.reduceLT,decide_false,ft,lo,v1,zbk,za1,za5,za9,AV.ofCells,m1,hro,m2,hre,zbl,zbx,w3',a0,a3,r3,fh,r3b,r0,m3,k6,aa,f5,b1,b12,s0,k7,v2,Nat.mul_one,Nat.zero_add,t1,t2,t4,u1,u3]
         exact ⟨_,_,rfl,I9,by rw [z1,z2,z3];rfl⟩
        | true =>
         have b16:B.length=16:=hBl (by simpa using u3)
         cases f1:first with
         | false =>
          cases f2:last with
          | false =>
           obtain ⟨I9,z1,z2,z3⟩:=fin torn (frB (zch s e) g B) (laB (zch s e) g B) (by simp only [zcp,t1,t2,t4,w2,Bool.false_and,Bool.and_false,Bool.or_false,Bool.and_true,Bool.false_eq_true,if_false]) (by simp only [zbz,u1,w2,u3,f1,Bool.false_or,Bool.and_true,if_true]) (by simp only [zbz,u1,w2,u3,f2,Bool.false_or,Bool.and_true,if_true])
           simp only [zap,zac,zaq,zat,zao,zal,zau,zay,zax,zad,zai,zab,zas,zae,zbd,zaf,zar,zav,zbn,za8,zbc,za3,zbf,zba,zbg,za7,za6,zbe,zbh,zag,zaw,X.eval,zak,zah,List.map_cons,List.map_nil,List.getD_cons_zero,List.getD_cons_succ,List.set_cons_zero,List.set_cons_succ,zaz,zan,zaa,zaj,intArith,shift,bound,za0,cond_true,cond_false,BEq.rfl,AV.cells,AV.ofCells,List.nil_append,List.cons_append,Nat.ble,Nat.zero_add,Nat.add_zero,Nat.reduceAdd,Nat.reduceSub,Bool.and_true,Int.reduceLT,decide_false,ft,zb5,zby,zbs,zbr,zbt,zco,zdj,zcw,zcn,zcq,zb1,zb2,zb6,zcc,zct,List.reverse_cons,List.reverse_nil,zea,zce,zd4,zd5,lo,v1,zbk,za1,za5,za9,AV.ofCells,m1,hro,m2,hre,zbl,zbx,w3',a0,a3,r3,fh,r3b,r0,m3,k6,aa,f5,b1,b12,s0,s1,k7,k8,lB,q1,q3,v2,Nat.mul_one,Nat.zero_add,List.drop_zero,Nat.sub_zero,b16,t1,t2,t4,u1,u3]
           exact ⟨_,_,rfl,I9,by rw [z1,z2,z3];rfl⟩
          | true =>
           obtain ⟨I9,z1,z2,z3⟩:=fin torn (frB (zch s e) g B) true (by simp only [zcp,t1,t2,t4,w2,Bool.false_and,Bool.and_false,Bool.or_false,Bool.and_true,Bool.false_eq_true,if_false]) (by simp only [zbz,u1,w2,u3,f1,Bool.false_or,Bool.and_true,if_true]) (by simp only [zbz,u1,w2,u3,f2,Bool.true_or,Bool.and_true,if_true])
           simp only [zap,zac,zaq,zat,zao,zal,zau,zay,zax,zad,zai,zab,zas,zae,zbd,zaf,zar,zav,zbn,za8,zbc,za3,zbf,zba,zbg,za7,za6,zbe,zbh,zag,zaw,X.eval,zak,zah,List.map_cons,List.map_nil,List.getD_cons_zero,List.getD_cons_succ,List.set_cons_zero,List.set_cons_succ,zaz,zan,zaa,zaj,intArith,shift,bound,za0,cond_true,cond_false,BEq.rfl,AV.cells,AV.ofCells,List.nil_append,List.cons_append,Nat.ble,Nat.zero_add,Nat.add_zero,Nat.reduceAdd,Bool.and_true,Int.reduceLT,decide_false,tf,ft,zb5,zby,zbs,zbr,zbt,zco,zdj,zcw,zcn,zcq,zb1,zb2,zb6,zcc,zct,List.reverse_cons,List.reverse_nil,zea,zce,zd4,zd5,zc6,zcu,zcv,zcf,zcg,zcm,lo,v1,zbk,za1,za5,za9,AV.ofCells,m1,hro,m2,hre,zbl,zbx,w3',a0,a3,r3,fh,r3b,r0,m3,k6,aa,f5,b1,b12,s0,s1,k7,k8,lB,q1,v2,Nat.mul_one,Nat.zero_add,List.drop_zero,Nat.sub_zero,b16,t1,t2,t4,u1,u3]
           exact ⟨_,_,rfl,I9,by rw [z1,z2,z3];rfl⟩
         | true =>
          cases f2:last with
          | false =>
           obtain ⟨I9,z1,z2,z3⟩:=fin torn true (laB (zch s e) g B) (by simp only [zcp,t1,t2,t4,w2,Bool.false_and,Bool.and_false,Bool.or_false,Bool.and_true,Bool.false_eq_true,if_false]) (by simp only [zbz,u1,w2,u3,f1,Bool.true_or,Bool.and_true,if_true]) (by simp only [zbz,u1,w2,u3,f2,Bool.false_or,Bool.and_true,if_true])
           simp only [zap,zac,zaq,zat,zao,zal,zau,zay,zax,zad,zai,zab,zas,zae,zbd,zaf,zar,zav,zbn,za8,zbc,za3,zbf,zba,zbg,za7,za6,zbe,zbh,zag,zaw,X.eval,zak,zah,List.map_cons,List.map_nil,List.getD_cons_zero,List.getD_cons_succ,List.set_cons_zero,List.set_cons_succ,zaz,zan,zaa,zaj,intArith,shift,bound,za0,cond_true,cond_false,BEq.rfl,AV.cells,AV.ofCells,List.nil_append,List.cons_append,Nat.ble,Nat.zero_add,Nat.add_zero,Nat.reduceAdd,Nat.reduceSub,Bool.and_true,Int.reduceLT,decide_false,tf,ft,zb5,zby,zbs,zbr,zbt,zco,zdj,zcw,zcn,zcq,zb1,zb2,zb6,zcc,zct,List.reverse_cons,List.reverse_nil,zea,zce,zd4,zd5,zc6,zcu,zcv,zcf,zcg,zcm,lo,v1,zbk,za1,za5,za9,AV.ofCells,m1,hro,m2,hre,zbl,zbx,w3',a0,a3,r3,fh,r3b,r0,m3,k6,aa,f5,b1,b12,s0,s1,k7,k8,lB,q3,v2,Nat.mul_one,Nat.zero_add,b16,t1,t2,t4,u1,u3]
           exact ⟨_,_,rfl,I9,by rw [z1,z2,z3];rfl⟩
          | true =>
           obtain ⟨I9,z1,z2,z3⟩:=fin torn true true (by simp only [zcp,t1,t2,t4,w2,Bool.false_and,Bool.and_false,Bool.or_false,Bool.and_true,Bool.false_eq_true,if_false]) (by simp only [zbz,u1,w2,u3,f1,Bool.true_or,Bool.and_true,if_true]) (by simp only [zbz,u1,w2,u3,f2,Bool.true_or,Bool.and_true,if_true])
           simp only [zap,zac,zaq,zat,zao,zal,zau,zay,zax,zad,zai,zab,zas,zae,zbd,zaf,zar,zav,zbn,za8,zbc,za3,zbf,zba,zbg,za7,za6,zbe,zbh,zag,zaw,X.eval,zak,zah,List.map_cons,List.map_nil,List.getD_cons_zero,List.getD_cons_succ,List.set_cons_zero,List.set_cons_succ,zaz,zan,zaa,zaj,intArith,shift,za0,cond_true,cond_false,BEq.rfl,AV.cells,AV.ofCells,List.nil_append,List.cons_append,Nat.zero_add,Nat.add_zero,Nat.reduceAdd,Int.reduceLT,decide_false,tf,ft,zb5,zby,zbs,zbr,zbt,zco,zcw,zb1,zb2,zb6,zcc,zct,List.reverse_cons,List.reverse_nil,zc6,zcu,zcv,zcf,zcg,zcm,lo,v1,zbk,za1,za5,za9,AV.ofCells,m1,hro,m2,hre,zbl,zbx,w3',a0,a3,r3,fh,r3b,r0,m3,k6,aa,f5,b1,b12,s0,k7,v2,Nat.mul_one,Nat.zero_add,t1,t2,t4,u1,u3]
           exact ⟨_,_,rfl,I9,by rw [z1,z2,z3];rfl⟩
     | true =>
      cases w1:(s.th.getD g false) with
      | false =>
       rw [w1] at k6
       cases w2:((zch s e).th.getD g false) with
       | false =>
        rw [w2] at k7
        cases u1:decide (e.st ≥ F) with
        | false =>
         obtain ⟨I9,z1,z2,z3⟩:=fin torn first last (by simp only [zcp,t1,t2,t4,w1,w2,Bool.false_and,Bool.and_false,Bool.or_false,Bool.not_false,Bool.false_eq_true,if_false]) (by simp only [zbz,w2,u1,Bool.false_and,Bool.and_false,Bool.false_eq_true,if_false]) (by simp only [zbz,w2,u1,Bool.false_and,Bool.and_false,Bool.false_eq_true,if_false])
         simp only [zap,zac,zaq,zat,zao,zal,zau,zay,zax,zad,zai,zab,zas,zae,zbd,zaf,zar,zav,zbn,za8,zcd,zbc,za3,zbf,zba,zbg,za7,za6,zbe,zcx,zbh,zag,zaw,X.eval,zak,zah,List.map_cons,List.map_nil,List.getD_cons_zero,List.getD_cons_succ,List.set_cons_zero,List.set_cons_succ,zaz,zcj,zan,zaa,zaj,intArith,shift,za0,cond_true,cond_false,BEq.rfl,AV.cells,AV.ofCells,Nat.zero_add,Nat.add_zero,Nat.reduceAdd,Bool.not_false,Int.reduceLT,decide_false,ft,lo,v1,zbk,za1,za5,za9,AV.ofCells,m1,hro,m2,hre,zbl,zbx,w3',a0,a3,r3,fh,r3b,r0,m3,k6,aa,f5,b1,b12,s0,k7,v2,Nat.mul_one,Nat.zero_add,t1,t2,t4,u1]
         exact ⟨_,_,rfl,I9,by rw [z1,z2,z3];rfl⟩
        | true =>
         obtain ⟨I9,z1,z2,z3⟩:=fin torn first last (by simp only [zcp,t1,t2,t4,w1,w2,Bool.false_and,Bool.and_false,Bool.or_false,Bool.not_false,Bool.false_eq_true,if_false]) (by simp only [zbz,w2,u1,Bool.false_and,Bool.and_false,Bool.false_eq_true,if_false]) (by simp only [zbz,w2,u1,Bool.false_and,Bool.and_false,Bool.false_eq_true,if_false])
         simp only [zap,zac,zaq,zat,zao,zal,zau,zay,zax,zad,zai,zab,zas,zae,zbd,zaf,zar,zav,zbn,za8,zcd,zbc,za3,zbf,zba,zbg,za7,za6,zbe,zcx,zbh,zag,zaw,X.eval,zak,zah,List.map_cons,List.map_nil,List.getD_cons_zero,List.getD_cons_succ,List.set_cons_zero,List.set_cons_succ,zaz,zcj,zan,zaa,zaj,intArith,shift,za0,cond_true,cond_false,BEq.rfl,AV.cells,AV.ofCells,Nat.zero_add,Nat.add_zero,Nat.reduceAdd,Bool.not_false,Int.reduceLT,decide_false,ft,lo,v1,zbk,za1,za5,za9,AV.ofCells,m1,hro,m2,hre,zbl,zbx,w3',a0,a3,r3,fh,r3b,r0,m3,k6,aa,f5,b1,b12,s0,k7,v2,Nat.mul_one,Nat.zero_add,t1,t2,t4,u1]
         exact ⟨_,_,rfl,I9,by rw [z1,z2,z3];rfl⟩
       | true =>
        rw [w2] at k7
        cases u1:decide (e.st ≥ F) with
        | false =>
         obtain ⟨I9,z1,z2,z3⟩:=fin true first last (by simp only [zcp,t1,t2,t4,w1,w2,Bool.false_and,Bool.false_or,Bool.and_true,Bool.not_false,if_true]) (by simp only [zbz,w2,u1,Bool.true_and,Bool.false_and,Bool.false_eq_true,if_false]) (by simp only [zbz,w2,u1,Bool.true_and,Bool.false_and,Bool.false_eq_true,if_false])
         simp only [zap,zac,zaq,zat,zao,zal,zau,zay,zax,zad,zai,zab,zas,zae,zbd,zaf,zar,zav,zbn,za8,zcd,zbc,za3,zbf,zba,zbg,za7,za6,zbe,zcx,zbh,zag,zaw,X.eval,zak,zah,List.map_cons,List.map_nil,List.getD_cons_zero,List.getD_cons_succ,List.set_cons_zero,List.set_cons_succ,zaz,zcj,zan,zaa,zaj,intArith,shift,za0,cond_true,cond_false,BEq.rfl,AV.cells,AV.ofCells,Nat.zero_add,Nat.add_zero,Nat.reduceAdd,Bool.not_false,Int.reduceLT,decide_false,ft,lo,v1,zbk,za1,za5,za9,AV.ofCells,m1,hro,m2,hre,zbl,zbx,w3',a0,a3,r3,fh,r3b,r0,m3,k6,aa,f5,b1,b12,s0,k7,v2,Nat.mul_one,Nat.zero_add,t1,t2,t4,u1]
         exact ⟨_,_,rfl,I9,by rw [z1,z2,z3];rfl⟩
        | true =>
         cases u3:(zcy g img == 0) with
         | false =>
          obtain ⟨I9,z1,z2,z3⟩:=fin true first last (by simp only [zcp,t1,t2,t4,w1,w2,Bool.false_and,Bool.false_or,Bool.and_true,Bool.not_false,if_true]) (by simp only [zbz,w2,u1,u3,Bool.and_false,Bool.false_eq_true,if_false]) (by simp only [zbz,w2,u1,u3,Bool.and_false,Bool.false_eq_true,if_false])
          simp only [zap,zac,zaq,zat,zao,zal,zau,zay,zax,zad,zai,zab,zas,zae,zbd,zaf,zar,zav,zbn,za8,zcd,zbc,za3,zbf,zba,zbg,za7,za6,zbe,zcx,zbh,zag,zaw,X.eval,zak,zah,List.map_cons,List.map_nil,List.getD_cons_zero,List.getD_cons_succ,List.set_cons_zero,List.set_cons_succ,zaz,zcj,zan,zaa,zaj,intArith,shift,za0,cond_true,cond_false,BEq.rfl,AV.cells,AV.ofCells,Nat.zero_add,Nat.add_zero,Nat.reduceAdd,Bool.not_false,Int.reduceLT,decide_false,ft,lo,v1,zbk,za1,za5,za9,AV.ofCells,m1,hro,m2,hre,zbl,zbx,w3',a0,a3,r3,fh,r3b,r0,m3,k6,aa,f5,b1,b12,s0,k7,v2,Nat.mul_one,Nat.zero_add,t1,t2,t4,u1,u3]
          exact ⟨_,_,rfl,I9,by rw [z1,z2,z3];rfl⟩
         | true =>
          have b16:B.length=16:=hBl (by simpa using u3)
          cases f1:first with
          | false =>
           cases f2:last with
           | false =>
            obtain ⟨I9,z1,z2,z3⟩:=fin true (frB (zch s e) g B) (laB (zch s e) g B) (by simp only [zcp,t1,t2,t4,w1,w2,Bool.false_and,Bool.false_or,Bool.and_true,Bool.not_false,if_true]) (by simp only [zbz,w2,u1,u3,f1,Bool.false_or,Bool.and_true,if_true]) (by simp only [zbz,w2,u1,u3,f2,Bool.false_or,Bool.and_true,if_true])
            simp only [zap,zac,zaq,zat,zao,zau,zay,zax,zad,zai,zab,zas,zae,zbd,zaf,zar,zav,zbn,za8,zcd,zbc,za3,zbf,zba,zbg,za7,za6,zbe,zcx,zbh,zag,zaw,X.eval,zak,zah,List.map_cons,List.map_nil,List.getD_cons_zero,List.getD_cons_succ,List.set_cons_zero,List.set_cons_succ,zaz,zcj,zan,zaa,zaj,intArith,shift,bound,za0,cond_true,cond_false,BEq.rfl,AV.cells,AV.ofCells,List.nil_append,List.cons_append,Nat.ble,Nat.zero_add,Nat.add_zero,Nat.reduceAdd,Nat.reduceSub,Bool.and_true,Bool.not_false,Int.reduceLT,decide_false,ft,zb5,zby,zbs,zbr,zbt,zco,zdj,zcw,zcn,zcq,zb1,zb2,zb6,zcc,zct,List.reverse_cons,List.reverse_nil,zea,zce,zd4,zd5,lo,v1,zbk,za1,za5,za9,AV.ofCells,m1,hro,m2,hre,zbl,zbx,w3',a0,a3,r3,fh,r3b,r0,m3,k6,aa,f5,b1,b12,s0,s1,k7,k8,lB,q1,q3,v2,Nat.mul_one,Nat.zero_add,List.drop_zero,Nat.sub_zero,b16,t1,t2,t4,u1,u3]
            exact ⟨_,_,rfl,I9,by rw [z1,z2,z3];rfl⟩
           | true =>
            obtain ⟨I9,z1,z2,z3⟩:=fin true (frB (zch s e) g B) true (by simp only [zcp,t1,t2,t4,w1,w2,Bool.false_and,Bool.false_or,Bool.and_true,Bool.not_false,if_true]) (by simp only [zbz,w2,u1,u3,f1,Bool.false_or,Bool.and_true,if_true]) (by simp only [zbz,w2,u1,u3,f2,Bool.true_or,Bool.and_true,if_true])
            simp only [zap,zac,zaq,zat,zao,zau,zay,zax,zad,zai,zab,zas,zae,zbd,zaf,zar,zav,zbn,za8,zcd,zbc,za3,zbf,zba,zbg,za7,za6,zbe,zcx,zbh,zag,zaw,X.eval,zak,zah,List.map_cons,List.map_nil,List.getD_cons_zero,List.getD_cons_succ,List.set_cons_zero,List.set_cons_succ,zaz,zcj,zan,zaa,zaj,intArith,shift,bound,za0,cond_true,cond_false,BEq.rfl,AV.cells,AV.ofCells,List.nil_append,List.cons_append,Nat.ble,Nat.zero_add,Nat.add_zero,Nat.reduceAdd,Bool.and_true,Bool.not_false,Int.reduceLT,decide_false,tf,ft,zb5,zby,zbs,zbr,zbt,zco,zdj,zcw,zcn,zcq,zb1,zb2,zb6,zcc,zct,List.reverse_cons,List.reverse_nil,zea,zce,zd4,zd5,zc6,zcu,zcv,zcf,zcg,zcm,lo,v1,zbk,za1,za5,za9,AV.ofCells,m1,hro,m2,hre,zbl,zbx,w3',a0,a3,r3,fh,r3b,r0,m3,k6,aa,f5,b1,b12,s0,s1,k7,k8,lB,q1,v2,Nat.mul_one,Nat.zero_add,List.drop_zero,Nat.sub_zero,b16,t1,t2,t4,u1,u3]
            exact ⟨_,_,rfl,I9,by rw [z1,z2,z3];rfl⟩
          | true =>
           cases f2:last with
           | false =>
            obtain ⟨I9,z1,z2,z3⟩:=fin true true (laB (zch s e) g B) (by simp only [zcp,t1,t2,t4,w1,w2,Bool.false_and,Bool.false_or,Bool.and_true,Bool.not_false,if_true]) (by simp only [zbz,w2,u1,u3,f1,Bool.true_or,Bool.and_true,if_true]) (by simp only [zbz,w2,u1,u3,f2,Bool.false_or,Bool.and_true,if_true])
            simp only [zap,zac,zaq,zat,zao,zau,zay,zax,zad,zai,zab,zas,zae,zbd,zaf,zar,zav,zbn,za8,zcd,zbc,za3,zbf,zba,zbg,za7,za6,zbe,zcx,zbh,zag,zaw,X.eval,zak,zah,List.map_cons,List.map_nil,List.getD_cons_zero,List.getD_cons_succ,List.set_cons_zero,List.set_cons_succ,zaz,zcj,zan,zaa,zaj,intArith,shift,bound,za0,cond_true,cond_false,BEq.rfl,AV.cells,AV.ofCells,List.nil_append,List.cons_append,Nat.ble,Nat.zero_add,Nat.add_zero,Nat.reduceAdd,Nat.reduceSub,Bool.and_true,Bool.not_false,Int.reduceLT,decide_false,tf,ft,zb5,zby,zbs,zbr,zbt,zco,zdj,zcw,zcn,zcq,zb1,zb2,zb6,zcc,zct,List.reverse_cons,List.reverse_nil,zea,zce,zd4,zd5,zc6,zcu,zcv,zcf,zcg,zcm,lo,v1,zbk,za1,za5,za9,AV.ofCells,m1,hro,m2,hre,zbl,zbx,w3',a0,a3,r3,fh,r3b,r0,m3,k6,aa,f5,b1,b12,s0,s1,k7,k8,lB,q3,v2,Nat.mul_one,Nat.zero_add,b16,t1,t2,t4,u1,u3]
            exact ⟨_,_,rfl,I9,by rw [z1,z2,z3];rfl⟩
           | true =>
            obtain ⟨I9,z1,z2,z3⟩:=fin true true true (by simp only [zcp,t1,t2,t4,w1,w2,Bool.false_and,Bool.false_or,Bool.and_true,Bool.not_false,if_true]) (by simp only [zbz,w2,u1,u3,f1,Bool.true_or,Bool.and_true,if_true]) (by simp only [zbz,w2,u1,u3,f2,Bool.true_or,Bool.and_true,if_true])
            simp only [zap,zac,zaq,zat,zao,zau,zay,zax,zad,zai,zab,zas,zae,zbd,zaf,zar,zav,zbn,za8,zcd,zbc,za3,zbf,zba,zbg,za7,za6,zbe,zcx,zbh,zag,zaw,X.eval,zak,zah,List.map_cons,List.map_nil,List.getD_cons_zero,List.getD_cons_succ,List.set_cons_zero,List.set_cons_succ,zaz,zcj,zan,zaa,zaj,intArith,shift,za0,cond_true,cond_false,BEq.rfl,AV.cells,AV.ofCells,List.nil_append,List.cons_append,Nat.zero_add,Nat.add_zero,Nat.reduceAdd,Bool.not_false,Int.reduceLT,decide_false,tf,ft,zb5,zby,zbs,zbr,zbt,zco,zcw,zb1,zb2,zb6,zcc,zct,List.reverse_cons,List.reverse_nil,zc6,zcu,zcv,zcf,zcg,zcm,lo,v1,zbk,za1,za5,za9,AV.ofCells,m1,hro,m2,hre,zbl,zbx,w3',a0,a3,r3,fh,r3b,r0,m3,k6,aa,f5,b1,b12,s0,k7,v2,Nat.mul_one,Nat.zero_add,t1,t2,t4,u1,u3]
            exact ⟨_,_,rfl,I9,by rw [z1,z2,z3];rfl⟩
      | true =>
       rw [w1] at k6
       cases u1:decide (e.st ≥ F) with
       | false =>
        obtain ⟨I9,z1,z2,z3⟩:=fin torn first last (by simp only [zcp,t1,t2,t4,w1,Bool.false_and,Bool.and_false,Bool.or_false,Bool.not_true,Bool.false_eq_true,if_false]) (by simp only [zbz,u1,Bool.false_and,Bool.false_eq_true,if_false]) (by simp only [zbz,u1,Bool.false_and,Bool.false_eq_true,if_false])
        simp only [zap,zac,zaq,zat,zao,zal,zau,zay,zax,zad,zai,zab,zas,zae,zbd,zaf,zar,zav,zbn,za8,zcd,zbc,za3,zbf,zba,zbg,za7,za6,zbe,zcx,zbh,zag,zaw,X.eval,zak,zah,List.map_cons,List.map_nil,List.getD_cons_zero,List.getD_cons_succ,List.set_cons_zero,List.set_cons_succ,zaz,zcj,zan,zaa,zaj,intArith,shift,za0,cond_true,cond_false,BEq.rfl,AV.cells,AV.ofCells,Nat.zero_add,Nat.add_zero,Nat.reduceAdd,Bool.not_true,Int.reduceLT,decide_false,ft,lo,v1,zbk,za1,za5,za9,AV.ofCells,m1,hro,m2,hre,zbl,zbx,w3',a0,a3,r3,fh,r3b,r0,m3,k6,aa,f5,b1,b12,v2,Nat.mul_one,Nat.zero_add,t1,t2,t4,u1]
        exact ⟨_,_,rfl,I9,by rw [z1,z2,z3];rfl⟩
       | true =>
        cases w2:((zch s e).th.getD g false) with
        | false =>
         rw [w2] at k7
         obtain ⟨I9,z1,z2,z3⟩:=fin torn first last (by simp only [zcp,t1,t2,t4,w1,w2,Bool.false_and,Bool.and_false,Bool.or_false,Bool.not_true,Bool.false_eq_true,if_false]) (by simp only [zbz,u1,w2,Bool.false_and,Bool.and_false,Bool.false_eq_true,if_false]) (by simp only [zbz,u1,w2,Bool.false_and,Bool.and_false,Bool.false_eq_true,if_false])
         simp only [zap,zac,zaq,zat,zao,zal,zau,zay,zax,zad,zai,zab,zas,zae,zbd,zaf,zar,zav,zbn,za8,zcd,zbc,za3,zbf,zba,zbg,za7,za6,zbe,zcx,zbh,zag,zaw,X.eval,zak,zah,List.map_cons,List.map_nil,List.getD_cons_zero,List.getD_cons_succ,List.set_cons_zero,List.set_cons_succ,zaz,zcj,zan,zaa,zaj,intArith,shift,za0,cond_true,cond_false,BEq.rfl,AV.cells,AV.ofCells,Nat.zero_add,Nat.add_zero,Nat.reduceAdd,Bool.not_true,Int.reduceLT,decide_false,ft,lo,v1,zbk,za1,za5,za9,AV.ofCells,m1,hro,m2,hre,zbl,zbx,w3',a0,a3,r3,fh,r3b,r0,m3,k6,aa,f5,b1,b12,s0,k7,v2,Nat.mul_one,Nat.zero_add,t1,t2,t4,u1]
         exact ⟨_,_,rfl,I9,by rw [z1,z2,z3];rfl⟩
        | true =>
         rw [w2] at k7
         cases u3:(zcy g img == 0) with
         | false =>
          obtain ⟨I9,z1,z2,z3⟩:=fin torn first last (by simp only [zcp,t1,t2,t4,w1,w2,Bool.false_and,Bool.and_false,Bool.or_false,Bool.and_true,Bool.not_true,Bool.false_eq_true,if_false]) (by simp only [zbz,u1,w2,u3,Bool.and_false,Bool.false_eq_true,if_false]) (by simp only [zbz,u1,w2,u3,Bool.and_false,Bool.false_eq_true,if_false])
          simp only [zap,zac,zaq,zat,zao,zal,zau,zay,zax,zad,zai,zab,zas,zae,zbd,zaf,zar,zav,zbn,za8,zcd,zbc,za3,zbf,zba,zbg,za7,za6,zbe,zcx,zbh,zag,zaw,X.eval,zak,zah,List.map_cons,List.map_nil,List.getD_cons_zero,List.getD_cons_succ,List.set_cons_zero,List.set_cons_succ,zaz,zcj,zan,zaa,zaj,intArith,shift,za0,cond_true,cond_false,BEq.rfl,AV.cells,AV.ofCells,Nat.zero_add,Nat.add_zero,Nat.reduceAdd,Bool.not_true,Int.reduceLT,decide_false,ft,lo,v1,zbk,za1,za5,za9,AV.ofCells,m1,hro,m2,hre,zbl,zbx,w3',a0,a3,r3,fh,r3b,r0,m3,k6,aa,f5,b1,b12,s0,k7,v2,Nat.mul_one,Nat.zero_add,t1,t2,t4,u1,u3]
          exact ⟨_,_,rfl,I9,by rw [z1,z2,z3];rfl⟩
         | true =>
          have b16:B.length=16:=hBl (by simpa using u3)
          cases f1:first with
          | false =>
           cases f2:last with
           | false =>
            obtain ⟨I9,z1,z2,z3⟩:=fin torn (frB (zch s e) g B) (laB (zch s e) g B) (by simp only [zcp,t1,t2,t4,w1,w2,Bool.false_and,Bool.and_false,Bool.or_false,Bool.and_true,Bool.not_true,Bool.false_eq_true,if_false]) (by simp only [zbz,u1,w2,u3,f1,Bool.false_or,Bool.and_true,if_true]) (by simp only [zbz,u1,w2,u3,f2,Bool.false_or,Bool.and_true,if_true])
            simp only [zap,zac,zaq,zat,zao,zal,zau,zay,zax,zad,zai,zab,zas,zae,zbd,zaf,zar,zav,zbn,za8,zcd,zbc,za3,zbf,zba,zbg,za7,za6,zbe,zcx,zbh,zag,zaw,X.eval,zak,zah,List.map_cons,List.map_nil,List.getD_cons_zero,List.getD_cons_succ,List.set_cons_zero,List.set_cons_succ,zaz,zcj,zan,zaa,zaj,intArith,shift,bound,za0,cond_true,cond_false,BEq.rfl,AV.cells,AV.ofCells,List.nil_append,List.cons_append,Nat.ble,Nat.zero_add,Nat.add_zero,Nat.reduceAdd,Nat.reduceSub,Bool.and_true,Bool.not_true,Int.reduceLT,decide_false,ft,zb5,zby,zbs,zbr,zbt,zco,zdj,zcw,zcn,zcq,zb1,zb2,zb6,zcc,zct,List.reverse_cons,List.reverse_nil,zea,zce,zd4,zd5,lo,v1,zbk,za1,za5,za9,AV.ofCells,m1,hro,m2,hre,zbl,zbx,w3',a0,a3,r3,fh,r3b,r0,m3,k6,aa,f5,b1,b12,s0,s1,k7,k8,lB,q1,q3,v2,Nat.mul_one,Nat.zero_add,List.drop_zero,Nat.sub_zero,b16,t1,t2,t4,u1,u3]
            exact ⟨_,_,rfl,I9,by rw [z1,z2,z3];rfl⟩
           | true =>
            obtain ⟨I9,z1,z2,z3⟩:=fin torn (frB (zch s e) g B) true (by simp only [zcp,t1,t2,t4,w1,w2,Bool.false_and,Bool.and_false,Bool.or_false,Bool.and_true,Bool.not_true,Bool.false_eq_true,if_false]) (by simp only [zbz,u1,w2,u3,f1,Bool.false_or,Bool.and_true,if_true]) (by simp only [zbz,u1,w2,u3,f2,Bool.true_or,Bool.and_true,if_true])
            simp only [zap,zac,zaq,zat,zao,zal,zau,zay,zax,zad,zai,zab,zas,zae,zbd,zaf,zar,zav,zbn,za8,zcd,zbc,za3,zbf,zba,zbg,za7,za6,zbe,zcx,zbh,zag,zaw,X.eval,zak,zah,List.map_cons,List.map_nil,List.getD_cons_zero,List.getD_cons_succ,List.set_cons_zero,List.set_cons_succ,zaz,zcj,zan,zaa,zaj,intArith,shift,bound,za0,cond_true,cond_false,BEq.rfl,AV.cells,AV.ofCells,List.nil_append,List.cons_append,Nat.ble,Nat.zero_add,Nat.add_zero,Nat.reduceAdd,Bool.and_true,Bool.not_true,Int.reduceLT,decide_false,tf,ft,zb5,zby,zbs,zbr,zbt,zco,zdj,zcw,zcn,zcq,zb1,zb2,zb6,zcc,zct,List.reverse_cons,List.reverse_nil,zea,zce,zd4,zd5,zc6,zcu,zcv,zcf,zcg,zcm,lo,v1,zbk,za1,za5,za9,AV.ofCells,m1,hro,m2,hre,zbl,zbx,w3',a0,a3,r3,fh,r3b,r0,m3,k6,aa,f5,b1,b12,s0,s1,k7,k8,lB,q1,v2,Nat.mul_one,Nat.zero_add,List.drop_zero,Nat.sub_zero,b16,t1,t2,t4,u1,u3]
            exact ⟨_,_,rfl,I9,by rw [z1,z2,z3];rfl⟩
          | true =>
           cases f2:last with
           | false =>
            obtain ⟨I9,z1,z2,z3⟩:=fin torn true (laB (zch s e) g B) (by simp only [zcp,t1,t2,t4,w1,w2,Bool.false_and,Bool.and_false,Bool.or_false,Bool.and_true,Bool.not_true,Bool.false_eq_true,if_false]) (by simp only [zbz,u1,w2,u3,f1,Bool.true_or,Bool.and_true,if_true]) (by simp only [zbz,u1,w2,u3,f2,Bool.false_or,Bool.and_true,if_true])
            simp only [zap,zac,zaq,zat,zao,zal,zau,zay,zax,zad,zai,zab,zas,zae,zbd,zaf,zar,zav,zbn,za8,zcd,zbc,za3,zbf,zba,zbg,za7,za6,zbe,zcx,zbh,zag,zaw,X.eval,zak,zah,List.map_cons,List.map_nil,List.getD_cons_zero,List.getD_cons_succ,List.set_cons_zero,List.set_cons_succ,zaz,zcj,zan,zaa,zaj,intArith,shift,bound,za0,cond_true,cond_false,BEq.rfl,AV.cells,AV.ofCells,List.nil_append,List.cons_append,Nat.ble,Nat.zero_add,Nat.add_zero,Nat.reduceAdd,Nat.reduceSub,Bool.and_true,Bool.not_true,Int.reduceLT,decide_false,tf,ft,zb5,zby,zbs,zbr,zbt,zco,zdj,zcw,zcn,zcq,zb1,zb2,zb6,zcc,zct,List.reverse_cons,List.reverse_nil,zea,zce,zd4,zd5,zc6,zcu,zcv,zcf,zcg,zcm,lo,v1,zbk,za1,za5,za9,AV.ofCells,m1,hro,m2,hre,zbl,zbx,w3',a0,a3,r3,fh,r3b,r0,m3,k6,aa,f5,b1,b12,s0,s1,k7,k8,lB,q3,v2,Nat.mul_one,Nat.zero_add,b16,t1,t2,t4,u1,u3]
            exact ⟨_,_,rfl,I9,by rw [z1,z2,z3];rfl⟩
           | true =>
            obtain ⟨I9,z1,z2,z3⟩:=fin torn true true (by simp only [zcp,t1,t2,t4,w1,w2,Bool.false_and,Bool.and_false,Bool.or_false,Bool.and_true,Bool.not_true,Bool.false_eq_true,if_false]) (by simp only [zbz,u1,w2,u3,f1,Bool.true_or,Bool.and_true,if_true]) (by simp only [zbz,u1,w2,u3,f2,Bool.true_or,Bool.and_true,if_true])
            simp only [zap,zac,zaq,zat,zao,zal,zau,zay,zax,zad,zai,zab,zas,zae,zbd,zaf,zar,zav,zbn,za8,zcd,zbc,za3,zbf,zba,zbg,za7,za6,zbe,zcx,zbh,zag,zaw,X.eval,zak,zah,List.map_cons,List.map_nil,List.getD_cons_zero,List.getD_cons_succ,List.set_cons_zero,List.set_cons_succ,zaz,zcj,zan,zaa,zaj,intArith,shift,za0,cond_true,cond_false,BEq.rfl,AV.cells,AV.ofCells,List.nil_append,List.cons_append,Nat.zero_add,Nat.add_zero,Nat.reduceAdd,Bool.not_true,Int.reduceLT,decide_false,tf,ft,zb5,zby,zbs,zbr,zbt,zco,zcw,zb1,zb2,zb6,zcc,zct,List.reverse_cons,List.reverse_nil,zc6,zcu,zcv,zcf,zcg,zcm,lo,v1,zbk,za1,za5,za9,AV.ofCells,m1,hro,m2,hre,zbl,zbx,w3',a0,a3,r3,fh,r3b,r0,m3,k6,aa,f5,b1,b12,s0,k7,v2,Nat.mul_one,Nat.zero_add,t1,t2,t4,u1,u3]
            exact ⟨_,_,rfl,I9,by rw [z1,z2,z3];rfl⟩
    | true =>
     cases t3:(zd7 s.hs e.cl e.op.hd == (g:Int)) with
     | false =>
      cases t4:(e.op.kd == 1) with
      | false =>
       cases u1:decide (e.st ≥ F) with
       | false =>
        obtain ⟨I9,z1,z2,z3⟩:=fin torn first last (by simp only [zcp,t1,t2,t3,t4,Bool.false_and,Bool.and_false,Bool.or_false,Bool.false_eq_true,if_false]) (by simp only [zbz,u1,Bool.false_and,Bool.false_eq_true,if_false]) (by simp only [zbz,u1,Bool.false_and,Bool.false_eq_true,if_false])
        simp only [zap,zac,zaq,zat,zao,zal,zau,zay,zax,zad,zai,zab,zas,zae,zbd,zaf,zar,zav,zbn,za8,zbc,za3,zbf,zba,zbg,za7,za6,zbe,zbh,zag,zaw,X.eval,zak,zah,List.map_cons,List.map_nil,List.getD_cons_zero,List.getD_cons_succ,List.set_cons_zero,List.set_cons_succ,zaz,zan,zaa,zaj,intArith,shift,za0,cond_true,cond_false,BEq.rfl,AV.cells,AV.ofCells,Nat.zero_add,Nat.add_zero,Nat.reduceAdd,Int.reduceLT,decide_false,ft,lo,v1,zbk,za1,za5,za9,AV.ofCells,m1,hro,m2,hre,zbl,zbx,w3',a0,a3,r3,fh,r3b,r0,m3,k6,aa,f5,b1,b12,v2,Nat.mul_one,Nat.zero_add,t1,t2,t3,t4,u1]
        exact ⟨_,_,rfl,I9,by rw [z1,z2,z3];rfl⟩
       | true =>
        cases w2:((zch s e).th.getD g false) with
        | false =>
         rw [w2] at k7
         obtain ⟨I9,z1,z2,z3⟩:=fin torn first last (by simp only [zcp,t1,t2,t3,t4,w2,Bool.and_false,Bool.or_false,Bool.false_eq_true,if_false]) (by simp only [zbz,u1,w2,Bool.false_and,Bool.and_false,Bool.false_eq_true,if_false]) (by simp only [zbz,u1,w2,Bool.false_and,Bool.and_false,Bool.false_eq_true,if_false])
         simp only [zap,zac,zaq,zat,zao,zal,zau,zay,zax,zad,zai,zab,zas,zae,zbd,zaf,zar,zav,zbn,za8,zbc,za3,zbf,zba,zbg,za7,za6,zbe,zbh,zag,zaw,X.eval,zak,zah,List.map_cons,List.map_nil,List.getD_cons_zero,List.getD_cons_succ,List.set_cons_zero,List.set_cons_succ,zaz,zan,zaa,zaj,intArith,shift,za0,cond_true,cond_false,BEq.rfl,AV.cells,AV.ofCells,Nat.zero_add,Nat.add_zero,Nat.reduceAdd,Int.reduceLT,decide_false,ft,lo,v1,zbk,za1,za5,za9,AV.ofCells,m1,hro,m2,hre,zbl,zbx,w3',a0,a3,r3,fh,r3b,r0,m3,k6,aa,f5,b1,b12,s0,k7,v2,Nat.mul_one,Nat.zero_add,t1,t2,t3,t4,u1]
         exact ⟨_,_,rfl,I9,by rw [z1,z2,z3];rfl⟩
        | true =>
         rw [w2] at k7
         cases u3:(zcy g img == 0) with
         | false =>
          obtain ⟨I9,z1,z2,z3⟩:=fin torn first last (by simp only [zcp,t1,t2,t3,t4,w2,Bool.false_and,Bool.and_false,Bool.or_false,Bool.and_true,Bool.false_eq_true,if_false]) (by simp only [zbz,u1,w2,u3,Bool.and_false,Bool.false_eq_true,if_false]) (by simp only [zbz,u1,w2,u3,Bool.and_false,Bool.false_eq_true,if_false])
          simp only [zap,zac,zaq,zat,zao,zal,zau,zay,zax,zad,zai,zab,zas,zae,zbd,zaf,zar,zav,zbn,za8,zbc,za3,zbf,zba,zbg,za7,za6,zbe,zbh,zag,zaw,X.eval,zak,zah,List.map_cons,List.map_nil,List.getD_cons_zero,List.getD_cons_succ,List.set_cons_zero,List.set_cons_succ,zaz,zan,zaa,zaj,intArith,shift,za0,cond_true,cond_false,BEq.rfl,AV.cells,AV.ofCells,Nat.zero_add,Nat.add_zero,Nat.reduceAdd,Int.reduceLT,decide_false,ft,lo,v1,zbk,za1,za5,za9,AV.ofCells,m1,hro,m2,hre,zbl,zbx,w3',a0,a3,r3,fh,r3b,r0,m3,k6,aa,f5,b1,b12,s0,k7,v2,Nat.mul_one,Nat.zero_add,t1,t2,t3,t4,u1,u3]
          exact ⟨_,_,rfl,I9,by rw [z1,z2,z3];rfl⟩
         | true =>
          have b16:B.length=16:=hBl (by simpa using u3)
          cases f1:first with
          | false =>
           cases f2:last with
           | false =>
            obtain ⟨I9,z1,z2,z3⟩:=fin torn (frB (zch s e) g B) (laB (zch s e) g B) (by simp only [zcp,t1,t2,t3,t4,w2,Bool.false_and,Bool.and_false,Bool.or_false,Bool.and_true,Bool.false_eq_true,if_false]) (by simp only [zbz,u1,w2,u3,f1,Bool.false_or,Bool.and_true,if_true]) (by simp only [zbz,u1,w2,u3,f2,Bool.false_or,Bool.and_true,if_true])
            simp only [zap,zac,zaq,zat,zao,zal,zau,zay,zax,zad,zai,zab,zas,zae,zbd,zaf,zar,zav,zbn,za8,zbc,za3,zbf,zba,zbg,za7,za6,zbe,zbh,zag,zaw,X.eval,zak,zah,List.map_cons,List.map_nil,List.getD_cons_zero,List.getD_cons_succ,List.set_cons_zero,List.set_cons_succ,zaz,zan,zaa,zaj,intArith,shift,bound,za0,cond_true,cond_false,BEq.rfl,AV.cells,AV.ofCells,List.nil_append,List.cons_append,Nat.ble,Nat.zero_add,Nat.add_zero,Nat.reduceAdd,Nat.reduceSub,Bool.and_true,Int.reduceLT,decide_false,ft,zb5,zby,zbs,zbr,zbt,zco,zdj,zcw,zcn,zcq,zb1,zb2,zb6,zcc,zct,List.reverse_cons,List.reverse_nil,zea,zce,zd4,zd5,lo,v1,zbk,za1,za5,za9,AV.ofCells,m1,hro,m2,hre,zbl,zbx,w3',a0,a3,r3,fh,r3b,r0,m3,k6,aa,f5,b1,b12,s0,s1,k7,k8,lB,q1,q3,v2,Nat.mul_one,Nat.zero_add,List.drop_zero,Nat.sub_zero,b16,t1,t2,t3,t4,u1,u3]
            exact ⟨_,_,rfl,I9,by rw [z1,z2,z3];rfl⟩
           | true =>
            obtain ⟨I9,z1,z2,z3⟩:=fin torn (frB (zch s e) g B) true (by simp only [zcp,t1,t2,t3,t4,w2,Bool.false_and,Bool.and_false,Bool.or_false,Bool.and_true,Bool.false_eq_true,if_false]) (by simp only [zbz,u1,w2,u3,f1,Bool.false_or,Bool.and_true,if_true]) (by simp only [zbz,u1,w2,u3,f2,Bool.true_or,Bool.and_true,if_true])
            simp only [zap,zac,zaq,zat,zao,zal,zau,zay,zax,zad,zai,zab,zas,zae,zbd,zaf,zar,zav,zbn,za8,zbc,za3,zbf,zba,zbg,za7,za6,zbe,zbh,zag,zaw,X.eval,zak,zah,List.map_cons,List.map_nil,List.getD_cons_zero,List.getD_cons_succ,List.set_cons_zero,List.set_cons_succ,zaz,zan,zaa,zaj,intArith,shift,bound,za0,cond_true,cond_false,BEq.rfl,AV.cells,AV.ofCells,List.nil_append,List.cons_append,Nat.ble,Nat.zero_add,Nat.add_zero,Nat.reduceAdd,Bool.and_true,Int.reduceLT,decide_false,tf,ft,zb5,zby,zbs,zbr,zbt,zco,zdj,zcw,zcn,zcq,zb1,zb2,zb6,zcc,zct,List.reverse_cons,List.reverse_nil,zea,zce,zd4,zd5,zc6,zcu,zcv,zcf,zcg,zcm,lo,v1,zbk,za1,za5,za9,AV.ofCells,m1,hro,m2,hre,zbl,zbx,w3',a0,a3,r3,fh,r3b,r0,m3,k6,aa,f5,b1,b12,s0,s1,k7,k8,lB,q1,v2,Nat.mul_one,Nat.zero_add,List.drop_zero,Nat.sub_zero,b16,t1,t2,t3,t4,u1,u3]
            exact ⟨_,_,rfl,I9,by rw [z1,z2,z3];rfl⟩
          | true =>
           cases f2:last with
           | false =>
            obtain ⟨I9,z1,z2,z3⟩:=fin torn true (laB (zch s e) g B) (by simp only [zcp,t1,t2,t3,t4,w2,Bool.false_and,Bool.and_false,Bool.or_false,Bool.and_true,Bool.false_eq_true,if_false]) (by simp only [zbz,u1,w2,u3,f1,Bool.true_or,Bool.and_true,if_true]) (by simp only [zbz,u1,w2,u3,f2,Bool.false_or,Bool.and_true,if_true])
            simp only [zap,zac,zaq,zat,zao,zal,zau,zay,zax,zad,zai,zab,zas,zae,zbd,zaf,zar,zav,zbn,za8,zbc,za3,zbf,zba,zbg,za7,za6,zbe,zbh,zag,zaw,X.eval,zak,zah,List.map_cons,List.map_nil,List.getD_cons_zero,List.getD_cons_succ,List.set_cons_zero,List.set_cons_succ,zaz,zan,zaa,zaj,intArith,shift,bound,za0,cond_true,cond_false,BEq.rfl,AV.cells,AV.ofCells,List.nil_append,List.cons_append,Nat.ble,Nat.zero_add,Nat.add_zero,Nat.reduceAdd,Nat.reduceSub,Bool.and_true,Int.reduceLT,decide_false,tf,ft,zb5,zby,zbs,zbr,zbt,zco,zdj,zcw,zcn,zcq,zb1,zb2,zb6,zcc,zct,List.reverse_cons,List.reverse_nil,zea,zce,zd4,zd5,zc6,zcu,zcv,zcf,zcg,zcm,lo,v1,zbk,za1,za5,za9,AV.ofCells,m1,hro,m2,hre,zbl,zbx,w3',a0,a3,r3,fh,r3b,r0,m3,k6,aa,f5,b1,b12,s0,s1,k7,k8,lB,q3,v2,Nat.mul_one,Nat.zero_add,b16,t1,t2,t3,t4,u1,u3]
            exact ⟨_,_,rfl,I9,by rw [z1,z2,z3];rfl⟩
           | true =>
            obtain ⟨I9,z1,z2,z3⟩:=fin torn true true (by simp only [zcp,t1,t2,t3,t4,w2,Bool.false_and,Bool.and_false,Bool.or_false,Bool.and_true,Bool.false_eq_true,if_false]) (by simp only [zbz,u1,w2,u3,f1,Bool.true_or,Bool.and_true,if_true]) (by simp only [zbz,u1,w2,u3,f2,Bool.true_or,Bool.and_true,if_true])
            simp only [zap,zac,zaq,zat,zao,zal,zau,zay,zax,zad,zai,zab,zas,zae,zbd,zaf,zar,zav,zbn,za8,zbc,za3,zbf,zba,zbg,za7,za6,zbe,zbh,zag,zaw,X.eval,zak,zah,List.map_cons,List.map_nil,List.getD_cons_zero,List.getD_cons_succ,List.set_cons_zero,List.set_cons_succ,zaz,zan,zaa,zaj,intArith,shift,za0,cond_true,cond_false,BEq.rfl,AV.cells,AV.ofCells,List.nil_append,List.cons_append,Nat.zero_add,Nat.add_zero,Nat.reduceAdd,Int.reduceLT,decide_false,tf,ft,zb5,zby,zbs,zbr,zbt,zco,zcw,zb1,zb2,zb6,zcc,zct,List.reverse_cons,List.reverse_nil,zc6,zcu,zcv,zcf,zcg,zcm,lo,v1,zbk,za1,za5,za9,AV.ofCells,m1,hro,m2,hre,zbl,zbx,w3',a0,a3,r3,fh,r3b,r0,m3,k6,aa,f5,b1,b12,s0,k7,v2,Nat.mul_one,Nat.zero_add,t1,t2,t3,t4,u1,u3]
            exact ⟨_,_,rfl,I9,by rw [z1,z2,z3];rfl⟩
      | true =>
       cases w1:(s.th.getD g false) with
       | false =>
        rw [w1] at k6
        cases w2:((zch s e).th.getD g false) with
        | false =>
         rw [w2] at k7
         cases u1:decide (e.st ≥ F) with
         | false =>
          obtain ⟨I9,z1,z2,z3⟩:=fin torn first last (by simp only [zcp,t1,t2,t3,t4,w1,w2,Bool.and_false,Bool.or_false,Bool.not_false,Bool.false_eq_true,if_false]) (by simp only [zbz,w2,u1,Bool.false_and,Bool.and_false,Bool.false_eq_true,if_false]) (by simp only [zbz,w2,u1,Bool.false_and,Bool.and_false,Bool.false_eq_true,if_false])
          simp only [zap,zac,zaq,zat,zao,zal,zau,zay,zax,zad,zai,zab,zas,zae,zbd,zaf,zar,zav,zbn,za8,zcd,zbc,za3,zbf,zba,zbg,za7,za6,zbe,zcx,zbh,zag,zaw,X.eval,zak,zah,List.map_cons,List.map_nil,List.getD_cons_zero,List.getD_cons_succ,List.set_cons_zero,List.set_cons_succ,zaz,zcj,zan,zaa,zaj,intArith,shift,za0,cond_true,cond_false,BEq.rfl,AV.cells,AV.ofCells,Nat.zero_add,Nat.add_zero,Nat.reduceAdd,Bool.not_false,Int.reduceLT,decide_false,ft,lo,v1,zbk,za1,za5,za9,AV.ofCells,m1,hro,m2,hre,zbl,zbx,w3',a0,a3,r3,fh,r3b,r0,m3,k6,aa,f5,b1,b12,s0,k7,v2,Nat.mul_one,Nat.zero_add,t1,t2,t3,t4,u1]
          exact ⟨_,_,rfl,I9,by rw [z1,z2,z3];rfl⟩
         | true =>
          obtain ⟨I9,z1,z2,z3⟩:=fin torn first last (by simp only [zcp,t1,t2,t3,t4,w1,w2,Bool.and_false,Bool.or_false,Bool.not_false,Bool.false_eq_true,if_false]) (by simp only [zbz,w2,u1,Bool.false_and,Bool.and_false,Bool.false_eq_true,if_false]) (by simp only [zbz,w2,u1,Bool.false_and,Bool.and_false,Bool.false_eq_true,if_false])
          simp only [zap,zac,zaq,zat,zao,zal,zau,zay,zax,zad,zai,zab,zas,zae,zbd,zaf,zar,zav,zbn,za8,zcd,zbc,za3,zbf,zba,zbg,za7,za6,zbe,zcx,zbh,zag,zaw,X.eval,zak,zah,List.map_cons,List.map_nil,List.getD_cons_zero,List.getD_cons_succ,List.set_cons_zero,List.set_cons_succ,zaz,zcj,zan,zaa,zaj,intArith,shift,za0,cond_true,cond_false,BEq.rfl,AV.cells,AV.ofCells,Nat.zero_add,Nat.add_zero,Nat.reduceAdd,Bool.not_false,Int.reduceLT,decide_false,ft,lo,v1,zbk,za1,za5,za9,AV.ofCells,m1,hro,m2,hre,zbl,zbx,w3',a0,a3,r3,fh,r3b,r0,m3,k6,aa,f5,b1,b12,s0,k7,v2,Nat.mul_one,Nat.zero_add,t1,t2,t3,t4,u1]
          exact ⟨_,_,rfl,I9,by rw [z1,z2,z3];rfl⟩
        | true =>
         rw [w2] at k7
         cases u1:decide (e.st ≥ F) with
         | false =>
          obtain ⟨I9,z1,z2,z3⟩:=fin true first last (by simp only [zcp,t1,t2,t3,t4,w1,w2,Bool.and_false,Bool.false_or,Bool.and_true,Bool.not_false,if_true]) (by simp only [zbz,w2,u1,Bool.true_and,Bool.false_and,Bool.false_eq_true,if_false]) (by simp only [zbz,w2,u1,Bool.true_and,Bool.false_and,Bool.false_eq_true,if_false])
          simp only [zap,zac,zaq,zat,zao,zal,zau,zay,zax,zad,zai,zab,zas,zae,zbd,zaf,zar,zav,zbn,za8,zcd,zbc,za3,zbf,zba,zbg,za7,za6,zbe,zcx,zbh,zag,zaw,X.eval,zak,zah,List.map_cons,List.map_nil,List.getD_cons_zero,List.getD_cons_succ,List.set_cons_zero,List.set_cons_succ,zaz,zcj,zan,zaa,zaj,intArith,shift,za0,cond_true,cond_false,BEq.rfl,AV.cells,AV.ofCells,Nat.zero_add,Nat.add_zero,Nat.reduceAdd,Bool.not_false,Int.reduceLT,decide_false,ft,lo,v1,zbk,za1,za5,za9,AV.ofCells,m1,hro,m2,hre,zbl,zbx,w3',a0,a3,r3,fh,r3b,r0,m3,k6,aa,f5,b1,b12,s0,k7,v2,Nat.mul_one,Nat.zero_add,t1,t2,t3,t4,u1]
          exact ⟨_,_,rfl,I9,by rw [z1,z2,z3];rfl⟩
         | true =>
          cases u3:(zcy g img == 0) with
          | false =>
           obtain ⟨I9,z1,z2,z3⟩:=fin true first last (by simp only [zcp,t1,t2,t3,t4,w1,w2,Bool.and_false,Bool.false_or,Bool.and_true,Bool.not_false,if_true]) (by simp only [zbz,w2,u1,u3,Bool.and_false,Bool.false_eq_true,if_false]) (by simp only [zbz,w2,u1,u3,Bool.and_false,Bool.false_eq_true,if_false])
           simp only [zap,zac,zaq,zat,zao,zal,zau,zay,zax,zad,zai,zab,zas,zae,zaf,zar,zav,zbn,za8,zcd,zbc,za3,zbf,zba,zbg,za7,za6,zbe,zcx,zbh,zag,zaw,X.eval,zak,zah,List.map_cons,List.map_nil,List.getD_cons_zero,List.getD_cons_succ,List.set_cons_zero,List.set_cons_succ,zaz,zcj,zan,zaa,zaj,intArith,shift,za0,cond_true,cond_false,BEq.rfl,AV.cells,AV.ofCells,Nat.zero_add,Nat.add_zero,Nat.reduceAdd,Bool.not_false,Int.reduceLT,decide_false,lo,v1,zbk,za1,za5,za9,AV.ofCells,m1,hro,m2,hre,zbl,zbx,w3',a0,a3,r3,fh,r3b,r0,m3,k6,aa,f5,b1,b12,s0,k7,v2,Nat.mul_one,Nat.zero_add,t1,t2,t3,t4,u1,u3]
           exact ⟨_,_,rfl,I9,by rw [z1,z2,z3];rfl⟩
          | true =>
           have b16:B.length=16:=hBl (by simpa using u3)
           cases f1:first with
           | false =>
            cases f2:last with
            | false =>
             obtain ⟨I9,z1,z2,z3⟩:=fin true (frB (zch s e) g B) (laB (zch s e) g B) (by simp only [zcp,t1,t2,t3,t4,w1,w2,Bool.and_false,Bool.false_or,Bool.and_true,Bool.not_false,if_true]) (by simp only [zbz,w2,u1,u3,f1,Bool.false_or,Bool.and_true,if_true]) (by simp only [zbz,w2,u1,u3,f2,Bool.false_or,Bool.and_true,if_true])
             simp only [zap,zac,zaq,zat,zao,zau,zay,zax,zad,zai,zab,zas,zae,zaf,zar,zav,zbn,za8,zcd,zbc,za3,zbf,zba,zbg,za7,za6,zbe,zcx,zbh,zag,zaw,X.eval,zak,zah,List.map_cons,List.map_nil,List.getD_cons_zero,List.getD_cons_succ,List.set_cons_zero,List.set_cons_succ,zaz,zcj,zan,zaa,zaj,intArith,shift,bound,za0,cond_true,cond_false,BEq.rfl,AV.cells,AV.ofCells,List.nil_append,List.cons_append,Nat.ble,Nat.zero_add,Nat.add_zero,Nat.reduceAdd,Nat.reduceSub,Bool.and_true,Bool.not_false,Int.reduceLT,decide_false,zb5,zby,zbs,zbr,zbt,zco,zdj,zcw,zcn,zcq,zb1,zb2,zb6,zcc,zct,List.reverse_cons,List.reverse_nil,zea,zce,zd4,zd5,lo,v1,zbk,za1,za5,za9,AV.ofCells,m1,hro,m2,hre,zbl,zbx,w3',a0,a3,r3,fh,r3b,r0,m3,k6,aa,f5,b1,b12,s0,s1,k7,k8,lB,q1,q3,v2,Nat.mul_one,Nat.zero_add,List.drop_zero,Nat.sub_zero,b16,t1,t2,t3,t4,u1,u3]
             exact ⟨_,_,rfl,I9,by rw [z1,z2,z3];rfl⟩
            | true =>
             obtain ⟨I9,z1,z2,z3⟩:=fin true (frB (zch s e) g B) true (by simp only [zcp,t1,t2,t3,t4,w1,w2,Bool.and_false,Bool.false_or,Bool.and_true,Bool.not_false,if_true]) (by simp only [zbz,w2,u1,u3,f1,Bool.false_or,Bool.and_true,if_true]) (by simp only [zbz,w2,u1,u3,f2,Bool.true_or,Bool.and_true,if_true])
             simp only [zap,zac,zaq,zat,zao,zau,zay,zax,zad,zai,zab,zas,zae,zaf,zar,zav,zbn,za8,zcd,zbc,za3,zbf,zba,zbg,za7,za6,zbe,zcx,zbh,zag,zaw,X.eval,zak,zah,List.map_cons,List.map_nil,List.getD_cons_zero,List.getD_cons_succ,List.set_cons_zero,List.set_cons_succ,zaz,zcj,zan,zaa,zaj,intArith,shift,bound,za0,cond_true,cond_false,BEq.rfl,AV.cells,AV.ofCells,List.nil_append,List.cons_append,Nat.ble,Nat.zero_add,Nat.add_zero,Nat.reduceAdd,Bool.and_true,Bool.not_false,Int.reduceLT,decide_false,tf,zb5,zby,zbs,zbr,zbt,zco,zdj,zcw,zcn,zcq,zb1,zb2,zb6,zcc,zct,List.reverse_cons,List.reverse_nil,zea,zce,zd4,zd5,zc6,zcu,zcv,zcf,zcg,zcm,lo,v1,zbk,za1,za5,za9,AV.ofCells,m1,hro,m2,hre,zbl,zbx,w3',a0,a3,r3,fh,r3b,r0,m3,k6,aa,f5,b1,b12,s0,s1,k7,k8,lB,q1,v2,Nat.mul_one,Nat.zero_add,List.drop_zero,Nat.sub_zero,b16,t1,t2,t3,t4,u1,u3]
             exact ⟨_,_,rfl,I9,by rw [z1,z2,z3];rfl⟩
           | true =>
            cases f2:last with
            | false =>
             obtain ⟨I9,z1,z2,z3⟩:=fin true true (laB (zch s e) g B) (by simp only [zcp,t1,t2,t3,t4,w1,w2,Bool.and_false,Bool.false_or,Bool.and_true,Bool.not_false,if_true]) (by simp only [zbz,w2,u1,u3,f1,Bool.true_or,Bool.and_true,if_true]) (by simp only [zbz,w2,u1,u3,f2,Bool.false_or,Bool.and_true,if_true])
             simp only [zap,zac,zaq,zat,zao,zau,zay,zax,zad,zai,zab,zas,zae,zaf,zar,zav,zbn,za8,zcd,zbc,za3,zbf,zba,zbg,za7,za6,zbe,zcx,zbh,zag,zaw,X.eval,zak,zah,List.map_cons,List.map_nil,List.getD_cons_zero,List.getD_cons_succ,List.set_cons_zero,List.set_cons_succ,zaz,zcj,zan,zaa,zaj,intArith,shift,bound,za0,cond_true,cond_false,BEq.rfl,AV.cells,AV.ofCells,List.nil_append,List.cons_append,Nat.ble,Nat.zero_add,Nat.add_zero,Nat.reduceAdd,Nat.reduceSub,Bool.and_true,Bool.not_false,Int.reduceLT,decide_false,tf,zb5,zby,zbs,zbr,zbt,zco,zdj,zcw,zcn,zcq,zb1,zb2,zb6,zcc,zct,List.reverse_cons,List.reverse_nil,zea,zce,zd4,zd5,zc6,zcu,zcv,zcf,zcg,zcm,lo,v1,zbk,za1,za5,za9,AV.ofCells,m1,hro,m2,hre,zbl,zbx,w3',a0,a3,r3,fh,r3b,r0,m3,k6,aa,f5,b1,b12,s0,s1,k7,k8,lB,q3,v2,Nat.mul_one,Nat.zero_add,b16,t1,t2,t3,t4,u1,u3]
             exact ⟨_,_,rfl,I9,by rw [z1,z2,z3];rfl⟩
            | true =>
             obtain ⟨I9,z1,z2,z3⟩:=fin true true true (by simp only [zcp,t1,t2,t3,t4,w1,w2,Bool.and_false,Bool.false_or,Bool.and_true,Bool.not_false,if_true]) (by simp only [zbz,w2,u1,u3,f1,Bool.true_or,Bool.and_true,if_true]) (by simp only [zbz,w2,u1,u3,f2,Bool.true_or,Bool.and_true,if_true])
             simp only [zap,zac,zaq,zat,zao,zau,zay,zax,zad,zai,zab,zas,zae,zaf,zar,zav,zbn,za8,zcd,zbc,za3,zbf,zba,zbg,za7,za6,zbe,zcx,zbh,zag,zaw,X.eval,zak,zah,List.map_cons,List.map_nil,List.getD_cons_zero,List.getD_cons_succ,List.set_cons_zero,List.set_cons_succ,zaz,zcj,zan,zaa,zaj,intArith,shift,za0,cond_true,cond_false,BEq.rfl,AV.cells,AV.ofCells,List.nil_append,List.cons_append,Nat.zero_add,Nat.add_zero,Nat.reduceAdd,Bool.not_false,Int.reduceLT,decide_false,tf,zb5,zby,zbs,zbr,zbt,zco,zcw,zb1,zb2,zb6,zcc,zct,List.reverse_cons,List.reverse_nil,zc6,zcu,zcv,zcf,zcg,zcm,lo,v1,zbk,za1,za5,za9,AV.ofCells,m1,hro,m2,hre,zbl,zbx,w3',a0,a3,r3,fh,r3b,r0,m3,k6,aa,f5,b1,b12,s0,k7,v2,Nat.mul_one,Nat.zero_add,t1,t2,t3,t4,u1,u3]
             exact ⟨_,_,rfl,I9,by rw [z1,z2,z3];rfl⟩
       | true =>
        rw [w1] at k6
        cases u1:decide (e.st ≥ F) with
        | false =>
         obtain ⟨I9,z1,z2,z3⟩:=fin torn first last (by simp only [zcp,t1,t2,t3,t4,w1,Bool.false_and,Bool.and_false,Bool.or_false,Bool.not_true,Bool.false_eq_true,if_false]) (by simp only [zbz,u1,Bool.false_and,Bool.false_eq_true,if_false]) (by simp only [zbz,u1,Bool.false_and,Bool.false_eq_true,if_false])
         simp only [zap,zac,zaq,zat,zao,zal,zau,zay,zax,zad,zai,zab,zas,zae,zbd,zaf,zar,zav,zbn,za8,zcd,zbc,za3,zbf,zba,zbg,za7,za6,zbe,zcx,zbh,zag,zaw,X.eval,zak,zah,List.map_cons,List.map_nil,List.getD_cons_zero,List.getD_cons_succ,List.set_cons_zero,List.set_cons_succ,zaz,zcj,zan,zaa,zaj,intArith,shift,za0,cond_true,cond_false,BEq.rfl,AV.cells,AV.ofCells,Nat.zero_add,Nat.add_zero,Nat.reduceAdd,Bool.not_true,Int.reduceLT,decide_false,ft,lo,v1,zbk,za1,za5,za9,AV.ofCells,m1,hro,m2,hre,zbl,zbx,w3',a0,a3,r3,fh,r3b,r0,m3,k6,aa,f5,b1,b12,v2,Nat.mul_one,Nat.zero_add,t1,t2,t3,t4,u1]
         exact ⟨_,_,rfl,I9,by rw [z1,z2,z3];rfl⟩
        | true =>
         cases w2:((zch s e).th.getD g false) with
         | false =>
          rw [w2] at k7
          obtain ⟨I9,z1,z2,z3⟩:=fin torn first last (by simp only [zcp,t1,t2,t3,t4,w1,w2,Bool.and_false,Bool.or_false,Bool.not_true,Bool.false_eq_true,if_false]) (by simp only [zbz,u1,w2,Bool.false_and,Bool.and_false,Bool.false_eq_true,if_false]) (by simp only [zbz,u1,w2,Bool.false_and,Bool.and_false,Bool.false_eq_true,if_false])
          simp only [zap,zac,zaq,zat,zao,zal,zau,zay,zax,zad,zai,zab,zas,zae,zbd,zaf,zar,zav,zbn,za8,zcd,zbc,za3,zbf,zba,zbg,za7,za6,zbe,zcx,zbh,zag,zaw,X.eval,zak,zah,List.map_cons,List.map_nil,List.getD_cons_zero,List.getD_cons_succ,List.set_cons_zero,List.set_cons_succ,zaz,zcj,zan,zaa,zaj,intArith,shift,za0,cond_true,cond_false,BEq.rfl,AV.cells,AV.ofCells,Nat.zero_add,Nat.add_zero,Nat.reduceAdd,Bool.not_true,Int.reduceLT,decide_false,ft,lo,v1,zbk,za1,za5,za9,AV.ofCells,m1,hro,m2,hre,zbl,zbx,w3',a0,a3,r3,fh,r3b,r0,m3,k6,aa,f5,b1,b12,s0,k7,v2,Nat.mul_one,Nat.zero_add,t1,t2,t3,t4,u1]
          exact ⟨_,_,rfl,I9,by rw [z1,z2,z3];rfl⟩
         | true =>
          rw [w2] at k7
          cases u3:(zcy g img == 0) with
          | false =>
           obtain ⟨I9,z1,z2,z3⟩:=fin torn first last (by simp only [zcp,t1,t2,t3,t4,w1,w2,Bool.and_false,Bool.or_false,Bool.and_true,Bool.not_true,Bool.false_eq_true,if_false]) (by simp only [zbz,u1,w2,u3,Bool.and_false,Bool.false_eq_true,if_false]) (by simp only [zbz,u1,w2,u3,Bool.and_false,Bool.false_eq_true,if_false])
           simp only [zap,zac,zaq,zat,zao,zal,zau,zay,zax,zad,zai,zab,zas,zae,zbd,zaf,zar,zav,zbn,za8,zcd,zbc,za3,zbf,zba,zbg,za7,za6,zbe,zcx,zbh,zag,zaw,X.eval,zak,zah,List.map_cons,List.map_nil,List.getD_cons_zero,List.getD_cons_succ,List.set_cons_zero,List.set_cons_succ,zaz,zcj,zan,zaa,zaj,intArith,shift,za0,cond_true,cond_false,BEq.rfl,AV.cells,AV.ofCells,Nat.zero_add,Nat.add_zero,Nat.reduceAdd,Bool.not_true,Int.reduceLT,decide_false,ft,lo,v1,zbk,za1,za5,za9,AV.ofCells,m1,hro,m2,hre,zbl,zbx,w3',a0,a3,r3,fh,r3b,r0,m3,k6,aa,f5,b1,b12,s0,k7,v2,Nat.mul_one,Nat.zero_add,t1,t2,t3,t4,u1,u3]
           exact ⟨_,_,rfl,I9,by rw [z1,z2,z3];rfl⟩
          | true =>
           have b16:B.length=16:=hBl (by simpa using u3)
           cases f1:first with
           | false =>
            cases f2:last with
            | false =>
             obtain ⟨I9,z1,z2,z3⟩:=fin torn (frB (zch s e) g B) (laB (zch s e) g B) (by simp only [zcp,t1,t2,t3,t4,w1,w2,Bool.and_false,Bool.or_false,Bool.and_true,Bool.not_true,Bool.false_eq_true,if_false]) (by simp only [zbz,u1,w2,u3,f1,Bool.false_or,Bool.and_true,if_true]) (by simp only [zbz,u1,w2,u3,f2,Bool.false_or,Bool.and_true,if_true])
             simp only [zap,zac,zaq,zat,zao,zal,zau,zay,zax,zad,zai,zab,zas,zae,zbd,zaf,zar,zav,zbn,za8,zcd,zbc,za3,zbf,zba,zbg,za7,za6,zbe,zcx,zbh,zag,zaw,X.eval,zak,zah,List.map_cons,List.map_nil,List.getD_cons_zero,List.getD_cons_succ,List.set_cons_zero,List.set_cons_succ,zaz,zcj,zan,zaa,zaj,intArith,shift,bound,za0,cond_true,cond_false,BEq.rfl,AV.cells,AV.ofCells,List.nil_append,List.cons_append,Nat.ble,Nat.zero_add,Nat.add_zero,Nat.reduceAdd,Nat.reduceSub,Bool.and_true,Bool.not_true,Int.reduceLT,decide_false,ft,zb5,zby,zbs,zbr,zbt,zco,zdj,zcw,zcn,zcq,zb1,zb2,zb6,zcc,zct,List.reverse_cons,List.reverse_nil,zea,zce,zd4,zd5,lo,v1,zbk,za1,za5,za9,AV.ofCells,m1,hro,m2,hre,zbl,zbx,w3',a0,a3,r3,fh,r3b,r0,m3,k6,aa,f5,b1,b12,s0,s1,k7,k8,lB,q1,q3,v2,Nat.mul_one,Nat.zero_add,List.drop_zero,Nat.sub_zero,b16,t1,t2,t3,t4,u1,u3]
             exact ⟨_,_,rfl,I9,by rw [z1,z2,z3];rfl⟩
            | true =>
             obtain ⟨I9,z1,z2,z3⟩:=fin torn (frB (zch s e) g B) true (by simp only [zcp,t1,t2,t3,t4,w1,w2,Bool.and_false,Bool.or_false,Bool.and_true,Bool.not_true,Bool.false_eq_true,if_false]) (by simp only [zbz,u1,w2,u3,f1,Bool.false_or,Bool.and_true,if_true]) (by simp only [zbz,u1,w2,u3,f2,Bool.true_or,Bool.and_true,if_true])
             simp only [zap,zac,zaq,zat,zao,zal,zau,zay,zax,zad,zai,zab,zas,zae,zbd,zaf,zar,zav,zbn,za8,zcd,zbc,za3,zbf,zba,zbg,za7,za6,zbe,zcx,zbh,zag,zaw,X.eval,zak,zah,List.map_cons,List.map_nil,List.getD_cons_zero,List.getD_cons_succ,List.set_cons_zero,List.set_cons_succ,zaz,zcj,zan,zaa,zaj,intArith,shift,bound,za0,cond_true,cond_false,BEq.rfl,AV.cells,AV.ofCells,List.nil_append,List.cons_append,Nat.ble,Nat.zero_add,Nat.add_zero,Nat.reduceAdd,Bool.and_true,Bool.not_true,Int.reduceLT,decide_false,tf,ft,zb5,zby,zbs,zbr,zbt,zco,zdj,zcw,zcn,zcq,zb1,zb2,zb6,zcc,zct,List.reverse_cons,List.reverse_nil,zea,zce,zd4,zd5,zc6,zcu,zcv,zcf,zcg,zcm,lo,v1,zbk,za1,za5,za9,AV.ofCells,m1,hro,m2,hre,zbl,zbx,w3',a0,a3,r3,fh,r3b,r0,m3,k6,aa,f5,b1,b12,s0,s1,k7,k8,lB,q1,v2,Nat.mul_one,Nat.zero_add,List.drop_zero,Nat.sub_zero,b16,t1,t2,t3,t4,u1,u3]
             exact ⟨_,_,rfl,I9,by rw [z1,z2,z3];rfl⟩
           | true =>
            cases f2:last with
            | false =>
             obtain ⟨I9,z1,z2,z3⟩:=fin torn true (laB (zch s e) g B) (by simp only [zcp,t1,t2,t3,t4,w1,w2,Bool.and_false,Bool.or_false,Bool.and_true,Bool.not_true,Bool.false_eq_true,if_false]) (by simp only [zbz,u1,w2,u3,f1,Bool.true_or,Bool.and_true,if_true]) (by simp only [zbz,u1,w2,u3,f2,Bool.false_or,Bool.and_true,if_true])
             simp only [zap,zac,zaq,zat,zao,zal,zau,zay,zax,zad,zai,zab,zas,zae,zbd,zaf,zar,zav,zbn,za8,zcd,zbc,za3,zbf,zba,zbg,za7,za6,zbe,zcx,zbh,zag,zaw,X.eval,zak,zah,List.map_cons,List.map_nil,List.getD_cons_zero,List.getD_cons_succ,List.set_cons_zero,List.set_cons_succ,zaz,zcj,zan,zaa,zaj,intArith,shift,bound,za0,cond_true,cond_false,BEq.rfl,AV.cells,AV.ofCells,List.nil_append,List.cons_append,Nat.ble,Nat.zero_add,Nat.add_zero,Nat.reduceAdd,Nat.reduceSub,Bool.and_true,Bool.not_true,Int.reduceLT,decide_false,tf,ft,zb5,zby,zbs,zbr,zbt,zco,zdj,zcw,zcn,zcq,zb1,zb2,zb6,zcc,zct,List.reverse_cons,List.reverse_nil,zea,zce,zd4,zd5,zc6,zcu,zcv,zcf,zcg,zcm,lo,v1,zbk,za1,za5,za9,AV.ofCells,m1,hro,m2,hre,zbl,zbx,w3',a0,a3,r3,fh,r3b,r0,m3,k6,aa,f5,b1,b12,s0,s1,k7,k8,lB,q3,v2,Nat.mul_one,Nat.zero_add,b16,t1,t2,t3,t4,u1,u3]
             exact ⟨_,_,rfl,I9,by rw [z1,z2,z3];rfl⟩
            | true =>
             obtain ⟨I9,z1,z2,z3⟩:=fin torn true true (by simp only [zcp,t1,t2,t3,t4,w1,w2,Bool.and_false,Bool.or_false,Bool.and_true,Bool.not_true,Bool.false_eq_true,if_false]) (by simp only [zbz,u1,w2,u3,f1,Bool.true_or,Bool.and_true,if_true]) (by simp only [zbz,u1,w2,u3,f2,Bool.true_or,Bool.and_true,if_true])
             simp only [zap,zac,zaq,zat,zao,zal,zau,zay,zax,zad,zai,zab,zas,zae,zbd,zaf,zar,zav,zbn,za8,zcd,zbc,za3,zbf,zba,zbg,za7,za6,zbe,zcx,zbh,zag,zaw,X.eval,zak,zah,List.map_cons,List.map_nil,List.getD_cons_zero,List.getD_cons_succ,List.set_cons_zero,List.set_cons_succ,zaz,zcj,zan,zaa,zaj,intArith,shift,za0,cond_true,cond_false,BEq.rfl,AV.cells,AV.ofCells,List.nil_append,List.cons_append,Nat.zero_add,Nat.add_zero,Nat.reduceAdd,Bool.not_true,Int.reduceLT,decide_false,tf,ft,zb5,zby,zbs,zbr,zbt,zco,zcw,zb1,zb2,zb6,zcc,zct,List.reverse_cons,List.reverse_nil,zc6,zcu,zcv,zcf,zcg,zcm,lo,v1,zbk,za1,za5,za9,AV.ofCells,m1,hro,m2,hre,zbl,zbx,w3',a0,a3,r3,fh,r3b,r0,m3,k6,aa,f5,b1,b12,s0,k7,v2,Nat.mul_one,Nat.zero_add,t1,t2,t3,t4,u1,u3]
             exact ⟨_,_,rfl,I9,by rw [z1,z2,z3];rfl⟩
     | true =>
      cases u1:decide (e.st ≥ F) with
      | false =>
       obtain ⟨I9,z1,z2,z3⟩:=fin true first last (by simp only [zcp,t1,t2,t3,Bool.true_or,Bool.and_true,if_true]) (by simp only [zbz,u1,Bool.false_and,Bool.false_eq_true,if_false]) (by simp only [zbz,u1,Bool.false_and,Bool.false_eq_true,if_false])
       simp only [zap,zac,zaq,zat,zao,zal,zau,zay,zax,zad,zai,zab,zas,zae,zbd,zaf,zar,zav,zbn,za8,zbc,za3,zbf,zba,zbg,za7,za6,zbe,zbh,zag,zaw,X.eval,zak,zah,List.map_cons,List.map_nil,List.getD_cons_zero,List.getD_cons_succ,List.set_cons_zero,List.set_cons_succ,zaz,zan,zaa,zaj,intArith,shift,za0,cond_true,cond_false,BEq.rfl,AV.cells,AV.ofCells,Nat.zero_add,Nat.add_zero,Nat.reduceAdd,Int.reduceLT,decide_false,tf,ft,lo,v1,zbk,za1,za5,za9,AV.ofCells,m1,hro,m2,hre,zbl,zbx,w3',a0,a3,r3,fh,r3b,r0,m3,k6,aa,f5,b1,b12,v2,Nat.mul_one,Nat.zero_add,t1,t2,t3,u1]
       exact ⟨_,_,rfl,I9,by rw [z1,z2,z3];rfl⟩
      | true =>
       cases w2:((zch s e).th.getD g false) with
       | false =>
        rw [w2] at k7
        obtain ⟨I9,z1,z2,z3⟩:=fin true first last (by simp only [zcp,t1,t2,t3,w2,Bool.and_false,Bool.or_false,Bool.and_true,if_true]) (by simp only [zbz,u1,w2,Bool.false_and,Bool.and_false,Bool.false_eq_true,if_false]) (by simp only [zbz,u1,w2,Bool.false_and,Bool.and_false,Bool.false_eq_true,if_false])
        simp only [zap,zac,zaq,zat,zao,zal,zau,zay,zax,zad,zai,zab,zas,zae,zbd,zaf,zar,zav,zbn,za8,zbc,za3,zbf,zba,zbg,za7,za6,zbe,zbh,zag,zaw,X.eval,zak,zah,List.map_cons,List.map_nil,List.getD_cons_zero,List.getD_cons_succ,List.set_cons_zero,List.set_cons_succ,zaz,zan,zaa,zaj,intArith,shift,za0,cond_true,cond_false,BEq.rfl,AV.cells,AV.ofCells,Nat.zero_add,Nat.add_zero,Nat.reduceAdd,Int.reduceLT,decide_false,tf,ft,lo,v1,zbk,za1,za5,za9,AV.ofCells,m1,hro,m2,hre,zbl,zbx,w3',a0,a3,r3,fh,r3b,r0,m3,k6,aa,f5,b1,b12,s0,k7,v2,Nat.mul_one,Nat.zero_add,t1,t2,t3,u1]
        exact ⟨_,_,rfl,I9,by rw [z1,z2,z3];rfl⟩
       | true =>
        rw [w2] at k7
        cases u3:(zcy g img == 0) with
        | false =>
         obtain ⟨I9,z1,z2,z3⟩:=fin true first last (by simp only [zcp,t1,t2,t3,w2,Bool.true_or,Bool.and_true,if_true]) (by simp only [zbz,u1,w2,u3,Bool.and_false,Bool.false_eq_true,if_false]) (by simp only [zbz,u1,w2,u3,Bool.and_false,Bool.false_eq_true,if_false])
         simp only [zap,zac,zaq,zat,zao,zal,zau,zay,zax,zad,zai,zab,zas,zae,zbd,zaf,zar,zav,zbn,za8,zbc,za3,zbf,zba,zbg,za7,za6,zbe,zbh,zag,zaw,X.eval,zak,zah,List.map_cons,List.map_nil,List.getD_cons_zero,List.getD_cons_succ,List.set_cons_zero,List.set_cons_succ,zaz,zan,zaa,zaj,intArith,shift,za0,cond_true,cond_false,BEq.rfl,AV.cells,AV.ofCells,Nat.zero_add,Nat.add_zero,Nat.reduceAdd,Int.reduceLT,decide_false,tf,lo,v1,zbk,za1,za5,za9,AV.ofCells,m1,hro,m2,hre,zbl,zbx,w3',a0,a3,r3,fh,r3b,r0,m3,k6,aa,f5,b1,b12,s0,k7,v2,Nat.mul_one,Nat.zero_add,t1,t2,t3,u1,u3]
         exact ⟨_,_,rfl,I9,by rw [z1,z2,z3];rfl⟩
        | true =>
         have b16:B.length=16:=hBl (by simpa using u3)
         cases f1:first with
         | false =>
          cases f2:last with
          | false =>
           obtain ⟨I9,z1,z2,z3⟩:=fin true (frB (zch s e) g B) (laB (zch s e) g B) (by simp only [zcp,t1,t2,t3,w2,Bool.true_or,Bool.and_true,if_true]) (by simp only [zbz,u1,w2,u3,f1,Bool.false_or,Bool.and_true,if_true]) (by simp only [zbz,u1,w2,u3,f2,Bool.false_or,Bool.and_true,if_true])
           simp only [zap,zac,zaq,zat,zao,zau,zay,zax,zad,zai,zab,zas,zae,zbd,zaf,zar,zav,zbn,za8,zbc,za3,zbf,zba,zbg,za7,za6,zbe,zbh,zag,zaw,X.eval,zak,zah,List.map_cons,List.map_nil,List.getD_cons_zero,List.getD_cons_succ,List.set_cons_zero,List.set_cons_succ,zaz,zan,zaa,zaj,intArith,shift,bound,za0,cond_true,cond_false,BEq.rfl,AV.cells,AV.ofCells,List.nil_append,List.cons_append,Nat.ble,Nat.zero_add,Nat.add_zero,Nat.reduceAdd,Nat.reduceSub,Bool.and_true,Int.reduceLT,decide_false,tf,zb5,zby,zbs,zbr,zbt,zco,zdj,zcw,zcn,zcq,zb1,zb2,zb6,zcc,zct,List.reverse_cons,List.reverse_nil,zea,zce,zd4,zd5,lo,v1,zbk,za1,za5,za9,AV.ofCells,m1,hro,m2,hre,zbl,zbx,w3',a0,a3,r3,fh,r3b,r0,m3,k6,aa,f5,b1,b12,s0,s1,k7,k8,lB,q1,q3,v2,Nat.mul_one,Nat.zero_add,List.drop_zero,Nat.sub_zero,b16,t1,t2,t3,u1,u3]
           exact ⟨_,_,rfl,I9,by rw [z1,z2,z3];rfl⟩
          | true =>
           obtain ⟨I9,z1,z2,z3⟩:=fin true (frB (zch s e) g B) true (by simp only [zcp,t1,t2,t3,w2,Bool.true_or,Bool.and_true,if_true]) (by simp only [zbz,u1,w2,u3,f1,Bool.false_or,Bool.and_true,if_true]) (by simp only [zbz,u1,w2,u3,f2,Bool.true_or,Bool.and_true,if_true])
           simp only [zap,zac,zaq,zat,zao,zau,zay,zax,zad,zai,zab,zas,zae,zbd,zaf,zar,zav,zbn,za8,zbc,za3,zbf,zba,zbg,za7,za6,zbe,zbh,zag,zaw,X.eval,zak,zah,List.map_cons,List.map_nil,List.getD_cons_zero,List.getD_cons_succ,List.set_cons_zero,List.set_cons_succ,zaz,zan,zaa,zaj,intArith,shift,bound,za0,cond_true,cond_false,BEq.rfl,AV.cells,AV.ofCells,List.nil_append,List.cons_append,Nat.ble,Nat.zero_add,Nat.add_zero,Nat.reduceAdd,Bool.and_true,Int.reduceLT,decide_false,tf,zb5,zby,zbs,zbr,zbt,zco,zdj,zcw,zcn,zcq,zb1,zb2,zb6,zcc,zct,List.reverse_cons,List.reverse_nil,zea,zce,zd4,zd5,zc6,zcu,zcv,zcf,zcg,zcm,lo,v1,zbk,za1,za5,za9,AV.ofCells,m1,hro,m2,hre,zbl,zbx,w3',a0,a3,r3,fh,r3b,r0,m3,k6,aa,f5,b1,b12,s0,s1,k7,k8,lB,q1,v2,Nat.mul_one,Nat.zero_add,List.drop_zero,Nat.sub_zero,b16,t1,t2,t3,u1,u3]
           exact ⟨_,_,rfl,I9,by rw [z1,z2,z3];rfl⟩
         | true =>
          cases f2:last with
          | false =>
           obtain ⟨I9,z1,z2,z3⟩:=fin true true (laB (zch s e) g B) (by simp only [zcp,t1,t2,t3,w2,Bool.true_or,Bool.and_true,if_true]) (by simp only [zbz,u1,w2,u3,f1,Bool.true_or,Bool.and_true,if_true]) (by simp only [zbz,u1,w2,u3,f2,Bool.false_or,Bool.and_true,if_true])
           simp only [zap,zac,zaq,zat,zao,zau,zay,zax,zad,zai,zab,zas,zae,zbd,zaf,zar,zav,zbn,za8,zbc,za3,zbf,zba,zbg,za7,za6,zbe,zbh,zag,zaw,X.eval,zak,zah,List.map_cons,List.map_nil,List.getD_cons_zero,List.getD_cons_succ,List.set_cons_zero,List.set_cons_succ,zaz,zan,zaa,zaj,intArith,shift,bound,za0,cond_true,cond_false,BEq.rfl,AV.cells,AV.ofCells,List.nil_append,List.cons_append,Nat.ble,Nat.zero_add,Nat.add_zero,Nat.reduceAdd,Nat.reduceSub,Bool.and_true,Int.reduceLT,decide_false,tf,zb5,zby,zbs,zbr,zbt,zco,zdj,zcw,zcn,zcq,zb1,zb2,zb6,zcc,zct,List.reverse_cons,List.reverse_nil,zea,zce,zd4,zd5,zc6,zcu,zcv,zcf,zcg,zcm,lo,v1,zbk,za1,za5,za9,AV.ofCells,m1,hro,m2,hre,zbl,zbx,w3',a0,a3,r3,fh,r3b,r0,m3,k6,aa,f5,b1,b12,s0,s1,k7,k8,lB,q3,v2,Nat.mul_one,Nat.zero_add,b16,t1,t2,t3,u1,u3]
           exact ⟨_,_,rfl,I9,by rw [z1,z2,z3];rfl⟩
          | true =>
           obtain ⟨I9,z1,z2,z3⟩:=fin true true true (by simp only [zcp,t1,t2,t3,w2,Bool.true_or,Bool.and_true,if_true]) (by simp only [zbz,u1,w2,u3,f1,Bool.true_or,Bool.and_true,if_true]) (by simp only [zbz,u1,w2,u3,f2,Bool.true_or,Bool.and_true,if_true])
           simp only [zap,zac,zaq,zat,zao,zau,zay,zax,zad,zai,zab,zas,zae,zbd,zaf,zar,zav,zbn,za8,zbc,za3,zbf,zba,zbg,za7,za6,zbe,zbh,zag,zaw,X.eval,zak,zah,List.map_cons,List.map_nil,List.getD_cons_zero,List.getD_cons_succ,List.set_cons_zero,List.set_cons_succ,zaz,zan,zaa,zaj,intArith,shift,za0,cond_true,cond_false,BEq.rfl,AV.cells,AV.ofCells,List.nil_append,List.cons_append,Nat.zero_add,Nat.add_zero,Nat.reduceAdd,Int.reduceLT,decide_false,tf,zb5,zby,zbs,zbr,zbt,zco,zcw,zb1,zb2,zb6,zcc,zct,List.reverse_cons,List.reverse_nil,zc6,zcu,zcv,zcf,zcg,zcm,lo,v1,zbk,za1,za5,za9,AV.ofCells,m1,hro,m2,hre,zbl,zbx,w3',a0,a3,r3,fh,r3b,r0,m3,k6,aa,f5,b1,b12,s0,k7,v2,Nat.mul_one,Nat.zero_add,t1,t2,t3,u1,u3]
           exact ⟨_,_,rfl,I9,by rw [z1,z2,z3];rfl⟩
  ·right
   have:k=O.length:=by omega
   subst this
   have v1:decide ((O.length:Int) < (O.length:Int))=false:=zfj (Nat.le_refl _)
   rw [List.take_length,← hpe] at I
   simp only [zap,zac,zck,zaq,zat,zal,zc2,zad,zai,zab,zae,zaf,zar,zav,zbc,za6,zag,X.eval,zak,zah,List.getD_cons_zero,List.getD_cons_succ,List.set_cons_zero,List.set_cons_succ,zaz,zan,zaa,zaj,intArith,shift,cond_true,cond_false,BEq.rfl,lo,v1]
   rw [List.take_length,← hpe]
   exact ⟨_,rfl,by simp,_,_,_,_,_,_,_,_,_,_,_,_,_,rfl,I⟩
 obtain ⟨r1,⟨q15,q16,q17,q18,q19,q20,q21,q22,q23,q24,q25,q14,H5,rfl,I5⟩,hr1⟩:=zdm L1 rfl
 have lw:∀ loc vals H,za2 loc (.c y :: vals) H (.len .sl (.val 0))=some (.c (.int .i64 (l.length:Int))):=fun _ _ _=>E.len
 generalize hPE:zhi l p c g F (zcy g img) B=PE at *
 have hs900:=K.hs
 have L0:∀ loc,zb3 ir72_k0 loc=[.c y,.junk,.junk,.c (.int .i64 (g:Int)),.junk,.junk,.junk,.junk,.c (.int .i64 (zcy g img)),.c (.ptr H1.next 0),.junk,.c (.bool PE.torn),.c (.bool PE.first),.c (.bool PE.last),.junk,.junk,.junk,.junk,.c (.int .i64 0),.junk,.junk,.junk,.junk,.junk,.junk,.junk] →
   ∃ r,zc5 (evCallO OS table N (d + 8)) N ir72_k0 ir72_l0 N loc H5=some r∧∃ q18 q23 q24,r=(.exit 2,[.c y,.junk,.junk,.c (.int .i64 (g:Int)),.junk,.junk,.junk,.junk,.c (.int .i64 (zcy g img)),.c (.ptr H1.next 0),.junk,.c (.bool PE.torn),.c (.bool PE.first),.c (.bool PE.last),.junk,.junk,.junk,.junk,q18,.junk,.junk,.junk,.junk,q23,q24,.junk],H5):=by
  intro loc hloc
  refine zde (n:=l.length) (fun k loc G=>G=H5∧loc=[.c y,.junk,.junk,.c (.int .i64 (g:Int)),.junk,.junk,.junk,.junk,.c (.int .i64 (zcy g img)),.c (.ptr H1.next 0),.junk,.c (.bool PE.torn),.c (.bool PE.first),.c (.bool PE.last),.junk,.junk,.junk,.junk,.c (.int .i64 (k:Int)),.junk,.junk,.junk,.junk,.junk,.junk,.junk]) _ ?_ ⟨rfl,hloc⟩ (by omega)
  rintro k loc G hk ⟨rfl,rfl⟩
  unfold ir72_l0
  by_cases hlt:k < l.length
  ·left
   have v1:=ze1 hlt
   have v2:=zeb (i:=k) (by omega)
   have m1:Nat.blt k l.length=true:=zdp hlt
   obtain ⟨b,c',dc,rc,hy,hb,hre,_,_⟩:=zi1 Ec I5.e hlt
   have st0:=(evN hre).st
   have v3:((zcb l k).st == 0)=false:=by simpa using hfin k hlt
   subst hy
   simp only [zap,zac,zaq,zat,zao,zal,zau,zay,zax,zad,zai,zab,zas,zae,zaf,zar,zav,zbc,za6,zbe,zag,X.eval,zak,zah,List.getD_cons_zero,List.getD_cons_succ,List.set_cons_zero,List.set_cons_succ,zaz,zan,zaa,zaj,intArith,shift,za0,cond_true,cond_false,BEq.rfl,AV.ofCells,List.nil_append,List.cons_append,Nat.zero_add,Nat.reduceAdd,Int.reduceLT,decide_false,ft,zb5,zby,zbs,zbr,zbt,zco,zdj,zcw,zcn,zcq,zb1,zb2,zb6,zcc,zct,List.reverse_cons,List.reverse_nil,zce,zcu,zcv,zcf,zcg,zcm,zsx,lw,v1,zbk,za5,za9,AV.ofCells,m1,st0,v3,v2]
   exact ⟨hlt,_,_,rfl,rfl,rfl⟩
  ·right
   have:k=l.length:=by omega
   subst this
   have v1:decide ((l.length:Int) < (l.length:Int))=false:=zfj (Nat.le_refl _)
   simp only [zap,zac,zck,zaq,zat,zal,zc2,zad,zai,zab,zae,zaf,zar,zav,zbc,za6,zag,X.eval,zak,zah,List.getD_cons_zero,List.getD_cons_succ,List.set_cons_zero,List.set_cons_succ,zaz,zan,zaa,zaj,intArith,shift,cond_true,cond_false,BEq.rfl,lw,v1]
   exact ⟨_,rfl,by simp,_,_,_,rfl⟩
 obtain ⟨r0,⟨p18,p23,p24,rfl⟩,hr0⟩:=zdm L0 rfl
 have hres:zf3 l p c g img=if zcy g img=10 then PE.torn else zcy g img == 0 && (PE.first && PE.last):=by
  unfold zf3
  rw [if_neg c11,hF,hB,hPE]
 rw [hres,zbp (F:=ir72) rfl rfl rfl]
 unfold ir72
 rw [zbv]
 rcases hcd with hcd | hcd | hcd
 ·exact absurd hcd c11
 ·have z1:(zcy g img == 10)=false:=by rw [hcd];rfl
  have z2:(zcy g img == 0)=true:=by rw [hcd];rfl
  rw [if_neg (by rw [hcd];decide)]
  simp only [zbm,zap,zac,zaq,zat,zal,zau,zci,zax,zad,zai,zab,zae,zaf,zar,zav,zbn,zem,zba,zbg,za7,za6,zbh,zag,zaw,X.eval,zak,zah,List.map_cons,List.map_nil,List.getD_cons_zero,List.getD_cons_succ,List.getD_nil,List.set_cons_zero,List.set_cons_succ,zaz,zan,zaa,zaj,intArith,shift,cond_true,cond_false,BEq.rfl,AV.cells,XV.av,Int.reduceLT,decide_false,fc,fo',zem,zg7,List.getElem?_cons_zero,List.getElem?_cons_succ,v11,f1,zbl,lx,w2',f4]
  rw [hr1 _ rfl]
  simp only [zap,zac,zaq,zau,zbw,zci,zad,zai,zab,zae,zaf,zar,X.eval,zah,List.set_cons_zero,List.set_cons_succ,cond_true,BEq.rfl]
  rw [hr0 _ rfl]
  cases t1:PE.first<;>cases t2:PE.last<;>simp only [zap,zac,zaq,zat,zal,zbw,zax,zbq,zad,zai,zab,zas,zae,zbd,zaf,zar,zav,za8,zbb,zbi,za6,zbe,zag,X.eval,zak,zah,List.getD_cons_zero,List.getD_cons_succ,List.set_cons_zero,List.set_cons_succ,zaz,zan,zaa,zaj,intArith,shift,cond_true,cond_false,BEq.rfl,Bool.and_true,Bool.and_false,Int.reduceLT,decide_false,ft,z1,z2,zbu,RV.eval]<;>exact ⟨H5,rfl,(xc.trans xo).trans I5.e⟩
 ·have z1:(zcy g img == 10)=true:=by rw [hcd];rfl
  rw [if_pos hcd]
  simp only [zbm,zap,zac,zaq,zat,zal,zau,zci,zax,zad,zai,zab,zae,zaf,zar,zav,zbn,zem,zba,zbg,za7,za6,zbh,zag,zaw,X.eval,zak,zah,List.map_cons,List.map_nil,List.getD_cons_zero,List.getD_cons_succ,List.getD_nil,List.set_cons_zero,List.set_cons_succ,zaz,zan,zaa,zaj,intArith,shift,cond_true,cond_false,BEq.rfl,AV.cells,XV.av,Int.reduceLT,decide_false,fc,fo',zem,zg7,List.getElem?_cons_zero,List.getElem?_cons_succ,v11,f1,zbl,lx,w2',f4]
  rw [hr1 _ rfl]
  simp only [zap,zac,zaq,zau,zbw,zci,zad,zai,zab,zae,zaf,zar,X.eval,zah,List.set_cons_zero,List.set_cons_succ,cond_true,BEq.rfl]
  rw [hr0 _ rfl]
  simp only [zap,zac,zca,zaq,zat,zao,zbw,zbq,zad,zai,zab,zae,zaf,zar,zav,zbb,zbi,za6,zag,X.eval,zak,zah,List.getD_cons_zero,List.getD_cons_succ,List.set_cons_zero,List.set_cons_succ,zaz,zan,zaa,zaj,intArith,shift,cond_true,cond_false,BEq.rfl,Int.reduceLT,decide_false,z1,zbu,RV.eval]
  exact ⟨H5,rfl,(xc.trans xo).trans I5.e⟩
end
end Lav
set_option maxRecDepth 100000
namespace Lav
open Go (IntKind)
section
variable {N d:Nat} {h G G':Heap} {y:CV} {l:List Ev}
def Strs (h:Heap) (v:CV) (im:List (List (BitVec 8))):Prop:=(v = .nils∧im=[])∨∃ b o c,v = .sl b o im.length c∧b < h.next∧∀ g,g < im.length→h.read b (o + g) 1=some [.str (strOf (im.getD g []))]
theorem Strs.ext {v:CV} {im:List (List (BitVec 8))} (S:Strs h v im) (e:Ext h G):Strs G v im:=by
 rcases S with h1 | ⟨b,o,c,rfl,hb,hr⟩
 ·exact .inl h1
 ·exact .inr ⟨b,o,c,rfl,Nat.lt_of_lt_of_le hb e.1,fun g hg=>(e.read hb).trans (hr g hg)⟩
theorem zwb {p c:Nat} {v:CV} {im:List (List (BitVec 8))} (hnew:∀ d',6≤d'→zk1 N d' p c) (hp:0 < p) (hp48:p≤48) (E:Evs h y l) (K:HistOK l p c) (hfin:∀ i,i < l.length→(zcb l i).st≠0) (S:Strs h v im) (hl:im.length=p)
  (hi:∀ g,g < p→(im.getD g []).length=24∧zf3 l p c g (im.getD g [])=true) (hN:1010≤N) (hd:9≤d) :
  ∃ h',evCallO OS table N (d + 1) 46 [.c y,.c (.int .i64 (p:Int)),.c (.int .i64 (c:Int)),.c v] h=some (.c (.int .i64 0),h')∧Ext h h':=by
 obtain ⟨d,rfl⟩ : ∃ k,d=k + 9:=⟨d - 9,by omega⟩
 obtain ⟨Hc,fc,xc⟩:=zk2 (N:=N) (d:=d + 8) (hnew _ (by omega)) hp E K.hs K.al K.may K.ok hN (by omega)
 rcases S with ⟨_,rfl⟩ | ⟨b,o,cc,rfl,hb,hr⟩
 ·simp at hl;omega
 rw [hl] at hr ⊢
 have v0:((0:Int) == 0)=true:=rfl
 have vp:((p:Int) == (p:Int))=true:=by simp
 have L:∀ loc,zb3 ir46_k0 loc=[.c y,.c (.int .i64 (p:Int)),.c (.int .i64 (c:Int)),.c (.sl b o p cc),.junk,.c (.int .i64 0),.junk,.junk,.junk] →
   ∃ r,zc5 (evCallO OS table N (d + 9)) N ir46_k0 ir46_l0 N loc Hc=some r∧∃ a0 a1 a2 a3 a4 l' G,r=(.exit 0,a0 :: a1 :: a2 :: a3 :: a4 :: l',G)∧Ext Hc G:=by
  intro loc hloc
  refine zde (n:=p) (fun k loc G=>Ext Hc G∧loc=[.c y,.c (.int .i64 (p:Int)),.c (.int .i64 (c:Int)),.c (.sl b o p cc),.junk,.c (.int .i64 (k:Int)),.junk,.junk,.junk]) _ ?_ ⟨Ext.refl _,hloc⟩ (by omega)
  rintro k loc G hk ⟨xg,rfl⟩
  unfold ir46_l0
  by_cases hlt:k < p
  ·left
   have v1:=ze1 hlt
   have v2:=zeb (i:=k) (by omega)
   have m1:Nat.blt k p=true:=zdp hlt
   have r1:G.read b (o + k) 1=some [.str (strOf (im.getD k []))]:=((xc.trans xg).read hb).trans (hr k hlt)
   obtain ⟨h24,hpf⟩:=hi k hlt
   obtain ⟨G1,f1,x1⟩:=zx2 (N:=N) (d:=d + 8) (g:=k) hnew hp hlt hp48 (E.ext (xc.trans xg)) K hfin h24 hN (by omega)
   rw [hpf] at f1
   simp only [zap,zac,zaq,zat,zao,zal,zau,zay,zax,zad,zai,zab,zae,zaf,zar,zav,zcd,za3,zbf,zba,za7,za6,zcx,zag,X.eval,zak,zah,List.map_cons,List.map_nil,List.getD_cons_zero,List.getD_cons_succ,List.set_cons_zero,List.set_cons_succ,zaz,zcj,zan,zaa,zaj,intArith,shift,za0,cond_true,cond_false,BEq.rfl,AV.ofCells,Bool.not_true,Int.reduceLT,decide_false,v1,zbk,za9,AV.ofCells,m1,r1,f1,v2,Nat.mul_one]
   exact ⟨hlt,_,_,rfl,xg.trans x1,rfl⟩
  ·right
   have:k=p:=by omega
   subst this
   have v1:decide ((k:Int) < (k:Int))=false:=zfj (Nat.le_refl _)
   simp only [zap,zac,zck,zaq,zat,zal,zc2,zad,zai,zab,zae,zaf,zar,zav,za6,zag,X.eval,zak,zah,List.getD_cons_zero,List.getD_cons_succ,List.set_cons_zero,List.set_cons_succ,zaz,zan,zaa,zaj,intArith,shift,cond_true,cond_false,BEq.rfl,v1]
   exact ⟨_,rfl,by simp,_,_,_,_,_,_,_,rfl,xg⟩
 obtain ⟨r0,⟨a0,a1,a2,a3,a4,l',H5,rfl,x5⟩,hr0⟩:=zdm L rfl
 rw [zbp (F:=ir46) rfl rfl rfl]
 unfold ir46
 rw [zbv]
 simp only [zbm,zap,zac,zaq,zat,zal,zau,zci,zax,zad,zai,zab,zas,zae,zaf,zar,zav,za8,zbc,zba,za7,za6,zbe,zag,X.eval,zak,zah,List.map_cons,List.map_nil,List.getD_cons_zero,List.getD_cons_succ,List.getD_nil,List.set_cons_zero,List.set_cons_succ,zaz,zan,zaa,zaj,intArith,shift,cond_true,cond_false,BEq.rfl,Int.reduceNeg,Bool.not_true,Int.reduceLT,decide_false,fc,zd1,zb0]
 rw [hr0 _ rfl]
 simp only [zap,zac,zaq,zbw,zbq,zad,zai,zab,zae,zaf,zar,zbb,zbi,X.eval,zah,List.getD_cons_zero,List.getD_cons_succ,List.set_cons_zero,List.set_cons_succ,cond_true,BEq.rfl,zbu,RV.eval]
 exact ⟨H5,rfl,xc.trans x5⟩
structure Fra where
 st:Int
 pg:Int
 pn:Int
 sh:Int
 dt:Bool
def zqf (f:Fra):List CV:=[zb9 f.st,zb9 f.pg,zb9 f.pn,zb9 f.sh,.bool f.dt]
instance:Inhabited Fra:=⟨⟨0,0,0,0,false⟩⟩
def ziz (fs:List Fra) (i:Nat):Fra:=fs.getD i default
def Fras (h:Heap) (v:CV) (fs:List Fra):Prop:=(v = .nils∧fs=[])∨∃ b c,v = .sl b 0 fs.length c∧b < h.next∧∀ i,i < fs.length→h.read b (i * 5) 5=some (zqf (ziz fs i))
def Imgs (h:Heap) (v:CV) (im:List (List (BitVec 8))):Prop:=(v = .nils∧im=[])∨∃ b c,v = .sl b 0 im.length c∧b < h.next∧∀ g,g < im.length→∃ w,h.read b g 1=some [w]∧Bytes h w (im.getD g [])∧∃ i,w = .sl i 0 (im.getD g []).length (.dy 1)
structure PV where
 l:List Ev
 im:List (List (BitVec 8))
 fs:List Fra
 cap:Int
 works:Bool
 down:Bool
 now:Int
 pages:Nat
 frames:Int
 shards:Int
 clients:Nat
 full:List Bool
 least:Int
 asked:Int
structure Sees (N:Nat) (h:Heap) (p:Nat) (v:PV):Prop where
 box:∃ q fc,h.get p=some (.cells [.ptr q 0,zb9 v.pages,zb9 v.frames,zb9 v.shards,zb9 v.clients,fc,zb9 v.least,zb9 v.asked]) ∧
  (∃ fb c,fc = .sl fb 0 v.full.length c) ∧
  (∀ d,60≤d→∀ G,Ext h G→∃ y G',evCallO OS table N d 12 [.c (.ptr q 0)] G=some (.c y,G')∧Evs G' y v.l∧Ext G G') ∧
  (∀ d,60≤d→∀ G,Ext h G→∃ y G',evCallO OS table N d 15 [.c (.ptr q 0)] G=some (.c y,G')∧Imgs G' y v.im∧Ext G G') ∧
  (∀ d,60≤d→∀ G,Ext h G→∃ y G',evCallO OS table N d 31 [.c (.ptr q 0)] G=some (.c y,G')∧Fras G' y v.fs∧Ext G G') ∧
  (∀ d,60≤d→∀ G,Ext h G→∃ G',evCallO OS table N d 18 [.c (.ptr q 0)] G=some (.c (.int .i64 v.cap),G')∧Ext G G') ∧
  (∀ d,60≤d→∀ G,Ext h G→∃ G',evCallO OS table N d 40 [.c (.ptr q 0)] G=some (.c (.bool v.works),G')∧Ext G G') ∧
  (∀ d,60≤d→∀ G,Ext h G→∃ G',evCallO OS table N d 38 [.c (.ptr q 0)] G=some (.c (.bool v.down),G')∧Ext G G') ∧
  (∀ d,60≤d→∀ G,Ext h G→∃ G',evCallO OS table N d 37 [.c (.ptr q 0)] G=some (.c (.int .i64 v.now),G')∧Ext G G')
 lt:p < h.next
variable {p:Nat} {v:PV}
theorem Sees.ext (S:Sees N h p v) (e:Ext h G):Sees N G p v:=by
 obtain ⟨⟨q,fc,b1,b2,b3,b4,b5,b6,b7,b8,b9⟩,hl⟩:=S
 exact ⟨⟨q,fc,e.at_ b1 hl,b2,fun d k G' x=>b3 d k G' (e.trans x),fun d k G' x=>b4 d k G' (e.trans x),fun d k G' x=>b5 d k G' (e.trans x),fun d k G' x=>b6 d k G' (e.trans x),fun d k G' x=>b7 d k G' (e.trans x),fun d k G' x=>b8 d k G' (e.trans x),fun d k G' x=>b9 d k G' (e.trans x)⟩,Nat.lt_of_lt_of_le hl e.1⟩
structure GoodH (N:Nat) (v:PV):Prop where
 new:∀ d',6≤d'→zk1 N d' v.pages v.clients
 p0:0 < v.pages
 p48:v.pages≤48
 K:HistOK v.l v.pages v.clients
theorem zwc (S:Sees N h p v) (g:GoodH N v) (hN:1010≤N) (hd:60≤d):∃ h',evCallO OS table N (d + 1) 26 [.c (.ptr p 0)] h=some (.c (.bool true),h')∧Ext h h':=by
 obtain ⟨q,fc,b1,b2,b3,b4,b5,b6,b7,b8,b9⟩:=S.box
 obtain ⟨y,H1,f1,E,x1⟩:=b3 _ (by omega) h (Ext.refl h)
 obtain ⟨d,rfl⟩ : ∃ k,d=k + 8:=⟨d - 8,by omega⟩
 obtain ⟨H2,f2,x2⟩:=zk2 (N:=N) (d:=d + 7) (g.new _ (by omega)) g.p0 E g.K.hs g.K.al g.K.may g.K.ok hN (by omega)
 have lt:=S.lt
 have r0:h.read p 0 1=some [.ptr q 0]:=zam b1 rfl
 have r1:h.read p 1 1=some [.int .i64 (v.pages:Int)]:=zam b1 rfl
 have r4:h.read p 4 1=some [.int .i64 (v.clients:Int)]:=zam b1 rfl
 have s1:H1.read p 1 1=some [.int .i64 (v.pages:Int)]:=(x1.read lt).trans r1
 have s4:H1.read p 4 1=some [.int .i64 (v.clients:Int)]:=(x1.read lt).trans r4
 have t1:H2.read p 1 1=some [.int .i64 (v.pages:Int)]:=(x2.read (Nat.lt_of_lt_of_le lt x1.1)).trans s1
 have t4:H2.read p 4 1=some [.int .i64 (v.clients:Int)]:=(x2.read (Nat.lt_of_lt_of_le lt x1.1)).trans s4
 rw [zbp (F:=ir26) rfl rfl rfl]
 unfold ir26
 rw [zbv]
 simp only [zbm,zap,zac,zaq,zbq,zad,zai,zab,zae,zaf,zar,za7,zbb,zbi,za6,X.eval,zak,zah,List.map_cons,List.map_nil,List.getD_cons_zero,List.getD_cons_succ,List.getD_nil,List.set_cons_zero,List.set_cons_succ,zaz,zan,zaa,zaj,intArith,shift,cond_true,cond_false,BEq.rfl,AV.ofCells,List.nil_append,List.cons_append,Nat.zero_add,Nat.add_zero,Nat.reduceAdd,Nat.reduceBEq,Bool.and_true,Int.reduceLT,decide_false,zb5,zby,zbs,zbr,zbt,zd2,zco,zdj,zcn,zgk,zb1,zb2,zga,zfv,ze9,zex,zfw,zfx,zfy,zfa,zgb,zfz,zgc,zb6,zcc,zct,List.reverse_cons,List.reverse_nil,zce,zgy,zdf,za5,za9,AV.ofCells,r0,r1,r4,s1,s4,f1,f2,zbu,RV.eval]
 exact ⟨H2,rfl,x1.trans x2⟩
end
end Lav
set_option maxRecDepth 100000
namespace Lav
open Go (IntKind)
section
variable {N d:Nat} {h G G':Heap} {p:Nat} {v:PV}
def zqg (im:List (List (BitVec 8))):List CV:=im.map fun b=>.str (strOf b)
theorem zk3 {h H:Heap} {y:CV} {im:List (List (BitVec 8))} (I:Imgs h y im) {loc vals:List AV}:za2 loc (.c y :: vals) H (.len .sl (.val 0))=some (.c (.int .i64 (im.length:Int))):=by
 rcases I with ⟨rfl,rfl⟩ | ⟨b,c,rfl,_⟩<;>rfl
theorem Imgs.at_ {h:Heap} {y:CV} {im:List (List (BitVec 8))} (I:Imgs h y im) {g:Nat} (hg:g < im.length):∃ b c,y = .sl b 0 im.length c∧b < h.next∧∃ w,h.read b g 1=some [w]∧Bytes h w (im.getD g [])∧∃ i,w = .sl i 0 (im.getD g []).length (.dy 1):=by
 rcases I with ⟨_,rfl⟩ | ⟨b,c,e,hb,hr⟩
 ·simp at hg
 ·obtain ⟨w,h1,h2⟩:=hr g hg
  exact ⟨b,c,e,hb,w,h1,h2⟩
theorem zrq (S:Sees N h p v) (g:GoodH N v) (hfin:∀ i,i < v.l.length→(zcb v.l i).st≠0) (hl:v.im.length=v.pages) (hi:∀ k,k < v.pages→(v.im.getD k []).length=24∧zf3 v.l v.pages v.clients k (v.im.getD k [])=true) (hN:1010≤N) (hd:60≤d) :
  ∃ h',evCallO OS table N (d + 1) 25 [.c (.ptr p 0)] h=some (.c (.bool true),h')∧Ext h h':=by
 obtain ⟨q,fc,b1,b2,b3,b4,b5,b6,b7,b8,b9⟩:=S.box
 obtain ⟨y,H1,f1,I,x1⟩:=b4 _ (by omega) h (Ext.refl h)
 have p48:=g.p48
 have lt:=S.lt
 have r0:h.read p 0 1=some [.ptr q 0]:=zam b1 rfl
 have ly:∀ loc vals H,za2 loc (.c y :: vals) H (.len .sl (.val 0))=some (.c (.int .i64 (v.im.length:Int))):=fun _ _ _=>zk3 I
 have L:∀ loc,zb3 ir25_k0 loc=[.c (.ptr p 0),.junk,.c .nils,.c y,.c (.int .i64 0),.junk] →
   ∃ r,zc5 (evCallO OS table N d) N ir25_k0 ir25_l0 N loc H1=some r∧∃ a1 x a3 a4 a5 G,r=(.exit 0,[.c (.ptr p 0),a1,.c x,a3,a4,a5],G)∧Mine 1 H1 G x v.im.length (zqg v.im)∧Ext H1 G:=by
  intro loc hloc
  refine zde (n:=v.im.length) (fun k loc G=>∃ x,Mine 1 H1 G x k (zqg (v.im.take k))∧Ext H1 G∧loc=[.c (.ptr p 0),.junk,.c x,.c y,.c (.int .i64 (k:Int)),.junk]) _ ?_ ⟨.nils,Mine.nil,Ext.refl _,hloc⟩ (by omega)
  rintro k loc G hk ⟨x,m,xg,rfl⟩
  unfold ir25_l0
  by_cases hlt:k < v.im.length
  ·left
   have v1:=ze1 hlt
   have v2:=zeb (i:=k) (by omega)
   obtain ⟨b,c,hy,hb,w,hw,hB,-⟩:=I.at_ hlt
   have m1:Nat.blt k v.im.length=true:=zdp hlt
   have rw_:G.read b k 1=some [w]:=(xg.read hb).trans hw
   have bs:∀ loc vals,za2 loc (.c w :: vals) G (.b2s (.val 0))=some (.c (.str (strOf (v.im.getD k [])))):=fun _ _=>(hB.ext xg).b2s
   have m':=Mine.new m (.cells [.str (strOf (v.im.getD k []))])
   obtain ⟨G1,a1,m2,n1,k1⟩:=zjg (m:=0) m' (Nat.le_trans xg.1 (Nat.le_succ _)) (zg6 (n:=1) (c:=.ex 1) zb8 rfl) rfl (by omega)
   have htk:zqg (v.im.take k)++[.str (strOf (v.im.getD k []))]=zqg (v.im.take (k + 1)):=by
    rw [List.take_succ_eq_append_getElem hlt,List.getD_eq_getElem?_getD,List.getElem?_eq_getElem hlt]
    show _=List.map _ (_++_)
    rw [List.map_append];rfl
   rw [htk] at m2
   have xg1:Ext H1 G1:=⟨by have:=xg.1;simp [Heap.new] at n1;omega,fun i hi'=>by
    have h1:=Nat.lt_of_lt_of_le hi' xg.1
    rw [k1 i (Nat.lt_succ_of_lt h1) (fun hbk=>by have:=m'.young i hbk;omega),zdd h1]
    exact xg.2 i hi'⟩
   subst hy
   simp only [zap,zac,zaq,zat,zao,zau,zay,zax,zad,zai,zab,zae,zaf,zar,zav,zep,zbc,za3,zbf,zlj,zif,za6,zbh,zag,zaw,X.eval,zak,zah,List.getD_cons_zero,List.getD_cons_succ,List.set_cons_zero,List.set_cons_succ,zaz,zan,zaa,zaj,intArith,shift,za0,cond_true,cond_false,BEq.rfl,zb4,zb7,AV.cells,AV.ofCells,List.length_cons,List.length_nil,zeros,zdo,setMany,List.nil_append,List.cons_append,Nat.ble,Nat.zero_add,Int.reduceLT,decide_false,ly,v1,zbk,za9,AV.ofCells,m1,rw_,bs,a1,v2,Nat.mul_one]
   exact ⟨hlt,_,_,rfl,_,m2,xg1,rfl⟩
  ·right
   have:k=v.im.length:=by omega
   subst this
   have v1:decide ((v.im.length:Int) < (v.im.length:Int))=false:=zfj (Nat.le_refl _)
   rw [List.take_length] at m
   simp only [zap,zac,zck,zaq,zat,zal,zc2,zad,zai,zab,zae,zaf,zar,zav,zbc,za6,zag,X.eval,zak,zah,List.getD_cons_zero,List.getD_cons_succ,List.set_cons_zero,List.set_cons_succ,zaz,zan,zaa,zaj,intArith,shift,cond_true,cond_false,BEq.rfl,ly,v1]
   exact ⟨_,rfl,by simp,_,_,_,_,_,_,rfl,m,xg⟩
 obtain ⟨r,⟨a1,x,a3,a4,a5,H2,rfl,m,x2⟩,hr⟩:=zdm L rfl
 obtain ⟨y2,H3,f3,E,x3⟩:=b3 _ (by omega) H2 (x1.trans x2)
 have S3:Strs H3 x v.im:=by
  obtain ⟨hlen,⟨rfl,h0⟩ | ⟨i,rfl,hg,_,hi'⟩⟩:=m
  ·exact .inl ⟨rfl,List.eq_nil_of_length_eq_zero h0⟩
  ·refine (show Strs H2 (.sl i 0 v.im.length (.dy 1)) v.im from .inr ⟨i,0,.dy 1,rfl,hi',fun k hk=>?_⟩).ext x3
   rw [Nat.zero_add]
   refine zam hg ?_
   simp [zqg,List.getD_eq_getElem?_getD,hk]
 obtain ⟨d,rfl⟩ : ∃ k,d=k + 12:=⟨d - 12,by omega⟩
 obtain ⟨H4,f4,x4⟩:=zwb (N:=N) (d:=d + 11) g.new g.p0 g.p48 E g.K hfin S3 hl hi hN (by omega)
 have l2:p < H2.next:=Nat.lt_of_lt_of_le lt (x1.trans x2).1
 have l3:p < H3.next:=Nat.lt_of_lt_of_le l2 x3.1
 have s0:H2.read p 0 1=some [.ptr q 0]:=((x1.trans x2).read lt).trans r0
 have s1:H2.read p 1 1=some [.int .i64 (v.pages:Int)]:=((x1.trans x2).read lt).trans (zam b1 rfl)
 have s4:H2.read p 4 1=some [.int .i64 (v.clients:Int)]:=((x1.trans x2).read lt).trans (zam b1 rfl)
 have t1:H3.read p 1 1=some [.int .i64 (v.pages:Int)]:=(x3.read l2).trans s1
 have t4:H3.read p 4 1=some [.int .i64 (v.clients:Int)]:=(x3.read l2).trans s4
 have u1:H4.read p 1 1=some [.int .i64 (v.pages:Int)]:=(x4.read l3).trans t1
 have u4:H4.read p 4 1=some [.int .i64 (v.clients:Int)]:=(x4.read l3).trans t4
 rw [zbp (F:=ir25) rfl rfl rfl]
 unfold ir25
 rw [zbv]
 simp only [zbm,zap,zac,zaq,zau,zci,zad,zai,zab,zae,zaf,zar,za3,zba,za7,zag,X.eval,zak,zah,List.map_cons,List.map_nil,List.getD_cons_zero,List.getD_cons_succ,List.getD_nil,List.set_cons_zero,List.set_cons_succ,AV.ofCells,Nat.add_zero,zdn,zdf,za1,za5,za9,AV.ofCells,r0,f1]
 rw [hr _ rfl]
 simp only [zap,zac,zbw,zbq,zab,za7,zbb,zbi,za6,X.eval,zak,zah,List.map_cons,List.map_nil,List.getD_cons_zero,List.getD_cons_succ,List.set_cons_zero,List.set_cons_succ,zaz,zan,zaa,zaj,intArith,shift,cond_true,cond_false,BEq.rfl,AV.ofCells,List.nil_append,List.cons_append,Nat.zero_add,Nat.add_zero,Nat.reduceAdd,Nat.reduceBEq,Bool.and_true,Int.reduceLT,decide_false,zb5,zby,zbs,zbr,zbt,zd2,zco,zdj,zcn,zgk,zb1,zb2,zga,zfv,ze9,zex,zfw,zfx,zfy,zfa,zgb,zfz,zgc,zb6,zcc,zct,List.reverse_cons,List.reverse_nil,zce,zgy,zdf,za5,za9,AV.ofCells,s0,s1,s4,f3,t1,t4,f4,zbu,RV.eval]
 exact ⟨H4,rfl,((x1.trans x2).trans x3).trans x4⟩
theorem zuj (S:Sees N h p v) (hs:v.l.length≤900) (hno:∀ i,i < v.l.length→(zcb v.l i).rs.code≠8) (hN:1010≤N) (hd:60≤d) :
  ∃ h',evCallO OS table N (d + 1) 36 [.c (.ptr p 0)] h=some (.c (.bool true),h')∧Ext h h':=by
 obtain ⟨q,fc,b1,b2,b3,b4,b5,b6,b7,b8,b9⟩:=S.box
 obtain ⟨y,H1,f1,E,x1⟩:=b3 _ (by omega) h (Ext.refl h)
 have lt:=S.lt
 have r0:h.read p 0 1=some [.ptr q 0]:=zam b1 rfl
 have ly:∀ loc vals H,za2 loc (.c y :: vals) H (.len .sl (.val 0))=some (.c (.int .i64 (v.l.length:Int))):=fun _ _ _=>E.len
 have L:∀ loc,zb3 ir36_k1 loc=[.c (.ptr p 0),.junk,.c y,.c (.int .i64 0),.junk,.junk,.junk,.junk,.junk,.junk] →
   ∃ r,zc5 (evCallO OS table N d) N ir36_k1 ir36_l1 N loc H1=some r∧∃ a1 a2 l',r=(.exit 0,a1 :: a2 :: l',H1):=by
  intro loc hloc
  refine zde (n:=v.l.length) (fun k loc G=>G=H1∧loc=[.c (.ptr p 0),.junk,.c y,.c (.int .i64 (k:Int)),.junk,.junk,.junk,.junk,.junk,.junk]) _ ?_ ⟨rfl,hloc⟩ (by omega)
  rintro k loc G hk ⟨rfl,rfl⟩
  unfold ir36_l1
  by_cases hlt:k < v.l.length
  ·left
   have v1:=ze1 hlt
   have v2:=zeb (i:=k) (by omega)
   obtain ⟨b,c,dc,rc,hy,hb,hre,_,_⟩:=zi1 E (Ext.refl G) hlt
   have m1:Nat.blt k v.l.length=true:=zdp hlt
   have c7:=(evN hre).code
   have v3:((zcb v.l k).rs.code == 8)=false:=by simpa using hno k hlt
   subst hy
   simp only [zap,zac,zck,zaq,zat,zao,zau,zbw,zax,zc2,zad,zai,zab,zas,zae,zbd,zaf,zar,zav,za8,zbc,za3,zbf,za6,zbe,zag,X.eval,zak,zah,List.getD_cons_zero,List.getD_cons_succ,List.set_cons_zero,List.set_cons_succ,zaz,zan,zaa,zaj,intArith,shift,za0,cond_true,cond_false,BEq.rfl,AV.ofCells,Nat.zero_add,Nat.add_zero,Bool.not_false,Int.reduceLT,decide_false,tf,ly,v1,zbk,za1,za5,za9,AV.ofCells,m1,c7,zd1,v3,v2]
   exact ⟨hlt,_,_,rfl,rfl,rfl⟩
  ·right
   have:k=v.l.length:=by omega
   subst this
   have v1:decide ((v.l.length:Int) < (v.l.length:Int))=false:=zfj (Nat.le_refl _)
   simp only [zap,zac,zck,zaq,zat,zal,zc2,zad,zai,zab,zae,zaf,zar,zav,zbc,za6,zag,X.eval,zak,zah,List.getD_cons_zero,List.getD_cons_succ,List.set_cons_zero,List.set_cons_succ,zaz,zan,zaa,zaj,intArith,shift,cond_true,cond_false,BEq.rfl,ly,v1]
   exact ⟨_,rfl,by simp,_,_,_,rfl⟩
 obtain ⟨r,⟨a1,a2,l',rfl⟩,hr⟩:=zdm L rfl
 rw [zbp (F:=ir36) rfl rfl rfl]
 unfold ir36
 rw [zbv]
 simp only [zbm,zap,zac,zaq,zau,zci,zad,zai,zab,zae,zaf,zar,za3,zba,za7,zag,X.eval,zak,zah,List.map_cons,List.map_nil,List.getD_cons_zero,List.getD_cons_succ,List.getD_nil,List.set_cons_zero,List.set_cons_succ,AV.ofCells,Nat.add_zero,zdn,zdf,za1,za5,za9,AV.ofCells,r0,f1]
 rw [hr _ rfl]
 simp only [zap,zac,zaq,zbw,zbq,zad,zai,zab,zae,zaf,zar,zbb,zbi,X.eval,zah,List.getD_cons_zero,List.getD_cons_succ,List.set_cons_zero,List.set_cons_succ,cond_true,BEq.rfl,zbu,RV.eval]
 exact ⟨H1,rfl,x1⟩
theorem zwd (S:Sees N h p v) (g:GoodH N v) (hN:1010≤N) (hd:60≤d):∃ x z h',evCallO OS table N (d + 1) 39 [.c (.ptr p 0)] h=some (.tup [.agg x,.c (.bool true)],h')∧SR h' x z (zod v.l v.pages v.clients)∧Ext h h'∧∀ j∈z.own,h.next≤j:=by
 have e0:=(Ext.refl h).new (.cells [.nils,.nils,.nils])
 generalize hg0:h.new (.cells [.nils,.nils,.nils])=H0 at e0
 have g0:H0.get h.next=some (.cells [.nils,.nils,.nils]):=by rw [← hg0];exact zb8
 have n0:H0.next=h.next + 1:=by rw [← hg0];rfl
 obtain ⟨q,fc,b1,b2,b3,b4,b5,b6,b7,b8,b9⟩:=S.box
 obtain ⟨y,H1,f1,E,x1⟩:=b3 _ (by omega) H0 e0
 obtain ⟨d,rfl⟩ : ∃ k,d=k + 10:=⟨d - 10,by omega⟩
 obtain ⟨x,z,H2,f2,S2,x2,own⟩:=zv3 (N:=N) (d:=d + 8) (g.new _ (by omega)) g.p0 E g.K hN (by omega) (g.new _ (by omega))
 have lt:=S.lt
 have lx:=S2.len3
 have r0:H0.read p 0 1=some [.ptr q 0]:=(e0.read lt).trans (zam b1 rfl)
 have r1:H0.read p 1 1=some [.int .i64 (v.pages:Int)]:=(e0.read lt).trans (zam b1 rfl)
 have r4:H0.read p 4 1=some [.int .i64 (v.clients:Int)]:=(e0.read lt).trans (zam b1 rfl)
 have l0:p < H0.next:=by omega
 have s1:H1.read p 1 1=some [.int .i64 (v.pages:Int)]:=(x1.read l0).trans r1
 have s4:H1.read p 4 1=some [.int .i64 (v.clients:Int)]:=(x1.read l0).trans r4
 have l1:p < H1.next:=Nat.lt_of_lt_of_le l0 x1.1
 have t1:H2.read p 1 1=some [.int .i64 (v.pages:Int)]:=(x2.read l1).trans s1
 have t4:H2.read p 4 1=some [.int .i64 (v.clients:Int)]:=(x2.read l1).trans s4
 have g2:H2.get h.next=some (.cells [.nils,.nils,.nils]):=x2.at_ (x1.at_ g0 (by omega)) (by have:=x1.1;omega)
 have w3:=zg5 (o:=0) (vs:=x) g2 (by rw [lx];exact Nat.le_refl _)
 have hx0:([CV.nils,.nils,.nils].take 0++x++[CV.nils,.nils,.nils].drop (0 + x.length))=x:=by rw [lx];simp
 rw [hx0] at w3
 have y3:ExtB [h.next] H2 (H2.put h.next (.cells x)):=(ExtB.refl _ _).put (.inr (by simp)) _
 have S3:=S2.extB y3 (fun j hj hm=>by simp at hm;have:=own j hj;have:=x1.1;omega)
 have u1:(H2.put h.next (.cells x)).read p 1 1=some [.int .i64 (v.pages:Int)]:=by
  have:(H2.put h.next (.cells x)).get p=H2.get p:=zcl (by omega)
  unfold Heap.read at t1 ⊢;rw [this];exact t1
 have u4:(H2.put h.next (.cells x)).read p 4 1=some [.int .i64 (v.clients:Int)]:=by
  have:(H2.put h.next (.cells x)).get p=H2.get p:=zcl (by omega)
  unfold Heap.read at t4 ⊢;rw [this];exact t4
 have r6:(H2.put h.next (.cells x)).read h.next 0 3=some x:=by rw [zdi zc9 (by omega),List.drop_zero,List.take_of_length_le (by omega)]
 rw [zbp (F:=ir39) rfl rfl rfl]
 unfold ir39
 rw [zbv]
 simp only [zbm,zap,zac,zaq,zbq,zad,zai,zab,zae,zaf,zar,zbn,za7,zbb,zbi,zbh,zaw,X.eval,zak,zah,List.map_cons,List.map_nil,List.getD_cons_zero,List.getD_cons_succ,List.getD_nil,List.set_cons_zero,List.set_cons_succ,cond_true,BEq.rfl,AV.cells,AV.ofCells,XV.av,AV.xv,List.nil_append,List.cons_append,Nat.zero_add,Nat.add_zero,Nat.reduceAdd,Nat.reduceBEq,Bool.and_true,zb5,zby,zbs,zbr,zbt,zd2,zco,zcn,zzx,zgk,zg4,zb1,zb2,zga,zfv,ze9,zex,zfw,zfx,zfy,zfa,zgb,zfz,zgc,zb6,zcc,zct,List.reverse_cons,List.reverse_nil,hg0,zce,zgy,zdf,za5,za9,AV.ofCells,r0,r1,r4,f1,s1,s4,f2,zg7,List.getElem?_cons_zero,List.getElem?_cons_succ,zbl,lx,w3,zbu,zcz,RV.eval,r6]
 exact ⟨x,z,_,rfl,S3,((e0.trans x1).trans x2).put (Nat.le_refl _) _,fun j hj=>by have:=own j hj;have:=(e0.trans x1).1;omega⟩
end
end Lav
