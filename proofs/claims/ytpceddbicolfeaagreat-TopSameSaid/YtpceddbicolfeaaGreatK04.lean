import Derived.Deep.Slices
import Derived.ChangeSlices
import Derived.ChangeArms
import Derived.KernelRfl
import Derived.Test.YtpceddbicolfeaaGreatK03
set_option linter.unusedVariables false
namespace Lav
open Go (IntKind BinOp UnOp)
section
variable {τ:Nat→Int} {ρ:Nat→Nat} {b1 b2:Nat} {h0 g0 h1 h2:Heap}
theorem zwq (es:List Ent):(es.map (Ent.mv τ ρ)).map (·.1)=es.map (·.1):=by rw [List.map_map];rfl
theorem zre (l:List Int):mvs τ ρ (intCells l)=intCells l:=by unfold mvs intCells;rw [List.map_map];rfl
theorem zus (S:Sim τ ρ b1 b2 h0 g0 h1 h2) {args:List AV} {r:AV} {h1':Heap} (h:zhp args h1=some (r,h1')):∃ h2',zhp (mva τ ρ args) h2=some (r.mv τ ρ,h2')∧Sim τ ρ b1 b2 h0 g0 h1' h2':=by
 unfold zhp at h
 split at h
 ·rename_i i o
  split at h
  ·rename_i j hj
   split at h
   ·rename_i c es hes
    show ∃ h2',zhp [.c (.ptr (ρ i) o)] h2=_∧_
    unfold zhp
    have e1:h2.read (ρ i) (o + 1) 1=some [.mp (ρ j)]:=S.read hj
    have e2:h2.get (ρ j)=some (.map c (es.map (Ent.mv τ ρ))):=S.at_ _ _ hes
    simp only [e1,e2,List.length_map,zwq]
    cases hb:(Nat.ble es.length 1000 && zhf (es.map (·.1))) with
    | false=>rw [hb] at h;cases h
    | true =>
     rw [hb] at h
     simp only [cond_true] at h ⊢
     split at h
     ·rename_i hs
      simp only [hs]
      simp only [Option.some.injEq,Prod.mk.injEq] at h;obtain ⟨rfl,rfl⟩:=h
      exact ⟨h2,rfl,S⟩
     ·rename_i k rs hs
      simp only [hs]
      simp only [Option.some.injEq,Prod.mk.injEq] at h ⊢;obtain ⟨rfl,rfl⟩:=h
      have:=S.new (.cells (intCells (k :: rs)))
      simp only [Blk.mv,zre] at this
      exact ⟨_,⟨by simp only [AV.mv,CV.mv,S.next],rfl⟩,this⟩
   ·cases h
  ·cases h
 ·cases h
theorem zqc {po len:Nat}:∀ {es:List Ent} {l l':List CV},zhi l po len es=some l'→zhi (mvs τ ρ l) po len (es.map (Ent.mv τ ρ))=some (mvs τ ρ l')
 | [],l,l',h=>by
  simp only [zhi,Option.some.injEq] at h;subst h;rfl
 | (k,b,v) :: es,l,l',h=>by
  unfold zhi at h
  cases k with
  | negSucc q=>cases h
  | ofNat q =>
   simp only at h
   show (bif Nat.blt q len then (match v.mv τ ρ with | .sl _ _ _ _=>zhi ((mvs τ ρ l).set (po + q) (v.mv τ ρ)) po len (es.map (Ent.mv τ ρ)) | _=>none) else none)=_
   cases hb:Nat.blt q len with
   | false=>rw [hb] at h;cases h
   | true =>
    rw [hb] at h
    simp only [cond_true] at h ⊢
    cases v<;>simp only [reduceCtorEq] at h
    case sl a1 a2 a3 a4 =>
     have:=zqc h
     simp only [CV.mv]
     rw [← this]
     congr 1
     simp [mvs,List.map_set,CV.mv]
theorem zwr {acc:Nat} {call call':Call} (hC:zg1 τ ρ b1 b2 h0 g0 call call') (S:Sim τ ρ b1 b2 h0 g0 h1 h2) {args:List AV} {r:AV} {h1':Heap} (h:zi7 acc call args h1=some (r,h1')):∃ h2',zi7 acc call' (mva τ ρ args) h2=some (r.mv τ ρ,h2')∧Sim τ ρ b1 b2 h0 g0 h1' h2':=by
 unfold zi7 at h
 split at h
 ·rename_i i o
  split at h
  ·rename_i n k1 hk
   obtain ⟨k2,e0,S'⟩:=hC _ _ _ _ _ _ S hk
   show ∃ h2',zi7 acc call' [.c (.ptr (ρ i) o)] h2=_∧_
   unfold zi7
   have e0':call' acc [.c (.ptr (ρ i) o)] h2=some (.c (.int .i64 n),k2):=e0
   simp only [e0']
   cases hn:n == 0 with
   | false =>
    rw [hn] at h
    simp only [cond_false,Option.some.injEq,Prod.mk.injEq] at h ⊢;obtain ⟨rfl,rfl⟩:=h
    exact ⟨_,⟨rfl,rfl⟩,S'⟩
   | true =>
    rw [hn] at h
    simp only [cond_true] at h ⊢
    split at h
    ·rename_i pb po len c m h3 h4
     split at h
     ·rename_i l ck es h5 h6
      have e1:k2.read (ρ i) o 1=some [.sl (ρ pb) po len c]:=S'.read h3
      have e2:k2.read (ρ i) (o + 1) 1=some [.mp (ρ m)]:=S'.read h4
      have e3:k2.get (ρ pb)=some (.cells (mvs τ ρ l)):=S'.at_ _ _ h5
      have e4:k2.get (ρ m)=some (.map ck (es.map (Ent.mv τ ρ))):=S'.at_ _ _ h6
      simp only [e1,e2,e3,e4,zfe]
      have hi:k1.get i≠none:=by
       intro hh
       unfold Heap.read at h3
       rw [hh] at h3;cases h3
      cases hb:(Nat.ble 1 len && Nat.ble (po + len) l.length && !(Nat.beq i pb)) with
      | false=>rw [hb] at h;cases h
      | true =>
       rw [hb] at h
       simp only [cond_true] at h
       have hne:Nat.beq (ρ i) (ρ pb)=false:=by
        simp only [Bool.and_eq_true,Bool.not_eq_true'] at hb
        cases hq:Nat.beq (ρ i) (ρ pb) with
        | false=>rfl
        | true =>
         exfalso
         refine S'.ne (i:=i) (j:=pb) (.inl hi) (.inl (by rw [h5];simp)) (fun e=>?_) (Nat.eq_of_beq_eq_true hq)
         subst e
         have:=hb.2
         rw [Nat.beq_refl] at this;cases this
       simp only [Bool.and_eq_true] at hb
       rw [hb.1.1,hb.1.2,hne]
       simp only [Bool.not_false,Bool.and_true,cond_true]
       split at h
       ·rename_i l' hl
        rw [zqc hl]
        simp only [Option.some.injEq,Prod.mk.injEq] at h ⊢;obtain ⟨rfl,rfl⟩:=h
        have S2:=S'.put (i:=pb) (.inl (by rw [h5];simp)) (.cells l')
        refine ⟨_,⟨rfl,rfl⟩,S2.put (i:=m) (.inl ?_) (.map ck [])⟩
        rw [Heap.get_put]
        unfold upd
        by_cases e:m=pb
        ·rw [if_pos e];simp
        ·rw [if_neg e,h6];simp
       ·cases h
     ·cases h
    ·cases h
  ·cases h
 ·cases h
end
theorem zmm (waits sync acc:Nat):OverM (zlo waits sync acc):=by
 intro τ ρ b1 b2 h0 g0 f g hg call call' hC args h1 h2 r h1' S h
 unfold zlo at hg
 cases hw:Nat.beq f waits with
 | true =>
  rw [hw] at hg
  simp only [cond_true,Option.some.injEq] at hg;subst hg
  exact zus S h
 | false =>
  rw [hw] at hg
  cases hs:Nat.beq f sync with
  | true =>
   rw [hs] at hg
   simp only [cond_false,cond_true,Option.some.injEq] at hg;subst hg
   exact zwr hC S h
  | false=>rw [hs] at hg;cases hg
def τ0:Nat→Int:=fun _=>0
structure Emb (ρ:Nat→Nat) (h g:Heap):Prop where
 at_:∀ i b,h.get i=some b→i < h.next∧ρ i < g.next∧g.get (ρ i)=some (b.mv τ0 ρ)
 inj:∀ i j,h.get i≠none→h.get j≠none→ρ i=ρ j→i=j
def ext (ρ:Nat→Nat) (n m:Nat):Nat→Nat:=fun i=>if i < n then ρ i else m + (i - n)
def CV.lt (n:Nat):CV→Bool
 | .ptr i _ | .sl i _ _ _ | .ch i | .mp i=>Nat.blt i n
 | .fn _ l=>l.all fun p=>Nat.blt p.1 n
 | _=>true
def XV.lt (n:Nat):XV→Bool
 | .c v=>v.lt n
 | .agg l=>l.all (CV.lt n)
def AV.lt (n:Nat):AV→Bool
 | .c v=>v.lt n
 | .agg l=>l.all (CV.lt n)
 | .tup l=>l.all (XV.lt n)
 | .junk=>true
def Blk.lt (n:Nat):Blk→Bool
 | .cells l | .ro l=>l.all (CV.lt n)
 | .chan _ l=>l.all (XV.lt n)
 | .map _ es=>es.all fun e=>e.2.2.lt n
section
variable {τ:Nat→Int} {ρ σ:Nat→Nat} {n:Nat}
theorem ltB {i n:Nat} (h:Nat.blt i n=true):i < n:=Nat.lt_of_succ_le (Nat.le_of_ble_eq_true h)
theorem CV.mv_congr (hρ:∀ i,i < n→ρ i=σ i) {v:CV} (h:v.lt n=true):v.mv τ ρ=v.mv τ σ:=by
 cases v with
 | ptr i o=>simp only [CV.mv];rw [hρ i (ltB h)]
 | sl i o k c=>simp only [CV.mv];rw [hρ i (ltB h)]
 | ch i=>simp only [CV.mv];rw [hρ i (ltB h)]
 | mp i=>simp only [CV.mv];rw [hρ i (ltB h)]
 | fn f l =>
  simp only [CV.mv]
  congr 1
  exact List.map_congr_left fun p hp=>by rw [hρ p.1 (ltB (List.all_eq_true.1 h p hp))]
 | res u m r=>cases u<;>cases m<;>rfl
 | _=>rfl
theorem zi8 (hρ:∀ i,i < n→ρ i=σ i) {l:List CV} (h:l.all (CV.lt n)=true):mvs τ ρ l=mvs τ σ l :=
 List.map_congr_left fun v hv=>CV.mv_congr hρ (List.all_eq_true.1 h v hv)
theorem XV.mv_congr (hρ:∀ i,i < n→ρ i=σ i) {v:XV} (h:v.lt n=true):v.mv τ ρ=v.mv τ σ:=by
 cases v with
 | c v=>exact congrArg XV.c (CV.mv_congr hρ h)
 | agg l=>exact congrArg XV.agg (zi8 hρ h)
theorem AV.mv_congr (hρ:∀ i,i < n→ρ i=σ i) {v:AV} (h:v.lt n=true):v.mv τ ρ=v.mv τ σ:=by
 cases v with
 | c v=>exact congrArg AV.c (CV.mv_congr hρ h)
 | agg l=>exact congrArg AV.agg (zi8 hρ h)
 | tup l=>exact congrArg AV.tup (List.map_congr_left fun v hv=>XV.mv_congr hρ (List.all_eq_true.1 h v hv))
 | junk=>rfl
theorem Blk.mv_congr (hρ:∀ i,i < n→ρ i=σ i) {b:Blk} (h:b.lt n=true):b.mv τ ρ=b.mv τ σ:=by
 cases b with
 | cells l=>exact congrArg Blk.cells (zi8 hρ h)
 | ro l=>exact congrArg Blk.ro (zi8 hρ h)
 | chan c l=>exact congrArg (Blk.chan c) (List.map_congr_left fun v hv=>XV.mv_congr hρ (List.all_eq_true.1 h v hv))
 | map c es=>exact congrArg (Blk.map c) (List.map_congr_left fun e he=>by simp only [Ent.mv];rw [CV.mv_congr hρ (List.all_eq_true.1 h e he)])
theorem zut (hρ:∀ i,i < n→ρ i=σ i) {l:List AV} (h:l.all (AV.lt n)=true):mva τ ρ l=mva τ σ l :=
 List.map_congr_left fun v hv=>AV.mv_congr hρ (List.all_eq_true.1 h v hv)
end
def CV.nt:CV→Bool
 | .res u m _=>u || !(Nat.beq m 0)
 | _=>true
def XV.nt:XV→Bool
 | .c v=>v.nt
 | .agg l=>l.all CV.nt
def Blk.nt:Blk→Bool
 | .cells l | .ro l=>l.all CV.nt
 | .chan _ l=>l.all XV.nt
 | .map _ es=>es.all fun e=>e.2.2.nt
section
variable {τ τ':Nat→Int} {ρ σ:Nat→Nat}
theorem CV.mv_tok {v:CV} (h:v.nt=true):v.mv τ ρ=v.mv τ' ρ:=by
 cases v with
 | res u m r=>cases u with
  | true=>rfl
  | false=>cases m with
   | zero=>cases h
   | succ m=>rfl
 | _=>rfl
theorem zn7 {l:List CV} (h:l.all CV.nt=true):mvs τ ρ l=mvs τ' ρ l:=List.map_congr_left fun _ hv=>CV.mv_tok (List.all_eq_true.1 h _ hv)
theorem XV.mv_tok {v:XV} (h:v.nt=true):v.mv τ ρ=v.mv τ' ρ:=by
 cases v with
 | c v=>exact congrArg XV.c (CV.mv_tok h)
 | agg l=>exact congrArg XV.agg (zn7 h)
theorem Blk.mv_tok {b:Blk} (h:b.nt=true):b.mv τ ρ=b.mv τ' ρ:=by
 cases b with
 | cells l=>exact congrArg Blk.cells (zn7 h)
 | ro l=>exact congrArg Blk.ro (zn7 h)
 | chan c l=>exact congrArg (Blk.chan c) (List.map_congr_left fun v hv=>XV.mv_tok (List.all_eq_true.1 h v hv))
 | map c es=>exact congrArg (Blk.map c) (List.map_congr_left fun e he=>by simp only [Ent.mv];rw [CV.mv_tok (List.all_eq_true.1 h e he)])
end
def hpT:Nat→List Blk→Tr Blk→Tr Blk
 | _,[],t=>t
 | i,b :: r,t=>hpT (i + 1) r (t.set i (some b))
def hp (l:List Blk):Heap:=⟨l.length,hpT 0 l .nil⟩
theorem zro:∀ (l:List Blk) (i j:Nat) (t:Tr Blk),(hpT i l t).get j=if i≤j∧j < i + l.length then l[j - i]? else t.get j
 | [],i,j,t=>by
  rw [if_neg (by simp)];rfl
 | b :: l,i,j,t=>by
  show (hpT (i + 1) l (t.set i (some b))).get j=_
  rw [zro l (i + 1) j,Tr.get_set]
  by_cases e:j=i
  ·subst e
   rw [if_neg (by omega),if_pos rfl,if_pos (by simp)]
   simp
  ·rw [if_neg e]
   by_cases c:i + 1≤j∧j < i + 1 + l.length
   ·rw [if_pos c,if_pos (by simp;omega)]
    obtain ⟨k,hk⟩ : ∃ k,j - i=k + 1:=⟨j - i - 1,by omega⟩
    have:j - (i + 1)=k:=by omega
    rw [hk,this];rfl
   ·rw [if_neg c,if_neg (by simp only [List.length_cons];omega)]
theorem zg3 (l:List Blk) (i:Nat):(hp l).get i=l[i]?:=by
 show (hpT 0 l .nil).get i=_
 rw [zro,Tr.get_nil]
 by_cases h:i < l.length
 ·rw [if_pos (by omega)];rfl
 ·rw [if_neg (by omega)]
  exact (List.getElem?_eq_none (by omega)).symm
theorem zqd {τ:Nat→Int} {o o':Over} {table:List (Nat × IRF)} (hT:clT table=true) (hO:OverM2 τ o o' table) {N d N' d' f:Nat} (hN:N≤N') (h20:20≤N') (hd:d≤d') {args:List AV} {h h' g:Heap} {r:AV} {ρ:Nat→Nat}
  (he:evCallO o table N d f args h=some (r,h')) (E:Emb ρ h g) (W:∀ i b,h.get i=some b→b.lt h.next=true∧b.nt=true) (ha:args.all (AV.lt h.next)=true) :
  ∃ g',evCallO o' table N' d' f (mva τ ρ args) g=some (r.mv τ (ext ρ h.next g.next),g')∧(∀ i b,h'.get i=some b→g'.get (ext ρ h.next g.next i)=some (b.mv τ (ext ρ h.next g.next)))∧(∀ i j,h'.get i≠none→h'.get j≠none→ext ρ h.next g.next i=ext ρ h.next g.next j→i=j)∧(∃ m,h'.next=h.next + m∧g'.next=g.next + m) ∧
   (∀ k,k < g.next→(∀ i,h.get i≠none→ρ i≠k)→g'.get k=g.get k)∧∀ i,i < h.next→h.get i=none→h'.get i=none:=by
 have hx:∀ i,i < h.next→ext ρ h.next g.next i=ρ i:=fun i hi=>if_pos hi
 have some_of:∀ {i},h.get i≠none→∃ b,h.get i=some b:=fun hi=>by
  cases hg:h.get _ with
  | none=>exact absurd hg hi
  | some b=>exact ⟨b,rfl⟩
 have S:Sim τ (ext ρ h.next g.next) h.next g.next h g h g:=by
  refine ⟨fun k=>?_,⟨0,rfl,rfl⟩,fun i b hb=>?_,fun i j hi hj li lj e=>?_,fun i hi li=>?_,fun _ _ h=>h,fun k _ _=>rfl⟩
  ·unfold ext
   rw [if_neg (by omega)];omega
  ·obtain ⟨h1,_,h3⟩:=E.at_ i b hb
   rw [hx i h1,h3,Blk.mv_congr (ρ:=ext ρ h.next g.next) (σ:=ρ) hx (W i b hb).1,Blk.mv_tok (τ:=τ0) (τ':=τ) (W i b hb).2]
  ·rw [hx i hi,hx j hj] at e
   exact E.inj i j li lj e
  ·obtain ⟨b,hb⟩:=some_of li
   rw [hx i hi];exact (E.at_ i b hb).2.1
 obtain ⟨g',e,S'⟩:=zkg (o:=o) hT hO hN h20 hd f args h g r h' S he
 rw [zut (ρ:=ext ρ h.next g.next) (σ:=ρ) hx ha] at e
 exact ⟨g',e,S'.at_,fun i j li lj e=>Classical.byContradiction fun hn=>S'.ne (.inl li) (.inl lj) hn e,S'.nx,fun k hk hno=>S'.fr k hk fun i hi li=>by rw [hx i hi];exact hno i li,fun i hi hd=>S'.dead i hi hd⟩
section
variable {τ:Nat→Int} {ρ σ:Nat→Nat}
theorem CV.mv_mv (v:CV):(v.mv τ0 ρ).mv τ σ=v.mv τ0 fun i=>σ (ρ i):=by
 cases v with
 | fn f l=>simp only [CV.mv,List.map_map];rfl
 | res u m r=>cases u<;>cases m<;>rfl
 | _=>rfl
theorem zlp (l:List CV):mvs τ σ (mvs τ0 ρ l)=mvs τ0 (fun i=>σ (ρ i)) l:=by
 unfold mvs;rw [List.map_map];exact List.map_congr_left fun v _=>CV.mv_mv v
theorem XV.mv_mv (v:XV):(v.mv τ0 ρ).mv τ σ=v.mv τ0 fun i=>σ (ρ i):=by
 cases v with
 | c v=>exact congrArg XV.c (CV.mv_mv v)
 | agg l=>exact congrArg XV.agg (zlp l)
theorem AV.mv_mv (v:AV):(v.mv τ0 ρ).mv τ σ=v.mv τ0 fun i=>σ (ρ i):=by
 cases v with
 | c v=>exact congrArg AV.c (CV.mv_mv v)
 | agg l=>exact congrArg AV.agg (zlp l)
 | tup l=>simp only [AV.mv,List.map_map];exact congrArg _ (List.map_congr_left fun v _=>XV.mv_mv v)
 | junk=>rfl
theorem Blk.mv_mv (b:Blk):(b.mv τ0 ρ).mv τ σ=b.mv τ0 fun i=>σ (ρ i):=by
 cases b with
 | cells l=>exact congrArg Blk.cells (zlp l)
 | ro l=>exact congrArg Blk.ro (zlp l)
 | chan c l=>simp only [Blk.mv,List.map_map];exact congrArg _ (List.map_congr_left fun v _=>XV.mv_mv v)
 | map c es=>simp only [Blk.mv,List.map_map];exact congrArg _ (List.map_congr_left fun e _=>by simp only [Ent.mv,Function.comp,CV.mv_mv])
end
theorem CV.mv_id {f:Nat→Nat} {v:CV} (h:v.lt 0=true) (hn:v.nt=true):v.mv τ0 f=v:=by
 have no:∀ {i:Nat},Nat.blt i 0=true→False:=fun {i} h=>absurd (ltB h) (Nat.not_lt_zero i)
 cases v with
 | ptr i o=>exact (no h).elim
 | sl i o n c=>exact (no h).elim
 | ch i=>exact (no h).elim
 | mp i=>exact (no h).elim
 | fn g l=>cases l with
  | nil=>rfl
  | cons p l=>simp only [CV.lt,List.all_cons,Bool.and_eq_true] at h;exact (no h.1).elim
 | res u m r=>cases u with
  | true=>rfl
  | false=>cases m with
   | zero=>cases hn
   | succ m=>rfl
 | _=>rfl
theorem zuu {f:Nat→Nat}:∀ {l:List CV},l.all (CV.lt 0)=true→l.all CV.nt=true→mvs τ0 f l=l
 | [],_,_=>rfl
 | v :: l,h,hn=>by
  simp only [List.all_cons,Bool.and_eq_true] at h hn
  show v.mv τ0 f :: mvs τ0 f l=_
  rw [CV.mv_id h.1 hn.1,zuu h.2 hn.2]
def nodupB:List Nat→Bool
 | []=>true
 | a :: r=>!(r.any fun b=>Nat.beq a b) && nodupB r
theorem zma:∀ {l:List Nat},nodupB l=true→l.Nodup
 | [],_=>List.nodup_nil
 | a :: r,h=>by
  simp only [nodupB,Bool.and_eq_true,Bool.not_eq_true'] at h
  refine List.nodup_cons.2 ⟨fun hm=>?_,zma h.2⟩
  have:=List.any_eq_false.1 h.1 a hm
  rw [Nat.beq_refl] at this;exact this rfl
def fit (l:List Blk) (args:List AV) (ts:List Nat) (n:Nat):Bool:=l.all (fun b=>b.lt l.length && b.nt) && (args.all (AV.lt l.length) && (nodupB ts && ts.all fun t=>Nat.blt t n))
def at0 (ts:List Nat) (i:Nat):Nat:=ts.getD i 0
def zc1 (ts:List Nat) (x:Option (AV × Heap)):Option (AV × Nat × List (Option Blk)):=match x with
 | some (r,h)=>some (r,h.next,ts.map h.get)
 | none=>none
theorem seg {τ:Nat→Int} {o o':Over} {table:List (Nat × IRF)} (hT:clT table=true) (hO:OverM2 τ o o' table) {N d N' d' f:Nat} (hN:N≤N') (h20:20≤N') (hd:d≤d') {args:List AV} {l l':List Blk} {ts:List Nat} {n:Nat} {r:AV}
  (he:zc1 ts (evCallO o table N d f args (hp l))=some (r,n,l'.map fun b=>some (b.mv τ0 (at0 ts)))) (hf:fit l args ts n=true)
  {ρ:Nat→Nat} {g:Heap} (E:Emb ρ (hp l) g) :
  ∃ g',evCallO o' table N' d' f (mva τ ρ args) g=some (r.mv τ (ext ρ l.length g.next),g')∧Emb (fun i=>ext ρ l.length g.next (at0 ts i)) (hp l') g'∧g.next≤g'.next ∧
   ∀ k,k < g.next→(∀ i,i < l.length→ρ i≠k)→g'.get k=g.get k:=by
 unfold fit at hf
 simp only [Bool.and_eq_true] at hf
 obtain ⟨f1,f2,f3,f4⟩:=hf
 unfold zc1 at he
 split at he
 ·rename_i r0 h' hev
  simp only [Option.some.injEq,Prod.mk.injEq] at he
  obtain ⟨rfl,rfl,hts⟩:=he
  have hlen:ts.length=l'.length:=by have:=congrArg List.length hts;simpa using this
  obtain ⟨g',e,at_,inj,⟨m,n1,n2⟩,fr,dead⟩:=zqd hT hO hN h20 hd hev E (fun i b hb=>by
   rw [zg3] at hb
   obtain ⟨hi,rfl⟩:=List.getElem?_eq_some_iff.1 hb
   have:=List.all_eq_true.1 f1 _ (List.getElem_mem hi)
   rw [Bool.and_eq_true] at this
   exact this) f2
  have key:∀ i b,(hp l').get i=some b→i < l'.length∧at0 ts i∈ts∧h'.get (at0 ts i)=some (b.mv τ0 (at0 ts)):=by
   intro i b hb
   rw [zg3] at hb
   obtain ⟨hi,rfl⟩:=List.getElem?_eq_some_iff.1 hb
   have hi':i < ts.length:=by omega
   have ea:at0 ts i=ts[i]:=by unfold at0;simp [List.getD_eq_getElem?_getD,hi']
   refine ⟨hi,by rw [ea];exact List.getElem_mem hi',?_⟩
   have:=congrArg (fun x=>x[i]?) hts
   simp only [List.getElem?_map,List.getElem?_eq_getElem hi',List.getElem?_eq_getElem hi,Option.map_some,Option.some.injEq] at this
   rw [ea];exact this
  have lv:∀ i,(hp l').get i≠none→∃ b,(hp l').get i=some b:=fun i hi=>by
   cases hg:(hp l').get i with
   | none=>exact absurd hg hi
   | some b=>exact ⟨b,rfl⟩
  refine ⟨g',e,⟨fun i b hb=>?_,fun i j li lj ee=>?_⟩,by omega,fun k hk hno=>fr k hk fun i hi=>?_⟩
  ·obtain ⟨k1,k2,k3⟩:=key i b hb
   refine ⟨k1,?_,?_⟩
   ·have ht:at0 ts i < h'.next:=ltB (List.all_eq_true.1 f4 _ k2)
    show ext ρ l.length g.next (at0 ts i) < g'.next
    unfold ext
    by_cases c:at0 ts i < l.length
    ·rw [if_pos c]
     have:(hp l).get (at0 ts i)≠none:=fun hd=>by rw [dead _ c hd] at k3;cases k3
     cases hg:(hp l).get (at0 ts i) with
     | none=>exact absurd hg this
     | some b=>have:=(E.at_ _ b hg).2.1;omega
    ·rw [if_neg c]
     have:(hp l).next=l.length:=rfl
     omega
   ·have:=at_ _ _ k3
    rw [Blk.mv_mv] at this
    exact this
  ·obtain ⟨b,hb⟩:=lv i li
   obtain ⟨c,hc⟩:=lv j lj
   obtain ⟨k1,k2,k3⟩:=key i b hb
   obtain ⟨q1,q2,q3⟩:=key j c hc
   have:=inj _ _ (by rw [k3];simp) (by rw [q3];simp) ee
   have hi':i < ts.length:=by omega
   have hj':j < ts.length:=by omega
   have ei:at0 ts i=ts[i]:=by unfold at0;simp [List.getD_eq_getElem?_getD,hi']
   have ej:at0 ts j=ts[j]:=by unfold at0;simp [List.getD_eq_getElem?_getD,hj']
   rw [ei,ej] at this
   exact (List.getElem_inj (zma f3)).1 this
  ·refine hno i ?_
   rw [zg3] at hi
   exact Classical.byContradiction fun hn=>hi (List.getElem?_eq_none (by omega))
 ·cases he
end Lav
namespace Lav
open Go (IntKind BinOp UnOp)
theorem zcl {call:Nat→List AV→Heap→Option (AV × Heap)} {N n:Nat} {keep:List Bool} {body:IR} (Inv:Nat→List AV→Heap→Prop) (Post:Ex × List AV × Heap→Prop)
  (step:∀ i loc h,i≤n→Inv i loc h→(i < n∧∃ loc' h',ev call N body loc h=some (.norm,loc',h')∧Inv (i + 1) (zbv keep loc') h')∨∃ r,ev call N body loc h=some r∧r.1≠.norm∧Post r)
  {loc:List AV} {h:Heap} {fuel:Nat} (h0:Inv 0 (zbv keep loc) h) (hf:n < fuel):∃ r,zcr call N keep body fuel loc h=some r∧Post r:=by
 have key:∀ (k i:Nat) (loc:List AV) (h:Heap) (fuel:Nat),n - i=k→i≤n→n - i < fuel→Inv i (zbv keep loc) h→∃ r,zcr call N keep body fuel loc h=some r∧Post r:=by
  intro k
  induction k with
  | zero =>
   intro i loc h fuel hk hi hfu hinv
   obtain ⟨f,rfl⟩ : ∃ f,fuel=f + 1:=⟨fuel - 1,by omega⟩
   rcases step i _ h hi hinv with ⟨hlt,_⟩ | ⟨r,hr,hn,hp⟩
   ·omega
   ·refine ⟨r,?_,hp⟩
    rw [zfd,hr]
    obtain ⟨e,l,h1⟩:=r
    cases e with
    | norm=>exact absurd rfl hn
    | exit j=>rfl
    | ret=>rfl
  | succ k ih =>
   intro i loc h fuel hk hi hfu hinv
   obtain ⟨f,rfl⟩ : ∃ f,fuel=f + 1:=⟨fuel - 1,by omega⟩
   rcases step i _ h hi hinv with ⟨hlt,loc',h',hr,hnext⟩ | ⟨r,hr,hn,hp⟩
   ·obtain ⟨r,e,hp⟩:=ih (i + 1) loc' h' f (by omega) (by omega) (by omega) hnext
    refine ⟨r,?_,hp⟩
    rw [zfd,hr];exact e
   ·refine ⟨r,?_,hp⟩
    rw [zfd,hr]
    obtain ⟨e,l,h1⟩:=r
    cases e with
    | norm=>exact absurd rfl hn
    | exit j=>rfl
    | ret=>rfl
 exact key n 0 loc h fuel (by omega) (by omega) (by omega) h0
def Ext (h h':Heap):Prop:=h.next≤h'.next∧∀ i,i < h.next→h'.get i=h.get i
theorem Ext.refl (h:Heap):Ext h h:=⟨Nat.le_refl _,fun _ _=>rfl⟩
theorem Ext.trans {a b c:Heap} (x:Ext a b) (y:Ext b c):Ext a c:=⟨Nat.le_trans x.1 y.1,fun i hi=>(y.2 i (Nat.lt_of_lt_of_le hi x.1)).trans (x.2 i hi)⟩
theorem zcp {h:Heap} {b:Blk} {i:Nat} (hi:i < h.next):(h.new b).get i=h.get i:=by
 rw [Heap.get_new];simp only [upd];rw [if_neg (by omega)]
theorem zbz {h:Heap} {b:Blk}:(h.new b).get h.next=some b:=by
 rw [Heap.get_new];simp [upd]
theorem zb8 {h:Heap} {b:Blk} {i j:Nat} (hi:i≠j):(h.put j b).get i=h.get i:=by
 rw [Heap.get_put];simp only [upd];rw [if_neg hi]
theorem zd8 {h:Heap} {b:Blk} {i:Nat}:(h.put i b).get i=some b:=by
 rw [Heap.get_put];simp [upd]
theorem zjd {h:Heap} {i j:Nat} (hi:i≠j):(h.kill j).get i=h.get i:=by
 rw [Heap.get_kill];simp only [upd];rw [if_neg hi]
theorem Ext.new {a h:Heap} (x:Ext a h) (b:Blk):Ext a (h.new b):=⟨Nat.le_succ_of_le x.1,fun i hi=>(zcp (Nat.lt_of_lt_of_le hi x.1)).trans (x.2 i hi)⟩
theorem Ext.put {a h:Heap} (x:Ext a h) {i:Nat} (hi:a.next≤i) (b:Blk):Ext a (h.put i b):=⟨x.1,fun j hj=>(zb8 (by omega)).trans (x.2 j hj)⟩
theorem Ext.kill {a h:Heap} (x:Ext a h) {i:Nat} (hi:a.next≤i):Ext a (h.kill i):=⟨x.1,fun j hj=>(zjd (by omega)).trans (x.2 j hj)⟩
theorem Ext.at_ {a h:Heap} (x:Ext a h) {i:Nat} {b:Blk} (hg:a.get i=some b) (hi:i < a.next):h.get i=some b:=(x.2 i hi).trans hg
theorem Ext.read {a h:Heap} (x:Ext a h) {i o n:Nat} (hi:i < a.next):h.read i o n=a.read i o n:=by
 simp only [Heap.read,x.2 i hi]
theorem zuv {l:List CV} {j:Nat} {v:CV} (h:l[j]? = some v):cut l j 1=some [v]:=by
 have hlt:j < l.length:=by
  rcases Nat.lt_or_ge j l.length with h' | h'
  ·exact h'
  ·rw [List.getElem?_eq_none h'] at h;cases h
 have hb:Nat.ble (j + 1) l.length=true:=Nat.ble_eq_true_of_le hlt
 simp only [cut,hb,cond_true]
 rw [List.drop_eq_getElem_cons hlt,List.take_succ_cons,List.take_zero]
 rw [List.getElem?_eq_getElem hlt] at h
 simp only [Option.some.injEq] at h
 rw [h]
theorem zmn {l:List CV} {o n:Nat} (h:o + n≤l.length):cut l o n=some ((l.drop o).take n):=by
 have hb:Nat.ble (o + n) l.length=true:=Nat.ble_eq_true_of_le h
 simp only [cut,hb,cond_true]
theorem zah {h:Heap} {i o:Nat} {l:List CV} {v:CV} (hg:h.get i=some (.cells l)) (hv:l[o]? = some v):h.read i o 1=some [v]:=by
 simp only [Heap.read,hg];exact zuv hv
theorem zy4 {h:Heap} {i o:Nat} {l:List CV} {v:CV} (hg:h.get i=some (.ro l)) (hv:l[o]? = some v):h.read i o 1=some [v]:=by
 simp only [Heap.read,hg];exact zuv hv
theorem zcd {h:Heap} {i o n:Nat} {l:List CV} (hg:h.get i=some (.cells l)) (hn:o + n≤l.length):h.read i o n=some ((l.drop o).take n):=by
 simp only [Heap.read,hg];exact zmn hn
theorem ze8 {h:Heap} {i o:Nat} {l:List CV} {v:CV} (hg:h.get i=some (.cells l)) (ho:o < l.length):h.write i o [v]=some (h.put i (.cells (l.set o v))):=by
 have hb:Nat.ble (o + 1) l.length=true:=Nat.ble_eq_true_of_le ho
 simp only [Heap.write,hg,zdf,List.length_cons,List.length_nil,Nat.zero_add,hb,cond_true,setMany]
theorem znm:∀ (vs l:List CV) (o:Nat),o + vs.length≤l.length→setMany l o vs=l.take o++vs++l.drop (o + vs.length)
 | [],l,o,_=>by simp [setMany]
 | v :: vs,l,o,h=>by
  have hlen:o + (vs.length + 1)≤l.length:=by simpa using h
  rw [setMany,znm vs (l.set o v) (o + 1) (by simp;omega)]
  have e1:(l.set o v).take (o + 1)=l.take o++[v]:=by
   rw [List.take_set,List.take_succ_eq_append_getElem (by omega:o < l.length),List.set_append_right _ _ (by simp;omega)]
   have:o - (l.take o).length=0:=by simp;omega
   rw [this];rfl
  have e2:(l.set o v).drop (o + 1 + vs.length)=l.drop (o + (vs.length + 1)):=by
   rw [List.drop_set_of_lt (by omega)];congr 1;omega
  rw [e1,e2];simp
theorem zg4 {h:Heap} {i o:Nat} {l vs:List CV} (hg:h.get i=some (.cells l)) (ho:o + vs.length≤l.length):h.write i o vs=some (h.put i (.cells (l.take o++vs++l.drop (o + vs.length)))):=by
 have hb:Nat.ble (o + vs.length) l.length=true:=Nat.ble_eq_true_of_le ho
 simp only [Heap.write,hg,zdf,hb,cond_true,znm _ _ _ ho]
theorem ze1 {h:Heap} {z v:List CV} (hl:v.length=z.length):∃ h',(h.new (.cells z)).write h.next 0 v=some h'∧h'.get h.next=some (.cells v)∧Ext h h'∧h'.next=h.next + 1:=by
 refine ⟨_,zg4 zbz (by omega),?_,((Ext.refl h).new _).put (Nat.le_refl _) _,rfl⟩
 rw [zd8,hl];simp
def Ints (h:Heap) (x:CV) (xs:List Int):Prop :=
 (x = .nils∧xs=[])∨∃ i o c,x = .sl i o xs.length c∧i < h.next∧∀ j v,xs[j]? = some v→h.read i (o + j * 1) 1=some [.int .i64 v]
theorem Ints.ext {h h':Heap} {x:CV} {xs:List Int} (hx:Ints h x xs) (e:Ext h h'):Ints h' x xs:=by
 rcases hx with h1 | ⟨i,o,c,h1,h2,h3⟩
 ·exact .inl h1
 ·exact .inr ⟨i,o,c,h1,Nat.lt_of_lt_of_le h2 e.1,fun j v hj=>(e.read h2).trans (h3 j v hj)⟩
theorem Ints.len {h h0:Heap} {x:CV} {xs:List Int} (hx:Ints h0 x xs) {loc vals:List AV} {X:X} (hX:X.eval loc vals = .c x):zao loc vals h (.len .sl X)=some (.c (.int .i64 (xs.length:Int))):=by
 rcases hx with ⟨rfl,rfl⟩ | ⟨i,o,c,rfl,_,_⟩<;>simp only [zao,hX]<;>rfl
theorem Ints.sl {h:Heap} {x:CV} {xs:List Int} (hx:Ints h x xs) (hn:0 < xs.length):∃ i o c,x = .sl i o xs.length c∧i < h.next∧∀ j (hj:j < xs.length),h.read i (o + j) 1=some [.int .i64 xs[j]]:=by
 rcases hx with ⟨_,rfl⟩ | ⟨i,o,c,h1,h2,h3⟩
 ·simp at hn
 ·exact ⟨i,o,c,h1,h2,fun j hj=>by have:=h3 j xs[j] (by simp [hj]);rwa [Nat.mul_one] at this⟩
theorem ints_of {h h':Heap} {x:CV} {l:List Int} (r:zx4 .i64 h x h' l):Ints h' x l:=by
 obtain ⟨_,_,hr⟩:=r
 rcases hr with ⟨rfl,rfl,rfl⟩ | ⟨rfl,rfl,rfl⟩ | ⟨rfl,rfl⟩
 ·exact .inl ⟨rfl,rfl⟩
 ·exact .inr ⟨h.next,0,.dy 1,rfl,Nat.lt_succ_self _,by simp⟩
 ·exact .inr ⟨h.next,0,.dy 1,rfl,Nat.lt_succ_self _,fun j v hj=>zy4 zbz (by simp [hj])⟩
theorem zs2 {h:Heap} {i:Nat} {xs:List Int} {c:Cap} (hi:i < h.next) (hg:h.get i=some (.cells (xs.map (.int .i64)))):Ints h (.sl i 0 xs.length c) xs :=
 .inr ⟨i,0,c,rfl,hi,fun j v hj=>zah hg (by simp [hj])⟩
def Mine (sz:Nat) (h0 h:Heap) (x:CV) (n:Nat) (l:List CV):Prop :=
 l.length=n * sz∧((x = .nils∧n=0)∨∃ i,x = .sl i 0 n (.dy sz)∧h.get i=some (.cells l)∧h0.next≤i∧i < h.next)
theorem Mine.nil {sz:Nat} {h0 h:Heap}:Mine sz h0 h .nils 0 []:=⟨by simp,.inl ⟨rfl,rfl⟩⟩
theorem Mine.len {sz:Nat} {h0 h1 h:Heap} {x:CV} {n:Nat} {l:List CV} (ho:Mine sz h0 h1 x n l) {loc vals:List AV} {X:X} (hX:X.eval loc vals = .c x):zao loc vals h (.len .sl X)=some (.c (.int .i64 (n:Int))):=by
 obtain ⟨_,⟨rfl,rfl⟩ | ⟨i,rfl,_⟩⟩:=ho<;>simp only [zao,hX]<;>rfl
def blk:CV→Option Nat
 | .sl i _ _ _=>some i
 | _=>none
theorem zy5 {sz:Nat} {h0 h:Heap} {x:CV} {y:AV} {n m:Nat} {l new:List CV} (ho:Mine sz h0 h x n l) (he:Ext h0 h) (hs:source h sz y=some (m + 1,new)) (hl:new.length=(m + 1) * sz) (hb:n + (m + 1)≤1073741824) :
  ∃ h',zdw h sz (.c x) y=some (.c (.sl h.next 0 (n + (m + 1)) (.dy sz)),h')∧Mine sz h0 h' (.sl h.next 0 (n + (m + 1)) (.dy sz)) (n + (m + 1)) (l++new)∧Ext h0 h'∧h'.next=h.next + 1∧(∀ k,k < h.next→blk x≠some k→h'.get k=h.get k):=by
 obtain ⟨hlen,⟨rfl,rfl⟩ | ⟨i,rfl,hg,hi,hi'⟩⟩:=ho
 ·have hnil:l=[]:=List.eq_nil_of_length_eq_zero (by simpa using hlen)
  subst hnil
  have b1:Nat.ble (m + 1) 1073741824=true:=Nat.ble_eq_true_of_le (by omega)
  refine ⟨h.new (.cells new),?_,⟨by simp [hl],.inr ⟨h.next,rfl,by simpa using zbz,he.1,Nat.lt_succ_self _⟩⟩,he.new _,rfl,fun k hk _=>zcp hk⟩
  unfold zdw
  simp only [hs,b1,cond_true,Nat.zero_add]
 ·have b1:Nat.ble (n + (m + 1)) 1073741824=true:=Nat.ble_eq_true_of_le (by omega)
  have b2:(sz == sz && Nat.ble (0 + n * sz) l.length)=true:=by simp [hlen]
  have b3:l.take (n * sz)=l:=List.take_of_length_le (by omega)
  refine ⟨(h.kill i).new (.cells (l++new)),?_,⟨by simp [hl,hlen,Nat.add_mul],.inr ⟨h.next,rfl,zbz,he.1,Nat.lt_succ_self _⟩⟩,(he.kill hi).new _,rfl,fun k hk hne=>?_⟩
  ·unfold zdw
   simp only [hs,b1,hg,b2,b3,cond_true,List.drop_zero]
  ·have:k≠i:=fun e=>hne (by rw [e];rfl)
   rw [zcp (h:=h.kill i) hk,zjd this]
theorem zkh {h:Heap} {sz n j:Nat} {l:List CV} {c:Cap} (hg:h.get j=some (.cells l)) (hl:l.length=n * sz):source h sz (.c (.sl j 0 n c))=some (n,l):=by
 have:h.read j 0 (n * sz)=some l:=by
  rw [zcd hg (by omega),← hl,List.drop_zero,List.take_length]
 simp only [source,this]
theorem Mine.keep {sz:Nat} {h0 h h':Heap} {x:CV} {n:Nat} {l:List CV} (ho:Mine sz h0 h x n l) (hn:h.next≤h'.next) (hk:∀ k,k < h.next→blk x=some k→h'.get k=h.get k):Mine sz h0 h' x n l:=by
 obtain ⟨hlen,h1 | ⟨i,rfl,hg,hi,hi'⟩⟩:=ho
 ·exact ⟨hlen,.inl h1⟩
 ·exact ⟨hlen,.inr ⟨i,rfl,(hk i hi' rfl).trans hg,hi,Nat.lt_of_lt_of_le hi' hn⟩⟩
theorem Mine.new {sz:Nat} {h0 h:Heap} {x:CV} {n:Nat} {l:List CV} (ho:Mine sz h0 h x n l) (b:Blk):Mine sz h0 (h.new b) x n l:=ho.keep (Nat.le_succ _) fun _ hk _=>zcp hk
theorem zy6 {h0 h:Heap} {x:CV} {l:List CV} {n j:Nat} {v:CV} {c:Cap} (ho:Mine 1 h0 h x n l) (he:Ext h0 h) (hg:h.get j=some (.cells [v])) (hb:n < 1073741824) :
  ∃ h',zdw h 1 (.c x) (.c (.sl j 0 1 c))=some (.c (.sl h.next 0 (n + 1) (.dy 1)),h')∧Mine 1 h0 h' (.sl h.next 0 (n + 1) (.dy 1)) (n + 1) (l++[v])∧Ext h0 h'∧h'.next=h.next + 1∧(∀ k,k < h.next→blk x≠some k→h'.get k=h.get k) :=
 zy5 (m:=0) ho he (zkh hg rfl) rfl (by omega)
theorem Mine.ints {h0 h:Heap} {x:CV} {n:Nat} {xs:List Int} (ho:Mine 1 h0 h x n (xs.map (.int .i64))):Ints h x xs:=by
 obtain ⟨hlen,⟨rfl,rfl⟩ | ⟨i,rfl,hg,_,hi⟩⟩:=ho
 ·exact .inl ⟨rfl,by simpa using hlen⟩
 ·have:n=xs.length:=by simpa using hlen.symm
  subst this
  exact zs2 hi hg
theorem zws {n:Nat} (h:n < 18446744073709551616):IntKind.u64.wrap (n:Int)=(n:Int):=by
 simp only [IntKind.wrap,IntKind.bits,IntKind.signed]
 simp
 omega
theorem zf7 {a:Int} (h : -9223372036854775808≤a) (h':a < 9223372036854775808):IntKind.i64.wrap a=a:=by
 simp only [IntKind.wrap,IntKind.bits,IntKind.signed]
 simp
 omega
theorem zdm {i:Nat} (h:i < 1000000):IntKind.i64.wrap ((i:Int) + 1)=((i + 1:Nat):Int):=by
 rw [zf7 (by omega) (by omega)];omega
theorem ze6 {i n:Nat} (h:i < n):decide ((i:Int) < (n:Int))=true:=by simp;omega
theorem zfg {i n:Nat} (h:n≤i):decide ((i:Int) < (n:Int))=false:=by simp;omega
theorem zc0 {i n:Nat} (h:i < n):Nat.blt i n=true:=Nat.ble_eq_true_of_le h
end Lav
namespace Lav
open Go (IntKind BinOp UnOp)
def zbw (v:Int):CV:=.int .i64 v
theorem p_mn {loc vals:List AV} {h:Heap} {x:X} {r:List X}:zao loc vals h (.mn (x :: r))=(match x.eval loc vals with
   | .c (.int k n)=>zdg loc vals (fun a b=>if b < a then b else a) (.c (.int k n)) r
   | _=>none):=rfl
theorem zwt {loc vals:List AV} {h:Heap} {x:X} {r:List X}:zao loc vals h (.mx (x :: r))=(match x.eval loc vals with
   | .c (.int k n)=>zdg loc vals (fun a b=>if b > a then b else a) (.c (.int k n)) r
   | _=>none):=rfl
theorem zlq {loc vals:List AV} {h:Heap} {i:Nat} {x:X}:zao loc vals h (.ext i x)=(match x.eval loc vals with
  | .tup l=>match l[i]? with
   | some v=>some v.av
   | none=>none
  | _=>none):=rfl
theorem za3 {loc vals:List AV} {h:Heap} {off:Nat} {x:X}:zao loc vals h (.faddr off x)=(match x.eval loc vals with
  | .c (.ptr i o)=>some (.c (.ptr i (o + off)))
  | _=>none):=rfl
theorem za0 {call:Nat→List AV→Heap→Option (AV × Heap)} {loc vals:List AV} {h:Heap} {n:Nat} {x:X}:zcj loc vals call h (.faddr n x)=zeb h (zao loc vals h (.faddr n x)):=rfl
theorem zdt {call:Nat→List AV→Heap→Option (AV × Heap)} {loc vals:List AV} {h:Heap} {z:List CV} {ps:List (Nat × Nat × X)}:zcj loc vals call h (.build z ps)=zeb h (zao loc vals h (.build z ps)):=rfl
theorem zcw {call:Nat→List AV→Heap→Option (AV × Heap)} {loc vals:List AV} {h:Heap} {x:X}:zcj loc vals call h (.nilchk x)=zeb h (zao loc vals h (.nilchk x)):=rfl
theorem zqe {call:Nat→List AV→Heap→Option (AV × Heap)} {loc vals:List AV} {h:Heap} {o n:Nat} {g:Bool} {x:X}:zcj loc vals call h (.field o n g x)=zeb h (zao loc vals h (.field o n g x)):=rfl
end Lav
namespace Lav
open Go (IntKind BinOp UnOp)
def ExtB (S:List Nat) (h h':Heap):Prop:=h.next≤h'.next∧∀ i,i < h.next→i ∉ S→h'.get i=h.get i
theorem ExtB.refl (S:List Nat) (h:Heap):ExtB S h h:=⟨Nat.le_refl _,fun _ _ _=>rfl⟩
theorem ExtB.trans {S:List Nat} {a b c:Heap} (x:ExtB S a b) (y:ExtB S b c):ExtB S a c:=⟨Nat.le_trans x.1 y.1,fun i hi hn=>(y.2 i (Nat.lt_of_lt_of_le hi x.1) hn).trans (x.2 i hi hn)⟩
theorem ExtB.mono {S S':List Nat} {a b:Heap} (x:ExtB S a b) (h:∀ i∈S,i∈S'):ExtB S' a b:=⟨x.1,fun i hi hn=>x.2 i hi fun hs=>hn (h i hs)⟩
theorem Ext.b {a b:Heap} (x:Ext a b) (S:List Nat):ExtB S a b:=⟨x.1,fun i hi _=>x.2 i hi⟩
theorem ExtB.put {S:List Nat} {a h:Heap} (x:ExtB S a h) {i:Nat} (hi:a.next≤i∨i∈S) (b:Blk):ExtB S a (h.put i b) :=
 ⟨x.1,fun j hj hn=>(zb8 (fun e=>by subst e;exact hi.elim (fun h=>absurd h (by omega)) hn)).trans (x.2 j hj hn)⟩
theorem ExtB.at_ {S:List Nat} {a h:Heap} (x:ExtB S a h) {i:Nat} {b:Blk} (hg:a.get i=some b) (hi:i < a.next) (hn:i ∉ S):h.get i=some b:=(x.2 i hi hn).trans hg
theorem Mine.young {sz:Nat} {h0 h:Heap} {x:CV} {n:Nat} {l:List CV} (m:Mine sz h0 h x n l):∀ k,blk x=some k→h0.next≤k:=by
 intro k hk
 obtain ⟨_,⟨rfl,_⟩ | ⟨i,rfl,_,h1,_⟩⟩:=m
 ·cases hk
 ·simp [blk] at hk;omega
theorem zqf {sz:Nat} {h0 h:Heap} {x:CV} {y:AV} {n m:Nat} {l new:List CV} (ho:Mine sz h0 h x n l) (he:h0.next≤h.next) (hs:source h sz y=some (m + 1,new)) (hl:new.length=(m + 1) * sz) (hb:n + (m + 1)≤1073741824) :
  ∃ h',zdw h sz (.c x) y=some (.c (.sl h.next 0 (n + (m + 1)) (.dy sz)),h')∧Mine sz h0 h' (.sl h.next 0 (n + (m + 1)) (.dy sz)) (n + (m + 1)) (l++new)∧h'.next=h.next + 1∧(∀ k,k < h.next→blk x≠some k→h'.get k=h.get k):=by
 obtain ⟨hlen,⟨rfl,rfl⟩ | ⟨i,rfl,hg,hi,hi'⟩⟩:=ho
 ·have hnil:l=[]:=List.eq_nil_of_length_eq_zero (by simpa using hlen)
  subst hnil
  have b1:Nat.ble (m + 1) 1073741824=true:=Nat.ble_eq_true_of_le (by omega)
  refine ⟨h.new (.cells new),?_,⟨by simp [hl],.inr ⟨h.next,rfl,by simpa using zbz,he,Nat.lt_succ_self _⟩⟩,rfl,fun k hk _=>zcp hk⟩
  unfold zdw
  simp only [hs,b1,cond_true,Nat.zero_add]
 ·have b1:Nat.ble (n + (m + 1)) 1073741824=true:=Nat.ble_eq_true_of_le (by omega)
  have b2:(sz == sz && Nat.ble (0 + n * sz) l.length)=true:=by simp [hlen]
  have b3:l.take (n * sz)=l:=List.take_of_length_le (by omega)
  refine ⟨(h.kill i).new (.cells (l++new)),?_,⟨by simp [hl,hlen,Nat.add_mul],.inr ⟨h.next,rfl,zbz,he,Nat.lt_succ_self _⟩⟩,rfl,fun k hk hne=>?_⟩
  ·unfold zdw
   simp only [hs,b1,hg,b2,b3,cond_true,List.drop_zero]
  ·have:k≠i:=fun e=>hne (by rw [e];rfl)
   rw [zcp (h:=h.kill i) hk,zjd this]
theorem zy7 {sz:Nat} {h0 h:Heap} {i:Nat} {y:AV} {m:Nat} {new:List CV} (hg:h.get i=some (.cells [])) (he:h0.next≤h.next) (hs:source h sz y=some (m + 1,new)) (hl:new.length=(m + 1) * sz) (hb:m + 1≤1073741824) :
  ∃ h',zdw h sz (.c (.sl i 0 0 (.ex 0))) y=some (.c (.sl h.next 0 (m + 1) (.dy sz)),h')∧Mine sz h0 h' (.sl h.next 0 (m + 1) (.dy sz)) (m + 1) new∧h'.next=h.next + 1∧(∀ k,k < h.next→h'.get k=h.get k):=by
 have b1:Nat.ble (m + 1) 1073741824=true:=Nat.ble_eq_true_of_le (by omega)
 have b2:Nat.ble (m + 1) 0=false:=rfl
 have hr:h.read i 0 (0 * sz)=some []:=by rw [Nat.zero_mul,zcd hg (by simp)];rfl
 refine ⟨h.new (.cells new),?_,⟨hl,.inr ⟨h.next,rfl,zbz,he,Nat.lt_succ_self _⟩⟩,rfl,fun k hk=>zcp hk⟩
 unfold zdw
 simp only [hs,Nat.zero_add,b1,b2,hr,cond_true,cond_false,List.nil_append]
theorem zwu {sz:Nat} {h:Heap} {x:CV} {y:AV} (hx:x = .nils∨∃ i o n c,x = .sl i o n c) (hs:source h sz y=some (0,[])):zdw h sz (.c x) y=some (.c x,h):=by
 rcases hx with rfl | ⟨i,o,n,c,rfl⟩<;>simp only [zdw,hs]
section
variable {call:Nat→List AV→Heap→Option (AV × Heap)} {loc vals:List AV} {h cur:Heap} {n j k:Nat} {l r:List Inst} {ks:List (Nat × Heap)} {news:List (Nat × Nat × Blk)}
def zs3 (call:Nat→List AV→Heap→Option (AV × Heap)) (n:Nat) (l:List Inst) (loc:List AV) (h:Heap) (r:List Inst) (j k:Nat) (vals:List AV) (cur:Heap) (ks:List (Nat × Heap)) (news:List (Nat × Nat × Blk)) (v:Option ((Nat→AV) × Blk)):Option (Ex × List AV × Heap) :=
 match v with
 | some (f,b)=>zdz call n l loc h r (j + 1) (k + 1) (f (h.next + k) :: vals) (cur.put (h.next + k) b) ks ((j,h.next + k,b) :: news)
 | none=>none
theorem znn {f:Nat→AV} {b:Blk}:zs3 call n l loc h r j k vals cur ks news (some (f,b))=zdz call n l loc h r (j + 1) (k + 1) (f (h.next + k) :: vals) (cur.put (h.next + k) b) ks ((j,h.next + k,b) :: news):=rfl
theorem zabm {m:Nat} {z:List CV} {ps:List (Nat × Nat × X)}:zdi call n l loc h (.bsl m z ps) r j k vals cur ks news (some true)=zs3 call n l loc h r j k vals cur ks news (zbf loc vals (.bsl m z ps)):=rfl
theorem zabn {m b:Nat} {x y:X}:zdi call n l loc h (.app m b x y) r j k vals cur ks news (some true)=zpa call n l loc h r j k vals ks news (zdw cur m (x.eval loc vals) (y.eval loc vals)):=rfl
theorem zdj {m:Nat} {x:X}:zdi call n l loc h (.faddr m x) r j k vals cur ks news (some true)=zfp call n l loc h r j k vals cur ks news (zao loc vals cur (.faddr m x)):=rfl
theorem zki {x:X}:zdi call n l loc h (.nilchk x) r j k vals cur ks news (some true)=zfp call n l loc h r j k vals cur ks news (zao loc vals cur (.nilchk x)):=rfl
theorem zhq {x:X}:zdi call n l loc h (.mov x) r j k vals cur ks news (some false)=zdz call n l loc h r (j + 1) k (.tup [] :: vals) cur ks news:=rfl
theorem zhr {o:BinOp} {x y:X}:zdi call n l loc h (.bin o x y) r j k vals cur ks news (some false)=zdz call n l loc h r (j + 1) k (.tup [] :: vals) cur ks news:=rfl
theorem zs4 {x y z:X}:zdi call n l loc h (.pick x y z) r j k vals cur ks news (some false)=zdz call n l loc h r (j + 1) k (.tup [] :: vals) cur ks news:=rfl
theorem zgf {m:Nat} {x y:X}:zdi call n l loc h (.iaddr m x y) r j k vals cur ks news (some false)=zdz call n l loc h r (j + 1) k (.tup [] :: vals) cur ks news:=rfl
theorem zgg {m:Nat} {x:X}:zdi call n l loc h (.faddr m x) r j k vals cur ks news (some false)=zdz call n l loc h r (j + 1) k (.tup [] :: vals) cur ks news:=rfl
theorem zg5 {m:Nat} {g:Bool} {x:X}:zdi call n l loc h (.load m g x) r j k vals cur ks news (some false)=zdz call n l loc h r (j + 1) k (.tup [] :: vals) cur ks news:=rfl
end
theorem zdl {loc vals:List AV} {h:Heap} {z:List CV} {ps:List (Nat × Nat × X)}:zao loc vals h (.build z ps)=(match zb0 loc vals ps with
  | some ps=>match zb1 z ps with
   | some l=>some (.agg l)
   | none=>none
  | none=>none):=rfl
theorem zcm {loc vals:List AV} {h:Heap} {x:X}:zao loc vals h (.nilchk x)=(match x.eval loc vals with
  | .c (.ptr i o)=>some (.c (.ptr i o))
  | .c (.fn f l)=>some (.c (.fn f l))
  | _=>none):=rfl
end Lav
namespace Lav
open Go (IntKind)
namespace Q
def a (n:Nat):CV:=.int .i64 (.ofNat n)
def m (n:Nat):CV:=.int .i64 (.negSucc n)
def u (n:Nat):CV:=.int .u8 (.ofNat n)
def t:CV:=.bool true
def f:CV:=.bool false
def p (i o:Nat):CV:=.ptr i o
def s (i o n c:Nat):CV:=.sl i o n (.ex c)
def d (i o n c:Nat):CV:=.sl i o n (.dy c)
def ch (i:Nat):CV:=.ch i
def mp (i:Nat):CV:=.mp i
def ns:CV:=.nils
def str (l:List Nat):CV:=.str l
def rp (n:Nat) (l:List CV):List CV:=zeros n l
def cs (l:List CV):Blk:=.cells l
def ck (n:Nat) (l:List XV):Blk:=.chan n l
def mk (n:Nat) (l:List Ent):Blk:=.map n l
def ptG (l:List Blk) (ch:List (Nat × Blk)):Nat→Nat→List Blk
 | 0,_=>[]
 | k + 1,i=>(match ch.lookup i with
  | some b=>b
  | none=>l.getD i (.cells [])) :: ptG l ch k (i + 1)
def pt (l:List Blk) (n:Nat) (ch:List (Nat × Blk)):List Blk:=ptG l ch n 0
def tsG (ch:List (Nat × Nat)):Nat→Nat→List Nat
 | 0,_=>[]
 | k + 1,i=>(match ch.lookup i with
  | some b=>b
  | none=>i) :: tsG ch k (i + 1)
def ts (n:Nat) (ch:List (Nat × Nat)):List Nat:=tsG ch n 0
end Q
theorem Emb.empty (ρ:Nat→Nat) (g:Heap):Emb ρ (hp []) g:=⟨fun i b h=>by rw [zg3] at h;simp at h,fun i j h=>by rw [zg3] at h;simp at h⟩
section
variable {τ:Nat→Int} {ρ:Nat→Nat} {l:List Blk} {g g':Heap}
theorem zlr {i:Nat} (hi:i < l.length):(hp l).get i=some l[i]:=by rw [zg3];simp [hi]
theorem Emb.lt (E:Emb ρ (hp l) g) {i:Nat} (hi:i < l.length):ρ i < g.next:=(E.at_ i _ (zlr hi)).2.1
theorem Emb.get (E:Emb ρ (hp l) g) {i:Nat} (hi:i < l.length):g.get (ρ i)=some (l[i].mv τ0 ρ):=(E.at_ i _ (zlr hi)).2.2
theorem Emb.other (E:Emb ρ (hp l) g) (hn:g.next≤g'.next) (hk:∀ i,i < l.length→g'.get (ρ i)=g.get (ρ i)):Emb ρ (hp l) g' :=
 ⟨fun i b h=>by
  obtain ⟨h1,h2,h3⟩:=E.at_ i b h
  have hi:i < l.length:=h1
  exact ⟨h1,Nat.lt_of_lt_of_le h2 hn,(hk i hi).trans h3⟩,E.inj⟩
theorem Emb.new (E:Emb ρ (hp l) g) (b:Blk):Emb ρ (hp l) (g.new b):=E.other (Nat.le_succ _) fun _ hi=>zcp (E.lt hi)
theorem Emb.ext (E:Emb ρ (hp l) g) (x:Ext g g'):Emb ρ (hp l) g':=E.other x.1 fun _ hi=>x.2 _ (E.lt hi)
theorem Emb.snoc (E:Emb ρ (hp l) g) {q:Nat} {b b':Blk} (hq:g.get q=some b') (hl:q < g.next) (hb:b'=b.mv τ0 (fun i=>if i=l.length then q else ρ i)) (hw:l.all (Blk.lt l.length)=true) (hne:∀ i,i < l.length→ρ i≠q) :
  Emb (fun i=>if i=l.length then q else ρ i) (hp (l++[b])) g:=by
 have hlen:(l++[b]).length=l.length + 1:=by simp
 have lv:∀ {i},(hp (l++[b])).get i≠none→i < l.length + 1:=fun {i} h=>by
  rw [zg3] at h
  exact Classical.byContradiction fun hn=>h (List.getElem?_eq_none (by simp;omega))
 refine ⟨fun i c h=>?_,fun i j hi hj e=>?_⟩
 ·have hi:=lv (i:=i) (by rw [h];simp)
  rw [zg3] at h
  refine ⟨by rw [show (hp (l++[b])).next=l.length + 1 from hlen];exact hi,?_,?_⟩
  ·by_cases c1:i=l.length
   ·rw [if_pos c1];exact hl
   ·rw [if_neg c1];exact E.lt (by omega)
  ·by_cases c1:i=l.length
   ·subst c1
    simp at h
    subst h
    rw [if_pos rfl,hq,hb]
   ·have hi':i < l.length:=by omega
    rw [List.getElem?_append_left hi'] at h
    rw [if_neg c1]
    obtain ⟨_,rfl⟩:=List.getElem?_eq_some_iff.1 h
    rw [E.get hi']
    refine congrArg some (Blk.mv_congr (n:=l.length) (fun j hj=>?_) (List.all_eq_true.1 hw _ (List.getElem_mem hi')))
    rw [if_neg (by omega)]
 ·have hi':=lv hi
  have hj':=lv hj
  by_cases c1:i=l.length<;>by_cases c2:j=l.length
  ·omega
  ·rw [if_pos c1,if_neg c2] at e
   exact absurd e.symm (hne j (by omega))
  ·rw [if_neg c1,if_pos c2] at e
   exact absurd e (hne i (by omega))
  ·rw [if_neg c1,if_neg c2] at e
   exact E.inj i j (by rw [zlr (by omega)];simp) (by rw [zlr (by omega)];simp) e
end
structure At (h0:Heap) (ρ:Nat→Nat) (l:List Blk) (g:Heap):Prop where
 emb:Emb ρ (hp l) g
 young:∀ i,i < l.length→h0.next≤ρ i
 ext:Ext h0 g
theorem At.empty (h:Heap):At h (fun _=>0) [] h:=⟨Emb.empty _ h,fun _ hi=>absurd hi (Nat.not_lt_zero _),Ext.refl h⟩
theorem zfn {τ:Nat→Int} {o o':Over} {table:List (Nat × IRF)} (hT:clT table=true) (hO:OverM2 τ o o' table) {N d N' d' f:Nat} (hN:N≤N') (h20:20≤N') (hd:d≤d') {args:List AV} {l l':List Blk} {ts:List Nat} {n:Nat} {r:AV}
  (he:zc1 ts (evCallO o table N d f args (hp l))=some (r.mv τ0 (at0 ts),n,l'.map fun b=>some (b.mv τ0 (at0 ts)))) (hf:fit l args ts n=true)
  {h0:Heap} {ρ:Nat→Nat} {g:Heap} (A:At h0 ρ l g) :
  ∃ ρ' g',evCallO o' table N' d' f (mva τ ρ args) g=some (r.mv τ0 ρ',g')∧At h0 ρ' l' g'∧(∀ i,at0 ts i=i→i < l.length→ρ' i=ρ i)∧g.next≤g'.next∧∀ k,k < g.next→(∀ i,i < l.length→ρ i≠k)→g'.get k=g.get k:=by
 obtain ⟨g',e,E,hn,fr⟩:=seg hT hO hN h20 hd he hf A.emb
 have hx:=A.ext
 have lens:ts.length=l'.length:=by
  unfold zc1 at he
  split at he
  ·simp only [Option.some.injEq,Prod.mk.injEq] at he
   have:=congrArg List.length he.2.2
   simpa using this
  ·cases he
 rw [show (r.mv τ0 (at0 ts)).mv τ (Lav.ext ρ l.length g.next)=r.mv τ0 fun i=>Lav.ext ρ l.length g.next (at0 ts i) from AV.mv_mv r] at e
 refine ⟨_,g',e,⟨E,fun i _=>?_,Nat.le_trans hx.1 hn,fun k hk=>?_⟩,fun i hi hl=>?_,hn,fr⟩
 ·show h0.next≤Lav.ext ρ l.length g.next (at0 ts i)
  unfold Lav.ext
  have:=hx.1
  by_cases c:at0 ts i < l.length
  ·rw [if_pos c];exact A.young _ c
  ·rw [if_neg c];omega
 ·rw [fr k (Nat.lt_of_lt_of_le hk hx.1) fun i hi e=>by have:=A.young i hi;omega]
  exact hx.2 k hk
 ·show Lav.ext ρ l.length g.next (at0 ts i)=ρ i
  rw [hi];exact if_pos hl
theorem At.other {h0:Heap} {ρ:Nat→Nat} {l:List Blk} {g g':Heap} (A:At h0 ρ l g) (x:Ext g g'):At h0 ρ l g':=⟨A.emb.ext x,A.young,A.ext.trans x⟩
theorem At.snoc {h0:Heap} {ρ:Nat→Nat} {l:List Blk} {g:Heap} (A:At h0 ρ l g) (c:List CV) (hb:c.all (CV.lt 0)=true) (hn:c.all CV.nt=true) (hw:l.all (Blk.lt l.length)=true):At h0 (fun i=>if i=l.length then g.next else ρ i) (l++[.cells c]) (g.new (.cells c)):=by
 refine ⟨(A.emb.new _).snoc (b':=.cells c) zbz (Nat.lt_succ_self _) ?_ hw fun i hi=>Nat.ne_of_lt (A.emb.lt hi),fun i hi=>?_,A.ext.new _⟩
 ·show _=Blk.cells (mvs τ0 _ c)
  rw [zuu hb hn]
 ·have:=A.ext.1
  by_cases c:i=l.length
  ·simp only [c,if_true];exact this
  ·simp only [c,if_false];exact A.young i (by simp at hi;omega)
def cellAt (l:List Blk) (i o:Nat):Option CV:=match l[i]? with
 | some (.cells c)=>c[o]?
 | _=>none
theorem At.cell {h0:Heap} {ρ:Nat→Nat} {l:List Blk} {g:Heap} (A:At h0 ρ l g) {i o:Nat} {v:CV} (hv:cellAt l i o=some v):g.read (ρ i) o 1=some [v.mv τ0 ρ]:=by
 unfold cellAt at hv
 split at hv
 ·rename_i c hc
  have hi:i < l.length:=(List.getElem?_eq_some_iff.1 hc).1
  have:=A.emb.get hi
  rw [(List.getElem?_eq_some_iff.1 hc).2] at this
  refine zah this ?_
  show (c.map _)[o]? = _
  rw [List.getElem?_map,hv];rfl
 ·cases hv
theorem zbi {o:Over} {table:List (Nat × IRF)} {N d f:Nat} {F:IRF} {args:List AV} {h:Heap} (hO:o f=none) (hl:table.lookup f=some F) (hn:(args.length == F.nparams)=true) :
  evCallO o table N (d + 1) f args h=zso (evCallO o table N d) N F args h:=by
 rw [zit,hO]
 simp only [zem,hl,hn,cond_true];rfl
end Lav
namespace Lav
open Go (IntKind)
theorem zy8 {call:Nat→List AV→Heap→Option (AV × Heap)} {loc vals:List AV} {h:Heap} {x:X}:zcj loc vals call h (.mark x)=(match x.eval loc vals with
  | .c (.sl i o n c)=>match h.get i with
   | some (.cells _)=>bif Nat.ble 1 n then some (.c (.sl i o n c),h) else none
   | _=>none
  | _=>none):=rfl
theorem zbs {loc vals:List AV} {h:Heap} {i o n:Nat} {c:Cap}:zao loc (.c (.sl i o n c) :: vals) h (.len .sl (.val 0))=some (.c (.int .i64 (n:Int))):=rfl
theorem zen {a b:Int}:(a != b) = !(a == b):=rfl
theorem zaah {k:IntKind}:zda (.c (.int k 0))=some 0:=rfl
section
variable {call:Nat→List AV→Heap→Option (AV × Heap)} {loc vals:List AV} {h cur:Heap} {n j k:Nat} {l r:List Inst} {ks:List (Nat × Heap)} {news:List (Nat × Nat × Blk)}
theorem zrp {x:X} {a b:Option X}:zcj loc vals call h (.sstr x a b)=zeb h (zao loc vals h (.sstr x a b)):=rfl
theorem zuw {x:X} {a b:Option X}:zdi call n l loc h (.sstr x a b) r j k vals cur ks news (some true)=zfp call n l loc h r j k vals cur ks news (zao loc vals cur (.sstr x a b)):=rfl
theorem zabo {x:X}:zdi call n l loc h (.s2b x) r j k vals cur ks news (some true)=zs3 call n l loc h r j k vals cur ks news (zbf loc vals (.s2b x)):=rfl
theorem zux {x:X} {a b:Option X}:zao loc vals h (.sstr x a b)=(match x.eval loc vals with
  | .c (.str s)=>match bound loc vals a 0,bound loc vals b s.length with
   | some l,some r=>bif Nat.ble l r && Nat.ble r s.length then some (.c (.str ((s.drop l).take (r - l)))) else none
   | _,_=>none
  | _=>none):=rfl
end
end Lav
namespace Lav
open Go (IntKind BinOp UnOp)
section
variable {call:Nat→List AV→Heap→Option (AV × Heap)} {loc vals:List AV} {h cur:Heap} {n j k:Nat} {l r:List Inst} {ks:List (Nat × Heap)} {news:List (Nat × Nat × Blk)}
theorem zy9 {z:List CV} {ps:List (Nat × Nat × X)}:zdi call n l loc h (.build z ps) r j k vals cur ks news (some true)=zfp call n l loc h r j k vals cur ks news (zao loc vals cur (.build z ps)):=rfl
end
def zeh (b:Bool):CV:=.bool b
end Lav
namespace Lav
open Go
section
variable {H:Type} {enc:TypeId × Value→H} {P:Program} {w:World} {base:Nat} {spare:Nat→Bool} {held:Bool}
end
def Recs (sz:Nat) (h:Heap) (x:CV) (n:Nat) (l:List Int):Prop :=
 l.length=n * sz∧((x = .nils∧n=0)∨∃ i o c,x = .sl i o n c∧i < h.next∧∀ j v,l[j]? = some v→h.read i (o + j) 1=some [.int .i64 v])
theorem Recs.len {sz:Nat} {h0 h:Heap} {x:CV} {n:Nat} {l:List Int} (r:Recs sz h0 x n l) {loc vals:List AV} {X:X} (hX:X.eval loc vals = .c x):zao loc vals h (.len .sl X)=some (.c (.int .i64 (n:Int))):=by
 rcases r.2 with ⟨rfl,rfl⟩ | ⟨i,o,c,rfl,_,_⟩<;>simp only [zao,hX]<;>rfl
end Lav
namespace Lav
open Go (IntKind BinOp UnOp)
theorem zrq {m r:List CV} {o a b c:Nat} (h:cut m o a=some r) (hb:b + c≤a):cut m (o + b) c=some ((r.drop b).take c):=by
 unfold cut at h
 cases hl:Nat.ble (o + a) m.length with
 | false=>rw [hl] at h;cases h
 | true =>
  rw [hl] at h
  have hle:=Nat.le_of_ble_eq_true hl
  simp only [cond_true,Option.some.injEq] at h
  subst h
  rw [zmn (by omega),List.drop_take,List.take_take,List.drop_drop,Nat.min_eq_left (by omega)]
theorem zfh {h:Heap} {i o a b c:Nat} {r:List CV} (hr:h.read i o a=some r) (hb:b + c≤a):h.read i (o + b) c=some ((r.drop b).take c):=by
 unfold Heap.read at *
 split at hr
 ·exact zrq hr hb
 ·exact zrq hr hb
 ·cases hr
def bits (n:Nat) (f:Nat→Bool):List CV:=(List.range n).map fun j=>.bool (f j)
section
variable {call:Nat→List AV→Heap→Option (AV × Heap)} {loc vals:List AV} {h cur:Heap} {n j k:Nat} {l r:List Inst} {ks:List (Nat × Heap)} {news:List (Nat × Nat × Blk)}
end
end Lav
namespace Lav
open Go
inductive CK where
 | int
 | bool
 | bytes
 deriving DecidableEq
section
variable {H:Type} {enc:TypeId × Value→H} {P:Program} {w:World} {base:Nat} {held:Bool}
end
def zza (h:Heap) (c:CV) (l:List Int):Prop :=
 (c = .nils∧l=[])∨∃ i,c = .sl i 0 l.length (.dy 1)∧i < h.next∧(l≠[]→h.get i=some (.ro (l.map (.int .u8))))∧∀ n∈l,(Lit.int .u8 n).wf=true
def CellIs (h:Heap):CK→CV→Prop
 | .int,c=>∃ n:Int,c = .int .i64 n∧(Lit.int .i64 n).wf=true
 | .bool,c=>∃ b,c = .bool b
 | .bytes,c=>∃ l,zza h c l
def Mix (ks:List CK) (h:Heap) (x:CV) (n:Nat) (cs:List CV):Prop :=
 cs.length=n * ks.length∧((x = .nils∧n=0)∨∃ i,x = .sl i 0 n (.dy ks.length)∧i < h.next∧(n≠0→h.get i=some (.ro cs))) ∧
 ∀ i j k,i < n→ks[j]? = some k→∃ c,cs[i * ks.length + j]? = some c∧CellIs h k c
theorem Mix.len {ks:List CK} {h0 h:Heap} {x:CV} {n:Nat} {cs:List CV} (r:Mix ks h0 x n cs) {loc vals:List AV} {X:X} (hX:X.eval loc vals = .c x):zao loc vals h (.len .sl X)=some (.c (.int .i64 (n:Int))):=by
 rcases r.2.1 with ⟨rfl,rfl⟩ | ⟨i,rfl,_,_⟩<;>simp only [zao,hX]<;>rfl
end Lav
set_option maxRecDepth 100000
namespace Lav
open Go (IntKind)
def Bytes (h:Heap) (x:CV) (bs:List (BitVec 8)):Prop :=
 (x = .nils∧bs=[])∨∃ i o c,x = .sl i o bs.length c∧i < h.next∧∀ j b,bs[j]? = some b→h.read i (o + j * 1) 1=some [.int .u8 (b.toNat:Int)]
def u8c (b:BitVec 8):CV:=.int .u8 (b.toNat:Int)
def u8s (bs:List (BitVec 8)):List CV:=bs.map u8c
theorem zzb (bs:List (BitVec 8)):(u8s bs).length=bs.length:=by simp [u8s]
theorem Bytes.ext {h h':Heap} {x:CV} {bs:List (BitVec 8)} (hx:Bytes h x bs) (e:Ext h h'):Bytes h' x bs:=by
 rcases hx with h1 | ⟨i,o,c,h1,h2,h3⟩
 ·exact .inl h1
 ·exact .inr ⟨i,o,c,h1,Nat.lt_of_lt_of_le h2 e.1,fun j b hj=>(e.read h2).trans (h3 j b hj)⟩
theorem Bytes.len {h h0:Heap} {x:CV} {bs:List (BitVec 8)} (hx:Bytes h0 x bs) {loc vals:List AV} {X':X} (hX:X'.eval loc vals = .c x):zao loc vals h (.len .sl X')=some (.c (.int .i64 (bs.length:Int))):=by
 rcases hx with ⟨rfl,rfl⟩ | ⟨i,o,c,rfl,_,_⟩<;>simp only [zao,hX]<;>rfl
theorem Bytes.source {h:Heap} {x:CV} {bs:List (BitVec 8)} (hx:Bytes h x bs):source h 1 (.c x)=some (bs.length,u8s bs):=by
 rcases hx with ⟨rfl,rfl⟩ | ⟨i,o,c,rfl,hi,hr⟩
 ·rfl
 ·by_cases h0:bs=[]
  ·subst h0
   simp only [Lav.source,List.length_nil,Nat.zero_mul]
   cases hr0:h.read i o 0 with
   | none=>rfl
   | some l =>
    have:l=[]:=by
     have key:∀ m,cut m o 0=some l→l=[]:=fun m hm=>by
      unfold cut at hm
      cases hc:Nat.ble (o + 0) m.length with
      | false=>rw [hc] at hm;cases hm
      | true=>rw [hc] at hm;simp at hm;exact hm
     unfold Heap.read at hr0
     split at hr0
     ·exact key _ hr0
     ·exact key _ hr0
     ·cases hr0
    subst this;rfl
  ·have hpos:0 < bs.length:=List.length_pos_iff.2 h0
   have key:∀ m:List CV,(∀ j b,bs[j]? = some b→cut m (o + j * 1) 1=some [u8c b])→cut m o (bs.length * 1)=some (u8s bs):=by
    intro m hm
    have cut1:∀ p v,cut m p 1=some [v]→p < m.length∧m[p]? = some v:=by
     intro p v hc
     unfold cut at hc
     cases hb:Nat.ble (p + 1) m.length with
     | false=>rw [hb] at hc;cases hc
     | true =>
      rw [hb] at hc
      have hl:p + 1≤m.length:=Nat.le_of_ble_eq_true hb
      simp only [cond_true,Option.some.injEq] at hc
      rw [List.drop_eq_getElem_cons (by omega),List.take_succ_cons,List.take_zero] at hc
      simp only [List.cons.injEq,and_true] at hc
      exact ⟨by omega,by rw [List.getElem?_eq_getElem (by omega),hc]⟩
    have hlast:=(cut1 _ _ (hm (bs.length - 1) bs[bs.length - 1] (by simp))).1
    rw [Nat.mul_one,zmn (by omega)]
    congr 1
    apply List.ext_getElem?
    intro j
    rcases Nat.lt_or_ge j bs.length with hj | hj
    ·have:=(cut1 _ _ (hm j bs[j] (by simp [hj]))).2
     rw [Nat.mul_one] at this
     rw [List.getElem?_take,if_pos hj,List.getElem?_drop,this];simp [hj,u8s]
    ·rw [List.getElem?_take,if_neg (by omega),List.getElem?_eq_none (by simp [u8s];omega)]
   have whole:h.read i o (bs.length * 1)=some (u8s bs):=by
    unfold Heap.read at hr ⊢
    cases hg:h.get i with
    | none=>have:=hr 0 bs[0] (by simp [hpos]);simp [hg] at this
    | some b =>
     cases b with
     | cells m=>simp only [hg] at hr ⊢;exact key m hr
     | ro m=>simp only [hg] at hr ⊢;exact key m hr
     | chan c m=>have:=hr 0 bs[0] (by simp [hpos]);simp [hg] at this
     | map c m=>have:=hr 0 bs[0] (by simp [hpos]);simp [hg] at this
   simp only [Lav.source,whole]
def strOf (bs:List (BitVec 8)):List Nat:=bs.map BitVec.toNat
theorem zoy:∀ {a b:List (BitVec 8)},strOf a=strOf b→a=b
 | [],[],_=>rfl
 | x :: a,y :: b,h=>by
  simp only [strOf,List.map_cons,List.cons.injEq] at h
  rw [BitVec.eq_of_toNat_eq h.1,zoy (a:=a) (b:=b) h.2]
 | [],_ :: _,h=>by simp [strOf] at h
 | _ :: _,[],h=>by simp [strOf] at h
theorem zlg (a b:List (BitVec 8)):(strOf a == strOf b)=decide (a=b):=by
 by_cases h:a=b
 ·subst h;simp
 ·rw [decide_eq_false h]
  simp only [beq_eq_false_iff_ne,ne_eq]
  exact fun e=>h (zoy e)
theorem zje:∀ (bs:List (BitVec 8)),bytesOf (u8s bs)=some (strOf bs)
 | []=>rfl
 | b :: bs=>by
  have hb:Nat.blt b.toNat 256=true:=Nat.ble_eq_true_of_le b.isLt
  have:=zje bs
  show bytesOf (.int .u8 (.ofNat b.toNat) :: u8s bs)=_
  simp only [bytesOf,hb,cond_true,this];rfl
theorem zno {loc vals:List AV} {h:Heap} {X':X} {i o n:Nat} {c:Cap} {bs:List (BitVec 8)} (hX:X'.eval loc vals = .c (.sl i o n c)) (hr:h.read i o n=some (u8s bs)):zao loc vals h (.b2s X')=some (.c (.str (strOf bs))):=by
 simp only [zao,hX,hr,zje]
theorem zn8 {h:Heap} {i o n:Nat} {bs:List (BitVec 8)} (hg:h.get i=some (.cells (u8s bs))) (hn:o + n=bs.length):h.read i o n=some (u8s (bs.drop o)):=by
 rw [zcd hg (by rw [zzb];omega)]
 congr 1
 rw [List.take_of_length_le (by simp [u8s];omega)]
 simp [u8s,List.map_drop]
theorem zoz (a b:List (BitVec 8)):strOf (a++b)=strOf a++strOf b:=by simp [strOf]
theorem zdu (a:List (BitVec 8)):(strOf a).length=a.length:=by simp [strOf]
theorem zzc (a b:List (BitVec 8)):u8s (a++b)=u8s a++u8s b:=by simp [u8s]
def zg6 (B bs:List (BitVec 8)) (off:Nat):List (BitVec 8):=B.take off++bs++B.drop (off + bs.length)
theorem zuy {B bs:List (BitVec 8)} {off:Nat} (h:off + bs.length≤B.length):(zg6 B bs off).length=B.length:=by
 simp [zg6];omega
theorem zqg:∀ n:Nat,zeros n [.int .u8 0]=u8s (List.replicate n 0#8)
 | 0=>rfl
 | n + 1=>by simp only [zeros,zqg n,List.replicate_succ,u8s,List.map_cons,u8c];rfl
end Lav
set_option maxRecDepth 100000
namespace Lav
open Go (IntKind)
section
variable {h:Heap} {n bx o:Nat} {cc:Cap} {xs:List Int}
end
end Lav
set_option maxRecDepth 100000
set_option linter.unusedSimpArgs false
namespace Lav
open Go (IntKind)
section
variable {h:Heap} {n:Nat} {x:CV} {cs:List CV} {ks:List CK}
end
theorem zcn {call:Nat→List AV→Heap→Option (AV × Heap)} {N n:Nat} {keep:List Bool} {body:IR} {h:Heap} {C:List AV} {Post:Ex × List AV × Heap→Prop}
  (H:∀ loc,zbv keep loc=C→∃ r,zcr call N keep body n loc h=some r∧Post r) (h0:zbv keep C=C) (hn:0 < n:=by omega):∃ r,Post r∧∀ loc,zbv keep loc=C→zcr call N keep body n loc h=some r:=by
 obtain ⟨n,rfl⟩ : ∃ k,n=k + 1:=⟨n - 1,by omega⟩
 obtain ⟨r,hr,hp⟩:=H C h0
 refine ⟨r,hp,fun loc hl=>?_⟩
 rw [← hr,zfd,zfd,hl,h0]
end Lav
set_option maxRecDepth 100000
namespace Lav
open Go (IntKind)
abbrev OS:Over:=zlo 82 178 196
structure MS where
 th:List Bool
 bd:List (List (BitVec 8))
 hs:List (List Int)
structure SP where
 t:Nat
 b:Nat
 hh:Nat
 hi:List Nat
 ct:Cap
 cb:Cap
 ch:Cap
def SP.own (z:SP):List Nat:=z.t :: z.b :: z.hh :: z.hi
def SP.hj (z:SP) (i:Nat):Nat:=z.hi.getD i 0
def MS.hg (s:MS) (i:Nat):List Int:=s.hs.getD i []
def zfx (l:List (BitVec 8)):CV:=.str (strOf l)
structure SR (h:Heap) (x:List CV) (z:SP) (s:MS):Prop where
 xe:x=[.sl z.t 0 s.th.length z.ct,.sl z.b 0 s.th.length z.cb,.sl z.hh 0 s.hs.length z.ch]
 t:h.get z.t=some (.cells (s.th.map zeh))
 b:h.get z.b=some (.cells (s.bd.map zfx))
 hh:h.get z.hh=some (.cells (z.hi.map fun i=>.sl i 0 6 (.ex 6)))
 hl:z.hi.length=s.hs.length
 hi:∀ i,i < s.hs.length→h.get (z.hj i)=some (.cells ((s.hg i).map zbw))∧(s.hg i).length=6
 lt:∀ j∈z.own,j < h.next
 nd:z.own.Nodup
 len:s.bd.length=s.th.length
 bl:∀ l∈s.bd,l.length=16
 few:s.th.length≤48
 fewh:s.hs.length≤6
 hv:∀ l∈s.hs,∀ v∈l,v < (s.th.length:Int)
section
variable {N d:Nat} {h:Heap} {x:List CV} {z:SP} {s:MS}
theorem SR.at_hi (S:SR h x z s) {i:Nat} (hi:i < s.hs.length):z.hj i∈z.hi:=by
 unfold SP.hj
 have:i < z.hi.length:=by rw [S.hl];exact hi
 simp [List.getD_eq_getElem?_getD,this]
theorem SR.extB {h':Heap} {L:List Nat} (S:SR h x z s) (e:ExtB L h h') (hd:∀ j∈z.own,j ∉ L):SR h' x z s:=by
 have k:∀ j∈z.own,∀ {b},h.get j=some b→h'.get j=some b:=fun j hj b hb=>e.at_ hb (S.lt j hj) (hd j hj)
 exact ⟨S.xe,k _ (by simp [SP.own]) S.t,k _ (by simp [SP.own]) S.b,k _ (by simp [SP.own]) S.hh,S.hl,fun i hi=>⟨k _ (by simp [SP.own,S.at_hi hi]) (S.hi i hi).1,(S.hi i hi).2⟩,
  fun j hj=>Nat.lt_of_lt_of_le (S.lt j hj) e.1,S.nd,S.len,S.bl,S.few,S.fewh,S.hv⟩
theorem SR.ext {h':Heap} (S:SR h x z s) (e:Ext h h'):SR h' x z s:=S.extB (e.b []) (by simp)
theorem SR.rt (S:SR h x z s) {i:Nat} (hi:i < s.th.length):h.read z.t i 1=some [.bool (s.th.getD i false)]:=by
 refine zah S.t ?_
 simp [List.getD_eq_getElem?_getD,hi,zeh]
theorem SR.rb (S:SR h x z s) {i:Nat} (hi:i < s.th.length):h.read z.b i 1=some [.str (strOf (s.bd.getD i []))]:=by
 refine zah S.b ?_
 rw [← S.len] at hi
 simp [List.getD_eq_getElem?_getD,hi,zfx]
theorem SR.rh (S:SR h x z s) {i:Nat} (hi:i < s.hs.length):h.read z.hh i 1=some [.sl (z.hj i) 0 6 (.ex 6)]:=by
 refine zah S.hh ?_
 rw [← S.hl] at hi
 simp [SP.hj,List.getD_eq_getElem?_getD,hi]
theorem SR.rk (S:SR h x z s) {i k:Nat} (hi:i < s.hs.length) (hk:k < 6):h.read (z.hj i) k 1=some [.int .i64 ((s.hg i).getD k 0)]:=by
 obtain ⟨h1,h2⟩:=S.hi i hi
 refine zah h1 ?_
 rw [← h2] at hk
 simp [List.getD_eq_getElem?_getD,hk,zbw]
theorem SR.bl' (S:SR h x z s) {i:Nat} (hi:i < s.th.length):(s.bd.getD i []).length=16:=by
 rw [← S.len] at hi
 rw [List.getD_eq_getElem?_getD,List.getElem?_eq_getElem hi]
 exact S.bl _ (List.getElem_mem hi)
def zdb (hs:List (List Int)) (c k:Int):Int:=if c < 0∨(hs.length:Int)≤c∨k < 0∨6≤k then -1 else (hs.getD c.toNat []).getD k.toNat 0
theorem zls (S:SR h x z s) (c k:Int):∃ h',evCallO OS table N (d + 1) 95 [.agg x,.c (.int .i64 c),.c (.int .i64 k)] h=some (.c (.int .i64 (zdb s.hs c k)),h')∧Ext h h':=by
 have xe:=S.xe
 subst xe
 have e1:=(Ext.refl h).new (.cells [.sl z.t 0 s.th.length z.ct,.sl z.b 0 s.th.length z.cb,.sl z.hh 0 s.hs.length z.ch])
 have r2:(h.new (.cells [.sl z.t 0 s.th.length z.ct,.sl z.b 0 s.th.length z.cb,.sl z.hh 0 s.hs.length z.ch])).read h.next 2 1=some [.sl z.hh 0 s.hs.length z.ch]:=zah zbz rfl
 have S':=S.ext e1
 rw [zbi (F:=ir95) rfl rfl rfl]
 unfold ir95 zdb
 rw [zbp]
 by_cases c1:c < 0
 ·have v1:decide (c < 0)=true:=decide_eq_true c1
  rw [if_pos (.inl c1)]
  simp only [za9,zap,zac,zbx,zas,zat,zav,zbl,zad,zaj,zaa,zau,zae,zbn,zaf,zar,zax,zbq,zba,zco,zc8,zaz,za1,za6,zbe,zbf,zag,za7,X.eval,zal,zai,List.map_cons,List.map_nil,List.getD_cons_zero,List.getD_cons_succ,List.getD_nil,List.set_cons_zero,List.set_cons_succ,zay,zaq,zab,zak,intArith,shift,cond_true,cond_false,BEq.rfl,AV.cells,Int.reduceNeg,Int.reduceLT,decide_false,tf,v1]
  exact ⟨_,rfl,e1⟩
 have v1:decide (c < 0)=false:=decide_eq_false c1
 obtain ⟨i,rfl⟩:=Int.eq_ofNat_of_zero_le (show 0≤c by omega)
 by_cases c2:s.hs.length≤i
 ·have v2:decide ((i:Int) ≥ (s.hs.length:Int))=true:=decide_eq_true (by omega)
  rw [if_pos (.inr (.inl (by omega)))]
  simp only [za9,zap,zac,zbx,zas,zat,zav,zbl,zad,zaj,zaa,zau,zae,zbn,zaf,zar,zax,zbq,zba,zbg,za4,zco,zc8,zaz,za1,za6,zbe,zbf,zag,za7,X.eval,zal,zai,List.map_cons,List.map_nil,List.getD_cons_zero,List.getD_cons_succ,List.getD_nil,List.set_cons_zero,List.set_cons_succ,zay,zaq,zab,zak,intArith,shift,cond_true,cond_false,BEq.rfl,AV.cells,AV.ofCells,Nat.zero_add,Int.reduceNeg,Int.reduceLT,decide_false,tf,za0,za3,za8,AV.ofCells,v1,r2,zbs,v2]
  exact ⟨_,rfl,e1⟩
 have hi:i < s.hs.length:=by omega
 have v2:decide ((i:Int) ≥ (s.hs.length:Int))=false:=decide_eq_false (by omega)
 by_cases c3:k < 0
 ·have v3:decide (k < 0)=true:=decide_eq_true c3
  rw [if_pos (.inr (.inr (.inl c3)))]
  simp only [za9,zap,zac,zbx,zas,zat,zav,zbl,zad,zaj,zaa,zau,zae,zbn,zaf,zar,zax,zbq,zba,zbg,za4,zco,zc8,zaz,za1,za6,zbe,zbf,zag,za7,X.eval,zal,zai,List.map_cons,List.map_nil,List.getD_cons_zero,List.getD_cons_succ,List.getD_nil,List.set_cons_zero,List.set_cons_succ,zay,zaq,zab,zak,intArith,shift,cond_true,cond_false,BEq.rfl,AV.cells,AV.ofCells,Nat.zero_add,Int.reduceNeg,Int.reduceLT,decide_false,tf,za0,za3,za8,AV.ofCells,v1,r2,zbs,v2,v3]
  exact ⟨_,rfl,e1⟩
 have v3:decide (k < 0)=false:=decide_eq_false c3
 have m1:Nat.blt i s.hs.length=true:=zc0 hi
 have k1:=S'.rh hi
 by_cases c4:6≤k
 ·have v4:decide (k ≥ 6)=true:=decide_eq_true c4
  rw [if_pos (.inr (.inr (.inr c4)))]
  simp only [za9,zap,zac,zbx,zas,zat,zav,zbl,zad,zaj,zaa,zau,zae,zaf,zar,zax,zbq,zba,zbg,za4,zbt,zco,zc8,zaz,za1,za6,zbe,zbf,zag,za7,X.eval,zal,zai,List.map_cons,List.map_nil,List.getD_cons_zero,List.getD_cons_succ,List.getD_nil,List.set_cons_zero,List.set_cons_succ,zay,zaq,zab,zak,intArith,shift,zbc,cond_true,cond_false,BEq.rfl,AV.cells,AV.ofCells,Nat.zero_add,Int.reduceNeg,Int.reduceLT,decide_false,za0,za3,za8,zbr,AV.ofCells,v1,r2,zbs,v2,v3,m1,k1,Int.cast_ofNat_Int,Nat.mul_one,v4]
  exact ⟨_,rfl,e1⟩
 have v4:decide (k ≥ 6)=false:=decide_eq_false c4
 obtain ⟨j,rfl⟩:=Int.eq_ofNat_of_zero_le (show 0≤k by omega)
 have hj:j < 6:=by omega
 have m2:Nat.blt j 6=true:=zc0 hj
 have k2:=S'.rk hi hj
 rw [if_neg (by omega)]
 simp only [za9,zap,zac,zas,zat,zam,za5,zbl,zad,zaj,zaa,zau,zae,zaf,zar,zax,zbq,zba,zbg,za4,zbt,zco,zc8,zaz,za1,za6,zbe,zbf,zag,za7,X.eval,zal,zai,List.map_cons,List.map_nil,List.getD_cons_zero,List.getD_cons_succ,List.getD_nil,List.set_cons_zero,List.set_cons_succ,zay,zaq,zab,zak,intArith,shift,zbc,cond_true,cond_false,BEq.rfl,AV.cells,AV.ofCells,Nat.zero_add,Int.reduceNeg,Int.reduceLT,decide_false,za0,za3,za8,zbr,AV.ofCells,v1,r2,zbs,v2,v3,m1,k1,Int.cast_ofNat_Int,Nat.mul_one,v4,m2,k2]
 exact ⟨_,rfl,e1⟩
def zca:List Int→Nat
 | []=>0
 | a :: r=>if a < 0 then 0 else zca r + 1
theorem zqh:∀ l,zca l≤l.length
 | []=>Nat.le_refl _
 | a :: r=>by unfold zca;have:=zqh r;split<;>simp<;>omega
theorem zmo:∀ {l:List Int} {i:Nat},i < zca l→¬ l.getD i 0 < 0
 | [],i,h=>by simp [zca] at h
 | a :: r,i,h=>by
  unfold zca at h
  split at h
  ·omega
  ·cases i with
   | zero=>simpa using ‹¬ a < 0›
   | succ i=>simpa using zmo (l:=r) (i:=i) (by omega)
theorem zmp:∀ {l:List Int},zca l < l.length→l.getD (zca l) 0 < 0
 | [],h=>by simp [zca] at h
 | a :: r,h=>by
  unfold zca at h ⊢
  split
  ·simpa
  ·rename_i hn
   rw [if_neg hn] at h
   simpa using zmp (l:=r) (by simpa using h)
theorem zrr (S:SR h x z s) {c:Nat} (hc:c < s.hs.length) (hN:10≤N):∃ h',evCallO OS table N (d + 1) 134 [.agg x,.c (.int .i64 (c:Int))] h=some (.c (.bool (decide (zca (s.hg c) < 6))),h')∧Ext h h':=by
 have xe:=S.xe
 subst xe
 have e1:=(Ext.refl h).new (.cells [.sl z.t 0 s.th.length z.ct,.sl z.b 0 s.th.length z.cb,.sl z.hh 0 s.hs.length z.ch])
 generalize hg:h.new (.cells [.sl z.t 0 s.th.length z.ct,.sl z.b 0 s.th.length z.cb,.sl z.hh 0 s.hs.length z.ch])=H at e1
 have r2:H.read h.next 2 1=some [.sl z.hh 0 s.hs.length z.ch]:=by rw [← hg];exact zah zbz rfl
 have S':=S.ext e1
 have h6:=(S.hi c hc).2
 have m1:Nat.blt c s.hs.length=true:=zc0 hc
 have k1:=S'.rh hc
 have L:∀ loc,zbv ir134_k0 loc=[.junk,.c (.int .i64 (c:Int)),.c (.ptr h.next 0),.junk,.c (.int .i64 0),.junk,.junk] →
   ∃ r,zcr (evCallO OS table N d) N ir134_k0 ir134_l0 N loc H=some r∧((zca (s.hg c)=6∧∃ a b e q l,r=(.exit 0,a :: b :: e :: q :: l,H))∨(zca (s.hg c) < 6∧∃ a b e l,r=(.ret,a :: b :: e :: .c (.bool true) :: l,H))):=by
  intro loc hloc
  refine zcl (n:=6) (fun i loc G=>G=H∧i≤zca (s.hg c)∧loc=[.junk,.c (.int .i64 (c:Int)),.c (.ptr h.next 0),.junk,.c (.int .i64 (i:Int)),.junk,.junk]) _ ?_ ⟨rfl,Nat.zero_le _,hloc⟩ (by omega)
  rintro i loc G hi ⟨rfl,hf,rfl⟩
  unfold ir134_l0
  by_cases hlt:i < 6
  ·have v1:decide ((i:Int) < 6)=true:=decide_eq_true (by omega)
   have v2:=zdm (i:=i) (by omega)
   have m2:Nat.blt i 6=true:=zc0 hlt
   have k2:=S'.rk hc hlt
   by_cases hneg:(s.hg c).getD i 0 < 0
   ·right
    have v3:decide ((s.hg c).getD i 0 < 0)=true:=decide_eq_true hneg
    simp only [zap,zac,zbx,zas,zat,zav,za2,zcg,za5,zbl,zad,zaj,zaa,zae,zaf,zar,zax,zbg,za4,zbt,za6,zag,X.eval,zal,zai,List.getD_cons_zero,List.getD_cons_succ,List.set_cons_zero,List.set_cons_succ,zay,zaq,zab,zak,intArith,shift,zbc,cond_true,cond_false,BEq.rfl,AV.ofCells,Nat.zero_add,Int.reduceLT,decide_false,za0,za3,za8,zbr,AV.ofCells,r2,m1,k1,Nat.mul_one,zbs,Int.cast_ofNat_Int,v1,m2,k2,v3]
    refine ⟨_,rfl,by simp,.inr ⟨?_,_,_,_,_,rfl⟩⟩
    exact Classical.byContradiction fun hn=>zmo (i:=i) (l:=s.hg c) (by omega) hneg
   ·left
    have v3:decide ((s.hg c).getD i 0 < 0)=false:=decide_eq_false hneg
    simp only [zap,zac,zas,zat,zav,zam,za2,zbm,za5,zad,zaj,zaa,zae,zaf,zar,zax,zbg,za4,zbt,za6,zag,X.eval,zal,zai,List.getD_cons_zero,List.getD_cons_succ,List.set_cons_zero,List.set_cons_succ,zay,zaq,zab,zak,intArith,shift,zbc,cond_true,cond_false,BEq.rfl,AV.ofCells,Nat.zero_add,Int.reduceLT,decide_false,za0,za3,za8,zbr,AV.ofCells,r2,m1,k1,Nat.mul_one,zbs,Int.cast_ofNat_Int,v1,m2,k2,v3,v2]
    refine ⟨hlt,_,_,rfl,rfl,?_,rfl⟩
    rcases Nat.lt_or_ge i (zca (s.hg c)) with hl | hl
    ·exact hl
    ·have:zca (s.hg c)=i:=by omega
     exact absurd (zmp (l:=s.hg c) (by omega)) (by rw [this];exact hneg)
  ·right
   have:i=6:=by omega
   subst this
   have v1:decide (((6:Nat):Int) < 6)=false:=decide_eq_false (by omega)
   have:=zqh (s.hg c)
   simp only [zap,zac,zb2,zas,zat,zam,zcf,zad,zaj,zaa,zae,zaf,zar,zax,zbg,za4,zbt,za6,zag,X.eval,zal,zai,List.getD_cons_zero,List.getD_cons_succ,List.set_cons_zero,List.set_cons_succ,zay,zaq,zab,zak,intArith,shift,zbc,cond_true,cond_false,BEq.rfl,AV.ofCells,Nat.zero_add,Int.reduceLT,decide_false,za0,za3,za8,zbr,AV.ofCells,r2,m1,k1,Nat.mul_one,zbs,Int.cast_ofNat_Int]
   exact ⟨_,rfl,by simp,.inl ⟨by omega,_,_,_,_,_,rfl⟩⟩
 obtain ⟨r,hp,hr⟩:=zcn L rfl
 rw [zbi (F:=ir134) rfl rfl rfl]
 unfold ir134
 rw [zbp]
 simp only [za9,zap,zac,zas,za2,zb9,zad,zaj,zaa,zae,zaf,zar,zbq,zbf,za7,X.eval,zai,List.map_cons,List.map_nil,List.getD_cons_zero,List.getD_cons_succ,List.getD_nil,List.set_cons_zero,List.set_cons_succ,AV.cells,hg]
 rw [hr _ rfl]
 rcases hp with ⟨h1,a,b,e,q,l,rfl⟩ | ⟨h1,a,b,e,l,rfl⟩
 ·have:decide (zca (s.hg c) < 6)=false:=decide_eq_false (by omega)
  simp only [zap,zac,zas,zbu,zbl,zad,zaj,zaa,zae,zaf,zar,zc8,zaz,za1,X.eval,zai,List.getD_cons_zero,List.getD_cons_succ,List.set_cons_zero,List.set_cons_succ,cond_true,BEq.rfl,zbk,this]
  exact ⟨_,rfl,e1⟩
 ·have:decide (zca (s.hg c) < 6)=true:=decide_eq_true h1
  simp only [zbx,zcg,zc8,zaz,za1,List.getD_cons_zero,List.getD_cons_succ,zbk,this]
  exact ⟨_,rfl,e1⟩
def MS.setH (s:MS) (c i:Nat) (v:Int):MS:={ s with hs:=s.hs.set c ((s.hg c).set i v) }
theorem SR.inj (S:SR h x z s) {i j:Nat} (hi:i < s.hs.length) (hj:j < s.hs.length) (e:z.hj i=z.hj j):i=j:=by
 have n:=S.nd
 simp only [SP.own,List.nodup_cons] at n
 have a:=S.hl
 have:z.hi[i]'(by omega)=z.hi[j]'(by omega):=by simpa [SP.hj,List.getD_eq_getElem?_getD,a,hi,hj] using e
 exact (List.getElem_inj n.2.2.2).1 this
theorem SR.setH (S:SR h x z s) {c i:Nat} (hc:c < s.hs.length) (v:Int) (hv:v < (s.th.length:Int)):SR (h.put (z.hj c) (.cells (((s.hg c).set i v).map zbw))) x z (s.setH c i v):=by
 have n:=S.nd
 simp only [SP.own,List.nodup_cons,List.mem_cons,not_or] at n
 obtain ⟨⟨n1,n2,n3⟩,⟨n4,n5⟩,n6,n7⟩:=n
 have hm:=S.at_hi hc
 have xe:=S.xe
 have ne:∀ j∈[z.t,z.b,z.hh],j≠z.hj c:=by
  intro j hj e
  simp only [List.mem_cons,List.not_mem_nil,or_false] at hj
  rcases hj with rfl | rfl | rfl
  ·exact n3 (e ▸ hm)
  ·exact n5 (e ▸ hm)
  ·exact n6 (e ▸ hm)
 refine ⟨by rw [xe];simp [MS.setH],(zb8 (ne _ (by simp))).trans S.t,(zb8 (ne _ (by simp))).trans S.b,(zb8 (ne _ (by simp))).trans S.hh,by simp [MS.setH,S.hl],fun j hj=>?_,S.lt,S.nd,S.len,S.bl,S.few,by simpa [MS.setH] using S.fewh,fun l hl w hw=>?_⟩
 rotate_left
 ·have hg:s.hg c∈s.hs:=by
   have:s.hg c=s.hs[c]:=by simp [MS.hg,List.getD_eq_getElem?_getD,hc]
   rw [this];exact List.getElem_mem hc
  rcases List.mem_or_eq_of_mem_set hl with hl | rfl
  ·exact S.hv l hl w hw
  ·rcases List.mem_or_eq_of_mem_set hw with hw | rfl
   ·exact S.hv _ hg w hw
   ·exact hv
 have hj':j < s.hs.length:=by simpa [MS.setH] using hj
 by_cases e:j=c
 ·subst e
  have:(s.setH j i v).hg j=(s.hg j).set i v:=by simp [MS.setH,MS.hg,List.getD_eq_getElem?_getD,hc]
  rw [this]
  exact ⟨zd8,by rw [List.length_set];exact (S.hi j hc).2⟩
 ·have:(s.setH c i v).hg j=s.hg j:=by simp [MS.setH,MS.hg,List.getD_eq_getElem?_getD,List.getElem?_set_ne (Ne.symm e)]
  rw [this]
  exact ⟨(zb8 fun q=>e (S.inj hj' hc q)).trans (S.hi j hj').1,(S.hi j hj').2⟩
theorem zrs (S:SR h x z s) {c:Nat} (hc:c < s.hs.length) (g:Int) (hgl:g < (s.th.length:Int)) (hf:zca (s.hg c) < 6) (hN:10≤N) :
  ∃ h',evCallO OS table N (d + 1) 135 [.agg x,.c (.int .i64 (c:Int)),.c (.int .i64 g)] h=some (.c (.int .i64 (zca (s.hg c):Int)),h')∧SR h' x z (s.setH c (zca (s.hg c)) g)∧ExtB z.hi h h':=by
 have xe:=S.xe
 have e1:=(Ext.refl h).new (.cells x)
 generalize hg:h.new (.cells x)=H at e1
 have r2:H.read h.next 2 1=some [.sl z.hh 0 s.hs.length z.ch]:=by rw [← hg];exact zah zbz (by rw [xe];rfl)
 have S':=S.ext e1
 have h6:=(S.hi c hc).2
 have m1:Nat.blt c s.hs.length=true:=zc0 hc
 have k1:=S'.rh hc
 have L:∀ loc,zbv ir135_k0 loc=[.junk,.c (.int .i64 (c:Int)),.c (.int .i64 g),.c (.ptr h.next 0),.junk,.c (.int .i64 0),.junk,.junk] →
   ∃ r,zcr (evCallO OS table N d) N ir135_k0 ir135_l0 N loc H=some r∧∃ a b e q l G,r=(.ret,a :: b :: e :: q :: .c (.int .i64 (zca (s.hg c):Int)) :: l,G)∧SR G x z (s.setH c (zca (s.hg c)) g)∧ExtB z.hi H G:=by
  intro loc hloc
  refine zcl (n:=6) (fun i loc G=>G=H∧i≤zca (s.hg c)∧loc=[.junk,.c (.int .i64 (c:Int)),.c (.int .i64 g),.c (.ptr h.next 0),.junk,.c (.int .i64 (i:Int)),.junk,.junk]) _ ?_ ⟨rfl,Nat.zero_le _,hloc⟩ (by omega)
  rintro i loc G hi ⟨rfl,hle,rfl⟩
  unfold ir135_l0
  have hlt:i < 6:=by omega
  have v1:decide ((i:Int) < 6)=true:=decide_eq_true (by omega)
  have v2:=zdm (i:=i) (by omega)
  have m2:Nat.blt i 6=true:=zc0 hlt
  have k2:=S'.rk hc hlt
  by_cases hneg:(s.hg c).getD i 0 < 0
  ·right
   have v3:decide ((s.hg c).getD i 0 < 0)=true:=decide_eq_true hneg
   have he:i=zca (s.hg c):=by
    have : ¬ i < zca (s.hg c):=fun hn=>zmo (i:=i) (l:=s.hg c) hn hneg
    omega
   have w:G.write (z.hj c) i [.int .i64 g]=some (G.put (z.hj c) (.cells (((s.hg c).set i g).map zbw))):=by
    rw [ze8 (S'.hi c hc).1 (by simp;omega)]
    simp [List.map_set,zbw]
   simp only [zap,zac,zbx,zas,zat,zav,za2,zcg,za5,zbl,zad,zaj,zaa,zae,zaf,zar,zax,zbg,za4,zbt,zbo,za6,zag,X.eval,zal,zai,List.getD_cons_zero,List.getD_cons_succ,List.set_cons_zero,List.set_cons_succ,zay,zaq,zab,zak,intArith,shift,zbc,cond_true,cond_false,BEq.rfl,AV.cells,AV.ofCells,List.length_cons,List.length_nil,Nat.zero_add,Int.reduceLT,decide_false,za0,za3,za8,zbr,AV.ofCells,r2,m1,k1,Nat.mul_one,zbs,Int.cast_ofNat_Int,v1,m2,k2,v3,zbj,w]
   refine ⟨_,rfl,by simp,_,_,_,_,_,_,by rw [he],?_,?_⟩
   ·rw [← he];exact S'.setH hc g hgl
   ·exact (ExtB.refl _ _).put (.inr (S.at_hi hc)) _
  ·left
   have v3:decide ((s.hg c).getD i 0 < 0)=false:=decide_eq_false hneg
   simp only [zap,zac,zas,zat,zav,zam,za2,zbm,za5,zad,zaj,zaa,zae,zaf,zar,zax,zbg,za4,zbt,za6,zag,X.eval,zal,zai,List.getD_cons_zero,List.getD_cons_succ,List.set_cons_zero,List.set_cons_succ,zay,zaq,zab,zak,intArith,shift,zbc,cond_true,cond_false,BEq.rfl,AV.ofCells,Nat.zero_add,Int.reduceLT,decide_false,za0,za3,za8,zbr,AV.ofCells,r2,m1,k1,Nat.mul_one,zbs,Int.cast_ofNat_Int,v1,m2,k2,v3,v2]
   refine ⟨hlt,_,_,rfl,rfl,?_,rfl⟩
   rcases Nat.lt_or_ge i (zca (s.hg c)) with hl | hl
   ·exact hl
   ·have:zca (s.hg c)=i:=by omega
    exact absurd (zmp (l:=s.hg c) (by omega)) (by rw [this];exact hneg)
 obtain ⟨r,hp,hr⟩:=zcn L rfl
 rw [zbi (F:=ir135) rfl rfl rfl]
 unfold ir135
 rw [zbp]
 simp only [za9,zap,zac,zas,za2,zb9,zad,zaj,zaa,zae,zaf,zar,zbq,zbf,za7,X.eval,zai,List.map_cons,List.map_nil,List.getD_cons_zero,List.getD_cons_succ,List.getD_nil,List.set_cons_zero,List.set_cons_succ,AV.cells,Int.reduceNeg,hg]
 rw [hr _ rfl]
 obtain ⟨a,b,e,q,l,G,rfl,h1,h2⟩:=hp
 simp only [zbx,zcg,zc8,zaz,za1,List.getD_cons_zero,List.getD_cons_succ,Int.reduceNeg,zbk]
 exact ⟨_,rfl,h1,(e1.b _).trans h2⟩
def cntF (l:List Int) (g:Int):Nat:=(l.filter fun a=>a == g && decide (g ≥ 0)).length
def zd2 (hs:List (List Int)) (g:Int):Nat:=(hs.map fun l=>cntF l g).sum
theorem zuz {l:List Int} {g:Int} {i:Nat} (hi:i < l.length):cntF (l.take (i + 1)) g=cntF (l.take i) g + if (l.getD i 0 == g && decide (g ≥ 0))=true then 1 else 0:=by
 unfold cntF
 rw [List.take_succ_eq_append_getElem hi,List.filter_append,List.length_append,List.getD_eq_getElem?_getD,List.getElem?_eq_getElem hi]
 congr 1
 simp only [List.filter_cons,List.filter_nil,Option.getD_some]
 split<;>rfl
theorem zrt (l:List Int) (g:Int):cntF l g≤l.length:=List.length_filter_le ..
theorem zs5 {l:List (List Int)} {g:Int} {i:Nat} (hi:i < l.length):zd2 (l.take (i + 1)) g=zd2 (l.take i) g + cntF (l.getD i []) g:=by
 unfold zd2
 rw [List.take_succ_eq_append_getElem hi,List.map_append,List.sum_append,List.getD_eq_getElem?_getD,List.getElem?_eq_getElem hi]
 simp
theorem zwv (l:List (List Int)) (g:Int) (h:∀ r∈l,r.length=6):zd2 l g≤6 * l.length:=by
 induction l with
 | nil=>simp [zd2]
 | cons r l ih =>
  have:=ih fun r hr=>h r (by simp [hr])
  have h1:=zrt r g
  rw [h r (by simp)] at h1
  unfold zd2 at this ⊢
  simp only [List.map_cons,List.sum_cons,List.length_cons]
  omega
theorem zru (S:SR h x z s) (g:Int) (hN:10≤N):∃ h',evCallO OS table N (d + 1) 41 [.agg x,.c (.int .i64 g)] h=some (.c (.int .i64 (zd2 s.hs g:Int)),h')∧Ext h h':=by
 have xe:=S.xe
 have e1:=(Ext.refl h).new (.cells x)
 generalize hg:h.new (.cells x)=H at e1
 have r2:H.read h.next 2 1=some [.sl z.hh 0 s.hs.length z.ch]:=by rw [← hg];exact zah zbz (by rw [xe];rfl)
 have S':=S.ext e1
 have all6:∀ r∈s.hs,r.length=6:=fun r hr=>by
  obtain ⟨i,hi,rfl⟩:=List.getElem_of_mem hr
  have:=(S.hi i hi).2
  simpa [MS.hg,List.getD_eq_getElem?_getD,hi] using this
 have fewh:=S.fewh
 have bnd:∀ i,zd2 (s.hs.take i) g≤36:=fun i=>by
  have:=zwv (s.hs.take i) g fun r hr=>all6 r (List.mem_of_mem_take hr)
  have:(s.hs.take i).length≤s.hs.length:=by rw [List.length_take];omega
  omega
 have inner:∀ c,c < s.hs.length→∀ loc,zbv ir41_k0 loc=[.junk,.c (.int .i64 g),.c (.ptr h.next 0),.junk,.c (.int .i64 (zd2 (s.hs.take c) g:Int)),.c (.int .i64 (c:Int)),.c (.int .i64 0),.junk,.junk,.junk] →
   ∃ r,zcr (evCallO OS table N d) N ir41_k0 ir41_l0 N loc H=some r∧∃ a b e q,r=(.exit 2,[.junk,.c (.int .i64 g),.c (.ptr h.next 0),.junk,.c (.int .i64 (zd2 (s.hs.take (c + 1)) g:Int)),.c (.int .i64 (c:Int)),a,b,e,q],H):=by
  intro c hc loc hloc
  have h6:=(S.hi c hc).2
  have m1:Nat.blt c s.hs.length=true:=zc0 hc
  have k1:=S'.rh hc
  refine zcl (n:=6) (fun i loc G=>G=H∧loc=[.junk,.c (.int .i64 g),.c (.ptr h.next 0),.junk,.c (.int .i64 ((zd2 (s.hs.take c) g + cntF ((s.hg c).take i) g:Nat):Int)),.c (.int .i64 (c:Int)),.c (.int .i64 (i:Int)),.junk,.junk,.junk]) _ ?_ ⟨rfl,by simpa [cntF] using hloc⟩ (by omega)
  rintro i loc G hi ⟨rfl,rfl⟩
  unfold ir41_l0
  by_cases hlt:i < 6
  ·left
   have v1:decide ((i:Int) < 6)=true:=decide_eq_true (by omega)
   have v2:=zdm (i:=i) (by omega)
   have m2:Nat.blt i 6=true:=zc0 hlt
   have k2:=S'.rk hc hlt
   have ct:=zuz (l:=s.hg c) (g:=g) (i:=i) (by omega)
   have b1:=bnd c
   have b2:=zrt ((s.hg c).take i) g
   have b3:((s.hg c).take i).length≤6:=by simp;omega
   have v5:=zdm (i:=zd2 (s.hs.take c) g + cntF ((s.hg c).take i) g) (by omega)
   cases v3:((s.hg c).getD i 0 == g) with
   | false =>
    rw [v3] at ct
    simp only [Bool.false_and,Bool.false_eq_true,if_false,Nat.add_zero] at ct
    simp only [zap,zac,zas,zat,zav,zam,za2,zbm,za5,zad,zaj,zaa,zau,zae,zbn,zaf,zar,zax,zba,zbg,za4,zbt,za6,zbe,zag,X.eval,zal,zai,List.getD_cons_zero,List.getD_cons_succ,List.set_cons_zero,List.set_cons_succ,zay,zaq,zab,zak,intArith,shift,zbc,cond_true,cond_false,BEq.rfl,AV.ofCells,Nat.zero_add,Int.reduceLT,decide_false,ft,za0,za3,za8,zbr,AV.ofCells,r2,m1,k1,Nat.mul_one,zbs,Int.cast_ofNat_Int,v1,m2,k2,v3,v2]
    exact ⟨hlt,_,_,rfl,rfl,by rw [ct];rfl⟩
   | true =>
    cases v4:decide (g ≥ 0) with
    | false =>
     rw [v3,v4] at ct
     simp only [Bool.and_false,Bool.false_eq_true,if_false,Nat.add_zero] at ct
     simp only [zap,zac,zas,zat,zav,zam,za2,zbm,za5,zad,zaj,zaa,zau,zae,zaf,zar,zax,zba,zbg,za4,zbt,za6,zbe,zag,X.eval,zal,zai,List.getD_cons_zero,List.getD_cons_succ,List.set_cons_zero,List.set_cons_succ,zay,zaq,zab,zak,intArith,shift,zbc,cond_true,cond_false,BEq.rfl,AV.ofCells,Nat.zero_add,Int.reduceLT,decide_false,za0,za3,za8,zbr,AV.ofCells,r2,m1,k1,Nat.mul_one,zbs,Int.cast_ofNat_Int,v1,m2,k2,v3,v4,v2]
     exact ⟨hlt,_,_,rfl,rfl,by rw [ct];rfl⟩
    | true =>
     rw [v3,v4] at ct
     simp only [Bool.and_self,if_true] at ct
     simp only [zap,zac,zas,zat,zav,za2,zbm,za5,zad,zaj,zaa,zau,zae,zaf,zar,zax,zba,zbg,za4,zbt,za6,zbe,zag,X.eval,zal,zai,List.getD_cons_zero,List.getD_cons_succ,List.set_cons_zero,List.set_cons_succ,zay,zaq,zab,zak,intArith,shift,zbc,cond_true,cond_false,BEq.rfl,AV.ofCells,Nat.zero_add,Int.reduceLT,decide_false,za0,za3,za8,zbr,AV.ofCells,r2,m1,k1,Nat.mul_one,zbs,Int.cast_ofNat_Int,v1,m2,k2,v3,v4,v2,v5]
     exact ⟨hlt,_,_,rfl,rfl,by rw [ct];rfl⟩
  ·right
   have:i=6:=by omega
   subst this
   have v1:decide (((6:Nat):Int) < 6)=false:=decide_eq_false (by omega)
   have ht:(s.hg c).take 6=s.hg c:=List.take_of_length_le (by omega)
   have pt:=zs5 (l:=s.hs) (g:=g) hc
   simp only [zap,zac,zb2,zas,zat,zam,zcf,zad,zaj,zaa,zae,zaf,zar,zax,zbg,za4,zbt,za6,zag,X.eval,zal,zai,List.getD_cons_zero,List.getD_cons_succ,List.set_cons_zero,List.set_cons_succ,zay,zaq,zab,zak,intArith,shift,zbc,cond_true,cond_false,BEq.rfl,AV.ofCells,Nat.zero_add,Int.reduceLT,decide_false,za0,za3,za8,zbr,AV.ofCells,r2,m1,k1,Nat.mul_one,zbs,Int.cast_ofNat_Int]
   exact ⟨_,rfl,by simp,_,_,_,_,by rw [ht,pt];rfl⟩
 have L:∀ loc,zbv ir41_k1 loc=[.junk,.c (.int .i64 g),.c (.ptr h.next 0),.junk,.c (.int .i64 0),.c (.int .i64 0),.junk,.junk,.junk,.junk] →
   ∃ r,zcr (evCallO OS table N d) N ir41_k1 ir41_l1 N loc H=some r∧∃ a b e q l,r=(.exit 0,a :: b :: e :: q :: .c (.int .i64 (zd2 s.hs g:Int)) :: l,H):=by
  intro loc hloc
  refine zcl (n:=s.hs.length) (fun i loc G=>G=H∧loc=[.junk,.c (.int .i64 g),.c (.ptr h.next 0),.junk,.c (.int .i64 (zd2 (s.hs.take i) g:Int)),.c (.int .i64 (i:Int)),.junk,.junk,.junk,.junk]) _ ?_ ⟨rfl,by simpa [zd2] using hloc⟩ (by omega)
  rintro i loc G hi ⟨rfl,rfl⟩
  unfold ir41_l1
  by_cases hlt:i < s.hs.length
  ·left
   have v1:=ze6 hlt
   have v2:=zdm (i:=i) (by omega)
   obtain ⟨r,⟨a,b,e,q,rfl⟩,hr⟩:=zcn (inner i hlt) rfl
   simp only [zap,zac,zas,zat,zav,za2,zb9,za5,zad,zaj,zaa,zae,zaf,zar,zax,zbg,za4,za6,zag,X.eval,zal,zai,List.getD_cons_zero,List.getD_cons_succ,List.set_cons_zero,List.set_cons_succ,zay,zaq,zab,zak,intArith,shift,cond_true,cond_false,BEq.rfl,AV.ofCells,Nat.zero_add,za0,za3,za8,AV.ofCells,r2,zbs,v1]
   rw [hr _ rfl]
   simp only [zac,zas,zbm,zbu,zad,zaj,zaa,zae,zaf,zar,zax,za6,zag,X.eval,zal,zai,List.getD_cons_zero,List.getD_cons_succ,List.set_cons_zero,List.set_cons_succ,zay,zaq,zab,zak,intArith,shift,cond_true,cond_false,BEq.rfl,Int.reduceLT,decide_false,v2]
   exact ⟨hlt,_,_,rfl,rfl,rfl⟩
  ·right
   have:i=s.hs.length:=by omega
   subst this
   have v1:decide ((s.hs.length:Int) < (s.hs.length:Int))=false:=zfg (Nat.le_refl _)
   simp only [zap,zac,zb2,zas,zat,zam,zcf,zad,zaj,zaa,zae,zaf,zar,zax,zbg,za4,za6,zag,X.eval,zal,zai,List.getD_cons_zero,List.getD_cons_succ,List.set_cons_zero,List.set_cons_succ,zay,zaq,zab,zak,intArith,shift,cond_true,cond_false,BEq.rfl,AV.ofCells,Nat.zero_add,za0,za3,za8,AV.ofCells,r2,zbs,v1]
   exact ⟨_,rfl,by simp,_,_,_,_,_,by rw [List.take_length]⟩
 obtain ⟨r,hp,hr⟩:=zcn L rfl
 rw [zbi (F:=ir41) rfl rfl rfl]
 unfold ir41
 rw [zbp]
 simp only [za9,zap,zac,zas,za2,zb9,zad,zaj,zaa,zae,zaf,zar,zbq,zbf,za7,X.eval,zai,List.map_cons,List.map_nil,List.getD_cons_zero,List.getD_cons_succ,List.getD_nil,List.set_cons_zero,List.set_cons_succ,AV.cells,hg]
 rw [hr _ rfl]
 obtain ⟨a,b,e,q,l,rfl⟩:=hp
 simp only [zap,zac,zas,zbu,zbl,zad,zaj,zaa,zae,zaf,zar,zc8,zaz,za1,X.eval,zal,zai,List.getD_cons_zero,List.getD_cons_succ,List.set_cons_zero,List.set_cons_succ,cond_true,BEq.rfl,zbk]
 exact ⟨_,rfl,e1⟩
end
end Lav
set_option maxRecDepth 100000
namespace Lav
theorem zdv:clT table=true:=by kernel_rfl
namespace Q
def tP0:List Blk:=[cs ([p 1 0,a 3,a 1,a 1,a 1,s 2 0 1 1,a 1,a 1]),cs ([a 3,a 1,a 1,a 1,p 3 0,p 4 0,p 5 0,a 1,d 6 0 16 1,m 0,a 0,a 0,s 7 0 3 3,d 8 0 1 1,d 9 0 1 3,s 10 0 4 4,ns,ch 11,a 0,a 1,f,f,f]),cs ([f]),cs ([d 12 0 3 1,mp 13,a 0,a 0,f]),cs ([s 14 0 4 4]),cs ([d 15 0 1 1]),cs (rp 16 [a 0]),cs ([f,f,f]),cs ([p 16 0]),cs ([a 1,a 0,a 0]),cs (rp 4 [a 0,a 0,a 0,a 0,a 0,a 0,m 0,ns,ns,ns,a 0,a 0]),ck 4 [],cs ([s 17 0 24 24,s 18 0 24 24,s 19 0 24 24]),mk 0 [],cs (rp 4 [a 0,a 0,m 0]),cs ([s 20 0 6 6]),cs ([p 21 0,m 0,ns,ns,d 22 0 1 1,mp 23]),cs (rp 24 [u 0]),cs (rp 24 [u 0]),cs (rp 24 [u 0]),cs (rp 6 [m 0]),cs ([p 24 0,p 25 0,p 26 0]),cs ([a 0]),mk 0 [],cs ([d 27 0 1 5,p 28 0,p 29 0]),cs ([s 30 0 32 32,m 0,m 0,a 0]),cs ([ch 31]),cs ([a 0,m 0,a 0,f,ns]),cs ([s 32 0 32 32,a 0,a 0,a 1]),cs ([s 33 0 96 96,a 0]),cs (rp 32 [f,a 0,a 0]),ck 8 [],cs ([t,m 0,m 0]++rp 31 [f,a 0,a 0]),cs (rp 96 [m 0,a 0])]
theorem ts0:zc1 (ts 34 [(0,84),(1,5),(2,83),(3,7),(4,19),(5,20),(6,58),(7,3),(8,76),(9,78),(10,60),(11,4),(12,16),(13,6),(14,18),(15,24),(16,63),(17,9),(18,12),(19,15),(20,23),(21,74),(22,82),(23,62),(24,69),(25,71),(26,73),(27,80),(28,66),(29,68),(30,70),(31,72),(32,65),(33,67)]) (evCallO OS table 3000 60 24 [.agg [a 3,a 1,a 1,a 1]] (hp ([]:List Blk)))=some (AV.mv τ0 (at0 (ts 34 [(0,84),(1,5),(2,83),(3,7),(4,19),(5,20),(6,58),(7,3),(8,76),(9,78),(10,60),(11,4),(12,16),(13,6),(14,18),(15,24),(16,63),(17,9),(18,12),(19,15),(20,23),(21,74),(22,82),(23,62),(24,69),(25,71),(26,73),(27,80),(28,66),(29,68),(30,70),(31,72),(32,65),(33,67)])) (.c (p 0 0)),85,tP0.map fun b=>some (b.mv τ0 (at0 (ts 34 [(0,84),(1,5),(2,83),(3,7),(4,19),(5,20),(6,58),(7,3),(8,76),(9,78),(10,60),(11,4),(12,16),(13,6),(14,18),(15,24),(16,63),(17,9),(18,12),(19,15),(20,23),(21,74),(22,82),(23,62),(24,69),(25,71),(26,73),(27,80),(28,66),(29,68),(30,70),(31,72),(32,65),(33,67)])))):=by kernel_rfl
theorem ts0f:fit ([]:List Blk) [.agg [a 3,a 1,a 1,a 1]] (ts 34 [(0,84),(1,5),(2,83),(3,7),(4,19),(5,20),(6,58),(7,3),(8,76),(9,78),(10,60),(11,4),(12,16),(13,6),(14,18),(15,24),(16,63),(17,9),(18,12),(19,15),(20,23),(21,74),(22,82),(23,62),(24,69),(25,71),(26,73),(27,80),(28,66),(29,68),(30,70),(31,72),(32,65),(33,67)]) 85=true:=by kernel_rfl
def tP1:List Blk:=pt tP0 36 [(0,cs ([p 1 0,a 3,a 1,a 1,a 1,d 2 0 4 1,a 1,a 1])),(1,cs ([a 3,a 1,a 1,a 1,p 3 0,p 4 0,p 5 0,a 1,d 6 0 16 1,m 0,a 0,a 0,s 7 0 3 3,d 8 0 1 1,d 9 0 1 3,s 10 0 4 4,d 34 0 1 14,ch 11,a 3,a 1,f,f,f])),(2,cs ([f,f,f,t])),(7,cs ([t,f,f])),(11,ck 4 [.c (a 0)]),(14,cs ([a 3,a 2,m 0,a 1]++rp 2 [a 0,m 0,a 0]++[a 0,m 0])),(20,cs ([a 0]++rp 5 [m 0])),(25,cs ([s 30 0 32 32,a 0,a 0,a 1])),(27,cs ([a 1,a 0,a 1,t,s 35 0 16 16])),(28,cs ([s 32 0 32 32,m 0,m 0,a 0])),(29,cs ([s 33 0 96 96,a 1])),(30,cs ([t,m 0,m 0]++rp 31 [f,a 0,a 0])),(32,cs (rp 32 [f,a 0,a 0])),(33,cs ([a 0]++rp 95 [a 0,m 0]++[a 0])),(34,cs ([a 0,a 1]++rp 4 [a 0]++[ns,a 0,a 0,a 0,ns,a 1,a 3,a 3])),(35,cs (rp 16 [u 0]))]
theorem ts1:zc1 (ts 36 [(2,160),(34,41),(35,136)]) (evCallO OS table 3000 60 11 [.c (p 0 0),.c (a 0),.agg [a 1,a 0,a 0,a 0,a 0,ns]] (hp tP0))=some (AV.mv τ0 (at0 (ts 36 [(2,160),(34,41),(35,136)])) (.c (t)),165,tP1.map fun b=>some (b.mv τ0 (at0 (ts 36 [(2,160),(34,41),(35,136)])))):=by kernel_rfl
theorem ts1f:fit tP0 [.c (p 0 0),.c (a 0),.agg [a 1,a 0,a 0,a 0,a 0,ns]] (ts 36 [(2,160),(34,41),(35,136)]) 165=true:=by kernel_rfl
def tQ1:List Blk:=tP1++[cs ([u 107])]
def tP2:List Blk:=pt tQ1 37 [(0,cs ([p 1 0,a 3,a 1,a 1,a 1,d 2 0 9 1,a 1,a 1])),(1,cs ([a 3,a 1,a 1,a 1,p 3 0,p 4 0,p 5 0,a 1,d 6 0 16 1,m 0,a 0,a 0,s 7 0 3 3,d 8 0 1 1,d 9 0 1 3,s 10 0 4 4,d 34 0 2 14,ch 11,a 8,a 1,f,f,f])),(2,cs ([f,f,f]++rp 6 [t])),(10,cs ([a 1]++rp 3 [a 0,a 0,a 0,a 0,a 0,m 0,ns,ns,ns,a 0,a 0,a 0]++rp 5 [a 0]++[m 0,ns,ns,ns,a 0,a 0])),(31,ck 8 [.c (a 0)]),(34,cs ([a 0,a 1]++rp 4 [a 0]++[ns,a 0,a 0,a 0,ns,a 1,a 3,a 3,a 0,a 4]++rp 4 [a 0]++[d 36 0 1 1,a 0,a 0,a 0,ns,a 4,a 7,a 7])),(35,cs ([u 107]++rp 15 [u 0]))]
theorem ts2:zc1 (ts 37 [(2,264),(34,46),(36,44)]) (evCallO OS table 3000 60 11 [.c (p 0 0),.c (a 0),.agg [a 4,a 0,a 0,a 0,a 0,s 36 0 1 1]] (hp tQ1))=some (AV.mv τ0 (at0 (ts 37 [(2,264),(34,46),(36,44)])) (.c (t)),269,tP2.map fun b=>some (b.mv τ0 (at0 (ts 37 [(2,264),(34,46),(36,44)])))):=by kernel_rfl
theorem ts2f:fit tQ1 [.c (p 0 0),.c (a 0),.agg [a 4,a 0,a 0,a 0,a 0,s 36 0 1 1]] (ts 37 [(2,264),(34,46),(36,44)]) 269=true:=by kernel_rfl
def tP3:List Blk:=pt tP2 38 [(0,cs ([p 1 0,a 3,a 1,a 1,a 1,d 2 0 14 1,a 1,a 1])),(1,cs ([a 3,a 1,a 1,a 1,p 3 0,p 4 0,p 5 0,a 1,d 6 0 16 1,m 0,a 0,a 0,s 7 0 3 3,d 8 0 1 1,d 9 0 1 3,s 10 0 4 4,d 34 0 3 14,ch 11,a 13,a 1,f,f,f])),(2,cs ([f,f,f]++rp 9 [t]++[f,f])),(10,cs ([a 2]++rp 5 [a 0]++[m 0,ns,ns,ns]++rp 5 [a 0]++[a 1,a 0,a 0,m 0,ns,d 37 0 1 1]++rp 2 [ns,a 0,a 0,a 0,a 0,a 0,a 0,a 0,a 0,m 0,ns,ns]++[ns,a 0,a 0])),(11,ck 4 []),(14,cs ([a 3,a 2,m 0,a 1,a 3]++rp 2 [m 0,a 0,a 0]++[m 0])),(16,cs ([p 21 0,a 1,ns,ns,d 22 0 1 1,mp 23])),(20,cs (rp 6 [m 0])),(27,cs ([a 1,a 0,a 0,t,s 35 0 16 16])),(31,ck 8 [.c (a 0),.c (a 0)]),(34,cs ([a 0,a 1]++rp 4 [a 0]++[ns,a 0,a 0,a 0,ns,a 1,a 3,a 3,a 0,a 4]++rp 4 [a 0]++[d 36 0 1 1,a 0,a 0,a 0,ns,a 4,a 7,a 7,a 0,a 5]++rp 4 [a 0]++[ns,a 0,a 0,a 0,ns,a 9,a 12,a 12])),(37,cs ([a 0]))]
theorem ts3:zc1 (ts 38 [(2,251),(34,44),(37,234)]) (evCallO OS table 3000 60 11 [.c (p 0 0),.c (a 0),.agg [a 5,a 0,a 0,a 0,a 0,ns]] (hp tP2))=some (AV.mv τ0 (at0 (ts 38 [(2,251),(34,44),(37,234)])) (.c (t)),256,tP3.map fun b=>some (b.mv τ0 (at0 (ts 38 [(2,251),(34,44),(37,234)])))):=by kernel_rfl
theorem ts3f:fit tP2 [.c (p 0 0),.c (a 0),.agg [a 5,a 0,a 0,a 0,a 0,ns]] (ts 38 [(2,251),(34,44),(37,234)]) 256=true:=by kernel_rfl
def tP4:List Blk:=pt tP3 39 [(0,cs ([p 1 0,a 3,a 1,a 1,a 1,d 2 0 21 1,a 1,a 1])),(1,cs ([a 3,a 1,a 1,a 1,p 3 0,p 4 0,p 5 0,a 1,d 6 0 16 1,m 0,a 0,a 0,s 7 0 3 3,d 8 0 1 1,d 9 0 1 3,s 10 0 4 4,d 34 0 4 14,ch 11,a 20,a 1,f,f,f])),(2,cs ([f,f,f]++rp 9 [t]++rp 7 [f]++[t,t])),(3,cs ([d 12 0 3 1,mp 13,a 1,a 0,f])),(7,cs ([t,t,f])),(10,cs ([a 3,a 1]++rp 4 [a 0]++[m 0,ns,ns,ns]++rp 5 [a 0]++[a 1]++rp 2 [a 0,a 0,m 0,ns,ns,ns,a 0,a 0,a 0,a 0,a 0,a 0]++[a 0,a 0,m 0,ns,ns,ns,a 0,a 0])),(13,mk 1 [(0,0,d 35 0 24 1)]),(14,cs ([a 3,a 2,m 0,a 1,a 1]++rp 2 [m 0,a 0,a 0]++[m 0])),(16,cs ([p 21 0,m 0,ns,s 37 0 0 0,d 22 0 1 1,mp 23])),(20,cs ([a 1]++rp 5 [m 0])),(27,cs ([a 1,a 1,a 1,t,s 38 0 16 16])),(31,ck 8 []),(33,cs (rp 87 [m 0,a 0]++[a 1]++rp 8 [a 0,m 0]++[a 0])),(34,cs ([a 0,a 1]++rp 4 [a 0]++[ns,a 0,a 0,a 0,ns,a 1,a 3,a 3,a 0,a 4]++rp 4 [a 0]++[d 36 0 1 1,a 0,a 0,a 0,ns,a 4,a 7,a 7,a 0,a 5]++rp 4 [a 0]++[ns,a 0,a 0,a 0,ns,a 9,a 12,a 12,a 0,a 1]++rp 4 [a 0]++[ns,a 0,a 1,a 0,ns,a 14,a 19,a 19])),(35,cs ([u 98,u 179,u 115,u 182,u 1,u 0,u 90,u 165,u 107]++rp 15 [u 0])),(37,cs ([])),(38,cs (rp 16 [u 0]))]
theorem ts4:zc1 (ts 39 [(2,357),(34,45),(35,126),(37,319),(38,306)]) (evCallO OS table 3000 60 11 [.c (p 0 0),.c (a 0),.agg [a 1,a 0,a 0,a 0,a 0,ns]] (hp tP3))=some (AV.mv τ0 (at0 (ts 39 [(2,357),(34,45),(35,126),(37,319),(38,306)])) (.c (t)),362,tP4.map fun b=>some (b.mv τ0 (at0 (ts 39 [(2,357),(34,45),(35,126),(37,319),(38,306)])))):=by kernel_rfl
theorem ts4f:fit tP3 [.c (p 0 0),.c (a 0),.agg [a 1,a 0,a 0,a 0,a 0,ns]] (ts 39 [(2,357),(34,45),(35,126),(37,319),(38,306)]) 362=true:=by kernel_rfl
def tP5:List Blk:=pt tP4 38 [(0,cs ([p 1 0,a 3,a 1,a 1,a 1,d 2 0 27 1,a 1,a 1])),(1,cs ([a 3,a 1,a 1,a 1,p 3 0,p 4 0,p 5 0,a 1,d 6 0 16 1,m 0,a 0,a 0,s 7 0 3 3,d 8 0 1 1,d 9 0 1 3,s 10 0 4 4,d 17 0 5 14,ch 11,a 26,a 1,f,f,f])),(2,cs ([f,f,f]++rp 9 [t]++rp 7 [f]++rp 8 [t])),(3,cs ([d 12 0 3 1,mp 13,a 2,a 0,f])),(10,cs ([a 4]++rp 5 [a 0]++[m 0,ns,ns,ns]++rp 5 [a 0]++[a 1]++rp 2 [a 0,a 0,m 0,ns,ns,ns,a 0,a 0,a 0,a 0,a 0,a 0]++[a 0,a 0,m 0,ns,ns,ns,a 0,a 0])),(12,cs ([d 35 0 24 1,s 18 0 24 24,s 19 0 24 24])),(13,mk 1 []),(14,cs ([a 3,a 7,m 0,a 3]++rp 2 [a 0,m 0,a 0]++[a 0,m 0])),(16,cs ([p 21 0,m 0,ns,s 34 0 0 0,d 22 0 1 1,mp 23])),(17,cs ([a 0,a 1]++rp 4 [a 0]++[ns,a 0,a 0,a 0,ns,a 1,a 3,a 3,a 0,a 4]++rp 4 [a 0]++[d 36 0 1 1,a 0,a 0,a 0,ns,a 4,a 7,a 7,a 0,a 5]++rp 4 [a 0]++[ns,a 0,a 0,a 0,ns,a 9,a 12,a 12,a 0,a 1]++rp 4 [a 0]++[ns,a 0,a 1,a 0,ns,a 14,a 19,a 19,a 0,a 6]++rp 4 [a 0]++[ns,a 0,a 0,a 0,ns,a 21,a 24,a 26])),(27,cs ([a 1,a 1,a 1,t,s 37 0 16 16])),(34,cs ([])),(37,cs (rp 16 [u 0]))]
theorem ts5:zc1 (ts 38 [(2,297),(17,46),(34,285),(37,38)]) (evCallO OS table 3000 60 11 [.c (p 0 0),.c (a 0),.agg [a 6,a 0,a 0,a 0,a 0,ns]] (hp tP4))=some (AV.mv τ0 (at0 (ts 38 [(2,297),(17,46),(34,285),(37,38)])) (.c (t)),302,tP5.map fun b=>some (b.mv τ0 (at0 (ts 38 [(2,297),(17,46),(34,285),(37,38)])))):=by kernel_rfl
theorem ts5f:fit tP4 [.c (p 0 0),.c (a 0),.agg [a 6,a 0,a 0,a 0,a 0,ns]] (ts 38 [(2,297),(17,46),(34,285),(37,38)]) 302=true:=by kernel_rfl
def tP6:List Blk:=pt tP5 38 [(0,cs ([p 1 0,a 3,a 1,a 1,a 1,d 2 0 28 1,a 1,a 1])),(1,cs ([a 3,a 1,a 1,a 1,p 3 0,p 4 0,p 5 0,a 1,d 6 0 16 1,m 0,a 0,a 0,s 7 0 3 3,d 8 0 1 1,d 9 0 1 3,s 10 0 4 4,d 17 0 5 14,ch 11,a 27,a 1,f,f,t])),(2,cs ([f,f,f]++rp 9 [t]++rp 7 [f]++rp 9 [t])),(3,cs ([d 12 0 3 1,mp 13,a 2,a 0,t]))]
theorem ts6:zc1 (ts 38 [(2,50)]) (evCallO OS table 3000 60 14 [.c (p 0 0),.agg [a 4,a 0,a 0,a 0,a 0,a 0,a 0,a 0,a 0,ns,ns]] (hp tP5))=some (AV.mv τ0 (at0 (ts 38 [(2,50)])) (.c (t)),51,tP6.map fun b=>some (b.mv τ0 (at0 (ts 38 [(2,50)])))):=by kernel_rfl
theorem ts6f:fit tP5 [.c (p 0 0),.agg [a 4,a 0,a 0,a 0,a 0,a 0,a 0,a 0,a 0,ns,ns]] (ts 38 [(2,50)]) 51=true:=by kernel_rfl
def tP7:List Blk:=pt tP6 42 [(38,cs ([d 39 0 24 1,d 40 0 24 1,d 41 0 24 1])),(39,cs ([u 98,u 179,u 115,u 182,u 1,u 0,u 90,u 165,u 107]++rp 15 [u 0])),(40,cs (rp 24 [u 0])),(41,cs (rp 24 [u 0]))]
theorem ts7:zc1 (ts 42 [(38,49),(40,43),(41,47)]) (evCallO OS table 3000 60 15 [.c (p 1 0)] (hp tP6))=some (AV.mv τ0 (at0 (ts 42 [(38,49),(40,43),(41,47)])) (.c (d 38 0 3 1)),50,tP7.map fun b=>some (b.mv τ0 (at0 (ts 42 [(38,49),(40,43),(41,47)])))):=by kernel_rfl
theorem ts7f:fit tP6 [.c (p 1 0)] (ts 42 [(38,49),(40,43),(41,47)]) 50=true:=by kernel_rfl
def tP8:List Blk:=pt tP7 39 [(38,cs ([u 107]++rp 15 [u 0]))]
theorem ts8:zc1 (ts 39 [(38,43)]) (evCallO OS table 3000 60 16 [.c (a 0),.c (d 39 0 24 1)] (hp tP7))=some (AV.mv τ0 (at0 (ts 39 [(38,43)])) (.tup [.c (d 38 0 16 1),.c (a 0)]),45,tP8.map fun b=>some (b.mv τ0 (at0 (ts 39 [(38,43)])))):=by kernel_rfl
theorem ts8f:fit tP7 [.c (a 0),.c (d 39 0 24 1)] (ts 39 [(38,43)]) 45=true:=by kernel_rfl
def tP9:List Blk:=pt tP8 38 []
theorem ts9:zc1 (ts 38 []) (evCallO OS table 3000 60 26 [.c (p 0 0)] (hp tP8))=some (AV.mv τ0 (at0 (ts 38 [])) (.c (t)),141,tP9.map fun b=>some (b.mv τ0 (at0 (ts 38 [])))):=by kernel_rfl
theorem ts9f:fit tP8 [.c (p 0 0)] (ts 38 []) 141=true:=by kernel_rfl
def tP10:List Blk:=pt tP9 38 []
theorem ts10:zc1 (ts 38 []) (evCallO OS table 3000 60 25 [.c (p 0 0)] (hp tP9))=some (AV.mv τ0 (at0 (ts 38 [])) (.c (t)),804,tP10.map fun b=>some (b.mv τ0 (at0 (ts 38 [])))):=by kernel_rfl
theorem ts10f:fit tP9 [.c (p 0 0)] (ts 38 []) 804=true:=by kernel_rfl
end Q
end Lav
set_option maxRecDepth 100000
namespace Lav
open Go (IntKind)
theorem zdn:OverM2 τ0 OS OS table:=(zmm 82 178 196).two table
theorem zabp {N d:Nat} (hN:3000≤N) (hd:60≤d) (h:Heap):∃ h',evCallO OS table N (d + 1) 9 [] h=some (.c (.bool true),h')∧Ext h h':=by
 obtain ⟨r0,h0,e0,A0,-,n0,-⟩:=zfn zdv zdn hN (by omega) hd Q.ts0 Q.ts0f (At.empty h)
 obtain ⟨r1,h1,e1,A1,k1,n1,-⟩:=zfn zdv zdn hN (by omega) hd Q.ts1 Q.ts1f A0
 have q1:r1 0=r0 0:=k1 0 (by kernel_rfl) (by decide)
 have B1:=A1.snoc [.int .u8 107] (by kernel_rfl) (by kernel_rfl) (by kernel_rfl)
 obtain ⟨r2,h2,e2,A2,k2,n2,-⟩:=zfn (l:=Q.tQ1) zdv zdn hN (by omega) hd Q.ts2 Q.ts2f B1
 have q2:r2 0=r0 0:=(k2 0 (by kernel_rfl) (by decide)).trans q1
 obtain ⟨r3,h3,e3,A3,k3,n3,-⟩:=zfn zdv zdn hN (by omega) hd Q.ts3 Q.ts3f A2
 have q3:r3 0=r0 0:=(k3 0 (by kernel_rfl) (by decide)).trans q2
 obtain ⟨r4,h4,e4,A4,k4,n4,-⟩:=zfn zdv zdn hN (by omega) hd Q.ts4 Q.ts4f A3
 have q4:r4 0=r0 0:=(k4 0 (by kernel_rfl) (by decide)).trans q3
 obtain ⟨r5,h5,e5,A5,k5,n5,-⟩:=zfn zdv zdn hN (by omega) hd Q.ts5 Q.ts5f A4
 have q5:r5 0=r0 0:=(k5 0 (by kernel_rfl) (by decide)).trans q4
 obtain ⟨r6,h6,e6,A6,k6,n6,-⟩:=zfn zdv zdn hN (by omega) hd Q.ts6 Q.ts6f A5
 have q6:r6 0=r0 0:=(k6 0 (by kernel_rfl) (by decide)).trans q5
 obtain ⟨r7,h7,e7,A7,k7,n7,-⟩:=zfn zdv zdn hN (by omega) hd Q.ts7 Q.ts7f A6
 have q7:r7 0=r0 0:=(k7 0 (by kernel_rfl) (by decide)).trans q6
 obtain ⟨r8,h8,e8,A8,k8,n8,-⟩:=zfn zdv zdn hN (by omega) hd Q.ts8 Q.ts8f A7
 have q8:r8 0=r0 0:=(k8 0 (by kernel_rfl) (by decide)).trans q7
 obtain ⟨r9,h9,e9,A9,k9,n9,-⟩:=zfn zdv zdn hN (by omega) hd Q.ts9 Q.ts9f A8
 have q9:r9 0=r0 0:=(k9 0 (by kernel_rfl) (by decide)).trans q8
 obtain ⟨r10,h10,e10,A10,k10,n10,-⟩:=zfn zdv zdn hN (by omega) hd Q.ts10 Q.ts10f A9
 have f0:evCallO OS table N d 24 [.agg [.int .i64 3,.int .i64 1,.int .i64 1,.int .i64 1]] h=some (.c (.ptr (r0 0) 0),h0):=e0
 have f1:evCallO OS table N d 11 [.c (.ptr (r0 0) 0),.c (.int .i64 0),.agg [.int .i64 1,.int .i64 0,.int .i64 0,.int .i64 0,.int .i64 0,.nils]] h0=some (.c (.bool true),h1):=e1
 have f2:evCallO OS table N d 11 [.c (.ptr (r0 0) 0),.c (.int .i64 0),.agg [.int .i64 4,.int .i64 0,.int .i64 0,.int .i64 0,.int .i64 0,.sl h1.next 0 1 (.ex 1)]] (h1.new (.cells [.int .u8 107]))=some (.c (.bool true),h2):=by
  have z0:(if 0=Q.tP1.length then h1.next else r1 0)=r0 0:=(if_neg (by decide)).trans q1
  have z1:(if 36=Q.tP1.length then h1.next else r1 36)=h1.next:=if_pos (by decide)
  rw [← z0,← z1];exact e2
 have f3:evCallO OS table N d 11 [.c (.ptr (r0 0) 0),.c (.int .i64 0),.agg [.int .i64 5,.int .i64 0,.int .i64 0,.int .i64 0,.int .i64 0,.nils]] h2=some (.c (.bool true),h3):=by rw [← q2];exact e3
 have f4:evCallO OS table N d 11 [.c (.ptr (r0 0) 0),.c (.int .i64 0),.agg [.int .i64 1,.int .i64 0,.int .i64 0,.int .i64 0,.int .i64 0,.nils]] h3=some (.c (.bool true),h4):=by rw [← q3];exact e4
 have f5:evCallO OS table N d 11 [.c (.ptr (r0 0) 0),.c (.int .i64 0),.agg [.int .i64 6,.int .i64 0,.int .i64 0,.int .i64 0,.int .i64 0,.nils]] h4=some (.c (.bool true),h5):=by rw [← q4];exact e5
 have f6:evCallO OS table N d 14 [.c (.ptr (r0 0) 0),.agg [.int .i64 4,.int .i64 0,.int .i64 0,.int .i64 0,.int .i64 0,.int .i64 0,.int .i64 0,.int .i64 0,.int .i64 0,.nils,.nils]] h5=some (.c (.bool true),h6):=by rw [← q5];exact e6
 have c6:h6.read (r0 0) 0 1=some [.ptr (r6 1) 0]:=by rw [← q6];exact A6.cell (i:=0) (o:=0) (v:=Q.p 1 0) (by kernel_rfl)
 have f7:evCallO OS table N d 15 [.c (.ptr (r6 1) 0)] h6=some (.c (.sl (r7 38) 0 3 (.dy 1)),h7):=e7
 have c7:h7.read (r7 38) 0 1=some [.sl (r7 39) 0 24 (.dy 1)]:=A7.cell (i:=38) (o:=0) (v:=Q.d 39 0 24 1) (by kernel_rfl)
 have f8:evCallO OS table N d 16 [.c (.int .i64 0),.c (.sl (r7 39) 0 24 (.dy 1))] h7=some (.tup [.c (.sl (r8 38) 0 16 (.dy 1)),.c (.int .i64 0)],h8):=e8
 have c8:h8.read (r8 38) 0 1=some [.int .u8 107]:=A8.cell (i:=38) (o:=0) (v:=Q.u 107) (by kernel_rfl)
 have f9:evCallO OS table N d 26 [.c (.ptr (r0 0) 0)] h8=some (.c (.bool true),h9):=by rw [← q8];exact e9
 have f10:evCallO OS table N d 25 [.c (.ptr (r0 0) 0)] h9=some (.c (.bool true),h10):=by rw [← q9];exact e10
 have m3:Nat.blt 0 3=true:=rfl
 have m16:Nat.blt 0 16=true:=rfl
 rw [zbi (F:=ir9) rfl rfl rfl]
 unfold ir9
 rw [zbp]
 simp only [za9,zap,zac,zas,zat,zam,za5,zbl,zad,zaj,zaa,zau,zae,zaf,zar,zax,zk7,zba,zdq,zj8,zbg,zgz,za4,zbt,zbd,zbb,zco,zc8,zaz,za1,za6,zbe,zee,zme,zbf,zag,za7,X.eval,zal,zai,List.map_cons,List.map_nil,List.getD_cons_zero,List.getD_cons_succ,List.getD_nil,List.set_cons_zero,List.set_cons_succ,zay,zdk,zaq,zab,zak,intArith,shift,zfo,cond_true,cond_false,BEq.rfl,zb0,zb1,AV.cells,AV.ofCells,XV.av,List.length_cons,List.length_nil,zeros,zdf,setMany,List.nil_append,List.cons_append,Nat.ble,Nat.zero_add,Nat.add_zero,Nat.reduceAdd,Bool.not_true,Bool.not_false,Int.reduceLT,Int.reduceGT,decide_true,decide_false,zdt,zdl,za0,za3,zcw,zcm,za8,AV.ofCells,zbr,zlq,List.getElem?_cons_zero,List.getElem?_cons_succ,zy8,zbz,zbs,Int.cast_ofNat_Int,zen,zaah,m3,m16,Nat.zero_mul,f0,f1,f2,f3,f4,f5,f6,c6,f7,c7,f8,c8,f9,f10]
 exact ⟨h10,rfl,A10.ext⟩
end Lav
set_option maxRecDepth 100000
namespace Lav
open Go (IntKind)
theorem zo0 (n L:Int):n % L=Int.tmod n L % L:=by
 have h3:L * Int.tdiv n L + Int.tmod n L=n:=Int.mul_tdiv_add_tmod n L
 have h4:(Int.tmod n L + L * Int.tdiv n L) % L=Int.tmod n L % L:=Int.add_mul_emod_self_left _ _ _
 rw [(Int.add_comm (Int.tmod n L) (L * Int.tdiv n L)).trans h3] at h4
 exact h4
def zyb (L k:Nat) (call:Call):List AV→Heap→Option (AV × Heap)
 | [.c (.ptr i o),.c (.res false 0 0)],h=>match call 61 [.c (.ptr i o)] h with
  | some (.c (.sl b q n _),h1)=>bif Nat.beq n L then (match h1.read b (q + k) 1 with
   | some [.int .i64 v]=>some (.c (.int .i64 v),h1)
   | _=>none) else none
  | _=>none
 | _,_=>none
def zpb (L k:Nat):Over:=fun f=>bif Nat.beq f 49 then some (zyb L k) else OS f
theorem zu0 {n:Int} {L k:Nat} (hk:n % (L:Int)=(k:Int)) (hkL:k < L) (hL:L < 1000):OverM2 (fun _=>n) (zpb L k) OS table:=by
 have h2:=(zmm 82 178 196).two table (τ:=fun _=>n)
 refine ⟨fun f hf=>?_,fun ρ b1 b2 h0 g0 f g hf call call' N' hN hC args h1 h2' r h1' S he=>?_⟩
 ·unfold zpb at hf
  cases hb:Nat.beq f 49 with
  | true=>rw [hb] at hf;cases hf
  | false=>rw [hb] at hf;exact hf
 ·unfold zpb at hf
  cases hb:Nat.beq f 49 with
  | false=>rw [hb] at hf;exact h2.yes_ ρ b1 b2 h0 g0 f g hf call call' N' hN hC args h1 h2' r h1' S he
  | true =>
   rw [hb] at hf
   simp only [cond_true,Option.some.injEq] at hf
   subst hf
   have:=Nat.eq_of_beq_eq_true hb
   subst this
   unfold zyb at he
   split at he
   ·rename_i i o
    split at he
    ·rename_i b q m c k1 hc
     cases hm:Nat.beq m L with
     | false=>rw [hm] at he;cases he
     | true =>
      rw [hm] at he
      have:=Nat.eq_of_beq_eq_true hm
      subst this
      simp only [cond_true] at he
      split at he
      ·rename_i v hr
       simp only [Option.some.injEq,Prod.mk.injEq] at he
       obtain ⟨rfl,rfl⟩:=he
       obtain ⟨k2,e1,S1⟩:=hC _ _ _ _ _ _ S hc
       refine ⟨k2,?_,S1⟩
       have e1':call' 61 [.c (.ptr (ρ i) o)] h2'=some (.c (.sl (ρ b) q m c),k2):=e1
       have r1:k2.read (ρ b) (q + k) 1=some [.int .i64 v]:=S1.read hr
       have ly:∀ (loc vals:List AV) (h:Heap),zao loc (.c (.sl (ρ b) q m c) :: vals) h (.len .sl (.val 0))=some (.c (.int .i64 (m:Int))):=fun _ _ _=>rfl
       have c1:((m:Int) == 0)=false:=by simp only [beq_eq_false_iff_ne,ne_eq];omega
       have m1:Nat.blt k m=true:=zc0 hkL
       show zem table N' call' 49 [.c (.ptr (ρ i) o),.c (.int .i64 n)] h2'=some (.c (.int .i64 v),k2)
       show zso call' N' ir49 _ h2'=_
       unfold ir49
       rw [zbp]
       by_cases hneg:Int.tmod n (m:Int) < 0
       ·have e2:IntKind.i64.wrap (Int.tmod n (m:Int) + (m:Int))=(k:Int):=by
         have h1 : -(m:Int) < Int.tmod n (m:Int):=Int.lt_tmod_of_pos _ (by omega)
         rw [zf7 (by omega) (by omega),← hk]
         have h2:n % (m:Int)=(Int.tmod n (m:Int) + (m:Int)) % (m:Int):=by
          rw [Int.add_emod_right];exact zo0 _ _
         rw [h2,Int.emod_eq_of_lt (by omega) (by omega)]
        simp only [za9,zap,zac,zas,zat,zav,zam,za5,zbl,zad,zaj,zaa,zae,zaf,zar,zax,zbg,za4,zbt,zbd,zbb,zco,zc8,zaz,za1,za6,zag,X.eval,zal,zai,List.map_cons,List.map_nil,List.getD_cons_zero,List.getD_cons_succ,List.getD_nil,List.set_cons_zero,List.set_cons_succ,zay,zaq,zab,zak,intArith,shift,zbc,cond_true,cond_false,BEq.rfl,AV.ofCells,Int.reduceNeg,Int.reduceLT,decide_false,e1',ly,c1,decide_eq_true hneg,e2,zbr,za8,m1,Nat.mul_one,r1,AV.ofCells]
       ·have e2:Int.tmod n (m:Int)=(k:Int):=by
         have h4:Int.tmod n (m:Int) < (m:Int):=Int.tmod_lt_of_pos _ (by omega)
         rw [← hk,zo0,Int.emod_eq_of_lt (by omega) h4]
        have hneg' : ¬ ((k:Int) < 0):=by omega
        simp only [za9,zap,zac,zas,zat,zam,za5,zbl,zad,zaj,zaa,zae,zaf,zar,zax,zbg,za4,zbt,zbd,zbb,zco,zc8,zaz,za1,za6,zag,X.eval,zal,zai,List.map_cons,List.map_nil,List.getD_cons_zero,List.getD_cons_succ,List.getD_nil,List.set_cons_zero,List.set_cons_succ,zay,zaq,zab,zak,intArith,shift,zbc,cond_true,cond_false,BEq.rfl,AV.ofCells,Int.reduceNeg,Int.reduceLT,decide_false,e1',ly,c1,e2,decide_eq_false hneg',zbr,za8,m1,Nat.mul_one,r1,AV.ofCells]
      ·cases he
    ·cases he
   ·cases he
end Lav
set_option maxRecDepth 100000
set_option linter.unusedVariables false
namespace Lav
namespace Q
def tv (n:Int):CV:=.int .i64 n
def pz:Nat→List Blk→List (Nat × Blk)→List Blk
 | _,[],c=>c.map (·.2)
 | i,b :: l,c=>match c with
  | []=>b :: l
  | (j,x) :: r=>bif Nat.beq i j then x :: pz (i + 1) l r else b :: pz (i + 1) l c
def stT:AV:=.agg [a 2,a 0,.res false 0 0,a 0,a 0,a 0,a 0,a 0,a 0,ns,ns]
end Q
end Lav
namespace Lav.Q
def n0:List Blk:=[cs ([p 1 0,a 8,a 6,a 3,a 3,d 2 0 47 1,a 6,a 6]),cs ([a 8,a 6,a 3,a 3,p 3 0,p 4 0,p 5 0,a 1,d 6 0 16 1,m 0,a 0,a 0,s 7 0 8 8,d 8 0 3 1,d 9 0 6 3,s 10 0 6 6,d 11 0 12 14,ch 12,a 46,a 6,f,f,f]),cs (rp 47 [f]),cs ([d 13 0 8 1,mp 14,a 2,a 0,f]),cs ([s 15 0 6 6]),cs ([d 16 0 3 1]),cs (rp 5 [a 0,a 1,a 2]++[a 0]),cs ([t,t,t,f,f,f,f,f]),cs ([p 17 0,p 18 0,p 19 0]),cs ([a 1,a 0,a 0]++rp 2 [a 1,a 0,a 1,a 1]++[a 1,a 1,a 2,a 0,a 1,a 2,a 1]),cs ([a 9]++rp 5 [a 0]++[m 0,ns,ns,ns,a 0,a 0,a 10]++rp 5 [a 0]++[m 0,ns,ns,ns,a 0,a 0,a 11]++rp 5 [a 0]++[m 0,ns,ns,ns]++rp 4 [a 0]++[a 2,a 1,a 0,a 0,m 0,ns,d 20 0 1 1]++rp 2 [ns,a 0,a 0,a 0,a 0,a 0,a 0,a 0,a 0,m 0,ns,ns]++[ns,a 0,a 0]),cs ([a 0,a 1]++rp 4 [a 0]++[ns,a 0,a 0,a 0,ns,a 1,a 3,a 3,a 0,a 4]++rp 4 [a 0]++[d 21 0 1 1,a 0,a 0,a 0,ns,a 4,a 7,a 7,a 0,a 5]++rp 4 [a 0]++[ns,a 0,a 0,a 0,ns,a 9,a 12,a 12,a 1,a 1]++rp 4 [a 0]++[ns,a 0,a 1,a 0,ns,a 14,a 17,a 17,a 1,a 4]++rp 4 [a 0]++[d 22 0 1 1,a 0,a 0,a 0,ns,a 19,a 22,a 22,a 1,a 5]++rp 4 [a 0]++[ns,a 0,a 0,a 0,ns,a 24,a 27,a 27,a 2,a 1]++rp 4 [a 0]++[ns,a 0,a 2,a 0,ns,a 29,a 32,a 32,a 2,a 4]++rp 4 [a 0]++[d 23 0 1 1,a 0,a 0,a 0,ns,a 34,a 37,a 37,a 2,a 5]++rp 4 [a 0]++[ns,a 0,a 0,a 0,ns,a 39,a 42,a 42,a 0,a 2,a 1]++rp 2 [a 0,a 0,a 0,ns]++[a 44,a 0,a 0,a 1,a 2,a 1]++rp 2 [a 0,a 0,a 0,ns]++[a 45,a 0,a 0,a 2,a 2,a 1]++rp 2 [a 0,a 0,a 0,ns]++[a 46,a 0,a 0]),ck 4 [],cs ([s 24 0 24 24,s 25 0 24 24,s 26 0 24 24,s 27 0 24 24,s 28 0 24 24,s 29 0 24 24,s 30 0 24 24,s 31 0 24 24]),mk 2 [(0,0,d 32 0 24 1),(1,1,d 33 0 24 1)],cs (rp 3 [a 1,a 0,m 0]++[a 1,a 3]++rp 2 [m 0,a 0,a 0]++[m 0]),cs ([s 34 0 6 6,s 35 0 6 6,s 36 0 6 6]),cs ([p 37 0,m 0,ns,ns,d 38 0 2 1,mp 39]),cs ([p 40 0,m 0,ns,ns,d 41 0 2 1,mp 42]),cs ([p 43 0,a 3,ns,ns,d 44 0 2 1,mp 45]),cs ([a 2]),cs ([u 97]),cs ([u 98]),cs ([u 99]),cs (rp 24 [u 0]),cs (rp 24 [u 0]),cs (rp 24 [u 0]),cs (rp 24 [u 0]),cs (rp 24 [u 0]),cs (rp 24 [u 0]),cs (rp 24 [u 0]),cs (rp 24 [u 0]),cs ([u 115,u 32,u 94,u 1,u 1,u 0,u 90,u 165,u 97]++rp 15 [u 0]),cs ([u 31,u 194,u 155,u 178,u 2,u 0,u 90,u 165,u 98]++rp 15 [u 0]),cs (rp 6 [m 0]),cs (rp 6 [m 0]),cs (rp 6 [m 0]),cs ([p 46 0,p 47 0,p 48 0]),cs ([a 0,a 1]),mk 0 [],cs ([p 49 0,p 50 0,p 51 0]),cs ([a 2,a 3]),mk 0 [],cs ([p 52 0,p 53 0,p 54 0]),cs ([a 4,a 5]),mk 0 [],cs ([d 55 0 2 5,p 56 0,p 57 0]),cs ([s 58 0 32 32,a 0,a 0,a 1]),cs ([ch 59]),cs ([d 60 0 2 5,p 61 0,p 62 0]),cs ([s 63 0 32 32,a 0,a 0,a 1]),cs ([ch 64]),cs ([d 65 0 2 5,p 66 0,p 67 0]),cs ([s 68 0 32 32,a 0,a 0,a 1]),cs ([ch 69]),cs ([a 1,a 0,a 0,f,s 70 0 16 16,a 0,m 0,a 0,f,ns]),cs ([s 71 0 32 32,a 1,a 1,a 1]),cs ([s 72 0 96 96,a 1]),cs ([t,m 0,m 0]++rp 31 [f,a 0,a 0]),ck 8 [.c (a 0),.c (a 0)],cs ([a 1,a 1,a 0,f,s 73 0 16 16,a 0,m 0,a 0,f,ns]),cs ([s 74 0 32 32,a 1,a 1,a 1]),cs ([s 75 0 96 96,a 1]),cs ([t,m 0,m 0]++rp 31 [f,a 0,a 0]),ck 8 [.c (a 0),.c (a 0)],cs ([a 1,a 2,a 0,t,s 76 0 16 16,a 0,m 0,a 0,f,ns]),cs ([s 77 0 32 32,a 1,a 1,a 1]),cs ([s 78 0 96 96,a 1]),cs ([t,m 0,m 0]++rp 31 [f,a 0,a 0]),ck 8 [.c (a 0),.c (a 0)],cs ([u 97]++rp 15 [u 0]),cs ([f,a 0,a 0,t,m 0,m 0]++rp 30 [f,a 0,a 0]),cs ([a 0]++rp 95 [a 0,m 0]++[a 0]),cs ([u 98]++rp 15 [u 0]),cs ([f,a 0,a 0,t,m 0,m 0]++rp 30 [f,a 0,a 0]),cs (rp 87 [m 0,a 0]++[a 1]++rp 8 [a 0,m 0]++[a 0]),cs ([u 99]++rp 15 [u 0]),cs ([f,a 0,a 0,t,m 0,m 0]++rp 30 [f,a 0,a 0]),cs (rp 14 [m 0,a 0]++[a 2]++rp 81 [a 0,m 0]++[a 0])]
def g0:Blk:=cs ([p 1 0,a 8,a 6,a 3,a 3,d 2 0 48 1,a 6,a 6])
def g1:Blk:=cs ([a 8,a 6,a 3,a 3,p 3 0,p 4 0,p 5 0,a 1,d 6 0 16 1,m 0,a 0,a 0,s 7 0 8 8,d 8 0 3 1,d 9 0 6 3,s 10 0 6 6,d 11 0 12 14,ch 12,a 47,a 6,f,f,f])
def g2:Blk:=cs (rp 48 [f])
def g3:Blk:=cs ([a 9,a 1,a 1,a 0,a 0,a 0,m 0,ns,ns,ns,a 0,a 0,a 10]++rp 5 [a 0]++[m 0,ns,ns,ns,a 0,a 0,a 11]++rp 5 [a 0]++[m 0,ns,ns,ns]++rp 4 [a 0]++[a 2,a 1,a 0,a 0,m 0,ns,d 20 0 1 1]++rp 2 [ns,a 0,a 0,a 0,a 0,a 0,a 0,a 0,a 0,m 0,ns,ns]++[ns,a 0,a 0])
def g4:Blk:=cs ([a 1,a 1]++rp 2 [m 0,a 1,a 0]++[m 0,a 1,a 3]++rp 2 [m 0,a 0,a 0]++[m 0])
def g5:Blk:=cs ([a 9]++rp 5 [a 0]++[m 0,ns,ns,ns,a 0,a 0,a 10,a 1,a 1,a 0,a 0,a 0,m 0,ns,ns,ns,a 0,a 0,a 11]++rp 5 [a 0]++[m 0,ns,ns,ns]++rp 4 [a 0]++[a 2,a 1,a 0,a 0,m 0,ns,d 20 0 1 1]++rp 2 [ns,a 0,a 0,a 0,a 0,a 0,a 0,a 0,a 0,m 0,ns,ns]++[ns,a 0,a 0])
def g6:Blk:=cs ([a 1,a 0,m 0,a 1,a 1,m 0,a 1,a 0,m 0,a 1,a 3]++rp 2 [m 0,a 0,a 0]++[m 0])
def g7:Blk:=cs ([a 9]++rp 5 [a 0]++[m 0,ns,ns,ns,a 0,a 0,a 10]++rp 5 [a 0]++[m 0,ns,ns,ns,a 0,a 0,a 11,a 1,a 1,a 0,a 0,a 0,m 0,ns,ns,ns]++rp 4 [a 0]++[a 2,a 1,a 0,a 0,m 0,ns,d 20 0 1 1]++rp 2 [ns,a 0,a 0,a 0,a 0,a 0,a 0,a 0,a 0,m 0,ns,ns]++[ns,a 0,a 0])
def g8:Blk:=cs (rp 2 [a 1,a 0,m 0]++[a 1,a 1,m 0,a 1,a 3]++rp 2 [m 0,a 0,a 0]++[m 0])
def g9:Blk:=cs ([d 13 0 8 1,mp 14,a 3,a 0,f])
def g10:Blk:=cs ([a 9]++rp 5 [a 0]++[m 0,ns,ns,ns,a 0,a 0,a 10]++rp 5 [a 0]++[m 0,ns,ns,ns,a 0,a 0,a 11]++rp 5 [a 0]++[m 0,ns,ns,ns]++rp 4 [a 0]++[a 2,a 1,a 0,a 0,m 0,ns,d 20 0 1 1,ns,a 1]++rp 2 [a 0,a 0,a 0,a 0,a 0,a 0,a 0,m 0,ns,ns,ns,a 0]++[a 0])
def g11:Blk:=mk 3 [(0,0,d 32 0 24 1),(1,1,d 33 0 24 1),(2,2,d 79 0 24 1)]
def g12:Blk:=cs (rp 3 [a 1,a 0,m 0]++[a 1,a 2]++rp 2 [m 0,a 0,a 0]++[m 0])
def g13:Blk:=cs ([a 1,a 2,a 0,f,s 76 0 16 16,a 0,m 0,a 0,f,ns])
def g14:Blk:=cs ([u 34,u 14,u 191,u 30,u 3,u 0,u 90,u 165,u 99]++rp 15 [u 0])
def g15:Blk:=cs ([p 1 0,a 8,a 6,a 3,a 3,d 2 0 49 1,a 6,a 6])
def g16:Blk:=cs ([a 8,a 6,a 3,a 3,p 3 0,p 4 0,p 5 0,a 1,d 6 0 16 1,m 0,a 0,a 0,s 7 0 8 8,d 8 0 3 1,d 9 0 6 3,s 10 0 6 6,d 11 0 12 14,ch 12,a 48,a 6,f,f,f])
def g17:Blk:=cs (rp 49 [f])
def g18 (t0 t1 t2:Int):Blk:=cs ([a 0,a 1]++rp 4 [a 0]++[ns,a 0,a 0,a 0,ns,a 1,a 3,a 3,a 0,a 4]++rp 4 [a 0]++[d 21 0 1 1,a 0,a 0,a 0,ns,a 4,a 7,a 7,a 0,a 5]++rp 4 [a 0]++[ns,a 0,a 0,a 0,ns,a 9,a 12,a 12,a 1,a 1]++rp 4 [a 0]++[ns,a 0,a 1,a 0,ns,a 14,a 17,a 17,a 1,a 4]++rp 4 [a 0]++[d 22 0 1 1,a 0,a 0,a 0,ns,a 19,a 22,a 22,a 1,a 5]++rp 4 [a 0]++[ns,a 0,a 0,a 0,ns,a 24,a 27,a 27,a 2,a 1]++rp 4 [a 0]++[ns,a 0,a 2,a 0,ns,a 29,a 32,a 32,a 2,a 4]++rp 4 [a 0]++[d 23 0 1 1,a 0,a 0,a 0,ns,a 34,a 37,a 37,a 2,a 5]++rp 4 [a 0]++[ns,a 0,a 0,a 0,ns,a 39,a 42,a 42,a 0,a 2,a 1,a 0,a 0,a 0,ns,a 0,a 1,a 0,ns,a 44,tv t0,tv t0,a 1,a 2,a 1]++rp 2 [a 0,a 0,a 0,ns]++[a 45,a 0,a 0,a 2,a 2,a 1]++rp 2 [a 0,a 0,a 0,ns]++[a 46,a 0,a 0])
def g19:Blk:=cs ([a 3,a 2]++rp 2 [m 0,a 1,a 0]++[m 0,a 1,a 3]++rp 2 [m 0,a 0,a 0]++[m 0])
def g20:Blk:=cs ([a 1]++rp 5 [m 0])
def g21:Blk:=cs ([a 1,a 1,a 1,f,s 73 0 16 16,a 0,m 0,a 0,f,ns])
def g22:Blk:=ck 8 [.c (a 0),.c (a 0),.c (a 0)]
def g23:Blk:=cs ([a 9,a 1,a 1,a 0,a 0,a 0,m 0,ns,ns,ns,a 0,a 0,a 10,a 1,a 1,a 0,a 0,a 0,m 0,ns,ns,ns,a 0,a 0,a 11]++rp 5 [a 0]++[m 0,ns,ns,ns]++rp 4 [a 0]++[a 2,a 1,a 0,a 0,m 0,ns,d 20 0 1 1]++rp 2 [ns,a 0,a 0,a 0,a 0,a 0,a 0,a 0,a 0,m 0,ns,ns]++[ns,a 0,a 0])
def g24:Blk:=cs (rp 2 [a 1,a 1,m 0]++[a 1,a 0,m 0,a 1,a 3]++rp 2 [m 0,a 0,a 0]++[m 0])
def g25:Blk:=cs ([a 9,a 1,a 1,a 0,a 0,a 0,m 0,ns,ns,ns,a 0,a 0,a 10]++rp 5 [a 0]++[m 0,ns,ns,ns,a 0,a 0,a 11,a 1,a 1,a 0,a 0,a 0,m 0,ns,ns,ns]++rp 4 [a 0]++[a 2,a 1,a 0,a 0,m 0,ns,d 20 0 1 1]++rp 2 [ns,a 0,a 0,a 0,a 0,a 0,a 0,a 0,a 0,m 0,ns,ns]++[ns,a 0,a 0])
def g26:Blk:=cs ([a 1,a 1,m 0,a 1,a 0,m 0,a 1,a 1,m 0,a 1,a 3]++rp 2 [m 0,a 0,a 0]++[m 0])
def g27:Blk:=cs ([a 9,a 1,a 1,a 0,a 0,a 0,m 0,ns,ns,ns,a 0,a 0,a 10]++rp 5 [a 0]++[m 0,ns,ns,ns,a 0,a 0,a 11]++rp 5 [a 0]++[m 0,ns,ns,ns]++rp 4 [a 0]++[a 2,a 1,a 0,a 0,m 0,ns,d 20 0 1 1,ns,a 1]++rp 2 [a 0,a 0,a 0,a 0,a 0,a 0,a 0,m 0,ns,ns,ns,a 0]++[a 0])
def g28:Blk:=cs ([a 1,a 1]++rp 2 [m 0,a 1,a 0]++[m 0,a 1,a 2]++rp 2 [m 0,a 0,a 0]++[m 0])
def g29 (t0 t1 t2:Int):Blk:=cs ([a 0,a 1]++rp 4 [a 0]++[ns,a 0,a 0,a 0,ns,a 1,a 3,a 3,a 0,a 4]++rp 4 [a 0]++[d 21 0 1 1,a 0,a 0,a 0,ns,a 4,a 7,a 7,a 0,a 5]++rp 4 [a 0]++[ns,a 0,a 0,a 0,ns,a 9,a 12,a 12,a 1,a 1]++rp 4 [a 0]++[ns,a 0,a 1,a 0,ns,a 14,a 17,a 17,a 1,a 4]++rp 4 [a 0]++[d 22 0 1 1,a 0,a 0,a 0,ns,a 19,a 22,a 22,a 1,a 5]++rp 4 [a 0]++[ns,a 0,a 0,a 0,ns,a 24,a 27,a 27,a 2,a 1]++rp 4 [a 0]++[ns,a 0,a 2,a 0,ns,a 29,a 32,a 32,a 2,a 4]++rp 4 [a 0]++[d 23 0 1 1,a 0,a 0,a 0,ns,a 34,a 37,a 37,a 2,a 5]++rp 4 [a 0]++[ns,a 0,a 0,a 0,ns,a 39,a 42,a 42,a 0,a 2,a 1]++rp 2 [a 0,a 0,a 0,ns]++[a 44,a 0,a 0,a 1,a 2,a 1,a 0,a 0,a 0,ns,a 0,a 1,a 0,ns,a 45,tv t1,tv t1,a 2,a 2,a 1]++rp 2 [a 0,a 0,a 0,ns]++[a 46,a 0,a 0])
def g30:Blk:=cs ([a 1,a 0,m 0,a 3,a 2,m 0,a 1,a 0,m 0,a 1,a 3]++rp 2 [m 0,a 0,a 0]++[m 0])
def g31:Blk:=cs ([a 9]++rp 5 [a 0]++[m 0,ns,ns,ns,a 0,a 0,a 10,a 1,a 1,a 0,a 0,a 0,m 0,ns,ns,ns,a 0,a 0,a 11,a 1,a 1,a 0,a 0,a 0,m 0,ns,ns,ns]++rp 4 [a 0]++[a 2,a 1,a 0,a 0,m 0,ns,d 20 0 1 1]++rp 2 [ns,a 0,a 0,a 0,a 0,a 0,a 0,a 0,a 0,m 0,ns,ns]++[ns,a 0,a 0])
def g32:Blk:=cs ([a 1,a 0]++rp 2 [m 0,a 1,a 1]++[m 0,a 1,a 3]++rp 2 [m 0,a 0,a 0]++[m 0])
def g33:Blk:=cs ([a 9]++rp 5 [a 0]++[m 0,ns,ns,ns,a 0,a 0,a 10,a 1,a 1,a 0,a 0,a 0,m 0,ns,ns,ns,a 0,a 0,a 11]++rp 5 [a 0]++[m 0,ns,ns,ns]++rp 4 [a 0]++[a 2,a 1,a 0,a 0,m 0,ns,d 20 0 1 1,ns,a 1]++rp 2 [a 0,a 0,a 0,a 0,a 0,a 0,a 0,m 0,ns,ns,ns,a 0]++[a 0])
def g34:Blk:=cs ([a 1,a 0,m 0,a 1,a 1,m 0,a 1,a 0,m 0,a 1,a 2]++rp 2 [m 0,a 0,a 0]++[m 0])
def g35 (t0 t1 t2:Int):Blk:=cs ([a 0,a 1]++rp 4 [a 0]++[ns,a 0,a 0,a 0,ns,a 1,a 3,a 3,a 0,a 4]++rp 4 [a 0]++[d 21 0 1 1,a 0,a 0,a 0,ns,a 4,a 7,a 7,a 0,a 5]++rp 4 [a 0]++[ns,a 0,a 0,a 0,ns,a 9,a 12,a 12,a 1,a 1]++rp 4 [a 0]++[ns,a 0,a 1,a 0,ns,a 14,a 17,a 17,a 1,a 4]++rp 4 [a 0]++[d 22 0 1 1,a 0,a 0,a 0,ns,a 19,a 22,a 22,a 1,a 5]++rp 4 [a 0]++[ns,a 0,a 0,a 0,ns,a 24,a 27,a 27,a 2,a 1]++rp 4 [a 0]++[ns,a 0,a 2,a 0,ns,a 29,a 32,a 32,a 2,a 4]++rp 4 [a 0]++[d 23 0 1 1,a 0,a 0,a 0,ns,a 34,a 37,a 37,a 2,a 5]++rp 4 [a 0]++[ns,a 0,a 0,a 0,ns,a 39,a 42,a 42,a 0,a 2,a 1]++rp 2 [a 0,a 0,a 0,ns]++[a 44,a 0,a 0,a 1,a 2,a 1]++rp 2 [a 0,a 0,a 0,ns]++[a 45,a 0,a 0,a 2,a 2,a 1,a 0,a 0,a 0,ns,a 0,a 1,a 0,ns,a 46,tv t2,tv t2])
def g36:Blk:=cs (rp 2 [a 1,a 0,m 0]++[a 3,a 2,m 0,a 1,a 3]++rp 2 [m 0,a 0,a 0]++[m 0])
def g37:Blk:=cs ([a 9]++rp 5 [a 0]++[m 0,ns,ns,ns,a 0,a 0,a 10]++rp 5 [a 0]++[m 0,ns,ns,ns,a 0,a 0,a 11,a 1,a 1,a 0,a 0,a 0,m 0,ns,ns,ns]++rp 4 [a 0]++[a 2,a 1,a 0,a 0,m 0,ns,d 20 0 1 1,ns,a 1]++rp 2 [a 0,a 0,a 0,a 0,a 0,a 0,a 0,m 0,ns,ns,ns,a 0]++[a 0])
def g38:Blk:=cs (rp 2 [a 1,a 0,m 0]++[a 1,a 1,m 0,a 1,a 2]++rp 2 [m 0,a 0,a 0]++[m 0])
def g39:Blk:=cs ([a 9]++rp 5 [a 0]++[m 0,ns,ns,ns,a 0,a 0,a 10]++rp 5 [a 0]++[m 0,ns,ns,ns,a 0,a 0,a 11]++rp 5 [a 0]++[m 0,ns,ns,ns]++rp 4 [a 0]++[a 2,a 1,a 0,a 0,m 0,ns,ns,ns,a 1]++rp 2 [a 0,a 0,a 0,a 0,a 0,a 0,a 0,m 0,ns,ns,ns,a 0]++[a 0])
def g40:Blk:=mk 3 [(0,0,d 32 0 24 1),(1,1,d 33 0 24 1),(2,2,d 20 0 24 1)]
def g41:Blk:=cs (rp 4 [a 1,a 0,m 0]++rp 2 [a 0,a 0,m 0])
def g42:Blk:=cs ([p 43 0,m 0,ns,ns,d 44 0 2 1,mp 45])
def g43:Blk:=cs ([p 1 0,a 8,a 6,a 3,a 3,d 2 0 50 1,a 6,a 6])
def g44:Blk:=cs ([a 8,a 6,a 3,a 3,p 3 0,p 4 0,p 5 0,a 1,d 6 0 16 1,m 0,a 0,a 0,s 7 0 8 8,d 8 0 3 1,d 9 0 6 3,s 10 0 6 6,d 11 0 12 14,ch 12,a 49,a 6,f,f,f])
def g45:Blk:=cs (rp 50 [f])
def g46:Blk:=cs ([a 3,a 2,m 0,a 1,a 1,m 0,a 1,a 0,m 0,a 1,a 3]++rp 2 [m 0,a 0,a 0]++[m 0])
def g47:Blk:=cs ([a 3,a 2,m 0,a 1,a 0,m 0,a 1,a 1,m 0,a 1,a 3]++rp 2 [m 0,a 0,a 0]++[m 0])
def g48:Blk:=cs ([a 3,a 2]++rp 2 [m 0,a 1,a 0]++[m 0,a 1,a 2]++rp 2 [m 0,a 0,a 0]++[m 0])
def g49:Blk:=cs ([a 1,a 1,m 0,a 3,a 2,m 0,a 1,a 0,m 0,a 1,a 3]++rp 2 [m 0,a 0,a 0]++[m 0])
def g50:Blk:=cs ([a 9,a 1,a 1,a 0,a 0,a 0,m 0,ns,ns,ns,a 0,a 0,a 10,a 1,a 1,a 0,a 0,a 0,m 0,ns,ns,ns,a 0,a 0,a 11,a 1,a 1,a 0,a 0,a 0,m 0,ns,ns,ns]++rp 4 [a 0]++[a 2,a 1,a 0,a 0,m 0,ns,d 20 0 1 1]++rp 2 [ns,a 0,a 0,a 0,a 0,a 0,a 0,a 0,a 0,m 0,ns,ns]++[ns,a 0,a 0])
def g51:Blk:=cs (rp 3 [a 1,a 1,m 0]++[a 1,a 3]++rp 2 [m 0,a 0,a 0]++[m 0])
def g52:Blk:=cs ([a 9,a 1,a 1,a 0,a 0,a 0,m 0,ns,ns,ns,a 0,a 0,a 10,a 1,a 1,a 0,a 0,a 0,m 0,ns,ns,ns,a 0,a 0,a 11]++rp 5 [a 0]++[m 0,ns,ns,ns]++rp 4 [a 0]++[a 2,a 1,a 0,a 0,m 0,ns,d 20 0 1 1,ns,a 1]++rp 2 [a 0,a 0,a 0,a 0,a 0,a 0,a 0,m 0,ns,ns,ns,a 0]++[a 0])
def g53:Blk:=cs (rp 2 [a 1,a 1,m 0]++[a 1,a 0,m 0,a 1,a 2]++rp 2 [m 0,a 0,a 0]++[m 0])
def g54:Blk:=cs ([a 1,a 1,m 0,a 1,a 0,m 0,a 3,a 2,m 0,a 1,a 3]++rp 2 [m 0,a 0,a 0]++[m 0])
def g55:Blk:=cs ([a 9,a 1,a 1,a 0,a 0,a 0,m 0,ns,ns,ns,a 0,a 0,a 10]++rp 5 [a 0]++[m 0,ns,ns,ns,a 0,a 0,a 11,a 1,a 1,a 0,a 0,a 0,m 0,ns,ns,ns]++rp 4 [a 0]++[a 2,a 1,a 0,a 0,m 0,ns,d 20 0 1 1,ns,a 1]++rp 2 [a 0,a 0,a 0,a 0,a 0,a 0,a 0,m 0,ns,ns,ns,a 0]++[a 0])
def g56:Blk:=cs ([a 1,a 1,m 0,a 1,a 0,m 0,a 1,a 1,m 0,a 1,a 2]++rp 2 [m 0,a 0,a 0]++[m 0])
def g57:Blk:=cs ([a 9,a 1,a 1,a 0,a 0,a 0,m 0,ns,ns,ns,a 0,a 0,a 10]++rp 5 [a 0]++[m 0,ns,ns,ns,a 0,a 0,a 11]++rp 5 [a 0]++[m 0,ns,ns,ns]++rp 4 [a 0]++[a 2,a 1,a 0,a 0,m 0,ns,ns,ns,a 1]++rp 2 [a 0,a 0,a 0,a 0,a 0,a 0,a 0,m 0,ns,ns,ns,a 0]++[a 0])
def g58:Blk:=cs ([a 1,a 1]++rp 3 [m 0,a 1,a 0]++rp 2 [m 0,a 0,a 0]++[m 0])
def g59:Blk:=cs ([a 1,a 0,m 0,a 3,a 2,m 0,a 1,a 1,m 0,a 1,a 3]++rp 2 [m 0,a 0,a 0]++[m 0])
def g60:Blk:=cs ([a 1,a 0,m 0,a 3,a 2,m 0,a 1,a 0,m 0,a 1,a 2]++rp 2 [m 0,a 0,a 0]++[m 0])
def g61:Blk:=cs ([a 1,a 0,m 0,a 1,a 1,m 0,a 3,a 2,m 0,a 1,a 3]++rp 2 [m 0,a 0,a 0]++[m 0])
def g62:Blk:=cs ([a 9]++rp 5 [a 0]++[m 0,ns,ns,ns,a 0,a 0,a 10,a 1,a 1,a 0,a 0,a 0,m 0,ns,ns,ns,a 0,a 0,a 11,a 1,a 1,a 0,a 0,a 0,m 0,ns,ns,ns]++rp 4 [a 0]++[a 2,a 1,a 0,a 0,m 0,ns,d 20 0 1 1,ns,a 1]++rp 2 [a 0,a 0,a 0,a 0,a 0,a 0,a 0,m 0,ns,ns,ns,a 0]++[a 0])
def g63:Blk:=cs ([a 1,a 0]++rp 2 [m 0,a 1,a 1]++[m 0,a 1,a 2]++rp 2 [m 0,a 0,a 0]++[m 0])
def g64:Blk:=cs ([a 9]++rp 5 [a 0]++[m 0,ns,ns,ns,a 0,a 0,a 10,a 1,a 1,a 0,a 0,a 0,m 0,ns,ns,ns,a 0,a 0,a 11]++rp 5 [a 0]++[m 0,ns,ns,ns]++rp 4 [a 0]++[a 2,a 1,a 0,a 0,m 0,ns,ns,ns,a 1]++rp 2 [a 0,a 0,a 0,a 0,a 0,a 0,a 0,m 0,ns,ns,ns,a 0]++[a 0])
def g65:Blk:=cs ([a 1,a 0,m 0,a 1,a 1]++rp 2 [m 0,a 1,a 0]++rp 2 [m 0,a 0,a 0]++[m 0])
def g66:Blk:=cs (rp 2 [a 1,a 0,m 0]++[a 3,a 2,m 0,a 1,a 2]++rp 2 [m 0,a 0,a 0]++[m 0])
def g67:Blk:=cs ([a 9]++rp 5 [a 0]++[m 0,ns,ns,ns,a 0,a 0,a 10]++rp 5 [a 0]++[m 0,ns,ns,ns,a 0,a 0,a 11,a 1,a 1,a 0,a 0,a 0,m 0,ns,ns,ns]++rp 4 [a 0]++[a 2,a 1,a 0,a 0,m 0,ns,ns,ns,a 1]++rp 2 [a 0,a 0,a 0,a 0,a 0,a 0,a 0,m 0,ns,ns,ns,a 0]++[a 0])
def g68:Blk:=cs (rp 2 [a 1,a 0,m 0]++[a 1,a 1,m 0,a 1]++rp 2 [a 0,m 0,a 0]++[a 0,m 0])
def g69:Blk:=cs (rp 3 [a 1,a 0,m 0]++[a 3]++rp 2 [a 0,m 0,a 0]++[a 0,m 0])
def g70:Blk:=cs ([p 1 0,a 8,a 6,a 3,a 3,d 2 0 51 1,a 6,a 6])
def g71:Blk:=cs ([a 8,a 6,a 3,a 3,p 3 0,p 4 0,p 5 0,a 1,d 6 0 16 1,m 0,a 0,a 0,s 7 0 8 8,d 8 0 3 1,d 9 0 6 3,s 10 0 6 6,d 11 0 12 14,ch 12,a 50,a 6,f,f,f])
def g72:Blk:=cs (rp 51 [f])
def g73 (t0 t1 t2:Int):Blk:=cs ([a 0,a 1]++rp 4 [a 0]++[ns,a 0,a 0,a 0,ns,a 1,a 3,a 3,a 0,a 4]++rp 4 [a 0]++[d 21 0 1 1,a 0,a 0,a 0,ns,a 4,a 7,a 7,a 0,a 5]++rp 4 [a 0]++[ns,a 0,a 0,a 0,ns,a 9,a 12,a 12,a 1,a 1]++rp 4 [a 0]++[ns,a 0,a 1,a 0,ns,a 14,a 17,a 17,a 1,a 4]++rp 4 [a 0]++[d 22 0 1 1,a 0,a 0,a 0,ns,a 19,a 22,a 22,a 1,a 5]++rp 4 [a 0]++[ns,a 0,a 0,a 0,ns,a 24,a 27,a 27,a 2,a 1]++rp 4 [a 0]++[ns,a 0,a 2,a 0,ns,a 29,a 32,a 32,a 2,a 4]++rp 4 [a 0]++[d 23 0 1 1,a 0,a 0,a 0,ns,a 34,a 37,a 37,a 2,a 5]++rp 4 [a 0]++[ns,a 0,a 0,a 0,ns,a 39,a 42,a 42,a 0,a 2,a 1,a 0,a 0,a 0,ns,a 0,a 1,a 0,ns,a 44,tv t0,tv t0,a 1,a 2,a 1,a 0,a 0,a 0,ns,a 0,a 1,a 0,ns,a 45,tv t1,tv t1,a 2,a 2,a 1]++rp 2 [a 0,a 0,a 0,ns]++[a 46,a 0,a 0])
def g74:Blk:=cs (rp 2 [a 3,a 2,m 0]++[a 1,a 0,m 0,a 1,a 3]++rp 2 [m 0,a 0,a 0]++[m 0])
def g75:Blk:=cs ([a 1,a 1,a 2,f,s 73 0 16 16,a 0,m 0,a 0,f,ns])
def g76:Blk:=ck 8 [.c (a 0),.c (a 0),.c (a 0),.c (a 0)]
def g77:Blk:=cs ([a 3,a 2]++rp 2 [m 0,a 1,a 1]++[m 0,a 1,a 3]++rp 2 [m 0,a 0,a 0]++[m 0])
def g78:Blk:=cs ([a 3,a 2,m 0,a 1,a 1,m 0,a 1,a 0,m 0,a 1,a 2]++rp 2 [m 0,a 0,a 0]++[m 0])
def g79 (t0 t1 t2:Int):Blk:=cs ([a 0,a 1]++rp 4 [a 0]++[ns,a 0,a 0,a 0,ns,a 1,a 3,a 3,a 0,a 4]++rp 4 [a 0]++[d 21 0 1 1,a 0,a 0,a 0,ns,a 4,a 7,a 7,a 0,a 5]++rp 4 [a 0]++[ns,a 0,a 0,a 0,ns,a 9,a 12,a 12,a 1,a 1]++rp 4 [a 0]++[ns,a 0,a 1,a 0,ns,a 14,a 17,a 17,a 1,a 4]++rp 4 [a 0]++[d 22 0 1 1,a 0,a 0,a 0,ns,a 19,a 22,a 22,a 1,a 5]++rp 4 [a 0]++[ns,a 0,a 0,a 0,ns,a 24,a 27,a 27,a 2,a 1]++rp 4 [a 0]++[ns,a 0,a 2,a 0,ns,a 29,a 32,a 32,a 2,a 4]++rp 4 [a 0]++[d 23 0 1 1,a 0,a 0,a 0,ns,a 34,a 37,a 37,a 2,a 5]++rp 4 [a 0]++[ns,a 0,a 0,a 0,ns,a 39,a 42,a 42,a 0,a 2,a 1,a 0,a 0,a 0,ns,a 0,a 1,a 0,ns,a 44,tv t0,tv t0,a 1,a 2,a 1]++rp 2 [a 0,a 0,a 0,ns]++[a 45,a 0,a 0,a 2,a 2,a 1,a 0,a 0,a 0,ns,a 0,a 1,a 0,ns,a 46,tv t2,tv t2])
def g80:Blk:=cs ([a 3,a 2,m 0,a 1,a 0,m 0,a 3,a 2,m 0,a 1,a 3]++rp 2 [m 0,a 0,a 0]++[m 0])
def g81:Blk:=cs ([a 3,a 2,m 0,a 1,a 0,m 0,a 1,a 1,m 0,a 1,a 2]++rp 2 [m 0,a 0,a 0]++[m 0])
def g82:Blk:=cs ([a 3,a 2]++rp 3 [m 0,a 1,a 0]++rp 2 [m 0,a 0,a 0]++[m 0])
def g83:Blk:=cs ([a 1,a 1,m 0,a 3,a 2,m 0,a 1,a 1,m 0,a 1,a 3]++rp 2 [m 0,a 0,a 0]++[m 0])
def g84:Blk:=cs ([a 1,a 1,m 0,a 3,a 2,m 0,a 1,a 0,m 0,a 1,a 2]++rp 2 [m 0,a 0,a 0]++[m 0])
def g85:Blk:=cs (rp 2 [a 1,a 1,m 0]++[a 3,a 2,m 0,a 1,a 3]++rp 2 [m 0,a 0,a 0]++[m 0])
def g86:Blk:=cs ([a 9,a 1,a 1,a 0,a 0,a 0,m 0,ns,ns,ns,a 0,a 0,a 10,a 1,a 1,a 0,a 0,a 0,m 0,ns,ns,ns,a 0,a 0,a 11,a 1,a 1,a 0,a 0,a 0,m 0,ns,ns,ns]++rp 4 [a 0]++[a 2,a 1,a 0,a 0,m 0,ns,d 20 0 1 1,ns,a 1]++rp 2 [a 0,a 0,a 0,a 0,a 0,a 0,a 0,m 0,ns,ns,ns,a 0]++[a 0])
def g87:Blk:=cs (rp 3 [a 1,a 1,m 0]++[a 1,a 2]++rp 2 [m 0,a 0,a 0]++[m 0])
def g88:Blk:=cs ([a 9,a 1,a 1,a 0,a 0,a 0,m 0,ns,ns,ns,a 0,a 0,a 10,a 1,a 1,a 0,a 0,a 0,m 0,ns,ns,ns,a 0,a 0,a 11]++rp 5 [a 0]++[m 0,ns,ns,ns]++rp 4 [a 0]++[a 2,a 1,a 0,a 0,m 0,ns,ns,ns,a 1]++rp 2 [a 0,a 0,a 0,a 0,a 0,a 0,a 0,m 0,ns,ns,ns,a 0]++[a 0])
def g89:Blk:=cs (rp 2 [a 1,a 1,m 0]++rp 2 [a 1,a 0,m 0]++rp 2 [a 0,a 0,m 0])
def g90:Blk:=cs ([a 1,a 1,m 0,a 1,a 0,m 0,a 3,a 2,m 0,a 1,a 2]++rp 2 [m 0,a 0,a 0]++[m 0])
def g91:Blk:=cs ([a 9,a 1,a 1,a 0,a 0,a 0,m 0,ns,ns,ns,a 0,a 0,a 10]++rp 5 [a 0]++[m 0,ns,ns,ns,a 0,a 0,a 11,a 1,a 1,a 0,a 0,a 0,m 0,ns,ns,ns]++rp 4 [a 0]++[a 2,a 1,a 0,a 0,m 0,ns,ns,ns,a 1]++rp 2 [a 0,a 0,a 0,a 0,a 0,a 0,a 0,m 0,ns,ns,ns,a 0]++[a 0])
def g92:Blk:=cs (rp 2 [a 1,a 1,m 0,a 1,a 0,m 0]++rp 2 [a 0,a 0,m 0])
def g93:Blk:=cs ([a 1,a 1]++rp 2 [m 0,a 1,a 0]++[m 0,a 3]++rp 2 [a 0,m 0,a 0]++[a 0,m 0])
def g94 (t0 t1 t2:Int):Blk:=cs ([a 0,a 1]++rp 4 [a 0]++[ns,a 0,a 0,a 0,ns,a 1,a 3,a 3,a 0,a 4]++rp 4 [a 0]++[d 21 0 1 1,a 0,a 0,a 0,ns,a 4,a 7,a 7,a 0,a 5]++rp 4 [a 0]++[ns,a 0,a 0,a 0,ns,a 9,a 12,a 12,a 1,a 1]++rp 4 [a 0]++[ns,a 0,a 1,a 0,ns,a 14,a 17,a 17,a 1,a 4]++rp 4 [a 0]++[d 22 0 1 1,a 0,a 0,a 0,ns,a 19,a 22,a 22,a 1,a 5]++rp 4 [a 0]++[ns,a 0,a 0,a 0,ns,a 24,a 27,a 27,a 2,a 1]++rp 4 [a 0]++[ns,a 0,a 2,a 0,ns,a 29,a 32,a 32,a 2,a 4]++rp 4 [a 0]++[d 23 0 1 1,a 0,a 0,a 0,ns,a 34,a 37,a 37,a 2,a 5]++rp 4 [a 0]++[ns,a 0,a 0,a 0,ns,a 39,a 42,a 42,a 0,a 2,a 1]++rp 2 [a 0,a 0,a 0,ns]++[a 44,a 0,a 0,a 1,a 2,a 1,a 0,a 0,a 0,ns,a 0,a 1,a 0,ns,a 45,tv t1,tv t1,a 2,a 2,a 1,a 0,a 0,a 0,ns,a 0,a 1,a 0,ns,a 46,tv t2,tv t2])
def g95:Blk:=cs ([a 1,a 0]++rp 2 [m 0,a 3,a 2]++[m 0,a 1,a 3]++rp 2 [m 0,a 0,a 0]++[m 0])
def g96:Blk:=cs ([a 1,a 0,m 0,a 3,a 2,m 0,a 1,a 1,m 0,a 1,a 2]++rp 2 [m 0,a 0,a 0]++[m 0])
def g97:Blk:=cs ([a 1,a 0,m 0,a 3,a 2]++rp 2 [m 0,a 1,a 0]++rp 2 [m 0,a 0,a 0]++[m 0])
def g98:Blk:=cs ([a 1,a 0,m 0,a 1,a 1,m 0,a 3,a 2,m 0,a 1,a 2]++rp 2 [m 0,a 0,a 0]++[m 0])
def g99:Blk:=cs ([a 9]++rp 5 [a 0]++[m 0,ns,ns,ns,a 0,a 0,a 10,a 1,a 1,a 0,a 0,a 0,m 0,ns,ns,ns,a 0,a 0,a 11,a 1,a 1,a 0,a 0,a 0,m 0,ns,ns,ns]++rp 4 [a 0]++[a 2,a 1,a 0,a 0,m 0,ns,ns,ns,a 1]++rp 2 [a 0,a 0,a 0,a 0,a 0,a 0,a 0,m 0,ns,ns,ns,a 0]++[a 0])
def g100:Blk:=cs ([a 1,a 0]++rp 2 [m 0,a 1,a 1]++[m 0,a 1]++rp 2 [a 0,m 0,a 0]++[a 0,m 0])
def g101:Blk:=cs ([a 1,a 0,m 0,a 1,a 1,m 0,a 1,a 0,m 0,a 3]++rp 2 [a 0,m 0,a 0]++[a 0,m 0])
def g102:Blk:=cs (rp 2 [a 1,a 0,m 0]++[a 3,a 2,m 0,a 1]++rp 2 [a 0,m 0,a 0]++[a 0,m 0])
def g103:Blk:=cs (rp 2 [a 1,a 0,m 0]++[a 1,a 1,m 0,a 3]++rp 2 [a 0,m 0,a 0]++[a 0,m 0])
def zeo:Blk:=cs ([p 1 0,a 8,a 6,a 3,a 3,d 2 0 52 1,a 6,a 6])
def zep:Blk:=cs ([a 8,a 6,a 3,a 3,p 3 0,p 4 0,p 5 0,a 1,d 6 0 16 1,m 0,a 0,a 0,s 7 0 8 8,d 8 0 3 1,d 9 0 6 3,s 10 0 6 6,d 11 0 12 14,ch 12,a 51,a 6,f,f,f])
def zeq:Blk:=cs (rp 52 [f])
def g107:Blk:=cs (rp 2 [a 3,a 2,m 0]++[a 1,a 1,m 0,a 1,a 3]++rp 2 [m 0,a 0,a 0]++[m 0])
def g108:Blk:=cs (rp 2 [a 3,a 2,m 0]++[a 1,a 0,m 0,a 1,a 2]++rp 2 [m 0,a 0,a 0]++[m 0])
def g109:Blk:=cs ([a 3,a 2,m 0,a 1,a 1,m 0,a 3,a 2,m 0,a 1,a 3]++rp 2 [m 0,a 0,a 0]++[m 0])
def g110:Blk:=cs ([a 3,a 2]++rp 2 [m 0,a 1,a 1]++[m 0,a 1,a 2]++rp 2 [m 0,a 0,a 0]++[m 0])
def g111:Blk:=cs ([a 3,a 2,m 0,a 1,a 1]++rp 2 [m 0,a 1,a 0]++rp 2 [m 0,a 0,a 0]++[m 0])
def g112:Blk:=cs ([a 3,a 2,m 0,a 1,a 0,m 0,a 3,a 2,m 0,a 1,a 2]++rp 2 [m 0,a 0,a 0]++[m 0])
def g113:Blk:=cs ([a 3,a 2,m 0,a 1,a 0,m 0,a 1,a 1,m 0,a 1]++rp 2 [a 0,m 0,a 0]++[a 0,m 0])
def g114:Blk:=cs ([a 3,a 2]++rp 2 [m 0,a 1,a 0]++[m 0,a 3]++rp 2 [a 0,m 0,a 0]++[a 0,m 0])
def g115:Blk:=cs ([a 1,a 1]++rp 2 [m 0,a 3,a 2]++[m 0,a 1,a 3]++rp 2 [m 0,a 0,a 0]++[m 0])
def g116:Blk:=cs ([a 1,a 1,m 0,a 3,a 2,m 0,a 1,a 1,m 0,a 1,a 2]++rp 2 [m 0,a 0,a 0]++[m 0])
def g117:Blk:=cs ([a 1,a 1,m 0,a 3,a 2]++rp 2 [m 0,a 1,a 0]++rp 2 [m 0,a 0,a 0]++[m 0])
def g118:Blk:=cs (rp 2 [a 1,a 1,m 0]++[a 3,a 2,m 0,a 1,a 2]++rp 2 [m 0,a 0,a 0]++[m 0])
def zgb:Blk:=cs ([a 9,a 1,a 1,a 0,a 0,a 0,m 0,ns,ns,ns,a 0,a 0,a 10,a 1,a 1,a 0,a 0,a 0,m 0,ns,ns,ns,a 0,a 0,a 11,a 1,a 1,a 0,a 0,a 0,m 0,ns,ns,ns]++rp 4 [a 0]++[a 2,a 1,a 0,a 0,m 0,ns,ns,ns,a 1]++rp 2 [a 0,a 0,a 0,a 0,a 0,a 0,a 0,m 0,ns,ns,ns,a 0]++[a 0])
def g120:Blk:=cs (rp 3 [a 1,a 1,m 0]++[a 1]++rp 2 [a 0,m 0,a 0]++[a 0,m 0])
def g121:Blk:=cs (rp 2 [a 1,a 1,m 0]++[a 1,a 0,m 0,a 3]++rp 2 [a 0,m 0,a 0]++[a 0,m 0])
def g122:Blk:=cs ([a 1,a 1,m 0,a 1,a 0,m 0,a 3,a 2,m 0,a 1]++rp 2 [a 0,m 0,a 0]++[a 0,m 0])
def g123:Blk:=cs ([a 1,a 1,m 0,a 1,a 0,m 0,a 1,a 1,m 0,a 3]++rp 2 [a 0,m 0,a 0]++[a 0,m 0])
def g124:Blk:=cs ([a 1,a 0]++rp 2 [m 0,a 3,a 2]++[m 0,a 1,a 2]++rp 2 [m 0,a 0,a 0]++[m 0])
def g125:Blk:=cs ([a 1,a 0,m 0,a 3,a 2,m 0,a 1,a 1,m 0,a 1]++rp 2 [a 0,m 0,a 0]++[a 0,m 0])
def g126:Blk:=cs ([a 1,a 0,m 0,a 3,a 2,m 0,a 1,a 0,m 0,a 3]++rp 2 [a 0,m 0,a 0]++[a 0,m 0])
def g127:Blk:=cs ([a 1,a 0,m 0,a 1,a 1,m 0,a 3,a 2,m 0,a 1]++rp 2 [a 0,m 0,a 0]++[a 0,m 0])
def g128:Blk:=cs ([a 1,a 0]++rp 2 [m 0,a 1,a 1]++[m 0,a 3]++rp 2 [a 0,m 0,a 0]++[a 0,m 0])
def g129:Blk:=cs (rp 2 [a 1,a 0,m 0]++[a 3,a 2,m 0,a 3]++rp 2 [a 0,m 0,a 0]++[a 0,m 0])
def zfy:Blk:=cs ([p 1 0,a 8,a 6,a 3,a 3,d 2 0 53 1,a 6,a 6])
def zfz:Blk:=cs ([a 8,a 6,a 3,a 3,p 3 0,p 4 0,p 5 0,a 1,d 6 0 16 1,m 0,a 0,a 0,s 7 0 8 8,d 8 0 3 1,d 9 0 6 3,s 10 0 6 6,d 11 0 12 14,ch 12,a 52,a 6,f,f,f])
def zf0:Blk:=cs (rp 53 [f])
def zs6 (t0 t1 t2:Int):Blk:=cs ([a 0,a 1]++rp 4 [a 0]++[ns,a 0,a 0,a 0,ns,a 1,a 3,a 3,a 0,a 4]++rp 4 [a 0]++[d 21 0 1 1,a 0,a 0,a 0,ns,a 4,a 7,a 7,a 0,a 5]++rp 4 [a 0]++[ns,a 0,a 0,a 0,ns,a 9,a 12,a 12,a 1,a 1]++rp 4 [a 0]++[ns,a 0,a 1,a 0,ns,a 14,a 17,a 17,a 1,a 4]++rp 4 [a 0]++[d 22 0 1 1,a 0,a 0,a 0,ns,a 19,a 22,a 22,a 1,a 5]++rp 4 [a 0]++[ns,a 0,a 0,a 0,ns,a 24,a 27,a 27,a 2,a 1]++rp 4 [a 0]++[ns,a 0,a 2,a 0,ns,a 29,a 32,a 32,a 2,a 4]++rp 4 [a 0]++[d 23 0 1 1,a 0,a 0,a 0,ns,a 34,a 37,a 37,a 2,a 5]++rp 4 [a 0]++[ns,a 0,a 0,a 0,ns,a 39,a 42,a 42,a 0,a 2,a 1,a 0,a 0,a 0,ns,a 0,a 1,a 0,ns,a 44,tv t0,tv t0,a 1,a 2,a 1,a 0,a 0,a 0,ns,a 0,a 1,a 0,ns,a 45,tv t1,tv t1,a 2,a 2,a 1,a 0,a 0,a 0,ns,a 0,a 1,a 0,ns,a 46,tv t2,tv t2])
def g134:Blk:=cs (rp 3 [a 3,a 2,m 0]++[a 1,a 3]++rp 2 [m 0,a 0,a 0]++[m 0])
def zgc:Blk:=cs ([a 1,a 1,a 3,f,s 73 0 16 16,a 0,m 0,a 0,f,ns])
def zs7:Blk:=ck 8 [.c (a 0),.c (a 0),.c (a 0),.c (a 0),.c (a 0)]
def g137:Blk:=cs (rp 2 [a 3,a 2,m 0]++[a 1,a 1,m 0,a 1,a 2]++rp 2 [m 0,a 0,a 0]++[m 0])
def g138:Blk:=cs (rp 2 [a 3,a 2,m 0]++rp 2 [a 1,a 0,m 0]++rp 2 [a 0,a 0,m 0])
def g139:Blk:=cs ([a 3,a 2,m 0,a 1,a 1,m 0,a 3,a 2,m 0,a 1,a 2]++rp 2 [m 0,a 0,a 0]++[m 0])
def g140:Blk:=cs ([a 3,a 2]++rp 2 [m 0,a 1,a 1]++[m 0,a 1]++rp 2 [a 0,m 0,a 0]++[a 0,m 0])
def g141:Blk:=cs ([a 3,a 2,m 0,a 1,a 1,m 0,a 1,a 0,m 0,a 3]++rp 2 [a 0,m 0,a 0]++[a 0,m 0])
def g142:Blk:=cs (rp 2 [a 3,a 2,m 0,a 1,a 0,m 0]++rp 2 [a 0,a 0,m 0])
def g143:Blk:=cs ([a 3,a 2,m 0,a 1,a 0,m 0,a 1,a 1,m 0,a 3]++rp 2 [a 0,m 0,a 0]++[a 0,m 0])
def g144:Blk:=cs ([a 1,a 1]++rp 2 [m 0,a 3,a 2]++[m 0,a 1,a 2]++rp 2 [m 0,a 0,a 0]++[m 0])
def g145:Blk:=cs ([a 1,a 1,m 0,a 3,a 2,m 0,a 1,a 1,m 0,a 1]++rp 2 [a 0,m 0,a 0]++[a 0,m 0])
def g146:Blk:=cs ([a 1,a 1,m 0,a 3,a 2,m 0,a 1,a 0,m 0,a 3]++rp 2 [a 0,m 0,a 0]++[a 0,m 0])
def g147:Blk:=cs (rp 2 [a 1,a 1,m 0]++[a 3,a 2,m 0,a 1]++rp 2 [a 0,m 0,a 0]++[a 0,m 0])
def g148:Blk:=cs (rp 3 [a 1,a 1,m 0]++[a 3]++rp 2 [a 0,m 0,a 0]++[a 0,m 0])
def g149:Blk:=cs ([a 1,a 1,m 0,a 1,a 0,m 0,a 3,a 2,m 0,a 3]++rp 2 [a 0,m 0,a 0]++[a 0,m 0])
def g150:Blk:=cs ([a 1,a 0]++rp 2 [m 0,a 3,a 2]++[m 0,a 1]++rp 2 [a 0,m 0,a 0]++[a 0,m 0])
def g151:Blk:=cs ([a 1,a 0,m 0,a 3,a 2,m 0,a 1,a 1,m 0,a 3]++rp 2 [a 0,m 0,a 0]++[a 0,m 0])
def g152:Blk:=cs ([a 1,a 0,m 0,a 1,a 1,m 0,a 3,a 2,m 0,a 3]++rp 2 [a 0,m 0,a 0]++[a 0,m 0])
def zjf:Blk:=cs ([p 1 0,a 8,a 6,a 3,a 3,d 2 0 54 1,a 6,a 6])
def zjg:Blk:=cs ([a 8,a 6,a 3,a 3,p 3 0,p 4 0,p 5 0,a 1,d 6 0 16 1,m 0,a 0,a 0,s 7 0 8 8,d 8 0 3 1,d 9 0 6 3,s 10 0 6 6,d 11 0 12 14,ch 12,a 53,a 6,f,f,f])
def zjh:Blk:=cs (rp 54 [f])
def g156:Blk:=cs (rp 3 [a 3,a 2,m 0]++[a 1,a 2]++rp 2 [m 0,a 0,a 0]++[m 0])
def g157:Blk:=cs (rp 2 [a 3,a 2,m 0]++[a 1,a 1,m 0,a 1]++rp 2 [a 0,m 0,a 0]++[a 0,m 0])
def g158:Blk:=cs (rp 2 [a 3,a 2,m 0]++[a 1,a 0,m 0,a 3]++rp 2 [a 0,m 0,a 0]++[a 0,m 0])
def g159:Blk:=cs ([a 3,a 2,m 0,a 1,a 1,m 0,a 3,a 2,m 0,a 1]++rp 2 [a 0,m 0,a 0]++[a 0,m 0])
def g160:Blk:=cs ([a 3,a 2]++rp 2 [m 0,a 1,a 1]++[m 0,a 3]++rp 2 [a 0,m 0,a 0]++[a 0,m 0])
def g161:Blk:=cs ([a 3,a 2,m 0,a 1,a 0,m 0,a 3,a 2,m 0,a 3]++rp 2 [a 0,m 0,a 0]++[a 0,m 0])
def g162:Blk:=cs ([a 1,a 1]++rp 2 [m 0,a 3,a 2]++[m 0,a 1]++rp 2 [a 0,m 0,a 0]++[a 0,m 0])
def g163:Blk:=cs ([a 1,a 1,m 0,a 3,a 2,m 0,a 1,a 1,m 0,a 3]++rp 2 [a 0,m 0,a 0]++[a 0,m 0])
def g164:Blk:=cs (rp 2 [a 1,a 1,m 0]++[a 3,a 2,m 0,a 3]++rp 2 [a 0,m 0,a 0]++[a 0,m 0])
def g165:Blk:=cs ([a 1,a 0]++rp 2 [m 0,a 3,a 2]++[m 0,a 3]++rp 2 [a 0,m 0,a 0]++[a 0,m 0])
def zs8:Blk:=cs ([p 1 0,a 8,a 6,a 3,a 3,d 2 0 55 1,a 6,a 6])
def zs9:Blk:=cs ([a 8,a 6,a 3,a 3,p 3 0,p 4 0,p 5 0,a 1,d 6 0 16 1,m 0,a 0,a 0,s 7 0 8 8,d 8 0 3 1,d 9 0 6 3,s 10 0 6 6,d 11 0 12 14,ch 12,a 54,a 6,f,f,f])
def zta:Blk:=cs (rp 55 [f])
def g169:Blk:=cs (rp 3 [a 3,a 2,m 0]++[a 1]++rp 2 [a 0,m 0,a 0]++[a 0,m 0])
def g170:Blk:=cs (rp 2 [a 3,a 2,m 0]++[a 1,a 1,m 0,a 3]++rp 2 [a 0,m 0,a 0]++[a 0,m 0])
def g171:Blk:=cs ([a 3,a 2,m 0,a 1,a 1,m 0,a 3,a 2,m 0,a 3]++rp 2 [a 0,m 0,a 0]++[a 0,m 0])
def g172:Blk:=cs ([a 1,a 1]++rp 2 [m 0,a 3,a 2]++[m 0,a 3]++rp 2 [a 0,m 0,a 0]++[a 0,m 0])
def g173:Blk:=cs ([p 1 0,a 8,a 6,a 3,a 3,d 2 0 56 1,a 6,a 6])
def g174:Blk:=cs ([a 8,a 6,a 3,a 3,p 3 0,p 4 0,p 5 0,a 1,d 6 0 16 1,m 0,a 0,a 0,s 7 0 8 8,d 8 0 3 1,d 9 0 6 3,s 10 0 6 6,d 11 0 12 14,ch 12,a 55,a 6,f,f,f])
def g175:Blk:=cs (rp 56 [f])
def zh0:Blk:=cs (rp 3 [a 3,a 2,m 0]++[a 3]++rp 2 [a 0,m 0,a 0]++[a 0,m 0])
def chs (t0 t1 t2:Int):List (List (Nat × Blk)):=[[],
 [(0,g0),(1,g1),(2,g2),(10,g3),(15,g4)],
 [(0,g0),(1,g1),(2,g2),(10,g5),(15,g6)],
 [(0,g0),(1,g1),(2,g2),(10,g7),(15,g8)],
 [(0,g0),(1,g1),(2,g2),(3,g9),(10,g10),(14,g11),(15,g12),(65,g13),(79,g14)],
 [(0,g15),(1,g16),(2,g17),(10,g3),(11,g18 t0 t1 t2),(15,g19),(34,g20),(60,g21),(64,g22)],
 [(0,g15),(1,g16),(2,g17),(10,g23),(15,g24)],
 [(0,g15),(1,g16),(2,g17),(10,g25),(15,g26)],
 [(0,g15),(1,g16),(2,g17),(3,g9),(10,g27),(14,g11),(15,g28),(65,g13),(79,g14)],
 [(0,g15),(1,g16),(2,g17),(10,g5),(11,g29 t0 t1 t2),(15,g30),(35,g20),(60,g21),(64,g22)],
 [(0,g15),(1,g16),(2,g17),(10,g31),(15,g32)],
 [(0,g15),(1,g16),(2,g17),(3,g9),(10,g33),(14,g11),(15,g34),(65,g13),(79,g14)],
 [(0,g15),(1,g16),(2,g17),(10,g7),(11,g35 t0 t1 t2),(15,g36),(36,g20),(60,g21),(64,g22)],
 [(0,g15),(1,g16),(2,g17),(3,g9),(10,g37),(14,g11),(15,g38),(65,g13),(79,g14)],
 [(0,g15),(1,g16),(2,g17),(3,g9),(10,g39),(14,g40),(15,g41),(19,g42),(20,g14),(65,g13)],
 [(0,g43),(1,g44),(2,g45),(10,g23),(11,g18 t0 t1 t2),(15,g46),(34,g20),(60,g21),(64,g22)],
 [(0,g43),(1,g44),(2,g45),(10,g25),(11,g18 t0 t1 t2),(15,g47),(34,g20),(60,g21),(64,g22)],
 [(0,g43),(1,g44),(2,g45),(3,g9),(10,g27),(11,g18 t0 t1 t2),(14,g11),(15,g48),(34,g20),(60,g21),(64,g22),(65,g13),(79,g14)],
 [(0,g43),(1,g44),(2,g45),(10,g23),(11,g29 t0 t1 t2),(15,g49),(35,g20),(60,g21),(64,g22)],
 [(0,g43),(1,g44),(2,g45),(10,g50),(15,g51)],
 [(0,g43),(1,g44),(2,g45),(3,g9),(10,g52),(14,g11),(15,g53),(65,g13),(79,g14)],
 [(0,g43),(1,g44),(2,g45),(10,g25),(11,g35 t0 t1 t2),(15,g54),(36,g20),(60,g21),(64,g22)],
 [(0,g43),(1,g44),(2,g45),(3,g9),(10,g55),(14,g11),(15,g56),(65,g13),(79,g14)],
 [(0,g43),(1,g44),(2,g45),(3,g9),(10,g57),(14,g40),(15,g58),(19,g42),(20,g14),(65,g13)],
 [(0,g43),(1,g44),(2,g45),(10,g31),(11,g29 t0 t1 t2),(15,g59),(35,g20),(60,g21),(64,g22)],
 [(0,g43),(1,g44),(2,g45),(3,g9),(10,g33),(11,g29 t0 t1 t2),(14,g11),(15,g60),(35,g20),(60,g21),(64,g22),(65,g13),(79,g14)],
 [(0,g43),(1,g44),(2,g45),(10,g31),(11,g35 t0 t1 t2),(15,g61),(36,g20),(60,g21),(64,g22)],
 [(0,g43),(1,g44),(2,g45),(3,g9),(10,g62),(14,g11),(15,g63),(65,g13),(79,g14)],
 [(0,g43),(1,g44),(2,g45),(3,g9),(10,g64),(14,g40),(15,g65),(19,g42),(20,g14),(65,g13)],
 [(0,g43),(1,g44),(2,g45),(3,g9),(10,g37),(11,g35 t0 t1 t2),(14,g11),(15,g66),(36,g20),(60,g21),(64,g22),(65,g13),(79,g14)],
 [(0,g43),(1,g44),(2,g45),(3,g9),(10,g67),(14,g40),(15,g68),(19,g42),(20,g14),(65,g13)],
 [(0,g43),(1,g44),(2,g45),(3,g9),(10,g39),(14,g40),(15,g69),(19,g42),(20,g14),(65,g13)],
 [(0,g70),(1,g71),(2,g72),(10,g23),(11,g73 t0 t1 t2),(15,g74),(34,g20),(35,g20),(60,g75),(64,g76)],
 [(0,g70),(1,g71),(2,g72),(10,g50),(11,g18 t0 t1 t2),(15,g77),(34,g20),(60,g21),(64,g22)],
 [(0,g70),(1,g71),(2,g72),(3,g9),(10,g52),(11,g18 t0 t1 t2),(14,g11),(15,g78),(34,g20),(60,g21),(64,g22),(65,g13),(79,g14)],
 [(0,g70),(1,g71),(2,g72),(10,g25),(11,g79 t0 t1 t2),(15,g80),(34,g20),(36,g20),(60,g75),(64,g76)],
 [(0,g70),(1,g71),(2,g72),(3,g9),(10,g55),(11,g18 t0 t1 t2),(14,g11),(15,g81),(34,g20),(60,g21),(64,g22),(65,g13),(79,g14)],
 [(0,g70),(1,g71),(2,g72),(3,g9),(10,g57),(11,g18 t0 t1 t2),(14,g40),(15,g82),(19,g42),(20,g14),(34,g20),(60,g21),(64,g22),(65,g13)],
 [(0,g70),(1,g71),(2,g72),(10,g50),(11,g29 t0 t1 t2),(15,g83),(35,g20),(60,g21),(64,g22)],
 [(0,g70),(1,g71),(2,g72),(3,g9),(10,g52),(11,g29 t0 t1 t2),(14,g11),(15,g84),(35,g20),(60,g21),(64,g22),(65,g13),(79,g14)],
 [(0,g70),(1,g71),(2,g72),(10,g50),(11,g35 t0 t1 t2),(15,g85),(36,g20),(60,g21),(64,g22)],
 [(0,g70),(1,g71),(2,g72),(3,g9),(10,g86),(14,g11),(15,g87),(65,g13),(79,g14)],
 [(0,g70),(1,g71),(2,g72),(3,g9),(10,g88),(14,g40),(15,g89),(19,g42),(20,g14),(65,g13)],
 [(0,g70),(1,g71),(2,g72),(3,g9),(10,g55),(11,g35 t0 t1 t2),(14,g11),(15,g90),(36,g20),(60,g21),(64,g22),(65,g13),(79,g14)],
 [(0,g70),(1,g71),(2,g72),(3,g9),(10,g91),(14,g40),(15,g92),(19,g42),(20,g14),(65,g13)],
 [(0,g70),(1,g71),(2,g72),(3,g9),(10,g57),(14,g40),(15,g93),(19,g42),(20,g14),(65,g13)],
 [(0,g70),(1,g71),(2,g72),(10,g31),(11,g94 t0 t1 t2),(15,g95),(35,g20),(36,g20),(60,g75),(64,g76)],
 [(0,g70),(1,g71),(2,g72),(3,g9),(10,g62),(11,g29 t0 t1 t2),(14,g11),(15,g96),(35,g20),(60,g21),(64,g22),(65,g13),(79,g14)],
 [(0,g70),(1,g71),(2,g72),(3,g9),(10,g64),(11,g29 t0 t1 t2),(14,g40),(15,g97),(19,g42),(20,g14),(35,g20),(60,g21),(64,g22),(65,g13)],
 [(0,g70),(1,g71),(2,g72),(3,g9),(10,g62),(11,g35 t0 t1 t2),(14,g11),(15,g98),(36,g20),(60,g21),(64,g22),(65,g13),(79,g14)],
 [(0,g70),(1,g71),(2,g72),(3,g9),(10,g99),(14,g40),(15,g100),(19,g42),(20,g14),(65,g13)],
 [(0,g70),(1,g71),(2,g72),(3,g9),(10,g64),(14,g40),(15,g101),(19,g42),(20,g14),(65,g13)],
 [(0,g70),(1,g71),(2,g72),(3,g9),(10,g67),(11,g35 t0 t1 t2),(14,g40),(15,g102),(19,g42),(20,g14),(36,g20),(60,g21),(64,g22),(65,g13)],
 [(0,g70),(1,g71),(2,g72),(3,g9),(10,g67),(14,g40),(15,g103),(19,g42),(20,g14),(65,g13)],
 [(0,zeo),(1,zep),(2,zeq),(10,g50),(11,g73 t0 t1 t2),(15,g107),(34,g20),(35,g20),(60,g75),(64,g76)],
 [(0,zeo),(1,zep),(2,zeq),(3,g9),(10,g52),(11,g73 t0 t1 t2),(14,g11),(15,g108),(34,g20),(35,g20),(60,g75),(64,g76),(65,g13),(79,g14)],
 [(0,zeo),(1,zep),(2,zeq),(10,g50),(11,g79 t0 t1 t2),(15,g109),(34,g20),(36,g20),(60,g75),(64,g76)],
 [(0,zeo),(1,zep),(2,zeq),(3,g9),(10,g86),(11,g18 t0 t1 t2),(14,g11),(15,g110),(34,g20),(60,g21),(64,g22),(65,g13),(79,g14)],
 [(0,zeo),(1,zep),(2,zeq),(3,g9),(10,g88),(11,g18 t0 t1 t2),(14,g40),(15,g111),(19,g42),(20,g14),(34,g20),(60,g21),(64,g22),(65,g13)],
 [(0,zeo),(1,zep),(2,zeq),(3,g9),(10,g55),(11,g79 t0 t1 t2),(14,g11),(15,g112),(34,g20),(36,g20),(60,g75),(64,g76),(65,g13),(79,g14)],
 [(0,zeo),(1,zep),(2,zeq),(3,g9),(10,g91),(11,g18 t0 t1 t2),(14,g40),(15,g113),(19,g42),(20,g14),(34,g20),(60,g21),(64,g22),(65,g13)],
 [(0,zeo),(1,zep),(2,zeq),(3,g9),(10,g57),(11,g18 t0 t1 t2),(14,g40),(15,g114),(19,g42),(20,g14),(34,g20),(60,g21),(64,g22),(65,g13)],
 [(0,zeo),(1,zep),(2,zeq),(10,g50),(11,g94 t0 t1 t2),(15,g115),(35,g20),(36,g20),(60,g75),(64,g76)],
 [(0,zeo),(1,zep),(2,zeq),(3,g9),(10,g86),(11,g29 t0 t1 t2),(14,g11),(15,g116),(35,g20),(60,g21),(64,g22),(65,g13),(79,g14)],
 [(0,zeo),(1,zep),(2,zeq),(3,g9),(10,g88),(11,g29 t0 t1 t2),(14,g40),(15,g117),(19,g42),(20,g14),(35,g20),(60,g21),(64,g22),(65,g13)],
 [(0,zeo),(1,zep),(2,zeq),(3,g9),(10,g86),(11,g35 t0 t1 t2),(14,g11),(15,g118),(36,g20),(60,g21),(64,g22),(65,g13),(79,g14)],
 [(0,zeo),(1,zep),(2,zeq),(3,g9),(10,zgb),(14,g40),(15,g120),(19,g42),(20,g14),(65,g13)],
 [(0,zeo),(1,zep),(2,zeq),(3,g9),(10,g88),(14,g40),(15,g121),(19,g42),(20,g14),(65,g13)],
 [(0,zeo),(1,zep),(2,zeq),(3,g9),(10,g91),(11,g35 t0 t1 t2),(14,g40),(15,g122),(19,g42),(20,g14),(36,g20),(60,g21),(64,g22),(65,g13)],
 [(0,zeo),(1,zep),(2,zeq),(3,g9),(10,g91),(14,g40),(15,g123),(19,g42),(20,g14),(65,g13)],
 [(0,zeo),(1,zep),(2,zeq),(3,g9),(10,g62),(11,g94 t0 t1 t2),(14,g11),(15,g124),(35,g20),(36,g20),(60,g75),(64,g76),(65,g13),(79,g14)],
 [(0,zeo),(1,zep),(2,zeq),(3,g9),(10,g99),(11,g29 t0 t1 t2),(14,g40),(15,g125),(19,g42),(20,g14),(35,g20),(60,g21),(64,g22),(65,g13)],
 [(0,zeo),(1,zep),(2,zeq),(3,g9),(10,g64),(11,g29 t0 t1 t2),(14,g40),(15,g126),(19,g42),(20,g14),(35,g20),(60,g21),(64,g22),(65,g13)],
 [(0,zeo),(1,zep),(2,zeq),(3,g9),(10,g99),(11,g35 t0 t1 t2),(14,g40),(15,g127),(19,g42),(20,g14),(36,g20),(60,g21),(64,g22),(65,g13)],
 [(0,zeo),(1,zep),(2,zeq),(3,g9),(10,g99),(14,g40),(15,g128),(19,g42),(20,g14),(65,g13)],
 [(0,zeo),(1,zep),(2,zeq),(3,g9),(10,g67),(11,g35 t0 t1 t2),(14,g40),(15,g129),(19,g42),(20,g14),(36,g20),(60,g21),(64,g22),(65,g13)],
 [(0,zfy),(1,zfz),(2,zf0),(10,g50),(11,zs6 t0 t1 t2),(15,g134),(34,g20),(35,g20),(36,g20),(60,zgc),(64,zs7)],
 [(0,zfy),(1,zfz),(2,zf0),(3,g9),(10,g86),(11,g73 t0 t1 t2),(14,g11),(15,g137),(34,g20),(35,g20),(60,g75),(64,g76),(65,g13),(79,g14)],
 [(0,zfy),(1,zfz),(2,zf0),(3,g9),(10,g88),(11,g73 t0 t1 t2),(14,g40),(15,g138),(19,g42),(20,g14),(34,g20),(35,g20),(60,g75),(64,g76),(65,g13)],
 [(0,zfy),(1,zfz),(2,zf0),(3,g9),(10,g86),(11,g79 t0 t1 t2),(14,g11),(15,g139),(34,g20),(36,g20),(60,g75),(64,g76),(65,g13),(79,g14)],
 [(0,zfy),(1,zfz),(2,zf0),(3,g9),(10,zgb),(11,g18 t0 t1 t2),(14,g40),(15,g140),(19,g42),(20,g14),(34,g20),(60,g21),(64,g22),(65,g13)],
 [(0,zfy),(1,zfz),(2,zf0),(3,g9),(10,g88),(11,g18 t0 t1 t2),(14,g40),(15,g141),(19,g42),(20,g14),(34,g20),(60,g21),(64,g22),(65,g13)],
 [(0,zfy),(1,zfz),(2,zf0),(3,g9),(10,g91),(11,g79 t0 t1 t2),(14,g40),(15,g142),(19,g42),(20,g14),(34,g20),(36,g20),(60,g75),(64,g76),(65,g13)],
 [(0,zfy),(1,zfz),(2,zf0),(3,g9),(10,g91),(11,g18 t0 t1 t2),(14,g40),(15,g143),(19,g42),(20,g14),(34,g20),(60,g21),(64,g22),(65,g13)],
 [(0,zfy),(1,zfz),(2,zf0),(3,g9),(10,g86),(11,g94 t0 t1 t2),(14,g11),(15,g144),(35,g20),(36,g20),(60,g75),(64,g76),(65,g13),(79,g14)],
 [(0,zfy),(1,zfz),(2,zf0),(3,g9),(10,zgb),(11,g29 t0 t1 t2),(14,g40),(15,g145),(19,g42),(20,g14),(35,g20),(60,g21),(64,g22),(65,g13)],
 [(0,zfy),(1,zfz),(2,zf0),(3,g9),(10,g88),(11,g29 t0 t1 t2),(14,g40),(15,g146),(19,g42),(20,g14),(35,g20),(60,g21),(64,g22),(65,g13)],
 [(0,zfy),(1,zfz),(2,zf0),(3,g9),(10,zgb),(11,g35 t0 t1 t2),(14,g40),(15,g147),(19,g42),(20,g14),(36,g20),(60,g21),(64,g22),(65,g13)],
 [(0,zfy),(1,zfz),(2,zf0),(3,g9),(10,zgb),(14,g40),(15,g148),(19,g42),(20,g14),(65,g13)],
 [(0,zfy),(1,zfz),(2,zf0),(3,g9),(10,g91),(11,g35 t0 t1 t2),(14,g40),(15,g149),(19,g42),(20,g14),(36,g20),(60,g21),(64,g22),(65,g13)],
 [(0,zfy),(1,zfz),(2,zf0),(3,g9),(10,g99),(11,g94 t0 t1 t2),(14,g40),(15,g150),(19,g42),(20,g14),(35,g20),(36,g20),(60,g75),(64,g76),(65,g13)],
 [(0,zfy),(1,zfz),(2,zf0),(3,g9),(10,g99),(11,g29 t0 t1 t2),(14,g40),(15,g151),(19,g42),(20,g14),(35,g20),(60,g21),(64,g22),(65,g13)],
 [(0,zfy),(1,zfz),(2,zf0),(3,g9),(10,g99),(11,g35 t0 t1 t2),(14,g40),(15,g152),(19,g42),(20,g14),(36,g20),(60,g21),(64,g22),(65,g13)],
 [(0,zjf),(1,zjg),(2,zjh),(3,g9),(10,g86),(11,zs6 t0 t1 t2),(14,g11),(15,g156),(34,g20),(35,g20),(36,g20),(60,zgc),(64,zs7),(65,g13),(79,g14)],
 [(0,zjf),(1,zjg),(2,zjh),(3,g9),(10,zgb),(11,g73 t0 t1 t2),(14,g40),(15,g157),(19,g42),(20,g14),(34,g20),(35,g20),(60,g75),(64,g76),(65,g13)],
 [(0,zjf),(1,zjg),(2,zjh),(3,g9),(10,g88),(11,g73 t0 t1 t2),(14,g40),(15,g158),(19,g42),(20,g14),(34,g20),(35,g20),(60,g75),(64,g76),(65,g13)],
 [(0,zjf),(1,zjg),(2,zjh),(3,g9),(10,zgb),(11,g79 t0 t1 t2),(14,g40),(15,g159),(19,g42),(20,g14),(34,g20),(36,g20),(60,g75),(64,g76),(65,g13)],
 [(0,zjf),(1,zjg),(2,zjh),(3,g9),(10,zgb),(11,g18 t0 t1 t2),(14,g40),(15,g160),(19,g42),(20,g14),(34,g20),(60,g21),(64,g22),(65,g13)],
 [(0,zjf),(1,zjg),(2,zjh),(3,g9),(10,g91),(11,g79 t0 t1 t2),(14,g40),(15,g161),(19,g42),(20,g14),(34,g20),(36,g20),(60,g75),(64,g76),(65,g13)],
 [(0,zjf),(1,zjg),(2,zjh),(3,g9),(10,zgb),(11,g94 t0 t1 t2),(14,g40),(15,g162),(19,g42),(20,g14),(35,g20),(36,g20),(60,g75),(64,g76),(65,g13)],
 [(0,zjf),(1,zjg),(2,zjh),(3,g9),(10,zgb),(11,g29 t0 t1 t2),(14,g40),(15,g163),(19,g42),(20,g14),(35,g20),(60,g21),(64,g22),(65,g13)],
 [(0,zjf),(1,zjg),(2,zjh),(3,g9),(10,zgb),(11,g35 t0 t1 t2),(14,g40),(15,g164),(19,g42),(20,g14),(36,g20),(60,g21),(64,g22),(65,g13)],
 [(0,zjf),(1,zjg),(2,zjh),(3,g9),(10,g99),(11,g94 t0 t1 t2),(14,g40),(15,g165),(19,g42),(20,g14),(35,g20),(36,g20),(60,g75),(64,g76),(65,g13)],
 [(0,zs8),(1,zs9),(2,zta),(3,g9),(10,zgb),(11,zs6 t0 t1 t2),(14,g40),(15,g169),(19,g42),(20,g14),(34,g20),(35,g20),(36,g20),(60,zgc),(64,zs7),(65,g13)],
 [(0,zs8),(1,zs9),(2,zta),(3,g9),(10,zgb),(11,g73 t0 t1 t2),(14,g40),(15,g170),(19,g42),(20,g14),(34,g20),(35,g20),(60,g75),(64,g76),(65,g13)],
 [(0,zs8),(1,zs9),(2,zta),(3,g9),(10,zgb),(11,g79 t0 t1 t2),(14,g40),(15,g171),(19,g42),(20,g14),(34,g20),(36,g20),(60,g75),(64,g76),(65,g13)],
 [(0,zs8),(1,zs9),(2,zta),(3,g9),(10,zgb),(11,g94 t0 t1 t2),(14,g40),(15,g172),(19,g42),(20,g14),(35,g20),(36,g20),(60,g75),(64,g76),(65,g13)],
 [(0,g173),(1,g174),(2,g175),(3,g9),(10,zgb),(11,zs6 t0 t1 t2),(14,g40),(15,zh0),(19,g42),(20,g14),(34,g20),(35,g20),(36,g20),(60,zgc),(64,zs7),(65,g13)]]
def rdys:List (List Nat):=[[0,1,2,3],[0,1,2,3],[0,1,2,3],[0,1,2,3],[0,1,2,3],[1,2,3],[0,1,2,3],[0,1,2,3],[0,1,2,3],[0,2,3],[0,1,2,3],[0,1,2,3],[0,1,3],[0,1,2,3],[0,1,2,3],[1,2,3],[1,2,3],[1,2,3],[0,2,3],[0,1,2,3],[0,1,2,3],[0,1,3],[0,1,2,3],[0,1,2,3],[0,2,3],[0,2,3],[0,1,3],[0,1,2,3],[0,1,2,3],[0,1,3],[0,1,2,3],[0,1,2],[2,3],[1,2,3],[1,2,3],[1,3],[1,2,3],[1,2,3],[0,2,3],[0,2,3],[0,1,3],[0,1,2,3],[0,1,2,3],[0,1,3],[0,1,2,3],[0,1,2],[0,3],[0,2,3],[0,2,3],[0,1,3],[0,1,2,3],[0,1,2],[0,1,3],[0,1,2],[2,3],[2,3],[1,3],[1,2,3],[1,2,3],[1,3],[1,2,3],[1,2],[0,3],[0,2,3],[0,2,3],[0,1,3],[0,1,2,3],[0,1,2],[0,1,3],[0,1,2],[0,3],[0,2,3],[0,2],[0,1,3],[0,1,2],[0,1],[3],[2,3],[2,3],[1,3],[1,2,3],[1,2],[1,3],[1,2],[0,3],[0,2,3],[0,2],[0,1,3],[0,1,2],[0,1],[0,3],[0,2],[0,1],[3],[2,3],[2],[1,3],[1,2],[1],[0,3],[0,2],[0,1],[0],[3],[2],[1],[0],[]]
end Lav.Q
namespace Lav
namespace Q
def H (i:Nat) (t0 t1 t2:Int):List Blk:=pz 0 n0 ((chs t0 t1 t2).getD i [])
def rdy (i:Nat):List Nat:=rdys.getD i []
def zn9 (u c:Nat) (t n:Int):Int:=bif Nat.beq u c then n else t
end Q
open Q
def EP (i k j u now:Nat):Prop:=∀ t0 t1 t2:Int,∃ (ts:List Nat) (n:Nat),zc1 ts (evCallO (zpb (rdy i).length k) table 3000 60 14 [.c (p 0 0),stT] (hp (H i t0 t1 t2)))=some (AV.mv τ0 (at0 ts) (.c t),n,(H j (zn9 u 0 t0 (.ofNat now)) (zn9 u 1 t1 (.ofNat now)) (zn9 u 2 t2 (.ofNat now))).map fun b=>some (b.mv τ0 (at0 ts)))∧fit (H i t0 t1 t2) [.c (p 0 0),stT] ts n=true∧at0 ts 0=0
end Lav
