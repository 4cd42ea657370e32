import Derived.Deep.Slices
import Derived.ChangeSlices
import Derived.ChangeArms
import Derived.KernelRfl
import Derived.Test.YtpceddbicolfeaaGreatK03
set_option linter.unusedSimpArgs false
set_option linter.unusedVariables false
namespace Lav
open Go (IntKind BinOp UnOp)
section
variable {τ:Nat→Int} {ρ:Nat→Nat} {b1 b2:Nat} {h0 g0 h1 h2:Heap}
theorem zvk (es:List Ent):(es.map (Ent.mv τ ρ)).map (·.1)=es.map (·.1):=by rw [List.map_map];rfl
theorem zq8 (l:List Int):mvs τ ρ (intCells l)=intCells l:=by unfold mvs intCells;rw [List.map_map];rfl
theorem zt0 (S:Sim τ ρ b1 b2 h0 g0 h1 h2) {args:List AV} {r:AV} {h1':Heap} (h:zhe args h1=some (r,h1')):∃ h2',zhe (mva τ ρ args) h2=some (r.mv τ ρ,h2')∧Sim τ ρ b1 b2 h0 g0 h1' h2':=by
 unfold zhe at h
 split at h
 ·rename_i i o
  split at h
  ·rename_i j hj
   split at h
   ·rename_i c es hes
    show ∃ h2',zhe [.c (.ptr (ρ i) o)] h2=_∧_
    unfold zhe
    have e1:h2.read (ρ i) (o + 1) 1=some [.mp (ρ j)]:=S.read hj
    have e2:h2.get (ρ j)=some (.map c (es.map (Ent.mv τ ρ))):=S.at_ _ _ hes
    simp only [e1,e2,List.length_map,zvk]
    cases hb:(Nat.ble es.length 1000 && zhj (es.map (·.1))) with
    | false=>rw [hb] at h;cases h
    | true =>
     rw [hb] at h
     simp only [cond_true] at h ⊢
     split at h
     ·rename_i hs
      simp only [hs]
      simp only [Option.some.injEq,Prod.mk.injEq] at h;obtain ⟨rfl,rfl⟩:=h
      exact ⟨h2,rfl,S⟩
     ·rename_i k rs hs
      simp only [hs]
      simp only [Option.some.injEq,Prod.mk.injEq] at h ⊢;obtain ⟨rfl,rfl⟩:=h
      have:=S.new (.cells (intCells (k :: rs)))
      simp only [Blk.mv,zq8] at this
      exact ⟨_,⟨by simp only [AV.mv,CV.mv,S.next],rfl⟩,this⟩
   ·cases h
  ·cases h
 ·cases h
theorem zp5 {po len:Nat}:∀ {es:List Ent} {l l':List CV},zh7 l po len es=some l'→zh7 (mvs τ ρ l) po len (es.map (Ent.mv τ ρ))=some (mvs τ ρ l')
 | [],l,l',h=>by
  simp only [zh7,Option.some.injEq] at h;subst h;rfl
 | (k,b,v) :: es,l,l',h=>by
  unfold zh7 at h
  cases k with
  | negSucc q=>cases h
  | ofNat q =>
   simp only at h
   show (bif Nat.blt q len then (match v.mv τ ρ with | .sl _ _ _ _=>zh7 ((mvs τ ρ l).set (po + q) (v.mv τ ρ)) po len (es.map (Ent.mv τ ρ)) | _=>none) else none)=_
   cases hb:Nat.blt q len with
   | false=>rw [hb] at h;cases h
   | true =>
    rw [hb] at h
    simp only [cond_true] at h ⊢
    cases v<;>simp only [reduceCtorEq] at h
    case sl a1 a2 a3 a4 =>
     have:=zp5 h
     simp only [CV.mv]
     rw [← this]
     congr 1
     simp [mvs,List.map_set,CV.mv]
theorem zvl {acc:Nat} {call call':Call} (hC:zhu τ ρ b1 b2 h0 g0 call call') (S:Sim τ ρ b1 b2 h0 g0 h1 h2) {args:List AV} {r:AV} {h1':Heap} (h:zjp acc call args h1=some (r,h1')):∃ h2',zjp acc call' (mva τ ρ args) h2=some (r.mv τ ρ,h2')∧Sim τ ρ b1 b2 h0 g0 h1' h2':=by
 unfold zjp at h
 split at h
 ·rename_i i o
  split at h
  ·rename_i n k1 hk
   obtain ⟨k2,e0,S'⟩:=hC _ _ _ _ _ _ S hk
   show ∃ h2',zjp acc call' [.c (.ptr (ρ i) o)] h2=_∧_
   unfold zjp
   have e0':call' acc [.c (.ptr (ρ i) o)] h2=some (.c (.int .i64 n),k2):=e0
   simp only [e0']
   cases hn:n == 0 with
   | false =>
    rw [hn] at h
    simp only [cond_false,Option.some.injEq,Prod.mk.injEq] at h ⊢;obtain ⟨rfl,rfl⟩:=h
    exact ⟨_,⟨rfl,rfl⟩,S'⟩
   | true =>
    rw [hn] at h
    simp only [cond_true] at h ⊢
    split at h
    ·rename_i pb po len c m h3 h4
     split at h
     ·rename_i l ck es h5 h6
      have e1:k2.read (ρ i) o 1=some [.sl (ρ pb) po len c]:=S'.read h3
      have e2:k2.read (ρ i) (o + 1) 1=some [.mp (ρ m)]:=S'.read h4
      have e3:k2.get (ρ pb)=some (.cells (mvs τ ρ l)):=S'.at_ _ _ h5
      have e4:k2.get (ρ m)=some (.map ck (es.map (Ent.mv τ ρ))):=S'.at_ _ _ h6
      simp only [e1,e2,e3,e4,zgd]
      have hi:k1.get i≠none:=by
       intro hh
       unfold Heap.read at h3
       rw [hh] at h3;cases h3
      cases hb:(Nat.ble 1 len && Nat.ble (po + len) l.length && !(Nat.beq i pb)) with
      | false=>rw [hb] at h;cases h
      | true =>
       rw [hb] at h
       simp only [cond_true] at h
       have hne:Nat.beq (ρ i) (ρ pb)=false:=by
        simp only [Bool.and_eq_true,Bool.not_eq_true'] at hb
        cases hq:Nat.beq (ρ i) (ρ pb) with
        | false=>rfl
        | true =>
         exfalso
         refine S'.ne (i:=i) (j:=pb) (.inl hi) (.inl (by rw [h5];simp)) (fun e=>?_) (Nat.eq_of_beq_eq_true hq)
         subst e
         have:=hb.2
         rw [Nat.beq_refl] at this;cases this
       simp only [Bool.and_eq_true] at hb
       rw [hb.1.1,hb.1.2,hne]
       simp only [Bool.not_false,Bool.and_true,cond_true]
       split at h
       ·rename_i l' hl
        rw [zp5 hl]
        simp only [Option.some.injEq,Prod.mk.injEq] at h ⊢;obtain ⟨rfl,rfl⟩:=h
        have S2:=S'.put (i:=pb) (.inl (by rw [h5];simp)) (.cells l')
        refine ⟨_,⟨rfl,rfl⟩,S2.put (i:=m) (.inl ?_) (.map ck [])⟩
        rw [Heap.get_put]
        unfold upd
        by_cases e:m=pb
        ·rw [if_pos e];simp
        ·rw [if_neg e,h6];simp
       ·cases h
     ·cases h
    ·cases h
  ·cases h
 ·cases h
end
theorem zp6 (waits sync acc:Nat):OverM (zl3 waits sync acc):=by
 intro τ ρ b1 b2 h0 g0 f g hg call call' hC args h1 h2 r h1' S h
 unfold zl3 at hg
 cases hw:Nat.beq f waits with
 | true =>
  rw [hw] at hg
  simp only [cond_true,Option.some.injEq] at hg;subst hg
  exact zt0 S h
 | false =>
  rw [hw] at hg
  cases hs:Nat.beq f sync with
  | true =>
   rw [hs] at hg
   simp only [cond_false,cond_true,Option.some.injEq] at hg;subst hg
   exact zvl hC S h
  | false=>rw [hs] at hg;cases hg
def τ0:Nat→Int:=fun _=>0
structure Emb (ρ:Nat→Nat) (h g:Heap):Prop where
 at_:∀ i b,h.get i=some b→i < h.next∧ρ i < g.next∧g.get (ρ i)=some (b.mv τ0 ρ)
 inj:∀ i j,h.get i≠none→h.get j≠none→ρ i=ρ j→i=j
def ext (ρ:Nat→Nat) (n m:Nat):Nat→Nat:=fun i=>if i < n then ρ i else m + (i - n)
def CV.lt (n:Nat):CV→Bool
 | .ptr i _ | .sl i _ _ _ | .ch i | .mp i=>Nat.blt i n
 | .fn _ l=>l.all fun p=>Nat.blt p.1 n
 | _=>true
def XV.lt (n:Nat):XV→Bool
 | .c v=>v.lt n
 | .agg l=>l.all (CV.lt n)
def AV.lt (n:Nat):AV→Bool
 | .c v=>v.lt n
 | .agg l=>l.all (CV.lt n)
 | .tup l=>l.all (XV.lt n)
 | .junk=>true
def Blk.lt (n:Nat):Blk→Bool
 | .cells l | .ro l=>l.all (CV.lt n)
 | .chan _ l=>l.all (XV.lt n)
 | .map _ es=>es.all fun e=>e.2.2.lt n
section
variable {τ:Nat→Int} {ρ σ:Nat→Nat} {n:Nat}
theorem ltB {i n:Nat} (h:Nat.blt i n=true):i < n:=Nat.lt_of_succ_le (Nat.le_of_ble_eq_true h)
theorem CV.mv_congr (hρ:∀ i,i < n→ρ i=σ i) {v:CV} (h:v.lt n=true):v.mv τ ρ=v.mv τ σ:=by
 cases v with
 | ptr i o=>simp only [CV.mv];rw [hρ i (ltB h)]
 | sl i o k c=>simp only [CV.mv];rw [hρ i (ltB h)]
 | ch i=>simp only [CV.mv];rw [hρ i (ltB h)]
 | mp i=>simp only [CV.mv];rw [hρ i (ltB h)]
 | fn f l =>
  simp only [CV.mv]
  congr 1
  exact List.map_congr_left fun p hp=>by rw [hρ p.1 (ltB (List.all_eq_true.1 h p hp))]
 | res u m r=>cases u<;>cases m<;>rfl
 | _=>rfl
theorem zjq (hρ:∀ i,i < n→ρ i=σ i) {l:List CV} (h:l.all (CV.lt n)=true):mvs τ ρ l=mvs τ σ l :=
 List.map_congr_left fun v hv=>CV.mv_congr hρ (List.all_eq_true.1 h v hv)
theorem XV.mv_congr (hρ:∀ i,i < n→ρ i=σ i) {v:XV} (h:v.lt n=true):v.mv τ ρ=v.mv τ σ:=by
 cases v with
 | c v=>exact congrArg XV.c (CV.mv_congr hρ h)
 | agg l=>exact congrArg XV.agg (zjq hρ h)
theorem AV.mv_congr (hρ:∀ i,i < n→ρ i=σ i) {v:AV} (h:v.lt n=true):v.mv τ ρ=v.mv τ σ:=by
 cases v with
 | c v=>exact congrArg AV.c (CV.mv_congr hρ h)
 | agg l=>exact congrArg AV.agg (zjq hρ h)
 | tup l=>exact congrArg AV.tup (List.map_congr_left fun v hv=>XV.mv_congr hρ (List.all_eq_true.1 h v hv))
 | junk=>rfl
theorem Blk.mv_congr (hρ:∀ i,i < n→ρ i=σ i) {b:Blk} (h:b.lt n=true):b.mv τ ρ=b.mv τ σ:=by
 cases b with
 | cells l=>exact congrArg Blk.cells (zjq hρ h)
 | ro l=>exact congrArg Blk.ro (zjq hρ h)
 | chan c l=>exact congrArg (Blk.chan c) (List.map_congr_left fun v hv=>XV.mv_congr hρ (List.all_eq_true.1 h v hv))
 | map c es=>exact congrArg (Blk.map c) (List.map_congr_left fun e he=>by simp only [Ent.mv];rw [CV.mv_congr hρ (List.all_eq_true.1 h e he)])
theorem zt1 (hρ:∀ i,i < n→ρ i=σ i) {l:List AV} (h:l.all (AV.lt n)=true):mva τ ρ l=mva τ σ l :=
 List.map_congr_left fun v hv=>AV.mv_congr hρ (List.all_eq_true.1 h v hv)
end
def CV.nt:CV→Bool
 | .res u m _=>u || !(Nat.beq m 0)
 | _=>true
def XV.nt:XV→Bool
 | .c v=>v.nt
 | .agg l=>l.all CV.nt
def Blk.nt:Blk→Bool
 | .cells l | .ro l=>l.all CV.nt
 | .chan _ l=>l.all XV.nt
 | .map _ es=>es.all fun e=>e.2.2.nt
section
variable {τ τ':Nat→Int} {ρ σ:Nat→Nat}
theorem CV.mv_tok {v:CV} (h:v.nt=true):v.mv τ ρ=v.mv τ' ρ:=by
 cases v with
 | res u m r=>cases u with
  | true=>rfl
  | false=>cases m with
   | zero=>cases h
   | succ m=>rfl
 | _=>rfl
theorem zob {l:List CV} (h:l.all CV.nt=true):mvs τ ρ l=mvs τ' ρ l:=List.map_congr_left fun _ hv=>CV.mv_tok (List.all_eq_true.1 h _ hv)
theorem XV.mv_tok {v:XV} (h:v.nt=true):v.mv τ ρ=v.mv τ' ρ:=by
 cases v with
 | c v=>exact congrArg XV.c (CV.mv_tok h)
 | agg l=>exact congrArg XV.agg (zob h)
theorem Blk.mv_tok {b:Blk} (h:b.nt=true):b.mv τ ρ=b.mv τ' ρ:=by
 cases b with
 | cells l=>exact congrArg Blk.cells (zob h)
 | ro l=>exact congrArg Blk.ro (zob h)
 | chan c l=>exact congrArg (Blk.chan c) (List.map_congr_left fun v hv=>XV.mv_tok (List.all_eq_true.1 h v hv))
 | map c es=>exact congrArg (Blk.map c) (List.map_congr_left fun e he=>by simp only [Ent.mv];rw [CV.mv_tok (List.all_eq_true.1 h e he)])
end
def hpT:Nat→List Blk→Tr Blk→Tr Blk
 | _,[],t=>t
 | i,b :: r,t=>hpT (i + 1) r (t.set i (some b))
def hp (l:List Blk):Heap:=⟨l.length,hpT 0 l .nil⟩
theorem zre:∀ (l:List Blk) (i j:Nat) (t:Tr Blk),(hpT i l t).get j=if i≤j∧j < i + l.length then l[j - i]? else t.get j
 | [],i,j,t=>by
  rw [if_neg (by simp)];rfl
 | b :: l,i,j,t=>by
  show (hpT (i + 1) l (t.set i (some b))).get j=_
  rw [zre l (i + 1) j,Tr.get_set]
  by_cases e:j=i
  ·subst e
   rw [if_neg (by omega),if_pos rfl,if_pos (by simp)]
   simp
  ·rw [if_neg e]
   by_cases c:i + 1≤j∧j < i + 1 + l.length
   ·rw [if_pos c,if_pos (by simp;omega)]
    obtain ⟨k,hk⟩ : ∃ k,j - i=k + 1:=⟨j - i - 1,by omega⟩
    have:j - (i + 1)=k:=by omega
    rw [hk,this];rfl
   ·rw [if_neg c,if_neg (by simp only [List.length_cons];omega)]
theorem zhw (l:List Blk) (i:Nat):(hp l).get i=l[i]?:=by
 show (hpT 0 l .nil).get i=_
 rw [zre,Tr.get_nil]
 by_cases h:i < l.length
 ·rw [if_pos (by omega)];rfl
 ·rw [if_neg (by omega)]
  exact (List.getElem?_eq_none (by omega)).symm
theorem zp7 {o o':Over} {table:List (Nat × IRF)} (hT:clT table=true) (hO:OverM2 o o' table) {N d N' d' f:Nat} (hN:N≤N') (h20:20≤N') (hd:d≤d') {args:List AV} {h h' g:Heap} {r:AV} {ρ:Nat→Nat} (τ:Nat→Int)
  (he:evCallO o table N d f args h=some (r,h')) (E:Emb ρ h g) (W:∀ i b,h.get i=some b→b.lt h.next=true∧b.nt=true) (ha:args.all (AV.lt h.next)=true) :
  ∃ g',evCallO o' table N' d' f (mva τ ρ args) g=some (r.mv τ (ext ρ h.next g.next),g')∧(∀ i b,h'.get i=some b→g'.get (ext ρ h.next g.next i)=some (b.mv τ (ext ρ h.next g.next)))∧(∀ i j,h'.get i≠none→h'.get j≠none→ext ρ h.next g.next i=ext ρ h.next g.next j→i=j)∧(∃ m,h'.next=h.next + m∧g'.next=g.next + m) ∧
   (∀ k,k < g.next→(∀ i,h.get i≠none→ρ i≠k)→g'.get k=g.get k)∧∀ i,i < h.next→h.get i=none→h'.get i=none:=by
 have hx:∀ i,i < h.next→ext ρ h.next g.next i=ρ i:=fun i hi=>if_pos hi
 have some_of:∀ {i},h.get i≠none→∃ b,h.get i=some b:=fun hi=>by
  cases hg:h.get _ with
  | none=>exact absurd hg hi
  | some b=>exact ⟨b,rfl⟩
 have S:Sim τ (ext ρ h.next g.next) h.next g.next h g h g:=by
  refine ⟨fun k=>?_,⟨0,rfl,rfl⟩,fun i b hb=>?_,fun i j hi hj li lj e=>?_,fun i hi li=>?_,fun _ _ h=>h,fun k _ _=>rfl⟩
  ·unfold ext
   rw [if_neg (by omega)];omega
  ·obtain ⟨h1,_,h3⟩:=E.at_ i b hb
   rw [hx i h1,h3,Blk.mv_congr (ρ:=ext ρ h.next g.next) (σ:=ρ) hx (W i b hb).1,Blk.mv_tok (τ:=τ0) (τ':=τ) (W i b hb).2]
  ·rw [hx i hi,hx j hj] at e
   exact E.inj i j li lj e
  ·obtain ⟨b,hb⟩:=some_of li
   rw [hx i hi];exact (E.at_ i b hb).2.1
 obtain ⟨g',e,S'⟩:=zkv (o:=o) hT hO hN h20 hd f args h g r h' S he
 rw [zt1 (ρ:=ext ρ h.next g.next) (σ:=ρ) hx ha] at e
 exact ⟨g',e,S'.at_,fun i j li lj e=>Classical.byContradiction fun hn=>S'.ne (.inl li) (.inl lj) hn e,S'.nx,fun k hk hno=>S'.fr k hk fun i hi li=>by rw [hx i hi];exact hno i li,fun i hi hd=>S'.dead i hi hd⟩
section
variable {τ:Nat→Int} {ρ σ:Nat→Nat}
theorem CV.mv_mv (v:CV):(v.mv τ0 ρ).mv τ σ=v.mv τ0 fun i=>σ (ρ i):=by
 cases v with
 | fn f l=>simp only [CV.mv,List.map_map];rfl
 | res u m r=>cases u<;>cases m<;>rfl
 | _=>rfl
theorem zl4 (l:List CV):mvs τ σ (mvs τ0 ρ l)=mvs τ0 (fun i=>σ (ρ i)) l:=by
 unfold mvs;rw [List.map_map];exact List.map_congr_left fun v _=>CV.mv_mv v
theorem XV.mv_mv (v:XV):(v.mv τ0 ρ).mv τ σ=v.mv τ0 fun i=>σ (ρ i):=by
 cases v with
 | c v=>exact congrArg XV.c (CV.mv_mv v)
 | agg l=>exact congrArg XV.agg (zl4 l)
theorem AV.mv_mv (v:AV):(v.mv τ0 ρ).mv τ σ=v.mv τ0 fun i=>σ (ρ i):=by
 cases v with
 | c v=>exact congrArg AV.c (CV.mv_mv v)
 | agg l=>exact congrArg AV.agg (zl4 l)
 | tup l=>simp only [AV.mv,List.map_map];exact congrArg _ (List.map_congr_left fun v _=>XV.mv_mv v)
 | junk=>rfl
theorem Blk.mv_mv (b:Blk):(b.mv τ0 ρ).mv τ σ=b.mv τ0 fun i=>σ (ρ i):=by
 cases b with
 | cells l=>exact congrArg Blk.cells (zl4 l)
 | ro l=>exact congrArg Blk.ro (zl4 l)
 | chan c l=>simp only [Blk.mv,List.map_map];exact congrArg _ (List.map_congr_left fun v _=>XV.mv_mv v)
 | map c es=>simp only [Blk.mv,List.map_map];exact congrArg _ (List.map_congr_left fun e _=>by simp only [Ent.mv,Function.comp,CV.mv_mv])
end
theorem CV.mv_id {f:Nat→Nat} {v:CV} (h:v.lt 0=true) (hn:v.nt=true):v.mv τ0 f=v:=by
 have no:∀ {i:Nat},Nat.blt i 0=true→False:=fun {i} h=>absurd (ltB h) (Nat.not_lt_zero i)
 cases v with
 | ptr i o=>exact (no h).elim
 | sl i o n c=>exact (no h).elim
 | ch i=>exact (no h).elim
 | mp i=>exact (no h).elim
 | fn g l=>cases l with
  | nil=>rfl
  | cons p l=>simp only [CV.lt,List.all_cons,Bool.and_eq_true] at h;exact (no h.1).elim
 | res u m r=>cases u with
  | true=>rfl
  | false=>cases m with
   | zero=>cases hn
   | succ m=>rfl
 | _=>rfl
theorem zp8 {f:Nat→Nat}:∀ {l:List CV},l.all (CV.lt 0)=true→l.all CV.nt=true→mvs τ0 f l=l
 | [],_,_=>rfl
 | v :: l,h,hn=>by
  simp only [List.all_cons,Bool.and_eq_true] at h hn
  show v.mv τ0 f :: mvs τ0 f l=_
  rw [CV.mv_id h.1 hn.1,zp8 h.2 hn.2]
def nodupB:List Nat→Bool
 | []=>true
 | a :: r=>!(r.any fun b=>Nat.beq a b) && nodupB r
theorem zmn:∀ {l:List Nat},nodupB l=true→l.Nodup
 | [],_=>List.nodup_nil
 | a :: r,h=>by
  simp only [nodupB,Bool.and_eq_true,Bool.not_eq_true'] at h
  refine List.nodup_cons.2 ⟨fun hm=>?_,zmn h.2⟩
  have:=List.any_eq_false.1 h.1 a hm
  rw [Nat.beq_refl] at this;exact this rfl
def fit (l:List Blk) (args:List AV) (ts:List Nat) (n:Nat):Bool:=l.all (fun b=>b.lt l.length && b.nt) && (args.all (AV.lt l.length) && (nodupB ts && ts.all fun t=>Nat.blt t n))
def at0 (ts:List Nat) (i:Nat):Nat:=ts.getD i 0
def zdy (ts:List Nat) (x:Option (AV × Heap)):Option (AV × Nat × List (Option Blk)):=match x with
 | some (r,h)=>some (r,h.next,ts.map h.get)
 | none=>none
theorem seg {o o':Over} {table:List (Nat × IRF)} (hT:clT table=true) (hO:OverM2 o o' table) {N d N' d' f:Nat} (hN:N≤N') (h20:20≤N') (hd:d≤d') {args:List AV} {l l':List Blk} {ts:List Nat} {n:Nat} {r:AV}
  (he:zdy ts (evCallO o table N d f args (hp l))=some (r,n,l'.map fun b=>some (b.mv τ0 (at0 ts)))) (hf:fit l args ts n=true)
  {ρ:Nat→Nat} {g:Heap} (τ:Nat→Int) (E:Emb ρ (hp l) g) :
  ∃ g',evCallO o' table N' d' f (mva τ ρ args) g=some (r.mv τ (ext ρ l.length g.next),g')∧Emb (fun i=>ext ρ l.length g.next (at0 ts i)) (hp l') g'∧g.next≤g'.next ∧
   ∀ k,k < g.next→(∀ i,i < l.length→ρ i≠k)→g'.get k=g.get k:=by
 unfold fit at hf
 simp only [Bool.and_eq_true] at hf
 obtain ⟨f1,f2,f3,f4⟩:=hf
 unfold zdy at he
 split at he
 ·rename_i r0 h' hev
  simp only [Option.some.injEq,Prod.mk.injEq] at he
  obtain ⟨rfl,rfl,hts⟩:=he
  have hlen:ts.length=l'.length:=by have:=congrArg List.length hts;simpa using this
  obtain ⟨g',e,at_,inj,⟨m,n1,n2⟩,fr,dead⟩:=zp7 hT hO hN h20 hd τ hev E (fun i b hb=>by
   rw [zhw] at hb
   obtain ⟨hi,rfl⟩:=List.getElem?_eq_some_iff.1 hb
   have:=List.all_eq_true.1 f1 _ (List.getElem_mem hi)
   rw [Bool.and_eq_true] at this
   exact this) f2
  have key:∀ i b,(hp l').get i=some b→i < l'.length∧at0 ts i∈ts∧h'.get (at0 ts i)=some (b.mv τ0 (at0 ts)):=by
   intro i b hb
   rw [zhw] at hb
   obtain ⟨hi,rfl⟩:=List.getElem?_eq_some_iff.1 hb
   have hi':i < ts.length:=by omega
   have ea:at0 ts i=ts[i]:=by unfold at0;simp [List.getD_eq_getElem?_getD,hi']
   refine ⟨hi,by rw [ea];exact List.getElem_mem hi',?_⟩
   have:=congrArg (fun x=>x[i]?) hts
   simp only [List.getElem?_map,List.getElem?_eq_getElem hi',List.getElem?_eq_getElem hi,Option.map_some,Option.some.injEq] at this
   rw [ea];exact this
  have lv:∀ i,(hp l').get i≠none→∃ b,(hp l').get i=some b:=fun i hi=>by
   cases hg:(hp l').get i with
   | none=>exact absurd hg hi
   | some b=>exact ⟨b,rfl⟩
  refine ⟨g',e,⟨fun i b hb=>?_,fun i j li lj ee=>?_⟩,by omega,fun k hk hno=>fr k hk fun i hi=>?_⟩
  ·obtain ⟨k1,k2,k3⟩:=key i b hb
   refine ⟨k1,?_,?_⟩
   ·have ht:at0 ts i < h'.next:=ltB (List.all_eq_true.1 f4 _ k2)
    show ext ρ l.length g.next (at0 ts i) < g'.next
    unfold ext
    by_cases c:at0 ts i < l.length
    ·rw [if_pos c]
     have:(hp l).get (at0 ts i)≠none:=fun hd=>by rw [dead _ c hd] at k3;cases k3
     cases hg:(hp l).get (at0 ts i) with
     | none=>exact absurd hg this
     | some b=>have:=(E.at_ _ b hg).2.1;omega
    ·rw [if_neg c]
     have:(hp l).next=l.length:=rfl
     omega
   ·have:=at_ _ _ k3
    rw [Blk.mv_mv] at this
    exact this
  ·obtain ⟨b,hb⟩:=lv i li
   obtain ⟨c,hc⟩:=lv j lj
   obtain ⟨k1,k2,k3⟩:=key i b hb
   obtain ⟨q1,q2,q3⟩:=key j c hc
   have:=inj _ _ (by rw [k3];simp) (by rw [q3];simp) ee
   have hi':i < ts.length:=by omega
   have hj':j < ts.length:=by omega
   have ei:at0 ts i=ts[i]:=by unfold at0;simp [List.getD_eq_getElem?_getD,hi']
   have ej:at0 ts j=ts[j]:=by unfold at0;simp [List.getD_eq_getElem?_getD,hj']
   rw [ei,ej] at this
   exact (List.getElem_inj (zmn f3)).1 this
  ·refine hno i ?_
   rw [zhw] at hi
   exact Classical.byContradiction fun hn=>hi (List.getElem?_eq_none (by omega))
 ·cases he
end Lav
namespace Lav
open Go (IntKind BinOp UnOp)
theorem zde {call:Nat→List AV→Heap→Option (AV × Heap)} {N n:Nat} {keep:List Bool} {body:IR} (Inv:Nat→List AV→Heap→Prop) (Post:Ex × List AV × Heap→Prop)
  (step:∀ i loc h,i≤n→Inv i loc h→(i < n∧∃ loc' h',ev call N body loc h=some (.norm,loc',h')∧Inv (i + 1) (zb3 keep loc') h')∨∃ r,ev call N body loc h=some r∧r.1≠.norm∧Post r)
  {loc:List AV} {h:Heap} {fuel:Nat} (h0:Inv 0 (zb3 keep loc) h) (hf:n < fuel):∃ r,zc5 call N keep body fuel loc h=some r∧Post r:=by
 have key:∀ (k i:Nat) (loc:List AV) (h:Heap) (fuel:Nat),n - i=k→i≤n→n - i < fuel→Inv i (zb3 keep loc) h→∃ r,zc5 call N keep body fuel loc h=some r∧Post r:=by
  intro k
  induction k with
  | zero =>
   intro i loc h fuel hk hi hfu hinv
   obtain ⟨f,rfl⟩ : ∃ f,fuel=f + 1:=⟨fuel - 1,by omega⟩
   rcases step i _ h hi hinv with ⟨hlt,_⟩ | ⟨r,hr,hn,hp⟩
   ·omega
   ·refine ⟨r,?_,hp⟩
    rw [zfu,hr]
    obtain ⟨e,l,h1⟩:=r
    cases e with
    | norm=>exact absurd rfl hn
    | exit j=>rfl
    | ret=>rfl
  | succ k ih =>
   intro i loc h fuel hk hi hfu hinv
   obtain ⟨f,rfl⟩ : ∃ f,fuel=f + 1:=⟨fuel - 1,by omega⟩
   rcases step i _ h hi hinv with ⟨hlt,loc',h',hr,hnext⟩ | ⟨r,hr,hn,hp⟩
   ·obtain ⟨r,e,hp⟩:=ih (i + 1) loc' h' f (by omega) (by omega) (by omega) hnext
    refine ⟨r,?_,hp⟩
    rw [zfu,hr];exact e
   ·refine ⟨r,?_,hp⟩
    rw [zfu,hr]
    obtain ⟨e,l,h1⟩:=r
    cases e with
    | norm=>exact absurd rfl hn
    | exit j=>rfl
    | ret=>rfl
 exact key n 0 loc h fuel (by omega) (by omega) (by omega) h0
def Ext (h h':Heap):Prop:=h.next≤h'.next∧∀ i,i < h.next→h'.get i=h.get i
theorem Ext.refl (h:Heap):Ext h h:=⟨Nat.le_refl _,fun _ _=>rfl⟩
theorem Ext.trans {a b c:Heap} (x:Ext a b) (y:Ext b c):Ext a c:=⟨Nat.le_trans x.1 y.1,fun i hi=>(y.2 i (Nat.lt_of_lt_of_le hi x.1)).trans (x.2 i hi)⟩
theorem zdd {h:Heap} {b:Blk} {i:Nat} (hi:i < h.next):(h.new b).get i=h.get i:=by
 rw [Heap.get_new];simp only [upd];rw [if_neg (by omega)]
theorem zb8 {h:Heap} {b:Blk}:(h.new b).get h.next=some b:=by
 rw [Heap.get_new];simp [upd]
theorem zcl {h:Heap} {b:Blk} {i j:Nat} (hi:i≠j):(h.put j b).get i=h.get i:=by
 rw [Heap.get_put];simp only [upd];rw [if_neg hi]
theorem zc9 {h:Heap} {b:Blk} {i:Nat}:(h.put i b).get i=some b:=by
 rw [Heap.get_put];simp [upd]
theorem zjw {h:Heap} {i j:Nat} (hi:i≠j):(h.kill j).get i=h.get i:=by
 rw [Heap.get_kill];simp only [upd];rw [if_neg hi]
theorem Ext.new {a h:Heap} (x:Ext a h) (b:Blk):Ext a (h.new b):=⟨Nat.le_succ_of_le x.1,fun i hi=>(zdd (Nat.lt_of_lt_of_le hi x.1)).trans (x.2 i hi)⟩
theorem Ext.put {a h:Heap} (x:Ext a h) {i:Nat} (hi:a.next≤i) (b:Blk):Ext a (h.put i b):=⟨x.1,fun j hj=>(zcl (by omega)).trans (x.2 j hj)⟩
theorem Ext.kill {a h:Heap} (x:Ext a h) {i:Nat} (hi:a.next≤i):Ext a (h.kill i):=⟨x.1,fun j hj=>(zjw (by omega)).trans (x.2 j hj)⟩
theorem Ext.skip {a h:Heap} (x:Ext a h) (n:Nat):Ext a (h.skip n):=⟨Nat.le_trans x.1 (Nat.le_add_right _ _),x.2⟩
theorem Ext.at_ {a h:Heap} (x:Ext a h) {i:Nat} {b:Blk} (hg:a.get i=some b) (hi:i < a.next):h.get i=some b:=(x.2 i hi).trans hg
theorem Ext.read {a h:Heap} (x:Ext a h) {i o n:Nat} (hi:i < a.next):h.read i o n=a.read i o n:=by
 simp only [Heap.read,x.2 i hi]
theorem zt2 {l:List CV} {j:Nat} {v:CV} (h:l[j]? = some v):cut l j 1=some [v]:=by
 have hlt:j < l.length:=by
  rcases Nat.lt_or_ge j l.length with h' | h'
  ·exact h'
  ·rw [List.getElem?_eq_none h'] at h;cases h
 have hb:Nat.ble (j + 1) l.length=true:=Nat.ble_eq_true_of_le hlt
 simp only [cut,hb,cond_true]
 rw [List.drop_eq_getElem_cons hlt,List.take_succ_cons,List.take_zero]
 rw [List.getElem?_eq_getElem hlt] at h
 simp only [Option.some.injEq] at h
 rw [h]
theorem zkw {l:List CV} {o n:Nat} (h:o + n≤l.length):cut l o n=some ((l.drop o).take n):=by
 have hb:Nat.ble (o + n) l.length=true:=Nat.ble_eq_true_of_le h
 simp only [cut,hb,cond_true]
theorem zam {h:Heap} {i o:Nat} {l:List CV} {v:CV} (hg:h.get i=some (.cells l)) (hv:l[o]? = some v):h.read i o 1=some [v]:=by
 simp only [Heap.read,hg];exact zt2 hv
theorem zxp {h:Heap} {i o:Nat} {l:List CV} {v:CV} (hg:h.get i=some (.ro l)) (hv:l[o]? = some v):h.read i o 1=some [v]:=by
 simp only [Heap.read,hg];exact zt2 hv
theorem zdi {h:Heap} {i o n:Nat} {l:List CV} (hg:h.get i=some (.cells l)) (hn:o + n≤l.length):h.read i o n=some ((l.drop o).take n):=by
 simp only [Heap.read,hg];exact zkw hn
theorem zef {h:Heap} {i o:Nat} {l:List CV} {v:CV} (hg:h.get i=some (.cells l)) (ho:o < l.length):h.write i o [v]=some (h.put i (.cells (l.set o v))):=by
 have hb:Nat.ble (o + 1) l.length=true:=Nat.ble_eq_true_of_le ho
 simp only [Heap.write,hg,zdo,List.length_cons,List.length_nil,Nat.zero_add,hb,cond_true,setMany]
theorem znu:∀ (vs l:List CV) (o:Nat),o + vs.length≤l.length→setMany l o vs=l.take o++vs++l.drop (o + vs.length)
 | [],l,o,_=>by simp [setMany]
 | v :: vs,l,o,h=>by
  have hlen:o + (vs.length + 1)≤l.length:=by simpa using h
  rw [setMany,znu vs (l.set o v) (o + 1) (by simp;omega)]
  have e1:(l.set o v).take (o + 1)=l.take o++[v]:=by
   rw [List.take_set,List.take_succ_eq_append_getElem (by omega:o < l.length),List.set_append_right _ _ (by simp;omega)]
   have:o - (l.take o).length=0:=by simp;omega
   rw [this];rfl
  have e2:(l.set o v).drop (o + 1 + vs.length)=l.drop (o + (vs.length + 1)):=by
   rw [List.drop_set_of_lt (by omega)];congr 1;omega
  rw [e1,e2];simp
theorem zg5 {h:Heap} {i o:Nat} {l vs:List CV} (hg:h.get i=some (.cells l)) (ho:o + vs.length≤l.length):h.write i o vs=some (h.put i (.cells (l.take o++vs++l.drop (o + vs.length)))):=by
 have hb:Nat.ble (o + vs.length) l.length=true:=Nat.ble_eq_true_of_le ho
 simp only [Heap.write,hg,zdo,hb,cond_true,znu _ _ _ ho]
theorem zfd {h:Heap} {z v:List CV} (hl:v.length=z.length):∃ h',(h.new (.cells z)).write h.next 0 v=some h'∧h'.get h.next=some (.cells v)∧Ext h h'∧h'.next=h.next + 1:=by
 refine ⟨_,zg5 zb8 (by omega),?_,((Ext.refl h).new _).put (Nat.le_refl _) _,rfl⟩
 rw [zc9,hl];simp
def Ints (h:Heap) (x:CV) (xs:List Int):Prop :=
 (x = .nils∧xs=[])∨∃ i o c,x = .sl i o xs.length c∧i < h.next∧∀ j v,xs[j]? = some v→h.read i (o + j * 1) 1=some [.int .i64 v]
theorem Ints.ext {h h':Heap} {x:CV} {xs:List Int} (hx:Ints h x xs) (e:Ext h h'):Ints h' x xs:=by
 rcases hx with h1 | ⟨i,o,c,h1,h2,h3⟩
 ·exact .inl h1
 ·exact .inr ⟨i,o,c,h1,Nat.lt_of_lt_of_le h2 e.1,fun j v hj=>(e.read h2).trans (h3 j v hj)⟩
theorem Ints.len {h h0:Heap} {x:CV} {xs:List Int} (hx:Ints h0 x xs) {loc vals:List AV} {X:X} (hX:X.eval loc vals = .c x):za2 loc vals h (.len .sl X)=some (.c (.int .i64 (xs.length:Int))):=by
 rcases hx with ⟨rfl,rfl⟩ | ⟨i,o,c,rfl,_,_⟩<;>simp only [za2,hX]<;>rfl
theorem Ints.sl {h:Heap} {x:CV} {xs:List Int} (hx:Ints h x xs) (hn:0 < xs.length):∃ i o c,x = .sl i o xs.length c∧i < h.next∧∀ j (hj:j < xs.length),h.read i (o + j) 1=some [.int .i64 xs[j]]:=by
 rcases hx with ⟨_,rfl⟩ | ⟨i,o,c,h1,h2,h3⟩
 ·simp at hn
 ·exact ⟨i,o,c,h1,h2,fun j hj=>by have:=h3 j xs[j] (by simp [hj]);rwa [Nat.mul_one] at this⟩
theorem znv {h:Heap} {i:Nat} {xs:List Int} {c:Cap} (hi:i < h.next) (hg:h.get i=some (.cells (xs.map (.int .i64)))):Ints h (.sl i 0 xs.length c) xs :=
 .inr ⟨i,0,c,rfl,hi,fun j v hj=>zam hg (by simp [hj])⟩
theorem RowIs.ext {k:IntKind} {h h':Heap} {x:CV} {l:List Int} (r:RowIs k h x h' l):Ext h h':=by
 obtain ⟨_,_,hr⟩:=r
 rcases hr with ⟨_,rfl,_⟩ | ⟨_,rfl,_⟩ | ⟨_,rfl⟩
 ·exact Ext.refl _
 ·exact (Ext.refl _).skip 1
 ·exact (Ext.refl _).new _
def Mine (sz:Nat) (h0 h:Heap) (x:CV) (n:Nat) (l:List CV):Prop :=
 l.length=n * sz∧((x = .nils∧n=0)∨∃ i,x = .sl i 0 n (.dy sz)∧h.get i=some (.cells l)∧h0.next≤i∧i < h.next)
theorem Mine.nil {sz:Nat} {h0 h:Heap}:Mine sz h0 h .nils 0 []:=⟨by simp,.inl ⟨rfl,rfl⟩⟩
theorem Mine.len {sz:Nat} {h0 h1 h:Heap} {x:CV} {n:Nat} {l:List CV} (ho:Mine sz h0 h1 x n l) {loc vals:List AV} {X:X} (hX:X.eval loc vals = .c x):za2 loc vals h (.len .sl X)=some (.c (.int .i64 (n:Int))):=by
 obtain ⟨_,⟨rfl,rfl⟩ | ⟨i,rfl,_⟩⟩:=ho<;>simp only [za2,hX]<;>rfl
def blk:CV→Option Nat
 | .sl i _ _ _=>some i
 | _=>none
theorem zxq {sz:Nat} {h0 h:Heap} {x:CV} {y:AV} {n m:Nat} {l new:List CV} (ho:Mine sz h0 h x n l) (he:Ext h0 h) (hs:source h sz y=some (m + 1,new)) (hl:new.length=(m + 1) * sz) (hb:n + (m + 1)≤1073741824) :
  ∃ h',zed h sz (.c x) y=some (.c (.sl h.next 0 (n + (m + 1)) (.dy sz)),h')∧Mine sz h0 h' (.sl h.next 0 (n + (m + 1)) (.dy sz)) (n + (m + 1)) (l++new)∧Ext h0 h'∧h'.next=h.next + 1∧(∀ k,k < h.next→blk x≠some k→h'.get k=h.get k):=by
 obtain ⟨hlen,⟨rfl,rfl⟩ | ⟨i,rfl,hg,hi,hi'⟩⟩:=ho
 ·have hnil:l=[]:=List.eq_nil_of_length_eq_zero (by simpa using hlen)
  subst hnil
  have b1:Nat.ble (m + 1) 1073741824=true:=Nat.ble_eq_true_of_le (by omega)
  refine ⟨h.new (.cells new),?_,⟨by simp [hl],.inr ⟨h.next,rfl,by simpa using zb8,he.1,Nat.lt_succ_self _⟩⟩,he.new _,rfl,fun k hk _=>zdd hk⟩
  unfold zed
  simp only [hs,b1,cond_true,Nat.zero_add]
 ·have b1:Nat.ble (n + (m + 1)) 1073741824=true:=Nat.ble_eq_true_of_le (by omega)
  have b2:(sz == sz && Nat.ble (0 + n * sz) l.length)=true:=by simp [hlen]
  have b3:l.take (n * sz)=l:=List.take_of_length_le (by omega)
  refine ⟨(h.kill i).new (.cells (l++new)),?_,⟨by simp [hl,hlen,Nat.add_mul],.inr ⟨h.next,rfl,zb8,he.1,Nat.lt_succ_self _⟩⟩,(he.kill hi).new _,rfl,fun k hk hne=>?_⟩
  ·unfold zed
   simp only [hs,b1,hg,b2,b3,cond_true,List.drop_zero]
  ·have:k≠i:=fun e=>hne (by rw [e];rfl)
   rw [zdd (h:=h.kill i) hk,zjw this]
theorem zg6 {h:Heap} {sz n j:Nat} {l:List CV} {c:Cap} (hg:h.get j=some (.cells l)) (hl:l.length=n * sz):source h sz (.c (.sl j 0 n c))=some (n,l):=by
 have:h.read j 0 (n * sz)=some l:=by
  rw [zdi hg (by omega),← hl,List.drop_zero,List.take_length]
 simp only [source,this]
theorem Mine.keep {sz:Nat} {h0 h h':Heap} {x:CV} {n:Nat} {l:List CV} (ho:Mine sz h0 h x n l) (hn:h.next≤h'.next) (hk:∀ k,k < h.next→blk x=some k→h'.get k=h.get k):Mine sz h0 h' x n l:=by
 obtain ⟨hlen,h1 | ⟨i,rfl,hg,hi,hi'⟩⟩:=ho
 ·exact ⟨hlen,.inl h1⟩
 ·exact ⟨hlen,.inr ⟨i,rfl,(hk i hi' rfl).trans hg,hi,Nat.lt_of_lt_of_le hi' hn⟩⟩
theorem Mine.new {sz:Nat} {h0 h:Heap} {x:CV} {n:Nat} {l:List CV} (ho:Mine sz h0 h x n l) (b:Blk):Mine sz h0 (h.new b) x n l:=ho.keep (Nat.le_succ _) fun _ hk _=>zdd hk
theorem zxr {h0 h:Heap} {x:CV} {l:List CV} {n j:Nat} {v:CV} {c:Cap} (ho:Mine 1 h0 h x n l) (he:Ext h0 h) (hg:h.get j=some (.cells [v])) (hb:n < 1073741824) :
  ∃ h',zed h 1 (.c x) (.c (.sl j 0 1 c))=some (.c (.sl h.next 0 (n + 1) (.dy 1)),h')∧Mine 1 h0 h' (.sl h.next 0 (n + 1) (.dy 1)) (n + 1) (l++[v])∧Ext h0 h'∧h'.next=h.next + 1∧(∀ k,k < h.next→blk x≠some k→h'.get k=h.get k) :=
 zxq (m:=0) ho he (zg6 hg rfl) rfl (by omega)
theorem Mine.ints {h0 h:Heap} {x:CV} {n:Nat} {xs:List Int} (ho:Mine 1 h0 h x n (xs.map (.int .i64))):Ints h x xs:=by
 obtain ⟨hlen,⟨rfl,rfl⟩ | ⟨i,rfl,hg,_,hi⟩⟩:=ho
 ·exact .inl ⟨rfl,by simpa using hlen⟩
 ·have:n=xs.length:=by simpa using hlen.symm
  subst this
  exact znv hi hg
theorem zp9 {n:Nat} (h:n < 18446744073709551616):IntKind.u64.wrap (n:Int)=(n:Int):=by
 simp only [IntKind.wrap,IntKind.bits,IntKind.signed]
 simp
 omega
theorem zgf {a:Int} (h : -9223372036854775808≤a) (h':a < 9223372036854775808):IntKind.i64.wrap a=a:=by
 simp only [IntKind.wrap,IntKind.bits,IntKind.signed]
 simp
 omega
theorem zeb {i:Nat} (h:i < 1000000):IntKind.i64.wrap ((i:Int) + 1)=((i + 1:Nat):Int):=by
 rw [zgf (by omega) (by omega)];omega
theorem ze1 {i n:Nat} (h:i < n):decide ((i:Int) < (n:Int))=true:=by simp;omega
theorem zfj {i n:Nat} (h:n≤i):decide ((i:Int) < (n:Int))=false:=by simp;omega
theorem zdp {i n:Nat} (h:i < n):Nat.blt i n=true:=Nat.ble_eq_true_of_le h
end Lav
namespace Lav
open Go (IntKind BinOp UnOp)
def zb9 (v:Int):CV:=.int .i64 v
def Made (h0 h:Heap) (x:CV) (vs:List Int):Prop :=
 (x = .nils∧vs=[])∨∃ i c,x = .sl i 0 vs.length c∧h.get i=some (.cells (vs.map zb9))∧h0.next≤i∧i < h.next
theorem Made.ints {h0 h:Heap} {x:CV} {vs:List Int} (m:Made h0 h x vs):Ints h x vs:=by
 rcases m with h1 | ⟨i,c,rfl,hg,_,hi⟩
 ·exact .inl h1
 ·exact znv hi hg
theorem Mine.made {h0 h:Heap} {x:CV} {n:Nat} {vs:List Int} (m:Mine 1 h0 h x n (vs.map zb9)):Made h0 h x vs:=by
 obtain ⟨hlen,⟨rfl,rfl⟩ | ⟨i,rfl,hg,h1,hi⟩⟩:=m
 ·exact .inl ⟨rfl,by simpa using hlen⟩
 ·have:n=vs.length:=by simpa using hlen.symm
  subst this
  exact .inr ⟨i,_,rfl,hg,h1,hi⟩
theorem Made.len {h0 h1 h:Heap} {x:CV} {vs:List Int} (m:Made h0 h1 x vs) {loc vals:List AV} {X:X} (hX:X.eval loc vals = .c x):za2 loc vals h (.len .sl X)=some (.c (.int .i64 (vs.length:Int))):=m.ints.len hX
theorem Made.keep {h0 h h':Heap} {x:CV} {vs:List Int} (m:Made h0 h x vs) (hn:h.next≤h'.next) (hk:∀ k,k < h.next→blk x=some k→h'.get k=h.get k):Made h0 h' x vs:=by
 rcases m with h1 | ⟨i,c,rfl,hg,h1,hi⟩
 ·exact .inl h1
 ·exact .inr ⟨i,c,rfl,(hk i hi rfl).trans hg,h1,Nat.lt_of_lt_of_le hi hn⟩
theorem Made.ext {h0 h h':Heap} {x:CV} {vs:List Int} (m:Made h0 h x vs) (e:Ext h h'):Made h0 h' x vs:=m.keep e.1 fun k hk _=>e.2 k hk
theorem zvm {loc vals:List AV} {h:Heap} {x:X} {r:List X}:za2 loc vals h (.mx (x :: r))=(match x.eval loc vals with
   | .c (.int k n)=>zei loc vals (fun a b=>if b > a then b else a) (.c (.int k n)) r
   | _=>none):=rfl
theorem zg7 {loc vals:List AV} {h:Heap} {i:Nat} {x:X}:za2 loc vals h (.ext i x)=(match x.eval loc vals with
  | .tup l=>match l[i]? with
   | some v=>some v.av
   | none=>none
  | _=>none):=rfl
theorem za5 {loc vals:List AV} {h:Heap} {off:Nat} {x:X}:za2 loc vals h (.faddr off x)=(match x.eval loc vals with
  | .c (.ptr i o)=>some (.c (.ptr i (o + off)))
  | _=>none):=rfl
theorem za1 {call:Nat→List AV→Heap→Option (AV × Heap)} {loc vals:List AV} {h:Heap} {n:Nat} {x:X}:zdg loc vals call h (.faddr n x)=zew h (za2 loc vals h (.faddr n x)):=rfl
theorem zds {call:Nat→List AV→Heap→Option (AV × Heap)} {loc vals:List AV} {h:Heap} {z:List CV} {ps:List (Nat × Nat × X)}:zdg loc vals call h (.build z ps)=zew h (za2 loc vals h (.build z ps)):=rfl
theorem zdn {call:Nat→List AV→Heap→Option (AV × Heap)} {loc vals:List AV} {h:Heap} {x:X}:zdg loc vals call h (.nilchk x)=zew h (za2 loc vals h (.nilchk x)):=rfl
end Lav
namespace Lav
open Go (IntKind BinOp UnOp)
def ExtB (S:List Nat) (h h':Heap):Prop:=h.next≤h'.next∧∀ i,i < h.next→i ∉ S→h'.get i=h.get i
theorem ExtB.refl (S:List Nat) (h:Heap):ExtB S h h:=⟨Nat.le_refl _,fun _ _ _=>rfl⟩
theorem ExtB.trans {S:List Nat} {a b c:Heap} (x:ExtB S a b) (y:ExtB S b c):ExtB S a c:=⟨Nat.le_trans x.1 y.1,fun i hi hn=>(y.2 i (Nat.lt_of_lt_of_le hi x.1) hn).trans (x.2 i hi hn)⟩
theorem ExtB.mono {S S':List Nat} {a b:Heap} (x:ExtB S a b) (h:∀ i∈S,i∈S'):ExtB S' a b:=⟨x.1,fun i hi hn=>x.2 i hi fun hs=>hn (h i hs)⟩
theorem Ext.b {a b:Heap} (x:Ext a b) (S:List Nat):ExtB S a b:=⟨x.1,fun i hi _=>x.2 i hi⟩
theorem ExtB.new {S:List Nat} {a h:Heap} (x:ExtB S a h) (b:Blk):ExtB S a (h.new b):=⟨Nat.le_succ_of_le x.1,fun i hi hn=>(zdd (Nat.lt_of_lt_of_le hi x.1)).trans (x.2 i hi hn)⟩
theorem ExtB.put {S:List Nat} {a h:Heap} (x:ExtB S a h) {i:Nat} (hi:a.next≤i∨i∈S) (b:Blk):ExtB S a (h.put i b) :=
 ⟨x.1,fun j hj hn=>(zcl (fun e=>by subst e;exact hi.elim (fun h=>absurd h (by omega)) hn)).trans (x.2 j hj hn)⟩
theorem ExtB.at_ {S:List Nat} {a h:Heap} (x:ExtB S a h) {i:Nat} {b:Blk} (hg:a.get i=some b) (hi:i < a.next) (hn:i ∉ S):h.get i=some b:=(x.2 i hi hn).trans hg
theorem Made.keepB {S:List Nat} {h0 h h':Heap} {x:CV} {vs:List Int} (m:Made h0 h x vs) (e:ExtB S h h') (hn:∀ k,blk x=some k→k ∉ S):Made h0 h' x vs:=m.keep e.1 fun k hk hb=>e.2 k hk (hn k hb)
theorem Mine.keepB {S:List Nat} {sz:Nat} {h0 h h':Heap} {x:CV} {n:Nat} {l:List CV} (m:Mine sz h0 h x n l) (e:ExtB S h h') (hn:∀ k,blk x=some k→k ∉ S):Mine sz h0 h' x n l:=Mine.keep m e.1 fun k hk hb=>e.2 k hk (hn k hb)
theorem Made.young {h0 h:Heap} {x:CV} {vs:List Int} (m:Made h0 h x vs):∀ k,blk x=some k→h0.next≤k:=by
 intro k hk
 rcases m with ⟨rfl,_⟩ | ⟨i,c,rfl,_,h1,_⟩
 ·cases hk
 ·simp [blk] at hk;omega
theorem Mine.young {sz:Nat} {h0 h:Heap} {x:CV} {n:Nat} {l:List CV} (m:Mine sz h0 h x n l):∀ k,blk x=some k→h0.next≤k:=by
 intro k hk
 obtain ⟨_,⟨rfl,_⟩ | ⟨i,rfl,_,h1,_⟩⟩:=m
 ·cases hk
 ·simp [blk] at hk;omega
theorem zjg {sz:Nat} {h0 h:Heap} {x:CV} {y:AV} {n m:Nat} {l new:List CV} (ho:Mine sz h0 h x n l) (he:h0.next≤h.next) (hs:source h sz y=some (m + 1,new)) (hl:new.length=(m + 1) * sz) (hb:n + (m + 1)≤1073741824) :
  ∃ h',zed h sz (.c x) y=some (.c (.sl h.next 0 (n + (m + 1)) (.dy sz)),h')∧Mine sz h0 h' (.sl h.next 0 (n + (m + 1)) (.dy sz)) (n + (m + 1)) (l++new)∧h'.next=h.next + 1∧(∀ k,k < h.next→blk x≠some k→h'.get k=h.get k):=by
 obtain ⟨hlen,⟨rfl,rfl⟩ | ⟨i,rfl,hg,hi,hi'⟩⟩:=ho
 ·have hnil:l=[]:=List.eq_nil_of_length_eq_zero (by simpa using hlen)
  subst hnil
  have b1:Nat.ble (m + 1) 1073741824=true:=Nat.ble_eq_true_of_le (by omega)
  refine ⟨h.new (.cells new),?_,⟨by simp [hl],.inr ⟨h.next,rfl,by simpa using zb8,he,Nat.lt_succ_self _⟩⟩,rfl,fun k hk _=>zdd hk⟩
  unfold zed
  simp only [hs,b1,cond_true,Nat.zero_add]
 ·have b1:Nat.ble (n + (m + 1)) 1073741824=true:=Nat.ble_eq_true_of_le (by omega)
  have b2:(sz == sz && Nat.ble (0 + n * sz) l.length)=true:=by simp [hlen]
  have b3:l.take (n * sz)=l:=List.take_of_length_le (by omega)
  refine ⟨(h.kill i).new (.cells (l++new)),?_,⟨by simp [hl,hlen,Nat.add_mul],.inr ⟨h.next,rfl,zb8,he,Nat.lt_succ_self _⟩⟩,rfl,fun k hk hne=>?_⟩
  ·unfold zed
   simp only [hs,b1,hg,b2,b3,cond_true,List.drop_zero]
  ·have:k≠i:=fun e=>hne (by rw [e];rfl)
   rw [zdd (h:=h.kill i) hk,zjw this]
theorem zrf {sz:Nat} {h0 h:Heap} {i:Nat} {y:AV} {m:Nat} {new:List CV} (hg:h.get i=some (.cells [])) (he:h0.next≤h.next) (hs:source h sz y=some (m + 1,new)) (hl:new.length=(m + 1) * sz) (hb:m + 1≤1073741824) :
  ∃ h',zed h sz (.c (.sl i 0 0 (.ex 0))) y=some (.c (.sl h.next 0 (m + 1) (.dy sz)),h')∧Mine sz h0 h' (.sl h.next 0 (m + 1) (.dy sz)) (m + 1) new∧h'.next=h.next + 1∧(∀ k,k < h.next→h'.get k=h.get k):=by
 have b1:Nat.ble (m + 1) 1073741824=true:=Nat.ble_eq_true_of_le (by omega)
 have b2:Nat.ble (m + 1) 0=false:=rfl
 have hr:h.read i 0 (0 * sz)=some []:=by rw [Nat.zero_mul,zdi hg (by simp)];rfl
 refine ⟨h.new (.cells new),?_,⟨hl,.inr ⟨h.next,rfl,zb8,he,Nat.lt_succ_self _⟩⟩,rfl,fun k hk=>zdd hk⟩
 unfold zed
 simp only [hs,Nat.zero_add,b1,b2,hr,cond_true,cond_false,List.nil_append]
theorem zvn {sz:Nat} {h:Heap} {x:CV} {y:AV} (hx:x = .nils∨∃ i o n c,x = .sl i o n c) (hs:source h sz y=some (0,[])):zed h sz (.c x) y=some (.c x,h):=by
 rcases hx with rfl | ⟨i,o,n,c,rfl⟩<;>simp only [zed,hs]
theorem Ints.source {h:Heap} {x:CV} {xs:List Int} (hx:Ints h x xs):source h 1 (.c x)=some (xs.length,xs.map zb9):=by
 rcases hx with ⟨rfl,rfl⟩ | ⟨i,o,c,rfl,hi,hr⟩
 ·rfl
 ·by_cases h0:xs=[]
  ·subst h0
   simp only [Lav.source,List.length_nil,Nat.zero_mul]
   cases hr0:h.read i o 0 with
   | none=>rfl
   | some l =>
    have:l=[]:=by
     have key:∀ m,cut m o 0=some l→l=[]:=fun m hm=>by
      unfold cut at hm
      cases hc:Nat.ble (o + 0) m.length with
      | false=>rw [hc] at hm;cases hm
      | true=>rw [hc] at hm;simp at hm;exact hm
     unfold Heap.read at hr0
     split at hr0
     ·exact key _ hr0
     ·exact key _ hr0
     ·cases hr0
    subst this;rfl
  ·have hpos:0 < xs.length:=List.length_pos_iff.2 h0
   have key:∀ m:List CV,(∀ j v,xs[j]? = some v→cut m (o + j * 1) 1=some [.int .i64 v])→cut m o (xs.length * 1)=some (xs.map zb9):=by
    intro m hm
    have cut1:∀ p v,cut m p 1=some [v]→p < m.length∧m[p]? = some v:=by
     intro p v hc
     unfold cut at hc
     cases hb:Nat.ble (p + 1) m.length with
     | false=>rw [hb] at hc;cases hc
     | true =>
      rw [hb] at hc
      have hl:p + 1≤m.length:=Nat.le_of_ble_eq_true hb
      simp only [cond_true,Option.some.injEq] at hc
      rw [List.drop_eq_getElem_cons (by omega),List.take_succ_cons,List.take_zero] at hc
      simp only [List.cons.injEq,and_true] at hc
      exact ⟨by omega,by rw [List.getElem?_eq_getElem (by omega),hc]⟩
    have hlast:=(cut1 _ _ (hm (xs.length - 1) xs[xs.length - 1] (by simp))).1
    rw [Nat.mul_one,zkw (by omega)]
    congr 1
    apply List.ext_getElem?
    intro j
    rcases Nat.lt_or_ge j xs.length with hj | hj
    ·have:=(cut1 _ _ (hm j xs[j] (by simp [hj]))).2
     rw [Nat.mul_one] at this
     rw [List.getElem?_take,if_pos hj,List.getElem?_drop,this];simp [hj,zb9]
    ·rw [List.getElem?_take,if_neg (by omega),List.getElem?_eq_none (by simp;omega)]
   have whole:h.read i o (xs.length * 1)=some (xs.map zb9):=by
    unfold Heap.read at hr ⊢
    cases hg:h.get i with
    | none=>have:=hr 0 xs[0] (by simp [hpos]);simp [hg] at this
    | some b =>
     cases b with
     | cells m=>simp only [hg] at hr ⊢;exact key m hr
     | ro m=>simp only [hg] at hr ⊢;exact key m hr
     | chan c m=>have:=hr 0 xs[0] (by simp [hpos]);simp [hg] at this
     | map m=>have:=hr 0 xs[0] (by simp [hpos]);simp [hg] at this
   simp only [Lav.source,whole]
section
variable {call:Nat→List AV→Heap→Option (AV × Heap)} {loc vals:List AV} {h cur:Heap} {n j k:Nat} {l r:List Inst} {ks:List (Nat × Heap)} {news:List (Nat × Nat × Blk)}
def zsv (call:Nat→List AV→Heap→Option (AV × Heap)) (n:Nat) (l:List Inst) (loc:List AV) (h:Heap) (r:List Inst) (j k:Nat) (vals:List AV) (cur:Heap) (ks:List (Nat × Heap)) (news:List (Nat × Nat × Blk)) (v:Option ((Nat→AV) × Blk)):Option (Ex × List AV × Heap) :=
 match v with
 | some (f,b)=>zek call n l loc h r (j + 1) (k + 1) (f (h.next + k) :: vals) (cur.put (h.next + k) b) ks ((j,h.next + k,b) :: news)
 | none=>none
theorem zhx {f:Nat→AV} {b:Blk}:zsv call n l loc h r j k vals cur ks news (some (f,b))=zek call n l loc h r (j + 1) (k + 1) (f (h.next + k) :: vals) (cur.put (h.next + k) b) ks ((j,h.next + k,b) :: news):=rfl
theorem zpe {m:Nat} {z:List CV} {ps:List (Nat × Nat × X)}:zd9 call n l loc h (.bsl m z ps) r j k vals cur ks news (some true)=zsv call n l loc h r j k vals cur ks news (zbh loc vals (.bsl m z ps)):=rfl
theorem zwu {m b:Nat} {x y:X}:zd9 call n l loc h (.app m b x y) r j k vals cur ks news (some true)=zpd call n l loc h r j k vals ks news (zed cur m (x.eval loc vals) (y.eval loc vals)):=rfl
theorem zce {m:Nat} {x:X}:zd9 call n l loc h (.faddr m x) r j k vals cur ks news (some true)=zgp call n l loc h r j k vals cur ks news (za2 loc vals cur (.faddr m x)):=rfl
theorem zgy {x:X}:zd9 call n l loc h (.nilchk x) r j k vals cur ks news (some true)=zgp call n l loc h r j k vals cur ks news (za2 loc vals cur (.nilchk x)):=rfl
theorem zcu {x:X}:zd9 call n l loc h (.mov x) r j k vals cur ks news (some false)=zek call n l loc h r (j + 1) k (.tup [] :: vals) cur ks news:=rfl
theorem zcv {o:BinOp} {x y:X}:zd9 call n l loc h (.bin o x y) r j k vals cur ks news (some false)=zek call n l loc h r (j + 1) k (.tup [] :: vals) cur ks news:=rfl
theorem zsw {x y z:X}:zd9 call n l loc h (.pick x y z) r j k vals cur ks news (some false)=zek call n l loc h r (j + 1) k (.tup [] :: vals) cur ks news:=rfl
theorem zcf {m:Nat} {x y:X}:zd9 call n l loc h (.iaddr m x y) r j k vals cur ks news (some false)=zek call n l loc h r (j + 1) k (.tup [] :: vals) cur ks news:=rfl
theorem zcg {m:Nat} {x:X}:zd9 call n l loc h (.faddr m x) r j k vals cur ks news (some false)=zek call n l loc h r (j + 1) k (.tup [] :: vals) cur ks news:=rfl
theorem zcm {m:Nat} {g:Bool} {x:X}:zd9 call n l loc h (.load m g x) r j k vals cur ks news (some false)=zek call n l loc h r (j + 1) k (.tup [] :: vals) cur ks news:=rfl
theorem zsx {f:Nat} {xs:List X}:zd9 call n l loc h (.call f xs) r j k vals cur ks news (some false)=zek call n l loc h r (j + 1) k (.tup [] :: vals) cur ((j,cur) :: ks) news:=rfl
end
theorem zdl {loc vals:List AV} {h:Heap} {z:List CV} {ps:List (Nat × Nat × X)}:za2 loc vals h (.build z ps)=(match zb4 loc vals ps with
  | some ps=>match zb7 z ps with
   | some l=>some (.agg l)
   | none=>none
  | none=>none):=rfl
theorem zdf {loc vals:List AV} {h:Heap} {x:X}:za2 loc vals h (.nilchk x)=(match x.eval loc vals with
  | .c (.ptr i o)=>some (.c (.ptr i o))
  | .c (.fn f l)=>some (.c (.fn f l))
  | _=>none):=rfl
end Lav
namespace Lav
open Go (IntKind)
namespace Q
def a (n:Nat):CV:=.int .i64 (.ofNat n)
def m (n:Nat):CV:=.int .i64 (.negSucc n)
def u (n:Nat):CV:=.int .u8 (.ofNat n)
def t:CV:=.bool true
def f:CV:=.bool false
def p (i o:Nat):CV:=.ptr i o
def s (i o n c:Nat):CV:=.sl i o n (.ex c)
def d (i o n c:Nat):CV:=.sl i o n (.dy c)
def ch (i:Nat):CV:=.ch i
def mp (i:Nat):CV:=.mp i
def ns:CV:=.nils
def str (l:List Nat):CV:=.str l
def rp (n:Nat) (l:List CV):List CV:=zeros n l
def cs (l:List CV):Blk:=.cells l
def ck (n:Nat) (l:List XV):Blk:=.chan n l
def mk (n:Nat) (l:List Ent):Blk:=.map n l
def ptG (l:List Blk) (ch:List (Nat × Blk)):Nat→Nat→List Blk
 | 0,_=>[]
 | k + 1,i=>(match ch.lookup i with
  | some b=>b
  | none=>l.getD i (.cells [])) :: ptG l ch k (i + 1)
def pt (l:List Blk) (n:Nat) (ch:List (Nat × Blk)):List Blk:=ptG l ch n 0
def tsG (ch:List (Nat × Nat)):Nat→Nat→List Nat
 | 0,_=>[]
 | k + 1,i=>(match ch.lookup i with
  | some b=>b
  | none=>i) :: tsG ch k (i + 1)
def ts (n:Nat) (ch:List (Nat × Nat)):List Nat:=tsG ch n 0
end Q
theorem Emb.empty (ρ:Nat→Nat) (g:Heap):Emb ρ (hp []) g:=⟨fun i b h=>by rw [zhw] at h;simp at h,fun i j h=>by rw [zhw] at h;simp at h⟩
section
variable {τ:Nat→Int} {ρ:Nat→Nat} {l:List Blk} {g g':Heap}
theorem zhm {i:Nat} (hi:i < l.length):(hp l).get i=some l[i]:=by rw [zhw];simp [hi]
theorem Emb.lt (E:Emb ρ (hp l) g) {i:Nat} (hi:i < l.length):ρ i < g.next:=(E.at_ i _ (zhm hi)).2.1
theorem Emb.get (E:Emb ρ (hp l) g) {i:Nat} (hi:i < l.length):g.get (ρ i)=some (l[i].mv τ0 ρ):=(E.at_ i _ (zhm hi)).2.2
theorem Emb.other (E:Emb ρ (hp l) g) (hn:g.next≤g'.next) (hk:∀ i,i < l.length→g'.get (ρ i)=g.get (ρ i)):Emb ρ (hp l) g' :=
 ⟨fun i b h=>by
  obtain ⟨h1,h2,h3⟩:=E.at_ i b h
  have hi:i < l.length:=h1
  exact ⟨h1,Nat.lt_of_lt_of_le h2 hn,(hk i hi).trans h3⟩,E.inj⟩
theorem Emb.new (E:Emb ρ (hp l) g) (b:Blk):Emb ρ (hp l) (g.new b):=E.other (Nat.le_succ _) fun _ hi=>zdd (E.lt hi)
theorem Emb.ext (E:Emb ρ (hp l) g) (x:Ext g g'):Emb ρ (hp l) g':=E.other x.1 fun _ hi=>x.2 _ (E.lt hi)
theorem Emb.snoc (E:Emb ρ (hp l) g) {q:Nat} {b b':Blk} (hq:g.get q=some b') (hl:q < g.next) (hb:b'=b.mv τ0 (fun i=>if i=l.length then q else ρ i)) (hw:l.all (Blk.lt l.length)=true) (hne:∀ i,i < l.length→ρ i≠q) :
  Emb (fun i=>if i=l.length then q else ρ i) (hp (l++[b])) g:=by
 have hlen:(l++[b]).length=l.length + 1:=by simp
 have lv:∀ {i},(hp (l++[b])).get i≠none→i < l.length + 1:=fun {i} h=>by
  rw [zhw] at h
  exact Classical.byContradiction fun hn=>h (List.getElem?_eq_none (by simp;omega))
 refine ⟨fun i c h=>?_,fun i j hi hj e=>?_⟩
 ·have hi:=lv (i:=i) (by rw [h];simp)
  rw [zhw] at h
  refine ⟨by rw [show (hp (l++[b])).next=l.length + 1 from hlen];exact hi,?_,?_⟩
  ·by_cases c1:i=l.length
   ·rw [if_pos c1];exact hl
   ·rw [if_neg c1];exact E.lt (by omega)
  ·by_cases c1:i=l.length
   ·subst c1
    simp at h
    subst h
    rw [if_pos rfl,hq,hb]
   ·have hi':i < l.length:=by omega
    rw [List.getElem?_append_left hi'] at h
    rw [if_neg c1]
    obtain ⟨_,rfl⟩:=List.getElem?_eq_some_iff.1 h
    rw [E.get hi']
    refine congrArg some (Blk.mv_congr (n:=l.length) (fun j hj=>?_) (List.all_eq_true.1 hw _ (List.getElem_mem hi')))
    rw [if_neg (by omega)]
 ·have hi':=lv hi
  have hj':=lv hj
  by_cases c1:i=l.length<;>by_cases c2:j=l.length
  ·omega
  ·rw [if_pos c1,if_neg c2] at e
   exact absurd e.symm (hne j (by omega))
  ·rw [if_neg c1,if_pos c2] at e
   exact absurd e (hne i (by omega))
  ·rw [if_neg c1,if_neg c2] at e
   exact E.inj i j (by rw [zhm (by omega)];simp) (by rw [zhm (by omega)];simp) e
end
structure At (h0:Heap) (ρ:Nat→Nat) (l:List Blk) (g:Heap):Prop where
 emb:Emb ρ (hp l) g
 young:∀ i,i < l.length→h0.next≤ρ i
 ext:Ext h0 g
theorem At.empty (h:Heap):At h (fun _=>0) [] h:=⟨Emb.empty _ h,fun _ hi=>absurd hi (Nat.not_lt_zero _),Ext.refl h⟩
theorem zen {o o':Over} {table:List (Nat × IRF)} (hT:clT table=true) (hO:OverM2 o o' table) {N d N' d' f:Nat} (hN:N≤N') (h20:20≤N') (hd:d≤d') {args:List AV} {l l':List Blk} {ts:List Nat} {n:Nat} {r:AV}
  (he:zdy ts (evCallO o table N d f args (hp l))=some (r.mv τ0 (at0 ts),n,l'.map fun b=>some (b.mv τ0 (at0 ts)))) (hf:fit l args ts n=true)
  {h0:Heap} {ρ:Nat→Nat} {g:Heap} (A:At h0 ρ l g) (τ:Nat→Int:=τ0) :
  ∃ ρ' g',evCallO o' table N' d' f (mva τ ρ args) g=some (r.mv τ0 ρ',g')∧At h0 ρ' l' g'∧(∀ i,at0 ts i=i→i < l.length→ρ' i=ρ i)∧g.next≤g'.next∧∀ k,k < g.next→(∀ i,i < l.length→ρ i≠k)→g'.get k=g.get k:=by
 obtain ⟨g',e,E,hn,fr⟩:=seg hT hO hN h20 hd he hf τ A.emb
 have hx:=A.ext
 have lens:ts.length=l'.length:=by
  unfold zdy at he
  split at he
  ·simp only [Option.some.injEq,Prod.mk.injEq] at he
   have:=congrArg List.length he.2.2
   simpa using this
  ·cases he
 rw [show (r.mv τ0 (at0 ts)).mv τ (Lav.ext ρ l.length g.next)=r.mv τ0 fun i=>Lav.ext ρ l.length g.next (at0 ts i) from AV.mv_mv r] at e
 refine ⟨_,g',e,⟨E,fun i _=>?_,Nat.le_trans hx.1 hn,fun k hk=>?_⟩,fun i hi hl=>?_,hn,fr⟩
 ·show h0.next≤Lav.ext ρ l.length g.next (at0 ts i)
  unfold Lav.ext
  have:=hx.1
  by_cases c:at0 ts i < l.length
  ·rw [if_pos c];exact A.young _ c
  ·rw [if_neg c];omega
 ·rw [fr k (Nat.lt_of_lt_of_le hk hx.1) fun i hi e=>by have:=A.young i hi;omega]
  exact hx.2 k hk
 ·show Lav.ext ρ l.length g.next (at0 ts i)=ρ i
  rw [hi];exact if_pos hl
theorem At.other {h0:Heap} {ρ:Nat→Nat} {l:List Blk} {g g':Heap} (A:At h0 ρ l g) (x:Ext g g'):At h0 ρ l g':=⟨A.emb.ext x,A.young,A.ext.trans x⟩
theorem At.new {h0:Heap} {ρ:Nat→Nat} {l:List Blk} {g:Heap} (A:At h0 ρ l g) (b:Blk):At h0 ρ l (g.new b):=A.other ((Ext.refl g).new b)
theorem At.snoc {h0:Heap} {ρ:Nat→Nat} {l:List Blk} {g:Heap} (A:At h0 ρ l g) (c:List CV) (hb:c.all (CV.lt 0)=true) (hn:c.all CV.nt=true) (hw:l.all (Blk.lt l.length)=true):At h0 (fun i=>if i=l.length then g.next else ρ i) (l++[.cells c]) (g.new (.cells c)):=by
 refine ⟨(A.emb.new _).snoc (b':=.cells c) zb8 (Nat.lt_succ_self _) ?_ hw fun i hi=>Nat.ne_of_lt (A.emb.lt hi),fun i hi=>?_,A.ext.new _⟩
 ·show _=Blk.cells (mvs τ0 _ c)
  rw [zp8 hb hn]
 ·have:=A.ext.1
  by_cases c:i=l.length
  ·simp only [c,if_true];exact this
  ·simp only [c,if_false];exact A.young i (by simp at hi;omega)
def cellAt (l:List Blk) (i o:Nat):Option CV:=match l[i]? with
 | some (.cells c)=>c[o]?
 | _=>none
theorem At.cell {h0:Heap} {ρ:Nat→Nat} {l:List Blk} {g:Heap} (A:At h0 ρ l g) {i o:Nat} {v:CV} (hv:cellAt l i o=some v):g.read (ρ i) o 1=some [v.mv τ0 ρ]:=by
 unfold cellAt at hv
 split at hv
 ·rename_i c hc
  have hi:i < l.length:=(List.getElem?_eq_some_iff.1 hc).1
  have:=A.emb.get hi
  rw [(List.getElem?_eq_some_iff.1 hc).2] at this
  refine zam this ?_
  show (c.map _)[o]? = _
  rw [List.getElem?_map,hv];rfl
 ·cases hv
theorem zbp {o:Over} {table:List (Nat × IRF)} {N d f:Nat} {F:IRF} {args:List AV} {h:Heap} (hO:o f=none) (hl:table.lookup f=some F) (hn:(args.length == F.nparams)=true) :
  evCallO o table N (d + 1) f args h=zsh (evCallO o table N d) N F args h:=by
 rw [zjc,hO]
 simp only [zfh,hl,hn,cond_true];rfl
end Lav
namespace Lav
open Go (IntKind)
theorem zxs {call:Nat→List AV→Heap→Option (AV × Heap)} {loc vals:List AV} {h:Heap} {x:X}:zdg loc vals call h (.mark x)=(match x.eval loc vals with
  | .c (.sl i o n c)=>match h.get i with
   | some (.cells _)=>bif Nat.ble 1 n then some (.c (.sl i o n c),h) else none
   | _=>none
  | _=>none):=rfl
theorem zb0 {loc vals:List AV} {h:Heap} {i o n:Nat} {c:Cap}:za2 loc (.c (.sl i o n c) :: vals) h (.len .sl (.val 0))=some (.c (.int .i64 (n:Int))):=rfl
theorem zt3 {loc vals:List AV} {h:Heap}:za2 loc (.c .nils :: vals) h (.len .sl (.val 0))=some (.c (.int .i64 0)):=rfl
theorem zd1 {a b:Int}:(a != b) = !(a == b):=rfl
theorem zls {k:IntKind}:zdu (.c (.int k 0))=some 0:=rfl
theorem zt4 {k:IntKind}:zdu (.c (.int k 1))=some 1:=rfl
section
variable {call:Nat→List AV→Heap→Option (AV × Heap)} {loc vals:List AV} {h cur:Heap} {n j k:Nat} {l r:List Inst} {ks:List (Nat × Heap)} {news:List (Nat × Nat × Blk)}
theorem zrg {x:X} {a b:Option X}:zdg loc vals call h (.sstr x a b)=zew h (za2 loc vals h (.sstr x a b)):=rfl
theorem zd4 {x:X} {a b:Option X}:zd9 call n l loc h (.sstr x a b) r j k vals cur ks news (some true)=zgp call n l loc h r j k vals cur ks news (za2 loc vals cur (.sstr x a b)):=rfl
theorem zz0 {x:X}:zd9 call n l loc h (.s2b x) r j k vals cur ks news (some true)=zsv call n l loc h r j k vals cur ks news (zbh loc vals (.s2b x)):=rfl
theorem zd5 {x:X} {a b:Option X}:za2 loc vals h (.sstr x a b)=(match x.eval loc vals with
  | .c (.str s)=>match bound loc vals a 0,bound loc vals b s.length with
   | some l,some r=>bif Nat.ble l r && Nat.ble r s.length then some (.c (.str ((s.drop l).take (r - l)))) else none
   | _,_=>none
  | _=>none):=rfl
end
end Lav
namespace Lav
open Go (IntKind BinOp UnOp)
section
variable {call:Nat→List AV→Heap→Option (AV × Heap)} {loc vals:List AV} {h cur:Heap} {n j k:Nat} {l r:List Inst} {ks:List (Nat × Heap)} {news:List (Nat × Nat × Blk)}
theorem zxt {z:List CV} {ps:List (Nat × Nat × X)}:zd9 call n l loc h (.build z ps) r j k vals cur ks news (some true)=zgp call n l loc h r j k vals cur ks news (za2 loc vals cur (.build z ps)):=rfl
end
def zfb (b:Bool):CV:=.bool b
end Lav
namespace Lav
open Go
section
variable {H:Type} {enc:TypeId × Value→H} {P:Program} {w:World} {base:Nat} {spare:Nat→Bool} {held:Bool}
end
def RecsIs (sz:Nat) (h:Heap) (x:CV) (h':Heap) (n:Nat) (l:List Int):Prop :=
 (∀ v∈l,(Lit.int .i64 v).wf=true)∧l.length=n * sz ∧
 ((x = .nils∧h'=h∧n=0)∨(x = .sl h.next 0 0 (.dy sz)∧h'=h.skip 1∧n=0)∨(x = .sl h.next 0 n (.dy sz)∧h'=h.new (.ro (l.map (.int .i64)))))
theorem Init.recs {w:World} {ι:Inj} {h:Heap} (I:Init w ι h) {a:Option Addr} {len cap sz:Nat} (hsz:0 < sz) {zs:List Int}
  (r:(a=none∧len=0∧cap=0∧zs=[])∨∃ x,a=some x∧len≤cap∧cap≤maxLen∧zs.length=cap * sz∧(∀ i,i < zs.length→w.cell? (x.add i)=some (.int .i64 (zs.getD i 0)))∧∀ n∈zs,(Lit.int .i64 n).wf=true) :
  ∃ ι' h' x,Init w ι' h'∧Le ι ι'∧CR ι' x (.slice a len cap)∧RecsIs sz h x h' len (zs.take (len * sz)):=by
 rcases r with ⟨rfl,rfl,rfl,rfl⟩ | ⟨x,rfl,hl,hm,hz,hcell,hwf⟩
 ·exact ⟨ι,h,.nils,I,Le.refl _,rfl,by simp,by simp,.inl ⟨rfl,rfl,rfl⟩⟩
 ·have hw':∀ n∈zs.take (len * sz),(Lit.int .i64 n).wf=true:=fun n hn=>hwf n (List.mem_of_mem_take hn)
  have hlen:(zs.take (len * sz)).length=len * sz:=by rw [List.length_take,hz];exact Nat.min_eq_left (Nat.mul_le_mul_right _ hl)
  by_cases h0:cap=0
  ·have hl0:len=0:=by omega
   subst h0;subst hl0
   obtain ⟨I',hle⟩:=I.skip (x.block,x.off,0)
   exact ⟨_,_,.sl h.next 0 0 (.dy sz),I',hle,⟨x.block,x.off,0,x,0,Inj.put_at,rfl,Nat.le_refl _,fun e=>absurd rfl e,by simp [zit]⟩,hw',hlen,.inr (.inl ⟨rfl,rfl,rfl⟩)⟩
  ·have hc0:=hcell 0 (by rw [hz];exact Nat.mul_pos (by omega) hsz)
   have hadd0:x.add 0=x:=by simp [Addr.add]
   rw [hadd0] at hc0
   obtain ⟨c,e,fz,hb,hsp⟩ : ∃ c e fz,w.heap[x.block]? = some (.cells c e fz)∧x.spot=none:=by
    unfold World.cell? at hc0
    split at hc0
    ·rename_i c e fz hb
     refine ⟨c,e,fz,hb,?_⟩
     cases hs:x.spot with
     | none=>rfl
     | some q=>rw [hs] at hc0;simp at hc0
    ·cases hc0
   have hget:∀ (j:Nat) (n:Int),zs[j]? = some n→c[x.off + j]? = some (.int .i64 n):=by
    intro j n hj
    have hjl:j < zs.length:=by
     rcases Nat.lt_or_ge j zs.length with h | h
     ·exact h
     ·rw [List.getElem?_eq_none h] at hj;cases hj
    have:=hcell j hjl
    unfold World.cell? at this
    have e1:(x.add j).block=x.block:=by unfold Addr.add;split<;>rfl
    have e2:(x.add j).off=x.off + j:=by unfold Addr.add;split<;>simp_all
    have e3:(x.add j).spot=none:=by unfold Addr.add;split<;>simp_all
    rw [e1,hb] at this
    simp only [e2,e3,Option.isSome_none,Bool.false_eq_true,if_false] at this
    rw [this];simp [List.getD_eq_getElem?_getD,hj]
   have hblt:x.block < w.heap.size:=by
    rcases Nat.lt_or_ge x.block w.heap.size with h | h
    ·exact h
    ·rw [Array.getElem?_eq_none h] at hb;cases hb
   obtain ⟨I',hle⟩:=I.block (b:=x.block) (base:=x.off) (lim:=cap * sz) (l:=(zs.take (len * sz)).map (.int .i64)) fun ι' _=>⟨hblt,c,e,fz,hb,fun j y hy=>by
    rw [List.getElem?_map,List.getElem?_take] at hy
    split at hy
    ·cases hj:zs[j]? with
     | none=>rw [hj] at hy;cases hy
     | some n=>rw [hj] at hy;simp only [Option.map_some,Option.some.injEq] at hy;subst hy;exact ⟨_,hget j n hj,rfl⟩
    ·simp at hy⟩
   refine ⟨_,_,.sl h.next 0 len (.dy sz),I',hle,⟨x.block,x.off,cap * sz,x,cap,Inj.put_at,rfl,hl,fun _=>?_,by simp [zit]⟩,hw',hlen,.inr (.inr ⟨rfl,rfl⟩)⟩
   cases x;simp_all
def Recs (sz:Nat) (h:Heap) (x:CV) (n:Nat) (l:List Int):Prop :=
 l.length=n * sz∧((x = .nils∧n=0)∨∃ i o c,x = .sl i o n c∧i < h.next∧∀ j v,l[j]? = some v→h.read i (o + j) 1=some [.int .i64 v])
theorem RecsIs.ext {sz:Nat} {h h':Heap} {x:CV} {n:Nat} {l:List Int} (r:RecsIs sz h x h' n l):Ext h h':=by
 obtain ⟨_,_,hr⟩:=r
 rcases hr with ⟨_,rfl,_⟩ | ⟨_,rfl,_⟩ | ⟨_,rfl⟩
 ·exact Ext.refl _
 ·exact (Ext.refl _).skip 1
 ·exact (Ext.refl _).new _
theorem Recs.ext {sz:Nat} {h h':Heap} {x:CV} {n:Nat} {l:List Int} (r:Recs sz h x n l) (e:Ext h h'):Recs sz h' x n l:=by
 refine ⟨r.1,?_⟩
 rcases r.2 with h1 | ⟨i,o,c,h1,h2,h3⟩
 ·exact .inl h1
 ·exact .inr ⟨i,o,c,h1,Nat.lt_of_lt_of_le h2 e.1,fun j v hj=>(e.read h2).trans (h3 j v hj)⟩
theorem Recs.extB {sz:Nat} {S:List Nat} {h h':Heap} {x:CV} {n:Nat} {l:List Int} (r:Recs sz h x n l) (e:ExtB S h h') (hs:∀ k,blk x=some k→k ∉ S):Recs sz h' x n l:=by
 refine ⟨r.1,?_⟩
 rcases r.2 with h1 | ⟨i,o,c,rfl,h2,h3⟩
 ·exact .inl h1
 ·refine .inr ⟨i,o,c,rfl,Nat.lt_of_lt_of_le h2 e.1,fun j v hj=>?_⟩
  have:=e.2 i h2 (hs i rfl)
  have h4:=h3 j v hj
  simp only [Heap.read] at h4 ⊢
  rw [this];exact h4
theorem Recs.len {sz:Nat} {h0 h:Heap} {x:CV} {n:Nat} {l:List Int} (r:Recs sz h0 x n l) {loc vals:List AV} {X:X} (hX:X.eval loc vals = .c x):za2 loc vals h (.len .sl X)=some (.c (.int .i64 (n:Int))):=by
 rcases r.2 with ⟨rfl,rfl⟩ | ⟨i,o,c,rfl,_,_⟩<;>simp only [za2,hX]<;>rfl
theorem Recs.sl {sz:Nat} {h:Heap} {x:CV} {n:Nat} {l:List Int} (r:Recs sz h x n l) (hn:0 < n):∃ i o c,x = .sl i o n c∧i < h.next∧∀ j k (_:j < n) (_:k < sz),h.read i (o + j * sz + k) 1=some [.int .i64 (l.getD (j * sz + k) 0)]:=by
 obtain ⟨hl,⟨_,h0⟩ | ⟨i,o,c,h1,h2,h3⟩⟩:=r
 ·omega
 ·refine ⟨i,o,c,h1,h2,fun j k hj hk=>?_⟩
  have hlt:j * sz + k < l.length:=by
   rw [hl]
   have:(j + 1) * sz≤n * sz:=Nat.mul_le_mul_right _ hj
   rw [Nat.add_mul] at this;omega
  have:=h3 (j * sz + k) l[j * sz + k] (by simp [hlt])
  rw [← Nat.add_assoc] at this
  rw [this];simp [List.getD_eq_getElem?_getD,hlt]
end Lav
namespace Lav
open Go (IntKind BinOp UnOp)
theorem zrh {m r:List CV} {o a b c:Nat} (h:cut m o a=some r) (hb:b + c≤a):cut m (o + b) c=some ((r.drop b).take c):=by
 unfold cut at h
 cases hl:Nat.ble (o + a) m.length with
 | false=>rw [hl] at h;cases h
 | true =>
  rw [hl] at h
  have hle:=Nat.le_of_ble_eq_true hl
  simp only [cond_true,Option.some.injEq] at h
  subst h
  rw [zkw (by omega),List.drop_take,List.take_take,List.drop_drop,Nat.min_eq_left (by omega)]
theorem ze5 {h:Heap} {i o a b c:Nat} {r:List CV} (hr:h.read i o a=some r) (hb:b + c≤a):h.read i (o + b) c=some ((r.drop b).take c):=by
 unfold Heap.read at *
 split at hr
 ·exact zrh hr hb
 ·exact zrh hr hb
 ·cases hr
theorem Recs.whole {sz n:Nat} {h:Heap} {x:CV} {l:List Int} (r:Recs sz h x n l) (hn:0 < n) (hsz:0 < sz):∃ i o c,x = .sl i o n c∧i < h.next∧h.read i o (n * sz)=some (l.map zb9):=by
 obtain ⟨hl,⟨_,h0⟩ | ⟨i,o,c,rfl,h2,h3⟩⟩:=r
 ·omega
 ·refine ⟨i,o,c,rfl,h2,?_⟩
  have hI:Ints h (.sl i o l.length c) l:=.inr ⟨i,o,c,rfl,h2,fun j v hj=>by rw [Nat.mul_one];exact h3 j v hj⟩
  have hs:=hI.source
  have hp:0 < l.length:=by rw [hl];exact Nat.mul_pos hn hsz
  obtain ⟨k,hk⟩ : ∃ k,l.length=k + 1:=⟨l.length - 1,by omega⟩
  rw [← hl]
  simp only [Lav.source,Nat.mul_one] at hs
  cases hr:h.read i o l.length with
  | none=>rw [hr,hk] at hs;cases hs
  | some y=>rw [hr] at hs;simp only [Option.some.injEq,Prod.mk.injEq,true_and] at hs;rw [hs]
theorem Recs.source {sz n:Nat} {h:Heap} {x:CV} {l:List Int} (r:Recs sz h x n l) (hsz:0 < sz):Lav.source h sz (.c x)=some (n,l.map zb9):=by
 by_cases hn:0 < n
 ·obtain ⟨i,o,c,rfl,_,hr⟩:=r.whole hn hsz
  simp only [Lav.source,hr]
 ·have h0:n=0:=by omega
  subst h0
  obtain ⟨hl,⟨rfl,_⟩ | ⟨i,o,c,rfl,h2,h3⟩⟩:=r
  ·have:l=[]:=List.eq_nil_of_length_eq_zero (by simpa using hl)
   subst this;rfl
  ·have:l=[]:=List.eq_nil_of_length_eq_zero (by simpa using hl)
   subst this
   simp only [Lav.source,Nat.zero_mul]
   cases hr:h.read i o 0 with
   | none=>rfl
   | some y =>
    have:=ze5 hr (b:=0) (c:=0) (by omega)
    rw [Nat.add_zero,hr] at this
    simp at this;rw [this];rfl
def SoleR (sz:Nat) (h0 h:Heap) (x:CV) (n:Nat) (l:List Int):Prop :=
 l.length=n * sz∧((x = .nils∧n=0)∨∃ i c,x = .sl i 0 n c∧(c = .dy sz∨c = .ex n)∧h.get i=some (.cells (l.map zb9))∧h0.next≤i∧i < h.next)
theorem SoleR.recs {sz n:Nat} {h0 h:Heap} {x:CV} {l:List Int} (m:SoleR sz h0 h x n l):Recs sz h x n l:=by
 obtain ⟨hl,⟨rfl,rfl⟩ | ⟨i,c,rfl,_,hg,_,hi⟩⟩:=m
 ·exact ⟨hl,.inl ⟨rfl,rfl⟩⟩
 ·exact ⟨hl,.inr ⟨i,0,c,rfl,hi,fun j v hj=>by rw [Nat.zero_add];exact zam hg (by simp [hj,zb9])⟩⟩
theorem SoleR.young {sz n:Nat} {h0 h:Heap} {x:CV} {l:List Int} (m:SoleR sz h0 h x n l):∀ k,blk x=some k→h0.next≤k:=by
 obtain ⟨_,⟨rfl,_⟩ | ⟨i,c,rfl,_,_,h1,_⟩⟩:=m<;>intro k hk<;>simp [blk] at hk
 omega
theorem SoleR.keep {sz n:Nat} {h0 h h':Heap} {x:CV} {l:List Int} (m:SoleR sz h0 h x n l) (hn:h.next≤h'.next) (hk:∀ k,k < h.next→blk x=some k→h'.get k=h.get k):SoleR sz h0 h' x n l:=by
 obtain ⟨hl,h1 | ⟨i,c,rfl,h2,hg,h3,h4⟩⟩:=m
 ·exact ⟨hl,.inl h1⟩
 ·exact ⟨hl,.inr ⟨i,c,rfl,h2,(hk i h4 rfl).trans hg,h3,Nat.lt_of_lt_of_le h4 hn⟩⟩
theorem SoleR.keepB {sz n:Nat} {S:List Nat} {h0 h h':Heap} {x:CV} {l:List Int} (m:SoleR sz h0 h x n l) (e:ExtB S h h') (hs:∀ k,blk x=some k→k ∉ S):SoleR sz h0 h' x n l:=m.keep e.1 fun k hk hb=>e.2 k hk (hs k hb)
theorem Recs.part {sz n m:Nat} {h:Heap} {i o:Nat} {c:Cap} {l:List Int} (hx:Recs sz h (.sl i o m c) n l) (a k:Nat) (hk:a + k≤n) (c':Cap):Recs sz h (.sl i (o + a * sz) k c') k ((l.drop (a * sz)).take (k * sz)):=by
 obtain ⟨hl,⟨h1,_⟩ | ⟨i',o2,c2,h1,h2,h3⟩⟩:=hx
 ·cases h1
 ·cases h1
  have hle:a * sz + k * sz≤l.length:=by rw [hl,← Nat.add_mul];exact Nat.mul_le_mul_right _ hk
  refine ⟨by simp;omega,.inr ⟨_,o + a * sz,c',rfl,h2,fun j v hj=>?_⟩⟩
  rw [List.getElem?_take] at hj
  split at hj
  ·rw [List.getElem?_drop] at hj
   rw [Nat.add_assoc];exact h3 _ _ hj
  ·cases hj
def bits (n:Nat) (f:Nat→Bool):List CV:=(List.range n).map fun j=>.bool (f j)
section
variable {call:Nat→List AV→Heap→Option (AV × Heap)} {loc vals:List AV} {h cur:Heap} {n j k:Nat} {l r:List Inst} {ks:List (Nat × Heap)} {news:List (Nat × Nat × Blk)}
end
end Lav
namespace Lav
open Go
inductive CK where
 | int
 | bool
 | bytes
 deriving DecidableEq
def Flat (P:Program):Nat→TypeId→List CK→Prop
 | 0,t,ks=>(P.underlying t=some (.int .i64)∧ks=[.int])∨(P.underlying t=some .bool∧ks=[.bool])∨(∃ e,P.underlying t=some (.slice e)∧P.underlying e=some (.int .u8)∧P.cellsOf e=1∧ks=[.bytes])
 | d + 1,t,ks=>Flat P d t ks∨∃ fs,P.underlying t=some (.struct fs)∧P.cellsOf t=ks.length∧∀ j k,ks[j]? = some k→∃ (i:Nat) (f:Field) (j':Nat) (ks':List CK),fs[i]? = some f∧j=f.offset + j'∧P.cellsOf f.type=ks'.length∧ks'[j']? = some k∧Flat P d f.type ks'
theorem Flat.int {P:Program} {t:TypeId} (h:P.underlying t=some (.int .i64)):Flat P 0 t [.int]:=.inl ⟨h,rfl⟩
theorem Flat.bool {P:Program} {t:TypeId} (h:P.underlying t=some .bool):Flat P 0 t [.bool]:=.inr (.inl ⟨h,rfl⟩)
theorem Flat.bytes {P:Program} {t e:TypeId} (h:P.underlying t=some (.slice e)) (he:P.underlying e=some (.int .u8)) (hc:P.cellsOf e=1):Flat P 0 t [.bytes]:=.inr (.inr ⟨e,h,he,hc,rfl⟩)
theorem Flat.up {P:Program} {d:Nat} {t:TypeId} {ks:List CK} (h:Flat P d t ks):Flat P (d + 1) t ks:=.inl h
section
variable {H:Type} {enc:TypeId × Value→H} {P:Program} {w:World} {base:Nat} {held:Bool}
end
def ByteRow (h:Heap) (c:CV) (l:List Int):Prop :=
 (c = .nils∧l=[])∨∃ i,c = .sl i 0 l.length (.dy 1)∧i < h.next∧(l≠[]→h.get i=some (.ro (l.map (.int .u8))))∧∀ n∈l,(Lit.int .u8 n).wf=true
def CellIs (h:Heap):CK→CV→Prop
 | .int,c=>∃ n:Int,c = .int .i64 n∧(Lit.int .i64 n).wf=true
 | .bool,c=>∃ b,c = .bool b
 | .bytes,c=>∃ l,ByteRow h c l
theorem ByteRow.ext {h h':Heap} {c:CV} {l:List Int} (r:ByteRow h c l) (e:Ext h h'):ByteRow h' c l:=by
 rcases r with h1 | ⟨i,h1,h2,h3,h4⟩
 ·exact .inl h1
 ·exact .inr ⟨i,h1,Nat.lt_of_lt_of_le h2 e.1,fun hl=>e.at_ (h3 hl) h2,h4⟩
theorem CellIs.ext {h h':Heap} {k:CK} {c:CV} (r:CellIs h k c) (e:Ext h h'):CellIs h' k c:=by
 cases k with
 | int=>exact r
 | bool=>exact r
 | bytes=>obtain ⟨l,hl⟩:=r;exact ⟨l,hl.ext e⟩
def Mix (ks:List CK) (h:Heap) (x:CV) (n:Nat) (cs:List CV):Prop :=
 cs.length=n * ks.length∧((x = .nils∧n=0)∨∃ i,x = .sl i 0 n (.dy ks.length)∧i < h.next∧(n≠0→h.get i=some (.ro cs))) ∧
 ∀ i j k,i < n→ks[j]? = some k→∃ c,cs[i * ks.length + j]? = some c∧CellIs h k c
theorem Mix.ext {ks:List CK} {h h':Heap} {x:CV} {n:Nat} {cs:List CV} (r:Mix ks h x n cs) (e:Ext h h'):Mix ks h' x n cs:=by
 obtain ⟨h1,h2,h3⟩:=r
 refine ⟨h1,?_,fun i j k hi hj=>let ⟨c,a,b⟩:=h3 i j k hi hj;⟨c,a,b.ext e⟩⟩
 rcases h2 with h2 | ⟨i,a,b,c⟩
 ·exact .inl h2
 ·exact .inr ⟨i,a,Nat.lt_of_lt_of_le b e.1,fun hn=>e.at_ (c hn) b⟩
theorem Mix.len {ks:List CK} {h0 h:Heap} {x:CV} {n:Nat} {cs:List CV} (r:Mix ks h0 x n cs) {loc vals:List AV} {X:X} (hX:X.eval loc vals = .c x):za2 loc vals h (.len .sl X)=some (.c (.int .i64 (n:Int))):=by
 rcases r.2.1 with ⟨rfl,rfl⟩ | ⟨i,rfl,_,_⟩<;>simp only [za2,hX]<;>rfl
theorem Mix.sl {ks:List CK} {h:Heap} {x:CV} {n:Nat} {cs:List CV} (r:Mix ks h x n cs) (hn:0 < n):∃ b,x = .sl b 0 n (.dy ks.length)∧b < h.next∧h.get b=some (.ro cs):=by
 rcases r.2.1 with ⟨_,h0⟩ | ⟨i,h1,h2,h3⟩
 ·omega
 ·exact ⟨i,h1,h2,h3 (by omega)⟩
end Lav
set_option maxRecDepth 100000
namespace Lav
open Go (IntKind)
def Bytes (h:Heap) (x:CV) (bs:List (BitVec 8)):Prop :=
 (x = .nils∧bs=[])∨∃ i o c,x = .sl i o bs.length c∧i < h.next∧∀ j b,bs[j]? = some b→h.read i (o + j * 1) 1=some [.int .u8 (b.toNat:Int)]
def u8c (b:BitVec 8):CV:=.int .u8 (b.toNat:Int)
def u8s (bs:List (BitVec 8)):List CV:=bs.map u8c
theorem zj6 (bs:List (BitVec 8)):(u8s bs).length=bs.length:=by simp [u8s]
theorem Bytes.ext {h h':Heap} {x:CV} {bs:List (BitVec 8)} (hx:Bytes h x bs) (e:Ext h h'):Bytes h' x bs:=by
 rcases hx with h1 | ⟨i,o,c,h1,h2,h3⟩
 ·exact .inl h1
 ·exact .inr ⟨i,o,c,h1,Nat.lt_of_lt_of_le h2 e.1,fun j b hj=>(e.read h2).trans (h3 j b hj)⟩
theorem Bytes.len {h h0:Heap} {x:CV} {bs:List (BitVec 8)} (hx:Bytes h0 x bs) {loc vals:List AV} {X':X} (hX:X'.eval loc vals = .c x):za2 loc vals h (.len .sl X')=some (.c (.int .i64 (bs.length:Int))):=by
 rcases hx with ⟨rfl,rfl⟩ | ⟨i,o,c,rfl,_,_⟩<;>simp only [za2,hX]<;>rfl
theorem bytes_at {h:Heap} {i o n:Nat} {c:Cap} {bs:List (BitVec 8)} (hi:i < h.next) (hg:h.get i=some (.cells (u8s bs))) (hn:n=bs.length - o):Bytes h (.sl i o n c) (bs.drop o):=by
 refine .inr ⟨i,o,c,by rw [hn,List.length_drop],hi,fun j b hj=>?_⟩
 rw [Nat.mul_one]
 refine zam hg ?_
 rw [List.getElem?_drop] at hj
 simp [u8s,hj,u8c]
theorem Bytes.source {h:Heap} {x:CV} {bs:List (BitVec 8)} (hx:Bytes h x bs):source h 1 (.c x)=some (bs.length,u8s bs):=by
 rcases hx with ⟨rfl,rfl⟩ | ⟨i,o,c,rfl,hi,hr⟩
 ·rfl
 ·by_cases h0:bs=[]
  ·subst h0
   simp only [Lav.source,List.length_nil,Nat.zero_mul]
   cases hr0:h.read i o 0 with
   | none=>rfl
   | some l =>
    have:l=[]:=by
     have key:∀ m,cut m o 0=some l→l=[]:=fun m hm=>by
      unfold cut at hm
      cases hc:Nat.ble (o + 0) m.length with
      | false=>rw [hc] at hm;cases hm
      | true=>rw [hc] at hm;simp at hm;exact hm
     unfold Heap.read at hr0
     split at hr0
     ·exact key _ hr0
     ·exact key _ hr0
     ·cases hr0
    subst this;rfl
  ·have hpos:0 < bs.length:=List.length_pos_iff.2 h0
   have key:∀ m:List CV,(∀ j b,bs[j]? = some b→cut m (o + j * 1) 1=some [u8c b])→cut m o (bs.length * 1)=some (u8s bs):=by
    intro m hm
    have cut1:∀ p v,cut m p 1=some [v]→p < m.length∧m[p]? = some v:=by
     intro p v hc
     unfold cut at hc
     cases hb:Nat.ble (p + 1) m.length with
     | false=>rw [hb] at hc;cases hc
     | true =>
      rw [hb] at hc
      have hl:p + 1≤m.length:=Nat.le_of_ble_eq_true hb
      simp only [cond_true,Option.some.injEq] at hc
      rw [List.drop_eq_getElem_cons (by omega),List.take_succ_cons,List.take_zero] at hc
      simp only [List.cons.injEq,and_true] at hc
      exact ⟨by omega,by rw [List.getElem?_eq_getElem (by omega),hc]⟩
    have hlast:=(cut1 _ _ (hm (bs.length - 1) bs[bs.length - 1] (by simp))).1
    rw [Nat.mul_one,zkw (by omega)]
    congr 1
    apply List.ext_getElem?
    intro j
    rcases Nat.lt_or_ge j bs.length with hj | hj
    ·have:=(cut1 _ _ (hm j bs[j] (by simp [hj]))).2
     rw [Nat.mul_one] at this
     rw [List.getElem?_take,if_pos hj,List.getElem?_drop,this];simp [hj,u8s]
    ·rw [List.getElem?_take,if_neg (by omega),List.getElem?_eq_none (by simp [u8s];omega)]
   have whole:h.read i o (bs.length * 1)=some (u8s bs):=by
    unfold Heap.read at hr ⊢
    cases hg:h.get i with
    | none=>have:=hr 0 bs[0] (by simp [hpos]);simp [hg] at this
    | some b =>
     cases b with
     | cells m=>simp only [hg] at hr ⊢;exact key m hr
     | ro m=>simp only [hg] at hr ⊢;exact key m hr
     | chan c m=>have:=hr 0 bs[0] (by simp [hpos]);simp [hg] at this
     | map c m=>have:=hr 0 bs[0] (by simp [hpos]);simp [hg] at this
   simp only [Lav.source,whole]
def strOf (bs:List (BitVec 8)):List Nat:=bs.map BitVec.toNat
theorem zlt:∀ {a b:List (BitVec 8)},strOf a=strOf b→a=b
 | [],[],_=>rfl
 | x :: a,y :: b,h=>by
  simp only [strOf,List.map_cons,List.cons.injEq] at h
  rw [BitVec.eq_of_toNat_eq h.1,zlt (a:=a) (b:=b) h.2]
 | [],_ :: _,h=>by simp [strOf] at h
 | _ :: _,[],h=>by simp [strOf] at h
theorem zjr (a b:List (BitVec 8)):(strOf a == strOf b)=decide (a=b):=by
 by_cases h:a=b
 ·subst h;simp
 ·rw [decide_eq_false h]
  simp only [beq_eq_false_iff_ne,ne_eq]
  exact fun e=>h (zlt e)
theorem zjx:∀ (bs:List (BitVec 8)),bytesOf (u8s bs)=some (strOf bs)
 | []=>rfl
 | b :: bs=>by
  have hb:Nat.blt b.toNat 256=true:=Nat.ble_eq_true_of_le b.isLt
  have:=zjx bs
  show bytesOf (.int .u8 (.ofNat b.toNat) :: u8s bs)=_
  simp only [bytesOf,hb,cond_true,this];rfl
theorem zlu {loc vals:List AV} {h:Heap} {X':X} {i o n:Nat} {c:Cap} {bs:List (BitVec 8)} (hX:X'.eval loc vals = .c (.sl i o n c)) (hr:h.read i o n=some (u8s bs)):za2 loc vals h (.b2s X')=some (.c (.str (strOf bs))):=by
 simp only [za2,hX,hr,zjx]
theorem zl5 {h:Heap} {i o n:Nat} {bs:List (BitVec 8)} (hg:h.get i=some (.cells (u8s bs))) (hn:o + n=bs.length):h.read i o n=some (u8s (bs.drop o)):=by
 rw [zdi hg (by rw [zj6];omega)]
 congr 1
 rw [List.take_of_length_le (by simp [u8s];omega)]
 simp [u8s,List.map_drop]
theorem zo1 (a b:List (BitVec 8)):strOf (a++b)=strOf a++strOf b:=by simp [strOf]
theorem zeg (a:List (BitVec 8)):(strOf a).length=a.length:=by simp [strOf]
theorem zri (a b:List (BitVec 8)):u8s (a++b)=u8s a++u8s b:=by simp [u8s]
theorem u8_of {a:Int} (h:(Go.Lit.int .u8 a).wf=true):∃ b:BitVec 8,a=(b.toNat:Int):=by
 have hb:0≤a∧a < 256:=by
  simp only [Go.Lit.wf,IntKind.min,IntKind.max,IntKind.bits,IntKind.signed] at h
  simp at h
  omega
 refine ⟨BitVec.ofNat 8 a.toNat,?_⟩
 simp only [BitVec.toNat_ofNat]
 omega
theorem zt5:∀ {l:List Int},(∀ n∈l,(Go.Lit.int .u8 n).wf=true)→∃ bs:List (BitVec 8),l=bs.map fun b=>(b.toNat:Int)
 | [],_=>⟨[],rfl⟩
 | n :: l,h=>by
  obtain ⟨b,hb⟩:=u8_of (h n (by simp))
  obtain ⟨bs,hbs⟩:=zt5 (l:=l) (fun m hm=>h m (by simp [hm]))
  exact ⟨b :: bs,by rw [hb,hbs];rfl⟩
def zhy (B bs:List (BitVec 8)) (off:Nat):List (BitVec 8):=B.take off++bs++B.drop (off + bs.length)
theorem zt6 {B bs:List (BitVec 8)} {off:Nat} (h:off + bs.length≤B.length):(zhy B bs off).length=B.length:=by
 simp [zhy];omega
theorem znw:∀ n:Nat,zeros n [.int .u8 0]=u8s (List.replicate n 0#8)
 | 0=>rfl
 | n + 1=>by simp only [zeros,znw n,List.replicate_succ,u8s,List.map_cons,u8c];rfl
end Lav
set_option maxRecDepth 100000
namespace Lav
open Go (IntKind)
section
variable {h:Heap} {n bx o:Nat} {cc:Cap} {xs:List Int}
theorem Recs.at_ {sz:Nat} (hx:Recs sz h (.sl bx o n cc) n xs) {i k:Nat} (hi:i < n) (hk:k < sz):h.read bx (o + i * sz + k) 1=some [.int .i64 (xs.getD (i * sz + k) 0)]:=by
 obtain ⟨i',o',c',e,_,r⟩:=hx.sl (by omega)
 cases e
 exact r i k hi hk
theorem Recs.lt {sz:Nat} (hx:Recs sz h (.sl bx o n cc) n xs) (hn:0 < n):bx < h.next:=by
 obtain ⟨i',o',c',e,h1,_⟩:=hx.sl hn
 cases e
 exact h1
end
theorem Recs.is {sz:Nat} {h:Heap} {x:CV} {n:Nat} {l:List Int} (r:Recs sz h x n l):(x = .nils∧n=0)∨∃ i o c,x = .sl i o n c∧i < h.next:=by
 rcases r.2 with ⟨rfl,h⟩ | ⟨i,o,c,rfl,hi,_⟩
 ·exact .inl ⟨rfl,h⟩
 ·exact .inr ⟨i,o,c,rfl,hi⟩
end Lav
set_option maxRecDepth 100000
namespace Lav
open Go (IntKind)
section
variable {h:Heap} {n:Nat} {x:CV} {cs:List CV} {ks:List CK}
theorem Mix.cell (r:Mix ks h x n cs) {b i j:Nat} {k:CK} (hg:h.get b=some (.ro cs)) (hi:i < n) (hj:ks[j]? = some k):∃ c,h.read b (i * ks.length + j) 1=some [c]∧CellIs h k c:=by
 obtain ⟨c,hc,hk⟩:=r.2.2 i j k hi hj
 exact ⟨c,zxp hg hc,hk⟩
theorem Mix.int (r:Mix ks h x n cs) {b i j:Nat} (hg:h.get b=some (.ro cs)) (hi:i < n) (hj:ks[j]? = some .int):∃ v:Int,h.read b (i * ks.length + j) 1=some [.int .i64 v]:=by
 obtain ⟨c,hc,v,rfl,_⟩:=r.cell hg hi hj
 exact ⟨v,hc⟩
theorem Mix.bool (r:Mix ks h x n cs) {b i j:Nat} (hg:h.get b=some (.ro cs)) (hi:i < n) (hj:ks[j]? = some .bool):∃ v,h.read b (i * ks.length + j) 1=some [.bool v]:=by
 obtain ⟨c,hc,v,rfl⟩:=r.cell hg hi hj
 exact ⟨v,hc⟩
theorem Mix.bytes (r:Mix ks h x n cs) {b i j:Nat} (hg:h.get b=some (.ro cs)) (hi:i < n) (hj:ks[j]? = some .bytes):∃ c l,h.read b (i * ks.length + j) 1=some [c]∧ByteRow h c l:=by
 obtain ⟨c,hc,l,hl⟩:=r.cell hg hi hj
 exact ⟨c,l,hc,hl⟩
end
theorem zdm {call:Nat→List AV→Heap→Option (AV × Heap)} {N n:Nat} {keep:List Bool} {body:IR} {h:Heap} {C:List AV} {Post:Ex × List AV × Heap→Prop}
  (H:∀ loc,zb3 keep loc=C→∃ r,zc5 call N keep body n loc h=some r∧Post r) (h0:zb3 keep C=C) (hn:0 < n:=by omega):∃ r,Post r∧∀ loc,zb3 keep loc=C→zc5 call N keep body n loc h=some r:=by
 obtain ⟨n,rfl⟩ : ∃ k,n=k + 1:=⟨n - 1,by omega⟩
 obtain ⟨r,hr,hp⟩:=H C h0
 refine ⟨r,hp,fun loc hl=>?_⟩
 rw [← hr,zfu,zfu,hl,h0]
theorem Ext.own {h G G':Heap} {S:List Nat} (xg:Ext h G) (x':ExtB S G G') (y:∀ k∈S,h.next≤k):Ext h G' :=
 ⟨Nat.le_trans xg.1 x'.1,fun k hk=>(x'.2 k (Nat.lt_of_lt_of_le hk xg.1) fun hm=>by have:=y k hm;omega).trans (xg.2 k hk)⟩
end Lav
set_option maxRecDepth 100000
namespace Lav
open Go (IntKind)
abbrev OS:Over:=zl3 82 178 196
structure MS where
 th:List Bool
 bd:List (List (BitVec 8))
 hs:List (List Int)
structure SP where
 t:Nat
 b:Nat
 hh:Nat
 hi:List Nat
 ct:Cap
 cb:Cap
 ch:Cap
def SP.own (z:SP):List Nat:=z.t :: z.b :: z.hh :: z.hi
def SP.hj (z:SP) (i:Nat):Nat:=z.hi.getD i 0
def MS.hg (s:MS) (i:Nat):List Int:=s.hs.getD i []
def zgz (l:List (BitVec 8)):CV:=.str (strOf l)
structure SR (h:Heap) (x:List CV) (z:SP) (s:MS):Prop where
 xe:x=[.sl z.t 0 s.th.length z.ct,.sl z.b 0 s.th.length z.cb,.sl z.hh 0 s.hs.length z.ch]
 t:h.get z.t=some (.cells (s.th.map zfb))
 b:h.get z.b=some (.cells (s.bd.map zgz))
 hh:h.get z.hh=some (.cells (z.hi.map fun i=>.sl i 0 6 (.ex 6)))
 hl:z.hi.length=s.hs.length
 hi:∀ i,i < s.hs.length→h.get (z.hj i)=some (.cells ((s.hg i).map zb9))∧(s.hg i).length=6
 lt:∀ j∈z.own,j < h.next
 nd:z.own.Nodup
 len:s.bd.length=s.th.length
 bl:∀ l∈s.bd,l.length=16
 few:s.th.length≤48
 fewh:s.hs.length≤6
 hv:∀ l∈s.hs,∀ v∈l,v < (s.th.length:Int)
section
variable {N d:Nat} {h:Heap} {x:List CV} {z:SP} {s:MS}
theorem SR.at_hi (S:SR h x z s) {i:Nat} (hi:i < s.hs.length):z.hj i∈z.hi:=by
 unfold SP.hj
 have:i < z.hi.length:=by rw [S.hl];exact hi
 simp [List.getD_eq_getElem?_getD,this]
theorem SR.extB {h':Heap} {L:List Nat} (S:SR h x z s) (e:ExtB L h h') (hd:∀ j∈z.own,j ∉ L):SR h' x z s:=by
 have k:∀ j∈z.own,∀ {b},h.get j=some b→h'.get j=some b:=fun j hj b hb=>e.at_ hb (S.lt j hj) (hd j hj)
 exact ⟨S.xe,k _ (by simp [SP.own]) S.t,k _ (by simp [SP.own]) S.b,k _ (by simp [SP.own]) S.hh,S.hl,fun i hi=>⟨k _ (by simp [SP.own,S.at_hi hi]) (S.hi i hi).1,(S.hi i hi).2⟩,
  fun j hj=>Nat.lt_of_lt_of_le (S.lt j hj) e.1,S.nd,S.len,S.bl,S.few,S.fewh,S.hv⟩
theorem SR.ext {h':Heap} (S:SR h x z s) (e:Ext h h'):SR h' x z s:=S.extB (e.b []) (by simp)
theorem SR.rt (S:SR h x z s) {i:Nat} (hi:i < s.th.length):h.read z.t i 1=some [.bool (s.th.getD i false)]:=by
 refine zam S.t ?_
 simp [List.getD_eq_getElem?_getD,hi,zfb]
theorem SR.rb (S:SR h x z s) {i:Nat} (hi:i < s.th.length):h.read z.b i 1=some [.str (strOf (s.bd.getD i []))]:=by
 refine zam S.b ?_
 rw [← S.len] at hi
 simp [List.getD_eq_getElem?_getD,hi,zgz]
theorem SR.rh (S:SR h x z s) {i:Nat} (hi:i < s.hs.length):h.read z.hh i 1=some [.sl (z.hj i) 0 6 (.ex 6)]:=by
 refine zam S.hh ?_
 rw [← S.hl] at hi
 simp [SP.hj,List.getD_eq_getElem?_getD,hi]
theorem SR.rk (S:SR h x z s) {i k:Nat} (hi:i < s.hs.length) (hk:k < 6):h.read (z.hj i) k 1=some [.int .i64 ((s.hg i).getD k 0)]:=by
 obtain ⟨h1,h2⟩:=S.hi i hi
 refine zam h1 ?_
 rw [← h2] at hk
 simp [List.getD_eq_getElem?_getD,hk,zb9]
theorem SR.bl' (S:SR h x z s) {i:Nat} (hi:i < s.th.length):(s.bd.getD i []).length=16:=by
 rw [← S.len] at hi
 rw [List.getD_eq_getElem?_getD,List.getElem?_eq_getElem hi]
 exact S.bl _ (List.getElem_mem hi)
def zd7 (hs:List (List Int)) (c k:Int):Int:=if c < 0∨(hs.length:Int)≤c∨k < 0∨6≤k then -1 else (hs.getD c.toNat []).getD k.toNat 0
theorem zj7 (S:SR h x z s) (c k:Int):∃ h',evCallO OS table N (d + 1) 95 [.agg x,.c (.int .i64 c),.c (.int .i64 k)] h=some (.c (.int .i64 (zd7 s.hs c k)),h')∧Ext h h':=by
 have xe:=S.xe
 subst xe
 have e1:=(Ext.refl h).new (.cells [.sl z.t 0 s.th.length z.ct,.sl z.b 0 s.th.length z.cb,.sl z.hh 0 s.hs.length z.ch])
 have r2:(h.new (.cells [.sl z.t 0 s.th.length z.ct,.sl z.b 0 s.th.length z.cb,.sl z.hh 0 s.hs.length z.ch])).read h.next 2 1=some [.sl z.hh 0 s.hs.length z.ch]:=zam zb8 rfl
 have S':=S.ext e1
 rw [zbp (F:=ir95) rfl rfl rfl]
 unfold ir95 zd7
 rw [zbv]
 by_cases c1:c < 0
 ·have v1:decide (c < 0)=true:=decide_eq_true c1
  rw [if_pos (.inl c1)]
  simp only [zbm,zap,zac,zca,zaq,zat,zao,zbq,zad,zai,zab,zas,zae,zbd,zaf,zar,zav,zbn,za8,zc0,zdh,zbb,zbi,za6,zbe,zbh,zag,zaw,X.eval,zak,zah,List.map_cons,List.map_nil,List.getD_cons_zero,List.getD_cons_succ,List.getD_nil,List.set_cons_zero,List.set_cons_succ,zaz,zan,zaa,zaj,intArith,shift,cond_true,cond_false,BEq.rfl,AV.cells,Int.reduceNeg,Int.reduceLT,decide_false,tf,v1]
  exact ⟨_,rfl,e1⟩
 have v1:decide (c < 0)=false:=decide_eq_false c1
 obtain ⟨i,rfl⟩:=Int.eq_ofNat_of_zero_le (show 0≤c by omega)
 by_cases c2:s.hs.length≤i
 ·have v2:decide ((i:Int) ≥ (s.hs.length:Int))=true:=decide_eq_true (by omega)
  rw [if_pos (.inr (.inl (by omega)))]
  simp only [zbm,zap,zac,zca,zaq,zat,zao,zbq,zad,zai,zab,zas,zae,zbd,zaf,zar,zav,zbn,za8,zbc,za3,zc0,zdh,zbb,zbi,za6,zbe,zbh,zag,zaw,X.eval,zak,zah,List.map_cons,List.map_nil,List.getD_cons_zero,List.getD_cons_succ,List.getD_nil,List.set_cons_zero,List.set_cons_succ,zaz,zan,zaa,zaj,intArith,shift,cond_true,cond_false,BEq.rfl,AV.cells,AV.ofCells,Nat.zero_add,Int.reduceNeg,Int.reduceLT,decide_false,tf,za1,za5,za9,AV.ofCells,v1,r2,zb0,v2]
  exact ⟨_,rfl,e1⟩
 have hi:i < s.hs.length:=by omega
 have v2:decide ((i:Int) ≥ (s.hs.length:Int))=false:=decide_eq_false (by omega)
 by_cases c3:k < 0
 ·have v3:decide (k < 0)=true:=decide_eq_true c3
  rw [if_pos (.inr (.inr (.inl c3)))]
  simp only [zbm,zap,zac,zca,zaq,zat,zao,zbq,zad,zai,zab,zas,zae,zbd,zaf,zar,zav,zbn,za8,zbc,za3,zc0,zdh,zbb,zbi,za6,zbe,zbh,zag,zaw,X.eval,zak,zah,List.map_cons,List.map_nil,List.getD_cons_zero,List.getD_cons_succ,List.getD_nil,List.set_cons_zero,List.set_cons_succ,zaz,zan,zaa,zaj,intArith,shift,cond_true,cond_false,BEq.rfl,AV.cells,AV.ofCells,Nat.zero_add,Int.reduceNeg,Int.reduceLT,decide_false,tf,za1,za5,za9,AV.ofCells,v1,r2,zb0,v2,v3]
  exact ⟨_,rfl,e1⟩
 have v3:decide (k < 0)=false:=decide_eq_false c3
 have m1:Nat.blt i s.hs.length=true:=zdp hi
 have k1:=S'.rh hi
 by_cases c4:6≤k
 ·have v4:decide (k ≥ 6)=true:=decide_eq_true c4
  rw [if_pos (.inr (.inr (.inr c4)))]
  simp only [zbm,zap,zac,zca,zaq,zat,zao,zbq,zad,zai,zab,zas,zae,zaf,zar,zav,zbn,za8,zbc,za3,zbf,zc0,zdh,zbb,zbi,za6,zbe,zbh,zag,zaw,X.eval,zak,zah,List.map_cons,List.map_nil,List.getD_cons_zero,List.getD_cons_succ,List.getD_nil,List.set_cons_zero,List.set_cons_succ,zaz,zan,zaa,zaj,intArith,shift,za0,cond_true,cond_false,BEq.rfl,AV.cells,AV.ofCells,Nat.zero_add,Int.reduceNeg,Int.reduceLT,decide_false,za1,za5,za9,zbk,AV.ofCells,v1,r2,zb0,v2,v3,m1,k1,Int.cast_ofNat_Int,Nat.mul_one,v4]
  exact ⟨_,rfl,e1⟩
 have v4:decide (k ≥ 6)=false:=decide_eq_false c4
 obtain ⟨j,rfl⟩:=Int.eq_ofNat_of_zero_le (show 0≤k by omega)
 have hj:j < 6:=by omega
 have m2:Nat.blt j 6=true:=zdp hj
 have k2:=S'.rk hi hj
 rw [if_neg (by omega)]
 simp only [zbm,zap,zac,zaq,zat,zal,zax,zbq,zad,zai,zab,zas,zae,zaf,zar,zav,zbn,za8,zbc,za3,zbf,zc0,zdh,zbb,zbi,za6,zbe,zbh,zag,zaw,X.eval,zak,zah,List.map_cons,List.map_nil,List.getD_cons_zero,List.getD_cons_succ,List.getD_nil,List.set_cons_zero,List.set_cons_succ,zaz,zan,zaa,zaj,intArith,shift,za0,cond_true,cond_false,BEq.rfl,AV.cells,AV.ofCells,Nat.zero_add,Int.reduceNeg,Int.reduceLT,decide_false,za1,za5,za9,zbk,AV.ofCells,v1,r2,zb0,v2,v3,m1,k1,Int.cast_ofNat_Int,Nat.mul_one,v4,m2,k2]
 exact ⟨_,rfl,e1⟩
def zda:List Int→Nat
 | []=>0
 | a :: r=>if a < 0 then 0 else zda r + 1
theorem zqa:∀ l,zda l≤l.length
 | []=>Nat.le_refl _
 | a :: r=>by unfold zda;have:=zqa r;split<;>simp<;>omega
theorem zm1:∀ {l:List Int} {i:Nat},i < zda l→¬ l.getD i 0 < 0
 | [],i,h=>by simp [zda] at h
 | a :: r,i,h=>by
  unfold zda at h
  split at h
  ·omega
  ·cases i with
   | zero=>simpa using ‹¬ a < 0›
   | succ i=>simpa using zm1 (l:=r) (i:=i) (by omega)
theorem zm2:∀ {l:List Int},zda l < l.length→l.getD (zda l) 0 < 0
 | [],h=>by simp [zda] at h
 | a :: r,h=>by
  unfold zda at h ⊢
  split
  ·simpa
  ·rename_i hn
   rw [if_neg hn] at h
   simpa using zm2 (l:=r) (by simpa using h)
theorem zrj (S:SR h x z s) {c:Nat} (hc:c < s.hs.length) (hN:10≤N):∃ h',evCallO OS table N (d + 1) 134 [.agg x,.c (.int .i64 (c:Int))] h=some (.c (.bool (decide (zda (s.hg c) < 6))),h')∧Ext h h':=by
 have xe:=S.xe
 subst xe
 have e1:=(Ext.refl h).new (.cells [.sl z.t 0 s.th.length z.ct,.sl z.b 0 s.th.length z.cb,.sl z.hh 0 s.hs.length z.ch])
 generalize hg:h.new (.cells [.sl z.t 0 s.th.length z.ct,.sl z.b 0 s.th.length z.cb,.sl z.hh 0 s.hs.length z.ch])=H at e1
 have r2:H.read h.next 2 1=some [.sl z.hh 0 s.hs.length z.ch]:=by rw [← hg];exact zam zb8 rfl
 have S':=S.ext e1
 have h6:=(S.hi c hc).2
 have m1:Nat.blt c s.hs.length=true:=zdp hc
 have k1:=S'.rh hc
 have L:∀ loc,zb3 ir134_k0 loc=[.junk,.c (.int .i64 (c:Int)),.c (.ptr h.next 0),.junk,.c (.int .i64 0),.junk,.junk] →
   ∃ r,zc5 (evCallO OS table N d) N ir134_k0 ir134_l0 N loc H=some r∧((zda (s.hg c)=6∧∃ a b e q l,r=(.exit 0,a :: b :: e :: q :: l,H))∨(zda (s.hg c) < 6∧∃ a b e l,r=(.ret,a :: b :: e :: .c (.bool true) :: l,H))):=by
  intro loc hloc
  refine zde (n:=6) (fun i loc G=>G=H∧i≤zda (s.hg c)∧loc=[.junk,.c (.int .i64 (c:Int)),.c (.ptr h.next 0),.junk,.c (.int .i64 (i:Int)),.junk,.junk]) _ ?_ ⟨rfl,Nat.zero_le _,hloc⟩ (by omega)
  rintro i loc G hi ⟨rfl,hf,rfl⟩
  unfold ir134_l0
  by_cases hlt:i < 6
  ·have v1:decide ((i:Int) < 6)=true:=decide_eq_true (by omega)
   have v2:=zeb (i:=i) (by omega)
   have m2:Nat.blt i 6=true:=zdp hlt
   have k2:=S'.rk hc hlt
   by_cases hneg:(s.hg c).getD i 0 < 0
   ·right
    have v3:decide ((s.hg c).getD i 0 < 0)=true:=decide_eq_true hneg
    simp only [zap,zac,zca,zaq,zat,zao,zau,zc8,zax,zbq,zad,zai,zab,zae,zaf,zar,zav,zbc,za3,zbf,za6,zag,X.eval,zak,zah,List.getD_cons_zero,List.getD_cons_succ,List.set_cons_zero,List.set_cons_succ,zaz,zan,zaa,zaj,intArith,shift,za0,cond_true,cond_false,BEq.rfl,AV.ofCells,Nat.zero_add,Int.reduceLT,decide_false,za1,za5,za9,zbk,AV.ofCells,r2,m1,k1,Nat.mul_one,zb0,Int.cast_ofNat_Int,v1,m2,k2,v3]
    refine ⟨_,rfl,by simp,.inr ⟨?_,_,_,_,_,rfl⟩⟩
    exact Classical.byContradiction fun hn=>zm1 (i:=i) (l:=s.hg c) (by omega) hneg
   ·left
    have v3:decide ((s.hg c).getD i 0 < 0)=false:=decide_eq_false hneg
    simp only [zap,zac,zaq,zat,zao,zal,zau,zay,zax,zad,zai,zab,zae,zaf,zar,zav,zbc,za3,zbf,za6,zag,X.eval,zak,zah,List.getD_cons_zero,List.getD_cons_succ,List.set_cons_zero,List.set_cons_succ,zaz,zan,zaa,zaj,intArith,shift,za0,cond_true,cond_false,BEq.rfl,AV.ofCells,Nat.zero_add,Int.reduceLT,decide_false,za1,za5,za9,zbk,AV.ofCells,r2,m1,k1,Nat.mul_one,zb0,Int.cast_ofNat_Int,v1,m2,k2,v3,v2]
    refine ⟨hlt,_,_,rfl,rfl,?_,rfl⟩
    rcases Nat.lt_or_ge i (zda (s.hg c)) with hl | hl
    ·exact hl
    ·have:zda (s.hg c)=i:=by omega
     exact absurd (zm2 (l:=s.hg c) (by omega)) (by rw [this];exact hneg)
  ·right
   have:i=6:=by omega
   subst this
   have v1:decide (((6:Nat):Int) < 6)=false:=decide_eq_false (by omega)
   have:=zqa (s.hg c)
   simp only [zap,zac,zck,zaq,zat,zal,zc2,zad,zai,zab,zae,zaf,zar,zav,zbc,za3,zbf,za6,zag,X.eval,zak,zah,List.getD_cons_zero,List.getD_cons_succ,List.set_cons_zero,List.set_cons_succ,zaz,zan,zaa,zaj,intArith,shift,za0,cond_true,cond_false,BEq.rfl,AV.ofCells,Nat.zero_add,Int.reduceLT,decide_false,za1,za5,za9,zbk,AV.ofCells,r2,m1,k1,Nat.mul_one,zb0,Int.cast_ofNat_Int]
   exact ⟨_,rfl,by simp,.inl ⟨by omega,_,_,_,_,_,rfl⟩⟩
 obtain ⟨r,hp,hr⟩:=zdm L rfl
 rw [zbp (F:=ir134) rfl rfl rfl]
 unfold ir134
 rw [zbv]
 simp only [zbm,zap,zac,zaq,zau,zci,zad,zai,zab,zae,zaf,zar,zbn,zbh,zaw,X.eval,zah,List.map_cons,List.map_nil,List.getD_cons_zero,List.getD_cons_succ,List.getD_nil,List.set_cons_zero,List.set_cons_succ,AV.cells,hg]
 rw [hr _ rfl]
 rcases hp with ⟨h1,a,b,e,q,l,rfl⟩ | ⟨h1,a,b,e,l,rfl⟩
 ·have:decide (zda (s.hg c) < 6)=false:=decide_eq_false (by omega)
  simp only [zap,zac,zaq,zbw,zbq,zad,zai,zab,zae,zaf,zar,zdh,zbb,zbi,X.eval,zah,List.getD_cons_zero,List.getD_cons_succ,List.set_cons_zero,List.set_cons_succ,cond_true,BEq.rfl,zbu,this]
  exact ⟨_,rfl,e1⟩
 ·have:decide (zda (s.hg c) < 6)=true:=decide_eq_true h1
  simp only [zca,zc8,zdh,zbb,zbi,List.getD_cons_zero,List.getD_cons_succ,zbu,this]
  exact ⟨_,rfl,e1⟩
def MS.setH (s:MS) (c i:Nat) (v:Int):MS:={ s with hs:=s.hs.set c ((s.hg c).set i v) }
theorem SR.inj (S:SR h x z s) {i j:Nat} (hi:i < s.hs.length) (hj:j < s.hs.length) (e:z.hj i=z.hj j):i=j:=by
 have n:=S.nd
 simp only [SP.own,List.nodup_cons] at n
 have a:=S.hl
 have:z.hi[i]'(by omega)=z.hi[j]'(by omega):=by simpa [SP.hj,List.getD_eq_getElem?_getD,a,hi,hj] using e
 exact (List.getElem_inj n.2.2.2).1 this
theorem SR.setH (S:SR h x z s) {c i:Nat} (hc:c < s.hs.length) (v:Int) (hv:v < (s.th.length:Int)):SR (h.put (z.hj c) (.cells (((s.hg c).set i v).map zb9))) x z (s.setH c i v):=by
 have n:=S.nd
 simp only [SP.own,List.nodup_cons,List.mem_cons,not_or] at n
 obtain ⟨⟨n1,n2,n3⟩,⟨n4,n5⟩,n6,n7⟩:=n
 have hm:=S.at_hi hc
 have xe:=S.xe
 have ne:∀ j∈[z.t,z.b,z.hh],j≠z.hj c:=by
  intro j hj e
  simp only [List.mem_cons,List.not_mem_nil,or_false] at hj
  rcases hj with rfl | rfl | rfl
  ·exact n3 (e ▸ hm)
  ·exact n5 (e ▸ hm)
  ·exact n6 (e ▸ hm)
 refine ⟨by rw [xe];simp [MS.setH],(zcl (ne _ (by simp))).trans S.t,(zcl (ne _ (by simp))).trans S.b,(zcl (ne _ (by simp))).trans S.hh,by simp [MS.setH,S.hl],fun j hj=>?_,S.lt,S.nd,S.len,S.bl,S.few,by simpa [MS.setH] using S.fewh,fun l hl w hw=>?_⟩
 rotate_left
 ·have hg:s.hg c∈s.hs:=by
   have:s.hg c=s.hs[c]:=by simp [MS.hg,List.getD_eq_getElem?_getD,hc]
   rw [this];exact List.getElem_mem hc
  rcases List.mem_or_eq_of_mem_set hl with hl | rfl
  ·exact S.hv l hl w hw
  ·rcases List.mem_or_eq_of_mem_set hw with hw | rfl
   ·exact S.hv _ hg w hw
   ·exact hv
 have hj':j < s.hs.length:=by simpa [MS.setH] using hj
 by_cases e:j=c
 ·subst e
  have:(s.setH j i v).hg j=(s.hg j).set i v:=by simp [MS.setH,MS.hg,List.getD_eq_getElem?_getD,hc]
  rw [this]
  exact ⟨zc9,by rw [List.length_set];exact (S.hi j hc).2⟩
 ·have:(s.setH c i v).hg j=s.hg j:=by simp [MS.setH,MS.hg,List.getD_eq_getElem?_getD,List.getElem?_set_ne (Ne.symm e)]
  rw [this]
  exact ⟨(zcl fun q=>e (S.inj hj' hc q)).trans (S.hi j hj').1,(S.hi j hj').2⟩
theorem zrk (S:SR h x z s) {c:Nat} (hc:c < s.hs.length) (g:Int) (hgl:g < (s.th.length:Int)) (hf:zda (s.hg c) < 6) (hN:10≤N) :
  ∃ h',evCallO OS table N (d + 1) 135 [.agg x,.c (.int .i64 (c:Int)),.c (.int .i64 g)] h=some (.c (.int .i64 (zda (s.hg c):Int)),h')∧SR h' x z (s.setH c (zda (s.hg c)) g)∧ExtB z.hi h h':=by
 have xe:=S.xe
 have e1:=(Ext.refl h).new (.cells x)
 generalize hg:h.new (.cells x)=H at e1
 have r2:H.read h.next 2 1=some [.sl z.hh 0 s.hs.length z.ch]:=by rw [← hg];exact zam zb8 (by rw [xe];rfl)
 have S':=S.ext e1
 have h6:=(S.hi c hc).2
 have m1:Nat.blt c s.hs.length=true:=zdp hc
 have k1:=S'.rh hc
 have L:∀ loc,zb3 ir135_k0 loc=[.junk,.c (.int .i64 (c:Int)),.c (.int .i64 g),.c (.ptr h.next 0),.junk,.c (.int .i64 0),.junk,.junk] →
   ∃ r,zc5 (evCallO OS table N d) N ir135_k0 ir135_l0 N loc H=some r∧∃ a b e q l G,r=(.ret,a :: b :: e :: q :: .c (.int .i64 (zda (s.hg c):Int)) :: l,G)∧SR G x z (s.setH c (zda (s.hg c)) g)∧ExtB z.hi H G:=by
  intro loc hloc
  refine zde (n:=6) (fun i loc G=>G=H∧i≤zda (s.hg c)∧loc=[.junk,.c (.int .i64 (c:Int)),.c (.int .i64 g),.c (.ptr h.next 0),.junk,.c (.int .i64 (i:Int)),.junk,.junk]) _ ?_ ⟨rfl,Nat.zero_le _,hloc⟩ (by omega)
  rintro i loc G hi ⟨rfl,hle,rfl⟩
  unfold ir135_l0
  have hlt:i < 6:=by omega
  have v1:decide ((i:Int) < 6)=true:=decide_eq_true (by omega)
  have v2:=zeb (i:=i) (by omega)
  have m2:Nat.blt i 6=true:=zdp hlt
  have k2:=S'.rk hc hlt
  by_cases hneg:(s.hg c).getD i 0 < 0
  ·right
   have v3:decide ((s.hg c).getD i 0 < 0)=true:=decide_eq_true hneg
   have he:i=zda (s.hg c):=by
    have : ¬ i < zda (s.hg c):=fun hn=>zm1 (i:=i) (l:=s.hg c) hn hneg
    omega
   have w:G.write (z.hj c) i [.int .i64 g]=some (G.put (z.hj c) (.cells (((s.hg c).set i g).map zb9))):=by
    rw [zef (S'.hi c hc).1 (by simp;omega)]
    simp [List.map_set,zb9]
   simp only [zap,zac,zca,zaq,zat,zao,zau,zc8,zax,zbq,zad,zai,zab,zae,zaf,zar,zav,zbc,za3,zbf,zbg,za6,zag,X.eval,zak,zah,List.getD_cons_zero,List.getD_cons_succ,List.set_cons_zero,List.set_cons_succ,zaz,zan,zaa,zaj,intArith,shift,za0,cond_true,cond_false,BEq.rfl,AV.cells,AV.ofCells,List.length_cons,List.length_nil,Nat.zero_add,Int.reduceLT,decide_false,za1,za5,za9,zbk,AV.ofCells,r2,m1,k1,Nat.mul_one,zb0,Int.cast_ofNat_Int,v1,m2,k2,v3,zbl,w]
   refine ⟨_,rfl,by simp,_,_,_,_,_,_,by rw [he],?_,?_⟩
   ·rw [← he];exact S'.setH hc g hgl
   ·exact (ExtB.refl _ _).put (.inr (S.at_hi hc)) _
  ·left
   have v3:decide ((s.hg c).getD i 0 < 0)=false:=decide_eq_false hneg
   simp only [zap,zac,zaq,zat,zao,zal,zau,zay,zax,zad,zai,zab,zae,zaf,zar,zav,zbc,za3,zbf,za6,zag,X.eval,zak,zah,List.getD_cons_zero,List.getD_cons_succ,List.set_cons_zero,List.set_cons_succ,zaz,zan,zaa,zaj,intArith,shift,za0,cond_true,cond_false,BEq.rfl,AV.ofCells,Nat.zero_add,Int.reduceLT,decide_false,za1,za5,za9,zbk,AV.ofCells,r2,m1,k1,Nat.mul_one,zb0,Int.cast_ofNat_Int,v1,m2,k2,v3,v2]
   refine ⟨hlt,_,_,rfl,rfl,?_,rfl⟩
   rcases Nat.lt_or_ge i (zda (s.hg c)) with hl | hl
   ·exact hl
   ·have:zda (s.hg c)=i:=by omega
    exact absurd (zm2 (l:=s.hg c) (by omega)) (by rw [this];exact hneg)
 obtain ⟨r,hp,hr⟩:=zdm L rfl
 rw [zbp (F:=ir135) rfl rfl rfl]
 unfold ir135
 rw [zbv]
 simp only [zbm,zap,zac,zaq,zau,zci,zad,zai,zab,zae,zaf,zar,zbn,zbh,zaw,X.eval,zah,List.map_cons,List.map_nil,List.getD_cons_zero,List.getD_cons_succ,List.getD_nil,List.set_cons_zero,List.set_cons_succ,AV.cells,Int.reduceNeg,hg]
 rw [hr _ rfl]
 obtain ⟨a,b,e,q,l,G,rfl,h1,h2⟩:=hp
 simp only [zca,zc8,zdh,zbb,zbi,List.getD_cons_zero,List.getD_cons_succ,Int.reduceNeg,zbu]
 exact ⟨_,rfl,h1,(e1.b _).trans h2⟩
def cntF (l:List Int) (g:Int):Nat:=(l.filter fun a=>a == g && decide (g ≥ 0)).length
def zer (hs:List (List Int)) (g:Int):Nat:=(hs.map fun l=>cntF l g).sum
theorem zt7 {l:List Int} {g:Int} {i:Nat} (hi:i < l.length):cntF (l.take (i + 1)) g=cntF (l.take i) g + if (l.getD i 0 == g && decide (g ≥ 0))=true then 1 else 0:=by
 unfold cntF
 rw [List.take_succ_eq_append_getElem hi,List.filter_append,List.length_append,List.getD_eq_getElem?_getD,List.getElem?_eq_getElem hi]
 congr 1
 simp only [List.filter_cons,List.filter_nil,Option.getD_some]
 split<;>rfl
theorem zrl (l:List Int) (g:Int):cntF l g≤l.length:=List.length_filter_le ..
theorem zsy {l:List (List Int)} {g:Int} {i:Nat} (hi:i < l.length):zer (l.take (i + 1)) g=zer (l.take i) g + cntF (l.getD i []) g:=by
 unfold zer
 rw [List.take_succ_eq_append_getElem hi,List.map_append,List.sum_append,List.getD_eq_getElem?_getD,List.getElem?_eq_getElem hi]
 simp
theorem zvo (l:List (List Int)) (g:Int) (h:∀ r∈l,r.length=6):zer l g≤6 * l.length:=by
 induction l with
 | nil=>simp [zer]
 | cons r l ih =>
  have:=ih fun r hr=>h r (by simp [hr])
  have h1:=zrl r g
  rw [h r (by simp)] at h1
  unfold zer at this ⊢
  simp only [List.map_cons,List.sum_cons,List.length_cons]
  omega
theorem zrm (S:SR h x z s) (g:Int) (hN:10≤N):∃ h',evCallO OS table N (d + 1) 41 [.agg x,.c (.int .i64 g)] h=some (.c (.int .i64 (zer s.hs g:Int)),h')∧Ext h h':=by
 have xe:=S.xe
 have e1:=(Ext.refl h).new (.cells x)
 generalize hg:h.new (.cells x)=H at e1
 have r2:H.read h.next 2 1=some [.sl z.hh 0 s.hs.length z.ch]:=by rw [← hg];exact zam zb8 (by rw [xe];rfl)
 have S':=S.ext e1
 have all6:∀ r∈s.hs,r.length=6:=fun r hr=>by
  obtain ⟨i,hi,rfl⟩:=List.getElem_of_mem hr
  have:=(S.hi i hi).2
  simpa [MS.hg,List.getD_eq_getElem?_getD,hi] using this
 have fewh:=S.fewh
 have bnd:∀ i,zer (s.hs.take i) g≤36:=fun i=>by
  have:=zvo (s.hs.take i) g fun r hr=>all6 r (List.mem_of_mem_take hr)
  have:(s.hs.take i).length≤s.hs.length:=by rw [List.length_take];omega
  omega
 have inner:∀ c,c < s.hs.length→∀ loc,zb3 ir41_k0 loc=[.junk,.c (.int .i64 g),.c (.ptr h.next 0),.junk,.c (.int .i64 (zer (s.hs.take c) g:Int)),.c (.int .i64 (c:Int)),.c (.int .i64 0),.junk,.junk,.junk] →
   ∃ r,zc5 (evCallO OS table N d) N ir41_k0 ir41_l0 N loc H=some r∧∃ a b e q,r=(.exit 2,[.junk,.c (.int .i64 g),.c (.ptr h.next 0),.junk,.c (.int .i64 (zer (s.hs.take (c + 1)) g:Int)),.c (.int .i64 (c:Int)),a,b,e,q],H):=by
  intro c hc loc hloc
  have h6:=(S.hi c hc).2
  have m1:Nat.blt c s.hs.length=true:=zdp hc
  have k1:=S'.rh hc
  refine zde (n:=6) (fun i loc G=>G=H∧loc=[.junk,.c (.int .i64 g),.c (.ptr h.next 0),.junk,.c (.int .i64 ((zer (s.hs.take c) g + cntF ((s.hg c).take i) g:Nat):Int)),.c (.int .i64 (c:Int)),.c (.int .i64 (i:Int)),.junk,.junk,.junk]) _ ?_ ⟨rfl,by simpa [cntF] using hloc⟩ (by omega)
  rintro i loc G hi ⟨rfl,rfl⟩
  unfold ir41_l0
  by_cases hlt:i < 6
  ·left
   have v1:decide ((i:Int) < 6)=true:=decide_eq_true (by omega)
   have v2:=zeb (i:=i) (by omega)
   have m2:Nat.blt i 6=true:=zdp hlt
   have k2:=S'.rk hc hlt
   have ct:=zt7 (l:=s.hg c) (g:=g) (i:=i) (by omega)
   have b1:=bnd c
   have b2:=zrl ((s.hg c).take i) g
   have b3:((s.hg c).take i).length≤6:=by simp;omega
   have v5:=zeb (i:=zer (s.hs.take c) g + cntF ((s.hg c).take i) g) (by omega)
   cases v3:((s.hg c).getD i 0 == g) with
   | false =>
    rw [v3] at ct
    simp only [Bool.false_and,Bool.false_eq_true,if_false,Nat.add_zero] at ct
    simp only [zap,zac,zaq,zat,zao,zal,zau,zay,zax,zad,zai,zab,zas,zae,zbd,zaf,zar,zav,za8,zbc,za3,zbf,za6,zbe,zag,X.eval,zak,zah,List.getD_cons_zero,List.getD_cons_succ,List.set_cons_zero,List.set_cons_succ,zaz,zan,zaa,zaj,intArith,shift,za0,cond_true,cond_false,BEq.rfl,AV.ofCells,Nat.zero_add,Int.reduceLT,decide_false,ft,za1,za5,za9,zbk,AV.ofCells,r2,m1,k1,Nat.mul_one,zb0,Int.cast_ofNat_Int,v1,m2,k2,v3,v2]
    exact ⟨hlt,_,_,rfl,rfl,by rw [ct];rfl⟩
   | true =>
    cases v4:decide (g ≥ 0) with
    | false =>
     rw [v3,v4] at ct
     simp only [Bool.and_false,Bool.false_eq_true,if_false,Nat.add_zero] at ct
     simp only [zap,zac,zaq,zat,zao,zal,zau,zay,zax,zad,zai,zab,zas,zae,zaf,zar,zav,za8,zbc,za3,zbf,za6,zbe,zag,X.eval,zak,zah,List.getD_cons_zero,List.getD_cons_succ,List.set_cons_zero,List.set_cons_succ,zaz,zan,zaa,zaj,intArith,shift,za0,cond_true,cond_false,BEq.rfl,AV.ofCells,Nat.zero_add,Int.reduceLT,decide_false,za1,za5,za9,zbk,AV.ofCells,r2,m1,k1,Nat.mul_one,zb0,Int.cast_ofNat_Int,v1,m2,k2,v3,v4,v2]
     exact ⟨hlt,_,_,rfl,rfl,by rw [ct];rfl⟩
    | true =>
     rw [v3,v4] at ct
     simp only [Bool.and_self,if_true] at ct
     simp only [zap,zac,zaq,zat,zao,zau,zay,zax,zad,zai,zab,zas,zae,zaf,zar,zav,za8,zbc,za3,zbf,za6,zbe,zag,X.eval,zak,zah,List.getD_cons_zero,List.getD_cons_succ,List.set_cons_zero,List.set_cons_succ,zaz,zan,zaa,zaj,intArith,shift,za0,cond_true,cond_false,BEq.rfl,AV.ofCells,Nat.zero_add,Int.reduceLT,decide_false,za1,za5,za9,zbk,AV.ofCells,r2,m1,k1,Nat.mul_one,zb0,Int.cast_ofNat_Int,v1,m2,k2,v3,v4,v2,v5]
     exact ⟨hlt,_,_,rfl,rfl,by rw [ct];rfl⟩
  ·right
   have:i=6:=by omega
   subst this
   have v1:decide (((6:Nat):Int) < 6)=false:=decide_eq_false (by omega)
   have ht:(s.hg c).take 6=s.hg c:=List.take_of_length_le (by omega)
   have pt:=zsy (l:=s.hs) (g:=g) hc
   simp only [zap,zac,zck,zaq,zat,zal,zc2,zad,zai,zab,zae,zaf,zar,zav,zbc,za3,zbf,za6,zag,X.eval,zak,zah,List.getD_cons_zero,List.getD_cons_succ,List.set_cons_zero,List.set_cons_succ,zaz,zan,zaa,zaj,intArith,shift,za0,cond_true,cond_false,BEq.rfl,AV.ofCells,Nat.zero_add,Int.reduceLT,decide_false,za1,za5,za9,zbk,AV.ofCells,r2,m1,k1,Nat.mul_one,zb0,Int.cast_ofNat_Int]
   exact ⟨_,rfl,by simp,_,_,_,_,by rw [ht,pt];rfl⟩
 have L:∀ loc,zb3 ir41_k1 loc=[.junk,.c (.int .i64 g),.c (.ptr h.next 0),.junk,.c (.int .i64 0),.c (.int .i64 0),.junk,.junk,.junk,.junk] →
   ∃ r,zc5 (evCallO OS table N d) N ir41_k1 ir41_l1 N loc H=some r∧∃ a b e q l,r=(.exit 0,a :: b :: e :: q :: .c (.int .i64 (zer s.hs g:Int)) :: l,H):=by
  intro loc hloc
  refine zde (n:=s.hs.length) (fun i loc G=>G=H∧loc=[.junk,.c (.int .i64 g),.c (.ptr h.next 0),.junk,.c (.int .i64 (zer (s.hs.take i) g:Int)),.c (.int .i64 (i:Int)),.junk,.junk,.junk,.junk]) _ ?_ ⟨rfl,by simpa [zer] using hloc⟩ (by omega)
  rintro i loc G hi ⟨rfl,rfl⟩
  unfold ir41_l1
  by_cases hlt:i < s.hs.length
  ·left
   have v1:=ze1 hlt
   have v2:=zeb (i:=i) (by omega)
   obtain ⟨r,⟨a,b,e,q,rfl⟩,hr⟩:=zdm (inner i hlt) rfl
   simp only [zap,zac,zaq,zat,zao,zau,zci,zax,zad,zai,zab,zae,zaf,zar,zav,zbc,za3,za6,zag,X.eval,zak,zah,List.getD_cons_zero,List.getD_cons_succ,List.set_cons_zero,List.set_cons_succ,zaz,zan,zaa,zaj,intArith,shift,cond_true,cond_false,BEq.rfl,AV.ofCells,Nat.zero_add,za1,za5,za9,AV.ofCells,r2,zb0,v1]
   rw [hr _ rfl]
   simp only [zac,zaq,zay,zbw,zad,zai,zab,zae,zaf,zar,zav,za6,zag,X.eval,zak,zah,List.getD_cons_zero,List.getD_cons_succ,List.set_cons_zero,List.set_cons_succ,zaz,zan,zaa,zaj,intArith,shift,cond_true,cond_false,BEq.rfl,Int.reduceLT,decide_false,v2]
   exact ⟨hlt,_,_,rfl,rfl,rfl⟩
  ·right
   have:i=s.hs.length:=by omega
   subst this
   have v1:decide ((s.hs.length:Int) < (s.hs.length:Int))=false:=zfj (Nat.le_refl _)
   simp only [zap,zac,zck,zaq,zat,zal,zc2,zad,zai,zab,zae,zaf,zar,zav,zbc,za3,za6,zag,X.eval,zak,zah,List.getD_cons_zero,List.getD_cons_succ,List.set_cons_zero,List.set_cons_succ,zaz,zan,zaa,zaj,intArith,shift,cond_true,cond_false,BEq.rfl,AV.ofCells,Nat.zero_add,za1,za5,za9,AV.ofCells,r2,zb0,v1]
   exact ⟨_,rfl,by simp,_,_,_,_,_,by rw [List.take_length]⟩
 obtain ⟨r,hp,hr⟩:=zdm L rfl
 rw [zbp (F:=ir41) rfl rfl rfl]
 unfold ir41
 rw [zbv]
 simp only [zbm,zap,zac,zaq,zau,zci,zad,zai,zab,zae,zaf,zar,zbn,zbh,zaw,X.eval,zah,List.map_cons,List.map_nil,List.getD_cons_zero,List.getD_cons_succ,List.getD_nil,List.set_cons_zero,List.set_cons_succ,AV.cells,hg]
 rw [hr _ rfl]
 obtain ⟨a,b,e,q,l,rfl⟩:=hp
 simp only [zap,zac,zaq,zbw,zbq,zad,zai,zab,zae,zaf,zar,zdh,zbb,zbi,X.eval,zak,zah,List.getD_cons_zero,List.getD_cons_succ,List.set_cons_zero,List.set_cons_succ,cond_true,BEq.rfl,zbu]
 exact ⟨_,rfl,e1⟩
end
end Lav
set_option maxRecDepth 100000
namespace Lav
theorem zc1:clT table=true:=by kernel_rfl
namespace Q
def tP0:List Blk:=[cs ([p 1 0,a 3,a 1,a 1,a 1,s 2 0 1 1,a 1,a 1]),cs ([a 3,a 1,a 1,a 1,p 3 0,p 4 0,p 5 0,a 1,d 6 0 16 1,m 0,a 0,a 0,s 7 0 3 3,d 8 0 1 1,d 9 0 1 3,s 10 0 4 4,ns,ch 11,a 0,a 1,f,f,f]),cs ([f]),cs ([d 12 0 3 1,mp 13,a 0,a 0,f]),cs ([s 14 0 4 4]),cs ([d 15 0 1 1]),cs (rp 16 [a 0]),cs ([f,f,f]),cs ([p 16 0]),cs ([a 1,a 0,a 0]),cs (rp 4 [a 0,a 0,a 0,a 0,a 0,a 0,m 0,ns,ns,ns,a 0,a 0]),ck 4 [],cs ([s 17 0 24 24,s 18 0 24 24,s 19 0 24 24]),mk 0 [],cs (rp 4 [a 0,a 0,m 0]),cs ([s 20 0 6 6]),cs ([p 21 0,m 0,ns,ns,d 22 0 1 1,mp 23]),cs (rp 24 [u 0]),cs (rp 24 [u 0]),cs (rp 24 [u 0]),cs (rp 6 [m 0]),cs ([p 24 0,p 25 0,p 26 0]),cs ([a 0]),mk 0 [],cs ([d 27 0 1 5,p 28 0,p 29 0]),cs ([s 30 0 32 32,m 0,m 0,a 0]),cs ([ch 31]),cs ([a 0,m 0,a 0,f,ns]),cs ([s 32 0 32 32,a 0,a 0,a 1]),cs ([s 33 0 96 96,a 0]),cs (rp 32 [f,a 0,a 0]),ck 8 [],cs ([t,m 0,m 0]++rp 31 [f,a 0,a 0]),cs (rp 96 [m 0,a 0])]
theorem ts0:zdy (ts 34 [(0,84),(1,5),(2,83),(3,7),(4,19),(5,20),(6,58),(7,3),(8,76),(9,78),(10,60),(11,4),(12,16),(13,6),(14,18),(15,24),(16,63),(17,9),(18,12),(19,15),(20,23),(21,74),(22,82),(23,62),(24,69),(25,71),(26,73),(27,80),(28,66),(29,68),(30,70),(31,72),(32,65),(33,67)]) (evCallO OS table 3000 60 24 [.agg [a 3,a 1,a 1,a 1]] (hp ([]:List Blk)))=some (AV.mv τ0 (at0 (ts 34 [(0,84),(1,5),(2,83),(3,7),(4,19),(5,20),(6,58),(7,3),(8,76),(9,78),(10,60),(11,4),(12,16),(13,6),(14,18),(15,24),(16,63),(17,9),(18,12),(19,15),(20,23),(21,74),(22,82),(23,62),(24,69),(25,71),(26,73),(27,80),(28,66),(29,68),(30,70),(31,72),(32,65),(33,67)])) (.c (p 0 0)),85,tP0.map fun b=>some (b.mv τ0 (at0 (ts 34 [(0,84),(1,5),(2,83),(3,7),(4,19),(5,20),(6,58),(7,3),(8,76),(9,78),(10,60),(11,4),(12,16),(13,6),(14,18),(15,24),(16,63),(17,9),(18,12),(19,15),(20,23),(21,74),(22,82),(23,62),(24,69),(25,71),(26,73),(27,80),(28,66),(29,68),(30,70),(31,72),(32,65),(33,67)])))):=by kernel_rfl
theorem ts0f:fit ([]:List Blk) [.agg [a 3,a 1,a 1,a 1]] (ts 34 [(0,84),(1,5),(2,83),(3,7),(4,19),(5,20),(6,58),(7,3),(8,76),(9,78),(10,60),(11,4),(12,16),(13,6),(14,18),(15,24),(16,63),(17,9),(18,12),(19,15),(20,23),(21,74),(22,82),(23,62),(24,69),(25,71),(26,73),(27,80),(28,66),(29,68),(30,70),(31,72),(32,65),(33,67)]) 85=true:=by kernel_rfl
def tP1:List Blk:=pt tP0 36 [(0,cs ([p 1 0,a 3,a 1,a 1,a 1,d 2 0 4 1,a 1,a 1])),(1,cs ([a 3,a 1,a 1,a 1,p 3 0,p 4 0,p 5 0,a 1,d 6 0 16 1,m 0,a 0,a 0,s 7 0 3 3,d 8 0 1 1,d 9 0 1 3,s 10 0 4 4,d 34 0 1 14,ch 11,a 3,a 1,f,f,f])),(2,cs ([f,f,f,t])),(7,cs ([t,f,f])),(11,ck 4 [.c (a 0)]),(14,cs ([a 3,a 2,m 0,a 1]++rp 2 [a 0,m 0,a 0]++[a 0,m 0])),(20,cs ([a 0]++rp 5 [m 0])),(25,cs ([s 30 0 32 32,a 0,a 0,a 1])),(27,cs ([a 1,a 0,a 1,t,s 35 0 16 16])),(28,cs ([s 32 0 32 32,m 0,m 0,a 0])),(29,cs ([s 33 0 96 96,a 1])),(30,cs ([t,m 0,m 0]++rp 31 [f,a 0,a 0])),(32,cs (rp 32 [f,a 0,a 0])),(33,cs ([a 0]++rp 95 [a 0,m 0]++[a 0])),(34,cs ([a 0,a 1]++rp 4 [a 0]++[ns,a 0,a 0,a 0,ns,a 1,a 3,a 3])),(35,cs (rp 16 [u 0]))]
theorem ts1:zdy (ts 36 [(2,160),(34,41),(35,136)]) (evCallO OS table 3000 60 11 [.c (p 0 0),.c (a 0),.agg [a 1,a 0,a 0,a 0,a 0,ns]] (hp tP0))=some (AV.mv τ0 (at0 (ts 36 [(2,160),(34,41),(35,136)])) (.c (t)),165,tP1.map fun b=>some (b.mv τ0 (at0 (ts 36 [(2,160),(34,41),(35,136)])))):=by kernel_rfl
theorem ts1f:fit tP0 [.c (p 0 0),.c (a 0),.agg [a 1,a 0,a 0,a 0,a 0,ns]] (ts 36 [(2,160),(34,41),(35,136)]) 165=true:=by kernel_rfl
def tQ1:List Blk:=tP1++[cs ([u 107])]
def tP2:List Blk:=pt tQ1 37 [(0,cs ([p 1 0,a 3,a 1,a 1,a 1,d 2 0 9 1,a 1,a 1])),(1,cs ([a 3,a 1,a 1,a 1,p 3 0,p 4 0,p 5 0,a 1,d 6 0 16 1,m 0,a 0,a 0,s 7 0 3 3,d 8 0 1 1,d 9 0 1 3,s 10 0 4 4,d 34 0 2 14,ch 11,a 8,a 1,f,f,f])),(2,cs ([f,f,f]++rp 6 [t])),(10,cs ([a 1]++rp 3 [a 0,a 0,a 0,a 0,a 0,m 0,ns,ns,ns,a 0,a 0,a 0]++rp 5 [a 0]++[m 0,ns,ns,ns,a 0,a 0])),(31,ck 8 [.c (a 0)]),(34,cs ([a 0,a 1]++rp 4 [a 0]++[ns,a 0,a 0,a 0,ns,a 1,a 3,a 3,a 0,a 4]++rp 4 [a 0]++[d 36 0 1 1,a 0,a 0,a 0,ns,a 4,a 7,a 7])),(35,cs ([u 107]++rp 15 [u 0]))]
theorem ts2:zdy (ts 37 [(2,264),(34,46),(36,44)]) (evCallO OS table 3000 60 11 [.c (p 0 0),.c (a 0),.agg [a 4,a 0,a 0,a 0,a 0,s 36 0 1 1]] (hp tQ1))=some (AV.mv τ0 (at0 (ts 37 [(2,264),(34,46),(36,44)])) (.c (t)),269,tP2.map fun b=>some (b.mv τ0 (at0 (ts 37 [(2,264),(34,46),(36,44)])))):=by kernel_rfl
theorem ts2f:fit tQ1 [.c (p 0 0),.c (a 0),.agg [a 4,a 0,a 0,a 0,a 0,s 36 0 1 1]] (ts 37 [(2,264),(34,46),(36,44)]) 269=true:=by kernel_rfl
def tP3:List Blk:=pt tP2 38 [(0,cs ([p 1 0,a 3,a 1,a 1,a 1,d 2 0 14 1,a 1,a 1])),(1,cs ([a 3,a 1,a 1,a 1,p 3 0,p 4 0,p 5 0,a 1,d 6 0 16 1,m 0,a 0,a 0,s 7 0 3 3,d 8 0 1 1,d 9 0 1 3,s 10 0 4 4,d 34 0 3 14,ch 11,a 13,a 1,f,f,f])),(2,cs ([f,f,f]++rp 9 [t]++[f,f])),(10,cs ([a 2]++rp 5 [a 0]++[m 0,ns,ns,ns]++rp 5 [a 0]++[a 1,a 0,a 0,m 0,ns,d 37 0 1 1]++rp 2 [ns,a 0,a 0,a 0,a 0,a 0,a 0,a 0,a 0,m 0,ns,ns]++[ns,a 0,a 0])),(11,ck 4 []),(14,cs ([a 3,a 2,m 0,a 1,a 3]++rp 2 [m 0,a 0,a 0]++[m 0])),(16,cs ([p 21 0,a 1,ns,ns,d 22 0 1 1,mp 23])),(20,cs (rp 6 [m 0])),(27,cs ([a 1,a 0,a 0,t,s 35 0 16 16])),(31,ck 8 [.c (a 0),.c (a 0)]),(34,cs ([a 0,a 1]++rp 4 [a 0]++[ns,a 0,a 0,a 0,ns,a 1,a 3,a 3,a 0,a 4]++rp 4 [a 0]++[d 36 0 1 1,a 0,a 0,a 0,ns,a 4,a 7,a 7,a 0,a 5]++rp 4 [a 0]++[ns,a 0,a 0,a 0,ns,a 9,a 12,a 12])),(37,cs ([a 0]))]
theorem ts3:zdy (ts 38 [(2,251),(34,44),(37,234)]) (evCallO OS table 3000 60 11 [.c (p 0 0),.c (a 0),.agg [a 5,a 0,a 0,a 0,a 0,ns]] (hp tP2))=some (AV.mv τ0 (at0 (ts 38 [(2,251),(34,44),(37,234)])) (.c (t)),256,tP3.map fun b=>some (b.mv τ0 (at0 (ts 38 [(2,251),(34,44),(37,234)])))):=by kernel_rfl
theorem ts3f:fit tP2 [.c (p 0 0),.c (a 0),.agg [a 5,a 0,a 0,a 0,a 0,ns]] (ts 38 [(2,251),(34,44),(37,234)]) 256=true:=by kernel_rfl
def tP4:List Blk:=pt tP3 39 [(0,cs ([p 1 0,a 3,a 1,a 1,a 1,d 2 0 21 1,a 1,a 1])),(1,cs ([a 3,a 1,a 1,a 1,p 3 0,p 4 0,p 5 0,a 1,d 6 0 16 1,m 0,a 0,a 0,s 7 0 3 3,d 8 0 1 1,d 9 0 1 3,s 10 0 4 4,d 34 0 4 14,ch 11,a 20,a 1,f,f,f])),(2,cs ([f,f,f]++rp 9 [t]++rp 7 [f]++[t,t])),(3,cs ([d 12 0 3 1,mp 13,a 1,a 0,f])),(7,cs ([t,t,f])),(10,cs ([a 3,a 1]++rp 4 [a 0]++[m 0,ns,ns,ns]++rp 5 [a 0]++[a 1]++rp 2 [a 0,a 0,m 0,ns,ns,ns,a 0,a 0,a 0,a 0,a 0,a 0]++[a 0,a 0,m 0,ns,ns,ns,a 0,a 0])),(13,mk 1 [(0,0,d 35 0 24 1)]),(14,cs ([a 3,a 2,m 0,a 1,a 1]++rp 2 [m 0,a 0,a 0]++[m 0])),(16,cs ([p 21 0,m 0,ns,s 37 0 0 0,d 22 0 1 1,mp 23])),(20,cs ([a 1]++rp 5 [m 0])),(27,cs ([a 1,a 1,a 1,t,s 38 0 16 16])),(31,ck 8 []),(33,cs (rp 87 [m 0,a 0]++[a 1]++rp 8 [a 0,m 0]++[a 0])),(34,cs ([a 0,a 1]++rp 4 [a 0]++[ns,a 0,a 0,a 0,ns,a 1,a 3,a 3,a 0,a 4]++rp 4 [a 0]++[d 36 0 1 1,a 0,a 0,a 0,ns,a 4,a 7,a 7,a 0,a 5]++rp 4 [a 0]++[ns,a 0,a 0,a 0,ns,a 9,a 12,a 12,a 0,a 1]++rp 4 [a 0]++[ns,a 0,a 1,a 0,ns,a 14,a 19,a 19])),(35,cs ([u 98,u 179,u 115,u 182,u 1,u 0,u 90,u 165,u 107]++rp 15 [u 0])),(37,cs ([])),(38,cs (rp 16 [u 0]))]
theorem ts4:zdy (ts 39 [(2,357),(34,45),(35,126),(37,319),(38,306)]) (evCallO OS table 3000 60 11 [.c (p 0 0),.c (a 0),.agg [a 1,a 0,a 0,a 0,a 0,ns]] (hp tP3))=some (AV.mv τ0 (at0 (ts 39 [(2,357),(34,45),(35,126),(37,319),(38,306)])) (.c (t)),362,tP4.map fun b=>some (b.mv τ0 (at0 (ts 39 [(2,357),(34,45),(35,126),(37,319),(38,306)])))):=by kernel_rfl
theorem ts4f:fit tP3 [.c (p 0 0),.c (a 0),.agg [a 1,a 0,a 0,a 0,a 0,ns]] (ts 39 [(2,357),(34,45),(35,126),(37,319),(38,306)]) 362=true:=by kernel_rfl
def tP5:List Blk:=pt tP4 38 [(0,cs ([p 1 0,a 3,a 1,a 1,a 1,d 2 0 27 1,a 1,a 1])),(1,cs ([a 3,a 1,a 1,a 1,p 3 0,p 4 0,p 5 0,a 1,d 6 0 16 1,m 0,a 0,a 0,s 7 0 3 3,d 8 0 1 1,d 9 0 1 3,s 10 0 4 4,d 17 0 5 14,ch 11,a 26,a 1,f,f,f])),(2,cs ([f,f,f]++rp 9 [t]++rp 7 [f]++rp 8 [t])),(3,cs ([d 12 0 3 1,mp 13,a 2,a 0,f])),(10,cs ([a 4]++rp 5 [a 0]++[m 0,ns,ns,ns]++rp 5 [a 0]++[a 1]++rp 2 [a 0,a 0,m 0,ns,ns,ns,a 0,a 0,a 0,a 0,a 0,a 0]++[a 0,a 0,m 0,ns,ns,ns,a 0,a 0])),(12,cs ([d 35 0 24 1,s 18 0 24 24,s 19 0 24 24])),(13,mk 1 []),(14,cs ([a 3,a 7,m 0,a 3]++rp 2 [a 0,m 0,a 0]++[a 0,m 0])),(16,cs ([p 21 0,m 0,ns,s 34 0 0 0,d 22 0 1 1,mp 23])),(17,cs ([a 0,a 1]++rp 4 [a 0]++[ns,a 0,a 0,a 0,ns,a 1,a 3,a 3,a 0,a 4]++rp 4 [a 0]++[d 36 0 1 1,a 0,a 0,a 0,ns,a 4,a 7,a 7,a 0,a 5]++rp 4 [a 0]++[ns,a 0,a 0,a 0,ns,a 9,a 12,a 12,a 0,a 1]++rp 4 [a 0]++[ns,a 0,a 1,a 0,ns,a 14,a 19,a 19,a 0,a 6]++rp 4 [a 0]++[ns,a 0,a 0,a 0,ns,a 21,a 24,a 26])),(27,cs ([a 1,a 1,a 1,t,s 37 0 16 16])),(34,cs ([])),(37,cs (rp 16 [u 0]))]
theorem ts5:zdy (ts 38 [(2,297),(17,46),(34,285),(37,38)]) (evCallO OS table 3000 60 11 [.c (p 0 0),.c (a 0),.agg [a 6,a 0,a 0,a 0,a 0,ns]] (hp tP4))=some (AV.mv τ0 (at0 (ts 38 [(2,297),(17,46),(34,285),(37,38)])) (.c (t)),302,tP5.map fun b=>some (b.mv τ0 (at0 (ts 38 [(2,297),(17,46),(34,285),(37,38)])))):=by kernel_rfl
theorem ts5f:fit tP4 [.c (p 0 0),.c (a 0),.agg [a 6,a 0,a 0,a 0,a 0,ns]] (ts 38 [(2,297),(17,46),(34,285),(37,38)]) 302=true:=by kernel_rfl
def tP6:List Blk:=pt tP5 38 [(0,cs ([p 1 0,a 3,a 1,a 1,a 1,d 2 0 28 1,a 1,a 1])),(1,cs ([a 3,a 1,a 1,a 1,p 3 0,p 4 0,p 5 0,a 1,d 6 0 16 1,m 0,a 0,a 0,s 7 0 3 3,d 8 0 1 1,d 9 0 1 3,s 10 0 4 4,d 17 0 5 14,ch 11,a 27,a 1,f,f,t])),(2,cs ([f,f,f]++rp 9 [t]++rp 7 [f]++rp 9 [t])),(3,cs ([d 12 0 3 1,mp 13,a 2,a 0,t]))]
theorem ts6:zdy (ts 38 [(2,50)]) (evCallO OS table 3000 60 14 [.c (p 0 0),.agg [a 4,a 0,a 0,a 0,a 0,a 0,a 0,a 0,a 0,ns,ns]] (hp tP5))=some (AV.mv τ0 (at0 (ts 38 [(2,50)])) (.c (t)),51,tP6.map fun b=>some (b.mv τ0 (at0 (ts 38 [(2,50)])))):=by kernel_rfl
theorem ts6f:fit tP5 [.c (p 0 0),.agg [a 4,a 0,a 0,a 0,a 0,a 0,a 0,a 0,a 0,ns,ns]] (ts 38 [(2,50)]) 51=true:=by kernel_rfl
def tP7:List Blk:=pt tP6 42 [(38,cs ([d 39 0 24 1,d 40 0 24 1,d 41 0 24 1])),(39,cs ([u 98,u 179,u 115,u 182,u 1,u 0,u 90,u 165,u 107]++rp 15 [u 0])),(40,cs (rp 24 [u 0])),(41,cs (rp 24 [u 0]))]
theorem ts7:zdy (ts 42 [(38,49),(40,43),(41,47)]) (evCallO OS table 3000 60 15 [.c (p 1 0)] (hp tP6))=some (AV.mv τ0 (at0 (ts 42 [(38,49),(40,43),(41,47)])) (.c (d 38 0 3 1)),50,tP7.map fun b=>some (b.mv τ0 (at0 (ts 42 [(38,49),(40,43),(41,47)])))):=by kernel_rfl
theorem ts7f:fit tP6 [.c (p 1 0)] (ts 42 [(38,49),(40,43),(41,47)]) 50=true:=by kernel_rfl
def tP8:List Blk:=pt tP7 39 [(38,cs ([u 107]++rp 15 [u 0]))]
theorem ts8:zdy (ts 39 [(38,43)]) (evCallO OS table 3000 60 16 [.c (a 0),.c (d 39 0 24 1)] (hp tP7))=some (AV.mv τ0 (at0 (ts 39 [(38,43)])) (.tup [.c (d 38 0 16 1),.c (a 0)]),45,tP8.map fun b=>some (b.mv τ0 (at0 (ts 39 [(38,43)])))):=by kernel_rfl
theorem ts8f:fit tP7 [.c (a 0),.c (d 39 0 24 1)] (ts 39 [(38,43)]) 45=true:=by kernel_rfl
def tP9:List Blk:=pt tP8 38 []
theorem ts9:zdy (ts 38 []) (evCallO OS table 3000 60 26 [.c (p 0 0)] (hp tP8))=some (AV.mv τ0 (at0 (ts 38 [])) (.c (t)),141,tP9.map fun b=>some (b.mv τ0 (at0 (ts 38 [])))):=by kernel_rfl
theorem ts9f:fit tP8 [.c (p 0 0)] (ts 38 []) 141=true:=by kernel_rfl
def tP10:List Blk:=pt tP9 38 []
theorem ts10:zdy (ts 38 []) (evCallO OS table 3000 60 25 [.c (p 0 0)] (hp tP9))=some (AV.mv τ0 (at0 (ts 38 [])) (.c (t)),804,tP10.map fun b=>some (b.mv τ0 (at0 (ts 38 [])))):=by kernel_rfl
theorem ts10f:fit tP9 [.c (p 0 0)] (ts 38 []) 804=true:=by kernel_rfl
end Q
end Lav
set_option maxRecDepth 100000
namespace Lav
open Go (IntKind)
theorem zfl:OverM2 OS OS table:=(zp6 82 178 196).two table
theorem zwv {N d:Nat} (hN:3000≤N) (hd:60≤d) (h:Heap):∃ h',evCallO OS table N (d + 1) 9 [] h=some (.c (.bool true),h')∧Ext h h':=by
 obtain ⟨r0,h0,e0,A0,-,n0,-⟩:=zen zc1 zfl hN (by omega) hd Q.ts0 Q.ts0f (At.empty h)
 obtain ⟨r1,h1,e1,A1,k1,n1,-⟩:=zen zc1 zfl hN (by omega) hd Q.ts1 Q.ts1f A0
 have q1:r1 0=r0 0:=k1 0 (by kernel_rfl) (by decide)
 have B1:=A1.snoc [.int .u8 107] (by kernel_rfl) (by kernel_rfl) (by kernel_rfl)
 obtain ⟨r2,h2,e2,A2,k2,n2,-⟩:=zen (l:=Q.tQ1) zc1 zfl hN (by omega) hd Q.ts2 Q.ts2f B1
 have q2:r2 0=r0 0:=(k2 0 (by kernel_rfl) (by decide)).trans q1
 obtain ⟨r3,h3,e3,A3,k3,n3,-⟩:=zen zc1 zfl hN (by omega) hd Q.ts3 Q.ts3f A2
 have q3:r3 0=r0 0:=(k3 0 (by kernel_rfl) (by decide)).trans q2
 obtain ⟨r4,h4,e4,A4,k4,n4,-⟩:=zen zc1 zfl hN (by omega) hd Q.ts4 Q.ts4f A3
 have q4:r4 0=r0 0:=(k4 0 (by kernel_rfl) (by decide)).trans q3
 obtain ⟨r5,h5,e5,A5,k5,n5,-⟩:=zen zc1 zfl hN (by omega) hd Q.ts5 Q.ts5f A4
 have q5:r5 0=r0 0:=(k5 0 (by kernel_rfl) (by decide)).trans q4
 obtain ⟨r6,h6,e6,A6,k6,n6,-⟩:=zen zc1 zfl hN (by omega) hd Q.ts6 Q.ts6f A5
 have q6:r6 0=r0 0:=(k6 0 (by kernel_rfl) (by decide)).trans q5
 obtain ⟨r7,h7,e7,A7,k7,n7,-⟩:=zen zc1 zfl hN (by omega) hd Q.ts7 Q.ts7f A6
 have q7:r7 0=r0 0:=(k7 0 (by kernel_rfl) (by decide)).trans q6
 obtain ⟨r8,h8,e8,A8,k8,n8,-⟩:=zen zc1 zfl hN (by omega) hd Q.ts8 Q.ts8f A7
 have q8:r8 0=r0 0:=(k8 0 (by kernel_rfl) (by decide)).trans q7
 obtain ⟨r9,h9,e9,A9,k9,n9,-⟩:=zen zc1 zfl hN (by omega) hd Q.ts9 Q.ts9f A8
 have q9:r9 0=r0 0:=(k9 0 (by kernel_rfl) (by decide)).trans q8
 obtain ⟨r10,h10,e10,A10,k10,n10,-⟩:=zen zc1 zfl hN (by omega) hd Q.ts10 Q.ts10f A9
 have f0:evCallO OS table N d 24 [.agg [.int .i64 3,.int .i64 1,.int .i64 1,.int .i64 1]] h=some (.c (.ptr (r0 0) 0),h0):=e0
 have f1:evCallO OS table N d 11 [.c (.ptr (r0 0) 0),.c (.int .i64 0),.agg [.int .i64 1,.int .i64 0,.int .i64 0,.int .i64 0,.int .i64 0,.nils]] h0=some (.c (.bool true),h1):=e1
 have f2:evCallO OS table N d 11 [.c (.ptr (r0 0) 0),.c (.int .i64 0),.agg [.int .i64 4,.int .i64 0,.int .i64 0,.int .i64 0,.int .i64 0,.sl h1.next 0 1 (.ex 1)]] (h1.new (.cells [.int .u8 107]))=some (.c (.bool true),h2):=by
  have z0:(if 0=Q.tP1.length then h1.next else r1 0)=r0 0:=(if_neg (by decide)).trans q1
  have z1:(if 36=Q.tP1.length then h1.next else r1 36)=h1.next:=if_pos (by decide)
  rw [← z0,← z1];exact e2
 have f3:evCallO OS table N d 11 [.c (.ptr (r0 0) 0),.c (.int .i64 0),.agg [.int .i64 5,.int .i64 0,.int .i64 0,.int .i64 0,.int .i64 0,.nils]] h2=some (.c (.bool true),h3):=by rw [← q2];exact e3
 have f4:evCallO OS table N d 11 [.c (.ptr (r0 0) 0),.c (.int .i64 0),.agg [.int .i64 1,.int .i64 0,.int .i64 0,.int .i64 0,.int .i64 0,.nils]] h3=some (.c (.bool true),h4):=by rw [← q3];exact e4
 have f5:evCallO OS table N d 11 [.c (.ptr (r0 0) 0),.c (.int .i64 0),.agg [.int .i64 6,.int .i64 0,.int .i64 0,.int .i64 0,.int .i64 0,.nils]] h4=some (.c (.bool true),h5):=by rw [← q4];exact e5
 have f6:evCallO OS table N d 14 [.c (.ptr (r0 0) 0),.agg [.int .i64 4,.int .i64 0,.int .i64 0,.int .i64 0,.int .i64 0,.int .i64 0,.int .i64 0,.int .i64 0,.int .i64 0,.nils,.nils]] h5=some (.c (.bool true),h6):=by rw [← q5];exact e6
 have c6:h6.read (r0 0) 0 1=some [.ptr (r6 1) 0]:=by rw [← q6];exact A6.cell (i:=0) (o:=0) (v:=Q.p 1 0) (by kernel_rfl)
 have f7:evCallO OS table N d 15 [.c (.ptr (r6 1) 0)] h6=some (.c (.sl (r7 38) 0 3 (.dy 1)),h7):=e7
 have c7:h7.read (r7 38) 0 1=some [.sl (r7 39) 0 24 (.dy 1)]:=A7.cell (i:=38) (o:=0) (v:=Q.d 39 0 24 1) (by kernel_rfl)
 have f8:evCallO OS table N d 16 [.c (.int .i64 0),.c (.sl (r7 39) 0 24 (.dy 1))] h7=some (.tup [.c (.sl (r8 38) 0 16 (.dy 1)),.c (.int .i64 0)],h8):=e8
 have c8:h8.read (r8 38) 0 1=some [.int .u8 107]:=A8.cell (i:=38) (o:=0) (v:=Q.u 107) (by kernel_rfl)
 have f9:evCallO OS table N d 26 [.c (.ptr (r0 0) 0)] h8=some (.c (.bool true),h9):=by rw [← q8];exact e9
 have f10:evCallO OS table N d 25 [.c (.ptr (r0 0) 0)] h9=some (.c (.bool true),h10):=by rw [← q9];exact e10
 have m3:Nat.blt 0 3=true:=rfl
 have m16:Nat.blt 0 16=true:=rfl
 rw [zbp (F:=ir9) rfl rfl rfl]
 unfold ir9
 rw [zbv]
 simp only [zbm,zap,zac,zaq,zat,zal,zax,zbq,zad,zai,zab,zas,zae,zaf,zar,zav,zep,za8,zcd,zix,zbc,zem,za3,zbf,zba,za7,zc0,zdh,zbb,zbi,za6,zbe,zcx,zko,zbh,zag,zaw,X.eval,zak,zah,List.map_cons,List.map_nil,List.getD_cons_zero,List.getD_cons_succ,List.getD_nil,List.set_cons_zero,List.set_cons_succ,zaz,zcj,zan,zaa,zaj,intArith,shift,zf1,cond_true,cond_false,BEq.rfl,zb4,zb7,AV.cells,AV.ofCells,XV.av,List.length_cons,List.length_nil,zeros,zdo,setMany,List.nil_append,List.cons_append,Nat.ble,Nat.zero_add,Nat.add_zero,Nat.reduceAdd,Bool.not_true,Bool.not_false,Int.reduceLT,Int.reduceGT,decide_true,decide_false,zds,zdl,za1,za5,zdn,zdf,za9,AV.ofCells,zbk,zg7,List.getElem?_cons_zero,List.getElem?_cons_succ,zxs,zb8,zb0,Int.cast_ofNat_Int,zd1,zls,m3,m16,Nat.zero_mul,f0,f1,f2,f3,f4,f5,f6,c6,f7,c7,f8,c8,f9,f10]
 exact ⟨h10,rfl,A10.ext⟩
end Lav
set_option maxRecDepth 100000
namespace Lav
open Go (IntKind)
def zkx (b:BitVec 32):BitVec 32:=if (b &&& 1#32)=1#32 then (b >>> 1) ^^^ 2748603157#32 else b >>> 1
def zlv:Nat→BitVec 32→BitVec 32
 | 0,b=>b
 | n + 1,b=>zlv n (zkx b)
def zf2 (s:BitVec 32) (c:BitVec 8):BitVec 32:=zlv 8 (s ^^^ c.setWidth 32)
def u32 (b:BitVec 32):AV:=.c (.int .u32 (b.toNat:Int))
def u8 (b:BitVec 8):AV:=.c (.int .u8 (b.toNat:Int))
theorem ofInt32 (b:BitVec 32):BitVec.ofInt IntKind.u32.bits (b.toNat:Int)=b:=by
 show BitVec.ofInt 32 _=b
 rw [BitVec.ofInt_natCast];simp
theorem wrap32 (b:BitVec 32):IntKind.u32.wrap (b.toNat:Int)=(b.toNat:Int):=by
 have:=b.isLt
 simp only [IntKind.wrap,IntKind.bits,IntKind.signed]
 simp
 omega
theorem zsz (b c:BitVec 32):IntKind.u32.wrap ((BitVec.ofInt IntKind.u32.bits (b.toNat:Int) ^^^ BitVec.ofInt IntKind.u32.bits (c.toNat:Int)).toNat:Int)=((b ^^^ c).toNat:Int):=by
 rw [ofInt32,ofInt32];exact wrap32 _
theorem zt8 (b:BitVec 32):IntKind.u32.wrap ((BitVec.ofInt IntKind.u32.bits (b.toNat:Int) ^^^ BitVec.ofInt IntKind.u32.bits 2748603157).toNat:Int)=((b ^^^ 2748603157#32).toNat:Int):=zsz b 2748603157#32
theorem zww (b:BitVec 32):IntKind.u32.wrap ((BitVec.ofInt IntKind.u32.bits (b.toNat:Int) &&& BitVec.ofInt IntKind.u32.bits 1).toNat:Int)=((b &&& 1#32).toNat:Int):=by
 rw [ofInt32];exact wrap32 (b &&& 1#32)
theorem zwx (b:BitVec 32):(b.toNat:Int).fdiv (2 ^ (min (Int.toNat 1) IntKind.u32.bits))=((b >>> 1).toNat:Int):=by
 show (b.toNat:Int).fdiv 2=_
 rw [BitVec.toNat_ushiftRight,Nat.shiftRight_eq_div_pow]
 simp [Int.fdiv_eq_ediv_of_nonneg]
theorem zt9 (c:BitVec 8):IntKind.u32.wrap (c.toNat:Int)=((c.setWidth 32).toNat:Int):=by
 have:=c.isLt
 have e:(c.setWidth 32).toNat=c.toNat:=by simp;omega
 rw [e]
 simp only [IntKind.wrap,IntKind.bits,IntKind.signed]
 simp
 omega
theorem zz6 (b c:BitVec 32):((b.toNat:Int) == (c.toNat:Int))=decide (b=c):=by
 by_cases h:b=c
 ·subst h;simp
 ·have:b.toNat≠c.toNat:=fun e=>h (BitVec.eq_of_toNat_eq e)
  simp [h];omega
theorem zwy (b:BitVec 32):((b.toNat:Int) == 1)=decide (b=1#32):=zz6 b 1#32
theorem znx {i:Nat} (h:i < 1000000):IntKind.i64.wrap ((i:Int) + 1)=((i + 1:Nat):Int):=by
 simp only [IntKind.wrap,IntKind.bits,IntKind.signed]
 simp
 omega
section
variable {call:Nat→List AV→Heap→Option (AV × Heap)} {N:Nat} {h:Heap}
theorem zey {keep:List Bool} {a:IR} {n:Nat} {loc loc1 loc':List AV} {h':Heap} (hk:zb3 keep loc=loc1) (he:ev call N a loc1 h=some (.norm,loc',h')):zc5 call N keep a (n + 1) loc h=zc5 call N keep a n loc' h':=by
 rw [zfu,hk,he];rfl
theorem zig {keep:List Bool} {a:IR} {n j:Nat} {loc loc1 loc':List AV} {h':Heap} (hk:zb3 keep loc=loc1) (he:ev call N a loc1 h=some (.exit j,loc',h')):zc5 call N keep a (n + 1) loc h=some (.exit j,loc',h'):=by
 rw [zfu,hk,he];rfl
def low (b:BitVec 32):Bool:=decide (b &&& 1#32=1#32)
theorem zo2 (b:BitVec 32):zkx b=if low b=true then (b >>> 1) ^^^ 2748603157#32 else b >>> 1:=by
 unfold zkx low;by_cases h:b &&& 1#32=1#32<;>simp [h]
theorem zua {b:BitVec 32} {i:Nat} (hi:i < 8):ev call N ir126_l0 [.c (.int .u32 (b.toNat:Int)),.junk,.junk,.c (.int .i64 (i:Int)),.junk,.junk,.junk] h =
  some (.norm,[.c (.int .u32 ((zkx b).toNat:Int)),.junk,.junk,.c (.int .i64 ((i + 1:Nat):Int)),.c (.bool (low b)),.c (.bool true),.c (.bool (!(low b)))],h):=by
 have hlt:decide ((i:Int) < 8)=true:=by simp;omega
 unfold ir126_l0
 rw [zo2]
 have hlow:decide (b &&& 1#32=1#32)=low b:=rfl
 cases hb:low b<;>simp only [zap,zac,zck,zaq,zat,zao,zal,zau,zay,zbw,zax,zc2,zad,zai,zab,zae,zaf,zar,zav,zcd,za2,zag,X.eval,zak,zah,List.getD_cons_zero,List.getD_cons_succ,List.set_cons_zero,List.set_cons_succ,zaz,zcj,zan,zaa,zaj,intArith,shift,cond_true,cond_false,BEq.rfl,Bool.not_true,Bool.not_false,Bool.false_eq_true,Int.reduceLT,decide_false,hlt,znx (show i < 1000000 by omega),zt8,zww,zwx,zwy,hlow,hb,if_true,if_false]<;>rfl
theorem zvp {b:BitVec 32}:ev call N ir126_l0 [.c (.int .u32 (b.toNat:Int)),.junk,.junk,.c (.int .i64 8),.junk,.junk,.junk] h =
  some (.exit 0,[.c (.int .u32 (b.toNat:Int)),.junk,.junk,.c (.int .i64 8),.junk,.c (.bool false),.junk],h):=rfl
theorem zo3:∀ (j:Nat) (i:Nat) (b:BitVec 32) (y1 y2 y4 y5 y6:AV) (n:Nat),i + j=8→∃ z4,zc5 call N ir126_k0 ir126_l0 (n + j + 1) [.c (.int .u32 (b.toNat:Int)),y1,y2,.c (.int .i64 (i:Int)),y4,y5,y6] h =
  some (.exit 0,[.c (.int .u32 ((zlv j b).toNat:Int)),.junk,.junk,.c (.int .i64 8),.junk,z4,.junk],h):=by
 intro j
 induction j with
 | zero =>
  intro i b y1 y2 y4 y5 y6 n hij
  have:i=8:=by omega
  subst this
  exact ⟨_,zig rfl zvp⟩
 | succ j ih =>
  intro i b y1 y2 y4 y5 y6 n hij
  obtain ⟨z,hz⟩:=ih (i + 1) (zkx b) .junk .junk (.c (.bool (low b))) (.c (.bool true)) (.c (.bool (!(low b)))) n (by omega)
  exact ⟨z,(zey rfl (zua (by omega))).trans hz⟩
theorem zxu {M d:Nat} (s:BitVec 32) (c:BitVec 8) (h:Heap):evCallO OS table (M + 9) (d + 1) 126 [.c (.int .u32 (s.toNat:Int)),.c (.int .u8 (c.toNat:Int))] h=some (.c (.int .u32 ((zf2 s c).toNat:Int)),h):=by
 rw [zbp (F:=ir126) rfl rfl rfl]
 unfold ir126
 rw [zbv]
 obtain ⟨z,hz⟩:=zo3 (call:=evCallO OS table (M + 9) d) (N:=M + 9) (h:=h) 8 0 (s ^^^ c.setWidth 32) (.c (.int .u8 (c.toNat:Int))) (.c (.int .u32 0)) (.tup []) (.tup []) (.tup []) M rfl
 have hz':zc5 (evCallO OS table (M + 9) d) (M + 9) ir126_k0 ir126_l0 (M + 9) [.c (.int .u32 ((s ^^^ c.setWidth 32).toNat:Int)),.c (.int .u8 (c.toNat:Int)),.c (.int .u32 0),.c (.int .i64 0),.tup [],.tup [],.tup []] h=_:=hz
 simp only [zbm,zap,zac,zaq,zau,zbw,zci,zax,zbq,zad,zai,zab,zae,zaf,zar,zfe,zav,zc0,zdh,zbb,zbi,za2,zag,X.eval,zak,zah,List.map_cons,List.map_nil,List.getD_cons_zero,List.getD_cons_succ,List.getD_nil,List.set_cons_zero,List.set_cons_succ,zaz,zan,zaa,zaj,zd8,intArith,shift,cond_true,cond_false,BEq.rfl,zt9,zsz,hz']
 rfl
end
def zh8 (s:BitVec 32) (bs:List (BitVec 8)):BitVec 32:=bs.foldl zf2 s
def bof (bs:List (BitVec 8)):BitVec 32:= ~~~(zh8 4294967295#32 bs)
theorem zwz (b:BitVec 32):IntKind.u32.wrap ((BitVec.ofInt IntKind.u32.bits (if IntKind.u32.signed then -1 else IntKind.u32.max) ^^^ BitVec.ofInt IntKind.u32.bits (b.toNat:Int)).toNat:Int)=((~~~b).toNat:Int):=by
 have e:BitVec.ofInt 32 (if IntKind.u32.signed then -1 else IntKind.u32.max)=BitVec.allOnes 32:=by decide
 have o:BitVec.ofInt 32 (b.toNat:Int)=b:=ofInt32 b
 show IntKind.u32.wrap ((BitVec.ofInt 32 (if IntKind.u32.signed then -1 else IntKind.u32.max) ^^^ BitVec.ofInt 32 (b.toNat:Int)).toNat:Int)=_
 rw [e,o]
 have x:BitVec.allOnes 32 ^^^ b = ~~~b:=BitVec.allOnes_xor
 rw [x]
 exact wrap32 _
section
variable {call:Nat→List AV→Heap→Option (AV × Heap)} {N:Nat} {h:Heap}
theorem zub {s:BitVec 32} {b:BitVec 8} {i o n j:Nat} {c:Cap} (hj:j < n) (hn:n < 1000000) (hread:h.read i (o + j * 1) 1=some [.int .u8 (b.toNat:Int)])
  (T:call 126 [.c (.int .u32 (s.toNat:Int)),.c (.int .u8 (b.toNat:Int))] h=some (.c (.int .u32 ((zf2 s b).toNat:Int)),h)) :
  ev call N ir85_l0 [.c (.int .u32 (s.toNat:Int)),.junk,.junk,.junk,.c (.sl i o n c),.c (.int .i64 (n:Int)),.c (.int .i64 (j:Int)),.junk] h =
   some (.norm,[.c (.int .u32 ((zf2 s b).toNat:Int)),.junk,.junk,.c (.int .u8 (b.toNat:Int)),.c (.sl i o n c),.c (.int .i64 (n:Int)),.c (.int .i64 ((j + 1:Nat):Int)),.c (.bool true)],h):=by
 have hlt:decide ((j:Int) < (n:Int))=true:=by simp;omega
 have hb:Nat.blt j n=true:=Nat.ble_eq_true_of_le hj
 unfold ir85_l0
 simp only [zap,zac,zaq,zat,zao,zau,zay,zax,zad,zai,zab,zae,zaf,zar,zav,za3,zbf,zba,za7,za2,zag,X.eval,zak,zah,List.map_cons,List.map_nil,List.getD_cons_zero,List.getD_cons_succ,List.set_cons_zero,List.set_cons_succ,zaz,zan,zaa,zaj,intArith,shift,za0,cond_true,cond_false,BEq.rfl,AV.ofCells,Int.reduceLT,decide_false,hlt,hb,hread,T,znx (show j < 1000000 by omega)]
theorem zvq {s:BitVec 32} {n:Nat} {x:CV}:ev call N ir85_l0 [.c (.int .u32 (s.toNat:Int)),.junk,.junk,.junk,.c x,.c (.int .i64 (n:Int)),.c (.int .i64 (n:Int)),.junk] h =
  some (.exit 0,[.c (.int .u32 (s.toNat:Int)),.junk,.junk,.junk,.c x,.c (.int .i64 (n:Int)),.c (.int .i64 (n:Int)),.c (.bool false)],h):=by
 have hlt:decide ((n:Int) < (n:Int))=false:=by simp
 unfold ir85_l0
 simp only [zap,zac,zck,zaq,zat,zal,zc2,zad,zai,zab,zae,zaf,zav,za2,zag,X.eval,zah,List.getD_cons_zero,List.getD_cons_succ,List.set_cons_zero,List.set_cons_succ,zaz,zan,zaa,zaj,intArith,shift,cond_true,cond_false,BEq.rfl,hlt]
theorem zuc (T:∀ (s:BitVec 32) (c:BitVec 8) (h:Heap),call 126 [.c (.int .u32 (s.toNat:Int)),.c (.int .u8 (c.toNat:Int))] h=some (.c (.int .u32 ((zf2 s c).toNat:Int)),h))
  {x:CV} {bs:List (BitVec 8)} (hx:Bytes h x bs) (hn:bs.length < 1000000):∀ (k j:Nat) (s:BitVec 32) (y1 y2 y3 y7:AV) (n:Nat),j + k=bs.length →
  ∃ z3,zc5 call N ir85_k0 ir85_l0 (n + k + 1) [.c (.int .u32 (s.toNat:Int)),y1,y2,y3,.c x,.c (.int .i64 (bs.length:Int)),.c (.int .i64 (j:Int)),y7] h =
   some (.exit 0,[.c (.int .u32 ((zh8 s (bs.drop j)).toNat:Int)),.junk,.junk,z3,.c x,.c (.int .i64 (bs.length:Int)),.c (.int .i64 (bs.length:Int)),.c (.bool false)],h):=by
 intro k
 induction k with
 | zero =>
  intro j s y1 y2 y3 y7 n hj
  have:j=bs.length:=by omega
  subst this
  rw [List.drop_length]
  exact ⟨_,zig rfl zvq⟩
 | succ k ih =>
  intro j s y1 y2 y3 y7 n hj
  have hlt:j < bs.length:=by omega
  have hd:bs.drop j=bs[j] :: bs.drop (j + 1):=List.drop_eq_getElem_cons hlt
  rcases hx with ⟨_,hb⟩ | ⟨i,o,c,hxe,_,hread⟩
  ·subst hb;simp at hlt
  ·subst hxe
   obtain ⟨z,hz⟩:=ih (j + 1) (zf2 s bs[j]) .junk .junk (.c (.int .u8 (bs[j].toNat:Int))) (.c (.bool true)) n (by omega)
   refine ⟨z,(zey rfl (zub hlt hn (hread j bs[j] (by simp [hlt])) (T _ _ _))).trans ?_⟩
   rw [hd];exact hz
end
theorem zxv {N d:Nat} {s:BitVec 32} {x:CV} {bs:List (BitVec 8)} {h:Heap} (hN:bs.length + 9≤N) (hn:bs.length < 1000000) (hx:Bytes h x bs) :
  evCallO OS table N (d + 2) 85 [.c (.int .u32 (s.toNat:Int)),.c x] h=some (.c (.int .u32 ((zh8 s bs).toNat:Int)),h):=by
 obtain ⟨m,rfl⟩ : ∃ m,N=m + 9:=⟨N - 9,by omega⟩
 have T:∀ (s:BitVec 32) (c:BitVec 8) (h:Heap),evCallO OS table (m + 9) (d + 1) 126 [.c (.int .u32 (s.toNat:Int)),.c (.int .u8 (c.toNat:Int))] h=some (.c (.int .u32 ((zf2 s c).toNat:Int)),h):=fun s c h=>zxu s c h
 rw [zbp (F:=ir85) rfl rfl rfl]
 unfold ir85
 rw [zbv]
 obtain ⟨q,hq⟩ : ∃ q,m + 9=q + bs.length + 1:=⟨m + 8 - bs.length,by omega⟩
 obtain ⟨z,hz⟩:=zuc (call:=evCallO OS table (m + 9) (d + 1)) (N:=m + 9) (h:=h) T hx hn bs.length 0 s (.c x) (.c (.int .u32 0)) (.tup []) (.tup []) q (by omega)
 rw [← hq] at hz
 have hz':zc5 (evCallO OS table (m + 9) (d + 1)) (m + 9) ir85_k0 ir85_l0 (m + 9) [.c (.int .u32 (s.toNat:Int)),.c x,.c (.int .u32 0),.tup [],.c x,.c (.int .i64 (bs.length:Int)),.c (.int .i64 0),.tup []] h=_:=hz
 rw [List.drop_zero] at hz'
 have hl:za2 [.c (.int .u32 (s.toNat:Int)),.c x,.c (.int .u32 0),.tup [],.tup [],.tup [],.tup [],.tup []] [.c x] h (.len .sl (.val 0))=some (.c (.int .i64 (bs.length:Int))):=by
  rcases hx with ⟨rfl,rfl⟩ | ⟨i,o,c,rfl,_,_⟩<;>rfl
 simp only [zbm,zap,zac,zaq,zad,zai,zab,zae,zaf,zar,zbc,X.eval,List.map_cons,List.map_nil,List.getD_cons_zero,List.getD_cons_succ,List.getD_nil,zak,zah,List.set_cons_zero,List.set_cons_succ,hl,zag,zau,zci,hz',zn7,zbq,zbb,zc0,zdh,zbi]
theorem zz1 {N d:Nat} {x:CV} {bs:List (BitVec 8)} {h:Heap} (hN:bs.length + 9≤N) (hn:bs.length < 1000000) (hx:Bytes h x bs) :
  evCallO OS table N (d + 3) 58 [.c x] h=some (.c (.int .u32 ((bof bs).toNat:Int)),h):=by
 have M:evCallO OS table N (d + 2) 85 [.c (.int .u32 4294967295),.c x] h=some (.c (.int .u32 ((zh8 4294967295#32 bs).toNat:Int)),h):=zxv (s:=4294967295#32) hN hn hx
 rw [zbp (F:=ir58) rfl rfl rfl]
 unfold ir58
 rw [zbv]
 simp only [zbm,zap,zac,zaq,zbq,zad,zai,zab,zae,zaf,zar,zcd,zba,za7,zc0,zdh,zbb,zbi,za2,zag,X.eval,zak,zah,List.map_cons,List.map_nil,List.getD_cons_zero,List.getD_cons_succ,List.getD_nil,List.set_cons_zero,List.set_cons_succ,zcj,zaa,intArith,Int.reduceNeg,M,zwz]
 rfl
theorem zvr {h:Heap} {b:Blk} {i o n:Nat} (hi:i < h.next):(h.new b).read i o n=h.read i o n:=by
 have:(h.new b).get i=h.get i:=by
  rw [Heap.get_new];simp only [upd];rw [if_neg (by omega)]
 simp only [Heap.read,this]
theorem Bytes.new {h:Heap} {x:CV} {bs:List (BitVec 8)} (b:Blk) (hx:Bytes h x bs):Bytes (h.new b) x bs:=by
 rcases hx with h1 | ⟨i,o,c,h1,h2,h3⟩
 ·exact .inl h1
 ·exact .inr ⟨i,o,c,h1,Nat.lt_succ_of_lt h2,fun j b' hj=>by rw [zvr h2];exact h3 j b' hj⟩
theorem zxw {l:List CV} {j:Nat} {v:CV} (h:l[j]? = some v):cut l j 1=some [v]:=by
 have hlt:j < l.length:=by
  rcases Nat.lt_or_ge j l.length with h' | h'
  ·exact h'
  ·rw [List.getElem?_eq_none h'] at h;cases h
 have hb:Nat.ble (j + 1) l.length=true:=Nat.ble_eq_true_of_le hlt
 simp only [cut,hb,cond_true]
 rw [List.drop_eq_getElem_cons hlt,List.take_succ_cons,List.take_zero]
 rw [List.getElem?_eq_getElem hlt] at h
 simp only [Option.some.injEq] at h
 rw [h]
theorem bytes_of {h h':Heap} {x:CV} {l:List Int} (r:RowIs .u8 h x h' l):∃ bs:List (BitVec 8),l=bs.map (fun b=>(b.toNat:Int))∧Bytes h' x bs∧(x = .nils∨∃ i o,x = .sl i o bs.length (.dy 1)):=by
 obtain ⟨hw,_,hr⟩:=r
 obtain ⟨bs,rfl⟩:=zt5 hw
 refine ⟨bs,rfl,?_⟩
 rcases hr with ⟨rfl,rfl,hb⟩ | ⟨rfl,rfl,hb⟩ | ⟨rfl,rfl⟩
 ·have:bs=[]:=by simpa using hb
  exact ⟨.inl ⟨rfl,this⟩,.inl rfl⟩
 ·have:bs=[]:=by simpa using hb
  subst this
  exact ⟨.inr ⟨h.next,0,.dy 1,rfl,Nat.lt_succ_self _,by simp⟩,.inr ⟨_,_,rfl⟩⟩
 ·refine ⟨.inr ⟨h.next,0,.dy 1,by simp,Nat.lt_succ_self _,fun j b hj=>?_⟩,.inr ⟨h.next,0,by simp⟩⟩
  have hg:(h.new (.ro ((bs.map fun b=>(b.toNat:Int)).map (.int .u8)))).get h.next=some (.ro ((bs.map fun b=>(b.toNat:Int)).map (.int .u8))):=by
   rw [Heap.get_new];simp [upd]
  simp only [Heap.read,hg,Nat.zero_add,Nat.mul_one]
  exact zxw (by simp [hj])
theorem Bytes.part {h:Heap} {i o n:Nat} {c:Cap} {bs:List (BitVec 8)} (hx:Bytes h (.sl i o n c) bs) {a m:Nat} (hm:a + m≤bs.length) (c':Cap):Bytes h (.sl i (o + a * 1) m c') ((bs.drop a).take m):=by
 rcases hx with ⟨h1,_⟩ | ⟨i',o',c0,h1,h2,h3⟩
 ·cases h1
 ·cases h1
  refine .inr ⟨_,o + a * 1,c',?_,h2,fun j b hj=>?_⟩
  ·congr 1;simp;omega
  ·rw [List.getElem?_take] at hj
   split at hj
   ·rw [List.getElem?_drop] at hj
    have:=h3 (a + j) b hj
    rw [show o + a * 1 + j * 1=o + (a + j) * 1 by omega];exact this
   ·cases hj
end Lav
set_option maxRecDepth 100000
namespace Lav
open Go (IntKind)
def zs0 (T:Int→Int→Int):List AV→Heap→Option (AV × Heap)
 | [.c (.int .u32 s),.c (.int .u8 c)],h=>some (.c (.int .u32 (T s c)),h)
 | _,_=>none
def zdz (T:Int→Int→Int):Over:=fun f=>bif Nat.beq f 126 then some (fun _=>zs0 T) else OS f
def zbo (s c:Int):Int:=((zlv 8 (BitVec.ofInt 32 s ^^^ BitVec.ofInt 32 c)).toNat:Int)
theorem zvs {call:Call} {M:Nat} (s c:Int) (h:Heap):zfh table (M + 9) call 126 [.c (.int .u32 s),.c (.int .u8 c)] h=some (.c (.int .u32 (zbo s c)),h):=by
 have hx:IntKind.u32.wrap ((BitVec.ofInt IntKind.u32.bits s ^^^ BitVec.ofInt IntKind.u32.bits (IntKind.u32.wrap c)).toNat:Int)=((BitVec.ofInt 32 s ^^^ BitVec.ofInt 32 c).toNat:Int):=by
  have hw:IntKind.u32.wrap c=c % 4294967296:=by simp [IntKind.wrap,IntKind.bits,IntKind.signed]
  have e:BitVec.ofInt 32 (IntKind.u32.wrap c)=BitVec.ofInt 32 c:=by
   apply BitVec.eq_of_toInt_eq
   rw [hw,BitVec.toInt_ofInt,BitVec.toInt_ofInt]
   exact Int.emod_bmod c (2 ^ 32)
  show IntKind.u32.wrap ((BitVec.ofInt 32 s ^^^ BitVec.ofInt 32 (IntKind.u32.wrap c)).toNat:Int)=_
  rw [e]
  exact wrap32 (BitVec.ofInt 32 s ^^^ BitVec.ofInt 32 c)
 show zsh call (M + 9) ir126 _ h=_
 unfold ir126
 rw [zbv]
 obtain ⟨z,hz⟩:=zo3 (call:=call) (N:=M + 9) (h:=h) 8 0 (BitVec.ofInt 32 s ^^^ BitVec.ofInt 32 c) (.c (.int .u8 c)) (.c (.int .u32 0)) (.tup []) (.tup []) (.tup []) M rfl
 have hz':zc5 call (M + 9) ir126_k0 ir126_l0 (M + 9) [.c (.int .u32 ((BitVec.ofInt 32 s ^^^ BitVec.ofInt 32 c).toNat:Int)),.c (.int .u8 c),.c (.int .u32 0),.c (.int .i64 0),.tup [],.tup [],.tup []] h=_:=hz
 simp only [zbm,zap,zac,zaq,zau,zbw,zci,zax,zbq,zad,zai,zab,zae,zaf,zar,zfe,zav,zc0,zdh,zbb,zbi,za2,zag,X.eval,zak,zah,List.map_cons,List.map_nil,List.getD_cons_zero,List.getD_cons_succ,List.getD_nil,List.set_cons_zero,List.set_cons_succ,zaz,zan,zaa,zaj,zd8,intArith,shift,cond_true,cond_false,BEq.rfl,hx,hz']
 rfl
theorem zcr:OverM2 (zdz zbo) OS table:=by
 have h2:=(zp6 82 178 196).two table
 refine ⟨fun f hf=>?_,fun τ ρ b1 b2 h0 g0 f g hf call call' N' hN hC args h1 h2' r h1' S he=>?_⟩
 ·unfold zdz at hf
  cases hb:Nat.beq f 126 with
  | true=>rw [hb] at hf;cases hf
  | false=>rw [hb] at hf;exact hf
 ·unfold zdz at hf
  cases hb:Nat.beq f 126 with
  | false=>rw [hb] at hf;exact h2.yes_ τ ρ b1 b2 h0 g0 f g hf call call' N' hN hC args h1 h2' r h1' S he
  | true =>
   rw [hb] at hf
   simp only [cond_true,Option.some.injEq] at hf
   subst hf
   have:=Nat.eq_of_beq_eq_true hb
   subst this
   replace he:zs0 zbo args h1=some (r,h1'):=he
   unfold zs0 at he
   split at he
   ·simp only [Option.some.injEq,Prod.mk.injEq] at he
    obtain ⟨rfl,rfl⟩:=he
    refine ⟨h2',?_,S⟩
    obtain ⟨M,rfl⟩ : ∃ M,N'=M + 9:=⟨N' - 9,by omega⟩
    exact zvs _ _ h2'
   ·cases he
def zvt (T:Int→Int→Int) (l:List Int):Int:=ze7 .u32 ((BitVec.ofInt 32 4294967295 ^^^ BitVec.ofInt 32 (l.foldl T 4294967295)).toNat:Int)
def zpf (T:Int→Int→Int) (id c k:Nat):Int :=
 ze7 .u8 ((zvt T [.ofNat id,0,90,165,0,0,.ofNat c,.ofNat c,.ofNat c,.ofNat c,.ofNat c,.ofNat c,.ofNat c,.ofNat c,0,0,0,0,0,0]).fdiv (2 ^ min (8 * k) 32))
namespace Q
def uc (c:Nat→Nat) (i:Nat):CV:=.int .u8 (.ofNat (c i))
def sx (T:Int→Int→Int) (c:Nat→Nat) (i k:Nat):CV:=.int .u8 (zpf T (i + 1) (c i) k)
end Q
end Lav
set_option maxRecDepth 100000
set_option linter.unusedVariables false
namespace Lav
namespace Q
def nP0 (T:Int→Int→Int) (c:Nat→Nat):List Blk:=[cs ([p 1 0,a 6,a 2,a 1,a 1,s 2 0 1 1,a 2,a 2]),cs ([a 6,a 2,a 1,a 1,p 3 0,p 4 0,p 5 0,a 1,d 6 0 16 1,m 0,a 0,a 0,s 7 0 6 6,d 8 0 1 1,d 9 0 2 3,s 10 0 4 4,ns,ch 11,a 0,a 2,f,f,f]),cs ([f]),cs ([d 12 0 6 1,mp 13,a 0,a 0,f]),cs ([s 14 0 4 4]),cs ([d 15 0 1 1]),cs (rp 16 [a 0]),cs (rp 6 [f]),cs ([p 16 0]),cs ([a 1,a 0,a 0,a 1,a 0,a 1]),cs (rp 4 [a 0,a 0,a 0,a 0,a 0,a 0,m 0,ns,ns,ns,a 0,a 0]),ck 4 [],cs ([s 17 0 24 24,s 18 0 24 24,s 19 0 24 24,s 20 0 24 24,s 21 0 24 24,s 22 0 24 24]),mk 0 [],cs (rp 4 [a 0,a 0,m 0]),cs ([s 23 0 6 6]),cs ([p 24 0,m 0,ns,ns,d 25 0 2 1,mp 26]),cs (rp 24 [u 0]),cs (rp 24 [u 0]),cs (rp 24 [u 0]),cs (rp 24 [u 0]),cs (rp 24 [u 0]),cs (rp 24 [u 0]),cs (rp 6 [m 0]),cs ([p 27 0,p 28 0,p 29 0]),cs ([a 0,a 1]),mk 0 [],cs ([d 30 0 2 5,p 31 0,p 32 0]),cs ([s 33 0 32 32,m 0,m 0,a 0]),cs ([ch 34]),cs (rp 2 [a 0,m 0,a 0,f,ns]),cs ([s 35 0 32 32,a 0,a 1,a 2]),cs ([s 36 0 96 96,a 0]),cs (rp 32 [f,a 0,a 0]),ck 8 [],cs ([t,m 0,a 1,t,a 0,m 0]++rp 30 [f,a 0,a 0]),cs (rp 96 [m 0,a 0])]
theorem ns0 (T:Int→Int→Int) (c:Nat→Nat):zdy (ts 37 [(0,99),(1,5),(2,98),(3,7),(4,28),(5,29),(6,67),(7,3),(8,85),(9,93),(10,69),(11,4),(12,25),(13,6),(14,27),(15,33),(16,72),(17,9),(18,12),(19,15),(20,18),(22,24),(23,32),(24,83),(25,97),(26,71),(27,78),(28,80),(29,82),(30,95),(31,75),(32,77),(33,79),(34,81),(35,74),(36,76)]) (evCallO (zdz T) table 3000 60 24 [.agg [a 6,a 2,a 1,a 1]] (hp ([]:List Blk)))=some (AV.mv τ0 (at0 (ts 37 [(0,99),(1,5),(2,98),(3,7),(4,28),(5,29),(6,67),(7,3),(8,85),(9,93),(10,69),(11,4),(12,25),(13,6),(14,27),(15,33),(16,72),(17,9),(18,12),(19,15),(20,18),(22,24),(23,32),(24,83),(25,97),(26,71),(27,78),(28,80),(29,82),(30,95),(31,75),(32,77),(33,79),(34,81),(35,74),(36,76)])) (.c (p 0 0)),100,(nP0 T c).map fun b=>some (b.mv τ0 (at0 (ts 37 [(0,99),(1,5),(2,98),(3,7),(4,28),(5,29),(6,67),(7,3),(8,85),(9,93),(10,69),(11,4),(12,25),(13,6),(14,27),(15,33),(16,72),(17,9),(18,12),(19,15),(20,18),(22,24),(23,32),(24,83),(25,97),(26,71),(27,78),(28,80),(29,82),(30,95),(31,75),(32,77),(33,79),(34,81),(35,74),(36,76)])))):=by kernel_rfl
theorem ns0f (T:Int→Int→Int) (c:Nat→Nat):fit ([]:List Blk) [.agg [a 6,a 2,a 1,a 1]] (ts 37 [(0,99),(1,5),(2,98),(3,7),(4,28),(5,29),(6,67),(7,3),(8,85),(9,93),(10,69),(11,4),(12,25),(13,6),(14,27),(15,33),(16,72),(17,9),(18,12),(19,15),(20,18),(22,24),(23,32),(24,83),(25,97),(26,71),(27,78),(28,80),(29,82),(30,95),(31,75),(32,77),(33,79),(34,81),(35,74),(36,76)]) 100=true:=by kernel_rfl
def nA0 (T:Int→Int→Int) (c:Nat→Nat):List Blk:=pt (nP0 T c) 39 [(0,cs ([p 1 0,a 6,a 2,a 1,a 1,d 2 0 4 1,a 2,a 2])),(1,cs ([a 6,a 2,a 1,a 1,p 3 0,p 4 0,p 5 0,a 1,d 6 0 16 1,m 0,a 0,a 0,s 7 0 6 6,d 8 0 1 1,d 9 0 2 3,s 10 0 4 4,d 37 0 1 14,ch 11,a 3,a 2,f,f,f])),(2,cs ([f,f,f,f])),(7,cs ([t,f,f,f,f,f])),(11,ck 4 [.c (a 0)]),(14,cs ([a 3,a 2,m 0,a 1]++rp 2 [a 0,m 0,a 0]++[a 0,m 0])),(23,cs ([a 0]++rp 5 [m 0])),(28,cs ([s 33 0 32 32,a 0,a 0,a 1])),(30,cs ([a 1,a 0,a 1,t,s 38 0 16 16,a 0,m 0,a 0,f,ns])),(31,cs ([s 35 0 32 32,a 1,a 1,a 1])),(32,cs ([s 36 0 96 96,a 1])),(33,cs ([t,m 0,m 0]++rp 31 [f,a 0,a 0])),(35,cs ([f,a 0,a 0,t,m 0,m 0]++rp 30 [f,a 0,a 0])),(36,cs ([a 0]++rp 95 [a 0,m 0]++[a 0])),(37,cs ([a 0,a 1]++rp 4 [a 0]++[ns,a 0,a 0,a 0,ns,a 1,a 3,a 3])),(38,cs (rp 16 [u 0]))]
theorem na0 (T:Int→Int→Int) (c:Nat→Nat):zdy (ts 39 [(2,191),(37,44),(38,156)]) (evCallO (zdz T) table 3000 60 11 [.c (p 0 0),.c (a 0),.agg [a 1,a 0,a 0,a 0,a 0,ns]] (hp (nP0 T c)))=some (AV.mv τ0 (at0 (ts 39 [(2,191),(37,44),(38,156)])) (.c (t)),196,(nA0 T c).map fun b=>some (b.mv τ0 (at0 (ts 39 [(2,191),(37,44),(38,156)])))):=by kernel_rfl
theorem na0f (T:Int→Int→Int) (c:Nat→Nat):fit (nP0 T c) [.c (p 0 0),.c (a 0),.agg [a 1,a 0,a 0,a 0,a 0,ns]] (ts 39 [(2,191),(37,44),(38,156)]) 196=true:=by kernel_rfl
def nD0 (T:Int→Int→Int) (c:Nat→Nat):List Blk:=nA0 T c++[cs (rp 8 [uc c 0])]
def nB0 (T:Int→Int→Int) (c:Nat→Nat):List Blk:=pt (nD0 T c) 40 [(0,cs ([p 1 0,a 6,a 2,a 1,a 1,d 2 0 9 1,a 2,a 2])),(1,cs ([a 6,a 2,a 1,a 1,p 3 0,p 4 0,p 5 0,a 1,d 6 0 16 1,m 0,a 0,a 0,s 7 0 6 6,d 8 0 1 1,d 9 0 2 3,s 10 0 4 4,d 37 0 2 14,ch 11,a 8,a 2,f,f,f])),(2,cs (rp 9 [f])),(10,cs ([a 1]++rp 3 [a 0,a 0,a 0,a 0,a 0,m 0,ns,ns,ns,a 0,a 0,a 0]++rp 5 [a 0]++[m 0,ns,ns,ns,a 0,a 0])),(34,ck 8 [.c (a 0)]),(37,cs ([a 0,a 1]++rp 4 [a 0]++[ns,a 0,a 0,a 0,ns,a 1,a 3,a 3,a 0,a 4,a 0,a 0,a 2,a 0,d 39 0 8 1,a 0,a 0,a 0,ns,a 4,a 7,a 7])),(38,cs ([u 0,u 0]++rp 8 [uc c 0]++rp 6 [u 0]))]
theorem nb0 (T:Int→Int→Int) (c:Nat→Nat):zdy (ts 40 [(2,313),(37,49),(39,47)]) (evCallO (zdz T) table 3000 60 11 [.c (p 0 0),.c (a 0),.agg [a 4,a 0,a 0,a 2,a 0,s 39 0 8 8]] (hp (nD0 T c)))=some (AV.mv τ0 (at0 (ts 40 [(2,313),(37,49),(39,47)])) (.c (t)),318,(nB0 T c).map fun b=>some (b.mv τ0 (at0 (ts 40 [(2,313),(37,49),(39,47)])))):=by kernel_rfl
theorem nb0f (T:Int→Int→Int) (c:Nat→Nat):fit (nD0 T c) [.c (p 0 0),.c (a 0),.agg [a 4,a 0,a 0,a 2,a 0,s 39 0 8 8]] (ts 40 [(2,313),(37,49),(39,47)]) 318=true:=by kernel_rfl
def nC0 (T:Int→Int→Int) (c:Nat→Nat):List Blk:=pt (nB0 T c) 41 [(0,cs ([p 1 0,a 6,a 2,a 1,a 1,d 2 0 14 1,a 2,a 2])),(1,cs ([a 6,a 2,a 1,a 1,p 3 0,p 4 0,p 5 0,a 1,d 6 0 16 1,m 0,a 0,a 0,s 7 0 6 6,d 8 0 1 1,d 9 0 2 3,s 10 0 4 4,d 37 0 3 14,ch 11,a 13,a 2,f,f,f])),(2,cs (rp 14 [f])),(10,cs ([a 2]++rp 5 [a 0]++[m 0,ns,ns,ns]++rp 5 [a 0]++[a 1,a 0,a 0,m 0,ns,d 40 0 1 1]++rp 2 [ns,a 0,a 0,a 0,a 0,a 0,a 0,a 0,a 0,m 0,ns,ns]++[ns,a 0,a 0])),(11,ck 4 []),(14,cs ([a 3,a 2,m 0,a 1,a 3]++rp 2 [m 0,a 0,a 0]++[m 0])),(16,cs ([p 24 0,a 1,ns,ns,d 25 0 2 1,mp 26])),(23,cs (rp 6 [m 0])),(30,cs ([a 1,a 0,a 0,t,s 38 0 16 16,a 0,m 0,a 0,f,ns])),(34,ck 8 [.c (a 0),.c (a 0)]),(37,cs ([a 0,a 1]++rp 4 [a 0]++[ns,a 0,a 0,a 0,ns,a 1,a 3,a 3,a 0,a 4,a 0,a 0,a 2,a 0,d 39 0 8 1,a 0,a 0,a 0,ns,a 4,a 7,a 7,a 0,a 5]++rp 4 [a 0]++[ns,a 0,a 0,a 0,ns,a 9,a 12,a 12])),(40,cs ([a 0]))]
theorem nc0 (T:Int→Int→Int) (c:Nat→Nat):zdy (ts 41 [(2,295),(37,47),(40,268)]) (evCallO (zdz T) table 3000 60 11 [.c (p 0 0),.c (a 0),.agg [a 5,a 0,a 0,a 0,a 0,ns]] (hp (nB0 T c)))=some (AV.mv τ0 (at0 (ts 41 [(2,295),(37,47),(40,268)])) (.c (t)),300,(nC0 T c).map fun b=>some (b.mv τ0 (at0 (ts 41 [(2,295),(37,47),(40,268)])))):=by kernel_rfl
theorem nc0f (T:Int→Int→Int) (c:Nat→Nat):fit (nB0 T c) [.c (p 0 0),.c (a 0),.agg [a 5,a 0,a 0,a 0,a 0,ns]] (ts 41 [(2,295),(37,47),(40,268)]) 300=true:=by kernel_rfl
def nA1 (T:Int→Int→Int) (c:Nat→Nat):List Blk:=pt (nC0 T c) 43 [(0,cs ([p 1 0,a 6,a 2,a 1,a 1,d 2 0 21 1,a 2,a 2])),(1,cs ([a 6,a 2,a 1,a 1,p 3 0,p 4 0,p 5 0,a 1,d 6 0 16 1,m 0,a 0,a 0,s 7 0 6 6,d 8 0 1 1,d 9 0 2 3,s 10 0 4 4,d 37 0 4 14,ch 11,a 20,a 2,f,f,f])),(2,cs (rp 21 [f])),(3,cs ([d 12 0 6 1,mp 13,a 1,a 0,f])),(7,cs ([t,t,f,f,f,f])),(10,cs ([a 3,a 1]++rp 2 [a 0,a 1,a 0,a 0,m 0,ns,ns,ns,a 0,a 0,a 0,a 0]++rp 4 [a 0]++[m 0,ns,ns,ns]++rp 8 [a 0]++[m 0,ns,ns,ns,a 0,a 0])),(13,mk 1 [(0,0,d 40 0 24 1)]),(14,cs ([a 3,a 2,m 0,a 1,a 1]++rp 2 [m 0,a 0,a 0]++[m 0])),(16,cs ([p 24 0,m 0,ns,s 41 0 0 0,d 25 0 2 1,mp 26])),(23,cs ([a 1]++rp 5 [m 0])),(28,cs ([s 33 0 32 32,a 1,a 0,a 2])),(30,cs ([a 1,a 0,a 0,f,s 38 0 16 16,a 1,a 1,a 1,t,s 42 0 16 16])),(31,cs ([s 35 0 32 32,m 0,m 0,a 0])),(32,cs ([s 36 0 96 96,a 2])),(33,cs ([t,a 1,m 0,t,m 0]++rp 30 [a 0,f,a 0]++[a 0])),(35,cs (rp 32 [f,a 0,a 0])),(36,cs ([a 0]++rp 86 [a 0,m 0]++[a 0,a 1,a 1]++rp 8 [m 0,a 0])),(37,cs ([a 0,a 1]++rp 4 [a 0]++[ns,a 0,a 0,a 0,ns,a 1,a 3,a 3,a 0,a 4,a 0,a 0,a 2,a 0,d 39 0 8 1,a 0,a 0,a 0,ns,a 4,a 7,a 7,a 0,a 5]++rp 4 [a 0]++[ns,a 0,a 0,a 0,ns,a 9,a 12,a 12,a 0,a 1]++rp 4 [a 0]++[ns,a 0,a 1,a 0,ns,a 14,a 19,a 19])),(40,cs ([sx T c 0 0,sx T c 0 1,sx T c 0 2,sx T c 0 3,u 1,u 0,u 90,u 165,u 0,u 0]++rp 8 [uc c 0]++rp 6 [u 0])),(41,cs ([])),(42,cs (rp 16 [u 0]))]
theorem na1 (T:Int→Int→Int) (c:Nat→Nat):zdy (ts 43 [(2,405),(37,48),(40,146),(41,353),(42,336)]) (evCallO (zdz T) table 3000 60 11 [.c (p 0 0),.c (a 0),.agg [a 1,a 0,a 0,a 0,a 0,ns]] (hp (nC0 T c)))=some (AV.mv τ0 (at0 (ts 43 [(2,405),(37,48),(40,146),(41,353),(42,336)])) (.c (t)),410,(nA1 T c).map fun b=>some (b.mv τ0 (at0 (ts 43 [(2,405),(37,48),(40,146),(41,353),(42,336)])))):=by kernel_rfl
theorem na1f (T:Int→Int→Int) (c:Nat→Nat):fit (nC0 T c) [.c (p 0 0),.c (a 0),.agg [a 1,a 0,a 0,a 0,a 0,ns]] (ts 43 [(2,405),(37,48),(40,146),(41,353),(42,336)]) 410=true:=by kernel_rfl
def nD1 (T:Int→Int→Int) (c:Nat→Nat):List Blk:=nA1 T c++[cs (rp 8 [uc c 1])]
def nB1 (T:Int→Int→Int) (c:Nat→Nat):List Blk:=pt (nD1 T c) 44 [(0,cs ([p 1 0,a 6,a 2,a 1,a 1,d 2 0 26 1,a 2,a 2])),(1,cs ([a 6,a 2,a 1,a 1,p 3 0,p 4 0,p 5 0,a 1,d 6 0 16 1,m 0,a 0,a 0,s 7 0 6 6,d 8 0 1 1,d 9 0 2 3,s 10 0 4 4,d 37 0 5 14,ch 11,a 25,a 2,f,f,f])),(2,cs (rp 26 [f])),(10,cs ([a 4,a 1]++rp 4 [a 0]++[m 0,ns,ns,ns]++rp 5 [a 0]++[a 1]++rp 2 [a 0,a 0,m 0,ns,ns,ns,a 0,a 0,a 0,a 0,a 0,a 0]++[a 0,a 0,m 0,ns,ns,ns,a 0,a 0])),(16,cs ([p 24 0,m 0,ns,s 43 0 0 0,d 25 0 2 1,mp 26])),(34,ck 8 [.c (a 0),.c (a 0),.c (a 1)]),(37,cs ([a 0,a 1]++rp 4 [a 0]++[ns,a 0,a 0,a 0,ns,a 1,a 3,a 3,a 0,a 4,a 0,a 0,a 2,a 0,d 39 0 8 1,a 0,a 0,a 0,ns,a 4,a 7,a 7,a 0,a 5]++rp 4 [a 0]++[ns,a 0,a 0,a 0,ns,a 9,a 12,a 12,a 0,a 1]++rp 4 [a 0]++[ns,a 0,a 1,a 0,ns,a 14,a 19,a 19,a 0,a 4,a 0,a 0,a 2,a 0,d 41 0 8 1,a 0,a 0,a 0,ns,a 21,a 24,a 24])),(41,cs (rp 8 [uc c 1])),(42,cs ([u 0,u 0]++rp 8 [uc c 1]++rp 6 [u 0])),(43,cs ([]))]
theorem nb1 (T:Int→Int→Int) (c:Nat→Nat):zdy (ts 44 [(2,323),(37,53),(41,51),(43,271)]) (evCallO (zdz T) table 3000 60 11 [.c (p 0 0),.c (a 0),.agg [a 4,a 0,a 0,a 2,a 0,s 43 0 8 8]] (hp (nD1 T c)))=some (AV.mv τ0 (at0 (ts 44 [(2,323),(37,53),(41,51),(43,271)])) (.c (t)),328,(nB1 T c).map fun b=>some (b.mv τ0 (at0 (ts 44 [(2,323),(37,53),(41,51),(43,271)])))):=by kernel_rfl
theorem nb1f (T:Int→Int→Int) (c:Nat→Nat):fit (nD1 T c) [.c (p 0 0),.c (a 0),.agg [a 4,a 0,a 0,a 2,a 0,s 43 0 8 8]] (ts 44 [(2,323),(37,53),(41,51),(43,271)]) 328=true:=by kernel_rfl
def nC1 (T:Int→Int→Int) (c:Nat→Nat):List Blk:=pt (nB1 T c) 44 [(0,cs ([p 1 0,a 6,a 2,a 1,a 1,d 2 0 31 1,a 2,a 2])),(1,cs ([a 6,a 2,a 1,a 1,p 3 0,p 4 0,p 5 0,a 1,d 6 0 16 1,m 0,a 0,a 0,s 7 0 6 6,d 8 0 1 1,d 9 0 2 3,s 10 0 4 4,d 37 0 6 14,ch 11,a 30,a 2,f,f,f])),(2,cs (rp 31 [f])),(10,cs ([a 5,a 1]++rp 4 [a 0]++[m 0,ns,ns,ns]++rp 5 [a 0]++[a 1]++rp 2 [a 0,a 0,m 0,ns,ns,ns,a 0,a 0,a 0,a 0,a 0,a 0]++[a 0,a 0,m 0,ns,ns,ns,a 0,a 0])),(14,cs ([a 3,a 2,m 0,a 3]++rp 2 [a 0,m 0,a 0]++[a 0,m 0])),(23,cs (rp 6 [m 0])),(30,cs ([a 1,a 0,a 0,f,s 38 0 16 16,a 1,a 1,a 0,t,s 42 0 16 16])),(34,ck 8 [.c (a 0),.c (a 0),.c (a 1),.c (a 1)]),(37,cs ([a 0,a 1]++rp 4 [a 0]++[ns,a 0,a 0,a 0,ns,a 1,a 3,a 3,a 0,a 4,a 0,a 0,a 2,a 0,d 39 0 8 1,a 0,a 0,a 0,ns,a 4,a 7,a 7,a 0,a 5]++rp 4 [a 0]++[ns,a 0,a 0,a 0,ns,a 9,a 12,a 12,a 0,a 1]++rp 4 [a 0]++[ns,a 0,a 1,a 0,ns,a 14,a 19,a 19,a 0,a 4,a 0,a 0,a 2,a 0,d 41 0 8 1,a 0,a 0,a 0,ns,a 21,a 24,a 24,a 0,a 5]++rp 4 [a 0]++[ns,a 0,a 0,a 0,ns,a 26,a 29,a 29]))]
theorem nc1 (T:Int→Int→Int) (c:Nat→Nat):zdy (ts 44 [(2,312),(37,51),(43,260)]) (evCallO (zdz T) table 3000 60 11 [.c (p 0 0),.c (a 0),.agg [a 5,a 0,a 0,a 0,a 0,ns]] (hp (nB1 T c)))=some (AV.mv τ0 (at0 (ts 44 [(2,312),(37,51),(43,260)])) (.c (t)),317,(nC1 T c).map fun b=>some (b.mv τ0 (at0 (ts 44 [(2,312),(37,51),(43,260)])))):=by kernel_rfl
theorem nc1f (T:Int→Int→Int) (c:Nat→Nat):fit (nB1 T c) [.c (p 0 0),.c (a 0),.agg [a 5,a 0,a 0,a 0,a 0,ns]] (ts 44 [(2,312),(37,51),(43,260)]) 317=true:=by kernel_rfl
def nA2 (T:Int→Int→Int) (c:Nat→Nat):List Blk:=pt (nC1 T c) 44 [(0,cs ([p 1 0,a 6,a 2,a 1,a 1,d 2 0 34 1,a 2,a 2])),(1,cs ([a 6,a 2,a 1,a 1,p 3 0,p 4 0,p 5 0,a 1,d 6 0 16 1,m 0,a 0,a 0,s 7 0 6 6,d 8 0 1 1,d 9 0 2 3,s 10 0 4 4,d 37 0 7 14,ch 11,a 33,a 2,f,f,f])),(2,cs (rp 34 [f])),(7,cs ([t,t,t,f,f,f])),(10,cs ([a 6,a 2]++rp 4 [a 0]++[m 0,ns,ns,ns]++rp 5 [a 0]++[a 1]++rp 2 [a 0,a 0,m 0,ns,ns,ns,a 0,a 0,a 0,a 0,a 0,a 0]++[a 0,a 0,m 0,ns,ns,ns,a 0,a 0])),(11,ck 4 [.c (a 0)]),(14,cs ([a 3,a 2,m 0,a 1]++rp 2 [a 0,m 0,a 0]++[a 0,m 0])),(16,cs ([p 24 0,m 0,ns,s 38 0 0 0,d 25 0 2 1,mp 26])),(23,cs ([a 2]++rp 5 [m 0])),(28,cs ([s 33 0 32 32,a 0,a 1,a 2])),(30,cs ([a 1,a 2,a 1,t,s 43 0 16 16,a 1,a 1,a 0,t,s 42 0 16 16])),(33,cs ([t,m 0,a 1,t,a 0,m 0]++rp 30 [f,a 0,a 0])),(34,ck 8 []),(36,cs ([m 1]++rp 13 [a 0,m 0]++[a 0,a 2]++rp 72 [a 0,m 0]++[a 0,a 1,a 1]++rp 8 [m 0,a 0])),(37,cs ([a 0,a 1]++rp 4 [a 0]++[ns,a 0,a 0,a 0,ns,a 1,a 3,a 3,a 0,a 4,a 0,a 0,a 2,a 0,d 39 0 8 1,a 0,a 0,a 0,ns,a 4,a 7,a 7,a 0,a 5]++rp 4 [a 0]++[ns,a 0,a 0,a 0,ns,a 9,a 12,a 12,a 0,a 1]++rp 4 [a 0]++[ns,a 0,a 1,a 0,ns,a 14,a 19,a 19,a 0,a 4,a 0,a 0,a 2,a 0,d 41 0 8 1,a 0,a 0,a 0,ns,a 21,a 24,a 24,a 0,a 5]++rp 4 [a 0]++[ns,a 0,a 0,a 0,ns,a 26,a 29,a 29,a 0,a 1]++rp 4 [a 0]++[ns,a 0,a 2,a 0,ns,a 31,a 33,a 33])),(38,cs ([])),(43,cs (rp 16 [u 0]))]
theorem na2 (T:Int→Int→Int) (c:Nat→Nat):zdy (ts 44 [(2,238),(37,51),(38,219),(43,202)]) (evCallO (zdz T) table 3000 60 11 [.c (p 0 0),.c (a 0),.agg [a 1,a 0,a 0,a 0,a 0,ns]] (hp (nC1 T c)))=some (AV.mv τ0 (at0 (ts 44 [(2,238),(37,51),(38,219),(43,202)])) (.c (t)),243,(nA2 T c).map fun b=>some (b.mv τ0 (at0 (ts 44 [(2,238),(37,51),(38,219),(43,202)])))):=by kernel_rfl
theorem na2f (T:Int→Int→Int) (c:Nat→Nat):fit (nC1 T c) [.c (p 0 0),.c (a 0),.agg [a 1,a 0,a 0,a 0,a 0,ns]] (ts 44 [(2,238),(37,51),(38,219),(43,202)]) 243=true:=by kernel_rfl
def nD2 (T:Int→Int→Int) (c:Nat→Nat):List Blk:=nA2 T c++[cs (rp 8 [uc c 2])]
def nB2 (T:Int→Int→Int) (c:Nat→Nat):List Blk:=pt (nD2 T c) 46 [(0,cs ([p 1 0,a 6,a 2,a 1,a 1,d 2 0 39 1,a 2,a 2])),(1,cs ([a 6,a 2,a 1,a 1,p 3 0,p 4 0,p 5 0,a 1,d 6 0 16 1,m 0,a 0,a 0,s 7 0 6 6,d 8 0 1 1,d 9 0 2 3,s 10 0 4 4,d 37 0 8 14,ch 11,a 38,a 2,f,f,f])),(2,cs (rp 39 [f])),(10,cs ([a 7,a 2]++rp 4 [a 0]++[m 0,ns,ns,ns]++rp 5 [a 0]++[a 2,a 1,a 0,m 0,ns,d 38 0 1 1]++rp 2 [ns,a 0,a 0,a 0,a 0,a 0,a 0,a 0,a 0,m 0,ns,ns]++[ns,a 0,a 0])),(14,cs ([a 3,a 2,m 0,a 1,a 3]++rp 2 [m 0,a 0,a 0]++[m 0])),(16,cs ([p 24 0,a 1,ns,s 45 0 0 0,d 25 0 2 1,mp 26])),(34,ck 8 [.c (a 0)]),(37,cs ([a 0,a 1]++rp 4 [a 0]++[ns,a 0,a 0,a 0,ns,a 1,a 3,a 3,a 0,a 4,a 0,a 0,a 2,a 0,d 39 0 8 1,a 0,a 0,a 0,ns,a 4,a 7,a 7,a 0,a 5]++rp 4 [a 0]++[ns,a 0,a 0,a 0,ns,a 9,a 12,a 12,a 0,a 1]++rp 4 [a 0]++[ns,a 0,a 1,a 0,ns,a 14,a 19,a 19,a 0,a 4,a 0,a 0,a 2,a 0,d 41 0 8 1,a 0,a 0,a 0,ns,a 21,a 24,a 24,a 0,a 5]++rp 4 [a 0]++[ns,a 0,a 0,a 0,ns,a 26,a 29,a 29,a 0,a 1]++rp 4 [a 0]++[ns,a 0,a 2,a 0,ns,a 31,a 33,a 33,a 0,a 4,a 0,a 0,a 2,a 0,d 44 0 8 1,a 0,a 0,a 0,ns,a 34,a 37,a 37])),(38,cs ([a 0])),(43,cs ([u 0,u 0]++rp 8 [uc c 2]++rp 6 [u 0])),(45,cs ([]))]
theorem nb2 (T:Int→Int→Int) (c:Nat→Nat):zdy (ts 46 [(2,316),(37,54),(38,289),(44,52),(45,283)]) (evCallO (zdz T) table 3000 60 11 [.c (p 0 0),.c (a 0),.agg [a 4,a 0,a 0,a 2,a 0,s 44 0 8 8]] (hp (nD2 T c)))=some (AV.mv τ0 (at0 (ts 46 [(2,316),(37,54),(38,289),(44,52),(45,283)])) (.c (t)),321,(nB2 T c).map fun b=>some (b.mv τ0 (at0 (ts 46 [(2,316),(37,54),(38,289),(44,52),(45,283)])))):=by kernel_rfl
theorem nb2f (T:Int→Int→Int) (c:Nat→Nat):fit (nD2 T c) [.c (p 0 0),.c (a 0),.agg [a 4,a 0,a 0,a 2,a 0,s 44 0 8 8]] (ts 46 [(2,316),(37,54),(38,289),(44,52),(45,283)]) 321=true:=by kernel_rfl
def nC2 (T:Int→Int→Int) (c:Nat→Nat):List Blk:=pt (nB2 T c) 46 [(0,cs ([p 1 0,a 6,a 2,a 1,a 1,d 2 0 46 1,a 2,a 2])),(1,cs ([a 6,a 2,a 1,a 1,p 3 0,p 4 0,p 5 0,a 1,d 6 0 16 1,m 0,a 0,a 0,s 7 0 6 6,d 8 0 1 1,d 9 0 2 3,s 10 0 4 4,d 37 0 9 14,ch 11,a 45,a 2,f,f,f])),(2,cs (rp 46 [f])),(3,cs ([d 12 0 6 1,mp 13,a 2,a 0,f])),(10,cs ([a 8,a 2]++rp 4 [a 0]++[m 0,ns,ns,ns]++rp 5 [a 0]++[a 2,a 1]++rp 2 [a 0,m 0,ns,ns,ns,a 0,a 0,a 0,a 0,a 0,a 0,a 0]++[a 0,m 0,ns,ns,ns,a 0,a 0])),(11,ck 4 []),(13,mk 2 [(0,0,d 40 0 24 1),(1,1,d 38 0 24 1)]),(14,cs ([a 3,a 2,m 0,a 1,a 1]++rp 2 [m 0,a 0,a 0]++[m 0])),(16,cs ([p 24 0,m 0,ns,s 45 0 0 0,d 25 0 2 1,mp 26])),(23,cs (rp 6 [m 0])),(30,cs ([a 1,a 2,a 0,t,s 43 0 16 16,a 1,a 1,a 0,f,s 42 0 16 16])),(34,ck 8 [.c (a 0),.c (a 0)]),(37,cs ([a 0,a 1]++rp 4 [a 0]++[ns,a 0,a 0,a 0,ns,a 1,a 3,a 3,a 0,a 4,a 0,a 0,a 2,a 0,d 39 0 8 1,a 0,a 0,a 0,ns,a 4,a 7,a 7,a 0,a 5]++rp 4 [a 0]++[ns,a 0,a 0,a 0,ns,a 9,a 12,a 12,a 0,a 1]++rp 4 [a 0]++[ns,a 0,a 1,a 0,ns,a 14,a 19,a 19,a 0,a 4,a 0,a 0,a 2,a 0,d 41 0 8 1,a 0,a 0,a 0,ns,a 21,a 24,a 24,a 0,a 5]++rp 4 [a 0]++[ns,a 0,a 0,a 0,ns,a 26,a 29,a 29,a 0,a 1]++rp 4 [a 0]++[ns,a 0,a 2,a 0,ns,a 31,a 33,a 33,a 0,a 4,a 0,a 0,a 2,a 0,d 44 0 8 1,a 0,a 0,a 0,ns,a 34,a 37,a 37,a 0,a 5]++rp 4 [a 0]++[ns,a 0,a 0,a 0,ns,a 39,a 44,a 44])),(38,cs ([sx T c 1 0,sx T c 1 1,sx T c 1 2,sx T c 1 3,u 2,u 0,u 90,u 165,u 0,u 0]++rp 8 [uc c 1]++rp 6 [u 0]))]
theorem nc2 (T:Int→Int→Int) (c:Nat→Nat):zdy (ts 46 [(2,405),(37,53),(38,151),(45,353)]) (evCallO (zdz T) table 3000 60 11 [.c (p 0 0),.c (a 0),.agg [a 5,a 0,a 0,a 0,a 0,ns]] (hp (nB2 T c)))=some (AV.mv τ0 (at0 (ts 46 [(2,405),(37,53),(38,151),(45,353)])) (.c (t)),410,(nC2 T c).map fun b=>some (b.mv τ0 (at0 (ts 46 [(2,405),(37,53),(38,151),(45,353)])))):=by kernel_rfl
theorem nc2f (T:Int→Int→Int) (c:Nat→Nat):fit (nB2 T c) [.c (p 0 0),.c (a 0),.agg [a 5,a 0,a 0,a 0,a 0,ns]] (ts 46 [(2,405),(37,53),(38,151),(45,353)]) 410=true:=by kernel_rfl
def nA3 (T:Int→Int→Int) (c:Nat→Nat):List Blk:=pt (nC2 T c) 47 [(0,cs ([p 1 0,a 6,a 2,a 1,a 1,d 2 0 54 1,a 2,a 2])),(1,cs ([a 6,a 2,a 1,a 1,p 3 0,p 4 0,p 5 0,a 1,d 6 0 16 1,m 0,a 0,a 0,s 7 0 6 6,d 8 0 1 1,d 9 0 2 3,s 10 0 4 4,d 37 0 10 14,ch 11,a 53,a 2,f,f,f])),(2,cs (rp 54 [f])),(3,cs ([d 12 0 6 1,mp 13,a 3,a 0,f])),(7,cs ([t,t,t,t,f,f])),(10,cs ([a 9,a 3]++rp 2 [a 0,a 1,a 0,a 0,m 0,ns,ns,ns,a 0,a 0,a 0,a 0]++rp 4 [a 0]++[m 0,ns,ns,ns]++rp 8 [a 0]++[m 0,ns,ns,ns,a 0,a 0])),(13,mk 3 [(0,0,d 40 0 24 1),(1,1,d 38 0 24 1),(2,2,d 42 0 24 1)]),(23,cs ([a 3]++rp 5 [m 0])),(28,cs ([s 33 0 32 32,a 1,a 0,a 2])),(30,cs ([a 1,a 2,a 0,f,s 43 0 16 16,a 1,a 3,a 1,t,s 46 0 16 16])),(33,cs ([t,a 1,m 0,t,m 0]++rp 30 [a 0,f,a 0]++[a 0])),(34,ck 8 []),(36,cs ([m 1]++rp 5 [a 0,m 0]++[a 0,a 3,a 1]++rp 7 [m 0,a 0]++[a 2]++rp 72 [a 0,m 0]++[a 0,m 1]++rp 8 [a 0,m 0]++[a 0])),(37,cs ([a 0,a 1]++rp 4 [a 0]++[ns,a 0,a 0,a 0,ns,a 1,a 3,a 3,a 0,a 4,a 0,a 0,a 2,a 0,d 39 0 8 1,a 0,a 0,a 0,ns,a 4,a 7,a 7,a 0,a 5]++rp 4 [a 0]++[ns,a 0,a 0,a 0,ns,a 9,a 12,a 12,a 0,a 1]++rp 4 [a 0]++[ns,a 0,a 1,a 0,ns,a 14,a 19,a 19,a 0,a 4,a 0,a 0,a 2,a 0,d 41 0 8 1,a 0,a 0,a 0,ns,a 21,a 24,a 24,a 0,a 5]++rp 4 [a 0]++[ns,a 0,a 0,a 0,ns,a 26,a 29,a 29,a 0,a 1]++rp 4 [a 0]++[ns,a 0,a 2,a 0,ns,a 31,a 33,a 33,a 0,a 4,a 0,a 0,a 2,a 0,d 44 0 8 1,a 0,a 0,a 0,ns,a 34,a 37,a 37,a 0,a 5]++rp 4 [a 0]++[ns,a 0,a 0,a 0,ns,a 39,a 44,a 44,a 0,a 1]++rp 4 [a 0]++[ns,a 0,a 3,a 0,ns,a 46,a 52,a 52])),(42,cs ([sx T c 2 0,sx T c 2 1,sx T c 2 2,sx T c 2 3,u 3,u 0,u 90,u 165,u 0,u 0]++rp 8 [uc c 2]++rp 6 [u 0])),(46,cs (rp 16 [u 0]))]
theorem na3 (T:Int→Int→Int) (c:Nat→Nat):zdy (ts 47 [(2,509),(37,53),(42,275),(45,457),(46,440)]) (evCallO (zdz T) table 3000 60 11 [.c (p 0 0),.c (a 0),.agg [a 1,a 0,a 0,a 0,a 0,ns]] (hp (nC2 T c)))=some (AV.mv τ0 (at0 (ts 47 [(2,509),(37,53),(42,275),(45,457),(46,440)])) (.c (t)),514,(nA3 T c).map fun b=>some (b.mv τ0 (at0 (ts 47 [(2,509),(37,53),(42,275),(45,457),(46,440)])))):=by kernel_rfl
theorem na3f (T:Int→Int→Int) (c:Nat→Nat):fit (nC2 T c) [.c (p 0 0),.c (a 0),.agg [a 1,a 0,a 0,a 0,a 0,ns]] (ts 47 [(2,509),(37,53),(42,275),(45,457),(46,440)]) 514=true:=by kernel_rfl
def nD3 (T:Int→Int→Int) (c:Nat→Nat):List Blk:=nA3 T c++[cs (rp 8 [uc c 3])]
def nB3 (T:Int→Int→Int) (c:Nat→Nat):List Blk:=pt (nD3 T c) 48 [(0,cs ([p 1 0,a 6,a 2,a 1,a 1,d 2 0 59 1,a 2,a 2])),(1,cs ([a 6,a 2,a 1,a 1,p 3 0,p 4 0,p 5 0,a 1,d 6 0 16 1,m 0,a 0,a 0,s 7 0 6 6,d 8 0 1 1,d 9 0 2 3,s 10 0 4 4,d 37 0 11 14,ch 11,a 58,a 2,f,f,f])),(2,cs (rp 59 [f])),(10,cs ([a 10,a 3]++rp 4 [a 0]++[m 0,ns,ns,ns]++rp 5 [a 0]++[a 1]++rp 2 [a 0,a 0,m 0,ns,ns,ns,a 0,a 0,a 0,a 0,a 0,a 0]++[a 0,a 0,m 0,ns,ns,ns,a 0,a 0])),(16,cs ([p 24 0,m 0,ns,s 47 0 0 0,d 25 0 2 1,mp 26])),(34,ck 8 [.c (a 1)]),(37,cs ([a 0,a 1]++rp 4 [a 0]++[ns,a 0,a 0,a 0,ns,a 1,a 3,a 3,a 0,a 4,a 0,a 0,a 2,a 0,d 39 0 8 1,a 0,a 0,a 0,ns,a 4,a 7,a 7,a 0,a 5]++rp 4 [a 0]++[ns,a 0,a 0,a 0,ns,a 9,a 12,a 12,a 0,a 1]++rp 4 [a 0]++[ns,a 0,a 1,a 0,ns,a 14,a 19,a 19,a 0,a 4,a 0,a 0,a 2,a 0,d 41 0 8 1,a 0,a 0,a 0,ns,a 21,a 24,a 24,a 0,a 5]++rp 4 [a 0]++[ns,a 0,a 0,a 0,ns,a 26,a 29,a 29,a 0,a 1]++rp 4 [a 0]++[ns,a 0,a 2,a 0,ns,a 31,a 33,a 33,a 0,a 4,a 0,a 0,a 2,a 0,d 44 0 8 1,a 0,a 0,a 0,ns,a 34,a 37,a 37,a 0,a 5]++rp 4 [a 0]++[ns,a 0,a 0,a 0,ns,a 39,a 44,a 44,a 0,a 1]++rp 4 [a 0]++[ns,a 0,a 3,a 0,ns,a 46,a 52,a 52,a 0,a 4,a 0,a 0,a 2,a 0,d 45 0 8 1,a 0,a 0,a 0,ns,a 54,a 57,a 57])),(45,cs (rp 8 [uc c 3])),(46,cs ([u 0,u 0]++rp 8 [uc c 3]++rp 6 [u 0])),(47,cs ([]))]
theorem nb3 (T:Int→Int→Int) (c:Nat→Nat):zdy (ts 48 [(2,327),(37,57),(45,55),(47,275)]) (evCallO (zdz T) table 3000 60 11 [.c (p 0 0),.c (a 0),.agg [a 4,a 0,a 0,a 2,a 0,s 47 0 8 8]] (hp (nD3 T c)))=some (AV.mv τ0 (at0 (ts 48 [(2,327),(37,57),(45,55),(47,275)])) (.c (t)),332,(nB3 T c).map fun b=>some (b.mv τ0 (at0 (ts 48 [(2,327),(37,57),(45,55),(47,275)])))):=by kernel_rfl
theorem nb3f (T:Int→Int→Int) (c:Nat→Nat):fit (nD3 T c) [.c (p 0 0),.c (a 0),.agg [a 4,a 0,a 0,a 2,a 0,s 47 0 8 8]] (ts 48 [(2,327),(37,57),(45,55),(47,275)]) 332=true:=by kernel_rfl
def nC3 (T:Int→Int→Int) (c:Nat→Nat):List Blk:=pt (nB3 T c) 48 [(0,cs ([p 1 0,a 6,a 2,a 1,a 1,d 2 0 64 1,a 2,a 2])),(1,cs ([a 6,a 2,a 1,a 1,p 3 0,p 4 0,p 5 0,a 1,d 6 0 16 1,m 0,a 0,a 0,s 7 0 6 6,d 8 0 1 1,d 9 0 2 3,s 10 0 4 4,d 37 0 12 14,ch 11,a 63,a 2,f,f,f])),(2,cs (rp 64 [f])),(10,cs ([a 11,a 3]++rp 4 [a 0]++[m 0,ns,ns,ns]++rp 5 [a 0]++[a 1]++rp 2 [a 0,a 0,m 0,ns,ns,ns,a 0,a 0,a 0,a 0,a 0,a 0]++[a 0,a 0,m 0,ns,ns,ns,a 0,a 0])),(14,cs ([a 3,a 2,m 0,a 3]++rp 2 [a 0,m 0,a 0]++[a 0,m 0])),(23,cs (rp 6 [m 0])),(30,cs ([a 1,a 2,a 0,f,s 43 0 16 16,a 1,a 3,a 0,t,s 46 0 16 16])),(34,ck 8 [.c (a 1),.c (a 1)]),(37,cs ([a 0,a 1]++rp 4 [a 0]++[ns,a 0,a 0,a 0,ns,a 1,a 3,a 3,a 0,a 4,a 0,a 0,a 2,a 0,d 39 0 8 1,a 0,a 0,a 0,ns,a 4,a 7,a 7,a 0,a 5]++rp 4 [a 0]++[ns,a 0,a 0,a 0,ns,a 9,a 12,a 12,a 0,a 1]++rp 4 [a 0]++[ns,a 0,a 1,a 0,ns,a 14,a 19,a 19,a 0,a 4,a 0,a 0,a 2,a 0,d 41 0 8 1,a 0,a 0,a 0,ns,a 21,a 24,a 24,a 0,a 5]++rp 4 [a 0]++[ns,a 0,a 0,a 0,ns,a 26,a 29,a 29,a 0,a 1]++rp 4 [a 0]++[ns,a 0,a 2,a 0,ns,a 31,a 33,a 33,a 0,a 4,a 0,a 0,a 2,a 0,d 44 0 8 1,a 0,a 0,a 0,ns,a 34,a 37,a 37,a 0,a 5]++rp 4 [a 0]++[ns,a 0,a 0,a 0,ns,a 39,a 44,a 44,a 0,a 1]++rp 4 [a 0]++[ns,a 0,a 3,a 0,ns,a 46,a 52,a 52,a 0,a 4,a 0,a 0,a 2,a 0,d 45 0 8 1,a 0,a 0,a 0,ns,a 54,a 57,a 57,a 0,a 5]++rp 4 [a 0]++[ns,a 0,a 0,a 0,ns,a 59,a 62,a 62]))]
theorem nc3 (T:Int→Int→Int) (c:Nat→Nat):zdy (ts 48 [(2,316),(37,55),(47,264)]) (evCallO (zdz T) table 3000 60 11 [.c (p 0 0),.c (a 0),.agg [a 5,a 0,a 0,a 0,a 0,ns]] (hp (nB3 T c)))=some (AV.mv τ0 (at0 (ts 48 [(2,316),(37,55),(47,264)])) (.c (t)),321,(nC3 T c).map fun b=>some (b.mv τ0 (at0 (ts 48 [(2,316),(37,55),(47,264)])))):=by kernel_rfl
theorem nc3f (T:Int→Int→Int) (c:Nat→Nat):fit (nB3 T c) [.c (p 0 0),.c (a 0),.agg [a 5,a 0,a 0,a 0,a 0,ns]] (ts 48 [(2,316),(37,55),(47,264)]) 321=true:=by kernel_rfl
def nA4 (T:Int→Int→Int) (c:Nat→Nat):List Blk:=pt (nC3 T c) 48 [(0,cs ([p 1 0,a 6,a 2,a 1,a 1,d 2 0 67 1,a 2,a 2])),(1,cs ([a 6,a 2,a 1,a 1,p 3 0,p 4 0,p 5 0,a 1,d 6 0 16 1,m 0,a 0,a 0,s 7 0 6 6,d 8 0 1 1,d 9 0 2 3,s 10 0 4 4,d 37 0 13 14,ch 11,a 66,a 2,f,f,f])),(2,cs (rp 67 [f])),(7,cs ([t,t,t,t,t,f])),(10,cs ([a 12,a 4]++rp 4 [a 0]++[m 0,ns,ns,ns]++rp 5 [a 0]++[a 1]++rp 2 [a 0,a 0,m 0,ns,ns,ns,a 0,a 0,a 0,a 0,a 0,a 0]++[a 0,a 0,m 0,ns,ns,ns,a 0,a 0])),(11,ck 4 [.c (a 0)]),(14,cs ([a 3,a 2,m 0,a 1]++rp 2 [a 0,m 0,a 0]++[a 0,m 0])),(16,cs ([p 24 0,m 0,ns,s 43 0 0 0,d 25 0 2 1,mp 26])),(23,cs ([a 4]++rp 5 [m 0])),(28,cs ([s 33 0 32 32,a 0,a 1,a 2])),(30,cs ([a 1,a 4,a 1,t,s 47 0 16 16,a 1,a 3,a 0,t,s 46 0 16 16])),(33,cs ([t,m 0,a 1,t,a 0,m 0]++rp 30 [f,a 0,a 0])),(34,ck 8 []),(36,cs ([m 1]++rp 5 [a 0,m 0]++[a 0,a 3,a 1]++rp 7 [m 0,a 0]++[m 1]++rp 14 [a 0,m 0]++[a 0,a 4]++rp 57 [a 0,m 0]++[a 0,m 1]++rp 8 [a 0,m 0]++[a 0])),(37,cs ([a 0,a 1]++rp 4 [a 0]++[ns,a 0,a 0,a 0,ns,a 1,a 3,a 3,a 0,a 4,a 0,a 0,a 2,a 0,d 39 0 8 1,a 0,a 0,a 0,ns,a 4,a 7,a 7,a 0,a 5]++rp 4 [a 0]++[ns,a 0,a 0,a 0,ns,a 9,a 12,a 12,a 0,a 1]++rp 4 [a 0]++[ns,a 0,a 1,a 0,ns,a 14,a 19,a 19,a 0,a 4,a 0,a 0,a 2,a 0,d 41 0 8 1,a 0,a 0,a 0,ns,a 21,a 24,a 24,a 0,a 5]++rp 4 [a 0]++[ns,a 0,a 0,a 0,ns,a 26,a 29,a 29,a 0,a 1]++rp 4 [a 0]++[ns,a 0,a 2,a 0,ns,a 31,a 33,a 33,a 0,a 4,a 0,a 0,a 2,a 0,d 44 0 8 1,a 0,a 0,a 0,ns,a 34,a 37,a 37,a 0,a 5]++rp 4 [a 0]++[ns,a 0,a 0,a 0,ns,a 39,a 44,a 44,a 0,a 1]++rp 4 [a 0]++[ns,a 0,a 3,a 0,ns,a 46,a 52,a 52,a 0,a 4,a 0,a 0,a 2,a 0,d 45 0 8 1,a 0,a 0,a 0,ns,a 54,a 57,a 57,a 0,a 5]++rp 4 [a 0]++[ns,a 0,a 0,a 0,ns,a 59,a 62,a 62,a 0,a 1]++rp 4 [a 0]++[ns,a 0,a 4,a 0,ns,a 64,a 66,a 66])),(43,cs ([])),(47,cs (rp 16 [u 0]))]
theorem na4 (T:Int→Int→Int) (c:Nat→Nat):zdy (ts 48 [(2,236),(37,55),(43,217),(47,200)]) (evCallO (zdz T) table 3000 60 11 [.c (p 0 0),.c (a 0),.agg [a 1,a 0,a 0,a 0,a 0,ns]] (hp (nC3 T c)))=some (AV.mv τ0 (at0 (ts 48 [(2,236),(37,55),(43,217),(47,200)])) (.c (t)),241,(nA4 T c).map fun b=>some (b.mv τ0 (at0 (ts 48 [(2,236),(37,55),(43,217),(47,200)])))):=by kernel_rfl
theorem na4f (T:Int→Int→Int) (c:Nat→Nat):fit (nC3 T c) [.c (p 0 0),.c (a 0),.agg [a 1,a 0,a 0,a 0,a 0,ns]] (ts 48 [(2,236),(37,55),(43,217),(47,200)]) 241=true:=by kernel_rfl
def nD4 (T:Int→Int→Int) (c:Nat→Nat):List Blk:=nA4 T c++[cs (rp 8 [uc c 4])]
def nB4 (T:Int→Int→Int) (c:Nat→Nat):List Blk:=pt (nD4 T c) 50 [(0,cs ([p 1 0,a 6,a 2,a 1,a 1,d 2 0 72 1,a 2,a 2])),(1,cs ([a 6,a 2,a 1,a 1,p 3 0,p 4 0,p 5 0,a 1,d 6 0 16 1,m 0,a 0,a 0,s 7 0 6 6,d 8 0 1 1,d 9 0 2 3,s 10 0 4 4,d 37 0 14 14,ch 11,a 71,a 2,f,f,f])),(2,cs (rp 72 [f])),(10,cs ([a 13,a 4]++rp 4 [a 0]++[m 0,ns,ns,ns]++rp 5 [a 0]++[a 2,a 1,a 0,m 0,ns,d 43 0 1 1]++rp 2 [ns,a 0,a 0,a 0,a 0,a 0,a 0,a 0,a 0,m 0,ns,ns]++[ns,a 0,a 0])),(14,cs ([a 3,a 2,m 0,a 1,a 3]++rp 2 [m 0,a 0,a 0]++[m 0])),(16,cs ([p 24 0,a 1,ns,s 49 0 0 0,d 25 0 2 1,mp 26])),(34,ck 8 [.c (a 0)]),(37,cs ([a 0,a 1]++rp 4 [a 0]++[ns,a 0,a 0,a 0,ns,a 1,a 3,a 3,a 0,a 4,a 0,a 0,a 2,a 0,d 39 0 8 1,a 0,a 0,a 0,ns,a 4,a 7,a 7,a 0,a 5]++rp 4 [a 0]++[ns,a 0,a 0,a 0,ns,a 9,a 12,a 12,a 0,a 1]++rp 4 [a 0]++[ns,a 0,a 1,a 0,ns,a 14,a 19,a 19,a 0,a 4,a 0,a 0,a 2,a 0,d 41 0 8 1,a 0,a 0,a 0,ns,a 21,a 24,a 24,a 0,a 5]++rp 4 [a 0]++[ns,a 0,a 0,a 0,ns,a 26,a 29,a 29,a 0,a 1]++rp 4 [a 0]++[ns,a 0,a 2,a 0,ns,a 31,a 33,a 33,a 0,a 4,a 0,a 0,a 2,a 0,d 44 0 8 1,a 0,a 0,a 0,ns,a 34,a 37,a 37,a 0,a 5]++rp 4 [a 0]++[ns,a 0,a 0,a 0,ns,a 39,a 44,a 44,a 0,a 1]++rp 4 [a 0]++[ns,a 0,a 3,a 0,ns,a 46,a 52,a 52,a 0,a 4,a 0,a 0,a 2,a 0,d 45 0 8 1,a 0,a 0,a 0,ns,a 54,a 57,a 57,a 0,a 5]++rp 4 [a 0]++[ns,a 0,a 0,a 0,ns,a 59,a 62,a 62,a 0,a 1]++rp 4 [a 0]++[ns,a 0,a 4,a 0,ns,a 64,a 66,a 66,a 0,a 4,a 0,a 0,a 2,a 0,d 48 0 8 1,a 0,a 0,a 0,ns,a 67,a 70,a 70])),(43,cs ([a 0])),(47,cs ([u 0,u 0]++rp 8 [uc c 4]++rp 6 [u 0])),(49,cs ([]))]
theorem nb4 (T:Int→Int→Int) (c:Nat→Nat):zdy (ts 50 [(2,320),(37,58),(43,293),(48,56),(49,287)]) (evCallO (zdz T) table 3000 60 11 [.c (p 0 0),.c (a 0),.agg [a 4,a 0,a 0,a 2,a 0,s 48 0 8 8]] (hp (nD4 T c)))=some (AV.mv τ0 (at0 (ts 50 [(2,320),(37,58),(43,293),(48,56),(49,287)])) (.c (t)),325,(nB4 T c).map fun b=>some (b.mv τ0 (at0 (ts 50 [(2,320),(37,58),(43,293),(48,56),(49,287)])))):=by kernel_rfl
theorem nb4f (T:Int→Int→Int) (c:Nat→Nat):fit (nD4 T c) [.c (p 0 0),.c (a 0),.agg [a 4,a 0,a 0,a 2,a 0,s 48 0 8 8]] (ts 50 [(2,320),(37,58),(43,293),(48,56),(49,287)]) 325=true:=by kernel_rfl
def nC4 (T:Int→Int→Int) (c:Nat→Nat):List Blk:=pt (nB4 T c) 50 [(0,cs ([p 1 0,a 6,a 2,a 1,a 1,d 2 0 79 1,a 2,a 2])),(1,cs ([a 6,a 2,a 1,a 1,p 3 0,p 4 0,p 5 0,a 1,d 6 0 16 1,m 0,a 0,a 0,s 7 0 6 6,d 8 0 1 1,d 9 0 2 3,s 10 0 4 4,d 37 0 15 14,ch 11,a 78,a 2,f,f,f])),(2,cs (rp 79 [f])),(3,cs ([d 12 0 6 1,mp 13,a 4,a 0,f])),(10,cs ([a 14,a 4]++rp 4 [a 0]++[m 0,ns,ns,ns]++rp 5 [a 0]++[a 2,a 1]++rp 2 [a 0,m 0,ns,ns,ns,a 0,a 0,a 0,a 0,a 0,a 0,a 0]++[a 0,m 0,ns,ns,ns,a 0,a 0])),(11,ck 4 []),(13,mk 4 [(0,0,d 40 0 24 1),(1,1,d 38 0 24 1),(2,2,d 42 0 24 1),(3,3,d 43 0 24 1)]),(14,cs ([a 3,a 2,m 0,a 1,a 1]++rp 2 [m 0,a 0,a 0]++[m 0])),(16,cs ([p 24 0,m 0,ns,s 49 0 0 0,d 25 0 2 1,mp 26])),(23,cs (rp 6 [m 0])),(30,cs ([a 1,a 4,a 0,t,s 47 0 16 16,a 1,a 3,a 0,f,s 46 0 16 16])),(34,ck 8 [.c (a 0),.c (a 0)]),(37,cs ([a 0,a 1]++rp 4 [a 0]++[ns,a 0,a 0,a 0,ns,a 1,a 3,a 3,a 0,a 4,a 0,a 0,a 2,a 0,d 39 0 8 1,a 0,a 0,a 0,ns,a 4,a 7,a 7,a 0,a 5]++rp 4 [a 0]++[ns,a 0,a 0,a 0,ns,a 9,a 12,a 12,a 0,a 1]++rp 4 [a 0]++[ns,a 0,a 1,a 0,ns,a 14,a 19,a 19,a 0,a 4,a 0,a 0,a 2,a 0,d 41 0 8 1,a 0,a 0,a 0,ns,a 21,a 24,a 24,a 0,a 5]++rp 4 [a 0]++[ns,a 0,a 0,a 0,ns,a 26,a 29,a 29,a 0,a 1]++rp 4 [a 0]++[ns,a 0,a 2,a 0,ns,a 31,a 33,a 33,a 0,a 4,a 0,a 0,a 2,a 0,d 44 0 8 1,a 0,a 0,a 0,ns,a 34,a 37,a 37,a 0,a 5]++rp 4 [a 0]++[ns,a 0,a 0,a 0,ns,a 39,a 44,a 44,a 0,a 1]++rp 4 [a 0]++[ns,a 0,a 3,a 0,ns,a 46,a 52,a 52,a 0,a 4,a 0,a 0,a 2,a 0,d 45 0 8 1,a 0,a 0,a 0,ns,a 54,a 57,a 57,a 0,a 5]++rp 4 [a 0]++[ns,a 0,a 0,a 0,ns,a 59,a 62,a 62,a 0,a 1]++rp 4 [a 0]++[ns,a 0,a 4,a 0,ns,a 64,a 66,a 66,a 0,a 4,a 0,a 0,a 2,a 0,d 48 0 8 1,a 0,a 0,a 0,ns,a 67,a 70,a 70,a 0,a 5]++rp 4 [a 0]++[ns,a 0,a 0,a 0,ns,a 72,a 77,a 77])),(43,cs ([sx T c 3 0,sx T c 3 1,sx T c 3 2,sx T c 3 3,u 4,u 0,u 90,u 165,u 0,u 0]++rp 8 [uc c 3]++rp 6 [u 0]))]
theorem nc4 (T:Int→Int→Int) (c:Nat→Nat):zdy (ts 50 [(2,409),(37,57),(43,155),(49,357)]) (evCallO (zdz T) table 3000 60 11 [.c (p 0 0),.c (a 0),.agg [a 5,a 0,a 0,a 0,a 0,ns]] (hp (nB4 T c)))=some (AV.mv τ0 (at0 (ts 50 [(2,409),(37,57),(43,155),(49,357)])) (.c (t)),414,(nC4 T c).map fun b=>some (b.mv τ0 (at0 (ts 50 [(2,409),(37,57),(43,155),(49,357)])))):=by kernel_rfl
theorem nc4f (T:Int→Int→Int) (c:Nat→Nat):fit (nB4 T c) [.c (p 0 0),.c (a 0),.agg [a 5,a 0,a 0,a 0,a 0,ns]] (ts 50 [(2,409),(37,57),(43,155),(49,357)]) 414=true:=by kernel_rfl
def nA5 (T:Int→Int→Int) (c:Nat→Nat):List Blk:=pt (nC4 T c) 51 [(0,cs ([p 1 0,a 6,a 2,a 1,a 1,d 2 0 87 1,a 2,a 2])),(1,cs ([a 6,a 2,a 1,a 1,p 3 0,p 4 0,p 5 0,a 1,d 6 0 16 1,m 0,a 0,a 0,s 7 0 6 6,d 8 0 1 1,d 9 0 2 3,s 10 0 4 4,d 37 0 16 14,ch 11,a 86,a 2,f,f,f])),(2,cs (rp 87 [f])),(3,cs ([d 12 0 6 1,mp 13,a 5,a 0,f])),(7,cs (rp 6 [t])),(10,cs ([a 15,a 5]++rp 2 [a 0,a 1,a 0,a 0,m 0,ns,ns,ns,a 0,a 0,a 0,a 0]++rp 4 [a 0]++[m 0,ns,ns,ns]++rp 8 [a 0]++[m 0,ns,ns,ns,a 0,a 0])),(13,mk 5 [(0,0,d 40 0 24 1),(1,1,d 38 0 24 1),(2,2,d 42 0 24 1),(3,3,d 43 0 24 1),(4,4,d 46 0 24 1)]),(23,cs ([a 5]++rp 5 [m 0])),(28,cs ([s 33 0 32 32,a 1,a 0,a 2])),(30,cs ([a 1,a 4,a 0,f,s 47 0 16 16,a 1,a 5,a 1,t,s 50 0 16 16])),(33,cs ([t,a 1,m 0,t,m 0]++rp 30 [a 0,f,a 0]++[a 0])),(34,ck 8 []),(36,cs (rp 2 [m 1,a 0,m 0,a 0,m 0,a 0,m 0,a 0,m 0,a 0,m 0,a 0]++[m 0,a 0,m 0,a 0,m 1]++rp 14 [a 0,m 0]++[a 0,a 4]++rp 23 [a 0,m 0]++[a 0,a 5,a 1]++rp 33 [m 0,a 0]++[m 1]++rp 8 [a 0,m 0]++[a 0])),(37,cs ([a 0,a 1]++rp 4 [a 0]++[ns,a 0,a 0,a 0,ns,a 1,a 3,a 3,a 0,a 4,a 0,a 0,a 2,a 0,d 39 0 8 1,a 0,a 0,a 0,ns,a 4,a 7,a 7,a 0,a 5]++rp 4 [a 0]++[ns,a 0,a 0,a 0,ns,a 9,a 12,a 12,a 0,a 1]++rp 4 [a 0]++[ns,a 0,a 1,a 0,ns,a 14,a 19,a 19,a 0,a 4,a 0,a 0,a 2,a 0,d 41 0 8 1,a 0,a 0,a 0,ns,a 21,a 24,a 24,a 0,a 5]++rp 4 [a 0]++[ns,a 0,a 0,a 0,ns,a 26,a 29,a 29,a 0,a 1]++rp 4 [a 0]++[ns,a 0,a 2,a 0,ns,a 31,a 33,a 33,a 0,a 4,a 0,a 0,a 2,a 0,d 44 0 8 1,a 0,a 0,a 0,ns,a 34,a 37,a 37,a 0,a 5]++rp 4 [a 0]++[ns,a 0,a 0,a 0,ns,a 39,a 44,a 44,a 0,a 1]++rp 4 [a 0]++[ns,a 0,a 3,a 0,ns,a 46,a 52,a 52,a 0,a 4,a 0,a 0,a 2,a 0,d 45 0 8 1,a 0,a 0,a 0,ns,a 54,a 57,a 57,a 0,a 5]++rp 4 [a 0]++[ns,a 0,a 0,a 0,ns,a 59,a 62,a 62,a 0,a 1]++rp 4 [a 0]++[ns,a 0,a 4,a 0,ns,a 64,a 66,a 66,a 0,a 4,a 0,a 0,a 2,a 0,d 48 0 8 1,a 0,a 0,a 0,ns,a 67,a 70,a 70,a 0,a 5]++rp 4 [a 0]++[ns,a 0,a 0,a 0,ns,a 72,a 77,a 77,a 0,a 1]++rp 4 [a 0]++[ns,a 0,a 5,a 0,ns,a 79,a 85,a 85])),(46,cs ([sx T c 4 0,sx T c 4 1,sx T c 4 2,sx T c 4 3,u 5,u 0,u 90,u 165,u 0,u 0]++rp 8 [uc c 4]++rp 6 [u 0])),(50,cs (rp 16 [u 0]))]
theorem na5 (T:Int→Int→Int) (c:Nat→Nat):zdy (ts 51 [(2,513),(37,57),(46,279),(49,461),(50,444)]) (evCallO (zdz T) table 3000 60 11 [.c (p 0 0),.c (a 0),.agg [a 1,a 0,a 0,a 0,a 0,ns]] (hp (nC4 T c)))=some (AV.mv τ0 (at0 (ts 51 [(2,513),(37,57),(46,279),(49,461),(50,444)])) (.c (t)),518,(nA5 T c).map fun b=>some (b.mv τ0 (at0 (ts 51 [(2,513),(37,57),(46,279),(49,461),(50,444)])))):=by kernel_rfl
theorem na5f (T:Int→Int→Int) (c:Nat→Nat):fit (nC4 T c) [.c (p 0 0),.c (a 0),.agg [a 1,a 0,a 0,a 0,a 0,ns]] (ts 51 [(2,513),(37,57),(46,279),(49,461),(50,444)]) 518=true:=by kernel_rfl
def nD5 (T:Int→Int→Int) (c:Nat→Nat):List Blk:=nA5 T c++[cs (rp 8 [uc c 5])]
def nB5 (T:Int→Int→Int) (c:Nat→Nat):List Blk:=pt (nD5 T c) 52 [(0,cs ([p 1 0,a 6,a 2,a 1,a 1,d 2 0 92 1,a 2,a 2])),(1,cs ([a 6,a 2,a 1,a 1,p 3 0,p 4 0,p 5 0,a 1,d 6 0 16 1,m 0,a 0,a 0,s 7 0 6 6,d 8 0 1 1,d 9 0 2 3,s 10 0 4 4,d 37 0 17 14,ch 11,a 91,a 2,f,f,f])),(2,cs (rp 92 [f])),(10,cs ([a 16,a 5]++rp 4 [a 0]++[m 0,ns,ns,ns]++rp 5 [a 0]++[a 1]++rp 2 [a 0,a 0,m 0,ns,ns,ns,a 0,a 0,a 0,a 0,a 0,a 0]++[a 0,a 0,m 0,ns,ns,ns,a 0,a 0])),(16,cs ([p 24 0,m 0,ns,s 51 0 0 0,d 25 0 2 1,mp 26])),(34,ck 8 [.c (a 1)]),(37,cs ([a 0,a 1]++rp 4 [a 0]++[ns,a 0,a 0,a 0,ns,a 1,a 3,a 3,a 0,a 4,a 0,a 0,a 2,a 0,d 39 0 8 1,a 0,a 0,a 0,ns,a 4,a 7,a 7,a 0,a 5]++rp 4 [a 0]++[ns,a 0,a 0,a 0,ns,a 9,a 12,a 12,a 0,a 1]++rp 4 [a 0]++[ns,a 0,a 1,a 0,ns,a 14,a 19,a 19,a 0,a 4,a 0,a 0,a 2,a 0,d 41 0 8 1,a 0,a 0,a 0,ns,a 21,a 24,a 24,a 0,a 5]++rp 4 [a 0]++[ns,a 0,a 0,a 0,ns,a 26,a 29,a 29,a 0,a 1]++rp 4 [a 0]++[ns,a 0,a 2,a 0,ns,a 31,a 33,a 33,a 0,a 4,a 0,a 0,a 2,a 0,d 44 0 8 1,a 0,a 0,a 0,ns,a 34,a 37,a 37,a 0,a 5]++rp 4 [a 0]++[ns,a 0,a 0,a 0,ns,a 39,a 44,a 44,a 0,a 1]++rp 4 [a 0]++[ns,a 0,a 3,a 0,ns,a 46,a 52,a 52,a 0,a 4,a 0,a 0,a 2,a 0,d 45 0 8 1,a 0,a 0,a 0,ns,a 54,a 57,a 57,a 0,a 5]++rp 4 [a 0]++[ns,a 0,a 0,a 0,ns,a 59,a 62,a 62,a 0,a 1]++rp 4 [a 0]++[ns,a 0,a 4,a 0,ns,a 64,a 66,a 66,a 0,a 4,a 0,a 0,a 2,a 0,d 48 0 8 1,a 0,a 0,a 0,ns,a 67,a 70,a 70,a 0,a 5]++rp 4 [a 0]++[ns,a 0,a 0,a 0,ns,a 72,a 77,a 77,a 0,a 1]++rp 4 [a 0]++[ns,a 0,a 5,a 0,ns,a 79,a 85,a 85,a 0,a 4,a 0,a 0,a 2,a 0,d 49 0 8 1,a 0,a 0,a 0,ns,a 87,a 90,a 90])),(49,cs (rp 8 [uc c 5])),(50,cs ([u 0,u 0]++rp 8 [uc c 5]++rp 6 [u 0])),(51,cs ([]))]
theorem nb5 (T:Int→Int→Int) (c:Nat→Nat):zdy (ts 52 [(2,331),(37,61),(49,59),(51,279)]) (evCallO (zdz T) table 3000 60 11 [.c (p 0 0),.c (a 0),.agg [a 4,a 0,a 0,a 2,a 0,s 51 0 8 8]] (hp (nD5 T c)))=some (AV.mv τ0 (at0 (ts 52 [(2,331),(37,61),(49,59),(51,279)])) (.c (t)),336,(nB5 T c).map fun b=>some (b.mv τ0 (at0 (ts 52 [(2,331),(37,61),(49,59),(51,279)])))):=by kernel_rfl
theorem nb5f (T:Int→Int→Int) (c:Nat→Nat):fit (nD5 T c) [.c (p 0 0),.c (a 0),.agg [a 4,a 0,a 0,a 2,a 0,s 51 0 8 8]] (ts 52 [(2,331),(37,61),(49,59),(51,279)]) 336=true:=by kernel_rfl
def nC5 (T:Int→Int→Int) (c:Nat→Nat):List Blk:=pt (nB5 T c) 52 [(0,cs ([p 1 0,a 6,a 2,a 1,a 1,d 2 0 97 1,a 2,a 2])),(1,cs ([a 6,a 2,a 1,a 1,p 3 0,p 4 0,p 5 0,a 1,d 6 0 16 1,m 0,a 0,a 0,s 7 0 6 6,d 8 0 1 1,d 9 0 2 3,s 10 0 4 4,d 37 0 18 14,ch 11,a 96,a 2,f,f,f])),(2,cs (rp 97 [f])),(10,cs ([a 17,a 5]++rp 4 [a 0]++[m 0,ns,ns,ns]++rp 5 [a 0]++[a 1]++rp 2 [a 0,a 0,m 0,ns,ns,ns,a 0,a 0,a 0,a 0,a 0,a 0]++[a 0,a 0,m 0,ns,ns,ns,a 0,a 0])),(14,cs ([a 3,a 2,m 0,a 3]++rp 2 [a 0,m 0,a 0]++[a 0,m 0])),(23,cs (rp 6 [m 0])),(30,cs ([a 1,a 4,a 0,f,s 47 0 16 16,a 1,a 5,a 0,t,s 50 0 16 16])),(34,ck 8 [.c (a 1),.c (a 1)]),(37,cs ([a 0,a 1]++rp 4 [a 0]++[ns,a 0,a 0,a 0,ns,a 1,a 3,a 3,a 0,a 4,a 0,a 0,a 2,a 0,d 39 0 8 1,a 0,a 0,a 0,ns,a 4,a 7,a 7,a 0,a 5]++rp 4 [a 0]++[ns,a 0,a 0,a 0,ns,a 9,a 12,a 12,a 0,a 1]++rp 4 [a 0]++[ns,a 0,a 1,a 0,ns,a 14,a 19,a 19,a 0,a 4,a 0,a 0,a 2,a 0,d 41 0 8 1,a 0,a 0,a 0,ns,a 21,a 24,a 24,a 0,a 5]++rp 4 [a 0]++[ns,a 0,a 0,a 0,ns,a 26,a 29,a 29,a 0,a 1]++rp 4 [a 0]++[ns,a 0,a 2,a 0,ns,a 31,a 33,a 33,a 0,a 4,a 0,a 0,a 2,a 0,d 44 0 8 1,a 0,a 0,a 0,ns,a 34,a 37,a 37,a 0,a 5]++rp 4 [a 0]++[ns,a 0,a 0,a 0,ns,a 39,a 44,a 44,a 0,a 1]++rp 4 [a 0]++[ns,a 0,a 3,a 0,ns,a 46,a 52,a 52,a 0,a 4,a 0,a 0,a 2,a 0,d 45 0 8 1,a 0,a 0,a 0,ns,a 54,a 57,a 57,a 0,a 5]++rp 4 [a 0]++[ns,a 0,a 0,a 0,ns,a 59,a 62,a 62,a 0,a 1]++rp 4 [a 0]++[ns,a 0,a 4,a 0,ns,a 64,a 66,a 66,a 0,a 4,a 0,a 0,a 2,a 0,d 48 0 8 1,a 0,a 0,a 0,ns,a 67,a 70,a 70,a 0,a 5]++rp 4 [a 0]++[ns,a 0,a 0,a 0,ns,a 72,a 77,a 77,a 0,a 1]++rp 4 [a 0]++[ns,a 0,a 5,a 0,ns,a 79,a 85,a 85,a 0,a 4,a 0,a 0,a 2,a 0,d 49 0 8 1,a 0,a 0,a 0,ns,a 87,a 90,a 90,a 0,a 5]++rp 4 [a 0]++[ns,a 0,a 0,a 0,ns,a 92,a 95,a 95]))]
theorem nc5 (T:Int→Int→Int) (c:Nat→Nat):zdy (ts 52 [(2,320),(37,59),(51,268)]) (evCallO (zdz T) table 3000 60 11 [.c (p 0 0),.c (a 0),.agg [a 5,a 0,a 0,a 0,a 0,ns]] (hp (nB5 T c)))=some (AV.mv τ0 (at0 (ts 52 [(2,320),(37,59),(51,268)])) (.c (t)),325,(nC5 T c).map fun b=>some (b.mv τ0 (at0 (ts 52 [(2,320),(37,59),(51,268)])))):=by kernel_rfl
theorem nc5f (T:Int→Int→Int) (c:Nat→Nat):fit (nB5 T c) [.c (p 0 0),.c (a 0),.agg [a 5,a 0,a 0,a 0,a 0,ns]] (ts 52 [(2,320),(37,59),(51,268)]) 325=true:=by kernel_rfl
def nDU (T:Int→Int→Int) (c:Nat→Nat):List Blk:=pt (nC5 T c) 59 [(52,cs ([d 53 0 24 1,d 54 0 24 1,d 55 0 24 1,d 56 0 24 1,d 57 0 24 1,d 58 0 24 1])),(53,cs (rp 24 [u 0])),(54,cs (rp 24 [u 0])),(55,cs (rp 24 [u 0])),(56,cs (rp 24 [u 0])),(57,cs (rp 24 [u 0])),(58,cs (rp 24 [u 0]))]
theorem nd (T:Int→Int→Int) (c:Nat→Nat):zdy (ts 59 [(52,75),(54,57),(55,61),(56,65),(57,69),(58,73)]) (evCallO (zdz T) table 3000 60 15 [.c (p 1 0)] (hp (nC5 T c)))=some (AV.mv τ0 (at0 (ts 59 [(52,75),(54,57),(55,61),(56,65),(57,69),(58,73)])) (.c (d 52 0 6 1)),76,(nDU T c).map fun b=>some (b.mv τ0 (at0 (ts 59 [(52,75),(54,57),(55,61),(56,65),(57,69),(58,73)])))):=by kernel_rfl
end Q
end Lav
set_option linter.unusedSimpArgs false
set_option linter.unusedVariables false
namespace Lav
def hk (l:List Blk):List Nat→Heap
 | []=>hp l
 | i :: r=>(hk l r).kill i
theorem zh4 (l:List Blk):∀ r,(hk l r).next=l.length
 | []=>rfl
 | _ :: r=>zh4 l r
theorem zj8 (l:List Blk) (i:Nat):∀ r,(hk l r).get i=if i∈r then none else l[i]?
 | []=>by rw [if_neg (by simp)];exact zhw l i
 | k :: r=>by
  show ((hk l r).kill k).get i=_
  rw [Heap.get_kill]
  unfold upd
  by_cases h:i=k
  ·subst h;simp
  ·have e:=zj8 l i r
   simp only [h,if_false,List.mem_cons,false_or,e]
def live (m:Nat) (dead:List Nat):List Nat:=(List.range m).filter fun i=>!(dead.any fun j=>Nat.beq i j)
def zgg (m:Nat) (dead ts:List Nat) (x:Option (AV × Heap)):Option (AV × Nat × List (Option Blk) × List (Option Blk)):=match x with
 | some (r,h)=>some (r,h.next,(live m dead).map h.get,ts.map h.get)
 | none=>none
theorem live_mem {m i:Nat} {dead:List Nat}:i∈live m dead↔i < m∧i ∉ dead:=by
 unfold live
 rw [List.mem_filter,List.mem_range]
 refine and_congr_right fun _=>?_
 rw [Bool.not_eq_true',List.any_eq_false]
 refine ⟨fun h hm=>h i hm (Nat.beq_refl i),fun h j hj hb=>h (Nat.eq_of_beq_eq_true hb ▸ hj)⟩
theorem obs {o o':Over} {table:List (Nat × IRF)} (hT:clT table=true) (hO:OverM2 o o' table) {N d N' d' f:Nat} (hN:N≤N') (h20:20≤N') (hd:d≤d') {args:List AV} {l news:List Blk} {dead ts:List Nat} {n:Nat} {r:AV}
  (he:zgg l.length dead ts (evCallO o table N d f args (hk l dead))=some (r,n,(live l.length dead).map (fun i=>l[i]?),news.map some)) (hf:fit l args ts n=true)
  {ρ:Nat→Nat} {g:Heap} (E:Emb ρ (hk l dead) g) :
  ∃ g',evCallO o' table N' d' f (mva τ0 ρ args) g=some (r.mv τ0 (ext ρ l.length g.next),g')∧Ext g g'∧∀ (j:Nat) (b:Blk),news[j]? = some b→∃ t,ts[j]? = some t∧ext ρ l.length g.next t < g'.next∧g'.get (ext ρ l.length g.next t)=some (b.mv τ0 (ext ρ l.length g.next)):=by
 unfold fit at hf
 simp only [Bool.and_eq_true] at hf
 obtain ⟨f1,f2,-,f4⟩:=hf
 unfold zgg at he
 split at he
 ·rename_i r0 h' hev
  simp only [Option.some.injEq,Prod.mk.injEq] at he
  obtain ⟨rfl,rfl,hlv,hts⟩:=he
  obtain ⟨g',e,at_,inj,⟨m,n1,n2⟩,fr,dd⟩:=zp7 hT hO hN h20 hd τ0 hev E (fun i b hb=>by
   rw [zj8] at hb
   split at hb
   ·cases hb
   ·obtain ⟨hi,rfl⟩:=List.getElem?_eq_some_iff.1 hb
    have:=List.all_eq_true.1 f1 _ (List.getElem_mem hi)
    rw [Bool.and_eq_true] at this
    rw [zh4]
    exact this) (by rw [zh4];exact f2)
  rw [zh4] at e at_ inj n1
  have hsame:∀ i,(hk l dead).get i≠none→h'.get i=(hk l dead).get i:=by
   intro i hi
   have hg:=zj8 l i dead
   by_cases hd:i∈dead
   ·rw [if_pos hd] at hg;exact absurd hg hi
   ·rw [if_neg hd] at hg
    have hil:i < l.length:=by
     refine Classical.byContradiction fun hn=>hi (hg.trans (List.getElem?_eq_none (by omega)))
    have hm:i∈live l.length dead:=live_mem.2 ⟨hil,hd⟩
    obtain ⟨j,hj,hij⟩:=List.getElem_of_mem hm
    have:=congrArg (fun x=>x[j]?) hlv
    simp only [List.getElem?_map,List.getElem?_eq_getElem hj,Option.map_some,Option.some.injEq,hij] at this
    rw [this,hg]
  refine ⟨g',e,⟨by omega,fun k hk=>?_⟩,fun j b hb=>?_⟩
  ·by_cases c:∃ i,(Lav.hk l dead).get i≠none∧ρ i=k
   ·obtain ⟨i,hi,rfl⟩:=c
    cases hg:(Lav.hk l dead).get i with
    | none=>exact absurd hg hi
    | some b =>
     obtain ⟨h1,h2,h3⟩:=E.at_ i b hg
     rw [zh4] at h1
     have:=at_ i b ((hsame i hi).trans hg)
     have ex:ext ρ l.length g.next i=ρ i:=if_pos h1
     rw [ex] at this
     rw [this,h3]
     have nt:b.lt l.length=true:=by
      rw [zj8] at hg
      split at hg
      ·cases hg
      ·obtain ⟨hi',rfl⟩:=List.getElem?_eq_some_iff.1 hg
       have:=List.all_eq_true.1 f1 _ (List.getElem_mem hi')
       rw [Bool.and_eq_true] at this
       exact this.1
     refine congrArg some ?_
     exact Blk.mv_congr (n:=l.length) (fun j hj=>if_pos hj) nt
   ·exact fr k hk fun i hi he=>c ⟨i,hi,he⟩
  ·have:=congrArg (fun x=>x[j]?) hts
   simp only [List.getElem?_map,hb,Option.map_some] at this
   cases ht:ts[j]? with
   | none=>rw [ht] at this;cases this
   | some t =>
    rw [ht] at this
    simp only [Option.map_some,Option.some.injEq] at this
    refine ⟨t,rfl,?_,at_ t b this⟩
    have ht':t < h'.next:=ltB (List.all_eq_true.1 f4 _ (List.mem_of_getElem? ht))
    unfold ext
    by_cases c:t < l.length
    ·rw [if_pos c]
     have hl:(Lav.hk l dead).get t≠none:=fun hd=>by rw [dd t (by rw [zh4];exact c) hd] at this;cases this
     cases hg:(Lav.hk l dead).get t with
     | none=>exact absurd hg hl
     | some b=>have:=(E.at_ _ b hg).2.1;omega
    ·rw [if_neg c];omega
 ·cases he
end Lav
set_option maxRecDepth 100000
set_option linter.unusedVariables false
namespace Lav
namespace Q
def nX (T:Int→Int→Int) (c:Nat→Nat):List Blk:=pt (nC5 T c) 52 [(0,cs []),(1,cs ([a 6,a 2,a 1,a 1,p 3 0,p 4 0,p 5 0,a 1,d 6 0 16 1,m 0,a 0,a 0,s 7 0 6 6,d 8 0 1 1,d 9 0 2 3,s 10 0 4 4,d 37 0 18 14,ch 11,a 97,a 2,f,f,t])),(2,cs []),(3,cs []),(12,cs []),(13,cs [])]
theorem oh (T:Int→Int→Int) (c:Nat→Nat):zgg (nC5 T c).length [] [53,55,57,59,61,63,65] (evCallO (zdz T) table 3000 60 12 [.c (p 1 0)] (hk (nC5 T c) []))=some (.c (d 53 0 18 14),66,(live (nC5 T c).length []).map (fun i=>(nC5 T c)[i]?),([cs ([a 0,a 1]++rp 4 [a 0]++[ns,a 0,a 0,a 0,ns,a 1,a 3,a 3,a 0,a 4,a 0,a 0,a 2,a 0,d 55 0 8 1,a 0,a 0,a 0,ns,a 4,a 7,a 7,a 0,a 5]++rp 4 [a 0]++[ns,a 0,a 0,a 0,ns,a 9,a 12,a 12,a 0,a 1]++rp 4 [a 0]++[ns,a 0,a 1,a 0,ns,a 14,a 19,a 19,a 0,a 4,a 0,a 0,a 2,a 0,d 57 0 8 1,a 0,a 0,a 0,ns,a 21,a 24,a 24,a 0,a 5]++rp 4 [a 0]++[ns,a 0,a 0,a 0,ns,a 26,a 29,a 29,a 0,a 1]++rp 4 [a 0]++[ns,a 0,a 2,a 0,ns,a 31,a 33,a 33,a 0,a 4,a 0,a 0,a 2,a 0,d 59 0 8 1,a 0,a 0,a 0,ns,a 34,a 37,a 37,a 0,a 5]++rp 4 [a 0]++[ns,a 0,a 0,a 0,ns,a 39,a 44,a 44,a 0,a 1]++rp 4 [a 0]++[ns,a 0,a 3,a 0,ns,a 46,a 52,a 52,a 0,a 4,a 0,a 0,a 2,a 0,d 61 0 8 1,a 0,a 0,a 0,ns,a 54,a 57,a 57,a 0,a 5]++rp 4 [a 0]++[ns,a 0,a 0,a 0,ns,a 59,a 62,a 62,a 0,a 1]++rp 4 [a 0]++[ns,a 0,a 4,a 0,ns,a 64,a 66,a 66,a 0,a 4,a 0,a 0,a 2,a 0,d 63 0 8 1,a 0,a 0,a 0,ns,a 67,a 70,a 70,a 0,a 5]++rp 4 [a 0]++[ns,a 0,a 0,a 0,ns,a 72,a 77,a 77,a 0,a 1]++rp 4 [a 0]++[ns,a 0,a 5,a 0,ns,a 79,a 85,a 85,a 0,a 4,a 0,a 0,a 2,a 0,d 65 0 8 1,a 0,a 0,a 0,ns,a 87,a 90,a 90,a 0,a 5]++rp 4 [a 0]++[ns,a 0,a 0,a 0,ns,a 92,a 95,a 95]),cs (rp 8 [uc c 0]),cs (rp 8 [uc c 1]),cs (rp 8 [uc c 2]),cs (rp 8 [uc c 3]),cs (rp 8 [uc c 4]),cs (rp 8 [uc c 5])]:List Blk).map some):=by kernel_rfl
theorem ohf (T:Int→Int→Int) (c:Nat→Nat):fit (nC5 T c) [.c (p 1 0)] [53,55,57,59,61,63,65] 66=true:=by kernel_rfl
theorem xh (T:Int→Int→Int) (c:Nat→Nat):zgg (nX T c).length [0,2,3,12,13] [53,55,57,59,61,63,65] (evCallO (zdz T) table 3000 60 12 [.c (p 1 0)] (hk (nX T c) [0,2,3,12,13]))=some (.c (d 53 0 18 14),66,(live (nX T c).length [0,2,3,12,13]).map (fun i=>(nX T c)[i]?),([cs ([a 0,a 1]++rp 4 [a 0]++[ns,a 0,a 0,a 0,ns,a 1,a 3,a 3,a 0,a 4,a 0,a 0,a 2,a 0,d 55 0 8 1,a 0,a 0,a 0,ns,a 4,a 7,a 7,a 0,a 5]++rp 4 [a 0]++[ns,a 0,a 0,a 0,ns,a 9,a 12,a 12,a 0,a 1]++rp 4 [a 0]++[ns,a 0,a 1,a 0,ns,a 14,a 19,a 19,a 0,a 4,a 0,a 0,a 2,a 0,d 57 0 8 1,a 0,a 0,a 0,ns,a 21,a 24,a 24,a 0,a 5]++rp 4 [a 0]++[ns,a 0,a 0,a 0,ns,a 26,a 29,a 29,a 0,a 1]++rp 4 [a 0]++[ns,a 0,a 2,a 0,ns,a 31,a 33,a 33,a 0,a 4,a 0,a 0,a 2,a 0,d 59 0 8 1,a 0,a 0,a 0,ns,a 34,a 37,a 37,a 0,a 5]++rp 4 [a 0]++[ns,a 0,a 0,a 0,ns,a 39,a 44,a 44,a 0,a 1]++rp 4 [a 0]++[ns,a 0,a 3,a 0,ns,a 46,a 52,a 52,a 0,a 4,a 0,a 0,a 2,a 0,d 61 0 8 1,a 0,a 0,a 0,ns,a 54,a 57,a 57,a 0,a 5]++rp 4 [a 0]++[ns,a 0,a 0,a 0,ns,a 59,a 62,a 62,a 0,a 1]++rp 4 [a 0]++[ns,a 0,a 4,a 0,ns,a 64,a 66,a 66,a 0,a 4,a 0,a 0,a 2,a 0,d 63 0 8 1,a 0,a 0,a 0,ns,a 67,a 70,a 70,a 0,a 5]++rp 4 [a 0]++[ns,a 0,a 0,a 0,ns,a 72,a 77,a 77,a 0,a 1]++rp 4 [a 0]++[ns,a 0,a 5,a 0,ns,a 79,a 85,a 85,a 0,a 4,a 0,a 0,a 2,a 0,d 65 0 8 1,a 0,a 0,a 0,ns,a 87,a 90,a 90,a 0,a 5]++rp 4 [a 0]++[ns,a 0,a 0,a 0,ns,a 92,a 95,a 95]),cs (rp 8 [uc c 0]),cs (rp 8 [uc c 1]),cs (rp 8 [uc c 2]),cs (rp 8 [uc c 3]),cs (rp 8 [uc c 4]),cs (rp 8 [uc c 5])]:List Blk).map some):=by kernel_rfl
theorem xhf (T:Int→Int→Int) (c:Nat→Nat):fit (nX T c) [.c (p 1 0)] [53,55,57,59,61,63,65] 66=true:=by kernel_rfl
theorem of (T:Int→Int→Int) (c:Nat→Nat):zgg (nC5 T c).length [] [67] (evCallO (zdz T) table 3000 60 31 [.c (p 1 0)] (hk (nC5 T c) []))=some (.c (d 67 0 2 5),68,(live (nC5 T c).length []).map (fun i=>(nC5 T c)[i]?),([cs ([a 1,a 4,a 0,a 0,f,a 1,a 5,a 0,a 0,t])]:List Blk).map some):=by kernel_rfl
theorem off (T:Int→Int→Int) (c:Nat→Nat):fit (nC5 T c) [.c (p 1 0)] [67] 68=true:=by kernel_rfl
theorem xf (T:Int→Int→Int) (c:Nat→Nat):zgg (nX T c).length [0,2,3,12,13] [67] (evCallO (zdz T) table 3000 60 31 [.c (p 1 0)] (hk (nX T c) [0,2,3,12,13]))=some (.c (d 67 0 2 5),68,(live (nX T c).length [0,2,3,12,13]).map (fun i=>(nX T c)[i]?),([cs ([a 1,a 4,a 0,a 0,f,a 1,a 5,a 0,a 0,t])]:List Blk).map some):=by kernel_rfl
theorem xff (T:Int→Int→Int) (c:Nat→Nat):fit (nX T c) [.c (p 1 0)] [67] 68=true:=by kernel_rfl
theorem ocap (T:Int→Int→Int) (c:Nat→Nat):zgg (nC5 T c).length [] [] (evCallO (zdz T) table 3000 60 18 [.c (p 1 0)] (hk (nC5 T c) []))=some (.c (a 2),54,(live (nC5 T c).length []).map (fun i=>(nC5 T c)[i]?),([]:List Blk).map some):=by kernel_rfl
theorem ocapf (T:Int→Int→Int) (c:Nat→Nat):fit (nC5 T c) [.c (p 1 0)] [] 54=true:=by kernel_rfl
theorem xcap (T:Int→Int→Int) (c:Nat→Nat):zgg (nX T c).length [0,2,3,12,13] [] (evCallO (zdz T) table 3000 60 18 [.c (p 1 0)] (hk (nX T c) [0,2,3,12,13]))=some (.c (a 2),54,(live (nX T c).length [0,2,3,12,13]).map (fun i=>(nX T c)[i]?),([]:List Blk).map some):=by kernel_rfl
theorem xcapf (T:Int→Int→Int) (c:Nat→Nat):fit (nX T c) [.c (p 1 0)] [] 54=true:=by kernel_rfl
theorem owk (T:Int→Int→Int) (c:Nat→Nat):zgg (nC5 T c).length [] [] (evCallO (zdz T) table 3000 60 40 [.c (p 1 0)] (hk (nC5 T c) []))=some (.c (f),52,(live (nC5 T c).length []).map (fun i=>(nC5 T c)[i]?),([]:List Blk).map some):=by kernel_rfl
theorem owkf (T:Int→Int→Int) (c:Nat→Nat):fit (nC5 T c) [.c (p 1 0)] [] 52=true:=by kernel_rfl
theorem xwk (T:Int→Int→Int) (c:Nat→Nat):zgg (nX T c).length [0,2,3,12,13] [] (evCallO (zdz T) table 3000 60 40 [.c (p 1 0)] (hk (nX T c) [0,2,3,12,13]))=some (.c (f),52,(live (nX T c).length [0,2,3,12,13]).map (fun i=>(nX T c)[i]?),([]:List Blk).map some):=by kernel_rfl
theorem xwkf (T:Int→Int→Int) (c:Nat→Nat):fit (nX T c) [.c (p 1 0)] [] 52=true:=by kernel_rfl
theorem odn (T:Int→Int→Int) (c:Nat→Nat):zgg (nC5 T c).length [] [] (evCallO (zdz T) table 3000 60 38 [.c (p 1 0)] (hk (nC5 T c) []))=some (.c (f),52,(live (nC5 T c).length []).map (fun i=>(nC5 T c)[i]?),([]:List Blk).map some):=by kernel_rfl
theorem odnf (T:Int→Int→Int) (c:Nat→Nat):fit (nC5 T c) [.c (p 1 0)] [] 52=true:=by kernel_rfl
theorem xdn (T:Int→Int→Int) (c:Nat→Nat):zgg (nX T c).length [0,2,3,12,13] [] (evCallO (zdz T) table 3000 60 38 [.c (p 1 0)] (hk (nX T c) [0,2,3,12,13]))=some (.c (t),52,(live (nX T c).length [0,2,3,12,13]).map (fun i=>(nX T c)[i]?),([]:List Blk).map some):=by kernel_rfl
theorem xdnf (T:Int→Int→Int) (c:Nat→Nat):fit (nX T c) [.c (p 1 0)] [] 52=true:=by kernel_rfl
theorem onw (T:Int→Int→Int) (c:Nat→Nat):zgg (nC5 T c).length [] [] (evCallO (zdz T) table 3000 60 37 [.c (p 1 0)] (hk (nC5 T c) []))=some (.c (a 96),52,(live (nC5 T c).length []).map (fun i=>(nC5 T c)[i]?),([]:List Blk).map some):=by kernel_rfl
theorem onwf (T:Int→Int→Int) (c:Nat→Nat):fit (nC5 T c) [.c (p 1 0)] [] 52=true:=by kernel_rfl
theorem xnw (T:Int→Int→Int) (c:Nat→Nat):zgg (nX T c).length [0,2,3,12,13] [] (evCallO (zdz T) table 3000 60 37 [.c (p 1 0)] (hk (nX T c) [0,2,3,12,13]))=some (.c (a 97),52,(live (nX T c).length [0,2,3,12,13]).map (fun i=>(nX T c)[i]?),([]:List Blk).map some):=by kernel_rfl
theorem xnwf (T:Int→Int→Int) (c:Nat→Nat):fit (nX T c) [.c (p 1 0)] [] 52=true:=by kernel_rfl
end Q
end Lav
set_option maxRecDepth 100000
namespace Lav
open Go (IntKind)
structure OpM where
 kd:Int
 pg:Int
 hd:Int
 off:Int
 n:Int
 data:List (BitVec 8)
structure ResM where
 code:Int
 rp:Int
 rh:Int
 rd:List (BitVec 8)
def opC (o:OpM) (dc:CV):List CV:=[zb9 o.kd,zb9 o.pg,zb9 o.hd,zb9 o.off,zb9 o.n,dc]
def zdc (r:ResM) (rc:CV):List CV:=[zb9 r.code,zb9 r.rp,zb9 r.rh,rc]
def zdk (c:Int):ResM:=⟨c,0,0,[]⟩
def okR:ResM:=⟨0,0,0,[]⟩
def z16:List (BitVec 8):=List.replicate 16 0#8
def MS.setB (s:MS) (g:Nat) (b:List (BitVec 8)):MS:={ s with bd:=s.bd.set g b }
def MS.setP (s:MS) (g:Nat) (t:Bool):MS:={ s with th:=s.th.set g t,bd:=s.bd.set g z16 }
def zd6:List Bool→Nat
 | []=>0
 | b :: r=>bif b then zd6 r + 1 else 0
theorem zo4:∀ l,zd6 l≤l.length
 | []=>Nat.le_refl _
 | a :: r=>by unfold zd6;have:=zo4 r;cases a<;>simp;omega
theorem zo5:∀ {l:List Bool} {i:Nat},i < zd6 l→l.getD i false=true
 | [],i,h=>by simp [zd6] at h
 | false :: r,i,h=>by simp [zd6] at h
 | true :: r,i,h=>by
  cases i with
  | zero=>rfl
  | succ i=>simpa using zo5 (l:=r) (i:=i) (by simpa [zd6] using h)
theorem zo6:∀ {l:List Bool},zd6 l < l.length→l.getD (zd6 l) false=false
 | [],h=>by simp [zd6] at h
 | false :: r,h=>by simp [zd6]
 | true :: r,h=>by simpa [zd6] using zo6 (l:=r) (by simpa [zd6] using h)
def doF (s:MS) (c:Nat) (o:OpM):ResM × MS :=
 if o.kd=1 then
  if zda (s.hg c) < 6 then
   if zd6 s.th < s.th.length then (⟨0,zd6 s.th,zda (s.hg c),[]⟩,(s.setP (zd6 s.th) true).setH c (zda (s.hg c)) (zd6 s.th))
   else (zdk 3,s)
  else (zdk 4,s)
 else if o.kd=2∨o.kd=6∨o.kd=8 then
  if o.pg < 0∨(s.th.length:Int)≤o.pg then (zdk 1,s)
  else if s.th.getD o.pg.toNat false=false then (zdk 2,s)
  else if o.kd=2 then
   if zda (s.hg c) < 6 then (⟨0,o.pg,zda (s.hg c),[]⟩,s.setH c (zda (s.hg c)) o.pg) else (zdk 4,s)
  else if o.kd=6 then (okR,s)
  else if 0 < zer s.hs o.pg then (zdk 7,s) else (okR,s.setP o.pg.toNat false)
 else if o.kd=7 then (okR,s)
 else if zd7 s.hs c o.hd < 0 then (zdk 5,s)
 else if o.kd=3 then
  if o.off < 0∨o.n < 0∨16 < o.off∨16 - o.off < o.n then (zdk 6,s)
  else (⟨0,0,0,((s.bd.getD (zd7 s.hs c o.hd).toNat []).drop o.off.toNat).take o.n.toNat⟩,s)
 else if o.kd=4 then
  if o.off < 0∨16 < o.off∨16 - o.off < (o.data.length:Int) then (zdk 6,s)
  else (okR,s.setB (zd7 s.hs c o.hd).toNat (zhy (s.bd.getD (zd7 s.hs c o.hd).toNat []) o.data o.off.toNat))
 else (okR,s.setH c o.hd.toNat (-1))
section
variable {N d:Nat} {h:Heap} {x:List CV} {z:SP} {s:MS}
theorem zg8 (c:Int) (h:Heap):∃ h',evCallO OS table N (d + 1) 133 [.c (.int .i64 c)] h=some (.agg (zdc (zdk c) .nils),h')∧Ext h h':=by
 have e1:=(Ext.refl h).new (.cells [.int .i64 0,.int .i64 0,.int .i64 0,.nils])
 have w:=zg5 (h:=h.new (.cells [.int .i64 0,.int .i64 0,.int .i64 0,.nils])) (i:=h.next) (o:=0) (vs:=zdc (zdk c) .nils) zb8 (by simp [zdc])
 have r:((h.new (.cells [.int .i64 0,.int .i64 0,.int .i64 0,.nils])).put h.next (.cells (zdc (zdk c) .nils))).read h.next 0 4=some (zdc (zdk c) .nils):=by
  rw [zdi zc9 (by simp [zdc])];rfl
 rw [zbp (F:=ir133) rfl rfl rfl]
 unfold ir133
 rw [zbv]
 simp only [zdc,zdk,zb9] at w r ⊢
 simp only [List.take_zero,List.nil_append,List.length_cons,List.length_nil,List.drop_succ_cons,List.drop_nil,List.append_nil,Nat.zero_add,Nat.reduceAdd] at w
 simp only [zbm,zap,zac,zaq,zbq,zad,zai,zab,zae,zaf,zar,zbn,zbg,zbb,zbi,zbh,zag,zaw,X.eval,zak,zah,List.map_cons,List.map_nil,List.getD_cons_zero,List.getD_cons_succ,List.getD_nil,List.set_cons_zero,List.set_cons_succ,cond_true,BEq.rfl,zb4,zb7,AV.cells,AV.ofCells,List.length_cons,List.length_nil,zdo,setMany,Nat.ble,Nat.zero_add,Nat.reduceAdd,zds,zdl,zbl,w,zbu,RV.eval,r]
 exact ⟨_,rfl,e1.put (Nat.le_refl _) _⟩
theorem zqb (h:Heap):∃ h',evCallO OS table N (d + 1) 97 [] h=some (.c (zgz z16),h')∧Ext h h':=by
 have e1:=(Ext.refl h).new (.cells (u8s z16))
 have hz:zeros 16 [.int .u8 0]=u8s z16:=znw 16
 have b:za2 [.c (.str [])] [.c (.sl h.next 0 16 (.ex 16))] (h.new (.cells (u8s z16))) (.b2s (.val 0))=some (.c (.str (strOf z16))):=by
  refine zlu (bs:=z16) rfl ?_
  rw [zl5 zb8 (by simp [z16])];rfl
 rw [zbp (F:=ir97) rfl rfl rfl]
 unfold ir97
 rw [zbv]
 have n16:zdu (.c (.int .i64 16))=some 16:=rfl
 have c1:(Nat.ble 16 16 && Nat.ble 16 1073741824 && [CV.int .u8 0].length == 1)=true:=rfl
 simp only [zbm,List.map_cons,List.map_nil,List.getD_nil,zap,zaq,zad,zai,zab,zae,zar,znm,zbh,X.eval,n16,c1,cond_true,zaw,zaf,hz,zah,List.set_cons_zero,zac]
 rw [show zdg [.c (.str [])] [.c (.sl h.next 0 16 (.ex 16))] (evCallO OS table N d) (h.new (.cells (u8s z16))) (.b2s (.val 0))=zew (h.new (.cells (u8s z16))) (za2 [.c (.str [])] [.c (.sl h.next 0 16 (.ex 16))] (h.new (.cells (u8s z16))) (.b2s (.val 0))) from rfl,b]
 simp only [zac,zbq,zad,zai,zab,zae,zaf,zar,zbb,zbi,zag,X.eval,zak,zah,List.getD_cons_zero,List.set_cons_zero,zbu,RV.eval]
 exact ⟨_,rfl,e1⟩
end
end Lav
set_option maxRecDepth 100000
namespace Lav
open Go (IntKind)
structure Boxed (h H:Heap) (b e:Nat) (x op:List CV):Prop where
 ext:Ext h H
 xa:H.get h.next=some (.cells x)
 ob:H.get b=some (.cells op)
 re:H.get e=some (.cells [.int .i64 0,.int .i64 0,.int .i64 0,.nils])
 eb:b=h.next + 1
 ee:e=h.next + 2
 lt:h.next + 2 < H.next
theorem zhf (h:Heap) (x op:List CV):∃ H b e,((h.new (.cells x)).new (.cells op)).new (.cells [.int .i64 0,.int .i64 0,.int .i64 0,.nils])=H∧(h.new (.cells x)).next=b∧((h.new (.cells x)).new (.cells op)).next=e∧Boxed h H b e x op:=by
 refine ⟨_,_,_,rfl,rfl,rfl,(((Ext.refl h).new _).new _).new _,?_,?_,zb8,rfl,rfl,by simp [Heap.new]⟩
 ·rw [zdd (by simp [Heap.new];omega),zdd (by simp [Heap.new])];exact zb8
 ·rw [zdd (by simp [Heap.new])];exact zb8
section
variable {N d:Nat} {h H G:Heap} {b e:Nat} {x op:List CV} {z:SP} {s:MS}
theorem Boxed.more (B:Boxed h H b e x op) (y:Ext H G):Boxed h G b e x op:=by
 have h1:=B.eb;have h2:=B.ee;have h3:=B.lt
 exact ⟨B.ext.trans y,y.at_ B.xa (by omega),y.at_ B.ob (by omega),y.at_ B.re (by omega),h1,h2,Nat.lt_of_lt_of_le h3 y.1⟩
theorem Boxed.moreB {L:List Nat} (B:Boxed h H b e x op) (y:ExtB L H G) (hL:∀ j∈L,j < h.next):H.next≤G.next∧G.get h.next=some (.cells x)∧G.get b=some (.cells op)∧G.get e=some (.cells [.int .i64 0,.int .i64 0,.int .i64 0,.nils]):=by
 have h1:=B.eb;have h2:=B.ee;have h3:=B.lt
 have no:∀ j,h.next≤j→j ∉ L:=fun j hj hm=>by have:=hL j hm;omega
 exact ⟨y.1,y.at_ B.xa (by omega) (no _ (Nat.le_refl _)),y.at_ B.ob (by omega) (no _ (by omega)),y.at_ B.re (by omega) (no _ (by omega))⟩
theorem Boxed.xs (B:Boxed h H b e x op) (hx:x.length=3):H.read h.next 0 3=some x:=by
 rw [zdi B.xa (by omega),List.drop_zero,List.take_of_length_le (by omega)]
theorem zg0 {v:List CV} (re:H.get e=some (.cells [.int .i64 0,.int .i64 0,.int .i64 0,.nils])) (hv:v.length=4):∃ G,H.write e 0 v=some G∧G.read e 0 4=some v∧G.next=H.next∧∀ k,k≠e→G.get k=H.get k:=by
 refine ⟨_,zg5 re (by rw [hv];exact Nat.le_refl _),?_,rfl,fun k hk=>zcl hk⟩
 rw [zdi zc9 (by simp [hv])]
 simp [hv]
 match v,hv with
 | [_,_,_,_],_=>rfl
def zej (N d:Nat) (h:Heap) (x:List CV) (z:SP) (s:MS) (c:Nat) (o:OpM) (dc:CV):Prop :=
 ∃ rc h',evCallO OS table N (d + 3) 99 [.agg x,.c (.int .i64 (c:Int)),.agg (opC o dc)] h=some (.agg (zdc (doF s c o).1 rc),h')∧Bytes h' rc (doF s c o).1.rd∧SR h' x z (doF s c o).2∧ExtB z.own h h'
theorem SR.fin {s':MS} (S:SR H x z s') (eo:ExtB z.own h H) (hl:∀ j∈z.own,j < h.next) (he:e=h.next + 2) (hn:G.next=H.next) (hg:∀ k,k≠e→G.get k=H.get k):SR G x z s'∧ExtB z.own h G:=by
 have y:ExtB [e] H G:=⟨by omega,fun i _ hi=>hg i (by simpa using hi)⟩
 refine ⟨S.extB y fun j hj hm=>?_,⟨by have:=eo.1;omega,fun i hi hno=>?_⟩⟩
 ·simp at hm;have:=hl j hj;omega
 ·rw [hg i (by omega)];exact eo.2 i hi hno
theorem SR.len3 (S:SR h x z s):x.length=3:=by rw [S.xe];rfl
theorem zy2 {dc:CV} {o:OpM} (S:SR h x z s) {c:Nat} (hc:c < s.hs.length) (hk:o.kd=7):zej N d h x z s c o dc:=by
 obtain ⟨H,b,e,hH,hb,he,B⟩:=zhf h x (opC o dc)
 have r2:H.read h.next 2 1=some [.sl z.hh 0 s.hs.length z.ch]:=zam B.xa (by rw [S.xe];rfl)
 have r3:H.read b 0 1=some [.int .i64 7]:=zam B.ob (by rw [← hk];rfl)
 have r4:H.read b 1 1=some [.int .i64 o.pg]:=zam B.ob rfl
 have v1:decide ((c:Int) < 0)=false:=decide_eq_false (by omega)
 have v2:decide ((c:Int) ≥ (s.hs.length:Int))=false:=decide_eq_false (by omega)
 obtain ⟨G,w,rr,n,fr⟩:=zg0 (H:=H) (e:=e) (v:=zdc okR .nils) B.re rfl
 have hf:doF s c o=(okR,s):=by unfold doF;simp [hk]
 obtain ⟨S',x'⟩:=(S.ext B.ext).fin (B.ext.b _) S.lt B.ee n fr
 unfold zej
 rw [hf]
 rw [zbp (F:=ir99) rfl rfl rfl]
 unfold ir99
 rw [zbv]
 simp only [zdc,okR,zb9] at w rr ⊢
 simp only [zbm,zap,zac,zaq,zat,zal,zau,zay,zax,zbq,zad,zai,zab,zas,zae,zaf,zar,zav,zbn,za8,zbc,za3,zbg,zbb,zbi,za6,zbe,zbh,zag,zaw,X.eval,zak,zah,List.map_cons,List.map_nil,List.getD_cons_zero,List.getD_cons_succ,List.getD_nil,List.set_cons_zero,List.set_cons_succ,zaz,zan,zaa,zaj,intArith,shift,cond_true,cond_false,BEq.rfl,zb4,zb7,AV.cells,AV.ofCells,List.length_cons,List.length_nil,Nat.zero_add,Nat.add_zero,Nat.reduceAdd,Int.reduceBEq,Int.reduceNeg,Int.reduceLT,Int.reduceGT,decide_false,hb,he,hH,za1,za5,za9,AV.ofCells,r2,r3,r4,zb0,v1,v2,zds,zdl,zbl,w,zbu,RV.eval,rr]
 exact ⟨_,G,rfl,.inl ⟨rfl,rfl⟩,S',x'⟩
theorem zvu {dc:CV} {o:OpM} (S:SR h x z s) {c:Nat} (hc:c < s.hs.length) {K:Int} (hk:o.kd=K) (h26:K=2∨K=6∨K=8)
  (hno:o.pg < 0∨(s.th.length:Int)≤o.pg∨s.th.getD o.pg.toNat false=false):zej N d h x z s c o dc:=by
 obtain ⟨H,b,e,hH,hb,he,B⟩:=zhf h x (opC o dc)
 have r2:H.read h.next 2 1=some [.sl z.hh 0 s.hs.length z.ch]:=zam B.xa (by rw [S.xe];rfl)
 have r0:H.read h.next 0 1=some [.sl z.t 0 s.th.length z.ct]:=zam B.xa (by rw [S.xe];rfl)
 have r1:H.read h.next 1 1=some [.sl z.b 0 s.th.length z.cb]:=zam B.xa (by rw [S.xe];rfl)
 have r3:H.read b 0 1=some [.int .i64 K]:=zam B.ob (by rw [← hk];rfl)
 have r4:H.read b 1 1=some [.int .i64 o.pg]:=zam B.ob rfl
 have r5:H.read b 2 1=some [.int .i64 o.hd]:=zam B.ob rfl
 have v1:decide ((c:Int) < 0)=false:=decide_eq_false (by omega)
 have v2:decide ((c:Int) ≥ (s.hs.length:Int))=false:=decide_eq_false (by omega)
 have SH:=S.ext B.ext
 have rx:=B.xs S.len3
 have w1:decide (K < 1)=false:=decide_eq_false (by omega)
 have w2:decide (K > 8)=false:=decide_eq_false (by omega)
 have key:(K == 2 || K == 6 || K == 8)=true:=by rcases h26 with rfl | rfl | rfl<;>rfl
 by_cases c1:o.pg < 0∨(s.th.length:Int)≤o.pg
 ·have hf:doF s c o=(zdk 1,s):=by
   unfold doF
   rw [hk,if_neg (by omega),if_pos h26,if_pos c1]
  obtain ⟨H1,f1,x1⟩:=zg8 (N:=N) (d:=d + 1) 1 H
  obtain ⟨G,w,rr,n,fr⟩:=zg0 (H:=H1) (e:=e) (v:=zdc (zdk 1) .nils) (B.more x1).re rfl
  obtain ⟨S',x'⟩:=(SH.ext x1).fin ((B.ext.b _).trans (x1.b _)) S.lt B.ee n fr
  have w3:(decide (o.pg < 0) || decide (o.pg ≥ (s.th.length:Int)))=true:=by simp;omega
  unfold zej
  rw [hf,zbp (F:=ir99) rfl rfl rfl]
  unfold ir99
  rw [zbv]
  simp only [zdc,zdk,zb9] at w rr f1 ⊢
  by_cases c2:o.pg < 0
  ·have u1:decide (o.pg < 0)=true:=decide_eq_true c2
   rcases h26 with rfl | rfl | rfl
   ·simp only [zbm,zap,zac,zca,zaq,zat,zao,zal,zax,zbq,zad,zai,zab,zas,zae,zbd,zaf,zar,zav,zbn,za8,zbc,za3,zba,zbg,za7,zbb,zbi,za6,zbe,zbh,zag,zaw,X.eval,zak,zah,List.map_cons,List.map_nil,List.getD_cons_zero,List.getD_cons_succ,List.getD_nil,List.set_cons_zero,List.set_cons_succ,zaz,zan,zaa,zaj,intArith,shift,cond_true,cond_false,BEq.rfl,AV.cells,AV.ofCells,List.length_cons,List.length_nil,Nat.zero_add,Nat.add_zero,Nat.reduceAdd,Int.reduceNeg,Int.reduceLT,Int.reduceGT,decide_false,tf,hb,he,hH,za1,za5,za9,AV.ofCells,r2,r3,r4,zb0,v1,v2,zbl,zbu,RV.eval,u1,f1,w,rr]
    exact ⟨_,G,rfl,.inl ⟨rfl,rfl⟩,S',x'⟩
   ·simp only [zbm,zap,zac,zca,zaq,zat,zao,zal,zax,zbq,zad,zai,zab,zas,zae,zbd,zaf,zar,zav,zbn,za8,zbc,za3,zba,zbg,za7,zbb,zbi,za6,zbe,zbh,zag,zaw,X.eval,zak,zah,List.map_cons,List.map_nil,List.getD_cons_zero,List.getD_cons_succ,List.getD_nil,List.set_cons_zero,List.set_cons_succ,zaz,zan,zaa,zaj,intArith,shift,cond_true,cond_false,BEq.rfl,AV.cells,AV.ofCells,List.length_cons,List.length_nil,Nat.zero_add,Nat.add_zero,Nat.reduceAdd,Int.reduceBEq,Int.reduceNeg,Int.reduceLT,Int.reduceGT,decide_false,tf,hb,he,hH,za1,za5,za9,AV.ofCells,r2,r3,r4,zb0,v1,v2,zbl,zbu,RV.eval,u1,f1,w,rr]
    exact ⟨_,G,rfl,.inl ⟨rfl,rfl⟩,S',x'⟩
   ·simp only [zbm,zap,zac,zca,zaq,zat,zao,zal,zax,zbq,zad,zai,zab,zas,zae,zbd,zaf,zar,zav,zbn,za8,zbc,za3,zba,zbg,za7,zbb,zbi,za6,zbe,zbh,zag,zaw,X.eval,zak,zah,List.map_cons,List.map_nil,List.getD_cons_zero,List.getD_cons_succ,List.getD_nil,List.set_cons_zero,List.set_cons_succ,zaz,zan,zaa,zaj,intArith,shift,cond_true,cond_false,BEq.rfl,AV.cells,AV.ofCells,List.length_cons,List.length_nil,Nat.zero_add,Nat.add_zero,Nat.reduceAdd,Int.reduceBEq,Int.reduceNeg,Int.reduceLT,Int.reduceGT,decide_false,tf,hb,he,hH,za1,za5,za9,AV.ofCells,r2,r3,r4,zb0,v1,v2,zbl,zbu,RV.eval,u1,f1,w,rr]
    exact ⟨_,G,rfl,.inl ⟨rfl,rfl⟩,S',x'⟩
  ·have u1:decide (o.pg < 0)=false:=decide_eq_false c2
   have u2:decide (o.pg ≥ (s.th.length:Int))=true:=decide_eq_true (by omega)
   rcases h26 with rfl | rfl | rfl
   ·simp only [zbm,zap,zac,zca,zaq,zat,zao,zal,zax,zbq,zad,zai,zab,zas,zae,zbd,zaf,zar,zav,zbn,za8,zbc,za3,zba,zbg,za7,zbb,zbi,za6,zbe,zbh,zag,zaw,X.eval,zak,zah,List.map_cons,List.map_nil,List.getD_cons_zero,List.getD_cons_succ,List.getD_nil,List.set_cons_zero,List.set_cons_succ,zaz,zan,zaa,zaj,intArith,shift,cond_true,cond_false,BEq.rfl,AV.cells,AV.ofCells,List.length_cons,List.length_nil,Nat.zero_add,Nat.add_zero,Nat.reduceAdd,Int.reduceNeg,Int.reduceLT,Int.reduceGT,decide_false,tf,hb,he,hH,za1,za5,za9,AV.ofCells,r0,r2,r3,r4,zb0,v1,v2,zbl,zbu,RV.eval,u1,u2,f1,w,rr]
    exact ⟨_,G,rfl,.inl ⟨rfl,rfl⟩,S',x'⟩
   ·simp only [zbm,zap,zac,zca,zaq,zat,zao,zal,zax,zbq,zad,zai,zab,zas,zae,zbd,zaf,zar,zav,zbn,za8,zbc,za3,zba,zbg,za7,zbb,zbi,za6,zbe,zbh,zag,zaw,X.eval,zak,zah,List.map_cons,List.map_nil,List.getD_cons_zero,List.getD_cons_succ,List.getD_nil,List.set_cons_zero,List.set_cons_succ,zaz,zan,zaa,zaj,intArith,shift,cond_true,cond_false,BEq.rfl,AV.cells,AV.ofCells,List.length_cons,List.length_nil,Nat.zero_add,Nat.add_zero,Nat.reduceAdd,Int.reduceBEq,Int.reduceNeg,Int.reduceLT,Int.reduceGT,decide_false,tf,hb,he,hH,za1,za5,za9,AV.ofCells,r0,r2,r3,r4,zb0,v1,v2,zbl,zbu,RV.eval,u1,u2,f1,w,rr]
    exact ⟨_,G,rfl,.inl ⟨rfl,rfl⟩,S',x'⟩
   ·simp only [zbm,zap,zac,zca,zaq,zat,zao,zal,zax,zbq,zad,zai,zab,zas,zae,zaf,zar,zav,zbn,za8,zbc,za3,zba,zbg,za7,zbb,zbi,za6,zbe,zbh,zag,zaw,X.eval,zak,zah,List.map_cons,List.map_nil,List.getD_cons_zero,List.getD_cons_succ,List.getD_nil,List.set_cons_zero,List.set_cons_succ,zaz,zan,zaa,zaj,intArith,shift,cond_true,cond_false,BEq.rfl,AV.cells,AV.ofCells,List.length_cons,List.length_nil,Nat.zero_add,Nat.add_zero,Nat.reduceAdd,Int.reduceBEq,Int.reduceNeg,Int.reduceLT,Int.reduceGT,decide_false,hb,he,hH,za1,za5,za9,AV.ofCells,r0,r2,r3,r4,zb0,v1,v2,zbl,zbu,RV.eval,u1,u2,f1,w,rr]
    exact ⟨_,G,rfl,.inl ⟨rfl,rfl⟩,S',x'⟩
 ·have u1:decide (o.pg < 0)=false:=decide_eq_false (by omega)
  have u2:decide (o.pg ≥ (s.th.length:Int))=false:=decide_eq_false (by omega)
  obtain ⟨g,hg⟩:=Int.eq_ofNat_of_zero_le (show 0≤o.pg by omega)
  rw [hg] at u1 u2 r4 c1 hno
  have hgl:g < s.th.length:=by omega
  have ht:s.th.getD g false=false:=by
   rcases hno with h1 | h1 | h1
   ·omega
   ·omega
   ·simpa using h1
  have k1:=SH.rt hgl
  rw [ht] at k1
  have m1:Nat.blt g s.th.length=true:=zdp hgl
  have hf:doF s c o=(zdk 2,s):=by
   unfold doF
   rw [hk,if_neg (by omega),if_pos h26,hg,if_neg c1,if_pos (by simpa using ht)]
  obtain ⟨H1,f1,x1⟩:=zg8 (N:=N) (d:=d + 1) 2 H
  obtain ⟨G,w,rr,n,fr⟩:=zg0 (H:=H1) (e:=e) (v:=zdc (zdk 2) .nils) (B.more x1).re rfl
  obtain ⟨S',x'⟩:=(SH.ext x1).fin ((B.ext.b _).trans (x1.b _)) S.lt B.ee n fr
  unfold zej
  rw [hf,zbp (F:=ir99) rfl rfl rfl]
  unfold ir99
  rw [zbv]
  simp only [zdc,zdk,zb9] at w rr f1 ⊢
  rcases h26 with rfl | rfl | rfl
  ·simp only [zbm,zap,zac,zca,zaq,zat,zao,zal,zax,zbq,zad,zai,zab,zas,zae,zbd,zaf,zar,zav,zbn,za8,zcd,zbc,za3,zbf,zba,zbg,za7,zbb,zbi,za6,zbe,zcx,zbh,zag,zaw,X.eval,zak,zah,List.map_cons,List.map_nil,List.getD_cons_zero,List.getD_cons_succ,List.getD_nil,List.set_cons_zero,List.set_cons_succ,zaz,zcj,zan,zaa,zaj,intArith,shift,za0,cond_true,cond_false,BEq.rfl,AV.cells,AV.ofCells,List.length_cons,List.length_nil,Nat.zero_add,Nat.add_zero,Nat.reduceAdd,Int.reduceNeg,Bool.not_false,Int.reduceLT,Int.reduceGT,decide_false,tf,hb,he,hH,za1,za5,za9,zbk,AV.ofCells,r0,r2,r3,r4,zb0,v1,v2,zbl,zbu,RV.eval,u1,u2,m1,k1,Nat.mul_one,f1,w,rr]
   exact ⟨_,G,rfl,.inl ⟨rfl,rfl⟩,S',x'⟩
  ·simp only [zbm,zap,zac,zca,zaq,zat,zao,zal,zax,zbq,zad,zai,zab,zas,zae,zbd,zaf,zar,zav,zbn,za8,zcd,zbc,za3,zbf,zba,zbg,za7,zbb,zbi,za6,zbe,zcx,zbh,zag,zaw,X.eval,zak,zah,List.map_cons,List.map_nil,List.getD_cons_zero,List.getD_cons_succ,List.getD_nil,List.set_cons_zero,List.set_cons_succ,zaz,zcj,zan,zaa,zaj,intArith,shift,za0,cond_true,cond_false,BEq.rfl,AV.cells,AV.ofCells,List.length_cons,List.length_nil,Nat.zero_add,Nat.add_zero,Nat.reduceAdd,Int.reduceBEq,Int.reduceNeg,Bool.not_false,Int.reduceLT,Int.reduceGT,decide_false,tf,hb,he,hH,za1,za5,za9,zbk,AV.ofCells,r0,r2,r3,r4,zb0,v1,v2,zbl,zbu,RV.eval,u1,u2,m1,k1,Nat.mul_one,f1,w,rr]
   exact ⟨_,G,rfl,.inl ⟨rfl,rfl⟩,S',x'⟩
  ·simp only [zbm,zap,zac,zca,zaq,zat,zao,zal,zax,zbq,zad,zai,zab,zas,zae,zaf,zar,zav,zbn,za8,zcd,zbc,za3,zbf,zba,zbg,za7,zbb,zbi,za6,zbe,zcx,zbh,zag,zaw,X.eval,zak,zah,List.map_cons,List.map_nil,List.getD_cons_zero,List.getD_cons_succ,List.getD_nil,List.set_cons_zero,List.set_cons_succ,zaz,zcj,zan,zaa,zaj,intArith,shift,za0,cond_true,cond_false,BEq.rfl,AV.cells,AV.ofCells,List.length_cons,List.length_nil,Nat.zero_add,Nat.add_zero,Nat.reduceAdd,Int.reduceBEq,Int.reduceNeg,Bool.not_false,Int.reduceLT,Int.reduceGT,decide_false,hb,he,hH,za1,za5,za9,zbk,AV.ofCells,r0,r2,r3,r4,zb0,v1,v2,zbl,zbu,RV.eval,u1,u2,m1,k1,Nat.mul_one,f1,w,rr]
   exact ⟨_,G,rfl,.inl ⟨rfl,rfl⟩,S',x'⟩
theorem zvv {dc:CV} {o:OpM} (S:SR h x z s) {c:Nat} (hc:c < s.hs.length) (hk:o.kd=6) (h0:0≤o.pg) (hl:o.pg < (s.th.length:Int)) (ht:s.th.getD o.pg.toNat false=true):zej N d h x z s c o dc:=by
 obtain ⟨H,b,e,hH,hb,he,B⟩:=zhf h x (opC o dc)
 have r2:H.read h.next 2 1=some [.sl z.hh 0 s.hs.length z.ch]:=zam B.xa (by rw [S.xe];rfl)
 have r0:H.read h.next 0 1=some [.sl z.t 0 s.th.length z.ct]:=zam B.xa (by rw [S.xe];rfl)
 have r1:H.read h.next 1 1=some [.sl z.b 0 s.th.length z.cb]:=zam B.xa (by rw [S.xe];rfl)
 have r3:H.read b 0 1=some [.int .i64 6]:=zam B.ob (by rw [← hk];rfl)
 have r4:H.read b 1 1=some [.int .i64 o.pg]:=zam B.ob rfl
 have r5:H.read b 2 1=some [.int .i64 o.hd]:=zam B.ob rfl
 have v1:decide ((c:Int) < 0)=false:=decide_eq_false (by omega)
 have v2:decide ((c:Int) ≥ (s.hs.length:Int))=false:=decide_eq_false (by omega)
 have SH:=S.ext B.ext
 have rx:=B.xs S.len3
 obtain ⟨g,hg⟩:=Int.eq_ofNat_of_zero_le h0
 rw [hg] at r4 hl
 have hgl:g < s.th.length:=by omega
 have u1:decide ((g:Int) < 0)=false:=decide_eq_false (by omega)
 have u2:decide ((g:Int) ≥ (s.th.length:Int))=false:=decide_eq_false (by omega)
 have ht':s.th.getD g false=true:=by rw [hg] at ht;simpa using ht
 have k1:=SH.rt hgl
 rw [ht'] at k1
 have m1:Nat.blt g s.th.length=true:=zdp hgl
 have hgf:∀ (A B C:ResM × MS),(if (g:Int) < 0∨(s.th.length:Int)≤(g:Int) then A else if s.th.getD ((g:Int)).toNat false=false then B else C)=C:=fun A B C=>by
  rw [if_neg (by omega),if_neg (by rw [Int.toNat_natCast,ht'];decide)]
 have hf:doF s c o=(okR,s):=by
  unfold doF
  rw [hk,if_neg (by decide),if_pos (by decide),hg,hgf,if_neg (by decide),if_pos rfl]
 obtain ⟨G,w,rr,n,fr⟩:=zg0 (H:=H) (e:=e) (v:=zdc okR .nils) B.re rfl
 obtain ⟨S',x'⟩:=SH.fin (B.ext.b _) S.lt B.ee n fr
 have f1:True:=trivial
 unfold zej
 rw [hf,zbp (F:=ir99) rfl rfl rfl]
 unfold ir99
 rw [zbv]
 simp only [zdc,okR,zb9] at w rr ⊢
 simp only [zbm,zap,zac,zaq,zat,zao,zal,zau,zay,zax,zbq,zad,zai,zab,zas,zae,zbd,zaf,zar,zav,zbn,za8,zcd,zbc,za3,zbf,zbg,zbb,zbi,za6,zbe,zcx,zbh,zag,zaw,X.eval,zak,zah,List.map_cons,List.map_nil,List.getD_cons_zero,List.getD_cons_succ,List.getD_nil,List.set_cons_zero,List.set_cons_succ,zaz,zcj,zan,zaa,zaj,intArith,shift,za0,cond_true,cond_false,BEq.rfl,zb4,zb7,AV.cells,AV.ofCells,List.length_cons,List.length_nil,Nat.zero_add,Nat.add_zero,Nat.reduceAdd,Int.reduceBEq,Int.reduceNeg,Bool.not_true,Int.reduceLT,Int.reduceGT,decide_false,tf,hb,he,hH,za1,za5,za9,zbk,AV.ofCells,r0,r2,r3,r4,zb0,v1,v2,zds,zdl,zbl,zbu,RV.eval,u1,u2,m1,k1,Nat.mul_one,w,rr]
 exact ⟨_,G,rfl,.inl ⟨rfl,rfl⟩,S',x'⟩
theorem zvw {dc:CV} {o:OpM} (S:SR h x z s) {c:Nat} (hc:c < s.hs.length) (hk:o.kd=2) (h0:0≤o.pg) (hl:o.pg < (s.th.length:Int)) (ht:s.th.getD o.pg.toNat false=true) (hN:10≤N):zej N d h x z s c o dc:=by
 obtain ⟨H,b,e,hH,hb,he,B⟩:=zhf h x (opC o dc)
 have r2:H.read h.next 2 1=some [.sl z.hh 0 s.hs.length z.ch]:=zam B.xa (by rw [S.xe];rfl)
 have r0:H.read h.next 0 1=some [.sl z.t 0 s.th.length z.ct]:=zam B.xa (by rw [S.xe];rfl)
 have r1:H.read h.next 1 1=some [.sl z.b 0 s.th.length z.cb]:=zam B.xa (by rw [S.xe];rfl)
 have r3:H.read b 0 1=some [.int .i64 2]:=zam B.ob (by rw [← hk];rfl)
 have r4:H.read b 1 1=some [.int .i64 o.pg]:=zam B.ob rfl
 have r5:H.read b 2 1=some [.int .i64 o.hd]:=zam B.ob rfl
 have v1:decide ((c:Int) < 0)=false:=decide_eq_false (by omega)
 have v2:decide ((c:Int) ≥ (s.hs.length:Int))=false:=decide_eq_false (by omega)
 have SH:=S.ext B.ext
 have rx:=B.xs S.len3
 obtain ⟨g,hg⟩:=Int.eq_ofNat_of_zero_le h0
 rw [hg] at r4 hl
 have hgl:g < s.th.length:=by omega
 have u1:decide ((g:Int) < 0)=false:=decide_eq_false (by omega)
 have u2:decide ((g:Int) ≥ (s.th.length:Int))=false:=decide_eq_false (by omega)
 have ht':s.th.getD g false=true:=by rw [hg] at ht;simpa using ht
 have k1:=SH.rt hgl
 rw [ht'] at k1
 have m1:Nat.blt g s.th.length=true:=zdp hgl
 have hgf:∀ (A B C:ResM × MS),(if (g:Int) < 0∨(s.th.length:Int)≤(g:Int) then A else if s.th.getD ((g:Int)).toNat false=false then B else C)=C:=fun A B C=>by
  rw [if_neg (by omega),if_neg (by rw [Int.toNat_natCast,ht'];decide)]
 obtain ⟨H1,f1,x1⟩:=zrj (N:=N) (d:=d + 1) SH hc hN
 have SH1:=SH.ext x1
 have B1:=B.more x1
 have rx1:=B1.xs S.len3
 by_cases c1:zda (s.hg c) < 6
 ·have w1:decide (zda (s.hg c) < 6)=true:=decide_eq_true c1
  rw [w1] at f1
  obtain ⟨H2,f2,S2,x2⟩:=zrk (N:=N) (d:=d + 1) SH1 hc (g:Int) (by omega) c1 hN
  have bb:=B1.moreB x2 fun j hj=>S.lt j (by simp [SP.own,hj])
  obtain ⟨G,w,rr,n,fr⟩:=zg0 (H:=H2) (e:=e) (v:=zdc ⟨0,(g:Int),(zda (s.hg c):Int),[]⟩ .nils) bb.2.2.2 rfl
  obtain ⟨S',x'⟩:=S2.fin (((B.ext.trans x1).b _).trans (x2.mono fun j hj=>by simp [SP.own,hj])) S.lt B.ee n fr
  have hf:doF s c o=(⟨0,(g:Int),(zda (s.hg c):Int),[]⟩,s.setH c (zda (s.hg c)) (g:Int)):=by
   unfold doF
   rw [hk,if_neg (by decide),if_pos (by decide),hg,hgf,if_pos rfl,if_pos c1]
  unfold zej
  rw [hf,zbp (F:=ir99) rfl rfl rfl]
  unfold ir99
  rw [zbv]
  simp only [zdc,zb9] at w rr ⊢
  simp only [zbm,zap,zac,zca,zaq,zat,zao,zal,zau,zc8,zax,zbq,zad,zai,zab,zas,zae,zbd,zaf,zar,zav,zbn,za8,zcd,zbc,za3,zbf,zba,zbg,za7,zbb,zbi,za6,zbe,zcx,zbh,zag,zaw,X.eval,zak,zah,List.map_cons,List.map_nil,List.getD_cons_zero,List.getD_cons_succ,List.getD_nil,List.set_cons_zero,List.set_cons_succ,zaz,zcj,zan,zaa,zaj,intArith,shift,za0,cond_true,cond_false,BEq.rfl,zb4,zb7,AV.cells,AV.ofCells,List.length_cons,List.length_nil,zdo,setMany,Nat.ble,Nat.zero_add,Nat.add_zero,Nat.reduceAdd,Int.reduceBEq,Int.reduceNeg,Bool.not_true,Int.reduceLT,Int.reduceGT,decide_false,tf,hb,he,hH,za1,za5,za9,zbk,AV.ofCells,r0,r2,r3,r4,rx,zb0,v1,v2,zds,zdl,zbl,zbu,RV.eval,u1,u2,m1,k1,Nat.mul_one,rx1,f1,f2,w,rr]
  exact ⟨_,G,rfl,.inl ⟨rfl,rfl⟩,S',x'⟩
 ·have w1:decide (zda (s.hg c) < 6)=false:=decide_eq_false c1
  rw [w1] at f1
  obtain ⟨H2,f2,x2⟩:=zg8 (N:=N) (d:=d + 1) 4 H1
  obtain ⟨G,w,rr,n,fr⟩:=zg0 (H:=H2) (e:=e) (v:=zdc (zdk 4) .nils) (B1.more x2).re rfl
  obtain ⟨S',x'⟩:=(SH1.ext x2).fin (((B.ext.trans x1).trans x2).b _) S.lt B.ee n fr
  have hf:doF s c o=(zdk 4,s):=by
   unfold doF
   rw [hk,if_neg (by decide),if_pos (by decide),hg,hgf,if_pos rfl,if_neg c1]
  unfold zej
  rw [hf,zbp (F:=ir99) rfl rfl rfl]
  unfold ir99
  rw [zbv]
  simp only [zdc,zdk,zb9] at w rr f2 ⊢
  simp only [zbm,zap,zac,zca,zaq,zat,zao,zal,zau,zc8,zax,zbq,zad,zai,zab,zas,zae,zbd,zaf,zar,zav,zbn,za8,zcd,zbc,za3,zbf,zba,zbg,za7,zbb,zbi,za6,zbe,zcx,zbh,zag,zaw,X.eval,zak,zah,List.map_cons,List.map_nil,List.getD_cons_zero,List.getD_cons_succ,List.getD_nil,List.set_cons_zero,List.set_cons_succ,zaz,zcj,zan,zaa,zaj,intArith,shift,za0,cond_true,cond_false,BEq.rfl,AV.cells,AV.ofCells,List.length_cons,List.length_nil,Nat.zero_add,Nat.add_zero,Nat.reduceAdd,Int.reduceBEq,Int.reduceNeg,Bool.not_true,Bool.not_false,Int.reduceLT,Int.reduceGT,decide_false,tf,hb,he,hH,za1,za5,za9,zbk,AV.ofCells,r0,r2,r3,r4,rx,zb0,v1,v2,zbl,zbu,RV.eval,u1,u2,m1,k1,Nat.mul_one,f1,f2,w,rr]
  exact ⟨_,G,rfl,.inl ⟨rfl,rfl⟩,S',x'⟩
theorem zud {dc:CV} {o:OpM} (S:SR h x z s) {c:Nat} (hc:c < s.hs.length) {K:Int} (hk:o.kd=K) (h26:K=3∨K=4∨K=5) (hn:zd7 s.hs c o.hd < 0):zej N d h x z s c o dc:=by
 obtain ⟨H,b,e,hH,hb,he,B⟩:=zhf h x (opC o dc)
 have r2:H.read h.next 2 1=some [.sl z.hh 0 s.hs.length z.ch]:=zam B.xa (by rw [S.xe];rfl)
 have r0:H.read h.next 0 1=some [.sl z.t 0 s.th.length z.ct]:=zam B.xa (by rw [S.xe];rfl)
 have r1:H.read h.next 1 1=some [.sl z.b 0 s.th.length z.cb]:=zam B.xa (by rw [S.xe];rfl)
 have r3:H.read b 0 1=some [.int .i64 K]:=zam B.ob (by rw [← hk];rfl)
 have r4:H.read b 1 1=some [.int .i64 o.pg]:=zam B.ob rfl
 have r5:H.read b 2 1=some [.int .i64 o.hd]:=zam B.ob rfl
 have v1:decide ((c:Int) < 0)=false:=decide_eq_false (by omega)
 have v2:decide ((c:Int) ≥ (s.hs.length:Int))=false:=decide_eq_false (by omega)
 have SH:=S.ext B.ext
 have rx:=B.xs S.len3
 obtain ⟨H1,f0,x1⟩:=zj7 (N:=N) (d:=d + 1) SH (c:Int) o.hd
 have SH1:=SH.ext x1
 have B1:=B.more x1
 have w1:decide (zd7 s.hs c o.hd < 0)=true:=decide_eq_true hn
 have hf:doF s c o=(zdk 5,s):=by
  unfold doF
  rw [hk,if_neg (by omega),if_neg (by omega),if_neg (by omega),if_pos hn]
 obtain ⟨H2,f1,x2⟩:=zg8 (N:=N) (d:=d + 1) 5 H1
 obtain ⟨G,w,rr,n,fr⟩:=zg0 (H:=H2) (e:=e) (v:=zdc (zdk 5) .nils) (B1.more x2).re rfl
 obtain ⟨S',x'⟩:=(SH1.ext x2).fin (((B.ext.trans x1).trans x2).b _) S.lt B.ee n fr
 unfold zej
 rw [hf,zbp (F:=ir99) rfl rfl rfl]
 unfold ir99
 rw [zbv]
 simp only [zdc,zdk,zb9] at w rr f1 ⊢
 rcases h26 with rfl | rfl | rfl
 ·simp only [zbm,zap,zac,zca,zaq,zat,zao,zal,zax,zbq,zad,zai,zab,zas,zae,zbd,zaf,zar,zav,zbn,za8,zbc,za3,zba,zbg,za7,zbb,zbi,za6,zbe,zbh,zag,zaw,X.eval,zak,zah,List.map_cons,List.map_nil,List.getD_cons_zero,List.getD_cons_succ,List.getD_nil,List.set_cons_zero,List.set_cons_succ,zaz,zan,zaa,zaj,intArith,shift,cond_true,cond_false,BEq.rfl,AV.cells,AV.ofCells,List.length_cons,List.length_nil,Nat.zero_add,Nat.add_zero,Nat.reduceAdd,Int.reduceBEq,Int.reduceNeg,Int.reduceLT,Int.reduceGT,decide_false,tf,hb,he,hH,za1,za5,za9,AV.ofCells,r2,r3,r4,r5,rx,zb0,v1,v2,zbl,zbu,RV.eval,f0,w1,f1,w,rr]
  exact ⟨_,G,rfl,.inl ⟨rfl,rfl⟩,S',x'⟩
 ·simp only [zbm,zap,zac,zca,zaq,zat,zao,zal,zax,zbq,zad,zai,zab,zas,zae,zbd,zaf,zar,zav,zbn,za8,zbc,za3,zba,zbg,za7,zbb,zbi,za6,zbe,zbh,zag,zaw,X.eval,zak,zah,List.map_cons,List.map_nil,List.getD_cons_zero,List.getD_cons_succ,List.getD_nil,List.set_cons_zero,List.set_cons_succ,zaz,zan,zaa,zaj,intArith,shift,cond_true,cond_false,BEq.rfl,AV.cells,AV.ofCells,List.length_cons,List.length_nil,Nat.zero_add,Nat.add_zero,Nat.reduceAdd,Int.reduceBEq,Int.reduceNeg,Int.reduceLT,Int.reduceGT,decide_false,tf,hb,he,hH,za1,za5,za9,AV.ofCells,r2,r3,r4,r5,rx,zb0,v1,v2,zbl,zbu,RV.eval,f0,w1,f1,w,rr]
  exact ⟨_,G,rfl,.inl ⟨rfl,rfl⟩,S',x'⟩
 ·simp only [zbm,zap,zac,zca,zaq,zat,zao,zal,zax,zbq,zad,zai,zab,zas,zae,zaf,zar,zav,zbn,za8,zbc,za3,zba,zbg,za7,zbb,zbi,za6,zbe,zbh,zag,zaw,X.eval,zak,zah,List.map_cons,List.map_nil,List.getD_cons_zero,List.getD_cons_succ,List.getD_nil,List.set_cons_zero,List.set_cons_succ,zaz,zan,zaa,zaj,intArith,shift,cond_true,cond_false,BEq.rfl,AV.cells,AV.ofCells,List.length_cons,List.length_nil,Nat.zero_add,Nat.add_zero,Nat.reduceAdd,Int.reduceBEq,Int.reduceNeg,Int.reduceLT,Int.reduceGT,decide_false,hb,he,hH,za1,za5,za9,AV.ofCells,r2,r3,r4,r5,rx,zb0,v1,v2,zbl,zbu,RV.eval,f0,w1,f1,w,rr]
  exact ⟨_,G,rfl,.inl ⟨rfl,rfl⟩,S',x'⟩
theorem zvx {dc:CV} {o:OpM} (S:SR h x z s) {c:Nat} (hc:c < s.hs.length) (hk:o.kd=5) (hn:0≤zd7 s.hs c o.hd):zej N d h x z s c o dc:=by
 obtain ⟨H,b,e,hH,hb,he,B⟩:=zhf h x (opC o dc)
 have r2:H.read h.next 2 1=some [.sl z.hh 0 s.hs.length z.ch]:=zam B.xa (by rw [S.xe];rfl)
 have r0:H.read h.next 0 1=some [.sl z.t 0 s.th.length z.ct]:=zam B.xa (by rw [S.xe];rfl)
 have r1:H.read h.next 1 1=some [.sl z.b 0 s.th.length z.cb]:=zam B.xa (by rw [S.xe];rfl)
 have r3:H.read b 0 1=some [.int .i64 5]:=zam B.ob (by rw [← hk];rfl)
 have r4:H.read b 1 1=some [.int .i64 o.pg]:=zam B.ob rfl
 have r5:H.read b 2 1=some [.int .i64 o.hd]:=zam B.ob rfl
 have v1:decide ((c:Int) < 0)=false:=decide_eq_false (by omega)
 have v2:decide ((c:Int) ≥ (s.hs.length:Int))=false:=decide_eq_false (by omega)
 have SH:=S.ext B.ext
 have rx:=B.xs S.len3
 obtain ⟨H1,f0,x1⟩:=zj7 (N:=N) (d:=d + 1) SH (c:Int) o.hd
 have SH1:=SH.ext x1
 have B1:=B.more x1
 have rx1:=B1.xs S.len3
 have q1:H1.read h.next 1 1=some [.sl z.b 0 s.th.length z.cb]:=zam B1.xa (by rw [S.xe];rfl)
 have q2:H1.read h.next 2 1=some [.sl z.hh 0 s.hs.length z.ch]:=zam B1.xa (by rw [S.xe];rfl)
 have q3:H1.read b 0 1=some [.int .i64 5]:=zam B1.ob (by rw [← hk];rfl)
 have q4:H1.read b 2 1=some [.int .i64 o.hd]:=zam B1.ob rfl
 have q5:H1.read b 3 1=some [.int .i64 o.off]:=zam B1.ob rfl
 have q6:H1.read b 4 1=some [.int .i64 o.n]:=zam B1.ob rfl
 have q7:H1.read b 5 1=some [dc]:=zam B1.ob rfl
 obtain ⟨g,hg⟩:=Int.eq_ofNat_of_zero_le (show 0≤zd7 s.hs c o.hd by omega)
 have w1:decide ((g:Int) < 0)=false:=decide_eq_false (by omega)
 rw [hg] at f0
 have hhd:0≤o.hd∧o.hd < 6:=by
  refine Classical.byContradiction fun hcn=>?_
  have:zd7 s.hs c o.hd = -1:=by unfold zd7;rw [if_pos (by omega)]
  omega
 obtain ⟨k,hkk⟩:=Int.eq_ofNat_of_zero_le hhd.1
 have hk6:k < 6:=by omega
 have hgl:g < s.th.length:=by
  have e1:zd7 s.hs c o.hd=(s.hg c).getD k 0:=by
   unfold zd7
   rw [if_neg (by omega),hkk]
   rfl
  have h6:=(S.hi c hc).2
  have hm:(s.hg c).getD k 0∈s.hg c:=by
   rw [List.getD_eq_getElem?_getD,List.getElem?_eq_getElem (by omega)]
   exact List.getElem_mem _
  have hm2:s.hg c∈s.hs:=by
   have:s.hg c=s.hs[c]:=by simp [MS.hg,List.getD_eq_getElem?_getD,hc]
   rw [this];exact List.getElem_mem hc
  have:=S.hv _ hm2 _ hm
  omega
 have k1:=SH1.rh hc
 have m1:Nat.blt c s.hs.length=true:=zdp hc
 have m2:Nat.blt k 6=true:=zdp hk6
 rw [hkk] at q4
 have ww:H1.write (z.hj c) k [.int .i64 (-1)]=some (H1.put (z.hj c) (.cells (((s.hg c).set k (-1)).map zb9))):=by
  rw [zef (SH1.hi c hc).1 (by simp;have:=(S.hi c hc).2;omega)]
  simp [List.map_set,zb9]
 have S2:=SH1.setH (i:=k) hc (-1) (by omega)
 have x2:ExtB z.own H1 (H1.put (z.hj c) (.cells (((s.hg c).set k (-1)).map zb9))):=(ExtB.refl _ _).put (.inr (by simp [SP.own,S.at_hi hc])) _
 have bb:=B1.moreB x2 S.lt
 generalize H1.put (z.hj c) (.cells (((s.hg c).set k (-1)).map zb9))=H2 at ww S2 x2 bb
 obtain ⟨G,w,rr,n,fr⟩:=zg0 (H:=H2) (e:=e) (v:=zdc okR .nils) bb.2.2.2 rfl
 obtain ⟨S',x'⟩:=S2.fin (((B.ext.trans x1).b _).trans x2) S.lt B.ee n fr
 have hf:doF s c o=(okR,s.setH c k (-1)):=by
  unfold doF
  rw [hk,if_neg (by decide),if_neg (by decide),if_neg (by decide),if_neg (by omega),if_neg (by decide),if_neg (by decide),hkk]
  rfl
 unfold zej
 rw [hf,zbp (F:=ir99) rfl rfl rfl]
 unfold ir99
 rw [zbv]
 simp only [zdc,okR,zb9] at w rr ⊢
 simp only [zbm,zap,zac,zaq,zat,zao,zal,zau,zay,zax,zbq,zad,zai,zab,zas,zae,zaf,zar,zav,zbn,za8,zbc,za3,zba,zbg,za7,zbb,zbi,za6,zbe,zbh,zag,zaw,X.eval,zak,zah,List.map_cons,List.map_nil,List.getD_cons_zero,List.getD_cons_succ,List.getD_nil,List.set_cons_zero,List.set_cons_succ,zaz,zan,zaa,zaj,intArith,shift,za0,cond_true,cond_false,BEq.rfl,zb4,zb7,AV.cells,AV.ofCells,List.length_cons,List.length_nil,List.nil_append,List.cons_append,Nat.zero_add,Nat.add_zero,Nat.reduceAdd,Int.reduceBEq,Int.reduceNeg,Int.reduceLT,Int.reduceGT,decide_false,hb,he,hH,za1,za5,za9,zbk,AV.ofCells,r2,r3,r4,r5,rx,zb0,v1,v2,zds,zdl,zbl,zbu,RV.eval,zb5,zby,zbs,zbr,zbt,zd2,zco,zcn,zcq,zg4,zb1,zb2,zb6,zcc,zct,List.reverse_cons,List.reverse_nil,zce,f0,w1,q2,q3,q4,m1,k1,m2,Nat.mul_one,ww,w,rr]
 exact ⟨_,G,rfl,.inl ⟨rfl,rfl⟩,S',x'⟩
end
end Lav
set_option maxRecDepth 100000
namespace Lav
open Go (IntKind)
section
variable {N d:Nat} {h H G:Heap} {b e:Nat} {x op:List CV} {z:SP} {s:MS}
theorem zvy {B bs:List (BitVec 8)} {k:Nat} (hl:B.length=16) (h:k + bs.length≤16):(zhy B bs k).length=16:=by
 rw [zt6 (by omega)];exact hl
theorem SR.setB (S:SR h x z s) {g:Nat} {B:List (BitVec 8)} (hB:B.length=16):SR (h.put z.b (.cells ((s.bd.set g B).map zgz))) x z (s.setB g B):=by
 have n:=S.nd
 simp only [SP.own,List.nodup_cons,List.mem_cons,not_or] at n
 obtain ⟨⟨n1,n2,n3⟩,⟨n4,n5⟩,n6,n7⟩:=n
 refine ⟨S.xe,(zcl n1).trans S.t,zc9,(zcl (Ne.symm n4)).trans S.hh,S.hl,fun i hi=>⟨(zcl fun q=>n5 (by rw [← q];exact S.at_hi hi)).trans (S.hi i hi).1,(S.hi i hi).2⟩,S.lt,S.nd,by simpa [MS.setB] using S.len,fun l hl=>?_,S.few,S.fewh,S.hv⟩
 rcases List.mem_or_eq_of_mem_set hl with hl | rfl
 ·exact S.bl l hl
 ·exact hB
theorem SR.setP (S:SR h x z s) {g:Nat} {v:Bool}:SR ((h.put z.t (.cells ((s.th.set g v).map zfb))).put z.b (.cells ((s.bd.set g z16).map zgz))) x z (s.setP g v):=by
 have n:=S.nd
 simp only [SP.own,List.nodup_cons,List.mem_cons,not_or] at n
 obtain ⟨⟨n1,n2,n3⟩,⟨n4,n5⟩,n6,n7⟩:=n
 refine ⟨by rw [S.xe];simp [MS.setP],(zcl n1).trans zc9,zc9,((zcl (Ne.symm n4)).trans (zcl (Ne.symm n2))).trans S.hh,S.hl,
  fun i hi=>⟨((zcl fun q=>n5 (by rw [← q];exact S.at_hi hi)).trans (zcl fun q=>n3 (by rw [← q];exact S.at_hi hi))).trans (S.hi i hi).1,(S.hi i hi).2⟩,S.lt,S.nd,by simpa [MS.setP] using S.len,fun l hl=>?_,by simpa [MS.setP] using S.few,S.fewh,by simpa [MS.setP] using S.hv⟩
 rcases List.mem_or_eq_of_mem_set hl with hl | rfl
 ·exact S.bl l hl
 ·rfl
theorem zs1 {k:Int} (h0:0≤k) (h1:k≤16):IntKind.i64.wrap (16 - k)=16 - k:=zgf (by omega) (by omega)
theorem zxx {dc:CV} {o:OpM} (S:SR h x z s) {c:Nat} (hc:c < s.hs.length) (hk:o.kd=3) (hn:0≤zd7 s.hs c o.hd):zej N d h x z s c o dc:=by
 obtain ⟨H,b,e,hH,hb,he,B⟩:=zhf h x (opC o dc)
 have r2:H.read h.next 2 1=some [.sl z.hh 0 s.hs.length z.ch]:=zam B.xa (by rw [S.xe];rfl)
 have r0:H.read h.next 0 1=some [.sl z.t 0 s.th.length z.ct]:=zam B.xa (by rw [S.xe];rfl)
 have r1:H.read h.next 1 1=some [.sl z.b 0 s.th.length z.cb]:=zam B.xa (by rw [S.xe];rfl)
 have r3:H.read b 0 1=some [.int .i64 3]:=zam B.ob (by rw [← hk];rfl)
 have r4:H.read b 1 1=some [.int .i64 o.pg]:=zam B.ob rfl
 have r5:H.read b 2 1=some [.int .i64 o.hd]:=zam B.ob rfl
 have v1:decide ((c:Int) < 0)=false:=decide_eq_false (by omega)
 have v2:decide ((c:Int) ≥ (s.hs.length:Int))=false:=decide_eq_false (by omega)
 have SH:=S.ext B.ext
 have rx:=B.xs S.len3
 obtain ⟨H1,f0,x1⟩:=zj7 (N:=N) (d:=d + 1) SH (c:Int) o.hd
 have SH1:=SH.ext x1
 have B1:=B.more x1
 have rx1:=B1.xs S.len3
 have q1:H1.read h.next 1 1=some [.sl z.b 0 s.th.length z.cb]:=zam B1.xa (by rw [S.xe];rfl)
 have q2:H1.read h.next 2 1=some [.sl z.hh 0 s.hs.length z.ch]:=zam B1.xa (by rw [S.xe];rfl)
 have q3:H1.read b 0 1=some [.int .i64 3]:=zam B1.ob (by rw [← hk];rfl)
 have q4:H1.read b 2 1=some [.int .i64 o.hd]:=zam B1.ob rfl
 have q5:H1.read b 3 1=some [.int .i64 o.off]:=zam B1.ob rfl
 have q6:H1.read b 4 1=some [.int .i64 o.n]:=zam B1.ob rfl
 have q7:H1.read b 5 1=some [dc]:=zam B1.ob rfl
 obtain ⟨g,hg⟩:=Int.eq_ofNat_of_zero_le (show 0≤zd7 s.hs c o.hd by omega)
 have w1:decide ((g:Int) < 0)=false:=decide_eq_false (by omega)
 rw [hg] at f0
 have hhd:0≤o.hd∧o.hd < 6:=by
  refine Classical.byContradiction fun hcn=>?_
  have:zd7 s.hs c o.hd = -1:=by unfold zd7;rw [if_pos (by omega)]
  omega
 obtain ⟨k,hkk⟩:=Int.eq_ofNat_of_zero_le hhd.1
 have hk6:k < 6:=by omega
 have hgl:g < s.th.length:=by
  have e1:zd7 s.hs c o.hd=(s.hg c).getD k 0:=by
   unfold zd7
   rw [if_neg (by omega),hkk]
   rfl
  have h6:=(S.hi c hc).2
  have hm:(s.hg c).getD k 0∈s.hg c:=by
   rw [List.getD_eq_getElem?_getD,List.getElem?_eq_getElem (by omega)]
   exact List.getElem_mem _
  have hm2:s.hg c∈s.hs:=by
   have:s.hg c=s.hs[c]:=by simp [MS.hg,List.getD_eq_getElem?_getD,hc]
   rw [this];exact List.getElem_mem hc
  have:=S.hv _ hm2 _ hm
  omega
 by_cases c1:o.off < 0∨o.n < 0∨16 < o.off∨16 - o.off < o.n
 ·have hf:doF s c o=(zdk 6,s):=by
   unfold doF
   rw [hk,if_neg (by decide),if_neg (by decide),if_neg (by decide),if_neg (by omega),if_pos rfl,if_pos c1]
  obtain ⟨H9,f1,x9⟩:=zg8 (N:=N) (d:=d + 1) 6 H1
  obtain ⟨G,w,rr,n,fr⟩:=zg0 (H:=H9) (e:=e) (v:=zdc (zdk 6) .nils) (B1.more x9).re rfl
  obtain ⟨S',x'⟩:=(SH1.ext x9).fin (((B.ext.trans x1).trans x9).b _) S.lt B.ee n fr
  unfold zej
  rw [hf,zbp (F:=ir99) rfl rfl rfl]
  unfold ir99
  rw [zbv]
  simp only [zdc,zdk,zb9] at w rr f1 ⊢
  by_cases c2:o.off < 0
  ·have t1:decide (o.off < 0)=true:=decide_eq_true c2
   simp only [zbm,zap,zac,zca,zaq,zat,zao,zal,zau,zc8,zax,zbq,zad,zai,zab,zas,zae,zbd,zaf,zar,zav,zbn,za8,zbc,za3,zba,zbg,za7,zbb,zbi,za6,zbe,zbh,zag,zaw,X.eval,zak,zah,List.map_cons,List.map_nil,List.getD_cons_zero,List.getD_cons_succ,List.getD_nil,List.set_cons_zero,List.set_cons_succ,zaz,zan,zaa,zaj,intArith,shift,cond_true,cond_false,BEq.rfl,AV.cells,AV.ofCells,List.length_cons,List.length_nil,Nat.zero_add,Nat.add_zero,Nat.reduceAdd,Int.reduceBEq,Int.reduceNeg,Int.reduceLT,Int.reduceGT,decide_false,tf,hb,he,hH,za1,za5,za9,AV.ofCells,r2,r3,r4,r5,rx,zb0,v1,v2,zbl,zbu,RV.eval,f0,w1,q3,q5,t1,f1,w,rr]
   exact ⟨_,G,rfl,.inl ⟨rfl,rfl⟩,S',x'⟩
  have t1:decide (o.off < 0)=false:=decide_eq_false c2
  by_cases c3:o.n < 0
  ·have t2:decide (o.n < 0)=true:=decide_eq_true c3
   simp only [zbm,zap,zac,zca,zaq,zat,zao,zal,zau,zc8,zax,zbq,zad,zai,zab,zas,zae,zbd,zaf,zar,zav,zbn,za8,zbc,za3,zba,zbg,za7,zbb,zbi,za6,zbe,zbh,zag,zaw,X.eval,zak,zah,List.map_cons,List.map_nil,List.getD_cons_zero,List.getD_cons_succ,List.getD_nil,List.set_cons_zero,List.set_cons_succ,zaz,zan,zaa,zaj,intArith,shift,cond_true,cond_false,BEq.rfl,AV.cells,AV.ofCells,List.length_cons,List.length_nil,Nat.zero_add,Nat.add_zero,Nat.reduceAdd,Int.reduceBEq,Int.reduceNeg,Int.reduceLT,Int.reduceGT,decide_false,tf,hb,he,hH,za1,za5,za9,AV.ofCells,r2,r3,r4,r5,rx,zb0,v1,v2,zbl,zbu,RV.eval,f0,w1,q3,q5,q6,t1,t2,f1,w,rr]
   exact ⟨_,G,rfl,.inl ⟨rfl,rfl⟩,S',x'⟩
  have t2:decide (o.n < 0)=false:=decide_eq_false c3
  by_cases c4:o.off > 16
  ·have t3:decide (o.off > 16)=true:=decide_eq_true c4
   simp only [zbm,zap,zac,zca,zaq,zat,zao,zal,zau,zc8,zax,zbq,zad,zai,zab,zas,zae,zbd,zaf,zar,zav,zbn,za8,zbc,za3,zba,zbg,za7,zbb,zbi,za6,zbe,zbh,zag,zaw,X.eval,zak,zah,List.map_cons,List.map_nil,List.getD_cons_zero,List.getD_cons_succ,List.getD_nil,List.set_cons_zero,List.set_cons_succ,zaz,zan,zaa,zaj,intArith,shift,cond_true,cond_false,BEq.rfl,AV.cells,AV.ofCells,List.length_cons,List.length_nil,Nat.zero_add,Nat.add_zero,Nat.reduceAdd,Int.reduceBEq,Int.reduceNeg,Int.reduceLT,Int.reduceGT,decide_false,tf,hb,he,hH,za1,za5,za9,AV.ofCells,r2,r3,r4,r5,rx,zb0,v1,v2,zbl,zbu,RV.eval,f0,w1,q3,q5,q6,t1,t2,t3,f1,w,rr]
   exact ⟨_,G,rfl,.inl ⟨rfl,rfl⟩,S',x'⟩
  have t3:decide (o.off > 16)=false:=decide_eq_false c4
  have sw:=zs1 (k:=o.off) (by omega) (by omega)
  have t4:decide (o.n > 16 - o.off)=true:=decide_eq_true (by omega)
  simp only [zbm,zap,zac,zca,zaq,zat,zao,zal,zau,zc8,zax,zbq,zad,zai,zab,zas,zae,zbd,zaf,zar,zav,zbn,za8,zbc,za3,zba,zbg,za7,zbb,zbi,za6,zbe,zbh,zag,zaw,X.eval,zak,zah,List.map_cons,List.map_nil,List.getD_cons_zero,List.getD_cons_succ,List.getD_nil,List.set_cons_zero,List.set_cons_succ,zaz,zan,zaa,zaj,intArith,shift,cond_true,cond_false,BEq.rfl,AV.cells,AV.ofCells,List.length_cons,List.length_nil,Nat.zero_add,Nat.add_zero,Nat.reduceAdd,Int.reduceBEq,Int.reduceNeg,Int.reduceLT,Int.reduceGT,decide_false,tf,hb,he,hH,za1,za5,za9,AV.ofCells,r2,r3,r4,r5,rx,zb0,v1,v2,zbl,zbu,RV.eval,f0,w1,q3,q5,q6,t1,t2,t3,sw,t4,f1,w,rr]
  exact ⟨_,G,rfl,.inl ⟨rfl,rfl⟩,S',x'⟩
 ·obtain ⟨p,hp⟩:=Int.eq_ofNat_of_zero_le (show 0≤o.off by omega)
  obtain ⟨q,hq⟩:=Int.eq_ofNat_of_zero_le (show 0≤o.n by omega)
  rw [hp] at q5 c1
  rw [hq] at q6 c1
  have t1:decide ((p:Int) < 0)=false:=decide_eq_false (by omega)
  have t2:decide ((q:Int) < 0)=false:=decide_eq_false (by omega)
  have t3:decide ((p:Int) > 16)=false:=decide_eq_false (by omega)
  have sw:=zs1 (k:=(p:Int)) (by omega) (by omega)
  have t4:decide ((q:Int) > 16 - (p:Int))=false:=decide_eq_false (by omega)
  have t5:IntKind.i64.wrap ((p:Int) + (q:Int))=((p + q:Nat):Int):=by rw [zgf (by omega) (by omega)];omega
  have kb:=SH1.rb hgl
  have m1:Nat.blt g s.th.length=true:=zdp hgl
  have bl:=S.bl' hgl
  have m2:Nat.ble p (p + q)=true:=Nat.ble_eq_true_of_le (Nat.le_add_right _ _)
  have m3:Nat.ble (p + q) (strOf (s.bd.getD g [])).length=true:=Nat.ble_eq_true_of_le (by rw [zeg,bl];omega)
  have hf:doF s c o=(⟨0,0,0,((s.bd.getD g []).drop p).take q⟩,s):=by
   unfold doF
   rw [hk,if_neg (by decide),if_neg (by decide),if_neg (by decide),if_neg (by omega),if_pos rfl,hg,hp,hq,if_neg (by omega)]
   rfl
  have hs:((strOf (s.bd.getD g [])).drop p).take (p + q - p)=strOf (((s.bd.getD g []).drop p).take q):=by
   rw [Nat.add_sub_cancel_left];simp [strOf,List.map_take,List.map_drop]
  generalize hB:((s.bd.getD g []).drop p).take q=Bq at hf hs
  have hu:byteCells (strOf Bq)=u8s Bq:=by simp [byteCells,strOf,u8s,u8c,Function.comp_def]
  have xn:=(Ext.refl H1).new (.cells (u8s Bq))
  obtain ⟨G,w,rr,n,fr⟩:=zg0 (H:=H1.new (.cells (u8s Bq))) (e:=e) (v:=[.int .i64 0,.int .i64 0,.int .i64 0,.sl H1.next 0 (strOf Bq).length (.dy 1)]) (B1.more xn).re rfl
  obtain ⟨S',x'⟩:=(SH1.ext xn).fin (((B.ext.trans x1).trans xn).b _) S.lt B.ee n fr
  have hw:(H1.skip 1).put H1.next (.cells (u8s Bq))=H1.new (.cells (u8s Bq)):=rfl
  unfold zej
  rw [hf,zbp (F:=ir99) rfl rfl rfl]
  unfold ir99
  rw [zbv]
  simp only [zdc,zb9] at w rr ⊢
  have sk:∀ i o' n',(H1.skip 1).read i o' n'=H1.read i o' n':=fun _ _ _=>rfl
  simp only [zbm,zap,zac,zca,zaq,zat,zao,zal,zau,zc8,zax,zbq,zad,zai,zab,zas,zae,zbd,zaf,zar,zav,zbn,za8,zbc,za3,zba,za7,zbb,zbi,za6,zbe,zbh,zag,zaw,X.eval,zak,zah,List.map_cons,List.map_nil,List.getD_cons_zero,List.getD_cons_succ,List.getD_nil,List.set_cons_zero,List.set_cons_succ,zaz,zan,zaa,zaj,intArith,shift,bound,za0,cond_true,cond_false,BEq.rfl,zb4,zb7,AV.cells,AV.ofCells,List.length_cons,List.length_nil,zdo,setMany,List.nil_append,List.cons_append,Nat.ble,Nat.zero_add,Nat.add_zero,Nat.reduceAdd,Int.reduceBEq,Int.reduceNeg,Bool.and_true,Int.reduceLT,Int.reduceGT,decide_false,tf,hb,he,hH,za1,za5,za9,zbk,AV.ofCells,r2,r3,r4,r5,rx,zb0,v1,v2,zdl,zbl,zbu,RV.eval,zb5,zby,zbs,zbr,zbt,zd2,zco,zdj,zcn,zcq,zg4,zb1,zb2,zb6,zcc,List.reverse_cons,List.reverse_nil,zce,zd4,zd5,zz0,zxt,zhx,f0,w1,q1,q3,q5,q6,t1,t2,t3,sw,t4,t5,sk,m1,kb,m2,m3,hs,hu,hw,Nat.mul_one,w,rr]
  refine ⟨_,G,rfl,.inr ⟨H1.next,0,.dy 1,by rw [zeg],by rw [n];exact Nat.lt_succ_self _,fun j y hj=>?_⟩,S',x'⟩
  refine zam (l:=u8s Bq) ?_ (by simp [u8s,hj,u8c])
  rw [fr _ (by have:=B.ee;have:=B1.lt;omega)]
  exact zb8
theorem Bytes.b2s {h:Heap} {y:CV} {bs:List (BitVec 8)} (hx:Bytes h y bs) {loc vals:List AV}:za2 loc (.c y :: vals) h (.b2s (.val 0))=some (.c (.str (strOf bs))):=by
 have sr:=hx.source
 rcases hx with ⟨rfl,rfl⟩ | ⟨i,o,c,rfl,_,_⟩
 ·rfl
 ·simp only [Lav.source,Nat.mul_one] at sr
  show (match h.read i o bs.length with | some l=>(match bytesOf l with | some r=>some (AV.c (.str r)) | none=>none) | none=>(match bs.length with | 0=>some (AV.c (.str [])) | _ + 1=>none))=_
  cases hr:h.read i o bs.length with
  | some l =>
   rw [hr] at sr
   simp only [Option.some.injEq,Prod.mk.injEq] at sr
   rw [sr.2]
   show (match bytesOf (u8s bs) with | some r=>some (AV.c (.str r)) | none=>none)=_
   rw [zjx]
  | none =>
   rw [hr] at sr
   cases bs with
   | nil=>rfl
   | cons a l=>simp at sr
theorem zvz {dc:CV} {o:OpM} (S:SR h x z s) {c:Nat} (hc:c < s.hs.length) (hk:o.kd=4) (hn:0≤zd7 s.hs c o.hd) (hd:Bytes h dc o.data):zej N d h x z s c o dc:=by
 obtain ⟨H,b,e,hH,hb,he,B⟩:=zhf h x (opC o dc)
 have r2:H.read h.next 2 1=some [.sl z.hh 0 s.hs.length z.ch]:=zam B.xa (by rw [S.xe];rfl)
 have r0:H.read h.next 0 1=some [.sl z.t 0 s.th.length z.ct]:=zam B.xa (by rw [S.xe];rfl)
 have r1:H.read h.next 1 1=some [.sl z.b 0 s.th.length z.cb]:=zam B.xa (by rw [S.xe];rfl)
 have r3:H.read b 0 1=some [.int .i64 4]:=zam B.ob (by rw [← hk];rfl)
 have r4:H.read b 1 1=some [.int .i64 o.pg]:=zam B.ob rfl
 have r5:H.read b 2 1=some [.int .i64 o.hd]:=zam B.ob rfl
 have v1:decide ((c:Int) < 0)=false:=decide_eq_false (by omega)
 have v2:decide ((c:Int) ≥ (s.hs.length:Int))=false:=decide_eq_false (by omega)
 have SH:=S.ext B.ext
 have rx:=B.xs S.len3
 obtain ⟨H1,f0,x1⟩:=zj7 (N:=N) (d:=d + 1) SH (c:Int) o.hd
 have SH1:=SH.ext x1
 have B1:=B.more x1
 have rx1:=B1.xs S.len3
 have q1:H1.read h.next 1 1=some [.sl z.b 0 s.th.length z.cb]:=zam B1.xa (by rw [S.xe];rfl)
 have q2:H1.read h.next 2 1=some [.sl z.hh 0 s.hs.length z.ch]:=zam B1.xa (by rw [S.xe];rfl)
 have q3:H1.read b 0 1=some [.int .i64 4]:=zam B1.ob (by rw [← hk];rfl)
 have q4:H1.read b 2 1=some [.int .i64 o.hd]:=zam B1.ob rfl
 have q5:H1.read b 3 1=some [.int .i64 o.off]:=zam B1.ob rfl
 have q6:H1.read b 4 1=some [.int .i64 o.n]:=zam B1.ob rfl
 have q7:H1.read b 5 1=some [dc]:=zam B1.ob rfl
 obtain ⟨g,hg⟩:=Int.eq_ofNat_of_zero_le (show 0≤zd7 s.hs c o.hd by omega)
 have w1:decide ((g:Int) < 0)=false:=decide_eq_false (by omega)
 rw [hg] at f0
 have hhd:0≤o.hd∧o.hd < 6:=by
  refine Classical.byContradiction fun hcn=>?_
  have:zd7 s.hs c o.hd = -1:=by unfold zd7;rw [if_pos (by omega)]
  omega
 obtain ⟨k,hkk⟩:=Int.eq_ofNat_of_zero_le hhd.1
 have hk6:k < 6:=by omega
 have hgl:g < s.th.length:=by
  have e1:zd7 s.hs c o.hd=(s.hg c).getD k 0:=by
   unfold zd7
   rw [if_neg (by omega),hkk]
   rfl
  have h6:=(S.hi c hc).2
  have hm:(s.hg c).getD k 0∈s.hg c:=by
   rw [List.getD_eq_getElem?_getD,List.getElem?_eq_getElem (by omega)]
   exact List.getElem_mem _
  have hm2:s.hg c∈s.hs:=by
   have:s.hg c=s.hs[c]:=by simp [MS.hg,List.getD_eq_getElem?_getD,hc]
   rw [this];exact List.getElem_mem hc
  have:=S.hv _ hm2 _ hm
  omega
 have lw:∀ loc vals H,za2 loc (.c dc :: vals) H (.len .sl (.val 0))=some (.c (.int .i64 (o.data.length:Int))):=fun _ _ _=>hd.len rfl
 by_cases c1:o.off < 0∨16 < o.off∨16 - o.off < (o.data.length:Int)
 ·have hf:doF s c o=(zdk 6,s):=by
   unfold doF
   rw [hk,if_neg (by decide),if_neg (by decide),if_neg (by decide),if_neg (by omega),if_neg (by decide),if_pos rfl,if_pos c1]
  obtain ⟨H9,f1,x9⟩:=zg8 (N:=N) (d:=d + 1) 6 H1
  obtain ⟨G,w,rr,n,fr⟩:=zg0 (H:=H9) (e:=e) (v:=zdc (zdk 6) .nils) (B1.more x9).re rfl
  obtain ⟨S',x'⟩:=(SH1.ext x9).fin (((B.ext.trans x1).trans x9).b _) S.lt B.ee n fr
  unfold zej
  rw [hf,zbp (F:=ir99) rfl rfl rfl]
  unfold ir99
  rw [zbv]
  simp only [zdc,zdk,zb9] at w rr f1 ⊢
  by_cases c2:o.off < 0
  ·have t1:decide (o.off < 0)=true:=decide_eq_true c2
   simp only [zbm,zap,zac,zca,zaq,zat,zao,zal,zau,zc8,zax,zbq,zad,zai,zab,zas,zae,zbd,zaf,zar,zav,zbn,za8,zbc,za3,zba,zbg,za7,zbb,zbi,za6,zbe,zbh,zag,zaw,X.eval,zak,zah,List.map_cons,List.map_nil,List.getD_cons_zero,List.getD_cons_succ,List.getD_nil,List.set_cons_zero,List.set_cons_succ,zaz,zan,zaa,zaj,intArith,shift,cond_true,cond_false,BEq.rfl,AV.cells,AV.ofCells,List.length_cons,List.length_nil,Nat.zero_add,Nat.add_zero,Nat.reduceAdd,Int.reduceBEq,Int.reduceNeg,Int.reduceLT,Int.reduceGT,decide_false,tf,hb,he,hH,za1,za5,za9,AV.ofCells,r2,r3,r4,r5,rx,zb0,v1,v2,zbl,zbu,RV.eval,f0,w1,q3,q5,t1,f1,w,rr]
   exact ⟨_,G,rfl,.inl ⟨rfl,rfl⟩,S',x'⟩
  have t1:decide (o.off < 0)=false:=decide_eq_false c2
  by_cases c4:o.off > 16
  ·have t3:decide (o.off > 16)=true:=decide_eq_true c4
   simp only [zbm,zap,zac,zca,zaq,zat,zao,zal,zau,zc8,zax,zbq,zad,zai,zab,zas,zae,zbd,zaf,zar,zav,zbn,za8,zbc,za3,zba,zbg,za7,zbb,zbi,za6,zbe,zbh,zag,zaw,X.eval,zak,zah,List.map_cons,List.map_nil,List.getD_cons_zero,List.getD_cons_succ,List.getD_nil,List.set_cons_zero,List.set_cons_succ,zaz,zan,zaa,zaj,intArith,shift,cond_true,cond_false,BEq.rfl,AV.cells,AV.ofCells,List.length_cons,List.length_nil,Nat.zero_add,Nat.add_zero,Nat.reduceAdd,Int.reduceBEq,Int.reduceNeg,Int.reduceLT,Int.reduceGT,decide_false,tf,hb,he,hH,za1,za5,za9,AV.ofCells,r2,r3,r4,r5,rx,zb0,v1,v2,zbl,zbu,RV.eval,f0,w1,q3,q5,t1,t3,f1,w,rr]
   exact ⟨_,G,rfl,.inl ⟨rfl,rfl⟩,S',x'⟩
  have t3:decide (o.off > 16)=false:=decide_eq_false c4
  have sw:=zs1 (k:=o.off) (by omega) (by omega)
  have t4:decide ((o.data.length:Int) > 16 - o.off)=true:=decide_eq_true (by omega)
  simp only [zbm,zap,zac,zca,zaq,zat,zao,zal,zau,zc8,zax,zbq,zad,zai,zab,zas,zae,zbd,zaf,zar,zav,zbn,za8,zbc,za3,zba,zbg,za7,zbb,zbi,za6,zbe,zbh,zag,zaw,X.eval,zak,zah,List.map_cons,List.map_nil,List.getD_cons_zero,List.getD_cons_succ,List.getD_nil,List.set_cons_zero,List.set_cons_succ,zaz,zan,zaa,zaj,intArith,shift,cond_true,cond_false,BEq.rfl,AV.cells,AV.ofCells,List.length_cons,List.length_nil,Nat.zero_add,Nat.add_zero,Nat.reduceAdd,Int.reduceBEq,Int.reduceNeg,Int.reduceLT,Int.reduceGT,decide_false,tf,hb,he,hH,za1,za5,za9,AV.ofCells,r2,r3,r4,r5,rx,zb0,v1,v2,zbl,zbu,RV.eval,f0,w1,q3,q5,q7,lw,t1,t3,sw,t4,f1,w,rr]
  exact ⟨_,G,rfl,.inl ⟨rfl,rfl⟩,S',x'⟩
 ·obtain ⟨p,hp⟩:=Int.eq_ofNat_of_zero_le (show 0≤o.off by omega)
  rw [hp] at q5 c1
  have hpl:p + o.data.length≤16:=by omega
  have t1:decide ((p:Int) < 0)=false:=decide_eq_false (by omega)
  have t3:decide ((p:Int) > 16)=false:=decide_eq_false (by omega)
  have sw:=zs1 (k:=(p:Int)) (by omega) (by omega)
  have t4:decide ((o.data.length:Int) > 16 - (p:Int))=false:=decide_eq_false (by omega)
  have t5:IntKind.i64.wrap ((p:Int) + (o.data.length:Int))=((p + o.data.length:Nat):Int):=by rw [zgf (by omega) (by omega)];omega
  have kb:=SH1.rb hgl
  have m1:Nat.blt g s.th.length=true:=zdp hgl
  have bl:=S.bl' hgl
  have bs:∀ loc vals,za2 loc (.c dc :: vals) H1 (.b2s (.val 0))=some (.c (.str (strOf o.data))):=fun _ _=>(hd.ext (B.ext.trans x1)).b2s
  have lB:(strOf (s.bd.getD g [])).length=16:=by rw [zeg,bl]
  have m2:Nat.ble p 16=true:=Nat.ble_eq_true_of_le (by omega)
  have m3:Nat.ble (p + o.data.length) 16=true:=Nat.ble_eq_true_of_le hpl
  have m4:Nat.ble 16 16=true:=rfl
  have m5:Nat.ble 0 p=true:=Nat.ble_eq_true_of_le (Nat.zero_le _)
  have g1:Nat.ble (((strOf (s.bd.getD g [])).take p).length + (strOf o.data).length) 1073741824=true:=Nat.ble_eq_true_of_le (by rw [List.length_take,lB,zeg];omega)
  have g2:Nat.ble (((strOf (s.bd.getD g [])).take p++strOf o.data).length + (((strOf (s.bd.getD g [])).drop (p + o.data.length)).take (16 - (p + o.data.length))).length) 1073741824=true :=
   Nat.ble_eq_true_of_le (by simp only [List.length_append,List.length_take,List.length_drop,lB,zeg];omega)
  have hs:(strOf (s.bd.getD g [])).take p++strOf o.data++((strOf (s.bd.getD g [])).drop (p + o.data.length)).take (16 - (p + o.data.length))=strOf (zhy (s.bd.getD g []) o.data p):=by
   rw [List.take_of_length_le (l:=(strOf (s.bd.getD g [])).drop (p + o.data.length)) (by rw [List.length_drop,lB];exact Nat.le_refl _)]
   simp [strOf,zhy,List.map_take,List.map_drop]
  have hf:doF s c o=(okR,s.setB g (zhy (s.bd.getD g []) o.data p)):=by
   unfold doF
   rw [hk,if_neg (by decide),if_neg (by decide),if_neg (by decide),if_neg (by omega),if_neg (by decide),if_pos rfl,hg,hp,if_neg (by omega)]
   rfl
  have oB:=zvy (bs:=o.data) (k:=p) bl hpl
  have ww:H1.write z.b g [.str (strOf (zhy (s.bd.getD g []) o.data p))]=some (H1.put z.b (.cells ((s.bd.set g (zhy (s.bd.getD g []) o.data p)).map zgz))):=by
   rw [zef SH1.b (by rw [List.length_map,S.len];exact hgl)]
   simp [List.map_set,zgz]
  have S2:=SH1.setB (g:=g) oB
  have x2:ExtB z.own H1 (H1.put z.b (.cells ((s.bd.set g (zhy (s.bd.getD g []) o.data p)).map zgz))):=(ExtB.refl _ _).put (.inr (by simp [SP.own])) _
  have bb:=B1.moreB x2 S.lt
  generalize H1.put z.b (.cells ((s.bd.set g (zhy (s.bd.getD g []) o.data p)).map zgz))=H2 at ww S2 x2 bb
  obtain ⟨G,w,rr,n,fr⟩:=zg0 (H:=H2) (e:=e) (v:=zdc okR .nils) bb.2.2.2 rfl
  obtain ⟨S',x'⟩:=S2.fin (((B.ext.trans x1).b _).trans x2) S.lt B.ee n fr
  unfold zej
  rw [hf,zbp (F:=ir99) rfl rfl rfl]
  unfold ir99
  rw [zbv]
  simp only [zdc,okR,zb9] at w rr ⊢
  simp only [zbm,zap,zac,zaq,zat,zao,zal,zau,zay,zax,zbq,zad,zai,zab,zas,zae,zbd,zaf,zar,zav,zbn,za8,zbc,za3,zba,zbg,za7,zbb,zbi,za6,zbe,zbh,zag,zaw,X.eval,zak,zah,List.map_cons,List.map_nil,List.getD_cons_zero,List.getD_cons_succ,List.getD_nil,List.set_cons_zero,List.set_cons_succ,zaz,zan,zaa,zaj,intArith,shift,bound,za0,cond_true,cond_false,BEq.rfl,zb4,zb7,AV.cells,AV.ofCells,List.length_cons,List.length_nil,List.nil_append,List.cons_append,Nat.ble,Nat.zero_add,Nat.add_zero,Nat.reduceAdd,Int.reduceBEq,Int.reduceNeg,Bool.and_true,Int.reduceLT,Int.reduceGT,decide_false,tf,hb,he,hH,za1,za5,za9,zbk,AV.ofCells,r2,r3,r4,r5,rx,zb0,v1,v2,zds,zdl,zbl,zbu,RV.eval,zb5,zby,zbs,zbr,zbt,zd2,zco,zdj,zzw,zwr,zcn,zcq,zg4,zb1,zb2,zb6,zcc,zct,List.reverse_cons,List.reverse_nil,zce,zd4,zd5,f0,w1,q1,q3,q5,q7,lw,bs,lB,t1,t3,sw,t4,t5,m1,kb,m2,m3,m4,List.drop_zero,Nat.sub_zero,g1,g2,hs,ww,Nat.mul_one,w,rr]
  exact ⟨_,G,rfl,.inl ⟨rfl,rfl⟩,S',x'⟩
end
end Lav
