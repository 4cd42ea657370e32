import Derived.KernelRfl
import Derived.Test.YtpceddbicolfeaaGreatK10
import Derived.Test.YtpceddbicolfeaaGreatK11
import Derived.Test.YtpceddbicolfeaaGreatK12
set_option maxRecDepth 100000
namespace Lav
open Q
def AllP {α:Type} (P:α→Prop):List α→Prop
 | []=>True
 | a :: l=>P a∧AllP P l
theorem AllP.mem {α:Type} {P:α→Prop}:∀ {l:List α},AllP P l→∀ a∈l,P a
 | b :: l,h,a,ha=>by
  rcases List.mem_cons.1 ha with rfl | ha
  ·exact h.1
  ·exact AllP.mem h.2 a ha
theorem last (t0 t1 t2:Int):zc1 (ts 79 []) (evCallO OS table 3000 60 14 [.c (p 0 0),stT] (hp (H 107 t0 t1 t2)))=some (AV.mv τ0 (at0 (ts 79 [])) (.c f),87,(H 107 t0 t1 t2).map fun b=>some (b.mv τ0 (at0 (ts 79 []))))∧fit (H 107 t0 t1 t2) [.c (p 0 0),stT] (ts 79 []) 87=true:=⟨by kernel_rfl,by kernel_rfl⟩
def eds:List (Nat × Nat × Nat × Nat × Nat):=[(0,0,1,3,47),(0,1,2,3,47),(0,2,3,3,47),(0,3,4,3,47),(1,0,5,0,48),(1,1,6,3,48),(1,2,7,3,48),(1,3,8,3,48),(2,0,6,3,48),(2,1,9,1,48),(2,2,10,3,48),(2,3,11,3,48),(3,0,7,3,48),(3,1,10,3,48),(3,2,12,2,48),(3,3,13,3,48),(4,0,8,3,48),(4,1,11,3,48),(4,2,13,3,48),(4,3,14,3,48),(5,0,15,3,49),(5,1,16,3,49),(5,2,17,3,49),(6,0,15,0,49),(6,1,18,1,49),(6,2,19,3,49),(6,3,20,3,49),(7,0,16,0,49),(7,1,19,3,49),(7,2,21,2,49),(7,3,22,3,49),(8,0,17,0,49),(8,1,20,3,49),(8,2,22,3,49),(8,3,23,3,49),(9,0,18,3,49),(9,1,24,3,49),(9,2,25,3,49),(10,0,19,3,49),(10,1,24,1,49),(10,2,26,2,49),(10,3,27,3,49),(11,0,20,3,49),(11,1,25,1,49),(11,2,27,3,49),(11,3,28,3,49),(12,0,21,3,49),(12,1,26,3,49),(12,2,29,3,49),(13,0,22,3,49),(13,1,27,3,49),(13,2,29,2,49),(13,3,30,3,49),(14,0,23,3,49),(14,1,28,3,49),(14,2,30,3,49),(14,3,31,3,49),(15,0,32,1,50),(15,1,33,3,50),(15,2,34,3,50),(16,0,33,3,50),(16,1,35,2,50),(16,2,36,3,50),(17,0,34,3,50),(17,1,36,3,50),(17,2,37,3,50),(18,0,32,0,50),(18,1,38,3,50),(18,2,39,3,50),(19,0,33,0,50),(19,1,38,1,50),(19,2,40,2,50),(19,3,41,3,50),(20,0,34,0,50),(20,1,39,1,50),(20,2,41,3,50),(20,3,42,3,50),(21,0,35,0,50),(21,1,40,3,50),(21,2,43,3,50),(22,0,36,0,50),(22,1,41,3,50),(22,2,43,2,50),(22,3,44,3,50),(23,0,37,0,50),(23,1,42,3,50),(23,2,44,3,50),(23,3,45,3,50),(24,0,38,3,50),(24,1,46,2,50),(24,2,47,3,50),(25,0,39,3,50),(25,1,47,3,50),(25,2,48,3,50),(26,0,40,3,50),(26,1,46,1,50),(26,2,49,3,50),(27,0,41,3,50),(27,1,47,1,50),(27,2,49,2,50),(27,3,50,3,50),(28,0,42,3,50),(28,1,48,1,50),(28,2,50,3,50),(28,3,51,3,50),(29,0,43,3,50),(29,1,49,3,50),(29,2,52,3,50),(30,0,44,3,50),(30,1,50,3,50),(30,2,52,2,50),(30,3,53,3,50),(31,0,45,3,50),(31,1,51,3,50),(31,2,53,3,50),(32,0,54,3,51),(32,1,55,3,51),(33,0,54,1,51),(33,1,56,2,51),(33,2,57,3,51),(34,0,55,1,51),(34,1,57,3,51),(34,2,58,3,51),(35,0,56,3,51),(35,1,59,3,51),(36,0,57,3,51),(36,1,59,2,51),(36,2,60,3,51),(37,0,58,3,51),(37,1,60,3,51),(37,2,61,3,51),(38,0,54,0,51),(38,1,62,2,51),(38,2,63,3,51),(39,0,55,0,51),(39,1,63,3,51),(39,2,64,3,51),(40,0,56,0,51),(40,1,62,1,51),(40,2,65,3,51),(41,0,57,0,51),(41,1,63,1,51),(41,2,65,2,51),(41,3,66,3,51),(42,0,58,0,51),(42,1,64,1,51),(42,2,66,3,51),(42,3,67,3,51),(43,0,59,0,51),(43,1,65,3,51),(43,2,68,3,51),(44,0,60,0,51),(44,1,66,3,51),(44,2,68,2,51),(44,3,69,3,51),(45,0,61,0,51),(45,1,67,3,51),(45,2,69,3,51),(46,0,62,3,51),(46,1,70,3,51),(47,0,63,3,51),(47,1,70,2,51),(47,2,71,3,51),(48,0,64,3,51),(48,1,71,3,51),(48,2,72,3,51),(49,0,65,3,51),(49,1,70,1,51),(49,2,73,3,51),(50,0,66,3,51),(50,1,71,1,51),(50,2,73,2,51),(50,3,74,3,51),(51,0,67,3,51),(51,1,72,1,51),(51,2,74,3,51),(52,0,68,3,51),(52,1,73,3,51),(52,2,75,3,51),(53,0,69,3,51),(53,1,74,3,51),(53,2,75,2,51),(54,0,76,2,52),(54,1,77,3,52),(55,0,77,3,52),(55,1,78,3,52),(56,0,76,1,52),(56,1,79,3,52),(57,0,77,1,52),(57,1,79,2,52),(57,2,80,3,52),(58,0,78,1,52),(58,1,80,3,52),(58,2,81,3,52),(59,0,79,3,52),(59,1,82,3,52),(60,0,80,3,52),(60,1,82,2,52),(60,2,83,3,52),(61,0,81,3,52),(61,1,83,3,52),(62,0,76,0,52),(62,1,84,3,52),(63,0,77,0,52),(63,1,84,2,52),(63,2,85,3,52),(64,0,78,0,52),(64,1,85,3,52),(64,2,86,3,52),(65,0,79,0,52),(65,1,84,1,52),(65,2,87,3,52),(66,0,80,0,52),(66,1,85,1,52),(66,2,87,2,52),(66,3,88,3,52),(67,0,81,0,52),(67,1,86,1,52),(67,2,88,3,52),(68,0,82,0,52),(68,1,87,3,52),(68,2,89,3,52),(69,0,83,0,52),(69,1,88,3,52),(69,2,89,2,52),(70,0,84,3,52),(70,1,90,3,52),(71,0,85,3,52),(71,1,90,2,52),(71,2,91,3,52),(72,0,86,3,52),(72,1,91,3,52),(73,0,87,3,52),(73,1,90,1,52),(73,2,92,3,52),(74,0,88,3,52),(74,1,91,1,52),(74,2,92,2,52),(75,0,89,3,52),(75,1,92,3,52),(76,0,93,3,53),(77,0,93,2,53),(77,1,94,3,53),(78,0,94,3,53),(78,1,95,3,53),(79,0,93,1,53),(79,1,96,3,53),(80,0,94,1,53),(80,1,96,2,53),(80,2,97,3,53),(81,0,95,1,53),(81,1,97,3,53),(82,0,96,3,53),(82,1,98,3,53),(83,0,97,3,53),(83,1,98,2,53),(84,0,93,0,53),(84,1,99,3,53),(85,0,94,0,53),(85,1,99,2,53),(85,2,100,3,53),(86,0,95,0,53),(86,1,100,3,53),(87,0,96,0,53),(87,1,99,1,53),(87,2,101,3,53),(88,0,97,0,53),(88,1,100,1,53),(88,2,101,2,53),(89,0,98,0,53),(89,1,101,3,53),(90,0,99,3,53),(90,1,102,3,53),(91,0,100,3,53),(91,1,102,2,53),(92,0,101,3,53),(92,1,102,1,53),(93,0,103,3,54),(94,0,103,2,54),(94,1,104,3,54),(95,0,104,3,54),(96,0,103,1,54),(96,1,105,3,54),(97,0,104,1,54),(97,1,105,2,54),(98,0,105,3,54),(99,0,103,0,54),(99,1,106,3,54),(100,0,104,0,54),(100,1,106,2,54),(101,0,105,0,54),(101,1,106,1,54),(102,0,106,3,54),(103,0,107,3,55),(104,0,107,2,55),(105,0,107,1,55),(106,0,107,0,55)]
theorem edsP:AllP (fun e=>EP e.1 e.2.1 e.2.2.1 e.2.2.2.1 e.2.2.2.2) eds:=⟨x0_0,x0_1,x0_2,x0_3,x1_0,x1_1,x1_2,x1_3,x2_0,x2_1,x2_2,x2_3,x3_0,x3_1,x3_2,x3_3,x4_0,x4_1,x4_2,x4_3,x5_0,x5_1,x5_2,x6_0,x6_1,x6_2,x6_3,x7_0,x7_1,x7_2,x7_3,x8_0,x8_1,x8_2,x8_3,x9_0,x9_1,x9_2,zabq,zabr,zabs,zabt,zabu,zabv,zabw,zabx,zaby,zabz,zab0,zab1,zab2,zab3,zab4,zab5,zab6,zab7,zab8,zab9,zaca,zacb,zacc,zacd,zace,zacf,zacg,zach,zaci,zacj,zack,zacl,zacm,zacn,zaco,zacp,zacq,zacr,zacs,zact,zacu,zacv,zacw,zacx,zacy,zacz,zac0,zac1,zac2,zac3,zac4,zac5,zac6,zac7,zac8,zac9,zada,zadb,zadc,zadd,zade,zadf,zadg,zadh,zadi,zadj,zadk,zadl,zadm,zadn,zado,zadp,zadq,zadr,zads,zadt,zadu,zadv,zadw,zadx,zady,zadz,zad0,zad1,zad2,zad3,zad4,zad5,zad6,zad7,zad8,zad9,zaea,zaeb,zaec,zaed,zaee,zaef,zaeg,zaeh,zaei,zaej,zaek,zael,zaem,zaen,zaeo,zaep,zaeq,zaer,zaes,zaet,zaeu,zaev,zaew,zaex,zaey,zaez,zae0,zae1,zae2,zae3,zae4,zae5,zae6,zae7,zae8,zae9,zafa,zafb,zafc,zafd,zafe,zaff,zafg,zafh,zafi,zafj,zafk,zafl,zafm,zafn,zafo,zafp,zafq,zafr,zafs,zaft,zafu,zafv,zafw,zafx,zafy,zafz,zaf0,zaf1,zaf2,zaf3,zaf4,zaf5,zaf6,zaf7,zaf8,zaf9,zaga,zagb,zagc,zagd,zage,zagf,zagg,zagh,zagi,zagj,zagk,zagl,zagm,zagn,zago,zagp,zagq,zagr,zags,zagt,zagu,zagv,zagw,zagx,zagy,zagz,zag0,zag1,zag2,zag3,zag4,zag5,zag6,zag7,zag8,zag9,zaha,zahb,zahc,zahd,zahe,zahf,zahg,zahh,zahi,zahj,zahk,zahl,zahm,zahn,zaho,zahp,zahq,zahr,zahs,zaht,zahu,zahv,zahw,zahx,zahy,zahz,zah0,zah1,zah2,zah3,zah4,zah5,zah6,zah7,zah8,zah9,zaia,zaib,zaic,zaid,zaie,zaif,zaig,zaih,zaii,zaij,zaik,zail,zaim,zain,zaaj,zaak,zaal,zaam,zaan,zaao,zaap,zaaq,zaar,trivial⟩
def rds:List (Nat × Nat × Option Nat × Option Nat × Option Nat):=[(0,41,none,none,none),(1,57,some 48,none,none),(2,63,none,some 49,none),(3,65,none,none,some 50),(4,66,none,none,none),(5,57,none,none,none),(6,77,some 49,some 50,none),(7,79,some 49,none,some 51),(8,80,some 49,none,none),(9,63,none,none,none),(10,84,none,some 50,some 51),(11,85,none,some 50,none),(12,65,none,none,none),(13,87,none,none,some 51),(14,88,none,none,none),(15,77,none,some 50,none),(16,79,none,none,some 51),(17,80,none,none,none),(18,77,some 50,none,none),(19,93,some 50,some 51,some 52),(20,94,some 50,some 51,none),(21,79,some 50,none,none),(22,96,some 50,none,some 52),(23,97,some 50,none,none),(24,84,none,none,some 51),(25,85,none,none,none),(26,84,none,some 51,none),(27,99,none,some 51,some 52),(28,100,none,some 51,none),(29,87,none,none,none),(30,101,none,none,some 52),(31,88,none,none,none),(32,77,none,none,none),(33,93,none,some 51,some 52),(34,94,none,some 51,none),(35,79,none,none,none),(36,96,none,none,some 52),(37,97,none,none,none),(38,93,some 51,none,some 52),(39,94,some 51,none,none),(40,93,some 51,some 52,none),(41,103,some 51,some 52,some 53),(42,104,some 51,some 52,none),(43,96,some 51,none,none),(44,105,some 51,none,some 53),(45,97,some 51,none,none),(46,84,none,none,none),(47,99,none,none,some 52),(48,100,none,none,none),(49,99,none,some 52,none),(50,106,none,some 52,some 53),(51,100,none,some 52,none),(52,101,none,none,none),(53,101,none,none,some 53),(54,93,none,none,some 52),(55,94,none,none,none),(56,93,none,some 52,none),(57,103,none,some 52,some 53),(58,104,none,some 52,none),(59,96,none,none,none),(60,105,none,none,some 53),(61,97,none,none,none),(62,93,some 52,none,none),(63,103,some 52,none,some 53),(64,104,some 52,none,none),(65,103,some 52,some 53,none),(66,107,some 52,some 53,some 54),(67,104,some 52,some 53,none),(68,105,some 52,none,none),(69,105,some 52,none,some 54),(70,99,none,none,none),(71,106,none,none,some 53),(72,100,none,none,none),(73,106,none,some 53,none),(74,106,none,some 53,some 54),(75,101,none,none,none),(76,93,none,none,none),(77,103,none,none,some 53),(78,104,none,none,none),(79,103,none,some 53,none),(80,107,none,some 53,some 54),(81,104,none,some 53,none),(82,105,none,none,none),(83,105,none,none,some 54),(84,103,some 53,none,none),(85,107,some 53,none,some 54),(86,104,some 53,none,none),(87,107,some 53,some 54,none),(88,107,some 53,some 54,some 55),(89,105,some 53,none,none),(90,106,none,none,none),(91,106,none,none,some 54),(92,106,none,some 54,none),(93,103,none,none,none),(94,107,none,none,some 54),(95,104,none,none,none),(96,107,none,some 54,none),(97,107,none,some 54,some 55),(98,105,none,none,none),(99,107,some 54,none,none),(100,107,some 54,none,some 55),(101,107,some 54,some 55,none),(102,106,none,none,none),(103,107,none,none,none),(104,107,none,none,some 55),(105,107,none,some 55,none),(106,107,some 55,none,none)]
theorem rdsP:AllP (fun e=>RP e.1 e.2.1 e.2.2.1 e.2.2.2.1 e.2.2.2.2) rds:=⟨y0,y1,y2,y3,y4,y5,y6,y7,y8,y9,y10,y11,y12,y13,y14,y15,y16,y17,y18,y19,y20,y21,y22,y23,y24,y25,y26,y27,y28,y29,y30,y31,y32,y33,y34,y35,y36,y37,y38,y39,y40,y41,y42,y43,y44,y45,y46,y47,y48,y49,y50,y51,y52,y53,y54,y55,y56,y57,y58,y59,y60,y61,y62,y63,y64,y65,y66,y67,y68,y69,y70,y71,y72,y73,y74,y75,y76,y77,y78,y79,y80,y81,y82,y83,y84,y85,y86,y87,y88,y89,y90,y91,y92,y93,y94,y95,y96,y97,y98,y99,y100,y101,y102,y103,y104,y105,y106,trivial⟩
def infos:List (Bool × Bool × Bool × Nat):=[(false,false,false,0),(false,false,false,1),(false,false,false,1),(false,false,false,1),(false,false,false,1),(true,false,false,2),(false,false,false,2),(false,false,false,2),(false,false,false,2),(false,true,false,2),(false,false,false,2),(false,false,false,2),(false,false,true,2),(false,false,false,2),(false,false,false,2),(true,false,false,3),(true,false,false,3),(true,false,false,3),(false,true,false,3),(false,false,false,3),(false,false,false,3),(false,false,true,3),(false,false,false,3),(false,false,false,3),(false,true,false,3),(false,true,false,3),(false,false,true,3),(false,false,false,3),(false,false,false,3),(false,false,true,3),(false,false,false,3),(false,false,false,3),(true,true,false,4),(true,false,false,4),(true,false,false,4),(true,false,true,4),(true,false,false,4),(true,false,false,4),(false,true,false,4),(false,true,false,4),(false,false,true,4),(false,false,false,4),(false,false,false,4),(false,false,true,4),(false,false,false,4),(false,false,false,4),(false,true,true,4),(false,true,false,4),(false,true,false,4),(false,false,true,4),(false,false,false,4),(false,false,false,4),(false,false,true,4),(false,false,false,4),(true,true,false,5),(true,true,false,5),(true,false,true,5),(true,false,false,5),(true,false,false,5),(true,false,true,5),(true,false,false,5),(true,false,false,5),(false,true,true,5),(false,true,false,5),(false,true,false,5),(false,false,true,5),(false,false,false,5),(false,false,false,5),(false,false,true,5),(false,false,false,5),(false,true,true,5),(false,true,false,5),(false,true,false,5),(false,false,true,5),(false,false,false,5),(false,false,true,5),(true,true,true,6),(true,true,false,6),(true,true,false,6),(true,false,true,6),(true,false,false,6),(true,false,false,6),(true,false,true,6),(true,false,false,6),(false,true,true,6),(false,true,false,6),(false,true,false,6),(false,false,true,6),(false,false,false,6),(false,false,true,6),(false,true,true,6),(false,true,false,6),(false,false,true,6),(true,true,true,7),(true,true,false,7),(true,true,false,7),(true,false,true,7),(true,false,false,7),(true,false,true,7),(false,true,true,7),(false,true,false,7),(false,false,true,7),(false,true,true,7),(true,true,true,8),(true,true,false,8),(true,false,true,8),(false,true,true,8),(true,true,true,9)]
end Lav
set_option maxRecDepth 100000
namespace Lav
open Go (IntKind)
structure OpM where
 kd:Int
 pg:Int
 hd:Int
 off:Int
 n:Int
 data:List (BitVec 8)
structure ResM where
 code:Int
 rp:Int
 rh:Int
 rd:List (BitVec 8)
def opC (o:OpM) (dc:CV):List CV:=[zbw o.kd,zbw o.pg,zbw o.hd,zbw o.off,zbw o.n,dc]
def zce (r:ResM) (rc:CV):List CV:=[zbw r.code,zbw r.rp,zbw r.rh,rc]
def zci (c:Int):ResM:=⟨c,0,0,[]⟩
def okR:ResM:=⟨0,0,0,[]⟩
def z16:List (BitVec 8):=List.replicate 16 0#8
def MS.setB (s:MS) (g:Nat) (b:List (BitVec 8)):MS:={ s with bd:=s.bd.set g b }
def MS.setP (s:MS) (g:Nat) (t:Bool):MS:={ s with th:=s.th.set g t,bd:=s.bd.set g z16 }
def zc7:List Bool→Nat
 | []=>0
 | b :: r=>bif b then zc7 r + 1 else 0
theorem zo1:∀ l,zc7 l≤l.length
 | []=>Nat.le_refl _
 | a :: r=>by unfold zc7;have:=zo1 r;cases a<;>simp;omega
theorem zo2:∀ {l:List Bool} {i:Nat},i < zc7 l→l.getD i false=true
 | [],i,h=>by simp [zc7] at h
 | false :: r,i,h=>by simp [zc7] at h
 | true :: r,i,h=>by
  cases i with
  | zero=>rfl
  | succ i=>simpa using zo2 (l:=r) (i:=i) (by simpa [zc7] using h)
theorem zo3:∀ {l:List Bool},zc7 l < l.length→l.getD (zc7 l) false=false
 | [],h=>by simp [zc7] at h
 | false :: r,h=>by simp [zc7]
 | true :: r,h=>by simpa [zc7] using zo3 (l:=r) (by simpa [zc7] using h)
def doF (s:MS) (c:Nat) (o:OpM):ResM × MS :=
 if o.kd=1 then
  if zca (s.hg c) < 6 then
   if zc7 s.th < s.th.length then (⟨0,zc7 s.th,zca (s.hg c),[]⟩,(s.setP (zc7 s.th) true).setH c (zca (s.hg c)) (zc7 s.th))
   else (zci 3,s)
  else (zci 4,s)
 else if o.kd=2∨o.kd=6∨o.kd=8 then
  if o.pg < 0∨(s.th.length:Int)≤o.pg then (zci 1,s)
  else if s.th.getD o.pg.toNat false=false then (zci 2,s)
  else if o.kd=2 then
   if zca (s.hg c) < 6 then (⟨0,o.pg,zca (s.hg c),[]⟩,s.setH c (zca (s.hg c)) o.pg) else (zci 4,s)
  else if o.kd=6 then (okR,s)
  else if 0 < zd2 s.hs o.pg then (zci 7,s) else (okR,s.setP o.pg.toNat false)
 else if o.kd=7 then (okR,s)
 else if zdb s.hs c o.hd < 0 then (zci 5,s)
 else if o.kd=3 then
  if o.off < 0∨o.n < 0∨16 < o.off∨16 - o.off < o.n then (zci 6,s)
  else (⟨0,0,0,((s.bd.getD (zdb s.hs c o.hd).toNat []).drop o.off.toNat).take o.n.toNat⟩,s)
 else if o.kd=4 then
  if o.off < 0∨16 < o.off∨16 - o.off < (o.data.length:Int) then (zci 6,s)
  else (okR,s.setB (zdb s.hs c o.hd).toNat (zg6 (s.bd.getD (zdb s.hs c o.hd).toNat []) o.data o.off.toNat))
 else (okR,s.setH c o.hd.toNat (-1))
section
variable {N d:Nat} {h:Heap} {x:List CV} {z:SP} {s:MS}
theorem zf8 (c:Int) (h:Heap):∃ h',evCallO OS table N (d + 1) 133 [.c (.int .i64 c)] h=some (.agg (zce (zci c) .nils),h')∧Ext h h':=by
 have e1:=(Ext.refl h).new (.cells [.int .i64 0,.int .i64 0,.int .i64 0,.nils])
 have w:=zg4 (h:=h.new (.cells [.int .i64 0,.int .i64 0,.int .i64 0,.nils])) (i:=h.next) (o:=0) (vs:=zce (zci c) .nils) zbz (by simp [zce])
 have r:((h.new (.cells [.int .i64 0,.int .i64 0,.int .i64 0,.nils])).put h.next (.cells (zce (zci c) .nils))).read h.next 0 4=some (zce (zci c) .nils):=by
  rw [zcd zd8 (by simp [zce])];rfl
 rw [zbi (F:=ir133) rfl rfl rfl]
 unfold ir133
 rw [zbp]
 simp only [zce,zci,zbw] at w r ⊢
 simp only [List.take_zero,List.nil_append,List.length_cons,List.length_nil,List.drop_succ_cons,List.drop_nil,List.append_nil,Nat.zero_add,Nat.reduceAdd] at w
 simp only [za9,zap,zac,zas,zbl,zad,zaj,zaa,zae,zaf,zar,zbq,zbo,zaz,za1,zbf,zag,za7,X.eval,zal,zai,List.map_cons,List.map_nil,List.getD_cons_zero,List.getD_cons_succ,List.getD_nil,List.set_cons_zero,List.set_cons_succ,cond_true,BEq.rfl,zb0,zb1,AV.cells,AV.ofCells,List.length_cons,List.length_nil,zdf,setMany,Nat.ble,Nat.zero_add,Nat.reduceAdd,zdt,zdl,zbj,w,zbk,RV.eval,r]
 exact ⟨_,rfl,e1.put (Nat.le_refl _) _⟩
theorem zqi (h:Heap):∃ h',evCallO OS table N (d + 1) 97 [] h=some (.c (zfx z16),h')∧Ext h h':=by
 have e1:=(Ext.refl h).new (.cells (u8s z16))
 have hz:zeros 16 [.int .u8 0]=u8s z16:=zqg 16
 have b:zao [.c (.str [])] [.c (.sl h.next 0 16 (.ex 16))] (h.new (.cells (u8s z16))) (.b2s (.val 0))=some (.c (.str (strOf z16))):=by
  refine zno (bs:=z16) rfl ?_
  rw [zn8 zbz (by simp [z16])];rfl
 rw [zbi (F:=ir97) rfl rfl rfl]
 unfold ir97
 rw [zbp]
 have n16:zda (.c (.int .i64 16))=some 16:=rfl
 have c1:(Nat.ble 16 16 && Nat.ble 16 1073741824 && [CV.int .u8 0].length == 1)=true:=rfl
 simp only [za9,List.map_cons,List.map_nil,List.getD_nil,zap,zas,zad,zaj,zaa,zae,zar,zp0,zbf,X.eval,n16,c1,cond_true,za7,zaf,hz,zai,List.set_cons_zero,zac]
 rw [show zcj [.c (.str [])] [.c (.sl h.next 0 16 (.ex 16))] (evCallO OS table N d) (h.new (.cells (u8s z16))) (.b2s (.val 0))=zeb (h.new (.cells (u8s z16))) (zao [.c (.str [])] [.c (.sl h.next 0 16 (.ex 16))] (h.new (.cells (u8s z16))) (.b2s (.val 0))) from rfl,b]
 simp only [zac,zbl,zad,zaj,zaa,zae,zaf,zar,zaz,za1,zag,X.eval,zal,zai,List.getD_cons_zero,List.set_cons_zero,zbk,RV.eval]
 exact ⟨_,rfl,e1⟩
end
end Lav
set_option maxRecDepth 100000
namespace Lav
open Go (IntKind)
structure Boxed (h H:Heap) (b e:Nat) (x op:List CV):Prop where
 ext:Ext h H
 xa:H.get h.next=some (.cells x)
 ob:H.get b=some (.cells op)
 re:H.get e=some (.cells [.int .i64 0,.int .i64 0,.int .i64 0,.nils])
 eb:b=h.next + 1
 ee:e=h.next + 2
 lt:h.next + 2 < H.next
theorem zgh (h:Heap) (x op:List CV):∃ H b e,((h.new (.cells x)).new (.cells op)).new (.cells [.int .i64 0,.int .i64 0,.int .i64 0,.nils])=H∧(h.new (.cells x)).next=b∧((h.new (.cells x)).new (.cells op)).next=e∧Boxed h H b e x op:=by
 refine ⟨_,_,_,rfl,rfl,rfl,(((Ext.refl h).new _).new _).new _,?_,?_,zbz,rfl,rfl,by simp [Heap.new]⟩
 ·rw [zcp (by simp [Heap.new];omega),zcp (by simp [Heap.new])];exact zbz
 ·rw [zcp (by simp [Heap.new])];exact zbz
section
variable {N d:Nat} {h H G:Heap} {b e:Nat} {x op:List CV} {z:SP} {s:MS}
theorem Boxed.more (B:Boxed h H b e x op) (y:Ext H G):Boxed h G b e x op:=by
 have h1:=B.eb;have h2:=B.ee;have h3:=B.lt
 exact ⟨B.ext.trans y,y.at_ B.xa (by omega),y.at_ B.ob (by omega),y.at_ B.re (by omega),h1,h2,Nat.lt_of_lt_of_le h3 y.1⟩
theorem Boxed.moreB {L:List Nat} (B:Boxed h H b e x op) (y:ExtB L H G) (hL:∀ j∈L,j < h.next):H.next≤G.next∧G.get h.next=some (.cells x)∧G.get b=some (.cells op)∧G.get e=some (.cells [.int .i64 0,.int .i64 0,.int .i64 0,.nils]):=by
 have h1:=B.eb;have h2:=B.ee;have h3:=B.lt
 have no:∀ j,h.next≤j→j ∉ L:=fun j hj hm=>by have:=hL j hm;omega
 exact ⟨y.1,y.at_ B.xa (by omega) (no _ (Nat.le_refl _)),y.at_ B.ob (by omega) (no _ (by omega)),y.at_ B.re (by omega) (no _ (by omega))⟩
theorem Boxed.xs (B:Boxed h H b e x op) (hx:x.length=3):H.read h.next 0 3=some x:=by
 rw [zcd B.xa (by omega),List.drop_zero,List.take_of_length_le (by omega)]
theorem zf1 {v:List CV} (re:H.get e=some (.cells [.int .i64 0,.int .i64 0,.int .i64 0,.nils])) (hv:v.length=4):∃ G,H.write e 0 v=some G∧G.read e 0 4=some v∧G.next=H.next∧∀ k,k≠e→G.get k=H.get k:=by
 refine ⟨_,zg4 re (by rw [hv];exact Nat.le_refl _),?_,rfl,fun k hk=>zb8 hk⟩
 rw [zcd zd8 (by simp [hv])]
 simp [hv]
 match v,hv with
 | [_,_,_,_],_=>rfl
def zdp (N d:Nat) (h:Heap) (x:List CV) (z:SP) (s:MS) (c:Nat) (o:OpM) (dc:CV):Prop :=
 ∃ rc h',evCallO OS table N (d + 3) 99 [.agg x,.c (.int .i64 (c:Int)),.agg (opC o dc)] h=some (.agg (zce (doF s c o).1 rc),h')∧Bytes h' rc (doF s c o).1.rd∧SR h' x z (doF s c o).2∧ExtB z.own h h'
theorem SR.fin {s':MS} (S:SR H x z s') (eo:ExtB z.own h H) (hl:∀ j∈z.own,j < h.next) (he:e=h.next + 2) (hn:G.next=H.next) (hg:∀ k,k≠e→G.get k=H.get k):SR G x z s'∧ExtB z.own h G:=by
 have y:ExtB [e] H G:=⟨by omega,fun i _ hi=>hg i (by simpa using hi)⟩
 refine ⟨S.extB y fun j hj hm=>?_,⟨by have:=eo.1;omega,fun i hi hno=>?_⟩⟩
 ·simp at hm;have:=hl j hj;omega
 ·rw [hg i (by omega)];exact eo.2 i hi hno
theorem SR.len3 (S:SR h x z s):x.length=3:=by rw [S.xe];rfl
theorem zaas {dc:CV} {o:OpM} (S:SR h x z s) {c:Nat} (hc:c < s.hs.length) (hk:o.kd=7):zdp N d h x z s c o dc:=by
 obtain ⟨H,b,e,hH,hb,he,B⟩:=zgh h x (opC o dc)
 have r2:H.read h.next 2 1=some [.sl z.hh 0 s.hs.length z.ch]:=zah B.xa (by rw [S.xe];rfl)
 have r3:H.read b 0 1=some [.int .i64 7]:=zah B.ob (by rw [← hk];rfl)
 have r4:H.read b 1 1=some [.int .i64 o.pg]:=zah B.ob rfl
 have v1:decide ((c:Int) < 0)=false:=decide_eq_false (by omega)
 have v2:decide ((c:Int) ≥ (s.hs.length:Int))=false:=decide_eq_false (by omega)
 obtain ⟨G,w,rr,n,fr⟩:=zf1 (H:=H) (e:=e) (v:=zce okR .nils) B.re rfl
 have hf:doF s c o=(okR,s):=by unfold doF;simp [hk]
 obtain ⟨S',x'⟩:=(S.ext B.ext).fin (B.ext.b _) S.lt B.ee n fr
 unfold zdp
 rw [hf]
 rw [zbi (F:=ir99) rfl rfl rfl]
 unfold ir99
 rw [zbp]
 simp only [zce,okR,zbw] at w rr ⊢
 simp only [za9,zap,zac,zas,zat,zam,za2,zbm,za5,zbl,zad,zaj,zaa,zau,zae,zaf,zar,zax,zbq,zba,zbg,za4,zbo,zaz,za1,za6,zbe,zbf,zag,za7,X.eval,zal,zai,List.map_cons,List.map_nil,List.getD_cons_zero,List.getD_cons_succ,List.getD_nil,List.set_cons_zero,List.set_cons_succ,zay,zaq,zab,zak,intArith,shift,cond_true,cond_false,BEq.rfl,zb0,zb1,AV.cells,AV.ofCells,List.length_cons,List.length_nil,Nat.zero_add,Nat.add_zero,Nat.reduceAdd,Int.reduceBEq,Int.reduceNeg,Int.reduceLT,Int.reduceGT,decide_false,hb,he,hH,za0,za3,za8,AV.ofCells,r2,r3,r4,zbs,v1,v2,zdt,zdl,zbj,w,zbk,RV.eval,rr]
 exact ⟨_,G,rfl,.inl ⟨rfl,rfl⟩,S',x'⟩
theorem zww {dc:CV} {o:OpM} (S:SR h x z s) {c:Nat} (hc:c < s.hs.length) {K:Int} (hk:o.kd=K) (h26:K=2∨K=6∨K=8)
  (hno:o.pg < 0∨(s.th.length:Int)≤o.pg∨s.th.getD o.pg.toNat false=false):zdp N d h x z s c o dc:=by
 obtain ⟨H,b,e,hH,hb,he,B⟩:=zgh h x (opC o dc)
 have r2:H.read h.next 2 1=some [.sl z.hh 0 s.hs.length z.ch]:=zah B.xa (by rw [S.xe];rfl)
 have r0:H.read h.next 0 1=some [.sl z.t 0 s.th.length z.ct]:=zah B.xa (by rw [S.xe];rfl)
 have r1:H.read h.next 1 1=some [.sl z.b 0 s.th.length z.cb]:=zah B.xa (by rw [S.xe];rfl)
 have r3:H.read b 0 1=some [.int .i64 K]:=zah B.ob (by rw [← hk];rfl)
 have r4:H.read b 1 1=some [.int .i64 o.pg]:=zah B.ob rfl
 have r5:H.read b 2 1=some [.int .i64 o.hd]:=zah B.ob rfl
 have v1:decide ((c:Int) < 0)=false:=decide_eq_false (by omega)
 have v2:decide ((c:Int) ≥ (s.hs.length:Int))=false:=decide_eq_false (by omega)
 have SH:=S.ext B.ext
 have rx:=B.xs S.len3
 have w1:decide (K < 1)=false:=decide_eq_false (by omega)
 have w2:decide (K > 8)=false:=decide_eq_false (by omega)
 have key:(K == 2 || K == 6 || K == 8)=true:=by rcases h26 with rfl | rfl | rfl<;>rfl
 by_cases c1:o.pg < 0∨(s.th.length:Int)≤o.pg
 ·have hf:doF s c o=(zci 1,s):=by
   unfold doF
   rw [hk,if_neg (by omega),if_pos h26,if_pos c1]
  obtain ⟨H1,f1,x1⟩:=zf8 (N:=N) (d:=d + 1) 1 H
  obtain ⟨G,w,rr,n,fr⟩:=zf1 (H:=H1) (e:=e) (v:=zce (zci 1) .nils) (B.more x1).re rfl
  obtain ⟨S',x'⟩:=(SH.ext x1).fin ((B.ext.b _).trans (x1.b _)) S.lt B.ee n fr
  have w3:(decide (o.pg < 0) || decide (o.pg ≥ (s.th.length:Int)))=true:=by simp;omega
  unfold zdp
  rw [hf,zbi (F:=ir99) rfl rfl rfl]
  unfold ir99
  rw [zbp]
  simp only [zce,zci,zbw] at w rr f1 ⊢
  by_cases c2:o.pg < 0
  ·have u1:decide (o.pg < 0)=true:=decide_eq_true c2
   rcases h26 with rfl | rfl | rfl
   ·simp only [za9,zap,zac,zbx,zas,zat,zav,zam,za5,zbl,zad,zaj,zaa,zau,zae,zbn,zaf,zar,zax,zbq,zba,zbg,za4,zbd,zbo,zbb,zaz,za1,za6,zbe,zbf,zag,za7,X.eval,zal,zai,List.map_cons,List.map_nil,List.getD_cons_zero,List.getD_cons_succ,List.getD_nil,List.set_cons_zero,List.set_cons_succ,zay,zaq,zab,zak,intArith,shift,cond_true,cond_false,BEq.rfl,AV.cells,AV.ofCells,List.length_cons,List.length_nil,Nat.zero_add,Nat.add_zero,Nat.reduceAdd,Int.reduceNeg,Int.reduceLT,Int.reduceGT,decide_false,tf,hb,he,hH,za0,za3,za8,AV.ofCells,r2,r3,r4,zbs,v1,v2,zbj,zbk,RV.eval,u1,f1,w,rr]
    exact ⟨_,G,rfl,.inl ⟨rfl,rfl⟩,S',x'⟩
   ·simp only [za9,zap,zac,zbx,zas,zat,zav,zam,za5,zbl,zad,zaj,zaa,zau,zae,zbn,zaf,zar,zax,zbq,zba,zbg,za4,zbd,zbo,zbb,zaz,za1,za6,zbe,zbf,zag,za7,X.eval,zal,zai,List.map_cons,List.map_nil,List.getD_cons_zero,List.getD_cons_succ,List.getD_nil,List.set_cons_zero,List.set_cons_succ,zay,zaq,zab,zak,intArith,shift,cond_true,cond_false,BEq.rfl,AV.cells,AV.ofCells,List.length_cons,List.length_nil,Nat.zero_add,Nat.add_zero,Nat.reduceAdd,Int.reduceBEq,Int.reduceNeg,Int.reduceLT,Int.reduceGT,decide_false,tf,hb,he,hH,za0,za3,za8,AV.ofCells,r2,r3,r4,zbs,v1,v2,zbj,zbk,RV.eval,u1,f1,w,rr]
    exact ⟨_,G,rfl,.inl ⟨rfl,rfl⟩,S',x'⟩
   ·simp only [za9,zap,zac,zbx,zas,zat,zav,zam,za5,zbl,zad,zaj,zaa,zau,zae,zbn,zaf,zar,zax,zbq,zba,zbg,za4,zbd,zbo,zbb,zaz,za1,za6,zbe,zbf,zag,za7,X.eval,zal,zai,List.map_cons,List.map_nil,List.getD_cons_zero,List.getD_cons_succ,List.getD_nil,List.set_cons_zero,List.set_cons_succ,zay,zaq,zab,zak,intArith,shift,cond_true,cond_false,BEq.rfl,AV.cells,AV.ofCells,List.length_cons,List.length_nil,Nat.zero_add,Nat.add_zero,Nat.reduceAdd,Int.reduceBEq,Int.reduceNeg,Int.reduceLT,Int.reduceGT,decide_false,tf,hb,he,hH,za0,za3,za8,AV.ofCells,r2,r3,r4,zbs,v1,v2,zbj,zbk,RV.eval,u1,f1,w,rr]
    exact ⟨_,G,rfl,.inl ⟨rfl,rfl⟩,S',x'⟩
  ·have u1:decide (o.pg < 0)=false:=decide_eq_false c2
   have u2:decide (o.pg ≥ (s.th.length:Int))=true:=decide_eq_true (by omega)
   rcases h26 with rfl | rfl | rfl
   ·simp only [za9,zap,zac,zbx,zas,zat,zav,zam,za5,zbl,zad,zaj,zaa,zau,zae,zbn,zaf,zar,zax,zbq,zba,zbg,za4,zbd,zbo,zbb,zaz,za1,za6,zbe,zbf,zag,za7,X.eval,zal,zai,List.map_cons,List.map_nil,List.getD_cons_zero,List.getD_cons_succ,List.getD_nil,List.set_cons_zero,List.set_cons_succ,zay,zaq,zab,zak,intArith,shift,cond_true,cond_false,BEq.rfl,AV.cells,AV.ofCells,List.length_cons,List.length_nil,Nat.zero_add,Nat.add_zero,Nat.reduceAdd,Int.reduceNeg,Int.reduceLT,Int.reduceGT,decide_false,tf,hb,he,hH,za0,za3,za8,AV.ofCells,r0,r2,r3,r4,zbs,v1,v2,zbj,zbk,RV.eval,u1,u2,f1,w,rr]
    exact ⟨_,G,rfl,.inl ⟨rfl,rfl⟩,S',x'⟩
   ·simp only [za9,zap,zac,zbx,zas,zat,zav,zam,za5,zbl,zad,zaj,zaa,zau,zae,zbn,zaf,zar,zax,zbq,zba,zbg,za4,zbd,zbo,zbb,zaz,za1,za6,zbe,zbf,zag,za7,X.eval,zal,zai,List.map_cons,List.map_nil,List.getD_cons_zero,List.getD_cons_succ,List.getD_nil,List.set_cons_zero,List.set_cons_succ,zay,zaq,zab,zak,intArith,shift,cond_true,cond_false,BEq.rfl,AV.cells,AV.ofCells,List.length_cons,List.length_nil,Nat.zero_add,Nat.add_zero,Nat.reduceAdd,Int.reduceBEq,Int.reduceNeg,Int.reduceLT,Int.reduceGT,decide_false,tf,hb,he,hH,za0,za3,za8,AV.ofCells,r0,r2,r3,r4,zbs,v1,v2,zbj,zbk,RV.eval,u1,u2,f1,w,rr]
    exact ⟨_,G,rfl,.inl ⟨rfl,rfl⟩,S',x'⟩
   ·simp only [za9,zap,zac,zbx,zas,zat,zav,zam,za5,zbl,zad,zaj,zaa,zau,zae,zaf,zar,zax,zbq,zba,zbg,za4,zbd,zbo,zbb,zaz,za1,za6,zbe,zbf,zag,za7,X.eval,zal,zai,List.map_cons,List.map_nil,List.getD_cons_zero,List.getD_cons_succ,List.getD_nil,List.set_cons_zero,List.set_cons_succ,zay,zaq,zab,zak,intArith,shift,cond_true,cond_false,BEq.rfl,AV.cells,AV.ofCells,List.length_cons,List.length_nil,Nat.zero_add,Nat.add_zero,Nat.reduceAdd,Int.reduceBEq,Int.reduceNeg,Int.reduceLT,Int.reduceGT,decide_false,hb,he,hH,za0,za3,za8,AV.ofCells,r0,r2,r3,r4,zbs,v1,v2,zbj,zbk,RV.eval,u1,u2,f1,w,rr]
    exact ⟨_,G,rfl,.inl ⟨rfl,rfl⟩,S',x'⟩
 ·have u1:decide (o.pg < 0)=false:=decide_eq_false (by omega)
  have u2:decide (o.pg ≥ (s.th.length:Int))=false:=decide_eq_false (by omega)
  obtain ⟨g,hg⟩:=Int.eq_ofNat_of_zero_le (show 0≤o.pg by omega)
  rw [hg] at u1 u2 r4 c1 hno
  have hgl:g < s.th.length:=by omega
  have ht:s.th.getD g false=false:=by
   rcases hno with h1 | h1 | h1
   ·omega
   ·omega
   ·simpa using h1
  have k1:=SH.rt hgl
  rw [ht] at k1
  have m1:Nat.blt g s.th.length=true:=zc0 hgl
  have hf:doF s c o=(zci 2,s):=by
   unfold doF
   rw [hk,if_neg (by omega),if_pos h26,hg,if_neg c1,if_pos (by simpa using ht)]
  obtain ⟨H1,f1,x1⟩:=zf8 (N:=N) (d:=d + 1) 2 H
  obtain ⟨G,w,rr,n,fr⟩:=zf1 (H:=H1) (e:=e) (v:=zce (zci 2) .nils) (B.more x1).re rfl
  obtain ⟨S',x'⟩:=(SH.ext x1).fin ((B.ext.b _).trans (x1.b _)) S.lt B.ee n fr
  unfold zdp
  rw [hf,zbi (F:=ir99) rfl rfl rfl]
  unfold ir99
  rw [zbp]
  simp only [zce,zci,zbw] at w rr f1 ⊢
  rcases h26 with rfl | rfl | rfl
  ·simp only [za9,zap,zac,zbx,zas,zat,zav,zam,za5,zbl,zad,zaj,zaa,zau,zae,zbn,zaf,zar,zax,zbq,zba,zdq,zbg,za4,zbt,zbd,zbo,zbb,zaz,za1,za6,zbe,zee,zbf,zag,za7,X.eval,zal,zai,List.map_cons,List.map_nil,List.getD_cons_zero,List.getD_cons_succ,List.getD_nil,List.set_cons_zero,List.set_cons_succ,zay,zdk,zaq,zab,zak,intArith,shift,zbc,cond_true,cond_false,BEq.rfl,AV.cells,AV.ofCells,List.length_cons,List.length_nil,Nat.zero_add,Nat.add_zero,Nat.reduceAdd,Int.reduceNeg,Bool.not_false,Int.reduceLT,Int.reduceGT,decide_false,tf,hb,he,hH,za0,za3,za8,zbr,AV.ofCells,r0,r2,r3,r4,zbs,v1,v2,zbj,zbk,RV.eval,u1,u2,m1,k1,Nat.mul_one,f1,w,rr]
   exact ⟨_,G,rfl,.inl ⟨rfl,rfl⟩,S',x'⟩
  ·simp only [za9,zap,zac,zbx,zas,zat,zav,zam,za5,zbl,zad,zaj,zaa,zau,zae,zbn,zaf,zar,zax,zbq,zba,zdq,zbg,za4,zbt,zbd,zbo,zbb,zaz,za1,za6,zbe,zee,zbf,zag,za7,X.eval,zal,zai,List.map_cons,List.map_nil,List.getD_cons_zero,List.getD_cons_succ,List.getD_nil,List.set_cons_zero,List.set_cons_succ,zay,zdk,zaq,zab,zak,intArith,shift,zbc,cond_true,cond_false,BEq.rfl,AV.cells,AV.ofCells,List.length_cons,List.length_nil,Nat.zero_add,Nat.add_zero,Nat.reduceAdd,Int.reduceBEq,Int.reduceNeg,Bool.not_false,Int.reduceLT,Int.reduceGT,decide_false,tf,hb,he,hH,za0,za3,za8,zbr,AV.ofCells,r0,r2,r3,r4,zbs,v1,v2,zbj,zbk,RV.eval,u1,u2,m1,k1,Nat.mul_one,f1,w,rr]
   exact ⟨_,G,rfl,.inl ⟨rfl,rfl⟩,S',x'⟩
  ·simp only [za9,zap,zac,zbx,zas,zat,zav,zam,za5,zbl,zad,zaj,zaa,zau,zae,zaf,zar,zax,zbq,zba,zdq,zbg,za4,zbt,zbd,zbo,zbb,zaz,za1,za6,zbe,zee,zbf,zag,za7,X.eval,zal,zai,List.map_cons,List.map_nil,List.getD_cons_zero,List.getD_cons_succ,List.getD_nil,List.set_cons_zero,List.set_cons_succ,zay,zdk,zaq,zab,zak,intArith,shift,zbc,cond_true,cond_false,BEq.rfl,AV.cells,AV.ofCells,List.length_cons,List.length_nil,Nat.zero_add,Nat.add_zero,Nat.reduceAdd,Int.reduceBEq,Int.reduceNeg,Bool.not_false,Int.reduceLT,Int.reduceGT,decide_false,hb,he,hH,za0,za3,za8,zbr,AV.ofCells,r0,r2,r3,r4,zbs,v1,v2,zbj,zbk,RV.eval,u1,u2,m1,k1,Nat.mul_one,f1,w,rr]
   exact ⟨_,G,rfl,.inl ⟨rfl,rfl⟩,S',x'⟩
theorem zwx {dc:CV} {o:OpM} (S:SR h x z s) {c:Nat} (hc:c < s.hs.length) (hk:o.kd=6) (h0:0≤o.pg) (hl:o.pg < (s.th.length:Int)) (ht:s.th.getD o.pg.toNat false=true):zdp N d h x z s c o dc:=by
 obtain ⟨H,b,e,hH,hb,he,B⟩:=zgh h x (opC o dc)
 have r2:H.read h.next 2 1=some [.sl z.hh 0 s.hs.length z.ch]:=zah B.xa (by rw [S.xe];rfl)
 have r0:H.read h.next 0 1=some [.sl z.t 0 s.th.length z.ct]:=zah B.xa (by rw [S.xe];rfl)
 have r1:H.read h.next 1 1=some [.sl z.b 0 s.th.length z.cb]:=zah B.xa (by rw [S.xe];rfl)
 have r3:H.read b 0 1=some [.int .i64 6]:=zah B.ob (by rw [← hk];rfl)
 have r4:H.read b 1 1=some [.int .i64 o.pg]:=zah B.ob rfl
 have r5:H.read b 2 1=some [.int .i64 o.hd]:=zah B.ob rfl
 have v1:decide ((c:Int) < 0)=false:=decide_eq_false (by omega)
 have v2:decide ((c:Int) ≥ (s.hs.length:Int))=false:=decide_eq_false (by omega)
 have SH:=S.ext B.ext
 have rx:=B.xs S.len3
 obtain ⟨g,hg⟩:=Int.eq_ofNat_of_zero_le h0
 rw [hg] at r4 hl
 have hgl:g < s.th.length:=by omega
 have u1:decide ((g:Int) < 0)=false:=decide_eq_false (by omega)
 have u2:decide ((g:Int) ≥ (s.th.length:Int))=false:=decide_eq_false (by omega)
 have ht':s.th.getD g false=true:=by rw [hg] at ht;simpa using ht
 have k1:=SH.rt hgl
 rw [ht'] at k1
 have m1:Nat.blt g s.th.length=true:=zc0 hgl
 have hgf:∀ (A B C:ResM × MS),(if (g:Int) < 0∨(s.th.length:Int)≤(g:Int) then A else if s.th.getD ((g:Int)).toNat false=false then B else C)=C:=fun A B C=>by
  rw [if_neg (by omega),if_neg (by rw [Int.toNat_natCast,ht'];decide)]
 have hf:doF s c o=(okR,s):=by
  unfold doF
  rw [hk,if_neg (by decide),if_pos (by decide),hg,hgf,if_neg (by decide),if_pos rfl]
 obtain ⟨G,w,rr,n,fr⟩:=zf1 (H:=H) (e:=e) (v:=zce okR .nils) B.re rfl
 obtain ⟨S',x'⟩:=SH.fin (B.ext.b _) S.lt B.ee n fr
 have f1:True:=trivial
 unfold zdp
 rw [hf,zbi (F:=ir99) rfl rfl rfl]
 unfold ir99
 rw [zbp]
 simp only [zce,okR,zbw] at w rr ⊢
 simp only [za9,zap,zac,zas,zat,zav,zam,za2,zbm,za5,zbl,zad,zaj,zaa,zau,zae,zbn,zaf,zar,zax,zbq,zba,zdq,zbg,za4,zbt,zbo,zaz,za1,za6,zbe,zee,zbf,zag,za7,X.eval,zal,zai,List.map_cons,List.map_nil,List.getD_cons_zero,List.getD_cons_succ,List.getD_nil,List.set_cons_zero,List.set_cons_succ,zay,zdk,zaq,zab,zak,intArith,shift,zbc,cond_true,cond_false,BEq.rfl,zb0,zb1,AV.cells,AV.ofCells,List.length_cons,List.length_nil,Nat.zero_add,Nat.add_zero,Nat.reduceAdd,Int.reduceBEq,Int.reduceNeg,Bool.not_true,Int.reduceLT,Int.reduceGT,decide_false,tf,hb,he,hH,za0,za3,za8,zbr,AV.ofCells,r0,r2,r3,r4,zbs,v1,v2,zdt,zdl,zbj,zbk,RV.eval,u1,u2,m1,k1,Nat.mul_one,w,rr]
 exact ⟨_,G,rfl,.inl ⟨rfl,rfl⟩,S',x'⟩
theorem zwy {dc:CV} {o:OpM} (S:SR h x z s) {c:Nat} (hc:c < s.hs.length) (hk:o.kd=2) (h0:0≤o.pg) (hl:o.pg < (s.th.length:Int)) (ht:s.th.getD o.pg.toNat false=true) (hN:10≤N):zdp N d h x z s c o dc:=by
 obtain ⟨H,b,e,hH,hb,he,B⟩:=zgh h x (opC o dc)
 have r2:H.read h.next 2 1=some [.sl z.hh 0 s.hs.length z.ch]:=zah B.xa (by rw [S.xe];rfl)
 have r0:H.read h.next 0 1=some [.sl z.t 0 s.th.length z.ct]:=zah B.xa (by rw [S.xe];rfl)
 have r1:H.read h.next 1 1=some [.sl z.b 0 s.th.length z.cb]:=zah B.xa (by rw [S.xe];rfl)
 have r3:H.read b 0 1=some [.int .i64 2]:=zah B.ob (by rw [← hk];rfl)
 have r4:H.read b 1 1=some [.int .i64 o.pg]:=zah B.ob rfl
 have r5:H.read b 2 1=some [.int .i64 o.hd]:=zah B.ob rfl
 have v1:decide ((c:Int) < 0)=false:=decide_eq_false (by omega)
 have v2:decide ((c:Int) ≥ (s.hs.length:Int))=false:=decide_eq_false (by omega)
 have SH:=S.ext B.ext
 have rx:=B.xs S.len3
 obtain ⟨g,hg⟩:=Int.eq_ofNat_of_zero_le h0
 rw [hg] at r4 hl
 have hgl:g < s.th.length:=by omega
 have u1:decide ((g:Int) < 0)=false:=decide_eq_false (by omega)
 have u2:decide ((g:Int) ≥ (s.th.length:Int))=false:=decide_eq_false (by omega)
 have ht':s.th.getD g false=true:=by rw [hg] at ht;simpa using ht
 have k1:=SH.rt hgl
 rw [ht'] at k1
 have m1:Nat.blt g s.th.length=true:=zc0 hgl
 have hgf:∀ (A B C:ResM × MS),(if (g:Int) < 0∨(s.th.length:Int)≤(g:Int) then A else if s.th.getD ((g:Int)).toNat false=false then B else C)=C:=fun A B C=>by
  rw [if_neg (by omega),if_neg (by rw [Int.toNat_natCast,ht'];decide)]
 obtain ⟨H1,f1,x1⟩:=zrr (N:=N) (d:=d + 1) SH hc hN
 have SH1:=SH.ext x1
 have B1:=B.more x1
 have rx1:=B1.xs S.len3
 by_cases c1:zca (s.hg c) < 6
 ·have w1:decide (zca (s.hg c) < 6)=true:=decide_eq_true c1
  rw [w1] at f1
  obtain ⟨H2,f2,S2,x2⟩:=zrs (N:=N) (d:=d + 1) SH1 hc (g:Int) (by omega) c1 hN
  have bb:=B1.moreB x2 fun j hj=>S.lt j (by simp [SP.own,hj])
  obtain ⟨G,w,rr,n,fr⟩:=zf1 (H:=H2) (e:=e) (v:=zce ⟨0,(g:Int),(zca (s.hg c):Int),[]⟩ .nils) bb.2.2.2 rfl
  obtain ⟨S',x'⟩:=S2.fin (((B.ext.trans x1).b _).trans (x2.mono fun j hj=>by simp [SP.own,hj])) S.lt B.ee n fr
  have hf:doF s c o=(⟨0,(g:Int),(zca (s.hg c):Int),[]⟩,s.setH c (zca (s.hg c)) (g:Int)):=by
   unfold doF
   rw [hk,if_neg (by decide),if_pos (by decide),hg,hgf,if_pos rfl,if_pos c1]
  unfold zdp
  rw [hf,zbi (F:=ir99) rfl rfl rfl]
  unfold ir99
  rw [zbp]
  simp only [zce,zbw] at w rr ⊢
  simp only [za9,zap,zac,zbx,zas,zat,zav,zam,za2,zcg,za5,zbl,zad,zaj,zaa,zau,zae,zbn,zaf,zar,zax,zbq,zba,zdq,zbg,za4,zbt,zbd,zbo,zbb,zaz,za1,za6,zbe,zee,zbf,zag,za7,X.eval,zal,zai,List.map_cons,List.map_nil,List.getD_cons_zero,List.getD_cons_succ,List.getD_nil,List.set_cons_zero,List.set_cons_succ,zay,zdk,zaq,zab,zak,intArith,shift,zbc,cond_true,cond_false,BEq.rfl,zb0,zb1,AV.cells,AV.ofCells,List.length_cons,List.length_nil,zdf,setMany,Nat.ble,Nat.zero_add,Nat.add_zero,Nat.reduceAdd,Int.reduceBEq,Int.reduceNeg,Bool.not_true,Int.reduceLT,Int.reduceGT,decide_false,tf,hb,he,hH,za0,za3,za8,zbr,AV.ofCells,r0,r2,r3,r4,rx,zbs,v1,v2,zdt,zdl,zbj,zbk,RV.eval,u1,u2,m1,k1,Nat.mul_one,rx1,f1,f2,w,rr]
  exact ⟨_,G,rfl,.inl ⟨rfl,rfl⟩,S',x'⟩
 ·have w1:decide (zca (s.hg c) < 6)=false:=decide_eq_false c1
  rw [w1] at f1
  obtain ⟨H2,f2,x2⟩:=zf8 (N:=N) (d:=d + 1) 4 H1
  obtain ⟨G,w,rr,n,fr⟩:=zf1 (H:=H2) (e:=e) (v:=zce (zci 4) .nils) (B1.more x2).re rfl
  obtain ⟨S',x'⟩:=(SH1.ext x2).fin (((B.ext.trans x1).trans x2).b _) S.lt B.ee n fr
  have hf:doF s c o=(zci 4,s):=by
   unfold doF
   rw [hk,if_neg (by decide),if_pos (by decide),hg,hgf,if_pos rfl,if_neg c1]
  unfold zdp
  rw [hf,zbi (F:=ir99) rfl rfl rfl]
  unfold ir99
  rw [zbp]
  simp only [zce,zci,zbw] at w rr f2 ⊢
  simp only [za9,zap,zac,zbx,zas,zat,zav,zam,za2,zcg,za5,zbl,zad,zaj,zaa,zau,zae,zbn,zaf,zar,zax,zbq,zba,zdq,zbg,za4,zbt,zbd,zbo,zbb,zaz,za1,za6,zbe,zee,zbf,zag,za7,X.eval,zal,zai,List.map_cons,List.map_nil,List.getD_cons_zero,List.getD_cons_succ,List.getD_nil,List.set_cons_zero,List.set_cons_succ,zay,zdk,zaq,zab,zak,intArith,shift,zbc,cond_true,cond_false,BEq.rfl,AV.cells,AV.ofCells,List.length_cons,List.length_nil,Nat.zero_add,Nat.add_zero,Nat.reduceAdd,Int.reduceBEq,Int.reduceNeg,Bool.not_true,Bool.not_false,Int.reduceLT,Int.reduceGT,decide_false,tf,hb,he,hH,za0,za3,za8,zbr,AV.ofCells,r0,r2,r3,r4,rx,zbs,v1,v2,zbj,zbk,RV.eval,u1,u2,m1,k1,Nat.mul_one,f1,f2,w,rr]
  exact ⟨_,G,rfl,.inl ⟨rfl,rfl⟩,S',x'⟩
theorem zu1 {dc:CV} {o:OpM} (S:SR h x z s) {c:Nat} (hc:c < s.hs.length) {K:Int} (hk:o.kd=K) (h26:K=3∨K=4∨K=5) (hn:zdb s.hs c o.hd < 0):zdp N d h x z s c o dc:=by
 obtain ⟨H,b,e,hH,hb,he,B⟩:=zgh h x (opC o dc)
 have r2:H.read h.next 2 1=some [.sl z.hh 0 s.hs.length z.ch]:=zah B.xa (by rw [S.xe];rfl)
 have r0:H.read h.next 0 1=some [.sl z.t 0 s.th.length z.ct]:=zah B.xa (by rw [S.xe];rfl)
 have r1:H.read h.next 1 1=some [.sl z.b 0 s.th.length z.cb]:=zah B.xa (by rw [S.xe];rfl)
 have r3:H.read b 0 1=some [.int .i64 K]:=zah B.ob (by rw [← hk];rfl)
 have r4:H.read b 1 1=some [.int .i64 o.pg]:=zah B.ob rfl
 have r5:H.read b 2 1=some [.int .i64 o.hd]:=zah B.ob rfl
 have v1:decide ((c:Int) < 0)=false:=decide_eq_false (by omega)
 have v2:decide ((c:Int) ≥ (s.hs.length:Int))=false:=decide_eq_false (by omega)
 have SH:=S.ext B.ext
 have rx:=B.xs S.len3
 obtain ⟨H1,f0,x1⟩:=zls (N:=N) (d:=d + 1) SH (c:Int) o.hd
 have SH1:=SH.ext x1
 have B1:=B.more x1
 have w1:decide (zdb s.hs c o.hd < 0)=true:=decide_eq_true hn
 have hf:doF s c o=(zci 5,s):=by
  unfold doF
  rw [hk,if_neg (by omega),if_neg (by omega),if_neg (by omega),if_pos hn]
 obtain ⟨H2,f1,x2⟩:=zf8 (N:=N) (d:=d + 1) 5 H1
 obtain ⟨G,w,rr,n,fr⟩:=zf1 (H:=H2) (e:=e) (v:=zce (zci 5) .nils) (B1.more x2).re rfl
 obtain ⟨S',x'⟩:=(SH1.ext x2).fin (((B.ext.trans x1).trans x2).b _) S.lt B.ee n fr
 unfold zdp
 rw [hf,zbi (F:=ir99) rfl rfl rfl]
 unfold ir99
 rw [zbp]
 simp only [zce,zci,zbw] at w rr f1 ⊢
 rcases h26 with rfl | rfl | rfl
 ·simp only [za9,zap,zac,zbx,zas,zat,zav,zam,za5,zbl,zad,zaj,zaa,zau,zae,zbn,zaf,zar,zax,zbq,zba,zbg,za4,zbd,zbo,zbb,zaz,za1,za6,zbe,zbf,zag,za7,X.eval,zal,zai,List.map_cons,List.map_nil,List.getD_cons_zero,List.getD_cons_succ,List.getD_nil,List.set_cons_zero,List.set_cons_succ,zay,zaq,zab,zak,intArith,shift,cond_true,cond_false,BEq.rfl,AV.cells,AV.ofCells,List.length_cons,List.length_nil,Nat.zero_add,Nat.add_zero,Nat.reduceAdd,Int.reduceBEq,Int.reduceNeg,Int.reduceLT,Int.reduceGT,decide_false,tf,hb,he,hH,za0,za3,za8,AV.ofCells,r2,r3,r4,r5,rx,zbs,v1,v2,zbj,zbk,RV.eval,f0,w1,f1,w,rr]
  exact ⟨_,G,rfl,.inl ⟨rfl,rfl⟩,S',x'⟩
 ·simp only [za9,zap,zac,zbx,zas,zat,zav,zam,za5,zbl,zad,zaj,zaa,zau,zae,zbn,zaf,zar,zax,zbq,zba,zbg,za4,zbd,zbo,zbb,zaz,za1,za6,zbe,zbf,zag,za7,X.eval,zal,zai,List.map_cons,List.map_nil,List.getD_cons_zero,List.getD_cons_succ,List.getD_nil,List.set_cons_zero,List.set_cons_succ,zay,zaq,zab,zak,intArith,shift,cond_true,cond_false,BEq.rfl,AV.cells,AV.ofCells,List.length_cons,List.length_nil,Nat.zero_add,Nat.add_zero,Nat.reduceAdd,Int.reduceBEq,Int.reduceNeg,Int.reduceLT,Int.reduceGT,decide_false,tf,hb,he,hH,za0,za3,za8,AV.ofCells,r2,r3,r4,r5,rx,zbs,v1,v2,zbj,zbk,RV.eval,f0,w1,f1,w,rr]
  exact ⟨_,G,rfl,.inl ⟨rfl,rfl⟩,S',x'⟩
 ·simp only [za9,zap,zac,zbx,zas,zat,zav,zam,za5,zbl,zad,zaj,zaa,zau,zae,zaf,zar,zax,zbq,zba,zbg,za4,zbd,zbo,zbb,zaz,za1,za6,zbe,zbf,zag,za7,X.eval,zal,zai,List.map_cons,List.map_nil,List.getD_cons_zero,List.getD_cons_succ,List.getD_nil,List.set_cons_zero,List.set_cons_succ,zay,zaq,zab,zak,intArith,shift,cond_true,cond_false,BEq.rfl,AV.cells,AV.ofCells,List.length_cons,List.length_nil,Nat.zero_add,Nat.add_zero,Nat.reduceAdd,Int.reduceBEq,Int.reduceNeg,Int.reduceLT,Int.reduceGT,decide_false,hb,he,hH,za0,za3,za8,AV.ofCells,r2,r3,r4,r5,rx,zbs,v1,v2,zbj,zbk,RV.eval,f0,w1,f1,w,rr]
  exact ⟨_,G,rfl,.inl ⟨rfl,rfl⟩,S',x'⟩
theorem zwz {dc:CV} {o:OpM} (S:SR h x z s) {c:Nat} (hc:c < s.hs.length) (hk:o.kd=5) (hn:0≤zdb s.hs c o.hd):zdp N d h x z s c o dc:=by
 obtain ⟨H,b,e,hH,hb,he,B⟩:=zgh h x (opC o dc)
 have r2:H.read h.next 2 1=some [.sl z.hh 0 s.hs.length z.ch]:=zah B.xa (by rw [S.xe];rfl)
 have r0:H.read h.next 0 1=some [.sl z.t 0 s.th.length z.ct]:=zah B.xa (by rw [S.xe];rfl)
 have r1:H.read h.next 1 1=some [.sl z.b 0 s.th.length z.cb]:=zah B.xa (by rw [S.xe];rfl)
 have r3:H.read b 0 1=some [.int .i64 5]:=zah B.ob (by rw [← hk];rfl)
 have r4:H.read b 1 1=some [.int .i64 o.pg]:=zah B.ob rfl
 have r5:H.read b 2 1=some [.int .i64 o.hd]:=zah B.ob rfl
 have v1:decide ((c:Int) < 0)=false:=decide_eq_false (by omega)
 have v2:decide ((c:Int) ≥ (s.hs.length:Int))=false:=decide_eq_false (by omega)
 have SH:=S.ext B.ext
 have rx:=B.xs S.len3
 obtain ⟨H1,f0,x1⟩:=zls (N:=N) (d:=d + 1) SH (c:Int) o.hd
 have SH1:=SH.ext x1
 have B1:=B.more x1
 have rx1:=B1.xs S.len3
 have q1:H1.read h.next 1 1=some [.sl z.b 0 s.th.length z.cb]:=zah B1.xa (by rw [S.xe];rfl)
 have q2:H1.read h.next 2 1=some [.sl z.hh 0 s.hs.length z.ch]:=zah B1.xa (by rw [S.xe];rfl)
 have q3:H1.read b 0 1=some [.int .i64 5]:=zah B1.ob (by rw [← hk];rfl)
 have q4:H1.read b 2 1=some [.int .i64 o.hd]:=zah B1.ob rfl
 have q5:H1.read b 3 1=some [.int .i64 o.off]:=zah B1.ob rfl
 have q6:H1.read b 4 1=some [.int .i64 o.n]:=zah B1.ob rfl
 have q7:H1.read b 5 1=some [dc]:=zah B1.ob rfl
 obtain ⟨g,hg⟩:=Int.eq_ofNat_of_zero_le (show 0≤zdb s.hs c o.hd by omega)
 have w1:decide ((g:Int) < 0)=false:=decide_eq_false (by omega)
 rw [hg] at f0
 have hhd:0≤o.hd∧o.hd < 6:=by
  refine Classical.byContradiction fun hcn=>?_
  have:zdb s.hs c o.hd = -1:=by unfold zdb;rw [if_pos (by omega)]
  omega
 obtain ⟨k,hkk⟩:=Int.eq_ofNat_of_zero_le hhd.1
 have hk6:k < 6:=by omega
 have hgl:g < s.th.length:=by
  have e1:zdb s.hs c o.hd=(s.hg c).getD k 0:=by
   unfold zdb
   rw [if_neg (by omega),hkk]
   rfl
  have h6:=(S.hi c hc).2
  have hm:(s.hg c).getD k 0∈s.hg c:=by
   rw [List.getD_eq_getElem?_getD,List.getElem?_eq_getElem (by omega)]
   exact List.getElem_mem _
  have hm2:s.hg c∈s.hs:=by
   have:s.hg c=s.hs[c]:=by simp [MS.hg,List.getD_eq_getElem?_getD,hc]
   rw [this];exact List.getElem_mem hc
  have:=S.hv _ hm2 _ hm
  omega
 have k1:=SH1.rh hc
 have m1:Nat.blt c s.hs.length=true:=zc0 hc
 have m2:Nat.blt k 6=true:=zc0 hk6
 rw [hkk] at q4
 have ww:H1.write (z.hj c) k [.int .i64 (-1)]=some (H1.put (z.hj c) (.cells (((s.hg c).set k (-1)).map zbw))):=by
  rw [ze8 (SH1.hi c hc).1 (by simp;have:=(S.hi c hc).2;omega)]
  simp [List.map_set,zbw]
 have S2:=SH1.setH (i:=k) hc (-1) (by omega)
 have x2:ExtB z.own H1 (H1.put (z.hj c) (.cells (((s.hg c).set k (-1)).map zbw))):=(ExtB.refl _ _).put (.inr (by simp [SP.own,S.at_hi hc])) _
 have bb:=B1.moreB x2 S.lt
 generalize H1.put (z.hj c) (.cells (((s.hg c).set k (-1)).map zbw))=H2 at ww S2 x2 bb
 obtain ⟨G,w,rr,n,fr⟩:=zf1 (H:=H2) (e:=e) (v:=zce okR .nils) bb.2.2.2 rfl
 obtain ⟨S',x'⟩:=S2.fin (((B.ext.trans x1).b _).trans x2) S.lt B.ee n fr
 have hf:doF s c o=(okR,s.setH c k (-1)):=by
  unfold doF
  rw [hk,if_neg (by decide),if_neg (by decide),if_neg (by decide),if_neg (by omega),if_neg (by decide),if_neg (by decide),hkk]
  rfl
 unfold zdp
 rw [hf,zbi (F:=ir99) rfl rfl rfl]
 unfold ir99
 rw [zbp]
 simp only [zce,okR,zbw] at w rr ⊢
 simp only [za9,zap,zac,zas,zat,zav,zam,za2,zbm,za5,zbl,zad,zaj,zaa,zau,zae,zaf,zar,zax,zbq,zba,zbg,za4,zbd,zbo,zbb,zaz,za1,za6,zbe,zbf,zag,za7,X.eval,zal,zai,List.map_cons,List.map_nil,List.getD_cons_zero,List.getD_cons_succ,List.getD_nil,List.set_cons_zero,List.set_cons_succ,zay,zaq,zab,zak,intArith,shift,zbc,cond_true,cond_false,BEq.rfl,zb0,zb1,AV.cells,AV.ofCells,List.length_cons,List.length_nil,List.nil_append,List.cons_append,Nat.zero_add,Nat.add_zero,Nat.reduceAdd,Int.reduceBEq,Int.reduceNeg,Int.reduceLT,Int.reduceGT,decide_false,hb,he,hH,za0,za3,za8,zbr,AV.ofCells,r2,r3,r4,r5,rx,zbs,v1,v2,zdt,zdl,zbj,zbk,RV.eval,zc3,zch,zb6,zb5,zb7,zdr,zd0,zdo,zec,zie,zcs,zct,zc4,zde,zd7,List.reverse_cons,List.reverse_nil,zdj,f0,w1,q2,q3,q4,m1,k1,m2,Nat.mul_one,ww,w,rr]
 exact ⟨_,G,rfl,.inl ⟨rfl,rfl⟩,S',x'⟩
end
end Lav
set_option maxRecDepth 100000
namespace Lav
open Go (IntKind)
section
variable {N d:Nat} {h H G:Heap} {b e:Nat} {x op:List CV} {z:SP} {s:MS}
theorem zw0 {B bs:List (BitVec 8)} {k:Nat} (hl:B.length=16) (h:k + bs.length≤16):(zg6 B bs k).length=16:=by
 rw [zuy (by omega)];exact hl
theorem SR.setB (S:SR h x z s) {g:Nat} {B:List (BitVec 8)} (hB:B.length=16):SR (h.put z.b (.cells ((s.bd.set g B).map zfx))) x z (s.setB g B):=by
 have n:=S.nd
 simp only [SP.own,List.nodup_cons,List.mem_cons,not_or] at n
 obtain ⟨⟨n1,n2,n3⟩,⟨n4,n5⟩,n6,n7⟩:=n
 refine ⟨S.xe,(zb8 n1).trans S.t,zd8,(zb8 (Ne.symm n4)).trans S.hh,S.hl,fun i hi=>⟨(zb8 fun q=>n5 (by rw [← q];exact S.at_hi hi)).trans (S.hi i hi).1,(S.hi i hi).2⟩,S.lt,S.nd,by simpa [MS.setB] using S.len,fun l hl=>?_,S.few,S.fewh,S.hv⟩
 rcases List.mem_or_eq_of_mem_set hl with hl | rfl
 ·exact S.bl l hl
 ·exact hB
theorem SR.setP (S:SR h x z s) {g:Nat} {v:Bool}:SR ((h.put z.t (.cells ((s.th.set g v).map zeh))).put z.b (.cells ((s.bd.set g z16).map zfx))) x z (s.setP g v):=by
 have n:=S.nd
 simp only [SP.own,List.nodup_cons,List.mem_cons,not_or] at n
 obtain ⟨⟨n1,n2,n3⟩,⟨n4,n5⟩,n6,n7⟩:=n
 refine ⟨by rw [S.xe];simp [MS.setP],(zb8 n1).trans zd8,zd8,((zb8 (Ne.symm n4)).trans (zb8 (Ne.symm n2))).trans S.hh,S.hl,
  fun i hi=>⟨((zb8 fun q=>n5 (by rw [← q];exact S.at_hi hi)).trans (zb8 fun q=>n3 (by rw [← q];exact S.at_hi hi))).trans (S.hi i hi).1,(S.hi i hi).2⟩,S.lt,S.nd,by simpa [MS.setP] using S.len,fun l hl=>?_,by simpa [MS.setP] using S.few,S.fewh,by simpa [MS.setP] using S.hv⟩
 rcases List.mem_or_eq_of_mem_set hl with hl | rfl
 ·exact S.bl l hl
 ·rfl
theorem ztb {k:Int} (h0:0≤k) (h1:k≤16):IntKind.i64.wrap (16 - k)=16 - k:=zf7 (by omega) (by omega)
theorem zzd {dc:CV} {o:OpM} (S:SR h x z s) {c:Nat} (hc:c < s.hs.length) (hk:o.kd=3) (hn:0≤zdb s.hs c o.hd):zdp N d h x z s c o dc:=by
 obtain ⟨H,b,e,hH,hb,he,B⟩:=zgh h x (opC o dc)
 have r2:H.read h.next 2 1=some [.sl z.hh 0 s.hs.length z.ch]:=zah B.xa (by rw [S.xe];rfl)
 have r0:H.read h.next 0 1=some [.sl z.t 0 s.th.length z.ct]:=zah B.xa (by rw [S.xe];rfl)
 have r1:H.read h.next 1 1=some [.sl z.b 0 s.th.length z.cb]:=zah B.xa (by rw [S.xe];rfl)
 have r3:H.read b 0 1=some [.int .i64 3]:=zah B.ob (by rw [← hk];rfl)
 have r4:H.read b 1 1=some [.int .i64 o.pg]:=zah B.ob rfl
 have r5:H.read b 2 1=some [.int .i64 o.hd]:=zah B.ob rfl
 have v1:decide ((c:Int) < 0)=false:=decide_eq_false (by omega)
 have v2:decide ((c:Int) ≥ (s.hs.length:Int))=false:=decide_eq_false (by omega)
 have SH:=S.ext B.ext
 have rx:=B.xs S.len3
 obtain ⟨H1,f0,x1⟩:=zls (N:=N) (d:=d + 1) SH (c:Int) o.hd
 have SH1:=SH.ext x1
 have B1:=B.more x1
 have rx1:=B1.xs S.len3
 have q1:H1.read h.next 1 1=some [.sl z.b 0 s.th.length z.cb]:=zah B1.xa (by rw [S.xe];rfl)
 have q2:H1.read h.next 2 1=some [.sl z.hh 0 s.hs.length z.ch]:=zah B1.xa (by rw [S.xe];rfl)
 have q3:H1.read b 0 1=some [.int .i64 3]:=zah B1.ob (by rw [← hk];rfl)
 have q4:H1.read b 2 1=some [.int .i64 o.hd]:=zah B1.ob rfl
 have q5:H1.read b 3 1=some [.int .i64 o.off]:=zah B1.ob rfl
 have q6:H1.read b 4 1=some [.int .i64 o.n]:=zah B1.ob rfl
 have q7:H1.read b 5 1=some [dc]:=zah B1.ob rfl
 obtain ⟨g,hg⟩:=Int.eq_ofNat_of_zero_le (show 0≤zdb s.hs c o.hd by omega)
 have w1:decide ((g:Int) < 0)=false:=decide_eq_false (by omega)
 rw [hg] at f0
 have hhd:0≤o.hd∧o.hd < 6:=by
  refine Classical.byContradiction fun hcn=>?_
  have:zdb s.hs c o.hd = -1:=by unfold zdb;rw [if_pos (by omega)]
  omega
 obtain ⟨k,hkk⟩:=Int.eq_ofNat_of_zero_le hhd.1
 have hk6:k < 6:=by omega
 have hgl:g < s.th.length:=by
  have e1:zdb s.hs c o.hd=(s.hg c).getD k 0:=by
   unfold zdb
   rw [if_neg (by omega),hkk]
   rfl
  have h6:=(S.hi c hc).2
  have hm:(s.hg c).getD k 0∈s.hg c:=by
   rw [List.getD_eq_getElem?_getD,List.getElem?_eq_getElem (by omega)]
   exact List.getElem_mem _
  have hm2:s.hg c∈s.hs:=by
   have:s.hg c=s.hs[c]:=by simp [MS.hg,List.getD_eq_getElem?_getD,hc]
   rw [this];exact List.getElem_mem hc
  have:=S.hv _ hm2 _ hm
  omega
 by_cases c1:o.off < 0∨o.n < 0∨16 < o.off∨16 - o.off < o.n
 ·have hf:doF s c o=(zci 6,s):=by
   unfold doF
   rw [hk,if_neg (by decide),if_neg (by decide),if_neg (by decide),if_neg (by omega),if_pos rfl,if_pos c1]
  obtain ⟨H9,f1,x9⟩:=zf8 (N:=N) (d:=d + 1) 6 H1
  obtain ⟨G,w,rr,n,fr⟩:=zf1 (H:=H9) (e:=e) (v:=zce (zci 6) .nils) (B1.more x9).re rfl
  obtain ⟨S',x'⟩:=(SH1.ext x9).fin (((B.ext.trans x1).trans x9).b _) S.lt B.ee n fr
  unfold zdp
  rw [hf,zbi (F:=ir99) rfl rfl rfl]
  unfold ir99
  rw [zbp]
  simp only [zce,zci,zbw] at w rr f1 ⊢
  by_cases c2:o.off < 0
  ·have t1:decide (o.off < 0)=true:=decide_eq_true c2
   simp only [za9,zap,zac,zbx,zas,zat,zav,zam,za2,zcg,za5,zbl,zad,zaj,zaa,zau,zae,zbn,zaf,zar,zax,zbq,zba,zbg,za4,zbd,zbo,zbb,zaz,za1,za6,zbe,zbf,zag,za7,X.eval,zal,zai,List.map_cons,List.map_nil,List.getD_cons_zero,List.getD_cons_succ,List.getD_nil,List.set_cons_zero,List.set_cons_succ,zay,zaq,zab,zak,intArith,shift,cond_true,cond_false,BEq.rfl,AV.cells,AV.ofCells,List.length_cons,List.length_nil,Nat.zero_add,Nat.add_zero,Nat.reduceAdd,Int.reduceBEq,Int.reduceNeg,Int.reduceLT,Int.reduceGT,decide_false,tf,hb,he,hH,za0,za3,za8,AV.ofCells,r2,r3,r4,r5,rx,zbs,v1,v2,zbj,zbk,RV.eval,f0,w1,q3,q5,t1,f1,w,rr]
   exact ⟨_,G,rfl,.inl ⟨rfl,rfl⟩,S',x'⟩
  have t1:decide (o.off < 0)=false:=decide_eq_false c2
  by_cases c3:o.n < 0
  ·have t2:decide (o.n < 0)=true:=decide_eq_true c3
   simp only [za9,zap,zac,zbx,zas,zat,zav,zam,za2,zcg,za5,zbl,zad,zaj,zaa,zau,zae,zbn,zaf,zar,zax,zbq,zba,zbg,za4,zbd,zbo,zbb,zaz,za1,za6,zbe,zbf,zag,za7,X.eval,zal,zai,List.map_cons,List.map_nil,List.getD_cons_zero,List.getD_cons_succ,List.getD_nil,List.set_cons_zero,List.set_cons_succ,zay,zaq,zab,zak,intArith,shift,cond_true,cond_false,BEq.rfl,AV.cells,AV.ofCells,List.length_cons,List.length_nil,Nat.zero_add,Nat.add_zero,Nat.reduceAdd,Int.reduceBEq,Int.reduceNeg,Int.reduceLT,Int.reduceGT,decide_false,tf,hb,he,hH,za0,za3,za8,AV.ofCells,r2,r3,r4,r5,rx,zbs,v1,v2,zbj,zbk,RV.eval,f0,w1,q3,q5,q6,t1,t2,f1,w,rr]
   exact ⟨_,G,rfl,.inl ⟨rfl,rfl⟩,S',x'⟩
  have t2:decide (o.n < 0)=false:=decide_eq_false c3
  by_cases c4:o.off > 16
  ·have t3:decide (o.off > 16)=true:=decide_eq_true c4
   simp only [za9,zap,zac,zbx,zas,zat,zav,zam,za2,zcg,za5,zbl,zad,zaj,zaa,zau,zae,zbn,zaf,zar,zax,zbq,zba,zbg,za4,zbd,zbo,zbb,zaz,za1,za6,zbe,zbf,zag,za7,X.eval,zal,zai,List.map_cons,List.map_nil,List.getD_cons_zero,List.getD_cons_succ,List.getD_nil,List.set_cons_zero,List.set_cons_succ,zay,zaq,zab,zak,intArith,shift,cond_true,cond_false,BEq.rfl,AV.cells,AV.ofCells,List.length_cons,List.length_nil,Nat.zero_add,Nat.add_zero,Nat.reduceAdd,Int.reduceBEq,Int.reduceNeg,Int.reduceLT,Int.reduceGT,decide_false,tf,hb,he,hH,za0,za3,za8,AV.ofCells,r2,r3,r4,r5,rx,zbs,v1,v2,zbj,zbk,RV.eval,f0,w1,q3,q5,q6,t1,t2,t3,f1,w,rr]
   exact ⟨_,G,rfl,.inl ⟨rfl,rfl⟩,S',x'⟩
  have t3:decide (o.off > 16)=false:=decide_eq_false c4
  have sw:=ztb (k:=o.off) (by omega) (by omega)
  have t4:decide (o.n > 16 - o.off)=true:=decide_eq_true (by omega)
  simp only [za9,zap,zac,zbx,zas,zat,zav,zam,za2,zcg,za5,zbl,zad,zaj,zaa,zau,zae,zbn,zaf,zar,zax,zbq,zba,zbg,za4,zbd,zbo,zbb,zaz,za1,za6,zbe,zbf,zag,za7,X.eval,zal,zai,List.map_cons,List.map_nil,List.getD_cons_zero,List.getD_cons_succ,List.getD_nil,List.set_cons_zero,List.set_cons_succ,zay,zaq,zab,zak,intArith,shift,cond_true,cond_false,BEq.rfl,AV.cells,AV.ofCells,List.length_cons,List.length_nil,Nat.zero_add,Nat.add_zero,Nat.reduceAdd,Int.reduceBEq,Int.reduceNeg,Int.reduceLT,Int.reduceGT,decide_false,tf,hb,he,hH,za0,za3,za8,AV.ofCells,r2,r3,r4,r5,rx,zbs,v1,v2,zbj,zbk,RV.eval,f0,w1,q3,q5,q6,t1,t2,t3,sw,t4,f1,w,rr]
  exact ⟨_,G,rfl,.inl ⟨rfl,rfl⟩,S',x'⟩
 ·obtain ⟨p,hp⟩:=Int.eq_ofNat_of_zero_le (show 0≤o.off by omega)
  obtain ⟨q,hq⟩:=Int.eq_ofNat_of_zero_le (show 0≤o.n by omega)
  rw [hp] at q5 c1
  rw [hq] at q6 c1
  have t1:decide ((p:Int) < 0)=false:=decide_eq_false (by omega)
  have t2:decide ((q:Int) < 0)=false:=decide_eq_false (by omega)
  have t3:decide ((p:Int) > 16)=false:=decide_eq_false (by omega)
  have sw:=ztb (k:=(p:Int)) (by omega) (by omega)
  have t4:decide ((q:Int) > 16 - (p:Int))=false:=decide_eq_false (by omega)
  have t5:IntKind.i64.wrap ((p:Int) + (q:Int))=((p + q:Nat):Int):=by rw [zf7 (by omega) (by omega)];omega
  have kb:=SH1.rb hgl
  have m1:Nat.blt g s.th.length=true:=zc0 hgl
  have bl:=S.bl' hgl
  have m2:Nat.ble p (p + q)=true:=Nat.ble_eq_true_of_le (Nat.le_add_right _ _)
  have m3:Nat.ble (p + q) (strOf (s.bd.getD g [])).length=true:=Nat.ble_eq_true_of_le (by rw [zdu,bl];omega)
  have hf:doF s c o=(⟨0,0,0,((s.bd.getD g []).drop p).take q⟩,s):=by
   unfold doF
   rw [hk,if_neg (by decide),if_neg (by decide),if_neg (by decide),if_neg (by omega),if_pos rfl,hg,hp,hq,if_neg (by omega)]
   rfl
  have hs:((strOf (s.bd.getD g [])).drop p).take (p + q - p)=strOf (((s.bd.getD g []).drop p).take q):=by
   rw [Nat.add_sub_cancel_left];simp [strOf,List.map_take,List.map_drop]
  generalize hB:((s.bd.getD g []).drop p).take q=Bq at hf hs
  have hu:byteCells (strOf Bq)=u8s Bq:=by simp [byteCells,strOf,u8s,u8c,Function.comp_def]
  have xn:=(Ext.refl H1).new (.cells (u8s Bq))
  obtain ⟨G,w,rr,n,fr⟩:=zf1 (H:=H1.new (.cells (u8s Bq))) (e:=e) (v:=[.int .i64 0,.int .i64 0,.int .i64 0,.sl H1.next 0 (strOf Bq).length (.dy 1)]) (B1.more xn).re rfl
  obtain ⟨S',x'⟩:=(SH1.ext xn).fin (((B.ext.trans x1).trans xn).b _) S.lt B.ee n fr
  have hw:(H1.skip 1).put H1.next (.cells (u8s Bq))=H1.new (.cells (u8s Bq)):=rfl
  unfold zdp
  rw [hf,zbi (F:=ir99) rfl rfl rfl]
  unfold ir99
  rw [zbp]
  simp only [zce,zbw] at w rr ⊢
  have sk:∀ i o' n',(H1.skip 1).read i o' n'=H1.read i o' n':=fun _ _ _=>rfl
  simp only [za9,zap,zac,zbx,zas,zat,zav,zam,za2,zcg,za5,zbl,zad,zaj,zaa,zau,zae,zbn,zaf,zar,zax,zbq,zba,zbg,za4,zbd,zbb,zaz,za1,za6,zbe,zbf,zag,za7,X.eval,zal,zai,List.map_cons,List.map_nil,List.getD_cons_zero,List.getD_cons_succ,List.getD_nil,List.set_cons_zero,List.set_cons_succ,zay,zaq,zab,zak,intArith,shift,bound,zbc,cond_true,cond_false,BEq.rfl,zb0,zb1,AV.cells,AV.ofCells,List.length_cons,List.length_nil,zdf,setMany,List.nil_append,List.cons_append,Nat.ble,Nat.zero_add,Nat.add_zero,Nat.reduceAdd,Int.reduceBEq,Int.reduceNeg,Bool.and_true,Int.reduceLT,Int.reduceGT,decide_false,tf,hb,he,hH,za0,za3,za8,zbr,AV.ofCells,r2,r3,r4,r5,rx,zbs,v1,v2,zdl,zbj,zbk,RV.eval,zc3,zch,zb6,zb5,zb7,zdr,zd0,ze5,zdo,zec,zie,zcs,zct,zc4,zde,List.reverse_cons,List.reverse_nil,zdj,zuw,zux,zabo,zy9,znn,f0,w1,q1,q3,q5,q6,t1,t2,t3,sw,t4,t5,sk,m1,kb,m2,m3,hs,hu,hw,Nat.mul_one,w,rr]
  refine ⟨_,G,rfl,.inr ⟨H1.next,0,.dy 1,by rw [zdu],by rw [n];exact Nat.lt_succ_self _,fun j y hj=>?_⟩,S',x'⟩
  refine zah (l:=u8s Bq) ?_ (by simp [u8s,hj,u8c])
  rw [fr _ (by have:=B.ee;have:=B1.lt;omega)]
  exact zbz
theorem Bytes.b2s {h:Heap} {y:CV} {bs:List (BitVec 8)} (hx:Bytes h y bs) {loc vals:List AV}:zao loc (.c y :: vals) h (.b2s (.val 0))=some (.c (.str (strOf bs))):=by
 have sr:=hx.source
 rcases hx with ⟨rfl,rfl⟩ | ⟨i,o,c,rfl,_,_⟩
 ·rfl
 ·simp only [Lav.source,Nat.mul_one] at sr
  show (match h.read i o bs.length with | some l=>(match bytesOf l with | some r=>some (AV.c (.str r)) | none=>none) | none=>(match bs.length with | 0=>some (AV.c (.str [])) | _ + 1=>none))=_
  cases hr:h.read i o bs.length with
  | some l =>
   rw [hr] at sr
   simp only [Option.some.injEq,Prod.mk.injEq] at sr
   rw [sr.2]
   show (match bytesOf (u8s bs) with | some r=>some (AV.c (.str r)) | none=>none)=_
   rw [zje]
  | none =>
   rw [hr] at sr
   cases bs with
   | nil=>rfl
   | cons a l=>simp at sr
theorem zw1 {dc:CV} {o:OpM} (S:SR h x z s) {c:Nat} (hc:c < s.hs.length) (hk:o.kd=4) (hn:0≤zdb s.hs c o.hd) (hd:Bytes h dc o.data):zdp N d h x z s c o dc:=by
 obtain ⟨H,b,e,hH,hb,he,B⟩:=zgh h x (opC o dc)
 have r2:H.read h.next 2 1=some [.sl z.hh 0 s.hs.length z.ch]:=zah B.xa (by rw [S.xe];rfl)
 have r0:H.read h.next 0 1=some [.sl z.t 0 s.th.length z.ct]:=zah B.xa (by rw [S.xe];rfl)
 have r1:H.read h.next 1 1=some [.sl z.b 0 s.th.length z.cb]:=zah B.xa (by rw [S.xe];rfl)
 have r3:H.read b 0 1=some [.int .i64 4]:=zah B.ob (by rw [← hk];rfl)
 have r4:H.read b 1 1=some [.int .i64 o.pg]:=zah B.ob rfl
 have r5:H.read b 2 1=some [.int .i64 o.hd]:=zah B.ob rfl
 have v1:decide ((c:Int) < 0)=false:=decide_eq_false (by omega)
 have v2:decide ((c:Int) ≥ (s.hs.length:Int))=false:=decide_eq_false (by omega)
 have SH:=S.ext B.ext
 have rx:=B.xs S.len3
 obtain ⟨H1,f0,x1⟩:=zls (N:=N) (d:=d + 1) SH (c:Int) o.hd
 have SH1:=SH.ext x1
 have B1:=B.more x1
 have rx1:=B1.xs S.len3
 have q1:H1.read h.next 1 1=some [.sl z.b 0 s.th.length z.cb]:=zah B1.xa (by rw [S.xe];rfl)
 have q2:H1.read h.next 2 1=some [.sl z.hh 0 s.hs.length z.ch]:=zah B1.xa (by rw [S.xe];rfl)
 have q3:H1.read b 0 1=some [.int .i64 4]:=zah B1.ob (by rw [← hk];rfl)
 have q4:H1.read b 2 1=some [.int .i64 o.hd]:=zah B1.ob rfl
 have q5:H1.read b 3 1=some [.int .i64 o.off]:=zah B1.ob rfl
 have q6:H1.read b 4 1=some [.int .i64 o.n]:=zah B1.ob rfl
 have q7:H1.read b 5 1=some [dc]:=zah B1.ob rfl
 obtain ⟨g,hg⟩:=Int.eq_ofNat_of_zero_le (show 0≤zdb s.hs c o.hd by omega)
 have w1:decide ((g:Int) < 0)=false:=decide_eq_false (by omega)
 rw [hg] at f0
 have hhd:0≤o.hd∧o.hd < 6:=by
  refine Classical.byContradiction fun hcn=>?_
  have:zdb s.hs c o.hd = -1:=by unfold zdb;rw [if_pos (by omega)]
  omega
 obtain ⟨k,hkk⟩:=Int.eq_ofNat_of_zero_le hhd.1
 have hk6:k < 6:=by omega
 have hgl:g < s.th.length:=by
  have e1:zdb s.hs c o.hd=(s.hg c).getD k 0:=by
   unfold zdb
   rw [if_neg (by omega),hkk]
   rfl
  have h6:=(S.hi c hc).2
  have hm:(s.hg c).getD k 0∈s.hg c:=by
   rw [List.getD_eq_getElem?_getD,List.getElem?_eq_getElem (by omega)]
   exact List.getElem_mem _
  have hm2:s.hg c∈s.hs:=by
   have:s.hg c=s.hs[c]:=by simp [MS.hg,List.getD_eq_getElem?_getD,hc]
   rw [this];exact List.getElem_mem hc
  have:=S.hv _ hm2 _ hm
  omega
 have lw:∀ loc vals H,zao loc (.c dc :: vals) H (.len .sl (.val 0))=some (.c (.int .i64 (o.data.length:Int))):=fun _ _ _=>hd.len rfl
 by_cases c1:o.off < 0∨16 < o.off∨16 - o.off < (o.data.length:Int)
 ·have hf:doF s c o=(zci 6,s):=by
   unfold doF
   rw [hk,if_neg (by decide),if_neg (by decide),if_neg (by decide),if_neg (by omega),if_neg (by decide),if_pos rfl,if_pos c1]
  obtain ⟨H9,f1,x9⟩:=zf8 (N:=N) (d:=d + 1) 6 H1
  obtain ⟨G,w,rr,n,fr⟩:=zf1 (H:=H9) (e:=e) (v:=zce (zci 6) .nils) (B1.more x9).re rfl
  obtain ⟨S',x'⟩:=(SH1.ext x9).fin (((B.ext.trans x1).trans x9).b _) S.lt B.ee n fr
  unfold zdp
  rw [hf,zbi (F:=ir99) rfl rfl rfl]
  unfold ir99
  rw [zbp]
  simp only [zce,zci,zbw] at w rr f1 ⊢
  by_cases c2:o.off < 0
  ·have t1:decide (o.off < 0)=true:=decide_eq_true c2
   simp only [za9,zap,zac,zbx,zas,zat,zav,zam,za2,zcg,za5,zbl,zad,zaj,zaa,zau,zae,zbn,zaf,zar,zax,zbq,zba,zbg,za4,zbd,zbo,zbb,zaz,za1,za6,zbe,zbf,zag,za7,X.eval,zal,zai,List.map_cons,List.map_nil,List.getD_cons_zero,List.getD_cons_succ,List.getD_nil,List.set_cons_zero,List.set_cons_succ,zay,zaq,zab,zak,intArith,shift,cond_true,cond_false,BEq.rfl,AV.cells,AV.ofCells,List.length_cons,List.length_nil,Nat.zero_add,Nat.add_zero,Nat.reduceAdd,Int.reduceBEq,Int.reduceNeg,Int.reduceLT,Int.reduceGT,decide_false,tf,hb,he,hH,za0,za3,za8,AV.ofCells,r2,r3,r4,r5,rx,zbs,v1,v2,zbj,zbk,RV.eval,f0,w1,q3,q5,t1,f1,w,rr]
   exact ⟨_,G,rfl,.inl ⟨rfl,rfl⟩,S',x'⟩
  have t1:decide (o.off < 0)=false:=decide_eq_false c2
  by_cases c4:o.off > 16
  ·have t3:decide (o.off > 16)=true:=decide_eq_true c4
   simp only [za9,zap,zac,zbx,zas,zat,zav,zam,za2,zcg,za5,zbl,zad,zaj,zaa,zau,zae,zbn,zaf,zar,zax,zbq,zba,zbg,za4,zbd,zbo,zbb,zaz,za1,za6,zbe,zbf,zag,za7,X.eval,zal,zai,List.map_cons,List.map_nil,List.getD_cons_zero,List.getD_cons_succ,List.getD_nil,List.set_cons_zero,List.set_cons_succ,zay,zaq,zab,zak,intArith,shift,cond_true,cond_false,BEq.rfl,AV.cells,AV.ofCells,List.length_cons,List.length_nil,Nat.zero_add,Nat.add_zero,Nat.reduceAdd,Int.reduceBEq,Int.reduceNeg,Int.reduceLT,Int.reduceGT,decide_false,tf,hb,he,hH,za0,za3,za8,AV.ofCells,r2,r3,r4,r5,rx,zbs,v1,v2,zbj,zbk,RV.eval,f0,w1,q3,q5,t1,t3,f1,w,rr]
   exact ⟨_,G,rfl,.inl ⟨rfl,rfl⟩,S',x'⟩
  have t3:decide (o.off > 16)=false:=decide_eq_false c4
  have sw:=ztb (k:=o.off) (by omega) (by omega)
  have t4:decide ((o.data.length:Int) > 16 - o.off)=true:=decide_eq_true (by omega)
  simp only [za9,zap,zac,zbx,zas,zat,zav,zam,za2,zcg,za5,zbl,zad,zaj,zaa,zau,zae,zbn,zaf,zar,zax,zbq,zba,zbg,za4,zbd,zbo,zbb,zaz,za1,za6,zbe,zbf,zag,za7,X.eval,zal,zai,List.map_cons,List.map_nil,List.getD_cons_zero,List.getD_cons_succ,List.getD_nil,List.set_cons_zero,List.set_cons_succ,zay,zaq,zab,zak,intArith,shift,cond_true,cond_false,BEq.rfl,AV.cells,AV.ofCells,List.length_cons,List.length_nil,Nat.zero_add,Nat.add_zero,Nat.reduceAdd,Int.reduceBEq,Int.reduceNeg,Int.reduceLT,Int.reduceGT,decide_false,tf,hb,he,hH,za0,za3,za8,AV.ofCells,r2,r3,r4,r5,rx,zbs,v1,v2,zbj,zbk,RV.eval,f0,w1,q3,q5,q7,lw,t1,t3,sw,t4,f1,w,rr]
  exact ⟨_,G,rfl,.inl ⟨rfl,rfl⟩,S',x'⟩
 ·obtain ⟨p,hp⟩:=Int.eq_ofNat_of_zero_le (show 0≤o.off by omega)
  rw [hp] at q5 c1
  have hpl:p + o.data.length≤16:=by omega
  have t1:decide ((p:Int) < 0)=false:=decide_eq_false (by omega)
  have t3:decide ((p:Int) > 16)=false:=decide_eq_false (by omega)
  have sw:=ztb (k:=(p:Int)) (by omega) (by omega)
  have t4:decide ((o.data.length:Int) > 16 - (p:Int))=false:=decide_eq_false (by omega)
  have t5:IntKind.i64.wrap ((p:Int) + (o.data.length:Int))=((p + o.data.length:Nat):Int):=by rw [zf7 (by omega) (by omega)];omega
  have kb:=SH1.rb hgl
  have m1:Nat.blt g s.th.length=true:=zc0 hgl
  have bl:=S.bl' hgl
  have bs:∀ loc vals,zao loc (.c dc :: vals) H1 (.b2s (.val 0))=some (.c (.str (strOf o.data))):=fun _ _=>(hd.ext (B.ext.trans x1)).b2s
  have lB:(strOf (s.bd.getD g [])).length=16:=by rw [zdu,bl]
  have m2:Nat.ble p 16=true:=Nat.ble_eq_true_of_le (by omega)
  have m3:Nat.ble (p + o.data.length) 16=true:=Nat.ble_eq_true_of_le hpl
  have m4:Nat.ble 16 16=true:=rfl
  have m5:Nat.ble 0 p=true:=Nat.ble_eq_true_of_le (Nat.zero_le _)
  have g1:Nat.ble (((strOf (s.bd.getD g [])).take p).length + (strOf o.data).length) 1073741824=true:=Nat.ble_eq_true_of_le (by rw [List.length_take,lB,zdu];omega)
  have g2:Nat.ble (((strOf (s.bd.getD g [])).take p++strOf o.data).length + (((strOf (s.bd.getD g [])).drop (p + o.data.length)).take (16 - (p + o.data.length))).length) 1073741824=true :=
   Nat.ble_eq_true_of_le (by simp only [List.length_append,List.length_take,List.length_drop,lB,zdu];omega)
  have hs:(strOf (s.bd.getD g [])).take p++strOf o.data++((strOf (s.bd.getD g [])).drop (p + o.data.length)).take (16 - (p + o.data.length))=strOf (zg6 (s.bd.getD g []) o.data p):=by
   rw [List.take_of_length_le (l:=(strOf (s.bd.getD g [])).drop (p + o.data.length)) (by rw [List.length_drop,lB];exact Nat.le_refl _)]
   simp [strOf,zg6,List.map_take,List.map_drop]
  have hf:doF s c o=(okR,s.setB g (zg6 (s.bd.getD g []) o.data p)):=by
   unfold doF
   rw [hk,if_neg (by decide),if_neg (by decide),if_neg (by decide),if_neg (by omega),if_neg (by decide),if_pos rfl,hg,hp,if_neg (by omega)]
   rfl
  have oB:=zw0 (bs:=o.data) (k:=p) bl hpl
  have ww:H1.write z.b g [.str (strOf (zg6 (s.bd.getD g []) o.data p))]=some (H1.put z.b (.cells ((s.bd.set g (zg6 (s.bd.getD g []) o.data p)).map zfx))):=by
   rw [ze8 SH1.b (by rw [List.length_map,S.len];exact hgl)]
   simp [List.map_set,zfx]
  have S2:=SH1.setB (g:=g) oB
  have x2:ExtB z.own H1 (H1.put z.b (.cells ((s.bd.set g (zg6 (s.bd.getD g []) o.data p)).map zfx))):=(ExtB.refl _ _).put (.inr (by simp [SP.own])) _
  have bb:=B1.moreB x2 S.lt
  generalize H1.put z.b (.cells ((s.bd.set g (zg6 (s.bd.getD g []) o.data p)).map zfx))=H2 at ww S2 x2 bb
  obtain ⟨G,w,rr,n,fr⟩:=zf1 (H:=H2) (e:=e) (v:=zce okR .nils) bb.2.2.2 rfl
  obtain ⟨S',x'⟩:=S2.fin (((B.ext.trans x1).b _).trans x2) S.lt B.ee n fr
  unfold zdp
  rw [hf,zbi (F:=ir99) rfl rfl rfl]
  unfold ir99
  rw [zbp]
  simp only [zce,okR,zbw] at w rr ⊢
  simp only [za9,zap,zac,zas,zat,zav,zam,za2,zbm,za5,zbl,zad,zaj,zaa,zau,zae,zbn,zaf,zar,zax,zbq,zba,zbg,za4,zbd,zbo,zbb,zaz,za1,za6,zbe,zbf,zag,za7,X.eval,zal,zai,List.map_cons,List.map_nil,List.getD_cons_zero,List.getD_cons_succ,List.getD_nil,List.set_cons_zero,List.set_cons_succ,zay,zaq,zab,zak,intArith,shift,bound,zbc,cond_true,cond_false,BEq.rfl,zb0,zb1,AV.cells,AV.ofCells,List.length_cons,List.length_nil,List.nil_append,List.cons_append,Nat.ble,Nat.zero_add,Nat.add_zero,Nat.reduceAdd,Int.reduceBEq,Int.reduceNeg,Bool.and_true,Int.reduceLT,Int.reduceGT,decide_false,tf,hb,he,hH,za0,za3,za8,zbr,AV.ofCells,r2,r3,r4,r5,rx,zbs,v1,v2,zdt,zdl,zbj,zbk,RV.eval,zc3,zch,zb6,zb5,zb7,zdr,zd0,ze5,zabj,zx8,zdo,zec,zie,zcs,zct,zc4,zde,zd7,List.reverse_cons,List.reverse_nil,zdj,zuw,zux,f0,w1,q1,q3,q5,q7,lw,bs,lB,t1,t3,sw,t4,t5,m1,kb,m2,m3,m4,List.drop_zero,Nat.sub_zero,g1,g2,hs,ww,Nat.mul_one,w,rr]
  exact ⟨_,G,rfl,.inl ⟨rfl,rfl⟩,S',x'⟩
end
end Lav
set_option maxRecDepth 100000
namespace Lav
open Go (IntKind)
section
variable {N d:Nat} {h H G:Heap} {b e:Nat} {x op:List CV} {z:SP} {s:MS}
theorem SR.tb (S:SR h x z s):z.t≠z.b:=by
 have n:=S.nd
 simp only [SP.own,List.nodup_cons,List.mem_cons,not_or] at n
 exact n.1.1
theorem zaat {dc:CV} {o:OpM} (S:SR h x z s) {c:Nat} (hc:c < s.hs.length) (hk:o.kd=8) (h0:0≤o.pg) (hl:o.pg < (s.th.length:Int)) (ht:s.th.getD o.pg.toNat false=true) (hN:10≤N):zdp N d h x z s c o dc:=by
 obtain ⟨H,b,e,hH,hb,he,B⟩:=zgh h x (opC o dc)
 have r2:H.read h.next 2 1=some [.sl z.hh 0 s.hs.length z.ch]:=zah B.xa (by rw [S.xe];rfl)
 have r0:H.read h.next 0 1=some [.sl z.t 0 s.th.length z.ct]:=zah B.xa (by rw [S.xe];rfl)
 have r1:H.read h.next 1 1=some [.sl z.b 0 s.th.length z.cb]:=zah B.xa (by rw [S.xe];rfl)
 have r3:H.read b 0 1=some [.int .i64 8]:=zah B.ob (by rw [← hk];rfl)
 have r4:H.read b 1 1=some [.int .i64 o.pg]:=zah B.ob rfl
 have r5:H.read b 2 1=some [.int .i64 o.hd]:=zah B.ob rfl
 have v1:decide ((c:Int) < 0)=false:=decide_eq_false (by omega)
 have v2:decide ((c:Int) ≥ (s.hs.length:Int))=false:=decide_eq_false (by omega)
 have SH:=S.ext B.ext
 have rx:=B.xs S.len3
 obtain ⟨g,hg⟩:=Int.eq_ofNat_of_zero_le h0
 rw [hg] at r4 hl
 have hgl:g < s.th.length:=by omega
 have u1:decide ((g:Int) < 0)=false:=decide_eq_false (by omega)
 have u2:decide ((g:Int) ≥ (s.th.length:Int))=false:=decide_eq_false (by omega)
 have ht':s.th.getD g false=true:=by rw [hg] at ht;simpa using ht
 have k1:=SH.rt hgl
 rw [ht'] at k1
 have m1:Nat.blt g s.th.length=true:=zc0 hgl
 have hgf:∀ (A B C:ResM × MS),(if (g:Int) < 0∨(s.th.length:Int)≤(g:Int) then A else if s.th.getD ((g:Int)).toNat false=false then B else C)=C:=fun A B C=>by
  rw [if_neg (by omega),if_neg (by rw [Int.toNat_natCast,ht'];decide)]
 obtain ⟨H1,f0,x1⟩:=zru (N:=N) (d:=d + 1) SH (g:Int) hN
 have SH1:=SH.ext x1
 have B1:=B.more x1
 by_cases c1:0 < zd2 s.hs (g:Int)
 ·have w1:decide ((zd2 s.hs (g:Int):Int) > 0)=true:=decide_eq_true (by omega)
  obtain ⟨H2,f2,x2⟩:=zf8 (N:=N) (d:=d + 1) 7 H1
  obtain ⟨G,w,rr,n,fr⟩:=zf1 (H:=H2) (e:=e) (v:=zce (zci 7) .nils) (B1.more x2).re rfl
  obtain ⟨S',x'⟩:=(SH1.ext x2).fin (((B.ext.trans x1).trans x2).b _) S.lt B.ee n fr
  have hf:doF s c o=(zci 7,s):=by
   unfold doF
   rw [hk,if_neg (by decide),if_pos (by decide),hg,hgf,if_neg (by decide),if_neg (by decide),if_pos c1]
  unfold zdp
  rw [hf,zbi (F:=ir99) rfl rfl rfl]
  unfold ir99
  rw [zbp]
  simp only [zce,zci,zbw] at w rr f2 ⊢
  simp only [za9,zap,zac,zbx,zas,zat,zav,zam,za2,zcg,za5,zbl,zad,zaj,zaa,zau,zae,zaf,zar,zax,zbq,zba,zdq,zbg,za4,zbt,zbd,zbo,zbb,zaz,za1,za6,zbe,zee,zbf,zag,za7,X.eval,zal,zai,List.map_cons,List.map_nil,List.getD_cons_zero,List.getD_cons_succ,List.getD_nil,List.set_cons_zero,List.set_cons_succ,zay,zdk,zaq,zab,zak,intArith,shift,zbc,cond_true,cond_false,BEq.rfl,AV.cells,AV.ofCells,List.length_cons,List.length_nil,Nat.zero_add,Nat.add_zero,Nat.reduceAdd,Int.reduceBEq,Int.reduceNeg,Bool.not_true,Int.reduceLT,Int.reduceGT,decide_false,hb,he,hH,za0,za3,za8,zbr,AV.ofCells,r0,r2,r3,r4,rx,zbs,v1,v2,zbj,zbk,RV.eval,u1,u2,m1,k1,Nat.mul_one,f0,w1,f2,w,rr]
  exact ⟨_,G,rfl,.inl ⟨rfl,rfl⟩,S',x'⟩
 ·have w1:decide ((zd2 s.hs (g:Int):Int) > 0)=false:=decide_eq_false (by omega)
  have q0:H1.read h.next 0 1=some [.sl z.t 0 s.th.length z.ct]:=zah B1.xa (by rw [S.xe];rfl)
  have q1:H1.read h.next 1 1=some [.sl z.b 0 s.th.length z.cb]:=zah B1.xa (by rw [S.xe];rfl)
  obtain ⟨H2,f2,x2⟩:=zqi (N:=N) (d:=d + 1) H1
  have SH2:=SH1.ext x2
  have B2:=B1.more x2
  have p0:H2.read h.next 0 1=some [.sl z.t 0 s.th.length z.ct]:=zah B2.xa (by rw [S.xe];rfl)
  have p1:H2.read h.next 1 1=some [.sl z.b 0 s.th.length z.cb]:=zah B2.xa (by rw [S.xe];rfl)
  have lh:=S.lt z.t (by simp [SP.own])
  have lb:=S.lt z.b (by simp [SP.own])
  have w5:H2.write z.t g [.bool false]=some (H2.put z.t (.cells ((s.th.set g false).map zeh))):=by
   rw [ze8 SH2.t (by simpa using hgl)];simp [List.map_set,zeh]
  have w6:(H2.put z.t (.cells ((s.th.set g false).map zeh))).write z.b g [zfx z16]=some ((H2.put z.t (.cells ((s.th.set g false).map zeh))).put z.b (.cells ((s.bd.set g z16).map zfx))):=by
   rw [ze8 ((zb8 S.tb.symm).trans SH2.b) (by rw [List.length_map,S.len];exact hgl)];simp [List.map_set]
  have S3:=SH2.setP (g:=g) (v:=false)
  have x3:ExtB z.own H2 ((H2.put z.t (.cells ((s.th.set g false).map zeh))).put z.b (.cells ((s.bd.set g z16).map zfx))):=((ExtB.refl _ _).put (.inr (by simp [SP.own])) _).put (.inr (by simp [SP.own])) _
  have y0:(H2.put z.t (.cells ((s.th.set g false).map zeh))).read h.next 1 1=some [.sl z.b 0 s.th.length z.cb]:=zah ((zb8 (by omega)).trans B2.xa) (by rw [S.xe];rfl)
  have y1:(H2.put z.t (.cells ((s.th.set g false).map zeh))).read h.next 0 1=some [.sl z.t 0 s.th.length z.ct]:=zah ((zb8 (by omega)).trans B2.xa) (by rw [S.xe];rfl)
  have bb:=B2.moreB x3 S.lt
  generalize (H2.put z.t (.cells ((s.th.set g false).map zeh))).put z.b (.cells ((s.bd.set g z16).map zfx))=H3 at w6 S3 x3 bb
  have y2:H3.read h.next 1 1=some [.sl z.b 0 s.th.length z.cb]:=zah bb.2.1 (by rw [S.xe];rfl)
  have y3:H3.read h.next 0 1=some [.sl z.t 0 s.th.length z.ct]:=zah bb.2.1 (by rw [S.xe];rfl)
  obtain ⟨G,w,rr,n,fr⟩:=zf1 (H:=H3) (e:=e) (v:=zce okR .nils) bb.2.2.2 rfl
  obtain ⟨S',x'⟩:=S3.fin ((((B.ext.trans x1).trans x2).b _).trans x3) S.lt B.ee n fr
  have hf:doF s c o=(okR,s.setP g false):=by
   unfold doF
   rw [hk,if_neg (by decide),if_pos (by decide),hg,hgf,if_neg (by decide),if_neg (by decide),if_neg c1]
   rfl
  unfold zdp
  rw [hf,zbi (F:=ir99) rfl rfl rfl]
  unfold ir99
  rw [zbp]
  simp only [zce,okR,zbw] at w rr ⊢
  simp only [za9,zap,zac,zas,zat,zav,zam,za2,zbm,za5,zbl,zad,zaj,zaa,zau,zae,zaf,zar,zax,zbq,zba,zdq,zbg,za4,zbt,zbd,zbo,zbb,zaz,za1,za6,zbe,zee,zbf,zag,za7,X.eval,zal,zai,List.map_cons,List.map_nil,List.getD_cons_zero,List.getD_cons_succ,List.getD_nil,List.set_cons_zero,List.set_cons_succ,zay,zdk,zaq,zab,zak,intArith,shift,zbc,cond_true,cond_false,BEq.rfl,zb0,zb1,AV.cells,AV.ofCells,List.length_cons,List.length_nil,List.nil_append,List.cons_append,Nat.zero_add,Nat.add_zero,Nat.reduceAdd,Nat.reduceBEq,Int.reduceBEq,Int.reduceNeg,Bool.and_true,Bool.not_true,Int.reduceLT,Int.reduceGT,decide_false,zc3,zch,zb6,zb5,zb7,zdr,zd0,zdo,zec,zho,zie,zcs,zct,zhc,zgo,zf5,zfm,zgp,zgq,zg0,zf6,zhd,zgr,zhe,zc4,zde,zd7,List.reverse_cons,List.reverse_nil,zdj,hb,he,hH,za0,za3,za8,zbr,AV.ofCells,r0,r2,r3,r4,rx,zbs,v1,v2,zdt,zdl,zbj,zbk,RV.eval,u1,u2,m1,k1,Nat.mul_one,f0,w1,q0,q1,f2,p0,p1,w5,y0,w6,w,rr]
  exact ⟨_,G,rfl,.inl ⟨rfl,rfl⟩,S',x'⟩
theorem zaau {dc:CV} {o:OpM} (S:SR h x z s) {c:Nat} (hc:c < s.hs.length) (hk:o.kd=1) (hN:60≤N):zdp N d h x z s c o dc:=by
 obtain ⟨H,b,e,hH,hb,he,B⟩:=zgh h x (opC o dc)
 have r2:H.read h.next 2 1=some [.sl z.hh 0 s.hs.length z.ch]:=zah B.xa (by rw [S.xe];rfl)
 have r0:H.read h.next 0 1=some [.sl z.t 0 s.th.length z.ct]:=zah B.xa (by rw [S.xe];rfl)
 have r1:H.read h.next 1 1=some [.sl z.b 0 s.th.length z.cb]:=zah B.xa (by rw [S.xe];rfl)
 have r3:H.read b 0 1=some [.int .i64 1]:=zah B.ob (by rw [← hk];rfl)
 have r4:H.read b 1 1=some [.int .i64 o.pg]:=zah B.ob rfl
 have r5:H.read b 2 1=some [.int .i64 o.hd]:=zah B.ob rfl
 have v1:decide ((c:Int) < 0)=false:=decide_eq_false (by omega)
 have v2:decide ((c:Int) ≥ (s.hs.length:Int))=false:=decide_eq_false (by omega)
 have SH:=S.ext B.ext
 have rx:=B.xs S.len3
 obtain ⟨H1,f1,x1⟩:=zrr (N:=N) (d:=d + 1) SH hc (by omega)
 have SH1:=SH.ext x1
 have B1:=B.more x1
 by_cases c1:zca (s.hg c) < 6
 rotate_left
 ·have w1:decide (zca (s.hg c) < 6)=false:=decide_eq_false c1
  rw [w1] at f1
  obtain ⟨H2,f2,x2⟩:=zf8 (N:=N) (d:=d + 1) 4 H1
  obtain ⟨G,w,rr,n,fr⟩:=zf1 (H:=H2) (e:=e) (v:=zce (zci 4) .nils) (B1.more x2).re rfl
  obtain ⟨S',x'⟩:=(SH1.ext x2).fin (((B.ext.trans x1).trans x2).b _) S.lt B.ee n fr
  have hf:doF s c o=(zci 4,s):=by
   unfold doF
   rw [hk,if_pos rfl,if_neg c1]
  unfold zdp
  rw [hf,zbi (F:=ir99) rfl rfl rfl]
  unfold ir99
  rw [zbp]
  simp only [zce,zci,zbw] at w rr f2 ⊢
  simp only [za9,zap,zac,zbx,zas,zat,zav,zam,za2,zcg,za5,zbl,zad,zaj,zaa,zau,zae,zaf,zar,zax,zbq,zba,zdq,zbg,za4,zbd,zbo,zbb,zaz,za1,za6,zbe,zee,zbf,zag,za7,X.eval,zal,zai,List.map_cons,List.map_nil,List.getD_cons_zero,List.getD_cons_succ,List.getD_nil,List.set_cons_zero,List.set_cons_succ,zay,zdk,zaq,zab,zak,intArith,shift,cond_true,cond_false,BEq.rfl,AV.cells,AV.ofCells,List.length_cons,List.length_nil,Nat.zero_add,Nat.add_zero,Nat.reduceAdd,Int.reduceBEq,Int.reduceNeg,Bool.not_false,Int.reduceLT,Int.reduceGT,decide_false,hb,he,hH,za0,za3,za8,AV.ofCells,r2,r3,r4,rx,zbs,v1,v2,zbj,zbk,RV.eval,f1,f2,w,rr]
  exact ⟨_,G,rfl,.inl ⟨rfl,rfl⟩,S',x'⟩
 have w1:decide (zca (s.hg c) < 6)=true:=decide_eq_true c1
 rw [w1] at f1
 have q0:H1.read h.next 0 1=some [.sl z.t 0 s.th.length z.ct]:=zah B1.xa (by rw [S.xe];rfl)
 have q1:H1.read h.next 1 1=some [.sl z.b 0 s.th.length z.cb]:=zah B1.xa (by rw [S.xe];rfl)
 have few:=S.few
 have fl:=zo1 s.th
 have L:∀ loc,zbv ir99_k0 loc=[.junk,.c (.int .i64 (c:Int)),.junk,.c (.ptr h.next 0),.junk,.c (.ptr e 0),.c (.int .i64 0),.junk,.junk,.junk,.junk,.junk,.junk,.junk,.junk,.junk,.junk,.junk,.junk,.junk,.junk,.junk,.junk,.junk,.junk,.junk,.junk] →
   ∃ r,zcr (evCallO OS table N (d + 2)) N ir99_k0 ir99_l0 N loc H1=some r∧∃ q,r=(.exit 1,[.junk,.c (.int .i64 (c:Int)),.junk,.c (.ptr h.next 0),.junk,.c (.ptr e 0),.c (.int .i64 (zc7 s.th:Int)),.junk,.junk,.junk,.junk,.junk,.junk,.junk,.junk,.junk,q,.junk,.junk,.junk,.junk,.junk,.junk,.junk,.junk,.junk,.junk],H1):=by
  intro loc hloc
  refine zcl (n:=s.th.length) (fun i loc G=>G=H1∧i≤zc7 s.th∧loc=[.junk,.c (.int .i64 (c:Int)),.junk,.c (.ptr h.next 0),.junk,.c (.ptr e 0),.c (.int .i64 (i:Int)),.junk,.junk,.junk,.junk,.junk,.junk,.junk,.junk,.junk,.junk,.junk,.junk,.junk,.junk,.junk,.junk,.junk,.junk,.junk,.junk]) _ ?_ ⟨rfl,Nat.zero_le _,hloc⟩ (by omega)
  rintro i loc G hi ⟨rfl,hle,rfl⟩
  unfold ir99_l0
  by_cases hlt:i < s.th.length
  ·have t1:=ze6 hlt
   have t2:=zdm (i:=i) (by omega)
   have m2:Nat.blt i s.th.length=true:=zc0 hlt
   have k2:=SH1.rt hlt
   rcases Nat.lt_or_ge i (zc7 s.th) with hl | hl
   ·left
    rw [zo2 hl] at k2
    simp only [zap,zac,zas,zat,zav,za2,zbm,za5,zad,zaj,zaa,zau,zae,zaf,zar,zax,zba,zbg,za4,zbt,za6,zbe,zag,X.eval,zal,zai,List.getD_cons_zero,List.getD_cons_succ,List.set_cons_zero,List.set_cons_succ,zay,zaq,zab,zak,intArith,shift,zbc,cond_true,cond_false,BEq.rfl,AV.ofCells,Nat.zero_add,Nat.add_zero,Int.reduceLT,decide_false,za0,za3,za8,zbr,AV.ofCells,q0,zbs,t1,m2,k2,Nat.mul_one,t2]
    exact ⟨hlt,_,_,rfl,rfl,hl,rfl⟩
   ·right
    have he:zc7 s.th=i:=by omega
    rw [← he,zo3 (by omega),he] at k2
    simp only [zap,zac,zb2,zas,zat,zam,zcf,zad,zaj,zaa,zau,zae,zaf,zar,zax,zba,zbg,za4,zbt,za6,zbe,zag,X.eval,zal,zai,List.getD_cons_zero,List.getD_cons_succ,List.set_cons_zero,List.set_cons_succ,zay,zaq,zab,zak,intArith,shift,zbc,cond_true,cond_false,BEq.rfl,AV.ofCells,Nat.zero_add,Nat.add_zero,za0,za3,za8,zbr,AV.ofCells,q0,zbs,t1,m2,k2,Nat.mul_one]
    exact ⟨_,rfl,by simp,_,by rw [he]⟩
  ·right
   have he:i=s.th.length:=by omega
   have h2:zc7 s.th=s.th.length:=by omega
   subst he
   have t1:decide ((s.th.length:Int) < (s.th.length:Int))=false:=zfg (Nat.le_refl _)
   simp only [zap,zac,zb2,zas,zat,zam,zcf,zad,zaj,zaa,zau,zae,zbn,zaf,zar,zax,zba,zbg,za4,za6,zbe,zag,X.eval,zal,zai,List.getD_cons_zero,List.getD_cons_succ,List.set_cons_zero,List.set_cons_succ,zay,zaq,zab,zak,intArith,shift,cond_true,cond_false,BEq.rfl,AV.ofCells,Nat.add_zero,ft,za0,za3,za8,AV.ofCells,q0,zbs,t1]
   exact ⟨_,rfl,by simp,_,by rw [h2]⟩
 obtain ⟨r,⟨qq,rfl⟩,hr⟩:=zcn L rfl
 by_cases c2:zc7 s.th < s.th.length
 rotate_left
 ·have h2:zc7 s.th=s.th.length:=by omega
  obtain ⟨H2,f2,x2⟩:=zf8 (N:=N) (d:=d + 1) 3 H1
  obtain ⟨G,w,rr,n,fr⟩:=zf1 (H:=H2) (e:=e) (v:=zce (zci 3) .nils) (B1.more x2).re rfl
  obtain ⟨S',x'⟩:=(SH1.ext x2).fin (((B.ext.trans x1).trans x2).b _) S.lt B.ee n fr
  have hf:doF s c o=(zci 3,s):=by
   unfold doF
   rw [hk,if_pos rfl,if_pos c1,if_neg c2]
  have t1:((s.th.length:Int) == (s.th.length:Int))=true:=by simp
  rw [h2] at hr
  unfold zdp
  rw [hf,zbi (F:=ir99) rfl rfl rfl]
  unfold ir99
  rw [zbp]
  simp only [zce,zci,zbw] at w rr f2 ⊢
  simp only [za9,zap,zac,zas,zat,zav,zam,za2,zb9,za5,zad,zaj,zaa,zau,zae,zaf,zar,zax,zbq,zba,zdq,zbg,za4,zbd,zbb,za6,zbe,zee,zbf,zag,za7,X.eval,zal,zai,List.map_cons,List.map_nil,List.getD_cons_zero,List.getD_cons_succ,List.getD_nil,List.set_cons_zero,List.set_cons_succ,zay,zdk,zaq,zab,zak,intArith,shift,cond_true,cond_false,BEq.rfl,AV.cells,AV.ofCells,Nat.zero_add,Nat.add_zero,Int.reduceBEq,Int.reduceNeg,Bool.not_true,Int.reduceLT,Int.reduceGT,decide_false,hb,he,hH,za0,za3,za8,AV.ofCells,r2,r3,r4,rx,zbs,v1,v2,f1]
  rw [hr _ rfl]
  simp only [zap,zac,zbx,zas,zat,zav,zcg,zbu,zbl,zad,zaj,zaa,zae,zaf,zar,zax,zbg,za4,zbd,zbo,zbb,zaz,za1,za6,zag,X.eval,zal,zai,List.map_cons,List.map_nil,List.getD_cons_zero,List.getD_cons_succ,List.set_cons_zero,List.set_cons_succ,zay,zaq,zab,zak,intArith,shift,cond_true,cond_false,BEq.rfl,AV.cells,AV.ofCells,List.length_cons,List.length_nil,Nat.zero_add,Nat.add_zero,Nat.reduceAdd,za0,za3,za8,AV.ofCells,zbs,zbj,zbk,RV.eval,q0,f2,w,rr]
  exact ⟨_,G,rfl,.inl ⟨rfl,rfl⟩,S',x'⟩
 have t1:((zc7 s.th:Int) == (s.th.length:Int))=false:=by simp only [beq_eq_false_iff_ne,ne_eq];omega
 generalize hg:zc7 s.th=g at *
 obtain ⟨H2,f2,x2⟩:=zqi (N:=N) (d:=d + 1) H1
 have SH2:=SH1.ext x2
 have B2:=B1.more x2
 have m1:Nat.blt g s.th.length=true:=zc0 c2
 have p0:H2.read h.next 0 1=some [.sl z.t 0 s.th.length z.ct]:=zah B2.xa (by rw [S.xe];rfl)
 have p1:H2.read h.next 1 1=some [.sl z.b 0 s.th.length z.cb]:=zah B2.xa (by rw [S.xe];rfl)
 have lh:=S.lt z.t (by simp [SP.own])
 have lb:=S.lt z.b (by simp [SP.own])
 have w5:H2.write z.t g [.bool true]=some (H2.put z.t (.cells ((s.th.set g true).map zeh))):=by
  rw [ze8 SH2.t (by simpa using c2)];simp [List.map_set,zeh]
 have w6:(H2.put z.t (.cells ((s.th.set g true).map zeh))).write z.b g [zfx z16]=some ((H2.put z.t (.cells ((s.th.set g true).map zeh))).put z.b (.cells ((s.bd.set g z16).map zfx))):=by
  rw [ze8 ((zb8 S.tb.symm).trans SH2.b) (by rw [List.length_map,S.len];exact c2)];simp [List.map_set]
 have S3:=SH2.setP (g:=g) (v:=true)
 have x3:ExtB z.own H2 ((H2.put z.t (.cells ((s.th.set g true).map zeh))).put z.b (.cells ((s.bd.set g z16).map zfx))):=((ExtB.refl _ _).put (.inr (by simp [SP.own])) _).put (.inr (by simp [SP.own])) _
 have y0:(H2.put z.t (.cells ((s.th.set g true).map zeh))).read h.next 1 1=some [.sl z.b 0 s.th.length z.cb]:=zah ((zb8 (by omega)).trans B2.xa) (by rw [S.xe];rfl)
 have y1:(H2.put z.t (.cells ((s.th.set g true).map zeh))).read h.next 0 1=some [.sl z.t 0 s.th.length z.ct]:=zah ((zb8 (by omega)).trans B2.xa) (by rw [S.xe];rfl)
 have bb:=B2.moreB x3 S.lt
 generalize (H2.put z.t (.cells ((s.th.set g true).map zeh))).put z.b (.cells ((s.bd.set g z16).map zfx))=H3 at w6 S3 x3 bb
 have y2:H3.read h.next 1 1=some [.sl z.b 0 s.th.length z.cb]:=zah bb.2.1 (by rw [S.xe];rfl)
 have y3:H3.read h.next 0 1=some [.sl z.t 0 s.th.length z.ct]:=zah bb.2.1 (by rw [S.xe];rfl)
 have rx3:H3.read h.next 0 3=some x:=by rw [zcd bb.2.1 (by rw [S.len3];omega),List.drop_zero,List.take_of_length_le (by rw [S.len3];omega)]
 have hg3:(s.setP g true).hg c=s.hg c:=rfl
 obtain ⟨H4,f4,S4,x4⟩:=zrs (N:=N) (d:=d + 1) S3 hc (g:Int) (by simp [MS.setP];omega) (by rw [hg3];exact c1) (by omega)
 rw [hg3] at f4 S4
 have x34:=x3.trans (x4.mono fun j hj=>by simp [SP.own,hj])
 have bb4:=B2.moreB x34 S.lt
 obtain ⟨G,w,rr,n,fr⟩:=zf1 (H:=H4) (e:=e) (v:=zce ⟨0,(g:Int),(zca (s.hg c):Int),[]⟩ .nils) bb4.2.2.2 rfl
 obtain ⟨S',x'⟩:=S4.fin ((((B.ext.trans x1).trans x2).b _).trans x34) S.lt B.ee n fr
 have hf:doF s c o=(⟨0,(g:Int),(zca (s.hg c):Int),[]⟩,(s.setP g true).setH c (zca (s.hg c)) (g:Int)):=by
  unfold doF
  rw [hk,if_pos rfl,if_pos c1,hg,if_pos c2]
 unfold zdp
 rw [hf,zbi (F:=ir99) rfl rfl rfl]
 unfold ir99
 rw [zbp]
 simp only [zce,zbw] at w rr ⊢
 simp only [za9,zap,zac,zas,zat,zav,zam,za2,zb9,za5,zad,zaj,zaa,zau,zae,zaf,zar,zax,zbq,zba,zdq,zbg,za4,zbd,zbb,za6,zbe,zee,zbf,zag,za7,X.eval,zal,zai,List.map_cons,List.map_nil,List.getD_cons_zero,List.getD_cons_succ,List.getD_nil,List.set_cons_zero,List.set_cons_succ,zay,zdk,zaq,zab,zak,intArith,shift,cond_true,cond_false,BEq.rfl,AV.cells,AV.ofCells,Nat.zero_add,Nat.add_zero,Int.reduceBEq,Int.reduceNeg,Bool.not_true,Int.reduceLT,Int.reduceGT,decide_false,hb,he,hH,za0,za3,za8,AV.ofCells,r2,r3,r4,rx,zbs,v1,v2,f1]
 rw [hr _ rfl]
 simp only [zap,zac,zbx,zas,zat,zam,zcg,zbu,za5,zbl,zad,zaj,zaa,zae,zaf,zar,zax,zbg,za4,zbd,zbo,zbb,zaz,za1,za6,zag,X.eval,zal,zai,List.map_cons,List.map_nil,List.getD_cons_zero,List.getD_cons_succ,List.set_cons_zero,List.set_cons_succ,zay,zaq,zab,zak,intArith,shift,zbc,cond_true,cond_false,BEq.rfl,zb0,zb1,AV.cells,AV.ofCells,List.length_cons,List.length_nil,zdf,setMany,List.nil_append,List.cons_append,Nat.ble,Nat.zero_add,Nat.add_zero,Nat.reduceAdd,Nat.reduceBEq,Bool.and_true,zc3,zch,zb6,zb5,zb7,zdr,zd0,zdo,zec,zho,zie,zcs,zct,zhc,zgo,zf5,zfm,zgp,zgq,zg0,zf6,zhd,zgr,zhe,zc4,zde,zd7,List.reverse_cons,List.reverse_nil,zdj,za0,za3,za8,zbr,AV.ofCells,zbs,zdt,zdl,zbj,zbk,RV.eval,q0,q1,t1,f2,p0,p1,m1,Nat.mul_one,w5,y0,w6,rx3,f4,w,rr]
 exact ⟨_,G,rfl,.inl ⟨rfl,rfl⟩,S',x'⟩
theorem zyc {dc:CV} {o:OpM} (S:SR h x z s) {c:Nat} (hc:c < s.hs.length) (hk:1≤o.kd∧o.kd≤8) (hd:Bytes h dc o.data) (hN:60≤N):zdp N d h x z s c o dc:=by
 have paged:∀ K:Int,o.kd=K→(K=2∨K=6∨K=8)→(0≤o.pg→o.pg < (s.th.length:Int)→s.th.getD o.pg.toNat false=true→zdp N d h x z s c o dc)→zdp N d h x z s c o dc:=by
  intro K hK h26 hyes
  by_cases c1:o.pg < 0∨(s.th.length:Int)≤o.pg∨s.th.getD o.pg.toNat false=false
  ·exact zww S hc hK h26 c1
  ·simp only [not_or] at c1
   exact hyes (by omega) (by omega) (by simpa using c1.2.2)
 have handled:∀ K:Int,o.kd=K→(K=3∨K=4∨K=5)→(0≤zdb s.hs c o.hd→zdp N d h x z s c o dc)→zdp N d h x z s c o dc:=by
  intro K hK h26 hyes
  by_cases c1:zdb s.hs c o.hd < 0
  ·exact zu1 S hc hK h26 c1
  ·exact hyes (by omega)
 obtain ⟨k1,k2⟩:=hk
 have:o.kd=1∨o.kd=2∨o.kd=3∨o.kd=4∨o.kd=5∨o.kd=6∨o.kd=7∨o.kd=8:=by omega
 rcases this with k | k | k | k | k | k | k | k
 ·exact zaau S hc k hN
 ·exact paged 2 k (by omega) fun h0 hl ht=>zwy S hc k h0 hl ht (by omega)
 ·exact handled 3 k (by omega) fun hn=>zzd S hc k hn
 ·exact handled 4 k (by omega) fun hn=>zw1 S hc k hn hd
 ·exact handled 5 k (by omega) fun hn=>zwz S hc k hn
 ·exact paged 6 k (by omega) fun h0 hl ht=>zwx S hc k h0 hl ht
 ·exact zaas S hc k
 ·exact paged 8 k (by omega) fun h0 hl ht=>zaat S hc k h0 hl ht (by omega)
end
end Lav
set_option maxRecDepth 100000
namespace Lav
open Go (IntKind)
structure Ev where
 cl:Int
 op:OpM
 rs:ResM
 bg:Int
 st:Int
 en:Int
def evC (e:Ev) (dc rc:CV):List CV:=zbw e.cl :: (opC e.op dc++(zce e.rs rc++[zbw e.bg,zbw e.st,zbw e.en]))
theorem zmq (r:ResM) (c:CV):(zce r c).length=4:=rfl
theorem zdc (e:Ev) (dc rc:CV):(evC e dc rc).length=14:=rfl
def zkj (kd code:Int):Bool :=
 if code=8 then kd == 1 || kd == 2 else if code=9 then kd == 1 || (kd == 2 || (kd == 6 || kd == 7)) else if code=10 then kd == 2 else false
def zia (a b:ResM):Bool:=a.code == b.code && (a.rp == b.rp && (a.rh == b.rh && decide (a.rd=b.rd)))
section
variable {N d:Nat} {h:Heap} {x:List CV} {z:SP} {s:MS}
theorem Bytes.extB {h h':Heap} {y:CV} {bs:List (BitVec 8)} {L:List Nat} (hx:Bytes h y bs) (e:ExtB L h h') (hn:∀ k,blk y=some k→k ∉ L):Bytes h' y bs:=by
 rcases hx with h1 | ⟨i,o,c,rfl,h2,h3⟩
 ·exact .inl h1
 ·refine .inr ⟨i,o,c,rfl,Nat.lt_of_lt_of_le h2 e.1,fun j b hj=>?_⟩
  have:=e.2 i h2 (hn i rfl)
  unfold Heap.read
  rw [this]
  exact h3 j b hj
theorem zu2 (o:OpM) (dc:CV) (code:Int) (h:Heap):∃ h',evCallO OS table N (d + 1) 98 [.agg (opC o dc),.c (.int .i64 code)] h=some (.c (.bool (zkj o.kd code)),h')∧Ext h h':=by
 have e1:=(Ext.refl h).new (.cells (opC o dc))
 have r0:(h.new (.cells (opC o dc))).read h.next 0 1=some [.int .i64 o.kd]:=zah zbz rfl
 rw [zbi (F:=ir98) rfl rfl rfl]
 unfold ir98 zkj
 rw [zbp]
 by_cases c1:code=8
 ·subst c1
  rw [if_pos rfl]
  cases k1:(o.kd == 1)<;>cases k2:(o.kd == 2) <;>
   simp only [za9,zap,zac,zbx,zas,zat,zav,za2,zcg,zbl,zad,zaj,zaa,zau,zae,zbn,zaf,zar,zax,zbq,zba,za4,zaz,za1,za6,zbe,zbf,zag,za7,X.eval,zal,zai,List.map_cons,List.map_nil,List.getD_cons_zero,List.getD_cons_succ,List.getD_nil,List.set_cons_zero,List.set_cons_succ,zay,zaq,zab,zak,intArith,shift,cond_true,cond_false,BEq.rfl,AV.cells,AV.ofCells,Nat.add_zero,Int.reduceLT,decide_false,tf,za0,za3,za8,AV.ofCells,r0,k1,k2,zbk,RV.eval,Bool.or_false,Bool.or_true]<;>exact ⟨_,rfl,e1⟩
 have v1:(code == 8)=false:=by simpa using c1
 rw [if_neg c1]
 by_cases c2:code=9
 ·subst c2
  rw [if_pos rfl]
  cases k1:(o.kd == 1)<;>cases k2:(o.kd == 2)<;>cases k3:(o.kd == 6)<;>cases k4:(o.kd == 7) <;>
   simp only [za9,zap,zac,zbx,zas,zat,zav,zam,za2,zcg,zbl,zad,zaj,zaa,zau,zae,zbn,zaf,zar,zax,zbq,zba,za4,zaz,za1,za6,zbe,zbf,zag,za7,X.eval,zal,zai,List.map_cons,List.map_nil,List.getD_cons_zero,List.getD_cons_succ,List.getD_nil,List.set_cons_zero,List.set_cons_succ,zay,zaq,zab,zak,intArith,shift,cond_true,cond_false,BEq.rfl,AV.cells,AV.ofCells,Nat.add_zero,Int.reduceLT,decide_false,tf,za0,za3,za8,AV.ofCells,r0,v1,k1,k2,k3,k4,zbk,RV.eval,Bool.or_false,Bool.or_true]<;>exact ⟨_,rfl,e1⟩
 have v2:(code == 9)=false:=by simpa using c2
 rw [if_neg c2]
 by_cases c3:code=10
 ·subst c3
  rw [if_pos rfl]
  simp only [za9,zap,zac,zbx,zas,zat,zav,zam,za2,zcg,zbl,zad,zaj,zaa,zae,zaf,zar,zax,zbq,za4,zaz,za1,za6,zbf,zag,za7,X.eval,zal,zai,List.map_cons,List.map_nil,List.getD_cons_zero,List.getD_cons_succ,List.getD_nil,List.set_cons_zero,List.set_cons_succ,zay,zaq,zab,zak,intArith,shift,cond_true,cond_false,BEq.rfl,AV.cells,AV.ofCells,Nat.add_zero,Int.reduceLT,decide_false,za0,za3,za8,AV.ofCells,r0,v1,v2,zbk,RV.eval]
  exact ⟨_,rfl,e1⟩
 have v3:(code == 10)=false:=by simpa using c3
 rw [if_neg c3]
 simp only [za9,zap,zac,zas,zat,zam,za2,zbm,za5,zbl,zad,zaj,zaa,zae,zaf,zar,zax,zbq,zaz,za1,za6,zbf,zag,za7,X.eval,zal,zai,List.map_cons,List.map_nil,List.getD_cons_zero,List.getD_cons_succ,List.getD_nil,List.set_cons_zero,List.set_cons_succ,zay,zaq,zab,zak,intArith,shift,cond_true,cond_false,BEq.rfl,AV.cells,Int.reduceLT,decide_false,v1,v2,v3,zbk,RV.eval]
 exact ⟨_,rfl,e1⟩
theorem zw2 (h:Heap) (x y:List CV):∃ H b,(h.new (.cells x)).new (.cells y)=H∧(h.new (.cells x)).next=b∧Ext h H∧H.get h.next=some (.cells x)∧H.get b=some (.cells y)∧H.next=h.next + 2∧b=h.next + 1 :=
 ⟨_,_,rfl,rfl,((Ext.refl h).new _).new _,(zcp (Nat.lt_succ_self _)).trans zbz,zbz,rfl,rfl⟩
theorem zze {a b:ResM} {ac bc:CV} {h:Heap} (ha:Bytes h ac a.rd) (hb:Bytes h bc b.rd):∃ h',evCallO OS table N (d + 1) 100 [.agg (zce a ac),.agg (zce b bc)] h=some (.c (.bool (zia a b)),h')∧Ext h h':=by
 obtain ⟨H,q,hH,hq,e1,g1,g2,_,_⟩:=zw2 h (zce a ac) (zce b bc)
 have a0:H.read h.next 0 1=some [.int .i64 a.code]:=zah g1 rfl
 have a1:H.read h.next 1 1=some [.int .i64 a.rp]:=zah g1 rfl
 have a2:H.read h.next 2 1=some [.int .i64 a.rh]:=zah g1 rfl
 have a3:H.read h.next 3 1=some [ac]:=zah g1 rfl
 have b0:H.read q 0 1=some [.int .i64 b.code]:=zah g2 rfl
 have b1:H.read q 1 1=some [.int .i64 b.rp]:=zah g2 rfl
 have b2:H.read q 2 1=some [.int .i64 b.rh]:=zah g2 rfl
 have b3:H.read q 3 1=some [bc]:=zah g2 rfl
 have s1:∀ loc vals,zao loc (.c ac :: vals) H (.b2s (.val 0))=some (.c (.str (strOf a.rd))):=fun _ _=>(ha.ext e1).b2s
 have s2:∀ loc vals,zao loc (.c bc :: vals) H (.b2s (.val 0))=some (.c (.str (strOf b.rd))):=fun _ _=>(hb.ext e1).b2s
 have k3:=zlg a.rd b.rd
 rw [zbi (F:=ir100) rfl rfl rfl]
 unfold ir100 zia
 rw [zbp]
 cases k0:(a.code == b.code)<;>cases k1:(a.rp == b.rp)<;>cases k2:(a.rh == b.rh) <;>
  simp only [za9,zap,zac,zas,zbl,zad,zaj,zaa,zau,zae,zbn,zaf,zar,zax,zbq,zba,za4,zk6,zaz,za1,za6,zbe,zbf,zag,za7,X.eval,zal,zai,List.map_cons,List.map_nil,List.getD_cons_zero,List.getD_cons_succ,List.getD_nil,List.set_cons_zero,List.set_cons_succ,zay,zaq,zab,zak,intArith,shift,cond_true,cond_false,BEq.rfl,AV.cells,AV.ofCells,Nat.zero_add,Nat.add_zero,Bool.and_false,Bool.true_and,Bool.false_and,ft,hH,hq,za0,za3,za8,AV.ofCells,a0,a1,a2,a3,b0,b1,b2,b3,s1,s2,k0,k1,k2,k3,zbk,RV.eval]<;>exact ⟨_,rfl,e1⟩
def zc9 (s:MS) (e:Ev):Bool × MS :=
 if e.en > 0∧zkj e.op.kd e.rs.code=true then (e.rs.rp == 0 && (e.rs.rh == 0 && e.rs.rd.length == 0),s)
 else (e.en == 0 || zia (doF s e.cl.toNat e.op).1 e.rs,(doF s e.cl.toNat e.op).2)
def Ev.may (e:Ev) (clients:Nat):Prop:=0≤e.cl∧e.cl < (clients:Int)∧1≤e.op.kd∧e.op.kd≤8
theorem step_ok {e:Ev} {dc rc:CV} (S:SR h x z s) (hm:e.may s.hs.length) (hd:Bytes h dc e.op.data) (hr:Bytes h rc e.rs.rd) (hrn:∀ k,blk rc=some k→k ∉ z.own) (hN:60≤N) :
  ∃ h',evCallO OS table N (d + 4) 76 [.agg x,.agg (evC e dc rc)] h=some (.c (.bool (zc9 s e).1),h')∧SR h' x z (zc9 s e).2∧ExtB z.own h h':=by
 obtain ⟨H,b,hH,hb,e1,g1,g2,n2,nb⟩:=zw2 h x (evC e dc rc)
 have SH:=S.ext e1
 have rx:H.read h.next 0 3=some x:=by rw [zcd g1 (by rw [S.len3];omega),List.drop_zero,List.take_of_length_le (by rw [S.len3];omega)]
 have r0:H.read b 0 1=some [.int .i64 e.cl]:=zah g2 rfl
 have r1:H.read b 1 6=some (opC e.op dc):=by rw [zcd g2 (by rw [zdc];omega)];rfl
 have r7:H.read b 7 1=some [.int .i64 e.rs.code]:=zah g2 rfl
 have r8:H.read b 8 1=some [.int .i64 e.rs.rp]:=zah g2 rfl
 have r9:H.read b 9 1=some [.int .i64 e.rs.rh]:=zah g2 rfl
 have r10:H.read b 10 1=some [rc]:=zah g2 rfl
 have r13:H.read b 13 1=some [.int .i64 e.en]:=zah g2 rfl
 have lw:∀ loc vals H,zao loc (.c rc :: vals) H (.len .sl (.val 0))=some (.c (.int .i64 (e.rs.rd.length:Int))):=fun _ _ _=>hr.len rfl
 obtain ⟨H1,f1,x1⟩:=zu2 (N:=N) (d:=d + 2) e.op dc e.rs.code H
 obtain ⟨m1,m2,m3,m4⟩:=hm
 by_cases c1:e.en > 0∧zkj e.op.kd e.rs.code=true
 ·have v1:decide (e.en > 0)=true:=decide_eq_true c1.1
  have hf:zc9 s e=(e.rs.rp == 0 && (e.rs.rh == 0 && e.rs.rd.length == 0),s):=by unfold zc9;rw [if_pos c1]
  rw [c1.2] at f1
  have y1:H1.read b 8 1=some [.int .i64 e.rs.rp]:=(x1.read (by omega)).trans r8
  have y2:H1.read b 9 1=some [.int .i64 e.rs.rh]:=(x1.read (by omega)).trans r9
  have y3:H1.read b 10 1=some [rc]:=(x1.read (by omega)).trans r10
  have k3:((e.rs.rd.length:Int) == 0)=(e.rs.rd.length == 0):=by
   rw [Bool.eq_iff_iff];simp
  rw [hf,zbi (F:=ir76) rfl rfl rfl]
  unfold ir76
  rw [zbp]
  cases k1:(e.rs.rp == 0)<;>cases k2:(e.rs.rh == 0) <;>
   simp only [za9,zap,zac,zbx,zas,zat,zav,zbl,zad,zaj,zaa,zau,zae,zbn,zaf,zar,zax,zbq,zba,zbg,za4,zbd,zbb,zaz,za1,za6,zbe,zbf,zag,za7,X.eval,zal,zai,List.map_cons,List.map_nil,List.getD_cons_zero,List.getD_cons_succ,List.getD_nil,List.set_cons_zero,List.set_cons_succ,zay,zaq,zab,zak,intArith,shift,cond_true,cond_false,BEq.rfl,AV.cells,AV.ofCells,Nat.zero_add,Nat.add_zero,Nat.reduceAdd,Bool.and_false,Bool.true_and,Bool.false_and,Int.reduceLT,decide_false,ft,hH,hb,za0,za3,za8,AV.ofCells,r1,r7,r13,v1,f1,y1,y2,y3,lw,k1,k2,k3,zbk,RV.eval]<;>exact ⟨_,rfl,(SH.ext x1),(e1.trans x1).b _⟩
 ·have hf:zc9 s e=(e.en == 0 || zia (doF s e.cl.toNat e.op).1 e.rs,(doF s e.cl.toNat e.op).2):=by unfold zc9;rw [if_neg c1]
  obtain ⟨c,hc⟩:=Int.eq_ofNat_of_zero_le m1
  have hcl:c < s.hs.length:=by omega
  have ec:e.cl.toNat=c:=by rw [hc];rfl
  rw [ec] at hf
  have main:∀ G,Ext H G→∃ rc2 h',evCallO OS table N (d + 3) 99 [.agg x,.c (.int .i64 e.cl),.agg (opC e.op dc)] G=some (.agg (zce (doF s c e.op).1 rc2),h')∧Bytes h' rc2 (doF s c e.op).1.rd∧SR h' x z (doF s c e.op).2∧ExtB z.own G h':=by
   intro G xG
   rw [hc]
   exact zyc (N:=N) (d:=d) (SH.ext xG) hcl ⟨m3,m4⟩ (hd.ext (e1.trans xG)) hN
  have rest:∀ G,Ext H G→∃ rc2 H2 H3 H4,evCallO OS table N (d + 3) 99 [.agg x,.c (.int .i64 e.cl),.agg (opC e.op dc)] G=some (.agg (zce (doF s c e.op).1 rc2),H2) ∧
    (H2.new (.cells [.int .i64 0,.int .i64 0,.int .i64 0,.nils])).write H2.next 0 (zce (doF s c e.op).1 rc2)=some H3∧H3.read b 13 1=some [.int .i64 e.en]∧H3.read H2.next 0 4=some (zce (doF s c e.op).1 rc2)∧H3.read b 7 4=some (zce e.rs rc) ∧
    evCallO OS table N (d + 3) 100 [.agg (zce (doF s c e.op).1 rc2),.agg (zce e.rs rc)] H3=some (.c (.bool (zia (doF s c e.op).1 e.rs)),H4)∧SR H3 x z (doF s c e.op).2∧ExtB z.own h H3∧SR H4 x z (doF s c e.op).2∧ExtB z.own h H4:=by
   intro G xG
   obtain ⟨rc2,H2,f2,y2,S2,x2⟩:=main G xG
   obtain ⟨H3,w3,g3,x3,n3⟩:=ze1 (h:=H2) (z:=[.int .i64 0,.int .i64 0,.int .i64 0,.nils]) (v:=zce (doF s c e.op).1 rc2) rfl
   have gb:G.get b=some (.cells (evC e dc rc)):=xG.at_ g2 (by omega)
   have lo:=S.lt
   have gb2:H2.get b=some (.cells (evC e dc rc)):=x2.at_ gb (by have:=xG.1;omega) (fun hm=>by have:=lo b hm;omega)
   have l2:b < H2.next:=by have:=xG.1;have:=x2.1;omega
   have gb3:=x3.at_ gb2 l2
   have e2:ExtB z.own h H2:=((e1.trans xG).b _).trans x2
   have e3:ExtB z.own h H3:=e2.trans (x3.b _)
   obtain ⟨H4,f4,x4⟩:=zze (N:=N) (d:=d + 2) (y2.ext x3) (hr.extB e3 hrn)
   refine ⟨rc2,H2,H3,H4,f2,w3,zah gb3 rfl,?_,?_,f4,S2.ext x3,e3,(S2.ext x3).ext x4,e3.trans (x4.b _)⟩
   ·rw [zcd g3 (by simp [zce])];rfl
   ·rw [zcd gb3 (by rw [zdc];omega)];rfl
  by_cases c2:e.en > 0
  ·have v1:decide (e.en > 0)=true:=decide_eq_true c2
   have v2:(e.en == 0)=false:=by simp only [beq_eq_false_iff_ne,ne_eq];omega
   have vb:zkj e.op.kd e.rs.code=false:=by
    cases hb2:zkj e.op.kd e.rs.code with
    | false=>rfl
    | true=>exact absurd ⟨c2,hb2⟩ c1
   rw [vb] at f1
   obtain ⟨rc2,H2,H3,H4,f2,w3,p1,p2,p3,f4,S3,e3,S4,e4⟩:=rest H1 x1
   have q0:H1.read b 0 1=some [.int .i64 e.cl]:=(x1.read (by omega)).trans r0
   have q1:H1.read b 1 6=some (opC e.op dc):=(x1.read (by omega)).trans r1
   have qx:H1.read h.next 0 3=some x:=(x1.read (by omega)).trans rx
   rw [hf,zbi (F:=ir76) rfl rfl rfl]
   unfold ir76
   rw [zbp]
   simp only [za9,zap,zac,zas,zat,zam,za5,zbl,zad,zaj,zaa,zau,zae,zaf,zar,zax,zbq,zba,za4,zbd,zbo,zbb,zco,zc8,zaz,za1,za6,zbe,zbf,zag,za7,X.eval,zal,zai,List.map_cons,List.map_nil,List.getD_cons_zero,List.getD_cons_succ,List.getD_nil,List.set_cons_zero,List.set_cons_succ,zay,zaq,zab,zak,intArith,shift,cond_true,cond_false,BEq.rfl,AV.cells,AV.ofCells,Nat.zero_add,Nat.add_zero,Int.reduceLT,decide_false,hH,hb,za0,za3,za8,AV.ofCells,r1,r7,r13,v1,f1,q0,q1,qx,f2,zbj,zmq,w3,p1,v2,p2,p3,f4]
   exact ⟨H4,rfl,S4,e4⟩
  ·have v1:decide (e.en > 0)=false:=decide_eq_false c2
   obtain ⟨rc2,H2,H3,H4,f2,w3,p1,p2,p3,f4,S3,e3,S4,e4⟩:=rest H (Ext.refl H)
   rw [hf,zbi (F:=ir76) rfl rfl rfl]
   unfold ir76
   rw [zbp]
   by_cases c3:e.en=0
   ·have v2:(e.en == 0)=true:=by simp [c3]
    simp only [za9,zap,zac,zas,zat,zam,za5,zbl,zad,zaj,zaa,zau,zae,zbn,zaf,zar,zax,zbq,zba,za4,zbd,zbo,zbb,zco,zc8,zaz,za1,za6,zbe,zbf,zag,za7,X.eval,zal,zai,List.map_cons,List.map_nil,List.getD_cons_zero,List.getD_cons_succ,List.getD_nil,List.set_cons_zero,List.set_cons_succ,zay,zaq,zab,zak,intArith,shift,cond_true,cond_false,BEq.rfl,AV.cells,AV.ofCells,Nat.zero_add,Nat.add_zero,Int.reduceLT,decide_false,tf,ft,hH,hb,za0,za3,za8,AV.ofCells,r0,r1,r13,rx,v1,f2,zbj,zmq,w3,p1,v2,Bool.true_or]
    exact ⟨H3,rfl,S3,e3⟩
   ·have v2:(e.en == 0)=false:=by simp [c3]
    simp only [za9,zap,zac,zas,zat,zam,za5,zbl,zad,zaj,zaa,zau,zae,zbn,zaf,zar,zax,zbq,zba,za4,zbd,zbo,zbb,zco,zc8,zaz,za1,za6,zbe,zbf,zag,za7,X.eval,zal,zai,List.map_cons,List.map_nil,List.getD_cons_zero,List.getD_cons_succ,List.getD_nil,List.set_cons_zero,List.set_cons_succ,zay,zaq,zab,zak,intArith,shift,cond_true,cond_false,BEq.rfl,AV.cells,AV.ofCells,Nat.zero_add,Nat.add_zero,Int.reduceLT,decide_false,ft,hH,hb,za0,za3,za8,AV.ofCells,r0,r1,r13,rx,v1,f2,zbj,zmq,w3,p1,v2,p2,p3,f4,Bool.false_or]
    exact ⟨H4,rfl,S4,e4⟩
def zib (s:MS) (e:Ev):MS:=if e.en=0∨zkj e.op.kd e.rs.code=false then (doF s e.cl.toNat e.op).2 else s
theorem zw3 {e:Ev} {dc rc:CV} (S:SR h x z s) (hm:e.may s.hs.length) (hd:Bytes h dc e.op.data) (hN:60≤N) :
  ∃ h',evCallO OS table N (d + 4) 96 [.agg x,.agg (evC e dc rc)] h=some (.tup [],h')∧SR h' x z (zib s e)∧ExtB z.own h h':=by
 obtain ⟨H,b,hH,hb,e1,g1,g2,n2,nb⟩:=zw2 h x (evC e dc rc)
 have SH:=S.ext e1
 have rx:H.read h.next 0 3=some x:=by rw [zcd g1 (by rw [S.len3];omega),List.drop_zero,List.take_of_length_le (by rw [S.len3];omega)]
 have r0:H.read b 0 1=some [.int .i64 e.cl]:=zah g2 rfl
 have r1:H.read b 1 6=some (opC e.op dc):=by rw [zcd g2 (by rw [zdc];omega)];rfl
 have r7:H.read b 7 1=some [.int .i64 e.rs.code]:=zah g2 rfl
 have r13:H.read b 13 1=some [.int .i64 e.en]:=zah g2 rfl
 obtain ⟨H1,f1,x1⟩:=zu2 (N:=N) (d:=d + 2) e.op dc e.rs.code H
 obtain ⟨m1,m2,m3,m4⟩:=hm
 obtain ⟨c,hc⟩:=Int.eq_ofNat_of_zero_le m1
 have hcl:c < s.hs.length:=by omega
 have ec:e.cl.toNat=c:=by rw [hc];rfl
 have main:∀ G,Ext H G→∃ rc2 h',evCallO OS table N (d + 3) 99 [.agg x,.c (.int .i64 e.cl),.agg (opC e.op dc)] G=some (.agg (zce (doF s c e.op).1 rc2),h')∧Bytes h' rc2 (doF s c e.op).1.rd∧SR h' x z (doF s c e.op).2∧ExtB z.own G h':=by
  intro G xG
  rw [hc]
  exact zyc (N:=N) (d:=d) (SH.ext xG) hcl ⟨m3,m4⟩ (hd.ext (e1.trans xG)) hN
 have q0:H1.read b 0 1=some [.int .i64 e.cl]:=(x1.read (by omega)).trans r0
 have q1:H1.read b 1 6=some (opC e.op dc):=(x1.read (by omega)).trans r1
 have qx:H1.read h.next 0 3=some x:=(x1.read (by omega)).trans rx
 unfold zib
 rw [ec,zbi (F:=ir96) rfl rfl rfl]
 unfold ir96
 rw [zbp]
 by_cases c1:e.en=0
 ·have v1:(e.en == 0)=true:=by simp [c1]
  rw [if_pos (.inl c1)]
  obtain ⟨rc2,H2,f2,_,S2,x2⟩:=main H (Ext.refl H)
  simp only [za9,zap,zac,zas,zat,zav,zad,zaj,zaa,zau,zae,zbn,zaf,zar,zax,zbq,zba,za4,zbd,zbb,zjb,za1,za6,zbe,zbf,zag,za7,X.eval,zal,zai,List.map_cons,List.map_nil,List.getD_cons_zero,List.getD_cons_succ,List.getD_nil,List.set_cons_zero,List.set_cons_succ,zay,zaq,zab,zak,intArith,shift,cond_true,cond_false,BEq.rfl,AV.cells,AV.ofCells,Nat.zero_add,Nat.add_zero,Int.reduceLT,decide_false,tf,hH,hb,za0,za3,za8,AV.ofCells,r0,r1,r13,rx,v1,f2,zbk,zcb]
  exact ⟨H2,rfl,S2,(e1.b _).trans x2⟩
 ·have v1:(e.en == 0)=false:=by simp [c1]
  cases vb:zkj e.op.kd e.rs.code with
  | true =>
   rw [if_neg (by simp [c1])]
   rw [vb] at f1
   simp only [za9,zap,zac,zas,zat,zam,za5,zad,zaj,zaa,zau,zae,zaf,zar,zax,zbq,zba,zdq,za4,zbd,zbb,zjb,za1,za6,zbe,zee,zbf,zag,za7,X.eval,zal,zai,List.map_cons,List.map_nil,List.getD_cons_zero,List.getD_cons_succ,List.getD_nil,List.set_cons_zero,List.set_cons_succ,zay,zdk,zaq,zab,zak,intArith,shift,cond_true,cond_false,BEq.rfl,AV.cells,AV.ofCells,Nat.zero_add,Nat.add_zero,Bool.not_true,Int.reduceLT,decide_false,hH,hb,za0,za3,za8,AV.ofCells,r1,r7,r13,v1,f1,zbk,zcb]
   exact ⟨H1,rfl,SH.ext x1,(e1.trans x1).b _⟩
  | false =>
   rw [if_pos (.inr rfl)]
   rw [vb] at f1
   obtain ⟨rc2,H2,f2,_,S2,x2⟩:=main H1 x1
   simp only [za9,zap,zac,zas,zat,zav,zad,zaj,zaa,zau,zae,zaf,zar,zax,zbq,zba,zdq,za4,zbd,zbb,zjb,za1,za6,zbe,zee,zbf,zag,za7,X.eval,zal,zai,List.map_cons,List.map_nil,List.getD_cons_zero,List.getD_cons_succ,List.getD_nil,List.set_cons_zero,List.set_cons_succ,zay,zdk,zaq,zab,zak,intArith,shift,cond_true,cond_false,BEq.rfl,AV.cells,AV.ofCells,Nat.zero_add,Nat.add_zero,Bool.not_false,Int.reduceLT,decide_false,hH,hb,za0,za3,za8,AV.ofCells,r1,r7,r13,q0,q1,qx,v1,f1,f2,zbk,zcb]
   exact ⟨H2,rfl,S2,((e1.trans x1).b _).trans x2⟩
end
end Lav
set_option maxRecDepth 100000
namespace Lav
open Go (IntKind)
def Evs (h:Heap) (y:CV) (l:List Ev):Prop:=(y = .nils∧l=[])∨∃ b c,y = .sl b 0 l.length c∧b < h.next ∧
 ∀ i e,l[i]? = some e→∃ dc rc,h.read b (i * 14) 14=some (evC e dc rc)∧Bytes h dc e.op.data∧Bytes h rc e.rs.rd
theorem zrv {h:Heap} {y:CV} {bs:List (BitVec 8)} (hx:Bytes h y bs):∀ k,blk y=some k→k < h.next:=by
 intro k hk
 rcases hx with ⟨rfl,_⟩ | ⟨i,o,c,rfl,h2,_⟩
 ·cases hk
 ·simp [blk] at hk;omega
theorem Evs.ext {h h':Heap} {y:CV} {l:List Ev} (E:Evs h y l) (e:Ext h h'):Evs h' y l:=by
 rcases E with h1 | ⟨b,c,rfl,hb,hr⟩
 ·exact .inl h1
 ·refine .inr ⟨b,c,rfl,Nat.lt_of_lt_of_le hb e.1,fun i v hv=>?_⟩
  obtain ⟨dc,rc,h1,h2,h3⟩:=hr i v hv
  exact ⟨dc,rc,(e.read hb).trans h1,h2.ext e,h3.ext e⟩
theorem Evs.len {h h0:Heap} {y:CV} {l:List Ev} (E:Evs h0 y l) {loc vals:List AV}:zao loc (.c y :: vals) h (.len .sl (.val 0))=some (.c (.int .i64 (l.length:Int))):=by
 rcases E with ⟨rfl,rfl⟩ | ⟨b,c,rfl,_⟩<;>rfl
theorem Evs.sl {h:Heap} {y:CV} {l:List Ev} (E:Evs h y l) (hn:0 < l.length):∃ b c,y = .sl b 0 l.length c∧b < h.next ∧
  ∀ i e,l[i]? = some e→∃ dc rc,h.read b (i * 14) 14=some (evC e dc rc)∧Bytes h dc e.op.data∧Bytes h rc e.rs.rd:=by
 rcases E with ⟨_,rfl⟩ | h1
 ·simp at hn
 ·exact h1
structure EvN (h:Heap) (b i:Nat) (e:Ev):Prop where
 cl:h.read b (i * 14) 1=some [.int .i64 e.cl]
 bg:h.read b (i * 14 + 11) 1=some [.int .i64 e.bg]
 st:h.read b (i * 14 + 12) 1=some [.int .i64 e.st]
 en:h.read b (i * 14 + 13) 1=some [.int .i64 e.en]
 code:h.read b (i * 14 + 7) 1=some [.int .i64 e.rs.code]
 kd:h.read b (i * 14 + 1) 1=some [.int .i64 e.op.kd]
 hd:h.read b (i * 14 + 3) 1=some [.int .i64 e.op.hd]
theorem evN {h:Heap} {b i:Nat} {e:Ev} {dc rc:CV} (hr:h.read b (i * 14) 14=some (evC e dc rc)):EvN h b i e :=
 ⟨zfh (b:=0) (c:=1) hr (by omega),zfh (b:=11) (c:=1) hr (by omega),zfh (b:=12) (c:=1) hr (by omega),zfh (b:=13) (c:=1) hr (by omega),zfh (b:=7) (c:=1) hr (by omega),zfh (b:=1) (c:=1) hr (by omega),zfh (b:=3) (c:=1) hr (by omega)⟩
structure AloneP (l:List Ev) (i:Nat) (e:Ev) (n:Int):Prop where
 c0:0≤e.cl
 c1:e.cl < n
 b0:0 < e.bg
 b1:∀ p f,i=p + 1→l[p]? = some f→f.bg≤e.bg
 s1:0 < e.en→e.bg≤e.st∧e.st≤e.en
 s0 : ¬ 0 < e.en→e.en=0∧(e.st=0∨e.bg≤e.st)
 k1:∀ k f,k < i→l[k]? = some f→f.cl=e.cl→0 < f.en∧f.en < e.bg
section
variable {N d:Nat} {h:Heap} {y:CV} {l:List Ev}
theorem zw4 (E:Evs h y l) {i:Nat} {e:Ev} {n:Int} (he:l[i]? = some e) (A:AloneP l i e n) (hs:l.length≤1000) (hN:1010≤N) :
  ∃ h',evCallO OS table N (d + 1) 74 [.c y,.c (.int .i64 (i:Int)),.c (.int .i64 n)] h=some (.c (.bool true),h')∧Ext h h':=by
 obtain ⟨hi,hie⟩:=List.getElem?_eq_some_iff.1 he
 obtain ⟨b,c,rfl,hb,hr⟩:=E.sl (by omega)
 obtain ⟨dc,rc,hrd,_,_⟩:=hr i e he
 obtain ⟨H,w,g1,e1,n1⟩:=ze1 (h:=h) (z:=[.int .i64 0,.int .i64 0,.int .i64 0,.int .i64 0,.int .i64 0,.int .i64 0,.nils,.int .i64 0,.int .i64 0,.int .i64 0,.nils,.int .i64 0,.int .i64 0,.int .i64 0]) (v:=evC e dc rc) rfl
 have a0:H.read h.next 0 1=some [.int .i64 e.cl]:=zah g1 rfl
 have a11:H.read h.next 11 1=some [.int .i64 e.bg]:=zah g1 rfl
 have a12:H.read h.next 12 1=some [.int .i64 e.st]:=zah g1 rfl
 have a13:H.read h.next 13 1=some [.int .i64 e.en]:=zah g1 rfl
 have m1:Nat.blt i l.length=true:=zc0 hi
 have v1:decide (e.cl < 0)=false:=decide_eq_false (by have:=A.c0;omega)
 have v2:decide (e.cl ≥ n)=false:=decide_eq_false (by have:=A.c1;omega)
 have v3:decide (e.bg≤0)=false:=decide_eq_false (by have:=A.b0;omega)
 have hx:(h.new (.cells [.int .i64 0,.int .i64 0,.int .i64 0,.int .i64 0,.int .i64 0,.int .i64 0,.nils,.int .i64 0,.int .i64 0,.int .i64 0,.nils,.int .i64 0,.int .i64 0,.int .i64 0])).write h.next 0 (evC e dc rc)=some H:=w
 have read_old:∀ {o n'},H.read b o n'=h.read b o n':=fun {o n'}=>e1.read hb
 have evk:∀ k f,l[k]? = some f→EvN H b k f:=fun k f hf=>by
  obtain ⟨dc',rc',h1,_,_⟩:=hr k f hf
  exact evN (read_old.trans h1)
 have L:∀ loc,zbv ir74_k0 loc=[.c (.sl b 0 l.length c),.c (.int .i64 (i:Int)),.junk,.junk,.c (.ptr h.next 0),.c (.int .i64 0),.junk,.junk,.junk,.junk,.junk,.junk] →
   ∃ r,zcr (evCallO OS table N d) N ir74_k0 ir74_l0 N loc H=some r∧∃ p1 p2 p3 p4 l',r=(.exit 0,p1 :: p2 :: p3 :: p4 :: l',H):=by
  intro loc hloc
  refine zcl (n:=i) (fun k loc G=>G=H∧loc=[.c (.sl b 0 l.length c),.c (.int .i64 (i:Int)),.junk,.junk,.c (.ptr h.next 0),.c (.int .i64 (k:Int)),.junk,.junk,.junk,.junk,.junk,.junk]) _ ?_ ⟨rfl,hloc⟩ (by omega)
  rintro k loc G hk ⟨rfl,rfl⟩
  unfold ir74_l0
  by_cases hlt:k < i
  ·left
   have t1:=ze6 hlt
   have t2:=zdm (i:=k) (by omega)
   have m2:Nat.blt k l.length=true:=zc0 (by omega)
   obtain ⟨f,hf⟩ : ∃ f,l[k]? = some f:=⟨l[k]'(by omega),by simp⟩
   have ev:=evk k f hf
   have q0:=ev.cl
   have q13:=ev.en
   cases t3:(f.cl == e.cl) with
   | false =>
    simp only [zap,zac,zas,zat,zav,zam,za2,zbm,za5,zad,zaj,zaa,zau,zae,zaf,zar,zax,za6,zbe,zag,X.eval,zal,zai,List.getD_cons_zero,List.getD_cons_succ,List.set_cons_zero,List.set_cons_succ,zay,zaq,zab,zak,intArith,shift,zbc,cond_true,cond_false,BEq.rfl,AV.ofCells,List.nil_append,List.cons_append,Nat.zero_add,Nat.add_zero,Nat.reduceAdd,Int.reduceLT,decide_false,ft,zc3,zch,zb6,zb5,zb7,zd0,ze5,zfk,zdo,zec,zcs,zct,zc4,zde,zd7,List.reverse_cons,List.reverse_nil,zdj,zhq,zhr,zgf,zgg,zg5,zs4,t1,zbr,za3,za8,AV.ofCells,m2,q0,a0,t3,t2]
    exact ⟨hlt,_,_,rfl,rfl,rfl⟩
   | true =>
    obtain ⟨z1,z2⟩:=A.k1 k f hlt hf (by simpa using t3)
    have t4:decide (f.en≤0)=false:=decide_eq_false (by omega)
    have t5:decide (f.en ≥ e.bg)=false:=decide_eq_false (by omega)
    simp only [zap,zac,zas,zat,zav,zam,za2,zbm,za5,zad,zaj,zaa,zau,zae,zaf,zar,zax,za6,zbe,zag,X.eval,zal,zai,List.getD_cons_zero,List.getD_cons_succ,List.set_cons_zero,List.set_cons_succ,zay,zaq,zab,zak,intArith,shift,zbc,cond_true,cond_false,BEq.rfl,AV.ofCells,List.nil_append,List.cons_append,Nat.zero_add,Nat.add_zero,Nat.reduceAdd,Int.reduceLT,decide_false,zc3,zch,zb6,zb5,zb7,zd0,ze5,zfk,zdo,zec,zcs,zct,zc4,zde,zd7,List.reverse_cons,List.reverse_nil,zdj,t1,zbr,za3,za8,AV.ofCells,m2,q0,a0,t3,q13,t4,a11,t5,t2]
    exact ⟨hlt,_,_,rfl,rfl,rfl⟩
  ·right
   have:k=i:=by omega
   subst this
   have t1:decide ((k:Int) < (k:Int))=false:=zfg (Nat.le_refl _)
   simp only [zap,zac,zb2,zas,zat,zam,zcf,zad,zaj,zaa,zae,zaf,zar,zax,za6,zag,X.eval,zal,zai,List.getD_cons_zero,List.getD_cons_succ,List.set_cons_zero,List.set_cons_succ,zay,zaq,zab,zak,intArith,shift,cond_true,cond_false,BEq.rfl,t1]
   exact ⟨_,rfl,by simp,_,_,_,_,_,rfl⟩
 obtain ⟨r,⟨p1,p2,p3,p4,l',rfl⟩,hr2⟩:=zcn L rfl
 rw [zbi (F:=ir74) rfl rfl rfl]
 unfold ir74
 rw [zbp]
 by_cases ci:i=0
 ·subst ci
  have v4:decide (((0:Nat):Int) > 0)=false:=rfl
  by_cases ce:0 < e.en
  ·have t1:decide (e.en > 0)=true:=decide_eq_true ce
   obtain ⟨z1,z2⟩:=A.s1 ce
   have t2:decide (e.st < e.bg)=false:=decide_eq_false (by omega)
   have t3:decide (e.st > e.en)=false:=decide_eq_false (by omega)
   simp only [za9,zap,zac,zas,zat,zav,zam,za2,zb9,za5,zad,zaj,zaa,zau,zae,zaf,zar,zax,zbq,zba,za4,zbt,zbo,za6,zbe,zbf,zag,za7,X.eval,zal,zai,List.map_cons,List.map_nil,List.getD_cons_zero,List.getD_cons_succ,List.getD_nil,List.set_cons_zero,List.set_cons_succ,zay,zaq,zab,zak,intArith,shift,zbc,cond_true,cond_false,BEq.rfl,AV.cells,AV.ofCells,List.nil_append,List.cons_append,Nat.zero_add,Nat.add_zero,Nat.reduceAdd,Nat.reduceMul,Int.reduceLT,decide_false,ft,zc3,zch,zb6,zb5,zb7,zd0,ze5,zfk,zdo,zcs,zct,zc4,zde,zd7,List.reverse_cons,List.reverse_nil,zdj,zhq,zhr,zgf,zgg,zg5,zbr,za0,za3,za8,AV.ofCells,m1,hrd,zbj,zdc,hx,a0,a11,v1,v2,v3,v4,a13,t1,a12,t2,t3]
   rw [hr2 _ rfl]
   simp only [zap,zac,zas,zbu,zbl,zad,zaj,zaa,zae,zaf,zar,zaz,za1,X.eval,zai,List.getD_cons_zero,List.getD_cons_succ,List.set_cons_zero,List.set_cons_succ,cond_true,BEq.rfl,zbk,RV.eval]
   exact ⟨H,rfl,e1⟩
  ·have t1:decide (e.en > 0)=false:=decide_eq_false ce
   obtain ⟨z1,z2⟩:=A.s0 ce
   have t2:decide (e.en < 0)=false:=decide_eq_false (by omega)
   by_cases cs:e.st=0
   ·have t3:(e.st == 0)=true:=by simp [cs]
    simp only [za9,zap,zac,zas,zat,zam,za2,zb9,za5,zad,zaj,zaa,zau,zae,zbn,zaf,zar,zax,zbq,zba,za4,zbt,zbo,za6,zbe,zbf,zag,za7,X.eval,zal,zai,List.map_cons,List.map_nil,List.getD_cons_zero,List.getD_cons_succ,List.getD_nil,List.set_cons_zero,List.set_cons_succ,zay,zaq,zab,zak,intArith,shift,zbc,cond_true,cond_false,BEq.rfl,AV.cells,AV.ofCells,List.nil_append,List.cons_append,Nat.zero_add,Nat.add_zero,Nat.reduceAdd,Nat.reduceMul,Bool.not_true,Int.reduceLT,decide_false,ft,zc3,zch,zb6,zb5,zb7,zd0,ze5,zfk,zdo,zcs,zct,zc4,zde,zd7,List.reverse_cons,List.reverse_nil,zdj,zhq,zhr,zgf,zgg,zg5,zbr,za0,za3,za8,AV.ofCells,m1,hrd,zbj,zdc,hx,a0,a11,v1,v2,v3,v4,a13,t1,t2,a12,zen,t3]
    rw [hr2 _ rfl]
    simp only [zap,zac,zas,zbu,zbl,zad,zaj,zaa,zae,zaf,zar,zaz,za1,X.eval,zai,List.getD_cons_zero,List.getD_cons_succ,List.set_cons_zero,List.set_cons_succ,cond_true,BEq.rfl,zbk,RV.eval]
    exact ⟨H,rfl,e1⟩
   ·have t3:(e.st == 0)=false:=by simp [cs]
    have t4:decide (e.st < e.bg)=false:=decide_eq_false (by rcases z2 with z2 | z2;exact absurd z2 cs;omega)
    simp only [za9,zap,zac,zas,zat,zam,za2,zb9,za5,zad,zaj,zaa,zau,zae,zaf,zar,zax,zbq,zba,za4,zbt,zbo,za6,zbe,zbf,zag,za7,X.eval,zal,zai,List.map_cons,List.map_nil,List.getD_cons_zero,List.getD_cons_succ,List.getD_nil,List.set_cons_zero,List.set_cons_succ,zay,zaq,zab,zak,intArith,shift,zbc,cond_true,cond_false,BEq.rfl,AV.cells,AV.ofCells,List.nil_append,List.cons_append,Nat.zero_add,Nat.add_zero,Nat.reduceAdd,Nat.reduceMul,Bool.not_false,Int.reduceLT,decide_false,ft,zc3,zch,zb6,zb5,zb7,zd0,ze5,zfk,zdo,zcs,zct,zc4,zde,zd7,List.reverse_cons,List.reverse_nil,zdj,zhq,zhr,zgf,zgg,zg5,zbr,za0,za3,za8,AV.ofCells,m1,hrd,zbj,zdc,hx,a0,a11,v1,v2,v3,v4,a13,t1,t2,a12,zen,t3,t4]
    rw [hr2 _ rfl]
    simp only [zap,zac,zas,zbu,zbl,zad,zaj,zaa,zae,zaf,zar,zaz,za1,X.eval,zai,List.getD_cons_zero,List.getD_cons_succ,List.set_cons_zero,List.set_cons_succ,cond_true,BEq.rfl,zbk,RV.eval]
    exact ⟨H,rfl,e1⟩
 ·obtain ⟨p,rfl⟩ : ∃ p,i=p + 1:=⟨i - 1,by omega⟩
  obtain ⟨f,hf⟩ : ∃ f,l[p]? = some f:=⟨l[p]'(by omega),by simp⟩
  have ev:=evk p f hf
  have q11:=ev.bg
  have m3:Nat.blt p l.length=true:=zc0 (by omega)
  have v4:decide (((p + 1:Nat):Int) > 0)=true:=decide_eq_true (by omega)
  have v5:IntKind.i64.wrap (((p + 1:Nat):Int) - 1)=(p:Int):=by rw [zf7 (by omega) (by omega)];omega
  have v6:decide (e.bg < f.bg)=false:=decide_eq_false (by have:=A.b1 p f rfl hf;omega)
  by_cases ce:0 < e.en
  ·have t1:decide (e.en > 0)=true:=decide_eq_true ce
   obtain ⟨z1,z2⟩:=A.s1 ce
   have t2:decide (e.st < e.bg)=false:=decide_eq_false (by omega)
   have t3:decide (e.st > e.en)=false:=decide_eq_false (by omega)
   simp only [za9,zap,zac,zas,zat,zav,zam,za2,zb9,za5,zad,zaj,zaa,zau,zae,zaf,zar,zax,zbq,zba,za4,zbt,zbo,za6,zbe,zbf,zag,za7,X.eval,zal,zai,List.map_cons,List.map_nil,List.getD_cons_zero,List.getD_cons_succ,List.getD_nil,List.set_cons_zero,List.set_cons_succ,zay,zaq,zab,zak,intArith,shift,zbc,cond_true,cond_false,BEq.rfl,AV.cells,AV.ofCells,List.nil_append,List.cons_append,Nat.zero_add,Nat.add_zero,Nat.reduceAdd,Int.reduceLT,decide_false,zc3,zch,zb6,zb5,zb7,zd0,ze5,zfk,zdo,zec,zcs,zct,zc4,zde,zd7,List.reverse_cons,List.reverse_nil,zdj,zbr,za0,za3,za8,AV.ofCells,m1,hrd,zbj,zdc,hx,a0,a11,v1,v2,v3,v4,v5,m3,q11,v6,a13,t1,a12,t2,t3]
   rw [hr2 _ rfl]
   simp only [zap,zac,zas,zbu,zbl,zad,zaj,zaa,zae,zaf,zar,zaz,za1,X.eval,zai,List.getD_cons_zero,List.getD_cons_succ,List.set_cons_zero,List.set_cons_succ,cond_true,BEq.rfl,zbk,RV.eval]
   exact ⟨H,rfl,e1⟩
  ·have t1:decide (e.en > 0)=false:=decide_eq_false ce
   obtain ⟨z1,z2⟩:=A.s0 ce
   have t2:decide (e.en < 0)=false:=decide_eq_false (by omega)
   by_cases cs:e.st=0
   ·have t3:(e.st == 0)=true:=by simp [cs]
    simp only [za9,zap,zac,zas,zat,zam,za2,zb9,za5,zad,zaj,zaa,zau,zae,zbn,zaf,zar,zax,zbq,zba,za4,zbt,zbo,za6,zbe,zbf,zag,za7,X.eval,zal,zai,List.map_cons,List.map_nil,List.getD_cons_zero,List.getD_cons_succ,List.getD_nil,List.set_cons_zero,List.set_cons_succ,zay,zaq,zab,zak,intArith,shift,zbc,cond_true,cond_false,BEq.rfl,AV.cells,AV.ofCells,List.nil_append,List.cons_append,Nat.zero_add,Nat.add_zero,Nat.reduceAdd,Bool.not_true,Int.reduceLT,decide_false,ft,zc3,zch,zb6,zb5,zb7,zd0,ze5,zfk,zdo,zec,zcs,zct,zc4,zde,zd7,List.reverse_cons,List.reverse_nil,zdj,zbr,za0,za3,za8,AV.ofCells,m1,hrd,zbj,zdc,hx,a0,a11,v1,v2,v3,v4,v5,m3,q11,v6,a13,t1,t2,a12,zen,t3]
    rw [hr2 _ rfl]
    simp only [zap,zac,zas,zbu,zbl,zad,zaj,zaa,zae,zaf,zar,zaz,za1,X.eval,zai,List.getD_cons_zero,List.getD_cons_succ,List.set_cons_zero,List.set_cons_succ,cond_true,BEq.rfl,zbk,RV.eval]
    exact ⟨H,rfl,e1⟩
   ·have t3:(e.st == 0)=false:=by simp [cs]
    have t4:decide (e.st < e.bg)=false:=decide_eq_false (by rcases z2 with z2 | z2;exact absurd z2 cs;omega)
    simp only [za9,zap,zac,zas,zat,zam,za2,zb9,za5,zad,zaj,zaa,zau,zae,zaf,zar,zax,zbq,zba,za4,zbt,zbo,za6,zbe,zbf,zag,za7,X.eval,zal,zai,List.map_cons,List.map_nil,List.getD_cons_zero,List.getD_cons_succ,List.getD_nil,List.set_cons_zero,List.set_cons_succ,zay,zaq,zab,zak,intArith,shift,zbc,cond_true,cond_false,BEq.rfl,AV.cells,AV.ofCells,List.nil_append,List.cons_append,Nat.zero_add,Nat.add_zero,Nat.reduceAdd,Bool.not_false,Int.reduceLT,decide_false,zc3,zch,zb6,zb5,zb7,zd0,ze5,zfk,zdo,zec,zcs,zct,zc4,zde,zd7,List.reverse_cons,List.reverse_nil,zdj,zbr,za0,za3,za8,AV.ofCells,m1,hrd,zbj,zdc,hx,a0,a11,v1,v2,v3,v4,v5,m3,q11,v6,a13,t1,t2,a12,zen,t3,t4]
    rw [hr2 _ rfl]
    simp only [zap,zac,zas,zbu,zbl,zad,zaj,zaa,zae,zaf,zar,zaz,za1,X.eval,zai,List.getD_cons_zero,List.getD_cons_succ,List.set_cons_zero,List.set_cons_succ,cond_true,BEq.rfl,zbk,RV.eval]
    exact ⟨H,rfl,e1⟩
end
def Grow (h G:Heap) (v:CV) (n:Nat) (cs:List CV):Prop:=Mine 1 h G v n cs∨(n=0∧cs=[]∧∃ b,v = .sl b 0 0 (.ex 0)∧G.get b=some (.cells [])∧h.next≤b∧b < G.next)
theorem Grow.young {h G:Heap} {v:CV} {n:Nat} {cs:List CV} (g:Grow h G v n cs):∀ k,blk v=some k→h.next≤k∧k < G.next:=by
 intro k hk
 rcases g with ⟨_,⟨rfl,_⟩ | ⟨i,rfl,_,h1,h2⟩⟩ | ⟨_,_,b,rfl,_,h1,h2⟩
 ·cases hk
 ·simp [blk] at hk;omega
 ·simp [blk] at hk;omega
theorem Grow.keep {h G G':Heap} {v:CV} {n:Nat} {cs:List CV} (g:Grow h G v n cs) (hn:G.next≤G'.next) (hk:∀ k,k < G.next→blk v=some k→G'.get k=G.get k):Grow h G' v n cs:=by
 rcases g with m | ⟨h1,h2,b,rfl,h3,h4,h5⟩
 ·exact .inl (Mine.keep m hn hk)
 ·exact .inr ⟨h1,h2,b,rfl,(hk b h5 rfl).trans h3,h4,Nat.lt_of_lt_of_le h5 hn⟩
theorem zmr {h G:Heap} {v:CV} {n m:Nat} {cs new:List CV} {y:AV} (g:Grow h G v n cs) (e:Ext h G) (hs:source G 1 y=some (m,new)) (hl:new.length=m) (hb:n + m≤1000000) :
  ∃ v' G',zdw G 1 (.c v) y=some (.c v',G')∧Grow h G' v' (n + m) (cs++new)∧Ext h G'∧G.next≤G'.next∧(∀ k,k < G.next→blk v≠some k→G'.get k=G.get k)∧∀ k,blk v'=some k→k < G.next→blk v=some k:=by
 cases m with
 | zero =>
  have:new=[]:=List.eq_nil_of_length_eq_zero hl
  subst this
  refine ⟨v,G,zwu ?_ hs,by simpa using g,e,Nat.le_refl _,fun _ _ _=>rfl,fun k hk _=>hk⟩
  rcases g with ⟨_,⟨rfl,_⟩ | ⟨i,rfl,_⟩⟩ | ⟨_,_,b,rfl,_⟩
  ·exact .inl rfl
  ·exact .inr ⟨_,_,_,_,rfl⟩
  ·exact .inr ⟨_,_,_,_,rfl⟩
 | succ m =>
  rcases g with mi | ⟨rfl,rfl,b,rfl,h3,h4,h5⟩
  ·obtain ⟨G',a,mi',n',k'⟩:=zqf mi e.1 hs (by omega) (by omega)
   refine ⟨_,G',a,.inl mi',⟨by have:=e.1;omega,fun k hk=>?_⟩,by omega,k',fun k hk hlt=>?_⟩
   ·rw [k' k (Nat.lt_of_lt_of_le hk e.1) fun hb=>by have:=(Grow.young (.inl mi) k hb).1;omega]
    exact e.2 k hk
   ·simp [blk] at hk;omega
  ·obtain ⟨G',a,mi',n',k'⟩:=zy7 (h0:=h) h3 e.1 hs (by omega) (by omega)
   refine ⟨_,G',a,.inl (by simpa using mi'),⟨by have:=e.1;omega,fun k hk=>?_⟩,by omega,fun k hk _=>k' k hk,fun k hk hlt=>?_⟩
   ·rw [k' k (Nat.lt_of_lt_of_le hk e.1)];exact e.2 k hk
   ·simp [blk] at hk;omega
def zkk (x:CV) (a b:Nat):CV:=match x with
 | .sl j o _ _=>.sl j (o + a) (b - a) (.dy 1)
 | y=>y
theorem zmb {h G H:Heap} {x:CV} {n a b:Nat} {cs:List CV} (m:Mine 1 h G x n cs) (hH:∀ k,blk x=some k→H.get k=G.get k) (hab:a≤b) (hb:b≤n):source H 1 (.c (zkk x a b))=some (b - a,(cs.drop a).take (b - a)):=by
 obtain ⟨hl,⟨rfl,rfl⟩ | ⟨i,rfl,hg,_,_⟩⟩:=m
 ·have:cs=[]:=List.eq_nil_of_length_eq_zero (by omega)
  subst this
  have:b - a=0:=by omega
  rw [this];rfl
 ·have hg':H.get i=some (.cells cs):=(hH i rfl).trans hg
  show source H 1 (.c (.sl i (0 + a) (b - a) (.dy 1)))=_
  unfold Lav.source
  simp only [Nat.mul_one]
  rw [zcd hg' (by omega),Nat.zero_add]
theorem zaav {h G:Heap} {x:CV} {n k:Nat} {cs:List CV} (i:Int) (m:Mine 1 h G x n cs) (e:Ext h G) (hk:k≤n) (hn:n≤1000) :
  ∃ v1 G1 v2 G2 v3 G3,zdw (G.new (.cells [])) 1 (.c (.sl G.next 0 0 (.ex 0))) (.c (zkk x 0 k))=some (.c v1,G1)∧zdw (G1.new (.cells [zbw i])) 1 (.c v1) (.c (.sl G1.next 0 1 (.ex 1)))=some (.c v2,G2) ∧
   zdw G2 1 (.c v2) (.c (zkk x k n))=some (.c v3,G3)∧Mine 1 h G3 v3 (n + 1) (cs.take k++zbw i :: cs.drop k)∧Ext h G3:=by
 have hl:cs.length=n:=by have:=m.1;omega
 have old:∀ j,blk x=some j→j < G.next:=fun j hj=>(Grow.young (.inl m) j hj).2
 have g0:Grow h (G.new (.cells [])) (.sl G.next 0 0 (.ex 0)) 0 []:=.inr ⟨rfl,rfl,G.next,rfl,zbz,e.1,Nat.lt_succ_self _⟩
 have s0:source (G.new (.cells [])) 1 (.c (zkk x 0 k))=some (k,cs.take k):=by
  have:=zmb (H:=G.new (.cells [])) (a:=0) (b:=k) m (fun j hj=>zcp (old j hj)) (Nat.zero_le _) hk
  simpa using this
 obtain ⟨v1,G1,a1,g1,e1,n1,k1,y1⟩:=zmr g0 (e.new _) s0 (by simp;omega) (by omega)
 have keep1:∀ j,blk x=some j→G1.get j=G.get j:=fun j hj=>by
  have:=old j hj
  rw [k1 j (by simp [Heap.new];omega) (by simp [blk];omega)]
  exact zcp this
 have nx1:G.next < G1.next:=by simp [Heap.new] at n1;omega
 have g1':=g1.keep (G':=G1.new (.cells [zbw i])) (Nat.le_succ _) fun j hj _=>zcp hj
 have s1:source (G1.new (.cells [zbw i])) 1 (.c (.sl G1.next 0 1 (.ex 1)))=some (1,[zbw i]):=zkh zbz rfl
 obtain ⟨v2,G2,a2,g2,e2,n2,k2,y2⟩:=zmr g1' (e1.new _) s1 rfl (by omega)
 have nb1:∀ j,blk x=some j→blk v1≠some j:=fun j hj hv=>by
  have h1:=old j hj
  have:=y1 j hv (by simp [Heap.new];omega)
  simp [blk] at this;omega
 have nb2:∀ j,blk x=some j→blk v2≠some j:=fun j hj hv=>by
  have h1:=old j hj
  exact nb1 j hj (y2 j hv (by simp [Heap.new];omega))
 have keep2:∀ j,blk x=some j→G2.get j=G.get j:=fun j hj=>by
  have h1:=old j hj
  rw [k2 j (by simp [Heap.new];omega) (nb1 j hj),zcp (by omega)]
  exact keep1 j hj
 have s2:source G2 1 (.c (zkk x k n))=some (n - k,cs.drop k):=by
  have:=zmb (H:=G2) (a:=k) (b:=n) m keep2 hk (Nat.le_refl _)
  rw [List.take_of_length_le (by simp;omega)] at this
  exact this
 obtain ⟨v3,G3,a3,g3,e3,n3,k3,y3⟩:=zmr g2 e2 s2 (by simp;omega) (by omega)
 refine ⟨v1,G1,v2,G2,v3,G3,a1,a2,a3,?_,e3⟩
 have he:0 + k + 1 + (n - k)=n + 1:=by omega
 rw [he] at g3
 simp only [List.nil_append,List.append_assoc,List.singleton_append] at g3
 rcases g3 with m3 | ⟨h1,_⟩
 ·exact m3
 ·omega
def stL (l:List Ev) (i:Nat):Int:=((l[i]?).map Ev.st).getD 0
def zdx (st:Nat→Int) (v:Int) (out:List Nat):Nat:=(out.reverse.dropWhile fun j=>decide (v < st j)).length
def zby (st:Nat→Int):Nat→List Nat
 | 0=>[]
 | n + 1=>if st n≤0 then zby st n else (zby st n).take (zdx st (st n) (zby st n))++n :: (zby st n).drop (zdx st (st n) (zby st n))
theorem zf9 (st:Nat→Int):∀ n,∀ j∈zby st n,j < n
 | 0,j,h=>by simp [zby] at h
 | n + 1,j,h=>by
  have ih:=zf9 st n
  unfold zby at h
  split at h
  ·have:=ih j h;omega
  ·simp only [List.mem_append,List.mem_cons] at h
   rcases h with h | rfl | h
   ·have:=ih j (List.mem_of_mem_take h);omega
   ·omega
   ·have:=ih j (List.mem_of_mem_drop h);omega
theorem zix (st:Nat→Int):∀ n,(zby st n).length≤n
 | 0=>Nat.le_refl _
 | n + 1=>by
  have ih:=zix st n
  unfold zby
  split
  ·omega
  ·simp only [List.length_append,List.length_cons,List.length_take,List.length_drop];omega
theorem zw5 (st:Nat→Int) (v:Int) (out:List Nat):zdx st v out≤out.length:=by
 have:(out.reverse.dropWhile fun j=>decide (v < st j)).length≤out.reverse.length:=(List.dropWhile_suffix _).length_le
 simpa [zdx] using this
theorem ztc {st:Nat→Int} {v:Int} {out:List Nat} {k:Nat} (hk:k + 1≤out.length):zdx st v (out.take (k + 1))=if v < st (out.getD k 0) then zdx st v (out.take k) else k + 1:=by
 unfold zdx
 have ht:out.take (k + 1)=out.take k++[out.getD k 0]:=by
  rw [List.take_succ_eq_append_getElem (by omega),List.getD_eq_getElem?_getD,List.getElem?_eq_getElem (by omega)];rfl
 rw [ht,List.reverse_append,List.reverse_singleton,List.singleton_append,List.dropWhile_cons]
 by_cases c:v < st (out.getD k 0)
 ·rw [if_pos c,if_pos (by simpa using c)]
 ·rw [if_neg c,if_neg (by simpa using c)]
  simp;omega
end Lav
set_option maxRecDepth 100000
namespace Lav
open Go (IntKind)
section
variable {N d:Nat} {h:Heap} {y:CV} {l:List Ev}
theorem zzf {G:Heap} {x:CV} {n k:Nat} {cs:List CV} (m:Mine 1 h G x n cs) (hk:k≤n):∀ loc vals H,zao loc (.c (.int .i64 (k:Int)) :: .c x :: vals) H (.slice 1 (.val 1) none (some (.val 0)) none)=some (.c (zkk x 0 k)):=by
 intro loc vals H
 obtain ⟨_,⟨rfl,rfl⟩ | ⟨i,rfl,_⟩⟩:=m
 ·have:k=0:=by omega
  subst this;rfl
 ·have b1:(Nat.ble 0 k && Nat.ble k n && (1:Nat) == 1)=true:=by simp [hk]
  show (bif (Nat.ble 0 k && Nat.ble k n && (1:Nat) == 1) then some (AV.c (.sl i (0 + 0 * 1) (k - 0) (.dy 1))) else none)=_
  rw [b1];rfl
theorem zzg {G:Heap} {x:CV} {n k:Nat} {cs:List CV} (m:Mine 1 h G x n cs) (hk:k≤n):∀ loc vals H,zao loc (.c (.int .i64 (k:Int)) :: .c x :: vals) H (.slice 1 (.val 1) (some (.val 0)) none none)=some (.c (zkk x k n)):=by
 intro loc vals H
 obtain ⟨_,⟨rfl,rfl⟩ | ⟨i,rfl,_⟩⟩:=m
 ·have:k=0:=by omega
  subst this;rfl
 ·have b1:(Nat.ble k n && Nat.ble n n && (1:Nat) == 1)=true:=by simp [hk]
  show (bif (Nat.ble k n && Nat.ble n n && (1:Nat) == 1) then some (AV.c (.sl i (0 + k * 1) (n - k) (.dy 1))) else none)=_
  rw [b1,Nat.mul_one];rfl
def zh1 (l:List Nat):List CV:=l.map fun j:Nat=>zbw (j:Int)
theorem zms (E:Evs h y l) (hs:l.length≤900) (hN:1010≤N):∃ x h',evCallO OS table N (d + 1) 75 [.c y] h=some (.c x,h')∧Mine 1 h h' x (zby (stL l) l.length).length (zh1 (zby (stL l) l.length))∧Ext h h':=by
 have lw:∀ loc vals H,zao loc (.c y :: vals) H (.len .sl (.val 0))=some (.c (.int .i64 (l.length:Int))):=fun _ _ _=>E.len
 have stamp:∀ i,i < l.length→∃ b c,y = .sl b 0 l.length c∧∀ G,Ext h G→G.read b (i * 14 + 12) 1=some [.int .i64 (stL l i)]:=by
  intro i hi
  obtain ⟨b,c,rfl,hb,hr⟩:=E.sl (by omega)
  refine ⟨b,c,rfl,fun G xG=>?_⟩
  obtain ⟨dc,rc,h1,_,_⟩:=hr i l[i] (by simp [hi])
  have:=(evN ((xG.read hb).trans h1)).st
  rw [this]
  simp [stL,hi]
 have inner:∀ G x i (o:List Nat),i < l.length→Ext h G→Mine 1 h G x o.length (zh1 o)→(∀ j∈o,j < l.length)→o.length≤900 →
   ∀ loc,zbv ir75_k0 loc=[.c y,.junk,.c x,.c (.int .i64 (i:Int)),.c (.int .i64 (o.length:Int)),.junk,.junk,.junk,.junk] →
   ∃ r,zcr (evCallO OS table N d) N ir75_k0 ir75_l0 N loc G=some r∧∃ q,r=(.exit 2,[.c y,.junk,.c x,.c (.int .i64 (i:Int)),.c (.int .i64 (zdx (stL l) (stL l i) o:Int)),.junk,.junk,.junk,q],G):=by
  intro G x i o hi xG m hol hlen loc hloc
  obtain ⟨b,c,hy,hst⟩:=stamp i hi
  refine zcl (n:=o.length) (fun t loc G'=>G'=G∧t≤o.length∧zdx (stL l) (stL l i) o=zdx (stL l) (stL l i) (o.take (o.length - t))∧loc=[.c y,.junk,.c x,.c (.int .i64 (i:Int)),.c (.int .i64 ((o.length - t:Nat):Int)),.junk,.junk,.junk,.junk]) _ ?_ ⟨rfl,Nat.zero_le _,by simp,by simpa using hloc⟩ (by omega)
  rintro t loc G' ht ⟨rfl,htl,hbk,rfl⟩
  unfold ir75_l0
  by_cases hz:o.length - t=0
  ·right
   have v1:decide (((o.length - t:Nat):Int) > 0)=false:=decide_eq_false (by omega)
   have hb0:zdx (stL l) (stL l i) o=0:=by rw [hbk,hz];rfl
   simp only [zap,zac,zb2,zat,zam,zcf,zaa,zau,za6,zbe,X.eval,zal,zai,List.getD_cons_zero,List.getD_cons_succ,List.set_cons_zero,List.set_cons_succ,zay,zaq,zab,zak,intArith,shift,cond_true,cond_false,BEq.rfl,List.nil_append,List.cons_append,Nat.zero_add,Nat.reduceAdd,Int.reduceLT,decide_false,ft,zc3,zch,zb6,zb5,zb7,zd0,ze5,zfk,zcs,zct,zc4,zde,zd7,List.reverse_cons,List.reverse_nil,zhq,zhr,zgf,zgg,zg5,v1]
   exact ⟨_,rfl,by simp,_,by rw [hb0,hz]⟩
  ·obtain ⟨k,hk⟩ : ∃ k,o.length - t=k + 1:=⟨o.length - t - 1,by omega⟩
   have v1:decide (((o.length - t:Nat):Int) > 0)=true:=decide_eq_true (by omega)
   have v2:IntKind.i64.wrap (((o.length - t:Nat):Int) - 1)=(k:Int):=by rw [zf7 (by omega) (by omega)];omega
   have hkl:k < o.length:=by omega
   have hstep:=ztc (st:=stL l) (v:=stL l i) (out:=o) (k:=k) (by omega)
   rw [hk,hstep] at hbk
   have hoj:o.getD k 0 < l.length:=by
    rw [List.getD_eq_getElem?_getD,List.getElem?_eq_getElem hkl]
    exact hol _ (List.getElem_mem hkl)
   obtain ⟨_,⟨rfl,h0⟩ | ⟨j,rfl,hg,_,_⟩⟩:=m
   ·omega
   have m1:Nat.blt k o.length=true:=zc0 hkl
   have q1:G'.read j k 1=some [.int .i64 (o.getD k 0:Int)]:=zah hg (by simp [zh1,List.getD_eq_getElem?_getD,hkl,zbw])
   obtain ⟨b',c',hy',hst'⟩:=stamp (o.getD k 0) hoj
   have m2:Nat.blt (o.getD k 0) l.length=true:=zc0 hoj
   have m3:Nat.blt i l.length=true:=zc0 hi
   rw [hy] at hy'
   simp only [CV.sl.injEq] at hy'
   obtain ⟨rfl,_,_,rfl⟩:=hy'
   have s1:=hst' G' xG
   have s2:=hst G' xG
   by_cases hgt:stL l i < stL l (o.getD k 0)
   ·left
    rw [if_pos hgt] at hbk
    have v3:decide (stL l (o.getD k 0) > stL l i)=true:=decide_eq_true hgt
    simp only [zap,zac,zas,zat,zav,za2,zbm,za5,zad,zaj,zaa,zau,zae,zaf,zar,zax,za6,zbe,zag,X.eval,zal,zai,List.getD_cons_zero,List.getD_cons_succ,List.set_cons_zero,List.set_cons_succ,zay,zaq,zab,zak,intArith,shift,zbc,cond_true,cond_false,BEq.rfl,AV.ofCells,List.nil_append,List.cons_append,Nat.zero_add,Nat.reduceAdd,Int.reduceLT,decide_false,zc3,zch,zb6,zb5,zb7,zd0,ze5,zfk,zdo,zec,zcs,zct,zc4,zde,zd7,List.reverse_cons,List.reverse_nil,zdj,v1,v2,hy,zbr,za3,za8,AV.ofCells,m1,q1,m2,s1,m3,s2,v3,Nat.mul_one]
    exact ⟨by omega,_,_,rfl,rfl,by omega,by rw [hbk];congr 2;omega,by rw [show o.length - (t + 1)=k by omega];rfl⟩
   ·right
    rw [if_neg hgt] at hbk
    have v3:decide (stL l (o.getD k 0) > stL l i)=false:=decide_eq_false hgt
    simp only [zap,zac,zb2,zat,zam,zcf,zaa,zau,za6,zbe,X.eval,zal,zai,List.getD_cons_zero,List.getD_cons_succ,List.set_cons_zero,List.set_cons_succ,zay,zaq,zab,zak,intArith,shift,zbc,cond_true,cond_false,BEq.rfl,AV.ofCells,List.nil_append,List.cons_append,Nat.zero_add,Nat.reduceAdd,Int.reduceLT,decide_false,zc3,zch,zb6,zb5,zb7,zd0,ze5,zfk,zdo,zec,zcs,zct,zc4,zde,zd7,List.reverse_cons,List.reverse_nil,zdj,v1,v2,hy,zbr,za3,za8,AV.ofCells,m1,q1,m2,s1,m3,s2,v3,Nat.mul_one]
    exact ⟨_,rfl,by simp,_,by rw [hbk,hk]⟩
 have L:∀ loc,zbv ir75_k1 loc=[.c y,.junk,.c .nils,.c (.int .i64 0),.junk,.junk,.junk,.junk,.junk] →
   ∃ r,zcr (evCallO OS table N d) N ir75_k1 ir75_l1 N loc h=some r∧∃ a b x l' G,r=(.exit 0,a :: b :: .c x :: l',G)∧Mine 1 h G x (zby (stL l) l.length).length (zh1 (zby (stL l) l.length))∧Ext h G:=by
  intro loc hloc
  refine zcl (n:=l.length) (fun i loc G=>∃ x,Mine 1 h G x (zby (stL l) i).length (zh1 (zby (stL l) i))∧Ext h G∧loc=[.c y,.junk,.c x,.c (.int .i64 (i:Int)),.junk,.junk,.junk,.junk,.junk]) _ ?_ ⟨.nils,Mine.nil,Ext.refl h,hloc⟩ (by omega)
  rintro i loc G hi ⟨x,m,xG,rfl⟩
  unfold ir75_l1
  by_cases hlt:i < l.length
  ·left
   refine ⟨hlt,?_⟩
   have v1:=ze6 hlt
   have v2:=zdm (i:=i) (by omega)
   have m3:Nat.blt i l.length=true:=zc0 hlt
   obtain ⟨b,c,hy,hst⟩:=stamp i hlt
   have s2:=hst G xG
   have olen:=zix (stL l) i
   by_cases hz:stL l i≤0
   ·have v3:decide (stL l i≤0)=true:=decide_eq_true hz
    have ho:zby (stL l) (i + 1)=zby (stL l) i:=by
     show (if stL l i≤0 then _ else _)=_
     rw [if_pos hz]
    subst hy
    simp only [zap,zac,zb2,zas,zat,zav,za2,zbu,za5,zcf,zad,zaj,zaa,zae,zaf,zar,zax,zbg,za4,zbt,za6,zag,X.eval,zal,zai,List.getD_cons_zero,List.getD_cons_succ,List.set_cons_zero,List.set_cons_succ,zay,zaq,zab,zak,intArith,shift,zbc,cond_true,cond_false,BEq.rfl,AV.ofCells,Nat.zero_add,Int.reduceLT,decide_false,lw,v1,zbr,za0,za3,za8,AV.ofCells,m3,s2,v3,v2]
    exact ⟨_,_,rfl,x,by rw [ho];exact m,xG,rfl⟩
   ·have v3:decide (stL l i≤0)=false:=decide_eq_false hz
    have hk:=zw5 (stL l) (stL l i) (zby (stL l) i)
    have ho:zby (stL l) (i + 1)=(zby (stL l) i).take (zdx (stL l) (stL l i) (zby (stL l) i))++i :: (zby (stL l) i).drop (zdx (stL l) (stL l i) (zby (stL l) i)):=by
     show (if stL l i≤0 then _ else _)=_
     rw [if_neg hz]
    have lx:∀ loc vals H,zao loc (.c x :: vals) H (.len .sl (.val 0))=some (.c (.int .i64 ((zby (stL l) i).length:Int))):=fun _ _ _=>m.len rfl
    obtain ⟨r,⟨q,rfl⟩,hr⟩:=zcn (inner G x i (zby (stL l) i) hlt xG m (fun j hj=>by have:=zf9 (stL l) i j hj;omega) (by omega)) rfl
    have sh:=zzf m hk
    have sl:=zzg m hk
    obtain ⟨w1,G1,w2,G2,w3,G3,a1,a2,a3,m',x3⟩:=zaav (i:Int) m xG hk (by omega)
    have hw:(G1.skip 1).put G1.next (.cells [.int .i64 (i:Int)])=G1.new (.cells [zbw (i:Int)]):=rfl
    have hout:(zh1 (zby (stL l) i)).take (zdx (stL l) (stL l i) (zby (stL l) i))++zbw (i:Int) :: (zh1 (zby (stL l) i)).drop (zdx (stL l) (stL l i) (zby (stL l) i))=zh1 (zby (stL l) (i + 1)):=by
     rw [ho];simp [zh1,List.map_take,List.map_drop]
    have hlen:(zby (stL l) i).length + 1=(zby (stL l) (i + 1)).length:=by
     rw [ho];simp;omega
    rw [hout,hlen] at m'
    subst hy
    simp only [zbw] at a2
    simp only [zap,zac,zas,zat,zav,zam,za2,zb9,za5,zad,zaj,zaa,zae,zaf,zar,zax,zbg,za4,zbt,za6,zag,X.eval,zal,zai,List.getD_cons_zero,List.getD_cons_succ,List.set_cons_zero,List.set_cons_succ,zay,zaq,zab,zak,intArith,shift,zbc,cond_true,cond_false,BEq.rfl,AV.ofCells,Nat.zero_add,Int.reduceLT,decide_false,lw,v1,zbr,za0,za3,za8,AV.ofCells,m3,s2,v3,lx]
    rw [hr _ rfl]
    simp only [zap,zac,zas,zbm,zbu,zad,zaj,zaa,zae,zaf,zar,zax,zk7,zwc,zpz,za6,zbf,zag,za7,X.eval,zal,zai,List.getD_cons_zero,List.getD_cons_succ,List.set_cons_zero,List.set_cons_succ,zay,zaq,zab,zak,intArith,shift,cond_true,cond_false,BEq.rfl,zb0,zb1,AV.cells,List.length_cons,List.length_nil,zeros,zdf,setMany,List.nil_append,List.cons_append,Nat.ble,Nat.zero_add,Nat.add_zero,Nat.reduceAdd,Int.reduceLT,decide_false,zc3,zch,zb6,zb5,zb7,zdr,zd0,zrm,zcs,zct,zc4,zde,List.reverse_cons,List.reverse_nil,zabm,zabn,zrm,znn,zbw,sh,sl,a1,a2,a3,hw,v2]
    exact ⟨_,_,rfl,w3,m',x3,rfl⟩
  ·right
   have:i=l.length:=by omega
   subst this
   have v1:decide ((l.length:Int) < (l.length:Int))=false:=zfg (Nat.le_refl _)
   simp only [zap,zac,zb2,zas,zat,zam,zcf,zad,zaj,zaa,zae,zaf,zar,zax,zbg,za6,zag,X.eval,zal,zai,List.getD_cons_zero,List.getD_cons_succ,List.set_cons_zero,List.set_cons_succ,zay,zaq,zab,zak,intArith,shift,cond_true,cond_false,BEq.rfl,lw,v1]
   exact ⟨_,rfl,by simp,_,_,_,_,_,rfl,m,xG⟩
 obtain ⟨r,⟨a,b,x,l',G,rfl,m,xG⟩,hr⟩:=zcn L rfl
 rw [zbi (F:=ir75) rfl rfl rfl]
 unfold ir75
 rw [zbp]
 simp only [za9,zap,zac,zas,za2,zb9,zad,zaj,zaa,zae,zaf,zar,X.eval,zai,List.map_cons,List.map_nil,List.getD_cons_zero,List.getD_cons_succ,List.getD_nil,List.set_cons_zero,List.set_cons_succ]
 rw [hr _ rfl]
 simp only [zap,zac,zas,zbu,zbl,zad,zaj,zaa,zae,zaf,zar,zaz,za1,X.eval,zal,zai,List.getD_cons_zero,List.getD_cons_succ,List.set_cons_zero,List.set_cons_succ,cond_true,BEq.rfl,zbk,RV.eval]
 exact ⟨x,G,rfl,m,xG⟩
end
end Lav
set_option maxRecDepth 100000
namespace Lav
open Go (IntKind)
def zc6 (p c:Nat):MS:=⟨List.replicate p false,List.replicate p z16,List.replicate c (List.replicate 6 (-1))⟩
def zkl (N d p c:Nat):Prop:=∀ h,∃ x z h',evCallO OS table N d 73 [.c (.int .i64 (p:Int)),.c (.int .i64 (c:Int))] h=some (.agg x,h')∧SR h' x z (zc6 p c)∧Ext h h'∧∀ j∈z.own,h.next≤j
instance:Inhabited OpM:=⟨⟨0,0,0,0,0,[]⟩⟩
instance:Inhabited ResM:=⟨⟨0,0,0,[]⟩⟩
instance:Inhabited Ev:=⟨⟨0,default,default,0,0,0⟩⟩
def zbh (l:List Ev) (i:Nat):Ev:=l.getD i default
theorem zhs {l:List Ev} {i:Nat} (hi:i < l.length):l[i]? = some (zbh l i):=by simp [zbh,List.getD_eq_getElem?_getD,hi]
def okG (l:List Ev):MS→List Nat→Bool
 | _,[]=>true
 | s,j :: r=>(zc9 s (zbh l j)).1 && okG l (zc9 s (zbh l j)).2 r
def zd1 (l:List Ev):MS→List Nat→MS
 | s,[]=>s
 | s,j :: r=>zd1 l (zc9 s (zbh l j)).2 r
theorem zlt {l:List Ev}:∀ {s:MS} {a b:List Nat},okG l s (a++b)=(okG l s a && okG l (zd1 l s a) b)
 | s,[],b=>by simp [okG,zd1]
 | s,j :: a,b=>by
  show ((zc9 s (zbh l j)).1 && okG l (zc9 s (zbh l j)).2 (a++b))=((zc9 s (zbh l j)).1 && okG l (zc9 s (zbh l j)).2 a && okG l (zd1 l (zc9 s (zbh l j)).2 a) b)
  rw [zlt,Bool.and_assoc]
theorem zhg {l:List Ev}:∀ {s:MS} {a b:List Nat},zd1 l s (a++b)=zd1 l (zd1 l s a) b
 | _,[],_=>rfl
 | s,j :: a,b=>zhg (s:=(zc9 s (zbh l j)).2) (a:=a) (b:=b)
structure OI (h:Heap) (p4:Nat) (x:List CV) (z:SP) (ox:CV) (o:List Nat) (s:MS) (G:Heap):Prop where
 S:SR G x z s
 e:Ext h G
 b4:G.get p4=some (.cells x)
 l4:p4 < G.next
 n4:p4 ∉ z.own
 own:∀ j∈z.own,h.next≤j
 o:Ints G ox (o.map fun j:Nat=>(j:Int))
 no:∀ j,blk ox=some j→j ∉ z.own
section
variable {N d:Nat} {h G G':Heap} {p4:Nat} {x:List CV} {z:SP} {ox:CV} {o:List Nat} {s s':MS} {y:CV} {l:List Ev}
theorem Ints.extB {h h':Heap} {x:CV} {xs:List Int} {L:List Nat} (hx:Ints h x xs) (e:ExtB L h h') (hn:∀ k,blk x=some k→k ∉ L):Ints h' x xs:=by
 rcases hx with h1 | ⟨i,o,c,rfl,h2,h3⟩
 ·exact .inl h1
 ·refine .inr ⟨i,o,c,rfl,Nat.lt_of_lt_of_le h2 e.1,fun j hj=>?_⟩
  have:=e.2 i h2 (hn i rfl)
  unfold Heap.read
  rw [this]
  exact h3 j hj
theorem OI.step (I:OI h p4 x z ox o s G) (S':SR G' x z s') (e:ExtB z.own G G'):OI h p4 x z ox o s' G' :=
 ⟨S',⟨Nat.le_trans I.e.1 e.1,fun k hk=>(e.2 k (Nat.lt_of_lt_of_le hk I.e.1) fun hm=>by have:=I.own k hm;omega).trans (I.e.2 k hk)⟩,e.at_ I.b4 I.l4 I.n4,Nat.lt_of_lt_of_le I.l4 e.1,I.n4,I.own,I.o.extB e I.no,I.no⟩
theorem OI.more (I:OI h p4 x z ox o s G) (e:Ext G G'):OI h p4 x z ox o s G':=I.step (I.S.ext e) (e.b _)
theorem OI.r4 (I:OI h p4 x z ox o s G):G.read p4 0 3=some x:=by
 rw [zcd I.b4 (by rw [I.S.len3];omega),List.drop_zero,List.take_of_length_le (by rw [I.S.len3];omega)]
theorem OI.len (I:OI h p4 x z ox o s G):∀ loc vals H,zao loc (.c ox :: vals) H (.len .sl (.val 0))=some (.c (.int .i64 (o.length:Int))):=fun _ _ _=>by
 have:=I.o.len (h:=G) (loc:=[]) (vals:=[.c ox]) (X:=.val 0) rfl
 rw [List.length_map] at this
 exact I.o.len rfl |>.trans (by rw [List.length_map])
theorem OI.at_ (I:OI h p4 x z ox o s G) {k:Nat} (hk:k < o.length):∃ j q c,ox = .sl j q o.length c∧G.read j (q + k) 1=some [.int .i64 (o.getD k 0:Int)]:=by
 obtain ⟨j,q,c,e,_,hr⟩:=I.o.sl (by simp;omega)
 rw [List.length_map] at e
 refine ⟨j,q,c,e,?_⟩
 have:=hr k (by simpa using hk)
 rw [this]
 simp [List.getD_eq_getElem?_getD,hk]
theorem zlu (E:Evs h y l) (e:Ext h G) {i:Nat} (hi:i < l.length):∃ b c dc rc,y = .sl b 0 l.length c∧b < h.next∧G.read b (i * 14) 14=some (evC (zbh l i) dc rc)∧Bytes h dc (zbh l i).op.data∧Bytes h rc (zbh l i).rs.rd:=by
 obtain ⟨b,c,rfl,hb,hr⟩:=E.sl (by omega)
 obtain ⟨dc,rc,h1,h2,h3⟩:=hr i _ (zhs hi)
 exact ⟨b,c,dc,rc,rfl,hb,(e.read hb).trans h1,h2,h3⟩
theorem SR.hsl {h h':Heap} {s s':MS} (S:SR h x z s) (S':SR h' x z s'):s'.hs.length=s.hs.length:=by
 have:=S.xe.symm.trans S'.xe
 simp only [List.cons.injEq,CV.sl.injEq,and_true,true_and] at this
 exact this.2.2.symm
theorem OI.start {x:List CV} {h0 H1 H2 H3:Heap} (S:SR H1 x z s) (own:∀ j∈z.own,h0.next≤j) (e0:Ext h0 H1) (eb:Ext H1 H2) (b4:H2.get p4=some (.cells x)) (l4:p4 < H2.next) (g4:H1.next≤p4) (e3:Ext H2 H3) (m:Mine 1 H2 H3 ox o.length (zh1 o)):OI h0 p4 x z ox o s H3:=by
 have lt:=S.lt
 refine ⟨S.ext (eb.trans e3),e0.trans (eb.trans e3),e3.at_ b4 l4,Nat.lt_of_lt_of_le l4 e3.1,fun hm=>by have:=lt _ hm;omega,own,?_,fun j hj hm=>?_⟩
 ·have:zh1 o=(o.map fun j:Nat=>(j:Int)).map (.int .i64):=by simp [zh1,zbw]
  rw [this] at m
  exact m.ints
 ·have h1:=m.young j hj
  have h2:=lt _ hm
  have:=eb.1
  omega
theorem zkm {p c:Nat} (hnew:zkl N d p c) (hp:0 < p) (E:Evs h y l) (hs:l.length≤900) (hal:∀ i,i < l.length→AloneP l i (zbh l i) (c:Int)) (hmay:∀ i,i < l.length→(zbh l i).may c)
  (hok:okG l (zc6 p c) (zby (stL l) l.length)=true) (hN:1010≤N) (hd:5≤d) :
  ∃ h',evCallO OS table N (d + 1) 47 [.c y,.c (.int .i64 (p:Int)),.c (.int .i64 (c:Int))] h=some (.c (.int .i64 0),h')∧Ext h h':=by
 obtain ⟨d,rfl⟩ : ∃ k,d=k + 5:=⟨d - 5,by omega⟩
 obtain ⟨x,z,H1,f1,S1,x1,own⟩:=hnew h
 obtain ⟨H2,w2,g2,x2,n2⟩:=ze1 (h:=H1) (z:=[.nils,.nils,.nils]) (v:=x) (by rw [S1.len3];rfl)
 have lx:=S1.len3
 have r4:H2.read H1.next 0 1=some [.sl z.t 0 p z.ct]:=zah g2 (by rw [S1.xe];simp [zc6])
 have lw:∀ loc vals H,zao loc (.c y :: vals) H (.len .sl (.val 0))=some (.c (.int .i64 (l.length:Int))):=fun _ _ _=>E.len
 have v0:((p:Int) == 0)=false:=by simp only [beq_eq_false_iff_ne,ne_eq];omega
 have L1:∀ loc,zbv ir47_k1 loc=[.c y,.junk,.c (.int .i64 (c:Int)),.junk,.c (.ptr H1.next 0),.c (.int .i64 0),.junk,.junk,.junk,.junk,.junk,.junk,.junk] →
   ∃ r,zcr (evCallO OS table N (d + 5)) N ir47_k1 ir47_l1 N loc H2=some r∧∃ q1 q2 G,r=(.exit 0,[.c y,.junk,.c (.int .i64 (c:Int)),.junk,.c (.ptr H1.next 0),q1,.junk,.junk,.junk,q2,.junk,.junk,.junk],G)∧Ext H2 G:=by
  intro loc hloc
  refine zcl (n:=l.length) (fun i loc G=>Ext H2 G∧loc=[.c y,.junk,.c (.int .i64 (c:Int)),.junk,.c (.ptr H1.next 0),.c (.int .i64 (i:Int)),.junk,.junk,.junk,.junk,.junk,.junk,.junk]) _ ?_ ⟨Ext.refl _,hloc⟩ (by omega)
  rintro i loc G hi ⟨xg,rfl⟩
  unfold ir47_l1
  by_cases hlt:i < l.length
  ·left
   have v1:=ze6 hlt
   have v2:=zdm (i:=i) (by omega)
   obtain ⟨G1,f2,y2⟩:=zw4 (N:=N) (d:=d + 4) (E.ext ((x1.trans x2).trans xg)) (zhs hlt) (hal i hlt) (by omega) hN
   simp only [zap,zac,zas,zat,zav,zam,za2,zbm,za5,zad,zaj,zaa,zae,zaf,zar,zax,zdq,zbg,zbd,zbb,za6,zee,zag,X.eval,zal,zai,List.map_cons,List.map_nil,List.getD_cons_zero,List.getD_cons_succ,List.set_cons_zero,List.set_cons_succ,zay,zdk,zaq,zab,zak,intArith,shift,cond_true,cond_false,BEq.rfl,Bool.not_true,Int.reduceLT,decide_false,lw,v1,f2,v2]
   exact ⟨hlt,_,_,rfl,xg.trans y2,rfl⟩
  ·right
   have:i=l.length:=by omega
   subst this
   have v1:decide ((l.length:Int) < (l.length:Int))=false:=zfg (Nat.le_refl _)
   simp only [zap,zac,zb2,zas,zat,zam,zcf,zad,zaj,zaa,zae,zaf,zar,zax,zbg,za6,zag,X.eval,zal,zai,List.getD_cons_zero,List.getD_cons_succ,List.set_cons_zero,List.set_cons_succ,zay,zaq,zab,zak,intArith,shift,cond_true,cond_false,BEq.rfl,lw,v1]
   exact ⟨_,rfl,by simp,_,_,_,rfl,xg⟩
 obtain ⟨r1,⟨q1,q2,H3,rfl,x3⟩,hr1⟩:=zcn L1 rfl
 obtain ⟨ox,H4,f4,m4,x4⟩:=zms (N:=N) (d:=d + 4) (E.ext ((x1.trans x2).trans x3)) hs hN
 have I0:OI h H1.next x z ox (zby (stL l) l.length) (zc6 p c) H4:=OI.start S1 own x1 (x2.trans x3) (x3.at_ g2 (by omega)) (by have:=x3.1;omega) (Nat.le_refl _) x4 m4
 generalize hO:zby (stL l) l.length=O at *
 have hOl:∀ k,k < O.length→O.getD k 0 < l.length:=fun k hk=>by
  have:=zf9 (stL l) l.length (O.getD k 0) (by rw [hO,List.getD_eq_getElem?_getD,List.getElem?_eq_getElem hk];exact List.getElem_mem hk)
  exact this
 have hOn:O.length≤900:=by rw [← hO];exact Nat.le_trans (zix _ _) hs
 have lo:=I0.len
 have L0:∀ loc,zbv ir47_k0 loc=[.c y,.junk,.junk,.junk,.c (.ptr H1.next 0),.junk,.c ox,.c (.int .i64 0),.junk,.junk,.junk,.junk,.junk] →
   ∃ r,zcr (evCallO OS table N (d + 5)) N ir47_k0 ir47_l0 N loc H4=some r∧∃ a b e q l' G,r=(.exit 2,a :: b :: e :: q :: l',G)∧Ext h G:=by
  intro loc hloc
  refine zcl (n:=O.length) (fun k loc G=>OI h H1.next x z ox O (zd1 l (zc6 p c) (O.take k)) G∧loc=[.c y,.junk,.junk,.junk,.c (.ptr H1.next 0),.junk,.c ox,.c (.int .i64 (k:Int)),.junk,.junk,.junk,.junk,.junk]) _ ?_ ⟨I0,hloc⟩ (by omega)
  rintro k loc G hk ⟨I,rfl⟩
  unfold ir47_l0
  by_cases hlt:k < O.length
  ·left
   have v1:=ze6 hlt
   have v2:=zdm (i:=k) (by omega)
   obtain ⟨j,q,cc,hox,hro⟩:=I.at_ hlt
   have hj:=hOl k hlt
   obtain ⟨b,c',dc,rc,hy,hb,hre,hd1,hr1⟩:=zlu E I.e hj
   have m1:Nat.blt k O.length=true:=zc0 hlt
   have m2:Nat.blt (O.getD k 0) l.length=true:=zc0 hj
   have hcl:(zd1 l (zc6 p c) (O.take k)).hs.length=c:=by rw [S1.hsl I.S];simp [zc6]
   obtain ⟨G1,f5,S5,x5⟩:=step_ok (N:=N) (d:=d + 1) I.S (e:=zbh l (O.getD k 0)) (by rw [hcl];exact hmay _ hj) (hd1.ext I.e) (hr1.ext I.e) (fun t ht hm=>by have:=I.own t hm;have:=zrv hr1 t ht;omega) (by omega)
   have htk:O.take (k + 1)=O.take k++[O.getD k 0]:=by
    rw [List.take_succ_eq_append_getElem hlt,List.getD_eq_getElem?_getD,List.getElem?_eq_getElem hlt];rfl
   have hrun:zd1 l (zc6 p c) (O.take (k + 1))=(zc9 (zd1 l (zc6 p c) (O.take k)) (zbh l (O.getD k 0))).2:=by rw [htk,zhg];rfl
   have htrue:(zc9 (zd1 l (zc6 p c) (O.take k)) (zbh l (O.getD k 0))).1=true:=by
    have h1:okG l (zc6 p c) (O.take (k + 1)++O.drop (k + 1))=true:=by rw [List.take_append_drop];exact hok
    rw [zlt,htk,zlt] at h1
    simp only [Bool.and_eq_true,okG] at h1
    exact h1.1.2.1
   rw [htrue] at f5
   have r3:=I.r4
   subst hox
   subst hy
   simp only [zap,zac,zas,zat,zav,zam,za2,zbm,za5,zad,zaj,zaa,zae,zaf,zar,zax,zbg,zbb,za6,zee,zag,X.eval,zal,zai,List.map_cons,List.map_nil,List.getD_cons_zero,List.getD_cons_succ,List.set_cons_zero,List.set_cons_succ,zay,zdk,zaq,zab,zak,intArith,shift,zbc,cond_true,cond_false,BEq.rfl,AV.ofCells,List.nil_append,List.cons_append,Nat.zero_add,Nat.reduceAdd,Bool.not_true,Int.reduceLT,decide_false,zc3,zch,zb6,zb5,zb7,zdr,zd0,d_un,zdo,zec,zho,zcs,zct,zc4,zde,zd7,List.reverse_cons,List.reverse_nil,lo,v1,zbr,za8,AV.ofCells,r3,m1,hro,m2,hre,f5,v2,Nat.mul_one,Nat.zero_add]
   refine ⟨hlt,_,_,rfl,?_,rfl⟩
   rw [hrun]
   exact I.step S5 x5
  ·right
   have:k=O.length:=by omega
   subst this
   have v1:decide ((O.length:Int) < (O.length:Int))=false:=zfg (Nat.le_refl _)
   simp only [zap,zac,zb2,zas,zat,zam,zcf,zad,zaj,zaa,zae,zaf,zar,zax,zbg,za6,zag,X.eval,zal,zai,List.getD_cons_zero,List.getD_cons_succ,List.set_cons_zero,List.set_cons_succ,zay,zaq,zab,zak,intArith,shift,cond_true,cond_false,BEq.rfl,lo,v1]
   exact ⟨_,rfl,by simp,_,_,_,_,_,_,rfl,I.e⟩
 obtain ⟨r0,⟨a,b,e,q,l',H5,rfl,x5⟩,hr0⟩:=zcn L0 rfl
 have w2':(H1.new (.cells [.nils,.nils,.nils])).write H1.next 0 x=some H2:=w2
 rw [zbi (F:=ir47) rfl rfl rfl]
 unfold ir47
 rw [zbp]
 simp only [za9,zap,zac,zas,zat,zam,za2,zb9,za5,zad,zaj,zaa,zae,zaf,zar,zax,zbq,zbg,za4,zbd,zbo,zbb,za6,zbf,zag,za7,X.eval,zal,zai,List.map_cons,List.map_nil,List.getD_cons_zero,List.getD_cons_succ,List.getD_nil,List.set_cons_zero,List.set_cons_succ,zay,zaq,zab,zak,intArith,shift,cond_true,cond_false,BEq.rfl,AV.cells,AV.ofCells,Nat.add_zero,Int.reduceNeg,Int.reduceLT,decide_false,f1,zbj,lx,w2',za0,za3,za8,AV.ofCells,r4,zbs,v0]
 rw [hr1 _ rfl]
 simp only [zap,zac,zas,za2,zbu,zb9,zad,zaj,zaa,zae,zaf,zar,zbd,zbb,X.eval,zal,zai,List.map_cons,List.map_nil,List.getD_cons_zero,List.set_cons_zero,List.set_cons_succ,cond_true,BEq.rfl,f4]
 rw [hr0 _ rfl]
 simp only [zap,zac,zas,zbu,zbl,zad,zaj,zaa,zae,zaf,zar,zaz,za1,X.eval,zai,List.getD_cons_zero,List.getD_cons_succ,List.set_cons_zero,List.set_cons_succ,cond_true,BEq.rfl,zbk,RV.eval]
 exact ⟨H5,rfl,x5⟩
end
end Lav
set_option maxRecDepth 100000
namespace Lav
open Go (IntKind)
structure HistOK (l:List Ev) (p c:Nat):Prop where
 hs:l.length≤900
 al:∀ i,i < l.length→AloneP l i (zbh l i) (c:Int)
 may:∀ i,i < l.length→(zbh l i).may c
 ok:okG l (zc6 p c) (zby (stL l) l.length)=true
def zer (l:List Ev) (p c:Nat):MS:=zd1 l (zc6 p c) (zby (stL l) l.length)
section
variable {N d:Nat} {h G G':Heap} {p4:Nat} {x:List CV} {z:SP} {ox:CV} {o:List Nat} {s s':MS} {y:CV} {l:List Ev}
theorem zjt {O:List Nat} {k:Nat} (hk:k < O.length):O.take (k + 1)=O.take k++[O.getD k 0]:=by
 rw [List.take_succ_eq_append_getElem hk,List.getD_eq_getElem?_getD,List.getElem?_eq_getElem hk];rfl
theorem zu3 {l:List Ev} {k:Nat} (hk:k < (zby (stL l) l.length).length):(zby (stL l) l.length).getD k 0 < l.length :=
 zf9 (stL l) l.length _ (by rw [List.getD_eq_getElem?_getD,List.getElem?_eq_getElem hk];exact List.getElem_mem hk)
theorem zw6 {p c:Nat} (hnew:zkl N d p c) (hp:0 < p) (E:Evs h y l) (K:HistOK l p c) (hN:1010≤N) (hd:6≤d) (hnew':zkl N (d + 1) p c) :
  ∃ x z h',evCallO OS table N (d + 2) 59 [.c y,.c (.int .i64 (p:Int)),.c (.int .i64 (c:Int))] h=some (.tup [.agg x,.c (.bool true)],h')∧SR h' x z (zer l p c)∧Ext h h'∧∀ j∈z.own,h.next≤j:=by
 have e0:=(Ext.refl h).new (.cells [.nils,.nils,.nils])
 generalize hg0:h.new (.cells [.nils,.nils,.nils])=H0 at e0
 have g0:H0.get h.next=some (.cells [.nils,.nils,.nils]):=by rw [← hg0];exact zbz
 have n0:H0.next=h.next + 1:=by rw [← hg0];rfl
 obtain ⟨Hc,fc,xc⟩:=zkm hnew hp (E.ext e0) K.hs K.al K.may K.ok hN (by omega)
 obtain ⟨x,z,H1,f1,S1,x1,own⟩:=hnew' Hc
 obtain ⟨H2,w2,g2,x2,n2⟩:=ze1 (h:=H1) (z:=[.nils,.nils,.nils]) (v:=x) (by rw [S1.len3];rfl)
 have lx:=S1.len3
 have w2':(H1.new (.cells [.nils,.nils,.nils])).write H1.next 0 x=some H2:=w2
 have xa:Ext h H2:=((e0.trans xc).trans x1).trans x2
 obtain ⟨ox,H4,f4,m4,x4⟩:=zms (N:=N) (d:=d) (E.ext xa) K.hs hN
 have I0:OI Hc H1.next x z ox (zby (stL l) l.length) (zc6 p c) H4:=OI.start S1 own x1 x2 g2 (by omega) (Nat.le_refl _) x4 m4
 have Ec:=E.ext (e0.trans xc)
 generalize hO:zby (stL l) l.length=O at *
 have hOl:∀ k,k < O.length→O.getD k 0 < l.length:=fun k hk=>by rw [← hO] at hk ⊢;exact zu3 hk
 have hOn:O.length≤900:=by rw [← hO];exact Nat.le_trans (zix _ _) K.hs
 have lo:=I0.len
 obtain ⟨d,rfl⟩ : ∃ k,d=k + 6:=⟨d - 6,by omega⟩
 have L0:∀ loc,zbv ir59_k0 loc=[.c y,.junk,.junk,.c (.ptr h.next 0),.junk,.c (.ptr H1.next 0),.c ox,.c (.int .i64 0),.junk,.junk] →
   ∃ r,zcr (evCallO OS table N (d + 7)) N ir59_k0 ir59_l0 N loc H4=some r∧∃ a1 a2 a3 a5 a7 l' G,r=(.exit 0,a1 :: a2 :: a3 :: .c (.ptr h.next 0) :: a5 :: .c (.ptr H1.next 0) :: a7 :: l',G)∧OI Hc H1.next x z ox O (zd1 l (zc6 p c) O) G:=by
  intro loc hloc
  refine zcl (n:=O.length) (fun k loc G=>OI Hc H1.next x z ox O (zd1 l (zc6 p c) (O.take k)) G∧loc=[.c y,.junk,.junk,.c (.ptr h.next 0),.junk,.c (.ptr H1.next 0),.c ox,.c (.int .i64 (k:Int)),.junk,.junk]) _ ?_ ⟨I0,hloc⟩ (by omega)
  rintro k loc G hk ⟨I,rfl⟩
  unfold ir59_l0
  by_cases hlt:k < O.length
  ·left
   have v1:=ze6 hlt
   have v2:=zdm (i:=k) (by omega)
   obtain ⟨j,q,cc,hox,hro⟩:=I.at_ hlt
   have hj:=hOl k hlt
   obtain ⟨b,c',dc,rc,hy,hb,hre,hd1,hr1⟩:=zlu Ec I.e hj
   have m1:Nat.blt k O.length=true:=zc0 hlt
   have m2:Nat.blt (O.getD k 0) l.length=true:=zc0 hj
   have hcl:(zd1 l (zc6 p c) (O.take k)).hs.length=c:=by rw [S1.hsl I.S];simp [zc6]
   obtain ⟨G1,f5,S5,x5⟩:=step_ok (N:=N) (d:=d + 3) I.S (e:=zbh l (O.getD k 0)) (by rw [hcl];exact K.may _ hj) (hd1.ext I.e) (hr1.ext I.e) (fun t ht hm=>by have:=I.own t hm;have:=zrv hr1 t ht;omega) (by omega)
   have hrun:zd1 l (zc6 p c) (O.take (k + 1))=(zc9 (zd1 l (zc6 p c) (O.take k)) (zbh l (O.getD k 0))).2:=by rw [zjt hlt,zhg];rfl
   have r3:=I.r4
   subst hox
   subst hy
   simp only [zap,zac,zas,zat,zav,za2,zbm,za5,zad,zaj,zaa,zae,zaf,zar,zax,zbg,zbb,za6,zag,X.eval,zal,zai,List.map_cons,List.map_nil,List.getD_cons_zero,List.getD_cons_succ,List.set_cons_zero,List.set_cons_succ,zay,zaq,zab,zak,intArith,shift,zbc,cond_true,cond_false,BEq.rfl,AV.ofCells,List.nil_append,List.cons_append,Nat.zero_add,Nat.reduceAdd,Int.reduceLT,decide_false,zc3,zch,zb6,zb5,zb7,zdr,zd0,zdo,zec,zho,zcs,zct,zc4,zde,zd7,List.reverse_cons,List.reverse_nil,lo,v1,zbr,za8,AV.ofCells,r3,m1,hro,m2,hre,f5,v2,Nat.mul_one,Nat.zero_add]
   refine ⟨hlt,_,_,rfl,?_,rfl⟩
   rw [hrun]
   exact I.step S5 x5
  ·right
   have:k=O.length:=by omega
   subst this
   have v1:decide ((O.length:Int) < (O.length:Int))=false:=zfg (Nat.le_refl _)
   rw [List.take_length] at I
   simp only [zap,zac,zb2,zas,zat,zam,zcf,zad,zaj,zaa,zae,zaf,zar,zax,zbg,za6,zag,X.eval,zal,zai,List.getD_cons_zero,List.getD_cons_succ,List.set_cons_zero,List.set_cons_succ,zay,zaq,zab,zak,intArith,shift,cond_true,cond_false,BEq.rfl,lo,v1]
   exact ⟨_,rfl,by simp,_,_,_,_,_,_,_,rfl,I⟩
 obtain ⟨r0,⟨a1,a2,a3,a5,a7,l',H5,rfl,I⟩,hr0⟩:=zcn L0 rfl
 have r5:=I.r4
 have g5:H5.get h.next=some (.cells [.nils,.nils,.nils]):=I.e.at_ (xc.at_ g0 (by omega)) (by have:=xc.1;omega)
 have w6:=zg4 (o:=0) (vs:=x) g5 (by rw [lx];exact Nat.le_refl _)
 have hx0:([CV.nils,.nils,.nils].take 0++x++[CV.nils,.nils,.nils].drop (0 + x.length))=x:=by rw [lx];simp
 rw [hx0] at w6
 have r6:(H5.put h.next (.cells x)).read h.next 0 3=some x:=by rw [zcd zd8 (by omega),List.drop_zero,List.take_of_length_le (by omega)]
 have y6:ExtB [h.next] H5 (H5.put h.next (.cells x)):=(ExtB.refl _ _).put (.inr (by simp)) _
 have S6:=I.S.extB y6 (fun j hj hm=>by simp at hm;have:=own j hj;have:=xc.1;omega)
 have v0:((0:Int) == 0)=true:=rfl
 rw [zbi (F:=ir59) rfl rfl rfl]
 unfold ir59
 rw [zbp]
 simp only [za9,zap,zac,zas,zat,zam,za2,zb9,za5,zad,zaj,zaa,zae,zaf,zar,zax,zbq,zbd,zbo,zbb,za6,zbf,zag,za7,X.eval,zal,zai,List.map_cons,List.map_nil,List.getD_cons_zero,List.getD_cons_succ,List.getD_nil,List.set_cons_zero,List.set_cons_succ,zay,zaq,zab,zak,intArith,shift,cond_true,cond_false,BEq.rfl,AV.cells,Bool.not_true,Int.reduceLT,decide_false,hg0,fc,zen,f1,zbj,lx,w2',f4]
 rw [hr0 _ rfl]
 simp only [zap,zac,zas,zbu,zbl,zad,zaj,zaa,zae,zaf,zar,za4,zbo,zaz,za1,zag,X.eval,zal,zai,List.getD_cons_zero,List.getD_cons_succ,List.set_cons_zero,List.set_cons_succ,cond_true,BEq.rfl,AV.cells,AV.ofCells,AV.xv,za8,AV.ofCells,r5,zbj,lx,w6,zbk,zcb,RV.eval,r6]
 refine ⟨x,z,_,rfl,?_,((e0.trans xc).trans I.e).put (Nat.le_refl _) _,fun j hj=>by have:=own j hj;have:=(e0.trans xc).1;omega⟩
 rw [zer,hO];exact S6
def ze2 (s:MS) (e:Ev) (g:Nat):Bool:=decide (e.en > 0) && (e.rs.code == 0 && ((e.op.kd == 6 && e.op.pg == (g:Int)) || (e.op.kd == 7 && s.th.getD g false)))
def flG (l:List Ev) (g:Nat):MS→Int→List Nat→Int × MS
 | s,b,[]=>(b,s)
 | s,b,j :: r=>flG l g (zib s (zbh l j)) (if ze2 s (zbh l j) g=true then (if (zbh l j).st > b then (zbh l j).st else b) else b) r
theorem zrw {l:List Ev} {g:Nat}:∀ {s:MS} {b:Int} {a r:List Nat},flG l g s b (a++r)=flG l g (flG l g s b a).2 (flG l g s b a).1 r
 | _,_,[],_=>rfl
 | s,b,j :: a,r=>zrw (s:=zib s (zbh l j)) (b:=if ze2 s (zbh l j) g=true then (if (zbh l j).st > b then (zbh l j).st else b) else b) (a:=a) (r:=r)
def zg7 (l:List Ev) (p c g:Nat):Int:=(flG l g (zc6 p c) 0 (zby (stL l) l.length)).1
theorem SR.tsl {h h':Heap} {s s':MS} (S:SR h x z s) (S':SR h' x z s'):s'.th.length=s.th.length:=by
 have:=S.xe.symm.trans S'.xe
 simp only [List.cons.injEq,CV.sl.injEq,and_true,true_and] at this
 exact this.1.symm
theorem ztd {p c g:Nat} (hnew:zkl N d p c) (hp:0 < p) (hg:g < p) (E:Evs h y l) (K:HistOK l p c) (hN:1010≤N) (hd:6≤d) (hnew':zkl N (d + 1) p c) :
  ∃ h',evCallO OS table N (d + 2) 93 [.c y,.c (.int .i64 (p:Int)),.c (.int .i64 (c:Int)),.c (.int .i64 (g:Int))] h=some (.c (.int .i64 (zg7 l p c g)),h')∧Ext h h':=by
 obtain ⟨Hc,fc,xc⟩:=zkm hnew hp E K.hs K.al K.may K.ok hN (by omega)
 obtain ⟨x,z,H1,f1,S1,x1,own⟩:=hnew' Hc
 obtain ⟨H2,w2,g2,x2,n2⟩:=ze1 (h:=H1) (z:=[.nils,.nils,.nils]) (v:=x) (by rw [S1.len3];rfl)
 have lx:=S1.len3
 have w2':(H1.new (.cells [.nils,.nils,.nils])).write H1.next 0 x=some H2:=w2
 have xa:Ext h H2:=(xc.trans x1).trans x2
 obtain ⟨ox,H4,f4,m4,x4⟩:=zms (N:=N) (d:=d) (E.ext xa) K.hs hN
 have I0:OI Hc H1.next x z ox (zby (stL l) l.length) (zc6 p c) H4:=OI.start S1 own x1 x2 g2 (by omega) (Nat.le_refl _) x4 m4
 have Ec:=E.ext xc
 have hfl:zg7 l p c g=(flG l g (zc6 p c) 0 (zby (stL l) l.length)).1:=rfl
 generalize hO:zby (stL l) l.length=O at *
 have hOl:∀ k,k < O.length→O.getD k 0 < l.length:=fun k hk=>by rw [← hO] at hk ⊢;exact zu3 hk
 have hOn:O.length≤900:=by rw [← hO];exact Nat.le_trans (zix _ _) K.hs
 have lo:=I0.len
 obtain ⟨d,rfl⟩ : ∃ k,d=k + 6:=⟨d - 6,by omega⟩
 have L0:∀ loc,zbv ir93_k0 loc=[.c y,.c (.int .i64 (p:Int)),.junk,.c (.int .i64 (g:Int)),.junk,.c (.ptr H1.next 0),.c ox,.c (.int .i64 0),.c (.int .i64 0),.junk,.junk,.junk,.junk] →
   ∃ r,zcr (evCallO OS table N (d + 7)) N ir93_k0 ir93_l0 N loc H4=some r∧∃ a0 a1 a2 a3 a4 a5 a6 l' G,r=(.exit 0,a0 :: a1 :: a2 :: a3 :: a4 :: a5 :: a6 :: .c (.int .i64 (zg7 l p c g)) :: l',G)∧Ext Hc G:=by
  intro loc hloc
  refine zcl (n:=O.length) (fun k loc G=>OI Hc H1.next x z ox O (flG l g (zc6 p c) 0 (O.take k)).2 G∧loc=[.c y,.c (.int .i64 (p:Int)),.junk,.c (.int .i64 (g:Int)),.junk,.c (.ptr H1.next 0),.c ox,.c (.int .i64 (flG l g (zc6 p c) 0 (O.take k)).1),.c (.int .i64 (k:Int)),.junk,.junk,.junk,.junk]) _ ?_ ⟨I0,hloc⟩ (by omega)
  rintro k loc G hk ⟨I,rfl⟩
  unfold ir93_l0
  by_cases hlt:k < O.length
  ·left
   refine ⟨hlt,?_⟩
   have v1:=ze6 hlt
   have v2:=zdm (i:=k) (by omega)
   obtain ⟨j,q,cc,hox,hro⟩:=I.at_ hlt
   have hj:=hOl k hlt
   obtain ⟨b,c',dc,rc,hy,hb,hre,hd1,hr1⟩:=zlu Ec I.e hj
   have m1:Nat.blt k O.length=true:=zc0 hlt
   have m2:Nat.blt (O.getD k 0) l.length=true:=zc0 hj
   have htk:=zjt hlt
   have hnx:flG l g (zc6 p c) 0 (O.take (k + 1))=flG l g (flG l g (zc6 p c) 0 (O.take k)).2 (flG l g (zc6 p c) 0 (O.take k)).1 [O.getD k 0]:=by rw [htk,zrw]
   generalize hst:(flG l g (zc6 p c) 0 (O.take k)).2=s at *
   generalize hbs:(flG l g (zc6 p c) 0 (O.take k)).1=best at *
   have hcl:s.hs.length=c:=by rw [S1.hsl I.S];simp [zc6]
   have htl:s.th.length=p:=by rw [S1.tsl I.S];simp [zc6]
   generalize he:zbh l (O.getD k 0)=e at *
   obtain ⟨G1,w3,g3,x3,n3⟩:=ze1 (h:=G) (z:=[.int .i64 0,.int .i64 0,.int .i64 0,.int .i64 0,.int .i64 0,.int .i64 0,.nils,.int .i64 0,.int .i64 0,.int .i64 0,.nils,.int .i64 0,.int .i64 0,.int .i64 0]) (v:=evC e dc rc) rfl
   have w3':(G.new (.cells [.int .i64 0,.int .i64 0,.int .i64 0,.int .i64 0,.int .i64 0,.int .i64 0,.nils,.int .i64 0,.int .i64 0,.int .i64 0,.nils,.int .i64 0,.int .i64 0,.int .i64 0])).write G.next 0 (evC e dc rc)=some G1:=w3
   have I1:=I.more x3
   have a1:G1.read G.next 1 1=some [.int .i64 e.op.kd]:=zah g3 rfl
   have a2:G1.read G.next 2 1=some [.int .i64 e.op.pg]:=zah g3 rfl
   have a7:G1.read G.next 7 1=some [.int .i64 e.rs.code]:=zah g3 rfl
   have a12:G1.read G.next 12 1=some [.int .i64 e.st]:=zah g3 rfl
   have a13:G1.read G.next 13 1=some [.int .i64 e.en]:=zah g3 rfl
   have aa:G1.read G.next 0 14=some (evC e dc rc):=by rw [zcd g3 (by rw [zdc];omega)];rfl
   have r3:=I1.r4
   have r0:G1.read H1.next 0 1=some [.sl z.t 0 s.th.length z.ct]:=zah I1.b4 (by rw [I1.S.xe];rfl)
   have m3:Nat.blt g s.th.length=true:=zc0 (by omega)
   have k6:=I1.S.rt (i:=g) (by omega)
   have hmay:=K.may _ hj
   rw [he] at hmay
   obtain ⟨G2,f5,S5,x5⟩:=zw3 (N:=N) (d:=d + 3) (rc:=rc) I1.S (e:=e) (by rw [hcl];exact hmay) (hd1.ext (I.e.trans x3)) (by omega)
   have hfin:=I1.step S5 x5
   have g0:decide ((g:Int) ≥ 0)=true:=decide_eq_true (by omega)
   have gp:decide ((g:Int) < (p:Int))=true:=decide_eq_true (by omega)
   have fin:∀ (v:Int),(if ze2 s e g=true then (if e.st > best then e.st else best) else best)=v→OI Hc H1.next x z ox O (flG l g (zc6 p c) 0 (O.take (k + 1))).2 G2∧(flG l g (zc6 p c) 0 (O.take (k + 1))).1=v:=by
    intro v hv
    rw [hnx]
    simp only [flG,he,hv]
    exact ⟨hfin,trivial⟩
   subst hox
   subst hy
   cases k1:decide (e.en > 0) with
   | false =>
    obtain ⟨I2,hb2⟩:=fin best (by simp only [ze2,k1,Bool.false_and,Bool.false_eq_true,if_false])
    simp only [zap,zac,zas,zat,zav,zam,za2,zbm,za5,zad,zaj,zaa,zau,zae,zbn,zaf,zar,zax,zbq,zba,zbg,za4,zbt,zbd,zbo,zbb,za6,zbe,zbf,zag,za7,X.eval,zal,zai,List.map_cons,List.map_nil,List.getD_cons_zero,List.getD_cons_succ,List.set_cons_zero,List.set_cons_succ,zay,zaq,zab,zak,intArith,shift,zbc,cond_true,cond_false,BEq.rfl,AV.cells,AV.ofCells,Nat.zero_add,Int.reduceLT,decide_false,ft,lo,v1,zbr,za0,za3,za8,AV.ofCells,m1,hro,m2,hre,zbj,zdc,w3',a13,r3,aa,f5,v2,Nat.mul_one,Nat.zero_add,k1]
    exact ⟨_,_,rfl,I2,by rw [hb2];rfl⟩
   | true =>
    cases k2:(e.rs.code == 0) with
    | false =>
     obtain ⟨I2,hb2⟩:=fin best (by simp only [ze2,k1,k2,Bool.false_and,Bool.and_false,Bool.false_eq_true,if_false])
     simp only [zap,zac,zas,zat,zav,zam,za2,zbm,za5,zad,zaj,zaa,zau,zae,zbn,zaf,zar,zax,zbq,zba,zbg,za4,zbt,zbd,zbo,zbb,za6,zbe,zbf,zag,za7,X.eval,zal,zai,List.map_cons,List.map_nil,List.getD_cons_zero,List.getD_cons_succ,List.set_cons_zero,List.set_cons_succ,zay,zaq,zab,zak,intArith,shift,zbc,cond_true,cond_false,BEq.rfl,AV.cells,AV.ofCells,Nat.zero_add,Nat.add_zero,Int.reduceLT,decide_false,ft,lo,v1,zbr,za0,za3,za8,AV.ofCells,m1,hro,m2,hre,zbj,zdc,w3',a7,a13,r3,aa,f5,v2,Nat.mul_one,Nat.zero_add,k1,k2]
     exact ⟨_,_,rfl,I2,by rw [hb2];rfl⟩
    | true =>
     cases k3:(e.op.kd == 6) with
     | false =>
      cases k5:(e.op.kd == 7) with
      | false =>
       obtain ⟨I2,hb2⟩:=fin best (by simp only [ze2,k1,k2,k3,k5,Bool.false_and,Bool.and_false,Bool.or_false,Bool.false_eq_true,if_false])
       simp only [zap,zac,zas,zat,zav,zam,za2,zbm,za5,zad,zaj,zaa,zau,zae,zbn,zaf,zar,zax,zbq,zba,zbg,za4,zbt,zbd,zbo,zbb,za6,zbe,zbf,zag,za7,X.eval,zal,zai,List.map_cons,List.map_nil,List.getD_cons_zero,List.getD_cons_succ,List.set_cons_zero,List.set_cons_succ,zay,zaq,zab,zak,intArith,shift,zbc,cond_true,cond_false,BEq.rfl,AV.cells,AV.ofCells,Nat.zero_add,Nat.add_zero,Int.reduceLT,decide_false,ft,lo,v1,zbr,za0,za3,za8,AV.ofCells,m1,hro,m2,hre,zbj,zdc,w3',a1,a7,a13,r3,aa,f5,v2,Nat.mul_one,Nat.zero_add,k1,k2,k3,k5]
       exact ⟨_,_,rfl,I2,by rw [hb2];rfl⟩
      | true =>
       cases k7:(s.th.getD g false) with
       | false =>
        rw [k7] at k6
        obtain ⟨I2,hb2⟩:=fin best (by simp only [ze2,k1,k2,k3,k5,k7,Bool.false_and,Bool.and_false,Bool.or_false,Bool.false_eq_true,if_false])
        simp only [zap,zac,zas,zat,zav,zam,za2,zbm,za5,zad,zaj,zaa,zau,zae,zbn,zaf,zar,zax,zbq,zba,zbg,za4,zbt,zbd,zbo,zbb,za6,zbe,zbf,zag,za7,X.eval,zal,zai,List.map_cons,List.map_nil,List.getD_cons_zero,List.getD_cons_succ,List.set_cons_zero,List.set_cons_succ,zay,zaq,zab,zak,intArith,shift,zbc,cond_true,cond_false,BEq.rfl,AV.cells,AV.ofCells,Nat.zero_add,Nat.add_zero,Int.reduceLT,decide_false,ft,lo,v1,zbr,za0,za3,za8,AV.ofCells,m1,hro,m2,hre,zbj,zdc,w3',a1,a7,a13,r3,r0,m3,k6,aa,f5,g0,gp,v2,Nat.mul_one,Nat.zero_add,k1,k2,k3,k5]
        exact ⟨_,_,rfl,I2,by rw [hb2];rfl⟩
       | true =>
        rw [k7] at k6
        obtain ⟨I2,hb2⟩:=fin (if e.st > best then e.st else best) (by simp only [ze2,k1,k2,k3,k5,k7,Bool.false_and,Bool.false_or,Bool.and_true,if_true])
        simp only [zap,zac,zas,zat,zav,za2,zbm,za5,zad,zaj,zaa,zau,zae,zbn,zaf,zar,zax,zbq,zba,zbg,za4,zbt,zss,zbd,zbo,zbb,za6,zbe,zbf,zag,za7,X.eval,zal,zai,List.map_cons,List.map_nil,List.getD_cons_zero,List.getD_cons_succ,List.set_cons_zero,List.set_cons_succ,zay,zaq,zab,zak,intArith,shift,zbc,cond_true,cond_false,BEq.rfl,AV.cells,AV.ofCells,Nat.zero_add,Nat.add_zero,Int.reduceLT,decide_false,ft,lo,v1,zbr,za0,za3,za8,AV.ofCells,m1,hro,m2,hre,zbj,zdc,w3',a1,a7,a12,a13,r3,r0,m3,k6,aa,f5,g0,gp,v2,Nat.mul_one,Nat.zero_add,zwt,zdg,k1,k2,k3,k5]
        exact ⟨_,_,rfl,I2,by rw [hb2];rfl⟩
     | true =>
      cases k4:(e.op.pg == (g:Int)) with
      | false =>
       cases k5:(e.op.kd == 7) with
       | false =>
        obtain ⟨I2,hb2⟩:=fin best (by simp only [ze2,k1,k2,k3,k4,k5,Bool.false_and,Bool.and_false,Bool.or_false,Bool.false_eq_true,if_false])
        simp only [zap,zac,zas,zat,zav,zam,za2,zbm,za5,zad,zaj,zaa,zau,zae,zbn,zaf,zar,zax,zbq,zba,zbg,za4,zbt,zbd,zbo,zbb,za6,zbe,zbf,zag,za7,X.eval,zal,zai,List.map_cons,List.map_nil,List.getD_cons_zero,List.getD_cons_succ,List.set_cons_zero,List.set_cons_succ,zay,zaq,zab,zak,intArith,shift,zbc,cond_true,cond_false,BEq.rfl,AV.cells,AV.ofCells,Nat.zero_add,Nat.add_zero,Nat.reduceAdd,Int.reduceLT,decide_false,ft,lo,v1,zbr,za0,za3,za8,AV.ofCells,m1,hro,m2,hre,zbj,zdc,w3',a1,a2,a7,a13,r3,aa,f5,v2,Nat.mul_one,Nat.zero_add,k1,k2,k3,k4,k5]
        exact ⟨_,_,rfl,I2,by rw [hb2];rfl⟩
       | true =>
        cases k7:(s.th.getD g false) with
        | false =>
         rw [k7] at k6
         obtain ⟨I2,hb2⟩:=fin best (by simp only [ze2,k1,k2,k3,k4,k5,k7,Bool.and_false,Bool.or_false,Bool.false_eq_true,if_false])
         simp only [zap,zac,zas,zat,zav,zam,za2,zbm,za5,zad,zaj,zaa,zau,zae,zaf,zar,zax,zbq,zba,zbg,za4,zbt,zbd,zbo,zbb,za6,zbe,zbf,zag,za7,X.eval,zal,zai,List.map_cons,List.map_nil,List.getD_cons_zero,List.getD_cons_succ,List.set_cons_zero,List.set_cons_succ,zay,zaq,zab,zak,intArith,shift,zbc,cond_true,cond_false,BEq.rfl,AV.cells,AV.ofCells,Nat.zero_add,Nat.add_zero,Nat.reduceAdd,Int.reduceLT,decide_false,lo,v1,zbr,za0,za3,za8,AV.ofCells,m1,hro,m2,hre,zbj,zdc,w3',a1,a2,a7,a13,r3,r0,m3,k6,aa,f5,g0,gp,v2,Nat.mul_one,Nat.zero_add,k1,k2,k3,k4,k5]
         exact ⟨_,_,rfl,I2,by rw [hb2];rfl⟩
        | true =>
         rw [k7] at k6
         obtain ⟨I2,hb2⟩:=fin (if e.st > best then e.st else best) (by simp only [ze2,k1,k2,k3,k4,k5,k7,Bool.and_false,Bool.false_or,Bool.and_true,if_true])
         simp only [zap,zac,zas,zat,zav,za2,zbm,za5,zad,zaj,zaa,zau,zae,zaf,zar,zax,zbq,zba,zbg,za4,zbt,zss,zbd,zbo,zbb,za6,zbe,zbf,zag,za7,X.eval,zal,zai,List.map_cons,List.map_nil,List.getD_cons_zero,List.getD_cons_succ,List.set_cons_zero,List.set_cons_succ,zay,zaq,zab,zak,intArith,shift,zbc,cond_true,cond_false,BEq.rfl,AV.cells,AV.ofCells,Nat.zero_add,Nat.add_zero,Nat.reduceAdd,Int.reduceLT,decide_false,lo,v1,zbr,za0,za3,za8,AV.ofCells,m1,hro,m2,hre,zbj,zdc,w3',a1,a2,a7,a12,a13,r3,r0,m3,k6,aa,f5,g0,gp,v2,Nat.mul_one,Nat.zero_add,zwt,zdg,k1,k2,k3,k4,k5]
         exact ⟨_,_,rfl,I2,by rw [hb2];rfl⟩
      | true =>
       obtain ⟨I2,hb2⟩:=fin (if e.st > best then e.st else best) (by simp only [ze2,k1,k2,k3,k4,Bool.true_or,Bool.and_true,if_true])
       simp only [zap,zac,zas,zat,zav,za2,zbm,za5,zad,zaj,zaa,zau,zae,zbn,zaf,zar,zax,zbq,zba,zbg,za4,zbt,zss,zbd,zbo,zbb,za6,zbe,zbf,zag,za7,X.eval,zal,zai,List.map_cons,List.map_nil,List.getD_cons_zero,List.getD_cons_succ,List.set_cons_zero,List.set_cons_succ,zay,zaq,zab,zak,intArith,shift,zbc,cond_true,cond_false,BEq.rfl,AV.cells,AV.ofCells,Nat.zero_add,Nat.add_zero,Nat.reduceAdd,Int.reduceLT,decide_false,tf,lo,v1,zbr,za0,za3,za8,AV.ofCells,m1,hro,m2,hre,zbj,zdc,w3',a1,a2,a7,a12,a13,r3,aa,f5,v2,Nat.mul_one,Nat.zero_add,zwt,zdg,k1,k2,k3,k4]
       exact ⟨_,_,rfl,I2,by rw [hb2];rfl⟩
  ·right
   have:k=O.length:=by omega
   subst this
   have v1:decide ((O.length:Int) < (O.length:Int))=false:=zfg (Nat.le_refl _)
   rw [List.take_length] at I
   simp only [zap,zac,zb2,zas,zat,zam,zcf,zad,zaj,zaa,zae,zaf,zar,zax,zbg,za6,zag,X.eval,zal,zai,List.getD_cons_zero,List.getD_cons_succ,List.set_cons_zero,List.set_cons_succ,zay,zaq,zab,zak,intArith,shift,cond_true,cond_false,BEq.rfl,lo,v1]
   rw [List.take_length,hfl]
   exact ⟨_,rfl,by simp,_,_,_,_,_,_,_,_,_,rfl,I.e⟩
 obtain ⟨r0,⟨a0,a1,a2,a3,a4,a5,a6,l',H5,rfl,x5⟩,hr0⟩:=zcn L0 rfl
 have v0:((0:Int) == 0)=true:=rfl
 rw [zbi (F:=ir93) rfl rfl rfl]
 unfold ir93
 rw [zbp]
 simp only [za9,zap,zac,zas,zat,zam,za2,zb9,za5,zad,zaj,zaa,zae,zaf,zar,zax,zbq,zbd,zbo,zbb,za6,zbf,zag,za7,X.eval,zal,zai,List.map_cons,List.map_nil,List.getD_cons_zero,List.getD_cons_succ,List.getD_nil,List.set_cons_zero,List.set_cons_succ,zay,zaq,zab,zak,intArith,shift,cond_true,cond_false,BEq.rfl,AV.cells,Int.reduceNeg,Bool.not_true,Int.reduceLT,decide_false,fc,zen,f1,zbj,lx,w2',f4]
 rw [hr0 _ rfl]
 simp only [zap,zac,zas,zbu,zbl,zad,zaj,zaa,zae,zaf,zar,zaz,za1,X.eval,zal,zai,List.getD_cons_zero,List.getD_cons_succ,List.set_cons_zero,List.set_cons_succ,cond_true,BEq.rfl,zbk,RV.eval]
 exact ⟨H5,rfl,xc.trans x5⟩
end
end Lav
set_option maxRecDepth 100000
namespace Lav
open Go (IntKind)
def znp (b:BitVec 32):BitVec 32:=if (b &&& 1#32)=1#32 then (b >>> 1) ^^^ 2748603157#32 else b >>> 1
def zqj:Nat→BitVec 32→BitVec 32
 | 0,b=>b
 | n + 1,b=>zqj n (znp b)
def zkn (s:BitVec 32) (c:BitVec 8):BitVec 32:=zqj 8 (s ^^^ c.setWidth 32)
def u32 (b:BitVec 32):AV:=.c (.int .u32 (b.toNat:Int))
def u8 (b:BitVec 8):AV:=.c (.int .u8 (b.toNat:Int))
theorem ofInt32 (b:BitVec 32):BitVec.ofInt IntKind.u32.bits (b.toNat:Int)=b:=by
 show BitVec.ofInt 32 _=b
 rw [BitVec.ofInt_natCast];simp
theorem wrap32 (b:BitVec 32):IntKind.u32.wrap (b.toNat:Int)=(b.toNat:Int):=by
 have:=b.isLt
 simp only [IntKind.wrap,IntKind.bits,IntKind.signed]
 simp
 omega
theorem zyd (b c:BitVec 32):IntKind.u32.wrap ((BitVec.ofInt IntKind.u32.bits (b.toNat:Int) ^^^ BitVec.ofInt IntKind.u32.bits (c.toNat:Int)).toNat:Int)=((b ^^^ c).toNat:Int):=by
 rw [ofInt32,ofInt32];exact wrap32 _
theorem zaaw (b:BitVec 32):IntKind.u32.wrap ((BitVec.ofInt IntKind.u32.bits (b.toNat:Int) ^^^ BitVec.ofInt IntKind.u32.bits 2748603157).toNat:Int)=((b ^^^ 2748603157#32).toNat:Int):=zyd b 2748603157#32
theorem zaio (b:BitVec 32):IntKind.u32.wrap ((BitVec.ofInt IntKind.u32.bits (b.toNat:Int) &&& BitVec.ofInt IntKind.u32.bits 1).toNat:Int)=((b &&& 1#32).toNat:Int):=by
 rw [ofInt32];exact wrap32 (b &&& 1#32)
theorem zaip (b:BitVec 32):(b.toNat:Int).fdiv (2 ^ (min (Int.toNat 1) IntKind.u32.bits))=((b >>> 1).toNat:Int):=by
 show (b.toNat:Int).fdiv 2=_
 rw [BitVec.toNat_ushiftRight,Nat.shiftRight_eq_div_pow]
 simp [Int.fdiv_eq_ediv_of_nonneg]
theorem zaax (c:BitVec 8):IntKind.u32.wrap (c.toNat:Int)=((c.setWidth 32).toNat:Int):=by
 have:=c.isLt
 have e:(c.setWidth 32).toNat=c.toNat:=by simp;omega
 rw [e]
 simp only [IntKind.wrap,IntKind.bits,IntKind.signed]
 simp
 omega
theorem eq32 (b c:BitVec 32):((b.toNat:Int) == (c.toNat:Int))=decide (b=c):=by
 by_cases h:b=c
 ·subst h;simp
 ·have:b.toNat≠c.toNat:=fun e=>h (BitVec.eq_of_toNat_eq e)
  simp [h];omega
theorem zaiq (b:BitVec 32):((b.toNat:Int) == 1)=decide (b=1#32):=eq32 b 1#32
theorem zu4 {i:Nat} (h:i < 1000000):IntKind.i64.wrap ((i:Int) + 1)=((i + 1:Nat):Int):=by
 simp only [IntKind.wrap,IntKind.bits,IntKind.signed]
 simp
 omega
section
variable {call:Nat→List AV→Heap→Option (AV × Heap)} {N:Nat} {h:Heap}
theorem znq {keep:List Bool} {a:IR} {n:Nat} {loc loc1 loc':List AV} {h':Heap} (hk:zbv keep loc=loc1) (he:ev call N a loc1 h=some (.norm,loc',h')):zcr call N keep a (n + 1) loc h=zcr call N keep a n loc' h':=by
 rw [zfd,hk,he];rfl
theorem zo4 {keep:List Bool} {a:IR} {n j:Nat} {loc loc1 loc':List AV} {h':Heap} (hk:zbv keep loc=loc1) (he:ev call N a loc1 h=some (.exit j,loc',h')):zcr call N keep a (n + 1) loc h=some (.exit j,loc',h'):=by
 rw [zfd,hk,he];rfl
def low (b:BitVec 32):Bool:=decide (b &&& 1#32=1#32)
theorem zu5 (b:BitVec 32):znp b=if low b=true then (b >>> 1) ^^^ 2748603157#32 else b >>> 1:=by
 unfold znp low;by_cases h:b &&& 1#32=1#32<;>simp [h]
end
def zpc (s:BitVec 32) (bs:List (BitVec 8)):BitVec 32:=bs.foldl zkn s
def bof (bs:List (BitVec 8)):BitVec 32:= ~~~(zpc 4294967295#32 bs)
theorem zair (b:BitVec 32):IntKind.u32.wrap ((BitVec.ofInt IntKind.u32.bits (if IntKind.u32.signed then -1 else IntKind.u32.max) ^^^ BitVec.ofInt IntKind.u32.bits (b.toNat:Int)).toNat:Int)=((~~~b).toNat:Int):=by
 have e:BitVec.ofInt 32 (if IntKind.u32.signed then -1 else IntKind.u32.max)=BitVec.allOnes 32:=by decide
 have o:BitVec.ofInt 32 (b.toNat:Int)=b:=ofInt32 b
 show IntKind.u32.wrap ((BitVec.ofInt 32 (if IntKind.u32.signed then -1 else IntKind.u32.max) ^^^ BitVec.ofInt 32 (b.toNat:Int)).toNat:Int)=_
 rw [e,o]
 have x:BitVec.allOnes 32 ^^^ b = ~~~b:=BitVec.allOnes_xor
 rw [x]
 exact wrap32 _
section
variable {call:Nat→List AV→Heap→Option (AV × Heap)} {N:Nat} {h:Heap}
end
end Lav
set_option maxRecDepth 100000
namespace Lav
open Go (IntKind)
def zc5 (id:Nat) (body:List (BitVec 8)):List (BitVec 8):=[BitVec.ofNat 8 (id + 1),0#8,90#8,165#8]++body
def byteOf (s:BitVec 32) (i:Nat):BitVec 8:=(s >>> (8 * i)).setWidth 8
def zic (id:Nat) (body:List (BitVec 8)):List (BitVec 8):=[byteOf (bof (zc5 id body)) 0,byteOf (bof (zc5 id body)) 1,byteOf (bof (zc5 id body)) 2,byteOf (bof (zc5 id body)) 3]++zc5 id body
theorem zais (b:BitVec 32):IntKind.u8.wrap (b.toNat:Int)=((b.setWidth 8).toNat:Int):=by
 have hb:=b.isLt
 rw [BitVec.toNat_setWidth]
 generalize b.toNat=n at *
 simp only [IntKind.wrap,IntKind.bits,IntKind.signed]
 simp
theorem zaay (b:BitVec 32) (i:Nat) (hi:i < 4):(b.toNat:Int).fdiv (2 ^ (min (Int.toNat ((8 * i:Nat):Int)) IntKind.u32.bits))=((b >>> (8 * i)).toNat:Int):=by
 rw [BitVec.toNat_ushiftRight,Nat.shiftRight_eq_div_pow,Int.toNat_natCast]
 have e:min (8 * i) IntKind.u32.bits=8 * i:=by simp only [IntKind.bits];omega
 rw [e,Int.fdiv_eq_ediv_of_nonneg _ (by exact_mod_cast Nat.zero_le _)]
 norm_cast
section
variable {N d:Nat} {h:Heap}
end
end Lav
set_option maxRecDepth 100000
namespace Lav
open Go (IntKind)
section
variable {N d:Nat} {h:Heap}
end
end Lav
set_option maxRecDepth 100000
namespace Lav
open Go (IntKind)
section
variable {call:Nat→List AV→Heap→Option (AV × Heap)} {N:Nat} {h:Heap}
theorem zte {b:BitVec 32} {i:Nat} (hi:i < 8):ev call N ir262_l0 [.c (.int .u32 (b.toNat:Int)),.junk,.junk,.c (.int .i64 (i:Int)),.junk,.junk,.junk] h =
  some (.norm,[.c (.int .u32 ((znp b).toNat:Int)),.junk,.junk,.c (.int .i64 ((i + 1:Nat):Int)),.c (.int .u32 ((b &&& 1#32).toNat:Int)),.c (.bool true),.c (.bool (low b))],h):=by
 have hlt:decide ((i:Int) < 8)=true:=by simp;omega
 unfold ir262_l0
 rw [zu5]
 have hlow:decide (b &&& 1#32=1#32)=low b:=rfl
 cases hb:low b<;>simp only [zap,zac,zas,zat,zav,zam,za2,zbm,za5,zad,zaj,zaa,zae,zaf,zar,zax,zao,zag,X.eval,zal,zai,List.getD_cons_zero,List.getD_cons_succ,List.set_cons_zero,List.set_cons_succ,zay,zaq,zab,zak,intArith,shift,cond_true,cond_false,BEq.rfl,Bool.false_eq_true,Int.reduceLT,decide_false,hlt,zu4 (show i < 1000000 by omega),zaaw,zaio,zaip,zaiq,hlow,hb,if_true,if_false]<;>rfl
theorem zu6 {b:BitVec 32}:ev call N ir262_l0 [.c (.int .u32 (b.toNat:Int)),.junk,.junk,.c (.int .i64 8),.junk,.junk,.junk] h =
  some (.exit 0,[.c (.int .u32 (b.toNat:Int)),.junk,.junk,.c (.int .i64 8),.junk,.c (.bool false),.junk],h):=rfl
theorem ztf:∀ (j:Nat) (i:Nat) (b:BitVec 32) (y1 y2 y4 y5 y6:AV) (n:Nat),i + j=8→∃ z4,zcr call N ir262_k0 ir262_l0 (n + j + 1) [.c (.int .u32 (b.toNat:Int)),y1,y2,.c (.int .i64 (i:Int)),y4,y5,y6] h =
  some (.exit 0,[.c (.int .u32 ((zqj j b).toNat:Int)),.junk,.junk,.c (.int .i64 8),.junk,z4,.junk],h):=by
 intro j
 induction j with
 | zero =>
  intro i b y1 y2 y4 y5 y6 n hij
  have:i=8:=by omega
  subst this
  exact ⟨_,zo4 rfl zu6⟩
 | succ j ih =>
  intro i b y1 y2 y4 y5 y6 n hij
  obtain ⟨z,hz⟩:=ih (i + 1) (znp b) .junk .junk (.c (.int .u32 ((b &&& 1#32).toNat:Int))) (.c (.bool true)) (.c (.bool (low b))) n (by omega)
  exact ⟨z,(znq rfl (zte (by omega))).trans hz⟩
theorem zw7 {M d:Nat} (s:BitVec 32) (c:BitVec 8) (h:Heap):evCallO OS table (M + 9) (d + 1) 262 [.c (.int .u32 (s.toNat:Int)),.c (.int .u8 (c.toNat:Int))] h=some (.c (.int .u32 ((zkn s c).toNat:Int)),h):=by
 rw [zbi (F:=ir262) rfl rfl rfl]
 unfold ir262
 rw [zbp]
 obtain ⟨z,hz⟩:=ztf (call:=evCallO OS table (M + 9) d) (N:=M + 9) (h:=h) 8 0 (s ^^^ c.setWidth 32) (.c (.int .u8 (c.toNat:Int))) (.c (.int .u32 0)) (.tup []) (.tup []) (.tup []) M rfl
 have hz':zcr (evCallO OS table (M + 9) d) (M + 9) ir262_k0 ir262_l0 (M + 9) [.c (.int .u32 ((s ^^^ c.setWidth 32).toNat:Int)),.c (.int .u8 (c.toNat:Int)),.c (.int .u32 0),.c (.int .i64 0),.tup [],.tup [],.tup []] h=_:=hz
 simp only [za9,zap,zac,zas,za2,zbu,zb9,zbl,zad,zaj,zaa,zae,zaf,zar,zln,zax,zco,zc8,zaz,za1,zao,zag,X.eval,zal,zai,List.map_cons,List.map_nil,List.getD_cons_zero,List.getD_cons_succ,List.getD_nil,List.set_cons_zero,List.set_cons_succ,zay,zaq,zab,zak,zgl,intArith,shift,cond_true,cond_false,BEq.rfl,zaax,zyd,hz']
 rfl
theorem ztg {s:BitVec 32} {bs:List (BitVec 8)} {j:Nat} (hj:j < bs.length) (hn:bs.length < 1000000)
  (T:call 262 [.c (.int .u32 (s.toNat:Int)),.c (.int .u8 (bs[j].toNat:Int))] h=some (.c (.int .u32 ((zkn s bs[j]).toNat:Int)),h)) :
  ev call N ir228_l0 [.c (.int .u32 (s.toNat:Int)),.c (.str (strOf bs)),.junk,.c (.int .i64 (j:Int)),.junk] h =
   some (.norm,[.c (.int .u32 ((zkn s bs[j]).toNat:Int)),.c (.str (strOf bs)),.junk,.c (.int .i64 ((j + 1:Nat):Int)),.c (.bool true)],h):=by
 have hlen:(strOf bs).length=bs.length:=by simp [strOf]
 have hlt:decide ((j:Int) < (bs.length:Int))=true:=by simp;omega
 have hg:(strOf bs)[j]? = some bs[j].toNat:=by simp [strOf,hj]
 unfold ir228_l0
 simp only [zap,zac,zas,zat,zav,za2,zbm,za5,zad,zaj,zaa,zae,zaf,zar,zax,zbg,zyu,zbd,zbb,zao,zag,X.eval,zal,zai,List.map_cons,List.map_nil,List.getD_cons_zero,List.getD_cons_succ,List.set_cons_zero,List.set_cons_succ,zay,zaq,zab,zak,intArith,shift,zbc,cond_true,cond_false,BEq.rfl,Int.reduceLT,decide_false,zne,hlen,hlt,hg,T,zu4 (show j < 1000000 by omega)]
theorem zu7 {s:BitVec 32} {bs:List (BitVec 8)}:ev call N ir228_l0 [.c (.int .u32 (s.toNat:Int)),.c (.str (strOf bs)),.junk,.c (.int .i64 (bs.length:Int)),.junk] h =
  some (.exit 0,[.c (.int .u32 (s.toNat:Int)),.c (.str (strOf bs)),.junk,.c (.int .i64 (bs.length:Int)),.c (.bool false)],h):=by
 have hlen:(strOf bs).length=bs.length:=by simp [strOf]
 have hlt:decide ((bs.length:Int) < (bs.length:Int))=false:=by simp
 unfold ir228_l0
 simp only [zap,zac,zb2,zas,zat,zam,zcf,zad,zaj,zaa,zae,zaf,zar,zax,zbg,zao,zag,X.eval,zal,zai,List.getD_cons_zero,List.getD_cons_succ,List.set_cons_zero,List.set_cons_succ,zay,zaq,zab,zak,intArith,shift,cond_true,cond_false,BEq.rfl,zne,hlen,hlt]
theorem zth (T:∀ (s:BitVec 32) (c:BitVec 8) (h:Heap),call 262 [.c (.int .u32 (s.toNat:Int)),.c (.int .u8 (c.toNat:Int))] h=some (.c (.int .u32 ((zkn s c).toNat:Int)),h))
  {bs:List (BitVec 8)} (hn:bs.length < 1000000):∀ (k j:Nat) (s:BitVec 32) (y2 y4:AV) (n:Nat),j + k=bs.length →
  zcr call N ir228_k0 ir228_l0 (n + k + 1) [.c (.int .u32 (s.toNat:Int)),.c (.str (strOf bs)),y2,.c (.int .i64 (j:Int)),y4] h =
   some (.exit 0,[.c (.int .u32 ((zpc s (bs.drop j)).toNat:Int)),.c (.str (strOf bs)),.junk,.c (.int .i64 (bs.length:Int)),.c (.bool false)],h):=by
 intro k
 induction k with
 | zero =>
  intro j s y2 y4 n hj
  have:j=bs.length:=by omega
  subst this
  rw [List.drop_length]
  exact zo4 rfl zu7
 | succ k ih =>
  intro j s y2 y4 n hj
  have hlt:j < bs.length:=by omega
  have hd:bs.drop j=bs[j] :: bs.drop (j + 1):=List.drop_eq_getElem_cons hlt
  refine (znq rfl (ztg hlt hn (T _ _ _))).trans ?_
  rw [hd];exact ih (j + 1) (zkn s bs[j]) .junk (.c (.bool true)) n (by omega)
end
theorem zw8 {N d:Nat} {s:BitVec 32} {bs:List (BitVec 8)} {h:Heap} (hN:bs.length + 9≤N) (hn:bs.length < 1000000) :
  evCallO OS table N (d + 2) 228 [.c (.int .u32 (s.toNat:Int)),.c (.str (strOf bs))] h=some (.c (.int .u32 ((zpc s bs).toNat:Int)),h):=by
 obtain ⟨m,rfl⟩ : ∃ m,N=m + 9:=⟨N - 9,by omega⟩
 have T:∀ (s:BitVec 32) (c:BitVec 8) (h:Heap),evCallO OS table (m + 9) (d + 1) 262 [.c (.int .u32 (s.toNat:Int)),.c (.int .u8 (c.toNat:Int))] h=some (.c (.int .u32 ((zkn s c).toNat:Int)),h):=fun s c h=>zw7 s c h
 rw [zbi (F:=ir228) rfl rfl rfl]
 unfold ir228
 rw [zbp]
 obtain ⟨q,hq⟩ : ∃ q,m + 9=q + bs.length + 1:=⟨m + 8 - bs.length,by omega⟩
 have hz:=zth (call:=evCallO OS table (m + 9) (d + 1)) (N:=m + 9) (h:=h) T hn bs.length 0 s (.c (.int .u32 0)) (.tup []) q (by omega)
 rw [← hq] at hz
 have hz':zcr (evCallO OS table (m + 9) (d + 1)) (m + 9) ir228_k0 ir228_l0 (m + 9) [.c (.int .u32 (s.toNat:Int)),.c (.str (strOf bs)),.c (.int .u32 0),.c (.int .i64 0),.tup []] h=_:=hz
 rw [List.drop_zero] at hz'
 simp only [za9,zap,zac,zas,za2,zbu,zb9,zbl,zad,zaj,zaa,zae,zaf,zar,zco,zc8,zaz,za1,X.eval,zal,zai,List.map_cons,List.map_nil,List.getD_cons_zero,List.getD_cons_succ,List.getD_nil,List.set_cons_zero,List.set_cons_succ,cond_true,BEq.rfl,hz']
theorem zaaz {N d:Nat} {bs:List (BitVec 8)} {h:Heap} (hN:bs.length + 9≤N) (hn:bs.length < 1000000) :
  evCallO OS table N (d + 3) 189 [.c (.str (strOf bs))] h=some (.c (.int .u32 ((bof bs).toNat:Int)),h):=by
 have M:evCallO OS table N (d + 2) 228 [.c (.int .u32 4294967295),.c (.str (strOf bs))] h=some (.c (.int .u32 ((zpc 4294967295#32 bs).toNat:Int)),h):=zw8 (s:=4294967295#32) hN hn
 rw [zbi (F:=ir189) rfl rfl rfl]
 unfold ir189
 rw [zbp]
 simp only [za9,zap,zac,zas,zbl,zad,zaj,zaa,zae,zaf,zar,zdq,zbd,zbb,zco,zc8,zaz,za1,zao,zag,X.eval,zal,zai,List.map_cons,List.map_nil,List.getD_cons_zero,List.getD_cons_succ,List.getD_nil,List.set_cons_zero,List.set_cons_succ,zdk,zab,intArith,Int.reduceNeg,M,zair]
 rfl
section
variable {N d:Nat} {h:Heap}
theorem zrx (s:BitVec 32) {k:Nat} (h1:1≤k) (hk:k≤4) (hN:10≤N):∃ h',evCallO OS table N (d + 1) 188 [.c (.int .u32 (s.toNat:Int)),.c (.int .i64 (k:Int))] h=some (.c (.str (strOf ((List.range k).map (byteOf s)))),h')∧Ext h h':=by
 rw [zbi (F:=ir188) rfl rfl rfl]
 unfold ir188
 rw [zbp]
 have L:∀ loc,zbv ir188_k0 loc=[.c (.int .u32 (s.toNat:Int)),.c (.int .i64 (k:Int)),.junk,.c .nils,.c (.int .i64 0),.junk] →
   ∃ r,zcr (evCallO OS table N d) N ir188_k0 ir188_l0 N loc h=some r∧∃ a0 a1 a2 y l h',r=(.exit 0,a0 :: a1 :: a2 :: .c y :: l,h')∧Mine 1 h h' y k (u8s ((List.range k).map (byteOf s)))∧Ext h h':=by
  intro loc hloc
  refine zcl (n:=k) (fun i loc h'=>∃ y,Mine 1 h h' y i (u8s ((List.range i).map (byteOf s)))∧Ext h h'∧loc=[.c (.int .u32 (s.toNat:Int)),.c (.int .i64 (k:Int)),.junk,.c y,.c (.int .i64 (i:Int)),.junk]) _ ?_ ⟨.nils,Mine.nil,Ext.refl _,hloc⟩ (by omega)
  rintro i loc h' hi ⟨y,my,he,rfl⟩
  unfold ir188_l0
  by_cases hlt:i < k
  ·left
   refine ⟨hlt,?_⟩
   have v1:decide ((i:Int) < (k:Int))=true:=ze6 hlt
   have v2:=zdm (i:=i) (by omega)
   have w1:IntKind.i64.wrap (8 * (i:Int))=((8 * i:Nat):Int):=by rw [zf7 (by omega) (by omega)];omega
   have w2:IntKind.u64.wrap ((8 * i:Nat):Int)=((8 * i:Nat):Int):=zws (by omega)
   have w3:decide (((8 * i:Nat):Int) < 0)=false:=decide_eq_false (by omega)
   have w4:=zaay s i (by omega)
   have w5:IntKind.u8.wrap ((s >>> (8 * i)).toNat:Int)=((byteOf s i).toNat:Int):=zais _
   obtain ⟨h2,a1,a2,a3,a4,_⟩:=zy6 (v:=u8c (byteOf s i)) (c:=.ex 1) (my.new (.cells [u8c (byteOf s i)])) (he.new _) (zbz (h:=h')) (by omega)
   simp only [u8c] at a1
   simp only [zap,zac,zas,zat,zav,za2,zbm,za5,zad,zaj,zaa,zae,zaf,zar,zln,zax,zk7,zpz,za6,zp4,zbf,zag,za7,X.eval,zal,zai,List.getD_cons_zero,List.getD_cons_succ,List.set_cons_zero,List.set_cons_succ,zay,zaq,zab,zak,zgl,intArith,shift,cond_true,cond_false,BEq.rfl,zb0,zb1,AV.cells,List.length_cons,List.length_nil,zeros,zdf,setMany,List.nil_append,List.cons_append,Nat.ble,Nat.zero_add,Int.reduceLT,decide_false,v1,v2,w1,w2,w3,w4,w5,a1]
   refine ⟨_,_,rfl,_,?_,a3,rfl⟩
   rw [List.range_succ,List.map_append,zzc];exact a2
  ·right
   have hin:i=k:=by omega
   subst hin
   have v1:decide ((i:Int) < (i:Int))=false:=zfg (Nat.le_refl _)
   simp only [zap,zac,zb2,zas,zat,zam,zcf,zad,zaj,zaa,zae,zaf,zar,zax,za6,zag,X.eval,zal,zai,List.getD_cons_zero,List.getD_cons_succ,List.set_cons_zero,List.set_cons_succ,zay,zaq,zab,zak,intArith,shift,cond_true,cond_false,BEq.rfl,v1]
   exact ⟨_,rfl,by simp,_,_,_,y,_,h',rfl,my,he⟩
 obtain ⟨r,hr,a0,a1,a2,y,l,h',rfl,my,he⟩:=L [.c (.int .u32 (s.toNat:Int)),.c (.int .i64 (k:Int)),.c (.str []),.c .nils,.c (.int .i64 0),.tup []] rfl
 obtain ⟨_,⟨_,h0⟩ | ⟨i,rfl,g,_,_⟩⟩:=my
 ·omega
 have rr:h'.read i 0 k=some (u8s ((List.range k).map (byteOf s))):=by
  have:=zn8 (o:=0) (n:=k) g (by simp);simpa using this
 have sb:∀ loc vals,zao loc (.c (.sl i 0 k (.dy 1)) :: vals) h' (.b2s (.val 0))=some (.c (.str (strOf ((List.range k).map (byteOf s))))):=fun _ _=>zno rfl rr
 simp only [za9,zap,zac,zas,za2,zbu,zb9,zbl,zad,zaj,zaa,zae,zaf,zar,zk6,zco,zc8,zaz,za1,zag,X.eval,zal,zai,List.map_cons,List.map_nil,List.getD_cons_zero,List.getD_cons_succ,List.getD_nil,List.set_cons_zero,List.set_cons_succ,cond_true,BEq.rfl,hr,sb]
 exact ⟨_,rfl,he⟩
theorem zti:∀ id:Fin 48,byteOf (BitVec.ofNat 32 (id.val + 1)) 0=BitVec.ofNat 8 (id.val + 1)∧byteOf (BitVec.ofNat 32 (id.val + 1)) 1=0#8:=by decide
theorem zw9 {id:Nat} (hid:id < 48) {body:List (BitVec 8)} (hl:body.length=16) (hN:40≤N):∃ h',evCallO OS table N (d + 4) 132 [.c (.int .i64 (id:Int)),.c (.str (strOf body))] h=some (.tup [.c (.str (strOf (zic id body))),.c (.int .i64 0)],h')∧Ext h h':=by
 have zen:∀ {a b:Int},(a != b) = !(a == b):=rfl
 have c1:decide ((id:Int) < 0)=false:=decide_eq_false (by omega)
 have c2:decide ((id:Int) ≥ 48)=false:=decide_eq_false (by omega)
 have c3:((body.length:Int) == 16)=true:=by rw [hl];rfl
 have ls:∀ loc vals H,zao loc (.c (.str (strOf body)) :: vals) H (.len .str (.val 0))=some (.c (.int .i64 (body.length:Int))):=fun _ _ _=>by rw [← zdu body];rfl
 have w1:IntKind.i64.wrap ((id:Int) + 1)=((id + 1:Nat):Int):=zdm (by omega)
 have w2:IntKind.u32.wrap ((id + 1:Nat):Int)=((BitVec.ofNat 32 (id + 1)).toNat:Int):=by
  rw [BitVec.toNat_ofNat]
  simp only [IntKind.wrap,IntKind.bits,IntKind.signed]
  simp
 obtain ⟨h1,e1,x1⟩:=zrx (N:=N) (d:=d + 2) (h:=h) (BitVec.ofNat 32 (id + 1)) (k:=2) (by omega) (by omega) (by omega)
 have hb:=zti ⟨id,hid⟩
 have e1':evCallO OS table N (d + 3) 188 [.c (.int .u32 ((BitVec.ofNat 32 (id + 1)).toNat:Int)),.c (.int .i64 2)] h=some (.c (.str (strOf [BitVec.ofNat 8 (id + 1),0#8])),h1):=by
  have:(List.range 2).map (byteOf (BitVec.ofNat 32 (id + 1)))=[BitVec.ofNat 8 (id + 1),0#8]:=by
   rw [show List.range 2=[0,1] from rfl,List.map_cons,List.map_cons,List.map_nil,hb.1,hb.2]
  rw [this] at e1;exact e1
 have cat:((strOf [BitVec.ofNat 8 (id + 1),0#8]++[90,165])++strOf body)=strOf (zc5 id body):=by
  unfold zc5;rw [zoz];rfl
 have hhl:(zc5 id body).length=20:=by simp [zc5,hl]
 have e2:evCallO OS table N (d + 3) 189 [.c (.str (strOf (zc5 id body)))] h1=some (.c (.int .u32 ((bof (zc5 id body)).toNat:Int)),h1):=zaaz (by omega) (by omega)
 obtain ⟨h2,e3,x2⟩:=zrx (N:=N) (d:=d + 2) (h:=h1) (bof (zc5 id body)) (k:=4) (by omega) (by omega) (by omega)
 have e3':evCallO OS table N (d + 3) 188 [.c (.int .u32 ((bof (zc5 id body)).toNat:Int)),.c (.int .i64 4)] h1=some (.c (.str (strOf [byteOf (bof (zc5 id body)) 0,byteOf (bof (zc5 id body)) 1,byteOf (bof (zc5 id body)) 2,byteOf (bof (zc5 id body)) 3])),h2):=e3
 have cat2:strOf [byteOf (bof (zc5 id body)) 0,byteOf (bof (zc5 id body)) 1,byteOf (bof (zc5 id body)) 2,byteOf (bof (zc5 id body)) 3]++strOf (zc5 id body)=strOf (zic id body):=by unfold zic;rw [zoz]
 have q1:Nat.ble (strOf [BitVec.ofNat 8 (id + 1),0#8]).length 1073741822=true:=by rw [zdu];rfl
 rw [zbi (F:=ir132) rfl rfl rfl]
 unfold ir132
 rw [zbp]
 have q2:Nat.ble ((strOf [BitVec.ofNat 8 (id + 1),0#8]++[90,165]).length + (strOf body).length) 1073741824=true:=by rw [List.length_append,zdu,zdu,hl];rfl
 have q3:Nat.ble ((strOf [byteOf (bof (zc5 id body)) 0,byteOf (bof (zc5 id body)) 1,byteOf (bof (zc5 id body)) 2,byteOf (bof (zc5 id body)) 3]).length + (strOf (zc5 id body)).length) 1073741824=true:=by rw [zdu,zdu,hhl];rfl
 simp only [za9,zap,zac,zas,zat,zam,za5,zbl,zad,zaj,zaa,zau,zae,zaf,zar,zln,zax,zba,zbg,zbd,zbb,zc8,zaz,za1,za6,zbe,zp4,zag,X.eval,zal,zai,List.map_cons,List.map_nil,List.getD_cons_zero,List.getD_cons_succ,List.getD_nil,List.set_cons_zero,List.set_cons_succ,zay,zaq,zab,zak,zgl,intArith,shift,cond_true,cond_false,BEq.rfl,AV.xv,List.length_cons,List.length_nil,Nat.ble,Nat.zero_add,Nat.reduceAdd,Bool.not_true,Int.reduceLT,decide_false,q1,q2,q3,c1,c2,ls,zen,c3,w1,w2,e1',cat,e2,e3',cat2,zbk,zcb]
 exact ⟨_,rfl,x1.trans x2⟩
theorem zu8:∃ h',evCallO OS table N (d + 1) 131 [] h=some (.c (.str (strOf (List.replicate 24 0#8))),h')∧Ext h h':=by
 have a24:zda (.c (.int .i64 24))=some 24:=rfl
 have g:(h.new (.cells (u8s (List.replicate 24 0#8)))).get h.next=some (.cells (u8s (List.replicate 24 0#8))):=zbz
 have rr:(h.new (.cells (u8s (List.replicate 24 0#8)))).read h.next 0 24=some (u8s (List.replicate 24 0#8)):=by
  have:=zn8 (o:=0) (n:=24) g (by simp);simpa using this
 have hz:zeros 24 [.int .u8 0]=u8s (List.replicate 24 0#8):=zqg 24
 obtain ⟨H,hH⟩ : ∃ H,H=h.new (.cells (u8s (List.replicate 24 0#8))):=⟨_,rfl⟩
 rw [← hH] at rr
 have sb:∀ loc vals,zao loc (.c (.sl h.next 0 24 (.ex 24)) :: vals) H (.b2s (.val 0))=some (.c (.str (strOf (List.replicate 24 0#8)))):=fun _ _=>zno rfl rr
 have nw:∀ loc vals,zbf loc vals (.mks 1 [.int .u8 0] (.k (.c (.int .i64 24))) (.k (.c (.int .i64 24))))=some ((fun i=>.c (.sl i 0 24 (.ex 24))),.cells (u8s (List.replicate 24 0#8))):=fun loc vals=>by
  rw [← hz];rfl
 rw [zbi (F:=ir131) rfl rfl rfl]
 unfold ir131
 rw [zbp]
 simp only [za9,zap,zac,zas,zbl,zad,zaj,zaa,zae,zaf,zar,zp0,zk6,nw,za7,← hH,X.eval,List.getD_cons_zero,List.map_cons,List.map_nil,sb,zag,zal,zai,List.set_cons_zero,zaz,zco,zc8,za1]
 exact ⟨_,rfl,by rw [hH];exact (Ext.refl _).new _⟩
theorem zxa {id:Nat} (hid:id < 48) {img:List (BitVec 8)} (hl:img.length=24) (hN:40≤N):∃ h',evCallO OS table N (d + 5) 94 [.c (.int .i64 (id:Int)),.c (.str (strOf img))] h =
  some (.tup [.c (.str (if img=List.replicate 24 0#8 then [] else if zic id (img.drop 8)=img then strOf (img.drop 8) else [])),.c (.int .i64 (if img=List.replicate 24 0#8 then 11 else if zic id (img.drop 8)=img then 0 else 10))],h')∧Ext h h':=by
 have zen:∀ {a b:Int},(a != b) = !(a == b):=rfl
 have bneS:∀ {a b:List Nat},(a != b) = !(a == b):=rfl
 have c1:decide ((id:Int) < 0)=false:=decide_eq_false (by omega)
 have c2:decide ((id:Int) ≥ 48)=false:=decide_eq_false (by omega)
 have c3:((img.length:Int) == 24)=true:=by rw [hl];rfl
 have ls:∀ loc vals H,zao loc (.c (.str (strOf img)) :: vals) H (.len .str (.val 0))=some (.c (.int .i64 (img.length:Int))):=fun _ _ _=>by rw [← zdu img];rfl
 obtain ⟨h1,e1,x1⟩:=zu8 (N:=N) (d:=d + 3) (h:=h)
 have q1:=zlg img (List.replicate 24 0#8)
 have sd:(strOf img).drop 8=strOf (img.drop 8):=by simp [strOf,List.map_drop]
 have ss:∀ loc vals H,zao loc (.c (.str (strOf img)) :: vals) H (.sstr (.val 0) (some (.k (.c (.int .i64 8)))) none)=some (.c (.str (strOf (img.drop 8)))):=fun loc vals H=>by
  have b1:Nat.ble 8 (strOf img).length=true:=by rw [zdu,hl];rfl
  have b2:Nat.ble (strOf img).length (strOf img).length=true:=Nat.ble_eq_true_of_le (Nat.le_refl _)
  simp only [zao,X.eval,List.getD_cons_zero,bound,zda,b1,b2,Bool.true_and,cond_true]
  rw [List.take_of_length_le (by simp),sd]
 obtain ⟨h2,e2,x2⟩:=zw9 (N:=N) (d:=d) (h:=h1) hid (body:=img.drop 8) (by simp [hl]) hN
 have q2:=zlg (zic id (img.drop 8)) img
 rw [zbi (F:=ir94) rfl rfl rfl]
 unfold ir94
 rw [zbp]
 by_cases hb:img=List.replicate 24 0#8
 ·rw [decide_eq_true hb] at q1
  rw [if_pos hb,if_pos hb]
  simp only [za9,zap,zac,zbx,zas,zat,zav,zam,za5,zbl,zad,zaj,zaa,zau,zae,zaf,zar,zax,zba,zbg,zbd,zbb,zc8,zaz,za1,za6,zbe,zag,X.eval,zal,zai,List.map_cons,List.map_nil,List.getD_cons_zero,List.getD_cons_succ,List.getD_nil,List.set_cons_zero,List.set_cons_succ,zay,zaq,zab,zak,intArith,shift,cond_true,cond_false,BEq.rfl,AV.xv,Bool.not_true,Int.reduceLT,decide_false,c1,c2,ls,zen,c3,e1,q1,zbk,zcb]
  exact ⟨_,rfl,x1⟩
 ·rw [decide_eq_false hb] at q1
  rw [if_neg hb,if_neg hb]
  by_cases hi:zic id (img.drop 8)=img
  ·rw [decide_eq_true hi] at q2
   rw [if_pos hi,if_pos hi]
   simp only [za9,zap,zac,zas,zat,zam,za5,zbl,zad,zaj,zaa,zau,zae,zaf,zar,zax,zba,zbg,zgz,zbd,zbb,zc8,zaz,za1,za6,zbe,zag,X.eval,zal,zai,List.map_cons,List.map_nil,List.getD_cons_zero,List.getD_cons_succ,List.getD_nil,List.set_cons_zero,List.set_cons_succ,zay,zaq,zab,zak,intArith,shift,cond_true,cond_false,BEq.rfl,XV.av,AV.xv,Bool.not_true,Int.reduceLT,decide_false,c1,c2,ls,zen,c3,e1,q1,zrp,ss,e2,zgz,zlq,List.getElem?_cons_zero,List.getElem?_cons_succ,q2,zbk,zcb]
   exact ⟨_,rfl,x1.trans x2⟩
  ·rw [decide_eq_false hi] at q2
   rw [if_neg hi,if_neg hi]
   simp only [za9,zap,zac,zbx,zas,zat,zav,zam,za5,zbl,zad,zaj,zaa,zau,zae,zaf,zar,zax,zba,zbg,zgz,zbd,zbb,zc8,zaz,za1,za6,zbe,zag,X.eval,zal,zai,List.map_cons,List.map_nil,List.getD_cons_zero,List.getD_cons_succ,List.getD_nil,List.set_cons_zero,List.set_cons_succ,zay,zaq,zab,zak,intArith,shift,cond_true,cond_false,BEq.rfl,XV.av,AV.xv,Bool.not_true,Bool.not_false,Int.reduceLT,decide_false,c1,c2,ls,zen,c3,e1,q1,zrp,ss,e2,zgz,zlq,List.getElem?_cons_zero,List.getElem?_cons_succ,q2,zbk,zcb]
   exact ⟨_,rfl,x1.trans x2⟩
end
end Lav
set_option maxRecDepth 100000
set_option linter.unusedVariables false
namespace Lav
open Go (IntKind)
def zg8 (g:Nat) (img:List (BitVec 8)):Int:=if img=List.replicate 24 0#8 then 11 else if zic g (img.drop 8)=img then 0 else 10
def zpd (g:Nat) (img:List (BitVec 8)):List Nat:=if img=List.replicate 24 0#8 then [] else if zic g (img.drop 8)=img then strOf (img.drop 8) else []
structure PG where
 s:MS
 torn:Bool
 first:Bool
 last:Bool
def frB (s:MS) (g:Nat) (B:List Nat):Bool:=((strOf (s.bd.getD g [])).take 4 == B.take 4)
def laB (s:MS) (g:Nat) (B:List Nat):Bool:=(((strOf (s.bd.getD g [])).drop 4).take 12 == (B.drop 4).take 12)
def zait (s:MS) (e:Ev) (g:Nat) (f:Int):Bool:=decide (e.st > f) && ((e.op.kd == 4 && zdb s.hs e.cl e.op.hd == (g:Int)) || (e.op.kd == 1 && (!(s.th.getD g false) && (zib s e).th.getD g false)))
def fitC (s:MS) (e:Ev) (g:Nat) (f cd:Int):Bool:=decide (e.st ≥ f) && ((zib s e).th.getD g false && cd == 0)
def zaa1 (g:Nat) (f cd:Int) (B:List Nat) (q:PG) (e:Ev):PG :=
 ⟨zib q.s e,if zait q.s e g f=true then true else q.torn,if fitC q.s e g f cd=true then (q.first || frB (zib q.s e) g B) else q.first,if fitC q.s e g f cd=true then (q.last || laB (zib q.s e) g B) else q.last⟩
def pgG (l:List Ev) (g:Nat) (f cd:Int) (B:List Nat):PG→List Nat→PG
 | q,[]=>q
 | q,j :: r=>pgG l g f cd B (zaa1 g f cd B q (zbh l j)) r
def ztj (l:List Ev) (p c g:Nat) (f cd:Int) (B:List Nat):PG:=pgG l g f cd B ⟨zc6 p c,false,false,false⟩ (zby (stL l) l.length)
def zid (l:List Ev) (p c g:Nat) (img:List (BitVec 8)):Bool :=
 if zg8 g img=11 then zg7 l p c g == 0
 else if zg8 g img=10 then (ztj l p c g (zg7 l p c g) (zg8 g img) (zpd g img)).torn
 else zg8 g img == 0 && ((ztj l p c g (zg7 l p c g) (zg8 g img) (zpd g img)).first && (ztj l p c g (zg7 l p c g) (zg8 g img) (zpd g img)).last)
section
variable {call:Nat→List AV→Heap→Option (AV × Heap)} {loc vals:List AV} {h cur:Heap} {n j k:Nat} {l r:List Inst} {ks:List (Nat × Heap)} {news:List (Nat × Nat × Blk)}
end
section
variable {N d:Nat} {h G G':Heap} {p4:Nat} {x:List CV} {z:SP} {ox:CV} {o:List Nat} {s s':MS} {y:CV} {l:List Ev}
theorem zzh {p c g:Nat} (hnew:∀ d',6≤d'→zkl N d' p c) (hp:0 < p) (hg:g < p) (hp48:p≤48) (E:Evs h y l) (K:HistOK l p c) (hfin:∀ i,i < l.length→(zbh l i).st≠0) {img:List (BitVec 8)} (hb:img=List.replicate 24 0#8) (hN:1010≤N) (hd:8≤d) :
  ∃ h',evCallO OS table N (d + 1) 72 [.c y,.c (.int .i64 (p:Int)),.c (.int .i64 (c:Int)),.c (.int .i64 (g:Int)),.c (.str (strOf img))] h=some (.c (.bool (zid l p c g img)),h')∧Ext h h':=by
 obtain ⟨d,rfl⟩ : ∃ k,d=k + 8:=⟨d - 8,by omega⟩
 obtain ⟨Hc,fc,xc⟩:=ztd (N:=N) (d:=d + 6) (hnew _ (by omega)) hp hg E K hN (by omega) (hnew _ (by omega))
 obtain ⟨Ho,fo,xo⟩:=zxa (N:=N) (d:=d + 3) (h:=Hc) (id:=g) (by omega) (show img.length=24 by rw [hb];exact List.length_replicate) (by omega)
 have fo':evCallO OS table N (d + 8) 94 [.c (.int .i64 (g:Int)),.c (.str (strOf img))] Hc=some (.tup [.c (.str (zpd g img)),.c (.int .i64 (zg8 g img))],Ho):=fo
 have c11:zg8 g img=11:=by unfold zg8;rw [if_pos hb]
 have hf:zid l p c g img=(zg7 l p c g == 0):=by unfold zid;rw [if_pos c11]
 rw [c11] at fo'
 rw [hf,zbi (F:=ir72) rfl rfl rfl]
 unfold ir72
 rw [zbp]
 simp only [za9,zap,zac,zbx,zas,zat,zav,zbl,zad,zaj,zaa,zae,zaf,zar,zax,zgz,zbd,zbb,zaz,za1,za6,zag,X.eval,zal,zai,List.map_cons,List.map_nil,List.getD_cons_zero,List.getD_cons_succ,List.getD_nil,List.set_cons_zero,List.set_cons_succ,zay,zaq,zab,zak,intArith,shift,cond_true,cond_false,BEq.rfl,XV.av,Int.reduceLT,decide_false,fc,fo',zgz,zlq,List.getElem?_cons_zero,List.getElem?_cons_succ,zbk,RV.eval]
 exact ⟨Ho,rfl,xc.trans xo⟩
end
end Lav
set_option maxRecDepth 100000
namespace Lav
open Go (IntKind)
section
variable {N d:Nat} {h G G':Heap} {y:CV} {l:List Ev}
def Strs (h:Heap) (v:CV) (im:List (List (BitVec 8))):Prop:=(v = .nils∧im=[])∨∃ b o c,v = .sl b o im.length c∧b < h.next∧∀ g,g < im.length→h.read b (o + g) 1=some [.str (strOf (im.getD g []))]
theorem Strs.ext {v:CV} {im:List (List (BitVec 8))} (S:Strs h v im) (e:Ext h G):Strs G v im:=by
 rcases S with h1 | ⟨b,o,c,rfl,hb,hr⟩
 ·exact .inl h1
 ·exact .inr ⟨b,o,c,rfl,Nat.lt_of_lt_of_le hb e.1,fun g hg=>(e.read hb).trans (hr g hg)⟩
theorem zxb {p c:Nat} {v:CV} {im:List (List (BitVec 8))} (hnew:∀ d',6≤d'→zkl N d' p c) (hp:0 < p) (hp48:p≤48) (E:Evs h y l) (K:HistOK l p c) (hfin:∀ i,i < l.length→(zbh l i).st≠0) (S:Strs h v im) (hl:im.length=p)
  (hi:∀ g,g < p→(im.getD g [])=List.replicate 24 0#8∧zid l p c g (im.getD g [])=true) (hN:1010≤N) (hd:9≤d) :
  ∃ h',evCallO OS table N (d + 1) 46 [.c y,.c (.int .i64 (p:Int)),.c (.int .i64 (c:Int)),.c v] h=some (.c (.int .i64 0),h')∧Ext h h':=by
 obtain ⟨d,rfl⟩ : ∃ k,d=k + 9:=⟨d - 9,by omega⟩
 obtain ⟨Hc,fc,xc⟩:=zkm (N:=N) (d:=d + 8) (hnew _ (by omega)) hp E K.hs K.al K.may K.ok hN (by omega)
 rcases S with ⟨_,rfl⟩ | ⟨b,o,cc,rfl,hb,hr⟩
 ·simp at hl;omega
 rw [hl] at hr ⊢
 have v0:((0:Int) == 0)=true:=rfl
 have vp:((p:Int) == (p:Int))=true:=by simp
 have L:∀ loc,zbv ir46_k0 loc=[.c y,.c (.int .i64 (p:Int)),.c (.int .i64 (c:Int)),.c (.sl b o p cc),.junk,.c (.int .i64 0),.junk,.junk,.junk] →
   ∃ r,zcr (evCallO OS table N (d + 9)) N ir46_k0 ir46_l0 N loc Hc=some r∧∃ a0 a1 a2 a3 a4 l' G,r=(.exit 0,a0 :: a1 :: a2 :: a3 :: a4 :: l',G)∧Ext Hc G:=by
  intro loc hloc
  refine zcl (n:=p) (fun k loc G=>Ext Hc G∧loc=[.c y,.c (.int .i64 (p:Int)),.c (.int .i64 (c:Int)),.c (.sl b o p cc),.junk,.c (.int .i64 (k:Int)),.junk,.junk,.junk]) _ ?_ ⟨Ext.refl _,hloc⟩ (by omega)
  rintro k loc G hk ⟨xg,rfl⟩
  unfold ir46_l0
  by_cases hlt:k < p
  ·left
   have v1:=ze6 hlt
   have v2:=zdm (i:=k) (by omega)
   have m1:Nat.blt k p=true:=zc0 hlt
   have r1:G.read b (o + k) 1=some [.str (strOf (im.getD k []))]:=((xc.trans xg).read hb).trans (hr k hlt)
   obtain ⟨h24,hpf⟩:=hi k hlt
   obtain ⟨G1,f1,x1⟩:=zzh (N:=N) (d:=d + 8) (g:=k) hnew hp hlt hp48 (E.ext (xc.trans xg)) K hfin h24 hN (by omega)
   rw [hpf] at f1
   simp only [zap,zac,zas,zat,zav,zam,za2,zbm,za5,zad,zaj,zaa,zae,zaf,zar,zax,zdq,za4,zbt,zbd,zbb,za6,zee,zag,X.eval,zal,zai,List.map_cons,List.map_nil,List.getD_cons_zero,List.getD_cons_succ,List.set_cons_zero,List.set_cons_succ,zay,zdk,zaq,zab,zak,intArith,shift,zbc,cond_true,cond_false,BEq.rfl,AV.ofCells,Bool.not_true,Int.reduceLT,decide_false,v1,zbr,za8,AV.ofCells,m1,r1,f1,v2,Nat.mul_one]
   exact ⟨hlt,_,_,rfl,xg.trans x1,rfl⟩
  ·right
   have:k=p:=by omega
   subst this
   have v1:decide ((k:Int) < (k:Int))=false:=zfg (Nat.le_refl _)
   simp only [zap,zac,zb2,zas,zat,zam,zcf,zad,zaj,zaa,zae,zaf,zar,zax,za6,zag,X.eval,zal,zai,List.getD_cons_zero,List.getD_cons_succ,List.set_cons_zero,List.set_cons_succ,zay,zaq,zab,zak,intArith,shift,cond_true,cond_false,BEq.rfl,v1]
   exact ⟨_,rfl,by simp,_,_,_,_,_,_,_,rfl,xg⟩
 obtain ⟨r0,⟨a0,a1,a2,a3,a4,l',H5,rfl,x5⟩,hr0⟩:=zcn L rfl
 rw [zbi (F:=ir46) rfl rfl rfl]
 unfold ir46
 rw [zbp]
 simp only [za9,zap,zac,zas,zat,zam,za2,zb9,za5,zad,zaj,zaa,zau,zae,zaf,zar,zax,zba,zbg,zbd,zbb,za6,zbe,zag,X.eval,zal,zai,List.map_cons,List.map_nil,List.getD_cons_zero,List.getD_cons_succ,List.getD_nil,List.set_cons_zero,List.set_cons_succ,zay,zaq,zab,zak,intArith,shift,cond_true,cond_false,BEq.rfl,Int.reduceNeg,Bool.not_true,Int.reduceLT,decide_false,fc,zen,zbs]
 rw [hr0 _ rfl]
 simp only [zap,zac,zas,zbu,zbl,zad,zaj,zaa,zae,zaf,zar,zaz,za1,X.eval,zai,List.getD_cons_zero,List.getD_cons_succ,List.set_cons_zero,List.set_cons_succ,cond_true,BEq.rfl,zbk,RV.eval]
 exact ⟨H5,rfl,xc.trans x5⟩
structure Fra where
 st:Int
 pg:Int
 pn:Int
 sh:Int
 dt:Bool
def zji (f:Fra):List CV:=[zbw f.st,zbw f.pg,zbw f.pn,zbw f.sh,.bool f.dt]
instance:Inhabited Fra:=⟨⟨0,0,0,0,false⟩⟩
def zg9 (fs:List Fra) (i:Nat):Fra:=fs.getD i default
def Fras (h:Heap) (v:CV) (fs:List Fra):Prop:=(v = .nils∧fs=[])∨∃ b c,v = .sl b 0 fs.length c∧b < h.next∧∀ i,i < fs.length→h.read b (i * 5) 5=some (zji (zg9 fs i))
def Imgs (h:Heap) (v:CV) (im:List (List (BitVec 8))):Prop:=(v = .nils∧im=[])∨∃ b c,v = .sl b 0 im.length c∧b < h.next∧∀ g,g < im.length→∃ w,h.read b g 1=some [w]∧Bytes h w (im.getD g [])∧∃ i,w = .sl i 0 (im.getD g []).length (.dy 1)
structure PV where
 l:List Ev
 im:List (List (BitVec 8))
 fs:List Fra
 cap:Int
 works:Bool
 down:Bool
 now:Int
 pages:Nat
 frames:Int
 shards:Int
 clients:Nat
 full:List Bool
 least:Int
 asked:Int
structure Sees (N:Nat) (h:Heap) (p:Nat) (v:PV):Prop where
 box:∃ q fc,h.get p=some (.cells [.ptr q 0,zbw v.pages,zbw v.frames,zbw v.shards,zbw v.clients,fc,zbw v.least,zbw v.asked]) ∧
  (∃ fb c,fc = .sl fb 0 v.full.length c) ∧
  (∀ d,60≤d→∀ G,Ext h G→∃ y G',evCallO OS table N d 12 [.c (.ptr q 0)] G=some (.c y,G')∧Evs G' y v.l∧Ext G G') ∧
  (∀ d,60≤d→∀ G,Ext h G→∃ y G',evCallO OS table N d 15 [.c (.ptr q 0)] G=some (.c y,G')∧Imgs G' y v.im∧Ext G G') ∧
  (∀ d,60≤d→∀ G,Ext h G→∃ y G',evCallO OS table N d 31 [.c (.ptr q 0)] G=some (.c y,G')∧Fras G' y v.fs∧Ext G G') ∧
  (∀ d,60≤d→∀ G,Ext h G→∃ G',evCallO OS table N d 18 [.c (.ptr q 0)] G=some (.c (.int .i64 v.cap),G')∧Ext G G') ∧
  (∀ d,60≤d→∀ G,Ext h G→∃ G',evCallO OS table N d 40 [.c (.ptr q 0)] G=some (.c (.bool v.works),G')∧Ext G G') ∧
  (∀ d,60≤d→∀ G,Ext h G→∃ G',evCallO OS table N d 38 [.c (.ptr q 0)] G=some (.c (.bool v.down),G')∧Ext G G') ∧
  (∀ d,60≤d→∀ G,Ext h G→∃ G',evCallO OS table N d 37 [.c (.ptr q 0)] G=some (.c (.int .i64 v.now),G')∧Ext G G')
 lt:p < h.next
variable {p:Nat} {v:PV}
theorem Sees.ext (S:Sees N h p v) (e:Ext h G):Sees N G p v:=by
 obtain ⟨⟨q,fc,b1,b2,b3,b4,b5,b6,b7,b8,b9⟩,hl⟩:=S
 exact ⟨⟨q,fc,e.at_ b1 hl,b2,fun d k G' x=>b3 d k G' (e.trans x),fun d k G' x=>b4 d k G' (e.trans x),fun d k G' x=>b5 d k G' (e.trans x),fun d k G' x=>b6 d k G' (e.trans x),fun d k G' x=>b7 d k G' (e.trans x),fun d k G' x=>b8 d k G' (e.trans x),fun d k G' x=>b9 d k G' (e.trans x)⟩,Nat.lt_of_lt_of_le hl e.1⟩
structure GoodH (N:Nat) (v:PV):Prop where
 new:∀ d',6≤d'→zkl N d' v.pages v.clients
 p0:0 < v.pages
 p48:v.pages≤48
 K:HistOK v.l v.pages v.clients
theorem zxc (S:Sees N h p v) (g:GoodH N v) (hN:1010≤N) (hd:60≤d):∃ h',evCallO OS table N (d + 1) 26 [.c (.ptr p 0)] h=some (.c (.bool true),h')∧Ext h h':=by
 obtain ⟨q,fc,b1,b2,b3,b4,b5,b6,b7,b8,b9⟩:=S.box
 obtain ⟨y,H1,f1,E,x1⟩:=b3 _ (by omega) h (Ext.refl h)
 obtain ⟨d,rfl⟩ : ∃ k,d=k + 8:=⟨d - 8,by omega⟩
 obtain ⟨H2,f2,x2⟩:=zkm (N:=N) (d:=d + 7) (g.new _ (by omega)) g.p0 E g.K.hs g.K.al g.K.may g.K.ok hN (by omega)
 have lt:=S.lt
 have r0:h.read p 0 1=some [.ptr q 0]:=zah b1 rfl
 have r1:h.read p 1 1=some [.int .i64 (v.pages:Int)]:=zah b1 rfl
 have r4:h.read p 4 1=some [.int .i64 (v.clients:Int)]:=zah b1 rfl
 have s1:H1.read p 1 1=some [.int .i64 (v.pages:Int)]:=(x1.read lt).trans r1
 have s4:H1.read p 4 1=some [.int .i64 (v.clients:Int)]:=(x1.read lt).trans r4
 have t1:H2.read p 1 1=some [.int .i64 (v.pages:Int)]:=(x2.read (Nat.lt_of_lt_of_le lt x1.1)).trans s1
 have t4:H2.read p 4 1=some [.int .i64 (v.clients:Int)]:=(x2.read (Nat.lt_of_lt_of_le lt x1.1)).trans s4
 rw [zbi (F:=ir26) rfl rfl rfl]
 unfold ir26
 rw [zbp]
 simp only [za9,zap,zac,zas,zbl,zad,zaj,zaa,zae,zaf,zar,zbb,zaz,za1,za6,X.eval,zal,zai,List.map_cons,List.map_nil,List.getD_cons_zero,List.getD_cons_succ,List.getD_nil,List.set_cons_zero,List.set_cons_succ,zay,zaq,zab,zak,intArith,shift,cond_true,cond_false,BEq.rfl,AV.ofCells,List.nil_append,List.cons_append,Nat.zero_add,Nat.add_zero,Nat.reduceAdd,Nat.reduceBEq,Bool.and_true,Int.reduceLT,decide_false,zc3,zch,zb6,zb5,zb7,zdr,zd0,ze5,zdo,zho,zcs,zct,zhc,zgo,zf5,zfm,zgp,zgq,zg0,zf6,zhd,zgr,zhe,zc4,zde,zd7,List.reverse_cons,List.reverse_nil,zdj,zki,zcm,za3,za8,AV.ofCells,r0,r1,r4,s1,s4,f1,f2,zbk,RV.eval]
 exact ⟨H2,rfl,x1.trans x2⟩
end
end Lav
set_option maxRecDepth 100000
namespace Lav
open Go (IntKind)
section
variable {N d:Nat} {h G G':Heap} {p:Nat} {v:PV}
def zqk (im:List (List (BitVec 8))):List CV:=im.map fun b=>.str (strOf b)
theorem zxd {h H:Heap} {y:CV} {im:List (List (BitVec 8))} (I:Imgs h y im) {loc vals:List AV}:zao loc (.c y :: vals) H (.len .sl (.val 0))=some (.c (.int .i64 (im.length:Int))):=by
 rcases I with ⟨rfl,rfl⟩ | ⟨b,c,rfl,_⟩<;>rfl
theorem Imgs.at_ {h:Heap} {y:CV} {im:List (List (BitVec 8))} (I:Imgs h y im) {g:Nat} (hg:g < im.length):∃ b c,y = .sl b 0 im.length c∧b < h.next∧∃ w,h.read b g 1=some [w]∧Bytes h w (im.getD g [])∧∃ i,w = .sl i 0 (im.getD g []).length (.dy 1):=by
 rcases I with ⟨_,rfl⟩ | ⟨b,c,e,hb,hr⟩
 ·simp at hg
 ·obtain ⟨w,h1,h2⟩:=hr g hg
  exact ⟨b,c,e,hb,w,h1,h2⟩
theorem zzi (S:Sees N h p v) (g:GoodH N v) (hfin:∀ i,i < v.l.length→(zbh v.l i).st≠0) (hl:v.im.length=v.pages) (hi:∀ k,k < v.pages→(v.im.getD k [])=List.replicate 24 0#8∧zid v.l v.pages v.clients k (v.im.getD k [])=true) (hN:1010≤N) (hd:60≤d) :
  ∃ h',evCallO OS table N (d + 1) 25 [.c (.ptr p 0)] h=some (.c (.bool true),h')∧Ext h h':=by
 obtain ⟨q,fc,b1,b2,b3,b4,b5,b6,b7,b8,b9⟩:=S.box
 obtain ⟨y,H1,f1,I,x1⟩:=b4 _ (by omega) h (Ext.refl h)
 have p48:=g.p48
 have lt:=S.lt
 have r0:h.read p 0 1=some [.ptr q 0]:=zah b1 rfl
 have ly:∀ loc vals H,zao loc (.c y :: vals) H (.len .sl (.val 0))=some (.c (.int .i64 (v.im.length:Int))):=fun _ _ _=>zxd I
 have L:∀ loc,zbv ir25_k0 loc=[.c (.ptr p 0),.junk,.c .nils,.c y,.c (.int .i64 0),.junk] →
   ∃ r,zcr (evCallO OS table N d) N ir25_k0 ir25_l0 N loc H1=some r∧∃ a1 x a3 a4 a5 G,r=(.exit 0,[.c (.ptr p 0),a1,.c x,a3,a4,a5],G)∧Mine 1 H1 G x v.im.length (zqk v.im)∧Ext H1 G:=by
  intro loc hloc
  refine zcl (n:=v.im.length) (fun k loc G=>∃ x,Mine 1 H1 G x k (zqk (v.im.take k))∧Ext H1 G∧loc=[.c (.ptr p 0),.junk,.c x,.c y,.c (.int .i64 (k:Int)),.junk]) _ ?_ ⟨.nils,Mine.nil,Ext.refl _,hloc⟩ (by omega)
  rintro k loc G hk ⟨x,m,xg,rfl⟩
  unfold ir25_l0
  by_cases hlt:k < v.im.length
  ·left
   have v1:=ze6 hlt
   have v2:=zdm (i:=k) (by omega)
   obtain ⟨b,c,hy,hb,w,hw,hB,-⟩:=I.at_ hlt
   have m1:Nat.blt k v.im.length=true:=zc0 hlt
   have rw_:G.read b k 1=some [w]:=(xg.read hb).trans hw
   have bs:∀ loc vals,zao loc (.c w :: vals) G (.b2s (.val 0))=some (.c (.str (strOf (v.im.getD k [])))):=fun _ _=>(hB.ext xg).b2s
   have m':=Mine.new m (.cells [.str (strOf (v.im.getD k []))])
   obtain ⟨G1,a1,m2,n1,k1⟩:=zqf (m:=0) m' (Nat.le_trans xg.1 (Nat.le_succ _)) (zkh (n:=1) (c:=.ex 1) zbz rfl) rfl (by omega)
   have htk:zqk (v.im.take k)++[.str (strOf (v.im.getD k []))]=zqk (v.im.take (k + 1)):=by
    rw [List.take_succ_eq_append_getElem hlt,List.getD_eq_getElem?_getD,List.getElem?_eq_getElem hlt]
    show _=List.map _ (_++_)
    rw [List.map_append];rfl
   rw [htk] at m2
   have xg1:Ext H1 G1:=⟨by have:=xg.1;simp [Heap.new] at n1;omega,fun i hi'=>by
    have h1:=Nat.lt_of_lt_of_le hi' xg.1
    rw [k1 i (Nat.lt_succ_of_lt h1) (fun hbk=>by have:=m'.young i hbk;omega),zcp h1]
    exact xg.2 i hi'⟩
   subst hy
   simp only [zap,zac,zas,zat,zav,za2,zbm,za5,zad,zaj,zaa,zae,zaf,zar,zax,zk7,zbg,za4,zbt,zk6,zpz,za6,zbf,zag,za7,X.eval,zal,zai,List.getD_cons_zero,List.getD_cons_succ,List.set_cons_zero,List.set_cons_succ,zay,zaq,zab,zak,intArith,shift,zbc,cond_true,cond_false,BEq.rfl,zb0,zb1,AV.cells,AV.ofCells,List.length_cons,List.length_nil,zeros,zdf,setMany,List.nil_append,List.cons_append,Nat.ble,Nat.zero_add,Int.reduceLT,decide_false,ly,v1,zbr,za8,AV.ofCells,m1,rw_,bs,a1,v2,Nat.mul_one]
   exact ⟨hlt,_,_,rfl,_,m2,xg1,rfl⟩
  ·right
   have:k=v.im.length:=by omega
   subst this
   have v1:decide ((v.im.length:Int) < (v.im.length:Int))=false:=zfg (Nat.le_refl _)
   rw [List.take_length] at m
   simp only [zap,zac,zb2,zas,zat,zam,zcf,zad,zaj,zaa,zae,zaf,zar,zax,zbg,za6,zag,X.eval,zal,zai,List.getD_cons_zero,List.getD_cons_succ,List.set_cons_zero,List.set_cons_succ,zay,zaq,zab,zak,intArith,shift,cond_true,cond_false,BEq.rfl,ly,v1]
   exact ⟨_,rfl,by simp,_,_,_,_,_,_,rfl,m,xg⟩
 obtain ⟨r,⟨a1,x,a3,a4,a5,H2,rfl,m,x2⟩,hr⟩:=zcn L rfl
 obtain ⟨y2,H3,f3,E,x3⟩:=b3 _ (by omega) H2 (x1.trans x2)
 have S3:Strs H3 x v.im:=by
  obtain ⟨hlen,⟨rfl,h0⟩ | ⟨i,rfl,hg,_,hi'⟩⟩:=m
  ·exact .inl ⟨rfl,List.eq_nil_of_length_eq_zero h0⟩
  ·refine (show Strs H2 (.sl i 0 v.im.length (.dy 1)) v.im from .inr ⟨i,0,.dy 1,rfl,hi',fun k hk=>?_⟩).ext x3
   rw [Nat.zero_add]
   refine zah hg ?_
   simp [zqk,List.getD_eq_getElem?_getD,hk]
 obtain ⟨d,rfl⟩ : ∃ k,d=k + 12:=⟨d - 12,by omega⟩
 obtain ⟨H4,f4,x4⟩:=zxb (N:=N) (d:=d + 11) g.new g.p0 g.p48 E g.K hfin S3 hl hi hN (by omega)
 have l2:p < H2.next:=Nat.lt_of_lt_of_le lt (x1.trans x2).1
 have l3:p < H3.next:=Nat.lt_of_lt_of_le l2 x3.1
 have s0:H2.read p 0 1=some [.ptr q 0]:=((x1.trans x2).read lt).trans r0
 have s1:H2.read p 1 1=some [.int .i64 (v.pages:Int)]:=((x1.trans x2).read lt).trans (zah b1 rfl)
 have s4:H2.read p 4 1=some [.int .i64 (v.clients:Int)]:=((x1.trans x2).read lt).trans (zah b1 rfl)
 have t1:H3.read p 1 1=some [.int .i64 (v.pages:Int)]:=(x3.read l2).trans s1
 have t4:H3.read p 4 1=some [.int .i64 (v.clients:Int)]:=(x3.read l2).trans s4
 have u1:H4.read p 1 1=some [.int .i64 (v.pages:Int)]:=(x4.read l3).trans t1
 have u4:H4.read p 4 1=some [.int .i64 (v.clients:Int)]:=(x4.read l3).trans t4
 rw [zbi (F:=ir25) rfl rfl rfl]
 unfold ir25
 rw [zbp]
 simp only [za9,zap,zac,zas,za2,zb9,zad,zaj,zaa,zae,zaf,zar,za4,zbd,zbb,zag,X.eval,zal,zai,List.map_cons,List.map_nil,List.getD_cons_zero,List.getD_cons_succ,List.getD_nil,List.set_cons_zero,List.set_cons_succ,AV.ofCells,Nat.add_zero,zcw,zcm,za0,za3,za8,AV.ofCells,r0,f1]
 rw [hr _ rfl]
 simp only [zap,zac,zbu,zbl,zaa,zbb,zaz,za1,za6,X.eval,zal,zai,List.map_cons,List.map_nil,List.getD_cons_zero,List.getD_cons_succ,List.set_cons_zero,List.set_cons_succ,zay,zaq,zab,zak,intArith,shift,cond_true,cond_false,BEq.rfl,AV.ofCells,List.nil_append,List.cons_append,Nat.zero_add,Nat.add_zero,Nat.reduceAdd,Nat.reduceBEq,Bool.and_true,Int.reduceLT,decide_false,zc3,zch,zb6,zb5,zb7,zdr,zd0,ze5,zdo,zho,zcs,zct,zhc,zgo,zf5,zfm,zgp,zgq,zg0,zf6,zhd,zgr,zhe,zc4,zde,zd7,List.reverse_cons,List.reverse_nil,zdj,zki,zcm,za3,za8,AV.ofCells,s0,s1,s4,f3,t1,t4,f4,zbk,RV.eval]
 exact ⟨H4,rfl,((x1.trans x2).trans x3).trans x4⟩
theorem zu9 (S:Sees N h p v) (hs:v.l.length≤900) (hno:∀ i,i < v.l.length→(zbh v.l i).rs.code≠8) (hN:1010≤N) (hd:60≤d) :
  ∃ h',evCallO OS table N (d + 1) 36 [.c (.ptr p 0)] h=some (.c (.bool true),h')∧Ext h h':=by
 obtain ⟨q,fc,b1,b2,b3,b4,b5,b6,b7,b8,b9⟩:=S.box
 obtain ⟨y,H1,f1,E,x1⟩:=b3 _ (by omega) h (Ext.refl h)
 have lt:=S.lt
 have r0:h.read p 0 1=some [.ptr q 0]:=zah b1 rfl
 have ly:∀ loc vals H,zao loc (.c y :: vals) H (.len .sl (.val 0))=some (.c (.int .i64 (v.l.length:Int))):=fun _ _ _=>E.len
 have L:∀ loc,zbv ir36_k1 loc=[.c (.ptr p 0),.junk,.c y,.c (.int .i64 0),.junk,.junk,.junk,.junk,.junk,.junk] →
   ∃ r,zcr (evCallO OS table N d) N ir36_k1 ir36_l1 N loc H1=some r∧∃ a1 a2 l',r=(.exit 0,a1 :: a2 :: l',H1):=by
  intro loc hloc
  refine zcl (n:=v.l.length) (fun k loc G=>G=H1∧loc=[.c (.ptr p 0),.junk,.c y,.c (.int .i64 (k:Int)),.junk,.junk,.junk,.junk,.junk,.junk]) _ ?_ ⟨rfl,hloc⟩ (by omega)
  rintro k loc G hk ⟨rfl,rfl⟩
  unfold ir36_l1
  by_cases hlt:k < v.l.length
  ·left
   have v1:=ze6 hlt
   have v2:=zdm (i:=k) (by omega)
   obtain ⟨b,c,dc,rc,hy,hb,hre,_,_⟩:=zlu E (Ext.refl G) hlt
   have m1:Nat.blt k v.l.length=true:=zc0 hlt
   have c7:=(evN hre).code
   have v3:((zbh v.l k).rs.code == 8)=false:=by simpa using hno k hlt
   subst hy
   simp only [zap,zac,zb2,zas,zat,zav,za2,zbu,za5,zcf,zad,zaj,zaa,zau,zae,zbn,zaf,zar,zax,zba,zbg,za4,zbt,za6,zbe,zag,X.eval,zal,zai,List.getD_cons_zero,List.getD_cons_succ,List.set_cons_zero,List.set_cons_succ,zay,zaq,zab,zak,intArith,shift,zbc,cond_true,cond_false,BEq.rfl,AV.ofCells,Nat.zero_add,Nat.add_zero,Bool.not_false,Int.reduceLT,decide_false,tf,ly,v1,zbr,za0,za3,za8,AV.ofCells,m1,c7,zen,v3,v2]
   exact ⟨hlt,_,_,rfl,rfl,rfl⟩
  ·right
   have:k=v.l.length:=by omega
   subst this
   have v1:decide ((v.l.length:Int) < (v.l.length:Int))=false:=zfg (Nat.le_refl _)
   simp only [zap,zac,zb2,zas,zat,zam,zcf,zad,zaj,zaa,zae,zaf,zar,zax,zbg,za6,zag,X.eval,zal,zai,List.getD_cons_zero,List.getD_cons_succ,List.set_cons_zero,List.set_cons_succ,zay,zaq,zab,zak,intArith,shift,cond_true,cond_false,BEq.rfl,ly,v1]
   exact ⟨_,rfl,by simp,_,_,_,rfl⟩
 obtain ⟨r,⟨a1,a2,l',rfl⟩,hr⟩:=zcn L rfl
 rw [zbi (F:=ir36) rfl rfl rfl]
 unfold ir36
 rw [zbp]
 simp only [za9,zap,zac,zas,za2,zb9,zad,zaj,zaa,zae,zaf,zar,za4,zbd,zbb,zag,X.eval,zal,zai,List.map_cons,List.map_nil,List.getD_cons_zero,List.getD_cons_succ,List.getD_nil,List.set_cons_zero,List.set_cons_succ,AV.ofCells,Nat.add_zero,zcw,zcm,za0,za3,za8,AV.ofCells,r0,f1]
 rw [hr _ rfl]
 simp only [zap,zac,zas,zbu,zbl,zad,zaj,zaa,zae,zaf,zar,zaz,za1,X.eval,zai,List.getD_cons_zero,List.getD_cons_succ,List.set_cons_zero,List.set_cons_succ,cond_true,BEq.rfl,zbk,RV.eval]
 exact ⟨H1,rfl,x1⟩
theorem zxe (S:Sees N h p v) (g:GoodH N v) (hN:1010≤N) (hd:60≤d):∃ x z h',evCallO OS table N (d + 1) 39 [.c (.ptr p 0)] h=some (.tup [.agg x,.c (.bool true)],h')∧SR h' x z (zer v.l v.pages v.clients)∧Ext h h'∧∀ j∈z.own,h.next≤j:=by
 have e0:=(Ext.refl h).new (.cells [.nils,.nils,.nils])
 generalize hg0:h.new (.cells [.nils,.nils,.nils])=H0 at e0
 have g0:H0.get h.next=some (.cells [.nils,.nils,.nils]):=by rw [← hg0];exact zbz
 have n0:H0.next=h.next + 1:=by rw [← hg0];rfl
 obtain ⟨q,fc,b1,b2,b3,b4,b5,b6,b7,b8,b9⟩:=S.box
 obtain ⟨y,H1,f1,E,x1⟩:=b3 _ (by omega) H0 e0
 obtain ⟨d,rfl⟩ : ∃ k,d=k + 10:=⟨d - 10,by omega⟩
 obtain ⟨x,z,H2,f2,S2,x2,own⟩:=zw6 (N:=N) (d:=d + 8) (g.new _ (by omega)) g.p0 E g.K hN (by omega) (g.new _ (by omega))
 have lt:=S.lt
 have lx:=S2.len3
 have r0:H0.read p 0 1=some [.ptr q 0]:=(e0.read lt).trans (zah b1 rfl)
 have r1:H0.read p 1 1=some [.int .i64 (v.pages:Int)]:=(e0.read lt).trans (zah b1 rfl)
 have r4:H0.read p 4 1=some [.int .i64 (v.clients:Int)]:=(e0.read lt).trans (zah b1 rfl)
 have l0:p < H0.next:=by omega
 have s1:H1.read p 1 1=some [.int .i64 (v.pages:Int)]:=(x1.read l0).trans r1
 have s4:H1.read p 4 1=some [.int .i64 (v.clients:Int)]:=(x1.read l0).trans r4
 have l1:p < H1.next:=Nat.lt_of_lt_of_le l0 x1.1
 have t1:H2.read p 1 1=some [.int .i64 (v.pages:Int)]:=(x2.read l1).trans s1
 have t4:H2.read p 4 1=some [.int .i64 (v.clients:Int)]:=(x2.read l1).trans s4
 have g2:H2.get h.next=some (.cells [.nils,.nils,.nils]):=x2.at_ (x1.at_ g0 (by omega)) (by have:=x1.1;omega)
 have w3:=zg4 (o:=0) (vs:=x) g2 (by rw [lx];exact Nat.le_refl _)
 have hx0:([CV.nils,.nils,.nils].take 0++x++[CV.nils,.nils,.nils].drop (0 + x.length))=x:=by rw [lx];simp
 rw [hx0] at w3
 have y3:ExtB [h.next] H2 (H2.put h.next (.cells x)):=(ExtB.refl _ _).put (.inr (by simp)) _
 have S3:=S2.extB y3 (fun j hj hm=>by simp at hm;have:=own j hj;have:=x1.1;omega)
 have u1:(H2.put h.next (.cells x)).read p 1 1=some [.int .i64 (v.pages:Int)]:=by
  have:(H2.put h.next (.cells x)).get p=H2.get p:=zb8 (by omega)
  unfold Heap.read at t1 ⊢;rw [this];exact t1
 have u4:(H2.put h.next (.cells x)).read p 4 1=some [.int .i64 (v.clients:Int)]:=by
  have:(H2.put h.next (.cells x)).get p=H2.get p:=zb8 (by omega)
  unfold Heap.read at t4 ⊢;rw [this];exact t4
 have r6:(H2.put h.next (.cells x)).read h.next 0 3=some x:=by rw [zcd zd8 (by omega),List.drop_zero,List.take_of_length_le (by omega)]
 rw [zbi (F:=ir39) rfl rfl rfl]
 unfold ir39
 rw [zbp]
 simp only [za9,zap,zac,zas,zbl,zad,zaj,zaa,zae,zaf,zar,zbq,zbb,zaz,za1,zbf,za7,X.eval,zal,zai,List.map_cons,List.map_nil,List.getD_cons_zero,List.getD_cons_succ,List.getD_nil,List.set_cons_zero,List.set_cons_succ,cond_true,BEq.rfl,AV.cells,AV.ofCells,XV.av,AV.xv,List.nil_append,List.cons_append,Nat.zero_add,Nat.add_zero,Nat.reduceAdd,Nat.reduceBEq,Bool.and_true,zc3,zch,zb6,zb5,zb7,zdr,zd0,zdo,zabk,zho,zie,zcs,zct,zhc,zgo,zf5,zfm,zgp,zgq,zg0,zf6,zhd,zgr,zhe,zc4,zde,zd7,List.reverse_cons,List.reverse_nil,hg0,zdj,zki,zcm,za3,za8,AV.ofCells,r0,r1,r4,f1,s1,s4,f2,zlq,List.getElem?_cons_zero,List.getElem?_cons_succ,zbj,lx,w3,zbk,zcb,RV.eval,r6]
 exact ⟨x,z,_,rfl,S3,((e0.trans x1).trans x2).put (Nat.le_refl _) _,fun j hj=>by have:=own j hj;have:=(e0.trans x1).1;omega⟩
end
end Lav
set_option maxRecDepth 100000
namespace Lav
open Go (IntKind)
def zlh (pages i:Nat) (f:Fra) (a:Nat × List Int):Option (Nat × List Int) :=
 if f.st=4 then some a else if f.pg = -1 then some (a.1 + 1,a.2) else if 0≤f.pg∧f.pg < (pages:Int)∧a.2.getD f.pg.toNat 0=0 then some (a.1 + 1,a.2.set f.pg.toNat ((i + 1:Nat):Int)) else none
def whF (pages:Nat) (fs:List Fra):Nat→Option (Nat × List Int)
 | 0=>some (0,List.replicate pages 0)
 | k + 1=>match whF pages fs k with
  | some a=>zlh pages k (zg9 fs k) a
  | none=>none
theorem ztk {pages i:Nat} {f:Fra} {a b:Nat × List Int} (h:zlh pages i f a=some b):b.2.length=a.2.length∧b.1≤a.1 + 1∧(∀ j,j < a.2.length→b.2.getD j 0=a.2.getD j 0∨b.2.getD j 0=((i + 1:Nat):Int)):=by
 unfold zlh at h
 split at h
 ·simp only [Option.some.injEq] at h;subst h;exact ⟨rfl,by omega,fun _ _=>.inl rfl⟩
 ·split at h
  ·simp only [Option.some.injEq] at h;subst h;exact ⟨rfl,Nat.le_refl _,fun _ _=>.inl rfl⟩
  ·split at h
   ·simp only [Option.some.injEq] at h;subst h
    refine ⟨by simp,Nat.le_refl _,fun j hj=>?_⟩
    by_cases e:f.pg.toNat=j
    ·right;subst e;simp [List.getD_eq_getElem?_getD,hj]
    ·left;simp [List.getD_eq_getElem?_getD,List.getElem?_set_ne e]
   ·cases h
theorem zmt {pages:Nat} {fs:List Fra}:∀ {k:Nat} {a:Nat × List Int},whF pages fs k=some a→a.2.length=pages∧a.1≤k∧∀ j,j < pages→a.2.getD j 0=0∨∃ i:Nat,i < k∧a.2.getD j 0=((i + 1:Nat):Int)
 | 0,a,h=>by
  simp only [whF,Option.some.injEq] at h;subst h
  exact ⟨by simp,Nat.le_refl _,fun j hj=>.inl (by simp [List.getD_eq_getElem?_getD,hj])⟩
 | k + 1,a,h=>by
  unfold whF at h
  split at h
  ·rename_i b hb
   obtain ⟨h1,h2,h3⟩:=zmt hb
   obtain ⟨g1,g2,g3⟩:=ztk h
   refine ⟨g1.trans h1,by omega,fun j hj=>?_⟩
   rcases g3 j (by omega) with e | e
   ·rw [e]
    rcases h3 j hj with e2 | ⟨i,hi,e2⟩
    ·exact .inl e2
    ·exact .inr ⟨i,by omega,e2⟩
   ·exact .inr ⟨k,by omega,e⟩
  ·cases h
def ztl (hs:List (List Int)) (fs:List Fra) (w:List Int) (k:Nat):Bool :=
 zd2 hs (k:Int) == 0 || (w.getD k 0 != 0 && (((zg9 fs (w.getD k 0 - 1).toNat).st == 1 || (zg9 fs (w.getD k 0 - 1).toNat).st == 2) && decide ((zd2 hs (k:Int):Int)≤(zg9 fs (w.getD k 0 - 1).toNat).pn)))
def zif (v:PV):Bool:=decide (v.fs.length≤32) && (match whF v.pages v.fs v.fs.length with
 | some (n,w)=>decide ((n:Int)=v.cap) && ((v.works || decide ((n:Int)=v.asked)) && (List.range v.pages).all fun k=>ztl (zer v.l v.pages v.clients).hs v.fs w k)
 | none=>false)
section
variable {N d:Nat} {h G G':Heap} {p:Nat} {v:PV}
theorem Fras.len {h H:Heap} {y:CV} {fs:List Fra} (I:Fras h y fs) {loc vals:List AV}:zao loc (.c y :: vals) H (.len .sl (.val 0))=some (.c (.int .i64 (fs.length:Int))):=by
 rcases I with ⟨rfl,rfl⟩ | ⟨b,c,rfl,_⟩<;>rfl
theorem zo5 (S:Sees N h p v) (g:GoodH N v) (hdown:v.down=false) (hf:zif v=true) (hN:1010≤N) (hd:62≤d):∃ h',evCallO OS table N (d + 1) 20 [.c (.ptr p 0)] h=some (.c (.bool true),h')∧Ext h h':=by
 obtain ⟨q,fc,b1,b2,b3,b4,b5,b6,b7,b8,b9⟩:=S.box
 obtain ⟨d,rfl⟩ : ∃ k,d=k + 12:=⟨d - 12,by omega⟩
 have lt:=S.lt
 have p48:=g.p48
 obtain ⟨H1,f1,x1⟩:=b8 (d + 12) (by omega) h (Ext.refl h)
 rw [hdown] at f1
 have S1:=S.ext x1
 obtain ⟨x,z,H2,f2,SR2,x2,own⟩:=zxe (N:=N) (d:=d + 11) S1 g hN (by omega)
 have lx:=SR2.len3
 obtain ⟨H3,w3,g3,x3,n3⟩:=ze1 (h:=H2) (z:=[.nils,.nils,.nils]) (v:=x) (by rw [lx];rfl)
 have w3':(H2.new (.cells [.nils,.nils,.nils])).write H2.next 0 x=some H3:=w3
 obtain ⟨y,H4,f4,I4,x4⟩:=b5 (d + 12) (by omega) H3 ((x1.trans x2).trans x3)
 have xa:Ext h H4:=((x1.trans x2).trans x3).trans x4
 have la:∀ loc vals H,zao loc (.c y :: vals) H (.len .sl (.val 0))=some (.c (.int .i64 (v.fs.length:Int))):=fun _ _ _=>I4.len
 unfold zif at hf
 rw [Bool.and_eq_true] at hf
 obtain ⟨hf0,hf⟩:=hf
 have h32:v.fs.length≤32:=by simpa using hf0
 split at hf
 rotate_left
 ·cases hf
 rename_i n w hw
 simp only [Bool.and_eq_true,Bool.or_eq_true,decide_eq_true_eq,List.all_eq_true,List.mem_range] at hf
 obtain ⟨hcap,hask,hpin⟩:=hf
 obtain ⟨wl,wn,wv⟩:=zmt hw
 simp only at wl wn wv
 have some_at:∀ k,k≤v.fs.length→∃ a,whF v.pages v.fs k=some a:=by
  intro k hk
  obtain ⟨m,hm⟩ : ∃ m,v.fs.length=k + m:=⟨v.fs.length - k,by omega⟩
  have gen:∀ m,(∃ a,whF v.pages v.fs (k + m)=some a)→∃ a,whF v.pages v.fs k=some a:=by
   intro m
   induction m with
   | zero=>exact id
   | succ m ih =>
    rintro ⟨a,ha⟩
    refine ih ?_
    rw [show k + (m + 1)=(k + m) + 1 by omega] at ha
    unfold whF at ha
    split at ha
    ·rename_i b hb;exact ⟨b,hb⟩
    ·cases ha
  exact gen m ⟨_,by rw [← hm];exact hw⟩
 have u1:h.read p 1 1=some [.int .i64 (v.pages:Int)]:=zah b1 rfl
 have u7:h.read p 7 1=some [.int .i64 v.asked]:=zah b1 rfl
 have rp:∀ {G},Ext h G→G.read p 0 1=some [.ptr q 0]∧G.read p 1 1=some [.int .i64 (v.pages:Int)]∧G.read p 7 1=some [.int .i64 v.asked]:=fun {G} e=>⟨(e.read lt).trans (zah b1 rfl),(e.read lt).trans u1,(e.read lt).trans u7⟩
 have hz:zeros v.pages [CV.int .i64 0]=(List.replicate v.pages (0:Int)).map zbw:=by
  induction v.pages with
  | zero=>rfl
  | succ k ih=>show CV.int .i64 0 :: zeros k _=_;rw [ih];rfl
 have e5:=(Ext.refl H4).new (.cells ((List.replicate v.pages (0:Int)).map zbw))
 generalize hg5:H4.new (.cells ((List.replicate v.pages (0:Int)).map zbw))=H5 at e5
 have g5:H5.get H4.next=some (.cells ((List.replicate v.pages (0:Int)).map zbw)):=by rw [← hg5];exact zbz
 have n5:H5.next=H4.next + 1:=by rw [← hg5];rfl
 have bl1:Nat.ble v.pages v.pages=true:=Nat.ble_eq_true_of_le (Nat.le_refl _)
 have bl2:Nat.ble v.pages 1073741824=true:=Nat.ble_eq_true_of_le (by omega)
 have fra:∀ {G},ExtB [H4.next] H5 G→∀ i,i < v.fs.length→∃ b c,y = .sl b 0 v.fs.length c∧G.read b (i * 5) 5=some (zji (zg9 v.fs i)):=by
  intro G xg i hi
  rcases I4 with ⟨_,h0⟩ | ⟨b,c,hy,hb,hr⟩
  ·rw [h0] at hi;simp at hi
  ·refine ⟨b,c,hy,?_⟩
   have:=hr i hi
   have hg:G.get b=H4.get b:=(xg.2 b (by omega) (by simp;omega)).trans (e5.2 b hb)
   unfold Heap.read at this ⊢
   rw [hg];exact this
 have L1:∀ loc,zbv ir20_k1 loc=[.c (.ptr p 0),.junk,.c (.ptr H2.next 0),.junk,.c y,.c (.int .i64 0),.c (.sl H4.next 0 v.pages (.ex v.pages)),.c (.int .i64 0),.junk,.junk,.junk,.junk,.junk,.junk,.junk,.junk,.junk,.junk,.junk,.junk,.junk,.junk,.junk] →
   ∃ r,zcr (evCallO OS table N (d + 12)) N ir20_k1 ir20_l1 N loc H5=some r∧∃ q7 q8 q14 q15 q16 q17 G,r=(.exit 0,[.c (.ptr p 0),.junk,.c (.ptr H2.next 0),.junk,.c y,.c (.int .i64 (n:Int)),.c (.sl H4.next 0 v.pages (.ex v.pages)),q7,q8,.junk,.junk,.junk,.junk,.junk,q14,q15,q16,q17,.junk,.junk,.junk,.junk,.junk],G)∧ExtB [H4.next] H5 G∧G.get H4.next=some (.cells (w.map zbw)):=by
  intro loc hloc
  refine zcl (n:=v.fs.length) (fun k loc G=>∃ a,whF v.pages v.fs k=some a∧ExtB [H4.next] H5 G∧G.get H4.next=some (.cells (a.2.map zbw))∧loc=[.c (.ptr p 0),.junk,.c (.ptr H2.next 0),.junk,.c y,.c (.int .i64 (a.1:Int)),.c (.sl H4.next 0 v.pages (.ex v.pages)),.c (.int .i64 (k:Int)),.junk,.junk,.junk,.junk,.junk,.junk,.junk,.junk,.junk,.junk,.junk,.junk,.junk,.junk,.junk]) _ ?_ ⟨_,rfl,ExtB.refl _ _,g5,hloc⟩ (by omega)
  rintro k loc G hk ⟨⟨m,ww⟩,ha,xg,gw,rfl⟩
  obtain ⟨al,am,av⟩:=zmt ha
  simp only at al am av gw
  unfold ir20_l1
  by_cases hlt:k < v.fs.length
  ·left
   refine ⟨hlt,?_⟩
   have v1:=ze6 hlt
   have v2:=zdm (i:=k) (by omega)
   have v3:=zdm (i:=m) (by omega)
   obtain ⟨b,c,hy,hr⟩:=fra xg k hlt
   obtain ⟨a2,ha2⟩:=some_at (k + 1) (by omega)
   have hstep:zlh v.pages k (zg9 v.fs k) (m,ww)=some a2:=by
    have:=ha2
    unfold whF at this
    rw [ha] at this
    exact this
   generalize hfk:zg9 v.fs k=f at *
   have m1:Nat.blt k v.fs.length=true:=zc0 hlt
   have r0:G.read b (k * 5) 1=some [.int .i64 f.st]:=zfh (b:=0) (c:=1) hr (by omega)
   have r1:G.read b (k * 5 + 1) 1=some [.int .i64 f.pg]:=zfh (b:=1) (c:=1) hr (by omega)
   subst hy
   unfold zlh at hstep
   by_cases c4:f.st=4
   ·rw [if_pos c4] at hstep
    simp only [Option.some.injEq] at hstep;subst hstep
    have k4:(f.st == 4)=true:=by simpa using c4
    simp only [zap,zac,zb2,zas,zat,zav,za2,zbu,za5,zcf,zad,zaj,zaa,zae,zaf,zar,zax,zbg,za4,zbt,za6,zag,X.eval,zal,zai,List.getD_cons_zero,List.getD_cons_succ,List.set_cons_zero,List.set_cons_succ,zay,zaq,zab,zak,intArith,shift,zbc,cond_true,cond_false,BEq.rfl,AV.ofCells,Nat.zero_add,Nat.add_zero,Int.reduceNeg,Int.reduceLT,decide_false,la,v1,zbr,za0,za3,za8,AV.ofCells,m1,r0,k4,v2]
    exact ⟨_,_,rfl,_,ha2,xg,gw,rfl⟩
   ·rw [if_neg c4] at hstep
    have k4:(f.st == 4)=false:=by simpa using c4
    by_cases cm:f.pg = -1
    ·rw [if_pos cm] at hstep
     simp only [Option.some.injEq] at hstep;subst hstep
     have km:(f.pg == -1)=true:=by simpa using cm
     simp only [zap,zac,zas,zat,zav,zam,za2,zbm,za5,zad,zaj,zaa,zae,zaf,zar,zax,zbg,za4,zbt,za6,zag,X.eval,zal,zai,List.getD_cons_zero,List.getD_cons_succ,List.set_cons_zero,List.set_cons_succ,zay,zaq,zab,zak,intArith,shift,zbc,cond_true,cond_false,BEq.rfl,AV.ofCells,Nat.zero_add,Nat.add_zero,Int.reduceNeg,Bool.not_true,Int.reduceLT,decide_true,decide_false,la,v1,zbr,za0,za3,za8,AV.ofCells,m1,r0,k4,v3,r1,zen,km,v2]
     exact ⟨_,_,rfl,_,ha2,xg,gw,rfl⟩
    ·rw [if_neg cm] at hstep
     have km:(f.pg == -1)=false:=by simpa using cm
     split at hstep
     ·rename_i hc
      simp only [Option.some.injEq] at hstep;subst hstep
      obtain ⟨hc0,hc1,hc2⟩:=hc
      obtain ⟨pg,hpg⟩:=Int.eq_ofNat_of_zero_le hc0
      rw [hpg] at r1 km hc1 hc2 ha2
      simp only [Int.toNat_natCast] at hc2 ha2
      have hpl:pg < v.pages:=by omega
      have k1:decide ((pg:Int) < 0)=false:=decide_eq_false (by omega)
      have k2:decide ((pg:Int) ≥ (v.pages:Int))=false:=decide_eq_false (by omega)
      have m2:Nat.blt pg v.pages=true:=zc0 hpl
      have rw_:G.read H4.next pg 1=some [.int .i64 0]:=by
       refine zah gw ?_
       rw [← hc2]
       simp [List.getD_eq_getElem?_getD,show pg < ww.length by omega,zbw]
      have wr:G.write H4.next pg [.int .i64 ((k + 1:Nat):Int)]=some (G.put H4.next (.cells ((ww.set pg ((k + 1:Nat):Int)).map zbw))):=by
       rw [ze8 gw (by simp;omega)]
       simp [List.map_set,zbw]
      have up:=(rp (G:=H5) (xa.trans e5)).2.1
      have up':G.read p 1 1=some [.int .i64 (v.pages:Int)]:=by
       have lp:p < H4.next:=Nat.lt_of_lt_of_le lt xa.1
       have hg:G.get p=H5.get p:=xg.2 p (by omega) (by simp;omega)
       unfold Heap.read at up ⊢;rw [hg];exact up
      simp only [zap,zac,zas,zat,zav,zam,za2,zbm,za5,zad,zaj,zaa,zau,zae,zaf,zar,zax,zba,zbg,za4,zbt,zbo,za6,zbe,zag,X.eval,zal,zai,List.getD_cons_zero,List.getD_cons_succ,List.set_cons_zero,List.set_cons_succ,zay,zaq,zab,zak,intArith,shift,zbc,cond_true,cond_false,BEq.rfl,AV.cells,AV.ofCells,List.length_cons,List.length_nil,Nat.zero_add,Nat.add_zero,Int.reduceNeg,Bool.not_true,Bool.not_false,Int.reduceLT,decide_true,decide_false,la,v1,zbr,za0,za3,zcw,zcm,za8,AV.ofCells,m1,r0,k4,v3,r1,zen,km,k1,up',k2,m2,rw_,zbj,wr,v2,Nat.mul_one]
      refine ⟨_,_,rfl,_,ha2,xg.put (.inr (by simp)) _,zd8,rfl⟩
     ·cases hstep
  ·right
   have:k=v.fs.length:=by omega
   subst this
   rw [hw] at ha
   simp only [Option.some.injEq,Prod.mk.injEq] at ha
   obtain ⟨rfl,rfl⟩:=ha
   have v1:decide ((v.fs.length:Int) < (v.fs.length:Int))=false:=zfg (Nat.le_refl _)
   simp only [zap,zac,zb2,zas,zat,zam,zcf,zad,zaj,zaa,zae,zaf,zar,zax,zbg,za6,zag,X.eval,zal,zai,List.getD_cons_zero,List.getD_cons_succ,List.set_cons_zero,List.set_cons_succ,zay,zaq,zab,zak,intArith,shift,cond_true,cond_false,BEq.rfl,Int.reduceNeg,la,v1]
   exact ⟨_,rfl,by simp,_,_,_,_,_,_,_,rfl,xg,gw⟩
 obtain ⟨r1,⟨q7,q8,q14,q15,q16,q17,H6,rfl,x6,g6⟩,hr1⟩:=zcn L1 rfl
 have x6h:Ext h H6:=⟨by have:=xa.1;have:=x6.1;omega,fun i hi=>by
  have l4:=Nat.lt_of_lt_of_le hi xa.1
  exact (x6.2 i (by omega) (by simp;omega)).trans ((xa.trans e5).2 i hi)⟩
 obtain ⟨H7,f7,x7⟩:=b6 (d + 12) (by omega) H6 x6h
 obtain ⟨H8,f8,x8⟩:=b7 (d + 12) (by omega) H7 (x6h.trans x7)
 have lh4:h.next≤H4.next:=xa.1
 have l6:H4.next < H6.next:=by have:=x6.1;omega
 have S6:SR H6 x z (zer v.l v.pages v.clients):=((((SR2.ext x3).ext x4).ext e5).extB x6 (fun j hj hm=>by simp at hm;have:=SR2.lt j hj;have:=x3.1;have:=x4.1;omega))
 have B6:H6.get H2.next=some (.cells x):=x6.at_ (e5.at_ (x4.at_ g3 (by omega)) (by have:=x4.1;omega)) (by have:=x4.1;omega) (by simp;have:=x4.1;omega)
 have lb2:H2.next < H6.next:=by have:=x4.1;omega
 have x78:Ext H6 H8:=x7.trans x8
 have nI:decide ((n:Int) > 32)=false:=decide_eq_false (by omega)
 have nC:((n:Int) == v.cap)=true:=by simpa using hcap
 have L0:∀ K,Ext H6 K→∀ loc,zbv ir20_k0 loc=[.c (.ptr p 0),.junk,.c (.ptr H2.next 0),.junk,.c y,.junk,.c (.sl H4.next 0 v.pages (.ex v.pages)),.junk,.junk,.c (.int .i64 0),.junk,.junk,.junk,.junk,.junk,.junk,.junk,.junk,.junk,.junk,.junk,.junk,.junk] →
   ∃ r,zcr (evCallO OS table N (d + 12)) N ir20_k0 ir20_l0 N loc K=some r∧∃ a0 a1 l' G,r=(.exit 2,a0 :: a1 :: l',G)∧Ext H6 G:=by
  intro K xK loc hloc
  refine zcl (n:=v.pages) (fun k loc G=>Ext H6 G∧loc=[.c (.ptr p 0),.junk,.c (.ptr H2.next 0),.junk,.c y,.junk,.c (.sl H4.next 0 v.pages (.ex v.pages)),.junk,.junk,.c (.int .i64 (k:Int)),.junk,.junk,.junk,.junk,.junk,.junk,.junk,.junk,.junk,.junk,.junk,.junk,.junk]) _ ?_ ⟨xK,hloc⟩ (by omega)
  rintro k loc G hk ⟨xg,rfl⟩
  unfold ir20_l0
  have up:=(rp (x6h.trans xg)).2.1
  by_cases hlt:k < v.pages
  ·left
   refine ⟨hlt,?_⟩
   have v1:=ze6 hlt
   have v2:=zdm (i:=k) (by omega)
   have SG:=S6.ext xg
   have rx:G.read H2.next 0 3=some x:=by rw [zcd (xg.at_ B6 lb2) (by omega),List.drop_zero,List.take_of_length_le (by omega)]
   obtain ⟨G1,f9,x9⟩:=zru (N:=N) (d:=d + 11) SG (k:Int) (by omega)
   have hp:=hpin k hlt
   unfold ztl at hp
   generalize hpn:zd2 (zer v.l v.pages v.clients).hs (k:Int)=pn at *
   by_cases c0:pn=0
   ·have k0:((pn:Int) == 0)=true:=by simp [c0]
    simp only [zap,zac,zb2,zas,zat,zav,za2,zbu,za5,zcf,zad,zaj,zaa,zae,zaf,zar,zax,za4,zbd,zbb,za6,zag,X.eval,zal,zai,List.map_cons,List.map_nil,List.getD_cons_zero,List.getD_cons_succ,List.set_cons_zero,List.set_cons_succ,zay,zaq,zab,zak,intArith,shift,cond_true,cond_false,BEq.rfl,AV.ofCells,Nat.zero_add,Nat.add_zero,Int.reduceLT,decide_false,zcw,zcm,za0,za3,za8,AV.ofCells,up,v1,rx,f9,k0,v2]
    exact ⟨_,_,rfl,xg.trans x9,rfl⟩
   ·have k0:((pn:Int) == 0)=false:=by simp only [beq_eq_false_iff_ne,ne_eq];omega
    have kn:(pn == 0)=false:=by simpa using c0
    rw [kn,Bool.false_or] at hp
    simp only [Bool.and_eq_true,Bool.or_eq_true,bne_iff_ne,ne_eq,beq_iff_eq,decide_eq_true_eq] at hp
    obtain ⟨hw0,hst,hpl⟩:=hp
    rcases wv k hlt with hbad | ⟨i,hi,hwi⟩
    ·exact absurd hbad hw0
    rw [hwi] at hst hpl
    have hi1:(((i + 1:Nat):Int) - 1).toNat=i:=by omega
    rw [hi1] at hst hpl
    have xg1:=xg.trans x9
    have m1:Nat.blt k v.pages=true:=zc0 hlt
    have rw_:G1.read H4.next k 1=some [.int .i64 ((i + 1:Nat):Int)]:=by
     refine zah (xg1.at_ g6 l6) ?_
     rw [← hwi]
     simp [List.getD_eq_getElem?_getD,show k < w.length by omega,zbw]
    have k1:(((i + 1:Nat):Int) == 0)=false:=by simp only [beq_eq_false_iff_ne,ne_eq];omega
    have k2:IntKind.i64.wrap (((i + 1:Nat):Int) - 1)=(i:Int):=by rw [zf7 (by omega) (by omega)];omega
    have m2:Nat.blt i v.fs.length=true:=zc0 hi
    obtain ⟨b,c,hy,hr⟩:=fra (G:=G1) ((x6.trans (xg1.b _))) i hi
    generalize hfi:zg9 v.fs i=f at *
    obtain ⟨G2,w9,g9,x10,n10⟩:=ze1 (h:=G1) (z:=[.int .i64 0,.int .i64 0,.int .i64 0,.int .i64 0,.bool false]) (v:=zji f) rfl
    have w9':(G1.new (.cells [.int .i64 0,.int .i64 0,.int .i64 0,.int .i64 0,.bool false])).write G1.next 0 (zji f)=some G2:=w9
    have fl:(zji f).length=5:=rfl
    have s0:G2.read G1.next 0 1=some [.int .i64 f.st]:=zah g9 rfl
    have s2:G2.read G1.next 2 1=some [.int .i64 f.pn]:=zah g9 rfl
    have k5:decide (f.pn < (pn:Int))=false:=decide_eq_false (by omega)
    subst hy
    by_cases c1:f.st=1
    ·have k3:(f.st == 1)=true:=by simpa using c1
     simp only [zap,zac,zas,zat,zav,zam,za2,zbm,za5,zad,zaj,zaa,zau,zae,zbn,zaf,zar,zax,zbq,zba,za4,zbt,zbd,zbo,zbb,za6,zbe,zbf,zag,za7,X.eval,zal,zai,List.map_cons,List.map_nil,List.getD_cons_zero,List.getD_cons_succ,List.set_cons_zero,List.set_cons_succ,zay,zaq,zab,zak,intArith,shift,zbc,cond_true,cond_false,BEq.rfl,AV.cells,AV.ofCells,Nat.zero_add,Nat.add_zero,Bool.not_true,Int.reduceLT,decide_false,ft,zcw,zcm,za0,za3,zbr,za8,AV.ofCells,up,v1,rx,f9,k0,m1,rw_,k1,k2,m2,hr,zbj,fl,w9',s0,s2,zen,k3,k5,v2,Nat.mul_one,Nat.zero_add]
     exact ⟨_,_,rfl,xg1.trans x10,rfl⟩
    ·have k3:(f.st == 1)=false:=by simpa using c1
     have k4:(f.st == 2)=true:=by
      rcases hst with e | e
      ·exact absurd e c1
      ·simpa using e
     simp only [zap,zac,zas,zat,zav,zam,za2,zbm,za5,zad,zaj,zaa,zau,zae,zaf,zar,zax,zbq,zba,za4,zbt,zbd,zbo,zbb,za6,zbe,zbf,zag,za7,X.eval,zal,zai,List.map_cons,List.map_nil,List.getD_cons_zero,List.getD_cons_succ,List.set_cons_zero,List.set_cons_succ,zay,zaq,zab,zak,intArith,shift,zbc,cond_true,cond_false,BEq.rfl,AV.cells,AV.ofCells,Nat.zero_add,Nat.add_zero,Bool.not_true,Bool.not_false,Int.reduceLT,decide_false,zcw,zcm,za0,za3,zbr,za8,AV.ofCells,up,v1,rx,f9,k0,m1,rw_,k1,k2,m2,hr,zbj,fl,w9',s0,s2,zen,k3,k4,k5,v2,Nat.mul_one,Nat.zero_add]
     exact ⟨_,_,rfl,xg1.trans x10,rfl⟩
  ·right
   have:k=v.pages:=by omega
   rw [this]
   have v1:decide ((v.pages:Int) < (v.pages:Int))=false:=zfg (Nat.le_refl _)
   simp only [zap,zac,zb2,zas,zat,zam,zcf,zad,zaj,zaa,zae,zaf,zar,zax,za4,za6,zag,X.eval,zal,zai,List.getD_cons_zero,List.getD_cons_succ,List.set_cons_zero,List.set_cons_succ,zay,zaq,zab,zak,intArith,shift,cond_true,cond_false,BEq.rfl,AV.ofCells,Nat.zero_add,Nat.add_zero,zcw,zcm,za0,za3,za8,AV.ofCells,up,v1]
   exact ⟨_,rfl,by simp,_,_,_,_,rfl,xg⟩
 have q0:=(rp (Ext.refl h)).1
 have q2:=(rp ((x1.trans x2).trans x3)).1
 have q4:=(rp (xa)).2.1
 have q6:=(rp x6h).1
 have q7':=(rp (x6h.trans x7)).1
 have q8':=(rp (x6h.trans x78)).2.2
 have v32:decide ((v.fs.length:Int) > 32)=false:=decide_eq_false (by omega)
 rw [zbi (F:=ir20) rfl rfl rfl]
 unfold ir20
 rw [zbp]
 simp only [za9,zap,zac,zas,zat,zam,za2,zb9,za5,zad,zaj,zaa,zau,zae,zaf,zar,zax,zbq,zp0,zba,zdq,zbg,zgz,za4,zbd,zbo,zbb,za6,zbe,zee,zbf,zag,za7,X.eval,zal,zai,List.map_cons,List.map_nil,List.getD_cons_zero,List.getD_cons_succ,List.getD_nil,List.set_cons_zero,List.set_cons_succ,zay,zdk,zaq,zab,zak,intArith,shift,zbc,cond_true,cond_false,BEq.rfl,AV.cells,AV.ofCells,XV.av,List.length_cons,List.length_nil,Nat.zero_add,Nat.add_zero,Bool.and_true,Bool.not_true,Int.reduceLT,decide_false,zcw,zcm,za0,za3,za8,AV.ofCells,q0,f1,f2,zlq,zgz,List.getElem?_cons_zero,List.getElem?_cons_succ,zbj,lx,w3',q2,f4,la,v32,q4,bl1,bl2,hz,hg5]
 rw [hr1 _ rfl]
 cases kw:v.works with
 | true =>
  rw [kw] at f8
  simp only [zap,zac,zas,zat,zam,za2,zbu,zb9,za5,zad,zaj,zaa,zau,zae,zbn,zaf,zar,zax,zba,zdq,za4,zbd,zbb,za6,zbe,zee,zag,X.eval,zal,zai,List.map_cons,List.map_nil,List.getD_cons_zero,List.getD_cons_succ,List.set_cons_zero,List.set_cons_succ,zay,zdk,zaq,zab,zak,intArith,shift,cond_true,cond_false,BEq.rfl,AV.ofCells,Nat.add_zero,Bool.not_true,Int.reduceLT,decide_false,ft,zcw,zcm,za0,za3,za8,AV.ofCells,q6,f7,zen,nC,nI,q7',f8]
  obtain ⟨r0,⟨a0,a1,l',G,rfl,x9⟩,hr0⟩:=zcn (L0 H8 x78) rfl
  rw [hr0 _ rfl]
  simp only [zap,zac,zas,zbu,zbl,zad,zaj,zaa,zae,zaf,zar,zaz,za1,X.eval,zai,List.getD_cons_zero,List.getD_cons_succ,List.set_cons_zero,List.set_cons_succ,cond_true,BEq.rfl,zbk,RV.eval]
  exact ⟨G,rfl,x6h.trans x9⟩
 | false =>
  rw [kw] at f8
  have nA:((n:Int) == v.asked)=true:=by
   rcases hask with e | e
   ·rw [kw] at e;cases e
   ·simpa using e
  simp only [zap,zac,zas,zat,zam,za2,zbu,zb9,za5,zad,zaj,zaa,zau,zae,zaf,zar,zax,zba,zdq,za4,zbd,zbb,za6,zbe,zee,zag,X.eval,zal,zai,List.map_cons,List.map_nil,List.getD_cons_zero,List.getD_cons_succ,List.set_cons_zero,List.set_cons_succ,zay,zdk,zaq,zab,zak,intArith,shift,cond_true,cond_false,BEq.rfl,AV.ofCells,Nat.zero_add,Nat.add_zero,Bool.not_true,Bool.not_false,Int.reduceLT,decide_false,zcw,zcm,za0,za3,za8,AV.ofCells,q6,f7,zen,nC,nI,q7',f8,q8',nA]
  obtain ⟨r0,⟨a0,a1,l',G,rfl,x9⟩,hr0⟩:=zcn (L0 H8 x78) rfl
  rw [hr0 _ rfl]
  simp only [zap,zac,zas,zbu,zbl,zad,zaj,zaa,zae,zaf,zar,zaz,za1,X.eval,zai,List.getD_cons_zero,List.getD_cons_succ,List.set_cons_zero,List.set_cons_succ,cond_true,BEq.rfl,zbk,RV.eval]
  exact ⟨G,rfl,x6h.trans x9⟩
structure RightV (N:Nat) (v:PV):Prop where
 g:GoodH N v
 fin:∀ i,i < v.l.length→(zbh v.l i).st≠0
 il:v.im.length=v.pages
 im:∀ k,k < v.pages→(v.im.getD k [])=List.replicate 24 0#8∧zid v.l v.pages v.clients k (v.im.getD k [])=true
 down:v.down=false
 fr:zif v=true
 no:∀ i,i < v.l.length→(zbh v.l i).rs.code≠8
 now:v.now=(v.full.length:Int) - 1
 small:v.full.length≤1000000
theorem zxf (S:Sees N h p v) (R:RightV N v) (hN:1010≤N) (hd:64≤d):∃ h',evCallO OS table N (d + 1) 17 [.c (.ptr p 0)] h=some (.c (.bool true),h')∧Ext h h':=by
 obtain ⟨d,rfl⟩ : ∃ k,d=k + 1:=⟨d - 1,by omega⟩
 obtain ⟨H1,f1,x1⟩:=zxc (N:=N) (d:=d) S R.g hN (by omega)
 obtain ⟨H2,f2,x2⟩:=zzi (N:=N) (d:=d) (S.ext x1) R.g R.fin R.il R.im hN (by omega)
 obtain ⟨H3,f3,x3⟩:=zo5 (N:=N) (d:=d) (S.ext (x1.trans x2)) R.g R.down R.fr hN (by omega)
 obtain ⟨H4,f4,x4⟩:=zu9 (N:=N) (d:=d) (S.ext ((x1.trans x2).trans x3)) R.g.K.hs R.no hN (by omega)
 have x:=((x1.trans x2).trans x3).trans x4
 obtain ⟨q,fc,b1,⟨fb,cc,rfl⟩,b3,b4,b5,b6,b7,b8,b9⟩:=S.box
 obtain ⟨H5,f5,x5⟩:=b9 (d + 1) (by omega) H4 x
 have lt:=S.lt
 have r0:H4.read p 0 1=some [.ptr q 0]:=(x.read lt).trans (zah b1 rfl)
 have r5:H4.read p 5 1=some [.sl fb 0 v.full.length cc]:=(x.read lt).trans (zah b1 rfl)
 have s5:H5.read p 5 1=some [.sl fb 0 v.full.length cc]:=(x5.read (Nat.lt_of_lt_of_le lt x.1)).trans r5
 have hs:=R.small
 have v1:IntKind.i64.wrap ((v.full.length:Int) - 1)=(v.full.length:Int) - 1:=zf7 (by omega) (by omega)
 have v2:(v.now == (v.full.length:Int) - 1)=true:=by simpa using R.now
 rw [zbi (F:=ir17) rfl rfl rfl]
 unfold ir17
 rw [zbp]
 simp only [za9,zap,zac,zas,zbl,zad,zaj,zaa,zau,zae,zaf,zar,zbb,zaz,za1,za6,zbe,X.eval,zal,zai,List.map_cons,List.map_nil,List.getD_cons_zero,List.getD_cons_succ,List.getD_nil,List.set_cons_zero,List.set_cons_succ,zay,zaq,zab,zak,intArith,shift,cond_true,cond_false,BEq.rfl,AV.ofCells,List.nil_append,List.cons_append,Nat.zero_add,Nat.add_zero,Nat.reduceAdd,Nat.reduceBEq,Bool.and_true,Int.reduceLT,decide_false,zc3,zch,zb6,zb5,zb7,zdr,zd0,ze5,zfk,zx8,zdo,zho,zcs,zct,zhc,zgo,zf5,zfm,zgp,zgq,zf6,zhd,zgr,zhe,zc4,zde,zd7,List.reverse_cons,List.reverse_nil,zdj,zki,zcm,za3,za8,AV.ofCells,f1,f2,f3,f4,r0,f5,r5,s5,zbs,v1,v2,zbk,RV.eval]
 exact ⟨H5,rfl,x.trans x5⟩
end
end Lav
set_option maxRecDepth 100000
namespace Lav
open Go (IntKind)
def zql (l:List Ev) (n:Int) (i:Nat):Bool :=
 decide (0≤(zbh l i).cl) && (decide ((zbh l i).cl < n) && (decide (0 < (zbh l i).bg) && ((match i with | 0=>true | p + 1=>decide ((zbh l p).bg≤(zbh l i).bg)) &&
  ((if 0 < (zbh l i).en then decide ((zbh l i).bg≤(zbh l i).st) && decide ((zbh l i).st≤(zbh l i).en) else decide ((zbh l i).en=0) && (decide ((zbh l i).st=0) || decide ((zbh l i).bg≤(zbh l i).st))) &&
  (List.range i).all fun k=>!(decide ((zbh l k).cl=(zbh l i).cl)) || (decide (0 < (zbh l k).en) && decide ((zbh l k).en < (zbh l i).bg))))))
theorem zva {l:List Ev} {n:Int} {i:Nat} (h:zql l n i=true):AloneP l i (zbh l i) n:=by
 unfold zql at h
 simp only [Bool.and_eq_true,decide_eq_true_eq] at h
 obtain ⟨h1,h2,h3,h4,h5,h6⟩:=h
 have at_:∀ {k:Nat} {f:Ev},l[k]? = some f→zbh l k=f:=fun hk=>by unfold zbh;rw [List.getD_eq_getElem?_getD,hk];rfl
 refine ⟨h1,h2,h3,fun p f hp hf=>?_,fun he=>?_,fun he=>?_,fun k f hk hf hc=>?_⟩
 ·subst hp
  simp only [decide_eq_true_eq] at h4
  rw [← at_ hf];exact h4
 ·rw [if_pos he] at h5
  simpa using h5
 ·rw [if_neg he] at h5
  simpa using h5
 ·have:=List.all_eq_true.1 h6 k (List.mem_range.2 hk)
  rw [at_ hf] at this
  simp only [hc,decide_true,Bool.not_true,Bool.false_or,Bool.and_eq_true,decide_eq_true_eq] at this
  exact this
def zxg (l:List Ev) (c:Nat) (i:Nat):Bool:=decide (0≤(zbh l i).cl) && (decide ((zbh l i).cl < (c:Int)) && (decide (1≤(zbh l i).op.kd) && decide ((zbh l i).op.kd≤8)))
end Lav
set_option linter.unusedVariables false
namespace Lav
def hk (l:List Blk):List Nat→Heap
 | []=>hp l
 | i :: r=>(hk l r).kill i
theorem zig (l:List Blk):∀ r,(hk l r).next=l.length
 | []=>rfl
 | _ :: r=>zig l r
theorem znr (l:List Blk) (i:Nat):∀ r,(hk l r).get i=if i∈r then none else l[i]?
 | []=>by rw [if_neg (by simp)];exact zg3 l i
 | k :: r=>by
  show ((hk l r).kill k).get i=_
  rw [Heap.get_kill]
  unfold upd
  by_cases h:i=k
  ·subst h;simp
  ·have e:=znr l i r
   simp only [h,if_false,List.mem_cons,false_or,e]
def live (m:Nat) (dead:List Nat):List Nat:=(List.range m).filter fun i=>!(dead.any fun j=>Nat.beq i j)
def zpe (m:Nat) (dead ts:List Nat) (x:Option (AV × Heap)):Option (AV × Nat × List (Option Blk) × List (Option Blk)):=match x with
 | some (r,h)=>some (r,h.next,(live m dead).map h.get,ts.map h.get)
 | none=>none
theorem live_mem {m i:Nat} {dead:List Nat}:i∈live m dead↔i < m∧i ∉ dead:=by
 unfold live
 rw [List.mem_filter,List.mem_range]
 refine and_congr_right fun _=>?_
 rw [Bool.not_eq_true',List.any_eq_false]
 refine ⟨fun h hm=>h i hm (Nat.beq_refl i),fun h j hj hb=>h (Nat.eq_of_beq_eq_true hb ▸ hj)⟩
theorem obs {o o':Over} {table:List (Nat × IRF)} (hT:clT table=true) (hO:OverM2 τ0 o o' table) {N d N' d' f:Nat} (hN:N≤N') (h20:20≤N') (hd:d≤d') {args:List AV} {l news:List Blk} {dead ts:List Nat} {n:Nat} {r:AV}
  (he:zpe l.length dead ts (evCallO o table N d f args (hk l dead))=some (r,n,(live l.length dead).map (fun i=>l[i]?),news.map some)) (hf:fit l args ts n=true)
  {ρ:Nat→Nat} {g:Heap} (E:Emb ρ (hk l dead) g) :
  ∃ g',evCallO o' table N' d' f (mva τ0 ρ args) g=some (r.mv τ0 (ext ρ l.length g.next),g')∧Ext g g'∧∀ (j:Nat) (b:Blk),news[j]? = some b→∃ t,ts[j]? = some t∧ext ρ l.length g.next t < g'.next∧g'.get (ext ρ l.length g.next t)=some (b.mv τ0 (ext ρ l.length g.next)):=by
 unfold fit at hf
 simp only [Bool.and_eq_true] at hf
 obtain ⟨f1,f2,-,f4⟩:=hf
 unfold zpe at he
 split at he
 ·rename_i r0 h' hev
  simp only [Option.some.injEq,Prod.mk.injEq] at he
  obtain ⟨rfl,rfl,hlv,hts⟩:=he
  obtain ⟨g',e,at_,inj,⟨m,n1,n2⟩,fr,dd⟩:=zqd hT hO hN h20 hd hev E (fun i b hb=>by
   rw [znr] at hb
   split at hb
   ·cases hb
   ·obtain ⟨hi,rfl⟩:=List.getElem?_eq_some_iff.1 hb
    have:=List.all_eq_true.1 f1 _ (List.getElem_mem hi)
    rw [Bool.and_eq_true] at this
    rw [zig]
    exact this) (by rw [zig];exact f2)
  rw [zig] at e at_ inj n1
  have hsame:∀ i,(hk l dead).get i≠none→h'.get i=(hk l dead).get i:=by
   intro i hi
   have hg:=znr l i dead
   by_cases hd:i∈dead
   ·rw [if_pos hd] at hg;exact absurd hg hi
   ·rw [if_neg hd] at hg
    have hil:i < l.length:=by
     refine Classical.byContradiction fun hn=>hi (hg.trans (List.getElem?_eq_none (by omega)))
    have hm:i∈live l.length dead:=live_mem.2 ⟨hil,hd⟩
    obtain ⟨j,hj,hij⟩:=List.getElem_of_mem hm
    have:=congrArg (fun x=>x[j]?) hlv
    simp only [List.getElem?_map,List.getElem?_eq_getElem hj,Option.map_some,Option.some.injEq,hij] at this
    rw [this,hg]
  refine ⟨g',e,⟨by omega,fun k hk=>?_⟩,fun j b hb=>?_⟩
  ·by_cases c:∃ i,(Lav.hk l dead).get i≠none∧ρ i=k
   ·obtain ⟨i,hi,rfl⟩:=c
    cases hg:(Lav.hk l dead).get i with
    | none=>exact absurd hg hi
    | some b =>
     obtain ⟨h1,h2,h3⟩:=E.at_ i b hg
     rw [zig] at h1
     have:=at_ i b ((hsame i hi).trans hg)
     have ex:ext ρ l.length g.next i=ρ i:=if_pos h1
     rw [ex] at this
     rw [this,h3]
     have nt:b.lt l.length=true:=by
      rw [znr] at hg
      split at hg
      ·cases hg
      ·obtain ⟨hi',rfl⟩:=List.getElem?_eq_some_iff.1 hg
       have:=List.all_eq_true.1 f1 _ (List.getElem_mem hi')
       rw [Bool.and_eq_true] at this
       exact this.1
     refine congrArg some ?_
     exact Blk.mv_congr (n:=l.length) (fun j hj=>if_pos hj) nt
   ·exact fr k hk fun i hi he=>c ⟨i,hi,he⟩
  ·have:=congrArg (fun x=>x[j]?) hts
   simp only [List.getElem?_map,hb,Option.map_some] at this
   cases ht:ts[j]? with
   | none=>rw [ht] at this;cases this
   | some t =>
    rw [ht] at this
    simp only [Option.map_some,Option.some.injEq] at this
    refine ⟨t,rfl,?_,at_ t b this⟩
    have ht':t < h'.next:=ltB (List.all_eq_true.1 f4 _ (List.mem_of_getElem? ht))
    unfold ext
    by_cases c:t < l.length
    ·rw [if_pos c]
     have hl:(Lav.hk l dead).get t≠none:=fun hd=>by rw [dd t (by rw [zig];exact c) hd] at this;cases this
     cases hg:(Lav.hk l dead).get t with
     | none=>exact absurd hg hl
     | some b=>have:=(E.at_ _ b hg).2.1;omega
    ·rw [if_neg c];omega
 ·cases he
end Lav
set_option maxRecDepth 100000
namespace Lav
open Go (IntKind)
def Q.zst:CV:=.str (List.replicate 16 0)
theorem Q.new83:zpe ([]:List Blk).length [] [39,41,50,42,45,48] (evCallO OS table 3000 6 73 [.c (a 8),.c (a 3)] (hk [] []))=some (.agg [d 39 0 8 1,d 41 0 8 1,d 50 0 3 1],51,(live ([]:List Blk).length []).map (fun i=>([]:List Blk)[i]?),([cs (rp 8 [f]),cs (rp 8 [zst]),cs ([s 42 0 6 6,s 45 0 6 6,s 48 0 6 6]),cs (rp 6 [m 0]),cs (rp 6 [m 0]),cs (rp 6 [m 0])]:List Blk).map some):=by kernel_rfl
theorem Q.new83f:fit ([]:List Blk) [.c (a 8),.c (a 3)] [39,41,50,42,45,48] 51=true:=by kernel_rfl
theorem zvb {N d:Nat} (hN:3000≤N) (hd:6≤d):zkl N d 8 3:=by
 intro h
 obtain ⟨g',e,x,nw⟩:=obs zdv zdn hN (by omega) hd Q.new83 Q.new83f (show Emb (fun _=>0) (hk [] []) h from Emb.empty _ h)
 have hs:∀ t,ext (fun _=>0) ([]:List Blk).length h.next t=h.next + t:=fun t=>by
  show (if t < 0 then _ else _)=_
  rw [if_neg (Nat.not_lt_zero _)];rfl
 generalize ext (fun _=>0) ([]:List Blk).length h.next=σ at e nw hs
 obtain ⟨_,hj,l0,g0⟩:=nw 0 _ rfl
 simp only [List.getElem?_cons_zero,Option.some.injEq] at hj
 subst hj
 obtain ⟨_,hj,l1,g1⟩:=nw 1 _ rfl
 simp only [List.getElem?_cons_zero,List.getElem?_cons_succ,Option.some.injEq] at hj
 subst hj
 obtain ⟨_,hj,l2,g2⟩:=nw 2 _ rfl
 simp only [List.getElem?_cons_zero,List.getElem?_cons_succ,Option.some.injEq] at hj
 subst hj
 obtain ⟨_,hj,l3,g3⟩:=nw 3 _ rfl
 simp only [List.getElem?_cons_zero,List.getElem?_cons_succ,Option.some.injEq] at hj
 subst hj
 obtain ⟨_,hj,l4,g4⟩:=nw 4 _ rfl
 simp only [List.getElem?_cons_zero,List.getElem?_cons_succ,Option.some.injEq] at hj
 subst hj
 obtain ⟨_,hj,l5,g5⟩:=nw 5 _ rfl
 simp only [List.getElem?_cons_zero,List.getElem?_cons_succ,Option.some.injEq] at hj
 subst hj
 refine ⟨_,⟨σ 39,σ 41,σ 50,[σ 42,σ 45,σ 48],.dy 1,.dy 1,.dy 1⟩,g',e,⟨rfl,g0,g1,g2,rfl,fun i hi=>?_,fun j hj=>?_,?_,rfl,fun l hl=>?_,by decide,by decide,fun l hl v hv=>?_⟩,x,fun j hj=>?_⟩
 ·match i,hi with
  | 0,_=>exact ⟨g3,rfl⟩
  | 1,_=>exact ⟨g4,rfl⟩
  | 2,_=>exact ⟨g5,rfl⟩
 ·simp only [SP.own,List.mem_cons,List.not_mem_nil,or_false] at hj
  rcases hj with rfl | rfl | rfl | rfl | rfl | rfl
  all_goals assumption
 ·simp only [SP.own,hs,List.nodup_cons,List.mem_cons,List.not_mem_nil,or_false,not_or]
  refine ⟨?_,?_,?_,?_,?_,?_⟩<;>first | omega | (refine ⟨?_,?_⟩<;>omega) | simp
 ·rw [List.eq_of_mem_replicate hl];rfl
 ·rw [List.eq_of_mem_replicate hl] at hv
  rw [List.eq_of_mem_replicate hv]
  show (-1:Int) < _
  simp [zc6]
 ·simp only [SP.own,hs,List.mem_cons,List.not_mem_nil,or_false] at hj
  omega
end Lav
