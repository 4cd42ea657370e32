import Derived.Laws.AppendOwn
import Derived.MapKept
import Derived.Shelf.SlIterI.Nil
import Derived.Shelf.SortM.Plain
import Derived.Shelf.SortM.SortNone
import Derived.Test.YtpceddbicolfeaaGreatProg
import Derived.Maps.RangeRun
import Derived.Test.YtpceddbicolfeaaGreatK02
set_option maxRecDepth 100000
namespace Lav
open Go Go.Proofs
open Go (IntKind)
open C9
def ir16_k0:List Bool:=[true,true,false,false,true,false,false,false,false,false,false,false]
def ir16_l0:IR:=.seq (.seq (.reg [A 4,A 1,I (.len (.sl) (V 0)),J 8 (.bin (.lss) (V 2) (V 0))]) (.cond (L 8) (.skip) (.exit 0))) (.block 1 (.seq (.seq (.reg [A 1,A 4,E 1,D,J 9 (.bin (.neq) (V 0) (.k (.c (.int (.u8) 0))))]) (.cond (L 9) (.exit 0) (.skip))) (.reg [A 4,I (.bin (.add) (V 0) (N 1)),F 4])))
def ir16:IRF :=
 { slots:=[0,1,4,5,6,7,8,17,21,26,32,45],nparams:=2,results:=[.loc 2,.loc 3],body:=.seq (.reg [J 2 (.mov (.k (.c (.nils)))),J 3 (.mov (N 0))]) (.seq (.seq (.reg [A 0,I (.call 33 [.val 0]),I (.un (.not) (V 0)),I (.mov (V 0)),⟨none,.mov (L 1),some (.val 0,false),[]⟩,⟨none,.len (.sl) (V 0),some (.val 1,false),[]⟩,⟨none,.bin (.neq) (V 0) (N 24),some (.val 2,false),[]⟩,J 7 (.pick (V 3) (.k (.c (.bool true))) (V 0))]) (.cond (L 7) (.seq (.reg [J 2 (.mov (.k (.c (.nils)))),J 3 (.mov (N 1))]) (.ret)) (.skip))) (.seq (.reg [J 4 (.mov (N 0))]) (.seq (.skip) (.seq (.block 0 (.loop ir16_k0 ir16_l0)) (.seq (.seq (.reg [A 4,A 1,I (.len (.sl) (V 0)),J 10 (.bin (.eql) (V 2) (V 0))]) (.cond (L 10) (.seq (.reg [J 2 (.mov (.k (.c (.nils)))),J 3 (.mov (N 11))]) (.ret)) (.skip))) (.seq (.reg [A 1,I (.slice 1 (V 0) (some (N 8)) none none),I (.call 28 [.val 0]),F 5]) (.seq (.seq (.reg [A 0,A 5,I (.call 34 [.val 1,.val 0]),I (.mov (V 0)),I (.ext 0 (V 0)),I (.ext 1 (V 1)),J 6 (.mov (V 1)),I (.mov (V 1))]) (.seq (.reg [A 6,A 1,I (.call 35 [.val 1,.val 0]),J 11 (.un (.not) (V 0))]) (.cond (L 11) (.seq (.reg [J 2 (.mov (.k (.c (.nils)))),J 3 (.mov (N 10))]) (.ret)) (.skip)))) (.seq (.reg [A 5,F 2,J 3 (.mov (N 0))]) (.ret))))))))) }
theorem ir16_of:zaw Tryz.prog [0,1,4,5,6,7,8,17,21,26,32,45] [[true,true,false,false,true,false,false,false,false,false,false,false]] Tryz.f16=some ir16:=by kernel_rfl
def ir178_k0:List Bool:=[true,false,false,false,false,false,false,true,false]
def ir178_l0:IR:=.seq (.reg [I (.bad),J 8 (.ext 0 (V 0))]) (.seq (.cond (L 8) (.skip) (.exit 0)) (.block 1 (.seq (.reg [I (.bad),I (.ext 0 (V 0)),I (.ext 1 (V 1)),J 3 (.mov (V 1)),J 4 (.mov (V 1))]) (.reg [A 0,B,C 0,D,A 3,A 4,I (.iaddr 1 (V 2) (V 1)),I (.store 1 (V 0) (V 1))]))))
def ir178:IRF :=
 { slots:=[0,2,3,4,5,7,11,17,19],nparams:=1,results:=[.loc 1],body:=.seq (.reg [J 1 (.mov (N 0))]) (.seq (.seq (.reg [A 0,J 5 (.eq (.ptr) false (V 0) (.k (.c (.nilp))))]) (.cond (L 5) (.seq (.reg [J 1 (.mov (N 12))]) (.ret)) (.skip))) (.seq (.seq (.reg [A 0,I (.call 196 [.val 0]),F 2]) (.seq (.reg [A 2,J 6 (.bin (.neq) (V 0) (N 0))]) (.cond (L 6) (.seq (.reg [A 2,F 1]) (.ret)) (.skip)))) (.seq (.seq (.reg [A 0,B,C 1,D,J 7 (.bad)]) (.block 0 (.loop ir178_k0 ir178_l0))) (.seq (.reg [A 0,B,C 1,D,I (.mclr (V 0))]) (.seq (.reg [J 1 (.mov (N 0))]) (.ret)))))) }
theorem ir178_of:zaw Tryz.prog [0,2,3,4,5,7,11,17,19] [[true,false,false,false,false,false,false,true,false]] Tryz.f178=some ir178:=by kernel_rfl
def ir118:IRF :=
 { slots:=[0,1,4,5,6,30,61],nparams:=2,results:=[],body:=.seq (.reg [A 0,B,C 15,D,A 1,E 12,F 2]) (.seq (.dreg 0 [A 0,B,C 13,D,A 2,B,C 2,D,I (.iaddr 1 (V 4) (V 0)),D,F 3]) (.seq (.seq (.reg [A 0,B,C 5,D,A 1,I (.call 43 [.val 1,.val 0]),I (.field 1 1 false (V 0)),J 5 (.bin (.eql) (V 0) (N 7))]) (.cond (L 5) (.seq (.reg [A 0,A 1,A 0,B,C 4,D,I (.call 178 [.val 0]),I (.call 116 [.val 6,.val 5,.val 0])]) (.ret)) (.skip))) (.seq (.dreg 0 [A 3,B,C 5,D,A 2,B,C 3,D,I (.mdel (V 4) (V 0))]) (.seq (.seq (.dreg 0 [A 0,B,C 4,D,A 2,B,C 1,D,A 2,B,C 7,D,I (.call 142 [.val 8,.val 4,.val 0]),F 4]) (.seq (.reg [A 4,J 6 (.bin (.neq) (V 0) (N 0))]) (.cond (L 6) (.seq (.reg [A 0,A 1,A 4,I (.call 116 [.val 2,.val 1,.val 0])]) (.ret)) (.skip)))) (.seq (.dreg 0 [A 3,B,C 0,D,I (.call 55 [.val 0]),A 2,B,C 3,⟨none,.load 1 false (V 0),none,[(none,[]),(some 4,[])]⟩,I (.call 143 [.val 4,.val 0,.k (.c (.bool false))])]) (.reg [A 0,B,C 5,D,A 1,I (.call 102 [.val 1,.val 0,.k (.c (.int (.i64) 7))])])))))) }
theorem ir118_of:zaw Tryz.prog [0,1,4,5,6,30,61] [] Tryz.f118=some ir118:=by kernel_rfl
def ir81:IRF :=
 { slots:=[0,1,4,5,6,19,20,25,33,37,42,47,60,71,76,82,90,94,99,112,123],nparams:=2,results:=[],body:=.seq (.reg [A 0,B,C 15,D,A 1,E 12,F 2]) (.seq (.reg [A 0,B,C 5,D,A 1,I (.call 43 [.val 1,.val 0]),J 5 (.field 1 1 false (V 0))]) (.block 0 (.seq (.reg [I (.bin (.eql) (L 5) (N 0)),F 6]) (.cond (L 6) (.reg [A 0,A 1,I (.call 113 [.val 1,.val 0])]) (.seq (.reg [I (.bin (.eql) (L 5) (N 1)),F 7]) (.cond (L 7) (.seq (.reg [A 0,A 1,A 2,B,C 2,D,J 8 (.call 104 [.val 5,.val 4,.val 0,.k (.c (.int (.i64) 2))])]) (.cond (L 8) (.reg [A 0,A 1,I (.call 114 [.val 1,.val 0])]) (.skip))) (.seq (.reg [I (.bin (.eql) (L 5) (N 2)),F 9]) (.cond (L 9) (.reg [A 0,A 1,I (.call 114 [.val 1,.val 0])]) (.seq (.reg [I (.bin (.eql) (L 5) (N 3)),F 10]) (.cond (L 10) (.reg [A 0,A 1,I (.call 115 [.val 1,.val 0])]) (.seq (.reg [I (.bin (.eql) (L 5) (N 4)),F 11]) (.cond (L 11) (.seq (.seq (.dreg 0 [A 0,A 2,B,C 2,D,A 2,B,C 4,D,I (.call 106 [.val 8,.val 4,.val 0]),F 3]) (.seq (.reg [A 3,J 12 (.bin (.neq) (V 0) (N 0))]) (.cond (L 12) (.seq (.reg [A 0,A 1,A 3,I (.call 116 [.val 2,.val 1,.val 0])]) (.ret)) (.skip)))) (.reg [A 0,B,C 5,D,A 1,I (.call 102 [.val 1,.val 0,.k (.c (.int (.i64) 3))])])) (.seq (.reg [I (.bin (.eql) (L 5) (N 5)),F 13]) (.cond (L 13) (.reg [A 0,A 1,I (.call 117 [.val 1,.val 0])]) (.seq (.seq (.reg [I (.bin (.eql) (L 5) (N 6)),F 14]) (.cond (L 14) (.skip) (.reg [I (.bin (.eql) (L 5) (N 7)),F 14]))) (.cond (L 14) (.reg [A 0,A 1,I (.call 118 [.val 1,.val 0])]) (.seq (.reg [I (.bin (.eql) (L 5) (N 8)),F 15]) (.cond (L 15) (.seq (.reg [A 0,A 1,A 2,B,C 5,D,J 16 (.call 104 [.val 5,.val 4,.val 0,.k (.c (.int (.i64) 9))])]) (.cond (L 16) (.reg [A 0,A 1,I (.call 119 [.val 1,.val 0])]) (.skip))) (.seq (.reg [I (.bin (.eql) (L 5) (N 9)),F 17]) (.cond (L 17) (.reg [A 0,A 1,I (.call 119 [.val 1,.val 0])]) (.seq (.reg [I (.bin (.eql) (L 5) (N 10)),F 18]) (.cond (L 18) (.seq (.seq (.dreg 0 [A 0,A 2,B,C 5,D,A 2,B,C 4,D,I (.call 106 [.val 8,.val 4,.val 0]),F 4]) (.seq (.reg [A 4,J 19 (.bin (.neq) (V 0) (N 0))]) (.cond (L 19) (.seq (.reg [A 0,A 1,A 4,I (.call 116 [.val 2,.val 1,.val 0])]) (.ret)) (.skip)))) (.reg [A 0,B,C 5,D,A 1,I (.call 102 [.val 1,.val 0,.k (.c (.int (.i64) 9))])])) (.seq (.seq (.reg [I (.bin (.eql) (L 5) (N 11)),F 20]) (.cond (L 20) (.skip) (.reg [I (.bin (.eql) (L 5) (N 12)),F 20]))) (.cond (L 20) (.reg [A 0,A 1,I (.call 120 [.val 1,.val 0])]) (.skip))))))))))))))))))))))))) }
theorem ir81_of:zaw Tryz.prog [0,1,4,5,6,19,20,25,33,37,42,47,60,71,76,82,90,94,99,112,123] [] Tryz.f81=some ir81:=by kernel_rfl
def ir50:IRF :=
 { slots:=[0,1,10,14,19,24],nparams:=2,results:=[],body:=.seq (.reg [A 1,A 0,B,C 0,C 3,D,J 2 (.bin (.sub) (V 5) (V 0))]) (.block 0 (.seq (.reg [I (.bin (.eql) (L 2) (N 0)),F 3]) (.cond (L 3) (.reg [A 0,A 1,I (.call 78 [.val 1,.val 0])]) (.seq (.reg [I (.bin (.eql) (L 2) (N 1)),F 4]) (.cond (L 4) (.reg [A 0,A 1,I (.call 79 [.val 1,.val 0])]) (.seq (.reg [I (.bin (.eql) (L 2) (N 2)),F 5]) (.cond (L 5) (.reg [A 0,A 1,I (.call 80 [.val 1,.val 0])]) (.reg [A 0,A 1,I (.call 81 [.val 1,.val 0])])))))))) }
theorem ir50_of:zaw Tryz.prog [0,1,10,14,19,24] [] Tryz.f50=some ir50:=by kernel_rfl
def ir82:IRF :=
 { slots:=[0,2,4],nparams:=1,results:=[.loc 1],body:=.seq (.reg [J 1 (.mov (.k (.c (.nils))))]) (.seq (.seq (.reg [A 0,J 2 (.eq (.ptr) false (V 0) (.k (.c (.nilp))))]) (.cond (L 2) (.seq (.reg [J 1 (.mov (.k (.c (.nils))))]) (.ret)) (.skip))) (.seq (.reg [A 0,B,C 1,D,I (.call 122 [.val 0]),I (.call 121 [.val 0]),F 1]) (.ret))) }
theorem ir82_of:zaw Tryz.prog [0,2,4] [] Tryz.f82=some ir82:=by kernel_rfl
def ir52_k0:List Bool:=[true,true,false,true,false,false,false,false,true,true,true,false,false,false,false,false,false,false]
def ir52_l0:IR:=.seq (.reg [J 11 (.bin (.lss) (L 10) (L 9))]) (.seq (.cond (L 11) (.skip) (.exit 0)) (.seq (.block 1 (.seq (.reg [I (.iaddr 1 (L 8) (L 10)),D,F 4]) (.seq (.reg [J 5 (.mov (N 0))]) (.seq (.seq (.reg [A 3,I (.bin (.quo) (V 0) (N 4)),A 1,I (.len (.sl) (V 0)),J 12 (.bin (.lss) (V 2) (V 0))]) (.cond (L 12) (.reg [A 1,A 3,I (.bin (.quo) (V 0) (N 4)),I (.iaddr 1 (V 2) (V 0)),D,A 3,I (.bin (.rem) (V 0) (N 4)),I (.bin (.mul) (N 2) (V 0)),I (.conv (.u64) (V 0)),I (.bin (.shr) (V 4) (V 0)),I (.bin (.and) (V 0) (.k (.c (.int (.u8) 3)))),I (.conv (.i64) (V 0)),F 5]) (.skip))) (.seq (.reg [A 3,I (.bin (.add) (V 0) (N 1)),F 3]) (.seq (.reg [A 0,B,C 1,D,A 4,I (.mget (.nils) false (V 1) (V 0)),F 6]) (.seq (.reg [J 13 (.mov (L 5))]) (.block 2 (.seq (.reg [I (.bin (.eql) (L 13) (N 0)),F 14]) (.cond (L 14) (.exit 1) (.seq (.reg [I (.bin (.eql) (L 13) (N 1)),F 15]) (.cond (L 15) (.reg [A 0,B,C 0,D,A 4,A 6,I (.iaddr 1 (V 2) (V 1)),I (.store 1 (V 0) (V 1))]) (.seq (.reg [I (.bin (.eql) (L 13) (N 2)),F 16]) (.cond (L 16) (.dreg 1 [A 0,B,C 0,⟨none,.load 1 false (V 0),none,[(none,[]),(some 16,[])]⟩,A 4,A 6,I (.slice 1 (V 0) none (some (N 12)) none),A 0,B,C 0,D,A 4,E 1,D,I (.slice 1 (V 0) (some (N 12)) none none),I (.bsl 2 [.nils] [(0,1,.val 8),(1,1,.val 0)]),I (.call 83 [.val 0]),I (.iaddr 1 (V 13) (V 12)),I (.store 1 (V 0) (V 1))]) (.seq (.reg [I (.bin (.eql) (L 13) (N 3)),F 17]) (.cond (L 17) (.dreg 1 [A 0,B,C 0,⟨none,.load 1 false (V 0),none,[(none,[]),(some 16,[])]⟩,A 4,A 0,B,C 0,D,A 4,E 1,D,I (.slice 1 (V 0) none (some (N 12)) none),A 6,I (.slice 1 (V 0) (some (N 12)) none none),I (.bsl 2 [.nils] [(0,1,.val 2),(1,1,.val 0)]),I (.call 83 [.val 0]),I (.iaddr 1 (V 13) (V 12)),I (.store 1 (V 0) (V 1))]) (.skip))))))))))))))))) (.reg [I (.bin (.add) (L 10) (N 1)),F 10])))
def ir52:IRF :=
 { slots:=[0,1,4,5,7,8,9,17,22,23,24,25,32,53,54,56,65,85],nparams:=2,results:=[.loc 2],body:=.seq (.reg [J 2 (.mov (.k (.c (.bool false))))]) (.seq (.seq (.reg [A 0,I (.eq (.ptr) false (V 0) (.k (.c (.nilp)))),I (.mov (V 0)),⟨none,.mov (L 0),some (.val 0,false),[]⟩,⟨none,.nilchk (V 0),some (.val 1,false),[]⟩,⟨none,.faddr 4 (V 0),some (.val 2,false),[]⟩,⟨none,.load 1 false (V 0),some (.val 3,false),[]⟩,J 7 (.pick (V 4) (.k (.c (.bool true))) (V 0))]) (.cond (L 7) (.seq (.reg [J 2 (.mov (.k (.c (.bool false))))]) (.ret)) (.skip))) (.seq (.reg [A 0,B,C 4,I (.store 1 (V 0) (.k (.c (.bool true))))]) (.seq (.reg [J 3 (.mov (N 0))]) (.seq (.skip) (.seq (.seq (.reg [A 0,J 8 (.call 82 [.val 0]),J 9 (.len (.sl) (V 0)),J 10 (.mov (N 0))]) (.block 0 (.loop ir52_k0 ir52_l0))) (.seq (.reg [A 0,B,C 1,D,I (.mclr (V 0))]) (.seq (.reg [J 2 (.mov (.k (.c (.bool true))))]) (.ret)))))))) }
theorem ir52_of:zaw Tryz.prog [0,1,4,5,7,8,9,17,22,23,24,25,32,53,54,56,65,85] [[true,true,false,true,false,false,false,false,true,true,true,false,false,false,false,false,false,false]] Tryz.f52=some ir52:=by kernel_rfl
def ir29:IRF :=
 { slots:=[0,1,3,4,5,6,14,16,17,22,33,44,53,66,72,80],nparams:=2,results:=[.loc 3],body:=.seq (.reg [J 2 (.box (L 1)),J 3 (.mov (.k (.c (.bool false))))]) (.seq (.seq (.reg [A 0,I (.eq (.ptr) false (V 0) (.k (.c (.nilp)))),I (.mov (V 0)),⟨none,.mov (L 0),some (.val 0,false),[]⟩,⟨none,.nilchk (V 0),some (.val 1,false),[]⟩,⟨none,.faddr 22 (V 0),some (.val 2,false),[]⟩,⟨none,.load 1 false (V 0),some (.val 3,false),[]⟩,J 6 (.pick (V 4) (.k (.c (.bool true))) (V 0))]) (.cond (L 6) (.seq (.reg [J 3 (.mov (.k (.c (.bool false))))]) (.ret)) (.skip))) (.seq (.reg [J 4 (.mov (.k (.c (.bool false))))]) (.seq (.seq (.reg [I (.faddr 0 (L 2)),J 7 (.load 1 false (V 0))]) (.block 0 (.seq (.reg [I (.bin (.eql) (L 7) (N 1)),F 8]) (.cond (L 8) (.reg [A 0,I (.load 11 true (L 2)),I (.call 48 [.val 1,.val 0]),F 4]) (.seq (.reg [I (.bin (.eql) (L 7) (N 2)),F 9]) (.cond (L 9) (.seq (.dreg 0 [A 0,B,C 5,D,I (.faddr 2 (L 2)),D,I (.call 49 [.val 2,.val 0]),F 5]) (.seq (.reg [A 5,I (.bin (.geq) (V 0) (N 0)),F 4]) (.seq (.reg [J 10 (.mov (L 4))]) (.cond (L 10) (.seq (.reg [A 0,B,C 18,D,I (.bin (.add) (V 0) (N 1)),I (.nilchk (V 4)),C 18,I (.store 1 (V 0) (V 2))]) (.seq (.reg [A 0,A 5,I (.call 50 [.val 1,.val 0])]) (.seq (.reg [J 3 (.mov (.k (.c (.bool true))))]) (.ret)))) (.skip))))) (.seq (.reg [I (.bin (.eql) (L 7) (N 3)),F 11]) (.cond (L 11) (.dreg 0 [A 0,B,C 4,D,I (.faddr 2 (L 2)),D,I (.call 51 [.val 2,.val 0]),F 4]) (.seq (.reg [I (.bin (.eql) (L 7) (N 4)),F 12]) (.cond (L 12) (.seq (.dreg 0 [A 0,B,C 4,D,I (.faddr 10 (L 2)),D,I (.call 52 [.val 2,.val 0]),F 4]) (.reg [A 0,A 4,I (.nilchk (V 1)),C 22,I (.store 1 (V 0) (V 2))])) (.seq (.reg [I (.bin (.eql) (L 7) (N 5)),F 13]) (.cond (L 13) (.reg [A 0,I (.faddr 2 (L 2)),D,I (.call 53 [.val 2,.val 0]),F 4]) (.seq (.reg [I (.bin (.eql) (L 7) (N 6)),F 14]) (.cond (L 14) (.reg [A 0,I (.faddr 2 (L 2)),D,I (.faddr 3 (L 2)),D,I (.call 54 [.val 4,.val 2,.val 0]),F 4]) (.skip))))))))))))))) (.seq (.seq (.reg [J 15 (.mov (L 4))]) (.cond (L 15) (.reg [A 0,B,C 18,D,I (.bin (.add) (V 0) (N 1)),I (.nilchk (V 4)),C 18,I (.store 1 (V 0) (V 2))]) (.skip))) (.seq (.reg [A 4,F 3]) (.ret)))))) }
theorem ir29_of:zaw Tryz.prog [0,1,3,4,5,6,14,16,17,22,33,44,53,66,72,80] [] Tryz.f29=some ir29:=by kernel_rfl
def ir30_k0:List Bool:=[true,false,true,false,false]
def ir30_l0:IR:=.seq (.seq (.reg [A 2,A 0,I (.len (.sl) (V 0)),J 3 (.bin (.lss) (V 2) (V 0))]) (.cond (L 3) (.skip) (.exit 0))) (.seq (.block 1 (.seq (.reg [A 0,A 2,E 5,C 0,D,I (.bin (.eql) (V 0) (N 0)),I (.mov (V 0)),⟨none,.mov (L 0),some (.val 0,false),[]⟩,⟨none,.mov (L 2),some (.val 1,false),[]⟩,⟨none,.iaddr 5 (V 1) (V 0),some (.val 2,false),[]⟩,⟨none,.faddr 0 (V 0),some (.val 3,false),[]⟩,⟨none,.load 1 false (V 0),some (.val 4,false),[]⟩,⟨none,.bin (.eql) (V 0) (N 1),some (.val 5,false),[]⟩,⟨none,.mov (V 0),some (.val 6,false),[]⟩,⟨none,.mov (L 0),some (.val 0,true),[]⟩,⟨none,.mov (L 2),some (.val 1,true),[]⟩,⟨none,.iaddr 5 (V 1) (V 0),some (.val 2,true),[]⟩,⟨none,.faddr 2 (V 0),some (.val 3,true),[]⟩,⟨none,.load 1 false (V 0),some (.val 4,true),[]⟩,⟨none,.bin (.eql) (V 0) (N 0),some (.val 5,true),[]⟩,⟨none,.pick (V 6) (V 0) (.k (.c (.bool false))),some (.val 13,false),[]⟩,J 4 (.pick (V 14) (.k (.c (.bool true))) (V 0))]) (.cond (L 4) (.seq (.reg [J 1 (.mov (.k (.c (.bool false))))]) (.ret)) (.skip)))) (.reg [A 2,I (.bin (.add) (V 0) (N 1)),F 2]))
def ir30:IRF :=
 { slots:=[0,2,3,7,31],nparams:=1,results:=[.loc 1],body:=.seq (.reg [J 1 (.mov (.k (.c (.bool false))))]) (.seq (.seq (.reg [J 2 (.mov (N 0))]) (.block 0 (.loop ir30_k0 ir30_l0))) (.seq (.reg [J 1 (.mov (.k (.c (.bool true))))]) (.ret))) }
theorem ir30_of:zaw Tryz.prog [0,2,3,7,31] [[true,false,true,false,false]] Tryz.f30=some ir30:=by kernel_rfl
def ir14:IRF :=
 { slots:=[0,1,3,4,11,14],nparams:=2,results:=[.loc 3],body:=.seq (.reg [J 2 (.box (L 1)),J 3 (.mov (.k (.c (.bool false))))]) (.seq (.seq (.dreg 0 [A 0,B,C 0,D,I (.load 11 true (L 2)),I (.call 29 [.val 1,.val 0]),J 4 (.un (.not) (V 0))]) (.cond (L 4) (.seq (.reg [J 3 (.mov (.k (.c (.bool false))))]) (.ret)) (.skip))) (.seq (.seq (.reg [I (.faddr 0 (L 2)),D,J 5 (.bin (.eql) (V 0) (N 5))]) (.cond (L 5) (.seq (.reg [A 0,I (.faddr 2 (L 2)),D,I (.nilchk (V 2)),C 7,I (.store 1 (V 0) (V 2))]) (.dreg 0 [A 0,A 0,B,C 6,D,I (.faddr 2 (L 2)),D,I (.mn [.val 2,.val 0]),I (.nilchk (V 7)),C 6,I (.store 1 (V 0) (V 2))])) (.skip))) (.seq (.dreg 1 [A 0,A 0,B,C 5,⟨none,.load 1 false (V 0),none,[(none,[]),(some 9,[]),(some 10,[])]⟩,A 0,B,C 0,D,I (.call 31 [.val 0]),I (.call 30 [.val 0]),I (.bsl 1 [.bool false] [(0,1,.val 0)]),I (.app 1 1 (V 7) (V 0)),I (.nilchk (V 12)),C 5,I (.store 1 (V 0) (V 2))]) (.seq (.reg [J 3 (.mov (.k (.c (.bool true))))]) (.ret))))) }
theorem ir14_of:zaw Tryz.prog [0,1,3,4,11,14] [] Tryz.f14=some ir14:=by kernel_rfl
def ir42:IRF :=
 { slots:=[0,1,2],nparams:=1,results:=[.loc 2],body:=.seq (.reg [J 1 (.box (L 0)),J 2 (.mov (.k (.c (.bool false))))]) (.seq (.reg [I (.faddr 0 (L 1)),D,I (.bin (.geq) (V 0) (N 1)),I (.mov (V 0)),⟨none,.faddr 0 (L 1),some (.val 0,true),[]⟩,⟨none,.load 1 false (V 0),some (.val 1,true),[]⟩,⟨none,.bin (.leq) (V 0) (N 48),some (.val 2,true),[]⟩,I (.pick (V 3) (V 0) (.k (.c (.bool false)))),I (.mov (V 0)),⟨none,.faddr 2 (L 1),some (.val 0,true),[]⟩,⟨none,.load 1 false (V 0),some (.val 1,true),[]⟩,⟨none,.bin (.geq) (V 0) (N 1),some (.val 2,true),[]⟩,I (.pick (V 3) (V 0) (.k (.c (.bool false)))),I (.mov (V 0)),⟨none,.faddr 2 (L 1),some (.val 0,true),[]⟩,⟨none,.load 1 false (V 0),some (.val 1,true),[]⟩,⟨none,.bin (.leq) (V 0) (N 4),some (.val 2,true),[]⟩,I (.pick (V 3) (V 0) (.k (.c (.bool false)))),I (.mov (V 0)),⟨none,.faddr 3 (L 1),some (.val 0,true),[]⟩,⟨none,.load 1 false (V 0),some (.val 1,true),[]⟩,⟨none,.bin (.geq) (V 0) (N 1),some (.val 2,true),[]⟩,I (.pick (V 3) (V 0) (.k (.c (.bool false)))),I (.mov (V 0)),⟨none,.faddr 3 (L 1),some (.val 0,true),[]⟩,⟨none,.load 1 false (V 0),some (.val 1,true),[]⟩,⟨none,.bin (.leq) (V 0) (N 6),some (.val 2,true),[]⟩,I (.pick (V 3) (V 0) (.k (.c (.bool false)))),I (.mov (V 0)),⟨none,.faddr 1 (L 1),some (.val 0,true),[]⟩,⟨none,.load 1 false (V 0),some (.val 1,true),[]⟩,⟨none,.faddr 2 (L 1),some (.val 2,true),[]⟩,⟨none,.load 1 false (V 0),some (.val 3,true),[]⟩,⟨none,.bin (.geq) (V 2) (V 0),some (.val 4,true),[]⟩,I (.pick (V 5) (V 0) (.k (.c (.bool false)))),I (.mov (V 0)),⟨none,.faddr 1 (L 1),some (.val 0,true),[]⟩,⟨none,.load 1 false (V 0),some (.val 1,true),[]⟩,⟨none,.bin (.leq) (V 0) (N 32),some (.val 2,true),[]⟩,I (.pick (V 3) (V 0) (.k (.c (.bool false)))),F 2]) (.ret)) }
theorem ir42_of:zaw Tryz.prog [0,1,2] [] Tryz.f42=some ir42:=by kernel_rfl
def ir21:IRF :=
 { slots:=[0,1,2,4,7],nparams:=2,results:=[.loc 3],body:=.seq (.reg [J 2 (.box (L 0)),J 3 (.mov (N 0))]) (.seq (.seq (.reg [I (.load 4 true (L 2)),I (.call 42 [.val 0]),J 4 (.un (.not) (V 0))]) (.cond (L 4) (.seq (.reg [J 3 (.mov (N 0))]) (.ret)) (.skip))) (.seq (.reg [I (.faddr 2 (L 2)),D,I (.bin (.mul) (N 100) (V 0)),I (.bin (.add) (N 600) (V 0)),I (.bin (.add) (V 0) (N 640)),A 1,I (.mx [.val 0,.k (.c (.int (.i64) 0))]),I (.mn [.val 0,.k (.c (.int (.i64) 100000))]),I (.bin (.mul) (N 200) (V 0)),I (.bin (.add) (V 4) (V 0)),F 3]) (.ret))) }
theorem ir21_of:zaw Tryz.prog [0,1,2,4,7] [] Tryz.f21=some ir21:=by kernel_rfl
def ir44:IRF :=
 { slots:=[0,2,4],nparams:=1,results:=[.loc 1],body:=.seq (.reg [J 1 (.mov (.k (.c (.nils))))]) (.seq (.seq (.reg [A 0,J 2 (.eq (.ptr) false (V 0) (.k (.c (.nilp))))]) (.cond (L 2) (.seq (.reg [J 1 (.mov (.k (.c (.nils))))]) (.ret)) (.skip))) (.seq (.reg [A 0,B,C 5,D,I (.call 61 [.val 0]),F 1]) (.ret))) }
theorem ir44_of:zaw Tryz.prog [0,2,4] [] Tryz.f44=some ir44:=by kernel_rfl
def ir23_k0:List Bool:=[true,true,true,true,true,false,false,false]
def ir23_l0:IR:=.seq (.seq (.reg [A 4,A 3,I (.len (.sl) (V 0)),J 6 (.bin (.lss) (V 2) (V 0))]) (.cond (L 6) (.skip) (.exit 2))) (.seq (.block 3 (.seq (.dreg 0 [A 3,A 4,E 1,D,A 1,A 2,E 1,D,J 7 (.bin (.eql) (V 4) (V 0))]) (.cond (L 7) (.seq (.reg [A 0,A 4,I (.build [.int (.i64) 0,.int (.i64) 0,.int (.i64) 0,.int (.i64) 0,.int (.i64) 0,.int (.i64) 0,.int (.i64) 0,.int (.i64) 0,.int (.i64) 0,.nils,.nils] [(0,1,.k (.c (.int (.i64) 2))),(2,1,.val 0)]),I (.call 14 [.val 2,.val 0])]) (.exit 2)) (.skip)))) (.reg [A 4,I (.bin (.add) (V 0) (N 1)),F 4]))
def ir23_k1:List Bool:=[true,true,true,false,false,false,false,false]
def ir23_l1:IR:=.seq (.seq (.reg [A 2,A 1,I (.len (.sl) (V 0)),J 5 (.bin (.lss) (V 2) (V 0))]) (.cond (L 5) (.skip) (.exit 0))) (.seq (.block 1 (.seq (.reg [A 0,B,C 0,D,I (.call 44 [.val 0]),F 3]) (.seq (.reg [J 4 (.mov (N 0))]) (.block 2 (.loop ir23_k0 ir23_l0))))) (.reg [A 2,I (.bin (.add) (V 0) (N 1)),F 2]))
def ir23:IRF :=
 { slots:=[0,2,3,4,5,14,25,36],nparams:=1,results:=[],body:=.seq (.reg [A 0,B,C 0,D,I (.call 44 [.val 0]),F 1]) (.seq (.reg [J 2 (.mov (N 0))]) (.block 0 (.loop ir23_k1 ir23_l1))) }
theorem ir23_of:zaw Tryz.prog [0,2,3,4,5,14,25,36] [[true,true,true,false,false,false,false,false],[true,true,true,true,true,false,false,false]] Tryz.f23=some ir23:=by kernel_rfl
def ir11_k0:List Bool:=[true,true,false,false,false,true,false,false]
def ir11_l0:IR:=.seq (.seq (.reg [A 5,A 0,B,C 1,I (.load 4 true (V 0)),I (.call 21 [.val 0,.k (.c (.int (.i64) 1))]),I (.bin (.lss) (V 5) (V 0)),I (.mov (V 0)),⟨none,.mov (L 0),some (.val 0,true),[]⟩,⟨none,.nilchk (V 0),some (.val 1,true),[]⟩,⟨none,.faddr 0 (V 0),some (.val 2,true),[]⟩,⟨none,.load 1 false (V 0),some (.val 3,true),[]⟩,⟨none,.mov (L 1),some (.val 4,true),[]⟩,⟨none,.call 22 [.val 1,.val 0],some (.val 5,true),[]⟩,J 7 (.pick (V 6) (V 0) (.k (.c (.bool false))))]) (.cond (L 7) (.skip) (.exit 0))) (.seq (.block 1 (.reg [A 0,I (.call 23 [.val 0])])) (.reg [A 5,I (.bin (.add) (V 0) (N 1)),F 5]))
def ir11:IRF :=
 { slots:=[0,1,2,5,6,7,13,28],nparams:=3,results:=[.loc 4],body:=.seq (.reg [J 3 (.box (L 2)),J 4 (.mov (.k (.c (.bool false))))]) (.seq (.seq (.reg [A 0,A 1,I (.load 6 true (L 3)),I (.build [.int (.i64) 0,.int (.i64) 0,.int (.i64) 0,.int (.i64) 0,.int (.i64) 0,.int (.i64) 0,.int (.i64) 0,.int (.i64) 0,.int (.i64) 0,.nils,.nils] [(0,1,.k (.c (.int (.i64) 1))),(1,1,.val 1),(4,6,.val 0)]),I (.call 14 [.val 3,.val 0]),J 6 (.un (.not) (V 0))]) (.cond (L 6) (.seq (.reg [J 4 (.mov (.k (.c (.bool false))))]) (.ret)) (.skip))) (.seq (.seq (.reg [J 5 (.mov (N 0))]) (.block 0 (.loop ir11_k0 ir11_l0))) (.seq (.reg [A 0,B,C 0,D,A 1,I (.call 22 [.val 1,.val 0]),I (.un (.not) (V 0)),F 4]) (.ret)))) }
theorem ir11_of:zaw Tryz.prog [0,1,2,5,6,7,13,28] [[true,true,false,false,false,true,false,false]] Tryz.f11=some ir11:=by kernel_rfl
def ir32_k0:List Bool:=[false,false,true,false,false,true,true,true,false]
def ir32_l0:IR:=.seq (.reg [J 8 (.bin (.lss) (L 7) (L 6))]) (.seq (.cond (L 8) (.skip) (.exit 0)) (.seq (.block 1 (.seq (.reg [I (.iaddr 1 (L 5) (L 7)),D,F 3]) (.reg [A 2,A 3,I (.call 28 [.val 0]),I (.bsl 1 [.nils] [(0,1,.val 0)]),I (.app 1 24 (V 3) (V 0)),F 2]))) (.reg [I (.bin (.add) (L 7) (N 1)),F 7])))
def ir32:IRF :=
 { slots:=[0,2,3,5,7,11,12,13,14],nparams:=1,results:=[.loc 1],body:=.seq (.reg [J 1 (.mov (.k (.c (.nils))))]) (.seq (.seq (.reg [A 0,J 4 (.eq (.ptr) false (V 0) (.k (.c (.nilp))))]) (.cond (L 4) (.seq (.reg [J 1 (.mov (.k (.c (.nils))))]) (.ret)) (.skip))) (.seq (.reg [J 2 (.mov (.k (.c (.nils))))]) (.seq (.seq (.reg [A 0,B,C 0,J 5 (.load 1 false (V 0)),J 6 (.len (.sl) (V 0)),J 7 (.mov (N 0))]) (.block 0 (.loop ir32_k0 ir32_l0))) (.seq (.reg [A 2,F 1]) (.ret))))) }
theorem ir32_of:zaw Tryz.prog [0,2,3,5,7,11,12,13,14] [[false,false,true,false,false,true,true,true,false]] Tryz.f32=some ir32:=by kernel_rfl
def ir15:IRF :=
 { slots:=[0,2,4],nparams:=1,results:=[.loc 1],body:=.seq (.reg [J 1 (.mov (.k (.c (.nils))))]) (.seq (.seq (.reg [A 0,J 2 (.eq (.ptr) false (V 0) (.k (.c (.nilp))))]) (.cond (L 2) (.seq (.reg [J 1 (.mov (.k (.c (.nils))))]) (.ret)) (.skip))) (.seq (.reg [A 0,B,C 4,D,I (.call 32 [.val 0]),F 1]) (.ret))) }
theorem ir15_of:zaw Tryz.prog [0,2,4] [] Tryz.f15=some ir15:=by kernel_rfl
def ir27:IRF :=
 { slots:=[0,2,4],nparams:=1,results:=[.loc 1],body:=.seq (.reg [J 1 (.mov (.k (.c (.nils))))]) (.seq (.seq (.reg [A 0,J 2 (.eq (.slice) false (V 0) (.k (.c (.nils))))]) (.cond (L 2) (.seq (.reg [J 1 (.mov (.k (.c (.nils))))]) (.ret)) (.skip))) (.seq (.reg [I (.bsl 0 [.int (.i64) 0,.int (.i64) 0,.int (.i64) 0,.int (.i64) 0,.int (.i64) 0,.int (.i64) 0,.nils,.int (.i64) 0,.int (.i64) 0,.int (.i64) 0,.nils,.int (.i64) 0,.int (.i64) 0,.int (.i64) 0] []),A 0,I (.app 14 144 (V 1) (V 0)),F 1]) (.ret))) }
theorem ir27_of:zaw Tryz.prog [0,2,4] [] Tryz.f27=some ir27:=by kernel_rfl
def ir12_k0:List Bool:=[false,false,true,false,false,true,true,false]
def ir12_l0:IR:=.seq (.reg [J 7 (.bin (.lss) (L 6) (L 5))]) (.seq (.cond (L 7) (.skip) (.exit 0)) (.seq (.block 1 (.seq (.reg [A 6,F 3]) (.dreg 0 [A 2,A 3,A 2,A 3,A 2,A 3,E 14,C 1,C 5,D,I (.call 28 [.val 0]),A 2,A 3,E 14,C 7,C 3,⟨none,.load 1 false (V 0),none,[(none,[]),(some 10,[])]⟩,I (.call 28 [.val 0]),I (.iaddr 14 (V 17) (V 16)),C 1,C 5,I (.store 1 (V 0) (V 10)),I (.iaddr 14 (V 19) (V 18)),C 7,C 3,I (.store 1 (V 0) (V 7))]))) (.reg [I (.bin (.add) (L 6) (N 1)),F 6])))
def ir12:IRF :=
 { slots:=[0,2,3,4,6,13,14,15],nparams:=1,results:=[.loc 1],body:=.seq (.reg [J 1 (.mov (.k (.c (.nils))))]) (.seq (.seq (.reg [A 0,J 4 (.eq (.ptr) false (V 0) (.k (.c (.nilp))))]) (.cond (L 4) (.seq (.reg [J 1 (.mov (.k (.c (.nils))))]) (.ret)) (.skip))) (.seq (.reg [A 0,B,C 16,D,I (.call 27 [.val 0]),F 2]) (.seq (.seq (.reg [A 2,J 5 (.len (.sl) (V 0)),J 6 (.mov (N 0))]) (.block 0 (.loop ir12_k0 ir12_l0))) (.seq (.reg [A 2,F 1]) (.ret))))) }
theorem ir12_of:zaw Tryz.prog [0,2,3,4,6,13,14,15] [[false,false,true,false,false,true,true,false]] Tryz.f12=some ir12:=by kernel_rfl
def ir97:IRF :=
 { slots:=[0],nparams:=0,results:=[.loc 0],body:=.seq (.reg [J 0 (.mov (.k (.c (.str []))))]) (.seq (.reg [I (.mks 1 [.int (.u8) 0] (N 16) (N 16)),I (.b2s (V 0)),F 0]) (.ret)) }
theorem ir97_of:zaw Tryz.prog [0] [] Tryz.f97=some ir97:=by kernel_rfl
def ir73_k0:List Bool:=[false,true,true,true,false,true,false,false,false]
def ir73_l0:IR:=.seq (.seq (.reg [A 5,A 1,J 8 (.bin (.lss) (V 1) (V 0))]) (.cond (L 8) (.skip) (.exit 2))) (.seq (.block 3 (.reg [I (.faddr 2 (L 3)),D,I (.bsl 6 [.int (.i64) 0] [(0,1,.k (.c (.int (.i64) (-1)))),(1,1,.k (.c (.int (.i64) (-1)))),(2,1,.k (.c (.int (.i64) (-1)))),(3,1,.k (.c (.int (.i64) (-1)))),(4,1,.k (.c (.int (.i64) (-1)))),(5,1,.k (.c (.int (.i64) (-1))))]),I (.bsl 1 [.nils] [(0,1,.val 0)]),I (.app 1 24 (V 2) (V 0)),I (.faddr 2 (L 3)),I (.store 1 (V 0) (V 1))])) (.reg [A 5,I (.bin (.add) (V 0) (N 1)),F 5]))
def ir73_k1:List Bool:=[true,true,true,true,true,false,false,false,false]
def ir73_l1:IR:=.seq (.seq (.reg [A 4,A 0,J 7 (.bin (.lss) (V 1) (V 0))]) (.cond (L 7) (.skip) (.exit 0))) (.seq (.block 1 (.dreg 2 [I (.faddr 0 (L 3)),D,I (.bsl 1 [.bool false] [(0,1,.k (.c (.bool false)))]),I (.app 1 1 (V 1) (V 0)),I (.faddr 1 (L 3)),⟨none,.load 1 false (V 0),none,[(none,[]),(some 3,[]),(some 6,[])]⟩,I (.call 97 []),I (.bsl 1 [.str []] [(0,1,.val 0)]),I (.app 1 16 (V 2) (V 0)),I (.faddr 0 (L 3)),I (.store 1 (V 0) (V 6)),I (.faddr 1 (L 3)),I (.store 1 (V 0) (V 3))])) (.reg [A 4,I (.bin (.add) (V 0) (N 1)),F 4]))
def ir73:IRF :=
 { slots:=[0,1,4,5,6,7,21,25,41],nparams:=2,results:=[.cell 2 3 true],body:=.seq (.reg [J 2 (.box (.k (.agg [.nils,.nils,.nils])))]) (.seq (.reg [J 3 (.box (.k (.agg [.nils,.nils,.nils])))]) (.seq (.seq (.reg [A 0,I (.bin (.lss) (V 0) (N 1)),I (.mov (V 0)),⟨none,.mov (L 0),some (.val 0,false),[]⟩,⟨none,.bin (.gtr) (V 0) (N 48),some (.val 1,false),[]⟩,I (.pick (V 2) (.k (.c (.bool true))) (V 0)),I (.mov (V 0)),⟨none,.mov (L 1),some (.val 0,false),[]⟩,⟨none,.bin (.lss) (V 0) (N 1),some (.val 1,false),[]⟩,I (.pick (V 2) (.k (.c (.bool true))) (V 0)),I (.mov (V 0)),⟨none,.mov (L 1),some (.val 0,false),[]⟩,⟨none,.bin (.gtr) (V 0) (N 6),some (.val 1,false),[]⟩,J 6 (.pick (V 2) (.k (.c (.bool true))) (V 0))]) (.cond (L 6) (.seq (.reg [I (.load 3 true (L 3)),I (.store 3 (L 2) (V 0))]) (.ret)) (.skip))) (.seq (.seq (.reg [J 4 (.mov (N 0))]) (.block 0 (.loop ir73_k1 ir73_l1))) (.seq (.seq (.reg [J 5 (.mov (N 0))]) (.block 2 (.loop ir73_k0 ir73_l0))) (.seq (.reg [I (.load 3 true (L 3)),I (.store 3 (L 2) (V 0))]) (.ret)))))) }
theorem ir73_of:zaw Tryz.prog [0,1,4,5,6,7,21,25,41] [[true,true,true,true,true,false,false,false,false],[false,true,true,true,false,true,false,false,false]] Tryz.f73=some ir73:=by kernel_rfl
def ir74_k0:List Bool:=[true,true,false,false,true,true,false,false,false,false,false,false]
def ir74_l0:IR:=.seq (.seq (.reg [A 5,A 1,J 10 (.bin (.lss) (V 1) (V 0))]) (.cond (L 10) (.skip) (.exit 0))) (.seq (.block 1 (.seq (.dreg 0 [A 0,A 5,E 14,C 0,D,I (.faddr 0 (L 4)),D,I (.bin (.eql) (V 2) (V 0)),I (.mov (V 0)),⟨none,.mov (L 0),some (.val 0,true),[]⟩,⟨none,.mov (L 5),some (.val 1,true),[]⟩,⟨none,.iaddr 14 (V 1) (V 0),some (.val 2,true),[]⟩,⟨none,.faddr 13 (V 0),some (.val 3,true),[]⟩,⟨none,.load 1 false (V 0),some (.val 4,true),[]⟩,⟨none,.bin (.leq) (V 0) (N 0),some (.val 5,true),[]⟩,⟨none,.mov (V 0),some (.val 6,true),[]⟩,⟨none,.mov (L 0),some (.val 0,false),[]⟩,⟨none,.mov (L 5),some (.val 1,false),[]⟩,⟨none,.iaddr 14 (V 1) (V 0),some (.val 2,false),[]⟩,⟨none,.faddr 13 (V 0),some (.val 3,false),[]⟩,⟨none,.load 1 false (V 0),some (.val 4,false),[]⟩,⟨none,.faddr 11 (L 4),some (.val 5,false),[]⟩,⟨none,.load 1 false (V 0),some (.val 6,false),[]⟩,⟨none,.bin (.geq) (V 2) (V 0),some (.val 7,false),[]⟩,⟨none,.pick (V 8) (.k (.c (.bool true))) (V 0),some (.val 15,true),[]⟩,J 11 (.pick (V 16) (V 0) (.k (.c (.bool false))))]) (.cond (L 11) (.seq (.reg [J 3 (.mov (.k (.c (.bool false))))]) (.ret)) (.skip)))) (.reg [A 5,I (.bin (.add) (V 0) (N 1)),F 5]))
def ir74:IRF :=
 { slots:=[0,1,2,6,7,8,41,44,56,71,74,102],nparams:=3,results:=[.loc 3],body:=.seq (.reg [J 3 (.mov (.k (.c (.bool false))))]) (.seq (.reg [A 0,A 1,E 14,I (.load 14 true (V 0)),J 4 (.box (.k (.agg [.int (.i64) 0,.int (.i64) 0,.int (.i64) 0,.int (.i64) 0,.int (.i64) 0,.int (.i64) 0,.nils,.int (.i64) 0,.int (.i64) 0,.int (.i64) 0,.nils,.int (.i64) 0,.int (.i64) 0,.int (.i64) 0]))),I (.store 14 (V 0) (V 1))]) (.seq (.seq (.dreg 0 [I (.faddr 0 (L 4)),D,I (.bin (.lss) (V 0) (N 0)),I (.mov (V 0)),⟨none,.faddr 0 (L 4),some (.val 0,false),[]⟩,⟨none,.load 1 false (V 0),some (.val 1,false),[]⟩,⟨none,.mov (L 2),some (.val 2,false),[]⟩,⟨none,.bin (.geq) (V 1) (V 0),some (.val 3,false),[]⟩,I (.pick (V 4) (.k (.c (.bool true))) (V 0)),I (.mov (V 0)),⟨none,.faddr 11 (L 4),some (.val 0,false),[]⟩,⟨none,.load 1 false (V 0),some (.val 1,false),[]⟩,⟨none,.bin (.leq) (V 0) (N 0),some (.val 2,false),[]⟩,I (.pick (V 3) (.k (.c (.bool true))) (V 0)),I (.mov (V 0)),⟨none,.mov (L 1),some (.val 0,false),[]⟩,⟨none,.bin (.gtr) (V 0) (N 0),some (.val 1,false),[]⟩,⟨none,.mov (V 0),some (.val 2,false),[]⟩,⟨none,.faddr 11 (L 4),some (.val 0,true),[]⟩,⟨none,.load 1 false (V 0),some (.val 1,true),[]⟩,⟨none,.mov (L 0),some (.val 2,true),[]⟩,⟨none,.mov (L 1),some (.val 3,true),[]⟩,⟨none,.bin (.sub) (V 0) (N 1),some (.val 4,true),[]⟩,⟨none,.iaddr 14 (V 2) (V 0),some (.val 5,true),[]⟩,⟨none,.faddr 11 (V 0),some (.val 6,true),[]⟩,⟨none,.load 1 false (V 0),some (.val 7,true),[]⟩,⟨none,.bin (.lss) (V 6) (V 0),some (.val 8,true),[]⟩,⟨none,.pick (V 9) (V 0) (.k (.c (.bool false))),some (.val 12,false),[]⟩,J 6 (.pick (V 13) (.k (.c (.bool true))) (V 0))]) (.cond (L 6) (.seq (.reg [J 3 (.mov (.k (.c (.bool false))))]) (.ret)) (.skip))) (.seq (.seq (.reg [I (.faddr 13 (L 4)),D,J 7 (.bin (.gtr) (V 0) (N 0))]) (.cond (L 7) (.seq (.reg [I (.faddr 12 (L 4)),D,I (.faddr 11 (L 4)),D,I (.bin (.lss) (V 2) (V 0)),I (.mov (V 0)),⟨none,.faddr 12 (L 4),some (.val 0,false),[]⟩,⟨none,.load 1 false (V 0),some (.val 1,false),[]⟩,⟨none,.faddr 13 (L 4),some (.val 2,false),[]⟩,⟨none,.load 1 false (V 0),some (.val 3,false),[]⟩,⟨none,.bin (.gtr) (V 2) (V 0),some (.val 4,false),[]⟩,J 8 (.pick (V 5) (.k (.c (.bool true))) (V 0))]) (.cond (L 8) (.seq (.reg [J 3 (.mov (.k (.c (.bool false))))]) (.ret)) (.skip))) (.seq (.reg [I (.faddr 13 (L 4)),D,I (.bin (.lss) (V 0) (N 0)),I (.mov (V 0)),⟨none,.faddr 12 (L 4),some (.val 0,false),[]⟩,⟨none,.load 1 false (V 0),some (.val 1,false),[]⟩,⟨none,.bin (.neq) (V 0) (N 0),some (.val 2,false),[]⟩,⟨none,.mov (V 0),some (.val 3,false),[]⟩,⟨none,.faddr 12 (L 4),some (.val 0,true),[]⟩,⟨none,.load 1 false (V 0),some (.val 1,true),[]⟩,⟨none,.faddr 11 (L 4),some (.val 2,true),[]⟩,⟨none,.load 1 false (V 0),some (.val 3,true),[]⟩,⟨none,.bin (.lss) (V 2) (V 0),some (.val 4,true),[]⟩,⟨none,.pick (V 5) (V 0) (.k (.c (.bool false))),some (.val 9,false),[]⟩,J 9 (.pick (V 10) (.k (.c (.bool true))) (V 0))]) (.cond (L 9) (.seq (.reg [J 3 (.mov (.k (.c (.bool false))))]) (.ret)) (.skip))))) (.seq (.seq (.reg [J 5 (.mov (N 0))]) (.block 0 (.loop ir74_k0 ir74_l0))) (.seq (.reg [J 3 (.mov (.k (.c (.bool true))))]) (.ret)))))) }
theorem ir74_of:zaw Tryz.prog [0,1,2,6,7,8,41,44,56,71,74,102] [[true,true,false,false,true,true,false,false,false,false,false,false]] Tryz.f74=some ir74:=by kernel_rfl
def ir75_k0:List Bool:=[true,false,true,true,true,false,false,false,false]
def ir75_l0:IR:=.seq (.seq (.dreg 0 [A 4,I (.bin (.gtr) (V 0) (N 0)),I (.mov (V 0)),⟨none,.mov (L 0),some (.val 0,true),[]⟩,⟨none,.mov (L 2),some (.val 1,true),[]⟩,⟨none,.mov (L 4),some (.val 2,true),[]⟩,⟨none,.bin (.sub) (V 0) (N 1),some (.val 3,true),[]⟩,⟨none,.iaddr 1 (V 2) (V 0),some (.val 4,true),[]⟩,⟨none,.load 1 false (V 0),some (.val 5,true),[]⟩,⟨none,.iaddr 14 (V 5) (V 0),some (.val 6,true),[]⟩,⟨none,.faddr 12 (V 0),some (.val 7,true),[]⟩,⟨none,.load 1 false (V 0),some (.val 8,true),[]⟩,⟨none,.mov (L 0),some (.val 9,true),[]⟩,⟨none,.mov (L 3),some (.val 10,true),[]⟩,⟨none,.iaddr 14 (V 1) (V 0),some (.val 11,true),[]⟩,⟨none,.faddr 12 (V 0),some (.val 12,true),[]⟩,⟨none,.load 1 false (V 0),some (.val 13,true),[]⟩,⟨none,.bin (.gtr) (V 5) (V 0),some (.val 14,true),[]⟩,J 8 (.pick (V 15) (V 0) (.k (.c (.bool false))))]) (.cond (L 8) (.skip) (.exit 2))) (.block 3 (.reg [A 4,I (.bin (.sub) (V 0) (N 1)),F 4]))
def ir75_k1:List Bool:=[true,false,true,true,false,false,false,false,false]
def ir75_l1:IR:=.seq (.seq (.reg [A 3,A 0,I (.len (.sl) (V 0)),J 6 (.bin (.lss) (V 2) (V 0))]) (.cond (L 6) (.skip) (.exit 0))) (.seq (.block 1 (.seq (.seq (.reg [A 0,A 3,E 14,C 12,D,J 7 (.bin (.leq) (V 0) (N 0))]) (.cond (L 7) (.exit 1) (.skip))) (.seq (.reg [A 2,I (.len (.sl) (V 0)),F 4]) (.seq (.block 2 (.loop ir75_k0 ir75_l0)) (.seq (.reg [I (.bsl 0 [.int (.i64) 0] []),A 2,A 4,I (.slice 1 (V 1) none (some (V 0)) none),I (.app 1 8 (V 3) (V 0)),F 5]) (.dreg 1 [A 5,A 3,I (.bsl 1 [.int (.i64) 0] [(0,1,.val 0)]),I (.app 1 8 (V 2) (V 0)),A 2,A 4,I (.slice 1 (V 1) (some (V 0)) none none),I (.app 1 8 (V 3) (V 0)),F 2])))))) (.reg [A 3,I (.bin (.add) (V 0) (N 1)),F 3]))
def ir75:IRF :=
 { slots:=[0,2,3,4,5,6,10,18,39],nparams:=1,results:=[.loc 1],body:=.seq (.reg [J 1 (.mov (.k (.c (.nils))))]) (.seq (.reg [J 2 (.mov (.k (.c (.nils))))]) (.seq (.seq (.reg [J 3 (.mov (N 0))]) (.block 0 (.loop ir75_k1 ir75_l1))) (.seq (.reg [A 2,F 1]) (.ret)))) }
theorem ir75_of:zaw Tryz.prog [0,2,3,4,5,6,10,18,39] [[true,false,true,true,false,false,false,false,false],[true,false,true,true,true,false,false,false,false]] Tryz.f75=some ir75:=by kernel_rfl
def ir98:IRF :=
 { slots:=[0,1,2,4,5,6,16,36],nparams:=2,results:=[.loc 3],body:=.seq (.reg [J 2 (.box (L 0)),J 3 (.mov (.k (.c (.bool false))))]) (.seq (.seq (.reg [J 4 (.mov (L 1))]) (.block 0 (.seq (.reg [I (.bin (.eql) (L 4) (N 8)),F 5]) (.cond (L 5) (.seq (.reg [I (.faddr 0 (L 2)),D,I (.bin (.eql) (V 0) (N 1)),I (.mov (V 0)),⟨none,.faddr 0 (L 2),some (.val 0,false),[]⟩,⟨none,.load 1 false (V 0),some (.val 1,false),[]⟩,⟨none,.bin (.eql) (V 0) (N 2),some (.val 2,false),[]⟩,I (.pick (V 3) (.k (.c (.bool true))) (V 0)),F 3]) (.ret)) (.seq (.reg [I (.bin (.eql) (L 4) (N 9)),F 6]) (.cond (L 6) (.seq (.reg [I (.faddr 0 (L 2)),D,I (.bin (.eql) (V 0) (N 1)),I (.mov (V 0)),⟨none,.faddr 0 (L 2),some (.val 0,false),[]⟩,⟨none,.load 1 false (V 0),some (.val 1,false),[]⟩,⟨none,.bin (.eql) (V 0) (N 2),some (.val 2,false),[]⟩,I (.pick (V 3) (.k (.c (.bool true))) (V 0)),I (.mov (V 0)),⟨none,.faddr 0 (L 2),some (.val 0,false),[]⟩,⟨none,.load 1 false (V 0),some (.val 1,false),[]⟩,⟨none,.bin (.eql) (V 0) (N 6),some (.val 2,false),[]⟩,I (.pick (V 3) (.k (.c (.bool true))) (V 0)),I (.mov (V 0)),⟨none,.faddr 0 (L 2),some (.val 0,false),[]⟩,⟨none,.load 1 false (V 0),some (.val 1,false),[]⟩,⟨none,.bin (.eql) (V 0) (N 7),some (.val 2,false),[]⟩,I (.pick (V 3) (.k (.c (.bool true))) (V 0)),F 3]) (.ret)) (.seq (.reg [I (.bin (.eql) (L 4) (N 10)),F 7]) (.cond (L 7) (.seq (.reg [I (.faddr 0 (L 2)),D,I (.bin (.eql) (V 0) (N 2)),F 3]) (.ret)) (.skip))))))))) (.seq (.reg [J 3 (.mov (.k (.c (.bool false))))]) (.ret))) }
theorem ir98_of:zaw Tryz.prog [0,1,2,4,5,6,16,36] [] Tryz.f98=some ir98:=by kernel_rfl
def ir133:IRF :=
 { slots:=[0,2],nparams:=1,results:=[.cell 1 4 true],body:=.seq (.reg [J 1 (.box (.k (.agg [.int (.i64) 0,.int (.i64) 0,.int (.i64) 0,.nils])))]) (.seq (.reg [A 0,I (.build [.int (.i64) 0,.int (.i64) 0,.int (.i64) 0,.nils] [(0,1,.val 0)]),I (.store 4 (L 1) (V 0))]) (.ret)) }
theorem ir133_of:zaw Tryz.prog [0,2] [] Tryz.f133=some ir133:=by kernel_rfl
def ir95:IRF :=
 { slots:=[0,1,2,3,6,29],nparams:=3,results:=[.loc 4],body:=.seq (.reg [J 3 (.box (L 0)),J 4 (.mov (N 0))]) (.seq (.seq (.reg [A 1,I (.bin (.lss) (V 0) (N 0)),I (.mov (V 0)),⟨none,.mov (L 1),some (.val 0,false),[]⟩,⟨none,.faddr 2 (L 3),some (.val 1,false),[]⟩,⟨none,.load 1 false (V 0),some (.val 2,false),[]⟩,⟨none,.len (.sl) (V 0),some (.val 3,false),[]⟩,⟨none,.bin (.geq) (V 3) (V 0),some (.val 4,false),[]⟩,I (.pick (V 5) (.k (.c (.bool true))) (V 0)),I (.mov (V 0)),⟨none,.mov (L 2),some (.val 0,false),[]⟩,⟨none,.bin (.lss) (V 0) (N 0),some (.val 1,false),[]⟩,I (.pick (V 2) (.k (.c (.bool true))) (V 0)),I (.mov (V 0)),⟨none,.mov (L 2),some (.val 0,false),[]⟩,⟨none,.faddr 2 (L 3),some (.val 1,false),[]⟩,⟨none,.load 1 false (V 0),some (.val 2,false),[]⟩,⟨none,.mov (L 1),some (.val 3,false),[]⟩,⟨none,.iaddr 1 (V 1) (V 0),some (.val 4,false),[]⟩,⟨none,.load 1 false (V 0),some (.val 5,false),[]⟩,⟨none,.len (.sl) (V 0),some (.val 6,false),[]⟩,⟨none,.bin (.geq) (V 6) (V 0),some (.val 7,false),[]⟩,J 5 (.pick (V 8) (.k (.c (.bool true))) (V 0))]) (.cond (L 5) (.seq (.reg [J 4 (.mov (N (-1)))]) (.ret)) (.skip))) (.seq (.reg [I (.faddr 2 (L 3)),D,A 1,E 1,D,A 2,E 1,D,F 4]) (.ret))) }
theorem ir95_of:zaw Tryz.prog [0,1,2,3,6,29] [] Tryz.f95=some ir95:=by kernel_rfl
def ir134_k0:List Bool:=[false,true,true,false,true,false,false]
def ir134_l0:IR:=.seq (.seq (.reg [A 4,I (.faddr 2 (L 2)),D,A 1,E 1,D,I (.len (.sl) (V 0)),J 5 (.bin (.lss) (V 6) (V 0))]) (.cond (L 5) (.skip) (.exit 0))) (.seq (.block 1 (.seq (.reg [I (.faddr 2 (L 2)),D,A 1,E 1,D,A 4,E 1,D,J 6 (.bin (.lss) (V 0) (N 0))]) (.cond (L 6) (.seq (.reg [J 3 (.mov (.k (.c (.bool true))))]) (.ret)) (.skip)))) (.reg [A 4,I (.bin (.add) (V 0) (N 1)),F 4]))
def ir134:IRF :=
 { slots:=[0,1,2,4,5,13,24],nparams:=2,results:=[.loc 3],body:=.seq (.reg [J 2 (.box (L 0)),J 3 (.mov (.k (.c (.bool false))))]) (.seq (.seq (.reg [J 4 (.mov (N 0))]) (.block 0 (.loop ir134_k0 ir134_l0))) (.seq (.reg [J 3 (.mov (.k (.c (.bool false))))]) (.ret))) }
theorem ir134_of:zaw Tryz.prog [0,1,2,4,5,13,24] [[false,true,true,false,true,false,false]] Tryz.f134=some ir134:=by kernel_rfl
def ir135_k0:List Bool:=[false,true,true,true,false,true,false,false]
def ir135_l0:IR:=.seq (.seq (.reg [A 5,I (.faddr 2 (L 3)),D,A 1,E 1,D,I (.len (.sl) (V 0)),J 6 (.bin (.lss) (V 6) (V 0))]) (.cond (L 6) (.skip) (.exit 0))) (.seq (.block 1 (.seq (.reg [I (.faddr 2 (L 3)),D,A 1,E 1,D,A 5,E 1,D,J 7 (.bin (.lss) (V 0) (N 0))]) (.cond (L 7) (.seq (.reg [I (.faddr 2 (L 3)),D,A 1,E 1,D,A 5,A 2,I (.iaddr 1 (V 2) (V 1)),I (.store 1 (V 0) (V 1))]) (.seq (.reg [A 5,F 4]) (.ret))) (.skip)))) (.reg [A 5,I (.bin (.add) (V 0) (N 1)),F 5]))
def ir135:IRF :=
 { slots:=[0,1,2,3,6,7,15,26],nparams:=3,results:=[.loc 4],body:=.seq (.reg [J 3 (.box (L 0)),J 4 (.mov (N 0))]) (.seq (.seq (.reg [J 5 (.mov (N 0))]) (.block 0 (.loop ir135_k0 ir135_l0))) (.seq (.reg [J 4 (.mov (N (-1)))]) (.ret))) }
theorem ir135_of:zaw Tryz.prog [0,1,2,3,6,7,15,26] [[false,true,true,true,false,true,false,false]] Tryz.f135=some ir135:=by kernel_rfl
def ir41_k0:List Bool:=[false,true,true,false,true,true,true,false,false,false]
def ir41_l0:IR:=.seq (.seq (.reg [A 6,I (.faddr 2 (L 2)),D,A 5,E 1,D,I (.len (.sl) (V 0)),J 8 (.bin (.lss) (V 6) (V 0))]) (.cond (L 8) (.skip) (.exit 2))) (.seq (.block 3 (.seq (.reg [I (.faddr 2 (L 2)),D,A 5,E 1,D,A 6,E 1,D,A 1,I (.bin (.eql) (V 1) (V 0)),I (.mov (V 0)),⟨none,.mov (L 1),some (.val 0,true),[]⟩,⟨none,.bin (.geq) (V 0) (N 0),some (.val 1,true),[]⟩,J 9 (.pick (V 2) (V 0) (.k (.c (.bool false))))]) (.cond (L 9) (.reg [A 4,I (.bin (.add) (V 0) (N 1)),F 4]) (.skip)))) (.reg [A 6,I (.bin (.add) (V 0) (N 1)),F 6]))
def ir41_k1:List Bool:=[false,true,true,false,true,true,false,false,false,false]
def ir41_l1:IR:=.seq (.seq (.reg [A 5,I (.faddr 2 (L 2)),D,I (.len (.sl) (V 0)),J 7 (.bin (.lss) (V 3) (V 0))]) (.cond (L 7) (.skip) (.exit 0))) (.seq (.block 1 (.seq (.reg [J 6 (.mov (N 0))]) (.block 2 (.loop ir41_k0 ir41_l0)))) (.reg [A 5,I (.bin (.add) (V 0) (N 1)),F 5]))
def ir41:IRF :=
 { slots:=[0,1,2,4,5,6,7,12,22,38],nparams:=2,results:=[.loc 3],body:=.seq (.reg [J 2 (.box (L 0)),J 3 (.mov (N 0))]) (.seq (.reg [J 4 (.mov (N 0))]) (.seq (.seq (.reg [J 5 (.mov (N 0))]) (.block 0 (.loop ir41_k1 ir41_l1))) (.seq (.reg [A 4,F 3]) (.ret)))) }
theorem ir41_of:zaw Tryz.prog [0,1,2,4,5,6,7,12,22,38] [[false,true,true,false,true,true,false,false,false,false],[false,true,true,false,true,true,true,false,false,false]] Tryz.f41=some ir41:=by kernel_rfl
def ir99_k0:List Bool:=[false,true,false,true,false,true,true,false,false,false,false,false,false,false,false,false,false,false,false,false,false,false,false,false,false,false,false]
def ir99_l0:IR:=.seq (.seq (.reg [A 6,I (.faddr 0 (L 3)),D,I (.len (.sl) (V 0)),I (.bin (.lss) (V 3) (V 0)),I (.mov (V 0)),⟨none,.faddr 0 (L 3),some (.val 0,true),[]⟩,⟨none,.load 1 false (V 0),some (.val 1,true),[]⟩,⟨none,.mov (L 6),some (.val 2,true),[]⟩,⟨none,.iaddr 1 (V 1) (V 0),some (.val 3,true),[]⟩,⟨none,.load 1 false (V 0),some (.val 4,true),[]⟩,J 16 (.pick (V 5) (V 0) (.k (.c (.bool false))))]) (.cond (L 16) (.skip) (.exit 1))) (.block 2 (.reg [A 6,I (.bin (.add) (V 0) (N 1)),F 6]))
def ir99:IRF :=
 { slots:=[0,1,2,3,5,6,7,26,42,51,58,72,79,82,83,88,101,108,125,130,138,160,177,195,226,236,241],nparams:=3,results:=[.cell 5 4 true],body:=.seq (.reg [J 3 (.box (L 0)),J 4 (.box (L 2)),J 5 (.box (.k (.agg [.int (.i64) 0,.int (.i64) 0,.int (.i64) 0,.nils])))]) (.seq (.seq (.reg [A 1,I (.bin (.lss) (V 0) (N 0)),I (.mov (V 0)),⟨none,.mov (L 1),some (.val 0,false),[]⟩,⟨none,.faddr 2 (L 3),some (.val 1,false),[]⟩,⟨none,.load 1 false (V 0),some (.val 2,false),[]⟩,⟨none,.len (.sl) (V 0),some (.val 3,false),[]⟩,⟨none,.bin (.geq) (V 3) (V 0),some (.val 4,false),[]⟩,I (.pick (V 5) (.k (.c (.bool true))) (V 0)),I (.mov (V 0)),⟨none,.faddr 0 (L 4),some (.val 0,false),[]⟩,⟨none,.load 1 false (V 0),some (.val 1,false),[]⟩,⟨none,.bin (.lss) (V 0) (N 1),some (.val 2,false),[]⟩,I (.pick (V 3) (.k (.c (.bool true))) (V 0)),I (.mov (V 0)),⟨none,.faddr 0 (L 4),some (.val 0,false),[]⟩,⟨none,.load 1 false (V 0),some (.val 1,false),[]⟩,⟨none,.bin (.gtr) (V 0) (N 8),some (.val 2,false),[]⟩,J 7 (.pick (V 3) (.k (.c (.bool true))) (V 0))]) (.cond (L 7) (.seq (.reg [I (.call 133 [.k (.c (.int (.i64) 1))]),I (.store 4 (L 5) (V 0))]) (.ret)) (.skip))) (.seq (.reg [I (.faddr 1 (L 4)),D,F 6]) (.seq (.seq (.reg [I (.faddr 0 (L 4)),D,I (.bin (.eql) (V 0) (N 2)),I (.mov (V 0)),⟨none,.faddr 0 (L 4),some (.val 0,false),[]⟩,⟨none,.load 1 false (V 0),some (.val 1,false),[]⟩,⟨none,.bin (.eql) (V 0) (N 6),some (.val 2,false),[]⟩,I (.pick (V 3) (.k (.c (.bool true))) (V 0)),I (.mov (V 0)),⟨none,.faddr 0 (L 4),some (.val 0,false),[]⟩,⟨none,.load 1 false (V 0),some (.val 1,false),[]⟩,⟨none,.bin (.eql) (V 0) (N 8),some (.val 2,false),[]⟩,J 8 (.pick (V 3) (.k (.c (.bool true))) (V 0))]) (.cond (L 8) (.seq (.seq (.reg [A 6,I (.bin (.lss) (V 0) (N 0)),I (.mov (V 0)),⟨none,.mov (L 6),some (.val 0,false),[]⟩,⟨none,.faddr 0 (L 3),some (.val 1,false),[]⟩,⟨none,.load 1 false (V 0),some (.val 2,false),[]⟩,⟨none,.len (.sl) (V 0),some (.val 3,false),[]⟩,⟨none,.bin (.geq) (V 3) (V 0),some (.val 4,false),[]⟩,J 9 (.pick (V 5) (.k (.c (.bool true))) (V 0))]) (.cond (L 9) (.seq (.reg [I (.call 133 [.k (.c (.int (.i64) 1))]),I (.store 4 (L 5) (V 0))]) (.ret)) (.skip))) (.seq (.reg [I (.faddr 0 (L 3)),D,A 6,E 1,D,J 10 (.un (.not) (V 0))]) (.cond (L 10) (.seq (.reg [I (.call 133 [.k (.c (.int (.i64) 2))]),I (.store 4 (L 5) (V 0))]) (.ret)) (.skip)))) (.skip))) (.seq (.seq (.reg [I (.faddr 0 (L 4)),D,I (.bin (.eql) (V 0) (N 3)),I (.mov (V 0)),⟨none,.faddr 0 (L 4),some (.val 0,false),[]⟩,⟨none,.load 1 false (V 0),some (.val 1,false),[]⟩,⟨none,.bin (.eql) (V 0) (N 4),some (.val 2,false),[]⟩,I (.pick (V 3) (.k (.c (.bool true))) (V 0)),I (.mov (V 0)),⟨none,.faddr 0 (L 4),some (.val 0,false),[]⟩,⟨none,.load 1 false (V 0),some (.val 1,false),[]⟩,⟨none,.bin (.eql) (V 0) (N 5),some (.val 2,false),[]⟩,J 11 (.pick (V 3) (.k (.c (.bool true))) (V 0))]) (.cond (L 11) (.seq (.reg [I (.load 3 true (L 3)),A 1,I (.faddr 2 (L 4)),D,I (.call 95 [.val 3,.val 2,.val 0]),F 6]) (.seq (.reg [A 6,J 12 (.bin (.lss) (V 0) (N 0))]) (.cond (L 12) (.seq (.reg [I (.call 133 [.k (.c (.int (.i64) 5))]),I (.store 4 (L 5) (V 0))]) (.ret)) (.skip)))) (.skip))) (.seq (.seq (.reg [I (.faddr 0 (L 4)),J 13 (.load 1 false (V 0))]) (.block 0 (.seq (.reg [I (.bin (.eql) (L 13) (N 1)),F 14]) (.cond (L 14) (.seq (.seq (.reg [I (.load 3 true (L 3)),A 1,I (.call 134 [.val 1,.val 0]),J 15 (.un (.not) (V 0))]) (.cond (L 15) (.seq (.reg [I (.call 133 [.k (.c (.int (.i64) 4))]),I (.store 4 (L 5) (V 0))]) (.ret)) (.skip))) (.seq (.reg [J 6 (.mov (N 0))]) (.seq (.block 1 (.loop ir99_k0 ir99_l0)) (.seq (.seq (.reg [A 6,I (.faddr 0 (L 3)),D,I (.len (.sl) (V 0)),J 17 (.bin (.eql) (V 3) (V 0))]) (.cond (L 17) (.seq (.reg [I (.call 133 [.k (.c (.int (.i64) 3))]),I (.store 4 (L 5) (V 0))]) (.ret)) (.skip))) (.seq (.dreg 0 [I (.faddr 0 (L 3)),⟨none,.load 1 false (V 0),none,[(none,[]),(some 6,[])]⟩,A 6,I (.faddr 1 (L 3)),⟨none,.load 1 false (V 0),none,[(none,[]),(some 6,[]),(some 8,[])]⟩,A 6,I (.call 97 []),I (.iaddr 1 (V 5) (V 4)),I (.store 1 (V 0) (.k (.c (.bool true)))),I (.iaddr 1 (V 4) (V 3)),I (.store 1 (V 0) (V 3))]) (.seq (.reg [A 6,I (.load 3 true (L 3)),A 1,A 6,I (.call 135 [.val 2,.val 1,.val 0]),I (.build [.int (.i64) 0,.int (.i64) 0,.int (.i64) 0,.nils] [(1,1,.val 4),(2,1,.val 0)]),I (.store 4 (L 5) (V 0))]) (.ret))))))) (.seq (.reg [I (.bin (.eql) (L 13) (N 2)),F 18]) (.cond (L 18) (.seq (.seq (.reg [I (.load 3 true (L 3)),A 1,I (.call 134 [.val 1,.val 0]),J 19 (.un (.not) (V 0))]) (.cond (L 19) (.seq (.reg [I (.call 133 [.k (.c (.int (.i64) 4))]),I (.store 4 (L 5) (V 0))]) (.ret)) (.skip))) (.seq (.reg [A 6,I (.load 3 true (L 3)),A 1,A 6,I (.call 135 [.val 2,.val 1,.val 0]),I (.build [.int (.i64) 0,.int (.i64) 0,.int (.i64) 0,.nils] [(1,1,.val 4),(2,1,.val 0)]),I (.store 4 (L 5) (V 0))]) (.ret))) (.seq (.reg [I (.bin (.eql) (L 13) (N 3)),F 20]) (.cond (L 20) (.seq (.seq (.reg [I (.faddr 3 (L 4)),D,I (.bin (.lss) (V 0) (N 0)),I (.mov (V 0)),⟨none,.faddr 4 (L 4),some (.val 0,false),[]⟩,⟨none,.load 1 false (V 0),some (.val 1,false),[]⟩,⟨none,.bin (.lss) (V 0) (N 0),some (.val 2,false),[]⟩,I (.pick (V 3) (.k (.c (.bool true))) (V 0)),I (.mov (V 0)),⟨none,.faddr 3 (L 4),some (.val 0,false),[]⟩,⟨none,.load 1 false (V 0),some (.val 1,false),[]⟩,⟨none,.bin (.gtr) (V 0) (N 16),some (.val 2,false),[]⟩,I (.pick (V 3) (.k (.c (.bool true))) (V 0)),I (.mov (V 0)),⟨none,.faddr 4 (L 4),some (.val 0,false),[]⟩,⟨none,.load 1 false (V 0),some (.val 1,false),[]⟩,⟨none,.faddr 3 (L 4),some (.val 2,false),[]⟩,⟨none,.load 1 false (V 0),some (.val 3,false),[]⟩,⟨none,.bin (.sub) (N 16) (V 0),some (.val 4,false),[]⟩,⟨none,.bin (.gtr) (V 3) (V 0),some (.val 5,false),[]⟩,J 21 (.pick (V 6) (.k (.c (.bool true))) (V 0))]) (.cond (L 21) (.seq (.reg [I (.call 133 [.k (.c (.int (.i64) 6))]),I (.store 4 (L 5) (V 0))]) (.ret)) (.skip))) (.seq (.dreg 1 [I (.faddr 1 (L 3)),D,A 6,E 1,D,I (.faddr 3 (L 4)),D,I (.faddr 3 (L 4)),D,I (.faddr 4 (L 4)),D,I (.bin (.add) (V 2) (V 0)),I (.sstr (V 7) (some (V 5)) (some (V 0))),I (.s2b (V 0)),I (.build [.int (.i64) 0,.int (.i64) 0,.int (.i64) 0,.nils] [(3,1,.val 0)]),I (.store 4 (L 5) (V 0))]) (.ret))) (.seq (.reg [I (.bin (.eql) (L 13) (N 4)),F 22]) (.cond (L 22) (.seq (.seq (.reg [I (.faddr 3 (L 4)),D,I (.bin (.lss) (V 0) (N 0)),I (.mov (V 0)),⟨none,.faddr 3 (L 4),some (.val 0,false),[]⟩,⟨none,.load 1 false (V 0),some (.val 1,false),[]⟩,⟨none,.bin (.gtr) (V 0) (N 16),some (.val 2,false),[]⟩,I (.pick (V 3) (.k (.c (.bool true))) (V 0)),I (.mov (V 0)),⟨none,.faddr 5 (L 4),some (.val 0,false),[]⟩,⟨none,.load 1 false (V 0),some (.val 1,false),[]⟩,⟨none,.len (.sl) (V 0),some (.val 2,false),[]⟩,⟨none,.faddr 3 (L 4),some (.val 3,false),[]⟩,⟨none,.load 1 false (V 0),some (.val 4,false),[]⟩,⟨none,.bin (.sub) (N 16) (V 0),some (.val 5,false),[]⟩,⟨none,.bin (.gtr) (V 3) (V 0),some (.val 6,false),[]⟩,J 23 (.pick (V 7) (.k (.c (.bool true))) (V 0))]) (.cond (L 23) (.seq (.reg [I (.call 133 [.k (.c (.int (.i64) 6))]),I (.store 4 (L 5) (V 0))]) (.ret)) (.skip))) (.dreg 0 [I (.faddr 1 (L 3)),D,A 6,I (.faddr 1 (L 3)),D,A 6,E 1,D,I (.faddr 3 (L 4)),D,I (.sstr (V 2) none (some (V 0))),I (.faddr 5 (L 4)),D,I (.b2s (V 0)),I (.bin (.add) (V 3) (V 0)),I (.faddr 1 (L 3)),D,A 6,E 1,D,I (.faddr 3 (L 4)),D,I (.faddr 5 (L 4)),D,I (.len (.sl) (V 0)),I (.bin (.add) (V 3) (V 0)),I (.sstr (V 6) (some (V 0)) none),I (.bin (.add) (V 12) (V 0)),I (.iaddr 1 (V 26) (V 25)),I (.store 1 (V 0) (V 1))])) (.seq (.reg [I (.bin (.eql) (L 13) (N 5)),F 24]) (.cond (L 24) (.dreg 0 [I (.faddr 2 (L 3)),D,A 1,E 1,D,I (.faddr 2 (L 4)),D,I (.iaddr 1 (V 2) (V 0)),I (.store 1 (V 0) (N (-1)))]) (.seq (.reg [I (.bin (.eql) (L 13) (N 8)),F 25]) (.cond (L 25) (.seq (.seq (.reg [I (.load 3 true (L 3)),A 6,I (.call 41 [.val 1,.val 0]),J 26 (.bin (.gtr) (V 0) (N 0))]) (.cond (L 26) (.seq (.reg [I (.call 133 [.k (.c (.int (.i64) 7))]),I (.store 4 (L 5) (V 0))]) (.ret)) (.skip))) (.dreg 0 [I (.faddr 0 (L 3)),⟨none,.load 1 false (V 0),none,[(none,[]),(some 6,[])]⟩,A 6,I (.faddr 1 (L 3)),⟨none,.load 1 false (V 0),none,[(none,[]),(some 6,[]),(some 8,[])]⟩,A 6,I (.call 97 []),I (.iaddr 1 (V 5) (V 4)),I (.store 1 (V 0) (.k (.c (.bool false)))),I (.iaddr 1 (V 4) (V 3)),I (.store 1 (V 0) (V 3))])) (.skip))))))))))))))) (.seq (.reg [I (.build [.int (.i64) 0,.int (.i64) 0,.int (.i64) 0,.nils] []),I (.store 4 (L 5) (V 0))]) (.ret))))))) }
theorem ir99_of:zaw Tryz.prog [0,1,2,3,5,6,7,26,42,51,58,72,79,82,83,88,101,108,125,130,138,160,177,195,226,236,241] [[false,true,false,true,false,true,true,false,false,false,false,false,false,false,false,false,false,false,false,false,false,false,false,false,false,false,false]] Tryz.f99=some ir99:=by kernel_rfl
def ir100:IRF :=
 { slots:=[0,1,2,3,4],nparams:=2,results:=[.loc 4],body:=.seq (.reg [J 2 (.box (L 0)),J 3 (.box (L 1)),J 4 (.mov (.k (.c (.bool false))))]) (.seq (.reg [I (.faddr 0 (L 2)),D,I (.faddr 0 (L 3)),D,I (.bin (.eql) (V 2) (V 0)),I (.mov (V 0)),⟨none,.faddr 1 (L 2),some (.val 0,true),[]⟩,⟨none,.load 1 false (V 0),some (.val 1,true),[]⟩,⟨none,.faddr 1 (L 3),some (.val 2,true),[]⟩,⟨none,.load 1 false (V 0),some (.val 3,true),[]⟩,⟨none,.bin (.eql) (V 2) (V 0),some (.val 4,true),[]⟩,I (.pick (V 5) (V 0) (.k (.c (.bool false)))),I (.mov (V 0)),⟨none,.faddr 2 (L 2),some (.val 0,true),[]⟩,⟨none,.load 1 false (V 0),some (.val 1,true),[]⟩,⟨none,.faddr 2 (L 3),some (.val 2,true),[]⟩,⟨none,.load 1 false (V 0),some (.val 3,true),[]⟩,⟨none,.bin (.eql) (V 2) (V 0),some (.val 4,true),[]⟩,I (.pick (V 5) (V 0) (.k (.c (.bool false)))),I (.mov (V 0)),⟨none,.faddr 3 (L 2),some (.val 0,true),[]⟩,⟨none,.load 1 false (V 0),some (.val 1,true),[]⟩,⟨none,.b2s (V 0),some (.val 2,true),[]⟩,⟨none,.faddr 3 (L 3),some (.val 3,true),[]⟩,⟨none,.load 1 false (V 0),some (.val 4,true),[]⟩,⟨none,.b2s (V 0),some (.val 5,true),[]⟩,⟨none,.bin (.eql) (V 3) (V 0),some (.val 6,true),[]⟩,I (.pick (V 7) (V 0) (.k (.c (.bool false)))),F 4]) (.ret)) }
theorem ir100_of:zaw Tryz.prog [0,1,2,3,4] [] Tryz.f100=some ir100:=by kernel_rfl
def ir76:IRF :=
 { slots:=[0,1,2,3,4,5,16],nparams:=2,results:=[.loc 4],body:=.seq (.reg [J 2 (.box (L 0)),J 3 (.box (L 1)),J 4 (.mov (.k (.c (.bool false))))]) (.seq (.seq (.reg [I (.faddr 13 (L 3)),D,I (.bin (.gtr) (V 0) (N 0)),I (.mov (V 0)),⟨none,.faddr 1 (L 3),some (.val 0,true),[]⟩,⟨none,.load 6 true (V 0),some (.val 1,true),[]⟩,⟨none,.faddr 7 (L 3),some (.val 2,true),[]⟩,⟨none,.faddr 0 (V 0),some (.val 3,true),[]⟩,⟨none,.load 1 false (V 0),some (.val 4,true),[]⟩,⟨none,.call 98 [.val 3,.val 0],some (.val 5,true),[]⟩,J 6 (.pick (V 6) (V 0) (.k (.c (.bool false))))]) (.cond (L 6) (.seq (.reg [I (.faddr 7 (L 3)),C 1,D,I (.bin (.eql) (V 0) (N 0)),I (.mov (V 0)),⟨none,.faddr 7 (L 3),some (.val 0,true),[]⟩,⟨none,.faddr 2 (V 0),some (.val 1,true),[]⟩,⟨none,.load 1 false (V 0),some (.val 2,true),[]⟩,⟨none,.bin (.eql) (V 0) (N 0),some (.val 3,true),[]⟩,I (.pick (V 4) (V 0) (.k (.c (.bool false)))),I (.mov (V 0)),⟨none,.faddr 7 (L 3),some (.val 0,true),[]⟩,⟨none,.faddr 3 (V 0),some (.val 1,true),[]⟩,⟨none,.load 1 false (V 0),some (.val 2,true),[]⟩,⟨none,.len (.sl) (V 0),some (.val 3,true),[]⟩,⟨none,.bin (.eql) (V 0) (N 0),some (.val 4,true),[]⟩,I (.pick (V 5) (V 0) (.k (.c (.bool false)))),F 4]) (.ret)) (.skip))) (.seq (.reg [I (.load 3 true (L 2)),I (.faddr 0 (L 3)),D,I (.faddr 1 (L 3)),I (.load 6 true (V 0)),I (.call 99 [.val 4,.val 2,.val 0]),J 5 (.box (.k (.agg [.int (.i64) 0,.int (.i64) 0,.int (.i64) 0,.nils]))),I (.store 4 (V 0) (V 1))]) (.seq (.reg [I (.faddr 13 (L 3)),D,I (.bin (.eql) (V 0) (N 0)),I (.mov (V 0)),⟨none,.load 4 true (L 5),some (.val 0,false),[]⟩,⟨none,.faddr 7 (L 3),some (.val 1,false),[]⟩,⟨none,.load 4 true (V 0),some (.val 2,false),[]⟩,⟨none,.call 100 [.val 2,.val 0],some (.val 3,false),[]⟩,I (.pick (V 4) (.k (.c (.bool true))) (V 0)),F 4]) (.ret)))) }
theorem ir76_of:zaw Tryz.prog [0,1,2,3,4,5,16] [] Tryz.f76=some ir76:=by kernel_rfl
def ir47_k0:List Bool:=[true,false,false,false,true,false,true,true,false,false,false,false,false]
def ir47_l0:IR:=.seq (.seq (.reg [A 7,A 6,I (.len (.sl) (V 0)),J 11 (.bin (.lss) (V 2) (V 0))]) (.cond (L 11) (.skip) (.exit 2))) (.seq (.block 3 (.seq (.dreg 0 [I (.load 3 true (L 4)),A 0,A 6,A 7,E 1,D,I (.iaddr 14 (V 4) (V 0)),I (.load 14 true (V 0)),I (.call 76 [.val 7,.val 0]),J 12 (.un (.not) (V 0))]) (.cond (L 12) (.seq (.reg [A 6,A 7,E 1,D,I (.bin (.add) (V 0) (N 1)),F 3]) (.ret)) (.skip)))) (.reg [A 7,I (.bin (.add) (V 0) (N 1)),F 7]))
def ir47_k1:List Bool:=[true,false,true,false,true,true,false,false,false,false,false,false,false]
def ir47_l1:IR:=.seq (.seq (.reg [A 5,A 0,I (.len (.sl) (V 0)),J 9 (.bin (.lss) (V 2) (V 0))]) (.cond (L 9) (.skip) (.exit 0))) (.seq (.block 1 (.seq (.reg [A 0,A 5,A 2,I (.call 74 [.val 2,.val 1,.val 0]),J 10 (.un (.not) (V 0))]) (.cond (L 10) (.seq (.reg [A 5,I (.bin (.add) (V 0) (N 1)),F 3]) (.ret)) (.skip)))) (.reg [A 5,I (.bin (.add) (V 0) (N 1)),F 5]))
def ir47:IRF :=
 { slots:=[0,1,2,6,7,8,9,10,17,21,28,36,48],nparams:=3,results:=[.loc 3],body:=.seq (.reg [J 3 (.mov (N 0))]) (.seq (.reg [A 1,A 2,I (.call 73 [.val 1,.val 0]),J 4 (.box (.k (.agg [.nils,.nils,.nils]))),I (.store 3 (V 0) (V 1))]) (.seq (.seq (.reg [I (.faddr 0 (L 4)),D,I (.len (.sl) (V 0)),J 8 (.bin (.eql) (V 0) (N 0))]) (.cond (L 8) (.seq (.reg [J 3 (.mov (N (-1)))]) (.ret)) (.skip))) (.seq (.seq (.reg [J 5 (.mov (N 0))]) (.block 0 (.loop ir47_k1 ir47_l1))) (.seq (.reg [A 0,I (.call 75 [.val 0]),F 6]) (.seq (.seq (.reg [J 7 (.mov (N 0))]) (.block 2 (.loop ir47_k0 ir47_l0))) (.seq (.reg [J 3 (.mov (N 0))]) (.ret))))))) }
theorem ir47_of:zaw Tryz.prog [0,1,2,6,7,8,9,10,17,21,28,36,48] [[true,false,true,false,true,true,false,false,false,false,false,false,false],[true,false,false,false,true,false,true,true,false,false,false,false,false]] Tryz.f47=some ir47:=by kernel_rfl
def ir26:IRF :=
 { slots:=[0,2],nparams:=1,results:=[.loc 1],body:=.seq (.reg [J 1 (.mov (.k (.c (.bool false))))]) (.seq (.dreg 0 [A 0,B,C 0,D,I (.call 12 [.val 0]),A 0,B,C 1,C 0,⟨none,.load 1 false (V 0),none,[(none,[]),(some 4,[])]⟩,A 0,B,C 1,C 3,⟨none,.load 1 false (V 0),none,[(none,[]),(some 4,[])]⟩,I (.call 47 [.val 10,.val 5,.val 0]),I (.bin (.eql) (V 0) (N 0)),F 1]) (.ret)) }
theorem ir26_of:zaw Tryz.prog [0,2] [] Tryz.f26=some ir26:=by kernel_rfl
def ir96:IRF :=
 { slots:=[0,1,2,3,15],nparams:=2,results:=[],body:=.seq (.reg [J 2 (.box (L 0)),J 3 (.box (L 1))]) (.seq (.reg [I (.faddr 13 (L 3)),D,I (.bin (.eql) (V 0) (N 0)),I (.mov (V 0)),⟨none,.faddr 1 (L 3),some (.val 0,false),[]⟩,⟨none,.load 6 true (V 0),some (.val 1,false),[]⟩,⟨none,.faddr 7 (L 3),some (.val 2,false),[]⟩,⟨none,.faddr 0 (V 0),some (.val 3,false),[]⟩,⟨none,.load 1 false (V 0),some (.val 4,false),[]⟩,⟨none,.call 98 [.val 3,.val 0],some (.val 5,false),[]⟩,⟨none,.un (.not) (V 0),some (.val 6,false),[]⟩,J 4 (.pick (V 7) (.k (.c (.bool true))) (V 0))]) (.cond (L 4) (.reg [I (.load 3 true (L 2)),I (.faddr 0 (L 3)),D,I (.faddr 1 (L 3)),I (.load 6 true (V 0)),I (.call 99 [.val 4,.val 2,.val 0])]) (.skip))) }
theorem ir96_of:zaw Tryz.prog [0,1,2,3,15] [] Tryz.f96=some ir96:=by kernel_rfl
def ir93_k0:List Bool:=[true,true,false,true,false,true,true,true,true,false,false,false,false]
def ir93_l0:IR:=.seq (.seq (.reg [A 8,A 6,I (.len (.sl) (V 0)),J 11 (.bin (.lss) (V 2) (V 0))]) (.cond (L 11) (.skip) (.exit 0))) (.seq (.block 1 (.seq (.reg [A 0,A 6,A 8,E 1,D,I (.iaddr 14 (V 4) (V 0)),I (.load 14 true (V 0)),J 9 (.box (.k (.agg [.int (.i64) 0,.int (.i64) 0,.int (.i64) 0,.int (.i64) 0,.int (.i64) 0,.int (.i64) 0,.nils,.int (.i64) 0,.int (.i64) 0,.int (.i64) 0,.nils,.int (.i64) 0,.int (.i64) 0,.int (.i64) 0]))),I (.store 14 (V 0) (V 1))]) (.seq (.seq (.reg [I (.faddr 13 (L 9)),D,I (.bin (.gtr) (V 0) (N 0)),I (.mov (V 0)),⟨none,.faddr 7 (L 9),some (.val 0,true),[]⟩,⟨none,.faddr 0 (V 0),some (.val 1,true),[]⟩,⟨none,.load 1 false (V 0),some (.val 2,true),[]⟩,⟨none,.bin (.eql) (V 0) (N 0),some (.val 3,true),[]⟩,I (.pick (V 4) (V 0) (.k (.c (.bool false)))),I (.mov (V 0)),⟨none,.faddr 1 (L 9),some (.val 0,true),[]⟩,⟨none,.faddr 0 (V 0),some (.val 1,true),[]⟩,⟨none,.load 1 false (V 0),some (.val 2,true),[]⟩,⟨none,.bin (.eql) (V 0) (N 6),some (.val 3,true),[]⟩,⟨none,.mov (V 0),some (.val 4,true),[]⟩,⟨none,.faddr 1 (L 9),some (.val 0,true),[]⟩,⟨none,.faddr 1 (V 0),some (.val 1,true),[]⟩,⟨none,.load 1 false (V 0),some (.val 2,true),[]⟩,⟨none,.mov (L 3),some (.val 3,true),[]⟩,⟨none,.bin (.eql) (V 1) (V 0),some (.val 4,true),[]⟩,⟨none,.pick (V 5) (V 0) (.k (.c (.bool false))),some (.val 10,true),[]⟩,⟨none,.mov (V 0),some (.val 11,true),[]⟩,⟨none,.faddr 1 (L 9),some (.val 0,false),[]⟩,⟨none,.faddr 0 (V 0),some (.val 1,false),[]⟩,⟨none,.load 1 false (V 0),some (.val 2,false),[]⟩,⟨none,.bin (.eql) (V 0) (N 7),some (.val 3,false),[]⟩,⟨none,.mov (V 0),some (.val 4,false),[]⟩,⟨none,.mov (L 3),some (.val 0,true),[]⟩,⟨none,.bin (.geq) (V 0) (N 0),some (.val 1,true),[]⟩,⟨none,.pick (V 2) (V 0) (.k (.c (.bool false))),some (.val 7,false),[]⟩,⟨none,.mov (V 0),some (.val 8,false),[]⟩,⟨none,.mov (L 3),some (.val 0,true),[]⟩,⟨none,.mov (L 1),some (.val 1,true),[]⟩,⟨none,.bin (.lss) (V 1) (V 0),some (.val 2,true),[]⟩,⟨none,.pick (V 3) (V 0) (.k (.c (.bool false))),some (.val 12,false),[]⟩,⟨none,.mov (V 0),some (.val 13,false),[]⟩,⟨none,.faddr 0 (L 5),some (.val 0,true),[]⟩,⟨none,.load 1 false (V 0),some (.val 1,true),[]⟩,⟨none,.mov (L 3),some (.val 2,true),[]⟩,⟨none,.iaddr 1 (V 1) (V 0),some (.val 3,true),[]⟩,⟨none,.load 1 false (V 0),some (.val 4,true),[]⟩,⟨none,.pick (V 5) (V 0) (.k (.c (.bool false))),some (.val 19,false),[]⟩,⟨none,.pick (V 20) (.k (.c (.bool true))) (V 0),some (.val 32,true),[]⟩,J 12 (.pick (V 33) (V 0) (.k (.c (.bool false))))]) (.cond (L 12) (.reg [A 7,I (.faddr 12 (L 9)),D,I (.mx [.val 2,.val 0]),F 7]) (.skip))) (.reg [I (.load 3 true (L 5)),I (.load 14 true (L 9)),I (.call 96 [.val 1,.val 0])])))) (.reg [A 8,I (.bin (.add) (V 0) (N 1)),F 8]))
def ir93:IRF :=
 { slots:=[0,1,2,3,8,9,10,11,12,13,18,27,80],nparams:=4,results:=[.loc 4],body:=.seq (.reg [J 4 (.mov (N 0))]) (.seq (.seq (.reg [A 0,A 1,A 2,I (.call 47 [.val 2,.val 1,.val 0]),J 10 (.bin (.neq) (V 0) (N 0))]) (.cond (L 10) (.seq (.reg [J 4 (.mov (N (-1)))]) (.ret)) (.skip))) (.seq (.reg [A 1,A 2,I (.call 73 [.val 1,.val 0]),J 5 (.box (.k (.agg [.nils,.nils,.nils]))),I (.store 3 (V 0) (V 1))]) (.seq (.reg [A 0,I (.call 75 [.val 0]),F 6]) (.seq (.reg [J 7 (.mov (N 0))]) (.seq (.seq (.reg [J 8 (.mov (N 0))]) (.block 0 (.loop ir93_k0 ir93_l0))) (.seq (.reg [A 7,F 4]) (.ret))))))) }
theorem ir93_of:zaw Tryz.prog [0,1,2,3,8,9,10,11,12,13,18,27,80] [[true,true,false,true,false,true,true,true,true,false,false,false,false]] Tryz.f93=some ir93:=by kernel_rfl
def ir131:IRF :=
 { slots:=[0],nparams:=0,results:=[.loc 0],body:=.seq (.reg [J 0 (.mov (.k (.c (.str []))))]) (.seq (.reg [I (.mks 1 [.int (.u8) 0] (N 24) (N 24)),I (.b2s (V 0)),F 0]) (.ret)) }
theorem ir131_of:zaw Tryz.prog [0] [] Tryz.f131=some ir131:=by kernel_rfl
def ir188_k0:List Bool:=[true,true,false,true,true,false]
def ir188_l0:IR:=.seq (.seq (.reg [A 4,A 1,J 5 (.bin (.lss) (V 1) (V 0))]) (.cond (L 5) (.skip) (.exit 0))) (.seq (.block 1 (.reg [A 3,A 0,A 4,I (.bin (.mul) (N 8) (V 0)),I (.conv (.u64) (V 0)),I (.bin (.shr) (V 3) (V 0)),I (.conv (.u8) (V 0)),I (.bsl 1 [.int (.u8) 0] [(0,1,.val 0)]),I (.app 1 1 (V 7) (V 0)),F 3])) (.reg [A 4,I (.bin (.add) (V 0) (N 1)),F 4]))
def ir188:IRF :=
 { slots:=[0,1,4,5,6,9],nparams:=2,results:=[.loc 2],body:=.seq (.reg [J 2 (.mov (.k (.c (.str []))))]) (.seq (.reg [J 3 (.mov (.k (.c (.nils))))]) (.seq (.seq (.reg [J 4 (.mov (N 0))]) (.block 0 (.loop ir188_k0 ir188_l0))) (.seq (.reg [A 3,I (.b2s (V 0)),F 2]) (.ret)))) }
theorem ir188_of:zaw Tryz.prog [0,1,4,5,6,9] [[true,true,false,true,true,false]] Tryz.f188=some ir188:=by kernel_rfl
def ir262_k0:List Bool:=[true,false,false,true,false,false,false]
def ir262_l0:IR:=.seq (.seq (.reg [A 3,J 5 (.bin (.lss) (V 0) (N 8))]) (.cond (L 5) (.skip) (.exit 0))) (.seq (.block 1 (.seq (.reg [A 0,I (.bin (.and) (V 0) (.k (.c (.int (.u32) 1)))),F 4]) (.seq (.reg [A 0,I (.bin (.shr) (V 0) (.k (.c (.int (.u64) 1)))),F 0]) (.seq (.reg [A 4,J 6 (.bin (.eql) (V 0) (.k (.c (.int (.u32) 1))))]) (.cond (L 6) (.reg [A 0,I (.bin (.xor) (V 0) (.k (.c (.int (.u32) 2748603157)))),F 0]) (.skip)))))) (.reg [A 3,I (.bin (.add) (V 0) (N 1)),F 3]))
def ir262:IRF :=
 { slots:=[0,1,4,5,6,12,20],nparams:=2,results:=[.loc 2],body:=.seq (.reg [J 2 (.mov (.k (.c (.int (.u32) 0))))]) (.seq (.reg [A 0,A 1,I (.conv (.u32) (V 0)),I (.bin (.xor) (V 2) (V 0)),F 0]) (.seq (.seq (.reg [J 3 (.mov (N 0))]) (.block 0 (.loop ir262_k0 ir262_l0))) (.seq (.reg [A 0,F 2]) (.ret)))) }
theorem ir262_of:zaw Tryz.prog [0,1,4,5,6,12,20] [[true,false,false,true,false,false,false]] Tryz.f262=some ir262:=by kernel_rfl
def ir228_k0:List Bool:=[true,true,false,true,false]
def ir228_l0:IR:=.seq (.seq (.reg [A 3,A 1,I (.len (.str) (V 0)),J 4 (.bin (.lss) (V 2) (V 0))]) (.cond (L 4) (.skip) (.exit 0))) (.seq (.block 1 (.reg [A 0,A 1,A 3,I (.idxS (V 1) (V 0)),I (.call 262 [.val 3,.val 0]),F 0])) (.reg [A 3,I (.bin (.add) (V 0) (N 1)),F 3]))
def ir228:IRF :=
 { slots:=[0,1,4,5,9],nparams:=2,results:=[.loc 2],body:=.seq (.reg [J 2 (.mov (.k (.c (.int (.u32) 0))))]) (.seq (.seq (.reg [J 3 (.mov (N 0))]) (.block 0 (.loop ir228_k0 ir228_l0))) (.seq (.reg [A 0,F 2]) (.ret))) }
theorem ir228_of:zaw Tryz.prog [0,1,4,5,9] [[true,true,false,true,false]] Tryz.f228=some ir228:=by kernel_rfl
def ir189:IRF :=
 { slots:=[0,2],nparams:=1,results:=[.loc 1],body:=.seq (.reg [J 1 (.mov (.k (.c (.int (.u32) 0))))]) (.seq (.reg [A 0,I (.call 228 [.k (.c (.int (.u32) 4294967295)),.val 0]),I (.un (.xor) (V 0)),F 1]) (.ret)) }
theorem ir189_of:zaw Tryz.prog [0,2] [] Tryz.f189=some ir189:=by kernel_rfl
def ir132:IRF :=
 { slots:=[0,1,4,5,6,17],nparams:=2,results:=[.loc 2,.loc 3],body:=.seq (.reg [J 2 (.mov (.k (.c (.str [])))),J 3 (.mov (N 0))]) (.seq (.seq (.reg [A 0,I (.bin (.lss) (V 0) (N 0)),I (.mov (V 0)),⟨none,.mov (L 0),some (.val 0,false),[]⟩,⟨none,.bin (.geq) (V 0) (N 48),some (.val 1,false),[]⟩,I (.pick (V 2) (.k (.c (.bool true))) (V 0)),I (.mov (V 0)),⟨none,.mov (L 1),some (.val 0,false),[]⟩,⟨none,.len (.str) (V 0),some (.val 1,false),[]⟩,⟨none,.bin (.neq) (V 0) (N 16),some (.val 2,false),[]⟩,J 5 (.pick (V 3) (.k (.c (.bool true))) (V 0))]) (.cond (L 5) (.seq (.reg [J 2 (.mov (.k (.c (.str [])))),J 3 (.mov (N 1))]) (.ret)) (.skip))) (.seq (.reg [A 0,I (.bin (.add) (V 0) (N 1)),I (.conv (.u32) (V 0)),I (.call 188 [.val 0,.k (.c (.int (.i64) 2))]),I (.bin (.add) (V 0) (.k (.c (.str [90,165])))),A 1,I (.bin (.add) (V 1) (V 0)),F 4]) (.seq (.reg [A 4,I (.call 189 [.val 0]),I (.call 188 [.val 0,.k (.c (.int (.i64) 4))]),A 4,I (.bin (.add) (V 1) (V 0)),F 2,J 3 (.mov (N 0))]) (.ret)))) }
theorem ir132_of:zaw Tryz.prog [0,1,4,5,6,17] [] Tryz.f132=some ir132:=by kernel_rfl
def ir94:IRF :=
 { slots:=[0,1,4,5,6,18,21,31],nparams:=2,results:=[.loc 2,.loc 3],body:=.seq (.reg [J 2 (.mov (.k (.c (.str [])))),J 3 (.mov (N 0))]) (.seq (.seq (.reg [A 0,I (.bin (.lss) (V 0) (N 0)),I (.mov (V 0)),⟨none,.mov (L 0),some (.val 0,false),[]⟩,⟨none,.bin (.geq) (V 0) (N 48),some (.val 1,false),[]⟩,I (.pick (V 2) (.k (.c (.bool true))) (V 0)),I (.mov (V 0)),⟨none,.mov (L 1),some (.val 0,false),[]⟩,⟨none,.len (.str) (V 0),some (.val 1,false),[]⟩,⟨none,.bin (.neq) (V 0) (N 24),some (.val 2,false),[]⟩,J 5 (.pick (V 3) (.k (.c (.bool true))) (V 0))]) (.cond (L 5) (.seq (.reg [J 2 (.mov (.k (.c (.str [])))),J 3 (.mov (N 1))]) (.ret)) (.skip))) (.seq (.seq (.reg [A 1,I (.call 131 []),J 6 (.bin (.eql) (V 1) (V 0))]) (.cond (L 6) (.seq (.reg [J 2 (.mov (.k (.c (.str [])))),J 3 (.mov (N 11))]) (.ret)) (.skip))) (.seq (.reg [A 0,A 1,I (.sstr (V 0) (some (N 8)) none),I (.call 132 [.val 2,.val 0]),I (.mov (V 0)),I (.ext 0 (V 0)),I (.ext 1 (V 1)),J 4 (.mov (V 1)),I (.mov (V 1))]) (.seq (.seq (.reg [A 4,A 1,J 7 (.bin (.neq) (V 1) (V 0))]) (.cond (L 7) (.seq (.reg [J 2 (.mov (.k (.c (.str [])))),J 3 (.mov (N 10))]) (.ret)) (.skip))) (.seq (.reg [A 1,I (.sstr (V 0) (some (N 8)) none),F 2,J 3 (.mov (N 0))]) (.ret)))))) }
theorem ir94_of:zaw Tryz.prog [0,1,4,5,6,18,21,31] [] Tryz.f94=some ir94:=by kernel_rfl
def ir72_k0:List Bool:=[true,false,false,true,false,false,false,false,true,true,false,true,true,true,false,false,false,false,true,false,false,false,false,false,false,false]
def ir72_l0:IR:=.seq (.seq (.reg [A 18,A 0,I (.len (.sl) (V 0)),J 23 (.bin (.lss) (V 2) (V 0))]) (.cond (L 23) (.skip) (.exit 2))) (.seq (.block 3 (.seq (.dreg 0 [A 0,A 18,E 14,C 12,D,I (.bin (.eql) (V 0) (N 0)),I (.mov (V 0)),⟨none,.mov (L 0),some (.val 0,true),[]⟩,⟨none,.mov (L 18),some (.val 1,true),[]⟩,⟨none,.iaddr 14 (V 1) (V 0),some (.val 2,true),[]⟩,⟨none,.faddr 13 (V 0),some (.val 3,true),[]⟩,⟨none,.load 1 false (V 0),some (.val 4,true),[]⟩,⟨none,.bin (.eql) (V 0) (N 0),some (.val 5,true),[]⟩,I (.pick (V 6) (V 0) (.k (.c (.bool false)))),I (.mov (V 0)),⟨none,.mov (L 0),some (.val 0,true),[]⟩,⟨none,.mov (L 18),some (.val 1,true),[]⟩,⟨none,.iaddr 14 (V 1) (V 0),some (.val 2,true),[]⟩,⟨none,.faddr 1 (V 0),some (.val 3,true),[]⟩,⟨none,.faddr 0 (V 0),some (.val 4,true),[]⟩,⟨none,.load 1 false (V 0),some (.val 5,true),[]⟩,⟨none,.bin (.eql) (V 0) (N 4),some (.val 6,true),[]⟩,I (.pick (V 7) (V 0) (.k (.c (.bool false)))),I (.mov (V 0)),⟨none,.load 3 true (L 9),some (.val 0,true),[]⟩,⟨none,.mov (L 0),some (.val 1,true),[]⟩,⟨none,.mov (L 18),some (.val 2,true),[]⟩,⟨none,.iaddr 14 (V 1) (V 0),some (.val 3,true),[]⟩,⟨none,.faddr 0 (V 0),some (.val 4,true),[]⟩,⟨none,.load 1 false (V 0),some (.val 5,true),[]⟩,⟨none,.mov (L 0),some (.val 6,true),[]⟩,⟨none,.mov (L 18),some (.val 7,true),[]⟩,⟨none,.iaddr 14 (V 1) (V 0),some (.val 8,true),[]⟩,⟨none,.faddr 1 (V 0),some (.val 9,true),[]⟩,⟨none,.faddr 2 (V 0),some (.val 10,true),[]⟩,⟨none,.load 1 false (V 0),some (.val 11,true),[]⟩,⟨none,.call 95 [.val 11,.val 6,.val 0],some (.val 12,true),[]⟩,⟨none,.mov (L 3),some (.val 13,true),[]⟩,⟨none,.bin (.eql) (V 1) (V 0),some (.val 14,true),[]⟩,J 24 (.pick (V 15) (V 0) (.k (.c (.bool false))))]) (.cond (L 24) (.reg [J 11 (.mov (.k (.c (.bool true))))]) (.skip)))) (.reg [A 18,I (.bin (.add) (V 0) (N 1)),F 18]))
def ir72_k1:List Bool:=[true,false,false,true,false,false,true,true,true,true,true,true,true,true,true,false,false,false,false,false,false,false,false,false,false,false]
def ir72_l1:IR:=.seq (.seq (.reg [A 14,A 10,I (.len (.sl) (V 0)),J 20 (.bin (.lss) (V 2) (V 0))]) (.cond (L 20) (.skip) (.exit 0))) (.seq (.block 1 (.seq (.reg [A 0,A 10,A 14,E 1,D,I (.iaddr 14 (V 4) (V 0)),I (.load 14 true (V 0)),J 15 (.box (.k (.agg [.int (.i64) 0,.int (.i64) 0,.int (.i64) 0,.int (.i64) 0,.int (.i64) 0,.int (.i64) 0,.nils,.int (.i64) 0,.int (.i64) 0,.int (.i64) 0,.nils,.int (.i64) 0,.int (.i64) 0,.int (.i64) 0]))),I (.store 14 (V 0) (V 1))]) (.seq (.reg [I (.load 3 true (L 9)),I (.faddr 0 (L 15)),D,I (.faddr 1 (L 15)),C 2,D,I (.call 95 [.val 5,.val 3,.val 0]),F 16]) (.seq (.reg [I (.faddr 0 (L 9)),D,A 3,E 1,D,F 17]) (.seq (.reg [I (.load 3 true (L 9)),I (.load 14 true (L 15)),I (.call 96 [.val 1,.val 0])]) (.seq (.seq (.reg [I (.faddr 12 (L 15)),D,A 6,I (.bin (.gtr) (V 1) (V 0)),I (.mov (V 0)),⟨none,.faddr 1 (L 15),some (.val 0,true),[]⟩,⟨none,.faddr 0 (V 0),some (.val 1,true),[]⟩,⟨none,.load 1 false (V 0),some (.val 2,true),[]⟩,⟨none,.bin (.eql) (V 0) (N 4),some (.val 3,true),[]⟩,⟨none,.mov (V 0),some (.val 4,true),[]⟩,⟨none,.mov (L 16),some (.val 0,true),[]⟩,⟨none,.mov (L 3),some (.val 1,true),[]⟩,⟨none,.bin (.eql) (V 1) (V 0),some (.val 2,true),[]⟩,⟨none,.pick (V 3) (V 0) (.k (.c (.bool false))),some (.val 8,true),[]⟩,⟨none,.mov (V 0),some (.val 9,true),[]⟩,⟨none,.faddr 1 (L 15),some (.val 0,false),[]⟩,⟨none,.faddr 0 (V 0),some (.val 1,false),[]⟩,⟨none,.load 1 false (V 0),some (.val 2,false),[]⟩,⟨none,.bin (.eql) (V 0) (N 1),some (.val 3,false),[]⟩,⟨none,.mov (V 0),some (.val 4,false),[]⟩,⟨none,.mov (L 17),some (.val 0,true),[]⟩,⟨none,.un (.not) (V 0),some (.val 1,true),[]⟩,⟨none,.pick (V 2) (V 0) (.k (.c (.bool false))),some (.val 7,false),[]⟩,⟨none,.mov (V 0),some (.val 8,false),[]⟩,⟨none,.faddr 0 (L 9),some (.val 0,true),[]⟩,⟨none,.load 1 false (V 0),some (.val 1,true),[]⟩,⟨none,.mov (L 3),some (.val 2,true),[]⟩,⟨none,.iaddr 1 (V 1) (V 0),some (.val 3,true),[]⟩,⟨none,.load 1 false (V 0),some (.val 4,true),[]⟩,⟨none,.pick (V 5) (V 0) (.k (.c (.bool false))),some (.val 14,false),[]⟩,⟨none,.pick (V 15) (.k (.c (.bool true))) (V 0),some (.val 25,true),[]⟩,J 21 (.pick (V 26) (V 0) (.k (.c (.bool false))))]) (.cond (L 21) (.reg [J 11 (.mov (.k (.c (.bool true))))]) (.skip))) (.seq (.reg [I (.faddr 12 (L 15)),D,A 6,I (.bin (.geq) (V 1) (V 0)),I (.mov (V 0)),⟨none,.faddr 0 (L 9),some (.val 0,true),[]⟩,⟨none,.load 1 false (V 0),some (.val 1,true),[]⟩,⟨none,.mov (L 3),some (.val 2,true),[]⟩,⟨none,.iaddr 1 (V 1) (V 0),some (.val 3,true),[]⟩,⟨none,.load 1 false (V 0),some (.val 4,true),[]⟩,I (.pick (V 5) (V 0) (.k (.c (.bool false)))),I (.mov (V 0)),⟨none,.mov (L 8),some (.val 0,true),[]⟩,⟨none,.bin (.eql) (V 0) (N 0),some (.val 1,true),[]⟩,J 22 (.pick (V 2) (V 0) (.k (.c (.bool false))))]) (.cond (L 22) (.seq (.dreg 0 [A 12,I (.mov (V 0)),⟨none,.faddr 1 (L 9),some (.val 0,false),[]⟩,⟨none,.load 1 false (V 0),some (.val 1,false),[]⟩,⟨none,.mov (L 3),some (.val 2,false),[]⟩,⟨none,.iaddr 1 (V 1) (V 0),some (.val 3,false),[]⟩,⟨none,.load 1 false (V 0),some (.val 4,false),[]⟩,⟨none,.sstr (V 0) none (some (N 4)),some (.val 5,false),[]⟩,⟨none,.mov (L 7),some (.val 6,false),[]⟩,⟨none,.sstr (V 0) none (some (N 4)),some (.val 7,false),[]⟩,⟨none,.bin (.eql) (V 2) (V 0),some (.val 8,false),[]⟩,I (.pick (V 9) (.k (.c (.bool true))) (V 0)),F 12]) (.dreg 0 [A 13,I (.mov (V 0)),⟨none,.faddr 1 (L 9),some (.val 0,false),[]⟩,⟨none,.load 1 false (V 0),some (.val 1,false),[]⟩,⟨none,.mov (L 3),some (.val 2,false),[]⟩,⟨none,.iaddr 1 (V 1) (V 0),some (.val 3,false),[]⟩,⟨none,.load 1 false (V 0),some (.val 4,false),[]⟩,⟨none,.sstr (V 0) (some (N 4)) none,some (.val 5,false),[]⟩,⟨none,.mov (L 7),some (.val 6,false),[]⟩,⟨none,.sstr (V 0) (some (N 4)) none,some (.val 7,false),[]⟩,⟨none,.bin (.eql) (V 2) (V 0),some (.val 8,false),[]⟩,I (.pick (V 9) (.k (.c (.bool true))) (V 0)),F 13])) (.skip))))))))) (.reg [A 14,I (.bin (.add) (V 0) (N 1)),F 14]))
def ir72:IRF :=
 { slots:=[0,1,2,3,4,10,11,12,13,14,15,16,17,18,19,20,21,22,23,36,47,103,118,146,188,190],nparams:=5,results:=[.loc 5],body:=.seq (.reg [J 5 (.mov (.k (.c (.bool false))))]) (.seq (.reg [A 0,A 1,A 2,A 3,I (.call 93 [.val 3,.val 2,.val 1,.val 0]),F 6]) (.seq (.reg [A 3,A 4,I (.call 94 [.val 1,.val 0]),I (.mov (V 0)),I (.ext 0 (V 0)),I (.ext 1 (V 1)),J 7 (.mov (V 1)),J 8 (.mov (V 1))]) (.seq (.seq (.reg [A 8,J 19 (.bin (.eql) (V 0) (N 11))]) (.cond (L 19) (.seq (.reg [A 6,I (.bin (.eql) (V 0) (N 0)),F 5]) (.ret)) (.skip))) (.seq (.reg [A 1,A 2,I (.call 73 [.val 1,.val 0]),J 9 (.box (.k (.agg [.nils,.nils,.nils]))),I (.store 3 (V 0) (V 1))]) (.seq (.reg [A 0,I (.call 75 [.val 0]),F 10]) (.seq (.reg [J 11 (.mov (.k (.c (.bool false)))),J 12 (.mov (.k (.c (.bool false)))),J 13 (.mov (.k (.c (.bool false))))]) (.seq (.seq (.reg [J 14 (.mov (N 0))]) (.block 0 (.loop ir72_k1 ir72_l1))) (.seq (.seq (.reg [J 18 (.mov (N 0))]) (.block 2 (.loop ir72_k0 ir72_l0))) (.seq (.seq (.reg [A 8,J 25 (.bin (.eql) (V 0) (N 10))]) (.cond (L 25) (.seq (.reg [A 11,F 5]) (.ret)) (.skip))) (.seq (.reg [A 8,I (.bin (.eql) (V 0) (N 0)),I (.mov (V 0)),⟨none,.mov (L 12),some (.val 0,true),[]⟩,I (.pick (V 1) (V 0) (.k (.c (.bool false)))),I (.mov (V 0)),⟨none,.mov (L 13),some (.val 0,true),[]⟩,I (.pick (V 1) (V 0) (.k (.c (.bool false)))),F 5]) (.ret))))))))))) }
theorem ir72_of:zaw Tryz.prog [0,1,2,3,4,10,11,12,13,14,15,16,17,18,19,20,21,22,23,36,47,103,118,146,188,190] [[true,false,false,true,false,false,true,true,true,true,true,true,true,true,true,false,false,false,false,false,false,false,false,false,false,false],[true,false,false,true,false,false,false,false,true,true,false,true,true,true,false,false,false,false,true,false,false,false,false,false,false,false]] Tryz.f72=some ir72:=by kernel_rfl
def ir46_k0:List Bool:=[true,true,true,true,false,true,false,false,false]
def ir46_l0:IR:=.seq (.seq (.reg [A 5,A 1,J 7 (.bin (.lss) (V 1) (V 0))]) (.cond (L 7) (.skip) (.exit 0))) (.seq (.block 1 (.seq (.reg [A 0,A 1,A 2,A 5,A 3,A 5,E 1,D,I (.call 72 [.val 7,.val 6,.val 5,.val 4,.val 0]),J 8 (.un (.not) (V 0))]) (.cond (L 8) (.seq (.reg [A 5,I (.bin (.add) (V 0) (N 1)),F 4]) (.ret)) (.skip)))) (.reg [A 5,I (.bin (.add) (V 0) (N 1)),F 5]))
def ir46:IRF :=
 { slots:=[0,1,2,3,8,9,20,23,35],nparams:=4,results:=[.loc 4],body:=.seq (.reg [J 4 (.mov (N 0))]) (.seq (.seq (.reg [A 0,A 1,A 2,I (.call 47 [.val 2,.val 1,.val 0]),I (.bin (.neq) (V 0) (N 0)),I (.mov (V 0)),⟨none,.mov (L 3),some (.val 0,false),[]⟩,⟨none,.len (.sl) (V 0),some (.val 1,false),[]⟩,⟨none,.mov (L 1),some (.val 2,false),[]⟩,⟨none,.bin (.neq) (V 1) (V 0),some (.val 3,false),[]⟩,J 6 (.pick (V 4) (.k (.c (.bool true))) (V 0))]) (.cond (L 6) (.seq (.reg [J 4 (.mov (N (-1)))]) (.ret)) (.skip))) (.seq (.seq (.reg [J 5 (.mov (N 0))]) (.block 0 (.loop ir46_k0 ir46_l0))) (.seq (.reg [J 4 (.mov (N 0))]) (.ret)))) }
theorem ir46_of:zaw Tryz.prog [0,1,2,3,8,9,20,23,35] [[true,true,true,true,false,true,false,false,false]] Tryz.f46=some ir46:=by kernel_rfl
def ir25_k0:List Bool:=[true,false,true,true,true,false]
def ir25_l0:IR:=.seq (.seq (.reg [A 4,A 3,I (.len (.sl) (V 0)),J 5 (.bin (.lss) (V 2) (V 0))]) (.cond (L 5) (.skip) (.exit 0))) (.seq (.block 1 (.reg [A 2,A 3,A 4,E 1,D,I (.b2s (V 0)),I (.bsl 1 [.str []] [(0,1,.val 0)]),I (.app 1 16 (V 6) (V 0)),F 2])) (.reg [A 4,I (.bin (.add) (V 0) (N 1)),F 4]))
def ir25:IRF :=
 { slots:=[0,2,3,4,5,14],nparams:=1,results:=[.loc 1],body:=.seq (.reg [J 1 (.mov (.k (.c (.bool false))))]) (.seq (.reg [J 2 (.mov (.k (.c (.nils))))]) (.seq (.reg [A 0,B,C 0,D,I (.call 15 [.val 0]),F 3]) (.seq (.seq (.reg [J 4 (.mov (N 0))]) (.block 0 (.loop ir25_k0 ir25_l0))) (.seq (.dreg 0 [A 0,B,C 0,D,I (.call 12 [.val 0]),A 0,B,C 1,C 0,⟨none,.load 1 false (V 0),none,[(none,[]),(some 4,[])]⟩,A 0,B,C 1,C 3,⟨none,.load 1 false (V 0),none,[(none,[]),(some 4,[])]⟩,A 2,I (.call 46 [.val 11,.val 6,.val 1,.val 0]),I (.bin (.eql) (V 0) (N 0)),F 1]) (.ret))))) }
theorem ir25_of:zaw Tryz.prog [0,2,3,4,5,14] [[true,false,true,true,true,false]] Tryz.f25=some ir25:=by kernel_rfl
def ir9:IRF :=
 { slots:=[0,1,2,3,4,46,54],nparams:=0,results:=[.loc 0],body:=.seq (.reg [J 0 (.mov (.k (.c (.bool false))))]) (.seq (.reg [I (.build [.int (.i64) 0,.int (.i64) 0,.int (.i64) 0,.int (.i64) 0] [(0,1,.k (.c (.int (.i64) 3))),(1,1,.k (.c (.int (.i64) 1))),(2,1,.k (.c (.int (.i64) 1))),(3,1,.k (.c (.int (.i64) 1)))]),I (.call 24 [.val 0]),F 1]) (.seq (.seq (.reg [A 1,I (.eq (.ptr) false (V 0) (.k (.c (.nilp)))),I (.mov (V 0)),⟨none,.mov (L 1),some (.val 0,false),[]⟩,⟨none,.build [.int (.i64) 0,.int (.i64) 0,.int (.i64) 0,.int (.i64) 0,.int (.i64) 0,.nils] [(0,1,.k (.c (.int (.i64) 1)))],some (.val 1,false),[]⟩,⟨none,.call 11 [.val 1,.k (.c (.int (.i64) 0)),.val 0],some (.val 2,false),[]⟩,⟨none,.un (.not) (V 0),some (.val 3,false),[]⟩,I (.pick (V 4) (.k (.c (.bool true))) (V 0)),I (.mov (V 0)),⟨none,.mov (L 1),some (.val 0,false),[]⟩,⟨none,.bsl 1 [.int (.u8) 0] [(0,1,.k (.c (.int (.u8) 107)))],some (.val 1,false),[]⟩,⟨none,.mark (V 0),some (.val 2,false),[]⟩,⟨none,.build [.int (.i64) 0,.int (.i64) 0,.int (.i64) 0,.int (.i64) 0,.int (.i64) 0,.nils] [(0,1,.k (.c (.int (.i64) 4))),(5,1,.val 0)],some (.val 3,false),[]⟩,⟨none,.call 11 [.val 3,.k (.c (.int (.i64) 0)),.val 0],some (.val 4,false),[]⟩,⟨none,.un (.not) (V 0),some (.val 5,false),[]⟩,I (.pick (V 6) (.k (.c (.bool true))) (V 0)),I (.mov (V 0)),⟨none,.mov (L 1),some (.val 0,false),[]⟩,⟨none,.build [.int (.i64) 0,.int (.i64) 0,.int (.i64) 0,.int (.i64) 0,.int (.i64) 0,.nils] [(0,1,.k (.c (.int (.i64) 5)))],some (.val 1,false),[]⟩,⟨none,.call 11 [.val 1,.k (.c (.int (.i64) 0)),.val 0],some (.val 2,false),[]⟩,⟨none,.un (.not) (V 0),some (.val 3,false),[]⟩,I (.pick (V 4) (.k (.c (.bool true))) (V 0)),I (.mov (V 0)),⟨none,.mov (L 1),some (.val 0,false),[]⟩,⟨none,.build [.int (.i64) 0,.int (.i64) 0,.int (.i64) 0,.int (.i64) 0,.int (.i64) 0,.nils] [(0,1,.k (.c (.int (.i64) 1)))],some (.val 1,false),[]⟩,⟨none,.call 11 [.val 1,.k (.c (.int (.i64) 0)),.val 0],some (.val 2,false),[]⟩,⟨none,.un (.not) (V 0),some (.val 3,false),[]⟩,I (.pick (V 4) (.k (.c (.bool true))) (V 0)),I (.mov (V 0)),⟨none,.mov (L 1),some (.val 0,false),[]⟩,⟨none,.build [.int (.i64) 0,.int (.i64) 0,.int (.i64) 0,.int (.i64) 0,.int (.i64) 0,.nils] [(0,1,.k (.c (.int (.i64) 6)))],some (.val 1,false),[]⟩,⟨none,.call 11 [.val 1,.k (.c (.int (.i64) 0)),.val 0],some (.val 2,false),[]⟩,⟨none,.un (.not) (V 0),some (.val 3,false),[]⟩,I (.pick (V 4) (.k (.c (.bool true))) (V 0)),I (.mov (V 0)),⟨none,.mov (L 1),some (.val 0,false),[]⟩,⟨none,.build [.int (.i64) 0,.int (.i64) 0,.int (.i64) 0,.int (.i64) 0,.int (.i64) 0,.int (.i64) 0,.int (.i64) 0,.int (.i64) 0,.int (.i64) 0,.nils,.nils] [(0,1,.k (.c (.int (.i64) 4)))],some (.val 1,false),[]⟩,⟨none,.call 14 [.val 1,.val 0],some (.val 2,false),[]⟩,⟨none,.un (.not) (V 0),some (.val 3,false),[]⟩,J 5 (.pick (V 4) (.k (.c (.bool true))) (V 0))]) (.cond (L 5) (.seq (.reg [J 0 (.mov (.k (.c (.bool false))))]) (.ret)) (.skip))) (.seq (.reg [A 1,B,C 0,D,I (.call 15 [.val 0]),F 2]) (.seq (.seq (.reg [A 2,I (.len (.sl) (V 0)),J 6 (.bin (.neq) (V 0) (N 3))]) (.cond (L 6) (.seq (.reg [J 0 (.mov (.k (.c (.bool false))))]) (.ret)) (.skip))) (.seq (.reg [A 2,I (.iaddr 1 (V 0) (N 0)),D,I (.call 16 [.k (.c (.int (.i64) 0)),.val 0]),I (.mov (V 0)),I (.ext 0 (V 0)),I (.ext 1 (V 1)),J 3 (.mov (V 1)),J 4 (.mov (V 1))]) (.seq (.reg [A 4,I (.bin (.eql) (V 0) (N 0)),I (.mov (V 0)),⟨none,.mov (L 3),some (.val 0,true),[]⟩,⟨none,.len (.sl) (V 0),some (.val 1,true),[]⟩,⟨none,.bin (.gtr) (V 0) (N 0),some (.val 2,true),[]⟩,I (.pick (V 3) (V 0) (.k (.c (.bool false)))),I (.mov (V 0)),⟨none,.mov (L 3),some (.val 0,true),[]⟩,⟨none,.iaddr 1 (V 0) (N 0),some (.val 1,true),[]⟩,⟨none,.load 1 false (V 0),some (.val 2,true),[]⟩,⟨none,.bin (.eql) (V 0) (.k (.c (.int (.u8) 107))),some (.val 3,true),[]⟩,I (.pick (V 4) (V 0) (.k (.c (.bool false)))),I (.mov (V 0)),⟨none,.mov (L 1),some (.val 0,true),[]⟩,⟨none,.call 26 [.val 0],some (.val 1,true),[]⟩,I (.pick (V 2) (V 0) (.k (.c (.bool false)))),I (.mov (V 0)),⟨none,.mov (L 1),some (.val 0,true),[]⟩,⟨none,.call 25 [.val 0],some (.val 1,true),[]⟩,I (.pick (V 2) (V 0) (.k (.c (.bool false)))),F 0]) (.ret))))))) }
theorem ir9_of:zaw Tryz.prog [0,1,2,3,4,46,54] [] Tryz.f9=some ir9:=by kernel_rfl
def ir10_k0:List Bool:=[true,false,true,true,false,false]
def ir10_l0:IR:=.seq (.seq (.reg [A 2,I (.eq (.ptr) true (V 0) (.k (.c (.nilp)))),I (.mov (V 0)),⟨none,.mov (L 3),some (.val 0,true),[]⟩,⟨none,.mov (L 0),some (.val 1,true),[]⟩,⟨none,.bin (.lss) (V 1) (V 0),some (.val 2,true),[]⟩,J 4 (.pick (V 3) (V 0) (.k (.c (.bool false))))]) (.cond (L 4) (.skip) (.exit 0))) (.seq (.block 1 (.seq (.reg [A 2,A 3,I (.bin (.rem) (V 0) (N 3)),I (.build [.int (.i64) 0,.int (.i64) 0,.int (.i64) 0,.int (.i64) 0,.int (.i64) 0,.nils] [(0,1,.k (.c (.int (.i64) 1)))]),I (.call 11 [.val 3,.val 1,.val 0]),I (.un (.not) (V 0)),I (.mov (V 0)),⟨none,.mov (L 2),some (.val 0,false),[]⟩,⟨none,.mov (L 3),some (.val 1,false),[]⟩,⟨none,.bin (.rem) (V 0) (N 3),some (.val 2,false),[]⟩,⟨none,.mov (L 3),some (.val 3,false),[]⟩,⟨none,.bin (.add) (N 97) (V 0),some (.val 4,false),[]⟩,⟨none,.conv (.u8) (V 0),some (.val 5,false),[]⟩,⟨none,.bsl 1 [.int (.u8) 0] [(0,1,.val 0)],some (.val 6,false),[]⟩,⟨none,.build [.int (.i64) 0,.int (.i64) 0,.int (.i64) 0,.int (.i64) 0,.int (.i64) 0,.nils] [(0,1,.k (.c (.int (.i64) 4))),(5,1,.val 0)],some (.val 7,false),[]⟩,⟨none,.call 11 [.val 7,.val 5,.val 0],some (.val 8,false),[]⟩,⟨none,.un (.not) (V 0),some (.val 9,false),[]⟩,I (.pick (V 10) (.k (.c (.bool true))) (V 0)),I (.mov (V 0)),⟨none,.mov (L 2),some (.val 0,false),[]⟩,⟨none,.mov (L 3),some (.val 1,false),[]⟩,⟨none,.bin (.rem) (V 0) (N 3),some (.val 2,false),[]⟩,⟨none,.build [.int (.i64) 0,.int (.i64) 0,.int (.i64) 0,.int (.i64) 0,.int (.i64) 0,.nils] [(0,1,.k (.c (.int (.i64) 5)))],some (.val 3,false),[]⟩,⟨none,.call 11 [.val 3,.val 1,.val 0],some (.val 4,false),[]⟩,⟨none,.un (.not) (V 0),some (.val 5,false),[]⟩,J 5 (.pick (V 6) (.k (.c (.bool true))) (V 0))]) (.cond (L 5) (.seq (.reg [J 1 (.mov (.k (.c (.nilp))))]) (.ret)) (.skip)))) (.reg [A 3,I (.bin (.add) (V 0) (N 1)),F 3]))
def ir10:IRF :=
 { slots:=[0,2,3,4,13,41],nparams:=1,results:=[.loc 1],body:=.seq (.reg [J 1 (.mov (.k (.c (.nilp))))]) (.seq (.reg [I (.build [.int (.i64) 0,.int (.i64) 0,.int (.i64) 0,.int (.i64) 0] [(0,1,.k (.c (.int (.i64) 8))),(1,1,.k (.c (.int (.i64) 6))),(2,1,.k (.c (.int (.i64) 3))),(3,1,.k (.c (.int (.i64) 3)))]),I (.call 24 [.val 0]),F 2]) (.seq (.seq (.reg [J 3 (.mov (N 0))]) (.block 0 (.loop ir10_k0 ir10_l0))) (.seq (.reg [A 2,F 1]) (.ret)))) }
theorem ir10_of:zaw Tryz.prog [0,2,3,4,13,41] [[true,false,true,true,false,false]] Tryz.f10=some ir10:=by kernel_rfl
def ir38:IRF :=
 { slots:=[0,2],nparams:=1,results:=[.loc 1],body:=.seq (.reg [J 1 (.mov (.k (.c (.bool false))))]) (.seq (.reg [A 0,I (.eq (.ptr) false (V 0) (.k (.c (.nilp)))),I (.mov (V 0)),⟨none,.mov (L 0),some (.val 0,false),[]⟩,⟨none,.nilchk (V 0),some (.val 1,false),[]⟩,⟨none,.faddr 22 (V 0),some (.val 2,false),[]⟩,⟨none,.load 1 false (V 0),some (.val 3,false),[]⟩,I (.pick (V 4) (.k (.c (.bool true))) (V 0)),F 1]) (.ret)) }
theorem ir38_of:zaw Tryz.prog [0,2] [] Tryz.f38=some ir38:=by kernel_rfl
def ir59_k0:List Bool:=[true,false,false,true,false,true,true,true,false,false]
def ir59_l0:IR:=.seq (.seq (.reg [A 7,A 6,I (.len (.sl) (V 0)),J 9 (.bin (.lss) (V 2) (V 0))]) (.cond (L 9) (.skip) (.exit 0))) (.seq (.block 1 (.dreg 0 [I (.load 3 true (L 5)),A 0,A 6,A 7,E 1,D,I (.iaddr 14 (V 4) (V 0)),I (.load 14 true (V 0)),I (.call 76 [.val 7,.val 0])])) (.reg [A 7,I (.bin (.add) (V 0) (N 1)),F 7]))
def ir59:IRF :=
 { slots:=[0,1,2,6,7,8,9,10,15,25],nparams:=3,results:=[.cell 3 3 true,.loc 4],body:=.seq (.reg [J 3 (.box (.k (.agg [.nils,.nils,.nils]))),J 4 (.mov (.k (.c (.bool false))))]) (.seq (.seq (.reg [A 0,A 1,A 2,I (.call 47 [.val 2,.val 1,.val 0]),J 8 (.bin (.neq) (V 0) (N 0))]) (.cond (L 8) (.seq (.reg [I (.build [.nils,.nils,.nils] []),I (.store 3 (L 3) (V 0)),J 4 (.mov (.k (.c (.bool false))))]) (.ret)) (.skip))) (.seq (.reg [A 1,A 2,I (.call 73 [.val 1,.val 0]),J 5 (.box (.k (.agg [.nils,.nils,.nils]))),I (.store 3 (V 0) (V 1))]) (.seq (.reg [A 0,I (.call 75 [.val 0]),F 6]) (.seq (.seq (.reg [J 7 (.mov (N 0))]) (.block 0 (.loop ir59_k0 ir59_l0))) (.seq (.reg [I (.load 3 true (L 5)),I (.store 3 (L 3) (V 0)),J 4 (.mov (.k (.c (.bool true))))]) (.ret)))))) }
theorem ir59_of:zaw Tryz.prog [0,1,2,6,7,8,9,10,15,25] [[true,false,false,true,false,true,true,true,false,false]] Tryz.f59=some ir59:=by kernel_rfl
def ir39:IRF :=
 { slots:=[0,2,3],nparams:=1,results:=[.cell 1 3 true,.loc 2],body:=.seq (.reg [J 1 (.box (.k (.agg [.nils,.nils,.nils]))),J 2 (.mov (.k (.c (.bool false))))]) (.seq (.dreg 0 [A 0,B,C 0,D,I (.call 12 [.val 0]),A 0,B,C 1,C 0,⟨none,.load 1 false (V 0),none,[(none,[]),(some 4,[])]⟩,A 0,B,C 1,C 3,⟨none,.load 1 false (V 0),none,[(none,[]),(some 4,[])]⟩,I (.call 59 [.val 10,.val 5,.val 0]),I (.ext 0 (V 0)),I (.ext 1 (V 1)),I (.store 3 (L 1) (V 1)),J 2 (.mov (V 1))]) (.ret)) }
theorem ir39_of:zaw Tryz.prog [0,2,3] [] Tryz.f39=some ir39:=by kernel_rfl
def ir40:IRF :=
 { slots:=[0,2],nparams:=1,results:=[.loc 1],body:=.seq (.reg [J 1 (.mov (.k (.c (.bool false))))]) (.seq (.reg [A 0,I (.eq (.ptr) true (V 0) (.k (.c (.nilp)))),I (.mov (V 0)),⟨none,.mov (L 0),some (.val 0,true),[]⟩,⟨none,.nilchk (V 0),some (.val 1,true),[]⟩,⟨none,.faddr 20 (V 0),some (.val 2,true),[]⟩,⟨none,.load 1 false (V 0),some (.val 3,true),[]⟩,⟨none,.mov (V 0),some (.val 4,true),[]⟩,⟨none,.mov (L 0),some (.val 0,false),[]⟩,⟨none,.nilchk (V 0),some (.val 1,false),[]⟩,⟨none,.faddr 21 (V 0),some (.val 2,false),[]⟩,⟨none,.load 1 false (V 0),some (.val 3,false),[]⟩,⟨none,.pick (V 4) (.k (.c (.bool true))) (V 0),some (.val 9,true),[]⟩,I (.pick (V 10) (V 0) (.k (.c (.bool false)))),F 1]) (.ret)) }
theorem ir40_of:zaw Tryz.prog [0,2] [] Tryz.f40=some ir40:=by kernel_rfl
def ir20_k0:List Bool:=[true,false,true,false,true,false,true,false,false,true,false,false,false,false,false,false,false,false,false,false,false,false,false]
def ir20_l0:IR:=.seq (.seq (.reg [A 9,A 0,B,C 1,C 0,D,J 19 (.bin (.lss) (V 5) (V 0))]) (.cond (L 19) (.skip) (.exit 2))) (.seq (.block 3 (.seq (.reg [I (.load 3 true (L 2)),A 9,I (.call 41 [.val 1,.val 0]),F 10]) (.seq (.seq (.reg [A 10,J 20 (.bin (.eql) (V 0) (N 0))]) (.cond (L 20) (.exit 3) (.skip))) (.seq (.seq (.reg [A 6,A 9,E 1,D,J 21 (.bin (.eql) (V 0) (N 0))]) (.cond (L 21) (.seq (.reg [J 1 (.mov (.k (.c (.bool false))))]) (.ret)) (.skip))) (.seq (.reg [A 4,A 6,A 9,E 1,D,I (.bin (.sub) (V 0) (N 1)),I (.iaddr 5 (V 5) (V 0)),I (.load 5 true (V 0)),J 11 (.box (.k (.agg [.int (.i64) 0,.int (.i64) 0,.int (.i64) 0,.int (.i64) 0,.bool false]))),I (.store 5 (V 0) (V 1))]) (.seq (.reg [I (.faddr 0 (L 11)),D,I (.bin (.neq) (V 0) (N 1)),I (.mov (V 0)),⟨none,.faddr 0 (L 11),some (.val 0,true),[]⟩,⟨none,.load 1 false (V 0),some (.val 1,true),[]⟩,⟨none,.bin (.neq) (V 0) (N 2),some (.val 2,true),[]⟩,I (.pick (V 3) (V 0) (.k (.c (.bool false)))),I (.mov (V 0)),⟨none,.faddr 2 (L 11),some (.val 0,false),[]⟩,⟨none,.load 1 false (V 0),some (.val 1,false),[]⟩,⟨none,.mov (L 10),some (.val 2,false),[]⟩,⟨none,.bin (.lss) (V 1) (V 0),some (.val 3,false),[]⟩,J 22 (.pick (V 4) (.k (.c (.bool true))) (V 0))]) (.cond (L 22) (.seq (.reg [J 1 (.mov (.k (.c (.bool false))))]) (.ret)) (.skip)))))))) (.reg [A 9,I (.bin (.add) (V 0) (N 1)),F 9]))
def ir20_k1:List Bool:=[true,false,true,false,true,true,true,true,false,false,false,false,false,false,false,false,false,false,false,false,false,false,false]
def ir20_l1:IR:=.seq (.seq (.reg [A 7,A 4,I (.len (.sl) (V 0)),J 14 (.bin (.lss) (V 2) (V 0))]) (.cond (L 14) (.skip) (.exit 0))) (.seq (.block 1 (.seq (.seq (.reg [A 4,A 7,E 5,C 0,D,J 15 (.bin (.eql) (V 0) (N 4))]) (.cond (L 15) (.exit 1) (.skip))) (.seq (.reg [A 5,I (.bin (.add) (V 0) (N 1)),F 5]) (.seq (.reg [A 4,A 7,E 5,C 1,D,F 8]) (.seq (.reg [A 8,J 16 (.bin (.neq) (V 0) (N (-1)))]) (.cond (L 16) (.seq (.seq (.reg [A 8,I (.bin (.lss) (V 0) (N 0)),I (.mov (V 0)),⟨none,.mov (L 8),some (.val 0,false),[]⟩,⟨none,.mov (L 0),some (.val 1,false),[]⟩,⟨none,.nilchk (V 0),some (.val 2,false),[]⟩,⟨none,.faddr 1 (V 0),some (.val 3,false),[]⟩,⟨none,.faddr 0 (V 0),some (.val 4,false),[]⟩,⟨none,.load 1 false (V 0),some (.val 5,false),[]⟩,⟨none,.bin (.geq) (V 5) (V 0),some (.val 6,false),[]⟩,I (.pick (V 7) (.k (.c (.bool true))) (V 0)),I (.mov (V 0)),⟨none,.mov (L 6),some (.val 0,false),[]⟩,⟨none,.mov (L 8),some (.val 1,false),[]⟩,⟨none,.iaddr 1 (V 1) (V 0),some (.val 2,false),[]⟩,⟨none,.load 1 false (V 0),some (.val 3,false),[]⟩,⟨none,.bin (.neq) (V 0) (N 0),some (.val 4,false),[]⟩,J 17 (.pick (V 5) (.k (.c (.bool true))) (V 0))]) (.cond (L 17) (.seq (.reg [J 1 (.mov (.k (.c (.bool false))))]) (.ret)) (.skip))) (.reg [A 6,A 8,A 7,I (.bin (.add) (V 0) (N 1)),I (.iaddr 1 (V 3) (V 2)),I (.store 1 (V 0) (V 1))])) (.skip))))))) (.reg [A 7,I (.bin (.add) (V 0) (N 1)),F 7]))
def ir20:IRF :=
 { slots:=[0,2,3,4,5,6,7,8,9,10,11,12,17,36,46,54,63,81,113,120,127,132,154],nparams:=1,results:=[.loc 1],body:=.seq (.reg [J 1 (.mov (.k (.c (.bool false))))]) (.seq (.seq (.reg [A 0,B,C 0,D,J 12 (.call 38 [.val 0])]) (.cond (L 12) (.seq (.reg [A 0,I (.call 26 [.val 0]),F 1]) (.ret)) (.skip))) (.seq (.reg [A 0,I (.call 39 [.val 0]),I (.mov (V 0)),I (.ext 0 (V 0)),I (.ext 1 (V 1)),J 2 (.box (.k (.agg [.nils,.nils,.nils]))),I (.store 3 (V 0) (V 2)),J 3 (.mov (V 2))]) (.seq (.reg [A 0,B,C 0,D,I (.call 31 [.val 0]),F 4]) (.seq (.seq (.reg [A 3,I (.un (.not) (V 0)),I (.mov (V 0)),⟨none,.mov (L 4),some (.val 0,false),[]⟩,⟨none,.len (.sl) (V 0),some (.val 1,false),[]⟩,⟨none,.bin (.gtr) (V 0) (N 32),some (.val 2,false),[]⟩,J 13 (.pick (V 3) (.k (.c (.bool true))) (V 0))]) (.cond (L 13) (.seq (.reg [J 1 (.mov (.k (.c (.bool false))))]) (.ret)) (.skip))) (.seq (.reg [J 5 (.mov (N 0))]) (.seq (.reg [A 0,B,C 1,C 0,D,I (.mks 1 [.int (.i64) 0] (V 0) (V 0)),F 6]) (.seq (.seq (.reg [J 7 (.mov (N 0))]) (.block 0 (.loop ir20_k1 ir20_l1))) (.seq (.seq (.reg [A 5,A 0,B,C 0,D,I (.call 18 [.val 0]),I (.bin (.neq) (V 5) (V 0)),I (.mov (V 0)),⟨none,.mov (L 5),some (.val 0,false),[]⟩,⟨none,.bin (.gtr) (V 0) (N 32),some (.val 1,false),[]⟩,I (.pick (V 2) (.k (.c (.bool true))) (V 0)),I (.mov (V 0)),⟨none,.mov (L 0),some (.val 0,false),[]⟩,⟨none,.nilchk (V 0),some (.val 1,false),[]⟩,⟨none,.faddr 0 (V 0),some (.val 2,false),[]⟩,⟨none,.load 1 false (V 0),some (.val 3,false),[]⟩,⟨none,.call 40 [.val 0],some (.val 4,false),[]⟩,⟨none,.un (.not) (V 0),some (.val 5,false),[]⟩,⟨none,.mov (V 0),some (.val 6,false),[]⟩,⟨none,.mov (L 5),some (.val 0,true),[]⟩,⟨none,.mov (L 0),some (.val 1,true),[]⟩,⟨none,.nilchk (V 0),some (.val 2,true),[]⟩,⟨none,.faddr 7 (V 0),some (.val 3,true),[]⟩,⟨none,.load 1 false (V 0),some (.val 4,true),[]⟩,⟨none,.bin (.neq) (V 4) (V 0),some (.val 5,true),[]⟩,⟨none,.pick (V 6) (V 0) (.k (.c (.bool false))),some (.val 13,false),[]⟩,J 18 (.pick (V 14) (.k (.c (.bool true))) (V 0))]) (.cond (L 18) (.seq (.reg [J 1 (.mov (.k (.c (.bool false))))]) (.ret)) (.skip))) (.seq (.seq (.reg [J 9 (.mov (N 0))]) (.block 2 (.loop ir20_k0 ir20_l0))) (.seq (.reg [J 1 (.mov (.k (.c (.bool true))))]) (.ret))))))))))) }
theorem ir20_of:zaw Tryz.prog [0,2,3,4,5,6,7,8,9,10,11,12,17,36,46,54,63,81,113,120,127,132,154] [[true,false,true,false,true,true,true,true,false,false,false,false,false,false,false,false,false,false,false,false,false,false,false],[true,false,true,false,true,false,true,false,false,true,false,false,false,false,false,false,false,false,false,false,false,false,false]] Tryz.f20=some ir20:=by kernel_rfl
def ir36_k0:List Bool:=[true,false,true,true,true,true,false,false,false,false]
def ir36_l0:IR:=.seq (.seq (.reg [A 5,A 2,A 3,E 14,C 13,D,I (.bin (.leq) (V 5) (V 0)),I (.mov (V 0)),⟨none,.mov (L 5),some (.val 0,true),[]⟩,⟨none,.mov (L 0),some (.val 1,true),[]⟩,⟨none,.nilchk (V 0),some (.val 2,true),[]⟩,⟨none,.faddr 5 (V 0),some (.val 3,true),[]⟩,⟨none,.load 1 false (V 0),some (.val 4,true),[]⟩,⟨none,.len (.sl) (V 0),some (.val 5,true),[]⟩,⟨none,.bin (.lss) (V 5) (V 0),some (.val 6,true),[]⟩,J 8 (.pick (V 7) (V 0) (.k (.c (.bool false))))]) (.cond (L 8) (.skip) (.exit 2))) (.seq (.block 3 (.reg [A 4,I (.mov (V 0)),⟨none,.mov (L 0),some (.val 0,false),[]⟩,⟨none,.nilchk (V 0),some (.val 1,false),[]⟩,⟨none,.faddr 5 (V 0),some (.val 2,false),[]⟩,⟨none,.load 1 false (V 0),some (.val 3,false),[]⟩,⟨none,.mov (L 5),some (.val 4,false),[]⟩,⟨none,.iaddr 1 (V 1) (V 0),some (.val 5,false),[]⟩,⟨none,.load 1 false (V 0),some (.val 6,false),[]⟩,I (.pick (V 7) (.k (.c (.bool true))) (V 0)),F 4])) (.reg [A 5,I (.bin (.add) (V 0) (N 1)),F 5]))
def ir36_k1:List Bool:=[true,false,true,true,false,false,false,false,false,false]
def ir36_l1:IR:=.seq (.seq (.reg [A 3,A 2,I (.len (.sl) (V 0)),J 6 (.bin (.lss) (V 2) (V 0))]) (.cond (L 6) (.skip) (.exit 0))) (.seq (.block 1 (.seq (.seq (.reg [A 2,A 3,E 14,C 7,C 0,D,I (.bin (.neq) (V 0) (N 8)),I (.mov (V 0)),⟨none,.mov (L 2),some (.val 0,false),[]⟩,⟨none,.mov (L 3),some (.val 1,false),[]⟩,⟨none,.iaddr 14 (V 1) (V 0),some (.val 2,false),[]⟩,⟨none,.faddr 13 (V 0),some (.val 3,false),[]⟩,⟨none,.load 1 false (V 0),some (.val 4,false),[]⟩,⟨none,.bin (.eql) (V 0) (N 0),some (.val 5,false),[]⟩,J 7 (.pick (V 6) (.k (.c (.bool true))) (V 0))]) (.cond (L 7) (.exit 1) (.skip))) (.seq (.reg [J 4 (.mov (.k (.c (.bool false))))]) (.seq (.seq (.reg [A 2,A 3,E 14,C 11,D,I (.bin (.sub) (V 0) (N 1)),I (.mx [.k (.c (.int (.i64) 0)),.val 0]),F 5]) (.block 2 (.loop ir36_k0 ir36_l0))) (.seq (.reg [A 4,J 9 (.un (.not) (V 0))]) (.cond (L 9) (.seq (.reg [J 1 (.mov (.k (.c (.bool false))))]) (.ret)) (.skip))))))) (.reg [A 3,I (.bin (.add) (V 0) (N 1)),F 3]))
def ir36:IRF :=
 { slots:=[0,2,3,4,5,6,15,32,55,69],nparams:=1,results:=[.loc 1],body:=.seq (.reg [J 1 (.mov (.k (.c (.bool false))))]) (.seq (.reg [A 0,B,C 0,D,I (.call 12 [.val 0]),F 2]) (.seq (.seq (.reg [J 3 (.mov (N 0))]) (.block 0 (.loop ir36_k1 ir36_l1))) (.seq (.reg [J 1 (.mov (.k (.c (.bool true))))]) (.ret)))) }
theorem ir36_of:zaw Tryz.prog [0,2,3,4,5,6,15,32,55,69] [[true,false,true,true,false,false,false,false,false,false],[true,false,true,true,true,true,false,false,false,false]] Tryz.f36=some ir36:=by kernel_rfl
def ir37:IRF :=
 { slots:=[0,2,4],nparams:=1,results:=[.loc 1],body:=.seq (.reg [J 1 (.mov (N 0))]) (.seq (.seq (.reg [A 0,J 2 (.eq (.ptr) false (V 0) (.k (.c (.nilp))))]) (.cond (L 2) (.seq (.reg [J 1 (.mov (N 0))]) (.ret)) (.skip))) (.seq (.reg [A 0,B,C 18,D,F 1]) (.ret))) }
theorem ir37_of:zaw Tryz.prog [0,2,4] [] Tryz.f37=some ir37:=by kernel_rfl
def ir17:IRF :=
 { slots:=[0,2],nparams:=1,results:=[.loc 1],body:=.seq (.reg [J 1 (.mov (.k (.c (.bool false))))]) (.seq (.dreg 0 [A 0,I (.call 26 [.val 0]),I (.mov (V 0)),⟨none,.mov (L 0),some (.val 0,true),[]⟩,⟨none,.call 25 [.val 0],some (.val 1,true),[]⟩,I (.pick (V 2) (V 0) (.k (.c (.bool false)))),I (.mov (V 0)),⟨none,.mov (L 0),some (.val 0,true),[]⟩,⟨none,.call 20 [.val 0],some (.val 1,true),[]⟩,I (.pick (V 2) (V 0) (.k (.c (.bool false)))),I (.mov (V 0)),⟨none,.mov (L 0),some (.val 0,true),[]⟩,⟨none,.call 36 [.val 0],some (.val 1,true),[]⟩,I (.pick (V 2) (V 0) (.k (.c (.bool false)))),I (.mov (V 0)),⟨none,.mov (L 0),some (.val 0,true),[]⟩,⟨none,.nilchk (V 0),some (.val 1,true),[]⟩,⟨none,.faddr 0 (V 0),some (.val 2,true),[]⟩,⟨none,.load 1 false (V 0),some (.val 3,true),[]⟩,⟨none,.call 37 [.val 0],some (.val 4,true),[]⟩,⟨none,.mov (L 0),some (.val 5,true),[]⟩,⟨none,.nilchk (V 0),some (.val 6,true),[]⟩,⟨none,.faddr 5 (V 0),some (.val 7,true),[]⟩,⟨none,.load 1 false (V 0),some (.val 8,true),[(some 12,[]),(some 19,[])]⟩,⟨none,.len (.sl) (V 0),some (.val 9,true),[(some 12,[]),(some 19,[])]⟩,⟨none,.bin (.sub) (V 0) (N 1),some (.val 10,true),[]⟩,⟨none,.bin (.eql) (V 6) (V 0),some (.val 11,true),[]⟩,I (.pick (V 12) (V 0) (.k (.c (.bool false)))),F 1]) (.ret)) }
theorem ir17_of:zaw Tryz.prog [0,2] [] Tryz.f17=some ir17:=by kernel_rfl
def ir6_k0:List Bool:=[false,false,true,false,false,false,false,true,true,false,false,false,false,false,false,false,false,false,false,false]
def ir6_l0:IR:=.seq (.seq (.reg [A 8,J 18 (.bin (.lss) (V 0) (N 3))]) (.cond (L 18) (.skip) (.exit 8))) (.seq (.block 9 (.seq (.reg [A 7,A 8,I (.bin (.add) (N 9) (V 0)),I (.iaddr 14 (V 2) (V 0)),C 7,C 0,D,I (.bin (.neq) (V 0) (N 0)),I (.mov (V 0)),⟨none,.mov (L 7),some (.val 0,false),[]⟩,⟨none,.mov (L 8),some (.val 1,false),[]⟩,⟨none,.bin (.add) (N 12) (V 0),some (.val 2,false),[]⟩,⟨none,.iaddr 14 (V 2) (V 0),some (.val 3,false),[]⟩,⟨none,.faddr 7 (V 0),some (.val 4,false),[]⟩,⟨none,.faddr 0 (V 0),some (.val 5,false),[]⟩,⟨none,.load 1 false (V 0),some (.val 6,false),[]⟩,⟨none,.bin (.neq) (V 0) (N 0),some (.val 7,false),[]⟩,I (.pick (V 8) (.k (.c (.bool true))) (V 0)),I (.mov (V 0)),⟨none,.mov (L 7),some (.val 0,false),[]⟩,⟨none,.mov (L 8),some (.val 1,false),[]⟩,⟨none,.bin (.add) (N 12) (V 0),some (.val 2,false),[]⟩,⟨none,.iaddr 14 (V 2) (V 0),some (.val 3,false),[]⟩,⟨none,.faddr 7 (V 0),some (.val 4,false),[]⟩,⟨none,.faddr 3 (V 0),some (.val 5,false),[]⟩,⟨none,.load 1 false (V 0),some (.val 6,false),[]⟩,⟨none,.b2s (V 0),some (.val 7,false),[]⟩,⟨none,.bin (.neq) (V 0) (.k (.c (.str [98]))),some (.val 8,false),[]⟩,J 19 (.pick (V 9) (.k (.c (.bool true))) (V 0))]) (.cond (L 19) (.seq (.reg [J 1 (.mov (.k (.c (.bool false))))]) (.ret)) (.skip)))) (.reg [A 8,I (.bin (.add) (V 0) (N 1)),F 8]))
def ir6_k1:List Bool:=[false,false,true,false,false,false,true,false,false,false,false,false,false,false,false,false,false,false,false,false]
def ir6_l1:IR:=.seq (.seq (.reg [A 6,J 15 (.bin (.lss) (V 0) (N 3))]) (.cond (L 15) (.skip) (.exit 6))) (.seq (.block 7 (.seq (.reg [A 2,A 6,I (.build [.int (.i64) 0,.int (.i64) 0,.int (.i64) 0,.int (.i64) 0,.int (.i64) 0,.nils] [(0,1,.k (.c (.int (.i64) 3))),(4,1,.k (.c (.int (.i64) 1)))]),I (.call 11 [.val 2,.val 1,.val 0]),J 16 (.un (.not) (V 0))]) (.cond (L 16) (.seq (.reg [J 1 (.mov (.k (.c (.bool false))))]) (.ret)) (.skip)))) (.reg [A 6,I (.bin (.add) (V 0) (N 1)),F 6]))
def ir6_k2:List Bool:=[false,false,true,false,false,true,false,false,false,false,false,false,false,false,false,false,false,false,false,false]
def ir6_l2:IR:=.seq (.seq (.reg [A 5,A 2,B,C 1,I (.load 4 true (V 0)),I (.call 21 [.val 0,.k (.c (.int (.i64) 3))]),I (.bin (.lss) (V 5) (V 0)),I (.mov (V 0)),⟨none,.mov (L 2),some (.val 0,true),[]⟩,⟨none,.nilchk (V 0),some (.val 1,true),[]⟩,⟨none,.faddr 0 (V 0),some (.val 2,true),[]⟩,⟨none,.load 1 false (V 0),some (.val 3,true),[]⟩,⟨none,.call 22 [.val 0,.k (.c (.int (.i64) 0))],some (.val 4,true),[]⟩,⟨none,.mov (V 0),some (.val 5,true),[]⟩,⟨none,.mov (L 2),some (.val 0,false),[]⟩,⟨none,.nilchk (V 0),some (.val 1,false),[]⟩,⟨none,.faddr 0 (V 0),some (.val 2,false),[]⟩,⟨none,.load 1 false (V 0),some (.val 3,false),[]⟩,⟨none,.call 22 [.val 0,.k (.c (.int (.i64) 1))],some (.val 4,false),[]⟩,⟨none,.pick (V 5) (.k (.c (.bool true))) (V 0),some (.val 11,true),[]⟩,⟨none,.mov (V 0),some (.val 12,true),[]⟩,⟨none,.mov (L 2),some (.val 0,false),[]⟩,⟨none,.nilchk (V 0),some (.val 1,false),[]⟩,⟨none,.faddr 0 (V 0),some (.val 2,false),[]⟩,⟨none,.load 1 false (V 0),some (.val 3,false),[]⟩,⟨none,.call 22 [.val 0,.k (.c (.int (.i64) 2))],some (.val 4,false),[]⟩,⟨none,.pick (V 5) (.k (.c (.bool true))) (V 0),some (.val 18,true),[]⟩,J 14 (.pick (V 19) (V 0) (.k (.c (.bool false))))]) (.cond (L 14) (.skip) (.exit 4))) (.seq (.block 5 (.reg [A 2,I (.call 23 [.val 0])])) (.reg [A 5,I (.bin (.add) (V 0) (N 1)),F 5]))
def ir6_k3:List Bool:=[true,false,true,false,true,false,false,false,false,false,false,false,false,false,false,false,false,false,false,false]
def ir6_l3:IR:=.seq (.seq (.reg [A 4,A 0,I (.len (.sl) (V 0)),I (.bin (.lss) (V 2) (V 0)),I (.mov (V 0)),⟨none,.mov (L 4),some (.val 0,true),[]⟩,⟨none,.bin (.lss) (V 0) (N 200),some (.val 1,true),[]⟩,J 12 (.pick (V 2) (V 0) (.k (.c (.bool false))))]) (.cond (L 12) (.skip) (.exit 2))) (.seq (.block 3 (.seq (.reg [A 2,A 0,A 4,E 1,D,I (.build [.int (.i64) 0,.int (.i64) 0,.int (.i64) 0,.int (.i64) 0,.int (.i64) 0,.int (.i64) 0,.int (.i64) 0,.int (.i64) 0,.int (.i64) 0,.nils,.nils] [(0,1,.k (.c (.int (.i64) 2))),(2,1,.val 0)]),I (.call 14 [.val 5,.val 0])]) (.seq (.reg [A 4,I (.bin (.rem) (V 0) (N 5)),I (.bin (.eql) (V 0) (N 0)),I (.mov (V 0)),⟨none,.mov (L 2),some (.val 0,true),[]⟩,⟨none,.call 20 [.val 0],some (.val 1,true),[]⟩,⟨none,.un (.not) (V 0),some (.val 2,true),[]⟩,J 13 (.pick (V 3) (V 0) (.k (.c (.bool false))))]) (.cond (L 13) (.seq (.reg [J 1 (.mov (.k (.c (.bool false))))]) (.ret)) (.skip))))) (.reg [A 4,I (.bin (.add) (V 0) (N 1)),F 4]))
def ir6_k4:List Bool:=[true,false,true,true,false,false,false,false,false,false,false,false,false,false,false,false,false,false,false,false]
def ir6_l4:IR:=.seq (.seq (.reg [A 3,J 10 (.bin (.lss) (V 0) (N 3))]) (.cond (L 10) (.skip) (.exit 0))) (.seq (.block 1 (.seq (.reg [A 2,A 3,I (.build [.int (.i64) 0,.int (.i64) 0,.int (.i64) 0,.int (.i64) 0,.int (.i64) 0,.nils] [(0,1,.k (.c (.int (.i64) 2))),(1,1,.k (.c (.int (.i64) 1)))]),I (.build [.int (.i64) 0,.int (.i64) 0,.int (.i64) 0,.int (.i64) 0,.int (.i64) 0,.int (.i64) 0,.int (.i64) 0,.int (.i64) 0,.int (.i64) 0,.nils,.nils] [(0,1,.k (.c (.int (.i64) 1))),(1,1,.val 1),(4,6,.val 0)]),I (.call 14 [.val 3,.val 0]),J 11 (.un (.not) (V 0))]) (.cond (L 11) (.seq (.reg [J 1 (.mov (.k (.c (.bool false))))]) (.ret)) (.skip)))) (.reg [A 3,I (.bin (.add) (V 0) (N 1)),F 3]))
def ir6:IRF :=
 { slots:=[0,2,3,4,5,6,7,8,9,12,14,22,30,47,75,81,88,96,98,129],nparams:=1,results:=[.loc 1],body:=.seq (.reg [J 1 (.mov (.k (.c (.bool false))))]) (.seq (.reg [I (.call 10 [.k (.c (.int (.i64) 3))]),F 2]) (.seq (.seq (.reg [A 2,J 9 (.eq (.ptr) false (V 0) (.k (.c (.nilp))))]) (.cond (L 9) (.seq (.reg [J 1 (.mov (.k (.c (.bool false))))]) (.ret)) (.skip))) (.seq (.seq (.reg [J 3 (.mov (N 0))]) (.block 0 (.loop ir6_k4 ir6_l4))) (.seq (.seq (.reg [J 4 (.mov (N 0))]) (.block 2 (.loop ir6_k3 ir6_l3))) (.seq (.seq (.reg [J 5 (.mov (N 0))]) (.block 4 (.loop ir6_k2 ir6_l2))) (.seq (.seq (.reg [J 6 (.mov (N 0))]) (.block 6 (.loop ir6_k1 ir6_l1))) (.seq (.reg [A 2,B,C 0,D,I (.call 12 [.val 0]),F 7]) (.seq (.seq (.reg [A 7,I (.len (.sl) (V 0)),J 17 (.bin (.neq) (V 0) (N 15))]) (.cond (L 17) (.seq (.reg [J 1 (.mov (.k (.c (.bool false))))]) (.ret)) (.skip))) (.seq (.seq (.reg [J 8 (.mov (N 0))]) (.block 8 (.loop ir6_k0 ir6_l0))) (.seq (.reg [I (.call 9 []),I (.mov (V 0)),⟨none,.mov (L 2),some (.val 0,true),[]⟩,⟨none,.call 17 [.val 0],some (.val 1,true),[]⟩,I (.pick (V 2) (V 0) (.k (.c (.bool false)))),F 1]) (.ret))))))))))) }
theorem ir6_of:zaw Tryz.prog [0,2,3,4,5,6,7,8,9,12,14,22,30,47,75,81,88,96,98,129] [[true,false,true,true,false,false,false,false,false,false,false,false,false,false,false,false,false,false,false,false],[true,false,true,false,true,false,false,false,false,false,false,false,false,false,false,false,false,false,false,false],[false,false,true,false,false,true,false,false,false,false,false,false,false,false,false,false,false,false,false,false],[false,false,true,false,false,false,true,false,false,false,false,false,false,false,false,false,false,false,false,false],[false,false,true,false,false,false,false,true,true,false,false,false,false,false,false,false,false,false,false,false]] Tryz.f6=some ir6:=by kernel_rfl
def table:List (Nat × IRF):=[(62,ir62),(57,ir57),(63,ir63),(128,ir128),(88,ir88),(86,ir86),(64,ir64),(87,ir87),(65,ir65),(66,ir66),(67,ir67),(68,ir68),(90,ir90),(185,ir185),(129,ir129),(186,ir186),(187,ir187),(130,ir130),(92,ir92),(89,ir89),(91,ir91),(69,ir69),(70,ir70),(55,ir55),(71,ir71),(45,ir45),(24,ir24),(60,ir60),(43,ir43),(22,ir22),(28,ir28),(101,ir101),(77,ir77),(48,ir48),(61,ir61),(49,ir49),(102,ir102),(103,ir103),(230,ir230),(238,ir238),(223,ir223),(206,ir206),(231,ir231),(234,ir234),(147,ir147),(220,ir220),(232,ir232),(229,ir229),(125,ir125),(233,ir233),(235,ir235),(190,ir190),(136,ir136),(138,ir138),(137,ir137),(104,ir104),(56,ir56),(139,ir139),(236,ir236),(191,ir191),(192,ir192),(140,ir140),(105,ir105),(193,ir193),(194,ir194),(141,ir141),(33,ir33),(126,ir126),(85,ir85),(58,ir58),(34,ir34),(195,ir195),(196,ir196),(142,ir142),(143,ir143),(106,ir106),(78,ir78),(18,ir18),(31,ir31),(240,ir240),(198,ir198),(244,ir244),(248,ir248),(266,ir266),(243,ir243),(213,ir213),(212,ir212),(242,ir242),(216,ir216),(241,ir241),(199,ir199),(267,ir267),(245,ir245),(203,ir203),(158,ir158),(201,ir201),(161,ir161),(207,ir207),(162,ir162),(163,ir163),(164,ir164),(173,ir173),(116,ir116),(166,ir166),(165,ir165),(113,ir113),(224,ir224),(180,ir180),(249,ir249),(214,ir214),(215,ir215),(169,ir169),(222,ir222),(176,ir176),(247,ir247),(209,ir209),(177,ir177),(170,ir170),(115,ir115),(246,ir246),(208,ir208),(175,ir175),(210,ir210),(167,ir167),(168,ir168),(114,ir114),(35,ir35),(16,ir16),(178,ir178),(118,ir118),(81,ir81),(50,ir50),(82,ir82),(52,ir52),(29,ir29),(30,ir30),(14,ir14),(42,ir42),(21,ir21),(44,ir44),(23,ir23),(11,ir11),(32,ir32),(15,ir15),(27,ir27),(12,ir12),(97,ir97),(73,ir73),(74,ir74),(75,ir75),(98,ir98),(133,ir133),(95,ir95),(134,ir134),(135,ir135),(41,ir41),(99,ir99),(100,ir100),(76,ir76),(47,ir47),(26,ir26),(96,ir96),(93,ir93),(131,ir131),(188,ir188),(262,ir262),(228,ir228),(189,ir189),(132,ir132),(94,ir94),(72,ir72),(46,ir46),(25,ir25),(9,ir9),(10,ir10),(38,ir38),(59,ir59),(39,ir39),(40,ir40),(20,ir20),(36,ir36),(37,ir37),(17,ir17),(6,ir6)]
theorem table_ok:TableOK Tryz.prog table :=
 (TableOK.cons Tryz.func62 ir62_of
 (TableOK.cons Tryz.func57 ir57_of
 (TableOK.cons Tryz.func63 ir63_of
 (TableOK.cons Tryz.func128 ir128_of
 (TableOK.cons Tryz.func88 ir88_of
 (TableOK.cons Tryz.func86 ir86_of
 (TableOK.cons Tryz.func64 ir64_of
 (TableOK.cons Tryz.func87 ir87_of
 (TableOK.cons Tryz.func65 ir65_of
 (TableOK.cons Tryz.func66 ir66_of
 (TableOK.cons Tryz.func67 ir67_of
 (TableOK.cons Tryz.func68 ir68_of
 (TableOK.cons Tryz.func90 ir90_of
 (TableOK.cons Tryz.func185 ir185_of
 (TableOK.cons Tryz.func129 ir129_of
 (TableOK.cons Tryz.func186 ir186_of
 (TableOK.cons Tryz.func187 ir187_of
 (TableOK.cons Tryz.func130 ir130_of
 (TableOK.cons Tryz.func92 ir92_of
 (TableOK.cons Tryz.func89 ir89_of
 (TableOK.cons Tryz.func91 ir91_of
 (TableOK.cons Tryz.func69 ir69_of
 (TableOK.cons Tryz.func70 ir70_of
 (TableOK.cons Tryz.func55 ir55_of
 (TableOK.cons Tryz.func71 ir71_of
 (TableOK.cons Tryz.func45 ir45_of
 (TableOK.cons Tryz.func24 ir24_of
 (TableOK.cons Tryz.func60 ir60_of
 (TableOK.cons Tryz.func43 ir43_of
 (TableOK.cons Tryz.func22 ir22_of
 (TableOK.cons Tryz.func28 ir28_of
 (TableOK.cons Tryz.func101 ir101_of
 (TableOK.cons Tryz.func77 ir77_of
 (TableOK.cons Tryz.func48 ir48_of
 (TableOK.cons Tryz.func61 ir61_of
 (TableOK.cons Tryz.func49 ir49_of
 (TableOK.cons Tryz.func102 ir102_of
 (TableOK.cons Tryz.func103 ir103_of
 (TableOK.cons Tryz.func230 ir230_of
 (TableOK.cons Tryz.func238 ir238_of
 (TableOK.cons Tryz.func223 ir223_of
 (TableOK.cons Tryz.func206 ir206_of
 (TableOK.cons Tryz.func231 ir231_of
 (TableOK.cons Tryz.func234 ir234_of
 (TableOK.cons Tryz.func147 ir147_of
 (TableOK.cons Tryz.func220 ir220_of
 (TableOK.cons Tryz.func232 ir232_of
 (TableOK.cons Tryz.func229 ir229_of
 (TableOK.cons Tryz.func125 ir125_of
 (TableOK.cons Tryz.func233 ir233_of
 (TableOK.cons Tryz.func235 ir235_of
 (TableOK.cons Tryz.func190 ir190_of
 (TableOK.cons Tryz.func136 ir136_of
 (TableOK.cons Tryz.func138 ir138_of
 (TableOK.cons Tryz.func137 ir137_of
 (TableOK.cons Tryz.func104 ir104_of
 (TableOK.cons Tryz.func56 ir56_of
 (TableOK.cons Tryz.func139 ir139_of
 (TableOK.cons Tryz.func236 ir236_of
 (TableOK.cons Tryz.func191 ir191_of
 (TableOK.cons Tryz.func192 ir192_of
 (TableOK.cons Tryz.func140 ir140_of
 (TableOK.cons Tryz.func105 ir105_of
 (TableOK.cons Tryz.func193 ir193_of
 (TableOK.cons Tryz.func194 ir194_of
 (TableOK.cons Tryz.func141 ir141_of
 (TableOK.cons Tryz.func33 ir33_of
 (TableOK.cons Tryz.func126 ir126_of
 (TableOK.cons Tryz.func85 ir85_of
 (TableOK.cons Tryz.func58 ir58_of
 (TableOK.cons Tryz.func34 ir34_of
 (TableOK.cons Tryz.func195 ir195_of
 (TableOK.cons Tryz.func196 ir196_of
 (TableOK.cons Tryz.func142 ir142_of
 (TableOK.cons Tryz.func143 ir143_of
 (TableOK.cons Tryz.func106 ir106_of
 (TableOK.cons Tryz.func78 ir78_of
 (TableOK.cons Tryz.func18 ir18_of
 (TableOK.cons Tryz.func31 ir31_of
 (TableOK.cons Tryz.func240 ir240_of
 (TableOK.cons Tryz.func198 ir198_of
 (TableOK.cons Tryz.func244 ir244_of
 (TableOK.cons Tryz.func248 ir248_of
 (TableOK.cons Tryz.func266 ir266_of
 (TableOK.cons Tryz.func243 ir243_of
 (TableOK.cons Tryz.func213 ir213_of
 (TableOK.cons Tryz.func212 ir212_of
 (TableOK.cons Tryz.func242 ir242_of
 (TableOK.cons Tryz.func216 ir216_of
 (TableOK.cons Tryz.func241 ir241_of
 (TableOK.cons Tryz.func199 ir199_of
 (TableOK.cons Tryz.func267 ir267_of
 (TableOK.cons Tryz.func245 ir245_of
 (TableOK.cons Tryz.func203 ir203_of
 (TableOK.cons Tryz.func158 ir158_of
 (TableOK.cons Tryz.func201 ir201_of
 (TableOK.cons Tryz.func161 ir161_of
 (TableOK.cons Tryz.func207 ir207_of
 (TableOK.cons Tryz.func162 ir162_of
 (TableOK.cons Tryz.func163 ir163_of
 (TableOK.cons Tryz.func164 ir164_of
 (TableOK.cons Tryz.func173 ir173_of
 (TableOK.cons Tryz.func116 ir116_of
 (TableOK.cons Tryz.func166 ir166_of
 (TableOK.cons Tryz.func165 ir165_of
 (TableOK.cons Tryz.func113 ir113_of
 (TableOK.cons Tryz.func224 ir224_of
 (TableOK.cons Tryz.func180 ir180_of
 (TableOK.cons Tryz.func249 ir249_of
 (TableOK.cons Tryz.func214 ir214_of
 (TableOK.cons Tryz.func215 ir215_of
 (TableOK.cons Tryz.func169 ir169_of
 (TableOK.cons Tryz.func222 ir222_of
 (TableOK.cons Tryz.func176 ir176_of
 (TableOK.cons Tryz.func247 ir247_of
 (TableOK.cons Tryz.func209 ir209_of
 (TableOK.cons Tryz.func177 ir177_of
 (TableOK.cons Tryz.func170 ir170_of
 (TableOK.cons Tryz.func115 ir115_of
 (TableOK.cons Tryz.func246 ir246_of
 (TableOK.cons Tryz.func208 ir208_of
 (TableOK.cons Tryz.func175 ir175_of
 (TableOK.cons Tryz.func210 ir210_of
 (TableOK.cons Tryz.func167 ir167_of
 (TableOK.cons Tryz.func168 ir168_of
 (TableOK.cons Tryz.func114 ir114_of
 (TableOK.cons Tryz.func35 ir35_of
 (TableOK.cons Tryz.func16 ir16_of
 (TableOK.cons Tryz.func178 ir178_of
 (TableOK.cons Tryz.func118 ir118_of
 (TableOK.cons Tryz.func81 ir81_of
 (TableOK.cons Tryz.func50 ir50_of
 (TableOK.cons Tryz.func82 ir82_of
 (TableOK.cons Tryz.func52 ir52_of
 (TableOK.cons Tryz.func29 ir29_of
 (TableOK.cons Tryz.func30 ir30_of
 (TableOK.cons Tryz.func14 ir14_of
 (TableOK.cons Tryz.func42 ir42_of
 (TableOK.cons Tryz.func21 ir21_of
 (TableOK.cons Tryz.func44 ir44_of
 (TableOK.cons Tryz.func23 ir23_of
 (TableOK.cons Tryz.func11 ir11_of
 (TableOK.cons Tryz.func32 ir32_of
 (TableOK.cons Tryz.func15 ir15_of
 (TableOK.cons Tryz.func27 ir27_of
 (TableOK.cons Tryz.func12 ir12_of
 (TableOK.cons Tryz.func97 ir97_of
 (TableOK.cons Tryz.func73 ir73_of
 (TableOK.cons Tryz.func74 ir74_of
 (TableOK.cons Tryz.func75 ir75_of
 (TableOK.cons Tryz.func98 ir98_of
 (TableOK.cons Tryz.func133 ir133_of
 (TableOK.cons Tryz.func95 ir95_of
 (TableOK.cons Tryz.func134 ir134_of
 (TableOK.cons Tryz.func135 ir135_of
 (TableOK.cons Tryz.func41 ir41_of
 (TableOK.cons Tryz.func99 ir99_of
 (TableOK.cons Tryz.func100 ir100_of
 (TableOK.cons Tryz.func76 ir76_of
 (TableOK.cons Tryz.func47 ir47_of
 (TableOK.cons Tryz.func26 ir26_of
 (TableOK.cons Tryz.func96 ir96_of
 (TableOK.cons Tryz.func93 ir93_of
 (TableOK.cons Tryz.func131 ir131_of
 (TableOK.cons Tryz.func188 ir188_of
 (TableOK.cons Tryz.func262 ir262_of
 (TableOK.cons Tryz.func228 ir228_of
 (TableOK.cons Tryz.func189 ir189_of
 (TableOK.cons Tryz.func132 ir132_of
 (TableOK.cons Tryz.func94 ir94_of
 (TableOK.cons Tryz.func72 ir72_of
 (TableOK.cons Tryz.func46 ir46_of
 (TableOK.cons Tryz.func25 ir25_of
 (TableOK.cons Tryz.func9 ir9_of
 (TableOK.cons Tryz.func10 ir10_of
 (TableOK.cons Tryz.func38 ir38_of
 (TableOK.cons Tryz.func59 ir59_of
 (TableOK.cons Tryz.func39 ir39_of
 (TableOK.cons Tryz.func40 ir40_of
 (TableOK.cons Tryz.func20 ir20_of
 (TableOK.cons Tryz.func36 ir36_of
 (TableOK.cons Tryz.func37 ir37_of
 (TableOK.cons Tryz.func17 ir17_of
 (TableOK.cons Tryz.func6 ir6_of
 TableOK.nil))))))))))))))))))))))))))))))))))))))))))))))))))))))))))))))))))))))))))))))))))))))))))))))))))))))))))))))))))))))))))))))))))))))))))))))))))))))))))))))))))))))))))))))))))))))))
theorem mixed:Tryz.prog.follows .mixedOrders=true:=by kernel_rfl
end Lav
namespace Lav
open Go
def ins (a:Int):List Int→List Int
 | []=>[a]
 | b :: r=>bif zfq b a then b :: ins a r else a :: b :: r
def znf:List Int→List Int
 | []=>[]
 | a :: r=>ins a (znf r)
theorem zmf (a:Int):∀ l,(ins a l).Perm (a :: l)
 | []=>.refl _
 | b :: r=>by
  unfold ins
  cases zfq b a with
  | true=>exact ((zmf a r).cons b).trans (.swap a b r)
  | false=>exact .refl _
theorem zng:∀ l,(znf l).Perm l
 | []=>.refl _
 | a :: r=>(zmf a _).trans ((zng r).cons a)
theorem znh (a:Int):∀ l:List Int,l.Pairwise (fun x y=>x≤y)→(ins a l).Pairwise (fun x y=>x≤y)
 | [],_=>by simp [ins]
 | b :: r,h=>by
  have h':=List.pairwise_cons.1 h
  unfold ins
  rw [zny]
  by_cases hb:b < a
  ·rw [decide_eq_true hb]
   refine List.pairwise_cons.2 ⟨fun x hx=>?_,znh a r h'.2⟩
   rcases List.mem_cons.1 ((zmf a r).mem_iff.1 hx) with rfl | hx
   ·omega
   ·exact h'.1 x hx
  ·rw [decide_eq_false hb]
   refine List.pairwise_cons.2 ⟨fun x hx=>?_,h⟩
   rcases List.mem_cons.1 hx with rfl | hx
   ·omega
   ·have:=h'.1 x hx;omega
theorem zk8:∀ l,(znf l).Pairwise (fun x y=>x≤y)
 | []=>List.Pairwise.nil
 | a :: r=>znh a _ (zk8 r)
theorem zsw {ss ks:List Int} (hp:ss.Perm ks) (hs:ss.Pairwise (fun x y=>x≤y)):ss=znf ks :=
 List.Perm.eq_of_pairwise (le:=fun a b:Int=>a≤b) (fun _ _ _ _ h1 h2=>Int.le_antisymm h1 h2) hs (zk8 ks) (hp.trans (zng ks).symm)
def small (n:Int):Bool:=match n with | .ofNat m=>Nat.ble m 1000000 | .negSucc _=>false
def zhf:List Int→Bool
 | []=>true
 | a :: r=>bif small a then zhf r else false
theorem zku:∀ {l:List Int},zhf l=true→∀ x∈l,0≤x∧x≤1000000
 | [],_,x,hx=>by simp at hx
 | a :: r,h,x,hx=>by
  unfold zhf at h
  cases hs:small a with
  | false=>rw [hs] at h;cases h
  | true =>
   rw [hs] at h
   rcases List.mem_cons.1 hx with rfl | hx
   ·unfold small at hs
    split at hs
    ·have:=Nat.le_of_ble_eq_true hs
     constructor
     ·exact Int.natCast_nonneg _
     ·show ((_:Nat):Int)≤1000000
      omega
    ·cases hs
   ·exact zku (by simpa using h) x hx
def intCells (l:List Int):List CV:=l.map fun x=>.int .i64 x
def zhp (args:List AV) (h:Heap):Option (AV × Heap):=match args with
 | [.c (.ptr i o)]=>match h.read i (o + 1) 1 with
  | some [.mp j]=>match h.get j with
   | some (.map _ es)=>bif Nat.ble es.length 1000 && zhf (es.map (·.1)) then (match znf (es.map (·.1)) with
     | []=>some (.c .nils,h)
     | k :: r=>some (.c (.sl h.next 0 (r.length + 1) (.dy 1)),h.new (.cells (intCells (k :: r))))) else none
   | _=>none
  | _=>none
 | _=>none
def zsx (P:Program) (f:Nat):Prop:=∃ fn,P.funcs[f]? = some fn∧(fn.name == "runtime.NumGoroutine")=false∧fn.body.isNone=false
def zn5 (P:Program) (f:Nat):Prop:=zsx P f∧∃ T,∀ (w:World) (b bd od clock:Nat) (ms:Array MapEntry) (ks:List Int),w.cell? ⟨bd,od + 1,none⟩=some (.map (some b))→w.heap[b]? = some (.map ms clock)→ms.toList.map (·.key)=ks.map (Value.int .i64) →
 (∀ k∈ks,(Lit.int .i64 k).wf=true)→MapKept.Stamped ms clock→ms.size≤1000 →
 Calls P f #[.pointer (some ⟨bd,od,none⟩)] w fun e w'=>∃ (v:Value) (ss:List Int),e = .returned v∧ss.Perm ks∧ss.Pairwise (fun x y=>x≤y) ∧
  w'.ownsRow w.heap.size T 1 v ss.length (ss.map (Value.int .i64))∧(v = .slice none 0 0↔ss=[])∧RowKit.Below w.heap.size w w'
theorem Post.later {B:Nat} {ι:Inj} {h:Heap} {w w':World} {k:Blk} {g lim:Nat} (hr:HR B ι h.get w) (hf:∀ i,h.next≤i→ι i=none) (hb:RowKit.Below w.heap.size w w') (hg:w.heap.size≤g) (hro:k.isRo=false)
  (hk:BR B (ι.put h.next (g,0,lim)) g 0 lim w' k):Post B ι h w (ι.put h.next (g,0,lim)) (h.new k) w':=by
 have hi:=hf _ (Nat.le_refl _)
 have hother:∀ x,x≠g→x < w.heap.size→w'.heap[x]? = w.heap[x]?:=fun x _ hx=>hb.block x hx
 refine ⟨by simp [Heap.new],fun i hi=>Inj.put_ne (by omega),fun i hi hn=>?_,?_,fun i hi=>?_,?_⟩
 ·rw [Heap.get_new];simp [upd,hn];omega
 ·rw [Heap.get_new]
  refine hr.set (Inj.put_le hi) Inj.put_at hk hro hb.size hother ?_
  intro j kj hj hg' _ b' x y e
  obtain ⟨b'',x',y',e',hb'⟩:=hr.at_ j kj hg'
  rw [e'] at e;simp only [Option.some.injEq,Prod.mk.injEq] at e
  have:=hb'.lt;omega
 ·rw [Inj.put_ne (by simp [Heap.new] at hi;omega)];exact hf i (by simp [Heap.new] at hi;omega)
 ·rw [Heap.get_new]
  exact Fr.set hr (Inj.put_le hi) Inj.put_at hb.size hother hb.os hb.output hb.tape (.inr hg)
theorem zmg {B:Nat} {ι:Inj} {h:Heap} {w:World} (hr:HR B ι h.get w) {i o b base lim:Nat} {x:CV} (hi:ι i=some (b,base,lim)) (he:h.read i o 1=some [x]):∃ v,w.cell? ⟨b,base + o,none⟩=some v∧CR ι x v:=by
 have key:∀ l:List CV,cut l o 1=some [x]→l[o]? = some x:=by
  intro l hl
  unfold cut at hl
  cases hb:Nat.ble (o + 1) l.length with
  | false=>rw [hb] at hl;cases hl
  | true =>
   rw [hb] at hl
   simp only [cond_true,Option.some.injEq] at hl
   have:=congrArg (fun l:List CV=>l[0]?) hl
   simpa [List.getElem?_take,List.getElem?_drop] using this
 unfold Heap.read at he
 split at he
 ·rename_i l hg
  obtain ⟨b',base',lim',hi',hB,c,e,fz,hb,_,_,_,hc⟩:=hr.at_ _ _ hg
  rw [hi] at hi';simp only [Option.some.injEq,Prod.mk.injEq] at hi'
  obtain ⟨rfl,rfl,rfl⟩:=hi'
  obtain ⟨v,hv,hcr⟩:=hc o x (key l he)
  exact ⟨v,by simp [World.cell?,hb,hv],hcr⟩
 ·rename_i l hg
  obtain ⟨b',base',lim',hi',hB,c,e,fz,hb,hc⟩:=hr.at_ _ _ hg
  rw [hi] at hi';simp only [Option.some.injEq,Prod.mk.injEq] at hi'
  obtain ⟨rfl,rfl,rfl⟩:=hi'
  obtain ⟨v,hv,hcr⟩:=hc o x (key l he)
  exact ⟨v,by simp [World.cell?,hb,hv],hcr⟩
 ·cases he
theorem zp5 {ι:Inj}:∀ {es:List Ent} {ms:List MapEntry},All2 (MR ι) es ms→ms.map (·.key)=(es.map (·.1)).map (Value.int .i64)
 | [],[],_=>rfl
 | _ :: _,_ :: _,⟨h1,h2⟩=>by simp only [List.map_cons,h1.1,zp5 h2]
 | [],_ :: _,h=>h.elim
 | _ :: _,[],h=>h.elim
theorem zp6 {P:Program} {f:Nat} (hW:zn5 P f) {args:List AV} {h h':Heap} {r:AV} (he:zhp args h=some (r,h')) {B:Nat} {ι:Inj} {w:World} {vs:List Value} (hr:HR B ι h.get w) (hf:∀ i,h.next≤i→ι i=none) (ha:All2 (AR ι) args vs) :
  Calls P f vs.toArray w fun e w'=>∃ v,e = .returned v∧zim B ι h w r h' v w':=by
 unfold zhp at he
 split at he
 ·rename_i i o
  obtain ⟨v0,rfl,hv0⟩ : ∃ v0,vs=[v0]∧AR ι (.c (.ptr i o)) v0:=by
   match vs,ha with
   | [v0],ha=>exact ⟨v0,rfl,ha.1⟩
  obtain ⟨bd,base,lim,hi,rfl⟩:=hv0
  split at he
  ·rename_i j hrd
   split at he
   ·rename_i c es hg
    cases hc:(Nat.ble es.length 1000 && zhf (es.map (·.1))) with
    | false=>rw [hc] at he;cases he
    | true =>
     rw [hc] at he
     simp only [cond_true] at he
     simp only [Bool.and_eq_true] at hc
     have hlen:=Nat.le_of_ble_eq_true hc.1
     have hsm:=zku hc.2
     obtain ⟨vm,hcell,hvm⟩:=zmg hr hi hrd
     obtain ⟨bm,mb,ml,him,rfl⟩:=hvm
     obtain ⟨b',base',lim',hi',hB,ms,hb,h1,h2,h3,h4⟩:=hr.at_ _ _ hg
     rw [him] at hi';simp only [Option.some.injEq,Prod.mk.injEq] at hi'
     obtain ⟨rfl,rfl,rfl⟩:=hi'
     have hkeys:=zp5 h1
     have hst:MapKept.Stamped ms c:=by
      refine ⟨h3,List.pairwise_map.2 (h2.imp fun h=>Nat.ne_of_lt h),?_⟩
      rw [hkeys]
      exact List.pairwise_map.2 (h4.imp fun h e=>h (Value.int.inj e).2)
     have hml:ms.size≤1000:=by have:=h1.length;simp at this;omega
     obtain ⟨_,T,hcall⟩:=hW
     refine (hcall w bm bd (base + o) c ms (es.map (·.1)) (by rw [Nat.add_assoc];exact hcell) hb hkeys (fun k hk=>?_) hst hml).mono ?_
     ·have:=hsm k hk
      simp only [Lit.wf,Bool.and_eq_true,decide_eq_true_eq]
      have e1:IntKind.i64.min = -9223372036854775808:=rfl
      have e2:IntKind.i64.max=9223372036854775807:=rfl
      rw [e1,e2];omega
     ·rintro e w' ⟨v,ss,rfl,hp,hs,hrow,hnil,hbl⟩
      have hss:=zsw hp hs
      subst hss
      refine ⟨v,rfl,?_⟩
      split at he
      ·rename_i hk
       simp only [Option.some.injEq,Prod.mk.injEq] at he
       obtain ⟨rfl,rfl⟩:=he
       exact ⟨ι,hnil.2 hk,zsv hr hf hbl⟩
      ·rename_i k rs hk
       simp only [Option.some.injEq,Prod.mk.injEq] at he
       obtain ⟨rfl,rfl⟩:=he
       rw [hk] at hrow
       obtain ⟨hxl,⟨_,h0⟩ | ⟨g,cap,cur,rfl,hge,hgb,hcap,_,hcs,htk⟩⟩:=hrow
       ·simp at h0
       ·have hcap':rs.length + 1≤cap:=by simpa using hcap
        refine ⟨ι.put h.next (g,0,cap),⟨g,0,cap,⟨g,0,none⟩,cap,Inj.put_at,by simp,hcap',fun _=>by simp,by show 0 + cap * 1≤cap;omega⟩,?_⟩
        refine Post.later hr hf hbl hge rfl ⟨Nat.le_trans hr.base hge,cur,T,(0,0),hgb,by omega,by simp [intCells];omega,.inl rfl,fun q y hy=>?_⟩
        have hq:(cur.toList.take ((k :: rs).length * 1))[q]? = ((k :: rs).map (Value.int .i64))[q]?:=by rw [htk]
        simp only [intCells,List.getElem?_map,Option.map_eq_some_iff] at hy
        obtain ⟨n,hn,rfl⟩:=hy
        rw [List.getElem?_map,hn] at hq
        have hql:q < (k :: rs).length:=by
         rcases Nat.lt_or_ge q (k :: rs).length with h | h
         ·exact h
         ·rw [List.getElem?_eq_none h] at hn;cases hn
        rw [List.getElem?_take_of_lt (by omega)] at hq
        exact ⟨.int .i64 n,by rw [Nat.zero_add,← Array.getElem?_toList];exact hq,rfl⟩
   ·cases he
  ·cases he
 ·cases he
end Lav
namespace Lav
open Go
def PagesAt (c0:Array Value) (po:Nat) (kx:MapEntry→Nat) (es:List MapEntry) (sn:Nat→Prop) (cur:Array Value):Prop :=
 cur.size=c0.size∧∀ j:Nat,(∃ x∈es,sn x.born∧po + kx x=j∧cur[j]? = some x.val)∨((∀ x∈es,sn x.born→po + kx x≠j)∧cur[j]? = c0[j]?)
theorem PagesAt.start {c0:Array Value} {po:Nat} {kx:MapEntry→Nat} {es:List MapEntry}:PagesAt c0 po kx es (fun b=>b∈(#[]:Array Nat).toList) c0 :=
 ⟨rfl,fun j=>.inr ⟨fun x _ h=>by simp at h,rfl⟩⟩
theorem PagesAt.step {c0 cur:Array Value} {po len:Nat} {kx:MapEntry→Nat} {es:List MapEntry} {seen:Array Nat} {e:MapEntry} (h:PagesAt c0 po kx es (fun b=>b∈seen.toList) cur) (he:e∈es) (hn:(es.map (·.born)).Nodup) (hl:kx e < len) (hc:po + len≤c0.size) :
  PagesAt c0 po kx es (fun b=>b∈(seen.push e.born).toList) (cur.setIfInBounds (po + kx e) e.val):=by
 have hsz:=h.1
 refine ⟨by simpa using hsz,fun j=>?_⟩
 by_cases hj:po + kx e=j
 ·subst hj
  exact .inl ⟨e,he,by simp,rfl,by rw [Array.getElem?_setIfInBounds_self];simp;omega⟩
 ·rw [Array.getElem?_setIfInBounds_ne hj]
  rcases h.2 j with ⟨x,hx,hs,hk,hv⟩ | ⟨hno,hv⟩
  ·exact .inl ⟨x,hx,by simp at hs ⊢;exact .inl hs,hk,hv⟩
  ·refine .inr ⟨fun x hx hs=>?_,hv⟩
   simp at hs
   rcases hs with hs | hs
   ·exact hno x hx (by simpa using hs)
   ·have:x=e:=by
     have hp:=List.pairwise_map.1 hn
     clear hn h hno hv
     induction es with
     | nil=>cases hx
     | cons y ys ih =>
      have hp':=List.pairwise_cons.1 hp
      rcases List.mem_cons.1 hx with h1 | h1
      ·rcases List.mem_cons.1 he with h2 | h2
       ·rw [h1,h2]
       ·exact absurd (h1 ▸ hs) (hp'.1 e h2)
      ·rcases List.mem_cons.1 he with h2 | h2
       ·exact absurd (h2 ▸ hs.symm) (hp'.1 x h1)
       ·exact ih h2 h1 hp'.2
    subst this
    exact hj
structure SyncPre (w1:World) (bd od bm pb po len cap clock:Nat) (es:Array MapEntry) (c0:Array Value) (et:TypeId) (fz:Nat × Nat) (kx:MapEntry→Nat):Prop where
 h0:w1.cell? ⟨bd,od,none⟩=some (.slice (some ⟨pb,po,none⟩) len cap)
 h1:w1.cell? ⟨bd,od + 1,none⟩=some (.map (some bm))
 hb:w1.heap[bm]? = some (.map es clock)
 hp:w1.heap[pb]? = some (.cells c0 et fz)
 hfz:fz.1=fz.2∨c0.size≤fz.1
 hpo:po + len≤c0.size
 hbd:bd≠pb
 hbm:bm≠pb
 hold:∀ x∈es.toList,x.born < clock
 hn:(es.toList.map (·.born)).Nodup
 hk:∀ x∈es.toList,x.key = .int .i64 (kx x)∧kx x < len
 hone:∀ x∈es.toList,∃ (u:Option Addr) (n c:Nat),x.val = .slice u n c
structure SyncPost (w1 w':World) (bm pb po clock:Nat) (es:Array MapEntry) (c0:Array Value) (et:TypeId) (fz:Nat × Nat) (kx:MapEntry→Nat):Prop where
 pages:∃ cur:Array Value,w'.heap[pb]? = some (.cells cur et fz)∧PagesAt c0 po kx es.toList (fun _=>True) cur
 map:w'.heap[bm]? = some (.map #[] clock)
 other:∀ x,x < w1.heap.size→x≠pb→x≠bm→w'.heap[x]? = w1.heap[x]?
 os:w'.os=w1.os
 tape:w'.tape=w1.tape
 output:w'.output=w1.output
 size:w1.heap.size≤w'.heap.size
def zp7 (P:Program) (acc f:Nat):Prop:=zsx P f∧∀ (w:World) (bd od:Nat) (Φ:World→Prop),
 (Calls P acc #[.pointer (some ⟨bd,od,none⟩)] w (fun e w1=>e = .returned (.int .i64 0)∧Φ w1)→(∀ w1,Φ w1→∃ bm pb po len cap clock es c0 et fz kx,SyncPre w1 bd od bm pb po len cap clock es c0 et fz kx) →
  Calls P f #[.pointer (some ⟨bd,od,none⟩)] w fun e w'=>e = .returned (.int .i64 0)∧∃ w1,Φ w1∧∃ bm pb po len cap clock es c0 et fz kx,SyncPre w1 bd od bm pb po len cap clock es c0 et fz kx∧SyncPost w1 w' bm pb po clock es c0 et fz kx) ∧
 ∀ n:Int,n≠0→Calls P acc #[.pointer (some ⟨bd,od,none⟩)] w (fun e w1=>e = .returned (.int .i64 n)∧Φ w1)→Calls P f #[.pointer (some ⟨bd,od,none⟩)] w fun e w'=>e = .returned (.int .i64 n)∧Φ w'
def zhi:List CV→Nat→Nat→List Ent→Option (List CV)
 | l,_,_,[]=>some l
 | l,po,len,(k,_,v) :: r=>match k with
  | .ofNat q=>bif Nat.blt q len then (match v with
    | .sl _ _ _ _=>zhi (l.set (po + q) v) po len r
    | _=>none) else none
  | .negSucc _=>none
def zi7 (acc:Nat) (call:Nat→List AV→Heap→Option (AV × Heap)) (args:List AV) (h:Heap):Option (AV × Heap):=match args with
 | [.c (.ptr i o)]=>match call acc [.c (.ptr i o)] h with
  | some (.c (.int .i64 n),h1)=>bif n == 0 then (match h1.read i o 1,h1.read i (o + 1) 1 with
    | some [.sl pb po len _],some [.mp m]=>match h1.get pb,h1.get m with
     | some (.cells l),some (.map ck es)=>bif Nat.ble 1 len && Nat.ble (po + len) l.length && !(Nat.beq i pb) then (match zhi l po len es with
       | some l'=>some (.c (.int .i64 0),(h1.put pb (.cells l')).put m (.map ck []))
       | none=>none) else none
     | _,_=>none
    | _,_=>none) else some (.c (.int .i64 n),h1)
  | _=>none
 | _=>none
theorem zka {po len:Nat}:∀ {es:List Ent} {l l':List CV},zhi l po len es=some l'→po + len≤l.length→(es.map (·.1)).Nodup →
  l'.length=l.length∧(∀ p∈es,∃ q:Nat,p.1=(q:Int)∧q < len∧(∃ a b c d,p.2.2 = .sl a b c d)∧l'[po + q]? = some p.2.2)∧∀ j:Nat,(∀ p∈es,((po:Int) + p.1≠(j:Int)))→l'[j]? = l[j]?
 | [],l,l',h,_,_=>by
  simp only [zhi,Option.some.injEq] at h
  subst h
  exact ⟨rfl,by simp,fun _ _=>rfl⟩
 | (k,b,v) :: r,l,l',h,hl,hn=>by
  unfold zhi at h
  cases k with
  | negSucc _=>cases h
  | ofNat q =>
   simp only at h
   cases hq:Nat.blt q len with
   | false=>rw [hq] at h;cases h
   | true =>
    rw [hq] at h
    simp only [cond_true] at h
    have hql:q < len:=Nat.lt_of_succ_le (Nat.le_of_ble_eq_true hq)
    cases v<;>simp only [reduceCtorEq] at h
    case sl a1 a2 a3 a4 =>
     simp only [List.map_cons,List.nodup_cons] at hn
     obtain ⟨g1,g2,g3⟩:=zka h (by simpa using hl) hn.2
     refine ⟨by simpa using g1,fun p hp=>?_,fun j hj=>?_⟩
     ·rcases List.mem_cons.1 hp with rfl | hp
      ·refine ⟨q,rfl,hql,⟨_,_,_,_,rfl⟩,?_⟩
       rw [g3 (po + q) (fun p hp e=>?_)]
       ·rw [List.getElem?_set_self (by omega)]
       ·refine hn.1 (List.mem_map.2 ⟨p,hp,?_⟩)
        show p.1=Int.ofNat q
        have:(Int.ofNat q)=(q:Int):=rfl
        omega
      ·exact g2 p hp
     ·rw [g3 j (fun p hp=>hj p (List.mem_cons_of_mem _ hp))]
      have:=hj _ (List.mem_cons_self ..)
      rw [List.getElem?_set_ne]
      have e:(Int.ofNat q)=(q:Int):=rfl
      simp only [e] at this
      omega
theorem All2.memR {α β:Type} {R:α→β→Prop}:∀ {l:List α} {m:List β},All2 R l m→∀ y∈m,∃ x∈l,R x y
 | [],[],_,y,hy=>by simp at hy
 | a :: l,b :: m,⟨h1,h2⟩,y,hy=>by
  rcases List.mem_cons.1 hy with rfl | hy
  ·exact ⟨a,List.mem_cons_self ..,h1⟩
  ·obtain ⟨x,hx,h⟩:=All2.memR h2 y hy
   exact ⟨x,List.mem_cons_of_mem _ hx,h⟩
 | [],_ :: _,h,_,_=>h.elim
 | _ :: _,[],h,_,_=>h.elim
def zwi (x:MapEntry):Nat:=match x.key with
 | .int _ k=>k.toNat
 | _=>0
theorem zrb {P:Program} {acc f:Nat} (hS:zp7 P acc f) {call:Nat→List AV→Heap→Option (AV × Heap)} (hc:CallOK P call) {args:List AV} {h h':Heap} {r:AV} (he:zi7 acc call args h=some (r,h')) {B:Nat} {ι:Inj} {w:World} {vs:List Value} (hr:HR B ι h.get w) (hf:∀ i,h.next≤i→ι i=none) (ha:All2 (AR ι) args vs) :
  Calls P f vs.toArray w fun e w'=>∃ v,e = .returned v∧zim B ι h w r h' v w':=by
 unfold zi7 at he
 split at he
 ·rename_i i o
  obtain ⟨v0,rfl,hv0⟩ : ∃ v0,vs=[v0]∧AR ι (.c (.ptr i o)) v0:=by
   match vs,ha with
   | [v0],ha=>exact ⟨v0,rfl,ha.1⟩
  obtain ⟨bd,base,lim,hi,rfl⟩:=hv0
  split at he
  ·rename_i n h1 hcall
   obtain ⟨_,hcs⟩:=hc acc _ h _ h1 hcall
   have hA:=hcs B ι w [.pointer (some ⟨bd,base + o,none⟩)] hr hf ⟨⟨bd,base,lim,hi,rfl⟩,trivial⟩
   have hA':Calls P acc #[.pointer (some ⟨bd,base + o,none⟩)] w (fun e w1=>e = .returned (.int .i64 n)∧∃ ι1,Post B ι h w ι1 h1 w1):=by
    refine hA.mono ?_
    rintro e w1 ⟨v,rfl,ι1,hv,p⟩
    have hv:v = .int .i64 n:=hv
    exact ⟨by rw [hv],ι1,p⟩
   cases hn:n == 0 with
   | false =>
    rw [hn] at he
    simp only [cond_false,Option.some.injEq,Prod.mk.injEq] at he
    obtain ⟨rfl,rfl⟩:=he
    refine ((hS.2 w bd (base + o) _).2 n (by simpa using hn) hA').mono ?_
    rintro e w' ⟨rfl,ι1,p⟩
    exact ⟨_,rfl,ι1,rfl,p⟩
   | true =>
    rw [hn] at he
    have hn0:n=0:=by simpa using hn
    subst hn0
    simp only [cond_true] at he
    split at he
    ·rename_i pb po len c m hr0 hr1
     split at he
     ·rename_i l ck es hgp hgm
      cases hcd:(Nat.ble 1 len && Nat.ble (po + len) l.length && !(Nat.beq i pb)) with
      | false=>rw [hcd] at he;cases he
      | true =>
       rw [hcd] at he
       simp only [cond_true] at he
       simp only [Bool.and_eq_true,Bool.not_eq_true'] at hcd
       obtain ⟨⟨hl1,hl2⟩,hip⟩:=hcd
       have hl1:=Nat.le_of_ble_eq_true hl1
       have hl2:=Nat.le_of_ble_eq_true hl2
       have hip:i≠pb:=fun e=>by subst e;simp at hip
       have hmp:m≠pb:=fun e=>by subst e;rw [hgp] at hgm;cases hgm
       split at he
       ·rename_i l' hw
        simp only [Option.some.injEq,Prod.mk.injEq] at he
        obtain ⟨rfl,rfl⟩:=he
        have facts:∀ w1,(∃ ι1,Post B ι h w ι1 h1 w1)→∃ ι1 bp pp pl cap bm mb ml ms c0 et fz,Post B ι h w ι1 h1 w1∧ι1 pb=some (bp,pp,pl)∧ι1 m=some (bm,mb,ml)∧B≤bp∧B≤bm∧pp + pl=c0.size∧l.length≤pl ∧
          All2 (MR ι1) es ms.toList∧(∀ (j:Nat) (x:CV),l[j]? = some x→∃ v,c0[pp + j]? = some v∧CR ι1 x v)∧(es.map (·.1)).Nodup∧SyncPre w1 bd (base + o) bm bp (pp + po) len cap ck ms c0 et fz zwi:=by
         rintro w1 ⟨ι1,p⟩
         have hi1:=p.le hf _ _ hi
         obtain ⟨v0,hc0,bp,pp,pl,a,cap,hip1,rfl,hlc,ha,_⟩:=zmg p.rel hi1 hr0
         obtain ⟨v1,hc1,bm,mb,ml,him1,rfl⟩:=zmg p.rel hi1 hr1
         have haa:a=⟨bp,pp + po,none⟩:=ha (by omega)
         subst haa
         obtain ⟨bp',pp',pl',hip2,hBp,c0,et,fz,hbp,hpl,hll,hfz,hcells⟩:=p.rel.at_ _ _ hgp
         rw [hip1] at hip2;simp only [Option.some.injEq,Prod.mk.injEq] at hip2
         obtain ⟨rfl,rfl,rfl⟩:=hip2
         obtain ⟨bm',mb',ml',him2,hBm,ms,hbm,hms,hpw,hlt,hnd⟩:=p.rel.at_ _ _ hgm
         rw [him1] at him2;simp only [Option.some.injEq,Prod.mk.injEq] at him2
         obtain ⟨rfl,rfl,rfl⟩:=him2
         have hdp:bd≠bp:=by
          obtain ⟨ki,hki⟩ : ∃ ki,h1.get i=some ki:=by
           unfold Heap.read at hr0
           cases hg:h1.get i with
           | none=>rw [hg] at hr0;cases hr0
           | some k=>exact ⟨k,rfl⟩
          cases hro:ki.isRo with
          | false=>exact p.rel.apart i pb _ _ hki hgp hro rfl hip _ _ _ _ _ _ hi1 hip1
          | true =>
           obtain ⟨b2,x2,y2,e2,hb2⟩:=p.rel.at_ _ _ hki
           rw [hi1] at e2;simp only [Option.some.injEq,Prod.mk.injEq] at e2
           have:=hb2.ro hro
           omega
         have hmb:bm≠bp:=p.rel.apart m pb _ _ hgm hgp rfl rfl hmp _ _ _ _ _ _ him1 hip1
         obtain ⟨_,hspec,_⟩:=zka hw hl2 hnd
         refine ⟨ι1,bp,pp,pl,cap,bm,mb,ml,ms,c0,et,fz,p,hip1,him1,hBp,hBm,hpl,hll,hms,hcells,hnd,⟨hc0,by rw [Nat.add_assoc];exact hc1,hbm,hbp,hfz,by omega,hdp,hmb,hlt,List.pairwise_map.2 (hpw.imp fun h=>Nat.ne_of_lt h),fun x hx=>?_,fun x hx=>?_⟩⟩
         ·obtain ⟨q,hq,hqx⟩:=hms.memR x hx
          obtain ⟨k,hk1,hk2,_⟩:=hspec q hq
          have hkx:x.key = .int .i64 (k:Int):=by rw [← hk1];exact hqx.1
          have:zwi x=k:=by simp [zwi,hkx]
          rw [this];exact ⟨hkx,hk2⟩
         ·obtain ⟨q,hq,hqx⟩:=hms.memR x hx
          obtain ⟨k,hk1,hk2,⟨a1,a2,a3,a4,hv⟩,_⟩:=hspec q hq
          have:=hqx.2.2
          rw [hv] at this
          obtain ⟨_,_,_,aa,cc,_,hxv,_⟩:=this
          exact ⟨_,_,_,hxv⟩
        refine ((hS.2 w bd (base + o) _).1 hA' fun w1 hphi=>?_).mono ?_
        ·obtain ⟨ι1,bp,pp,pl,cap,bm,mb,ml,ms,c0,et,fz,_,_,_,_,_,_,_,_,_,_,pre⟩:=facts w1 hphi
         exact ⟨_,_,_,_,_,_,_,_,_,_,_,pre⟩
        ·rintro e w' ⟨rfl,w1,hphi,bm',pb',po',len',cap',clock',es',c0',et',fz',kx',pre',post⟩
         obtain ⟨ι1,bp,pp,pl,cap,bm,mb,ml,ms,c0,et,fz,p,hip1,him1,hBp,hBm,hpl,hll,hms,hcells,hnd,pre⟩:=facts w1 hphi
         have e0:=pre'.h0.symm.trans pre.h0
         simp only [Option.some.injEq,Value.slice.injEq,Addr.mk.injEq,and_true] at e0
         obtain ⟨⟨rfl,rfl⟩,rfl,rfl⟩:=e0
         have e1:=pre'.h1.symm.trans pre.h1
         simp only [Option.some.injEq,Value.map.injEq] at e1
         subst e1
         have e2:=pre'.hb.symm.trans pre.hb
         simp only [Option.some.injEq,Obj.map.injEq] at e2
         obtain ⟨rfl,rfl⟩:=e2
         have e3:=pre'.hp.symm.trans pre.hp
         simp only [Option.some.injEq,Obj.cells.injEq] at e3
         obtain ⟨rfl,rfl,rfl⟩:=e3
         obtain ⟨cur,hcur,hcsz,hpg⟩:=post.pages
         obtain ⟨g1,g2,g3⟩:=zka hw hl2 hnd
         have hkx:∀ x∈es'.toList,∃ q∈es,MR ι1 q x∧q.1=(kx' x:Int):=fun x hx=>by
          obtain ⟨q,hq,hqx⟩:=hms.memR x hx
          have h1:=(pre'.hk x hx).1
          rw [hqx.1] at h1
          exact ⟨q,hq,hqx,(Value.int.inj h1).2⟩
         have hbml:bm' < w1.heap.size:=by
          rcases Nat.lt_or_ge bm' w1.heap.size with h | h
          ·exact h
          ·have:=pre.hb;simp [Array.getElem?_eq_none h] at this
         have hbml':=Nat.lt_of_lt_of_le hbml post.size
         let wm:World:={ w' with heap:=w'.heap.setIfInBounds bm' (.map es' clock') }
         have hwm:wm.heap[bm']? = some (.map es' clock'):=by simp [wm,hbml']
         have hwo:∀ x,x≠bm'→wm.heap[x]? = w'.heap[x]?:=fun x hx=>by simp [wm,Array.getElem?_setIfInBounds_ne (Ne.symm hx)]
         have hws:wm.heap.size=w'.heap.size:=by simp [wm]
         have hP1:Post B ι1 h1 w1 ι1 (h1.put pb (.cells l')) wm:=by
          refine Post.put p.rel p.fresh hgp rfl rfl hip1 ⟨hBp,cur,et',fz',by rw [hwo _ (Ne.symm pre.hbm)];exact hcur,by omega,by omega,by rw [hcsz];exact pre.hfz,fun j x hx=>?_⟩ (by rw [hws];exact post.size) (fun x hx hxl=>?_) post.os post.output post.tape
          ·rcases hpg (pp + j) with ⟨y,hy,_,hyj,hyv⟩ | ⟨hno,hyv⟩
           ·obtain ⟨q,hq,hqy,hqk⟩:=hkx y hy
            obtain ⟨k,hk1,hk2,_,hk3⟩:=g2 q hq
            have:po + k=j:=by omega
            rw [this] at hk3
            rw [hk3] at hx
            simp only [Option.some.injEq] at hx
            subst hx
            exact ⟨_,hyv,hqy.2.2⟩
           ·rw [g3 j (fun q hq e=>?_)] at hx
            ·obtain ⟨v,hv,hcr⟩:=hcells j x hx
             exact ⟨v,hyv.trans hv,hcr⟩
            ·have hsome:∃ y∈es'.toList,MR ι1 q y:=by
              obtain ⟨k,hk⟩:=List.getElem?_of_mem hq
              obtain ⟨y,hy,hm⟩:=hms.get k q hk
              exact ⟨y,List.mem_of_getElem? hy,hm⟩
             obtain ⟨y,hy,hm⟩:=hsome
             have h2:=(pre'.hk y hy).1
             rw [hm.1] at h2
             have h3:=(Value.int.inj h2).2
             exact hno y hy trivial (by omega)
          ·by_cases hxm:x=bm'
           ·subst hxm;rw [hwm];exact pre.hb.symm
           ·rw [hwo x hxm];exact post.other x hxl hx hxm
         have hgm':(h1.put pb (.cells l')).get m=some (.map clock' es):=by
          rw [Heap.get_put];simp only [upd,hmp,if_false];exact hgm
         have hP2:Post B ι1 (h1.put pb (.cells l')) wm ι1 ((h1.put pb (.cells l')).put m (.map clock' [])) w' :=
          Post.put hP1.rel hP1.fresh hgm' rfl rfl him1 ⟨hBm,#[],post.map,trivial,by simp,by simp,by simp⟩ (by rw [hws];exact Nat.le_refl _) (fun x hx _=>(hwo x hx).symm) rfl rfl rfl
         exact ⟨_,rfl,ι1,rfl,(p.trans hP1).trans hP2⟩
       ·cases he
     ·cases he
    ·cases he
  ·cases he
 ·cases he
end Lav
namespace Lav
open Go
abbrev Over:=Nat→Option (Call→List AV→Heap→Option (AV × Heap))
noncomputable def evCallO (o:Over) (table:List (Nat × IRF)) (N:Nat) (d:Nat):Call :=
 Nat.rec (fun _ _ _=>none) (fun _ ih f args h=>match o f with
  | some g=>g ih args h
  | none=>callF1 ih N args h (lookF table f)) d
def zp8 (P:Program) (o:Over):Prop:=∀ f g,o f=some g→∀ call,CallOK P call→∀ args h r h',g call args h=some (r,h')→zsx P f ∧
 ∀ B ι w (vs:List Value),HR B ι h.get w→(∀ i,h.next≤i→ι i=none)→All2 (AR ι) args vs→Calls P f vs.toArray w fun e w'=>∃ v,e = .returned v∧zim B ι h w r h' v w'
theorem zit (o:Over) (table:List (Nat × IRF)) (N d f:Nat) (args:List AV) (h:Heap):evCallO o table N (d + 1) f args h=match o f with
  | some g=>g (evCallO o table N d) args h
  | none=>zem table N (evCallO o table N d) f args h:=by
 show (match o f with
  | some g=>g (evCallO o table N d) args h
  | none=>callF1 (evCallO o table N d) N args h (lookF table f))=_
 rw [zra]
theorem evCallO_sound {P:Program} {o:Over} {table:List (Nat × IRF)} (hm:P.follows .mixedOrders=true) (ht:TableOK P table) (hO:zp8 P o) (N:Nat):∀ d,CallOK P (evCallO o table N d)
 | 0=>fun f args h r h' he=>by cases he
 | d + 1=>by
  intro f args h r h' he
  rw [zit] at he
  cases hf:o f with
  | some g =>
   rw [hf] at he
   exact hO f g hf _ (evCallO_sound hm ht hO N d) args h r h' he
  | none =>
   rw [hf] at he
   exact zn4 hm ht N (evCallO_sound hm ht hO N d).x f args h r h' he
def zlo (waits sync acc:Nat):Over:=fun f=>bif Nat.beq f waits then some (fun _=>zhp) else bif Nat.beq f sync then some (zi7 acc) else none
theorem zwj {P:Program} {waits sync acc:Nat} (hW:zn5 P waits) (hS:zp7 P acc sync):zp8 P (zlo waits sync acc):=by
 intro f g hg call hc args h r h' he
 unfold zlo at hg
 cases hw:Nat.beq f waits with
 | true =>
  rw [hw] at hg
  simp only [cond_true,Option.some.injEq] at hg
  subst hg
  have:=Nat.eq_of_beq_eq_true hw
  subst this
  exact ⟨hW.1,fun B ι w vs hr hf ha=>zp6 hW he hr hf ha⟩
 | false =>
  rw [hw] at hg
  cases hs:Nat.beq f sync with
  | true =>
   rw [hs] at hg
   simp only [cond_false,cond_true,Option.some.injEq] at hg
   subst hg
   have:=Nat.eq_of_beq_eq_true hs
   subst this
   exact ⟨hS.1,fun B ι w vs hr hf ha=>zrb hS hc he hr hf ha⟩
  | false=>rw [hs] at hg;cases hg
end Lav
set_option maxRecDepth 100000
namespace Go.Proofs
open Go.RowKit Go.Maps Go.Sort Go.Shelf
def Tryz.keysA_ren:Go.Shelf.Ren:=⟨fun | 7=>122 | 10=>183 | n=>n,fun | 23=>116 | 26=>3 | 3=>23 | 28=>178 | 0=>0 | 27=>177 | 33=>63 | 4=>4 | n=>n,fun | n=>n⟩
theorem Tryz.keysA:Go.Proofs.SlLaysZI.n7 Tryz.prog Tryz.keysA_ren where
 mixed:=by kernel_rfl
 f7:=⟨"maps.Keys[map[int][]byte,int,[]byte]",by decide,Tryz.func122.trans (congrArg some (by kernel_rfl))⟩
 f10:=⟨"maps.Keys[map[int][]byte,int,[]byte]$1",by decide,Tryz.func183.trans (congrArg some (by kernel_rfl))⟩
 t0:=Tryz.underlying0
 a0:=Tryz.isAgg0
 z0:=Tryz.sizeOf0
 v0:=Tryz.zeroValue0
 t4:=Tryz.underlying4
 a4:=Tryz.isAgg4
 z4:=Tryz.sizeOf4
 v4:=Tryz.zeroValue4
 t23:=Tryz.underlying116
 a23:=Tryz.isAgg116
 z23:=Tryz.sizeOf116
 v23:=Tryz.zeroValue116
 t26:=Tryz.underlying3
 a26:=Tryz.isAgg3
 z26:=Tryz.sizeOf3
 v26:=Tryz.zeroValue3
 t27:=Tryz.underlying177
 a27:=Tryz.isAgg177
 z27:=Tryz.sizeOf177
 v27:=Tryz.zeroValue177
 t28:=Tryz.underlying178
 a28:=Tryz.isAgg178
 z28:=Tryz.sizeOf178
 v28:=Tryz.zeroValue178
 t33:=Tryz.underlying63
 a33:=Tryz.isAgg63
 z33:=Tryz.sizeOf63
 v33:=Tryz.zeroValue63
def Tryz.sortedA_ren:Go.Shelf.Ren:=⟨fun | 6=>121 | 8=>181 | 9=>182 | 11=>225 | 13=>227 | 12=>226 | 23=>260 | 24=>261 | 14=>251 | 15=>252 | 16=>253 | 17=>254 | 18=>255 | 19=>256 | 20=>257 | 21=>258 | 22=>259 | 25=>268 | 26=>269 | 27=>270 | 28=>271 | 29=>272 | 30=>273 | 31=>277 | n=>n,fun | 26=>3 | 28=>178 | 24=>53 | 0=>0 | 3=>3 | 37=>28 | 48=>120 | 50=>186 | 4=>4 | 40=>263 | 39=>262 | 45=>256 | 5=>5 | 9=>9 | 51=>272 | 55=>276 | 57=>280 | 58=>202 | 33=>63 | n=>n,fun | n=>n⟩
theorem Tryz.sortedA:Go.Proofs.SlLaysZI.n6 Tryz.prog Tryz.sortedA_ren where
 mixed:=by kernel_rfl
 f6:=⟨"slices.Sorted[int]",by decide,Tryz.func121.trans (congrArg some (by kernel_rfl))⟩
 f8:=⟨"slices.Collect[int]",by decide,Tryz.func181.trans (congrArg some (by kernel_rfl))⟩
 f11:=⟨"slices.AppendSeq[[]int,int]",by decide,Tryz.func225.trans (congrArg some (by kernel_rfl))⟩
 t0:=Tryz.underlying0
 a0:=Tryz.isAgg0
 z0:=Tryz.sizeOf0
 v0:=Tryz.zeroValue0
 t24:=Tryz.underlying53
 a24:=Tryz.isAgg53
 z24:=Tryz.sizeOf53
 v24:=Tryz.zeroValue53
 t26:=Tryz.underlying3
 a26:=Tryz.isAgg3
 z26:=Tryz.sizeOf3
 v26:=Tryz.zeroValue3
 t28:=Tryz.underlying178
 a28:=Tryz.isAgg178
 z28:=Tryz.sizeOf178
 v28:=Tryz.zeroValue178
 i26:=by kernel_rfl
def Tryz.sortA_ren:Go.Shelf.Ren:=⟨fun | 5=>182 | 8=>227 | 7=>226 | 19=>260 | 20=>261 | 10=>251 | 11=>252 | 12=>253 | 13=>254 | 14=>255 | 15=>256 | 16=>257 | 17=>258 | 18=>259 | 30=>268 | 31=>269 | 32=>270 | 33=>271 | 34=>272 | 35=>273 | 40=>277 | n=>n,fun | 23=>53 | 25=>3 | 3=>3 | 32=>28 | 22=>53 | 0=>0 | 44=>120 | 46=>186 | 4=>4 | 36=>263 | 35=>262 | 41=>256 | 5=>5 | 9=>9 | 53=>272 | 57=>276 | 63=>280 | 64=>202 | n=>n,fun | n=>n⟩
theorem Tryz.sortA:Go.Proofs.SlLaysM.n5 Tryz.prog Tryz.sortA_ren where
 mixed:=by kernel_rfl
 f5:=⟨"slices.Sort[[]int,int]",by decide,Tryz.func182.trans (congrArg some (by kernel_rfl))⟩
 f7:=⟨"slices.pdqsortOrdered[int]",by decide,Tryz.func226.trans (congrArg some (by kernel_rfl))⟩
 f8:=Tryz.func227.trans (congrArg some (by kernel_rfl))
 f10:=⟨"slices.insertionSortOrdered[int]",by decide,Tryz.func251.trans (congrArg some (by kernel_rfl))⟩
 f11:=⟨"slices.heapSortOrdered[int]",by decide,Tryz.func252.trans (congrArg some (by kernel_rfl))⟩
 f12:=⟨"slices.breakPatternsOrdered[int]",by decide,Tryz.func253.trans (congrArg some (by kernel_rfl))⟩
 f13:=⟨"slices.choosePivotOrdered[int]",by decide,Tryz.func254.trans (congrArg some (by kernel_rfl))⟩
 f14:=⟨"slices.reverseRangeOrdered[int]",by decide,Tryz.func255.trans (congrArg some (by kernel_rfl))⟩
 f15:=⟨"slices.partialInsertionSortOrdered[int]",by decide,Tryz.func256.trans (congrArg some (by kernel_rfl))⟩
 f16:=⟨"cmp.Less[int]",by decide,Tryz.func257.trans (congrArg some (by kernel_rfl))⟩
 f17:=⟨"slices.partitionEqualOrdered[int]",by decide,Tryz.func258.trans (congrArg some (by kernel_rfl))⟩
 f18:=⟨"slices.partitionOrdered[int]",by decide,Tryz.func259.trans (congrArg some (by kernel_rfl))⟩
 f19:=Tryz.func260.trans (congrArg some (by kernel_rfl))
 f20:=Tryz.func261.trans (congrArg some (by kernel_rfl))
 f30:=⟨"slices.siftDownOrdered[int]",by decide,Tryz.func268.trans (congrArg some (by kernel_rfl))⟩
 f31:=Tryz.func269.trans (congrArg some (by kernel_rfl))
 f32:=Tryz.func270.trans (congrArg some (by kernel_rfl))
 f33:=⟨"slices.medianAdjacentOrdered[int]",by decide,Tryz.func271.trans (congrArg some (by kernel_rfl))⟩
 f34:=⟨"slices.medianOrdered[int]",by decide,Tryz.func272.trans (congrArg some (by kernel_rfl))⟩
 f35:=⟨"cmp.isNaN[int]",by decide,Tryz.func273.trans (congrArg some (by kernel_rfl))⟩
 f40:=⟨"slices.order2Ordered[int]",by decide,Tryz.func277.trans (congrArg some (by kernel_rfl))⟩
 t0:=Tryz.underlying0
 a0:=Tryz.isAgg0
 z0:=Tryz.sizeOf0
 v0:=Tryz.zeroValue0
 t3:=Tryz.underlying3
 a3:=Tryz.isAgg3
 z3:=Tryz.sizeOf3
 v3:=Tryz.zeroValue3
 t4:=Tryz.underlying4
 a4:=Tryz.isAgg4
 z4:=Tryz.sizeOf4
 v4:=Tryz.zeroValue4
 t5:=Tryz.underlying5
 a5:=Tryz.isAgg5
 z5:=Tryz.sizeOf5
 v5:=Tryz.zeroValue5
 t9:=Tryz.underlying9
 a9:=Tryz.isAgg9
 z9:=Tryz.sizeOf9
 v9:=Tryz.zeroValue9
 t22:=Tryz.underlying53
 a22:=Tryz.isAgg53
 z22:=Tryz.sizeOf53
 v22:=Tryz.zeroValue53
 t23:=Tryz.underlying53
 a23:=Tryz.isAgg53
 z23:=Tryz.sizeOf53
 v23:=Tryz.zeroValue53
 t25:=Tryz.underlying3
 a25:=Tryz.isAgg3
 z25:=Tryz.sizeOf3
 v25:=Tryz.zeroValue3
 t32:=Tryz.underlying28
 a32:=Tryz.isAgg28
 z32:=Tryz.sizeOf28
 v32:=Tryz.zeroValue28
 t35:=Tryz.underlying262
 a35:=Tryz.isAgg262
 z35:=Tryz.sizeOf262
 v35:=Tryz.zeroValue262
 t36:=Tryz.underlying263
 a36:=Tryz.isAgg263
 z36:=Tryz.sizeOf263
 v36:=Tryz.zeroValue263
 t41:=Tryz.underlying256
 a41:=Tryz.isAgg256
 z41:=Tryz.sizeOf256
 v41:=Tryz.zeroValue256
 t44:=Tryz.underlying120
 a44:=Tryz.isAgg120
 z44:=Tryz.sizeOf120
 v44:=Tryz.zeroValue120
 t46:=Tryz.underlying186
 a46:=Tryz.isAgg186
 z46:=Tryz.sizeOf186
 v46:=Tryz.zeroValue186
 t53:=Tryz.underlying272
 a53:=Tryz.isAgg272
 z53:=Tryz.sizeOf272
 v53:=Tryz.zeroValue272
 t57:=Tryz.underlying276
 a57:=Tryz.isAgg276
 z57:=Tryz.sizeOf276
 v57:=Tryz.zeroValue276
 t63:=Tryz.underlying280
 a63:=Tryz.isAgg280
 z63:=Tryz.sizeOf280
 v63:=Tryz.zeroValue280
 t64:=Tryz.underlying202
 a64:=Tryz.isAgg202
 z64:=Tryz.sizeOf202
 v64:=Tryz.zeroValue202
theorem Tryz.sortsA (m:Nat):AnyZI.SortsIn Tryz.prog Tryz.sortedA_ren Fence.wide m :=
  ⟨fun blk off cap ss W hH hblk hsz=>callsIn_wide.2 (AnyM.slices_Sort_int Tryz.sortA blk off cap ss W hH hblk hsz),
   fun p cap W=>callsIn_wide.2 (AnyM.slices_Sort_int_none Tryz.sortA p cap W)⟩
set_option maxHeartbeats 1000000 in
theorem Tryz.waits {H:Type} (b nn:Nat) (D0:DataW H) (R:Value→Option (DataW H × List MemPlace)) (w:World) (bd od:Nat) (ha:w.cell? ⟨bd,od + 1,none⟩=some (.map (some b))) (hown:w.ownsMap Tryz.prog 3 R b nn D0) (hmax:Maps.size D0≤maxLen) (hbytes:Maps.size D0 * 8≤140737488355328) :
  Calls Tryz.prog 82 #[.pointer (some ⟨bd,od,none⟩)] w fun e w'=>∃ (v:Value) (ss:List Int),e = .returned v∧ss.Perm (intKeys D0) ∧
   w'.ownsRow w.heap.size 3 1 v ss.length ((ss.mergeSort (fun x y=>decide (x≤y))).map encZ)∧(v = .slice none 0 0↔ss=[])∧Below w.heap.size w w':=by
 refine (callsIn_wide (n:=6)).1 ?_
 have hbl:=hown.lt
 have hseq:SeqGives Fence.wide 2 Tryz.prog 183 #[.pointer (some ⟨w.heap.size,0,none⟩)] encZ (fun ss=>ss.Perm (intKeys D0)) (Maps.size D0) (w.alloc (.cells #[.map (some b)] 116)) :=
  AnyZI.keys_gives (ρ:=Tryz.keysA_ren) { Tryz.keysA with } Fence.wide _ trivial rfl (by omega) w.heap.size b nn D0 _ (by simp) (by simp) (by
   obtain ⟨es,clock,hb,Ft,hs,hD⟩:=hown
   exact ⟨es,clock,(Below.heap_alloc _ _ b hbl).trans hb,Ft,hs,hD⟩)
 have cK:∀ mb W,CallsIn Fence.wide 5 Tryz.prog 122 #[.map mb] W fun e w'=>e = .returned (.func (.func 183) #[] #[.pointer (some ⟨W.heap.size,0,none⟩)])∧w'=W.alloc (.cells #[.map mb] 116):=fun mb W=>AnyZI.keys_in Tryz.keysA Fence.wide 5 trivial rfl mb W
 have cS:=AnyZI.sorted_in Tryz.sortedA Fence.wide 5 trivial trivial trivial trivial rfl (by omega) (Tryz.sortsA _) (enters_of Tryz.func182 (by kernel_rfl) rfl) 183 #[.pointer (some ⟨w.heap.size,0,none⟩)] trivial (enters_of Tryz.func183 (by kernel_rfl) rfl) _ _ hmax hbytes _ hseq
 change CallsIn _ _ Tryz.prog 121 _ _ _ at cS
 have hfK:Fence.wide.fn 122:=trivial
 have hfS:Fence.wide.fn 121:=trivial
 refine callsIn_of_wp Tryz.func82 rfl trivial ?_ rfl
 simp only [Tryz.ntmps82,List.size_toArray,List.length_cons,List.length_nil,Nat.reduceAdd,Nat.reduceSub,Array.replicate_succ,Array.replicate_zero,List.push_toArray,List.append_toArray,List.nil_append,List.cons_append]
 gi_wp2_with (first
  | (gi_at_call 122;refine (cK _ _).mono ?_;rintro e w' ⟨rfl,rfl⟩)
  | (gi_at_call 121;refine cS.mono ?_;rintro e w' ⟨v,ss,rfl,hS,hrow,hnil,hb⟩))
 go_ret
 exact ⟨v,ss,rfl,hS,ownsRow_base_a hrow (by simp),hnil,((Below.refl _ w).alloc (Nat.le_refl _) _).trans (hb.mono (by simp))⟩
end Go.Proofs
set_option maxRecDepth 100000
namespace Go.Proofs
open Go.RowKit Go.Maps Go.Sort Go.Shelf Lav
theorem zkb (w:World) (o:Obj) (i:Nat) (h:i < w.heap.size):(w.alloc o).heap[i]? = w.heap[i]?:=by
 first | exact Go.heap_alloc_old w o i h | exact Go.heap_alloc_old w o h
theorem zk9 {P:Program} {F:Fence} {n:Nat} {ops:Array Oper} {Q:Exit→Act→World→Prop} {rest:List Oper} {o:Oper} {a:Act} (w:World) (hg:o.guard=none) (m:Operand) (t:TypeId) (hop:o.op=Op.range t m) (k e:TypeId) (ht:P.underlying t=some (.map k e)) (b:Nat) (es:Array MapEntry) (clock:Nat)
  (hm:a.eval m = .map (some b)) (hb:w.heap[b]? = some (.map es clock))
  (hK:wpListIn F n P ops Q rest (a.put o.dst (.pointer (some ⟨w.heap.size,0,none⟩))) (w.alloc (.mapIter (some b) clock #[] clock))) :
  wpListIn F n P ops Q (o :: rest) a w:=by
 refine wpListIn_plain hg fun K' hK'=>?_
 have hrun:=run_range_map (P:=P) w t k e b es clock ht hb
 unfold Oper.wpIn
 refine ⟨?_,?_⟩
 ·simp [Oper.about,hop]
 ·rw [Oper.semAt_plain F _ _ (by rw [hop];intro c hc';cases hc')]
  simp [execOp,hop,hm,hrun,Result.andThen]
  exact hK' _ _ hK
theorem zlv {P:Program} {F:Fence} {n:Nat} {ops:Array Oper} {Q:Exit→Act→World→Prop} {rest:List Oper} {o:Oper} {a:Act} (w:World) (hg:o.guard=none) (it:Operand) (hop:o.op=Op.next it false) (b r c0:Nat) (seen:Array Nat) (es:Array MapEntry) (clock:Nat)
  (hit:a.eval it = .pointer (some ⟨r,0,none⟩)) (hr:w.heap[r]? = some (.mapIter (some b) clock seen c0)) (hb:w.heap[b]? = some (.map es clock)) (hold:∀ x∈es.toList,x.born < clock) (hsc:clock≤c0) (hn:(es.toList.map (·.born)).Nodup) (hrb:r≠b)
  (hDone:(leftOf es seen).size=0→wpListIn F n P ops Q rest (a.put o.dst (.tuple #[.bool false])) w)
  (hMore:∀ (e:MapEntry) (w':World),e∈es.toList→e.born ∉ seen.toList→w'.heap[r]? = some (.mapIter (some b) clock (seen.push e.born) clock)→w.grownBy w' (some r)→w'.heap.size=w.heap.size →
   (Instr.entry (.pointer (some ⟨r,0,none⟩))).run P w' = .ok (.tuple #[e.key,e.val]) w'→wpListIn F n P ops Q rest (a.put o.dst (.tuple #[.bool true,e.key,e.val])) w') :
  wpListIn F n P ops Q (o :: rest) a w:=by
 refine wpListIn_plain hg fun K' hK'=>?_
 unfold Oper.wpIn
 refine ⟨by simp [Oper.about,hop],?_⟩
 rw [Oper.semAt_plain F _ _ (by rw [hop];intro c hc';cases hc')]
 have hlt:r < w.heap.size:=by
  rcases Nat.lt_or_ge r w.heap.size with h | h
  ·exact h
  ·simp [Array.getElem?_eq_none h] at hr
 rcases run_next_at (P:=P) w o.type r b clock c0 seen es clock hr hb hold hsc with ⟨h0,hrun⟩ | ⟨e,he,w1,hw1,hrun⟩
 ·simp [execOp,hop,hit,hrun,Result.andThen]
  exact hK' _ _ (hDone h0)
 ·simp [leftOf] at he
  simp [execOp,hop,hit,hrun,Result.andThen]
  have hh:w1.heap=w.heap:=by rcases hw1 with rfl | rfl<;>rfl
  have h1:(ChangeMaps.setBlock w1 r (.mapIter (some b) clock (seen.push e.born) clock)).heap[r]? = some (.mapIter (some b) clock (seen.push e.born) clock):=by
   simp [ChangeMaps.setBlock,hh,hlt]
  have hg:w.grownBy (ChangeMaps.setBlock w1 r (.mapIter (some b) clock (seen.push e.born) clock)) (some r):=by
   refine ⟨?_,?_,?_,?_,?_⟩
   ·rcases hw1 with rfl | rfl<;>rfl
   ·rcases hw1 with rfl | rfl<;>rfl
   ·rcases hw1 with rfl | rfl<;>rfl
   ·simp [ChangeMaps.setBlock,hh]
   ·intro k hk hne
    have:r≠k:=fun e=>hne (by rw [e])
    simp [ChangeMaps.setBlock,hh,Array.getElem?_setIfInBounds_ne this]
  refine hK' _ _ (hMore e _ (by simpa using he.1) (by simpa using he.2) h1 hg (by simp [ChangeMaps.setBlock,hh]) ?_)
  exact run_entry_at _ r b clock seen es clock e h1 ((hg.block b (by
   rcases Nat.lt_or_ge b w.heap.size with h | h
   ·exact h
   ·simp [Array.getElem?_eq_none h] at hb) (fun h=>hrb (Option.some.inj h).symm)).trans hb) (by simpa using he.1) hn
theorem zwk {es:Array MapEntry} {seen:Array Nat} (h:(leftOf es seen).size=0):∀ x∈es.toList,x.born∈seen.toList:=by
 intro x hx
 have:leftOf es seen = #[]:=Array.eq_empty_of_size_eq_zero h
 unfold leftOf at this
 rw [Array.filter_eq_empty_iff] at this
 have:=this x (by simpa using hx)
 simpa using this
set_option maxHeartbeats 1000000 in
theorem Tryz.sync (w:World) (bd od:Nat) (Φ:World→Prop) (hacc:Calls Tryz.prog 196 #[.pointer (some ⟨bd,od,none⟩)] w fun e w1=>e = .returned (.int .i64 0)∧Φ w1)
    (hpre:∀ w1,Φ w1→∃ bm pb po len cap clock es c0 et fz kx,SyncPre w1 bd od bm pb po len cap clock es c0 et fz kx) :
    Calls Tryz.prog 178 #[.pointer (some ⟨bd,od,none⟩)] w fun e w'=>e = .returned (.int .i64 0)∧∃ w1,Φ w1∧∃ bm pb po len cap clock es c0 et fz kx,SyncPre w1 bd od bm pb po len cap clock es c0 et fz kx∧SyncPost w1 w' bm pb po clock es c0 et fz kx:=by
  replace hacc:=(callsIn_wide (n:=5)).2 hacc
  refine (callsIn_wide (n:=6)).1 ?_
  have hfA:Fence.wide.fn 196:=trivial
  refine callsIn_of_wp Tryz.func178 rfl trivial ?_ rfl
  simp only [Tryz.ntmps178,List.size_toArray,List.length_cons,List.length_nil,Nat.reduceAdd,Nat.reduceSub,Array.replicate_succ,Array.replicate_zero,List.push_toArray,List.append_toArray,List.nil_append,List.cons_append]
  gi_wp2_with (first
    | (gi_at_call 196;refine hacc.mono ?_;rintro e w1 ⟨rfl,hphi⟩
       obtain ⟨bm,pb,po,len,cap,clock,es,c0,et,fz,kx,pre⟩:=hpre w1 hphi
       have h0:=pre.h0
       have h1:=pre.h1
       have hb:=pre.hb)
    | (gi_at_range;refine zk9 _ rfl _ 116 rfl 3 23 Tryz.underlying116 bm es clock rfl hb ?_)
    | gi_in)
  have hp:=pre.hp
  have hfz:=pre.hfz
  have hpo:=pre.hpo
  have hbd:=pre.hbd
  have hbm:=pre.hbm
  have hold:=pre.hold
  have hn:=pre.hn
  have hk:=pre.hk
  have hone:=pre.hone
  have lt_of:∀ {x:Nat} {o:Obj},w1.heap[x]? = some o→x < w1.heap.size:=fun {x o} hx=>by
    rcases Nat.lt_or_ge x w1.heap.size with h | h
    · exact h
    · simp [Array.getElem?_eq_none h] at hx
  have hbml:=lt_of hb
  have hpbl:=lt_of hp
  have hbdl:bd < w1.heap.size:=by
    rcases Nat.lt_or_ge bd w1.heap.size with h | h
    · exact h
    · simp [World.cell?,Array.getElem?_eq_none h] at h0
  go_frame
  gi_loopw [4,5] (fun _ _ wr=>∃ (seen:Array Nat) (k0:Nat) (cur:Array Value),wr.heap[bm]? = some (.map es clock)∧wr.heap[w1.heap.size]? = some (.mapIter (some bm) clock seen k0)∧clock≤k0∧wr.heap[pb]? = some (.cells cur et fz) ∧
      PagesAt c0 po kx es.toList (fun b=>b∈seen.toList) cur∧(∀ x,x < w1.heap.size→x≠pb→wr.heap[x]? = w1.heap[x]?)∧wr.os=w1.os∧wr.tape=w1.tape∧wr.output=w1.output∧w1.heap.size < wr.heap.size)
    (fun _ _ wr=>wr.rangeLeft bm w1.heap.size)
  case atStart =>
    refine ⟨#[],clock,c0,?_,Go.heap_alloc_new w1 _,Nat.le_refl _,?_,PagesAt.start,fun x hx _=>zkb w1 _ _ hx,rfl,rfl,rfl,?_⟩
    · rw [zkb w1 _ _ hbml];exact hb
    · rw [zkb w1 _ _ hpbl];exact hp
    · show _ < (w1.heap.push _).size;simp
  case round =>
    obtain ⟨seen,k0,cur,r1,r2,r3,r4,r5,r6,r7,r8,r9,r10⟩:=hrel
    have hbdw:=r6 bd hbdl hbd
    have hcs:=r5.1
    gi_wp2_with (first
      | (gi_at_next;refine zlv _ rfl _ rfl bm w1.heap.size k0 seen es clock rfl r2 r1 hold r3 hn (by omega) ?_ ?_)
      | gi_in)
    · intro hz
      have hall:=zwk (show (leftOf es seen).size=0 by simpa using hz)
      have hc1:wr.cell? ⟨bd,od + 1,none⟩=some (.map (some bm)):=by rw [World.cell?_of_block hbdw];exact h1
      have hcl:(Builtin.clear_ #[116] 0 #[.map (some bm)]).run Tryz.prog wr = .ok (.tuple #[]) (ChangeMaps.setBlock wr bm (.map #[] clock)):=by
        simp [Builtin.clear_,run_underlying Tryz.underlying116,getObj,setObj,Sem.run,r1,ChangeMaps.setBlock]
      have z2:wr.grownBy (ChangeMaps.setBlock wr bm (.map #[] clock)) (some bm):=⟨rfl,rfl,rfl,by simp [ChangeMaps.setBlock],fun k hk hne=>by
        have:bm≠k:=fun e=>hne (by rw [e])
        simp [ChangeMaps.setBlock,Array.getElem?_setIfInBounds_ne this]⟩
      have z1:(ChangeMaps.setBlock wr bm (.map #[] clock)).heap[bm]? = some (.map #[] clock):=by
        have:bm < wr.heap.size:=by omega
        simp [ChangeMaps.setBlock,this]
      gi_wp2
      go_ret
      refine ⟨rfl,w1,hphi,bm,pb,po,len,cap,clock,es,c0,et,fz,kx,pre,⟨cur,?_,⟨hcs,fun q=>?_⟩⟩,z1,fun x hx h1 h2=>?_,?_,?_,?_,?_⟩
      · rw [z2.block pb (by omega) (fun h=>hbm (Option.some.inj h).symm)];exact r4
      · rcases r5.2 q with ⟨x,hx,_,h2,h3⟩ | ⟨h2,h3⟩
        · exact .inl ⟨x,hx,trivial,h2,h3⟩
        · exact .inr ⟨fun x hx _=>h2 x hx (hall x hx),h3⟩
      · rw [z2.block x (by omega) (fun h=>h2 (Option.some.inj h)),r6 x hx h1]
      · rw [z2.os,r7]
      · rw [z2.tape,r8]
      · rw [z2.output,r9]
      · have:=z2.size;omega
    · intro e w2 he hne hr2 hg2 hs2 hen
      have he:e∈es.toList:=by simpa using he
      obtain ⟨hkx,hkl⟩:=hk e he
      obtain ⟨ua,un,uc,hev⟩:=hone e he
      have hpb2:w2.heap[pb]? = some (.cells cur et fz):=by rw [hg2.block pb (by omega) (fun h=>by have:=Option.some.inj h;omega)];exact r4
      have hbd2:w2.heap[bd]? = w1.heap[bd]?:=by rw [hg2.block bd (by omega) (fun h=>by have:=Option.some.inj h;omega)];exact hbdw
      have hc0:w2.cell? ⟨bd,od,none⟩=some (.slice (some ⟨pb,po,none⟩) len cap):=by rw [World.cell?_of_block (w:=w1) hbd2];exact h0
      rw [hkx,hev] at hen
      have hlt:po + kx e < cur.size:=by omega
      have hcell:w2.cell? ⟨pb,po + kx e,none⟩=some (cur[po + kx e]'hlt):=by simp [World.cell?,hpb2,hlt]
      have hfr:w2.frozen? ⟨pb,po + kx e,none⟩=false:=by
        obtain ⟨lo',hi'⟩:=fz
        simp only [World.frozen?,hpb2]
        simp only at hfz
        rcases hfz with h' | h'
        · subst h'
          cases hd:decide (lo'≤po + kx e) with
          | false=>rfl
          | true=>simp at hd ⊢;omega
        · simp;omega
      gi_wp2
      have hw:(w2.setCell ⟨pb,po + kx e,none⟩ (Value.slice ua un uc)).heap[pb]? = some (.cells (cur.setIfInBounds (po + kx e) (Value.slice ua un uc)) et fz):=by simp [World.setCell,Array.getElem?_modify,hpb2]
      have hwo:∀ x,x≠pb→(w2.setCell ⟨pb,po + kx e,none⟩ (Value.slice ua un uc)).heap[x]? = w2.heap[x]?:=fun x hx=>by simp [World.setCell,Array.getElem?_modify,Ne.symm hx]
      have hws:(w2.setCell ⟨pb,po + kx e,none⟩ (Value.slice ua un uc)).heap.size=w2.heap.size:=by simp [World.setCell]
      have hm2:w2.heap[bm]? = some (.map es clock):=by rw [hg2.block bm (by omega) (fun h=>by have:=Option.some.inj h;omega)];exact r1
      have hst:=r5.step he hn hkl hpo
      rw [hev] at hst
      refine ⟨⟨seen.push e.born,clock,_,by rw [hwo bm hbm];exact hm2,by rw [hwo _ (by omega)];exact hr2,Nat.le_refl _,hw,hst,fun x hx hxp=>?_,?_,?_,?_,by rw [hws,hs2];exact r10⟩,?_⟩
      · rw [hwo x hxp,hg2.block x (by omega) (fun h=>by have:=Option.some.inj h;omega),r6 x hx hxp]
      · exact hg2.os.trans r7
      · exact hg2.tape.trans r8
      · exact hg2.output.trans r9
      · simp only [World.rangeLeft,hwo bm hbm,hwo w1.heap.size (by omega),hm2,hr2,r1,r2]
        have hsz:∀ sn:Array Nat,(leftOf es sn).size=(es.toList.filter fun e=>!sn.contains e.born).length:=fun sn=>by
          unfold leftOf
          rw [← Array.toList_filter,Array.length_toList]
        rw [hsz,hsz]
        refine filter_lt _ _ (fun x hx=>?_) e ?_ ?_ _ he
        · simp at hx ⊢;exact fun h=>hx.1 h
        · simp at hne ⊢;exact hne
        · simp
theorem Tryz.syncE (w:World) (bd od:Nat) (n:Int) (hn:n≠0) (Φ:World→Prop) (hacc:Calls Tryz.prog 196 #[.pointer (some ⟨bd,od,none⟩)] w fun e w1=>e = .returned (.int .i64 n)∧Φ w1) :
  Calls Tryz.prog 178 #[.pointer (some ⟨bd,od,none⟩)] w fun e w'=>e = .returned (.int .i64 n)∧Φ w':=by
 replace hacc:=(callsIn_wide (n:=5)).2 hacc
 refine (callsIn_wide (n:=6)).1 ?_
 have hfA:Fence.wide.fn 196:=trivial
 refine callsIn_of_wp Tryz.func178 rfl trivial ?_ rfl
 simp only [Tryz.ntmps178,List.size_toArray,List.length_cons,List.length_nil,Nat.reduceAdd,Nat.reduceSub,Array.replicate_succ,Array.replicate_zero,List.push_toArray,List.append_toArray,List.nil_append,List.cons_append]
 gi_wp2_with (first
  | (gi_at_call 196;refine hacc.mono ?_;rintro e w1 ⟨rfl,hphi⟩)
  | gi_in)
 go_ret
 exact ⟨rfl,hphi⟩
end Go.Proofs
set_option maxRecDepth 100000
namespace Go.Proofs
open Go.RowKit Go.Maps Go.Sort Go.Shelf Go.MapKept Go.WideShapes
open Go.WideElems (Fit rd rg)
def noR:Value→Option (DataW Unit × List MemPlace):=fun _=>some (.nil,[])
theorem Tryz.waitsP (w:World) (b bd od clock:Nat) (ms:Array MapEntry) (ks:List Int) (ha:w.cell? ⟨bd,od + 1,none⟩=some (.map (some b))) (hb:w.heap[b]? = some (.map ms clock)) (hk:ms.toList.map (·.key)=ks.map (Value.int .i64)) (hwf:∀ k∈ks,(Lit.int .i64 k).wf=true) (hst:Stamped ms clock) (hlen:ms.size≤1000) :
  Calls Tryz.prog 82 #[.pointer (some ⟨bd,od,none⟩)] w fun e w'=>∃ (v:Value) (ss:List Int),e = .returned v∧ss.Perm ks∧ss.Pairwise (fun x y=>x≤y) ∧
   w'.ownsRow w.heap.size 3 1 v ss.length (ss.map encZ)∧(v = .slice none 0 0↔ss=[])∧Below w.heap.size w w':=by
 have key:∀ x∈ms.toList,∃ k∈ks,x.key = .int .i64 k∧keyOf Tryz.prog 3 x.key=some (.int .i64 k):=by
  intro x hx
  have:x.key∈ks.map (Value.int .i64):=by rw [← hk];exact List.mem_map.2 ⟨x,hx,rfl⟩
  obtain ⟨k,h1,h2⟩:=List.mem_map.1 this
  exact ⟨k,h1,h2.symm,by rw [← h2];exact keyOf_int_mk Tryz.underlying3 (hwf k h1)⟩
 have hrd:∀ x∈ms.toList,∃ k,x.key = .int .i64 k∧rd Tryz.prog 3 noR x=some (.int .i64 k,.nil):=by
  intro x hx
  obtain ⟨k,_,h1,h2⟩:=key x hx
  exact ⟨k,h1,by simp [WideElems.rd,h2,noR]⟩
 have hfit:Fit Tryz.prog 3 noR ms clock:=⟨Nat.le_trans hlen (by decide),hst,fun x hx=>let ⟨k,_,h⟩:=hrd x hx;⟨_,h⟩⟩
 let D0:DataW Unit:=.map ((ms.toList.map (rg Tryz.prog 3 noR)).foldr DataW.insert [])
 have hown:w.ownsMap Tryz.prog 3 noR b 1000 D0:=⟨ms,clock,hb,hfit,hlen,rfl⟩
 have hsz:Maps.size D0=ms.size:=by
  show ((ms.toList.map (rg Tryz.prog 3 noR)).foldr DataW.insert []).length=_
  rw [(sorted_perm _).length_eq];simp
 have hperm:(intKeys D0).Perm ks:=by
  have h1:(intKeys D0).Perm ((ms.toList.map (rg Tryz.prog 3 noR)).map fun p=>_root_.Go.intOf p.1):=(sorted_perm _).map _
  have h2:((ms.toList.map (rg Tryz.prog 3 noR)).map fun p=>_root_.Go.intOf p.1)=ks:=by
   have h3:(ks.map (Value.int .i64)).map (fun v=>match v with | .int _ a=>a | _=>0)=ks:=by
    rw [List.map_map];exact List.map_id' _
   rw [← h3,← hk,List.map_map,List.map_map]
   refine List.map_congr_left fun x hx=>?_
   obtain ⟨k,h4,h5⟩:=hrd x hx
   simp [WideElems.rg,h5,h4,_root_.Go.intOf]
  rw [h2] at h1;exact h1
 refine (Tryz.waits b 1000 D0 noR w bd od ha hown (by rw [hsz];exact Nat.le_trans hlen (by decide)) (by rw [hsz];omega)).mono ?_
 rintro e w' ⟨v,ss,rfl,h1,h2,h3,h4⟩
 have hl:(ss.mergeSort fun x y=>decide (x≤y)).length=ss.length:=(List.mergeSort_perm _ _).length_eq
 refine ⟨v,ss.mergeSort fun x y=>decide (x≤y),rfl,((List.mergeSort_perm _ _).trans h1).trans hperm,?_,by rw [hl];exact h2,?_,h4⟩
 ·have:=List.pairwise_mergeSort (le:=fun x y:Int=>decide (x≤y)) (fun a b c h1 h2=>by simp at *;omega) (fun a b=>by simp;omega) ss
  exact this.imp fun h=>by simpa using h
 ·rw [h3]
  constructor
  ·rintro rfl;simp
  ·intro h
   have:=hl
   rw [h] at this
   exact List.eq_nil_of_length_eq_zero this.symm
end Go.Proofs
set_option maxRecDepth 100000
namespace Lav
open Go Go.Proofs
theorem zwl:zn5 Tryz.prog 82 :=
 ⟨⟨_,Tryz.func82,by decide,by decide⟩,3,fun w b bd od clock ms ks h1 h2 h3 h4 h5 h6=>Tryz.waitsP w b bd od clock ms ks h1 h2 h3 h4 h5 h6⟩
theorem zyz:zp7 Tryz.prog 196 178 :=
 ⟨⟨_,Tryz.func178,by decide,by decide⟩,fun w bd od Φ=>⟨fun h1 h2=>Tryz.sync w bd od Φ h1 h2,fun n hn h=>Tryz.syncE w bd od n hn Φ h⟩⟩
theorem over_ok:zp8 Tryz.prog (zlo 82 178 196):=zwj zwl zyz
end Lav
set_option linter.unusedVariables false
namespace Lav
open Go (IntKind BinOp UnOp)
def CV.mv (τ:Nat→Int) (ρ:Nat→Nat):CV→CV
 | .ptr i o=>.ptr (ρ i) o
 | .sl i o n c=>.sl (ρ i) o n c
 | .ch i=>.ch (ρ i)
 | .fn f caps=>.fn f (caps.map fun p=>(ρ p.1,p.2))
 | .mp i=>.mp (ρ i)
 | .bool b=>.bool b
 | .int k n=>.int k n
 | .res false 0 r=>.int .i64 (τ r)
 | .res u m r=>.res u m r
 | .str l=>.str l
 | .nilp=>.nilp
 | .nils=>.nils
 | .nilch=>.nilch
 | .nilf=>.nilf
 | .nilm=>.nilm
def mvs (τ:Nat→Int) (ρ:Nat→Nat) (l:List CV):List CV:=l.map (CV.mv τ ρ)
def XV.mv (τ:Nat→Int) (ρ:Nat→Nat):XV→XV
 | .c v=>.c (v.mv τ ρ)
 | .agg l=>.agg (mvs τ ρ l)
def AV.mv (τ:Nat→Int) (ρ:Nat→Nat):AV→AV
 | .c v=>.c (v.mv τ ρ)
 | .agg l=>.agg (mvs τ ρ l)
 | .tup l=>.tup (l.map (XV.mv τ ρ))
 | .junk=>.junk
def mva (τ:Nat→Int) (ρ:Nat→Nat) (l:List AV):List AV:=l.map (AV.mv τ ρ)
def Ent.mv (τ:Nat→Int) (ρ:Nat→Nat) (e:Ent):Ent:=(e.1,e.2.1,e.2.2.mv τ ρ)
def Blk.mv (τ:Nat→Int) (ρ:Nat→Nat):Blk→Blk
 | .cells l=>.cells (mvs τ ρ l)
 | .ro l=>.ro (mvs τ ρ l)
 | .chan c b=>.chan c (b.map (XV.mv τ ρ))
 | .map c es=>.map c (es.map (Ent.mv τ ρ))
def CV.cl:CV→Bool
 | .ptr _ _ | .sl _ _ _ _ | .ch _ | .mp _=>false
 | .fn _ l=>l.isEmpty
 | .res _ _ _=>false
 | _=>true
def XV.cl:XV→Bool
 | .c v=>v.cl
 | .agg l=>l.all CV.cl
def AV.cl:AV→Bool
 | .c v=>v.cl
 | .agg l=>l.all CV.cl
 | .tup l=>l.all XV.cl
 | .junk=>true
def X.cl:X→Bool
 | .k v=>v.cl
 | _=>true
def IOp.zs:IOp→List CV
 | .mks _ z _ _ | .build z _ | .bsl _ z _ | .appz _ z _ _=>z
 | .mget z _ _ _ | .ment z _ _=>[z]
 | .recvd _ (.c v)=>[v]
 | .recvd _ (.agg l)=>l
 | _=>[]
def IOp.cl (op:IOp):Bool:=op.xs.all X.cl && op.zs.all CV.cl
def gcl:Option (X × Bool)→Bool
 | none=>true
 | some (x,_)=>x.cl
def Inst.cl (i:Inst):Bool:=i.op.cl && gcl i.guard
def IR.cl:IR→Bool
 | .reg l | .dreg _ l=>l.all Inst.cl
 | .seq a b=>a.cl && b.cl
 | .cond x a b=>x.cl && (a.cl && b.cl)
 | .block _ a | .loop _ a=>a.cl
 | _=>true
section
variable {τ:Nat→Int} {ρ:Nat→Nat}
theorem CV.mv_cl {v:CV} (h:v.cl=true):v.mv τ ρ=v:=by
 cases v with
 | fn f l=>cases l with
  | nil=>rfl
  | cons a l=>cases h
 | _=>first | rfl | cases h
theorem ziu {l:List CV} (h:l.all CV.cl=true):mvs τ ρ l=l:=by
 induction l with
 | nil=>rfl
 | cons a l ih =>
  simp only [List.all_cons,Bool.and_eq_true] at h
  show a.mv τ ρ :: mvs τ ρ l=_
  rw [CV.mv_cl h.1,ih h.2]
theorem XV.mv_cl {v:XV} (h:v.cl=true):v.mv τ ρ=v:=by
 cases v with
 | c v=>exact congrArg XV.c (CV.mv_cl h)
 | agg l=>exact congrArg XV.agg (ziu h)
theorem AV.mv_cl {v:AV} (h:v.cl=true):v.mv τ ρ=v:=by
 cases v with
 | c v=>exact congrArg AV.c (CV.mv_cl h)
 | agg l=>exact congrArg AV.agg (ziu h)
 | tup l =>
  refine congrArg AV.tup ?_
  replace h:l.all XV.cl=true:=h
  induction l with
  | nil=>rfl
  | cons a l ih =>
   simp only [List.all_cons,Bool.and_eq_true] at h
   rw [List.map_cons,XV.mv_cl h.1,ih h.2]
 | junk=>rfl
theorem zkc (l:List AV) (i:Nat):(mva τ ρ l).getD i .junk=(l.getD i .junk).mv τ ρ:=by
 unfold mva
 rw [List.getD_eq_getElem?_getD,List.getD_eq_getElem?_getD,List.getElem?_map]
 cases l[i]?<;>rfl
theorem X.eval_mv {x:X} (hx:x.cl=true) (loc vals:List AV):x.eval (mva τ ρ loc) (mva τ ρ vals)=(x.eval loc vals).mv τ ρ:=by
 cases x with
 | loc i=>exact zkc loc i
 | val d=>exact zkc vals d
 | k v=>exact (AV.mv_cl hx).symm
theorem zfe (l:List CV):(mvs τ ρ l).length=l.length:=List.length_map ..
theorem zni {l r:List CV} {o n:Nat} (h:cut l o n=some r):cut (mvs τ ρ l) o n=some (mvs τ ρ r):=by
 unfold cut at h ⊢
 rw [zfe]
 cases hb:Nat.ble (o + n) l.length with
 | false=>rw [hb] at h;cases h
 | true =>
  rw [hb] at h
  simp only [cond_true,Option.some.injEq] at h ⊢
  subst h
  simp [mvs,List.map_take,List.map_drop]
theorem zsy (vs:List CV):∀ (l:List CV) (o:Nat),setMany (mvs τ ρ l) o (mvs τ ρ vs)=mvs τ ρ (setMany l o vs):=by
 induction vs with
 | nil=>intro l o;rfl
 | cons v vs ih =>
  intro l o
  show setMany ((mvs τ ρ l).set o (v.mv τ ρ)) (o + 1) (mvs τ ρ vs)=mvs τ ρ (setMany (l.set o v) (o + 1) vs)
  rw [← ih]
  simp [mvs,List.map_set]
theorem zp9 {l vs r:List CV} {o:Nat} (h:zdf l o vs=some r):zdf (mvs τ ρ l) o (mvs τ ρ vs)=some (mvs τ ρ r):=by
 unfold zdf at h ⊢
 rw [zfe,zfe]
 cases hb:Nat.ble (o + vs.length) l.length with
 | false=>rw [hb] at h;cases h
 | true =>
  rw [hb] at h
  simp only [cond_true,Option.some.injEq] at h ⊢
  subst h
  exact zsy ..
theorem zsz {l:List CV} {r:List Nat} (h:bytesOf l=some r):mvs τ ρ l=l:=by
 induction l generalizing r with
 | nil=>rfl
 | cons a l ih =>
  unfold bytesOf at h
  split at h
  ·rename_i he;cases he
  ·rename_i n l' he
   cases he
   cases hb:Nat.blt n 256 with
   | false=>rw [hb] at h;cases h
   | true =>
    rw [hb] at h
    simp only [cond_true] at h
    split at h
    ·rename_i r' hr
     show (CV.int .u8 (.ofNat n)).mv τ ρ :: mvs τ ρ l=_
     rw [ih hr];rfl
    ·cases h
  ·cases h
theorem zla (l:List Nat):mvs τ ρ (byteCells l)=byteCells l:=by
 unfold mvs byteCells
 rw [List.map_map]
 rfl
theorem zmh (z:List CV) (n:Nat) (h:mvs τ ρ z=z):mvs τ ρ (zeros n z)=zeros n z:=by
 induction n with
 | zero=>rfl
 | succ n ih =>
  show mvs τ ρ (z++zeros n z)=_
  unfold mvs at h ih ⊢
  rw [List.map_append,h,ih]
  rfl
theorem zh9 {agg:Bool} {l:List CV} {v:AV} (h:AV.ofCells agg l=some v):AV.ofCells agg (mvs τ ρ l)=some (v.mv τ ρ):=by
 cases agg with
 | true =>
  simp only [AV.ofCells,Option.some.injEq] at h ⊢
  subst h;rfl
 | false =>
  match l,h with
  | [a],h =>
   simp only [AV.ofCells,Option.some.injEq] at h
   subst h;rfl
theorem zmi {v:AV} {l:List CV} (h:v.cells=some l):(v.mv τ ρ).cells=some (mvs τ ρ l):=by
 cases v with
 | c v=>simp only [AV.cells,Option.some.injEq] at h;subst h;rfl
 | agg m=>simp only [AV.cells,Option.some.injEq] at h;subst h;rfl
 | _=>cases h
theorem zs0 {v:AV} {x:XV} (h:v.xv=some x):(v.mv τ ρ).xv=some (x.mv τ ρ):=by
 cases v with
 | c v=>simp only [AV.xv,Option.some.injEq] at h;subst h;rfl
 | agg m=>simp only [AV.xv,Option.some.injEq] at h;subst h;rfl
 | _=>cases h
theorem zabl (x:XV):(x.mv τ ρ).av=x.av.mv τ ρ:=by cases x<;>rfl
theorem zef {v:AV} {n:Nat} (h:zda v=some n):zda (v.mv τ ρ)=some n:=by
 match v,h with
 | .c (.int k (.ofNat m)),h=>exact h
theorem zkd {v:AV} {n:Int} (h:asKey v=some n):asKey (v.mv τ ρ)=some n:=by
 match v,h with
 | .c (.int .i64 m),h=>exact h
theorem zuo {v:AV} {x:CV} (h:asC v=some x):asC (v.mv τ ρ)=some (x.mv τ ρ):=by
 match v,h with
 | .c y,h=>simp only [asC,Option.some.injEq] at h;subst h;rfl
theorem zmj {es:List Ent} {n:Int}:ze4 (es.map (Ent.mv τ ρ)) n=(ze4 es n).map fun p=>(p.1,p.2.mv τ ρ):=by
 induction es with
 | nil=>rfl
 | cons e es ih =>
  obtain ⟨a,b,v⟩:=e
  show (bif a == n then some (b,v.mv τ ρ) else ze4 (es.map (Ent.mv τ ρ)) n)=Option.map _ (bif a == n then some (b,v) else ze4 es n)
  cases a == n with
  | true=>rfl
  | false=>exact ih
theorem zrn {es:List Ent} {c:Nat} {n:Int} {x:CV}:ze9 (es.map (Ent.mv τ ρ)) c n (x.mv τ ρ)=(ze9 es c n x).map (Ent.mv τ ρ):=by
 induction es with
 | nil=>rfl
 | cons e es ih =>
  obtain ⟨a,b,v⟩:=e
  show (bif a == n then (a,b,x.mv τ ρ) :: es.map (Ent.mv τ ρ) else (a,b,v.mv τ ρ) :: ze9 (es.map (Ent.mv τ ρ)) c n (x.mv τ ρ))=List.map _ (bif a == n then (a,b,x) :: es else (a,b,v) :: ze9 es c n x)
  cases a == n with
  | true=>rfl
  | false=>exact congrArg (List.cons _) ih
theorem zy0 {es:List Ent} {n:Int}:zht (es.map (Ent.mv τ ρ)) n=(zht es n).map (Ent.mv τ ρ):=by
 induction es with
 | nil=>rfl
 | cons e es ih =>
  obtain ⟨a,b,v⟩:=e
  show (bif a == n then es.map (Ent.mv τ ρ) else (a,b,v.mv τ ρ) :: zht (es.map (Ent.mv τ ρ)) n)=List.map _ (bif a == n then es else (a,b,v) :: zht es n)
  cases a == n with
  | true=>rfl
  | false=>exact congrArg (List.cons _) ih
theorem zaag {es es':List Ent} {k:Nat} {x:CV} (h:mAt es k x=some es'):mAt (es.map (Ent.mv τ ρ)) k (x.mv τ ρ)=some (es'.map (Ent.mv τ ρ)):=by
 induction es generalizing es' with
 | nil=>cases h
 | cons e es ih =>
  obtain ⟨a,b,v⟩:=e
  show (bif b == k then some ((a,b,x.mv τ ρ) :: es.map (Ent.mv τ ρ)) else match mAt (es.map (Ent.mv τ ρ)) k (x.mv τ ρ) with | some t=>some ((a,b,v.mv τ ρ) :: t) | none=>none)=_
  replace h:(bif b == k then some ((a,b,x) :: es) else match mAt es k x with | some t=>some ((a,b,v) :: t) | none=>none)=some es':=h
  cases hb:b == k with
  | true =>
   rw [hb] at h
   simp only [cond_true,Option.some.injEq] at h ⊢
   subst h;rfl
  | false =>
   rw [hb] at h
   simp only [cond_false] at h ⊢
   split at h
   ·rename_i t ht
    rw [ih ht]
    simp only [Option.some.injEq] at h
    subst h;rfl
   ·cases h
theorem zy1 {es:List Ent} {c:Nat} {n:Int}:zjv (es.map (Ent.mv τ ρ)) c n=zjv es c n:=by
 unfold zjv
 rw [zmj]
 cases ze4 es n<;>rfl
theorem zwm {op:BinOp} {x y v:CV} (h:zay op x y=some v):zay op (x.mv τ ρ) (y.mv τ ρ)=some (v.mv τ ρ):=by
  have hi:∀ (k:IntKind) (a b:Int) (v:CV),zcz op k a b=some v→v.mv τ ρ=v:=by
    intro k a b v h
    rw [zab] at h
    cases op<;>simp only [intArith] at h<;>first
      | (simp only [Option.some.injEq] at h;subst h;rfl)
      | (split at h<;>first | (cases h;done) | (simp only [Option.some.injEq] at h;subst h;rfl))
      | (cases hb:(b == 0)<;>rw [hb] at h<;>simp only [cond_true,cond_false,Option.some.injEq,reduceCtorEq] at h;subst h;rfl)
      | cases h
  have hsx:∀ (k:IntKind) (a b:Int) (v:CV),zii op k a b=some v→v.mv τ ρ=v:=by
    intro k a b v h
    unfold zii at h
    cases hb:zfq b 0 with
    | true=>rw [hb] at h;cases h
    | false =>
      rw [hb] at h
      simp only [cond_false] at h
      cases op<;>first | (simp only [Option.some.injEq] at h;subst h;rfl) | cases h
  unfold zay at h
  split at h
  · rename_i k a k' b
    show (bif zaq op then zii op k a b else bif k == k' then zcz op k a b else none)=_
    cases hs:zaq op with
    | true =>
      rw [hs] at h
      simp only [cond_true] at h ⊢
      rw [h,hsx _ _ _ _ h]
    | false =>
      rw [hs] at h
      simp only [cond_false] at h ⊢
      cases hk:k == k' with
      | true =>
        rw [hk] at h
        simp only [cond_true] at h ⊢
        rw [h,hi _ _ _ _ h]
      | false=>rw [hk] at h;cases h
  · rename_i a b
    cases op<;>first
      | (simp only [Option.some.injEq] at h;subst h;rfl)
      | (simp only at h
         cases hb:Nat.ble (a.length + b.length) 1073741824 with
         | false=>rw [hb] at h;cases h
         | true =>
           rw [hb] at h
           simp only [cond_true,Option.some.injEq] at h
           subst h
           show (bif Nat.ble (a.length + b.length) 1073741824 then some (CV.str (a++b)) else none)=_
           rw [hb];rfl)
      | cases h
  · rename_i u m r k b
    split at h
    · rename_i q
      show (bif m % (q + 1) == 0 then some (CV.int .u64 (Int.ofNat (r % (q + 1)))) else none)=_
      cases hb:(m % (q + 1) == 0) with
      | false=>rw [hb] at h;cases h
      | true =>
        rw [hb] at h
        simp only [cond_true,Option.some.injEq] at h ⊢
        subst h;rfl
    · cases h
  · cases h
theorem zke:∀ {ks:List Bool} {l m:List CV} {r:Bool},zcq ks l m=some r→zcq ks (mvs τ ρ l) (mvs τ ρ m)=some r
 | [],l,m,r,h=>by
  cases l<;>cases m<;>first | exact h | (simp only [zcq,reduceCtorEq] at h)
 | true :: ks,l,m,r,h=>by
  match l,m,h with
  | .int k a :: l,.int k' b :: m,h =>
   show (bif k == k' then (match zcq ks (mvs τ ρ l) (mvs τ ρ m) with | some r=>some (a == b && r) | none=>none) else none)=_
   replace h:(bif k == k' then (match zcq ks l m with | some r=>some (a == b && r) | none=>none) else none)=some r:=h
   cases hk:k == k' with
   | false=>rw [hk] at h;cases h
   | true =>
    rw [hk] at h
    simp only [cond_true] at h ⊢
    split at h
    ·rename_i r' hr
     rw [zke hr];exact h
    ·cases h
 | false :: ks,l,m,r,h=>by
  match l,m,h with
  | .bool a :: l,.bool b :: m,h =>
   show (match zcq ks (mvs τ ρ l) (mvs τ ρ m) with | some r=>some (a == b && r) | none=>none)=_
   replace h:(match zcq ks l m with | some r=>some (a == b && r) | none=>none)=some r:=h
   split at h
   ·rename_i r' hr
    rw [zke hr];exact h
   ·cases h
theorem zwn {k:EqK} {x y:AV} {b:Bool} (h:zfo k x y=some b):zfo k (x.mv τ ρ) (y.mv τ ρ)=some b:=by
 unfold zfo at h
 split at h
 case h_11=>exact zke h
 case h_12=>cases h
 all_goals exact h
theorem zy2 {op:UnOp} {x v:CV} (h:zdk op x=some v):zdk op (x.mv τ ρ)=some (v.mv τ ρ):=by
 have hi:∀ (o:BinOp) (k:IntKind) (a b:Int) (v:CV),(o = .sub∨o = .xor)→zcz o k a b=some v→v.mv τ ρ=v:=by
  rintro o k a b v (rfl | rfl) h<;>(simp only [zcz,Option.some.injEq] at h;subst h;rfl)
 unfold zdk at h
 split at h
 ·show zcz .sub _ 0 _=_;rw [h,hi _ _ _ _ _ (.inl rfl) h]
 ·show zcz .xor _ _ _=_;rw [h,hi _ _ _ _ _ (.inr rfl) h]
 ·simp only [Option.some.injEq] at h;subst h;rfl
 ·cases h
end
end Lav
set_option linter.unusedVariables false
namespace Lav
open Go (IntKind BinOp UnOp)
structure Sim (τ:Nat→Int) (ρ:Nat→Nat) (b1 b2:Nat) (h0 g0:Heap) (h1 h2:Heap):Prop where
 tl:∀ k,ρ (b1 + k)=b2 + k
 nx:∃ m,h1.next=b1 + m∧h2.next=b2 + m
 at_:∀ i b,h1.get i=some b→h2.get (ρ i)=some (b.mv τ ρ)
 inj:∀ i j,i < b1→j < b1→h1.get i≠none→h1.get j≠none→ρ i=ρ j→i=j
 lt:∀ i,i < b1→h1.get i≠none→ρ i < b2
 dead:∀ i,i < b1→h0.get i=none→h1.get i=none
 fr:∀ k,k < b2→(∀ i,i < b1→h0.get i≠none→ρ i≠k)→h2.get k=g0.get k
section
variable {τ:Nat→Int} {ρ:Nat→Nat} {b1 b2:Nat} {h0 g0 h1 h2:Heap}
theorem Sim.up (S:Sim τ ρ b1 b2 h0 g0 h1 h2) {i:Nat} (hi:b1≤i):ρ i=b2 + (i - b1):=by
 have:=S.tl (i - b1)
 rwa [Nat.add_sub_cancel' hi] at this
theorem Sim.ne (S:Sim τ ρ b1 b2 h0 g0 h1 h2) {i j:Nat} (hi:h1.get i≠none∨b1≤i) (hj:h1.get j≠none∨b1≤j) (hn:i≠j):ρ i≠ρ j:=by
 intro e
 rcases Nat.lt_or_ge i b1 with hl | hl
 ·have hi':h1.get i≠none:=hi.resolve_right (by omega)
  rcases Nat.lt_or_ge j b1 with hm | hm
  ·exact hn (S.inj i j hl hm hi' (hj.resolve_right (by omega)) e)
  ·have:=S.lt i hl hi'
   have:=S.up hm
   omega
 ·have h1':=S.up hl
  rcases Nat.lt_or_ge j b1 with hm | hm
  ·have:=S.lt j hm (hj.resolve_right (by omega))
   omega
  ·have:=S.up hm
   omega
theorem Sim.next (S:Sim τ ρ b1 b2 h0 g0 h1 h2):ρ h1.next=h2.next:=by
 obtain ⟨m,e1,e2⟩:=S.nx
 rw [e1,e2,S.tl]
theorem Sim.upd (S:Sim τ ρ b1 b2 h0 g0 h1 h2) {i:Nat} (hi:h1.get i≠none∨b1≤i) {h1' h2':Heap} {x:Option Blk} (n1:h1'.next=h1.next) (n2:h2'.next=h2.next)
  (g1:h1'.get=Lav.upd h1.get i x) (g2:h2'.get=Lav.upd h2.get (ρ i) (x.map (Blk.mv τ ρ))):Sim τ ρ b1 b2 h0 g0 h1' h2':=by
 have hlive:∀ j,h1'.get j≠none→h1.get j≠none∨b1≤j:=by
  intro j hj
  rw [g1] at hj
  unfold Lav.upd at hj
  by_cases e:j=i
  ·rw [e];exact hi
  ·rw [if_neg e] at hj;exact .inl hj
 refine ⟨S.tl,by rw [n1,n2];exact S.nx,fun j b hj=>?_,fun j k hj hk l1 l2=>S.inj j k hj hk ((hlive j l1).resolve_right (by omega)) ((hlive k l2).resolve_right (by omega)),
  fun j hj l=>S.lt j hj ((hlive j l).resolve_right (by omega)),fun j hj hd=>?_,fun k hk hno=>?_⟩
 ·rw [g2]
  have hj':h1.get j≠none∨b1≤j:=hlive j (by rw [hj];simp)
  rw [g1] at hj
  unfold Lav.upd at hj ⊢
  by_cases e:j=i
  ·subst e
   rw [if_pos rfl] at hj ⊢
   rw [hj];rfl
  ·rw [if_neg e] at hj
   rw [if_neg (S.ne hj' hi e)]
   exact S.at_ j b hj
 ·have hd':=S.dead j hj hd
  rw [g1]
  unfold Lav.upd
  by_cases e:j=i
  ·subst e
   exact absurd hd' (hi.resolve_right (by omega))
  ·rw [if_neg e];exact hd'
 ·rw [g2]
  unfold Lav.upd
  have:ρ i≠k:=by
   rcases Nat.lt_or_ge i b1 with hl | hl
   ·exact hno i hl fun hd=>(hi.resolve_right (by omega)) (S.dead i hl hd)
   ·have:=S.up hl;omega
  rw [if_neg (fun e=>this e.symm)]
  exact S.fr k hk hno
theorem Sim.put (S:Sim τ ρ b1 b2 h0 g0 h1 h2) {i:Nat} (hi:h1.get i≠none∨b1≤i) (b:Blk):Sim τ ρ b1 b2 h0 g0 (h1.put i b) (h2.put (ρ i) (b.mv τ ρ)) :=
 S.upd hi rfl rfl (Heap.get_put ..) (Heap.get_put ..)
theorem Sim.kill (S:Sim τ ρ b1 b2 h0 g0 h1 h2) {i:Nat} (hi:h1.get i≠none∨b1≤i):Sim τ ρ b1 b2 h0 g0 (h1.kill i) (h2.kill (ρ i)) :=
 S.upd hi rfl rfl (Heap.get_kill ..) (Heap.get_kill ..)
theorem Sim.skip (S:Sim τ ρ b1 b2 h0 g0 h1 h2) (n:Nat):Sim τ ρ b1 b2 h0 g0 (h1.skip n) (h2.skip n) :=
 ⟨S.tl,let ⟨m,e1,e2⟩:=S.nx;⟨m + n,by simp only [Heap.skip,e1];omega,by simp only [Heap.skip,e2];omega⟩,S.at_,S.inj,S.lt,S.dead,S.fr⟩
theorem Sim.ge (S:Sim τ ρ b1 b2 h0 g0 h1 h2):b1≤h1.next:=let ⟨m,e1,_⟩:=S.nx;by omega
theorem Sim.new (S:Sim τ ρ b1 b2 h0 g0 h1 h2) (b:Blk):Sim τ ρ b1 b2 h0 g0 (h1.new b) (h2.new (b.mv τ ρ)):=by
 have:=(S.skip 1).put (i:=h1.next) (.inr S.ge) b
 rw [S.next] at this
 exact this
theorem Sim.read (S:Sim τ ρ b1 b2 h0 g0 h1 h2) {i o n:Nat} {l:List CV} (h:h1.read i o n=some l):h2.read (ρ i) o n=some (mvs τ ρ l):=by
 unfold Heap.read at h ⊢
 split at h
 ·rename_i c hc
  rw [S.at_ _ _ hc];exact zni h
 ·rename_i c hc
  rw [S.at_ _ _ hc];exact zni h
 ·cases h
theorem Sim.write (S:Sim τ ρ b1 b2 h0 g0 h1 h2) {i o:Nat} {vs:List CV} {h1':Heap} (h:h1.write i o vs=some h1'):∃ h2',h2.write (ρ i) o (mvs τ ρ vs)=some h2'∧Sim τ ρ b1 b2 h0 g0 h1' h2':=by
 unfold Heap.write at h ⊢
 split at h
 ·rename_i c hc
  rw [S.at_ _ _ hc]
  split at h
  ·rename_i l' hl
   simp only [Option.some.injEq] at h
   subst h
   show ∃ h2',(match zdf (mvs τ ρ c) o (mvs τ ρ vs) with | some l'=>some (h2.put (ρ i) (.cells l')) | none=>none)=some h2'∧_
   rw [zp9 hl]
   exact ⟨_,rfl,S.put (.inl (by rw [hc];simp)) (.cells l')⟩
  ·cases h
 ·cases h
theorem Sim.ents (S:Sim τ ρ b1 b2 h0 g0 h1 h2) {x:AV} {es:List Ent} (h:h1.ents x=some es):h2.ents (x.mv τ ρ)=some (es.map (Ent.mv τ ρ)):=by
 unfold Heap.ents at h
 split at h
 ·simp only [Option.some.injEq] at h;subst h;rfl
 ·rename_i i
  split at h
  ·rename_i c es' hc
   simp only [Option.some.injEq] at h;subst h
   show (match h2.get (ρ i) with | some (.map _ es)=>some es | _=>none)=_
   rw [S.at_ _ _ hc];rfl
  ·cases h
 ·cases h
variable {loc vals:List AV}
theorem zlb {ps:List (Nat × Nat × X)} {r:List (Nat × List CV)} (hc:(ps.map fun p:Nat × Nat × X=>p.2.2).all X.cl=true) (h:zb0 loc vals ps=some r) :
  zb0 (mva τ ρ loc) (mva τ ρ vals) ps=some (r.map fun p:Nat × List CV=>(p.1,mvs τ ρ p.2)):=by
 induction ps generalizing r with
 | nil=>simp only [zb0,Option.some.injEq] at h;subst h;rfl
 | cons p ps ih =>
  obtain ⟨o,n,x⟩:=p
  simp only [List.map_cons,List.all_cons,Bool.and_eq_true] at hc
  unfold zb0 at h ⊢
  rw [X.eval_mv hc.1]
  split at h
  ·rename_i l hl
   rw [zmi hl]
   simp only [zfe]
   cases hb:(l.length == n) with
   | false=>rw [hb] at h;cases h
   | true =>
    rw [hb] at h
    simp only [cond_true] at h ⊢
    split at h
    ·rename_i t ht
     rw [ih hc.2 ht]
     simp only [Option.some.injEq] at h;subst h;rfl
    ·cases h
  ·cases h
theorem zlc {ps:List (Nat × List CV)} {l r:List CV} (h:zb1 l ps=some r):zb1 (mvs τ ρ l) (ps.map fun p:Nat × List CV=>(p.1,mvs τ ρ p.2))=some (mvs τ ρ r):=by
 induction ps generalizing l with
 | nil=>simp only [zb1,Option.some.injEq] at h;subst h;rfl
 | cons p ps ih =>
  obtain ⟨o,vs⟩:=p
  unfold zb1 at h
  split at h
  ·rename_i l' hl
   show (match zdf (mvs τ ρ l) o (mvs τ ρ vs) with | some l'=>zb1 l' (ps.map fun p:Nat × List CV=>(p.1,mvs τ ρ p.2)) | none=>none)=_
   rw [zp9 hl]
   exact ih h
  ·cases h
theorem zrc {xs:List X} {r:List (Nat × Nat)} (hc:xs.all X.cl=true) (h:zed loc vals xs=some r):zed (mva τ ρ loc) (mva τ ρ vals) xs=some (r.map fun p:Nat × Nat=>(ρ p.1,p.2)):=by
 induction xs generalizing r with
 | nil=>simp only [zed,Option.some.injEq] at h;subst h;rfl
 | cons x xs ih =>
  simp only [List.all_cons,Bool.and_eq_true] at hc
  unfold zed at h ⊢
  rw [X.eval_mv hc.1]
  split at h
  ·rename_i i o hx
   rw [hx]
   simp only [AV.mv,CV.mv]
   split at h
   ·rename_i t ht
    rw [ih hc.2 ht]
    simp only [Option.some.injEq] at h;subst h;rfl
   ·cases h
  ·cases h
theorem zff {x:Option X} {d n:Nat} (hc:x.toList.all X.cl=true) (h:bound loc vals x d=some n):bound (mva τ ρ loc) (mva τ ρ vals) x d=some n:=by
 cases x with
 | none=>exact h
 | some x =>
  simp only [Option.toList,List.all_cons,Bool.and_eq_true] at hc
  show zda (x.eval _ _)=_
  rw [X.eval_mv hc.1]
  exact zef h
theorem znj {f:Int→Int→Int} {xs:List X} {a v:AV} (hc:xs.all X.cl=true) (h:zdg loc vals f a xs=some v):zdg (mva τ ρ loc) (mva τ ρ vals) f (a.mv τ ρ) xs=some (v.mv τ ρ):=by
 induction xs generalizing a with
 | nil =>
  unfold zdg at h ⊢
  simp only [Option.some.injEq] at h
  subst h;rfl
 | cons x xs ih =>
  simp only [List.all_cons,Bool.and_eq_true] at hc
  match a,h with
  | .c (.int k n),h =>
   show (match x.eval (mva τ ρ loc) (mva τ ρ vals) with | .c (.int k' b)=>bif k == k' then zdg (mva τ ρ loc) (mva τ ρ vals) f (.c (.int k (f n b))) xs else none | _=>none)=_
   rw [X.eval_mv hc.1]
   replace h:(match x.eval loc vals with | .c (.int k' b)=>bif k == k' then zdg loc vals f (.c (.int k (f n b))) xs else none | _=>none)=some v:=h
   split at h
   ·rename_i k' b hx
    rw [hx]
    simp only [AV.mv,CV.mv]
    cases hk:k == k' with
    | false=>rw [hk] at h;cases h
    | true =>
     rw [hk] at h
     simp only [cond_true] at h ⊢
     exact ih (a:=.c (.int k (f n b))) hc.2 h
   ·cases h
theorem getElem?_mvx (l:List XV) (i:Nat):(l.map (XV.mv τ ρ))[i]? = l[i]?.map (XV.mv τ ρ):=List.getElem?_map
theorem zld (S:Sim τ ρ b1 b2 h0 g0 h1 h2) {op:IOp} {v:AV} (hc:op.cl=true) (h:zao loc vals h1 op=some v):zao (mva τ ρ loc) (mva τ ρ vals) h2 op=some (v.mv τ ρ):=by
 have hx:op.xs.all X.cl=true∧op.zs.all CV.cl=true:=by unfold IOp.cl at hc;simpa using hc
 obtain ⟨hx,hz⟩:=hx
 have hx':∀ x∈op.xs,x.cl=true:=List.all_eq_true.1 hx
 have E:∀ x∈op.xs,x.eval (mva τ ρ loc) (mva τ ρ vals)=(x.eval loc vals).mv τ ρ:=fun x hm=>X.eval_mv (hx' x hm) loc vals
 cases op<;>simp only [zao,reduceCtorEq] at h ⊢
 case mov x =>
  rw [E x (by simp [IOp.xs])];simp only [Option.some.injEq] at h ⊢;rw [h]
 case pick c a b =>
  rw [E c (by simp [IOp.xs]),E a (by simp [IOp.xs]),E b (by simp [IOp.xs])]
  split at h
  ·rename_i t ht
   rw [ht]
   simp only [AV.mv,CV.mv,Option.some.injEq] at h ⊢
   subst h
   cases t<;>rfl
  ·cases h
 case load n agg x =>
  rw [E x (by simp [IOp.xs])]
  split at h
  ·rename_i i o ht
   rw [ht]
   simp only [AV.mv,CV.mv]
   split at h
   ·rename_i l hl
    rw [S.read hl]
    exact zh9 h
   ·cases h
  ·cases h
 case bin o x y =>
  rw [E x (by simp [IOp.xs]),E y (by simp [IOp.xs])]
  split at h
  ·rename_i a b ha hb
   rw [ha,hb]
   simp only [AV.mv]
   split at h
   ·rename_i r hr
    rw [zwm hr]
    simp only [Option.some.injEq] at h;subst h;rfl
   ·cases h
  ·cases h
 case eq k neg x y =>
  rw [E x (by simp [IOp.xs]),E y (by simp [IOp.xs])]
  split at h
  ·rename_i b hb
   rw [zwn hb]
   simp only [Option.some.injEq] at h;subst h;rfl
  ·cases h
 case un o x =>
  rw [E x (by simp [IOp.xs])]
  split at h
  ·rename_i a ha
   rw [ha]
   simp only [AV.mv]
   split at h
   ·rename_i r hr
    rw [zy2 hr]
    simp only [Option.some.injEq] at h;subst h;rfl
   ·cases h
  ·cases h
 case conv k x =>
  rw [E x (by simp [IOp.xs])]
  split at h
  ·rename_i k' n ha
   rw [ha]
   simp only [Option.some.injEq] at h;subst h;rfl
  ·rename_i u m r ha
   rw [ha]
   split at h
   ·cases m with
    | zero=>cases h
    | succ m =>
     simp only [Nat.beq,cond_false,Option.some.injEq] at h;subst h;rfl
   ·cases h
  ·cases h
 case b2s x =>
  rw [E x (by simp [IOp.xs])]
  split at h
  ·rename_i ha
   rw [ha]
   simp only [Option.some.injEq] at h;subst h;rfl
  ·rename_i i o len c ha
   rw [ha]
   simp only [AV.mv,CV.mv]
   split at h
   ·rename_i l hl
    split at h
    ·rename_i r hr
     rw [S.read hl]
     simp only [zsz hr,hr]
     simp only [Option.some.injEq] at h;subst h;rfl
    ·cases h
   ·rename_i hl
    split at h
    ·simp only [Option.some.injEq] at h;subst h
     cases hl2:h2.read (ρ i) o 0 with
     | none=>rfl
     | some l2 =>
      have:l2=[]:=by
       have hcut:∀ {c:List CV},cut c o 0=some l2→l2=[]:=by
        intro c hcc
        unfold cut at hcc
        cases hb:Nat.ble (o + 0) c.length<;>rw [hb] at hcc<;>simp at hcc
        exact hcc
       unfold Heap.read at hl2
       split at hl2
       ·exact hcut hl2
       ·exact hcut hl2
       ·cases hl2
      subst this;rfl
    ·cases h
  ·cases h
 case slice sz x lo hi mx =>
  rw [E x (by simp [IOp.xs])]
  have hlo:lo.toList.all X.cl=true:=by cases lo with | none=>rfl | some y=>simp [hx' y (by simp [IOp.xs])]
  have hhi:hi.toList.all X.cl=true:=by cases hi with | none=>rfl | some y=>simp [hx' y (by simp [IOp.xs])]
  have hmx:∀ m,mx=some m→m.eval (mva τ ρ loc) (mva τ ρ vals)=(m.eval loc vals).mv τ ρ:=by rintro m rfl;exact E m (by simp [IOp.xs])
  have hmx':mx.toList.all X.cl=true:=by cases mx with | none=>rfl | some y=>simp [hx' y (by simp [IOp.xs])]
  split at h
  ·rename_i i o len c ha
   rw [ha]
   simp only [AV.mv,CV.mv]
   split at h
   ·rename_i l r hl hr
    rw [zff hlo hl,zff hhi hr]
    simp only
    split at h
    ·rename_i sz'
     cases hb:(Nat.ble l r && Nat.ble r len && sz == sz')<;>rw [hb] at h<;>simp only [cond_true,cond_false,Option.some.injEq,reduceCtorEq] at h ⊢
     subst h;rfl
    ·rename_i k
     cases hb:(Nat.ble l r && Nat.ble r k)<;>rw [hb] at h<;>simp only [cond_true,cond_false,Option.some.injEq,reduceCtorEq] at h ⊢
     subst h;rfl
    ·rename_i m _
     rw [hmx m rfl]
     split at h
     ·rename_i m' hm'
      rw [zef hm']
      simp only
      cases hb:(Nat.ble l r && Nat.ble r m' && Nat.ble m' len)<;>rw [hb] at h<;>simp only [cond_true,cond_false,Option.some.injEq,reduceCtorEq] at h ⊢
      subst h;rfl
     ·cases h
    ·rename_i m k
     rw [hmx m rfl]
     split at h
     ·rename_i m' hm'
      rw [zef hm']
      simp only
      cases hb:(Nat.ble l r && Nat.ble r m' && Nat.ble m' k)<;>rw [hb] at h<;>simp only [cond_true,cond_false,Option.some.injEq,reduceCtorEq] at h ⊢
      subst h;rfl
     ·cases h
   ·cases h
  ·rename_i ha
   rw [ha]
   simp only [AV.mv,CV.mv]
   split at h
   ·rename_i e1 e2 e3
    rw [zff hlo e1,zff hhi e2,zff hmx' e3]
    simp only [Option.some.injEq] at h ⊢;subst h;rfl
   ·cases h
  ·cases h
 case sstr x lo hi =>
  rw [E x (by simp [IOp.xs])]
  have hlo:lo.toList.all X.cl=true:=by cases lo with | none=>rfl | some y=>simp [hx' y (by simp [IOp.xs])]
  have hhi:hi.toList.all X.cl=true:=by cases hi with | none=>rfl | some y=>simp [hx' y (by simp [IOp.xs])]
  split at h
  ·rename_i s ha
   rw [ha]
   simp only [AV.mv,CV.mv]
   split at h
   ·rename_i l r hl hr
    rw [zff hlo hl,zff hhi hr]
    simp only
    cases hb:(Nat.ble l r && Nat.ble r s.length)<;>rw [hb] at h<;>simp only [cond_true,cond_false,Option.some.injEq,reduceCtorEq] at h ⊢
    subst h;rfl
   ·cases h
  ·cases h
 case sarr n sz x lo hi =>
  rw [E x (by simp [IOp.xs])]
  have hlo:lo.toList.all X.cl=true:=by cases lo with | none=>rfl | some y=>simp [hx' y (by simp [IOp.xs])]
  have hhi:hi.toList.all X.cl=true:=by cases hi with | none=>rfl | some y=>simp [hx' y (by simp [IOp.xs])]
  split at h
  ·rename_i i o ha
   rw [ha]
   simp only [AV.mv,CV.mv]
   split at h
   ·rename_i l r hl hr
    rw [zff hlo hl,zff hhi hr]
    simp only
    cases hb:(Nat.ble l r && Nat.ble r n)<;>rw [hb] at h<;>simp only [cond_true,cond_false,Option.some.injEq,reduceCtorEq] at h ⊢
    subst h;rfl
   ·cases h
  ·cases h
 case faddr off x =>
  rw [E x (by simp [IOp.xs])]
  split at h
  ·rename_i i o ha
   rw [ha]
   simp only [Option.some.injEq] at h;subst h;rfl
  ·cases h
 case field off n agg x =>
  rw [E x (by simp [IOp.xs])]
  split at h
  ·rename_i l ha
   rw [ha]
   simp only [AV.mv]
   split at h
   ·rename_i r hr
    rw [zni hr]
    exact zh9 h
   ·cases h
  ·cases h
 case iaddr sz x i =>
  rw [E x (by simp [IOp.xs]),E i (by simp [IOp.xs])]
  split at h
  ·rename_i b o len c j ha hj
   rw [ha,zef hj]
   simp only [AV.mv,CV.mv]
   cases hb:Nat.blt j len<;>rw [hb] at h<;>simp only [cond_true,cond_false,Option.some.injEq,reduceCtorEq] at h ⊢
   subst h;rfl
  ·cases h
 case iaddrA sz n x i =>
  rw [E x (by simp [IOp.xs]),E i (by simp [IOp.xs])]
  split at h
  ·rename_i b o j ha hj
   rw [ha,zef hj]
   simp only [AV.mv,CV.mv]
   cases hb:Nat.blt j n<;>rw [hb] at h<;>simp only [cond_true,cond_false,Option.some.injEq,reduceCtorEq] at h ⊢
   subst h;rfl
  ·cases h
 case idxA sz n agg x i =>
  rw [E x (by simp [IOp.xs]),E i (by simp [IOp.xs])]
  split at h
  ·rename_i l j ha hj
   rw [ha,zef hj]
   simp only [AV.mv]
   cases hb:Nat.blt j n<;>rw [hb] at h<;>simp only [cond_true,cond_false,reduceCtorEq] at h ⊢
   split at h
   ·rename_i r hr
    rw [zni hr]
    exact zh9 h
   ·cases h
  ·cases h
 case idxS x i =>
  rw [E x (by simp [IOp.xs]),E i (by simp [IOp.xs])]
  split at h
  ·rename_i s j ha hj
   rw [ha,zef hj]
   simp only [AV.mv,CV.mv]
   cases hb:s[j]? with
   | none=>rw [hb] at h;cases h
   | some b =>
    rw [hb] at h
    simp only [Option.some.injEq] at h;subst h;rfl
  ·cases h
 case build zero parts =>
  split at h
  ·rename_i ps hps
   rw [zlb (by simpa [IOp.xs] using hx) hps]
   simp only
   split at h
   ·rename_i l hl
    have:=zlc (τ:=τ) (ρ:=ρ) hl
    rw [show mvs τ ρ zero=zero from ziu hz] at this
    rw [this]
    simp only [Option.some.injEq] at h;subst h;rfl
   ·cases h
  ·cases h
 case ext i x =>
  rw [E x (by simp [IOp.xs])]
  split at h
  ·rename_i l ha
   rw [ha]
   simp only [AV.mv,getElem?_mvx]
   split at h
   ·rename_i y hy
    rw [hy]
    simp only [Option.some.injEq] at h;subst h
    exact congrArg some (zabl y)
   ·cases h
  ·cases h
 case mkfn f caps =>
  split at h
  ·rename_i l hl
   rw [zrc (show caps.all X.cl=true from hx) hl]
   simp only [Option.some.injEq] at h;subst h;rfl
  ·cases h
 case nilchk x =>
  rw [E x (by simp [IOp.xs])]
  split at h
  ·rename_i i o ha
   rw [ha]
   simp only [Option.some.injEq] at h;subst h;rfl
  ·rename_i f l ha
   rw [ha]
   simp only [Option.some.injEq] at h;subst h;rfl
  ·cases h
 case len k x =>
  rw [E x (by simp [IOp.xs])]
  split at h
  ·rename_i s ha
   rw [ha]
   simp only [Option.some.injEq] at h;subst h;rfl
  ·rename_i ha
   rw [ha]
   simp only [Option.some.injEq] at h;subst h;rfl
  ·rename_i ha
   rw [ha]
   simp only [Option.some.injEq] at h;subst h;rfl
  ·rename_i ha
   rw [ha]
   simp only [Option.some.injEq] at h;subst h;rfl
  ·rename_i i ha
   rw [ha]
   simp only [AV.mv,CV.mv]
   split at h
   ·rename_i c b hb
    rw [S.at_ _ _ hb]
    simp only [Blk.mv,List.length_map,Option.some.injEq] at h ⊢;subst h;rfl
   ·cases h
  ·cases h
 case cap x =>
  rw [E x (by simp [IOp.xs])]
  split at h
  ·rename_i ha
   rw [ha]
   simp only [Option.some.injEq] at h;subst h;rfl
  ·rename_i ha
   rw [ha]
   simp only [Option.some.injEq] at h;subst h;rfl
  ·cases h
 case mget zero ok m k =>
  rw [E m (by simp [IOp.xs]),E k (by simp [IOp.xs])]
  split at h
  ·rename_i es n hes hn
   rw [S.ents hes,zkd hn]
   simp only [Option.some.injEq] at h ⊢
   subst h
   rw [zmj]
   have hz':zero.mv τ ρ=zero:=CV.mv_cl (by simpa [IOp.zs] using hz)
   cases ze4 es n with
   | none =>
    cases ok with
    | false=>show AV.c zero=AV.c (zero.mv τ ρ);rw [hz']
    | true=>show AV.tup [.c zero,.c (.bool false)]=AV.tup [.c (zero.mv τ ρ),.c (.bool false)];rw [hz']
   | some p=>cases ok<;>rfl
  ·cases h
 case mx args =>
  split at h
  ·rename_i x r
   rw [E x (by simp [IOp.xs])]
   split at h
   ·rename_i k n ha
    rw [ha]
    have:=znj (τ:=τ) (ρ:=ρ) (by simp only [IOp.xs,List.all_cons,Bool.and_eq_true] at hx;exact hx.2) h
    exact this
   ·cases h
  ·cases h
 case mn args =>
  split at h
  ·rename_i x r
   rw [E x (by simp [IOp.xs])]
   split at h
   ·rename_i k n ha
    rw [ha]
    have:=znj (τ:=τ) (ρ:=ρ) (by simp only [IOp.xs,List.all_cons,Bool.and_eq_true] at hx;exact hx.2) h
    exact this
   ·cases h
  ·cases h
end
end Lav
set_option linter.unusedVariables false
namespace Lav
open Go (IntKind BinOp UnOp)
section
variable {τ:Nat→Int} {ρ:Nat→Nat} {b1 b2:Nat} {h0 g0 h1 h2:Heap} {loc vals:List AV}
theorem zkf {xs:List X} (hx:xs.all X.cl=true):∀ x∈xs,x.eval (mva τ ρ loc) (mva τ ρ vals)=(x.eval loc vals).mv τ ρ:=fun x hm=>X.eval_mv (List.all_eq_true.1 hx x hm) loc vals
theorem zmk {op:IOp} (hc:op.cl=true):op.xs.all X.cl=true∧op.zs.all CV.cl=true:=by unfold IOp.cl at hc;simpa using hc
theorem zqa {op:IOp} {f:Nat→AV} {b:Blk} (hc:op.cl=true) (h:zbf loc vals op=some (f,b)) :
  ∃ g,zbf (mva τ ρ loc) (mva τ ρ vals) op=some (g,b.mv τ ρ)∧∀ i,g (ρ i)=(f i).mv τ ρ:=by
 obtain ⟨hx,hz⟩:=zmk hc
 have E:=zkf (τ:=τ) (ρ:=ρ) (loc:=loc) (vals:=vals) hx
 cases op<;>simp only [zbf,reduceCtorEq] at h ⊢
 case box x =>
  rw [E x (by simp [IOp.xs])]
  split at h
  ·rename_i l hl
   rw [zmi hl]
   simp only [Option.some.injEq,Prod.mk.injEq] at h
   obtain ⟨rfl,rfl⟩:=h
   exact ⟨_,rfl,fun _=>rfl⟩
  ·cases h
 case s2b x =>
  rw [E x (by simp [IOp.xs])]
  split at h
  ·rename_i s hs
   rw [hs]
   simp only [Option.some.injEq,Prod.mk.injEq] at h
   obtain ⟨rfl,rfl⟩:=h
   exact ⟨_,by simp only [AV.mv,CV.mv,Blk.mv,zla];rfl,fun _=>rfl⟩
  ·cases h
 case mks sz zero len cap =>
  rw [E len (by simp [IOp.xs]),E cap (by simp [IOp.xs])]
  split at h
  ·rename_i l c hl hcp
   rw [zef hl,zef hcp]
   simp only
   cases hb:(Nat.ble l c && Nat.ble c 1073741824 && zero.length == sz) with
   | false=>rw [hb] at h;cases h
   | true =>
    rw [hb] at h
    simp only [cond_true,Option.some.injEq,Prod.mk.injEq] at h ⊢
    obtain ⟨rfl,rfl⟩:=h
    exact ⟨_,⟨rfl,by simp only [Blk.mv];rw [zmh zero c (ziu hz)]⟩,fun _=>rfl⟩
  ·cases h
 case bsl len zero parts =>
  split at h
  ·rename_i ps hps
   rw [zlb (by simpa [IOp.xs] using hx) hps]
   simp only
   split at h
   ·rename_i l hl
    have:=zlc (τ:=τ) (ρ:=ρ) hl
    rw [zmh zero len (ziu hz)] at this
    rw [this]
    simp only [Option.some.injEq,Prod.mk.injEq] at h
    obtain ⟨rfl,rfl⟩:=h
    exact ⟨_,rfl,fun _=>rfl⟩
   ·cases h
  ·cases h
 case mkch bytes n =>
  rw [E n (by simp [IOp.xs])]
  split at h
  ·rename_i m hm
   rw [zef hm]
   simp only
   cases hb:Nat.ble m 1048576 with
   | false=>rw [hb] at h;cases h
   | true =>
    rw [hb] at h
    simp only [cond_true,Option.some.injEq,Prod.mk.injEq] at h ⊢
    obtain ⟨rfl,rfl⟩:=h
    exact ⟨_,⟨rfl,rfl⟩,fun _=>rfl⟩
  ·cases h
 case mkmap =>
  simp only [Option.some.injEq,Prod.mk.injEq] at h
  obtain ⟨rfl,rfl⟩:=h
  exact ⟨_,rfl,fun _=>rfl⟩
theorem zos (S:Sim τ ρ b1 b2 h0 g0 h1 h2) {sz:Nat} {x:AV} {n:Nat} {l:List CV} (h:source h1 sz x=some (n,l)):source h2 sz (x.mv τ ρ)=some (n,mvs τ ρ l):=by
 unfold source at h
 split at h
 ·simp only [Option.some.injEq,Prod.mk.injEq] at h;obtain ⟨rfl,rfl⟩:=h;rfl
 ·rename_i i o n' c
  split at h
  ·rename_i l' hl
   simp only [Option.some.injEq,Prod.mk.injEq] at h;obtain ⟨rfl,rfl⟩:=h
   show source h2 sz (.c (.sl (ρ i) o n' c))=_
   unfold source
   simp only [S.read hl]
  ·rename_i hl
   split at h
   ·simp only [Option.some.injEq,Prod.mk.injEq] at h;obtain ⟨rfl,rfl⟩:=h
    show (match h2.read (ρ i) o (0 * sz) with | some l=>some (0,l) | none=>some (0,[]))=_
    cases hl2:h2.read (ρ i) o (0 * sz) with
    | none=>rfl
    | some l2 =>
     have:l2=[]:=by
      have hcut:∀ {c:List CV},cut c o (0 * sz)=some l2→l2=[]:=by
       intro c hcc
       rw [Nat.zero_mul] at hcc
       unfold cut at hcc
       cases hb:Nat.ble (o + 0) c.length<;>rw [hb] at hcc<;>simp at hcc
       exact hcc
      unfold Heap.read at hl2
      split at hl2
      ·exact hcut hl2
      ·exact hcut hl2
      ·cases hl2
     subst this;rfl
   ·cases h
 ·rename_i s
  cases hb:sz == 1 with
  | false=>rw [hb] at h;cases h
  | true =>
   rw [hb] at h
   simp only [cond_true,Option.some.injEq,Prod.mk.injEq] at h
   obtain ⟨rfl,rfl⟩:=h
   show (bif sz == 1 then some (s.length,byteCells s) else none)=_
   rw [hb,zla];rfl
 ·cases h
theorem znk (a b:List CV):mvs τ ρ (a++b)=mvs τ ρ a++mvs τ ρ b:=List.map_append ..
theorem zwo (S:Sim τ ρ b1 b2 h0 g0 h1 h2) {sz:Nat} {s x v:AV} {h1':Heap} (h:zdw h1 sz s x=some (v,h1')):∃ h2',zdw h2 sz (s.mv τ ρ) (x.mv τ ρ)=some (v.mv τ ρ,h2')∧Sim τ ρ b1 b2 h0 g0 h1' h2':=by
 unfold zdw at h
 split at h
 ·cases h
 ·rename_i n new hs
  have hs2:=zos S hs
  unfold zdw
  rw [hs2]
  split at h
  ·simp only [AV.mv,CV.mv]
   split at h
   ·simp only [Option.some.injEq,Prod.mk.injEq] at h;obtain ⟨rfl,rfl⟩:=h
    exact ⟨h2,rfl,S⟩
   ·rename_i k
    cases hb:Nat.ble (k + 1) 1073741824 with
    | false=>rw [hb] at h;cases h
    | true =>
     rw [hb] at h
     simp only [cond_true,Option.some.injEq,Prod.mk.injEq] at h ⊢
     obtain ⟨rfl,rfl⟩:=h
     exact ⟨_,⟨by simp only [S.next],rfl⟩,S.new (.cells new)⟩
  ·rename_i i o len c
   simp only [AV.mv,CV.mv]
   split at h
   ·simp only [Option.some.injEq,Prod.mk.injEq] at h;obtain ⟨rfl,rfl⟩:=h
    exact ⟨h2,rfl,S⟩
   ·rename_i k
    cases hb:Nat.ble (len + (k + 1)) 1073741824 with
    | false=>rw [hb] at h;cases h
    | true =>
     rw [hb] at h
     simp only [cond_true] at h ⊢
     split at h
     ·rename_i q
      cases hq:Nat.ble (len + (k + 1)) q with
      | true =>
       rw [hq] at h
       simp only [cond_true] at h ⊢
       split at h
       ·rename_i h' hw
        obtain ⟨g',e,S'⟩:=S.write hw
        rw [e]
        simp only [Option.some.injEq,Prod.mk.injEq] at h;obtain ⟨rfl,rfl⟩:=h
        exact ⟨g',rfl,S'⟩
       ·cases h
      | false =>
       rw [hq] at h
       simp only [cond_false] at h ⊢
       split at h
       ·rename_i old hr
        rw [S.read hr]
        simp only [Option.some.injEq,Prod.mk.injEq] at h ⊢;obtain ⟨rfl,rfl⟩:=h
        have:=S.new (.cells (old++new))
        simp only [Blk.mv,znk] at this
        exact ⟨_,⟨by simp only [S.next],rfl⟩,this⟩
       ·cases h
     ·rename_i sz'
      split at h
      ·rename_i l hl
       rw [S.at_ _ _ hl]
       simp only [Blk.mv,zfe]
       cases hb2:(sz == sz' && Nat.ble (o + len * sz) l.length) with
       | false=>rw [hb2] at h;cases h
       | true =>
        rw [hb2] at h
        simp only [cond_true,Option.some.injEq,Prod.mk.injEq] at h ⊢
        obtain ⟨rfl,rfl⟩:=h
        have:=(S.kill (i:=i) (.inl (by rw [hl];simp))).new (.cells ((l.drop o).take (len * sz)++new))
        simp only [Blk.mv,znk] at this
        refine ⟨_,⟨?_,rfl⟩,?_⟩
        ·simp only [S.next]
        ·have e:mvs τ ρ ((l.drop o).take (len * sz))=((mvs τ ρ l).drop o).take (len * sz):=by simp [mvs,List.map_take,List.map_drop]
         rw [e] at this
         exact this
      ·cases h
  ·cases h
theorem zup (S:Sim τ ρ b1 b2 h0 g0 h1 h2) {sz:Nat} {d s v:AV} {h1':Heap} (h:zij h1 sz d s=some (v,h1')):∃ h2',zij h2 sz (d.mv τ ρ) (s.mv τ ρ)=some (v.mv τ ρ,h2')∧Sim τ ρ b1 b2 h0 g0 h1' h2':=by
 unfold zij at h
 split at h
 ·cases h
 ·rename_i n new hs
  have hs2:=zos S hs
  unfold zij
  rw [hs2]
  split at h
  ·simp only [Option.some.injEq,Prod.mk.injEq] at h;obtain ⟨rfl,rfl⟩:=h
   exact ⟨h2,rfl,S⟩
  ·rename_i i o len c
   split at h
   ·rename_i h' hw
    obtain ⟨g',e,S'⟩:=S.write hw
    simp only [Option.some.injEq,Prod.mk.injEq] at h;obtain ⟨rfl,rfl⟩:=h
    have e':h2.write (ρ i) o ((mvs τ ρ new).take (min n len * sz))=some g':=by rw [← e];simp [mvs,List.map_take]
    exact ⟨g',by simp only [AV.mv,CV.mv,e'],S'⟩
   ·cases h
  ·cases h
theorem zle (S:Sim τ ρ b1 b2 h0 g0 h1 h2) {op:IOp} {v:AV} {h1':Heap} (hc:op.cl=true) (h:zfi loc vals h1 op=some (v,h1')):∃ h2',zfi (mva τ ρ loc) (mva τ ρ vals) h2 op=some (v.mv τ ρ,h2')∧Sim τ ρ b1 b2 h0 g0 h1' h2':=by
 obtain ⟨hx,hz⟩:=zmk hc
 have E:=zkf (τ:=τ) (ρ:=ρ) (loc:=loc) (vals:=vals) hx
 cases op<;>simp only [zfi,reduceCtorEq] at h ⊢
 case recvd ch zero =>
  rw [E ch (by simp [IOp.xs])]
  have hz':zero.mv τ ρ=zero:=by
   cases zero with
   | c v=>exact congrArg XV.c (CV.mv_cl (by simpa [IOp.zs] using hz))
   | agg l=>exact congrArg XV.agg (ziu hz)
  split at h
  ·rename_i i hi
   rw [hi]
   simp only [AV.mv,CV.mv]
   split at h
   ·rename_i cap buf hb
    rw [S.at_ _ _ hb]
    simp only [Blk.mv]
    split at h
    ·simp only [Option.some.injEq,Prod.mk.injEq] at h;obtain ⟨rfl,rfl⟩:=h
     refine ⟨h2,?_,S⟩
     show some (AV.tup [.c (.int .i64 (-1)),.c (.bool false),zero],h2)=some (AV.tup [.c (.int .i64 (-1)),.c (.bool false),zero.mv τ ρ],h2)
     rw [hz']
    ·rename_i x rest
     simp only [Option.some.injEq,Prod.mk.injEq] at h;obtain ⟨rfl,rfl⟩:=h
     exact ⟨_,rfl,S.put (.inl (by rw [hb];simp)) (.chan cap rest)⟩
   ·cases h
  ·cases h
 case sendd ch x =>
  rw [E ch (by simp [IOp.xs]),E x (by simp [IOp.xs])]
  split at h
  ·rename_i i y hi hy
   rw [hi,zs0 hy]
   simp only [AV.mv,CV.mv]
   split at h
   ·rename_i cap buf hb
    rw [S.at_ _ _ hb]
    simp only [Blk.mv,List.length_map]
    cases hbl:Nat.blt buf.length cap with
    | true =>
     rw [hbl] at h
     simp only [cond_true,Option.some.injEq,Prod.mk.injEq] at h ⊢;obtain ⟨rfl,rfl⟩:=h
     have:=S.put (i:=i) (.inl (by rw [hb];simp)) (.chan cap (buf++[y]))
     simp only [Blk.mv,List.map_append,List.map_cons,List.map_nil] at this
     exact ⟨_,⟨rfl,rfl⟩,this⟩
    | false =>
     rw [hbl] at h
     simp only [cond_false,Option.some.injEq,Prod.mk.injEq] at h ⊢;obtain ⟨rfl,rfl⟩:=h
     exact ⟨_,⟨rfl,rfl⟩,S⟩
   ·cases h
  ·cases h
 case send ch x =>
  rw [E ch (by simp [IOp.xs]),E x (by simp [IOp.xs])]
  split at h
  ·rename_i i y hi hy
   rw [hi,zs0 hy]
   simp only [AV.mv,CV.mv]
   split at h
   ·rename_i cap buf hb
    rw [S.at_ _ _ hb]
    simp only [Blk.mv,List.length_map]
    cases hbl:Nat.blt buf.length cap with
    | true =>
     rw [hbl] at h
     simp only [cond_true,Option.some.injEq,Prod.mk.injEq] at h ⊢;obtain ⟨rfl,rfl⟩:=h
     have:=S.put (i:=i) (.inl (by rw [hb];simp)) (.chan cap (buf++[y]))
     simp only [Blk.mv,List.map_append,List.map_cons,List.map_nil] at this
     exact ⟨_,⟨rfl,rfl⟩,this⟩
    | false=>rw [hbl] at h;cases h
   ·cases h
  ·cases h
theorem zuq (S:Sim τ ρ b1 b2 h0 g0 h1 h2) {sz:Nat} {z:List CV} {s n v:AV} {h1':Heap} (hz:mvs τ ρ z=z) (h:zjj h1 sz z s n=some (v,h1')):∃ h2',zjj h2 sz z (s.mv τ ρ) (n.mv τ ρ)=some (v.mv τ ρ,h2')∧Sim τ ρ b1 b2 h0 g0 h1' h2':=by
 unfold zjj at h ⊢
 split at h
 ·rename_i m hm
  rw [zef hm]
  simp only [AV.mv,CV.mv]
  split at h
  ·simp only [Option.some.injEq,Prod.mk.injEq] at h;obtain ⟨rfl,rfl⟩:=h
   exact ⟨_,rfl,S⟩
  ·rename_i k
   cases hb:Nat.ble (k + 1) 1048576 with
   | false=>rw [hb] at h;cases h
   | true =>
    rw [hb] at h
    simp only [cond_true,Option.some.injEq,Prod.mk.injEq] at h ⊢;obtain ⟨rfl,rfl⟩:=h
    have:=S.new (.cells (zeros (k + 1) z))
    simp only [Blk.mv,zmh z (k + 1) hz] at this
    exact ⟨_,⟨by simp only [S.next],rfl⟩,this⟩
 ·cases h
theorem ziv (S:Sim τ ρ b1 b2 h0 g0 h1 h2) {m v:AV} {f g:Nat→List Ent→Option (AV × Nat × List Ent)} {h1':Heap} (h:zfa h1 m f=some (v,h1'))
  (hf:∀ c es r c' es',f c es=some (r,c',es')→g c (es.map (Ent.mv τ ρ))=some (r.mv τ ρ,c',es'.map (Ent.mv τ ρ))):∃ h2',zfa h2 (m.mv τ ρ) g=some (v.mv τ ρ,h2')∧Sim τ ρ b1 b2 h0 g0 h1' h2':=by
 unfold zfa at h ⊢
 split at h
 ·rename_i i
  simp only [AV.mv,CV.mv]
  split at h
  ·rename_i c es hb
   rw [S.at_ _ _ hb]
   simp only [Blk.mv]
   split at h
   ·rename_i r c' es' hr
    rw [hf _ _ _ _ _ hr]
    simp only [Option.some.injEq,Prod.mk.injEq] at h ⊢;obtain ⟨rfl,rfl⟩:=h
    exact ⟨_,⟨rfl,rfl⟩,S.put (.inl (by rw [hb];simp)) (.map c' es')⟩
   ·cases h
  ·cases h
 ·cases h
def zg1 (τ:Nat→Int) (ρ:Nat→Nat) (b1 b2:Nat) (h0 g0:Heap) (call call':Call):Prop:=∀ f args h1 h2 r h1',Sim τ ρ b1 b2 h0 g0 h1 h2→call f args h1=some (r,h1')→∃ h2',call' f (mva τ ρ args) h2=some (r.mv τ ρ,h2')∧Sim τ ρ b1 b2 h0 g0 h1' h2'
variable {call call':Call}
theorem zot {xs:List X} (hx:xs.all X.cl=true):zet (mva τ ρ loc) (mva τ ρ vals) xs=mva τ ρ (zet loc vals xs):=by
 unfold zet mva
 rw [List.map_map]
 exact List.map_congr_left fun x hm=>zkf hx x hm
theorem zs1 (l:List (Nat × Nat)):zf2 (l.map fun p:Nat × Nat=>(ρ p.1,p.2))=mva τ ρ (zf2 l):=by
 unfold zf2 mva
 rw [List.map_map,List.map_map]
 rfl
theorem zqb (hC:zg1 τ ρ b1 b2 h0 g0 call call') (S:Sim τ ρ b1 b2 h0 g0 h1 h2) {op:IOp} {v:AV} {h1':Heap} (hc:op.cl=true) (h:zbj loc vals call h1 op=some (v,h1')) :
  ∃ h2',zbj (mva τ ρ loc) (mva τ ρ vals) call' h2 op=some (v.mv τ ρ,h2')∧Sim τ ρ b1 b2 h0 g0 h1' h2':=by
 obtain ⟨hx,hz⟩:=zmk hc
 have E:=zkf (τ:=τ) (ρ:=ρ) (loc:=loc) (vals:=vals) hx
 cases op<;>simp only [zbj,reduceCtorEq] at h ⊢
 case store n x y =>
  rw [E x (by simp [IOp.xs]),E y (by simp [IOp.xs])]
  split at h
  ·rename_i i o l hi hl
   rw [hi,zmi hl]
   simp only [AV.mv,CV.mv,zfe]
   cases hb:(l.length == n) with
   | false=>rw [hb] at h;cases h
   | true =>
    rw [hb] at h
    simp only [cond_true] at h ⊢
    split at h
    ·rename_i h' hw
     obtain ⟨g',e,S'⟩:=S.write hw
     rw [e]
     simp only [Option.some.injEq,Prod.mk.injEq] at h;obtain ⟨rfl,rfl⟩:=h
     exact ⟨g',rfl,S'⟩
    ·cases h
  ·cases h
 case app sz by_ s x =>
  rw [E s (by simp [IOp.xs]),E x (by simp [IOp.xs])]
  exact zwo S h
 case copy sz d s =>
  rw [E d (by simp [IOp.xs]),E s (by simp [IOp.xs])]
  exact zup S h
 case call f args =>
  rw [zot (show args.all X.cl=true from hx)]
  exact hC _ _ _ _ _ _ S h
 case callv f args =>
  rw [E f (by simp [IOp.xs])]
  split at h
  ·rename_i g caps hg
   rw [hg]
   simp only [AV.mv,CV.mv]
   have hx':args.all X.cl=true:=by simp only [IOp.xs,List.all_cons,Bool.and_eq_true] at hx;exact hx.2
   rw [zot hx',zs1]
   have:=hC _ _ _ _ _ _ S h
   rwa [show mva τ ρ (zet loc vals args++zf2 caps)=mva τ ρ (zet loc vals args)++mva τ ρ (zf2 caps) from List.map_append ..] at this
  ·cases h
 case recvd a b=>exact zle S hc h
 case sendd a b=>exact zle S hc h
 case send a b=>exact zle S hc h
 case appz sz z s n =>
  rw [E s (by simp [IOp.xs]),E n (by simp [IOp.xs])]
  exact zuq S (ziu hz) h
 case mput m k x =>
  rw [E m (by simp [IOp.xs]),E k (by simp [IOp.xs]),E x (by simp [IOp.xs])]
  split at h
  ·rename_i n y hn hy
   rw [zkd hn,zuo hy]
   refine ziv S h fun c es r c' es' hf=>?_
   simp only [zrz,Option.some.injEq,Prod.mk.injEq] at hf ⊢
   obtain ⟨rfl,rfl,rfl⟩:=hf
   exact ⟨rfl,zy1,zrn⟩
  ·cases h
 case mdel m k =>
  rw [E m (by simp [IOp.xs]),E k (by simp [IOp.xs])]
  split at h
  ·rename_i n hn
   rw [zkd hn]
   refine ziv S h fun c es r c' es' hf=>?_
   simp only [zr0,Option.some.injEq,Prod.mk.injEq] at hf ⊢
   obtain ⟨rfl,rfl,rfl⟩:=hf
   exact ⟨rfl,rfl,zy0⟩
  ·cases h
 case mclr m =>
  rw [E m (by simp [IOp.xs])]
  refine ziv S h fun c es r c' es' hf=>?_
  simp only [zr1,Option.some.injEq,Prod.mk.injEq] at hf ⊢
  obtain ⟨rfl,rfl,rfl⟩:=hf
  exact ⟨rfl,rfl,rfl⟩
 case ment z m k =>
  rw [E m (by simp [IOp.xs]),E k (by simp [IOp.xs])]
  split at h
  ·rename_i n hn
   rw [zkd hn]
   have hz':z.mv τ ρ=z:=CV.mv_cl (by simpa [IOp.zs] using hz)
   refine ziv S h fun c es r c' es' hf=>?_
   unfold zpi at hf ⊢
   rw [zmj]
   split at hf
   ·rename_i b x hb
    rw [hb]
    simp only [Option.some.injEq,Prod.mk.injEq] at hf
    obtain ⟨rfl,rfl,rfl⟩:=hf
    rfl
   ·rename_i hb
    rw [hb]
    simp only [Option.some.injEq,Prod.mk.injEq] at hf
    obtain ⟨rfl,rfl,rfl⟩:=hf
    have:=zrn (τ:=τ) (ρ:=ρ) (es:=es) (c:=c) (n:=n) (x:=z)
    rw [hz'] at this
    show some (AV.tup [.c z,.c (.int .i64 (Int.ofNat c))],c + 1,ze9 (es.map (Ent.mv τ ρ)) c n z)=some (AV.tup [.c (z.mv τ ρ),.c (.int .i64 (Int.ofNat c))],c + 1,(ze9 es c n z).map (Ent.mv τ ρ))
    rw [hz',this]
  ·cases h
 case mest m s x =>
  rw [E m (by simp [IOp.xs]),E s (by simp [IOp.xs]),E x (by simp [IOp.xs])]
  split at h
  ·rename_i k y hk hy
   rw [zef hk,zuo hy]
   refine ziv S h fun c es r c' es' hf=>?_
   unfold zr2 at hf ⊢
   split at hf
   ·rename_i es2 he
    rw [zaag he]
    simp only [Option.some.injEq,Prod.mk.injEq] at hf
    obtain ⟨rfl,rfl,rfl⟩:=hf
    rfl
   ·cases hf
  ·cases h
 case mark x =>
  rw [E x (by simp [IOp.xs])]
  split at h
  ·rename_i i o n c hi
   rw [hi]
   simp only [AV.mv,CV.mv]
   split at h
   ·rename_i l hl
    rw [S.at_ _ _ hl]
    simp only [Blk.mv]
    cases hb:Nat.ble 1 n with
    | false=>rw [hb] at h;cases h
    | true =>
     rw [hb] at h
     simp only [cond_true,Option.some.injEq,Prod.mk.injEq] at h ⊢;obtain ⟨rfl,rfl⟩:=h
     exact ⟨_,⟨rfl,rfl⟩,S⟩
   ·cases h
  ·cases h
theorem zy3 (hC:zg1 τ ρ b1 b2 h0 g0 call call') (S:Sim τ ρ b1 b2 h0 g0 h1 h2) {op:IOp} {v:AV} {h1':Heap} (hc:op.cl=true) (h:zcj loc vals call h1 op=some (v,h1')) :
  ∃ h2',zcj (mva τ ρ loc) (mva τ ρ vals) call' h2 op=some (v.mv τ ρ,h2')∧Sim τ ρ b1 b2 h0 g0 h1' h2':=by
 unfold zcj at h ⊢
 cases hk:op.kd<;>rw [hk] at h<;>simp only at h ⊢
 ·split at h
  ·rename_i u hu
   rw [zld S hc hu]
   simp only [Option.some.injEq,Prod.mk.injEq] at h;obtain ⟨rfl,rfl⟩:=h
   exact ⟨h2,rfl,S⟩
  ·cases h
 ·split at h
  ·rename_i f b hb
   obtain ⟨g,e,hg⟩:=zqa (τ:=τ) (ρ:=ρ) hc hb
   rw [e]
   simp only [Option.some.injEq,Prod.mk.injEq] at h ⊢;obtain ⟨rfl,rfl⟩:=h
   exact ⟨_,⟨by rw [← S.next,hg],rfl⟩,S.new b⟩
  ·cases h
 ·exact zqb hC S hc h
theorem zg2 {g:Option (X × Bool)} {b:Bool} (hc:gcl g=true) (h:zcy loc vals g=some b):zcy (mva τ ρ loc) (mva τ ρ vals) g=some b:=by
 cases g with
 | none=>exact h
 | some p =>
  obtain ⟨x,want⟩:=p
  unfold zcy at h ⊢
  simp only at h ⊢
  rw [X.eval_mv hc]
  split at h
  ·rename_i b' hb
   rw [hb];exact h
  ·rename_i hb
   rw [hb];exact h
  ·cases h
theorem zn6 {i:Inst} (h:i.cl=true):i.op.cl=true∧gcl i.guard=true:=by unfold Inst.cl at h;simpa using h
theorem zml (hC:zg1 τ ρ b1 b2 h0 g0 call call'):∀ {l:List Inst} {vals:List AV} {h1 h2:Heap} {r:List AV} {h1':Heap},l.all Inst.cl=true→Sim τ ρ b1 b2 h0 g0 h1 h2→zd5 call loc l vals h1=some (r,h1') →
  ∃ h2',zd5 call' (mva τ ρ loc) l (mva τ ρ vals) h2=some (mva τ ρ r,h2')∧Sim τ ρ b1 b2 h0 g0 h1' h2'
 | [],vals,h1,h2,r,h1',_,S,h=>by
  simp only [zd5,Option.some.injEq,Prod.mk.injEq] at h ⊢;obtain ⟨rfl,rfl⟩:=h
  exact ⟨_,⟨rfl,rfl⟩,S⟩
 | i :: l,vals,h1,h2,r,h1',hl,S,h=>by
  simp only [List.all_cons,Bool.and_eq_true] at hl
  obtain ⟨c1,c2⟩:=zn6 hl.1
  unfold zd5 at h ⊢
  split at h
  ·cases h
  ·rename_i hg
   rw [zg2 c2 hg]
   exact zml hC hl.2 S h
  ·rename_i hg
   rw [zg2 c2 hg]
   simp only
   split at h
   ·rename_i v h' ho
    obtain ⟨g',e,S'⟩:=zy3 hC S c1 ho
    rw [e]
    exact zml hC (vals:=v :: vals) hl.2 S' h
   ·cases h
structure DM (τ:Nat→Int) (ρ:Nat→Nat) (b1 b2:Nat) (h0 g0:Heap) (s t:DS):Prop where
 vals:t.vals=mva τ ρ s.vals
 cur:Sim τ ρ b1 b2 h0 g0 s.cur t.cur
 ks:∀ (e:Nat) (h:Heap),s.ks.lookup e=some h→∃ h',t.ks.lookup e=some h'∧Sim τ ρ b1 b2 h0 g0 h h'
 news:∀ (p:Nat),(∀ i b,s.news.lookup p=some (i,b)→b1≤i∧t.news.lookup p=some (ρ i,b.mv τ ρ))∧(s.news.lookup p=none→t.news.lookup p=none)
theorem zfw (hC:zg1 τ ρ b1 b2 h0 g0 call call') {base:Nat} (hb:b1≤base) (hr:∀ k,ρ (base + k)=ρ base + k):∀ {l:List Inst} {j k:Nat} {s t s':DS},l.all Inst.cl=true→DM τ ρ b1 b2 h0 g0 s t→zd9 call loc base l j k s=some s' →
  ∃ t',zd9 call' (mva τ ρ loc) (ρ base) l j k t=some t'∧DM τ ρ b1 b2 h0 g0 s' t'
 | [],j,k,s,t,s',_,D,h=>by
  simp only [zd9,Option.some.injEq] at h;subst h
  exact ⟨t,rfl,D⟩
 | i :: l,j,k,s,t,s',hl,D,h=>by
  simp only [List.all_cons,Bool.and_eq_true] at hl
  obtain ⟨c1,c2⟩:=zn6 hl.1
  unfold zd9 at h ⊢
  split at h
  ·cases h
  ·rename_i g hg
   rw [D.vals,zg2 c2 hg]
   simp only
   split at h
   ·rename_i hk
    split at h
    ·exact zfw hC hb hr hl.2 (s:=⟨.tup [] :: s.vals,s.cur,s.ks,s.news⟩) ⟨rfl,D.cur,D.ks,D.news⟩ h
    ·split at h
     ·rename_i v hv
      rw [zld D.cur c1 hv]
      exact zfw hC hb hr hl.2 (s:=⟨v :: s.vals,s.cur,s.ks,s.news⟩) ⟨rfl,D.cur,D.ks,D.news⟩ h
     ·cases h
   ·rename_i hk
    split at h
    ·exact zfw hC hb hr hl.2 (s:=⟨.tup [] :: s.vals,s.cur,s.ks,s.news⟩) ⟨rfl,D.cur,D.ks,D.news⟩ h
    ·split at h
     ·rename_i f b hv
      obtain ⟨g,e,hg'⟩:=zqa (τ:=τ) (ρ:=ρ) c1 hv
      rw [e]
      simp only
      rw [← hr k,hg']
      refine zfw hC hb hr hl.2 (s:=⟨f (base + k) :: s.vals,s.cur.put (base + k) b,s.ks,(j,base + k,b) :: s.news⟩) ⟨rfl,D.cur.put (.inr (by omega)) b,D.ks,fun p=>?_⟩ h
      simp only [List.lookup]
      cases hp:p == j with
      | true =>
       simp only [Option.some.injEq,Prod.mk.injEq,reduceCtorEq,false_implies,and_true]
       rintro i' b' ⟨rfl,rfl⟩
       exact ⟨by omega,rfl,rfl⟩
      | false=>exact D.news p
     ·cases h
   ·rename_i hk
    split at h
    ·refine zfw hC hb hr hl.2 (s:=⟨.tup [] :: s.vals,s.cur,(j,s.cur) :: s.ks,s.news⟩) ⟨rfl,D.cur,fun e h hh=>?_,D.news⟩ h
     simp only [List.lookup] at hh ⊢
     cases hp:e == j with
     | true =>
      rw [hp] at hh
      simp only [Option.some.injEq] at hh ⊢;subst hh
      exact ⟨_,rfl,D.cur⟩
     | false=>rw [hp] at hh;exact D.ks e h hh
    ·split at h
     ·rename_i v h' hv
      obtain ⟨g',e,S'⟩:=zqb hC D.cur c1 hv
      rw [e]
      refine zfw hC hb hr hl.2 (s:=⟨v :: s.vals,h',(j,h') :: s.ks,s.news⟩) ⟨rfl,S',fun e h hh=>?_,D.news⟩ h
      simp only [List.lookup] at hh ⊢
      cases hp:e == j with
      | true =>
       rw [hp] at hh
       simp only [Option.some.injEq] at hh ⊢;subst hh
       exact ⟨_,rfl,S'⟩
      | false=>rw [hp] at hh;exact D.ks e h hh
     ·cases h
theorem zjc {s t:DS} (D:DM τ ρ b1 b2 h0 g0 s t):∀ {ps:List Nat} {h1 h2:Heap},Sim τ ρ b1 b2 h0 g0 h1 h2→Sim τ ρ b1 b2 h0 g0 (zdy s ps h1) (zdy t ps h2)
 | [],h1,h2,S=>S
 | p :: ps,h1,h2,S=>by
  unfold zdy
  obtain ⟨d1,d2⟩:=D.news p
  cases hp:s.news.lookup p with
  | none=>rw [d2 hp];exact zjc D S
  | some x =>
   obtain ⟨i,b⟩:=x
   obtain ⟨hi,e⟩:=d1 i b hp
   rw [e]
   exact zjc D (S.put (.inr hi) b)
theorem zou {s t:DS} (D:DM τ ρ b1 b2 h0 g0 s t) {H0 G0:Heap} (S0:Sim τ ρ b1 b2 h0 g0 H0 G0) {op:IOp} {v:AV} (hc:op.cl=true):∀ {cs:List (Option Nat × List Nat)},zeu loc H0 s op vals v cs=true→zeu (mva τ ρ loc) G0 t op (mva τ ρ vals) (v.mv τ ρ) cs=true
 | [],_=>rfl
 | (e,ps) :: r,h=>by
  unfold zeu at h ⊢
  have hst:∀ h,stage H0 s e=some h→∃ h',stage G0 t e=some h'∧Sim τ ρ b1 b2 h0 g0 h h':=by
   intro hp hh
   cases e with
   | none=>simp only [stage,Option.some.injEq] at hh ⊢;subst hh;exact ⟨_,rfl,S0⟩
   | some e=>exact D.ks e hp hh
  split at h
  ·rename_i hh he
   obtain ⟨hh',e',S'⟩:=hst _ he
   rw [e']
   simp only
   split at h
   ·rename_i u hu
    rw [zld (zjc D S') hc hu]
    simp only [Bool.and_eq_true,decide_eq_true_eq] at h ⊢
    obtain ⟨rfl,h⟩:=h
    exact ⟨rfl,zou D S0 hc h⟩
   ·cases h
  ·cases h
theorem zov {s t:DS} (D:DM τ ρ b1 b2 h0 g0 s t) {H0 G0:Heap} (S0:Sim τ ρ b1 b2 h0 g0 H0 G0):∀ {l:List Inst} {vals:List AV},l.all Inst.cl=true→zeg loc H0 s l vals=true→zeg (mva τ ρ loc) G0 t l (mva τ ρ vals)=true
 | [],_,_,_=>rfl
 | i :: l,[],_,h=>by cases h
 | i :: l,v :: vs,hl,h=>by
  simp only [List.all_cons,Bool.and_eq_true] at hl
  obtain ⟨c1,c2⟩:=zn6 hl.1
  unfold zeg at h ⊢
  simp only [mva,List.map_cons,Bool.and_eq_true] at h ⊢
  refine ⟨?_,zov D S0 hl.2 h.2⟩
  replace h:=h.1
  split at h
  ·rfl
  ·rename_i c cs hcs
   split at h
   ·rename_i hg
    have:=zg2 (τ:=τ) (ρ:=ρ) c2 hg
    unfold mva at this
    rw [this]
    exact zou D S0 c1 h
   ·rename_i hg
    have:=zg2 (τ:=τ) (ρ:=ρ) c2 hg
    unfold mva at this
    rw [this]
   ·cases h
theorem zur (loc:List AV) (d:Option Nat) (v:AV):zc2 (mva τ ρ loc) d (v.mv τ ρ)=mva τ ρ (zc2 loc d v):=by
 cases d with
 | none=>rfl
 | some d=>simp [zc2,mva,List.map_set]
theorem ziw:∀ (l:List Inst) (vals loc:List AV),zb4 l (mva τ ρ vals) (mva τ ρ loc)=mva τ ρ (zb4 l vals loc)
 | [],_,_=>rfl
 | i :: l,[],_=>rfl
 | i :: l,v :: vals,loc=>by
  show zb4 l (mva τ ρ vals) (zc2 (mva τ ρ loc) i.dst (v.mv τ ρ))=mva τ ρ (zb4 l vals (zc2 loc i.dst v))
  rw [zur]
  exact ziw l vals _
theorem zl8:∀ (m:List Bool) (loc:List AV),zbv m (mva τ ρ loc)=mva τ ρ (zbv m loc)
 | [],loc=>by cases loc<;>rfl
 | b :: m,[]=>rfl
 | b :: m,v :: loc=>by
  show (bif b then v.mv τ ρ else .junk) :: zbv m (mva τ ρ loc)=(bif b then v else .junk).mv τ ρ :: mva τ ρ (zbv m loc)
  rw [zl8 m loc]
  cases b<;>rfl
theorem zl9 (l:List AV):(mva τ ρ l).reverse=mva τ ρ l.reverse:=by simp [mva]
theorem zow {body body':List AV→Heap→Option (Ex × List AV × Heap)} {keep:List Bool}
  (hb:∀ loc h1 h2 ex loc' h1',Sim τ ρ b1 b2 h0 g0 h1 h2→body loc h1=some (ex,loc',h1')→∃ h2',body' (mva τ ρ loc) h2=some (ex,mva τ ρ loc',h2')∧Sim τ ρ b1 b2 h0 g0 h1' h2') :
  ∀ {n m:Nat} {loc:List AV} {h1 h2:Heap} {ex:Ex} {loc':List AV} {h1':Heap},n≤m→Sim τ ρ b1 b2 h0 g0 h1 h2→zfj body keep n loc h1=some (ex,loc',h1')→∃ h2',zfj body' keep m (mva τ ρ loc) h2=some (ex,mva τ ρ loc',h2')∧Sim τ ρ b1 b2 h0 g0 h1' h2'
 | 0,_,_,_,_,_,_,_,_,_,h=>by cases h
 | n + 1,0,_,_,_,_,_,_,hm,_,_=>by omega
 | n + 1,m + 1,loc,h1,h2,ex,loc',h1',hm,S,h=>by
  unfold zfj at h ⊢
  rw [zl8]
  split at h
  ·rename_i l1 k1 he
   obtain ⟨k2,e,S'⟩:=hb _ _ _ _ _ _ S he
   rw [e]
   exact zow hb (by omega) S' h
  ·rename_i r hr
   obtain ⟨k2,e,S'⟩:=hb _ _ _ _ _ _ S h
   rw [e]
   cases ex with
   | norm=>exact absurd h (by intro hh;exact hr _ _ hh)
   | exit j=>exact ⟨k2,rfl,S'⟩
   | ret=>exact ⟨k2,rfl,S'⟩
theorem zx9 (hC:zg1 τ ρ b1 b2 h0 g0 call call') {N N':Nat} (hN:N≤N'):∀ (c:IR) {loc:List AV} {h1 h2:Heap} {ex:Ex} {loc':List AV} {h1':Heap},c.cl=true→Sim τ ρ b1 b2 h0 g0 h1 h2→ev call N c loc h1=some (ex,loc',h1') →
  ∃ h2',ev call' N' c (mva τ ρ loc) h2=some (ex,mva τ ρ loc',h2')∧Sim τ ρ b1 b2 h0 g0 h1' h2':=by
 intro c
 induction c with
 | skip =>
  intro loc h1 h2 ex loc' h1' _ S h
  simp only [ev,Option.some.injEq,Prod.mk.injEq] at h ⊢;obtain ⟨rfl,rfl,rfl⟩:=h
  exact ⟨_,⟨rfl,rfl,rfl⟩,S⟩
 | reg l =>
  intro loc h1 h2 ex loc' h1' hc S h
  simp only [ev,zmy] at h ⊢
  split at h
  ·rename_i vs h' hr
   obtain ⟨g',e,S'⟩:=zml (vals:=[]) hC hc S hr
   rw [show zd5 call' (mva τ ρ loc) l [] h2=some (mva τ ρ vs,g') from e]
   simp only [Option.some.injEq,Prod.mk.injEq] at h ⊢;obtain ⟨rfl,rfl,rfl⟩:=h
   exact ⟨_,⟨rfl,by rw [zl9,ziw],rfl⟩,S'⟩
  ·cases h
 | dreg n l =>
  intro loc h1 h2 ex loc' h1' hc S h
  simp only [ev,zmz] at h ⊢
  split at h
  ·rename_i s hr
   have S0:=S.skip n
   have D0:DM τ ρ b1 b2 h0 g0 ⟨[],h1.skip n,[],[]⟩ ⟨[],h2.skip n,[],[]⟩:=⟨rfl,S0,fun e h hh=>by simp [List.lookup] at hh,fun p=>⟨fun i b hh=>by simp [List.lookup] at hh,fun _=>rfl⟩⟩
   have hge:=S.ge
   obtain ⟨t,e,D⟩:=zfw (base:=h1.next) hC hge (fun k=>by
    have e1:=S.up (i:=h1.next + k) (by omega)
    have e2:=S.up hge
    omega) hc D0 hr
   rw [S.next] at e
   rw [e]
   simp only
   cases hk:zeg loc (h1.skip n) s l.reverse s.vals with
   | false=>rw [hk] at h;cases h
   | true =>
    rw [hk] at h
    simp only [cond_true,Option.some.injEq,Prod.mk.injEq] at h
    obtain ⟨rfl,rfl,rfl⟩:=h
    rw [D.vals,zov D S0 (by rw [List.all_reverse];exact hc) hk]
    exact ⟨_,by simp only [cond_true,zl9,ziw],D.cur⟩
  ·cases h
 | seq a b iha ihb =>
  intro loc h1 h2 ex loc' h1' hc S h
  simp only [IR.cl,Bool.and_eq_true] at hc
  simp only [ev] at h ⊢
  split at h
  ·rename_i l1 k1 he
   obtain ⟨k2,e,S'⟩:=iha hc.1 S he
   rw [e]
   exact ihb hc.2 S' h
  ·rename_i r hr
   obtain ⟨k2,e,S'⟩:=iha hc.1 S h
   rw [e]
   cases ex with
   | norm=>exact absurd h (by intro hh;exact hr _ _ hh)
   | exit j=>exact ⟨k2,rfl,S'⟩
   | ret=>exact ⟨k2,rfl,S'⟩
 | cond x a b iha ihb =>
  intro loc h1 h2 ex loc' h1' hc S h
  simp only [IR.cl,Bool.and_eq_true] at hc
  simp only [ev] at h ⊢
  have:=X.eval_mv (τ:=τ) (ρ:=ρ) hc.1 loc []
  rw [show mva τ ρ []=[] from rfl] at this
  rw [this]
  split at h
  ·rename_i hx
   rw [hx]
   exact iha hc.2.1 S h
  ·rename_i hx
   rw [hx]
   exact ihb hc.2.2 S h
  ·cases h
 | block id a iha =>
  intro loc h1 h2 ex loc' h1' hc S h
  simp only [ev] at h ⊢
  split at h
  ·rename_i j l1 k1 he
   obtain ⟨k2,e,S'⟩:=iha hc S he
   rw [e]
   simp only [Option.some.injEq,Prod.mk.injEq] at h ⊢;obtain ⟨rfl,rfl,rfl⟩:=h
   exact ⟨_,⟨rfl,rfl,rfl⟩,S'⟩
  ·rename_i r hr
   obtain ⟨k2,e,S'⟩:=iha hc S h
   rw [e]
   cases ex with
   | norm=>exact ⟨k2,rfl,S'⟩
   | exit j=>exact absurd h (by intro hh;exact hr _ _ _ hh)
   | ret=>exact ⟨k2,rfl,S'⟩
 | loop keep a iha =>
  intro loc h1 h2 ex loc' h1' hc S h
  simp only [ev] at h ⊢
  exact zow (fun loc h1 h2 ex loc' h1' S h=>iha hc S h) hN S h
 | exit id =>
  intro loc h1 h2 ex loc' h1' _ S h
  simp only [ev,Option.some.injEq,Prod.mk.injEq] at h ⊢;obtain ⟨rfl,rfl,rfl⟩:=h
  exact ⟨_,⟨rfl,rfl,rfl⟩,S⟩
 | ret =>
  intro loc h1 h2 ex loc' h1' _ S h
  simp only [ev,Option.some.injEq,Prod.mk.injEq] at h ⊢;obtain ⟨rfl,rfl,rfl⟩:=h
  exact ⟨_,⟨rfl,rfl,rfl⟩,S⟩
 | bad=>intro loc h1 h2 ex loc' h1' _ S h;cases h
theorem zya (S:Sim τ ρ b1 b2 h0 g0 h1 h2) {r:RV} {v:AV} (h:r.eval loc h1=some v):r.eval (mva τ ρ loc) h2=some (v.mv τ ρ):=by
 cases r with
 | loc i =>
  simp only [RV.eval,Option.some.injEq] at h ⊢;subst h
  exact zkc loc i
 | cell i n agg =>
  simp only [RV.eval] at h ⊢
  rw [zkc]
  split at h
  ·rename_i b o hb
   rw [hb]
   simp only [AV.mv,CV.mv]
   split at h
   ·rename_i l hl
    rw [S.read hl]
    exact zh9 h
   ·cases h
  ·cases h
theorem zlf (S:Sim τ ρ b1 b2 h0 g0 h1 h2):∀ {rs:List RV} {xs:List XV},zcb loc h1 rs=some xs→zcb (mva τ ρ loc) h2 rs=some (xs.map (XV.mv τ ρ))
 | [],xs,h=>by simp only [zcb,Option.some.injEq] at h;subst h;rfl
 | r :: rs,xs,h=>by
  unfold zcb at h ⊢
  split at h
  ·rename_i v hv
   rw [zya S hv]
   simp only
   split at h
   ·rename_i x hx
    rw [zs0 hx]
    simp only
    split at h
    ·rename_i ys hys
     rw [zlf S hys]
     simp only [Option.some.injEq] at h;subst h;rfl
    ·cases h
   ·cases h
  ·cases h
theorem zox (S:Sim τ ρ b1 b2 h0 g0 h1 h2) {rs:List RV} {v:AV} (h:zbk loc h1 rs=some v):zbk (mva τ ρ loc) h2 rs=some (v.mv τ ρ):=by
 have multi:∀ {rs:List RV} {v:AV},(match zcb loc h1 rs with | some xs=>some (AV.tup xs) | none=>none)=some v→(match zcb (mva τ ρ loc) h2 rs with | some xs=>some (AV.tup xs) | none=>none)=some (v.mv τ ρ):=by
  intro rs v h
  split at h
  ·rename_i xs hxs
   rw [zlf S hxs]
   simp only [Option.some.injEq] at h;subst h;rfl
  ·cases h
 match rs,h with
 | [],h=>exact multi (rs:=[]) h
 | [r],h=>exact zya S h
 | r :: r' :: rs,h=>exact multi (rs:=r :: r' :: rs) h
theorem zwp (slots:List Nat) (args:List AV):enter slots (mva τ ρ args)=mva τ ρ (enter slots args):=by
 unfold enter mva
 rw [List.map_map]
 refine List.map_congr_left fun i _=>?_
 show (args.map (AV.mv τ ρ)).getD i (.tup [])=(args.getD i (.tup [])).mv τ ρ
 rw [List.getD_eq_getElem?_getD,List.getD_eq_getElem?_getD,List.getElem?_map]
 cases args[i]?<;>rfl
def clT (table:List (Nat × IRF)):Bool:=table.all fun p=>p.2.body.cl
theorem znl {α β:Type} [BEq α] [LawfulBEq α] {a:α} {b:β}:∀ {l:List (α × β)},l.lookup a=some b→(a,b)∈l
 | [],h=>by cases h
 | (c,d) :: l,h=>by
  simp only [List.lookup] at h
  cases hc:a == c with
  | true =>
   rw [hc] at h
   simp only [Option.some.injEq] at h;subst h
   rw [eq_of_beq hc];exact List.mem_cons_self
  | false=>rw [hc] at h;exact List.mem_cons_of_mem _ (znl h)
theorem zrd {table:List (Nat × IRF)} (hT:clT table=true) {N N':Nat} (hN:N≤N') (hC:zg1 τ ρ b1 b2 h0 g0 call call'):zg1 τ ρ b1 b2 h0 g0 (zem table N call) (zem table N' call'):=by
 intro f args h1 h2 r h1' S h
 unfold zem at h ⊢
 split at h
 ·cases h
 ·rename_i F hF
  have hcl:F.body.cl=true:=List.all_eq_true.1 hT _ (znl hF)
  rw [show (mva τ ρ args).length=args.length from List.length_map ..]
  cases hb:(args.length == F.nparams) with
  | false=>rw [hb] at h;cases h
  | true =>
   rw [hb] at h
   simp only [cond_true] at h ⊢
   rw [zwp]
   split at h
   ·rename_i loc' k1 he
    obtain ⟨k2,e,S'⟩:=zx9 hC hN F.body hcl S he
    rw [e]
    simp only
    split at h
    ·rename_i r' hr
     rw [zox S' hr]
     simp only [Option.some.injEq,Prod.mk.injEq] at h ⊢;obtain ⟨rfl,rfl⟩:=h
     exact ⟨_,⟨rfl,rfl⟩,S'⟩
    ·cases h
   ·rename_i loc' k1 he
    obtain ⟨k2,e,S'⟩:=zx9 hC hN F.body hcl S he
    rw [e]
    simp only
    split at h
    ·rename_i r' hr
     rw [zox S' hr]
     simp only [Option.some.injEq,Prod.mk.injEq] at h ⊢;obtain ⟨rfl,rfl⟩:=h
     exact ⟨_,⟨rfl,rfl⟩,S'⟩
    ·cases h
   ·cases h
def OverM (o:Over):Prop:=∀ (τ:Nat→Int) (ρ:Nat→Nat) (b1 b2:Nat) (h0 g0:Heap) f g,o f=some g→∀ call call',zg1 τ ρ b1 b2 h0 g0 call call'→∀ args h1 h2 r h1',Sim τ ρ b1 b2 h0 g0 h1 h2→g call args h1=some (r,h1')→∃ h2',g call' (mva τ ρ args) h2=some (r.mv τ ρ,h2')∧Sim τ ρ b1 b2 h0 g0 h1' h2'
structure OverM2 (τ:Nat→Int) (o o':Over) (table:List (Nat × IRF)):Prop where
 no_:∀ f,o f=none→o' f=none
 yes_:∀ (ρ:Nat→Nat) (b1 b2:Nat) (h0 g0:Heap) f g,o f=some g→∀ call call' N',20≤N'→zg1 τ ρ b1 b2 h0 g0 call call'→∀ args h1 h2 r h1',Sim τ ρ b1 b2 h0 g0 h1 h2→g call args h1=some (r,h1') →
  ∃ h2',(match o' f with
   | some g'=>g' call' (mva τ ρ args) h2
   | none=>zem table N' call' f (mva τ ρ args) h2)=some (r.mv τ ρ,h2')∧Sim τ ρ b1 b2 h0 g0 h1' h2'
theorem OverM.two {o:Over} (h:OverM o) (table:List (Nat × IRF)) {τ:Nat→Int}:OverM2 τ o o table:=⟨fun _ h=>h,fun ρ b1 b2 h0 g0 f g hf call call' _ _ hC args h1 h2 r h1' S he=>by
 rw [hf];exact h τ ρ b1 b2 h0 g0 f g hf call call' hC args h1 h2 r h1' S he⟩
theorem zkg {o o':Over} {table:List (Nat × IRF)} (hT:clT table=true) (hO:OverM2 τ o o' table) {N N':Nat} (hN:N≤N') (h20:20≤N'):∀ {d d':Nat},d≤d'→zg1 τ ρ b1 b2 h0 g0 (evCallO o table N d) (evCallO o' table N' d')
 | 0,_,_=>fun f args h1 h2 r h1' _ h=>by cases h
 | d + 1,0,hd=>by omega
 | d + 1,d' + 1,hd=>by
  intro f args h1 h2 r h1' S h
  rw [zit] at h ⊢
  cases hf:o f with
  | some g =>
   rw [hf] at h
   exact hO.yes_ ρ b1 b2 h0 g0 f g hf _ _ N' h20 (zkg (d:=d) (d':=d') hT hO hN h20 (by omega)) args h1 h2 r h1' S h
  | none =>
   rw [hf] at h
   rw [hO.no_ f hf]
   exact zrd hT hN (zkg (d:=d) (d':=d') hT hO hN h20 (by omega)) f args h1 h2 r h1' S h
end
end Lav
