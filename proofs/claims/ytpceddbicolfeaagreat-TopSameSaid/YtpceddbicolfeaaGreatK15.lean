import Derived.KernelRfl
import Derived.Test.YtpceddbicolfeaaGreatK14
set_option maxRecDepth 100000
set_option linter.unusedVariables false
namespace Lav
open Q
namespace Q
def g177:Blk:=cs ([p 1 0,a 8,a 6,a 3,a 3,d 2 0 58 1,a 6,a 6])
def g178:Blk:=cs ([a 8,a 6,a 3,a 3,p 3 0,p 4 0,p 5 0,a 1,d 6 0 16 1,m 0,a 0,a 0,s 7 0 8 8,d 8 0 3 1,d 9 0 6 3,s 10 0 6 6,d 11 0 13 14,ch 12,a 57,a 6,f,f,f])
def g179:Blk:=cs (rp 58 [f])
def ztt:Blk:=cs ([a 12,a 1,a 1,a 0,a 0,a 0,m 0,ns,ns,ns,a 0,a 0,a 10,a 1,a 1,a 0,a 0,a 0,m 0,ns,ns,ns,a 0,a 0,a 11,a 1,a 1,a 0,a 0,a 0,m 0,ns,ns,ns]++rp 4 [a 0]++[a 2,a 1,a 0,a 0,m 0,ns,ns,ns,a 1]++rp 2 [a 0,a 0,a 0,a 0,a 0,a 0,a 0,m 0,ns,ns,ns,a 0]++[a 0])
def g181 (t0 t1 t2:Int):Blk:=cs ([a 0,a 1]++rp 4 [a 0]++[ns,a 0,a 0,a 0,ns,a 1,a 3,a 3,a 0,a 4]++rp 4 [a 0]++[d 21 0 1 1,a 0,a 0,a 0,ns,a 4,a 7,a 7,a 0,a 5]++rp 4 [a 0]++[ns,a 0,a 0,a 0,ns,a 9,a 12,a 12,a 1,a 1]++rp 4 [a 0]++[ns,a 0,a 1,a 0,ns,a 14,a 17,a 17,a 1,a 4]++rp 4 [a 0]++[d 22 0 1 1,a 0,a 0,a 0,ns,a 19,a 22,a 22,a 1,a 5]++rp 4 [a 0]++[ns,a 0,a 0,a 0,ns,a 24,a 27,a 27,a 2,a 1]++rp 4 [a 0]++[ns,a 0,a 2,a 0,ns,a 29,a 32,a 32,a 2,a 4]++rp 4 [a 0]++[d 23 0 1 1,a 0,a 0,a 0,ns,a 34,a 37,a 37,a 2,a 5]++rp 4 [a 0]++[ns,a 0,a 0,a 0,ns,a 39,a 42,a 42,a 0,a 2,a 1,a 0,a 0,a 0,ns,a 0,a 1,a 0,ns,a 44,tv t0,tv t0,a 1,a 2,a 1,a 0,a 0,a 0,ns,a 0,a 1,a 0,ns,a 45,tv t1,tv t1,a 2,a 2,a 1,a 0,a 0,a 0,ns,a 0,a 1,a 0,ns,a 46,tv t2,tv t2,a 0,a 3,a 0,a 0,a 0,a 1,ns,a 0,a 0,a 0,d 20 0 1 1,a 53,a 56,a 56])
def zei:Blk:=cs ([u 98]++rp 15 [u 0])
def ztu:Blk:=ck 8 [.c (a 0),.c (a 0),.c (a 0),.c (a 0),.c (a 0),.c (a 0)]
def zyf (t0 t1 t2:Int):List Blk:=pz 0 n0 [(0,g177),(1,g178),(2,g179),(3,g9),(10,ztt),(11,g181 t0 t1 t2),(14,g11),(15,g169),(19,g42),(20,zei),(34,g20),(35,g20),(36,g20),(60,zgc),(64,ztu),(65,g13),(79,g14)]
end Q
theorem zaiy (t0 t1 t2:Int):DP 0 (H 76 t0 t1 t2) (zyf t0 t1 t2):=⟨(ts 80 [(2,519),(11,86),(20,375),(79,259)]),524,by kernel_rfl,by kernel_rfl,by kernel_rfl⟩
namespace Q
def ztv:Blk:=cs ([p 1 0,a 8,a 6,a 3,a 3,d 2 0 62 1,a 6,a 6])
def ztw:Blk:=cs ([a 8,a 6,a 3,a 3,p 3 0,p 4 0,p 5 0,a 1,d 6 0 16 1,m 0,a 0,a 0,s 7 0 8 8,d 8 0 3 1,d 9 0 6 3,s 10 0 6 6,d 11 0 14 14,ch 12,a 61,a 6,f,f,f])
def ztx:Blk:=cs (rp 62 [f])
def zty:Blk:=cs ([a 12,a 1,a 1,a 0,a 0,a 0,m 0,ns,ns,ns,a 0,a 0,a 13,a 1,a 1,a 0,a 0,a 0,m 0,ns,ns,ns,a 0,a 0,a 11,a 1,a 1,a 0,a 0,a 0,m 0,ns,ns,ns]++rp 4 [a 0]++[a 2,a 1,a 0,a 0,m 0,ns,ns,ns,a 1]++rp 2 [a 0,a 0,a 0,a 0,a 0,a 0,a 0,m 0,ns,ns,ns,a 0]++[a 0])
def g188 (t0 t1 t2:Int):Blk:=cs ([a 0,a 1]++rp 4 [a 0]++[ns,a 0,a 0,a 0,ns,a 1,a 3,a 3,a 0,a 4]++rp 4 [a 0]++[d 21 0 1 1,a 0,a 0,a 0,ns,a 4,a 7,a 7,a 0,a 5]++rp 4 [a 0]++[ns,a 0,a 0,a 0,ns,a 9,a 12,a 12,a 1,a 1]++rp 4 [a 0]++[ns,a 0,a 1,a 0,ns,a 14,a 17,a 17,a 1,a 4]++rp 4 [a 0]++[d 22 0 1 1,a 0,a 0,a 0,ns,a 19,a 22,a 22,a 1,a 5]++rp 4 [a 0]++[ns,a 0,a 0,a 0,ns,a 24,a 27,a 27,a 2,a 1]++rp 4 [a 0]++[ns,a 0,a 2,a 0,ns,a 29,a 32,a 32,a 2,a 4]++rp 4 [a 0]++[d 23 0 1 1,a 0,a 0,a 0,ns,a 34,a 37,a 37,a 2,a 5]++rp 4 [a 0]++[ns,a 0,a 0,a 0,ns,a 39,a 42,a 42,a 0,a 2,a 1,a 0,a 0,a 0,ns,a 0,a 1,a 0,ns,a 44,tv t0,tv t0,a 1,a 2,a 1,a 0,a 0,a 0,ns,a 0,a 1,a 0,ns,a 45,tv t1,tv t1,a 2,a 2,a 1,a 0,a 0,a 0,ns,a 0,a 1,a 0,ns,a 46,tv t2,tv t2,a 0,a 3,a 0,a 0,a 0,a 1,ns,a 0,a 0,a 0,d 20 0 1 1,a 53,a 56,a 56,a 1,a 3,a 0,a 0,a 0,a 1,ns,a 0,a 0,a 0,d 80 0 1 1,a 58,a 61,a 61])
def ztz:Blk:=ck 8 [.c (a 0),.c (a 0),.c (a 0),.c (a 0),.c (a 0),.c (a 0),.c (a 0)]
def zyg (t0 t1 t2:Int):List Blk:=pz 0 n0 [(0,ztv),(1,ztw),(2,ztx),(3,g9),(10,zty),(11,g188 t0 t1 t2),(14,g11),(15,zh0),(19,g42),(20,zei),(34,g20),(35,g20),(36,g20),(60,zgc),(64,ztz),(65,g13),(79,g14),(80,zei)]
end Q
theorem zaiz (t0 t1 t2:Int):DP 1 (zyf t0 t1 t2) (zyg t0 t1 t2):=⟨(ts 81 [(2,418),(11,87),(80,359)]),423,by kernel_rfl,by kernel_rfl,by kernel_rfl⟩
namespace Q
def zt0:Blk:=cs ([p 1 0,a 8,a 6,a 3,a 3,d 2 0 65 1,a 6,a 6])
def zt1:Blk:=cs ([a 8,a 6,a 3,a 3,p 3 0,p 4 0,p 5 0,a 1,d 6 0 16 1,m 0,a 0,a 0,s 7 0 8 8,d 8 0 3 1,d 9 0 6 3,s 10 0 6 6,d 11 0 15 14,ch 12,a 64,a 6,f,f,f])
def zt2:Blk:=cs (rp 65 [f])
def zt3:Blk:=cs ([a 12,a 1,a 1,a 0,a 0,a 0,m 0,ns,ns,ns,a 0,a 0,a 13,a 1,a 1,a 0,a 0,a 0,m 0,ns,ns,ns,a 0,a 0,a 14,a 1,a 1,a 0,a 0,a 0,m 0,ns,ns,ns]++rp 4 [a 0]++[a 2,a 1,a 0,a 0,m 0,ns,ns,ns,a 1]++rp 2 [a 0,a 0,a 0,a 0,a 0,a 0,a 0,m 0,ns,ns,ns,a 0]++[a 0])
def g194 (t0 t1 t2:Int):Blk:=cs ([a 0,a 1]++rp 4 [a 0]++[ns,a 0,a 0,a 0,ns,a 1,a 3,a 3,a 0,a 4]++rp 4 [a 0]++[d 21 0 1 1,a 0,a 0,a 0,ns,a 4,a 7,a 7,a 0,a 5]++rp 4 [a 0]++[ns,a 0,a 0,a 0,ns,a 9,a 12,a 12,a 1,a 1]++rp 4 [a 0]++[ns,a 0,a 1,a 0,ns,a 14,a 17,a 17,a 1,a 4]++rp 4 [a 0]++[d 22 0 1 1,a 0,a 0,a 0,ns,a 19,a 22,a 22,a 1,a 5]++rp 4 [a 0]++[ns,a 0,a 0,a 0,ns,a 24,a 27,a 27,a 2,a 1]++rp 4 [a 0]++[ns,a 0,a 2,a 0,ns,a 29,a 32,a 32,a 2,a 4]++rp 4 [a 0]++[d 23 0 1 1,a 0,a 0,a 0,ns,a 34,a 37,a 37,a 2,a 5]++rp 4 [a 0]++[ns,a 0,a 0,a 0,ns,a 39,a 42,a 42,a 0,a 2,a 1,a 0,a 0,a 0,ns,a 0,a 1,a 0,ns,a 44,tv t0,tv t0,a 1,a 2,a 1,a 0,a 0,a 0,ns,a 0,a 1,a 0,ns,a 45,tv t1,tv t1,a 2,a 2,a 1,a 0,a 0,a 0,ns,a 0,a 1,a 0,ns,a 46,tv t2,tv t2,a 0,a 3,a 0,a 0,a 0,a 1,ns,a 0,a 0,a 0,d 20 0 1 1,a 53,a 56,a 56,a 1,a 3,a 0,a 0,a 0,a 1,ns,a 0,a 0,a 0,d 80 0 1 1,a 58,a 61,a 61,a 2,a 3,a 0,a 0,a 0,a 1,ns,a 0,a 0,a 0,d 81 0 1 1,a 62,a 64,a 64])
def zt4:Blk:=ck 8 []
def zyh (t0 t1 t2:Int):List Blk:=pz 0 n0 [(0,zt0),(1,zt1),(2,zt2),(3,g9),(10,zt3),(11,g194 t0 t1 t2),(14,g11),(15,zh0),(19,g42),(20,zei),(34,g20),(35,g20),(36,g20),(60,zgc),(64,zt4),(65,g13),(79,g14),(80,zei),(81,zei)]
end Q
theorem zai0 (t0 t1 t2:Int):DP 2 (zyg t0 t1 t2) (zyh t0 t1 t2):=⟨(ts 82 [(2,364),(11,88),(81,305)]),369,by kernel_rfl,by kernel_rfl,by kernel_rfl⟩
namespace Q
def zxz:Blk:=cs ([p 1 0,a 8,a 6,a 3,a 3,d 2 0 59 1,a 6,a 6])
def zx0:Blk:=cs ([a 8,a 6,a 3,a 3,p 3 0,p 4 0,p 5 0,a 1,d 6 0 16 1,m 0,a 0,a 0,s 7 0 8 8,d 8 0 3 1,d 9 0 6 3,s 10 0 6 6,d 11 0 13 14,ch 12,a 58,a 6,f,f,f])
def zx1:Blk:=cs (rp 59 [f])
def g199 (t0 t1 t2:Int):Blk:=cs ([a 0,a 1]++rp 4 [a 0]++[ns,a 0,a 0,a 0,ns,a 1,a 3,a 3,a 0,a 4]++rp 4 [a 0]++[d 21 0 1 1,a 0,a 0,a 0,ns,a 4,a 7,a 7,a 0,a 5]++rp 4 [a 0]++[ns,a 0,a 0,a 0,ns,a 9,a 12,a 12,a 1,a 1]++rp 4 [a 0]++[ns,a 0,a 1,a 0,ns,a 14,a 17,a 17,a 1,a 4]++rp 4 [a 0]++[d 22 0 1 1,a 0,a 0,a 0,ns,a 19,a 22,a 22,a 1,a 5]++rp 4 [a 0]++[ns,a 0,a 0,a 0,ns,a 24,a 27,a 27,a 2,a 1]++rp 4 [a 0]++[ns,a 0,a 2,a 0,ns,a 29,a 32,a 32,a 2,a 4]++rp 4 [a 0]++[d 23 0 1 1,a 0,a 0,a 0,ns,a 34,a 37,a 37,a 2,a 5]++rp 4 [a 0]++[ns,a 0,a 0,a 0,ns,a 39,a 42,a 42,a 0,a 2,a 1,a 0,a 0,a 0,ns,a 0,a 1,a 0,ns,a 44,tv t0,tv t0,a 1,a 2,a 1,a 0,a 0,a 0,ns,a 0,a 1,a 0,ns,a 45,tv t1,tv t1,a 2,a 2,a 1,a 0,a 0,a 0,ns,a 0,a 1,a 0,ns,a 46,tv t2,tv t2,a 0,a 3,a 0,a 0,a 0,a 1,ns,a 0,a 0,a 0,d 20 0 1 1,a 54,a 57,a 57])
def zyi (t0 t1 t2:Int):List Blk:=pz 0 n0 [(0,zxz),(1,zx0),(2,zx1),(3,g9),(10,ztt),(11,g199 t0 t1 t2),(14,g11),(15,zh0),(19,g42),(20,zei),(34,g20),(35,g20),(36,g20),(60,zgc),(64,ztu),(65,g13),(79,g14)]
end Q
theorem zai1 (t0 t1 t2:Int):DP 0 (H 93 t0 t1 t2) (zyi t0 t1 t2):=⟨(ts 80 [(2,509),(11,87),(20,381)]),514,by kernel_rfl,by kernel_rfl,by kernel_rfl⟩
namespace Q
def g200 (t0 t1 t2:Int):Blk:=cs ([a 0,a 1]++rp 4 [a 0]++[ns,a 0,a 0,a 0,ns,a 1,a 3,a 3,a 0,a 4]++rp 4 [a 0]++[d 21 0 1 1,a 0,a 0,a 0,ns,a 4,a 7,a 7,a 0,a 5]++rp 4 [a 0]++[ns,a 0,a 0,a 0,ns,a 9,a 12,a 12,a 1,a 1]++rp 4 [a 0]++[ns,a 0,a 1,a 0,ns,a 14,a 17,a 17,a 1,a 4]++rp 4 [a 0]++[d 22 0 1 1,a 0,a 0,a 0,ns,a 19,a 22,a 22,a 1,a 5]++rp 4 [a 0]++[ns,a 0,a 0,a 0,ns,a 24,a 27,a 27,a 2,a 1]++rp 4 [a 0]++[ns,a 0,a 2,a 0,ns,a 29,a 32,a 32,a 2,a 4]++rp 4 [a 0]++[d 23 0 1 1,a 0,a 0,a 0,ns,a 34,a 37,a 37,a 2,a 5]++rp 4 [a 0]++[ns,a 0,a 0,a 0,ns,a 39,a 42,a 42,a 0,a 2,a 1,a 0,a 0,a 0,ns,a 0,a 1,a 0,ns,a 44,tv t0,tv t0,a 1,a 2,a 1,a 0,a 0,a 0,ns,a 0,a 1,a 0,ns,a 45,tv t1,tv t1,a 2,a 2,a 1,a 0,a 0,a 0,ns,a 0,a 1,a 0,ns,a 46,tv t2,tv t2,a 0,a 3,a 0,a 0,a 0,a 1,ns,a 0,a 0,a 0,d 20 0 1 1,a 54,a 57,a 57,a 1,a 3,a 0,a 0,a 0,a 1,ns,a 0,a 0,a 0,d 80 0 1 1,a 59,a 61,a 61])
def zyj (t0 t1 t2:Int):List Blk:=pz 0 n0 [(0,ztv),(1,ztw),(2,ztx),(3,g9),(10,zty),(11,g200 t0 t1 t2),(14,g11),(15,zh0),(19,g42),(20,zei),(34,g20),(35,g20),(36,g20),(60,zgc),(64,ztz),(65,g13),(79,g14),(80,zei)]
end Q
theorem zai2 (t0 t1 t2:Int):DP 1 (zyi t0 t1 t2) (zyj t0 t1 t2):=⟨(ts 81 [(2,339),(11,87),(80,280)]),344,by kernel_rfl,by kernel_rfl,by kernel_rfl⟩
namespace Q
def g201 (t0 t1 t2:Int):Blk:=cs ([a 0,a 1]++rp 4 [a 0]++[ns,a 0,a 0,a 0,ns,a 1,a 3,a 3,a 0,a 4]++rp 4 [a 0]++[d 21 0 1 1,a 0,a 0,a 0,ns,a 4,a 7,a 7,a 0,a 5]++rp 4 [a 0]++[ns,a 0,a 0,a 0,ns,a 9,a 12,a 12,a 1,a 1]++rp 4 [a 0]++[ns,a 0,a 1,a 0,ns,a 14,a 17,a 17,a 1,a 4]++rp 4 [a 0]++[d 22 0 1 1,a 0,a 0,a 0,ns,a 19,a 22,a 22,a 1,a 5]++rp 4 [a 0]++[ns,a 0,a 0,a 0,ns,a 24,a 27,a 27,a 2,a 1]++rp 4 [a 0]++[ns,a 0,a 2,a 0,ns,a 29,a 32,a 32,a 2,a 4]++rp 4 [a 0]++[d 23 0 1 1,a 0,a 0,a 0,ns,a 34,a 37,a 37,a 2,a 5]++rp 4 [a 0]++[ns,a 0,a 0,a 0,ns,a 39,a 42,a 42,a 0,a 2,a 1,a 0,a 0,a 0,ns,a 0,a 1,a 0,ns,a 44,tv t0,tv t0,a 1,a 2,a 1,a 0,a 0,a 0,ns,a 0,a 1,a 0,ns,a 45,tv t1,tv t1,a 2,a 2,a 1,a 0,a 0,a 0,ns,a 0,a 1,a 0,ns,a 46,tv t2,tv t2,a 0,a 3,a 0,a 0,a 0,a 1,ns,a 0,a 0,a 0,d 20 0 1 1,a 54,a 57,a 57,a 1,a 3,a 0,a 0,a 0,a 1,ns,a 0,a 0,a 0,d 80 0 1 1,a 59,a 61,a 61,a 2,a 3,a 0,a 0,a 0,a 1,ns,a 0,a 0,a 0,d 81 0 1 1,a 62,a 64,a 64])
def zyk (t0 t1 t2:Int):List Blk:=pz 0 n0 [(0,zt0),(1,zt1),(2,zt2),(3,g9),(10,zt3),(11,g201 t0 t1 t2),(14,g11),(15,zh0),(19,g42),(20,zei),(34,g20),(35,g20),(36,g20),(60,zgc),(64,zt4),(65,g13),(79,g14),(80,zei),(81,zei)]
end Q
theorem zai3 (t0 t1 t2:Int):DP 2 (zyj t0 t1 t2) (zyk t0 t1 t2):=⟨(ts 82 [(2,364),(11,88),(81,305)]),369,by kernel_rfl,by kernel_rfl,by kernel_rfl⟩
namespace Q
def g202 (t0 t1 t2:Int):Blk:=cs ([a 0,a 1]++rp 4 [a 0]++[ns,a 0,a 0,a 0,ns,a 1,a 3,a 3,a 0,a 4]++rp 4 [a 0]++[d 21 0 1 1,a 0,a 0,a 0,ns,a 4,a 7,a 7,a 0,a 5]++rp 4 [a 0]++[ns,a 0,a 0,a 0,ns,a 9,a 12,a 12,a 1,a 1]++rp 4 [a 0]++[ns,a 0,a 1,a 0,ns,a 14,a 17,a 17,a 1,a 4]++rp 4 [a 0]++[d 22 0 1 1,a 0,a 0,a 0,ns,a 19,a 22,a 22,a 1,a 5]++rp 4 [a 0]++[ns,a 0,a 0,a 0,ns,a 24,a 27,a 27,a 2,a 1]++rp 4 [a 0]++[ns,a 0,a 2,a 0,ns,a 29,a 32,a 32,a 2,a 4]++rp 4 [a 0]++[d 23 0 1 1,a 0,a 0,a 0,ns,a 34,a 37,a 37,a 2,a 5]++rp 4 [a 0]++[ns,a 0,a 0,a 0,ns,a 39,a 42,a 42,a 0,a 2,a 1,a 0,a 0,a 0,ns,a 0,a 1,a 0,ns,a 44,tv t0,tv t0,a 1,a 2,a 1,a 0,a 0,a 0,ns,a 0,a 1,a 0,ns,a 45,tv t1,tv t1,a 2,a 2,a 1,a 0,a 0,a 0,ns,a 0,a 1,a 0,ns,a 46,tv t2,tv t2,a 0,a 3,a 0,a 0,a 0,a 1,ns,a 0,a 0,a 0,d 79 0 1 1,a 55,a 58,a 58])
def zvn (t0 t1 t2:Int):List Blk:=pz 0 n0 [(0,zxz),(1,zx0),(2,zx1),(3,g9),(10,ztt),(11,g202 t0 t1 t2),(14,g40),(15,zh0),(19,g42),(20,g14),(34,g20),(35,g20),(36,g20),(60,zgc),(64,ztu),(65,g13),(79,zei)]
end Q
theorem zaa8 (t0 t1 t2:Int):DP 0 (H 103 t0 t1 t2) (zvn t0 t1 t2):=⟨(ts 80 [(2,417),(11,86),(79,358)]),422,by kernel_rfl,by kernel_rfl,by kernel_rfl⟩
namespace Q
def g203 (t0 t1 t2:Int):Blk:=cs ([a 0,a 1]++rp 4 [a 0]++[ns,a 0,a 0,a 0,ns,a 1,a 3,a 3,a 0,a 4]++rp 4 [a 0]++[d 21 0 1 1,a 0,a 0,a 0,ns,a 4,a 7,a 7,a 0,a 5]++rp 4 [a 0]++[ns,a 0,a 0,a 0,ns,a 9,a 12,a 12,a 1,a 1]++rp 4 [a 0]++[ns,a 0,a 1,a 0,ns,a 14,a 17,a 17,a 1,a 4]++rp 4 [a 0]++[d 22 0 1 1,a 0,a 0,a 0,ns,a 19,a 22,a 22,a 1,a 5]++rp 4 [a 0]++[ns,a 0,a 0,a 0,ns,a 24,a 27,a 27,a 2,a 1]++rp 4 [a 0]++[ns,a 0,a 2,a 0,ns,a 29,a 32,a 32,a 2,a 4]++rp 4 [a 0]++[d 23 0 1 1,a 0,a 0,a 0,ns,a 34,a 37,a 37,a 2,a 5]++rp 4 [a 0]++[ns,a 0,a 0,a 0,ns,a 39,a 42,a 42,a 0,a 2,a 1,a 0,a 0,a 0,ns,a 0,a 1,a 0,ns,a 44,tv t0,tv t0,a 1,a 2,a 1,a 0,a 0,a 0,ns,a 0,a 1,a 0,ns,a 45,tv t1,tv t1,a 2,a 2,a 1,a 0,a 0,a 0,ns,a 0,a 1,a 0,ns,a 46,tv t2,tv t2,a 0,a 3,a 0,a 0,a 0,a 1,ns,a 0,a 0,a 0,d 79 0 1 1,a 55,a 58,a 58,a 1,a 3,a 0,a 0,a 0,a 1,ns,a 0,a 0,a 0,d 80 0 1 1,a 59,a 61,a 61])
def zvo (t0 t1 t2:Int):List Blk:=pz 0 n0 [(0,ztv),(1,ztw),(2,ztx),(3,g9),(10,zty),(11,g203 t0 t1 t2),(14,g40),(15,zh0),(19,g42),(20,g14),(34,g20),(35,g20),(36,g20),(60,zgc),(64,ztz),(65,g13),(79,zei),(80,zei)]
end Q
theorem zaa9 (t0 t1 t2:Int):DP 1 (zvn t0 t1 t2) (zvo t0 t1 t2):=⟨(ts 81 [(2,339),(11,87),(80,280)]),344,by kernel_rfl,by kernel_rfl,by kernel_rfl⟩
namespace Q
def g204 (t0 t1 t2:Int):Blk:=cs ([a 0,a 1]++rp 4 [a 0]++[ns,a 0,a 0,a 0,ns,a 1,a 3,a 3,a 0,a 4]++rp 4 [a 0]++[d 21 0 1 1,a 0,a 0,a 0,ns,a 4,a 7,a 7,a 0,a 5]++rp 4 [a 0]++[ns,a 0,a 0,a 0,ns,a 9,a 12,a 12,a 1,a 1]++rp 4 [a 0]++[ns,a 0,a 1,a 0,ns,a 14,a 17,a 17,a 1,a 4]++rp 4 [a 0]++[d 22 0 1 1,a 0,a 0,a 0,ns,a 19,a 22,a 22,a 1,a 5]++rp 4 [a 0]++[ns,a 0,a 0,a 0,ns,a 24,a 27,a 27,a 2,a 1]++rp 4 [a 0]++[ns,a 0,a 2,a 0,ns,a 29,a 32,a 32,a 2,a 4]++rp 4 [a 0]++[d 23 0 1 1,a 0,a 0,a 0,ns,a 34,a 37,a 37,a 2,a 5]++rp 4 [a 0]++[ns,a 0,a 0,a 0,ns,a 39,a 42,a 42,a 0,a 2,a 1,a 0,a 0,a 0,ns,a 0,a 1,a 0,ns,a 44,tv t0,tv t0,a 1,a 2,a 1,a 0,a 0,a 0,ns,a 0,a 1,a 0,ns,a 45,tv t1,tv t1,a 2,a 2,a 1,a 0,a 0,a 0,ns,a 0,a 1,a 0,ns,a 46,tv t2,tv t2,a 0,a 3,a 0,a 0,a 0,a 1,ns,a 0,a 0,a 0,d 79 0 1 1,a 55,a 58,a 58,a 1,a 3,a 0,a 0,a 0,a 1,ns,a 0,a 0,a 0,d 80 0 1 1,a 59,a 61,a 61,a 2,a 3,a 0,a 0,a 0,a 1,ns,a 0,a 0,a 0,d 81 0 1 1,a 62,a 64,a 64])
def zvp (t0 t1 t2:Int):List Blk:=pz 0 n0 [(0,zt0),(1,zt1),(2,zt2),(3,g9),(10,zt3),(11,g204 t0 t1 t2),(14,g40),(15,zh0),(19,g42),(20,g14),(34,g20),(35,g20),(36,g20),(60,zgc),(64,zt4),(65,g13),(79,zei),(80,zei),(81,zei)]
end Q
theorem zaba (t0 t1 t2:Int):DP 2 (zvo t0 t1 t2) (zvp t0 t1 t2):=⟨(ts 82 [(2,364),(11,88),(81,305)]),369,by kernel_rfl,by kernel_rfl,by kernel_rfl⟩
namespace Q
def g205 (t0 t1 t2:Int):Blk:=cs ([a 0,a 1]++rp 4 [a 0]++[ns,a 0,a 0,a 0,ns,a 1,a 3,a 3,a 0,a 4]++rp 4 [a 0]++[d 21 0 1 1,a 0,a 0,a 0,ns,a 4,a 7,a 7,a 0,a 5]++rp 4 [a 0]++[ns,a 0,a 0,a 0,ns,a 9,a 12,a 12,a 1,a 1]++rp 4 [a 0]++[ns,a 0,a 1,a 0,ns,a 14,a 17,a 17,a 1,a 4]++rp 4 [a 0]++[d 22 0 1 1,a 0,a 0,a 0,ns,a 19,a 22,a 22,a 1,a 5]++rp 4 [a 0]++[ns,a 0,a 0,a 0,ns,a 24,a 27,a 27,a 2,a 1]++rp 4 [a 0]++[ns,a 0,a 2,a 0,ns,a 29,a 32,a 32,a 2,a 4]++rp 4 [a 0]++[d 23 0 1 1,a 0,a 0,a 0,ns,a 34,a 37,a 37,a 2,a 5]++rp 4 [a 0]++[ns,a 0,a 0,a 0,ns,a 39,a 42,a 42,a 0,a 2,a 1,a 0,a 0,a 0,ns,a 0,a 1,a 0,ns,a 44,tv t0,tv t0,a 1,a 2,a 1,a 0,a 0,a 0,ns,a 0,a 1,a 0,ns,a 45,tv t1,tv t1,a 2,a 2,a 1,a 0,a 0,a 0,ns,a 0,a 1,a 0,ns,a 46,tv t2,tv t2,a 0,a 3,a 0,a 0,a 0,a 1,ns,a 0,a 0,a 0,d 79 0 1 1,a 56,a 58,a 58])
def zvq (t0 t1 t2:Int):List Blk:=pz 0 n0 [(0,zxz),(1,zx0),(2,zx1),(3,g9),(10,ztt),(11,g205 t0 t1 t2),(14,g40),(15,zh0),(19,g42),(20,g14),(34,g20),(35,g20),(36,g20),(60,zgc),(64,ztu),(65,g13),(79,zei)]
end Q
theorem zabb (t0 t1 t2:Int):DP 0 (H 107 t0 t1 t2) (zvq t0 t1 t2):=⟨(ts 80 [(2,338),(11,86),(79,279)]),343,by kernel_rfl,by kernel_rfl,by kernel_rfl⟩
namespace Q
def g206 (t0 t1 t2:Int):Blk:=cs ([a 0,a 1]++rp 4 [a 0]++[ns,a 0,a 0,a 0,ns,a 1,a 3,a 3,a 0,a 4]++rp 4 [a 0]++[d 21 0 1 1,a 0,a 0,a 0,ns,a 4,a 7,a 7,a 0,a 5]++rp 4 [a 0]++[ns,a 0,a 0,a 0,ns,a 9,a 12,a 12,a 1,a 1]++rp 4 [a 0]++[ns,a 0,a 1,a 0,ns,a 14,a 17,a 17,a 1,a 4]++rp 4 [a 0]++[d 22 0 1 1,a 0,a 0,a 0,ns,a 19,a 22,a 22,a 1,a 5]++rp 4 [a 0]++[ns,a 0,a 0,a 0,ns,a 24,a 27,a 27,a 2,a 1]++rp 4 [a 0]++[ns,a 0,a 2,a 0,ns,a 29,a 32,a 32,a 2,a 4]++rp 4 [a 0]++[d 23 0 1 1,a 0,a 0,a 0,ns,a 34,a 37,a 37,a 2,a 5]++rp 4 [a 0]++[ns,a 0,a 0,a 0,ns,a 39,a 42,a 42,a 0,a 2,a 1,a 0,a 0,a 0,ns,a 0,a 1,a 0,ns,a 44,tv t0,tv t0,a 1,a 2,a 1,a 0,a 0,a 0,ns,a 0,a 1,a 0,ns,a 45,tv t1,tv t1,a 2,a 2,a 1,a 0,a 0,a 0,ns,a 0,a 1,a 0,ns,a 46,tv t2,tv t2,a 0,a 3,a 0,a 0,a 0,a 1,ns,a 0,a 0,a 0,d 79 0 1 1,a 56,a 58,a 58,a 1,a 3,a 0,a 0,a 0,a 1,ns,a 0,a 0,a 0,d 80 0 1 1,a 59,a 61,a 61])
def zvr (t0 t1 t2:Int):List Blk:=pz 0 n0 [(0,ztv),(1,ztw),(2,ztx),(3,g9),(10,zty),(11,g206 t0 t1 t2),(14,g40),(15,zh0),(19,g42),(20,g14),(34,g20),(35,g20),(36,g20),(60,zgc),(64,ztz),(65,g13),(79,zei),(80,zei)]
end Q
theorem zabc (t0 t1 t2:Int):DP 1 (zvq t0 t1 t2) (zvr t0 t1 t2):=⟨(ts 81 [(2,339),(11,87),(80,280)]),344,by kernel_rfl,by kernel_rfl,by kernel_rfl⟩
namespace Q
def g207 (t0 t1 t2:Int):Blk:=cs ([a 0,a 1]++rp 4 [a 0]++[ns,a 0,a 0,a 0,ns,a 1,a 3,a 3,a 0,a 4]++rp 4 [a 0]++[d 21 0 1 1,a 0,a 0,a 0,ns,a 4,a 7,a 7,a 0,a 5]++rp 4 [a 0]++[ns,a 0,a 0,a 0,ns,a 9,a 12,a 12,a 1,a 1]++rp 4 [a 0]++[ns,a 0,a 1,a 0,ns,a 14,a 17,a 17,a 1,a 4]++rp 4 [a 0]++[d 22 0 1 1,a 0,a 0,a 0,ns,a 19,a 22,a 22,a 1,a 5]++rp 4 [a 0]++[ns,a 0,a 0,a 0,ns,a 24,a 27,a 27,a 2,a 1]++rp 4 [a 0]++[ns,a 0,a 2,a 0,ns,a 29,a 32,a 32,a 2,a 4]++rp 4 [a 0]++[d 23 0 1 1,a 0,a 0,a 0,ns,a 34,a 37,a 37,a 2,a 5]++rp 4 [a 0]++[ns,a 0,a 0,a 0,ns,a 39,a 42,a 42,a 0,a 2,a 1,a 0,a 0,a 0,ns,a 0,a 1,a 0,ns,a 44,tv t0,tv t0,a 1,a 2,a 1,a 0,a 0,a 0,ns,a 0,a 1,a 0,ns,a 45,tv t1,tv t1,a 2,a 2,a 1,a 0,a 0,a 0,ns,a 0,a 1,a 0,ns,a 46,tv t2,tv t2,a 0,a 3,a 0,a 0,a 0,a 1,ns,a 0,a 0,a 0,d 79 0 1 1,a 56,a 58,a 58,a 1,a 3,a 0,a 0,a 0,a 1,ns,a 0,a 0,a 0,d 80 0 1 1,a 59,a 61,a 61,a 2,a 3,a 0,a 0,a 0,a 1,ns,a 0,a 0,a 0,d 81 0 1 1,a 62,a 64,a 64])
def zvs (t0 t1 t2:Int):List Blk:=pz 0 n0 [(0,zt0),(1,zt1),(2,zt2),(3,g9),(10,zt3),(11,g207 t0 t1 t2),(14,g40),(15,zh0),(19,g42),(20,g14),(34,g20),(35,g20),(36,g20),(60,zgc),(64,zt4),(65,g13),(79,zei),(80,zei),(81,zei)]
end Q
theorem zabd (t0 t1 t2:Int):DP 2 (zvr t0 t1 t2) (zvs t0 t1 t2):=⟨(ts 82 [(2,364),(11,88),(81,305)]),369,by kernel_rfl,by kernel_rfl,by kernel_rfl⟩
theorem v76 (t0 t1 t2:Int):Shows (zyh t0 t1 t2) (wd [(1,85),(4,87),(7,89)] [(12,91),(13,93),(14,95)] 0 (M.finL t0 t1 t2 53 56 58 61 62 64)) [⟨1,0,0,0,false⟩,⟨0,(-1),0,0,false⟩,⟨1,1,3,1,false⟩,⟨0,(-1),0,1,false⟩,⟨1,2,0,2,false⟩,⟨0,(-1),0,2,false⟩] false 64:=⟨⟨.dy 1,by kernel_rfl⟩,⟨83,.dy 14,[(85,bv [97]),(87,bv [98]),(89,bv [99]),(91,bv [98]),(93,bv [98]),(95,bv [98])],⟨96,by kernel_rfl,by kernel_rfl⟩,by kernel_rfl⟩,⟨113,.dy 1,[83,87,91,95,99,103,107,111],rfl,⟨114,by kernel_rfl,by kernel_rfl⟩⟩,⟨129,.dy 5,⟨130,by kernel_rfl,by kernel_rfl⟩⟩,⟨88,by kernel_rfl,by kernel_rfl⟩,⟨82,by kernel_rfl,by kernel_rfl⟩,⟨82,by kernel_rfl,by kernel_rfl⟩,⟨82,by kernel_rfl,by kernel_rfl⟩⟩
theorem v93 (t0 t1 t2:Int):Shows (zyk t0 t1 t2) (wd [(1,85),(4,87),(7,89)] [(12,91),(13,93),(14,95)] 0 (M.finL t0 t1 t2 54 57 59 61 62 64)) [⟨1,0,0,0,false⟩,⟨0,(-1),0,0,false⟩,⟨1,1,3,1,false⟩,⟨0,(-1),0,1,false⟩,⟨1,2,0,2,false⟩,⟨0,(-1),0,2,false⟩] false 64:=⟨⟨.dy 1,by kernel_rfl⟩,⟨83,.dy 14,[(85,bv [97]),(87,bv [98]),(89,bv [99]),(91,bv [98]),(93,bv [98]),(95,bv [98])],⟨96,by kernel_rfl,by kernel_rfl⟩,by kernel_rfl⟩,⟨113,.dy 1,[83,87,91,95,99,103,107,111],rfl,⟨114,by kernel_rfl,by kernel_rfl⟩⟩,⟨129,.dy 5,⟨130,by kernel_rfl,by kernel_rfl⟩⟩,⟨88,by kernel_rfl,by kernel_rfl⟩,⟨82,by kernel_rfl,by kernel_rfl⟩,⟨82,by kernel_rfl,by kernel_rfl⟩,⟨82,by kernel_rfl,by kernel_rfl⟩⟩
theorem v103 (t0 t1 t2:Int):Shows (zvp t0 t1 t2) (wd [(1,85),(4,87),(7,89)] [(12,91),(13,93),(14,95)] 0 (M.finL t0 t1 t2 55 58 59 61 62 64)) [⟨1,0,0,0,false⟩,⟨0,(-1),0,0,false⟩,⟨1,1,3,1,false⟩,⟨0,(-1),0,1,false⟩,⟨1,2,0,2,false⟩,⟨0,(-1),0,2,false⟩] false 64:=⟨⟨.dy 1,by kernel_rfl⟩,⟨83,.dy 14,[(85,bv [97]),(87,bv [98]),(89,bv [99]),(91,bv [98]),(93,bv [98]),(95,bv [98])],⟨96,by kernel_rfl,by kernel_rfl⟩,by kernel_rfl⟩,⟨113,.dy 1,[83,87,91,95,99,103,107,111],rfl,⟨114,by kernel_rfl,by kernel_rfl⟩⟩,⟨129,.dy 5,⟨130,by kernel_rfl,by kernel_rfl⟩⟩,⟨88,by kernel_rfl,by kernel_rfl⟩,⟨82,by kernel_rfl,by kernel_rfl⟩,⟨82,by kernel_rfl,by kernel_rfl⟩,⟨82,by kernel_rfl,by kernel_rfl⟩⟩
theorem v107 (t0 t1 t2:Int):Shows (zvs t0 t1 t2) (wd [(1,85),(4,87),(7,89)] [(12,91),(13,93),(14,95)] 0 (M.finL t0 t1 t2 56 58 59 61 62 64)) [⟨1,0,0,0,false⟩,⟨0,(-1),0,0,false⟩,⟨1,1,3,1,false⟩,⟨0,(-1),0,1,false⟩,⟨1,2,0,2,false⟩,⟨0,(-1),0,2,false⟩] false 64:=⟨⟨.dy 1,by kernel_rfl⟩,⟨83,.dy 14,[(85,bv [97]),(87,bv [98]),(89,bv [99]),(91,bv [98]),(93,bv [98]),(95,bv [98])],⟨96,by kernel_rfl,by kernel_rfl⟩,by kernel_rfl⟩,⟨113,.dy 1,[83,87,91,95,99,103,107,111],rfl,⟨114,by kernel_rfl,by kernel_rfl⟩⟩,⟨129,.dy 5,⟨130,by kernel_rfl,by kernel_rfl⟩⟩,⟨88,by kernel_rfl,by kernel_rfl⟩,⟨82,by kernel_rfl,by kernel_rfl⟩,⟨82,by kernel_rfl,by kernel_rfl⟩,⟨82,by kernel_rfl,by kernel_rfl⟩⟩
end Lav
set_option maxRecDepth 100000
set_option linter.unusedVariables false
namespace Lav.M
open Go (IntKind)
open Lav.Q
theorem zqw {h:Heap} {b i j:Nat} {l:List CV} (r:h.read b (i * 14) 14=some l) {v:CV} (hv:l[j]? = some v) (hj:j < 14):h.read b (i * 14 + j) 1=some [v]:=by
 unfold Heap.read at r ⊢
 cases hg:h.get b with
 | none=>rw [hg] at r;cases r
 | some x =>
  rw [hg] at r
  have key:∀ m:List CV,cut m (i * 14) 14=some l→cut m (i * 14 + j) 1=some [v]:=by
   intro m hm
   unfold cut at hm ⊢
   cases hb:Nat.ble (i * 14 + 14) m.length with
   | false=>rw [hb] at hm;cases hm
   | true =>
    rw [hb] at hm
    have hl:=Nat.le_of_ble_eq_true hb
    simp only [cond_true,Option.some.injEq] at hm
    rw [show Nat.ble (i * 14 + j + 1) m.length=true from Nat.ble_eq_true_of_le (by omega)]
    simp only [cond_true,Option.some.injEq]
    subst hm
    rw [List.getElem?_take,if_pos hj,List.getElem?_drop] at hv
    have hlt:i * 14 + j < m.length:=by omega
    rw [List.getElem?_eq_getElem hlt] at hv
    rw [List.drop_eq_getElem_cons hlt,List.take_succ_cons,List.take_zero,Option.some.inj hv]
  cases x with
  | cells m=>exact key m r
  | ro m=>exact key m r
  | chan c m=>cases r
  | map c m=>cases r
theorem zvt {h H:Heap} {x:CV} {bs:List (BitVec 8)} (B:Bytes h x bs) (e:Ext h H) {n:Nat} (hn:bs.length=n + 1):∀ loc vals,zao loc (.c x :: vals) H (.b2s (.val 0))=some (.c (.str (strOf bs))):=by
 intro loc vals
 have s:=(B.ext e).source
 rcases B with ⟨_,hz⟩ | ⟨i,o,c,rfl,hi,hr⟩
 ·rw [hz] at hn;simp at hn
 ·refine zno rfl ?_
  cases hrd:H.read i o (bs.length * 1) with
  | none =>
   simp only [source,hrd] at s
   rw [hn] at s
   cases s
  | some l =>
   simp only [source,hrd,Option.some.injEq,Prod.mk.injEq,true_and] at s
   rw [Nat.mul_one] at hrd
   rw [hrd,s]
theorem znx {L:List AV} (h:L.length=17):∃ a b c d e f g i j k l m n o p q r,L=[a,b,c,d,e,f,g,i,j,k,l,m,n,o,p,q,r]:=by
 match L,h with
 | [a,b,c,d,e,f,g,i,j,k,l,m,n,o,p,q,r],_=>exact ⟨a,b,c,d,e,f,g,i,j,k,l,m,n,o,p,q,r,rfl⟩
theorem zo7 (t0 t1 t2 g0 s0 g1 s1 g2 s2:Int):((List.range 15).all fun i=>(zbh (finL t0 t1 t2 g0 s0 g1 s1 g2 s2) i).rs.code == 0)=true:=by kernel_rfl
theorem zvu (t0 t1 t2 g0 s0 g1 s1 g2 s2:Int):((List.range 3).all fun i=>(zbh (finL t0 t1 t2 g0 s0 g1 s1 g2 s2) (12 + i)).rs.rd == [98#8])=true:=by kernel_rfl
section
variable {h:Heap}
theorem zrh {H:Heap} {p b:Nat} {c:Cap} {t0 t1 t2 g0 s0 g1 s1 g2 s2:Int}
  (E:∀ i e,(finL t0 t1 t2 g0 s0 g1 s1 g2 s2)[i]? = some e→∃ dc rc,H.read b (i * 14) 14=some (evC e dc rc)∧Bytes H dc e.op.data∧Bytes H rc e.rs.rd) :
  ∀ loc,zbv ir6_k0 loc=[.junk,.junk,.c (.ptr p 0),.junk,.junk,.junk,.junk,.c (.sl b 0 15 c),.c (.int .i64 0),.junk,.junk,.junk,.junk,.junk,.junk,.junk,.junk,.junk,.junk,.junk] →
   ∃ r,zcr (evCallO OS table 3000 65) 3000 ir6_k0 ir6_l0 3000 loc H=some r∧∃ L a0 a1,r=(.exit 8,a0 :: a1 :: .c (.ptr p 0) :: L,H)∧L.length=17:=by
 intro loc hloc
 refine zcl (n:=3) (fun i loc H'=>H'=H∧loc=[.junk,.junk,.c (.ptr p 0),.junk,.junk,.junk,.junk,.c (.sl b 0 15 c),.c (.int .i64 (i:Int)),.junk,.junk,.junk,.junk,.junk,.junk,.junk,.junk,.junk,.junk,.junk]) _ ?_ ⟨rfl,hloc⟩ (by omega)
 rintro i loc H' hi ⟨rfl,rfl⟩
 unfold ir6_l0
 by_cases hlt:i < 3
 ·left
  have v1:decide ((i:Int) < 3)=true:=decide_eq_true (by omega)
  have v2:=zdm (i:=i) (by omega)
  have len:(finL t0 t1 t2 g0 s0 g1 s1 g2 s2).length=15:=rfl
  obtain ⟨d1,r1,e1,_,_⟩:=E (9 + i) _ (zhs (by rw [len];omega))
  obtain ⟨d2,r2,e2,_,B2⟩:=E (12 + i) _ (zhs (by rw [len];omega))
  have c1:(zbh (finL t0 t1 t2 g0 s0 g1 s1 g2 s2) (9 + i)).rs.code=0:=eq_of_beq (List.all_eq_true.1 (zo7 t0 t1 t2 g0 s0 g1 s1 g2 s2) (9 + i) (List.mem_range.2 (by omega)))
  have c2:(zbh (finL t0 t1 t2 g0 s0 g1 s1 g2 s2) (12 + i)).rs.code=0:=eq_of_beq (List.all_eq_true.1 (zo7 t0 t1 t2 g0 s0 g1 s1 g2 s2) (12 + i) (List.mem_range.2 (by omega)))
  have c3:(zbh (finL t0 t1 t2 g0 s0 g1 s1 g2 s2) (12 + i)).rs.rd=[98#8]:=eq_of_beq (List.all_eq_true.1 (zvu t0 t1 t2 g0 s0 g1 s1 g2 s2) i (List.mem_range.2 (by omega)))
  have k1:H'.read b ((9 + i) * 14 + 7) 1=some [.int .i64 0]:=by rw [← c1];exact zqw e1 rfl (by omega)
  have k2:H'.read b ((12 + i) * 14 + 7) 1=some [.int .i64 0]:=by rw [← c2];exact zqw e2 rfl (by omega)
  have k3:H'.read b ((12 + i) * 14 + 7 + 3) 1=some [r2]:=by rw [show (12 + i) * 14 + 7 + 3=(12 + i) * 14 + 10 by omega];exact zqw e2 rfl (by omega)
  rw [c3] at B2
  have st:=zvt B2 (Ext.refl H') (n:=0) rfl
  have hs:strOf [98#8]=[98]:=rfl
  rw [hs] at st
  have w1:IntKind.i64.wrap (9 + (i:Int))=((9 + i:Nat):Int):=by rw [zf7 (by omega) (by omega)];omega
  have w2:IntKind.i64.wrap (12 + (i:Int))=((12 + i:Nat):Int):=by rw [zf7 (by omega) (by omega)];omega
  have m1:Nat.blt (9 + i) 15=true:=zc0 (by omega)
  have m2:Nat.blt (12 + i) 15=true:=zc0 (by omega)
  simp only [zap,zac,zas,zat,zav,zam,za2,zbm,za5,zad,zaj,zaa,zau,zae,zaf,zar,zax,zba,za4,zbt,zk6,za6,zbe,zag,X.eval,zal,zai,List.getD_cons_zero,List.getD_cons_succ,List.set_cons_zero,List.set_cons_succ,zay,zaq,zab,zak,intArith,shift,zbc,cond_true,cond_false,BEq.rfl,AV.ofCells,Nat.zero_add,Nat.add_zero,Bool.not_true,Int.reduceLT,decide_false,za0,za3,za8,zbr,AV.ofCells,zen,v1,w1,w2,m1,m2,k1,k2,k3,st,v2]
  exact ⟨hlt,_,_,rfl,rfl,rfl⟩
 ·right
  have hin:i=3:=by omega
  subst hin
  have v1:decide (((3:Nat):Int) < 3)=false:=rfl
  simp only [zap,zac,zb2,zas,zat,zam,zcf,zad,zaj,zaa,zae,zaf,zar,zax,za6,zag,X.eval,zal,zai,List.getD_cons_zero,List.getD_cons_succ,List.set_cons_zero,List.set_cons_succ,zay,zaq,zab,zak,intArith,shift,cond_true,cond_false,BEq.rfl,Int.reduceLT,decide_false,v1]
  exact ⟨_,rfl,by simp,_,_,_,rfl,rfl⟩
structure RdP (l0 l1 l2 l3:List Blk) (t0 t1 t2 now g0 s0 g1 s1 g2 s2:Int):Prop where
 d0:DP 0 l0 l1
 d1:DP 1 l1 l2
 d2:DP 2 l2 l3
 w:(Nat.blt 0 l0.length && (Nat.blt 0 l1.length && (Nat.blt 0 l2.length && zpg l3)))=true
 r:Reads now g0 s0 g1 s1 g2 s2 64
 s:∃ ds rs fs,Shows l3 (wd ds rs 0 (finL t0 t1 t2 g0 s0 g1 s1 g2 s2)) fs false 64∧framedH msF.hs fs 6 false 6 8=true
theorem zx2 {i:Nat} (h:i=76∨i=93∨i=103∨i=107) (t0 t1 t2:Int):∃ l1 l2 l3 g0 s0 g1 s1 g2 s2,RdP (H i t0 t1 t2) l1 l2 l3 t0 t1 t2 (46 + (zcu i:Int)) g0 s0 g1 s1 g2 s2:=by
 rcases h with rfl | rfl | rfl | rfl
 ·exact ⟨_,_,_,_,_,_,_,_,_,zaiy t0 t1 t2,zaiz t0 t1 t2,zai0 t0 t1 t2,by kernel_rfl,⟨by decide,by decide,by decide,by decide,by decide,by decide,by decide⟩,_,_,_,v76 t0 t1 t2,by kernel_rfl⟩
 ·exact ⟨_,_,_,_,_,_,_,_,_,zai1 t0 t1 t2,zai2 t0 t1 t2,zai3 t0 t1 t2,by kernel_rfl,⟨by decide,by decide,by decide,by decide,by decide,by decide,by decide⟩,_,_,_,v93 t0 t1 t2,by kernel_rfl⟩
 ·exact ⟨_,_,_,_,_,_,_,_,_,zaa8 t0 t1 t2,zaa9 t0 t1 t2,zaba t0 t1 t2,by kernel_rfl,⟨by decide,by decide,by decide,by decide,by decide,by decide,by decide⟩,_,_,_,v103 t0 t1 t2,by kernel_rfl⟩
 ·exact ⟨_,_,_,_,_,_,_,_,_,zabb t0 t1 t2,zabc t0 t1 t2,zabd t0 t1 t2,by kernel_rfl,⟨by decide,by decide,by decide,by decide,by decide,by decide,by decide⟩,_,_,_,v107 t0 t1 t2,by kernel_rfl⟩
theorem zt5 {c:Nat} {l l':List Blk} (D:DP c l l') {h0 g:Heap} {ρ:Nat→Nat} {p:Nat} (A:At h0 ρ l g) (hp:ρ 0=p) (hl:0 < l.length) :
  ∃ g' ρ',evCallO OS table 3000 65 11 [.c (.ptr p 0),.c (.int .i64 (c:Int)),.agg [.int .i64 3,.int .i64 0,.int .i64 0,.int .i64 0,.int .i64 1,.nils]] g=some (.c (.bool true),g')∧At h0 ρ' l' g'∧ρ' 0=p:=by
 obtain ⟨ts,n,e1,e2,e3⟩:=D
 obtain ⟨ρ',g',ev,A',kp,_,_⟩:=zfn zdv zdn (show 3000≤3000 by omega) (by omega) (show 60≤65 by omega) e1 e2 A
 refine ⟨g',ρ',?_,A',(kp 0 e3 hl).trans hp⟩
 rw [← hp];exact ev
theorem zt6 {H1:Heap} {p:Nat} {ρ:Nat→Nat} {l0 l1 l2 l3:List Blk} {t0 t1 t2 now g0 s0 g1 s1 g2 s2:Int} (A:At h ρ l0 H1) (hp:ρ 0=p) (R:RdP l0 l1 l2 l3 t0 t1 t2 now g0 s0 g1 s1 g2 s2) :
  ∀ loc,zbv ir6_k1 loc=[.junk,.junk,.c (.ptr p 0),.junk,.junk,.junk,.c (.int .i64 0),.junk,.junk,.junk,.junk,.junk,.junk,.junk,.junk,.junk,.junk,.junk,.junk,.junk] →
   ∃ r,zcr (evCallO OS table 3000 65) 3000 ir6_k1 ir6_l1 3000 loc H1=some r∧∃ H L a0 a1,(∃ ρ,At h ρ l3 H∧ρ 0=p)∧r=(.exit 6,a0 :: a1 :: .c (.ptr p 0) :: L,H)∧L.length=17:=by
 intro loc hloc
 obtain ⟨d0,d1,d2,w,r,s⟩:=R
 simp only [Bool.and_eq_true] at w
 obtain ⟨w0,w1,w2,w3⟩:=w
 refine zcl (n:=3) (fun i loc H=>(∃ ρ li,At h ρ li H∧ρ 0=p∧(i=0→li=l0)∧(i=1→li=l1)∧(i=2→li=l2)∧(i=3→li=l3))∧loc=[.junk,.junk,.c (.ptr p 0),.junk,.junk,.junk,.c (.int .i64 (i:Int)),.junk,.junk,.junk,.junk,.junk,.junk,.junk,.junk,.junk,.junk,.junk,.junk,.junk]) _ ?_ ⟨⟨ρ,l0,A,hp,fun _=>rfl,fun h=>by omega,fun h=>by omega,fun h=>by omega⟩,hloc⟩ (by omega)
 rintro i loc H hi ⟨⟨ρ1,li,A1,hp1,q0,q1,q2,q3⟩,rfl⟩
 unfold ir6_l1
 by_cases hlt:i < 3
 ·left
  have v1:decide ((i:Int) < 3)=true:=decide_eq_true (by omega)
  have v2:=zdm (i:=i) (by omega)
  obtain ⟨H2,ρ2,ln,e2,A2,hp2,n1,n2,n3⟩ : ∃ H2 ρ2 ln,evCallO OS table 3000 65 11 [.c (.ptr p 0),.c (.int .i64 (i:Int)),.agg [.int .i64 3,.int .i64 0,.int .i64 0,.int .i64 0,.int .i64 1,.nils]] H=some (.c (.bool true),H2)∧At h ρ2 ln H2∧ρ2 0=p∧(i + 1=1→ln=l1)∧(i + 1=2→ln=l2)∧(i + 1=3→ln=l3):=by
   have:i=0∨i=1∨i=2:=by omega
   rcases this with rfl | rfl | rfl
   ·rw [q0 rfl] at A1
    obtain ⟨g',ρ',e,A',hp'⟩:=zt5 d0 A1 hp1 (Nat.le_of_ble_eq_true w0)
    exact ⟨g',ρ',_,e,A',hp',fun _=>rfl,fun h=>by omega,fun h=>by omega⟩
   ·rw [q1 rfl] at A1
    obtain ⟨g',ρ',e,A',hp'⟩:=zt5 d1 A1 hp1 (Nat.le_of_ble_eq_true w1)
    exact ⟨g',ρ',_,e,A',hp',fun h=>by omega,fun _=>rfl,fun h=>by omega⟩
   ·rw [q2 rfl] at A1
    obtain ⟨g',ρ',e,A',hp'⟩:=zt5 d2 A1 hp1 (Nat.le_of_ble_eq_true w2)
    exact ⟨g',ρ',_,e,A',hp',fun h=>by omega,fun h=>by omega,fun _=>rfl⟩
  simp only [zap,zac,zas,zat,zav,zam,za2,zbm,za5,zad,zaj,zaa,zae,zaf,zar,zax,zdq,zbd,zbb,za6,zee,zag,X.eval,zal,zai,List.map_cons,List.map_nil,List.getD_cons_zero,List.getD_cons_succ,List.set_cons_zero,List.set_cons_succ,zay,zdk,zaq,zab,zak,intArith,shift,cond_true,cond_false,BEq.rfl,zb0,zb1,AV.cells,List.length_cons,List.length_nil,zdf,setMany,Nat.ble,Nat.zero_add,Nat.reduceAdd,Bool.not_true,Int.reduceLT,decide_false,zdl,zdt,v1,e2,v2]
  exact ⟨hlt,_,_,rfl,⟨ρ2,ln,A2,hp2,fun h=>by omega,n1,n2,n3⟩,rfl⟩
 ·right
  have hin:i=3:=by omega
  subst hin
  have v1:decide (((3:Nat):Int) < 3)=false:=rfl
  simp only [zap,zac,zb2,zas,zat,zam,zcf,zad,zaj,zaa,zae,zaf,zar,zax,za6,zag,X.eval,zal,zai,List.getD_cons_zero,List.getD_cons_succ,List.set_cons_zero,List.set_cons_succ,zay,zaq,zab,zak,intArith,shift,cond_true,cond_false,BEq.rfl,Int.reduceLT,decide_false,v1]
  rw [q3 rfl] at A1
  exact ⟨_,rfl,by simp,H,_,_,_,⟨ρ1,A1,hp1⟩,rfl,rfl⟩
theorem topSame {y:CV} {picks:List Int} (hy:Ints h y picks):∃ h',evCallO OS table 3000 66 6 [.c y] h=some (.c (.bool true),h'):=by
 obtain ⟨H1,ρ1,p,e1',A1,hp1⟩:=zxu (N:=3000) (d:=4) (h:=h) (Nat.le_refl _)
 obtain ⟨q1,⟨H2,L2,S2,rfl,hL2⟩,r1⟩:=zcn (ztr A1 hp1 (y:=y)) rfl
 obtain ⟨b3,b4,b5,b6,b7,b8,b9,b10,b11,b12,b13,b14,b15,b16,b17,b18,b19,rfl⟩:=znx hL2
 obtain ⟨q2,⟨H3,L3,j3,a30,a31,S3,rfl,hL3⟩,r2⟩:=zcn (zts S2 hy) rfl
 obtain ⟨c3,c4,c5,c6,c7,c8,c9,c10,c11,c12,c13,c14,c15,c16,c17,c18,c19,rfl⟩:=znx hL3
 obtain ⟨q3,⟨H4,L4,j4,a40,a41,S4,hb4,rfl,hL4⟩,r3⟩:=zcn (zrg S3) rfl
 obtain ⟨d3,d4,d5,d6,d7,d8,d9,d10,d11,d12,d13,d14,d15,d16,d17,d18,d19,rfl⟩:=znx hL4
 obtain ⟨hj4,ρ4,t0,t1,t2,A4,hp4,E⟩:=S4
 obtain ⟨l1,l2,l3,g0,s0,g1,s1,g2,s2,R⟩:=zx2 (zzr hj4 hb4.1 hb4.2.1 hb4.2.2) t0 t1 t2
 rw [hb4.1,hb4.2.1,hb4.2.2] at E
 obtain ⟨q4,⟨H5,L5,a50,a51,⟨ρ5,A5,hp5⟩,rfl,hL5⟩,r4⟩:=zcn (zt6 A4 hp4 R) rfl
 obtain ⟨f3,f4,f5,f6,f7,f8,f9,f10,f11,f12,f13,f14,f15,f16,f17,f18,f19,rfl⟩:=znx hL5
 obtain ⟨ds,rs,fs,S,fr⟩:=R.s
 have V:=zqu S (N:=3000) (Nat.le_refl _) A5
 rw [znw,hp5] at V
 have RVV:=zxq (N:=3000) (Nat.le_refl _) E R.r (full:=List.replicate (64 + 1) false) fr rfl (by omega)
 obtain ⟨_,_,_,w3⟩:=by simpa only [Bool.and_eq_true] using R.w
 have q0:=(zju w3 A5).1
 rw [hp5] at q0
 obtain ⟨k,c,D,hk,hk'⟩:=S.ev
 obtain ⟨yh,H6,e6,E6,x6⟩:=zqt hk hk' (N:=3000) (Nat.le_refl _) A5.emb (d:=65) (by omega) (Ext.refl H5)
 rw [znw] at E6
 rcases E6 with ⟨_,hz⟩ | ⟨yb,yc,rfl,ylt,yev⟩
 ·cases hz
 obtain ⟨q5,⟨L6,a60,a61,rfl,hL6⟩,r5⟩:=zcn (zrh (p:=p) (c:=yc) yev) rfl
 obtain ⟨k3,k4,k5,k6,k7,k8,k9,k10,k11,k12,k13,k14,k15,k16,k17,k18,k19,rfl⟩:=znx hL6
 obtain ⟨H7,e7,x7⟩:=zabp (N:=3000) (d:=64) (Nat.le_refl _) (by omega) H6
 obtain ⟨H8,e8,x8⟩:=zxf (N:=3000) (d:=64) (V.ext (x6.trans x7)) RVV (by omega) (by omega)
 have e6':evCallO OS table 3000 65 12 [.c (.ptr (ρ5 1) 0)] H5=some (.c (.sl yb 0 15 yc),H6):=e6
 have e8':evCallO OS table 3000 65 17 [.c (.ptr p 0)] H7=some (.c (.bool true),H8):=e8
 have e7':evCallO OS table 3000 65 9 [] H6=some (.c (.bool true),H7):=e7
 rw [zbi (F:=ir6) rfl rfl rfl]
 unfold ir6
 rw [zbp]
 simp only [za9,zap,zac,zas,zat,zam,za2,zb9,za5,zad,zaj,zaa,zae,zaf,zar,zj8,zbd,zbb,zme,zag,X.eval,zal,zai,List.map_cons,List.map_nil,List.getD_cons_zero,List.getD_cons_succ,List.getD_nil,List.set_cons_zero,List.set_cons_succ,zfo,cond_false,Bool.not_false,e1']
 rw [r1 _ rfl]
 simp only [zap,zac,zas,za2,zbu,zb9,zad,zaj,zaa,zae,zaf,zar,X.eval,zai,List.set_cons_zero,List.set_cons_succ,cond_true,BEq.rfl]
 rw [r2 _ rfl]
 simp only [zap,zac,zas,za2,zbu,zb9,zad,zaj,zaa,zae,zaf,zar,X.eval,zai,List.set_cons_zero,List.set_cons_succ,cond_true,BEq.rfl]
 rw [r3 _ rfl]
 simp only [zap,zac,zas,za2,zbu,zb9,zad,zaj,zaa,zae,zaf,zar,X.eval,zai,List.set_cons_zero,List.set_cons_succ,cond_true,BEq.rfl]
 rw [r4 _ rfl]
 have z15:((15:Int) == 15)=true:=rfl
 have l15:∀ loc vals H,zao loc (.c (.sl yb 0 15 yc) :: vals) H (.len .sl (.val 0))=some (.c (.int .i64 15)):=fun _ _ _=>rfl
 simp only [zap,zac,zas,zat,zam,za2,zbu,zb9,za5,zad,zaj,zaa,zae,zaf,zar,zax,zbg,za4,zbd,zbb,za6,zag,X.eval,zal,zai,List.map_cons,List.map_nil,List.getD_cons_zero,List.getD_cons_succ,List.set_cons_zero,List.set_cons_succ,zay,zaq,zab,zak,intArith,shift,cond_true,cond_false,BEq.rfl,AV.ofCells,Nat.add_zero,Bool.not_true,Int.reduceLT,decide_false,za0,za3,zcw,zcm,za8,AV.ofCells,zen,q0,e6',l15]
 rw [r5 _ rfl]
 simp only [zap,zac,zas,zbu,zbl,zad,zaj,zaa,zau,zae,zaf,zar,zba,zbd,zbb,zaz,za1,zbe,zag,X.eval,zal,zai,List.map_cons,List.map_nil,List.getD_cons_zero,List.getD_cons_succ,List.set_cons_zero,List.set_cons_succ,cond_true,BEq.rfl,zbk,RV.eval,e7',e8']
 exact ⟨H8,rfl⟩
theorem good_same {y:CV} {picks:List Int} (hy:Ints h y picks):zsn (evCallO OS table 3000 66 6 [.c y] h)=true:=by
 obtain ⟨h',e⟩:=topSame hy
 rw [e];rfl
end
end Lav.M
