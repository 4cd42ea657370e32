import Derived.KernelRfl
import Derived.Test.YtpceddbicolfeaaGreatK09
set_option maxRecDepth 100000
set_option linter.unusedVariables false
namespace Lav
open Q
theorem y0:RP 0 41 none none none:=fun t0 t1 t2=>⟨(ts 80 [(2,433),(79,383)]),434,by kernel_rfl,by kernel_rfl,by kernel_rfl⟩
theorem y1:RP 1 57 (some 48) none none:=fun t0 t1 t2=>⟨(ts 80 [(2,455),(79,405)]),456,by kernel_rfl,by kernel_rfl,by kernel_rfl⟩
theorem y2:RP 2 63 none (some 49) none:=fun t0 t1 t2=>⟨(ts 80 [(2,459),(79,409)]),460,by kernel_rfl,by kernel_rfl,by kernel_rfl⟩
theorem y3:RP 3 65 none none (some 50):=fun t0 t1 t2=>⟨(ts 80 [(2,463),(79,413)]),464,by kernel_rfl,by kernel_rfl,by kernel_rfl⟩
theorem y4:RP 4 66 none none none:=fun t0 t1 t2=>⟨(ts 79 [(2,439),(20,79)]),440,by kernel_rfl,by kernel_rfl,by kernel_rfl⟩
theorem y5:RP 5 57 none none none:=fun t0 t1 t2=>⟨(ts 80 [(2,336),(79,286)]),337,by kernel_rfl,by kernel_rfl,by kernel_rfl⟩
theorem y6:RP 6 77 (some 49) (some 50) none:=fun t0 t1 t2=>⟨(ts 80 [(2,481),(79,431)]),482,by kernel_rfl,by kernel_rfl,by kernel_rfl⟩
theorem y7:RP 7 79 (some 49) none (some 51):=fun t0 t1 t2=>⟨(ts 80 [(2,485),(79,435)]),486,by kernel_rfl,by kernel_rfl,by kernel_rfl⟩
theorem y8:RP 8 80 (some 49) none none:=fun t0 t1 t2=>⟨(ts 79 [(2,461),(20,79)]),462,by kernel_rfl,by kernel_rfl,by kernel_rfl⟩
theorem y9:RP 9 63 none none none:=fun t0 t1 t2=>⟨(ts 80 [(2,336),(79,286)]),337,by kernel_rfl,by kernel_rfl,by kernel_rfl⟩
theorem y10:RP 10 84 none (some 50) (some 51):=fun t0 t1 t2=>⟨(ts 80 [(2,489),(79,439)]),490,by kernel_rfl,by kernel_rfl,by kernel_rfl⟩
theorem y11:RP 11 85 none (some 50) none:=fun t0 t1 t2=>⟨(ts 79 [(2,465),(20,79)]),466,by kernel_rfl,by kernel_rfl,by kernel_rfl⟩
theorem y12:RP 12 65 none none none:=fun t0 t1 t2=>⟨(ts 80 [(2,336),(79,286)]),337,by kernel_rfl,by kernel_rfl,by kernel_rfl⟩
theorem y13:RP 13 87 none none (some 51):=fun t0 t1 t2=>⟨(ts 79 [(2,469),(20,79)]),470,by kernel_rfl,by kernel_rfl,by kernel_rfl⟩
theorem y14:RP 14 88 none none none:=fun t0 t1 t2=>⟨(ts 79 [(2,422)]),423,by kernel_rfl,by kernel_rfl,by kernel_rfl⟩
theorem y15:RP 15 77 none (some 50) none:=fun t0 t1 t2=>⟨(ts 80 [(2,362),(79,312)]),363,by kernel_rfl,by kernel_rfl,by kernel_rfl⟩
theorem y16:RP 16 79 none none (some 51):=fun t0 t1 t2=>⟨(ts 80 [(2,366),(79,316)]),367,by kernel_rfl,by kernel_rfl,by kernel_rfl⟩
theorem y17:RP 17 80 none none none:=fun t0 t1 t2=>⟨(ts 79 [(2,342),(20,79)]),343,by kernel_rfl,by kernel_rfl,by kernel_rfl⟩
theorem y18:RP 18 77 (some 50) none none:=fun t0 t1 t2=>⟨(ts 80 [(2,362),(79,312)]),363,by kernel_rfl,by kernel_rfl,by kernel_rfl⟩
theorem y19:RP 19 93 (some 50) (some 51) (some 52):=fun t0 t1 t2=>⟨(ts 80 [(2,511),(79,461)]),512,by kernel_rfl,by kernel_rfl,by kernel_rfl⟩
theorem y20:RP 20 94 (some 50) (some 51) none:=fun t0 t1 t2=>⟨(ts 79 [(2,487),(20,79)]),488,by kernel_rfl,by kernel_rfl,by kernel_rfl⟩
theorem y21:RP 21 79 (some 50) none none:=fun t0 t1 t2=>⟨(ts 80 [(2,362),(79,312)]),363,by kernel_rfl,by kernel_rfl,by kernel_rfl⟩
theorem y22:RP 22 96 (some 50) none (some 52):=fun t0 t1 t2=>⟨(ts 79 [(2,491),(20,79)]),492,by kernel_rfl,by kernel_rfl,by kernel_rfl⟩
theorem y23:RP 23 97 (some 50) none none:=fun t0 t1 t2=>⟨(ts 79 [(2,444)]),445,by kernel_rfl,by kernel_rfl,by kernel_rfl⟩
theorem y24:RP 24 84 none none (some 51):=fun t0 t1 t2=>⟨(ts 80 [(2,366),(79,316)]),367,by kernel_rfl,by kernel_rfl,by kernel_rfl⟩
theorem y25:RP 25 85 none none none:=fun t0 t1 t2=>⟨(ts 79 [(2,342),(20,79)]),343,by kernel_rfl,by kernel_rfl,by kernel_rfl⟩
theorem y26:RP 26 84 none (some 51) none:=fun t0 t1 t2=>⟨(ts 80 [(2,366),(79,316)]),367,by kernel_rfl,by kernel_rfl,by kernel_rfl⟩
theorem y27:RP 27 99 none (some 51) (some 52):=fun t0 t1 t2=>⟨(ts 79 [(2,495),(20,79)]),496,by kernel_rfl,by kernel_rfl,by kernel_rfl⟩
theorem y28:RP 28 100 none (some 51) none:=fun t0 t1 t2=>⟨(ts 79 [(2,448)]),449,by kernel_rfl,by kernel_rfl,by kernel_rfl⟩
theorem y29:RP 29 87 none none none:=fun t0 t1 t2=>⟨(ts 79 [(2,342),(20,79)]),343,by kernel_rfl,by kernel_rfl,by kernel_rfl⟩
theorem y30:RP 30 101 none none (some 52):=fun t0 t1 t2=>⟨(ts 79 [(2,452)]),453,by kernel_rfl,by kernel_rfl,by kernel_rfl⟩
theorem y31:RP 31 88 none none none:=fun t0 t1 t2=>⟨(ts 79 [(2,327)]),328,by kernel_rfl,by kernel_rfl,by kernel_rfl⟩
theorem y32:RP 32 77 none none none:=fun t0 t1 t2=>⟨(ts 80 [(2,247),(79,197)]),248,by kernel_rfl,by kernel_rfl,by kernel_rfl⟩
theorem y33:RP 33 93 none (some 51) (some 52):=fun t0 t1 t2=>⟨(ts 80 [(2,392),(79,342)]),393,by kernel_rfl,by kernel_rfl,by kernel_rfl⟩
theorem y34:RP 34 94 none (some 51) none:=fun t0 t1 t2=>⟨(ts 79 [(2,368),(20,79)]),369,by kernel_rfl,by kernel_rfl,by kernel_rfl⟩
theorem y35:RP 35 79 none none none:=fun t0 t1 t2=>⟨(ts 80 [(2,247),(79,197)]),248,by kernel_rfl,by kernel_rfl,by kernel_rfl⟩
end Lav
