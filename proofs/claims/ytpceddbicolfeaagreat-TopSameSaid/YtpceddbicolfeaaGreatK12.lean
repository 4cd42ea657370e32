import Derived.KernelRfl
import Derived.Test.YtpceddbicolfeaaGreatK09
set_option maxRecDepth 100000
set_option linter.unusedVariables false
namespace Lav
open Q
theorem y72:RP 72 100 none none none:=fun t0 t1 t2=>⟨(ts 79 [(2,238)]),239,by kernel_rfl,by kernel_rfl,by kernel_rfl⟩
theorem y73:RP 73 106 none (some 53) none:=fun t0 t1 t2=>⟨(ts 79 [(2,355)]),356,by kernel_rfl,by kernel_rfl,by kernel_rfl⟩
theorem y74:RP 74 106 none (some 53) (some 54):=fun t0 t1 t2=>⟨(ts 79 [(2,391)]),392,by kernel_rfl,by kernel_rfl,by kernel_rfl⟩
theorem y75:RP 75 101 none none none:=fun t0 t1 t2=>⟨(ts 79 [(2,238)]),239,by kernel_rfl,by kernel_rfl,by kernel_rfl⟩
theorem y76:RP 76 93 none none none:=fun t0 t1 t2=>⟨(ts 80 [(2,166),(79,116)]),167,by kernel_rfl,by kernel_rfl,by kernel_rfl⟩
theorem y77:RP 77 103 none none (some 53):=fun t0 t1 t2=>⟨(ts 79 [(2,283),(20,79)]),284,by kernel_rfl,by kernel_rfl,by kernel_rfl⟩
theorem y78:RP 78 104 none none none:=fun t0 t1 t2=>⟨(ts 79 [(2,236)]),237,by kernel_rfl,by kernel_rfl,by kernel_rfl⟩
theorem y79:RP 79 103 none (some 53) none:=fun t0 t1 t2=>⟨(ts 79 [(2,283),(20,79)]),284,by kernel_rfl,by kernel_rfl,by kernel_rfl⟩
theorem y80:RP 80 107 none (some 53) (some 54):=fun t0 t1 t2=>⟨(ts 79 [(2,381)]),382,by kernel_rfl,by kernel_rfl,by kernel_rfl⟩
theorem y81:RP 81 104 none (some 53) none:=fun t0 t1 t2=>⟨(ts 79 [(2,268)]),269,by kernel_rfl,by kernel_rfl,by kernel_rfl⟩
theorem y82:RP 82 105 none none none:=fun t0 t1 t2=>⟨(ts 79 [(2,236)]),237,by kernel_rfl,by kernel_rfl,by kernel_rfl⟩
theorem y83:RP 83 105 none none (some 54):=fun t0 t1 t2=>⟨(ts 79 [(2,272)]),273,by kernel_rfl,by kernel_rfl,by kernel_rfl⟩
theorem y84:RP 84 103 (some 53) none none:=fun t0 t1 t2=>⟨(ts 79 [(2,283),(20,79)]),284,by kernel_rfl,by kernel_rfl,by kernel_rfl⟩
theorem y85:RP 85 107 (some 53) none (some 54):=fun t0 t1 t2=>⟨(ts 79 [(2,381)]),382,by kernel_rfl,by kernel_rfl,by kernel_rfl⟩
theorem y86:RP 86 104 (some 53) none none:=fun t0 t1 t2=>⟨(ts 79 [(2,268)]),269,by kernel_rfl,by kernel_rfl,by kernel_rfl⟩
theorem y87:RP 87 107 (some 53) (some 54) none:=fun t0 t1 t2=>⟨(ts 79 [(2,381)]),382,by kernel_rfl,by kernel_rfl,by kernel_rfl⟩
theorem y88:RP 88 107 (some 53) (some 54) (some 55):=fun t0 t1 t2=>⟨(ts 79 [(2,417)]),418,by kernel_rfl,by kernel_rfl,by kernel_rfl⟩
theorem y89:RP 89 105 (some 53) none none:=fun t0 t1 t2=>⟨(ts 79 [(2,268)]),269,by kernel_rfl,by kernel_rfl,by kernel_rfl⟩
theorem y90:RP 90 106 none none none:=fun t0 t1 t2=>⟨(ts 79 [(2,236)]),237,by kernel_rfl,by kernel_rfl,by kernel_rfl⟩
theorem y91:RP 91 106 none none (some 54):=fun t0 t1 t2=>⟨(ts 79 [(2,272)]),273,by kernel_rfl,by kernel_rfl,by kernel_rfl⟩
theorem y92:RP 92 106 none (some 54) none:=fun t0 t1 t2=>⟨(ts 79 [(2,272)]),273,by kernel_rfl,by kernel_rfl,by kernel_rfl⟩
theorem y93:RP 93 103 none none none:=fun t0 t1 t2=>⟨(ts 79 [(2,172),(20,79)]),173,by kernel_rfl,by kernel_rfl,by kernel_rfl⟩
theorem y94:RP 94 107 none none (some 54):=fun t0 t1 t2=>⟨(ts 79 [(2,266)]),267,by kernel_rfl,by kernel_rfl,by kernel_rfl⟩
theorem y95:RP 95 104 none none none:=fun t0 t1 t2=>⟨(ts 79 [(2,157)]),158,by kernel_rfl,by kernel_rfl,by kernel_rfl⟩
theorem y96:RP 96 107 none (some 54) none:=fun t0 t1 t2=>⟨(ts 79 [(2,266)]),267,by kernel_rfl,by kernel_rfl,by kernel_rfl⟩
theorem y97:RP 97 107 none (some 54) (some 55):=fun t0 t1 t2=>⟨(ts 79 [(2,302)]),303,by kernel_rfl,by kernel_rfl,by kernel_rfl⟩
theorem y98:RP 98 105 none none none:=fun t0 t1 t2=>⟨(ts 79 [(2,157)]),158,by kernel_rfl,by kernel_rfl,by kernel_rfl⟩
theorem y99:RP 99 107 (some 54) none none:=fun t0 t1 t2=>⟨(ts 79 [(2,266)]),267,by kernel_rfl,by kernel_rfl,by kernel_rfl⟩
theorem y100:RP 100 107 (some 54) none (some 55):=fun t0 t1 t2=>⟨(ts 79 [(2,302)]),303,by kernel_rfl,by kernel_rfl,by kernel_rfl⟩
theorem y101:RP 101 107 (some 54) (some 55) none:=fun t0 t1 t2=>⟨(ts 79 [(2,302)]),303,by kernel_rfl,by kernel_rfl,by kernel_rfl⟩
theorem y102:RP 102 106 none none none:=fun t0 t1 t2=>⟨(ts 79 [(2,157)]),158,by kernel_rfl,by kernel_rfl,by kernel_rfl⟩
theorem y103:RP 103 107 none none none:=fun t0 t1 t2=>⟨(ts 79 [(2,155)]),156,by kernel_rfl,by kernel_rfl,by kernel_rfl⟩
theorem y104:RP 104 107 none none (some 55):=fun t0 t1 t2=>⟨(ts 79 [(2,191)]),192,by kernel_rfl,by kernel_rfl,by kernel_rfl⟩
theorem y105:RP 105 107 none (some 55) none:=fun t0 t1 t2=>⟨(ts 79 [(2,191)]),192,by kernel_rfl,by kernel_rfl,by kernel_rfl⟩
theorem y106:RP 106 107 (some 55) none none:=fun t0 t1 t2=>⟨(ts 79 [(2,191)]),192,by kernel_rfl,by kernel_rfl,by kernel_rfl⟩
end Lav
