import Derived.KernelRfl
import Derived.Test.YtpceddbicolfeaaGreatK09
set_option maxRecDepth 100000
set_option linter.unusedVariables false
namespace Lav
open Q
theorem y36:RP 36 96 none none (some 52):=fun t0 t1 t2=>⟨(ts 79 [(2,372),(20,79)]),373,by kernel_rfl,by kernel_rfl,by kernel_rfl⟩
theorem y37:RP 37 97 none none none:=fun t0 t1 t2=>⟨(ts 79 [(2,325)]),326,by kernel_rfl,by kernel_rfl,by kernel_rfl⟩
theorem y38:RP 38 93 (some 51) none (some 52):=fun t0 t1 t2=>⟨(ts 80 [(2,392),(79,342)]),393,by kernel_rfl,by kernel_rfl,by kernel_rfl⟩
theorem y39:RP 39 94 (some 51) none none:=fun t0 t1 t2=>⟨(ts 79 [(2,368),(20,79)]),369,by kernel_rfl,by kernel_rfl,by kernel_rfl⟩
theorem y40:RP 40 93 (some 51) (some 52) none:=fun t0 t1 t2=>⟨(ts 80 [(2,392),(79,342)]),393,by kernel_rfl,by kernel_rfl,by kernel_rfl⟩
theorem y41:RP 41 103 (some 51) (some 52) (some 53):=fun t0 t1 t2=>⟨(ts 79 [(2,517),(20,79)]),518,by kernel_rfl,by kernel_rfl,by kernel_rfl⟩
theorem y42:RP 42 104 (some 51) (some 52) none:=fun t0 t1 t2=>⟨(ts 79 [(2,470)]),471,by kernel_rfl,by kernel_rfl,by kernel_rfl⟩
theorem y43:RP 43 96 (some 51) none none:=fun t0 t1 t2=>⟨(ts 79 [(2,368),(20,79)]),369,by kernel_rfl,by kernel_rfl,by kernel_rfl⟩
theorem y44:RP 44 105 (some 51) none (some 53):=fun t0 t1 t2=>⟨(ts 79 [(2,474)]),475,by kernel_rfl,by kernel_rfl,by kernel_rfl⟩
theorem y45:RP 45 97 (some 51) none none:=fun t0 t1 t2=>⟨(ts 79 [(2,353)]),354,by kernel_rfl,by kernel_rfl,by kernel_rfl⟩
theorem y46:RP 46 84 none none none:=fun t0 t1 t2=>⟨(ts 80 [(2,247),(79,197)]),248,by kernel_rfl,by kernel_rfl,by kernel_rfl⟩
theorem y47:RP 47 99 none none (some 52):=fun t0 t1 t2=>⟨(ts 79 [(2,372),(20,79)]),373,by kernel_rfl,by kernel_rfl,by kernel_rfl⟩
theorem y48:RP 48 100 none none none:=fun t0 t1 t2=>⟨(ts 79 [(2,325)]),326,by kernel_rfl,by kernel_rfl,by kernel_rfl⟩
theorem y49:RP 49 99 none (some 52) none:=fun t0 t1 t2=>⟨(ts 79 [(2,372),(20,79)]),373,by kernel_rfl,by kernel_rfl,by kernel_rfl⟩
theorem y50:RP 50 106 none (some 52) (some 53):=fun t0 t1 t2=>⟨(ts 79 [(2,478)]),479,by kernel_rfl,by kernel_rfl,by kernel_rfl⟩
theorem y51:RP 51 100 none (some 52) none:=fun t0 t1 t2=>⟨(ts 79 [(2,357)]),358,by kernel_rfl,by kernel_rfl,by kernel_rfl⟩
theorem y52:RP 52 101 none none none:=fun t0 t1 t2=>⟨(ts 79 [(2,325)]),326,by kernel_rfl,by kernel_rfl,by kernel_rfl⟩
theorem y53:RP 53 101 none none (some 53):=fun t0 t1 t2=>⟨(ts 79 [(2,361)]),362,by kernel_rfl,by kernel_rfl,by kernel_rfl⟩
theorem y54:RP 54 93 none none (some 52):=fun t0 t1 t2=>⟨(ts 80 [(2,277),(79,227)]),278,by kernel_rfl,by kernel_rfl,by kernel_rfl⟩
theorem y55:RP 55 94 none none none:=fun t0 t1 t2=>⟨(ts 79 [(2,253),(20,79)]),254,by kernel_rfl,by kernel_rfl,by kernel_rfl⟩
theorem y56:RP 56 93 none (some 52) none:=fun t0 t1 t2=>⟨(ts 80 [(2,277),(79,227)]),278,by kernel_rfl,by kernel_rfl,by kernel_rfl⟩
theorem y57:RP 57 103 none (some 52) (some 53):=fun t0 t1 t2=>⟨(ts 79 [(2,398),(20,79)]),399,by kernel_rfl,by kernel_rfl,by kernel_rfl⟩
theorem y58:RP 58 104 none (some 52) none:=fun t0 t1 t2=>⟨(ts 79 [(2,351)]),352,by kernel_rfl,by kernel_rfl,by kernel_rfl⟩
theorem y59:RP 59 96 none none none:=fun t0 t1 t2=>⟨(ts 79 [(2,253),(20,79)]),254,by kernel_rfl,by kernel_rfl,by kernel_rfl⟩
theorem y60:RP 60 105 none none (some 53):=fun t0 t1 t2=>⟨(ts 79 [(2,355)]),356,by kernel_rfl,by kernel_rfl,by kernel_rfl⟩
theorem y61:RP 61 97 none none none:=fun t0 t1 t2=>⟨(ts 79 [(2,238)]),239,by kernel_rfl,by kernel_rfl,by kernel_rfl⟩
theorem y62:RP 62 93 (some 52) none none:=fun t0 t1 t2=>⟨(ts 80 [(2,277),(79,227)]),278,by kernel_rfl,by kernel_rfl,by kernel_rfl⟩
theorem y63:RP 63 103 (some 52) none (some 53):=fun t0 t1 t2=>⟨(ts 79 [(2,398),(20,79)]),399,by kernel_rfl,by kernel_rfl,by kernel_rfl⟩
theorem y64:RP 64 104 (some 52) none none:=fun t0 t1 t2=>⟨(ts 79 [(2,351)]),352,by kernel_rfl,by kernel_rfl,by kernel_rfl⟩
theorem y65:RP 65 103 (some 52) (some 53) none:=fun t0 t1 t2=>⟨(ts 79 [(2,398),(20,79)]),399,by kernel_rfl,by kernel_rfl,by kernel_rfl⟩
theorem y66:RP 66 107 (some 52) (some 53) (some 54):=fun t0 t1 t2=>⟨(ts 79 [(2,500)]),501,by kernel_rfl,by kernel_rfl,by kernel_rfl⟩
theorem y67:RP 67 104 (some 52) (some 53) none:=fun t0 t1 t2=>⟨(ts 79 [(2,383)]),384,by kernel_rfl,by kernel_rfl,by kernel_rfl⟩
theorem y68:RP 68 105 (some 52) none none:=fun t0 t1 t2=>⟨(ts 79 [(2,351)]),352,by kernel_rfl,by kernel_rfl,by kernel_rfl⟩
theorem y69:RP 69 105 (some 52) none (some 54):=fun t0 t1 t2=>⟨(ts 79 [(2,387)]),388,by kernel_rfl,by kernel_rfl,by kernel_rfl⟩
theorem y70:RP 70 99 none none none:=fun t0 t1 t2=>⟨(ts 79 [(2,253),(20,79)]),254,by kernel_rfl,by kernel_rfl,by kernel_rfl⟩
theorem y71:RP 71 106 none none (some 53):=fun t0 t1 t2=>⟨(ts 79 [(2,355)]),356,by kernel_rfl,by kernel_rfl,by kernel_rfl⟩
end Lav
