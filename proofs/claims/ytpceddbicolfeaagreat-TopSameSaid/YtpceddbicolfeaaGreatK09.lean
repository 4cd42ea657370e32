import Derived.Test.YtpceddbicolfeaaGreatK05
import Derived.Test.YtpceddbicolfeaaGreatK06
import Derived.Test.YtpceddbicolfeaaGreatK07
import Derived.Test.YtpceddbicolfeaaGreatK08
set_option maxRecDepth 100000
namespace Lav
open Q
def upO:Option Nat→Int→Int
 | some n,_=>.ofNat n
 | none,t=>t
def RP (i j:Nat) (x0 x1 x2:Option Nat):Prop:=∀ t0 t1 t2:Int,∃ (ts:List Nat) (n:Nat),zc1 ts (evCallO OS table 3000 60 23 [.c (p 0 0)] (hp (H i t0 t1 t2)))=some (AV.mv τ0 (at0 ts) (.tup []),n,(H j (upO x0 t0) (upO x1 t1) (upO x2 t2)).map fun b=>some (b.mv τ0 (at0 ts)))∧fit (H i t0 t1 t2) [.c (p 0 0)] ts n=true∧at0 ts 0=0
end Lav
