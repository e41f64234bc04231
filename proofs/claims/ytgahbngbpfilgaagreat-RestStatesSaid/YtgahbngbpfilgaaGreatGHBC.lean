/- Merged texts: contracts and plain facts, one part behind another; each part begins with what it says. -/
import Derived.Test.YtgahbngbpfilgaaGreatGHAA
import Derived.Test.YtgahbngbpfilgaaGreatProg
import Derived.WalkKit
section
namespace Go.Proofs.YtgahbngbpfilgaaGreat
inductive ETree where
 | leaf (x : GNode)
 | two (x : GNode) (a b : ETree)
 | three (x : GNode) (a b c : ETree)
def ETree.flat : ETree → List GNode
 | .leaf x => [x]
 | .two x a b => x :: (a.flat ++ b.flat)
 | .three x a b c => x :: (a.flat ++ (b.flat ++ c.flat))
def flatAll : List ETree → List GNode
 | [] => []
 | t :: ts => t.flat ++ flatAll ts
def mostN (locals k : Int) : Int := if k = 0 then 999 else if k = 1 then locals - 1 else 0
end Go.Proofs.YtgahbngbpfilgaaGreat
end
section
set_option maxHeartbeats 1000000
set_option maxRecDepth 100000
namespace Go.Proofs.YtgahbngbpfilgaaGreat
open Go Go.RowKit
end Go.Proofs.YtgahbngbpfilgaaGreat
end
section
set_option maxHeartbeats 400000
set_option maxRecDepth 100000
namespace Go.Proofs.YtgahbngbpfilgaaGreat
open Go Go.RowKit
section
variable {P : Program} {T K E : TypeId} (hT : P.underlying T = some (.map K E)) (hK : P.underlying K = some (.int .i64)) (w : World)
include hK in
include hK in
include hT hK
end
end Go.Proofs.YtgahbngbpfilgaaGreat
end
section
set_option maxHeartbeats 1000000
set_option maxRecDepth 100000
namespace Go.Proofs.YtgahbngbpfilgaaGreat
open Go Go.RowKit
end Go.Proofs.YtgahbngbpfilgaaGreat
end
