/- Merged texts: contracts and plain facts, one part behind another; each part begins with what it says. -/
import Derived.Test.YtgahbngbpfilgaaGBAA
import Derived.Test.YtgahbngbpfilgaaProg
import Derived.WalkKit
section
/- Expressions as trees: plain facts. No program in sight; no condition. -/
namespace Go.Proofs.Ytgahbngbpfilgaa

inductive ETree where
  | leaf (x : GNode)
  | two (x : GNode) (a b : ETree)
  | three (x : GNode) (a b c : ETree)

/-- A tree's nodes, each ahead of its parts. -/
def ETree.flat : ETree → List GNode
  | .leaf x => [x]
  | .two x a b => x :: (a.flat ++ b.flat)
  | .three x a b c => x :: (a.flat ++ (b.flat ++ c.flat))

/-- A list of so many expressions, one behind the other. -/
def flatAll : List ETree → List GNode
  | [] => []
  | t :: ts => t.flat ++ flatAll ts
def mostN (locals k : Int) : Int := if k = 0 then 999 else if k = 1 then locals - 1 else 0

end Go.Proofs.Ytgahbngbpfilgaa
end
section
/- Contracts of package expr: Size, Skip, truth. -/
set_option maxHeartbeats 1000000
set_option maxRecDepth 100000
namespace Go.Proofs.Ytgahbngbpfilgaa
open Go Go.RowKit

end Go.Proofs.Ytgahbngbpfilgaa
end
section
/- A small map of ints that a call makes: how its making, its two stores and a lookup run. No condition. -/
set_option maxHeartbeats 400000
set_option maxRecDepth 100000
namespace Go.Proofs.Ytgahbngbpfilgaa
open Go Go.RowKit

section
variable {P : Program} {T K E : TypeId} (hT : P.underlying T = some (.map K E)) (hK : P.underlying K = some (.int .i64)) (w : World)

include hK in
include hK in
include hT hK

end
end Go.Proofs.Ytgahbngbpfilgaa
end
section
/- Contract of expr.Check. -/
set_option maxHeartbeats 1000000
set_option maxRecDepth 100000
namespace Go.Proofs.Ytgahbngbpfilgaa
open Go Go.RowKit

end Go.Proofs.Ytgahbngbpfilgaa
end
