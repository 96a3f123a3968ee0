/- Helping texts: Sl. -/
import Derived.Test.YtbidkolaahnbiaaGreatKSi
set_option linter.unusedSimpArgs false
set_option linter.unusedVariables false
set_option maxRecDepth 100000
set_option maxHeartbeats 16000000
namespace Go.Av
open Go.RowKit
open Go.Proofs.Tryz (prog)
variable {L : List Pt} {Hs : List (List Pt)}
end Go.Av
