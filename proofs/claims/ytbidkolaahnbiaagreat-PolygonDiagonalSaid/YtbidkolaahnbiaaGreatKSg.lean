/- Helping texts: Sg, Sh. -/
import Derived.Test.YtbidkolaahnbiaaGreatKSe
import Derived.Test.YtbidkolaahnbiaaGreatKFd
import Derived.Test.YtbidkolaahnbiaaGreatKSm
set_option linter.unusedSimpArgs false
set_option linter.unusedVariables false
set_option maxRecDepth 100000
set_option maxHeartbeats 16000000
namespace Go.Av
open Go.RowKit
open Go.Proofs.Tryz (prog)
end Go.Av
namespace Go.Av
open Go.RowKit
open Go.Proofs.Tryz (prog)
variable {P : Program} {K : V → Hp → Prop} {H : Hp} {ei : TyI} {b : Nat} {ys : List (List V)}
end Go.Av
