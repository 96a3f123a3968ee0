/- Helping texts: Fa, Fs, Fb, Fc, Ft. -/
import Derived.Test.YtbidkolaahnbiaaGreatKDh
import Derived.Test.YtbidkolaahnbiaaGreatKAx
import Derived.Test.YtbidkolaahnbiaaGreatKDs
import Derived.Test.YtbidkolaahnbiaaGreatKMc
set_option linter.unusedSimpArgs false
set_option linter.unusedVariables false
set_option maxRecDepth 100000
set_option maxHeartbeats 16000000
namespace Go.Av
open Go.RowKit
open Go.Proofs.Tryz (prog)
end Go.Av
namespace Go.Av
open Go.RowKit
variable {P : Program} {H : Hp}
end Go.Av
namespace Go.Av
open Go.RowKit
open Go.Proofs.Tryz (prog)
theorem eqA_pc (p q : Pt) : eqA (tyOf prog) 9 31 (.agg [.prim (.bool (can p.x).neg), .prim (.string (bs ((can p.x).num))), .prim (.string (bs ((can p.x).den))), .prim (.bool (can p.y).neg), .prim (.string (bs ((can p.y).num))), .prim (.string (bs ((can p.y).den)))]) (.agg [.prim (.bool (can q.x).neg), .prim (.string (bs ((can q.x).num))), .prim (.string (bs ((can q.x).den))), .prim (.bool (can q.y).neg), .prim (.string (bs ((can q.y).num))), .prim (.string (bs ((can q.y).den)))]) = some (decide (p = q)) := by
 rw [eqA_pt, can_eq]
end Go.Av
namespace Go.Av
open Go.RowKit
open Go.Proofs.Tryz (prog)
end Go.Av
namespace Go.Av
open Go.RowKit
variable {P : Program} {H : Hp}
end Go.Av
