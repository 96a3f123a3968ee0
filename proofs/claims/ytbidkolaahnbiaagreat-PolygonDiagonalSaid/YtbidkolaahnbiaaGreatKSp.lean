/- Helping texts: Sp. -/
import Derived.Test.YtbidkolaahnbiaaGreatKSl
set_option linter.unusedSimpArgs false
set_option linter.unusedVariables false
set_option maxRecDepth 100000
set_option maxHeartbeats 16000000
namespace Go.Av
open Go.RowKit
open Go.Proofs.Tryz (prog)
def Rp.can (p : Rp) : Prop := p.x = Av.can p.x.val ∧ p.y = Av.can p.y.val
variable {O : List Rp} {hs : List (List Rp)}
theorem Small.rcheck (h : Small O hs) : PC prog 75 [pgV O hs] (.prim (.int .i64 (chkP O hs))) := rcheckP_pc O hs h.n h.nO h.kO h.kh
theorem Rp.le32 {p : Rp} (h : p.le (2 ^ 20)) : p.x.le (2 ^ 32) ∧ p.y.le (2 ^ 32) := ⟨Rt.le_mono h.1 (by omega), Rt.le_mono h.2 (by omega)⟩
end Go.Av
