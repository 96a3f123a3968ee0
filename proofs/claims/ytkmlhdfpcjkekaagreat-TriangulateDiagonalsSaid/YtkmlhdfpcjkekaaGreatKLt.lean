/- TriangulateDiagonals: there are as many diagonals as corners, plus three times the number of holes, minus 3; no two cross, and every other diagonal of the polygon crosses one of them, for every input, without conditions. -/
import Derived.Test.YtkmlhdfpcjkekaaGreatRows
import Derived.Test.YtkmlhdfpcjkekaaGreatKDa
import Derived.Test.YtkmlhdfpcjkekaaGreatKOp
import Derived.Test.YtkmlhdfpcjkekaaGreatKLt0
import Derived.ProofKit
set_option linter.unusedSimpArgs false
set_option linter.unusedVariables false
set_option maxRecDepth 100000
set_option maxHeartbeats 16000000
namespace Go.Proofs.YtkmlhdfpcjkekaaGreat
open Go.ChangeShapes Go.WideShapes Go.ChangeAt Go.RowKit
theorem Tryz.own:ownKnob Tryz.prog.godebug=none:=by kernel_rfl
theorem Tryz.laidOut:laidOutB Tryz.prog=true:=by kernel_rfl
theorem triangulateDiagonals_lifted (os:Os) (started:os.Started) (H:Type) (enc:TypeId×Value→H):
 ReturnsInHanded {} Tryz.checked os 3 .any (Rows.triangulateDiagonalsSpec.pre6 enc Tryz.prog Tryz.f3 Rows.triangulateDiagonalsRow.domain false) (Rows.triangulateDiagonalsSpec.post enc Tryz.prog Tryz.f3 false true false false):=by
 refine returnsInHanded_of_change (C:= Tryz.checked) Tryz.own started (by kernel_rfl) Tryz.func3
  (ChangeSpec.witness6 (enc:=enc) (C:= Tryz.checked) false ⟨#[],#[.agg #[.slice none 0 0,.slice none 0 0]],[]⟩ 8 (by kernel_rfl) (by kernel_rfl) (by kernel_rfl) (by kernel_rfl)) ?_
 intro W base args ds gs before hval0 hW hcnd _
 have hval:∀ (j:Nat) t v,Tryz.f3.params[j]? =some t→args[j]? =some v→Value.okWide Tryz.prog W .any base t v:=hval0
 have hW':=hW
 obtain ⟨p,q,hA0,hV,rfl,hfz,hnd⟩:=hW
 have hA:DataW.TrodAll enc Tryz.prog W 0 (fun _=>true) true Tryz.f3.params.toList args.toList ds p:=hA0
 rw [Tryz.params3] at hA hval
 obtain ⟨v0,d0,rfl,rfl,h0⟩:=trodAll_one hA
 obtain ⟨rfl,rfl⟩:=trodVars_none hV
 have h0k:=h0
 obtain ⟨fuel0,h0f⟩:=h0
 obtain ⟨O0,hs0,hvr0,hO0,hq0,hr0⟩:=Go.Av.trod_pg h0f
 clear hA0 hval0
 simp only [List.append_nil] at hW' hfz
 have hlt0:∀ x∈p,x.block<W.heap.size:=fun x hx=>by simpa using hW'.lt x (by simp [hx])
 have hpc:=Go.Av.triangulateDiagonals_pc O0 hs0 ⟨hO0,hq0,hr0⟩
 obtain ⟨_,hcalls⟩:=hpc (fun B=>B<W.heap.size) W #[v0] (fun _ h=>h) ⟨rfl,fun j u x hk hx=>by
  match j with
  |0=>simp at hk hx;subst hk;subst hx;exact hvr0
  |j+1=>simp at hk⟩
 refine hcalls.mono ?_
 rintro e W' ⟨x,rfl,hx,hb⟩
 obtain ⟨rfl,_⟩:=hx.prim_inv
 refine ⟨_,rfl,[d0],[],_,[],p,[],hW',?_,?_,rfl,hb.frame _,fun h=>by cases h⟩
 ·exact trodAll_mk1 (shut_bool Tryz.underlying4 _)
 ·exact trodAll_mk1 (Below.trod Tryz.laidOut (by kernel_rfl) (of_decide_eq_true (by kernel_rfl)) h0k hb (fun x hx=>hlt0 x hx))
theorem triangulateDiagonals_holds:Rows.TriangulateDiagonalsSaid:=
 OpenClaim.holds_of_wide 3 Tryz.f3 rfl rfl rfl rfl rfl rfl rfl ⟨rfl,rfl,rfl,rfl,rfl⟩ rfl rfl rfl rfl rfl namedTriangulateDiagonals Tryz.func3 closedTriangulateDiagonals
  instTriangulateDiagonals wrapTriangulateDiagonals
  (fun os started H enc _=>triangulateDiagonals_lifted os started H enc)
end Go.Proofs.YtkmlhdfpcjkekaaGreat
