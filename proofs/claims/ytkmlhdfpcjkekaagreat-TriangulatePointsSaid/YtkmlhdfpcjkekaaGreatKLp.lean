/- TriangulatePoints: a point lies in a polygon exactly if a triangle of its triangulation contains it, for every input, without conditions. -/
import Derived.Test.YtkmlhdfpcjkekaaGreatRows
import Derived.Test.YtkmlhdfpcjkekaaGreatKDa
import Derived.Test.YtkmlhdfpcjkekaaGreatKLn
import Derived.Test.YtkmlhdfpcjkekaaGreatKLp0
import Derived.ProofKit
set_option linter.unusedSimpArgs false
set_option linter.unusedVariables false
set_option maxRecDepth 100000
set_option maxHeartbeats 16000000
namespace Go.Proofs.YtkmlhdfpcjkekaaGreat
open Go.ChangeShapes Go.WideShapes Go.ChangeAt Go.RowKit
theorem Tryz.own:ownKnob Tryz.prog.godebug=none:=by kernel_rfl
theorem Tryz.laidOut:laidOutB Tryz.prog=true:=by kernel_rfl
theorem triangulatePoints_lifted (os:Os) (started:os.Started) (H:Type) (enc:TypeId×Value→H):
 ReturnsInHanded {} Tryz.checked os 5 .any (Rows.triangulatePointsSpec.pre6 enc Tryz.prog Tryz.f5 Rows.triangulatePointsRow.domain false) (Rows.triangulatePointsSpec.post enc Tryz.prog Tryz.f5 false true false false):=by
 refine returnsInHanded_of_change (C:= Tryz.checked) Tryz.own started (by kernel_rfl) Tryz.func5
  (ChangeSpec.witness6 (enc:=enc) (C:= Tryz.checked) false ⟨#[],#[.agg #[.slice none 0 0,.slice none 0 0],.agg #[.bool false,.string ⟨#[]⟩,.string ⟨#[]⟩,.bool false,.string ⟨#[]⟩,.string ⟨#[]⟩]],[]⟩ 8 (by kernel_rfl) (by kernel_rfl) (by kernel_rfl) (by kernel_rfl)) ?_
 intro W base args ds gs before hval0 hW hcnd _
 have hval:∀ (j:Nat) t v,Tryz.f5.params[j]? =some t→args[j]? =some v→Value.okWide Tryz.prog W .any base t v:=hval0
 have hW':=hW
 obtain ⟨p,q,hA0,hV,rfl,hfz,hnd⟩:=hW
 have hA:DataW.TrodAll enc Tryz.prog W 0 (fun _=>true) true Tryz.f5.params.toList args.toList ds p:=hA0
 rw [Tryz.params5] at hA hval
 obtain ⟨v0,v1,d0,d1,p0,p1,rfl,rfl,rfl,h0,h1⟩:=trodAll_two hA
 obtain ⟨rfl,rfl⟩:=trodVars_none hV
 have h0k:=h0
 obtain ⟨fuel0,h0f⟩:=h0
 obtain ⟨O0,hs0,hvr0,hO0,hq0,hr0⟩:=Go.Av.trod_pg h0f
 have h1k:=h1
 obtain ⟨fuel1,h1f⟩:=h1
 obtain ⟨r1,hvr1,hr1⟩:=Go.Av.trod_ptV h1f
 clear hA0 hval0
 simp only [List.append_nil] at hW' hfz
 have hlt0:∀ x∈p0,x.block<W.heap.size:=fun x hx=>by simpa using hW'.lt x (by simp [hx])
 have hlt1:∀ x∈p1,x.block<W.heap.size:=fun x hx=>by simpa using hW'.lt x (by simp [hx])
 have hpc:=Go.Av.triangulatePoints_pc O0 hs0 r1 ⟨hO0,hq0,hr0⟩ hr1
 obtain ⟨_,hcalls⟩:=hpc (fun B=>B<W.heap.size) W #[v0,v1] (fun _ h=>h) ⟨rfl,fun j u x hk hx=>by
  match j with
  |0=>simp at hk hx;subst hk;subst hx;exact hvr0
  |1=>simp at hk hx;subst hk;subst hx;exact hvr1
  |j+2=>simp at hk⟩
 refine hcalls.mono ?_
 rintro e W' ⟨x,rfl,hx,hb⟩
 obtain ⟨rfl,_⟩:=hx.prim_inv
 refine ⟨_,rfl,[d0,d1],[],_,[],p0++(p1),[],hW',?_,?_,rfl,hb.frame _,fun h=>by cases h⟩
 ·exact trodAll_mk1 (shut_bool Tryz.underlying4 _)
 ·exact trodAll_mk2 (Below.trod Tryz.laidOut (by kernel_rfl) (of_decide_eq_true (by kernel_rfl)) h0k hb (fun x hx=>hlt0 x hx)) (Below.trod Tryz.laidOut (by kernel_rfl) (of_decide_eq_true (by kernel_rfl)) h1k hb (fun x hx=>hlt1 x hx))
theorem triangulatePoints_holds:Rows.TriangulatePointsSaid:=
 OpenClaim.holds_of_wide 5 Tryz.f5 rfl rfl rfl rfl rfl rfl rfl ⟨rfl,rfl,rfl,rfl,rfl⟩ rfl rfl rfl rfl rfl namedTriangulatePoints Tryz.func5 closedTriangulatePoints
  instTriangulatePoints wrapTriangulatePoints
  (fun os started H enc _=>triangulatePoints_lifted os started H enc)
end Go.Proofs.YtkmlhdfpcjkekaaGreat
