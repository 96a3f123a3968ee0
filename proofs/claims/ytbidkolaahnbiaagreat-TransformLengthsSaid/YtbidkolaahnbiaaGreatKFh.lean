/- Helping texts: Fh, Fi, Fj. -/
import Derived.Test.YtbidkolaahnbiaaGreatKFd
import Derived.Test.YtbidkolaahnbiaaGreatKDb
import Derived.Test.YtbidkolaahnbiaaGreatKDq
import Derived.Test.YtbidkolaahnbiaaGreatKFa
set_option linter.unusedSimpArgs false
set_option linter.unusedVariables false
set_option maxRecDepth 100000
set_option maxHeartbeats 16000000
namespace Go.Av
open Go.RowKit
open Go.Proofs.Tryz (prog)
theorem equalH_pc (Hs:List (List Pt)) (hn:Hs.length<2^40) (hh:∀ l∈Hs,l.length<2^40):
 PC prog 109 [.lst 1 ((Hs.map psV).map fun v=>[v]),.lst 1 ((Hs.map psV).map fun v=>[v]),.clo 69 [] []] (.prim (.bool true)):=by
 refine PCi ?_
 conv in trip _ _=>cbv
 simp only [runT,RN,simprocAttr]
 simp (disch:=omega) only [↓RS,RZ,simprocAttr,one_length,pgs_length]
 refine wp_lp (fun (i:Nat) J=>ov [(0,.lst 1 ((Hs.map psV).map fun v=>[v])),(1,.lst 1 ((Hs.map psV).map fun v=>[v])),(2,.clo 69 [] []),(15,.lst 1 ((Hs.map psV).map fun v=>[v])),(16,.prim (.int .i64 ((Hs.length:Nat):Int))),(17,.prim (.int .i64 ((i:Nat):Int)))] J 0 32) (fun i _=>i≤Hs.length) (fun i=>Hs.length-i) 0 rfl (Nat.zero_le _) ?_
 rintro i J H hi
 try conv in ov _ _ _ _=>simp only [ov,List.lookup,RO,simprocAttr]
 rcases Nat.lt_or_ge i Hs.length with hlt|hge
 ·have g:=pg_getD hlt
  have hm:Hs.getD i []∈Hs:=by rw [List.getD_eq_getElem?_getD,List.getElem?_eq_getElem hlt];exact List.getElem_mem hlt
  have e:=equalV_pc (Hs.getD i []) (Hs.getD i []) (hh _ hm) (hh _ hm)
  rw [decide_eq_true rfl] at e
  simp (disch:=omega) only [↓RS,RZ,simprocAttr,one_length,pgs_length,g,psV]
  refine cX e ?_
  simp (disch:=omega) only [↓RS,RZ,simprocAttr]
  exact lp_next (i+1) rfl hlt (by omega)
 ·have hia:i=Hs.length:=by omega
  subst hia
  simp (disch:=omega) only [↓RS,RZ,simprocAttr,one_length,pgs_length]
theorem same_pc (L:List Pt) (Hs:List (List Pt)) (hL:L.length<2^40) (hn:Hs.length<2^40) (hh:∀ l∈Hs,l.length<2^40):PC prog 40 [cgV L Hs,cgV L Hs] (.prim (.bool true)):=by
 have e1:=equalV_pc L L hL hL
 rw [decide_eq_true rfl] at e1
 have e2:=equalH_pc Hs hn hh
 refine PCi ?_
 conv in trip _ _=>cbv
 simp only [runT,RN,simprocAttr]
 simp (disch:=omega) only [↓RS,RZ,simprocAttr,cgV,psV]
 refine cX e1 ?_
 simp (disch:=omega) only [↓RS,RZ,simprocAttr,psV]
 refine cX e2 ?_
 simp (disch:=omega) only [↓RS,RZ,simprocAttr]
end Go.Av
namespace Go.Av
open Go.RowKit
open Go.Proofs.Tryz (prog)
def Asc (Hs:List (List Pt)):Prop:=∀ i,0<i→i<Hs.length→cmpH (Hs.getD (i-1) []) (Hs.getD i [])<0
theorem Fine.asc {O:List Rp} {hs:List (List Rp)} (h:Fine O hs):Asc (hs.map pts):=by
 have get:∀ i,i<hs.length→(hs.map pts).getD i []=pts (hs.getD i []):=fun i hi=>by
  rw [List.getD_eq_getElem?_getD,List.getD_eq_getElem?_getD,List.getElem?_map,List.getElem?_eq_getElem hi];rfl
 intro i h0 hi
 rw [List.length_map] at hi
 rw [get i hi,get (i-1) (by omega)]
 have hz:=h.hz i hi
 unfold chkH at hz
 rw [if_neg (by intro h2;exact h2 (chkH_ring (h.hz i hi)))] at hz
 split at hz
 ·cases hz
 split at hz
 ·cases hz
 split at hz
 ·cases hz
 split at hz
 ·cases hz
 ·rename_i hx
  unfold cmpH
  exact Int.not_le.1 fun hle=>hx ⟨h0,hle⟩
theorem Ring.can {R:List Pt} (h:Ring R):Can R:=⟨h.lo,h.hi,h.ht,h.good.keep,h.good.crossB⟩
end Go.Av
namespace Go.Av
open Go.RowKit
open Go.Proofs.Tryz (prog)
theorem view_Y {H:Hp} {b n:Nat} {A:List (List V)} {Y:List (List Pt)} (hb:b<H.length) (hn:(Y.map hcel).length=n):
 viewArgs ((List.replicate H.length none).set b (some (.row 1 true (Y.map hcel)))) [.agg [.lst 6 A,.sref b 0 n n 1 false]]=some [.agg [.lst 6 A,.lst 1 (Y.map hcel)]]:=by
 have g:get ((List.replicate H.length (none:Option Blk)).set b (some (.row 1 true (Y.map hcel)))) b=some (.row 1 true (Y.map hcel)):=get_eq (by rw [List.length_replicate];exact hb)
 have k2:(Y.map hcel).take n=Y.map hcel:=by rw [List.take_of_length_le (by omega)]
 have k3:=viewLL_hcel ((List.replicate H.length (none:Option Blk)).set b (some (.row 1 true (Y.map hcel)))) 6 Y
 simp only [viewArgs,view,view.viewL,g,Nat.zero_add,hn,Nat.le_refl,if_true,List.drop_zero,k2,k3,Option.map_some]
end Go.Av
