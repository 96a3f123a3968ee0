/- Helping texts: Dm, Dp. -/
import Derived.Test.YtbidkolaahnbiaaGreatKDj
import Derived.Test.YtbidkolaahnbiaaGreatKDa
set_option linter.unusedSimpArgs false
set_option linter.unusedVariables false
set_option maxRecDepth 100000
set_option maxHeartbeats 16000000
namespace Go.Av
open Go.RowKit
open Go.Proofs.Tryz (prog)
theorem one_getD {es:List V} {i:Nat} (h:i<es.length):(es.map fun v=>[v]).getD i []=[es.getD i undefV]:=by
 rw [List.getD_eq_getElem?_getD,List.getD_eq_getElem?_getD,List.getElem?_map,List.getElem?_eq_getElem h];rfl
theorem one_length (es:List V):(es.map fun v=>[v]).length=es.length:=List.length_map ..
theorem indexF_sc (es:List V) (f:FuncId) {b:Nat} {blk:Blk} (p:Nat→Bool) {H:Hp} {K:V→Hp→Prop} (hb:get H b=some blk) (hn:es.length<2^50)
 (hf:∀ i H K,i<es.length→get H b=some blk→K (.prim (.bool (p i))) H→SC prog f [es.getD i undefV,.ptr b 0 0] H K)
 (hK:K (.prim (.int .i64 (idxP es.length p))) H):SC prog 283 [.lst 1 (es.map fun v=>[v]),.clo f [] [.ptr b 0 0]] H K:=by
 refine SCi ?_
 conv in trip _ _=>cbv
 simp only [runT,RN,simprocAttr]
 simp (disch:=omega) only [↓RS,RZ,simprocAttr,one_length]
 refine wp_lp (fun (i:Nat) J=>ov [(0,.lst 1 (es.map fun v=>[v])),(1,.clo f [] [.ptr b 0 0]),(4,.prim (.int .i64 (0))),(6,.lst 1 (es.map fun v=>[v])),(7,.prim (.int .i64 ((es.length:Nat):Int))),(8,.prim (.int .i64 ((i:Nat):Int)))] J 0 19) (fun i H'=>(i≤es.length∧∀ j,j<i→p j=false)∧H'=H) (fun i=>es.length-i) 0 rfl ⟨⟨Nat.zero_le _,fun j hj=>absurd hj (Nat.not_lt_zero j)⟩,rfl⟩ ?_
 rintro i J _ ⟨⟨hi,hp⟩,rfl⟩
 try conv in ov _ _ _ _=>simp only [ov,List.lookup,RO,simprocAttr]
 rcases Nat.lt_or_ge i es.length with hlt|hge
 ·have g:=one_getD hlt
  simp (disch:=omega) only [↓RS,RZ,simprocAttr,one_length,g]
  refine call_sc (hf i _ _ hlt hb ?_)
  cases hpi:p i with
  |true=>
   rw [idxP_found hlt hpi hp] at hK
   simp (disch:=omega) only [↓RS,RZ,simprocAttr]
   exact hK
  |false=>
   simp (disch:=omega) only [↓RS,RZ,simprocAttr]
   exact lp_next (i+1) rfl ⟨⟨hlt,fun j hj=>by
    rcases Nat.lt_or_ge j i with h|h
    ·exact hp j h
    ·rw [show j=i by omega];exact hpi⟩,rfl⟩ (by omega)
 ·have hia:i=es.length:=by omega
  subst hia
  rw [idxP_none hp] at hK
  simp (disch:=omega) only [↓RS,RZ,simprocAttr,one_length]
  exact hK
def anyTo (n:Nat) (p:Nat→Bool):Bool:=(List.range n).any p
theorem containsF_sc (es:List V) (f:FuncId) {b:Nat} {blk:Blk} (p:Nat→Bool) {H:Hp} {K:V→Hp→Prop} (hb:get H b=some blk) (hn:es.length<2^50)
 (hf:∀ i H K,i<es.length→get H b=some blk→K (.prim (.bool (p i))) H→SC prog f [es.getD i undefV,.ptr b 0 0] H K)
 (hK:K (.prim (.bool (anyTo es.length p))) H):SC prog 233 [.lst 1 (es.map fun v=>[v]),.clo f [] [.ptr b 0 0]] H K:=by
 unfold anyTo at hK
 rw [←idxP_nonneg] at hK
 refine SCi ?_
 conv in trip _ _=>cbv
 simp only [runT,RN,simprocAttr]
 simp (disch:=omega) only [↓RS,RZ,simprocAttr]
 refine call_sc (indexF_sc es f p hb hn hf ?_)
 by_cases h:0≤idxP es.length p
 ·rw [decide_eq_true h] at hK
  simp (disch:=omega) only [↓RS,RZ,simprocAttr]
  exact hK
 ·rw [decide_eq_false h] at hK
  simp (disch:=omega) only [↓RS,RZ,simprocAttr]
  exact hK
theorem ring_of {l:List Rp} (h:chkR l=0) (hl0:∀ p∈l,p.le (2^16)):Ring (pts l)∧rpsV l=psV (pts l):=by
 unfold chkR at h
 split at h
 ·cases h
 ·rename_i h1
  split at h
  ·rename_i h2
   exact ⟨⟨by rw [pts_length];omega,by rw [pts_length];omega,h,hl_pts h2 hl0 (by omega)⟩,raw_can h2⟩
  ·cases h
def chkH (O:List Rp) (hs:List (List Rp)) (i:Nat):Int:=
 if chkR (hs.getD i [])≠0 then chkR (hs.getD i [])
 else if meetB (pts (hs.getD i [])) (pts O)=true∨anyTo i (fun j=>meetB (pts (hs.getD i [])) (pts (hs.getD j [])))=true then 13
 else if withinB (pts (hs.getD i [])) (pts O)=false then 14
 else if anyTo i (fun j=>withinB (pts (hs.getD i [])) (pts (hs.getD j []))||withinB (pts (hs.getD j [])) (pts (hs.getD i [])))=true then 22
 else if 0<i∧0≤cmpP ((pts (hs.getD (i-1) [])).getD 0 default) ((pts (hs.getD i [])).getD 0 default) then 8 else 0
theorem hs_getD {hs:List (List Rp)} {i:Nat} (h:i<hs.length):(hs.map rpsV).getD i undefV=rpsV (hs.getD i []):=by
 rw [List.getD_eq_getElem?_getD,List.getD_eq_getElem?_getD,List.getElem?_map,List.getElem?_eq_getElem h];rfl
theorem hs_length (hs:List (List Rp)):(hs.map rpsV).length=hs.length:=List.length_map ..
theorem hs_take {hs:List (List Rp)} {i:Nat}:((hs.map rpsV).map fun v=>[v]).take i=((hs.take i).map rpsV).map fun v=>[v]:=by
 rw [←List.map_take,←List.map_take]
theorem take_getD {hs:List (List Rp)} {i j:Nat} (hj:j<i) (hi:i≤hs.length):((hs.take i).map rpsV).getD j undefV=rpsV (hs.getD j []):=by
 rw [List.getD_eq_getElem?_getD,List.getD_eq_getElem?_getD,List.getElem?_map,List.getElem?_take_of_lt hj,List.getElem?_eq_getElem (by omega)];rfl
theorem hole_pc (O:List Rp) (hs:List (List Rp)) (i:Nat) (hi:i<hs.length) (hn:hs.length<2^50) (hO:chkR O=0) (kO:∀ p∈O,p.le (2^16))
 (kh:∀ l∈hs,l.length<2^50∧∀ p∈l,p.le (2^16)) (hb:∀ j,j<i→chkR (hs.getD j [])=0):PC prog 162 [pgV O hs,.prim (.int .i64 ((i:Nat):Int))] (.prim (.int .i64 (chkH O hs i))):=by
 have mem:∀ j,j<hs.length→hs.getD j []∈hs:=fun j hj=>by
  rw [List.getD_eq_getElem?_getD,List.getElem?_eq_getElem hj];exact List.getElem_mem hj
 obtain ⟨rO,eO⟩:=ring_of hO kO
 have g:((hs.map rpsV).map fun v=>[v]).getD i []=[rpsV (hs.getD i [])]:=by rw [one_getD (by rw [hs_length];exact hi),hs_getD hi]
 have c:=Rcheck_pc (hs.getD i []) (kh _ (mem i hi)).1 (kh _ (mem i hi)).2
 have htake:= @hs_take hs i
 have hlen:((hs.take i).map rpsV).length=i:=by rw [List.length_map,List.length_take];omega
 refine PCi ?_
 conv in trip _ _=>cbv
 simp only [runT,RN,simprocAttr]
 unfold chkH
 simp (disch:=omega) only [↓RS,RZ,simprocAttr,pgV,hsV,hs_length,one_length,g,List.drop_zero,Nat.sub_zero,htake,rpsV]
 refine cX c ?_
 by_cases h0:chkR (hs.getD i [])=0
 ·rw [if_neg (by simpa using h0)]
  obtain ⟨rh,eh⟩:=ring_of h0 (kh _ (mem i hi)).2
  have m:=meet_pc _ _ rh rO
  have w:=within_pc _ _ rh rO
  have ring:∀ j,j<i→Ring (pts (hs.getD j []))∧rpsV (hs.getD j [])=psV (pts (hs.getD j [])):=fun j hj=>ring_of (hb j hj) (kh _ (mem j (by omega))).2
  have eh':(hs.getD i []).map rpc=(pts (hs.getD i [])).map pc:=by have:=eh;unfold rpsV psV at this;injection this
  have eO':O.map rpc=(pts O).map pc:=by have:=eO;unfold rpsV psV at this;injection this
  simp (disch:=omega) only [↓RS,RZ,simprocAttr,eh',eO']
  refine cX m ?_
  cases hm:meetB (pts (hs.getD i [])) (pts O) with
  |true=>
   rw [if_pos (.inl rfl)]
   simp (disch:=omega) only [↓RS,RZ,simprocAttr]
  |false=>
   simp (disch:=omega) only [↓RS,RZ,simprocAttr,eh',eO']
   refine call_sc (containsF_sc ((hs.take i).map rpsV) _ (fun j=>meetB (pts (hs.getD i [])) (pts (hs.getD j []))) rfl (by omega) (fun j H K hj hb hK=> ?_) ?_)
   ·rw [hlen] at hj
    rw [take_getD hj (by omega),(ring j hj).2]
    exact hole1_sc _ _ rh (ring j hj).1 hb hK
   rw [hlen]
   cases ha:anyTo i (fun j=>meetB (pts (hs.getD i [])) (pts (hs.getD j []))) with
   |true=>
    rw [if_pos (.inr rfl)]
    simp (disch:=omega) only [↓RS,RZ,simprocAttr]
   |false=>
    rw [if_neg (by simp)]
    simp (disch:=omega) only [↓RS,RZ,simprocAttr,eh',eO']
    refine cX w ?_
    cases hw:withinB (pts (hs.getD i [])) (pts O) with
    |false=>
     rw [if_pos rfl]
     simp (disch:=omega) only [↓RS,RZ,simprocAttr]
    |true=>
     rw [if_neg (by simp)]
     simp (disch:=omega) only [↓RS,RZ,simprocAttr,eh',eO']
     refine call_sc (containsF_sc ((hs.take i).map rpsV) _ (fun j=>withinB (pts (hs.getD i [])) (pts (hs.getD j []))||withinB (pts (hs.getD j [])) (pts (hs.getD i []))) rfl (by omega) (fun j H K hj hb hK=> ?_) ?_)
     ·rw [hlen] at hj
      rw [take_getD hj (by omega),(ring j hj).2]
      exact hole2_sc _ _ rh (ring j hj).1 hb hK
     rw [hlen]
     cases hc:anyTo i (fun j=>withinB (pts (hs.getD i [])) (pts (hs.getD j []))||withinB (pts (hs.getD j [])) (pts (hs.getD i []))) with
     |true=>
      rw [if_pos rfl]
      simp (disch:=omega) only [↓RS,RZ,simprocAttr]
     |false=>
      rw [if_neg (by simp)]
      by_cases hi0:0<i
      ·obtain ⟨rb,eb⟩:=ring (i-1) (by omega)
       have eb':(((hs.take i).map rpsV).map fun v=>[v]).getD (i-1) []=[.lst 6 ((pts (hs.getD (i-1) [])).map pc)]:=by
        rw [one_getD (by rw [hlen];omega),take_getD (by omega) (by omega),eb];rfl
       have l1:=rh.lo
       have l2:=rb.lo
       have p1:=pc_getD (l:=pts (hs.getD i [])) (k:=0) (by omega)
       have p2:=pc_getD (l:=pts (hs.getD (i-1) [])) (k:=0) (by omega)
       have v:=vcmp_pc ((pts (hs.getD (i-1) [])).getD 0 default) ((pts (hs.getD i [])).getD 0 default) (Nat.le_trans (hl_get rb.ht (by omega)) (by omega)) (Nat.le_trans (hl_get rh.ht (by omega)) (by omega))
       by_cases hv:0≤cmpP ((pts (hs.getD (i-1) [])).getD 0 default) ((pts (hs.getD i [])).getD 0 default)
       ·rw [if_pos ⟨hi0,hv⟩]
        simp (disch:=omega) only [↓RS,RZ,simprocAttr,eh',one_length,hlen,eb',pc_length,p1,p2,pc]
        refine cX v ?_
        simp (disch:=omega) only [↓RS,RZ,simprocAttr]
       ·rw [if_neg (fun h=>hv h.2)]
        simp (disch:=omega) only [↓RS,RZ,simprocAttr,eh',one_length,hlen,eb',pc_length,p1,p2,pc]
        refine cX v ?_
        simp (disch:=omega) only [↓RS,RZ,simprocAttr]
      ·rw [if_neg (fun h=>hi0 h.1)]
       simp (disch:=omega) only [↓RS,RZ,simprocAttr]
 ·rw [if_pos h0]
  simp (disch:=omega) only [↓RS,RZ,simprocAttr]
end Go.Av
namespace Go.Av
open Go.RowKit
open Go.Proofs.Tryz (prog)
def firstNz (n:Nat) (f:Nat→Int):Int:=match (List.range n).find? (fun i=>decide (f i≠0)) with
 |some i=>f i
 |none=>0
theorem firstNz_found {n i:Nat} {f:Nat→Int} (hi:i<n) (h:f i≠0) (hf:∀ j,j<i→f j=0):firstNz n f=f i:=by
 unfold firstNz
 have:(List.range n).find? (fun i=>decide (f i≠0))=some i:=by
  rw [List.find?_range_eq_some]
  exact ⟨by simpa using h,by simpa using hi,fun j hj=>by simp [hf j hj]⟩
 rw [this]
theorem firstNz_none {n:Nat} {f:Nat→Int} (hf:∀ j,j<n→f j=0):firstNz n f=0:=by
 unfold firstNz
 have:(List.range n).find? (fun i=>decide (f i≠0))=none:=by
  rw [List.find?_eq_none];intro j hj;simp [hf j (by simpa using hj)]
 rw [this]
theorem firstNz_zero {n:Nat} {f:Nat→Int} (h:firstNz n f=0):∀ j,j<n→f j=0:=by
 intro j hj
 unfold firstNz at h
 cases hf:(List.range n).find? (fun i=>decide (f i≠0)) with
 |none=>rw [List.find?_eq_none] at hf;simpa using hf j (by simpa using hj)
 |some i=>
  rw [hf] at h
  have:=List.find?_some hf
  simp at this
  exact absurd h this
theorem chkH_ring {O:List Rp} {hs:List (List Rp)} {i:Nat} (h:chkH O hs i=0):chkR (hs.getD i [])=0:=by
 unfold chkH at h
 split at h
 ·exact h
 ·rename_i h2;simpa using h2
def chkP (O:List Rp) (hs:List (List Rp)):Int:=if chkR O≠0 then chkR O else if 8<hs.length then 4 else firstNz hs.length (chkH O hs)
theorem Pcheck_pc (O:List Rp) (hs:List (List Rp)) (hn:hs.length<2^50) (nO:O.length<2^50) (kO:∀ p∈O,p.le (2^16)) (kh:∀ l∈hs,l.length<2^50∧∀ p∈l,p.le (2^16)):
 PC prog 74 [pgV O hs] (.prim (.int .i64 (chkP O hs))):=by
 have c:=Rcheck_pc O nO kO
 refine PCi ?_
 conv in trip _ _=>cbv
 simp only [runT,RN,simprocAttr]
 unfold chkP
 by_cases h0:chkR O=0
 ·rw [if_neg (fun h=>h h0)]
  rw [h0] at c
  by_cases h8:8<hs.length
  ·rw [if_pos h8]
   simp (disch:=omega) only [↓RS,RZ,simprocAttr,pgV,hsV,rpsV,one_length,hs_length]
   refine cX c ?_
   simp (disch:=omega) only [↓RS,RZ,simprocAttr,one_length,hs_length]
  ·rw [if_neg h8]
   simp (disch:=omega) only [↓RS,RZ,simprocAttr,pgV,hsV,rpsV,one_length,hs_length]
   refine cX c ?_
   simp (disch:=omega) only [↓RS,RZ,simprocAttr,one_length,hs_length]
   refine wp_lp (fun (i:Nat) J=>ov [(0,pgV O hs),(1,.ptr 0 0 0),(18,.prim (.int .i64 ((hs.length:Nat):Int))),(19,.prim (.int .i64 ((i:Nat):Int)))] J 0 29) (fun i H=>(i≤hs.length∧∀ j,j<i→chkH O hs j=0)∧H=[some (.row 2 true [[rpsV O,hsV hs]])]) (fun i=>hs.length-i) 0 rfl ⟨⟨Nat.zero_le _,fun j hj=>absurd hj (Nat.not_lt_zero j)⟩,rfl⟩ ?_
   rintro i J _ ⟨⟨hi,hp⟩,rfl⟩
   try conv in ov _ _ _ _=>simp only [ov,List.lookup,RO,simprocAttr]
   rcases Nat.lt_or_ge i hs.length with hlt|hge
   ·have hc:=hole_pc O hs i hlt hn h0 kO kh (fun j hj=>chkH_ring (hp j hj))
    simp (disch:=omega) only [↓RS,RZ,simprocAttr,pgV,hsV,rpsV,one_length,hs_length]
    refine cX hc ?_
    by_cases hz:chkH O hs i=0
    ·rw [hz]
     simp (disch:=omega) only [↓RS,RZ,simprocAttr]
     exact lp_next (i+1) rfl ⟨⟨hlt,fun j hj=>by
      rcases Nat.lt_or_ge j i with h|h
      ·exact hp j h
      ·rw [show j=i by omega];exact hz⟩,rfl⟩ (by omega)
    ·rw [firstNz_found hlt hz hp]
     simp (disch:=omega) only [↓RS,RZ,simprocAttr]
   ·have hia:i=hs.length:=by omega
    subst hia
    rw [firstNz_none hp]
    simp (disch:=omega) only [↓RS,RZ,simprocAttr,pgV,hsV,rpsV,one_length,hs_length]
 ·rw [if_pos h0]
  simp (disch:=omega) only [↓RS,RZ,simprocAttr,pgV,hsV,rpsV,one_length,hs_length]
  refine cX c ?_
  simp (disch:=omega) only [↓RS,RZ,simprocAttr]
end Go.Av
