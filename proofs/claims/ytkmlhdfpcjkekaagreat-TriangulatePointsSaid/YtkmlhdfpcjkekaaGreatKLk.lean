/- Helping texts: Lk, Lm, Ll. -/
import Derived.Test.YtkmlhdfpcjkekaaGreatKOg
import Derived.Test.YtkmlhdfpcjkekaaGreatKFa
set_option linter.unusedSimpArgs false
set_option linter.unusedVariables false
set_option maxRecDepth 100000
set_option maxHeartbeats 16000000
namespace Go.Av
open Go.RowKit
open Go.Proofs.Tryz (prog)
def nTo (hs:List (List Rp)):Nat→Nat
 |0=>0
 |i+1=>nTo hs i+(hs.getD i []).length
def great22 (O:List Rp) (hs:List (List Rp)):Bool:=greatP O hs||(decide (12<O.length+nTo hs hs.length)&&(decide (O.length≤64)&&decide (hs.length≤8)))
theorem hsv_getD {hs:List (List Rp)} {i:Nat} (h:i<hs.length):((hs.map rpsV).map fun v=>[v]).getD i []=[rpsV (hs.getD i [])]:=by
 rw [List.getD_eq_getElem?_getD,List.getD_eq_getElem?_getD,List.getElem?_map,List.getElem?_map,List.getElem?_eq_getElem h];rfl
theorem hsv_length (hs:List (List Rp)):((hs.map rpsV).map fun v=>[v]).length=hs.length:=by rw [List.length_map,List.length_map]
theorem nTo_le {hs:List (List Rp)} {k:Nat} (h:∀ j,j<hs.length→(hs.getD j []).length≤k):∀ i,i≤hs.length→nTo hs i≤i*k
 |0,_=>by simp [nTo]
 |i+1,hi=>by have:=nTo_le h i (by omega);have:=h i (by omega);rw [nTo,Nat.succ_mul];omega
theorem great22_pc (O:List Rp) (hs:List (List Rp)) (hr:Read O hs):PC prog 21 [pgV O hs] (.prim (.bool (great22 O hs))):=by
 have hm:maxLen<2^63:=by decide
 have g:=greatP_pc O hs (by have:=hr.n;omega) (by have:=hr.o.1;omega) hr.o.2 (fun l hl=>⟨by have:=(hr.h l hl).1;omega,(hr.h l hl).2⟩)
 have hG:great22 O hs=(greatP O hs||(decide (12<O.length+nTo hs hs.length)&&(decide (O.length≤64)&&decide (hs.length≤8)))):=rfl
 cases hg:greatP O hs with
 |true=>
  rw [hg] at g
  rw [hG,hg,Bool.true_or]
  refine PCi ?_
  conv in trip _ _=>cbv
  simp only [runT,RN,simprocAttr]
  simp (disch:=omega) only [↓RS,RZ,simprocAttr,pgV,hsV,rpsV]
  refine cX g ?_
  simp (disch:=omega) only [↓RS,RZ,simprocAttr]
 |false=>
  rw [hg] at g
  rw [hG,hg,Bool.false_or]
  have sm:O.length≤67∧hs.length≤10∧∀ j,j<hs.length→(hs.getD j []).length≤6:=by
   unfold greatP at hg
   simp only [Bool.or_eq_false_iff,decide_eq_false_iff_not] at hg
   obtain ⟨h1,h2,h3,h4,h5,h6⟩:=hg
   refine ⟨by omega,by omega,fun j hj=> ?_⟩
   have:=anyTo_get h4 (show j<min hs.length 11 by omega)
   simp only [Bool.or_eq_false_iff,decide_eq_false_iff_not] at this
   omega
  obtain ⟨s1,s2,s3⟩:=sm
  have hsum:=nTo_le s3
  refine PCi ?_
  conv in trip _ _=>cbv
  simp only [runT,RN,simprocAttr]
  simp (disch:=omega) only [↓RS,RZ,simprocAttr,pgV,hsV,rpsV]
  refine cX g ?_
  simp (disch:=omega) only [↓RS,RZ,simprocAttr,rpc_length]
  refine wp_lp (fun (i:Nat) J=>ov [(1,.ptr 0 0 0),(3,.prim (.int .i64 ((O.length+nTo hs i:Nat):Int))),(4,.prim (.int .i64 ((i:Nat):Int)))] J 0 39) (fun i H=>i≤hs.length∧get H 0=some (.row 2 true [[rpsV O,.lst 1 ((hs.map rpsV).map fun v=>[v])]])) (fun i=>hs.length-i) 0 rfl ⟨Nat.zero_le _,rfl⟩ ?_
  rintro i J H ⟨hi,h0⟩
  try conv in ov _ _ _ _=>simp only [ov,List.lookup,RO,simprocAttr]
  have b1:=hsum i hi
  have b2:i*6≤60:=by omega
  rcases Nat.lt_or_ge i hs.length with hlt|hge
  ·have g1:=hsv_getD hlt
   have g2:=hsv_length hs
   have b3:=s3 i hlt
   simp (disch:=omega) only [↓RS,RZ,simprocAttr,h0,rpsV,g1,g2,rpc_length]
   refine lp_next (i+1) ?_ ⟨hlt,h0⟩ (by omega)
   simp only [nTo]
   have e:((O.length+nTo hs i:Nat):Int)+((hs.getD i []).length:Nat)=((O.length+(nTo hs i+(hs.getD i []).length):Nat):Int):=by omega
   first|rfl|(rw [←e];rfl)
  ·have hia:i=hs.length:=by omega
   subst hia
   have g2:=hsv_length hs
   by_cases c1:12<O.length+nTo hs hs.length
   ·by_cases c2:O.length≤64
    ·by_cases c3:hs.length≤8
     ·rw [decide_eq_true c1,decide_eq_true c2,decide_eq_true c3]
      simp (disch:=omega) only [↓RS,RZ,simprocAttr,h0,rpsV,g2,rpc_length]
      try rfl
     ·rw [decide_eq_true c1,decide_eq_true c2,decide_eq_false c3]
      simp (disch:=omega) only [↓RS,RZ,simprocAttr,h0,rpsV,g2,rpc_length]
      try rfl
    ·rw [decide_eq_true c1,decide_eq_false c2]
     simp (disch:=omega) only [↓RS,RZ,simprocAttr,h0,rpsV,g2,rpc_length]
     try rfl
   ·rw [decide_eq_false c1]
    simp (disch:=omega) only [↓RS,RZ,simprocAttr,h0,rpsV,g2,rpc_length]
    try rfl
theorem fine22_pc (O:List Rp) (hs:List (List Rp)) (hr:Read O hs):∃ b,PC prog 9 [pgV O hs] (.prim (.bool b))∧(b=true→Fine O hs∧O.length+nTo hs hs.length≤12):=by
 have g:=great22_pc O hs hr
 cases hg:great22 O hs with
 |true=>
  rw [hg] at g
  refine ⟨false,?_,fun h=>by cases h⟩
  refine PCi ?_
  conv in trip _ _=>cbv
  simp only [runT,RN,simprocAttr]
  simp (disch:=omega) only [↓RS,RZ,simprocAttr,pgV,hsV,rpsV]
  refine cX g ?_
  simp (disch:=omega) only [↓RS,RZ,simprocAttr]
 |false=>
  rw [hg] at g
  unfold great22 at hg
  rw [Bool.or_eq_false_iff] at hg
  obtain ⟨h1,h2,h3,h4⟩:=greatP_small hg.1
  have c:=Pcheck_pc O hs (by omega) (by omega) h2 h4
  by_cases hz:chkP O hs=0
  ·rw [hz] at c
   have hf:Fine O hs:=⟨hz,h2,h4⟩
   have hle:O.length+nTo hs hs.length≤12:=by
    have k1:=hf.no
    have k2:=hf.few
    have:=hg.2
    rw [decide_eq_true k1,decide_eq_true k2] at this
    simp at this
    omega
   refine ⟨true,?_,fun _=>⟨hf,hle⟩⟩
   refine PCi ?_
   conv in trip _ _=>cbv
   simp only [runT,RN,simprocAttr]
   simp (disch:=omega) only [↓RS,RZ,simprocAttr,pgV,hsV,rpsV]
   refine cX g ?_
   simp (disch:=omega) only [↓RS,RZ,simprocAttr,pgV,hsV,rpsV]
   refine cX c ?_
   simp (disch:=omega) only [↓RS,RZ,simprocAttr]
  ·refine ⟨false,?_,fun h=>by cases h⟩
   refine PCi ?_
   conv in trip _ _=>cbv
   simp only [runT,RN,simprocAttr]
   simp (disch:=omega) only [↓RS,RZ,simprocAttr,pgV,hsV,rpsV]
   refine cX g ?_
   simp (disch:=omega) only [↓RS,RZ,simprocAttr,pgV,hsV,rpsV]
   refine cX c ?_
   simp (disch:=omega) only [↓RS,RZ,simprocAttr]
theorem cornersTo_len (O:List Rp) (hs:List (List Rp)):∀ i,i≤hs.length→(cornersTo (pts O::hs.map pts) (i+1)).length=O.length+nTo hs i
 |0,_=>by simp [cornersTo,nTo,pts_length]
 |i+1,hi=>by
  have:=cornersTo_len O hs i (by omega)
  rw [cornersTo,List.length_append,this,nTo]
  have e:(pts O::hs.map pts).getD (i+1) []=pts (hs.getD i []):=by
   rw [List.getD_cons_succ,List.getD_eq_getElem?_getD,List.getD_eq_getElem?_getD,List.getElem?_map,List.getElem?_eq_getElem hi];rfl
  rw [e,pts_length];omega
structure Triang (L:List Pt) (Hs:List (List Pt)):Prop where
 v:Valid L Hs
 few:(cornP L Hs).length≤12
 d:PC prog 11 [cgV L Hs] (.tup [lsV (diagP L Hs),.prim (.int .i64 (0))])
 b:PC prog 23 [cgV L Hs] (.tup [tsV (srtT (trisP L Hs)),.prim (.int .i64 (0))])
 n:PC prog 25 [cgV L Hs] (.tup [.prim (.int .i64 (((cornP L Hs).length:Int)+2*(Hs.length:Int)-2)),.prim (.int .i64 (0))])
theorem Fine.triang {O:List Rp} {hs:List (List Rp)} (h:Fine O hs) (hn:O.length+nTo hs hs.length≤12):Triang (pts O) (hs.map pts):=by
 have hv:=h.valid
 have hlen:(hs.map pts).length=hs.length:=List.length_map ..
 have hcl:(cornP (pts O) (hs.map pts)).length≤12:=by
  unfold cornP;rw [hlen,cornersTo_len O hs hs.length (Nat.le_refl _)];exact hn
 have tc:=tcorners_pc h (by have:=hcl;unfold cornP at this;rwa [hlen] at this)
 have e:=EdgesP_pc h
 have hD:=fun s h1=>Diagonal_pc h s h1
 have hW:=fun q hq=>InsideP_pc h q hq
 rw [←hlen] at tc e
 have hlC:=hl_corners hv.rgs ((hs.map pts).length+1) (Nat.le_refl _)
 have hsE:=hs_edges hv.rgs ((hs.map pts).length+1) (Nat.le_refl _)
 obtain ⟨lC,lE⟩:=cornersTo_le hv.rgs ((hs.map pts).length+1) (Nat.le_refl _)
 have hfew:=hv.few
 generalize hs.map pts=Hs at*
 generalize pts O=L at*
 have hl0:hl (ordP L Hs) (2^16):=fun p hp=>hlC p ((ordP_mem hv).1 hp)
 have hol:(ordP L Hs).length≤12:=by rw [(ordP_perm hv).length_eq];exact hcl
 have tc:PC prog 52 [cgV L Hs] (.tup [psV (ordP L Hs),.prim (.int .i64 (0))]):=tc
 have ds:=diagonals_pc L Hs (ordP L Hs) (diagS L Hs) hD hl0 hol
 have ds:PC prog 53 [cgV L Hs,psV (ordP L Hs)] (lsV (diagP L Hs)):=ds
 have ds':PC prog 53 [cgV L Hs,psV (ordP L Hs)] (ssV (diagP L Hs)):=by
  unfold lsV at ds
  split at ds
  ·rename_i h0;rw [h0];exact PC_nil ds
  ·exact ds
 have hdl:(diagP L Hs).length≤2^20:=by
  have h1:=diagsOf_length (diagS L Hs) (ordP L Hs) (pairsTo (ordP L Hs).length (ordP L Hs).length)
  have h2:=pairs66 _ hol
  have:(diagP L Hs).length≤66:=Nat.le_trans h1 h2
  omega
 have hlo:(ordP L Hs).length=(cornP L Hs).length:=(ordP_perm hv).length_eq
 refine ⟨hv,hcl,?_,?_,?_⟩
 ·clear e ds' hD hW
  generalize diagP L Hs=dl at*
  by_cases hz:dl=[]
  ·rw [lsV,if_pos hz] at ds ⊢
   refine PCi ?_
   conv in trip _ _=>cbv
   simp only [runT,RN,simprocAttr]
   simp (disch:=omega) only [↓RS,RZ,simprocAttr,cgV,psV]
   refine cX tc ?_
   simp (disch:=omega) only [↓RS,RZ,simprocAttr,psV]
   refine cX ds ?_
   simp (disch:=omega) only [↓RS,RZ,simprocAttr]
  ·rw [lsV,if_neg hz] at ds ⊢
   refine PCi ?_
   conv in trip _ _=>cbv
   simp only [runT,RN,simprocAttr]
   simp (disch:=omega) only [↓RS,RZ,simprocAttr,cgV,psV]
   refine cX tc ?_
   simp (disch:=omega) only [↓RS,RZ,simprocAttr,psV]
   refine cX ds ?_
   simp (disch:=omega) only [↓RS,RZ,simprocAttr,ssV]
 ·have:=Build_pc tc e ds' hW hl0 hol (by rw [lE];omega) hsE hdl (trisP_few hv hcl)
  have hne:srtT (trisP L Hs)≠[]:=fun k=>trisP_ne hv (by have:=(srtT_perm (trisP L Hs)).length_eq;rw [k] at this;exact List.length_eq_zero_iff.1 this.symm)
  have this:PC prog 23 [cgV L Hs] (.tup [ltV (srtT (trisP L Hs)),.prim (.int .i64 (0))]):=this
  rw [ltV,if_neg hne] at this
  exact this
 ·rw [←hlo]
  have hl1:((ordP L Hs).map pc).length=(ordP L Hs).length:=List.length_map ..
  have hl2:((Hs.map psV).map fun v=>[v]).length=Hs.length:=by rw [List.length_map,List.length_map]
  generalize (ordP L Hs)=l at*
  refine PCi ?_
  conv in trip _ _=>cbv
  simp only [runT,RN,simprocAttr]
  simp (disch:=omega) only [↓RS,RZ,simprocAttr,cgV,psV]
  refine cX tc ?_
  simp (disch:=omega) only [↓RS,RZ,simprocAttr,psV,hl1,hl2]
  try rfl
end Go.Av
namespace Go.Av
open Go.RowKit
variable {P:Program} {H:Hp} {φ:Nat→Option Loc} {I:Nat→Prop} {w:World}
theorem get_setX {b c:Nat} {k:Option Blk} {k1:Blk} (hb:b<H.length) (h:get (H.set b k) c=some k1):(c=b∧k=some k1)∨(c≠b∧get H c=some k1):=by
 by_cases e:c=b
 ·subst e
  rw [←setH_lt _ hb,get_setH_same] at h
  exact .inl ⟨rfl,h⟩
 ·rw [←setH_lt _ hb,get_setH_ne _ _ e] at h
  exact .inr ⟨e,h⟩
theorem SR.frost (hS:SR φ I H w) {b:Nat} {es:List (List V)} {sz:Nat} (hg:get H b=some (.row sz true es)):
 SR φ (fun B=>I B∨∃ L,φ b=some L∧B=L.B) (H.set b (some (.row sz false es))) w∧Step φ I H w φ (fun B=>I B∨∃ L,φ b=some L∧B=L.B) (H.set b (some (.row sz false es))) w:=by
 have hlt:=get_lt hg
 have own:∀ L,φ b=some L→Own φ H L.B:=fun L hL=>⟨b,L,_,hL,hg,rfl,rfl⟩
 constructor
 ·refine ⟨fun c L h=>⟨by rw [List.length_set];exact (hS.dom c L h).1,(hS.dom c L h).2⟩,?_,?_,?_⟩
  ·rintro B (hB|⟨L,hL,rfl⟩)
   ·exact hS.imm B hB
   ·exact (hS.dom b L hL).2
  ·intro c M k hc hk
   rcases get_setX hlt hk with ⟨rfl,e⟩|⟨hcb,hk0⟩
   ·cases e
    obtain ⟨q1,q2,q3,q4,q5⟩:=hS.blk c M _ hc hg
    refine ⟨q1,q2,q3,fun i e k v hi hk=> ?_,⟨fun h=>(by cases h),fun h=>absurd (Or.inr ⟨M,hc,rfl⟩) h⟩⟩
    obtain ⟨x,hx,hv⟩:=q4 i e k v hi hk
    exact ⟨x,hx,hv.mono (fun _ _ h=>h) (fun _ h=> .inl h) (fun _ _=>rfl) (fun _ _ h=>h)⟩
   ·have hbk:=hS.blk c M k hc hk0
    have hnB:k.own=true→∀ L,φ b=some L→M.B≠L.B:=fun ho L hL e=>hcb (hS.inj c b M L k _ hc hL hk0 hg ho rfl e)
    cases k with
    |row sz' m es'=>
     obtain ⟨q1,q2,q3,q4,q5⟩:=hbk
     refine ⟨q1,q2,q3,?_,?_⟩
     ·intro i e k v hi hk
      obtain ⟨x,hx,hv⟩:=q4 i e k v hi hk
      exact ⟨x,hx,hv.mono (fun _ _ h=>h) (fun _ h=> .inl h) (fun _ _=>rfl) (fun _ _ h=>h)⟩
     ·constructor
      ·rintro hm (h|⟨L,hL,h⟩)
       ·exact q5.1 hm h
       ·exact hnB (by rw [hm];rfl) L hL h
      ·intro h;exact q5.2 fun h1=>h (.inl h1)
    |loop l=>
     obtain ⟨q1,r,q2,q3,q4,q5,q6,q7,q8⟩:=hbk
     refine ⟨?_,r,q2,q3,q4,?_,q6,q7,q8⟩
     ·rintro (h|⟨L,hL,h⟩)
      ·exact q1 h
      ·exact hnB rfl L hL h
     ·exact q5.mono (fun _ _ h=>h) (fun _ h=> .inl h) (fun _ _=>rfl) (fun _ _ h=>h)
    |mp es=>
     obtain ⟨q1,ents,clock,q2,q3⟩:=hbk
     refine ⟨?_,ents,clock,q2,q3.mono (fun _ _ h=>h) (fun _ h=> .inl h) (fun _ _=>rfl) (fun _ _ h=>h)⟩
     rintro (h|⟨L,hL,h⟩)
     ·exact q1 h
     ·exact hnB rfl L hL h
  ·intro c c' M M' k k' h1 h2 h3 h4 h5 h6 h7
   rcases get_setX hlt h3 with ⟨rfl,e⟩|⟨_,g3⟩
   ·cases e;cases h5
   ·rcases get_setX hlt h4 with ⟨rfl,e⟩|⟨_,g4⟩
    ·cases e;cases h6
    ·exact hS.inj c c' M M' k k' h1 h2 g3 g4 h5 h6 h7
 ·refine ⟨rfl,rfl,rfl,Nat.le_refl _,fun _ _ _=>rfl,fun _ _ h=>h,fun _ _ h=>h,fun _ _ h=> .inl h,fun _ h=> .inl h,?_,?_⟩
  ·rintro B (h|⟨L,hL,rfl⟩) _
   ·exact .inl h
   ·exact .inr (own L hL)
  ·rintro B _ ⟨c,M,k,h1,h2,h3,rfl⟩
   rcases get_setX hlt h2 with ⟨rfl,e⟩|⟨_,g⟩
   ·cases e;cases h3
   ·exact ⟨c,M,k,h1,g,h3,rfl⟩
theorem SC_keep {f:FuncId} {args us:List V} {r:V} {K:V→Hp→Prop} {b sz:Nat} {m:Bool} {es:List (List V)} (hb:get H b=some (.row sz m es))
 (hv:viewArgs ((List.replicate H.length none).set b (some (.row sz m es))) args=some us) (hp:PC P f us r) (hK:K r (H.set b (some (.row sz false es)))):SC P f args H K:=by
 intro φ I w xs hS hxs
 have hbl:=get_lt hb
 have gM:∀ c k,get ((List.replicate H.length none).set b (some (.row sz m es))) c=some k→c=b∧k= .row sz m es:=by
  intro c k h
  unfold get at h
  rw [List.getElem?_set] at h
  split at h
  ·rename_i e
   rw [if_pos (by rw [List.length_replicate];exact hbl)] at h
   exact ⟨e.symm,by cases h;rfl⟩
  ·rw [List.getElem?_replicate] at h
   split at h<;>cases h
 have hM:SR φ I ((List.replicate H.length none).set b (some (.row sz m es))) w:=by
  refine ⟨fun c L h=>⟨by simpa using (hS.dom c L h).1,(hS.dom c L h).2⟩,hS.imm,fun c L k h hk=> ?_,fun c c' L L' k k' _ _ h3 h4 _ _ _=> ?_⟩
  ·obtain ⟨rfl,rfl⟩:=gM c k hk
   exact hS.blk c L _ h hb
  ·rw [(gM c k h3).1,(gM c' k' h4).1]
 obtain ⟨q1,q2⟩:=viewArgs_get hv
 have key:∀ J:Nat→Prop,SR φ J (H.set b (some (.row sz false es))) w→Step φ I H w φ J (H.set b (some (.row sz false es))) w→(∀ B,I B→J B)→(∀ L,φ b=some L→J L.B)→
  (∀ W,(callFunc f xs).run P W= .ok (.enter f xs) W)∧Calls P f xs w (Ends φ I H w K):=by
  intro J hJ hst hIJ hJb
  have hargs:VRs (fun _=>none) J w us xs:=⟨by rw [q1,hxs.len],fun k v x h1 h2=>by
   obtain ⟨v1,hv1,hvv⟩:=get_back q1 q2 h1
   refine view_VR hIJ hM 9 v1 v x hvv (hxs.at_ k v1 x hv1 h2) (.inr fun c L k h hk=> ?_)
   obtain ⟨rfl,_⟩:=gM c k hk
   exact hJb L h⟩
  obtain ⟨h1,h2⟩:=hp J w xs hJ.imm hargs
  refine ⟨h1,h2.mono ?_⟩
  rintro e w' ⟨x,rfl,hx,hbelow⟩
  obtain ⟨p1,p2⟩:=hJ.below (I':=fun B=>J B∨(w.heap.size≤B∧B<w'.heap.size)) hbelow (fun _ h=> .inl h) (fun _ h=>h)
  exact ⟨x,r,_,φ,_,rfl,hK,hx.any,p1,hst.trans p2⟩
 cases m with
 |true=>
  obtain ⟨k1,k2⟩:=hS.frost hb
  exact key _ k1 k2 (fun _ h=> .inl h) (fun L h=> .inr ⟨L,h,rfl⟩)
 |false=>
  have e:H.set b (some (.row sz false es))=H:=by
   refine List.ext_getElem? fun c=> ?_
   rw [List.getElem?_set]
   split
   ·rename_i hc
    subst hc
    simp only [get,List.getElem?_eq_getElem hbl,Option.join_some] at hb
    rw [List.getElem?_eq_getElem hbl,hb]
   ·rfl
  rw [e] at key
  refine key I hS Step.refl (fun _ h=>h) (fun L h=> ?_)
  have:=(hS.blk b L _ h hb).2.2.2.2
  exact Classical.byContradiction fun hn=>by have:=this.2 hn;cases this
end Go.Av
namespace Go.Av
open Go.RowKit
open Go.Proofs.Tryz (prog)
theorem equalSs_pc (E:List Sg) (hn:E.length<2^40):PC prog 42 [ssV E,ssV E] (.prim (.bool true)):=by
 refine PCi ?_
 conv in trip _ _=>cbv
 simp only [runT,RN,simprocAttr]
 simp (disch:=omega) only [↓RS,RZ,simprocAttr,ssV,sgc_length]
 refine wp_lp (fun (i:Nat) J=>ov [(0,ssV E),(1,ssV E),(4,.prim (.bool false)),(11,ssV E),(12,.prim (.int .i64 ((E.length:Nat):Int))),(13,.prim (.int .i64 ((i:Nat):Int)))] J 0 26) (fun i H=>i≤E.length∧H=[]) (fun i=>E.length-i) 0 rfl ⟨Nat.zero_le _,rfl⟩ ?_
 rintro i J _ ⟨hi,rfl⟩
 try conv in ov _ _ _ _=>simp only [ov,List.lookup,RO,simprocAttr]
 rcases Nat.lt_or_ge i E.length with hlt|hge
 ·have g1:=sgc_getDv hlt
  have e:=eqA_self (E.getD i sg0)
  generalize E.getD i sg0=s at*
  simp only [sgc] at e
  simp (disch:=omega) only [↓RS,RZ,simprocAttr,ssV,sgc_length,g1,sgc,e]
  exact lp_next (i+1) rfl ⟨hlt,rfl⟩ (by omega)
 ·have hia:i=E.length:=by omega
  subst hia
  simp (disch:=omega) only [↓RS,RZ,simprocAttr,ssV,sgc_length]
theorem eqA_tr (t:Tri):eqA (tyOf prog) 9 62 (.agg (trc t)) (.agg (trc t))=some true:=by
 have h1:= @eqA_pt8 (can t.a.x) (can t.a.y) (can t.a.x) (can t.a.y)
 have h2:= @eqA_pt8 (can t.b.x) (can t.b.y) (can t.b.x) (can t.b.y)
 have h3:= @eqA_pt8 (can t.c.x) (can t.c.y) (can t.c.x) (can t.c.y)
 rw [decide_eq_true ⟨rfl,rfl⟩] at h1 h2 h3
 unfold eqA
 simp only [trc,RT,eqA.eqFs,Bool.false_eq_true,if_false,String.reduceEq,readAt,TK.isAgg,if_true,List.length_cons,List.length_nil,Nat.reduceAdd,Nat.reduceLeDiff,List.drop_zero,List.drop_succ_cons,List.take_succ_cons,List.take_zero,h1,h2,h3]
theorem trc_length (l:List Tri):(l.map trc).length=l.length:=List.length_map ..
theorem equalTs_pc (E:List Tri) (hn:E.length<2^40):PC prog 51 [tsV E,tsV E] (.prim (.bool true)):=by
 refine PCi ?_
 conv in trip _ _=>cbv
 simp only [runT,RN,simprocAttr]
 simp (disch:=omega) only [↓RS,RZ,simprocAttr,tsV,trc_length]
 refine wp_lp (fun (i:Nat) J=>ov [(0,tsV E),(1,tsV E),(4,.prim (.bool false)),(11,tsV E),(12,.prim (.int .i64 ((E.length:Nat):Int))),(13,.prim (.int .i64 ((i:Nat):Int)))] J 0 26) (fun i H=>i≤E.length∧H=[]) (fun i=>E.length-i) 0 rfl ⟨Nat.zero_le _,rfl⟩ ?_
 rintro i J _ ⟨hi,rfl⟩
 try conv in ov _ _ _ _=>simp only [ov,List.lookup,RO,simprocAttr]
 rcases Nat.lt_or_ge i E.length with hlt|hge
 ·have g1:=trs_getD hlt
  have e:=eqA_tr (E.getD i tr0)
  generalize E.getD i tr0=s at*
  simp only [trc] at e
  simp (disch:=omega) only [↓RS,RZ,simprocAttr,tsV,trc_length,g1,trc,e]
  exact lp_next (i+1) rfl ⟨hlt,rfl⟩ (by omega)
 ·have hia:i=E.length:=by omega
  subst hia
  simp (disch:=omega) only [↓RS,RZ,simprocAttr,tsV,trc_length]
theorem sq_fine:Fine ((sqL 0 4).map Pt.rp) []:=by
 have ck:chkC (sqL 0 4)=0:=by decide+kernel
 have rO:chkR ((sqL 0 4).map Pt.rp)=0:=by rw [chkR_rp (by decide) (by decide),ck]
 refine ⟨?_,rp_le (hl_sq (by decide) (by decide)),fun l hl=>by cases hl⟩
 unfold chkP
 rw [if_neg (fun h=>h rO),if_neg (by decide)]
 exact firstNz_none fun j hj=>absurd hj (Nat.not_lt_zero j)
theorem sq_triang:Triang (sqL 0 4) []:=by
 have:=sq_fine.triang (by decide)
 rw [pts_rp] at this
 exact this
theorem sq_diag:diagP (sqL 0 4) []=[⟨⟨((0:Int):Rat),((0:Int):Rat)⟩,⟨((4:Int):Rat),((4:Int):Rat)⟩⟩]:=by decide+kernel
theorem sq_tris:trisP (sqL 0 4) []=[⟨⟨((0:Int):Rat),((0:Int):Rat)⟩,⟨((4:Int):Rat),((4:Int):Rat)⟩,⟨((0:Int):Rat),((4:Int):Rat)⟩⟩,⟨⟨((0:Int):Rat),((0:Int):Rat)⟩,⟨((4:Int):Rat),((0:Int):Rat)⟩,⟨((4:Int):Rat),((4:Int):Rat)⟩⟩]:=by decide+kernel
theorem sq_sorted:srtT (trisP (sqL 0 4) [])=[⟨⟨((0:Int):Rat),((0:Int):Rat)⟩,⟨((4:Int):Rat),((0:Int):Rat)⟩,⟨((4:Int):Rat),((4:Int):Rat)⟩⟩,⟨⟨((0:Int):Rat),((0:Int):Rat)⟩,⟨((4:Int):Rat),((4:Int):Rat)⟩,⟨((0:Int):Rat),((4:Int):Rat)⟩⟩]:=by
 refine ascT_eq ((srtT_perm _).trans ?_) (srtT_asc _) ?_
 ·rw [sq_tris];exact List.Perm.swap _ _ _
 ·rw [List.pairwise_cons]
  refine ⟨fun t ht=> ?_,List.pairwise_singleton _ _⟩
  rw [List.mem_singleton.1 ht]
  decide+kernel
theorem view_own1 {H:Hp} {m:Bool} {E:List (List V)} (hE:E.length=4) (hp:Prims E) (hg:get H 0=some (.row 6 m E)):viewArgs H [.agg [.sref 0 0 4 4 6 true,.prim (.slice none 0 0)]]=some [.agg [.lst 6 E,.prim (.slice none 0 0)]]:=by
 have h:= @viewLL_prims H 6 E hp
 have ht:E.take 4=E:=List.take_of_length_le (by omega)
 simp only [viewArgs,view,view.viewL,hg,Nat.zero_add,hE,Nat.le_refl,if_true,List.drop_zero,ht,h,Option.map_some]
theorem awake22_pc:PC prog 10 [] (.prim (.bool true)):=by
 have d:=sq_triang.d
 have b:=sq_triang.b
 rw [sq_diag,lsV,if_neg (by simp)] at d
 rw [sq_sorted] at b
 have d:PC prog 11 [.agg [psV (sqL 0 4),.prim (.slice none 0 0)]] _:=PC_nilA d
 rw [ssV] at d
 have b:PC prog 23 [.agg [psV (sqL 0 4),.prim (.slice none 0 0)]] _:=PC_nilA b
 rw [tsV] at b
 have v0:=vof_pc 0 0 (by decide) (by decide)
 have v1:=vof_pc 4 0 (by decide) (by decide)
 have v2:=vof_pc 4 4 (by decide) (by decide)
 have v3:=vof_pc 0 4 (by decide) (by decide)
 have e1:=equalSs_pc [⟨⟨((0:Int):Rat),((0:Int):Rat)⟩,⟨((4:Int):Rat),((4:Int):Rat)⟩⟩] (by simp only [List.length_cons,List.length_nil];omega)
 have e2:=equalTs_pc [⟨⟨((0:Int):Rat),((0:Int):Rat)⟩,⟨((4:Int):Rat),((0:Int):Rat)⟩,⟨((4:Int):Rat),((4:Int):Rat)⟩⟩,
  ⟨⟨((0:Int):Rat),((0:Int):Rat)⟩,⟨((4:Int):Rat),((4:Int):Rat)⟩,⟨((0:Int):Rat),((4:Int):Rat)⟩⟩] (by simp only [List.length_cons,List.length_nil];omega)
 refine PCi ?_
 conv in trip _ _=>cbv
 simp only [runT,RN,simprocAttr]
 simp (disch:=omega) only [↓RS,RZ,simprocAttr]
 refine cX v0 ?_
 simp (disch:=omega) only [↓RS,RZ,simprocAttr,pV,ptV]
 refine cX v1 ?_
 simp (disch:=omega) only [↓RS,RZ,simprocAttr,pV,ptV]
 refine cX v2 ?_
 simp (disch:=omega) only [↓RS,RZ,simprocAttr,pV,ptV]
 refine cX v3 ?_
 simp (disch:=omega) only [↓RS,RZ,simprocAttr,pV,ptV]
 refine call_sc (SC_keep (b:=0) rfl (view_own1 rfl (pc_prims (sqL 0 4)) rfl) d ?_)
 simp (disch:=omega) only [↓RS,RZ,simprocAttr,pV,ptV]
 refine call_sc (SC_keep (b:=0) rfl (view_own1 rfl (pc_prims (sqL 0 4)) rfl) b ?_)
 simp (disch:=omega) only [↓RS,RZ,simprocAttr,pV,ptV]
 refine cX v0 ?_
 simp (disch:=omega) only [↓RS,RZ,simprocAttr,pV,ptV]
 refine cX v1 ?_
 simp (disch:=omega) only [↓RS,RZ,simprocAttr,pV,ptV]
 refine cX v2 ?_
 simp (disch:=omega) only [↓RS,RZ,simprocAttr,pV,ptV]
 refine cX v0 ?_
 simp (disch:=omega) only [↓RS,RZ,simprocAttr,pV,ptV]
 refine cX v2 ?_
 simp (disch:=omega) only [↓RS,RZ,simprocAttr,pV,ptV]
 refine cX v3 ?_
 simp (disch:=omega) only [↓RS,RZ,simprocAttr,pV,ptV]
 refine cX v0 ?_
 simp (disch:=omega) only [↓RS,RZ,simprocAttr,pV,ptV]
 refine cX v2 ?_
 simp (disch:=omega) only [↓RS,RZ,simprocAttr,pV,ptV,ssV,sgc]
 refine cX e1 ?_
 simp (disch:=omega) only [↓RS,RZ,simprocAttr,tsV,trc]
 refine cX e2 ?_
 simp (disch:=omega) only [↓RS,RZ,simprocAttr]
end Go.Av
