/- Helping texts: Lk, Lm, Ll. -/
import Derived.Test.YtkmlhdfpcjkekaaGreatKOg
import Derived.Test.YtkmlhdfpcjkekaaGreatKFa
set_option linter.unusedSimpArgs false
set_option linter.unusedVariables false
set_option maxRecDepth 100000
set_option maxHeartbeats 16000000
namespace Go.Av
open Go.RowKit
open Go.Proofs.Tryz (prog)
def nTo (hs:List (List Rp)):Nat→Nat
 |0=>0
 |i+1=>nTo hs i+(hs.getD i []).length
def zF (O:List Rp) (hs:List (List Rp)):Bool:=nw O hs||(decide (12<O.length+nTo hs hs.length)&&(decide (O.length≤64)&&decide (hs.length≤8)))
theorem OP {hs:List (List Rp)} {i:Nat} (h:i<hs.length):((hs.map dH).map fun v=>[v]).getD i []=[dH (hs.getD i [])]:=by
 rw [ae,ae,aW,aW,af h];rfl
theorem AI (hs:List (List Rp)):((hs.map dH).map fun v=>[v]).length=hs.length:=by rw [az,az]
theorem Ou {hs:List (List Rp)} {k:Nat} (h:∀ j,j<hs.length→(hs.getD j []).length≤k):∀ i,i≤hs.length→nTo hs i≤i*k
 |0,_=>by simp [nTo]
 |i+1,hi=>by have:=Ou h i (by omega);have:=h i (by omega);rw [nTo,Nat.succ_mul];omega
theorem IH (O:List Rp) (hs:List (List Rp)) (hr:SX O hs):PC prog 21 [pgV O hs] (.prim (.bool (zF O hs))):=by
 have hm:maxLen<2^63:=by decide
 have g:=LV O hs (by have:=hr.n;omega) (by have:=hr.o.1;omega) hr.o.2 (fun l hl=>⟨by have:=(hr.h l hl).1;omega,(hr.h l hl).2⟩)
 have hG:zF O hs=(nw O hs||(decide (12<O.length+nTo hs hs.length)&&(decide (O.length≤64)&&decide (hs.length≤8)))):=rfl
 cases hg:nw O hs with
 |true=>
  rw [hg] at g
  rw [hG,hg,Bool.true_or]
  refine PCi ?_
  conv in bL _ _=>cbv
  simp only [bM,RN,simprocAttr]
  simp (disch:=omega) only [↓RS,RZ,simprocAttr,pgV,hsV,dH]
  refine cX g ?_
  simp (disch:=omega) only [↓RS,RZ,simprocAttr]
 |false=>
  rw [hg] at g
  rw [hG,hg,Bool.false_or]
  have sm:O.length≤67∧hs.length≤10∧∀ j,j<hs.length→(hs.getD j []).length≤6:=by
   unfold nw at hg
   simp only [Bool.or_eq_false_iff,aG] at hg
   obtain ⟨h1,h2,h3,h4,h5,h6⟩:=hg
   refine ⟨by omega,by omega,fun j hj=> ?_⟩
   have:=mP h4 (show j<min hs.length 11 by omega)
   simp only [Bool.or_eq_false_iff,aG] at this
   omega
  obtain ⟨s1,s2,s3⟩:=sm
  have hsum:=Ou s3
  refine PCi ?_
  conv in bL _ _=>cbv
  simp only [bM,RN,simprocAttr]
  simp (disch:=omega) only [↓RS,RZ,simprocAttr,pgV,hsV,dH]
  refine cX g ?_
  simp (disch:=omega) only [↓RS,RZ,simprocAttr,bX]
  refine eG (fun (i:Nat) J=>ov [(1,.ptr 0 0 0),(3,.prim (.int .i64 ((O.length+nTo hs i:Nat):Int))),(4,.prim (.int .i64 ((i:Nat):Int)))] J 0 39) (fun i H=>i≤hs.length∧get H 0=some (.row 2 true [[dH O,.lst 1 ((hs.map dH).map fun v=>[v])]])) (fun i=>hs.length-i) 0 rfl ⟨bh _,rfl⟩ ?_
  rintro i J H ⟨hi,h0⟩
  try conv in ov _ _ _ _=>simp only [ov,List.lookup,RO,simprocAttr]
  have b1:=hsum i hi
  have b2:i*6≤60:=by omega
  rcases am i hs.length with hlt|hge
  ·have g1:=OP hlt
   have g2:=AI hs
   have b3:=s3 i hlt
   simp (disch:=omega) only [↓RS,RZ,simprocAttr,h0,dH,g1,g2,bX]
   refine bl (i+1) ?_ ⟨hlt,h0⟩ (by omega)
   simp only [nTo]
   have e:((O.length+nTo hs i:Nat):Int)+((hs.getD i []).length:Nat)=((O.length+(nTo hs i+(hs.getD i []).length):Nat):Int):=by omega
   first|rfl|(rw [←e];rfl)
  ·have hia:i=hs.length:=by omega
   subst hia
   have g2:=AI hs
   by_cases c1:12<O.length+nTo hs hs.length
   ·by_cases c2:O.length≤64
    ·by_cases c3:hs.length≤8
     ·rw [an c1,an c2,an c3]
      simp (disch:=omega) only [↓RS,RZ,simprocAttr,h0,dH,g2,bX]
      try rfl
     ·rw [an c1,an c2,ak c3]
      simp (disch:=omega) only [↓RS,RZ,simprocAttr,h0,dH,g2,bX]
      try rfl
    ·rw [an c1,ak c2]
     simp (disch:=omega) only [↓RS,RZ,simprocAttr,h0,dH,g2,bX]
     try rfl
   ·rw [ak c1]
    simp (disch:=omega) only [↓RS,RZ,simprocAttr,h0,dH,g2,bX]
    try rfl
theorem LX (O:List Rp) (hs:List (List Rp)) (hr:SX O hs):∃ b,PC prog 9 [pgV O hs] (.prim (.bool b))∧(b=true→m5 O hs∧O.length+nTo hs hs.length≤12):=by
 have g:=IH O hs hr
 cases hg:zF O hs with
 |true=>
  rw [hg] at g
  refine ⟨false,?_,fun h=>by cases h⟩
  refine PCi ?_
  conv in bL _ _=>cbv
  simp only [bM,RN,simprocAttr]
  simp (disch:=omega) only [↓RS,RZ,simprocAttr,pgV,hsV,dH]
  refine cX g ?_
  simp (disch:=omega) only [↓RS,RZ,simprocAttr]
 |false=>
  rw [hg] at g
  unfold zF at hg
  rw [Bool.or_eq_false_iff] at hg
  obtain ⟨h1,h2,h3,h4⟩:=E5 hg.1
  have c:=Ek O hs (by omega) (by omega) h2 h4
  by_cases hz:Fr O hs=0
  ·rw [hz] at c
   have hf:m5 O hs:=⟨hz,h2,h4⟩
   have hle:O.length+nTo hs hs.length≤12:=by
    have k1:=hf.no
    have k2:=hf.few
    have:=hg.2
    rw [an k1,an k2] at this
    simp at this
    omega
   refine ⟨true,?_,fun _=>⟨hf,hle⟩⟩
   refine PCi ?_
   conv in bL _ _=>cbv
   simp only [bM,RN,simprocAttr]
   simp (disch:=omega) only [↓RS,RZ,simprocAttr,pgV,hsV,dH]
   refine cX g ?_
   simp (disch:=omega) only [↓RS,RZ,simprocAttr,pgV,hsV,dH]
   refine cX c ?_
   simp (disch:=omega) only [↓RS,RZ,simprocAttr]
  ·refine ⟨false,?_,fun h=>by cases h⟩
   refine PCi ?_
   conv in bL _ _=>cbv
   simp only [bM,RN,simprocAttr]
   simp (disch:=omega) only [↓RS,RZ,simprocAttr,pgV,hsV,dH]
   refine cX g ?_
   simp (disch:=omega) only [↓RS,RZ,simprocAttr,pgV,hsV,dH]
   refine cX c ?_
   simp (disch:=omega) only [↓RS,RZ,simprocAttr]
theorem u9 (O:List Rp) (hs:List (List Rp)):∀ i,i≤hs.length→(bP (pts O::hs.map pts) (i+1)).length=O.length+nTo hs i
 |0,_=>by simp [bP,nTo,oJ]
 |i+1,hi=>by
  have:=u9 O hs i (by omega)
  rw [bP,aK,this,nTo]
  have e:(pts O::hs.map pts).getD (i+1) []=pts (hs.getD i []):=by
   rw [aB,ae,ae,aW,af hi];rfl
  rw [e,oJ];omega
structure PN (L:List Pt) (Hs:List (List Pt)):Prop where
 v:da L Hs
 few:(dE L Hs).length≤12
 d:PC prog 11 [cgV L Hs] (.tup [lsV (gX L Hs),.prim (.int .i64 (0))])
 b:PC prog 23 [cgV L Hs] (.tup [tsV (sN (oB L Hs)),.prim (.int .i64 (0))])
 n:PC prog 25 [cgV L Hs] (.tup [.prim (.int .i64 (((dE L Hs).length:Int)+2*(Hs.length:Int)-2)),.prim (.int .i64 (0))])
theorem m5.triang {O:List Rp} {hs:List (List Rp)} (h:m5 O hs) (hn:O.length+nTo hs hs.length≤12):PN (pts O) (hs.map pts):=by
 have hv:=h.valid
 have hlen:(hs.map pts).length=hs.length:=az ..
 have hcl:(dE (pts O) (hs.map pts)).length≤12:=by
  unfold dE;rw [hlen,u9 O hs hs.length (ax _)];exact hn
 have tc:=F0 h (by have:=hcl;unfold dE at this;rwa [hlen] at this)
 have e:=Mu h
 have hD:=fun s h1=>y9 h s h1
 have hW:=fun q hq=>Jj h q hq
 rw [←hlen] at tc e
 have hlC:=qi hv.rgs ((hs.map pts).length+1) (ax _)
 have hsE:=AK hv.rgs ((hs.map pts).length+1) (ax _)
 obtain ⟨lC,lE⟩:=mM hv.rgs ((hs.map pts).length+1) (ax _)
 have hfew:=hv.few
 generalize hs.map pts=Hs at*
 generalize pts O=L at*
 have hl0:hl (gW L Hs) (2^16):=fun p hp=>hlC p ((m9 hv).1 hp)
 have hol:(gW L Hs).length≤12:=by rw [(pU hv).length_eq];exact hcl
 have tc:PC prog 52 [cgV L Hs] (.tup [psV (gW L Hs),.prim (.int .i64 (0))]):=tc
 have ds:=Fl L Hs (gW L Hs) (kN L Hs) hD hl0 hol
 have ds:PC prog 53 [cgV L Hs,psV (gW L Hs)] (lsV (gX L Hs)):=ds
 have ds':PC prog 53 [cgV L Hs,psV (gW L Hs)] (ssV (gX L Hs)):=by
  unfold lsV at ds
  split at ds
  ·rename_i h0;rw [h0];exact SZ ds
  ·exact ds
 have hdl:(gX L Hs).length≤2^20:=by
  have h1:=tV (kN L Hs) (gW L Hs) (fL (gW L Hs).length (gW L Hs).length)
  have h2:=JQ _ hol
  have:(gX L Hs).length≤66:=bi h1 h2
  omega
 have hlo:(gW L Hs).length=(dE L Hs).length:=(pU hv).length_eq
 refine ⟨hv,hcl,?_,?_,?_⟩
 ·clear e ds' hD hW
  generalize gX L Hs=dl at*
  by_cases hz:dl=[]
  ·rw [lsV,if_pos hz] at ds ⊢
   refine PCi ?_
   conv in bL _ _=>cbv
   simp only [bM,RN,simprocAttr]
   simp (disch:=omega) only [↓RS,RZ,simprocAttr,cgV,psV]
   refine cX tc ?_
   simp (disch:=omega) only [↓RS,RZ,simprocAttr,psV]
   refine cX ds ?_
   simp (disch:=omega) only [↓RS,RZ,simprocAttr]
  ·rw [lsV,if_neg hz] at ds ⊢
   refine PCi ?_
   conv in bL _ _=>cbv
   simp only [bM,RN,simprocAttr]
   simp (disch:=omega) only [↓RS,RZ,simprocAttr,cgV,psV]
   refine cX tc ?_
   simp (disch:=omega) only [↓RS,RZ,simprocAttr,psV]
   refine cX ds ?_
   simp (disch:=omega) only [↓RS,RZ,simprocAttr,ssV]
 ·have:=PU tc e ds' hW hl0 hol (by rw [lE];omega) hsE hdl (KO hv hcl)
  have hne:sN (oB L Hs)≠[]:=fun k=>ML hv (by have:=(rk (oB L Hs)).length_eq;rw [k] at this;exact List.length_eq_zero_iff.1 this.symm)
  have this:PC prog 23 [cgV L Hs] (.tup [ltV (sN (oB L Hs)),.prim (.int .i64 (0))]):=this
  rw [ltV,if_neg hne] at this
  exact this
 ·rw [←hlo]
  have hl1:((gW L Hs).map pc).length=(gW L Hs).length:=az ..
  have hl2:((Hs.map psV).map fun v=>[v]).length=Hs.length:=by rw [az,az]
  generalize (gW L Hs)=l at*
  refine PCi ?_
  conv in bL _ _=>cbv
  simp only [bM,RN,simprocAttr]
  simp (disch:=omega) only [↓RS,RZ,simprocAttr,cgV,psV]
  refine cX tc ?_
  simp (disch:=omega) only [↓RS,RZ,simprocAttr,psV,hl1,hl2]
  try rfl
end Go.Av
namespace Go.Av
open Go.RowKit
variable {P:Program} {H:Hp} {φ:Nat→Option Loc} {I:Nat→Prop} {w:World}
theorem wE {b c:Nat} {k:Option Blk} {k1:Blk} (hb:b<H.length) (h:get (H.set b k) c=some k1):(c=b∧k=some k1)∨(c≠b∧get H c=some k1):=by
 by_cases e:c=b
 ·subst e
  rw [←ng _ hb,eT] at h
  exact .inl ⟨rfl,h⟩
 ·rw [←ng _ hb,ct _ _ e] at h
  exact .inr ⟨e,h⟩
theorem SR.frost (hS:SR φ I H w) {b:Nat} {es:List (List V)} {sz:Nat} (hg:get H b=some (.row sz true es)):
 SR φ (fun B=>I B∨∃ L,φ b=some L∧B=L.B) (H.set b (some (.row sz false es))) w∧iC φ I H w φ (fun B=>I B∨∃ L,φ b=some L∧B=L.B) (H.set b (some (.row sz false es))) w:=by
 have hlt:=mh hg
 have own:∀ L,φ b=some L→Own φ H L.B:=fun L hL=>⟨b,L,_,hL,hg,rfl,rfl⟩
 constructor
 ·refine ⟨fun c L h=>⟨by rw [cO];exact (hS.dom c L h).1,(hS.dom c L h).2⟩,?_,?_,?_⟩
  ·rintro B (hB|⟨L,hL,rfl⟩)
   ·exact hS.imm B hB
   ·exact (hS.dom b L hL).2
  ·intro c M k hc hk
   rcases wE hlt hk with ⟨rfl,e⟩|⟨hcb,hk0⟩
   ·cases e
    obtain ⟨q1,q2,q3,q4,q5⟩:=hS.blk c M _ hc hg
    refine ⟨q1,q2,q3,fun i e k v hi hk=> ?_,⟨fun h=>(by cases h),fun h=>absurd (Or.inr ⟨M,hc,rfl⟩) h⟩⟩
    obtain ⟨x,hx,hv⟩:=q4 i e k v hi hk
    exact ⟨x,hx,hv.mono (fun _ _ h=>h) (fun _ h=> .inl h) (fun _ _=>rfl) (fun _ _ h=>h)⟩
   ·have hbk:=hS.blk c M k hc hk0
    have hnB:k.own=true→∀ L,φ b=some L→M.B≠L.B:=fun ho L hL e=>hcb (hS.inj c b M L k _ hc hL hk0 hg ho rfl e)
    cases k with
    |row sz' m es'=>
     obtain ⟨q1,q2,q3,q4,q5⟩:=hbk
     refine ⟨q1,q2,q3,?_,?_⟩
     ·intro i e k v hi hk
      obtain ⟨x,hx,hv⟩:=q4 i e k v hi hk
      exact ⟨x,hx,hv.mono (fun _ _ h=>h) (fun _ h=> .inl h) (fun _ _=>rfl) (fun _ _ h=>h)⟩
     ·constructor
      ·rintro hm (h|⟨L,hL,h⟩)
       ·exact q5.1 hm h
       ·exact hnB (by rw [hm];rfl) L hL h
      ·intro h;exact q5.2 fun h1=>h (.inl h1)
    |loop l=>
     obtain ⟨q1,r,q2,q3,q4,q5,q6,q7,q8⟩:=hbk
     refine ⟨?_,r,q2,q3,q4,?_,q6,q7,q8⟩
     ·rintro (h|⟨L,hL,h⟩)
      ·exact q1 h
      ·exact hnB rfl L hL h
     ·exact q5.mono (fun _ _ h=>h) (fun _ h=> .inl h) (fun _ _=>rfl) (fun _ _ h=>h)
    |mp es=>
     obtain ⟨q1,ents,clock,q2,q3⟩:=hbk
     refine ⟨?_,ents,clock,q2,q3.mono (fun _ _ h=>h) (fun _ h=> .inl h) (fun _ _=>rfl) (fun _ _ h=>h)⟩
     rintro (h|⟨L,hL,h⟩)
     ·exact q1 h
     ·exact hnB rfl L hL h
  ·intro c c' M M' k k' h1 h2 h3 h4 h5 h6 h7
   rcases wE hlt h3 with ⟨rfl,e⟩|⟨_,g3⟩
   ·cases e;cases h5
   ·rcases wE hlt h4 with ⟨rfl,e⟩|⟨_,g4⟩
    ·cases e;cases h6
    ·exact hS.inj c c' M M' k k' h1 h2 g3 g4 h5 h6 h7
 ·refine ⟨rfl,rfl,rfl,ax _,fun _ _ _=>rfl,fun _ _ h=>h,fun _ _ h=>h,fun _ _ h=> .inl h,fun _ h=> .inl h,?_,?_⟩
  ·rintro B (h|⟨L,hL,rfl⟩) _
   ·exact .inl h
   ·exact .inr (own L hL)
  ·rintro B _ ⟨c,M,k,h1,h2,h3,rfl⟩
   rcases wE hlt h2 with ⟨rfl,e⟩|⟨_,g⟩
   ·cases e;cases h3
   ·exact ⟨c,M,k,h1,g,h3,rfl⟩
theorem KD {f:FuncId} {args us:List V} {r:V} {K:V→Hp→Prop} {b sz:Nat} {m:Bool} {es:List (List V)} (hb:get H b=some (.row sz m es))
 (hv:ii ((List.replicate H.length none).set b (some (.row sz m es))) args=some us) (hp:PC P f us r) (hK:K r (H.set b (some (.row sz false es)))):SC P f args H K:=by
 intro φ I w xs hS hxs
 have hbl:=mh hb
 have gM:∀ c k,get ((List.replicate H.length none).set b (some (.row sz m es))) c=some k→c=b∧k= .row sz m es:=by
  intro c k h
  unfold get at h
  rw [fS] at h
  split at h
  ·rename_i e
   rw [if_pos (by rw [List.length_replicate];exact hbl)] at h
   exact ⟨e.symm,by cases h;rfl⟩
  ·rw [List.getElem?_replicate] at h
   split at h<;>cases h
 have hM:SR φ I ((List.replicate H.length none).set b (some (.row sz m es))) w:=by
  refine ⟨fun c L h=>⟨by simpa using (hS.dom c L h).1,(hS.dom c L h).2⟩,hS.imm,fun c L k h hk=> ?_,fun c c' L L' k k' _ _ h3 h4 _ _ _=> ?_⟩
  ·obtain ⟨rfl,rfl⟩:=gM c k hk
   exact hS.blk c L _ h hb
  ·rw [(gM c k h3).1,(gM c' k' h4).1]
 obtain ⟨q1,q2⟩:=pE hv
 have key:∀ J:Nat→Prop,SR φ J (H.set b (some (.row sz false es))) w→iC φ I H w φ J (H.set b (some (.row sz false es))) w→(∀ B,I B→J B)→(∀ L,φ b=some L→J L.B)→
  (∀ W,(callFunc f xs).run P W= .ok (.enter f xs) W)∧Calls P f xs w (FF φ I H w K):=by
  intro J hJ hst hIJ hJb
  have hargs:VRs (fun _=>none) J w us xs:=⟨by rw [q1,hxs.len],fun k v x h1 h2=>by
   obtain ⟨v1,hv1,hvv⟩:=o5 q1 q2 h1
   refine vP hIJ hM 9 v1 v x hvv (hxs.at_ k v1 x hv1 h2) (.inr fun c L k h hk=> ?_)
   obtain ⟨rfl,_⟩:=gM c k hk
   exact hJb L h⟩
  obtain ⟨h1,h2⟩:=hp J w xs hJ.imm hargs
  refine ⟨h1,h2.mono ?_⟩
  rintro e w' ⟨x,rfl,hx,hbelow⟩
  obtain ⟨p1,p2⟩:=hJ.below (I':=fun B=>J B∨(w.heap.size≤B∧B<w'.heap.size)) hbelow (fun _ h=> .inl h) (fun _ h=>h)
  exact ⟨x,r,_,φ,_,rfl,hK,hx.any,p1,hst.trans p2⟩
 cases m with
 |true=>
  obtain ⟨k1,k2⟩:=hS.frost hb
  exact key _ k1 k2 (fun _ h=> .inl h) (fun L h=> .inr ⟨L,h,rfl⟩)
 |false=>
  have e:H.set b (some (.row sz false es))=H:=by
   refine List.ext_getElem? fun c=> ?_
   rw [fS]
   split
   ·rename_i hc
    subst hc
    simp only [get,af hbl,Option.join_some] at hb
    rw [af hbl,hb]
   ·rfl
  rw [e] at key
  refine key I hS iC.refl (fun _ h=>h) (fun L h=> ?_)
  have:=(hS.blk b L _ h hb).2.2.2.2
  exact Classical.byContradiction fun hn=>by have:=this.2 hn;cases this
end Go.Av
namespace Go.Av
open Go.RowKit
open Go.Proofs.Tryz (prog)
theorem IL (E:List Sg) (hn:E.length<2^40):PC prog 42 [ssV E,ssV E] (.prim (.bool true)):=by
 refine PCi ?_
 conv in bL _ _=>cbv
 simp only [bM,RN,simprocAttr]
 simp (disch:=omega) only [↓RS,RZ,simprocAttr,ssV,eX]
 refine eG (fun (i:Nat) J=>ov [(0,ssV E),(1,ssV E),(4,.prim (.bool false)),(11,ssV E),(12,.prim (.int .i64 ((E.length:Nat):Int))),(13,.prim (.int .i64 ((i:Nat):Int)))] J 0 26) (fun i H=>i≤E.length∧H=[]) (fun i=>E.length-i) 0 rfl ⟨bh _,rfl⟩ ?_
 rintro i J _ ⟨hi,rfl⟩
 try conv in ov _ _ _ _=>simp only [ov,List.lookup,RO,simprocAttr]
 rcases am i E.length with hlt|hge
 ·have g1:=nF hlt
  have e:=Bp (E.getD i sg0)
  generalize E.getD i sg0=s at*
  simp only [sgc] at e
  simp (disch:=omega) only [↓RS,RZ,simprocAttr,ssV,eX,g1,sgc,e]
  exact bl (i+1) rfl ⟨hlt,rfl⟩ (by omega)
 ·have hia:i=E.length:=by omega
  subst hia
  simp (disch:=omega) only [↓RS,RZ,simprocAttr,ssV,eX]
theorem SH (t:Tri):eqA (aD prog) 9 62 (.agg (trc t)) (.agg (trc t))=some true:=by
 have h1:= @wJ (can t.a.x) (can t.a.y) (can t.a.x) (can t.a.y)
 have h2:= @wJ (can t.b.x) (can t.b.y) (can t.b.x) (can t.b.y)
 have h3:= @wJ (can t.c.x) (can t.c.y) (can t.c.x) (can t.c.y)
 rw [an ⟨rfl,rfl⟩] at h1 h2 h3
 unfold eqA
 simp only [trc,RT,eqA.eqFs,Bool.false_eq_true,if_false,String.reduceEq,eS,TK.isAgg,if_true,aC,aI,Nat.reduceAdd,Nat.reduceLeDiff,List.drop_zero,List.drop_succ_cons,List.take_succ_cons,List.take_zero,h1,h2,h3]
theorem ve (l:List Tri):(l.map trc).length=l.length:=az ..
theorem IK (E:List Tri) (hn:E.length<2^40):PC prog 51 [tsV E,tsV E] (.prim (.bool true)):=by
 refine PCi ?_
 conv in bL _ _=>cbv
 simp only [bM,RN,simprocAttr]
 simp (disch:=omega) only [↓RS,RZ,simprocAttr,tsV,ve]
 refine eG (fun (i:Nat) J=>ov [(0,tsV E),(1,tsV E),(4,.prim (.bool false)),(11,tsV E),(12,.prim (.int .i64 ((E.length:Nat):Int))),(13,.prim (.int .i64 ((i:Nat):Int)))] J 0 26) (fun i H=>i≤E.length∧H=[]) (fun i=>E.length-i) 0 rfl ⟨bh _,rfl⟩ ?_
 rintro i J _ ⟨hi,rfl⟩
 try conv in ov _ _ _ _=>simp only [ov,List.lookup,RO,simprocAttr]
 rcases am i E.length with hlt|hge
 ·have g1:=MK hlt
  have e:=SH (E.getD i tr0)
  generalize E.getD i tr0=s at*
  simp only [trc] at e
  simp (disch:=omega) only [↓RS,RZ,simprocAttr,tsV,ve,g1,trc,e]
  exact bl (i+1) rfl ⟨hlt,rfl⟩ (by omega)
 ·have hia:i=E.length:=by omega
  subst hia
  simp (disch:=omega) only [↓RS,RZ,simprocAttr,tsV,ve]
theorem P6:m5 ((sqL 0 4).map Pt.rp) []:=by
 have ck:Fu (sqL 0 4)=0:=by decide+kernel
 have rO:sR ((sqL 0 4).map Pt.rp)=0:=by rw [zJ (by decide) (by decide),ck]
 refine ⟨?_,Gd (hl_sq (by decide) (by decide)),fun l hl=>by cases hl⟩
 unfold Fr
 rw [if_neg (fun h=>h rO),if_neg (by decide)]
 exact su fun j hj=>absurd hj (Nat.not_lt_zero j)
theorem CT:PN (sqL 0 4) []:=by
 have:=P6.triang (by decide)
 rw [vg] at this
 exact this
theorem P7:gX (sqL 0 4) []=[⟨⟨((0:Int):Rat),((0:Int):Rat)⟩,⟨((4:Int):Rat),((4:Int):Rat)⟩⟩]:=by decide+kernel
theorem P5:oB (sqL 0 4) []=[⟨⟨((0:Int):Rat),((0:Int):Rat)⟩,⟨((4:Int):Rat),((4:Int):Rat)⟩,⟨((0:Int):Rat),((4:Int):Rat)⟩⟩,⟨⟨((0:Int):Rat),((0:Int):Rat)⟩,⟨((4:Int):Rat),((0:Int):Rat)⟩,⟨((4:Int):Rat),((4:Int):Rat)⟩⟩]:=by decide+kernel
theorem KX:sN (oB (sqL 0 4) [])=[⟨⟨((0:Int):Rat),((0:Int):Rat)⟩,⟨((4:Int):Rat),((0:Int):Rat)⟩,⟨((4:Int):Rat),((4:Int):Rat)⟩⟩,⟨⟨((0:Int):Rat),((0:Int):Rat)⟩,⟨((4:Int):Rat),((4:Int):Rat)⟩,⟨((0:Int):Rat),((4:Int):Rat)⟩⟩]:=by
 refine Kx ((rk _).trans ?_) (F5 _) ?_
 ·rw [P5];exact List.Perm.swap _ _ _
 ·rw [qo]
  refine ⟨fun t ht=> ?_,List.pairwise_singleton _ _⟩
  rw [bH.1 ht]
  decide+kernel
theorem CM {H:Hp} {m:Bool} {E:List (List V)} (hE:E.length=4) (hp:BQ E) (hg:get H 0=some (.row 6 m E)):ii H [.agg [.sref 0 0 4 4 6 true,.prim (.slice none 0 0)]]=some [.agg [.lst 6 E,.prim (.slice none 0 0)]]:=by
 have h:= @kB H 6 E hp
 have ht:E.take 4=E:=List.take_of_length_le (by omega)
 simp only [ii,view,view.viewL,hg,aX,hE,ax,if_true,List.drop_zero,ht,h,bj]
theorem Jb:PC prog 10 [] (.prim (.bool true)):=by
 have d:=CT.d
 have b:=CT.b
 rw [P7,lsV,if_neg (by simp)] at d
 rw [KX] at b
 have d:PC prog 11 [.agg [psV (sqL 0 4),.prim (.slice none 0 0)]] _:=KF d
 rw [ssV] at d
 have b:PC prog 23 [.agg [psV (sqL 0 4),.prim (.slice none 0 0)]] _:=KF b
 rw [tsV] at b
 have v0:=Es 0 0 (by decide) (by decide)
 have v1:=Es 4 0 (by decide) (by decide)
 have v2:=Es 4 4 (by decide) (by decide)
 have v3:=Es 0 4 (by decide) (by decide)
 have e1:=IL [⟨⟨((0:Int):Rat),((0:Int):Rat)⟩,⟨((4:Int):Rat),((4:Int):Rat)⟩⟩] (by simp only [aC,aI];omega)
 have e2:=IK [⟨⟨((0:Int):Rat),((0:Int):Rat)⟩,⟨((4:Int):Rat),((0:Int):Rat)⟩,⟨((4:Int):Rat),((4:Int):Rat)⟩⟩,
  ⟨⟨((0:Int):Rat),((0:Int):Rat)⟩,⟨((4:Int):Rat),((4:Int):Rat)⟩,⟨((0:Int):Rat),((4:Int):Rat)⟩⟩] (by simp only [aC,aI];omega)
 refine PCi ?_
 conv in bL _ _=>cbv
 simp only [bM,RN,simprocAttr]
 simp (disch:=omega) only [↓RS,RZ,simprocAttr]
 refine cX v0 ?_
 simp (disch:=omega) only [↓RS,RZ,simprocAttr,pV,ptV]
 refine cX v1 ?_
 simp (disch:=omega) only [↓RS,RZ,simprocAttr,pV,ptV]
 refine cX v2 ?_
 simp (disch:=omega) only [↓RS,RZ,simprocAttr,pV,ptV]
 refine cX v3 ?_
 simp (disch:=omega) only [↓RS,RZ,simprocAttr,pV,ptV]
 refine bI (KD (b:=0) rfl (CM rfl (tf (sqL 0 4)) rfl) d ?_)
 simp (disch:=omega) only [↓RS,RZ,simprocAttr,pV,ptV]
 refine bI (KD (b:=0) rfl (CM rfl (tf (sqL 0 4)) rfl) b ?_)
 simp (disch:=omega) only [↓RS,RZ,simprocAttr,pV,ptV]
 refine cX v0 ?_
 simp (disch:=omega) only [↓RS,RZ,simprocAttr,pV,ptV]
 refine cX v1 ?_
 simp (disch:=omega) only [↓RS,RZ,simprocAttr,pV,ptV]
 refine cX v2 ?_
 simp (disch:=omega) only [↓RS,RZ,simprocAttr,pV,ptV]
 refine cX v0 ?_
 simp (disch:=omega) only [↓RS,RZ,simprocAttr,pV,ptV]
 refine cX v2 ?_
 simp (disch:=omega) only [↓RS,RZ,simprocAttr,pV,ptV]
 refine cX v3 ?_
 simp (disch:=omega) only [↓RS,RZ,simprocAttr,pV,ptV]
 refine cX v0 ?_
 simp (disch:=omega) only [↓RS,RZ,simprocAttr,pV,ptV]
 refine cX v2 ?_
 simp (disch:=omega) only [↓RS,RZ,simprocAttr,pV,ptV,ssV,sgc]
 refine cX e1 ?_
 simp (disch:=omega) only [↓RS,RZ,simprocAttr,tsV,trc]
 refine cX e2 ?_
 simp (disch:=omega) only [↓RS,RZ,simprocAttr]
end Go.Av
