/- Helping texts: Df, Dg, Dh, Di. -/
import Derived.Test.YtkmlhdfpcjkekaaGreatKDa
import Derived.Test.YtkmlhdfpcjkekaaGreatKCt
set_option linter.unusedSimpArgs false
set_option linter.unusedVariables false
set_option maxRecDepth 100000
set_option maxHeartbeats 16000000
namespace Go.Av
open Go.RowKit
open Go.Proofs.Tryz (prog)
def nx (L:List Pt) (i:Nat):Pt:=L.getD ((i+1)%L.length) default
theorem wL (L:List Pt) {H:Hp} {K:V→Hp→Prop} (hK:K (.clo 244 [] [.ptr H.length 0 0]) (H++[some (.row 1 true [[psV L]])])):SC prog 191 [psV L] H K:=by
 refine SCi ?_
 conv in bL _ _=>cbv
 simp only [bM,RN,simprocAttr]
 simp (disch:=omega) only [↓RS,RZ,simprocAttr,psV]
 exact hK
theorem uF (L:List Pt) (hn:L.length<2^40) {yb b:Nat} {H:Hp} {K:V→Hp→Prop} (Inv:Nat→Hp→Prop) (Fin:Hp→Prop)
 (hbox:∀ i H,Inv i H→get H b=some (.row 1 true [[psV L]])) (hpad:∀ i H k,Inv i H→Inv i (H++[k]))
 (step:∀ i H,i<L.length→Inv i H→YC prog yb [pV (L.getD i default),pV (nx L i)] H (yQ (Inv (i+1)) Fin))
 (h0:Inv 0 H) (hK:∀ v H,Inv L.length H→K v H) (hF:∀ v H,Fin H→K v H):SC prog 244 [.yld yb,.ptr b 0 0] H K:=by
 refine SCi ?_
 conv in bL _ _=>cbv
 simp only [bM,RN,simprocAttr]
 have hb:=hbox 0 H h0
 simp (disch:=omega) only [↓RS,RZ,simprocAttr,hb,psV,cU]
 refine eG (fun (i:Nat) J=>ov [(0,.yld yb),(1,.ptr b 0 0),(5,psV L),(6,.prim (.int .i64 ((L.length:Nat):Int))),(7,.prim (.int .i64 ((i:Nat):Int)))] J 0 25) (fun i H=>i≤L.length∧Inv i H) (fun i=>L.length-i) 0 rfl ⟨bh _,h0⟩ ?_
 rintro i J H ⟨hi,hv⟩
 try conv in ov _ _ _ _=>simp only [ov,List.lookup,RO,simprocAttr]
 rcases am i L.length with hlt|hge
 ·have g1:=lj hlt
  have m2:=Nat.mod_lt (i+1) (show 0<L.length by omega)
  have g2:=lj m2
  have hb:=hbox i H hv
  have hb1:∀ k,get (H++[k]) b=some (.row 1 true [[psV L]]):=fun k=>aO hb
  have st:=step i _ hlt (hpad i H (some (.row 6 true [pc (L.getD i default)])) hv)
  simp (disch:=omega) only [↓RS,RZ,simprocAttr,psV,cU,g1,g2,pc,hb,hb1,aZ,Jq]
  refine YC.mono ?_ st
  rintro v H' (⟨rfl,h⟩|⟨rfl,h⟩)
  ·simp (disch:=omega) only [↓RS,RZ,simprocAttr]
   exact bl (i+1) rfl ⟨hlt,h⟩ (by omega)
  ·simp (disch:=omega) only [↓RS,RZ,simprocAttr]
   exact hF _ _ h
 ·have hia:i=L.length:=by omega
  subst hia
  simp (disch:=omega) only [↓RS,RZ,simprocAttr,psV,cU]
  exact hK _ _ hv
def b9 (L:List Pt) (i:Nat):Sg:=⟨L.getD i default,nx L i⟩
def sgc (s:Sg):List V:=[.prim (.bool (can s.a.x).neg),.prim (.string (bs ((can s.a.x).num))),.prim (.string (bs ((can s.a.x).den))),.prim (.bool (can s.a.y).neg),.prim (.string (bs ((can s.a.y).num))),.prim (.string (bs ((can s.a.y).den))),.prim (.bool (can s.b.x).neg),.prim (.string (bs ((can s.b.x).num))),.prim (.string (bs ((can s.b.x).den))),.prim (.bool (can s.b.y).neg),.prim (.string (bs ((can s.b.y).num))),.prim (.string (bs ((can s.b.y).den)))]
def ssV (l:List Sg):V:= .lst 12 (l.map sgc)
def aU (L:List Pt):List Sg:=(List.range L.length).map (b9 L)
theorem uw (l:List Sg):BQ (l.map sgc):=by
 intro e he v hv
 obtain ⟨s,_,rfl⟩:=av.1 he
 simp only [sgc,ay,List.not_mem_nil,or_false] at hv
 rcases hv with h|h|h|h|h|h|h|h|h|h|h|h<;>exact ⟨_,h⟩
theorem Af {α:Type} (f:Nat→α) (i:Nat):(List.range (i+1)).map f=(List.range i).map f++[f i]:=by rw [List.range_succ,bz];rfl
theorem wW (L:List Pt) (hn:L.length≤2^30) (hne:L≠[]):PC prog 129 [psV L] (ssV (aU L)):=by
 refine PCi ?_
 conv in bL _ _=>cbv
 simp only [bM,RN,simprocAttr]
 simp (disch:=omega) only [↓RS,RZ,simprocAttr,psV]
 refine bI (wL L ?_)
 simp (disch:=omega) only [↓RS,RZ,simprocAttr,psV]
 refine vI rE (n:=2) (k:=2) rfl rfl rfl (by kernel_rfl) ?_
 conv in lcC _=>cbv
 conv in lcC _=>cbv
 intro R B D hR hyc
 simp only [List.nil_append,List.cons_append] at hyc ⊢
 refine uF L (by omega) (fun i H=>∃ v,get H 0=some (.row 1 true [[v]])∧get H 1=some (.row 1 true [[psV L]])∧get H 2=some R∧kP 3 H v 12 (((List.range i).map (b9 L)).map sgc)) (fun _=>False) ?_ ?_ ?_ ?_ ?_ ?_
 ·rintro i H ⟨v,h⟩;exact h.2.1
 ·rintro i H k ⟨v,h0,h1,h2,h3⟩;exact ⟨v,aO h0,aO h1,aO h2,h3.app _⟩
 ·rintro i H hlt ⟨v,h0,h1,h2,h3⟩
  refine hyc _ _ _ rfl h2 ?_
  have hN:=h3.1
  simp (disch:=omega) only [↓RS,RZ,simprocAttr,pV,ptV,kR,lR,aZ,pG]
  rw [lV]
  refine ⟨by rw [tM (by omega)];exact h2,?_⟩
  obtain ⟨H1,e,f,k2,k3,k4,k5⟩:=vS (H:=H) (b:=2) (x:=some (.row 6 true [pc (L.getD i default)])) (y:=some (.row 6 true [pc (nx L i)])) (z:=some B) (by omega)
  have q0:get H1 0=some (.row 1 true [[v]]):=by rw [f 0 (by omega) (by omega)];exact h0
  have q1:get H1 1=some (.row 1 true [[psV L]]):=by rw [f 1 (by omega) (by omega)];exact h1
  have q3:kP 3 H1 v 12 (((List.range i).map (b9 L)).map sgc):=by rw [←e];exact ((h3.app _).app _).set (by omega)
  simp only [pc] at e k3 k4
  rw [e]
  simp (disch:=omega) only [↓RS,RZ,simprocAttr,q0,k3,k4]
  refine kP.append (q3.app _) (by simp [ku]) (by simp only [aC,aI,az,zd];omega) (by simp only [aC,aI,az,zd];omega) ?_
  intro v' H2 hb hk
  have r0:=hk 0 _ (by omega) (aO q0)
  have r1:=hk 1 _ (by omega) (aO q1)
  have r2:=hk 2 _ (by omega) (aO k2)
  have c1:=hb.one
  have c2:=hb.cel
  simp (disch:=omega) only [↓RS,RZ,simprocAttr,r0,c1,c2]
  rw [k6]
  refine ⟨by rw [bd (by omega)];exact r2,.inl ⟨rfl,v',?_,?_,?_,?_⟩⟩
  ·rw [bd (by omega),dF (by have:=hb.1;omega)]
  ·rw [bd (by omega),bd (by omega)];exact r1
  ·rw [dF (by rw [cO];have:=hb.1;omega)]
  ·rw [Af,bz]
   exact (hb.set (by omega)).set (by omega)
 ·exact ⟨_,rfl,rfl,rfl,.nil (by simp)⟩
 ·rintro v H ⟨u,h0,h1,h2,h3⟩
  refine .inl ⟨h2,?_⟩
  have e0:get (H.set 2 none) 0=some (.row 1 true [[u]]):=by rw [bd (by omega)];exact h0
  obtain ⟨b,hb,rfl,hg⟩:=h3.cases (by simpa using hne)
  have e1:get (H.set 2 none) b=some (.row 12 true (((List.range L.length).map (b9 L)).map sgc)):=by rw [bd (by omega)];exact hg
  have hvl:= @kB (H.set 2 none) 7 _ (uw ((List.range L.length).map (b9 L)))
  have hlen:(((List.range L.length).map (b9 L)).map sgc).length=L.length:=by simp
  have htk:(((List.range L.length).map (b9 L)).map sgc).take L.length=((List.range L.length).map (b9 L)).map sgc:=by rw [List.take_of_length_le (by omega)]
  simp (disch:=omega) only [↓RS,RZ,simprocAttr,e0,hlen]
  rw [e1]
  simp only [hlen,ax,if_true,htk]
  rw [hvl]
  rfl
 ·exact fun _ _ h=>h.elim
end Go.Av
namespace Go.Av
open Go.RowKit
open Go.Proofs.Tryz (prog)
theorem fD (L:List Pt):(aU L).length=L.length:=by simp [aU]
theorem eX (l:List Sg):(l.map sgc).length=l.length:=az ..
theorem sA {L:List Pt} {i:Nat} (h:i<L.length):((aU L).map sgc).getD i []=sgc (b9 L i):=by
 unfold aU
 rw [ae,aW,aW,List.getElem?_range h];rfl
theorem GW {L:List Pt} {k i:Nat} (h:hl L k) (hi:i<L.length):hp (nx L i)≤k:=od h (Nat.mod_lt _ (by omega))
theorem AJ {L:List Pt} {k i:Nat} (h:hl L k) (hi:i<L.length):hs (b9 L i)≤k:=wz (od h hi) (GW h hi)
def mw (L:List Pt) (i k:Nat):Bool:=decide (i+2≤k)&&(!(decide (i=0)&&decide (k=L.length-1))&&(iI (b9 L i) (b9 L k)).isSome)
def crossB (L:List Pt):Bool:=(List.range L.length).any fun i=>(List.range L.length).any fun k=>mw L i k
theorem tY {L:List Pt} {i k:Nat} (hi:i<L.length) (hk:k<L.length) (h:mw L i k=true):crossB L=true:=
 List.any_eq_true.2 ⟨i,by simpa using hi,List.any_eq_true.2 ⟨k,by simpa using hk,h⟩⟩
theorem wO {L:List Pt} (h:∀ i,i<L.length→∀ k,k<L.length→mw L i k=false):crossB L=false:=by
 unfold crossB
 rw [List.any_eq_false]
 intro i hi
 simp only [dz] at hi
 rw [Bool.not_eq_true,List.any_eq_false]
 intro k hk
 simp only [dz] at hk
 simp [h i hi k hk]
theorem Bv {L:List Pt} (h:crossB L=false) {i k:Nat} (hi:i<L.length) (hk:k<L.length):mw L i k=false:=by
 cases h2:mw L i k with
 |false=>rfl
 |true=>rw [tY hi hk h2] at h;cases h
theorem He (L:List Pt) (hn:L.length≤2^20) (hne:L≠[]) (hL:hl L (2^20)):PC prog 178 [psV L] (.prim (.bool (crossB L))):=by
 have hpos:0<L.length:=List.length_pos_iff.2 hne
 refine PCi ?_
 conv in bL _ _=>cbv
 simp only [bM,RN,simprocAttr]
 have e:=wW L (by omega) hne
 simp (disch:=omega) only [↓RS,RZ,simprocAttr,psV]
 refine cX e ?_
 simp (disch:=omega) only [↓RS,RZ,simprocAttr,ssV,eX,fD]
 refine eG (fun (i:Nat) J=>ov [(3,ssV (aU L)),(4,.prim (.int .i64 ((L.length:Nat):Int))),(15,.prim (.int .i64 ((L.length:Nat):Int))),(16,.prim (.int .i64 ((i:Nat):Int)))] J 0 49) (fun i _=>i≤L.length∧∀ j,j<i→∀ k,k<L.length→mw L j k=false) (fun i=>L.length-i) 0 rfl ⟨bh _,fun j hj=>absurd hj (Nat.not_lt_zero j)⟩ ?_
 rintro i J H ⟨hi,hp⟩
 try conv in ov _ _ _ _=>simp only [ov,List.lookup,RO,simprocAttr]
 rcases am i L.length with hlt|hge
 ·simp (disch:=omega) only [↓RS,RZ,simprocAttr,ssV,eX,fD]
  refine eG (fun (k:Nat) J=>ov [(3,ssV (aU L)),(4,.prim (.int .i64 ((L.length:Nat):Int))),(5,.prim (.int .i64 ((i:Nat):Int))),(6,.prim (.int .i64 ((k:Nat):Int))),(15,.prim (.int .i64 ((L.length:Nat):Int))),(16,.prim (.int .i64 ((i:Nat):Int)))] J 0 49) (fun k _=>i+2≤k∧∀ j,j<k→j<L.length→mw L i j=false) (fun k=>L.length-k) (i+2) rfl ⟨ax _,fun j hj _=>by
   unfold mw;rw [ak (by omega)];rfl⟩ ?_
  rintro k J H ⟨hk,hq⟩
  try conv in ov _ _ _ _=>simp only [ov,List.lookup,RO,simprocAttr]
  rcases am k L.length with hkl|hkg
  ·have g1:=sA hlt
   have g2:=sA hkl
   have m:=BP (b9 L i) (b9 L k) (AJ hL hlt) (AJ hL hkl)
   by_cases hz:i=0∧k=L.length-1
   ·obtain ⟨rfl,hz⟩:=hz
    simp (disch:=omega) only [↓RS,RZ,simprocAttr,ssV,eX,fD]
    exact bl (k+1) rfl ⟨by omega,fun j hj hjl=>by
     rcases am j k with h|h
     ·exact hq j h hjl
     ·unfold mw;rw [an (show j=L.length-1 by omega)];simp⟩ (by omega)
   ·have fin:∀ b,(iI (b9 L i) (b9 L k)).isSome=b→mw L i k=b:=by
     intro b hb
     unfold mw
     rw [hb,an hk,←Bool.decide_and,ak hz];simp
    by_cases hi0:i=0
    ·subst hi0
     have hk1:k≠L.length-1:=fun h=>hz ⟨rfl,h⟩
     simp (disch:=omega) only [↓RS,RZ,simprocAttr,ssV,eX,fD,g1,g2,sgc,aZ]
     refine cX m ?_
     cases hm:(iI (b9 L 0) (b9 L k)).isSome with
     |true=>
      rw [tY hlt hkl (fin _ hm)]
      simp (disch:=omega) only [↓RS,RZ,simprocAttr,sgV,s4V,aZ]
     |false=>
      simp (disch:=omega) only [↓RS,RZ,simprocAttr,sgV,s4V,aZ]
      exact bl (k+1) rfl ⟨by omega,fun j hj hjl=>by
       rcases am j k with h|h
       ·exact hq j h hjl
       ·rw [show j=k by omega];exact fin _ hm⟩ (by omega)
    ·simp (disch:=omega) only [↓RS,RZ,simprocAttr,ssV,eX,fD,g1,g2,sgc,aZ]
     refine cX m ?_
     cases hm:(iI (b9 L i) (b9 L k)).isSome with
     |true=>
      rw [tY hlt hkl (fin _ hm)]
      simp (disch:=omega) only [↓RS,RZ,simprocAttr,sgV,s4V,aZ]
     |false=>
      simp (disch:=omega) only [↓RS,RZ,simprocAttr,sgV,s4V,aZ]
      exact bl (k+1) rfl ⟨by omega,fun j hj hjl=>by
       rcases am j k with h|h
       ·exact hq j h hjl
       ·rw [show j=k by omega];exact fin _ hm⟩ (by omega)
  ·simp (disch:=omega) only [↓RS,RZ,simprocAttr]
   exact bl (i+1) rfl ⟨hlt,fun j hj k' hk'=>by
    rcases am j i with h|h
    ·exact hp j h k' hk'
    ·rw [show j=i by omega];exact hq k' (by omega) hk'⟩ (by omega)
 ·have hia:i=L.length:=by omega
  subst hia
  rw [wO hp]
  simp (disch:=omega) only [↓RS,RZ,simprocAttr,ssV,eX,fD]
end Go.Av
namespace Go.Av
open Go.RowKit
open Go.Proofs.Tryz (prog)
def qc (q:Rat):List V:=[.prim (.bool (can q).neg),.prim (.string (bs ((can q).num))),.prim (.string (bs ((can q).den)))]
def mY (L:List Pt):Nat→Rat
 |0=>0
 |i+1=>mY L i+cross (L.getD i default) (nx L i)
def jB (L:List Pt):Rat:=mY L L.length/2
theorem xG {L:List Pt} {k:Nat} (h:hl L k):∀ i,i≤L.length→ht (mY L i)≤i*(4*k+2)+1
 |0,_=>by simpa [mY] using EX
 |i+1,hi=>by
  have h1:=xG h i (by omega)
  have h2:=EY (mY L i) (cross (L.getD i default) (nx L i))
  have h3:=ob (L.getD i default) (nx L i)
  have h4:=od h (show i<L.length by omega)
  have h5:=GW h (show i<L.length by omega)
  unfold mY
  rw [Nat.add_mul]
  omega
theorem IB:ht 2≤1:= @tI 2 (by omega)
theorem Rw (L:List Pt) (hn:L.length≤2^10) (hL:hl L (2^16)):PC prog 174 [psV L] (qV (jB L)):=by
 have ha:∀ i,i≤L.length→ht (mY L i)≤2^29:=fun i hi=>by
  have:=xG hL i hi
  have h2:i*(4*2^16+2)≤2^10*(4*2^16+2):=aS _ (by omega)
  omega
 refine PCi ?_
 conv in bL _ _=>cbv
 simp only [bM,RN,simprocAttr]
 simp (disch:=omega) only [↓RS,RZ,simprocAttr,psV]
 refine bI (wL L ?_)
 simp (disch:=omega) only [↓RS,RZ,simprocAttr,psV]
 refine vI rE (n:=3) (k:=2) rfl rfl rfl (by kernel_rfl) ?_
 conv in lcC _=>cbv
 conv in lcC _=>cbv
 intro R B D hR hyc
 simp only [List.nil_append,List.cons_append] at hyc ⊢
 refine uF L (by omega) (fun i H=>get H 0=some (.row 3 true [qc 0])∧get H 1=some (.row 3 true [qc (mY L i)])∧get H 2=some (.row 1 true [[psV L]])∧get H 3=some R) (fun _=>False) ?_ ?_ ?_ ?_ ?_ ?_
 ·rintro i H ⟨_,_,h,_⟩;exact h
 ·rintro i H k ⟨h0,h1,h2,h3⟩;exact ⟨aO h0,aO h1,aO h2,aO h3⟩
 ·rintro i H hlt ⟨h0,h1,h2,h3⟩
  have hN:=bF h3
  refine hyc _ _ _ rfl h3 ?_
  simp (disch:=omega) only [↓RS,RZ,simprocAttr,pV,ptV,kR,lR,aZ,pG]
  rw [lV]
  refine ⟨by rw [tM hN];exact h3,?_⟩
  obtain ⟨H1,e,f,k2,k3,k4,k5⟩:=vS (H:=H) (b:=3) (x:=some (.row 6 true [pc (L.getD i default)])) (y:=some (.row 6 true [pc (nx L i)])) (z:=some B) hN
  have q0:get H1 0=some (.row 3 true [qc 0]):=by rw [f 0 (by omega) (by omega)];exact h0
  have q1:get H1 1=some (.row 3 true [qc (mY L i)]):=by rw [f 1 (by omega) (by omega)];exact h1
  have q2:get H1 2=some (.row 1 true [[psV L]]):=by rw [f 2 (by omega) (by omega)];exact h2
  simp only [pc] at e k3 k4
  rw [e]
  have b1:=od hL hlt
  have b2:=GW hL hlt
  have b3:=ha i (by omega)
  have b4:=ob (L.getD i default) (nx L i)
  have c:=pR (L.getD i default) (nx L i) (by omega) (by omega)
  have a:=FD (mY L i) (cross (L.getD i default) (nx L i)) (by omega) (by omega)
  simp (disch:=omega) only [↓RS,RZ,simprocAttr,q1,k3,k4,qc]
  refine cX c ?_
  simp (disch:=omega) only [↓RS,RZ,simprocAttr,qV,rV]
  refine cX a ?_
  simp (disch:=omega) only [↓RS,RZ,simprocAttr,qV,rV,q1,qc]
  rw [k6]
  refine ⟨by rw [bd (by omega)];exact k2,.inl ⟨rfl,?_,?_,?_,?_⟩⟩
  ·rw [bd (by omega),bd (by omega)];exact q0
  ·rw [bd (by omega),dF (by omega)];rfl
  ·rw [bd (by omega),bd (by omega)];exact q2
  ·rw [dF (by rw [cO];omega)]
 ·have hz:qc 0=[.prim (.bool false),.prim (.string (bs ([]))),.prim (.string (bs ([])))]:=by simp only [qc,rP]
  have hz2:qc (mY L 0)=[.prim (.bool false),.prim (.string (bs ([]))),.prim (.string (bs ([])))]:=hz
  rw [hz,hz2]
  exact ⟨rfl,rfl,rfl,rfl⟩
 ·rintro v H ⟨h0,h1,h2,h3⟩
  have hN:=bF h3
  refine .inl ⟨h3,?_⟩
  have e0:get (H.set 3 none) 0=some (.row 3 true [qc 0]):=by rw [bd (by omega)];exact h0
  have e1:get (H.set 3 none) 1=some (.row 3 true [qc (mY L L.length)]):=by rw [bd (by omega)];exact h1
  have hH:2<(H.set 3 none).length:=by rw [cO];omega
  generalize H.set 3 none=H1 at e0 e1 hH ⊢
  have o:=EP 2 (by omega) (by omega)
  have q:=EH (mY L L.length) 2 (by have:=ha _ (ax L.length);omega) (by have:=IB;omega) (by decide+kernel)
  simp (disch:=omega) only [↓RS,RZ,simprocAttr,e1,qc]
  refine cX o ?_
  simp (disch:=omega) only [↓RS,RZ,simprocAttr,qV,rV,e1,qc]
  refine cX q ?_
  have hne:(H1.length==1)=false:=by rw [beq_eq_false_iff_ne];omega
  have g0:∀ x,get (H1++[x]) 0=some (.row 3 true [qc 0]):=fun x=>aO e0
  have g1:∀ x y,get ((H1++[x]).set 0 y) 0=y:=fun x y=>dF (by rw [aK];omega)
  simp (disch:=omega) only [↓RS,RZ,simprocAttr,qV,rV,hne,aZ,g0,g1,qc]
  rfl
 ·exact fun _ _ h=>h.elim
end Go.Av
namespace Go.Av
open Go.RowKit
open Go.Proofs.Tryz (prog)
def qn (p q:Pt):Bool:=decide (0<jV q.y p.y)
theorem uc (p q:Pt) (h1:hp p≤2^26) (h2:hp q≤2^26) {b:Nat} {H:Hp} {K:V→Hp→Prop} (hb:get H b=some (.row 6 true [pc p])) (hK:∀ H',Ext H H'→K (.prim (.bool (qn p q))) H'):
 SC prog 245 [pV q,.ptr b 0 0] H K:=by
 have hb1:∀ k,get (H++[k]) b=some (.row 6 true [pc p]):=fun k=>aO hb
 have a1:=rG p;have a2:=rG q
 have c:=zH q.y p.y (by omega) (by omega)
 refine SCi ?_
 conv in bL _ _=>cbv
 simp only [bM,RN,simprocAttr]
 have hlt:qn p q=decide (0<jV q.y p.y):=rfl
 simp (disch:=omega) only [↓RS,RZ,simprocAttr,pV,ptV,hb1,pc]
 refine cX c ?_
 cases h:qn p q with
 |true=>
  rw [hlt,aE] at h
  have:=hK _ (Ext.app [some (.row 6 true [pc q])])
  simp (disch:=omega) only [↓RS,RZ,simprocAttr]
  rw [hlt,an h] at this
  exact this
 |false=>
  rw [hlt,aG] at h
  have:=hK _ (Ext.app [some (.row 6 true [pc q])])
  simp (disch:=omega) only [↓RS,RZ,simprocAttr]
  rw [hlt,ak h] at this
  exact this
def pJ (p a b:Pt) (out:Bool):Bool:=
 if qn p a then (if !qn p b&&decide (0<fB b a p) then !out else out) else if qn p b&&decide (0<fB a b p) then !out else out
def bW (L:List Pt) (p:Pt):Nat→Bool
 |0=>false
 |i+1=>pJ p (L.getD i default) (nx L i) (bW L p i)
def NZ (L:List Pt) (p:Pt) (R:Blk) (i:Nat) (H:Hp):Prop:=
 get H 0=some (.row 6 true [pc p])∧get H 1=some (.row 1 true [[.clo 245 [] [.ptr 0 0 0]]])∧get H 2=some (.row 1 true [[.prim (.bool (bW L p i))]])∧get H 3=some (.row 1 true [[psV L]])∧get H 4=some R
theorem St (L:List Pt) (p:Pt) (hn:L.length≤2^30) (hL:hl L (2^20)) (hp0:hp p≤2^20):PC prog 192 [psV L,pV p] (.prim (.bool (bW L p L.length))):=by
 refine PCi ?_
 conv in bL _ _=>cbv
 simp only [bM,RN,simprocAttr]
 simp (disch:=omega) only [↓RS,RZ,simprocAttr,psV,pV,ptV]
 refine bI (wL L ?_)
 simp (disch:=omega) only [↓RS,RZ,simprocAttr,psV]
 refine vI rE (n:=4) (k:=2) rfl rfl rfl (by kernel_rfl) ?_
 conv in lcC _=>cbv
 conv in lcC _=>cbv
 intro R B D hR hyc
 simp only [List.nil_append,List.cons_append] at hyc ⊢
 refine uF L (by omega) (NZ L p R) (fun _=>False) ?_ ?_ ?_ ?_ ?_ ?_
 ·rintro i H h;exact h.2.2.2.1
 ·rintro i H k ⟨h0,h1,h2,h3,h4⟩;exact ⟨aO h0,aO h1,aO h2,aO h3,aO h4⟩
 ·rintro i H hlt ⟨h0,h1,h2,h3,h4⟩
  have hN:=bF h4
  refine hyc _ _ _ rfl h4 ?_
  clear hyc
  simp (disch:=omega) only [↓RS,RZ,simprocAttr,pV,ptV,kR,lR,aZ,pG]
  rw [lV]
  refine ⟨by rw [tM hN];exact h4,?_⟩
  obtain ⟨H1,e,f,g4,gn1,gn2,k5⟩:=vS (H:=H) (b:=4) (x:=some (.row 6 true [pc (L.getD i default)])) (y:=some (.row 6 true [pc (nx L i)])) (z:=some B) hN
  have g0:get H1 0=some (.row 6 true [pc p]):=by rw [f 0 (by omega) (by omega)];exact h0
  have g1:get H1 1=some (.row 1 true [[.clo 245 [] [.ptr 0 0 0]]]):=by rw [f 1 (by omega) (by omega)];exact h1
  have g2:get H1 2=some (.row 1 true [[.prim (.bool (bW L p i))]]):=by rw [f 2 (by omega) (by omega)];exact h2
  have g3:get H1 3=some (.row 1 true [[psV L]]):=by rw [f 3 (by omega) (by omega)];exact h3
  have hn2:(H++[some (Blk.row 6 true [pc (L.getD i default)])]).length=H.length+1:=by rw [aK];rfl
  have hn1:5≤H.length:=hN
  simp only [pc] at e gn2 hn2
  rw [e]
  clear e f h0 h1 h2 h3 h4 hN
  generalize (H++[some (Blk.row 6 true [_])]).length=n2 at gn2 hn2 ⊢
  generalize H.length=n1 at gn1 hn1 hn2 k5 ⊢
  have gn2:get H1 n2=some (.row 6 true [pc (nx L i)]):=gn2
  have b1:=od hL hlt
  have b2:=GW hL hlt
  have o1:=l6 (L.getD i default) (nx L i) p (by omega) (by omega) (by omega)
  have o2:=l6 (nx L i) (L.getD i default) p (by omega) (by omega) (by omega)
  have fin:∀ (T:List V) (H':Hp) (o:Bool),get H' 0=some (.row 6 true [pc p])→get H' 1=some (.row 1 true [[.clo 245 [] [.ptr 0 0 0]]])→get H' 2=some (.row 1 true [[.prim (.bool o)]])→get H' 3=some (.row 1 true [[psV L]])→get H' 4=some B→
   bW L p (i+1)=o→rdQ 4 R B D (yQ (NZ L p R (i+1)) (fun _=>False)) .normal T H':=by
   rintro T H' o x0 x1 x2 x3 x4 rfl
   rw [k6]
   exact ⟨x4,.inl ⟨rfl,by rw [bd (by omega)];exact x0,by rw [bd (by omega)];exact x1,by rw [bd (by omega)];exact x2,by rw [bd (by omega)];exact x3,dF (bF x4)⟩⟩
  simp (disch:=omega) only [↓RS,RZ,simprocAttr,g1,gn1,pc]
  refine bI (uc p (L.getD i default) (by omega) (by omega) g0 ?_)
  intro H2 hE
  have q0:=hE.get g0
  have q1:=hE.get g1
  have q2:=hE.get g2
  have q3:=hE.get g3
  have q4:=hE.get g4
  have qn1:=hE.get gn1
  have qn2:=hE.get gn2
  clear g0 g1 g2 g3 g4 gn1 gn2 k5
  cases ha:qn p (L.getD i default) with
  |true=>
   have l1:=bF qn1
   have l2:=bF qn2
   have s1:∀ x y,get ((H2.set n1 x).set n2 y) n1=x:=fun x y=>by rw [bd (by omega),dF l1]
   have s2:∀ x y,get ((H2.set n1 x).set n2 y) n2=y:=fun x y=>dF (by rw [cO];exact l2)
   simp (disch:=omega) only [↓RS,RZ,simprocAttr,q1,qn1,qn2,pc,bd,s1,s2]
   generalize hH3:(H2.set n1 _).set n2 _=H3
   have t0:get H3 0=some (.row 6 true [pc p]):=by rw [←hH3,bd (by omega),bd (by omega)];exact q0
   have t1:get H3 1=some (.row 1 true [[.clo 245 [] [.ptr 0 0 0]]]):=by rw [←hH3,bd (by omega),bd (by omega)];exact q1
   have t2:get H3 2=some (.row 1 true [[.prim (.bool (bW L p i))]]):=by rw [←hH3,bd (by omega),bd (by omega)];exact q2
   have t3:get H3 3=some (.row 1 true [[psV L]]):=by rw [←hH3,bd (by omega),bd (by omega)];exact q3
   have t4:get H3 4=some B:=by rw [←hH3,bd (by omega),bd (by omega)];exact q4
   have tn1:get H3 n1=some (.row 6 true [pc (nx L i)]):=by rw [←hH3];exact s1 _ _
   have tn2:get H3 n2=some (.row 6 true [pc (L.getD i default)]):=by rw [←hH3];exact s2 _ _
   clear hH3 s1 s2 q0 q1 q2 q3 q4 qn1 qn2 l1 l2 hE
   refine bI (uc p (nx L i) (by omega) (by omega) t0 ?_)
   intro H4 hE2
   have u0:=hE2.get t0
   have u1:=hE2.get t1
   have u2:=hE2.get t2
   have u3:=hE2.get t3
   have u4:=hE2.get t4
   have un1:=hE2.get tn1
   have un2:=hE2.get tn2
   clear t0 t1 t2 t3 t4 tn1 tn2 hE2
   cases hb:qn p (nx L i) with
   |true=>
    simp (disch:=omega) only [↓RS,RZ,simprocAttr]
    exact fin _ _ _ u0 u1 u2 u3 u4 (by simp only [bW,pJ,ha,hb,Bool.not_true,Bool.not_false,Bool.false_and,Bool.true_and,decide_true,decide_false,Bool.false_eq_true,if_true,if_false,Bool.and_false])
   |false=>
    simp (disch:=omega) only [↓RS,RZ,simprocAttr,u1,un2,pc]
    refine bI (uc p (L.getD i default) (by omega) (by omega) u0 ?_)
    intro H5 hE3
    have w0:=hE3.get u0
    have w1:=hE3.get u1
    have w2:=hE3.get u2
    have w3:=hE3.get u3
    have w4:=hE3.get u4
    have wn1:=hE3.get un1
    have wn2:=hE3.get un2
    rw [ha]
    simp (disch:=omega) only [↓RS,RZ,simprocAttr,w0,wn1,wn2,pc]
    refine cX o2 ?_
    by_cases ho:0<fB (nx L i) (L.getD i default) p
    ·simp (disch:=omega) only [↓RS,RZ,simprocAttr,w2]
     refine fin _ _ _ (by rw [bd (by omega)];exact w0) (by rw [bd (by omega)];exact w1) (dF (bF w2)) (by rw [bd (by omega)];exact w3) (by rw [bd (by omega)];exact w4) (by simp only [bW,pJ,ha,hb,ho,Bool.not_true,Bool.not_false,Bool.false_and,Bool.true_and,decide_true,decide_false,Bool.false_eq_true,if_true,if_false,Bool.and_false])
    ·simp (disch:=omega) only [↓RS,RZ,simprocAttr]
     exact fin _ _ _ w0 w1 w2 w3 w4 (by simp only [bW,pJ,ha,hb,ho,Bool.not_true,Bool.not_false,Bool.false_and,Bool.true_and,decide_true,decide_false,Bool.false_eq_true,if_true,if_false,Bool.and_false])
  |false=>
   simp (disch:=omega) only [↓RS,RZ,simprocAttr,q1,qn1,pc]
   refine bI (uc p (L.getD i default) (by omega) (by omega) q0 ?_)
   intro H4 hE2
   have u0:=hE2.get q0
   have u1:=hE2.get q1
   have u2:=hE2.get q2
   have u3:=hE2.get q3
   have u4:=hE2.get q4
   have un1:=hE2.get qn1
   have un2:=hE2.get qn2
   rw [ha]
   simp (disch:=omega) only [↓RS,RZ,simprocAttr,u1,un2,pc]
   refine bI (uc p (nx L i) (by omega) (by omega) u0 ?_)
   intro H5 hE3
   have w0:=hE3.get u0
   have w1:=hE3.get u1
   have w2:=hE3.get u2
   have w3:=hE3.get u3
   have w4:=hE3.get u4
   have wn1:=hE3.get un1
   have wn2:=hE3.get un2
   cases hb:qn p (nx L i) with
   |true=>
    simp (disch:=omega) only [↓RS,RZ,simprocAttr,w0,wn1,wn2,pc]
    refine cX o1 ?_
    by_cases ho:0<fB (L.getD i default) (nx L i) p
    ·simp (disch:=omega) only [↓RS,RZ,simprocAttr,w2]
     refine fin _ _ _ (by rw [bd (by omega)];exact w0) (by rw [bd (by omega)];exact w1) (dF (bF w2)) (by rw [bd (by omega)];exact w3) (by rw [bd (by omega)];exact w4) (by simp only [bW,pJ,ha,hb,ho,Bool.not_true,Bool.not_false,Bool.false_and,Bool.true_and,decide_true,decide_false,Bool.false_eq_true,if_true,if_false,Bool.and_false])
    ·simp (disch:=omega) only [↓RS,RZ,simprocAttr]
     exact fin _ _ _ w0 w1 w2 w3 w4 (by simp only [bW,pJ,ha,hb,ho,Bool.not_true,Bool.not_false,Bool.false_and,Bool.true_and,decide_true,decide_false,Bool.false_eq_true,if_true,if_false,Bool.and_false])
   |false=>
    simp (disch:=omega) only [↓RS,RZ,simprocAttr]
    exact fin _ _ _ w0 w1 w2 w3 w4 (by simp only [bW,pJ,ha,hb,Bool.not_true,Bool.not_false,Bool.false_and,Bool.true_and,decide_true,decide_false,Bool.false_eq_true,if_true,if_false,Bool.and_false])
 ·exact ⟨rfl,rfl,rfl,rfl,rfl⟩
 ·rintro v H ⟨h0,h1,h2,h3,h4⟩
  refine .inl ⟨h4,?_⟩
  have e:get (H.set 4 none) 2=some (.row 1 true [[.prim (.bool (bW L p L.length))]]):=by rw [bd (by omega)];exact h2
  simp (disch:=omega) only [↓RS,RZ,simprocAttr,e]
 ·exact fun _ _ h=>h.elim
end Go.Av
