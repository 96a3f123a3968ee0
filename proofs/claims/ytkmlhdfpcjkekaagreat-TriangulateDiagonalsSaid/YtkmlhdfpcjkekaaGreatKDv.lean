/- Helping texts: Dv, Dw, Dx, Dy, Mb, Dz. -/
import Derived.Test.YtkmlhdfpcjkekaaGreatKDn
set_option linter.unusedSimpArgs false
set_option linter.unusedVariables false
set_option maxRecDepth 100000
set_option maxHeartbeats 16000000
namespace Go.Av
open Go.RowKit
open Go.Proofs.Tryz (prog)
theorem nF {l:List Sg} {k:Nat} (h:k<l.length):(l.map sgc).getD k []=sgc (l.getD k sg0):=by
 rw [ae,ae,aW,af h];rfl
def mG (s t:Sg):Bool:=(iI s t).isSome&&(decide (((iI s t).getD sg0).a≠((iI s t).getD sg0).b)||(decide (((iI s t).getD sg0).a≠s.a)&&decide (((iI s t).getD sg0).a≠s.b)))
theorem DU (p q:Pt):eqA (aD prog) 9 37 (.agg [.prim (.bool (can p.x).neg),.prim (.string (bs ((can p.x).num))),.prim (.string (bs ((can p.x).den))),.prim (.bool (can p.y).neg),.prim (.string (bs ((can p.y).num))),.prim (.string (bs ((can p.y).den)))]) (.agg [.prim (.bool (can q.x).neg),.prim (.string (bs ((can q.x).num))),.prim (.string (bs ((can q.x).den))),.prim (.bool (can q.y).neg),.prim (.string (bs ((can q.y).num))),.prim (.string (bs ((can q.y).den)))])=some (decide (p=q)):=by
 rw [IO,I2]
theorem Pk (s t:Sg) (h1:hs s≤2^20) (h2:hs t≤2^20) {b:Nat} {H:Hp} {K:V→Hp→Prop} (hb:get H b=some (.row 12 true [sgc s])) (hK:∀ H',Ext H H'→K (.prim (.bool (mG s t))) H'):
 SC prog 65 [sgV t,.ptr b 0 0] H K:=by
 have c:=BP s t h1 h2
 have w1:∀ x,get (H++[x]) b=some (.row 12 true [sgc s]):=fun x=>aO hb
 have w2:∀ x y,get (H++[x]++[y]) b=some (.row 12 true [sgc s]):=fun x y=>aO (aO hb)
 refine SCi ?_
 conv in bL _ _=>cbv
 simp only [bM,RN,simprocAttr]
 simp (disch:=omega) only [↓RS,RZ,simprocAttr,sgV,s4V,w1,sgc]
 refine cX c ?_
 have hB:mG s t=((iI s t).isSome&&(decide (((iI s t).getD sg0).a≠((iI s t).getD sg0).b)||(decide (((iI s t).getD sg0).a≠s.a)&&decide (((iI s t).getD sg0).a≠s.b)))):=rfl
 generalize (iI s t).isSome=is at hB ⊢
 generalize (iI s t).getD sg0=m at hB ⊢
 have K2:∀ x y,K (.prim (.bool (mG s t))) (H++[x]++[y]):=fun x y=>hK _ ((Ext.app _).trans (Ext.app _))
 cases is with
 |false=>
  rw [hB] at K2
  simp (disch:=omega) only [↓RS,RZ,simprocAttr,sgV,s4V,aZ,w2,sgc]
  exact K2 _ _
 |true=>
  by_cases e1:m.a=m.b
  ·have d1:decide (m.a=m.b)=true:=an e1
   by_cases e2:m.a=s.a
   ·have d2:decide (m.a=s.a)=true:=an e2
    have hB':mG s t=false:=by
     have k1:decide (m.a≠m.b)=false:=ak (fun h=>h e1)
     have k2:decide (m.a≠s.a)=false:=ak (fun h=>h e2)
     rw [hB,k1,k2];rfl
    rw [hB'] at K2
    simp (disch:=omega) only [↓RS,RZ,simprocAttr,sgV,s4V,aZ,w2,sgc,DU,d1,d2]
    exact K2 _ _
   ·have d2:decide (m.a=s.a)=false:=ak e2
    by_cases e3:m.a=s.b
    ·have d3:decide (m.a=s.b)=true:=an e3
     have hB':mG s t=false:=by
      have k1:decide (m.a≠m.b)=false:=ak (fun h=>h e1)
      have k2:decide (m.a≠s.b)=false:=ak (fun h=>h e3)
      rw [hB,k1,k2];simp
     rw [hB'] at K2
     simp (disch:=omega) only [↓RS,RZ,simprocAttr,sgV,s4V,aZ,w2,sgc,DU,d1,d2,d3]
     exact K2 _ _
    ·have d3:decide (m.a=s.b)=false:=ak e3
     have hB':mG s t=true:=by rw [hB,an e2,an e3];simp
     rw [hB'] at K2
     simp (disch:=omega) only [↓RS,RZ,simprocAttr,sgV,s4V,aZ,w2,sgc,DU,d1,d2,d3]
     exact K2 _ _
  ·have d1:decide (m.a=m.b)=false:=ak e1
   have hB':mG s t=true:=by rw [hB,an e1];simp
   rw [hB'] at K2
   simp (disch:=omega) only [↓RS,RZ,simprocAttr,sgV,s4V,aZ,w2,sgc,DU,d1]
   exact K2 _ _
theorem QM (E:List Sg) (s:Sg) (h1:hs s≤2^20) (h2:∀ t∈E,hs t≤2^20) (hn:E.length<2^40) {b:Nat} {H:Hp} {K:V→Hp→Prop} (hb:get H b=some (.row 12 true [sgc s]))
 (hK:∀ x H',Ext H H'→K (.tup [sgV x,.prim (.bool (jI E.length fun i=>mG s (E.getD i sg0)))]) H'):
 SC prog 63 [ssV E,.clo 65 [] [.ptr b 0 0]] H K:=by
 have hbl:=bF hb
 refine SCi ?_
 conv in bL _ _=>cbv
 simp only [bM,RN,simprocAttr]
 have hz:sgc sg0=[.prim (.bool false),.prim (.string (bs ([]))),.prim (.string (bs ([]))),.prim (.bool false),.prim (.string (bs ([]))),.prim (.string (bs ([]))),.prim (.bool false),.prim (.string (bs ([]))),.prim (.string (bs ([]))),.prim (.bool false),.prim (.string (bs ([]))),.prim (.string (bs ([])))]:=by simp only [sgc,sg0,pt0,rP]
 simp (disch:=omega) only [↓RS,RZ,simprocAttr,ssV,eX]
 refine eG (fun (i:Nat) J=>ov [(0,ssV E),(1,.clo 65 [] [.ptr b 0 0]),(4,.ptr H.length 0 0),(5,.prim (.bool false)),(9,ssV E),(10,.prim (.int .i64 ((E.length:Nat):Int))),(11,.prim (.int .i64 ((i:Nat):Int)))] J 0 21)
  (fun i H'=>i≤E.length∧(∀ j,j<i→mG s (E.getD j sg0)=false)∧Ext H H'∧get H' H.length=some (.row 12 true [sgc sg0])) (fun i=>E.length-i) 0 rfl ⟨bh _,fun j hj=>absurd hj (Nat.not_lt_zero j),Ext.app _,by rw [bo,hz]⟩ ?_
 rintro i J H1 ⟨hi,hp,hE,hg⟩
 try conv in ov _ _ _ _=>simp only [ov,List.lookup,RO,simprocAttr]
 rcases am i E.length with hlt|hge
 ·have g:=nF hlt
  have ht:hs (E.getD i sg0)≤2^20:=h2 _ (by rw [ae,af hlt];exact bx hlt)
  simp (disch:=omega) only [↓RS,RZ,simprocAttr,ssV,eX,g,sgc,aZ]
  refine bI (Pk s (E.getD i sg0) h1 ht (aO (hE.get hb)) ?_)
  intro H2 hE2
  have g2:get H2 H.length=some (.row 12 true [sgc sg0]):=hE2.get (aO hg)
  have g3:get H2 H1.length=some (.row 12 true [sgc (E.getD i sg0)]):=hE2.get bo
  have hE3:Ext H H2:=hE.trans ((Ext.app _).trans hE2)
  have hl:=bF g2
  have hl1:=bF hg
  cases hB:mG s (E.getD i sg0) with
  |true=>
   have s4:∀ x,get (H2.set H.length x) H.length=x:=fun x=>dF hl
   have fin:∀ k,K (.tup [sgV (E.getD i sg0),.prim (.bool true)]) (H2.set H.length k):=by
    intro k
    have:=hK (E.getD i sg0) (H2.set H.length k) ⟨by rw [cO];exact hE3.len,fun {c k} hc=>by
     rw [bd (by have:=bF hc;omega)];exact hE3.get hc⟩
    rw [kj hlt hB] at this
    exact this
   simp (disch:=omega) only [↓RS,RZ,simprocAttr,g2,g3,sgc,s4]
   exact fin _
  |false=>
   simp (disch:=omega) only [↓RS,RZ,simprocAttr]
   exact bl (i+1) rfl ⟨hlt,fun j hj=>by
    rcases am j i with h|h
    ·exact hp j h
    ·rw [show j=i by omega];exact hB,hE3,g2⟩ (by omega)
 ·have hia:i=E.length:=by omega
  subst hia
  have hl1:=bF hg
  have fin:∀ k l,K (.tup [sgV sg0,.prim (.bool false)]) ((H1++[l]).set H.length k):=by
   intro k l
   have:=hK sg0 ((H1++[l]).set H.length k) ⟨by rw [cO,aK];have:=hE.len;omega,fun {c k} hc=>by
    rw [bd (by have:=bF hc;omega)];exact aO (hE.get hc)⟩
   rw [lQ hp] at this
   exact this
  have s4:∀ x y,get ((H1++[x]).set H.length y) H.length=y:=fun x y=>dF (by rw [aK];omega)
  have s5:∀ x,get (H1++[x]) H.length=some (.row 12 true [sgc sg0]):=fun x=>aO hg
  have hne:(H1.length==H.length)=false:=by rw [beq_eq_false_iff_ne];omega
  have fin2:=fun k l=>fin k l
  rw [Sk] at fin2
  simp (disch:=omega) only [↓RS,RZ,simprocAttr,ssV,eX,s4,s5,hne,hz]
  exact fin2 _ _
end Go.Av
namespace Go.Av
open Go.RowKit
open Go.Proofs.Tryz (prog)
theorem wN {n:Nat} (h:n<256):dl n≤1:=by
 rw [←tF]
 by_cases h0:n=0
 ·subst h0;simp [il]
 ·rw [lU h0,show n/256=0 by omega,il];simp
theorem QH:PC prog 35 [.prim (.int .i64 (1)),.prim (.int .i64 (2))] (.tup [qV (1/2),.prim (.int .i64 (0))]):=by
 have o1:=wl 1 (by omega) (by omega)
 have o2:=wl 2 (by omega) (by omega)
 have d1:= @wN 1 (by omega)
 have d2:= @wN 2 (by omega)
 have n:=EQ 1 2 (by simp only [Int.natAbs_one];omega) (by show dl 2<_;omega)
 rw [if_neg (by omega),show qI 1 2=1/2 by decide+kernel] at n
 refine PCi ?_
 conv in bL _ _=>cbv
 simp only [bM,RN,simprocAttr]
 simp (disch:=omega) only [↓RS,RZ,simprocAttr]
 refine cX o1 ?_
 simp (disch:=omega) only [↓RS,RZ,simprocAttr,cI,iN]
 refine cX o2 ?_
 simp (disch:=omega) only [↓RS,RZ,simprocAttr,cI,iN]
 refine cX n ?_
 simp (disch:=omega) only [↓RS,RZ,simprocAttr,qV,rV]
def pe (E:List Sg) (s:Sg):Bool:=jI E.length fun i=>mG s (E.getD i sg0)
def kN (L:List Pt) (Hs:List (List Pt)) (s:Sg):Bool×Int:=
 if bO s.a s.b=0 then (false,12)
 else if s.a∈bP (L::Hs) (Hs.length+1)∧s.b∈bP (L::Hs) (Hs.length+1) then
  (!pe (eN (L::Hs) (Hs.length+1)) s&&decide (0<gE L Hs (s.a.at s.b (1/2))),0)
 else (false,0)
theorem qi {L:List Pt} {Hs:List (List Pt)} (hg:Rgs L Hs):∀ i,i≤Hs.length+1→hl (bP (L::Hs) i) (2^16)
 |0,_=>by intro p hp;simp [bP] at hp
 |i+1,hi=>by
  intro p hp
  rw [bP,aF] at hp
  rcases hp with hp|hp
  ·exact qi hg i (by omega) p hp
  ·exact (hg.get (i:=i) (by omega)).ht p hp
theorem AK {L:List Pt} {Hs:List (List Pt)} (hg:Rgs L Hs):∀ i,i≤Hs.length+1→∀ t∈eN (L::Hs) i,hs t≤2^16
 |0,_=>by intro p hp;simp [eN] at hp
 |i+1,hi=>by
  intro p hp
  rw [eN,aF] at hp
  rcases hp with hp|hp
  ·exact AK hg i (by omega) p hp
  ·obtain ⟨j,hj,rfl⟩:=av.1 hp
   exact AJ (hg.get (i:=i) (by omega)).ht (by simpa using hj)
theorem y9 {O:List Rp} {hr:List (List Rp)} (h:m5 O hr) (s:Sg) (h1:hs s≤2^16):PC prog 17 [cgV (pts O) (hr.map pts),sgV s] (.tup [.prim (.bool (kN (pts O) (hr.map pts) s).1),.prim (.int .i64 ((kN (pts O) (hr.map pts) s).2))]):=by
 have ck:=h.check_pc
 have hg:=h.rgs
 generalize hr.map pts=Hs at*
 generalize pts O=L at*
 have cc:=Bw _ _ hg
 have ce:=G5 _ _ hg
 have hlC:=qi hg (Hs.length+1) (ax _)
 have hsE:=AK hg (Hs.length+1) (ax _)
 obtain ⟨lC,lE⟩:=mM hg (Hs.length+1) (ax _)
 have hf:=hg.few
 have hD:kN L Hs s=if bO s.a s.b=0 then (false,12) else if s.a∈bP (L::Hs) (Hs.length+1)∧s.b∈bP (L::Hs) (Hs.length+1) then
  (!pe (eN (L::Hs) (Hs.length+1)) s&&decide (0<gE L Hs (s.a.at s.b (1/2))),0) else (false,0):=rfl
 generalize bP (L::Hs) (Hs.length+1)=C at*
 generalize eN (L::Hs) (Hs.length+1)=E at*
 have a4:=sO s;have a5:=tK s
 have v1:=vd s.a (by omega)
 have v2:=vd s.b (by omega)
 have sc:=xe s (by omega)
 have x1:=pO C s.a (by omega)
 have x2:=pO C s.b (by omega)
 have hh:ht (1/2)≤3:=by have:=xF 1 2;have:=IB;have e:ht 1≤1:= @tI 1 (by omega);omega
 have at_:=ME s.a s.b (1/2) (by omega) (by omega) (by omega)
 have hat:=RV s.a s.b (1/2)
 have w:=FQ L Hs (s.a.at s.b (1/2)) hg (by omega)
 refine PCi ?_
 conv in bL _ _=>cbv
 simp only [bM,RN,simprocAttr]
 simp (disch:=omega) only [↓RS,RZ,simprocAttr,cgV,psV,sgV,s4V]
 refine cX ck ?_
 simp (disch:=omega) only [↓RS,RZ,simprocAttr,psV,sgV,s4V]
 refine cX v1 ?_
 simp (disch:=omega) only [↓RS,RZ,simprocAttr,psV,sgV,s4V]
 refine cX v2 ?_
 simp (disch:=omega) only [↓RS,RZ,simprocAttr,psV,sgV,s4V]
 refine cX sc ?_
 by_cases hz:bO s.a s.b=0
 ·rw [if_pos hz] at hD
  rw [hD,if_pos hz]
  simp (disch:=omega) only [↓RS,RZ,simprocAttr]
 rw [if_neg hz] at hD
 rw [if_neg hz]
 simp (disch:=omega) only [↓RS,RZ,simprocAttr,psV,sgV,s4V]
 refine cX cc ?_
 simp (disch:=omega) only [↓RS,RZ,simprocAttr,psV,sgV,s4V]
 refine cX x1 ?_
 by_cases hA:s.a∈C
 ·rw [an hA]
  simp (disch:=omega) only [↓RS,RZ,simprocAttr,psV,sgV,s4V]
  refine cX x2 ?_
  by_cases hB:s.b∈C
  ·rw [if_pos ⟨hA,hB⟩] at hD
   rw [an hB,hD]
   simp (disch:=omega) only [↓RS,RZ,simprocAttr,psV,sgV,s4V]
   refine cX ce ?_
   simp (disch:=omega) only [↓RS,RZ,simprocAttr,ssV]
   refine bI (QM E s (by omega) (fun t ht=>bi (hsE t ht) (by omega)) (by omega) rfl ?_)
   intro x H' hE
   have e0:get H' 0=some (.row 2 true [[psV L,.lst 1 ((Hs.map psV).map fun v=>[v])]]):=hE.get rfl
   have e1:get H' 1=some (.row 12 true [sgc s]):=hE.get rfl
   clear hE
   have w0:∀ x y,get (H'++[x]++[y]) 0=some (.row 2 true [[psV L,.lst 1 ((Hs.map psV).map fun v=>[v])]]):=fun x y=>aO (aO e0)
   have w1:∀ x y,get (H'++[x]++[y]) 1=some (.row 12 true [sgc s]):=fun x y=>aO (aO e1)
   have hbp:(jI E.length fun i=>mG s (E.getD i sg0))=pe E s:=rfl
   rw [hbp]
   have hf:=QH
   cases hb:pe E s with
   |true=>
    simp (disch:=omega) only [↓RS,RZ,simprocAttr,sgV,s4V,aZ]
    refine cX hf ?_
    simp (disch:=omega) only [↓RS,RZ,simprocAttr,qV,rV,aZ]
   |false=>
    simp (disch:=omega) only [↓RS,RZ,simprocAttr,sgV,s4V,aZ]
    refine cX hf ?_
    simp (disch:=omega) only [↓RS,RZ,simprocAttr,qV,rV,aZ,w0,w1,sgc,psV]
    refine cX at_ ?_
    simp (disch:=omega) only [↓RS,RZ,simprocAttr,pV,ptV,psV]
    refine cX w ?_
    by_cases hw:0<gE L Hs (s.a.at s.b (1/2))
    ·rw [an hw]
     simp (disch:=omega) only [↓RS,RZ,simprocAttr]
    ·rw [ak hw]
     simp (disch:=omega) only [↓RS,RZ,simprocAttr]
  ·rw [if_neg (fun h=>hB h.2)] at hD
   rw [ak hB,hD]
   simp (disch:=omega) only [↓RS,RZ,simprocAttr]
 ·rw [if_neg (fun h=>hA h.1)] at hD
  rw [ak hA,hD]
  simp (disch:=omega) only [↓RS,RZ,simprocAttr]
end Go.Av
namespace Go.Av
open Go.RowKit
open Go.Proofs.Tryz (prog)
def sqL (a b:Int):List Pt:=[⟨a,a⟩,⟨b,a⟩,⟨b,b⟩,⟨a,b⟩]
theorem hl_of {L:List Pt} {k:Nat} (hk:1≤k) (h:∀ p∈L,∃ x y:Int,p=⟨x,y⟩∧x.natAbs<256∧y.natAbs<256):hl L k:=by
 intro p hp
 obtain ⟨x,y,rfl,hx,hy⟩:=h p hp
 exact bi (DL (tI hx) (tI hy)) hk
theorem hl_sq {a b:Int} (ha:a.natAbs<256) (hb:b.natAbs<256):hl (sqL a b) (2^16):=by
 refine hl_of (by omega) fun p hp=> ?_
 simp only [sqL,ay,List.not_mem_nil,or_false] at hp
 rcases hp with rfl|rfl|rfl|rfl
 ·exact ⟨a,a,rfl,ha,ha⟩
 ·exact ⟨b,a,rfl,hb,ha⟩
 ·exact ⟨b,b,rfl,hb,hb⟩
 ·exact ⟨a,b,rfl,ha,hb⟩
end Go.Av
namespace Go.Av
open Go.RowKit
open Go.Proofs.Tryz (prog)
end Go.Av
namespace Go.Av
theorem ON {n:Nat} {p:Nat→Bool} (h:¬0≤oa n p):∀ i,i<n→p i=false:=by
 intro i hi
 cases hp:p i with
 |false=>rfl
 |true=>
  exfalso;apply h
  have:= @kX n p
  rw [show (List.range n).any p=true from List.any_eq_true.2 ⟨i,by simpa using hi,hp⟩] at this
  exact of_decide_eq_true this
theorem jo.flat {L:List Pt} (h:jo L):∀ i,i<L.length→pi L i=false:=by
 have:=h.ok
 unfold Fu at this
 split at this
 ·cases this
 ·rename_i h1;exact ON h1
theorem jo.cross {L:List Pt} (h:jo L):crossB L=false:=by
 have:=h.ok
 unfold Fu at this
 split at this
 ·cases this
 ·split at this
  ·cases this
  ·rename_i h1;simpa using h1
theorem Gr (a c:Pt):fB a a c=0:=by
 unfold fB
 rw [lL]
 unfold Av.cross Pt.sub
 grind
theorem ss {L:List Pt} (hlo:3≤L.length) (hfl:∀ i,i<L.length→pi L i=false) {i:Nat} (hi:i<L.length):L.getD i default≠nx L i:=by
 intro e
 have hm:=Nat.mod_lt (i+1) (show 0<L.length by omega)
 have hf:=hfl ((i+1)%L.length) hm
 unfold pi at hf
 have hp:((i+1)%L.length+L.length-1)%L.length=i:=by
  rcases am (i+1) L.length with hlt|hge
  ·rw [bA hlt,show i+1+L.length-1=i+L.length by omega,Nat.add_mod_right,bA hi]
  ·rw [show i+1=L.length by omega,Nat.mod_self,aX,bA (by omega)];omega
 rw [hp] at hf
 unfold nx at e
 rw [←e,Gr] at hf
 simp at hf
theorem jo.next_ne {L:List Pt} (h:jo L) {i:Nat} (hi:i<L.length):L.getD i default≠nx L i:=ss h.lo h.flat hi
theorem jo.seg_ok {L:List Pt} (h:jo L) {i:Nat} (hi:i<L.length):(b9 L i).ok:=fun e=>h.next_ne hi (c7.1 e)
theorem jo.distinct {L:List Pt} (h:jo L) {i k:Nat} (hik:i<k) (hk:k<L.length):L.getD i default≠L.getD k default:=by
 intro e
 have hlo:=h.lo
 by_cases h1:k=i+1
 ·subst h1
  have:=h.next_ne (show i<L.length by omega)
  unfold nx at this
  rw [bA hk] at this
  exact this e
 ·by_cases h2:i=0∧k=L.length-1
  ·obtain ⟨rfl,h2⟩:=h2
   have:=h.next_ne hk
   unfold nx at this
   rw [show k+1=L.length by omega,Nat.mod_self] at this
   exact this e.symm
  ·have hc:=Bv h.cross (show i<L.length by omega) hk
   unfold mw at hc
   rw [an (show i+2≤k by omega),←Bool.decide_and,ak h2] at hc
   have hm:=yz (P:=L.getD i default) (h.seg_ok (show i<L.length by omega)) (h.seg_ok hk) (.inl rfl) (.inl e)
   rw [hm] at hc
   simp at hc
theorem AA {A B:List Pt} (hA:jo A) (hB:jo B) (h:qg A B=false) {i k:Nat} (hi:i<A.length) (hk:k<B.length):A.getD i default≠B.getD k default:=by
 intro e
 have hm:=yz (P:=A.getD i default) (hA.seg_ok hi) (hB.seg_ok hk) (.inl rfl) (.inl e)
 rw [vj hi hk hm] at h
 cases h
theorem nY {L:List Pt} {p:Pt} (h:p∈L):∃ i,i<L.length∧L.getD i default=p:=by
 obtain ⟨i,hi,rfl⟩:=bK.1 h
 exact ⟨i,hi,by rw [ae,af hi];rfl⟩
theorem jo.nodup {L:List Pt} (h:jo L):L.Nodup:=by
 rw [List.nodup_iff_pairwise_ne,bN]
 intro i j hi hj hij
 have:=h.distinct hij hj
 rwa [ae,ae,af hi,af hj] at this
structure zc (Ls:List (List Pt)):Prop where
 ring:∀ i,i<Ls.length→jo (Ls.getD i [])
 meet:∀ i j,j<i→i<Ls.length→qg (Ls.getD i []) (Ls.getD j [])=false
theorem u7 {Ls:List (List Pt)} {p:Pt}:∀ {i},p∈bP Ls i→∃ j,j<i∧p∈Ls.getD j []
 |0,h=>by simp [bP] at h
 |i+1,h=>by
  rw [bP,aF] at h
  rcases h with h|h
  ·obtain ⟨j,hj,hp⟩:=u7 h;exact ⟨j,by omega,hp⟩
  ·exact ⟨i,by omega,h⟩
theorem zc.nodup {Ls:List (List Pt)} (h:zc Ls):∀ i,i≤Ls.length→(bP Ls i).Nodup
 |0,_=>by simp [bP]
 |i+1,hi=>by
  rw [bP,mH]
  refine ⟨h.nodup i (by omega),(h.ring i hi).nodup,?_⟩
  intro a ha b hb e
  subst e
  obtain ⟨j,hj,ha⟩:=u7 ha
  obtain ⟨x,hx,ex⟩:=nY ha
  obtain ⟨y,hy,ey⟩:=nY hb
  exact AA (h.ring i hi) (h.ring j (by omega)) (h.meet i j hj hi) hy hx (ey.trans ex.symm)
theorem qk (L:List Pt):(aU L).map Sg.a=L:=by
 refine List.ext_getElem (by simp [fD]) fun i h1 h2=> ?_
 rw [List.getElem_map]
 unfold aU
 rw [List.getElem_map,List.getElem_range]
 show L.getD i default=_
 rw [ae,af h2];rfl
theorem tT (L:List Pt):((aU L).map Sg.b).Perm L:=by
 cases L with
 |nil=>simp [aU]
 |cons p t=>
  have e:(aU (p::t)).map Sg.b=t++[p]:=by
   refine List.ext_getElem (by simp [fD]) fun i h1 h2=> ?_
   rw [List.getElem_map]
   unfold aU
   rw [List.getElem_map,List.getElem_range]
   show nx (p::t) i=_
   unfold nx
   simp only [aK,aC,aI] at h2
   rcases am i t.length with hlt|hge
   ·rw [aC,bA (by omega),aB,ae,af hlt,List.getElem_append_left hlt];rfl
   ·have:i=t.length:=by omega
    subst this
    rw [aC,Nat.mod_self,aM,List.getElem_append_right (ax _)]
    simp
  rw [e]
  exact List.perm_append_singleton p t
theorem pX (Ls:List (List Pt)):∀ i,(eN Ls i).map Sg.a=bP Ls i
 |0=>rfl
 |i+1=>by rw [eN,bP,bz,pX Ls i,qk]
theorem xM (Ls:List (List Pt)):∀ i,((eN Ls i).map Sg.b).Perm (bP Ls i)
 |0=> .nil
 |i+1=>by rw [eN,bP,bz];exact (xM Ls i).append (tT _)
def Pr (f:Nat→Bool) (k:Nat):Nat:=(List.range k).countP f
theorem BA (E:List Sg) (g:Sg→Bool):Pr (fun k=>g (E.getD k sg0)) E.length=E.countP g:=by
 have e:E=(List.range E.length).map fun k=>E.getD k sg0:=by
  refine List.ext_getElem (by simp) fun i h1 h2=> ?_
  rw [List.getElem_map,List.getElem_range,ae,af h1];rfl
 conv=>rhs;rw [e]
 rw [List.countP_map];rfl
theorem D1 {C:List Pt} (h:C.Nodup) {c:Pt} (hc:c∈C):C.countP (fun p=>decide (p=c))=1:=by
 induction C with
 |nil=>cases hc
 |cons p C ih=>
  rw [cV] at h
  rw [List.countP_cons]
  by_cases e:p=c
  ·subst e
   rw [List.countP_eq_zero.2 (fun a ha=>by simp;rintro rfl;exact h.1 ha)]
   simp
  ·rcases ay.1 hc with h1|h1
   ·exact absurd h1.symm e
   ·rw [ih h.2 h1];simp [e]
theorem zc.begins {Ls:List (List Pt)} (h:zc Ls) {c:Pt} (hc:c∈bP Ls Ls.length):Pr (fun k=>decide (((eN Ls Ls.length).getD k sg0).a=c)) (eN Ls Ls.length).length=1:=by
 rw [BA _ (fun s=>decide (s.a=c))]
 have:=D1 (h.nodup Ls.length (ax _)) hc
 rw [←pX,List.countP_map] at this
 exact this
theorem zc.ends {Ls:List (List Pt)} (h:zc Ls) {c:Pt} (hc:c∈bP Ls Ls.length):Pr (fun k=>decide (((eN Ls Ls.length).getD k sg0).b=c)) (eN Ls Ls.length).length=1:=by
 rw [BA _ (fun s=>decide (s.b=c))]
 have:=D1 (h.nodup Ls.length (ax _)) hc
 rw [←(xM Ls Ls.length).countP_eq,List.countP_map] at this
 exact this
theorem m5.apart {O:List Rp} {hs:List (List Rp)} (h:m5 O hs):zc (pts O::hs.map pts):=by
 have hlen:(hs.map pts).length=hs.length:=az ..
 have get:∀ i,i<hs.length→(hs.map pts).getD i []=pts (hs.getD i []):=fun i hi=>by
  rw [ae,ae,aW,af hi];rfl
 refine ⟨fun i hi=>h.rgs.get (by simp only [aC] at hi;omega),fun i j hj hi=> ?_⟩
 simp only [aC,hlen] at hi
 obtain ⟨i,rfl⟩:∃ k,i=k+1:=⟨i-1,by omega⟩
 have hz:=h.hz i (by omega)
 unfold zm at hz
 rw [if_neg (by intro h2;exact h2 (rL (h.hz i (by omega))))] at hz
 split at hz
 ·cases hz
 ·rename_i h1
  rw [aB,get i (by omega)]
  rcases j with _|j
  ·rw [aM]
   cases hm:qg (pts (hs.getD i [])) (pts O) with
   |false=>rfl
   |true=>exact absurd (.inl hm) h1
  ·rw [aB,get j (by omega)]
   cases hm:qg (pts (hs.getD i [])) (pts (hs.getD j [])) with
   |false=>rfl
   |true=>exact absurd (.inr (kj (show j<i by omega) hm)) h1
end Go.Av
namespace Go.Av
open Go.RowKit
open Go.Proofs.Tryz (prog)
structure SX (O:List Rp) (hs:List (List Rp)):Prop where
 o:O.length≤maxLen∧∀ p∈O,p.fit
 n:hs.length≤maxLen
 h:∀ l∈hs,l.length≤maxLen∧∀ p∈l,p.fit
theorem SS {p:Rp} (h:Fy p=false):p.le (2^16):=by
 unfold Fy at h
 simp only [Bool.or_eq_false_iff,aG] at h
 exact ⟨⟨by omega,by omega⟩,⟨by omega,by omega⟩⟩
theorem DP {l:List Rp} (h:nz l=false):∀ p∈l,p.le (2^16):=by
 intro p hp
 obtain ⟨i,hi,rfl⟩:=bK.1 hp
 have:=mP h hi
 rw [ae,af hi] at this
 exact SS this
theorem E5 {O:List Rp} {hs:List (List Rp)} (h:nw O hs=false):O.length≤67∧(∀ p∈O,p.le (2^16))∧hs.length≤10∧∀ l∈hs,l.length<2^50∧∀ p∈l,p.le (2^16):=by
 unfold nw at h
 simp only [Bool.or_eq_false_iff,aG] at h
 obtain ⟨h1,h2,h3,h4,h5,h6⟩:=h
 refine ⟨by omega,DP h3,by omega,?_⟩
 intro l hl
 obtain ⟨i,hi,rfl⟩:=bK.1 hl
 have:=mP h4 (show i<min hs.length 11 by omega)
 rw [ae,af hi] at this
 simp only [bG,Bool.or_eq_false_iff,aG] at this
 exact ⟨by omega,DP this.2⟩
end Go.Av
