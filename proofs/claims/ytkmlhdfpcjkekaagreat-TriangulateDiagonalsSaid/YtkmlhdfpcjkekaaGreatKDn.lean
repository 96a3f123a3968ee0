/- Helping texts: Dn, Do, Dq, Ds. -/
import Derived.Test.YtkmlhdfpcjkekaaGreatKDj
import Derived.Test.YtkmlhdfpcjkekaaGreatKDf
set_option linter.unusedSimpArgs false
set_option linter.unusedVariables false
set_option maxRecDepth 100000
set_option maxHeartbeats 16000000
namespace Go.Av
open Go.RowKit
open Go.Proofs.Tryz (prog)
def cgV (L:List Pt) (Hs:List (List Pt)):V:= .agg [psV L,.lst 1 ((Hs.map psV).map fun v=>[v])]
theorem Ad (A:V) (es:List V) {H:Hp} {K:V→Hp→Prop} (hK:K (.clo 186 [] [.ptr H.length 0 0]) (H++[some (.row 2 true [[A,.lst 1 (es.map fun v=>[v])]])])):
 SC prog 116 [.agg [A,.lst 1 (es.map fun v=>[v])]] H K:=by
 refine SCi ?_
 conv in bL _ _=>cbv
 simp only [bM,RN,simprocAttr]
 simp (disch:=omega) only [↓RS,RZ,simprocAttr]
 exact hK
theorem xh (A:V) (es:List V) (hn:es.length<2^40) {yb b:Nat} {H:Hp} {K:V→Hp→Prop} (Inv:Nat→Hp→Prop) (Fin:Hp→Prop)
 (hbox:∀ i H,Inv i H→get H b=some (.row 2 true [[A,.lst 1 (es.map fun v=>[v])]]))
 (step:∀ i H,i≤es.length→Inv i H→YC prog yb [.prim (.int .i64 ((i:Nat):Int)),(A::es).getD i cW] H (yQ (Inv (i+1)) Fin))
 (h0:Inv 0 H) (hK:∀ v H,Inv (es.length+1) H→K v H) (hF:∀ v H,Fin H→K v H):SC prog 186 [.yld yb,.ptr b 0 0] H K:=by
 refine SCi ?_
 conv in bL _ _=>cbv
 simp only [bM,RN,simprocAttr]
 have hb:=hbox 0 H h0
 simp (disch:=omega) only [↓RS,RZ,simprocAttr,hb]
 refine YC.mono ?_ (step 0 _ (bh _) h0)
 rintro v H1 (⟨rfl,h⟩|⟨rfl,h⟩)
 ·have hb:=hbox _ H1 h
  simp (disch:=omega) only [↓RS,RZ,simprocAttr,hb,co]
  refine eG (fun (i:Nat) J=>ov [(0,.yld yb),(1,.ptr b 0 0),(11,.lst 1 (es.map fun v=>[v])),(12,.prim (.int .i64 ((es.length:Nat):Int))),(13,.prim (.int .i64 ((i:Nat):Int)))] J 0 25) (fun i H=>i≤es.length∧Inv (i+1) H) (fun i=>es.length-i) 0 rfl ⟨bh _,h⟩ ?_
  rintro i J H ⟨hi,hv⟩
  try conv in ov _ _ _ _=>simp only [ov,List.lookup,RO,simprocAttr]
  rcases am i es.length with hlt|hge
  ·have g:=rB hlt
   have st:=step (i+1) _ hlt hv
   simp (disch:=omega) only [↓RS,RZ,simprocAttr,co,g]
   refine YC.mono ?_ st
   rintro v H' (⟨rfl,h⟩|⟨rfl,h⟩)
   ·simp (disch:=omega) only [↓RS,RZ,simprocAttr]
    exact bl (i+1) rfl ⟨hlt,h⟩ (by omega)
   ·simp (disch:=omega) only [↓RS,RZ,simprocAttr]
    exact hF _ _ h
  ·have hia:i=es.length:=by omega
   subst hia
   simp (disch:=omega) only [↓RS,RZ,simprocAttr,co]
   exact hK _ _ hv
 ·simp (disch:=omega) only [↓RS,RZ,simprocAttr]
  exact hF _ _ h
structure Rgs (L:List Pt) (Hs:List (List Pt)):Prop where
 out:jo L
 holes:∀ h∈Hs,jo h
 few:Hs.length≤8
theorem Rgs.get {L:List Pt} {Hs:List (List Pt)} (h:Rgs L Hs) {i:Nat} (hi:i≤Hs.length):jo ((L::Hs).getD i []):=by
 cases i with
 |zero=>exact h.out
 |succ i=>
  rw [aB,ae,af hi]
  exact h.holes _ (bx hi)
theorem Ae {L:List Pt} {Hs:List (List Pt)} {i:Nat} (hi:i≤Hs.length):(psV L::Hs.map psV).getD i cW=psV ((L::Hs).getD i []):=by
 cases i with
 |zero=>rfl
 |succ i=>
  rw [aB,aB,ae,ae,aW,af hi];rfl
def bP (Ls:List (List Pt)):Nat→List Pt
 |0=>[]
 |i+1=>bP Ls i++Ls.getD i []
def eN (Ls:List (List Pt)):Nat→List Sg
 |0=>[]
 |i+1=>eN Ls i++aU (Ls.getD i [])
theorem mM {L:List Pt} {Hs:List (List Pt)} (h:Rgs L Hs):∀ i,i≤Hs.length+1→(bP (L::Hs) i).length≤i*64∧(eN (L::Hs) i).length=(bP (L::Hs) i).length
 |0,_=>by simp [bP,eN]
 |i+1,hi=>by
  obtain ⟨h1,h2⟩:=mM h i (by omega)
  have:=(h.get (i:=i) (by omega)).hi
  simp only [bP,eN,aK,fD]
  omega
theorem tf (l:List Pt):BQ (l.map pc):=by
 intro e he v hv
 obtain ⟨s,_,rfl⟩:=av.1 he
 simp only [pc,ay,List.not_mem_nil,or_false] at hv
 rcases hv with h|h|h|h|h|h<;>exact ⟨_,h⟩
theorem Ai {es:List (List V)} (h:BQ es):∀ y∈es,∀ v∈y,ku v=true:=fun y hy v hv=>by
 obtain ⟨x,rfl⟩:=h y hy v hv;rfl
theorem oq {L:List Pt} {Hs:List (List Pt)} (h:Rgs L Hs):∀ i,bP (L::Hs) (i+1)≠[]
 |0=>by simp only [bP,List.nil_append];exact h.out.ne
 |i+1=>by
  rw [bP]
  intro e
  exact oq h i (List.append_eq_nil_iff.1 e).1
theorem Bw (L:List Pt) (Hs:List (List Pt)) (hg:Rgs L Hs):PC prog 54 [cgV L Hs] (psV (bP (L::Hs) (Hs.length+1))):=by
 have hf:=hg.few
 refine PCi ?_
 conv in bL _ _=>cbv
 simp only [bM,RN,simprocAttr]
 simp (disch:=omega) only [↓RS,RZ,simprocAttr,cgV]
 refine bI (Ad (psV L) (Hs.map psV) ?_)
 simp (disch:=omega) only [↓RS,RZ,simprocAttr]
 refine vI rE (n:=3) (k:=2) rfl rfl rfl (by kernel_rfl) ?_
 conv in lcC _=>cbv
 conv in lcC _=>cbv
 intro R B D hR hyc
 simp only [List.nil_append,List.cons_append] at hyc ⊢
 refine xh (psV L) (Hs.map psV) (by rw [az];omega) (fun i H=>∃ v,get H 1=some (.row 1 true [[v]])∧get H 2=some (.row 2 true [[psV L,.lst 1 ((Hs.map psV).map fun v=>[v])]])∧get H 3=some R∧kP 4 H v 6 ((bP (L::Hs) i).map pc)) (fun _=>False) ?_ ?_ ?_ ?_ ?_
 ·rintro i H ⟨v,h⟩;exact h.2.1
 ·rintro i H hlt ⟨v,h0,h1,h2,h3⟩
  rw [az] at hlt
  rw [Ae hlt]
  have hr:=hg.get hlt
  refine hyc _ _ _ rfl h2 ?_
  clear hyc
  simp (disch:=omega) only [↓RS,RZ,simprocAttr,kR,lR,psV]
  rw [lV]
  refine ⟨h2,?_⟩
  have hN:=h3.1
  have q0:get (H.set 3 (some B)) 1=some (.row 1 true [[v]]):=by rw [bd (by omega)];exact h0
  have q1:get (H.set 3 (some B)) 2=some (.row 2 true [[psV L,.lst 1 ((Hs.map psV).map fun v=>[v])]]):=by rw [bd (by omega)];exact h1
  have q2:get (H.set 3 (some B)) 3=some B:=dF (by omega)
  have q3:=h3.set (c:=3) (x:=some B) (by omega)
  generalize H.set 3 (some B)=H1 at q0 q1 q2 q3 ⊢
  simp (disch:=omega) only [↓RS,RZ,simprocAttr,q0]
  have hl1:=(mM hg i (by omega)).1
  have hl2:=hr.hi
  refine kP.append q3 (Ai (tf _)) (by simp only [az];omega) (by simp only [az];omega) ?_
  intro v' H2 hb hk
  have r0:=hk 1 _ (by omega) q0
  have r1:=hk 2 _ (by omega) q1
  have r2:=hk 3 _ (by omega) q2
  have c1:=hb.one
  have c2:=hb.cel
  simp (disch:=omega) only [↓RS,RZ,simprocAttr,r0,c1,c2]
  rw [k6]
  have hl3:=hb.1
  refine ⟨by rw [bd (by omega)];exact r2,.inl ⟨rfl,v',?_,?_,?_,?_⟩⟩
  ·rw [bd (by omega),dF (by omega)]
  ·rw [bd (by omega),bd (by omega)];exact r1
  ·rw [dF (by rw [cO];omega)]
  ·show kP 4 _ v' 6 ((bP (L::Hs) i++(L::Hs).getD i []).map pc)
   rw [bz]
   exact (hb.set (by omega)).set (by omega)
 ·exact ⟨_,rfl,rfl,rfl,.nil (by simp)⟩
 ·rintro v H ⟨u,h0,h1,h2,h3⟩
  rw [az] at h3
  refine .inl ⟨h2,?_⟩
  have hne:bP (L::Hs) (Hs.length+1)≠[]:=oq hg _
  obtain ⟨b,hb,rfl,hg2⟩:=h3.cases (by simpa using hne)
  have e0:get (H.set 3 none) 1=some (.row 1 true [[.sref b 0 ((bP (L::Hs) (Hs.length+1)).map pc).length ((bP (L::Hs) (Hs.length+1)).map pc).length 6 false]]):=by rw [bd (by omega)];exact h0
  have e1:get (H.set 3 none) b=some (.row 6 true ((bP (L::Hs) (Hs.length+1)).map pc)):=by rw [bd (by omega)];exact hg2
  have hvl:= @kB (H.set 3 none) 7 _ (tf (bP (L::Hs) (Hs.length+1)))
  generalize bP (L::Hs) (Hs.length+1)=C at*
  have hlen:(C.map pc).length=C.length:=az ..
  have htk:(C.map pc).take C.length=C.map pc:=by rw [List.take_of_length_le (by omega)]
  simp (disch:=omega) only [↓RS,RZ,simprocAttr,e0,hlen]
  rw [e1]
  simp only [hlen,ax,if_true,htk]
  rw [hvl]
  rfl
 ·exact fun _ _ h=>h.elim
theorem G5 (L:List Pt) (Hs:List (List Pt)) (hg:Rgs L Hs):PC prog 64 [cgV L Hs] (ssV (eN (L::Hs) (Hs.length+1))):=by
 have hf:=hg.few
 refine PCi ?_
 conv in bL _ _=>cbv
 simp only [bM,RN,simprocAttr]
 simp (disch:=omega) only [↓RS,RZ,simprocAttr,cgV]
 refine bI (Ad (psV L) (Hs.map psV) ?_)
 simp (disch:=omega) only [↓RS,RZ,simprocAttr]
 refine vI rE (n:=3) (k:=2) rfl rfl rfl (by kernel_rfl) ?_
 conv in lcC _=>cbv
 conv in lcC _=>cbv
 intro R B D hR hyc
 simp only [List.nil_append,List.cons_append] at hyc ⊢
 refine xh (psV L) (Hs.map psV) (by rw [az];omega) (fun i H=>∃ v,get H 1=some (.row 1 true [[v]])∧get H 2=some (.row 2 true [[psV L,.lst 1 ((Hs.map psV).map fun v=>[v])]])∧get H 3=some R∧kP 4 H v 12 ((eN (L::Hs) i).map sgc)) (fun _=>False) ?_ ?_ ?_ ?_ ?_
 ·rintro i H ⟨v,h⟩;exact h.2.1
 ·rintro i H hlt ⟨v,h0,h1,h2,h3⟩
  rw [az] at hlt
  rw [Ae hlt]
  have hr:=hg.get hlt
  refine hyc _ _ _ rfl h2 ?_
  clear hyc
  simp (disch:=omega) only [↓RS,RZ,simprocAttr,kR,lR,psV]
  rw [lV]
  refine ⟨h2,?_⟩
  have hN:=h3.1
  have q0:get (H.set 3 (some B)) 1=some (.row 1 true [[v]]):=by rw [bd (by omega)];exact h0
  have q1:get (H.set 3 (some B)) 2=some (.row 2 true [[psV L,.lst 1 ((Hs.map psV).map fun v=>[v])]]):=by rw [bd (by omega)];exact h1
  have q2:get (H.set 3 (some B)) 3=some B:=dF (by omega)
  have q3:=h3.set (c:=3) (x:=some B) (by omega)
  generalize H.set 3 (some B)=H1 at q0 q1 q2 q3 ⊢
  have ee:=wW ((L::Hs).getD i []) (by have:=hr.hi;omega) hr.ne
  simp (disch:=omega) only [↓RS,RZ,simprocAttr,q0]
  refine cX ee ?_
  simp (disch:=omega) only [↓RS,RZ,simprocAttr,ssV]
  obtain ⟨hl1,hl4⟩:=mM hg i (by omega)
  have hl2:=hr.hi
  refine kP.append q3 (Ai (uw _)) (by simp only [az,fD];omega) (by simp only [az,fD];omega) ?_
  intro v' H2 hb hk
  have r0:=hk 1 _ (by omega) q0
  have r1:=hk 2 _ (by omega) q1
  have r2:=hk 3 _ (by omega) q2
  have c1:=hb.one
  have c2:=hb.cel
  simp (disch:=omega) only [↓RS,RZ,simprocAttr,r0,c1,c2]
  rw [k6]
  have hl3:=hb.1
  refine ⟨by rw [bd (by omega)];exact r2,.inl ⟨rfl,v',?_,?_,?_,?_⟩⟩
  ·rw [bd (by omega),dF (by omega)]
  ·rw [bd (by omega),bd (by omega)];exact r1
  ·rw [dF (by rw [cO];omega)]
  ·show kP 4 _ v' 12 ((eN (L::Hs) i++aU ((L::Hs).getD i [])).map sgc)
   rw [bz]
   exact (hb.set (by omega)).set (by omega)
 ·exact ⟨_,rfl,rfl,rfl,.nil (by simp)⟩
 ·rintro v H ⟨u,h0,h1,h2,h3⟩
  rw [az] at h3
  refine .inl ⟨h2,?_⟩
  have hne:eN (L::Hs) (Hs.length+1)≠[]:=fun h=>oq hg Hs.length (List.length_eq_zero_iff.1 (by rw [←(mM hg (Hs.length+1) (ax _)).2,h];rfl))
  obtain ⟨b,hb,rfl,hg2⟩:=h3.cases (by simpa using hne)
  have e0:get (H.set 3 none) 1=some (.row 1 true [[.sref b 0 ((eN (L::Hs) (Hs.length+1)).map sgc).length ((eN (L::Hs) (Hs.length+1)).map sgc).length 12 false]]):=by rw [bd (by omega)];exact h0
  have e1:get (H.set 3 none) b=some (.row 12 true ((eN (L::Hs) (Hs.length+1)).map sgc)):=by rw [bd (by omega)];exact hg2
  have hvl:= @kB (H.set 3 none) 7 _ (uw (eN (L::Hs) (Hs.length+1)))
  generalize eN (L::Hs) (Hs.length+1)=C at*
  have hlen:(C.map sgc).length=C.length:=az ..
  have htk:(C.map sgc).take C.length=C.map sgc:=by rw [List.take_of_length_le (by omega)]
  simp (disch:=omega) only [↓RS,RZ,simprocAttr,e0,hlen]
  rw [e1]
  simp only [hlen,ax,if_true,htk]
  rw [hvl]
  rfl
 ·exact fun _ _ h=>h.elim
end Go.Av
namespace Go.Av
open Go.RowKit
open Go.Proofs.Tryz (prog)
def Fy (p:Rp):Bool:=decide (12<p.x.num.length)||(decide (12<p.x.den.length)||(decide (12<p.y.num.length)||decide (12<p.y.den.length)))
def nz (l:List Rp):Bool:=jI l.length fun i=>Fy (l.getD i default)
theorem kj {n i:Nat} {p:Nat→Bool} (hi:i<n) (h:p i=true):jI n p=true:=List.any_eq_true.2 ⟨i,by simpa using hi,h⟩
theorem lQ {n:Nat} {p:Nat→Bool} (h:∀ i,i<n→p i=false):jI n p=false:=by
 unfold jI;rw [List.any_eq_false];intro i hi;rw [h i (by simpa using hi)];simp
theorem mP {n i:Nat} {p:Nat→Bool} (h:jI n p=false) (hi:i<n):p i=false:=by
 cases hp:p i with
 |false=>rfl
 |true=>rw [kj hi hp] at h;cases h
theorem A9 (l:List Rp) (hn:l.length<2^63) (hf:∀ p∈l,p.fit):PC prog 29 [dH l] (.prim (.bool (nz l))):=by
 refine PCi ?_
 conv in bL _ _=>cbv
 simp only [bM,RN,simprocAttr]
 simp (disch:=omega) only [↓RS,RZ,simprocAttr]
 refine eG (fun (i:Nat) J=>ov [(0,dH l),(3,.prim (.int .i64 ((i:Nat):Int)))] J 0 48) (fun i H=>(i≤l.length∧∀ j,j<i→Fy (l.getD j default)=false)∧H=[]) (fun i=>l.length-i) 0 rfl ⟨⟨bh _,fun j hj=>absurd hj (Nat.not_lt_zero j)⟩,rfl⟩ ?_
 rintro i J _ ⟨⟨hi,hp⟩,rfl⟩
 try conv in ov _ _ _ _=>simp only [ov,List.lookup,RO,simprocAttr]
 rcases am i l.length with hlt|hge
 ·have g:=Gc hlt
  have hmem:l.getD i default∈l:=by rw [ae,af hlt];exact bx hlt
  have hfit:=hf _ hmem
  generalize hp':l.getD i default=p at g hfit
  obtain ⟨⟨f1,f2⟩,f3,f4⟩:=hfit
  have hm:maxLen<2^63:=by decide
  by_cases c1:12<p.x.num.length
  ·rw [show nz l=true from kj hlt (by rw [hp'];simp only [Fy,aE,Bool.or_eq_true];omega)]
   simp (disch:=omega) only [↓RS,RZ,simprocAttr,dH,bX,g,rpc,fP]
  ·by_cases c2:12<p.x.den.length
   ·rw [show nz l=true from kj hlt (by rw [hp'];simp only [Fy,aE,Bool.or_eq_true];omega)]
    simp (disch:=omega) only [↓RS,RZ,simprocAttr,dH,bX,g,rpc,fP]
   ·by_cases c3:12<p.y.num.length
    ·rw [show nz l=true from kj hlt (by rw [hp'];simp only [Fy,aE,Bool.or_eq_true];omega)]
     simp (disch:=omega) only [↓RS,RZ,simprocAttr,dH,bX,g,rpc,fP]
    ·by_cases c4:12<p.y.den.length
     ·rw [show nz l=true from kj hlt (by rw [hp'];simp only [Fy,aE,Bool.or_eq_true];omega)]
      simp (disch:=omega) only [↓RS,RZ,simprocAttr,dH,bX,g,rpc,fP]
     ·simp (disch:=omega) only [↓RS,RZ,simprocAttr,dH,bX,g,rpc,fP]
      exact bl (i+1) rfl ⟨⟨hlt,fun j hj=>by
       rcases am j i with h|h
       ·exact hp j h
       ·rw [show j=i by omega,hp'];simp only [Fy,ak c1,ak c2,ak c3,ak c4];rfl⟩,rfl⟩ (by omega)
 ·have hia:i=l.length:=by omega
  subst hia
  have:nz l=false:=lQ hp
  rw [this]
  simp (disch:=omega) only [↓RS,RZ,simprocAttr,dH,bX]
def nw (O:List Rp) (hs:List (List Rp)):Bool:=
 decide (10<O.length∧O.length≤64)||(decide (67<O.length)||(nz O||(jI (min hs.length 11) (fun i=>decide (6<(hs.getD i []).length)||nz (hs.getD i []))||(decide (3<hs.length∧hs.length≤8)||decide (10<hs.length)))))
theorem LV (O:List Rp) (hs:List (List Rp)) (hn:hs.length<2^63) (nO:O.length<2^63) (kO:∀ p∈O,p.fit) (kh:∀ l∈hs,l.length<2^63∧∀ p∈l,p.fit):
 PC prog 71 [pgV O hs] (.prim (.bool (nw O hs))):=by
 have c:=A9 O nO kO
 have mem:∀ j,j<hs.length→hs.getD j []∈hs:=fun j hj=>by
  rw [ae,af hj];exact bx hj
 refine PCi ?_
 conv in bL _ _=>cbv
 simp only [bM,RN,simprocAttr]
 by_cases c1:10<O.length∧O.length≤64
 ·obtain ⟨c1,c1'⟩:=c1
  rw [show nw O hs=true by unfold nw;rw [an (show 10<O.length∧O.length≤64 from ⟨c1,c1'⟩)];rfl]
  simp (disch:=omega) only [↓RS,RZ,simprocAttr,pgV,hsV,dH,bX,co,c8]
 have d1:decide (10<O.length∧O.length≤64)=false:=ak c1
 by_cases c2:67<O.length
 ·rw [show nw O hs=true by unfold nw;rw [an c2];simp]
  simp (disch:=omega) only [↓RS,RZ,simprocAttr,pgV,hsV,dH,bX,co,c8]
 have d2:decide (67<O.length)=false:=ak c2
 cases c3:nz O with
 |true=>
  rw [show nw O hs=true by unfold nw;rw [c3];simp]
  rw [c3] at c
  rcases am 10 O.length with hl1|hl1
  ·have hl2:64<O.length:=by omega
   simp (disch:=omega) only [↓RS,RZ,simprocAttr,pgV,hsV,dH,bX,co,c8]
   refine cX c ?_
   simp (disch:=omega) only [↓RS,RZ,simprocAttr]
  ·simp (disch:=omega) only [↓RS,RZ,simprocAttr,pgV,hsV,dH,bX,co,c8]
   refine cX c ?_
   simp (disch:=omega) only [↓RS,RZ,simprocAttr]
 |false=>
  rw [c3] at c
  have fin:∀ (b:Bool),(jI (min hs.length 11) (fun i=>decide (6<(hs.getD i []).length)||nz (hs.getD i []))||(decide (3<hs.length∧hs.length≤8)||decide (10<hs.length)))=b→nw O hs=b:=by
   intro b hb;unfold nw;rw [d1,d2,c3,hb];rfl
  rcases am 10 O.length with hl1|hl1
  ·have hl2:64<O.length:=by omega
   simp (disch:=omega) only [↓RS,RZ,simprocAttr,pgV,hsV,dH,bX,co,c8]
   refine cX c ?_
   simp (disch:=omega) only [↓RS,RZ,simprocAttr]
   refine eG (fun (i:Nat) J=>ov [(1,.ptr 0 0 0),(4,.prim (.int .i64 ((i:Nat):Int)))] J 0 65) (fun i H=>(i≤min hs.length 11∧∀ j,j<i→(decide (6<(hs.getD j []).length)||nz (hs.getD j []))=false)∧H=[some (.row 2 true [[dH O,hsV hs]])]) (fun i=>11-i) 0 rfl ⟨⟨bh _,fun j hj=>absurd hj (Nat.not_lt_zero j)⟩,rfl⟩ ?_
   rintro i J _ ⟨⟨hi,hp⟩,rfl⟩
   try conv in ov _ _ _ _=>simp only [ov,List.lookup,RO,simprocAttr]
   rcases am i (min hs.length 11) with hlt|hge
   ·have hi1:i<hs.length:=by omega
    have hi2:i<11:=by omega
    have g:((hs.map dH).map fun v=>[v]).getD i []=[dH (hs.getD i [])]:=by rw [rB (by rw [c8];exact hi1),E0 hi1]
    have d:=A9 (hs.getD i []) (kh _ (mem i hi1)).1 (kh _ (mem i hi1)).2
    have hll:=(kh _ (mem i hi1)).1
    by_cases h6:6<(hs.getD i []).length
    ·rw [fin true (by rw [kj hlt (by rw [an h6];rfl)];rfl)]
     simp (disch:=omega) only [↓RS,RZ,simprocAttr,pgV,hsV,dH,bX,co,c8,g]
    ·cases hg:nz (hs.getD i []) with
     |true=>
      rw [fin true (by rw [kj hlt (by rw [hg];simp)];rfl)]
      rw [hg] at d
      simp (disch:=omega) only [↓RS,RZ,simprocAttr,pgV,hsV,dH,bX,co,c8,g]
      refine cX d ?_
      simp (disch:=omega) only [↓RS,RZ,simprocAttr]
     |false=>
      rw [hg] at d
      simp (disch:=omega) only [↓RS,RZ,simprocAttr,pgV,hsV,dH,bX,co,c8,g]
      refine cX d ?_
      simp (disch:=omega) only [↓RS,RZ,simprocAttr]
      exact bl (i+1) rfl ⟨⟨hlt,fun j hj=>by
       rcases am j i with h|h
       ·exact hp j h
       ·rw [show j=i by omega,hg,ak h6];rfl⟩,rfl⟩ (by omega)
   ·have hany:=lQ (n:=min hs.length 11) (fun j hj=>hp j (by omega))
    rcases am 10 hs.length with hA|hA
    ·rw [fin true (by rw [hany,an hA];simp)]
     have hA2:8<hs.length:=by omega
     rcases am i hs.length with hX|hX
     ·have hX2:11≤i:=by omega
      simp (disch:=omega) only [↓RS,RZ,simprocAttr,pgV,hsV,dH,bX,co,c8]
     ·simp (disch:=omega) only [↓RS,RZ,simprocAttr,pgV,hsV,dH,bX,co,c8]
    ·have hX:hs.length≤i:=by omega
     by_cases hB:3<hs.length∧hs.length≤8
     ·rw [fin true (by rw [hany,an hB];rfl)]
      obtain ⟨hB1,hB2⟩:=hB
      simp (disch:=omega) only [↓RS,RZ,simprocAttr,pgV,hsV,dH,bX,co,c8]
     ·rw [fin false (by rw [hany,ak hB,ak (Nat.not_lt.2 hA)];rfl)]
      rcases am 3 hs.length with hC|hC
      ·have hC2:8<hs.length:=by omega
       simp (disch:=omega) only [↓RS,RZ,simprocAttr,pgV,hsV,dH,bX,co,c8]
      ·simp (disch:=omega) only [↓RS,RZ,simprocAttr,pgV,hsV,dH,bX,co,c8]
  ·simp (disch:=omega) only [↓RS,RZ,simprocAttr,pgV,hsV,dH,bX,co,c8]
   refine cX c ?_
   simp (disch:=omega) only [↓RS,RZ,simprocAttr]
   refine eG (fun (i:Nat) J=>ov [(1,.ptr 0 0 0),(4,.prim (.int .i64 ((i:Nat):Int)))] J 0 65) (fun i H=>(i≤min hs.length 11∧∀ j,j<i→(decide (6<(hs.getD j []).length)||nz (hs.getD j []))=false)∧H=[some (.row 2 true [[dH O,hsV hs]])]) (fun i=>11-i) 0 rfl ⟨⟨bh _,fun j hj=>absurd hj (Nat.not_lt_zero j)⟩,rfl⟩ ?_
   rintro i J _ ⟨⟨hi,hp⟩,rfl⟩
   try conv in ov _ _ _ _=>simp only [ov,List.lookup,RO,simprocAttr]
   rcases am i (min hs.length 11) with hlt|hge
   ·have hi1:i<hs.length:=by omega
    have hi2:i<11:=by omega
    have g:((hs.map dH).map fun v=>[v]).getD i []=[dH (hs.getD i [])]:=by rw [rB (by rw [c8];exact hi1),E0 hi1]
    have d:=A9 (hs.getD i []) (kh _ (mem i hi1)).1 (kh _ (mem i hi1)).2
    have hll:=(kh _ (mem i hi1)).1
    by_cases h6:6<(hs.getD i []).length
    ·rw [fin true (by rw [kj hlt (by rw [an h6];rfl)];rfl)]
     simp (disch:=omega) only [↓RS,RZ,simprocAttr,pgV,hsV,dH,bX,co,c8,g]
    ·cases hg:nz (hs.getD i []) with
     |true=>
      rw [fin true (by rw [kj hlt (by rw [hg];simp)];rfl)]
      rw [hg] at d
      simp (disch:=omega) only [↓RS,RZ,simprocAttr,pgV,hsV,dH,bX,co,c8,g]
      refine cX d ?_
      simp (disch:=omega) only [↓RS,RZ,simprocAttr]
     |false=>
      rw [hg] at d
      simp (disch:=omega) only [↓RS,RZ,simprocAttr,pgV,hsV,dH,bX,co,c8,g]
      refine cX d ?_
      simp (disch:=omega) only [↓RS,RZ,simprocAttr]
      exact bl (i+1) rfl ⟨⟨hlt,fun j hj=>by
       rcases am j i with h|h
       ·exact hp j h
       ·rw [show j=i by omega,hg,ak h6];rfl⟩,rfl⟩ (by omega)
   ·have hany:=lQ (n:=min hs.length 11) (fun j hj=>hp j (by omega))
    rcases am 10 hs.length with hA|hA
    ·rw [fin true (by rw [hany,an hA];simp)]
     have hA2:8<hs.length:=by omega
     rcases am i hs.length with hX|hX
     ·have hX2:11≤i:=by omega
      simp (disch:=omega) only [↓RS,RZ,simprocAttr,pgV,hsV,dH,bX,co,c8]
     ·simp (disch:=omega) only [↓RS,RZ,simprocAttr,pgV,hsV,dH,bX,co,c8]
    ·have hX:hs.length≤i:=by omega
     by_cases hB:3<hs.length∧hs.length≤8
     ·rw [fin true (by rw [hany,an hB];rfl)]
      obtain ⟨hB1,hB2⟩:=hB
      simp (disch:=omega) only [↓RS,RZ,simprocAttr,pgV,hsV,dH,bX,co,c8]
     ·rw [fin false (by rw [hany,ak hB,ak (Nat.not_lt.2 hA)];rfl)]
      rcases am 3 hs.length with hC|hC
      ·have hC2:8<hs.length:=by omega
       simp (disch:=omega) only [↓RS,RZ,simprocAttr,pgV,hsV,dH,bX,co,c8]
      ·simp (disch:=omega) only [↓RS,RZ,simprocAttr,pgV,hsV,dH,bX,co,c8]
end Go.Av
namespace Go.Av
open Go.RowKit
open Go.Proofs.Tryz (prog)
structure m5 (O:List Rp) (hs:List (List Rp)):Prop where
 chk:Fr O hs=0
 kO:∀ p∈O,p.le (2^16)
 kh:∀ l∈hs,l.length<2^50∧∀ p∈l,p.le (2^16)
theorem m5.o0 {O:List Rp} {hs:List (List Rp)} (h:m5 O hs):sR O=0:=by
 have:=h.chk
 unfold Fr at this
 split at this
 ·exact this
 ·rename_i h2;simpa using h2
theorem m5.few {O:List Rp} {hs:List (List Rp)} (h:m5 O hs):hs.length≤8:=by
 have:=h.chk
 unfold Fr at this
 rw [if_neg (fun h2=>h2 h.o0)] at this
 split at this
 ·cases this
 ·omega
theorem m5.hz {O:List Rp} {hs:List (List Rp)} (h:m5 O hs):∀ j,j<hs.length→zm O hs j=0:=by
 have:=h.chk
 unfold Fr at this
 rw [if_neg (fun h2=>h2 h.o0),if_neg (by have:=h.few;omega)] at this
 exact E8 this
theorem m5.hr {O:List Rp} {hs:List (List Rp)} (h:m5 O hs):∀ l∈hs,sR l=0:=by
 intro l hl
 obtain ⟨i,hi,rfl⟩:=bK.1 hl
 have:=rL (h.hz i hi)
 rwa [ae,af hi] at this
theorem m5.rgs {O:List Rp} {hs:List (List Rp)} (h:m5 O hs):Rgs (pts O) (hs.map pts):=by
 refine ⟨(r7 h.o0 h.kO).1,?_,by rw [az];exact h.few⟩
 intro l hl
 obtain ⟨k,hk,rfl⟩:=av.1 hl
 exact (r7 (h.hr k hk) (h.kh k hk).2).1
theorem m5.val {O:List Rp} {hs:List (List Rp)} (h:m5 O hs):pgV O hs=cgV (pts O) (hs.map pts):=by
 unfold pgV cgV hsV
 rw [(r7 h.o0 h.kO).2]
 have:hs.map dH=(hs.map pts).map psV:=by
  rw [List.map_map]
  exact List.map_congr_left fun l hl=>(r7 (h.hr l hl) (h.kh l hl).2).2
 rw [this]
theorem m5.no {O:List Rp} {hs:List (List Rp)} (h:m5 O hs):O.length≤64:=by have:=h.rgs.out.hi;rwa [oJ] at this
theorem m5.check_pc {O:List Rp} {hs:List (List Rp)} (h:m5 O hs):PC prog 49 [cgV (pts O) (hs.map pts)] (.prim (.int .i64 (0))):=by
 have:=Ek O hs (by have:=h.few;omega) (by have:=h.no;omega) h.kO h.kh
 rw [h.chk,h.val] at this
 exact this
theorem BS {O:List Rp} {hs:List (List Rp)} (h:m5 O hs):PC prog 12 [cgV (pts O) (hs.map pts)] (.tup [psV (bP (pts O::hs.map pts) (hs.length+1)),.prim (.int .i64 (0))]):=by
 have c:=h.check_pc
 have d:=Bw _ _ h.rgs
 rw [az] at d
 refine PCi ?_
 conv in bL _ _=>cbv
 simp only [bM,RN,simprocAttr]
 simp (disch:=omega) only [↓RS,RZ,simprocAttr,cgV,psV]
 refine cX c ?_
 simp (disch:=omega) only [↓RS,RZ,simprocAttr,psV]
 refine cX d ?_
 simp (disch:=omega) only [↓RS,RZ,simprocAttr,psV]
theorem Mu {O:List Rp} {hs:List (List Rp)} (h:m5 O hs):PC prog 37 [cgV (pts O) (hs.map pts)] (.tup [ssV (eN (pts O::hs.map pts) (hs.length+1)),.prim (.int .i64 (0))]):=by
 have c:=h.check_pc
 have d:=G5 _ _ h.rgs
 rw [az] at d
 refine PCi ?_
 conv in bL _ _=>cbv
 simp only [bM,RN,simprocAttr]
 simp (disch:=omega) only [↓RS,RZ,simprocAttr,cgV,psV]
 refine cX c ?_
 simp (disch:=omega) only [↓RS,RZ,simprocAttr,psV]
 refine cX d ?_
 simp (disch:=omega) only [↓RS,RZ,simprocAttr,ssV]
theorem Rgs.hole {L:List Pt} {Hs:List (List Pt)} (h:Rgs L Hs) {i:Nat} (hi:i<Hs.length):jo (Hs.getD i []):=by
 rw [ae,af hi]
 exact h.holes _ (bx hi)
def qF (n:Nat) (f:Nat→Int):Int:=match (List.range n).find? (fun i=>decide (f i≤0)) with
 |some i=>f i
 |none=>1
theorem oS {n i:Nat} {f:Nat→Int} (hi:i<n) (h:f i≤0) (hf:∀ j,j<i→0<f j):qF n f=f i:=by
 unfold qF
 have:(List.range n).find? (fun i=>decide (f i≤0))=some i:=by
  rw [List.find?_range_eq_some]
  exact ⟨by simpa using h,by simpa using hi,fun j hj=>by have:=hf j hj;simp;omega⟩
 rw [this]
theorem pM {n:Nat} {f:Nat→Int} (hf:∀ j,j<n→0<f j):qF n f=1:=by
 unfold qF
 have:(List.range n).find? (fun i=>decide (f i≤0))=none:=by
  rw [List.find?_eq_none];intro j hj;have:=hf j (by simpa using hj);simp;omega
 rw [this]
def lX (Ls:List (List Pt)) (q:Pt) (i:Nat):Int:=if 0<i then-fI (Ls.getD i []) q else fI (Ls.getD i []) q
def gE (L:List Pt) (Hs:List (List Pt)) (q:Pt):Int:=qF (Hs.length+1) (lX (L::Hs) q)
theorem CW (L:List Pt) (q:Pt): -1≤fI L q∧fI L q≤1:=by unfold fI;split<;>(try split)<;>omega
theorem FQ (L:List Pt) (Hs:List (List Pt)) (q:Pt) (hg:Rgs L Hs) (hq:hp q≤2^20):PC prog 67 [cgV L Hs,pV q] (.prim (.int .i64 (gE L Hs q))):=by
 have hf:=hg.few
 refine PCi ?_
 conv in bL _ _=>cbv
 simp only [bM,RN,simprocAttr]
 simp (disch:=omega) only [↓RS,RZ,simprocAttr,cgV,pV,ptV]
 refine bI (Ad (psV L) (Hs.map psV) ?_)
 simp (disch:=omega) only [↓RS,RZ,simprocAttr]
 refine vI rE (n:=4) (k:=2) rfl rfl rfl (by kernel_rfl) ?_
 conv in lcC _=>cbv
 conv in lcC _=>cbv
 intro R B D hR hyc
 simp only [List.nil_append,List.cons_append] at hyc ⊢
 refine xh (psV L) (Hs.map psV) (by rw [az];omega) (fun i H=>get H 1=some (.row 6 true [pc q])∧(∃ z,get H 2=some (.row 1 true [[z]]))∧get H 3=some (.row 2 true [[psV L,.lst 1 ((Hs.map psV).map fun v=>[v])]])∧get H 4=some R∧∀ j,j<i→0<lX (L::Hs) q j)
  (fun H=>get H 2=some (.row 1 true [[.prim (.int .i64 (gE L Hs q))]])∧get H 4=some (D .ret)) ?_ ?_ ?_ ?_ ?_
 ·rintro i H h;exact h.2.2.1
 ·rintro i H hlt ⟨h0,⟨z,h1⟩,h2,h3,h4⟩
  rw [az] at hlt
  rw [Ae hlt]
  have hr:=hg.get hlt
  refine hyc _ _ _ rfl h3 ?_
  clear hyc
  simp (disch:=omega) only [↓RS,RZ,simprocAttr,kR,lR,psV]
  rw [lV]
  refine ⟨h3,?_⟩
  have hN:=bF h3
  have q0:get (H.set 4 (some B)) 1=some (.row 6 true [pc q]):=by rw [bd (by omega)];exact h0
  have q1:get (H.set 4 (some B)) 2=some (.row 1 true [[z]]):=by rw [bd (by omega)];exact h1
  have q2:get (H.set 4 (some B)) 3=some (.row 2 true [[psV L,.lst 1 ((Hs.map psV).map fun v=>[v])]]):=by rw [bd (by omega)];exact h2
  have q3:get (H.set 4 (some B)) 4=some B:=dF hN
  have hl:4<(H.set 4 (some B)).length:=by rw [cO];exact hN
  generalize H.set 4 (some B)=H1 at q0 q1 q2 q3 hl ⊢
  have ci:=El ((L::Hs).getD i []) q hr hq
  have hb:=CW ((L::Hs).getD i []) q
  have hrs:lX (L::Hs) q i=if 0<i then-fI ((L::Hs).getD i []) q else fI ((L::Hs).getD i []) q:=rfl
  simp (disch:=omega) only [↓RS,RZ,simprocAttr,q0,pc]
  refine cX ci ?_
  generalize fI ((L::Hs).getD i []) q=n at hb hrs ⊢
  have yes:∀ (T:List V) (x:Int),lX (L::Hs) q i=x→x≤0→rdQ 4 R B D (yQ (fun H=>get H 1=some (.row 6 true [pc q])∧(∃ z,get H 2=some (.row 1 true [[z]]))∧get H 3=some (.row 2 true [[psV L,.lst 1 ((Hs.map psV).map fun v=>[v])]])∧get H 4=some R∧∀ j,j<i+1→0<lX (L::Hs) q j) (fun H=>get H 2=some (.row 1 true [[.prim (.int .i64 (gE L Hs q))]])∧get H 4=some (D .ret))) .ret T (H1.set 2 (some (.row 1 true [[.prim (.int .i64 (x))]]))):=by
   rintro T x hx hx0
   rw [JI]
   refine ⟨by rw [bd (by omega)];exact q3,.inr ⟨rfl,?_,dF (by rw [cO];exact hl)⟩⟩
   rw [bd (by omega),dF (by omega)]
   rw [show gE L Hs q=x by unfold gE;rw [oS (i:=i) (by omega) (by rw [hx];exact hx0) h4,hx]]
  have no:∀ (T:List V),0<lX (L::Hs) q i→rdQ 4 R B D (yQ (fun H=>get H 1=some (.row 6 true [pc q])∧(∃ z,get H 2=some (.row 1 true [[z]]))∧get H 3=some (.row 2 true [[psV L,.lst 1 ((Hs.map psV).map fun v=>[v])]])∧get H 4=some R∧∀ j,j<i+1→0<lX (L::Hs) q j) (fun H=>get H 2=some (.row 1 true [[.prim (.int .i64 (gE L Hs q))]])∧get H 4=some (D .ret))) .normal T H1:=by
   rintro T hx
   rw [k6]
   refine ⟨q3,.inl ⟨rfl,by rw [bd (by omega)];exact q0,⟨z,by rw [bd (by omega)];exact q1⟩,by rw [bd (by omega)];exact q2,dF hl,fun j hj=> ?_⟩⟩
   rcases am j i with h|h
   ·exact h4 j h
   ·rw [show j=i by omega];exact hx
  rcases Nat.eq_zero_or_pos i with h0|hpos
  ·subst h0
   rw [if_neg (by omega)] at hrs
   rcases Int.lt_or_le 0 n with hn|hn
   ·simp (disch:=omega) only [↓RS,RZ,simprocAttr]
    exact no _ (by rw [hrs];exact hn)
   ·simp (disch:=omega) only [↓RS,RZ,simprocAttr,q1]
    exact yes _ _ hrs hn
  ·rw [if_pos hpos] at hrs
   rcases Int.lt_or_le n 0 with hn|hn
   ·simp (disch:=omega) only [↓RS,RZ,simprocAttr,Int.zero_sub]
    exact no _ (by rw [hrs];omega)
   ·simp (disch:=omega) only [↓RS,RZ,simprocAttr,q1,Int.zero_sub]
    exact yes _ _ hrs (by omega)
 ·exact ⟨rfl,⟨_,rfl⟩,rfl,rfl,fun j hj=>absurd hj (Nat.not_lt_zero j)⟩
 ·rintro v H ⟨h0,⟨z,h1⟩,h2,h3,h4⟩
  rw [az] at h4
  have hN:=bF h3
  refine .inl ⟨h3,?_⟩
  have e1:get (H.set 4 none) 2=some (.row 1 true [[z]]):=by rw [bd (by omega)];exact h1
  have s1:∀ x,get ((H.set 4 none).set 2 x) 2=x:=fun x=>dF (by rw [cO];omega)
  rw [show gE L Hs q=1 from pM h4]
  simp (disch:=omega) only [↓RS,RZ,simprocAttr,e1,s1]
 ·rintro v H ⟨h1,h3⟩
  refine .inr ⟨.ret,h3,?_⟩
  have e1:get (H.set 4 none) 2=some (.row 1 true [[.prim (.int .i64 (gE L Hs q))]]):=by rw [bd (by omega)];exact h1
  simp (disch:=omega) only [↓RS,RZ,simprocAttr,e1]
theorem vd (p:Pt) (h:hp p≤2^20):PC prog 30 [pV p] (.prim (.int .i64 (0))):=by
 have c:=CN (can p.x) (can p.y) (nB (bi (sP p) (by omega))) (nB (bi (rG p) (by omega)))
 rw [if_pos (by simp only [ln];trivial)] at c
 exact c
theorem Jj {O:List Rp} {hs:List (List Rp)} (h:m5 O hs) (q:Pt) (hq:hp q≤2^20):PC prog 32 [cgV (pts O) (hs.map pts),pV q] (.tup [.prim (.int .i64 (gE (pts O) (hs.map pts) q)),.prim (.int .i64 (0))]):=by
 have c:=h.check_pc
 have d:=vd q hq
 have w:=FQ _ _ q h.rgs hq
 generalize hs.map pts=Hs at*
 generalize pts O=L at*
 refine PCi ?_
 conv in bL _ _=>cbv
 simp only [bM,RN,simprocAttr]
 simp (disch:=omega) only [↓RS,RZ,simprocAttr,cgV,psV,pV,ptV]
 refine cX c ?_
 simp (disch:=omega) only [↓RS,RZ,simprocAttr,psV,pV,ptV]
 refine cX d ?_
 simp (disch:=omega) only [↓RS,RZ,simprocAttr,psV,pV,ptV]
 refine cX w ?_
 simp (disch:=omega) only [↓RS,RZ,simprocAttr]
end Go.Av
namespace Go.Av
open Go.RowKit
open Go.Proofs.Tryz (prog)
theorem vW {H:Hp} {b:Nat} {k:Blk} (h:get H b=some k):H.set b (some k)=H:=by
 refine List.ext_getElem? fun c=> ?_
 rw [fS]
 split
 ·rename_i hc
  subst hc
  have hl:=bF h
  rw [if_pos hl]
  simp only [get,af hl,Option.join_some] at h ⊢
  rw [h]
 ·rfl
def hq (l:List Rat) (k:Nat):Prop:=∀ i,i<l.length→ht (l.getD i 0)≤k
theorem Bl {l:List Rat} {i j:Nat} {x:Rat} (hj:j<l.length):(l.set j x).getD i 0=if i=j then x else l.getD i 0:=by
 rw [ae,fS,ae]
 by_cases h:j=i
 ·subst h;simp [hj]
 ·rw [if_neg h,if_neg (fun e=>h e.symm)]
theorem OF (x:Nat) (hx:x<256):PC prog 169 [.prim (.int .u64 ((x:Nat):Int))] (.prim (.int .i64 ((blen x:Nat):Int))):=by
 refine PCi ?_
 conv in bL _ _=>cbv
 simp only [bM,RN,simprocAttr]
 have fin:some (V.prim (Value.int IntKind.i64 (IntKind.i64.wrap ((0:Int)+IntKind.i64.wrap ((AF.getD x 0).toNat:Nat)))))=some (V.prim (Value.int IntKind.i64 (blen x:Nat))):=by
  have:= @uL x 8 hx
  rw [tG x hx,nN (by omega),jd (by omega) (by omega)]
  simp
 simp (maxSteps:=2000000) (disch:=omega) only [↓RS,RY,simprocAttr]
 exact fin
theorem xY (x:Nat) (hx:x<256):PC prog 97 [.prim (.int .u64 ((x:Nat):Int))] (.prim (.int .i64 ((blen x:Nat):Int))):=by
 have c:=OF x hx
 refine PCi ?_
 conv in bL _ _=>cbv
 simp only [bM,RN,simprocAttr]
 simp (disch:=omega) only [↓RS,RZ,simprocAttr,kS]
 refine cX c ?_
 simp (disch:=omega) only [↓RS,RZ,simprocAttr]
end Go.Av
