/- Helping texts: Li. -/
import Derived.Test.YtkmlhdfpcjkekaaGreatKLg
import Derived.Test.YtkmlhdfpcjkekaaGreatKLu4
set_option linter.unusedSimpArgs false
set_option linter.unusedVariables false
set_option maxRecDepth 100000
set_option maxHeartbeats 16000000
namespace Go.Av
open Go.RowKit
open Go.Proofs.Tryz (prog)
theorem sY {l:List Sg} {i:Nat} (h:i<l.length):l.take (i+1)=l.take i++[l.getD i sg0]:=by
 rw [List.take_add_one,ae,af h];rfl
def ltV (l:List Tri):V:=if l=[] then .prim (.slice none 0 0) else tsV l
structure x9 (A:V) (l:List Pt) (K:List Sg) (N:Nat) (X:Blk) (v:V) (out:List Tri) (H:Hp):Prop where
 p:get H 0=some (.row 2 true [A.cells])
 l1:get H 1=some (.row 1 true [[psV l]])
 m:get H 2=some (.mp (mpM K))
 m3:get H 3=some (.row 1 true [[.mpr 2]])
 o:get H N=some (.row 1 true [[v]])
 l2:get H (N+1)=some (.row 1 true [[psV l]])
 x:get H (N+2)=some X
 b:kP (N+3) H v 18 (out.map trc)
 z:out=[]→v= .prim (.slice none 0 0)
 n:3<N
theorem x9.ext {A:V} {l:List Pt} {K:List Sg} {N:Nat} {X:Blk} {v:V} {out:List Tri} {H H':Hp} (h:x9 A l K N X v out H) (hE:Ext H H'):x9 A l K N X v out H':=
 ⟨hE.get h.p,hE.get h.l1,hE.get h.m,hE.get h.m3,hE.get h.o,hE.get h.l2,hE.get h.x,hE.buf h.b,h.z,h.n⟩
theorem x9.setX {A:V} {l:List Pt} {K:List Sg} {N:Nat} {X Y:Blk} {v:V} {out:List Tri} {H:Hp} (h:x9 A l K N X v out H):x9 A l K N Y v out (H.set (N+2) (some Y)):=by
 have hn:=h.n
 exact ⟨by rw [bd (by omega)];exact h.p,by rw [bd (by omega)];exact h.l1,by rw [bd (by omega)];exact h.m,by rw [bd (by omega)];exact h.m3,by rw [bd (by omega)];exact h.o,
  by rw [bd (by omega)];exact h.l2,dF (bF h.x),h.b.set (by omega),h.z,hn⟩
theorem HC (K:List Sg) (l:List Pt) (W:Pt→Int) (s:Sg) (out:List Tri) (q:Pt):(rS K l W s out q).length≤out.length+1:=by
 unfold rS;split<;>simp
theorem pQ (K:List Sg) (l:List Pt) (W:Pt→Int) (s:Sg):∀ (r:List Pt) (out:List Tri),(r.foldl (rS K l W s) out).length≤out.length+r.length
 |[],out=>by simp
 |q::r,out=>by
  have h1:=pQ K l W s r (rS K l W s out q)
  have h2:=HC K l W s out q
  simp only [List.foldl_cons,aC];omega
theorem BI (K:List Sg) (l:List Pt) (W:Pt→Int) (m:List (Nat×Nat)):(ke K l W m).length≤m.length*l.length:=by
 have:∀ (m:List (Nat×Nat)) (out:List Tri),(m.foldl (fun out x=>rT K l W out (prS l x)) out).length≤out.length+m.length*l.length:=by
  intro m
  induction m with
  |nil=>intro out;simp
  |cons x m ih=>
   intro out
   have h1:=ih (rT K l W out (prS l x))
   have h2:(rT K l W out (prS l x)).length≤out.length+l.length:=by
    unfold rT;split
    ·exact pQ ..
    ·omega
   simp only [List.foldl_cons,aC]
   rw [Nat.succ_mul];omega
 have:=this m []
 simpa [ke] using this
theorem Ex {l:List Pt} {i:Nat} (h:i<l.length):l.take (i+1)=l.take i++[l.getD i default]:=by
 rw [List.take_add_one,ae,af h];rfl
theorem LS {s:Sg} {q:Pt} {k:Nat} (h1:hs s≤k) (h2:hp q≤k):ht3 (jr s q)≤k:=by
 have:=sO s;have:=tK s
 unfold jr;split
 ·exact EZ (by omega) h2 (by omega)
 ·exact EZ (by omega) (by omega) h2
theorem Ej (K:List Sg) (l:List Pt) (W:Pt→Int) (s:Sg) (P:Tri→Prop):∀ (r:List Pt) (out:List Tri),(∀ q∈r,P (jr s q))→(∀ t∈out,P t)→∀ t∈r.foldl (rS K l W s) out,P t
 |[],out,_,h=>h
 |q::r,out,h1,h2=>by
  refine Ej K l W s P r _ (fun x hx=>h1 x (ag _ hx)) ?_
  unfold rS;split
  ·intro t ht
   rcases aF.1 ht with ht|ht
   ·exact h2 t ht
   ·rw [bH.1 ht];exact h1 q (ah ..)
  ·exact h2
theorem Hu (K:List Sg) (l:List Pt) (W:Pt→Int) (P:Tri→Prop) (m:List (Nat×Nat)) (h:∀ x∈m,∀ q∈l,P (jr (prS l x) q)):∀ t∈ke K l W m,P t:=by
 have:∀ (m:List (Nat×Nat)) (out:List Tri),(∀ x∈m,∀ q∈l,P (jr (prS l x) q))→(∀ t∈out,P t)→∀ t∈m.foldl (fun out x=>rT K l W out (prS l x)) out,P t:=by
  intro m
  induction m with
  |nil=>intro out _ h;exact h
  |cons x m ih=>
   intro out h1 h2
   refine ih _ (fun y hy=>h1 y (ag _ hy)) ?_
   show ∀ t∈rT K l W out (prS l x),P t
   unfold rT;split
   ·exact Ej K l W _ P l out (h1 x (ah ..)) h2
   ·exact h2
 exact this m [] h (fun t ht=>by cases ht)
theorem mD {n:Nat} {x:Nat×Nat}:∀ {i:Nat},x∈fL n i↔x.1<i∧x.1<x.2∧x.2<n
 |0=>by simp [fL]
 |i+1=>by
  rw [fL,aF,mD]
  obtain ⟨a,b⟩:=x
  simp only [av,dz,Prod.mk.injEq]
  constructor
  ·rintro (⟨h1,h2,h3⟩|⟨d,h1,rfl,rfl⟩)
   ·exact ⟨by omega,h2,h3⟩
   ·exact ⟨by omega,by omega,by omega⟩
  ·rintro ⟨h1,h2,h3⟩
   rcases am a i with h|h
   ·exact .inl ⟨h,h2,h3⟩
   ·exact .inr ⟨b-i-1,by omega,by omega,by omega⟩
theorem PU {L:List Pt} {Hs:List (List Pt)} {l:List Pt} {E ds:List Sg} {W:Pt→Int} (hC:PC prog 52 [cgV L Hs] (.tup [psV l,.prim (.int .i64 (0))]))
 (hE:PC prog 37 [cgV L Hs] (.tup [ssV E,.prim (.int .i64 (0))])) (hDs:PC prog 53 [cgV L Hs,psV l] (ssV ds))
 (hW:∀ q,hp q≤2^20→PC prog 32 [cgV L Hs,pV q] (.tup [.prim (.int .i64 (W q)),.prim (.int .i64 (0))]))
 (hl0:hl l (2^16)) (hn:l.length≤12) (hEl:E.length≤2^20) (hEh:∀ t∈E,hs t≤2^16) (hdl:ds.length≤2^20)
 (hT:(ke (rZ E ds) l W (fL l.length l.length)).length<50):
 PC prog 23 [cgV L Hs] (.tup [ltV (sN (ke (rZ E ds) l W (fL l.length l.length))),.prim (.int .i64 (0))]):=by
 refine PCi ?_
 conv in bL _ _=>cbv
 simp only [bM,RN,simprocAttr]
 simp (disch:=omega) only [↓RS,RZ,simprocAttr,iG,cgV,psV]
 refine cX hC ?_
 simp (disch:=omega) only [↓RS,RZ,simprocAttr,iG,psV]
 refine cX hE ?_
 simp (disch:=omega) only [↓RS,RZ,simprocAttr,iG,ssV,eX]
 refine eG (fun (i:Nat) J=>ov [(1,.ptr 0 0 0),(4,.ptr 1 0 0),(8,.ptr 3 0 0),(35,ssV E),(36,.prim (.int .i64 ((E.length:Nat):Int))),(37,.prim (.int .i64 ((i:Nat):Int)))] J 0 146) (fun i H'=>i≤E.length∧get H' 0=some (.row 2 true [[psV L,.lst 1 ((Hs.map psV).map fun v=>[v])]])∧get H' 1=some (.row 1 true [[psV l]])∧
  get H' 2=some (.mp (mpM (((E.take i).map Sg.order).foldl wV [])))∧get H' 3=some (.row 1 true [[.mpr 2]])) (fun i=>E.length-i) 0 rfl ⟨bh _,rfl,rfl,rfl,rfl⟩ ?_
 rintro i J H1 ⟨hi,i0,i1,i2,i3⟩
 try conv in ov _ _ _ _=>simp only [ov,List.lookup,RO,simprocAttr]
 rcases am i E.length with hlt|hge
 ·have g:=nF hlt
  have oc:=un (E.getD i sg0) (bi (hEh _ (by rw [ae,af hlt];exact bx hlt)) (by omega))
  have w2:∀ x,get (H1++[x]) 2=some (.mp (mpM (((E.take i).map Sg.order).foldl wV []))):=fun x=>aO i2
  have w3:∀ x,get (H1++[x]) 3=some (.row 1 true [[.mpr 2]]):=fun x=>aO i3
  have hl3:=bF i3
  have n1:(2==H1.length)=false:=by rw [beq_eq_false_iff_ne];omega
  have n2:(H1.length==2)=false:=by rw [beq_eq_false_iff_ne];omega
  simp (disch:=omega) only [↓RS,RZ,simprocAttr,iG,ssV,eX,g,sgc,aZ,w3]
  refine cX oc ?_
  simp (disch:=omega) only [↓RS,RZ,simprocAttr,iG,sgV,s4V,n1,n2]
  refine CH (s:=(E.getD i sg0).order) rfl rfl rfl (w2 _) ?_
  simp (disch:=omega) only [↓RS,RZ,simprocAttr,iG]
  refine bl (i+1) rfl ⟨hlt,?_,?_,?_,?_⟩ (by omega)
  ·rw [bd (by omega)];exact aO i0
  ·rw [bd (by omega)];exact aO i1
  ·rw [dF (by rw [aK];omega),sY hlt,bz,List.map_singleton,nA]
  ·rw [bd (by omega)];exact aO i3
 have hia:i=E.length:=by omega
 subst hia
 rw [List.take_length] at i2
 simp (disch:=omega) only [↓RS,RZ,simprocAttr,iG,ssV,eX,i0,i1,psV]
 refine cX hDs ?_
 simp (disch:=omega) only [↓RS,RZ,simprocAttr,iG,ssV,eX]
 refine eG (fun (i:Nat) J=>ov [(1,.ptr 0 0 0),(4,.ptr 1 0 0),(8,.ptr 3 0 0),(47,ssV ds),(48,.prim (.int .i64 ((ds.length:Nat):Int))),(49,.prim (.int .i64 ((i:Nat):Int)))] J 0 146) (fun i H'=>i≤ds.length∧get H' 0=some (.row 2 true [[psV L,.lst 1 ((Hs.map psV).map fun v=>[v])]])∧get H' 1=some (.row 1 true [[psV l]])∧
  get H' 2=some (.mp (mpM ((ds.take i).foldl wV ((E.map Sg.order).foldl wV []))))∧get H' 3=some (.row 1 true [[.mpr 2]])) (fun i=>ds.length-i) 0 rfl ⟨bh _,i0,i1,i2,i3⟩ ?_
 clear i0 i1 i2 i3 H1 J
 rintro i J H1 ⟨hi,i0,i1,i2,i3⟩
 try conv in ov _ _ _ _=>simp only [ov,List.lookup,RO,simprocAttr]
 rcases am i ds.length with hlt|hge
 ·have g:=nF hlt
  have w2:∀ x,get (H1++[x]) 2=some (.mp (mpM ((ds.take i).foldl wV ((E.map Sg.order).foldl wV [])))):=fun x=>aO i2
  have w3:∀ x,get (H1++[x]) 3=some (.row 1 true [[.mpr 2]]):=fun x=>aO i3
  have hl3:=bF i3
  simp (disch:=omega) only [↓RS,RZ,simprocAttr,iG,ssV,eX,g,sgc,aZ,w3]
  refine CH (s:=ds.getD i sg0) rfl rfl rfl (w2 _) ?_
  simp (disch:=omega) only [↓RS,RZ,simprocAttr,iG]
  refine bl (i+1) rfl ⟨hlt,?_,?_,?_,?_⟩ (by omega)
  ·rw [bd (by omega)];exact aO i0
  ·rw [bd (by omega)];exact aO i1
  ·rw [dF (by rw [aK];omega),sY hlt,nA]
  ·rw [bd (by omega)];exact aO i3
 have hia:i=ds.length:=by omega
 subst hia
 rw [List.take_length] at i2
 have i2:get H1 2=some (.mp (mpM (rZ E ds))):=i2
 generalize rZ E ds=K at*
 have w1:∀ x,get (H1++[x]) 1=some (.row 1 true [[psV l]]):=fun x=>aO i1
 simp (disch:=omega) only [↓RS,RZ,simprocAttr,iG,ssV,eX,w1,psV]
 refine bI (Gp l ?_)
 simp (disch:=omega) only [↓RS,RZ,simprocAttr,iG,psV]
 have hN3:=bF i3
 obtain ⟨H2,eH2,j0⟩:∃ H2,H1++[some (Blk.row 1 true [[V.prim (Value.slice none 0 0)]])]++[some (Blk.row 1 true [[psV l]])]=H2∧∀ R,H2.length=H1.length+2∧x9 (cgV L Hs) l K H1.length R (.prim (.slice none 0 0)) [] (H2++[some R]):=by
  refine ⟨_,rfl,fun R=>⟨by simp,?_⟩⟩
  have e1:(H1++[some (Blk.row 1 true [[V.prim (Value.slice none 0 0)]])]).length=H1.length+1:=by simp
  have e2:(H1++[some (Blk.row 1 true [[V.prim (Value.slice none 0 0)]])]++[some (Blk.row 1 true [[psV l]])]).length=H1.length+2:=by simp
  refine ⟨aO (aO (aO i0)),aO (aO (aO i1)),aO (aO (aO i2)),aO (aO (aO i3)),aO jw,?_,?_,.nil (by simp),fun _=>rfl,hN3⟩
  ·have:= @bo (H1++[some (Blk.row 1 true [[V.prim (Value.slice none 0 0)]])]) (some (Blk.row 1 true [[psV l]]))
   rw [e1] at this
   exact aO this
  ·have:= @bo (H1++[some (Blk.row 1 true [[V.prim (Value.slice none 0 0)]])]++[some (Blk.row 1 true [[psV l]])]) (some R)
   rw [e2] at this
   exact this
 have eb:(H1++[some (Blk.row 1 true [[V.prim (Value.slice none 0 0)]])]).length=H1.length+1:=by simp
 simp only [psV] at eH2
 rw [eb,eH2]
 clear eH2 eb w1 i0 i1 i2 i3 hN3
 generalize H1.length=N at*
 refine vI rE (n:=N+2) (k:=1) rfl (j0 (.mp [])).1 rfl (by kernel_rfl) ?_
 conv in lcC _=>cbv
 conv in lcC _=>cbv
 intro R B D hR hyc
 simp only [List.nil_append,List.cons_append] at hyc ⊢
 refine C5 l (by omega) (fun m H=>∃ v,x9 (cgV L Hs) l K N R v (ke K l W m) H) ?_ ?_ ?_ ?_ ?_
 ·rintro m H ⟨v,h⟩
  exact ⟨h.l2,bF h.l2⟩
 ·rintro m H k ⟨v,h⟩
  exact ⟨v,h.ext (Ext.app _)⟩
 ·rintro m i k H c hik hk hm ⟨v,h⟩ hbc hc
  have hs1:hs (prS l (i,k))≤2^16:=ID hl0 (by omega) hk
  have hml:=BI K l W m
  have hm2:m.length≤144:=bi hm (Nat.mul_le_mul hn hn)
  have hml2:(ke K l W m).length≤144*12:=bi hml (Nat.mul_le_mul hm2 hn)
  have hsn:ke K l W (m++[(i,k)])=rT K l W (ke K l W m) (prS l (i,k)):=Fx K l W m (i,k)
  rw [hsn]
  have hadd:rT K l W (ke K l W m) (prS l (i,k))=if prS l (i,k)∈K then l.foldl (rS K l W (prS l (i,k))) (ke K l W m) else ke K l W m:=rfl
  have hn3:=h.n
  have hc4:N+2<c:=by
   rcases am (N+2) c with h1|h1
   ·exact h1
   ·have:c=N+2:=by omega
    subst this;have h2:=h.x;rw [hc] at h2;cases h2;exact absurd rfl (hR _ _ _)
  have hpr:sgV ⟨l.getD i default,l.getD k default⟩=sgV (prS l (i,k)):=rfl
  rw [hpr]
  generalize prS l (i,k)=s at*
  generalize hdm:ke K l W m=out at*
  refine hyc _ _ _ rfl h.x ?_
  clear hyc
  have hN:=bF h.x
  have hcl:=bF hc
  simp (disch:=omega) only [↓RS,RZ,simprocAttr,iG,kR,lR,sgV,s4V,aZ]
  rw [lV]
  refine ⟨aO h.x,?_⟩
  have hb1:x9 (cgV L Hs) l K N B v out ((H++[some (Blk.row 12 true [sgc s])]).set (N+2) (some B)):=(h.ext (Ext.app _)).setX
  obtain ⟨H3,e,f,k2,k3,k4⟩:=Gy (H:=H) (b:=N+2) (x:=some (.row 12 true [sgc s])) (z:=some B) hN
  have qc:get H3 c=some (.row 6 true [pc (l.getD i default)]):=by rw [f c hcl (by omega)];exact hc
  rw [e] at hb1
  simp only [sgc] at e
  rw [e]
  clear e f k2 h hc
  generalize H.length=M at*
  have fin:∀ T H4 v' out',x9 (cgV L Hs) l K N B v' out' H4→rT K l W out s=out'→get H4 c=some (.row 6 true [pc (l.getD i default)])→
   rdQ (N+2) R B D (yQ (fun H'=>(∃ v,x9 (cgV L Hs) l K N R v (rT K l W out s) H')∧get H' c=some (.row 6 true [pc (l.getD i default)])) fun _=>False) .normal T H4:=by
   intro T H4 v' out' hb he hq
   rw [k6,he]
   exact ⟨hb.x,.inl ⟨rfl,⟨v',hb.setX⟩,by rw [bd (by omega)];exact hq⟩⟩
  have lk:=xB s K
  simp only [sgc] at lk
  have g3:=hb1.m3
  have g2:=hb1.m
  have g1:=hb1.l1
  by_cases hK:s∈K
  ·rw [an hK] at lk
   rw [if_pos hK] at hadd
   simp (disch:=omega) only [↓RS,RZ,simprocAttr,iG,g1,g2,g3,k3,sgc,lk,psV,cU]
   refine eG (fun (j:Nat) J=>ov [(1,.ptr 0 0 0),(4,.ptr 1 0 0),(8,.ptr 3 0 0),(13,.ptr N 0 0),(14,.ptr M 0 0),(63,psV l),(64,.prim (.int .i64 ((l.length:Nat):Int))),(65,.prim (.int .i64 ((j:Nat):Int)))] J 0 146) (fun j H'=>j≤l.length∧∃ v',x9 (cgV L Hs) l K N B v' ((l.take j).foldl (rS K l W s) out) H'∧
    get H' M=some (.row 12 true [sgc s])∧get H' c=some (.row 6 true [pc (l.getD i default)])) (fun j=>l.length-j) 0 rfl ⟨bh _,v,hb1,k3,qc⟩ ?_
   rintro j J H4 ⟨hj,v',hb,hM,hq⟩
   try conv in ov _ _ _ _=>simp only [ov,List.lookup,RO,simprocAttr]
   rcases am j l.length with hjl|hjg
   ·have hjq:hp (l.getD j default)≤2^16:=xH hl0 j hjl
    have htk:=Ex hjl
    have g:=lj hjl
    generalize l.getD j default=q at*
    have a4:=sO s
    have a5:=tK s
    have c1:=kT s.b q (by omega) (by omega)
    have w0:∀ x y,get (H4++[x]++[y]) 0=some (.row 2 true [[psV L,.lst 1 ((Hs.map psV).map fun v=>[v])]]):=fun x y=>aO (aO hb.p)
    have w1:∀ x y,get (H4++[x]++[y]) 1=some (.row 1 true [[psV l]]):=fun x y=>aO (aO hb.l1)
    have w2:∀ x,get (H4++[x]) 2=some (.mp (mpM K)):=fun x=>aO hb.m
    have w3:∀ x,get (H4++[x]) 3=some (.row 1 true [[.mpr 2]]):=fun x=>aO hb.m3
    have wM:∀ x,get (H4++[x]) M=some (.row 12 true [sgc s]):=fun x=>aO hM
    have lk1:=xB ⟨s.a,q⟩ K
    have lk2:=xB ⟨s.b,q⟩ K
    simp only [sgc] at lk1 lk2
    have stay:∀ H5,Ext H4 H5→¬(sK K s q∧rH l W (jr s q))→(j+1≤l.length∧∃ v',x9 (cgV L Hs) l K N B v' ((l.take (j+1)).foldl (rS K l W s) out) H5∧get H5 M=some (.row 12 true [sgc s])∧get H5 c=some (.row 6 true [pc (l.getD i default)])):=by
     intro H5 hE hno
     refine ⟨hjl,v',?_,hE.get hM,hE.get hq⟩
     rw [htk,nA,rS,if_neg hno]
     exact hb.ext hE
    simp (disch:=omega) only [↓RS,RZ,simprocAttr,iG,psV,cU,g,pc,aZ,wM,sgc]
    refine cX c1 ?_
    by_cases k1:bO s.b q<0
    ·by_cases k2:(⟨s.a,q⟩:Sg)∈K
     ·rw [an k2] at lk1
      by_cases k3:(⟨s.b,q⟩:Sg)∈K
      ·rw [an k3] at lk2
       have o1:=l6 s.a s.b q (by omega) (by omega) (by omega)
       simp (disch:=omega) only [↓RS,RZ,simprocAttr,iG,w2,w3,wM,sgc,lk1,lk2,aZ]
       refine cX o1 ?_
       by_cases ho:fB s.a s.b q<0
       ·have et:jr s q=(⟨s.a,q,s.b⟩:Tri):=by unfold jr;rw [if_pos ho]
        have e3:ht3 (⟨s.a,q,s.b⟩:Tri)≤2^16:=EZ (by omega) (by omega) (by omega)
        have cc:=Pn (⟨s.a,q,s.b⟩:Tri) (by omega)
        have hct:=OS (⟨s.a,q,s.b⟩:Tri)
        have ww:=hW (ctr (⟨s.a,q,s.b⟩:Tri)) (by omega)
        have o2:=l6 s.a q s.b (by omega) (by omega) (by omega)
        simp (disch:=omega) only [↓RS,RZ,simprocAttr,iG,w0,wM,w2,w3,sgc,aZ,lk1,lk2]
        refine cX cc ?_
        simp (disch:=omega) only [↓RS,RZ,simprocAttr,iG,w0,pV,ptV,psV]
        refine cX ww ?_
        simp (disch:=omega) only [↓RS,RZ,simprocAttr,iG]
        refine cX o2 ?_
        by_cases p1:0<fB s.a q s.b
        ·by_cases p2:0<W (ctr (⟨s.a,q,s.b⟩:Tri))
         ·simp (disch:=omega) only [↓RS,RZ,simprocAttr,iG,w1,psV]
          refine bI (va l _ _ (fun i=>decide (0<jK (⟨s.a,q,s.b⟩:Tri) (l.getD i default))) (by omega) ?_ ?_)
          ·intro i' H' K' hi' hE' hK'
           exact Eb (⟨s.a,q,s.b⟩:Tri) (l.getD i' default) (by omega) (bi (xH hl0 i' hi') (by omega)) (hE'.get bo) hK'
          ·intro H5 hE5
           have hE6:Ext H4 H5:=((Ext.app _).trans (Ext.app _)).trans hE5
           cases hany:jI l.length (fun i=>decide (0<jK (⟨s.a,q,s.b⟩:Tri) (l.getD i default))) with
           |true=>
            simp (disch:=omega) only [↓RS,RZ,simprocAttr,iG]
            exact bl (j+1) rfl (stay _ hE6 (fun hh=>by rw [et] at hh;have:=hh.2.2.2;rw [hany] at this;cases this)) (by omega)
           |false=>
            have hb6:=hb.ext hE6
            have o6:=hb6.o
            have t6:get H5 (H4++[some (Blk.row 6 true [pc q])]).length=some (.row 18 true [trc (⟨s.a,q,s.b⟩:Tri)]):=hE5.get bo
            simp only [pc,trc] at t6
            have hlen5:=pQ K l W s (l.take j) out
            rw [d9] at hlen5
            simp (disch:=omega) only [↓RS,RZ,simprocAttr,iG,o6,t6]
            refine kP.appendW (hb6.b.app _) (by simp [ku]) (by simp only [aC,aI,az];omega) (by simp only [aC,aI,az];omega) ?_
            intro v2 H6 hb2 hk2 hl6
            have rN:=hk2 N _ (.inl (by omega)) (aO o6)
            have r0:=hk2 0 _ (.inl (by omega)) (aO hb6.p)
            have r1:=hk2 1 _ (.inl (by omega)) (aO hb6.l1)
            have r2:=hk2 2 _ (.inl (by omega)) (aO hb6.m)
            have r3:=hk2 3 _ (.inl (by omega)) (aO hb6.m3)
            have r4:=hk2 (N+1) _ (.inl (by omega)) (aO hb6.l2)
            have r5:=hk2 (N+2) _ (.inl (by omega)) (aO hb6.x)
            have rM:=hk2 M _ (.inr fun es hh=>by cases hh) (aO (hE6.get hM))
            have rc:=hk2 c _ (.inr fun es hh=>by cases hh) (aO (hE6.get hq))
            have d1:=hb2.one
            have d2:=hb2.cel
            simp (disch:=omega) only [↓RS,RZ,simprocAttr,iG,rN,d1,d2]
            refine bl (j+1) rfl ⟨hjl,v2,⟨?_,?_,?_,?_,?_,?_,?_,?_,?_,hn3⟩,?_,?_⟩ (by omega)
            ·rw [bd (by omega)];exact r0
            ·rw [bd (by omega)];exact r1
            ·rw [bd (by omega)];exact r2
            ·rw [bd (by omega)];exact r3
            ·exact dF (bF rN)
            ·rw [bd (by omega)];exact r4
            ·rw [bd (by omega)];exact r5
            ·rw [htk,nA,rS,if_pos ⟨⟨k1,k2,k3⟩,by rw [et];exact ⟨p1,p2,hany⟩⟩,et,bz]
             exact hb2.set (by omega)
            ·intro hh
             rw [htk,nA,rS,if_pos ⟨⟨k1,k2,k3⟩,by rw [et];exact ⟨p1,p2,hany⟩⟩] at hh
             simp at hh
            ·rw [bd (by omega)];exact rM
            ·rw [bd (by omega)];exact rc
         ·simp (disch:=omega) only [↓RS,RZ,simprocAttr,iG]
          exact bl (j+1) rfl (stay _ ((Ext.app _).trans (Ext.app _)) (fun hh=>by rw [et] at hh;exact p2 hh.2.2.1)) (by omega)
        ·simp (disch:=omega) only [↓RS,RZ,simprocAttr,iG]
         exact bl (j+1) rfl (stay _ ((Ext.app _).trans (Ext.app _)) (fun hh=>by rw [et] at hh;exact p1 hh.2.1)) (by omega)
       ·have et:jr s q=(⟨s.a,s.b,q⟩:Tri):=by unfold jr;rw [if_neg ho]
        have e3:ht3 (⟨s.a,s.b,q⟩:Tri)≤2^16:=EZ (by omega) (by omega) (by omega)
        have cc:=Pn (⟨s.a,s.b,q⟩:Tri) (by omega)
        have hct:=OS (⟨s.a,s.b,q⟩:Tri)
        have ww:=hW (ctr (⟨s.a,s.b,q⟩:Tri)) (by omega)
        have o2:=l6 s.a s.b q (by omega) (by omega) (by omega)
        simp (disch:=omega) only [↓RS,RZ,simprocAttr,iG,w0,wM,w2,w3,sgc,aZ,lk1,lk2]
        refine cX cc ?_
        simp (disch:=omega) only [↓RS,RZ,simprocAttr,iG,w0,pV,ptV,psV]
        refine cX ww ?_
        simp (disch:=omega) only [↓RS,RZ,simprocAttr,iG]
        refine cX o2 ?_
        by_cases p1:0<fB s.a s.b q
        ·by_cases p2:0<W (ctr (⟨s.a,s.b,q⟩:Tri))
         ·simp (disch:=omega) only [↓RS,RZ,simprocAttr,iG,w1,psV]
          refine bI (va l _ _ (fun i=>decide (0<jK (⟨s.a,s.b,q⟩:Tri) (l.getD i default))) (by omega) ?_ ?_)
          ·intro i' H' K' hi' hE' hK'
           exact Eb (⟨s.a,s.b,q⟩:Tri) (l.getD i' default) (by omega) (bi (xH hl0 i' hi') (by omega)) (hE'.get bo) hK'
          ·intro H5 hE5
           have hE6:Ext H4 H5:=((Ext.app _).trans (Ext.app _)).trans hE5
           cases hany:jI l.length (fun i=>decide (0<jK (⟨s.a,s.b,q⟩:Tri) (l.getD i default))) with
           |true=>
            simp (disch:=omega) only [↓RS,RZ,simprocAttr,iG]
            exact bl (j+1) rfl (stay _ hE6 (fun hh=>by rw [et] at hh;have:=hh.2.2.2;rw [hany] at this;cases this)) (by omega)
           |false=>
            have hb6:=hb.ext hE6
            have o6:=hb6.o
            have t6:get H5 (H4++[some (Blk.row 6 true [pc q])]).length=some (.row 18 true [trc (⟨s.a,s.b,q⟩:Tri)]):=hE5.get bo
            simp only [pc,trc] at t6
            have hlen5:=pQ K l W s (l.take j) out
            rw [d9] at hlen5
            simp (disch:=omega) only [↓RS,RZ,simprocAttr,iG,o6,t6]
            refine kP.appendW (hb6.b.app _) (by simp [ku]) (by simp only [aC,aI,az];omega) (by simp only [aC,aI,az];omega) ?_
            intro v2 H6 hb2 hk2 hl6
            have rN:=hk2 N _ (.inl (by omega)) (aO o6)
            have r0:=hk2 0 _ (.inl (by omega)) (aO hb6.p)
            have r1:=hk2 1 _ (.inl (by omega)) (aO hb6.l1)
            have r2:=hk2 2 _ (.inl (by omega)) (aO hb6.m)
            have r3:=hk2 3 _ (.inl (by omega)) (aO hb6.m3)
            have r4:=hk2 (N+1) _ (.inl (by omega)) (aO hb6.l2)
            have r5:=hk2 (N+2) _ (.inl (by omega)) (aO hb6.x)
            have rM:=hk2 M _ (.inr fun es hh=>by cases hh) (aO (hE6.get hM))
            have rc:=hk2 c _ (.inr fun es hh=>by cases hh) (aO (hE6.get hq))
            have d1:=hb2.one
            have d2:=hb2.cel
            simp (disch:=omega) only [↓RS,RZ,simprocAttr,iG,rN,d1,d2]
            refine bl (j+1) rfl ⟨hjl,v2,⟨?_,?_,?_,?_,?_,?_,?_,?_,?_,hn3⟩,?_,?_⟩ (by omega)
            ·rw [bd (by omega)];exact r0
            ·rw [bd (by omega)];exact r1
            ·rw [bd (by omega)];exact r2
            ·rw [bd (by omega)];exact r3
            ·exact dF (bF rN)
            ·rw [bd (by omega)];exact r4
            ·rw [bd (by omega)];exact r5
            ·rw [htk,nA,rS,if_pos ⟨⟨k1,k2,k3⟩,by rw [et];exact ⟨p1,p2,hany⟩⟩,et,bz]
             exact hb2.set (by omega)
            ·intro hh
             rw [htk,nA,rS,if_pos ⟨⟨k1,k2,k3⟩,by rw [et];exact ⟨p1,p2,hany⟩⟩] at hh
             simp at hh
            ·rw [bd (by omega)];exact rM
            ·rw [bd (by omega)];exact rc
         ·simp (disch:=omega) only [↓RS,RZ,simprocAttr,iG]
          exact bl (j+1) rfl (stay _ ((Ext.app _).trans (Ext.app _)) (fun hh=>by rw [et] at hh;exact p2 hh.2.2.1)) (by omega)
        ·simp (disch:=omega) only [↓RS,RZ,simprocAttr,iG]
         exact bl (j+1) rfl (stay _ ((Ext.app _).trans (Ext.app _)) (fun hh=>by rw [et] at hh;exact p1 hh.2.1)) (by omega)
      ·rw [ak k3] at lk2
       simp (disch:=omega) only [↓RS,RZ,simprocAttr,iG,w2,w3,wM,sgc,lk1,lk2,aZ]
       exact bl (j+1) rfl (stay _ (Ext.app _) (fun hh=>k3 hh.1.2.2)) (by omega)
     ·rw [ak k2] at lk1
      simp (disch:=omega) only [↓RS,RZ,simprocAttr,iG,w2,w3,wM,sgc,lk1,aZ]
      exact bl (j+1) rfl (stay _ (Ext.app _) (fun hh=>k2 hh.1.2.1)) (by omega)
    ·simp (disch:=omega) only [↓RS,RZ,simprocAttr,iG]
     exact bl (j+1) rfl (stay _ (Ext.app _) (fun hh=>k1 hh.1.1)) (by omega)
   ·have hja:j=l.length:=by omega
    subst hja
    rw [List.take_length] at hb
    simp (disch:=omega) only [↓RS,RZ,simprocAttr,iG,psV,cU]
    exact fin _ _ _ _ hb hadd hq
  ·rw [ak hK] at lk
   rw [if_neg hK] at hadd
   simp (disch:=omega) only [↓RS,RZ,simprocAttr,iG,g1,g2,g3,k3,sgc,lk]
   exact fin _ _ _ _ hb1 hadd qc
 ·exact ⟨_,(j0 R).2⟩
 ·rintro v H ⟨u,h⟩
  refine .inl ⟨h.x,?_⟩
  have hn3:=h.n
  have e0:get (H.set (N+2) none) N=some (.row 1 true [[u]]):=by rw [bd (by omega)];exact h.o
  have hb:=h.b.set (c:=N+2) (x:=none) (by omega)
  have hz:=h.z
  generalize H.set (N+2) none=H4 at e0 hb
  have hall:∀ t∈ke K l W (fL l.length l.length),ht3 t≤2^26:=Hu K l W _ _ fun x hx q hq=>by
   obtain ⟨h1,h2,h3⟩:=mD.1 hx
   exact bi (LS (ID hl0 (i:=x.1) (j:=x.2) h1 h3) (hl0 q hq)) (by omega)
  generalize ke K l W (fL l.length l.length)=out at*
  by_cases ho:out=[]
  ·subst ho
   have hu:=hz rfl
   subst hu
   have e:sN ([]:List Tri)=[]:=by simp [sN]
   rw [e,ltV,if_pos rfl]
   simp (disch:=omega) only [↓RS,RZ,simprocAttr,iG,e0]
   refine bI (HW _ ?_)
   simp (disch:=omega) only [↓RS,RZ,simprocAttr,iG,e0]
  ·have ho2:sN out≠[]:=fun hh=>ho (by have:=(rk out).length_eq;rw [hh] at this;exact List.length_eq_zero_iff.1 this.symm)
   rw [ltV,if_neg ho2]
   obtain ⟨b,hb1,rfl,hg⟩:=hb.cases (by simpa using ho)
   have hlen:(out.map trc).length=out.length:=az ..
   rw [hlen] at e0
   simp (disch:=omega) only [↓RS,RZ,simprocAttr,iG,e0]
   refine bI (MZ out hT hall hg ?_)
   intro H5 hU hg5
   have e5:=hU.get N _ (by omega) e0
   have hvl:= @kB H5 6 _ (KR (sN out))
   have hl2:(sN out).length=out.length:=(rk out).length_eq
   have hlen2:((sN out).map trc).length=(sN out).length:=az ..
   have htk:((sN out).map trc).take out.length=(sN out).map trc:=by rw [List.take_of_length_le (by omega)]
   simp (disch:=omega) only [↓RS,RZ,simprocAttr,iG,e5]
   rw [hg5]
   simp only [hlen2,hl2,ax,if_true,htk]
   rw [hvl]
   rfl
end Go.Av
