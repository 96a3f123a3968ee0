/- Helping texts: Lu3. -/
import Derived.Test.YtkmlhdfpcjkekaaGreatKLu2
set_option linter.unusedSimpArgs false
set_option linter.unusedVariables false
set_option maxRecDepth 100000
set_option maxHeartbeats 16000000
namespace Go.Av
open Go.RowKit
open Go.Proofs.Tryz (prog)
theorem NS {F:FuncId} {dec:Rat→Tri} {Dm:Rat→Prop} (hF:zo dec Dm F) (l:List Rat) (a b:Nat) (hab:a<b) (hbl:b≤l.length) (hn:l.length<50) (hl0:hD Dm l) {blk:Nat} {fx:Bool} {H:Hp} {K:V→Hp→Prop} (hb:get H blk=some (.row 18 true (l.map (tq dec))))
 (hK:∀ t:Bool,(t=true→Srt a b l)→K (.prim (.bool (t))) H):
 SC prog 209 [.sref blk 0 l.length l.length 18 fx,.prim (.int .i64 ((a:Nat):Int)),.prim (.int .i64 ((b:Nat):Int)),.clo F [] []] H K:=by
 refine SCi ?_
 conv in bL _ _=>cbv
 simp only [bM,RN,simprocAttr]
 simp (disch:=omega) only [↓RS,RZ,simprocAttr]
 refine eG (fun (_:Unit) J=>ov [(0,.sref blk 0 l.length l.length 18 fx),(1,.prim (.int .i64 ((a:Nat):Int))),(2,.prim (.int .i64 ((b:Nat):Int))),(3,.clo F [] []),(9,.prim (.int .i64 ((a+1:Nat):Int))),(10,.prim (.int .i64 (0)))] J 0 141) (fun _ H'=>H=H') (fun _=>0) () rfl rfl ?_
 rintro _ J _ rfl
 try conv in ov _ _ _ _=>simp only [ov,List.lookup,RO,simprocAttr]
 simp (disch:=omega) only [↓RS,RZ,simprocAttr]
 refine eG (fun (i:Nat) J=>ov [(0,.sref blk 0 l.length l.length 18 fx),(1,.prim (.int .i64 ((a:Nat):Int))),(2,.prim (.int .i64 ((b:Nat):Int))),(3,.clo F [] []),(9,.prim (.int .i64 ((i:Nat):Int))),(10,.prim (.int .i64 (0)))] J 0 141) (fun i H'=>(a<i∧i≤b∧Srt a i l)∧H=H') (fun i=>b-i) (a+1) rfl ⟨⟨by omega,by omega,fun k h1 h2=>by omega⟩,rfl⟩ ?_
 rintro i J' _ ⟨⟨h1,h2,hs⟩,rfl⟩
 try conv in ov _ _ _ _=>simp only [ov,List.lookup,RO,simprocAttr]
 by_cases hib:i=b
 ·subst hib
  simp (disch:=omega) only [↓RS,RZ,simprocAttr]
  exact hK true fun _=>hs
 ·obtain ⟨k,rfl⟩:∃ k,i=k+1:=⟨i-1,by omega⟩
  have g1:=eW (dec:=dec) (l:=l) (i:=k+1) (by omega)
  have g2:=eW (dec:=dec) (l:=l) (i:=k) (by omega)
  have c:=hF (l.getD (k+1) 0) (l.getD k 0) (hl0 _ (by omega)) (hl0 _ (by omega))
  have ek:((k+1:Nat):Int)-1=((k:Nat):Int):=by omega
  simp (disch:=omega) only [↓RS,RZ,simprocAttr,hb,g1,g2,tq,trc,aX,ek]
  refine cX c ?_
  by_cases hc:jV (l.getD (k+1) 0) (l.getD k 0)<0
  ·simp (disch:=omega) only [↓RS,RZ,simprocAttr]
   exact hK false fun h=>absurd h (by decide)
  ·simp (disch:=omega) only [↓RS,RZ,simprocAttr]
   exact bl (k+2) rfl ⟨⟨by omega,by omega,fun j h3 h4=>by
    by_cases e:j=k+1
    ·subst e;exact Rat.not_lt.1 fun h=>hc (jk.2 h)
    ·exact hs j h3 (by omega)⟩,rfl⟩ (by omega)
theorem xp {F:FuncId} {dec:Rat→Tri} {Dm:Rat→Prop} (hF:zo dec Dm F) (l:List Rat) (i j n:Nat) (hi:i<l.length) (hj:j<l.length) (hn:l.length<50) (hnn:n<100) (hl0:hD Dm l) {blk sb:Nat} {fx:Bool} {H:Hp} {K:V→Hp→Prop} (hb:get H blk=some (.row 18 true (l.map (tq dec)))) (hs:get H sb=some (.row 1 true [[.prim (.int .i64 ((n:Nat):Int))]]))
 (hK:∀ i' j' n':Nat,(i'=i∧j'=j∨i'=j∧j'=i)→n'≤n+1→K (.tup [.prim (.int .i64 ((i':Nat):Int)),.prim (.int .i64 ((j':Nat):Int))]) (H.set sb (some (.row 1 true [[.prim (.int .i64 ((n':Nat):Int))]])))):
 SC prog 289 [.sref blk 0 l.length l.length 18 fx,.prim (.int .i64 ((i:Nat):Int)),.prim (.int .i64 ((j:Nat):Int)),.ptr sb 0 0,.clo F [] []] H K:=by
 have g1:=eW (dec:=dec) (l:=l) (i:=i) hi
 have g2:=eW (dec:=dec) (l:=l) (i:=j) hj
 have c:=hF (l.getD j 0) (l.getD i 0) (hl0 _ hj) (hl0 _ hi)
 refine SCi ?_
 conv in bL _ _=>cbv
 simp only [bM,RN,simprocAttr]
 simp (disch:=omega) only [↓RS,RZ,simprocAttr,hb,g1,g2,tq,trc,aX]
 refine cX c ?_
 by_cases hc:jV (l.getD j 0) (l.getD i 0)<0
 ·simp (disch:=omega) only [↓RS,RZ,simprocAttr,hs,uT]
  exact hK j i (n+1) (.inr ⟨rfl,rfl⟩) (ax _)
 ·simp (disch:=omega) only [↓RS,RZ,simprocAttr]
  have:=hK i j n (.inl ⟨rfl,rfl⟩) (by omega)
  rwa [vW hs] at this
theorem LE {F:FuncId} {dec:Rat→Tri} {Dm:Rat→Prop} (hF:zo dec Dm F) (l:List Rat) (i j k n:Nat) (hi:i<l.length) (hj:j<l.length) (hk:k<l.length) (hn:l.length<50) (hnn:n<90) (hl0:hD Dm l) {blk sb:Nat} (hne:sb≠blk) {fx:Bool} {H:Hp} {K:V→Hp→Prop} (hb:get H blk=some (.row 18 true (l.map (tq dec)))) (hs:get H sb=some (.row 1 true [[.prim (.int .i64 ((n:Nat):Int))]]))
 (hK:∀ r n':Nat,(r=i∨r=j∨r=k)→n'≤n+3→K (.prim (.int .i64 ((r:Nat):Int))) (H.set sb (some (.row 1 true [[.prim (.int .i64 ((n':Nat):Int))]])))):
 SC prog 262 [.sref blk 0 l.length l.length 18 fx,.prim (.int .i64 ((i:Nat):Int)),.prim (.int .i64 ((j:Nat):Int)),.prim (.int .i64 ((k:Nat):Int)),.ptr sb 0 0,.clo F [] []] H K:=by
 have hsl:=bF hs
 have s1:∀ x,get (H.set sb x) sb=x:=fun x=>dF hsl
 have s2:∀ x y,(H.set sb x).set sb y=H.set sb y:=fun x y=>List.set_set ..
 have s3:∀ x,get (H.set sb x) blk=some (.row 18 true (l.map (tq dec))):=fun x=>by rw [bd hne.symm];exact hb
 refine SCi ?_
 conv in bL _ _=>cbv
 simp only [bM,RN,simprocAttr]
 simp (disch:=omega) only [↓RS,RZ,simprocAttr]
 refine bI (xp hF l i j n hi hj hn (by omega) hl0 hb hs fun i1 j1 n1 h1 hn1=> ?_)
 simp (disch:=omega) only [↓RS,RZ,simprocAttr]
 refine bI (xp hF l j1 k n1 (by omega) hk hn (by omega) hl0 (s3 _) (s1 _) fun j2 k2 n2 h2 hn2=> ?_)
 rw [s2]
 simp (disch:=omega) only [↓RS,RZ,simprocAttr]
 refine bI (xp hF l i1 j2 n2 (by omega) (by omega) hn (by omega) hl0 (s3 _) (s1 _) fun i3 j3 n3 h3 hn3=> ?_)
 rw [s2]
 simp (disch:=omega) only [↓RS,RZ,simprocAttr]
 exact hK j3 n3 (by omega) (by omega)
theorem NQ {F:FuncId} {dec:Rat→Tri} {Dm:Rat→Prop} (hF:zo dec Dm F) (l:List Rat) (a n:Nat) (h8:12<n) (hbl:a+n≤l.length) (hn:l.length<50) (hl0:hD Dm l) {blk:Nat} {fx:Bool} {H:Hp} {K:V→Hp→Prop} (hb:get H blk=some (.row 18 true (l.map (tq dec))))
 (hK:∀ (r:Nat) (h:Int) x,a<r→r<a+n→(h=0∨h=1)→K (.tup [.prim (.int .i64 ((r:Nat):Int)),.prim (.int .i64 (h))]) (H++[x])):
 SC prog 207 [.sref blk 0 l.length l.length 18 fx,.prim (.int .i64 ((a:Nat):Int)),.prim (.int .i64 ((a+n:Nat):Int)),.clo F [] []] H K:=by
 have hbk:=bF hb
 have en:((a+n:Nat):Int)-(a:Int)=((n:Nat):Int):=by omega
 have ed:((n:Nat):Int).tdiv 4=((n/4:Nat):Int):=uV n 4
 have e1:((n/4:Nat):Int)*1=((n/4:Nat):Int):=by omega
 have e2:((n/4:Nat):Int)*2=((n/4*2:Nat):Int):=by omega
 have e3:((n/4:Nat):Int)*3=((n/4*3:Nat):Int):=by omega
 have f1:(a:Int)+((n/4:Nat):Int)=((a+n/4:Nat):Int):=by omega
 have f2:(a:Int)+((n/4*2:Nat):Int)=((a+n/4*2:Nat):Int):=by omega
 have f3:(a:Int)+((n/4*3:Nat):Int)=((a+n/4*3:Nat):Int):=by omega
 refine SCi ?_
 conv in bL _ _=>cbv
 simp only [bM,RN,simprocAttr]
 simp (disch:=omega) only [↓RS,RZ,simprocAttr,en,ed,e1,e2,e3,f1,f2,f3]
 refine bI (LE hF l (a+n/4) (a+n/4*2) (a+n/4*3) 0 (by omega) (by omega) (by omega) hn (by omega) hl0 (by omega) (aO hb) bo fun r n' hr hn'=> ?_)
 rw [aZ]
 by_cases h0:n'=0
 ·subst h0
  simp (disch:=omega) only [↓RS,RZ,simprocAttr,bo]
  exact hK r 1 _ (by omega) (by omega) (.inr rfl)
 ·simp (disch:=omega) only [↓RS,RZ,simprocAttr,bo]
  exact hK r 0 _ (by omega) (by omega) (.inl rfl)
theorem Ee:∀ x:Nat,x<50→12<x→blen x=4∨blen x=5∨blen x=6:=by decide
def EL (x:Nat):Nat:=2^blen x
theorem Lv {x:Nat} (h:x<50) (h1:12<x):EL x=16∨EL x=32∨EL x=64:=by
 unfold EL
 rcases Ee x h h1 with e|e|e<;>rw [e]<;>simp
theorem Qf {x:Nat} (h:x<50) (h1:12<x):EL x≤2*x:=by
 have:∀ x:Nat,x<50→12<x→EL x≤2*x:=by decide
 exact this x h h1
theorem Qr (x:Nat) (hx:x<50) (h1:12<x):PC prog 227 [.prim (.int .i64 ((x:Nat):Int))] (.prim (.int .u64 ((EL x:Nat):Int))):=by
 have c:=xY x (by omega)
 refine PCi ?_
 conv in bL _ _=>cbv
 simp only [bM,RN,simprocAttr]
 simp (disch:=omega) only [↓RS,RZ,simprocAttr,kS]
 refine cX c ?_
 unfold EL
 rcases Ee x hx h1 with e|e|e
 ·rw [e]
  simp (disch:=omega) only [↓RS,RZ,simprocAttr]
  rfl
 ·rw [e]
  simp (disch:=omega) only [↓RS,RZ,simprocAttr]
  rfl
 ·rw [e]
  simp (disch:=omega) only [↓RS,RZ,simprocAttr]
  rfl
theorem t_xs:aD prog 216 =some ⟨1,8,[.int .u64 0],.int .u64,false⟩:=by kernel_rfl
theorem Mx (z:Int) {rb:Nat} {H:Hp} {K:V→Hp→Prop} (hs:get H rb=some (.row 1 true [[.prim (.int .u64 z)]]))
 (hK:∀ z',K (.prim (.int .u64 z')) (H.set rb (some (.row 1 true [[.prim (.int .u64 z')]])))):
 SC prog 228 [.ptr rb 0 0] H K:=by
 have hsl:=bF hs
 have s1:∀ x,get (H.set rb x) rb=x:=fun x=>dF hsl
 have s2:∀ x y,(H.set rb x).set rb y=H.set rb y:=fun x y=>List.set_set ..
 refine SCi ?_
 conv in bL _ _=>cbv
 simp only [bM,RN,simprocAttr]
 simp (disch:=omega) only [↓RS,RZ,simprocAttr,hs,s1,s2,t_xs,uT,zQ,B5]
 exact hK _
theorem Q5 (z:Int) {w:Nat} (hw:w=16∨w=32∨w=64):∃ o:Nat,o<w∧IntKind.i64.wrap (((BitVec.ofInt IntKind.u64.bits z&&&BitVec.ofInt IntKind.u64.bits ((w-1:Nat):Int)).toNat%18446744073709551616:Nat):Int)=(o:Int):=by
 have h:(BitVec.ofInt IntKind.u64.bits z&&&BitVec.ofInt IntKind.u64.bits ((w-1:Nat):Int)).toNat≤w-1:=by
  rw [BitVec.toNat_and]
  refine bi Nat.and_le_right ?_
  rcases hw with rfl|rfl|rfl<;>decide
 refine ⟨(BitVec.ofInt IntKind.u64.bits z&&&BitVec.ofInt IntKind.u64.bits ((w-1:Nat):Int)).toNat,by omega,?_⟩
 rw [bA (by omega),jd (by omega) (by omega)]
structure Upd (b:Nat) (H H':Hp):Prop where
 len:H.length≤H'.length
 get:∀ c k,c≠b→get H c=some k→get H' c=some k
theorem Upd.refl (b:Nat) (H:Hp):Upd b H H:=⟨ax _,fun _ _ _ h=>h⟩
theorem Upd.trans {b:Nat} {H H' H'':Hp} (h:Upd b H H') (k:Upd b H' H''):Upd b H H'':=⟨bi h.len k.len,fun c x hc hx=>k.get c x hc (h.get c x hc hx)⟩
theorem Upd.set {b:Nat} {H:Hp} {x:Option Blk}:Upd b H (H.set b x):=⟨by simp,fun c k hc h=>by rw [bd hc];exact h⟩
theorem Upd.fresh {b:Nat} {H H':Hp} {x:Option Blk} (h:Upd b H H'):Upd b H (H'.set H.length x):=⟨by have:=h.len;simpa using this,fun c k hc hx=>by
 have:=bF hx
 rw [bd (by omega)];exact h.get c k hc hx⟩
theorem Upd.app {b:Nat} {H l:Hp}:Upd b H (H++l):=⟨by simp,fun c k hc h=>aO h⟩
theorem Px {dec:Rat→Tri} (l:List Rat) (a n:Nat) (h8:12<n) (hbl:a+n≤l.length) (hn:l.length<50) {cmp:V} {blk:Nat} {fx:Bool} {H:Hp} {K:V→Hp→Prop} (hb:get H blk=some (.row 18 true (l.map (tq dec))))
 (hK:∀ m H',Sw a (a+n) l m→Upd blk H H'→get H' blk=some (.row 18 true (m.map (tq dec)))→K (.tup []) H'):
 SC prog 206 [.sref blk 0 l.length l.length 18 fx,.prim (.int .i64 ((a:Nat):Int)),.prim (.int .i64 ((a+n:Nat):Int)),cmp] H K:=by
 have hbk:=bF hb
 have en:((a+n:Nat):Int)-(a:Int)=((n:Nat):Int):=by omega
 have ed:((n:Nat):Int).tdiv 4=((n/4:Nat):Int):=uV n 4
 have e2:((n/4:Nat):Int)*2=((n/4*2:Nat):Int):=by omega
 have f2:(a:Int)+((n/4*2:Nat):Int)=((a+n/4*2:Nat):Int):=by omega
 have f3:((a+n/4*2:Nat):Int)-1=((a+n/4*2-1:Nat):Int):=by omega
 have f4:((a+n/4*2:Nat):Int)+1=((a+n/4*2+1:Nat):Int):=by omega
 have c:=Qr n (by omega) h8
 have hp:=Lv (x:=n) (by omega) h8
 have hp2:=Qf (x:=n) (by omega) h8
 refine SCi ?_
 conv in bL _ _=>cbv
 simp only [bM,RN,simprocAttr]
 simp (disch:=omega) only [↓RS,RZ,simprocAttr,en,t_xs,aZ]
 refine cX c ?_
 generalize EL n=w at*
 simp (disch:=omega) only [↓RS,RZ,simprocAttr,en,ed,e2,f2,f3,f4,aZ]
 refine eG (fun (i:Nat) J=>ov [(0,.sref blk 0 l.length l.length 18 fx),(1,.prim (.int .i64 ((a:Nat):Int))),(8,.prim (.int .i64 ((n:Nat):Int))),(9,.ptr H.length 0 0),(10,.prim (.int .u64 ((w:Nat):Int))),(11,.prim (.int .i64 ((i:Nat):Int)))] J 0 67) (fun i H'=>∃ m:List Rat,∃ z:Int,(a+n/4*2-1≤i∧Sw a (a+n) l m∧Upd blk H H'∧get H' blk=some (.row 18 true (m.map (tq dec)))∧get H' H.length=some (.row 1 true [[.prim (.int .u64 z)]]))) (fun i=>a+n-i) (a+n/4*2-1) rfl ⟨l,_,ax _,.refl l,.app,aO hb,bo⟩ ?_
 rintro i J H' ⟨m,z,hi,hsw,hU,hg,hz⟩
 try conv in ov _ _ _ _=>simp only [ov,List.lookup,RO,simprocAttr]
 have hml:=hsw.length
 have hl1:=bF hg
 have hl2:=bF hz
 by_cases hlast:i≤a+n/4*2+1
 ·simp (disch:=omega) only [↓RS,RZ,simprocAttr,en,ed,e2,f2,f4]
  refine bI (Mx z hz fun z'=> ?_)
  obtain ⟨o,ho,eo⟩:=Q5 z' hp
  have h1:H.length≠blk:=by omega
  have s3:∀ x,get (H'.set H.length x) blk=some (.row 18 true (m.map (tq dec))):=fun x=>by rw [bd h1.symm];exact hg
  have g1:=eW (dec:=dec) (l:=m) (i:=i) (by omega)
  have hw1:1≤w:=by omega
  have s5:∀ x y,get ((H'.set H.length x).set blk y) blk=y:=fun x y=>dF (by simpa using hl1)
  have s6:∀ x y z,((H'.set H.length x).set blk y).set blk z=(H'.set H.length x).set blk z:=fun x y z=>List.set_set ..
  have key:∀ q,q<n→∃ m2:List Rat,∃ z2:Int,(a+n/4*2-1≤i+1∧Sw a (a+n) l m2∧Upd blk H ((H'.set H.length (some (.row 1 true [[.prim (.int .u64 z')]]))).set blk (some (.row 18 true ((swp m i (a+q)).map (tq dec)))))∧get ((H'.set H.length (some (.row 1 true [[.prim (.int .u64 z')]]))).set blk (some (.row 18 true ((swp m i (a+q)).map (tq dec))))) blk=some (.row 18 true (m2.map (tq dec)))∧get ((H'.set H.length (some (.row 1 true [[.prim (.int .u64 z')]]))).set blk (some (.row 18 true ((swp m i (a+q)).map (tq dec))))) H.length=some (.row 1 true [[.prim (.int .u64 z2)]])):=fun q hq=>
   ⟨_,z',by omega,hsw.trans (.step i (a+q) (by omega) (by omega) (by omega) (by omega) (by omega) (.refl _)),hU.fresh.trans .set,s5 _ _,by rw [bd h1];exact dF hl2⟩
  by_cases hon:n≤o
  ·have g2:=eW (dec:=dec) (l:=m) (i:=a+(o-n)) (by omega)
   have gx:((m.map (tq dec)).set i (tq dec (m.getD (a+(o-n)) 0)))[a+(o-n)]? =some (tq dec (m.getD (a+(o-n)) 0)):=by
    by_cases e:i=a+(o-n)
    ·rw [e,List.getElem?_set_self (by rw [az];omega)]
    ·rw [List.getElem?_set_ne e];exact g2
   have es:= @nS dec m i (a+(o-n))
   simp only [tq,trc] at es gx
   simp (disch:=omega) only [↓RS,RZ,simprocAttr,en,ed,e2,f2,f4,eo,s3,s5,s6,g1,g2,gx,tq,trc,es,aX]
   exact bl (i+1) rfl (key (o-n) (by omega)) (by omega)
  ·have g2:=eW (dec:=dec) (l:=m) (i:=a+o) (by omega)
   have gx:((m.map (tq dec)).set i (tq dec (m.getD (a+o) 0)))[a+o]? =some (tq dec (m.getD (a+o) 0)):=by
    by_cases e:i=a+o
    ·rw [e,List.getElem?_set_self (by rw [az];omega)]
    ·rw [List.getElem?_set_ne e];exact g2
   have es:= @nS dec m i (a+o)
   simp only [tq,trc] at es gx
   simp (disch:=omega) only [↓RS,RZ,simprocAttr,en,ed,e2,f2,f4,eo,s3,s5,s6,g1,g2,gx,tq,trc,es,aX]
   exact bl (i+1) rfl (key o (by omega)) (by omega)
 ·simp (disch:=omega) only [↓RS,RZ,simprocAttr,en,ed,e2,f2,f4]
  exact hK m H' hsw hU hg
end Go.Av
