/- Helping texts: Lu2. -/
import Derived.Test.YtkmlhdfpcjkekaaGreatKLg
set_option linter.unusedSimpArgs false
set_option linter.unusedVariables false
set_option maxRecDepth 100000
set_option maxHeartbeats 16000000
namespace Go.Av
open Go.RowKit
open Go.Proofs.Tryz (prog)
structure nC (s:Rat→Rat→Prop) (a b i j:Nat) (l:List Rat):Prop where
 lo:a<i
 ij:i≤j+1
 hi:j<b
 lt:∀ k,a<k→k<i→s (l.getD k 0) (l.getD a 0)
 ge:∀ k,j<k→k<b→¬s (l.getD k 0) (l.getD a 0)
theorem nC.start {s:Rat→Rat→Prop} {a b:Nat} {l:List Rat} (h:a<b):nC s a b (a+1) (b-1) l:=⟨by omega,by omega,by omega,fun k h1 h2=>by omega,fun k h1 h2=>by omega⟩
theorem nC.left {s:Rat→Rat→Prop} {a b i j:Nat} {l:List Rat} (h:nC s a b i j l) (hij:i≤j) (hc:s (l.getD i 0) (l.getD a 0)):nC s a b (i+1) j l:=
 ⟨by have:=h.lo;omega,by omega,h.hi,fun k h1 h2=>by
  by_cases e:k=i
  ·subst e;exact hc
  ·exact h.lt k h1 (by omega),h.ge⟩
theorem nC.right {s:Rat→Rat→Prop} {a b i j:Nat} {l:List Rat} (h:nC s a b i (j+1) l) (hij:i≤j+1) (hc:¬s (l.getD (j+1) 0) (l.getD a 0)):nC s a b i j l:=
 ⟨h.lo,hij,by have:=h.hi;omega,h.lt,fun k h1 h2=>by
  by_cases e:k=j+1
  ·subst e;exact hc
  ·exact h.ge k (by omega) h2⟩
theorem nC.swap {s:Rat→Rat→Prop} {a b i j:Nat} {l:List Rat} (h:nC s a b i (j+1) l) (hij:i≤j+1) (hb:b≤l.length) (hi:¬s (l.getD i 0) (l.getD a 0)) (hj:s (l.getD (j+1) 0) (l.getD a 0)):i<j+1∧nC s a b (i+1) j (swp l i (j+1)):=by
 have h1:=h.lo;have h2:=h.hi
 have hne:i≠j+1:=fun e=>by subst e;exact hi hj
 have g:∀ k,(swp l i (j+1)).getD k 0=if k=j+1 then l.getD i 0 else if k=i then l.getD (j+1) 0 else l.getD k 0:=fun k=>nf (by omega) (by omega)
 refine ⟨by omega,by omega,by omega,by omega,fun k h3 h4=> ?_,fun k h3 h4=> ?_⟩
 ·rw [g,g,if_neg (by omega),if_neg (show ¬a=j+1 by omega),if_neg (show ¬a=i by omega)]
  by_cases e:k=i
  ·rw [if_pos e];exact hj
  ·rw [if_neg e];exact h.lt k h3 (by omega)
 ·rw [g,g,if_neg (show ¬a=j+1 by omega),if_neg (show ¬a=i by omega)]
  by_cases e:k=j+1
  ·rw [if_pos e];exact hi
  ·rw [if_neg e,if_neg (by omega)];exact h.ge k (by omega) h4
def KE (a b p:Nat) (m:List Rat):Prop:=a≤p∧p<b∧(∀ k,a≤k→k<p→m.getD k 0≤m.getD p 0)∧∀ k,p<k→k<b→m.getD p 0≤m.getD k 0
theorem nC.done {a b i j:Nat} {l:List Rat} (h:nC (fun x y=>x<y) a b i j l) (hij:¬i≤j) (hb:b≤l.length):KE a b j (swp l j a):=by
 have h1:=h.lo;have h2:=h.hi;have h3:=h.ij
 have g:∀ k,(swp l j a).getD k 0=if k=a then l.getD j 0 else if k=j then l.getD a 0 else l.getD k 0:=fun k=>nf (by omega) (by omega)
 have e0:(swp l j a).getD j 0=l.getD a 0:=by
  rw [g]
  by_cases e:j=a
  ·rw [if_pos e,e]
  ·rw [if_neg e,if_pos rfl]
 refine ⟨by omega,h2,fun k h4 h5=> ?_,fun k h4 h5=> ?_⟩
 ·rw [e0,g]
  by_cases e:k=a
  ·rw [if_pos e];exact ai (h.lt j (by omega) (by omega))
  ·rw [if_neg e,if_neg (by omega)];exact ai (h.lt k (by omega) (by omega))
 ·rw [e0,g,if_neg (by omega),if_neg (by omega)]
  exact Rat.not_lt.1 (h.ge k h4 h5)
theorem Qk {F:FuncId} {dec:Rat→Tri} {Dm:Rat→Prop} (hF:zo dec Dm F) (l:List Rat) (a b p:Nat) (hap:a<p) (hpb:p<b) (hbl:b≤l.length) (hn:l.length≤2^20) (hl0:hD Dm l) {blk:Nat} {fx:Bool} {H:Hp} {K:V→Hp→Prop} (hb:get H blk=some (.row 18 true (l.map (tq dec))))
 (hK:∀ m r t,Sw a b l m→KE a b r m→K (.tup [.prim (.int .i64 ((r:Nat):Int)),.prim (.bool (t))]) (H.set blk (some (.row 18 true (m.map (tq dec)))))):
 SC prog 211 [.sref blk 0 l.length l.length 18 fx,.prim (.int .i64 ((a:Nat):Int)),.prim (.int .i64 ((b:Nat):Int)),.prim (.int .i64 ((p:Nat):Int)),.clo F [] []] H K:=by
 have hbk:=bF hb
 have s1:∀ x,get (H.set blk x) blk=x:=fun x=>dF hbk
 have s2:∀ x y,(H.set blk x).set blk y=H.set blk y:=fun x y=>List.set_set ..
 have e1:((b:Nat):Int)-1=((b-1:Nat):Int):=by omega
 have g1:=eW (dec:=dec) (l:=l) (i:=a) (by omega)
 have g2:=eW (dec:=dec) (l:=l) (i:=p) (by omega)
 have gx:∀ x,((l.map (tq dec)).set a x)[p]? =some (tq dec (l.getD p 0)):=fun x=>by rw [List.getElem?_set_ne (by omega)];exact g2
 have es:= @nS dec l a p
 simp only [tq,trc] at es
 have hsw:Sw a b l (swp l a p):= .step a p (ax _) (by omega) (by omega) hpb hbl (.refl _)
 have hI:nC (fun x y=>x<y) a b (a+1) (b-1) (swp l a p):= .start (by omega)
 refine SCi ?_
 conv in bL _ _=>cbv
 simp only [bM,RN,simprocAttr]
 simp (disch:=omega) only [↓RS,RZ,simprocAttr,hb,s1,s2,g1,g2,gx,tq,trc,aX,es,e1]
 generalize swp l a p=m at*
 have hml:=hsw.length
 have q:=hsw.hD hl0
 refine oF 0 (fun (i:Nat) J=>ov [(0,.sref blk 0 l.length l.length 18 fx),(1,.prim (.int .i64 ((a:Nat):Int))),(4,.clo F [] []),(12,.prim (.int .i64 ((i:Nat):Int))),(13,.prim (.int .i64 ((b-1:Nat):Int)))] J 0 178) (fun i H'=>nC (fun x y=>x<y) a b i (b-1) m∧H'=H.set blk (some (.row 18 true (m.map (tq dec))))) (fun i=>b-i) (a+1)
  (fun (i:Nat) J=>ov [(0,.sref blk 0 l.length l.length 18 fx),(1,.prim (.int .i64 ((a:Nat):Int))),(4,.clo F [] []),(12,.prim (.int .i64 ((i:Nat):Int))),(13,.prim (.int .i64 ((b-1:Nat):Int)))] J 0 178) (fun i H'=>(nC (fun x y=>x<y) a b i (b-1) m∧(i≤b-1→¬m.getD i 0<m.getD a 0))∧H'=H.set blk (some (.row 18 true (m.map (tq dec))))) rfl ⟨hI,rfl⟩ ?_ ?_
 ·rintro i J _ ⟨⟨hP,hs⟩,rfl⟩
  try conv in ov _ _ _ _=>simp only [ov,List.lookup,RO,simprocAttr]
  try conv in ov _ _ _ _=>simp only [ov,List.lookup,RO,simprocAttr]
  have hlo:=hP.lo
  simp (disch:=omega) only [↓RS,RZ,simprocAttr]
  refine oF 2 (fun (j:Nat) J=>ov [(0,.sref blk 0 l.length l.length 18 fx),(1,.prim (.int .i64 ((a:Nat):Int))),(4,.clo F [] []),(12,.prim (.int .i64 ((i:Nat):Int))),(13,.prim (.int .i64 ((j:Nat):Int)))] J 0 178) (fun j H'=>(nC (fun x y=>x<y) a b i j m∧(i≤j→¬m.getD i 0<m.getD a 0))∧H'=H.set blk (some (.row 18 true (m.map (tq dec))))) (fun j=>j) (b-1)
   (fun (j:Nat) J=>ov [(0,.sref blk 0 l.length l.length 18 fx),(1,.prim (.int .i64 ((a:Nat):Int))),(4,.clo F [] []),(12,.prim (.int .i64 ((i:Nat):Int))),(13,.prim (.int .i64 ((j:Nat):Int)))] J 0 178) (fun j H'=>(nC (fun x y=>x<y) a b i j m∧(i≤j→¬m.getD i 0<m.getD a 0)∧(i≤j→m.getD j 0<m.getD a 0))∧H'=H.set blk (some (.row 18 true (m.map (tq dec))))) rfl ⟨⟨hP,hs⟩,rfl⟩ ?_ ?_
  ·rintro j J' _ ⟨⟨hP,hs,ht⟩,rfl⟩
   try conv in ov _ _ _ _=>simp only [ov,List.lookup,RO,simprocAttr]
   try conv in ov _ _ _ _=>simp only [ov,List.lookup,RO,simprocAttr]
   have hhi:=hP.hi
   have hix:=hP.ij
   by_cases hij:i≤j
   ·obtain ⟨k,rfl⟩:∃ k,j=k+1:=⟨j-1,by omega⟩
    obtain ⟨hlt,hN⟩:=hP.swap hij (by omega) (hs hij) (ht hij)
    have g1:=eW (dec:=dec) (l:=m) (i:=i) (by omega)
    have g2:=eW (dec:=dec) (l:=m) (i:=k+1) (by omega)
    have gx:∀ x,((m.map (tq dec)).set i x)[k+1]? =some (tq dec (m.getD (k+1) 0)):=fun x=>by rw [List.getElem?_set_ne (by omega)];exact g2
    have es:= @nS dec m i (k+1)
    simp only [tq,trc] at es
    have ek:((k+1:Nat):Int)-1=((k:Nat):Int):=by omega
    simp (disch:=omega) only [↓RS,RZ,simprocAttr,s1,s2,g1,g2,gx,tq,trc,aX,es,ek]
    refine eG (fun (x:Nat×Nat) J=>ov [(0,.sref blk 0 l.length l.length 18 fx),(1,.prim (.int .i64 ((a:Nat):Int))),(4,.clo F [] []),(12,.prim (.int .i64 ((x.1:Nat):Int))),(13,.prim (.int .i64 ((x.2:Nat):Int)))] J 0 178) (fun x H'=>∃ m:List Rat,(Sw a b l m∧nC (fun x y=>x<y) a b x.1 x.2 m)∧H'=H.set blk (some (.row 18 true (m.map (tq dec))))) (fun x=>b-x.1) (i+1,k) rfl ⟨_,⟨hsw.trans (.step i (k+1) (by omega) (by omega) (by omega) (by omega) (by omega) (.refl _)),hN⟩,rfl⟩ ?_
    rintro ⟨i0,j0⟩ J _ ⟨m,⟨hsw,hI0⟩,rfl⟩
    try conv in ov _ _ _ _=>simp only [ov,List.lookup,RO,simprocAttr]
    try conv in ov _ _ _ _=>simp only [ov,List.lookup,RO,simprocAttr]
    simp only at hI0 ⊢
    have hml:=hsw.length
    have q:=hsw.hD hl0
    simp (disch:=omega) only [↓RS,RZ,simprocAttr]
    refine oF 6 (fun (i:Nat) J=>ov [(0,.sref blk 0 l.length l.length 18 fx),(1,.prim (.int .i64 ((a:Nat):Int))),(4,.clo F [] []),(12,.prim (.int .i64 ((i:Nat):Int))),(13,.prim (.int .i64 ((j0:Nat):Int)))] J 0 178) (fun i H'=>(i0≤i∧nC (fun x y=>x<y) a b i (j0) m)∧H'=H.set blk (some (.row 18 true (m.map (tq dec))))) (fun i=>b-i) (i0)
     (fun (i:Nat) J=>ov [(0,.sref blk 0 l.length l.length 18 fx),(1,.prim (.int .i64 ((a:Nat):Int))),(4,.clo F [] []),(12,.prim (.int .i64 ((i:Nat):Int))),(13,.prim (.int .i64 ((j0:Nat):Int)))] J 0 178) (fun i H'=>(i0≤i∧nC (fun x y=>x<y) a b i (j0) m∧(i≤j0→¬m.getD i 0<m.getD a 0))∧H'=H.set blk (some (.row 18 true (m.map (tq dec))))) rfl ⟨⟨ax _,hI0⟩,rfl⟩ ?_ ?_
    ·rintro i J _ ⟨⟨hi0,hP,hs⟩,rfl⟩
     try conv in ov _ _ _ _=>simp only [ov,List.lookup,RO,simprocAttr]
     try conv in ov _ _ _ _=>simp only [ov,List.lookup,RO,simprocAttr]
     have hlo:=hP.lo
     simp (disch:=omega) only [↓RS,RZ,simprocAttr]
     refine oF 8 (fun (j:Nat) J=>ov [(0,.sref blk 0 l.length l.length 18 fx),(1,.prim (.int .i64 ((a:Nat):Int))),(4,.clo F [] []),(12,.prim (.int .i64 ((i:Nat):Int))),(13,.prim (.int .i64 ((j:Nat):Int)))] J 0 178) (fun j H'=>(nC (fun x y=>x<y) a b i j m∧(i≤j→¬m.getD i 0<m.getD a 0))∧H'=H.set blk (some (.row 18 true (m.map (tq dec))))) (fun j=>j) (j0)
      (fun (j:Nat) J=>ov [(0,.sref blk 0 l.length l.length 18 fx),(1,.prim (.int .i64 ((a:Nat):Int))),(4,.clo F [] []),(12,.prim (.int .i64 ((i:Nat):Int))),(13,.prim (.int .i64 ((j:Nat):Int)))] J 0 178) (fun j H'=>(nC (fun x y=>x<y) a b i j m∧(i≤j→¬m.getD i 0<m.getD a 0)∧(i≤j→m.getD j 0<m.getD a 0))∧H'=H.set blk (some (.row 18 true (m.map (tq dec))))) rfl ⟨⟨hP,hs⟩,rfl⟩ ?_ ?_
     ·rintro j J' _ ⟨⟨hP,hs,ht⟩,rfl⟩
      try conv in ov _ _ _ _=>simp only [ov,List.lookup,RO,simprocAttr]
      try conv in ov _ _ _ _=>simp only [ov,List.lookup,RO,simprocAttr]
      have hhi:=hP.hi
      have hix:=hP.ij
      by_cases hij:i≤j
      ·obtain ⟨k,rfl⟩:∃ k,j=k+1:=⟨j-1,by omega⟩
       obtain ⟨hlt,hN⟩:=hP.swap hij (by omega) (hs hij) (ht hij)
       have g1:=eW (dec:=dec) (l:=m) (i:=i) (by omega)
       have g2:=eW (dec:=dec) (l:=m) (i:=k+1) (by omega)
       have gx:∀ x,((m.map (tq dec)).set i x)[k+1]? =some (tq dec (m.getD (k+1) 0)):=fun x=>by rw [List.getElem?_set_ne (by omega)];exact g2
       have es:= @nS dec m i (k+1)
       simp only [tq,trc] at es
       have ek:((k+1:Nat):Int)-1=((k:Nat):Int):=by omega
       simp (disch:=omega) only [↓RS,RZ,simprocAttr,s1,s2,g1,g2,gx,tq,trc,aX,es,ek]
       exact bl (i+1,k) rfl ⟨_,⟨hsw.trans (.step i (k+1) (by omega) (by omega) (by omega) (by omega) (by omega) (.refl _)),hN⟩,rfl⟩ (by simp only;omega)
      ·have hD:=hP.done hij (by omega)
       have g1:=eW (dec:=dec) (l:=m) (i:=a) (by omega)
       have g2:=eW (dec:=dec) (l:=m) (i:=j) (by omega)
       have gx:((m.map (tq dec)).set j (tq dec (m.getD a 0)))[a]? =some (tq dec (m.getD a 0)):=by
        by_cases e:j=a
        ·subst e;rw [List.getElem?_set_self (by rw [az];omega)]
        ·rw [List.getElem?_set_ne e];exact g1
       have es:= @nS dec m j a
       simp only [tq,trc] at es gx
       simp (disch:=omega) only [↓RS,RZ,simprocAttr,s1,s2,g1,g2,gx,tq,trc,aX,es]
       exact hK _ j false (hsw.trans (.step j a (by omega) (by omega) (ax _) (by omega) (by omega) (.refl _))) hD
     ·rintro j J' _ ⟨⟨hP,hs⟩,rfl⟩
      try conv in ov _ _ _ _=>simp only [ov,List.lookup,RO,simprocAttr]
      try conv in ov _ _ _ _=>simp only [ov,List.lookup,RO,simprocAttr]
      have hhi:=hP.hi
      have hix:=hP.ij
      by_cases hij:i≤j
      ·obtain ⟨k,rfl⟩:∃ k,j=k+1:=⟨j-1,by omega⟩
       have g1:=eW (dec:=dec) (l:=m) (i:=k+1) (by omega)
       have g2:=eW (dec:=dec) (l:=m) (i:=a) (by omega)
       have c:=hF (m.getD (k+1) 0) (m.getD a 0) (q _ (by omega)) (q _ (by omega))
       have ek:((k+1:Nat):Int)-1=((k:Nat):Int):=by omega
       simp (disch:=omega) only [↓RS,RZ,simprocAttr,s1,g1,g2,tq,trc,aX]
       refine cX c ?_
       by_cases hc:jV (m.getD (k+1) 0) (m.getD a 0)<0
       ·simp (disch:=omega) only [↓RS,RZ,simprocAttr]
        exact lm (k+1) rfl ⟨⟨hP,hs,fun _=>jk.1 hc⟩,rfl⟩
       ·simp (disch:=omega) only [↓RS,RZ,simprocAttr,ek]
        exact bl k rfl ⟨⟨hP.right hij fun h=>hc (jk.2 h),fun h=>hs (by omega)⟩,rfl⟩ (Nat.lt_succ_self k)
      ·simp (disch:=omega) only [↓RS,RZ,simprocAttr]
       exact lm j rfl ⟨⟨hP,hs,fun h=>absurd h hij⟩,rfl⟩
    ·rintro i J _ ⟨⟨hi0,hP⟩,rfl⟩
     try conv in ov _ _ _ _=>simp only [ov,List.lookup,RO,simprocAttr]
     try conv in ov _ _ _ _=>simp only [ov,List.lookup,RO,simprocAttr]
     have hlo:=hP.lo
     have hhi:=hP.hi
     have hix:=hP.ij
     by_cases hij:i≤j0
     ·have g1:=eW (dec:=dec) (l:=m) (i:=i) (by omega)
      have g2:=eW (dec:=dec) (l:=m) (i:=a) (by omega)
      have c:=hF (m.getD i 0) (m.getD a 0) (q _ (by omega)) (q _ (by omega))
      simp (disch:=omega) only [↓RS,RZ,simprocAttr,s1,g1,g2,tq,trc,aX]
      refine cX c ?_
      by_cases hc:jV (m.getD i 0) (m.getD a 0)<0
      ·simp (disch:=omega) only [↓RS,RZ,simprocAttr]
       exact bl (i+1) rfl ⟨⟨by omega,hP.left hij (jk.1 hc)⟩,rfl⟩ (by omega)
      ·simp (disch:=omega) only [↓RS,RZ,simprocAttr]
       exact lm i rfl ⟨⟨hi0,hP,fun _ h=>hc (jk.2 h)⟩,rfl⟩
     ·simp (disch:=omega) only [↓RS,RZ,simprocAttr]
      exact lm i rfl ⟨⟨hi0,hP,fun h=>absurd h hij⟩,rfl⟩
   ·have hD:=hP.done hij (by omega)
    have g1:=eW (dec:=dec) (l:=m) (i:=a) (by omega)
    have g2:=eW (dec:=dec) (l:=m) (i:=j) (by omega)
    have gx:((m.map (tq dec)).set j (tq dec (m.getD a 0)))[a]? =some (tq dec (m.getD a 0)):=by
     by_cases e:j=a
     ·subst e;rw [List.getElem?_set_self (by rw [az];omega)]
     ·rw [List.getElem?_set_ne e];exact g1
    have es:= @nS dec m j a
    simp only [tq,trc] at es gx
    simp (disch:=omega) only [↓RS,RZ,simprocAttr,s1,s2,g1,g2,gx,tq,trc,aX,es]
    exact hK _ j true (hsw.trans (.step j a (by omega) (by omega) (ax _) (by omega) (by omega) (.refl _))) hD
  ·rintro j J' _ ⟨⟨hP,hs⟩,rfl⟩
   try conv in ov _ _ _ _=>simp only [ov,List.lookup,RO,simprocAttr]
   try conv in ov _ _ _ _=>simp only [ov,List.lookup,RO,simprocAttr]
   have hhi:=hP.hi
   have hix:=hP.ij
   by_cases hij:i≤j
   ·obtain ⟨k,rfl⟩:∃ k,j=k+1:=⟨j-1,by omega⟩
    have g1:=eW (dec:=dec) (l:=m) (i:=k+1) (by omega)
    have g2:=eW (dec:=dec) (l:=m) (i:=a) (by omega)
    have c:=hF (m.getD (k+1) 0) (m.getD a 0) (q _ (by omega)) (q _ (by omega))
    have ek:((k+1:Nat):Int)-1=((k:Nat):Int):=by omega
    simp (disch:=omega) only [↓RS,RZ,simprocAttr,s1,g1,g2,tq,trc,aX]
    refine cX c ?_
    by_cases hc:jV (m.getD (k+1) 0) (m.getD a 0)<0
    ·simp (disch:=omega) only [↓RS,RZ,simprocAttr]
     exact lm (k+1) rfl ⟨⟨hP,hs,fun _=>jk.1 hc⟩,rfl⟩
    ·simp (disch:=omega) only [↓RS,RZ,simprocAttr,ek]
     exact bl k rfl ⟨⟨hP.right hij fun h=>hc (jk.2 h),fun h=>hs (by omega)⟩,rfl⟩ (Nat.lt_succ_self k)
   ·simp (disch:=omega) only [↓RS,RZ,simprocAttr]
    exact lm j rfl ⟨⟨hP,hs,fun h=>absurd h hij⟩,rfl⟩
 ·rintro i J _ ⟨hP,rfl⟩
  try conv in ov _ _ _ _=>simp only [ov,List.lookup,RO,simprocAttr]
  try conv in ov _ _ _ _=>simp only [ov,List.lookup,RO,simprocAttr]
  have hlo:=hP.lo
  have hhi:=hP.hi
  have hix:=hP.ij
  by_cases hij:i≤b-1
  ·have g1:=eW (dec:=dec) (l:=m) (i:=i) (by omega)
   have g2:=eW (dec:=dec) (l:=m) (i:=a) (by omega)
   have c:=hF (m.getD i 0) (m.getD a 0) (q _ (by omega)) (q _ (by omega))
   simp (disch:=omega) only [↓RS,RZ,simprocAttr,s1,g1,g2,tq,trc,aX]
   refine cX c ?_
   by_cases hc:jV (m.getD i 0) (m.getD a 0)<0
   ·simp (disch:=omega) only [↓RS,RZ,simprocAttr]
    exact bl (i+1) rfl ⟨hP.left hij (jk.1 hc),rfl⟩ (by omega)
   ·simp (disch:=omega) only [↓RS,RZ,simprocAttr]
    exact lm i rfl ⟨⟨hP,fun _ h=>hc (jk.2 h)⟩,rfl⟩
  ·simp (disch:=omega) only [↓RS,RZ,simprocAttr]
   exact lm i rfl ⟨⟨hP,fun h=>absurd h hij⟩,rfl⟩
theorem nC.least {a b i j:Nat} {l:List Rat} (h:nC (fun x y=>¬y<x) a b i j l) (hm:∀ k,a≤k→k<b→l.getD a 0≤l.getD k 0):∀ k k',a≤k→k<i→a≤k'→k'<b→l.getD k 0≤l.getD k' 0:=fun k k' h1 h2 h3 h4=>by
 refine iy ?_ (hm k' h3 h4)
 by_cases e:k=a
 ·rw [e];exact Rat.le_refl
 ·exact Rat.not_lt.1 (h.lt k (by omega) h2)
theorem NT {F:FuncId} {dec:Rat→Tri} {Dm:Rat→Prop} (hF:zo dec Dm F) (l:List Rat) (a b p:Nat) (hap:a<p) (hpb:p<b) (hbl:b≤l.length) (hn:l.length≤2^20) (hl0:hD Dm l) (hmin:∀ k,a≤k→k<b→l.getD p 0≤l.getD k 0) {blk:Nat} {fx:Bool} {H:Hp} {K:V→Hp→Prop} (hb:get H blk=some (.row 18 true (l.map (tq dec))))
 (hK:∀ m r,Sw a b l m→a<r→r≤b→(∀ k k',a≤k→k<r→a≤k'→k'<b→m.getD k 0≤m.getD k' 0)→K (.prim (.int .i64 ((r:Nat):Int))) (H.set blk (some (.row 18 true (m.map (tq dec)))))):
 SC prog 210 [.sref blk 0 l.length l.length 18 fx,.prim (.int .i64 ((a:Nat):Int)),.prim (.int .i64 ((b:Nat):Int)),.prim (.int .i64 ((p:Nat):Int)),.clo F [] []] H K:=by
 have hbk:=bF hb
 have s1:∀ x,get (H.set blk x) blk=x:=fun x=>dF hbk
 have s2:∀ x y,(H.set blk x).set blk y=H.set blk y:=fun x y=>List.set_set ..
 have e1:((b:Nat):Int)-1=((b-1:Nat):Int):=by omega
 have g1:=eW (dec:=dec) (l:=l) (i:=a) (by omega)
 have g2:=eW (dec:=dec) (l:=l) (i:=p) (by omega)
 have gx:∀ x,((l.map (tq dec)).set a x)[p]? =some (tq dec (l.getD p 0)):=fun x=>by rw [List.getElem?_set_ne (by omega)];exact g2
 have es:= @nS dec l a p
 simp only [tq,trc] at es
 have hsw:Sw a b l (swp l a p):= .step a p (ax _) (by omega) (by omega) hpb hbl (.refl _)
 have hI:nC (fun x y=>¬y<x) a b (a+1) (b-1) (swp l a p):= .start (by omega)
 have hav:(swp l a p).getD a 0=l.getD p 0:=by rw [nf (by omega) (by omega),if_neg (by omega),if_pos rfl]
 refine SCi ?_
 conv in bL _ _=>cbv
 simp only [bM,RN,simprocAttr]
 simp (disch:=omega) only [↓RS,RZ,simprocAttr,hb,s1,s2,g1,g2,gx,tq,trc,aX,es,e1]
 refine eG (fun (x:Nat×Nat) J=>ov [(0,.sref blk 0 l.length l.length 18 fx),(1,.prim (.int .i64 ((a:Nat):Int))),(4,.clo F [] []),(11,.prim (.int .i64 ((x.1:Nat):Int))),(12,.prim (.int .i64 ((x.2:Nat):Int)))] J 0 90) (fun x H'=>∃ m:List Rat,(Sw a b l m∧m.getD a 0=l.getD p 0∧nC (fun x y=>¬y<x) a b x.1 x.2 m)∧H'=H.set blk (some (.row 18 true (m.map (tq dec))))) (fun x=>b-x.1) (a+1,b-1) rfl ⟨_,⟨hsw,hav,hI⟩,rfl⟩ ?_
 rintro ⟨i0,j0⟩ J _ ⟨m,⟨hsw,hav,hI0⟩,rfl⟩
 try conv in ov _ _ _ _=>simp only [ov,List.lookup,RO,simprocAttr]
 try conv in ov _ _ _ _=>simp only [ov,List.lookup,RO,simprocAttr]
 simp only at hI0 ⊢
 have hml:=hsw.length
 have q:=hsw.hD hl0
 simp (disch:=omega) only [↓RS,RZ,simprocAttr]
 refine oF 2 (fun (i:Nat) J=>ov [(0,.sref blk 0 l.length l.length 18 fx),(1,.prim (.int .i64 ((a:Nat):Int))),(4,.clo F [] []),(11,.prim (.int .i64 ((i:Nat):Int))),(12,.prim (.int .i64 ((j0:Nat):Int)))] J 0 90) (fun i H'=>(i0≤i∧nC (fun x y=>¬y<x) a b i j0 m)∧H'=H.set blk (some (.row 18 true (m.map (tq dec))))) (fun i=>b-i) i0
  (fun (i:Nat) J=>ov [(0,.sref blk 0 l.length l.length 18 fx),(1,.prim (.int .i64 ((a:Nat):Int))),(4,.clo F [] []),(11,.prim (.int .i64 ((i:Nat):Int))),(12,.prim (.int .i64 ((j0:Nat):Int)))] J 0 90) (fun i H'=>(i0≤i∧nC (fun x y=>¬y<x) a b i j0 m∧(i≤j0→m.getD a 0<m.getD i 0))∧H'=H.set blk (some (.row 18 true (m.map (tq dec))))) rfl ⟨⟨ax _,hI0⟩,rfl⟩ ?_ ?_
 ·rintro i J _ ⟨⟨hi0,hP,hs⟩,rfl⟩
  try conv in ov _ _ _ _=>simp only [ov,List.lookup,RO,simprocAttr]
  try conv in ov _ _ _ _=>simp only [ov,List.lookup,RO,simprocAttr]
  have hlo:=hP.lo
  simp (disch:=omega) only [↓RS,RZ,simprocAttr]
  refine oF 4 (fun (j:Nat) J=>ov [(0,.sref blk 0 l.length l.length 18 fx),(1,.prim (.int .i64 ((a:Nat):Int))),(4,.clo F [] []),(11,.prim (.int .i64 ((i:Nat):Int))),(12,.prim (.int .i64 ((j:Nat):Int)))] J 0 90) (fun j H'=>(nC (fun x y=>¬y<x) a b i j m∧(i≤j→m.getD a 0<m.getD i 0))∧H'=H.set blk (some (.row 18 true (m.map (tq dec))))) (fun j=>j) j0
   (fun (j:Nat) J=>ov [(0,.sref blk 0 l.length l.length 18 fx),(1,.prim (.int .i64 ((a:Nat):Int))),(4,.clo F [] []),(11,.prim (.int .i64 ((i:Nat):Int))),(12,.prim (.int .i64 ((j:Nat):Int)))] J 0 90) (fun j H'=>(nC (fun x y=>¬y<x) a b i j m∧(i≤j→m.getD a 0<m.getD i 0)∧(i≤j→¬m.getD a 0<m.getD j 0))∧H'=H.set blk (some (.row 18 true (m.map (tq dec))))) rfl ⟨⟨hP,hs⟩,rfl⟩ ?_ ?_
  ·rintro j J' _ ⟨⟨hP,hs,ht⟩,rfl⟩
   try conv in ov _ _ _ _=>simp only [ov,List.lookup,RO,simprocAttr]
   try conv in ov _ _ _ _=>simp only [ov,List.lookup,RO,simprocAttr]
   have hhi:=hP.hi
   have hix:=hP.ij
   by_cases hij:i≤j
   ·obtain ⟨k,rfl⟩:∃ k,j=k+1:=⟨j-1,by omega⟩
    obtain ⟨hlt,hN⟩:=hP.swap hij (by omega) (fun h=>h (hs hij)) (ht hij)
    have g1:=eW (dec:=dec) (l:=m) (i:=i) (by omega)
    have g2:=eW (dec:=dec) (l:=m) (i:=k+1) (by omega)
    have gx:∀ x,((m.map (tq dec)).set i x)[k+1]? =some (tq dec (m.getD (k+1) 0)):=fun x=>by rw [List.getElem?_set_ne (by omega)];exact g2
    have es:= @nS dec m i (k+1)
    simp only [tq,trc] at es
    have ek:((k+1:Nat):Int)-1=((k:Nat):Int):=by omega
    simp (disch:=omega) only [↓RS,RZ,simprocAttr,s1,s2,g1,g2,gx,tq,trc,aX,es,ek]
    exact bl (i+1,k) rfl ⟨_,⟨hsw.trans (.step i (k+1) (by omega) (by omega) (by omega) (by omega) (by omega) (.refl _)),by rw [nf (by omega) (by omega),if_neg (by omega),if_neg (by omega)];exact hav,hN⟩,rfl⟩ (by simp only;omega)
   ·have hD:=hP.least (fun k h1 h2=>by rw [hav];exact hsw.all (P:=fun x=>l.getD p 0≤x) hmin k h1 h2)
    simp (disch:=omega) only [↓RS,RZ,simprocAttr]
    exact hK m i hsw hlo (by omega) hD
  ·rintro j J' _ ⟨⟨hP,hs⟩,rfl⟩
   try conv in ov _ _ _ _=>simp only [ov,List.lookup,RO,simprocAttr]
   try conv in ov _ _ _ _=>simp only [ov,List.lookup,RO,simprocAttr]
   have hhi:=hP.hi
   have hix:=hP.ij
   by_cases hij:i≤j
   ·obtain ⟨k,rfl⟩:∃ k,j=k+1:=⟨j-1,by omega⟩
    have g1:=eW (dec:=dec) (l:=m) (i:=k+1) (by omega)
    have g2:=eW (dec:=dec) (l:=m) (i:=a) (by omega)
    have c:=hF (m.getD a 0) (m.getD (k+1) 0) (q _ (by omega)) (q _ (by omega))
    have ek:((k+1:Nat):Int)-1=((k:Nat):Int):=by omega
    simp (disch:=omega) only [↓RS,RZ,simprocAttr,s1,g1,g2,tq,trc,aX]
    refine cX c ?_
    by_cases hc:jV (m.getD a 0) (m.getD (k+1) 0)<0
    ·simp (disch:=omega) only [↓RS,RZ,simprocAttr,ek]
     exact bl k rfl ⟨⟨hP.right hij fun h=>h (jk.1 hc),fun h=>hs (by omega)⟩,rfl⟩ (Nat.lt_succ_self k)
    ·simp (disch:=omega) only [↓RS,RZ,simprocAttr]
     exact lm (k+1) rfl ⟨⟨hP,hs,fun _ h=>hc (jk.2 h)⟩,rfl⟩
   ·simp (disch:=omega) only [↓RS,RZ,simprocAttr]
    exact lm j rfl ⟨⟨hP,hs,fun h=>absurd h hij⟩,rfl⟩
 ·rintro i J _ ⟨⟨hi0,hP⟩,rfl⟩
  try conv in ov _ _ _ _=>simp only [ov,List.lookup,RO,simprocAttr]
  try conv in ov _ _ _ _=>simp only [ov,List.lookup,RO,simprocAttr]
  have hlo:=hP.lo
  have hhi:=hP.hi
  have hix:=hP.ij
  by_cases hij:i≤j0
  ·have g1:=eW (dec:=dec) (l:=m) (i:=i) (by omega)
   have g2:=eW (dec:=dec) (l:=m) (i:=a) (by omega)
   have c:=hF (m.getD a 0) (m.getD i 0) (q _ (by omega)) (q _ (by omega))
   simp (disch:=omega) only [↓RS,RZ,simprocAttr,s1,g1,g2,tq,trc,aX]
   refine cX c ?_
   by_cases hc:jV (m.getD a 0) (m.getD i 0)<0
   ·simp (disch:=omega) only [↓RS,RZ,simprocAttr]
    exact lm i rfl ⟨⟨hi0,hP,fun _=>jk.1 hc⟩,rfl⟩
   ·simp (disch:=omega) only [↓RS,RZ,simprocAttr]
    exact bl (i+1) rfl ⟨⟨by omega,hP.left hij fun h=>hc (jk.2 h)⟩,rfl⟩ (by omega)
  ·simp (disch:=omega) only [↓RS,RZ,simprocAttr]
   exact lm i rfl ⟨⟨hi0,hP,fun h=>absurd h hij⟩,rfl⟩
end Go.Av
