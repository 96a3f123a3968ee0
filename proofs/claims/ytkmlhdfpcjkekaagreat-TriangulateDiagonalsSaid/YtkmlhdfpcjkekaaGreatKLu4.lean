/- Helping texts: Lu4, Lj. -/
import Derived.Test.YtkmlhdfpcjkekaaGreatKLu3
import Derived.Test.YtkmlhdfpcjkekaaGreatKDa
set_option linter.unusedSimpArgs false
set_option linter.unusedVariables false
set_option maxRecDepth 100000
set_option maxHeartbeats 16000000
namespace Go.Av
open Go.RowKit
open Go.Proofs.Tryz (prog)
theorem Srt.glue {a c b:Nat} {l:List Rat} (h1:Srt a c l) (h2:Srt c b l) (h:a<c→c<b→l.getD (c-1) 0≤l.getD c 0):Srt a b l:=fun k h3 h4=>by
 rcases Nat.lt_trichotomy k c with h5|h5|h5
 ·exact h1 k h3 h5
 ·subst h5;exact h h3 h4
 ·exact h2 k h5 h4
theorem Srt.cong {a b:Nat} {l m:List Rat} (h:Srt a b l) (he:∀ k,a≤k→k<b→m.getD k 0=l.getD k 0):Srt a b m:=fun k h1 h2=>by
 rw [he _ (by omega) (by omega),he _ (by omega) (by omega)];exact h k h1 h2
def Pre (a b:Nat) (l:List Rat):Prop:=0<a→∀ k,a≤k→k<b→l.getD (a-1) 0≤l.getD k 0
theorem Pre.sw {a b:Nat} {l m:List Rat} (h:Pre a b l) (hs:Sw a b l m):Pre a b m:=fun h0 k h1 h2=>by
 rw [hs.out (k:=a-1) (by omega)]
 exact hs.all (P:=fun x=>l.getD (a-1) 0≤x) (h h0) k h1 h2
def x5 (a b a1 b1:Nat) (m:List Rat):Prop:=∀ m',Sw a1 b1 m m'→Srt a1 b1 m'→Srt a b m'
theorem x5.sw {a b a1 b1:Nat} {l m:List Rat} (h:x5 a b a1 b1 l) (hs:Sw a1 b1 l m):x5 a b a1 b1 m:=fun m' h1 h2=>h m' (hs.trans h1) h2
theorem x5.equal {a b a1 b1 mid:Nat} {m:List Rat} (h:x5 a b a1 b1 m) (h1:a1<mid) (h2:mid≤b1) (hb:b1≤m.length) (he:∀ k k',a1≤k→k<mid→a1≤k'→k'<b1→m.getD k 0≤m.getD k' 0):x5 a b mid b1 m∧Pre mid b1 m:=by
 refine ⟨fun m' k1 k2=>h m' (k1.mono (by omega) (ax _) hb) (Srt.glue (c:=mid) ?_ k2 fun h3 h4=> ?_),fun h3 k h4 h5=>he _ _ (by omega) (by omega) (by omega) h5⟩
 ·refine Srt.cong (l:=m) (fun k h3 h4=>he _ _ (by omega) (by omega) (by omega) (by omega)) fun k h3 h4=>k1.out (.inl h4)
 ·rw [k1.out (k:=mid-1) (by omega)]
  exact k1.all (P:=fun x=>m.getD (mid-1) 0≤x) (fun k h5 h6=>he _ _ (by omega) (by omega) (by omega) h6) mid (ax _) h4
theorem x5.left {a b a1 b1 mid:Nat} {m m3:List Rat} (h:x5 a b a1 b1 m) (hP:KE a1 b1 mid m) (hb:b1≤m.length) (hs:Sw a1 mid m m3) (hd:Srt a1 mid m3):x5 a b (mid+1) b1 m3∧Pre (mid+1) b1 m3:=by
 obtain ⟨h1,h2,h3,h4⟩:=hP
 have hl:=hs.length
 have em:m3.getD mid 0=m.getD mid 0:=hs.out (.inr (ax _))
 have hlt:∀ k,a1≤k→k<mid→m3.getD k 0≤m.getD mid 0:=hs.all (P:=fun x=>x≤m.getD mid 0) h3
 have hgt:∀ k,mid<k→k<b1→m.getD mid 0≤m3.getD k 0:=fun k h5 h6=>by rw [hs.out (.inr (by omega))];exact h4 k h5 h6
 refine ⟨fun m' k1 k2=>h m' ((hs.mono (ax _) (by omega) hb).trans (k1.mono (by omega) (ax _) (by omega))) (Srt.glue (c:=mid+1) (Srt.glue (c:=mid) ?_ (fun k h5 h6=>by omega) fun h5 h6=> ?_) k2 fun h5 h6=> ?_),fun h5 k h6 h7=> ?_⟩
 ·exact hd.cong fun k h5 h6=>k1.out (.inl (by omega))
 ·rw [k1.out (k:=mid-1) (by omega),k1.out (k:=mid) (by omega),em];exact hlt _ (by omega) (by omega)
 ·rw [Nat.add_sub_cancel,k1.out (k:=mid) (by omega),em]
  exact k1.all (P:=fun x=>m.getD mid 0≤x) (fun k h7 h8=>hgt k (by omega) h8) _ (ax _) h6
 ·rw [Nat.add_sub_cancel,em];exact hgt k (by omega) h7
theorem x5.right {a b a1 b1 mid:Nat} {m m3:List Rat} (h:x5 a b a1 b1 m) (hp:Pre a1 b1 m) (hP:KE a1 b1 mid m) (hb:b1≤m.length) (hs:Sw (mid+1) b1 m m3) (hd:Srt (mid+1) b1 m3):x5 a b a1 mid m3∧Pre a1 mid m3:=by
 obtain ⟨h1,h2,h3,h4⟩:=hP
 have hl:=hs.length
 have em:m3.getD mid 0=m.getD mid 0:=hs.out (.inl (by omega))
 have hgt:∀ k,mid+1≤k→k<b1→m.getD mid 0≤m3.getD k 0:=hs.all (P:=fun x=>m.getD mid 0≤x) fun k h5 h6=>h4 k (by omega) h6
 have hlt:∀ k,a1≤k→k<mid→m3.getD k 0≤m.getD mid 0:=fun k h5 h6=>by rw [hs.out (.inl (by omega))];exact h3 k h5 h6
 refine ⟨fun m' k1 k2=>h m' ((hs.mono (by omega) (ax _) hb).trans (k1.mono (ax _) (by omega) (by omega))) (Srt.glue (c:=mid) k2 (Srt.glue (c:=mid+1) (fun k h5 h6=>by omega) ?_ fun h5 h6=> ?_) fun h5 h6=> ?_),fun h5 k h6 h7=> ?_⟩
 ·exact hd.cong fun k h5 h6=>k1.out (.inr (by omega))
 ·rw [Nat.add_sub_cancel,k1.out (k:=mid) (by omega),k1.out (k:=mid+1) (by omega),em];exact hgt _ (ax _) h6
 ·rw [k1.out (k:=mid) (by omega),em]
  exact k1.all (P:=fun x=>x≤m.getD mid 0) hlt _ (by omega) (by omega)
 ·rw [hs.out (k:=a1-1) (by omega),hs.out (k:=k) (by omega)];exact hp h5 k h6 (by omega)
def Ke {S:Type} (st:S→(Nat→V)→List V) (Inv:S→Hp→Prop) (Q:kF):kF:=fun x T H=>match x with
 | .normal=>∃ s,T=st s (fun k=>T.getD k cW)∧Inv s H
 |x=>Q x T H
theorem Iu {S:Type} {st:S→(Nat→V)→List V} {Inv:S→Hp→Prop} {Q:kF} {T:List V} {H:Hp} {i:Nat}:Ke st Inv Q (.exit i) T H=Q (.exit i) T H:=rfl
theorem xD {S:Type} {st:S→(Nat→V)→List V} {Inv:S→Hp→Prop} {Q:kF} {T:List V} {H:Hp}:Ke st Inv Q .ret T H=Q .ret T H:=rfl
theorem oZ {S:Type} {st:S→(Nat→V)→List V} {Inv:S→Hp→Prop} {Q:kF} {T:List V} {H:Hp} (s:S) (h1:T=st s (fun k=>T.getD k cW)) (h2:Inv s H):Ke st Inv Q .normal T H:=⟨s,h1,h2⟩
theorem En {P:Program} {c d:LC} {T:List V} {H:Hp} {Q:kF} {S:Type} (st:S→(Nat→V)→List V) (Inv:S→Hp→Prop) (h:wpL P c T H (Ke st Inv Q)) (rest:∀ s J H,Inv s H→wpL P d (st s J) H Q):wpL P (c.seq d) T H Q:=by
 show wpL P c T H (ED P d Q)
 refine rd c ?_ h
 intro x T' H' hq
 cases x with
 |normal=>
  obtain ⟨s,e1,e2⟩:=hq
  show wpL P d T' H' Q
  rw [e1];exact rest s _ _ e2
 |_=>exact hq
theorem sV {P:Program} {c d e:LC} {T:List V} {H:Hp} {Q:kF}:wpL P (c.seq (d.seq e)) T H Q=wpL P ((c.seq d).seq e) T H Q:=by
 show wpL P c T H (ED P (d.seq e) Q)=wpL P c T H (ED P d (ED P e Q))
 congr 1
 funext x T' H'
 cases x<;>rfl
structure J1 (dec:Rat→Tri) (a1 b1:Nat) (m:List Rat) (blk:Nat) (H:Hp) (k2:Nat) (H':Hp):Prop where
 len:12<b1-a1
 lim:k2≤64
 ex:∃ m2:List Rat,Sw a1 b1 m m2∧Upd blk H H'∧get H' blk=some (.row 18 true (m2.map (tq dec)))
structure J2 (dec:Rat→Tri) (a1 n:Nat) (m2:List Rat) (blk:Nat) (H:Hp) (r:Nat) (H':Hp):Prop where
 lo:a1<r
 hi:r<a1+n
 upd:Upd blk H H'
 get:get H' blk=some (.row 18 true (m2.map (tq dec)))
theorem Qi {F:FuncId} {dec:Rat→Tri} {Dm:Rat→Prop} (hF:zo dec Dm F) (s:Nat):∀ (l:List Rat) (a b lim:Nat) (_:b-a≤s) (_:a≤b) (_:b≤l.length) (_:l.length<50) (_:hD Dm l) (_:Pre a b l) (_:lim≤64) {blk:Nat} {fx:Bool} {H:Hp} {K:V→Hp→Prop} (_:get H blk=some (.row 18 true (l.map (tq dec))))
 (_:∀ m H',Sw a b l m→Srt a b m→Upd blk H H'→get H' blk=some (.row 18 true (m.map (tq dec)))→K (.tup []) H'),
 SC prog 141 [.sref blk 0 l.length l.length 18 fx,.prim (.int .i64 ((a:Nat):Int)),.prim (.int .i64 ((b:Nat):Int)),.prim (.int .i64 ((lim:Nat):Int)),.clo F [] []] H K:=by
 induction s using Nat.strongRecOn with
 |ind s ih=>
  intro l a b lim hs hab hbl hn hl0 hpre hlim blk fx H K hb hK
  refine SCi ?_
  conv in bL _ _=>cbv
  simp only [bM,RN,simprocAttr]
  simp (disch:=omega) only [↓RS,RZ,simprocAttr]
  refine eG (fun (x:Nat×Nat×Nat×Bool×Bool) J=>ov [(0,.sref blk 0 l.length l.length 18 fx),(1,.prim (.int .i64 ((x.1:Nat):Int))),(2,.prim (.int .i64 ((x.2.1:Nat):Int))),(3,.prim (.int .i64 ((x.2.2.1:Nat):Int))),(4,.clo F [] []),(10,.prim (.bool (x.2.2.2.1))),(11,.prim (.bool (x.2.2.2.2)))] J 0 148) (fun x H'=>∃ m:List Rat,(a≤x.1∧x.1≤x.2.1∧x.2.1≤b∧x.2.2.1≤64)∧Sw a b l m∧Pre x.1 x.2.1 m∧x5 a b x.1 x.2.1 m∧Upd blk H H'∧get H' blk=some (.row 18 true (m.map (tq dec)))) (fun x=>x.2.1-x.1) (a,b,lim,true,true) rfl ⟨l,⟨ax _,hab,ax _,hlim⟩,.refl l,hpre,fun m' _ h=>h,.refl _ _,hb⟩ ?_
  rintro ⟨a1,b1,k1,bal,part⟩ J H1 ⟨m,⟨h1,h2,h3,h4⟩,hsw,hp,hR,hU,hg⟩
  try conv in ov _ _ _ _=>simp only [ov,List.lookup,RO,simprocAttr]
  try conv in ov _ _ _ _=>simp only [ov,List.lookup,RO,simprocAttr]
  try conv in ov _ _ _ _=>simp only [ov,List.lookup,RO,simprocAttr]
  simp only at h1 h2 h3 h4 hp hR ⊢
  have hml:=hsw.length
  have q:=hsw.hD hl0
  have e0:((b1:Nat):Int)-(a1:Int)=((b1-a1:Nat):Int):=by omega
  simp only [eQ]
  rw [sV,sV,sV]
  refine En (fun (k2:Nat) J=>ov [(0,.sref blk 0 l.length l.length 18 fx),(1,.prim (.int .i64 ((a1:Nat):Int))),(2,.prim (.int .i64 ((b1:Nat):Int))),(3,.prim (.int .i64 ((k2:Nat):Int))),(4,.clo F [] []),(10,.prim (.bool (bal))),(11,.prim (.bool (part))),(12,.prim (.int .i64 ((b1-a1:Nat):Int)))] J 0 148) (J1 dec a1 b1 m blk H) ?_ ?_
  ·by_cases hlen:b1-a1≤12
   ·have ic:=fun K0 hK0=> @LM F dec Dm hF m a1 b1 h2 (by omega) (by omega) q blk fx H1 K0 hg hK0
    rw [hml] at ic
    simp (disch:=omega) only [↓RS,RZ,simprocAttr,e0]
    refine bI (ic _ fun m2 hw2 hs2=> ?_)
    simp (disch:=omega) only [↓RS,RZ,simprocAttr,xD]
    exact hK m2 _ (hsw.trans (hw2.mono h1 h3 (by omega))) (hR m2 hw2 hs2) (hU.trans .set) (dF (bF hg))
   ·by_cases hk:k1=0
    ·subst hk
     have ic:=fun K0 hK0=> @QG F dec Dm hF m a1 b1 (by omega) (by omega) (by omega) q blk fx H1 K0 hg hK0
     rw [hml] at ic
     simp (disch:=omega) only [↓RS,RZ,simprocAttr,e0]
     refine bI (ic _ fun m2 hw2 hs2=> ?_)
     simp (disch:=omega) only [↓RS,RZ,simprocAttr,xD]
     exact hK m2 _ (hsw.trans (hw2.mono h1 h3 (by omega))) (hR m2 hw2 hs2) (hU.trans .set) (dF (bF hg))
    ·obtain ⟨k,rfl⟩:∃ k,k1=k+1:=⟨k1-1,by omega⟩
     have ek:((k+1:Nat):Int)-1=((k:Nat):Int):=by omega
     rcases bal with _|_
     ·obtain ⟨n,rfl⟩:∃ n,b1=a1+n:=⟨b1-a1,by omega⟩
      have ic:=fun K0 hK0=> @Px dec m a1 n (by omega) (by omega) (by omega) (.clo F [] []) blk fx H1 K0 hg hK0
      rw [hml] at ic
      simp (disch:=omega) only [↓RS,RZ,simprocAttr,e0]
      refine bI (ic _ fun m2 H2 hw2 hU2 hg2=> ?_)
      simp (disch:=omega) only [↓RS,RZ,simprocAttr,ek]
      exact oZ k rfl ⟨by omega,by omega,m2,hw2,hU.trans hU2,hg2⟩
     ·simp (disch:=omega) only [↓RS,RZ,simprocAttr,e0]
      exact oZ (k+1) rfl ⟨by omega,h4,m,.refl m,hU,hg⟩
  ·rintro k2 J' H2 ⟨hlen,hk2,⟨m2,hw2,hU2,hg2⟩⟩
   try conv in ov _ _ _ _=>simp only [ov,List.lookup,RO,simprocAttr]
   try conv in ov _ _ _ _=>simp only [ov,List.lookup,RO,simprocAttr]
   try conv in ov _ _ _ _=>simp only [ov,List.lookup,RO,simprocAttr]
   have hml2:=hw2.length
   obtain ⟨n,rfl⟩:∃ n,b1=a1+n:=⟨b1-a1,by omega⟩
   have q2:=hw2.hD q
   have hR2:=hR.sw hw2
   have hp2:=hp.sw hw2
   rw [sV,sV]
   refine En (fun (r:Nat) J=>ov [(0,.sref blk 0 l.length l.length 18 fx),(1,.prim (.int .i64 ((a1:Nat):Int))),(2,.prim (.int .i64 ((a1+n:Nat):Int))),(3,.prim (.int .i64 ((k2:Nat):Int))),(4,.clo F [] []),(10,.prim (.bool (bal))),(11,.prim (.bool (part))),(12,.prim (.int .i64 ((a1+n-a1:Nat):Int))),(13,.prim (.int .i64 ((r:Nat):Int)))] J 0 148) (J2 dec a1 n m2 blk H) ?_ ?_
   ·have ip:=fun K0 hK0=> @NQ F dec Dm hF m2 a1 n (by omega) (by omega) (by omega) q2 blk fx H2 K0 hg2 hK0
    rw [hml2,hml] at ip
    simp (disch:=omega) only [↓RS,RZ,simprocAttr,e0]
    refine bI (ip _ fun r h x hr1 hr2 hh=> ?_)
    have hgx:get (H2++[x]) blk=some (.row 18 true (m2.map (tq dec))):=aO hg2
    have hUx:Upd blk H (H2++[x]):=hU2.trans .app
    generalize H2++[x]=H3 at*
    rcases bal with _|_
    ·simp (disch:=omega) only [↓RS,RZ,simprocAttr]
     exact oZ r rfl ⟨hr1,hr2,hUx,hgx⟩
    ·rcases part with _|_
     ·simp (disch:=omega) only [↓RS,RZ,simprocAttr]
      exact oZ r rfl ⟨hr1,hr2,hUx,hgx⟩
     ·rcases hh with rfl|rfl
      ·simp (disch:=omega) only [↓RS,RZ,simprocAttr]
       exact oZ r rfl ⟨hr1,hr2,hUx,hgx⟩
      ·have iq:=fun K0 hK0=> @NS F dec Dm hF m2 a1 (a1+n) (by omega) (by omega) (by omega) (hw2.hD q) blk fx H3 K0 hgx hK0
       rw [hml2,hml] at iq
       simp (disch:=omega) only [↓RS,RZ,simprocAttr]
       refine bI (iq _ fun t ht=> ?_)
       rcases t with _|_
       ·simp (disch:=omega) only [↓RS,RZ,simprocAttr]
        exact oZ r rfl ⟨hr1,hr2,hUx,hgx⟩
       ·simp (disch:=omega) only [↓RS,RZ,simprocAttr,xD]
        exact hK m2 _ (hsw.trans (hw2.mono h1 h3 (by omega))) (hR m2 hw2 (ht rfl)) hUx hgx
   ·rintro r J2 H3 ⟨hr1,hr2,hUx,hgx⟩
    try conv in ov _ _ _ _=>simp only [ov,List.lookup,RO,simprocAttr]
    try conv in ov _ _ _ _=>simp only [ov,List.lookup,RO,simprocAttr]
    try conv in ov _ _ _ _=>simp only [ov,List.lookup,RO,simprocAttr]
    refine En (fun (_:Unit) J=>ov [(0,.sref blk 0 l.length l.length 18 fx),(1,.prim (.int .i64 ((a1:Nat):Int))),(2,.prim (.int .i64 ((a1+n:Nat):Int))),(3,.prim (.int .i64 ((k2:Nat):Int))),(4,.clo F [] []),(10,.prim (.bool (bal))),(11,.prim (.bool (part))),(12,.prim (.int .i64 ((a1+n-a1:Nat):Int))),(13,.prim (.int .i64 ((r:Nat):Int)))] J 0 148) (fun _ H'=>H3=H') ?_ ?_
    ·by_cases hc0:0<a1
     ·have g1:=eW (dec:=dec) (l:=m2) (i:=a1-1) (by omega)
      have g2:=eW (dec:=dec) (l:=m2) (i:=r) (by omega)
      have ea:(a1:Int)-1=((a1-1:Nat):Int):=by omega
      have c:=hF (m2.getD (a1-1) 0) (m2.getD r 0) (q2 _ (by omega)) (q2 _ (by omega))
      simp (disch:=omega) only [↓RS,RZ,simprocAttr,hgx,g1,g2,tq,trc,aX,ea]
      refine cX c ?_
      by_cases hc:jV (m2.getD (a1-1) 0) (m2.getD r 0)<0
      ·simp (disch:=omega) only [↓RS,RZ,simprocAttr]
       exact oZ () rfl rfl
      ·have hmin:∀ k,a1≤k→k<a1+n→m2.getD r 0≤m2.getD k 0:=fun k k1 k2=>iy (Rat.not_lt.1 fun h=>hc (jk.2 h)) (hp2 hc0 k k1 k2)
       have ic:=fun K0 hK0=> @NT F dec Dm hF m2 a1 (a1+n) r hr1 hr2 (by omega) (by omega) q2 hmin blk fx H3 K0 hgx hK0
       rw [hml2,hml] at ic
       simp (disch:=omega) only [↓RS,RZ,simprocAttr]
       refine bI (ic _ fun m3 mid hw3 u1 u2 u3=> ?_)
       have hml3:=hw3.length
       have hn:=(hR2.sw hw3).equal u1 u2 (by omega) u3
       simp (disch:=omega) only [↓RS,RZ,simprocAttr,Iu]
       exact bl (mid,a1+n,k2,bal,part) rfl ⟨m3,⟨by simp only;omega,by simp only;omega,by simp only;omega,by simp only;omega⟩,hsw.trans ((hw2.trans hw3).mono h1 h3 (by omega)),hn.2,hn.1,hUx.trans .set,dF (bF hgx)⟩ (by simp only;omega)
     ·simp (disch:=omega) only [↓RS,RZ,simprocAttr]
      exact oZ () rfl rfl
    ·rintro _ J3 _ rfl
     try conv in ov _ _ _ _=>simp only [ov,List.lookup,RO,simprocAttr]
     try conv in ov _ _ _ _=>simp only [ov,List.lookup,RO,simprocAttr]
     try conv in ov _ _ _ _=>simp only [ov,List.lookup,RO,simprocAttr]
     have ic:=fun K0 hK0=> @Qk F dec Dm hF m2 a1 (a1+n) r hr1 hr2 (by omega) (by omega) q2 blk fx H3 K0 hgx hK0
     rw [hml2,hml] at ic
     simp (disch:=omega) only [↓RS,RZ,simprocAttr]
     refine bI (ic _ fun m3 mid t hw3 hP=> ?_)
     have hml3:=hw3.length
     have hg3:get (H3.set blk (some (.row 18 true (m3.map (tq dec))))) blk=some (.row 18 true (m3.map (tq dec))):=dF (bF hgx)
     have hU3:Upd blk H (H3.set blk (some (.row 18 true (m3.map (tq dec))))):=hUx.trans .set
     generalize H3.set blk (some (.row 18 true (m3.map (tq dec))))=H4 at*
     have hR3:=hR2.sw hw3
     have hp3:=hp2.sw hw3
     have q3:=hw3.hD q2
     have p1:=hP.1
     have p2:=hP.2.1
     have em1:((mid:Nat):Int)-(a1:Int)=((mid-a1:Nat):Int):=by omega
     have em2:((a1+n:Nat):Int)-(mid:Int)=((a1+n-mid:Nat):Int):=by omega
     have e8:((a1+n-a1:Nat):Int).tdiv 8=(((a1+n-a1)/8:Nat):Int):=uV _ 8
     by_cases hlr:mid-a1<a1+n-mid
     ·have ir:=fun (lim2:Nat) (hl2:lim2≤64) K0 hK0=> @ih (mid-a1) (by omega) m3 a1 mid lim2 (ax _) p1 (by omega) (by omega) q3 (fun h0 k k1 k2=>hp3 h0 k k1 (by omega)) hl2 blk fx H4 K0 hg3 hK0
      rw [hml3,hml2,hml] at ir
      simp (disch:=omega) only [↓RS,RZ,simprocAttr,em1,em2,e8]
      refine bI (ir k2 hk2 _ fun m4 H5 hw4 hs4 hU5 hg5=> ?_)
      have hn:=hR3.left hP (by omega) hw4 hs4
      simp (disch:=omega) only [↓RS,RZ,simprocAttr]
      exact bl (mid+1,a1+n,k2,decide ((a1+n-a1)/8≤mid-a1),t) rfl ⟨m4,⟨by simp only;omega,by simp only;omega,by simp only;omega,by simp only;omega⟩,hsw.trans (((hw2.trans hw3).trans (hw4.mono (ax _) (by omega) (by omega))).mono h1 h3 (by omega)),hn.2,hn.1,hU3.trans hU5,hg5⟩ (by simp only;omega)
     ·have ir:=fun (lim2:Nat) (hl2:lim2≤64) K0 hK0=> @ih (a1+n-(mid+1)) (by omega) m3 (mid+1) (a1+n) lim2 (ax _) (by omega) (by omega) (by omega) q3 (fun _ k k1 k2=>by rw [Nat.add_sub_cancel];exact hP.2.2.2 k (by omega) k2) hl2 blk fx H4 K0 hg3 hK0
      rw [hml3,hml2,hml] at ir
      simp (disch:=omega) only [↓RS,RZ,simprocAttr,em1,em2,e8]
      refine bI (ir k2 hk2 _ fun m4 H5 hw4 hs4 hU5 hg5=> ?_)
      have hn:=hR3.right hp3 hP (by omega) hw4 hs4
      simp (disch:=omega) only [↓RS,RZ,simprocAttr]
      exact bl (a1,mid,k2,decide ((a1+n-a1)/8≤a1+n-mid),t) rfl ⟨m4,⟨by simp only;omega,by simp only;omega,by simp only;omega,by simp only;omega⟩,hsw.trans (((hw2.trans hw3).trans (hw4.mono (by omega) (ax _) (by omega))).mono h1 h3 (by omega)),hn.2,hn.1,hU3.trans hU5,hg5⟩ (by simp only;omega)
def MW (l:List Rat):List Rat:=l.mergeSort fun a b=>decide (a≤b)
theorem CS (l:List Rat):(MW l).Perm l:=List.mergeSort_perm _ _
theorem F6 (l:List Rat):(MW l).Pairwise (·≤·):=by
 refine (List.pairwise_mergeSort (fun a b c h1 h2=> ?_) (fun a b=> ?_) l).imp fun h=>of_decide_eq_true h
 ·exact an (iy (of_decide_eq_true h1) (of_decide_eq_true h2))
 ·rcases Rat.le_total (a:=a) (b:=b) with h|h
  ·rw [an h];rfl
  ·rw [an h];simp
theorem SU {l m:List Rat} (h:l.Perm m) (h1:l.Pairwise (·≤·)) (h2:m.Pairwise (·≤·)):l=m:=
 List.Perm.eq_of_pairwise (fun a b _ _ k1 k2=>Rat.le_antisymm k1 k2) h1 h2 h
theorem Srt.asc {l:List Rat} (h:Srt 0 l.length l):l.Pairwise (·≤·):=by
 rw [bN]
 intro i j hi hj hij
 have:=h.le (bh i) (Nat.le_of_lt hij) hj
 rwa [ae,ae,af hi,af hj] at this
theorem Q4:∀ x:Nat,x<50→blen x≤64:=by decide
theorem M0 {F:FuncId} {dec:Rat→Tri} {Dm:Rat→Prop} (hF:zo dec Dm F) (l:List Rat) (hn:l.length<50) (hl0:hD Dm l) {b:Nat} {fx:Bool} {H:Hp} {K:V→Hp→Prop} (hb:get H b=some (.row 18 true (l.map (tq dec))))
 (hK:∀ H',Upd b H H'→get H' b=some (.row 18 true ((MW l).map (tq dec)))→K (.tup []) H'):
 SC prog 82 [.sref b 0 l.length l.length 18 fx,.clo F [] []] H K:=by
 have c:=xY l.length (by omega)
 refine SCi ?_
 conv in bL _ _=>cbv
 simp only [bM,RN,simprocAttr]
 simp (disch:=omega) only [↓RS,RZ,simprocAttr,kS]
 refine cX c ?_
 simp (disch:=omega) only [↓RS,RZ,simprocAttr]
 refine bI (Qi hF l.length l 0 l.length (blen l.length) (ax _) (bh _) (ax _) hn hl0 (fun h=>absurd h (Nat.lt_irrefl _)) (Q4 _ hn) hb fun m H' hw hs hU hg=> ?_)
 simp (disch:=omega) only [↓RS,RZ,simprocAttr]
 have e:m=MW l:=SU (hw.perm.trans (CS l).symm) (Srt.asc (by rw [hw.length];exact hs)) (F6 l)
 rw [e] at hg
 exact hK H' hU hg
end Go.Av
namespace Go.Av
open Go.RowKit
open Go.Proofs.Tryz (prog)
theorem Qn {x y z:Int} (hx: -1≤x∧x≤1) (hy: -1≤y∧y≤1) (hz: -1≤z∧z≤1): -1≤orI x y z∧orI x y z≤1:=by
 unfold orI
 split
 ·exact hx
 ·split<;>assumption
theorem Ps (s t:Tri): -1≤ql s t∧ql s t≤1:=Qn (ox _ _) (ox _ _) (ox _ _)
theorem Tri.ext {s t:Tri} (h1:s.a=t.a) (h2:s.b=t.b) (h3:s.c=t.c):s=t:=by cases s;cases t;simp at h1 h2 h3;simp [h1,h2,h3]
theorem xT {s t:Tri}:ql s t=0↔s=t:=by
 unfold ql orI
 constructor
 ·intro h
  split at h
  ·rename_i hx;exact absurd h hx
  ·rename_i hx
   split at h
   ·rename_i hy;exact absurd h hy
   ·rename_i hy
    exact Tri.ext (c7.1 (Classical.not_not.1 hx)) (c7.1 (Classical.not_not.1 hy)) (c7.1 h)
 ·rintro rfl
  simp [iZ]
theorem io {p q:Pt}:bO p q= - bO q p:=by
 have h1:=ox p q
 have h2:=ox q p
 by_cases e:p=q
 ·subst e;simp [iZ]
 ·have n1:bO p q≠0:=fun h=>e (c7.1 h)
  have n2:bO q p≠0:=fun h=>e (c7.1 h).symm
  rcases l8 p q with h|h
  ·have:¬bO q p≤0:=fun k=>e (by
    have a:bO p q= -1:=by omega
    by_cases k0:0<bO q p
    ·omega
    ·exact absurd (qK (p:=q) (q:=p)) (fun _=>by
      have:=ni.1 h
      have:=ni.1 k
      exact e (Pt.ext (by grind) (by grind))))
   omega
  ·have:¬bO p q≤0:=fun k=>e (by
    have:=ni.1 h
    have:=ni.1 k
    exact Pt.ext (by grind) (by grind))
   omega
theorem xU (s t:Tri):ql s t= - ql t s:=by
 unfold ql orI
 rw [@io s.a,@io s.b,@io s.c]
 by_cases h1:bO t.a s.a=0
 ·by_cases h2:bO t.b s.b=0
  ·simp [h1,h2]
  ·simp [h1,h2]
 ·simp [h1]
theorem QV {s t:Tri}:ql s t≤0↔bO s.a t.a<0∨(s.a=t.a∧(bO s.b t.b<0∨(s.b=t.b∧bO s.c t.c≤0))):=by
 unfold ql orI
 by_cases h1:bO s.a t.a=0
 ·have e1:=c7.1 h1
  rw [if_neg (fun h=>h h1)]
  by_cases h2:bO s.b t.b=0
  ·have e2:=c7.1 h2
   rw [if_neg (fun h=>h h2)]
   simp [e1,e2,iZ]
  ·have e2:s.b≠t.b:=fun h=>h2 (c7.2 h)
   rw [if_pos h2]
   simp [e1,e2,iZ]
   omega
 ·have e1:s.a≠t.a:=fun h=>h1 (c7.2 h)
  rw [if_pos h1]
  simp [e1]
  omega
theorem QX {p q:Pt}:bO p q<0↔p.x<q.x∨(p.x=q.x∧p.y<q.y):=by
 have e:= @io p q
 have h:= @ni q p
 constructor
 ·intro k
  have:¬bO q p≤0:=by omega
  rw [h] at this
  grind
 ·intro k
  have:¬bO q p≤0:=by rw [h];grind
  omega
theorem IZ {s t u:Tri} (h1:ql s t≤0) (h2:ql t u≤0):ql s u≤0:=by
 have tr:∀ {p q r:Pt},bO p q<0→bO q r<0→bO p r<0:=fun {p q r} h k=>by rw [QX] at*;grind
 rw [QV] at*
 rcases h1 with h1|⟨e1,h1⟩<;>rcases h2 with h2|⟨e2,h2⟩
 ·exact .inl (tr h1 h2)
 ·exact .inl (by rw [←e2];exact h1)
 ·exact .inl (by rw [e1];exact h2)
 ·refine .inr ⟨e1.trans e2,?_⟩
  rcases h1 with h1|⟨e3,h1⟩<;>rcases h2 with h2|⟨e4,h2⟩
  ·exact .inl (tr h1 h2)
  ·exact .inl (by rw [←e4];exact h1)
  ·exact .inl (by rw [e3];exact h2)
  ·exact .inr ⟨e3.trans e4,je h1 h2⟩
def sN (l:List Tri):List Tri:=l.mergeSort fun s t=>decide (ql s t≤0)
theorem rk (l:List Tri):(sN l).Perm l:=List.mergeSort_perm _ _
theorem F5 (l:List Tri):(sN l).Pairwise fun s t=>ql s t≤0:=by
 have:=List.pairwise_mergeSort (le:=fun s t:Tri=>decide (ql s t≤0)) (fun a b c h1 h2=>by simp at*;exact IZ h1 h2) (fun a b=>by
  have:=xU a b
  simp;omega) l
 exact this.imp fun h=>by simpa using h
theorem Kx {l m:List Tri} (h:l.Perm m) (h1:l.Pairwise fun s t=>ql s t≤0) (h2:m.Pairwise fun s t=>ql s t≤0):l=m:=
 List.Perm.eq_of_pairwise (fun a b _ _ k1 k2=>xT.1 (by have:=xU a b;omega)) h1 h2 h
def pl (S:List Tri) (t:Tri):Rat:=((S.idxOf t:Nat):Rat)
def Hd (S:List Tri) (r:Rat):Tri:=S.getD r.num.toNat tr0
theorem pY {S:List Tri} {t:Tri} (h:t∈S):Hd S (pl S t)=t:=by
 have hl:S.idxOf t<S.length:=List.idxOf_lt_length_iff.2 h
 have e:(pl S t).num.toNat=S.idxOf t:=by unfold pl;simp
 unfold Hd
 rw [e,ae,af hl]
 simp
theorem JK {S:List Tri} (hS:S.Pairwise fun s t=>ql s t≤0) {s t:Tri} (hs:s∈S) (ht:t∈S):ql s t=jV (pl S s) (pl S t):=by
 have ls:S.idxOf s<S.length:=List.idxOf_lt_length_iff.2 hs
 have lt:S.idxOf t<S.length:=List.idxOf_lt_length_iff.2 ht
 have gs:S[S.idxOf s]=s:=List.getElem_idxOf ls
 have gt:S[S.idxOf t]=t:=List.getElem_idxOf lt
 have ab:=Ps s t
 have key:∀ {a b:Tri} (la:S.idxOf a<S.length) (lb:S.idxOf b<S.length),S[S.idxOf a]=a→S[S.idxOf b]=b→S.idxOf a<S.idxOf b→ql a b<0:=by
  intro a b la lb ga gb h
  have h1:=bN.1 hS _ _ la lb h
  rw [ga,gb] at h1
  have:ql a b≠0:=fun e=>by have:=xT.1 e;subst this;exact Nat.lt_irrefl _ h
  omega
 unfold jV pl
 rcases Nat.lt_trichotomy (S.idxOf s) (S.idxOf t) with h|h|h
 ·have:=key ls lt gs gt h
  rw [if_pos (by exact_mod_cast h)]
  omega
 ·have e:s=t:=by rw [←gs,←gt];simp only [h]
  subst e
  rw [if_neg (aL),if_neg (aL)]
  exact xT.2 rfl
 ·have:=key lt ls gt gs h
  have f:=xU s t
  rw [if_neg (by have h':((S.idxOf t:Nat):Rat)<((S.idxOf s:Nat):Rat):=by exact_mod_cast h
                 exact Rat.not_lt.2 (ai h')),if_pos (by exact_mod_cast h)]
  omega
theorem MZ (l:List Tri) (hn:l.length<50) (hh:∀ t∈l,ht3 t≤2^26) {b:Nat} {fx:Bool} {H:Hp} {K:V→Hp→Prop} (hb:get H b=some (.row 18 true (l.map trc)))
 (hK:∀ H',Upd b H H'→get H' b=some (.row 18 true ((sN l).map trc))→K (.tup []) H'):
 SC prog 82 [.sref b 0 l.length l.length 18 fx,.clo 83 [] []] H K:=by
 have hp:=rk l
 have hS:=F5 l
 generalize hSd:sN l=S at*
 have mem:∀ t∈l,t∈S:=fun t ht=>hp.mem_iff.2 ht
 have hF:zo (Hd S) (fun r=>∃ t∈S,r=pl S t) 83 :=by
  rintro p q ⟨s,hs,rfl⟩ ⟨t,ht,rfl⟩
  rw [pY hs,pY ht,←JK hS hs ht]
  exact QU s t (hh s (hp.mem_iff.1 hs)) (hh t (hp.mem_iff.1 ht))
 have e1:(l.map (pl S)).map (tq (Hd S))=l.map trc:=by
  rw [List.map_map]
  exact List.map_congr_left fun t ht=>by show trc (Hd S (pl S t))=_;rw [pY (mem t ht)]
 have hl:(l.map (pl S)).length=l.length:=az ..
 have e2:(MW (l.map (pl S))).map (Hd S)=S:=by
  have q1:=CS (l.map (pl S))
  have q2:=F6 (l.map (pl S))
  have ml:(l.map (pl S)).map (Hd S)=l:=by
   rw [List.map_map]
   conv=>rhs;rw [←List.map_id l]
   exact List.map_congr_left fun t ht=>pY (mem t ht)
  refine Kx ((q1.map _).trans (by rw [ml];exact hp.symm)) ?_ hS
  rw [List.pairwise_map]
  refine q2.imp_of_mem ?_
  intro a c ha hc hac
  obtain ⟨s,hs,rfl⟩:=av.1 (q1.mem_iff.1 ha)
  obtain ⟨t,ht,rfl⟩:=av.1 (q1.mem_iff.1 hc)
  rw [pY (mem s hs),pY (mem t ht),JK hS (mem s hs) (mem t ht)]
  exact sE.2 hac
 have key:= @M0 83 (Hd S) (fun r=>∃ t∈S,r=pl S t) hF (l.map (pl S)) (by rw [hl];exact hn) (fun i hi=>by
  rw [ae,af hi]
  obtain ⟨t,ht,e⟩:=av.1 (bx hi)
  exact ⟨t,mem t ht,e.symm⟩) b fx H K (by rw [e1];exact hb) (fun H' hU hg=>by
  refine hK H' hU ?_
  rw [hg]
  congr 2
  rw [←e2,List.map_map]
  rw [e2]
  rfl)
 rw [hl] at key
 exact key
theorem HW (F:FuncId) {H:Hp} {K:V→Hp→Prop} (hK:K (.tup []) H):
 SC prog 82 [.prim (.slice none 0 0),.clo F [] []] H K:=by
 have c:=xY 0 (by omega)
 have ins:∀ K0:V→Hp→Prop,K0 (.tup []) H→SC prog 204 [.prim (.slice none 0 0),.prim (.int .i64 ((0:Nat):Int)),.prim (.int .i64 ((0:Nat):Int)),.clo F [] []] H K0:=by
  intro K0 hK0
  refine SCi ?_
  conv in bL _ _=>cbv
  simp only [bM,RN,simprocAttr]
  simp (disch:=omega) only [↓RS,RZ,simprocAttr]
  refine pD 1 ?_
  simp (disch:=omega) only [↓RS,RZ,simprocAttr,mJ,j5,lK,mK,Int.zero_add]
  exact hK0
 have pdq:∀ (lim:Int) (K0:V→Hp→Prop),K0 (.tup []) H→SC prog 141 [.prim (.slice none 0 0),.prim (.int .i64 ((0:Nat):Int)),.prim (.int .i64 ((0:Nat):Int)),.prim (.int .i64 (lim)),.clo F [] []] H K0:=by
  intro lim K0 hK0
  refine SCi ?_
  conv in bL _ _=>cbv
  simp only [bM,RN,simprocAttr]
  simp (disch:=omega) only [↓RS,RZ,simprocAttr]
  refine pD 1 ?_
  simp (disch:=omega) only [↓RS,RZ,simprocAttr,mJ,j5,lK,mK,Int.sub_zero]
  refine bI (ins _ ?_)
  simp (disch:=omega) only [↓RS,RZ,simprocAttr]
  exact hK0
 refine SCi ?_
 conv in bL _ _=>cbv
 simp only [bM,RN,simprocAttr]
 simp (disch:=omega) only [↓RS,RZ,simprocAttr,kS]
 refine cX c ?_
 simp (disch:=omega) only [↓RS,RZ,simprocAttr]
 refine bI (pdq _ _ ?_)
 simp (disch:=omega) only [↓RS,RZ,simprocAttr]
 exact hK
end Go.Av
