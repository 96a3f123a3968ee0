/- Helping texts: Lu4, Lj. -/
import Derived.Test.YtkmlhdfpcjkekaaGreatKLu3
import Derived.Test.YtkmlhdfpcjkekaaGreatKDa
set_option linter.unusedSimpArgs false
set_option linter.unusedVariables false
set_option maxRecDepth 100000
set_option maxHeartbeats 16000000
namespace Go.Av
open Go.RowKit
open Go.Proofs.Tryz (prog)
theorem Srt.glue {a c b:Nat} {l:List Rat} (h1:Srt a c l) (h2:Srt c b l) (h:a<c→c<b→l.getD (c-1) 0≤l.getD c 0):Srt a b l:=fun k h3 h4=>by
 rcases Nat.lt_trichotomy k c with h5|h5|h5
 ·exact h1 k h3 h5
 ·subst h5;exact h h3 h4
 ·exact h2 k h5 h4
theorem Srt.cong {a b:Nat} {l m:List Rat} (h:Srt a b l) (he:∀ k,a≤k→k<b→m.getD k 0=l.getD k 0):Srt a b m:=fun k h1 h2=>by
 rw [he _ (by omega) (by omega),he _ (by omega) (by omega)];exact h k h1 h2
def Pre (a b:Nat) (l:List Rat):Prop:=0<a→∀ k,a≤k→k<b→l.getD (a-1) 0≤l.getD k 0
theorem Pre.sw {a b:Nat} {l m:List Rat} (h:Pre a b l) (hs:Sw a b l m):Pre a b m:=fun h0 k h1 h2=>by
 rw [hs.out (k:=a-1) (by omega)]
 exact hs.all (P:=fun x=>l.getD (a-1) 0≤x) (h h0) k h1 h2
def Rest (a b a1 b1:Nat) (m:List Rat):Prop:=∀ m',Sw a1 b1 m m'→Srt a1 b1 m'→Srt a b m'
theorem Rest.sw {a b a1 b1:Nat} {l m:List Rat} (h:Rest a b a1 b1 l) (hs:Sw a1 b1 l m):Rest a b a1 b1 m:=fun m' h1 h2=>h m' (hs.trans h1) h2
theorem Rest.equal {a b a1 b1 mid:Nat} {m:List Rat} (h:Rest a b a1 b1 m) (h1:a1<mid) (h2:mid≤b1) (hb:b1≤m.length) (he:∀ k k',a1≤k→k<mid→a1≤k'→k'<b1→m.getD k 0≤m.getD k' 0):Rest a b mid b1 m∧Pre mid b1 m:=by
 refine ⟨fun m' k1 k2=>h m' (k1.mono (by omega) (Nat.le_refl _) hb) (Srt.glue (c:=mid) ?_ k2 fun h3 h4=> ?_),fun h3 k h4 h5=>he _ _ (by omega) (by omega) (by omega) h5⟩
 ·refine Srt.cong (l:=m) (fun k h3 h4=>he _ _ (by omega) (by omega) (by omega) (by omega)) fun k h3 h4=>k1.out (.inl h4)
 ·rw [k1.out (k:=mid-1) (by omega)]
  exact k1.all (P:=fun x=>m.getD (mid-1) 0≤x) (fun k h5 h6=>he _ _ (by omega) (by omega) (by omega) h6) mid (Nat.le_refl _) h4
theorem Rest.left {a b a1 b1 mid:Nat} {m m3:List Rat} (h:Rest a b a1 b1 m) (hP:PartP a1 b1 mid m) (hb:b1≤m.length) (hs:Sw a1 mid m m3) (hd:Srt a1 mid m3):Rest a b (mid+1) b1 m3∧Pre (mid+1) b1 m3:=by
 obtain ⟨h1,h2,h3,h4⟩:=hP
 have hl:=hs.length
 have em:m3.getD mid 0=m.getD mid 0:=hs.out (.inr (Nat.le_refl _))
 have hlt:∀ k,a1≤k→k<mid→m3.getD k 0≤m.getD mid 0:=hs.all (P:=fun x=>x≤m.getD mid 0) h3
 have hgt:∀ k,mid<k→k<b1→m.getD mid 0≤m3.getD k 0:=fun k h5 h6=>by rw [hs.out (.inr (by omega))];exact h4 k h5 h6
 refine ⟨fun m' k1 k2=>h m' ((hs.mono (Nat.le_refl _) (by omega) hb).trans (k1.mono (by omega) (Nat.le_refl _) (by omega))) (Srt.glue (c:=mid+1) (Srt.glue (c:=mid) ?_ (fun k h5 h6=>by omega) fun h5 h6=> ?_) k2 fun h5 h6=> ?_),fun h5 k h6 h7=> ?_⟩
 ·exact hd.cong fun k h5 h6=>k1.out (.inl (by omega))
 ·rw [k1.out (k:=mid-1) (by omega),k1.out (k:=mid) (by omega),em];exact hlt _ (by omega) (by omega)
 ·rw [Nat.add_sub_cancel,k1.out (k:=mid) (by omega),em]
  exact k1.all (P:=fun x=>m.getD mid 0≤x) (fun k h7 h8=>hgt k (by omega) h8) _ (Nat.le_refl _) h6
 ·rw [Nat.add_sub_cancel,em];exact hgt k (by omega) h7
theorem Rest.right {a b a1 b1 mid:Nat} {m m3:List Rat} (h:Rest a b a1 b1 m) (hp:Pre a1 b1 m) (hP:PartP a1 b1 mid m) (hb:b1≤m.length) (hs:Sw (mid+1) b1 m m3) (hd:Srt (mid+1) b1 m3):Rest a b a1 mid m3∧Pre a1 mid m3:=by
 obtain ⟨h1,h2,h3,h4⟩:=hP
 have hl:=hs.length
 have em:m3.getD mid 0=m.getD mid 0:=hs.out (.inl (by omega))
 have hgt:∀ k,mid+1≤k→k<b1→m.getD mid 0≤m3.getD k 0:=hs.all (P:=fun x=>m.getD mid 0≤x) fun k h5 h6=>h4 k (by omega) h6
 have hlt:∀ k,a1≤k→k<mid→m3.getD k 0≤m.getD mid 0:=fun k h5 h6=>by rw [hs.out (.inl (by omega))];exact h3 k h5 h6
 refine ⟨fun m' k1 k2=>h m' ((hs.mono (by omega) (Nat.le_refl _) hb).trans (k1.mono (Nat.le_refl _) (by omega) (by omega))) (Srt.glue (c:=mid) k2 (Srt.glue (c:=mid+1) (fun k h5 h6=>by omega) ?_ fun h5 h6=> ?_) fun h5 h6=> ?_),fun h5 k h6 h7=> ?_⟩
 ·exact hd.cong fun k h5 h6=>k1.out (.inr (by omega))
 ·rw [Nat.add_sub_cancel,k1.out (k:=mid) (by omega),k1.out (k:=mid+1) (by omega),em];exact hgt _ (Nat.le_refl _) h6
 ·rw [k1.out (k:=mid) (by omega),em]
  exact k1.all (P:=fun x=>x≤m.getD mid 0) hlt _ (by omega) (by omega)
 ·rw [hs.out (k:=a1-1) (by omega),hs.out (k:=k) (by omega)];exact hp h5 k h6 (by omega)
def joinX {S:Type} (st:S→(Nat→V)→List V) (Inv:S→Hp→Prop) (Q:Post):Post:=fun x T H=>match x with
 | .normal=>∃ s,T=st s (fun k=>T.getD k undefV)∧Inv s H
 |x=>Q x T H
theorem joinX_exit {S:Type} {st:S→(Nat→V)→List V} {Inv:S→Hp→Prop} {Q:Post} {T:List V} {H:Hp} {i:Nat}:joinX st Inv Q (.exit i) T H=Q (.exit i) T H:=rfl
theorem joinX_ret {S:Type} {st:S→(Nat→V)→List V} {Inv:S→Hp→Prop} {Q:Post} {T:List V} {H:Hp}:joinX st Inv Q .ret T H=Q .ret T H:=rfl
theorem join_end {S:Type} {st:S→(Nat→V)→List V} {Inv:S→Hp→Prop} {Q:Post} {T:List V} {H:Hp} (s:S) (h1:T=st s (fun k=>T.getD k undefV)) (h2:Inv s H):joinX st Inv Q .normal T H:=⟨s,h1,h2⟩
theorem wp_join {P:Program} {c d:LC} {T:List V} {H:Hp} {Q:Post} {S:Type} (st:S→(Nat→V)→List V) (Inv:S→Hp→Prop) (h:wpL P c T H (joinX st Inv Q)) (rest:∀ s J H,Inv s H→wpL P d (st s J) H Q):wpL P (c.seq d) T H Q:=by
 show wpL P c T H (seqQ P d Q)
 refine wpL_mono c ?_ h
 intro x T' H' hq
 cases x with
 |normal=>
  obtain ⟨s,e1,e2⟩:=hq
  show wpL P d T' H' Q
  rw [e1];exact rest s _ _ e2
 |_=>exact hq
theorem wp_assoc {P:Program} {c d e:LC} {T:List V} {H:Hp} {Q:Post}:wpL P (c.seq (d.seq e)) T H Q=wpL P ((c.seq d).seq e) T H Q:=by
 show wpL P c T H (seqQ P (d.seq e) Q)=wpL P c T H (seqQ P d (seqQ P e Q))
 congr 1
 funext x T' H'
 cases x<;>rfl
structure J1 (dec:Rat→Tri) (a1 b1:Nat) (m:List Rat) (blk:Nat) (H:Hp) (k2:Nat) (H':Hp):Prop where
 len:12<b1-a1
 lim:k2≤64
 ex:∃ m2:List Rat,Sw a1 b1 m m2∧Upd blk H H'∧get H' blk=some (.row 18 true (m2.map (tq dec)))
structure J2 (dec:Rat→Tri) (a1 n:Nat) (m2:List Rat) (blk:Nat) (H:Hp) (r:Nat) (H':Hp):Prop where
 lo:a1<r
 hi:r<a1+n
 upd:Upd blk H H'
 get:get H' blk=some (.row 18 true (m2.map (tq dec)))
theorem pdqG_sc {F:FuncId} {dec:Rat→Tri} {Dm:Rat→Prop} (hF:CmpT dec Dm F) (s:Nat):∀ (l:List Rat) (a b lim:Nat) (_:b-a≤s) (_:a≤b) (_:b≤l.length) (_:l.length<50) (_:hD Dm l) (_:Pre a b l) (_:lim≤64) {blk:Nat} {fx:Bool} {H:Hp} {K:V→Hp→Prop} (_:get H blk=some (.row 18 true (l.map (tq dec))))
 (_:∀ m H',Sw a b l m→Srt a b m→Upd blk H H'→get H' blk=some (.row 18 true (m.map (tq dec)))→K (.tup []) H'),
 SC prog 141 [.sref blk 0 l.length l.length 18 fx,.prim (.int .i64 ((a:Nat):Int)),.prim (.int .i64 ((b:Nat):Int)),.prim (.int .i64 ((lim:Nat):Int)),.clo F [] []] H K:=by
 induction s using Nat.strongRecOn with
 |ind s ih=>
  intro l a b lim hs hab hbl hn hl0 hpre hlim blk fx H K hb hK
  refine SCi ?_
  conv in trip _ _=>cbv
  simp only [runT,RN,simprocAttr]
  simp (disch:=omega) only [↓RS,RZ,simprocAttr]
  refine wp_lp (fun (x:Nat×Nat×Nat×Bool×Bool) J=>ov [(0,.sref blk 0 l.length l.length 18 fx),(1,.prim (.int .i64 ((x.1:Nat):Int))),(2,.prim (.int .i64 ((x.2.1:Nat):Int))),(3,.prim (.int .i64 ((x.2.2.1:Nat):Int))),(4,.clo F [] []),(10,.prim (.bool (x.2.2.2.1))),(11,.prim (.bool (x.2.2.2.2)))] J 0 148) (fun x H'=>∃ m:List Rat,(a≤x.1∧x.1≤x.2.1∧x.2.1≤b∧x.2.2.1≤64)∧Sw a b l m∧Pre x.1 x.2.1 m∧Rest a b x.1 x.2.1 m∧Upd blk H H'∧get H' blk=some (.row 18 true (m.map (tq dec)))) (fun x=>x.2.1-x.1) (a,b,lim,true,true) rfl ⟨l,⟨Nat.le_refl _,hab,Nat.le_refl _,hlim⟩,.refl l,hpre,fun m' _ h=>h,.refl _ _,hb⟩ ?_
  rintro ⟨a1,b1,k1,bal,part⟩ J H1 ⟨m,⟨h1,h2,h3,h4⟩,hsw,hp,hR,hU,hg⟩
  try conv in ov _ _ _ _=>simp only [ov,List.lookup,RO,simprocAttr]
  try conv in ov _ _ _ _=>simp only [ov,List.lookup,RO,simprocAttr]
  try conv in ov _ _ _ _=>simp only [ov,List.lookup,RO,simprocAttr]
  simp only at h1 h2 h3 h4 hp hR ⊢
  have hml:=hsw.length
  have q:=hsw.hD hl0
  have e0:((b1:Nat):Int)-(a1:Int)=((b1-a1:Nat):Int):=by omega
  simp only [wpL_block]
  rw [wp_assoc,wp_assoc,wp_assoc]
  refine wp_join (fun (k2:Nat) J=>ov [(0,.sref blk 0 l.length l.length 18 fx),(1,.prim (.int .i64 ((a1:Nat):Int))),(2,.prim (.int .i64 ((b1:Nat):Int))),(3,.prim (.int .i64 ((k2:Nat):Int))),(4,.clo F [] []),(10,.prim (.bool (bal))),(11,.prim (.bool (part))),(12,.prim (.int .i64 ((b1-a1:Nat):Int)))] J 0 148) (J1 dec a1 b1 m blk H) ?_ ?_
  ·by_cases hlen:b1-a1≤12
   ·have ic:=fun K0 hK0=> @isortG_sc F dec Dm hF m a1 b1 h2 (by omega) (by omega) q blk fx H1 K0 hg hK0
    rw [hml] at ic
    simp (disch:=omega) only [↓RS,RZ,simprocAttr,e0]
    refine call_sc (ic _ fun m2 hw2 hs2=> ?_)
    simp (disch:=omega) only [↓RS,RZ,simprocAttr,joinX_ret]
    exact hK m2 _ (hsw.trans (hw2.mono h1 h3 (by omega))) (hR m2 hw2 hs2) (hU.trans .set) (get_eq (get_lt_len hg))
   ·by_cases hk:k1=0
    ·subst hk
     have ic:=fun K0 hK0=> @heap_sc F dec Dm hF m a1 b1 (by omega) (by omega) (by omega) q blk fx H1 K0 hg hK0
     rw [hml] at ic
     simp (disch:=omega) only [↓RS,RZ,simprocAttr,e0]
     refine call_sc (ic _ fun m2 hw2 hs2=> ?_)
     simp (disch:=omega) only [↓RS,RZ,simprocAttr,joinX_ret]
     exact hK m2 _ (hsw.trans (hw2.mono h1 h3 (by omega))) (hR m2 hw2 hs2) (hU.trans .set) (get_eq (get_lt_len hg))
    ·obtain ⟨k,rfl⟩:∃ k,k1=k+1:=⟨k1-1,by omega⟩
     have ek:((k+1:Nat):Int)-1=((k:Nat):Int):=by omega
     rcases bal with _|_
     ·obtain ⟨n,rfl⟩:∃ n,b1=a1+n:=⟨b1-a1,by omega⟩
      have ic:=fun K0 hK0=> @break_sc dec m a1 n (by omega) (by omega) (by omega) (.clo F [] []) blk fx H1 K0 hg hK0
      rw [hml] at ic
      simp (disch:=omega) only [↓RS,RZ,simprocAttr,e0]
      refine call_sc (ic _ fun m2 H2 hw2 hU2 hg2=> ?_)
      simp (disch:=omega) only [↓RS,RZ,simprocAttr,ek]
      exact join_end k rfl ⟨by omega,by omega,m2,hw2,hU.trans hU2,hg2⟩
     ·simp (disch:=omega) only [↓RS,RZ,simprocAttr,e0]
      exact join_end (k+1) rfl ⟨by omega,h4,m,.refl m,hU,hg⟩
  ·rintro k2 J' H2 ⟨hlen,hk2,⟨m2,hw2,hU2,hg2⟩⟩
   try conv in ov _ _ _ _=>simp only [ov,List.lookup,RO,simprocAttr]
   try conv in ov _ _ _ _=>simp only [ov,List.lookup,RO,simprocAttr]
   try conv in ov _ _ _ _=>simp only [ov,List.lookup,RO,simprocAttr]
   have hml2:=hw2.length
   obtain ⟨n,rfl⟩:∃ n,b1=a1+n:=⟨b1-a1,by omega⟩
   have q2:=hw2.hD q
   have hR2:=hR.sw hw2
   have hp2:=hp.sw hw2
   rw [wp_assoc,wp_assoc]
   refine wp_join (fun (r:Nat) J=>ov [(0,.sref blk 0 l.length l.length 18 fx),(1,.prim (.int .i64 ((a1:Nat):Int))),(2,.prim (.int .i64 ((a1+n:Nat):Int))),(3,.prim (.int .i64 ((k2:Nat):Int))),(4,.clo F [] []),(10,.prim (.bool (bal))),(11,.prim (.bool (part))),(12,.prim (.int .i64 ((a1+n-a1:Nat):Int))),(13,.prim (.int .i64 ((r:Nat):Int)))] J 0 148) (J2 dec a1 n m2 blk H) ?_ ?_
   ·have ip:=fun K0 hK0=> @pivot_sc F dec Dm hF m2 a1 n (by omega) (by omega) (by omega) q2 blk fx H2 K0 hg2 hK0
    rw [hml2,hml] at ip
    simp (disch:=omega) only [↓RS,RZ,simprocAttr,e0]
    refine call_sc (ip _ fun r h x hr1 hr2 hh=> ?_)
    have hgx:get (H2++[x]) blk=some (.row 18 true (m2.map (tq dec))):=get_app hg2
    have hUx:Upd blk H (H2++[x]):=hU2.trans .app
    generalize H2++[x]=H3 at*
    rcases bal with _|_
    ·simp (disch:=omega) only [↓RS,RZ,simprocAttr]
     exact join_end r rfl ⟨hr1,hr2,hUx,hgx⟩
    ·rcases part with _|_
     ·simp (disch:=omega) only [↓RS,RZ,simprocAttr]
      exact join_end r rfl ⟨hr1,hr2,hUx,hgx⟩
     ·rcases hh with rfl|rfl
      ·simp (disch:=omega) only [↓RS,RZ,simprocAttr]
       exact join_end r rfl ⟨hr1,hr2,hUx,hgx⟩
      ·have iq:=fun K0 hK0=> @partI_sc F dec Dm hF m2 a1 (a1+n) (by omega) (by omega) (by omega) (hw2.hD q) blk fx H3 K0 hgx hK0
       rw [hml2,hml] at iq
       simp (disch:=omega) only [↓RS,RZ,simprocAttr]
       refine call_sc (iq _ fun t ht=> ?_)
       rcases t with _|_
       ·simp (disch:=omega) only [↓RS,RZ,simprocAttr]
        exact join_end r rfl ⟨hr1,hr2,hUx,hgx⟩
       ·simp (disch:=omega) only [↓RS,RZ,simprocAttr,joinX_ret]
        exact hK m2 _ (hsw.trans (hw2.mono h1 h3 (by omega))) (hR m2 hw2 (ht rfl)) hUx hgx
   ·rintro r J2 H3 ⟨hr1,hr2,hUx,hgx⟩
    try conv in ov _ _ _ _=>simp only [ov,List.lookup,RO,simprocAttr]
    try conv in ov _ _ _ _=>simp only [ov,List.lookup,RO,simprocAttr]
    try conv in ov _ _ _ _=>simp only [ov,List.lookup,RO,simprocAttr]
    refine wp_join (fun (_:Unit) J=>ov [(0,.sref blk 0 l.length l.length 18 fx),(1,.prim (.int .i64 ((a1:Nat):Int))),(2,.prim (.int .i64 ((a1+n:Nat):Int))),(3,.prim (.int .i64 ((k2:Nat):Int))),(4,.clo F [] []),(10,.prim (.bool (bal))),(11,.prim (.bool (part))),(12,.prim (.int .i64 ((a1+n-a1:Nat):Int))),(13,.prim (.int .i64 ((r:Nat):Int)))] J 0 148) (fun _ H'=>H3=H') ?_ ?_
    ·by_cases hc0:0<a1
     ·have g1:=tq_get (dec:=dec) (l:=m2) (i:=a1-1) (by omega)
      have g2:=tq_get (dec:=dec) (l:=m2) (i:=r) (by omega)
      have ea:(a1:Int)-1=((a1-1:Nat):Int):=by omega
      have c:=hF (m2.getD (a1-1) 0) (m2.getD r 0) (q2 _ (by omega)) (q2 _ (by omega))
      simp (disch:=omega) only [↓RS,RZ,simprocAttr,hgx,g1,g2,tq,trc,Nat.zero_add,ea]
      refine cX c ?_
      by_cases hc:cmpQ (m2.getD (a1-1) 0) (m2.getD r 0)<0
      ·simp (disch:=omega) only [↓RS,RZ,simprocAttr]
       exact join_end () rfl rfl
      ·have hmin:∀ k,a1≤k→k<a1+n→m2.getD r 0≤m2.getD k 0:=fun k k1 k2=>Rat.le_trans (Rat.not_lt.1 fun h=>hc (cmpQ_lt.2 h)) (hp2 hc0 k k1 k2)
       have ic:=fun K0 hK0=> @partE_sc F dec Dm hF m2 a1 (a1+n) r hr1 hr2 (by omega) (by omega) q2 hmin blk fx H3 K0 hgx hK0
       rw [hml2,hml] at ic
       simp (disch:=omega) only [↓RS,RZ,simprocAttr]
       refine call_sc (ic _ fun m3 mid hw3 u1 u2 u3=> ?_)
       have hml3:=hw3.length
       have hn:=(hR2.sw hw3).equal u1 u2 (by omega) u3
       simp (disch:=omega) only [↓RS,RZ,simprocAttr,joinX_exit]
       exact lp_next (mid,a1+n,k2,bal,part) rfl ⟨m3,⟨by simp only;omega,by simp only;omega,by simp only;omega,by simp only;omega⟩,hsw.trans ((hw2.trans hw3).mono h1 h3 (by omega)),hn.2,hn.1,hUx.trans .set,get_eq (get_lt_len hgx)⟩ (by simp only;omega)
     ·simp (disch:=omega) only [↓RS,RZ,simprocAttr]
      exact join_end () rfl rfl
    ·rintro _ J3 _ rfl
     try conv in ov _ _ _ _=>simp only [ov,List.lookup,RO,simprocAttr]
     try conv in ov _ _ _ _=>simp only [ov,List.lookup,RO,simprocAttr]
     try conv in ov _ _ _ _=>simp only [ov,List.lookup,RO,simprocAttr]
     have ic:=fun K0 hK0=> @part_sc F dec Dm hF m2 a1 (a1+n) r hr1 hr2 (by omega) (by omega) q2 blk fx H3 K0 hgx hK0
     rw [hml2,hml] at ic
     simp (disch:=omega) only [↓RS,RZ,simprocAttr]
     refine call_sc (ic _ fun m3 mid t hw3 hP=> ?_)
     have hml3:=hw3.length
     have hg3:get (H3.set blk (some (.row 18 true (m3.map (tq dec))))) blk=some (.row 18 true (m3.map (tq dec))):=get_eq (get_lt_len hgx)
     have hU3:Upd blk H (H3.set blk (some (.row 18 true (m3.map (tq dec))))):=hUx.trans .set
     generalize H3.set blk (some (.row 18 true (m3.map (tq dec))))=H4 at*
     have hR3:=hR2.sw hw3
     have hp3:=hp2.sw hw3
     have q3:=hw3.hD q2
     have p1:=hP.1
     have p2:=hP.2.1
     have em1:((mid:Nat):Int)-(a1:Int)=((mid-a1:Nat):Int):=by omega
     have em2:((a1+n:Nat):Int)-(mid:Int)=((a1+n-mid:Nat):Int):=by omega
     have e8:((a1+n-a1:Nat):Int).tdiv 8=(((a1+n-a1)/8:Nat):Int):=tdivN _ 8
     by_cases hlr:mid-a1<a1+n-mid
     ·have ir:=fun (lim2:Nat) (hl2:lim2≤64) K0 hK0=> @ih (mid-a1) (by omega) m3 a1 mid lim2 (Nat.le_refl _) p1 (by omega) (by omega) q3 (fun h0 k k1 k2=>hp3 h0 k k1 (by omega)) hl2 blk fx H4 K0 hg3 hK0
      rw [hml3,hml2,hml] at ir
      simp (disch:=omega) only [↓RS,RZ,simprocAttr,em1,em2,e8]
      refine call_sc (ir k2 hk2 _ fun m4 H5 hw4 hs4 hU5 hg5=> ?_)
      have hn:=hR3.left hP (by omega) hw4 hs4
      simp (disch:=omega) only [↓RS,RZ,simprocAttr]
      exact lp_next (mid+1,a1+n,k2,decide ((a1+n-a1)/8≤mid-a1),t) rfl ⟨m4,⟨by simp only;omega,by simp only;omega,by simp only;omega,by simp only;omega⟩,hsw.trans (((hw2.trans hw3).trans (hw4.mono (Nat.le_refl _) (by omega) (by omega))).mono h1 h3 (by omega)),hn.2,hn.1,hU3.trans hU5,hg5⟩ (by simp only;omega)
     ·have ir:=fun (lim2:Nat) (hl2:lim2≤64) K0 hK0=> @ih (a1+n-(mid+1)) (by omega) m3 (mid+1) (a1+n) lim2 (Nat.le_refl _) (by omega) (by omega) (by omega) q3 (fun _ k k1 k2=>by rw [Nat.add_sub_cancel];exact hP.2.2.2 k (by omega) k2) hl2 blk fx H4 K0 hg3 hK0
      rw [hml3,hml2,hml] at ir
      simp (disch:=omega) only [↓RS,RZ,simprocAttr,em1,em2,e8]
      refine call_sc (ir k2 hk2 _ fun m4 H5 hw4 hs4 hU5 hg5=> ?_)
      have hn:=hR3.right hp3 hP (by omega) hw4 hs4
      simp (disch:=omega) only [↓RS,RZ,simprocAttr]
      exact lp_next (a1,mid,k2,decide ((a1+n-a1)/8≤a1+n-mid),t) rfl ⟨m4,⟨by simp only;omega,by simp only;omega,by simp only;omega,by simp only;omega⟩,hsw.trans (((hw2.trans hw3).trans (hw4.mono (by omega) (Nat.le_refl _) (by omega))).mono h1 h3 (by omega)),hn.2,hn.1,hU3.trans hU5,hg5⟩ (by simp only;omega)
def srtQ (l:List Rat):List Rat:=l.mergeSort fun a b=>decide (a≤b)
theorem srtQ_perm (l:List Rat):(srtQ l).Perm l:=List.mergeSort_perm _ _
theorem srtQ_asc (l:List Rat):(srtQ l).Pairwise (·≤·):=by
 refine (List.pairwise_mergeSort (fun a b c h1 h2=> ?_) (fun a b=> ?_) l).imp fun h=>of_decide_eq_true h
 ·exact decide_eq_true (Rat.le_trans (of_decide_eq_true h1) (of_decide_eq_true h2))
 ·rcases Rat.le_total (a:=a) (b:=b) with h|h
  ·rw [decide_eq_true h];rfl
  ·rw [decide_eq_true h];simp
theorem asc_eq {l m:List Rat} (h:l.Perm m) (h1:l.Pairwise (·≤·)) (h2:m.Pairwise (·≤·)):l=m:=
 List.Perm.eq_of_pairwise (fun a b _ _ k1 k2=>Rat.le_antisymm k1 k2) h1 h2 h
theorem Srt.asc {l:List Rat} (h:Srt 0 l.length l):l.Pairwise (·≤·):=by
 rw [List.pairwise_iff_getElem]
 intro i j hi hj hij
 have:=h.le (Nat.zero_le i) (Nat.le_of_lt hij) hj
 rwa [List.getD_eq_getElem?_getD,List.getD_eq_getElem?_getD,List.getElem?_eq_getElem hi,List.getElem?_eq_getElem hj] at this
theorem blen_64:∀ x:Nat,x<50→blen x≤64:=by decide
theorem sortG_sc {F:FuncId} {dec:Rat→Tri} {Dm:Rat→Prop} (hF:CmpT dec Dm F) (l:List Rat) (hn:l.length<50) (hl0:hD Dm l) {b:Nat} {fx:Bool} {H:Hp} {K:V→Hp→Prop} (hb:get H b=some (.row 18 true (l.map (tq dec))))
 (hK:∀ H',Upd b H H'→get H' b=some (.row 18 true ((srtQ l).map (tq dec)))→K (.tup []) H'):
 SC prog 82 [.sref b 0 l.length l.length 18 fx,.clo F [] []] H K:=by
 have c:=blen64_pc l.length (by omega)
 refine SCi ?_
 conv in trip _ _=>cbv
 simp only [runT,RN,simprocAttr]
 simp (disch:=omega) only [↓RS,RZ,simprocAttr,wrap_nat_u64]
 refine cX c ?_
 simp (disch:=omega) only [↓RS,RZ,simprocAttr]
 refine call_sc (pdqG_sc hF l.length l 0 l.length (blen l.length) (Nat.le_refl _) (Nat.zero_le _) (Nat.le_refl _) hn hl0 (fun h=>absurd h (Nat.lt_irrefl _)) (blen_64 _ hn) hb fun m H' hw hs hU hg=> ?_)
 simp (disch:=omega) only [↓RS,RZ,simprocAttr]
 have e:m=srtQ l:=asc_eq (hw.perm.trans (srtQ_perm l).symm) (Srt.asc (by rw [hw.length];exact hs)) (srtQ_asc l)
 rw [e] at hg
 exact hK H' hU hg
end Go.Av
namespace Go.Av
open Go.RowKit
open Go.Proofs.Tryz (prog)
theorem orI_abs {x y z:Int} (hx: -1≤x∧x≤1) (hy: -1≤y∧y≤1) (hz: -1≤z∧z≤1): -1≤orI x y z∧orI x y z≤1:=by
 unfold orI
 split
 ·exact hx
 ·split<;>assumption
theorem cmpT_abs (s t:Tri): -1≤cmpT s t∧cmpT s t≤1:=orI_abs (cmpP_abs _ _) (cmpP_abs _ _) (cmpP_abs _ _)
theorem Tri.ext {s t:Tri} (h1:s.a=t.a) (h2:s.b=t.b) (h3:s.c=t.c):s=t:=by cases s;cases t;simp at h1 h2 h3;simp [h1,h2,h3]
theorem cmpT_zero {s t:Tri}:cmpT s t=0↔s=t:=by
 unfold cmpT orI
 constructor
 ·intro h
  split at h
  ·rename_i hx;exact absurd h hx
  ·rename_i hx
   split at h
   ·rename_i hy;exact absurd h hy
   ·rename_i hy
    exact Tri.ext (cmpP_zero.1 (Classical.not_not.1 hx)) (cmpP_zero.1 (Classical.not_not.1 hy)) (cmpP_zero.1 h)
 ·rintro rfl
  simp [cmpP_self]
theorem cmpP_flip {p q:Pt}:cmpP p q= - cmpP q p:=by
 have h1:=cmpP_abs p q
 have h2:=cmpP_abs q p
 by_cases e:p=q
 ·subst e;simp [cmpP_self]
 ·have n1:cmpP p q≠0:=fun h=>e (cmpP_zero.1 h)
  have n2:cmpP q p≠0:=fun h=>e (cmpP_zero.1 h).symm
  rcases cmpP_le_total p q with h|h
  ·have:¬cmpP q p≤0:=fun k=>e (by
    have a:cmpP p q= -1:=by omega
    by_cases k0:0<cmpP q p
    ·omega
    ·exact absurd (cmpP_pos_le (p:=q) (q:=p)) (fun _=>by
      have:=cmpP_le.1 h
      have:=cmpP_le.1 k
      exact e (Pt.ext (by grind) (by grind))))
   omega
  ·have:¬cmpP p q≤0:=fun k=>e (by
    have:=cmpP_le.1 h
    have:=cmpP_le.1 k
    exact Pt.ext (by grind) (by grind))
   omega
theorem cmpT_flip (s t:Tri):cmpT s t= - cmpT t s:=by
 unfold cmpT orI
 rw [@cmpP_flip s.a,@cmpP_flip s.b,@cmpP_flip s.c]
 by_cases h1:cmpP t.a s.a=0
 ·by_cases h2:cmpP t.b s.b=0
  ·simp [h1,h2]
  ·simp [h1,h2]
 ·simp [h1]
theorem cmpT_le {s t:Tri}:cmpT s t≤0↔cmpP s.a t.a<0∨(s.a=t.a∧(cmpP s.b t.b<0∨(s.b=t.b∧cmpP s.c t.c≤0))):=by
 unfold cmpT orI
 by_cases h1:cmpP s.a t.a=0
 ·have e1:=cmpP_zero.1 h1
  rw [if_neg (fun h=>h h1)]
  by_cases h2:cmpP s.b t.b=0
  ·have e2:=cmpP_zero.1 h2
   rw [if_neg (fun h=>h h2)]
   simp [e1,e2,cmpP_self]
  ·have e2:s.b≠t.b:=fun h=>h2 (cmpP_zero.2 h)
   rw [if_pos h2]
   simp [e1,e2,cmpP_self]
   omega
 ·have e1:s.a≠t.a:=fun h=>h1 (cmpP_zero.2 h)
  rw [if_pos h1]
  simp [e1]
  omega
theorem cmpP_lt {p q:Pt}:cmpP p q<0↔p.x<q.x∨(p.x=q.x∧p.y<q.y):=by
 have e:= @cmpP_flip p q
 have h:= @cmpP_le q p
 constructor
 ·intro k
  have:¬cmpP q p≤0:=by omega
  rw [h] at this
  grind
 ·intro k
  have:¬cmpP q p≤0:=by rw [h];grind
  omega
theorem cmpT_trans {s t u:Tri} (h1:cmpT s t≤0) (h2:cmpT t u≤0):cmpT s u≤0:=by
 have tr:∀ {p q r:Pt},cmpP p q<0→cmpP q r<0→cmpP p r<0:=fun {p q r} h k=>by rw [cmpP_lt] at*;grind
 rw [cmpT_le] at*
 rcases h1 with h1|⟨e1,h1⟩<;>rcases h2 with h2|⟨e2,h2⟩
 ·exact .inl (tr h1 h2)
 ·exact .inl (by rw [←e2];exact h1)
 ·exact .inl (by rw [e1];exact h2)
 ·refine .inr ⟨e1.trans e2,?_⟩
  rcases h1 with h1|⟨e3,h1⟩<;>rcases h2 with h2|⟨e4,h2⟩
  ·exact .inl (tr h1 h2)
  ·exact .inl (by rw [←e4];exact h1)
  ·exact .inl (by rw [e3];exact h2)
  ·exact .inr ⟨e3.trans e4,cmpP_le_trans h1 h2⟩
def srtT (l:List Tri):List Tri:=l.mergeSort fun s t=>decide (cmpT s t≤0)
theorem srtT_perm (l:List Tri):(srtT l).Perm l:=List.mergeSort_perm _ _
theorem srtT_asc (l:List Tri):(srtT l).Pairwise fun s t=>cmpT s t≤0:=by
 have:=List.pairwise_mergeSort (le:=fun s t:Tri=>decide (cmpT s t≤0)) (fun a b c h1 h2=>by simp at*;exact cmpT_trans h1 h2) (fun a b=>by
  have:=cmpT_flip a b
  simp;omega) l
 exact this.imp fun h=>by simpa using h
theorem ascT_eq {l m:List Tri} (h:l.Perm m) (h1:l.Pairwise fun s t=>cmpT s t≤0) (h2:m.Pairwise fun s t=>cmpT s t≤0):l=m:=
 List.Perm.eq_of_pairwise (fun a b _ _ k1 k2=>cmpT_zero.1 (by have:=cmpT_flip a b;omega)) h1 h2 h
def rankT (S:List Tri) (t:Tri):Rat:=((S.idxOf t:Nat):Rat)
def decT (S:List Tri) (r:Rat):Tri:=S.getD r.num.toNat tr0
theorem decT_rank {S:List Tri} {t:Tri} (h:t∈S):decT S (rankT S t)=t:=by
 have hl:S.idxOf t<S.length:=List.idxOf_lt_length_iff.2 h
 have e:(rankT S t).num.toNat=S.idxOf t:=by unfold rankT;simp
 unfold decT
 rw [e,List.getD_eq_getElem?_getD,List.getElem?_eq_getElem hl]
 simp
theorem rank_lt {S:List Tri} (hS:S.Pairwise fun s t=>cmpT s t≤0) {s t:Tri} (hs:s∈S) (ht:t∈S):cmpT s t=cmpQ (rankT S s) (rankT S t):=by
 have ls:S.idxOf s<S.length:=List.idxOf_lt_length_iff.2 hs
 have lt:S.idxOf t<S.length:=List.idxOf_lt_length_iff.2 ht
 have gs:S[S.idxOf s]=s:=List.getElem_idxOf ls
 have gt:S[S.idxOf t]=t:=List.getElem_idxOf lt
 have ab:=cmpT_abs s t
 have key:∀ {a b:Tri} (la:S.idxOf a<S.length) (lb:S.idxOf b<S.length),S[S.idxOf a]=a→S[S.idxOf b]=b→S.idxOf a<S.idxOf b→cmpT a b<0:=by
  intro a b la lb ga gb h
  have h1:=List.pairwise_iff_getElem.1 hS _ _ la lb h
  rw [ga,gb] at h1
  have:cmpT a b≠0:=fun e=>by have:=cmpT_zero.1 e;subst this;exact Nat.lt_irrefl _ h
  omega
 unfold cmpQ rankT
 rcases Nat.lt_trichotomy (S.idxOf s) (S.idxOf t) with h|h|h
 ·have:=key ls lt gs gt h
  rw [if_pos (by exact_mod_cast h)]
  omega
 ·have e:s=t:=by rw [←gs,←gt];simp only [h]
  subst e
  rw [if_neg (Rat.lt_irrefl),if_neg (Rat.lt_irrefl)]
  exact cmpT_zero.2 rfl
 ·have:=key lt ls gt gs h
  have f:=cmpT_flip s t
  rw [if_neg (by have h':((S.idxOf t:Nat):Rat)<((S.idxOf s:Nat):Rat):=by exact_mod_cast h
                 exact Rat.not_lt.2 (Rat.le_of_lt h')),if_pos (by exact_mod_cast h)]
  omega
theorem sortT_sc (l:List Tri) (hn:l.length<50) (hh:∀ t∈l,ht3 t≤2^26) {b:Nat} {fx:Bool} {H:Hp} {K:V→Hp→Prop} (hb:get H b=some (.row 18 true (l.map trc)))
 (hK:∀ H',Upd b H H'→get H' b=some (.row 18 true ((srtT l).map trc))→K (.tup []) H'):
 SC prog 82 [.sref b 0 l.length l.length 18 fx,.clo 83 [] []] H K:=by
 have hp:=srtT_perm l
 have hS:=srtT_asc l
 generalize hSd:srtT l=S at*
 have mem:∀ t∈l,t∈S:=fun t ht=>hp.mem_iff.2 ht
 have hF:CmpT (decT S) (fun r=>∃ t∈S,r=rankT S t) 83 :=by
  rintro p q ⟨s,hs,rfl⟩ ⟨t,ht,rfl⟩
  rw [decT_rank hs,decT_rank ht,←rank_lt hS hs ht]
  exact cmpT_pc s t (hh s (hp.mem_iff.1 hs)) (hh t (hp.mem_iff.1 ht))
 have e1:(l.map (rankT S)).map (tq (decT S))=l.map trc:=by
  rw [List.map_map]
  exact List.map_congr_left fun t ht=>by show trc (decT S (rankT S t))=_;rw [decT_rank (mem t ht)]
 have hl:(l.map (rankT S)).length=l.length:=List.length_map ..
 have e2:(srtQ (l.map (rankT S))).map (decT S)=S:=by
  have q1:=srtQ_perm (l.map (rankT S))
  have q2:=srtQ_asc (l.map (rankT S))
  have ml:(l.map (rankT S)).map (decT S)=l:=by
   rw [List.map_map]
   conv=>rhs;rw [←List.map_id l]
   exact List.map_congr_left fun t ht=>decT_rank (mem t ht)
  refine ascT_eq ((q1.map _).trans (by rw [ml];exact hp.symm)) ?_ hS
  rw [List.pairwise_map]
  refine q2.imp_of_mem ?_
  intro a c ha hc hac
  obtain ⟨s,hs,rfl⟩:=List.mem_map.1 (q1.mem_iff.1 ha)
  obtain ⟨t,ht,rfl⟩:=List.mem_map.1 (q1.mem_iff.1 hc)
  rw [decT_rank (mem s hs),decT_rank (mem t ht),rank_lt hS (mem s hs) (mem t ht)]
  exact cmpQ_le.2 hac
 have key:= @sortG_sc 83 (decT S) (fun r=>∃ t∈S,r=rankT S t) hF (l.map (rankT S)) (by rw [hl];exact hn) (fun i hi=>by
  rw [List.getD_eq_getElem?_getD,List.getElem?_eq_getElem hi]
  obtain ⟨t,ht,e⟩:=List.mem_map.1 (List.getElem_mem hi)
  exact ⟨t,mem t ht,e.symm⟩) b fx H K (by rw [e1];exact hb) (fun H' hU hg=>by
  refine hK H' hU ?_
  rw [hg]
  congr 2
  rw [←e2,List.map_map]
  rw [e2]
  rfl)
 rw [hl] at key
 exact key
theorem sortNil_sc (F:FuncId) {H:Hp} {K:V→Hp→Prop} (hK:K (.tup []) H):
 SC prog 82 [.prim (.slice none 0 0),.clo F [] []] H K:=by
 have c:=blen64_pc 0 (by omega)
 have ins:∀ K0:V→Hp→Prop,K0 (.tup []) H→SC prog 204 [.prim (.slice none 0 0),.prim (.int .i64 ((0:Nat):Int)),.prim (.int .i64 ((0:Nat):Int)),.clo F [] []] H K0:=by
  intro K0 hK0
  refine SCi ?_
  conv in trip _ _=>cbv
  simp only [runT,RN,simprocAttr]
  simp (disch:=omega) only [↓RS,RZ,simprocAttr]
  refine wp_iter 1 ?_
  simp (disch:=omega) only [↓RS,RZ,simprocAttr,iterL_s,itQ_normal,itQ_exit,itQ_ret,Int.zero_add]
  exact hK0
 have pdq:∀ (lim:Int) (K0:V→Hp→Prop),K0 (.tup []) H→SC prog 141 [.prim (.slice none 0 0),.prim (.int .i64 ((0:Nat):Int)),.prim (.int .i64 ((0:Nat):Int)),.prim (.int .i64 (lim)),.clo F [] []] H K0:=by
  intro lim K0 hK0
  refine SCi ?_
  conv in trip _ _=>cbv
  simp only [runT,RN,simprocAttr]
  simp (disch:=omega) only [↓RS,RZ,simprocAttr]
  refine wp_iter 1 ?_
  simp (disch:=omega) only [↓RS,RZ,simprocAttr,iterL_s,itQ_normal,itQ_exit,itQ_ret,Int.sub_zero]
  refine call_sc (ins _ ?_)
  simp (disch:=omega) only [↓RS,RZ,simprocAttr]
  exact hK0
 refine SCi ?_
 conv in trip _ _=>cbv
 simp only [runT,RN,simprocAttr]
 simp (disch:=omega) only [↓RS,RZ,simprocAttr,wrap_nat_u64]
 refine cX c ?_
 simp (disch:=omega) only [↓RS,RZ,simprocAttr]
 refine call_sc (pdq _ _ ?_)
 simp (disch:=omega) only [↓RS,RZ,simprocAttr]
 exact hK
end Go.Av
