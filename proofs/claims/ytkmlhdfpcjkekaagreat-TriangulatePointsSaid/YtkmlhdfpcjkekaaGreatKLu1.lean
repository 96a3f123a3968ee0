/- Helping texts: Lu1. -/
import Derived.Test.YtkmlhdfpcjkekaaGreatKMm
import Derived.Test.YtkmlhdfpcjkekaaGreatKLg
set_option linter.unusedSimpArgs false
set_option linter.unusedVariables false
set_option maxRecDepth 100000
set_option maxHeartbeats 16000000
namespace Go.Av
open Go.RowKit
open Go.Proofs.Tryz (prog)
def CmpT (dec:Rat→Tri) (Dm:Rat→Prop) (F:FuncId):Prop:=∀ p q,Dm p→Dm q→PC prog F [trV (dec p),trV (dec q)] (.prim (.int .i64 (cmpQ p q)))
def tq (dec:Rat→Tri) (r:Rat):List V:=trc (dec r)
def hD (Dm:Rat→Prop) (l:List Rat):Prop:=∀ i,i<l.length→Dm (l.getD i 0)
theorem tq_get {dec:Rat→Tri} {l:List Rat} {i:Nat} (h:i<l.length):(l.map (tq dec))[i]? =some (tq dec (l.getD i 0)):=by
 rw [List.getElem?_map,List.getD_eq_getElem?_getD,List.getElem?_eq_getElem h];rfl
theorem Sw.hD {a b:Nat} {l m:List Rat} {Dm:Rat→Prop} (h:Sw a b l m) (hl:hD Dm l):hD Dm m:=by
 induction h with
 |refl=>exact hl
 |step i j p1 p2 p3 p4 p5 h ih=>
  have:=h.length
  intro x hx
  rw [swp_length] at hx
  rw [swp_get (by omega) (by omega)]
  split
  ·exact ih i (by omega)
  ·split
   ·exact ih j (by omega)
   ·exact ih x hx
theorem swp_tq {dec:Rat→Tri} {m:List Rat} {i j:Nat}:((m.map (tq dec)).set i (tq dec (m.getD j 0))).set j (tq dec (m.getD i 0))=(swp m i j).map (tq dec):=by
 unfold swp;rw [List.map_set,List.map_set]
theorem cmpQ_lt {p q:Rat}:cmpQ p q<0↔p<q:=by
 unfold cmpQ
 by_cases h1:p<q
 ·rw [if_pos h1];exact ⟨fun _=>h1,fun _=>by decide⟩
 ·rw [if_neg h1]
  split
  ·exact ⟨fun h=>absurd h (by decide),fun h=>absurd h h1⟩
  ·exact ⟨fun h=>absurd h (by decide),fun h=>absurd h h1⟩
theorem isortG_sc {F:FuncId} {dec:Rat→Tri} {Dm:Rat→Prop} (hF:CmpT dec Dm F) (l:List Rat) (a b:Nat) (hab:a≤b) (hbl:b≤l.length) (hn:l.length≤2^20) (hl0:hD Dm l) {blk:Nat} {fx:Bool} {H:Hp} {K:V→Hp→Prop} (hb:get H blk=some (.row 18 true (l.map (tq dec))))
 (hK:∀ m,Sw a b l m→Srt a b m→K (.tup []) (H.set blk (some (.row 18 true (m.map (tq dec)))))):
 SC prog 204 [.sref blk 0 l.length l.length 18 fx,.prim (.int .i64 ((a:Nat):Int)),.prim (.int .i64 ((b:Nat):Int)),.clo F [] []] H K:=by
 have hbk:=get_lt_len hb
 have s1:∀ x,get (H.set blk x) blk=x:=fun x=>get_eq hbk
 have s2:∀ x y,(H.set blk x).set blk y=H.set blk y:=fun x y=>List.set_set ..
 refine SCi ?_
 conv in trip _ _=>cbv
 simp only [runT,RN,simprocAttr]
 simp (disch:=omega) only [↓RS,RZ,simprocAttr]
 refine wp_lp (fun (i:Nat) J=>ov [(0,.sref blk 0 l.length l.length 18 fx),(1,.prim (.int .i64 ((a:Nat):Int))),(2,.prim (.int .i64 ((b:Nat):Int))),(3,.clo F [] []),(8,.prim (.int .i64 ((i:Nat):Int)))] J 0 53) (fun i H'=>∃ m:List Rat,((a+1≤i∧(i≤b∨i=a+1))∧Sw a b l m∧Srt a i m)∧H'=H.set blk (some (.row 18 true (m.map (tq dec))))) (fun i=>b-i) (a+1) rfl ⟨l,⟨⟨Nat.le_refl _,.inr rfl⟩,.refl l,fun k h1 h2=>by omega⟩,(set_self hb).symm⟩ ?_
 rintro i J _ ⟨m,⟨⟨hi1,hi⟩,hsw,hs⟩,rfl⟩
 try conv in ov _ _ _ _=>simp only [ov,List.lookup,RO,simprocAttr]
 have hml:=hsw.length
 rcases Nat.lt_or_ge i b with hlt|hge
 ·simp (disch:=omega) only [↓RS,RZ,simprocAttr]
  refine wp_lp (fun (j:Nat) J=>ov [(0,.sref blk 0 l.length l.length 18 fx),(1,.prim (.int .i64 ((a:Nat):Int))),(2,.prim (.int .i64 ((b:Nat):Int))),(3,.clo F [] []),(8,.prim (.int .i64 ((i:Nat):Int))),(9,.prim (.int .i64 ((j:Nat):Int)))] J 0 53) (fun j H'=>∃ m:List Rat,(Sw a b l m∧InsI a i j m)∧H'=H.set blk (some (.row 18 true (m.map (tq dec))))) (fun j=>j) i rfl ⟨m,⟨hsw,.start hs (by omega)⟩,rfl⟩ ?_
  rintro j J' _ ⟨m',⟨hsw',hI⟩,rfl⟩
  try conv in ov _ _ _ _=>simp only [ov,List.lookup,RO,simprocAttr]
  have hml':=hsw'.length
  have q:=hsw'.hD hl0
  have h1:=hI.lo
  have h2:=hI.hi
  by_cases hj:j=a
  ·simp (disch:=omega) only [↓RS,RZ,simprocAttr]
   exact lp_next (i+1) rfl ⟨m',⟨⟨by omega,.inl hlt⟩,hsw',hI.stop (.inl hj)⟩,rfl⟩ (by omega)
  ·obtain ⟨k,rfl⟩:∃ k,j=k+1:=⟨j-1,by omega⟩
   have g1:=tq_get (dec:=dec) (l:=m') (i:=k) (by omega)
   have g2:=tq_get (dec:=dec) (l:=m') (i:=k+1) (by omega)
   have c:=hF (m'.getD (k+1) 0) (m'.getD k 0) (q _ (by omega)) (q _ (by omega))
   have hst:=hI.stop
   have hdn:=fun h=>hI.down (by omega) (by omega) h
   rw [Nat.add_sub_cancel] at hst hdn
   simp (disch:=omega) only [↓RS,RZ,simprocAttr,s1,g1,g2,tq,trc,Nat.add_sub_cancel,Nat.zero_add]
   refine cX c ?_
   by_cases hc:cmpQ (m'.getD (k+1) 0) (m'.getD k 0)<0
   ·have g3:∀ x,((m'.map (tq dec)).set (k+1) x)[k]? =some (tq dec (m'.getD k 0)):=fun x=>by rw [List.getElem?_set_ne (by omega)];exact g1
    have es:= @swp_tq dec m' (k+1) k
    simp only [tq,trc] at es
    simp (disch:=omega) only [↓RS,RZ,simprocAttr,s1,s2,g1,g2,g3,tq,trc,Nat.add_sub_cancel,Nat.zero_add,es]
    exact lp_next k rfl ⟨swp m' (k+1) k,⟨hsw'.trans (.step _ _ (by omega) (by omega) (by omega) (by omega) (by omega) (.refl _)),hdn (cmpQ_lt.1 hc)⟩,rfl⟩ (Nat.lt_succ_self k)
   ·simp (disch:=omega) only [↓RS,RZ,simprocAttr]
    exact lp_next (i+1) rfl ⟨m',⟨⟨by omega,.inl hlt⟩,hsw',hst (.inr (Rat.not_lt.1 fun h=>hc (cmpQ_lt.2 h)))⟩,rfl⟩ (by omega)
 ·simp (disch:=omega) only [↓RS,RZ,simprocAttr]
  exact hK m hsw (fun k h1 h2=>hs k h1 (by omega))
theorem sift_sc {F:FuncId} {dec:Rat→Tri} {Dm:Rat→Prop} (hF:CmpT dec Dm F) (l:List Rat) (f lo n:Nat) (hfn:f+n≤l.length) (hlo:lo≤n) (hn:l.length≤2^20) (hl0:hD Dm l) (hh:Hep f (lo+1) n l) {blk:Nat} {fx:Bool} {H:Hp} {K:V→Hp→Prop} (hb:get H blk=some (.row 18 true (l.map (tq dec))))
 (hK:∀ m,Sw f (f+n) l m→Hep f lo n m→K (.tup []) (H.set blk (some (.row 18 true (m.map (tq dec)))))):
 SC prog 260 [.sref blk 0 l.length l.length 18 fx,.prim (.int .i64 ((lo:Nat):Int)),.prim (.int .i64 ((n:Nat):Int)),.prim (.int .i64 ((f:Nat):Int)),.clo F [] []] H K:=by
 have hbk:=get_lt_len hb
 have s1:∀ x,get (H.set blk x) blk=x:=fun x=>get_eq hbk
 have s2:∀ x y,(H.set blk x).set blk y=H.set blk y:=fun x y=>List.set_set ..
 refine SCi ?_
 conv in trip _ _=>cbv
 simp only [runT,RN,simprocAttr]
 simp (disch:=omega) only [↓RS,RZ,simprocAttr]
 refine wp_lp (fun (r:Nat) J=>ov [(0,.sref blk 0 l.length l.length 18 fx),(2,.prim (.int .i64 ((n:Nat):Int))),(3,.prim (.int .i64 ((f:Nat):Int))),(4,.clo F [] []),(10,.prim (.int .i64 ((r:Nat):Int)))] J 0 82) (fun r H'=>∃ m:List Rat,(r≤n∧Sw f (f+n) l m∧SiftI f lo n r m)∧H'=H.set blk (some (.row 18 true (m.map (tq dec))))) (fun r=>n-r) lo rfl ⟨l,⟨hlo,.refl l,.start hh⟩,(set_self hb).symm⟩ ?_
 rintro r J _ ⟨m,⟨hrn,hsw,hI⟩,rfl⟩
 try conv in ov _ _ _ _=>simp only [ov,List.lookup,RO,simprocAttr]
 have hml:=hsw.length
 have q:=hsw.hD hl0
 have e2:(2:Int)*(r:Int)=((2*r:Nat):Int):=by omega
 by_cases hc0:n≤2*r+1
 ·simp (disch:=omega) only [↓RS,RZ,simprocAttr,e2]
  exact hK m hsw (hI.stop fun c h1 h2=>by omega)
 ·have g0:=tq_get (dec:=dec) (l:=m) (i:=f+r) (by omega)
  have g1:=tq_get (dec:=dec) (l:=m) (i:=f+(2*r+1)) (by omega)
  have fin:∀ c,(c=2*r+1∨c=2*r+2)→c<n→(∀ d,(d=2*r+1∨d=2*r+2)→d<n→m.getD (f+d) 0≤m.getD (f+c) 0)→¬m.getD (f+r) 0<m.getD (f+c) 0→Hep f lo n m:=fun c h1 h2 h3 h4=>
   hI.stop fun d k1 k2=>Rat.le_trans (h3 d k1 k2) (Rat.not_lt.1 h4)
  by_cases hc1:2*r+2<n
  ·have g2:=tq_get (dec:=dec) (l:=m) (i:=f+(2*r+1)+1) (by omega)
   have c1:=hF (m.getD (f+(2*r+1)) 0) (m.getD (f+(2*r+1)+1) 0) (q _ (by omega)) (q _ (by omega))
   simp (disch:=omega) only [↓RS,RZ,simprocAttr,e2,s1,g1,g2,tq,trc,Nat.zero_add]
   refine cX c1 ?_
   by_cases hz:cmpQ (m.getD (f+(2*r+1)) 0) (m.getD (f+(2*r+1)+1) 0)<0
   ·have hz':=cmpQ_lt.1 hz
    have gc:=tq_get (dec:=dec) (l:=m) (i:=f+(2*r+1+1)) (by omega)
    have c2:=hF (m.getD (f+r) 0) (m.getD (f+(2*r+1+1)) 0) (q _ (by omega)) (q _ (by omega))
    have hmx:∀ d,(d=2*r+1∨d=2*r+2)→d<n→m.getD (f+d) 0≤m.getD (f+(2*r+1+1)) 0:=by
     rintro d (rfl|rfl) hd
     ·exact Rat.le_of_lt hz'
     ·exact Rat.le_refl
    have gx:∀ x,((m.map (tq dec)).set (f+r) x)[f+(2*r+1+1)]? =some (tq dec (m.getD (f+(2*r+1+1)) 0)):=fun x=>by rw [List.getElem?_set_ne (by omega)];exact gc
    have es:= @swp_tq dec m (f+r) (f+(2*r+1+1))
    simp only [tq,trc] at es
    simp (disch:=omega) only [↓RS,RZ,simprocAttr,s1,g0,gc,tq,trc,Nat.zero_add]
    refine cX c2 ?_
    by_cases hk:cmpQ (m.getD (f+r) 0) (m.getD (f+(2*r+1+1)) 0)<0
    ·simp (disch:=omega) only [↓RS,RZ,simprocAttr,s1,s2,g0,gc,gx,tq,trc,Nat.zero_add,es]
     exact lp_next (2*r+1+1) rfl ⟨_,⟨by omega,hsw.trans (.step (f+r) (f+(2*r+1+1)) (by omega) (by omega) (by omega) (by omega) (by omega) (.refl _)),hI.down (by omega) (by omega) (by omega) (cmpQ_lt.1 hk) hmx⟩,rfl⟩ (by omega)
    ·simp (disch:=omega) only [↓RS,RZ,simprocAttr]
     exact hK m hsw (fin (2*r+1+1) (by omega) (by omega) hmx fun h=>hk (cmpQ_lt.2 h))
   ·have hz':=Rat.not_lt.1 (fun h=>hz (cmpQ_lt.2 h))
    have gc:=tq_get (dec:=dec) (l:=m) (i:=f+(2*r+1)) (by omega)
    have c2:=hF (m.getD (f+r) 0) (m.getD (f+(2*r+1)) 0) (q _ (by omega)) (q _ (by omega))
    have hmx:∀ d,(d=2*r+1∨d=2*r+2)→d<n→m.getD (f+d) 0≤m.getD (f+(2*r+1)) 0:=by
     rintro d (rfl|rfl) hd
     ·exact Rat.le_refl
     ·exact hz'
    have gx:∀ x,((m.map (tq dec)).set (f+r) x)[f+(2*r+1)]? =some (tq dec (m.getD (f+(2*r+1)) 0)):=fun x=>by rw [List.getElem?_set_ne (by omega)];exact gc
    have es:= @swp_tq dec m (f+r) (f+(2*r+1))
    simp only [tq,trc] at es
    simp (disch:=omega) only [↓RS,RZ,simprocAttr,s1,g0,gc,tq,trc,Nat.zero_add]
    refine cX c2 ?_
    by_cases hk:cmpQ (m.getD (f+r) 0) (m.getD (f+(2*r+1)) 0)<0
    ·simp (disch:=omega) only [↓RS,RZ,simprocAttr,s1,s2,g0,gc,gx,tq,trc,Nat.zero_add,es]
     exact lp_next (2*r+1) rfl ⟨_,⟨by omega,hsw.trans (.step (f+r) (f+(2*r+1)) (by omega) (by omega) (by omega) (by omega) (by omega) (.refl _)),hI.down (by omega) (by omega) (by omega) (cmpQ_lt.1 hk) hmx⟩,rfl⟩ (by omega)
    ·simp (disch:=omega) only [↓RS,RZ,simprocAttr]
     exact hK m hsw (fin (2*r+1) (by omega) (by omega) hmx fun h=>hk (cmpQ_lt.2 h))
  ·simp (disch:=omega) only [↓RS,RZ,simprocAttr,e2]
   have gc:=tq_get (dec:=dec) (l:=m) (i:=f+(2*r+1)) (by omega)
   have c2:=hF (m.getD (f+r) 0) (m.getD (f+(2*r+1)) 0) (q _ (by omega)) (q _ (by omega))
   have hmx:∀ d,(d=2*r+1∨d=2*r+2)→d<n→m.getD (f+d) 0≤m.getD (f+(2*r+1)) 0:=by
    rintro d (rfl|rfl) hd
    ·exact Rat.le_refl
    ·omega
   have gx:∀ x,((m.map (tq dec)).set (f+r) x)[f+(2*r+1)]? =some (tq dec (m.getD (f+(2*r+1)) 0)):=fun x=>by rw [List.getElem?_set_ne (by omega)];exact gc
   have es:= @swp_tq dec m (f+r) (f+(2*r+1))
   simp only [tq,trc] at es
   simp (disch:=omega) only [↓RS,RZ,simprocAttr,s1,g0,gc,tq,trc,Nat.zero_add]
   refine cX c2 ?_
   by_cases hk:cmpQ (m.getD (f+r) 0) (m.getD (f+(2*r+1)) 0)<0
   ·simp (disch:=omega) only [↓RS,RZ,simprocAttr,s1,s2,g0,gc,gx,tq,trc,Nat.zero_add,es]
    exact lp_next (2*r+1) rfl ⟨_,⟨by omega,hsw.trans (.step (f+r) (f+(2*r+1)) (by omega) (by omega) (by omega) (by omega) (by omega) (.refl _)),hI.down (by omega) (by omega) (by omega) (cmpQ_lt.1 hk) hmx⟩,rfl⟩ (by omega)
   ·simp (disch:=omega) only [↓RS,RZ,simprocAttr]
    exact hK m hsw (fin (2*r+1) (by omega) (by omega) hmx fun h=>hk (cmpQ_lt.2 h))
theorem heap_sc {F:FuncId} {dec:Rat→Tri} {Dm:Rat→Prop} (hF:CmpT dec Dm F) (l:List Rat) (a b:Nat) (hab:a<b) (hbl:b≤l.length) (hn:l.length≤2^20) (hl0:hD Dm l) {blk:Nat} {fx:Bool} {H:Hp} {K:V→Hp→Prop} (hb:get H blk=some (.row 18 true (l.map (tq dec))))
 (hK:∀ m,Sw a b l m→Srt a b m→K (.tup []) (H.set blk (some (.row 18 true (m.map (tq dec)))))):
 SC prog 205 [.sref blk 0 l.length l.length 18 fx,.prim (.int .i64 ((a:Nat):Int)),.prim (.int .i64 ((b:Nat):Int)),.clo F [] []] H K:=by
 have hbk:=get_lt_len hb
 have s1:∀ x,get (H.set blk x) blk=x:=fun x=>get_eq hbk
 have s2:∀ x y,(H.set blk x).set blk y=H.set blk y:=fun x y=>List.set_set ..
 obtain ⟨n,rfl⟩:∃ n,b=a+n:=⟨b-a,by omega⟩
 have ed:((a+n:Nat):Int)-(a:Int)=((n:Nat):Int):=by omega
 have e1:((n:Nat):Int)-1=((n-1:Nat):Int):=by omega
 have e2:(((n-1:Nat):Int)).tdiv 2=(((n-1)/2:Nat):Int):=tdivN (n-1) 2
 refine SCi ?_
 conv in trip _ _=>cbv
 simp only [runT,RN,simprocAttr]
 simp (disch:=omega) only [↓RS,RZ,simprocAttr,ed,e1,e2]
 refine wp_lp (fun (s:Nat) J=>ov [(0,.sref blk 0 l.length l.length 18 fx),(3,.clo F [] []),(8,.prim (.int .i64 ((a:Nat):Int))),(9,.prim (.int .i64 (0))),(10,.prim (.int .i64 ((n:Nat):Int))),(11,.prim (.int .i64 ((s:Int)-1)))] J 0 60) (fun s H'=>∃ m:List Rat,(s≤(n-1)/2+1∧Sw a (a+n) l m∧Hep a s n m)∧H'=H.set blk (some (.row 18 true (m.map (tq dec))))) (fun s=>s) ((n-1)/2+1) (by rw [show (((n-1)/2+1:Nat):Int)-1=(((n-1)/2:Nat):Int) by omega];rfl) ⟨l,⟨Nat.le_refl _,.refl l,.late (by omega)⟩,(set_self hb).symm⟩ ?_
 rintro s J _ ⟨m,⟨hs,hsw,hh⟩,rfl⟩
 try conv in ov _ _ _ _=>simp only [ov,List.lookup,RO,simprocAttr]
 have hml:=hsw.length
 have q:=hsw.hD hl0
 rcases s with _|k
 ·simp (disch:=omega) only [↓RS,RZ,simprocAttr,e1]
  refine wp_lp (fun (s:Nat) J=>ov [(0,.sref blk 0 l.length l.length 18 fx),(3,.clo F [] []),(8,.prim (.int .i64 ((a:Nat):Int))),(9,.prim (.int .i64 (0))),(10,.prim (.int .i64 ((n:Nat):Int))),(12,.prim (.int .i64 ((s:Int)-1)))] J 0 60) (fun s H'=>∃ m:List Rat,(s≤n∧Sw a (a+n) l m∧PopI a n s m)∧H'=H.set blk (some (.row 18 true (m.map (tq dec))))) (fun s=>s) n (by rw [e1];rfl) ⟨m,⟨Nat.le_refl _,hsw,.start hh⟩,rfl⟩ ?_
  rintro s J' _ ⟨m',⟨hs',hsw',hp⟩,rfl⟩
  try conv in ov _ _ _ _=>simp only [ov,List.lookup,RO,simprocAttr]
  have hml':=hsw'.length
  have q':=hsw'.hD hl0
  rcases s with _|k
  ·simp (disch:=omega) only [↓RS,RZ,simprocAttr]
   exact hK m' hsw' (by have:=hp.srt;rwa [Nat.add_zero] at this)
  ·have ek:((k+1:Nat):Int)-1=((k:Nat):Int):=by omega
   rw [ek]
   have g1:=tq_get (dec:=dec) (l:=m') (i:=a) (by omega)
   have g2:=tq_get (dec:=dec) (l:=m') (i:=a+k) (by omega)
   have gx:((m'.map (tq dec)).set a (tq dec (m'.getD (a+k) 0)))[a+k]? =some (tq dec (m'.getD (a+k) 0)):=by
    rcases Nat.eq_zero_or_pos k with h0|h0
    ·subst h0;rw [Nat.add_zero,List.getElem?_set_self (by rw [List.length_map];omega)]
    ·rw [List.getElem?_set_ne (by omega)];exact g2
   have es:= @swp_tq dec m' a (a+k)
   simp only [tq,trc] at es gx
   have hsl:=swp_length m' a (a+k)
   have st:Sw a (a+n) m' (swp m' a (a+k)):= .step _ _ (by omega) (by omega) (by omega) (by omega) (by omega) (.refl _)
   have sf:=fun H0 K0 hb0 hK0=> @sift_sc F dec Dm hF (swp m' a (a+k)) a 0 k (by omega) (Nat.zero_le _) (by omega) (st.hD q') (hp.swap (by omega) (by omega)) blk fx H0 K0 hb0 hK0
   rw [hsl,hml'] at sf
   simp (disch:=omega) only [↓RS,RZ,simprocAttr,s1,s2,g1,g2,gx,tq,trc,Nat.zero_add,es]
   refine call_sc (sf _ _ (s1 _) fun m2 hw2 hh2=> ?_)
   rw [s2]
   simp (disch:=omega) only [↓RS,RZ,simprocAttr]
   exact lp_next k rfl ⟨m2,⟨by omega,(hsw'.trans st).trans (hw2.mono (Nat.le_refl _) (by omega) (by omega)),hp.step (by omega) (by omega) hw2 hh2⟩,rfl⟩ (Nat.lt_succ_self k)
 ·have ek:((k+1:Nat):Int)-1=((k:Nat):Int):=by omega
  rw [ek]
  have sf:=fun H0 K0 hb0 hK0=> @sift_sc F dec Dm hF m a k n (by omega) (by omega) (by omega) q hh blk fx H0 K0 hb0 hK0
  rw [hml] at sf
  simp (disch:=omega) only [↓RS,RZ,simprocAttr]
  refine call_sc (sf _ _ (s1 _) fun m2 hw2 hh2=> ?_)
  rw [s2]
  simp (disch:=omega) only [↓RS,RZ,simprocAttr]
  exact lp_next k rfl ⟨m2,⟨by omega,hsw.trans hw2,hh2⟩,rfl⟩ (Nat.lt_succ_self k)
end Go.Av
