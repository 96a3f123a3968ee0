/- Helping texts: Me, Mf, Mg. -/
import Derived.Test.YtkmlhdfpcjkekaaGreatKMc
set_option linter.unusedSimpArgs false
set_option linter.unusedVariables false
set_option maxRecDepth 100000
set_option maxHeartbeats 16000000
namespace Go.Av
def mS (m:List Pt):List Pt:=m.drop (gA m m.length)++m.take (gA m m.length)
def canonL (l:List Pt):List Pt:=mS (if jB l<0 then l.reverse else l)
def Ka (l:List Pt):Prop:=∀ i,i<l.length→l.getD i default≠nx l i∧pi l i=false
def zh (l:List Pt) (r:Nat):List Pt:=l.drop r++l.take r
theorem s8 {l:List Pt} {i:Nat} (h:i<l.length):l.reverse.getD i default=l.getD (l.length-1-i) default:=by
 rw [ae,List.getElem?_reverse h,←ae]
def rot1:List Pt→List Pt
 |[]=>[]
 |p::t=>t++[p]
theorem lO (l:List Pt):(rot1 l).length=l.length:=by cases l<;>simp [rot1]
theorem K9 {l:List Pt} {i:Nat} (h:i<l.length):(rot1 l).getD i default=l.getD ((i+1)%l.length) default:=by
 cases l with
 |nil=>simp at h
 |cons p t=>
  simp only [aC] at h ⊢
  unfold rot1
  rcases am i t.length with hlt|hge
  ·rw [bA (by omega),aB,ae,bB hlt,←ae]
  ·have:i=t.length:=by omega
   subst this
   rw [Nat.mod_self,aM,ae,bv (ax _)]
   simp
def sc (n i:Nat):Nat:=if i+1=n then 0 else i+1
theorem JE {n i:Nat} (h:i<n):(i+1)%n=sc n i:=by
 unfold sc
 split
 ·rename_i e;rw [e,Nat.mod_self]
 ·exact bA (by omega)
theorem jF {n i:Nat} (h:i<n):sc n i<n:=by unfold sc;split<;>omega
theorem oC {l:List Pt} {i:Nat} (h:i<l.length):nx l i=l.getD (sc l.length i) default:=by unfold nx;rw [JE h]
structure mj (l:List Pt):Prop where
 lo:3≤l.length
 ne:∀ i,i<l.length→l.getD i default≠l.getD (sc l.length i) default
 fl:∀ i,i<l.length→ar (l.getD i default) (l.getD (sc l.length i) default) (l.getD (sc l.length (sc l.length i)) default)≠0
 cr:∀ i k,i<l.length→k<l.length→i≠k→sc l.length i≠k→sc l.length k≠i→¬ez (l.getD i default) (l.getD (sc l.length i) default) (l.getD k default) (l.getD (sc l.length k) default)
theorem ez.symm {a b u v:Pt} (h:ez a b u v):ez u v a b:=by obtain ⟨p,h1,h2⟩:=h;exact ⟨p,h2,h1⟩
theorem Dr {s t:Sg} (hs:s.ok) (ht:t.ok) (h:ez s.a s.b t.a t.b):(iI s t).isSome=true:=by
 obtain ⟨p,h1,h2⟩:=h
 obtain ⟨m,hm,_⟩:=zA hs ht h1 h2
 rw [hm];rfl
theorem FT {t:Rat} (h:unit t=true):0≤t∧t≤1:=by
 unfold unit at h
 simp only [Bool.and_eq_true,aE] at h
 exact ⟨yV.1 h.1,sE.1 h.2⟩
theorem qy {s:Sg} {p:Pt} (hx:ar s.a s.b p=0) (h1:bO s.order.a p≤0) (h2:bO p s.order.b≤0):aJ s.a s.b p:=by
 unfold Sg.order at h1 h2
 split at h1<;>rename_i h0
 ·rw [if_pos h0] at h2;exact cH (uB (by rw [mZ,hx];grind) h1 h2)
 ·rw [if_neg h0] at h2;exact uB hx h1 h2
theorem IG (p q:Pt):greater p q=p∨greater p q=q:=by
 unfold greater
 split
 ·exact .inr rfl
 ·exact .inl rfl
theorem Gs (s:Sg):s.order.a=s.a∨s.order.a=s.b:=by
 unfold Sg.order
 split
 ·exact .inr rfl
 ·exact .inl rfl
theorem LI (p q:Pt):lesser p q=p∨lesser p q=q:=by
 unfold lesser
 split
 ·exact .inl rfl
 ·exact .inr rfl
theorem C6 (s:Sg):s.order.b=s.a∨s.order.b=s.b:=by
 unfold Sg.order
 split
 ·exact .inl rfl
 ·exact .inr rfl
theorem tA {s t m:Sg} (h:iI s t=some m):(aJ s.a s.b m.a∧aJ t.a t.b m.a)∧aJ s.a s.b m.b∧aJ t.a t.b m.b:=by
 unfold iI at h
 split at h
 ·rename_i hok
  unfold qB at h
  by_cases hd:cross s.dir t.dir=0
  ·rw [if_neg (show ¬cross s.dir t.dir≠0 from fun k=>k hd)] at h
   by_cases hw:cross s.dir (t.a.sub s.a)=0
   ·rw [if_neg (show ¬cross s.dir (t.a.sub s.a)≠0 from fun k=>k hw)] at h
    split at h
    ·cases h
    ·rename_i hc
     have hc:bO (greater s.order.a t.order.a) (lesser s.order.b t.order.b)≤0:=by omega
     have g1:bO s.order.a (greater s.order.a t.order.a)≤0∧bO t.order.a (greater s.order.a t.order.a)≤0:=by
      unfold greater
      split
      ·rename_i k;exact ⟨by omega,Int.le_of_eq (iZ _)⟩
      ·rename_i k
       exact ⟨Int.le_of_eq (iZ _),by rcases l8 t.order.a s.order.a with h|h
                                     ·exact h
                                     ·have:bO s.order.a t.order.a=0:=by omega
                                      rw [c7.1 this];exact Int.le_of_eq (iZ _)⟩
     have g2:bO (lesser s.order.b t.order.b) s.order.b≤0∧bO (lesser s.order.b t.order.b) t.order.b≤0:=by
      unfold lesser
      split
      ·rename_i k;exact ⟨Int.le_of_eq (iZ _),by omega⟩
      ·rename_i k
       exact ⟨by rcases l8 t.order.b s.order.b with h|h
                 ·exact h
                 ·have:bO s.order.b t.order.b=0:=by omega
                  rw [c7.1 this];exact Int.le_of_eq (iZ _),Int.le_of_eq (iZ _)⟩
     have hg:greater s.order.a t.order.a=s.a∨greater s.order.a t.order.a=s.b∨greater s.order.a t.order.a=t.a∨greater s.order.a t.order.a=t.b:=by
      rcases IG s.order.a t.order.a with e|e<;>rw [e]
      ·rcases Gs s with e|e<;>rw [e]
       ·exact .inl rfl
       ·exact .inr (.inl rfl)
      ·rcases Gs t with e|e<;>rw [e]
       ·exact .inr (.inr (.inl rfl))
       ·exact .inr (.inr (.inr rfl))
     have hl:lesser s.order.b t.order.b=s.a∨lesser s.order.b t.order.b=s.b∨lesser s.order.b t.order.b=t.a∨lesser s.order.b t.order.b=t.b:=by
      rcases LI s.order.b t.order.b with e|e<;>rw [e]
      ·rcases C6 s with e|e<;>rw [e]
       ·exact .inl rfl
       ·exact .inr (.inl rfl)
      ·rcases C6 t with e|e<;>rw [e]
       ·exact .inr (.inr (.inl rfl))
       ·exact .inr (.inr (.inr rfl))
     have hsd:s.b.x-s.a.x≠0∨s.b.y-s.a.y≠0:=by
      by_cases hx:s.b.x-s.a.x=0
      ·right;intro hy;exact hok.1 (c7.2 (Pt.ext (by grind) (by grind)))
      ·exact .inl hx
     have htd:t.b.x-t.a.x≠0∨t.b.y-t.a.y≠0:=by
      by_cases hx:t.b.x-t.a.x=0
      ·right;intro hy;exact hok.2 (c7.2 (Pt.ext (by grind) (by grind)))
      ·exact .inl hx
     simp only [Sg.dir,cross,Pt.sub] at hd hw
     have a1:∀ p,(p=s.a∨p=s.b∨p=t.a∨p=t.b)→ar s.a s.b p=0:=by
      intro p hp
      rcases hp with rfl|rfl|rfl|rfl
      ·exact pk _ _
      ·exact pj _ _
      ·unfold ar;exact hw
      ·unfold ar;grind
     have a2:∀ p,(p=s.a∨p=s.b∨p=t.a∨p=t.b)→ar t.a t.b p=0:=by
      intro p hp
      rcases hp with rfl|rfl|rfl|rfl
      ·unfold ar;rcases hsd with h|h<;>grind
      ·unfold ar;rcases hsd with h|h<;>grind
      ·exact pk _ _
      ·exact pj _ _
     cases h
     exact ⟨⟨qy (a1 _ hg) g1.1 (je hc g2.1),qy (a2 _ hg) g1.2 (je hc g2.2)⟩,qy (a1 _ hl) (je g1.1 hc) g2.1,qy (a2 _ hl) (je g1.2 hc) g2.2⟩
   ·rw [if_pos (show cross s.dir (t.a.sub s.a)≠0 from hw)] at h;cases h
  ·rw [if_pos (show cross s.dir t.dir≠0 from hd)] at h
   split at h
   ·rename_i hu
    rw [Bool.and_eq_true] at hu
    obtain ⟨l0,l1⟩:=FT hu.1
    obtain ⟨k0,k1⟩:=FT hu.2
    cases h
    have e1:aJ s.a s.b (s.a.at s.b (cross (t.a.sub s.a) t.dir/cross s.dir t.dir)):=⟨_,l0,l1,yZ _ _ _⟩
    have e2:aJ t.a t.b (s.a.at s.b (cross (t.a.sub s.a) t.dir/cross s.dir t.dir)):=by
     refine ⟨_,k0,k1,?_⟩
     rw [yZ]
     clear hu l0 l1 k0 k1 e1
     refine Pt.ext ?_ ?_<;>(unfold pt;simp only [Sg.dir,cross,Pt.sub] at hd ⊢;grind)
    exact ⟨⟨e1,e2⟩,e1,e2⟩
   ·cases h
 ·cases h
theorem yr {s t:Sg} (h:(iI s t).isSome=true):ez s.a s.b t.a t.b:=by
 obtain ⟨m,hm⟩:=Option.isSome_iff_exists.1 h
 exact ⟨m.a,(tA hm).1.1,(tA hm).1.2⟩
theorem xn {a b c:Pt}:fB a b c=0↔ar a b c=0:=by
 unfold fB
 rw [lL]
 unfold cross Pt.sub ar
 rfl
theorem mj.of {R:List Pt} (hlo:3≤R.length) (hfl:∀ i,i<R.length→pi R i=false) (hcr:Av.crossB R=false):mj R:=by
 have ok:∀ {i},i<R.length→(b9 R i).ok:=fun hi e=>ss hlo hfl hi (c7.1 e)
 refine ⟨hlo,fun i hi=>by rw [←oC hi];exact ss hlo hfl hi,fun i hi=> ?_,fun i k hi hk hik h1 h2 hc=> ?_⟩
 ·have hf:=hfl (sc R.length i) (jF hi)
  unfold pi at hf
  have e:(sc R.length i+R.length-1)%R.length=i:=by
   unfold sc
   split
   ·rw [bA (by omega)];omega
   ·rw [show i+1+R.length-1=i+R.length by omega,Nat.add_mod_right,bA hi]
  rw [e,JE (jF hi),aG,xn] at hf
  exact hf
 ·have key:∀ i k,i<R.length→k<R.length→i<k→sc R.length i≠k→sc R.length k≠i→¬ez (R.getD i default) (R.getD (sc R.length i) default) (R.getD k default) (R.getD (sc R.length k) default):=by
   intro i k hi hk hlt h1 h2 hc
   have hx:=Bv hcr hi hk
   unfold mw at hx
   rw [←oC hi,←oC hk] at hc
   have hm:(iI (b9 R i) (b9 R k)).isSome=true:=Dr (ok hi) (ok hk) hc
   rw [hm,an (show i+2≤k by unfold sc at h1;split at h1<;>omega)] at hx
   simp only [Bool.true_and,Bool.and_true,Bool.not_eq_false',Bool.and_eq_true,aE] at hx
   apply h2
   unfold sc
   rw [if_pos (by omega)]
   exact hx.1.symm
  rcases am i k with hlt|hge
  ·exact key i k hi hk hlt h1 h2 hc
  ·exact key k i hk hi (by omega) h2 h1 hc.symm
theorem jo.good {R:List Pt} (h:jo R):mj R:=mj.of h.lo h.flat h.cross
theorem mj.keep {l:List Pt} (h:mj l):Ka l:=by
 intro i hi
 have hlo:=h.lo
 refine ⟨by rw [oC hi];exact h.ne i hi,?_⟩
 obtain ⟨j,hj,hs,e⟩:∃ j,j<l.length∧sc l.length j=i∧(i+l.length-1)%l.length=j:=by
  rcases Nat.eq_zero_or_pos i with h0|h0
  ·refine ⟨l.length-1,by omega,?_,?_⟩
   ·unfold sc;rw [if_pos (by omega),h0]
   ·rw [h0,bA (by omega)];omega
  ·refine ⟨i-1,by omega,?_,?_⟩
   ·unfold sc;rw [if_neg (by omega)];omega
   ·rw [show i+l.length-1=i-1+l.length by omega,Nat.add_mod_right,bA (by omega)]
 unfold pi
 rw [e,JE hi,aG,xn]
 have:=h.fl j hj
 rw [hs] at this
 exact this
theorem mj.crossB {l:List Pt} (h:mj l):crossB l=false:=by
 have hlo:=h.lo
 refine wO fun i hi k hk=> ?_
 unfold mw
 by_cases h2:i+2≤k
 ·rw [an h2,Bool.true_and]
  by_cases h3:i=0∧k=l.length-1
  ·rw [an h3.1,an h3.2];rfl
  ·have hc:=h.cr i k hi hk (by omega) (by unfold sc;split<;>omega) (by unfold sc;split<;>omega)
   have hm:¬(iI (b9 l i) (b9 l k)).isSome=true:=fun hm=>hc (by
    have:=yr hm
    simp only [b9,oC hi,oC hk] at this
    exact this)
   rw [Bool.not_eq_true] at hm
   rw [hm,Bool.and_false]
 ·rw [ak h2,Bool.false_and]
theorem lA {l:List Pt} {i:Nat} (h:i<l.length):(rot1 l).getD i default=l.getD (sc l.length i) default:=by rw [K9 h,JE h]
theorem mj.rot1 {l:List Pt} (h:mj l):mj (rot1 l):=by
 have hn:=lO l
 refine ⟨by rw [hn];exact h.lo,fun i hi=> ?_,fun i hi=> ?_,fun i k hi hk h0 h1 h2=> ?_⟩
 ·rw [hn] at hi ⊢
  rw [lA hi,lA (jF hi)]
  exact h.ne _ (jF hi)
 ·rw [hn] at hi ⊢
  rw [lA hi,lA (jF hi),lA (jF (jF hi))]
  exact h.fl _ (jF hi)
 ·rw [hn] at hi hk h1 h2 ⊢
  rw [lA hi,lA (jF hi),lA hk,lA (jF hk)]
  refine h.cr _ _ (jF hi) (jF hk) ?_ ?_ ?_
  ·unfold sc;split<;>split<;>omega
  ·intro e;apply h1;unfold sc at e ⊢;split at e<;>split at e<;>split at e<;>split<;>omega
  ·intro e;apply h2;unfold sc at e ⊢;split at e<;>split at e<;>split at e<;>split<;>omega
theorem K6 (l:List Pt):zh l 0=l:=by simp [zh]
theorem K7 {l:List Pt} {r:Nat} (h:r<l.length):zh l (r+1)=rot1 (zh l r):=by
 unfold zh
 rw [List.drop_eq_getElem_cons h,List.cons_append]
 show _=_++_
 rw [bE,List.take_append_getElem h]
theorem v6 (Q:List Pt→Prop) (h1:∀ l,Q l→Q (rot1 l)) {l:List Pt} (h0:Q l):∀ r,r≤l.length→Q (zh l r)
 |0,_=>by rw [K6];exact h0
 |r+1,h=>by rw [K7 (by omega)];exact h1 _ (v6 Q h1 h0 r (by omega))
theorem Ge {l:List Pt} {r:Nat} (h:r≤l.length):(zh l r).length=l.length:=by unfold zh;simp;omega
theorem mj.rev {l:List Pt} (h:mj l):mj l.reverse:=by
 have hn:l.reverse.length=l.length:=List.length_reverse
 have hlo:=h.lo
 have g:∀ i,i<l.length→l.reverse.getD i default=l.getD (l.length-1-i) default:=fun i hi=>s8 hi
 have s:∀ i,i<l.length→sc l.length (l.length-1-sc l.length i)=l.length-1-i:=by
  intro i hi;unfold sc;split<;>split<;>omega
 have b:∀ i,l.length-1-i<l.length:=fun i=>by omega
 refine ⟨by rw [hn];exact hlo,fun i hi=> ?_,fun i hi=> ?_,fun i k hi hk h0 h1 h2 hc=> ?_⟩
 ·rw [hn] at hi ⊢
  rw [g _ hi,g _ (jF hi),←s i hi]
  exact (h.ne _ (b _)).symm
 ·rw [hn] at hi ⊢
  rw [g _ hi,g _ (jF hi),g _ (jF (jF hi))]
  have:=h.fl _ (b (sc l.length (sc l.length i)))
  rw [s _ (jF hi),s _ hi] at this
  intro e
  apply this
  unfold ar at e ⊢
  grind
 ·rw [hn] at hi hk h1 h2 hc
  rw [g _ hi,g _ (jF hi),g _ hk,g _ (jF hk),←s i hi,←s k hk] at hc
  refine h.cr (l.length-1-sc l.length i) (l.length-1-sc l.length k) (b _) (b _) ?_ ?_ ?_ hc.rev1.rev2
  ·intro e;apply h0;unfold sc at e;split at e<;>split at e<;>omega
  ·rw [s i hi];intro e;apply h2;have:=jF hk;omega
  ·rw [s k hk];intro e;apply h1;have:=jF hi;omega
def oi:List Sg→Rat
 |[]=>0
 |s::t=>cross s.a s.b+oi t
theorem qj (a b:List Sg):oi (a++b)=oi a+oi b:=by
 induction a with
 |nil=>simp only [List.nil_append,oi];grind
 |cons s t ih=>simp only [List.cons_append,oi,ih];grind
theorem O8 (a:List Sg):oi a.reverse=oi a:=by
 induction a with
 |nil=>rfl
 |cons s t ih=>rw [List.reverse_cons,qj,ih];simp only [oi];grind
theorem Bn (a:List Sg):oi (a.map Sg.rev)= -oi a:=by
 induction a with
 |nil=>rfl
 |cons s t ih=>simp only [aY,oi,ih,Sg.rev,cross];grind
theorem y6 (L:List Pt):∀ i,mY L i=oi ((List.range i).map (b9 L))
 |0=>rfl
 |i+1=>by
  rw [List.range_succ,bz,qj,←y6 L i]
  simp only [mY,aY,List.map_nil,oi,b9]
  grind
theorem l9 (L:List Pt):jB L=oi (aU L)/2:=by unfold jB aU;rw [y6]
theorem Mr {l:List Pt} (h:1≤l.length):jB (rot1 l)=jB l:=by
 rw [l9,l9]
 congr 1
 unfold aU
 rw [lO]
 have e:∀ i,i<l.length→b9 (rot1 l) i=b9 l (sc l.length i):=by
  intro i hi
  unfold b9
  rw [oC (by rw [lO];exact hi),oC (jF hi),lO,lA hi,lA (jF hi)]
 obtain ⟨m,hm⟩:∃ m,l.length=m+1:=⟨l.length-1,by omega⟩
 rw [hm] at e ⊢
 rw [List.range_succ,bz,qj,←List.range_succ,List.range_succ_eq_map]
 simp only [aY,List.map_nil,List.map_map,oi]
 rw [e m (by omega),show sc (m+1) m=0 by unfold sc;rw [if_pos rfl]]
 have:(List.range m).map (b9 (rot1 l))=(List.range m).map (b9 l∘Nat.succ):=by
  refine List.map_congr_left fun i hi=> ?_
  have hi:=dz.1 hi
  rw [e i (by omega)]
  unfold sc
  rw [if_neg (by omega)]
  rfl
 rw [this]
 grind
theorem C2 {α:Type} (f:Nat→α) (m:Nat):(List.range m).map (fun i=>f (m-1-i))=((List.range m).map f).reverse:=by
 refine List.ext_getElem (by simp) fun i h1 h2=> ?_
 simp
theorem PB {l:List Pt} (h:1≤l.length):jB l.reverse= -jB l:=by
 rw [l9,l9]
 have hn:l.reverse.length=l.length:=List.length_reverse
 have e:∀ i,i<l.length→b9 l.reverse i=(b9 l (l.length-1-sc l.length i)).rev:=by
  intro i hi
  have s:sc l.length (l.length-1-sc l.length i)=l.length-1-i:=by unfold sc;split<;>split<;>omega
  unfold b9 Sg.rev
  rw [oC (by rw [hn];exact hi),oC (by omega),hn,s8 hi,s8 (jF hi),s]
 have k:oi (aU l.reverse)= -oi (aU l):=by
  rw [←Bn]
  unfold aU
  rw [hn]
  obtain ⟨m,hm⟩:∃ m,l.length=m+1:=⟨l.length-1,by omega⟩
  rw [hm] at e ⊢
  rw [List.range_succ,bz,qj,bz,bz,qj]
  have:(List.range m).map (b9 l.reverse)=((List.range m).map fun i=>(b9 l i).rev).reverse:=by
   rw [←C2]
   refine List.map_congr_left fun i hi=> ?_
   have hi:=dz.1 hi
   rw [e i (by omega),show m+1-1-sc (m+1) i=m-1-i by unfold sc;split<;>omega]
  rw [this,O8]
  simp only [aY,List.map_nil,List.map_map]
  rw [e m (by omega),show m+1-1-sc (m+1) m=m by unfold sc;split<;>omega]
  rfl
 rw [k]
 grind
theorem jo.chk {R:List Pt} (h:jo R):0<jB R∧gA R R.length=0:=by
 have hk:=h.ok
 unfold Fu at hk
 split at hk
 ·omega
 split at hk
 ·omega
 split at hk
 ·omega
 ·rename_i hx
  refine ⟨?_,?_⟩
  ·refine Rat.not_le.1 fun hle=>hx (.inl (sE.2 hle))
  ·exact Decidable.of_not_not fun hne=>hx (.inr hne)
theorem jo.areaPos {R:List Pt} (h:jo R):0<jB R:=h.chk.1
theorem jo.least {R:List Pt} (h:jo R):gA R R.length=0:=h.chk.2
theorem wu {L:List Pt}:∀ i,∀ j,j<i→bO (L.getD (gA L i) default) (L.getD j default)≤0
 |0,j,h=>by omega
 |i+1,j,h=>by
  have ih:=fun j h=>wu (L:=L) i j h
  unfold gA
  split
  ·rename_i hc
   rcases am j i with h1|h1
   ·exact je (by omega) (ih j h1)
   ·have:j=i:=by omega
    rw [this];exact Int.le_of_eq (iZ _)
  ·rename_i hc
   rcases am j i with h1|h1
   ·exact ih j h1
   ·have:j=i:=by omega
    rw [this]
    rcases l8 (L.getD (gA L i) default) (L.getD i default) with h|h
    ·exact h
    ·have:bO (L.getD i default) (L.getD (gA L i) default)=0:=by omega
     rw [c7.1 this];exact Int.le_of_eq (iZ _)
theorem K8 {l:List Pt} {r i:Nat} (hr:r≤l.length) (hi:i<l.length):(zh l r).getD i default=if i<l.length-r then l.getD (r+i) default else l.getD (i-(l.length-r)) default:=by
 unfold zh
 rw [ae]
 split
 ·rw [bB (by rw [pC];omega),List.getElem?_drop,←ae]
 ·rw [bv (by rw [pC];omega),pC,List.getElem?_take_of_lt (by omega),←ae]
end Go.Av
namespace Go.Av
def bV (f:Sg→Bool):List Sg→Bool
 |[]=>false
 |s::t=>f s^^bV f t
theorem kn (f:Sg→Bool) (a b:List Sg):bV f (a++b)=(bV f a^^bV f b):=by
 induction a with
 |nil=>simp [bV]
 |cons s t ih=>simp only [List.cons_append,bV,ih,Bool.xor_assoc]
theorem oE {f:Sg→Bool} {a b:List Sg} (h:a.Perm b):bV f a=bV f b:=by
 induction h with
 |nil=>rfl
 |cons s _ ih=>simp only [bV,ih]
 |swap s t l=>simp only [bV];rw [←Bool.xor_assoc,←Bool.xor_assoc,Bool.xor_comm (f t)]
 |trans _ _ h1 h2=>exact h1.trans h2
theorem m6 (f g:Sg→Bool) (a:List Sg):bV (fun s=>f s^^g s) a=(bV f a^^bV g a):=by
 induction a with
 |nil=>rfl
 |cons s t ih=>
  simp only [bV,ih]
  cases f s<;>cases g s<;>cases bV f t<;>cases bV g t<;>rfl
theorem jl {f g:Sg→Bool} {a:List Sg} (h:∀ s∈a,f s=g s):bV f a=bV g a:=by
 induction a with
 |nil=>rfl
 |cons s t ih=>simp only [bV,h s (ah ..),ih fun s hs=>h s (ag _ hs)]
theorem sT (f:Sg→Bool) (g:Sg→Sg) (a:List Sg):bV f (a.map g)=bV (fun s=>f (g s)) a:=by
 induction a with
 |nil=>rfl
 |cons s t ih=>simp only [aY,bV,ih]
def Id (w:Pt→Bool):List Pt→Bool
 |[]=>false
 |p::t=>w p^^Id w t
theorem C3 {w:Pt→Bool} {a b:List Pt} (h:a.Perm b):Id w a=Id w b:=by
 induction h with
 |nil=>rfl
 |cons s _ ih=>simp only [Id,ih]
 |swap s t l=>simp only [Id];rw [←Bool.xor_assoc,←Bool.xor_assoc,Bool.xor_comm (w t)]
 |trans _ _ h1 h2=>exact h1.trans h2
theorem wg (w:Pt→Bool) (g:Sg→Pt) (a:List Sg):Id w (a.map g)=bV (fun s=>w (g s)) a:=by
 induction a with
 |nil=>rfl
 |cons s t ih=>simp only [aY,Id,bV,ih]
theorem wX (w:Pt→Bool) (L:List Pt):bV (fun s=>w s.a^^w s.b) (aU L)=false:=by
 rw [m6,←wg w Sg.a,←wg w Sg.b,qk,C3 (tT L),Bool.xor_self]
theorem iw (L:List Pt) (p:Pt):bW L p L.length=bV (fun s=>cr p s.a s.b) (aU L):=by
 have:∀ i,bW L p i=bV (fun s=>cr p s.a s.b) ((List.range i).map (b9 L)):=by
  intro i
  induction i with
  |zero=>rfl
  |succ i ih=>
   rw [List.range_succ,bz,kn,←ih]
   simp only [bW,aY,List.map_nil,bV,Bool.xor_false,b9]
   exact vi ..
 exact this _
def xg (g:Pt→Rat):List Pt→Rat
 |[]=>0
 |p::t=>g p+xg g t
theorem C0 {g:Pt→Rat} {a b:List Pt} (h:a.Perm b):xg g a=xg g b:=by
 induction h with
 |nil=>rfl
 |cons s _ ih=>simp only [xg,ih]
 |swap s t l=>simp only [xg];grind
 |trans _ _ h1 h2=>exact h1.trans h2
theorem nq {L:List Pt} {s:Sg} (h:s∈aU L):∃ j,j<L.length∧s=b9 L j:=by
 obtain ⟨j,hj,rfl⟩:=av.1 h
 exact ⟨j,dz.1 hj,rfl⟩
theorem mL (p u v:Pt):cr p u v=cr p v u:=by
 unfold cr
 by_cases h1:u.y≤v.y
 ·by_cases h2:v.y≤u.y
  ·have e:u.y=v.y:=by grind
   have k1:¬crU p u v:=fun k=>by have:=k.1;have:=k.2.1;grind
   have k2:¬crU p v u:=fun k=>by have:=k.1;have:=k.2.1;grind
   rw [if_pos h1,if_pos h2,ak k1,ak k2]
  ·rw [if_pos h1,if_neg h2]
 ·rw [if_neg h1,if_pos (ai (Rat.not_le.1 h1))]
theorem IQ (l:List Pt):(aU (rot1 l)).Perm (aU l):=by
 rcases Nat.eq_zero_or_pos l.length with h0|h0
 ·have:l=[]:=List.length_eq_zero_iff.1 h0
  subst this
  exact List.Perm.refl _
 unfold aU
 rw [lO]
 have e:∀ i,i<l.length→b9 (rot1 l) i=b9 l (sc l.length i):=by
  intro i hi
  unfold b9
  rw [oC (by rw [lO];exact hi),oC (jF hi),lO,lA hi,lA (jF hi)]
 obtain ⟨m,hm⟩:∃ m,l.length=m+1:=⟨l.length-1,by omega⟩
 rw [hm] at e ⊢
 have e1:(List.range (m+1)).map (b9 (rot1 l))=(List.range m).map (b9 l∘Nat.succ)++[b9 l 0]:=by
  rw [List.range_succ,bz]
  congr 1
  ·refine List.map_congr_left fun i hi=> ?_
   have hi:=dz.1 hi
   rw [e i (by omega)]
   unfold sc
   rw [if_neg (by omega)]
   rfl
  ·simp only [aY,List.map_nil]
   rw [e m (by omega),show sc (m+1) m=0 by unfold sc;rw [if_pos rfl]]
 rw [e1,List.range_succ_eq_map,aY,List.map_map]
 exact List.perm_append_singleton ..
theorem LZ (l:List Pt):(aU l.reverse).Perm ((aU l).map Sg.rev):=by
 have hn:l.reverse.length=l.length:=List.length_reverse
 rcases Nat.eq_zero_or_pos l.length with h0|h0
 ·have:l=[]:=List.length_eq_zero_iff.1 h0
  subst this
  exact List.Perm.refl _
 have e:∀ i,i<l.length→b9 l.reverse i=(b9 l (l.length-1-sc l.length i)).rev:=by
  intro i hi
  have s:sc l.length (l.length-1-sc l.length i)=l.length-1-i:=by unfold sc;split<;>split<;>omega
  unfold b9 Sg.rev
  rw [oC (by rw [hn];exact hi),oC (by omega),hn,s8 hi,s8 (jF hi),s]
 unfold aU
 rw [hn]
 obtain ⟨m,hm⟩:∃ m,l.length=m+1:=⟨l.length-1,by omega⟩
 rw [hm] at e ⊢
 rw [List.range_succ,bz,bz,bz]
 refine List.Perm.append ?_ ?_
 ·have:(List.range m).map (b9 l.reverse)=(((List.range m).map (b9 l)).map Sg.rev).reverse:=by
   rw [List.map_map,←C2]
   refine List.map_congr_left fun i hi=> ?_
   have hi:=dz.1 hi
   rw [e i (by omega),show m+1-1-sc (m+1) i=m-1-i by unfold sc;split<;>omega]
   rfl
  rw [this]
  exact List.reverse_perm _
 ·simp only [aY,List.map_nil]
  rw [e m (by omega),show m+1-1-sc (m+1) m=m by unfold sc;split<;>omega]
structure Aff where
 a:Rat
 b:Rat
 c:Rat
 d:Rat
 e:Rat
 f:Rat
def Aff.ap (t:Aff) (p:Pt):Pt:=⟨t.a*p.x+t.b*p.y+t.e,t.c*p.x+t.d*p.y+t.f⟩
def Aff.det (t:Aff):Rat:=t.a*t.d-t.b*t.c
theorem Hz (t:Aff) (u v p:Pt):ar (t.ap u) (t.ap v) (t.ap p)=t.det*ar u v p:=by unfold ar Aff.ap Aff.det;grind
theorem yw (t:Aff) (u v:Pt) (m:Rat):pt (t.ap u) (t.ap v) m=t.ap (pt u v m):=by
 refine Pt.ext ?_ ?_<;>(unfold pt Aff.ap;simp only;grind)
theorem ra {t:Aff} (h:t.det≠0) {p q:Pt} (e:t.ap p=t.ap q):p=q:=by
 have e1:=congrArg Pt.x e
 have e2:=congrArg Pt.y e
 simp only [Aff.ap] at e1 e2
 unfold Aff.det at h
 refine Pt.ext ?_ ?_
 ·have:(t.a*t.d-t.b*t.c)*(p.x-q.x)=0:=by grind
  grind
 ·have:(t.a*t.d-t.b*t.c)*(p.y-q.y)=0:=by grind
  grind
theorem lD {t:Aff} (h:t.det≠0) {u v p:Pt}:aJ (t.ap u) (t.ap v) (t.ap p)↔aJ u v p:=by
 constructor
 ·rintro ⟨m,h0,h1,e⟩
  rw [yw] at e
  exact ⟨m,h0,h1,ra h e⟩
 ·rintro ⟨m,h0,h1,rfl⟩
  exact ⟨m,h0,h1,(yw ..).symm⟩
theorem x8 {t:Aff} (h:t.det≠0) {a b u v:Pt}:ez (t.ap a) (t.ap b) (t.ap u) (t.ap v)↔ez a b u v:=by
 constructor
 ·rintro ⟨p,⟨m,h0,h1,rfl⟩,⟨k,k0,k1,e⟩⟩
  rw [yw,yw] at e
  exact ⟨pt a b m,⟨m,h0,h1,rfl⟩,⟨k,k0,k1,ra h e⟩⟩
 ·rintro ⟨p,h1,h2⟩
  exact ⟨t.ap p,(lD h).2 h1,(lD h).2 h2⟩
theorem lF {l:List Pt} {g:Pt→Pt} {i:Nat} (h:i<l.length):(l.map g).getD i default=g (l.getD i default):=by
 rw [ae,aW,ae,af h];rfl
theorem mj.map {l:List Pt} (h:mj l) {t:Aff} (ht:t.det≠0):mj (l.map t.ap):=by
 have hn:(l.map t.ap).length=l.length:=az ..
 refine ⟨by rw [hn];exact h.lo,fun i hi=> ?_,fun i hi=> ?_,fun i k hi hk h0 h1 h2=> ?_⟩
 ·rw [hn] at hi ⊢
  rw [lF hi,lF (jF hi)]
  exact fun e=>h.ne i hi (ra ht e)
 ·rw [hn] at hi ⊢
  rw [lF hi,lF (jF hi),lF (jF (jF hi)),Hz]
  have:=h.fl i hi
  intro e
  rcases br.1 e with e|e
  ·exact ht e
  ·exact this e
 ·rw [hn] at hi hk h1 h2 ⊢
  rw [lF hi,lF (jF hi),lF hk,lF (jF hk),x8 ht]
  exact h.cr i k hi hk h0 h1 h2
def Sg.map (s:Sg) (g:Pt→Pt):Sg:=⟨g s.a,g s.b⟩
theorem l7 (l:List Pt) (g:Pt→Pt):aU (l.map g)=(aU l).map fun s=>s.map g:=by
 unfold aU
 rw [az,List.map_map]
 refine List.map_congr_left fun i hi=> ?_
 have hi:=dz.1 hi
 unfold b9 Sg.map
 simp only [Function.comp]
 rw [oC (by rw [az];exact hi),oC hi,az,lF hi,lF (jF hi)]
theorem FA (l:List Pt) (t:Aff):jB (l.map t.ap)=t.det*jB l:=by
 rw [l9,l9,l7]
 have key:∀ E:List Sg,oi (E.map fun s=>s.map t.ap)=t.det*oi E+(xg (fun p=>t.e*(t.c*p.x+t.d*p.y)-t.f*(t.a*p.x+t.b*p.y)) (E.map Sg.b)-xg (fun p=>t.e*(t.c*p.x+t.d*p.y)-t.f*(t.a*p.x+t.b*p.y)) (E.map Sg.a)):=by
  intro E
  induction E with
  |nil=>simp only [List.map_nil,oi,xg];grind
  |cons s E ih=>
   simp only [aY,oi,xg,ih]
   unfold Sg.map Aff.ap cross Aff.det
   try simp only
   grind
 rw [key,qk,C0 (tT l)]
 grind
def Par (t:Aff):Prop:=t.det≠0∧∀ (L:List Pt) (p:Pt),(∀ s∈aU L,¬aJ s.a s.b p)→bW (L.map t.ap) (t.ap p) (L.map t.ap).length=bW L p L.length
theorem Par.of {t:Aff} (h:t.det≠0) (hc:∀ (L:List Pt) (p:Pt),(∀ s∈aU L,¬aJ s.a s.b p)→bV (fun s=>cr (t.ap p) (t.ap s.a) (t.ap s.b)) (aU L)=bV (fun s=>cr p s.a s.b) (aU L)):Par t:=
 ⟨h,fun L p hp=>by rw [iw,iw,l7,sT];exact hc L p hp⟩
theorem Lw {t:Aff} (hc:t.c=0) (ha:0<t.a) (hd:0<t.d):Par t:=by
 have hpos:0<t.det:=by
  have:=au ha hd
  unfold Aff.det;rw [hc];grind
 refine .of (fun e=>by rw [e] at hpos;exact absurd hpos aL) fun L p _=>jl fun s _=> ?_
 have ly:∀ u v:Pt,(t.ap u).y≤(t.ap v).y↔u.y≤v.y:=by
  intro u v
  unfold Aff.ap
  simp only [hc]
  constructor
  ·intro h
   refine Rat.not_lt.1 fun k=> ?_
   have:=au hd (show 0<u.y-v.y by grind)
   grind
  ·intro h
   have:=aj (ai hd) (show 0≤v.y-u.y by grind)
   grind
 have cu:∀ u v:Pt,decide (crU (t.ap p) (t.ap u) (t.ap v))=decide (crU p u v):=by
  intro u v
  rw [decide_eq_decide]
  unfold crU
  rw [Hz,ju hpos,ly,←Rat.not_le,ly,Rat.not_le]
 unfold cr
 rw [cu,cu]
 by_cases h:s.a.y≤s.b.y
 ·rw [if_pos h,if_pos ((ly _ _).2 h)]
 ·rw [if_neg h,if_neg (fun k=>h ((ly _ _).1 k))]
theorem Par.comp {t s r:Aff} (ht:Par t) (hs:Par s) (hr:∀ p,r.ap p=s.ap (t.ap p)) (hd:r.det≠0):Par r:=by
 refine ⟨hd,fun L p hp=> ?_⟩
 have e:L.map r.ap=(L.map t.ap).map s.ap:=by rw [List.map_map];exact List.map_congr_left fun p _=>hr p
 rw [e,hr,hs.2 (L.map t.ap) (t.ap p) ?_,ht.2 L p hp]
 intro g hg
 rw [l7] at hg
 obtain ⟨g0,h0,rfl⟩:=av.1 hg
 exact fun k=>hp g0 h0 ((lD ht.1).1 k)
end Go.Av
namespace Go.Av
theorem qH {p u v:Pt} (h1:¬p.y<u.y) (h2:p.y<v.y):cr p u v=decide (0<ar u v p):=by
 have h1:=Rat.not_lt.1 h1
 unfold cr
 rw [if_pos (by grind),decide_eq_decide]
 exact ⟨fun k=>k.2.2,fun k=>⟨h1,h2,k⟩⟩
theorem sM {p u v:Pt} (h1:p.y<u.y) (h2:¬p.y<v.y):cr p u v=decide (ar u v p<0):=by
 rw [mL,qH h2 h1,decide_eq_decide,mZ]
 constructor<;>intro h<;>grind
theorem po {p u v:Pt} (h1:¬p.y<u.y) (h2:¬p.y<v.y):cr p u v=false:=by
 unfold cr
 split
 ·exact ak fun k=>h2 k.2.1
 ·exact ak fun k=>h1 k.2.1
theorem pu {p u v:Pt} (h1:p.y<u.y) (h2:p.y<v.y):cr p u v=false:=by
 unfold cr
 split
 ·exact ak fun k=>by have:=k.1;grind
 ·exact ak fun k=>by have:=k.1;grind
def sw:Aff:=⟨0,1,1,0,0,0⟩
theorem uP (p:Pt):(sw.ap p).y=p.x:=by unfold Aff.ap sw;simp only;grind
theorem MS:sw.det= -1:=by unfold Aff.det sw;simp only;grind
theorem RA (u v p:Pt):ar (sw.ap u) (sw.ap v) (sw.ap p)= -ar u v p:=by rw [Hz,MS];grind
theorem Js {p u v:Pt} (h1:¬p.x<u.x) (h2:p.x<v.x):cr (sw.ap p) (sw.ap u) (sw.ap v)=decide (ar u v p<0):=by
 rw [qH (by rw [uP,uP];exact h1) (by rw [uP,uP];exact h2),RA,decide_eq_decide]
 constructor<;>intro h<;>grind
theorem Jv {p u v:Pt} (h1:p.x<u.x) (h2:¬p.x<v.x):cr (sw.ap p) (sw.ap u) (sw.ap v)=decide (0<ar u v p):=by
 rw [sM (by rw [uP,uP];exact h1) (by rw [uP,uP];exact h2),RA,decide_eq_decide]
 constructor<;>intro h<;>grind
theorem Jt {p u v:Pt} (h1:¬p.x<u.x) (h2:¬p.x<v.x):cr (sw.ap p) (sw.ap u) (sw.ap v)=false:=po (by rw [uP,uP];exact h1) (by rw [uP,uP];exact h2)
theorem Ju {p u v:Pt} (h1:p.x<u.x) (h2:p.x<v.x):cr (sw.ap p) (sw.ap u) (sw.ap v)=false:=pu (by rw [uP,uP];exact h1) (by rw [uP,uP];exact h2)
def qe (p q:Pt):Bool:=decide (p.x<q.x)&&decide (p.y<q.y)
theorem PE (u v p:Pt):ar u v p=(v.x-p.x)*(p.y-u.y)-(v.y-p.y)*(p.x-u.x):=by unfold ar;grind
theorem nlt {p q:Rat} (h:¬p<q):0≤p-q:=by have:=Rat.not_lt.1 h;grind
theorem KS {p u v:Pt} (h:¬aJ u v p):(cr p u v^^cr (sw.ap p) (sw.ap u) (sw.ap v))=(qe p u^^qe p v):=by
 have hs:=PE u v p
 by_cases ux:p.x<u.x
 ·have B:0<u.x-p.x:=by grind
  by_cases uy:p.y<u.y
  ·have D:0<u.y-p.y:=by grind
   by_cases vx:p.x<v.x
   ·have A:0<v.x-p.x:=by grind
    by_cases vy:p.y<v.y
    ·rw [pu uy vy,Ju ux vx];simp [qe,ux,uy,vx,vy]
    ·have C:=nlt vy
     have k1:=au A D
     have k2:=aj C (ai B)
     have k:ar u v p<0:=by grind
     rw [sM uy vy,Ju ux vx];simp [qe,ux,uy,vx,vy,k]
   ·have A:=nlt vx
    by_cases vy:p.y<v.y
    ·have C:0<v.y-p.y:=by grind
     have k1:=aj A (ai D)
     have k2:=au C B
     have k:0<ar u v p:=by grind
     rw [pu uy vy,Jv ux vx];simp [qe,ux,uy,vx,vy,k]
    ·have ne:ar u v p≠0:=fun e=>h (cH (nW (by grind) (by rw [mZ,e];grind) (Rat.not_lt.1 vy) (ai uy)))
     rw [sM uy vy,Jv ux vx]
     rcases eH (ar u v p) 0 with k|k|k
     ·have k':¬0<ar u v p:=by grind
      simp [qe,ux,uy,vx,vy,k,k']
     ·exact absurd k ne
     ·have k':¬ar u v p<0:=by grind
      simp [qe,ux,uy,vx,vy,k,k']
  ·have D:=nlt uy
   by_cases vx:p.x<v.x
   ·have A:0<v.x-p.x:=by grind
    by_cases vy:p.y<v.y
    ·have C:0<v.y-p.y:=by grind
     have k1:=aj (ai A) D
     have k2:=au C B
     have k:0<ar u v p:=by grind
     rw [qH uy vy,Ju ux vx];simp [qe,ux,uy,vx,vy,k]
    ·rw [po uy vy,Ju ux vx];simp [qe,ux,uy,vx,vy]
   ·have A:=nlt vx
    by_cases vy:p.y<v.y
    ·rw [qH uy vy,Jv ux vx];simp [qe,ux,uy,vx,vy]
    ·have C:=nlt vy
     have k1:=aj A D
     have k2:=aj C (ai B)
     have k:¬0<ar u v p:=by grind
     rw [po uy vy,Jv ux vx];simp [qe,ux,uy,vx,vy,k]
 ·have B:=nlt ux
  by_cases uy:p.y<u.y
  ·have D:0<u.y-p.y:=by grind
   by_cases vx:p.x<v.x
   ·have A:0<v.x-p.x:=by grind
    by_cases vy:p.y<v.y
    ·have C:0<v.y-p.y:=by grind
     have k1:=au A D
     have k2:=aj (ai C) B
     have k:ar u v p<0:=by grind
     rw [pu uy vy,Js ux vx];simp [qe,ux,uy,vx,vy,k]
    ·rw [sM uy vy,Js ux vx];simp [qe,ux,uy,vx,vy]
   ·have A:=nlt vx
    by_cases vy:p.y<v.y
    ·rw [pu uy vy,Jt ux vx];simp [qe,ux,uy,vx,vy]
    ·have C:=nlt vy
     have k1:=aj A (ai D)
     have k2:=aj C B
     have k:¬ar u v p<0:=by grind
     rw [sM uy vy,Jt ux vx];simp [qe,ux,uy,vx,vy,k]
  ·have D:=nlt uy
   by_cases vx:p.x<v.x
   ·have A:0<v.x-p.x:=by grind
    by_cases vy:p.y<v.y
    ·have ne:ar u v p≠0:=fun e=>h (nW (by grind) e (Rat.not_lt.1 uy) (ai vy))
     rw [qH uy vy,Js ux vx]
     rcases eH (ar u v p) 0 with k|k|k
     ·have k':¬0<ar u v p:=by grind
      simp [qe,ux,uy,vx,vy,k,k']
     ·exact absurd k ne
     ·have k':¬ar u v p<0:=by grind
      simp [qe,ux,uy,vx,vy,k,k']
    ·have C:=nlt vy
     have k1:=aj (ai A) D
     have k2:=aj C B
     have k:¬ar u v p<0:=by grind
     rw [po uy vy,Js ux vx];simp [qe,ux,uy,vx,vy,k]
   ·have A:=nlt vx
    by_cases vy:p.y<v.y
    ·have C:0<v.y-p.y:=by grind
     have k1:=aj A D
     have k2:=aj (ai C) B
     have k:¬0<ar u v p:=by grind
     rw [qH uy vy,Jt ux vx];simp [qe,ux,uy,vx,vy,k]
    ·rw [po uy vy,Jt ux vx];simp [qe,ux,uy,vx,vy]
theorem NU:Par sw:=by
 refine .of (by rw [MS];grind) fun L p hp=> ?_
 have e:bV (fun s=>cr p s.a s.b^^cr (sw.ap p) (sw.ap s.a) (sw.ap s.b)) (aU L)=false:=by
  rw [jl (g:=fun s=>qe p s.a^^qe p s.b) fun s hs=>KS (hp s hs)]
  exact wX (qe p) L
 rw [m6] at e
 revert e
 cases bV (fun s=>cr p s.a s.b) (aU L)<;>cases bV (fun s=>cr (sw.ap p) (sw.ap s.a) (sw.ap s.b)) (aU L)<;>simp
theorem Gx:(0:Rat)<1:=by decide+kernel
theorem Ql (k:Rat):Par ⟨1,k,0,1,0,0⟩:=Lw rfl Gx Gx
theorem EM (k:Rat):Par ⟨1,0,k,1,0,0⟩:=by
 have h1:Par ⟨0,1,1,k,0,0⟩:=(Ql k).comp NU (fun p=>by refine Pt.ext ?_ ?_<;>(unfold Aff.ap sw;simp only;grind)) (by unfold Aff.det;simp only;grind)
 exact NU.comp h1 (fun p=>by refine Pt.ext ?_ ?_<;>(unfold Aff.ap sw;simp only;grind)) (by unfold Aff.det;simp only;grind)
end Go.Av
