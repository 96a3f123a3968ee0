/- Helping texts: Me, Mf, Mg. -/
import Derived.Test.YtkmlhdfpcjkekaaGreatKMc
set_option linter.unusedSimpArgs false
set_option linter.unusedVariables false
set_option maxRecDepth 100000
set_option maxHeartbeats 16000000
namespace Go.Av
def startL (m:List Pt):List Pt:=m.drop (leastTo m m.length)++m.take (leastTo m m.length)
def canonL (l:List Pt):List Pt:=startL (if areaL l<0 then l.reverse else l)
def keepAll (l:List Pt):Prop:=∀ i,i<l.length→l.getD i default≠nx l i∧flatAt l i=false
def rotL (l:List Pt) (r:Nat):List Pt:=l.drop r++l.take r
theorem rev_getD {l:List Pt} {i:Nat} (h:i<l.length):l.reverse.getD i default=l.getD (l.length-1-i) default:=by
 rw [List.getD_eq_getElem?_getD,List.getElem?_reverse h,←List.getD_eq_getElem?_getD]
def rot1:List Pt→List Pt
 |[]=>[]
 |p::t=>t++[p]
theorem rot1_length (l:List Pt):(rot1 l).length=l.length:=by cases l<;>simp [rot1]
theorem rot1_getD {l:List Pt} {i:Nat} (h:i<l.length):(rot1 l).getD i default=l.getD ((i+1)%l.length) default:=by
 cases l with
 |nil=>simp at h
 |cons p t=>
  simp only [List.length_cons] at h ⊢
  unfold rot1
  rcases Nat.lt_or_ge i t.length with hlt|hge
  ·rw [Nat.mod_eq_of_lt (by omega),List.getD_cons_succ,List.getD_eq_getElem?_getD,List.getElem?_append_left hlt,←List.getD_eq_getElem?_getD]
  ·have:i=t.length:=by omega
   subst this
   rw [Nat.mod_self,List.getD_cons_zero,List.getD_eq_getElem?_getD,List.getElem?_append_right (Nat.le_refl _)]
   simp
def sc (n i:Nat):Nat:=if i+1=n then 0 else i+1
theorem sc_eq {n i:Nat} (h:i<n):(i+1)%n=sc n i:=by
 unfold sc
 split
 ·rename_i e;rw [e,Nat.mod_self]
 ·exact Nat.mod_eq_of_lt (by omega)
theorem sc_lt {n i:Nat} (h:i<n):sc n i<n:=by unfold sc;split<;>omega
theorem nx_sc {l:List Pt} {i:Nat} (h:i<l.length):nx l i=l.getD (sc l.length i) default:=by unfold nx;rw [sc_eq h]
structure Good (l:List Pt):Prop where
 lo:3≤l.length
 ne:∀ i,i<l.length→l.getD i default≠l.getD (sc l.length i) default
 fl:∀ i,i<l.length→ar (l.getD i default) (l.getD (sc l.length i) default) (l.getD (sc l.length (sc l.length i)) default)≠0
 cr:∀ i k,i<l.length→k<l.length→i≠k→sc l.length i≠k→sc l.length k≠i→¬Common (l.getD i default) (l.getD (sc l.length i) default) (l.getD k default) (l.getD (sc l.length k) default)
theorem Common.symm {a b u v:Pt} (h:Common a b u v):Common u v a b:=by obtain ⟨p,h1,h2⟩:=h;exact ⟨p,h2,h1⟩
theorem meet_some {s t:Sg} (hs:s.ok) (ht:t.ok) (h:Common s.a s.b t.a t.b):(meetM s t).isSome=true:=by
 obtain ⟨p,h1,h2⟩:=h
 obtain ⟨m,hm,_⟩:=meet_of hs ht h1 h2
 rw [hm];rfl
theorem unit_get {t:Rat} (h:unit t=true):0≤t∧t≤1:=by
 unfold unit at h
 simp only [Bool.and_eq_true,decide_eq_true_eq] at h
 exact ⟨cmpQ_nonneg.1 h.1,cmpQ_le.1 h.2⟩
theorem order_onSeg {s:Sg} {p:Pt} (hx:ar s.a s.b p=0) (h1:cmpP s.order.a p≤0) (h2:cmpP p s.order.b≤0):onSeg s.a s.b p:=by
 unfold Sg.order at h1 h2
 split at h1<;>rename_i h0
 ·rw [if_pos h0] at h2;exact onSeg_rev (onSeg_lex (by rw [ar_rev,hx];grind) h1 h2)
 ·rw [if_neg h0] at h2;exact onSeg_lex hx h1 h2
theorem greater_or (p q:Pt):greater p q=p∨greater p q=q:=by
 unfold greater
 split
 ·exact .inr rfl
 ·exact .inl rfl
theorem order_or (s:Sg):s.order.a=s.a∨s.order.a=s.b:=by
 unfold Sg.order
 split
 ·exact .inr rfl
 ·exact .inl rfl
theorem lesser_or (p q:Pt):lesser p q=p∨lesser p q=q:=by
 unfold lesser
 split
 ·exact .inl rfl
 ·exact .inr rfl
theorem order_orb (s:Sg):s.order.b=s.a∨s.order.b=s.b:=by
 unfold Sg.order
 split
 ·exact .inl rfl
 ·exact .inr rfl
theorem meet_mem {s t m:Sg} (h:meetM s t=some m):(onSeg s.a s.b m.a∧onSeg t.a t.b m.a)∧onSeg s.a s.b m.b∧onSeg t.a t.b m.b:=by
 unfold meetM at h
 split at h
 ·rename_i hok
  unfold meetS at h
  by_cases hd:cross s.dir t.dir=0
  ·rw [if_neg (show ¬cross s.dir t.dir≠0 from fun k=>k hd)] at h
   by_cases hw:cross s.dir (t.a.sub s.a)=0
   ·rw [if_neg (show ¬cross s.dir (t.a.sub s.a)≠0 from fun k=>k hw)] at h
    split at h
    ·cases h
    ·rename_i hc
     have hc:cmpP (greater s.order.a t.order.a) (lesser s.order.b t.order.b)≤0:=by omega
     have g1:cmpP s.order.a (greater s.order.a t.order.a)≤0∧cmpP t.order.a (greater s.order.a t.order.a)≤0:=by
      unfold greater
      split
      ·rename_i k;exact ⟨by omega,Int.le_of_eq (cmpP_self _)⟩
      ·rename_i k
       exact ⟨Int.le_of_eq (cmpP_self _),by rcases cmpP_le_total t.order.a s.order.a with h|h
                                            ·exact h
                                            ·have:cmpP s.order.a t.order.a=0:=by omega
                                             rw [cmpP_zero.1 this];exact Int.le_of_eq (cmpP_self _)⟩
     have g2:cmpP (lesser s.order.b t.order.b) s.order.b≤0∧cmpP (lesser s.order.b t.order.b) t.order.b≤0:=by
      unfold lesser
      split
      ·rename_i k;exact ⟨Int.le_of_eq (cmpP_self _),by omega⟩
      ·rename_i k
       exact ⟨by rcases cmpP_le_total t.order.b s.order.b with h|h
                 ·exact h
                 ·have:cmpP s.order.b t.order.b=0:=by omega
                  rw [cmpP_zero.1 this];exact Int.le_of_eq (cmpP_self _),Int.le_of_eq (cmpP_self _)⟩
     have hg:greater s.order.a t.order.a=s.a∨greater s.order.a t.order.a=s.b∨greater s.order.a t.order.a=t.a∨greater s.order.a t.order.a=t.b:=by
      rcases greater_or s.order.a t.order.a with e|e<;>rw [e]
      ·rcases order_or s with e|e<;>rw [e]
       ·exact .inl rfl
       ·exact .inr (.inl rfl)
      ·rcases order_or t with e|e<;>rw [e]
       ·exact .inr (.inr (.inl rfl))
       ·exact .inr (.inr (.inr rfl))
     have hl:lesser s.order.b t.order.b=s.a∨lesser s.order.b t.order.b=s.b∨lesser s.order.b t.order.b=t.a∨lesser s.order.b t.order.b=t.b:=by
      rcases lesser_or s.order.b t.order.b with e|e<;>rw [e]
      ·rcases order_orb s with e|e<;>rw [e]
       ·exact .inl rfl
       ·exact .inr (.inl rfl)
      ·rcases order_orb t with e|e<;>rw [e]
       ·exact .inr (.inr (.inl rfl))
       ·exact .inr (.inr (.inr rfl))
     have hsd:s.b.x-s.a.x≠0∨s.b.y-s.a.y≠0:=by
      by_cases hx:s.b.x-s.a.x=0
      ·right;intro hy;exact hok.1 (cmpP_zero.2 (Pt.ext (by grind) (by grind)))
      ·exact .inl hx
     have htd:t.b.x-t.a.x≠0∨t.b.y-t.a.y≠0:=by
      by_cases hx:t.b.x-t.a.x=0
      ·right;intro hy;exact hok.2 (cmpP_zero.2 (Pt.ext (by grind) (by grind)))
      ·exact .inl hx
     simp only [Sg.dir,cross,Pt.sub] at hd hw
     have a1:∀ p,(p=s.a∨p=s.b∨p=t.a∨p=t.b)→ar s.a s.b p=0:=by
      intro p hp
      rcases hp with rfl|rfl|rfl|rfl
      ·exact ar_l _ _
      ·exact ar_r _ _
      ·unfold ar;exact hw
      ·unfold ar;grind
     have a2:∀ p,(p=s.a∨p=s.b∨p=t.a∨p=t.b)→ar t.a t.b p=0:=by
      intro p hp
      rcases hp with rfl|rfl|rfl|rfl
      ·unfold ar;rcases hsd with h|h<;>grind
      ·unfold ar;rcases hsd with h|h<;>grind
      ·exact ar_l _ _
      ·exact ar_r _ _
     cases h
     exact ⟨⟨order_onSeg (a1 _ hg) g1.1 (cmpP_le_trans hc g2.1),order_onSeg (a2 _ hg) g1.2 (cmpP_le_trans hc g2.2)⟩,order_onSeg (a1 _ hl) (cmpP_le_trans g1.1 hc) g2.1,order_onSeg (a2 _ hl) (cmpP_le_trans g1.2 hc) g2.2⟩
   ·rw [if_pos (show cross s.dir (t.a.sub s.a)≠0 from hw)] at h;cases h
  ·rw [if_pos (show cross s.dir t.dir≠0 from hd)] at h
   split at h
   ·rename_i hu
    rw [Bool.and_eq_true] at hu
    obtain ⟨l0,l1⟩:=unit_get hu.1
    obtain ⟨k0,k1⟩:=unit_get hu.2
    cases h
    have e1:onSeg s.a s.b (s.a.at s.b (cross (t.a.sub s.a) t.dir/cross s.dir t.dir)):=⟨_,l0,l1,at_pt _ _ _⟩
    have e2:onSeg t.a t.b (s.a.at s.b (cross (t.a.sub s.a) t.dir/cross s.dir t.dir)):=by
     refine ⟨_,k0,k1,?_⟩
     rw [at_pt]
     clear hu l0 l1 k0 k1 e1
     refine Pt.ext ?_ ?_<;>(unfold pt;simp only [Sg.dir,cross,Pt.sub] at hd ⊢;grind)
    exact ⟨⟨e1,e2⟩,e1,e2⟩
   ·cases h
 ·cases h
theorem some_common {s t:Sg} (h:(meetM s t).isSome=true):Common s.a s.b t.a t.b:=by
 obtain ⟨m,hm⟩:=Option.isSome_iff_exists.1 h
 exact ⟨m.a,(meet_mem hm).1.1,(meet_mem hm).1.2⟩
theorem orient_ar {a b c:Pt}:orient a b c=0↔ar a b c=0:=by
 unfold orient
 rw [cmpQ_zero]
 unfold cross Pt.sub ar
 rfl
theorem Good.of {R:List Pt} (hlo:3≤R.length) (hfl:∀ i,i<R.length→flatAt R i=false) (hcr:Av.crossB R=false):Good R:=by
 have ok:∀ {i},i<R.length→(segOf R i).ok:=fun hi e=>flat_next_ne hlo hfl hi (cmpP_zero.1 e)
 refine ⟨hlo,fun i hi=>by rw [←nx_sc hi];exact flat_next_ne hlo hfl hi,fun i hi=> ?_,fun i k hi hk hik h1 h2 hc=> ?_⟩
 ·have hf:=hfl (sc R.length i) (sc_lt hi)
  unfold flatAt at hf
  have e:(sc R.length i+R.length-1)%R.length=i:=by
   unfold sc
   split
   ·rw [Nat.mod_eq_of_lt (by omega)];omega
   ·rw [show i+1+R.length-1=i+R.length by omega,Nat.add_mod_right,Nat.mod_eq_of_lt hi]
  rw [e,sc_eq (sc_lt hi),decide_eq_false_iff_not,orient_ar] at hf
  exact hf
 ·have key:∀ i k,i<R.length→k<R.length→i<k→sc R.length i≠k→sc R.length k≠i→¬Common (R.getD i default) (R.getD (sc R.length i) default) (R.getD k default) (R.getD (sc R.length k) default):=by
   intro i k hi hk hlt h1 h2 hc
   have hx:=crossB_get hcr hi hk
   unfold crossAt at hx
   rw [←nx_sc hi,←nx_sc hk] at hc
   have hm:(meetM (segOf R i) (segOf R k)).isSome=true:=meet_some (ok hi) (ok hk) hc
   rw [hm,decide_eq_true (show i+2≤k by unfold sc at h1;split at h1<;>omega)] at hx
   simp only [Bool.true_and,Bool.and_true,Bool.not_eq_false',Bool.and_eq_true,decide_eq_true_eq] at hx
   apply h2
   unfold sc
   rw [if_pos (by omega)]
   exact hx.1.symm
  rcases Nat.lt_or_ge i k with hlt|hge
  ·exact key i k hi hk hlt h1 h2 hc
  ·exact key k i hk hi (by omega) h2 h1 hc.symm
theorem Ring.good {R:List Pt} (h:Ring R):Good R:=Good.of h.lo h.flat h.cross
theorem Good.keep {l:List Pt} (h:Good l):keepAll l:=by
 intro i hi
 have hlo:=h.lo
 refine ⟨by rw [nx_sc hi];exact h.ne i hi,?_⟩
 obtain ⟨j,hj,hs,e⟩:∃ j,j<l.length∧sc l.length j=i∧(i+l.length-1)%l.length=j:=by
  rcases Nat.eq_zero_or_pos i with h0|h0
  ·refine ⟨l.length-1,by omega,?_,?_⟩
   ·unfold sc;rw [if_pos (by omega),h0]
   ·rw [h0,Nat.mod_eq_of_lt (by omega)];omega
  ·refine ⟨i-1,by omega,?_,?_⟩
   ·unfold sc;rw [if_neg (by omega)];omega
   ·rw [show i+l.length-1=i-1+l.length by omega,Nat.add_mod_right,Nat.mod_eq_of_lt (by omega)]
 unfold flatAt
 rw [e,sc_eq hi,decide_eq_false_iff_not,orient_ar]
 have:=h.fl j hj
 rw [hs] at this
 exact this
theorem Good.crossB {l:List Pt} (h:Good l):crossB l=false:=by
 have hlo:=h.lo
 refine crossB_false fun i hi k hk=> ?_
 unfold crossAt
 by_cases h2:i+2≤k
 ·rw [decide_eq_true h2,Bool.true_and]
  by_cases h3:i=0∧k=l.length-1
  ·rw [decide_eq_true h3.1,decide_eq_true h3.2];rfl
  ·have hc:=h.cr i k hi hk (by omega) (by unfold sc;split<;>omega) (by unfold sc;split<;>omega)
   have hm:¬(meetM (segOf l i) (segOf l k)).isSome=true:=fun hm=>hc (by
    have:=some_common hm
    simp only [segOf,nx_sc hi,nx_sc hk] at this
    exact this)
   rw [Bool.not_eq_true] at hm
   rw [hm,Bool.and_false]
 ·rw [decide_eq_false h2,Bool.false_and]
theorem rot1_get {l:List Pt} {i:Nat} (h:i<l.length):(rot1 l).getD i default=l.getD (sc l.length i) default:=by rw [rot1_getD h,sc_eq h]
theorem Good.rot1 {l:List Pt} (h:Good l):Good (rot1 l):=by
 have hn:=rot1_length l
 refine ⟨by rw [hn];exact h.lo,fun i hi=> ?_,fun i hi=> ?_,fun i k hi hk h0 h1 h2=> ?_⟩
 ·rw [hn] at hi ⊢
  rw [rot1_get hi,rot1_get (sc_lt hi)]
  exact h.ne _ (sc_lt hi)
 ·rw [hn] at hi ⊢
  rw [rot1_get hi,rot1_get (sc_lt hi),rot1_get (sc_lt (sc_lt hi))]
  exact h.fl _ (sc_lt hi)
 ·rw [hn] at hi hk h1 h2 ⊢
  rw [rot1_get hi,rot1_get (sc_lt hi),rot1_get hk,rot1_get (sc_lt hk)]
  refine h.cr _ _ (sc_lt hi) (sc_lt hk) ?_ ?_ ?_
  ·unfold sc;split<;>split<;>omega
  ·intro e;apply h1;unfold sc at e ⊢;split at e<;>split at e<;>split at e<;>split<;>omega
  ·intro e;apply h2;unfold sc at e ⊢;split at e<;>split at e<;>split at e<;>split<;>omega
theorem rotL_zero (l:List Pt):rotL l 0=l:=by simp [rotL]
theorem rotL_succ {l:List Pt} {r:Nat} (h:r<l.length):rotL l (r+1)=rot1 (rotL l r):=by
 unfold rotL
 rw [List.drop_eq_getElem_cons h,List.cons_append]
 show _=_++_
 rw [List.append_assoc,List.take_append_getElem h]
theorem rotL_ind (Q:List Pt→Prop) (h1:∀ l,Q l→Q (rot1 l)) {l:List Pt} (h0:Q l):∀ r,r≤l.length→Q (rotL l r)
 |0,_=>by rw [rotL_zero];exact h0
 |r+1,h=>by rw [rotL_succ (by omega)];exact h1 _ (rotL_ind Q h1 h0 r (by omega))
theorem rotL_length {l:List Pt} {r:Nat} (h:r≤l.length):(rotL l r).length=l.length:=by unfold rotL;simp;omega
theorem Good.rev {l:List Pt} (h:Good l):Good l.reverse:=by
 have hn:l.reverse.length=l.length:=List.length_reverse
 have hlo:=h.lo
 have g:∀ i,i<l.length→l.reverse.getD i default=l.getD (l.length-1-i) default:=fun i hi=>rev_getD hi
 have s:∀ i,i<l.length→sc l.length (l.length-1-sc l.length i)=l.length-1-i:=by
  intro i hi;unfold sc;split<;>split<;>omega
 have b:∀ i,l.length-1-i<l.length:=fun i=>by omega
 refine ⟨by rw [hn];exact hlo,fun i hi=> ?_,fun i hi=> ?_,fun i k hi hk h0 h1 h2 hc=> ?_⟩
 ·rw [hn] at hi ⊢
  rw [g _ hi,g _ (sc_lt hi),←s i hi]
  exact (h.ne _ (b _)).symm
 ·rw [hn] at hi ⊢
  rw [g _ hi,g _ (sc_lt hi),g _ (sc_lt (sc_lt hi))]
  have:=h.fl _ (b (sc l.length (sc l.length i)))
  rw [s _ (sc_lt hi),s _ hi] at this
  intro e
  apply this
  unfold ar at e ⊢
  grind
 ·rw [hn] at hi hk h1 h2 hc
  rw [g _ hi,g _ (sc_lt hi),g _ hk,g _ (sc_lt hk),←s i hi,←s k hk] at hc
  refine h.cr (l.length-1-sc l.length i) (l.length-1-sc l.length k) (b _) (b _) ?_ ?_ ?_ hc.rev1.rev2
  ·intro e;apply h0;unfold sc at e;split at e<;>split at e<;>omega
  ·rw [s i hi];intro e;apply h2;have:=sc_lt hk;omega
  ·rw [s k hk];intro e;apply h1;have:=sc_lt hi;omega
def esum:List Sg→Rat
 |[]=>0
 |s::t=>cross s.a s.b+esum t
theorem esum_app (a b:List Sg):esum (a++b)=esum a+esum b:=by
 induction a with
 |nil=>simp only [List.nil_append,esum];grind
 |cons s t ih=>simp only [List.cons_append,esum,ih];grind
theorem esum_rev (a:List Sg):esum a.reverse=esum a:=by
 induction a with
 |nil=>rfl
 |cons s t ih=>rw [List.reverse_cons,esum_app,ih];simp only [esum];grind
theorem esum_neg (a:List Sg):esum (a.map Sg.rev)= -esum a:=by
 induction a with
 |nil=>rfl
 |cons s t ih=>simp only [List.map_cons,esum,ih,Sg.rev,cross];grind
theorem areaTo_esum (L:List Pt):∀ i,areaTo L i=esum ((List.range i).map (segOf L))
 |0=>rfl
 |i+1=>by
  rw [List.range_succ,List.map_append,esum_app,←areaTo_esum L i]
  simp only [areaTo,List.map_cons,List.map_nil,esum,segOf]
  grind
theorem area_esum (L:List Pt):areaL L=esum (edgesL L)/2:=by unfold areaL edgesL;rw [areaTo_esum]
theorem area_rot1 {l:List Pt} (h:1≤l.length):areaL (rot1 l)=areaL l:=by
 rw [area_esum,area_esum]
 congr 1
 unfold edgesL
 rw [rot1_length]
 have e:∀ i,i<l.length→segOf (rot1 l) i=segOf l (sc l.length i):=by
  intro i hi
  unfold segOf
  rw [nx_sc (by rw [rot1_length];exact hi),nx_sc (sc_lt hi),rot1_length,rot1_get hi,rot1_get (sc_lt hi)]
 obtain ⟨m,hm⟩:∃ m,l.length=m+1:=⟨l.length-1,by omega⟩
 rw [hm] at e ⊢
 rw [List.range_succ,List.map_append,esum_app,←List.range_succ,List.range_succ_eq_map]
 simp only [List.map_cons,List.map_nil,List.map_map,esum]
 rw [e m (by omega),show sc (m+1) m=0 by unfold sc;rw [if_pos rfl]]
 have:(List.range m).map (segOf (rot1 l))=(List.range m).map (segOf l∘Nat.succ):=by
  refine List.map_congr_left fun i hi=> ?_
  have hi:=List.mem_range.1 hi
  rw [e i (by omega)]
  unfold sc
  rw [if_neg (by omega)]
  rfl
 rw [this]
 grind
theorem range_rev {α:Type} (f:Nat→α) (m:Nat):(List.range m).map (fun i=>f (m-1-i))=((List.range m).map f).reverse:=by
 refine List.ext_getElem (by simp) fun i h1 h2=> ?_
 simp
theorem area_rev {l:List Pt} (h:1≤l.length):areaL l.reverse= -areaL l:=by
 rw [area_esum,area_esum]
 have hn:l.reverse.length=l.length:=List.length_reverse
 have e:∀ i,i<l.length→segOf l.reverse i=(segOf l (l.length-1-sc l.length i)).rev:=by
  intro i hi
  have s:sc l.length (l.length-1-sc l.length i)=l.length-1-i:=by unfold sc;split<;>split<;>omega
  unfold segOf Sg.rev
  rw [nx_sc (by rw [hn];exact hi),nx_sc (by omega),hn,rev_getD hi,rev_getD (sc_lt hi),s]
 have k:esum (edgesL l.reverse)= -esum (edgesL l):=by
  rw [←esum_neg]
  unfold edgesL
  rw [hn]
  obtain ⟨m,hm⟩:∃ m,l.length=m+1:=⟨l.length-1,by omega⟩
  rw [hm] at e ⊢
  rw [List.range_succ,List.map_append,esum_app,List.map_append,List.map_append,esum_app]
  have:(List.range m).map (segOf l.reverse)=((List.range m).map fun i=>(segOf l i).rev).reverse:=by
   rw [←range_rev]
   refine List.map_congr_left fun i hi=> ?_
   have hi:=List.mem_range.1 hi
   rw [e i (by omega),show m+1-1-sc (m+1) i=m-1-i by unfold sc;split<;>omega]
  rw [this,esum_rev]
  simp only [List.map_cons,List.map_nil,List.map_map]
  rw [e m (by omega),show m+1-1-sc (m+1) m=m by unfold sc;split<;>omega]
  rfl
 rw [k]
 grind
theorem Ring.chk {R:List Pt} (h:Ring R):0<areaL R∧leastTo R R.length=0:=by
 have hk:=h.ok
 unfold chkC at hk
 split at hk
 ·omega
 split at hk
 ·omega
 split at hk
 ·omega
 ·rename_i hx
  refine ⟨?_,?_⟩
  ·refine Rat.not_le.1 fun hle=>hx (.inl (cmpQ_le.2 hle))
  ·exact Decidable.of_not_not fun hne=>hx (.inr hne)
theorem Ring.least {R:List Pt} (h:Ring R):leastTo R R.length=0:=h.chk.2
theorem leastTo_spec {L:List Pt}:∀ i,∀ j,j<i→cmpP (L.getD (leastTo L i) default) (L.getD j default)≤0
 |0,j,h=>by omega
 |i+1,j,h=>by
  have ih:=fun j h=>leastTo_spec (L:=L) i j h
  unfold leastTo
  split
  ·rename_i hc
   rcases Nat.lt_or_ge j i with h1|h1
   ·exact cmpP_le_trans (by omega) (ih j h1)
   ·have:j=i:=by omega
    rw [this];exact Int.le_of_eq (cmpP_self _)
  ·rename_i hc
   rcases Nat.lt_or_ge j i with h1|h1
   ·exact ih j h1
   ·have:j=i:=by omega
    rw [this]
    rcases cmpP_le_total (L.getD (leastTo L i) default) (L.getD i default) with h|h
    ·exact h
    ·have:cmpP (L.getD i default) (L.getD (leastTo L i) default)=0:=by omega
     rw [cmpP_zero.1 this];exact Int.le_of_eq (cmpP_self _)
theorem rotL_getD {l:List Pt} {r i:Nat} (hr:r≤l.length) (hi:i<l.length):(rotL l r).getD i default=if i<l.length-r then l.getD (r+i) default else l.getD (i-(l.length-r)) default:=by
 unfold rotL
 rw [List.getD_eq_getElem?_getD]
 split
 ·rw [List.getElem?_append_left (by rw [List.length_drop];omega),List.getElem?_drop,←List.getD_eq_getElem?_getD]
 ·rw [List.getElem?_append_right (by rw [List.length_drop];omega),List.length_drop,List.getElem?_take_of_lt (by omega),←List.getD_eq_getElem?_getD]
end Go.Av
namespace Go.Av
def xsum (f:Sg→Bool):List Sg→Bool
 |[]=>false
 |s::t=>f s^^xsum f t
theorem xsum_app (f:Sg→Bool) (a b:List Sg):xsum f (a++b)=(xsum f a^^xsum f b):=by
 induction a with
 |nil=>simp [xsum]
 |cons s t ih=>simp only [List.cons_append,xsum,ih,Bool.xor_assoc]
theorem xsum_perm {f:Sg→Bool} {a b:List Sg} (h:a.Perm b):xsum f a=xsum f b:=by
 induction h with
 |nil=>rfl
 |cons s _ ih=>simp only [xsum,ih]
 |swap s t l=>simp only [xsum];rw [←Bool.xor_assoc,←Bool.xor_assoc,Bool.xor_comm (f t)]
 |trans _ _ h1 h2=>exact h1.trans h2
theorem xsum_xor (f g:Sg→Bool) (a:List Sg):xsum (fun s=>f s^^g s) a=(xsum f a^^xsum g a):=by
 induction a with
 |nil=>rfl
 |cons s t ih=>
  simp only [xsum,ih]
  cases f s<;>cases g s<;>cases xsum f t<;>cases xsum g t<;>rfl
theorem xsum_congr {f g:Sg→Bool} {a:List Sg} (h:∀ s∈a,f s=g s):xsum f a=xsum g a:=by
 induction a with
 |nil=>rfl
 |cons s t ih=>simp only [xsum,h s (List.mem_cons_self ..),ih fun s hs=>h s (List.mem_cons_of_mem _ hs)]
theorem xsum_map (f:Sg→Bool) (g:Sg→Sg) (a:List Sg):xsum f (a.map g)=xsum (fun s=>f (g s)) a:=by
 induction a with
 |nil=>rfl
 |cons s t ih=>simp only [List.map_cons,xsum,ih]
def psum (w:Pt→Bool):List Pt→Bool
 |[]=>false
 |p::t=>w p^^psum w t
theorem psum_perm {w:Pt→Bool} {a b:List Pt} (h:a.Perm b):psum w a=psum w b:=by
 induction h with
 |nil=>rfl
 |cons s _ ih=>simp only [psum,ih]
 |swap s t l=>simp only [psum];rw [←Bool.xor_assoc,←Bool.xor_assoc,Bool.xor_comm (w t)]
 |trans _ _ h1 h2=>exact h1.trans h2
theorem psum_map (w:Pt→Bool) (g:Sg→Pt) (a:List Sg):psum w (a.map g)=xsum (fun s=>w (g s)) a:=by
 induction a with
 |nil=>rfl
 |cons s t ih=>simp only [List.map_cons,psum,xsum,ih]
theorem xsum_ends (w:Pt→Bool) (L:List Pt):xsum (fun s=>w s.a^^w s.b) (edgesL L)=false:=by
 rw [xsum_xor,←psum_map w Sg.a,←psum_map w Sg.b,edgesL_a,psum_perm (edgesL_b L),Bool.xor_self]
theorem odd_xsum (L:List Pt) (p:Pt):oddTo L p L.length=xsum (fun s=>cr p s.a s.b) (edgesL L):=by
 have:∀ i,oddTo L p i=xsum (fun s=>cr p s.a s.b) ((List.range i).map (segOf L)):=by
  intro i
  induction i with
  |zero=>rfl
  |succ i ih=>
   rw [List.range_succ,List.map_append,xsum_app,←ih]
   simp only [oddTo,List.map_cons,List.map_nil,xsum,Bool.xor_false,segOf]
   exact oddStep_eq ..
 exact this _
def rsum (g:Pt→Rat):List Pt→Rat
 |[]=>0
 |p::t=>g p+rsum g t
theorem rsum_perm {g:Pt→Rat} {a b:List Pt} (h:a.Perm b):rsum g a=rsum g b:=by
 induction h with
 |nil=>rfl
 |cons s _ ih=>simp only [rsum,ih]
 |swap s t l=>simp only [rsum];grind
 |trans _ _ h1 h2=>exact h1.trans h2
theorem mem_edgesL {L:List Pt} {s:Sg} (h:s∈edgesL L):∃ j,j<L.length∧s=segOf L j:=by
 obtain ⟨j,hj,rfl⟩:=List.mem_map.1 h
 exact ⟨j,List.mem_range.1 hj,rfl⟩
theorem edges_rot1 (l:List Pt):(edgesL (rot1 l)).Perm (edgesL l):=by
 rcases Nat.eq_zero_or_pos l.length with h0|h0
 ·have:l=[]:=List.length_eq_zero_iff.1 h0
  subst this
  exact List.Perm.refl _
 unfold edgesL
 rw [rot1_length]
 have e:∀ i,i<l.length→segOf (rot1 l) i=segOf l (sc l.length i):=by
  intro i hi
  unfold segOf
  rw [nx_sc (by rw [rot1_length];exact hi),nx_sc (sc_lt hi),rot1_length,rot1_get hi,rot1_get (sc_lt hi)]
 obtain ⟨m,hm⟩:∃ m,l.length=m+1:=⟨l.length-1,by omega⟩
 rw [hm] at e ⊢
 have e1:(List.range (m+1)).map (segOf (rot1 l))=(List.range m).map (segOf l∘Nat.succ)++[segOf l 0]:=by
  rw [List.range_succ,List.map_append]
  congr 1
  ·refine List.map_congr_left fun i hi=> ?_
   have hi:=List.mem_range.1 hi
   rw [e i (by omega)]
   unfold sc
   rw [if_neg (by omega)]
   rfl
  ·simp only [List.map_cons,List.map_nil]
   rw [e m (by omega),show sc (m+1) m=0 by unfold sc;rw [if_pos rfl]]
 rw [e1,List.range_succ_eq_map,List.map_cons,List.map_map]
 exact List.perm_append_singleton ..
theorem edges_rev (l:List Pt):(edgesL l.reverse).Perm ((edgesL l).map Sg.rev):=by
 have hn:l.reverse.length=l.length:=List.length_reverse
 rcases Nat.eq_zero_or_pos l.length with h0|h0
 ·have:l=[]:=List.length_eq_zero_iff.1 h0
  subst this
  exact List.Perm.refl _
 have e:∀ i,i<l.length→segOf l.reverse i=(segOf l (l.length-1-sc l.length i)).rev:=by
  intro i hi
  have s:sc l.length (l.length-1-sc l.length i)=l.length-1-i:=by unfold sc;split<;>split<;>omega
  unfold segOf Sg.rev
  rw [nx_sc (by rw [hn];exact hi),nx_sc (by omega),hn,rev_getD hi,rev_getD (sc_lt hi),s]
 unfold edgesL
 rw [hn]
 obtain ⟨m,hm⟩:∃ m,l.length=m+1:=⟨l.length-1,by omega⟩
 rw [hm] at e ⊢
 rw [List.range_succ,List.map_append,List.map_append,List.map_append]
 refine List.Perm.append ?_ ?_
 ·have:(List.range m).map (segOf l.reverse)=(((List.range m).map (segOf l)).map Sg.rev).reverse:=by
   rw [List.map_map,←range_rev]
   refine List.map_congr_left fun i hi=> ?_
   have hi:=List.mem_range.1 hi
   rw [e i (by omega),show m+1-1-sc (m+1) i=m-1-i by unfold sc;split<;>omega]
   rfl
  rw [this]
  exact List.reverse_perm _
 ·simp only [List.map_cons,List.map_nil]
  rw [e m (by omega),show m+1-1-sc (m+1) m=m by unfold sc;split<;>omega]
structure Aff where
 a:Rat
 b:Rat
 c:Rat
 d:Rat
 e:Rat
 f:Rat
def Aff.ap (t:Aff) (p:Pt):Pt:=⟨t.a*p.x+t.b*p.y+t.e,t.c*p.x+t.d*p.y+t.f⟩
def Aff.det (t:Aff):Rat:=t.a*t.d-t.b*t.c
theorem ar_ap (t:Aff) (u v p:Pt):ar (t.ap u) (t.ap v) (t.ap p)=t.det*ar u v p:=by unfold ar Aff.ap Aff.det;grind
theorem pt_ap (t:Aff) (u v:Pt) (m:Rat):pt (t.ap u) (t.ap v) m=t.ap (pt u v m):=by
 refine Pt.ext ?_ ?_<;>(unfold pt Aff.ap;simp only;grind)
theorem ap_inj {t:Aff} (h:t.det≠0) {p q:Pt} (e:t.ap p=t.ap q):p=q:=by
 have e1:=congrArg Pt.x e
 have e2:=congrArg Pt.y e
 simp only [Aff.ap] at e1 e2
 unfold Aff.det at h
 refine Pt.ext ?_ ?_
 ·have:(t.a*t.d-t.b*t.c)*(p.x-q.x)=0:=by grind
  grind
 ·have:(t.a*t.d-t.b*t.c)*(p.y-q.y)=0:=by grind
  grind
theorem onSeg_ap {t:Aff} (h:t.det≠0) {u v p:Pt}:onSeg (t.ap u) (t.ap v) (t.ap p)↔onSeg u v p:=by
 constructor
 ·rintro ⟨m,h0,h1,e⟩
  rw [pt_ap] at e
  exact ⟨m,h0,h1,ap_inj h e⟩
 ·rintro ⟨m,h0,h1,rfl⟩
  exact ⟨m,h0,h1,(pt_ap ..).symm⟩
theorem Common_ap {t:Aff} (h:t.det≠0) {a b u v:Pt}:Common (t.ap a) (t.ap b) (t.ap u) (t.ap v)↔Common a b u v:=by
 constructor
 ·rintro ⟨p,⟨m,h0,h1,rfl⟩,⟨k,k0,k1,e⟩⟩
  rw [pt_ap,pt_ap] at e
  exact ⟨pt a b m,⟨m,h0,h1,rfl⟩,⟨k,k0,k1,ap_inj h e⟩⟩
 ·rintro ⟨p,h1,h2⟩
  exact ⟨t.ap p,(onSeg_ap h).2 h1,(onSeg_ap h).2 h2⟩
theorem mapP_getD {l:List Pt} {g:Pt→Pt} {i:Nat} (h:i<l.length):(l.map g).getD i default=g (l.getD i default):=by
 rw [List.getD_eq_getElem?_getD,List.getElem?_map,List.getD_eq_getElem?_getD,List.getElem?_eq_getElem h];rfl
theorem Good.map {l:List Pt} (h:Good l) {t:Aff} (ht:t.det≠0):Good (l.map t.ap):=by
 have hn:(l.map t.ap).length=l.length:=List.length_map ..
 refine ⟨by rw [hn];exact h.lo,fun i hi=> ?_,fun i hi=> ?_,fun i k hi hk h0 h1 h2=> ?_⟩
 ·rw [hn] at hi ⊢
  rw [mapP_getD hi,mapP_getD (sc_lt hi)]
  exact fun e=>h.ne i hi (ap_inj ht e)
 ·rw [hn] at hi ⊢
  rw [mapP_getD hi,mapP_getD (sc_lt hi),mapP_getD (sc_lt (sc_lt hi)),ar_ap]
  have:=h.fl i hi
  intro e
  rcases Rat.mul_eq_zero.1 e with e|e
  ·exact ht e
  ·exact this e
 ·rw [hn] at hi hk h1 h2 ⊢
  rw [mapP_getD hi,mapP_getD (sc_lt hi),mapP_getD hk,mapP_getD (sc_lt hk),Common_ap ht]
  exact h.cr i k hi hk h0 h1 h2
def Sg.map (s:Sg) (g:Pt→Pt):Sg:=⟨g s.a,g s.b⟩
theorem edges_map (l:List Pt) (g:Pt→Pt):edgesL (l.map g)=(edgesL l).map fun s=>s.map g:=by
 unfold edgesL
 rw [List.length_map,List.map_map]
 refine List.map_congr_left fun i hi=> ?_
 have hi:=List.mem_range.1 hi
 unfold segOf Sg.map
 simp only [Function.comp]
 rw [nx_sc (by rw [List.length_map];exact hi),nx_sc hi,List.length_map,mapP_getD hi,mapP_getD (sc_lt hi)]
theorem area_ap (l:List Pt) (t:Aff):areaL (l.map t.ap)=t.det*areaL l:=by
 rw [area_esum,area_esum,edges_map]
 have key:∀ E:List Sg,esum (E.map fun s=>s.map t.ap)=t.det*esum E+(rsum (fun p=>t.e*(t.c*p.x+t.d*p.y)-t.f*(t.a*p.x+t.b*p.y)) (E.map Sg.b)-rsum (fun p=>t.e*(t.c*p.x+t.d*p.y)-t.f*(t.a*p.x+t.b*p.y)) (E.map Sg.a)):=by
  intro E
  induction E with
  |nil=>simp only [List.map_nil,esum,rsum];grind
  |cons s E ih=>
   simp only [List.map_cons,esum,rsum,ih]
   unfold Sg.map Aff.ap cross Aff.det
   try simp only
   grind
 rw [key,edgesL_a,rsum_perm (edgesL_b l)]
 grind
def Par (t:Aff):Prop:=t.det≠0∧∀ (L:List Pt) (p:Pt),(∀ s∈edgesL L,¬onSeg s.a s.b p)→oddTo (L.map t.ap) (t.ap p) (L.map t.ap).length=oddTo L p L.length
theorem Par.of {t:Aff} (h:t.det≠0) (hc:∀ (L:List Pt) (p:Pt),(∀ s∈edgesL L,¬onSeg s.a s.b p)→xsum (fun s=>cr (t.ap p) (t.ap s.a) (t.ap s.b)) (edgesL L)=xsum (fun s=>cr p s.a s.b) (edgesL L)):Par t:=
 ⟨h,fun L p hp=>by rw [odd_xsum,odd_xsum,edges_map,xsum_map];exact hc L p hp⟩
theorem Par.comp {t s r:Aff} (ht:Par t) (hs:Par s) (hr:∀ p,r.ap p=s.ap (t.ap p)) (hd:r.det≠0):Par r:=by
 refine ⟨hd,fun L p hp=> ?_⟩
 have e:L.map r.ap=(L.map t.ap).map s.ap:=by rw [List.map_map];exact List.map_congr_left fun p _=>hr p
 rw [e,hr,hs.2 (L.map t.ap) (t.ap p) ?_,ht.2 L p hp]
 intro g hg
 rw [edges_map] at hg
 obtain ⟨g0,h0,rfl⟩:=List.mem_map.1 hg
 exact fun k=>hp g0 h0 ((onSeg_ap ht.1).1 k)
end Go.Av
namespace Go.Av
theorem cr_lo {p u v:Pt} (h1:¬p.y<u.y) (h2:¬p.y<v.y):cr p u v=false:=by
 unfold cr
 split
 ·exact decide_eq_false fun k=>h2 k.2.1
 ·exact decide_eq_false fun k=>h1 k.2.1
def sw:Aff:=⟨0,1,1,0,0,0⟩
end Go.Av
