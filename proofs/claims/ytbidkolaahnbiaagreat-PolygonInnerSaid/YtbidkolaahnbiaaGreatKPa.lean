/- Helping texts: Pa. -/
import Derived.Test.YtbidkolaahnbiaaGreatKRq
import Derived.Test.YtbidkolaahnbiaaGreatKMk
import Derived.Test.YtbidkolaahnbiaaGreatKUd
set_option linter.unusedSimpArgs false
set_option linter.unusedVariables false
set_option maxRecDepth 100000
set_option maxHeartbeats 16000000
namespace Go.Av
open Go.RowKit
open Go.Proofs.Tryz (prog)
def spans (x:Rat) (s:Sg):Bool:=decide (x<s.a.x)^^decide (x<s.b.x)
def hgt (x:Rat) (s:Sg):Rat:=s.a.y+(x-s.a.x)/(s.b.x-s.a.x)*(s.b.y-s.a.y)
def offX (x:Rat) (s:Sg):Prop:=s.a.x≠x∧s.b.x≠x
theorem spans_cases {x:Rat} {s:Sg} (h:spans x s=true) (ho:offX x s):s.a.x<x∧x<s.b.x∨s.b.x<x∧x<s.a.x:=by
 unfold spans at h
 obtain ⟨h1,h2⟩:=ho
 by_cases k1:x<s.a.x
 ·by_cases k2:x<s.b.x
  ·simp [k1,k2] at h
  ·exact .inr ⟨by grind,k1⟩
 ·by_cases k2:x<s.b.x
  ·exact .inl ⟨by grind,k2⟩
  ·simp [k1,k2] at h
theorem not_spans {x:Rat} {s:Sg} (h:spans x s=false) (ho:offX x s):x<s.a.x∧x<s.b.x∨s.a.x<x∧s.b.x<x:=by
 unfold spans at h
 obtain ⟨h1,h2⟩:=ho
 by_cases k1:x<s.a.x
 ·by_cases k2:x<s.b.x
  ·exact .inl ⟨k1,k2⟩
  ·simp [k1,k2] at h
 ·by_cases k2:x<s.b.x
  ·simp [k1,k2] at h
  ·exact .inr ⟨by grind,by grind⟩
theorem ratio_unit {x:Rat} {s:Sg} (h:spans x s=true) (ho:offX x s):s.b.x-s.a.x≠0∧0≤(x-s.a.x)/(s.b.x-s.a.x)∧(x-s.a.x)/(s.b.x-s.a.x)≤1:=by
 rcases spans_cases h ho with ⟨h1,h2⟩|⟨h1,h2⟩
 ·have:=frac (p:=x-s.a.x) (q:=s.b.x-x) (by grind) (by grind) (by grind)
  rw [show x-s.a.x+(s.b.x-x)=s.b.x-s.a.x by grind] at this
  exact ⟨by grind,this⟩
 ·have:=frac (p:=s.a.x-x) (q:=x-s.b.x) (by grind) (by grind) (by grind)
  have e:(s.a.x-x)/(s.a.x-x+(x-s.b.x))=(x-s.a.x)/(s.b.x-s.a.x):=by
   have h0:s.b.x-s.a.x≠0:=by grind
   have h3:s.a.x-x+(x-s.b.x)≠0:=by grind
   grind
  rw [e] at this
  exact ⟨by grind,this⟩
theorem hgt_on {x:Rat} {s:Sg} (h:spans x s=true) (ho:offX x s):onSeg s.a s.b ⟨x,hgt x s⟩:=by
 obtain ⟨h0,h1,h2⟩:=ratio_unit h ho
 refine ⟨_,h1,h2,Pt.ext ?_ ?_⟩
 ·unfold pt;simp only;rw [Rat.div_mul_cancel h0];grind
 ·rfl
theorem on_hgt {s:Sg} {q:Pt} (ho:offX q.x s) (h:onSeg s.a s.b q):spans q.x s=true∧q.y=hgt q.x s:=by
 obtain ⟨m,h0,h1,e⟩:=h
 have ex:q.x=s.a.x+m*(s.b.x-s.a.x):=congrArg Pt.x e
 have ey:q.y=s.a.y+m*(s.b.y-s.a.y):=congrArg Pt.y e
 have hs:spans q.x s=true:=by
  cases hs:spans q.x s with
  |true=>rfl
  |false=>
   exfalso
   rcases not_spans hs ho with ⟨k1,k2⟩|⟨k1,k2⟩
   ·have a1:=Rat.mul_nonneg (show 0≤1-m by grind) (show 0≤s.a.x-q.x by grind)
    have a2:=Rat.mul_nonneg h0 (show 0≤s.b.x-q.x by grind)
    rcases lt_or_eq' h0 with h3|h3
    ·have:=Rat.mul_pos h3 (show 0<s.b.x-q.x by grind);grind
    ·subst h3;grind
   ·have a1:=Rat.mul_nonneg (show 0≤1-m by grind) (show 0≤q.x-s.a.x by grind)
    have a2:=Rat.mul_nonneg h0 (show 0≤q.x-s.b.x by grind)
    rcases lt_or_eq' h0 with h3|h3
    ·have:=Rat.mul_pos h3 (show 0<q.x-s.b.x by grind);grind
    ·subst h3;grind
 refine ⟨hs,?_⟩
 obtain ⟨h3,_,_⟩:=ratio_unit hs ho
 have:(q.x-s.a.x)/(s.b.x-s.a.x)=m:=by rw [ex];grind
 unfold hgt
 rw [this,ey]
theorem height_spans {x:Rat} {s:Sg} (ho:offX x s):heightS s x=(hgt x s,0)∧spans x s=true∨(heightS s x).2≠0∧spans x s=false:=by
 cases hs:spans x s with
 |true=>
  left
  obtain ⟨h0,h1,h2⟩:=ratio_unit hs ho
  have hok:s.ok:=fun e=>h0 (by rw [cmpP_zero.1 e];grind)
  refine ⟨?_,rfl⟩
  unfold heightS
  rw [if_neg (fun k=>k hok),if_neg (show ¬s.dir.x=0 from h0),if_pos (unit_of (show 0≤(x-s.a.x)/s.dir.x from h1) h2)]
  rfl
 |false=>
  right
  refine ⟨?_,rfl⟩
  unfold heightS
  split
  ·decide
  ·split
   ·decide
   ·rename_i hd
    split
    ·rename_i hu
     obtain ⟨u0,u1⟩:=unit_get hu
     have hon:onSeg s.a s.b ⟨x,hgt x s⟩:=⟨_,u0,u1,Pt.ext (by
      unfold pt;simp only
      rw [show (x-s.a.x)/s.dir.x*(s.b.x-s.a.x)=x-s.a.x from Rat.div_mul_cancel hd];grind) rfl⟩
     have:=(on_hgt (q:=⟨x,hgt x s⟩) ho hon).1
     rw [show (⟨x,hgt x s⟩:Pt).x=x from rfl,hs] at this
     cases this
    ·decide
def ysL (x:Rat) (E:List Sg):List Rat:=(E.filter (spans x)).map (hgt x)
def Dif (x:Rat) (s t:Sg):Prop:=spans x s=true→spans x t=true→hgt x s≠hgt x t
theorem dif_nm {x:Rat} {A B:List Pt} (h:NoMeet A B) {s t:Sg} (hs:s∈edgesL A) (ht:t∈edgesL B) (o1:offX x s) (o2:offX x t):Dif x s t:=fun h1 h2 e=>by
 have k:=hgt_on h2 o2
 rw [←e] at k
 exact h s hs t ht ⟨_,hgt_on h1 o1,k⟩
theorem dif_next {x:Rat} {u v w:Pt} (hf:ar u v w≠0) (o1:offX x ⟨u,v⟩) (o2:offX x ⟨v,w⟩):Dif x ⟨u,v⟩ ⟨v,w⟩:=fun h1 h2 e=>by
 obtain ⟨m,_,_,em⟩:=hgt_on h1 o1
 obtain ⟨n,_,_,en⟩:=hgt_on h2 o2
 rw [←e] at en
 have k:ar u v (pt v w n)=0:=by
  rw [←en,em,ar_pt,ar_l,ar_r];grind
 rw [ar_pt,ar_r] at k
 have hn:n=0:=by
  rcases Rat.mul_eq_zero.1 (show n*ar u v w=0 by grind) with h|h
  ·exact h
  ·exact absurd h hf
 subst hn
 have:x=v.x:=by have:=congrArg Pt.x en;unfold pt at this;simp only at this;grind
 exact o1.2 this.symm
theorem dif_symm {x:Rat} {s t:Sg} (h:Dif x s t):Dif x t s:=fun h1 h2 e=>h h2 h1 e.symm
theorem Good.dif {L:List Pt} (h:Good L) {x:Rat} (ho:∀ s∈edgesL L,offX x s):(edgesL L).Pairwise (Dif x):=by
 unfold edgesL
 rw [List.pairwise_map]
 refine List.pairwise_lt_range.imp_of_mem fun {i k} hi hk hik=> ?_
 have hi:=List.mem_range.1 hi
 have hk:=List.mem_range.1 hk
 have o1:=ho _ (seg_mem hi)
 have o2:=ho _ (seg_mem hk)
 rw [segOf_sc hi] at o1 ⊢
 rw [segOf_sc hk] at o2 ⊢
 by_cases h1:sc L.length i=k
 ·subst h1
  exact dif_next (h.fl i hi) o1 o2
 ·by_cases h2:sc L.length k=i
  ·subst h2
   exact dif_symm (dif_next (h.fl k hk) o2 o1)
  ·intro s1 s2 e
   have k2:=hgt_on s2 o2
   rw [←e] at k2
   exact h.cr i k hi hk (by omega) h1 h2 ⟨_,hgt_on s1 o1,k2⟩
theorem eTo_flat (Ls:List (List Pt)):∀ i,i≤Ls.length→edgesTo Ls i=(Ls.take i).flatMap edgesL
 |0,_=>by simp [edgesTo]
 |i+1,h=>by
  have e:edgesTo Ls (i+1)=edgesTo Ls i++edgesL (Ls.getD i []):=rfl
  rw [e,eTo_flat Ls i (by omega),List.take_add_one,List.getElem?_eq_getElem (by omega),List.flatMap_append,List.getD_eq_getElem?_getD,List.getElem?_eq_getElem (by omega)]
  simp
theorem eTo_all (L:List Pt) (Hs:List (List Pt)):edgesTo (L::Hs) (Hs.length+1)=(L::Hs).flatMap edgesL:=by
 rw [eTo_flat (L::Hs) (Hs.length+1) (Nat.le_refl _),List.take_of_length_le (by simp)]
theorem cornersTo_flat (Ls:List (List Pt)):∀ i,i≤Ls.length→cornersTo Ls i=(Ls.take i).flatten
 |0,_=>by simp [cornersTo]
 |i+1,h=>by
  have e:cornersTo Ls (i+1)=cornersTo Ls i++Ls.getD i []:=rfl
  rw [e,cornersTo_flat Ls i (by omega),List.take_add_one,List.getElem?_eq_getElem (by omega),List.flatten_append,List.getD_eq_getElem?_getD,List.getElem?_eq_getElem (by omega)]
  simp
theorem cornersTo_all (L:List Pt) (Hs:List (List Pt)):cornersTo (L::Hs) (Hs.length+1)=(L::Hs).flatten:=by
 rw [cornersTo_flat (L::Hs) (Hs.length+1) (Nat.le_refl _),List.take_of_length_le (by simp)]
theorem ends_mem {L:List Pt} {s:Sg} (h:s∈edgesL L):s.a∈L∧s.b∈L:=by
 obtain ⟨i,hi,rfl⟩:=mem_edgesL h
 unfold segOf
 refine ⟨?_,?_⟩
 ·rw [List.getD_eq_getElem?_getD,List.getElem?_eq_getElem hi];exact List.getElem_mem hi
 ·show nx L i∈L
  rw [nx_sc hi,List.getD_eq_getElem?_getD,List.getElem?_eq_getElem (sc_lt hi)];exact List.getElem_mem _
theorem Valid.nm {L:List Pt} {Hs:List (List Pt)} (h:Valid L Hs):(L::Hs).Pairwise NoMeet:=
 List.pairwise_cons.2 ⟨fun x hx=>(h.mo x hx).symm,h.pw.imp fun k=>k.nm⟩
def OffL (x:Rat) (L:List Pt) (Hs:List (List Pt)):Prop:=∀ l∈L::Hs,∀ p∈l,p.x≠x
theorem OffL.edge {x:Rat} {L:List Pt} {Hs:List (List Pt)} (h:OffL x L Hs) {l:List Pt} (hl:l∈L::Hs) {s:Sg} (hs:s∈edgesL l):offX x s:=
 ⟨h l hl _ (ends_mem hs).1,h l hl _ (ends_mem hs).2⟩
theorem Valid.dif {L:List Pt} {Hs:List (List Pt)} (h:Valid L Hs) {x:Rat} (ho:OffL x L Hs):(edgesTo (L::Hs) (Hs.length+1)).Pairwise (Dif x):=by
 rw [eTo_all,List.pairwise_flatMap]
 refine ⟨fun l hl=>(vring_of h hl).good.dif fun s hs=>ho.edge hl hs,h.nm.imp_of_mem fun {a b} ha hb hab s hs t ht=>dif_nm hab hs ht (ho.edge ha hs) (ho.edge hb ht)⟩
theorem ys_nodup {x:Rat} {E:List Sg} (h:E.Pairwise (Dif x)):(ysL x E).Nodup:=by
 unfold ysL List.Nodup
 rw [List.pairwise_map,List.pairwise_filter]
 exact h.imp fun k h1 h2=>k h1 h2
theorem ar_hgt {s:Sg} {p:Pt} (h:s.b.x-s.a.x≠0):ar s.a s.b p=(s.b.x-s.a.x)*(p.y-hgt p.x s):=by
 have:(p.x-s.a.x)/(s.b.x-s.a.x)*(s.b.x-s.a.x)=p.x-s.a.x:=Rat.div_mul_cancel h
 unfold ar hgt
 generalize (p.x-s.a.x)/(s.b.x-s.a.x)=m at*
 grind
def below (q:Pt) (s:Sg):Bool:=spans q.x s&&decide (hgt q.x s<q.y)
theorem cr_above {q:Pt} {s:Sg} (ho:offX q.x s):cr (sw.ap q) (sw.ap s.a) (sw.ap s.b)=(spans q.x s&&decide (q.y<hgt q.x s)):=by
 by_cases k1:q.x<s.a.x
 ·by_cases k2:q.x<s.b.x
  ·rw [sw_hi k1 k2];unfold spans;simp [k1,k2]
  ·rw [sw_dn k1 k2,ar_hgt (by have:=ho.2;grind)]
   have e:spans q.x s=true:=by unfold spans;simp [k1,k2]
   rw [e,Bool.true_and,decide_eq_decide]
   have hb:s.b.x<q.x:=by have:=ho.2;grind
   constructor
   ·intro h
    by_cases h2:q.y<hgt q.x s
    ·exact h2
    ·have:=Rat.mul_nonneg (show 0≤s.a.x-s.b.x by grind) (show 0≤q.y-hgt q.x s by grind)
     grind
   ·intro h
    have:=Rat.mul_pos (show 0<s.a.x-s.b.x by grind) (show 0<hgt q.x s-q.y by grind)
    grind
 ·by_cases k2:q.x<s.b.x
  ·rw [sw_up k1 k2,ar_hgt (by have:=ho.1;grind)]
   have e:spans q.x s=true:=by unfold spans;simp [k1,k2]
   rw [e,Bool.true_and,decide_eq_decide]
   have hb:s.a.x<q.x:=by have:=ho.1;grind
   constructor
   ·intro h
    by_cases h2:q.y<hgt q.x s
    ·exact h2
    ·have:=Rat.mul_nonneg (show 0≤s.b.x-s.a.x by grind) (show 0≤q.y-hgt q.x s by grind)
     grind
   ·intro h
    have:=Rat.mul_pos (show 0<s.b.x-s.a.x by grind) (show 0<hgt q.x s-q.y by grind)
    grind
  ·rw [sw_lo k1 k2];unfold spans;simp [k1,k2]
theorem odd_below {L:List Pt} {q:Pt} (hq:¬onE L q) (ho:∀ s∈edgesL L,offX q.x s):oddTo L q L.length=xsum (below q) (edgesL L):=by
 have hn:∀ s∈edgesL L,¬onSeg s.a s.b q:=fun s hs k=>hq ⟨s,hs,k⟩
 rw [←par_sw.2 L q hn,odd_xsum,edges_map,xsum_map]
 have e:xsum (fun s=>cr (sw.ap q) (sw.ap s.a) (sw.ap s.b)^^below q s) (edgesL L)=false:=by
  rw [xsum_congr (g:=fun s=>decide (q.x<s.a.x)^^decide (q.x<s.b.x)) fun s hs=> ?_]
  ·exact xsum_ends (fun p=>decide (q.x<p.x)) L
  ·show _=spans q.x s
   rw [cr_above (ho s hs)]
   unfold below
   cases hsp:spans q.x s with
   |false=>rfl
   |true=>
    have hne:hgt q.x s≠q.y:=fun e=>hn s hs (by have:=hgt_on hsp (ho s hs);rwa [e] at this)
    by_cases h1:q.y<hgt q.x s
    ·have h2:¬hgt q.x s<q.y:=by grind
     simp [h1,h2]
    ·have h2:hgt q.x s<q.y:=by grind
     simp [h1,h2]
 rw [xsum_xor] at e
 have e2:xsum (fun s=>cr (sw.ap q) (s.map sw.ap).a (s.map sw.ap).b) (edgesL L)=xsum (fun s=>cr (sw.ap q) (sw.ap s.a) (sw.ap s.b)) (edgesL L):=rfl
 rw [←e2] at e
 revert e
 show ∀ e:(xsum (fun s=>cr (sw.ap q) (s.map sw.ap).a (s.map sw.ap).b) (edgesL L)^^xsum (below q) (edgesL L))=false,_
 cases xsum (fun s=>cr (sw.ap q) (s.map sw.ap).a (s.map sw.ap).b) (edgesL L)<;>cases xsum (below q) (edgesL L)<;>simp
theorem xsum_count (f:Sg→Bool) (l:List Sg):xsum f l=decide ((l.filter f).length%2=1):=by
 induction l with
 |nil=>rfl
 |cons s t ih=>
  unfold xsum
  rw [ih,List.filter_cons]
  cases f s
  ·simp
  ·simp only [if_true,List.length_cons,Bool.true_xor,←decide_not]
   rw [decide_eq_decide];omega
theorem even_spans (x:Rat) (l:List Pt):((edgesL l).filter (spans x)).length%2=0:=by
 have:=xsum_ends (fun p=>decide (x<p.x)) l
 rw [show (fun s:Sg=>decide (x<s.a.x)^^decide (x<s.b.x))=spans x from rfl,xsum_count,decide_eq_false_iff_not] at this
 omega
theorem two_spans {L:List Pt} {Hs:List (List Pt)} {x:Rat} {l:List Pt} (hl:l∈L::Hs) {s:Sg} (hs:s∈edgesL l) (hsp:spans x s=true):2≤(ysL x (edgesTo (L::Hs) (Hs.length+1))).length:=by
 have h0:=even_spans x l
 have h1:0<((edgesL l).filter (spans x)).length:=List.length_pos_of_mem (List.mem_filter.2 ⟨hs,hsp⟩)
 have h2:((edgesL l).filter (spans x)).Sublist ((edgesTo (L::Hs) (Hs.length+1)).filter (spans x)):=by
  rw [eTo_all,List.flatMap_def]
  exact (List.sublist_flatten_of_mem (List.mem_map_of_mem hl)).filter _
 have:=h2.length_le
 unfold ysL
 rw [List.length_map]
 omega
theorem asc_strict {S:List Rat} (h:S.Pairwise (·≤·)) (hd:S.Nodup):S.Pairwise (·<·):=by
 refine (List.Pairwise.and h hd).imp fun {a b} k=> ?_
 obtain ⟨k1,k2⟩:=k
 rcases lt_or_eq' k1 with k|k
 ·exact k
 ·exact absurd k k2
theorem strict_two {S:List Rat} (h:S.Pairwise (·<·)) (h2:2≤S.length):S.getD 0 0<S.getD 1 0∧S.getD 0 0∈S∧∀ y∈S,y=S.getD 0 0∨S.getD 1 0≤y:=by
 match S,h,h2 with
 |a::b::t,h,_=>
  obtain ⟨k1,k2⟩:=List.pairwise_cons.1 h
  obtain ⟨k3,_⟩:=List.pairwise_cons.1 k2
  refine ⟨k1 b (List.mem_cons_self ..),List.mem_cons_self ..,fun y hy=> ?_⟩
  rcases List.mem_cons.1 hy with rfl|hy
  ·exact .inl rfl
  ·rcases List.mem_cons.1 hy with rfl|hy
   ·exact .inr (Rat.le_refl)
   ·exact .inr (Rat.le_of_lt (k3 y hy))
theorem mem_ys {x:Rat} {E:List Sg} {y:Rat}:y∈ysL x E↔∃ s∈E,spans x s=true∧hgt x s=y:=by
 unfold ysL
 rw [List.mem_map]
 constructor
 ·rintro ⟨s,h,rfl⟩;exact ⟨s,(List.mem_filter.1 h).1,(List.mem_filter.1 h).2,rfl⟩
 ·rintro ⟨s,h1,h2,rfl⟩;exact ⟨s,List.mem_filter.2 ⟨h1,h2⟩,rfl⟩
theorem inner_one {L:List Pt} {Hs:List (List Pt)} (hv:Valid L Hs) {x:Rat} (ho:OffL x L Hs) {S:List Rat} (hS:S=srtQ (ysL x (edgesTo (L::Hs) (Hs.length+1)))) (h2:2≤S.length):
 whereS L Hs ⟨x,(S.getD 0 0+S.getD 1 0)/2⟩=1:=by
 have hp:S.Perm (ysL x (edgesTo (L::Hs) (Hs.length+1))):=by rw [hS];exact srtQ_perm _
 have hst:=asc_strict (by rw [hS];exact srtQ_asc _) (hp.nodup_iff.2 (ys_nodup (hv.dif ho)))
 obtain ⟨lt,h0,hall⟩:=strict_two hst h2
 have hall:∀ y∈ysL x (edgesTo (L::Hs) (Hs.length+1)),y=S.getD 0 0∨S.getD 1 0≤y:=fun y hy=>hall y (hp.mem_iff.2 hy)
 have h0:=hp.mem_iff.1 h0
 clear hst hS hp h2
 generalize S.getD 0 0=y0 at*
 generalize S.getD 1 0=y1 at*
 have hy0:y0<(y0+y1)/2:=by grind
 have hy1:(y0+y1)/2<y1:=by grind
 generalize (y0+y1)/2=y at*
 have mem:∀ l∈L::Hs,∀ s∈edgesL l,s∈edgesTo (L::Hs) (Hs.length+1):=fun l hl s hs=>by
  rw [eTo_all];exact List.mem_flatMap.2 ⟨l,hl,hs⟩
 have near:∀ l∈L::Hs,∀ s∈edgesL l,spans x s=true→hgt x s=y0∨y1≤hgt x s:=fun l hl s hs hsp=>hall _ (mem_ys.2 ⟨s,mem l hl s hs,hsp,rfl⟩)
 obtain ⟨e0,he0,hsp0,hg0⟩:=mem_ys.1 h0
 rw [eTo_all] at he0
 replace he0:=List.mem_flatMap.1 he0
 obtain ⟨l0,hl0,he0⟩:=he0
 have notE:∀ l∈L::Hs,¬onE l ⟨x,y⟩:=by
  rintro l hl ⟨s,hs,k⟩
  obtain ⟨k1,k2⟩:=on_hgt (q:=⟨x,y⟩) (ho.edge hl hs) k
  have k2:y=hgt x s:=k2
  rcases near l hl s hs k1 with k3|k3<;>grind
 have hL:l0=L:=by
  rcases List.mem_cons.1 hl0 with h|h
  ·exact h
  ·exfalso
   have onz:onE l0 ⟨x,y0⟩:=⟨e0,he0,by have:=hgt_on hsp0 (ho.edge hl0 he0);rwa [hg0] at this⟩
   obtain ⟨k1,k2⟩:=off_gen (hv.mo l0 h) (hv.wo l0 h) onz
   rw [odd_below k1 (fun s hs=>ho.edge (List.mem_cons_self ..) hs),xsum_count,decide_eq_true_eq] at k2
   have:(edgesL L).filter (below ⟨x,y0⟩)=[]:=List.filter_eq_nil_iff.2 fun s hs hb=>by
    unfold below at hb
    rw [Bool.and_eq_true,decide_eq_true_eq] at hb
    have hb1:spans x s=true:=hb.1
    have hb2:hgt x s<y0:=hb.2
    rcases near L (List.mem_cons_self ..) s hs hb1 with k3|k3<;>grind
   rw [this] at k2
   exact absurd k2 (by decide)
 subst hL
 refine (where_one hv _).2 ⟨?_,fun h hh=> ?_⟩
 ·have hn:=notE l0 hl0
  have hb:onB l0 ⟨x,y⟩=false:=by
   rw [←Bool.not_eq_true];exact fun k=>hn ((onB_onE hv.out _).1 k)
  unfold sideS
  rw [hb,if_neg (by decide),if_pos]
  rw [odd_below hn (fun s hs=>ho.edge hl0 hs),xsum_count,decide_eq_true_eq]
  have hpw:((edgesL l0).filter (below ⟨x,y⟩)).Pairwise (Dif x):=(hv.out.good.dif fun s hs=>ho.edge hl0 hs).filter _
  have hin:e0∈(edgesL l0).filter (below ⟨x,y⟩):=List.mem_filter.2 ⟨he0,by
   unfold below
   show (spans x e0&&decide (hgt x e0<y))=true
   rw [hsp0,hg0,decide_eq_true hy0];rfl⟩
  have hone:∀ s∈(edgesL l0).filter (below ⟨x,y⟩),spans x s=true∧hgt x s=y0:=fun s hs=>by
   obtain ⟨k1,k2⟩:=List.mem_filter.1 hs
   unfold below at k2
   rw [Bool.and_eq_true,decide_eq_true_eq] at k2
   have k3:spans x s=true:=k2.1
   have k4:hgt x s<y:=k2.2
   refine ⟨k3,?_⟩
   rcases near l0 hl0 s k1 k3 with k5|k5
   ·exact k5
   ·grind
  generalize (edgesL l0).filter (below ⟨x,y⟩)=F at*
  match F,hpw,hin,hone with
  |[a],_,_,_=>rfl
  |a::b::t,hpw,_,hone=>
   exfalso
   obtain ⟨a1,a2⟩:=hone a (List.mem_cons_self ..)
   obtain ⟨b1,b2⟩:=hone b (List.mem_cons_of_mem _ (List.mem_cons_self ..))
   exact (List.pairwise_cons.1 hpw).1 b (List.mem_cons_self ..) a1 b1 (a2.trans b2.symm)
 ·have hm:h∈l0::Hs:=List.mem_cons_of_mem _ hh
  have hn:=notE h hm
  have hb:onB h ⟨x,y⟩=false:=by
   rw [←Bool.not_eq_true];exact fun k=>hn ((onB_onE (hv.holes h hh) _).1 k)
  unfold sideS
  rw [hb,if_neg (by decide),if_neg]
  rw [odd_below hn (fun s hs=>ho.edge hm hs),xsum_count,decide_eq_true_eq]
  have:(edgesL h).filter (below ⟨x,y⟩)=[]:=List.filter_eq_nil_iff.2 fun s hs hbl=>by
   unfold below at hbl
   rw [Bool.and_eq_true,decide_eq_true_eq] at hbl
   have b1:spans x s=true:=hbl.1
   have b2:hgt x s<y:=hbl.2
   rcases near h hm s hs b1 with k3|k3
   ·exact dif_nm (hv.mo h hh) hs he0 (ho.edge hm hs) (ho.edge hl0 he0) b1 hsp0 (k3.trans hg0.symm)
   ·grind
  rw [this]
  decide
def cptTo (l:List Rat):Nat→List Rat
 |0=>[]
 |k+1=>if k≠0∧l.getD k 0=l.getD (k-1) 0 then cptTo l k else cptTo l k++[l.getD k 0]
theorem cptTo_mem (l:List Rat):∀ k,k≤l.length→∀ y,y∈cptTo l k↔∃ j,j<k∧l.getD j 0=y
 |0,_,y=>by simp [cptTo]
 |k+1,h,y=>by
  have ih:=cptTo_mem l k (by omega)
  unfold cptTo
  split
  ·rename_i e
   rw [ih]
   constructor
   ·rintro ⟨j,hj,k⟩;exact ⟨j,by omega,k⟩
   ·rintro ⟨j,hj,k2⟩
    rcases Nat.lt_or_ge j k with h1|h1
    ·exact ⟨j,h1,k2⟩
    ·exact ⟨k-1,by omega,by rw [←e.2,←k2,show j=k by omega]⟩
  ·rw [List.mem_append,ih,List.mem_singleton]
   constructor
   ·rintro (⟨j,hj,k2⟩|k2)
    ·exact ⟨j,by omega,k2⟩
    ·exact ⟨k,by omega,k2.symm⟩
   ·rintro ⟨j,hj,k2⟩
    rcases Nat.lt_or_ge j k with h1|h1
    ·exact .inl ⟨j,h1,k2⟩
    ·exact .inr (by rw [←k2,show j=k by omega])
theorem asc_getD {l:List Rat} (h:l.Pairwise (·≤·)) {i j:Nat} (hij:i≤j) (hj:j<l.length):l.getD i 0≤l.getD j 0:=by
 rcases Nat.lt_or_ge i j with k|k
 ·rw [List.getD_eq_getElem?_getD,List.getD_eq_getElem?_getD,List.getElem?_eq_getElem hj,List.getElem?_eq_getElem (by omega)]
  exact List.pairwise_iff_getElem.1 h i j (by omega) hj k
 ·rw [show i=j by omega];exact Rat.le_refl
theorem cptTo_strict {l:List Rat} (h:l.Pairwise (·≤·)):∀ k,k≤l.length→(cptTo l k).Pairwise (·<·)
 |0,_=>by simp [cptTo]
 |k+1,hk=>by
  have ih:=cptTo_strict h k (by omega)
  unfold cptTo
  split
  ·exact ih
  ·rename_i e
   rw [List.pairwise_append]
   refine ⟨ih,by simp,fun a ha b hb=> ?_⟩
   obtain ⟨j,hj,rfl⟩:=(cptTo_mem l k (by omega) a).1 ha
   rw [List.mem_singleton.1 hb]
   rcases Nat.eq_zero_or_pos k with h0|h0
   ·omega
   ·have h1:=asc_getD h (show j≤k-1 by omega) (by omega)
    have h2:=asc_getD h (show k-1≤k by omega) (by omega)
    have h3:l.getD k 0≠l.getD (k-1) 0:=fun h=>e ⟨by omega,h⟩
    grind
def xsL (C:List Pt):List Rat:=cptTo (srtQ (C.map Pt.x)) C.length
def inX (D:List Rat):Rat:=(D.getD 0 0+D.getD 1 0)/2
theorem xsL_mem {C:List Pt} {y:Rat}:y∈xsL C↔∃ p∈C,p.x=y:=by
 have hl:(srtQ (C.map Pt.x)).length=C.length:=by rw [(srtQ_perm _).length_eq,List.length_map]
 unfold xsL
 rw [cptTo_mem _ _ (by omega)]
 have:(∃ j,j<C.length∧(srtQ (C.map Pt.x)).getD j 0=y)↔y∈srtQ (C.map Pt.x):=by
  rw [List.mem_iff_getElem]
  constructor
  ·rintro ⟨j,hj,e⟩
   rw [List.getD_eq_getElem?_getD,List.getElem?_eq_getElem (by omega)] at e
   exact ⟨j,by omega,e⟩
  ·rintro ⟨j,hj,e⟩
   refine ⟨j,by omega,?_⟩
   rw [List.getD_eq_getElem?_getD,List.getElem?_eq_getElem hj];exact e
 rw [this,(srtQ_perm _).mem_iff,List.mem_map]
theorem xsL_strict (C:List Pt):(xsL C).Pairwise (·<·):=by
 have hl:(srtQ (C.map Pt.x)).length=C.length:=by rw [(srtQ_perm _).length_eq,List.length_map]
 exact cptTo_strict (srtQ_asc _) _ (by omega)
theorem Good.two_x {L:List Pt} (h:Good L) (x:Rat):∃ p∈L,p.x≠x:=by
 by_cases k:∃ p∈L,p.x≠x
 ·exact k
 ·exfalso
  have ev:∀ i,i<L.length→(L.getD i default).x=x:=fun i hi=>by
   by_cases e:(L.getD i default).x=x
   ·exact e
   ·exact absurd ⟨_,by rw [List.getD_eq_getElem?_getD,List.getElem?_eq_getElem hi];exact List.getElem_mem hi,e⟩ k
  have h0:=h.lo
  have s1:=sc_lt (show 0<L.length by omega)
  refine h.fl 0 (by omega) ?_
  unfold ar
  rw [ev 0 (by omega),ev _ s1,ev _ (sc_lt s1)]
  grind
theorem run_spans {L:List Pt} {x:Rat} (h:∀ s∈edgesL L,spans x s=false):∀ i,i<L.length→decide (x<(L.getD i default).x)=decide (x<(L.getD 0 default).x)
 |0,_=>rfl
 |i+1,hi=>by
  rw [←run_spans h i (by omega)]
  have e:L.getD (i+1) default=nx L i:=by rw [nx_sc (by omega)];unfold sc;rw [if_neg (by omega)]
  have:=h _ (seg_mem (show i<L.length by omega))
  unfold spans segOf at this
  simp only at this
  rw [e]
  revert this
  cases decide (x<(L.getD i default).x)<;>cases decide (x<(nx L i).x)<;>simp
theorem line_ok {L:List Pt} {Hs:List (List Pt)} (hv:Valid L Hs) {D:List Rat} (hD:D=xsL (cornersTo (L::Hs) (Hs.length+1))):2≤D.length∧OffL ((D.getD 0 0+D.getD 1 0)/2) L Hs∧∃ l∈L::Hs,∃ s∈edgesL l,spans ((D.getD 0 0+D.getD 1 0)/2) s=true:=by
 have hm:∀ {y},y∈D↔∃ l∈L::Hs,∃ p∈l,p.x=y:=fun {y}=>by
  rw [hD,xsL_mem,cornersTo_all]
  constructor
  ·rintro ⟨p,hp,e⟩
   obtain ⟨l,hl,hp⟩:=List.mem_flatten.1 hp
   exact ⟨l,hl,p,hp,e⟩
  ·rintro ⟨l,hl,p,hp,e⟩
   exact ⟨p,List.mem_flatten.2 ⟨l,hl,hp⟩,e⟩
 have hst:D.Pairwise (·<·):=by rw [hD];exact xsL_strict _
 have h2:2≤D.length:=by
  obtain ⟨p,hp,_⟩:=hv.out.good.two_x 0
  obtain ⟨q,hq,e⟩:=hv.out.good.two_x p.x
  have m1:=hm.2 ⟨L,List.mem_cons_self ..,p,hp,rfl⟩
  have m2:=hm.2 ⟨L,List.mem_cons_self ..,q,hq,rfl⟩
  match D,m1,m2 with
  |[a],m1,m2=>rw [List.mem_singleton.1 m1,List.mem_singleton.1 m2] at e;exact absurd rfl e
  |a::b::t,_,_=>simp
 obtain ⟨lt,h0,hall⟩:=strict_two hst h2
 have hall:∀ l∈L::Hs,∀ p∈l,p.x=D.getD 0 0∨D.getD 1 0≤p.x:=fun l hl p hp=>hall _ (hm.2 ⟨l,hl,p,hp,rfl⟩)
 obtain ⟨l,hl,p,hp,e⟩:=hm.1 h0
 refine ⟨h2,fun l hl p hp=>by rcases hall l hl p hp with k|k<;>grind,l,hl,?_⟩
 by_cases k:∃ s∈edgesL l,spans ((D.getD 0 0+D.getD 1 0)/2) s=true
 ·exact k
 ·exfalso
  have run:=run_spans (L:=l) (x:=(D.getD 0 0+D.getD 1 0)/2) fun s hs=>by
   rw [←Bool.not_eq_true];exact fun h=>k ⟨s,hs,h⟩
  obtain ⟨q,hq,hne⟩:=(vring_of hv hl).good.two_x p.x
  obtain ⟨i,hi,rfl⟩:=mem_getD hp
  obtain ⟨j,hj,rfl⟩:=mem_getD hq
  have:=(run i hi).trans (run j hj).symm
  rw [decide_eq_decide] at this
  rcases hall l hl _ hq with k|k<;>grind
end Go.Av
