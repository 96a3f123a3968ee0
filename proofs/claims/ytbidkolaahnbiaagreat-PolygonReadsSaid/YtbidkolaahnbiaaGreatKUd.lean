/- Helping texts: Ud, Ue. -/
import Derived.Test.YtbidkolaahnbiaaGreatKUc
set_option linter.unusedSimpArgs false
set_option linter.unusedVariables false
set_option maxRecDepth 100000
set_option maxHeartbeats 16000000
namespace Go.Av
open Go.RowKit
open Go.Proofs.Tryz (prog)
theorem partI_sc {F:FuncId} (hF:CmpF F) (l:List Rat) (a b:Nat) (hab:a<b) (hbl:b≤l.length) (hn:l.length<50) (hl0:hq l (2^30)) {blk:Nat} {fx:Bool} {H:Hp} {K:V→Hp→Prop} (hb:get H blk=some (.row 3 true (l.map qc)))
 (hK:∀ t:Bool,(t=true→Srt a b l)→K (.prim (.bool (t))) H):
 SC prog 259 [.sref blk 0 l.length l.length 3 fx,.prim (.int .i64 ((a:Nat):Int)),.prim (.int .i64 ((b:Nat):Int)),.clo F [] []] H K:=by
 refine SCi ?_
 conv in trip _ _=>cbv
 simp only [runT,RN,simprocAttr]
 simp (disch:=omega) only [↓RS,RZ,simprocAttr]
 refine wp_lp (fun (_:Unit) J=>ov [(0,.sref blk 0 l.length l.length 3 fx),(1,.prim (.int .i64 ((a:Nat):Int))),(2,.prim (.int .i64 ((b:Nat):Int))),(3,.clo F [] []),(9,.prim (.int .i64 ((a+1:Nat):Int))),(10,.prim (.int .i64 (0)))] J 0 141) (fun _ H'=>H=H') (fun _=>0) () rfl rfl ?_
 rintro _ J _ rfl
 try conv in ov _ _ _ _=>simp only [ov,List.lookup,RO,simprocAttr]
 simp (disch:=omega) only [↓RS,RZ,simprocAttr]
 refine wp_lp (fun (i:Nat) J=>ov [(0,.sref blk 0 l.length l.length 3 fx),(1,.prim (.int .i64 ((a:Nat):Int))),(2,.prim (.int .i64 ((b:Nat):Int))),(3,.clo F [] []),(9,.prim (.int .i64 ((i:Nat):Int))),(10,.prim (.int .i64 (0)))] J 0 141) (fun i H'=>(a<i∧i≤b∧Srt a i l)∧H=H') (fun i=>b-i) (a+1) rfl ⟨⟨by omega,by omega,fun k h1 h2=>by omega⟩,rfl⟩ ?_
 rintro i J' _ ⟨⟨h1,h2,hs⟩,rfl⟩
 try conv in ov _ _ _ _=>simp only [ov,List.lookup,RO,simprocAttr]
 by_cases hib:i=b
 ·subst hib
  simp (disch:=omega) only [↓RS,RZ,simprocAttr]
  exact hK true fun _=>hs
 ·obtain ⟨k,rfl⟩:∃ k,i=k+1:=⟨i-1,by omega⟩
  have g1:=qc_get (l:=l) (i:=k+1) (by omega)
  have g2:=qc_get (l:=l) (i:=k) (by omega)
  have c:=hF (l.getD (k+1) 0) (l.getD k 0) (hl0 _ (by omega)) (hl0 _ (by omega))
  have ek:((k+1:Nat):Int)-1=((k:Nat):Int):=by omega
  simp (disch:=omega) only [↓RS,RZ,simprocAttr,hb,g1,g2,qc,Nat.zero_add,ek]
  refine cX c ?_
  by_cases hc:cmpQ (l.getD (k+1) 0) (l.getD k 0)<0
  ·simp (disch:=omega) only [↓RS,RZ,simprocAttr]
   exact hK false fun h=>absurd h (by decide)
  ·simp (disch:=omega) only [↓RS,RZ,simprocAttr]
   exact lp_next (k+2) rfl ⟨⟨by omega,by omega,fun j h3 h4=>by
    by_cases e:j=k+1
    ·subst e;exact Rat.not_lt.1 fun h=>hc (cmpQ_lt.2 h)
    ·exact hs j h3 (by omega)⟩,rfl⟩ (by omega)
theorem order2_sc {F:FuncId} (hF:CmpF F) (l:List Rat) (i j n:Nat) (hi:i<l.length) (hj:j<l.length) (hn:l.length<50) (hnn:n<100) (hl0:hq l (2^30)) {blk sb:Nat} {fx:Bool} {H:Hp} {K:V→Hp→Prop} (hb:get H blk=some (.row 3 true (l.map qc))) (hs:get H sb=some (.row 1 true [[.prim (.int .i64 ((n:Nat):Int))]]))
 (hK:∀ i' j' n':Nat,(i'=i∧j'=j∨i'=j∧j'=i)→n'≤n+1→K (.tup [.prim (.int .i64 ((i':Nat):Int)),.prim (.int .i64 ((j':Nat):Int))]) (H.set sb (some (.row 1 true [[.prim (.int .i64 ((n':Nat):Int))]])))):
 SC prog 310 [.sref blk 0 l.length l.length 3 fx,.prim (.int .i64 ((i:Nat):Int)),.prim (.int .i64 ((j:Nat):Int)),.ptr sb 0 0,.clo F [] []] H K:=by
 have g1:=qc_get (l:=l) (i:=i) hi
 have g2:=qc_get (l:=l) (i:=j) hj
 have c:=hF (l.getD j 0) (l.getD i 0) (hl0 _ hj) (hl0 _ hi)
 refine SCi ?_
 conv in trip _ _=>cbv
 simp only [runT,RN,simprocAttr]
 simp (disch:=omega) only [↓RS,RZ,simprocAttr,hb,g1,g2,qc,Nat.zero_add]
 refine cX c ?_
 by_cases hc:cmpQ (l.getD j 0) (l.getD i 0)<0
 ·simp (disch:=omega) only [↓RS,RZ,simprocAttr,hs,wpOp_nilCheck]
  exact hK j i (n+1) (.inr ⟨rfl,rfl⟩) (Nat.le_refl _)
 ·simp (disch:=omega) only [↓RS,RZ,simprocAttr]
  have:=hK i j n (.inl ⟨rfl,rfl⟩) (by omega)
  rwa [set_self hs] at this
theorem median_sc {F:FuncId} (hF:CmpF F) (l:List Rat) (i j k n:Nat) (hi:i<l.length) (hj:j<l.length) (hk:k<l.length) (hn:l.length<50) (hnn:n<90) (hl0:hq l (2^30)) {blk sb:Nat} (hne:sb≠blk) {fx:Bool} {H:Hp} {K:V→Hp→Prop} (hb:get H blk=some (.row 3 true (l.map qc))) (hs:get H sb=some (.row 1 true [[.prim (.int .i64 ((n:Nat):Int))]]))
 (hK:∀ r n':Nat,(r=i∨r=j∨r=k)→n'≤n+3→K (.prim (.int .i64 ((r:Nat):Int))) (H.set sb (some (.row 1 true [[.prim (.int .i64 ((n':Nat):Int))]])))):
 SC prog 303 [.sref blk 0 l.length l.length 3 fx,.prim (.int .i64 ((i:Nat):Int)),.prim (.int .i64 ((j:Nat):Int)),.prim (.int .i64 ((k:Nat):Int)),.ptr sb 0 0,.clo F [] []] H K:=by
 have hsl:=get_lt_len hs
 have s1:∀ x,get (H.set sb x) sb=x:=fun x=>get_eq hsl
 have s2:∀ x y,(H.set sb x).set sb y=H.set sb y:=fun x y=>List.set_set ..
 have s3:∀ x,get (H.set sb x) blk=some (.row 3 true (l.map qc)):=fun x=>by rw [get_ne hne.symm];exact hb
 refine SCi ?_
 conv in trip _ _=>cbv
 simp only [runT,RN,simprocAttr]
 simp (disch:=omega) only [↓RS,RZ,simprocAttr]
 refine call_sc (order2_sc hF l i j n hi hj hn (by omega) hl0 hb hs fun i1 j1 n1 h1 hn1=> ?_)
 simp (disch:=omega) only [↓RS,RZ,simprocAttr]
 refine call_sc (order2_sc hF l j1 k n1 (by omega) hk hn (by omega) hl0 (s3 _) (s1 _) fun j2 k2 n2 h2 hn2=> ?_)
 rw [s2]
 simp (disch:=omega) only [↓RS,RZ,simprocAttr]
 refine call_sc (order2_sc hF l i1 j2 n2 (by omega) (by omega) hn (by omega) hl0 (s3 _) (s1 _) fun i3 j3 n3 h3 hn3=> ?_)
 rw [s2]
 simp (disch:=omega) only [↓RS,RZ,simprocAttr]
 exact hK j3 n3 (by omega) (by omega)
theorem pivot_sc {F:FuncId} (hF:CmpF F) (l:List Rat) (a n:Nat) (h8:12<n) (hbl:a+n≤l.length) (hn:l.length<50) (hl0:hq l (2^30)) {blk:Nat} {fx:Bool} {H:Hp} {K:V→Hp→Prop} (hb:get H blk=some (.row 3 true (l.map qc)))
 (hK:∀ (r:Nat) (h:Int) x,a<r→r<a+n→(h=0∨h=1)→K (.tup [.prim (.int .i64 ((r:Nat):Int)),.prim (.int .i64 (h))]) (H++[x])):
 SC prog 257 [.sref blk 0 l.length l.length 3 fx,.prim (.int .i64 ((a:Nat):Int)),.prim (.int .i64 ((a+n:Nat):Int)),.clo F [] []] H K:=by
 have hbk:=get_lt_len hb
 have en:((a+n:Nat):Int)-(a:Int)=((n:Nat):Int):=by omega
 have ed:((n:Nat):Int).tdiv 4=((n/4:Nat):Int):=tdivN n 4
 have e1:((n/4:Nat):Int)*1=((n/4:Nat):Int):=by omega
 have e2:((n/4:Nat):Int)*2=((n/4*2:Nat):Int):=by omega
 have e3:((n/4:Nat):Int)*3=((n/4*3:Nat):Int):=by omega
 have f1:(a:Int)+((n/4:Nat):Int)=((a+n/4:Nat):Int):=by omega
 have f2:(a:Int)+((n/4*2:Nat):Int)=((a+n/4*2:Nat):Int):=by omega
 have f3:(a:Int)+((n/4*3:Nat):Int)=((a+n/4*3:Nat):Int):=by omega
 refine SCi ?_
 conv in trip _ _=>cbv
 simp only [runT,RN,simprocAttr]
 simp (disch:=omega) only [↓RS,RZ,simprocAttr,en,ed,e1,e2,e3,f1,f2,f3]
 refine call_sc (median_sc hF l (a+n/4) (a+n/4*2) (a+n/4*3) 0 (by omega) (by omega) (by omega) hn (by omega) hl0 (by omega) (get_app hb) get_app_len fun r n' hr hn'=> ?_)
 rw [set_app_len]
 by_cases h0:n'=0
 ·subst h0
  simp (disch:=omega) only [↓RS,RZ,simprocAttr,get_app_len]
  exact hK r 1 _ (by omega) (by omega) (.inr rfl)
 ·simp (disch:=omega) only [↓RS,RZ,simprocAttr,get_app_len]
  exact hK r 0 _ (by omega) (by omega) (.inl rfl)
theorem blen_some:∀ x:Nat,x<50→12<x→blen x=4∨blen x=5∨blen x=6:=by decide
def pow2 (x:Nat):Nat:=2^blen x
theorem pow2_some {x:Nat} (h:x<50) (h1:12<x):pow2 x=16∨pow2 x=32∨pow2 x=64:=by
 unfold pow2
 rcases blen_some x h h1 with e|e|e<;>rw [e]<;>simp
theorem pow2_le {x:Nat} (h:x<50) (h1:12<x):pow2 x≤2*x:=by
 have:∀ x:Nat,x<50→12<x→pow2 x≤2*x:=by decide
 exact this x h h1
theorem npow_pc (x:Nat) (hx:x<50) (h1:12<x):PC prog 300 [.prim (.int .i64 ((x:Nat):Int))] (.prim (.int .u64 ((pow2 x:Nat):Int))):=by
 have c:=blen64_pc x (by omega)
 refine PCi ?_
 conv in trip _ _=>cbv
 simp only [runT,RN,simprocAttr]
 simp (disch:=omega) only [↓RS,RZ,simprocAttr,wrap_nat_u64]
 refine cX c ?_
 unfold pow2
 rcases blen_some x hx h1 with e|e|e
 ·rw [e]
  simp (disch:=omega) only [↓RS,RZ,simprocAttr]
  rfl
 ·rw [e]
  simp (disch:=omega) only [↓RS,RZ,simprocAttr]
  rfl
 ·rw [e]
  simp (disch:=omega) only [↓RS,RZ,simprocAttr]
  rfl
theorem t_xs:tyOf prog 241 =some ⟨1,8,[.int .u64 0],.int .u64,false⟩:=by kernel_rfl
theorem xnext_sc (z:Int) {rb:Nat} {H:Hp} {K:V→Hp→Prop} (hs:get H rb=some (.row 1 true [[.prim (.int .u64 z)]]))
 (hK:∀ z',K (.prim (.int .u64 z')) (H.set rb (some (.row 1 true [[.prim (.int .u64 z')]])))):
 SC prog 301 [.ptr rb 0 0] H K:=by
 have hsl:=get_lt_len hs
 have s1:∀ x,get (H.set rb x) rb=x:=fun x=>get_eq hsl
 have s2:∀ x y,(H.set rb x).set rb y=H.set rb y:=fun x y=>List.set_set ..
 refine SCi ?_
 conv in trip _ _=>cbv
 simp only [runT,RN,simprocAttr]
 simp (disch:=omega) only [↓RS,RZ,simprocAttr,hs,s1,s2,t_xs,wpOp_nilCheck,wpOpD_nilCheck,foot_nilCheck]
 exact hK _
theorem and_low (z:Int) {w:Nat} (hw:w=16∨w=32∨w=64):∃ o:Nat,o<w∧IntKind.i64.wrap (((BitVec.ofInt IntKind.u64.bits z&&&BitVec.ofInt IntKind.u64.bits ((w-1:Nat):Int)).toNat%18446744073709551616:Nat):Int)=(o:Int):=by
 have h:(BitVec.ofInt IntKind.u64.bits z&&&BitVec.ofInt IntKind.u64.bits ((w-1:Nat):Int)).toNat≤w-1:=by
  rw [BitVec.toNat_and]
  refine Nat.le_trans Nat.and_le_right ?_
  rcases hw with rfl|rfl|rfl<;>decide
 refine ⟨(BitVec.ofInt IntKind.u64.bits z&&&BitVec.ofInt IntKind.u64.bits ((w-1:Nat):Int)).toNat,by omega,?_⟩
 rw [Nat.mod_eq_of_lt (by omega),wrap_i64 (by omega) (by omega)]
structure Upd (b:Nat) (H H':Hp):Prop where
 len:H.length≤H'.length
 get:∀ c k,c≠b→get H c=some k→get H' c=some k
theorem Upd.refl (b:Nat) (H:Hp):Upd b H H:=⟨Nat.le_refl _,fun _ _ _ h=>h⟩
theorem Upd.trans {b:Nat} {H H' H'':Hp} (h:Upd b H H') (k:Upd b H' H''):Upd b H H'':=⟨Nat.le_trans h.len k.len,fun c x hc hx=>k.get c x hc (h.get c x hc hx)⟩
theorem Upd.set {b:Nat} {H:Hp} {x:Option Blk}:Upd b H (H.set b x):=⟨by simp,fun c k hc h=>by rw [get_ne hc];exact h⟩
theorem Upd.fresh {b:Nat} {H H':Hp} {x:Option Blk} (h:Upd b H H'):Upd b H (H'.set H.length x):=⟨by have:=h.len;simpa using this,fun c k hc hx=>by
 have:=get_lt_len hx
 rw [get_ne (by omega)];exact h.get c k hc hx⟩
theorem Upd.app {b:Nat} {H l:Hp}:Upd b H (H++l):=⟨by simp,fun c k hc h=>get_app h⟩
theorem break_sc (l:List Rat) (a n:Nat) (h8:12<n) (hbl:a+n≤l.length) (hn:l.length<50) {cmp:V} {blk:Nat} {fx:Bool} {H:Hp} {K:V→Hp→Prop} (hb:get H blk=some (.row 3 true (l.map qc)))
 (hK:∀ m H',Sw a (a+n) l m→Upd blk H H'→get H' blk=some (.row 3 true (m.map qc))→K (.tup []) H'):
 SC prog 256 [.sref blk 0 l.length l.length 3 fx,.prim (.int .i64 ((a:Nat):Int)),.prim (.int .i64 ((a+n:Nat):Int)),cmp] H K:=by
 have hbk:=get_lt_len hb
 have en:((a+n:Nat):Int)-(a:Int)=((n:Nat):Int):=by omega
 have ed:((n:Nat):Int).tdiv 4=((n/4:Nat):Int):=tdivN n 4
 have e2:((n/4:Nat):Int)*2=((n/4*2:Nat):Int):=by omega
 have f2:(a:Int)+((n/4*2:Nat):Int)=((a+n/4*2:Nat):Int):=by omega
 have f3:((a+n/4*2:Nat):Int)-1=((a+n/4*2-1:Nat):Int):=by omega
 have f4:((a+n/4*2:Nat):Int)+1=((a+n/4*2+1:Nat):Int):=by omega
 have c:=npow_pc n (by omega) h8
 have hp:=pow2_some (x:=n) (by omega) h8
 have hp2:=pow2_le (x:=n) (by omega) h8
 refine SCi ?_
 conv in trip _ _=>cbv
 simp only [runT,RN,simprocAttr]
 simp (disch:=omega) only [↓RS,RZ,simprocAttr,en,t_xs,set_app_len]
 refine cX c ?_
 generalize pow2 n=w at*
 simp (disch:=omega) only [↓RS,RZ,simprocAttr,en,ed,e2,f2,f3,f4,set_app_len]
 refine wp_lp (fun (i:Nat) J=>ov [(0,.sref blk 0 l.length l.length 3 fx),(1,.prim (.int .i64 ((a:Nat):Int))),(8,.prim (.int .i64 ((n:Nat):Int))),(9,.ptr H.length 0 0),(10,.prim (.int .u64 ((w:Nat):Int))),(11,.prim (.int .i64 ((i:Nat):Int)))] J 0 67) (fun i H'=>∃ m:List Rat,∃ z:Int,(a+n/4*2-1≤i∧Sw a (a+n) l m∧Upd blk H H'∧get H' blk=some (.row 3 true (m.map qc))∧get H' H.length=some (.row 1 true [[.prim (.int .u64 z)]]))) (fun i=>a+n-i) (a+n/4*2-1) rfl ⟨l,_,Nat.le_refl _,.refl l,.app,get_app hb,get_app_len⟩ ?_
 rintro i J H' ⟨m,z,hi,hsw,hU,hg,hz⟩
 try conv in ov _ _ _ _=>simp only [ov,List.lookup,RO,simprocAttr]
 have hml:=hsw.length
 have hl1:=get_lt_len hg
 have hl2:=get_lt_len hz
 by_cases hlast:i≤a+n/4*2+1
 ·simp (disch:=omega) only [↓RS,RZ,simprocAttr,en,ed,e2,f2,f4]
  refine call_sc (xnext_sc z hz fun z'=> ?_)
  obtain ⟨o,ho,eo⟩:=and_low z' hp
  have h1:H.length≠blk:=by omega
  have s3:∀ x,get (H'.set H.length x) blk=some (.row 3 true (m.map qc)):=fun x=>by rw [get_ne h1.symm];exact hg
  have g1:=qc_get (l:=m) (i:=i) (by omega)
  have hw1:1≤w:=by omega
  have s5:∀ x y,get ((H'.set H.length x).set blk y) blk=y:=fun x y=>get_eq (by simpa using hl1)
  have s6:∀ x y z,((H'.set H.length x).set blk y).set blk z=(H'.set H.length x).set blk z:=fun x y z=>List.set_set ..
  have key:∀ q,q<n→∃ m2:List Rat,∃ z2:Int,(a+n/4*2-1≤i+1∧Sw a (a+n) l m2∧Upd blk H ((H'.set H.length (some (.row 1 true [[.prim (.int .u64 z')]]))).set blk (some (.row 3 true ((swp m i (a+q)).map qc))))∧get ((H'.set H.length (some (.row 1 true [[.prim (.int .u64 z')]]))).set blk (some (.row 3 true ((swp m i (a+q)).map qc)))) blk=some (.row 3 true (m2.map qc))∧get ((H'.set H.length (some (.row 1 true [[.prim (.int .u64 z')]]))).set blk (some (.row 3 true ((swp m i (a+q)).map qc)))) H.length=some (.row 1 true [[.prim (.int .u64 z2)]])):=fun q hq=>
   ⟨_,z',by omega,hsw.trans (.step i (a+q) (by omega) (by omega) (by omega) (by omega) (by omega) (.refl _)),hU.fresh.trans .set,s5 _ _,by rw [get_ne h1];exact get_eq hl2⟩
  by_cases hon:n≤o
  ·have g2:=qc_get (l:=m) (i:=a+(o-n)) (by omega)
   have gx:((m.map qc).set i (qc (m.getD (a+(o-n)) 0)))[a+(o-n)]? =some (qc (m.getD (a+(o-n)) 0)):=by
    by_cases e:i=a+(o-n)
    ·rw [e,List.getElem?_set_self (by rw [List.length_map];omega)]
    ·rw [List.getElem?_set_ne e];exact g2
   have es:= @swp_qc m i (a+(o-n))
   simp only [qc] at es gx
   simp (disch:=omega) only [↓RS,RZ,simprocAttr,en,ed,e2,f2,f4,eo,s3,s5,s6,g1,g2,gx,qc,es,Nat.zero_add]
   exact lp_next (i+1) rfl (key (o-n) (by omega)) (by omega)
  ·have g2:=qc_get (l:=m) (i:=a+o) (by omega)
   have gx:((m.map qc).set i (qc (m.getD (a+o) 0)))[a+o]? =some (qc (m.getD (a+o) 0)):=by
    by_cases e:i=a+o
    ·rw [e,List.getElem?_set_self (by rw [List.length_map];omega)]
    ·rw [List.getElem?_set_ne e];exact g2
   have es:= @swp_qc m i (a+o)
   simp only [qc] at es gx
   simp (disch:=omega) only [↓RS,RZ,simprocAttr,en,ed,e2,f2,f4,eo,s3,s5,s6,g1,g2,gx,qc,es,Nat.zero_add]
   exact lp_next (i+1) rfl (key o (by omega)) (by omega)
 ·simp (disch:=omega) only [↓RS,RZ,simprocAttr,en,ed,e2,f2,f4]
  exact hK m H' hsw hU hg
end Go.Av
namespace Go.Av
open Go.RowKit
open Go.Proofs.Tryz (prog)
theorem Srt.glue {a c b:Nat} {l:List Rat} (h1:Srt a c l) (h2:Srt c b l) (h:a<c→c<b→l.getD (c-1) 0≤l.getD c 0):Srt a b l:=fun k h3 h4=>by
 rcases Nat.lt_trichotomy k c with h5|h5|h5
 ·exact h1 k h3 h5
 ·subst h5;exact h h3 h4
 ·exact h2 k h5 h4
theorem Srt.cong {a b:Nat} {l m:List Rat} (h:Srt a b l) (he:∀ k,a≤k→k<b→m.getD k 0=l.getD k 0):Srt a b m:=fun k h1 h2=>by
 rw [he _ (by omega) (by omega),he _ (by omega) (by omega)];exact h k h1 h2
def Pre (a b:Nat) (l:List Rat):Prop:=0<a→∀ k,a≤k→k<b→l.getD (a-1) 0≤l.getD k 0
theorem Pre.sw {a b:Nat} {l m:List Rat} (h:Pre a b l) (hs:Sw a b l m):Pre a b m:=fun h0 k h1 h2=>by
 rw [hs.out (k:=a-1) (by omega)]
 exact hs.all (P:=fun x=>l.getD (a-1) 0≤x) (h h0) k h1 h2
def Rest (a b a1 b1:Nat) (m:List Rat):Prop:=∀ m',Sw a1 b1 m m'→Srt a1 b1 m'→Srt a b m'
theorem Rest.sw {a b a1 b1:Nat} {l m:List Rat} (h:Rest a b a1 b1 l) (hs:Sw a1 b1 l m):Rest a b a1 b1 m:=fun m' h1 h2=>h m' (hs.trans h1) h2
theorem Rest.equal {a b a1 b1 mid:Nat} {m:List Rat} (h:Rest a b a1 b1 m) (h1:a1<mid) (h2:mid≤b1) (hb:b1≤m.length) (he:∀ k k',a1≤k→k<mid→a1≤k'→k'<b1→m.getD k 0≤m.getD k' 0):Rest a b mid b1 m∧Pre mid b1 m:=by
 refine ⟨fun m' k1 k2=>h m' (k1.mono (by omega) (Nat.le_refl _) hb) (Srt.glue (c:=mid) ?_ k2 fun h3 h4=> ?_),fun h3 k h4 h5=>he _ _ (by omega) (by omega) (by omega) h5⟩
 ·refine Srt.cong (l:=m) (fun k h3 h4=>he _ _ (by omega) (by omega) (by omega) (by omega)) fun k h3 h4=>k1.out (.inl h4)
 ·rw [k1.out (k:=mid-1) (by omega)]
  exact k1.all (P:=fun x=>m.getD (mid-1) 0≤x) (fun k h5 h6=>he _ _ (by omega) (by omega) (by omega) h6) mid (Nat.le_refl _) h4
theorem Rest.left {a b a1 b1 mid:Nat} {m m3:List Rat} (h:Rest a b a1 b1 m) (hP:PartP a1 b1 mid m) (hb:b1≤m.length) (hs:Sw a1 mid m m3) (hd:Srt a1 mid m3):Rest a b (mid+1) b1 m3∧Pre (mid+1) b1 m3:=by
 obtain ⟨h1,h2,h3,h4⟩:=hP
 have hl:=hs.length
 have em:m3.getD mid 0=m.getD mid 0:=hs.out (.inr (Nat.le_refl _))
 have hlt:∀ k,a1≤k→k<mid→m3.getD k 0≤m.getD mid 0:=hs.all (P:=fun x=>x≤m.getD mid 0) h3
 have hgt:∀ k,mid<k→k<b1→m.getD mid 0≤m3.getD k 0:=fun k h5 h6=>by rw [hs.out (.inr (by omega))];exact h4 k h5 h6
 refine ⟨fun m' k1 k2=>h m' ((hs.mono (Nat.le_refl _) (by omega) hb).trans (k1.mono (by omega) (Nat.le_refl _) (by omega))) (Srt.glue (c:=mid+1) (Srt.glue (c:=mid) ?_ (fun k h5 h6=>by omega) fun h5 h6=> ?_) k2 fun h5 h6=> ?_),fun h5 k h6 h7=> ?_⟩
 ·exact hd.cong fun k h5 h6=>k1.out (.inl (by omega))
 ·rw [k1.out (k:=mid-1) (by omega),k1.out (k:=mid) (by omega),em];exact hlt _ (by omega) (by omega)
 ·rw [Nat.add_sub_cancel,k1.out (k:=mid) (by omega),em]
  exact k1.all (P:=fun x=>m.getD mid 0≤x) (fun k h7 h8=>hgt k (by omega) h8) _ (Nat.le_refl _) h6
 ·rw [Nat.add_sub_cancel,em];exact hgt k (by omega) h7
theorem Rest.right {a b a1 b1 mid:Nat} {m m3:List Rat} (h:Rest a b a1 b1 m) (hp:Pre a1 b1 m) (hP:PartP a1 b1 mid m) (hb:b1≤m.length) (hs:Sw (mid+1) b1 m m3) (hd:Srt (mid+1) b1 m3):Rest a b a1 mid m3∧Pre a1 mid m3:=by
 obtain ⟨h1,h2,h3,h4⟩:=hP
 have hl:=hs.length
 have em:m3.getD mid 0=m.getD mid 0:=hs.out (.inl (by omega))
 have hgt:∀ k,mid+1≤k→k<b1→m.getD mid 0≤m3.getD k 0:=hs.all (P:=fun x=>m.getD mid 0≤x) fun k h5 h6=>h4 k (by omega) h6
 have hlt:∀ k,a1≤k→k<mid→m3.getD k 0≤m.getD mid 0:=fun k h5 h6=>by rw [hs.out (.inl (by omega))];exact h3 k h5 h6
 refine ⟨fun m' k1 k2=>h m' ((hs.mono (by omega) (Nat.le_refl _) hb).trans (k1.mono (Nat.le_refl _) (by omega) (by omega))) (Srt.glue (c:=mid) k2 (Srt.glue (c:=mid+1) (fun k h5 h6=>by omega) ?_ fun h5 h6=> ?_) fun h5 h6=> ?_),fun h5 k h6 h7=> ?_⟩
 ·exact hd.cong fun k h5 h6=>k1.out (.inr (by omega))
 ·rw [Nat.add_sub_cancel,k1.out (k:=mid) (by omega),k1.out (k:=mid+1) (by omega),em];exact hgt _ (Nat.le_refl _) h6
 ·rw [k1.out (k:=mid) (by omega),em]
  exact k1.all (P:=fun x=>x≤m.getD mid 0) hlt _ (by omega) (by omega)
 ·rw [hs.out (k:=a1-1) (by omega),hs.out (k:=k) (by omega)];exact hp h5 k h6 (by omega)
def joinX {S:Type} (st:S→(Nat→V)→List V) (Inv:S→Hp→Prop) (Q:Post):Post:=fun x T H=>match x with
 | .normal=>∃ s,T=st s (fun k=>T.getD k undefV)∧Inv s H
 |x=>Q x T H
theorem joinX_exit {S:Type} {st:S→(Nat→V)→List V} {Inv:S→Hp→Prop} {Q:Post} {T:List V} {H:Hp} {i:Nat}:joinX st Inv Q (.exit i) T H=Q (.exit i) T H:=rfl
theorem joinX_ret {S:Type} {st:S→(Nat→V)→List V} {Inv:S→Hp→Prop} {Q:Post} {T:List V} {H:Hp}:joinX st Inv Q .ret T H=Q .ret T H:=rfl
theorem join_end {S:Type} {st:S→(Nat→V)→List V} {Inv:S→Hp→Prop} {Q:Post} {T:List V} {H:Hp} (s:S) (h1:T=st s (fun k=>T.getD k undefV)) (h2:Inv s H):joinX st Inv Q .normal T H:=⟨s,h1,h2⟩
theorem wp_join {P:Program} {c d:LC} {T:List V} {H:Hp} {Q:Post} {S:Type} (st:S→(Nat→V)→List V) (Inv:S→Hp→Prop) (h:wpL P c T H (joinX st Inv Q)) (rest:∀ s J H,Inv s H→wpL P d (st s J) H Q):wpL P (c.seq d) T H Q:=by
 show wpL P c T H (seqQ P d Q)
 refine wpL_mono c ?_ h
 intro x T' H' hq
 cases x with
 |normal=>
  obtain ⟨s,e1,e2⟩:=hq
  show wpL P d T' H' Q
  rw [e1];exact rest s _ _ e2
 |_=>exact hq
theorem wp_assoc {P:Program} {c d e:LC} {T:List V} {H:Hp} {Q:Post}:wpL P (c.seq (d.seq e)) T H Q=wpL P ((c.seq d).seq e) T H Q:=by
 show wpL P c T H (seqQ P (d.seq e) Q)=wpL P c T H (seqQ P d (seqQ P e Q))
 congr 1
 funext x T' H'
 cases x<;>rfl
structure J1 (a1 b1:Nat) (m:List Rat) (blk:Nat) (H:Hp) (k2:Nat) (H':Hp):Prop where
 len:12<b1-a1
 lim:k2≤64
 ex:∃ m2:List Rat,Sw a1 b1 m m2∧Upd blk H H'∧get H' blk=some (.row 3 true (m2.map qc))
structure J2 (a1 n:Nat) (m2:List Rat) (blk:Nat) (H:Hp) (r:Nat) (H':Hp):Prop where
 lo:a1<r
 hi:r<a1+n
 upd:Upd blk H H'
 get:get H' blk=some (.row 3 true (m2.map qc))
theorem pdqG_sc {F:FuncId} (hF:CmpF F) (s:Nat):∀ (l:List Rat) (a b lim:Nat) (_:b-a≤s) (_:a≤b) (_:b≤l.length) (_:l.length<50) (_:hq l (2^30)) (_:Pre a b l) (_:lim≤64) {blk:Nat} {fx:Bool} {H:Hp} {K:V→Hp→Prop} (_:get H blk=some (.row 3 true (l.map qc)))
 (_:∀ m H',Sw a b l m→Srt a b m→Upd blk H H'→get H' blk=some (.row 3 true (m.map qc))→K (.tup []) H'),
 SC prog 193 [.sref blk 0 l.length l.length 3 fx,.prim (.int .i64 ((a:Nat):Int)),.prim (.int .i64 ((b:Nat):Int)),.prim (.int .i64 ((lim:Nat):Int)),.clo F [] []] H K:=by
 induction s using Nat.strongRecOn with
 |ind s ih=>
  intro l a b lim hs hab hbl hn hl0 hpre hlim blk fx H K hb hK
  refine SCi ?_
  conv in trip _ _=>cbv
  simp only [runT,RN,simprocAttr]
  simp (disch:=omega) only [↓RS,RZ,simprocAttr]
  refine wp_lp (fun (x:Nat×Nat×Nat×Bool×Bool) J=>ov [(0,.sref blk 0 l.length l.length 3 fx),(1,.prim (.int .i64 ((x.1:Nat):Int))),(2,.prim (.int .i64 ((x.2.1:Nat):Int))),(3,.prim (.int .i64 ((x.2.2.1:Nat):Int))),(4,.clo F [] []),(10,.prim (.bool (x.2.2.2.1))),(11,.prim (.bool (x.2.2.2.2)))] J 0 148) (fun x H'=>∃ m:List Rat,(a≤x.1∧x.1≤x.2.1∧x.2.1≤b∧x.2.2.1≤64)∧Sw a b l m∧Pre x.1 x.2.1 m∧Rest a b x.1 x.2.1 m∧Upd blk H H'∧get H' blk=some (.row 3 true (m.map qc))) (fun x=>x.2.1-x.1) (a,b,lim,true,true) rfl ⟨l,⟨Nat.le_refl _,hab,Nat.le_refl _,hlim⟩,.refl l,hpre,fun m' _ h=>h,.refl _ _,hb⟩ ?_
  rintro ⟨a1,b1,k1,bal,part⟩ J H1 ⟨m,⟨h1,h2,h3,h4⟩,hsw,hp,hR,hU,hg⟩
  try conv in ov _ _ _ _=>simp only [ov,List.lookup,RO,simprocAttr]
  try conv in ov _ _ _ _=>simp only [ov,List.lookup,RO,simprocAttr]
  try conv in ov _ _ _ _=>simp only [ov,List.lookup,RO,simprocAttr]
  simp only at h1 h2 h3 h4 hp hR ⊢
  have hml:=hsw.length
  have q:=hsw.hq hl0
  have e0:((b1:Nat):Int)-(a1:Int)=((b1-a1:Nat):Int):=by omega
  simp only [wpL_block]
  rw [wp_assoc,wp_assoc,wp_assoc]
  refine wp_join (fun (k2:Nat) J=>ov [(0,.sref blk 0 l.length l.length 3 fx),(1,.prim (.int .i64 ((a1:Nat):Int))),(2,.prim (.int .i64 ((b1:Nat):Int))),(3,.prim (.int .i64 ((k2:Nat):Int))),(4,.clo F [] []),(10,.prim (.bool (bal))),(11,.prim (.bool (part))),(12,.prim (.int .i64 ((b1-a1:Nat):Int)))] J 0 148) (J1 a1 b1 m blk H) ?_ ?_
  ·by_cases hlen:b1-a1≤12
   ·have ic:=fun K0 hK0=> @isortG_sc F hF m a1 b1 h2 (by omega) (by omega) q blk fx H1 K0 hg hK0
    rw [hml] at ic
    simp (disch:=omega) only [↓RS,RZ,simprocAttr,e0]
    refine call_sc (ic _ fun m2 hw2 hs2=> ?_)
    simp (disch:=omega) only [↓RS,RZ,simprocAttr,joinX_ret]
    exact hK m2 _ (hsw.trans (hw2.mono h1 h3 (by omega))) (hR m2 hw2 hs2) (hU.trans .set) (get_eq (get_lt_len hg))
   ·by_cases hk:k1=0
    ·subst hk
     have ic:=fun K0 hK0=> @heap_sc F hF m a1 b1 (by omega) (by omega) (by omega) q blk fx H1 K0 hg hK0
     rw [hml] at ic
     simp (disch:=omega) only [↓RS,RZ,simprocAttr,e0]
     refine call_sc (ic _ fun m2 hw2 hs2=> ?_)
     simp (disch:=omega) only [↓RS,RZ,simprocAttr,joinX_ret]
     exact hK m2 _ (hsw.trans (hw2.mono h1 h3 (by omega))) (hR m2 hw2 hs2) (hU.trans .set) (get_eq (get_lt_len hg))
    ·obtain ⟨k,rfl⟩:∃ k,k1=k+1:=⟨k1-1,by omega⟩
     have ek:((k+1:Nat):Int)-1=((k:Nat):Int):=by omega
     rcases bal with _|_
     ·obtain ⟨n,rfl⟩:∃ n,b1=a1+n:=⟨b1-a1,by omega⟩
      have ic:=fun K0 hK0=> @break_sc m a1 n (by omega) (by omega) (by omega) (.clo F [] []) blk fx H1 K0 hg hK0
      rw [hml] at ic
      simp (disch:=omega) only [↓RS,RZ,simprocAttr,e0]
      refine call_sc (ic _ fun m2 H2 hw2 hU2 hg2=> ?_)
      simp (disch:=omega) only [↓RS,RZ,simprocAttr,ek]
      exact join_end k rfl ⟨by omega,by omega,m2,hw2,hU.trans hU2,hg2⟩
     ·simp (disch:=omega) only [↓RS,RZ,simprocAttr,e0]
      exact join_end (k+1) rfl ⟨by omega,h4,m,.refl m,hU,hg⟩
  ·rintro k2 J' H2 ⟨hlen,hk2,⟨m2,hw2,hU2,hg2⟩⟩
   try conv in ov _ _ _ _=>simp only [ov,List.lookup,RO,simprocAttr]
   try conv in ov _ _ _ _=>simp only [ov,List.lookup,RO,simprocAttr]
   try conv in ov _ _ _ _=>simp only [ov,List.lookup,RO,simprocAttr]
   have hml2:=hw2.length
   obtain ⟨n,rfl⟩:∃ n,b1=a1+n:=⟨b1-a1,by omega⟩
   have q2:=hw2.hq q
   have hR2:=hR.sw hw2
   have hp2:=hp.sw hw2
   rw [wp_assoc,wp_assoc]
   refine wp_join (fun (r:Nat) J=>ov [(0,.sref blk 0 l.length l.length 3 fx),(1,.prim (.int .i64 ((a1:Nat):Int))),(2,.prim (.int .i64 ((a1+n:Nat):Int))),(3,.prim (.int .i64 ((k2:Nat):Int))),(4,.clo F [] []),(10,.prim (.bool (bal))),(11,.prim (.bool (part))),(12,.prim (.int .i64 ((a1+n-a1:Nat):Int))),(13,.prim (.int .i64 ((r:Nat):Int)))] J 0 148) (J2 a1 n m2 blk H) ?_ ?_
   ·have ip:=fun K0 hK0=> @pivot_sc F hF m2 a1 n (by omega) (by omega) (by omega) q2 blk fx H2 K0 hg2 hK0
    rw [hml2,hml] at ip
    simp (disch:=omega) only [↓RS,RZ,simprocAttr,e0]
    refine call_sc (ip _ fun r h x hr1 hr2 hh=> ?_)
    have hgx:get (H2++[x]) blk=some (.row 3 true (m2.map qc)):=get_app hg2
    have hUx:Upd blk H (H2++[x]):=hU2.trans .app
    generalize H2++[x]=H3 at*
    rcases bal with _|_
    ·simp (disch:=omega) only [↓RS,RZ,simprocAttr]
     exact join_end r rfl ⟨hr1,hr2,hUx,hgx⟩
    ·rcases part with _|_
     ·simp (disch:=omega) only [↓RS,RZ,simprocAttr]
      exact join_end r rfl ⟨hr1,hr2,hUx,hgx⟩
     ·rcases hh with rfl|rfl
      ·simp (disch:=omega) only [↓RS,RZ,simprocAttr]
       exact join_end r rfl ⟨hr1,hr2,hUx,hgx⟩
      ·have iq:=fun K0 hK0=> @partI_sc F hF m2 a1 (a1+n) (by omega) (by omega) (by omega) (hw2.hq q) blk fx H3 K0 hgx hK0
       rw [hml2,hml] at iq
       simp (disch:=omega) only [↓RS,RZ,simprocAttr]
       refine call_sc (iq _ fun t ht=> ?_)
       rcases t with _|_
       ·simp (disch:=omega) only [↓RS,RZ,simprocAttr]
        exact join_end r rfl ⟨hr1,hr2,hUx,hgx⟩
       ·simp (disch:=omega) only [↓RS,RZ,simprocAttr,joinX_ret]
        exact hK m2 _ (hsw.trans (hw2.mono h1 h3 (by omega))) (hR m2 hw2 (ht rfl)) hUx hgx
   ·rintro r J2 H3 ⟨hr1,hr2,hUx,hgx⟩
    try conv in ov _ _ _ _=>simp only [ov,List.lookup,RO,simprocAttr]
    try conv in ov _ _ _ _=>simp only [ov,List.lookup,RO,simprocAttr]
    try conv in ov _ _ _ _=>simp only [ov,List.lookup,RO,simprocAttr]
    refine wp_join (fun (_:Unit) J=>ov [(0,.sref blk 0 l.length l.length 3 fx),(1,.prim (.int .i64 ((a1:Nat):Int))),(2,.prim (.int .i64 ((a1+n:Nat):Int))),(3,.prim (.int .i64 ((k2:Nat):Int))),(4,.clo F [] []),(10,.prim (.bool (bal))),(11,.prim (.bool (part))),(12,.prim (.int .i64 ((a1+n-a1:Nat):Int))),(13,.prim (.int .i64 ((r:Nat):Int)))] J 0 148) (fun _ H'=>H3=H') ?_ ?_
    ·by_cases hc0:0<a1
     ·have g1:=qc_get (l:=m2) (i:=a1-1) (by omega)
      have g2:=qc_get (l:=m2) (i:=r) (by omega)
      have ea:(a1:Int)-1=((a1-1:Nat):Int):=by omega
      have c:=hF (m2.getD (a1-1) 0) (m2.getD r 0) (q2 _ (by omega)) (q2 _ (by omega))
      simp (disch:=omega) only [↓RS,RZ,simprocAttr,hgx,g1,g2,qc,Nat.zero_add,ea]
      refine cX c ?_
      by_cases hc:cmpQ (m2.getD (a1-1) 0) (m2.getD r 0)<0
      ·simp (disch:=omega) only [↓RS,RZ,simprocAttr]
       exact join_end () rfl rfl
      ·have hmin:∀ k,a1≤k→k<a1+n→m2.getD r 0≤m2.getD k 0:=fun k k1 k2=>Rat.le_trans (Rat.not_lt.1 fun h=>hc (cmpQ_lt.2 h)) (hp2 hc0 k k1 k2)
       have ic:=fun K0 hK0=> @partE_sc F hF m2 a1 (a1+n) r hr1 hr2 (by omega) (by omega) q2 hmin blk fx H3 K0 hgx hK0
       rw [hml2,hml] at ic
       simp (disch:=omega) only [↓RS,RZ,simprocAttr]
       refine call_sc (ic _ fun m3 mid hw3 u1 u2 u3=> ?_)
       have hml3:=hw3.length
       have hn:=(hR2.sw hw3).equal u1 u2 (by omega) u3
       simp (disch:=omega) only [↓RS,RZ,simprocAttr,joinX_exit]
       exact lp_next (mid,a1+n,k2,bal,part) rfl ⟨m3,⟨by simp only;omega,by simp only;omega,by simp only;omega,by simp only;omega⟩,hsw.trans ((hw2.trans hw3).mono h1 h3 (by omega)),hn.2,hn.1,hUx.trans .set,get_eq (get_lt_len hgx)⟩ (by simp only;omega)
     ·simp (disch:=omega) only [↓RS,RZ,simprocAttr]
      exact join_end () rfl rfl
    ·rintro _ J3 _ rfl
     try conv in ov _ _ _ _=>simp only [ov,List.lookup,RO,simprocAttr]
     try conv in ov _ _ _ _=>simp only [ov,List.lookup,RO,simprocAttr]
     try conv in ov _ _ _ _=>simp only [ov,List.lookup,RO,simprocAttr]
     have ic:=fun K0 hK0=> @part_sc F hF m2 a1 (a1+n) r hr1 hr2 (by omega) (by omega) q2 blk fx H3 K0 hgx hK0
     rw [hml2,hml] at ic
     simp (disch:=omega) only [↓RS,RZ,simprocAttr]
     refine call_sc (ic _ fun m3 mid t hw3 hP=> ?_)
     have hml3:=hw3.length
     have hg3:get (H3.set blk (some (.row 3 true (m3.map qc)))) blk=some (.row 3 true (m3.map qc)):=get_eq (get_lt_len hgx)
     have hU3:Upd blk H (H3.set blk (some (.row 3 true (m3.map qc)))):=hUx.trans .set
     generalize H3.set blk (some (.row 3 true (m3.map qc)))=H4 at*
     have hR3:=hR2.sw hw3
     have hp3:=hp2.sw hw3
     have q3:=hw3.hq q2
     have p1:=hP.1
     have p2:=hP.2.1
     have em1:((mid:Nat):Int)-(a1:Int)=((mid-a1:Nat):Int):=by omega
     have em2:((a1+n:Nat):Int)-(mid:Int)=((a1+n-mid:Nat):Int):=by omega
     have e8:((a1+n-a1:Nat):Int).tdiv 8=(((a1+n-a1)/8:Nat):Int):=tdivN _ 8
     by_cases hlr:mid-a1<a1+n-mid
     ·have ir:=fun (lim2:Nat) (hl2:lim2≤64) K0 hK0=> @ih (mid-a1) (by omega) m3 a1 mid lim2 (Nat.le_refl _) p1 (by omega) (by omega) q3 (fun h0 k k1 k2=>hp3 h0 k k1 (by omega)) hl2 blk fx H4 K0 hg3 hK0
      rw [hml3,hml2,hml] at ir
      simp (disch:=omega) only [↓RS,RZ,simprocAttr,em1,em2,e8]
      refine call_sc (ir k2 hk2 _ fun m4 H5 hw4 hs4 hU5 hg5=> ?_)
      have hn:=hR3.left hP (by omega) hw4 hs4
      simp (disch:=omega) only [↓RS,RZ,simprocAttr]
      exact lp_next (mid+1,a1+n,k2,decide ((a1+n-a1)/8≤mid-a1),t) rfl ⟨m4,⟨by simp only;omega,by simp only;omega,by simp only;omega,by simp only;omega⟩,hsw.trans (((hw2.trans hw3).trans (hw4.mono (Nat.le_refl _) (by omega) (by omega))).mono h1 h3 (by omega)),hn.2,hn.1,hU3.trans hU5,hg5⟩ (by simp only;omega)
     ·have ir:=fun (lim2:Nat) (hl2:lim2≤64) K0 hK0=> @ih (a1+n-(mid+1)) (by omega) m3 (mid+1) (a1+n) lim2 (Nat.le_refl _) (by omega) (by omega) (by omega) q3 (fun _ k k1 k2=>by rw [Nat.add_sub_cancel];exact hP.2.2.2 k (by omega) k2) hl2 blk fx H4 K0 hg3 hK0
      rw [hml3,hml2,hml] at ir
      simp (disch:=omega) only [↓RS,RZ,simprocAttr,em1,em2,e8]
      refine call_sc (ir k2 hk2 _ fun m4 H5 hw4 hs4 hU5 hg5=> ?_)
      have hn:=hR3.right hp3 hP (by omega) hw4 hs4
      simp (disch:=omega) only [↓RS,RZ,simprocAttr]
      exact lp_next (a1,mid,k2,decide ((a1+n-a1)/8≤a1+n-mid),t) rfl ⟨m4,⟨by simp only;omega,by simp only;omega,by simp only;omega,by simp only;omega⟩,hsw.trans (((hw2.trans hw3).trans (hw4.mono (by omega) (Nat.le_refl _) (by omega))).mono h1 h3 (by omega)),hn.2,hn.1,hU3.trans hU5,hg5⟩ (by simp only;omega)
def srtQ (l:List Rat):List Rat:=l.mergeSort fun a b=>decide (a≤b)
theorem srtQ_perm (l:List Rat):(srtQ l).Perm l:=List.mergeSort_perm _ _
theorem srtQ_asc (l:List Rat):(srtQ l).Pairwise (·≤·):=by
 refine (List.pairwise_mergeSort (fun a b c h1 h2=> ?_) (fun a b=> ?_) l).imp fun h=>of_decide_eq_true h
 ·exact decide_eq_true (Rat.le_trans (of_decide_eq_true h1) (of_decide_eq_true h2))
 ·rcases Rat.le_total (a:=a) (b:=b) with h|h
  ·rw [decide_eq_true h];rfl
  ·rw [decide_eq_true h];simp
theorem asc_eq {l m:List Rat} (h:l.Perm m) (h1:l.Pairwise (·≤·)) (h2:m.Pairwise (·≤·)):l=m:=
 List.Perm.eq_of_pairwise (fun a b _ _ k1 k2=>Rat.le_antisymm k1 k2) h1 h2 h
theorem Srt.asc {l:List Rat} (h:Srt 0 l.length l):l.Pairwise (·≤·):=by
 rw [List.pairwise_iff_getElem]
 intro i j hi hj hij
 have:=h.le (Nat.zero_le i) (Nat.le_of_lt hij) hj
 rwa [List.getD_eq_getElem?_getD,List.getD_eq_getElem?_getD,List.getElem?_eq_getElem hi,List.getElem?_eq_getElem hj] at this
theorem blen_64:∀ x:Nat,x<50→blen x≤64:=by decide
theorem sortG_sc {F:FuncId} (hF:CmpF F) (l:List Rat) (hn:l.length<50) (hl0:hq l (2^30)) {b:Nat} {fx:Bool} {H:Hp} {K:V→Hp→Prop} (hb:get H b=some (.row 3 true (l.map qc)))
 (hK:∀ H',Upd b H H'→get H' b=some (.row 3 true ((srtQ l).map qc))→K (.tup []) H'):
 SC prog 118 [.sref b 0 l.length l.length 3 fx,.clo F [] []] H K:=by
 have c:=blen64_pc l.length (by omega)
 refine SCi ?_
 conv in trip _ _=>cbv
 simp only [runT,RN,simprocAttr]
 simp (disch:=omega) only [↓RS,RZ,simprocAttr,wrap_nat_u64]
 refine cX c ?_
 simp (disch:=omega) only [↓RS,RZ,simprocAttr]
 refine call_sc (pdqG_sc hF l.length l 0 l.length (blen l.length) (Nat.le_refl _) (Nat.zero_le _) (Nat.le_refl _) hn hl0 (fun h=>absurd h (Nat.lt_irrefl _)) (blen_64 _ hn) hb fun m H' hw hs hU hg=> ?_)
 simp (disch:=omega) only [↓RS,RZ,simprocAttr]
 have e:m=srtQ l:=asc_eq (hw.perm.trans (srtQ_perm l).symm) (Srt.asc (by rw [hw.length];exact hs)) (srtQ_asc l)
 rw [e] at hg
 exact hK H' hU hg
end Go.Av
