/- Helping texts: Re, Rf, Rg. -/
import Derived.Test.YtbidkolaahnbiaaGreatKRa
set_option linter.unusedSimpArgs false
set_option linter.unusedVariables false
set_option maxRecDepth 100000
set_option maxHeartbeats 16000000
open Nat (reduceAdd reduceLT reduceLeDiff reducePow reduceDiv reduceMod reduceEqDiff)
namespace Go.Av
open Go.RowKit
open Go.Proofs.Tryz (prog)
theorem bval_app (l m:List UInt8):bval (l++m)=bval l*256^m.length+bval m:=by
 have h:=bval_fold m (bval l)
 rw [←h];simp only [bval,List.foldl_append]
theorem bval_split (l:List UInt8) (k:Nat):bval l=bval (l.take k)*256^(l.length-k)+bval (l.drop k):=by
 conv=>lhs;rw [←List.take_append_drop k l]
 rw [bval_app];simp
theorem bval_set {l:List UInt8} {k e:Nat} {b:UInt8} (h:k+e+1=l.length):bval (l.set k b)+256^e*(l.getD k 0).toNat=bval l+256^e*b.toNat:=by
 have hk:k<l.length:=by omega
 rw [bval_split (l.set k b) k,bval_split l k,List.length_set,List.take_set_of_le (Nat.le_refl k)]
 have h1:l.drop k=l.getD k 0::l.drop (k+1):=by
  rw [List.drop_eq_getElem_cons hk,List.getD_eq_getElem?_getD,List.getElem?_eq_getElem hk,Option.getD_some]
 have h2:(l.set k b).drop k=b::l.drop (k+1):=by
  rw [List.drop_eq_getElem_cons (by rw [List.length_set];exact hk),List.getElem_set_self,List.drop_set_of_lt (by omega)]
 rw [h1,h2,bval_cons,bval_cons,List.length_drop,show l.length-(k+1)=e by omega,Nat.mul_comm (256^e),Nat.mul_comm (256^e)]
 omega
def iw (l:List UInt8):List (List V):=l.map fun b=>[.prim (.int .i64 ((b.toNat:Nat):Int))]
theorem iw_length (l:List UInt8):(iw l).length=l.length:=by simp [iw]
theorem iw_get {l:List UInt8} {k:Nat} (h:k<l.length):(iw l)[k]? =some [.prim (.int .i64 (((l.getD k 0).toNat:Nat):Int))]:=by
 simp [iw,List.getD_eq_getElem?_getD,List.getElem?_eq_getElem h]
theorem iw_set {l:List UInt8} {k x:Nat} (h:x<256):(iw l).set k [.prim (.int .i64 ((x:Nat):Int))]=iw (l.set k (UInt8.ofNat x)):=by
 simp [iw,List.map_set,Nat.mod_eq_of_lt h]
theorem iw_zeros (n:Nat):List.replicate n [V.prim (.int .i64 0)]=iw (List.replicate n 0):=by simp [iw]
theorem getD_repU (n i:Nat):(List.replicate n (0:UInt8)).getD i 0=0:=by
 rw [List.getD_eq_getElem?_getD,List.getElem?_replicate];split<;>rfl
theorem bval_repU (n:Nat):bval (List.replicate n 0)=0:=by
 induction n with
 |zero=>rfl
 |succ n ih=>rw [List.replicate_succ,bval_cons,ih];simp
theorem getD_setU_ne {l:List UInt8} {i j:Nat} {x:UInt8} (h:i≠j):(l.set i x).getD j 0=l.getD j 0:=by
 rw [List.getD_eq_getElem?_getD,List.getD_eq_getElem?_getD,List.getElem?_set_ne h]
theorem and255 (a:Nat):IntKind.i64.wrap (((BitVec.ofInt IntKind.i64.bits (a:Int)&&&BitVec.ofInt IntKind.i64.bits 255).toNat:Nat):Int)=((a%256:Nat):Int):=by
 have e:(255:Int)=((255:Nat):Int):=rfl
 rw [e,bv_and]
 have h1:(255:Nat)%2^IntKind.i64.bits=2^8-1:=rfl
 rw [h1,Nat.and_two_pow_sub_one_eq_mod]
 have h2:a%2^IntKind.i64.bits%2^8=a%256:=by
  show a%18446744073709551616%256=a%256
  omega
 rw [h2,wrap_i64]<;>omega
structure MulOut (l m:List UInt8) (x:Nat×List UInt8) (H:Hp):Prop where
 i:x.1≤l.length
 t:x.2.length=l.length+m.length
 z:∀ k,k<x.1→x.2.getD k 0=0
 v:bval x.2=low l (l.length-x.1)*bval m
 H:H=[some (.row 1 true (iw x.2))]
structure MulIn (l m:List UInt8) (i p x:Nat) (s:Nat×Nat×List UInt8) (H:Hp):Prop where
 k:s.1≤m.length
 c:s.2.1<256
 t:s.2.2.length=l.length+m.length
 z:∀ k,k<i+1→s.2.2.getD k 0=0
 v:bval s.2.2+256^p*256^(m.length-s.1)*s.2.1=low l p*bval m+256^p*x*low m (m.length-s.1)
 H:H=[some (.row 1 true (iw s.2.2))]
theorem rmulm_pc (l m:List UInt8) (hl:l.length<2^38) (hm:m.length<2^38):PC prog 268 [.prim (.string (bs l)),.prim (.string (bs m))] (.prim (.string (bs (digitsOf (bval l*bval m))))):=by
 refine PCi ?_
 conv in trip _ _=>cbv
 simp only [runT,RN,Nat.reduceAdd,Nat.reduceSub]
 simp (disch:=omega) only [↓RS,RZ,reduceCtorEq,reduceAdd,reduceLT,reduceLeDiff,List.reduceReplicate,reducePow,reduceDiv,reduceMod,reduceEqDiff,Nat.reduceBEq,iw_zeros]
 refine wp_lp (fun (x:Nat×List UInt8) J=>ov [(0,.prim (.string (bs l))),(1,.prim (.string (bs m))),(4,.prim (.string (bs ([])))),(5,.sref 0 0 (l.length+m.length) (l.length+m.length) 1 true),(6,.prim (.int .i64 ((x.1:Int)-1)))] J 0 87)
  (MulOut l m) (fun x=>x.1) (l.length,List.replicate (l.length+m.length) 0) rfl
  ⟨Nat.le_refl _,by simp,fun k _=>getD_repU _ _,by simp [low_zero,bval_repU],by rw [←iw_zeros]⟩ ?_
 rintro ⟨i,t⟩ J H ⟨hi,ht,hz,hv,rfl⟩
 try conv in ov _ _ _ _=>simp only [ov,List.lookup,Option.getD_some,Option.getD_none,Nat.reduceAdd,Nat.reduceBEq]
 simp only at hi ht hz hv ⊢
 rcases i with _|i
 ·rw [Nat.sub_zero,low_ge (Nat.le_refl _)] at hv
  simp (disch:=omega) only [↓RS,RZ,reduceCtorEq,reduceAdd,reduceLT,reduceLeDiff,List.reduceReplicate,reducePow,reduceDiv,reduceMod,reduceEqDiff,Nat.reduceBEq,bw_zeros,iw_length,ht]
  refine wp_lp (fun (x:Nat×List UInt8) J=>ov [(0,.prim (.string (bs l))),(1,.prim (.string (bs m))),(4,.prim (.string (bs ([])))),(5,.sref 0 0 (l.length+m.length) (l.length+m.length) 1 true),(9,.sref 1 0 (l.length+m.length) (l.length+m.length) 1 true),(10,.prim (.int .i64 ((x.1:Nat):Int)))] J 0 87)
   (fun x H=>(x.1≤t.length∧x.2.length=t.length∧x.2.take x.1=t.take x.1)∧H=[some (.row 1 true (iw t)),some (.row 1 true (bw x.2))]) (fun x=>t.length-x.1) (0,List.replicate t.length 0) rfl ⟨⟨Nat.zero_le _,by simp,by simp⟩,by rw [ht]⟩ ?_
  rintro ⟨j,u⟩ J' H ⟨⟨hj,hu,hju⟩,rfl⟩
  try conv in ov _ _ _ _=>simp only [ov,List.lookup,Option.getD_some,Option.getD_none,Nat.reduceAdd,Nat.reduceBEq]
  simp only at hj hu hju ⊢
  rcases Nat.lt_or_ge j t.length with hlt|hge
  ·have g1:=iw_get (l:=t) (k:=j) hlt
   have g3:=bw_get (l:=u) (k:=j) (by omega)
   have b1:(t.getD j 0).toNat<256:=UInt8.toNat_lt _
   have hbs:= @bw_setL u j _ b1
   generalize hx:(t.getD j 0).toNat=x at*
   simp (disch:=omega) only [↓RS,RZ,reduceCtorEq,reduceAdd,reduceLT,reduceLeDiff,List.reduceReplicate,reducePow,reduceDiv,reduceMod,reduceEqDiff,Nat.reduceBEq,iw_length,bw_length,g1,g3,hbs,wrap_u8]
   refine lp_next (j+1,u.set j (UInt8.ofNat x)) rfl ⟨⟨hlt,by simp [hu],?_⟩,rfl⟩ (by simp only;omega)
   try simp only
   have e:UInt8.ofNat x=t[j]:=by
    rw [←hx,List.getD_eq_getElem?_getD,List.getElem?_eq_getElem hlt];simp
   rw [List.take_add_one,List.take_add_one,List.getElem?_set_self (by omega),List.take_set_of_le (Nat.le_refl _),hju,e,List.getElem?_eq_getElem hlt]
  ·have hju':u=t:=by
    rw [List.take_of_length_le (by omega),List.take_of_length_le (by omega)] at hju;exact hju
   subst hju'
   have htr:=rtrim_pc u (by omega)
   rw [hv] at htr
   have hb:=bytesOf_bw u
   have htk:(bw u).take (l.length+m.length)=bw u:=List.take_of_length_le (by rw [bw_length];omega)
   simp (disch:=omega) only [↓RS,RZ,reduceCtorEq,reduceAdd,reduceLT,reduceLeDiff,List.reduceReplicate,reducePow,reduceDiv,reduceMod,reduceEqDiff,Nat.reduceBEq,iw_length,bw_length,ht,htk,hb]
   refine cX htr ?_
   simp (disch:=omega) only [↓RS,RZ,reduceCtorEq,reduceAdd,reduceLT,reduceLeDiff,List.reduceReplicate,reducePow,reduceDiv,reduceMod,reduceEqDiff,Nat.reduceBEq]
 ·obtain ⟨p,hp⟩:∃ p,p=l.length-(i+1):=⟨_,rfl⟩
  have e1:=low_succ (l:=l) (j:=p) (by omega)
  rw [show l.length-(p+1)=i by omega] at e1
  have b1:(l.getD i 0).toNat<256:=UInt8.toNat_lt _
  rw [←hp] at hv
  generalize hx:(l.getD i 0).toNat=x at*
  simp (disch:=omega) only [↓RS,RZ,reduceCtorEq,reduceAdd,reduceLT,reduceLeDiff,List.reduceReplicate,reducePow,reduceDiv,reduceMod,reduceEqDiff,Nat.reduceBEq,add_sub1]
  refine wp_lp (fun (s:Nat×Nat×List UInt8) J=>ov [(0,.prim (.string (bs l))),(1,.prim (.string (bs m))),(4,.prim (.string (bs ([])))),(5,.sref 0 0 (l.length+m.length) (l.length+m.length) 1 true),(6,.prim (.int .i64 ((i:Nat):Int))),(7,.prim (.int .i64 ((s.2.1:Nat):Int))),(8,.prim (.int .i64 ((s.1:Int)-1)))] J 0 87)
   (MulIn l m i p x) (fun s=>s.1) (m.length,0,t) rfl
   ⟨Nat.le_refl _,show 0<256 by decide,ht,hz,by simp [low_zero,hv],rfl⟩ ?_
  rintro ⟨k,c,t'⟩ J' H ⟨hk,hc,ht',hz',hv',rfl⟩
  try conv in ov _ _ _ _=>simp only [ov,List.lookup,Option.getD_some,Option.getD_none,Nat.reduceAdd,Nat.reduceBEq]
  simp only at hk hc ht' hz' hv' ⊢
  rcases k with _|k
  ·rw [Nat.sub_zero,low_ge (Nat.le_refl _)] at hv'
   have g3:=iw_get (l:=t') (k:=i) (by omega)
   have hz0:=hz' i (Nat.lt_succ_self i)
   have e0:(0:UInt8).toNat=0:=rfl
   rw [hz0,e0] at g3
   have hbs:= @iw_set t' i c hc
   have hs:=bval_set (l:=t') (k:=i) (e:=p+m.length) (b:=UInt8.ofNat c) (by omega)
   rw [hz0,e0,show (UInt8.ofNat c).toNat=c by simp;omega] at hs
   simp (disch:=omega) only [↓RS,RZ,reduceCtorEq,reduceAdd,reduceLT,reduceLeDiff,List.reduceReplicate,reducePow,reduceDiv,reduceMod,reduceEqDiff,Nat.reduceBEq,iw_length,g3,hbs]
   refine lp_next (i,t'.set i (UInt8.ofNat c)) rfl ⟨by simp only;omega,by simp [ht'],fun j hj=> ?_,?_,rfl⟩ (by simp only;omega)
   ·simp only at hj ⊢
    rw [getD_setU_ne (by omega)];exact hz' j (by omega)
   ·try simp only
    rw [show l.length-i=p+1 by omega,e1,Nat.add_mul]
    rw [Nat.pow_add] at hs
    have:256^p*x*bval m=x*256^p*bval m:=by rw [Nat.mul_comm (256^p)]
    omega
  ·obtain ⟨q,hq⟩:∃ q,q=m.length-(k+1):=⟨_,rfl⟩
   have e2:=low_succ (l:=m) (j:=q) (by omega)
   rw [show m.length-(q+1)=k by omega] at e2
   have b2:(m.getD k 0).toNat<256:=UInt8.toNat_lt _
   rw [←hq] at hv'
   generalize hy:(m.getD k 0).toNat=y at*
   have g3:=iw_get (l:=t') (k:=i+k+1) (by omega)
   have b3:(t'.getD (i+k+1) 0).toNat<256:=UInt8.toNat_lt _
   have hs:=fun b=>bval_set (l:=t') (k:=i+k+1) (e:=p+q) (b:=b) (by omega)
   generalize hw:(t'.getD (i+k+1) 0).toNat=w at*
   have hxy:x*y≤255*255:=Nat.mul_le_mul (by omega) (by omega)
   have hbs:= @iw_set t' (i+k+1) ((c+(w+x*y))%256) (Nat.mod_lt _ (by decide))
   simp (disch:=omega) only [↓RS,RZ,reduceCtorEq,reduceAdd,reduceLT,reduceLeDiff,List.reduceReplicate,reducePow,reduceDiv,reduceMod,reduceEqDiff,Nat.reduceBEq,iw_length,hx,hy,g3,hbs,and255,shr8_i64,add_sub1]
   refine lp_next (k,(c+(w+x*y))/256,t'.set (i+k+1) (UInt8.ofNat ((c+(w+x*y))%256))) rfl ⟨by simp only;omega,by simp only;omega,by simp [ht'],fun j hj=> ?_,?_,rfl⟩ (by simp only;omega)
   ·simp only at hj ⊢
    rw [getD_setU_ne (by omega)];exact hz' j hj
   ·have h1:=hs (UInt8.ofNat ((c+(w+x*y))%256))
    rw [show (UInt8.ofNat ((c+(w+x*y))%256)).toNat=(c+(w+x*y))%256 by simp,Nat.pow_add] at h1
    try simp only
    rw [show m.length-k=q+1 by omega,e2,Nat.pow_succ,Nat.add_comm (y*256^q),Nat.mul_comm y]
    exact times_step (by omega) hv' h1
end Go.Av
namespace Go.Av
open Go.RowKit
open Go.Proofs.Tryz (prog)
end Go.Av
namespace Go.Av
open Go.RowKit
open Go.Proofs.Tryz (prog)
theorem tf_beq:(true==false)=false:=rfl
theorem ft_beq:(false==true)=false:=rfl
theorem agg_cI {p:Bool} {n:Nat} {z:Int} (h1:p=decide (z<0)) (h2:n=z.natAbs):some (V.agg [.prim (.bool p),.prim (.string (bs (digitsOf n)))])=some (cI z):=by rw [h1,h2];rfl
theorem agg_cI0 {z:Int} (h:z=0):some (V.agg [.prim (.bool false),.prim (.string (bs ([])))])=some (cI z):=by subst h;rw [cI,show (0:Int).natAbs=0 from rfl,digitsOf_zero];rfl
theorem radd_pc (s t:Bool) (l m:List UInt8) (hl:l.length<2^35) (hm:m.length<2^35):PC prog 242 [iN s l,iN t m] (cI (ival s l+ival t m)):=by
 have k1:=rcan_pc s l (by omega)
 have k2:=rcan_pc t m (by omega)
 have a1:=dl_ival s l
 have a2:=dl_ival t m
 generalize ival s l=x at*
 generalize ival t m=y at*
 have v1:=fun h=>rvalue_pc (decide (x<0)) (digitsOf x.natAbs) h
 have v2:=fun h=>rvalue_pc (decide (y<0)) (digitsOf y.natAbs) h
 have i1:=fun h=> @ival_small (decide (x<0)) (digitsOf x.natAbs) h
 have i2:=fun h=> @ival_small (decide (y<0)) (digitsOf y.natAbs) h
 rw [ival_can] at v1 v2 i1 i2
 have p1:=raddm_pc (digitsOf x.natAbs) (digitsOf y.natAbs) (by rw [len_dl];omega) (by rw [len_dl];omega)
 rw [bval_digitsOf,bval_digitsOf] at p1
 have c1:=rcmag_pc x.natAbs y.natAbs (by omega) (by omega)
 have m1:=fun h:y.natAbs≤x.natAbs=>rsubm_pc (digitsOf x.natAbs) (digitsOf y.natAbs) (by rw [len_dl];omega) (by rw [bval_digitsOf,bval_digitsOf];exact h) (dl_mono h)
 have m2:=fun h:x.natAbs≤y.natAbs=>rsubm_pc (digitsOf y.natAbs) (digitsOf x.natAbs) (by rw [len_dl];omega) (by rw [bval_digitsOf,bval_digitsOf];exact h) (dl_mono h)
 rw [bval_digitsOf,bval_digitsOf] at m1 m2
 rw [←len_dl] at a1 a2
 refine PCi ?_
 conv in trip _ _=>cbv
 simp only [runT,RN,simprocAttr]
 by_cases hs:(digitsOf x.natAbs).length≤7∧(digitsOf y.natAbs).length≤7
 ·have hi1:=i1 hs.1
  have hi2:=i2 hs.2
  have hof:=rof_pc (x+y) (by omega) (by omega)
  simp (disch:=omega) only [↓RS,RZ,simprocAttr,iN]
  refine cX k1 ?_
  simp (disch:=omega) only [↓RS,RZ,simprocAttr,cI,iN]
  refine cX k2 ?_
  simp (disch:=omega) only [↓RS,RZ,simprocAttr,cI,iN]
  refine cX (v1 hs.1) ?_
  simp (disch:=omega) only [↓RS,RZ,simprocAttr,cI,iN]
  refine cX (v2 hs.2) ?_
  simp (disch:=omega) only [↓RS,RZ,simprocAttr,cI,iN]
  refine cX hof ?_
  simp (disch:=omega) only [↓RS,RZ,simprocAttr,cI,iN]
 ·have hcase:7<(digitsOf x.natAbs).length∨((digitsOf x.natAbs).length≤7∧7<(digitsOf y.natAbs).length):=by omega
  clear v1 v2 i1 i2
  by_cases hx:x<0
  ·by_cases hy:y<0
   ·simp only [cI,hx,hy,decide_true,decide_false] at k1 k2
    rcases hcase with h7|⟨h7,h8⟩
    all_goals (
     simp (disch:=omega) only [↓RS,RZ,simprocAttr,iN]
     refine cX k1 ?_
     simp (disch:=omega) only [↓RS,RZ,simprocAttr,iN]
     refine cX k2 ?_
     simp (disch:=omega) only [↓RS,RZ,simprocAttr,iN,eqA_bool9,tf_beq,ft_beq]
     refine cX p1 ?_
     simp (disch:=omega) only [↓RS,RZ,simprocAttr,iN]
     exact agg_cI (by simp;omega) (by omega))
   ·simp only [cI,hx,hy,decide_true,decide_false] at k1 k2
    rcases hcase with h7|⟨h7,h8⟩
    all_goals (
     simp (disch:=omega) only [↓RS,RZ,simprocAttr,iN]
     refine cX k1 ?_
     simp (disch:=omega) only [↓RS,RZ,simprocAttr,iN]
     refine cX k2 ?_
     simp (disch:=omega) only [↓RS,RZ,simprocAttr,iN,eqA_bool9,tf_beq,ft_beq]
     refine cX c1 ?_
     rcases Nat.lt_trichotomy x.natAbs y.natAbs with h|h|h
     ·have hsg:sgn x.natAbs y.natAbs= -1:=by rw [sgn,if_pos h]
      simp (disch:=omega) only [↓RS,RZ,simprocAttr,hsg]
      refine cX (m2 (by omega)) ?_
      simp (disch:=omega) only [↓RS,RZ,simprocAttr,iN]
      exact agg_cI (by simp;omega) (by omega)
     ·have hsg:sgn x.natAbs y.natAbs=0:=by rw [sgn,if_neg (by omega),if_neg (by omega)]
      simp (disch:=omega) only [↓RS,RZ,simprocAttr,hsg]
      exact agg_cI0 (by omega)
     ·have hsg:sgn x.natAbs y.natAbs=1:=by rw [sgn,if_neg (by omega),if_pos h]
      simp (disch:=omega) only [↓RS,RZ,simprocAttr,hsg]
      refine cX (m1 (by omega)) ?_
      simp (disch:=omega) only [↓RS,RZ,simprocAttr,iN]
      exact agg_cI (by simp;omega) (by omega))
  ·by_cases hy:y<0
   ·simp only [cI,hx,hy,decide_true,decide_false] at k1 k2
    rcases hcase with h7|⟨h7,h8⟩
    all_goals (
     simp (disch:=omega) only [↓RS,RZ,simprocAttr,iN]
     refine cX k1 ?_
     simp (disch:=omega) only [↓RS,RZ,simprocAttr,iN]
     refine cX k2 ?_
     simp (disch:=omega) only [↓RS,RZ,simprocAttr,iN,eqA_bool9,tf_beq,ft_beq]
     refine cX c1 ?_
     rcases Nat.lt_trichotomy x.natAbs y.natAbs with h|h|h
     ·have hsg:sgn x.natAbs y.natAbs= -1:=by rw [sgn,if_pos h]
      simp (disch:=omega) only [↓RS,RZ,simprocAttr,hsg]
      refine cX (m2 (by omega)) ?_
      simp (disch:=omega) only [↓RS,RZ,simprocAttr,iN]
      exact agg_cI (by simp;omega) (by omega)
     ·have hsg:sgn x.natAbs y.natAbs=0:=by rw [sgn,if_neg (by omega),if_neg (by omega)]
      simp (disch:=omega) only [↓RS,RZ,simprocAttr,hsg]
      exact agg_cI0 (by omega)
     ·have hsg:sgn x.natAbs y.natAbs=1:=by rw [sgn,if_neg (by omega),if_pos h]
      simp (disch:=omega) only [↓RS,RZ,simprocAttr,hsg]
      refine cX (m1 (by omega)) ?_
      simp (disch:=omega) only [↓RS,RZ,simprocAttr,iN]
      exact agg_cI (by simp;omega) (by omega))
   ·simp only [cI,hx,hy,decide_true,decide_false] at k1 k2
    rcases hcase with h7|⟨h7,h8⟩
    all_goals (
     simp (disch:=omega) only [↓RS,RZ,simprocAttr,iN]
     refine cX k1 ?_
     simp (disch:=omega) only [↓RS,RZ,simprocAttr,iN]
     refine cX k2 ?_
     simp (disch:=omega) only [↓RS,RZ,simprocAttr,iN,eqA_bool9,tf_beq,ft_beq]
     refine cX p1 ?_
     simp (disch:=omega) only [↓RS,RZ,simprocAttr,iN]
     exact agg_cI (by simp;omega) (by omega))
end Go.Av
