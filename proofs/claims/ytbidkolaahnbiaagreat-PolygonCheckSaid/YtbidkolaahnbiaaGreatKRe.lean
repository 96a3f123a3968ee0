/- Helping texts: Re, Rf, Rg. -/
import Derived.Test.YtbidkolaahnbiaaGreatKRa
set_option linter.unusedSimpArgs false
set_option linter.unusedVariables false
set_option maxRecDepth 100000
set_option maxHeartbeats 16000000
open Nat (reduceAdd reduceLT reduceLeDiff reducePow reduceDiv reduceMod reduceEqDiff)
namespace Go.Av
open Go.RowKit
open Go.Proofs.Tryz (prog)
theorem bval_app (l m:List UInt8):bval (l++m)=bval l*256^m.length+bval m:=by
 have h:=bval_fold m (bval l)
 rw [←h];simp only [bval,List.foldl_append]
theorem bval_split (l:List UInt8) (k:Nat):bval l=bval (l.take k)*256^(l.length-k)+bval (l.drop k):=by
 conv=>lhs;rw [←List.take_append_drop k l]
 rw [bval_app];simp
theorem bval_set {l:List UInt8} {k e:Nat} {b:UInt8} (h:k+e+1=l.length):bval (l.set k b)+256^e*(l.getD k 0).toNat=bval l+256^e*b.toNat:=by
 have hk:k<l.length:=by omega
 rw [bval_split (l.set k b) k,bval_split l k,List.length_set,List.take_set_of_le (Nat.le_refl k)]
 have h1:l.drop k=l.getD k 0::l.drop (k+1):=by
  rw [List.drop_eq_getElem_cons hk,List.getD_eq_getElem?_getD,List.getElem?_eq_getElem hk,Option.getD_some]
 have h2:(l.set k b).drop k=b::l.drop (k+1):=by
  rw [List.drop_eq_getElem_cons (by rw [List.length_set];exact hk),List.getElem_set_self,List.drop_set_of_lt (by omega)]
 rw [h1,h2,bval_cons,bval_cons,List.length_drop,show l.length-(k+1)=e by omega,Nat.mul_comm (256^e),Nat.mul_comm (256^e)]
 omega
def iw (l:List UInt8):List (List V):=l.map fun b=>[.prim (.int .i64 ((b.toNat:Nat):Int))]
theorem iw_length (l:List UInt8):(iw l).length=l.length:=by simp [iw]
theorem iw_get {l:List UInt8} {k:Nat} (h:k<l.length):(iw l)[k]? =some [.prim (.int .i64 (((l.getD k 0).toNat:Nat):Int))]:=by
 simp [iw,List.getD_eq_getElem?_getD,List.getElem?_eq_getElem h]
theorem iw_set {l:List UInt8} {k x:Nat} (h:x<256):(iw l).set k [.prim (.int .i64 ((x:Nat):Int))]=iw (l.set k (UInt8.ofNat x)):=by
 simp [iw,List.map_set,Nat.mod_eq_of_lt h]
theorem iw_zeros (n:Nat):List.replicate n [V.prim (.int .i64 0)]=iw (List.replicate n 0):=by simp [iw]
theorem getD_repU (n i:Nat):(List.replicate n (0:UInt8)).getD i 0=0:=by
 rw [List.getD_eq_getElem?_getD,List.getElem?_replicate];split<;>rfl
theorem bval_repU (n:Nat):bval (List.replicate n 0)=0:=by
 induction n with
 |zero=>rfl
 |succ n ih=>rw [List.replicate_succ,bval_cons,ih];simp
theorem getD_setU_ne {l:List UInt8} {i j:Nat} {x:UInt8} (h:i≠j):(l.set i x).getD j 0=l.getD j 0:=by
 rw [List.getD_eq_getElem?_getD,List.getD_eq_getElem?_getD,List.getElem?_set_ne h]
theorem and255 (a:Nat):IntKind.i64.wrap (((BitVec.ofInt IntKind.i64.bits (a:Int)&&&BitVec.ofInt IntKind.i64.bits 255).toNat:Nat):Int)=((a%256:Nat):Int):=by
 have e:(255:Int)=((255:Nat):Int):=rfl
 rw [e,bv_and]
 have h1:(255:Nat)%2^IntKind.i64.bits=2^8-1:=rfl
 rw [h1,Nat.and_two_pow_sub_one_eq_mod]
 have h2:a%2^IntKind.i64.bits%2^8=a%256:=by
  show a%18446744073709551616%256=a%256
  omega
 rw [h2,wrap_i64]<;>omega
structure MulOut (l m:List UInt8) (x:Nat×List UInt8) (H:Hp):Prop where
 i:x.1≤l.length
 t:x.2.length=l.length+m.length
 z:∀ k,k<x.1→x.2.getD k 0=0
 v:bval x.2=low l (l.length-x.1)*bval m
 H:H=[some (.row 1 true (iw x.2))]
structure MulIn (l m:List UInt8) (i p x:Nat) (s:Nat×Nat×List UInt8) (H:Hp):Prop where
 k:s.1≤m.length
 c:s.2.1<256
 t:s.2.2.length=l.length+m.length
 z:∀ k,k<i+1→s.2.2.getD k 0=0
 v:bval s.2.2+256^p*256^(m.length-s.1)*s.2.1=low l p*bval m+256^p*x*low m (m.length-s.1)
 H:H=[some (.row 1 true (iw s.2.2))]
theorem rmulm_pc (l m:List UInt8) (hl:l.length<2^38) (hm:m.length<2^38):PC prog 268 [.prim (.string (bs l)),.prim (.string (bs m))] (.prim (.string (bs (digitsOf (bval l*bval m))))):=by
 refine PCi ?_
 conv in trip _ _=>cbv
 simp only [runT,RN,Nat.reduceAdd,Nat.reduceSub]
 simp (disch:=omega) only [↓RS,RZ,reduceCtorEq,reduceAdd,reduceLT,reduceLeDiff,List.reduceReplicate,reducePow,reduceDiv,reduceMod,reduceEqDiff,Nat.reduceBEq,iw_zeros]
 refine wp_lp (fun (x:Nat×List UInt8) J=>ov [(0,.prim (.string (bs l))),(1,.prim (.string (bs m))),(4,.prim (.string (bs ([])))),(5,.sref 0 0 (l.length+m.length) (l.length+m.length) 1 true),(6,.prim (.int .i64 ((x.1:Int)-1)))] J 0 87)
  (MulOut l m) (fun x=>x.1) (l.length,List.replicate (l.length+m.length) 0) rfl
  ⟨Nat.le_refl _,by simp,fun k _=>getD_repU _ _,by simp [low_zero,bval_repU],by rw [←iw_zeros]⟩ ?_
 rintro ⟨i,t⟩ J H ⟨hi,ht,hz,hv,rfl⟩
 try conv in ov _ _ _ _=>simp only [ov,List.lookup,Option.getD_some,Option.getD_none,Nat.reduceAdd,Nat.reduceBEq]
 simp only at hi ht hz hv ⊢
 rcases i with _|i
 ·rw [Nat.sub_zero,low_ge (Nat.le_refl _)] at hv
  simp (disch:=omega) only [↓RS,RZ,reduceCtorEq,reduceAdd,reduceLT,reduceLeDiff,List.reduceReplicate,reducePow,reduceDiv,reduceMod,reduceEqDiff,Nat.reduceBEq,bw_zeros,iw_length,ht]
  refine wp_lp (fun (x:Nat×List UInt8) J=>ov [(0,.prim (.string (bs l))),(1,.prim (.string (bs m))),(4,.prim (.string (bs ([])))),(5,.sref 0 0 (l.length+m.length) (l.length+m.length) 1 true),(9,.sref 1 0 (l.length+m.length) (l.length+m.length) 1 true),(10,.prim (.int .i64 ((x.1:Nat):Int)))] J 0 87)
   (fun x H=>(x.1≤t.length∧x.2.length=t.length∧x.2.take x.1=t.take x.1)∧H=[some (.row 1 true (iw t)),some (.row 1 true (bw x.2))]) (fun x=>t.length-x.1) (0,List.replicate t.length 0) rfl ⟨⟨Nat.zero_le _,by simp,by simp⟩,by rw [ht]⟩ ?_
  rintro ⟨j,u⟩ J' H ⟨⟨hj,hu,hju⟩,rfl⟩
  try conv in ov _ _ _ _=>simp only [ov,List.lookup,Option.getD_some,Option.getD_none,Nat.reduceAdd,Nat.reduceBEq]
  simp only at hj hu hju ⊢
  rcases Nat.lt_or_ge j t.length with hlt|hge
  ·have g1:=iw_get (l:=t) (k:=j) hlt
   have g3:=bw_get (l:=u) (k:=j) (by omega)
   have b1:(t.getD j 0).toNat<256:=UInt8.toNat_lt _
   have hbs:= @bw_setL u j _ b1
   generalize hx:(t.getD j 0).toNat=x at*
   simp (disch:=omega) only [↓RS,RZ,reduceCtorEq,reduceAdd,reduceLT,reduceLeDiff,List.reduceReplicate,reducePow,reduceDiv,reduceMod,reduceEqDiff,Nat.reduceBEq,iw_length,bw_length,g1,g3,hbs,wrap_u8]
   refine lp_next (j+1,u.set j (UInt8.ofNat x)) rfl ⟨⟨hlt,by simp [hu],?_⟩,rfl⟩ (by simp only;omega)
   try simp only
   have e:UInt8.ofNat x=t[j]:=by
    rw [←hx,List.getD_eq_getElem?_getD,List.getElem?_eq_getElem hlt];simp
   rw [List.take_add_one,List.take_add_one,List.getElem?_set_self (by omega),List.take_set_of_le (Nat.le_refl _),hju,e,List.getElem?_eq_getElem hlt]
  ·have hju':u=t:=by
    rw [List.take_of_length_le (by omega),List.take_of_length_le (by omega)] at hju;exact hju
   subst hju'
   have htr:=rtrim_pc u (by omega)
   rw [hv] at htr
   have hb:=bytesOf_bw u
   have htk:(bw u).take (l.length+m.length)=bw u:=List.take_of_length_le (by rw [bw_length];omega)
   simp (disch:=omega) only [↓RS,RZ,reduceCtorEq,reduceAdd,reduceLT,reduceLeDiff,List.reduceReplicate,reducePow,reduceDiv,reduceMod,reduceEqDiff,Nat.reduceBEq,iw_length,bw_length,ht,htk,hb]
   refine cX htr ?_
   simp (disch:=omega) only [↓RS,RZ,reduceCtorEq,reduceAdd,reduceLT,reduceLeDiff,List.reduceReplicate,reducePow,reduceDiv,reduceMod,reduceEqDiff,Nat.reduceBEq]
 ·obtain ⟨p,hp⟩:∃ p,p=l.length-(i+1):=⟨_,rfl⟩
  have e1:=low_succ (l:=l) (j:=p) (by omega)
  rw [show l.length-(p+1)=i by omega] at e1
  have b1:(l.getD i 0).toNat<256:=UInt8.toNat_lt _
  rw [←hp] at hv
  generalize hx:(l.getD i 0).toNat=x at*
  simp (disch:=omega) only [↓RS,RZ,reduceCtorEq,reduceAdd,reduceLT,reduceLeDiff,List.reduceReplicate,reducePow,reduceDiv,reduceMod,reduceEqDiff,Nat.reduceBEq,add_sub1]
  refine wp_lp (fun (s:Nat×Nat×List UInt8) J=>ov [(0,.prim (.string (bs l))),(1,.prim (.string (bs m))),(4,.prim (.string (bs ([])))),(5,.sref 0 0 (l.length+m.length) (l.length+m.length) 1 true),(6,.prim (.int .i64 ((i:Nat):Int))),(7,.prim (.int .i64 ((s.2.1:Nat):Int))),(8,.prim (.int .i64 ((s.1:Int)-1)))] J 0 87)
   (MulIn l m i p x) (fun s=>s.1) (m.length,0,t) rfl
   ⟨Nat.le_refl _,show 0<256 by decide,ht,hz,by simp [low_zero,hv],rfl⟩ ?_
  rintro ⟨k,c,t'⟩ J' H ⟨hk,hc,ht',hz',hv',rfl⟩
  try conv in ov _ _ _ _=>simp only [ov,List.lookup,Option.getD_some,Option.getD_none,Nat.reduceAdd,Nat.reduceBEq]
  simp only at hk hc ht' hz' hv' ⊢
  rcases k with _|k
  ·rw [Nat.sub_zero,low_ge (Nat.le_refl _)] at hv'
   have g3:=iw_get (l:=t') (k:=i) (by omega)
   have hz0:=hz' i (Nat.lt_succ_self i)
   have e0:(0:UInt8).toNat=0:=rfl
   rw [hz0,e0] at g3
   have hbs:= @iw_set t' i c hc
   have hs:=bval_set (l:=t') (k:=i) (e:=p+m.length) (b:=UInt8.ofNat c) (by omega)
   rw [hz0,e0,show (UInt8.ofNat c).toNat=c by simp;omega] at hs
   simp (disch:=omega) only [↓RS,RZ,reduceCtorEq,reduceAdd,reduceLT,reduceLeDiff,List.reduceReplicate,reducePow,reduceDiv,reduceMod,reduceEqDiff,Nat.reduceBEq,iw_length,g3,hbs]
   refine lp_next (i,t'.set i (UInt8.ofNat c)) rfl ⟨by simp only;omega,by simp [ht'],fun j hj=> ?_,?_,rfl⟩ (by simp only;omega)
   ·simp only at hj ⊢
    rw [getD_setU_ne (by omega)];exact hz' j (by omega)
   ·try simp only
    rw [show l.length-i=p+1 by omega,e1,Nat.add_mul]
    rw [Nat.pow_add] at hs
    have:256^p*x*bval m=x*256^p*bval m:=by rw [Nat.mul_comm (256^p)]
    omega
  ·obtain ⟨q,hq⟩:∃ q,q=m.length-(k+1):=⟨_,rfl⟩
   have e2:=low_succ (l:=m) (j:=q) (by omega)
   rw [show m.length-(q+1)=k by omega] at e2
   have b2:(m.getD k 0).toNat<256:=UInt8.toNat_lt _
   rw [←hq] at hv'
   generalize hy:(m.getD k 0).toNat=y at*
   have g3:=iw_get (l:=t') (k:=i+k+1) (by omega)
   have b3:(t'.getD (i+k+1) 0).toNat<256:=UInt8.toNat_lt _
   have hs:=fun b=>bval_set (l:=t') (k:=i+k+1) (e:=p+q) (b:=b) (by omega)
   generalize hw:(t'.getD (i+k+1) 0).toNat=w at*
   have hxy:x*y≤255*255:=Nat.mul_le_mul (by omega) (by omega)
   have hbs:= @iw_set t' (i+k+1) ((c+(w+x*y))%256) (Nat.mod_lt _ (by decide))
   simp (disch:=omega) only [↓RS,RZ,reduceCtorEq,reduceAdd,reduceLT,reduceLeDiff,List.reduceReplicate,reducePow,reduceDiv,reduceMod,reduceEqDiff,Nat.reduceBEq,iw_length,hx,hy,g3,hbs,and255,shr8_i64,add_sub1]
   refine lp_next (k,(c+(w+x*y))/256,t'.set (i+k+1) (UInt8.ofNat ((c+(w+x*y))%256))) rfl ⟨by simp only;omega,by simp only;omega,by simp [ht'],fun j hj=> ?_,?_,rfl⟩ (by simp only;omega)
   ·simp only at hj ⊢
    rw [getD_setU_ne (by omega)];exact hz' j hj
   ·have h1:=hs (UInt8.ofNat ((c+(w+x*y))%256))
    rw [show (UInt8.ofNat ((c+(w+x*y))%256)).toNat=(c+(w+x*y))%256 by simp,Nat.pow_add] at h1
    try simp only
    rw [show m.length-k=q+1 by omega,e2,Nat.pow_succ,Nat.add_comm (y*256^q),Nat.mul_comm y]
    exact times_step (by omega) hv' h1
end Go.Av
namespace Go.Av
open Go.RowKit
open Go.Proofs.Tryz (prog)
def tms (B i:Nat):List V:=(List.range 8).map fun k=>if k<i then .prim (.string (bs (digitsOf (B*2^k)))) else .prim (.string (bs ([])))
theorem tms_length (B i:Nat):(tms B i).length=8:=by simp [tms]
theorem tms_get {B i k:Nat} (h:k<i) (h8:k<8):(tms B i)[k]? =some (.prim (.string (bs (digitsOf (B*2^k))))):=by
 simp [tms,List.getElem?_map,List.getElem?_range,h,h8]
theorem tms_write {B i:Nat} (h8:i<8) {x:V} (hx:x= .prim (.string (bs (digitsOf (B*2^i))))):writeAt (tms B i) i [x]=tms B (i+1):=by
 subst hx
 have:i=0∨i=1∨i=2∨i=3∨i=4∨i=5∨i=6∨i=7:=by omega
 rcases this with rfl|rfl|rfl|rfl|rfl|rfl|rfl|rfl<;>rfl
theorem bs_app (l m:List UInt8):bs l++bs m=bs (l++m):=by
 have h:(bs l++bs m).data=(bs (l++m)).data:=by
  rw [ByteArray.data_append];simp [bs]
 cases h1:bs l++bs m;cases h2:bs (l++m)
 rw [h1,h2] at h
 simp at h;rw [h]
theorem one_shl {k:Nat} (h:k≤64):(1:Int)*2^min k IntKind.i64.bits=((2^k:Nat):Int):=by
 have e:min k IntKind.i64.bits=k:=Nat.min_eq_left h
 rw [e,Int.one_mul];simp
theorem drop_take1 {l:List UInt8} {i:Nat} (h:i<l.length):(l.take (i+1)).drop i=[l.getD i 0]:=by
 rw [List.take_add_one,List.getElem?_eq_getElem h,Option.toList_some,List.drop_left' (by simp;omega),List.getD_eq_getElem?_getD,List.getElem?_eq_getElem h];rfl
theorem take_setU {t:List UInt8} {i:Nat} {b:UInt8} (h:i<t.length):(t.set i b).take (i+1)=t.take i++[b]:=by
 rw [List.take_add_one,List.getElem?_set_self h,List.take_set_of_le (Nat.le_refl _)];rfl
structure DivOut (l:List UInt8) (B:Nat) (x:Nat×Nat×List UInt8) (H:Hp):Prop where
 i:x.1≤l.length
 r:x.2.1<B
 t:x.2.2.length=l.length
 v:bval (l.take x.1)=B*bval (x.2.2.take x.1)+x.2.1
 H:H=[some (.row 8 true [tms B 8]),some (.row 1 true (bw x.2.2))]
structure DivIn (B N:Nat) (x:Nat×Nat×Nat):Prop where
 k:x.1≤8
 v:x.2.1+x.2.2*B=N
 r:x.2.1<B*2^x.1
theorem div_bound {B N r d:Nat} (hv:r+d*B=N) (hN:N<B*256):d<256:=by
 rcases Nat.lt_or_ge d 256 with h|h
 ·exact h
 ·have:256*B≤d*B:=Nat.mul_le_mul_right _ h
  omega
theorem pow8 {k:Nat} (h:k<8):2^k≤128:=Nat.pow_le_pow_right (by decide) (show k≤7 by omega)
theorem rdivm_pc (l:List UInt8) (B:Nat) (hl:l.length<2^37) (hB:dl B<2^37) (h0:0<B):PC prog 291 [.prim (.string (bs l)),.prim (.string (bs (digitsOf B)))] (.tup [.prim (.string (bs (digitsOf (bval l/B)))),.prim (.string (bs (digitsOf (bval l%B))))]):=by
 have hdl:∀ k,k<8→dl (B*2^k)≤dl B+1:=fun k hk=>Nat.le_trans (dl_mul _ _) (Nat.add_le_add_left (dl_le (by have:=pow8 hk;omega)) _)
 refine PCi ?_
 conv in trip _ _=>cbv
 simp only [runT,RN,simprocAttr]
 simp (disch:=omega) only [↓RS,RZ,simprocAttr]
 refine wp_lp (fun (i:Nat) J=>ov [(0,.prim (.string (bs l))),(1,.prim (.string (bs (digitsOf B)))),(4,.prim (.string (bs ([])))),(5,.prim (.string (bs ([])))),(6,.ptr 0 0 0),(7,.prim (.int .i64 ((i:Nat):Int)))] J 0 76)
  (fun i H=>(1≤i∧i≤8)∧H=[some (.row 8 true [tms B i])]) (fun i=>8-i) 1 rfl ⟨⟨by omega,by omega⟩,by simp [tms,List.range_succ,writeAt]⟩ ?_
 rintro i J H ⟨⟨hi1,hi8⟩,rfl⟩
 try conv in ov _ _ _ _=>simp only [ov,List.lookup,RO,simprocAttr]
 rcases Nat.lt_or_ge i 8 with hlt|hge
 ·obtain ⟨j,rfl⟩:∃ j,i=j+1:=⟨i-1,by omega⟩
  have g1:= @tms_get B (j+1) j (by omega) (by omega)
  have hw:= @tms_write B (j+1) hlt _ rfl
  have hlen:=tms_length B (j+1)
  have hA:=raddm_pc (digitsOf (B*2^j)) (digitsOf (B*2^j)) (by have:=hdl j (by omega);rw [len_dl];omega) (by have:=hdl j (by omega);rw [len_dl];omega)
  rw [bval_digitsOf,show B*2^j+B*2^j=B*2^(j+1) by rw [Nat.pow_succ,←Nat.mul_assoc];omega] at hA
  simp (disch:=omega) only [↓RS,RZ,simprocAttr,g1,add_sub1,Nat.mul_one]
  refine cX hA ?_
  simp (disch:=omega) only [↓RS,RZ,simprocAttr,hw,hlen,Nat.mul_one]
  exact lp_next (j+2) rfl ⟨⟨by omega,by omega⟩,congrArg (fun e=>[some (Blk.row 8 true [e])]) hw⟩ (by omega)
 have hi:i=8:=by omega
 subst hi
 simp (disch:=omega) only [↓RS,RZ,simprocAttr,bw_zeros]
 refine wp_lp (fun (x:Nat×Nat×List UInt8) J=>ov [(0,.prim (.string (bs l))),(1,.prim (.string (bs (digitsOf B)))),(4,.prim (.string (bs ([])))),(5,.prim (.string (bs ([])))),(6,.ptr 0 0 0),(8,.sref 1 0 l.length l.length 1 true),(9,.prim (.string (bs (digitsOf x.2.1)))),(10,.prim (.int .i64 ((x.1:Nat):Int)))] J 0 76)
  (DivOut l B) (fun x=>l.length-x.1) (0,0,List.replicate l.length 0) (by simp only [digitsOf_zero];rfl) ⟨Nat.zero_le _,h0,by simp,by simp [bval],rfl⟩ ?_
 rintro ⟨i,R,t⟩ J' H ⟨hi,hR,ht,hv,rfl⟩
 try conv in ov _ _ _ _=>simp only [ov,List.lookup,RO,simprocAttr]
 simp only at hi hR ht hv ⊢
 rcases Nat.lt_or_ge i l.length with hlt|hge
 ·have hdr:=drop_take1 hlt
  have hbv:=bval_take l i hlt
  have b1:(l.getD i 0).toNat<256:=UInt8.toNat_lt _
  have hRl:= @dl_mono R B (Nat.le_of_lt hR)
  rw [←len_dl] at hRl
  have htr:=rtrim_pc (digitsOf R++[l.getD i 0]) (by rw [List.length_append];simp only [List.length_cons,List.length_nil];omega)
  rw [bval_append,bval_digitsOf] at htr
  generalize l.getD i 0=b at*
  generalize hN:R*256+b.toNat=N at*
  have hNB:N<B*256:=by omega
  have h1:([b]:List UInt8).length=1:=rfl
  have hNl:dl N≤dl B+2:=Nat.le_trans (dl_mono (Nat.le_of_lt hNB)) (Nat.le_trans (dl_mul _ _) (Nat.add_le_add_left (dl_le (by decide)) _))
  simp (disch:=omega) only [↓RS,RZ,simprocAttr,hdr,bs_app,List.length_append,h1]
  refine ⟨by have:IntKind.i64.max=9223372036854775807:=rfl
             omega,?_⟩
  refine cX htr ?_
  simp (disch:=omega) only [↓RS,RZ,simprocAttr]
  refine wp_lp (fun (x:Nat×Nat×Nat) J=>ov [(0,.prim (.string (bs l))),(1,.prim (.string (bs (digitsOf B)))),(4,.prim (.string (bs ([])))),(5,.prim (.string (bs ([])))),(6,.ptr 0 0 0),(8,.sref 1 0 l.length l.length 1 true),(9,.prim (.string (bs (digitsOf x.2.1)))),(10,.prim (.int .i64 ((i:Nat):Int))),(11,.prim (.int .i64 ((x.2.2:Nat):Int))),(12,.prim (.int .i64 ((x.1:Int)-1)))] J 0 76)
   (fun x H=>DivIn B N x∧H=[some (.row 8 true [tms B 8]),some (.row 1 true (bw t))]) (fun x=>x.1) (8,N,0) rfl ⟨⟨Nat.le_refl _,by simp,hNB⟩,rfl⟩ ?_
  rintro ⟨k,r,d⟩ J'' H ⟨⟨hk,hv2,hr⟩,rfl⟩
  try conv in ov _ _ _ _=>simp only [ov,List.lookup,RO,simprocAttr]
  simp only at hk hv2 hr ⊢
  have hd:=div_bound hv2 hNB
  rcases k with _|k
  ·have g3:=bw_get (l:=t) (k:=i) (by omega)
   have hbs:= @bw_setL t i d hd
   simp (disch:=omega) only [↓RS,RZ,simprocAttr,bw_length,g3,hbs,wrap_u8]
   refine lp_next (i+1,r,t.set i (UInt8.ofNat d)) rfl ⟨hlt,by simp only;omega,by simp [ht],?_,rfl⟩ (by simp only;omega)
   try simp only
   rw [hbv,take_setU (by omega),bval_append,show (UInt8.ofNat d).toNat=d by simp;omega,hv,Nat.mul_add,Nat.mul_comm B d,←Nat.mul_assoc,Nat.add_mul]
   omega
  ·have g1:= @tms_get B 8 k (by omega) (by omega)
   have hkl:=hdl k (by omega)
   have hrl:dl r≤dl N:=dl_mono (by omega)
   have hc:=rcmag_pc r (B*2^k) (by omega) (by omega)
   rw [Nat.pow_succ,←Nat.mul_assoc] at hr
   by_cases hge:B*2^k≤r
   ·have hs0:0≤sgn r (B*2^k):=by unfold sgn;split<;>(try split)<;>omega
    have hml:=dl_mono hge
    rw [←len_dl,←len_dl] at hml
    have hsub:=rsubm_pc (digitsOf r) (digitsOf (B*2^k)) (by rw [len_dl];omega) (by rw [bval_digitsOf,bval_digitsOf];exact hge) hml
    rw [bval_digitsOf,bval_digitsOf] at hsub
    have hk8:k<8:=by omega
    have hp:=pow8 hk8
    have h1k:= @one_shl k (by omega)
    generalize sgn r (B*2^k)=sg' at*
    generalize hwk:2^k=w at*
    simp (disch:=omega) only [↓RS,RZ,simprocAttr,g1,add_sub1,Nat.mul_one]
    refine cX hc ?_
    simp (disch:=omega) only [↓RS,RZ,simprocAttr,g1,add_sub1,Nat.mul_one]
    refine cX hsub ?_
    simp (disch:=omega) only [↓RS,RZ,simprocAttr,h1k,add_sub1,wrap_u64]
    refine lp_next (k,r-B*w,d+w) rfl ⟨⟨by simp only;omega,?_,?_⟩,rfl⟩ (by simp only;omega)
    ·simp only;rw [Nat.add_mul,Nat.mul_comm w];omega
    ·simp only;rw [hwk];omega
   ·have hs0:sgn r (B*2^k)<0:=by unfold sgn;rw [if_pos (by omega)];decide
    generalize sgn r (B*2^k)=sg' at*
    simp (disch:=omega) only [↓RS,RZ,simprocAttr,g1,add_sub1,Nat.mul_one]
    refine cX hc ?_
    simp (disch:=omega) only [↓RS,RZ,simprocAttr,add_sub1]
    exact lp_next (k,r,d) rfl ⟨⟨by simp only;omega,hv2,by simp only;omega⟩,rfl⟩ (by simp only;omega)
 ·rw [List.take_of_length_le (by omega),List.take_of_length_le (by omega)] at hv
  have e1:bval l/B=bval t:=by rw [hv,Nat.mul_add_div h0,Nat.div_eq_of_lt hR,Nat.add_zero]
  have e2:bval l%B=R:=by rw [hv,Nat.mul_add_mod,Nat.mod_eq_of_lt hR]
  have htr:=rtrim_pc t (by omega)
  have hb:=bytesOf_bw t
  have htk:(bw t).take l.length=bw t:=List.take_of_length_le (by rw [bw_length];omega)
  rw [e1,e2]
  simp (disch:=omega) only [↓RS,RZ,simprocAttr,bw_length,ht,htk,hb]
  refine cX htr ?_
  simp (disch:=omega) only [↓RS,RZ,simprocAttr]
end Go.Av
namespace Go.Av
open Go.RowKit
open Go.Proofs.Tryz (prog)
theorem tf_beq:(true==false)=false:=rfl
theorem ft_beq:(false==true)=false:=rfl
theorem agg_cI {p:Bool} {n:Nat} {z:Int} (h1:p=decide (z<0)) (h2:n=z.natAbs):some (V.agg [.prim (.bool p),.prim (.string (bs (digitsOf n)))])=some (cI z):=by rw [h1,h2];rfl
theorem agg_cI0 {z:Int} (h:z=0):some (V.agg [.prim (.bool false),.prim (.string (bs ([])))])=some (cI z):=by subst h;rw [cI,show (0:Int).natAbs=0 from rfl,digitsOf_zero];rfl
theorem radd_pc (s t:Bool) (l m:List UInt8) (hl:l.length<2^35) (hm:m.length<2^35):PC prog 242 [iN s l,iN t m] (cI (ival s l+ival t m)):=by
 have k1:=rcan_pc s l (by omega)
 have k2:=rcan_pc t m (by omega)
 have a1:=dl_ival s l
 have a2:=dl_ival t m
 generalize ival s l=x at*
 generalize ival t m=y at*
 have v1:=fun h=>rvalue_pc (decide (x<0)) (digitsOf x.natAbs) h
 have v2:=fun h=>rvalue_pc (decide (y<0)) (digitsOf y.natAbs) h
 have i1:=fun h=> @ival_small (decide (x<0)) (digitsOf x.natAbs) h
 have i2:=fun h=> @ival_small (decide (y<0)) (digitsOf y.natAbs) h
 rw [ival_can] at v1 v2 i1 i2
 have p1:=raddm_pc (digitsOf x.natAbs) (digitsOf y.natAbs) (by rw [len_dl];omega) (by rw [len_dl];omega)
 rw [bval_digitsOf,bval_digitsOf] at p1
 have c1:=rcmag_pc x.natAbs y.natAbs (by omega) (by omega)
 have m1:=fun h:y.natAbs≤x.natAbs=>rsubm_pc (digitsOf x.natAbs) (digitsOf y.natAbs) (by rw [len_dl];omega) (by rw [bval_digitsOf,bval_digitsOf];exact h) (dl_mono h)
 have m2:=fun h:x.natAbs≤y.natAbs=>rsubm_pc (digitsOf y.natAbs) (digitsOf x.natAbs) (by rw [len_dl];omega) (by rw [bval_digitsOf,bval_digitsOf];exact h) (dl_mono h)
 rw [bval_digitsOf,bval_digitsOf] at m1 m2
 rw [←len_dl] at a1 a2
 refine PCi ?_
 conv in trip _ _=>cbv
 simp only [runT,RN,simprocAttr]
 by_cases hs:(digitsOf x.natAbs).length≤7∧(digitsOf y.natAbs).length≤7
 ·have hi1:=i1 hs.1
  have hi2:=i2 hs.2
  have hof:=rof_pc (x+y) (by omega) (by omega)
  simp (disch:=omega) only [↓RS,RZ,simprocAttr,iN]
  refine cX k1 ?_
  simp (disch:=omega) only [↓RS,RZ,simprocAttr,cI,iN]
  refine cX k2 ?_
  simp (disch:=omega) only [↓RS,RZ,simprocAttr,cI,iN]
  refine cX (v1 hs.1) ?_
  simp (disch:=omega) only [↓RS,RZ,simprocAttr,cI,iN]
  refine cX (v2 hs.2) ?_
  simp (disch:=omega) only [↓RS,RZ,simprocAttr,cI,iN]
  refine cX hof ?_
  simp (disch:=omega) only [↓RS,RZ,simprocAttr,cI,iN]
 ·have hcase:7<(digitsOf x.natAbs).length∨((digitsOf x.natAbs).length≤7∧7<(digitsOf y.natAbs).length):=by omega
  clear v1 v2 i1 i2
  by_cases hx:x<0
  ·by_cases hy:y<0
   ·simp only [cI,hx,hy,decide_true,decide_false] at k1 k2
    rcases hcase with h7|⟨h7,h8⟩
    all_goals (
     simp (disch:=omega) only [↓RS,RZ,simprocAttr,iN]
     refine cX k1 ?_
     simp (disch:=omega) only [↓RS,RZ,simprocAttr,iN]
     refine cX k2 ?_
     simp (disch:=omega) only [↓RS,RZ,simprocAttr,iN,eqA_bool9,tf_beq,ft_beq]
     refine cX p1 ?_
     simp (disch:=omega) only [↓RS,RZ,simprocAttr,iN]
     exact agg_cI (by simp;omega) (by omega))
   ·simp only [cI,hx,hy,decide_true,decide_false] at k1 k2
    rcases hcase with h7|⟨h7,h8⟩
    all_goals (
     simp (disch:=omega) only [↓RS,RZ,simprocAttr,iN]
     refine cX k1 ?_
     simp (disch:=omega) only [↓RS,RZ,simprocAttr,iN]
     refine cX k2 ?_
     simp (disch:=omega) only [↓RS,RZ,simprocAttr,iN,eqA_bool9,tf_beq,ft_beq]
     refine cX c1 ?_
     rcases Nat.lt_trichotomy x.natAbs y.natAbs with h|h|h
     ·have hsg:sgn x.natAbs y.natAbs= -1:=by rw [sgn,if_pos h]
      simp (disch:=omega) only [↓RS,RZ,simprocAttr,hsg]
      refine cX (m2 (by omega)) ?_
      simp (disch:=omega) only [↓RS,RZ,simprocAttr,iN]
      exact agg_cI (by simp;omega) (by omega)
     ·have hsg:sgn x.natAbs y.natAbs=0:=by rw [sgn,if_neg (by omega),if_neg (by omega)]
      simp (disch:=omega) only [↓RS,RZ,simprocAttr,hsg]
      exact agg_cI0 (by omega)
     ·have hsg:sgn x.natAbs y.natAbs=1:=by rw [sgn,if_neg (by omega),if_pos h]
      simp (disch:=omega) only [↓RS,RZ,simprocAttr,hsg]
      refine cX (m1 (by omega)) ?_
      simp (disch:=omega) only [↓RS,RZ,simprocAttr,iN]
      exact agg_cI (by simp;omega) (by omega))
  ·by_cases hy:y<0
   ·simp only [cI,hx,hy,decide_true,decide_false] at k1 k2
    rcases hcase with h7|⟨h7,h8⟩
    all_goals (
     simp (disch:=omega) only [↓RS,RZ,simprocAttr,iN]
     refine cX k1 ?_
     simp (disch:=omega) only [↓RS,RZ,simprocAttr,iN]
     refine cX k2 ?_
     simp (disch:=omega) only [↓RS,RZ,simprocAttr,iN,eqA_bool9,tf_beq,ft_beq]
     refine cX c1 ?_
     rcases Nat.lt_trichotomy x.natAbs y.natAbs with h|h|h
     ·have hsg:sgn x.natAbs y.natAbs= -1:=by rw [sgn,if_pos h]
      simp (disch:=omega) only [↓RS,RZ,simprocAttr,hsg]
      refine cX (m2 (by omega)) ?_
      simp (disch:=omega) only [↓RS,RZ,simprocAttr,iN]
      exact agg_cI (by simp;omega) (by omega)
     ·have hsg:sgn x.natAbs y.natAbs=0:=by rw [sgn,if_neg (by omega),if_neg (by omega)]
      simp (disch:=omega) only [↓RS,RZ,simprocAttr,hsg]
      exact agg_cI0 (by omega)
     ·have hsg:sgn x.natAbs y.natAbs=1:=by rw [sgn,if_neg (by omega),if_pos h]
      simp (disch:=omega) only [↓RS,RZ,simprocAttr,hsg]
      refine cX (m1 (by omega)) ?_
      simp (disch:=omega) only [↓RS,RZ,simprocAttr,iN]
      exact agg_cI (by simp;omega) (by omega))
   ·simp only [cI,hx,hy,decide_true,decide_false] at k1 k2
    rcases hcase with h7|⟨h7,h8⟩
    all_goals (
     simp (disch:=omega) only [↓RS,RZ,simprocAttr,iN]
     refine cX k1 ?_
     simp (disch:=omega) only [↓RS,RZ,simprocAttr,iN]
     refine cX k2 ?_
     simp (disch:=omega) only [↓RS,RZ,simprocAttr,iN,eqA_bool9,tf_beq,ft_beq]
     refine cX p1 ?_
     simp (disch:=omega) only [↓RS,RZ,simprocAttr,iN]
     exact agg_cI (by simp;omega) (by omega))
end Go.Av
