/- Helping texts: Bd, Be, Bf. -/
import Derived.Test.YtkmlhdfpcjkekaaGreatKCt
set_option linter.unusedSimpArgs false
set_option linter.unusedVariables false
set_option maxRecDepth 100000
set_option maxHeartbeats 16000000
namespace Go.Av
open Go.RowKit
open Go.Proofs.Tryz (prog)
theorem PC.res {P:Program} {f:FuncId} {args:List V} {r r':V} (h:PC P f args r) (hr:∀ I w x,VR (fun _=>none) I w r x→VR (fun _=>none) I w r' x):PC P f args r':=by
 intro I w xs hI hxs
 refine ⟨(h I w xs hI hxs).1,(h I w xs hI hxs).2.mono ?_⟩
 rintro e w' ⟨x,rfl,hv,hb⟩
 exact ⟨x,rfl,hr _ _ _ hv,hb⟩
theorem PC.args {P:Program} {f:FuncId} {args args':List V} {r:V} (h:PC P f args r) (hr:∀ I w x,VRs (fun _=>none) I w args' x→VRs (fun _=>none) I w args x):PC P f args' r:=
 fun I w xs hI hxs=>h I w xs hI (hr _ _ _ hxs)
theorem VRs.cons_imp {v v':V} {vs vs':List V} (h:∀ I w x,VR (fun _=>none) I w v' x→VR (fun _=>none) I w v x) (hs:∀ I w x,VRs (fun _=>none) I w vs' x→VRs (fun _=>none) I w vs x):
 ∀ I w x,VRs (fun _=>none) I w (v'::vs') x→VRs (fun _=>none) I w (v::vs) x:=by
 intro I w x hx
 have h0:=hx.len
 have h1:VRs (fun _=>none) I w vs' (x.extract 1 x.size):=⟨by simp at h0 ⊢;omega,fun k u y hu hy=>hx.at_ (k+1) u y (by simpa using hu) (by
  rw [Array.getElem?_extract] at hy
  split at hy
  ·rw [Nat.add_comm];exact hy
  ·cases hy)⟩
 have h2:=hs _ _ _ h1
 refine ⟨by have:=h2.len;simp at this h0 ⊢;omega,fun k u y hu hy=> ?_⟩
 cases k with
 |zero=>simp at hu;subst hu;exact h _ _ _ (hx.at_ 0 v' y rfl hy)
 |succ k=>
  refine h2.at_ k u y (by simpa using hu) ?_
  rw [Array.getElem?_extract]
  have:=(Array.getElem?_eq_some_iff.1 hy).1
  rw [if_pos (by omega),Nat.add_comm];exact hy
theorem Qt {sz:Nat}:∀ I w x,VR (fun _=>none) I w (.prim (.slice none 0 0)) x→VR (fun _=>none) I w (.lst sz []) x:=by
 intro I w x h
 cases h;exact .lnil
theorem K1 {v:List V}:∀ I w x,VRs (fun _=>none) I w v x→VRs (fun _=>none) I w v x:=fun _ _ _ h=>h
def lw (l:List Nat):List (List V):=l.map fun x=>[.prim (.int .u32 ((x:Nat):Int))]
theorem aP (l:List Nat):(lw l).length=l.length:=by simp [lw]
theorem xy (l m:List Nat):lw (l++m)=lw l++lw m:=by simp [lw]
theorem Qy (l:List Nat) (k:Nat):(lw l).take k=lw (l.take k):=by simp [lw]
theorem j9 {l:List Nat} {k:Nat} (h:k<l.length):(lw l).getD k []=[.prim (.int .u32 ((l.getD k 0:Nat):Int))]:=by
 simp [lw,ae,h]
theorem Oz:lw []=[]:=rfl
theorem ze:aD prog 174 =some ⟨1,4,[.int .u32 0],.int .u32,false⟩:=by kernel_rfl
theorem lz:aD prog 176 =some ⟨1,24,[.slice none 0 0],.slice 174,false⟩:=by kernel_rfl
def trim (l:List Nat):List Nat:=(l.reverse.dropWhile (·==0)).reverse
theorem MM:trim []=[]:=rfl
theorem KP (l:List Nat):trim (l++[0])=trim l:=by simp [trim]
theorem Jp {l:List Nat} {x:Nat} (h:x≠0):trim (l++[x])=l++[x]:=by simp [trim,h]
theorem Jo (l:List Nat) (hl:l.length<2^40):PC prog 224 [.lst 1 (lw l)] (.lst 1 (lw (trim l))):=by
 refine PCi ?_
 conv in bL _ _=>cbv
 simp only [bM,RN,simprocAttr]
 simp only [fQ,f7,f6,jg,ie,eQ,f9,f8,jh,dr,fh,fg,gm,cG,dy,dw,d8,eI,ji,gw,fj,fm,eY,dK,dL,dc,dZ,dY,gg,ig,jx,ik,jy,fF,ib,fo,gq,gh,gp,gv,fd,de,fc,gn,dR,dS,eZ,cC,cj,dQ,ch,dP,dN,cP,cT,fY,fZ,fX,fW,fe,dT,f5,cg,bQ,dM,cQ,gr,gu,dW,cR,dV,dm,dp,dU,cE,cm,bU,dk,bT,dj,dh,cD,cF,dX,dq,ff,bS,bJ,df,evN,evA,evL,lY,unV,gZ,nb,List.set_cons_succ,List.set_cons_zero,aB,aM,List.getElem?_toArray,aN,aV,true_and,if_true,Bool.false_eq_true,Bool.true_eq_false,if_false,aI,bD,eS,TK.isAgg,fT,fO,gz,db,d5,fw,fq,d4,fp,fu,d7,fz,d6,fy,fA,List.all_cons,List.all_nil,Bool.and_true,Bool.and_self,List.set_cons_zero,iz,bj,Option.map_none,reduceCtorEq,true_implies,false_implies,and_true,aE,aG,Bool.not_true,Bool.not_false,beq_self_eq_true,not_true_eq_false,not_false_eq_true,decide_true,decide_false,decide_not,Nat.reduceAdd,cK,cJ,kf,lM,j7,fP,it,dG,eE,Int.toNat_natCast]
 refine rU (fun (s:List Nat) J=> .lst 1 (lw s)::J 1:: .prim (.slice none 0 0)::J 3::J 4::J 5::J 6::J 7::J 8::J 9::J 10::J 11::J 12::J 13::J 14::J 15::J 16::J 17::J 18::J 19::J 20::[]) (fun s H=>trim s=trim l∧s.length≤l.length∧H=[]) (fun s=>s.length) l rfl ⟨rfl,ax _,rfl⟩ ?_
 rintro s J _ ⟨hs,hls,rfl⟩
 try conv in ov _ _ _ _=>simp only [ov,List.lookup,RO,simprocAttr]
 rcases List.eq_nil_or_concat s with rfl|⟨s,x,rfl⟩
 ·simp only [fQ,f7,f6,jg,ie,eQ,f9,f8,jh,dr,fh,fg,gm,cG,dy,dw,d8,eI,ji,gw,fj,fm,eY,dK,dL,dc,dZ,dY,gg,ig,jx,ik,jy,fF,ib,fo,gq,gh,gp,gv,fd,de,fc,gn,dR,dS,eZ,cC,cj,dQ,ch,dP,dN,cP,cT,fY,fZ,fX,fW,fe,dT,f5,cg,bQ,dM,cQ,gr,gu,dW,cR,dV,dm,dp,dU,cE,cm,bU,dk,bT,dj,dh,cD,cF,dX,dq,ff,bS,bJ,df,evN,evA,evL,lY,unV,gZ,nb,List.set_cons_succ,List.set_cons_zero,aB,aM,List.getElem?_toArray,aN,aV,true_and,if_true,Bool.false_eq_true,Bool.true_eq_false,if_false,aI,bD,eS,TK.isAgg,fT,fO,gz,db,d5,fw,fq,d4,fp,fu,d7,fz,d6,fy,fA,List.all_cons,List.all_nil,Bool.and_true,Bool.and_self,List.set_cons_zero,iz,bj,Option.map_none,reduceCtorEq,true_implies,false_implies,and_true,aE,aG,Bool.not_true,Bool.not_false,beq_self_eq_true,not_true_eq_false,not_false_eq_true,decide_true,decide_false,decide_not,Nat.reduceAdd,lz,nR,ze,cK,cJ,kf,lM,j7,fP,it,dG,eE,Int.toNat_natCast,Oz,aI,Int.natCast_zero,gt_iff_lt,Int.lt_irrefl]
  simp only [ru,lB,qT,pH,aB,aM,view,←hs,MM,Oz]
 ·simp only [List.concat_eq_append] at*
  have e1:IntKind.i64.wrap ((((s++[x]).length:Nat):Int)-1)=((s.length:Nat):Int):=by rw [jd]<;>simp at* <;>omega
  have e2:((0:Int)<(((s++[x]).length:Nat):Int))=True:=by simp
  have e3:(lw (s++[x])).getD s.length []=[.prim (.int .u32 ((x:Nat):Int))]:=by rw [j9 (by simp)];simp
  have e4:(lw (s++[x])).take s.length=lw s:=by rw [Qy];simp
  simp only [fQ,f7,f6,jg,ie,eQ,f9,f8,jh,dr,fh,fg,gm,cG,dy,dw,d8,eI,ji,gw,fj,fm,eY,dK,dL,dc,dZ,dY,gg,ig,jx,ik,jy,fF,ib,fo,gq,gh,gp,gv,fd,de,fc,gn,dR,dS,eZ,cC,cj,dQ,ch,dP,dN,cP,cT,fY,fZ,fX,fW,fe,dT,f5,cg,bQ,dM,cQ,gr,gu,dW,cR,dV,dm,dp,dU,cE,cm,bU,dk,bT,dj,dh,cD,cF,dX,dq,ff,bS,bJ,df,evN,evA,evL,lY,unV,gZ,nb,List.set_cons_succ,List.set_cons_zero,aB,aM,List.getElem?_toArray,aN,aV,true_and,if_true,Bool.false_eq_true,Bool.true_eq_false,if_false,aI,bD,eS,TK.isAgg,fT,fO,gz,db,d5,fw,fq,d4,fp,fu,d7,fz,d6,fy,fA,List.all_cons,List.all_nil,Bool.and_true,Bool.and_self,List.set_cons_zero,iz,bj,Option.map_none,reduceCtorEq,true_implies,false_implies,and_true,aE,aG,Bool.not_true,Bool.not_false,beq_self_eq_true,not_true_eq_false,not_false_eq_true,decide_true,decide_false,decide_not,Nat.reduceAdd,lz,nR,ze,cK,cJ,kf,lM,j7,fP,it,dG,eE,Int.toNat_natCast,aP,gt_iff_lt,e1,e2,e3,e4]
  have hle:(s++[x]).length=s.length+1:=by simp
  refine ⟨⟨by omega,by omega⟩,fun hx=>⟨⟨by omega,by omega,by omega⟩,s,?_,⟨?_,?_⟩,by simp⟩,fun hx=> ?_⟩
  ·have e5:List.take (s.length-Int.toNat 0) (List.drop (Int.toNat 0) (lw (s++[x])))=lw s:=by simpa using e4
   rw [e5]
  ·have:x=0:=by simpa using hx
   subst this;rw [←hs,KP]
  ·simp at hls;omega
  ·have:x≠0:=by simpa using hx
   simp only [ru,lB,qT,pH,aB,aM,view,←hs,Jp this]
end Go.Av
namespace Go.Av
open Go.RowKit
open Go.Proofs.Tryz (prog)
def bk:List Nat→Nat
 |[]=>0
 |x::l=>x+4294967296*bk l
def jD (l:List Nat):Prop:=∀ x∈l,x<4294967296
theorem oV (l m:List Nat):bk (l++m)=bk l+4294967296^l.length*bk m:=by
 induction l with
 |nil=>simp [bk]
 |cons x l ih=>simp only [List.cons_append,bk,ih,aC,Nat.pow_succ];grind
theorem ms {l:List Nat} (h:jD l):bk l<4294967296^l.length:=by
 induction l with
 |nil=>simp [bk]
 |cons x l ih=>
  have h0:=h x (ah ..)
  have h1:=ih (fun y hy=>h y (ag _ hy))
  simp only [bk,aC,Nat.pow_succ]
  omega
theorem jD.take {l:List Nat} (h:jD l) (k:Nat):jD (l.take k):=fun x hx=>h x (List.mem_of_mem_take hx)
theorem jD.drop {l:List Nat} (h:jD l) (k:Nat):jD (l.drop k):=fun x hx=>h x (List.mem_of_mem_drop hx)
theorem jD.getD {l:List Nat} (h:jD l) (k:Nat):l.getD k 0<4294967296:=by
 rw [ae]
 cases hk:l[k]? with
 |none=>simp
 |some x=>exact h x (List.mem_of_getElem? hk)
theorem kQ (l:List Nat) {k:Nat} (h:k<l.length):l.drop k=l.getD k 0::l.drop (k+1):=by
 rw [List.drop_eq_getElem_cons h,ae,af h];rfl
theorem nt (l:List Nat) (k:Nat) (h:k≤l.length):bk l=bk (l.take k)+4294967296^k*bk (l.drop k):=by
 conv=>lhs;rw [←List.take_append_drop k l]
 rw [oV,d9,Nat.min_eq_left h]
theorem Hj {l m:List Nat} (hl:jD l) (hm:jD m) (he:l.length=m.length) {k:Nat} (hk:k<l.length) (hd:l.drop (k+1)=m.drop (k+1)) (hlt:l.getD k 0<m.getD k 0):bk l<bk m:=by
 rw [nt l k (by omega),nt m k (by omega),kQ l hk,kQ m (by omega),hd]
 have h1:=ms (hl.take k)
 have h2:(l.take k).length=k:=by simp;omega
 rw [h2] at h1
 simp only [bk]
 generalize bk (m.drop (k+1))=D at*
 generalize l.getD k 0=a at*
 generalize m.getD k 0=b at*
 generalize 4294967296^k=p at*
 have:p*(a+1+4294967296*D)≤p*(b+4294967296*D):=Nat.mul_le_mul_left _ (by omega)
 have e:p*(a+1+4294967296*D)=p*(a+4294967296*D)+p:=by grind
 omega
def sgn (a b:Nat):Int:=if a<b then-1 else if b<a then 1 else 0
def GM (l m:List Nat):Int:=if l.length<m.length then-1 else if m.length<l.length then 1 else sgn (bk l) (bk m)
theorem IX (l m:List Nat) (hl:l.length<2^40) (hm:m.length<2^40) (hL:jD l) (hM:jD m):PC prog 189 [.lst 1 (lw l),.lst 1 (lw m)] (.prim (.int .i64 (GM l m))):=by
 refine PCi ?_
 conv in bL _ _=>cbv
 simp only [bM,RN,simprocAttr]
 by_cases hne:l.length=m.length
 ·have e0:(((l.length:Nat):Int) !=((m.length:Nat):Int))=false:=by simp [hne]
  simp only [fQ,f7,f6,jg,ie,eQ,f9,f8,jh,dr,fh,fg,gm,cG,dy,dw,d8,eI,ji,gw,fj,fm,eY,dK,dL,dc,dZ,dY,gg,ig,jx,ik,jy,fF,ib,fo,gq,gh,gp,gv,fd,de,fc,gn,dR,dS,eZ,cC,cj,dQ,ch,dP,dN,cP,cT,fY,fZ,fX,fW,fe,dT,f5,cg,bQ,dM,cQ,gr,gu,dW,cR,dV,dm,dp,dU,cE,cm,bU,dk,bT,dj,dh,cD,cF,dX,dq,ff,bS,bJ,df,evN,evA,evL,lY,unV,gZ,nb,List.set_cons_succ,List.set_cons_zero,aB,aM,List.getElem?_toArray,aN,aV,true_and,if_true,Bool.false_eq_true,Bool.true_eq_false,if_false,aI,bD,eS,TK.isAgg,fT,fO,gz,db,d5,fw,fq,d4,fp,fu,d7,fz,d6,fy,fA,List.all_cons,List.all_nil,Bool.and_true,Bool.and_self,List.set_cons_zero,iz,bj,Option.map_none,reduceCtorEq,true_implies,false_implies,and_true,aE,aG,Bool.not_true,Bool.not_false,beq_self_eq_true,not_true_eq_false,not_false_eq_true,decide_true,decide_false,decide_not,Nat.reduceAdd,lz,nR,ze,cK,cJ,kf,lM,j7,fP,it,dG,eE,Int.toNat_natCast,iU,fJ,iT,gO,gQ,iS,dJ,dC,gL,dB,gK,gJ,eK,jS,jT,jR,jQ,iV,eL,gI,gR,jU,dA,cZ,fK,iW,gN,iX,iY,gU,jb,ja,jc,i8,i9,gT,jW,jY,jX,i7,Nat.testBit_eq_decide_div_mod_eq,gH,iP,iR,iM,iQ,iO,iK,jN,jO,jP,jM,iL,gF,gS,eJ,dI,fH,iJ,sI,ou,List.any_nil,List.any_cons,Bool.or_self,Bool.or_false,List.flatMap_cons,List.flatMap_nil,List.append_nil,List.nil_append,aY,List.map_nil,aP,e0]
  have e1:IntKind.i64.wrap (((l.length:Nat):Int)-1)=((l.length:Nat):Int)-1:=by rw [jd]<;>omega
  simp only [e1]
  refine rU (fun (k:Nat) J=> .lst 1 (lw l):: .lst 1 (lw m)::J 2::J 3:: .prim (.int .i64 0):: .prim (.int .i64 ((k:Int)-1))::J 6::J 7::J 8::J 9::J 10::J 11::J 12::J 13::J 14::J 15::J 16::J 17::J 18::J 19::J 20::J 21::J 22::J 23::J 24::J 25::J 26::J 27::J 28::J 29::J 30::J 31::J 32::J 33::J 34::J 35::J 36::J 37::J 38::J 39::J 40::J 41::J 42::[]) (fun k H=>k≤l.length∧l.drop k=m.drop k∧H=[]) (fun k=>k) l.length rfl ⟨ax _,by rw [List.drop_of_length_le (by omega),List.drop_of_length_le (by omega)],rfl⟩ ?_
  rintro k J _ ⟨hk,hd,rfl⟩
  try conv in ov _ _ _ _=>simp only [ov,List.lookup,RO,simprocAttr]
  rcases k with _|k
  ·have e2:((((0:Nat):Int)-1)≥(0:Int))=False:=by simp
   simp only [fQ,f7,f6,jg,ie,eQ,f9,f8,jh,dr,fh,fg,gm,cG,dy,dw,d8,eI,ji,gw,fj,fm,eY,dK,dL,dc,dZ,dY,gg,ig,jx,ik,jy,fF,ib,fo,gq,gh,gp,gv,fd,de,fc,gn,dR,dS,eZ,cC,cj,dQ,ch,dP,dN,cP,cT,fY,fZ,fX,fW,fe,dT,f5,cg,bQ,dM,cQ,gr,gu,dW,cR,dV,dm,dp,dU,cE,cm,bU,dk,bT,dj,dh,cD,cF,dX,dq,ff,bS,bJ,df,evN,evA,evL,lY,unV,gZ,nb,List.set_cons_succ,List.set_cons_zero,aB,aM,List.getElem?_toArray,aN,aV,true_and,if_true,Bool.false_eq_true,Bool.true_eq_false,if_false,aI,bD,eS,TK.isAgg,fT,fO,gz,db,d5,fw,fq,d4,fp,fu,d7,fz,d6,fy,fA,List.all_cons,List.all_nil,Bool.and_true,Bool.and_self,List.set_cons_zero,iz,bj,Option.map_none,reduceCtorEq,true_implies,false_implies,and_true,aE,aG,Bool.not_true,Bool.not_false,beq_self_eq_true,not_true_eq_false,not_false_eq_true,decide_true,decide_false,decide_not,Nat.reduceAdd,lz,nR,ze,cK,cJ,kf,lM,j7,fP,it,dG,eE,Int.toNat_natCast,iU,fJ,iT,gO,gQ,iS,dJ,dC,gL,dB,gK,gJ,eK,jS,jT,jR,jQ,iV,eL,gI,gR,jU,dA,cZ,fK,iW,gN,iX,iY,gU,jb,ja,jc,i8,i9,gT,jW,jY,jX,i7,Nat.testBit_eq_decide_div_mod_eq,gH,iP,iR,iM,iQ,iO,iK,jN,jO,jP,jM,iL,gF,gS,eJ,dI,fH,iJ,sI,ou,List.any_nil,List.any_cons,Bool.or_self,Bool.or_false,List.flatMap_cons,List.flatMap_nil,List.append_nil,List.nil_append,aY,List.map_nil,aP,e2]
   simp only [ru,lB,qT,pH,aB,aM,view]
   have:l=m:=by simpa using hd
   subst this
   simp [GM,sgn]
  ·have e2:((((k+1:Nat):Int)-1)≥(0:Int))=True:=by simp
   have e3:((k+1:Nat):Int)-1=((k:Nat):Int):=by omega
   have e4:=j9 (l:=l) (k:=k) (by omega)
   have e5:=j9 (l:=m) (k:=k) (by omega)
   have e6:IntKind.i64.wrap (((k:Nat):Int)-1)=((k:Nat):Int)-1:=by rw [jd]<;>omega
   have d1:=kQ l (k:=k) (by omega)
   have d2:=kQ m (k:=k) (by omega)
   simp only [e3,fQ,f7,f6,jg,ie,eQ,f9,f8,jh,dr,fh,fg,gm,cG,dy,dw,d8,eI,ji,gw,fj,fm,eY,dK,dL,dc,dZ,dY,gg,ig,jx,ik,jy,fF,ib,fo,gq,gh,gp,gv,fd,de,fc,gn,dR,dS,eZ,cC,cj,dQ,ch,dP,dN,cP,cT,fY,fZ,fX,fW,fe,dT,f5,cg,bQ,dM,cQ,gr,gu,dW,cR,dV,dm,dp,dU,cE,cm,bU,dk,bT,dj,dh,cD,cF,dX,dq,ff,bS,bJ,df,evN,evA,evL,lY,unV,gZ,nb,List.set_cons_succ,List.set_cons_zero,aB,aM,List.getElem?_toArray,aN,aV,true_and,if_true,Bool.false_eq_true,Bool.true_eq_false,if_false,aI,bD,eS,TK.isAgg,fT,fO,gz,db,d5,fw,fq,d4,fp,fu,d7,fz,d6,fy,fA,List.all_cons,List.all_nil,Bool.and_true,Bool.and_self,List.set_cons_zero,iz,bj,Option.map_none,reduceCtorEq,true_implies,false_implies,and_true,aE,aG,Bool.not_true,Bool.not_false,beq_self_eq_true,not_true_eq_false,not_false_eq_true,decide_true,decide_false,decide_not,Nat.reduceAdd,lz,nR,ze,cK,cJ,kf,lM,j7,fP,it,dG,eE,Int.toNat_natCast,iU,fJ,iT,gO,gQ,iS,dJ,dC,gL,dB,gK,gJ,eK,jS,jT,jR,jQ,iV,eL,gI,gR,jU,dA,cZ,fK,iW,gN,iX,iY,gU,jb,ja,jc,i8,i9,gT,jW,jY,jX,i7,Nat.testBit_eq_decide_div_mod_eq,gH,iP,iR,iM,iQ,iO,iK,jN,jO,jP,jM,iL,gF,gS,eJ,dI,fH,iJ,sI,ou,List.any_nil,List.any_cons,Bool.or_self,Bool.or_false,List.flatMap_cons,List.flatMap_nil,List.append_nil,List.nil_append,aY,List.map_nil,aP,e2,e4,e5,e6]
   refine ⟨fun _=>⟨⟨by omega,by omega⟩,⟨by omega,by omega⟩,fun hlt=> ?_,fun h1=>⟨⟨by omega,by omega⟩,⟨by omega,by omega⟩,fun hgt=> ?_,fun h2=>⟨k,rfl,⟨by omega,?_⟩,by omega⟩⟩⟩,fun h=>absurd (by omega) h⟩
   ·simp only [ru,lB,qT,pH,aB,aM,view]
    have:=Hj hL hM hne (k:=k) (by omega) hd (by omega)
    rw [GM,if_neg (by omega),if_neg (by omega),sgn,if_pos this]
   ·simp only [ru,lB,qT,pH,aB,aM,view]
    have:=Hj hM hL hne.symm (k:=k) (by omega) hd.symm (by omega)
    rw [GM,if_neg (by omega),if_neg (by omega),sgn,if_neg (by omega),if_pos this]
   ·rw [d1,d2,hd]
    have:l.getD k 0=m.getD k 0:=by omega
    rw [this]
 ·have e0:(((l.length:Nat):Int) !=((m.length:Nat):Int))=true:=by simp;omega
  simp only [fQ,f7,f6,jg,ie,eQ,f9,f8,jh,dr,fh,fg,gm,cG,dy,dw,d8,eI,ji,gw,fj,fm,eY,dK,dL,dc,dZ,dY,gg,ig,jx,ik,jy,fF,ib,fo,gq,gh,gp,gv,fd,de,fc,gn,dR,dS,eZ,cC,cj,dQ,ch,dP,dN,cP,cT,fY,fZ,fX,fW,fe,dT,f5,cg,bQ,dM,cQ,gr,gu,dW,cR,dV,dm,dp,dU,cE,cm,bU,dk,bT,dj,dh,cD,cF,dX,dq,ff,bS,bJ,df,evN,evA,evL,lY,unV,gZ,nb,List.set_cons_succ,List.set_cons_zero,aB,aM,List.getElem?_toArray,aN,aV,true_and,if_true,Bool.false_eq_true,Bool.true_eq_false,if_false,aI,bD,eS,TK.isAgg,fT,fO,gz,db,d5,fw,fq,d4,fp,fu,d7,fz,d6,fy,fA,List.all_cons,List.all_nil,Bool.and_true,Bool.and_self,List.set_cons_zero,iz,bj,Option.map_none,reduceCtorEq,true_implies,false_implies,and_true,aE,aG,Bool.not_true,Bool.not_false,beq_self_eq_true,not_true_eq_false,not_false_eq_true,decide_true,decide_false,decide_not,Nat.reduceAdd,lz,nR,ze,cK,cJ,kf,lM,j7,fP,it,dG,eE,Int.toNat_natCast,iU,fJ,iT,gO,gQ,iS,dJ,dC,gL,dB,gK,gJ,eK,jS,jT,jR,jQ,iV,eL,gI,gR,jU,dA,cZ,fK,iW,gN,iX,iY,gU,jb,ja,jc,i8,i9,gT,jW,jY,jX,i7,Nat.testBit_eq_decide_div_mod_eq,gH,iP,iR,iM,iQ,iO,iK,jN,jO,jP,jM,iL,gF,gS,eJ,dI,fH,iJ,sI,ou,List.any_nil,List.any_cons,Bool.or_self,Bool.or_false,List.flatMap_cons,List.flatMap_nil,List.append_nil,List.nil_append,aY,List.map_nil,aP,e0]
  refine ⟨fun h=> ?_,fun h=> ?_⟩
  ·simp only [ru,lB,qT,pH,aB,aM,view,GM,if_pos (show l.length<m.length by omega)]
  ·simp only [ru,lB,qT,pH,aB,aM,view,GM,if_neg (show ¬l.length<m.length by omega),if_pos (show m.length<l.length by omega)]
end Go.Av
namespace Go.Av
open Go.RowKit
open Go.Proofs.Tryz (prog)
def bf (n:Nat):List Nat:=if h:n=0 then [] else (n%4294967296)::bf (n/4294967296)
termination_by n
decreasing_by omega
theorem jj:bf 0=[]:=by unfold bf;simp
theorem nG {n:Nat} (h:n≠0):bf n=(n%4294967296)::bf (n/4294967296):=by
 rw [bf];simp [h]
theorem EV {x m:Nat} (h:x<4294967296) (hm:x+4294967296*m≠0):bf (x+4294967296*m)=x::bf m:=by
 rw [nG hm]
 have h1:(x+4294967296*m)%4294967296=x:=by omega
 have h2:(x+4294967296*m)/4294967296=m:=by omega
 rw [h1,h2]
theorem cY (n:Nat):jD (bf n):=by
 induction n using Nat.strongRecOn with
 |ind n ih=>
  by_cases h:n=0
  ·subst h;rw [jj];intro x hx;simp at hx
  ·rw [nG h]
   intro x hx
   rcases ay.1 hx with rfl|hx
   ·omega
   ·exact ih _ (by omega) x hx
theorem cS (n:Nat):bk (bf n)=n:=by
 induction n using Nat.strongRecOn with
 |ind n ih=>
  by_cases h:n=0
  ·subst h;rw [jj];rfl
  ·rw [nG h,bk,ih _ (by omega)];omega
theorem KQ (x:Nat) (l:List Nat):trim (x::l)=if trim l=[]∧x=0 then [] else x::trim l:=by
 unfold trim
 rw [List.reverse_cons,List.dropWhile_append]
 cases h:(List.dropWhile (fun x=>x==0) l.reverse) with
 |nil=>
  by_cases hx:x=0
  ·simp [h,hx]
  ·simp [h,hx]
 |cons a b=>simp [h]
theorem Eu {l:List Nat} (h:jD l):trim l=bf (bk l):=by
 induction l with
 |nil=>rw [bk,jj];rfl
 |cons x l ih=>
  have h0:=h x (ah ..)
  have h1:=ih (fun y hy=>h y (ag _ hy))
  rw [KQ,h1,bk]
  by_cases hz:x+4294967296*bk l=0
  ·have hx:x=0:=by omega
   have hl:bk l=0:=by omega
   rw [hl,hx,jj];simp [jj]
  ·rw [EV h0 hz,if_neg]
   rintro ⟨ha,hb⟩
   have:bk l=0:=by rw [←cS (bk l),ha];rfl
   omega
theorem OE {l:List Nat} (h:jD l) (hn:l=[]∨4294967296^(l.length-1)≤bk l):l=bf (bk l):=by
 rw [←Eu h]
 rcases List.eq_nil_or_concat l with rfl|⟨s,x,rfl⟩
 ·rfl
 ·simp only [List.concat_eq_append] at*
  have hx:x≠0:=by
   rintro rfl
   rcases hn with hn|hn
   ·simp at hn
   ·rw [oV] at hn
    have:=ms (l:=s) (fun y hy=>h y (bg _ hy))
    simp [bk] at hn
    omega
  rw [Jp hx]
theorem mt {n k:Nat} (h:n<4294967296^k):(bf n).length≤k:=by
 induction k generalizing n with
 |zero=>have:n=0:=by simpa using h
        subst this;rw [jj];simp
 |succ k ih=>
  by_cases hz:n=0
  ·subst hz;rw [jj];simp
  ·rw [nG hz,aC]
   have:=ih (n:=n/4294967296) (by rw [Nat.div_lt_iff_lt_mul (by decide)];rw [Nat.pow_succ] at h;exact h)
   omega
theorem lG (l:List Nat):∀ (k x:Nat),k<l.length→bk (l.set k x)+4294967296^k*l.getD k 0=bk l+4294967296^k*x:=by
 induction l with
 |nil=>intro k x h;simp at h
 |cons y l ih=>
  intro k x h
  cases k with
  |zero=>simp [bk];omega
  |succ k=>
   have:=ih k x (by simpa using h)
   simp only [List.set_cons_succ,bk,aB,Nat.pow_succ]
   generalize bk (l.set k x)=A at*
   generalize l.getD k 0=g at*
   generalize 4294967296^k=p at*
   generalize bk l=B at*
   have e:4294967296*A+4294967296*(p*g)=4294967296*B+4294967296*(p*x):=by rw [←Nat.mul_add,←Nat.mul_add,this]
   have e1:p*4294967296*g=4294967296*(p*g):=by grind
   have e2:p*4294967296*x=4294967296*(p*x):=by grind
   omega
theorem zB (l:List Nat):∀ (k:Nat),k<l.length→4294967296^k*l.getD k 0≤bk l:=by
 intro k h
 have:=nt l k (by omega)
 rw [kQ l h,bk] at this
 rw [this]
 have:4294967296^k*l.getD k 0≤4294967296^k*(l.getD k 0+4294967296*bk (List.drop (k+1) l)):=Nat.mul_le_mul_left _ (by omega)
 omega
theorem jD.set {l:List Nat} (h:jD l) (k:Nat) {x:Nat} (hx:x<4294967296):jD (l.set k x):=fun y hy=>by
 rcases List.mem_or_eq_of_mem_set hy with h1|rfl
 ·exact h y h1
 ·exact hx
theorem mT {l:List Nat} {k:Nat} (h:k<l.length):(lw l)[k]? =some [.prim (.int .u32 ((l.getD k 0:Nat):Int))]:=by
 simp [lw,h,ae]
theorem nr {l:List Nat} {k x:Nat}:(lw l).set k [.prim (.int .u32 ((x:Nat):Int))]=lw (l.set k x):=by
 simp [lw,List.map_set]
theorem Oy (n:Nat):List.replicate n [V.prim (.int .u32 0)]=lw (List.replicate n 0):=by simp [lw]
end Go.Av
