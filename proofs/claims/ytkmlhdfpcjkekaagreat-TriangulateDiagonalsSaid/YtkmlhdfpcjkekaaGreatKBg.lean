/- Helping texts: Bg, Bh, Bi, Bj. -/
import Derived.Test.YtkmlhdfpcjkekaaGreatKBd
set_option linter.unusedSimpArgs false
set_option linter.unusedVariables false
set_option maxRecDepth 100000
set_option maxHeartbeats 16000000
namespace Go.Av
open Go.RowKit
open Go.Proofs.Tryz (prog)
theorem MT (l:List UInt8):(strip l).length≤l.length:=(List.dropWhile_sublist _).length_le
theorem BH (l:List UInt8):bn (strip l)=bn l:=by
 induction l with
 |nil=>rfl
 |cons b l ih=>
  by_cases h:b=0
  ·subst h
   have:strip (0::l)=strip l:=by simp [strip]
   rw [this,ih,uJ];simp
  ·have:strip (b::l)=b::l:=by
    have:(b==0)=false:=by simpa using h
    simp [strip,this]
   rw [this]
theorem KT (l:List UInt8):strip l=[]∨256^((strip l).length-1)≤bn (strip l):=by
 induction l with
 |nil=>left;rfl
 |cons b l ih=>
  by_cases h:b=0
  ·subst h
   have:strip (0::l)=strip l:=by simp [strip]
   rw [this];exact ih
  ·have:strip (b::l)=b::l:=by
    have:(b==0)=false:=by simpa using h
    simp [strip,this]
   rw [this]
   right
   rw [uJ]
   have hb:1≤b.toNat:=by
    rcases Nat.eq_zero_or_pos b.toNat with h0|h0
    ·exact absurd (UInt8.toNat_inj.1 (by simpa using h0)) h
    ·exact h0
   have:1*256^l.length≤b.toNat*256^l.length:=aS _ hb
   simp at*
   omega
theorem n7 (l:List UInt8) (hl:l.length<2^40):PC prog 188 [.prim (.string (bs l))] (.lst 1 (lw (bf (bn l)))):=by
 refine PCi ?_
 conv in bL _ _=>cbv
 simp only [bM,RN,simprocAttr]
 simp only [fQ,f7,f6,jg,ie,eQ,f9,f8,jh,dr,fh,fg,gm,cG,dy,dw,d8,eI,ji,gw,fj,fm,eY,dK,dL,dc,dZ,dY,gg,ig,jx,ik,jy,fF,ib,fo,gq,gh,gp,gv,fd,de,fc,gn,dR,dS,eZ,cC,cj,dQ,ch,dP,dN,cP,cT,fY,fZ,fX,fW,fe,dT,f5,cg,bQ,dM,cQ,gr,gu,dW,cR,dV,dm,dp,dU,cE,cm,bU,dk,bT,dj,dh,cD,cF,dX,dq,ff,bS,bJ,df,evN,evA,evL,lY,unV,gZ,nb,List.set_cons_succ,List.set_cons_zero,aB,aM,List.getElem?_toArray,aN,aV,true_and,if_true,Bool.false_eq_true,Bool.true_eq_false,if_false,aI,bD,eS,TK.isAgg,fT,fO,gz,db,d5,fw,fq,d4,fp,fu,d7,fz,d6,fy,fA,List.all_cons,List.all_nil,Bool.and_true,Bool.and_self,List.set_cons_zero,iz,bj,Option.map_none,reduceCtorEq,true_implies,false_implies,and_true,aE,aG,Bool.not_true,Bool.not_false,beq_self_eq_true,not_true_eq_false,not_false_eq_true,decide_true,decide_false,decide_not,Nat.reduceAdd,cK,cJ,kf,lM,j7,fP,it,dG,eE,Int.toNat_natCast,iU,fJ,iT,gO,gQ,iS,dJ,dC,gL,dB,gK,gJ,eK,jS,jT,jR,jQ,iV,eL,gI,gR,jU,dA,cZ,fK,iW,gN,iX,iY,gU,jb,ja,jc,i8,i9,gT,jW,jY,jX,i7,Nat.testBit_eq_decide_div_mod_eq,gH,iP,iR,iM,iQ,iO,iK,jN,jO,jP,jM,iL,gF,gS,eJ,dI,fH,iJ,sI,ou,List.any_nil,List.any_cons,Bool.or_self,Bool.or_false,List.flatMap_cons,List.flatMap_nil,List.append_nil,List.nil_append,aY,List.map_nil]
 refine Eo rfl (by simp only [jy,fF,ib,aB,aM,iU,fJ,iT,gO,gQ,iS,dJ,dC,gL,dB,gK,gJ,eK,jS,jT,jR,jQ,iV,eL,gI,gR,jU,dA,cZ,fK,iW,gN,iX,iY,gU,jb,ja,jc,i8,i9,gT,jW,jY,jX,i7,Nat.testBit_eq_decide_div_mod_eq,gH,iP,iR,iM,iQ,iO,iK,jN,jO,jP,jM,iL,gF,gS,eJ,dI,fH,iJ,sI,ou,List.any_nil,List.any_cons,Bool.or_self,Bool.or_false,List.flatMap_cons,List.flatMap_nil,List.append_nil,List.nil_append,aY,List.map_nil,cK,cJ,kf,lM,j7,fP,it,dG,eE,Int.toNat_natCast]) (z9 l) (.inl rfl) ?_
 have hs:=MT l
 rw [←BH l]
 have ht:=KT l
 generalize strip l=s at*
 have e1:IntKind.i64.wrap (((s.length:Nat):Int)+4)=((s.length+4:Nat):Int):=by rw [jd]<;>omega
 have e2:IntKind.i64.wrap (((s.length+4:Nat):Int)-1)=((s.length+3:Nat):Int):=by rw [jd]<;>omega
 have e3:IntKind.i64.wrap (((s.length+3:Nat):Int).tdiv 4)=(((s.length+3)/4:Nat):Int):=by
  have:((s.length+3:Nat):Int).tdiv 4=(((s.length+3)/4:Nat):Int):=rfl
  rw [this,jd]<;>omega
 simp only [fQ,f7,f6,jg,ie,eQ,f9,f8,jh,dr,fh,fg,gm,cG,dy,dw,d8,eI,ji,gw,fj,fm,eY,dK,dL,dc,dZ,dY,gg,ig,jx,ik,jy,fF,ib,fo,gq,gh,gp,gv,fd,de,fc,gn,dR,dS,eZ,cC,cj,dQ,ch,dP,dN,cP,cT,fY,fZ,fX,fW,fe,dT,f5,cg,bQ,dM,cQ,gr,gu,dW,cR,dV,dm,dp,dU,cE,cm,bU,dk,bT,dj,dh,cD,cF,dX,dq,ff,bS,bJ,df,evN,evA,evL,lY,unV,gZ,nb,List.set_cons_succ,List.set_cons_zero,aB,aM,List.getElem?_toArray,aN,aV,true_and,if_true,Bool.false_eq_true,Bool.true_eq_false,if_false,aI,bD,eS,TK.isAgg,fT,fO,gz,db,d5,fw,fq,d4,fp,fu,d7,fz,d6,fy,fA,List.all_cons,List.all_nil,Bool.and_true,Bool.and_self,List.set_cons_zero,iz,bj,Option.map_none,reduceCtorEq,true_implies,false_implies,and_true,aE,aG,Bool.not_true,Bool.not_false,beq_self_eq_true,not_true_eq_false,not_false_eq_true,decide_true,decide_false,decide_not,Nat.reduceAdd,lz,nR,ze,qQ,cK,cJ,kf,lM,j7,fP,it,dG,eE,Int.toNat_natCast,iU,fJ,iT,gO,gQ,iS,dJ,dC,gL,dB,gK,gJ,eK,jS,jT,jR,jQ,iV,eL,gI,gR,jU,dA,cZ,fK,iW,gN,iX,iY,gU,jb,ja,jc,i8,i9,gT,jW,jY,jX,i7,Nat.testBit_eq_decide_div_mod_eq,gH,iP,iR,iM,iQ,iO,iK,jN,jO,jP,jM,iL,gF,gS,eJ,dI,fH,iJ,sI,ou,List.any_nil,List.any_cons,Bool.or_self,Bool.or_false,List.flatMap_cons,List.flatMap_nil,List.append_nil,List.nil_append,aY,List.map_nil,e1,e2,e3]
 refine ⟨by decide,⟨by omega,Int.le_refl _,by omega⟩,?_⟩
 refine rU (fun (x:Nat×List Nat) J=> .prim (.string (bs s))::J 1:: .prim (.slice none 0 0):: .sref 0 0 ((s.length+3)/4) ((s.length+3)/4) 1 true::J 4::J 5::J 6::J 7::J 8::J 9::J 10::J 11::J 12::J 13::J 14:: .prim (.int .i64 ((s.length:Nat):Int)):: .prim (.int .i64 ((x.1:Nat):Int))::J 17::J 18::J 19::J 20::J 21::J 22::J 23::J 24::J 25::J 26::J 27::J 28::J 29::J 30::J 31::J 32::J 33::J 34::J 35::J 36::J 37::J 38::J 39::J 40::[])
  (fun x H=>x.1≤s.length∧x.2.length=(s.length+3)/4∧jD x.2∧bk x.2=bn (s.drop (s.length-x.1))∧H=[some (.row 1 true (lw x.2))]) (fun x=>s.length-x.1) (0,List.replicate ((s.length+3)/4) 0) rfl ?_ ?_
 ·refine ⟨bh _,by simp,?_,?_,by rw [Oy]⟩
  ·intro x hx;rw [(List.mem_replicate.1 hx).2];decide
  ·have:∀ n,bk (List.replicate n 0)=0:=by intro n;induction n with
    |zero=>rfl
    |succ n ih=>simp [List.replicate_succ,bk,ih]
   rw [this];simp [bn]
 rintro ⟨i,out⟩ J _ ⟨hi,hlen,hL,hv,rfl⟩
 try conv in ov _ _ _ _=>simp only [ov,List.lookup,RO,simprocAttr]
 simp only at hi hlen hv hL ⊢
 rcases am i s.length with hlt|hge
 ·have c1:((((i:Nat):Int)<((s.length:Nat):Int)))=True:=by simp;omega
  have e4:IntKind.i64.wrap (((s.length:Nat):Int)-1)=((s.length-1:Nat):Int):=by rw [jd]<;>omega
  have e5:IntKind.i64.wrap (((s.length-1:Nat):Int)-((i:Nat):Int))=((s.length-1-i:Nat):Int):=by rw [jd]<;>omega
  have e6:IntKind.i64.wrap (((i:Nat):Int).tdiv 4)=((i/4:Nat):Int):=by
   have:((i:Nat):Int).tdiv 4=((i/4:Nat):Int):=rfl
   rw [this,jd]<;>omega
  have e7:((i:Nat):Int).tmod 4=((i%4:Nat):Int):=rfl
  have e8:IntKind.i64.wrap (8*((i%4:Nat):Int))=((8*(i%4):Nat):Int):=by rw [jd]<;>omega
  have e9:IntKind.i64.wrap (((i:Nat):Int)+1)=((i+1:Nat):Int):=by rw [jd]<;>omega
  have g1:=j9 (l:=out) (k:=i/4) (by omega)
  have g2:=mT (l:=out) (k:=i/4) (by omega)
  simp only [fQ,f7,f6,jg,ie,eQ,f9,f8,jh,dr,fh,fg,gm,cG,dy,dw,d8,eI,ji,gw,fj,fm,eY,dK,dL,dc,dZ,dY,gg,ig,jx,ik,jy,fF,ib,fo,gq,gh,gp,gv,fd,de,fc,gn,dR,dS,eZ,cC,cj,dQ,ch,dP,dN,cP,cT,fY,fZ,fX,fW,fe,dT,f5,cg,bQ,dM,cQ,gr,gu,dW,cR,dV,dm,dp,dU,cE,cm,bU,dk,bT,dj,dh,cD,cF,dX,dq,ff,bS,bJ,df,evN,evA,evL,lY,unV,gZ,nb,List.set_cons_succ,List.set_cons_zero,aB,aM,List.getElem?_toArray,aN,aV,true_and,if_true,Bool.false_eq_true,Bool.true_eq_false,if_false,aI,bD,eS,TK.isAgg,fT,fO,gz,db,d5,fw,fq,d4,fp,fu,d7,fz,d6,fy,fA,List.all_cons,List.all_nil,Bool.and_true,Bool.and_self,List.set_cons_zero,iz,bj,Option.map_none,reduceCtorEq,true_implies,false_implies,and_true,aE,aG,Bool.not_true,Bool.not_false,beq_self_eq_true,not_true_eq_false,not_false_eq_true,decide_true,decide_false,decide_not,Nat.reduceAdd,lz,nR,ze,vQ,qQ,cK,cJ,kf,lM,j7,fP,it,dG,eE,Int.toNat_natCast,iU,fJ,iT,gO,gQ,iS,dJ,dC,gL,dB,gK,gJ,eK,jS,jT,jR,jQ,iV,eL,gI,gR,jU,dA,cZ,fK,iW,gN,iX,iY,gU,jb,ja,jc,i8,i9,gT,jW,jY,jX,i7,Nat.testBit_eq_decide_div_mod_eq,gH,iP,iR,iM,iQ,iO,iK,jN,jO,jP,jM,iL,gF,gS,eJ,dI,fH,iJ,sI,ou,List.any_nil,List.any_cons,Bool.or_self,Bool.or_false,List.flatMap_cons,List.flatMap_nil,List.append_nil,List.nil_append,aY,List.map_nil,e4,e5,e6,e7,e8,e9,c1,aX,g2]
  have hb:(s.getD (s.length-1-i) 0).toNat<256:=UInt8.toNat_lt _
  have hdr:s.drop (s.length-(i+1))=s.getD (s.length-1-i) 0::s.drop (s.length-i):=by
   rw [List.drop_eq_getElem_cons (by omega),ae,af (by omega)]
   rw [show s.length-(i+1)+1=s.length-i by omega]
   congr 1
   rw [bG];congr 1;omega
  have hbv:bn (s.drop (s.length-(i+1)))=(s.getD (s.length-1-i) 0).toNat*256^i+bn (s.drop (s.length-i)):=by
   rw [hdr,uJ,pC,show s.length-(s.length-i)=i by omega]
  have hvl:bn (s.drop (s.length-i))<256^i:=by
   have:=qM (s.drop (s.length-i))
   rwa [pC,show s.length-(s.length-i)=i by omega] at this
  generalize (s.getD (s.length-1-i) 0).toNat=b at*
  have hpow:256^i=4294967296^(i/4)*2^(8*(i%4)):=by
   rw [show (256:Nat)=2^8 by decide,show (4294967296:Nat)=2^32 by decide,←Nat.pow_mul,←Nat.pow_mul,←Nat.pow_add]
   congr 1;omega
  have hge:=zB out (i/4) (by omega)
  have ho:out.getD (i/4) 0<2^(8*(i%4)):=by
   rw [hv] at hge
   rw [hpow] at hvl
   exact Nat.lt_of_mul_lt_mul_left (a:=4294967296^(i/4)) (by omega)
  have hset:=lG out (i/4) (out.getD (i/4) 0+b*2^(8*(i%4))) (by omega)
  have hr:8*(i%4)≤24:=by omega
  have hp24:2^(8*(i%4))≤2^24:=Nat.pow_le_pow_right (by decide) hr
  have hx:out.getD (i/4) 0+b*2^(8*(i%4))<4294967296:=by
   have:b*2^(8*(i%4))≤255*2^(8*(i%4)):=aS _ (by omega)
   omega
  have f1:IntKind.u32.wrap ((b:Nat):Int)=((b:Nat):Int):=wrap_u32 (by omega) (by omega)
  have f2:IntKind.u32.wrap (((b:Nat):Int)*2^min (8*(i%4)) IntKind.u32.bits)=((b*2^(8*(i%4)):Nat):Int):=by
   rw [show min (8*(i%4)) IntKind.u32.bits=8*(i%4) by simp only [IntKind.bits];omega]
   have e:((b:Nat):Int)*2^(8*(i%4))=((b*2^(8*(i%4)):Nat):Int):=by push_cast;rfl
   rw [e];exact wrap_u32 (by omega) (by omega)
  have f3:(BitVec.ofInt IntKind.u32.bits ((out.getD (i/4) 0:Nat):Int)|||BitVec.ofInt IntKind.u32.bits ((b*2^(8*(i%4)):Nat):Int)).toNat=out.getD (i/4) 0+b*2^(8*(i%4)):=by
   rw [Ht,show 2^IntKind.u32.bits=4294967296 from rfl,bA (a:=out.getD (i/4) 0) (by omega),bA (a:=b*2^(8*(i%4))) (by omega),Nat.or_comm,As _ _ _ ho,Nat.add_comm]
  rw [f1,f2,f3,wrap_u32 (x:=((out.getD (i/4) 0+b*2^(8*(i%4)):Nat):Int)) (by omega) (by omega)]
  refine ⟨by decide,⟨by omega,by omega⟩,⟨by omega,by omega⟩,by decide,by omega,⟨by omega,by omega⟩,ax _,(i+1,out.set (i/4) (out.getD (i/4) 0+b*2^(8*(i%4)))),rfl,⟨by simp only;omega,by simp only [cO];exact hlen,hL.set _ hx,?_,by rw [nr]⟩,by simp only;omega⟩
  try simp only
  rw [hbv,hpow,←hv]
  rw [Nat.mul_add] at hset
  have:b*(4294967296^(i/4)*2^(8*(i%4)))=4294967296^(i/4)*(b*2^(8*(i%4))):=by grind
  omega
 ·have c1:((((i:Nat):Int)<((s.length:Nat):Int)))=False:=by simp;omega
  have e1:i=s.length:=by omega
  have e2:out=bf (bn s):=by
   have:bk out=bn s:=by rw [hv,e1];simp
   rw [←this]
   refine OE hL ?_
   rcases ht with rfl|ht
   ·left;simpa using hlen
   ·right
    rw [this]
    refine bi ?_ ht
    rw [hlen,show (4294967296:Nat)=256^4 by decide,←Nat.pow_mul]
    exact Nat.pow_le_pow_right (by decide) (by omega)
  simp only [fQ,f7,f6,jg,ie,eQ,f9,f8,jh,dr,fh,fg,gm,cG,dy,dw,d8,eI,ji,gw,fj,fm,eY,dK,dL,dc,dZ,dY,gg,ig,jx,ik,jy,fF,ib,fo,gq,gh,gp,gv,fd,de,fc,gn,dR,dS,eZ,cC,cj,dQ,ch,dP,dN,cP,cT,fY,fZ,fX,fW,fe,dT,f5,cg,bQ,dM,cQ,gr,gu,dW,cR,dV,dm,dp,dU,cE,cm,bU,dk,bT,dj,dh,cD,cF,dX,dq,ff,bS,bJ,df,evN,evA,evL,lY,unV,gZ,nb,List.set_cons_succ,List.set_cons_zero,aB,aM,List.getElem?_toArray,aN,aV,true_and,if_true,Bool.false_eq_true,Bool.true_eq_false,if_false,aI,bD,eS,TK.isAgg,fT,fO,gz,db,d5,fw,fq,d4,fp,fu,d7,fz,d6,fy,fA,List.all_cons,List.all_nil,Bool.and_true,Bool.and_self,List.set_cons_zero,iz,bj,Option.map_none,reduceCtorEq,true_implies,false_implies,and_true,aE,aG,Bool.not_true,Bool.not_false,beq_self_eq_true,not_true_eq_false,not_false_eq_true,decide_true,decide_false,decide_not,Nat.reduceAdd,lz,nR,ze,vQ,qQ,cK,cJ,kf,lM,j7,fP,it,dG,eE,Int.toNat_natCast,iU,fJ,iT,gO,gQ,iS,dJ,dC,gL,dB,gK,gJ,eK,jS,jT,jR,jQ,iV,eL,gI,gR,jU,dA,cZ,fK,iW,gN,iX,iY,gU,jb,ja,jc,i8,i9,gT,jW,jY,jX,i7,Nat.testBit_eq_decide_div_mod_eq,gH,iP,iR,iM,iQ,iO,iK,jN,jO,jP,jM,iL,gF,gS,eJ,dI,fH,iJ,sI,ou,List.any_nil,List.any_cons,Bool.or_self,Bool.or_false,List.flatMap_cons,List.flatMap_nil,List.append_nil,List.nil_append,aY,List.map_nil,c1]
  have hle:0+(s.length+3)/4≤(lw out).length:=by rw [aP];omega
  have hvw:∀ l:List Nat,view.viewLL [some (Blk.row 1 true (lw out))] 8 (lw l)=some (lw l):=by
   intro l
   induction l with
   |nil=>simp [lw,view.viewLL]
   |cons x l ih=>simp only [lw,aY,view.viewLL] at ih ⊢;rw [ih];simp [view.viewL,view]
  simp only [ru,lB,qT,pH,aB,aM,view,fO,if_pos hle,List.drop_zero]
  rw [List.take_of_length_le (by rw [aP];omega),hvw,e2];rfl
end Go.Av
namespace Go.Av
open Go.RowKit
open Go.Proofs.Tryz (prog)
def Buf (H:Hp) (v:V) (sz:Nat) (es:List (List V)):Prop:=
 (es=[]∧v= .prim (.slice none 0 0))∨∃ b,v= .sref b 0 es.length es.length sz false∧get H b=some (.row sz true es)
theorem Buf.app {H:Hp} {v:V} {sz:Nat} {es:List (List V)} (h:Buf H v sz es) (l:Hp):Buf (H++l) v sz es:=by
 rcases h with h|⟨b,h1,h2⟩
 ·exact .inl h
 ·exact .inr ⟨b,h1,aO h2⟩
theorem Buf.append {P:Program} {H:Hp} {v:V} {ei:TyI} {es ys:List (List V)} {K:V→Hp→Prop} (h:Buf H v ei.sz es) (hy:∀ y∈ys,∀ v∈y,ku v=true) (h1:(es.length+ys.length)*ei.bytes≤2^47) (h2:es.length+ys.length≤2^60)
 (hK:∀ v' H',Buf H' v' ei.sz (es++ys)→(∀ b k,get H b=some k→b∉fR v→get H' b=some k)→K v' H'):nP P H ei v ys K:=by
 refine ⟨hy,?_⟩
 rcases h with ⟨rfl,rfl⟩|⟨b,rfl,hg⟩
 ·simp only [aI,aX] at h1 h2
  refine ⟨fun e=>hK _ _ (by subst e;exact .inl ⟨rfl,rfl⟩) (fun _ _ h _=>h),fun _=>⟨h1,h2,hK _ _ (.inr ⟨H.length,by simp,by rw [bo];simp⟩) (fun _ _ h _=>aO h)⟩⟩
 ·simp only [hg]
  refine ⟨trivial,by omega,?_⟩
  rcases Nat.eq_zero_or_pos ys.length with h0|h0
  ·left
   have:ys=[]:=List.length_eq_zero_iff.1 h0
   subst this
   refine ⟨by simp,by simp,trivial,?_⟩
   have e:kG es (0+es.length) []=es:=by simp [kG]
   rw [e]
   have e2:H.set b (some (.row ei.sz true es))=H:=by
    refine List.ext_getElem? fun c=> ?_
    rw [fS]
    split
    ·rename_i hc
     subst hc
     have:=mh hg
     rw [if_pos this]
     simp only [get,af this,Option.join_some] at hg ⊢
     rw [hg]
    ·rfl
   rw [e2]
   exact hK _ _ (.inr ⟨b,by simp,by simpa using hg⟩) (fun _ _ h _=>h)
  ·right;right
   have hl:(H.set b none).length=H.length:=by simp
   refine ⟨by simp,by simp,h1,h2,hK _ _ (.inr ⟨H.length,by simp,?_⟩) ?_⟩
   ·rw [←hl,bo];simp
   ·intro c k hc hne
    refine aO ?_
    rw [mF (by simpa [fR] using hne)];exact hc
def bZ (n:Nat):List UInt8:=if h:n=0 then [] else bZ (n/256)++[UInt8.ofNat (n%256)]
termination_by n
decreasing_by omega
theorem il:bZ 0=[]:=by unfold bZ;simp
theorem lU {n:Nat} (h:n≠0):bZ n=bZ (n/256)++[UInt8.ofNat (n%256)]:=by
 rw [bZ];simp [h]
theorem EB (l:List UInt8) (b:UInt8):strip (l++[b])=if strip l=[]∧b=0 then [] else strip l++[b]:=by
 unfold strip
 rw [List.dropWhile_append]
 cases h:List.dropWhile (fun x=>x==0) l with
 |nil=>by_cases hb:b=0<;>simp [h,hb]
 |cons x m=>simp [h]
theorem M5 {α:Type} {p:List α→Prop} (h0:p []) (h1:∀ l x,p l→p (l++[x])) (l:List α):p l:=by
 have:∀ m:List α,p m.reverse:=by
  intro m
  induction m with
  |nil=>exact h0
  |cons x m ih=>rw [List.reverse_cons];exact h1 _ _ ih
 have:=this l.reverse
 simpa using this
theorem MU (l:List UInt8):strip l=bZ (bn l):=by
 induction l using M5 with
 |h0=>rw [Hq,il];rfl
 |h1 l b ih=>
  rw [EB,ih,qN]
  have hb:=b.toNat_lt
  by_cases hz:bn l*256+b.toNat=0
  ·have h1:bn l=0:=by omega
   have h2:b=0:=UInt8.toNat_inj.1 (by simp;omega)
   rw [h1,il,h2];simp [il]
  ·rw [lU hz,if_neg]
   ·have e1:(bn l*256+b.toNat)/256=bn l:=by omega
    have e2:(bn l*256+b.toNat)%256=b.toNat:=by omega
    rw [e1,e2];simp
   ·rintro ⟨ha,rfl⟩
    have:bn l=0:=by
     rw [←BH,ih,ha];rfl
    simp [this] at hz
theorem eU (n:Nat):bn (bZ n)=n:=by
 induction n using Nat.strongRecOn with
 |ind n ih=>
  by_cases h:n=0
  ·subst h;rw [il];rfl
  ·rw [lU h,qN,ih _ (by omega)]
   have:(UInt8.ofNat (n%256)).toNat=n%256:=by simp
   rw [this];omega
def bw (l:List UInt8):List (List V):=l.map fun b=>[.prim (.int .u8 ((b.toNat:Nat):Int))]
theorem BG (l:List UInt8):qL (bw l)=some l:=by
 induction l with
 |nil=>rfl
 |cons b l ih=>simp only [bw,aY,qL] at ih ⊢;rw [ih];simp
def mW:List Nat→List UInt8
 |[]=>[]
 |x::l=>mW l++[UInt8.ofNat (x/16777216%256),UInt8.ofNat (x/65536%256),UInt8.ofNat (x/256%256),UInt8.ofNat (x%256)]
theorem Hr {l:List Nat} (h:jD l):bn (mW l)=bk l:=by
 induction l with
 |nil=>rfl
 |cons x l ih=>
  have h0:=h x (ah ..)
  have h1:=ih (fun y hy=>h y (ag _ hy))
  simp only [mW,bk]
  have:bn (mW l++[UInt8.ofNat (x/16777216%256),UInt8.ofNat (x/65536%256),UInt8.ofNat (x/256%256),UInt8.ofNat (x%256)])=bn (mW l++[UInt8.ofNat (x/16777216%256)]++[UInt8.ofNat (x/65536%256)]++[UInt8.ofNat (x/256%256)]++[UInt8.ofNat (x%256)]):=by simp
  rw [this]
  simp only [qN,h1]
  simp
  omega
end Go.Av
namespace Go.Av
open Go.RowKit
open Go.Proofs.Tryz (prog)
theorem vR:aD prog 241 =some ⟨1,24,[.slice none 0 0],.slice 5,false⟩:=by kernel_rfl
theorem Mo (l:List UInt8):(bw l).length=l.length:=by simp [bw]
theorem B4 (l:List Nat):(mW l).length=4*l.length:=by
 induction l with
 |nil=>rfl
 |cons x l ih=>simp [mW,ih];omega
theorem PH {P:Program} {H:Hp} {ei:TyI} {t:TypeId} {i:TyI} {x:V} {e:TypeId} (ht:aD P t=some i) (hk:i.k= .slice e):rR P H ei (some t) x=(jz H ei.sz x).map fun es=>(True,es):=by
 simp only [rR,ht,hk]
theorem MV (l:List Nat) (hl:l.length<2^40) (hL:jD l):PC prog 225 [.lst 1 (lw l)] (.prim (.string (bs (bZ (bk l))))):=by
 refine PCi ?_
 conv in bL _ _=>cbv
 simp only [bM,RN,simprocAttr]
 have e1:IntKind.i64.wrap (((l.length:Nat):Int)-1)=((l.length:Nat):Int)-1:=by rw [jd]<;>omega
 simp only [fQ,f7,f6,jg,ie,eQ,f9,f8,jh,dr,fh,fg,gm,cG,dy,dw,d8,eI,ji,gw,fj,fm,eY,dK,dL,dc,dZ,dY,gg,ig,jx,ik,jy,fF,ib,fo,gq,gh,gp,gv,fd,de,fc,gn,dR,dS,eZ,cC,cj,dQ,ch,dP,dN,cP,cT,fY,fZ,fX,fW,fe,dT,f5,cg,bQ,dM,cQ,gr,gu,dW,cR,dV,dm,dp,dU,cE,cm,bU,dk,bT,dj,dh,cD,cF,dX,dq,ff,bS,bJ,df,evN,evA,evL,lY,unV,gZ,nb,List.set_cons_succ,List.set_cons_zero,aB,aM,List.getElem?_toArray,aN,aV,true_and,if_true,Bool.false_eq_true,Bool.true_eq_false,if_false,aI,bD,eS,TK.isAgg,fT,fO,gz,db,d5,fw,fq,d4,fp,fu,d7,fz,d6,fy,fA,List.all_cons,List.all_nil,Bool.and_true,Bool.and_self,List.set_cons_zero,iz,bj,Option.map_none,reduceCtorEq,true_implies,false_implies,and_true,aE,aG,Bool.not_true,Bool.not_false,beq_self_eq_true,not_true_eq_false,not_false_eq_true,decide_true,decide_false,decide_not,Nat.reduceAdd,cK,cJ,kf,lM,j7,fP,it,dG,eE,Int.toNat_natCast,iU,fJ,iT,gO,gQ,iS,dJ,dC,gL,dB,gK,gJ,eK,jS,jT,jR,jQ,iV,eL,gI,gR,jU,dA,cZ,fK,iW,gN,iX,iY,gU,jb,ja,jc,i8,i9,gT,jW,jY,jX,i7,Nat.testBit_eq_decide_div_mod_eq,gH,iP,iR,iM,iQ,iO,iK,jN,jO,jP,jM,iL,gF,gS,eJ,dI,fH,iJ,sI,ou,List.any_nil,List.any_cons,Bool.or_self,Bool.or_false,List.flatMap_cons,List.flatMap_nil,List.append_nil,List.nil_append,aY,List.map_nil,lz,aP,e1]
 refine rU (fun (x:Nat×V) J=> .lst 1 (lw l)::J 1:: .prim (.string (bs ([])))::x.2:: .prim (.int .i64 ((x.1:Int)-1))::J 5::J 6::J 7::J 8::J 9::J 10::J 11::J 12::J 13::J 14::J 15::J 16::J 17::J 18::J 19::J 20::J 21::J 22::J 23::J 24::J 25::J 26::J 27::J 28::J 29::J 30::J 31::J 32::J 33::J 34::J 35::J 36::J 37::J 38::J 39::J 40::[])
  (fun x H=>x.1≤l.length∧Buf H x.2 1 (bw (mW (l.drop x.1)))) (fun x=>x.1) (l.length,.prim (.slice none 0 0)) rfl ⟨ax _,.inl ⟨by simp [mW,bw],rfl⟩⟩ ?_
 rintro ⟨k,v⟩ J H ⟨hk,hB⟩
 try conv in ov _ _ _ _=>simp only [ov,List.lookup,RO,simprocAttr]
 simp only at hk hB ⊢
 rcases k with _|k
 ·have c1:((((0:Nat):Int)-1)≥(0:Int))=False:=by simp
  have e4:bZ (bk l)=strip (mW l):=by rw [MU,Hr hL]
  rw [List.drop_zero] at hB
  have fin:∀ (a b:V),wpL prog LC.skip [a] H (fun _ _ _=>True):=fun a b=>by simp only [fQ]
  rcases hB with ⟨h0,rfl⟩|⟨b,rfl,hg⟩
  ·have hl0:mW l=[]:=by simpa [bw] using h0
   simp only [fQ,f7,f6,jg,ie,eQ,f9,f8,jh,dr,fh,fg,gm,cG,dy,dw,d8,eI,ji,gw,fj,fm,eY,dK,dL,dc,dZ,dY,gg,ig,jx,ik,jy,fF,ib,fo,gq,gh,gp,gv,fd,de,fc,gn,dR,dS,eZ,cC,cj,dQ,ch,dP,dN,cP,cT,fY,fZ,fX,fW,fe,dT,f5,cg,bQ,dM,cQ,gr,gu,dW,cR,dV,dm,dp,dU,cE,cm,bU,dk,bT,dj,dh,cD,cF,dX,dq,ff,bS,bJ,df,evN,evA,evL,lY,unV,gZ,nb,List.set_cons_succ,List.set_cons_zero,aB,aM,List.getElem?_toArray,aN,aV,true_and,if_true,Bool.false_eq_true,Bool.true_eq_false,if_false,aI,bD,eS,TK.isAgg,fT,fO,gz,db,d5,fw,fq,d4,fp,fu,d7,fz,d6,fy,fA,List.all_cons,List.all_nil,Bool.and_true,Bool.and_self,List.set_cons_zero,iz,bj,Option.map_none,reduceCtorEq,true_implies,false_implies,and_true,aE,aG,Bool.not_true,Bool.not_false,beq_self_eq_true,not_true_eq_false,not_false_eq_true,decide_true,decide_false,decide_not,Nat.reduceAdd,lz,nR,ze,vQ,qQ,vR,cK,cJ,kf,lM,j7,fP,it,dG,eE,Int.toNat_natCast,iU,fJ,iT,gO,gQ,iS,dJ,dC,gL,dB,gK,gJ,eK,jS,jT,jR,jQ,iV,eL,gI,gR,jU,dA,cZ,fK,iW,gN,iX,iY,gU,jb,ja,jc,i8,i9,gT,jW,jY,jX,i7,Nat.testBit_eq_decide_div_mod_eq,gH,iP,iR,iM,iQ,iO,iK,jN,jO,jP,jM,iL,gF,gS,eJ,dI,fH,iJ,sI,ou,List.any_nil,List.any_cons,Bool.or_self,Bool.or_false,List.flatMap_cons,List.flatMap_nil,List.append_nil,List.nil_append,aY,List.map_nil,c1,jz,qL,lM,j7]
   refine Eo rfl (by simp only [jy,fF,ib,aB,aM,iU,fJ,iT,gO,gQ,iS,dJ,dC,gL,dB,gK,gJ,eK,jS,jT,jR,jQ,iV,eL,gI,gR,jU,dA,cZ,fK,iW,gN,iX,iY,gU,jb,ja,jc,i8,i9,gT,jW,jY,jX,i7,Nat.testBit_eq_decide_div_mod_eq,gH,iP,iR,iM,iQ,iO,iK,jN,jO,jP,jM,iL,gF,gS,eJ,dI,fH,iJ,sI,ou,List.any_nil,List.any_cons,Bool.or_self,Bool.or_false,List.flatMap_cons,List.flatMap_nil,List.append_nil,List.nil_append,aY,List.map_nil,cK,cJ,kf,lM,j7,fP,it,dG,eE,Int.toNat_natCast]) (z9 []) (.inl rfl) ?_
   simp only [fQ,f7,f6,jg,ie,eQ,f9,f8,jh,dr,fh,fg,gm,cG,dy,dw,d8,eI,ji,gw,fj,fm,eY,dK,dL,dc,dZ,dY,gg,ig,jx,ik,jy,fF,ib,fo,gq,gh,gp,gv,fd,de,fc,gn,dR,dS,eZ,cC,cj,dQ,ch,dP,dN,cP,cT,fY,fZ,fX,fW,fe,dT,f5,cg,bQ,dM,cQ,gr,gu,dW,cR,dV,dm,dp,dU,cE,cm,bU,dk,bT,dj,dh,cD,cF,dX,dq,ff,bS,bJ,df,evN,evA,evL,lY,unV,gZ,nb,List.set_cons_succ,List.set_cons_zero,aB,aM,List.getElem?_toArray,aN,aV,true_and,if_true,Bool.false_eq_true,Bool.true_eq_false,if_false,aI,bD,eS,TK.isAgg,fT,fO,gz,db,d5,fw,fq,d4,fp,fu,d7,fz,d6,fy,fA,List.all_cons,List.all_nil,Bool.and_true,Bool.and_self,List.set_cons_zero,iz,bj,Option.map_none,reduceCtorEq,true_implies,false_implies,and_true,aE,aG,Bool.not_true,Bool.not_false,beq_self_eq_true,not_true_eq_false,not_false_eq_true,decide_true,decide_false,decide_not,Nat.reduceAdd,cK,cJ,kf,lM,j7,fP,it,dG,eE,Int.toNat_natCast]
   simp only [ru,lB,qT,pH,aB,aM,view,e4,hl0]
  ·simp only [fQ,f7,f6,jg,ie,eQ,f9,f8,jh,dr,fh,fg,gm,cG,dy,dw,d8,eI,ji,gw,fj,fm,eY,dK,dL,dc,dZ,dY,gg,ig,jx,ik,jy,fF,ib,fo,gq,gh,gp,gv,fd,de,fc,gn,dR,dS,eZ,cC,cj,dQ,ch,dP,dN,cP,cT,fY,fZ,fX,fW,fe,dT,f5,cg,bQ,dM,cQ,gr,gu,dW,cR,dV,dm,dp,dU,cE,cm,bU,dk,bT,dj,dh,cD,cF,dX,dq,ff,bS,bJ,df,evN,evA,evL,lY,unV,gZ,nb,List.set_cons_succ,List.set_cons_zero,aB,aM,List.getElem?_toArray,aN,aV,true_and,if_true,Bool.false_eq_true,Bool.true_eq_false,if_false,aI,bD,eS,TK.isAgg,fT,fO,gz,db,d5,fw,fq,d4,fp,fu,d7,fz,d6,fy,fA,List.all_cons,List.all_nil,Bool.and_true,Bool.and_self,List.set_cons_zero,iz,bj,Option.map_none,reduceCtorEq,true_implies,false_implies,and_true,aE,aG,Bool.not_true,Bool.not_false,beq_self_eq_true,not_true_eq_false,not_false_eq_true,decide_true,decide_false,decide_not,Nat.reduceAdd,lz,nR,ze,vQ,qQ,vR,cK,cJ,kf,lM,j7,fP,it,dG,eE,Int.toNat_natCast,iU,fJ,iT,gO,gQ,iS,dJ,dC,gL,dB,gK,gJ,eK,jS,jT,jR,jQ,iV,eL,gI,gR,jU,dA,cZ,fK,iW,gN,iX,iY,gU,jb,ja,jc,i8,i9,gT,jW,jY,jX,i7,Nat.testBit_eq_decide_div_mod_eq,gH,iP,iR,iM,iQ,iO,iK,jN,jO,jP,jM,iL,gF,gS,eJ,dI,fH,iJ,sI,ou,List.any_nil,List.any_cons,Bool.or_self,Bool.or_false,List.flatMap_cons,List.flatMap_nil,List.append_nil,List.nil_append,aY,List.map_nil,c1,jz,hg,aX,ax,and_self,List.drop_zero,List.take_length,BG]
   refine Eo rfl (by simp only [jy,fF,ib,aB,aM,iU,fJ,iT,gO,gQ,iS,dJ,dC,gL,dB,gK,gJ,eK,jS,jT,jR,jQ,iV,eL,gI,gR,jU,dA,cZ,fK,iW,gN,iX,iY,gU,jb,ja,jc,i8,i9,gT,jW,jY,jX,i7,Nat.testBit_eq_decide_div_mod_eq,gH,iP,iR,iM,iQ,iO,iK,jN,jO,jP,jM,iL,gF,gS,eJ,dI,fH,iJ,sI,ou,List.any_nil,List.any_cons,Bool.or_self,Bool.or_false,List.flatMap_cons,List.flatMap_nil,List.append_nil,List.nil_append,aY,List.map_nil,cK,cJ,kf,lM,j7,fP,it,dG,eE,Int.toNat_natCast]) (z9 (mW l)) (.inl rfl) ?_
   simp only [fQ,f7,f6,jg,ie,eQ,f9,f8,jh,dr,fh,fg,gm,cG,dy,dw,d8,eI,ji,gw,fj,fm,eY,dK,dL,dc,dZ,dY,gg,ig,jx,ik,jy,fF,ib,fo,gq,gh,gp,gv,fd,de,fc,gn,dR,dS,eZ,cC,cj,dQ,ch,dP,dN,cP,cT,fY,fZ,fX,fW,fe,dT,f5,cg,bQ,dM,cQ,gr,gu,dW,cR,dV,dm,dp,dU,cE,cm,bU,dk,bT,dj,dh,cD,cF,dX,dq,ff,bS,bJ,df,evN,evA,evL,lY,unV,gZ,nb,List.set_cons_succ,List.set_cons_zero,aB,aM,List.getElem?_toArray,aN,aV,true_and,if_true,Bool.false_eq_true,Bool.true_eq_false,if_false,aI,bD,eS,TK.isAgg,fT,fO,gz,db,d5,fw,fq,d4,fp,fu,d7,fz,d6,fy,fA,List.all_cons,List.all_nil,Bool.and_true,Bool.and_self,List.set_cons_zero,iz,bj,Option.map_none,reduceCtorEq,true_implies,false_implies,and_true,aE,aG,Bool.not_true,Bool.not_false,beq_self_eq_true,not_true_eq_false,not_false_eq_true,decide_true,decide_false,decide_not,Nat.reduceAdd,cK,cJ,kf,lM,j7,fP,it,dG,eE,Int.toNat_natCast]
   simp only [ru,lB,qT,pH,aB,aM,view,e4]
 ·have c1:(((k:Nat):Int)≥(0:Int))=True:=by simp
  have e3:((k+1:Nat):Int)-1=((k:Nat):Int):=by omega
  have e6:IntKind.i64.wrap (((k:Nat):Int)-1)=((k:Nat):Int)-1:=by rw [jd]<;>omega
  have g1:=j9 (l:=l) (k:=k) (by omega)
  have hx:=hL.getD k
  have hdr:=kQ l (k:=k) (by omega)
  generalize l.getD k 0=x at*
  have s1:((x:Nat):Int).fdiv (2^min (Int.toNat 24) IntKind.u32.bits)=((x/16777216:Nat):Int):=by
   show ((x:Nat):Int).fdiv ((16777216:Nat):Int)=_
   rw [Int.fdiv_eq_ediv_of_nonneg _ (by omega)];rfl
  have s2:((x:Nat):Int).fdiv (2^min (Int.toNat 16) IntKind.u32.bits)=((x/65536:Nat):Int):=by
   show ((x:Nat):Int).fdiv ((65536:Nat):Int)=_
   rw [Int.fdiv_eq_ediv_of_nonneg _ (by omega)];rfl
  have s3:((x:Nat):Int).fdiv (2^min (Int.toNat 8) IntKind.u32.bits)=((x/256:Nat):Int):=by
   show ((x:Nat):Int).fdiv ((256:Nat):Int)=_
   rw [Int.fdiv_eq_ediv_of_nonneg _ (by omega)];rfl
  have had:∀ (H:Hp) (ei:TyI) (x:V),rR prog H ei (some 241) x=(jz H ei.sz x).map fun es=>(True,es):=fun H ei x=>PH vR rfl
  simp only [fQ,f7,f6,jg,ie,eQ,f9,f8,jh,dr,fh,fg,gm,cG,dy,dw,d8,eI,ji,gw,fj,fm,eY,dK,dL,dc,dZ,dY,gg,ig,jx,ik,jy,fF,ib,fo,gq,gh,gp,gv,fd,de,fc,gn,dR,dS,eZ,cC,cj,dQ,ch,dP,dN,cP,cT,fY,fZ,fX,fW,fe,dT,f5,cg,bQ,dM,cQ,gr,gu,dW,cR,dV,dm,dp,dU,cE,cm,bU,dk,bT,dj,dh,cD,cF,dX,dq,ff,bS,bJ,df,evN,evA,evL,lY,unV,gZ,nb,List.set_cons_succ,List.set_cons_zero,aB,aM,List.getElem?_toArray,aN,aV,true_and,if_true,Bool.false_eq_true,Bool.true_eq_false,if_false,aI,bD,eS,TK.isAgg,fT,fO,gz,db,d5,fw,fq,d4,fp,fu,d7,fz,d6,fy,fA,List.all_cons,List.all_nil,Bool.and_true,Bool.and_self,List.set_cons_zero,iz,bj,Option.map_none,reduceCtorEq,true_implies,false_implies,and_true,aE,aG,Bool.not_true,Bool.not_false,beq_self_eq_true,not_true_eq_false,not_false_eq_true,decide_true,decide_false,decide_not,Nat.reduceAdd,lz,nR,ze,vQ,qQ,vR,cK,cJ,kf,lM,j7,fP,it,dG,eE,Int.toNat_natCast,iU,fJ,iT,gO,gQ,iS,dJ,dC,gL,dB,gK,gJ,eK,jS,jT,jR,jQ,iV,eL,gI,gR,jU,dA,cZ,fK,iW,gN,iX,iY,gU,jb,ja,jc,i8,i9,gT,jW,jY,jX,i7,Nat.testBit_eq_decide_div_mod_eq,gH,iP,iR,iM,iQ,iO,iK,jN,jO,jP,jM,iL,gF,gS,eJ,dI,fH,iJ,sI,ou,List.any_nil,List.any_cons,Bool.or_self,Bool.or_false,List.flatMap_cons,List.flatMap_nil,List.append_nil,List.nil_append,aY,List.map_nil,c1,e3,e6,g1,s1,s2,s3,qs,List.foldl_cons,List.foldl_nil,List.replicate_succ,List.replicate_zero,aC,Nat.reduceLT,aP,had,jz,bo,Nat.reduceLeDiff,and_self,List.drop_zero,List.take_succ_cons,List.take_zero,aX]
  refine ⟨by omega,by decide,by omega,by decide,by omega,by decide,by omega,by decide,?_⟩
  have hbl:(bw (mW (l.drop (k+1)))).length≤4*l.length:=by rw [Mo,B4,pC];omega
  refine Buf.append (hB.app _) (by simp [ku]) (by simp only [aC,aI];omega) (by simp only [aC,aI];omega) ?_
  intro v' H' hB' _
  simp only [fQ,f7,f6,jg,ie,eQ,f9,f8,jh,dr,fh,fg,gm,cG,dy,dw,d8,eI,ji,gw,fj,fm,eY,dK,dL,dc,dZ,dY,gg,ig,jx,ik,jy,fF,ib,fo,gq,gh,gp,gv,fd,de,fc,gn,dR,dS,eZ,cC,cj,dQ,ch,dP,dN,cP,cT,fY,fZ,fX,fW,fe,dT,f5,cg,bQ,dM,cQ,gr,gu,dW,cR,dV,dm,dp,dU,cE,cm,bU,dk,bT,dj,dh,cD,cF,dX,dq,ff,bS,bJ,df,evN,evA,evL,lY,unV,gZ,nb,List.set_cons_succ,List.set_cons_zero,aB,aM,List.getElem?_toArray,aN,aV,true_and,if_true,Bool.false_eq_true,Bool.true_eq_false,if_false,aI,bD,eS,TK.isAgg,fT,fO,gz,db,d5,fw,fq,d4,fp,fu,d7,fz,d6,fy,fA,List.all_cons,List.all_nil,Bool.and_true,Bool.and_self,List.set_cons_zero,iz,bj,Option.map_none,reduceCtorEq,true_implies,false_implies,and_true,aE,aG,Bool.not_true,Bool.not_false,beq_self_eq_true,not_true_eq_false,not_false_eq_true,decide_true,decide_false,decide_not,Nat.reduceAdd,nR,cK,cJ,kf,lM,j7,fP,it,dG,eE,Int.toNat_natCast,iU,fJ,iT,gO,gQ,iS,dJ,dC,gL,dB,gK,gJ,eK,jS,jT,jR,jQ,iV,eL,gI,gR,jU,dA,cZ,fK,iW,gN,iX,iY,gU,jb,ja,jc,i8,i9,gT,jW,jY,jX,i7,Nat.testBit_eq_decide_div_mod_eq,gH,iP,iR,iM,iQ,iO,iK,jN,jO,jP,jM,iL,gF,gS,eJ,dI,fH,iJ,sI,ou,List.any_nil,List.any_cons,Bool.or_self,Bool.or_false,List.flatMap_cons,List.flatMap_nil,List.append_nil,List.nil_append,aY,List.map_nil,e6]
  refine ⟨(k,v'),rfl,⟨by simp only;omega,?_⟩,by simp only;omega⟩
  have e7:bw (mW (l.drop k))=bw (mW (l.drop (k+1)))++[[.prim (.int .u8 ((x/16777216%256:Nat):Int))],[.prim (.int .u8 ((x/65536%256:Nat):Int))],[.prim (.int .u8 ((x/256%256:Nat):Int))],[.prim (.int .u8 ((x%256:Nat):Int))]]:=by
   rw [hdr];simp [mW,bw]
  rw [e7];exact hB'
end Go.Av
namespace Go.Av
open Go.RowKit
open Go.Proofs.Tryz (prog)
theorem Ji {P:Program} {H:Hp} {f:FuncId} {args vs:List V} {r:V} {K:V→Hp→Prop} {b:Nat} {k:Blk} (hg:get H b=some k) (hv:ii (List.replicate b none++[some k]) args=some vs) (hp:PC P f vs r) (hK:K r (H.set b none)):SC P f args H K:=by
 intro φ I w xs hS hxs
 have hget:∀ c q,get (List.replicate b none++[some k]) c=some q→c=b∧q=k:=by
  intro c q h
  unfold get at h
  rw [List.getElem?_append] at h
  split at h
  ·rename_i hc;rw [List.getElem?_replicate] at h;split at h<;>cases h
  ·rename_i hc
   simp only [List.length_replicate] at hc h
   rcases am b c with h1|h1
   ·rw [List.getElem?_eq_none (by simp;omega)] at h;cases h
   ·have:c=b:=by omega
    subst this
    simp at h
    exact ⟨rfl,h.symm⟩
 have hlt:=mh hg
 have hS1:SR φ I (List.replicate b none++[some k]++List.replicate (H.length-b-1) none) w:=by
  have hgp:∀ c q,get (List.replicate b none++[some k]++List.replicate (H.length-b-1) none) c=some q→get H c=some q:=by
   intro c q h
   rw [qE] at h
   obtain ⟨rfl,rfl⟩:=hget c q h
   exact hg
  exact ⟨fun c L h=>⟨by have:=(hS.dom c L h).1;simp;omega,(hS.dom c L h).2⟩,hS.imm,fun c L q h hk=>hS.blk c L q h (hgp c q hk),fun c c' L L' q q' h1 h2 h3 h4=>hS.inj c c' L L' q q' h1 h2 (hgp c q h3) (hgp c' q' h4)⟩
 have hOwn:∀ B,Own φ (List.replicate b none++[some k]) B→Own φ H B:=by
  rintro B ⟨c,L,q,h1,h2,h3,h4⟩
  obtain ⟨rfl,rfl⟩:=hget c q h2
  exact ⟨c,L,q,h1,hg,h3,h4⟩
 have hI:∀ B,(I B∨Own φ (List.replicate b none++[some k]) B)→B<w.heap.size:=fun B h=>h.elim (hS.imm B) (fun h=>hS.own_lt (hOwn B h))
 have hv2:ii (List.replicate b none++[some k]++List.replicate (H.length-b-1) none) args=some vs:=by
  rw [←hv];exact (qP args (fun c _=>(qE _ _ c).symm)).symm
 obtain ⟨q1,q2⟩:=pE hv2
 have hargs:VRs (fun _=>none) (fun B=>I B∨Own φ (List.replicate b none++[some k]) B) w vs xs:=⟨by rw [q1,hxs.len],fun j v x h1 h2=>by
  obtain ⟨v1,hv1,hvv⟩:=o5 q1 q2 h1
  refine vP (fun _ h=> .inl h) hS1 9 v1 v x hvv (hxs.at_ j v1 x hv1 h2) (.inr fun c L q h hk=> ?_)
  rw [qE] at hk
  cases ho:q.own with
  |true=>exact .inr ⟨c,L,q,h,hk,ho,rfl⟩
  |false=>
   obtain ⟨rfl,rfl⟩:=hget c q hk
   have hb:=hS.blk c L q h hg
   cases q with
   |row sz m es=>
    left
    have hm:m=false:=ho
    subst hm
    exact Classical.byContradiction fun hn=>by have:=hb.2.2.2.2.2 hn;cases this
   |loop l=>cases ho
   |mp l=>cases ho⟩
 obtain ⟨h1,h2⟩:=hp _ w xs hI hargs
 refine ⟨h1,h2.mono ?_⟩
 rintro e w' ⟨x,rfl,hx,hb⟩
 obtain ⟨s1,t1⟩:=hS.kill (b:=b) hlt
 rw [ng _ hlt] at s1 t1
 have nown:∀ B,Own φ (H.set b none) B→¬Own φ (List.replicate b none++[some k]) B:=by
  rintro B ⟨c,L,q,g1,g2,g3,g4⟩ ⟨c',L',q',g1',g2',g3',g4'⟩
  obtain ⟨rfl,rfl⟩:=hget c' q' g2'
  by_cases e:c=c'
  ·subst e;rw [sq hg] at g2;cases g2
  ·rw [mF e] at g2
   exact e (hS.inj c c' L L' q q' g1 g1' g2 hg g3 g3' (g4.trans g4'.symm))
 have hsh:∀ B s,w.shape? B=some s→w'.shape? B=some s:=fun B s hs=>by
  have hB:B<w.heap.size:=by
   rcases am B w.heap.size with h|h
   ·exact h
   ·simp [World.shape?,Array.getElem?_eq_none h] at hs
  rw [js (hb.block B hB)];exact hs
 have hIs:∀ B,I B→w'.heap[B]? =w.heap[B]? :=fun B h=>hb.block B (hS.imm B h)
 refine ⟨x,r,_,φ,fun B=>(I B∨Own φ (List.replicate b none++[some k]) B)∨(w.heap.size≤B∧B<w'.heap.size),rfl,hK,hx.any,
  ⟨fun c L h=>⟨(s1.dom c L h).1,Nat.lt_of_lt_of_le (s1.dom c L h).2 hb.size⟩,fun B h=> ?_,fun c L q h hk=> ?_,s1.inj⟩,
  ⟨hb.os,hb.tape,hb.output,hb.size,fun B hB _=>hb.block B hB,hsh,fun _ _ h=>h,fun _ _ h=> .inl h,fun B h=> .inl (.inl h),fun B h hlt=> ?_,fun B hB h=> ?_⟩⟩
 ·rcases h with h|h
  ·exact Nat.lt_of_lt_of_le (hI B h) hb.size
  ·exact h.2
 ·have hbk:=s1.blk c L q h hk
  have hbn:¬I L.B→¬((I L.B∨Own φ (List.replicate b none++[some k]) L.B)∨(w.heap.size≤L.B∧L.B<w'.heap.size)):=by
   intro hn h5
   have ho:q.own=true:=by
    cases q with
    |row sz m es=>exact hbk.2.2.2.2.2 hn
    |loop l=>rfl
    |mp l=>rfl
   rcases h5 with (h5|h5)|h5
   ·exact hn h5
   ·exact nown _ ⟨c,L,q,h,hk,ho,rfl⟩ h5
   ·have:=(s1.dom c L h).2;omega
  exact hbk.mono (fun _ _ h=>h) (fun _ h=> .inl (.inl h)) hIs hsh (hb.block _ (s1.dom c L h).2) (fun h5=>Classical.byContradiction fun hn=>hbn hn h5)
 ·rcases h with (h|h)|h
  ·exact .inl h
  ·exact .inr (hOwn B h)
  ·exact absurd hlt (by omega)
 ·obtain ⟨c,L,q,h1,h2,h3,h4⟩:=h
  by_cases e:c=b
  ·subst e;rw [sq hg] at h2;cases h2
  ·rw [mF e] at h2;exact ⟨c,L,q,h1,h2,h3,h4⟩
theorem KL {H:Hp} {n:Nat}:∀ l:List Nat,view.viewLL H (n+1) (lw l)=some (lw l):=by
 intro l
 induction l with
 |nil=>simp [lw,view.viewLL]
 |cons x l ih=>simp only [lw,aY,view.viewLL] at ih ⊢;rw [ih];simp [view.viewL,view]
theorem MD {H:Hp} {b o n c sz:Nat} {fx m:Bool} {es:List (List V)} {x:List Nat} {j:Nat} (hg:get H b=some (.row sz m es)) (h:o+n≤es.length) (hx:(es.drop o).take n=lw x):view H (j+2) (.sref b o n c sz fx)=some (.lst sz (lw x)):=by
 simp only [view,hg,if_pos h,hx,KL,bj]
theorem II {b:Nat} {k:Blk}:get (List.replicate b none++[some k]) b=some k:=by
 have:b=(List.replicate b (none:Option Blk)).length:=by simp
 conv=>lhs;rw [this]
 simp only [List.length_replicate]
 unfold get
 rw [bv (by simp)]
 simp
theorem pF {H:Hp} {b o n c:Nat} {fx m:Bool} {es:List (List V)} {x:List Nat} {K:V→Hp→Prop} (hg:get H b=some (.row 1 m es)) (h:o+n≤es.length) (hx:(es.drop o).take n=lw x) (hn:x.length<2^40) (hL:jD x)
 (hK:K (.lst 1 (lw (bf (bk x)))) (H.set b none)):SC prog 224 [.sref b o n c 1 fx] H K:=by
 refine Ji hg (vs:=[.lst 1 (lw x)]) ?_ (Jo x hn) (by rw [Eu hL];exact hK)
 simp only [ii]
 rw [MD II h hx]
end Go.Av
