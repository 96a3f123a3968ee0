/- Helping texts: Cj. -/
import Derived.Test.YtbidkolaahnbiaaGreatKCi
set_option linter.unusedSimpArgs false
set_option linter.unusedVariables false
set_option maxRecDepth 100000
set_option maxHeartbeats 16000000
namespace Go.Av
open Go.RowKit
open Go.Proofs.Tryz (prog)
theorem VR.tup_imp {vs vs':List V} (h:∀ I w x,VRs (fun _=>none) I w vs' x→VRs (fun _=>none) I w vs x):∀ I w x,VR (fun _=>none) I w (.tup vs') x→VR (fun _=>none) I w (.tup vs) x:=by
 intro I w x hx
 cases hx with
 |tup h1 h2=>
  have:=h I w _ ⟨h1,h2⟩
  exact .tup this.len this.at_
theorem limbsOf_top {n:Nat} (h:n≠0):∃ k,(limbsOf n).length=k+1∧0<(limbsOf n).getD k 0∧4294967296^k≤n:=by
 induction n using Nat.strongRecOn with
 |_ n ih=>
  rw [limbsOf_pos h]
  by_cases hz:n/4294967296=0
  ·refine ⟨0,by rw [hz,limbsOf_zero];rfl,?_,by simp;omega⟩
   simp;omega
  ·obtain ⟨k,h1,h2,h3⟩:=ih (n/4294967296) (by omega) hz
   refine ⟨k+1,by simp [h1],by simpa using h2,?_⟩
   rw [Nat.pow_succ]
   have:=Nat.mul_le_mul_right 4294967296 h3
   omega
theorem lt_limbsOf (n:Nat):n<4294967296^(limbsOf n).length:=by
 have:=lval_lt (limb_limbsOf n)
 rwa [lval_limbsOf] at this
structure DivInv (n0 V q0:Nat) (H0:Hp) (x:Nat×List Nat×List Nat) (H:Hp) (nu:Nat):Prop where
 i:x.1≤q0
 u:x.2.1.length=nu
 q:x.2.2.length=q0
 lu:Limb x.2.1
 lq:Limb x.2.2
 z:∀ j,j<x.1→x.2.2.getD j 0=0
 r:lval x.2.1<4294967296^x.1*V
 v:lval x.2.1+lval x.2.2*V=n0
 H:H=[some (.row 1 true (lw x.2.1)),none,some (.row 1 true (lw x.2.2))]
theorem div_scale {A D n:Nat}:(A*2^n)/(D*2^n)=A/D∧(A*2^n)%(D*2^n)/2^n=A%D:=by
 refine ⟨Nat.mul_div_mul_right _ _ (Nat.two_pow_pos n),?_⟩
 rw [Nat.mul_mod_mul_right,Nat.mul_div_cancel _ (Nat.two_pow_pos n)]
theorem lcmp_lt {a b:Nat}:lcmp (limbsOf a) (limbsOf b)=sgn a b:=by
 unfold lcmp
 rw [lval_limbsOf,lval_limbsOf]
 have ha:=lt_limbsOf a
 have hb:=lt_limbsOf b
 have mono:∀ {x y:Nat},(limbsOf x).length<(limbsOf y).length→x<y:=by
  intro x y h
  have hy:y≠0:=fun e=>by subst e;rw [limbsOf_zero] at h;simp at h
  obtain ⟨k,h1,_,h3⟩:=limbsOf_top hy
  have hx:=lt_limbsOf x
  have:4294967296^(limbsOf x).length≤4294967296^k:=Nat.pow_le_pow_right (by omega) (by omega)
  omega
 split
 ·rename_i h;rw [sgn,if_pos (mono h)]
 ·split
  ·rename_i h;have:=mono h;rw [sgn,if_neg (by omega),if_pos this]
  ·rfl
theorem compareN_pc (a b:Nat) (ha:(limbsOf a).length<2^40) (hb:(limbsOf b).length<2^40):PC prog 178 [.lst 1 (lw (limbsOf a)),.lst 1 (lw (limbsOf b))] (.prim (.int .i64 (sgn a b))):=by
 rw [←lcmp_lt];exact compare_pc _ _ ha hb (limb_limbsOf _) (limb_limbsOf _)
theorem div_next {N V q0 Q i u':Nat} (hV:0<V) (hu:N<4294967296^(i+1)*V) (hv:N+Q*V=q0) (hu':u'=N-4294967296^i*(N/4294967296^i/V*V)):
 u'<4294967296^i*V∧u'+(Q+4294967296^i*(N/4294967296^i/V))*V=q0∧N/4294967296^i/V<4294967296:=by
 obtain ⟨h1,h2⟩:=kd_over (N:=N) (p:=4294967296^i) (V:=V) (Nat.pow_pos (by omega)) hV rfl
 have h3:N/4294967296^i/V<4294967296:=by
  refine Nat.div_lt_of_lt_mul (Nat.div_lt_of_lt_mul ?_)
  rw [Nat.pow_succ,Nat.mul_assoc,Nat.mul_comm 4294967296] at hu;exact hu
 refine ⟨?_,?_,h3⟩
 ·rw [Nat.add_mul,Nat.one_mul,Nat.mul_add] at h2;omega
 ·rw [Nat.add_mul,Nat.mul_assoc];omega
theorem divide_pc (a d:Nat) (ha:(limbsOf a).length<2^37) (hdl:(limbsOf d).length<2^37) (hd:0<d):PC prog 251 [.lst 1 (lw (limbsOf a)),.lst 1 (lw (limbsOf d))] (.tup [.lst 1 (lw (limbsOf (a/d))),.lst 1 (lw (limbsOf (a%d)))]):=by
 rcases Nat.lt_or_ge a d with hlt|hge
 ·rw [Nat.div_eq_of_lt hlt,Nat.mod_eq_of_lt hlt,limbsOf_zero]
  refine PC.res (r:= .tup [.prim (.slice none 0 0),.lst 1 (lw (limbsOf a))]) ?_ (VR.tup_imp (VRs.cons_imp nil_lst sames_imp))
  refine PCi ?_
  conv in trip _ _=>cbv
  simp only [runT,RN,simprocAttr]
  simp (maxSteps:=2000000) (disch:=omega) only [↓RS,RY,simprocAttr]
  refine call_pc (compareN_pc a d (by omega) (by omega)) (.inl rfl) ?_
  have hs:sgn a d= -1:=by rw [sgn,if_pos hlt]
  simp (maxSteps:=2000000) (disch:=omega) only [↓RS,RY,simprocAttr,hs]
 ·obtain ⟨k,hk,htop,hkd⟩:=limbsOf_top (by omega:d≠0)
  have hs:0≤sgn a d:=by rw [sgn,if_neg (by omega)];split<;>omega
  have hL:=limb_limbsOf d
  have hA:=limb_limbsOf a
  have htl:=hL.getD k
  refine PCi ?_
  conv in trip _ _=>cbv
  simp only [runT,RN,simprocAttr]
  simp (maxSteps:=2000000) (disch:=omega) only [↓RS,RY,simprocAttr]
  refine call_pc (compareN_pc a d (by omega) (by omega)) (.inl rfl) ?_
  rcases k with _|k
  ·have g1:=lw_getD (l:=limbsOf d) (k:=0) (by omega)
   have hd1:(limbsOf d).getD 0 0=d:=by
    rw [limbsOf_pos (by omega)]
    have:=lt_limbsOf d
    rw [hk] at this
    simp;omega
   rw [hd1] at g1 htl
   simp (maxSteps:=2000000) (disch:=omega) only [↓RS,RY,simprocAttr,lw_length,hk,g1]
   have h:=short_pc (limbsOf a) d (by omega) hA hd htl
   rw [lval_limbsOf] at h
   refine call_pc h (.inl rfl) ?_
   have hr:a%d<4294967296:=Nat.lt_trans (Nat.mod_lt _ hd) htl
   simp (maxSteps:=2000000) (disch:=omega) only [↓RS,RY,simprocAttr]
   refine call_sc (trim_sc rfl (x:=[a%d]) (Nat.le_refl 1) rfl (by simp only [List.length_cons,List.length_nil];omega) (fun x hx=>by simp at hx;omega) ?_)
   have e:lval [a%d]=a%d:=by simp [lval]
   rw [e]
   simp (maxSteps:=2000000) (disch:=omega) only [↓RS,RY,simprocAttr]
  ·have g1:=lw_getD (l:=limbsOf d) (k:=k+1) (by omega)
   generalize htt:(limbsOf d).getD (k+1) 0=t at*
   obtain ⟨hn1,hn2⟩:=lz32_spec (x:=t) (by omega) htl
   have hbl:= @blen_le t 32 htl
   have hbl0:1≤blen t:=by obtain ⟨j,h1,_⟩:=blen_spec (x:=t) (by omega);omega
   generalize hnn:32-blen t=n at*
   have hn32:n<32:=by omega
   have e1:k+1+1-1=k+1:=rfl
   simp (maxSteps:=2000000) (disch:=omega) only [↓RS,RY,simprocAttr,lw_length,hk,g1,e1]
   refine call_pc (lz32_pc t htl) (.inl rfl) ?_
   rw [hnn]
   simp (maxSteps:=2000000) (disch:=omega) only [↓RS,RY,simprocAttr]
   refine call_sc (shift_sc (limbsOf a) n (by omega) hA hn32 ?_)
   simp (maxSteps:=2000000) (disch:=omega) only [↓RS,RY,simprocAttr]
   refine call_sc (shift_sc (limbsOf d) n (by omega) hL hn32 ?_)
   simp (maxSteps:=2000000) (disch:=omega) only [↓RS,RY,simprocAttr]
   have hV:lval (limbsN ((limbsOf d).length+1) (lval (limbsOf d)*2^n))=d*2^n:=by
    rw [lval_limbsOf,lval_limbsN]
    have h1:=lt_limbsOf d
    have h2:2^n<4294967296:=Nat.lt_of_le_of_lt (Nat.pow_le_pow_right (by omega) (show n≤31 by omega)) (by omega)
    rw [Nat.pow_succ]
    exact Nat.mul_lt_mul_of_lt_of_lt h1 h2
   have hU:lval (limbsN ((limbsOf a).length+1) (lval (limbsOf a)*2^n))=a*2^n:=by
    rw [lval_limbsOf,lval_limbsN]
    have h1:=lt_limbsOf a
    have h2:2^n<4294967296:=Nat.lt_of_le_of_lt (Nat.pow_le_pow_right (by omega) (show n≤31 by omega)) (by omega)
    rw [Nat.pow_succ]
    exact Nat.mul_lt_mul_of_lt_of_lt h1 h2
   have hUl:=limbsN_length ((limbsOf a).length+1) (lval (limbsOf a)*2^n)
   have hVl:=limbsN_length ((limbsOf d).length+1) (lval (limbsOf d)*2^n)
   have hUL:=limb_limbsN ((limbsOf a).length+1) (lval (limbsOf a)*2^n)
   have hVL:=limb_limbsN ((limbsOf d).length+1) (lval (limbsOf d)*2^n)
   generalize limbsN ((limbsOf a).length+1) (lval (limbsOf a)*2^n)=u at*
   generalize limbsN ((limbsOf d).length+1) (lval (limbsOf d)*2^n)=v at*
   refine call_sc (trim_sc rfl (x:=v) (by rw [lw_length];omega) (by rw [List.drop_zero,←hVl,←lw_length];exact List.take_length) (by omega) hVL ?_)
   rw [hV]
   have hla:k+2≤(limbsOf a).length:=by
    rcases Nat.lt_or_ge (limbsOf a).length (k+2) with h|h
    ·have h1:=lt_limbsOf a
     have h2:4294967296^(limbsOf a).length≤4294967296^(k+1):=Nat.pow_le_pow_right (by omega) (by omega)
     omega
    ·exact h
   have hV0:d*2^n≠0:=Nat.ne_of_gt (Nat.mul_pos hd (Nat.two_pow_pos n))
   have hVlen:(limbsOf (d*2^n)).length=k+2:=by
    obtain ⟨k',h1,h2,h3⟩:=limbsOf_top hV0
    have h4:d*2^n<4294967296^(k+2):=by
     have h5:=lval_split (limbsOf d) (k+1) (by omega)
     rw [lval_limbsOf,drop_step _ (by omega:k+1<(limbsOf d).length),htt,List.drop_of_length_le (by omega)] at h5
     simp only [lval,Nat.mul_zero,Nat.add_zero] at h5
     have h6:=lval_lt (hL.take (k+1))
     rw [List.length_take,Nat.min_eq_left (by omega)] at h6
     have h7:d<4294967296^(k+1)*(t+1):=by rw [Nat.mul_add];omega
     have h8:=Nat.mul_lt_mul_of_pos_right h7 (Nat.two_pow_pos n)
     refine Nat.lt_of_lt_of_le h8 ?_
     rw [Nat.pow_succ 4294967296 (k+1),Nat.mul_assoc]
     refine Nat.mul_le_mul_left _ ?_
     have h9:2^n*2^(32-n)=4294967296:=by rw [←Nat.pow_add];rw [show n+(32-n)=32 by omega]
     have h10:t<2^(32-n):=by
      refine Nat.lt_of_mul_lt_mul_right (a:=2^n) ?_
      rw [Nat.mul_comm (2^(32-n)),h9];exact hn2
     have h11:=Nat.mul_le_mul_right (2^n) (show t+1≤2^(32-n) from h10)
     rw [Nat.mul_comm (2^(32-n)),h9] at h11
     exact h11
    have h5:k'<k+2:=(Nat.pow_lt_pow_iff_right (by omega:1<4294967296)).1 (Nat.lt_of_le_of_lt h3 h4)
    have h6:k+1≤k':=by
     rcases Nat.lt_or_ge k' (k+1) with h|h
     ·have h7:=lt_limbsOf (d*2^n)
      rw [h1] at h7
      have h8:4294967296^(k'+1)≤4294967296^(k+1):=Nat.pow_le_pow_right (by omega) (by omega)
      have h9:d*1≤d*2^n:=Nat.mul_le_mul_left d (Nat.two_pow_pos n)
      omega
     ·exact h
    omega
   have hVtop:4294967296^(k+1)*2147483648≤d*2^n:=by
    have h1:=lval_ge (limbsOf d) (k+1) (by omega)
    rw [htt,lval_limbsOf] at h1
    have h2:=Nat.mul_le_mul_right (2^n) h1
    rw [Nat.mul_assoc] at h2
    exact Nat.le_trans (Nat.mul_le_mul_left _ hn1) h2
   have hVt0:0<(limbsOf (d*2^n)).getD (k+1) 0:=by
    obtain ⟨k',h1,h2,h3⟩:=limbsOf_top hV0
    have:k'=k+1:=by omega
    subst this;exact h2
   obtain ⟨q0,hq0⟩:∃ q0,(limbsOf a).length+1=q0+(k+2):=⟨(limbsOf a).length+1-(k+2),by omega⟩
   have hq1:1≤q0:=by omega
   have e2:q0+(k+2)-(k+2)=q0:=Nat.add_sub_cancel ..
   have hinit:a*2^n<4294967296^q0*(d*2^n):=by
    have h1:=lt_limbsOf a
    have h2:2^n≤2147483648:=Nat.pow_le_pow_right (by omega) (show n≤31 by omega)
    have h3:a*2^n<4294967296^(limbsOf a).length*2147483648:=Nat.mul_lt_mul_of_lt_of_le h1 h2 (by omega)
    refine Nat.lt_of_lt_of_le h3 ?_
    refine Nat.le_trans ?_ (Nat.mul_le_mul_left _ hVtop)
    rw [←Nat.mul_assoc,←Nat.pow_add,show q0+(k+1)=(limbsOf a).length by omega]
    exact Nat.le_refl _
   have hlV:=limb_limbsOf (d*2^n)
   have hVv:=lval_limbsOf (d*2^n)
   have hVp:0<d*2^n:=by omega
   have hsc:= @div_scale a d n
   generalize limbsOf (d*2^n)=v' at*
   generalize d*2^n=W at*
   generalize hA2:a*2^n=A2 at*
   clear hn1 hn2 hV hVL hVl
   simp (maxSteps:=2000000) (disch:=omega) only [↓RS,RY,simprocAttr,lw_length,hVlen,hq0,e2]
   rw [show ((q0-1:Nat):Int)=(q0:Int)-1 by omega]
   refine wp_lp (fun (x:Nat×List Nat×List Nat) J=>ov [(4,.prim (.slice none 0 0)),(5,.prim (.slice none 0 0)),(8,.prim (.int .i64 ((n:Nat):Int))),(9,.sref 0 0 (q0+(k+2)) (q0+(k+2)) 1 true),(10,.lst 1 (lw v')),(11,.sref 2 0 q0 q0 1 true),(12,.prim (.int .i64 ((x.1:Int)-1)))] J 0 73)
    (fun x H=>DivInv A2 W q0 [] x H (q0+(k+2))) (fun x=>x.1) (q0,u,List.replicate q0 0) rfl
    ⟨Nat.le_refl _,by simp only;omega,by simp,hUL,limb_replicate _,fun j _=>getD_replicate _ _,by simp only;rw [hU];exact hinit,by simp only;rw [hU,lval_replicate];omega,by simp [lw]⟩ ?_
   rintro ⟨i,u,q⟩ J H ⟨hi,hul,hql,hUL,hQL,hz,hr,hv,rfl⟩
   try conv in ov _ _ _ _=>simp only [ov,List.lookup,RO,simprocAttr]
   simp only at hi hul hql hUL hQL hz hr hv ⊢
   rcases i with _|i
   ·rw [Nat.pow_zero,Nat.one_mul] at hr
    have hqv:lval q=a/d:=by
     rw [←hsc.1,←hv,Nat.mul_comm,Nat.add_mul_div_left _ _ hVp,Nat.div_eq_of_lt hr,Nat.zero_add]
    have hrv:lval u/2^n=a%d:=by
     rw [←hsc.2,←hv,Nat.mul_comm,Nat.add_mul_mod_self_left,Nat.mod_eq_of_lt hr]
    simp (maxSteps:=2000000) (disch:=omega) only [↓RS,RY,simprocAttr,lw_length]
    refine call_sc (trim_sc rfl (x:=q) (by rw [lw_length];omega) (by rw [List.drop_zero,←hql,←lw_length];exact List.take_length) (by omega) hQL ?_)
    rw [hqv]
    simp (maxSteps:=2000000) (disch:=omega) only [↓RS,RY,simprocAttr,lw_length]
    refine call_sc (trim_sc rfl (x:=u) (by rw [lw_length];omega) (by rw [List.drop_zero,←hul,←lw_length];exact List.take_length) (by omega) hUL ?_)
    simp (maxSteps:=2000000) (disch:=omega) only [↓RS,RY,simprocAttr,lw_length]
    have h:=unshift_pc (limbsOf (lval u)) n (by
     have:=limbsOf_length_le (lval_lt hUL)
     omega) (limb_limbsOf _) hn32
    rw [lval_limbsOf,hrv] at h
    refine call_pc h (.inl rfl) ?_
    simp (maxSteps:=2000000) (disch:=omega) only [↓RS,RY,simprocAttr]
   ·obtain ⟨h1,h2,h3⟩:=div_next hVp hr hv rfl
    have hs:=lval_set q i (lval u/4294967296^i/W) (by omega)
    rw [hz i (by omega),Nat.mul_zero,Nat.add_zero] at hs
    have g3:=lw_get (l:=q) (k:=i) (by omega)
    simp (maxSteps:=2000000) (disch:=omega) only [↓RS,RY,simprocAttr,lw_length,add_sub1]
    refine call_sc ?_
    rw [←hul]
    refine digit_sc u v' i k _ (by omega) hVlen (by omega) hUL hlV hVt0 (by rw [hVv];exact hr) rfl ?_
    intro u' hu1 hu2 hu3
    rw [hVv] at hu3 ⊢
    rw [hul] at hu2 ⊢
    generalize lval u/4294967296^i/W=D at*
    simp (maxSteps:=2000000) (disch:=omega) only [↓RS,RY,simprocAttr,lw_length,g3,lw_set,add_sub1]
    refine lp_next (i,u',q.set i D) rfl ⟨by simp only;omega,hu2,by simp [hql],hu1,hQL.set _ h3,fun l hl=>by simp only at hl ⊢;rw [getD_set_ne (by omega)];exact hz l (by omega),by simp only;rw [hu3];exact h1,by simp only;rw [hs,hu3];exact h2,rfl⟩ (by simp only;omega)
end Go.Av
