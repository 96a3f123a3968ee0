/- Helping texts: Bd, Be, Bf. -/
import Derived.Test.YtkmlhdfpcjkekaaGreatKBa
set_option linter.unusedSimpArgs false
set_option linter.unusedVariables false
set_option maxRecDepth 100000
set_option maxHeartbeats 16000000
namespace Go.Av
open Go.RowKit
open Go.Proofs.Tryz (prog)
theorem PC.res {P:Program} {f:FuncId} {args:List V} {r r':V} (h:PC P f args r) (hr:∀ I w x,VR (fun _=>none) I w r x→VR (fun _=>none) I w r' x):PC P f args r':=by
 intro I w xs hI hxs
 refine ⟨(h I w xs hI hxs).1,(h I w xs hI hxs).2.mono ?_⟩
 rintro e w' ⟨x,rfl,hv,hb⟩
 exact ⟨x,rfl,hr _ _ _ hv,hb⟩
theorem PC.args {P:Program} {f:FuncId} {args args':List V} {r:V} (h:PC P f args r) (hr:∀ I w x,VRs (fun _=>none) I w args' x→VRs (fun _=>none) I w args x):PC P f args' r:=
 fun I w xs hI hxs=>h I w xs hI (hr _ _ _ hxs)
theorem VRs.cons_imp {v v':V} {vs vs':List V} (h:∀ I w x,VR (fun _=>none) I w v' x→VR (fun _=>none) I w v x) (hs:∀ I w x,VRs (fun _=>none) I w vs' x→VRs (fun _=>none) I w vs x):
 ∀ I w x,VRs (fun _=>none) I w (v'::vs') x→VRs (fun _=>none) I w (v::vs) x:=by
 intro I w x hx
 have h0:=hx.len
 have h1:VRs (fun _=>none) I w vs' (x.extract 1 x.size):=⟨by simp at h0 ⊢;omega,fun k u y hu hy=>hx.at_ (k+1) u y (by simpa using hu) (by
  rw [Array.getElem?_extract] at hy
  split at hy
  ·rw [Nat.add_comm];exact hy
  ·cases hy)⟩
 have h2:=hs _ _ _ h1
 refine ⟨by have:=h2.len;simp at this h0 ⊢;omega,fun k u y hu hy=> ?_⟩
 cases k with
 |zero=>simp at hu;subst hu;exact h _ _ _ (hx.at_ 0 v' y rfl hy)
 |succ k=>
  refine h2.at_ k u y (by simpa using hu) ?_
  rw [Array.getElem?_extract]
  have:=(Array.getElem?_eq_some_iff.1 hy).1
  rw [if_pos (by omega),Nat.add_comm];exact hy
theorem nil_lst {sz:Nat}:∀ I w x,VR (fun _=>none) I w (.prim (.slice none 0 0)) x→VR (fun _=>none) I w (.lst sz []) x:=by
 intro I w x h
 cases h;exact .lnil
theorem sames_imp {v:List V}:∀ I w x,VRs (fun _=>none) I w v x→VRs (fun _=>none) I w v x:=fun _ _ _ h=>h
def lw (l:List Nat):List (List V):=l.map fun x=>[.prim (.int .u32 ((x:Nat):Int))]
theorem lw_length (l:List Nat):(lw l).length=l.length:=by simp [lw]
theorem lw_append (l m:List Nat):lw (l++m)=lw l++lw m:=by simp [lw]
theorem lw_take (l:List Nat) (k:Nat):(lw l).take k=lw (l.take k):=by simp [lw]
theorem lw_getD {l:List Nat} {k:Nat} (h:k<l.length):(lw l).getD k []=[.prim (.int .u32 ((l.getD k 0:Nat):Int))]:=by
 simp [lw,List.getD_eq_getElem?_getD,h]
theorem lw_nil:lw []=[]:=rfl
theorem ty_w:tyOf prog 174 =some ⟨1,4,[.int .u32 0],.int .u32,false⟩:=by kernel_rfl
theorem ty_limbs:tyOf prog 176 =some ⟨1,24,[.slice none 0 0],.slice 174,false⟩:=by kernel_rfl
def trim (l:List Nat):List Nat:=(l.reverse.dropWhile (·==0)).reverse
theorem trim_nil:trim []=[]:=rfl
theorem trim_zero (l:List Nat):trim (l++[0])=trim l:=by simp [trim]
theorem trim_ne {l:List Nat} {x:Nat} (h:x≠0):trim (l++[x])=l++[x]:=by simp [trim,h]
theorem trim_pc (l:List Nat) (hl:l.length<2^40):PC prog 224 [.lst 1 (lw l)] (.lst 1 (lw (trim l))):=by
 refine PCi ?_
 conv in trip _ _=>cbv
 simp only [runT,RN,simprocAttr]
 simp only [wpL_skip,wpL_opsF,wpL_opsT,wpL_seq,wpL_cond,wpL_block,wpL_exit,wpL_goto,wpL_ret,seqQ_normal,seqQ_exit,seqQ_goto,seqQ_ret,blockQ_normal,blockQ_exit,blockQ_goto,blockQ_ret,condP_bool,opsK_eq,opsKD_eq,putT_some,putT_none,wpOps_nil,wpOps_cons,wpOpsD_nil,wpOpsD_cons,footQ_none,footQ_some,wpG_none,wpG_some,gP_bool,gP_undef,ev_tmp,ev_const,ev_func,ev_global,orP_some,slP_some,orV_some,orA_some,wpOp_move,wpOp_assign,wpOp_pick,pickV_eq,wpOp_build,wpOp_binOp,wpOp_unOp,wpOp_makeFunc,wpOp_fieldAddr,wpOp_field,wpOp_indexAddr,wpOp_index,wpOp_slice,wpOp_extract,extractV_tup,wpOp_len,wpOp_cap,wpOp_max,wpOp_min,wpOp_load,wpOp_alloc,wpOp_box,wpOp_makeSlice,wpOp_buildSlice,wpOp_store,wpOp_convert,orE_some,orE_none,wpOpD_move,wpOpD_assign,wpOpD_pick,wpOpD_build,wpOpD_binOp,wpOpD_unOp,wpOpD_convert,wpOpD_makeFunc,wpOpD_fieldAddr,wpOpD_field,wpOpD_indexAddr,wpOpD_index,wpOpD_slice,wpOpD_extract,wpOpD_builtin,wpOpD_load,wpOpD_alloc,wpOpD_box,wpOpD_makeSlice,wpOpD_buildSlice,wpOpD_store,evN,evA,evL,binV,unV,intOfV,lenV,List.set_cons_succ,List.set_cons_zero,List.getD_cons_succ,List.getD_cons_zero,List.getElem?_toArray,List.getElem?_cons_zero,List.getElem?_cons_succ,true_and,if_true,Bool.false_eq_true,Bool.true_eq_false,if_false,List.length_nil,List.length_singleton,readAt,TK.isAgg,wpStore,get_zero,get_succ,writeAt_one,cells_prim,cells_agg,cells_lst,cells_sref,cells_ptr,cells_clo,cellV_prim,cellV_lst,cellV_sref,cellV_ptr,cellV_clo,List.all_cons,List.all_nil,Bool.and_true,Bool.and_self,List.set_cons_zero,sliceV,Option.map_some,Option.map_none,reduceCtorEq,true_implies,false_implies,and_true,decide_eq_true_eq,decide_eq_false_iff_not,Bool.not_true,Bool.not_false,beq_self_eq_true,not_true_eq_false,not_false_eq_true,decide_true,decide_false,decide_not,Nat.reduceAdd,cons_beq_nil,nil_beq_cons,bs_nil,bs_mk,bs_mk2,bs_size,bs_getD,bs_extract,bs_toList,Int.toNat_natCast]
 refine wp_loop (fun (s:List Nat) J=> .lst 1 (lw s)::J 1:: .prim (.slice none 0 0)::J 3::J 4::J 5::J 6::J 7::J 8::J 9::J 10::J 11::J 12::J 13::J 14::J 15::J 16::J 17::J 18::J 19::J 20::[]) (fun s H=>trim s=trim l∧s.length≤l.length∧H=[]) (fun s=>s.length) l rfl ⟨rfl,Nat.le_refl _,rfl⟩ ?_
 rintro s J _ ⟨hs,hls,rfl⟩
 try conv in ov _ _ _ _=>simp only [ov,List.lookup,RO,simprocAttr]
 rcases List.eq_nil_or_concat s with rfl|⟨s,x,rfl⟩
 ·simp only [wpL_skip,wpL_opsF,wpL_opsT,wpL_seq,wpL_cond,wpL_block,wpL_exit,wpL_goto,wpL_ret,seqQ_normal,seqQ_exit,seqQ_goto,seqQ_ret,blockQ_normal,blockQ_exit,blockQ_goto,blockQ_ret,condP_bool,opsK_eq,opsKD_eq,putT_some,putT_none,wpOps_nil,wpOps_cons,wpOpsD_nil,wpOpsD_cons,footQ_none,footQ_some,wpG_none,wpG_some,gP_bool,gP_undef,ev_tmp,ev_const,ev_func,ev_global,orP_some,slP_some,orV_some,orA_some,wpOp_move,wpOp_assign,wpOp_pick,pickV_eq,wpOp_build,wpOp_binOp,wpOp_unOp,wpOp_makeFunc,wpOp_fieldAddr,wpOp_field,wpOp_indexAddr,wpOp_index,wpOp_slice,wpOp_extract,extractV_tup,wpOp_len,wpOp_cap,wpOp_max,wpOp_min,wpOp_load,wpOp_alloc,wpOp_box,wpOp_makeSlice,wpOp_buildSlice,wpOp_store,wpOp_convert,orE_some,orE_none,wpOpD_move,wpOpD_assign,wpOpD_pick,wpOpD_build,wpOpD_binOp,wpOpD_unOp,wpOpD_convert,wpOpD_makeFunc,wpOpD_fieldAddr,wpOpD_field,wpOpD_indexAddr,wpOpD_index,wpOpD_slice,wpOpD_extract,wpOpD_builtin,wpOpD_load,wpOpD_alloc,wpOpD_box,wpOpD_makeSlice,wpOpD_buildSlice,wpOpD_store,evN,evA,evL,binV,unV,intOfV,lenV,List.set_cons_succ,List.set_cons_zero,List.getD_cons_succ,List.getD_cons_zero,List.getElem?_toArray,List.getElem?_cons_zero,List.getElem?_cons_succ,true_and,if_true,Bool.false_eq_true,Bool.true_eq_false,if_false,List.length_nil,List.length_singleton,readAt,TK.isAgg,wpStore,get_zero,get_succ,writeAt_one,cells_prim,cells_agg,cells_lst,cells_sref,cells_ptr,cells_clo,cellV_prim,cellV_lst,cellV_sref,cellV_ptr,cellV_clo,List.all_cons,List.all_nil,Bool.and_true,Bool.and_self,List.set_cons_zero,sliceV,Option.map_some,Option.map_none,reduceCtorEq,true_implies,false_implies,and_true,decide_eq_true_eq,decide_eq_false_iff_not,Bool.not_true,Bool.not_false,beq_self_eq_true,not_true_eq_false,not_false_eq_true,decide_true,decide_false,decide_not,Nat.reduceAdd,ty_limbs,ty_int,ty_w,cons_beq_nil,nil_beq_cons,bs_nil,bs_mk,bs_mk2,bs_size,bs_getD,bs_extract,bs_toList,Int.toNat_natCast,lw_nil,List.length_nil,Int.natCast_zero,gt_iff_lt,Int.lt_irrefl]
  simp only [retP,resVs,resV,retV,List.getD_cons_succ,List.getD_cons_zero,view,←hs,trim_nil,lw_nil]
 ·simp only [List.concat_eq_append] at*
  have e1:IntKind.i64.wrap ((((s++[x]).length:Nat):Int)-1)=((s.length:Nat):Int):=by rw [wrap_i64]<;>simp at* <;>omega
  have e2:((0:Int)<(((s++[x]).length:Nat):Int))=True:=by simp
  have e3:(lw (s++[x])).getD s.length []=[.prim (.int .u32 ((x:Nat):Int))]:=by rw [lw_getD (by simp)];simp
  have e4:(lw (s++[x])).take s.length=lw s:=by rw [lw_take];simp
  simp only [wpL_skip,wpL_opsF,wpL_opsT,wpL_seq,wpL_cond,wpL_block,wpL_exit,wpL_goto,wpL_ret,seqQ_normal,seqQ_exit,seqQ_goto,seqQ_ret,blockQ_normal,blockQ_exit,blockQ_goto,blockQ_ret,condP_bool,opsK_eq,opsKD_eq,putT_some,putT_none,wpOps_nil,wpOps_cons,wpOpsD_nil,wpOpsD_cons,footQ_none,footQ_some,wpG_none,wpG_some,gP_bool,gP_undef,ev_tmp,ev_const,ev_func,ev_global,orP_some,slP_some,orV_some,orA_some,wpOp_move,wpOp_assign,wpOp_pick,pickV_eq,wpOp_build,wpOp_binOp,wpOp_unOp,wpOp_makeFunc,wpOp_fieldAddr,wpOp_field,wpOp_indexAddr,wpOp_index,wpOp_slice,wpOp_extract,extractV_tup,wpOp_len,wpOp_cap,wpOp_max,wpOp_min,wpOp_load,wpOp_alloc,wpOp_box,wpOp_makeSlice,wpOp_buildSlice,wpOp_store,wpOp_convert,orE_some,orE_none,wpOpD_move,wpOpD_assign,wpOpD_pick,wpOpD_build,wpOpD_binOp,wpOpD_unOp,wpOpD_convert,wpOpD_makeFunc,wpOpD_fieldAddr,wpOpD_field,wpOpD_indexAddr,wpOpD_index,wpOpD_slice,wpOpD_extract,wpOpD_builtin,wpOpD_load,wpOpD_alloc,wpOpD_box,wpOpD_makeSlice,wpOpD_buildSlice,wpOpD_store,evN,evA,evL,binV,unV,intOfV,lenV,List.set_cons_succ,List.set_cons_zero,List.getD_cons_succ,List.getD_cons_zero,List.getElem?_toArray,List.getElem?_cons_zero,List.getElem?_cons_succ,true_and,if_true,Bool.false_eq_true,Bool.true_eq_false,if_false,List.length_nil,List.length_singleton,readAt,TK.isAgg,wpStore,get_zero,get_succ,writeAt_one,cells_prim,cells_agg,cells_lst,cells_sref,cells_ptr,cells_clo,cellV_prim,cellV_lst,cellV_sref,cellV_ptr,cellV_clo,List.all_cons,List.all_nil,Bool.and_true,Bool.and_self,List.set_cons_zero,sliceV,Option.map_some,Option.map_none,reduceCtorEq,true_implies,false_implies,and_true,decide_eq_true_eq,decide_eq_false_iff_not,Bool.not_true,Bool.not_false,beq_self_eq_true,not_true_eq_false,not_false_eq_true,decide_true,decide_false,decide_not,Nat.reduceAdd,ty_limbs,ty_int,ty_w,cons_beq_nil,nil_beq_cons,bs_nil,bs_mk,bs_mk2,bs_size,bs_getD,bs_extract,bs_toList,Int.toNat_natCast,lw_length,gt_iff_lt,e1,e2,e3,e4]
  have hle:(s++[x]).length=s.length+1:=by simp
  refine ⟨⟨by omega,by omega⟩,fun hx=>⟨⟨by omega,by omega,by omega⟩,s,?_,⟨?_,?_⟩,by simp⟩,fun hx=> ?_⟩
  ·have e5:List.take (s.length-Int.toNat 0) (List.drop (Int.toNat 0) (lw (s++[x])))=lw s:=by simpa using e4
   rw [e5]
  ·have:x=0:=by simpa using hx
   subst this;rw [←hs,trim_zero]
  ·simp at hls;omega
  ·have:x≠0:=by simpa using hx
   simp only [retP,resVs,resV,retV,List.getD_cons_succ,List.getD_cons_zero,view,←hs,trim_ne this]
end Go.Av
namespace Go.Av
open Go.RowKit
open Go.Proofs.Tryz (prog)
def lval:List Nat→Nat
 |[]=>0
 |x::l=>x+4294967296*lval l
def Limb (l:List Nat):Prop:=∀ x∈l,x<4294967296
theorem lval_append (l m:List Nat):lval (l++m)=lval l+4294967296^l.length*lval m:=by
 induction l with
 |nil=>simp [lval]
 |cons x l ih=>simp only [List.cons_append,lval,ih,List.length_cons,Nat.pow_succ];grind
theorem lval_lt {l:List Nat} (h:Limb l):lval l<4294967296^l.length:=by
 induction l with
 |nil=>simp [lval]
 |cons x l ih=>
  have h0:=h x (List.mem_cons_self ..)
  have h1:=ih (fun y hy=>h y (List.mem_cons_of_mem _ hy))
  simp only [lval,List.length_cons,Nat.pow_succ]
  omega
theorem Limb.take {l:List Nat} (h:Limb l) (k:Nat):Limb (l.take k):=fun x hx=>h x (List.mem_of_mem_take hx)
theorem Limb.drop {l:List Nat} (h:Limb l) (k:Nat):Limb (l.drop k):=fun x hx=>h x (List.mem_of_mem_drop hx)
theorem Limb.getD {l:List Nat} (h:Limb l) (k:Nat):l.getD k 0<4294967296:=by
 rw [List.getD_eq_getElem?_getD]
 cases hk:l[k]? with
 |none=>simp
 |some x=>exact h x (List.mem_of_getElem? hk)
theorem drop_step (l:List Nat) {k:Nat} (h:k<l.length):l.drop k=l.getD k 0::l.drop (k+1):=by
 rw [List.drop_eq_getElem_cons h,List.getD_eq_getElem?_getD,List.getElem?_eq_getElem h];rfl
theorem lval_split (l:List Nat) (k:Nat) (h:k≤l.length):lval l=lval (l.take k)+4294967296^k*lval (l.drop k):=by
 conv=>lhs;rw [←List.take_append_drop k l]
 rw [lval_append,List.length_take,Nat.min_eq_left h]
theorem cmp_step {l m:List Nat} (hl:Limb l) (hm:Limb m) (he:l.length=m.length) {k:Nat} (hk:k<l.length) (hd:l.drop (k+1)=m.drop (k+1)) (hlt:l.getD k 0<m.getD k 0):lval l<lval m:=by
 rw [lval_split l k (by omega),lval_split m k (by omega),drop_step l hk,drop_step m (by omega),hd]
 have h1:=lval_lt (hl.take k)
 have h2:(l.take k).length=k:=by simp;omega
 rw [h2] at h1
 simp only [lval]
 generalize lval (m.drop (k+1))=D at*
 generalize l.getD k 0=a at*
 generalize m.getD k 0=b at*
 generalize 4294967296^k=p at*
 have:p*(a+1+4294967296*D)≤p*(b+4294967296*D):=Nat.mul_le_mul_left _ (by omega)
 have e:p*(a+1+4294967296*D)=p*(a+4294967296*D)+p:=by grind
 omega
def sgn (a b:Nat):Int:=if a<b then-1 else if b<a then 1 else 0
def lcmp (l m:List Nat):Int:=if l.length<m.length then-1 else if m.length<l.length then 1 else sgn (lval l) (lval m)
theorem compare_pc (l m:List Nat) (hl:l.length<2^40) (hm:m.length<2^40) (hL:Limb l) (hM:Limb m):PC prog 189 [.lst 1 (lw l),.lst 1 (lw m)] (.prim (.int .i64 (lcmp l m))):=by
 refine PCi ?_
 conv in trip _ _=>cbv
 simp only [runT,RN,simprocAttr]
 by_cases hne:l.length=m.length
 ·have e0:(((l.length:Nat):Int) !=((m.length:Nat):Int))=false:=by simp [hne]
  simp only [wpL_skip,wpL_opsF,wpL_opsT,wpL_seq,wpL_cond,wpL_block,wpL_exit,wpL_goto,wpL_ret,seqQ_normal,seqQ_exit,seqQ_goto,seqQ_ret,blockQ_normal,blockQ_exit,blockQ_goto,blockQ_ret,condP_bool,opsK_eq,opsKD_eq,putT_some,putT_none,wpOps_nil,wpOps_cons,wpOpsD_nil,wpOpsD_cons,footQ_none,footQ_some,wpG_none,wpG_some,gP_bool,gP_undef,ev_tmp,ev_const,ev_func,ev_global,orP_some,slP_some,orV_some,orA_some,wpOp_move,wpOp_assign,wpOp_pick,pickV_eq,wpOp_build,wpOp_binOp,wpOp_unOp,wpOp_makeFunc,wpOp_fieldAddr,wpOp_field,wpOp_indexAddr,wpOp_index,wpOp_slice,wpOp_extract,extractV_tup,wpOp_len,wpOp_cap,wpOp_max,wpOp_min,wpOp_load,wpOp_alloc,wpOp_box,wpOp_makeSlice,wpOp_buildSlice,wpOp_store,wpOp_convert,orE_some,orE_none,wpOpD_move,wpOpD_assign,wpOpD_pick,wpOpD_build,wpOpD_binOp,wpOpD_unOp,wpOpD_convert,wpOpD_makeFunc,wpOpD_fieldAddr,wpOpD_field,wpOpD_indexAddr,wpOpD_index,wpOpD_slice,wpOpD_extract,wpOpD_builtin,wpOpD_load,wpOpD_alloc,wpOpD_box,wpOpD_makeSlice,wpOpD_buildSlice,wpOpD_store,evN,evA,evL,binV,unV,intOfV,lenV,List.set_cons_succ,List.set_cons_zero,List.getD_cons_succ,List.getD_cons_zero,List.getElem?_toArray,List.getElem?_cons_zero,List.getElem?_cons_succ,true_and,if_true,Bool.false_eq_true,Bool.true_eq_false,if_false,List.length_nil,List.length_singleton,readAt,TK.isAgg,wpStore,get_zero,get_succ,writeAt_one,cells_prim,cells_agg,cells_lst,cells_sref,cells_ptr,cells_clo,cellV_prim,cellV_lst,cellV_sref,cellV_ptr,cellV_clo,List.all_cons,List.all_nil,Bool.and_true,Bool.and_self,List.set_cons_zero,sliceV,Option.map_some,Option.map_none,reduceCtorEq,true_implies,false_implies,and_true,decide_eq_true_eq,decide_eq_false_iff_not,Bool.not_true,Bool.not_false,beq_self_eq_true,not_true_eq_false,not_false_eq_true,decide_true,decide_false,decide_not,Nat.reduceAdd,ty_limbs,ty_int,ty_w,cons_beq_nil,nil_beq_cons,bs_nil,bs_mk,bs_mk2,bs_size,bs_getD,bs_extract,bs_toList,Int.toNat_natCast,foot_move,foot_assign,foot_pick,foot_build,foot_binOp,foot_unOp,foot_makeFunc,foot_fieldAddr,foot_field,foot_indexAddr,foot_index,foot_slice,foot_extract,foot_len,foot_cap,foot_max,foot_min,foot_load,foot_convert,foot_store,foot_alloc,foot_box,foot_makeSlice,foot_buildSlice,foot_append,foot_copy,foot_clear,foot_call,footC_clo,blkOf_prim,blkOf_ivp,blkOf_lst,blkOf_agg,blkOf_tup,blkOf_ptr,blkOf_sref,clash_rr,clash_nl,clash_nr,clash_bef,Nat.testBit_eq_decide_div_mod_eq,touch_prim,touch_lst,touch_agg,touch_tup,touch_clo,touch_ptr,view_prim,view_lst,view_clo,view_agg,view_tup,viewL_nil,viewL_cons,consO_some,viewArgs_nil,viewArgs_cons,wpOp_append,wpOp_copy,appP,copyP,List.any_nil,List.any_cons,Bool.or_self,Bool.or_false,List.flatMap_cons,List.flatMap_nil,List.append_nil,List.nil_append,List.map_cons,List.map_nil,lw_length,e0]
  have e1:IntKind.i64.wrap (((l.length:Nat):Int)-1)=((l.length:Nat):Int)-1:=by rw [wrap_i64]<;>omega
  simp only [e1]
  refine wp_loop (fun (k:Nat) J=> .lst 1 (lw l):: .lst 1 (lw m)::J 2::J 3:: .prim (.int .i64 0):: .prim (.int .i64 ((k:Int)-1))::J 6::J 7::J 8::J 9::J 10::J 11::J 12::J 13::J 14::J 15::J 16::J 17::J 18::J 19::J 20::J 21::J 22::J 23::J 24::J 25::J 26::J 27::J 28::J 29::J 30::J 31::J 32::J 33::J 34::J 35::J 36::J 37::J 38::J 39::J 40::J 41::J 42::[]) (fun k H=>k≤l.length∧l.drop k=m.drop k∧H=[]) (fun k=>k) l.length rfl ⟨Nat.le_refl _,by rw [List.drop_of_length_le (by omega),List.drop_of_length_le (by omega)],rfl⟩ ?_
  rintro k J _ ⟨hk,hd,rfl⟩
  try conv in ov _ _ _ _=>simp only [ov,List.lookup,RO,simprocAttr]
  rcases k with _|k
  ·have e2:((((0:Nat):Int)-1)≥(0:Int))=False:=by simp
   simp only [wpL_skip,wpL_opsF,wpL_opsT,wpL_seq,wpL_cond,wpL_block,wpL_exit,wpL_goto,wpL_ret,seqQ_normal,seqQ_exit,seqQ_goto,seqQ_ret,blockQ_normal,blockQ_exit,blockQ_goto,blockQ_ret,condP_bool,opsK_eq,opsKD_eq,putT_some,putT_none,wpOps_nil,wpOps_cons,wpOpsD_nil,wpOpsD_cons,footQ_none,footQ_some,wpG_none,wpG_some,gP_bool,gP_undef,ev_tmp,ev_const,ev_func,ev_global,orP_some,slP_some,orV_some,orA_some,wpOp_move,wpOp_assign,wpOp_pick,pickV_eq,wpOp_build,wpOp_binOp,wpOp_unOp,wpOp_makeFunc,wpOp_fieldAddr,wpOp_field,wpOp_indexAddr,wpOp_index,wpOp_slice,wpOp_extract,extractV_tup,wpOp_len,wpOp_cap,wpOp_max,wpOp_min,wpOp_load,wpOp_alloc,wpOp_box,wpOp_makeSlice,wpOp_buildSlice,wpOp_store,wpOp_convert,orE_some,orE_none,wpOpD_move,wpOpD_assign,wpOpD_pick,wpOpD_build,wpOpD_binOp,wpOpD_unOp,wpOpD_convert,wpOpD_makeFunc,wpOpD_fieldAddr,wpOpD_field,wpOpD_indexAddr,wpOpD_index,wpOpD_slice,wpOpD_extract,wpOpD_builtin,wpOpD_load,wpOpD_alloc,wpOpD_box,wpOpD_makeSlice,wpOpD_buildSlice,wpOpD_store,evN,evA,evL,binV,unV,intOfV,lenV,List.set_cons_succ,List.set_cons_zero,List.getD_cons_succ,List.getD_cons_zero,List.getElem?_toArray,List.getElem?_cons_zero,List.getElem?_cons_succ,true_and,if_true,Bool.false_eq_true,Bool.true_eq_false,if_false,List.length_nil,List.length_singleton,readAt,TK.isAgg,wpStore,get_zero,get_succ,writeAt_one,cells_prim,cells_agg,cells_lst,cells_sref,cells_ptr,cells_clo,cellV_prim,cellV_lst,cellV_sref,cellV_ptr,cellV_clo,List.all_cons,List.all_nil,Bool.and_true,Bool.and_self,List.set_cons_zero,sliceV,Option.map_some,Option.map_none,reduceCtorEq,true_implies,false_implies,and_true,decide_eq_true_eq,decide_eq_false_iff_not,Bool.not_true,Bool.not_false,beq_self_eq_true,not_true_eq_false,not_false_eq_true,decide_true,decide_false,decide_not,Nat.reduceAdd,ty_limbs,ty_int,ty_w,cons_beq_nil,nil_beq_cons,bs_nil,bs_mk,bs_mk2,bs_size,bs_getD,bs_extract,bs_toList,Int.toNat_natCast,foot_move,foot_assign,foot_pick,foot_build,foot_binOp,foot_unOp,foot_makeFunc,foot_fieldAddr,foot_field,foot_indexAddr,foot_index,foot_slice,foot_extract,foot_len,foot_cap,foot_max,foot_min,foot_load,foot_convert,foot_store,foot_alloc,foot_box,foot_makeSlice,foot_buildSlice,foot_append,foot_copy,foot_clear,foot_call,footC_clo,blkOf_prim,blkOf_ivp,blkOf_lst,blkOf_agg,blkOf_tup,blkOf_ptr,blkOf_sref,clash_rr,clash_nl,clash_nr,clash_bef,Nat.testBit_eq_decide_div_mod_eq,touch_prim,touch_lst,touch_agg,touch_tup,touch_clo,touch_ptr,view_prim,view_lst,view_clo,view_agg,view_tup,viewL_nil,viewL_cons,consO_some,viewArgs_nil,viewArgs_cons,wpOp_append,wpOp_copy,appP,copyP,List.any_nil,List.any_cons,Bool.or_self,Bool.or_false,List.flatMap_cons,List.flatMap_nil,List.append_nil,List.nil_append,List.map_cons,List.map_nil,lw_length,e2]
   simp only [retP,resVs,resV,retV,List.getD_cons_succ,List.getD_cons_zero,view]
   have:l=m:=by simpa using hd
   subst this
   simp [lcmp,sgn]
  ·have e2:((((k+1:Nat):Int)-1)≥(0:Int))=True:=by simp
   have e3:((k+1:Nat):Int)-1=((k:Nat):Int):=by omega
   have e4:=lw_getD (l:=l) (k:=k) (by omega)
   have e5:=lw_getD (l:=m) (k:=k) (by omega)
   have e6:IntKind.i64.wrap (((k:Nat):Int)-1)=((k:Nat):Int)-1:=by rw [wrap_i64]<;>omega
   have d1:=drop_step l (k:=k) (by omega)
   have d2:=drop_step m (k:=k) (by omega)
   simp only [e3,wpL_skip,wpL_opsF,wpL_opsT,wpL_seq,wpL_cond,wpL_block,wpL_exit,wpL_goto,wpL_ret,seqQ_normal,seqQ_exit,seqQ_goto,seqQ_ret,blockQ_normal,blockQ_exit,blockQ_goto,blockQ_ret,condP_bool,opsK_eq,opsKD_eq,putT_some,putT_none,wpOps_nil,wpOps_cons,wpOpsD_nil,wpOpsD_cons,footQ_none,footQ_some,wpG_none,wpG_some,gP_bool,gP_undef,ev_tmp,ev_const,ev_func,ev_global,orP_some,slP_some,orV_some,orA_some,wpOp_move,wpOp_assign,wpOp_pick,pickV_eq,wpOp_build,wpOp_binOp,wpOp_unOp,wpOp_makeFunc,wpOp_fieldAddr,wpOp_field,wpOp_indexAddr,wpOp_index,wpOp_slice,wpOp_extract,extractV_tup,wpOp_len,wpOp_cap,wpOp_max,wpOp_min,wpOp_load,wpOp_alloc,wpOp_box,wpOp_makeSlice,wpOp_buildSlice,wpOp_store,wpOp_convert,orE_some,orE_none,wpOpD_move,wpOpD_assign,wpOpD_pick,wpOpD_build,wpOpD_binOp,wpOpD_unOp,wpOpD_convert,wpOpD_makeFunc,wpOpD_fieldAddr,wpOpD_field,wpOpD_indexAddr,wpOpD_index,wpOpD_slice,wpOpD_extract,wpOpD_builtin,wpOpD_load,wpOpD_alloc,wpOpD_box,wpOpD_makeSlice,wpOpD_buildSlice,wpOpD_store,evN,evA,evL,binV,unV,intOfV,lenV,List.set_cons_succ,List.set_cons_zero,List.getD_cons_succ,List.getD_cons_zero,List.getElem?_toArray,List.getElem?_cons_zero,List.getElem?_cons_succ,true_and,if_true,Bool.false_eq_true,Bool.true_eq_false,if_false,List.length_nil,List.length_singleton,readAt,TK.isAgg,wpStore,get_zero,get_succ,writeAt_one,cells_prim,cells_agg,cells_lst,cells_sref,cells_ptr,cells_clo,cellV_prim,cellV_lst,cellV_sref,cellV_ptr,cellV_clo,List.all_cons,List.all_nil,Bool.and_true,Bool.and_self,List.set_cons_zero,sliceV,Option.map_some,Option.map_none,reduceCtorEq,true_implies,false_implies,and_true,decide_eq_true_eq,decide_eq_false_iff_not,Bool.not_true,Bool.not_false,beq_self_eq_true,not_true_eq_false,not_false_eq_true,decide_true,decide_false,decide_not,Nat.reduceAdd,ty_limbs,ty_int,ty_w,cons_beq_nil,nil_beq_cons,bs_nil,bs_mk,bs_mk2,bs_size,bs_getD,bs_extract,bs_toList,Int.toNat_natCast,foot_move,foot_assign,foot_pick,foot_build,foot_binOp,foot_unOp,foot_makeFunc,foot_fieldAddr,foot_field,foot_indexAddr,foot_index,foot_slice,foot_extract,foot_len,foot_cap,foot_max,foot_min,foot_load,foot_convert,foot_store,foot_alloc,foot_box,foot_makeSlice,foot_buildSlice,foot_append,foot_copy,foot_clear,foot_call,footC_clo,blkOf_prim,blkOf_ivp,blkOf_lst,blkOf_agg,blkOf_tup,blkOf_ptr,blkOf_sref,clash_rr,clash_nl,clash_nr,clash_bef,Nat.testBit_eq_decide_div_mod_eq,touch_prim,touch_lst,touch_agg,touch_tup,touch_clo,touch_ptr,view_prim,view_lst,view_clo,view_agg,view_tup,viewL_nil,viewL_cons,consO_some,viewArgs_nil,viewArgs_cons,wpOp_append,wpOp_copy,appP,copyP,List.any_nil,List.any_cons,Bool.or_self,Bool.or_false,List.flatMap_cons,List.flatMap_nil,List.append_nil,List.nil_append,List.map_cons,List.map_nil,lw_length,e2,e4,e5,e6]
   refine ⟨fun _=>⟨⟨by omega,by omega⟩,⟨by omega,by omega⟩,fun hlt=> ?_,fun h1=>⟨⟨by omega,by omega⟩,⟨by omega,by omega⟩,fun hgt=> ?_,fun h2=>⟨k,rfl,⟨by omega,?_⟩,by omega⟩⟩⟩,fun h=>absurd (by omega) h⟩
   ·simp only [retP,resVs,resV,retV,List.getD_cons_succ,List.getD_cons_zero,view]
    have:=cmp_step hL hM hne (k:=k) (by omega) hd (by omega)
    rw [lcmp,if_neg (by omega),if_neg (by omega),sgn,if_pos this]
   ·simp only [retP,resVs,resV,retV,List.getD_cons_succ,List.getD_cons_zero,view]
    have:=cmp_step hM hL hne.symm (k:=k) (by omega) hd.symm (by omega)
    rw [lcmp,if_neg (by omega),if_neg (by omega),sgn,if_neg (by omega),if_pos this]
   ·rw [d1,d2,hd]
    have:l.getD k 0=m.getD k 0:=by omega
    rw [this]
 ·have e0:(((l.length:Nat):Int) !=((m.length:Nat):Int))=true:=by simp;omega
  simp only [wpL_skip,wpL_opsF,wpL_opsT,wpL_seq,wpL_cond,wpL_block,wpL_exit,wpL_goto,wpL_ret,seqQ_normal,seqQ_exit,seqQ_goto,seqQ_ret,blockQ_normal,blockQ_exit,blockQ_goto,blockQ_ret,condP_bool,opsK_eq,opsKD_eq,putT_some,putT_none,wpOps_nil,wpOps_cons,wpOpsD_nil,wpOpsD_cons,footQ_none,footQ_some,wpG_none,wpG_some,gP_bool,gP_undef,ev_tmp,ev_const,ev_func,ev_global,orP_some,slP_some,orV_some,orA_some,wpOp_move,wpOp_assign,wpOp_pick,pickV_eq,wpOp_build,wpOp_binOp,wpOp_unOp,wpOp_makeFunc,wpOp_fieldAddr,wpOp_field,wpOp_indexAddr,wpOp_index,wpOp_slice,wpOp_extract,extractV_tup,wpOp_len,wpOp_cap,wpOp_max,wpOp_min,wpOp_load,wpOp_alloc,wpOp_box,wpOp_makeSlice,wpOp_buildSlice,wpOp_store,wpOp_convert,orE_some,orE_none,wpOpD_move,wpOpD_assign,wpOpD_pick,wpOpD_build,wpOpD_binOp,wpOpD_unOp,wpOpD_convert,wpOpD_makeFunc,wpOpD_fieldAddr,wpOpD_field,wpOpD_indexAddr,wpOpD_index,wpOpD_slice,wpOpD_extract,wpOpD_builtin,wpOpD_load,wpOpD_alloc,wpOpD_box,wpOpD_makeSlice,wpOpD_buildSlice,wpOpD_store,evN,evA,evL,binV,unV,intOfV,lenV,List.set_cons_succ,List.set_cons_zero,List.getD_cons_succ,List.getD_cons_zero,List.getElem?_toArray,List.getElem?_cons_zero,List.getElem?_cons_succ,true_and,if_true,Bool.false_eq_true,Bool.true_eq_false,if_false,List.length_nil,List.length_singleton,readAt,TK.isAgg,wpStore,get_zero,get_succ,writeAt_one,cells_prim,cells_agg,cells_lst,cells_sref,cells_ptr,cells_clo,cellV_prim,cellV_lst,cellV_sref,cellV_ptr,cellV_clo,List.all_cons,List.all_nil,Bool.and_true,Bool.and_self,List.set_cons_zero,sliceV,Option.map_some,Option.map_none,reduceCtorEq,true_implies,false_implies,and_true,decide_eq_true_eq,decide_eq_false_iff_not,Bool.not_true,Bool.not_false,beq_self_eq_true,not_true_eq_false,not_false_eq_true,decide_true,decide_false,decide_not,Nat.reduceAdd,ty_limbs,ty_int,ty_w,cons_beq_nil,nil_beq_cons,bs_nil,bs_mk,bs_mk2,bs_size,bs_getD,bs_extract,bs_toList,Int.toNat_natCast,foot_move,foot_assign,foot_pick,foot_build,foot_binOp,foot_unOp,foot_makeFunc,foot_fieldAddr,foot_field,foot_indexAddr,foot_index,foot_slice,foot_extract,foot_len,foot_cap,foot_max,foot_min,foot_load,foot_convert,foot_store,foot_alloc,foot_box,foot_makeSlice,foot_buildSlice,foot_append,foot_copy,foot_clear,foot_call,footC_clo,blkOf_prim,blkOf_ivp,blkOf_lst,blkOf_agg,blkOf_tup,blkOf_ptr,blkOf_sref,clash_rr,clash_nl,clash_nr,clash_bef,Nat.testBit_eq_decide_div_mod_eq,touch_prim,touch_lst,touch_agg,touch_tup,touch_clo,touch_ptr,view_prim,view_lst,view_clo,view_agg,view_tup,viewL_nil,viewL_cons,consO_some,viewArgs_nil,viewArgs_cons,wpOp_append,wpOp_copy,appP,copyP,List.any_nil,List.any_cons,Bool.or_self,Bool.or_false,List.flatMap_cons,List.flatMap_nil,List.append_nil,List.nil_append,List.map_cons,List.map_nil,lw_length,e0]
  refine ⟨fun h=> ?_,fun h=> ?_⟩
  ·simp only [retP,resVs,resV,retV,List.getD_cons_succ,List.getD_cons_zero,view,lcmp,if_pos (show l.length<m.length by omega)]
  ·simp only [retP,resVs,resV,retV,List.getD_cons_succ,List.getD_cons_zero,view,lcmp,if_neg (show ¬l.length<m.length by omega),if_pos (show m.length<l.length by omega)]
end Go.Av
namespace Go.Av
open Go.RowKit
open Go.Proofs.Tryz (prog)
def limbsOf (n:Nat):List Nat:=if h:n=0 then [] else (n%4294967296)::limbsOf (n/4294967296)
termination_by n
decreasing_by omega
theorem limbsOf_zero:limbsOf 0=[]:=by unfold limbsOf;simp
theorem limbsOf_pos {n:Nat} (h:n≠0):limbsOf n=(n%4294967296)::limbsOf (n/4294967296):=by
 rw [limbsOf];simp [h]
theorem limbsOf_cons {x m:Nat} (h:x<4294967296) (hm:x+4294967296*m≠0):limbsOf (x+4294967296*m)=x::limbsOf m:=by
 rw [limbsOf_pos hm]
 have h1:(x+4294967296*m)%4294967296=x:=by omega
 have h2:(x+4294967296*m)/4294967296=m:=by omega
 rw [h1,h2]
theorem limb_limbsOf (n:Nat):Limb (limbsOf n):=by
 induction n using Nat.strongRecOn with
 |ind n ih=>
  by_cases h:n=0
  ·subst h;rw [limbsOf_zero];intro x hx;simp at hx
  ·rw [limbsOf_pos h]
   intro x hx
   rcases List.mem_cons.1 hx with rfl|hx
   ·omega
   ·exact ih _ (by omega) x hx
theorem lval_limbsOf (n:Nat):lval (limbsOf n)=n:=by
 induction n using Nat.strongRecOn with
 |ind n ih=>
  by_cases h:n=0
  ·subst h;rw [limbsOf_zero];rfl
  ·rw [limbsOf_pos h,lval,ih _ (by omega)];omega
theorem trim_cons (x:Nat) (l:List Nat):trim (x::l)=if trim l=[]∧x=0 then [] else x::trim l:=by
 unfold trim
 rw [List.reverse_cons,List.dropWhile_append]
 cases h:(List.dropWhile (fun x=>x==0) l.reverse) with
 |nil=>
  by_cases hx:x=0
  ·simp [h,hx]
  ·simp [h,hx]
 |cons a b=>simp [h]
theorem trim_eq {l:List Nat} (h:Limb l):trim l=limbsOf (lval l):=by
 induction l with
 |nil=>rw [lval,limbsOf_zero];rfl
 |cons x l ih=>
  have h0:=h x (List.mem_cons_self ..)
  have h1:=ih (fun y hy=>h y (List.mem_cons_of_mem _ hy))
  rw [trim_cons,h1,lval]
  by_cases hz:x+4294967296*lval l=0
  ·have hx:x=0:=by omega
   have hl:lval l=0:=by omega
   rw [hl,hx,limbsOf_zero];simp [limbsOf_zero]
  ·rw [limbsOf_cons h0 hz,if_neg]
   rintro ⟨ha,hb⟩
   have:lval l=0:=by rw [←lval_limbsOf (lval l),ha];rfl
   omega
theorem limbs_of {l:List Nat} (h:Limb l) (hn:l=[]∨4294967296^(l.length-1)≤lval l):l=limbsOf (lval l):=by
 rw [←trim_eq h]
 rcases List.eq_nil_or_concat l with rfl|⟨s,x,rfl⟩
 ·rfl
 ·simp only [List.concat_eq_append] at*
  have hx:x≠0:=by
   rintro rfl
   rcases hn with hn|hn
   ·simp at hn
   ·rw [lval_append] at hn
    have:=lval_lt (l:=s) (fun y hy=>h y (List.mem_append_left _ hy))
    simp [lval] at hn
    omega
  rw [trim_ne hx]
theorem limbsOf_length_le {n k:Nat} (h:n<4294967296^k):(limbsOf n).length≤k:=by
 induction k generalizing n with
 |zero=>have:n=0:=by simpa using h
        subst this;rw [limbsOf_zero];simp
 |succ k ih=>
  by_cases hz:n=0
  ·subst hz;rw [limbsOf_zero];simp
  ·rw [limbsOf_pos hz,List.length_cons]
   have:=ih (n:=n/4294967296) (by rw [Nat.div_lt_iff_lt_mul (by decide)];rw [Nat.pow_succ] at h;exact h)
   omega
theorem lval_set (l:List Nat):∀ (k x:Nat),k<l.length→lval (l.set k x)+4294967296^k*l.getD k 0=lval l+4294967296^k*x:=by
 induction l with
 |nil=>intro k x h;simp at h
 |cons y l ih=>
  intro k x h
  cases k with
  |zero=>simp [lval];omega
  |succ k=>
   have:=ih k x (by simpa using h)
   simp only [List.set_cons_succ,lval,List.getD_cons_succ,Nat.pow_succ]
   generalize lval (l.set k x)=A at*
   generalize l.getD k 0=g at*
   generalize 4294967296^k=p at*
   generalize lval l=B at*
   have e:4294967296*A+4294967296*(p*g)=4294967296*B+4294967296*(p*x):=by rw [←Nat.mul_add,←Nat.mul_add,this]
   have e1:p*4294967296*g=4294967296*(p*g):=by grind
   have e2:p*4294967296*x=4294967296*(p*x):=by grind
   omega
theorem lval_ge (l:List Nat):∀ (k:Nat),k<l.length→4294967296^k*l.getD k 0≤lval l:=by
 intro k h
 have:=lval_split l k (by omega)
 rw [drop_step l h,lval] at this
 rw [this]
 have:4294967296^k*l.getD k 0≤4294967296^k*(l.getD k 0+4294967296*lval (List.drop (k+1) l)):=Nat.mul_le_mul_left _ (by omega)
 omega
theorem Limb.set {l:List Nat} (h:Limb l) (k:Nat) {x:Nat} (hx:x<4294967296):Limb (l.set k x):=fun y hy=>by
 rcases List.mem_or_eq_of_mem_set hy with h1|rfl
 ·exact h y h1
 ·exact hx
theorem lw_get {l:List Nat} {k:Nat} (h:k<l.length):(lw l)[k]? =some [.prim (.int .u32 ((l.getD k 0:Nat):Int))]:=by
 simp [lw,h,List.getD_eq_getElem?_getD]
theorem lw_set {l:List Nat} {k x:Nat}:(lw l).set k [.prim (.int .u32 ((x:Nat):Int))]=lw (l.set k x):=by
 simp [lw,List.map_set]
theorem lw_zeros (n:Nat):List.replicate n [V.prim (.int .u32 0)]=lw (List.replicate n 0):=by simp [lw]
end Go.Av
