/- Helping texts: Ba, Bc. -/
import Derived.Test.YtkmlhdfpcjkekaaGreatKAx
set_option linter.unusedSimpArgs false
set_option linter.unusedVariables false
set_option maxRecDepth 100000
set_option maxHeartbeats 16000000
namespace Go.Av
open Go.RowKit
open Go.Proofs.Tryz (prog)
theorem ty_int:tyOf prog 3 =some ⟨1,8,[.int .i64 0],.int .i64,false⟩:=by kernel_rfl
theorem ty_u8:tyOf prog 5 =some ⟨1,1,[.int .u8 0],.int .u8,false⟩:=by kernel_rfl
theorem ty_str:tyOf prog 9 =some ⟨1,16,[.string ⟨#[]⟩],.str,false⟩:=by kernel_rfl
theorem digits_pc (l:List UInt8) (hs:l.length≤7):PC prog 242 [.prim (.string (bs l))] (.prim (.int .i64 (bval l:Nat))):=by
 refine PCi ?_
 conv in trip _ _=>cbv
 simp only [runT,RN,simprocAttr]
 simp only [wpL_skip,wpL_opsF,wpL_opsT,wpL_seq,wpL_cond,wpL_block,wpL_exit,wpL_goto,wpL_ret,seqQ_normal,seqQ_exit,seqQ_goto,seqQ_ret,blockQ_normal,blockQ_exit,blockQ_goto,blockQ_ret,condP_bool,opsK_eq,opsKD_eq,putT_some,putT_none,wpOps_nil,wpOps_cons,wpOpsD_nil,wpOpsD_cons,footQ_none,footQ_some,wpG_none,wpG_some,gP_bool,gP_undef,ev_tmp,ev_const,ev_func,ev_global,orP_some,slP_some,orV_some,orA_some,wpOp_move,wpOp_assign,wpOp_pick,pickV_eq,wpOp_build,wpOp_binOp,wpOp_unOp,wpOp_makeFunc,wpOp_fieldAddr,wpOp_field,wpOp_indexAddr,wpOp_index,wpOp_slice,wpOp_extract,extractV_tup,wpOp_len,wpOp_cap,wpOp_max,wpOp_min,wpOp_load,wpOp_alloc,wpOp_box,wpOp_makeSlice,wpOp_buildSlice,wpOp_store,wpOp_convert,orE_some,orE_none,wpOpD_move,wpOpD_assign,wpOpD_pick,wpOpD_build,wpOpD_binOp,wpOpD_unOp,wpOpD_convert,wpOpD_makeFunc,wpOpD_fieldAddr,wpOpD_field,wpOpD_indexAddr,wpOpD_index,wpOpD_slice,wpOpD_extract,wpOpD_builtin,wpOpD_load,wpOpD_alloc,wpOpD_box,wpOpD_makeSlice,wpOpD_buildSlice,wpOpD_store,evN,evA,evL,binV,unV,intOfV,lenV,List.set_cons_succ,List.set_cons_zero,List.getD_cons_succ,List.getD_cons_zero,List.getElem?_toArray,List.getElem?_cons_zero,List.getElem?_cons_succ,true_and,if_true,Bool.false_eq_true,Bool.true_eq_false,if_false,List.length_nil,List.length_singleton,readAt,TK.isAgg,wpStore,get_zero,get_succ,writeAt_one,cells_prim,cells_agg,cells_lst,cells_sref,cells_ptr,cells_clo,cellV_prim,cellV_lst,cellV_sref,cellV_ptr,cellV_clo,List.all_cons,List.all_nil,Bool.and_true,Bool.and_self,List.set_cons_zero,sliceV,Option.map_some,Option.map_none,reduceCtorEq,true_implies,false_implies,and_true,decide_eq_true_eq,decide_eq_false_iff_not,Bool.not_true,Bool.not_false,beq_self_eq_true,not_true_eq_false,not_false_eq_true,decide_true,decide_false,decide_not,Nat.reduceAdd,ty_str]
 refine wp_loop (fun (i:Nat) J=>[.prim (.string (bs l)),J 1,.prim (.int .i64 0),.prim (.int .i64 (bval (l.take i):Nat)),J 4,.prim (.string (bs l)),.prim (.int .i64 ((bs l).size:Nat)),.prim (.int .i64 (i:Nat)),J 8,J 9,J 10,J 11,J 12,J 13,J 14,J 15,J 16,J 17,J 18])
  (fun i H=>i≤l.length∧H=[]) (fun i=>l.length-i) 0 rfl ⟨Nat.zero_le _,rfl⟩ ?_
 rintro i J _ ⟨hi,rfl⟩
 try conv in ov _ _ _ _=>simp only [ov,List.lookup,RO,simprocAttr]
 simp only [wpL_skip,wpL_opsF,wpL_opsT,wpL_seq,wpL_cond,wpL_block,wpL_exit,wpL_goto,wpL_ret,seqQ_normal,seqQ_exit,seqQ_goto,seqQ_ret,blockQ_normal,blockQ_exit,blockQ_goto,blockQ_ret,condP_bool,opsK_eq,opsKD_eq,putT_some,putT_none,wpOps_nil,wpOps_cons,wpOpsD_nil,wpOpsD_cons,footQ_none,footQ_some,wpG_none,wpG_some,gP_bool,gP_undef,ev_tmp,ev_const,ev_func,ev_global,orP_some,slP_some,orV_some,orA_some,wpOp_move,wpOp_assign,wpOp_pick,pickV_eq,wpOp_build,wpOp_binOp,wpOp_unOp,wpOp_makeFunc,wpOp_fieldAddr,wpOp_field,wpOp_indexAddr,wpOp_index,wpOp_slice,wpOp_extract,extractV_tup,wpOp_len,wpOp_cap,wpOp_max,wpOp_min,wpOp_load,wpOp_alloc,wpOp_box,wpOp_makeSlice,wpOp_buildSlice,wpOp_store,wpOp_convert,orE_some,orE_none,wpOpD_move,wpOpD_assign,wpOpD_pick,wpOpD_build,wpOpD_binOp,wpOpD_unOp,wpOpD_convert,wpOpD_makeFunc,wpOpD_fieldAddr,wpOpD_field,wpOpD_indexAddr,wpOpD_index,wpOpD_slice,wpOpD_extract,wpOpD_builtin,wpOpD_load,wpOpD_alloc,wpOpD_box,wpOpD_makeSlice,wpOpD_buildSlice,wpOpD_store,evN,evA,evL,binV,unV,intOfV,lenV,List.set_cons_succ,List.set_cons_zero,List.getD_cons_succ,List.getD_cons_zero,List.getElem?_toArray,List.getElem?_cons_zero,List.getElem?_cons_succ,true_and,if_true,Bool.false_eq_true,Bool.true_eq_false,if_false,List.length_nil,List.length_singleton,readAt,TK.isAgg,wpStore,get_zero,get_succ,writeAt_one,cells_prim,cells_agg,cells_lst,cells_sref,cells_ptr,cells_clo,cellV_prim,cellV_lst,cellV_sref,cellV_ptr,cellV_clo,List.all_cons,List.all_nil,Bool.and_true,Bool.and_self,List.set_cons_zero,sliceV,Option.map_some,Option.map_none,reduceCtorEq,true_implies,false_implies,and_true,decide_eq_true_eq,decide_eq_false_iff_not,Bool.not_true,Bool.not_false,beq_self_eq_true,not_true_eq_false,not_false_eq_true,decide_true,decide_false,decide_not,Nat.reduceAdd,ty_str,ty_int,ty_u8,bs_size,bs_getD,Int.toNat_natCast]
 refine ⟨fun hc=>⟨by decide,⟨by omega,by simpa using hc⟩,i+1,?_,?_,?_⟩,fun hc=> ?_⟩
 ·have hlt:i<l.length:=by simpa using hc
  have hb:=bval_lt (l.take i)
  have hlen:(l.take i).length=i:=by simp;omega
  rw [hlen] at hb
  have hp:256^i≤256^6:=Nat.pow_le_pow_right (by decide) (by omega)
  have hd:(l.getD i 0).toNat<256:=UInt8.toNat_lt _
  have e1:IntKind.i64.wrap ((i:Int)+1)=((i+1:Nat):Int):=by rw [wrap_i64 (by omega) (by omega)];rfl
  have e2:IntKind.i64.wrap ((bval (l.take i):Int)*2^min (Int.toNat 8) IntKind.i64.bits)=((bval (l.take i)*256:Nat):Int):=by
   rw [wrap_i64]<;>simp [IntKind.bits]<;>omega
  have e3:IntKind.i64.wrap ((l.getD i 0).toNat:Int)=(((l.getD i 0).toNat:Nat):Int):=wrap_nat_i64 (by omega)
  rw [e1,e2,e3,bv_or,bval_take l i hlt]
  have e4:(bval (l.take i)*256%2^IntKind.i64.bits|||(l.getD i 0).toNat%2^IntKind.i64.bits)=bval (l.take i)*256+(l.getD i 0).toNat:=by
   rw [Nat.mod_eq_of_lt (by simp only [IntKind.bits];omega),Nat.mod_eq_of_lt (Nat.lt_trans hd (by decide))]
   exact or_add _ _ 8 hd
  rw [e4,wrap_nat_i64 (by omega)]
 ·have hlt:i<l.length:=by simpa using hc
  omega
 ·have hlt:i<l.length:=by simpa using hc
  omega
 ·have hge:¬i<l.length:=by simpa using hc
  have:l.take i=l:=List.take_of_length_le (by omega)
  simp only [retP,resVs,resV,retV,List.getD_cons_succ,List.getD_cons_zero,view]
  rw [this]
end Go.Av
namespace Go.Av
open Go.RowKit
open Go.Proofs.Tryz (prog)
def strip (l:List UInt8):List UInt8:=l.dropWhile (·==0)
theorem strip_pc (l:List UInt8):PC prog 243 [.prim (.string (bs l))] (.prim (.string (bs (strip l)))):=by
 refine PCi ?_
 conv in trip _ _=>cbv
 simp only [runT,RN,simprocAttr]
 simp only [wpL_skip,wpL_opsF,wpL_opsT,wpL_seq,wpL_cond,wpL_block,wpL_exit,wpL_goto,wpL_ret,seqQ_normal,seqQ_exit,seqQ_goto,seqQ_ret,blockQ_normal,blockQ_exit,blockQ_goto,blockQ_ret,condP_bool,opsK_eq,opsKD_eq,putT_some,putT_none,wpOps_nil,wpOps_cons,wpOpsD_nil,wpOpsD_cons,footQ_none,footQ_some,wpG_none,wpG_some,gP_bool,gP_undef,ev_tmp,ev_const,ev_func,ev_global,orP_some,slP_some,orV_some,orA_some,wpOp_move,wpOp_assign,wpOp_pick,pickV_eq,wpOp_build,wpOp_binOp,wpOp_unOp,wpOp_makeFunc,wpOp_fieldAddr,wpOp_field,wpOp_indexAddr,wpOp_index,wpOp_slice,wpOp_extract,extractV_tup,wpOp_len,wpOp_cap,wpOp_max,wpOp_min,wpOp_load,wpOp_alloc,wpOp_box,wpOp_makeSlice,wpOp_buildSlice,wpOp_store,wpOp_convert,orE_some,orE_none,wpOpD_move,wpOpD_assign,wpOpD_pick,wpOpD_build,wpOpD_binOp,wpOpD_unOp,wpOpD_convert,wpOpD_makeFunc,wpOpD_fieldAddr,wpOpD_field,wpOpD_indexAddr,wpOpD_index,wpOpD_slice,wpOpD_extract,wpOpD_builtin,wpOpD_load,wpOpD_alloc,wpOpD_box,wpOpD_makeSlice,wpOpD_buildSlice,wpOpD_store,evN,evA,evL,binV,unV,intOfV,lenV,List.set_cons_succ,List.set_cons_zero,List.getD_cons_succ,List.getD_cons_zero,List.getElem?_toArray,List.getElem?_cons_zero,List.getElem?_cons_succ,true_and,if_true,Bool.false_eq_true,Bool.true_eq_false,if_false,List.length_nil,List.length_singleton,readAt,TK.isAgg,wpStore,get_zero,get_succ,writeAt_one,cells_prim,cells_agg,cells_lst,cells_sref,cells_ptr,cells_clo,cellV_prim,cellV_lst,cellV_sref,cellV_ptr,cellV_clo,List.all_cons,List.all_nil,Bool.and_true,Bool.and_self,List.set_cons_zero,sliceV,Option.map_some,Option.map_none,reduceCtorEq,true_implies,false_implies,and_true,decide_eq_true_eq,decide_eq_false_iff_not,Bool.not_true,Bool.not_false,beq_self_eq_true,not_true_eq_false,not_false_eq_true,decide_true,decide_false,decide_not,Nat.reduceAdd,cons_beq_nil,nil_beq_cons,bs_nil,bs_mk,bs_mk2,bs_size,bs_getD,bs_extract,bs_toList,Int.toNat_natCast]
 refine wp_loop (fun (s:List UInt8) J=> .prim (.string (bs s))::J 1:: .prim (.string (bs ([])))::J 3::J 4::J 5::J 6::J 7::J 8::J 9::J 10::J 11::J 12::[]) (fun s H=>strip s=strip l∧H=[]) (fun s=>s.length) l rfl ⟨rfl,rfl⟩ ?_
 rintro s J _ ⟨hs,rfl⟩
 try conv in ov _ _ _ _=>simp only [ov,List.lookup,RO,simprocAttr]
 rcases s with _|⟨b,s⟩
 ·simp only [wpL_skip,wpL_opsF,wpL_opsT,wpL_seq,wpL_cond,wpL_block,wpL_exit,wpL_goto,wpL_ret,seqQ_normal,seqQ_exit,seqQ_goto,seqQ_ret,blockQ_normal,blockQ_exit,blockQ_goto,blockQ_ret,condP_bool,opsK_eq,opsKD_eq,putT_some,putT_none,wpOps_nil,wpOps_cons,wpOpsD_nil,wpOpsD_cons,footQ_none,footQ_some,wpG_none,wpG_some,gP_bool,gP_undef,ev_tmp,ev_const,ev_func,ev_global,orP_some,slP_some,orV_some,orA_some,wpOp_move,wpOp_assign,wpOp_pick,pickV_eq,wpOp_build,wpOp_binOp,wpOp_unOp,wpOp_makeFunc,wpOp_fieldAddr,wpOp_field,wpOp_indexAddr,wpOp_index,wpOp_slice,wpOp_extract,extractV_tup,wpOp_len,wpOp_cap,wpOp_max,wpOp_min,wpOp_load,wpOp_alloc,wpOp_box,wpOp_makeSlice,wpOp_buildSlice,wpOp_store,wpOp_convert,orE_some,orE_none,wpOpD_move,wpOpD_assign,wpOpD_pick,wpOpD_build,wpOpD_binOp,wpOpD_unOp,wpOpD_convert,wpOpD_makeFunc,wpOpD_fieldAddr,wpOpD_field,wpOpD_indexAddr,wpOpD_index,wpOpD_slice,wpOpD_extract,wpOpD_builtin,wpOpD_load,wpOpD_alloc,wpOpD_box,wpOpD_makeSlice,wpOpD_buildSlice,wpOpD_store,evN,evA,evL,binV,unV,intOfV,lenV,List.set_cons_succ,List.set_cons_zero,List.getD_cons_succ,List.getD_cons_zero,List.getElem?_toArray,List.getElem?_cons_zero,List.getElem?_cons_succ,true_and,if_true,Bool.false_eq_true,Bool.true_eq_false,if_false,List.length_nil,List.length_singleton,readAt,TK.isAgg,wpStore,get_zero,get_succ,writeAt_one,cells_prim,cells_agg,cells_lst,cells_sref,cells_ptr,cells_clo,cellV_prim,cellV_lst,cellV_sref,cellV_ptr,cellV_clo,List.all_cons,List.all_nil,Bool.and_true,Bool.and_self,List.set_cons_zero,sliceV,Option.map_some,Option.map_none,reduceCtorEq,true_implies,false_implies,and_true,decide_eq_true_eq,decide_eq_false_iff_not,Bool.not_true,Bool.not_false,beq_self_eq_true,not_true_eq_false,not_false_eq_true,decide_true,decide_false,decide_not,Nat.reduceAdd,ty_str,ty_u8,cons_beq_nil,nil_beq_cons,bs_nil,bs_mk,bs_mk2,bs_size,bs_getD,bs_extract,bs_toList,Int.toNat_natCast]
  simp only [retP,resVs,resV,retV,List.getD_cons_succ,List.getD_cons_zero,view,←hs];rfl
 ·simp only [wpL_skip,wpL_opsF,wpL_opsT,wpL_seq,wpL_cond,wpL_block,wpL_exit,wpL_goto,wpL_ret,seqQ_normal,seqQ_exit,seqQ_goto,seqQ_ret,blockQ_normal,blockQ_exit,blockQ_goto,blockQ_ret,condP_bool,opsK_eq,opsKD_eq,putT_some,putT_none,wpOps_nil,wpOps_cons,wpOpsD_nil,wpOpsD_cons,footQ_none,footQ_some,wpG_none,wpG_some,gP_bool,gP_undef,ev_tmp,ev_const,ev_func,ev_global,orP_some,slP_some,orV_some,orA_some,wpOp_move,wpOp_assign,wpOp_pick,pickV_eq,wpOp_build,wpOp_binOp,wpOp_unOp,wpOp_makeFunc,wpOp_fieldAddr,wpOp_field,wpOp_indexAddr,wpOp_index,wpOp_slice,wpOp_extract,extractV_tup,wpOp_len,wpOp_cap,wpOp_max,wpOp_min,wpOp_load,wpOp_alloc,wpOp_box,wpOp_makeSlice,wpOp_buildSlice,wpOp_store,wpOp_convert,orE_some,orE_none,wpOpD_move,wpOpD_assign,wpOpD_pick,wpOpD_build,wpOpD_binOp,wpOpD_unOp,wpOpD_convert,wpOpD_makeFunc,wpOpD_fieldAddr,wpOpD_field,wpOpD_indexAddr,wpOpD_index,wpOpD_slice,wpOpD_extract,wpOpD_builtin,wpOpD_load,wpOpD_alloc,wpOpD_box,wpOpD_makeSlice,wpOpD_buildSlice,wpOpD_store,evN,evA,evL,binV,unV,intOfV,lenV,List.set_cons_succ,List.set_cons_zero,List.getD_cons_succ,List.getD_cons_zero,List.getElem?_toArray,List.getElem?_cons_zero,List.getElem?_cons_succ,true_and,if_true,Bool.false_eq_true,Bool.true_eq_false,if_false,List.length_nil,List.length_singleton,readAt,TK.isAgg,wpStore,get_zero,get_succ,writeAt_one,cells_prim,cells_agg,cells_lst,cells_sref,cells_ptr,cells_clo,cellV_prim,cellV_lst,cellV_sref,cellV_ptr,cellV_clo,List.all_cons,List.all_nil,Bool.and_true,Bool.and_self,List.set_cons_zero,sliceV,Option.map_some,Option.map_none,reduceCtorEq,true_implies,false_implies,and_true,decide_eq_true_eq,decide_eq_false_iff_not,Bool.not_true,Bool.not_false,beq_self_eq_true,not_true_eq_false,not_false_eq_true,decide_true,decide_false,decide_not,Nat.reduceAdd,ty_str,ty_u8,cons_beq_nil,nil_beq_cons,bs_nil,bs_mk,bs_mk2,bs_size,bs_getD,bs_extract,bs_toList,Int.toNat_natCast]
  refine ⟨⟨by omega,by simp only [List.length_cons];omega⟩,fun hb=>⟨⟨by omega,by simp only [List.length_cons];omega,Int.le_refl _⟩,s,?_,?_,by simp⟩,fun hb=> ?_⟩
  ·have e:List.drop (Int.toNat 1) (List.take (b::s).length (b::s))=s:=by simp
   rw [e]
  ·rw [←hs]
   have:b=0:=by simpa [UInt8.toNat_inj,←UInt8.toNat_inj] using hb
   subst this;simp [strip]
  ·simp only [retP,resVs,resV,retV,List.getD_cons_succ,List.getD_cons_zero,view,←hs]
   have:(b==0)=false:=by simpa [←UInt8.toNat_inj] using hb
   simp [strip,this]
end Go.Av
