/- Helping texts: Bg, Bh, Bi, Bj. -/
import Derived.Test.YtkmlhdfpcjkekaaGreatKBd
set_option linter.unusedSimpArgs false
set_option linter.unusedVariables false
set_option maxRecDepth 100000
set_option maxHeartbeats 16000000
namespace Go.Av
open Go.RowKit
open Go.Proofs.Tryz (prog)
theorem strip_le (l:List UInt8):(strip l).length≤l.length:=(List.dropWhile_sublist _).length_le
theorem bval_strip (l:List UInt8):bval (strip l)=bval l:=by
 induction l with
 |nil=>rfl
 |cons b l ih=>
  by_cases h:b=0
  ·subst h
   have:strip (0::l)=strip l:=by simp [strip]
   rw [this,ih,bval_cons];simp
  ·have:strip (b::l)=b::l:=by
    have:(b==0)=false:=by simpa using h
    simp [strip,this]
   rw [this]
theorem strip_top (l:List UInt8):strip l=[]∨256^((strip l).length-1)≤bval (strip l):=by
 induction l with
 |nil=>left;rfl
 |cons b l ih=>
  by_cases h:b=0
  ·subst h
   have:strip (0::l)=strip l:=by simp [strip]
   rw [this];exact ih
  ·have:strip (b::l)=b::l:=by
    have:(b==0)=false:=by simpa using h
    simp [strip,this]
   rw [this]
   right
   rw [bval_cons]
   have hb:1≤b.toNat:=by
    rcases Nat.eq_zero_or_pos b.toNat with h0|h0
    ·exact absurd (UInt8.toNat_inj.1 (by simpa using h0)) h
    ·exact h0
   have:1*256^l.length≤b.toNat*256^l.length:=Nat.mul_le_mul_right _ hb
   simp at*
   omega
theorem load_pc (l:List UInt8) (hl:l.length<2^40):PC prog 188 [.prim (.string (bs l))] (.lst 1 (lw (limbsOf (bval l)))):=by
 refine PCi ?_
 conv in trip _ _=>cbv
 simp only [runT,RN,simprocAttr]
 simp only [wpL_skip,wpL_opsF,wpL_opsT,wpL_seq,wpL_cond,wpL_block,wpL_exit,wpL_goto,wpL_ret,seqQ_normal,seqQ_exit,seqQ_goto,seqQ_ret,blockQ_normal,blockQ_exit,blockQ_goto,blockQ_ret,condP_bool,opsK_eq,opsKD_eq,putT_some,putT_none,wpOps_nil,wpOps_cons,wpOpsD_nil,wpOpsD_cons,footQ_none,footQ_some,wpG_none,wpG_some,gP_bool,gP_undef,ev_tmp,ev_const,ev_func,ev_global,orP_some,slP_some,orV_some,orA_some,wpOp_move,wpOp_assign,wpOp_pick,pickV_eq,wpOp_build,wpOp_binOp,wpOp_unOp,wpOp_makeFunc,wpOp_fieldAddr,wpOp_field,wpOp_indexAddr,wpOp_index,wpOp_slice,wpOp_extract,extractV_tup,wpOp_len,wpOp_cap,wpOp_max,wpOp_min,wpOp_load,wpOp_alloc,wpOp_box,wpOp_makeSlice,wpOp_buildSlice,wpOp_store,wpOp_convert,orE_some,orE_none,wpOpD_move,wpOpD_assign,wpOpD_pick,wpOpD_build,wpOpD_binOp,wpOpD_unOp,wpOpD_convert,wpOpD_makeFunc,wpOpD_fieldAddr,wpOpD_field,wpOpD_indexAddr,wpOpD_index,wpOpD_slice,wpOpD_extract,wpOpD_builtin,wpOpD_load,wpOpD_alloc,wpOpD_box,wpOpD_makeSlice,wpOpD_buildSlice,wpOpD_store,evN,evA,evL,binV,unV,intOfV,lenV,List.set_cons_succ,List.set_cons_zero,List.getD_cons_succ,List.getD_cons_zero,List.getElem?_toArray,List.getElem?_cons_zero,List.getElem?_cons_succ,true_and,if_true,Bool.false_eq_true,Bool.true_eq_false,if_false,List.length_nil,List.length_singleton,readAt,TK.isAgg,wpStore,get_zero,get_succ,writeAt_one,cells_prim,cells_agg,cells_lst,cells_sref,cells_ptr,cells_clo,cellV_prim,cellV_lst,cellV_sref,cellV_ptr,cellV_clo,List.all_cons,List.all_nil,Bool.and_true,Bool.and_self,List.set_cons_zero,sliceV,Option.map_some,Option.map_none,reduceCtorEq,true_implies,false_implies,and_true,decide_eq_true_eq,decide_eq_false_iff_not,Bool.not_true,Bool.not_false,beq_self_eq_true,not_true_eq_false,not_false_eq_true,decide_true,decide_false,decide_not,Nat.reduceAdd,cons_beq_nil,nil_beq_cons,bs_nil,bs_mk,bs_mk2,bs_size,bs_getD,bs_extract,bs_toList,Int.toNat_natCast,foot_move,foot_assign,foot_pick,foot_build,foot_binOp,foot_unOp,foot_makeFunc,foot_fieldAddr,foot_field,foot_indexAddr,foot_index,foot_slice,foot_extract,foot_len,foot_cap,foot_max,foot_min,foot_load,foot_convert,foot_store,foot_alloc,foot_box,foot_makeSlice,foot_buildSlice,foot_append,foot_copy,foot_clear,foot_call,footC_clo,blkOf_prim,blkOf_ivp,blkOf_lst,blkOf_agg,blkOf_tup,blkOf_ptr,blkOf_sref,clash_rr,clash_nl,clash_nr,clash_bef,Nat.testBit_eq_decide_div_mod_eq,touch_prim,touch_lst,touch_agg,touch_tup,touch_clo,touch_ptr,view_prim,view_lst,view_clo,view_agg,view_tup,viewL_nil,viewL_cons,consO_some,viewArgs_nil,viewArgs_cons,wpOp_append,wpOp_copy,appP,copyP,List.any_nil,List.any_cons,Bool.or_self,Bool.or_false,List.flatMap_cons,List.flatMap_nil,List.append_nil,List.nil_append,List.map_cons,List.map_nil]
 refine wp_call rfl (by simp only [ev_tmp,ev_const,ev_func,List.getD_cons_succ,List.getD_cons_zero,foot_move,foot_assign,foot_pick,foot_build,foot_binOp,foot_unOp,foot_makeFunc,foot_fieldAddr,foot_field,foot_indexAddr,foot_index,foot_slice,foot_extract,foot_len,foot_cap,foot_max,foot_min,foot_load,foot_convert,foot_store,foot_alloc,foot_box,foot_makeSlice,foot_buildSlice,foot_append,foot_copy,foot_clear,foot_call,footC_clo,blkOf_prim,blkOf_ivp,blkOf_lst,blkOf_agg,blkOf_tup,blkOf_ptr,blkOf_sref,clash_rr,clash_nl,clash_nr,clash_bef,Nat.testBit_eq_decide_div_mod_eq,touch_prim,touch_lst,touch_agg,touch_tup,touch_clo,touch_ptr,view_prim,view_lst,view_clo,view_agg,view_tup,viewL_nil,viewL_cons,consO_some,viewArgs_nil,viewArgs_cons,wpOp_append,wpOp_copy,appP,copyP,List.any_nil,List.any_cons,Bool.or_self,Bool.or_false,List.flatMap_cons,List.flatMap_nil,List.append_nil,List.nil_append,List.map_cons,List.map_nil,cons_beq_nil,nil_beq_cons,bs_nil,bs_mk,bs_mk2,bs_size,bs_getD,bs_extract,bs_toList,Int.toNat_natCast]) (strip_pc l) (.inl rfl) ?_
 have hs:=strip_le l
 rw [←bval_strip l]
 have ht:=strip_top l
 generalize strip l=s at*
 have e1:IntKind.i64.wrap (((s.length:Nat):Int)+4)=((s.length+4:Nat):Int):=by rw [wrap_i64]<;>omega
 have e2:IntKind.i64.wrap (((s.length+4:Nat):Int)-1)=((s.length+3:Nat):Int):=by rw [wrap_i64]<;>omega
 have e3:IntKind.i64.wrap (((s.length+3:Nat):Int).tdiv 4)=(((s.length+3)/4:Nat):Int):=by
  have:((s.length+3:Nat):Int).tdiv 4=(((s.length+3)/4:Nat):Int):=rfl
  rw [this,wrap_i64]<;>omega
 simp only [wpL_skip,wpL_opsF,wpL_opsT,wpL_seq,wpL_cond,wpL_block,wpL_exit,wpL_goto,wpL_ret,seqQ_normal,seqQ_exit,seqQ_goto,seqQ_ret,blockQ_normal,blockQ_exit,blockQ_goto,blockQ_ret,condP_bool,opsK_eq,opsKD_eq,putT_some,putT_none,wpOps_nil,wpOps_cons,wpOpsD_nil,wpOpsD_cons,footQ_none,footQ_some,wpG_none,wpG_some,gP_bool,gP_undef,ev_tmp,ev_const,ev_func,ev_global,orP_some,slP_some,orV_some,orA_some,wpOp_move,wpOp_assign,wpOp_pick,pickV_eq,wpOp_build,wpOp_binOp,wpOp_unOp,wpOp_makeFunc,wpOp_fieldAddr,wpOp_field,wpOp_indexAddr,wpOp_index,wpOp_slice,wpOp_extract,extractV_tup,wpOp_len,wpOp_cap,wpOp_max,wpOp_min,wpOp_load,wpOp_alloc,wpOp_box,wpOp_makeSlice,wpOp_buildSlice,wpOp_store,wpOp_convert,orE_some,orE_none,wpOpD_move,wpOpD_assign,wpOpD_pick,wpOpD_build,wpOpD_binOp,wpOpD_unOp,wpOpD_convert,wpOpD_makeFunc,wpOpD_fieldAddr,wpOpD_field,wpOpD_indexAddr,wpOpD_index,wpOpD_slice,wpOpD_extract,wpOpD_builtin,wpOpD_load,wpOpD_alloc,wpOpD_box,wpOpD_makeSlice,wpOpD_buildSlice,wpOpD_store,evN,evA,evL,binV,unV,intOfV,lenV,List.set_cons_succ,List.set_cons_zero,List.getD_cons_succ,List.getD_cons_zero,List.getElem?_toArray,List.getElem?_cons_zero,List.getElem?_cons_succ,true_and,if_true,Bool.false_eq_true,Bool.true_eq_false,if_false,List.length_nil,List.length_singleton,readAt,TK.isAgg,wpStore,get_zero,get_succ,writeAt_one,cells_prim,cells_agg,cells_lst,cells_sref,cells_ptr,cells_clo,cellV_prim,cellV_lst,cellV_sref,cellV_ptr,cellV_clo,List.all_cons,List.all_nil,Bool.and_true,Bool.and_self,List.set_cons_zero,sliceV,Option.map_some,Option.map_none,reduceCtorEq,true_implies,false_implies,and_true,decide_eq_true_eq,decide_eq_false_iff_not,Bool.not_true,Bool.not_false,beq_self_eq_true,not_true_eq_false,not_false_eq_true,decide_true,decide_false,decide_not,Nat.reduceAdd,ty_limbs,ty_int,ty_w,ty_str,cons_beq_nil,nil_beq_cons,bs_nil,bs_mk,bs_mk2,bs_size,bs_getD,bs_extract,bs_toList,Int.toNat_natCast,foot_move,foot_assign,foot_pick,foot_build,foot_binOp,foot_unOp,foot_makeFunc,foot_fieldAddr,foot_field,foot_indexAddr,foot_index,foot_slice,foot_extract,foot_len,foot_cap,foot_max,foot_min,foot_load,foot_convert,foot_store,foot_alloc,foot_box,foot_makeSlice,foot_buildSlice,foot_append,foot_copy,foot_clear,foot_call,footC_clo,blkOf_prim,blkOf_ivp,blkOf_lst,blkOf_agg,blkOf_tup,blkOf_ptr,blkOf_sref,clash_rr,clash_nl,clash_nr,clash_bef,Nat.testBit_eq_decide_div_mod_eq,touch_prim,touch_lst,touch_agg,touch_tup,touch_clo,touch_ptr,view_prim,view_lst,view_clo,view_agg,view_tup,viewL_nil,viewL_cons,consO_some,viewArgs_nil,viewArgs_cons,wpOp_append,wpOp_copy,appP,copyP,List.any_nil,List.any_cons,Bool.or_self,Bool.or_false,List.flatMap_cons,List.flatMap_nil,List.append_nil,List.nil_append,List.map_cons,List.map_nil,e1,e2,e3]
 refine ⟨by decide,⟨by omega,Int.le_refl _,by omega⟩,?_⟩
 refine wp_loop (fun (x:Nat×List Nat) J=> .prim (.string (bs s))::J 1:: .prim (.slice none 0 0):: .sref 0 0 ((s.length+3)/4) ((s.length+3)/4) 1 true::J 4::J 5::J 6::J 7::J 8::J 9::J 10::J 11::J 12::J 13::J 14:: .prim (.int .i64 ((s.length:Nat):Int)):: .prim (.int .i64 ((x.1:Nat):Int))::J 17::J 18::J 19::J 20::J 21::J 22::J 23::J 24::J 25::J 26::J 27::J 28::J 29::J 30::J 31::J 32::J 33::J 34::J 35::J 36::J 37::J 38::J 39::J 40::[])
  (fun x H=>x.1≤s.length∧x.2.length=(s.length+3)/4∧Limb x.2∧lval x.2=bval (s.drop (s.length-x.1))∧H=[some (.row 1 true (lw x.2))]) (fun x=>s.length-x.1) (0,List.replicate ((s.length+3)/4) 0) rfl ?_ ?_
 ·refine ⟨Nat.zero_le _,by simp,?_,?_,by rw [lw_zeros]⟩
  ·intro x hx;rw [(List.mem_replicate.1 hx).2];decide
  ·have:∀ n,lval (List.replicate n 0)=0:=by intro n;induction n with
    |zero=>rfl
    |succ n ih=>simp [List.replicate_succ,lval,ih]
   rw [this];simp [bval]
 rintro ⟨i,out⟩ J _ ⟨hi,hlen,hL,hv,rfl⟩
 try conv in ov _ _ _ _=>simp only [ov,List.lookup,RO,simprocAttr]
 simp only at hi hlen hv hL ⊢
 rcases Nat.lt_or_ge i s.length with hlt|hge
 ·have c1:((((i:Nat):Int)<((s.length:Nat):Int)))=True:=by simp;omega
  have e4:IntKind.i64.wrap (((s.length:Nat):Int)-1)=((s.length-1:Nat):Int):=by rw [wrap_i64]<;>omega
  have e5:IntKind.i64.wrap (((s.length-1:Nat):Int)-((i:Nat):Int))=((s.length-1-i:Nat):Int):=by rw [wrap_i64]<;>omega
  have e6:IntKind.i64.wrap (((i:Nat):Int).tdiv 4)=((i/4:Nat):Int):=by
   have:((i:Nat):Int).tdiv 4=((i/4:Nat):Int):=rfl
   rw [this,wrap_i64]<;>omega
  have e7:((i:Nat):Int).tmod 4=((i%4:Nat):Int):=rfl
  have e8:IntKind.i64.wrap (8*((i%4:Nat):Int))=((8*(i%4):Nat):Int):=by rw [wrap_i64]<;>omega
  have e9:IntKind.i64.wrap (((i:Nat):Int)+1)=((i+1:Nat):Int):=by rw [wrap_i64]<;>omega
  have g1:=lw_getD (l:=out) (k:=i/4) (by omega)
  have g2:=lw_get (l:=out) (k:=i/4) (by omega)
  simp only [wpL_skip,wpL_opsF,wpL_opsT,wpL_seq,wpL_cond,wpL_block,wpL_exit,wpL_goto,wpL_ret,seqQ_normal,seqQ_exit,seqQ_goto,seqQ_ret,blockQ_normal,blockQ_exit,blockQ_goto,blockQ_ret,condP_bool,opsK_eq,opsKD_eq,putT_some,putT_none,wpOps_nil,wpOps_cons,wpOpsD_nil,wpOpsD_cons,footQ_none,footQ_some,wpG_none,wpG_some,gP_bool,gP_undef,ev_tmp,ev_const,ev_func,ev_global,orP_some,slP_some,orV_some,orA_some,wpOp_move,wpOp_assign,wpOp_pick,pickV_eq,wpOp_build,wpOp_binOp,wpOp_unOp,wpOp_makeFunc,wpOp_fieldAddr,wpOp_field,wpOp_indexAddr,wpOp_index,wpOp_slice,wpOp_extract,extractV_tup,wpOp_len,wpOp_cap,wpOp_max,wpOp_min,wpOp_load,wpOp_alloc,wpOp_box,wpOp_makeSlice,wpOp_buildSlice,wpOp_store,wpOp_convert,orE_some,orE_none,wpOpD_move,wpOpD_assign,wpOpD_pick,wpOpD_build,wpOpD_binOp,wpOpD_unOp,wpOpD_convert,wpOpD_makeFunc,wpOpD_fieldAddr,wpOpD_field,wpOpD_indexAddr,wpOpD_index,wpOpD_slice,wpOpD_extract,wpOpD_builtin,wpOpD_load,wpOpD_alloc,wpOpD_box,wpOpD_makeSlice,wpOpD_buildSlice,wpOpD_store,evN,evA,evL,binV,unV,intOfV,lenV,List.set_cons_succ,List.set_cons_zero,List.getD_cons_succ,List.getD_cons_zero,List.getElem?_toArray,List.getElem?_cons_zero,List.getElem?_cons_succ,true_and,if_true,Bool.false_eq_true,Bool.true_eq_false,if_false,List.length_nil,List.length_singleton,readAt,TK.isAgg,wpStore,get_zero,get_succ,writeAt_one,cells_prim,cells_agg,cells_lst,cells_sref,cells_ptr,cells_clo,cellV_prim,cellV_lst,cellV_sref,cellV_ptr,cellV_clo,List.all_cons,List.all_nil,Bool.and_true,Bool.and_self,List.set_cons_zero,sliceV,Option.map_some,Option.map_none,reduceCtorEq,true_implies,false_implies,and_true,decide_eq_true_eq,decide_eq_false_iff_not,Bool.not_true,Bool.not_false,beq_self_eq_true,not_true_eq_false,not_false_eq_true,decide_true,decide_false,decide_not,Nat.reduceAdd,ty_limbs,ty_int,ty_w,ty_u8,ty_str,cons_beq_nil,nil_beq_cons,bs_nil,bs_mk,bs_mk2,bs_size,bs_getD,bs_extract,bs_toList,Int.toNat_natCast,foot_move,foot_assign,foot_pick,foot_build,foot_binOp,foot_unOp,foot_makeFunc,foot_fieldAddr,foot_field,foot_indexAddr,foot_index,foot_slice,foot_extract,foot_len,foot_cap,foot_max,foot_min,foot_load,foot_convert,foot_store,foot_alloc,foot_box,foot_makeSlice,foot_buildSlice,foot_append,foot_copy,foot_clear,foot_call,footC_clo,blkOf_prim,blkOf_ivp,blkOf_lst,blkOf_agg,blkOf_tup,blkOf_ptr,blkOf_sref,clash_rr,clash_nl,clash_nr,clash_bef,Nat.testBit_eq_decide_div_mod_eq,touch_prim,touch_lst,touch_agg,touch_tup,touch_clo,touch_ptr,view_prim,view_lst,view_clo,view_agg,view_tup,viewL_nil,viewL_cons,consO_some,viewArgs_nil,viewArgs_cons,wpOp_append,wpOp_copy,appP,copyP,List.any_nil,List.any_cons,Bool.or_self,Bool.or_false,List.flatMap_cons,List.flatMap_nil,List.append_nil,List.nil_append,List.map_cons,List.map_nil,e4,e5,e6,e7,e8,e9,c1,Nat.zero_add,g2]
  have hb:(s.getD (s.length-1-i) 0).toNat<256:=UInt8.toNat_lt _
  have hdr:s.drop (s.length-(i+1))=s.getD (s.length-1-i) 0::s.drop (s.length-i):=by
   rw [List.drop_eq_getElem_cons (by omega),List.getD_eq_getElem?_getD,List.getElem?_eq_getElem (by omega)]
   rw [show s.length-(i+1)+1=s.length-i by omega]
   congr 1
   rw [Option.getD_some];congr 1;omega
  have hbv:bval (s.drop (s.length-(i+1)))=(s.getD (s.length-1-i) 0).toNat*256^i+bval (s.drop (s.length-i)):=by
   rw [hdr,bval_cons,List.length_drop,show s.length-(s.length-i)=i by omega]
  have hvl:bval (s.drop (s.length-i))<256^i:=by
   have:=bval_lt (s.drop (s.length-i))
   rwa [List.length_drop,show s.length-(s.length-i)=i by omega] at this
  generalize (s.getD (s.length-1-i) 0).toNat=b at*
  have hpow:256^i=4294967296^(i/4)*2^(8*(i%4)):=by
   rw [show (256:Nat)=2^8 by decide,show (4294967296:Nat)=2^32 by decide,←Nat.pow_mul,←Nat.pow_mul,←Nat.pow_add]
   congr 1;omega
  have hge:=lval_ge out (i/4) (by omega)
  have ho:out.getD (i/4) 0<2^(8*(i%4)):=by
   rw [hv] at hge
   rw [hpow] at hvl
   exact Nat.lt_of_mul_lt_mul_left (a:=4294967296^(i/4)) (by omega)
  have hset:=lval_set out (i/4) (out.getD (i/4) 0+b*2^(8*(i%4))) (by omega)
  have hr:8*(i%4)≤24:=by omega
  have hp24:2^(8*(i%4))≤2^24:=Nat.pow_le_pow_right (by decide) hr
  have hx:out.getD (i/4) 0+b*2^(8*(i%4))<4294967296:=by
   have:b*2^(8*(i%4))≤255*2^(8*(i%4)):=Nat.mul_le_mul_right _ (by omega)
   omega
  have f1:IntKind.u32.wrap ((b:Nat):Int)=((b:Nat):Int):=wrap_u32 (by omega) (by omega)
  have f2:IntKind.u32.wrap (((b:Nat):Int)*2^min (8*(i%4)) IntKind.u32.bits)=((b*2^(8*(i%4)):Nat):Int):=by
   rw [show min (8*(i%4)) IntKind.u32.bits=8*(i%4) by simp only [IntKind.bits];omega]
   have e:((b:Nat):Int)*2^(8*(i%4))=((b*2^(8*(i%4)):Nat):Int):=by push_cast;rfl
   rw [e];exact wrap_u32 (by omega) (by omega)
  have f3:(BitVec.ofInt IntKind.u32.bits ((out.getD (i/4) 0:Nat):Int)|||BitVec.ofInt IntKind.u32.bits ((b*2^(8*(i%4)):Nat):Int)).toNat=out.getD (i/4) 0+b*2^(8*(i%4)):=by
   rw [bv_or,show 2^IntKind.u32.bits=4294967296 from rfl,Nat.mod_eq_of_lt (a:=out.getD (i/4) 0) (by omega),Nat.mod_eq_of_lt (a:=b*2^(8*(i%4))) (by omega),Nat.or_comm,or_add _ _ _ ho,Nat.add_comm]
  rw [f1,f2,f3,wrap_u32 (x:=((out.getD (i/4) 0+b*2^(8*(i%4)):Nat):Int)) (by omega) (by omega)]
  refine ⟨by decide,⟨by omega,by omega⟩,⟨by omega,by omega⟩,by decide,by omega,⟨by omega,by omega⟩,Nat.le_refl _,(i+1,out.set (i/4) (out.getD (i/4) 0+b*2^(8*(i%4)))),rfl,⟨by simp only;omega,by simp only [List.length_set];exact hlen,hL.set _ hx,?_,by rw [lw_set]⟩,by simp only;omega⟩
  try simp only
  rw [hbv,hpow,←hv]
  rw [Nat.mul_add] at hset
  have:b*(4294967296^(i/4)*2^(8*(i%4)))=4294967296^(i/4)*(b*2^(8*(i%4))):=by grind
  omega
 ·have c1:((((i:Nat):Int)<((s.length:Nat):Int)))=False:=by simp;omega
  have e1:i=s.length:=by omega
  have e2:out=limbsOf (bval s):=by
   have:lval out=bval s:=by rw [hv,e1];simp
   rw [←this]
   refine limbs_of hL ?_
   rcases ht with rfl|ht
   ·left;simpa using hlen
   ·right
    rw [this]
    refine Nat.le_trans ?_ ht
    rw [hlen,show (4294967296:Nat)=256^4 by decide,←Nat.pow_mul]
    exact Nat.pow_le_pow_right (by decide) (by omega)
  simp only [wpL_skip,wpL_opsF,wpL_opsT,wpL_seq,wpL_cond,wpL_block,wpL_exit,wpL_goto,wpL_ret,seqQ_normal,seqQ_exit,seqQ_goto,seqQ_ret,blockQ_normal,blockQ_exit,blockQ_goto,blockQ_ret,condP_bool,opsK_eq,opsKD_eq,putT_some,putT_none,wpOps_nil,wpOps_cons,wpOpsD_nil,wpOpsD_cons,footQ_none,footQ_some,wpG_none,wpG_some,gP_bool,gP_undef,ev_tmp,ev_const,ev_func,ev_global,orP_some,slP_some,orV_some,orA_some,wpOp_move,wpOp_assign,wpOp_pick,pickV_eq,wpOp_build,wpOp_binOp,wpOp_unOp,wpOp_makeFunc,wpOp_fieldAddr,wpOp_field,wpOp_indexAddr,wpOp_index,wpOp_slice,wpOp_extract,extractV_tup,wpOp_len,wpOp_cap,wpOp_max,wpOp_min,wpOp_load,wpOp_alloc,wpOp_box,wpOp_makeSlice,wpOp_buildSlice,wpOp_store,wpOp_convert,orE_some,orE_none,wpOpD_move,wpOpD_assign,wpOpD_pick,wpOpD_build,wpOpD_binOp,wpOpD_unOp,wpOpD_convert,wpOpD_makeFunc,wpOpD_fieldAddr,wpOpD_field,wpOpD_indexAddr,wpOpD_index,wpOpD_slice,wpOpD_extract,wpOpD_builtin,wpOpD_load,wpOpD_alloc,wpOpD_box,wpOpD_makeSlice,wpOpD_buildSlice,wpOpD_store,evN,evA,evL,binV,unV,intOfV,lenV,List.set_cons_succ,List.set_cons_zero,List.getD_cons_succ,List.getD_cons_zero,List.getElem?_toArray,List.getElem?_cons_zero,List.getElem?_cons_succ,true_and,if_true,Bool.false_eq_true,Bool.true_eq_false,if_false,List.length_nil,List.length_singleton,readAt,TK.isAgg,wpStore,get_zero,get_succ,writeAt_one,cells_prim,cells_agg,cells_lst,cells_sref,cells_ptr,cells_clo,cellV_prim,cellV_lst,cellV_sref,cellV_ptr,cellV_clo,List.all_cons,List.all_nil,Bool.and_true,Bool.and_self,List.set_cons_zero,sliceV,Option.map_some,Option.map_none,reduceCtorEq,true_implies,false_implies,and_true,decide_eq_true_eq,decide_eq_false_iff_not,Bool.not_true,Bool.not_false,beq_self_eq_true,not_true_eq_false,not_false_eq_true,decide_true,decide_false,decide_not,Nat.reduceAdd,ty_limbs,ty_int,ty_w,ty_u8,ty_str,cons_beq_nil,nil_beq_cons,bs_nil,bs_mk,bs_mk2,bs_size,bs_getD,bs_extract,bs_toList,Int.toNat_natCast,foot_move,foot_assign,foot_pick,foot_build,foot_binOp,foot_unOp,foot_makeFunc,foot_fieldAddr,foot_field,foot_indexAddr,foot_index,foot_slice,foot_extract,foot_len,foot_cap,foot_max,foot_min,foot_load,foot_convert,foot_store,foot_alloc,foot_box,foot_makeSlice,foot_buildSlice,foot_append,foot_copy,foot_clear,foot_call,footC_clo,blkOf_prim,blkOf_ivp,blkOf_lst,blkOf_agg,blkOf_tup,blkOf_ptr,blkOf_sref,clash_rr,clash_nl,clash_nr,clash_bef,Nat.testBit_eq_decide_div_mod_eq,touch_prim,touch_lst,touch_agg,touch_tup,touch_clo,touch_ptr,view_prim,view_lst,view_clo,view_agg,view_tup,viewL_nil,viewL_cons,consO_some,viewArgs_nil,viewArgs_cons,wpOp_append,wpOp_copy,appP,copyP,List.any_nil,List.any_cons,Bool.or_self,Bool.or_false,List.flatMap_cons,List.flatMap_nil,List.append_nil,List.nil_append,List.map_cons,List.map_nil,c1]
  have hle:0+(s.length+3)/4≤(lw out).length:=by rw [lw_length];omega
  have hvw:∀ l:List Nat,view.viewLL [some (Blk.row 1 true (lw out))] 8 (lw l)=some (lw l):=by
   intro l
   induction l with
   |nil=>simp [lw,view.viewLL]
   |cons x l ih=>simp only [lw,List.map_cons,view.viewLL] at ih ⊢;rw [ih];simp [view.viewL,view]
  simp only [retP,resVs,resV,retV,List.getD_cons_succ,List.getD_cons_zero,view,get_zero,if_pos hle,List.drop_zero]
  rw [List.take_of_length_le (by rw [lw_length];omega),hvw,e2];rfl
end Go.Av
namespace Go.Av
open Go.RowKit
open Go.Proofs.Tryz (prog)
def Buf (H:Hp) (v:V) (sz:Nat) (es:List (List V)):Prop:=
 (es=[]∧v= .prim (.slice none 0 0))∨∃ b,v= .sref b 0 es.length es.length sz false∧get H b=some (.row sz true es)
theorem Buf.app {H:Hp} {v:V} {sz:Nat} {es:List (List V)} (h:Buf H v sz es) (l:Hp):Buf (H++l) v sz es:=by
 rcases h with h|⟨b,h1,h2⟩
 ·exact .inl h
 ·exact .inr ⟨b,h1,get_app h2⟩
theorem Buf.append {P:Program} {H:Hp} {v:V} {ei:TyI} {es ys:List (List V)} {K:V→Hp→Prop} (h:Buf H v ei.sz es) (hy:∀ y∈ys,∀ v∈y,cellV v=true) (h1:(es.length+ys.length)*ei.bytes≤2^47) (h2:es.length+ys.length≤2^60)
 (hK:∀ v' H',Buf H' v' ei.sz (es++ys)→(∀ b k,get H b=some k→b∉blkOf v→get H' b=some k)→K v' H'):wpAppend P H ei v ys K:=by
 refine ⟨hy,?_⟩
 rcases h with ⟨rfl,rfl⟩|⟨b,rfl,hg⟩
 ·simp only [List.length_nil,Nat.zero_add] at h1 h2
  refine ⟨fun e=>hK _ _ (by subst e;exact .inl ⟨rfl,rfl⟩) (fun _ _ h _=>h),fun _=>⟨h1,h2,hK _ _ (.inr ⟨H.length,by simp,by rw [get_app_len];simp⟩) (fun _ _ h _=>get_app h)⟩⟩
 ·simp only [hg]
  refine ⟨trivial,by omega,?_⟩
  rcases Nat.eq_zero_or_pos ys.length with h0|h0
  ·left
   have:ys=[]:=List.length_eq_zero_iff.1 h0
   subst this
   refine ⟨by simp,by simp,trivial,?_⟩
   have e:splice es (0+es.length) []=es:=by simp [splice]
   rw [e]
   have e2:H.set b (some (.row ei.sz true es))=H:=by
    refine List.ext_getElem? fun c=> ?_
    rw [List.getElem?_set]
    split
    ·rename_i hc
     subst hc
     have:=get_lt hg
     rw [if_pos this]
     simp only [get,List.getElem?_eq_getElem this,Option.join_some] at hg ⊢
     rw [hg]
    ·rfl
   rw [e2]
   exact hK _ _ (.inr ⟨b,by simp,by simpa using hg⟩) (fun _ _ h _=>h)
  ·right;right
   have hl:(H.set b none).length=H.length:=by simp
   refine ⟨by simp,by simp,h1,h2,hK _ _ (.inr ⟨H.length,by simp,?_⟩) ?_⟩
   ·rw [←hl,get_app_len];simp
   ·intro c k hc hne
    refine get_app ?_
    rw [get_set_ne (by simpa [blkOf] using hne)];exact hc
def digitsOf (n:Nat):List UInt8:=if h:n=0 then [] else digitsOf (n/256)++[UInt8.ofNat (n%256)]
termination_by n
decreasing_by omega
theorem digitsOf_zero:digitsOf 0=[]:=by unfold digitsOf;simp
theorem digitsOf_pos {n:Nat} (h:n≠0):digitsOf n=digitsOf (n/256)++[UInt8.ofNat (n%256)]:=by
 rw [digitsOf];simp [h]
theorem strip_append (l:List UInt8) (b:UInt8):strip (l++[b])=if strip l=[]∧b=0 then [] else strip l++[b]:=by
 unfold strip
 rw [List.dropWhile_append]
 cases h:List.dropWhile (fun x=>x==0) l with
 |nil=>by_cases hb:b=0<;>simp [h,hb]
 |cons x m=>simp [h]
theorem snoc_ind {α:Type} {p:List α→Prop} (h0:p []) (h1:∀ l x,p l→p (l++[x])) (l:List α):p l:=by
 have:∀ m:List α,p m.reverse:=by
  intro m
  induction m with
  |nil=>exact h0
  |cons x m ih=>rw [List.reverse_cons];exact h1 _ _ ih
 have:=this l.reverse
 simpa using this
theorem strip_eq (l:List UInt8):strip l=digitsOf (bval l):=by
 induction l using snoc_ind with
 |h0=>rw [bval_nil,digitsOf_zero];rfl
 |h1 l b ih=>
  rw [strip_append,ih,bval_append]
  have hb:=b.toNat_lt
  by_cases hz:bval l*256+b.toNat=0
  ·have h1:bval l=0:=by omega
   have h2:b=0:=UInt8.toNat_inj.1 (by simp;omega)
   rw [h1,digitsOf_zero,h2];simp [digitsOf_zero]
  ·rw [digitsOf_pos hz,if_neg]
   ·have e1:(bval l*256+b.toNat)/256=bval l:=by omega
    have e2:(bval l*256+b.toNat)%256=b.toNat:=by omega
    rw [e1,e2];simp
   ·rintro ⟨ha,rfl⟩
    have:bval l=0:=by
     rw [←bval_strip,ih,ha];rfl
    simp [this] at hz
theorem bval_digitsOf (n:Nat):bval (digitsOf n)=n:=by
 induction n using Nat.strongRecOn with
 |ind n ih=>
  by_cases h:n=0
  ·subst h;rw [digitsOf_zero];rfl
  ·rw [digitsOf_pos h,bval_append,ih _ (by omega)]
   have:(UInt8.ofNat (n%256)).toNat=n%256:=by simp
   rw [this];omega
def bw (l:List UInt8):List (List V):=l.map fun b=>[.prim (.int .u8 ((b.toNat:Nat):Int))]
theorem bytesOf_bw (l:List UInt8):bytesOf (bw l)=some l:=by
 induction l with
 |nil=>rfl
 |cons b l ih=>simp only [bw,List.map_cons,bytesOf] at ih ⊢;rw [ih];simp
def lbytes:List Nat→List UInt8
 |[]=>[]
 |x::l=>lbytes l++[UInt8.ofNat (x/16777216%256),UInt8.ofNat (x/65536%256),UInt8.ofNat (x/256%256),UInt8.ofNat (x%256)]
theorem bval_lbytes {l:List Nat} (h:Limb l):bval (lbytes l)=lval l:=by
 induction l with
 |nil=>rfl
 |cons x l ih=>
  have h0:=h x (List.mem_cons_self ..)
  have h1:=ih (fun y hy=>h y (List.mem_cons_of_mem _ hy))
  simp only [lbytes,lval]
  have:bval (lbytes l++[UInt8.ofNat (x/16777216%256),UInt8.ofNat (x/65536%256),UInt8.ofNat (x/256%256),UInt8.ofNat (x%256)])=bval (lbytes l++[UInt8.ofNat (x/16777216%256)]++[UInt8.ofNat (x/65536%256)]++[UInt8.ofNat (x/256%256)]++[UInt8.ofNat (x%256)]):=by simp
  rw [this]
  simp only [bval_append,h1]
  simp
  omega
end Go.Av
namespace Go.Av
open Go.RowKit
open Go.Proofs.Tryz (prog)
theorem ty_bytes:tyOf prog 241 =some ⟨1,24,[.slice none 0 0],.slice 5,false⟩:=by kernel_rfl
theorem bw_length (l:List UInt8):(bw l).length=l.length:=by simp [bw]
theorem lbytes_length (l:List Nat):(lbytes l).length=4*l.length:=by
 induction l with
 |nil=>rfl
 |cons x l ih=>simp [lbytes,ih];omega
theorem added_sl {P:Program} {H:Hp} {ei:TyI} {t:TypeId} {i:TyI} {x:V} {e:TypeId} (ht:tyOf P t=some i) (hk:i.k= .slice e):added P H ei (some t) x=(elemsOf H ei.sz x).map fun es=>(True,es):=by
 simp only [added,ht,hk]
theorem store_pc (l:List Nat) (hl:l.length<2^40) (hL:Limb l):PC prog 225 [.lst 1 (lw l)] (.prim (.string (bs (digitsOf (lval l))))):=by
 refine PCi ?_
 conv in trip _ _=>cbv
 simp only [runT,RN,simprocAttr]
 have e1:IntKind.i64.wrap (((l.length:Nat):Int)-1)=((l.length:Nat):Int)-1:=by rw [wrap_i64]<;>omega
 simp only [wpL_skip,wpL_opsF,wpL_opsT,wpL_seq,wpL_cond,wpL_block,wpL_exit,wpL_goto,wpL_ret,seqQ_normal,seqQ_exit,seqQ_goto,seqQ_ret,blockQ_normal,blockQ_exit,blockQ_goto,blockQ_ret,condP_bool,opsK_eq,opsKD_eq,putT_some,putT_none,wpOps_nil,wpOps_cons,wpOpsD_nil,wpOpsD_cons,footQ_none,footQ_some,wpG_none,wpG_some,gP_bool,gP_undef,ev_tmp,ev_const,ev_func,ev_global,orP_some,slP_some,orV_some,orA_some,wpOp_move,wpOp_assign,wpOp_pick,pickV_eq,wpOp_build,wpOp_binOp,wpOp_unOp,wpOp_makeFunc,wpOp_fieldAddr,wpOp_field,wpOp_indexAddr,wpOp_index,wpOp_slice,wpOp_extract,extractV_tup,wpOp_len,wpOp_cap,wpOp_max,wpOp_min,wpOp_load,wpOp_alloc,wpOp_box,wpOp_makeSlice,wpOp_buildSlice,wpOp_store,wpOp_convert,orE_some,orE_none,wpOpD_move,wpOpD_assign,wpOpD_pick,wpOpD_build,wpOpD_binOp,wpOpD_unOp,wpOpD_convert,wpOpD_makeFunc,wpOpD_fieldAddr,wpOpD_field,wpOpD_indexAddr,wpOpD_index,wpOpD_slice,wpOpD_extract,wpOpD_builtin,wpOpD_load,wpOpD_alloc,wpOpD_box,wpOpD_makeSlice,wpOpD_buildSlice,wpOpD_store,evN,evA,evL,binV,unV,intOfV,lenV,List.set_cons_succ,List.set_cons_zero,List.getD_cons_succ,List.getD_cons_zero,List.getElem?_toArray,List.getElem?_cons_zero,List.getElem?_cons_succ,true_and,if_true,Bool.false_eq_true,Bool.true_eq_false,if_false,List.length_nil,List.length_singleton,readAt,TK.isAgg,wpStore,get_zero,get_succ,writeAt_one,cells_prim,cells_agg,cells_lst,cells_sref,cells_ptr,cells_clo,cellV_prim,cellV_lst,cellV_sref,cellV_ptr,cellV_clo,List.all_cons,List.all_nil,Bool.and_true,Bool.and_self,List.set_cons_zero,sliceV,Option.map_some,Option.map_none,reduceCtorEq,true_implies,false_implies,and_true,decide_eq_true_eq,decide_eq_false_iff_not,Bool.not_true,Bool.not_false,beq_self_eq_true,not_true_eq_false,not_false_eq_true,decide_true,decide_false,decide_not,Nat.reduceAdd,cons_beq_nil,nil_beq_cons,bs_nil,bs_mk,bs_mk2,bs_size,bs_getD,bs_extract,bs_toList,Int.toNat_natCast,foot_move,foot_assign,foot_pick,foot_build,foot_binOp,foot_unOp,foot_makeFunc,foot_fieldAddr,foot_field,foot_indexAddr,foot_index,foot_slice,foot_extract,foot_len,foot_cap,foot_max,foot_min,foot_load,foot_convert,foot_store,foot_alloc,foot_box,foot_makeSlice,foot_buildSlice,foot_append,foot_copy,foot_clear,foot_call,footC_clo,blkOf_prim,blkOf_ivp,blkOf_lst,blkOf_agg,blkOf_tup,blkOf_ptr,blkOf_sref,clash_rr,clash_nl,clash_nr,clash_bef,Nat.testBit_eq_decide_div_mod_eq,touch_prim,touch_lst,touch_agg,touch_tup,touch_clo,touch_ptr,view_prim,view_lst,view_clo,view_agg,view_tup,viewL_nil,viewL_cons,consO_some,viewArgs_nil,viewArgs_cons,wpOp_append,wpOp_copy,appP,copyP,List.any_nil,List.any_cons,Bool.or_self,Bool.or_false,List.flatMap_cons,List.flatMap_nil,List.append_nil,List.nil_append,List.map_cons,List.map_nil,ty_limbs,lw_length,e1]
 refine wp_loop (fun (x:Nat×V) J=> .lst 1 (lw l)::J 1:: .prim (.string (bs ([])))::x.2:: .prim (.int .i64 ((x.1:Int)-1))::J 5::J 6::J 7::J 8::J 9::J 10::J 11::J 12::J 13::J 14::J 15::J 16::J 17::J 18::J 19::J 20::J 21::J 22::J 23::J 24::J 25::J 26::J 27::J 28::J 29::J 30::J 31::J 32::J 33::J 34::J 35::J 36::J 37::J 38::J 39::J 40::[])
  (fun x H=>x.1≤l.length∧Buf H x.2 1 (bw (lbytes (l.drop x.1)))) (fun x=>x.1) (l.length,.prim (.slice none 0 0)) rfl ⟨Nat.le_refl _,.inl ⟨by simp [lbytes,bw],rfl⟩⟩ ?_
 rintro ⟨k,v⟩ J H ⟨hk,hB⟩
 try conv in ov _ _ _ _=>simp only [ov,List.lookup,RO,simprocAttr]
 simp only at hk hB ⊢
 rcases k with _|k
 ·have c1:((((0:Nat):Int)-1)≥(0:Int))=False:=by simp
  have e4:digitsOf (lval l)=strip (lbytes l):=by rw [strip_eq,bval_lbytes hL]
  rw [List.drop_zero] at hB
  have fin:∀ (a b:V),wpL prog LC.skip [a] H (fun _ _ _=>True):=fun a b=>by simp only [wpL_skip]
  rcases hB with ⟨h0,rfl⟩|⟨b,rfl,hg⟩
  ·have hl0:lbytes l=[]:=by simpa [bw] using h0
   simp only [wpL_skip,wpL_opsF,wpL_opsT,wpL_seq,wpL_cond,wpL_block,wpL_exit,wpL_goto,wpL_ret,seqQ_normal,seqQ_exit,seqQ_goto,seqQ_ret,blockQ_normal,blockQ_exit,blockQ_goto,blockQ_ret,condP_bool,opsK_eq,opsKD_eq,putT_some,putT_none,wpOps_nil,wpOps_cons,wpOpsD_nil,wpOpsD_cons,footQ_none,footQ_some,wpG_none,wpG_some,gP_bool,gP_undef,ev_tmp,ev_const,ev_func,ev_global,orP_some,slP_some,orV_some,orA_some,wpOp_move,wpOp_assign,wpOp_pick,pickV_eq,wpOp_build,wpOp_binOp,wpOp_unOp,wpOp_makeFunc,wpOp_fieldAddr,wpOp_field,wpOp_indexAddr,wpOp_index,wpOp_slice,wpOp_extract,extractV_tup,wpOp_len,wpOp_cap,wpOp_max,wpOp_min,wpOp_load,wpOp_alloc,wpOp_box,wpOp_makeSlice,wpOp_buildSlice,wpOp_store,wpOp_convert,orE_some,orE_none,wpOpD_move,wpOpD_assign,wpOpD_pick,wpOpD_build,wpOpD_binOp,wpOpD_unOp,wpOpD_convert,wpOpD_makeFunc,wpOpD_fieldAddr,wpOpD_field,wpOpD_indexAddr,wpOpD_index,wpOpD_slice,wpOpD_extract,wpOpD_builtin,wpOpD_load,wpOpD_alloc,wpOpD_box,wpOpD_makeSlice,wpOpD_buildSlice,wpOpD_store,evN,evA,evL,binV,unV,intOfV,lenV,List.set_cons_succ,List.set_cons_zero,List.getD_cons_succ,List.getD_cons_zero,List.getElem?_toArray,List.getElem?_cons_zero,List.getElem?_cons_succ,true_and,if_true,Bool.false_eq_true,Bool.true_eq_false,if_false,List.length_nil,List.length_singleton,readAt,TK.isAgg,wpStore,get_zero,get_succ,writeAt_one,cells_prim,cells_agg,cells_lst,cells_sref,cells_ptr,cells_clo,cellV_prim,cellV_lst,cellV_sref,cellV_ptr,cellV_clo,List.all_cons,List.all_nil,Bool.and_true,Bool.and_self,List.set_cons_zero,sliceV,Option.map_some,Option.map_none,reduceCtorEq,true_implies,false_implies,and_true,decide_eq_true_eq,decide_eq_false_iff_not,Bool.not_true,Bool.not_false,beq_self_eq_true,not_true_eq_false,not_false_eq_true,decide_true,decide_false,decide_not,Nat.reduceAdd,ty_limbs,ty_int,ty_w,ty_u8,ty_str,ty_bytes,cons_beq_nil,nil_beq_cons,bs_nil,bs_mk,bs_mk2,bs_size,bs_getD,bs_extract,bs_toList,Int.toNat_natCast,foot_move,foot_assign,foot_pick,foot_build,foot_binOp,foot_unOp,foot_makeFunc,foot_fieldAddr,foot_field,foot_indexAddr,foot_index,foot_slice,foot_extract,foot_len,foot_cap,foot_max,foot_min,foot_load,foot_convert,foot_store,foot_alloc,foot_box,foot_makeSlice,foot_buildSlice,foot_append,foot_copy,foot_clear,foot_call,footC_clo,blkOf_prim,blkOf_ivp,blkOf_lst,blkOf_agg,blkOf_tup,blkOf_ptr,blkOf_sref,clash_rr,clash_nl,clash_nr,clash_bef,Nat.testBit_eq_decide_div_mod_eq,touch_prim,touch_lst,touch_agg,touch_tup,touch_clo,touch_ptr,view_prim,view_lst,view_clo,view_agg,view_tup,viewL_nil,viewL_cons,consO_some,viewArgs_nil,viewArgs_cons,wpOp_append,wpOp_copy,appP,copyP,List.any_nil,List.any_cons,Bool.or_self,Bool.or_false,List.flatMap_cons,List.flatMap_nil,List.append_nil,List.nil_append,List.map_cons,List.map_nil,c1,elemsOf,bytesOf,bs_mk,bs_mk2]
   refine wp_call rfl (by simp only [ev_tmp,ev_const,ev_func,List.getD_cons_succ,List.getD_cons_zero,foot_move,foot_assign,foot_pick,foot_build,foot_binOp,foot_unOp,foot_makeFunc,foot_fieldAddr,foot_field,foot_indexAddr,foot_index,foot_slice,foot_extract,foot_len,foot_cap,foot_max,foot_min,foot_load,foot_convert,foot_store,foot_alloc,foot_box,foot_makeSlice,foot_buildSlice,foot_append,foot_copy,foot_clear,foot_call,footC_clo,blkOf_prim,blkOf_ivp,blkOf_lst,blkOf_agg,blkOf_tup,blkOf_ptr,blkOf_sref,clash_rr,clash_nl,clash_nr,clash_bef,Nat.testBit_eq_decide_div_mod_eq,touch_prim,touch_lst,touch_agg,touch_tup,touch_clo,touch_ptr,view_prim,view_lst,view_clo,view_agg,view_tup,viewL_nil,viewL_cons,consO_some,viewArgs_nil,viewArgs_cons,wpOp_append,wpOp_copy,appP,copyP,List.any_nil,List.any_cons,Bool.or_self,Bool.or_false,List.flatMap_cons,List.flatMap_nil,List.append_nil,List.nil_append,List.map_cons,List.map_nil,cons_beq_nil,nil_beq_cons,bs_nil,bs_mk,bs_mk2,bs_size,bs_getD,bs_extract,bs_toList,Int.toNat_natCast]) (strip_pc []) (.inl rfl) ?_
   simp only [wpL_skip,wpL_opsF,wpL_opsT,wpL_seq,wpL_cond,wpL_block,wpL_exit,wpL_goto,wpL_ret,seqQ_normal,seqQ_exit,seqQ_goto,seqQ_ret,blockQ_normal,blockQ_exit,blockQ_goto,blockQ_ret,condP_bool,opsK_eq,opsKD_eq,putT_some,putT_none,wpOps_nil,wpOps_cons,wpOpsD_nil,wpOpsD_cons,footQ_none,footQ_some,wpG_none,wpG_some,gP_bool,gP_undef,ev_tmp,ev_const,ev_func,ev_global,orP_some,slP_some,orV_some,orA_some,wpOp_move,wpOp_assign,wpOp_pick,pickV_eq,wpOp_build,wpOp_binOp,wpOp_unOp,wpOp_makeFunc,wpOp_fieldAddr,wpOp_field,wpOp_indexAddr,wpOp_index,wpOp_slice,wpOp_extract,extractV_tup,wpOp_len,wpOp_cap,wpOp_max,wpOp_min,wpOp_load,wpOp_alloc,wpOp_box,wpOp_makeSlice,wpOp_buildSlice,wpOp_store,wpOp_convert,orE_some,orE_none,wpOpD_move,wpOpD_assign,wpOpD_pick,wpOpD_build,wpOpD_binOp,wpOpD_unOp,wpOpD_convert,wpOpD_makeFunc,wpOpD_fieldAddr,wpOpD_field,wpOpD_indexAddr,wpOpD_index,wpOpD_slice,wpOpD_extract,wpOpD_builtin,wpOpD_load,wpOpD_alloc,wpOpD_box,wpOpD_makeSlice,wpOpD_buildSlice,wpOpD_store,evN,evA,evL,binV,unV,intOfV,lenV,List.set_cons_succ,List.set_cons_zero,List.getD_cons_succ,List.getD_cons_zero,List.getElem?_toArray,List.getElem?_cons_zero,List.getElem?_cons_succ,true_and,if_true,Bool.false_eq_true,Bool.true_eq_false,if_false,List.length_nil,List.length_singleton,readAt,TK.isAgg,wpStore,get_zero,get_succ,writeAt_one,cells_prim,cells_agg,cells_lst,cells_sref,cells_ptr,cells_clo,cellV_prim,cellV_lst,cellV_sref,cellV_ptr,cellV_clo,List.all_cons,List.all_nil,Bool.and_true,Bool.and_self,List.set_cons_zero,sliceV,Option.map_some,Option.map_none,reduceCtorEq,true_implies,false_implies,and_true,decide_eq_true_eq,decide_eq_false_iff_not,Bool.not_true,Bool.not_false,beq_self_eq_true,not_true_eq_false,not_false_eq_true,decide_true,decide_false,decide_not,Nat.reduceAdd,cons_beq_nil,nil_beq_cons,bs_nil,bs_mk,bs_mk2,bs_size,bs_getD,bs_extract,bs_toList,Int.toNat_natCast]
   simp only [retP,resVs,resV,retV,List.getD_cons_succ,List.getD_cons_zero,view,e4,hl0]
  ·simp only [wpL_skip,wpL_opsF,wpL_opsT,wpL_seq,wpL_cond,wpL_block,wpL_exit,wpL_goto,wpL_ret,seqQ_normal,seqQ_exit,seqQ_goto,seqQ_ret,blockQ_normal,blockQ_exit,blockQ_goto,blockQ_ret,condP_bool,opsK_eq,opsKD_eq,putT_some,putT_none,wpOps_nil,wpOps_cons,wpOpsD_nil,wpOpsD_cons,footQ_none,footQ_some,wpG_none,wpG_some,gP_bool,gP_undef,ev_tmp,ev_const,ev_func,ev_global,orP_some,slP_some,orV_some,orA_some,wpOp_move,wpOp_assign,wpOp_pick,pickV_eq,wpOp_build,wpOp_binOp,wpOp_unOp,wpOp_makeFunc,wpOp_fieldAddr,wpOp_field,wpOp_indexAddr,wpOp_index,wpOp_slice,wpOp_extract,extractV_tup,wpOp_len,wpOp_cap,wpOp_max,wpOp_min,wpOp_load,wpOp_alloc,wpOp_box,wpOp_makeSlice,wpOp_buildSlice,wpOp_store,wpOp_convert,orE_some,orE_none,wpOpD_move,wpOpD_assign,wpOpD_pick,wpOpD_build,wpOpD_binOp,wpOpD_unOp,wpOpD_convert,wpOpD_makeFunc,wpOpD_fieldAddr,wpOpD_field,wpOpD_indexAddr,wpOpD_index,wpOpD_slice,wpOpD_extract,wpOpD_builtin,wpOpD_load,wpOpD_alloc,wpOpD_box,wpOpD_makeSlice,wpOpD_buildSlice,wpOpD_store,evN,evA,evL,binV,unV,intOfV,lenV,List.set_cons_succ,List.set_cons_zero,List.getD_cons_succ,List.getD_cons_zero,List.getElem?_toArray,List.getElem?_cons_zero,List.getElem?_cons_succ,true_and,if_true,Bool.false_eq_true,Bool.true_eq_false,if_false,List.length_nil,List.length_singleton,readAt,TK.isAgg,wpStore,get_zero,get_succ,writeAt_one,cells_prim,cells_agg,cells_lst,cells_sref,cells_ptr,cells_clo,cellV_prim,cellV_lst,cellV_sref,cellV_ptr,cellV_clo,List.all_cons,List.all_nil,Bool.and_true,Bool.and_self,List.set_cons_zero,sliceV,Option.map_some,Option.map_none,reduceCtorEq,true_implies,false_implies,and_true,decide_eq_true_eq,decide_eq_false_iff_not,Bool.not_true,Bool.not_false,beq_self_eq_true,not_true_eq_false,not_false_eq_true,decide_true,decide_false,decide_not,Nat.reduceAdd,ty_limbs,ty_int,ty_w,ty_u8,ty_str,ty_bytes,cons_beq_nil,nil_beq_cons,bs_nil,bs_mk,bs_mk2,bs_size,bs_getD,bs_extract,bs_toList,Int.toNat_natCast,foot_move,foot_assign,foot_pick,foot_build,foot_binOp,foot_unOp,foot_makeFunc,foot_fieldAddr,foot_field,foot_indexAddr,foot_index,foot_slice,foot_extract,foot_len,foot_cap,foot_max,foot_min,foot_load,foot_convert,foot_store,foot_alloc,foot_box,foot_makeSlice,foot_buildSlice,foot_append,foot_copy,foot_clear,foot_call,footC_clo,blkOf_prim,blkOf_ivp,blkOf_lst,blkOf_agg,blkOf_tup,blkOf_ptr,blkOf_sref,clash_rr,clash_nl,clash_nr,clash_bef,Nat.testBit_eq_decide_div_mod_eq,touch_prim,touch_lst,touch_agg,touch_tup,touch_clo,touch_ptr,view_prim,view_lst,view_clo,view_agg,view_tup,viewL_nil,viewL_cons,consO_some,viewArgs_nil,viewArgs_cons,wpOp_append,wpOp_copy,appP,copyP,List.any_nil,List.any_cons,Bool.or_self,Bool.or_false,List.flatMap_cons,List.flatMap_nil,List.append_nil,List.nil_append,List.map_cons,List.map_nil,c1,elemsOf,hg,Nat.zero_add,Nat.le_refl,and_self,List.drop_zero,List.take_length,bytesOf_bw]
   refine wp_call rfl (by simp only [ev_tmp,ev_const,ev_func,List.getD_cons_succ,List.getD_cons_zero,foot_move,foot_assign,foot_pick,foot_build,foot_binOp,foot_unOp,foot_makeFunc,foot_fieldAddr,foot_field,foot_indexAddr,foot_index,foot_slice,foot_extract,foot_len,foot_cap,foot_max,foot_min,foot_load,foot_convert,foot_store,foot_alloc,foot_box,foot_makeSlice,foot_buildSlice,foot_append,foot_copy,foot_clear,foot_call,footC_clo,blkOf_prim,blkOf_ivp,blkOf_lst,blkOf_agg,blkOf_tup,blkOf_ptr,blkOf_sref,clash_rr,clash_nl,clash_nr,clash_bef,Nat.testBit_eq_decide_div_mod_eq,touch_prim,touch_lst,touch_agg,touch_tup,touch_clo,touch_ptr,view_prim,view_lst,view_clo,view_agg,view_tup,viewL_nil,viewL_cons,consO_some,viewArgs_nil,viewArgs_cons,wpOp_append,wpOp_copy,appP,copyP,List.any_nil,List.any_cons,Bool.or_self,Bool.or_false,List.flatMap_cons,List.flatMap_nil,List.append_nil,List.nil_append,List.map_cons,List.map_nil,cons_beq_nil,nil_beq_cons,bs_nil,bs_mk,bs_mk2,bs_size,bs_getD,bs_extract,bs_toList,Int.toNat_natCast]) (strip_pc (lbytes l)) (.inl rfl) ?_
   simp only [wpL_skip,wpL_opsF,wpL_opsT,wpL_seq,wpL_cond,wpL_block,wpL_exit,wpL_goto,wpL_ret,seqQ_normal,seqQ_exit,seqQ_goto,seqQ_ret,blockQ_normal,blockQ_exit,blockQ_goto,blockQ_ret,condP_bool,opsK_eq,opsKD_eq,putT_some,putT_none,wpOps_nil,wpOps_cons,wpOpsD_nil,wpOpsD_cons,footQ_none,footQ_some,wpG_none,wpG_some,gP_bool,gP_undef,ev_tmp,ev_const,ev_func,ev_global,orP_some,slP_some,orV_some,orA_some,wpOp_move,wpOp_assign,wpOp_pick,pickV_eq,wpOp_build,wpOp_binOp,wpOp_unOp,wpOp_makeFunc,wpOp_fieldAddr,wpOp_field,wpOp_indexAddr,wpOp_index,wpOp_slice,wpOp_extract,extractV_tup,wpOp_len,wpOp_cap,wpOp_max,wpOp_min,wpOp_load,wpOp_alloc,wpOp_box,wpOp_makeSlice,wpOp_buildSlice,wpOp_store,wpOp_convert,orE_some,orE_none,wpOpD_move,wpOpD_assign,wpOpD_pick,wpOpD_build,wpOpD_binOp,wpOpD_unOp,wpOpD_convert,wpOpD_makeFunc,wpOpD_fieldAddr,wpOpD_field,wpOpD_indexAddr,wpOpD_index,wpOpD_slice,wpOpD_extract,wpOpD_builtin,wpOpD_load,wpOpD_alloc,wpOpD_box,wpOpD_makeSlice,wpOpD_buildSlice,wpOpD_store,evN,evA,evL,binV,unV,intOfV,lenV,List.set_cons_succ,List.set_cons_zero,List.getD_cons_succ,List.getD_cons_zero,List.getElem?_toArray,List.getElem?_cons_zero,List.getElem?_cons_succ,true_and,if_true,Bool.false_eq_true,Bool.true_eq_false,if_false,List.length_nil,List.length_singleton,readAt,TK.isAgg,wpStore,get_zero,get_succ,writeAt_one,cells_prim,cells_agg,cells_lst,cells_sref,cells_ptr,cells_clo,cellV_prim,cellV_lst,cellV_sref,cellV_ptr,cellV_clo,List.all_cons,List.all_nil,Bool.and_true,Bool.and_self,List.set_cons_zero,sliceV,Option.map_some,Option.map_none,reduceCtorEq,true_implies,false_implies,and_true,decide_eq_true_eq,decide_eq_false_iff_not,Bool.not_true,Bool.not_false,beq_self_eq_true,not_true_eq_false,not_false_eq_true,decide_true,decide_false,decide_not,Nat.reduceAdd,cons_beq_nil,nil_beq_cons,bs_nil,bs_mk,bs_mk2,bs_size,bs_getD,bs_extract,bs_toList,Int.toNat_natCast]
   simp only [retP,resVs,resV,retV,List.getD_cons_succ,List.getD_cons_zero,view,e4]
 ·have c1:(((k:Nat):Int)≥(0:Int))=True:=by simp
  have e3:((k+1:Nat):Int)-1=((k:Nat):Int):=by omega
  have e6:IntKind.i64.wrap (((k:Nat):Int)-1)=((k:Nat):Int)-1:=by rw [wrap_i64]<;>omega
  have g1:=lw_getD (l:=l) (k:=k) (by omega)
  have hx:=hL.getD k
  have hdr:=drop_step l (k:=k) (by omega)
  generalize l.getD k 0=x at*
  have s1:((x:Nat):Int).fdiv (2^min (Int.toNat 24) IntKind.u32.bits)=((x/16777216:Nat):Int):=by
   show ((x:Nat):Int).fdiv ((16777216:Nat):Int)=_
   rw [Int.fdiv_eq_ediv_of_nonneg _ (by omega)];rfl
  have s2:((x:Nat):Int).fdiv (2^min (Int.toNat 16) IntKind.u32.bits)=((x/65536:Nat):Int):=by
   show ((x:Nat):Int).fdiv ((65536:Nat):Int)=_
   rw [Int.fdiv_eq_ediv_of_nonneg _ (by omega)];rfl
  have s3:((x:Nat):Int).fdiv (2^min (Int.toNat 8) IntKind.u32.bits)=((x/256:Nat):Int):=by
   show ((x:Nat):Int).fdiv ((256:Nat):Int)=_
   rw [Int.fdiv_eq_ediv_of_nonneg _ (by omega)];rfl
  have had:∀ (H:Hp) (ei:TyI) (x:V),added prog H ei (some 241) x=(elemsOf H ei.sz x).map fun es=>(True,es):=fun H ei x=>added_sl ty_bytes rfl
  simp only [wpL_skip,wpL_opsF,wpL_opsT,wpL_seq,wpL_cond,wpL_block,wpL_exit,wpL_goto,wpL_ret,seqQ_normal,seqQ_exit,seqQ_goto,seqQ_ret,blockQ_normal,blockQ_exit,blockQ_goto,blockQ_ret,condP_bool,opsK_eq,opsKD_eq,putT_some,putT_none,wpOps_nil,wpOps_cons,wpOpsD_nil,wpOpsD_cons,footQ_none,footQ_some,wpG_none,wpG_some,gP_bool,gP_undef,ev_tmp,ev_const,ev_func,ev_global,orP_some,slP_some,orV_some,orA_some,wpOp_move,wpOp_assign,wpOp_pick,pickV_eq,wpOp_build,wpOp_binOp,wpOp_unOp,wpOp_makeFunc,wpOp_fieldAddr,wpOp_field,wpOp_indexAddr,wpOp_index,wpOp_slice,wpOp_extract,extractV_tup,wpOp_len,wpOp_cap,wpOp_max,wpOp_min,wpOp_load,wpOp_alloc,wpOp_box,wpOp_makeSlice,wpOp_buildSlice,wpOp_store,wpOp_convert,orE_some,orE_none,wpOpD_move,wpOpD_assign,wpOpD_pick,wpOpD_build,wpOpD_binOp,wpOpD_unOp,wpOpD_convert,wpOpD_makeFunc,wpOpD_fieldAddr,wpOpD_field,wpOpD_indexAddr,wpOpD_index,wpOpD_slice,wpOpD_extract,wpOpD_builtin,wpOpD_load,wpOpD_alloc,wpOpD_box,wpOpD_makeSlice,wpOpD_buildSlice,wpOpD_store,evN,evA,evL,binV,unV,intOfV,lenV,List.set_cons_succ,List.set_cons_zero,List.getD_cons_succ,List.getD_cons_zero,List.getElem?_toArray,List.getElem?_cons_zero,List.getElem?_cons_succ,true_and,if_true,Bool.false_eq_true,Bool.true_eq_false,if_false,List.length_nil,List.length_singleton,readAt,TK.isAgg,wpStore,get_zero,get_succ,writeAt_one,cells_prim,cells_agg,cells_lst,cells_sref,cells_ptr,cells_clo,cellV_prim,cellV_lst,cellV_sref,cellV_ptr,cellV_clo,List.all_cons,List.all_nil,Bool.and_true,Bool.and_self,List.set_cons_zero,sliceV,Option.map_some,Option.map_none,reduceCtorEq,true_implies,false_implies,and_true,decide_eq_true_eq,decide_eq_false_iff_not,Bool.not_true,Bool.not_false,beq_self_eq_true,not_true_eq_false,not_false_eq_true,decide_true,decide_false,decide_not,Nat.reduceAdd,ty_limbs,ty_int,ty_w,ty_u8,ty_str,ty_bytes,cons_beq_nil,nil_beq_cons,bs_nil,bs_mk,bs_mk2,bs_size,bs_getD,bs_extract,bs_toList,Int.toNat_natCast,foot_move,foot_assign,foot_pick,foot_build,foot_binOp,foot_unOp,foot_makeFunc,foot_fieldAddr,foot_field,foot_indexAddr,foot_index,foot_slice,foot_extract,foot_len,foot_cap,foot_max,foot_min,foot_load,foot_convert,foot_store,foot_alloc,foot_box,foot_makeSlice,foot_buildSlice,foot_append,foot_copy,foot_clear,foot_call,footC_clo,blkOf_prim,blkOf_ivp,blkOf_lst,blkOf_agg,blkOf_tup,blkOf_ptr,blkOf_sref,clash_rr,clash_nl,clash_nr,clash_bef,Nat.testBit_eq_decide_div_mod_eq,touch_prim,touch_lst,touch_agg,touch_tup,touch_clo,touch_ptr,view_prim,view_lst,view_clo,view_agg,view_tup,viewL_nil,viewL_cons,consO_some,viewArgs_nil,viewArgs_cons,wpOp_append,wpOp_copy,appP,copyP,List.any_nil,List.any_cons,Bool.or_self,Bool.or_false,List.flatMap_cons,List.flatMap_nil,List.append_nil,List.nil_append,List.map_cons,List.map_nil,c1,e3,e6,g1,s1,s2,s3,wrap_nat_u8,List.foldl_cons,List.foldl_nil,List.replicate_succ,List.replicate_zero,List.length_cons,Nat.reduceLT,lw_length,had,elemsOf,get_app_len,Nat.reduceLeDiff,and_self,List.drop_zero,List.take_succ_cons,List.take_zero,Nat.zero_add]
  refine ⟨by omega,by decide,by omega,by decide,by omega,by decide,by omega,by decide,?_⟩
  have hbl:(bw (lbytes (l.drop (k+1)))).length≤4*l.length:=by rw [bw_length,lbytes_length,List.length_drop];omega
  refine Buf.append (hB.app _) (by simp [cellV]) (by simp only [List.length_cons,List.length_nil];omega) (by simp only [List.length_cons,List.length_nil];omega) ?_
  intro v' H' hB' _
  simp only [wpL_skip,wpL_opsF,wpL_opsT,wpL_seq,wpL_cond,wpL_block,wpL_exit,wpL_goto,wpL_ret,seqQ_normal,seqQ_exit,seqQ_goto,seqQ_ret,blockQ_normal,blockQ_exit,blockQ_goto,blockQ_ret,condP_bool,opsK_eq,opsKD_eq,putT_some,putT_none,wpOps_nil,wpOps_cons,wpOpsD_nil,wpOpsD_cons,footQ_none,footQ_some,wpG_none,wpG_some,gP_bool,gP_undef,ev_tmp,ev_const,ev_func,ev_global,orP_some,slP_some,orV_some,orA_some,wpOp_move,wpOp_assign,wpOp_pick,pickV_eq,wpOp_build,wpOp_binOp,wpOp_unOp,wpOp_makeFunc,wpOp_fieldAddr,wpOp_field,wpOp_indexAddr,wpOp_index,wpOp_slice,wpOp_extract,extractV_tup,wpOp_len,wpOp_cap,wpOp_max,wpOp_min,wpOp_load,wpOp_alloc,wpOp_box,wpOp_makeSlice,wpOp_buildSlice,wpOp_store,wpOp_convert,orE_some,orE_none,wpOpD_move,wpOpD_assign,wpOpD_pick,wpOpD_build,wpOpD_binOp,wpOpD_unOp,wpOpD_convert,wpOpD_makeFunc,wpOpD_fieldAddr,wpOpD_field,wpOpD_indexAddr,wpOpD_index,wpOpD_slice,wpOpD_extract,wpOpD_builtin,wpOpD_load,wpOpD_alloc,wpOpD_box,wpOpD_makeSlice,wpOpD_buildSlice,wpOpD_store,evN,evA,evL,binV,unV,intOfV,lenV,List.set_cons_succ,List.set_cons_zero,List.getD_cons_succ,List.getD_cons_zero,List.getElem?_toArray,List.getElem?_cons_zero,List.getElem?_cons_succ,true_and,if_true,Bool.false_eq_true,Bool.true_eq_false,if_false,List.length_nil,List.length_singleton,readAt,TK.isAgg,wpStore,get_zero,get_succ,writeAt_one,cells_prim,cells_agg,cells_lst,cells_sref,cells_ptr,cells_clo,cellV_prim,cellV_lst,cellV_sref,cellV_ptr,cellV_clo,List.all_cons,List.all_nil,Bool.and_true,Bool.and_self,List.set_cons_zero,sliceV,Option.map_some,Option.map_none,reduceCtorEq,true_implies,false_implies,and_true,decide_eq_true_eq,decide_eq_false_iff_not,Bool.not_true,Bool.not_false,beq_self_eq_true,not_true_eq_false,not_false_eq_true,decide_true,decide_false,decide_not,Nat.reduceAdd,ty_int,cons_beq_nil,nil_beq_cons,bs_nil,bs_mk,bs_mk2,bs_size,bs_getD,bs_extract,bs_toList,Int.toNat_natCast,foot_move,foot_assign,foot_pick,foot_build,foot_binOp,foot_unOp,foot_makeFunc,foot_fieldAddr,foot_field,foot_indexAddr,foot_index,foot_slice,foot_extract,foot_len,foot_cap,foot_max,foot_min,foot_load,foot_convert,foot_store,foot_alloc,foot_box,foot_makeSlice,foot_buildSlice,foot_append,foot_copy,foot_clear,foot_call,footC_clo,blkOf_prim,blkOf_ivp,blkOf_lst,blkOf_agg,blkOf_tup,blkOf_ptr,blkOf_sref,clash_rr,clash_nl,clash_nr,clash_bef,Nat.testBit_eq_decide_div_mod_eq,touch_prim,touch_lst,touch_agg,touch_tup,touch_clo,touch_ptr,view_prim,view_lst,view_clo,view_agg,view_tup,viewL_nil,viewL_cons,consO_some,viewArgs_nil,viewArgs_cons,wpOp_append,wpOp_copy,appP,copyP,List.any_nil,List.any_cons,Bool.or_self,Bool.or_false,List.flatMap_cons,List.flatMap_nil,List.append_nil,List.nil_append,List.map_cons,List.map_nil,e6]
  refine ⟨(k,v'),rfl,⟨by simp only;omega,?_⟩,by simp only;omega⟩
  have e7:bw (lbytes (l.drop k))=bw (lbytes (l.drop (k+1)))++[[.prim (.int .u8 ((x/16777216%256:Nat):Int))],[.prim (.int .u8 ((x/65536%256:Nat):Int))],[.prim (.int .u8 ((x/256%256:Nat):Int))],[.prim (.int .u8 ((x%256:Nat):Int))]]:=by
   rw [hdr];simp [lbytes,bw]
  rw [e7];exact hB'
end Go.Av
namespace Go.Av
open Go.RowKit
open Go.Proofs.Tryz (prog)
theorem SC_freezeB {P:Program} {H:Hp} {f:FuncId} {args vs:List V} {r:V} {K:V→Hp→Prop} {b:Nat} {k:Blk} (hg:get H b=some k) (hv:viewArgs (List.replicate b none++[some k]) args=some vs) (hp:PC P f vs r) (hK:K r (H.set b none)):SC P f args H K:=by
 intro φ I w xs hS hxs
 have hget:∀ c q,get (List.replicate b none++[some k]) c=some q→c=b∧q=k:=by
  intro c q h
  unfold get at h
  rw [List.getElem?_append] at h
  split at h
  ·rename_i hc;rw [List.getElem?_replicate] at h;split at h<;>cases h
  ·rename_i hc
   simp only [List.length_replicate] at hc h
   rcases Nat.lt_or_ge b c with h1|h1
   ·rw [List.getElem?_eq_none (by simp;omega)] at h;cases h
   ·have:c=b:=by omega
    subst this
    simp at h
    exact ⟨rfl,h.symm⟩
 have hlt:=get_lt hg
 have hS1:SR φ I (List.replicate b none++[some k]++List.replicate (H.length-b-1) none) w:=by
  have hgp:∀ c q,get (List.replicate b none++[some k]++List.replicate (H.length-b-1) none) c=some q→get H c=some q:=by
   intro c q h
   rw [get_pad] at h
   obtain ⟨rfl,rfl⟩:=hget c q h
   exact hg
  exact ⟨fun c L h=>⟨by have:=(hS.dom c L h).1;simp;omega,(hS.dom c L h).2⟩,hS.imm,fun c L q h hk=>hS.blk c L q h (hgp c q hk),fun c c' L L' q q' h1 h2 h3 h4=>hS.inj c c' L L' q q' h1 h2 (hgp c q h3) (hgp c' q' h4)⟩
 have hOwn:∀ B,Own φ (List.replicate b none++[some k]) B→Own φ H B:=by
  rintro B ⟨c,L,q,h1,h2,h3,h4⟩
  obtain ⟨rfl,rfl⟩:=hget c q h2
  exact ⟨c,L,q,h1,hg,h3,h4⟩
 have hI:∀ B,(I B∨Own φ (List.replicate b none++[some k]) B)→B<w.heap.size:=fun B h=>h.elim (hS.imm B) (fun h=>hS.own_lt (hOwn B h))
 have hv2:viewArgs (List.replicate b none++[some k]++List.replicate (H.length-b-1) none) args=some vs:=by
  rw [←hv];exact (viewArgs_cong args (fun c _=>(get_pad _ _ c).symm)).symm
 obtain ⟨q1,q2⟩:=viewArgs_get hv2
 have hargs:VRs (fun _=>none) (fun B=>I B∨Own φ (List.replicate b none++[some k]) B) w vs xs:=⟨by rw [q1,hxs.len],fun j v x h1 h2=>by
  obtain ⟨v1,hv1,hvv⟩:=get_back q1 q2 h1
  refine view_VR (fun _ h=> .inl h) hS1 9 v1 v x hvv (hxs.at_ j v1 x hv1 h2) (.inr fun c L q h hk=> ?_)
  rw [get_pad] at hk
  cases ho:q.own with
  |true=>exact .inr ⟨c,L,q,h,hk,ho,rfl⟩
  |false=>
   obtain ⟨rfl,rfl⟩:=hget c q hk
   have hb:=hS.blk c L q h hg
   cases q with
   |row sz m es=>
    left
    have hm:m=false:=ho
    subst hm
    exact Classical.byContradiction fun hn=>by have:=hb.2.2.2.2.2 hn;cases this
   |loop l=>cases ho
   |mp l=>cases ho⟩
 obtain ⟨h1,h2⟩:=hp _ w xs hI hargs
 refine ⟨h1,h2.mono ?_⟩
 rintro e w' ⟨x,rfl,hx,hb⟩
 obtain ⟨s1,t1⟩:=hS.kill (b:=b) hlt
 rw [setH_lt _ hlt] at s1 t1
 have nown:∀ B,Own φ (H.set b none) B→¬Own φ (List.replicate b none++[some k]) B:=by
  rintro B ⟨c,L,q,g1,g2,g3,g4⟩ ⟨c',L',q',g1',g2',g3',g4'⟩
  obtain ⟨rfl,rfl⟩:=hget c' q' g2'
  by_cases e:c=c'
  ·subst e;rw [get_set_same hg] at g2;cases g2
  ·rw [get_set_ne e] at g2
   exact e (hS.inj c c' L L' q q' g1 g1' g2 hg g3 g3' (g4.trans g4'.symm))
 have hsh:∀ B s,w.shape? B=some s→w'.shape? B=some s:=fun B s hs=>by
  have hB:B<w.heap.size:=by
   rcases Nat.lt_or_ge B w.heap.size with h|h
   ·exact h
   ·simp [World.shape?,Array.getElem?_eq_none h] at hs
  rw [shape_of_block (hb.block B hB)];exact hs
 have hIs:∀ B,I B→w'.heap[B]? =w.heap[B]? :=fun B h=>hb.block B (hS.imm B h)
 refine ⟨x,r,_,φ,fun B=>(I B∨Own φ (List.replicate b none++[some k]) B)∨(w.heap.size≤B∧B<w'.heap.size),rfl,hK,hx.any,
  ⟨fun c L h=>⟨(s1.dom c L h).1,Nat.lt_of_lt_of_le (s1.dom c L h).2 hb.size⟩,fun B h=> ?_,fun c L q h hk=> ?_,s1.inj⟩,
  ⟨hb.os,hb.tape,hb.output,hb.size,fun B hB _=>hb.block B hB,hsh,fun _ _ h=>h,fun _ _ h=> .inl h,fun B h=> .inl (.inl h),fun B h hlt=> ?_,fun B hB h=> ?_⟩⟩
 ·rcases h with h|h
  ·exact Nat.lt_of_lt_of_le (hI B h) hb.size
  ·exact h.2
 ·have hbk:=s1.blk c L q h hk
  have hbn:¬I L.B→¬((I L.B∨Own φ (List.replicate b none++[some k]) L.B)∨(w.heap.size≤L.B∧L.B<w'.heap.size)):=by
   intro hn h5
   have ho:q.own=true:=by
    cases q with
    |row sz m es=>exact hbk.2.2.2.2.2 hn
    |loop l=>rfl
    |mp l=>rfl
   rcases h5 with (h5|h5)|h5
   ·exact hn h5
   ·exact nown _ ⟨c,L,q,h,hk,ho,rfl⟩ h5
   ·have:=(s1.dom c L h).2;omega
  exact hbk.mono (fun _ _ h=>h) (fun _ h=> .inl (.inl h)) hIs hsh (hb.block _ (s1.dom c L h).2) (fun h5=>Classical.byContradiction fun hn=>hbn hn h5)
 ·rcases h with (h|h)|h
  ·exact .inl h
  ·exact .inr (hOwn B h)
  ·exact absurd hlt (by omega)
 ·obtain ⟨c,L,q,h1,h2,h3,h4⟩:=h
  by_cases e:c=b
  ·subst e;rw [get_set_same hg] at h2;cases h2
  ·rw [get_set_ne e] at h2;exact ⟨c,L,q,h1,h2,h3,h4⟩
theorem viewLL_lw {H:Hp} {n:Nat}:∀ l:List Nat,view.viewLL H (n+1) (lw l)=some (lw l):=by
 intro l
 induction l with
 |nil=>simp [lw,view.viewLL]
 |cons x l ih=>simp only [lw,List.map_cons,view.viewLL] at ih ⊢;rw [ih];simp [view.viewL,view]
theorem view_own {H:Hp} {b o n c sz:Nat} {fx m:Bool} {es:List (List V)} {x:List Nat} {j:Nat} (hg:get H b=some (.row sz m es)) (h:o+n≤es.length) (hx:(es.drop o).take n=lw x):view H (j+2) (.sref b o n c sz fx)=some (.lst sz (lw x)):=by
 simp only [view,hg,if_pos h,hx,viewLL_lw,Option.map_some]
theorem get_single {b:Nat} {k:Blk}:get (List.replicate b none++[some k]) b=some k:=by
 have:b=(List.replicate b (none:Option Blk)).length:=by simp
 conv=>lhs;rw [this]
 simp only [List.length_replicate]
 unfold get
 rw [List.getElem?_append_right (by simp)]
 simp
theorem trim_sc {H:Hp} {b o n c:Nat} {fx m:Bool} {es:List (List V)} {x:List Nat} {K:V→Hp→Prop} (hg:get H b=some (.row 1 m es)) (h:o+n≤es.length) (hx:(es.drop o).take n=lw x) (hn:x.length<2^40) (hL:Limb x)
 (hK:K (.lst 1 (lw (limbsOf (lval x)))) (H.set b none)):SC prog 224 [.sref b o n c 1 fx] H K:=by
 refine SC_freezeB hg (vs:=[.lst 1 (lw x)]) ?_ (trim_pc x hn) (by rw [trim_eq hL];exact hK)
 simp only [viewArgs]
 rw [view_own get_single h hx]
end Go.Av
