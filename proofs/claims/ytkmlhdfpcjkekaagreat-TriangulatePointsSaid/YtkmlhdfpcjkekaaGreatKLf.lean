/- Helping texts: Lf, Ob. -/
import Derived.Test.YtkmlhdfpcjkekaaGreatKLa
import Derived.Test.YtkmlhdfpcjkekaaGreatKNa
import Derived.Test.YtkmlhdfpcjkekaaGreatKMm
set_option linter.unusedSimpArgs false
set_option linter.unusedVariables false
set_option maxRecDepth 100000
set_option maxHeartbeats 16000000
namespace Go.Av
open Go.RowKit
open Go.Proofs.Tryz (prog)
theorem addD_length (D:Sg→Bool×Int) (out:List Sg) (s:Sg):(addD D out s).length≤out.length+1:=by
 unfold addD;split<;>simp
theorem diagsOf_length (D:Sg→Bool×Int) (l:List Pt):∀ m,(diagsOf D l m).length≤m.length:=by
 intro m
 have:∀ (m:List (Nat×Nat)) (out:List Sg),(m.foldl (fun out x=>addD D out (prS l x)) out).length≤out.length+m.length:=by
  intro m
  induction m with
  |nil=>intro out;simp
  |cons x m ih=>intro out;have:=ih (addD D out (prS l x));have:=addD_length D out (prS l x);simp only [List.foldl_cons,List.length_cons];omega
 have:=this m []
 simpa [diagsOf] using this
def lsV (l:List Sg):V:=if l=[] then .prim (.slice none 0 0) else ssV l
theorem diagonals_pc (L:List Pt) (Hs:List (List Pt)) (l:List Pt) (G:Sg→Bool×Int) (hD:∀ s,hs s≤2^16→PC prog 17 [cgV L Hs,sgV s] (.tup [.prim (.bool (G s).1),.prim (.int .i64 ((G s).2))]))
 (hl0:hl l (2^16)) (hn:l.length≤12):PC prog 53 [cgV L Hs,psV l] (lsV (diagsOf G l (pairsTo l.length l.length))):=by
 refine PCi ?_
 conv in trip _ _=>cbv
 simp only [runT,RN,simprocAttr]
 simp (disch:=omega) only [↓RS,RZ,simprocAttr,cgV,psV]
 refine call_sc (pairs_sc l ?_)
 simp (disch:=omega) only [↓RS,RZ,simprocAttr,psV]
 refine wp_rf mixed (n:=3) (k:=1) rfl rfl rfl (by kernel_rfl) ?_
 conv in lcC _=>cbv
 conv in lcC _=>cbv
 intro R B D hR hyc
 simp only [List.nil_append,List.cons_append] at hyc ⊢
 refine pairs1_sc l (by omega) (fun m H=>∃ v,get H 0=some (.row 2 true [[psV L,.lst 1 ((Hs.map psV).map fun v=>[v])]])∧get H 1=some (.row 1 true [[v]])∧get H 2=some (.row 1 true [[psV l]])∧get H 3=some R∧Bufn 4 H v 12 ((diagsOf G l m).map sgc)∧(diagsOf G l m=[]→v= .prim (.slice none 0 0))∧∀ t∈diagsOf G l m,hs t≤2^16) ?_ ?_ ?_ ?_ ?_
 ·rintro m H ⟨v,i0,i1,i2,i3,i4,_⟩
  exact ⟨i2,get_lt_len i2⟩
 ·rintro m H k ⟨v,i0,i1,i2,i3,i4,i5⟩
  exact ⟨v,get_app i0,get_app i1,get_app i2,get_app i3,i4.app _,i5⟩
 ·rintro m i k H c hik hk hm ⟨v,i0,i1,i2,i3,i4,i6,i5⟩ hbc hc
  have hs1:hs (prS l (i,k))≤2^16:=hs_prS hl0 (by omega) hk
  have dg:=hD _ hs1
  have hml:=diagsOf_length G l m
  have hm2:m.length≤144:=Nat.le_trans hm (Nat.mul_le_mul hn hn)
  have hsn:diagsOf G l (m++[(i,k)])=addD G (diagsOf G l m) (prS l (i,k)):=diagsOf_snoc G l m (i,k)
  rw [hsn]
  have hadd:addD G (diagsOf G l m) (prS l (i,k))=if (G (prS l (i,k))).2=0∧(G (prS l (i,k))).1=true∧(anyTo (diagsOf G l m).length fun j=>crossS (prS l (i,k)) ((diagsOf G l m).getD j sg0))=false then diagsOf G l m++[prS l (i,k)] else diagsOf G l m:=rfl
  have hc4:3<c:=by
   rcases Nat.lt_or_ge 3 c with h|h
   ·exact h
   ·have:c=3:=by omega
    subst this;rw [i3] at hc;cases hc;exact absurd rfl (hR _ _ _)
  have hpr:sgV ⟨l.getD i default,l.getD k default⟩=sgV (prS l (i,k)):=rfl
  rw [hpr]
  generalize prS l (i,k)=s at*
  generalize hdm:diagsOf G l m=dl at*
  refine hyc _ _ _ rfl i3 ?_
  clear hyc
  have hN:=get_lt_len i3
  have hcl:=get_lt_len hc
  simp (disch:=omega) only [↓RS,RZ,simprocAttr,yieldT_cons,yieldT_nil,sgV,s4V,set_app_len]
  rw [bgQ_normal]
  refine ⟨get_app i3,?_⟩
  obtain ⟨H1,e,f,k2,k3,k4⟩:=one_more (H:=H) (b:=3) (x:=some (.row 12 true [sgc s])) (z:=some B) hN
  have q0:get H1 0=some (.row 2 true [[psV L,.lst 1 ((Hs.map psV).map fun v=>[v])]]):=by rw [f 0 (by omega) (by omega)];exact i0
  have q1:get H1 1=some (.row 1 true [[v]]):=by rw [f 1 (by omega) (by omega)];exact i1
  have q2:get H1 2=some (.row 1 true [[psV l]]):=by rw [f 2 (by omega) (by omega)];exact i2
  have qc:get H1 c=some (.row 6 true [pc (l.getD i default)]):=by rw [f c hcl (by omega)];exact hc
  have q4:Bufn 4 H1 v 12 (dl.map sgc):=by rw [←e];exact (i4.app _).set (by omega)
  have k3':get H1 H.length=some (.row 12 true [sgc s]):=k3
  simp only [sgc] at e k3
  rw [e]
  have skip:∀ T H2,Ext H1 H2→addD G dl s=dl→rdQ 3 R B D (yQ (fun H'=>(∃ v,get H' 0=some (.row 2 true [[psV L,.lst 1 ((Hs.map psV).map fun v=>[v])]])∧get H' 1=some (.row 1 true [[v]])∧get H' 2=some (.row 1 true [[psV l]])∧get H' 3=some R∧Bufn 4 H' v 12 ((addD G dl s).map sgc)∧(addD G dl s=[]→v= .prim (.slice none 0 0))∧∀ t∈addD G dl s,hs t≤2^16)∧get H' c=some (.row 6 true [pc (l.getD i default)])) fun _=>False) .normal T H2:=by
   intro T H2 hE he
   rw [rdQ_normal,he]
   have:=hE.len
   refine ⟨hE.get k2,.inl ⟨rfl,⟨v,?_,?_,?_,?_,?_,i6,i5⟩,?_⟩⟩
   ·rw [get_ne (by omega)];exact hE.get q0
   ·rw [get_ne (by omega)];exact hE.get q1
   ·rw [get_ne (by omega)];exact hE.get q2
   ·rw [get_eq (by omega)]
   ·exact (hE.buf q4).set (by omega)
   ·rw [get_ne (by omega)];exact hE.get qc
  by_cases he:(G s).2=0
  ·cases hp:(G s).1 with
   |false=>
    rw [hp] at dg
    simp (disch:=omega) only [↓RS,RZ,simprocAttr,q0,k3,psV]
    refine cX dg ?_
    simp (disch:=omega) only [↓RS,RZ,simprocAttr]
    exact skip _ _ Ext.refl (by rw [hadd,if_neg (fun h=>by rw [hp] at h;exact absurd h.2.1 (by decide))])
   |true=>
    rw [hp] at dg
    simp (disch:=omega) only [↓RS,RZ,simprocAttr,q0,k3,psV]
    refine cX dg ?_
    simp (disch:=omega) only [↓RS,RZ,simprocAttr,q1]
    refine call_sc (containsB_sc dl _ [.ptr H.length 0 0] (fun j=>crossS s (dl.getD j sg0)) q4 (by omega) ?_ ?_)
    ·intro j H' K hj hE hK
     refine diags1_sc s (dl.getD j sg0) (by omega) ?_ (hE.get k3') hK
     rw [List.getD_eq_getElem?_getD,List.getElem?_eq_getElem hj]
     exact Nat.le_trans (i5 _ (List.getElem_mem hj)) (by omega)
    ·intro H2 hE
     cases hany:anyTo dl.length fun j=>crossS s (dl.getD j sg0) with
     |true=>
      simp (disch:=omega) only [↓RS,RZ,simprocAttr]
      exact skip _ _ hE (by rw [hadd,if_neg (fun h=>by rw [hany] at h;exact absurd h.2.2 (by decide))])
     |false=>
      have hyes:addD G dl s=dl++[s]:=by rw [hadd,if_pos ⟨he,hp,hany⟩]
      have p1:=hE.get q1
      have p3:=hE.get k3
      have hl2:=hE.len
      simp (disch:=omega) only [↓RS,RZ,simprocAttr,p1,p3]
      refine Bufn.appendW ((hE.buf q4).app _) (by simp [cellV]) (by simp only [List.length_cons,List.length_nil,List.length_map];omega) (by simp only [List.length_cons,List.length_nil,List.length_map];omega) ?_
      intro v' H3 hb hk2 hlen3
      rw [List.length_append] at hlen3
      have r0:=hk2 0 _ (.inl (by omega)) (get_app (hE.get q0))
      have r1:=hk2 1 _ (.inl (by omega)) (get_app p1)
      have r2:=hk2 2 _ (.inl (by omega)) (get_app (hE.get q2))
      have r3:=hk2 3 _ (.inl (by omega)) (get_app (hE.get k2))
      have rc:=hk2 c _ (.inr fun es h=>by cases h) (get_app (hE.get qc))
      have c1:=hb.one
      have c2:=hb.cel
      simp (disch:=omega) only [↓RS,RZ,simprocAttr,r1,c1,c2]
      rw [rdQ_normal]
      rw [hyes]
      refine ⟨by rw [get_ne (by omega)];exact r3,.inl ⟨rfl,⟨v',?_,?_,?_,?_,?_,fun h=>by simp at h,?_⟩,?_⟩⟩
      ·rw [get_ne (by omega),get_ne (by omega)];exact r0
      ·rw [get_ne (by omega),get_eq (by omega)]
      ·rw [get_ne (by omega),get_ne (by omega)];exact r2
      ·rw [get_eq (by rw [List.length_set];omega)]
      ·rw [List.map_append]
       exact (hb.set (by omega)).set (by omega)
      ·intro t ht
       rcases List.mem_append.1 ht with ht|ht
       ·exact i5 t ht
       ·rw [List.mem_singleton.1 ht];exact hs1
      ·rw [get_ne (by omega),get_ne (by omega)];exact rc
  ·simp (disch:=omega) only [↓RS,RZ,simprocAttr,q0,k3,psV]
   refine cX dg ?_
   simp (disch:=omega) only [↓RS,RZ,simprocAttr]
   exact skip _ _ Ext.refl (by rw [hadd,if_neg (fun h=>he h.1)])
 ·exact ⟨_,rfl,rfl,rfl,rfl,.nil (by simp),fun _=>rfl,fun t ht=>by simp [diagsOf] at ht⟩
 ·rintro v H ⟨u,h0,h1,h2,h3,h4,h6,h5⟩
  refine .inl ⟨h3,?_⟩
  have e0:get (H.set 3 none) 1=some (.row 1 true [[u]]):=by rw [get_ne (by omega)];exact h1
  generalize diagsOf G l (pairsTo l.length l.length)=dl at*
  by_cases hz:dl=[]
  ·subst hz
   have hu:=h6 rfl
   subst hu
   rw [lsV,if_pos rfl]
   simp (disch:=omega) only [↓RS,RZ,simprocAttr,e0]
  ·rw [lsV,if_neg hz]
   obtain ⟨b,hb,rfl,hg⟩:=h4.cases (by simpa using hz)
   have e1:get (H.set 3 none) b=some (.row 12 true (dl.map sgc)):=by rw [get_ne (by omega)];exact hg
   have hvl:= @viewLL_prims (H.set 3 none) 7 _ (sgc_prims dl)
   have hlen:(dl.map sgc).length=dl.length:=List.length_map ..
   have htk:(dl.map sgc).take dl.length=dl.map sgc:=by rw [List.take_of_length_le (by omega)]
   simp (disch:=omega) only [↓RS,RZ,simprocAttr,e0,hlen]
   rw [e1]
   simp only [hlen,Nat.le_refl,if_true,htk]
   rw [hvl]
   rfl
end Go.Av
namespace Go.Av
theorem edge_inter {L:List Pt} (h:Good L) {e f:Sg} (he:e∈edgesL L) (hf:f∈edgesL L) {q:Pt} (q1:onSeg e.a e.b q) (q2:onSeg f.a f.b q):e=f∨(q=e.a∨q=e.b)∧(q=f.a∨q=f.b):=by
 obtain ⟨i,hi,rfl⟩:=List.mem_map.1 he
 obtain ⟨k,hk,rfl⟩:=List.mem_map.1 hf
 have hi:=List.mem_range.1 hi
 have hk:=List.mem_range.1 hk
 rw [segOf_sc hi] at q1
 rw [segOf_sc hk] at q2
 have ei:=segOf_sc hi
 have ek:=segOf_sc hk
 by_cases h0:i=k
 ·subst h0;exact .inl rfl
 right
 rw [ei,ek]
 simp only at q1 q2 ⊢
 have hlo:=h.lo
 by_cases h1:sc L.length i=k
 ·subst h1
  have fl:=h.fl i hi
  obtain ⟨m,_,_,rfl⟩:=q1
  obtain ⟨t,_,_,e⟩:=q2
  have e1:ar (L.getD i default) (L.getD (sc L.length i) default) (pt (L.getD i default) (L.getD (sc L.length i) default) m)=0:=by unfold ar pt;simp only;grind
  rw [e,pt_ar_l] at e1
  rcases Rat.mul_eq_zero.1 e1 with e2|e2
  ·have:pt (L.getD i default) (L.getD (sc L.length i) default) m=L.getD (sc L.length i) default:=by rw [e,e2];refine Pt.ext ?_ ?_<;>(unfold pt;simp only;grind)
   exact ⟨.inr this,.inl this⟩
  ·exact absurd e2 fl
 ·by_cases h2:sc L.length k=i
  ·subst h2
   have fl:=h.fl k hk
   obtain ⟨m,_,_,rfl⟩:=q1
   obtain ⟨t,_,_,e⟩:=q2
   have e1:ar (L.getD k default) (L.getD (sc L.length k) default) (pt (L.getD k default) (L.getD (sc L.length k) default) t)=0:=by unfold ar pt;simp only;grind
   rw [←e,pt_ar_l] at e1
   rcases Rat.mul_eq_zero.1 e1 with e2|e2
   ·have:pt (L.getD (sc L.length k) default) (L.getD (sc L.length (sc L.length k)) default) m=L.getD (sc L.length k) default:=by rw [e2];refine Pt.ext ?_ ?_<;>(unfold pt;simp only;grind)
    exact ⟨.inl this,.inr this⟩
   ·exact absurd e2 fl
  ·exact absurd ⟨q,q1,q2⟩ (h.cr i k hi hk h0 h1 h2)
variable {L:List Pt} {Hs:List (List Pt)}
def cornP (L:List Pt) (Hs:List (List Pt)):List Pt:=cornersTo (L::Hs) (Hs.length+1)
def edgeP (L:List Pt) (Hs:List (List Pt)):List Sg:=edgesTo (L::Hs) (Hs.length+1)
theorem edgeP_mem {s:Sg} (h:s∈edgeP L Hs):∃ l∈L::Hs,s∈edgesL l:=mem_edgesTo (by simp) h
theorem edgeP_of {s:Sg} {l:List Pt} (hl:l∈L::Hs) (h:s∈edgesL l):s∈edgeP L Hs:=by
 obtain ⟨i,hi,rfl⟩:=List.mem_iff_getElem.1 hl
 obtain ⟨j,hj,rfl⟩:=List.mem_map.1 h
 have e:(L::Hs).getD i []=(L::Hs)[i]:=by rw [List.getD_eq_getElem?_getD,List.getElem?_eq_getElem hi];rfl
 have:=mem_edges (Ls:=L::Hs) (i:=i) (j:=j) (by rw [e];exact List.mem_range.1 hj) (n:=Hs.length+1) (by simpa using hi)
 rw [e] at this
 exact this
theorem corn_edge {c:Pt} (h:c∈cornP L Hs):∃ t∈edgeP L Hs,t.a=c:=by
 unfold cornP at h
 rw [←edgesTo_a] at h
 exact List.mem_map.1 h
theorem edgeP_a {s:Sg} (h:s∈edgeP L Hs):s.a∈cornP L Hs:=by
 unfold cornP;rw [←edgesTo_a];exact List.mem_map.2 ⟨s,h,rfl⟩
theorem edgeP_b {s:Sg} (h:s∈edgeP L Hs):s.b∈cornP L Hs:=(edgesTo_b (L::Hs) (Hs.length+1)).mem_iff.1 (List.mem_map.2 ⟨s,h,rfl⟩)
theorem two_rings (h:Valid L Hs) {l m:List Pt} (hl:l∈L::Hs) (hm:m∈L::Hs):l=m∨NoMeet l m:=by
 have inH:∀ {l m:List Pt},l∈Hs→m∈Hs→l=m∨NoMeet l m:=by
  intro l m hl hm
  obtain ⟨i,hi,rfl⟩:=List.mem_iff_getElem.1 hl
  obtain ⟨j,hj,rfl⟩:=List.mem_iff_getElem.1 hm
  rcases Nat.lt_trichotomy i j with k|k|k
  ·exact .inr (List.pairwise_iff_getElem.1 h.pw i j hi hj k).nm
  ·subst k;exact .inl rfl
  ·exact .inr (List.pairwise_iff_getElem.1 h.pw j i hj hi k).nm.symm
 rcases List.mem_cons.1 hl with e1|e1<;>rcases List.mem_cons.1 hm with e2|e2
 ·exact .inl (e1.trans e2.symm)
 ·rw [e1];exact .inr (h.mo _ e2).symm
 ·rw [e2];exact .inr (h.mo _ e1)
 ·exact inH e1 e2
theorem edges_inter (h:Valid L Hs) {e f:Sg} (he:e∈edgeP L Hs) (hf:f∈edgeP L Hs) {q:Pt} (q1:onSeg e.a e.b q) (q2:onSeg f.a f.b q):e=f∨(q=e.a∨q=e.b)∧(q=f.a∨q=f.b):=by
 obtain ⟨l,hl,he⟩:=edgeP_mem he
 obtain ⟨m,hm,hf⟩:=edgeP_mem hf
 rcases two_rings h hl hm with rfl|nm
 ·exact edge_inter (vring_of h hl).good he hf q1 q2
 ·exact absurd ⟨q,q1,q2⟩ (nm e he f hf)
theorem edge_ne (h:Valid L Hs) {e:Sg} (he:e∈edgeP L Hs):e.a≠e.b:=by
 obtain ⟨l,hl,he⟩:=edgeP_mem he
 exact (vring_of h hl).good.seg_ne e he
theorem edge_on (h:Valid L Hs) {e:Sg} (he:e∈edgeP L Hs) {c:Pt} (hc:c∈cornP L Hs) (q:onSeg e.a e.b c):c=e.a∨c=e.b:=by
 obtain ⟨t,ht,rfl⟩:=corn_edge hc
 rcases edges_inter h he ht q (onSeg_l _ _) with rfl|k
 ·exact .inl rfl
 ·exact k.1
theorem diagS_true {s:Sg} (h:diagS L Hs s=(true,0)):s.ok∧s.a∈cornP L Hs∧s.b∈cornP L Hs∧blockedP (edgeP L Hs) s=false∧0<whereS L Hs (s.a.at s.b (1/2)):=by
 unfold diagS at h
 split at h
 ·cases h
 ·rename_i hz
  split at h
  ·rename_i hc
   simp only [Prod.mk.injEq,Bool.and_eq_true,Bool.not_eq_true',decide_eq_true_eq,and_true] at h
   exact ⟨hz,hc.1,hc.2,h.1,h.2⟩
  ·cases h
theorem ok_iff {s:Sg}:s.ok↔s.a≠s.b:=⟨fun h e=>h (cmpP_zero.2 e),fun h e=>h (cmpP_zero.1 e)⟩
theorem diag_edge_end (h:Valid L Hs) {s e:Sg} (hs:diagS L Hs s=(true,0)) (he:e∈edgeP L Hs) {P:Pt} (h1:onSeg s.a s.b P) (h2:onSeg e.a e.b P):P=s.a∨P=s.b:=by
 obtain ⟨ho,_,_,hb,_⟩:=diagS_true hs
 obtain ⟨m,m0,m1,rfl⟩:=h1
 by_cases k0:m=0
 ·left;subst k0;refine Pt.ext ?_ ?_<;>(unfold pt;simp only;grind)
 by_cases k1:m=1
 ·right;subst k1;refine Pt.ext ?_ ?_<;>(unfold pt;simp only;grind)
 exact absurd h2 (block_free ho (ok_iff.2 (edge_ne h he)) (blocked_get hb he) (by grind) (by grind))
theorem diag_on (h:Valid L Hs) {s:Sg} (hs:diagS L Hs s=(true,0)) {c:Pt} (hc:c∈cornP L Hs) (q:onSeg s.a s.b c):c=s.a∨c=s.b:=by
 obtain ⟨t,ht,rfl⟩:=corn_edge hc
 exact diag_edge_end h hs ht q (onSeg_l _ _)
theorem pt0' (u v:Pt):pt u v 0=u:=Pt.ext (by unfold pt;simp only;grind) (by unfold pt;simp only;grind)
theorem pt1' (u v:Pt):pt u v 1=v:=Pt.ext (by unfold pt;simp only;grind) (by unfold pt;simp only;grind)
theorem pt_inj {u v:Pt} (hne:u≠v) {m n:Rat} (h:pt u v m=pt u v n):m=n:=by
 have h1:(m-n)*(v.x-u.x)=0:=by have:=congrArg Pt.x h;unfold pt at this;simp only at this;grind
 have h2:(m-n)*(v.y-u.y)=0:=by have:=congrArg Pt.y h;unfold pt at this;simp only at this;grind
 rcases Rat.mul_eq_zero.1 h1 with k|k
 ·grind
 ·rcases Rat.mul_eq_zero.1 h2 with k'|k'
  ·grind
  ·exact absurd (Pt.ext (by grind) (by grind)) hne
theorem same_line {s t:Sg} (hs:s.a≠s.b) (ht:t.a≠t.b) (on1:∀ c,(c=t.a∨c=t.b)→onSeg s.a s.b c→c=s.a∨c=s.b) (on2:∀ c,(c=s.a∨c=s.b)→onSeg t.a t.b c→c=t.a∨c=t.b)
 {P Q:Pt} (hPQ:P≠Q) (p1:onSeg s.a s.b P) (p2:onSeg t.a t.b P) (q1:onSeg s.a s.b Q) (q2:onSeg t.a t.b Q):SameS s t:=by
 obtain ⟨m,m0,m1,rfl⟩:=p1
 obtain ⟨n,n0,n1,rfl⟩:=q1
 obtain ⟨m',m'0,m'1,e1⟩:=p2
 obtain ⟨n',n'0,n'1,e2⟩:=q2
 have hmn:m≠n:=fun h=>hPQ (by rw [h])
 have hmn':m'≠n':=fun h=>hPQ (by rw [e1,e2,h])
 have hd:n'-m'≠0:=fun h=>hmn' (by grind)
 have ea:∃ α,t.a=pt s.a s.b α:=⟨m-m'/(n'-m')*(n-m),by
  have h1:=congrArg Pt.x e1;have h2:=congrArg Pt.y e1;have h3:=congrArg Pt.x e2;have h4:=congrArg Pt.y e2
  unfold pt at h1 h2 h3 h4 ⊢
  simp only at h1 h2 h3 h4
  have hr:m'/(n'-m')*(n'-m')=m':=Rat.div_mul_cancel hd
  generalize m'/(n'-m')=r at hr ⊢
  refine Pt.ext ?_ ?_
  ·try simp only
   have:(n'-m')*(t.a.x-(s.a.x+(m-r*(n-m))*(s.b.x-s.a.x)))=0:=by grind
   rcases Rat.mul_eq_zero.1 this with k|k
   ·exact absurd k hd
   ·grind
  ·try simp only
   have:(n'-m')*(t.a.y-(s.a.y+(m-r*(n-m))*(s.b.y-s.a.y)))=0:=by grind
   rcases Rat.mul_eq_zero.1 this with k|k
   ·exact absurd k hd
   ·grind⟩
 have eb:∃ β,t.b=pt s.a s.b β:=⟨m+(1-m')/(n'-m')*(n-m),by
  have h1:=congrArg Pt.x e1;have h2:=congrArg Pt.y e1;have h3:=congrArg Pt.x e2;have h4:=congrArg Pt.y e2
  unfold pt at h1 h2 h3 h4 ⊢
  simp only at h1 h2 h3 h4
  have hr:(1-m')/(n'-m')*(n'-m')=1-m':=Rat.div_mul_cancel hd
  generalize (1-m')/(n'-m')=r at hr ⊢
  refine Pt.ext ?_ ?_
  ·try simp only
   have:(n'-m')*(t.b.x-(s.a.x+(m+r*(n-m))*(s.b.x-s.a.x)))=0:=by grind
   rcases Rat.mul_eq_zero.1 this with k|k
   ·exact absurd k hd
   ·grind
  ·try simp only
   have:(n'-m')*(t.b.y-(s.a.y+(m+r*(n-m))*(s.b.y-s.a.y)))=0:=by grind
   rcases Rat.mul_eq_zero.1 this with k|k
   ·exact absurd k hd
   ·grind⟩
 obtain ⟨α,ha⟩:=ea
 obtain ⟨β,hb⟩:=eb
 have hab:α≠β:=fun h=>ht (by rw [ha,hb,h])
 have em:m=α+m'*(β-α):=pt_inj hs (by rw [e1,ha,hb,pt_pt])
 have en:n=α+n'*(β-α):=pt_inj hs (by rw [e2,ha,hb,pt_pt])
 have fa:¬(0<α∧α<1):=fun h=>by
  rcases on1 t.a (.inl rfl) ⟨α,Rat.le_of_lt h.1,Rat.le_of_lt h.2,ha⟩ with k|k
  ·have:=pt_inj hs (show pt s.a s.b α=pt s.a s.b 0 by rw [←ha,k,pt0']);grind
  ·have:=pt_inj hs (show pt s.a s.b α=pt s.a s.b 1 by rw [←ha,k,pt1']);grind
 have fb:¬(0<β∧β<1):=fun h=>by
  rcases on1 t.b (.inr rfl) ⟨β,Rat.le_of_lt h.1,Rat.le_of_lt h.2,hb⟩ with k|k
  ·have:=pt_inj hs (show pt s.a s.b β=pt s.a s.b 0 by rw [←hb,k,pt0']);grind
  ·have:=pt_inj hs (show pt s.a s.b β=pt s.a s.b 1 by rw [←hb,k,pt1']);grind
 have back:∀ {r:Rat},(r=0∨r=1)→(α<r∧r<β∨β<r∧r<α)→False:=by
  intro r hr hbt
  have hk:∃ k,0<k∧k<1∧r=α+k*(β-α):=by
   have hd:β-α≠0:=fun h=>hab (by grind)
   refine ⟨(r-α)/(β-α),?_,?_,by rw [Rat.div_mul_cancel hd];grind⟩
   ·rcases hbt with ⟨h1,h2⟩|⟨h1,h2⟩
    ·rw [Rat.lt_div_iff (by grind)];grind
    ·have e:(r-α)/(β-α)=(α-r)/(α-β):=by
      have h3:(r-α)/(β-α)*(β-α)=r-α:=Rat.div_mul_cancel hd
      have h4:(α-r)/(α-β)*(α-β)=α-r:=Rat.div_mul_cancel (by grind)
      have:((r-α)/(β-α)-(α-r)/(α-β))*(β-α)=0:=by grind
      rcases Rat.mul_eq_zero.1 this with k|k
      ·grind
      ·exact absurd k hd
     rw [e,Rat.lt_div_iff (by grind)];grind
   ·rcases hbt with ⟨h1,h2⟩|⟨h1,h2⟩
    ·rw [Rat.div_lt_iff (by grind)];grind
    ·have e:(r-α)/(β-α)=(α-r)/(α-β):=by
      have h3:(r-α)/(β-α)*(β-α)=r-α:=Rat.div_mul_cancel hd
      have h4:(α-r)/(α-β)*(α-β)=α-r:=Rat.div_mul_cancel (by grind)
      have:((r-α)/(β-α)-(α-r)/(α-β))*(β-α)=0:=by grind
      rcases Rat.mul_eq_zero.1 this with k|k
      ·grind
      ·exact absurd k hd
     rw [e,Rat.div_lt_iff (by grind)];grind
  obtain ⟨k,k0,k1,ek⟩:=hk
  have hc:pt s.a s.b r=s.a∨pt s.a s.b r=s.b:=by
   rcases hr with rfl|rfl
   ·exact .inl (pt0' _ _)
   ·exact .inr (pt1' _ _)
  have he:pt s.a s.b r=pt t.a t.b k:=by rw [ha,hb,pt_pt,ek]
  rcases on2 _ hc ⟨k,Rat.le_of_lt k0,Rat.le_of_lt k1,he⟩ with j|j
  ·have:=pt_inj ht (show pt t.a t.b k=pt t.a t.b 0 by rw [←he,j,pt0']);grind
  ·have:=pt_inj ht (show pt t.a t.b k=pt t.a t.b 1 by rw [←he,j,pt1']);grind
 have b0:=fun h=>back (r:=0) (.inl rfl) h
 have b1:=fun h=>back (r:=1) (.inr rfl) h
 have key:(α=0∧β=1)∨(α=1∧β=0):=by
  have mm:(m-α)*(m-β)≤0:=by
   have e:(m-α)*(m-β)= -(m'*(1-m')*((β-α)*(β-α))):=by rw [em];grind
   have:=Rat.mul_nonneg (Rat.mul_nonneg m'0 (show 0≤1-m' by grind)) (sq_nn (β-α))
   grind
  have nn:(n-α)*(n-β)≤0:=by
   have e:(n-α)*(n-β)= -(n'*(1-n')*((β-α)*(β-α))):=by rw [en];grind
   have:=Rat.mul_nonneg (Rat.mul_nonneg n'0 (show 0≤1-n' by grind)) (sq_nn (β-α))
   grind
  have btw:∀ {x:Rat},(x-α)*(x-β)≤0→(α≤x∧x≤β)∨(β≤x∧x≤α):=by
   intro x hx
   by_cases k1:α≤x
   ·by_cases k2:x≤β
    ·exact .inl ⟨k1,k2⟩
    ·by_cases k3:x=α
     ·exact .inr ⟨by grind,by grind⟩
     ·have:=Rat.mul_pos (show 0<x-α by grind) (show 0<x-β by grind);grind
   ·by_cases k2:β≤x
    ·exact .inr ⟨k2,by grind⟩
    ·have:=Rat.mul_pos (show 0<α-x by grind) (show 0<β-x by grind);grind
  have tm:=btw mm
  have tn:=btw nn
  clear mm nn btw em en
  grind
 rcases key with ⟨rfl,rfl⟩|⟨rfl,rfl⟩
 ·left
  rw [pt0'] at ha;rw [pt1'] at hb
  exact Sg.ext ha.symm hb.symm
 ·right
  rw [pt1'] at ha;rw [pt0'] at hb
  exact Sg.ext hb.symm ha.symm
end Go.Av
