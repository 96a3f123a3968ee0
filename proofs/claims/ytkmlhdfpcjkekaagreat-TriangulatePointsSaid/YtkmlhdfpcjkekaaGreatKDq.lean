/- Helping texts: Dq, Ds. -/
import Derived.Test.YtkmlhdfpcjkekaaGreatKDn
import Derived.Test.YtkmlhdfpcjkekaaGreatKDf
set_option linter.unusedSimpArgs false
set_option linter.unusedVariables false
set_option maxRecDepth 100000
set_option maxHeartbeats 16000000
namespace Go.Av
open Go.RowKit
open Go.Proofs.Tryz (prog)
structure Fine (O:List Rp) (hs:List (List Rp)):Prop where
 chk:chkP O hs=0
 kO:∀ p∈O,p.le (2^16)
 kh:∀ l∈hs,l.length<2^50∧∀ p∈l,p.le (2^16)
theorem Fine.o0 {O:List Rp} {hs:List (List Rp)} (h:Fine O hs):chkR O=0:=by
 have:=h.chk
 unfold chkP at this
 split at this
 ·exact this
 ·rename_i h2;simpa using h2
theorem Fine.few {O:List Rp} {hs:List (List Rp)} (h:Fine O hs):hs.length≤8:=by
 have:=h.chk
 unfold chkP at this
 rw [if_neg (fun h2=>h2 h.o0)] at this
 split at this
 ·cases this
 ·omega
theorem Fine.hz {O:List Rp} {hs:List (List Rp)} (h:Fine O hs):∀ j,j<hs.length→chkH O hs j=0:=by
 have:=h.chk
 unfold chkP at this
 rw [if_neg (fun h2=>h2 h.o0),if_neg (by have:=h.few;omega)] at this
 exact firstNz_zero this
theorem Fine.hr {O:List Rp} {hs:List (List Rp)} (h:Fine O hs):∀ l∈hs,chkR l=0:=by
 intro l hl
 obtain ⟨i,hi,rfl⟩:=List.mem_iff_getElem.1 hl
 have:=chkH_ring (h.hz i hi)
 rwa [List.getD_eq_getElem?_getD,List.getElem?_eq_getElem hi] at this
theorem Fine.rgs {O:List Rp} {hs:List (List Rp)} (h:Fine O hs):Rgs (pts O) (hs.map pts):=by
 refine ⟨(ring_of h.o0 h.kO).1,?_,by rw [List.length_map];exact h.few⟩
 intro l hl
 obtain ⟨k,hk,rfl⟩:=List.mem_map.1 hl
 exact (ring_of (h.hr k hk) (h.kh k hk).2).1
theorem Fine.val {O:List Rp} {hs:List (List Rp)} (h:Fine O hs):pgV O hs=cgV (pts O) (hs.map pts):=by
 unfold pgV cgV hsV
 rw [(ring_of h.o0 h.kO).2]
 have:hs.map rpsV=(hs.map pts).map psV:=by
  rw [List.map_map]
  exact List.map_congr_left fun l hl=>(ring_of (h.hr l hl) (h.kh l hl).2).2
 rw [this]
theorem Fine.no {O:List Rp} {hs:List (List Rp)} (h:Fine O hs):O.length≤64:=by have:=h.rgs.out.hi;rwa [pts_length] at this
theorem Fine.check_pc {O:List Rp} {hs:List (List Rp)} (h:Fine O hs):PC prog 49 [cgV (pts O) (hs.map pts)] (.prim (.int .i64 (0))):=by
 have:=Pcheck_pc O hs (by have:=h.few;omega) (by have:=h.no;omega) h.kO h.kh
 rw [h.chk,h.val] at this
 exact this
theorem Corners_pc {O:List Rp} {hs:List (List Rp)} (h:Fine O hs):PC prog 12 [cgV (pts O) (hs.map pts)] (.tup [psV (cornersTo (pts O::hs.map pts) (hs.length+1)),.prim (.int .i64 (0))]):=by
 have c:=h.check_pc
 have d:=corners_pc _ _ h.rgs
 rw [List.length_map] at d
 refine PCi ?_
 conv in trip _ _=>cbv
 simp only [runT,RN,simprocAttr]
 simp (disch:=omega) only [↓RS,RZ,simprocAttr,cgV,psV]
 refine cX c ?_
 simp (disch:=omega) only [↓RS,RZ,simprocAttr,psV]
 refine cX d ?_
 simp (disch:=omega) only [↓RS,RZ,simprocAttr,psV]
theorem EdgesP_pc {O:List Rp} {hs:List (List Rp)} (h:Fine O hs):PC prog 37 [cgV (pts O) (hs.map pts)] (.tup [ssV (edgesTo (pts O::hs.map pts) (hs.length+1)),.prim (.int .i64 (0))]):=by
 have c:=h.check_pc
 have d:=edges_pc _ _ h.rgs
 rw [List.length_map] at d
 refine PCi ?_
 conv in trip _ _=>cbv
 simp only [runT,RN,simprocAttr]
 simp (disch:=omega) only [↓RS,RZ,simprocAttr,cgV,psV]
 refine cX c ?_
 simp (disch:=omega) only [↓RS,RZ,simprocAttr,psV]
 refine cX d ?_
 simp (disch:=omega) only [↓RS,RZ,simprocAttr,ssV]
theorem Rgs.hole {L:List Pt} {Hs:List (List Pt)} (h:Rgs L Hs) {i:Nat} (hi:i<Hs.length):Ring (Hs.getD i []):=by
 rw [List.getD_eq_getElem?_getD,List.getElem?_eq_getElem hi]
 exact h.holes _ (List.getElem_mem hi)
def firstLe (n:Nat) (f:Nat→Int):Int:=match (List.range n).find? (fun i=>decide (f i≤0)) with
 |some i=>f i
 |none=>1
theorem firstLe_found {n i:Nat} {f:Nat→Int} (hi:i<n) (h:f i≤0) (hf:∀ j,j<i→0<f j):firstLe n f=f i:=by
 unfold firstLe
 have:(List.range n).find? (fun i=>decide (f i≤0))=some i:=by
  rw [List.find?_range_eq_some]
  exact ⟨by simpa using h,by simpa using hi,fun j hj=>by have:=hf j hj;simp;omega⟩
 rw [this]
theorem firstLe_none {n:Nat} {f:Nat→Int} (hf:∀ j,j<n→0<f j):firstLe n f=1:=by
 unfold firstLe
 have:(List.range n).find? (fun i=>decide (f i≤0))=none:=by
  rw [List.find?_eq_none];intro j hj;have:=hf j (by simpa using hj);simp;omega
 rw [this]
def ringSide (Ls:List (List Pt)) (q:Pt) (i:Nat):Int:=if 0<i then-sideS (Ls.getD i []) q else sideS (Ls.getD i []) q
def whereS (L:List Pt) (Hs:List (List Pt)) (q:Pt):Int:=firstLe (Hs.length+1) (ringSide (L::Hs) q)
theorem sideS_abs (L:List Pt) (q:Pt): -1≤sideS L q∧sideS L q≤1:=by unfold sideS;split<;>(try split)<;>omega
theorem where_pc (L:List Pt) (Hs:List (List Pt)) (q:Pt) (hg:Rgs L Hs) (hq:hp q≤2^20):PC prog 67 [cgV L Hs,pV q] (.prim (.int .i64 (whereS L Hs q))):=by
 have hf:=hg.few
 refine PCi ?_
 conv in trip _ _=>cbv
 simp only [runT,RN,simprocAttr]
 simp (disch:=omega) only [↓RS,RZ,simprocAttr,cgV,pV,ptV]
 refine call_sc (rings_sc (psV L) (Hs.map psV) ?_)
 simp (disch:=omega) only [↓RS,RZ,simprocAttr]
 refine wp_rf mixed (n:=4) (k:=2) rfl rfl rfl (by kernel_rfl) ?_
 conv in lcC _=>cbv
 conv in lcC _=>cbv
 intro R B D hR hyc
 simp only [List.nil_append,List.cons_append] at hyc ⊢
 refine rings1_sc (psV L) (Hs.map psV) (by rw [List.length_map];omega) (fun i H=>get H 1=some (.row 6 true [pc q])∧(∃ z,get H 2=some (.row 1 true [[z]]))∧get H 3=some (.row 2 true [[psV L,.lst 1 ((Hs.map psV).map fun v=>[v])]])∧get H 4=some R∧∀ j,j<i→0<ringSide (L::Hs) q j)
  (fun H=>get H 2=some (.row 1 true [[.prim (.int .i64 (whereS L Hs q))]])∧get H 4=some (D .ret)) ?_ ?_ ?_ ?_ ?_
 ·rintro i H h;exact h.2.2.1
 ·rintro i H hlt ⟨h0,⟨z,h1⟩,h2,h3,h4⟩
  rw [List.length_map] at hlt
  rw [ring_val hlt]
  have hr:=hg.get hlt
  refine hyc _ _ _ rfl h3 ?_
  clear hyc
  simp (disch:=omega) only [↓RS,RZ,simprocAttr,yieldT_cons,yieldT_nil,psV]
  rw [bgQ_normal]
  refine ⟨h3,?_⟩
  have hN:=get_lt_len h3
  have q0:get (H.set 4 (some B)) 1=some (.row 6 true [pc q]):=by rw [get_ne (by omega)];exact h0
  have q1:get (H.set 4 (some B)) 2=some (.row 1 true [[z]]):=by rw [get_ne (by omega)];exact h1
  have q2:get (H.set 4 (some B)) 3=some (.row 2 true [[psV L,.lst 1 ((Hs.map psV).map fun v=>[v])]]):=by rw [get_ne (by omega)];exact h2
  have q3:get (H.set 4 (some B)) 4=some B:=get_eq hN
  have hl:4<(H.set 4 (some B)).length:=by rw [List.length_set];exact hN
  generalize H.set 4 (some B)=H1 at q0 q1 q2 q3 hl ⊢
  have ci:=Inside_pc ((L::Hs).getD i []) q hr hq
  have hb:=sideS_abs ((L::Hs).getD i []) q
  have hrs:ringSide (L::Hs) q i=if 0<i then-sideS ((L::Hs).getD i []) q else sideS ((L::Hs).getD i []) q:=rfl
  simp (disch:=omega) only [↓RS,RZ,simprocAttr,q0,pc]
  refine cX ci ?_
  generalize sideS ((L::Hs).getD i []) q=n at hb hrs ⊢
  have yes:∀ (T:List V) (x:Int),ringSide (L::Hs) q i=x→x≤0→rdQ 4 R B D (yQ (fun H=>get H 1=some (.row 6 true [pc q])∧(∃ z,get H 2=some (.row 1 true [[z]]))∧get H 3=some (.row 2 true [[psV L,.lst 1 ((Hs.map psV).map fun v=>[v])]])∧get H 4=some R∧∀ j,j<i+1→0<ringSide (L::Hs) q j) (fun H=>get H 2=some (.row 1 true [[.prim (.int .i64 (whereS L Hs q))]])∧get H 4=some (D .ret))) .ret T (H1.set 2 (some (.row 1 true [[.prim (.int .i64 (x))]]))):=by
   rintro T x hx hx0
   rw [rdQ_ret]
   refine ⟨by rw [get_ne (by omega)];exact q3,.inr ⟨rfl,?_,get_eq (by rw [List.length_set];exact hl)⟩⟩
   rw [get_ne (by omega),get_eq (by omega)]
   rw [show whereS L Hs q=x by unfold whereS;rw [firstLe_found (i:=i) (by omega) (by rw [hx];exact hx0) h4,hx]]
  have no:∀ (T:List V),0<ringSide (L::Hs) q i→rdQ 4 R B D (yQ (fun H=>get H 1=some (.row 6 true [pc q])∧(∃ z,get H 2=some (.row 1 true [[z]]))∧get H 3=some (.row 2 true [[psV L,.lst 1 ((Hs.map psV).map fun v=>[v])]])∧get H 4=some R∧∀ j,j<i+1→0<ringSide (L::Hs) q j) (fun H=>get H 2=some (.row 1 true [[.prim (.int .i64 (whereS L Hs q))]])∧get H 4=some (D .ret))) .normal T H1:=by
   rintro T hx
   rw [rdQ_normal]
   refine ⟨q3,.inl ⟨rfl,by rw [get_ne (by omega)];exact q0,⟨z,by rw [get_ne (by omega)];exact q1⟩,by rw [get_ne (by omega)];exact q2,get_eq hl,fun j hj=> ?_⟩⟩
   rcases Nat.lt_or_ge j i with h|h
   ·exact h4 j h
   ·rw [show j=i by omega];exact hx
  rcases Nat.eq_zero_or_pos i with h0|hpos
  ·subst h0
   rw [if_neg (by omega)] at hrs
   rcases Int.lt_or_le 0 n with hn|hn
   ·simp (disch:=omega) only [↓RS,RZ,simprocAttr]
    exact no _ (by rw [hrs];exact hn)
   ·simp (disch:=omega) only [↓RS,RZ,simprocAttr,q1]
    exact yes _ _ hrs hn
  ·rw [if_pos hpos] at hrs
   rcases Int.lt_or_le n 0 with hn|hn
   ·simp (disch:=omega) only [↓RS,RZ,simprocAttr,Int.zero_sub]
    exact no _ (by rw [hrs];omega)
   ·simp (disch:=omega) only [↓RS,RZ,simprocAttr,q1,Int.zero_sub]
    exact yes _ _ hrs (by omega)
 ·exact ⟨rfl,⟨_,rfl⟩,rfl,rfl,fun j hj=>absurd hj (Nat.not_lt_zero j)⟩
 ·rintro v H ⟨h0,⟨z,h1⟩,h2,h3,h4⟩
  rw [List.length_map] at h4
  have hN:=get_lt_len h3
  refine .inl ⟨h3,?_⟩
  have e1:get (H.set 4 none) 2=some (.row 1 true [[z]]):=by rw [get_ne (by omega)];exact h1
  have s1:∀ x,get ((H.set 4 none).set 2 x) 2=x:=fun x=>get_eq (by rw [List.length_set];omega)
  rw [show whereS L Hs q=1 from firstLe_none h4]
  simp (disch:=omega) only [↓RS,RZ,simprocAttr,e1,s1]
 ·rintro v H ⟨h1,h3⟩
  refine .inr ⟨.ret,h3,?_⟩
  have e1:get (H.set 4 none) 2=some (.row 1 true [[.prim (.int .i64 (whereS L Hs q))]]):=by rw [get_ne (by omega)];exact h1
  simp (disch:=omega) only [↓RS,RZ,simprocAttr,e1]
theorem vcheckP_pc (p:Pt) (h:hp p≤2^20):PC prog 30 [pV p] (.prim (.int .i64 (0))):=by
 have c:=vcheck_pc (can p.x) (can p.y) (can_le (Nat.le_trans (hp_x p) (by omega))) (can_le (Nat.le_trans (hp_y p) (by omega)))
 rw [if_pos (by simp only [can_val];trivial)] at c
 exact c
theorem InsideP_pc {O:List Rp} {hs:List (List Rp)} (h:Fine O hs) (q:Pt) (hq:hp q≤2^20):PC prog 32 [cgV (pts O) (hs.map pts),pV q] (.tup [.prim (.int .i64 (whereS (pts O) (hs.map pts) q)),.prim (.int .i64 (0))]):=by
 have c:=h.check_pc
 have d:=vcheckP_pc q hq
 have w:=where_pc _ _ q h.rgs hq
 generalize hs.map pts=Hs at*
 generalize pts O=L at*
 refine PCi ?_
 conv in trip _ _=>cbv
 simp only [runT,RN,simprocAttr]
 simp (disch:=omega) only [↓RS,RZ,simprocAttr,cgV,psV,pV,ptV]
 refine cX c ?_
 simp (disch:=omega) only [↓RS,RZ,simprocAttr,psV,pV,ptV]
 refine cX d ?_
 simp (disch:=omega) only [↓RS,RZ,simprocAttr,psV,pV,ptV]
 refine cX w ?_
 simp (disch:=omega) only [↓RS,RZ,simprocAttr]
end Go.Av
namespace Go.Av
open Go.RowKit
open Go.Proofs.Tryz (prog)
theorem set_self {H:Hp} {b:Nat} {k:Blk} (h:get H b=some k):H.set b (some k)=H:=by
 refine List.ext_getElem? fun c=> ?_
 rw [List.getElem?_set]
 split
 ·rename_i hc
  subst hc
  have hl:=get_lt_len h
  rw [if_pos hl]
  simp only [get,List.getElem?_eq_getElem hl,Option.join_some] at h ⊢
  rw [h]
 ·rfl
def hq (l:List Rat) (k:Nat):Prop:=∀ i,i<l.length→ht (l.getD i 0)≤k
theorem getD_set {l:List Rat} {i j:Nat} {x:Rat} (hj:j<l.length):(l.set j x).getD i 0=if i=j then x else l.getD i 0:=by
 rw [List.getD_eq_getElem?_getD,List.getElem?_set,List.getD_eq_getElem?_getD]
 by_cases h:j=i
 ·subst h;simp [hj]
 ·rw [if_neg h,if_neg (fun e=>h e.symm)]
theorem len64_pc (x:Nat) (hx:x<256):PC prog 169 [.prim (.int .u64 ((x:Nat):Int))] (.prim (.int .i64 ((blen x:Nat):Int))):=by
 refine PCi ?_
 conv in trip _ _=>cbv
 simp only [runT,RN,simprocAttr]
 have fin:some (V.prim (Value.int IntKind.i64 (IntKind.i64.wrap ((0:Int)+IntKind.i64.wrap ((lenTab.getD x 0).toNat:Nat)))))=some (V.prim (Value.int IntKind.i64 (blen x:Nat))):=by
  have:= @blen_le x 8 hx
  rw [lenTab_spec x hx,wrap_nat_i64 (by omega),wrap_i64 (by omega) (by omega)]
  simp
 simp (maxSteps:=2000000) (disch:=omega) only [↓RS,RY,simprocAttr]
 exact fin
theorem blen64_pc (x:Nat) (hx:x<256):PC prog 97 [.prim (.int .u64 ((x:Nat):Int))] (.prim (.int .i64 ((blen x:Nat):Int))):=by
 have c:=len64_pc x hx
 refine PCi ?_
 conv in trip _ _=>cbv
 simp only [runT,RN,simprocAttr]
 simp (disch:=omega) only [↓RS,RZ,simprocAttr,wrap_nat_u64]
 refine cX c ?_
 simp (disch:=omega) only [↓RS,RZ,simprocAttr]
end Go.Av
