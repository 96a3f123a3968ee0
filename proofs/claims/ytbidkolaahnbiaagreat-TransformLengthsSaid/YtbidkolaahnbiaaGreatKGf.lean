/- Helping texts: Gf, Gg. -/
import Derived.Test.YtbidkolaahnbiaaGreatKGd
set_option linter.unusedSimpArgs false
set_option linter.unusedVariables false
set_option maxRecDepth 100000
set_option maxHeartbeats 16000000
namespace Go.Av
open Go.RowKit
open Go.Proofs.Tryz (prog)
theorem PC_arg2 {P:Program} {f:FuncId} {a v v':V} {vs:List V} {r:V} (hv:∀ I w x,VR (fun _=>none) I w v x→VR (fun _=>none) I w v' x) (h:PC P f (a::v'::vs) r):PC P f (a::v::vs) r:=fun I w xs hI hxs=>
 h I w xs hI ⟨hxs.len,fun k u x hu hx=>by
  match k,hu with
  |0,hu=>exact hxs.at_ 0 u x hu hx
  |1,hu=>cases hu;exact hv I w x (hxs.at_ 1 v x rfl hx)
  |k+2,hu=>exact hxs.at_ (k+2) u x hu hx⟩
def touchS (H:Hp) (n o k:Nat):Option Blk→List Nat
 |some (.row _ _ es)=>((es.drop o).take k).flatMap fun e=>e.flatMap (touch H n)
 |_=>[]
theorem touchS_row {H:Hp} {n o k sz:Nat} {m:Bool} {es:List (List V)}:touchS H n o k (some (.row sz m es))=((es.drop o).take k).flatMap fun e=>e.flatMap (touch H n):=rfl
theorem touch_sref {H:Hp} {n b o k c z:Nat} {fx:Bool}:touch H (n+1) (.sref b o k c z fx)=b::touchS H n o k (get H b):=by rw [touch];rfl
def triL:List Pt:=[⟨0,0⟩,⟨4,0⟩,⟨0,2⟩]
def triM:List Pt:=[⟨-1,1⟩,⟨1,1⟩,⟨1,5⟩]
theorem triL_ok:chkC triL=0:=by decide+kernel
theorem tri_img:imgL (placeA ⟨0,1⟩ ⟨1,1⟩) triL=triM:=by decide+kernel
theorem tri_hl:hl triL (2^16):=by
 refine hl_of (by omega) fun p hp=> ?_
 simp only [triL,List.mem_cons,List.not_mem_nil,or_false] at hp
 rcases hp with rfl|rfl|rfl
 ·exact ⟨0,0,rfl,by decide,by decide⟩
 ·exact ⟨4,0,rfl,by decide,by decide⟩
 ·exact ⟨0,2,rfl,by decide,by decide⟩
theorem tri_map:triL.map (placeA ⟨0,1⟩ ⟨1,1⟩).ap=[⟨1,1⟩,⟨1,5⟩,⟨-1,1⟩]:=by decide+kernel
theorem tri_fits:Fits (placeA ⟨0,1⟩ ⟨1,1⟩) triL []:=by
 intro l hl
 rw [List.mem_singleton.1 hl,tri_map]
 refine hl_of (by omega) fun p hp=> ?_
 simp only [List.mem_cons,List.not_mem_nil,or_false] at hp
 rcases hp with rfl|rfl|rfl
 ·exact ⟨1,1,rfl,by decide,by decide⟩
 ·exact ⟨1,5,rfl,by decide,by decide⟩
 ·exact ⟨-1,1,rfl,by decide,by decide⟩
theorem tri_valid:Valid triL []:=⟨⟨by decide,by decide,triL_ok,tri_hl⟩,fun _ h=>(by cases h),by decide,fun _ h=>(by cases h),fun _ h=>(by cases h),List.Pairwise.nil,fun i _ hi=>(by simp at hi)⟩
theorem tri_place:PC prog 22 [cgV triL [],pV ⟨0,1⟩,pV ⟨1,1⟩] (.tup [cgV triM [],.prim (.int .i64 (0))]):=by
 have h1:= @hp_ints 0 1 (by omega) (by omega)
 have h2:= @hp_ints 1 1 (by omega) (by omega)
 have h:=place_pc tri_valid (by decide) ⟨0,1⟩ ⟨1,1⟩ (by unfold isRot;decide+kernel) (Nat.le_trans h1 (by omega)) (Nat.le_trans h2 (by omega)) tri_fits
 rw [tri_img] at h
 exact h
theorem awake14_pc:PC prog 17 [] (.prim (.bool true)):=by
 have v00:PC prog 80 [.prim (.int .i64 (0)),.prim (.int .i64 (0))] (pV ⟨0,0⟩):=vof_pc 0 0 (by omega) (by omega)
 have v40:PC prog 80 [.prim (.int .i64 (4)),.prim (.int .i64 (0))] (pV ⟨4,0⟩):=vof_pc 4 0 (by omega) (by omega)
 have v02:PC prog 80 [.prim (.int .i64 (0)),.prim (.int .i64 (2))] (pV ⟨0,2⟩):=vof_pc 0 2 (by omega) (by omega)
 have v11:PC prog 80 [.prim (.int .i64 (1)),.prim (.int .i64 (1))] (pV ⟨1,1⟩):=vof_pc 1 1 (by omega) (by omega)
 have vm1:PC prog 80 [.prim (.int .i64 (-1)),.prim (.int .i64 (1))] (pV ⟨-1,1⟩):=vof_pc (-1) 1 (by omega) (by omega)
 have v15:PC prog 80 [.prim (.int .i64 (1)),.prim (.int .i64 (5))] (pV ⟨1,5⟩):=vof_pc 1 5 (by omega) (by omega)
 have o1:PC prog 43 [.prim (.int .i64 (1))] (qV 1):=ofQ_pc 1 (by omega) (by omega)
 have pl:PC prog 22 [.agg [psV triL,.prim (.slice none 0 0)],pV ⟨0,1⟩,pV ⟨1,1⟩] (.tup [cgV triM [],.prim (.int .i64 (0))]):=PC_nilA tri_place
 have sm:PC prog 40 [cgV triM [],.agg [psV triM,.prim (.slice none 0 0)]] (.prim (.bool true)):=PC_arg2 (fun _ _ _ h=>VR_anil h) (same_pc triM [] (by decide) (by decide) (fun _ h=>(by cases h)))
 have eM:cgV triM []= .agg [psV triM,.lst 1 []]:=rfl
 rw [eM] at pl sm
 have e01:pV ⟨0,1⟩= .agg [.prim (.bool false),.prim (.string (bs ([]))),.prim (.string (bs ([]))),.prim (.bool (can 1).neg),.prim (.string (bs ((can 1).num))),.prim (.string (bs ((can 1).den)))]:=by simp only [pV,ptV,can_zero]
 rw [e01] at pl
 refine PCi ?_
 conv in trip _ _=>cbv
 simp only [runT,RN,simprocAttr]
 simp (disch:=omega) only [↓RS,RZ,simprocAttr]
 refine cX v00 ?_
 simp (disch:=omega) only [↓RS,RZ,simprocAttr,pV,ptV]
 refine cX v40 ?_
 simp (disch:=omega) only [↓RS,RZ,simprocAttr,pV,ptV]
 refine cX v02 ?_
 simp (disch:=omega) only [↓RS,RZ,simprocAttr,pV,ptV]
 refine cX o1 ?_
 simp (disch:=omega) only [↓RS,RZ,simprocAttr,qV,rV]
 refine cX v11 ?_
 simp (disch:=omega) only [↓RS,RZ,simprocAttr,pV,ptV]
 refine callD_qc (.tup [.agg [psV triM,.lst 1 []],.prim (.int .i64 (0))]) (some (0,none)) ⟨rfl,rfl,⟨_,rfl⟩,by simp [touch],by simp [hasTop,hasPtr]⟩ ?_ ?_
 ·intro H0 h0
  have q0:get H0 0=some (.row 6 true (triL.map pc)):=by rw [h0 0 (by simp [touch])];rfl
  have ql:=get_lt_len q0
  refine SC_freeze1 q0 ?_ pl ⟨rfl,fun c k h=>h⟩
  have g:get ((List.replicate H0.length (none:Option Blk)).set 0 (some (.row 6 true (triL.map pc)))) 0=some (.row 6 true (triL.map pc)):=get_eq (by rw [List.length_replicate];exact ql)
  have k3:= @viewLL_prims ((List.replicate H0.length (none:Option Blk)).set 0 (some (.row 6 true (triL.map pc)))) 6 _ (pc_prims triL)
  have k1:(triL.map pc).length=3:=rfl
  have k2:(triL.map pc).take 3=triL.map pc:=rfl
  simp only [viewArgs,view,view.viewL,g,Nat.zero_add,k1,Nat.le_refl,if_true,List.drop_zero,k2,k3,Option.map_some,psV,pV,ptV]
 ·simp (disch:=omega) only [↓RS,RZ,simprocAttr,setO,psV,touch_sref,touchS_row]
  refine cX vm1 ?_
  simp (disch:=omega) only [↓RS,RZ,simprocAttr,pV,ptV]
  refine cX v11 ?_
  simp (disch:=omega) only [↓RS,RZ,simprocAttr,pV,ptV]
  refine cX v15 ?_
  simp (disch:=omega) only [↓RS,RZ,simprocAttr,pV,ptV]
  refine cX sm ?_
  simp (disch:=omega) only [↓RS,RZ,simprocAttr]
end Go.Av
namespace Go.Av
open Go.RowKit
open Go.Proofs.Tryz (prog)
theorem chkR_ok {l:List Rp} (h:chkR l=0):allOk l=true:=by
 unfold chkR at h
 split at h
 ·cases h
 ·split at h
  ·assumption
  ·cases h
def Aff.le (t:Aff) (A:Nat):Prop:=ht t.a≤A∧ht t.b≤A∧ht t.c≤A∧ht t.d≤A∧ht t.e≤A∧ht t.f≤A
theorem hp_ap {t:Aff} {A k:Nat} (h:t.le A) {p:Pt} (hp0:hp p≤k):hp (t.ap p)≤3*A+2*k+2:=by
 obtain ⟨h1,h2,h3,h4,h5,h6⟩:=h
 have x:=hp_x p
 have y:=hp_y p
 have m1:=ht_mul t.a p.x;have m2:=ht_mul t.b p.y;have m3:=ht_mul t.c p.x;have m4:=ht_mul t.d p.y
 have a1:=ht_add (t.a*p.x) (t.b*p.y);have a2:=ht_add (t.a*p.x+t.b*p.y) t.e
 have a3:=ht_add (t.c*p.x) (t.d*p.y);have a4:=ht_add (t.c*p.x+t.d*p.y) t.f
 exact hp_mk (by omega) (by omega)
def hlP (L:List Pt) (Hs:List (List Pt)) (k:Nat):Prop:=∀ l∈L::Hs,hl l k
theorem hlP.fits {L:List Pt} {Hs:List (List Pt)} {k A:Nat} (h:hlP L Hs k) {t:Aff} (ht:t.le A) (hk:3*A+2*k+2≤2^16):Fits t L Hs:=by
 intro l hl p hp
 obtain ⟨q,hq,rfl⟩:=List.mem_map.1 hp
 exact Nat.le_trans (hp_ap ht (h l hl q hq)) hk
theorem hlP.img {L:List Pt} {Hs:List (List Pt)} {k A:Nat} (h:hlP L Hs k) (hv:Valid L Hs) (h3:Hs.length≤3) {t:Aff} (ht:t.le A) (hp:Par t) (hk:3*A+2*k+2≤2^16):hlP (imgL t L) (imgH t Hs) (3*A+2*k+2):=by
 have one:∀ l,l∈L::Hs→hl (imgL t l) (3*A+2*k+2):=by
  intro l hl p hp
  obtain ⟨q,hq,rfl⟩:=imgL_mem hp
  exact hp_ap ht (h l hl q hq)
 intro l hl
 rcases List.mem_cons.1 hl with rfl|hl
 ·exact one L (List.mem_cons_self ..)
 ·have pm:=sortH_perm hv h3 hp (h.fits ht hk)
  obtain ⟨l0,h0,rfl⟩:=List.mem_map.1 (pm.mem_iff.1 hl)
  exact one l0 (List.mem_cons_of_mem _ h0)
theorem FineT.hlP {O:List Rp} {hs:List (List Rp)} {r v:Rp} {k:Rt} (h:FineT O hs r v k):Av.hlP (pts O) (hs.map pts) 12:=by
 intro l hl
 rcases List.mem_cons.1 hl with rfl|hl
 ·exact hl_pts (chkR_ok h.f.o0) h.leO (by omega)
 ·obtain ⟨l0,h0,rfl⟩:=List.mem_map.1 hl
  exact hl_pts (chkR_ok (h.f.hr l0 h0)) (h.leH l0 h0) (by omega)
theorem ht_one:ht 1≤1:= @ht_int 1 (by omega)
theorem ht_mone:ht (-1)≤1:= @ht_int (-1) (by omega)
theorem le_place {r v:Pt} {A:Nat} (h0:hp r≤A) (h:hp v≤A):(placeA r v).le A:=by
 have:=hp_x v;have:=hp_y v;have:=hp_x r;have:=hp_y r;have:=ht_neg r.y
 exact ⟨by simp only [placeA];omega,by simp only [placeA];omega,by simp only [placeA];omega,by simp only [placeA];omega,by simp only [placeA];omega,by simp only [placeA];omega⟩
theorem le_mir:mirA.le 1:=by
 have:=ht_one;have:=ht_mone;have:=ht_zero
 exact ⟨by simp only [mirA];omega,by simp only [mirA];omega,by simp only [mirA];omega,by simp only [mirA];omega,by simp only [mirA];omega,by simp only [mirA];omega⟩
theorem le_scale {k:Rat} {A:Nat} (h:ht k≤A) (hA:1≤A):(scaleA k).le A:=by
 have:=ht_zero
 exact ⟨by simp only [scaleA];omega,by simp only [scaleA];omega,by simp only [scaleA];omega,by simp only [scaleA];omega,by simp only [scaleA];omega,by simp only [scaleA];omega⟩
end Go.Av
