/- texts of one claim, one behind the other. -/
import Derived.Test.YtfflpdekojlnmaaGreatDoorXOpenX
import Derived.Test.YtfflpdekojlnmaaGreatDoorXLens
import Derived.Test.YtfflpdekojlnmaaGreatDoorRows
import Derived.LaidMore
import Derived.OpenShut
import Derived.Test.YtfflpdekojlnmaaGreatDoorXAbsV
import Derived.Lib.ItoaNum
import Derived.Shelf.SlIter.Sorted
import Derived.Shelf.SortM.Plain
import Derived.Shelf.SortM.SortNone
set_option linter.unusedSimpArgs false
set_option linter.unusedVariables false
set_option maxRecDepth 100000
set_option maxHeartbeats 16000000
open BitVec renaming eq_of_toNat_eq -> VV, lt_of_getLsbD -> VW, eq_of_getLsbD_eq -> VX, getLsbD_and -> VY, getLsbD_neg -> VZ
open Bool renaming eq_false_or_eq_true -> VT, and_eq_true -> UW, and_self -> Wc
open List renaming drop_eq_getElem_cons -> Vd, mem_cons_self -> Va, mem_cons_of_mem -> U8, mem_flatMap -> VU, all_eq_true -> Vj, mem_cons -> Vt, getElem?_eq_some_iff -> Uc, mem_append_left -> V0, getElem?_eq_getElem -> Uq, pairwise_iff_getElem -> V1, length_map -> U2, getElem_map -> V2, mem_range -> Vk, mem_singleton -> V3, mem_append -> V4, foldl_append -> V5, nil_append -> VJ, append_assoc -> UD, findIdx?_eq_none_iff -> Vs, findIdx?_eq_some_iff_getElem -> Vr, map_append -> V7, nodup_append -> V8, length_append -> Ug, length_singleton -> V9, getD_eq_getElem?_getD -> U3, getElem?_append_left -> Ud, getElem?_append_right -> UF, map_cons -> Wa, foldl_cons -> VN, getElem?_map -> Ut, map_map -> Wd, pairwise_map -> We, getElem?_cons_zero -> Ve
open Option.some renaming inj -> T6, injEq -> Um
open List.cons renaming injEq -> V6
open Nat renaming le_refl -> T7, lt_or_ge -> Ue
open Option renaming getD_some -> Wb
open Classical renaming byContradiction -> Wf
namespace Go.Proofs.YtfflpdekojlnmaaGreatDoor
open Go.RowKit
section
theorem uZ (x:Ex) (h:x.ok):ar Tryz.prog 27 [.agg (aS x)] (.v (.bool (ay x))):=
 .Im (by kernel_rfl) (by simp only [aX,AV.wf,fe,Bool.and_self]) (fun D nu w vargs hh=>by
  obtain ⟨a,rfl,ha⟩:=kX hh;obtain ⟨ca,rfl,ka⟩:=IK ha
  exact uh x ca w (IS x ca ka) h)
def y9 (p:Ex->Bool):List Ex->Nat->Int
 | [],_=> -1
 | x :: xs,i=>if p x then (i:Int) else y9 p xs (i+1)
theorem za (p:Ex->Bool): ∀(l:List Ex) (i:Nat),decide (0<=y9 p l i)=l.any p
 | [],i=>rfl
 | x :: xs,i=>by
  rw [y9,List.any_cons]
  cases p x with
  | true=>simp
  | false=>simpa using za p xs (i+1)
theorem xm {g:FuncId} (p:Ex->Bool) (l:List Ex) (hl:l.length<=1000000) (H: ∀x,x∈l->ar Tryz.prog g [.agg (aS x)] (.v (.bool (p x)))) :
  ar Tryz.prog 137 [.aC 3 (l.map aS) l.length, .fn g [] []] (.v (.int .i64 (y9 p l 0))):=by
 refine gE Tryz.func137 Tryz.ntmps137 Tryz.results137 ?_
 (refine au ?_;intro K hK)
 refine bo (ι:=Nat) 8 (fun i=>[(5, .undef),(8, .v (.int .i64 i))]) (fun i=>l.length - i) (fun i=>i<=l.length∧y9 p l 0=y9 p (l.drop i) i) 0 ⟨Nat.zero_le _,rfl⟩ ?_ ?_
 ·refine bp ?_ aj
  rfl
 rintro i ⟨hi,hx⟩ K hK
 (revert K;revert K;refine au ?_;intro K hK K hK K hK)
 refine bC.part (fun h=> ?_) (fun h=> ?_)
 ·have hlt:i<l.length:=by replace h:=bJ h;omega
  have eW:=ak (k:=i) (by omega);have eG:=getD_map aS l i [] hlt;have HX:=H l[i] (List.getElem_mem hlt);rw [Vd hlt,y9] at hx;simp only [aD] at HX eG
  repeat (first|(with_reducible first|refine aA.up ?_|refine fun (K:AK) hK=> ?_|(refine hK _ ?_;clear hK K))|simp only [go_sem,eG,aD]|with_reducible refine wA ?_|clear hK K)
  refine ab.one HX ?_
  rcases VT (p l[i]) with hp|hp
  ·rw [hp,if_pos rfl] at hx
   ((iterate 5 revert K);refine aK hp ?_)
   rw [hx]
  ·rw [hp,if_neg (by decide)] at hx
   ((iterate 5 revert K);refine qE hp eW ?_)
   exact az.mk (i+1) ⟨by omega,hx⟩ (by omega) (by exact aO aj)
 ·have:i=l.length:=by replace h:=bJ h;omega
  rw [this,List.drop_length,y9] at hx
  ((iterate 3 revert K);refine au ?_)
  rw [hx]
theorem lq {g:FuncId} (p:Ex->Bool) (l:List Ex) (hl:l.length<=1000000) (H: ∀x,x∈l->ar Tryz.prog g [.agg (aS x)] (.v (.bool (p x)))) :
  ar Tryz.prog 113 [.aC 3 (l.map aS) l.length, .fn g [] []] (.v (.bool (l.any p))):=by
 have C:=xm p l hl H;refine gE Tryz.func113 Tryz.ntmps113 Tryz.results113 ?_
 (refine bF ?_;intro K hK K hK)
 refine ab.one C ?_
 (revert K;revert K;refine bF ?_)
 rw [za]
theorem BC (x:Ex) (H:ar Tryz.prog 82 [.agg (aS x)] (.v (.bool (aG x)))):ar Tryz.prog 114 [.agg (aS x)] (.v (.bool (!aG x))):=by
 simp only [aD] at H ⊢;refine gE Tryz.func114 Tryz.ntmps114 Tryz.results114 ?_
 (refine bF ?_;intro K hK K hK)
 refine ab.one H ?_
 (revert K;revert K;exact y0)
theorem Kx (x:Ex) (hx:x.lens 1000000):ar Tryz.prog 82 [.agg (aS x)] (.v (.bool (aG x))):=by
 induction x using Ex.ind with
 | h k s l ih=>
  have hl:l.length<=1000000:=hx (.mk k s l) (by rw [ai];exact Va);have H:=fun x (h:x∈l)=>ih x h (fun y hy=>hx y (by rw [ai,bn];exact U8 _ (VU.2 ⟨x,h,hy⟩)));have C1:=lq aG l hl H;have C2:=lq (fun x=> !aG x) l hl (fun x h=>BC x (H x h))
  have e1:l.all aG = !l.any (fun x=> !aG x):=by simp [List.all_eq_not_any_not]
  simp only [aD,Ex.kind,Ex.label,Ex.kids,aG,nK,kN]
  by_cases h4:k=4
  ·subst h4;refine gE Tryz.func82 Tryz.ntmps82 Tryz.results82 ?_;exact yZ
  ·by_cases h6:k=6
   ·subst h6;refine gE Tryz.func82 Tryz.ntmps82 Tryz.results82 ?_;exact yZ
   ·by_cases h3:k=3
    ·subst h3;refine gE Tryz.func82 Tryz.ntmps82 Tryz.results82 ?_
     (refine au ?_;intro K hK K hK K hK)
     refine ab.one C1 ?_
     ((iterate 3 revert K);exact yZ)
    ·by_cases h2:k=2
     ·subst h2;refine gE Tryz.func82 Tryz.ntmps82 Tryz.results82 ?_
      (refine au ?_;intro K hK K hK K hK)
      refine ab.one C2 ?_
      ((iterate 3 revert K);refine au ?_)
      rw [e1]
     ·by_cases h5:k=5
      ·subst h5;refine gE Tryz.func82 Tryz.ntmps82 Tryz.results82 ?_
       (refine au ?_;intro K hK K hK K hK)
       refine ab.one C2 ?_
       ((iterate 3 revert K);refine au ?_)
       rw [e1]
      ·have f4:(k==4)=false:=beq_false_of_ne h4;have f6:(k==6)=false:=beq_false_of_ne h6;have f3:(k==3)=false:=beq_false_of_ne h3;have f2:(k==2)=false:=beq_false_of_ne h2;have f5:(k==5)=false:=beq_false_of_ne h5;simp only [if_neg h4,if_neg h6,if_neg h3,if_neg h2,if_neg h5];refine gE Tryz.func82 Tryz.ntmps82 Tryz.results82 ?_;exact Pz f4 f6 f3 f2 f5
def dj (x:Ex):Bool:=ay x&&aG x
theorem BP {x:Ex} (h:ay x=true):x.lens 1000000:=fun y hy=>by
 simp only [ay,UW,decide_eq_true_eq] at h;have h1:=gG x y hy;have h2:=kQ y;omega
theorem Cc (x:Ex) (h:x.ok):ar Tryz.prog 53 [.agg (aS x)] (.v (.bool (dj x))):=by
 have R:=uZ x h
 rcases VT (ay x) with hr|hr
 ·have E:=Kx x (BP hr);rw [hr] at R;rw [show dj x=aG x by rw [dj,hr];rfl];simp only [aD] at R E ⊢;refine gE Tryz.func53 Tryz.ntmps53 Tryz.results53 ?_
  (refine bF ?_;intro K hK K hK)
  refine ab.one R ?_
  (revert K;revert K;refine bF ?_;intro K hK K hK)
  refine ab.one E ?_
  (revert K;revert K;exact y0)
 ·rw [hr] at R;rw [show dj x=false by rw [dj,hr];rfl];simp only [aD] at R ⊢;refine gE Tryz.func53 Tryz.ntmps53 Tryz.results53 ?_
  (refine bF ?_;intro K hK K hK)
  refine ab.one R ?_
  (revert K;revert K;exact Nr)
theorem Fb (x:Ex) (h:(ai x).all Ex.part=true) (hn:(ai x).length<=900):Fit x∧AA x:=by
 induction x using Ex.ind with
 | h k s l ih=>
  have hp:bc k s l.length=true:=Vj.1 h (.mk k s l) (by rw [ai];exact Va)
  have hm: ∀x,x∈l->x∈ai (.mk k s l):=fun x hx=>by
   rw [ai,bn];exact U8 _ (VU.2 ⟨x,hx,by obtain ⟨k',s',l'⟩:=x;rw [ai];exact Va⟩)
  have H:=fun x (hx:x∈l)=>ih x hx (Vj.2 fun y hy=>Vj.1 h y (by rw [ai,bn];exact U8 _ (VU.2 ⟨x,hx,hy⟩))) (by
   have h1:=gG (.mk k s l) x (hm x hx)
   omega)
  have hl:l.length<=900:=by have:=kQ (.mk k s l);simp only [Ex.kids] at this;omega
  unfold bc at hp
  by_cases h1:k=1
  ·subst h1;simp only [BEq.rfl,if_true,UW,decide_eq_true_eq] at hp;have hl0:l=[]:=List.eq_nil_of_length_eq_zero hp.1;subst hl0;exact ⟨.lab s, .lab s⟩
  ·rw [if_neg (by simpa using h1)] at hp
   by_cases h2:k=2∨k=3
   ·rw [if_pos (by simpa using h2)] at hp;simp only [UW,decide_eq_true_eq] at hp;exact ⟨.many k s l h2 hp.1 (fun x hx=>(H x hx).1), .many k s l h2 hl (fun x hx=>(H x hx).2)⟩
   ·rw [if_neg (by simpa using h2)] at hp
    by_cases h3:k=4∨k=5∨k=6
    ·rw [if_pos (by simpa [or_assoc] using h3)] at hp;simp only [UW,decide_eq_true_eq] at hp
     obtain ⟨x,rfl⟩: ∃x,l=[x]:=by
      match l,hp.1 with
      | [x],_=>exact ⟨x,rfl⟩
     exact ⟨.one k s x h3 (H x (by simp)).1, .one k s x h3 (H x (by simp)).2⟩
    ·rw [if_neg (by simpa [or_assoc] using h3)] at hp;cases hp
theorem dX {x:Ex} (h:ay x=true):Fit x∧AA x:=by
 simp only [ay,UW,decide_eq_true_eq] at h;exact Fb x h.2 (by omega)
noncomputable def jH (x:Ex) (w:List ByteArray):Bool:=ay x && @decide (Lg x w) (Classical.propDecidable _)
theorem ia {x:Ex} {w:List ByteArray}:jH x w=true↔ay x=true∧Lg x w:=by simp [jH]
theorem mD (n:Int):IntKind.u32.wrap n=n % 4294967296:=by simp [IntKind.wrap,IntKind.signed,IntKind.bits]
theorem B2 (m:BitVec 32):IntKind.u32.wrap (m.toNat:Int)=m.toNat:=by
 rw [mD];have:=m.isLt;omega
theorem jf (m:BitVec 32):BitVec.ofInt 32 (m.toNat:Int)=m:=by
 simp
theorem C5 (m:BitVec 32):IntKind.u32.wrap ((m.toNat:Int) - 1)=(m - 1#32).toNat:=by
 rw [mD,BitVec.toNat_sub];have:=m.isLt;simp;omega
theorem K7 (m:BitVec 32):IntKind.u32.wrap (0 - (m.toNat:Int))=(-m).toNat:=by
 rw [mD,BitVec.toNat_neg];have:=m.isLt;omega
theorem K6 (m:BitVec 32):IntKind.u32.wrap ((m.toNat:Int) * 125613361)=(m * 125613361#32).toNat:=by
 rw [mD,BitVec.toNat_mul];simp
theorem Lb (m:BitVec 32):(m.toNat:Int).fdiv (2 ^ min 27 32)=(m >>> 27).toNat:=by
 show (m.toNat:Int).fdiv (2 ^ 27)=_;rw [BitVec.toNat_ushiftRight,Nat.shiftRight_eq_div_pow];simp [Int.fdiv_eq_ediv_of_nonneg]
theorem La (p:Nat):IntKind.u32.wrap (1 * 2 ^ p)=(1#32 <<< p).toNat:=by
 rw [mD,BitVec.toNat_shiftLeft,Nat.shiftLeft_eq];simp
theorem K9 (m:BitVec 32):decide ((0:Int)<(m.toNat:Int))=(m !=0#32):=by
 by_cases h:m=0#32
 ·subst h;simp
 ·have e:m.toNat≠0:=fun e=>h (VV (by simpa using e));rw [bne_iff_ne.2 h];exact decide_eq_true (by omega)
theorem Ic (m:BitVec 32):((m.toNat:Int)==0)=(m==0#32):=by
 by_cases h:m=0#32
 ·subst h;simp
 ·have e:m.toNat≠0:=fun e=>h (VV (by simpa using e));rw [beq_eq_false_iff_ne.2 h];exact beq_eq_false_iff_ne.2 (by omega)
theorem xA (m n:BitVec 32):Hi .u32 m.toNat n.toNat=(m &&& n).toNat:=by
 rw [Hi];show IntKind.u32.wrap ((BitVec.ofInt 32 _ &&& BitVec.ofInt 32 _).toNat:Int)=_;rw [jf,jf,B2]
theorem kT (m n:BitVec 32):QO .u32 m.toNat n.toNat=(m ||| n).toNat:=by
 rw [QO];show IntKind.u32.wrap ((BitVec.ofInt 32 _ ||| BitVec.ofInt 32 _).toNat:Int)=_;rw [jf,jf,B2]
theorem K8 (m n:BitVec 32):rj .u32 m.toNat n.toNat=(m &&& ~~~ n).toNat:=by
 rw [rj];show IntKind.u32.wrap ((BitVec.ofInt 32 _ &&& ~~~ BitVec.ofInt 32 _).toNat:Int)=_;rw [jf,jf,B2]
def aq (m:BitVec 32):List Nat:=(List.range 32).filter m.getLsbD
theorem aW {m:BitVec 32} {p:Nat}:p∈aq m↔m.getLsbD p=true:=by
 simp only [aq,List.mem_filter,List.mem_range];exact ⟨fun h=>h.2,fun h=>⟨VW h,h⟩⟩
theorem jl (m:BitVec 32):(aq m).Pairwise (· < ·):=List.pairwise_lt_range.filter _
theorem Ec (m:BitVec 32):(aq m).length<=32:=by
 have:=List.length_filter_le m.getLsbD (List.range 32)
 simpa [aq] using this
theorem kK:aq 0#32=[]:=by simp [aq]
theorem pR {m:BitVec 32} (h:aq m=[]):m=0#32:=by
 refine VX fun i hi=> ?_
 cases hb:m.getLsbD i with
 | false=>simp
 | true=>have:=aW.2 hb;rw [h] at this;cases this
theorem oY {m:BitVec 32} {p:Nat} {r:List Nat} (h:aq m=p :: r):m.getLsbD p=true∧p<32∧(∀j,j<p->m.getLsbD j=false)∧ ∀j,j∈r↔(m.getLsbD j=true∧p<j):=by
 have hm:m.getLsbD p=true:=aW.1 (by rw [h];simp);have hr:=jl m;rw [h,List.pairwise_cons] at hr
 refine ⟨hm,VW hm,fun j hj=> ?_,fun j=>⟨fun hj=>⟨aW.1 (by rw [h];exact U8 _ hj),hr.1 j hj⟩,fun hj=> ?_⟩⟩
 ·cases hb:m.getLsbD j with
  | false=>rfl
  | true=>
   have:=aW.2 hb
   rw [h,Vt] at this
   rcases this with rfl|hh
   ·omega
   ·have:=hr.1 j hh;omega
 ·have:=aW.2 hj.1
  rw [h,Vt] at this
  rcases this with rfl|hh
  ·omega
  ·exact hh
theorem K1 {m:BitVec 32} {p:Nat} {r:List Nat} (h:aq m=p :: r):m &&& -m=1#32 <<< p:=by
 obtain ⟨h1,h2,h3,h4⟩:=oY h;refine VX fun i hi=> ?_;rw [VY,VZ,BitVec.getLsbD_shiftLeft,BitVec.getLsbD_one]
 rcases Nat.lt_trichotomy i p with q|q|q
 ·simp [h3 i q,q]
 ·subst q
  have: ¬ ∃j,j<i∧m.getLsbD j=true:=fun ⟨j,a,b⟩=>by rw [h3 j a] at b;cases b
  rw [h1,decide_eq_false this];simp [hi]
 ·have: ∃j,j<i∧m.getLsbD j=true:=⟨p,q,h1⟩
  have e:i - p≠0:=by omega
  simp [this,hi,e]
theorem H7 {m:BitVec 32} {p:Nat} {r:List Nat} (h:aq m=p :: r):aq (m &&& (m - 1#32))=r:=by
 obtain ⟨h1,h2,h3,h4⟩:=oY h;have hr:=jl m;rw [h,List.pairwise_cons] at hr
 have key: ∀j,(m &&& (m - 1#32)).getLsbD j=true↔j∈r:=fun j=>by
  rw [h4, <- BitVec.not_neg,VY,BitVec.getLsbD_not,VZ]
  rcases Nat.lt_or_ge p j with q|q
  ·have: ∃k,k<j∧m.getLsbD k=true:=⟨p,q,h1⟩
   by_cases hj:m.getLsbD j=true
   ·have:=VW hj
    simp_all
   ·simp_all
  ·by_cases hj:m.getLsbD j=true
   ·have e:j=p:=by
     rcases Nat.lt_or_ge j p with a|a
     ·rw [h3 j a] at hj;cases hj
     ·omega
    subst e
    have: ¬ ∃k,k<j∧m.getLsbD k=true:=fun ⟨k,a,b⟩=>by rw [h3 k a] at b;cases b
    rw [h1,decide_eq_false this];simp [h2]
   ·simp_all
 exact pe (jl _) hr.2 (fun j=>aW.trans (key j))
def aM (m:BitVec 32):AV:= .v (.int .u32 m.toNat)
def z7:List Int:=[0,1,28,2,29,14,24,3,30,22,20,15,25,17,4,8,31,27,13,23,21,19,16,7,26,12,18,6,11,5,10,9]
theorem N8: ∀p:Nat,p<32->z7[((1#32 <<< p * 125613361#32) >>> 27).toNat]? = some (p:Int):=by decide
theorem Na (s:AS):s.ev (.global 0) = .vp (z7.map fun i=> .v (.int .u8 i)):=rfl
theorem Ku {l:List Int} {f:Int->AV} {n:Nat} {x:Int} (e:l[n]? = some x): ∃r,(l.map f).drop n=f x :: r:=by
 obtain ⟨h1,h2⟩:=Uc.1 e;exact ⟨_,by rw [Vd (by simpa using h1),List.getElem_map,h2]⟩
theorem Jj {p:Nat} (hp:p<32): ∃n r,((1#32 <<< p * 125613361#32) >>> 27).toNat=n∧n<32∧(z7.map fun i=>AV.v (.int .u8 i)).drop n = .v (.int .u8 p) :: r:=by
 have e:=N8 p hp;generalize ((1#32 <<< p * 125613361#32) >>> 27).toNat=n at *;obtain ⟨r,h⟩:=Ku (f:=fun i=>AV.v (.int .u8 i)) e;exact ⟨n,r,rfl,(Uc.1 e).1,h⟩
theorem Od {m:BitVec 32} {p:Nat} {r:List Nat} (h:aq m=p :: r): ∃(M N1 N2 N3:Int) (n:Nat) (r':List AV),(m.toNat:Int)=M∧(M==0)=false∧IntKind.u32.wrap (0 - M)=N1∧Hi .u32 M N1=N2∧IntKind.u32.wrap (N2 * 125613361)=N3 ∧
  N3.fdiv (2 ^ min 27 32)=n∧n<32∧(z7.map fun i=>AV.v (.int .u8 i)).drop (n * 1) = .v (.int .u8 p) :: r':=by
 have hp:=(oY h).2.1
 have hm:m≠0#32:=fun e=>by rw [e,kK] at h;cases h
 obtain ⟨n,r',eN,hn,eI⟩:=Jj hp;refine ⟨_,_,_,_,n,r',rfl,by rw [Ic];exact beq_eq_false_iff_ne.2 hm,rfl,rfl,rfl, ?_,hn,by rw [Nat.mul_one];exact eI⟩;rw [K7,xA,K1 h,K6,Lb,eN]
theorem Sv {m:BitVec 32} {p:Nat} {r:List Nat} (h:aq m=p :: r):ar Tryz.prog 139 [aM m] (.v (.int .i64 p)):=by
 have hp:=(oY h).2.1;obtain ⟨M,N1,N2,N3,n,r',e0,z1,e1,e2,e3,e4,hn,eI⟩:=Od h;simp only [aM,e0];refine gE Tryz.func139 Tryz.ntmps139 Tryz.results139 ?_
 repeat (first|(with_reducible first|refine aA.up ?_|refine fun (K:AK) hK=> ?_|(refine hK _ ?_;clear hK K))|simp only [go_sem,z1,e1,e2,e3,e4,Na,eI]|with_reducible refine wA ?_|clear hK K)
 have eW:IntKind.i64.wrap (p:Int)=p:=dr (by omega) (by omega);exact CR eW
def nH (m:BitVec 32):aa:=⟨96,1,false,[[aM m]]⟩
theorem Eg (p:Nat) (l:List Nat):aI (p :: l)=[.v (.int .i64 p)] :: aI l:=rfl
theorem J9 (m:BitVec 32):rJ Tryz.prog 138 [.ptr 0 0 1 0 0] [some (nH m)] (aI (aq m)):=by
 simp only [nH,aM]
 (refine rJ.enter Tryz.func138 rfl (by kernel_rfl) (by kernel_rfl) rfl (fun l=> ?_);simp only [Tryz.ntmps138,Tryz.results138,List.length_cons,List.length_nil,Nat.reduceAdd,Nat.reduceSub,List.replicate_succ,List.replicate_zero,List.cons_append,List.nil_append])
 refine bF ?_
 refine uS (ι:=BitVec 32) 3 (fun i=>[]) (fun i=>[some (nH i)]) (fun i=> .run l (aI (aq i))) (fun i=>(aq i).length) (fun _=>True) m trivial ?_ ?_
 ·simp only [nH,aM];exact aO aj
 ·rintro i hi K hK;simp only [nH,aM]
  repeat (first|(with_reducible first|refine aA.up ?_|refine fun (K:AK) hK=> ?_|(refine hK _ ?_;clear hK K))|simp only [go_sem,K9]|clear hK K)
  refine bC.part (fun h=> ?_) (fun h=> ?_)
  ·cases hb:aq i with
   | nil=>rw [pR hb] at h;simp at h
   | cons p r=>
    have C:=Sv hb;have eY:=Eg p r;have hR:=H7 hb;simp only [aM] at C
    (revert K;revert K;refine bF ?_;iterate 4 intro K hK)
    refine ab.one C ?_
    repeat' (first|(with_reducible first|refine aA.up ?_|refine fun (K:AK) hK=> ?_|(refine hK _ ?_;clear hK K))|simp only [go_sem,eY,C5,xA]|clear hK K|(with_reducible refine ab.one (by assumption) ?_)|(with_reducible refine ba.one (by assumption) ?_)|(refine bC.part (fun hb=> ?_) (fun hb=> ?_)<;>simp only [hb,go_sem,eY,C5,xA])|(refine bC.part (fun hb=> ?_) (fun hb=> ?_))|(with_reducible refine ni.mk ?_ ?_))
    ·refine az.mk (i &&& (i - 1#32)) trivial ?_ ?_
     ·rw [hR,hb];simp
     ·rw [hR];simp only [nH,aM];exact aO aj
    ·exact .inr trivial
  ·have e1:i=0#32:=by simpa using h
   subst e1;simp only [kK,aI,List.map_nil]
   (revert K;revert K;refine bF ?_)
   exact .inl trivial
theorem pw (m:BitVec 32):dN Tryz.prog 115 [aM m] [] (.fn 138 [] [.ptr 0 0 1 0 0]) [some (nH m)]:=by
 simp only [nH,aM];refine gF Tryz.func115 Tryz.ntmps115 Tryz.results115 ?_;refine au ?_
 (refine ⟨?_, ?_, ?_⟩<;>simp only [dt,kE,AV.v.injEq,Value.int.injEq,Value.bool.injEq,Value.string.injEq,AV.vec.injEq,AV.ptr.injEq,true_or,or_true,false_or,or_false,aa.mk.injEq,forall_eq_apply_imp_iff,forall_eq,forall_eq',go_sem])
open Go.ChangeShapes Go.WideShapes Go.ChangeAt Go.RowKit
theorem H8 {P:Program} {w:World} {n:String} {d:DataW Unit}: ∀(laid:List (String×DataW Unit)) (ps:List MemPlace),DataW.LaidVars P w laid ps->(n,d)∈laid ->
  ∃g t cs fuel p,P.globalNamed n=some g∧(P.globals[g]?).map (·.type)=some t∧w.var? P n=some cs∧DataW.trod (fun _=>()) P w 0 (fun _=>true) false fuel t cs.toList=some (d,p)∧ ∀m∈MemPlace.row ⟨g,0,none⟩ cs.size,m∈ps
 | [],ps,h,hm=>by cases hm
 | (n',d') :: r,ps,h,hm=>by
  obtain ⟨g,t,cs,fuel,p,q,h1,h2,h3,h4,h5,rfl⟩:=h
  rcases Vt.1 hm with e|hm
  ·cases e;exact ⟨g,t,cs,fuel,p,h1,h2,h3,h4,fun m hm=>V0 _ (V0 _ hm)⟩
  ·obtain ⟨g',t',cs',fuel',p',k1,k2,k3,k4,k5⟩:=H8 r q h5 hm;exact ⟨g',t',cs',fuel',p',k1,k2,k3,k4,fun m hm=>List.mem_append_right _ (k5 m hm)⟩
theorem z8 {P:Program} {w:World} {n:String} {laid:List (String×DataW Unit)} {d:DataW Unit} {g:Nat} {T E:TypeId} {k:IntKind} {N:Nat} (vals:List Int) (hm:(n,d)∈laid) (hd:d = .agg (vals.map fun i=> .lit (.int k i))) (hG:P.globalNamed n=some g) (hT:(P.globals[g]?).map (·.type)=some T) (uT:P.underlying T=some (.array N E)) (uE:P.underlying E=some (.int k))
  (cE:P.cellsOf E=1) (cT:P.cellsOf T=N) (hN:0<N) (hv:vals.length=N) (h:laidMet P laid w): ∃t,w.heap[g]? = some (.cells (vals.map (fun i=>Value.int k i)).toArray t (0,0)):=by
 obtain ⟨ps,hl,hnd,hc⟩:=h;obtain ⟨g0,t0,cs0,f0,p0,hg0,ht0,hv0,hd0,hps⟩:=H8 _ _ hl hm;obtain rfl:=T6 (hG.symm.trans hg0);obtain rfl:=T6 (hT.symm.trans ht0);rw [hd] at hd0;obtain ⟨xs,m,rfl,hx,hlen,hn,hel⟩:=DataW.trod_array uT hd0
 have hxs:xs.map (·.1)=vals.map fun i=>(DataW.lit (.int k i):DataW Unit):=by
  simp only [Prod.mk.injEq,DataW.agg.injEq] at hx;exact hx.1.symm
 rw [cT] at hlen;rw [cE] at hel
 have hcs:cs0.toList=vals.map (fun i=>Value.int k i):=by
  refine List.ext_getElem (by rw [hlen,List.length_map,hv]) fun i h1 h2=> ?_
  have hi:i<N:=by omega
  have e1:=hel i hi;rw [Nat.mul_one,Vd h1,List.take_succ_cons,List.take_zero] at e1
  have hix:i<xs.length:=by omega
  rw [Uq hix] at e1;obtain ⟨n,k1,k2,_⟩:=DataW.trod_int uE e1
  have e2:(xs.map (·.1))[i]? = (vals.map fun i=>(DataW.lit (.int k i):DataW Unit))[i]? :=by rw [hxs]
  have hit:i<vals.length:=by omega
  rw [List.getElem?_map,List.getElem?_map,Uq hix,Uq hit,k2] at e2;simp only [Option.map_some,Um,DataW.lit.injEq,Lit.int.injEq,true_and] at e2;rw [List.getElem_map, <- e2];exact (List.cons.inj k1).1
 obtain ⟨⟨c,t,hb⟩,_⟩:=hc g 0 (hps _ (by
  rw [MemPlace.row,List.mem_map];refine ⟨0, ?_,rfl⟩
  rw [List.mem_range, <- Array.length_toList,hlen];exact hN))
 simp only [World.var?,hG,Option.bind_some,hb,Um] at hv0;refine ⟨t, ?_⟩;rw [hb,hv0, <- hcs,Array.toArray_toList]
def Qp:List Int:=[1,10,100,1000,10000,100000,1000000,10000000,100000000,1000000000,10000000000,100000000000,1000000000000,10000000000000,100000000000000,1000000000000000,10000000000000000,100000000000000000,1000000000000000000,10000000000000000000]
theorem Ev {w:World} (h:laidMetH Tryz.prog [("math/bits.deBruijn32tab", Rows.laid_math_bits_deBruijn32tab),("math/bits.deBruijn64tab", Rows.laid_math_bits_deBruijn64tab),("internal/strconv.uint64pow10", Rows.laid_internal_strconv_uint64pow10)] w):eh (fun _=>True) (fun _ _=>Go.undef) [] w:=by
 rw [MakeChecks.laidMetH_plain _ _ _ (by kernel_rfl)] at h
 have h1:=z8 (P:=Tryz.prog) (g:=0) (T:=203) (E:=5) (k:= .u8) (N:=32) (n:= "math/bits.deBruijn32tab") z7 (Va) rfl (by kernel_rfl) (by kernel_rfl) (by kernel_rfl) (by kernel_rfl) (by kernel_rfl) (by kernel_rfl) (by decide) rfl h
 have h2:=z8 (P:=Tryz.prog) (g:=1) (T:=217) (E:=178) (k:= .u64) (N:=20) (n:= "internal/strconv.uint64pow10") Qp (U8 _ (U8 _ Va)) rfl (by kernel_rfl) (by kernel_rfl) (by kernel_rfl) (by kernel_rfl) (by kernel_rfl) (by kernel_rfl) (by decide) rfl h
 intro g T cs hg;unfold vb at hg;refine ⟨?_,tx _ _,trivial⟩
 split at hg
 ·rename_i e;obtain ⟨-, rfl⟩:=Prod.mk.inj (T6 hg);subst e;exact h1
 ·split at hg
  ·rename_i e;obtain ⟨-, rfl⟩:=Prod.mk.inj (T6 hg);subst e;exact h2
  ·cases hg
end
section
theorem jt {s t:ByteArray}:cZ s t=true↔s=t:=toList_inj
theorem fg {α:Type} {p:List α->Prop} (h0:p []) (h1: ∀l a,p l->p (l++[a])) (l:List α):p l:=by
 rw [<-List.reverse_reverse l]
 induction l.reverse with
 | nil=>exact h0
 | cons a l ih=>rw [List.reverse_cons];exact h1 _ _ ih
theorem Hl (n m:Nat) (f:Nat->Nat) (h1: ∀a,a<n->f a<m) (h2: ∀a b,a<n->b<n->f a=f b->a=b):n<=m:=by
 have hn:((List.range n).map f).Nodup:=by
  rw [List.Nodup,V1];intro i j hi hj hij;simp only [U2,List.length_range] at hi hj;simp only [V2,List.getElem_range];intro e;have:=h2 i j hi hj e;omega
 have hs:((List.range n).map f) ⊆ List.range m:=fun x hx=>by
  obtain ⟨a,ha,rfl⟩:=List.mem_map.1 hx;exact Vk.2 (h1 a (Vk.1 ha))
 have:=hn.length_le_of_subset hs
 simpa using this
theorem yE (u:Nat): ∀c∈Lib.decDigits u,48<=c.toNat∧c.toNat<=57:=by
 induction u using Nat.strongRecOn with
 | _ u ih=>
  intro c hc;rw [Lib.decDigits] at hc
  split at hc
  ·simp only [V3] at hc;subst hc;simp;omega
  ·rw [V4] at hc
   rcases hc with hc|hc
   ·exact ih (u / 10) (by omega) c hc
   ·simp only [V3] at hc;subst hc;simp;omega
theorem r9 (u:Nat) (h:u<1000):(Lib.decDigits u).length<=3:=by
 rw [Lib.decDigits];split
 ·simp
 ·rw [Lib.decDigits];split
  ·simp
  ·rw [Lib.decDigits,dif_pos (by omega)];simp
def Dq (l:List UInt8):Nat:=l.foldl (fun a c=>a * 10+(c.toNat - 48)) 0
theorem ue (u:Nat):Dq (Lib.decDigits u)=u:=by
 induction u using Nat.strongRecOn with
 | _ u ih=>
  rw [Lib.decDigits];split
  ·rename_i h;simp [Dq];omega
  ·rename_i h
   have:=ih (u / 10) (by omega)
   rw [Dq,V5, <- Dq,this];simp;omega
theorem GM {u v:Nat} (h:Lib.decDigits u=Lib.decDigits v):u=v:=by rw [<-ue u, <- ue v,h]
theorem oP {u v:Nat} {r s:List UInt8} (h:Lib.decDigits u++r=Lib.decDigits v++s) (hr:r=[]∨r.head? = some 32) (hs:s=[]∨s.head? = some 32):u=v∧r=s:=by
 have key: ∀(a b r s:List UInt8),a++r=b++s->(∀c∈a,48<=c.toNat∧c.toNat<=57)->(∀c∈b,48<=c.toNat∧c.toNat<=57)->(r=[]∨r.head? = some 32)->(s=[]∨s.head? = some 32)->a=b∧r=s:=by
  intro a
  induction a with
  | nil=>
   intro b r s h ha hb hr hs
   cases b with
   | nil=>exact ⟨rfl,h⟩
   | cons c b=>
    have:=hb c List.mem_cons_self
    rw [VJ] at h;subst h
    rcases hr with hr|hr
    ·simp at hr
    ·simp at hr;subst hr;simp at this
  | cons d a ih=>
   intro b r s h ha hb hr hs
   cases b with
   | nil=>
    have:=ha d List.mem_cons_self
    rw [VJ] at h;subst h
    rcases hs with hs|hs
    ·simp at hs
    ·simp at hs;subst hs;simp at this
   | cons c b=>
    simp only [List.cons_append,V6] at h;obtain ⟨rfl,h⟩:=h;obtain ⟨h1,h2⟩:=ih b r s h (fun c hc=>ha c (U8 _ hc)) (fun c hc=>hb c (U8 _ hc)) hr hs;exact ⟨by rw [h1],h2⟩
 obtain ⟨h1,h2⟩:=key _ _ _ _ h (yE u) (yE v) hr hs;exact ⟨GM h1,h2⟩
def kO (l:List Nat):List UInt8:=l.flatMap (fun n=>Lib.decDigits n++[32])
def fW (l:List Nat):ByteArray:=⟨(kO l).toArray⟩
theorem zg: ∀ {l m:List Nat},kO l=kO m->l=m
 | [],[],_=>rfl
 | [],b :: m,h=>by simp [kO] at h
 | a :: l,[],h=>by simp [kO] at h
 | a :: l,b :: m,h=>by
  simp only [kO,List.flatMap_cons,UD] at h;obtain ⟨h1,h2⟩:=oP h (.inr rfl) (.inr rfl);simp only [List.cons_append,VJ,V6,true_and] at h2;rw [h1,zg (l:=l) (m:=m) h2]
theorem zf {l m:List Nat} (h:fW l=fW m):l=m:=by
 have:(fW l).data.toList=(fW m).data.toList:=by rw [h]
 exact zg (by simpa [fW] using this)
def pos (l:List ByteArray) (s:ByteArray):Option Nat:=l.findIdx? (fun x=>cZ s x)
theorem zJ {l:List ByteArray} {s:ByteArray}:pos l s=none↔s∉l:=by
 rw [pos,Vs]
 constructor
 ·intro h hm;have:=h s hm;rw [jt.2 rfl] at this;cases this
 ·intro h x hx
  cases hh:cZ s x
  ·rfl
  ·rw [jt] at hh;subst hh;exact absurd hx h
theorem tH {l:List ByteArray} {s:ByteArray} {k:Nat} (h:pos l s=some k): ∃hk:k<l.length,l[k]=s:=by
 rw [pos,Vr] at h;obtain ⟨h1,h2,_⟩:=h;exact ⟨h1,(jt.1 h2).symm⟩
theorem NQ {l:List ByteArray} {s:ByteArray} {k:Nat} (h:pos l s=some k):k<l.length:=(tH h).1
abbrev aR:=List (ByteArray×Nat)
structure mG where
 all:List (List Nat)
 rows:List aR
 ends:List Bool
section
variable (stp:List Nat->ByteArray->List Nat) (em:Bool) (la:List Nat)
def As (cur:List Nat) (st:List (List Nat)×aR) (lab:ByteArray):List (List Nat)×aR:=
 if stp cur lab=[] then st else match pos (st.1.map fW) (fW (stp cur lab)) with
 | some k=>(st.1,st.2++[(lab,k)])
 | none=>(st.1++[stp cur lab],st.2++[(lab,st.1.length)])
def dq (cur:List Nat) (all:List (List Nat)) (labs:List ByteArray):List (List Nat)×aR:=labs.foldl (As stp cur) (all,[])
theorem jh (cur:List Nat) (all:List (List Nat)) (labs:List ByteArray) (l:ByteArray):dq stp cur all (labs++[l])=As stp cur (dq stp cur all labs) l:=by rw [dq,V5];rfl
def bt (st:mG):List Nat:=st.all.getD st.rows.length []
def pk (st:mG):Bool:=(st.rows.length==0&&em)||(bt st).any (fun p=>la.contains p)
def b9 (labs:List ByteArray) (st:mG):mG:=⟨(dq stp (bt st) st.all labs).1,st.rows++[(dq stp (bt st) st.all labs).2],st.ends++[pk em la st]⟩
def mr (labs:List ByteArray):Nat->mG->Option mG
 | 0,st=>some st
 | f+1,st=>if st.rows.length<st.all.length then (if 256<(b9 stp em la labs st).all.length then none else mr labs f (b9 stp em la labs st)) else some st
def s0:mG:=⟨[[0]],[],[]⟩
def ny (labs:List ByteArray):Option mG:=mr stp em la labs 257 s0
structure AG (labs:List ByteArray) (st:mG):Prop where
 le:st.rows.length<=st.all.length
 max:st.all.length<=256
 nd:(st.all.map fW).Nodup
 ends:st.ends.length=st.rows.length
 row: ∀r∈st.rows,(r.map Prod.fst).Sublist labs∧ ∀p∈r,p.2<st.all.length
theorem NZ {cur:List Nat} {a:List (List Nat)×aR} {lab:ByteArray} (hn:(a.1.map fW).Nodup) (hr: ∀p∈a.2,p.2<a.1.length) :
  ((As stp cur a lab).1.map fW).Nodup∧(∀p∈(As stp cur a lab).2,p.2<(As stp cur a lab).1.length)∧a.1.length<=(As stp cur a lab).1.length∧(As stp cur a lab).1.length<=a.1.length+1 ∧
  ((As stp cur a lab).2=a.2∨ ∃k,(As stp cur a lab).2=a.2++[(lab,k)])∧ ∃t,(As stp cur a lab).1=a.1++t:=by
 unfold As
 split
 ·exact ⟨hn,hr,T7 _,Nat.le_succ _, .inl rfl,[],by simp⟩
 ·split
  ·rename_i k hk
   have:=NQ hk
   rw [U2] at this;refine ⟨hn,fun p hp=> ?_,T7 _,Nat.le_succ _, .inr ⟨_,rfl⟩,[],by simp⟩;simp only [V4,V3] at hp
   rcases hp with hp|rfl
   ·exact hr p hp
   ·exact this
  ·rename_i hk
   refine ⟨?_,fun p hp=> ?_,by simp,by simp, .inr ⟨_,rfl⟩,_,rfl⟩
   ·rw [V7,List.map_singleton,V8];refine ⟨hn,by simp,fun x hx y hy=> ?_⟩;simp only [V3] at hy;subst hy;rintro rfl;exact zJ.1 hk hx
   ·simp only [V4,V3,Ug,V9] at hp ⊢
    rcases hp with hp|rfl
    ·have:=hr p hp;omega
    ·simp
theorem rB {cur:List Nat} {all:List (List Nat)} (hn:(all.map fW).Nodup): ∀(labs:List ByteArray),
  ((dq stp cur all labs).1.map fW).Nodup∧(∀p∈(dq stp cur all labs).2,p.2<(dq stp cur all labs).1.length)∧all.length<=(dq stp cur all labs).1.length∧(dq stp cur all labs).1.length<=all.length+labs.length ∧
  ((dq stp cur all labs).2.map Prod.fst).Sublist labs∧ ∃t,(dq stp cur all labs).1=all++t:=by
 refine fg ⟨hn,by simp [dq],T7 _,T7 _,by simp [dq],[],by simp [dq]⟩ ?_
 ·rintro labs l ⟨h1,h2,h3,h4,h5,t,h6⟩;obtain ⟨k1,k2,k3,k4,k5,t2,k6⟩:=NZ stp (cur:=cur) (lab:=l) h1 h2;rw [<-jh] at k1 k2 k3 k4 k5 k6;refine ⟨k1,k2,by omega,by simp;omega, ?_,t++t2,by rw [k6,h6,UD]⟩
  rcases k5 with k5|⟨k,k5⟩
  ·rw [k5];exact h5.trans (List.sublist_append_left _ _)
  ·rw [k5,V7];exact h5.append (by simp)
theorem LC (labs:List ByteArray):AG labs s0:=⟨by simp [s0],by simp [s0],by simp [s0],rfl,by simp [s0]⟩
theorem pq {labs:List ByteArray} {st:mG} (h:AG labs st) (h1:st.rows.length<st.all.length) (h2: ¬ 256<(b9 stp em la labs st).all.length):AG labs (b9 stp em la labs st):=by
 obtain ⟨k1,k2,k3,k4,k5,t,k6⟩:=rB stp (cur:=bt st) h.nd labs
 refine ⟨?_,by omega,k1, ?_,fun r hr=> ?_⟩
 ·simp only [b9,Ug,V9];omega
 ·simp only [b9,Ug,V9,h.ends]
 ·simp only [b9,V4,V3] at hr ⊢
  rcases hr with hr|rfl
  ·obtain ⟨q1,q2⟩:=h.row r hr;exact ⟨q1,fun p hp=>by have:=q2 p hp;omega⟩
  ·exact ⟨k5,k2⟩
theorem Di {labs:List ByteArray}: ∀(f:Nat) {st st':mG},AG labs st->257<=f+st.rows.length->mr stp em la labs f st=some st'->AG labs st'∧st'.rows.length=st'.all.length
 | 0,st,st',h,hf,e=>by
  simp only [mr,Option.some.injEq] at e;subst e
  have:=h.le;have:=h.max;omega
 | f+1,st,st',h,hf,e=>by
  rw [mr] at e
  split at e
  ·rename_i h1
   split at e
   ·cases e
   ·rename_i h2;exact Di f (pq stp em la h h1 h2) (by simp only [b9,Ug,V9];omega) e
  ·cases e;exact ⟨h,by have:=h.le;omega⟩
end
section
variable (rows:List aR)
def tC (part:List Nat) (p:Nat) (row:aR):List UInt8:=Lib.decDigits p++row.flatMap (fun e=>32 :: (e.1.data.toList++32 :: Lib.decDigits (part.getD e.2 0)))
def bT (part:List Nat) (p:Nat) (row:aR):ByteArray:=⟨(tC part p row).toArray⟩
theorem E8 (part:List Nat) (p:Nat) (row:aR) (e:ByteArray×Nat):tC part p (row++[e])=tC part p row++32 :: (e.1.data.toList++32 :: Lib.decDigits (part.getD e.2 0)):=by simp [tC]
def PY (part:List Nat) (st:List ByteArray×List Nat) (s:Nat):List ByteArray×List Nat:=
 match pos st.1 (bT part (part.getD s 0) (rows.getD s [])) with
 | some k=>(st.1,st.2++[k])
 | none=>(st.1++[bT part (part.getD s 0) (rows.getD s [])],st.2++[st.1.length])
def dn (part:List Nat) (n:Nat):List ByteArray×List Nat:=(List.range n).foldl (PY rows part) ([],[])
theorem qe (part:List Nat) (n:Nat):dn rows part (n+1)=PY rows part (dn rows part n) n:=by rw [dn,List.range_succ,V5];rfl
def dJ (part:List Nat):List Nat:=(dn rows part rows.length).2
def e7 (part:List Nat):Nat:=(dn rows part rows.length).1.length
def nh:Nat->List Nat->Nat->List Nat
 | 0,part,_=>part
 | f+1,part,many=>if e7 rows part=many then dJ rows part else nh f (dJ rows part) (e7 rows part)
def p0 (ends:List Bool):List Nat:=ends.map (fun b=>if b then 1 else 0)
def br (ends:List Bool):List Nat:=nh rows (rows.length+2) (p0 ends) 0
structure OY (part:List Nat) (n:Nat):Prop where
 len:(dn rows part n).2.length=n
 nd:(dn rows part n).1.Nodup
 le:(dn rows part n).1.length<=n
 at': ∀s,s<n-> ∃h:(dn rows part n).2.getD s 0<(dn rows part n).1.length,(dn rows part n).1[(dn rows part n).2.getD s 0]=bT part (part.getD s 0) (rows.getD s [])
 on: ∀k,k<(dn rows part n).1.length-> ∃s,s<n∧(dn rows part n).2.getD s 0=k
theorem gb (part:List Nat): ∀n,OY rows part n
 | 0=>⟨rfl,by simp [dn],by simp [dn],fun s h=>by omega,fun k h=>by simp [dn] at h⟩
 | n+1=>by
  have ih:=gb part n;have e:=qe rows part n;unfold PY at e
  have hg: ∀(l:List Nat) (x s:Nat),l.length=n->s<n->(l++[x]).getD s 0=l.getD s 0:=fun l x s h1 h2=>by
   rw [U3,Ud (by omega),U3]
  have hl: ∀(l:List Nat) (x:Nat),l.length=n->(l++[x]).getD n 0=x:=fun l x h1=>by
   rw [U3,UF (by omega),h1];simp
  cases hp:pos (dn rows part n).1 (bT part (part.getD n 0) (rows.getD n [])) with
  | some k=>
   rw [hp] at e;simp only at e;obtain ⟨hk,hk2⟩:=tH hp
   refine ⟨by rw [e];simp [ih.len],by rw [e];exact ih.nd,by rw [e];have:=ih.le;simp only;omega,fun s hs=> ?_,fun j hj=> ?_⟩
   ·simp only [e]
    rcases Ue s n with q|q
    ·simp only [hg _ _ s ih.len q];exact ih.at' s q
    ·obtain rfl:s=n:=by omega
     simp only [hl _ _ ih.len];exact ⟨hk,hk2⟩
   ·simp only [e] at hj ⊢;obtain ⟨s,q1,q2⟩:=ih.on j hj;exact ⟨s,by omega,by rw [hg _ _ s ih.len q1];exact q2⟩
  | none=>
   rw [hp] at e;simp only at e
   refine ⟨by rw [e];simp [ih.len], ?_,by rw [e];have:=ih.le;simp only [Ug,V9];omega,fun s hs=> ?_,fun j hj=> ?_⟩
   ·rw [e];simp only;rw [V8];refine ⟨ih.nd,by simp,fun x hx y hy=> ?_⟩;simp only [V3] at hy;subst hy;rintro rfl;exact zJ.1 hp hx
   ·simp only [e]
    rcases Ue s n with q|q
    ·obtain ⟨q1,q2⟩:=ih.at' s q;simp only [hg _ _ s ih.len q];exact ⟨by simp only [Ug,V9];omega,by rw [List.getElem_append_left q1];exact q2⟩
    ·obtain rfl:s=n:=by omega
     simp only [hl _ _ ih.len];exact ⟨by simp,by rw [List.getElem_append_right (T7 _)];simp⟩
   ·simp only [e,Ug,V9] at hj ⊢
    rcases Ue j (dn rows part n).1.length with q|q
    ·obtain ⟨s,q1,q2⟩:=ih.on j q;exact ⟨s,by omega,by rw [hg _ _ s ih.len q1];exact q2⟩
    ·exact ⟨n,by omega,by rw [hl _ _ ih.len];omega⟩
theorem tD {part:List Nat} {p q:Nat} {r s:aR} (h:bT part p r=bT part q s):p=q:=by
 have e:tC part p r=tC part q s:=by
  have:(bT part p r).data.toList=(bT part q s).data.toList:=by rw [h]
  simpa [bT] using this
 have hh: ∀t:aR,(t.flatMap (fun e=>32 :: (e.1.data.toList++32 :: Lib.decDigits (part.getD e.2 0))))=[]∨(t.flatMap (fun e=>32 :: (e.1.data.toList++32 :: Lib.decDigits (part.getD e.2 0)))).head? = some 32:=fun t=>by
  cases t with
  | nil=>exact .inl rfl
  | cons a t=>exact .inr rfl
 exact (oP e (hh r) (hh s)).1
def Ou (part:List Nat) (many:Nat):Prop:=part.length=rows.length∧ ∀k,k<many-> ∃s,s<rows.length∧part.getD s 0=k
theorem ml (part:List Nat):Ou rows (dJ rows part) (e7 rows part):=⟨(gb rows part _).len,(gb rows part _).on⟩
theorem mj (part:List Nat):e7 rows part<=rows.length:=(gb rows part _).le
theorem kV {part:List Nat} {many:Nat} (h:Ou rows part many):many<=e7 rows part:=by
 have ok:=gb rows part rows.length
 
 have hch: ∀k, ∃m,k<many->m<e7 rows part∧ ∃s,s<rows.length∧part.getD s 0=k∧(dJ rows part).getD s 0=m:=fun k=>by
  by_cases hk:k<many
  ·obtain ⟨s,h1,h2⟩:=h.2 k hk;obtain ⟨q1,_⟩:=ok.at' s h1;exact ⟨_,fun _=>⟨q1,s,h1,h2,rfl⟩⟩
  ·exact ⟨0,fun q=>absurd q hk⟩
 obtain ⟨f,hf⟩:=Classical.axiomOfChoice hch
 have inj: ∀a b,a<many->b<many->f a=f b->a=b:=fun a b ha hb e=>by
  obtain ⟨l1,s,k1,k2,k3⟩:=hf a ha;obtain ⟨l2,t,m1,m2,m3⟩:=hf b hb;obtain ⟨q1,q2⟩:=ok.at' s k1;obtain ⟨r1,r2⟩:=ok.at' t m1;have e1:(dn rows part rows.length).2.getD s 0=(dn rows part rows.length).2.getD t 0:=k3.trans (e.trans m3.symm)
  have:bT part (part.getD s 0) (rows.getD s [])=bT part (part.getD t 0) (rows.getD t []):=by rw [<-q2, <- r2];simp only [e1]
  rw [<-k2, <- m2];exact tD this
 exact Hl many (e7 rows part) f (fun a ha=>(hf a ha).1) inj
end
structure wo where
 order:List Nat
 rows:List aR
 ends:List Bool
section
variable (rows:List aR) (ends:List Bool) (part:List Nat)
def iA (order:List Nat) (x:Nat):Option Nat:=(order.map (fun s=>part.getD s 0)).findIdx? (fun y=>x==y)
theorem vK {order:List Nat} {x:Nat}:iA part order x=none↔x∉order.map (fun s=>part.getD s 0):=by
 rw [iA,Vs]
 constructor
 ·intro h hm;have:=h x hm;simp at this
 ·intro h y hy
  cases hh:x==y
  ·rfl
  ·rw [beq_iff_eq] at hh;subst hh;exact absurd hy h
theorem vL {order:List Nat} {x k:Nat} (h:iA part order x=some k): ∃hk:k<order.length,part.getD order[k] 0=x:=by
 rw [iA,Vr] at h;obtain ⟨h1,h2,_⟩:=h;rw [U2] at h1;rw [V2,beq_iff_eq] at h2;exact ⟨h1,h2.symm⟩
def Dd (st:List Nat×aR) (e:ByteArray×Nat):List Nat×aR:=
 match iA part st.1 (part.getD e.2 0) with
 | some n=>(st.1,st.2++[(e.1,n)])
 | none=>(st.1++[e.2],st.2++[(e.1,st.1.length)])
def dI (order:List Nat) (row:aR):List Nat×aR:=row.foldl (Dd part) (order,[])
theorem kn (order:List Nat) (row:aR) (e:ByteArray×Nat):dI part order (row++[e])=Dd part (dI part order row) e:=by rw [dI,V5];rfl
def dp (st:wo):Nat:=st.order.getD st.rows.length 0
def dQ (st:wo):wo:=⟨(dI part st.order (rows.getD (dp st) [])).1,st.rows++[(dI part st.order (rows.getD (dp st) [])).2],st.ends++[ends.getD (dp st) false]⟩
def lI:Nat->wo->wo
 | 0,st=>st
 | f+1,st=>if st.rows.length<st.order.length then lI f (dQ rows ends part st) else st
def q0:wo:=⟨[0],[],[]⟩
def cq:wo:=lI rows ends part (rows.length+1) q0
structure DH (st:wo):Prop where
 le:st.rows.length<=st.order.length
 nd:(st.order.map (fun s=>part.getD s 0)).Nodup
 lt: ∀s∈st.order,s<rows.length
 ends:st.ends.length=st.rows.length
 row: ∀k,k<st.rows.length->(st.rows.getD k []).map Prod.fst=(rows.getD (st.order.getD k 0) []).map Prod.fst∧ ∀p∈st.rows.getD k [],p.2<st.order.length
theorem NR {n:Nat} {a:List Nat×aR} {e:ByteArray×Nat} (he:e.2<n) (hn:(a.1.map (fun s=>part.getD s 0)).Nodup) (hl: ∀s∈a.1,s<n) (hr: ∀p∈a.2,p.2<a.1.length) :
  ((Dd part a e).1.map (fun s=>part.getD s 0)).Nodup∧(∀s∈(Dd part a e).1,s<n)∧(∀p∈(Dd part a e).2,p.2<(Dd part a e).1.length)∧a.1.length<=(Dd part a e).1.length ∧
  (Dd part a e).2.map Prod.fst=a.2.map Prod.fst++[e.1]∧ ∃t,(Dd part a e).1=a.1++t:=by
 unfold Dd
 split
 ·rename_i k hk;obtain ⟨h1,_⟩:=vL part hk;refine ⟨hn,hl,fun p hp=> ?_,T7 _,by simp,[],by simp⟩;simp only [V4,V3] at hp
  rcases hp with hp|rfl
  ·exact hr p hp
  ·exact h1
 ·rename_i hk
  refine ⟨?_,fun s hs=> ?_,fun p hp=> ?_,by simp,by simp,_,rfl⟩
  ·rw [V7,List.map_singleton,V8];refine ⟨hn,by simp,fun x hx y hy=> ?_⟩;simp only [V3] at hy;subst hy;rintro rfl;exact (vK part).1 hk hx
  ·simp only [V4,V3] at hs
   rcases hs with hs|rfl
   ·exact hl s hs
   ·exact he
  ·simp only [V4,V3,Ug,V9] at hp ⊢
   rcases hp with hp|rfl
   ·have:=hr p hp;omega
   ·simp
theorem ru {n:Nat} {order:List Nat} (hn:(order.map (fun s=>part.getD s 0)).Nodup) (hl: ∀s∈order,s<n): ∀row:aR,(∀p∈row,p.2<n) ->
  ((dI part order row).1.map (fun s=>part.getD s 0)).Nodup∧(∀s∈(dI part order row).1,s<n)∧(∀p∈(dI part order row).2,p.2<(dI part order row).1.length)∧order.length<=(dI part order row).1.length ∧
  (dI part order row).2.map Prod.fst=row.map Prod.fst∧ ∃t,(dI part order row).1=order++t:=by
 refine fg (fun _=>⟨hn,hl,by simp [dI],T7 _,by simp [dI],[],by simp [dI]⟩) ?_;intro row e ih hr;obtain ⟨h1,h2,h3,h4,h5,t,h6⟩:=ih (fun p hp=>hr p (List.mem_append_left _ hp));obtain ⟨k1,k2,k3,k4,k5,t2,k6⟩:=NR part (hr e (by simp)) h1 h2 h3;rw [<-kn] at k1 k2 k3 k4 k5 k6;exact ⟨k1,k2,k3,by omega,by rw [k5,h5,V7];rfl,t++t2,by rw [k6,h6,UD]⟩
theorem kj {n:Nat} {order:List Nat} (hn:(order.map (fun s=>part.getD s 0)).Nodup) (hl: ∀s∈order,s<n):order.length<=n:=by
 have h1:order.Nodup:=by
  rw [List.Nodup,V1] at hn ⊢;intro i j hi hj hij e
  have:=hn i j (by simpa using hi) (by simpa using hj) hij
  simp only [V2,e] at this;exact this rfl
 have:=h1.length_le_of_subset (l₂:=List.range n) (fun s hs=>Vk.2 (hl s hs))
 simpa using this
theorem Db (h:0<rows.length):DH rows part q0:=⟨by simp [q0],by simp [q0],by simpa [q0] using h,rfl,fun k hk=>by simp [q0] at hk⟩
theorem fV {α:Type} {l:List α} {a d:α} {i:Nat} (h:i<l.length):(l++[a]).getD i d=l.getD i d:=by
 rw [U3,Ud h,U3]
theorem dV {α:Type} {l:List α} {a d:α}:(l++[a]).getD l.length d=a:=by
 rw [U3,UF (T7 _)];simp
theorem bX {α:Type} {l t:List α} {d:α} {i:Nat} (h:i<l.length):(l++t).getD i d=l.getD i d:=by
 rw [U3,Ud h,U3]
theorem aQ {α:Type} {l:List α} {d:α} {i:Nat} (h:i<l.length):l.getD i d∈l:=by
 rw [U3,List.getElem?_eq_getElem h];exact List.getElem_mem h
theorem pb {st:wo} (hT: ∀r∈rows, ∀p∈r,p.2<rows.length) (h:DH rows part st) (h1:st.rows.length<st.order.length):DH rows part (dQ rows ends part st):=by
 have hc:dp st<rows.length:=h.lt _ (aQ h1);obtain ⟨k1,k2,k3,k4,k5,t,k6⟩:=ru part (n:=rows.length) h.nd h.lt (rows.getD (dp st) []) (hT _ (aQ hc))
 refine ⟨?_,k1,k2, ?_,fun k hk=> ?_⟩
 ·simp only [dQ,Ug,V9];omega
 ·simp only [dQ,Ug,V9,h.ends]
 ·simp only [dQ,Ug,V9] at hk ⊢
  rcases Ue k st.rows.length with q|q
  ·obtain ⟨q1,q2⟩:=h.row k q;rw [fV q,k6,bX (by omega)];exact ⟨q1,fun p hp=>by have:=q2 p hp;simp only [Ug];omega⟩
  ·obtain rfl:k=st.rows.length:=by omega
   rw [dV];refine ⟨?_,k3⟩;rw [k5,k6,bX h1];rfl
theorem De (hT: ∀r∈rows, ∀p∈r,p.2<rows.length): ∀(f:Nat) {st:wo},DH rows part st->rows.length+1<=f+st.rows.length->DH rows part (lI rows ends part f st)∧(lI rows ends part f st).rows.length=(lI rows ends part f st).order.length
 | 0,st,h,hf=>by
  have:=kj part h.nd h.lt;have:=h.le;omega
 | f+1,st,h,hf=>by
  rw [lI]
  split
  ·rename_i h1;exact De hT f (pb rows ends part hT h h1) (by simp only [dQ,Ug,V9];omega)
  ·exact ⟨h,by have:=h.le;omega⟩
end
end
section
def look (row:aR) (l:ByteArray):Option Nat:=(row.find? (fun p=>cZ l p.1)).map Prod.snd
def sF (rows:List aR) (s:Nat):List ByteArray->Option Nat
 | []=>some s
 | l :: w=>match look (rows.getD s []) l with
  | some t=>sF rows t w
  | none=>none
def bK (rows:List aR) (ends:List Bool) (s:Nat) (w:List ByteArray):Bool:=match sF rows s w with
 | some t=>ends.getD t false
 | none=>false
theorem cP {row:aR} {l:ByteArray}:look row l=none↔l∉row.map Prod.fst:=by
 rw [look,Option.map_eq_none_iff,List.find?_eq_none]
 constructor
 ·intro h hm;obtain ⟨p,hp,rfl⟩:=List.mem_map.1 hm;exact h p hp (jt.2 rfl)
 ·intro h p hp he;rw [jt] at he;subst he;exact h (List.mem_map_of_mem hp)
theorem dy {row:aR} {l:ByteArray} {t:Nat} (h:look row l=some t):(l,t)∈row:=by
 rw [look,Option.map_eq_some_iff] at h;obtain ⟨p,h1,rfl⟩:=h;have h2:=List.find?_some h1;rw [jt] at h2;subst h2;exact List.mem_of_find?_eq_some h1
theorem ic {row r2:aR} {l:ByteArray}:look (row++r2) l=(look row l).or (look r2 l):=by
 simp only [look,List.find?_append];cases row.find? (fun p=>cZ l p.1)<;>rfl
theorem ig {m l:ByteArray} {t:Nat}:look [(m,t)] l=if l=m then some t else none:=by
 by_cases h:l=m
 ·subst h;simp [look,jt.2 rfl]
 ·have:cZ l m=false:=by
   cases hh:cZ l m
   ·rfl
   ·exact absurd (jt.1 hh) h
  simp [look,this,h]
theorem oX {row:aR} (hn:(row.map Prod.fst).Nodup) {l:ByteArray} {t:Nat} (h:(l,t)∈row):look row l=some t:=by
 induction row with
 | nil=>simp at h
 | cons a row ih=>
  rw [Wa,List.nodup_cons] at hn
  rcases List.mem_cons.1 h with rfl|h
  ·simp [look,jt.2 rfl]
  ·have hne:cZ l a.1=false:=by
    cases hh:cZ l a.1
    ·rfl
    ·rw [jt] at hh;subst hh;exact absurd (List.mem_map_of_mem h) hn.1
   have:=ih hn.2 h
   simpa [look,hne] using this
section
variable (stp:List Nat->ByteArray->List Nat) (em:Bool) (la:List Nat)
def F8 (labs:List ByteArray) (all:List (List Nat)) (cur:List Nat) (row:aR):Prop:=
 ∀l,(l∈labs->stp cur l≠[]-> ∃k,look row l=some k∧all[k]? = some (stp cur l))∧((l∉labs∨stp cur l=[])->look row l=none)
theorem F8.mono {labs:List ByteArray} {all t:List (List Nat)} {cur:List Nat} {row:aR} (h:F8 stp labs all cur row):F8 stp labs (all++t) cur row:=fun l=>
 ⟨fun h1 h2=>by
  obtain ⟨k,k1,k2⟩:=(h l).1 h1 h2
  exact ⟨k,k1,by rw [Ud (Uc.1 k2).1];exact k2⟩,(h l).2⟩
theorem IZ (cur:List Nat) {all:List (List Nat)}: ∀labs:List ByteArray,labs.Nodup->F8 stp labs (dq stp cur all labs).1 cur (dq stp cur all labs).2:=by
 refine fg (fun _ l=>⟨fun h=>by simp at h,fun _=>by simp [dq,look]⟩) ?_;intro labs m ih hn l;have hn':=List.nodup_append.1 hn;have ih:=ih hn'.1;have hm:m∉labs:=fun h=>hn'.2.2 m h m (by simp) rfl;rw [jh,As]
 by_cases he:stp cur m=[]
 ·rw [if_pos he]
  refine ⟨fun h1 h2=> ?_,fun h1=> ?_⟩
  ·rcases List.mem_append.1 h1 with h1|h1
   ·exact (ih l).1 h1 h2
   ·simp only [V3] at h1;subst h1;exact absurd he h2
  ·by_cases hl:stp cur l=[]
   ·exact (ih l).2 (.inr hl)
   ·rcases h1 with h1|h1
    ·exact (ih l).2 (.inl (fun q=>h1 (List.mem_append_left _ q)))
    ·exact absurd h1 hl
 ·rw [if_neg he]
  have nl:l≠m->(l∈labs++[m]↔l∈labs):=fun h=>by simp [h]
  split
  ·rename_i k hk;obtain ⟨hk1,hk2⟩:=tH hk;rw [V2] at hk2;have hk3:=zf hk2;rw [U2] at hk1
   refine ⟨fun h1 h2=> ?_,fun h1=> ?_⟩
   ·rw [ic,ig]
    by_cases hlm:l=m
    ·subst hlm;exact ⟨k,by rw [(ih l).2 (.inl hm),if_pos rfl];rfl,by rw [Uq hk1,hk3]⟩
    ·obtain ⟨j,j1,j2⟩:=(ih l).1 ((nl hlm).1 h1) h2;exact ⟨j,by rw [j1];rfl,j2⟩
   ·rw [ic,ig]
    have hlm:l≠m:=fun e=>by subst e;rcases h1 with h1|h1<;>simp_all
    rw [if_neg hlm,(ih l).2 (h1.imp (fun q r=>q ((nl hlm).2 r)) id)];rfl
  ·refine ⟨fun h1 h2=> ?_,fun h1=> ?_⟩
   ·rw [ic,ig]
    by_cases hlm:l=m
    ·subst hlm;exact ⟨_,by rw [(ih l).2 (.inl hm),if_pos rfl];rfl,by rw [List.getElem?_append_right (Nat.le_refl _)];simp⟩
    ·obtain ⟨j,j1,j2⟩:=(ih l).1 ((nl hlm).1 h1) h2;exact ⟨j,by rw [j1];rfl,by rw [Ud (Uc.1 j2).1];exact j2⟩
   ·rw [ic,ig]
    have hlm:l≠m:=fun e=>by subst e;rcases h1 with h1|h1<;>simp_all
    rw [if_neg hlm,(ih l).2 (h1.imp (fun q r=>q ((nl hlm).2 r)) id)];rfl
structure SW (labs:List ByteArray) (st:mG):Prop where
 zero:st.all[0]? = some [0]
 row: ∀i,i<st.rows.length->F8 stp labs st.all (st.all.getD i []) (st.rows.getD i [])
 Bb: ∀i,i<st.rows.length->st.ends.getD i false=((i==0&&em)||(st.all.getD i []).any (fun p=>la.contains p))
theorem Lz {labs:List ByteArray} (hn:labs.Nodup) {st:mG} (ho:AG labs st) (h:SW stp em la labs st) (h1:st.rows.length<st.all.length):SW stp em la labs (b9 stp em la labs st):=by
 obtain ⟨_,_,_,_,_,t,k6⟩:=rB stp (cur:=bt st) ho.nd labs;have hr:=IZ stp (bt st) (all:=st.all) labs hn
 have hg: ∀i,i<st.all.length->(b9 stp em la labs st).all.getD i []=st.all.getD i []:=fun i hi=>by simp only [b9,k6];exact bX hi
 refine ⟨?_,fun i hi=> ?_,fun i hi=> ?_⟩
 ·simp only [b9,k6];rw [Ud (by omega)];exact h.zero
 ·have hi':i<st.rows.length+1:=by simpa [b9] using hi
  rw [hg i (by omega)]
  rcases Nat.lt_or_ge i st.rows.length with q|q
  ·simp only [b9,k6,fV q];exact (h.row i q).mono
  ·obtain rfl:i=st.rows.length:=by omega
   simp only [b9,dV];exact hr
 ·have hi':i<st.rows.length+1:=by simpa [b9] using hi
  rw [hg i (by omega)]
  rcases Nat.lt_or_ge i st.rows.length with q|q
  ·simp only [b9];rw [fV (by rw [ho.ends];exact q)];exact h.Bb i q
  ·obtain rfl:i=st.rows.length:=by omega
   simp only [b9];rw [<-ho.ends,dV,pk,bt,ho.ends]
theorem I0 {labs:List ByteArray} (hn:labs.Nodup): ∀(f:Nat) {st st':mG},AG labs st->SW stp em la labs st->mr stp em la labs f st=some st'->SW stp em la labs st'
 | 0,st,st',_,h,e=>by simp only [mr,Um] at e;subst e;exact h
 | f+1,st,st',ho,h,e=>by
  rw [mr] at e
  split at e
  ·rename_i h1
   split at e
   ·cases e
   ·rename_i h2;exact I0 hn f (pq stp em la ho h1 h2) (Lz stp em la hn ho h h1) e
  ·cases e;exact h
theorem xR {labs:List ByteArray} (hn:labs.Nodup) {st:mG} (h:ny stp em la labs=some st):AG labs st∧st.rows.length=st.all.length∧SW stp em la labs st:=by
 have ho:=Di stp em la 257 (LC labs) (by simp [s0]) h;exact ⟨ho.1,ho.2,I0 stp em la hn 257 (LC labs) ⟨rfl,fun i hi=>by simp [s0] at hi,fun i hi=>by simp [s0] at hi⟩ h⟩
def Made (a:List Nat):Prop:=a≠[]∧(a=[0]∨ ∃cur l,a=stp cur l)
theorem qm {cur:List Nat} {all:List (List Nat)} (h: ∀a∈all,Made stp a): ∀labs:List ByteArray, ∀a∈(dq stp cur all labs).1,Made stp a:=by
 refine fg h ?_;intro labs l ih;rw [jh,As]
 split
 ·exact ih
 ·rename_i hne
  split
  ·exact ih
  ·intro a ha
   rcases List.mem_append.1 ha with ha|ha
   ·exact ih a ha
   ·simp only [V3] at ha;subst ha;exact ⟨hne, .inr ⟨_,_,rfl⟩⟩
theorem vQ {labs:List ByteArray}: ∀(f:Nat) {st st':mG},(∀a∈st.all,Made stp a)->mr stp em la labs f st=some st'-> ∀a∈st'.all,Made stp a
 | 0,st,st',h,e=>by simp only [mr,Um] at e;subst e;exact h
 | f+1,st,st',h,e=>by
  rw [mr] at e
  split at e
  ·split at e
   ·cases e
   ·exact vQ f (qm stp h labs) e
  ·cases e;exact h
theorem Fs {labs:List ByteArray} {st:mG} (h:ny stp em la labs=some st): ∀a∈st.all,Made stp a:=vQ stp em la 257 (fun a ha=>by
 simp only [s0,V3] at ha;subst ha;exact ⟨by simp, .inl rfl⟩) h
variable {stp em la}
theorem yW (ha: ∀l,stp [] l=[]): ∀w:List ByteArray,w.foldl stp []=[]
 | []=>rfl
 | l :: w=>by rw [VN,ha,yW ha w]
theorem tU {labs:List ByteArray} {st:mG} (hl:st.rows.length=st.all.length) (hw:SW stp em la labs st) (ha: ∀l,stp [] l=[]) (hx: ∀cur l,l∉labs->stp cur l=[]): ∀(w:List ByteArray) (i:Nat) (cur:List Nat),st.all[i]? = some cur->cur≠[] ->
  (w.foldl stp cur=[]->sF st.rows i w=none)∧(w.foldl stp cur≠[]-> ∃k,sF st.rows i w=some k∧st.all[k]? = some (w.foldl stp cur))
 | [],i,cur,hi,hc=>⟨fun h=>absurd h hc,fun _=>⟨i,rfl,hi⟩⟩
 | l :: w,i,cur,hi,hc=>by
  have hlt:=(Uc.1 hi).1;have hr:=hw.row i (by omega) l;rw [U3 (l:=st.all),hi,Wb] at hr;rw [sF,VN]
  by_cases he:stp cur l=[]
  ·rw [hr.2 (.inr he),he,yW ha];exact ⟨fun _=>rfl,fun h=>absurd rfl h⟩
  ·have hm:l∈labs:=Classical.byContradiction fun h=>he (hx cur l h);obtain ⟨k,k1,k2⟩:=hr.1 hm he;rw [k1];exact tU hl hw ha hx w k _ k2 he
theorem Fq {labs:List ByteArray} {st:mG} (hl:st.rows.length=st.all.length) (hw:SW stp em la labs st) (ha: ∀l,stp [] l=[]) (hx: ∀cur l,l∉labs->stp cur l=[]) (w:List ByteArray) {i:Nat} {cur:List Nat} (hi:st.all[i]? = some cur) (hc:cur≠[]) {q:Nat} (hq:q∈w.foldl stp cur) (hq2:q∈la):bK st.rows st.ends i w=true:=by
 obtain ⟨k,k1,k2⟩:=(tU hl hw ha hx w i cur hi hc).2 (List.ne_nil_of_mem hq);rw [bK,k1];simp only;rw [hw.Bb k (by rw [hl];exact (Uc.1 k2).1),U3,k2,Wb]
 have:(w.foldl stp cur).any (fun p=>la.contains p)=true:=List.any_eq_true.2 ⟨q,hq,by simpa using hq2⟩
 rw [this,Bool.or_true]
theorem BX {labs:List ByteArray} {st:mG} (hl:st.rows.length=st.all.length) (hw:SW stp em la labs st) (ha: ∀l,stp [] l=[]) (hx: ∀cur l,l∉labs->stp cur l=[]) (h0: ∀cur l,0∉stp cur l) (hl0:0∉la) (w:List ByteArray) :
  bK st.rows st.ends 0 w=((w.length==0&&em)||(w.foldl stp [0]).any (fun p=>la.contains p)):=by
 obtain ⟨h1,h2⟩:=tU hl hw ha hx w 0 [0] hw.zero (by simp)
 by_cases he:w.foldl stp [0]=[]
 ·rw [bK,h1 he,he]
  cases w with
  | nil=>simp at he
  | cons l w=>rfl
 ·obtain ⟨k,k1,k2⟩:=h2 he;rw [bK,k1];simp only;have hk:=(Uc.1 k2).1;rw [hw.Bb k (by omega),U3,k2,Wb]
  cases w with
  | nil=>
   simp only [sF,Um] at k1;subst k1
   rfl
  | cons l w=>
   have hne:k≠0:=fun e=>by
    subst e
    have:=hw.zero.symm.trans k2
    simp only [Um] at this
    have hh: ∀(w:List ByteArray) (cur:List Nat),0∉cur->0∉w.foldl stp cur:=fun w=>by
     induction w with
     | nil=>exact fun cur h=>h
     | cons m w ih=>exact fun cur h=>ih _ (h0 _ _)
    exact hh w (stp [0] l) (h0 _ _) (by rw [VN] at this;rw [<-this];simp)
   have:(k==0)=false:=by simpa using hne
   rw [this];rfl
end
def zi:Go.Shelf.Ren:=⟨fun|7=>98|10=>130|n=>n,fun|23=>84|26=>9|3=>3|28=>149|0=>0|27=>148|33=>124|4=>4|n=>n,fun n=>n⟩
theorem vo:SlLaysZ.n7 Tryz.prog zi:={
 mixed:=by kernel_rfl
 f7:=⟨Tryz.f98.name,by decide,Tryz.func98⟩
 f10:=⟨Tryz.f130.name,by decide,Tryz.func130⟩
 t0:=by kernel_rfl
 a0:=fun w=>by kernel_rfl
 z0:=fun w=>by kernel_rfl
 v0:=fun w=>by kernel_rfl
 t4:=by kernel_rfl
 a4:=fun w=>by kernel_rfl
 z4:=fun w=>by kernel_rfl
 v4:=fun w=>by kernel_rfl
 t23:=by kernel_rfl
 a23:=fun w=>by kernel_rfl
 z23:=fun w=>by kernel_rfl
 v23:=fun w=>by kernel_rfl
 t26:=by kernel_rfl
 a26:=fun w=>by kernel_rfl
 z26:=fun w=>by kernel_rfl
 v26:=fun w=>by kernel_rfl
 t27:=by kernel_rfl
 a27:=fun w=>by kernel_rfl
 z27:=fun w=>by kernel_rfl
 v27:=fun w=>by kernel_rfl
 t28:=by kernel_rfl
 a28:=fun w=>by kernel_rfl
 z28:=fun w=>by kernel_rfl
 v28:=fun w=>by kernel_rfl
 t33:=by kernel_rfl
 a33:=fun w=>by kernel_rfl
 z33:=fun w=>by kernel_rfl
 v33:=fun w=>by kernel_rfl }
def tX:Go.Shelf.Ren:=⟨fun|6=>97|8=>129|9=>55|11=>148|13=>87|12=>86|23=>125|24=>126|14=>116|15=>117|16=>118|17=>119|18=>120|19=>121|20=>122|21=>123|22=>124|25=>140|26=>141|27=>142|28=>143|29=>144|30=>145|31=>160|n=>n,fun|26=>9|28=>149|24=>26|0=>0|3=>3|37=>121|48=>95|50=>178|4=>4|40=>170|39=>169|45=>57|5=>5|9=>9|51=>186|55=>190|57=>204|58=>205|33=>124|n=>n,fun n=>n⟩
theorem zY:SlLaysZ.n6 Tryz.prog tX:={
 mixed:=by kernel_rfl
 f6:=⟨Tryz.f97.name,by decide,Tryz.func97⟩
 f8:=⟨Tryz.f129.name,by decide,Tryz.func129⟩
 f11:=⟨Tryz.f148.name,by decide,Tryz.func148⟩
 t0:=by kernel_rfl
 a0:=fun w=>by kernel_rfl
 z0:=fun w=>by kernel_rfl
 v0:=fun w=>by kernel_rfl
 t24:=by kernel_rfl
 a24:=fun w=>by kernel_rfl
 z24:=fun w=>by kernel_rfl
 v24:=fun w=>by kernel_rfl
 t26:=by kernel_rfl
 a26:=fun w=>by kernel_rfl
 z26:=fun w=>by kernel_rfl
 v26:=fun w=>by kernel_rfl
 t28:=by kernel_rfl
 a28:=fun w=>by kernel_rfl
 z28:=fun w=>by kernel_rfl
 v28:=fun w=>by kernel_rfl
 i26:=by kernel_rfl }
def Ja:Go.Shelf.Ren:=⟨fun|6=>55|8=>87|9=>86|19=>125|20=>126|21=>116|22=>117|23=>118|24=>119|25=>120|26=>121|27=>122|28=>123|29=>124|36=>140|31=>141|32=>142|37=>143|38=>144|39=>145|41=>160|n=>n,fun|27=>26|29=>9|3=>3|32=>121|26=>26|0=>0|44=>95|46=>178|4=>4|36=>170|35=>169|41=>57|5=>5|9=>9|53=>186|57=>190|63=>204|64=>205|n=>n,fun n=>n⟩
theorem mW:SlLaysM.n6 Tryz.prog Ja:={
 mixed:=by kernel_rfl
 f6:=⟨Tryz.f55.name,by decide,Tryz.func55⟩
 f8:=Tryz.func87
 f9:=⟨Tryz.f86.name,by decide,Tryz.func86⟩
 f19:=Tryz.func125
 f20:=Tryz.func126
 f21:=⟨Tryz.f116.name,by decide,Tryz.func116⟩
 f22:=⟨Tryz.f117.name,by decide,Tryz.func117⟩
 f23:=⟨Tryz.f118.name,by decide,Tryz.func118⟩
 f24:=⟨Tryz.f119.name,by decide,Tryz.func119⟩
 f25:=⟨Tryz.f120.name,by decide,Tryz.func120⟩
 f26:=⟨Tryz.f121.name,by decide,Tryz.func121⟩
 f27:=⟨Tryz.f122.name,by decide,Tryz.func122⟩
 f28:=⟨Tryz.f123.name,by decide,Tryz.func123⟩
 f29:=⟨Tryz.f124.name,by decide,Tryz.func124⟩
 f31:=Tryz.func141
 f32:=Tryz.func142
 f36:=⟨Tryz.f140.name,by decide,Tryz.func140⟩
 f37:=⟨Tryz.f143.name,by decide,Tryz.func143⟩
 f38:=⟨Tryz.f144.name,by decide,Tryz.func144⟩
 f39:=⟨Tryz.f145.name,by decide,Tryz.func145⟩
 f41:=⟨Tryz.f160.name,by decide,Tryz.func160⟩
 t0:=by kernel_rfl
 a0:=fun w=>by kernel_rfl
 z0:=fun w=>by kernel_rfl
 v0:=fun w=>by kernel_rfl
 t3:=by kernel_rfl
 a3:=fun w=>by kernel_rfl
 z3:=fun w=>by kernel_rfl
 v3:=fun w=>by kernel_rfl
 t4:=by kernel_rfl
 a4:=fun w=>by kernel_rfl
 z4:=fun w=>by kernel_rfl
 v4:=fun w=>by kernel_rfl
 t5:=by kernel_rfl
 a5:=fun w=>by kernel_rfl
 z5:=fun w=>by kernel_rfl
 v5:=fun w=>by kernel_rfl
 t9:=by kernel_rfl
 a9:=fun w=>by kernel_rfl
 z9:=fun w=>by kernel_rfl
 v9:=fun w=>by kernel_rfl
 t26:=by kernel_rfl
 a26:=fun w=>by kernel_rfl
 z26:=fun w=>by kernel_rfl
 v26:=fun w=>by kernel_rfl
 t27:=by kernel_rfl
 a27:=fun w=>by kernel_rfl
 z27:=fun w=>by kernel_rfl
 v27:=fun w=>by kernel_rfl
 t29:=by kernel_rfl
 a29:=fun w=>by kernel_rfl
 z29:=fun w=>by kernel_rfl
 v29:=fun w=>by kernel_rfl
 t32:=by kernel_rfl
 a32:=fun w=>by kernel_rfl
 z32:=fun w=>by kernel_rfl
 v32:=fun w=>by kernel_rfl
 t35:=by kernel_rfl
 a35:=fun w=>by kernel_rfl
 z35:=fun w=>by kernel_rfl
 v35:=fun w=>by kernel_rfl
 t36:=by kernel_rfl
 a36:=fun w=>by kernel_rfl
 z36:=fun w=>by kernel_rfl
 v36:=fun w=>by kernel_rfl
 t41:=by kernel_rfl
 a41:=fun w=>by kernel_rfl
 z41:=fun w=>by kernel_rfl
 v41:=fun w=>by kernel_rfl
 t44:=by kernel_rfl
 a44:=fun w=>by kernel_rfl
 z44:=fun w=>by kernel_rfl
 v44:=fun w=>by kernel_rfl
 t46:=by kernel_rfl
 a46:=fun w=>by kernel_rfl
 z46:=fun w=>by kernel_rfl
 v46:=fun w=>by kernel_rfl
 t53:=by kernel_rfl
 a53:=fun w=>by kernel_rfl
 z53:=fun w=>by kernel_rfl
 v53:=fun w=>by kernel_rfl
 t57:=by kernel_rfl
 a57:=fun w=>by kernel_rfl
 z57:=fun w=>by kernel_rfl
 v57:=fun w=>by kernel_rfl
 t63:=by kernel_rfl
 a63:=fun w=>by kernel_rfl
 z63:=fun w=>by kernel_rfl
 v63:=fun w=>by kernel_rfl
 t64:=by kernel_rfl
 a64:=fun w=>by kernel_rfl
 z64:=fun w=>by kernel_rfl
 v64:=fun w=>by kernel_rfl }
def b4 (r:aR):List (List AV):=r.map (fun p=>[.v (.string p.1), .v (.int .i64 (p.2:Nat))])
theorem zt (r:aR):(b4 r).length=r.length:=by simp [b4]
@[go_sem] theorem pA (n:Nat) (r:aR):bw n (b4 r)=true:=bz _ (fun p=>rfl) _
theorem wC (s:ByteArray): ∀r:aR,oD .string (.string s) (b4 r)=some ((look r s).map (fun n=> .v (.int .i64 (n:Nat))))
 | []=>rfl
 | p :: l=>by
  have ih:=wC s l;simp only [b4,Wa,oD];rw [if_pos (show dk .string (.string p.1)=true from rfl)]
  by_cases h:ft (.string s) (.string p.1)=true
  ·have h':cZ s p.1=true:=h;rw [if_pos h];simp [look,h']
  ·have h':cZ s p.1=false:=by
    cases hh:cZ s p.1
    ·rfl
    ·exact absurd hh h
   rw [if_neg h];simp only [b4] at ih;rw [ih];simp [look,h']
theorem pN (s:ByteArray) (n:Nat): ∀r:aR,look r s=none->pM .string (.string s) (.v (.int .i64 (n:Nat))) (b4 r)=some (b4 (r++[(s,n)]))
 | [],_=>rfl
 | p :: l,hn=>by
  simp only [b4,Wa,pM,List.cons_append];rw [if_pos (show dk .string (.string p.1)=true from rfl)]
  by_cases h:ft (.string s) (.string p.1)=true
  ·have h':cZ s p.1=true:=h;simp [look,h'] at hn
  ·have h':cZ s p.1=false:=by
    cases hh:cZ s p.1
    ·rfl
    ·exact absurd hh h
   have ih:=pN s n l (by simpa [look,h'] using hn);rw [if_neg h];simp only [b4] at ih;rw [ih];rfl
@[go_sem] theorem pz (n:Nat) (rows:List aR):bw n (rows.map (fun r=>[AV.mp (b4 r)]))=true:=bz _ (fun r=>by simp only [aX,AV.wf,pA,Wc]) _
@[go_sem] theorem py (n:Nat) (ends:List Bool):bw n (ends.map (fun b=>[AV.v (.bool b)]))=true:=bz _ (fun r=>rfl) _
def gV (rows:List aR) (ends:List Bool):List AV:=[.aC 1 (rows.map (fun r=>[.mp (b4 r)])) rows.length, .aC 1 (ends.map (fun b=>[.v (.bool b)])) ends.length]
section
open Go.Maps Go.Sort Go.WideElems
theorem Js:Tryz.prog.underlying 9=some .string:=by kernel_rfl
def Gi (_:Value):Option (DataW Unit×List MemPlace):=some (.lit (.bool true),[])
def qJ (r:aR):List (List UInt8):=r.map (fun p=>p.1.data.toList)
theorem NS {e:MapEntry} {s:ByteArray} (hk:e.key = .string s) (hs:s.size<=maxLen):rd Tryz.prog 9 Gi e=some (.string s.data.toList, .lit (.bool true)):=by
 unfold WideElems.rd;rw [hk,Go.WideMaps.keyOf_string_mk Js hs];rfl
theorem K5 {D:Nat->Prop} {nu:Nat->Nat->Value} {o:List (Option aa)} {w:World} {r:aR} {x:Value} (h:RA D nu o w (.mp (b4 r)) x) (hs: ∀p∈r,p.1.size<=maxLen) (hn:(r.map Prod.fst).Nodup) (hl:r.length<=1000000) :
  ∃b D0,x = .map (some b)∧b<w.heap.size∧w.ownsMap Tryz.prog 9 Gi b r.length D0∧(strKeys D0).Perm (qJ r)∧Maps.size D0=r.length:=by
 cases h with
 | mp _ b es cl h1 h2 h3 h4 h5 h6 h7=>
 have hlen:es.size=r.length:=by rw [h3,zt]
 have hget: ∀(i:Nat) (hi:i<es.toList.length),es[i]? = some es.toList[i]:=fun i hi=>by rw [<-Array.getElem?_toList];exact Uq hi
 have hk: ∀(i:Nat) (hi:i<es.toList.length) (hi':i<r.length),(es.toList[i]).key=Value.string r[i].1:=fun i hi hi'=>by
  have hrow:(b4 r)[i]? = some [.v (.string r[i].1), .v (.int .i64 (r[i].2:Nat))]:=by rw [b4,Ut,Uq hi'];rfl
  exact (h7 i 0 _ _ _ hrow rfl (hget i hi)).plain
 have hkeys:es.toList.map (fun e=>e.key)=r.map (fun p=>Value.string p.1):=List.ext_getElem (by simp [hlen]) fun i k1 k2=>by
  rw [V2,V2];exact hk i (by simpa using k1) (by simpa using k2)
 have hrd: ∀(i:Nat) (hi:i<es.toList.length) (hi':i<r.length),rd Tryz.prog 9 Gi es.toList[i]=some (.string r[i].1.data.toList, .lit (.bool true)):=fun i hi hi'=>NS (hk i hi hi') (hs _ (List.getElem_mem hi'))
 refine ⟨b,_,rfl,h1.1,⟨es,cl,h2,⟨by unfold maxLen;omega,⟨?_, ?_, ?_⟩, ?_⟩,by omega,rfl⟩, ?_, ?_⟩
 ·intro e he;obtain ⟨i,hi,rfl⟩:=List.getElem_of_mem he;exact h5 i _ (hget i hi)
 ·rw [List.Nodup,List.pairwise_iff_getElem];intro i j hi hj hij;rw [V2,V2]
  have:=h6 i j _ _ (hget i (by simpa using hi)) (hget j (by simpa using hj)) hij
  omega
 ·have e:es.toList.map (fun x=>x.key)=(r.map Prod.fst).map Value.string:=by rw [hkeys,Wd];rfl
  rw [e,List.Nodup,We];exact hn.imp fun hne e=>hne (by cases e;rfl)
 ·intro e he;obtain ⟨i,hi,rfl⟩:=List.getElem_of_mem he;exact ⟨_,hrd i hi (by simpa [hlen] using hi)⟩
 ·rw [strKeys];refine ((WideShapes.sorted_perm _).map _).trans (List.Perm.of_eq ?_);rw [Wd];refine List.ext_getElem (by simp [qJ,hlen]) fun i k1 k2=> ?_
  have hi:i<es.toList.length:=by simpa using k1
  simp only [qJ,V2,Function.comp];rw [rg_of (hrd i hi (by simpa [hlen] using hi))];rfl
 ·show (List.foldr DataW.insert [] _).length=_;rw [(WideShapes.sorted_perm _).length_eq,U2];simp [hlen]
def iJ (l:List ByteArray):Prop:=l.Pairwise (fun a b=>a.data.toList<b.data.toList)
theorem EI {r:aR} (h:iJ (r.map Prod.fst)):(qJ r).mergeSort (fun x y=>decide (x<=y))=qJ r:=by
 refine List.mergeSort_of_pairwise ?_;rw [qJ,We];rw [iJ,We] at h;exact h.imp fun hh=>decide_eq_true (List.le_of_lt hh)
theorem lf {l:List ByteArray} (h:iJ l):l.Nodup:=h.imp fun {a b} hh e=>by subst e;exact absurd hh (List.lt_irrefl _)
end
def PZ (_:Nat->Prop) (_:World) (x:Value):Prop:= ∃b,x = .pointer (some ⟨b,0,none⟩)
def zh (r:aR):AV:= .fn 130 [] [.jU PZ (.vp [.mp (b4 r)])]
@[go_sem] theorem Ak (n:Nat) (r:aR):(zh r).wf n=true:=by simp only [zh,AV.wf,aX,pA,Wc]
theorem KT (r:aR):ar Tryz.prog 98 [.mp (b4 r)] (zh r):=by
 refine ⟨⟨by simp only [aX,AV.wf,pA,Wc],Ak 0 r⟩,by kernel_rfl,fun D nu w vargs hro hra=> ?_⟩;obtain ⟨x,rfl,hx⟩:=kX hra
 obtain ⟨b,rfl⟩: ∃b,x = .map (some b):=by cases hx;exact ⟨_,rfl⟩
 refine ((callsIn_wide (n:=5)).1 (AnyZ.keys_in vo Fence.wide 5 trivial rfl (some b) w)).mono ?_;rintro e w' ⟨rfl,rfl⟩;have hb:Below w.heap.size w (w.alloc (.cells #[.map (some b)] 84)):=(Below.refl _ _).alloc (Nat.le_refl _) _;have hz:Fz D nu [] (w.alloc (.cells #[.map (some b)] 84)) w.heap.size:=⟨by simp,bl _ _,hro.up _ (Nat.le_refl _)⟩;refine ⟨_,nu,[],zh r,rfl,aw hb,hro.below hb, ?_,rfl,rfl⟩;refine .fn _ _ _ _ _ rfl rfl (fun i c x h=>by simp at h) (fun i c y h1 h2=> ?_)
 cases i with
 | succ i=>simp at h1
 | zero=>
  simp only [Ve,Um] at h1;simp at h2;subst h1;subst h2
  refine .jU _ _ _ (fun _=>False) rfl (fun b h=>h.elim) (fun b h=>h.elim) (fun w' _=>⟨_,rfl⟩) (.vp _ _ 0 (fun _=> .map (some b)) hz (fun j c hc=> ?_) (fun j c hc=> ?_) (fun j c hc=>rfl))
  ·cases j with
   | succ j=>simp at hc
   | zero=>
    have h:=ew w (.cells #[.map (some b)] 84);exact (r7 h 0).trans rfl
  ·cases j with
   | succ j=>simp at hc
   | zero=>
    simp only [Ve,Um] at hc;subst hc;exact hx.mono (aw hb) (fun _ _ h=>h)
theorem N4 (m:Nat):AnyZ.SortsIn Tryz.prog tX Fence.wide m:=
 ⟨fun fL off cap ss W hH hblk hsz=>callsIn_wide.2 (AnyM.slices_Sort_string mW fL off cap ss W hH hblk hsz),
  fun p cap W=>callsIn_wide.2 (AnyM.slices_Sort_string_none mW p cap W)⟩
theorem Ft (r:aR) (hs: ∀p∈r,p.1.size<=maxLen) (hr:iJ (r.map Prod.fst)) (hl:r.length<=1000000):ar Tryz.prog 97 [zh r] (aZ (r.map Prod.fst)):=
 .C8 (by kernel_rfl) (by simp only [aX,Ak,Wc]) (fun D nu w vargs hra=>by
  obtain ⟨x,rfl,hx⟩:=kX hra
  cases hx with
  | fn _ _ _ fi ca h1 h2 h3 h4=>
  obtain ⟨y,rfl,hy⟩:=kX (D:=D) (nu:=nu) (o:=[]) (w:=w) ⟨h2,h4⟩;obtain rfl:fi = #[]:=Array.eq_empty_of_size_eq_zero (by simpa using h1.symm)
  cases hy with
  | jU _ _ _ S k0 k1 k2 k3 k4=>
  obtain ⟨Bm,rfl⟩:=k3 w (fun _ _=>rfl)
  cases k4 with
  | vp _ _ _ f q1 q2 q3 q4=>
  have hm:=q2 0 _ rfl;have hmap:=q3 0 _ rfl;obtain ⟨b,D0,e0,hb,hown,hperm,hsize⟩:=K5 hmap hs (lf hr) hl;rw [e0] at hm;simp only [Nat.add_zero] at hm;have hseq:=AnyZ.keys_gives (ρ:=zi) { vo with } Fence.wide 2 trivial rfl (by omega) Bm b r.length D0 w q1.1 hm hown;have cS:=AnyZ.sorted_in zY Fence.wide 5 trivial trivial trivial trivial rfl (by omega) (N4 _) (enters_of Tryz.func55 (by kernel_rfl) rfl) 130 #[.pointer (some ⟨Bm,0,none⟩)] trivial (enters_of Tryz.func130 (by kernel_rfl) rfl) _ _ (by rw [hsize];unfold maxLen;omega) (by rw [hsize];omega) w hseq;refine ((callsIn_wide (n:=5)).1 cS).mono ?_;rintro e w' ⟨v,ss,rfl,hS,hrow,hnil,hbl⟩
  have hlen:ss.length=(r.map Prod.fst).length:=by rw [hS.length_eq,hperm.length_eq,qJ,U2,U2]
  have hk:(ss.mergeSort (fun x y=>decide (x<=y))).map encStr=(r.map Prod.fst).map Value.string:=by
   rw [Go.mergeSort_of_perm (hS.trans hperm),EI hr,qJ,Wd,Wd];refine List.map_congr_left fun p _=> ?_;simp [encStr]
  rw [hlen,hk] at hrow
  exact ⟨v,rfl,BM hrow,hbl,E7 hrow⟩)
theorem K3 {r:aR} {i:Nat} (h:i<r.length):b4 (r.drop i)=[.v (.string r[i].1), .v (.int .i64 (r[i].2:Nat))] :: b4 (r.drop (i+1)):=by
 rw [b4,List.drop_eq_getElem_cons h];rfl
theorem Nw {r:aR} (hr:iJ (r.map Prod.fst)) {i:Nat} (h:i<r.length):look r r[i].1=some r[i].2:=oX (lf hr) (List.getElem_mem h)
theorem vU (rows:List aR) (ends:List Bool) (s:Nat) (hs:s<rows.length) (hN:rows.length<=1000000) (hz: ∀p∈rows[s],p.1.size<=maxLen) (hr:iJ (rows[s].map Prod.fst)) (hl:rows[s].length<=1000000) :
  rJ Tryz.prog 96 [.vp [.vp (gV rows ends)], .vp [.v (.int .i64 (s:Nat))]] [] (b4 rows[s]):=by
 have CK:=KT rows[s];have CS:=Ft rows[s] hz hr hl
 have e0:b4 rows[s]=b4 (rows[s].drop 0):=by rw [List.drop_zero]
 have eR:(rows.map (fun r=>[AV.mp (b4 r)])).getD s []=[.mp (b4 rows[s])]:=by
  rw [U3,Ut,Uq hs];rfl
 rw [show rJ Tryz.prog 96 [.vp [.vp (gV rows ends)], .vp [.v (.int .i64 (s:Nat))]] [] (b4 rows[s])=rJ Tryz.prog 96 [.vp [.vp (gV rows ends)], .vp [.v (.int .i64 (s:Nat))]] [] (b4 (rows[s].drop 0)) by rw [<-e0]];simp only [gV,aZ,U2] at *
 (refine rJ.enter Tryz.func96 rfl (by kernel_rfl) (by kernel_rfl) rfl (fun l=> ?_);simp only [Tryz.ntmps96,Tryz.results96,List.length_cons,List.length_nil,Nat.reduceAdd,Nat.reduceSub,List.replicate_succ,List.replicate_zero,List.cons_append,List.nil_append])
 (refine sC eR ?_;intro K hK)
 refine bV [] [] (by decide+kernel) (by kernel_rfl) ?_
 repeat (first|(with_reducible first|refine aA.up ?_|refine fun (K:AK) hK=> ?_|refine ae (by decide) ?_|(refine hK _ ?_;clear hK K))|simp only [go_sem,eR]|with_reducible refine wA ?_|clear hK K)
 refine ba.one CK ?_
 (revert K;revert K;refine sC eR ?_;intro K hK K hK)
 refine ba.one CS ?_
 (revert K;revert K;refine sC eR ?_)
 refine uS (ι:=Nat) 17 (fun i=>[(16, .v (.int .i64 i)),(5, .undef)]) (fun i=>[]) (fun i=> .run l (b4 (rows[s].drop i))) (fun i=>rows[s].length - i) (fun i=>i<=rows[s].length) 0 (by omega) ?_ ?_
 ·refine bp ?_ aj
  rfl
 ·rintro i hi K hK
  (revert K;refine Bi ?_;intro K hK K hK)
  refine bC.part (fun h=> ?_) (fun h=> ?_)
  ·have hlt:i<rows[s].length:=by replace h:=bJ h;omega
   have eW:=ak (k:=i) (by omega)
   have eG:(List.map encS (List.map Prod.fst rows[s])).getD i []=[.v (.string rows[s][i].1)]:=by
    rw [U3,Ut,Ut,Uq hlt];rfl
   have eY:=K3 hlt;have eA:=wC rows[s][i].1 rows[s];rw [Nw hr hlt] at eA;simp only [Option.map_some] at eA
   repeat (first|(with_reducible first|refine aA.up ?_|refine fun (K:AK) hK=> ?_|refine ae (by decide) ?_|(refine hK _ ?_;clear hK K))|simp only [go_sem,eG,h]|with_reducible refine wA ?_|clear hK K)
   (refine D6 11 (by decide+kernel) (by kernel_rfl) ?_;simp only [List.drop_succ_cons,List.drop_zero,List.take_succ_cons,List.take_zero])
   repeat' (first|(with_reducible first|refine aA.up ?_|refine fun (K:AK) hK=> ?_|refine ae (by decide) ?_|(refine hK _ ?_;clear hK K))|simp only [go_sem,eR,eA,eY,eW,Go.undef]|with_reducible refine wA ?_|clear hK K|(with_reducible refine ab.one (by assumption) ?_)|(with_reducible refine ba.one (by assumption) ?_)|(refine bC.part (fun hb=> ?_) (fun hb=> ?_)<;>simp only [hb,go_sem,eR,eA,eY,eW,Go.undef])|(refine bC.part (fun hb=> ?_) (fun hb=> ?_))|(with_reducible refine ni.mk ?_ ?_))
   ·exact az.mk (i+1) (by omega) (by omega) (by exact aO aj)
   ·exact .inr trivial
  ·have e1:rows[s].drop i=[]:=List.drop_eq_nil_of_le (by replace h:=bJ h;omega);simp only [e1,b4,List.map_nil]
   (revert K;revert K;refine Bi ?_)
   exact .inl trivial
theorem Dn (rows:List aR) (ends:List Bool) (s:Nat):ar Tryz.prog 65 [.vp (gV rows ends), .v (.int .i64 (s:Nat))] (.fn 96 [] [.vp [.vp (gV rows ends)], .vp [.v (.int .i64 (s:Nat))]]):=by
 simp only [gV] at *;refine gE Tryz.func65 Tryz.ntmps65 Tryz.results65 ?_
 repeat' (first|(with_reducible first|refine aA.up ?_|refine fun (K:AK) hK=> ?_|(refine hK _ ?_;clear hK K))|simp only [go_sem]|clear hK K|(with_reducible refine ab.one (by assumption) ?_)|(with_reducible refine ba.one (by assumption) ?_)|(refine bC.part (fun hb=> ?_) (fun hb=> ?_)<;>simp only [hb,go_sem])|(refine bC.part (fun hb=> ?_) (fun hb=> ?_))|(with_reducible refine ni.mk ?_ ?_))
 (refine jB.of 40 rfl ?_;simp only [go_sem])
end
section
theorem M7 {a b x y:List UInt8} (h:a++32 :: x=b++32 :: y) (ha:32∉a) (hb:32∉b):a=b∧x=y:=by
 induction a generalizing b with
 | nil=>
  cases b with
  | nil=>simpa using h
  | cons c b=>simp at h hb;exact absurd h.1 hb.1
 | cons d a ih=>
  cases b with
  | nil=>simp at h ha;exact absurd h.1.symm ha.1
  | cons c b=>
   simp only [List.cons_append,V6,List.mem_cons,not_or] at h ha hb;obtain ⟨rfl,h⟩:=h;obtain ⟨h1,h2⟩:=ih h ha.2 hb.2;exact ⟨by rw [h1],h2⟩
section
variable (rows:List aR) (ends:List Bool)
def EZ (r:aR):Prop:= ∀p∈r,32∉p.1.data.toList
def qg (part:List Nat) (r:aR):List Nat:=r.map (fun e=>part.getD e.2 0)
theorem Ab {part:List Nat}: ∀ {r s:aR},EZ r->EZ s->r.flatMap (fun e=>32 :: (e.1.data.toList++32 :: Lib.decDigits (part.getD e.2 0)))=s.flatMap (fun e=>32 :: (e.1.data.toList++32 :: Lib.decDigits (part.getD e.2 0)))->r.map Prod.fst=s.map Prod.fst∧qg part r=qg part s
 | [],[],_,_,_=>⟨rfl,rfl⟩
 | [],b :: s,_,_,h=>by simp at h
 | a :: r,[],_,_,h=>by simp at h
 | a :: r,b :: s,h1,h2,h=>by
  simp only [List.flatMap_cons,List.cons_append,List.append_assoc,V6,true_and] at h;obtain ⟨k1,k2⟩:=M7 h (h1 a List.mem_cons_self) (h2 b List.mem_cons_self)
  have hh: ∀t:aR,(t.flatMap (fun e=>32 :: (e.1.data.toList++32 :: Lib.decDigits (part.getD e.2 0))))=[]∨(t.flatMap (fun e=>32 :: (e.1.data.toList++32 :: Lib.decDigits (part.getD e.2 0)))).head? = some 32:=fun t=>by
   cases t with
   | nil=>exact .inl rfl
   | cons a t=>exact .inr rfl
  obtain ⟨k3,k4⟩:=oP k2 (hh r) (hh s);obtain ⟨k5,k6⟩:=Ab (fun p hp=>h1 p (U8 _ hp)) (fun p hp=>h2 p (U8 _ hp)) k4
  have:a.1=b.1:=by
   cases ha:a.1 with|mk x=>cases hb:b.1 with|mk y=>
   rw [ha,hb] at k1;exact congrArg ByteArray.mk (Array.toList_inj.1 k1)
  exact ⟨by rw [Wa,Wa,k5,this],by rw [qg,Wa,k3];rw [qg,qg] at k6;rw [k6];rfl⟩
theorem vD {part:List Nat} {p q:Nat} {r s:aR} (h1:EZ r) (h2:EZ s) (h:bT part p r=bT part q s):p=q∧r.map Prod.fst=s.map Prod.fst∧qg part r=qg part s:=by
 have e:tC part p r=tC part q s:=by
  have:(bT part p r).data.toList=(bT part q s).data.toList:=by rw [h]
  simpa [bT] using this
 have hh: ∀t:aR,(t.flatMap (fun e=>32 :: (e.1.data.toList++32 :: Lib.decDigits (part.getD e.2 0))))=[]∨(t.flatMap (fun e=>32 :: (e.1.data.toList++32 :: Lib.decDigits (part.getD e.2 0)))).head? = some 32:=fun t=>by
  cases t with
  | nil=>exact .inl rfl
  | cons a t=>exact .inr rfl
 obtain ⟨k1,k2⟩:=oP e (hh r) (hh s);exact ⟨k1,Ab h1 h2 k2⟩
structure QH (part:List Nat):Prop where
 ends: ∀s t,s<rows.length->t<rows.length->part.getD s 0=part.getD t 0->ends.getD s false=ends.getD t false
 row: ∀s t,s<rows.length->t<rows.length->part.getD s 0=part.getD t 0->(rows.getD s []).map Prod.fst=(rows.getD t []).map Prod.fst∧qg part (rows.getD s [])=qg part (rows.getD t [])
def o5:Prop:= ∀r∈rows,EZ r
theorem rm (h:o5 rows) (s:Nat):EZ (rows.getD s []):=by
 rcases Ue s rows.length with q|q
 ·exact h _ (aQ q)
 ·rw [U3,List.getElem?_eq_none q];exact fun p hp=>by simp at hp
theorem vF {part:List Nat} {s t:Nat} (hs:s<rows.length) (ht:t<rows.length):(dJ rows part).getD s 0=(dJ rows part).getD t 0↔bT part (part.getD s 0) (rows.getD s [])=bT part (part.getD t 0) (rows.getD t []):=by
 have ok:=gb rows part rows.length;obtain ⟨q1,q2⟩:=ok.at' s hs;obtain ⟨r1,r2⟩:=ok.at' t ht
 constructor
 ·intro e;have e1:(dn rows part rows.length).2.getD s 0=(dn rows part rows.length).2.getD t 0:=e;rw [<-q2, <- r2];simp only [e1]
 ·intro e;rw [<-q2, <- r2] at e
  exact Wf fun hne=>by
   rcases Ue ((dn rows part rows.length).2.getD s 0) ((dn rows part rows.length).2.getD t 0) with h|h
   ·exact V1.1 ok.nd _ _ q1 r1 h e
   ·exact V1.1 ok.nd _ _ r1 q1 (Nat.lt_of_le_of_ne h (fun q=>hne q.symm)) e.symm
theorem n3 {part:List Nat} {s t:Nat} (hs:s<rows.length) (ht:t<rows.length) (h:(dJ rows part).getD s 0=(dJ rows part).getD t 0):part.getD s 0=part.getD t 0:=
 tD ((vF rows hs ht).1 h)
theorem jq {part:List Nat} {s:Nat} (hs:s<rows.length):(dJ rows part).getD s 0<e7 rows part:=((gb rows part rows.length).at' s hs).1
theorem BH {part:List Nat} {many:Nat} (h:Ou rows part many) (hlt: ∀s,s<rows.length->part.getD s 0<many) (he:e7 rows part=many) {s t:Nat} (hs:s<rows.length) (ht:t<rows.length) (hp:part.getD s 0=part.getD t 0):(dJ rows part).getD s 0=(dJ rows part).getD t 0:=by
 refine Wf fun hne=> ?_
 have hch: ∀k, ∃m,k<many-> ∃u,u<rows.length∧part.getD u 0=k∧(dJ rows part).getD u 0=m:=fun k=>by
  by_cases hk:k<many
  ·obtain ⟨u,h1,h2⟩:=h.2 k hk;exact ⟨_,fun _=>⟨u,h1,h2,rfl⟩⟩
  ·exact ⟨0,fun q=>absurd q hk⟩
 obtain ⟨f,hf⟩:=Classical.axiomOfChoice hch
 have fin: ∀a b,a<many->b<many->f a=f b->a=b:=fun a b ha hb e=>by
  obtain ⟨u,k1,k2,k3⟩:=hf a ha;obtain ⟨v,m1,m2,m3⟩:=hf b hb
  have:=n3 rows k1 m1 (k3.trans (e.trans m3.symm))
  rw [<-k2, <- m2];exact this
 have hk:=hlt s hs
 
 obtain ⟨z,hz,hz2⟩: ∃z,z<rows.length∧part.getD z 0=part.getD s 0∧(dJ rows part).getD z 0≠f (part.getD s 0):=by
  by_cases q:(dJ rows part).getD s 0=f (part.getD s 0)
  ·exact ⟨t,ht,hp.symm,fun e=>hne (q.trans e.symm)⟩
  ·exact ⟨s,hs,rfl,q⟩
 have:=Hl (many+1) (e7 rows part) (fun a=>if a<many then f a else (dJ rows part).getD z 0) (fun a ha=>by
  split
  ·rename_i q;obtain ⟨u,k1,_,k3⟩:=hf a q;rw [<-k3];exact jq rows k1
  ·exact jq rows hz) (fun a b ha hb e=>by
  have side: ∀a,a<many->f a≠(dJ rows part).getD z 0:=fun a q e=>by
   obtain ⟨u,k1,k2,k3⟩:=hf a q
   have:=n3 rows k1 hz (k3.trans e)
   have ha':a=part.getD s 0:=by rw [<-k2,this,hz2.1]
   subst ha';exact hz2.2 e.symm
  split at e<;>split at e
  ·rename_i q1 q2;exact fin a b q1 q2 e
  ·rename_i q1 q2;exact absurd e (side a q1)
  ·rename_i q1 q2;exact absurd e.symm (side b q2)
  ·omega)
 omega
def Mc (part:List Nat):Prop:= ∀s t,s<rows.length->t<rows.length->part.getD s 0=part.getD t 0->ends.getD s false=ends.getD t false
theorem zG (hn:o5 rows) (hT: ∀r∈rows, ∀p∈r,p.2<rows.length) (h0:0<rows.length): ∀(f:Nat) {part:List Nat} {many:Nat},Mc rows ends part->Ou rows part many->many<=rows.length->(many≠0-> ∀s,s<rows.length->part.getD s 0<many)->rows.length+1<=f+many ->
  QH rows ends (nh rows f part many)∧(nh rows f part many).length=rows.length
 | 0,part,many,_,_,_,_,hf=>by omega
 | f+1,part,many,he,ho,hm,hlt,hf=>by
  have hN:Mc rows ends (dJ rows part):=fun s t hs ht h=>he s t hs ht (n3 rows hs ht h);have hpos:0<e7 rows part:=Nat.lt_of_le_of_lt (Nat.zero_le _) (jq rows (part:=part) h0);rw [nh]
  split
  ·rename_i hq;refine ⟨⟨hN,fun s t hs ht h=> ?_⟩,(ml rows part).1⟩;obtain ⟨_,k2,k3⟩:=vD (rm rows hn s) (rm rows hn t) ((vF rows hs ht).1 h);refine ⟨k2, ?_⟩
   
   have hlen:(rows.getD s []).length=(rows.getD t []).length:=by simpa using congrArg List.length k2
   refine List.ext_getElem (by simp only [qg,List.length_map,hlen]) fun i h1 h2=> ?_
   have e:(qg part (rows.getD s []))[i]? = (qg part (rows.getD t []))[i]? :=by rw [k3]
   simp only [qg,List.length_map] at h1 h2;simp only [qg,List.getElem?_map,Uq h1,Uq h2,Option.map_some,Um,List.getElem_map] at e ⊢;exact BH rows ho (hlt (by omega)) hq (hT _ (aQ hs) _ (List.getElem_mem h1)) (hT _ (aQ ht) _ (List.getElem_mem h2)) e
  ·rename_i hq
   have:=kV rows ho
   exact zG hn hT h0 f hN (ml rows part) (mj rows part) (fun _ s hs=>jq rows hs) (by omega)
theorem tG (hn:o5 rows) (hT: ∀r∈rows, ∀p∈r,p.2<rows.length) (h0:0<rows.length) (hl:ends.length=rows.length):QH rows ends (br rows ends)∧(br rows ends).length=rows.length:=by
 refine zG rows ends hn hT h0 (rows.length+2) (fun s t hs ht h=> ?_) ⟨by simp [p0,hl],fun k h=>by omega⟩ (Nat.zero_le _) (fun h=>absurd rfl h) (by omega)
 have hg: ∀u,u<rows.length->(p0 ends).getD u 0=if ends.getD u false then 1 else 0:=fun u hu=>by
  rw [p0,U3,List.getElem?_map,Uq (by omega),U3,Uq (by omega)];rfl
 rw [hg s hs,hg t ht] at h;cases h1:ends.getD s false<;>cases h2:ends.getD t false<;>simp_all
variable {rows ends}
theorem s9 {part:List Nat}: ∀ {r s:aR},r.map Prod.fst=s.map Prod.fst->qg part r=qg part s-> ∀l,(look r l=none↔look s l=none)∧ ∀a b,look r l=some a->look s l=some b->part.getD a 0=part.getD b 0
 | [],[],_,_,l=>⟨Iff.rfl,fun a b h=>by simp [look] at h⟩
 | [],b :: s,h,_,l=>by simp at h
 | a :: r,[],h,_,l=>by simp at h
 | a :: r,b :: s,h1,h2,l=>by
  rw [Wa,Wa,V6] at h1;rw [qg,qg,Wa,Wa,V6] at h2;obtain ⟨k1,k2⟩:=s9 h1.2 h2.2 l
  cases hh:cZ l a.1
  ·have hb:cZ l b.1=false:=by rw [<-h1.1];exact hh
   simp only [look,List.find?_cons,hh,hb] at k1 k2 ⊢;exact ⟨k1,k2⟩
  ·have hb:cZ l b.1=true:=by rw [<-h1.1];exact hh
   simp only [look,List.find?_cons,hh,hb,Option.map_some];exact ⟨by simp,fun x y hx hy=>by cases hx;cases hy;exact h2.1⟩
theorem xw (hT: ∀r∈rows, ∀p∈r,p.2<rows.length) {s:Nat} (hs:s<rows.length) {l:ByteArray} {t:Nat} (h:look (rows.getD s []) l=some t):t<rows.length:=hT _ (aQ hs) _ (dy h)
theorem vS (hT: ∀r∈rows, ∀p∈r,p.2<rows.length) {part:List Nat} (h:QH rows ends part): ∀(w:List ByteArray) {s t:Nat},s<rows.length->t<rows.length->part.getD s 0=part.getD t 0->bK rows ends s w=bK rows ends t w
 | [],s,t,hs,ht,e=>h.ends s t hs ht e
 | l :: w,s,t,hs,ht,e=>by
  obtain ⟨h1,h2⟩:=h.row s t hs ht e;obtain ⟨k1,k2⟩:=s9 h1 h2 l;rw [bK,bK,sF,sF]
  cases q1:look (rows.getD s []) l with
  | none=>rw [k1.1 q1]
  | some a=>
   cases q2:look (rows.getD t []) l with
   | none=>rw [k1.2 q2] at q1;cases q1
   | some b=>exact vS hT h w (xw hT hs q1) (xw hT ht q2) (k2 a b q1 q2)
def F5 (part order:List Nat) (r r':aR):Prop:= ∀l,(look r l=none->look r' l=none)∧ ∀t,look r l=some t-> ∃k,look r' l=some k∧k<order.length∧part.getD (order.getD k 0) 0=part.getD t 0
theorem F5.mono {part order t:List Nat} {r r':aR} (h:F5 part order r r'):F5 part (order++t) r r':=fun l=>
 ⟨(h l).1,fun a ha=>by
  obtain ⟨k,k1,k2,k3⟩:=(h l).2 a ha
  exact ⟨k,k1,by rw [Ug];omega,by rw [bX k2];exact k3⟩⟩
theorem IE (part:List Nat) (order:List Nat): ∀r:aR,(r.map Prod.fst).Nodup->F5 part (dI part order r).1 r (dI part order r).2:=by
 refine fg (fun _ l=>⟨fun _=>by simp [dI,look],fun t h=>by simp [look] at h⟩) ?_;intro r e ih hn l;rw [List.map_append] at hn;have hn':=List.nodup_append.1 hn;have ih:=ih hn'.1;have hm:look r e.1=none:=cP.2 fun q=>hn'.2.2 e.1 q e.1 (by simp) rfl
 have key: ∀(o':List Nat) (k:Nat),(∃t,o'=(dI part order r).1++t)->k<o'.length->part.getD (o'.getD k 0) 0=part.getD e.2 0->(look (r++[e]) l=none->look ((dI part order r).2++[(e.1,k)]) l=none)∧ ∀t,look (r++[e]) l=some t-> ∃j,look ((dI part order r).2++[(e.1,k)]) l=some j∧j<o'.length∧part.getD (o'.getD j 0) 0=part.getD t 0:=by
  rintro _ k ⟨t2,rfl⟩ hk hp;have e2:r++[e]=r++[(e.1,e.2)]:=rfl;rw [e2,ic,ic,ig,ig]
  by_cases hl:l=e.1
  ·subst hl;rw [hm,(ih _).1 hm,if_pos rfl,if_pos rfl];refine ⟨fun h=>by simp at h,fun t h=> ?_⟩;simp only [Option.none_or,Um] at h;subst h;exact ⟨k,rfl,hk,hp⟩
  ·rw [if_neg hl,if_neg hl]
   refine ⟨fun h=> ?_,fun t h=> ?_⟩
   ·cases q:look r l with
    | none=>rw [(ih l).1 q];rfl
    | some t=>rw [q] at h;cases h
   ·cases q:look r l with
    | none=>rw [q] at h;cases h
    | some t'=>
     rw [q] at h;simp only [Option.some_or,Um] at h;subst h;obtain ⟨j,j1,j2,j3⟩:=(ih l).2 t' q;exact ⟨j,by rw [j1];rfl,by rw [Ug];omega,by rw [bX j2];exact j3⟩
 rw [kn,Dd]
 split
 ·rename_i n hq;obtain ⟨q1,q2⟩:=vL part hq
  have q3:(dI part order r).1.getD n 0=(dI part order r).1[n]:=by rw [U3,Uq q1,Option.getD_some]
  exact key _ n ⟨[],by simp⟩ q1 (by show part.getD ((dI part order r).1.getD n 0) 0=_;rw [q3];exact q2)
 ·exact key _ _ ⟨_,rfl⟩ (by simp) (by rw [dV])
structure QW (rows:List aR) (ends:List Bool) (part:List Nat) (st:wo):Prop where
 zero:st.order.getD 0 0=0
 row: ∀k,k<st.rows.length->F5 part st.order (rows.getD (st.order.getD k 0) []) (st.rows.getD k [])
 Bb: ∀k,k<st.rows.length->st.ends.getD k false=ends.getD (st.order.getD k 0) false
theorem Ls (hT: ∀r∈rows, ∀p∈r,p.2<rows.length) (hN: ∀r∈rows,(r.map Prod.fst).Nodup) {part:List Nat} {st:wo} (ho:DH rows part st) (h:QW rows ends part st) (h1:st.rows.length<st.order.length):QW rows ends part (dQ rows ends part st):=by
 have hc:dp st<rows.length:=ho.lt _ (aQ h1);obtain ⟨_,_,_,k4,_,t,k6⟩:=ru part (n:=rows.length) ho.nd ho.lt (rows.getD (dp st) []) (hT _ (aQ hc));have hr:=IE part st.order (rows.getD (dp st) []) (hN _ (aQ hc))
 have hg: ∀k,k<st.order.length->(dQ rows ends part st).order.getD k 0=st.order.getD k 0:=fun k hk=>by simp only [dQ,k6];exact bX hk
 refine ⟨by rw [hg 0 (by omega)];exact h.zero,fun k hk=> ?_,fun k hk=> ?_⟩
 ·have hk':k<st.rows.length+1:=by simpa [dQ] using hk
  rw [hg k (by omega)]
  rcases Ue k st.rows.length with q|q
  ·simp only [dQ,k6,fV q];exact (h.row k q).mono
  ·obtain rfl:k=st.rows.length:=by omega
   simp only [dQ,dV];exact hr
 ·have hk':k<st.rows.length+1:=by simpa [dQ] using hk
  rw [hg k (by omega)]
  rcases Ue k st.rows.length with q|q
  ·simp only [dQ];rw [fV (by rw [ho.ends];exact q)];exact h.Bb k q
  ·obtain rfl:k=st.rows.length:=by omega
   simp only [dQ];rw [<-ho.ends,dV,ho.ends];rfl
theorem IF (hT: ∀r∈rows, ∀p∈r,p.2<rows.length) (hN: ∀r∈rows,(r.map Prod.fst).Nodup) {part:List Nat}: ∀(f:Nat) {st:wo},DH rows part st->QW rows ends part st->QW rows ends part (lI rows ends part f st)
 | 0,st,_,h=>h
 | f+1,st,ho,h=>by
  rw [lI]
  split
  ·rename_i h1;exact IF hT hN f (pb rows ends part hT ho h1) (Ls hT hN ho h h1)
  ·exact h
theorem zn (hT: ∀r∈rows, ∀p∈r,p.2<rows.length) (hN: ∀r∈rows,(r.map Prod.fst).Nodup) (h0:0<rows.length) (part:List Nat) :
  DH rows part (cq rows ends part)∧(cq rows ends part).rows.length=(cq rows ends part).order.length∧QW rows ends part (cq rows ends part):=by
 have h:=De rows ends part hT (rows.length+1) (Db rows part h0) (by simp [q0]);exact ⟨h.1,h.2,IF hT hN _ (Db rows part h0) ⟨rfl,fun k hk=>by simp [q0] at hk,fun k hk=>by simp [q0] at hk⟩⟩
theorem zL {part:List Nat}: ∀(f:Nat) {st:wo},st.order.length<=(lI rows ends part f st).order.length
 | 0,st=>Nat.le_refl _
 | f+1,st=>by
  rw [lI]
  split
  ·have hq: ∀(o:List Nat) (r:aR),o.length<=(dI part o r).1.length:=fun o=>by
    refine fg (by simp [dI]) ?_;intro r e ih;rw [kn,Dd]
    split
    ·exact ih
    ·simp only [Ug];omega
   exact Nat.le_trans (hq _ _) (zL f (st:=dQ rows ends part st))
  ·exact Nat.le_refl _
theorem qK (hT: ∀r∈rows, ∀p∈r,p.2<rows.length) {part:List Nat} (hS:QH rows ends part) {st:wo} (ho:DH rows part st) (hl:st.rows.length=st.order.length) (h:QW rows ends part st): ∀(w:List ByteArray) {k:Nat},k<st.order.length->bK st.rows st.ends k w=bK rows ends (st.order.getD k 0) w
 | [],k,hk=>h.Bb k (by omega)
 | l :: w,k,hk=>by
  have hr:=h.row k (by omega) l;have hs:st.order.getD k 0<rows.length:=ho.lt _ (aQ hk);rw [bK,bK,sF,sF]
  cases q:look (rows.getD (st.order.getD k 0) []) l with
  | none=>rw [hr.1 q]
  | some t=>
   obtain ⟨j,j1,j2,j3⟩:=hr.2 t q;rw [j1]
   have:=qK hT hS ho hl h w j2
   rw [bK,bK] at this;simp only;rw [this];exact vS hT hS w (ho.lt _ (aQ j2)) (xw hT hs q) j3
end
end
end Go.Proofs.YtfflpdekojlnmaaGreatDoor
