/- texts of one claim, one behind the other. -/
import Derived.Test.YtlhhccmopfamhaaGreatDoorXExprC
import Derived.Test.YtlhhccmopfamhaaGreatDoorRows
import Derived.Test.YtlhhccmopfamhaaGreatDoorXRelG
import Derived.LaidMore
import Derived.OpenShut
import Derived.Test.YtlhhccmopfamhaaGreatDoorXFen
import Derived.MapKept
import Derived.Sort.Walk0
import Derived.Maps.RangeRun
import Derived.Sort.MapsRangeIn
import Derived.Sort.Grow
import Derived.WalkKit
import Derived.Shelf.GgSortFunc.InsertionK
import Derived.Shelf.SlSortCmp.NoneTotal
import Derived.Lib.ItoaNum
set_option linter.unusedSimpArgs false
set_option linter.unusedVariables false
set_option maxRecDepth 100000
set_option maxHeartbeats 16000000
open BitVec renaming eq_of_toNat_eq -> Xh, lt_of_getLsbD -> Xi, eq_of_getLsbD_eq -> Xj, getLsbD_and -> Xk, getLsbD_neg -> Xl
open Bool renaming not_eq_true -> Xm, eq_iff_iff -> Xt, and_self -> WT, and_true -> Wg, true_and -> Wn, and_eq_true -> VS, not_eq_true' -> WC, false_eq_true -> Wy
open List renaming mem_cons_of_mem -> V2, mem_cons -> Wr, getElem?_eq_some_iff -> U4, drop_eq_getElem_cons -> Wv, length_cons -> U9, length_nil -> U3, replicate_succ -> WW, replicate_zero -> WX, cons_append -> WY, nil_append -> WZ, mem_append_left -> Wx, getElem?_eq_getElem -> Vi, getD_eq_getElem?_getD -> VX, mem_cons_self -> V4, mem_map -> Wu, getElem?_append_left -> U5, getElem?_concat_length -> U7, mem_append -> Ww, mem_singleton -> Xq, length_append -> U8, lt_irrefl -> Xr, lt_trans -> Xs, pairwise_cons -> Wq, nodup_nil -> V6, mem_flatMap -> Xf, foldl_cons -> WJ, foldl_nil -> WK, getElem?_toArray -> Vk, size_toArray -> Vs, map_cons -> WR, filter_cons_of_pos -> Xu, filter_cons_of_neg -> Xv, getElem_of_mem -> Xx, getElem?_set_ne -> Vp, getElem?_set_self -> Vq, set_cons_zero -> WO, setIfInBounds_toArray -> WL, set_cons_succ -> WN, pairwise_map -> Xz, append_nil -> Wj, map_set -> XA, length_pos_iff -> XF, length_set -> XG, map_nil -> Xb, getElem?_cons_zero -> V7, getElem?_cons_succ -> WG, pairwise_iff_getElem -> XH, length_map -> VW, getElem_map -> XI, mem_range -> Wd, foldl_append -> XJ, append_assoc -> Vv, findIdx?_eq_none_iff -> Wp, findIdx?_eq_some_iff_getElem -> Wo, map_append -> XK, nodup_append -> XL, length_singleton -> XM, getElem?_append_right -> Vy
open Nat renaming lt_or_ge -> U6, le_refl -> UZ, lt_add_one -> XB, zero_lt_one -> XE
open Option.some renaming inj -> UY, injEq -> Ve
open Go.MapKept renaming bytes_beq -> Xo
open Int renaming le_refl -> Xp
open Option renaming map_some -> VB
open Array renaming getElem?_setIfInBounds_ne -> Xw, getElem?_eq_getElem -> Vh, getElem?_eq_some_iff -> U2, getElem?_eq_none -> WU
open List.cons renaming injEq -> Xy
namespace Go.Proofs.YtlhhccmopfamhaaGreatDoor
open Go.RowKit
section
theorem lx (n:Int):IntKind.u32.wrap n=n % 4294967296:=by simp [IntKind.wrap,IntKind.signed,IntKind.bits]
theorem Bt (m:BitVec 32):IntKind.u32.wrap (m.toNat:Int)=m.toNat:=by
 rw [lx];have:=m.isLt;omega
theorem gZ (m:BitVec 32):BitVec.ofInt 32 (m.toNat:Int)=m:=by
 simp
theorem Ck (m:BitVec 32):IntKind.u32.wrap ((m.toNat:Int) - 1)=(m - 1#32).toNat:=by
 rw [lx,BitVec.toNat_sub];have:=m.isLt;simp;omega
theorem Kv (m:BitVec 32):IntKind.u32.wrap (0 - (m.toNat:Int))=(-m).toNat:=by
 rw [lx,BitVec.toNat_neg];have:=m.isLt;omega
theorem Ku (m:BitVec 32):IntKind.u32.wrap ((m.toNat:Int) * 125613361)=(m * 125613361#32).toNat:=by
 rw [lx,BitVec.toNat_mul];simp
theorem Kz (m:BitVec 32):(m.toNat:Int).fdiv (2 ^ min 27 32)=(m >>> 27).toNat:=by
 show (m.toNat:Int).fdiv (2 ^ 27)=_;rw [BitVec.toNat_ushiftRight,Nat.shiftRight_eq_div_pow];simp [Int.fdiv_eq_ediv_of_nonneg]
theorem Ky (p:Nat):IntKind.u32.wrap (1 * 2 ^ p)=(1#32 <<< p).toNat:=by
 rw [lx,BitVec.toNat_shiftLeft,Nat.shiftLeft_eq];simp
theorem Kx (m:BitVec 32):decide ((0:Int)<(m.toNat:Int))=(m !=0#32):=by
 by_cases h:m=0#32
 ·subst h;simp
 ·have e:m.toNat≠0:=fun e=>h (Xh (by simpa using e));rw [bne_iff_ne.2 h];exact decide_eq_true (by omega)
theorem Hh (m:BitVec 32):((m.toNat:Int)==0)=(m==0#32):=by
 by_cases h:m=0#32
 ·subst h;simp
 ·have e:m.toNat≠0:=fun e=>h (Xh (by simpa using e));rw [beq_eq_false_iff_ne.2 h];exact beq_eq_false_iff_ne.2 (by omega)
theorem vR (m n:BitVec 32):GK .u32 m.toNat n.toNat=(m &&& n).toNat:=by
 rw [GK];show IntKind.u32.wrap ((BitVec.ofInt 32 _ &&& BitVec.ofInt 32 _).toNat:Int)=_;rw [gZ,gZ,Bt]
theorem jY (m n:BitVec 32):QI .u32 m.toNat n.toNat=(m ||| n).toNat:=by
 rw [QI];show IntKind.u32.wrap ((BitVec.ofInt 32 _ ||| BitVec.ofInt 32 _).toNat:Int)=_;rw [gZ,gZ,Bt]
theorem Kw (m n:BitVec 32):qk .u32 m.toNat n.toNat=(m &&& ~~~ n).toNat:=by
 rw [qk];show IntKind.u32.wrap ((BitVec.ofInt 32 _ &&& ~~~ BitVec.ofInt 32 _).toNat:Int)=_;rw [gZ,gZ,Bt]
def ar (m:BitVec 32):List Nat:=(List.range 32).filter m.getLsbD
theorem aT {m:BitVec 32} {p:Nat}:p∈ar m↔m.getLsbD p=true:=by
 simp only [ar,List.mem_filter,List.mem_range];exact ⟨fun h=>h.2,fun h=>⟨Xi h,h⟩⟩
theorem mA (m:BitVec 32):(ar m).Pairwise (· < ·):=List.pairwise_lt_range.filter _
theorem DO (m:BitVec 32):(ar m).length<=32:=by
 have:=List.length_filter_le m.getLsbD (List.range 32)
 simpa [ar] using this
theorem jJ:ar 0#32=[]:=by simp [ar]
theorem oO {m:BitVec 32} (h:ar m=[]):m=0#32:=by
 refine Xj fun i hi=> ?_
 cases hb:m.getLsbD i with
 | false=>simp
 | true=>have:=aT.2 hb;rw [h] at this;cases this
theorem nH {m:BitVec 32} {p:Nat} {r:List Nat} (h:ar m=p :: r):m.getLsbD p=true∧p<32∧(∀j,j<p->m.getLsbD j=false)∧ ∀j,j∈r↔(m.getLsbD j=true∧p<j):=by
 have hm:m.getLsbD p=true:=aT.1 (by rw [h];simp);have hr:=mA m;rw [h,List.pairwise_cons] at hr
 refine ⟨hm,Xi hm,fun j hj=> ?_,fun j=>⟨fun hj=>⟨aT.1 (by rw [h];exact V2 _ hj),hr.1 j hj⟩,fun hj=> ?_⟩⟩
 ·cases hb:m.getLsbD j with
  | false=>rfl
  | true=>
   have:=aT.2 hb
   rw [h,Wr] at this
   rcases this with rfl|hh
   ·omega
   ·have:=hr.1 j hh;omega
 ·have:=aT.2 hj.1
  rw [h,Wr] at this
  rcases this with rfl|hh
  ·omega
  ·exact hh
theorem Kq {m:BitVec 32} {p:Nat} {r:List Nat} (h:ar m=p :: r):m &&& -m=1#32 <<< p:=by
 obtain ⟨h1,h2,h3,h4⟩:=nH h;refine Xj fun i hi=> ?_;rw [Xk,Xl,BitVec.getLsbD_shiftLeft,BitVec.getLsbD_one]
 rcases Nat.lt_trichotomy i p with q|q|q
 ·simp [h3 i q,q]
 ·subst q
  have: ¬ ∃j,j<i∧m.getLsbD j=true:=fun ⟨j,a,b⟩=>by rw [h3 j a] at b;cases b
  rw [h1,decide_eq_false this];simp [hi]
 ·have: ∃j,j<i∧m.getLsbD j=true:=⟨p,q,h1⟩
  have e:i - p≠0:=by omega
  simp [this,hi,e]
theorem Hc {m:BitVec 32} {p:Nat} {r:List Nat} (h:ar m=p :: r):ar (m &&& (m - 1#32))=r:=by
 obtain ⟨h1,h2,h3,h4⟩:=nH h;have hr:=mA m;rw [h,List.pairwise_cons] at hr
 have key: ∀j,(m &&& (m - 1#32)).getLsbD j=true↔j∈r:=fun j=>by
  rw [h4, <- BitVec.not_neg,Xk,BitVec.getLsbD_not,Xl]
  rcases U6 p j with q|q
  ·have: ∃k,k<j∧m.getLsbD k=true:=⟨p,q,h1⟩
   by_cases hj:m.getLsbD j=true
   ·have:=Xi hj
    simp_all
   ·simp_all
  ·by_cases hj:m.getLsbD j=true
   ·have e:j=p:=by
     rcases U6 j p with a|a
     ·rw [h3 j a] at hj;cases hj
     ·omega
    subst e
    have: ¬ ∃k,k<j∧m.getLsbD k=true:=fun ⟨k,a,b⟩=>by rw [h3 k a] at b;cases b
    rw [h1,decide_eq_false this];simp [h2]
   ·simp_all
 exact ea (mA _) hr.2 (fun j=>aT.trans (key j))
def aE (m:BitVec 32):AV:= .v (.int .u32 m.toNat)
def yY:List Int:=[0,1,28,2,29,14,24,3,30,22,20,15,25,17,4,8,31,27,13,23,21,19,16,7,26,12,18,6,11,5,10,9]
theorem Nv: ∀p:Nat,p<32->yY[((1#32 <<< p * 125613361#32) >>> 27).toNat]? = some (p:Int):=by decide
theorem MF (s:AS):s.ev (.global 0) = .vp (yY.map fun i=> .v (.int .u8 i)):=rfl
theorem JZ {l:List Int} {f:Int->AV} {n:Nat} {x:Int} (e:l[n]? = some x): ∃r,(l.map f).drop n=f x :: r:=by
 obtain ⟨h1,h2⟩:=U4.1 e;exact ⟨_,by rw [Wv (by simpa using h1),List.getElem_map,h2]⟩
theorem IG {p:Nat} (hp:p<32): ∃n r,((1#32 <<< p * 125613361#32) >>> 27).toNat=n∧n<32∧(yY.map fun i=>AV.v (.int .u8 i)).drop n = .v (.int .u8 p) :: r:=by
 have e:=Nv p hp;generalize ((1#32 <<< p * 125613361#32) >>> 27).toNat=n at *;obtain ⟨r,h⟩:=JZ (f:=fun i=>AV.v (.int .u8 i)) e;exact ⟨n,r,rfl,(U4.1 e).1,h⟩
theorem NA {m:BitVec 32} {p:Nat} {r:List Nat} (h:ar m=p :: r): ∃(M N1 N2 N3:Int) (n:Nat) (r':List AV),(m.toNat:Int)=M∧(M==0)=false∧IntKind.u32.wrap (0 - M)=N1∧GK .u32 M N1=N2∧IntKind.u32.wrap (N2 * 125613361)=N3 ∧
  N3.fdiv (2 ^ min 27 32)=n∧n<32∧(yY.map fun i=>AV.v (.int .u8 i)).drop (n * 1) = .v (.int .u8 p) :: r':=by
 have hp:=(nH h).2.1
 have hm:m≠0#32:=fun e=>by rw [e,jJ] at h;cases h
 obtain ⟨n,r',eN,hn,eI⟩:=IG hp;refine ⟨_,_,_,_,n,r',rfl,by rw [Hh];exact beq_eq_false_iff_ne.2 hm,rfl,rfl,rfl, ?_,hn,by rw [Nat.mul_one];exact eI⟩;rw [Kv,vR,Kq h,Ku,Kz,eN]
theorem S4 {m:BitVec 32} {p:Nat} {r:List Nat} (h:ar m=p :: r):ah Tryz.prog 214 [aE m] (.v (.int .i64 p)):=by
 have hp:=(nH h).2.1;obtain ⟨M,N1,N2,N3,n,r',e0,z1,e1,e2,e3,e4,hn,eI⟩:=NA h;simp only [aE,e0]
 (refine ah.enter Tryz.func214 rfl (by kernel_rfl) (by kernel_rfl) rfl (by first|rfl|(simp only [go_sem,Bool.and_self,Bool.and_true,Bool.true_and])) (by first|rfl|(simp only [go_sem,Bool.and_self,Bool.and_true,Bool.true_and])) ?_;simp only [Tryz.ntmps214,Tryz.results214,U9,U3,Nat.reduceAdd,Nat.reduceSub,WW,WX,WY,WZ])
 repeat (first|(with_reducible first|refine ag.up ?_|refine fun (K:AK) hK=> ?_|(refine hK _ ?_;clear hK K))|simp only [go_sem,z1,e1,e2,e3,e4,MF,eI]|with_reducible refine wA ?_|clear hK K)
 have eW:IntKind.i64.wrap (p:Int)=p:=cF (by omega) (by omega)
 repeat (first|(with_reducible first|refine ag.up ?_|refine fun (K:AK) hK=> ?_|(refine hK _ ?_;clear hK K))|simp only [go_sem,eW]|with_reducible refine wA ?_|clear hK K)
def mC (m:BitVec 32):aa:=⟨185,1,false,[[aE m]]⟩
theorem DU (p:Nat) (l:List Nat):aj (p :: l)=[.v (.int .i64 p)] :: aj l:=rfl
theorem Ju (m:BitVec 32):oC Tryz.prog 213 [.ptr 0 0 1 0 0] [some (mC m)] (aj (ar m)):=by
 simp only [mC,aE]
 (refine oC.enter Tryz.func213 rfl (by kernel_rfl) (by kernel_rfl) rfl (fun l=> ?_);simp only [Tryz.ntmps213,Tryz.results213,U9,U3,Nat.reduceAdd,Nat.reduceSub,WW,WX,WY,WZ])
 repeat (first|(with_reducible first|refine ag.up ?_|refine fun (K:AK) hK=> ?_|(refine hK _ ?_;clear hK K))|simp only [go_sem]|clear hK K)
 refine oN (ι:=BitVec 32) 3 (fun i=>[]) (fun i=>[some (mC i)]) (fun i=> .run l (aj (ar i))) (fun i=>(ar i).length) (fun _=>True) m trivial ?_ ?_
 ·simp only [mC,aE]
  (refine aq ?_ ?_ ?_<;>simp only [aD,List.foldl_cons,List.foldl_nil,WW,WX,aW,aY,AV.v.injEq,Value.int.injEq,Value.bool.injEq,Value.string.injEq,AV.vec.injEq,AV.ptr.injEq,true_or,or_true,false_or,or_false,aa.mk.injEq,forall_eq_apply_imp_iff,forall_eq,forall_eq',go_sem])
 ·rintro i hi K hK;simp only [mC,aE]
  repeat (first|(with_reducible first|refine ag.up ?_|refine fun (K:AK) hK=> ?_|(refine hK _ ?_;clear hK K))|simp only [go_sem,Kx]|clear hK K)
  refine eJ.part (fun h=> ?_) (fun h=> ?_)
  ·cases hb:ar i with
   | nil=>rw [oO hb] at h;simp at h
   | cons p r=>
    have C:=S4 hb;have eY:=DU p r;have hR:=Hc hb;simp only [aE] at C
    repeat (first|(with_reducible first|refine ag.up ?_|refine fun (K:AK) hK=> ?_|(refine hK _ ?_;clear hK K))|simp only [go_sem]|clear hK K)
    refine ab.one C ?_
    repeat' (first|(with_reducible first|refine ag.up ?_|refine fun (K:AK) hK=> ?_|(refine hK _ ?_;clear hK K))|simp only [go_sem,eY,Ck,vR]|clear hK K|(with_reducible refine ab.one (by assumption) ?_)|(with_reducible refine bf.one (by assumption) ?_)|(refine eJ.part (fun hb=> ?_) (fun hb=> ?_)<;>simp only [hb,go_sem,eY,Ck,vR])|(refine eJ.part (fun hb=> ?_) (fun hb=> ?_))|(with_reducible refine jc.mk ?_ ?_))
    ·refine aJ.mk (i &&& (i - 1#32)) trivial ?_ ?_
     ·rw [hR,hb];simp
     ·rw [hR];simp only [mC,aE];(refine aq ?_ ?_ ?_<;>simp only [aD,List.foldl_cons,List.foldl_nil,WW,WX,aW,aY,AV.v.injEq,Value.int.injEq,Value.bool.injEq,Value.string.injEq,AV.vec.injEq,AV.ptr.injEq,true_or,or_true,false_or,or_false,aa.mk.injEq,forall_eq_apply_imp_iff,forall_eq,forall_eq',go_sem])
    ·exact .inr trivial
  ·have e1:i=0#32:=by simpa using h
   subst e1;simp only [jJ,aj,List.map_nil]
   repeat (first|(with_reducible first|refine ag.up ?_|refine fun (K:AK) hK=> ?_|(refine hK _ ?_;clear hK K))|simp only [go_sem]|clear hK K)
   exact .inl trivial
theorem nV (m:BitVec 32):aK Tryz.prog 188 [aE m] [] (.fn 213 [] [.ptr 0 0 1 0 0]) [some (mC m)]:=by
 simp only [mC,aE]
 (refine aK.enter Tryz.func188 rfl (by kernel_rfl) (by kernel_rfl) rfl ?_;simp only [Tryz.ntmps188,Tryz.results188,U9,U3,Nat.reduceAdd,Nat.reduceSub,WW,WX,WY,WZ])
 repeat (first|(with_reducible first|refine ag.up ?_|refine fun (K:AK) hK=> ?_|(refine hK _ ?_;clear hK K))|simp only [go_sem]|with_reducible refine wA ?_|clear hK K)
 (refine ⟨?_, ?_, ?_⟩<;>simp only [aW,aY,AV.v.injEq,Value.int.injEq,Value.bool.injEq,Value.string.injEq,AV.vec.injEq,AV.ptr.injEq,true_or,or_true,false_or,or_false,aa.mk.injEq,forall_eq_apply_imp_iff,forall_eq,forall_eq',go_sem])
open Go.ChangeShapes Go.WideShapes Go.ChangeAt Go.RowKit
theorem Hd {P:Program} {w:World} {n:String} {d:DataW Unit}: ∀(laid:List (String×DataW Unit)) (ps:List MemPlace),DataW.LaidVars P w laid ps->(n,d)∈laid ->
  ∃g t cs fuel p,P.globalNamed n=some g∧(P.globals[g]?).map (·.type)=some t∧w.var? P n=some cs∧DataW.trod (fun _=>()) P w 0 (fun _=>true) false fuel t cs.toList=some (d,p)∧ ∀m∈MemPlace.row ⟨g,0,none⟩ cs.size,m∈ps
 | [],ps,h,hm=>by cases hm
 | (n',d') :: r,ps,h,hm=>by
  obtain ⟨g,t,cs,fuel,p,q,h1,h2,h3,h4,h5,rfl⟩:=h
  rcases Wr.1 hm with e|hm
  ·cases e;exact ⟨g,t,cs,fuel,p,h1,h2,h3,h4,fun m hm=>Wx _ (Wx _ hm)⟩
  ·obtain ⟨g',t',cs',fuel',p',k1,k2,k3,k4,k5⟩:=Hd r q h5 hm;exact ⟨g',t',cs',fuel',p',k1,k2,k3,k4,fun m hm=>List.mem_append_right _ (k5 m hm)⟩
theorem yZ {P:Program} {w:World} {n:String} {laid:List (String×DataW Unit)} {d:DataW Unit} {g:Nat} {T E:TypeId} {k:IntKind} {N:Nat} (vals:List Int) (hm:(n,d)∈laid) (hd:d = .agg (vals.map fun i=> .lit (.int k i))) (hG:P.globalNamed n=some g) (hT:(P.globals[g]?).map (·.type)=some T) (uT:P.underlying T=some (.array N E)) (uE:P.underlying E=some (.int k))
  (cE:P.cellsOf E=1) (cT:P.cellsOf T=N) (hN:0<N) (hv:vals.length=N) (h:laidMet P laid w): ∃t,w.heap[g]? = some (.cells (vals.map (fun i=>Value.int k i)).toArray t (0,0)):=by
 obtain ⟨ps,hl,hnd,hc⟩:=h;obtain ⟨g0,t0,cs0,f0,p0,hg0,ht0,hv0,hd0,hps⟩:=Hd _ _ hl hm;obtain rfl:=UY (hG.symm.trans hg0);obtain rfl:=UY (hT.symm.trans ht0);rw [hd] at hd0;obtain ⟨xs,m,rfl,hx,hlen,hn,hel⟩:=DataW.trod_array uT hd0
 have hxs:xs.map (·.1)=vals.map fun i=>(DataW.lit (.int k i):DataW Unit):=by
  simp only [Prod.mk.injEq,DataW.agg.injEq] at hx;exact hx.1.symm
 rw [cT] at hlen;rw [cE] at hel
 have hcs:cs0.toList=vals.map (fun i=>Value.int k i):=by
  refine List.ext_getElem (by rw [hlen,List.length_map,hv]) fun i h1 h2=> ?_
  have hi:i<N:=by omega
  have e1:=hel i hi;rw [Nat.mul_one,Wv h1,List.take_succ_cons,List.take_zero] at e1
  have hix:i<xs.length:=by omega
  rw [Vi hix] at e1;obtain ⟨n,k1,k2,_⟩:=DataW.trod_int uE e1
  have e2:(xs.map (·.1))[i]? = (vals.map fun i=>(DataW.lit (.int k i):DataW Unit))[i]? :=by rw [hxs]
  have hit:i<vals.length:=by omega
  rw [List.getElem?_map,List.getElem?_map,Vi hix,Vi hit,k2] at e2;simp only [Option.map_some,Ve,DataW.lit.injEq,Lit.int.injEq,true_and] at e2;rw [List.getElem_map, <- e2];exact (List.cons.inj k1).1
 obtain ⟨⟨c,t,hb⟩,_⟩:=hc g 0 (hps _ (by
  rw [MemPlace.row,List.mem_map];refine ⟨0, ?_,rfl⟩
  rw [List.mem_range, <- Array.length_toList,hlen];exact hN))
 simp only [World.var?,hG,Option.bind_some,hb,Ve] at hv0;refine ⟨t, ?_⟩;rw [hb,hv0, <- hcs,Array.toArray_toList]
def Ql:List Int:=[1,10,100,1000,10000,100000,1000000,10000000,100000000,1000000000,10000000000,100000000000,1000000000000,10000000000000,100000000000000,1000000000000000,10000000000000000,100000000000000000,1000000000000000000,10000000000000000000]
theorem D7 {w:World} (h:laidMetH Tryz.prog [("math/bits.deBruijn32tab", Rows.laid_math_bits_deBruijn32tab),("math/bits.deBruijn64tab", Rows.laid_math_bits_deBruijn64tab),("internal/strconv.uint64pow10", Rows.laid_internal_strconv_uint64pow10)] w):dU (fun _=>True) (fun _ _=>Go.undef) [] w:=by
 rw [MakeChecks.laidMetH_plain _ _ _ (by kernel_rfl)] at h
 have h1:=yZ (P:=Tryz.prog) (g:=0) (T:=301) (E:=5) (k:= .u8) (N:=32) (n:= "math/bits.deBruijn32tab") yY (List.mem_cons_self) rfl (by kernel_rfl) (by kernel_rfl) (by kernel_rfl) (by kernel_rfl) (by kernel_rfl) (by kernel_rfl) (by decide) rfl h
 have h2:=yZ (P:=Tryz.prog) (g:=1) (T:=311) (E:=256) (k:= .u64) (N:=20) (n:= "internal/strconv.uint64pow10") Ql (V2 _ (V2 _ List.mem_cons_self)) rfl (by kernel_rfl) (by kernel_rfl) (by kernel_rfl) (by kernel_rfl) (by kernel_rfl) (by kernel_rfl) (by decide) rfl h
 intro g T cs hg;unfold tU at hg;refine ⟨?_,rZ _ _,trivial⟩
 split at hg
 ·rename_i e;obtain ⟨-, rfl⟩:=Prod.mk.inj (UY hg);subst e;exact h1
 ·split at hg
  ·rename_i e;obtain ⟨-, rfl⟩:=Prod.mk.inj (UY hg);subst e;exact h2
  ·cases hg
abbrev dC:=Int×Int
def dP (a b:dC):Bool:=decide (a.1<b.1)||(decide (a.1=b.1)&&decide (a.2<b.2))
def aC (l:List dC) (i:Nat):dC:=l.getD i (0,0)
theorem ij {a b:dC}:dP a b=true↔a.1<b.1∨a.1=b.1∧a.2<b.2:=by simp [dP]
theorem jT {a b c:dC} (h:dP b a=false) (k:dP c b=false):dP c a=false:=by
 rw [<-Xm,ij] at *; omega
theorem dH {a b:dC} (h:dP a b=true):dP b a=false:=by
 rw [<-Xm,ij];rw [ij] at h;omega
theorem gh (a:dC):dP a a=false:=by
 rw [<-Xm,ij];omega
def swp (l:List dC) (i j:Nat):List dC:=(l.set i (aC l j)).set j (aC l i)
theorem fA (l:List dC) (i j:Nat):(swp l i j).length=l.length:=by simp [swp]
theorem kU {l:List dC} {i:Nat} (h:i<l.length):aC l i=l[i]:=by simp [aC,h]
theorem yU {l:List dC} {i j:Nat} (hi:i<l.length) (hj:j<l.length):(swp l i j).Perm l:=by
 rw [swp,kU hi,kU hj];exact List.set_set_perm hi hj
theorem lp {l:List dC} {i j k:Nat} (hi:i<l.length) (hj:j<l.length):aC (swp l i j) k=if k=j then aC l i else if k=i then aC l j else aC l k:=by
 simp only [aC,swp,VX,List.getElem?_set,List.length_set]
 by_cases h1:j=k
 ·subst h1;simp [hj]
 ·by_cases h2:i=k
  ·subst h2;simp [h1,hi,Ne.symm h1]
  ·simp [h1,h2,Ne.symm h1,Ne.symm h2]
def jC (l:List dC):Prop:= ∀i,0<i->i<l.length->dP (aC l i) (aC l ((i - 1) / 2))=false
def lj:Nat->List dC->Nat->List dC
 | 0,l,_=>l
 | n+1,l,k=>if k=0 then l else if dP (aC l k) (aC l ((k - 1) / 2)) then lj n (swp l k ((k - 1) / 2)) ((k - 1) / 2) else l
theorem mP: ∀(n:Nat) (l:List dC) (k:Nat),k<l.length->(lj n l k).Perm l
 | 0,l,k,_=> .refl _
 | n+1,l,k,h=>by
  rw [lj]
  split
  ·exact .refl _
  ·split
   ·exact (mP n _ _ (by rw [fA];omega)).trans (yU h (by omega))
   ·exact .refl _
structure Ml (l:List dC) (k:Nat):Prop where
 lt:k<l.length
 all: ∀i,0<i->i<l.length->i≠k->dP (aC l i) (aC l ((i - 1) / 2))=false
 up: ∀i,0<i->i<l.length->(i - 1) / 2=k->0<k->dP (aC l i) (aC l ((k - 1) / 2))=false
theorem yJ: ∀(n:Nat) (l:List dC) (k:Nat),k<=n->Ml l k->jC (lj n l k)
 | 0,l,k,hn,h=>by
  obtain rfl:k=0:=by omega
  exact fun i h0 hi=>h.all i h0 hi (by omega)
 | n+1,l,k,hn,h=>by
  rw [lj]
  split
  ·rename_i hk;exact fun i h0 hi=>h.all i h0 hi (by omega)
  ·rename_i hk;have hl:=h.lt
   have hp:(k - 1) / 2<l.length:=by omega
   split
   ·rename_i hlt
    refine yJ n _ _ (by omega) ⟨by rw [fA];exact hp,fun i h0 hi hne=> ?_,fun i h0 hi he hk0=> ?_⟩
    ·rw [fA] at hi;rw [lp hl hp,lp hl hp,if_neg hne]
     by_cases hik:i=k
     ·subst hik;rw [if_pos rfl,if_pos rfl];exact dH hlt
     ·rw [if_neg hik]
      by_cases h1:(i - 1) / 2=(k - 1) / 2
      ·rw [if_pos h1];have h2:=h.all i h0 hi hik;rw [h1] at h2;exact jT (dH hlt) h2
      ·rw [if_neg h1]
       by_cases h2:(i - 1) / 2=k
       ·rw [if_pos h2];exact h.up i h0 hi h2 (by omega)
       ·rw [if_neg h2];exact h.all i h0 hi hik
    ·rw [fA] at hi;have hq:=h.all ((k - 1) / 2) hk0 hp (by omega);rw [lp hl hp,lp hl hp,if_neg (by omega),if_neg (show ¬((k - 1) / 2 - 1) / 2=(k - 1) / 2 by omega),if_neg (show ¬((k - 1) / 2 - 1) / 2=k by omega)]
     by_cases hik:i=k
     ·rw [if_pos hik];exact hq
     ·rw [if_neg hik];have h2:=h.all i h0 hi hik;rw [he] at h2;exact jT hq h2
   ·rename_i hlt;intro i h0 hi
    by_cases hik:i=k
    ·subst hik;simpa using hlt
    ·exact h.all i h0 hi hik
def jr (l:List dC) (x:dC):List dC:=lj l.length (l++[x]) l.length
theorem yc {l m:List dC} {i:Nat} (h:i<l.length):aC (l++m) i=aC l i:=by
 simp [aC,List.getElem?_append_left h]
theorem fR (l:List dC) (x:dC):(jr l x).Perm (l++[x]):=mP _ _ _ (by simp)
theorem HM {l:List dC} {x:dC} (h:jC l):jC (jr l x):=by
 refine yJ _ _ _ (Nat.le_refl _) ⟨by simp,fun i h0 hi hne=> ?_,fun i h0 hi he hk=> ?_⟩
 ·simp only [List.length_append,U9,U3] at hi;rw [yc (by omega),yc (by omega)];exact h i h0 (by omega)
 ·simp only [List.length_append,U9,U3] at hi;omega
def cU (l:List dC) (k:Nat):Nat:=
 let a:=if 2 * k+1<l.length∧dP (aC l (2 * k+1)) (aC l k)=true then 2 * k+1 else k
 if 2 * k+2<l.length∧dP (aC l (2 * k+2)) (aC l a)=true then 2 * k+2 else a
theorem kW (l:List dC) (k:Nat) (hk:k<l.length):(cU l k=k∨cU l k=2 * k+1∨cU l k=2 * k+2)∧cU l k<l.length∧dP (aC l k) (aC l (cU l k))=false∧(cU l k≠k->dP (aC l (cU l k)) (aC l k)=true) ∧
  (∀i,0<i->i<l.length->(i - 1) / 2=k->dP (aC l i) (aC l (cU l k))=false):=by
 have key: ∀i,0<i->(i - 1) / 2=k->i=2 * k+1∨i=2 * k+2:=fun i h0 h=>by omega
 unfold cU
 by_cases h1:2 * k+1<l.length∧dP (aC l (2 * k+1)) (aC l k)=true
 ·simp only [if_pos h1]
  by_cases h2:2 * k+2<l.length∧dP (aC l (2 * k+2)) (aC l (2 * k+1))=true
  ·rw [if_pos h2];have h3:=dH h2.2;have h4:=dH h1.2
   have h5:dP (aC l (2 * k+2)) (aC l k)=true:=by
    have a:=h1.2;have b:=h2.2;rw [ij] at *; omega
   refine ⟨.inr (.inr rfl),h2.1,dH h5,fun _=>h5,fun i h0 hi he=> ?_⟩
   rcases key i h0 he with rfl|rfl
   ·exact h3
   ·exact gh _
  ·rw [if_neg h2];refine ⟨.inr (.inl rfl),h1.1,dH h1.2,fun _=>h1.2,fun i h0 hi he=> ?_⟩
   rcases key i h0 he with rfl|rfl
   ·exact gh _
   ·rw [not_and] at h2;simpa using h2 hi
 ·simp only [if_neg h1]
  by_cases h2:2 * k+2<l.length∧dP (aC l (2 * k+2)) (aC l k)=true
  ·rw [if_pos h2];refine ⟨.inr (.inr rfl),h2.1,dH h2.2,fun _=>h2.2,fun i h0 hi he=> ?_⟩
   rcases key i h0 he with rfl|rfl
   ·rw [not_and] at h1
    have h3:dP (aC l (2 * k+1)) (aC l k)=false:=by simpa using h1 hi
    exact jT (dH h2.2) h3
   ·exact gh _
  ·rw [if_neg h2];refine ⟨.inl rfl,hk,gh _,fun h=>absurd rfl h,fun i h0 hi he=> ?_⟩
   rcases key i h0 he with rfl|rfl
   ·rw [not_and] at h1;simpa using h1 hi
   ·rw [not_and] at h2;simpa using h2 hi
def jt:Nat->List dC->Nat->List dC
 | 0,l,_=>l
 | n+1,l,k=>if cU l k=k then l else jt n (swp l k (cU l k)) (cU l k)
theorem mS: ∀(n:Nat) (l:List dC) (k:Nat),k<l.length->(jt n l k).Perm l
 | 0,l,k,_=> .refl _
 | n+1,l,k,h=>by
  rw [jt];have hs:=kW l k h
  split
  ·exact .refl _
  ·exact (mS n _ _ (by rw [fA];exact hs.2.1)).trans (yU h hs.2.1)
structure Mm (l:List dC) (k:Nat):Prop where
 lt:k<l.length
 all: ∀i,0<i->i<l.length->(i - 1) / 2≠k->dP (aC l i) (aC l ((i - 1) / 2))=false
 up: ∀i,0<i->i<l.length->(i - 1) / 2=k->0<k->dP (aC l i) (aC l ((k - 1) / 2))=false
theorem yP: ∀(n:Nat) (l:List dC) (k:Nat),l.length<=n+k->Mm l k->jC (jt n l k)
 | 0,l,k,hn,h=>by have:=h.lt;omega
 | n+1,l,k,hn,h=>by
  rw [jt];have hl:=h.lt;obtain ⟨s1,s2,s3,s4,s5⟩:=kW l k hl
  split
  ·rename_i he;intro i h0 hi
   by_cases hp:(i - 1) / 2=k
   ·have:=s5 i h0 hi hp
    rw [he] at this;rw [hp];exact this
   ·exact h.all i h0 hi hp
  ·rename_i hne;have s4:=s4 hne;generalize cU l k=m at s1 s2 s3 s4 s5 hne ⊢
   refine yP n _ _ (by rw [fA];omega) ⟨by rw [fA];exact s2,fun i h0 hi hp=> ?_,fun i h0 hi he hm0=> ?_⟩
   ·rw [fA] at hi;rw [lp hl s2,lp hl s2,if_neg hp]
    by_cases him:i=m
    ·have hpk:(i - 1) / 2=k:=by omega
     rw [if_pos him,if_pos hpk];exact s3
    ·rw [if_neg him]
     by_cases hik:i=k
     ·rw [if_pos hik]
      have hpk:(i - 1) / 2≠k:=by omega
      rw [if_neg hpk];have hu:=h.up m (by omega) s2 (by omega) (by omega);rw [hik];exact hu
     ·rw [if_neg hik]
      by_cases hpk:(i - 1) / 2=k
      ·rw [if_pos hpk];exact s5 i h0 hi hpk
      ·rw [if_neg hpk];exact h.all i h0 hi hpk
   ·rw [fA] at hi;rw [lp hl s2,lp hl s2,if_neg (show ¬i=m by omega),if_neg (show ¬i=k by omega)]
    have hmk:(m - 1) / 2=k:=by omega
    rw [hmk,if_neg (show ¬k=m by omega),if_pos rfl]
    have:=h.all i h0 hi (by omega)
    rwa [he] at this
def kA (l:List dC):List dC:=jt (l.length - 1) ((l.set 0 (aC l (l.length - 1))).take (l.length - 1)) 0
theorem tZ {l:List dC} {n i:Nat} (h:i<n):aC (l.take n) i=aC l i:=by
 simp [aC,VX,List.getElem?_take,h]
theorem yd {l:List dC} {x:dC} {i j:Nat} (h:i≠j):aC (l.set i x) j=aC l j:=by
 simp [aC,VX,List.getElem?_set_ne h]
theorem yx {l:List dC} (h:l.length=1):kA l=[]:=by
 obtain ⟨a,rfl⟩:=List.length_eq_one_iff.1 h;simp [kA,jt,cU]
theorem uq {l:List dC} (h:l≠[]):(aC l 0 :: kA l).Perm l:=by
 cases l with
 | nil=>exact absurd rfl h
 | cons a l=>
  by_cases hl:l=[]
  ·subst hl;rw [yx rfl];exact .refl _
  ·have e:((a :: l).set 0 (aC (a :: l) ((a :: l).length - 1))).take ((a :: l).length - 1)=l.getLast hl :: l.dropLast:=by
    have hp:0<l.length:=List.length_pos_iff.2 hl
    have e1:aC (a :: l) ((a :: l).length - 1)=l.getLast hl:=by
     rw [kU (by simp),List.getLast_eq_getElem];simp only [U9,Nat.add_one_sub_one];rw [List.getElem_cons,dif_neg (by omega)]
    rw [e1,List.set_cons_zero];obtain ⟨m,hm⟩: ∃m,l.length=m+1:=⟨l.length - 1,by omega⟩;simp only [U9,Nat.add_one_sub_one];rw [hm,List.take_succ_cons,List.dropLast_eq_take,hm];rfl
   rw [kA,e];have e2:aC (a :: l) 0=a:=rfl;rw [e2];refine .cons a ((mS _ _ 0 (by simp)).trans ?_)
   have:=List.dropLast_concat_getLast hl
   conv=>rhs;rw [<-this]
   exact (List.perm_append_comm (l₁:=l.dropLast) (l₂:=[l.getLast hl])).symm
theorem Cs {l:List dC} (h:jC l):jC (kA l):=by
 by_cases hl:l.length<=1
 ·have:kA l=[]:=by
   rcases U6 l.length 1 with q|q
   ·have:l=[]:=List.length_eq_zero_iff.1 (by omega)
    subst this;rfl
   ·exact yx (by omega)
  rw [this];exact fun i _ h=>by simp at h
 ·have e:((l.set 0 (aC l (l.length - 1))).take (l.length - 1)).length=l.length - 1:=by simp
  refine yP _ _ 0 (by rw [e];omega) ⟨by rw [e];omega,fun i h0 hi hp=> ?_,fun i h0 hi he hk=>by omega⟩;rw [e] at hi;rw [tZ hi,tZ (by omega),yd (by omega),yd (by omega)];exact h i h0 (by omega)
theorem sd {l:List dC} (h:l≠[]):(kA l).length+1=l.length:=by
 have:=(uq h).length_eq
 simpa using this
theorem Aw {l:List dC} (h:jC l): ∀i,i<l.length->dP (aC l i) (aC l 0)=false:=by
 intro i
 induction i using Nat.strongRecOn with
 | _ i ih=>
  intro hi
  by_cases h0:i=0
  ·subst h0;exact gh _
  ·exact jT (ih ((i - 1) / 2) (by omega) (by omega)) (h i (by omega) hi)
theorem Ax {l:List dC} (h:jC l) {x:dC} (hx:x∈l):dP x (aC l 0)=false:=by
 obtain ⟨i,hi,rfl⟩:=List.getElem_of_mem hx
 have:=Aw h i hi
 rwa [kU hi] at this
end
section
instance:LawfulBEq ByteArray where
 eq_of_beq h:=(Xo _ _).1 h
 rfl:=(Xo _ _).2 rfl
section
variable {K:Type} [DecidableEq K]
def bJ:List (K×Int)->K->Option Int
 | [],_=>none
 | p :: l,k=>if p.1=k then some p.2 else bJ l k
def gx:List (K×Int)->K->Int->List (K×Int)
 | [],k,t=>[(k,t)]
 | p :: l,k,t=>if p.1=k then (k,t) :: l else p :: gx l k t
def iH (l:List (K×Int)) (k:K) (t:Int):Bool:=match bJ l k with
 | some ku=>decide (ku<t)
 | none=>true
def fm (l:List (K×Int)) (k:K) (t:Int):List (K×Int):=if iH l k t then gx l k t else l
theorem ig: ∀(l:List (K×Int)) (k:K) (t:Int) (j:K),bJ (gx l k t) j=if k=j then some t else bJ l j
 | [],k,t,j=>by simp only [gx,bJ]
 | p :: l,k,t,j=>by
  rw [gx]
  by_cases h:p.1=k
  ·rw [if_pos h,bJ,bJ]
   by_cases hj:k=j
   ·rw [if_pos hj,if_pos hj]
   ·rw [if_neg hj,if_neg hj,if_neg (by rw [h];exact hj)]
  ·rw [if_neg h,bJ,bJ,ig l k t j]
   by_cases hp:p.1=j
   ·rw [if_pos hp,if_pos hp,if_neg (by rw [<-hp];exact Ne.symm h)]
   ·rw [if_neg hp,if_neg hp]
theorem tI: ∀(l:List (K×Int)) (k:K) (t:Int),(gx l k t).map Prod.fst=if k∈l.map Prod.fst then l.map Prod.fst else l.map Prod.fst++[k]
 | [],k,t=>by simp [gx]
 | p :: l,k,t=>by
  rw [gx]
  by_cases h:p.1=k
  ·rw [if_pos h,if_pos (by simp [h])];simp [h]
  ·rw [if_neg h,List.map_cons,tI l k t]
   by_cases hm:k∈l.map Prod.fst
   ·rw [if_pos hm,if_pos (by simp at hm ⊢; exact .inr hm)];rfl
   ·rw [if_neg hm,if_neg (by simp at hm ⊢; exact ⟨fun e=>h e.symm,hm⟩)];rfl
theorem BX {l:List (K×Int)} (k:K) (t:Int) (h:(l.map Prod.fst).Nodup):((gx l k t).map Prod.fst).Nodup:=by
 rw [tI]
 split
 ·exact h
 ·rename_i hm;rw [List.nodup_append];exact ⟨h,by simp,fun a ha b hb e=>hm (by simp at hb;rw [<-hb, <- e];exact ha)⟩
theorem JK {l:List (K×Int)} (k:K) (t:Int) (h:(l.map Prod.fst).Nodup):((fm l k t).map Prod.fst).Nodup:=by
 rw [fm];split
 ·exact BX k t h
 ·exact h
theorem ng: ∀ {l:List (K×Int)} {k:K} {t:Int},(l.map Prod.fst).Nodup->(bJ l k=some t↔(k,t)∈l)
 | [],k,t,_=>by simp [bJ]
 | p :: l,k,t,h=>by
  rw [List.map_cons,List.nodup_cons] at h;rw [bJ]
  by_cases hk:p.1=k
  ·rw [if_pos hk]
   constructor
   ·intro e;cases e;rw [<-hk];exact V4
   ·intro hm
    rcases Wr.1 hm with e|hm
    ·rw [<-e]
    ·exact absurd (Wu.2 ⟨_,hm,hk.symm⟩) h.1
  ·rw [if_neg hk,ng h.2]
   constructor
   ·exact V2 _
   ·intro hm
    rcases Wr.1 hm with e|hm
    ·exact absurd (by rw [<-e]) hk
    ·exact hm
theorem F0 (l:List (K×Int)) (k:K) (t:Int) (j:K):bJ (fm l k t) j=if k=j then some (match bJ l k with|some ku=>max ku t|none=>t) else bJ l j:=by
 rw [fm,iH]
 by_cases hj:k=j
 ·subst hj;rw [if_pos rfl]
  cases h:bJ l k with
  | none=>simp only [if_true];rw [ig,if_pos rfl]
  | some ku=>
   simp only [decide_eq_true_eq]
   split
   ·rename_i hlt;rw [ig,if_pos rfl];congr 1;omega
   ·rename_i hlt;rw [h];congr 1;omega
 ·rw [if_neg hj]
  cases h:bJ l k with
  | none=>simp only [if_true];rw [ig,if_neg hj]
  | some ku=>
   simp only
   split
   ·rw [ig,if_neg hj]
   ·rfl
end
structure uY where
 key:ByteArray
 val:zE
structure a8 where
 aD:ByteArray
 to:ByteArray
 label:ByteArray
 time:Int
 props:List uY
abbrev Nd:=ByteArray×Nat
def gO (E:List a8) (v:ByteArray):List a8:=E.filter (fun e=>decide (e.aD=v))
theorem gk {E:List a8} {v:ByteArray} {e:a8}:e∈gO E v↔e∈E∧e.aD=v:=by simp [gO]
section
variable (st:Nat->ByteArray->Option Nat)
inductive wM (E:List a8) (τ:Int) (root:ByteArray):ByteArray->Nat->Prop where
 | one (e:a8) (s:Nat):e∈E->τ<=e.time->e.aD=root->st 0 e.label=some s->wM E τ root e.to s
 | more (e:a8) (s t:Nat):wM E τ root e.aD s->e∈E->τ<=e.time->st s e.label=some t->wM E τ root e.to t
structure DS where
 known:List (Nd×Int)
 nodes:List Nd
 heap:List dC
def qa (a:Nd) (time:Int) (S:DS) (e:a8):DS:=match st a.2 e.label with
 | none=>S
 | some t=>if iH S.known (e.to,t) (min time e.time) then ⟨gx S.known (e.to,t) (min time e.time),S.nodes++[(e.to,t)],jr S.heap (-(min time e.time),(S.nodes.length:Int))⟩ else S
def kB (E:List a8) (a:Nd) (time:Int) (S:DS):DS:=(gO E a.1).foldl (qa st a time) S
end
section
variable {st:Nat->ByteArray->Option Nat} {E:List a8} {root:ByteArray}
theorem wM.less {τ σ:Int} (h:σ<=τ) {v:ByteArray} {s:Nat} (k:wM st E τ root v s):wM st E σ root v s:=by
 induction k with
 | one e s h1 h2 h3 h4=>exact .one e s h1 (by omega) h3 h4
 | more e s t _ h1 h2 h3 ih=>exact .more e s t ih h1 (by omega) h3
def Dg (S S':DS):Prop:= ∀n τ,bJ S.known n=some τ-> ∃ τ',bJ S'.known n=some τ'∧τ<=τ'
theorem Dg.refl (S:DS):Dg S S:=fun n τ h=>⟨τ,h,Xp _⟩
theorem Dg.trans {S S' S'':DS} (h:Dg S S') (k:Dg S' S''):Dg S S'':=fun n τ hn=>by
 obtain ⟨a,h1,h2⟩:=h n τ hn;obtain ⟨b,h3,h4⟩:=k n a h1;exact ⟨b,h3,by omega⟩
structure DC (st:Nat->ByteArray->Option Nat) (E:List a8) (root:ByteArray) (S:DS) (done:List (Nd×Int)):Prop where
 ok:jC S.heap
 nd:(S.known.map Prod.fst).Nodup
 gu: ∀n τ,bJ S.known n=some τ->wM st E τ root n.1 n.2
 O4: ∀x∈S.heap, ∃(i:Nat) (n:Nd) (τ:Int),x.2=(i:Int)∧S.nodes[i]? = some n∧bJ S.known n=some τ∧ -x.1<=τ
 due: ∀n τ,bJ S.known n=some τ->(n,τ)∈done∨ ∃i:Nat,(-τ,(i:Int))∈S.heap∧S.nodes[i]? = some n
 OR: ∀p∈done,bJ S.known p.1=some p.2
 low: ∀p∈done, ∀x∈S.heap, -x.1<=p.2
theorem xo {S:DS} {n:Nd} {m:Int} (h:iH S.known n m=false): ∃ τ,bJ S.known n=some τ∧m<=τ:=by
 unfold iH at h
 cases hg:bJ S.known n with
 | none=>rw [hg] at h;cases h
 | some ku=>
  rw [hg] at h;exact ⟨ku,rfl,by simpa using h⟩
theorem qQ {S:DS} {n:Nd} {m τ:Int} (h:iH S.known n m=true) (k:bJ S.known n=some τ):τ<m:=by
 unfold iH at h;rw [k] at h;simpa using h
theorem KY {S:DS} {done:List (Nd×Int)} (h:DC st E root S done) {a:Nd} {time:Int} {e:a8} (hw: ∀t,st a.2 e.label=some t->wM st E (min time e.time) root e.to t) (hd: ∀p∈done,time<=p.2) :
  DC st E root (qa st a time S e) done∧Dg S (qa st a time S e)∧(∀t,st a.2 e.label=some t-> ∃ τ,bJ (qa st a time S e).known (e.to,t)=some τ∧min time e.time<=τ) ∧
  (qa st a time S e).nodes.length<=S.nodes.length+1∧(qa st a time S e).heap.length<=S.heap.length+1∧(∃m,(qa st a time S e).nodes=S.nodes++m∧ ∀n∈m, ∃s,n=(e.to,s)∧st a.2 e.label=some s):=by
 unfold qa
 cases hs:st a.2 e.label with
 | none=>exact ⟨h, .refl _,fun t ht=>(by cases ht),by simp,by simp,[],by simp,fun n hn=>by cases hn⟩
 | some t=>
  simp only;have hwt:=hw t hs;generalize hm:min time e.time=m at *
  cases hb:iH S.known (e.to,t) m with
  | false=>
   simp only [Bool.false_eq_true,if_false];exact ⟨h, .refl _,fun t' ht=>by cases ht;exact xo hb,by omega,by omega,[],by simp,fun n hn=>by cases hn⟩
  | true=>
   simp only [if_true]
   have hg: ∀j,bJ (gx S.known (e.to,t) m) j=if (e.to,t)=j then some m else bJ S.known j:=ig _ _ _
   have hk:Dg S ⟨gx S.known (e.to,t) m,S.nodes++[(e.to,t)],jr S.heap (-m,(S.nodes.length:Int))⟩:=fun n τ hn=>by
    show ∃ τ',bJ (gx S.known (e.to,t) m) n=some τ'∧τ<=τ';rw [hg]
    by_cases hne:(e.to,t)=n
    ·rw [if_pos hne];rw [<-hne] at hn
     have:=qQ hb hn
     exact ⟨m,rfl,by omega⟩
    ·rw [if_neg hne];exact ⟨τ,hn,Xp _⟩
   have hmem: ∀x,x∈jr S.heap (-m,(S.nodes.length:Int))↔x∈S.heap∨x=(-m,(S.nodes.length:Int)):=fun x=>by
    rw [(fR _ _).mem_iff];simp
   refine ⟨⟨HM h.ok,BX _ _ h.nd,fun n τ hn=> ?_,fun x hx=> ?_,fun n τ hn=> ?_,fun p hp=> ?_,fun p hp x hx=> ?_⟩,hk,fun t' ht=> ?_,by simp, ?_,[(e.to,t)],rfl,fun n hn=>⟨t,by simpa using hn,rfl⟩⟩
   ·rw [hg] at hn
    by_cases hne:(e.to,t)=n
    ·rw [if_pos hne] at hn;cases hn;rw [<-hne];exact hwt
    ·rw [if_neg hne] at hn;exact h.gu n τ hn
   ·rcases (hmem x).1 hx with hx|rfl
    ·obtain ⟨i,n,τ,h1,h2,h3,h4⟩:=h.O4 x hx;obtain ⟨τ',h5,h6⟩:=hk n τ h3;exact ⟨i,n,τ',h1,by rw [U5 (U4.1 h2).1];exact h2,h5,by omega⟩
    ·refine ⟨S.nodes.length,(e.to,t),m,rfl,U7, ?_,by simp⟩;show bJ (gx S.known (e.to,t) m) _=_;rw [hg,if_pos rfl]
   ·rw [hg] at hn
    by_cases hne:(e.to,t)=n
    ·rw [if_pos hne] at hn;cases hn;rw [<-hne];exact .inr ⟨S.nodes.length,(hmem _).2 (.inr rfl),U7⟩
    ·rw [if_neg hne] at hn
     rcases h.due n τ hn with h1|⟨i,h1,h2⟩
     ·exact .inl h1
     ·exact .inr ⟨i,(hmem _).2 (.inl h1),by rw [U5 (U4.1 h2).1];exact h2⟩
   ·have h1:=h.OR p hp;show bJ (gx S.known (e.to,t) m) p.1=some p.2
    rw [hg,if_neg fun hne=> ?_]
    ·exact h1
    ·rw [<-hne] at h1
     have:=qQ hb h1
     have:=hd p hp
     omega
   ·rcases (hmem x).1 hx with hx|rfl
    ·exact h.low p hp x hx
    ·have:=hd p hp
     show - -m<=p.2;omega
   ·cases ht;refine ⟨m, ?_,Xp _⟩;show bJ (gx S.known (e.to,t) m) _=_;rw [hg,if_pos rfl]
   ·have:=(fR S.heap (-m,(S.nodes.length:Int))).length_eq
    simp at this;simp [this]
theorem ry {a:Nd} {time:Int} {done:List (Nd×Int)} (hd: ∀p∈done,time<=p.2): ∀(l:List a8) (S:DS),DC st E root S done->(∀e∈l, ∀t,st a.2 e.label=some t->wM st E (min time e.time) root e.to t) ->
  DC st E root (l.foldl (qa st a time) S) done∧Dg S (l.foldl (qa st a time) S)∧(∀e∈l, ∀t,st a.2 e.label=some t-> ∃ τ,bJ (l.foldl (qa st a time) S).known (e.to,t)=some τ∧min time e.time<=τ) ∧
  (l.foldl (qa st a time) S).nodes.length<=S.nodes.length+l.length∧(l.foldl (qa st a time) S).heap.length<=S.heap.length+l.length∧(∃m,(l.foldl (qa st a time) S).nodes=S.nodes++m∧ ∀n∈m, ∃e∈l, ∃s,n=(e.to,s)∧st a.2 e.label=some s)
 | [],S,h,_=>⟨h,Dg.refl S,fun e he=>absurd he List.not_mem_nil,by simp,by simp,[],by simp,fun n hn=>absurd hn List.not_mem_nil⟩
 | e :: l,S,h,hw=>by
  obtain ⟨h1,h2,h3,h4,h5,m1,h6,h7⟩:=KY h (a:=a) (time:=time) (e:=e) (hw e V4) hd;obtain ⟨k1,k2,k3,k4,k5,m2,k6,k7⟩:=ry hd l (qa st a time S e) h1 (fun e' he=>hw e' (V2 _ he));simp only [List.foldl_cons,U9]
  refine ⟨k1,h2.trans k2,fun e' he t ht=> ?_,by omega,by omega,m1++m2,by rw [k6,h6,List.append_assoc],fun n hn=> ?_⟩
  ·rcases Wr.1 he with rfl|he
   ·obtain ⟨τ,q1,q2⟩:=h3 t ht;obtain ⟨τ',q3,q4⟩:=k2 _ _ q1;exact ⟨τ',q3,by omega⟩
   ·exact k3 e' he t ht
  ·rcases Ww.1 hn with hn|hn
   ·obtain ⟨s,q1,q2⟩:=h7 n hn;exact ⟨e,V4,s,q1,q2⟩
   ·obtain ⟨e',he,s,q1,q2⟩:=k7 n hn;exact ⟨e',V2 _ he,s,q1,q2⟩
def Fw (st:Nat->ByteArray->Option Nat) (E:List a8) (S:DS) (done:List (Nd×Int)):Prop:= ∀p∈done, ∀e∈E,e.aD=p.1.1-> ∀t,st p.1.2 e.label=some t-> ∃ τ,bJ S.known (e.to,t)=some τ∧min p.2 e.time<=τ
theorem Fw.keep {S S':DS} {done:List (Nd×Int)} (h:Fw st E S done) (k:Dg S S'):Fw st E S' done:=fun p hp e he hf t ht=>by
 obtain ⟨τ,h1,h2⟩:=h p hp e he hf t ht;obtain ⟨τ',h3,h4⟩:=k _ _ h1;exact ⟨τ',h3,by omega⟩
def DS.pop (S:DS):DS:=⟨S.known,S.nodes,kA S.heap⟩
theorem fU {S:DS} (h:S.heap≠[]) {x:dC}:x∈S.heap↔x=aC S.heap 0∨x∈S.pop.heap:=by
 have:=(uq h).mem_iff (a:=x)
 rw [Wr] at this;exact this.symm
theorem Hy {S:DS} {done:List (Nd×Int)} (h:DC st E root S done) (hne:S.heap≠[]) {i:Nat} {n:Nd} (hi:(aC S.heap 0).2=(i:Int)) (hn:S.nodes[i]? = some n) (hd:n∈done.map Prod.fst):DC st E root S.pop done:=by
 obtain ⟨⟨n',τd⟩,hp,rfl⟩:=Wu.1 hd;refine ⟨Cs h.ok,h.nd,h.gu,fun x hx=>h.O4 x ((fU hne).2 (.inr hx)),fun m τ hm=> ?_,h.OR,fun p hp x hx=>h.low p hp x ((fU hne).2 (.inr hx))⟩
 rcases h.due m τ hm with h1|⟨j,h1,h2⟩
 ·exact .inl h1
 ·rcases (fU hne).1 h1 with e|h1
  ·left;rw [<-e] at hi
   have hij:i=j:=by simp only at hi;omega
   rw [hij,h2] at hn;simp only [Option.some.injEq] at hn;subst hn
   have:=h.OR _ hp
   have hm':bJ S.known m=some τ:=hm;simp only at this;rw [hm'] at this;cases this;exact hp
  ·exact .inr ⟨j,h1,h2⟩
theorem KN {S:DS} {done:List (Nd×Int)} (h:DC st E root S done) (hne:S.heap≠[]) {i:Nat} {n:Nd} (hi:(aC S.heap 0).2=(i:Int)) (hn:S.nodes[i]? = some n) (hd:n∉done.map Prod.fst) :
  bJ S.known n=some (-(aC S.heap 0).1)∧(∀p∈done, -(aC S.heap 0).1<=p.2)∧DC st E root S.pop (done++[(n, -(aC S.heap 0).1)]):=by
 have hmem:aC S.heap 0∈S.heap:=(fU hne).2 (.inl rfl);have hleast:=fun x (hx:x∈S.heap)=>Ax h.ok hx;generalize hx0:aC S.heap 0=x0 at hmem hleast hi ⊢;obtain ⟨j,n',τ,h1,h2,h3,h4⟩:=h.O4 x0 hmem
 have hij:i=j:=by omega
 subst hij;rw [hn] at h2;cases h2
 have hle: ∀x∈S.heap, -x.1 <= -x0.1:=fun x hx=>by
  have:=hleast x hx
  rw [<-Bool.not_eq_true,ij] at this;omega
 have hτ:τ = -x0.1:=by
  rcases h.due n τ h3 with q|⟨k,q1,q2⟩
  ·exact absurd (Wu.2 ⟨_,q,rfl⟩) hd
  ·have:=hle _ q1
   simp only at this;omega
 subst hτ;have hlow:=fun p hp=>h.low p hp x0 hmem
 refine ⟨h3,hlow,Cs h.ok,h.nd,h.gu,fun x hx=>h.O4 x ((fU hne).2 (.inr hx)),fun m τ hm=> ?_,fun p hp=> ?_,fun p hp x hx=> ?_⟩
 ·rcases h.due m τ hm with q|⟨k,q1,q2⟩
  ·exact .inl (List.mem_append_left _ q)
  ·rcases (fU hne).1 q1 with e|q1
   ·left;rw [hx0] at e;rw [<-e] at hi
    have hik:i=k:=by simp only at hi;omega
    rw [hik,q2] at hn;cases hn;rw [<-e];simp
   ·exact .inr ⟨k,q1,q2⟩
 ·rcases Ww.1 hp with hp|hp
  ·exact h.OR p hp
  ·rw [Xq.1 hp];exact h3
 ·have hx':=(fU hne).2 (.inr hx)
  rcases Ww.1 hp with hp|hp
  ·exact h.low p hp x hx'
  ·rw [Xq.1 hp];exact hle x hx'
def fH (st:Nat->ByteArray->Option Nat) (E:List a8):Nat->DS->List Nd->List (Nd×Int)
 | 0,_,_=>[]
 | f+1,S,done=>if S.heap=[] then [] else match S.nodes[(aC S.heap 0).2.toNat]? with
  | none=>[]
  | some n=>if n∈done then fH st E f S.pop done else (n, -(aC S.heap 0).1) :: fH st E f (kB st E n (-(aC S.heap 0).1) S.pop) (done++[n])
structure DL (st:Nat->ByteArray->Option Nat) (E:List a8) (root:ByteArray) (cand:List Nd) (f:Nat) (S:DS) (done:List (Nd×Int)):Prop extends DC st E root S done where
 out:Fw st E S done
 QG:(done.map Prod.fst).Nodup
 sub: ∀n∈S.nodes,n∈cand
 Sf: ∀n∈done.map Prod.fst,n∈cand
 fuel:S.heap.length+(cand.length - done.length) * (E.length+1)<=f
 len:S.nodes.length<=(done.length+1) * E.length
theorem Hk {l m:List Nd} (h:l.Nodup) (hs: ∀x∈l,x∈m):l.length<=m.length:=by
 induction l generalizing m with
 | nil=>simp
 | cons a l ih=>
  rw [List.nodup_cons] at h;have ha:=hs a V4
  have:=ih (m:=m.erase a) h.2 fun x hx=>(List.mem_erase_of_ne (fun e=>by rw [e] at hx;exact h.1 hx)).2 (hs x (V2 _ hx))
  rw [List.length_erase_of_mem ha] at this
  have:=List.length_pos_of_mem ha
  simp;omega
theorem qp (E:List a8) (v:ByteArray):(gO E v).length<=E.length:=List.length_filter_le _ _
theorem DL.next {cand:List Nd} {f:Nat} {S:DS} {done:List (Nd×Int)} (hc: ∀e∈E, ∀s t,st s e.label=some t->(e.to,t)∈cand) (h:DL st E root cand f S done) (hne:S.heap≠[]): ∃(i:Nat) (n:Nd) (f':Nat),f=f'+1∧(aC S.heap 0).2=(i:Int)∧S.nodes[i]? = some n ∧
  (n∈done.map Prod.fst->DL st E root cand f' S.pop done)∧(n∉done.map Prod.fst->DL st E root cand f' (kB st E n (-(aC S.heap 0).1) S.pop) (done++[(n, -(aC S.heap 0).1)])∧Dg S (kB st E n (-(aC S.heap 0).1) S.pop)):=by
 have hmem:aC S.heap 0∈S.heap:=(fU hne).2 (.inl rfl);obtain ⟨i,n,τ,h1,h2,h3,h4⟩:=h.O4 _ hmem;have hpl:=sd hne;have hfu:=h.fuel;have hpos:0<S.heap.length:=List.length_pos_iff.2 hne
 refine ⟨i,n,f - 1,by omega,h1,h2,fun hd=> ?_,fun hd=> ?_⟩
 ·refine ⟨Hy h.toDC hne h1 h2 hd,h.out,h.QG,h.sub,h.Sf, ?_,h.len⟩;show (kA S.heap).length+_<=_;omega
 ·obtain ⟨p1,p2,p3⟩:=KN h.toDC hne h1 h2 hd;have hwn:=h.gu n _ p1;generalize hτ: -(aC S.heap 0).1=σ at *;have hnc:n∈cand:=h.sub n (List.mem_of_getElem? h2)
  have hdl:(done++[(n,σ)]).map Prod.fst=done.map Prod.fst++[n]:=by simp
  have hdn:((done++[(n,σ)]).map Prod.fst).Nodup:=by
   rw [hdl,List.nodup_append];exact ⟨h.QG,by simp,fun a ha b hb e=>hd (by simp at hb;rw [<-hb, <- e];exact ha)⟩
  have hsd: ∀m∈(done++[(n,σ)]).map Prod.fst,m∈cand:=fun m hm=>by
   rw [hdl] at hm
   rcases Ww.1 hm with hm|hm
   ·exact h.Sf m hm
   ·rw [Xq.1 hm];exact hnc
  have hlen:=Hk hdn hsd;simp only [List.length_map,U8,U9,U3] at hlen
  have hle: ∀p∈done++[(n,σ)],σ<=p.2:=fun p hp=>by
   rcases Ww.1 hp with hp|hp
   ·exact p2 p hp
   ·rw [Xq.1 hp];exact Xp _
  obtain ⟨k1,k2,k3,k4,k5,m,k6,k7⟩:=ry (st:=st) (E:=E) (root:=root) (a:=n) (time:=σ) hle (gO E n.1) S.pop p3 (fun e he t ht=>by
   obtain ⟨e1,e2⟩:=gk.1 he
   have e3:wM st E (min σ e.time) root e.aD n.2:=by rw [e2];exact hwn.less (by omega)
   exact .more e n.2 t e3 e1 (by omega) ht)
  have hol:=qp E n.1
  refine ⟨⟨k1,fun p hp e he hf t ht=> ?_,hdn,fun x hx=> ?_,hsd, ?_, ?_⟩,fun a b c=>k2 a b c⟩
  ·rcases Ww.1 hp with hp|hp
   ·exact (Fw.keep (S:=S) h.out (fun a b c=>k2 a b c)) p hp e he hf t ht
   ·obtain rfl:=Xq.1 hp;exact k3 e (gk.2 ⟨he,hf⟩) t ht
  ·rw [kB,k6] at hx
   rcases Ww.1 hx with hx|hx
   ·exact h.sub x hx
   ·obtain ⟨e,he,s,rfl,hs⟩:=k7 x hx;exact hc e (gk.1 he).1 n.2 s hs
  ·have e1:(kB st E n σ S.pop).heap.length<=(kA S.heap).length+E.length:=by
    have:(kB st E n σ S.pop).heap.length<=(kA S.heap).length+(gO E n.1).length:=k5
    omega
   simp only [U8,U9,U3]
   have e2:cand.length - done.length=(cand.length - (done.length+1))+1:=by omega
   rw [e2,Nat.add_mul,Nat.one_mul] at hfu;simp only [Nat.zero_add];omega
  ·have e1:(kB st E n σ S.pop).nodes.length<=S.nodes.length+(gO E n.1).length:=k4;have e2:=h.len;simp only [U8,U9,U3,Nat.zero_add];rw [Nat.add_mul (done.length+1),Nat.one_mul];omega
theorem re (f:Nat) {S:DS} (done:List Nd) (h:S.heap=[]):fH st E f S done=[]:=by
 cases f<;>simp [fH,h]
theorem tO {f i:Nat} {S:DS} {done:List Nd} {n:Nd} (h:S.heap≠[]) (hi:(aC S.heap 0).2=(i:Int)) (hn:S.nodes[i]? = some n) (hd:n∈done):fH st E (f+1) S done=fH st E f S.pop done:=by
 rw [fH,if_neg h,hi,Int.toNat_natCast,hn];simp [hd]
theorem tN {f i:Nat} {S:DS} {done:List Nd} {n:Nd} (h:S.heap≠[]) (hi:(aC S.heap 0).2=(i:Int)) (hn:S.nodes[i]? = some n) (hd:n∉done):fH st E (f+1) S done=(n, -(aC S.heap 0).1) :: fH st E f (kB st E n (-(aC S.heap 0).1) S.pop) (done++[n]):=by
 rw [fH,if_neg h,hi,Int.toNat_natCast,hn];simp [hd]
structure Mf (st:Nat->ByteArray->Option Nat) (E:List a8) (root:ByteArray) (Y:List (Nd×Int)):Prop where
 nd:(Y.map Prod.fst).Nodup
 gu: ∀p∈Y,wM st E p.2 root p.1.1 p.1.2
 all: ∀ τ v s,wM st E τ root v s-> ∃ σ,((v,s),σ)∈Y∧τ<=σ
def tA (st:Nat->ByteArray->Option Nat) (E:List a8) (root:ByteArray) (S:DS):Prop:= ∀e∈E,e.aD=root-> ∀t,st 0 e.label=some t-> ∃ τ,bJ S.known (e.to,t)=some τ∧e.time<=τ
theorem tA.keep {S S':DS} (h:tA st E root S) (k:Dg S S'):tA st E root S':=fun e he hf t ht=>by
 obtain ⟨τ,h1,h2⟩:=h e he hf t ht;obtain ⟨τ',h3,h4⟩:=k _ _ h1;exact ⟨τ',h3,by omega⟩
theorem DL.fin {cand:List Nd} {f:Nat} {S:DS} {done:List (Nd×Int)} (h:DL st E root cand f S done) (hr:tA st E root S) (hnil:S.heap=[]):Mf st E root done:=by
 have hdue: ∀n τ,bJ S.known n=some τ->(n,τ)∈done:=fun n τ hn=>by
  rcases h.due n τ hn with q|⟨i,q,_⟩
  ·exact q
  ·rw [hnil] at q;cases q
 refine ⟨h.QG,fun p hp=>h.gu p.1 p.2 (h.OR p hp),fun τ v s hR=> ?_⟩
 have key: ∃ σ,bJ S.known (v,s)=some σ∧τ<=σ:=by
  induction hR with
  | one e s h1 h2 h3 h4=>
   obtain ⟨σ,q1,q2⟩:=hr e h1 h3 s h4;exact ⟨σ,q1,by omega⟩
  | more e s t _ h1 h2 h3 ih=>
   obtain ⟨σ,q1,q2⟩:=ih;obtain ⟨σ',q3,q4⟩:=h.out _ (hdue _ _ q1) e h1 rfl t h3;exact ⟨σ',q3,by simp only at q4;omega⟩
 obtain ⟨σ,q1,q2⟩:=key;exact ⟨σ,hdue _ _ q1,q2⟩
theorem oP {cand:List Nd} (hc: ∀e∈E, ∀s t,st s e.label=some t->(e.to,t)∈cand): ∀(f:Nat) (S:DS) (done:List (Nd×Int)),DL st E root cand f S done->tA st E root S->Mf st E root (done++fH st E f S (done.map Prod.fst))
 | f,S,done,h,hr=>by
  by_cases hnil:S.heap=[]
  ·rw [re f _ hnil,List.append_nil];exact h.fin hr hnil
  ·obtain ⟨i,n,f',rfl,h1,h2,h3,h4⟩:=h.next hc hnil
   by_cases hd:n∈done.map Prod.fst
   ·rw [tO hnil h1 h2 hd];exact oP hc f' S.pop done (h3 hd) hr
   ·rw [tN hnil h1 h2 hd];obtain ⟨h5,hk⟩:=h4 hd
    have:=oP hc f' _ _ h5 (hr.keep hk)
    simpa using this
end
end
section
abbrev K2:=ByteArray×ByteArray
def zm (a b:K2):Prop:=a.1.data.toList<b.1.data.toList∨a.1=b.1∧a.2.data.toList<b.2.data.toList
instance (a b:K2):Decidable (zm a b):=inferInstanceAs (Decidable (_∨_))
theorem tJ {a b:ByteArray} (h:a.data.toList=b.data.toList):a=b:=by
 obtain ⟨⟨a⟩⟩:=a;obtain ⟨⟨b⟩⟩:=b;simp at h;rw [h]
theorem lF (a b:ByteArray):a.data.toList<b.data.toList∨a=b∨b.data.toList<a.data.toList:=by
 by_cases h:a.data.toList<b.data.toList
 ·exact .inl h
 ·by_cases h2:b.data.toList<a.data.toList
  ·exact .inr (.inr h2)
  ·exact .inr (.inl (tJ (List.le_antisymm (List.not_lt.1 h2) (List.not_lt.1 h))))
theorem fO (a:K2): ¬zm a a:=fun h=>by
 rcases h with h|⟨_,h⟩<;>exact Xr _ h
theorem gY {a b c:K2} (h:zm a b) (k:zm b c):zm a c:=by
 rcases h with h|⟨h1,h2⟩
 ·rcases k with k|⟨k1,k2⟩
  ·exact .inl (Xs h k)
  ·rw [k1] at h;exact .inl h
 ·rcases k with k|⟨k1,k2⟩
  ·rw [<-h1] at k;exact .inl k
  ·exact .inr ⟨h1.trans k1,Xs h2 k2⟩
theorem ny (a b:K2):zm a b∨a=b∨zm b a:=by
 rcases lF a.1 b.1 with h|h|h
 ·exact .inl (.inl h)
 ·rcases lF a.2 b.2 with k|k|k
  ·exact .inl (.inr ⟨h,k⟩)
  ·exact .inr (.inl (Prod.ext h k))
  ·exact .inr (.inr (.inr ⟨h.symm,k⟩))
 ·exact .inr (.inr (.inl h))
abbrev PL:=List (K2×Int)
def fG (l:PL):Prop:=l.Pairwise (fun a b=>zm a.1 b.1)
def AB (p:K2×Int):PL->PL
 | []=>[p]
 | q :: l=>if zm p.1 q.1 then p :: q :: l else q :: AB p l
def b8 (b:PL):PL:=b.foldr AB []
theorem o8 (p:K2×Int): ∀l:PL,(AB p l).Perm (p :: l)
 | []=> .refl _
 | q :: l=>by
  rw [AB]
  split
  ·exact .refl _
  ·exact ((o8 p l).cons q).trans (.swap p q l)
theorem cW: ∀b:PL,(b8 b).Perm b
 | []=> .refl _
 | p :: b=>(o8 p _).trans ((cW b).cons p)
theorem tW {p:K2×Int}: ∀ {l:PL},fG l->(∀q∈l,q.1≠p.1)->fG (AB p l)
 | [],_,_=>by simp [AB,fG]
 | q :: l,h,hne=>by
  rw [fG,Wq] at h;rw [AB]
  split
  ·rename_i hlt;rw [fG,Wq,Wq];refine ⟨fun r hr=> ?_,h.1,h.2⟩
   rcases Wr.1 hr with rfl|hr
   ·exact hlt
   ·exact gY hlt (h.1 r hr)
  ·rename_i hlt
   have hq:zm q.1 p.1:=by
    rcases ny q.1 p.1 with a|a|a
    ·exact a
    ·exact absurd a (hne q V4)
    ·exact absurd a hlt
   rw [fG,Wq];refine ⟨fun r hr=> ?_,tW h.2 fun r hr=>hne r (V2 _ hr)⟩
   rcases Wr.1 ((o8 p l).mem_iff.1 hr) with rfl|hr
   ·exact hq
   ·exact h.1 r hr
theorem mU: ∀ {b:PL},(b.map Prod.fst).Nodup->fG (b8 b)
 | [],_=>List.Pairwise.nil
 | p :: b,h=>by
  rw [List.map_cons,List.nodup_cons] at h;refine tW (mU h.2) fun q hq e=>h.1 ?_;rw [<-e];exact List.mem_map_of_mem ((cW b).mem_iff.1 hq)
theorem sr: ∀ {l m:PL},fG l->fG m->(∀p,p∈l↔p∈m)->l=m
 | [],[],_,_,_=>rfl
 | [],b :: m,_,_,h=>absurd ((h b).2 (by simp)) (by simp)
 | a :: l,[],_,_,h=>absurd ((h a).1 (by simp)) (by simp)
 | a :: l,b :: m,h1,h2,h=>by
  rw [fG,Wq] at h1 h2
  have hab:a=b:=by
   rcases Wr.1 ((h a).1 (by simp)) with e|ha
   ·exact e
   ·rcases Wr.1 ((h b).2 (by simp)) with e|hb
    ·exact e.symm
    ·exact absurd (gY (h1.1 b hb) (h2.1 a ha)) (fO _)
  subst hab
  refine congrArg _ (sr h1.2 h2.2 fun s=>⟨fun hs=> ?_,fun hs=> ?_⟩)
  ·rcases Wr.1 ((h s).1 (V2 _ hs)) with e|q
   ·subst e;exact absurd (h1.1 _ hs) (fO _)
   ·exact q
  ·rcases Wr.1 ((h s).2 (V2 _ hs)) with e|q
   ·subst e;exact absurd (h2.1 _ hs) (fO _)
   ·exact q
section
variable {K:Type} [DecidableEq K]
def fe (l:List (K×Int)) (b:List (K×Int)):List (K×Int):=l.foldl (fun b p=>fm b p.1 p.2) b
theorem lN (l m b:List (K×Int)):fe (l++m) b=fe m (fe l b):=List.foldl_append
theorem il: ∀(l b:List (K×Int)),(b.map Prod.fst).Nodup->((fe l b).map Prod.fst).Nodup∧(∀k σ,bJ (fe l b) k=some σ->bJ b k=some σ∨(k,σ)∈l)∧(∀p∈l, ∃ σ,bJ (fe l b) p.1=some σ∧p.2<=σ)∧(∀k τ,bJ b k=some τ-> ∃ σ,bJ (fe l b) k=some σ∧τ<=σ)
 | [],b,h=>⟨h,fun k σ h=> .inl h,fun p hp=>absurd hp List.not_mem_nil,fun k τ h=>⟨τ,h,Xp _⟩⟩
 | p :: l,b,h=>by
  obtain ⟨h1,h2,h3,h4⟩:=il l (fm b p.1 p.2) (JK _ _ h);have hg:=F0 b p.1 p.2;show ((fe l (fm b p.1 p.2)).map Prod.fst).Nodup∧(∀k σ,bJ (fe l (fm b p.1 p.2)) k=some σ->_)∧(∀q∈p :: l, ∃ σ,bJ (fe l (fm b p.1 p.2)) q.1=some σ∧q.2<=σ)∧(∀k τ,bJ b k=some τ-> ∃ σ,bJ (fe l (fm b p.1 p.2)) k=some σ∧τ<=σ)
  refine ⟨h1,fun k σ hk=> ?_,fun q hq=> ?_,fun k τ hk=> ?_⟩
  ·rcases h2 k σ hk with q|q
   ·rw [hg] at q
    by_cases hkp:p.1=k
    ·rw [if_pos hkp] at q
     cases hb:bJ b p.1 with
     | none=>
      rw [hb] at q;cases q;right;rw [<-hkp];exact V4
     | some ku=>
      rw [hb] at q;simp only [Option.some.injEq] at q
      by_cases hlt:ku<p.2
      ·right;rw [<-q, <- hkp,show max ku p.2=p.2 by omega];exact V4
      ·left;rw [<-q, <- hkp,hb];congr 1;omega
    ·rw [if_neg hkp] at q;exact .inl q
   ·exact .inr (V2 _ q)
  ·rcases Wr.1 hq with rfl|hq
   ·have: ∃ τ,bJ (fm b q.1 q.2) q.1=some τ∧q.2<=τ:=by
     rw [hg,if_pos rfl]
     cases bJ b q.1 with
     | none=>exact ⟨_,rfl,Xp _⟩
     | some ku=>exact ⟨max ku q.2,rfl,by omega⟩
    obtain ⟨τ,q1,q2⟩:=this;obtain ⟨σ,q3,q4⟩:=h4 _ _ q1;exact ⟨σ,q3,by omega⟩
   ·exact h3 q hq
  ·have: ∃ τ',bJ (fm b p.1 p.2) k=some τ'∧τ<=τ':=by
    rw [hg]
    by_cases hkp:p.1=k
    ·rw [if_pos hkp,hkp,hk];exact ⟨max τ p.2,rfl,by omega⟩
    ·rw [if_neg hkp];exact ⟨τ,hk,Xp _⟩
   obtain ⟨τ',q1,q2⟩:=this;obtain ⟨σ,q3,q4⟩:=h4 _ _ q1;exact ⟨σ,q3,by omega⟩
end
def xu:Int:=1099511627776
def sI (E:List a8):PL:=E.flatMap (fun e=>[((e.aD,e.aD),e.time),((e.to,e.to),e.time)])
def px (E:List a8):PL:=fe (sI E) []
def bl (E:List a8):PL:=b8 (px E)
theorem sJ {E:List a8} {k:K2} {τ:Int}:(k,τ)∈bl E↔bJ (px E) k=some τ:=by
 have h:((px E).map Prod.fst).Nodup:=(il _ [] V6).1;rw [bl,(cW _).mem_iff,ng h]
theorem pw {E:List a8} {k:K2} {τ:Int}:(k,τ)∈sI E ↔ ∃e∈E,(k=(e.aD,e.aD)∨k=(e.to,e.to))∧τ=e.time:=by
 simp only [sI,Xf,Wr,List.not_mem_nil,or_false,Prod.mk.injEq]
 constructor
 ·rintro ⟨e,he,⟨h1,h2⟩|⟨h1,h2⟩⟩
  ·exact ⟨e,he, .inl h1,h2⟩
  ·exact ⟨e,he, .inr h1,h2⟩
 ·rintro ⟨e,he,h1|h1,h2⟩
  ·exact ⟨e,he, .inl ⟨h1,h2⟩⟩
  ·exact ⟨e,he, .inr ⟨h1,h2⟩⟩
theorem IQ {E:List a8} {k:K2} {τ:Int} (h:(k,τ)∈bl E): ∃e∈E,(k=(e.aD,e.aD)∨k=(e.to,e.to))∧τ=e.time:=by
 rcases (il (sI E) [] V6).2.1 k τ (sJ.1 h) with q|q
 ·cases q
 ·exact pw.1 q
theorem zd {E:List a8} {e:a8} (he:e∈E):(∃ τ,((e.aD,e.aD),τ)∈bl E∧e.time<=τ)∧ ∃ τ,((e.to,e.to),τ)∈bl E∧e.time<=τ:=by
 have h:=(il (sI E) [] V6).2.2.1;obtain ⟨σ,h1,h2⟩:=h ((e.aD,e.aD),e.time) (pw.2 ⟨e,he, .inl rfl,rfl⟩);obtain ⟨ρ,h3,h4⟩:=h ((e.to,e.to),e.time) (pw.2 ⟨e,he, .inr rfl,rfl⟩);exact ⟨⟨σ,sJ.2 h1,h2⟩,ρ,sJ.2 h3,h4⟩
section
variable (st:Nat->ByteArray->Option Nat) (tk:Nat->Bool) (em:Bool) (n:Nat)
def iJ (E:List a8):List Nd:=E.flatMap (fun e=>(List.range n).map (fun s=>(e.to,s)))
def Gi (E:List a8) (root:ByteArray):DS:=kB st E (root,0) xu ⟨[],[],[]⟩
def OQ (E:List a8) (root:ByteArray):Nat:=(Gi st E root).heap.length+(iJ n E).length * (E.length+1)
def sP (E:List a8) (root:ByteArray):List (Nd×Int):=fH st E (OQ st n E root) (Gi st E root) []
def jq (E:List a8) (v:K2×Int):PL:=(if em then [((v.1.1,v.1.1),v.2)] else [])++(sP st n E v.1.1).filterMap (fun p=>if tk p.1.2 then some ((v.1.1,p.1.1),p.2) else none)
def pf (E:List a8):PL:=b8 (fe ((bl E).flatMap (jq st tk em n E)) [])
def PT (E:List a8) (f t:ByteArray) (τ:Int):Prop:=(em=true∧f=t∧ ∃e∈E,(e.aD=f∨e.to=f)∧τ<=e.time)∨ ∃s,tk s=true∧wM st E τ f t s
structure BJ (E:List a8) (L:PL):Prop where
 iC:fG L
 gu: ∀p∈L,PT st tk em E p.1.1 p.1.2 p.2
 all: ∀f t τ,PT st tk em E f t τ-> ∃ σ,((f,t),σ)∈L∧τ<=σ
end
section
variable {st:Nat->ByteArray->Option Nat} {tk:Nat->Bool} {em:Bool} {n:Nat}
theorem kN {E:List a8} (hst: ∀s l t,st s l=some t->t<n): ∀e∈E, ∀s t,st s e.label=some t->(e.to,t)∈iJ n E:=fun e he s t h=>by
 simp only [iJ,Xf,List.mem_map,List.mem_range];exact ⟨e,he,t,hst s _ t h,rfl⟩
theorem tK (E:List a8):(iJ n E).length=E.length * n:=by
 induction E with
 | nil=>simp [iJ]
 | cons e E ih=>
  simp only [iJ,List.flatMap_cons,List.length_append,List.length_map,List.length_range,U9] at ih ⊢;rw [ih,Nat.add_mul];omega
theorem BZ {E:List a8} (hst: ∀s l t,st s l=some t->t<n) (hb: ∀e∈E,e.time<=xu) (root:ByteArray):DL st E root (iJ n E) (OQ st n E root) (Gi st E root) []∧tA st E root (Gi st E root):=by
 have h0:DC st E root ⟨[],[],[]⟩ []:=⟨fun i _ h=>(by simp at h),V6,fun n τ h=>(by cases h),fun x h=>(by cases h),fun n τ h=>(by cases h),fun p h=>(by cases h),fun p h=>(by cases h)⟩
 obtain ⟨k1,k2,k3,k4,k5,m,k6,k7⟩:=ry (st:=st) (E:=E) (root:=root) (a:=(root,0)) (time:=xu) (done:=[]) (fun p h=>(by cases h)) (gO E root) _ h0 (fun e he t ht=>by
  obtain ⟨e1,e2⟩:=gk.1 he
  exact .one e t e1 (by omega) e2 ht)
 have hl:=qp E root
 refine ⟨⟨k1,fun p h=>(by cases h),V6,fun x hx=> ?_,fun n h=>(by cases h), ?_, ?_⟩,fun e he hf t ht=> ?_⟩
 ·have k6:(Gi st E root).nodes=[]++m:=k6;rw [k6,WZ] at hx;obtain ⟨e,he,s,rfl,hs⟩:=k7 x hx;exact kN hst e (gk.1 he).1 0 s hs
 ·simp only [U3,Nat.sub_zero];exact Nat.le_refl _
 ·have k4:(Gi st E root).nodes.length<=0+(gO E root).length:=k4;simp only [U3,Nat.zero_add,Nat.one_mul];omega
 ·obtain ⟨τ,q1,q2⟩:=k3 e (gk.2 ⟨he,hf⟩) t ht
  have:=hb e he
  exact ⟨τ,q1,by omega⟩
theorem vv {E:List a8} (hst: ∀s l t,st s l=some t->t<n) (hb: ∀e∈E,e.time<=xu) (root:ByteArray):Mf st E root (sP st n E root):=by
 obtain ⟨h1,h2⟩:=BZ hst hb root
 have:=oP (kN hst) _ _ [] h1 h2
 simpa [sP] using this
theorem H7 {E:List a8} {τ:Int} {root v:ByteArray} {s:Nat} (h:wM st E τ root v s): ∃e∈E,e.aD=root:=by
 induction h with
 | one e s h1 h2 h3 h4=>exact ⟨e,h1,h3⟩
 | more e s t _ _ _ _ ih=>exact ih
theorem lM {E:List a8} {v:K2×Int} {k:K2} {τ:Int}:(k,τ)∈jq st tk em n E v↔(em=true∧k=(v.1.1,v.1.1)∧τ=v.2)∨ ∃p∈sP st n E v.1.1,tk p.1.2=true∧k=(v.1.1,p.1.1)∧τ=p.2:=by
 rw [jq,List.mem_append,List.mem_filterMap]
 refine or_congr ?_ (exists_congr fun p=>and_congr Iff.rfl ?_)
 ·cases em<;>simp
 ·cases h:tk p.1.2
  ·simp
  ·simp [eq_comm]
theorem AZ {E:List a8} (hst: ∀s l t,st s l=some t->t<n) (hb: ∀e∈E,e.time<=xu):BJ st tk em E (pf st tk em n E):=by
 have hp:=il ((bl E).flatMap (jq st tk em n E)) [] V6
 have hmem: ∀k τ,(k,τ)∈pf st tk em n E↔bJ (fe ((bl E).flatMap (jq st tk em n E)) []) k=some τ:=fun k τ=>by
  rw [pf,(cW _).mem_iff,ng hp.1]
 have hin: ∀v∈bl E, ∀k τ,(k,τ)∈jq st tk em n E v-> ∃ σ,(k,σ)∈pf st tk em n E∧τ<=σ:=fun v hv k τ hk=>by
  obtain ⟨σ,h1,h2⟩:=hp.2.2.1 (k,τ) (Xf.2 ⟨v,hv,hk⟩);exact ⟨σ,(hmem k σ).2 h1,h2⟩
 refine ⟨mU hp.1,fun p hpm=> ?_,fun f t τ h=> ?_⟩
 ·obtain ⟨k,τ⟩:=p
  rcases hp.2.1 k τ ((hmem k τ).1 hpm) with q|q
  ·cases q
  ·obtain ⟨⟨kv,τv⟩,hv,q⟩:=Xf.1 q
   rcases lM.1 q with ⟨h1,h2,h3⟩|⟨p,h1,h2,h3,h4⟩
   ·obtain ⟨e,he,h5,h6⟩:=IQ hv;left;refine ⟨h1,by rw [h2],e,he, ?_,by rw [h3];simp only [h6];exact Xp _⟩;rw [h2]
    rcases h5 with h5|h5
    ·left;rw [h5]
    ·right;rw [h5]
   ·right
    have:=(vv hst hb kv.1).gu p h1
    exact ⟨p.1.2,h2,by rw [h3,h4];exact this⟩
 ·rcases h with ⟨h1,rfl,e,he,h2,h3⟩|⟨s,hs,hR⟩
  ·obtain ⟨⟨a,a1,a2⟩,b,b1,b2⟩:=zd he
   rcases h2 with rfl|rfl
   ·obtain ⟨σ,q1,q2⟩:=hin _ a1 (e.aD,e.aD) a (lM.2 (.inl ⟨h1,rfl,rfl⟩));exact ⟨σ,q1,by omega⟩
   ·obtain ⟨σ,q1,q2⟩:=hin _ b1 (e.to,e.to) b (lM.2 (.inl ⟨h1,rfl,rfl⟩));exact ⟨σ,q1,by omega⟩
  ·obtain ⟨e,he,rfl⟩:=H7 hR;obtain ⟨⟨a,a1,a2⟩,_⟩:=zd he;obtain ⟨σ,q1,q2⟩:=(vv hst hb e.aD).all τ t s hR;obtain ⟨ρ,q3,q4⟩:=hin _ a1 (e.aD,t) σ (lM.2 (.inr ⟨_,q1,hs,rfl,rfl⟩));exact ⟨ρ,q3,by omega⟩
theorem KX {E E':List a8} (h: ∀e∈E,e∈E') {τ:Int} {root v:ByteArray} {s:Nat} (k:wM st E τ root v s):wM st E' τ root v s:=by
 induction k with
 | one e s h1 h2 h3 h4=>exact .one e s (h e h1) h2 h3 h4
 | more e s t _ h1 h2 h3 ih=>exact .more e s t ih (h e h1) h2 h3
theorem M6 {E E':List a8} (h: ∀e∈E,e∈E') {τ:Int} {f t:ByteArray} (k:PT st tk em E f t τ):PT st tk em E' f t τ:=by
 rcases k with ⟨h1,h2,e,he,h3⟩|⟨s,h1,h2⟩
 ·exact .inl ⟨h1,h2,e,h e he,h3⟩
 ·exact .inr ⟨s,h1,KX h h2⟩
theorem E0 {E E':List a8} (h: ∀e∈E,e∈E') {L M:PL} (hL:BJ st tk em E L) (hM:BJ st tk em E' M) {k:K2} {τ:Int} (hk:(k,τ)∈L): ∃ σ,(k,σ)∈M∧τ<=σ:=hM.all k.1 k.2 τ (M6 h (hL.gu _ hk))
end
def Cj (a b:ByteArray):Bool:=Op.bytesLess a.toList b.toList
theorem ft {a b:ByteArray}:Cj a b=true↔a.data.toList<b.data.toList:=by
 rw [Cj,bytesLess_eq,decide_eq_true_eq,ByteArray.toList_eq,ByteArray.toList_eq]
def A5:ByteArray->List uY->Bool
 | _,[]=>true
 | last,p :: l=>if Cj p.key last||p.key.toList==last.toList then false else cZ p.key&&bM p.val&&A5 p.key l
def yA (l:List uY):Bool:=A5 ⟨#[]⟩ l&&decide (l.length<=8)
def oQ (e:a8):Int:=if gJ e.aD&&gJ e.to&&cZ e.label&&yA e.props then (if 0<=e.time∧e.time<=xu then 0 else 6) else 2
def e9:List a8->Int
 | []=>0
 | e :: l=>if oQ e≠0 then oQ e else e9 l
theorem Gr {E:List a8} {k:Nat} (h:k<E.length):e9 (E.drop k)=if oQ E[k]≠0 then oQ E[k] else e9 (E.drop (k+1)):=by
 rw [List.drop_eq_getElem_cons h,e9]
theorem oR: ∀ {E:List a8},e9 E=0-> ∀e∈E,oQ e=0
 | [],_,e,he=>by cases he
 | a :: l,h,e,he=>by
  rw [e9] at h
  split at h
  ·rename_i hn;exact absurd h hn
  ·rename_i hn
   rcases Wr.1 he with rfl|he
   ·exact Classical.not_not.1 hn
   ·exact oR h e he
theorem tP {e:a8} (h:oQ e=0):0<=e.time∧e.time<=xu:=by
 unfold oQ at h
 split at h
 ·split at h
  ·assumption
  ·cases h
 ·cases h
def pY (a b:Int):Int:=if a<b then -1 else if b<a then 1 else 0
def iY (a b:ByteArray):Int:=if Cj a b then -1 else if Cj b a then 1 else 0
def AU (a b:Int):Int:=if a≠0 then a else b
def O3 (a b:dC):Int:=AU (pY a.1 b.1) (pY a.2 b.2)
theorem AD (a b:dC):decide (O3 a b<0)=dP a b:=by
 rw [Xt,decide_eq_true_eq,ij,O3,AU];unfold pY
 split<;>split<;>(try split)<;>(try split)<;>(try split)<;>omega
theorem MI (a b:dC):decide (0<=O3 a b) = !dP a b:=by
 rw [<-AD,Xt];simp
theorem Kr (a b:ByteArray):(!(Cj a b||a.toList==b.toList))=Cj b a:=by
 rw [Xt];simp only [Bool.not_eq_true',Bool.or_eq_false_iff,beq_eq_false_iff_ne,ne_eq]
 constructor
 ·rintro ⟨h1,h2⟩
  rcases lF a b with h|h|h
  ·rw [ft.2 h] at h1;cases h1
  ·exact absurd (by rw [h]) h2
  ·exact ft.2 h
 ·intro h;have h':=ft.1 h
  refine ⟨?_,fun e=> ?_⟩
  ·rw [<-Bool.not_eq_true,ft];exact fun k=>Xr _ (Xs h' k)
  ·have:a=b:=by
    rw [ByteArray.toList_eq,ByteArray.toList_eq] at e;exact tJ e
   rw [this] at h';exact Xr _ h'
theorem Hj (a:Int):ah Tryz.prog 202 [.v (.int .i64 a)] (.v (.bool false)):=by
 (refine ah.enter Tryz.func202 rfl (by kernel_rfl) (by kernel_rfl) rfl (by first|rfl|(simp only [go_sem,WT,Wg,Wn])) (by first|rfl|(simp only [go_sem,WT,Wg,Wn])) ?_;simp only [Tryz.ntmps202,Tryz.results202,U9,U3,Nat.reduceAdd,Nat.reduceSub,WW,WX,WY,WZ])
 repeat (first|(with_reducible first|refine ag.up ?_|refine fun (K:AK) hK=> ?_|(refine hK _ ?_;clear hK K))|simp only [go_sem,bne_self_eq_false]|clear hK K)
theorem Ga (a b:Int):ah Tryz.prog 162 [.v (.int .i64 a), .v (.int .i64 b)] (.v (.int .i64 (pY a b))):=by
 have N1:=Hj a;have N2:=Hj b
 by_cases h1:a<b
 ·have e1:decide (a<b)=true:=decide_eq_true h1
  have e2:pY a b = -1:=by rw [pY,if_pos h1]
  rw [e2]
  (refine ah.enter Tryz.func162 rfl (by kernel_rfl) (by kernel_rfl) rfl (by first|rfl|(simp only [go_sem,WT,Wg,Wn])) (by first|rfl|(simp only [go_sem,WT,Wg,Wn])) ?_;simp only [Tryz.ntmps162,Tryz.results162,U9,U3,Nat.reduceAdd,Nat.reduceSub,WW,WX,WY,WZ])
  repeat (first|(with_reducible first|refine ag.up ?_|refine fun (K:AK) hK=> ?_|(refine hK _ ?_;clear hK K))|simp only [go_sem]|clear hK K)
  refine ab.one N1 ?_
  repeat (first|(with_reducible first|refine ag.up ?_|refine fun (K:AK) hK=> ?_|(refine hK _ ?_;clear hK K))|simp only [go_sem]|clear hK K)
  refine ab.one N2 ?_
  repeat (first|(with_reducible first|refine ag.up ?_|refine fun (K:AK) hK=> ?_|(refine hK _ ?_;clear hK K))|simp only [go_sem,e1]|clear hK K)
 ·have e1:decide (a<b)=false:=decide_eq_false h1
  by_cases h2:b<a
  ·have e3:decide (b<a)=true:=decide_eq_true h2
   have e2:pY a b=1:=by rw [pY,if_neg h1,if_pos h2]
   rw [e2]
   (refine ah.enter Tryz.func162 rfl (by kernel_rfl) (by kernel_rfl) rfl (by first|rfl|(simp only [go_sem,WT,Wg,Wn])) (by first|rfl|(simp only [go_sem,WT,Wg,Wn])) ?_;simp only [Tryz.ntmps162,Tryz.results162,U9,U3,Nat.reduceAdd,Nat.reduceSub,WW,WX,WY,WZ])
   repeat (first|(with_reducible first|refine ag.up ?_|refine fun (K:AK) hK=> ?_|(refine hK _ ?_;clear hK K))|simp only [go_sem]|clear hK K)
   refine ab.one N1 ?_
   repeat (first|(with_reducible first|refine ag.up ?_|refine fun (K:AK) hK=> ?_|(refine hK _ ?_;clear hK K))|simp only [go_sem]|clear hK K)
   refine ab.one N2 ?_
   repeat (first|(with_reducible first|refine ag.up ?_|refine fun (K:AK) hK=> ?_|(refine hK _ ?_;clear hK K))|simp only [go_sem,e1,e3]|clear hK K)
  ·have e3:decide (b<a)=false:=decide_eq_false h2
   have e2:pY a b=0:=by rw [pY,if_neg h1,if_neg h2]
   rw [e2]
   (refine ah.enter Tryz.func162 rfl (by kernel_rfl) (by kernel_rfl) rfl (by first|rfl|(simp only [go_sem,WT,Wg,Wn])) (by first|rfl|(simp only [go_sem,WT,Wg,Wn])) ?_;simp only [Tryz.ntmps162,Tryz.results162,U9,U3,Nat.reduceAdd,Nat.reduceSub,WW,WX,WY,WZ])
   repeat (first|(with_reducible first|refine ag.up ?_|refine fun (K:AK) hK=> ?_|(refine hK _ ?_;clear hK K))|simp only [go_sem]|clear hK K)
   refine ab.one N1 ?_
   repeat (first|(with_reducible first|refine ag.up ?_|refine fun (K:AK) hK=> ?_|(refine hK _ ?_;clear hK K))|simp only [go_sem]|clear hK K)
   refine ab.one N2 ?_
   repeat (first|(with_reducible first|refine ag.up ?_|refine fun (K:AK) hK=> ?_|(refine hK _ ?_;clear hK K))|simp only [go_sem,e1,e3]|clear hK K)
theorem JT (a b:Int):ah Tryz.prog 61 [.aH 1 [[.v (.int .i64 a)],[.v (.int .i64 b)]] 2] (.v (.int .i64 (AU a b))):=by
 (refine ah.enter Tryz.func61 rfl (by kernel_rfl) (by kernel_rfl) rfl (by first|rfl|(simp only [go_sem,WT,Wg,Wn])) (by first|rfl|(simp only [go_sem,WT,Wg,Wn])) ?_;simp only [Tryz.ntmps61,Tryz.results61,U9,U3,Nat.reduceAdd,Nat.reduceSub,WW,WX,WY,WZ])
 repeat (first|(with_reducible first|refine ag.up ?_|refine fun (K:AK) hK=> ?_|(refine hK _ ?_;clear hK K))|simp only [go_sem]|with_reducible refine wA ?_|clear hK K)
 have d0:decide (((0:Nat):Int)<((2:Nat):Int))=true:=by decide
 have d1:decide (((1:Nat):Int)<((2:Nat):Int))=true:=by decide
 have d2:decide (((2:Nat):Int)<((2:Nat):Int))=false:=by decide
 have w0:=aB (k:=0) (by omega);have w1:=aB (k:=1) (by omega)
 refine bD (ι:=Nat) 9 (fun i=>[(5, .undef),(8, .v (.int .i64 i))]) (fun i=>2 - i) (fun i=>i<=2∧(0<i->a=0)∧(1<i->b=0)) 0 ⟨by omega,by omega,by omega⟩ ?_ ?_
 ·(refine aq ?_ ?_ ?_<;>simp only [aD,WJ,WK,WW,WX,aW,aY,AV.v.injEq,Value.int.injEq,Value.bool.injEq,Value.string.injEq,AV.vec.injEq,AV.ptr.injEq,true_or,or_true,false_or,or_false,aa.mk.injEq,forall_eq_apply_imp_iff,forall_eq,forall_eq',go_sem])
  all_goals first|rfl|trace_state
 ·rintro i ⟨hi,ha,hb⟩ K hK
  match i,hi with
  | 0,_=>
   by_cases h:a=0
   ·have e1:(a !=0)=false:=by simp [h]
    repeat (first|(with_reducible first|refine ag.up ?_|refine fun (K:AK) hK=> ?_|(refine hK _ ?_;clear hK K))|simp only [go_sem,e1,d0,w0]|with_reducible refine wA ?_|clear hK K)
    exact aJ.mk 1 ⟨by omega,fun _=>h,by omega⟩ (by omega) (by (refine aq ?_ ?_ ?_<;>simp only [aD,WJ,WK,WW,WX,aW,aY,AV.v.injEq,Value.int.injEq,Value.bool.injEq,Value.string.injEq,AV.vec.injEq,AV.ptr.injEq,true_or,or_true,false_or,or_false,aa.mk.injEq,forall_eq_apply_imp_iff,forall_eq,forall_eq',go_sem]))
   ·have e1:(a !=0)=true:=by simpa using h
    have e2:AU a b=a:=by rw [AU,if_pos h]
    repeat (first|(with_reducible first|refine ag.up ?_|refine fun (K:AK) hK=> ?_|(refine hK _ ?_;clear hK K))|simp only [go_sem,e1,d0]|with_reducible refine wA ?_|clear hK K)
    rw [e2]
  | 1,_=>
   have e3:=ha (by omega)
   by_cases h:b=0
   ·have e1:(b !=0)=false:=by simp [h]
    repeat (first|(with_reducible first|refine ag.up ?_|refine fun (K:AK) hK=> ?_|(refine hK _ ?_;clear hK K))|simp only [go_sem,e1,d1,w1]|with_reducible refine wA ?_|clear hK K)
    exact aJ.mk 2 ⟨by omega,fun _=>e3,fun _=>h⟩ (by omega) (by (refine aq ?_ ?_ ?_<;>simp only [aD,WJ,WK,WW,WX,aW,aY,AV.v.injEq,Value.int.injEq,Value.bool.injEq,Value.string.injEq,AV.vec.injEq,AV.ptr.injEq,true_or,or_true,false_or,or_false,aa.mk.injEq,forall_eq_apply_imp_iff,forall_eq,forall_eq',go_sem]))
   ·have e1:(b !=0)=true:=by simpa using h
    have e2:AU a b=b:=by rw [AU,if_neg (by simp [e3])]
    repeat (first|(with_reducible first|refine ag.up ?_|refine fun (K:AK) hK=> ?_|(refine hK _ ?_;clear hK K))|simp only [go_sem,e1,d1]|with_reducible refine wA ?_|clear hK K)
    rw [e2]
  | 2,_=>
   have e3:=ha (by omega);have e4:=hb (by omega)
   have e2:AU a b=0:=by rw [AU,if_neg (by simp [e3]),e4]
   repeat (first|(with_reducible first|refine ag.up ?_|refine fun (K:AK) hK=> ?_|(refine hK _ ?_;clear hK K))|simp only [go_sem,d2]|with_reducible refine wA ?_|clear hK K)
   rw [e2]
  | i+3,h=>omega
def aM (x:dC):List AV:=[.v (.int .i64 x.1), .v (.int .i64 x.2)]
theorem vV (a b:dC):ah Tryz.prog 131 [.agg (aM a), .agg (aM b)] (.v (.int .i64 (O3 a b))):=by
 have C1:=Ga a.1 b.1;have C2:=Ga a.2 b.2;have C3:=JT (pY a.1 b.1) (pY a.2 b.2);rw [O3];simp only [aM]
 (refine ah.enter Tryz.func131 rfl (by kernel_rfl) (by kernel_rfl) rfl (by first|rfl|(simp only [go_sem,WT,Wg,Wn])) (by first|rfl|(simp only [go_sem,WT,Wg,Wn])) ?_;simp only [Tryz.ntmps131,Tryz.results131,U9,U3,Nat.reduceAdd,Nat.reduceSub,WW,WX,WY,WZ])
 repeat (first|(with_reducible first|refine ag.up ?_|refine fun (K:AK) hK=> ?_|refine wD ?_|(refine hK _ ?_;clear hK K))|simp only [go_sem]|clear hK K)
 refine bf.one C1 ?_
 repeat (first|(with_reducible first|refine ag.up ?_|refine fun (K:AK) hK=> ?_|refine wD ?_|(refine hK _ ?_;clear hK K))|simp only [go_sem]|clear hK K)
 refine bf.one C2 ?_
 repeat (first|(with_reducible first|refine ag.up ?_|refine fun (K:AK) hK=> ?_|refine wD ?_|(refine hK _ ?_;clear hK K))|simp only [go_sem]|clear hK K)
 refine bf.one C3 ?_
 repeat (first|(with_reducible first|refine ag.up ?_|refine fun (K:AK) hK=> ?_|refine wD ?_|(refine hK _ ?_;clear hK K))|simp only [go_sem]|clear hK K)
 trace_state
def aX (k:K2):List AV:=[.v (.string k.1), .v (.string k.2)]
def eC (a b:K2):Int:=AU (iY a.1 b.1) (iY a.2 b.2)
end
section
section
variable {P:Program} {ops:Array Oper}
def fP:List Oper->List Oper
 | []=>[]
 | o :: l=>o :: l.map (fun p=>{ p with after:=p.after.push ⟨0, .data⟩ })
theorem ri (l:List Oper):(fP l).length=l.length:=by cases l<;>simp [fP]
theorem nz (l:List Oper) (i:Nat):(fP l)[i]? = (l[i]?).map (fun p=>if i=0 then p else { p with after:=p.after.push ⟨0, .data⟩ }):=by
 cases l with
 | nil=>simp [fP]
 | cons o l=>
  cases i with
  | zero=>simp [fP]
  | succ i=>simp [fP]
theorem Ah (l:List Oper) (t:Array Value):yielded (fP l).toArray t=yielded l.toArray t:=by
 funext j
 simp only [yielded,Vk,nz]
 cases l[j]? with
 | none=>rfl
 | some o=>by_cases h:j=0<;>simp only [VB,Option.bind_some,h,if_true,if_false]
theorem J1 {F:Fence} {n:Nat} {Q:Exit->Act->World->Prop} {l:List Oper} {i:Nat} {K:Act->World->Prop} {a:Act} {w:World} (h:wpOpIn F n P (fP l).toArray Q i K a w):wpOpIn F n P l.toArray Q i K a w:=by
 unfold wpOpIn at h ⊢;simp only [Vk,nz,Ah] at h ⊢
 cases ho:l[i]? with
 | none=>simpa [ho] using h
 | some o=>
  simp only [ho,VB] at h ⊢
  split at h<;>exact h
theorem B1 {F:Fence} {n:Nat} {Q:Exit->Act->World->Prop} {l:List Oper} {ops:Array Oper} {E:Act->World->Prop}: ∀(fuel:Nat) (listed:Array Bool) (a:Act) (w:World),lX (wpOpIn F n P (fP l).toArray Q) ops E fuel listed a w->lX (wpOpIn F n P l.toArray Q) ops E fuel listed a w
 | 0,_,_,_,h=>h
 | fuel+1,_,_,_,h=>⟨h.1,fun i hi=>J1 (wpOpIn_mono (fun _ _=>B1 fuel _ _ _) (h.2 i hi))⟩
theorem rj {l:List Oper} {listed:Array Bool} (h0:listed.getD 0 false=true):Region.ready .any (fP l).toArray listed=Region.ready .any l.toArray listed:=by
 unfold Region.ready;simp only [Vs,ri,Vk,nz];refine List.filter_congr fun i _=> ?_
 congr 1
 cases l[i]? with
 | none=>rfl
 | some o=>
  simp only [VB,Option.getD_some]
  split
  ·rfl
  ·simp;intro _;right;simpa using h0
theorem xH {st:Nat->(Act->World->Prop)->Act->World->Prop} (hst: ∀(i:Nat) (K K':Act->World->Prop) (a:Act) (w:World),(∀a w,K a w->K' a w)->st i K a w->st i K' a w) {l:List Oper} {E:Act->World->Prop}: ∀(fuel:Nat) (listed:Array Bool) (a:Act) (w:World),listed.getD 0 false=true->lX st (fP l).toArray E fuel listed a w->lX st l.toArray E fuel listed a w
 | 0,listed,a,w,h0,h=>by
  rw [lX,rj h0] at h;exact h
 | fuel+1,listed,a,w,h0,h=>by
  rw [lX,rj h0] at h;refine ⟨h.1,fun i hi=>hst _ _ _ _ _ (fun a w=>xH hst fuel _ a w ?_) (h.2 i hi)⟩
  by_cases hi0:i=0
  ·subst hi0
   have:0<listed.size:=by
    rcases Nat.eq_zero_or_pos listed.size with q|q
    ·simp [q] at h0
    ·exact q
   simp [this]
  ·rw [getD_set_ne false hi0];exact h0
theorem D4 {r:Option Nat} {n i:Nat} {o:Oper} {Q:Exit->Act->World->Prop} (hC:dy ops=true) (hns:Region.noSelect ops=true) (hP: ∀c a w, ¬Q (.panic c) a w) (ho:ops[i]? = some o) {d t:Tmp} {v:Value} {a:Act} {w:World} {K:Act->World->Prop} (hd:d∉o.looksAt ops) (hod:o.dst≠some d) (hot:o.dst≠some t) (h:wpOpIn (WF r) n P ops Q i K (a.put (some d) v) w) :
  wpOpIn (WF r) n P ops Q i (fun a' w'=>K (a'.put (some d) v) w'∧a'.eval (.tmp t)=a.eval (.tmp t)) a w:=by
 have hsel:=fun cs b=>Region.noSelect_spec hns i o cs b ho;have hput: ∀(a:Act) (u:Value),(a.put (some d) v).put o.dst u=(a.put o.dst u).put (some d) v:=fun a u=>Act.put_comm a v u (fun e he q=>hod (by rw [q,he]))
 have hev: ∀(a:Act) (u:Value),(a.put o.dst u).eval (.tmp t)=a.eval (.tmp t):=fun a u=>Act.eval_put fun e he hx=>hot (by
  rw [he];injection hx with hx;rw [hx])
 unfold wpOpIn at h ⊢;simp only [ho] at h ⊢;rw [wanted_put o a (some d) v (fun e he=>by injection he with he;exact he ▸ hd)] at h
 split at h
 ·rename_i hw;rw [if_pos hw];refine ⟨fun f _=>trivial, ?_⟩;have h:=h.2;rw [kM hC ho,execOp_put o hsel a (some d) v (fun e he=>by injection he with he;exact he ▸ hd)] at h;rw [kM hC ho];generalize (execOp a.eval o).run P w=res at h ⊢
  cases res with
  | ok x w'=>
   cases x<;>simp only [Oper.uponIn] at h ⊢
   case value=>exact ⟨hput _ _ ▸ h,hev _ _⟩
   case skip=>exact ⟨hput _ _ ▸ h,hev _ _⟩
   case enter=>
    refine ⟨h.1,CallsIn.mono h.2 fun e w'' he=> ?_⟩;cases e
    case returned=>exact ⟨hput _ _ ▸ he,hev _ _⟩
    case panicked=>exact absurd he (hP _ _ _)
    case outgrown=>exact he
   case defer q=>exact ⟨hput { a with defers:=q :: a.defers } undef ▸ h,hev { a with defers:=q :: a.defers } undef⟩
   case row=>exact ⟨h.1,RowsIn.mono h.2 fun _ _ he=>⟨hput _ _ ▸ he,hev _ _⟩⟩
   case round=>
    refine ⟨h.1,RoundIn.mono h.2 fun e w'' he=> ?_⟩;cases e
    case returned=>exact ⟨hput _ _ ▸ he,hev _ _⟩
    case panicked=>exact absurd he (hP _ _ _)
    case outgrown=>exact he
  | halt x w'=>
   cases x<;>simp only [Oper.uponIn] at h ⊢
   all_goals first|exact h|exact absurd h (hP _ _ _)
 ·rename_i hw;rw [if_neg hw];exact ⟨fun f _=>trivial,hput _ _ ▸ h.2,hev _ _⟩
def ud (ops:Array Oper) (d t:Tmp):Bool:=
 Region.noSelect ops&&dy ops&&(d !=t)&&(match ops[0]? with|some o=>(o.dst==some d)&&(match o.op with| .move (.tmp u)=>u==t|_=>false)&&o.guard.isNone&&(o.after.size==0)|none=>false) &&
 (List.range ops.size).all (fun j=>j==0||match ops[j]? with|some o=>(o.dst !=some d)&&(o.dst !=some t)&&(aG ops j 0 || !(o.looksAt ops).contains d)|none=>true)
theorem yj {r:Option Nat} {n:Nat} {Q:Exit->Act->World->Prop} {d t:Tmp} (hL:ud ops d t=true):0<ops.size∧(∀(l:List Oper) (listed:Array Bool),l.toArray=ops->listed.getD 0 true=false->0∈Region.ready .any (fP l).toArray listed)∧(∀(listed:Array Bool),listed.getD 0 true=false->0∈Region.ready .any ops listed)∧ ∀(K:Act->World->Prop) a w,wpOpIn (WF r) n P ops Q 0 K a w↔K (a.put (some d) (a.eval (.tmp t))) w:=by
 simp only [ud,VS,List.all_eq_true,List.mem_range,bne_iff_ne] at hL;obtain ⟨⟨⟨⟨hns,hC⟩,hdt⟩,h0⟩,hall⟩:=hL
 obtain ⟨o0,ho0,hdst,hop,hg,haf⟩: ∃o0:Oper,ops[0]? = some o0∧o0.dst=some d∧o0.op = .move (.tmp t)∧o0.guard=none∧o0.after = #[]:=by
  cases ho:ops[0]? with
  | none=>simp [ho] at h0
  | some o=>
   simp only [ho,VS,beq_iff_eq] at h0;refine ⟨o,rfl,h0.1.1.1, ?_,by simpa using h0.1.2,by simpa using h0.2⟩
   have:=h0.1.1.2
   split at this
   ·rename_i u hu;rw [hu];simp at this;rw [this]
   ·cases this
 have h0s:0<ops.size:=by
  rcases Nat.eq_zero_or_pos ops.size with q|q
  ·rw [Array.getElem?_eq_none (by omega)] at ho0;cases ho0
  ·exact q
 refine ⟨h0s,fun l listed hl' hl=>mem_ready.2 ⟨hl,o0,by subst hl';simp only [Vk] at ho0;simp [nz,ho0],fun e he _=>by rw [haf] at he;simp at he⟩,fun listed hl=>mem_ready.2 ⟨hl,o0,ho0,fun e he _=>by rw [haf] at he;simp at he⟩, ?_⟩
 ·intro K a w;unfold wpOpIn;simp only [ho0];rw [if_pos (by simp [Region.wanted,hg])];unfold Oper.wpIn;rw [kM hC ho0]
  have:(execOp a.eval o0).run P w = .ok (.value (a.eval (.tmp t))) w:=by unfold execOp;rw [hop];rfl
  rw [this];simp only [Oper.uponIn,hdst];exact ⟨fun h=>h.2,fun h=>⟨fun f _=>trivial,h⟩⟩
theorem AJ {r:Option Nat} {n:Nat} {Q:Exit->Act->World->Prop} {E:Act->World->Prop} {d t:Tmp} (hL:ud ops d t=true) (hP: ∀c a w, ¬Q (.panic c) a w): ∀(fuel:Nat) (listed:Array Bool) (a:Act) (w:World),listed.size=ops.size->listed.getD 0 true=false->lX (wpOpIn (WF r) n P ops Q) ops E fuel (listed.setIfInBounds 0 true) (a.put (some d) (a.eval (.tmp t))) w->lX (wpOpIn (WF r) n P ops Q) ops E (fuel+1) listed a w:=by
 obtain ⟨h0s, -,hread,hrun⟩:=yj (P:=P) (Q:=Q) (r:=r) (n:=n) hL;simp only [ud,VS,List.all_eq_true,List.mem_range,bne_iff_ne] at hL;obtain ⟨⟨⟨⟨hns,hC⟩,hdt⟩,h0⟩,hall⟩:=hL
 have hstep: ∀(listed:Array Bool),listed.size=ops.size->listed.getD 0 true=false-> ∀i∈Region.ready .any ops listed,i≠0->i∈Region.ready .any ops (listed.setIfInBounds 0 true)∧ ∀(K:Act->World->Prop) v a w,wpOpIn (WF r) n P ops Q i K (a.put (some d) v) w->wpOpIn (WF r) n P ops Q i (fun a' w'=>K (a'.put (some d) v) w'∧a'.eval (.tmp t)=a.eval (.tmp t)) a w:=by
  intro listed hs hl i hi hi0;obtain ⟨g1,o,g2,g3⟩:=mem_ready.1 hi;have hil:i<ops.size:=(Array.getElem?_eq_some_iff.1 g2).1
  refine ⟨mem_ready.2 ⟨by rw [getD_set_ne true (Ne.symm hi0)];exact g1,o,g2,fun e he hb=> ?_⟩, ?_⟩
  ·by_cases he0:e.on=0
   ·rw [he0];simp [hs,h0s]
   ·rw [getD_set_ne false (Ne.symm he0)];exact g3 e he hb
  ·have ha:=hall i hil;simp only [g2,Bool.or_eq_true,beq_iff_eq,hi0,false_or,VS,bne_iff_ne] at ha;intro K v a w h;refine D4 hC hns hP g2 ?_ ha.1.1 ha.1.2 h
   rcases ha.2 with hdep|hlook
   ·exfalso;simp only [aG,g2,VS,beq_iff_eq,Array.any_eq_true'] at hdep;obtain ⟨e,he,hb,h00⟩:=hdep
    have:=g3 e he hb
    rw [h00] at this;simp only [Array.getD_eq_getD_getElem?] at this hl;rw [Array.getElem?_eq_getElem (by omega)] at this hl;simp at this hl;rw [this] at hl;cases hl
   ·intro hm;rw [List.contains_iff_mem.2 hm] at hlook;cases hlook
 intro fuel
 induction fuel with
 | zero=>
  intro listed a w hs hl h
  refine ⟨fun he=> ?_,fun i hi=> ?_⟩
  ·have:=hread listed hl;rw [he] at this;cases this
  ·by_cases hi0:i=0
   ·subst hi0;exact (hrun _ _ _).2 h
   ·have:=(hstep listed hs hl i hi hi0).1
    rw [h.1] at this;cases this
 | succ fuel ih=>
  intro listed a w hs hl h
  refine ⟨fun he=> ?_,fun i hi=> ?_⟩
  ·have:=hread listed hl;rw [he] at this;cases this
  ·by_cases hi0:i=0
   ·subst hi0;exact (hrun _ _ _).2 h
   ·obtain ⟨q1,q2⟩:=hstep listed hs hl i hi hi0;refine wpOpIn_mono (fun a' w' hk=> ?_) (q2 _ _ _ _ (h.2 i q1));have e:(listed.setIfInBounds 0 true).setIfInBounds i true=(listed.setIfInBounds i true).setIfInBounds 0 true:=Array.setIfInBounds_comm _ _ (Ne.symm hi0)
    refine ih _ a' w' (by simpa using hs) ?_ ?_
    ·rw [getD_set_ne true hi0];exact hl
    ·rw [<-e,hk.2];exact hk.1
theorem lC {n0 id:Nat} {s:AS} {l:List Oper} {Q:aR->AS->Prop} (m0 d t:Nat) (hL:ud l.toArray d t=true) (hB:gI (fP l).toArray m0=true) (hC:dy (fP l).toArray=true) (h:dw P (fP l) (fun s=>gK P (fP l) ((fP l).drop m0) s (Q .normal)) ((fP l).take m0) s):bS P n0 (.region id l.toArray true) s Q:=by
 refine .inr (fun f m D nu a w hZr hn hm hs hmx R hO hR=> ?_)
 have hCl:dy l.toArray=true:=by
  simp only [ud,VS] at hL;exact hL.1.1.1.2
 have hm0:m0<=(fP l).length:=by
  simp only [gI,VS,decide_eq_true_eq,Vs] at hB;exact Nat.le_of_lt hB.1.1.2
 have hcalm: ∀oo,oo∈(fP l).drop m0-> ∀c,oo.op ≠ .defer c:=fun oo ho c e=>by
  unfold dy at hC;rw [Array.all_eq_true_iff_forall_mem] at hC;have h2:=hC oo (by simpa using List.mem_of_mem_drop ho);rw [e] at h2;cases h2
 obtain ⟨R',hR'⟩: ∃R':Exit->Act->World->Prop,R'=fun e a w=>(match e with| .panic _=>False|_=>True)∧R e a w:=⟨_,rfl⟩
 have hP: ∀c a w, ¬R' (.panic c) a w:=fun c a w q=>by rw [hR'] at q;exact q.1
 have hN: ∀a w,R .normal a w->R' .normal a w:=fun a w q=>by rw [hR'];exact ⟨trivial,q⟩
 obtain ⟨rs,hrel⟩:=gb (P:=P) (T:=fun k=>nU (wpOpIn (WF f.r) 9 P (fP l).toArray R') (R' .normal) (List.range' k ((fP l).length - k))) hm0 hB hs.drew (fun sk a' wr hE ho hy hsk hB'=>nF _ _ _ _ (by omega) (jg m hZr _ sk a' wr D nu hcalm (by
  rw [ho,hy];exact m.own hm hs.ro ((aw (cP w)).trans (aw hE)) (ho ▸ hsk.ro)) hsk hB' (fun D' s' a2 w2 nu' q1 q2 q3=>hN _ _ (hR .normal D' f.Z s' a2 w2 nu' q1 q2 q3)))) ((fP l).take m0) 0 s [] (fun _=>a) (by simp) (Nat.zero_le _) ⟨rfl,rfl,rfl,fun _=>rfl,fun _=>hs.tm.len,fun x t c v h1 h2=> .inl ⟨h1,h2⟩⟩ h
 have hX:=fM _ (fun _=>false) (fun i v w h=>by cases h) m0 (CG hC R') hB (j7 _ _ _ hrel);have hX:=B1 _ _ _ _ hX
 have hlen:0<l.length:=by
  rw [<-ri];simp only [gI,VS,decide_eq_true_eq,Vs] at hB
  have:=hB.1.1.2;omega
 obtain ⟨fuel,hf⟩: ∃fuel,l.length=fuel+1:=⟨l.length - 1,by omega⟩
 have hX2:lX (wpOpIn (WF f.r) 9 P l.toArray R') l.toArray (R' .normal) (fuel+1) (Array.replicate (fuel+1) false) a w.drew:=by
  rw [Vs,ri,hf] at hX;refine AJ hL hP fuel _ a _ (by simp [hf]) (by simp) ?_;obtain ⟨-, he, -,hrun⟩:=yj (P:=P) (Q:=R') (r:=f.r) (n:=9) hL;exact xH (st:=wpOpIn (WF f.r) 9 P l.toArray R') (fun i K K' a w h k=>wpOpIn_mono h k) fuel ((Array.replicate (fuel+1) false).setIfInBounds 0 true) _ _ (by simp) ((hrun _ _ _).1 (hX.2 0 (he l _ rfl (by simp))))
 refine Code.wpIn_mono (Q:=R') (fun e a w q=>by rw [hR'] at q;exact q.2) (wpIn_region_any hmx (ve _ _ _ _ ?_));rw [Vs,hf];exact hX2
end
section
variable {K:Type} [DecidableEq K] {enc:K->List AV} {ks:List FK}
def BH (ks:List FK) (enc:K->List AV):Prop:= ∀a b,ib ks (enc a) (enc b)=some (decide (a=b))
def bB (enc:K->List AV) (l:List (K×Int)):List (List AV):=l.map (fun p=>[.agg (enc p.1), .v (.int .i64 p.2)])
theorem jk (h:BH ks enc) (k:K): ∀l:List (K×Int),fZ ks (enc k) (bB enc l)=some ((bJ l k).map fun t=> .v (.int .i64 t))
 | []=>rfl
 | p :: l=>by
  rw [bB,WR,fZ,h k p.1,bJ]
  by_cases e:p.1=k
  ·rw [if_pos e,decide_eq_true e.symm];rfl
  ·rw [if_neg e,decide_eq_false (Ne.symm e)];exact jk h k l
theorem nW (h:BH ks enc) (k:K) (t:Int): ∀l:List (K×Int),iE ks (enc k) (.v (.int .i64 t)) (bB enc l)=some (bB enc (gx l k t))
 | []=>rfl
 | p :: l=>by
  rw [bB,WR,iE,h k p.1,gx]
  by_cases e:p.1=k
  ·rw [if_pos e,decide_eq_true e.symm];rfl
  ·rw [if_neg e,decide_eq_false (Ne.symm e)];show Option.map _ (iE ks (enc k) _ (bB enc l))=_;rw [nW h k t l];rfl
omit [DecidableEq K] in
theorem fD {n:Nat} (he: ∀k,bp n (enc k)=true): ∀l:List (K×Int),bZ n (bB enc l)=true
 | []=>rfl
 | p :: l=>by
  simp only [bB,WR,bZ,bp,AV.wf,he p.1,Bool.true_and,Wg];exact fD he l
end
theorem jw (a b:ByteArray):(a.toList==b.toList)=decide (a=b):=by
 rw [Xt,beq_iff_eq,decide_eq_true_eq];exact ⟨nn,fun h=>by rw [h]⟩
def bP (k:Nd):List AV:=[.v (.string k.1), .v (.int .i64 k.2)]
theorem GW:BH [.s, .s] aX:=fun a b=>by
 obtain ⟨a1,a2⟩:=a;obtain ⟨b1,b2⟩:=b;simp only [aX,ib,kv,jw,Wg,Ve];rw [Xt];simp
theorem pJ:BH [.s, .i] bP:=fun a b=>by
 obtain ⟨a1,a2⟩:=a;obtain ⟨b1,b2⟩:=b;simp only [bP,ib,kv,jw,Wg,if_true,Ve];rw [Xt];simp;intro _;omega
theorem M8 (l:List (K2×Int)) (k:K2) (t:Int):aK Tryz.prog 29 [.vec 0 0, .agg (aX k), .v (.int .i64 t)] [some ⟨70,0,false,bB aX l⟩] (.v (.bool (iH l k t))) [some ⟨70,0,false,bB aX (fm l k t)⟩]:=by
 have g1:=jk GW k l;have g2:=nW GW k t l;have g3:=GW k k;rw [decide_eq_true rfl] at g3;have eW: ∀l,bZ 1 (bB aX l)=true:=fD (fun _=>rfl)
 have tt:iD Tryz.prog 74=some [.s, .s]:=by kernel_rfl
 rw [fm];unfold iH
 cases hg:bJ l k with
 | none=>
  rw [hg] at g1;simp only [Option.map_none,if_true] at g1 ⊢;simp only [aX] at g1 g2 g3 ⊢
  (refine aK.enter Tryz.func29 rfl (by kernel_rfl) (by kernel_rfl) rfl ?_;simp only [Tryz.ntmps29,Tryz.results29,U9,U3,Nat.reduceAdd,Nat.reduceSub,WW,WX,WY,WZ])
  repeat (first|(with_reducible first|refine ag.up ?_|refine fun (K:AK) hK=> ?_|(refine hK _ ?_;clear hK K))|simp only [go_sem,g1,g2,g3,tt]|with_reducible refine wA ?_|clear hK K)
  (refine ⟨?_, ?_, ?_⟩<;>simp only [aW,aY,AV.v.injEq,Value.int.injEq,Value.bool.injEq,Value.string.injEq,AV.vec.injEq,AV.ptr.injEq,true_or,or_true,false_or,or_false,aa.mk.injEq,forall_eq_apply_imp_iff,forall_eq,forall_eq',go_sem])
  all_goals first|rfl|exact eW _|trace_state
 | some ku=>
  rw [hg] at g1;simp only [VB] at g1 ⊢
  by_cases ho:ku<t
  ·have d1:decide (t<=ku)=false:=decide_eq_false (by omega);simp only [decide_eq_true ho,if_true];simp only [aX] at g1 g2 g3 ⊢
   (refine aK.enter Tryz.func29 rfl (by kernel_rfl) (by kernel_rfl) rfl ?_;simp only [Tryz.ntmps29,Tryz.results29,U9,U3,Nat.reduceAdd,Nat.reduceSub,WW,WX,WY,WZ])
   repeat (first|(with_reducible first|refine ag.up ?_|refine fun (K:AK) hK=> ?_|(refine hK _ ?_;clear hK K))|simp only [go_sem,g1,g2,g3,tt,d1]|with_reducible refine wA ?_|clear hK K)
   (refine ⟨?_, ?_, ?_⟩<;>simp only [aW,aY,AV.v.injEq,Value.int.injEq,Value.bool.injEq,Value.string.injEq,AV.vec.injEq,AV.ptr.injEq,true_or,or_true,false_or,or_false,aa.mk.injEq,forall_eq_apply_imp_iff,forall_eq,forall_eq',go_sem])
   all_goals first|rfl|exact eW _|trace_state
  ·have d1:decide (t<=ku)=true:=decide_eq_true (by omega);simp only [decide_eq_false ho,if_false,Bool.false_eq_true];simp only [aX] at g1 g2 g3 ⊢
   (refine aK.enter Tryz.func29 rfl (by kernel_rfl) (by kernel_rfl) rfl ?_;simp only [Tryz.ntmps29,Tryz.results29,U9,U3,Nat.reduceAdd,Nat.reduceSub,WW,WX,WY,WZ])
   repeat (first|(with_reducible first|refine ag.up ?_|refine fun (K:AK) hK=> ?_|(refine hK _ ?_;clear hK K))|simp only [go_sem,g1,g2,g3,tt,d1]|with_reducible refine wA ?_|clear hK K)
   (refine ⟨?_, ?_, ?_⟩<;>simp only [aW,aY,AV.v.injEq,Value.int.injEq,Value.bool.injEq,Value.string.injEq,AV.vec.injEq,AV.ptr.injEq,true_or,or_true,false_or,or_false,aa.mk.injEq,forall_eq_apply_imp_iff,forall_eq,forall_eq',go_sem])
   all_goals first|rfl|exact eW _|trace_state
theorem M9 (l:List (Nd×Int)) (k:Nd) (t:Int):aK Tryz.prog 56 [.vec 0 0, .agg (bP k), .v (.int .i64 t)] [some ⟨108,0,false,bB bP l⟩] (.v (.bool (iH l k t))) [some ⟨108,0,false,bB bP (fm l k t)⟩]:=by
 have g1:=jk pJ k l;have g2:=nW pJ k t l;have g3:=pJ k k;rw [decide_eq_true rfl] at g3;have eW: ∀l,bZ 1 (bB bP l)=true:=fD (fun _=>rfl)
 have tt:iD Tryz.prog 79=some [.s, .i]:=by kernel_rfl
 rw [fm];unfold iH
 cases hg:bJ l k with
 | none=>
  rw [hg] at g1;simp only [Option.map_none,if_true] at g1 ⊢;simp only [bP] at g1 g2 g3 ⊢
  (refine aK.enter Tryz.func56 rfl (by kernel_rfl) (by kernel_rfl) rfl ?_;simp only [Tryz.ntmps56,Tryz.results56,U9,U3,Nat.reduceAdd,Nat.reduceSub,WW,WX,WY,WZ])
  repeat (first|(with_reducible first|refine ag.up ?_|refine fun (K:AK) hK=> ?_|(refine hK _ ?_;clear hK K))|simp only [go_sem,g1,g2,g3,tt]|with_reducible refine wA ?_|clear hK K)
  (refine ⟨?_, ?_, ?_⟩<;>simp only [aW,aY,AV.v.injEq,Value.int.injEq,Value.bool.injEq,Value.string.injEq,AV.vec.injEq,AV.ptr.injEq,true_or,or_true,false_or,or_false,aa.mk.injEq,forall_eq_apply_imp_iff,forall_eq,forall_eq',go_sem])
  all_goals first|rfl|exact eW _|trace_state
 | some ku=>
  rw [hg] at g1;simp only [VB] at g1 ⊢
  by_cases ho:ku<t
  ·have d1:decide (t<=ku)=false:=decide_eq_false (by omega);simp only [decide_eq_true ho,if_true];simp only [bP] at g1 g2 g3 ⊢
   (refine aK.enter Tryz.func56 rfl (by kernel_rfl) (by kernel_rfl) rfl ?_;simp only [Tryz.ntmps56,Tryz.results56,U9,U3,Nat.reduceAdd,Nat.reduceSub,WW,WX,WY,WZ])
   repeat (first|(with_reducible first|refine ag.up ?_|refine fun (K:AK) hK=> ?_|(refine hK _ ?_;clear hK K))|simp only [go_sem,g1,g2,g3,tt,d1]|with_reducible refine wA ?_|clear hK K)
   (refine ⟨?_, ?_, ?_⟩<;>simp only [aW,aY,AV.v.injEq,Value.int.injEq,Value.bool.injEq,Value.string.injEq,AV.vec.injEq,AV.ptr.injEq,true_or,or_true,false_or,or_false,aa.mk.injEq,forall_eq_apply_imp_iff,forall_eq,forall_eq',go_sem])
   all_goals first|rfl|exact eW _|trace_state
  ·have d1:decide (t<=ku)=true:=decide_eq_true (by omega);simp only [decide_eq_false ho,if_false,Bool.false_eq_true];simp only [bP] at g1 g2 g3 ⊢
   (refine aK.enter Tryz.func56 rfl (by kernel_rfl) (by kernel_rfl) rfl ?_;simp only [Tryz.ntmps56,Tryz.results56,U9,U3,Nat.reduceAdd,Nat.reduceSub,WW,WX,WY,WZ])
   repeat (first|(with_reducible first|refine ag.up ?_|refine fun (K:AK) hK=> ?_|(refine hK _ ?_;clear hK K))|simp only [go_sem,g1,g2,g3,tt,d1]|with_reducible refine wA ?_|clear hK K)
   (refine ⟨?_, ?_, ?_⟩<;>simp only [aW,aY,AV.v.injEq,Value.int.injEq,Value.bool.injEq,Value.string.injEq,AV.vec.injEq,AV.ptr.injEq,true_or,or_true,false_or,or_false,aa.mk.injEq,forall_eq_apply_imp_iff,forall_eq,forall_eq',go_sem])
   all_goals first|rfl|exact eW _|trace_state
end
section
open Go.ChangeMaps (setBlock)
section
variable {F:Fence} {n:Nat} {P:Program} {w:World} {ops:Array Oper} {rest:List Oper} {o:Oper} {a:Act} {Q:Exit->Act->World->Prop}
theorem vF (hg:o.guard=none) (m:Operand) (t k e:TypeId) (b:Nat) (es:Array MapEntry) (cl:Nat) (hop:o.op=Op.range t m) (ht:P.underlying t=some (.map k e)) (hm:a.eval m = .map (some b)) (hb:w.heap[b]? = some (.map es cl))
  (hK:wpListIn F n P ops Q rest (a.put o.dst (.pointer (some ⟨w.heap.size,0,none⟩))) (w.alloc (.mapIter (some b) cl #[] cl))):wpListIn F n P ops Q (o :: rest) a w:=by
 refine wpListIn_plain hg fun K' hK'=> ?_;unfold Oper.wpIn;refine ⟨by simp [Oper.about,hop], ?_⟩;rw [Oper.semAt_plain F _ _ (by rw [hop];intro c hc';cases hc')];simp [execOp,hop,hm,run_range_map w t k e b es cl ht hb,Result.andThen];exact hK' _ _ hK
theorem ya (hg:o.guard=none) (p:Operand) (t:TypeId) (v:Value) (hop:o.op=Op.load t p) (hrun:(Instr.loadAt t (a.eval p)).run P w = .ok v w) (hK:wpListIn F n P ops Q rest (a.put o.dst v) w):wpListIn F n P ops Q (o :: rest) a w:=by
 refine wpListIn_plain hg fun K' hK'=> ?_;unfold Oper.wpIn;refine ⟨by simp [Oper.about,hop], ?_⟩;rw [Oper.semAt_plain F _ _ (by rw [hop];intro c hc';cases hc')];simp [execOp,hop,hrun,Result.andThen];exact hK' _ _ hK
def Ou (es:Array MapEntry) (seen:Array Nat):Prop:=(leftOf es seen).size=0
def Ox (w:World) (r:Nat) (o':Obj) (w2:World):Prop:=w2=setBlock w r o'∨w2=setBlock w.drew r o'
def Ow (es:Array MapEntry) (seen:Array Nat) (e:MapEntry):Prop:=e∈(leftOf es seen).toList
theorem yb (hg:o.guard=none) (it:Operand) (hop:o.op=Op.next it false) (r bm since c0:Nat) (seen:Array Nat) (es:Array MapEntry) (cl:Nat) (hit:a.eval it = .pointer (some ⟨r,0,none⟩))
  (hr:w.heap[r]? = some (.mapIter (some bm) since seen c0)) (hb:w.heap[bm]? = some (.map es cl)) (hold: ∀x∈es.toList,x.born<since) (hsc:since<=c0)
  (hDone:Ou es seen->wpListIn F n P ops Q rest (a.put o.dst (.tuple #[.bool false])) w)
  (hMore: ∀(e:MapEntry) (w2:World),Ow es seen e->Ox w r (.mapIter (some bm) since (seen.push e.born) cl) w2->wpListIn F n P ops Q rest (a.put o.dst (.tuple #[.bool true,e.key,e.val])) w2) :
  wpListIn F n P ops Q (o :: rest) a w:=by
 refine wpListIn_plain hg fun K' hK'=> ?_;unfold Oper.wpIn;refine ⟨by simp [Oper.about,hop], ?_⟩;rw [Oper.semAt_plain F _ _ (by rw [hop];intro c hc';cases hc')]
 rcases run_next_at (P:=P) w o.type r bm since c0 seen es cl hr hb hold hsc with ⟨h0,hrun⟩|⟨e,he,w1,hw1,hrun⟩
 ·simp [execOp,hop,hit,hrun,Result.andThen];exact hK' _ _ (hDone h0)
 ·simp [execOp,hop,hit,hrun,Result.andThen];exact hK' _ _ (hMore e _ he (by rcases hw1 with rfl|rfl;exact .inl rfl;exact .inr rfl))
theorem vE (hg:o.guard=none) (it:Operand) (hop:o.op=Op.entry it) (r:Nat) (v:Value) (hit:a.eval it = .pointer (some ⟨r,0,none⟩)) (hrun:(Instr.entry (.pointer (some ⟨r,0,none⟩))).run P w = .ok v w)
  (hK:wpListIn F n P ops Q rest (a.put o.dst v) w):wpListIn F n P ops Q (o :: rest) a w:=by
 refine wpListIn_plain hg fun K' hK'=> ?_;unfold Oper.wpIn;refine ⟨by simp [Oper.about,hop], ?_⟩;rw [Oper.semAt_plain F _ _ (by rw [hop];intro c hc';cases hc')];simp [execOp,hop,hit,hrun,Result.andThen];exact hK' _ _ hK
end
def cL {α:Type} (l:List (α×MapEntry)) (seen:Array Nat):List (α×MapEntry):=l.filter (fun p=> !seen.contains p.2.born)
theorem rN {α:Type} {seen:Array Nat}: ∀ {l:List (α×MapEntry)},(l.map (fun p=>p.2.born)).Nodup-> ∀ {p:α×MapEntry},p∈l->seen.contains p.2.born=false->(cL l seen).Perm (p :: cL l (seen.push p.2.born))
 | [],_,p,h,_=>by cases h
 | q :: l,hn,p,h,hs=>by
  rw [WR,List.nodup_cons] at hn
  have push: ∀b,(seen.push p.2.born).contains b=(seen.contains b||b==p.2.born):=fun b=>by
   rw [Bool.eq_iff_iff];simp
  rcases List.mem_cons.1 h with rfl|h
  ·have e1:cL (p :: l) seen=p :: cL l seen:=by simp only [cL];rw [Xu (by rw [hs];rfl)]
   have e2:cL (p :: l) (seen.push p.2.born)=cL l (seen.push p.2.born):=by simp only [cL];rw [Xv (by rw [push];simp)]
   have e3:cL l (seen.push p.2.born)=cL l seen:=by
    refine List.filter_congr fun q hq=> ?_
    have:q.2.born≠p.2.born:=fun e=>hn.1 (e ▸ List.mem_map.2 ⟨q,hq,rfl⟩)
    rw [push];simp [this]
   rw [e1,e2,e3]
  ·have hne:q.2.born≠p.2.born:=fun e=>hn.1 (e ▸ List.mem_map.2 ⟨p,h,rfl⟩);have ih:=rN hn.2 h hs
   by_cases hq:seen.contains q.2.born=true
   ·have e1:cL (q :: l) seen=cL l seen:=by simp only [cL];rw [Xv (by rw [hq];simp)]
    have e2:cL (q :: l) (seen.push p.2.born)=cL l (seen.push p.2.born):=by simp only [cL];rw [Xv (by rw [push,hq];simp)]
    rw [e1,e2];exact ih
   ·rw [Bool.not_eq_true] at hq
    have e1:cL (q :: l) seen=q :: cL l seen:=by simp only [cL];rw [Xu (by rw [hq];rfl)]
    have e2:cL (q :: l) (seen.push p.2.born)=q :: cL l (seen.push p.2.born):=by simp only [cL];rw [Xu (by rw [push,hq];simp [hne])]
    rw [e1,e2];exact (ih.cons q).trans (.swap _ _ _)
theorem Ep {α:Type} {seen:Array Nat} {l:List (α×MapEntry)} (h: ∀p∈l,seen.contains p.2.born=true):cL l seen=[]:=by
 rw [cL,List.filter_eq_nil_iff];intro p hp;rw [h p hp];simp
theorem C7 {α β:Type}: ∀ {l:List α} {m:List β},l.length=m.length->(l.zip m).map Prod.snd=m
 | [],[],_=>rfl
 | a :: l,b :: m,h=>by simp [C7 (by simpa using h)]
theorem zip_fst {α β:Type}: ∀ {l:List α} {m:List β},l.length=m.length->(l.zip m).map Prod.fst=l
 | [],[],_=>rfl
 | a :: l,b :: m,h=>by simp [zip_fst (by simpa using h)]
theorem zA.trans {X:Nat->Prop} {a b c:World} (h:zA X a b) (k:zA X b c):zA X a c:=⟨k.os.trans h.os,k.tape.trans h.tape,k.output.trans h.output,Nat.le_trans h.size k.size,fun i hi hx=>(k.same i (Nat.lt_of_lt_of_le hi h.size) hx).trans (h.same i hi hx)⟩
theorem tF {X:Nat->Prop} (w:World) (o:Obj):zA X w (w.alloc o):=⟨rfl,rfl,rfl,by simp,fun b hb _=>(MapKept.heap_alloc w o).2 b hb⟩
theorem BS {X:Nat->Prop} (w:World) {r:Nat} (o:Obj) (h:X r):zA X w (setBlock w r o):=⟨rfl,rfl,rfl,by simp [setBlock],fun b hb hx=>by
 show (w.heap.setIfInBounds r o)[b]? = _;have hne:r≠b:=fun e=>hx (by rw [<-e];exact h)
 rw [Xw hne]⟩
theorem FH {X:Nat->Prop} (w:World):zA X w w.drew:=⟨rfl,rfl,rfl,UZ _,fun _ _ _=>rfl⟩
def GX (k:K2):Value:= .agg #[.string k.1, .string k.2]
theorem GZ (l:List (K2×Int)):zD true Tryz.prog 99 [.vp [.mp (bB aX l)]] [] (l.map fun p=>[.agg (aX p.1)]):=by
 refine ⟨by kernel_rfl,fun lb pr hperm D nu w vargs X hro ha hx hx' hD hSt hJ=> ?_⟩;have hX: ∀b, ¬X b:=fun b h=>bd _ _ (hx' b h);obtain ⟨x,rfl,hxr⟩:=di ha;obtain ⟨m0,hld,hm⟩:=lI (P:=Tryz.prog) (T:=70) hro hxr (r:= .mp (bB aX l)) rfl trivial
 obtain ⟨bm,es,cl,rfl,hbm,hblk,hsz,hborn,hrise,hkey⟩: ∃bm es cl,m0 = .map (some bm)∧Fz D nu [] w bm∧w.heap[bm]? = some (.map es cl)∧es.size=l.length∧(∀x∈es.toList,x.born<cl)∧(es.toList.map (·.born)).Nodup∧ ∀p∈l.zip es.toList,p.2.key=GX p.1.1:=by
  cases hm with
  | mp _ b es cl h1 h2 h3 h4 h5 h6 h7=>
   have h3':es.size=l.length:=by simpa [bB] using h3
   refine ⟨b,es,cl,rfl,h1,h2,h3',fun x hx=> ?_, ?_,fun p hp=> ?_⟩
   ·obtain ⟨i,hi,rfl⟩:=Xx hx;exact h5 i _ (by simp at hi ⊢)
   ·rw [List.nodup_iff_pairwise_ne,List.pairwise_map,List.pairwise_iff_getElem];intro i j hi hj hij
    have:=h6 i j _ _ (Vh (by simpa using hi)) (Vh (by simpa using hj)) hij
    simp only [Array.getElem_toList];omega
   ·obtain ⟨i,hi,rfl⟩:=Xx hp;rw [List.getElem_zip]
    have hi1:i<l.length:=by simp at hi;omega
    have hi2:i<es.size:=by omega
    have:=h7 i 0 _ _ _ (show (bB aX l)[i]? = some [.agg (aX l[i].1), .v (.int .i64 l[i].2)] by simp [bB,hi1]) rfl (Vh hi2)
    have e:=ic (xs:=[.string l[i].1.1, .string l[i].1.2]) this;simpa [GX,LF] using e
 have hbmD:bm<w.heap.size:=hbm.1;have hStb:pr.St bm:=(hD bm hbm.1 hbm.2.2).resolve_left (hX bm)
 have hzl:l.length=es.toList.length:=by simpa using hsz.symm
 have hzn:((l.zip es.toList).map (fun p=>p.2.born)).Nodup:=by
  have:=C7 hzl
  rw [show (l.zip es.toList).map (fun p=>p.2.born)=((l.zip es.toList).map Prod.snd).map (·.born) by simp,this];exact hborn |> fun _=>hrise
 have hJ0:pr.J ((cL (l.zip es.toList) #[]).map fun p=>[.agg (aX p.1.1)]) X X w:=by
  have e:cL (l.zip es.toList) #[]=l.zip es.toList:=by rw [cL,List.filter_eq_self];intro p hp;simp
  rw [e,show (l.zip es.toList).map (fun p=>[AV.agg (aX p.1.1)])=((l.zip es.toList).map Prod.fst).map fun p=>[AV.agg (aX p.1)] by simp,zip_fst hzl];exact hJ
 refine qW (n:=9) (callsIn_of_wp Tryz.func99 rfl trivial ?_ rfl);simp only [Tryz.ntmps99,List.size_toArray,List.length_cons,List.length_nil,Nat.reduceAdd,Nat.reduceSub,Array.replicate_succ,Array.replicate_zero,List.push_toArray,List.append_toArray,WZ,List.cons_append];have HJ:=Lib.hid hJ0;have HP:=Lib.hid (hperm rfl);have HST:=Lib.hid hStb;clear hJ hJ0 hperm hStb;have hwf:(WF none).round=none:=rfl
 have uM:Tryz.prog.underlying 70=some (.map 74 3):=by kernel_rfl
 clear hro ha hx hx' hxr hm
 gi_wp2_with (first|refine ya rfl _ _ _ rfl hld ?_|refine vF rfl _ _ _ _ bm es cl rfl uM rfl hblk ?_)
 have hW1:zA X w (w.alloc (.mapIter (some bm) cl #[] cl)):=tF w _;have hR1:(w.alloc (.mapIter (some bm) cl #[] cl)).heap[w.heap.size]? = some (.mapIter (some bm) cl #[] cl):=(MapKept.heap_alloc w _).1;have hM1:(w.alloc (.mapIter (some bm) cl #[] cl)).heap[bm]? = some (.map es cl):=((MapKept.heap_alloc w _).2 bm hbmD).trans hblk;have HJ1:=Lib.hid (pr.ma HJ.out hW1 (X':=fun b=>b=w.heap.size) (fun b hb=>by subst hb;exact ⟨by simp, .inr (UZ _)⟩))
 have hz1:(w.alloc (.mapIter (some bm) cl #[] cl)).heap.size=w.heap.size+1:=by simp
 generalize hw1:w.alloc (.mapIter (some bm) cl #[] cl)=w1 at *;clear hw1 hW1 HJ hld
 go_frame
 gi_loopw [3] (fun _ wr=> ∃(seen:Array Nat) (c0:Nat) (T:Nat->Prop),wr.heap[w.heap.size]? = some (.mapIter (some bm) cl seen c0)∧wr.heap[bm]? = some (.map es cl)∧cl<=c0∧T w.heap.size∧pr.J ((cL (l.zip es.toList) seen).map fun p=>[AV.agg (aX p.1.1)]) (fun b=>b=w.heap.size) T wr)
  (fun _ wr=>match wr.heap[w.heap.size]? with|some (.mapIter _ _ seen _)=>(leftOf es seen).size|_=>0)
 case atStart=>
  exact ⟨#[],cl,_,hR1,hM1,UZ _, .inr ⟨UZ _,by omega⟩,HJ1.out⟩
 case round=>
  obtain ⟨seen,c0,T,hr,hb,hc,hT,hj⟩:=hrel;have HJR:=Lib.hid hj;clear hj HJ1
  gi_wp2_with (refine yb rfl _ rfl _ bm cl c0 seen es cl rfl hr hb hborn hc ?_ ?_)
  ·intro h0
   gi_wp2_with fail
   go_end0
   have hnil:cL (l.zip es.toList) seen=[]:=Ep fun p hp=>all_seen es seen h0 p.2 (List.of_mem_zip hp).2;have hje:=HJR.out;rw [hnil,List.map_nil] at hje;exact ⟨⟨_,rfl⟩,_,_, .inl hje⟩
  ·intro e w2 he hw2;obtain ⟨hee,hes⟩:=mem_left he;obtain ⟨i,hi,hie⟩:=Xx hee
   have hil:i<l.length:=by omega
   have hpz:(l[i],e)∈l.zip es.toList:=by
    refine List.mem_iff_getElem.2 ⟨i,by simp;omega, ?_⟩;rw [List.getElem_zip,hie]
   have hk:=hkey _ hpz
   have hs2:w2.heap.size=wr.heap.size:=by rcases hw2 with rfl|rfl<;>simp [setBlock]
   have hrs:w.heap.size<wr.heap.size:=(U2.1 hr).1
   have hr2:w2.heap[w.heap.size]? = some (.mapIter (some bm) cl (seen.push e.born) cl):=by
    rcases hw2 with rfl|rfl<;>simp [setBlock,hrs]
   have hb2:w2.heap[bm]? = some (.map es cl):=by
    have hne:w.heap.size≠bm:=by omega
    rcases hw2 with rfl|rfl<;>(show (wr.heap.setIfInBounds _ _)[bm]? = _;rw [Xw hne];exact hb)
   have ha2:zA (fun b=>b=w.heap.size) wr w2:=by
    rcases hw2 with rfl|rfl
    ·exact BS _ _ rfl
    ·exact (FH wr).trans (BS _ _ rfl)
   have hrun:=run_entry_at (P:=Tryz.prog) w2 w.heap.size bm cl seen es cl e hr2 hb2 hee hrise;have hj1:=HP.out _ _ _ _ _ ((rN hzn hpz hes).map fun p=>[AV.agg (aX p.1.1)]) HJR.out;rw [WR] at hj1;have hlt:=left_shrinks es seen e he;have HJ2:=Lib.hid hj1;have HA2:=Lib.hid ha2;have HS2:=Lib.hid hs2;have HR2:=Lib.hid hr2;have HB2:=Lib.hid hb2;clear hj1 ha2 hw2 he HJR hs2 hr2 hb2;rw [hk] at hrun ⊢;simp only [GX] at hrun ⊢;generalize l[i].1=k at *
   obtain ⟨hA3,hR3,hM3,hz3⟩:zA (fun b=>b=w.heap.size) wr (w2.alloc (.cells #[.string k.1, .string k.2] 74))∧(w2.alloc (.cells #[.string k.1, .string k.2] 74)).heap[w.heap.size]? = some (.mapIter (some bm) cl (seen.push e.born) cl)∧(w2.alloc (.cells #[.string k.1, .string k.2] 74)).heap[bm]? = some (.map es cl)∧wr.heap.size<(w2.alloc (.cells #[.string k.1, .string k.2] 74)).heap.size:=by
    have:=HS2.out
    exact ⟨HA2.out.trans (tF _ _),((MapKept.heap_alloc _ _).2 _ (by omega)).trans HR2.out,((MapKept.heap_alloc _ _).2 _ (by omega)).trans HB2.out,by simp;omega⟩
   have hj3:=pr.ma HJ2.out hA3 (X':=fun b=>b=w.heap.size) (fun b hb=>by subst hb;exact ⟨by omega, .inl rfl⟩)
   obtain ⟨fn,tmps,assign,body,hy,hR⟩:=pr.round (x:=[.agg (aX k)]) (D:=fun _=>False) (nu:=nu) (vals:= #[.agg #[.string k.1, .string k.2]]) hj3 ⟨rfl,fun i c x h1 h2=>by
    match i,h1,h2 with
    | 0,h1,h2=>cases h1;cases h2;exact .agg _ _ rfl (fun j c x q1 q2=>by
     match j,q1,q2 with
     | 0,q1,q2=>cases q1;cases q2;exact .v _
     | 1,q1,q2=>cases q1;cases q2;exact .v _
     | j+2,q1,q2=>simp [aX] at q1) (fun j x q=>by
     match j,q with
     | 0,q=>cases q;rfl
     | 1,q=>cases q;rfl
     | j+2,q=>simp at q)
    | i+1,h1,h2=>simp at h1⟩ rfl (fun b _ h=>h.elim)
   have HR:=Lib.hid hR;have HR3:=Lib.hid hR3;have HRR:=Lib.hid hr;have HM3:=Lib.hid hM3;have HZ3:=Lib.hid hz3;clear hR hR3 hM3 hz3 hj3 hA3 hr hb HA2 HB2 HR2 HS2 HJ2
   gi_wp2_with (refine vE rfl _ rfl _ _ rfl hrun ?_)
   clear hrun;refine HR.out.mono ?_
   rintro e2 w4 ⟨hk4,⟨rfl,hj4⟩|⟨rfl,hj4⟩⟩
   ·have HJ4:=Lib.hid hj4;have HK4:=Lib.hid hk4;clear hj4 hk4 hy
    gi_wp2_with fail
    go_roundw
    case rel=>
     have hk4:=HK4.out
     have:=HZ3.out
     refine ⟨seen.push e.born,cl,_,(hk4.same _ (by omega) (.inl (.inl hT))).trans HR3.out,(hk4.same _ (by omega) (.inr HST.out)).trans HM3.out,UZ _, .inl hT,HJ4.out⟩
    case measure=>
     have hk4:=HK4.out
     have:=HZ3.out
     rw [HRR.out,(hk4.same _ (by omega) (.inl (.inl hT))).trans HR3.out];exact hlt
   ·have HJ4:=Lib.hid hj4;clear hj4 hk4 hy
    gi_wp2_with fail
    refine bodyPost_ret (results_none rfl _ _ _) rfl ?_;exact ⟨⟨_,rfl⟩,_,_, .inr HJ4.out⟩
mutual
theorem we {f:Nat->Nat} {m:Nat} (hf: ∀k,k<m->f k=k): ∀a:AV,a.wf m=true->a.aV f=a
 | .undef,_=>rfl
 | .v _,_=>rfl
 | .agg cs,h=>by rw [AV.aV,iQ hf cs h]
 | .cy cs,h=>by rw [AV.aV,iQ hf cs h]
 | .aH z rows len,h=>by rw [AV.aV,qu hf rows h]
 | .vp cs,h=>by rw [AV.aV,iQ hf cs h]
 | .ptr id _ _ _ _,h=>by simp [AV.wf] at h;rw [AV.aV,hf id h]
 | .vec id _,h=>by simp [AV.wf] at h;rw [AV.aV,hf id h]
 | .fn g a b,h=>by
  simp only [AV.wf,VS] at h;rw [AV.aV,iQ hf a h.1,iQ hf b h.2]
 | .full a,h=>by rw [AV.aV,we hf a h]
 | .gu p a,h=>by rw [AV.aV,we hf a h]
 | .mp rows,h=>by rw [AV.aV,qu hf rows h]
theorem iQ {f:Nat->Nat} {m:Nat} (hf: ∀k,k<m->f k=k): ∀l:List AV,bp m l=true->bw f l=l
 | [],_=>rfl
 | a :: l,h=>by
  simp only [bp,VS] at h;rw [bw,we hf a h.1,iQ hf l h.2]
theorem qu {f:Nat->Nat} {m:Nat} (hf: ∀k,k<m->f k=k): ∀l:List (List AV),bZ m l=true->bu f l=l
 | [],_=>rfl
 | a :: l,h=>by
  simp only [bZ,VS] at h;rw [bu,iQ hf a h.1,qu hf l h.2]
end
theorem vT {f:Nat->Nat} {m:Nat} (hf: ∀k,k<m->f k=k): ∀l:List (Option aa),(∀ob,some ob∈l->bZ m ob.rows=true)->l.map (Option.map (aa.aV f))=l
 | [],_=>rfl
 | none :: l,h=>by rw [WR,vT hf l (fun ob hb=>h ob (V2 _ hb))];rfl
 | some ob :: l,h=>by
  rw [WR,vT hf l (fun ob hb=>h ob (V2 _ hb)),Option.map_some,aa.aV,qu hf _ (h ob List.mem_cons_self)]
theorem yC (f:Nat->Nat): ∀(l X pre post:List (Option aa)),l.length=X.length->dW f (List.range' pre.length l.length) l (pre++X++post)=pre++l.map (Option.map (aa.aV f))++post
 | [],[],pre,post,_=>by simp [dW]
 | [],_ :: _,_,_,h=>by simp at h
 | _ :: _,[],_,_,h=>by simp at h
 | a :: l,b :: X,pre,post,h=>by
  rw [List.length_cons,List.range'_succ,dW]
  have e1:(pre++b :: X++post).set pre.length (a.map (aa.aV f))=(pre++[a.map (aa.aV f)])++X++post:=by
   rw [List.append_assoc,List.set_append_right _ _ (UZ _),Nat.sub_self,List.cons_append,List.set_cons_zero];simp
  rw [e1]
  have:=yC f l X (pre++[a.map (aa.aV f)]) post (by simpa using h)
  rw [List.length_append,List.length_singleton] at this;rw [this];simp
theorem ab.sub {P:Program} {f:FuncId} {args:List AV} {o0 o1 post:List (Option aa)} {r0:AV} {K:AV->List (Option aa)->Prop} (h:aK P f args o0 r0 o1) (hl:o1.length=o0.length)
  (hwa:bp o0.length args=true) (hw0: ∀ob,some ob∈o0->bZ o0.length ob.rows=true) (hw1: ∀ob,some ob∈o1->bZ o0.length ob.rows=true) (hr:r0.wf o0.length=true) (k:K r0 (o1++post)):ab P f args (o0++post) K:=by
 have hs: ∀j,j<o0.length->sig (List.range' 0 o0.length) (o0++post).length j=j:=fun j hj=>by
  rw [sig,if_pos (by simpa using hj),List.getD_eq_getElem?_getD,List.getElem?_range' hj];simp
 refine ab.fr (List.range' 0 o0.length) h List.nodup_range' ?_ (iQ hs _ hwa).symm (by rw [List.length_range'];exact hwa) (fun j ob hj=>by rw [List.length_range'];exact hw0 ob (List.mem_of_getElem? hj)) ?_
 ·have e:o0.map (fun x=>some (x.map (aa.aV (sig (List.range' 0 o0.length) (o0++post).length))))=o0.map some:=by
   have h1:o0.map some=(o0.map (Option.map (aa.aV (sig (List.range' 0 o0.length) (o0++post).length)))).map some:=by rw [vT hs o0 hw0]
   rw [h1,List.map_map];rfl
  rw [e];refine List.ext_getElem (by simp) fun j h1 h2=> ?_
  have hj:j<o0.length:=by simpa using h2
  simp only [List.getElem_map,List.getElem_range',Nat.zero_add,Nat.one_mul];rw [List.getElem?_append_left hj,Vi hj]
 ·have e:=yC (sig (List.range' 0 o0.length) (o0++post).length) o1 o0 [] post hl;rw [List.length_nil,hl,WZ,WZ] at e;rw [e,we hs r0 hr,vT hs o1 hw1];exact k
section
variable {D:Nat->Prop} {nu:Nat->Nat->Value} {o:List (Option aa)} {w:World} {P:Program}
theorem lr {s:AS} {k i j id len:Nat} {ob ob2:aa} {row:List AV} (hne:id≠k) (hk:s.o[k]? = some (some ob)) (hz:0<ob.z) (hr:ob.rows[i]? = some row) (hj:row[j]? = some (.vec id len)) (ho:s.o[id]? = some (some ob2)) (hv:ob2.du=true) (hl:ob2.rows.length=len) :
  w8 s (AS.mk s.t ((s.o.set id none).set k (some { ob with rows:=ob.rows.set i (row.set j (.aH ob2.z ob2.rows len)) })) s.y):=by
 intro f D nu a w hs;have hp:=cH (nu:=nu) (o:=s.o) (w:=w) id;have hro:=iN hs.ro id
 have hk':(s.o.set id none)[k]? = some (some ob):=by rw [Vp hne];exact hk
 have hh:ob.hl=({ ob with rows:=ob.rows.set i (row.set j (.aH ob2.z ob2.rows len)) }:aa).hl:=by simp [aa.hl]
 obtain ⟨g,cur,hb⟩: ∃g cur,sO D nu (s.o.set id none) w k ob g cur:=by
  rcases hro.obj k ob hk' with ⟨_,e,_⟩|h|⟨g,es,cl,hm⟩
  ·rw [e] at hr;simp at hr
  ·exact h
  ·have:=hm.z;omega
 have hm:=gn (nu:=nu) (o:=s.o.set id none) (w:=w) (w':=w) (ob':={ ob with rows:=ob.rows.set i (row.set j (.aH ob2.z ob2.rows len)) }) hk' hh.symm hb.bg rfl rfl rfl rfl (fun _ _=>rfl);refine ⟨nu,hp.trans hm,rfl, ?_,(hs.tm.mono hp (fun _ _ h=>h)).mono hm (fun _ _ h=>h),hs.iB⟩;have hil:=(U4.1 hr).1;have hjl:=(U4.1 hj).1;have hsl:=kf hs.ro ho hv;rw [hl] at hsl
 have key: ∀(i' j':Nat) r c,(ob.rows.set i (row.set j (.aH ob2.z ob2.rows len)))[i']? = some r->r[j']? = some c-> ∃r0 c0,ob.rows[i']? = some r0∧r0[j']? = some c0∧(c=c0∨(c = .aH ob2.z ob2.rows len∧c0 = .vec id len)):=by
  intro i' j' r c h1 h2
  by_cases hi:i=i'
  ·subst hi;rw [Vq hil] at h1;cases h1
   by_cases hj':j=j'
   ·subst hj';rw [Vq hjl] at h2;cases h2;exact ⟨row,_,hr,hj, .inr ⟨rfl,rfl⟩⟩
   ·rw [Vp hj'] at h2;exact ⟨row,c,hr,h2, .inl rfl⟩
  ·rw [Vp hi] at h1;exact ⟨r,c,h1,h2, .inl rfl⟩
 refine mR hro hk' hh.symm hb.bg hm (fun _ _=>rfl) (cur:=cur) ⟨hb.blk,hb.ko,fun hv'=> ?_,fun hv'=> ?_,hb.z,fun i' r hi'=> ?_,fun i' j' r c x h1 h2 h3=> ?_,fun i' j' r c x h1 h2 h3=> ?_⟩
 ·obtain ⟨q1,q2,q3⟩:=hb.box hv';exact ⟨q1,by simpa using q2,q3⟩
 ·obtain ⟨cap,q1,q2,q3,q4⟩:=hb.vec hv';exact ⟨cap,by simpa using q1,by simpa using q2,q3,q4⟩
 ·by_cases hi:i=i'
  ·subst hi;rw [Vq hil] at hi';cases hi';rw [List.length_set];exact hb.row i row hr
  ·rw [Vp hi] at hi';exact hb.row i' r hi'
 ·obtain ⟨r0,c0,k1,k2,e⟩:=key i' j' r c h1 h2;have h0:=hb.cell i' j' r0 c0 x k1 k2 h3
  rcases e with rfl|⟨rfl,rfl⟩
  ·exact h0.mono hm (fun _ _ h=>h)
  ·have hx:x=nu id len:=by
    cases h0 with
    | vec=>rfl
   rw [hx];exact hsl.mono hm (fun _ _ h=>h)
 ·obtain ⟨r0,c0,k1,k2,_⟩:=key i' j' r c h1 h2;exact hb.one i' j' r0 c0 x k1 k2 h3
end
section
variable {o:List (Option aa)}
end
def Pm (N:Nat) (g:Nat->Bool):List (List AV):=(List.range N).map (fun j=>[.v (.bool (g j))])
def R8 (N:Nat) (f:Nat->Nat->Bool):List (List AV):=(List.range N).map (fun i=>[.aH 1 (Pm N (f i)) N])
def UJ (k i:Nat):Nat:=k+1+2 * i
def vW (k N m:Nat):List (List AV):=(List.range m).map (fun i=>[.vec (UJ k i) N])
def Sc (N:Nat) (g:Nat->Bool):Option aa:=some ⟨4,1,true,Pm N g⟩
def OZ (N:Nat) (f:Nat->Nat->Bool) (m:Nat):List (Option aa):=(List.range m).flatMap (fun i=>[Sc N (f i),none])
def Uy (k N m:Nat) (f:Nat->Nat->Bool):List (Option aa):=some ⟨121,1,true,vW k N m⟩ :: OZ N f m
theorem K0 (N:Nat) (g:Nat->Bool):(Pm N g).length=N:=by simp [Pm]
theorem KA (N:Nat) (f:Nat->Nat->Bool):(R8 N f).length=N:=by simp [R8]
theorem yu (k N m:Nat):(vW k N m).length=m:=by simp [vW]
def US (f:Nat->Nat->Bool) (i j:Nat) (v:Bool):Nat->Nat->Bool:=fun p q=>if p=i∧q=j then v else f p q
theorem IU (n N:Nat) (g:Nat->Bool):bZ n (Pm N g)=true:=aZ _ (fun _=>rfl) _
theorem NF (n N:Nat) (f:Nat->Nat->Bool):bZ n (R8 N f)=true:=aZ _ (fun i=>by simp only [bp,AV.wf,IU,Bool.and_self]) _
attribute [go_sem] IU NF K0 KA yu
section
variable {o:List (Option aa)} {P:Program}
theorem cB.v (x:Value):cB o (.v x) (.v x):=fun D nu w y hro hra=>by rw [hra.b5];exact .v x
theorem cB.cy {l m:List AV} (h:sU o l m):cB o (.cy l) (.cy m):=fun D nu w x hro hra=>by
 obtain ⟨h1,h2⟩:=h.at'
 cases hra with
 | cy _ xs k1 k2=>
  refine .cy _ _ (by omega) fun i c y q1 q2=> ?_
  have hi:i<l.length:=by rw [h1];exact (U4.1 q1).1
  exact h2 i _ c (Vi hi) q1 D nu w y hro (k2 i _ y (Vi hi) q2)
theorem cB.ptr {id z:Nat} {ob:aa} {row cs:List AV} (ho:o[id]? = some (some ob)) (hv:ob.du=false) (hr:ob.rows=[row]) (hz:ob.z≠0) (h:sU o row cs):cB o (.ptr id 0 z 0 0) (.vp cs):=fun D nu w x hro hra=>by
 obtain ⟨hl,hall⟩:=h.at'
 cases hra with
 | ptr _ _ _ _ _ b h1 h2=>
 rcases hro.obj id ob ho with ⟨e1,e2,e3⟩|⟨g,cur,hb⟩|⟨g,es,cl,hmp⟩
 ·rw [e2] at hr;cases hr
 ·have hb0:=hb.nj;rw [aa.hl,hv,if_neg (by decide)] at hb0;rw [hb0] at h2;cases h2
  have hrow:ob.rows[0]? = some row:=by rw [hr];rfl
  have hget: ∀(j:Nat) c,cs[j]? = some c-> ∃c0,row[j]? = some c0∧cur[0 * ob.z+j]? = some (cur.getD (0 * ob.z+j) Go.undef):=fun j c hc=>by
   have hj:j<row.length:=by rw [hl];exact (U4.1 hc).1
   have:=hb.nt hrow hj
   refine ⟨_,Vi hj, ?_⟩;rw [Vh this,Array.getD,dif_pos this]
   rfl
  refine .vp _ b _ (fun j=>cur.getD (0 * ob.z+j) Go.undef) ⟨(U2.1 hb.blk).1,bd _ _,hb.ko⟩ (fun j c hc=> ?_) (fun j c hc=> ?_) (fun j c hc=> ?_)
  all_goals obtain ⟨c0,k1,k2⟩:=hget j c hc
  ·have hblk:=hb.blk;simp only [Nat.zero_mul,Nat.zero_add] at k2 ⊢;rw [<-k2];simp [World.cell?,hblk]
  ·exact hall j c0 c k1 hc D nu w _ hro (hb.cell 0 j row c0 _ hrow k1 k2)
  ·exact hb.one 0 j row c0 _ hrow k1 k2
 ·exact absurd hmp.z hz
theorem ah.oT {f:FuncId} {fn:Func} {c:Code} {args:List AV} {r:AV} (hf:P.funcs[f]? = some fn) (hb:fn.body=some c) (hc:df P f=true) (hok:bq c=true) (hmx:P.follows .mixedOrders=true)
  (ha:bp 0 args=true) (hr:r.wf 0=true) (h:bS P 0 c ⟨args++List.replicate (fn.ntmps - args.length) .undef,[], .no⟩ (wT P fn.results.toList (fun r0 o=>cB o r0 r))):ah P f args r:=by
 obtain ⟨_,h2⟩:=eV.enter (o:=[]) hf hb hc hok hmx h;refine ⟨⟨ha,hr⟩,hc,fun D nu w vargs hro hra=>(h2 D nu w vargs hro hra).mono ?_⟩;rintro e w' ⟨v,nu',o',r0,rfl,hm,hro',hra',hz⟩;have hm':bt nu [] w nu' [] w':=⟨hm.os,hm.tape,hm.output,hm.size,fun id len hh=>by obtain ⟨x,k,_⟩:=hh;simp at k,fun b hb ho=>⟨(hm.keep b hb ho).1,bd _ _⟩⟩;exact ⟨v,nu',[],r,rfl,hm',(.nil _ _ _ hro'.up (hro'.gl.nil (fun _ _ h=>h))),hz _ _ _ _ hro' hra',rfl,rfl⟩
end
mutual
theorem Be {f g:Nat->Nat} {m:Nat} (hf: ∀k,k<m->f k=g k): ∀a:AV,a.wf m=true->a.aV f=a.aV g
 | .undef,_=>rfl
 | .v _,_=>rfl
 | .agg cs,h=>by rw [AV.aV,AV.aV,j8 hf cs h]
 | .cy cs,h=>by rw [AV.aV,AV.aV,j8 hf cs h]
 | .aH z rows len,h=>by rw [AV.aV,AV.aV,wb hf rows h]
 | .vp cs,h=>by rw [AV.aV,AV.aV,j8 hf cs h]
 | .ptr id _ _ _ _,h=>by simp [AV.wf] at h;rw [AV.aV,AV.aV,hf id h]
 | .vec id _,h=>by simp [AV.wf] at h;rw [AV.aV,AV.aV,hf id h]
 | .fn g a b,h=>by
  simp only [AV.wf,VS] at h;rw [AV.aV,AV.aV,j8 hf a h.1,j8 hf b h.2]
 | .full a,h=>by rw [AV.aV,AV.aV,Be hf a h]
 | .gu p a,h=>by rw [AV.aV,AV.aV,Be hf a h]
 | .mp rows,h=>by rw [AV.aV,AV.aV,wb hf rows h]
theorem j8 {f g:Nat->Nat} {m:Nat} (hf: ∀k,k<m->f k=g k): ∀l:List AV,bp m l=true->bw f l=bw g l
 | [],_=>rfl
 | a :: l,h=>by
  simp only [bp,VS] at h;rw [bw,bw,Be hf a h.1,j8 hf l h.2]
theorem wb {f g:Nat->Nat} {m:Nat} (hf: ∀k,k<m->f k=g k): ∀l:List (List AV),bZ m l=true->bu f l=bu g l
 | [],_=>rfl
 | a :: l,h=>by
  simp only [bZ,VS] at h;rw [bu,bu,j8 hf a h.1,wb hf l h.2]
end
theorem cB.Sg {o:List (Option aa)} {z len:Nat} {rows:List (List AV)} (h:bZ 0 rows=true):cB o (.aH z rows len) (.aH z rows len):=cB.of 1 (p:=(AV.aH z rows len).wf 0=true) (by rw [fK]<;>simp) (by rw [AV.wf];exact h)
theorem cB.ND {o:List (Option aa)} {id len:Nat} {ob:aa} (ho:o[id]? = some (some ob)) (hv:ob.du=true) (hl:ob.rows.length=len) (hw:bZ 0 ob.rows=true):cB o (.vec id len) (.aH ob.z ob.rows len):=cB.of 1 (p:=ob.du=true∧ob.rows.length=len∧bZ 0 ob.rows=true) (by rw [fK,ho]) ⟨hv,hl,hw⟩
end
section
theorem zR {P:Program} {n0:Nat} {Q:aR->AS->Prop} {t:List AV} {o:List (Option aa)} {y:iW} {g:Operand} {ps:Array Tmp} {assign body:Code} {gf:FuncId} {caps:List AV} {L:List (List AV)} (hseq:zD true P gf caps [] L) (m:Nat) (O:List (List AV)->List (Option aa)) (ok:List (List AV)->Prop) (h0:ok [])
  (hg:(AS.mk t o y).ev g = .fn gf [] caps) (hcaps:bp 0 caps=true) (hwk:Wk n0 ⟨t,o,y⟩ ⟨cf m t,O [],y⟩) (hA:bq assign=true) (hB:bq body=true) (har: ∀x,x∈L->x.length=ps.size)
  (hround: ∀vis x rest,ok vis->(vis++x :: rest).Perm L->bS P (O []).length assign ⟨eH ps.toList x (cf m t),O vis,y⟩ (jB P (O []).length body (ki (O []).length (cf m t) (ok (vis++[x])) (O (vis++[x])) y Q)))
  (hfin: ∀vis,vis.Perm L->ok vis->Q .normal ⟨cf m t,O vis,y⟩):bS P n0 (.rangeFunc g ps assign body) ⟨t,o,y⟩ Q:=
 zQ hseq O ok h0 (cf m t) hg hcaps hwk hA hB har hround hfin
def NC:List AV->List AV
 | [.agg r]=>r
 | _=>[]
def dL (ks:List K2):List (List AV):=ks.map fun k=>[.agg (aX k)]
theorem EI {ks:List K2} {vis:List (List AV)} (h:vis.Perm (dL ks)): ∃ks':List K2,ks'.Perm ks∧vis=dL ks':=by
 have key: ∀(a b:List (List AV)),a.Perm b-> ∀ks,b=dL ks-> ∃ks':List K2,ks'.Perm ks∧a=dL ks':=by
  intro a b h
  induction h with
  | nil=>exact fun ks e=>⟨ks, .refl _,e⟩
  | cons x _ ih=>
   intro ks e
   cases ks with
   | nil=>simp [dL] at e
   | cons k ks=>
    simp only [dL,WR,Xy] at e;obtain ⟨ks',h1,h2⟩:=ih ks e.2;exact ⟨k :: ks',h1.cons k,by rw [e.1,h2];rfl⟩
  | swap x y l=>
   intro ks e
   match ks,e with
   | [],e=>simp [dL] at e
   | [k],e=>simp [dL] at e
   | k :: k' :: ks,e=>
    simp only [dL,WR,Xy] at e;exact ⟨k' :: k :: ks, .swap _ _ _,by rw [e.1,e.2.1,e.2.2];rfl⟩
  | trans _ _ ih1 ih2=>
   intro ks e;obtain ⟨k1,h1,h2⟩:=ih2 ks e;obtain ⟨k2,h3,h4⟩:=ih1 k1 h2;exact ⟨k2,h3.trans h1,h4⟩
 exact key _ _ h ks rfl
theorem oa (n:Nat) (l:List K2):bZ n (l.map aX)=true:=aZ _ (fun _=>rfl) l
attribute [go_sem] oa
theorem MJ (l:List (K2×Int)):ah Tryz.prog 64 [.mp (bB aX l)] (.fn 99 [] [.vp [.mp (bB aX l)]]):=by
 have eW: ∀n,bZ n (bB aX l)=true:=fun n=>fD (fun _=>rfl) l
 have hA:bp 0 [.mp (bB aX l)]=true:=by simp only [bp,AV.wf,eW,Wg]
 have hF:(AV.fn 99 [] [.vp [.mp (bB aX l)]]).wf 0=true:=by simp only [bp,AV.wf,eW,Wg]
 (refine ah.oT Tryz.func64 rfl (by kernel_rfl) (by kernel_rfl) rfl hA hF ?_;simp only [Tryz.ntmps64,Tryz.results64,U9,U3,Nat.reduceAdd,Nat.reduceSub,WW,WX,WY,WZ])
 repeat (first|(with_reducible first|refine ag.up ?_|refine fun (K:AK) hK=> ?_|(refine hK _ ?_;clear hK K))|simp only [go_sem]|clear hK K)
 refine cB.of 6 rfl ?_;simp only [aa.hl,AV.wf,bp,eW,Wg,Bool.and_self];simp
def Ot (ks:List K2) (r:AV) (o:List (Option aa)):Prop:= ∃vis:List K2,vis.Perm ks∧r = .vec 1 vis.length∧o=[some ⟨129,1,false,[[.vec 1 vis.length]]⟩,some ⟨74,2,true,vis.map aX⟩]
theorem vg {gf:FuncId} {caps:List AV} (ks:List K2) (hl:ks.length<=1000000) (hs:zD true Tryz.prog gf caps [] (dL ks)) (hw:bp 0 caps=true) :
  eV Tryz.prog 133 [.v (.slice none 0 0), .fn gf [] caps] [] (Ot ks):=by
 refine eV.enter Tryz.func133 rfl (by kernel_rfl) (by kernel_rfl) rfl ?_;simp only [Tryz.ntmps133,Tryz.results133,U9,U3,Nat.reduceAdd,Nat.reduceSub,WW,WX,WY,WZ]
 repeat (first|(with_reducible first|refine ag.up ?_|refine fun (K:AK) hK=> ?_|(refine hK _ ?_;clear hK K))|simp only [go_sem]|with_reducible refine wA ?_|clear hK K)
 refine oL (fh (k:=0) (i:=0) (j:=0) 74 2 (by decide) rfl (Nat.zero_lt_succ _) rfl rfl) (by kernel_rfl) ?_;simp only [U9,U3,Nat.reduceAdd,WY,WZ,WO]
 refine zR hs 5 (fun vis=>[some ⟨129,1,false,[[.vec 1 vis.length]]⟩,some ⟨74,2,true,vis.map NC⟩]) (fun vis=> ∃ks',vis=dL ks'∧ks'.length<=1000000) ⟨[],rfl,by simp⟩ ?_ ?_ ?_ (by kernel_rfl) (by kernel_rfl) ?_ ?_ ?_
 ·repeat (first|(with_reducible first|refine ag.up ?_|refine fun (K:AK) hK=> ?_|(refine hK _ ?_;clear hK K))|simp only [go_sem]|with_reducible refine wA ?_|clear hK K)
 ·exact hw
 ·(refine aq ?_ ?_ ?_<;>simp only [aD,List.foldl_cons,List.foldl_nil,WW,WX,aW,aY,AV.v.injEq,Value.int.injEq,Value.bool.injEq,Value.string.injEq,AV.vec.injEq,AV.ptr.injEq,true_or,or_true,false_or,or_false,aa.mk.injEq,forall_eq_apply_imp_iff,forall_eq,forall_eq',go_sem])
  all_goals first|exact kg (by omega) _ hw|exact ⟨rfl,rfl⟩
 ·intro x hx;obtain ⟨o,_,rfl⟩:=List.mem_map.1 hx
  rfl
 ·rintro vis x rest ⟨ks',rfl,hk'⟩ hp;have hx:x∈dL ks:=hp.mem_iff.1 (List.mem_append_right _ List.mem_cons_self);obtain ⟨k,_,rfl⟩:=List.mem_map.1 hx
  have hlen:ks'.length+1<=ks.length:=by
   have:=hp.length_eq
   simp only [dL,List.length_append,List.length_map,U9] at this;omega
  have e1:(dL ks').length=ks'.length:=by simp [dL]
  have e2:(dL ks').map NC=ks'.map aX:=by simp [dL,NC]
  have e3:dL ks'++[[.agg (aX k)]]=dL (ks'++[k]):=by simp [dL]
  have e4:(dL (ks'++[k])).length=ks'.length+1:=by simp [dL]
  have e5:(dL (ks'++[k])).map NC=ks'.map aX++[[.v (.string k.1), .v (.string k.2)]]:=by simp [dL,NC,aX]
  have hw2:bp 2 caps=true:=kg (by omega) _ hw
  have eL:(ks'.map aX).length=ks'.length:=by simp
  rw [e1,e2,e3,e4,e5];have hok: ∃ks'',dL (ks'++[k])=dL ks''∧ks''.length<=1000000:=⟨ks'++[k],rfl,by simp;omega⟩;have hW:=oa 2 (ks'++[k]);rw [List.map_append] at hW;simp only [aX,WR,List.map_nil] at hW;simp only [aX]
  repeat (first|(with_reducible first|refine ag.up ?_|refine fun (K:AK) hK=> ?_|(refine hK _ ?_;clear hK K))|simp only [go_sem,eL]|with_reducible refine wA ?_|clear hK K)
  (refine aq ?_ ?_ ?_<;>simp only [aD,List.foldl_cons,List.foldl_nil,WW,WX,aW,aY,AV.v.injEq,Value.int.injEq,Value.bool.injEq,Value.string.injEq,AV.vec.injEq,AV.ptr.injEq,true_or,or_true,false_or,or_false,aa.mk.injEq,forall_eq_apply_imp_iff,forall_eq,forall_eq',go_sem])
  all_goals first|exact hw2|exact hW|exact ⟨rfl,hW⟩|trace_state
 ·rintro vis hp ⟨ks',rfl,hk'⟩;obtain ⟨k2,h1,h2⟩:=EI hp
  have h3:ks'.length=k2.length:=by simpa [dL] using congrArg List.length h2
  have h4:(dL ks').map NC=k2.map aX:=by rw [h2];simp [dL,NC]
  have e1:(dL ks').length=k2.length:=by rw [h2];simp [dL]
  rw [e1,h4]
  repeat (first|(with_reducible first|refine ag.up ?_|refine fun (K:AK) hK=> ?_|(refine hK _ ?_;clear hK K))|simp only [go_sem]|with_reducible refine wA ?_|clear hK K)
  exact ⟨k2,h1,rfl,rfl⟩
theorem Ae {gf:FuncId} {caps:List AV} (ks:List K2) (hl:ks.length<=1000000) (hs:zD true Tryz.prog gf caps [] (dL ks)) (hw:bp 0 caps=true) :
  eV Tryz.prog 97 [.fn gf [] caps] [] (Ot ks):=by
 have C:=vg ks hl hs hw;refine eV.enter Tryz.func97 rfl (by kernel_rfl) (by kernel_rfl) rfl ?_;simp only [Tryz.ntmps97,Tryz.results97,U9,U3,Nat.reduceAdd,Nat.reduceSub,WW,WX,WY,WZ]
 repeat (first|(with_reducible first|refine ag.up ?_|refine fun (K:AK) hK=> ?_|(refine hK _ ?_;clear hK K))|simp only [go_sem]|with_reducible refine wA ?_|clear hK K)
 refine ab.two C ?_;rintro r o' ⟨vis,hp,rfl,rfl⟩
 repeat (first|(with_reducible first|refine ag.up ?_|refine fun (K:AK) hK=> ?_|(refine hK _ ?_;clear hK K))|simp only [go_sem]|with_reducible refine wA ?_|clear hK K)
 exact ⟨vis,hp,rfl,rfl⟩
open Go.RowKit Go.Sort
theorem AO (x:ByteArray) (w:World):Calls Tryz.prog 96 #[.string x] w fun e w'=>e = .returned (.bool false)∧w'=w:=by
 go_enter Tryz.func96,Tryz.ntmps96
 go_wp2_with fail
 go_ret
 exact ⟨by simp,rfl⟩
theorem Gb (a b:ByteArray) (w:World):Calls Tryz.prog 62 #[.string a, .string b] w fun e w'=>e = .returned (.int .i64 (iY a b))∧w'=w:=by
 have hT:=Kr a b;unfold iY
 cases e1:Cj a b
 ·rw [e1] at hT;have e0:Op.bytesLess a.toList b.toList=false:=e1;simp only [Bool.false_or] at hT
  cases e2:Cj b a
  ·rw [e2] at hT;simp only [Bool.false_eq_true,if_false]
   have e3:(a.toList==b.toList)=true:=by simpa using hT
   have H:=Lib.hid hT;clear hT
   go_enter Tryz.func62,Tryz.ntmps62
   go_wp2_with (go_at_call 96;refine (AO _ _).mono ?_;rintro e w' ⟨rfl,rfl⟩)
   go_ret
   exact ⟨rfl,rfl⟩
  ·rw [e2] at hT;simp only [Bool.false_eq_true,if_false,if_true]
   have e3:(a.toList==b.toList)=false:=by simpa using hT
   have H:=Lib.hid hT;clear hT
   go_enter Tryz.func62,Tryz.ntmps62
   go_wp2_with (go_at_call 96;refine (AO _ _).mono ?_;rintro e w' ⟨rfl,rfl⟩)
   go_ret
   exact ⟨rfl,rfl⟩
 ·have e0:Op.bytesLess a.toList b.toList=true:=e1;simp only [if_true];have H:=Lib.hid hT;clear hT
  go_enter Tryz.func62,Tryz.ntmps62
  go_wp2_with (go_at_call 96;refine (AO _ _).mono ?_;rintro e w' ⟨rfl,rfl⟩)
  go_ret
  exact ⟨rfl,rfl⟩
theorem JU (a b:Int) (B cap:Nat) (w:World) (hc:2<=cap) (hm:cap<=maxLen) (h0:w.cell? ⟨B,0,none⟩=some (.int .i64 a)) (h1:w.cell? ⟨B,1,none⟩=some (.int .i64 b)):Calls Tryz.prog 61 #[.slice (some ⟨B,0,none⟩) 2 cap] w fun e w'=>e = .returned (.int .i64 (AU a b))∧w'=w:=by
 go_enter Tryz.func61,Tryz.ntmps61
 go_wp2_with fail
 refine wp_loop_rounds 3 ?_
 by_cases ha:a=0
 ·rw [rounds_succ]
  go_wp2_with fail
  by_cases hb:b=0
  ·rw [rounds_succ]
   go_wp2_with fail
   rw [rounds_succ]
   go_wp2_with fail
   go_ret
   exact ⟨by rw [AU,if_neg (by simp [ha]),hb];rfl,rfl⟩
  ·rw [rounds_succ]
   go_wp2_with fail
   go_ret
   exact ⟨by rw [AU,if_neg (by simp [ha])];rfl,rfl⟩
 ·rw [rounds_succ]
  go_wp2_with fail
  go_ret
  exact ⟨by rw [AU,if_pos ha];rfl,rfl⟩
theorem qb {P:Program} {N:kD} {id:Nat} {Q:Exit->Act->World->Prop} {a:Act} {w:World} {l:List Oper} (L:List (fY N)) (hm:P.follows .mixedOrders=true) (hB:nR l.toArray=true) (g0:N.G) (hg0:N.wd g0=w.drew) (hp0: ∀j,N.pre j g0)
  (h:Ey P l.toArray L g0 (Q .normal) l 0 (fun _=>a)):(Code.region id l.toArray true).wp P Q a w:=wp_region_any hm (fL L hB g0 hg0 hp0 h)
def y6 (R0 R1:World) (m:Nat):kD:=⟨Bool,fun g=>if g then R1 else R0,fun g g'=>g=true->g'=true,fun _ h=>h,fun _ _ _ h k e=>k (h e),fun i g=>i=m->g=false⟩
def IN (R0 R1:World) (m:Nat) (val:Nat->Value) (i:Nat):fY (y6 R0 R1 m):=⟨fun v g=>v=val i∧(m<=i->g=true),fun v g g' hR h=>⟨h.1,fun k=>hR (h.2 k)⟩⟩
theorem pU {P:Program} {R0 R1:World} {m:Nat} {val:Nat->Value} {ops:Array Oper} {o:Oper} {a:Act} {g:Bool} {k:Nat} (hw:Region.wanted o (yielded ops a.tmps)=true) (hk:k<m)
  (h:(execOp a.eval o).run P (if g then R1 else R0) = .ok (.value (val k)) (if g then R1 else R0)):qC P ops (IN R0 R1 m val k) k o a g:=by
 refine .inl ⟨hw, ?_⟩;have e:(execOp a.eval o).run P ((y6 R0 R1 m).wd g) = .ok (.value (val k)) ((y6 R0 R1 m).wd g):=h;rw [e];exact ⟨g,rfl,fun h=>h,fun _ _ h=>h,rfl,fun h=>by omega⟩
theorem IP {P:Program} {R0 R1:World} {m:Nat} {val:Nat->Value} {ops:Array Oper} {o:Oper} {a:Act} {g:Bool} {k:Nat} {f:FuncId} {args:Array Value} (hw:Region.wanted o (yielded ops a.tmps)=true) (hg:m<=k->g=true)
  (h:(execOp a.eval o).run P (if g then R1 else R0) = .ok (.enter f args) (if g then R1 else R0)) (hc:Calls P f args (if g then R1 else R0) fun e w'=>e = .returned (val k)∧w'=if g then R1 else R0):qC P ops (IN R0 R1 m val k) k o a g:=by
 refine .inl ⟨hw, ?_⟩;have e:(execOp a.eval o).run P ((y6 R0 R1 m).wd g) = .ok (.enter f args) ((y6 R0 R1 m).wd g):=h;rw [e];refine hc.mono ?_;rintro e w' ⟨rfl,rfl⟩;exact ⟨_,g,rfl,rfl,fun h=>h,fun _ _ h=>h,rfl,hg⟩
theorem Qo {P:Program} {R0 R1:World} {m:Nat} {val:Nat->Value} {ops:Array Oper} {o:Oper} {a:Act} {g:Bool} (hw:Region.wanted o (yielded ops a.tmps)=true) (hg:g=false)
  (h:(execOp a.eval o).run P R0 = .ok (.value (val m)) R1):qC P ops (IN R0 R1 m val m) m o a g:=by
 subst hg;refine .inl ⟨hw, ?_⟩;have e:(execOp a.eval o).run P ((y6 R0 R1 m).wd false) = .ok (.value (val m)) R1:=h;rw [e];exact ⟨true,rfl,fun _=>rfl,fun i hi _ e=>absurd e hi,rfl,fun _=>rfl⟩
theorem Qp {P:Program} {R0 R1:World} {m:Nat} {val:Nat->Value} {ops:Array Oper} {o:Oper} {a:Act} {g:Bool} {k:Nat} (hw:Region.wanted o (yielded ops a.tmps)=true) (hg:g=true)
  (h:(execOp a.eval o).run P R1 = .ok (.value (val k)) R1):qC P ops (IN R0 R1 m val k) k o a g:=by
 subst hg;refine .inl ⟨hw, ?_⟩;have e:(execOp a.eval o).run P ((y6 R0 R1 m).wd true) = .ok (.value (val k)) R1:=h;rw [e];exact ⟨true,rfl,fun _=>rfl,fun _ _ h=>h,rfl,fun _=>rfl⟩
theorem Hr (a b:K2) (W:World):Calls Tryz.prog 60 #[.agg #[.string a.1, .string a.2], .agg #[.string b.1, .string b.2]] W fun e w'=>e = .returned (.int .i64 (eC a b))∧ ∃q os,w'=grow (W.drewN q) os:=by
 go_enter Tryz.func60,Tryz.ntmps60
 go_wp2_with fail
 rename_i Q' K hK
 let R0:=((W.alloc (.cells #[.string a.1, .string a.2] 74)).alloc (.cells #[.string b.1, .string b.2] 74)).drew
 let R1:=R0.alloc (.cells #[.int .i64 (iY a.1 b.1), .int .i64 (iY a.2 b.2)] 3)
 let val:Nat->Value:=fun i=>match i with
  | 0=> .pointer (some ⟨W.heap.size,0,none⟩)|1=> .string a.1|2=> .pointer (some ⟨W.heap.size+1,0,none⟩)|3=> .string b.1|4=> .int .i64 (iY a.1 b.1)
  | 5=> .pointer (some ⟨W.heap.size,1,none⟩)|6=> .string a.2|7=> .pointer (some ⟨W.heap.size+1,1,none⟩)|8=> .string b.2|9=> .int .i64 (iY a.2 b.2)
  | 10=> .slice (some ⟨W.heap.size+2,0,none⟩) 2 2|11=> .int .i64 (eC a b)|_=> .int .i64 (eC a b)
 have hz:R0.heap.size=W.heap.size+2:=by simp [R0]
 have hA0:R0.heap[W.heap.size]? = some (.cells #[.string a.1, .string a.2] 74):=((MapKept.heap_alloc (W.alloc (.cells #[.string a.1, .string a.2] 74)) _).2 _ (by simp)).trans (MapKept.heap_alloc W _).1
 have hB0:R0.heap[W.heap.size+1]? = some (.cells #[.string b.1, .string b.2] 74):=by
  have:=(MapKept.heap_alloc (W.alloc (.cells #[.string a.1, .string a.2] 74)) (.cells #[.string b.1, .string b.2] 74)).1
  rw [show (W.alloc (.cells #[.string a.1, .string a.2] 74)).heap.size=W.heap.size+1 by simp] at this;exact this
 have hA1:R1.heap[W.heap.size]? = some (.cells #[.string a.1, .string a.2] 74):=((MapKept.heap_alloc R0 _).2 _ (by omega)).trans hA0;have hB1:R1.heap[W.heap.size+1]? = some (.cells #[.string b.1, .string b.2] 74):=((MapKept.heap_alloc R0 _).2 _ (by omega)).trans hB0
 have hR1:R1.heap[W.heap.size+2]? = some (.cells #[.int .i64 (iY a.1 b.1), .int .i64 (iY a.2 b.2)] 3):=by rw [<-hz];exact (MapKept.heap_alloc R0 _).1
 have hC: ∀g:Bool,(if g=true then R1 else R0).cell? ⟨W.heap.size,0,none⟩=some (.string a.1)∧(if g=true then R1 else R0).cell? ⟨W.heap.size,1,none⟩=some (.string a.2)∧(if g=true then R1 else R0).cell? ⟨W.heap.size+1,0,none⟩=some (.string b.1)∧(if g=true then R1 else R0).cell? ⟨W.heap.size+1,1,none⟩=some (.string b.2):=by
  intro g
  cases g
  ·exact ⟨(au hA0 0).trans rfl,(au hA0 1).trans rfl,(au hB0 0).trans rfl,(au hB0 1).trans rfl⟩
  ·exact ⟨(au hA1 0).trans rfl,(au hA1 1).trans rfl,(au hB1 0).trans rfl,(au hB1 1).trans rfl⟩
 have hD:R1.cell? ⟨W.heap.size+2,0,none⟩=some (.int .i64 (iY a.1 b.1))∧R1.cell? ⟨W.heap.size+2,1,none⟩=some (.int .i64 (iY a.2 b.2)):=⟨(au hR1 0).trans rfl,(au hR1 1).trans rfl⟩
 refine qb (N:=y6 R0 R1 10) ((List.range 13).map (IN R0 R1 10 val)) rfl (by kernel_rfl) false ?_ (fun _ _=>rfl) ?_
 ·rfl
 refine ⟨fun x g _ hs hp=>pU rfl (by decide) ?_,fun x g _ hs hp=>pU rfl (by decide) ?_,fun x g _ hs hp=>pU rfl (by decide) ?_,fun x g _ hs hp=>pU rfl (by decide) ?_,fun x g _ hs hp=>IP (f:=62) (args:= #[.string a.1, .string b.1]) rfl (fun h=>absurd h (by decide)) ?_ (Gb _ _ _),fun x g _ hs hp=>pU rfl (by decide) ?_,fun x g _ hs hp=>pU rfl (by decide) ?_,fun x g _ hs hp=>pU rfl (by decide) ?_,fun x g _ hs hp=>pU rfl (by decide) ?_,fun x g _ hs hp=>IP (f:=62) (args:= #[.string a.2, .string b.2]) rfl (fun h=>absurd h (by decide)) ?_ (Gb _ _ _),fun x g _ hs hp=>Qo rfl (hp rfl) ?_,fun x g _ hs hp=>IP (f:=61) (args:= #[.slice (some ⟨W.heap.size+2,0,none⟩) 2 2]) rfl (fun _=>(hs 10 (by kernel_rfl)).2 (UZ _)) ?_ ?_,fun x g _ hs hp=>Qp rfl ((hs 11 (by kernel_rfl)).2 (by decide)) ?_,fun x g _ hs=> ?_⟩
 ·obtain ⟨c1,c2,c3,c4⟩:=hC g;simp only [Act.put,WL,WO,WN]
  go_simp
  all_goals first|rfl|trace_state
 ·obtain ⟨c1,c2,c3,c4⟩:=hC g;have x0:x 0 = .pointer (some ⟨W.heap.size,0,none⟩):=(hs 0 (by kernel_rfl)).1;simp only [Act.put,WL,WO,WN,x0]
  go_simp
  all_goals first|rfl|trace_state
 ·obtain ⟨c1,c2,c3,c4⟩:=hC g;simp only [Act.put,WL,WO,WN]
  go_simp
  all_goals first|rfl|trace_state
 ·obtain ⟨c1,c2,c3,c4⟩:=hC g;have x2:x 2 = .pointer (some ⟨W.heap.size+1,0,none⟩):=(hs 2 (by kernel_rfl)).1;simp only [Act.put,WL,WO,WN,x2]
  go_simp
  all_goals first|rfl|trace_state
 ·obtain ⟨c1,c2,c3,c4⟩:=hC g;have x1:x 1 = .string a.1:=(hs 1 (by kernel_rfl)).1;have x3:x 3 = .string b.1:=(hs 3 (by kernel_rfl)).1;simp only [Act.put,WL,WO,WN,x1,x3]
  go_simp
  all_goals first|rfl|trace_state
 ·obtain ⟨c1,c2,c3,c4⟩:=hC g;simp only [Act.put,WL,WO,WN]
  go_simp
  all_goals first|rfl|trace_state
 ·obtain ⟨c1,c2,c3,c4⟩:=hC g;have x5:x 5 = .pointer (some ⟨W.heap.size,1,none⟩):=(hs 5 (by kernel_rfl)).1;simp only [Act.put,WL,WO,WN,x5]
  go_simp
  all_goals first|rfl|trace_state
 ·obtain ⟨c1,c2,c3,c4⟩:=hC g;simp only [Act.put,WL,WO,WN]
  go_simp
  all_goals first|rfl|trace_state
 ·obtain ⟨c1,c2,c3,c4⟩:=hC g;have x7:x 7 = .pointer (some ⟨W.heap.size+1,1,none⟩):=(hs 7 (by kernel_rfl)).1;simp only [Act.put,WL,WO,WN,x7]
  go_simp
  all_goals first|rfl|trace_state
 ·obtain ⟨c1,c2,c3,c4⟩:=hC g;have x6:x 6 = .string a.2:=(hs 6 (by kernel_rfl)).1;have x8:x 8 = .string b.2:=(hs 8 (by kernel_rfl)).1;simp only [Act.put,WL,WO,WN,x6,x8]
  go_simp
  all_goals first|rfl|trace_state
 ·have x4:x 4 = .int .i64 (iY a.1 b.1):=(hs 4 (by kernel_rfl)).1;have x9:x 9 = .int .i64 (iY a.2 b.2):=(hs 9 (by kernel_rfl)).1;simp only [Act.put,WL,WO,WN,x4,x9]
  go_simp
  exact ⟨rfl,rfl⟩
 ·have x10:x 10 = .slice (some ⟨W.heap.size+2,0,none⟩) 2 2:=(hs 10 (by kernel_rfl)).1;simp only [Act.put,WL,WO,WN,x10]
  go_simp
 ·have hg:g=true:=(hs 10 (by kernel_rfl)).2 (UZ _);subst hg;exact JU _ _ _ 2 R1 (UZ _) (by unfold maxLen;omega) hD.1 hD.2
 ·have x11:x 11 = .int .i64 (eC a b):=(hs 11 (by kernel_rfl)).1;simp only [Act.put,WL,WO,WN,x11]
  go_simp
  all_goals first|rfl|trace_state
 ·have hg:g=true:=(hs 10 (by decide)).2 (UZ _);have x12:x 12 = .int .i64 (eC a b):=(hs 12 (by decide)).1;simp only [Act.put,WL,WO,WN,x12];subst hg;refine hK _ _ ?_
  go_wp2_with fail
  go_ret
  refine ⟨rfl,1, #[.cells #[.string a.1, .string a.2] 74, .cells #[.string b.1, .string b.2] 74, .cells #[.int .i64 (iY a.1 b.1), .int .i64 (iY a.2 b.2)] 3], ?_⟩;show (((W.alloc _).alloc _).drew).alloc _=_;rw [alloc_eq_grow,alloc_eq_grow,alloc_eq_grow];show grow (grow (grow W _) _).drew _=_;rw [show ∀u v:Array Obj,(grow (grow W u) v).drew=grow (W.drewN 1) (u++v) from fun u v=>by rw [grow_grow];rfl,grow_grow]
  rfl
end
section
section
variable {D:Nat->Prop} {nu:Nat->Nat->Value} {o:List (Option aa)} {w:World} {P:Program}
def cp {α:Type} (enc:α->List Value) (l:List α):List (List AV):=l.map (fun a=>(enc a).map AV.v)
open Go.Sort in
theorem Ay {α:Type} [Inhabited α] {enc:α->List Value} {k:Nat} (hk: ∀x,(enc x).length=k) (hk0:0<k) {id:Nat} {ob:aa} {g:Nat} {cur:Array Value} {d:List α} (h:sO D nu o w id ob g cur) (hz:ob.z=k) (hr:ob.rows=cp enc d):HoldsK enc k w g 0 d.toArray:=fun t ht=>by
 have ht':t<d.length * k:=by simpa using ht
 have hi:t / k<d.length:=Nat.div_lt_of_lt_mul (by rw [Nat.mul_comm];exact ht');have hj:t % k<k:=Nat.mod_lt _ hk0
 have h1:ob.rows[t / k]? = some ((enc d[t / k]).map AV.v):=by rw [hr];simp [cp,hi]
 have hjl:t % k<((enc d[t / k]).map AV.v).length:=by simp [hk];exact hj
 have h2:=h.nt h1 hjl
 have e:t / k * ob.z+t % k=t:=by rw [hz];have:=Nat.div_add_mod t k;rw [Nat.mul_comm] at this;exact this
 rw [e] at h2;have h3:=h.cell (t / k) (t % k) _ _ _ h1 (Vi hjl) (by rw [e];exact Vh h2)
 refine ⟨?_, ?_⟩
 ·have e2:w.cell? ⟨g,0+t,none⟩=cur[t]? :=by simp [World.cell?,h.blk]
  rw [e2,Vh h2];rw [get_flatK _ _ _ _ (by simpa using ht')];rw [List.getElem_map] at h3;rw [h3.b5]
  have hg1:d.toArray[t / k]! = d[t / k]:=by simp [hi]
  rw [hg1,getElem!_pos (enc d[t / k]) (t % k) (by rw [hk];exact hj)];rfl
 ·simp [World.frozen?,h.blk]
open Go.Sort in
theorem aK.Po {α:Type} [Inhabited α] {enc:α->List Value} {k:Nat} (hk: ∀x,(enc x).length=k) (hk0:0<k) (hone: ∀a, ∀v∈enc a,v.oneCell'=true) {f:FuncId} {args:List AV} {T:TypeId} {d d':List α} {o1:List (Option aa)} (hd:d'.length=d.length) (hc:df P f=true)
  (hcall: ∀D nu w vargs cap blk,RO D nu (some ⟨T,k,true,cp enc d⟩ :: o1) w->fE D nu (some ⟨T,k,true,cp enc d⟩ :: o1) w args vargs->HoldsK enc k w blk 0 d.toArray->blk<w.heap.size->d.length<=cap->cap<=maxLen->Calls P f (#[.slice (some ⟨blk,0,none⟩) d.length cap]++vargs) w (fun e w'=>e = .returned (.tuple #[])∧ ∃n os,w'=sortWorldK enc k w blk 0 n d'.toArray os))
  (hnil:d=[]-> ∀D nu w vargs,RO D nu (some ⟨T,k,true,cp enc d⟩ :: o1) w->fE D nu (some ⟨T,k,true,cp enc d⟩ :: o1) w args vargs->Calls P f (#[.slice none 0 0]++vargs) w (fun e w'=>e = .returned (.tuple #[])∧Below w.heap.size w w')) :
  aK P f (.vec 0 d.length :: args) (some ⟨T,k,true,cp enc d⟩ :: o1) (.cy []) (some ⟨T,k,true,cp enc d'⟩ :: o1):=by
 refine ⟨hc,fun D nu w vargs hro hra=> ?_⟩
 have hlen:(cp enc d).length=d.length:=by simp [cp]
 have hlen':(cp enc d').length=d'.length:=by simp [cp]
 obtain ⟨vl⟩:=vargs
 cases vl with
 | nil=>have:=hra.len;simp at this
 | cons x l=>
 have hx:=hra.at' 0 _ x rfl (by simp);have hxs:fE D nu (some ⟨T,k,true,cp enc d⟩ :: o1) w args l.toArray:=⟨by have:=hra.len;simp at this;simpa using this,fun i c y h1 h2=>hra.at' (i+1) c y (by simpa using h1) (by simpa using h2)⟩
 have ev:(⟨x :: l⟩:Array Value) = #[x]++l.toArray:=by simp
 have hxq:x=nu 0 d.length:=by
  cases hx with
  | vec=>rfl
 have hob:(some ⟨T,k,true,cp enc d⟩ :: o1)[0]? = some (some (⟨T,k,true,cp enc d⟩:aa)):=rfl;have tup0: ∀w',RA D nu (some ⟨T,k,true,cp enc d'⟩ :: o1) w' (.cy []) (.tuple #[]):=fun w'=> .cy _ _ rfl (fun i c x h _=>by simp at h);rw [ev,hxq]
 rcases hro.obj 0 _ hob with ⟨_,e2,e3⟩|⟨g,cur,hb⟩|⟨g,es,cl,hm⟩
 ·have hdn:d=[]:=by simpa [cp] using e2
  have hdn':d'=[]:=List.eq_nil_of_length_eq_zero (by rw [hd,hdn];rfl);have hn:=hnil hdn D nu w l.toArray hro hxs
  have e4:nu 0 d.length = .slice none 0 0:=by rw [hdn];exact e3
  rw [e4];refine hn.mono ?_;rintro e w' ⟨rfl,hbl⟩
  have e5:(some ⟨T,k,true,cp enc d'⟩ :: o1:List (Option aa))=some ⟨T,k,true,cp enc d⟩ :: o1:=by rw [hdn,hdn']
  refine ⟨_,nu,some ⟨T,k,true,cp enc d'⟩ :: o1,_,rfl, ?_, ?_,tup0 w',rfl,rfl⟩
  ·rw [e5];exact aw hbl
  ·rw [e5];exact hro.below hbl
 ·obtain ⟨cap,h1,h2,h3,h4⟩:=hb.vec rfl;have hlr:(aa.mk T k true (cp enc d)).rows.length=d.length:=hlen;rw [hlr] at h1 h2;have hlt:g<w.heap.size:=(Array.getElem?_eq_some_iff.1 hb.blk).1;rw [h1];refine (hcall D nu w l.toArray cap g hro hxs (Ay hk hk0 hb rfl rfl) hlt h2 h3).mono ?_;rintro e w' ⟨rfl,n,os,rfl⟩
  
  obtain ⟨hsame,hblk⟩:=si (w:=w) (enc:=id) (n:=n) (d:=flatK enc k d'.toArray) (os:= #[]) hlt;have hblk:=hblk _ _ _ hb.blk;rw [grow_empty] at hsame hblk;unfold sortWorldK putRowK
  have hsz:(putRow id (Go.Sort.ahead w n) g 0 (flatK enc k d'.toArray)).heap.size=w.heap.size:=by rw [size_putRow];rfl
  have hh:(aa.mk T k true (cp enc d)).hl=(aa.mk T k true (cp enc d')).hl:=by simp [aa.hl,hlen,hlen',hd]
  have hne: ∀b,b≠g->(putRow id (Go.Sort.ahead w n) g 0 (flatK enc k d'.toArray)).heap[b]? = w.heap[b]? :=fun b hbg=>by
   rcases U6 b w.heap.size with q|q
   ·exact hsame b q hbg
   ·rw [WU (by omega),WU q]
  have hm:=gn (nu:=nu) (w:=w) (w':=putRow id (Go.Sort.ahead w n) g 0 (flatK enc k d'.toArray)) (ob':=⟨T,k,true,cp enc d'⟩) hob hh.symm hb.bg rfl rfl rfl hsz hne
  have row: ∀(i:Nat) r,(cp enc d')[i]? = some r-> ∃hi:i<d'.length,r=(enc d'[i]).map AV.v:=fun i r hi=>by
   have hik:=(U4.1 hi).1;rw [hlen'] at hik;exact ⟨hik,by simp [cp,hik] at hi;exact hi.symm⟩
  have cell: ∀(i j:Nat) r c x,(cp enc d')[i]? = some r->r[j]? = some c->(putCells id 0 (flatK enc k d'.toArray) cur)[i * k+j]? = some x->c = .v x∧x.oneCell'=true:=fun i j r c x k1 k2 k3=>by
   obtain ⟨hi,rfl⟩:=row i r k1
   have hj:j<k:=by have:=(U4.1 k2).1;simp [hk] at this;exact this
   have hje:j<(enc d'[i]).length:=by rw [hk];exact hj
   have ht:i * k+j<d'.length * k:=kT hi hj;simp only [putCells,Array.getElem?_mapIdx] at k3
   cases hcur:cur[i * k+j]? with
   | none=>rw [hcur] at k3;simp at k3
   | some y=>
    rw [hcur] at k3;simp only [VB,Ve] at k3;rw [if_pos ⟨Nat.zero_le _,by simpa using ht⟩,Nat.sub_zero,get_flatK _ _ _ _ (by simpa using ht),Cc hj,qm hj] at k3
    have hg1:d'.toArray[i]! = d'[i]:=by simp [hi]
    rw [hg1,getElem!_pos (enc d'[i]) j hje] at k3;rw [List.getElem?_map,Vi hje,VB,Ve] at k2;subst k3;exact ⟨k2.symm,hone _ _ (List.getElem_mem hje)⟩
  have hnew:sO D nu (some ⟨T,k,true,cp enc d'⟩ :: o1) (putRow id (Go.Sort.ahead w n) g 0 (flatK enc k d'.toArray)) 0 ⟨T,k,true,cp enc d'⟩ g (putCells id 0 (flatK enc k d'.toArray) cur):=by
   refine ⟨hblk,hb.ko,(fun e=>by cases e),fun _=>⟨cap, ?_, ?_,h3, ?_⟩,hk0,fun i r hi=> ?_,fun i j r c x k1 k2 k3=> ?_,fun i j r c x k1 k2 k3=>(cell i j r c x k1 k2 k3).2⟩
   ·show nu 0 (cp enc d').length = .slice (some ⟨g,0,none⟩) (cp enc d').length cap;rw [hlen',hd];exact h1
   ·show (cp enc d').length<=cap;rw [hlen',hd];exact h2
   ·rw [<-h4];simp [putCells]
   ·obtain ⟨_,rfl⟩:=row i r hi;simp [hk]
   ·rw [(cell i j r c x k1 k2 k3).1];exact .v x
  have hr:=mR hro hob hh.symm hb.bg hm hne (cur:=putCells id 0 (flatK enc k d'.toArray) cur) hnew;have hb2:Below (putRow id (Go.Sort.ahead w n) g 0 (flatK enc k d'.toArray)).heap.size (putRow id (Go.Sort.ahead w n) g 0 (flatK enc k d'.toArray)) (grow (putRow id (Go.Sort.ahead w n) g 0 (flatK enc k d'.toArray)) os):=⟨rfl,rfl,rfl,by simp,fun b hb=>heap_grow_old _ _ hb⟩;simp only [List.set_cons_zero] at hm hr;exact ⟨_,nu,some ⟨T,k,true,cp enc d'⟩ :: o1,_,rfl,hm.trans (aw hb2),hr.below hb2,tup0 _,rfl,rfl⟩
 ·have:=hm.du;cases this
end
open Go.RowKit Go.Shelf Go.Sort
def Is:Go.Shelf.Ren:=⟨fun|6=>98|15=>135|14=>134|28=>171|29=>172|20=>163|21=>164|22=>165|23=>166|24=>167|25=>168|26=>169|27=>170|46=>203|47=>204|48=>205|49=>206|50=>207|57=>221|n=>n,fun|22=>129|24=>74|25=>128|3=>3|39=>212|0=>0|53=>184|55=>256|4=>4|46=>249|45=>248|50=>105|5=>5|9=>9|66=>279|70=>283|76=>296|77=>297|n=>n,fun|n=>n⟩
theorem uH:SlLaysF0.n6 Tryz.prog Is:={
 mixed:=by kernel_rfl
 f6:=⟨Tryz.f98.name,by decide,Tryz.func98⟩
 f14:=⟨Tryz.f134.name,by decide,Tryz.func134⟩
 f15:=Tryz.func135
 f20:=⟨Tryz.f163.name,by decide,Tryz.func163⟩
 f21:=⟨Tryz.f164.name,by decide,Tryz.func164⟩
 f22:=⟨Tryz.f165.name,by decide,Tryz.func165⟩
 f23:=⟨Tryz.f166.name,by decide,Tryz.func166⟩
 f24:=⟨Tryz.f167.name,by decide,Tryz.func167⟩
 f25:=⟨Tryz.f168.name,by decide,Tryz.func168⟩
 f26:=⟨Tryz.f169.name,by decide,Tryz.func169⟩
 f27:=⟨Tryz.f170.name,by decide,Tryz.func170⟩
 f28:=Tryz.func171
 f29:=Tryz.func172
 f46:=⟨Tryz.f203.name,by decide,Tryz.func203⟩
 f47:=Tryz.func204
 f48:=Tryz.func205
 f49:=⟨Tryz.f206.name,by decide,Tryz.func206⟩
 f50:=⟨Tryz.f207.name,by decide,Tryz.func207⟩
 f57:=⟨Tryz.f221.name,by decide,Tryz.func221⟩
 t0:=by kernel_rfl
 a0:=fun w=>by kernel_rfl
 z0:=fun w=>by kernel_rfl
 v0:=fun w=>by kernel_rfl
 t3:=by kernel_rfl
 a3:=fun w=>by kernel_rfl
 z3:=fun w=>by kernel_rfl
 v3:=fun w=>by kernel_rfl
 t4:=by kernel_rfl
 a4:=fun w=>by kernel_rfl
 z4:=fun w=>by kernel_rfl
 v4:=fun w=>by kernel_rfl
 t5:=by kernel_rfl
 a5:=fun w=>by kernel_rfl
 z5:=fun w=>by kernel_rfl
 v5:=fun w=>by kernel_rfl
 t9:=by kernel_rfl
 a9:=fun w=>by kernel_rfl
 z9:=fun w=>by kernel_rfl
 v9:=fun w=>by kernel_rfl
 t22:=by kernel_rfl
 a22:=fun w=>by kernel_rfl
 z22:=fun w=>by kernel_rfl
 v22:=fun w=>by kernel_rfl
 t25:=by kernel_rfl
 a25:=fun w=>by kernel_rfl
 z25:=fun w=>by kernel_rfl
 v25:=fun w=>by kernel_rfl
 t39:=by kernel_rfl
 a39:=fun w=>by kernel_rfl
 z39:=fun w=>by kernel_rfl
 v39:=fun w=>by kernel_rfl
 t45:=by kernel_rfl
 a45:=fun w=>by kernel_rfl
 z45:=fun w=>by kernel_rfl
 v45:=fun w=>by kernel_rfl
 t46:=by kernel_rfl
 a46:=fun w=>by kernel_rfl
 z46:=fun w=>by kernel_rfl
 v46:=fun w=>by kernel_rfl
 t50:=by kernel_rfl
 a50:=fun w=>by kernel_rfl
 z50:=fun w=>by kernel_rfl
 v50:=fun w=>by kernel_rfl
 t53:=by kernel_rfl
 a53:=fun w=>by kernel_rfl
 z53:=fun w=>by kernel_rfl
 v53:=fun w=>by kernel_rfl
 t55:=by kernel_rfl
 a55:=fun w=>by kernel_rfl
 z55:=fun w=>by kernel_rfl
 v55:=fun w=>by kernel_rfl
 t66:=by kernel_rfl
 a66:=fun w=>by kernel_rfl
 z66:=fun w=>by kernel_rfl
 v66:=fun w=>by kernel_rfl
 t70:=by kernel_rfl
 a70:=fun w=>by kernel_rfl
 z70:=fun w=>by kernel_rfl
 v70:=fun w=>by kernel_rfl
 t76:=by kernel_rfl
 a76:=fun w=>by kernel_rfl
 z76:=fun w=>by kernel_rfl
 v76:=fun w=>by kernel_rfl
 t77:=by kernel_rfl
 a77:=fun w=>by kernel_rfl
 z77:=fun w=>by kernel_rfl
 v77:=fun w=>by kernel_rfl }
def B3 (k:K2):List Value:=[.string k.1, .string k.2]
theorem xB (a b:ByteArray):iY a b<0↔a.data.toList<b.data.toList:=by
 unfold iY
 by_cases h:Cj a b=true
 ·rw [if_pos h];exact ⟨fun _=>ft.1 h,fun _=>by decide⟩
 ·rw [if_neg h];refine ⟨fun k=> ?_,fun k=>absurd (ft.2 k) h⟩
  split at k<;>omega
theorem tL (a b:ByteArray):iY a b=0↔a=b:=by
 unfold iY
 constructor
 ·intro h
  split at h
  ·cases h
  ·split at h
   ·cases h
   ·rename_i h1 h2;rw [ft] at h1 h2
    rcases lF a b with q|q|q
    ·exact absurd q h1
    ·exact q
    ·exact absurd q h2
 ·rintro rfl
  have: ¬Cj a a=true:=by rw [ft];exact List.lt_irrefl _
  rw [if_neg this,if_neg this]
theorem MA (a b:K2):eC a b<0↔zm a b:=by
 unfold eC AU zm
 by_cases h:iY a.1 b.1=0
 ·rw [if_neg (by simp [h]),xB]
  have:=(tL _ _).1 h
  rw [this];exact ⟨fun k=> .inr ⟨rfl,k⟩,fun k=>k.elim (fun q=>absurd q (List.lt_irrefl _)) (·.2)⟩
 ·rw [if_pos h,xB];exact ⟨.inl,fun k=>k.elim id (fun q=>absurd ((tL _ _).2 q.1) h)⟩
theorem rh (a b:K2):ltOf eC a b=decide (zm a b):=by rw [ltOf,decide_eq_decide];exact MA a b
theorem Nu:SWO (ltOf eC) where
 irrefl x:=by rw [rh];exact decide_eq_false (fO x)
 trans x y z h1 h2:=by rw [rh,decide_eq_true_eq] at *; exact gY h1 h2
 ntrans x y z h1 h2:=by
  rw [rh,decide_eq_false_iff_not] at *;intro h
  rcases ny y z with q|q|q
  ·exact h2 q
  ·rw [q] at h1;exact h1 h
  ·exact h1 (gY h q)
def mc (l:List K2):List K2:=l.mergeSort (fun x y=> !(ltOf eC) y x)
theorem It {vis:List K2} {l:PL} (hp:vis.Perm (l.map Prod.fst)) (hn:(l.map Prod.fst).Nodup):mc vis=(b8 l).map Prod.fst:=by
 have h1:(mc vis).Pairwise (fun x y=>(!(ltOf eC) y x)=true):=List.pairwise_mergeSort (fun a b c h1 h2=>by
  simp only [rh,WC,decide_eq_false_iff_not] at *;intro h
  rcases ny a b with q|q|q
  ·exact h2 (gY h q)
  ·rw [q] at h;exact h2 h
  ·exact h1 q) (fun a b=>by
  simp only [rh,Bool.or_eq_true,WC,decide_eq_false_iff_not]
  by_cases h:zm b a
  ·exact .inr (fun k=>fO _ (gY h k))
  ·exact .inl h) vis
 have h2:(mc vis).Perm (l.map Prod.fst):=(List.mergeSort_perm vis _).trans hp;have h3:(mc vis).Nodup:=h2.nodup_iff.2 hn
 have h4:(mc vis).Pairwise zm:=by
  rw [List.nodup_iff_pairwise_ne] at h3;refine (h1.and h3).imp fun {a b} h=> ?_;obtain ⟨q,r⟩:=h;rw [rh,WC,decide_eq_false_iff_not] at q
  rcases ny a b with k|k|k
  ·exact k
  ·exact absurd k r
  ·exact absurd k q
 have h5:=mU hn;have h6:=(cW l).map Prod.fst
 have e:=sr (l:=(mc vis).map fun k=>(k,0)) (m:=((b8 l).map Prod.fst).map fun k=>(k,0)) (by rw [fG,Xz];exact h4) (by rw [fG,Xz,Xz];exact h5) (fun p=>by
  have:mc vis |>.Perm ((b8 l).map Prod.fst):=h2.trans h6.symm
  exact (this.map fun k=>(k,(0:Int))).mem_iff)
 have key: ∀l:List K2,(l.map fun k=>(k,(0:Int))).map Prod.fst=l:=fun l=>by induction l<;>simp_all
 have:=congrArg (List.map Prod.fst) e
 rw [key,key] at this;exact this
theorem Bn (d:List K2) (hl:d.length<=1000000):aK Tryz.prog 98 [.vec 0 d.length, .fn 60 [] []] [some ⟨74,2,true,d.map aX⟩] (.cy []) [some ⟨74,2,true,(mc d).map aX⟩]:=by
 have one: ∀a, ∀v∈B3 a,v.oneCell'=true:=fun a v hv=>by simp [B3] at hv;rcases hv with rfl|rfl<;>rfl
 have va: ∀D nu w o vargs,fE D nu o w [.fn 60 [] []] vargs->vargs = #[.func (.func 60) #[] #[]]:=fun D nu w o vargs h=>by
  obtain ⟨x,rfl,hx⟩:=di h
  cases hx with
  | fn _ _ _ fi ca h1 h2 _ _=>
   have e1:fi = #[]:=by simpa using h1.symm
   have e2:ca = #[]:=by simpa using h2.symm
   rw [e1,e2]
 refine aK.Po (enc:=B3) (k:=2) (d:=d) (d':=mc d) (fun _=>rfl) (by omega) one (by rw [mc,List.length_mergeSort]) (by kernel_rfl) (fun D nu w vargs cap blk hro hra hH hb h1 h2=> ?_) (fun h0 D nu w vargs hro hra=> ?_)
 ·rw [va _ _ _ _ _ hra];have eg: ∀args w,(callFunc 60 args).run Tryz.prog w = .ok (.enter 60 args) w:=enters_of Tryz.func60 (by kernel_rfl) rfl
  have:=AnyQ.slices_SortFunc_total uH 2 (fun w=>by kernel_rfl) (fun w=>by kernel_rfl) B3 (fun _=>rfl) one eC Nu 60 #[] blk 0 cap d.toArray w eg (fun m os dk _ x y=>Hr x y _) hH hb (by simp;omega) (fun x y h1 h2=>by
   rw [rh,decide_eq_false_iff_not] at h1 h2
   rcases ny x y with q|q|q
   ·exact absurd q h1
   ·exact q
   ·exact absurd q h2)
  simp only [List.size_toArray] at this;exact this
 ·rw [va _ _ _ _ _ hra]
  have:=AnyF.slices_SortFunc_none uH none 0 (.func (.func 60) #[] #[]) w
  refine this.mono ?_;rintro e w' ⟨rfl,rfl⟩;exact ⟨rfl,Below.refl _ _⟩
theorem wm {gf:FuncId} {caps:List AV} (l:PL) (hn:(l.map Prod.fst).Nodup) (hl:l.length<=1000000) (hs:zD true Tryz.prog gf caps [] (dL (l.map Prod.fst))) (hw:bp 0 caps=true) :
  aK Tryz.prog 63 [.fn gf [] caps, .fn 60 [] []] [] (.vec 1 l.length) [none,some ⟨74,2,true,(b8 l).map fun p=>aX p.1⟩]:=by
 have C:=Ae (l.map Prod.fst) (by simpa using hl) hs hw
 (refine aK.enter Tryz.func63 rfl (by kernel_rfl) (by kernel_rfl) rfl ?_;simp only [Tryz.ntmps63,Tryz.results63,List.length_cons,List.length_nil,Nat.reduceAdd,Nat.reduceSub,List.replicate_succ,List.replicate_zero,WY,WZ])
 repeat (first|(with_reducible first|refine ag.up ?_|refine fun (K:AK) hK=> ?_|(refine hK _ ?_;clear hK K))|simp only [go_sem]|with_reducible refine wA ?_|clear hK K)
 refine ab.two C ?_;rintro r o' ⟨vis,hp,rfl,rfl⟩
 have hv:vis.length=l.length:=by have:=hp.length_eq;simpa using this
 have S:=Bn vis (by omega);rw [It hp hn,List.map_map] at S
 repeat (first|(with_reducible first|refine ag.up ?_|refine fun (K:AK) hK=> ?_|(refine hK _ ?_;clear hK K))|simp only [go_sem]|with_reducible refine wA ?_|clear hK K)
 refine ab.fr [1] S (by simp) ?_ ?_ ?_ ?_ ?_
 ·simp only [List.map_cons,List.map_nil,List.getElem?_cons_zero,List.getElem?_cons_succ,VB,aa.aV,aS _ _ (oa _ _)]
 ·rfl
 ·rfl
 ·intro k ob hk
  match k,hk with
  | 0,hk=>cases hk;exact oa _ _
  | k+1,hk=>simp at hk
 have eW: ∀n,bZ n ((b8 l).map (aX ∘ Prod.fst))=true:=fun n=>aZ _ (fun _=>rfl) _;simp only [dW,List.set_cons_zero,List.set_cons_succ,VB,Option.map_none,aa.aV,aS _ _ (eW 0),WZ,Wj,List.map_nil,List.length_cons,List.length_nil,Nat.reduceAdd,WY];rw [hv]
 repeat (first|(with_reducible first|refine ag.up ?_|refine fun (K:AK) hK=> ?_|(refine hK _ ?_;clear hK K))|simp only [go_sem]|with_reducible refine wA ?_|clear hK K)
 (refine ⟨?_, ?_, ?_⟩<;>simp only [aW,aY,AV.v.injEq,Value.int.injEq,Value.bool.injEq,Value.string.injEq,AV.vec.injEq,AV.ptr.injEq,true_or,or_true,false_or,or_false,aa.mk.injEq,forall_eq_apply_imp_iff,forall_eq,forall_eq',go_sem])
 exact ⟨rfl,aZ _ (fun _=>rfl) _⟩
def vC (e:a8):List (ByteArray×List a8)->List (ByteArray×List a8)
 | []=>[(e.aD,[e])]
 | p :: G=>if p.1=e.aD then (p.1,p.2++[e]) :: G else p :: vC e G
def lY:List (ByteArray×List a8)->ByteArray->Option (List a8)
 | [],_=>none
 | p :: G,k=>if p.1=k then some p.2 else lY G k
def xV (E:List a8):List (ByteArray×List a8):=E.foldl (fun G e=>vC e G) []
theorem xS (e:a8) (v:ByteArray): ∀G,(lY (vC e G) v).getD []=(lY G v).getD []++if e.aD=v then [e] else []
 | []=>by
  simp only [vC,lY]
  by_cases h:e.aD=v
  ·simp [h]
  ·simp [h]
 | p :: G=>by
  rw [vC]
  by_cases h:p.1=e.aD
  ·rw [if_pos h];simp only [lY]
   by_cases k:p.1=v
   ·rw [if_pos k,if_pos k,if_pos (h ▸ k)];rfl
   ·rw [if_neg k,if_neg k,if_neg (fun q=>k (h.trans q)),Wj]
  ·rw [if_neg h];simp only [lY]
   by_cases k:p.1=v
   ·rw [if_pos k,if_pos k,if_neg (fun q=>h (k.trans q.symm)),Wj]
   ·rw [if_neg k,if_neg k];exact xS e v G
theorem GJ (E:List a8) (v:ByteArray):(lY (xV E) v).getD []=gO E v:=by
 have key: ∀(E:List a8) (G:List (ByteArray×List a8)),(lY (E.foldl (fun G e=>vC e G) G) v).getD []=(lY G v).getD []++gO E v:=by
  intro E
  induction E with
  | nil=>intro G;simp [gO]
  | cons e E ih=>
   intro G;rw [List.foldl_cons,ih,xS,List.append_assoc]
   congr 1
   by_cases h:e.aD=v
   ·simp [gO,h]
   ·simp [gO,h]
 have:=key E []
 simpa [xV,lY] using this
section
variable {D:Nat->Prop} {nu:Nat->Nat->Value} {o:List (Option aa)} {w:World} {P:Program}
def L9 (P:Program) (oo:Oper) (s:AS) (r:AV) (o':List (Option aa)):Prop:= ∀(f:Fr) (D:Nat->Prop) (nu:Nat->Nat->Value) (a:Act) (w:World),RS f D nu s a w-> ∃v w' nu',(execOp a.eval oo).run P w = .ok (.value v) w'∧bt nu s.o w nu' o' w'∧RO D nu' o' w'∧RA D nu' o' w' r v
def mg (P:Program) (all ops:List Oper) (s:AS) (Q:AS->Prop):Prop:= ∀(f:Fr) (m:WM P) (rest:List Oper) (R:Exit->Act->World->Prop),(∀l,f.r=some l->m.fix l)-> ∀(a:Act) (w:World) (D:Nat->Prop) (nu:Nat->Nat->Value),(∀oo,oo∈ops-> ∀c,oo.op ≠ .defer c)->m.M D nu s.o f.Z s.y w->RS f D nu s a w ->
  (∀D' s' a' w' nu',m.M D' nu' s'.o f.Z s'.y w'->RS f D' nu' s' a' w'->Q s'->wpListIn (WF f.r) 9 P all.toArray R rest a' w')->wpListIn (WF f.r) 9 P all.toArray R (ops++rest) a w
theorem Io {all:List Oper} {oo:Oper} {s:AS} {Q:AS->Prop} (hq:pz P all oo s Q):mg P all [oo] s Q:=fun f m rest R hZr a w D nu hcalm hm hs hR=>by
 have hrun:AY P oo.op oo.dst s Q->oo.wpIn (WF f.r) 9 P a w (wpListIn (WF f.r) 9 P all.toArray R rest) R:=fun hd=>
  BW m hZr (hcalm oo List.mem_cons_self) hm hs hd (fun D' v w' nu' s' m1 m2 m3=>hR D' s' _ w' nu' m1 m2 m3)
 have hskip:Q (s.put oo.dst (.v Go.undef) s.o)->wpListIn (WF f.r) 9 P all.toArray R rest (a.put oo.dst Go.undef) w:=fun hd=>
  hR D _ _ w nu (by simpa only [AS.put] using hm) (hs.put (.refl nu s.o w) hs.ro (.v _) oo.dst) hd
 simp only [pz] at hq;simp only [WY,WZ,wpListIn]
 split at hq
 ·rename_i hg
  have:Region.wanted oo (yielded all.toArray a.tmps)=true:=by simp [Region.wanted,hg]
  rw [if_pos this];exact hrun hq
 ·rename_i j want hg;unfold sR at hq
  split at hq
  ·rename_i b e;have hy:=fa (w:=w) (fun d c x _ h1 h2=>hs.tm.at' d c x h1 h2) hs.tm.len e
   have hw:Region.wanted oo (yielded all.toArray a.tmps)=(b==want):=by simp [Region.wanted,hg,hy]
   rw [hw]
   cases hb:b==want
   ·rw [hb] at hq;simp only [Bool.false_eq_true,if_false];exact ⟨fun f _=>trivial,hskip hq⟩
   ·rw [hb] at hq;simp only [if_true];exact hrun hq
  ·rename_i e;have hy:=fa (w:=w) (fun d c x _ h1 h2=>hs.tm.at' d c x h1 h2) hs.tm.len e
   have hw:Region.wanted oo (yielded all.toArray a.tmps)=false:=by simp [Region.wanted,hg,hy]
   rw [hw];simp only [Bool.false_eq_true,if_false];exact ⟨fun f _=>trivial,hskip hq⟩
  ·exact hq.elim
theorem yM {all:List Oper} {oo:Oper} {l:List Oper} {s:AS} {Q:AS->Prop} (h:mg P all [oo] s (fun s'=>mg P all l s' Q)):mg P all (oo :: l) s Q:=fun f m rest R hZr a w D nu hcalm hm hs hR=>
 h f m (l++rest) R hZr a w D nu (fun o ho=>hcalm o (by simp at ho;simp [ho])) hm hs (fun D' s' a' w' nu' m1 m2 m3=>m3 f m rest R hZr a' w' D' nu' (fun o ho=>hcalm o (List.mem_cons_of_mem _ ho)) m1 m2 hR)
theorem K4 {all:List Oper} {s:AS} {Q:AS->Prop} (h:Q s):mg P all [] s Q:=fun f m rest R hZr a w D nu hcalm hm hs hR=>hR D s a w nu hm hs h
theorem mg.mono {all l:List Oper} {s:AS} {Q Q':AS->Prop} (h:mg P all l s Q) (k: ∀s',Q s'->Q' s'):mg P all l s Q':=fun f m rest R hZr a w D nu hcalm hm hs hR=>h f m rest R hZr a w D nu hcalm hm hs (fun D' s' a' w' nu' m1 m2 m3=>hR D' s' a' w' nu' m1 m2 (k s' m3))
theorem K3 {all l1 l2:List Oper} {s:AS} {Q:AS->Prop} (h:mg P all l1 s (fun s'=>mg P all l2 s' Q)):mg P all (l1++l2) s Q:=fun f m rest R hZr a w D nu hcalm hm hs hR=>by
 rw [List.append_assoc];exact h f m (l2++rest) R hZr a w D nu (fun o ho=>hcalm o (List.mem_append_left _ ho)) hm hs (fun D' s' a' w' nu' m1 m2 m3=>m3 f m rest R hZr a' w' D' nu' (fun o ho=>hcalm o (List.mem_append_right _ ho)) m1 m2 hR)
theorem wk {all:List Oper}: ∀ {l:List Oper} {s:AS} {Q:AS->Prop},gK P all l s Q->mg P all l s Q
 | [],_,_,h=>K4 h
 | oo :: l,s,Q,h=>yM ((Io (Q:=fun s'=>gK P all l s' Q) h).mono (fun s' h=>wk h))
theorem K5 {all:List Oper} {oo:Oper} {s:AS} {Q:AS->Prop} (r:AV) (o':List (Option aa)) (hg:oo.guard=none) (h:L9 P oo s r o') (k:Q (s.put oo.dst r o')):mg P all [oo] s Q:=fun f m rest R hZr a w D nu hcalm hm hs hR=>by
 have hw:Region.wanted oo (yielded all.toArray a.tmps)=true:=by simp [Region.wanted,hg]
 simp only [WY,WZ,wpListIn];rw [if_pos hw];obtain ⟨v,w',nu',h1,h2,h3,h4⟩:=h f D nu a w hs;refine ⟨fun f _=>trivial, ?_⟩;rw [Oper.semAt_eq _ _ oo (hcalm oo List.mem_cons_self),h1];exact hR D (s.put oo.dst r o') _ w' nu' (m.own hm hs.ro h2 h3) (hs.put h2 h3 h4 oo.dst) k
theorem JI {n0 id:Nat} {s:AS} {l:List Oper} {Q:aR->AS->Prop} (hok:dy l.toArray=true) (h:mg P l l s (Q .normal)):bS P n0 (.region id l.toArray false) s Q:= .inr (fun f m D nu a w hZr hn hm hs hmx R hO hR=>wpIn_region_list (by
 have:=h f m [] R hZr a w D nu (xy hok) hm hs (fun D' s' a' w' nu' h1 h2 h3=>hR .normal D' f.Z s' a' w' nu' h1 h2 h3)
 simpa using this))
theorem JG {n0 id:Nat} {s:AS} {l:List Oper} {Q:aR->AS->Prop} (n:Nat) {oo:Oper} (hoo:l[n]? = some oo) (hok:dy l.toArray=true) (hg:oo.guard=none) (h:gK P l (l.take n) s (fun s1=> ∃r o',L9 P oo s1 r o'∧gK P l (l.drop (n+1)) (s1.put oo.dst r o') (Q .normal))):bS P n0 (.region id l.toArray false) s Q:=by
 refine JI hok ?_;have hn:=(U4.1 hoo);obtain ⟨hn,rfl⟩:=hn
 have e:l=l.take n++(l[n] :: l.drop (n+1)):=by rw [List.getElem_cons_drop,List.take_append_drop]
 have key:mg P l (l.take n++(l[n] :: l.drop (n+1))) s (Q .normal):=K3 ((wk h).mono (fun s1 ⟨r,o',h1,h2⟩=>yM (K5 r o' hg h1 (wk h2))));rw [<-e] at key;exact key
theorem JW (h:RO D nu o w) {id:Nat} {ob:aa} (ho:o[id]? = some (some ob)) (hv:ob.du=true) {k:Nat} (hk:k<=ob.rows.length) :
  ∃ad cap,nu id ob.rows.length = .slice ad ob.rows.length cap∧ob.rows.length<=cap∧(ad=none->cap=0)∧(∀a,ad=some a->a.off=0)∧bt nu o w (cN nu o.length (.slice ad k cap)) (o.set id none++[some { ob with rows:=ob.rows.take k }]) w∧RO D (cN nu o.length (.slice ad k cap)) (o.set id none++[some { ob with rows:=ob.rows.take k }]) w:=by
 have hidl:=(U4.1 ho).1
 have hhl:ob.hl=ob.rows.length:=by rw [aa.hl,hv,if_pos rfl]
 rcases h.obj id ob ho with ⟨e1,e2,e3⟩|⟨g,cur,hb⟩|⟨g,es,cl,hmp⟩
 rotate_left 2
 ·rw [hmp.du] at hv;cases hv
 ·have hkm:=cH (nu:=nu) (o:=o) (w:=w) id;have hkr:=iN h id
  have hv': ∀b,b9 (Value.slice none 0 0)=some b->w.heap.size<=b:=fun b e=>by cases e
  have hpm:=dv (nu:=nu) (o:=o.set id none) (ob:=⟨ob.T,ob.z,ob.du,[]⟩) (Below.refl w.heap.size w) hv';have hpr:=gP (ob:=⟨ob.T,ob.z,ob.du,[]⟩) hkr (Below.refl w.heap.size w) hv' (.inl ⟨hv,rfl,rfl⟩)
  have hk0:k=0:=by rw [e2] at hk;simpa using hk
  subst hk0;simp only [List.length_set] at hpm hpr;have er:ob.rows.take 0=[]:=rfl;rw [e2] at *;exact ⟨none,0,by simpa using e3,UZ _,fun _=>rfl,fun a e=>(by cases e),hkm.trans hpm,hpr⟩
 ·obtain ⟨cap,c1,c2,c3,c4⟩:=hb.vec hv;have hbk:b9 (nu id ob.hl)=some g:=hb.bg
  have hl:(o.set id none).length=o.length:=by simp
  have hkl:(ob.rows.take k).length=k:=by simp;omega
  generalize hob:({ ob with rows:=ob.rows.take k }:aa)=ob2
  have hob2:ob2.rows=ob.rows.take k∧ob2.z=ob.z∧ob2.du=true∧ob2.T=ob.T:=by rw [<-hob];exact ⟨rfl,rfl,hv,rfl⟩
  have hh2:ob2.hl=k:=by rw [aa.hl,hob2.2.2.1,if_pos rfl,hob2.1,hkl]
  have hold: ∀id',id'<o.length->(o.set id none++[some ob2])[id']? = (o.set id none)[id']? :=fun id' h=>U5 (by rw [hl];exact h)
  have hnew:(o.set id none++[some ob2])[o.length]? = some (some ob2):=by rw [<-hl,U7]
  have hm:bt nu o w (cN nu o.length (.slice (some ⟨g,0,none⟩) k cap)) (o.set id none++[some ob2]) w:=by
   refine ⟨rfl,rfl,rfl,UZ _,fun id' len hh=> ?_,fun b hbl hno=> ?_⟩
   ·have hlt':=gd hh;obtain ⟨x,h1,h2⟩:=hh;refine ⟨?_,ba hlt'⟩
    by_cases he:id=id'
    ·subst he;exact ⟨none,by rw [hold _ hlt',List.getElem?_set_self hidl],fun _ e=>by cases e⟩
    ·exact ⟨x,by rw [hold _ hlt',List.getElem?_set_ne he];exact h1,h2⟩
   ·refine ⟨rfl,fun ⟨id',ob',h1,h2⟩=> ?_⟩
    rcases U6 id' o.length with q|q
    ·rw [hold _ q] at h1;rw [ba q] at h2;exact hno ⟨id',ob',(cK h1).1,h2⟩
    ·obtain rfl:id'=o.length:=by
      have:=(U4.1 h1).1
      simp at this;omega
     rw [aQ] at h2;cases h2;exact hno ⟨id,ob,ho,hbk⟩
  refine ⟨some ⟨g,0,none⟩,cap,c1,c2,fun e=>(by cases e),fun a e=>(by cases e;rfl),hm,fun id' ob' h1=> ?_,h.up,fun i1 i2 b1 b2 b k1 k2 hne k3 k4=> ?_,h.gl.mono hm (fun _ _ h=>h)⟩
  ·rcases U6 id' o.length with q|q
   ·rw [hold _ q] at h1;obtain ⟨h2,h3⟩:=cK h1
    rcases h.obj id' ob' h2 with ⟨e1,e2,e3⟩|⟨g',c,hr'⟩|⟨g',es,cl,hmp⟩
    ·exact .inl ⟨e1,e2,by rw [ba q];exact e3⟩
    ·exact .inr (.inl ⟨g',c,hr'.blk,hr'.ko,fun e=>by rw [ba q];exact hr'.box e,fun e=>by rw [ba q];exact hr'.vec e,hr'.z,hr'.row,fun i j row cc x q1 q2 q3=>(hr'.cell i j row cc x q1 q2 q3).mono hm (fun _ _ h=>h),hr'.one⟩)
    ·exact .inr (.inr ⟨g',es,cl,hmp.tr rfl (fun h=>h) (ba q) (fun i j row c x _ _ hr=>hr.mono hm (fun _ _ h=>h))⟩)
   ·obtain rfl:id'=o.length:=by
     have:=(U4.1 h1).1
     simp at this;omega
    rw [hnew] at h1;cases h1
    have hg: ∀(i:Nat) row,ob2.rows[i]? = some row->ob.rows[i]? = some row:=fun i row hi=>by
     rw [hob2.1,List.getElem?_take] at hi
     split at hi
     ·exact hi
     ·cases hi
    refine .inr (.inl ⟨g,cur,by rw [hob2.2.2.2];exact hb.blk,hb.ko,fun e=>(by rw [hob2.2.2.1] at e;cases e),fun _=>⟨cap,by rw [aQ,hob2.1,hkl],by rw [hob2.1,hkl];omega,c3,by rw [hob2.2.1];exact c4⟩,by rw [hob2.2.1];exact hb.z,fun i row hi=>by rw [hob2.2.1];exact hb.row i row (hg i row hi),fun i j row c x q1 q2 q3=> ?_,fun i j row c x q1 q2 q3=> ?_⟩)
    ·rw [hob2.2.1] at q3;exact (hb.cell i j row c x (hg i row q1) q2 q3).mono hm (fun _ _ h=>h)
    ·rw [hob2.2.1] at q3;exact hb.one i j row c x (hg i row q1) q2 q3
  ·have side: ∀i1 i2 b1 b2,(o.set id none++[some ob2])[i1]? = some (some b1)->(o.set id none++[some ob2])[i2]? = some (some b2)->i1<o.length->o.length<=i2->b9 (cN nu o.length (.slice (some ⟨g,0,none⟩) k cap) i1 b1.hl)=some b->b9 (cN nu o.length (.slice (some ⟨g,0,none⟩) k cap) i2 b2.hl)=some b->False:=fun i1 i2 b1 b2 k1 k2 l1 l2 k3 k4=>by
    obtain rfl:i2=o.length:=by
     have:=(U4.1 k2).1
     simp at this;omega
    rw [aQ] at k4;cases k4;rw [hold _ l1] at k1;obtain ⟨h2,h3⟩:=cK k1;rw [ba l1] at k3;exact h.sep id i1 ob b1 _ ho h2 h3 hbk k3
   rcases U6 i1 o.length with l1|l1
   ·rcases U6 i2 o.length with l2|l2
    ·rw [hold _ l1] at k1;rw [hold _ l2] at k2;rw [ba l1] at k3;rw [ba l2] at k4;exact h.sep i1 i2 b1 b2 b (cK k1).1 (cK k2).1 hne k3 k4
    ·exact side i1 i2 b1 b2 k1 k2 l1 l2 k3 k4
   ·rcases U6 i2 o.length with l2|l2
    ·exact side i2 i1 b2 b1 k2 k1 l2 l1 k4 k3
    ·have e1:=(U4.1 k1).1;have e2:=(U4.1 k2).1;simp at e1 e2;omega
theorem My {oo:Oper} {s:AS} {T:TypeId} {x h:Operand} {id len:Nat} {ob:aa} {kk:IntKind} {k:Nat} (hop:oo.op = .slice T x none (some h) none) (hx:s.ev x = .vec id len) (hh:s.ev h = .v (.int kk k)) (ho:s.o[id]? = some (some ob)) (hv:ob.du=true) (hl:ob.rows.length=len) (hz:Qa P T=some ob.z) (hk:k<=len) :
  L9 P oo s (.vec s.o.length k) (s.o.set id none++[some { ob with rows:=ob.rows.take k }]):=fun f D nu a w hs=>by
 subst hl;obtain ⟨ad,cap,c1,c2,c3,c4,hm,hr⟩:=JW hs.ro ho hv hk;have ex:=hs.ev x;rw [hx] at ex
 have ex':a.eval x=nu id ob.rows.length:=by
  generalize a.eval x=y at ex;cases ex;rfl
 have eh:a.eval h = .int kk k:=(hs.ev h).LV hh;obtain ⟨e,hu,hsz⟩:=lq hz;have hb:=cI (P:=P) (w:=w) (b:=true) (len:=ob.rows.length) (cap:=cap) (l:=0) (h:=k) (m:=cap) (lo:=none) (hi:=some (.int kk k)) (mx:=none) (.inl ⟨rfl,rfl⟩) (.inr ⟨kk,rfl⟩) (.inl ⟨rfl,rfl⟩) (Nat.zero_le _) (by omega) (UZ _)
 have hlen:(ob.rows.take k).length=k:=by simp;omega
 refine ⟨.slice ad k cap,w,_, ?_,hm,hr, ?_⟩
 ·simp only [execOp,hop];simp only [Sem.run_bind,VB,Option.map_none,ex',c1,eh]
  cases ad with
  | none=>
   have:=c3 rfl
   subst this;simp [Instr.sliceAt,Instr.slice,run_underlying hu,hb,run_sizeOf hsz]
  | some a=>
   have:=c4 a rfl
   obtain ⟨g,off,fr⟩:=a;simp only at this;subst this;simp [Instr.sliceAt,Instr.slice,run_underlying hu,hb,run_sizeOf hsz,Addr.add]
 ·have:=RA.vec (D:=D) (nu:=cN nu s.o.length (.slice ad k cap)) (o:=(s.o.set id none++[some { ob with rows:=ob.rows.take k }])) (w:=w) s.o.length k ⟨some { ob with rows:=ob.rows.take k },by rw [<-List.length_set (i:=id) (a:=none),U7],fun x hx=>by cases hx;simp [aa.hl,hv,hlen]⟩ (by rw [aQ];rfl)
  rw [aQ] at this;exact this
theorem v7 {n id:Nat} {ob:aa} (h:(o++List.replicate n none)[id]? = some (some ob)):o[id]? = some (some ob):=by
 rcases U6 id o.length with q|q
 ·rwa [U5 q] at h
 ·rw [List.getElem?_append_right q,List.getElem?_replicate] at h
  split at h<;>cases h
theorem sa (n:Nat):bt nu o w nu (o++List.replicate n none) w:=⟨rfl,rfl,rfl,UZ _,fun id len hh=>⟨by
 obtain ⟨x,h1,h2⟩:=hh
 exact ⟨x,by rw [U5 (U4.1 h1).1];exact h1,h2⟩,rfl⟩,fun b _ hno=>⟨rfl,fun ⟨id,ob,h1,h2⟩=>hno ⟨id,ob,v7 h1,h2⟩⟩⟩
theorem MW (h:RO D nu o w) (n:Nat):RO D nu (o++List.replicate n none) w:=by
 have hm:=sa (nu:=nu) (o:=o) (w:=w) n;refine ⟨fun id ob k1=> ?_,h.up,fun i1 i2 b1 b2 b k1 k2=>h.sep i1 i2 b1 b2 b (v7 k1) (v7 k2),h.gl.mono hm (fun _ _ h=>h)⟩
 rcases h.obj id ob (v7 k1) with e|⟨g,cur,hr⟩|⟨g,es,cl,hmp⟩
 ·exact .inl e
 ·exact .inr (.inl ⟨g,cur,hr.blk,hr.ko,hr.box,hr.vec,hr.z,hr.row,fun i j row c x q1 q2 q3=>(hr.cell i j row c x q1 q2 q3).mono hm (fun _ _ h=>h),hr.one⟩)
 ·exact .inr (.inr ⟨g,es,cl,hmp.tr rfl (fun h=>h) rfl (fun i j row c x _ _ hr=>hr.mono hm (fun _ _ h=>h))⟩)
theorem aK.pad {f:FuncId} {args:List AV} {o1:List (Option aa)} {r:AV} (h:aK P f args o r o1) (n:Nat):aK P f args o r (o1++List.replicate n none):=
 ⟨h.1,fun D nu w vargs hro hra=>(h.2 D nu w vargs hro hra).mono (by
  rintro e w' ⟨v,nu',o',r',rfl,hm,hr,hx,rfl,rfl⟩
  exact ⟨v,nu',_,r',rfl,hm.trans (sa n),MW hr n,hx.mono (sa n) (fun _ _ h=>h),rfl,rfl⟩)⟩
end
end
def mG (l:List dC):List (Option aa):=[some ⟨162,2,false,[[.vec 1 l.length, .v (.bool true)]]⟩,some ⟨115,2,true,l.map aM⟩]
theorem aA (n:Nat) (l:List dC):bZ n (l.map aM)=true:=aZ _ (fun _=>rfl) _
theorem gB {l:List dC} {j:Nat} (h:j<l.length):(l.map aM).getD j []=[.v (.int .i64 (aC l j).1), .v (.int .i64 (aC l j).2)]:=by
 rw [getD_map aM l j [] h,kU h];rfl
theorem GQ {l:List dC} {k u:Nat} (hk:k<l.length) (hu:u<l.length) (hne:k≠u) (X:List AV):((l.map aM).set k X).getD u []=[.v (.int .i64 (aC l u).1), .v (.int .i64 (aC l u).2)]:=by
 rw [<-gB hu,VX,VX,List.getElem?_set_ne hne]
theorem yV (l:List dC) (k u:Nat):((l.map aM).set k [.v (.int .i64 (aC l u).1), .v (.int .i64 (aC l u).2)]).set u [.v (.int .i64 (aC l k).1), .v (.int .i64 (aC l k).2)]=(swp l k u).map aM:=by
 rw [swp,XA,XA];rfl
theorem AL (a:AV) (b:Bool) (ha:a.wf 0=true):ah Tryz.prog 92 [.vp [a, .v (.bool b)]] (.v (.bool b)):=by
 (refine ah.enter Tryz.func92 rfl (by kernel_rfl) (by kernel_rfl) rfl (by simp only [go_sem,bp,AV.wf,WT,Wg,Wn,ha]) (by simp only [go_sem,bp,AV.wf,dB,WT,Wg,Wn,ha]) ?_;simp only [Tryz.ntmps92,Tryz.results92,U9,U3,Nat.reduceAdd,Nat.reduceSub,WW,WX,WY,WZ])
 repeat (first|(with_reducible first|refine ag.up ?_|refine fun (K:AK) hK=> ?_|(refine hK _ ?_;clear hK K))|simp only [go_sem,Bool.not_false]|clear hK K)
theorem MH (l:List dC):ah Tryz.prog 132 [.vp [.aH 2 (l.map aM) l.length, .v (.bool true)]] (.v (.int .i64 l.length)):=by
 have M:=AL (.aH 2 (l.map aM) l.length) true (by simp only [AV.wf,aA])
 (refine ah.enter Tryz.func132 rfl (by kernel_rfl) (by kernel_rfl) rfl (by simp only [go_sem,bp,AV.wf,WT,Wg,Wn,aA]) (by simp only [go_sem,bp,AV.wf,dB,WT,Wg,Wn,aA]) ?_;simp only [Tryz.ntmps132,Tryz.results132,U9,U3,Nat.reduceAdd,Nat.reduceSub,WW,WX,WY,WZ])
 repeat (first|(with_reducible first|refine ag.up ?_|refine fun (K:AK) hK=> ?_|(refine hK _ ?_;clear hK K))|simp only [go_sem]|clear hK K)
 refine ab.one M ?_
 repeat (first|(with_reducible first|refine ag.up ?_|refine fun (K:AK) hK=> ?_|(refine hK _ ?_;clear hK K))|simp only [go_sem]|clear hK K)
theorem B8 (l:List dC) (hl:l.length<=1000000):aK Tryz.prog 94 [.ptr 0 0 2 0 0] (mG l) (.cy [.agg (aM (aC l 0)), .v (.bool (decide (l≠[])))]) (mG l):=by
 have M:=MH l;simp only [mG,aM]
 by_cases h:l=[]
 ·subst h;have d0:(((0:Nat):Int)==0)=true:=rfl
  (refine aK.enter Tryz.func94 rfl (by kernel_rfl) (by kernel_rfl) rfl ?_;simp only [Tryz.ntmps94,Tryz.results94,U9,U3,Nat.reduceAdd,Nat.reduceSub,WW,WX,WY,WZ])
  repeat (first|(with_reducible first|refine ag.up ?_|refine fun (K:AK) hK=> ?_|(refine hK _ ?_;clear hK K))|simp only [go_sem]|with_reducible refine wA ?_|clear hK K)
  refine ab.Ff M 8 rfl (by simp only [go_sem,Nat.reduceLT,Nat.reduceLeDiff,Nat.reduceEqDiff,XB,XE,and_self,aA]) rfl ?_
  repeat (first|(with_reducible first|refine ag.up ?_|refine fun (K:AK) hK=> ?_|(refine hK _ ?_;clear hK K))|simp only [go_sem,d0]|with_reducible refine wA ?_|clear hK K)
  (refine ⟨?_, ?_, ?_⟩<;>simp only [aW,aY,AV.v.injEq,Value.int.injEq,Value.bool.injEq,Value.string.injEq,AV.vec.injEq,AV.ptr.injEq,true_or,or_true,false_or,or_false,aa.mk.injEq,forall_eq_apply_imp_iff,forall_eq,forall_eq',go_sem])
  all_goals first|rfl|trace_state
 ·have hpos:0<l.length:=XF.2 h
  have e1:((l.length:Int)==0)=false:=by rw [beq_eq_false_iff_ne];omega
  have e2:=gB hpos;rw [show decide (l≠[])=true from decide_eq_true h]
  (refine aK.enter Tryz.func94 rfl (by kernel_rfl) (by kernel_rfl) rfl ?_;simp only [Tryz.ntmps94,Tryz.results94,U9,U3,Nat.reduceAdd,Nat.reduceSub,WW,WX,WY,WZ])
  repeat (first|(with_reducible first|refine ag.up ?_|refine fun (K:AK) hK=> ?_|(refine hK _ ?_;clear hK K))|simp only [go_sem]|with_reducible refine wA ?_|clear hK K)
  refine ab.Ff M 8 rfl (by simp only [go_sem,Nat.reduceLT,Nat.reduceLeDiff,Nat.reduceEqDiff,XB,XE,and_self,aA]) rfl ?_
  repeat (first|(with_reducible first|refine ag.up ?_|refine fun (K:AK) hK=> ?_|(refine hK _ ?_;clear hK K))|simp only [go_sem,e1,e2]|with_reducible refine wA ?_|clear hK K)
  (refine ⟨?_, ?_, ?_⟩<;>simp only [aW,aY,AV.v.injEq,Value.int.injEq,Value.bool.injEq,Value.string.injEq,AV.vec.injEq,AV.ptr.injEq,true_or,or_true,false_or,or_false,aa.mk.injEq,forall_eq_apply_imp_iff,forall_eq,forall_eq',go_sem])
  all_goals first|rfl|exact aA _ _|trace_state
theorem Nc (l:List dC) (k:Nat) (hk:k<l.length) (hl:l.length<=1000000):aK Tryz.prog 93 [.ptr 0 0 2 0 0, .v (.int .i64 k)] (mG l) (.cy []) (mG (lj k l k)):=by
 simp only [mG];generalize hR:lj k l k=R
 have hRl:R.length=l.length:=by rw [<-hR];exact (mP k l k hk).length_eq
 (refine aK.enter Tryz.func93 rfl (by kernel_rfl) (by kernel_rfl) rfl ?_;simp only [Tryz.ntmps93,Tryz.results93,U9,U3,Nat.reduceAdd,Nat.reduceSub,WW,WX,WY,WZ])
 repeat (first|(with_reducible first|refine ag.up ?_|refine fun (K:AK) hK=> ?_|refine wD ?_|refine ae (by decide) ?_|refine ay (by decide) ?_|(refine hK _ ?_;clear hK K))|simp only [go_sem]|with_reducible refine wA ?_|(refine ax rfl ?_)|clear hK K)
 refine bI (ι:=List dC×Nat×Nat) 2 (fun x=>[(1, .v (.int .i64 (x.2.1:Nat)))]) (fun x=>[some ⟨162,2,false,[[.vec 1 x.1.length, .v (.bool true)]]⟩,some ⟨115,2,true,x.1.map aM⟩]) (fun x=>x.2.1) (fun x=>x.1.length=l.length∧x.2.1<x.1.length∧x.2.1<=x.2.2∧lj x.2.2 x.1 x.2.1=R) (l,k,k) ⟨rfl,hk,Nat.le_refl _,hR⟩ ?_ ?_
 ·(refine aq ?_ ?_ ?_<;>simp only [aD,WJ,WK,WW,WX,aW,aY,AV.v.injEq,Value.int.injEq,Value.bool.injEq,Value.string.injEq,AV.vec.injEq,AV.ptr.injEq,true_or,or_true,false_or,or_false,aa.mk.injEq,forall_eq_apply_imp_iff,forall_eq,forall_eq',go_sem])
  all_goals first|rfl|exact aA _ _|trace_state
 ·rintro ⟨cur,j,f⟩ ⟨hcl,hjl,hjf,hcR⟩ K hK;simp only at hcl hjl hjf hcR ⊢
  have eN:(cur.map aM).length=cur.length:=by simp
  by_cases hj0:j=0
  ·subst hj0
   have e0:R=cur:=by rw [<-hcR];cases f<;>simp [lj]
   have d0:decide ((0:Int)<((0:Nat):Int))=false:=by decide
   rw [e0]
   repeat (first|(with_reducible first|refine ag.up ?_|refine fun (K:AK) hK=> ?_|refine wD ?_|refine ae (by decide) ?_|refine ay (by decide) ?_|(refine hK _ ?_;clear hK K))|simp only [go_sem,d0]|with_reducible refine wA ?_|(refine ax rfl ?_)|clear hK K)
   (refine ⟨?_, ?_, ?_⟩<;>simp only [aW,aY,AV.v.injEq,Value.int.injEq,Value.bool.injEq,Value.string.injEq,AV.vec.injEq,AV.ptr.injEq,true_or,or_true,false_or,or_false,aa.mk.injEq,forall_eq_apply_imp_iff,forall_eq,forall_eq',go_sem])
   all_goals first|rfl|exact aA _ _|trace_state
  ·have d0:decide ((0:Int)<(j:Int))=true:=decide_eq_true (by omega)
   have w1:IntKind.i64.wrap ((j:Int) - 1)=((j - 1:Nat):Int):=by rw [cF (by omega) (by omega)];omega
   have w2:IntKind.i64.wrap (((j - 1:Nat):Int).tdiv 2)=(((j - 1) / 2:Nat):Int):=by
    rw [show (((j - 1:Nat):Int).tdiv 2)=(((j - 1) / 2:Nat):Int) from rfl,cF (by omega) (by omega)]
   obtain ⟨n,rfl⟩: ∃n,j=n+1:=⟨j - 1,by omega⟩
   have hul:(n+1 - 1) / 2<cur.length:=by omega
   have hne:n+1≠(n+1 - 1) / 2:=by omega
   have e1:=gB hjl;have e2:=gB hul;have e3:=GQ hjl hul hne [.v (.int .i64 (aC cur ((n+1 - 1) / 2)).1), .v (.int .i64 (aC cur ((n+1 - 1) / 2)).2)];have e4:=yV cur (n+1) ((n+1 - 1) / 2);have C:=vV (aC cur (n+1)) (aC cur ((n+1 - 1) / 2));have hge:=MI (aC cur (n+1)) (aC cur ((n+1 - 1) / 2));obtain ⟨f,rfl⟩: ∃g,f=g+1:=⟨f - 1,by omega⟩;rw [lj,if_neg (Nat.succ_ne_zero n)] at hcR;have hsl:=fA cur (n+1) ((n+1 - 1) / 2);simp only [aM] at C
   have huf:(n+1 - 1) / 2<=f:=by omega
   have hun:(n+1 - 1) / 2<n+1:=by omega
   generalize (n+1 - 1) / 2=u at *
   cases hb:dP (aC cur (n+1)) (aC cur u)
   ·rw [hb] at hge hcR;simp only [Bool.not_false,Wy,if_false] at hge hcR
    repeat (first|(with_reducible first|refine ag.up ?_|refine fun (K:AK) hK=> ?_|refine wD ?_|refine ae (by decide) ?_|refine ay (by decide) ?_|(refine hK _ ?_;clear hK K))|simp only [go_sem,d0,w1,w2,e1,e2,eN]|with_reducible refine wA ?_|(refine ax rfl ?_)|clear hK K)
    refine bf.one C ?_
    repeat (first|(with_reducible first|refine ag.up ?_|refine fun (K:AK) hK=> ?_|refine wD ?_|refine ae (by decide) ?_|refine ay (by decide) ?_|(refine hK _ ?_;clear hK K))|simp only [go_sem,hge]|with_reducible refine wA ?_|(refine ax rfl ?_)|clear hK K)
    rw [<-hcR]
    (refine ⟨?_, ?_, ?_⟩<;>simp only [aW,aY,AV.v.injEq,Value.int.injEq,Value.bool.injEq,Value.string.injEq,AV.vec.injEq,AV.ptr.injEq,true_or,or_true,false_or,or_false,aa.mk.injEq,forall_eq_apply_imp_iff,forall_eq,forall_eq',go_sem])
    all_goals first|rfl|exact aA _ _|trace_state
   ·rw [hb] at hge hcR;simp only [Bool.not_true,if_true] at hge hcR
    repeat (first|(with_reducible first|refine ag.up ?_|refine fun (K:AK) hK=> ?_|refine wD ?_|refine ae (by decide) ?_|refine ay (by decide) ?_|(refine hK _ ?_;clear hK K))|simp only [go_sem,d0,w1,w2,e1,e2,eN]|with_reducible refine wA ?_|(refine ax rfl ?_)|clear hK K)
    refine bf.one C ?_
    repeat ((fail_if_success (with_reducible refine bL (i:=3) ?_));first|(with_reducible first|refine ag.up ?_|refine fun (K:AK) hK=> ?_|refine ae (by decide) ?_|refine ay (by decide) ?_|(refine hK _ ?_;clear hK K))|simp only [go_sem,hge]|with_reducible refine wA ?_|(refine ax rfl ?_)|clear hK K)
    refine dt [25,27] [(9,0)] (by decide+kernel) (by kernel_rfl) ?_
    repeat (first|(with_reducible first|refine ag.up ?_|refine fun (K:AK) hK=> ?_|refine ae (by decide) ?_|refine ay (by decide) ?_|(refine hK _ ?_;clear hK K))|simp only [go_sem,e1,e2,e3,eN,XG]|with_reducible refine wA ?_|(refine ax rfl ?_)|clear hK K)
    repeat (first|(with_reducible first|refine ag.up ?_|refine fun (K:AK) hK=> ?_|refine wD ?_|refine ae (by decide) ?_|refine ay (by decide) ?_|(refine hK _ ?_;clear hK K))|simp only [go_sem,e4]|with_reducible refine wA ?_|(refine ax rfl ?_)|clear hK K)
    refine aJ.mk (swp cur (n+1) u,u,f) ⟨by rw [hsl];exact hcl,by rw [hsl];exact hul,huf,hcR⟩ hun ?_;simp only [hsl]
    (refine aq ?_ ?_ ?_<;>simp only [aD,WJ,WK,WW,WX,aW,aY,AV.v.injEq,Value.int.injEq,Value.bool.injEq,Value.string.injEq,AV.vec.injEq,AV.ptr.injEq,true_or,or_true,false_or,or_false,aa.mk.injEq,forall_eq_apply_imp_iff,forall_eq,forall_eq',go_sem])
    all_goals first|rfl|exact aA _ _|trace_state
theorem M7 (l:List dC) (x:dC) (hl:l.length<1000000):aK Tryz.prog 57 [.ptr 0 0 2 0 0, .aH 2 [aM x] 1] (mG l) (.v (.int .i64 0)) (mG (jr l x)):=by
 have M:=AL (.aH 2 (l.map aM) l.length) true (by simp only [AV.wf,aA]);have RS:=Nc (l++[x]) l.length (by simp) (by simp;omega)
 have hpl:(jr l x).length=l.length+1:=by have:=(fR l x).length_eq;simpa using this
 have e5:l.map aM++[aM x]=(l++[x]).map aM:=by simp
 have e6:l.length+1=(l++[x]).length:=by simp
 have eN:(l.map aM).length=l.length:=by simp
 have w1:IntKind.i64.wrap (((l.length+1:Nat):Int) - 1)=(l.length:Int):=by rw [cF (by omega) (by omega)];omega
 have d0:decide (((0:Nat):Int)<((1:Nat):Int))=true:=by decide
 have d1:decide (((1:Nat):Int)<((1:Nat):Int))=false:=by decide
 have w0:=aB (k:=0) (by omega);have eZ: ∀f l,bu f (List.map aM l)=List.map aM l:=fun f l=>aS _ _ (aA _ _);rw [<-jr,mG, <- e5, <- e6] at RS
 have eZa: ∀f,bu f (l.map aM++[aM x])=l.map aM++[aM x]:=fun f=>by rw [e5];exact aS _ _ (aA _ _)
 have eWa:bZ 2 (l.map aM++[aM x])=true:=by rw [e5];exact aA _ _
 clear e5 e6;simp only [mG,aM] at *
 (refine aK.enter Tryz.func57 rfl (by kernel_rfl) (by kernel_rfl) rfl ?_;simp only [Tryz.ntmps57,Tryz.results57,U9,U3,Nat.reduceAdd,Nat.reduceSub,WW,WX,WY,WZ])
 repeat (first|(with_reducible first|refine ag.up ?_|refine fun (K:AK) hK=> ?_|(refine hK _ ?_;clear hK K))|simp only [go_sem]|with_reducible refine wA ?_|clear hK K)
 refine ab.Ff M 8 rfl (by simp only [go_sem,Nat.reduceLT,Nat.reduceLeDiff,Nat.reduceEqDiff,XB,XE,and_self,aA]) rfl ?_
 repeat (first|(with_reducible first|refine ag.up ?_|refine fun (K:AK) hK=> ?_|(refine hK _ ?_;clear hK K))|simp only [go_sem]|with_reducible refine wA ?_|clear hK K)
 refine bI (ι:=Bool) 13 (fun b=>[(6, .undef),(12, .v (.int .i64 ((if b then 1 else 0:Nat):Int)))]) (fun b=>if b then [some ⟨162,2,false,[[.vec 1 (jr l x).length, .v (.bool true)]]⟩,some ⟨115,2,true,(jr l x).map aM⟩] else [some ⟨162,2,false,[[.vec 1 l.length, .v (.bool true)]]⟩,some ⟨115,2,true,l.map aM⟩]) (fun b=>if b then 0 else 1) (fun _=>True) false trivial ?_ ?_
 ·simp only [Wy,if_false]
  (refine aq ?_ ?_ ?_<;>simp only [aD,WJ,WK,WW,WX,aW,aY,AV.v.injEq,Value.int.injEq,Value.bool.injEq,Value.string.injEq,AV.vec.injEq,AV.ptr.injEq,true_or,or_true,false_or,or_false,aa.mk.injEq,forall_eq_apply_imp_iff,forall_eq,forall_eq',go_sem])
  all_goals first|rfl|exact aA _ _|trace_state
 ·rintro b _ K hK
  cases b
  ·simp only [Wy,if_false]
   repeat ((fail_if_success (with_reducible refine bL (i:=6) ?_));first|(with_reducible first|refine ag.up ?_|refine fun (K:AK) hK=> ?_|(refine hK _ ?_;clear hK K))|simp only [go_sem,d0]|with_reducible refine wA ?_|clear hK K)
   (refine lC 7 16 0 (by kernel_rfl) (by decide+kernel) (by kernel_rfl) ?_;simp only [fP,WR,Xb,List.push_toArray,WY,WZ,List.drop_succ_cons,List.drop_zero,List.take_succ_cons,List.take_zero])
   repeat (first|(with_reducible first|refine ag.up ?_|refine fun (K:AK) hK=> ?_|(refine hK _ ?_;clear hK K))|simp only [go_sem,eN]|with_reducible refine wA ?_|clear hK K)
   repeat (first|(with_reducible first|refine ag.up ?_|refine fun (K:AK) hK=> ?_|(refine hK _ ?_;clear hK K))|simp only [go_sem,w1]|with_reducible refine wA ?_|clear hK K)
   refine ab.fr [0,1] RS (by simp) ?_ ?_ ?_ ?_ ?_
   ·simp only [WR,Xb,V7,WG,VB,aa.aV,bu,bw,AV.aV,eZa];rfl
   ·rfl
   ·rfl
   ·intro j ob hj
    match j,hj with
    | 0,hj=>cases hj;rfl
    | 1,hj=>cases hj;exact eWa
    | j+2,hj=>simp at hj
   repeat (first|(with_reducible first|refine ag.up ?_|refine fun (K:AK) hK=> ?_|(refine hK _ ?_;clear hK K))|simp only [go_sem,eZ,w0]|with_reducible refine wA ?_|clear hK K)
   refine aJ.mk true trivial (by simp) ?_;simp only [if_true]
   (refine aq ?_ ?_ ?_<;>simp only [aD,WJ,WK,WW,WX,aW,aY,AV.v.injEq,Value.int.injEq,Value.bool.injEq,Value.string.injEq,AV.vec.injEq,AV.ptr.injEq,true_or,or_true,false_or,or_false,aa.mk.injEq,forall_eq_apply_imp_iff,forall_eq,forall_eq',go_sem])
   all_goals first|rfl|exact aA _ _|trace_state
  ·simp only [if_true]
   repeat (first|(with_reducible first|refine ag.up ?_|refine fun (K:AK) hK=> ?_|(refine hK _ ?_;clear hK K))|simp only [go_sem,d1]|with_reducible refine wA ?_|clear hK K)
   (refine ⟨?_, ?_, ?_⟩<;>simp only [aW,aY,AV.v.injEq,Value.int.injEq,Value.bool.injEq,Value.string.injEq,AV.vec.injEq,AV.ptr.injEq,true_or,or_true,false_or,or_false,aa.mk.injEq,forall_eq_apply_imp_iff,forall_eq,forall_eq',go_sem])
   all_goals first|rfl|exact aA _ _|trace_state
def mH (l:List dC) (k:Nat):Nat->Nat
 | 0=>k
 | i+1=>if 2 * k+1+i<l.length∧dP (aC l (2 * k+1+i)) (aC l (mH l k i))=true then 2 * k+1+i else mH l k i
theorem G0 (l:List dC) (k:Nat):mH l k 2=cU l k:=rfl
theorem vJ {l:List dC} {k:Nat} (h:k<l.length): ∀i,mH l k i<l.length
 | 0=>h
 | i+1=>by
  rw [mH]
  split
  ·rename_i q;exact q.1
  ·exact vJ h i
theorem Nn (l:List dC) (hl:l.length<=1000000):aK Tryz.prog 95 [.ptr 0 0 2 0 0] (mG l) (.cy []) (mG (jt l.length l 0)):=by
 simp only [mG];generalize hR:jt l.length l 0=R
 have hRl:R.length=l.length:=by
  rw [<-hR]
  by_cases h:l=[]
  ·subst h;rfl
  ·exact (mS _ l 0 (XF.2 h)).length_eq
 (refine aK.enter Tryz.func95 rfl (by kernel_rfl) (by kernel_rfl) rfl ?_;simp only [Tryz.ntmps95,Tryz.results95,U9,U3,Nat.reduceAdd,Nat.reduceSub,WW,WX,WY,WZ])
 repeat (first|(with_reducible first|refine ag.up ?_|refine fun (K:AK) hK=> ?_|refine wD ?_|refine ae (by decide) ?_|refine ay (by decide) ?_|(refine hK _ ?_;clear hK K))|simp only [go_sem]|with_reducible refine wA ?_|(refine ax rfl ?_)|clear hK K)
 refine bI (ι:=List dC×Nat×Nat) 2 (fun x=>[(2, .v (.int .i64 (x.2.1:Nat)))]) (fun x=>[some ⟨162,2,false,[[.vec 1 x.1.length, .v (.bool true)]]⟩,some ⟨115,2,true,x.1.map aM⟩]) (fun x=>x.2.2) (fun x=>x.1.length=l.length∧(x.2.1<x.1.length∨x.1.length=0∧x.2.1=0)∧x.1.length<=x.2.2+x.2.1∧jt x.2.2 x.1 x.2.1=R) (l,0,l.length) ⟨rfl,by rcases Nat.eq_zero_or_pos l.length with h|h;exact .inr ⟨h,rfl⟩;exact .inl h,by simp,hR⟩ ?_ ?_
 ·(refine aq ?_ ?_ ?_<;>simp only [aD,WJ,WK,WW,WX,aW,aY,AV.v.injEq,Value.int.injEq,Value.bool.injEq,Value.string.injEq,AV.vec.injEq,AV.ptr.injEq,true_or,or_true,false_or,or_false,aa.mk.injEq,forall_eq_apply_imp_iff,forall_eq,forall_eq',go_sem])
  all_goals first|rfl|exact aA _ _|trace_state
 ·rintro ⟨cur,j,f⟩ ⟨hcl,hjl,hjf,hcR⟩ K hK;simp only at hcl hjl hjf hcR ⊢
  have hj:j<=1000000:=by omega
  have w1:IntKind.i64.wrap (2 * (j:Int))=((2 * j:Nat):Int):=by rw [cF (by omega) (by omega)];omega
  have w2:IntKind.i64.wrap (((2 * j:Nat):Int)+1)=((2 * j+1:Nat):Int):=by rw [cF (by omega) (by omega)];omega
  have w3:IntKind.i64.wrap (((2 * j:Nat):Int)+2)=((2 * j+2:Nat):Int):=by rw [cF (by omega) (by omega)];omega
  have eN:(cur.map aM).length=cur.length:=by simp
  repeat ((fail_if_success (with_reducible refine bL (i:=4) ?_));first|(with_reducible first|refine ag.up ?_|refine fun (K:AK) hK=> ?_|refine ae (by decide) ?_|refine ay (by decide) ?_|(refine hK _ ?_;clear hK K))|simp only [go_sem,w1,w2,w3]|with_reducible refine wA ?_|(refine ax rfl ?_)|clear hK K)
  refine bD 3 (fun i:Nat=>[(3, .v (.int .i64 (mH cur j i:Nat))),(13, .agg [.v (.int .i64 ((2 * j+1:Nat):Int)), .v (.int .i64 ((2 * j+2:Nat):Int))]),(14, .v (.int .i64 (i:Nat)))]) (fun i=>2 - i) (fun i=>i<=2) 0 (by omega) ?_ ?_
  ·rw [show mH cur j 0=j from rfl]
   (refine aq ?_ ?_ ?_<;>simp only [aD,WJ,WK,WW,WX,aW,aY,AV.v.injEq,Value.int.injEq,Value.bool.injEq,Value.string.injEq,AV.vec.injEq,AV.ptr.injEq,true_or,or_true,false_or,or_false,aa.mk.injEq,forall_eq_apply_imp_iff,forall_eq,forall_eq',go_sem])
   all_goals first|rfl|exact aA _ _|exact ⟨rfl,rfl⟩|trace_state
  ·intro i hi K hK
   rcases (by omega:i=0∨i=1∨i=2) with rfl|rfl|rfl
   rotate_left 2
   ·have d2:decide (((2:Nat):Int)<2)=false:=by decide
    rw [G0]
    repeat ((fail_if_success (with_reducible refine bL (i:=9) ?_));first|(with_reducible first|refine ag.up ?_|refine fun (K:AK) hK=> ?_|refine ae (by decide) ?_|refine ay (by decide) ?_|(refine hK _ ?_;clear hK K))|simp only [go_sem,d2]|with_reducible refine wA ?_|(refine ax rfl ?_)|clear hK K)
    by_cases he:cU cur j=j
    ·have d3:((cU cur j:Int)==(j:Int))=true:=by rw [he];simp
     have e0:R=cur:=by
      rw [<-hcR];cases f with
      | zero=>rfl
      | succ f=>rw [jt,if_pos he]
     repeat (first|(with_reducible first|refine ag.up ?_|refine fun (K:AK) hK=> ?_|refine wD ?_|refine ae (by decide) ?_|refine ay (by decide) ?_|(refine hK _ ?_;clear hK K))|simp only [go_sem,d3]|with_reducible refine wA ?_|(refine ax rfl ?_)|clear hK K)
     (refine ⟨?_, ?_, ?_⟩<;>simp only [aW,aY,AV.v.injEq,Value.int.injEq,Value.bool.injEq,Value.string.injEq,AV.vec.injEq,AV.ptr.injEq,true_or,or_true,false_or,or_false,aa.mk.injEq,forall_eq_apply_imp_iff,forall_eq,forall_eq',go_sem])
     all_goals first|rfl|exact aA _ _|(rw [e0];exact ⟨rfl,rfl,aA _ _⟩)|trace_state
    ·have hjl:j<cur.length:=by
      rcases hjl with h|h
      ·exact h
      ·exact absurd (by rw [h.2,cU];simp [h.1]) he
     have hs:=kW cur j hjl
     have d3:((cU cur j:Int)==(j:Int))=false:=by rw [beq_eq_false_iff_ne];omega
     obtain ⟨g,hg⟩: ∃g,f=g+1:=⟨f - 1,by omega⟩;rw [hg,jt,if_neg he] at hcR;have hsl:=fA cur j (cU cur j);have hsp:=hs.1;have hul:=hs.2.1;generalize cU cur j=u at he hs d3 hcR hsl hsp hul ⊢;have e1:=gB hul;have e2:=gB hjl;have e3:=GQ hjl hul (Ne.symm he) [.v (.int .i64 (aC cur u).1), .v (.int .i64 (aC cur u).2)];have e4:=yV cur j u
     repeat ((fail_if_success (with_reducible refine bL (i:=10) ?_));first|(with_reducible first|refine ag.up ?_|refine fun (K:AK) hK=> ?_|refine ae (by decide) ?_|refine ay (by decide) ?_|(refine hK _ ?_;clear hK K))|simp only [go_sem,d3]|with_reducible refine wA ?_|(refine ax rfl ?_)|clear hK K)
     refine dt [25,27] [(9,0)] (by decide+kernel) (by kernel_rfl) ?_
     repeat (first|(with_reducible first|refine ag.up ?_|refine fun (K:AK) hK=> ?_|refine ae (by decide) ?_|refine ay (by decide) ?_|(refine hK _ ?_;clear hK K))|simp only [go_sem,e1,e2,e3,eN,XG]|with_reducible refine wA ?_|(refine ax rfl ?_)|clear hK K)
     repeat (first|(with_reducible first|refine ag.up ?_|refine fun (K:AK) hK=> ?_|refine wD ?_|refine ae (by decide) ?_|refine ay (by decide) ?_|(refine hK _ ?_;clear hK K))|simp only [go_sem,e4]|with_reducible refine wA ?_|(refine ax rfl ?_)|clear hK K)
     refine aJ.mk (swp cur j u,u,g) ⟨by rw [hsl];exact hcl,by rw [hsl];exact .inl hul,(show (swp cur j u).length<=g+u by rw [hsl];omega),hcR⟩ (show g<f by omega) ?_;simp only [hsl]
     (refine aq ?_ ?_ ?_<;>simp only [aD,WJ,WK,WW,WX,aW,aY,AV.v.injEq,Value.int.injEq,Value.bool.injEq,Value.string.injEq,AV.vec.injEq,AV.ptr.injEq,true_or,or_true,false_or,or_false,aa.mk.injEq,forall_eq_apply_imp_iff,forall_eq,forall_eq',go_sem])
     all_goals first|rfl|exact aA _ _|trace_state
   ·have d0:decide (((0:Nat):Int)<2)=true:=by decide
    have ws:=aB (k:=0) (by omega)
    have eK:mH cur j (0+1)=if 2 * j+1<cur.length∧dP (aC cur (2 * j+1)) (aC cur (mH cur j 0))=true then 2 * j+1 else mH cur j 0:=rfl
    by_cases hc:2 * j+1<cur.length
    ·have d1:decide (((cur.length:Nat):Int)<=((2 * j+1:Nat):Int))=false:=decide_eq_false (by omega);have hk:=vJ (show j<cur.length by omega) 0;generalize hq:mH cur j 0=q at eK hk ⊢;have e1:=gB hc;have e2:=gB hk;have C:=vV (aC cur (2 * j+1)) (aC cur q);have hge:=AD (aC cur (2 * j+1)) (aC cur q);simp only [aM] at C
     have eN':2 * j+1<(cur.map aM).length:=by rw [eN];exact hc
     cases hb:dP (aC cur (2 * j+1)) (aC cur q)
     ·rw [hb] at hge;rw [if_neg (by rw [hb];simp)] at eK
      repeat (first|(with_reducible first|refine ag.up ?_|refine fun (K:AK) hK=> ?_|refine wD ?_|refine ae (by decide) ?_|refine ay (by decide) ?_|(refine hK _ ?_;clear hK K))|simp only [go_sem,d0,d1,e1,e2,eN]|with_reducible refine wA ?_|(refine ax rfl ?_)|clear hK K)
      refine bf.one C ?_
      repeat (first|(with_reducible first|refine ag.up ?_|refine fun (K:AK) hK=> ?_|refine wD ?_|refine ae (by decide) ?_|refine ay (by decide) ?_|(refine hK _ ?_;clear hK K))|simp only [go_sem,hge,ws]|with_reducible refine wA ?_|(refine ax rfl ?_)|clear hK K)
      refine aJ.mk 1 (by omega) (by omega) ?_;rw [eK]
      (refine aq ?_ ?_ ?_<;>simp only [aD,WJ,WK,WW,WX,aW,aY,AV.v.injEq,Value.int.injEq,Value.bool.injEq,Value.string.injEq,AV.vec.injEq,AV.ptr.injEq,true_or,or_true,false_or,or_false,aa.mk.injEq,forall_eq_apply_imp_iff,forall_eq,forall_eq',go_sem])
      all_goals first|rfl|exact aA _ _|trace_state
     ·rw [hb] at hge;rw [if_pos ⟨hc,hb⟩] at eK
      repeat (first|(with_reducible first|refine ag.up ?_|refine fun (K:AK) hK=> ?_|refine wD ?_|refine ae (by decide) ?_|refine ay (by decide) ?_|(refine hK _ ?_;clear hK K))|simp only [go_sem,d0,d1,e1,e2,eN]|with_reducible refine wA ?_|(refine ax rfl ?_)|clear hK K)
      refine bf.one C ?_
      repeat (first|(with_reducible first|refine ag.up ?_|refine fun (K:AK) hK=> ?_|refine wD ?_|refine ae (by decide) ?_|refine ay (by decide) ?_|(refine hK _ ?_;clear hK K))|simp only [go_sem,hge,ws]|with_reducible refine wA ?_|(refine ax rfl ?_)|clear hK K)
      refine aJ.mk 1 (by omega) (by omega) ?_;rw [eK]
      (refine aq ?_ ?_ ?_<;>simp only [aD,WJ,WK,WW,WX,aW,aY,AV.v.injEq,Value.int.injEq,Value.bool.injEq,Value.string.injEq,AV.vec.injEq,AV.ptr.injEq,true_or,or_true,false_or,or_false,aa.mk.injEq,forall_eq_apply_imp_iff,forall_eq,forall_eq',go_sem])
      all_goals first|rfl|exact aA _ _|trace_state
    ·have d1:decide (((cur.length:Nat):Int)<=((2 * j+1:Nat):Int))=true:=decide_eq_true (by omega);rw [if_neg (fun h=>hc h.1)] at eK
     repeat (first|(with_reducible first|refine ag.up ?_|refine fun (K:AK) hK=> ?_|refine wD ?_|refine ae (by decide) ?_|refine ay (by decide) ?_|(refine hK _ ?_;clear hK K))|simp only [go_sem,d0,d1,eN,ws]|with_reducible refine wA ?_|(refine ax rfl ?_)|clear hK K)
     refine aJ.mk 1 (by omega) (by omega) ?_;rw [eK]
     (refine aq ?_ ?_ ?_<;>simp only [aD,WJ,WK,WW,WX,aW,aY,AV.v.injEq,Value.int.injEq,Value.bool.injEq,Value.string.injEq,AV.vec.injEq,AV.ptr.injEq,true_or,or_true,false_or,or_false,aa.mk.injEq,forall_eq_apply_imp_iff,forall_eq,forall_eq',go_sem])
     all_goals first|rfl|exact aA _ _|trace_state
   ·have d0:decide (((1:Nat):Int)<2)=true:=by decide
    have ws:=aB (k:=1) (by omega)
    have eK:mH cur j (1+1)=if 2 * j+2<cur.length∧dP (aC cur (2 * j+2)) (aC cur (mH cur j 1))=true then 2 * j+2 else mH cur j 1:=rfl
    by_cases hc:2 * j+2<cur.length
    ·have d1:decide (((cur.length:Nat):Int)<=((2 * j+2:Nat):Int))=false:=decide_eq_false (by omega);have hk:=vJ (show j<cur.length by omega) 1;generalize hq:mH cur j 1=q at eK hk ⊢;have e1:=gB hc;have e2:=gB hk;have C:=vV (aC cur (2 * j+2)) (aC cur q);have hge:=AD (aC cur (2 * j+2)) (aC cur q);simp only [aM] at C
     have eN':2 * j+2<(cur.map aM).length:=by rw [eN];exact hc
     cases hb:dP (aC cur (2 * j+2)) (aC cur q)
     ·rw [hb] at hge;rw [if_neg (by rw [hb];simp)] at eK
      repeat (first|(with_reducible first|refine ag.up ?_|refine fun (K:AK) hK=> ?_|refine wD ?_|refine ae (by decide) ?_|refine ay (by decide) ?_|(refine hK _ ?_;clear hK K))|simp only [go_sem,d0,d1,e1,e2,eN]|with_reducible refine wA ?_|(refine ax rfl ?_)|clear hK K)
      refine bf.one C ?_
      repeat (first|(with_reducible first|refine ag.up ?_|refine fun (K:AK) hK=> ?_|refine wD ?_|refine ae (by decide) ?_|refine ay (by decide) ?_|(refine hK _ ?_;clear hK K))|simp only [go_sem,hge,ws]|with_reducible refine wA ?_|(refine ax rfl ?_)|clear hK K)
      refine aJ.mk 2 (by omega) (by omega) ?_;rw [eK]
      (refine aq ?_ ?_ ?_<;>simp only [aD,WJ,WK,WW,WX,aW,aY,AV.v.injEq,Value.int.injEq,Value.bool.injEq,Value.string.injEq,AV.vec.injEq,AV.ptr.injEq,true_or,or_true,false_or,or_false,aa.mk.injEq,forall_eq_apply_imp_iff,forall_eq,forall_eq',go_sem])
      all_goals first|rfl|exact aA _ _|trace_state
     ·rw [hb] at hge;rw [if_pos ⟨hc,hb⟩] at eK
      repeat (first|(with_reducible first|refine ag.up ?_|refine fun (K:AK) hK=> ?_|refine wD ?_|refine ae (by decide) ?_|refine ay (by decide) ?_|(refine hK _ ?_;clear hK K))|simp only [go_sem,d0,d1,e1,e2,eN]|with_reducible refine wA ?_|(refine ax rfl ?_)|clear hK K)
      refine bf.one C ?_
      repeat (first|(with_reducible first|refine ag.up ?_|refine fun (K:AK) hK=> ?_|refine wD ?_|refine ae (by decide) ?_|refine ay (by decide) ?_|(refine hK _ ?_;clear hK K))|simp only [go_sem,hge,ws]|with_reducible refine wA ?_|(refine ax rfl ?_)|clear hK K)
      refine aJ.mk 2 (by omega) (by omega) ?_;rw [eK]
      (refine aq ?_ ?_ ?_<;>simp only [aD,WJ,WK,WW,WX,aW,aY,AV.v.injEq,Value.int.injEq,Value.bool.injEq,Value.string.injEq,AV.vec.injEq,AV.ptr.injEq,true_or,or_true,false_or,or_false,aa.mk.injEq,forall_eq_apply_imp_iff,forall_eq,forall_eq',go_sem])
      all_goals first|rfl|exact aA _ _|trace_state
    ·have d1:decide (((cur.length:Nat):Int)<=((2 * j+2:Nat):Int))=true:=decide_eq_true (by omega);rw [if_neg (fun h=>hc h.1)] at eK
     repeat (first|(with_reducible first|refine ag.up ?_|refine fun (K:AK) hK=> ?_|refine wD ?_|refine ae (by decide) ?_|refine ay (by decide) ?_|(refine hK _ ?_;clear hK K))|simp only [go_sem,d0,d1,eN,ws]|with_reducible refine wA ?_|(refine ax rfl ?_)|clear hK K)
     refine aJ.mk 2 (by omega) (by omega) ?_;rw [eK]
     (refine aq ?_ ?_ ?_<;>simp only [aD,WJ,WK,WW,WX,aW,aY,AV.v.injEq,Value.int.injEq,Value.bool.injEq,Value.string.injEq,AV.vec.injEq,AV.ptr.injEq,true_or,or_true,false_or,or_false,aa.mk.injEq,forall_eq_apply_imp_iff,forall_eq,forall_eq',go_sem])
     all_goals first|rfl|exact aA _ _|trace_state
theorem Ph (l:List dC) (hne:l≠[]) (hl:l.length<=1000000):aK Tryz.prog 58 [.ptr 0 0 2 0 0] (mG l) (.cy [.agg (aM (aC l 0)), .v (.bool true)]) [some ⟨162,2,false,[[.vec 4 (kA l).length, .v (.bool true)]]⟩,none,none,none,some ⟨115,2,true,(kA l).map aM⟩]:=by
 have F:=B8 l hl;rw [decide_eq_true hne] at F;have hpos:0<l.length:=XF.2 hne;have S:=Nn ((l.set 0 (aC l (l.length - 1))).take (l.length - 1)) (by simp;omega)
 have eL:((l.set 0 (aC l (l.length - 1))).take (l.length - 1)).length=l.length - 1:=by simp
 have hpl:=sd hne
 have eP:jt ((l.set 0 (aC l (l.length - 1))).take (l.length - 1)).length ((l.set 0 (aC l (l.length - 1))).take (l.length - 1)) 0=kA l:=by rw [eL];rfl
 rw [eP] at S;simp only [mG,eL,aM] at S F;simp only [mG,aM]
 have eN:(l.map aM).length=l.length:=by simp
 have w1:IntKind.i64.wrap ((l.length:Int) - 1)=((l.length - 1:Nat):Int):=by rw [cF (by omega) (by omega)];omega
 have eT:((l.map aM).set 0 [.v (.int .i64 (aC l (l.length - 1)).1), .v (.int .i64 (aC l (l.length - 1)).2)]).take (l.length - 1)=((l.set 0 (aC l (l.length - 1))).take (l.length - 1)).map aM:=by rw [List.map_take,XA];rfl
 have e0:=gB hpos;have e1:=gB (show l.length - 1<l.length by omega);have eZ: ∀f l,bu f (List.map aM l)=List.map aM l:=fun f l=>aS _ _ (aA _ _)
 (refine aK.enter Tryz.func58 rfl (by kernel_rfl) (by kernel_rfl) rfl ?_;simp only [Tryz.ntmps58,Tryz.results58,U9,U3,Nat.reduceAdd,Nat.reduceSub,WW,WX,WY,WZ])
 repeat (first|(with_reducible first|refine ag.up ?_|refine fun (K:AK) hK=> ?_|refine wE ?_|refine wK ?_|refine wF ?_|(refine hK _ ?_;clear hK K))|simp only [go_sem]|with_reducible refine wA ?_|clear hK K)
 refine ab.fr [0,1] F (by simp) ?_ ?_ ?_ ?_ ?_
 ·simp only [WR,Xb,V7,WG,VB,aa.aV,bu,bw,AV.aV,eZ];rfl
 ·rfl
 ·rfl
 ·intro j ob hj
  match j,hj with
  | 0,hj=>cases hj;rfl
  | 1,hj=>cases hj;exact aA _ _
  | j+2,hj=>simp at hj
 repeat ((fail_if_success (with_reducible refine bL (i:=5) ?_));first|(with_reducible first|refine ag.up ?_|refine fun (K:AK) hK=> ?_|refine wE ?_|refine wK ?_|refine wF ?_|(refine hK _ ?_;clear hK K))|simp only [go_sem,eZ,w1,e0,e1,eN]|with_reducible refine wA ?_|clear hK K)
 refine JG 6 rfl (by kernel_rfl) rfl ?_
 repeat (first|(with_reducible first|refine ag.up ?_|refine fun (K:AK) hK=> ?_|refine wE ?_|refine wK ?_|refine wF ?_|(refine hK _ ?_;clear hK K))|simp only [go_sem,eN,XG]|with_reducible refine wA ?_|clear hK K)
 refine ⟨_,_,My rfl rfl rfl rfl rfl (by simp) (by kernel_rfl) (Nat.sub_le _ 1), ?_⟩;simp only [List.drop_succ_cons,List.drop_zero,eT]
 repeat (first|(with_reducible first|refine ag.up ?_|refine fun (K:AK) hK=> ?_|refine wE ?_|refine wK ?_|refine wF ?_|(refine hK _ ?_;clear hK K))|simp only [go_sem,eN]|with_reducible refine wA ?_|clear hK K)
 refine ab.fr [0,4] S (by simp) ?_ ?_ ?_ ?_ ?_
 ·simp only [WR,Xb,V7,WG,VB,aa.aV,bu,bw,AV.aV,eZ];rfl
 ·rfl
 ·rfl
 ·intro j ob hj
  match j,hj with
  | 0,hj=>cases hj;rfl
  | 1,hj=>cases hj;exact aA _ _
  | j+2,hj=>simp at hj
 repeat (first|(with_reducible first|refine ag.up ?_|refine fun (K:AK) hK=> ?_|refine wE ?_|refine wK ?_|refine wF ?_|(refine hK _ ?_;clear hK K))|simp only [go_sem,eZ]|with_reducible refine wA ?_|clear hK K)
 (refine ⟨?_, ?_, ?_⟩<;>simp only [aW,aY,AV.v.injEq,Value.int.injEq,Value.bool.injEq,Value.string.injEq,AV.vec.injEq,AV.ptr.injEq,true_or,or_true,false_or,or_false,aa.mk.injEq,forall_eq_apply_imp_iff,forall_eq,forall_eq',go_sem])
 all_goals first|rfl|exact aA _ _|trace_state
theorem M3:aK Tryz.prog 58 [.ptr 0 0 2 0 0] (mG []) (.cy [.agg (aM (aC [] 0)), .v (.bool false)]) (mG []):=by
 have F:=B8 [] (by simp);rw [show decide (([]:List dC)≠[])=false from rfl] at F;simp only [mG,aM,Xb,U3] at F ⊢
 (refine aK.enter Tryz.func58 rfl (by kernel_rfl) (by kernel_rfl) rfl ?_;simp only [Tryz.ntmps58,Tryz.results58,U9,U3,Nat.reduceAdd,Nat.reduceSub,WW,WX,WY,WZ])
 repeat (first|(with_reducible first|refine ag.up ?_|refine fun (K:AK) hK=> ?_|(refine hK _ ?_;clear hK K))|simp only [go_sem]|with_reducible refine wA ?_|clear hK K)
 refine ab.fr [0,1] F (by simp) ?_ ?_ ?_ ?_ ?_
 ·rfl
 ·rfl
 ·rfl
 ·intro j ob hj
  match j,hj with
  | 0,hj=>cases hj;rfl
  | 1,hj=>cases hj;rfl
  | j+2,hj=>simp at hj
 repeat (first|(with_reducible first|refine ag.up ?_|refine fun (K:AK) hK=> ?_|(refine hK _ ?_;clear hK K))|simp only [go_sem]|with_reducible refine wA ?_|clear hK K)
 (refine ⟨?_, ?_, ?_⟩<;>simp only [aW,aY,AV.v.injEq,Value.int.injEq,Value.bool.injEq,Value.string.injEq,AV.vec.injEq,AV.ptr.injEq,true_or,or_true,false_or,or_false,aa.mk.injEq,forall_eq_apply_imp_iff,forall_eq,forall_eq',go_sem])
 all_goals first|rfl|trace_state
theorem KT:aK Tryz.prog 57 [.ptr 0 0 2 0 0, .v (.slice none 0 0)] (mG []) (.v (.int .i64 0)) (mG []):=by
 have M:=AL (.aH 2 [] 0) true rfl
 have d1:decide (((0:Nat):Int)<((0:Nat):Int))=false:=by decide
 simp only [mG,Xb,U3]
 (refine aK.enter Tryz.func57 rfl (by kernel_rfl) (by kernel_rfl) rfl ?_;simp only [Tryz.ntmps57,Tryz.results57,U9,U3,Nat.reduceAdd,Nat.reduceSub,WW,WX,WY,WZ])
 repeat (first|(with_reducible first|refine ag.up ?_|refine fun (K:AK) hK=> ?_|(refine hK _ ?_;clear hK K))|simp only [go_sem]|with_reducible refine wA ?_|clear hK K)
 refine ab.Ff M 8 rfl (by simp only [go_sem,Nat.reduceLT,Nat.reduceLeDiff,Nat.reduceEqDiff,XB,XE,and_self,aA]) rfl ?_
 repeat (first|(with_reducible first|refine ag.up ?_|refine fun (K:AK) hK=> ?_|(refine hK _ ?_;clear hK K))|simp only [go_sem]|with_reducible refine wA ?_|clear hK K)
 refine bI (ι:=Unit) 13 (fun _=>[(6, .undef)]) (fun _=>[some ⟨162,2,false,[[.vec 1 0, .v (.bool true)]]⟩,some ⟨115,2,true,[]⟩]) (fun _=>0) (fun _=>True) () trivial ?_ ?_
 ·(refine aq ?_ ?_ ?_<;>simp only [aD,WJ,WK,WW,WX,aW,aY,AV.v.injEq,Value.int.injEq,Value.bool.injEq,Value.string.injEq,AV.vec.injEq,AV.ptr.injEq,true_or,or_true,false_or,or_false,aa.mk.injEq,forall_eq_apply_imp_iff,forall_eq,forall_eq',go_sem])
  all_goals first|rfl|trace_state
 ·rintro _ _ K hK
  repeat (first|(with_reducible first|refine ag.up ?_|refine fun (K:AK) hK=> ?_|(refine hK _ ?_;clear hK K))|simp only [go_sem,d1]|with_reducible refine wA ?_|clear hK K)
  (refine ⟨?_, ?_, ?_⟩<;>simp only [aW,aY,AV.v.injEq,Value.int.injEq,Value.bool.injEq,Value.string.injEq,AV.vec.injEq,AV.ptr.injEq,true_or,or_true,false_or,or_false,aa.mk.injEq,forall_eq_apply_imp_iff,forall_eq,forall_eq',go_sem])
  all_goals first|rfl|trace_state
theorem Pc:aK Tryz.prog 53 [.v (.slice none 0 0)] [] (.ptr 0 0 2 0 0) (mG []):=by
 have S:=KT;simp only [mG,Xb,U3] at S ⊢
 (refine aK.enter Tryz.func53 rfl (by kernel_rfl) (by kernel_rfl) rfl ?_;simp only [Tryz.ntmps53,Tryz.results53,U9,U3,Nat.reduceAdd,Nat.reduceSub,WW,WX,WY,WZ])
 repeat ((fail_if_success (with_reducible refine bL (i:=2) ?_));first|(with_reducible first|refine ag.up ?_|refine fun (K:AK) hK=> ?_|(refine hK _ ?_;clear hK K))|simp only [go_sem]|with_reducible refine wA ?_|clear hK K)
 refine bU (fh (k:=0) (i:=0) (j:=0) 115 2 (by decide) rfl (by decide) rfl rfl) (by kernel_rfl) ?_;simp only [List.set_cons_zero,List.set_cons_succ,U9,U3,Nat.reduceAdd,WY,WZ]
 repeat (first|(with_reducible first|refine ag.up ?_|refine fun (K:AK) hK=> ?_|(refine hK _ ?_;clear hK K))|simp only [go_sem]|with_reducible refine wA ?_|clear hK K)
 refine ab.fr [0,1] S (by simp) ?_ ?_ ?_ ?_ ?_
 ·rfl
 ·rfl
 ·rfl
 ·intro j ob hj
  match j,hj with
  | 0,hj=>cases hj;rfl
  | 1,hj=>cases hj;rfl
  | j+2,hj=>simp at hj
 repeat (first|(with_reducible first|refine ag.up ?_|refine fun (K:AK) hK=> ?_|(refine hK _ ?_;clear hK K))|simp only [go_sem]|with_reducible refine wA ?_|clear hK K)
 (refine ⟨?_, ?_, ?_⟩<;>simp only [aW,aY,AV.v.injEq,Value.int.injEq,Value.bool.injEq,Value.string.injEq,AV.vec.injEq,AV.ptr.injEq,true_or,or_true,false_or,or_false,aa.mk.injEq,forall_eq_apply_imp_iff,forall_eq,forall_eq',go_sem])
 all_goals first|rfl|trace_state
section
theorem mb {s t:ByteArray}:dD s t=true↔s=t:=toList_inj
theorem kb {α:Type} {p:List α->Prop} (h0:p []) (h1: ∀l a,p l->p (l++[a])) (l:List α):p l:=by
 rw [<-List.reverse_reverse l]
 induction l.reverse with
 | nil=>exact h0
 | cons a l ih=>rw [List.reverse_cons];exact h1 _ _ ih
theorem GO (n m:Nat) (f:Nat->Nat) (h1: ∀a,a<n->f a<m) (h2: ∀a b,a<n->b<n->f a=f b->a=b):n<=m:=by
 have hn:((List.range n).map f).Nodup:=by
  rw [List.Nodup,XH];intro i j hi hj hij;simp only [VW,List.length_range] at hi hj;simp only [XI,List.getElem_range];intro e;have:=h2 i j hi hj e;omega
 have hs:((List.range n).map f) ⊆ List.range m:=fun x hx=>by
  obtain ⟨a,ha,rfl⟩:=List.mem_map.1 hx;exact Wd.2 (h1 a (Wd.1 ha))
 have:=hn.length_le_of_subset hs
 simpa using this
theorem xF (u:Nat): ∀c∈Lib.decDigits u,48<=c.toNat∧c.toNat<=57:=by
 induction u using Nat.strongRecOn with
 | _ u ih=>
  intro c hc;rw [Lib.decDigits] at hc
  split at hc
  ·simp only [Xq] at hc;subst hc;simp;omega
  ·rw [Ww] at hc
   rcases hc with hc|hc
   ·exact ih (u / 10) (by omega) c hc
   ·simp only [Xq] at hc;subst hc;simp;omega
theorem rb (u:Nat) (h:u<1000):(Lib.decDigits u).length<=3:=by
 rw [Lib.decDigits];split
 ·simp
 ·rw [Lib.decDigits];split
  ·simp
  ·rw [Lib.decDigits,dif_pos (by omega)];simp
def CO (l:List UInt8):Nat:=l.foldl (fun a c=>a * 10+(c.toNat - 48)) 0
theorem sH (u:Nat):CO (Lib.decDigits u)=u:=by
 induction u using Nat.strongRecOn with
 | _ u ih=>
  rw [Lib.decDigits];split
  ·rename_i h;simp [CO];omega
  ·rename_i h
   have:=ih (u / 10) (by omega)
   rw [CO,XJ, <- CO,this];simp;omega
theorem Gh {u v:Nat} (h:Lib.decDigits u=Lib.decDigits v):u=v:=by rw [<-sH u, <- sH v,h]
theorem nw {u v:Nat} {r s:List UInt8} (h:Lib.decDigits u++r=Lib.decDigits v++s) (hr:r=[]∨r.head? = some 32) (hs:s=[]∨s.head? = some 32):u=v∧r=s:=by
 have key: ∀(a b r s:List UInt8),a++r=b++s->(∀c∈a,48<=c.toNat∧c.toNat<=57)->(∀c∈b,48<=c.toNat∧c.toNat<=57)->(r=[]∨r.head? = some 32)->(s=[]∨s.head? = some 32)->a=b∧r=s:=by
  intro a
  induction a with
  | nil=>
   intro b r s h ha hb hr hs
   cases b with
   | nil=>exact ⟨rfl,h⟩
   | cons c b=>
    have:=hb c List.mem_cons_self
    rw [WZ] at h;subst h
    rcases hr with hr|hr
    ·simp at hr
    ·simp at hr;subst hr;simp at this
  | cons d a ih=>
   intro b r s h ha hb hr hs
   cases b with
   | nil=>
    have:=ha d List.mem_cons_self
    rw [WZ] at h;subst h
    rcases hs with hs|hs
    ·simp at hs
    ·simp at hs;subst hs;simp at this
   | cons c b=>
    simp only [List.cons_append,Xy] at h;obtain ⟨rfl,h⟩:=h;obtain ⟨h1,h2⟩:=ih b r s h (fun c hc=>ha c (V2 _ hc)) (fun c hc=>hb c (V2 _ hc)) hr hs;exact ⟨by rw [h1],h2⟩
 obtain ⟨h1,h2⟩:=key _ _ _ _ h (xF u) (xF v) hr hs;exact ⟨Gh h1,h2⟩
def jU (l:List Nat):List UInt8:=l.flatMap (fun n=>Lib.decDigits n++[32])
def iZ (l:List Nat):ByteArray:=⟨(jU l).toArray⟩
theorem ye: ∀ {l m:List Nat},jU l=jU m->l=m
 | [],[],_=>rfl
 | [],b :: m,h=>by simp [jU] at h
 | a :: l,[],h=>by simp [jU] at h
 | a :: l,b :: m,h=>by
  simp only [jU,List.flatMap_cons,Vv] at h;obtain ⟨h1,h2⟩:=nw h (.inr rfl) (.inr rfl);simp only [List.cons_append,WZ,Xy,true_and] at h2;rw [h1,ye (l:=l) (m:=m) h2]
theorem GV {l m:List Nat} (h:iZ l=iZ m):l=m:=by
 have:(iZ l).data.toList=(iZ m).data.toList:=by rw [h]
 exact ye (by simpa [iZ] using this)
def pos (l:List ByteArray) (s:ByteArray):Option Nat:=l.findIdx? (fun x=>dD s x)
theorem yz {l:List ByteArray} {s:ByteArray}:pos l s=none↔s∉l:=by
 rw [pos,Wp]
 constructor
 ·intro h hm;have:=h s hm;rw [mb.2 rfl] at this;cases this
 ·intro h x hx
  cases hh:dD s x
  ·rfl
  ·rw [mb] at hh;subst hh;exact absurd hx h
theorem se {l:List ByteArray} {s:ByteArray} {k:Nat} (h:pos l s=some k): ∃hk:k<l.length,l[k]=s:=by
 rw [pos,Wo] at h;obtain ⟨h1,h2,_⟩:=h;exact ⟨h1,(mb.1 h2).symm⟩
theorem M5 {l:List ByteArray} {s:ByteArray} {k:Nat} (h:pos l s=some k):k<l.length:=(se h).1
abbrev bn:=List (ByteArray×Nat)
structure mX where
 all:List (List Nat)
 rows:List bn
 ends:List Bool
section
variable (cA:List Nat->ByteArray->List Nat) (em:Bool) (la:List Nat)
def Cx (cur:List Nat) (st:List (List Nat)×bn) (lab:ByteArray):List (List Nat)×bn:=
 if cA cur lab=[] then st else match pos (st.1.map iZ) (iZ (cA cur lab)) with
 | some k=>(st.1,st.2++[(lab,k)])
 | none=>(st.1++[cA cur lab],st.2++[(lab,st.1.length)])
def gE (cur:List Nat) (all:List (List Nat)) (af:List ByteArray):List (List Nat)×bn:=af.foldl (Cx cA cur) (all,[])
theorem lR (cur:List Nat) (all:List (List Nat)) (af:List ByteArray) (l:ByteArray):gE cA cur all (af++[l])=Cx cA cur (gE cA cur all af) l:=by rw [gE,XJ];rfl
def eb (st:mX):List Nat:=st.all.getD st.rows.length []
def yL (st:mX):Bool:=(st.rows.length==0&&em)||(eb st).any (fun p=>la.contains p)
def da (af:List ByteArray) (st:mX):mX:=⟨(gE cA (eb st) st.all af).1,st.rows++[(gE cA (eb st) st.all af).2],st.ends++[yL em la st]⟩
def nT (af:List ByteArray):Nat->mX->Option mX
 | 0,st=>some st
 | f+1,st=>if st.rows.length<st.all.length then (if 256<(da cA em la af st).all.length then none else nT af f (da cA em la af st)) else some st
def s0:mX:=⟨[[0]],[],[]⟩
def sx (af:List ByteArray):Option mX:=nT cA em la af 257 s0
structure Dl (af:List ByteArray) (st:mX):Prop where
 le:st.rows.length<=st.all.length
 max:st.all.length<=256
 nd:(st.all.map iZ).Nodup
 ends:st.ends.length=st.rows.length
 row: ∀r∈st.rows,(r.map Prod.fst).Sublist af∧ ∀p∈r,p.2<st.all.length
theorem Nh {cur:List Nat} {a:List (List Nat)×bn} {lab:ByteArray} (hn:(a.1.map iZ).Nodup) (hr: ∀p∈a.2,p.2<a.1.length) :
  ((Cx cA cur a lab).1.map iZ).Nodup∧(∀p∈(Cx cA cur a lab).2,p.2<(Cx cA cur a lab).1.length)∧a.1.length<=(Cx cA cur a lab).1.length∧(Cx cA cur a lab).1.length<=a.1.length+1 ∧
  ((Cx cA cur a lab).2=a.2∨ ∃k,(Cx cA cur a lab).2=a.2++[(lab,k)])∧ ∃t,(Cx cA cur a lab).1=a.1++t:=by
 unfold Cx
 split
 ·exact ⟨hn,hr,UZ _,Nat.le_succ _, .inl rfl,[],by simp⟩
 ·split
  ·rename_i k hk
   have:=M5 hk
   rw [VW] at this;refine ⟨hn,fun p hp=> ?_,UZ _,Nat.le_succ _, .inr ⟨_,rfl⟩,[],by simp⟩;simp only [Ww,Xq] at hp
   rcases hp with hp|rfl
   ·exact hr p hp
   ·exact this
  ·rename_i hk
   refine ⟨?_,fun p hp=> ?_,by simp,by simp, .inr ⟨_,rfl⟩,_,rfl⟩
   ·rw [XK,List.map_singleton,XL];refine ⟨hn,by simp,fun x hx y hy=> ?_⟩;simp only [Xq] at hy;subst hy;rintro rfl;exact yz.1 hk hx
   ·simp only [Ww,Xq,U8,XM] at hp ⊢
    rcases hp with hp|rfl
    ·have:=hr p hp;omega
    ·simp
theorem wj {cur:List Nat} {all:List (List Nat)} (hn:(all.map iZ).Nodup): ∀(af:List ByteArray),
  ((gE cA cur all af).1.map iZ).Nodup∧(∀p∈(gE cA cur all af).2,p.2<(gE cA cur all af).1.length)∧all.length<=(gE cA cur all af).1.length∧(gE cA cur all af).1.length<=all.length+af.length ∧
  ((gE cA cur all af).2.map Prod.fst).Sublist af∧ ∃t,(gE cA cur all af).1=all++t:=by
 refine kb ⟨hn,by simp [gE],UZ _,UZ _,by simp [gE],[],by simp [gE]⟩ ?_
 ·rintro af l ⟨h1,h2,h3,h4,h5,t,h6⟩;obtain ⟨k1,k2,k3,k4,k5,t2,k6⟩:=Nh cA (cur:=cur) (lab:=l) h1 h2;rw [<-lR] at k1 k2 k3 k4 k5 k6;refine ⟨k1,k2,by omega,by simp;omega, ?_,t++t2,by rw [k6,h6,Vv]⟩
  rcases k5 with k5|⟨k,k5⟩
  ·rw [k5];exact h5.trans (List.sublist_append_left _ _)
  ·rw [k5,XK];exact h5.append (by simp)
theorem Ni (af:List ByteArray):Dl af s0:=⟨by simp [s0],by simp [s0],by simp [s0],rfl,by simp [s0]⟩
theorem su {af:List ByteArray} {st:mX} (h:Dl af st) (h1:st.rows.length<st.all.length) (h2: ¬ 256<(da cA em la af st).all.length):Dl af (da cA em la af st):=by
 obtain ⟨k1,k2,k3,k4,k5,t,k6⟩:=wj cA (cur:=eb st) h.nd af
 refine ⟨?_,by omega,k1, ?_,fun r hr=> ?_⟩
 ·simp only [da,U8,XM];omega
 ·simp only [da,U8,XM,h.ends]
 ·simp only [da,Ww,Xq] at hr ⊢
  rcases hr with hr|rfl
  ·obtain ⟨q1,q2⟩:=h.row r hr;exact ⟨q1,fun p hp=>by have:=q2 p hp;omega⟩
  ·exact ⟨k5,k2⟩
theorem Cy {af:List ByteArray}: ∀(f:Nat) {st st':mX},Dl af st->257<=f+st.rows.length->nT cA em la af f st=some st'->Dl af st'∧st'.rows.length=st'.all.length
 | 0,st,st',h,hf,e=>by
  simp only [nT,Option.some.injEq] at e;subst e
  have:=h.le;have:=h.max;omega
 | f+1,st,st',h,hf,e=>by
  rw [nT] at e
  split at e
  ·rename_i h1
   split at e
   ·cases e
   ·rename_i h2;exact Cy f (su cA em la h h1 h2) (by simp only [da,U8,XM];omega) e
  ·cases e;exact ⟨h,by have:=h.le;omega⟩
end
section
variable (rows:List bn)
def vY (part:List Nat) (p:Nat) (row:bn):List UInt8:=Lib.decDigits p++row.flatMap (fun e=>32 :: (e.1.data.toList++32 :: Lib.decDigits (part.getD e.2 0)))
def cM (part:List Nat) (p:Nat) (row:bn):ByteArray:=⟨(vY part p row).toArray⟩
theorem EC (part:List Nat) (p:Nat) (row:bn) (e:ByteArray×Nat):vY part p (row++[e])=vY part p row++32 :: (e.1.data.toList++32 :: Lib.decDigits (part.getD e.2 0)):=by simp [vY]
def QK (part:List Nat) (st:List ByteArray×List Nat) (s:Nat):List ByteArray×List Nat:=
 match pos st.1 (cM part (part.getD s 0) (rows.getD s [])) with
 | some k=>(st.1,st.2++[k])
 | none=>(st.1++[cM part (part.getD s 0) (rows.getD s [])],st.2++[st.1.length])
def dQ (part:List Nat) (n:Nat):List ByteArray×List Nat:=(List.range n).foldl (QK rows part) ([],[])
theorem ug (part:List Nat) (n:Nat):dQ rows part (n+1)=QK rows part (dQ rows part n) n:=by rw [dQ,List.range_succ,XJ];rfl
def dS (part:List Nat):List Nat:=(dQ rows part rows.length).2
def gm (part:List Nat):Nat:=(dQ rows part rows.length).1.length
def vZ:Nat->List Nat->Nat->List Nat
 | 0,part,_=>part
 | f+1,part,many=>if gm rows part=many then dS rows part else vZ f (dS rows part) (gm rows part)
def p0 (ends:List Bool):List Nat:=ends.map (fun b=>if b then 1 else 0)
def cG (ends:List Bool):List Nat:=vZ rows (rows.length+2) (p0 ends) 0
structure Oy (part:List Nat) (n:Nat):Prop where
 len:(dQ rows part n).2.length=n
 nd:(dQ rows part n).1.Nodup
 le:(dQ rows part n).1.length<=n
 at': ∀s,s<n-> ∃h:(dQ rows part n).2.getD s 0<(dQ rows part n).1.length,(dQ rows part n).1[(dQ rows part n).2.getD s 0]=cM part (part.getD s 0) (rows.getD s [])
 on: ∀k,k<(dQ rows part n).1.length-> ∃s,s<n∧(dQ rows part n).2.getD s 0=k
theorem fT (part:List Nat): ∀n,Oy rows part n
 | 0=>⟨rfl,by simp [dQ],by simp [dQ],fun s h=>by omega,fun k h=>by simp [dQ] at h⟩
 | n+1=>by
  have ih:=fT part n;have e:=ug rows part n;unfold QK at e
  have hg: ∀(l:List Nat) (x s:Nat),l.length=n->s<n->(l++[x]).getD s 0=l.getD s 0:=fun l x s h1 h2=>by
   rw [VX,U5 (by omega),VX]
  have hl: ∀(l:List Nat) (x:Nat),l.length=n->(l++[x]).getD n 0=x:=fun l x h1=>by
   rw [VX,Vy (by omega),h1];simp
  cases hp:pos (dQ rows part n).1 (cM part (part.getD n 0) (rows.getD n [])) with
  | some k=>
   rw [hp] at e;simp only at e;obtain ⟨hk,hk2⟩:=se hp
   refine ⟨by rw [e];simp [ih.len],by rw [e];exact ih.nd,by rw [e];have:=ih.le;simp only;omega,fun s hs=> ?_,fun j hj=> ?_⟩
   ·simp only [e]
    rcases U6 s n with q|q
    ·simp only [hg _ _ s ih.len q];exact ih.at' s q
    ·obtain rfl:s=n:=by omega
     simp only [hl _ _ ih.len];exact ⟨hk,hk2⟩
   ·simp only [e] at hj ⊢;obtain ⟨s,q1,q2⟩:=ih.on j hj;exact ⟨s,by omega,by rw [hg _ _ s ih.len q1];exact q2⟩
  | none=>
   rw [hp] at e;simp only at e
   refine ⟨by rw [e];simp [ih.len], ?_,by rw [e];have:=ih.le;simp only [U8,XM];omega,fun s hs=> ?_,fun j hj=> ?_⟩
   ·rw [e];simp only;rw [XL];refine ⟨ih.nd,by simp,fun x hx y hy=> ?_⟩;simp only [Xq] at hy;subst hy;rintro rfl;exact yz.1 hp hx
   ·simp only [e]
    rcases U6 s n with q|q
    ·obtain ⟨q1,q2⟩:=ih.at' s q;simp only [hg _ _ s ih.len q];exact ⟨by simp only [U8,XM];omega,by rw [List.getElem_append_left q1];exact q2⟩
    ·obtain rfl:s=n:=by omega
     simp only [hl _ _ ih.len];exact ⟨by simp,by rw [List.getElem_append_right (UZ _)];simp⟩
   ·simp only [e,U8,XM] at hj ⊢
    rcases U6 j (dQ rows part n).1.length with q|q
    ·obtain ⟨s,q1,q2⟩:=ih.on j q;exact ⟨s,by omega,by rw [hg _ _ s ih.len q1];exact q2⟩
    ·exact ⟨n,by omega,by rw [hl _ _ ih.len];omega⟩
theorem r6 {part:List Nat} {p q:Nat} {r s:bn} (h:cM part p r=cM part q s):p=q:=by
 have e:vY part p r=vY part q s:=by
  have:(cM part p r).data.toList=(cM part q s).data.toList:=by rw [h]
  simpa [cM] using this
 have hh: ∀t:bn,(t.flatMap (fun e=>32 :: (e.1.data.toList++32 :: Lib.decDigits (part.getD e.2 0))))=[]∨(t.flatMap (fun e=>32 :: (e.1.data.toList++32 :: Lib.decDigits (part.getD e.2 0)))).head? = some 32:=fun t=>by
  cases t with
  | nil=>exact .inl rfl
  | cons a t=>exact .inr rfl
 exact (nw e (hh r) (hh s)).1
def Oz (part:List Nat) (many:Nat):Prop:=part.length=rows.length∧ ∀k,k<many-> ∃s,s<rows.length∧part.getD s 0=k
theorem r9 (part:List Nat):Oz rows (dS rows part) (gm rows part):=⟨(fT rows part _).len,(fT rows part _).on⟩
theorem yv (part:List Nat):gm rows part<=rows.length:=(fT rows part _).le
theorem r8 {part:List Nat} {many:Nat} (h:Oz rows part many):many<=gm rows part:=by
 have ok:=fT rows part rows.length
 
 have hch: ∀k, ∃m,k<many->m<gm rows part∧ ∃s,s<rows.length∧part.getD s 0=k∧(dS rows part).getD s 0=m:=fun k=>by
  by_cases hk:k<many
  ·obtain ⟨s,h1,h2⟩:=h.2 k hk;obtain ⟨q1,_⟩:=ok.at' s h1;exact ⟨_,fun _=>⟨q1,s,h1,h2,rfl⟩⟩
  ·exact ⟨0,fun q=>absurd q hk⟩
 obtain ⟨f,hf⟩:=Classical.axiomOfChoice hch
 have inj: ∀a b,a<many->b<many->f a=f b->a=b:=fun a b ha hb e=>by
  obtain ⟨l1,s,k1,k2,k3⟩:=hf a ha;obtain ⟨l2,t,m1,m2,m3⟩:=hf b hb;obtain ⟨q1,q2⟩:=ok.at' s k1;obtain ⟨r1,r2⟩:=ok.at' t m1;have e1:(dQ rows part rows.length).2.getD s 0=(dQ rows part rows.length).2.getD t 0:=k3.trans (e.trans m3.symm)
  have:cM part (part.getD s 0) (rows.getD s [])=cM part (part.getD t 0) (rows.getD t []):=by rw [<-q2, <- r2];simp only [e1]
  rw [<-k2, <- m2];exact r6 this
 exact GO many (gm rows part) f (fun a ha=>(hf a ha).1) inj
end
structure w5 where
 order:List Nat
 rows:List bn
 ends:List Bool
section
variable (rows:List bn) (ends:List Bool) (part:List Nat)
def A8 (order:List Nat) (x:Nat):Option Nat:=(order.map (fun s=>part.getD s 0)).findIdx? (fun y=>x==y)
theorem EP {order:List Nat} {x:Nat}:A8 part order x=none↔x∉order.map (fun s=>part.getD s 0):=by
 rw [A8,Wp]
 constructor
 ·intro h hm;have:=h x hm;simp at this
 ·intro h y hy
  cases hh:x==y
  ·rfl
  ·rw [beq_iff_eq] at hh;subst hh;exact absurd hy h
theorem uv {order:List Nat} {x k:Nat} (h:A8 part order x=some k): ∃hk:k<order.length,part.getD order[k] 0=x:=by
 rw [A8,Wo] at h;obtain ⟨h1,h2,_⟩:=h;rw [VW] at h1;rw [XI,beq_iff_eq] at h2;exact ⟨h1,h2.symm⟩
def EO (st:List Nat×bn) (e:ByteArray×Nat):List Nat×bn:=
 match A8 part st.1 (part.getD e.2 0) with
 | some n=>(st.1,st.2++[(e.1,n)])
 | none=>(st.1++[e.2],st.2++[(e.1,st.1.length)])
def dR (order:List Nat) (row:bn):List Nat×bn:=row.foldl (EO part) (order,[])
theorem lO (order:List Nat) (row:bn) (e:ByteArray×Nat):dR part order (row++[e])=EO part (dR part order row) e:=by rw [dR,XJ];rfl
def iq (st:w5):Nat:=st.order.getD st.rows.length 0
def fy (st:w5):w5:=⟨(dR part st.order (rows.getD (iq st) [])).1,st.rows++[(dR part st.order (rows.getD (iq st) [])).2],st.ends++[ends.getD (iq st) false]⟩
def nQ:Nat->w5->w5
 | 0,st=>st
 | f+1,st=>if st.rows.length<st.order.length then nQ f (fy rows ends part st) else st
def q0:w5:=⟨[0],[],[]⟩
def c8:w5:=nQ rows ends part (rows.length+1) q0
structure Fy (st:w5):Prop where
 le:st.rows.length<=st.order.length
 nd:(st.order.map (fun s=>part.getD s 0)).Nodup
 lt: ∀s∈st.order,s<rows.length
 ends:st.ends.length=st.rows.length
 row: ∀k,k<st.rows.length->(st.rows.getD k []).map Prod.fst=(rows.getD (st.order.getD k 0) []).map Prod.fst∧ ∀p∈st.rows.getD k [],p.2<st.order.length
theorem Na {n:Nat} {a:List Nat×bn} {e:ByteArray×Nat} (he:e.2<n) (hn:(a.1.map (fun s=>part.getD s 0)).Nodup) (hl: ∀s∈a.1,s<n) (hr: ∀p∈a.2,p.2<a.1.length) :
  ((EO part a e).1.map (fun s=>part.getD s 0)).Nodup∧(∀s∈(EO part a e).1,s<n)∧(∀p∈(EO part a e).2,p.2<(EO part a e).1.length)∧a.1.length<=(EO part a e).1.length ∧
  (EO part a e).2.map Prod.fst=a.2.map Prod.fst++[e.1]∧ ∃t,(EO part a e).1=a.1++t:=by
 unfold EO
 split
 ·rename_i k hk;obtain ⟨h1,_⟩:=uv part hk;refine ⟨hn,hl,fun p hp=> ?_,UZ _,by simp,[],by simp⟩;simp only [Ww,Xq] at hp
  rcases hp with hp|rfl
  ·exact hr p hp
  ·exact h1
 ·rename_i hk
  refine ⟨?_,fun s hs=> ?_,fun p hp=> ?_,by simp,by simp,_,rfl⟩
  ·rw [XK,List.map_singleton,XL];refine ⟨hn,by simp,fun x hx y hy=> ?_⟩;simp only [Xq] at hy;subst hy;rintro rfl;exact (EP part).1 hk hx
  ·simp only [Ww,Xq] at hs
   rcases hs with hs|rfl
   ·exact hl s hs
   ·exact he
  ·simp only [Ww,Xq,U8,XM] at hp ⊢
   rcases hp with hp|rfl
   ·have:=hr p hp;omega
   ·simp
theorem qt {n:Nat} {order:List Nat} (hn:(order.map (fun s=>part.getD s 0)).Nodup) (hl: ∀s∈order,s<n): ∀row:bn,(∀p∈row,p.2<n) ->
  ((dR part order row).1.map (fun s=>part.getD s 0)).Nodup∧(∀s∈(dR part order row).1,s<n)∧(∀p∈(dR part order row).2,p.2<(dR part order row).1.length)∧order.length<=(dR part order row).1.length ∧
  (dR part order row).2.map Prod.fst=row.map Prod.fst∧ ∃t,(dR part order row).1=order++t:=by
 refine kb (fun _=>⟨hn,hl,by simp [dR],UZ _,by simp [dR],[],by simp [dR]⟩) ?_;intro row e ih hr;obtain ⟨h1,h2,h3,h4,h5,t,h6⟩:=ih (fun p hp=>hr p (List.mem_append_left _ hp));obtain ⟨k1,k2,k3,k4,k5,t2,k6⟩:=Na part (hr e (by simp)) h1 h2 h3;rw [<-lO] at k1 k2 k3 k4 k5 k6;exact ⟨k1,k2,k3,by omega,by rw [k5,h5,XK];rfl,t++t2,by rw [k6,h6,Vv]⟩
theorem nK {n:Nat} {order:List Nat} (hn:(order.map (fun s=>part.getD s 0)).Nodup) (hl: ∀s∈order,s<n):order.length<=n:=by
 have h1:order.Nodup:=by
  rw [List.Nodup,XH] at hn ⊢;intro i j hi hj hij e
  have:=hn i j (by simpa using hi) (by simpa using hj) hij
  simp only [XI,e] at this;exact this rfl
 have:=h1.length_le_of_subset (l₂:=List.range n) (fun s hs=>Wd.2 (hl s hs))
 simpa using this
theorem HY (h:0<rows.length):Fy rows part q0:=⟨by simp [q0],by simp [q0],by simpa [q0] using h,rfl,fun k hk=>by simp [q0] at hk⟩
theorem fp {α:Type} {l:List α} {a d:α} {i:Nat} (h:i<l.length):(l++[a]).getD i d=l.getD i d:=by
 rw [VX,U5 h,VX]
theorem dN {α:Type} {l:List α} {a d:α}:(l++[a]).getD l.length d=a:=by
 rw [VX,Vy (UZ _)];simp
theorem cJ {α:Type} {l t:List α} {d:α} {i:Nat} (h:i<l.length):(l++t).getD i d=l.getD i d:=by
 rw [VX,U5 h,VX]
theorem bQ {α:Type} {l:List α} {d:α} {i:Nat} (h:i<l.length):l.getD i d∈l:=by
 rw [VX,List.getElem?_eq_getElem h];exact List.getElem_mem h
theorem sj {st:w5} (hT: ∀r∈rows, ∀p∈r,p.2<rows.length) (h:Fy rows part st) (h1:st.rows.length<st.order.length):Fy rows part (fy rows ends part st):=by
 have hc:iq st<rows.length:=h.lt _ (bQ h1);obtain ⟨k1,k2,k3,k4,k5,t,k6⟩:=qt part (n:=rows.length) h.nd h.lt (rows.getD (iq st) []) (hT _ (bQ hc))
 refine ⟨?_,k1,k2, ?_,fun k hk=> ?_⟩
 ·simp only [fy,U8,XM];omega
 ·simp only [fy,U8,XM,h.ends]
 ·simp only [fy,U8,XM] at hk ⊢
  rcases U6 k st.rows.length with q|q
  ·obtain ⟨q1,q2⟩:=h.row k q;rw [fp q,k6,cJ (by omega)];exact ⟨q1,fun p hp=>by have:=q2 p hp;simp only [U8];omega⟩
  ·obtain rfl:k=st.rows.length:=by omega
   rw [dN];refine ⟨?_,k3⟩;rw [k5,k6,cJ h1];rfl
theorem Cv (hT: ∀r∈rows, ∀p∈r,p.2<rows.length): ∀(f:Nat) {st:w5},Fy rows part st->rows.length+1<=f+st.rows.length->Fy rows part (nQ rows ends part f st)∧(nQ rows ends part f st).rows.length=(nQ rows ends part f st).order.length
 | 0,st,h,hf=>by
  have:=nK part h.nd h.lt;have:=h.le;omega
 | f+1,st,h,hf=>by
  rw [nQ]
  split
  ·rename_i h1;exact Cv hT f (sj rows ends part hT h h1) (by simp only [fy,U8,XM];omega)
  ·exact ⟨h,by have:=h.le;omega⟩
end
end
end Go.Proofs.YtlhhccmopfamhaaGreatDoor
