/- texts of one claim, one behind the other. -/
import Derived.Test.YtlhhccmopfamhaaGreatDoorWLabels
import Derived.Test.YtlhhccmopfamhaaGreatDoorWJoin
import Derived.Test.YtlhhccmopfamhaaGreatDoorWAbsCut
import Derived.Test.YtlhhccmopfamhaaGreatDoorWBest
import Derived.Test.YtlhhccmopfamhaaGreatDoorWDfaQ
import Derived.Test.YtlhhccmopfamhaaGreatDoorWRelG
import Derived.Test.YtlhhccmopfamhaaGreatDoorWOpenX
import Derived.Test.YtlhhccmopfamhaaGreatDoorWHeapP
set_option linter.unusedSimpArgs false
set_option linter.unusedVariables false
set_option maxRecDepth 100000
set_option maxHeartbeats 16000000
open Bool renaming and_self -> UM, and_eq_true -> TY, and_true -> Um, true_and -> Us, not_eq_eq_eq_not -> UR, false_eq_true -> Uw, false_and -> VX, and_false -> VY
open Classical renaming byContradiction -> VA
open List renaming mem_cons -> Uv, not_mem_nil -> VS, append_nil -> Up, mem_map -> U4, filter_cons_of_neg -> Vf, cons_append -> UP, nil_append -> UQ, length_cons -> Tc, length_nil -> S6, replicate_succ -> UN, replicate_zero -> UO, getD_eq_getElem?_getD -> T3, getElem?_eq_getElem -> Tn, map_cons -> Vd, foldl_nil -> UH, foldl_cons -> UG, map_nil -> Vq, getElem?_cons_zero -> Ud, length_append -> Tb, length_singleton -> Vx, mem_cons_self -> Ua, mem_cons_of_mem -> T8, getElem?_eq_some_iff -> S7, getElem?_append_left -> S8, getElem?_set_ne -> Tv, getElem?_set_self -> Tw, map_append -> Vu, length_set -> Vp, mem_or_eq_of_mem_set -> VZ, mem_append -> U6, append_assoc -> TB, mem_singleton -> U7, getElem?_append_right -> TD, drop_eq_nil_of_le -> TQ, take_succ_eq_append_getElem -> VB
open Nat renaming lt_or_ge -> S9
open Option renaming getD_none -> VU, isSome_none -> VV, map_some -> TG, getD_some -> Vy, isSome_some -> VW
namespace Go.Proofs.YtlhhccmopfamhaaGreatDoor
open Go.RowKit
section
section
open Go.Lib
theorem MS {α:Type} [Inhabited α] [DecidableEq α] {le:α->α->Prop} (tr: ∀a b c,le a b->le b c->le a c) (an: ∀a b,le a b->le b a->a=b) (rf: ∀a,le a a) (d:Array α) (hs: ∀i j,i<=j->j<d.size->le d[i]! d[j]!) :
  ∀m,m<=d.size->(compactUpTo d m).Pairwise (fun a b=>le a b∧a≠b)∧(∀x,x∈compactUpTo d m ↔ ∃j,j<m∧x=d[j]!)∧ ∀x,x∈compactUpTo d m->le x d[m - 1]!
 | 0,_=>⟨by simp [compactUpTo],fun x=>by simp [compactUpTo],fun x h=>by simp [compactUpTo] at h⟩
 | m+1,hm=>by
  obtain ⟨h1,h2,h3⟩:=MS tr an rf d hs m (by omega);rw [compactUpTo_succ]
  have hle: ∀x,x∈compactUpTo d m->le x d[m]! :=fun x hx=>by
   rcases Nat.eq_zero_or_pos m with e|e
   ·subst e;simp [compactUpTo] at hx
   ·exact tr _ _ _ (h3 x hx) (hs (m - 1) m (by omega) (by omega))
  by_cases hk:keeps d m=true
  ·rw [if_pos hk]
   refine ⟨?_,fun x=> ?_,fun x hx=> ?_⟩
   ·rw [List.pairwise_append];refine ⟨h1,by simp,fun a ha b hb=> ?_⟩;simp only [Uv,VS,or_false] at hb;subst hb;refine ⟨hle a ha,fun e=> ?_⟩
    rcases Nat.eq_zero_or_pos m with q|q
    ·subst q;simp [compactUpTo] at ha
    ·have hne:d[m]! ≠ d[m - 1]! :=by
      simp only [keeps,decide_eq_true_eq] at hk
      rcases hk with hk|hk
      ·omega
      ·exact hk
     have h4:=h3 a ha;have h5:=hs (m - 1) m (by omega) (by omega);rw [e] at h4;exact hne (an _ _ h4 h5)
   ·simp only [List.mem_append,Uv,VS,or_false,h2 x]
    constructor
    ·rintro (⟨j,hj,rfl⟩|rfl)
     ·exact ⟨j,by omega,rfl⟩
     ·exact ⟨m,by omega,rfl⟩
    ·rintro ⟨j,hj,rfl⟩
     rcases S9 j m with q|q
     ·exact .inl ⟨j,q,rfl⟩
     ·obtain rfl:j=m:=by omega
      exact .inr rfl
   ·rw [Nat.add_sub_cancel];simp only [List.mem_append,Uv,VS,or_false] at hx
    rcases hx with hx|rfl
    ·exact hle x hx
    ·exact rf _
  ·rw [if_neg hk,Up]
   have hm0:m≠0∧d[m]! = d[m - 1]! :=by
    simp only [keeps,decide_eq_true_eq] at hk;exact ⟨fun e=>hk (.inl e),VA fun e=>hk (.inr e)⟩
   refine ⟨h1,fun x=> ?_,fun x hx=>by rw [Nat.add_sub_cancel];exact hle x hx⟩;rw [h2 x]
   constructor
   ·rintro ⟨j,hj,rfl⟩;exact ⟨j,by omega,rfl⟩
   ·rintro ⟨j,hj,rfl⟩
    rcases S9 j m with q|q
    ·exact ⟨j,q,rfl⟩
    ·obtain rfl:j=m:=by omega
     exact ⟨j - 1,by omega,hm0.2⟩
theorem qi (l:List (List UInt8)):(Go.Lib.compact (l.mergeSort (fun x y=>decide (x<=y)))).Pairwise (fun a b=>a<b)∧ ∀x,x∈Go.Lib.compact (l.mergeSort (fun x y=>decide (x<=y)))↔x∈l:=by
 have hsort:(l.mergeSort (fun x y=>decide (x<=y))).Pairwise (fun x y=>decide (x<=y)=true):=List.pairwise_mergeSort (fun a b c h1 h2=>by simp only [decide_eq_true_eq] at *; exact List.le_trans h1 h2) (fun a b=>by simp only [Bool.or_eq_true,decide_eq_true_eq];exact List.le_total a b) _;have hperm:=List.mergeSort_perm l (fun x y=>decide (x<=y));generalize l.mergeSort (fun x y=>decide (x<=y))=s at hsort hperm
 have hs: ∀i j,i<=j->j<s.toArray.size->s.toArray[i]! <= s.toArray[j]! :=fun i j hij hj=>by
  have hj':j<s.length:=by simpa using hj
  have hi':i<s.length:=by omega
  rw [getElem!_pos s.toArray i (by simpa using hi'),getElem!_pos s.toArray j hj];simp only [List.getElem_toArray]
  rcases S9 i j with q|q
  ·have:=List.pairwise_iff_getElem.1 hsort i j hi' hj' q
   simpa using this
  ·obtain rfl:i=j:=by omega
   exact List.le_refl _
 obtain ⟨h1,h2,_⟩:=MS (le:=fun a b:List UInt8=>a<=b) (fun _ _ _=>List.le_trans) (fun _ _=>List.le_antisymm) (fun _=>List.le_refl _) s.toArray hs s.length (by simp)
 refine ⟨?_,fun x=> ?_⟩
 ·show (compactUpTo s.toArray s.length).Pairwise _;refine h1.imp fun {a b} ⟨q1,q2⟩=> ?_;exact VA fun h=>q2 (List.le_antisymm q1 (List.not_lt.1 h))
 ·show x∈compactUpTo s.toArray s.length↔_;rw [h2 x, <- hperm.mem_iff]
  constructor
  ·rintro ⟨j,hj,rfl⟩;rw [getElem!_pos s.toArray j (by simpa using hj)];simp
  ·intro hx;obtain ⟨j,hj,rfl⟩:=List.getElem_of_mem hx;exact ⟨j,hj,by rw [getElem!_pos s.toArray j (by simpa using hj)];simp⟩
end
theorem nY (x:Ex):mn (cn x):=by
 rw [mn,cn,List.pairwise_map]
 exact (qi _).1.imp fun h=>by simpa using h
theorem kp {x:Ex} {s:ByteArray}:s∈cn x↔s∈aX x:=by
 rw [cn,U4]
 constructor
 ·rintro ⟨l,h,rfl⟩
  have:=((qi _).2 l).1 h
  obtain ⟨t,h1,rfl⟩:=U4.1 this;simpa using h1
 ·intro h;exact ⟨s.data.toList,((qi _).2 _).2 (List.mem_map_of_mem h),by simp⟩
theorem mL (x:Ex):(cn x).Nodup:=pN (nY x)
theorem Fy (x:Ex):(cn x).length<=(aX x).length:=(mL x).length_le_of_subset fun _ h=>kp.1 h
theorem qK {x:Ex} (h:Fit x):((au x).filter (fun y=>y.kind==1)).map Ex.label=aX x:=by
 induction h with
 | lab s=>simp [au,bS,aX,Ex.kind,Ex.label]
 | many k s l hk hl hf ih=>
  have hk1: ¬k=1:=by rcases hk with rfl|rfl<;>decide
  rw [au,bS,db hk1,Vf (by simpa [Ex.kind] using hk1)];clear hl hf
  induction l with
  | nil=>rfl
  | cons a l ih2=>
   rw [List.flatMap_cons,List.filter_append,List.map_append,aE,ih a (by simp),ih2 (fun y hy=>ih y (by simp [hy]))]
 | one k s x hk hf ih=>
  have hk1: ¬k=1:=by rcases hk with rfl|rfl|rfl<;>decide
  rw [au,bS,db hk1,Vf (by simpa [Ex.kind] using hk1),List.flatMap_cons,List.flatMap_nil,Up,ih,aE,aE,Up]
theorem zF {x:Ex} (h:Fit x) (L:List XC) (e:L.map XC.sig=(au x).map Ex.sig):l7 L=aX x:=by
 rw [<-qK h]
 have h1:l7 L=((L.map XC.sig).filter (fun c=>c.1==1)).map (fun c=>c.2.1):=by
  rw [l7,List.filter_map,List.map_map];rfl
 have h2:((au x).filter (fun y=>y.kind==1)).map Ex.label=(((au x).map Ex.sig).filter (fun c=>c.1==1)).map (fun c=>c.2.1):=by
  have e1:((fun c:Int×ByteArray×Nat=>c.1==1) ∘ Ex.sig)=fun y=>y.kind==1:=by funext y;cases y;rfl
  have e2:((fun c:Int×ByteArray×Nat=>c.2.1) ∘ Ex.sig)=Ex.label:=by funext y;cases y;rfl
  rw [List.filter_map,List.map_map,e1,e2]
 rw [h1,h2,e]
theorem FB (x:Ex) (h:x.ok) (hr:aB x=true):af Tryz.prog 83 [.agg (bH x)] (ez (cn x)):=
 .Bg (by kernel_rfl) (by simp only [ba,AV.wf,kI,UM]) (fun D nu w vargs hh=>by
  obtain ⟨a,rfl,ha⟩:=dP hh;obtain ⟨ca,rfl,ka⟩:=Gj ha
  have hp:(au x).length<=1000000:=by
   have:=hr
   simp only [aB,TY,decide_eq_true_eq] at this;omega
  exact zH x ca w (Gp x ca ka) h hr hp (zF (lh hr).1))
theorem xi {x:Ex} (hr:aB x=true) {l:ByteArray} (h:l∈aX x):cJ l=true:=by
 rw [<-qK (lh hr).1,U4] at h;obtain ⟨y,hy,rfl⟩:=h;rw [List.mem_filter] at hy
 have hp:y.part=true:=by
  simp only [aB,TY,List.all_eq_true] at hr;exact hr.2 y hy.1
 obtain ⟨k,s,kids⟩:=y
 have hk:k=1:=by simpa [Ex.kind] using hy.2
 subst hk;simp only [Ex.part,bp,BEq.rfl,if_true,TY] at hp;exact hp.2
theorem Cu {s:ByteArray} (h:cJ s=true):s.size<=20:=by
 simp only [cJ,gp,TY,decide_eq_true_eq] at h;exact h.1.1.2
theorem IF {s:ByteArray} (h:cJ s=true):32∉s.data.toList:=fun hm=>by
 simp only [cJ,gp,TY,List.all_eq_true] at h
 have:=h.1.1.1.1 32 hm
 revert this;decide
theorem Bb {x:Ex} (hr:aB x=true): ∀l∈cn x,32∉l.data.toList:=fun l hl=>IF (xi hr (kp.1 hl))
theorem Bc {x:Ex} (hr:aB x=true): ∀l∈cn x,l.size<=20:=fun l hl=>Cu (xi hr (kp.1 hl))
theorem zG {x:Ex} (hr:aB x=true):(cn x).length<=24:=by
 have N:=mP hr
 have:=Fy x
 have:=N.ok.n
 rw [N.ae] at this;omega
theorem Lz {x:Ex} (hr:aB x=true) {st:mj} (h:tF x (cn x)=some st):PV st.rows st.ends∧0<st.rows.length∧(cu st.rows st.ends).length=st.rows.length:=by
 obtain ⟨ho,hl,hw⟩:=Bu (bC (bR x)) (bR x).em (ai (bR x).la) (mL x) h;have hz0:(st.all)[0]? = some [0]:=hw.zero
 have hpos:0<st.rows.length:=by rw [hl];exact (List.getElem?_eq_some_iff.1 hz0).1
 have hT:=tH ho hl;obtain ⟨_,hpl⟩:=rh st.rows st.ends (tG (Bb hr) ho) hT hpos ho.ends
 refine ⟨⟨by have:=ho.max;omega,ho.ends,fun r hr'=>(nY x).sublist (ho.row r hr').1,fun r hr'=> ?_,fun r hr' p hp=>⟨?_,hT r hr' p hp⟩⟩,hpos,hpl⟩
 ·have:=(ho.row r hr').1.length_le
  have:=zG hr
  simp only [List.length_map] at *; omega
 ·have:=Bc hr _ ((ho.row r hr').1.subset (List.mem_map_of_mem hp));omega
def bV (A:nt):List AV:=gV A.rows A.ends++[ez A.ae]
theorem dq (n:Nat) (A:nt):ba n (bV A)=true:=by simp only [bV,gV,ez,UP,UQ,ba,AV.wf,nn,nk,dc,UM]
theorem ze (A:nt):af Tryz.prog 59 [.vp (bV A)] (.v (.int .i64 A.rows.length)):=by
 simp only [bV,gV,ez,UP,UQ]
 (refine af.enter Tryz.func59 rfl (by kernel_rfl) (by kernel_rfl) rfl (by first|rfl|(simp only [go_sem,UM,Um,Us])) (by first|rfl|(simp only [go_sem,UM,Um,Us])) ?_;simp only [Tryz.ntmps59,Tryz.results59,Tc,S6,Nat.reduceAdd,Nat.reduceSub,UN,UO,UP,UQ])
 repeat (first|(with_reducible first|refine ag.up ?_|refine fun (K:AK) hK=> ?_|(refine hK _ ?_;clear hK K))|simp only [go_sem]|clear hK K)
noncomputable def C9 (x:Ex):AV:=match ej x (cn x) with
 | .inl A=> .ct [.vp (bV A), .v (.int .i64 0)]
 | .inr e=> .ct [.v (.pointer none), .v (.int .i64 e)]
theorem JS (x:Ex):(C9 x).wf 0=true:=by
 unfold C9
 split
 ·simp only [AV.wf,ba,dq,UM]
 ·rfl
theorem KP (x:Ex) (ho:x.ok):af Tryz.prog 49 [.agg (bH x)] (C9 x):=by
 have CN:=Nh x ho;have hF:=JS x
 have hu:C9 x=(if aB x then (match tF x (cn x) with
  | some st=>if 32<(js (cn x) st).rows.length then .ct [.v (.pointer none), .v (.int .i64 11)] else .ct [.vp (bV (js (cn x) st)), .v (.int .i64 0)]
  | none=> .ct [.v (.pointer none), .v (.int .i64 11)]) else .ct [.v (.pointer none), .v (.int .i64 2)]):=by
  unfold C9 ej
  cases aB x
  ·rfl
  ·simp only [if_true]
   cases tF x (cn x) with
   | none=>rfl
   | some st=>
    by_cases h32:32<(js (cn x) st).rows.length
    ·simp only [if_pos h32]
    ·simp only [if_neg h32]
 rw [hu] at hF ⊢;clear hu
 cases hr:aB x
 ·rw [hr] at CN hF;simp only [Bool.false_eq_true,if_false] at CN hF ⊢;simp only [aS] at *
  (refine af.enter Tryz.func49 rfl (by kernel_rfl) (by kernel_rfl) rfl (by first|rfl|(simp only [go_sem,UM,Um,Us])) (by first|rfl|(simp only [go_sem,UM,Um,Us])) ?_;simp only [Tryz.ntmps49,Tryz.results49,Tc,S6,Nat.reduceAdd,Nat.reduceSub,UN,UO,UP,UQ])
  repeat (first|(with_reducible first|refine ag.up ?_|refine fun (K:AK) hK=> ?_|(refine hK _ ?_;clear hK K))|simp only [go_sem]|clear hK K)
  refine ab.one CN ?_
  repeat (first|(with_reducible first|refine ag.up ?_|refine fun (K:AK) hK=> ?_|(refine hK _ ?_;clear hK K))|simp only [go_sem]|clear hK K)
  (refine nq.of 40 rfl ?_;simp only [go_sem])
 ·have CL:=FB x ho hr;rw [hr] at CN hF;simp only [if_true] at CN hF ⊢;have ok:=(mP hr).ok;have hln:=zG hr;have CS:=Ly ok (cn x) (mL x) (by omega) (lU _).2;have hS:rz (bC (bR x)) (bR x).em (ai (bR x).la) (cn x)=tF x (cn x):=rfl;rw [hS] at CS
  cases hst:tF x (cn x) with
  | none=>
   rw [hst] at CS hF;simp only [pe] at CS;simp only [aS,ez] at *
   (refine af.enter Tryz.func49 rfl (by kernel_rfl) (by kernel_rfl) rfl (by first|rfl|(simp only [go_sem,UM,Um,Us])) (by first|rfl|(simp only [go_sem,UM,Um,Us])) ?_;simp only [Tryz.ntmps49,Tryz.results49,Tc,S6,Nat.reduceAdd,Nat.reduceSub,UN,UO,UP,UQ])
   repeat (first|(with_reducible first|refine ag.up ?_|refine fun (K:AK) hK=> ?_|(refine hK _ ?_;clear hK K))|simp only [go_sem]|clear hK K)
   refine ab.one CN ?_
   repeat (first|(with_reducible first|refine ag.up ?_|refine fun (K:AK) hK=> ?_|(refine hK _ ?_;clear hK K))|simp only [go_sem]|clear hK K)
   refine ab.one CL ?_
   repeat (first|(with_reducible first|refine ag.up ?_|refine fun (K:AK) hK=> ?_|(refine hK _ ?_;clear hK K))|simp only [go_sem]|clear hK K)
   refine ab.one CS ?_
   repeat (first|(with_reducible first|refine ag.up ?_|refine fun (K:AK) hK=> ?_|(refine hK _ ?_;clear hK K))|simp only [go_sem]|clear hK K)
   (refine nq.of 40 rfl ?_;simp only [go_sem])
  | some st=>
   rw [hst] at CS hF;obtain ⟨g1,g2,g3⟩:=Lz hr hst;have CQ:=IV g1 g2 g3;have CZ:=ze (js (cn x) st);simp only [pe] at CS
   by_cases h32:32<(js (cn x) st).rows.length
   ·simp only [if_pos h32] at hF ⊢;simp only [aS,ez,bV,gA,js,gV,UP,UQ] at *;clear hF g1 g2 g3 hS hst;generalize cL st.rows st.ends (cu st.rows st.ends)=L at CQ CZ h32 ⊢
    (refine af.enter Tryz.func49 rfl (by kernel_rfl) (by kernel_rfl) rfl (by first|rfl|(simp only [go_sem,UM,Um,Us])) (by first|rfl|(simp only [go_sem,UM,Um,Us])) ?_;simp only [Tryz.ntmps49,Tryz.results49,Tc,S6,Nat.reduceAdd,Nat.reduceSub,UN,UO,UP,UQ])
    repeat (first|(with_reducible first|refine ag.up ?_|refine fun (K:AK) hK=> ?_|(refine hK _ ?_;clear hK K))|simp only [go_sem]|clear hK K)
    refine ab.one CN ?_
    repeat (first|(with_reducible first|refine ag.up ?_|refine fun (K:AK) hK=> ?_|(refine hK _ ?_;clear hK K))|simp only [go_sem]|clear hK K)
    refine ab.one CL ?_
    repeat (first|(with_reducible first|refine ag.up ?_|refine fun (K:AK) hK=> ?_|(refine hK _ ?_;clear hK K))|simp only [go_sem]|clear hK K)
    refine ab.one CS ?_
    repeat (first|(with_reducible first|refine ag.up ?_|refine fun (K:AK) hK=> ?_|(refine hK _ ?_;clear hK K))|simp only [go_sem]|clear hK K)
    refine ab.one CQ ?_
    repeat (first|(with_reducible first|refine ag.up ?_|refine fun (K:AK) hK=> ?_|(refine hK _ ?_;clear hK K))|simp only [go_sem]|clear hK K)
    refine ab.E9 CZ 20 rfl (by simp only [go_sem,Nat.reduceLT,Nat.reduceLeDiff,Nat.reduceEqDiff,Nat.lt_add_one,Nat.zero_lt_one,and_self]) rfl ?_
    repeat (first|(with_reducible first|refine ag.up ?_|refine fun (K:AK) hK=> ?_|(refine hK _ ?_;clear hK K))|simp only [go_sem]|clear hK K)
    refine fU.part (fun h=> ?_) (fun h=> ?_)
    ·repeat (first|(with_reducible first|refine ag.up ?_|refine fun (K:AK) hK=> ?_|(refine hK _ ?_;clear hK K))|simp only [go_sem]|clear hK K)
     (refine nq.of 40 rfl ?_;simp only [go_sem])
    ·exfalso;(try simp only [bne_iff_ne,ne_eq,bne_eq_false_iff_eq,beq_iff_eq,beq_eq_false_iff_ne,decide_eq_true_eq,decide_eq_false_iff_not,UR,Int.natCast_inj,Int.ofNat_lt,Int.ofNat_le] at h);omega
   ·simp only [if_neg h32] at hF ⊢;simp only [aS,ez,bV,gA,js,gV,UP,UQ] at *;clear hF g1 g2 g3 hS hst;generalize cL st.rows st.ends (cu st.rows st.ends)=L at CQ CZ h32 ⊢
    (refine af.enter Tryz.func49 rfl (by kernel_rfl) (by kernel_rfl) rfl (by first|rfl|(simp only [go_sem,UM,Um,Us])) (by first|rfl|(simp only [go_sem,UM,Um,Us])) ?_;simp only [Tryz.ntmps49,Tryz.results49,Tc,S6,Nat.reduceAdd,Nat.reduceSub,UN,UO,UP,UQ])
    repeat (first|(with_reducible first|refine ag.up ?_|refine fun (K:AK) hK=> ?_|(refine hK _ ?_;clear hK K))|simp only [go_sem]|clear hK K)
    refine ab.one CN ?_
    repeat (first|(with_reducible first|refine ag.up ?_|refine fun (K:AK) hK=> ?_|(refine hK _ ?_;clear hK K))|simp only [go_sem]|clear hK K)
    refine ab.one CL ?_
    repeat (first|(with_reducible first|refine ag.up ?_|refine fun (K:AK) hK=> ?_|(refine hK _ ?_;clear hK K))|simp only [go_sem]|clear hK K)
    refine ab.one CS ?_
    repeat (first|(with_reducible first|refine ag.up ?_|refine fun (K:AK) hK=> ?_|(refine hK _ ?_;clear hK K))|simp only [go_sem]|clear hK K)
    refine ab.one CQ ?_
    repeat (first|(with_reducible first|refine ag.up ?_|refine fun (K:AK) hK=> ?_|(refine hK _ ?_;clear hK K))|simp only [go_sem]|clear hK K)
    refine ab.E9 CZ 20 rfl (by simp only [go_sem,Nat.reduceLT,Nat.reduceLeDiff,Nat.reduceEqDiff,Nat.lt_add_one,Nat.zero_lt_one,and_self]) rfl ?_
    repeat (first|(with_reducible first|refine ag.up ?_|refine fun (K:AK) hK=> ?_|(refine hK _ ?_;clear hK K))|simp only [go_sem]|clear hK K)
    refine fU.part (fun h=> ?_) (fun h=> ?_)
    ·exfalso;(try simp only [bne_iff_ne,ne_eq,bne_eq_false_iff_eq,beq_iff_eq,beq_eq_false_iff_ne,decide_eq_true_eq,decide_eq_false_iff_not,UR,Int.natCast_inj,Int.ofNat_lt,Int.ofNat_le] at h);omega
    ·repeat (first|(with_reducible first|refine ag.up ?_|refine fun (K:AK) hK=> ?_|(refine hK _ ?_;clear hK K))|simp only [go_sem]|clear hK K)
     (refine nq.of 40 rfl ?_;simp only [go_sem])
end
def dG (A:nt) (s:Int):Bool:=decide (0<=s)&&decide (s<A.rows.length)&&A.ends.getD s.toNat false
def lF (A:nt) (s:Int) (l:ByteArray):Option Nat:=if 0<=s∧s<A.rows.length then look (A.rows.getD s.toNat []) l else none
def stepT (o:Option Nat):AV:= .ct [.v (.int .i64 ((o.getD 0:Nat):Int)), .v (.bool o.isSome)]
theorem EW (A:nt) (hE:A.ends.length=A.rows.length) (s:Int):af Tryz.prog 31 [.vp (bV A), .v (.int .i64 s)] (.v (.bool (dG A s))):=by
 have CZ:=ze A;simp only [bV,gV,ez,UP,UQ,hE] at CZ ⊢
 by_cases h0:0<=s
 ·obtain ⟨k,rfl⟩: ∃k:Nat,s=k:=⟨s.toNat,by omega⟩;have e1:decide (0<=(k:Int))=true:=decide_eq_true h0
  by_cases h1:k<A.rows.length
  ·have e2:decide ((k:Int)<(A.rows.length:Int))=true:=decide_eq_true (by omega)
   have e3:dG A k=A.ends.getD k false:=by rw [dG,e1,e2];rfl
   have eG:(A.ends.map (fun b=>[AV.v (.bool b)])).getD k []=[.v (.bool (A.ends.getD k false))]:=by
    rw [T3,List.getElem?_map,Tn (by omega),T3,Tn (by omega)];rfl
   rw [e3]
   (refine af.enter Tryz.func31 rfl (by kernel_rfl) (by kernel_rfl) rfl (by first|rfl|(simp only [go_sem,UM,Um,Us])) (by first|rfl|(simp only [go_sem,UM,Um,Us])) ?_;simp only [Tryz.ntmps31,Tryz.results31,Tc,S6,Nat.reduceAdd,Nat.reduceSub,UN,UO,UP,UQ])
   repeat (first|(with_reducible first|refine ag.up ?_|refine fun (K:AK) hK=> ?_|(refine hK _ ?_;clear hK K))|simp only [go_sem,e1]|with_reducible refine wA ?_|clear hK K)
   refine ab.one CZ ?_
   repeat (first|(with_reducible first|refine ag.up ?_|refine fun (K:AK) hK=> ?_|(refine hK _ ?_;clear hK K))|simp only [go_sem,e2,eG]|with_reducible refine wA ?_|clear hK K)
  ·have e2:decide ((k:Int)<(A.rows.length:Int))=false:=decide_eq_false (by omega)
   have e3:dG A k=false:=by rw [dG,e2];simp
   rw [e3]
   (refine af.enter Tryz.func31 rfl (by kernel_rfl) (by kernel_rfl) rfl (by first|rfl|(simp only [go_sem,UM,Um,Us])) (by first|rfl|(simp only [go_sem,UM,Um,Us])) ?_;simp only [Tryz.ntmps31,Tryz.results31,Tc,S6,Nat.reduceAdd,Nat.reduceSub,UN,UO,UP,UQ])
   repeat (first|(with_reducible first|refine ag.up ?_|refine fun (K:AK) hK=> ?_|(refine hK _ ?_;clear hK K))|simp only [go_sem,e1]|with_reducible refine wA ?_|clear hK K)
   refine ab.one CZ ?_
   repeat (first|(with_reducible first|refine ag.up ?_|refine fun (K:AK) hK=> ?_|(refine hK _ ?_;clear hK K))|simp only [go_sem,e2]|with_reducible refine wA ?_|clear hK K)
 ·have e1:decide (0<=s)=false:=decide_eq_false h0
  have e3:dG A s=false:=by rw [dG,e1];rfl
  rw [e3]
  (refine af.enter Tryz.func31 rfl (by kernel_rfl) (by kernel_rfl) rfl (by first|rfl|(simp only [go_sem,UM,Um,Us])) (by first|rfl|(simp only [go_sem,UM,Um,Us])) ?_;simp only [Tryz.ntmps31,Tryz.results31,Tc,S6,Nat.reduceAdd,Nat.reduceSub,UN,UO,UP,UQ])
  repeat (first|(with_reducible first|refine ag.up ?_|refine fun (K:AK) hK=> ?_|(refine hK _ ?_;clear hK K))|simp only [go_sem,e1]|with_reducible refine wA ?_|clear hK K)
theorem Iw (A:nt) (s:Int) (l:ByteArray):af Tryz.prog 55 [.vp (bV A), .v (.int .i64 s), .v (.string l)] (stepT (lF A s l)):=by
 have CZ:=ze A;simp only [bV,gV,ez,UP,UQ] at *
 by_cases h0:0<=s
 ·obtain ⟨k,rfl⟩: ∃k:Nat,s=k:=⟨s.toNat,by omega⟩;have e1:decide (0<=(k:Int))=true:=decide_eq_true h0
  by_cases h1:k<A.rows.length
  ·have e2:decide ((k:Int)<(A.rows.length:Int))=true:=decide_eq_true (by omega)
   have e3:lF A k l=look A.rows[k] l:=by
    rw [lF,if_pos ⟨h0,by omega⟩,Int.toNat_natCast,T3,Tn h1];rfl
   have eG:(A.rows.map (fun r=>[AV.mp (cf r)])).getD k []=[.mp (cf A.rows[k])]:=by
    rw [T3,List.getElem?_map,Tn h1];rfl
   have eA:=ug l A.rows[k];rw [e3]
   cases hl:look A.rows[k] l with
   | none=>
    rw [hl] at eA;simp only [Option.map_none,stepT,VU,VV] at eA ⊢
    (refine af.enter Tryz.func55 rfl (by kernel_rfl) (by kernel_rfl) rfl (by first|rfl|(simp only [go_sem,UM,Um,Us])) (by first|rfl|(simp only [go_sem,UM,Um,Us])) ?_;simp only [Tryz.ntmps55,Tryz.results55,Tc,S6,Nat.reduceAdd,Nat.reduceSub,UN,UO,UP,UQ])
    repeat (first|(with_reducible first|refine ag.up ?_|refine fun (K:AK) hK=> ?_|(refine hK _ ?_;clear hK K))|simp only [go_sem,e1]|with_reducible refine wA ?_|clear hK K)
    refine ab.one CZ ?_
    repeat (first|(with_reducible first|refine ag.up ?_|refine fun (K:AK) hK=> ?_|(refine hK _ ?_;clear hK K))|simp only [go_sem,e2,eG,eA]|with_reducible refine wA ?_|clear hK K)
    (refine nq.of 40 rfl ?_;simp only [go_sem])
   | some t=>
    rw [hl] at eA;simp only [TG,stepT,Vy,VW] at eA ⊢
    (refine af.enter Tryz.func55 rfl (by kernel_rfl) (by kernel_rfl) rfl (by first|rfl|(simp only [go_sem,UM,Um,Us])) (by first|rfl|(simp only [go_sem,UM,Um,Us])) ?_;simp only [Tryz.ntmps55,Tryz.results55,Tc,S6,Nat.reduceAdd,Nat.reduceSub,UN,UO,UP,UQ])
    repeat (first|(with_reducible first|refine ag.up ?_|refine fun (K:AK) hK=> ?_|(refine hK _ ?_;clear hK K))|simp only [go_sem,e1]|with_reducible refine wA ?_|clear hK K)
    refine ab.one CZ ?_
    repeat (first|(with_reducible first|refine ag.up ?_|refine fun (K:AK) hK=> ?_|(refine hK _ ?_;clear hK K))|simp only [go_sem,e2,eG,eA]|with_reducible refine wA ?_|clear hK K)
    (refine nq.of 40 rfl ?_;simp only [go_sem])
  ·have e2:decide ((k:Int)<(A.rows.length:Int))=false:=decide_eq_false (by omega)
   have e3:lF A k l=none:=by rw [lF,if_neg (by omega)]
   rw [e3];simp only [stepT,VU,VV]
   (refine af.enter Tryz.func55 rfl (by kernel_rfl) (by kernel_rfl) rfl (by first|rfl|(simp only [go_sem,UM,Um,Us])) (by first|rfl|(simp only [go_sem,UM,Um,Us])) ?_;simp only [Tryz.ntmps55,Tryz.results55,Tc,S6,Nat.reduceAdd,Nat.reduceSub,UN,UO,UP,UQ])
   repeat (first|(with_reducible first|refine ag.up ?_|refine fun (K:AK) hK=> ?_|(refine hK _ ?_;clear hK K))|simp only [go_sem,e1]|with_reducible refine wA ?_|clear hK K)
   refine ab.one CZ ?_
   repeat (first|(with_reducible first|refine ag.up ?_|refine fun (K:AK) hK=> ?_|(refine hK _ ?_;clear hK K))|simp only [go_sem,e2]|with_reducible refine wA ?_|clear hK K)
   (refine nq.of 40 rfl ?_;simp only [go_sem])
 ·have e1:decide (0<=s)=false:=decide_eq_false h0
  have e3:lF A s l=none:=by rw [lF,if_neg (by omega)]
  rw [e3];simp only [stepT,VU,VV]
  (refine af.enter Tryz.func55 rfl (by kernel_rfl) (by kernel_rfl) rfl (by first|rfl|(simp only [go_sem,UM,Um,Us])) (by first|rfl|(simp only [go_sem,UM,Um,Us])) ?_;simp only [Tryz.ntmps55,Tryz.results55,Tc,S6,Nat.reduceAdd,Nat.reduceSub,UN,UO,UP,UQ])
  repeat (first|(with_reducible first|refine ag.up ?_|refine fun (K:AK) hK=> ?_|(refine hK _ ?_;clear hK K))|simp only [go_sem,e1]|with_reducible refine wA ?_|clear hK K)
  (refine nq.of 40 rfl ?_;simp only [go_sem])
def mI (p:tZ):List AV:=[.v (.string p.key), .v (.int .i64 p.val.kind), .v (.int .i64 p.val.num), .v (.string p.val.text)]
def bu (e:aV):List AV:=[.v (.string e.aG), .v (.string e.to), .v (.string e.label), .v (.int .i64 e.time), .aI 4 (e.props.map mI) e.props.length]
theorem fg (n:Nat) (l:List tZ):bQ n (l.map mI)=true:=bg _ (fun _=>rfl) l
theorem DN (n:Nat) (e:aV):ba n (bu e)=true:=by simp only [bu,ba,AV.wf,fg,Um]
theorem dN (n:Nat) (l:List aV):bQ n (l.map bu)=true:=bg _ (DN n) l
def iS (A:nt) (s:Nat) (l:ByteArray):Option Nat:=lF A s l
def iR (S:DS):List (Option aa):=[some ⟨108,0,false,bq bG S.known⟩,some ⟨108,1,false,[[.vec 0 0]]⟩,some ⟨79,2,true,S.nodes.map bG⟩,some ⟨109,1,false,[[.vec 2 S.nodes.length]]⟩,
 some ⟨162,2,false,[[.vec 5 S.heap.length, .v (.bool true)]]⟩,some ⟨115,2,true,S.heap.map aC⟩,some ⟨110,1,false,[[.ptr 4 0 2 0 0]]⟩]
theorem fS (n:Nat) (l:List Nd):bQ n (l.map bG)=true:=bg _ (fun _=>rfl) l
theorem cA (n:Nat) (l:List (Nd×Int)):bQ n (bq bG l)=true:=fh (fun _=>rfl) l
theorem vD (n:Nat) (l:List de):bQ n (l.map aC)=true:=aw n l
theorem pD {l:List aV} {i:Nat} (h:i<l.length):(l.map bu).getD i []=[.v (.string l[i].aG), .v (.string l[i].to), .v (.string l[i].label), .v (.int .i64 l[i].time), .aI 4 (l[i].props.map mI) l[i].props.length]:=by
 rw [getD_map bu l i [] h];rfl
def dB (G:List (ByteArray×List aV)):List (List AV):=G.map (fun p=>[.v (.string p.1), .aI 5 (p.2.map bu) p.2.length])
theorem sQ (k:ByteArray): ∀G,jQ .string (.string k) (dB G)=some ((lu G k).map fun l=> .aI 5 (l.map bu) l.length)
 | []=>rfl
 | p :: G=>by
  rw [dB,Vd,jQ,lu];simp only [cm,if_true,cU,tM]
  by_cases e:p.1=k
  ·rw [if_pos e,decide_eq_true e.symm];rfl
  ·rw [if_neg e,decide_eq_false (Ne.symm e)];exact sQ k G
theorem fT (n:Nat): ∀G,bQ n (dB G)=true
 | []=>rfl
 | p :: G=>by
  simp only [dB,Vd,bQ,ba,AV.wf,dN,Us,Um];exact fT n G
attribute [go_sem] cA vD fS fT dq dN fg
theorem LC (A:nt) (s:Nat) (l:ByteArray):lF A (s:Int) l=iS A s l:=rfl
theorem Bw (A:nt) (E:List aV) (G:List (ByteArray×List aV)) (a:Nd) (time:Int) (S:DS) (hg:(lu G a.1).getD []=gw E a.1) (hn:S.heap.length+(gw E a.1).length<=999999) (hnn:S.nodes.length+(gw E a.1).length<=999999) (ht:0<=time∧time<=1099511627776) (hE: ∀e∈gw E a.1,0<=e.time∧e.time<=1099511627776) :
  aR Tryz.prog 54 [.agg (bG a), .v (.int .i64 time), .vp [.vp (bV A), .mp (dB G)], .ptr 1 0 1 0 0, .ptr 6 0 1 0 0, .ptr 3 0 1 0 0] (iR S) (.ct []) (iR (jU (iS A) E a time S)):=by
 have g0:=sQ a.1 G;simp only [bG];rw [jU];generalize hR:(gw E a.1).foldl (pw (iS A) a time) S=R;generalize gw E a.1=L at *
 have d00:decide (((0:Nat):Int)<((0:Nat):Int))=false:=by decide
 cases hgg:lu G a.1 with
 | none=>
  rw [hgg] at g0 hg;simp only [VU,Option.map_none] at hg g0;subst hg;simp only [UH] at hR;subst hR;simp only [iR]
  (refine aR.enter Tryz.func54 rfl (by kernel_rfl) (by kernel_rfl) rfl ?_;simp only [Tryz.ntmps54,Tryz.results54,Tc,S6,Nat.reduceAdd,Nat.reduceSub,UN,UO,UP,UQ])
  repeat (first|(with_reducible first|refine ag.up ?_|refine fun (K:AK) hK=> ?_|refine wD ?_|(refine hK _ ?_;clear hK K))|simp only [go_sem,g0]|with_reducible refine wA ?_|clear hK K)
  refine bW (ι:=Unit) 6 (fun _=>[(18, .v (.int .i64 (0:Nat))),(19, .v (.int .i64 (0:Nat)))]) (fun _=>iR S) (fun _=>0) (fun _=>True) () trivial ?_ ?_
  ·simp only [iR]
   (refine aq ?_ ?_ ?_<;>simp only [aG,UG,UH,UN,UO,bd,bj,AV.v.injEq,Value.int.injEq,Value.bool.injEq,Value.string.injEq,AV.vec.injEq,AV.ptr.injEq,true_or,or_true,false_or,or_false,aa.mk.injEq,forall_eq_apply_imp_iff,forall_eq,forall_eq',go_sem])
   all_goals first|rfl|exact cA _ _|exact vD _ _|exact fS _ _|trace_state
  ·rintro _ _ K hK;simp only [iR]
   repeat (first|(with_reducible first|refine ag.up ?_|refine fun (K:AK) hK=> ?_|refine wD ?_|(refine hK _ ?_;clear hK K))|simp only [go_sem,d00]|with_reducible refine wA ?_|clear hK K)
   (refine ⟨?_, ?_, ?_⟩<;>simp only [bd,bj,AV.v.injEq,Value.int.injEq,Value.bool.injEq,Value.string.injEq,AV.vec.injEq,AV.ptr.injEq,true_or,or_true,false_or,or_false,aa.mk.injEq,forall_eq_apply_imp_iff,forall_eq,forall_eq',go_sem])
   all_goals first|rfl|exact cA _ _|exact vD _ _|exact fS _ _|trace_state
 | some l=>
  rw [hgg] at g0 hg;simp only [Vy,TG] at hg g0;subst hg;simp only [iR]
  (refine aR.enter Tryz.func54 rfl (by kernel_rfl) (by kernel_rfl) rfl ?_;simp only [Tryz.ntmps54,Tryz.results54,Tc,S6,Nat.reduceAdd,Nat.reduceSub,UN,UO,UP,UQ])
  repeat (first|(with_reducible first|refine ag.up ?_|refine fun (K:AK) hK=> ?_|refine wD ?_|(refine hK _ ?_;clear hK K))|simp only [go_sem,g0]|with_reducible refine wA ?_|clear hK K)
  refine bW (ι:=DS×Nat) 6 (fun x=>[(6, .ptr 7 0 2 0 0),(17, .aI 5 (l.map bu) l.length),(18, .v (.int .i64 (l.length:Nat))),(19, .v (.int .i64 (x.2:Nat)))]) (fun x=>iR x.1++[some ⟨79,2,false,[[.v (.string a.1), .v (.int .i64 (a.2:Nat))]]⟩]) (fun x=>l.length - x.2)
   (fun x=>x.2<=l.length∧(l.drop x.2).foldl (pw (iS A) a time) x.1=R∧x.1.heap.length+(l.length - x.2)<=999999∧x.1.nodes.length+(l.length - x.2)<=999999) (S,0) ⟨Nat.zero_le _,hR,hn,hnn⟩ ?_ ?_
  ·simp only [iR,UP,UQ]
   (refine aq ?_ ?_ ?_<;>simp only [aG,UG,UH,UN,UO,bd,bj,AV.v.injEq,Value.int.injEq,Value.bool.injEq,Value.string.injEq,AV.vec.injEq,AV.ptr.injEq,true_or,or_true,false_or,or_false,aa.mk.injEq,forall_eq_apply_imp_iff,forall_eq,forall_eq',go_sem])
   all_goals first|rfl|exact rfl|trace_state
  ·rintro ⟨T,i⟩ ⟨hil,hT,hh,hnd⟩ K hK;simp only at hil hT hh hnd ⊢;simp only [iR,UP,UQ]
   have eN:(l.map bu).length=l.length:=by simp
   rcases Nat.lt_or_ge i l.length with hi|hi
   ·have d1:decide ((i:Int)<(l.length:Int))=true:=decide_eq_true (by omega);have e1:=pD hi;have C:=Iw A a.2 l[i].label;simp only [stepT,LC] at C;rw [List.drop_eq_getElem_cons hi,UG] at hT;have hEt:=hE l[i] (List.getElem_mem hi);have ws:=aD (k:=i) (by omega);generalize l[i]=e at *;rw [pw] at hT
    cases hs:iS A a.2 e.label with
    | none=>
     rw [hs] at C hT;simp only [VU,VV] at C hT
     repeat (first|(with_reducible first|refine ag.up ?_|refine fun (K:AK) hK=> ?_|refine wD ?_|(refine hK _ ?_;clear hK K))|simp only [go_sem,d1,e1,eN]|with_reducible refine wA ?_|clear hK K)
     refine ab.one C ?_
     repeat (first|(with_reducible first|refine ag.up ?_|refine fun (K:AK) hK=> ?_|refine wD ?_|(refine hK _ ?_;clear hK K))|simp only [go_sem,ws]|with_reducible refine wA ?_|clear hK K)
     refine aP.mk (T,i+1) ⟨hi,hT,(show T.heap.length+(l.length - (i+1))<=999999 by omega),(show T.nodes.length+(l.length - (i+1))<=999999 by omega)⟩ (show l.length - (i+1)<l.length - i by omega) ?_;simp only [iR,UP,UQ]
     (refine aq ?_ ?_ ?_<;>simp only [aG,UG,UH,UN,UO,bd,bj,AV.v.injEq,Value.int.injEq,Value.bool.injEq,Value.string.injEq,AV.vec.injEq,AV.ptr.injEq,true_or,or_true,false_or,or_false,aa.mk.injEq,forall_eq_apply_imp_iff,forall_eq,forall_eq',go_sem])
     all_goals first|rfl|trace_state
    | some t=>
     rw [hs] at C hT;simp only [Vy,VW] at C hT;have PU:=Lp T.known (e.to,t) (min time e.time);simp only [bG] at PU;rw [eX] at PU;have eK: ∀f l,bI f (bq bG l)=bq bG l:=fun f l=>bc _ _ (cA _ _)
     have em:(if e.time<time then e.time else time)=min time e.time:=by omega
     repeat (first|(with_reducible first|refine ag.up ?_|refine fun (K:AK) hK=> ?_|refine wD ?_|(refine hK _ ?_;clear hK K))|simp only [go_sem,d1,e1,eN]|with_reducible refine wA ?_|clear hK K)
     refine ab.one C ?_
     repeat (first|(with_reducible first|refine ag.up ?_|refine fun (K:AK) hK=> ?_|refine wD ?_|(refine hK _ ?_;clear hK K))|simp only [go_sem,em]|with_reducible refine wA ?_|clear hK K)
     cases hb:gZ T.known (e.to,t) (min time e.time)
     ·rw [hb] at PU hT;simp only [Bool.false_eq_true,if_false] at PU hT
      refine ab.fr [0] PU (by simp) ?_ ?_ ?_ ?_ ?_
      ·simp only [Vd,Vq,Ud,TG,aa.aO,eK]
      ·rfl
      ·rfl
      ·intro j ob hj
       match j,hj with
       | 0,hj=>cases hj;exact cA _ _
       | j+1,hj=>simp at hj
      repeat (first|(with_reducible first|refine ag.up ?_|refine fun (K:AK) hK=> ?_|refine wD ?_|(refine hK _ ?_;clear hK K))|simp only [go_sem,eK,ws]|with_reducible refine wA ?_|clear hK K)
      refine aP.mk (T,i+1) ⟨hi,hT,(show T.heap.length+(l.length - (i+1))<=999999 by omega),(show T.nodes.length+(l.length - (i+1))<=999999 by omega)⟩ (show l.length - (i+1)<l.length - i by omega) ?_;simp only [iR,UP,UQ]
      (refine aq ?_ ?_ ?_<;>simp only [aG,UG,UH,UN,UO,bd,bj,AV.v.injEq,Value.int.injEq,Value.bool.injEq,Value.string.injEq,AV.vec.injEq,AV.ptr.injEq,true_or,or_true,false_or,or_false,aa.mk.injEq,forall_eq_apply_imp_iff,forall_eq,forall_eq',go_sem])
      all_goals first|rfl|trace_state
     ·rw [hb] at PU hT;simp only [if_true] at PU hT
      have tt:gS Tryz.prog 79=some [.s, .i]:=by kernel_rfl
      have g1:=iI oV (e.to,t) (fY T.known (e.to,t) (min time e.time));have g3:=oV (e.to,t) (e.to,t);rw [decide_eq_true rfl] at g3;rw [gH,if_pos rfl] at g1;simp only [bG,TG] at g1 g3
      have wn:IntKind.i64.wrap (0 - (min time e.time)) = -(min time e.time):=by rw [dQ (by omega) (by omega)];omega
      have PS:=Ln T.heap (-(min time e.time),(T.nodes.length:Int)) (by omega)
      have eNn:(T.nodes.map bG).length=T.nodes.length:=by simp
      have hpl:(iP T.heap (-(min time e.time),(T.nodes.length:Int))).length=T.heap.length+1:=by have:=(fA T.heap (-(min time e.time),(T.nodes.length:Int))).length_eq;simpa using this
      simp only [aC,l5] at PS;have eI: ∀f l,bI f (List.map aC l)=List.map aC l:=fun f l=>bc _ _ (aw _ _)
      refine ab.fr [0] PU (by simp) ?_ ?_ ?_ ?_ ?_
      ·simp only [Vd,Vq,Ud,TG,aa.aO,eK]
      ·rfl
      ·rfl
      ·intro j ob hj
       match j,hj with
       | 0,hj=>cases hj;exact cA _ _
       | j+1,hj=>simp at hj
      repeat (first|(with_reducible first|refine ag.up ?_|refine fun (K:AK) hK=> ?_|refine wD ?_|(refine hK _ ?_;clear hK K))|simp only [go_sem,eK,g1,g3,tt,wn]|with_reducible refine wA ?_|clear hK K)
      refine ab.fr [4,5] PS (by simp) ?_ ?_ ?_ ?_ ?_
      ·simp only [Vd,Vq,Ud,List.getElem?_cons_succ,TG,aa.aO,bI,bo,AV.aO,eI];rfl
      ·rfl
      ·rfl
      ·intro j ob hj
       match j,hj with
       | 0,hj=>cases hj;rfl
       | 1,hj=>cases hj;exact aw _ _
       | j+2,hj=>simp at hj
      repeat (first|(with_reducible first|refine ag.up ?_|refine fun (K:AK) hK=> ?_|refine wD ?_|(refine hK _ ?_;clear hK K))|simp only [go_sem,eI,eNn,ws]|with_reducible refine wA ?_|clear hK K)
      have e5:(T.nodes++[(e.to,t)]).map bG=T.nodes.map bG++[[.v (.string e.to), .v (.int .i64 (t:Nat))]]:=by rw [List.map_append];rfl
      have e6:(T.nodes++[(e.to,t)]).length=T.nodes.length+1:=by simp
      refine aP.mk (⟨fY T.known (e.to,t) (min time e.time),T.nodes++[(e.to,t)],iP T.heap (-(min time e.time),(T.nodes.length:Int))⟩,i+1) ⟨hi,hT,(show (iP T.heap (-(min time e.time),(T.nodes.length:Int))).length+(l.length - (i+1))<=999999 by omega),(show (T.nodes++[(e.to,t)]).length+(l.length - (i+1))<=999999 by omega)⟩ (show l.length - (i+1)<l.length - i by omega) ?_;simp only [iR,UP,UQ,e5,e6]
      (refine aq ?_ ?_ ?_<;>simp only [aG,UG,UH,UN,UO,bd,bj,AV.v.injEq,Value.int.injEq,Value.bool.injEq,Value.string.injEq,AV.vec.injEq,AV.ptr.injEq,true_or,or_true,false_or,or_false,aa.mk.injEq,forall_eq_apply_imp_iff,forall_eq,forall_eq',go_sem])
      all_goals first|rfl|trace_state
   ·have d1:decide ((i:Int)<(l.length:Int))=false:=decide_eq_false (by omega);rw [List.drop_eq_nil_of_le hi,UH] at hT
    repeat (first|(with_reducible first|refine ag.up ?_|refine fun (K:AK) hK=> ?_|refine wD ?_|(refine hK _ ?_;clear hK K))|simp only [go_sem,d1]|with_reducible refine wA ?_|clear hK K)
    rw [hT]
    (refine ⟨?_, ?_, ?_⟩<;>simp only [bd,bj,AV.v.injEq,Value.int.injEq,Value.bool.injEq,Value.string.injEq,AV.vec.injEq,AV.ptr.injEq,true_or,or_true,false_or,or_false,aa.mk.injEq,forall_eq_apply_imp_iff,forall_eq,forall_eq',go_sem])
    all_goals first|rfl|trace_state
theorem yl (s:ByteArray) (hs:s.size<=maxLen):af Tryz.prog 86 [.v (.string s)] (.v (.bool (gp s))):=af.qT (by kernel_rfl) rfl (fun D nu w vargs hra=>by
 obtain ⟨x,rfl,hx⟩:=dP hra;rw [hx.bZ]
 exact o5 s w hs)
theorem E7 (s:ByteArray) (hs:s.size<=maxLen):af Tryz.prog 87 [.v (.string s)] (.v (.bool (cJ s))):=af.qT (by kernel_rfl) rfl (fun D nu w vargs hra=>by
 obtain ⟨x,rfl,hx⟩:=dP hra;rw [hx.bZ]
 exact wT s w hs)
theorem An (v:yL) (hs:v.text.size<=maxLen):af Tryz.prog 128 [.agg [.v (.int .i64 v.kind), .v (.int .i64 v.num), .v (.string v.text)]] (.v (.bool (bD v))):=af.qT (by kernel_rfl) rfl (fun D nu w vargs hra=>by
 obtain ⟨x,rfl,hx⟩:=dP hra;have e:x = .agg #[.int .i64 v.kind, .int .i64 v.num, .string v.text]:=gG (xs:=[.int .i64 v.kind, .int .i64 v.num, .string v.text]) hx;rw [e]
 exact vz v w hs)
theorem G5 (t:Int):af Tryz.prog 129 [.v (.int .i64 0), .v (.int .i64 1099511627776), .aI 1 [[.v (.int .i64 t)]] 1] (.v (.bool (decide (0<=t∧t<=1099511627776)))):=by
 have d0:decide (((0:Nat):Int)<((1:Nat):Int))=true:=by decide
 have d1:decide (((1:Nat):Int)<((1:Nat):Int))=false:=by decide
 have ws:=aD (k:=0) (by omega)
 (refine af.enter Tryz.func129 rfl (by kernel_rfl) (by kernel_rfl) rfl (by first|rfl|(simp only [go_sem,UM,Um,Us])) (by first|rfl|(simp only [go_sem,UM,Um,Us])) ?_;simp only [Tryz.ntmps129,Tryz.results129,Tc,S6,Nat.reduceAdd,Nat.reduceSub,UN,UO,UP,UQ])
 repeat (first|(with_reducible first|refine ag.up ?_|refine fun (K:AK) hK=> ?_|(refine hK _ ?_;clear hK K))|simp only [go_sem]|with_reducible refine wA ?_|clear hK K)
 refine cI (ι:=Bool) 11 (fun b=>[(8, .undef),(11, .v (.int .i64 ((if b then 1 else 0:Nat):Int)))]) (fun b=>if b then 0 else 1) (fun b=>b=true->0<=t∧t<=1099511627776) false (fun h=>by cases h) ?_ ?_
 ·simp only [Uw,if_false]
  (refine aq ?_ ?_ ?_<;>simp only [aG,UG,UH,UN,UO,bd,bj,AV.v.injEq,Value.int.injEq,Value.bool.injEq,Value.string.injEq,AV.vec.injEq,AV.ptr.injEq,true_or,or_true,false_or,or_false,aa.mk.injEq,forall_eq_apply_imp_iff,forall_eq,forall_eq',go_sem])
  all_goals first|rfl|trace_state
 ·rintro b hb K hK
  cases b
  ·simp only [Uw,if_false]
   by_cases h1:t<0
   ·have e1:decide (t<0)=true:=decide_eq_true h1;rw [decide_eq_false (show ¬(0<=t∧t<=1099511627776) by omega)]
    repeat (first|(with_reducible first|refine ag.up ?_|refine fun (K:AK) hK=> ?_|(refine hK _ ?_;clear hK K))|simp only [go_sem,d0,e1]|with_reducible refine wA ?_|clear hK K)
   ·have e1:decide (t<0)=false:=decide_eq_false h1
    by_cases h2:1099511627776<t
    ·have e2:decide (1099511627776<t)=true:=decide_eq_true h2;rw [decide_eq_false (show ¬(0<=t∧t<=1099511627776) by omega)]
     repeat (first|(with_reducible first|refine ag.up ?_|refine fun (K:AK) hK=> ?_|(refine hK _ ?_;clear hK K))|simp only [go_sem,d0,e1,e2]|with_reducible refine wA ?_|clear hK K)
    ·have e2:decide (1099511627776<t)=false:=decide_eq_false h2
     repeat (first|(with_reducible first|refine ag.up ?_|refine fun (K:AK) hK=> ?_|(refine hK _ ?_;clear hK K))|simp only [go_sem,d0,e1,e2,ws]|with_reducible refine wA ?_|clear hK K)
     refine aP.mk true (fun _=>by omega) (by simp) ?_;simp only [if_true]
     (refine aq ?_ ?_ ?_<;>simp only [aG,UG,UH,UN,UO,bd,bj,AV.v.injEq,Value.int.injEq,Value.bool.injEq,Value.string.injEq,AV.vec.injEq,AV.ptr.injEq,true_or,or_true,false_or,or_false,aa.mk.injEq,forall_eq_apply_imp_iff,forall_eq,forall_eq',go_sem])
     all_goals first|rfl|trace_state
  ·have hd:decide (0<=t∧t<=1099511627776)=true:=decide_eq_true (hb rfl);simp only [if_true]
   repeat (first|(with_reducible first|refine ag.up ?_|refine fun (K:AK) hK=> ?_|(refine hK _ ?_;clear hK K))|simp only [go_sem,d1]|with_reducible refine wA ?_|clear hK K)
   rw [hd]
theorem Qe (t:Int):af Tryz.prog 89 [.v (.int .i64 t)] (.v (.bool (decide (0<=t∧t<=1099511627776)))):=by
 have W:=G5 t
 (refine af.enter Tryz.func89 rfl (by kernel_rfl) (by kernel_rfl) rfl (by first|rfl|(simp only [go_sem,UM,Um,Us])) (by first|rfl|(simp only [go_sem,UM,Um,Us])) ?_;simp only [Tryz.ntmps89,Tryz.results89,Tc,S6,Nat.reduceAdd,Nat.reduceSub,UN,UO,UP,UQ])
 repeat (first|(with_reducible first|refine ag.up ?_|refine fun (K:AK) hK=> ?_|(refine hK _ ?_;clear hK K))|simp only [go_sem]|clear hK K)
 refine ab.E9 W 8 rfl (by simp only [go_sem,Nat.reduceLT,Nat.reduceLeDiff,Nat.reduceEqDiff,Nat.lt_add_one,Nat.zero_lt_one,and_self]) rfl ?_
 repeat (first|(with_reducible first|refine ag.up ?_|refine fun (K:AK) hK=> ?_|(refine hK _ ?_;clear hK K))|simp only [go_sem]|clear hK K)
def JY (p:tZ):Prop:=p.key.size<=maxLen∧p.val.text.size<=maxLen
structure sn (e:aV):Prop where
 aG:e.aG.size<=maxLen
 to:e.to.size<=maxLen
 label:e.label.size<=maxLen
 props: ∀p∈e.props,JY p
 len:e.props.length<=16777216
theorem Jo {l:List tZ} {last:ByteArray} {k:Nat} (h:k<l.length):zU last (l.drop k)=if C7 l[k].key last||l[k].key.toList==last.toList then false else cJ l[k].key&&bD l[k].val&&zU l[k].key (l.drop (k+1)):=by
 rw [List.drop_eq_getElem_cons h,zU]
theorem II {l:List tZ} {i:Nat} (h:i<l.length):(l.map mI).getD i []=[.v (.string l[i].key), .v (.int .i64 l[i].val.kind), .v (.int .i64 l[i].val.num), .v (.string l[i].val.text)]:=by
 rw [getD_map mI l i [] h];rfl
theorem Jn (l:List tZ) (hp: ∀p∈l,JY p) (hl:l.length<=16777216):af Tryz.prog 88 [.aI 4 (l.map mI) l.length] (.v (.bool (xC l))):=by
 have eN:(l.map mI).length=l.length:=by simp
 generalize hR:xC l=R;rw [xC] at hR
 (refine af.enter Tryz.func88 rfl (by kernel_rfl) (by kernel_rfl) rfl (by simp only [go_sem,ba,AV.wf,UM,Um,Us,fg]) (by simp only [go_sem,ba,AV.wf,dc,UM,Um,Us,fg]) ?_;simp only [Tryz.ntmps88,Tryz.results88,Tc,S6,Nat.reduceAdd,Nat.reduceSub,UN,UO,UP,UQ])
 repeat (first|(with_reducible first|refine ag.up ?_|refine fun (K:AK) hK=> ?_|(refine hK _ ?_;clear hK K))|simp only [go_sem]|with_reducible refine wA ?_|clear hK K)
 refine cI (ι:=Nat×ByteArray) 3 (fun x=>[(3, .v (.string x.2)),(6, .aI 4 (l.map mI) l.length),(7, .v (.int .i64 (l.length:Nat))),(8, .v (.int .i64 (x.1:Nat)))]) (fun x=>l.length - x.1) (fun x=>x.1<=l.length∧(zU x.2 (l.drop x.1)&&decide (l.length<=8))=R) (0,⟨#[]⟩) ⟨Nat.zero_le _,hR⟩ ?_ ?_
 ·(refine aq ?_ ?_ ?_<;>simp only [aG,UG,UH,UN,UO,bd,bj,AV.v.injEq,Value.int.injEq,Value.bool.injEq,Value.string.injEq,AV.vec.injEq,AV.ptr.injEq,true_or,or_true,false_or,or_false,aa.mk.injEq,forall_eq_apply_imp_iff,forall_eq,forall_eq',go_sem])
  all_goals first|rfl|exact ⟨fg _ _,rfl⟩|trace_state
 ·rintro ⟨i,last⟩ ⟨hi,hq⟩ K hK;simp only at hi hq ⊢
  rcases Nat.lt_or_ge i l.length with h|h
  ·have d1:decide ((i:Int)<(l.length:Int))=true:=decide_eq_true (by omega);have e1:=II h;have hpp:=hp _ (List.getElem_mem h);rw [Jo h] at hq;have ws:=aD (k:=i) (by omega);generalize l[i]=p at *;have F:=E7 p.key hpp.1;have V:=An p.val hpp.2;have lt:C7 p.key last=Op.bytesLess p.key.toList last.toList:=rfl;rw [lt] at hq
   cases hb:(Op.bytesLess p.key.toList last.toList||p.key.toList==last.toList)
   ·rw [hb] at hq;simp only [Uw,if_false] at hq
    repeat (first|(with_reducible first|refine ag.up ?_|refine fun (K:AK) hK=> ?_|(refine hK _ ?_;clear hK K))|simp only [go_sem,d1,e1,eN,hb]|with_reducible refine wA ?_|clear hK K)
    refine ab.one F ?_
    cases hf:cJ p.key
    ·rw [hf] at hq;simp only [VX] at hq
     repeat (first|(with_reducible first|refine ag.up ?_|refine fun (K:AK) hK=> ?_|(refine hK _ ?_;clear hK K))|simp only [go_sem,hf]|with_reducible refine wA ?_|clear hK K)
     rw [hq]
    ·rw [hf] at hq
     repeat (first|(with_reducible first|refine ag.up ?_|refine fun (K:AK) hK=> ?_|(refine hK _ ?_;clear hK K))|simp only [go_sem,hf]|with_reducible refine wA ?_|clear hK K)
     refine ab.one V ?_
     cases hv:bD p.val
     ·rw [hv] at hq;simp only [VY,VX] at hq
      repeat (first|(with_reducible first|refine ag.up ?_|refine fun (K:AK) hK=> ?_|(refine hK _ ?_;clear hK K))|simp only [go_sem,hv]|with_reducible refine wA ?_|clear hK K)
      rw [hq]
     ·rw [hv] at hq;simp only [UM,Us] at hq
      repeat (first|(with_reducible first|refine ag.up ?_|refine fun (K:AK) hK=> ?_|(refine hK _ ?_;clear hK K))|simp only [go_sem,hv,ws]|with_reducible refine wA ?_|clear hK K)
      refine aP.mk (i+1,p.key) ⟨h,hq⟩ (show l.length - (i+1)<l.length - i by omega) ?_
      (refine aq ?_ ?_ ?_<;>simp only [aG,UG,UH,UN,UO,bd,bj,AV.v.injEq,Value.int.injEq,Value.bool.injEq,Value.string.injEq,AV.vec.injEq,AV.ptr.injEq,true_or,or_true,false_or,or_false,aa.mk.injEq,forall_eq_apply_imp_iff,forall_eq,forall_eq',go_sem])
      all_goals first|rfl|exact fg _ _|exact ⟨fg _ _,rfl⟩|trace_state
   ·rw [hb] at hq;simp only [if_true,VX] at hq
    repeat (first|(with_reducible first|refine ag.up ?_|refine fun (K:AK) hK=> ?_|(refine hK _ ?_;clear hK K))|simp only [go_sem,d1,e1,eN,hb]|with_reducible refine wA ?_|clear hK K)
    rw [hq]
  ·have d1:decide ((i:Int)<(l.length:Int))=false:=decide_eq_false (by omega);rw [List.drop_eq_nil_of_le h,zU,Us] at hq
   repeat (first|(with_reducible first|refine ag.up ?_|refine fun (K:AK) hK=> ?_|(refine hK _ ?_;clear hK K))|simp only [go_sem,d1]|with_reducible refine wA ?_|clear hK K)
   rw [<-hq]
   congr 1
   rw [decide_eq_decide];omega
theorem Io (e:aV) (ho:sn e):af Tryz.prog 50 [.agg (bu e)] (.v (.int .i64 (mG e))):=by
 have C1:=yl e.aG ho.aG;have C2:=yl e.to ho.to;have C3:=E7 e.label ho.label;have C4:=Jn e.props ho.props ho.len;have C5:=Qe e.time;generalize hR:mG e=R;rw [mG] at hR;simp only [bu]
 (refine af.enter Tryz.func50 rfl (by kernel_rfl) (by kernel_rfl) rfl (by simp only [go_sem,ba,AV.wf,UM,Um,Us,fg]) (by simp only [go_sem,ba,AV.wf,dc,UM,Um,Us,fg]) ?_;simp only [Tryz.ntmps50,Tryz.results50,Tc,S6,Nat.reduceAdd,Nat.reduceSub,UN,UO,UP,UQ])
 repeat (first|(with_reducible first|refine ag.up ?_|refine fun (K:AK) hK=> ?_|(refine hK _ ?_;clear hK K))|simp only [go_sem]|clear hK K)
 refine ab.one C1 ?_
 cases h1:gp e.aG
 ·rw [h1] at hR;simp only [VX,Uw,if_false] at hR
  repeat (first|(with_reducible first|refine ag.up ?_|refine fun (K:AK) hK=> ?_|(refine hK _ ?_;clear hK K))|simp only [go_sem,h1]|clear hK K)
  rw [<-hR]
 rw [h1] at hR
 repeat (first|(with_reducible first|refine ag.up ?_|refine fun (K:AK) hK=> ?_|(refine hK _ ?_;clear hK K))|simp only [go_sem,h1]|clear hK K)
 refine ab.one C2 ?_
 cases h2:gp e.to
 ·rw [h2] at hR;simp only [VX,VY,Uw,if_false] at hR
  repeat (first|(with_reducible first|refine ag.up ?_|refine fun (K:AK) hK=> ?_|(refine hK _ ?_;clear hK K))|simp only [go_sem,h2]|clear hK K)
  rw [<-hR]
 rw [h2] at hR
 repeat (first|(with_reducible first|refine ag.up ?_|refine fun (K:AK) hK=> ?_|(refine hK _ ?_;clear hK K))|simp only [go_sem,h2]|clear hK K)
 refine ab.one C3 ?_
 cases h3:cJ e.label
 ·rw [h3] at hR;simp only [VX,VY,Uw,if_false] at hR
  repeat (first|(with_reducible first|refine ag.up ?_|refine fun (K:AK) hK=> ?_|(refine hK _ ?_;clear hK K))|simp only [go_sem,h3]|clear hK K)
  rw [<-hR]
 rw [h3] at hR
 repeat (first|(with_reducible first|refine ag.up ?_|refine fun (K:AK) hK=> ?_|(refine hK _ ?_;clear hK K))|simp only [go_sem,h3]|clear hK K)
 refine ab.one C4 ?_
 cases h4:xC e.props
 ·rw [h4] at hR;simp only [VY,Uw,if_false] at hR
  repeat (first|(with_reducible first|refine ag.up ?_|refine fun (K:AK) hK=> ?_|(refine hK _ ?_;clear hK K))|simp only [go_sem,h4]|clear hK K)
  rw [<-hR]
 rw [h4] at hR;simp only [UM,if_true] at hR
 repeat (first|(with_reducible first|refine ag.up ?_|refine fun (K:AK) hK=> ?_|(refine hK _ ?_;clear hK K))|simp only [go_sem,h4]|clear hK K)
 by_cases h5:0<=e.time∧e.time<=1099511627776
 ·rw [decide_eq_true h5] at C5;rw [if_pos (show 0<=e.time∧e.time<=y0 from h5)] at hR;refine ab.one C5 ?_
  repeat (first|(with_reducible first|refine ag.up ?_|refine fun (K:AK) hK=> ?_|(refine hK _ ?_;clear hK K))|simp only [go_sem]|clear hK K)
  rw [<-hR]
 ·rw [decide_eq_false h5] at C5;rw [if_neg (show ¬(0<=e.time∧e.time<=y0) from h5)] at hR;refine ab.one C5 ?_
  repeat (first|(with_reducible first|refine ag.up ?_|refine fun (K:AK) hK=> ?_|(refine hK _ ?_;clear hK K))|simp only [go_sem]|clear hK K)
  rw [<-hR]
def vJ (l:List ((ByteArray×List aV)×Nat)):List (List AV):=l.map (fun p=>[.v (.string p.1.1), .vec p.2 p.1.2.length])
def yu (v:ByteArray):List ((ByteArray×List aV)×Nat)->Option ((ByteArray×List aV)×Nat)
 | []=>none
 | p :: l=>if p.1.1=v then some p else yu v l
theorem FX (v:ByteArray): ∀l,jQ .string (.string v) (vJ l)=some ((yu v l).map fun p=> .vec p.2 p.1.2.length)
 | []=>rfl
 | p :: l=>by
  rw [vJ,Vd,jQ,yu];simp only [cm,if_true,cU,tM]
  by_cases e:p.1.1=v
  ·rw [if_pos e,decide_eq_true e.symm];rfl
  ·rw [if_neg e,decide_eq_false (Ne.symm e)];exact FX v l
def vK (e:aV) (id:Nat):List ((ByteArray×List aV)×Nat)->List ((ByteArray×List aV)×Nat)
 | []=>[((e.aG,[e]),id)]
 | p :: l=>if p.1.1=e.aG then ((p.1.1,p.1.2++[e]),p.2) :: l else p :: vK e id l
theorem u5 (e:aV) (id:Nat): ∀l,(vK e id l).map Prod.fst=uD e (l.map Prod.fst)
 | []=>rfl
 | p :: l=>by
  rw [vK,Vd,uD]
  by_cases h:p.1.1=e.aG
  ·rw [if_pos h,if_pos h];rfl
  ·rw [if_neg h,if_neg h,Vd,u5 e id l]
theorem jy {e:aV} (id:Nat): ∀ {l},yu e.aG l=none->jf .string (.string e.aG) (.vec id 1) (vJ l)=some (vJ (vK e id l))∧vK e id l=l++[((e.aG,[e]),id)]
 | [],_=>⟨rfl,rfl⟩
 | p :: l,h=>by
  rw [yu] at h
  split at h
  ·cases h
  ·rename_i hn;obtain ⟨h1,h2⟩:=jy id h;rw [vJ,Vd,jf,vK,if_neg hn];simp only [cm,if_true,cU,tM,decide_eq_false (Ne.symm hn),Bool.false_eq_true,if_false];refine ⟨?_,by rw [h2];rfl⟩;show Option.map _ (jf .string (.string e.aG) (.vec id 1) (vJ l))=_;rw [h1];rfl
theorem qV {e:aV} (id:Nat) {q:(ByteArray×List aV)×Nat}: ∀ {l},yu e.aG l=some q->jf .string (.string e.aG) (.vec q.2 (q.1.2.length+1)) (vJ l)=some (vJ (vK e id l))
 | [],h=>by cases h
 | p :: l,h=>by
  rw [yu] at h;rw [vJ,Vd,jf,vK];simp only [cm,if_true,cU,tM]
  split at h
  ·rename_i hp;cases h;rw [decide_eq_true hp.symm,if_pos rfl,if_pos hp];simp only [vJ,Vd,Tb,Vx,hp]
  ·rename_i hn;rw [decide_eq_false (Ne.symm hn),if_neg hn];simp only [Bool.false_eq_true,if_false];show Option.map _ (jf .string (.string e.aG) _ (vJ l))=_;rw [qV id h];rfl
theorem jx {v:ByteArray} {q:(ByteArray×List aV)×Nat}: ∀ {l},yu v l=some q->q∈l
 | [],h=>by cases h
 | p :: l,h=>by
  rw [yu] at h
  split at h
  ·cases h;exact Ua
  ·exact T8 _ (jx h)
theorem Bi {e:aV} (id:Nat) {q:(ByteArray×List aV)×Nat}: ∀ {l},yu e.aG l=some q->(vK e id l).map Prod.snd=l.map Prod.snd
 | [],h=>by cases h
 | p :: l,h=>by
  rw [yu] at h;rw [vK]
  split at h
  ·rename_i hp;rw [if_pos hp];rfl
  ·rename_i hn;rw [if_neg hn,Vd,Vd,Bi id h]
theorem mT {e:aV} (id:Nat) {q:(ByteArray×List aV)×Nat}: ∀ {l},(l.map Prod.snd).Nodup->yu e.aG l=some q-> ∀p∈vK e id l,p=((q.1.1,q.1.2++[e]),q.2)∨(p∈l∧p.2≠q.2)
 | [],_,h=>by cases h
 | a :: l,hn,h=>by
  rw [yu] at h;rw [vK];rw [Vd,List.nodup_cons] at hn;intro p hp
  split at h
  ·rename_i ha;cases h;rw [if_pos ha] at hp
   rcases Uv.1 hp with rfl|hp
   ·exact .inl rfl
   ·exact .inr ⟨T8 _ hp,fun e=>hn.1 (e ▸ U4.2 ⟨p,hp,rfl⟩)⟩
  ·rename_i ha;rw [if_neg ha] at hp
   rcases Uv.1 hp with rfl|hp
   ·exact .inr ⟨Ua,fun e=>hn.1 (e ▸ U4.2 ⟨q,jx h,rfl⟩)⟩
   ·rcases mT id hn.2 h p hp with k|⟨k1,k2⟩
    ·exact .inl k
    ·exact .inr ⟨T8 _ k1,k2⟩
structure Hn (r wv:aa) (o:List (Option aa)) (l:List ((ByteArray×List aV)×Nat)):Prop where
 r:o[1]? = some (some r)
 m:o[2]? = some (some ⟨64,0,false,vJ l⟩)
 w:o[3]? = some (some wv)
 nd:(l.map Prod.snd).Nodup
 lo: ∀p∈l,4<=p.2
 row: ∀p∈l,o[p.2]? = some (some ⟨35,5,true,p.1.2.map bu⟩)
 wf: ∀ob,some ob∈o->bQ o.length ob.rows=true
theorem Aq {n:Nat}: ∀ {l:List ((ByteArray×List aV)×Nat)},(∀p∈l,p.2<n)->bQ n (vJ l)=true
 | [],_=>rfl
 | p :: l,h=>by
  have h1:=h p Ua;have h2:=Aq (l:=l) fun q hq=>h q (T8 _ hq);simp only [vJ,Vd,bQ,ba,AV.wf,decide_eq_true h1,Bool.and_true,Bool.true_and];exact h2
theorem pS {n:Nat}: ∀ {o:List (Option aa)},(∀ob,some ob∈o->bQ n ob.rows=true)->bj n o o
 | [],_=>trivial
 | x :: o,h=>⟨.inr ⟨rfl,fun ob e=>h ob (e ▸ Ua)⟩,pS fun ob hb=>h ob (T8 _ hb)⟩
theorem Hn.lt {r wv:aa} {o:List (Option aa)} {l:List ((ByteArray×List aV)×Nat)} (h:Hn r wv o l):3<o.length:=(S7.1 h.w).1
theorem Hn.jP {r wv:aa} {o:List (Option aa)} {l:List ((ByteArray×List aV)×Nat)} {e:aV} {q:(ByteArray×List aV)×Nat} {b:List (Option aa)} (id:Nat) (hbw: ∀ob,some ob∈b-> ∀n,bQ n ob.rows=true) (h:Hn r wv o l) (hq:yu e.aG l=some q) :
  Hn r wv (((o++b).set q.2 (some ⟨35,5,true,q.1.2.map bu++[bu e]⟩)).set 2 (some ⟨64,0,false,vJ (vK e id l)⟩)) (vK e id l):=by
 have hl:=h.lt;have hq4:=h.lo q (jx hq);have hqr:=h.row q (jx hq);have hql:=(S7.1 hqr).1
 have ap: ∀ {k:Nat} {x:Option aa},o[k]? = some x->(o++b)[k]? = some x:=fun {k x} hk=>by rw [S8 (S7.1 hk).1];exact hk
 refine ⟨?_, ?_, ?_,by rw [Bi id hq];exact h.nd,fun p hp=> ?_,fun p hp=> ?_,fun ob hob=> ?_⟩
 ·rw [Tv (by omega),Tv (by omega)];exact ap h.r
 ·rw [Tw (by simp;omega)]
 ·rw [Tv (by omega),Tv (by omega)];exact ap h.w
 ·rcases mT id h.nd hq p hp with rfl|⟨k1,_⟩
  ·exact hq4
  ·exact h.lo p k1
 ·rcases mT id h.nd hq p hp with rfl|⟨k1,k2⟩
  ·rw [Tv (by omega),Tw (by simp;omega)];simp only [Vu,Vd,List.map_nil]
  ·have:=h.lo p k1
   rw [Tv (by omega),Tv (Ne.symm k2)];exact ap (h.row p k1)
 ·simp only [Vp,Tb]
  rcases VZ hob with hob|hob
  ·rcases VZ hob with hob|hob
   ·rcases U6.1 hob with hob|hob
    ·exact rK (by omega) _ (h.wf ob hob)
    ·exact hbw ob hob _
   ·cases hob
    have:=dN (o.length+b.length) (q.1.2++[e])
    simpa only [Vu,Vd,List.map_nil] using this
  ·cases hob;refine Aq fun p hp=> ?_
   rcases mT id h.nd hq p hp with rfl|⟨k1,_⟩
   ·simp only;omega
   ·have:=(S7.1 (h.row p k1)).1;omega
theorem Hn.new {r wv:aa} {o:List (Option aa)} {l:List ((ByteArray×List aV)×Nat)} {e:aV} {b:List (Option aa)} (hbw: ∀ob,some ob∈b-> ∀n,bQ n ob.rows=true) (h:Hn r wv o l) (hq:yu e.aG l=none) :
  Hn r wv ((o++b++[some (⟨35,5,true,[bu e]⟩:aa)]).set 2 (some ⟨64,0,false,vJ (vK e (o.length+b.length) l)⟩)) (vK e (o.length+b.length) l):=by
 have hl:=h.lt
 have ap: ∀ {k:Nat} {x:Option aa},o[k]? = some x->(o++b++[some (⟨35,5,true,[bu e]⟩:aa)])[k]? = some x:=fun {k x} hk=>by
  have hk':=(S7.1 hk).1;rw [TB,S8 hk'];exact hk
 have hS:=(jy (e:=e) (o.length+b.length) hq).2;have hb: ∀p∈l,p.2<o.length:=fun p hp=>(S7.1 (h.row p hp)).1
 refine ⟨?_, ?_, ?_, ?_,fun p hp=> ?_,fun p hp=> ?_,fun ob hob=> ?_⟩
 ·rw [Tv (by omega)];exact ap h.r
 ·rw [Tw (by simp;omega)]
 ·rw [Tv (by omega)];exact ap h.w
 ·rw [hS,Vu];refine List.nodup_append.2 ⟨h.nd,by simp,fun a ha c hc e1=> ?_⟩;obtain ⟨p,hp,rfl⟩:=U4.1 ha
  have:=hb p hp
  simp at hc;omega
 ·rw [hS] at hp
  rcases U6.1 hp with hp|hp
  ·exact h.lo p hp
  ·rw [U7.1 hp];simp only;omega
 ·rw [hS] at hp
  rcases U6.1 hp with hp|hp
  ·have:=h.lo p hp
   rw [Tv (by omega)];exact ap (h.row p hp)
  ·rw [U7.1 hp];simp only;rw [Tv (by omega),TD (by simp)];simp
 ·simp only [Vp,Tb,Vx]
  rcases VZ hob with hob|hob
  ·rcases U6.1 hob with hob|hob
   ·rcases U6.1 hob with hob|hob
    ·exact rK (by omega) _ (h.wf ob hob)
    ·exact hbw ob hob _
   ·rw [U7] at hob;cases hob;exact dN _ [e]
  ·cases hob;refine Aq fun p hp=> ?_;rw [hS] at hp
   rcases U6.1 hp with hp|hp
   ·have:=hb p hp;omega
   ·rw [U7.1 hp];simp only;omega
theorem cj.Ss {o:List (Option aa)} {id:Nat} {ob:aa} (ho:o[id]? = some (some ob)) (hv:ob.dj=false) (hz:ob.z=0) {rows':List (List AV)} (hlen:rows'.length=ob.rows.length)
  (hr: ∀(i:Nat) row row',ob.rows[i]? = some row->rows'[i]? = some row'->rR o row row'):cj o (.vec id 0) (.mp rows'):=fun D nu w x hro hra=>by
 have hx:x=nu id 0:=by
  cases hra with
  | vec=>rfl
 subst hx
 have get: ∀(i:Nat) row',rows'[i]? = some row'-> ∃row,ob.rows[i]? = some row∧row'.length=row.length∧ ∀(j:Nat) c',row'[j]? = some c'-> ∃c,row[j]? = some c∧cj o c c':=fun i row' h=>by
  have hi:i<ob.rows.length:=by rw [<-hlen];exact (S7.1 h).1
  obtain ⟨h1,h2⟩:=(hr i _ row' (Tn hi) h).at';refine ⟨_,Tn hi,h1.symm,fun j c' hc=> ?_⟩
  have hj:j<ob.rows[i].length:=by rw [h1];exact (S7.1 hc).1
  exact ⟨_,Tn hj,h2 j _ c' (Tn hj) hc⟩
 rcases hro.obj id ob ho with ⟨e1,_⟩|⟨g,cur,hb⟩|⟨g,es,cl,hm⟩
 ·rw [e1] at hv;cases hv
 ·have:=hb.z;omega
 ·rw [hm.pq]
  refine .mp _ g es cl ⟨(Array.getElem?_eq_some_iff.1 hm.cZ).1,bb _ _,hm.j9⟩ hm.cZ (by rw [hm.sz,hlen]) (fun i row' h=> ?_) hm.born hm.jT (fun i j row' c' e k1 k2 k3=> ?_)
  ·obtain ⟨row,r1,r2,_⟩:=get i row' h;rw [r2];exact hm.row i row r1
  ·obtain ⟨row,r1,r2,r3⟩:=get i row' k1;obtain ⟨c,r4,r5⟩:=r3 j c' k2;have hl:=hm.row i row r1;have hj:=(S7.1 r4).1
   match j,hj,r4 with
   | 0,_,r4=>exact r5 D nu w _ hro (hm.key i row c e r1 r4 k3)
   | 1,_,r4=>exact r5 D nu w _ hro (hm.val i row c e r1 r4 k3)
   | j+2,hj,_=>omega
theorem cj.agg {o:List (Option aa)} {l m:List AV} (h:rR o l m):cj o (.agg l) (.agg m):=fun D nu w x hro hra=>by
 obtain ⟨h1,h2⟩:=h.at'
 cases hra with
 | agg cs xs k1 k2 k3=>
  have r:=h.Sz hro ⟨k1,k2⟩;exact .agg _ _ r.len r.at' k3
def o6 (A:nt) (E:List aV):AV:=if dh E=0 then .ct [.agg [.vp (bV A), .mp (dB (wY E))], .v (.int .i64 0)] else .ct [.agg [.v (.pointer none), .v (.map none)], .v (.int .i64 (dh E))]
theorem G0 (A:nt) (E:List aV):(o6 A E).wf 0=true:=by
 unfold o6
 split
 ·simp only [AV.wf,ba,dq,fT,Bool.and_self]
 ·rfl
theorem Lb (x:Ex) (A:nt) (E:List aV) (C:af Tryz.prog 49 [.agg (bH x)] (.ct [.vp (bV A), .v (.int .i64 0)])) (hok: ∀e∈E,sn e) (hl:E.length<=16777216):af Tryz.prog 27 [.agg (bH x), .aI 5 (E.map bu) E.length] (o6 A E):=by
 have hA:ba 0 [.agg (bH x), .aI 5 (E.map bu) E.length]=true:=by simp only [ba,AV.wf,kI,dN,Bool.and_self]
 have hF:=G0 A E;generalize hR:o6 A E=R at *;rw [aS] at C ⊢;rw [aS] at hA
 (refine af.nL Tryz.func27 rfl (by kernel_rfl) (by kernel_rfl) rfl hA hF ?_;simp only [Tryz.ntmps27,Tryz.results27,Tc,S6,Nat.reduceAdd,Nat.reduceSub,List.replicate_succ,List.replicate_zero,UP,UQ])
 repeat (first|(with_reducible first|refine ag.up ?_|refine fun (K:AK) hK=> ?_|refine ah (by decide) ?_|(refine hK _ ?_;clear hK K))|simp only [go_sem]|with_reducible refine wA ?_|(refine aH rfl ?_)|(refine aA rfl ?_)|clear hK K)
 refine ab.one C ?_
 repeat (first|(with_reducible first|refine ag.up ?_|refine fun (K:AK) hK=> ?_|refine ah (by decide) ?_|(refine hK _ ?_;clear hK K))|simp only [go_sem]|with_reducible refine wA ?_|(refine aH rfl ?_)|(refine aA rfl ?_)|clear hK K)
 refine bW (ι:=List (Option aa)×Nat×List ((ByteArray×List aV)×Nat)) 2 (fun x=>[(4, .ptr 1 0 2 0 0),(5, .v (.int .i64 0)),(8, .ptr 3 0 2 0 0),(24, .aI 5 (E.map bu) E.length),(25, .v (.int .i64 (E.length:Nat))),(26, .v (.int .i64 (x.2.1:Nat)))]) (fun x=>x.1) (fun x=>E.length - x.2.1)
  (fun x=>Hn ⟨66,2,false,[[.v (.pointer none), .v (.map none)]]⟩ ⟨66,2,false,[[.vp (bV A), .vec 2 0]]⟩ x.1 x.2.2∧x.2.1<=E.length∧(E.drop x.2.1).foldl (fun G e=>uD e G) (x.2.2.map Prod.fst)=wY E∧dh (E.drop x.2.1)=dh E∧ ∀p∈x.2.2,p.1.2.length<=x.2.1)
  ([none,some ⟨66,2,false,[[.v (.pointer none), .v (.map none)]]⟩,some ⟨64,0,false,[]⟩,some ⟨66,2,false,[[.vp (bV A), .vec 2 0]]⟩],0,[]) ⟨⟨rfl,rfl,rfl,List.nodup_nil,fun p h=>(by cases h),fun p h=>(by cases h), ?_⟩,Nat.zero_le _,rfl,rfl,fun p h=>(by cases h)⟩ ?_ ?_
 ·intro ob hob;simp only [Uv,Option.some.injEq,List.not_mem_nil,or_false,reduceCtorEq,false_or] at hob
  rcases hob with rfl|rfl|rfl
  ·rfl
  ·rfl
  ·simp only [bQ,ba,AV.wf,dq,Bool.and_true];rfl
 ·(refine aq ?_ ?_ ?_<;>simp only [aG,List.foldl_cons,List.foldl_nil,List.replicate_succ,List.replicate_zero,bd,bj,AV.v.injEq,Value.int.injEq,Value.bool.injEq,Value.string.injEq,AV.vec.injEq,AV.ptr.injEq,true_or,or_true,false_or,or_false,aa.mk.injEq,forall_eq_apply_imp_iff,forall_eq,forall_eq',go_sem])
  all_goals first|rfl|trace_state
 ·rintro ⟨o,i,l⟩ ⟨hI,hi,hg,he,hle⟩ K hK;simp only at hI hi hg he hle ⊢;have hlt:=hI.lt;have ow: ∀b:List (Option aa),(o++b)[3]? = _:=fun b=>(S8 hlt).trans hI.w;have om: ∀b:List (Option aa),(o++b)[2]? = _:=fun b=>(S8 (by omega)).trans hI.m;have orr: ∀b:List (Option aa),(o++b)[1]? = _:=fun b=>(S8 (by omega)).trans hI.r
  have oe: ∀(b:Option aa) t,(o++b :: t)[o.length]? = some b:=fun b t=>by rw [TD (Nat.le_refl _),Nat.sub_self];rfl
  have s23: ∀(L:List (Option aa)) x,(L.set 2 x)[3]? = L[3]? :=fun L x=>Tv (by decide);have s2l: ∀(L:List (Option aa)) x,(L.set 2 x)[o.length]? = L[o.length]? :=fun L x=>Tv (by omega)
  have ot: ∀a b:Option aa,(o++[a]).set o.length b=o++[b]:=fun a b=>by rw [List.set_append_right _ _ (Nat.le_refl _),Nat.sub_self];rfl
  have eN:(E.map bu).length=E.length:=by simp
  have iw:=hI.w;have im:=hI.m;have ir:=hI.r
  rcases Nat.lt_or_ge i E.length with h|h
  ·have d1:decide ((i:Int)<(E.length:Int))=true:=decide_eq_true (by omega);have e1:=pD h;have CK:=Io _ (hok _ (List.getElem_mem h));have hq:=EZ h;rw [hq] at he;rw [List.drop_eq_getElem_cons h,List.foldl_cons] at hg;have ws:=aD (k:=i) (by omega);generalize E[i]=e at *;simp only [bu] at CK
   repeat (first|(with_reducible first|refine ag.up ?_|refine fun (K:AK) hK=> ?_|refine ah (by decide) ?_|(refine hK _ ?_;clear hK K))|simp only [go_sem,d1,e1,eN,oe,ot]|with_reducible refine wA ?_|(refine aH rfl ?_)|(refine aA rfl ?_)|clear hK K)
   refine ab.one CK ?_
   by_cases h0:mG e=0
   ·have z0:(mG e !=0)=false:=by simp [h0]
    have og:=FX e.aG l
    cases hov:yu e.aG l with
    | none=>
     rw [hov] at og;simp only [Option.map_none] at og;have os:=(jy (e:=e) (o.length+1) hov).1
     repeat ((fail_if_success (with_reducible refine b5 (i:=11) ?_));first|(with_reducible first|refine ag.up ?_|refine fun (K:AK) hK=> ?_|refine ah (by decide) ?_|(refine hK _ ?_;clear hK K))|simp only [go_sem,z0]|with_reducible refine wA ?_|(refine aH rfl ?_)|(refine aA rfl ?_)|clear hK K)
     refine du [11,12] [(1,1000),(3,1000)] (by decide+kernel) (by kernel_rfl) ?_
     repeat (first|(with_reducible first|refine ag.up ?_|refine fun (K:AK) hK=> ?_|refine ah (by decide) ?_|(refine hK _ ?_;clear hK K))|simp only [go_sem,oe,ow,om,og,os,s23,s2l]|with_reducible refine wA ?_|(refine aH rfl ?_)|(refine aA rfl ?_)|clear hK K)
     repeat (first|(with_reducible first|refine ag.up ?_|refine fun (K:AK) hK=> ?_|refine ah (by decide) ?_|(refine hK _ ?_;clear hK K))|simp only [go_sem,ws]|with_reducible refine wA ?_|(refine aH rfl ?_)|(refine aA rfl ?_)|clear hK K)
     have hI2:=hI.new (e:=e) (b:=[some ⟨35,5,false,[bu e]⟩]) (fun ob hob n=>by rw [U7] at hob;cases hob;exact dN n [e]) hov;simp only [bu,TB,UP,UQ,Tc,S6,Nat.zero_add] at hI2;rw [<-u5 e (o.length+1)] at hg;rw [if_neg (by simp [h0])] at he
     refine aP.mk (_,i+1,vK e (o.length+1) l) ⟨hI2,h,hg,he,fun p hp=>(by
      rw [(jy (e:=e) (o.length+1) hov).2] at hp
      rcases U6.1 hp with hp|hp
      ·have:=hle p hp;simp only;omega
      ·rw [U7.1 hp];simp)⟩ (show E.length - (i+1)<E.length - i by omega) (aq ?_ (pS hI2.wf) (Nat.zero_le _))
     have h1:1<o.length:=by omega
     simp only [go_sem,bd,true_or,or_true,true_and,and_true,Vp,Tb,Tc,S6];exact ⟨.inr (decide_eq_true (by omega)), .inr (decide_eq_true (by omega))⟩
    | some q=>
     rw [hov] at og;simp only [Option.map_some] at og;have os:=qV (e:=e) 0 hov;have hqr:=hI.row q (jx hov);have hq4:=hI.lo q (jx hov);have hql:=(S7.1 hqr).1;have hqle:=hle q (jx hov);have oq: ∀b:List (Option aa),(o++b)[q.2]? = _:=fun b=>(S8 hql).trans hqr;have sq3: ∀(L:List (Option aa)) x,(L.set q.2 x)[3]? = L[3]? :=fun L x=>Tv (by omega);have sq2: ∀(L:List (Option aa)) x,(L.set q.2 x)[2]? = L[2]? :=fun L x=>Tv (by omega);have sql: ∀(L:List (Option aa)) x,(L.set q.2 x)[o.length]? = L[o.length]? :=fun L x=>Tv (by omega)
     repeat ((fail_if_success (with_reducible refine b5 (i:=11) ?_));first|(with_reducible first|refine ag.up ?_|refine fun (K:AK) hK=> ?_|refine ah (by decide) ?_|(refine hK _ ?_;clear hK K))|simp only [go_sem,z0]|with_reducible refine wA ?_|(refine aH rfl ?_)|(refine aA rfl ?_)|clear hK K)
     refine du [11,12] [(1,1000),(3,1000)] (by decide+kernel) (by kernel_rfl) ?_
     repeat (first|(with_reducible first|refine ag.up ?_|refine fun (K:AK) hK=> ?_|refine ah (by decide) ?_|(refine hK _ ?_;clear hK K))|simp only [go_sem,oe,ow,om,og,os,s23,s2l,oq,sq3,sq2,sql]|with_reducible refine wA ?_|(refine aH rfl ?_)|(refine aA rfl ?_)|clear hK K)
     repeat (first|(with_reducible first|refine ag.up ?_|refine fun (K:AK) hK=> ?_|refine ah (by decide) ?_|(refine hK _ ?_;clear hK K))|simp only [go_sem,ws]|with_reducible refine wA ?_|(refine aH rfl ?_)|(refine aA rfl ?_)|clear hK K)
     have hI2:=hI.jP (e:=e) (b:=[some ⟨35,5,false,[bu e]⟩]) 0 (fun ob hob n=>by rw [U7] at hob;cases hob;exact dN n [e]) hov;simp only [bu,TB,UP,UQ,Tc,S6,Nat.zero_add] at hI2;rw [<-u5 e 0] at hg;rw [if_neg (by simp [h0])] at he
     refine aP.mk (_,i+1,vK e 0 l) ⟨hI2,h,hg,he,fun p hp=>(by
      rcases mT 0 hI.nd hov p hp with rfl|⟨k1,_⟩
      ·simp only [Tb,Vx];omega
      ·have:=hle p k1;simp only;omega)⟩ (show E.length - (i+1)<E.length - i by omega) (aq ?_ (pS hI2.wf) (Nat.zero_le _))
     simp only [go_sem,bd,true_or,or_true,true_and,and_true,Vp,Tb,Tc,S6];exact ⟨.inr (decide_eq_true (by omega)), .inr (decide_eq_true (by omega))⟩
   ·have z0:(mG e !=0)=true:=by simp [h0]
    have os1: ∀a b:Option aa,((o++[a]).set 1 b)[1]? = some b:=fun a b=>Tw (by simp;omega)
    repeat (first|(with_reducible first|refine ag.up ?_|refine fun (K:AK) hK=> ?_|refine ah (by decide) ?_|(refine hK _ ?_;clear hK K))|simp only [go_sem,z0,oe,ow,om,orr,os1]|with_reducible refine wA ?_|(refine aH rfl ?_)|(refine aA rfl ?_)|clear hK K)
    rw [if_pos h0] at he;rw [<-hR,o6,if_neg (by rw [<-he];exact h0), <- he];exact cj.ct ⟨cj.agg ⟨cj.v _,cj.v _,trivial⟩,cj.v _,trivial⟩
  ·have d1:decide ((i:Int)<(E.length:Int))=false:=decide_eq_false (by omega);have os: ∀b:Option aa,(o.set 1 b)[1]? = some b:=fun b=>Tw (by omega)
   repeat (first|(with_reducible first|refine ag.up ?_|refine fun (K:AK) hK=> ?_|refine ah (by decide) ?_|(refine hK _ ?_;clear hK K))|simp only [go_sem,d1,iw,im,ir,os]|with_reducible refine wA ?_|(refine aH rfl ?_)|(refine aA rfl ?_)|clear hK K)
   have he0:dh E=0:=by rw [<-he,TQ h];rfl
   rw [TQ h,List.foldl_nil] at hg;rw [<-hR,o6,if_pos he0, <- hg];have sm: ∀x,(o.set 1 x)[2]? = o[2]? :=fun x=>Tv (by decide);refine cj.ct ⟨cj.agg ⟨cj.of 3 (p:=(AV.vp (bV A)).wf 0=true) (by rw [fJ]<;>simp) (by rw [AV.wf];exact dq _ _),cj.Ss ((sm _).trans im) rfl rfl (by simp [dB,vJ]) (fun k row row' k1 k2=> ?_),trivial⟩,cj.v _,trivial⟩;simp only [vJ,dB,List.map_map,List.getElem?_map] at k1 k2
   cases hk:l[k]? with
   | none=>rw [hk] at k1;cases k1
   | some p=>
    rw [hk] at k1 k2;cases k1;cases k2;have hp:=List.mem_of_getElem? hk;have h4:=hI.lo p hp;have hr:=hI.row p hp;refine ⟨cj.v _,cj.LO (ob:=⟨35,5,true,p.1.2.map bu⟩) ((Tv (by omega)).trans hr) rfl (by simp) (dN _ _),trivial⟩
def kA (x:Ex) (A:nt) (E:List aV):PL:=n3 (iS A) (fun s=>dG A s) (di x) A.rows.length E
noncomputable def gK (x:Ex) (E:List aV):Int:=match ej x (cn x) with
 | .inl _=>dh E
 | .inr e=>e
noncomputable def gL (x:Ex) (E:List aV):PL:=match ej x (cn x) with
 | .inl A=>if dh E=0 then kA x A E else []
 | .inr _=>[]
theorem sB {x:Ex} {e:Int} (h:ej x (cn x) = .inr e):e≠0:=by
 unfold ej at h
 split at h
 ·split at h
  ·split at h
   ·cases h;decide
   ·cases h
  ·cases h;decide
 ·cases h;decide
theorem Jk {x:Ex} {E:List aV} (h:gK x E=0): ∃A,ej x (cn x) = .inl A∧dh E=0∧gL x E=kA x A E:=by
 unfold gK at h;unfold gL
 cases ha:ej x (cn x) with
 | inl A=>
  rw [ha] at h;simp only at h;exact ⟨A,rfl,h,by simp only [if_pos h]⟩
 | inr e=>
  rw [ha] at h;exact absurd h (sB ha)
theorem Ai {A:nt} (ok:AOk A): ∀s l t,iS A s l=some t->t<A.rows.length:=fun s l t h=>by
 unfold iS lF at h
 split at h
 ·rename_i hs
  have hs':s<A.rows.length:=by omega
  have e:((s:Nat):Int).toNat=s:=by simp
  rw [e] at h;exact (ok.row _ (bM hs')).2 _ (xl h)
 ·cases h
theorem qs {E:List aV} (h:dh E=0): ∀e∈E,e.time<=y0:=fun e he=>(sK (kR h e he)).2
theorem o7 {x:Ex} {A:nt} (ok:AOk A) {E:List aV} (h:dh E=0):AA (iS A) (fun s=>dG A s) (di x) E (kA x A E):=zR (Ai ok) (qs h)
def fj (cut:Int) (E:List aV):List aV:=E.filter (fun e=>decide (cut<e.time))
theorem F5 {x:Ex} {E:List aV} (cut:Int) (hok: ∀A,ej x (cn x) = .inl A->AOk A) (h:gK x E=0):gK x (fj cut E)=0∧gL x (fj cut E)=(gL x E).filter (fun p=>decide (cut<p.2)):=by
 obtain ⟨A,h1,h2,h3⟩:=Jk h;have h4:dh (fj cut E)=0:=qq fun e he=>kR h2 e (List.mem_filter.1 he).1;refine ⟨by rw [gK,h1];exact h4, ?_⟩
 have h5:gL x (fj cut E)=kA x A (fj cut E):=by rw [gL,h1];simp only [if_pos h4]
 rw [h3,h5];exact GH (o7 (hok A h1) h2) (o7 (hok A h1) h4)
inductive PZ (E:List aV) (f:ByteArray):ByteArray->List ByteArray->Int->Prop where
 | one (e:aV):e∈E->e.aG=f->PZ E f e.to [e.label] (min y0 e.time)
 | more (e:aV) (w:List ByteArray) (τ:Int):PZ E f e.aG w τ->e∈E->PZ E f e.to (w++[e.label]) (min τ e.time)
def cd (p:K2×Int):List AV:=[.v (.string p.1.1), .v (.string p.1.2), .v (.int .i64 p.2)]
theorem iY (n:Nat) (l:PL):bQ n (l.map cd)=true:=bg _ (fun _=>rfl) l
attribute [go_sem] iY
theorem Ck {l:PL} (hn:(l.map Prod.fst).Nodup) {p:K2×Int} (hp:p∈bU l):bB l p.1=some p.2:=(mv hn).2 ((cF l).mem_iff.1 hp)
theorem Bk (l:PL) (hn:(l.map Prod.fst).Nodup) (hl:l.length<=1000000):af Tryz.prog 32 [.mp (bq aN l)] (.aI 3 ((bU l).map cd) (bU l).length):=by
 have eW: ∀n,bQ n (bq aN l)=true:=fun n=>fh (fun _=>rfl) l;have KS:=K0 l;have SQ:=Fv l;have SF:=vq (gf:=99) (caps:=[.vp [.mp (bq aN l)]]) l hn hl (by rw [dt,List.map_map];exact SQ) (by simp only [ba,AV.wf,eW,Um]);have hlen:(bU l).length=l.length:=(cF l).length_eq
 have hA:ba 0 [.mp (bq aN l)]=true:=by simp only [ba,AV.wf,eW,Um]
 have eWK: ∀n,bQ n ((bU l).map fun p=>aN p.1)=true:=fun n=>bg _ (fun _=>rfl) _
 have eL:((bU l).map fun p=>aN p.1).length=l.length:=by simp [hlen]
 rw [hlen]
 (refine af.enter Tryz.func32 rfl (by kernel_rfl) (by kernel_rfl) rfl (by simp only [go_sem,ba,AV.wf,UM,Um,Us,eW]) (by simp only [go_sem,ba,AV.wf,dc,UM,Um,Us,eW]) ?_;simp only [Tryz.ntmps32,Tryz.results32,Tc,List.length_nil,Nat.reduceAdd,Nat.reduceSub,UN,UO,List.cons_append,UQ])
 repeat (first|(with_reducible first|refine ag.up ?_|refine fun (K:AK) hK=> ?_|refine wE ?_|refine wK ?_|refine wF ?_|(refine hK _ ?_;clear hK K))|simp only [go_sem]|with_reducible refine wA ?_|clear hK K)
 refine ab.one KS ?_
 repeat (first|(with_reducible first|refine ag.up ?_|refine fun (K:AK) hK=> ?_|refine wE ?_|refine wK ?_|refine wF ?_|(refine hK _ ?_;clear hK K))|simp only [go_sem]|with_reducible refine wA ?_|clear hK K)
 refine ab.fr [] SF List.nodup_nil rfl ?_ ?_ (fun k ob h=>by simp at h) ?_
 ·simp only [bo,AV.aO,bc _ _ (eW 0)]
 ·simp only [ba,AV.wf,eW,Um]
 simp only [dE,List.map_cons,Vq,TG,Option.map_none,aa.aO,bc _ _ (eWK 0),UQ,List.append_nil]
 repeat (first|(with_reducible first|refine ag.up ?_|refine fun (K:AK) hK=> ?_|refine wE ?_|refine wK ?_|refine wF ?_|(refine hK _ ?_;clear hK K))|simp only [go_sem]|with_reducible refine wA ?_|clear hK K)
 refine sC (ι:=Nat) 2 37 3 rfl (by decide) 11 (fun i=>[(2, .vec 2 i),(5, .undef),(11, .v (.int .i64 i))]) (fun i=>[none,some ⟨74,2,true,(bU l).map fun p=>aN p.1⟩,some ⟨37,3,true,((bU l).take i).map cd⟩]) (fun i=>l.length - i) (fun i=>i<=l.length) 0 (Nat.zero_le _) ?_ ?_
 ·(refine aq ?_ ?_ ?_<;>simp only [aG,UG,UH,UN,UO,bd,bj,AV.v.injEq,Value.int.injEq,Value.bool.injEq,Value.string.injEq,AV.vec.injEq,AV.ptr.injEq,true_or,or_true,false_or,or_false,aa.mk.injEq,forall_eq_apply_imp_iff,forall_eq,forall_eq',go_sem])
  all_goals first|exact ⟨eW _,eW _,eW _,rfl⟩|exact eWK _|trace_state
 ·rintro i hi K hK
  rcases Nat.lt_or_ge i l.length with h|h
  ·have d1:decide ((i:Int)<(l.length:Int))=true:=decide_eq_true (by omega)
   have hs:i<(bU l).length:=by omega
   have e1:((bU l).map fun p=>aN p.1).getD i []=[.v (.string (bU l)[i].1.1), .v (.string (bU l)[i].1.2)]:=by rw [getD_map (fun p:K2×Int=>aN p.1) (bU l) i [] hs];rfl
   have g1:=iI Fs (bU l)[i].1 l;rw [Ck hn (List.getElem_mem hs)] at g1;have g3:=Fs (bU l)[i].1 (bU l)[i].1;rw [decide_eq_true rfl] at g3;simp only [aN,TG] at g1 g3
   have tt:gS Tryz.prog 74=some [.s, .s]:=by kernel_rfl
   have ws:=aD (k:=i) (by omega)
   have eM:((bU l).take (i+1)).map cd=((bU l).take i).map cd++[[.v (.string (bU l)[i].1.1), .v (.string (bU l)[i].1.2), .v (.int .i64 (bU l)[i].2)]]:=by rw [VB hs,List.map_append];rfl
   have eT:(((bU l).take i).map cd).length=i:=by simp;omega
   have eW3:=iY 3 ((bU l).take (i+1))
   repeat (first|(with_reducible first|refine ag.up ?_|refine fun (K:AK) hK=> ?_|refine wE ?_|refine wK ?_|refine wF ?_|(refine hK _ ?_;clear hK K))|simp only [go_sem,d1,e1,eL,g1,g3,tt,eT,ws]|with_reducible refine wA ?_|clear hK K)
   refine aP.mk (i+1) h (by omega) ?_;rw [eM] at eW3 ⊢
   (refine aq ?_ ?_ ?_<;>simp only [aG,UG,UH,UN,UO,bd,bj,AV.v.injEq,Value.int.injEq,Value.bool.injEq,Value.string.injEq,AV.vec.injEq,AV.ptr.injEq,true_or,or_true,false_or,or_false,aa.mk.injEq,forall_eq_apply_imp_iff,forall_eq,forall_eq',go_sem])
   all_goals first|exact eW _|exact eWK _|trace_state
  ·have e0:i=l.length:=by omega
   have d1:decide ((l.length:Int)<(l.length:Int))=false:=decide_eq_false (by omega);have e2:(bU l).take l.length=bU l:=List.take_of_length_le (by omega);simp only [e0,e2]
   repeat (first|(with_reducible first|refine ag.up ?_|refine fun (K:AK) hK=> ?_|refine wE ?_|refine wK ?_|refine wF ?_|(refine hK _ ?_;clear hK K))|simp only [go_sem,d1]|with_reducible refine wA ?_|clear hK K)
   refine nq.of 40 rfl ?_;simp only [go_sem,hlen,List.length_map]
theorem ab.Jr {id:Nat} {l:PL} {k:K2} {τ:Int} {o:List (Option aa)} {K:AV->List (Option aa)->Prop} (ho:o[id]? = some (some ⟨70,0,false,bq aN l⟩))
  (h:K (.v (.bool (gZ l k τ))) (o.set id (some ⟨70,0,false,bq aN (eX l k τ)⟩))):ab Tryz.prog 29 [.vec id 0, .agg (aN k), .v (.int .i64 τ)] o K:=by
 have eW: ∀n l,bQ n (bq aN l)=true:=fun n l=>fh (fun _=>rfl) l
 refine ab.fr [id] (Lo l k τ) (by simp) ?_ rfl rfl ?_ ?_
 ·simp only [List.map_cons,Vq,ho,TG,aa.aO,bc _ _ (eW 0 _)]
 ·intro j ob hj
  match j,hj with
  | 0,hj=>cases hj;exact eW _ _
  | j+1,hj=>simp at hj
 ·simp only [dE,AV.aO,TG,aa.aO,bc _ _ (eW 0 _)];have hl:id<o.length:=(List.getElem?_eq_some_iff.1 ho).1;rw [Vq,List.append_nil];exact h
theorem tP (E:List aV) {i:Nat} (h:i<E.length):oC (E.take (i+1))=eX (eX (oC (E.take i)) (E[i].aG,E[i].aG) E[i].time) (E[i].to,E[i].to) E[i].time:=by
 rw [oC,oC,VB h,rI,List.flatMap_append,kZ];rfl
theorem wk {K:Type} [DecidableEq K]: ∀(l:List (K×Int)) (k:K) (t:Int),(fY l k t).length<=l.length+1
 | [],k,t=>by simp [fY]
 | p :: l,k,t=>by
  rw [fY]
  split
  ·simp
  ·have:=wk l k t;simp only [Tc];omega
theorem qb {K:Type} [DecidableEq K] (l:List (K×Int)) (k:K) (t:Int):(eX l k t).length<=l.length+1:=by
 rw [eX];split
 ·exact wk l k t
 ·omega
theorem ni (E:List aV): ∀i,i<=E.length->(oC (E.take i)).length<=2 * i
 | 0,_=>by simp [oC,rI,eu]
 | i+1,h=>by
  rw [tP E (by omega)];have h1:=ni E i (by omega);have h2:=qb (oC (E.take i)) (E[i].aG,E[i].aG) E[i].time;have h3:=qb (eX (oC (E.take i)) (E[i].aG,E[i].aG) E[i].time) (E[i].to,E[i].to) E[i].time;omega
theorem Jh (E:List aV) (hl:E.length<=1000):af Tryz.prog 16 [.aI 5 (E.map bu) E.length] (.aI 3 ((aZ E).map cd) (aZ E).length):=by
 have eW: ∀n l,bQ n (bq aN l)=true:=fun n l=>fh (fun _=>rfl) l
 have eN:(E.map bu).length=E.length:=by simp
 have hV:=ni E E.length (Nat.le_refl _);rw [List.take_length] at hV;have PR:=Bk (oC E) (gM _ [] List.nodup_nil).1 (by omega)
 (refine af.enter Tryz.func16 rfl (by kernel_rfl) (by kernel_rfl) rfl (by first|rfl|(simp only [go_sem,UM,Um,Us])) (by first|rfl|(simp only [go_sem,UM,Um,Us])) ?_;simp only [Tryz.ntmps16,Tryz.results16,Tc,List.length_nil,Nat.reduceAdd,Nat.reduceSub,UN,UO,List.cons_append,UQ])
 repeat (first|(with_reducible first|refine ag.up ?_|refine fun (K:AK) hK=> ?_|(refine hK _ ?_;clear hK K))|simp only [go_sem]|with_reducible refine wA ?_|clear hK K)
 refine bW (ι:=Nat) 9 (fun i=>[(5, .undef),(9, .v (.int .i64 i))]) (fun i=>[some ⟨70,0,false,bq aN (oC (E.take i))⟩]) (fun i=>E.length - i) (fun i=>i<=E.length) 0 (Nat.zero_le _) ?_ ?_
 ·(refine aq ?_ ?_ ?_<;>simp only [aG,UG,UH,UN,UO,bd,bj,AV.v.injEq,Value.int.injEq,Value.bool.injEq,Value.string.injEq,AV.vec.injEq,AV.ptr.injEq,true_or,or_true,false_or,or_false,aa.mk.injEq,forall_eq_apply_imp_iff,forall_eq,forall_eq',go_sem])
  all_goals first|rfl|exact ⟨rfl,rfl⟩
 ·rintro i hi K hK
  rcases Nat.lt_or_ge i E.length with h|h
  ·have d1:decide ((i:Int)<(E.length:Int))=true:=decide_eq_true (by omega);have e1:=pD h;have ws:=aD (k:=i) (by omega);have hS:=tP E h;generalize E[i]=e at *
   repeat (first|(with_reducible first|refine ag.up ?_|refine fun (K:AK) hK=> ?_|(refine hK _ ?_;clear hK K))|simp only [go_sem,d1,e1,eN]|with_reducible refine wA ?_|clear hK K)
   refine ab.Jr (k:=(e.aG,e.aG)) rfl ?_
   repeat (first|(with_reducible first|refine ag.up ?_|refine fun (K:AK) hK=> ?_|(refine hK _ ?_;clear hK K))|simp only [go_sem]|with_reducible refine wA ?_|clear hK K)
   refine ab.Jr (k:=(e.to,e.to)) rfl ?_
   repeat (first|(with_reducible first|refine ag.up ?_|refine fun (K:AK) hK=> ?_|(refine hK _ ?_;clear hK K))|simp only [go_sem,ws]|with_reducible refine wA ?_|clear hK K)
   refine aP.mk (i+1) h (by omega) ?_;rw [hS]
   (refine aq ?_ ?_ ?_<;>simp only [aG,UG,UH,UN,UO,bd,bj,AV.v.injEq,Value.int.injEq,Value.bool.injEq,Value.string.injEq,AV.vec.injEq,AV.ptr.injEq,true_or,or_true,false_or,or_false,aa.mk.injEq,forall_eq_apply_imp_iff,forall_eq,forall_eq',go_sem])
   all_goals first|exact eW _ _|exact dN _ _|trace_state
  ·have e0:i=E.length:=by omega
   have d1:decide ((E.length:Int)<(E.length:Int))=false:=decide_eq_false (by omega);have e2:E.take E.length=E:=List.take_length;simp only [e0,e2]
   repeat ((fail_if_success (with_reducible refine b5 (i:=8) ?_));first|(with_reducible first|refine ag.up ?_|refine fun (K:AK) hK=> ?_|(refine hK _ ?_;clear hK K))|simp only [go_sem,d1]|with_reducible refine wA ?_|clear hK K)
   refine ck (rG 3 0 rfl rfl rfl rfl) (by kernel_rfl) ?_;simp only [List.set_cons_zero,List.set_cons_succ]
   repeat (first|(with_reducible first|refine ag.up ?_|refine fun (K:AK) hK=> ?_|(refine hK _ ?_;clear hK K))|simp only [go_sem]|with_reducible refine wA ?_|clear hK K)
   refine ab.one PR ?_
   repeat (first|(with_reducible first|refine ag.up ?_|refine fun (K:AK) hK=> ?_|(refine hK _ ?_;clear hK K))|simp only [go_sem]|with_reducible refine wA ?_|clear hK K)
   refine nq.of 40 rfl ?_;simp only [go_sem,iY]
   all_goals trace_state
end Go.Proofs.YtlhhccmopfamhaaGreatDoor
