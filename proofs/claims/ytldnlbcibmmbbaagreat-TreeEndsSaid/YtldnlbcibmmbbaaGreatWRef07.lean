/- Two queries are the same if and only if they are one: plain laws. -/
import Derived.Test.YtldnlbcibmmbbaaGreatWBase2
import Derived.Test.YtldnlbcibmmbbaaGreatWRef02
set_option linter.unusedSimpArgs false
set_option linter.unusedVariables false
open Bool renaming and_eq_true → JL, and_self → Km, and_true → Kh, true_and → Kj, not_eq_eq_eq_not → Ku, and_false → Ky
open Int renaming natCast_inj → Kv, ofNat_lt → Kw, ofNat_le → Kx
open List renaming length_cons → I5, length_nil → IZ, replicate_succ → Kn, replicate_zero → Ko, cons_append → Kq, nil_append → Kr, foldl_cons → Ks, foldl_nil → Kt, length_append → I4, flatMap_cons → Kz, getElem_mem → KA, mem_cons_of_mem → JW
open Nat renaming lt_or_ge → I2
namespace Go.Proofs.YtldnlbcibmmbbaaGreat
open Go.RowKit
theorem toList_inj {s t:ByteArray}:(s.toList==t.toList)=true↔s=t:=by
 refine ⟨fun h=> ?_,fun h=>by subst h;simp⟩
 have h:=eq_of_beq h
 rw [ByteArray.toList_eq,ByteArray.toList_eq] at h
 obtain ⟨⟨l⟩⟩:=s
 obtain ⟨⟨m⟩⟩:=t
 have h:l=m:=h
 subst h;rfl
theorem la {s t:ByteArray}:s.toList=t.toList↔s=t:=by rw [←toList_inj,beq_iff_eq]
theorem lM {α:Type} {f:α→α→Bool}: ∀(xs ys:List α),(∀x∈xs, ∀y,f x y=true↔x=y)→(bT f xs ys=true↔xs=ys)
 | [],[],_=>by simp [bT]
 | [],_ :: _,_=>by simp [bT]
 | _ :: _,[],_=>by simp [bT]
 | x :: xs,y :: ys,h=>by
  rw [bT,JL,h x (by simp),lM xs ys (fun a ha=>h a (by simp [ha]))]
  simp
theorem rq: ∀x y:Ex,cp x y=true↔x=y:=by
 intro x
 induction x using Ex.ind with
 | h k s l ih=>
  rintro ⟨k',s',l'⟩
  rw [fV,JL,JL,toList_inj,lM l l' ih,beq_iff_eq]
  simp [and_assoc]
theorem EP (x y:iI):x.dm y=true↔x=y:=by
 obtain ⟨a,b,c⟩:=x;obtain ⟨a',b',c'⟩:=y
 simp only [iI.dm,JL,la,beq_iff_eq,iI.mk.injEq,and_assoc]
theorem Dr (x y:cg):x.dm y=true↔x=y:=by
 obtain ⟨a,b,c,d⟩:=x;obtain ⟨a',b',c',d'⟩:=y
 simp only [cg.dm,JL,la,beq_iff_eq,EP,cg.mk.injEq,and_assoc]
theorem FF (x y:ew):x.dm y=true↔x=y:=by
 obtain ⟨a,b,c⟩:=x;obtain ⟨a',b',c'⟩:=y
 simp only [ew.dm,JL,Dr,beq_iff_eq,ew.mk.injEq,and_assoc]
theorem Df (x y:cQ):aG x y=true↔x=y:=by
 obtain ⟨a,b,c,d,e,f⟩:=x;obtain ⟨a',b',c',d',e',f'⟩:=y
 simp only [aG,JL,la,rq,beq_iff_eq,cQ.mk.injEq,and_assoc]
theorem AB (x y:dF):bh x y=true↔x=y:=by
 obtain ⟨a,b,c,d,e⟩:=x;obtain ⟨a',b',c',d',e'⟩:=y
 simp only [bh,JL,lM _ _ (fun x _ y=>Df x y),lM _ _ (fun x _ y=>FF x y),lM _ _ (fun x _ y=>Dr x y),beq_iff_eq,dF.mk.injEq,and_assoc]
theorem sO (x:dF):bh x x=true:=(AB x x).2 rfl
theorem fu (s:ByteArray):(s.toList==(⟨#[]⟩:ByteArray).toList)=eh s:=by
 rw [Bool.eq_iff_iff,toList_inj]
 unfold eh
 rw [decide_eq_true_iff]
 constructor
 ·rintro rfl;rfl
 ·intro h
  obtain ⟨⟨l⟩⟩:=s
  cases l with
  | nil=>rfl
  | cons x l=>simp [ByteArray.size] at h
set_option maxRecDepth 100000 in
set_option maxHeartbeats 4000000 in
theorem yv (v:iI) (hs:v.text.size≤1000000000000000):ai Tryz.prog 56 [.agg (Ce v)] (.v (.bool (aI v))):=by
 obtain ⟨kd,n,s⟩:=v
 simp only [Ce]
 simp only at hs
 (refine ai.enter Tryz.func56 rfl (by kernel_rfl) (by kernel_rfl) rfl (by first|rfl|(simp only [go_sem,Km,Kh,Kj])) (by first|rfl|(simp only [go_sem,Km,Kh,Kj])) ?_;simp only [Tryz.ntmps56,Tryz.results56,I5,IZ,Nat.reduceAdd,Nat.reduceSub,Kn,Ko,Kq,Kr])
 repeat (first|(with_reducible first|refine ah.up ?_|refine fun (K:AK) hK=> ?_|(refine hK _ ?_;clear hK K))|simp only [go_sem]|with_reducible refine wA ?_|clear hK K)
 cases hk:(kd==1) with
 | true=>
  repeat (first|(with_reducible first|refine ah.up ?_|refine fun (K:AK) hK=> ?_|(refine hK _ ?_;clear hK K))|simp only [go_sem,hk]|with_reducible refine wA ?_|clear hK K)
  cases h1:decide (-1099511627776≤n) with
  | false=>
   repeat (first|(with_reducible first|refine ah.up ?_|refine fun (K:AK) hK=> ?_|(refine hK _ ?_;clear hK K))|simp only [go_sem,h1,Go.undef]|with_reducible refine wA ?_|clear hK K)
   have e:decide (-fC≤n)=false:=h1
   simp only [aI,hk,if_true,e];simp
  | true=>
   repeat (first|(with_reducible first|refine ah.up ?_|refine fun (K:AK) hK=> ?_|(refine hK _ ?_;clear hK K))|simp only [go_sem,h1]|with_reducible refine wA ?_|clear hK K)
   cases h2:decide (n≤1099511627776) with
   | false=>
    repeat (first|(with_reducible first|refine ah.up ?_|refine fun (K:AK) hK=> ?_|(refine hK _ ?_;clear hK K))|simp only [go_sem,h1,h2,Go.undef]|with_reducible refine wA ?_|clear hK K)
    have e:decide (n≤fC)=false:=h2
    simp only [aI,hk,if_true,e];simp
   | true=>
    repeat (first|(with_reducible first|refine ah.up ?_|refine fun (K:AK) hK=> ?_|(refine hK _ ?_;clear hK K))|simp only [go_sem,h1,h2]|with_reducible refine wA ?_|clear hK K)
    have e1:decide (-fC≤n)=true:=h1
    have e2:decide (n≤fC)=true:=h2
    simp only [aI,hk,if_true,e1,e2,fu,Kh]
 | false=>
  repeat (first|(with_reducible first|refine ah.up ?_|refine fun (K:AK) hK=> ?_|(refine hK _ ?_;clear hK K))|simp only [go_sem,hk]|with_reducible refine wA ?_|clear hK K)
  refine aZ (ι:=Nat) (fun i=>[(1, .ptr 0 0 3 0 0),(2, .v (.bool false)),(3, .v (.int .i64 i))]) (fun _=>[some ⟨32,3,false,[[.v (.int .i64 kd), .v (.int .i64 n), .v (.string s)]]⟩]) (fun i=>s.size - i) (fun i=>i≤s.size∧ ∀j (h:j<s.size),j<i→eI s[j].toNat=true) 0 ⟨by omega,fun j _ h=>absurd h (by omega)⟩ ?_ ?_
  ·(refine au ?_ ?_ ?_<;>simp only [aD,Ks,Kt,Kn,Ko,bu,bt,AV.v.injEq,Value.int.injEq,Value.bool.injEq,Value.string.injEq,AV.vec.injEq,AV.ptr.injEq,true_or,or_true,false_or,or_false,ab.mk.injEq,forall_eq_apply_imp_iff,forall_eq,forall_eq',go_sem])
   rfl
  ·rintro i ⟨hi,hP⟩ K hK
   simp only [aD,Ks,Kt,Kn,Ko,go_sem]
   repeat (first|(with_reducible first|refine ah.up ?_|refine fun (K:AK) hK=> ?_|(refine hK _ ?_;clear hK K))|simp only [go_sem]|with_reducible refine wA ?_|clear hK K)
   cases h:decide ((i:Int)<(s.size:Int)) with
   | true=>
    have hlt:i<s.size:=by (try simp only [bne_iff_ne,ne_eq,bne_eq_false_iff_eq,beq_iff_eq,beq_eq_false_iff_ne,decide_eq_true_eq,decide_eq_false_iff_not,Ku,Kv,Kw,Kx] at h);omega
    have eW:=ar (k:=i) (by omega)
    have eA:=lI s i hlt
    rcases lQ (fJ s i) with ⟨q1,q⟩|⟨q1,q2,q⟩|⟨q1,q2,q3,q⟩|⟨q1,q2,q3,q4,q⟩|⟨q1,q2,q3,q4,q⟩
    ·have d1:decide (((fJ s i:Nat):Int)<32)=true:=decide_eq_true (by omega)
     repeat (first|(with_reducible first|refine ah.up ?_|refine fun (K:AK) hK=> ?_|(refine hK _ ?_;clear hK K))|simp only [go_sem,h,d1,eW,Go.undef]|with_reducible refine wA ?_|clear hK K)
     have e:fX s=false:=iB hlt (by rw [←eA];exact q)
     simp only [aI,hk,e,Ky,ite_self]
     simp
    ·have d1:decide (((fJ s i:Nat):Int)<32)=false:=decide_eq_false (by omega)
     have d2:decide (126<((fJ s i:Nat):Int))=true:=decide_eq_true (by omega)
     repeat (first|(with_reducible first|refine ah.up ?_|refine fun (K:AK) hK=> ?_|(refine hK _ ?_;clear hK K))|simp only [go_sem,h,d1,d2,eW,Go.undef]|with_reducible refine wA ?_|clear hK K)
     have e:fX s=false:=iB hlt (by rw [←eA];exact q)
     simp only [aI,hk,e,Ky,ite_self]
     simp
    ·have d1:decide (((fJ s i:Nat):Int)<32)=false:=decide_eq_false (by omega)
     have d2:decide (126<((fJ s i:Nat):Int))=false:=decide_eq_false (by omega)
     repeat (first|(with_reducible first|refine ah.up ?_|refine fun (K:AK) hK=> ?_|(refine hK _ ?_;clear hK K))|simp only [go_sem,h,d1,d2,q3,eW,Go.undef]|with_reducible refine wA ?_|clear hK K)
     have e:fX s=false:=iB hlt (by rw [←eA];exact q)
     simp only [aI,hk,e,Ky,ite_self]
     simp
    ·have d1:decide (((fJ s i:Nat):Int)<32)=false:=decide_eq_false (by omega)
     have d2:decide (126<((fJ s i:Nat):Int))=false:=decide_eq_false (by omega)
     repeat (first|(with_reducible first|refine ah.up ?_|refine fun (K:AK) hK=> ?_|(refine hK _ ?_;clear hK K))|simp only [go_sem,h,d1,d2,q3,q4,eW,Go.undef]|with_reducible refine wA ?_|clear hK K)
     have e:fX s=false:=iB hlt (by rw [←eA];exact q)
     simp only [aI,hk,e,Ky,ite_self]
     simp
    ·have d1:decide (((fJ s i:Nat):Int)<32)=false:=decide_eq_false (by omega)
     have d2:decide (126<((fJ s i:Nat):Int))=false:=decide_eq_false (by omega)
     repeat (first|(with_reducible first|refine ah.up ?_|refine fun (K:AK) hK=> ?_|(refine hK _ ?_;clear hK K))|simp only [go_sem,h,d1,d2,q3,q4,eW,Go.undef]|with_reducible refine wA ?_|clear hK K)
     exact aC.mk (i+1) ⟨by omega,fun j hj h3=>(by
      rcases I2 j i with r|r
      ·exact hP j hj r
      ·have e:j=i:=by omega
       subst e
       rw [←eA];exact q)⟩ (by omega) (by (refine au ?_ ?_ ?_<;>simp only [aD,Ks,Kt,Kn,Ko,bu,bt,AV.v.injEq,Value.int.injEq,Value.bool.injEq,Value.string.injEq,AV.vec.injEq,AV.ptr.injEq,true_or,or_true,false_or,or_false,ab.mk.injEq,forall_eq_apply_imp_iff,forall_eq,forall_eq',go_sem]))
   | false=>
    have he:i=s.size:=by (try simp only [bne_iff_ne,ne_eq,bne_eq_false_iff_eq,beq_iff_eq,beq_eq_false_iff_ne,decide_eq_true_eq,decide_eq_false_iff_not,Ku,Kv,Kw,Kx] at h);omega
    have ea:fX s=true:=oe (fun j hj=>hP j hj (by omega))
    repeat (first|(with_reducible first|refine ah.up ?_|refine fun (K:AK) hK=> ?_|(refine hK _ ?_;clear hK K))|simp only [go_sem,h]|with_reducible refine wA ?_|clear hK K)
    cases h1:(kd==2) with
    | false=>
     repeat (first|(with_reducible first|refine ah.up ?_|refine fun (K:AK) hK=> ?_|(refine hK _ ?_;clear hK K))|simp only [go_sem,h1,Go.undef]|with_reducible refine wA ?_|clear hK K)
     simp only [aI,hk,h1];simp
    | true=>
     repeat (first|(with_reducible first|refine ah.up ?_|refine fun (K:AK) hK=> ?_|(refine hK _ ?_;clear hK K))|simp only [go_sem,h1]|with_reducible refine wA ?_|clear hK K)
     cases h2:(n==0) with
     | false=>
      repeat (first|(with_reducible first|refine ah.up ?_|refine fun (K:AK) hK=> ?_|(refine hK _ ?_;clear hK K))|simp only [go_sem,h1,h2,Go.undef]|with_reducible refine wA ?_|clear hK K)
      simp only [aI,hk,h1,h2];simp
     | true=>
      repeat (first|(with_reducible first|refine ah.up ?_|refine fun (K:AK) hK=> ?_|(refine hK _ ?_;clear hK K))|simp only [go_sem,h1,h2]|with_reducible refine wA ?_|clear hK K)
      simp only [aI,hk,h1,h2,ea]
      simp
      omega
theorem oX {α β:Type} (f:α→List β) (l:List α) (k:Nat) (h:k<l.length):((l.take (k+1)).flatMap f).length=((l.take k).flatMap f).length+(f l[k]).length:=by
 rw [List.take_add_one,List.flatMap_append,I4,List.getElem?_eq_getElem h];simp only [Option.toList_some,Kz,List.flatMap_nil,List.append_nil]
theorem rJ {α β:Type} (f:α→List β) (l:List α) (k:Nat):((l.take k).flatMap f).length≤(l.flatMap f).length:=by
 conv=>rhs;rw [←List.take_append_drop k l,List.flatMap_append,I4]
 omega
theorem jQ {α β:Type} (f:α→List β): ∀(l:List α) (x:α),x∈l→(f x).length≤(l.flatMap f).length
 | y :: l,x,h=>by
  rw [Kz,I4]
  rcases List.mem_cons.1 h with rfl|h
  ·omega
  ·have:=jQ f l x h;omega
theorem gu (k:Int) (s:ByteArray) (l:List Ex):(ak (.mk k s l)).length=1+(l.flatMap ak).length:=by
 rw [ak,bJ,I5];omega
theorem tn (x:Ex):1≤(ak x).length:=by
 obtain ⟨k,s,l⟩:=x;rw [gu];omega
theorem ux (l:List Ex):l.length≤(l.flatMap ak).length:=by
 induction l with
 | nil=>simp
 | cons x l ih=>rw [Kz,I4,I5];have:=tn x;omega
set_option maxRecDepth 100000 in
set_option maxHeartbeats 4000000 in
theorem uv (x:Ex) (hx:(ak x).length≤1000000):ai Tryz.prog 58 [.agg (bL x)] (.v (.int .i64 ((ak x).length:Nat))):=by
 induction x using Ex.ind with
 | h kd s l ih=>
  rw [gu] at hx ⊢
  have hl:=ux l
  rw [aY]
  simp only [Ex.kind,Ex.label,Ex.kids]
  (refine ai.enter Tryz.func58 rfl (by kernel_rfl) (by kernel_rfl) rfl (by first|rfl|(simp only [go_sem,Km,Kh,Kj])) (by first|rfl|(simp only [go_sem,Km,Kh,Kj])) ?_;simp only [Tryz.ntmps58,Tryz.results58,I5,IZ,Nat.reduceAdd,Nat.reduceSub,Kn,Ko,Kq,Kr])
  repeat (first|(with_reducible first|refine ah.up ?_|refine fun (K:AK) hK=> ?_|(refine hK _ ?_;clear hK K))|simp only [go_sem]|with_reducible refine wA ?_|clear hK K)
  refine aZ (ι:=Nat) (fun k=>[(1, .ptr 0 0 3 0 0),(2, .v (.int .i64 0)),(3, .v (.int .i64 (1+((l.take k).flatMap ak).length:Nat))),(4, .v (.int .i64 k))]) (fun _=>[some ⟨43,3,false,[[.v (.int .i64 kd), .v (.string s), .an 3 (l.map bL) l.length]]⟩]) (fun k=>l.length - k) (fun k=>k≤l.length) 0 (by omega) ?_ ?_
  ·(refine au ?_ ?_ ?_<;>simp only [aD,Ks,Kt,Kn,Ko,bu,bt,AV.v.injEq,Value.int.injEq,Value.bool.injEq,Value.string.injEq,AV.vec.injEq,AV.ptr.injEq,true_or,or_true,false_or,or_false,ab.mk.injEq,forall_eq_apply_imp_iff,forall_eq,forall_eq',go_sem])
   exact ⟨rfl,rfl⟩
  ·intro k hk K hK
   simp only [aD,Ks,Kt,Kn,Ko,go_sem]
   repeat (first|(with_reducible first|refine ah.up ?_|refine fun (K:AK) hK=> ?_|(refine hK _ ?_;clear hK K))|simp only [go_sem]|with_reducible refine wA ?_|clear hK K)
   refine aO.part (fun h=> ?_) (fun h=> ?_)
   ·have hlt:k<l.length:=by (try simp only [bne_iff_ne,ne_eq,bne_eq_false_iff_eq,beq_iff_eq,beq_eq_false_iff_ne,decide_eq_true_eq,decide_eq_false_iff_not,Ku,Kv,Kw,Kx] at h);omega
    have eW:=ar (k:=k) (by omega)
    have eG:=getD_map bL l k [] hlt
    have h1:=oX ak l k hlt
    have h2:=rJ ak l (k+1)
    have h3:=jQ ak l l[k] (KA hlt)
    have C:=ih l[k] (KA hlt) (by omega)
    have eN:IntKind.i64.wrap (((1+((l.take k).flatMap ak).length:Nat):Int)+(((ak l[k]).length:Nat):Int))=((1+((l.take (k+1)).flatMap ak).length:Nat):Int):=by
     rw [cL (by omega) (by omega)];omega
    simp only [aY] at C eG
    repeat (first|(with_reducible first|refine ah.up ?_|refine fun (K:AK) hK=> ?_|(refine hK _ ?_;clear hK K))|simp only [go_sem,eG]|with_reducible refine wA ?_|clear hK K)
    refine aj.one C ?_
    repeat (first|(with_reducible first|refine ah.up ?_|refine fun (K:AK) hK=> ?_|(refine hK _ ?_;clear hK K))|simp only [go_sem,eW,eN]|with_reducible refine wA ?_|clear hK K)
    exact aC.mk (k+1) (by omega) (by omega) (by (refine au ?_ ?_ ?_<;>simp only [aD,Ks,Kt,Kn,Ko,bu,bt,AV.v.injEq,Value.int.injEq,Value.bool.injEq,Value.string.injEq,AV.vec.injEq,AV.ptr.injEq,true_or,or_true,false_or,or_false,ab.mk.injEq,forall_eq_apply_imp_iff,forall_eq,forall_eq',go_sem]))
   ·have he:k=l.length:=by (try simp only [bne_iff_ne,ne_eq,bne_eq_false_iff_eq,beq_iff_eq,beq_eq_false_iff_ne,decide_eq_true_eq,decide_eq_false_iff_not,Ku,Kv,Kw,Kx] at h);omega
    have eA:l.take k=l:=by rw [he,List.take_length]
    repeat (first|(with_reducible first|refine ah.up ?_|refine fun (K:AK) hK=> ?_|(refine hK _ ?_;clear hK K))|simp only [go_sem,eA]|with_reducible refine wA ?_|clear hK K)
set_option maxRecDepth 100000 in
set_option maxHeartbeats 4000000 in
theorem uw (x:Ex): ∀(y:Ex),x.kids.length≤1000000→(∀z,z∈ak x→z.kids.length≤1000000)→ai Tryz.prog 52 [.agg (bL x), .agg (bL y)] (.v (.bool (cp x y))):=by
 induction x using Ex.ind with
 | h k s l ih=>
  rintro ⟨k',s',l'⟩ hx hz
  simp only [Ex.kids] at hx
  rw [aY,aY,fV]
  simp only [Ex.kind,Ex.label,Ex.kids]
  (refine ai.enter Tryz.func52 rfl (by kernel_rfl) (by kernel_rfl) rfl (by first|rfl|(simp only [go_sem,Km,Kh,Kj])) (by first|rfl|(simp only [go_sem,Km,Kh,Kj])) ?_;simp only [Tryz.ntmps52,Tryz.results52,I5,IZ,Nat.reduceAdd,Nat.reduceSub,Kn,Ko,Kq,Kr])
  repeat (first|(with_reducible first|refine ah.up ?_|refine fun (K:AK) hK=> ?_|refine wD ?_|(refine hK _ ?_;clear hK K))|simp only [go_sem]|with_reducible refine wA ?_|clear hK K)
  cases h1:(k==k') with
  | false=>
   have n1:(k !=k')=true:=by simp [bne,h1]
   repeat (first|(with_reducible first|refine ah.up ?_|refine fun (K:AK) hK=> ?_|refine wD ?_|(refine hK _ ?_;clear hK K))|simp only [go_sem,n1,Go.undef]|with_reducible refine wA ?_|clear hK K)
   simp only [h1,Bool.false_and]
  | true=>
   have n1:(k !=k')=false:=by simp [bne,h1]
   repeat (first|(with_reducible first|refine ah.up ?_|refine fun (K:AK) hK=> ?_|refine wD ?_|(refine hK _ ?_;clear hK K))|simp only [go_sem,n1]|with_reducible refine wA ?_|clear hK K)
   refine aO.part (fun h2=> ?_) (fun h2=> ?_)
   ·repeat (first|(with_reducible first|refine ah.up ?_|refine fun (K:AK) hK=> ?_|refine wD ?_|(refine hK _ ?_;clear hK K))|simp only [go_sem,n1,h2]|with_reducible refine wA ?_|clear hK K)
    rcases I2 l.length l'.length with q|q
    ·have n3:((l.length:Int) !=(l'.length:Int))=true:=by simp only [bne_iff_ne,ne_eq];omega
     repeat (first|(with_reducible first|refine ah.up ?_|refine fun (K:AK) hK=> ?_|refine wD ?_|(refine hK _ ?_;clear hK K))|simp only [go_sem,n1,h2,n3,Go.undef]|with_reducible refine wA ?_|clear hK K)
     rw [cB (by omega)];simp
    ·rcases I2 l'.length l.length with q2|q2
     ·have n3:((l.length:Int) !=(l'.length:Int))=true:=by simp only [bne_iff_ne,ne_eq];omega
      repeat (first|(with_reducible first|refine ah.up ?_|refine fun (K:AK) hK=> ?_|refine wD ?_|(refine hK _ ?_;clear hK K))|simp only [go_sem,n1,h2,n3,Go.undef]|with_reducible refine wA ?_|clear hK K)
      rw [cB (by omega)];simp
     ·have el:l.length=l'.length:=by omega
      have n3:((l.length:Int) !=(l'.length:Int))=false:=by rw [el];simp
      repeat (first|(with_reducible first|refine ah.up ?_|refine fun (K:AK) hK=> ?_|refine wD ?_|(refine hK _ ?_;clear hK K))|simp only [go_sem,n1,h2,n3,Go.undef]|with_reducible refine wA ?_|clear hK K)
      refine aZ (ι:=Nat) (fun i=>[(2, .ptr 0 0 3 0 0),(3, .ptr 1 0 3 0 0),(4, .v (.bool false)),(5, .v (.int .i64 i))]) (fun _=>[some ⟨43,3,false,[[.v (.int .i64 k), .v (.string s), .an 3 (l.map bL) l.length]]⟩,some ⟨43,3,false,[[.v (.int .i64 k'), .v (.string s'), .an 3 (l'.map bL) l'.length]]⟩]) (fun i=>l.length - i) (fun i=>i≤l.length∧ ∀j (h:j<l.length) (h':j<l'.length),j<i→cp l[j] l'[j]=true) 0 ⟨by omega,fun j _ _ h=>absurd h (by omega)⟩ ?_ ?_
      ·(refine au ?_ ?_ ?_<;>simp only [aD,Ks,Kt,Kn,Ko,bu,bt,AV.v.injEq,Value.int.injEq,Value.bool.injEq,Value.string.injEq,AV.vec.injEq,AV.ptr.injEq,true_or,or_true,false_or,or_false,ab.mk.injEq,forall_eq_apply_imp_iff,forall_eq,forall_eq',go_sem])
       rfl
      ·rintro i ⟨hi,hP⟩ K hK
       simp only [aD,Ks,Kt,Kn,Ko,go_sem]
       repeat (first|(with_reducible first|refine ah.up ?_|refine fun (K:AK) hK=> ?_|refine wD ?_|(refine hK _ ?_;clear hK K))|simp only [go_sem]|with_reducible refine wA ?_|clear hK K)
       refine aO.part (fun h=> ?_) (fun h=> ?_)
       ·have hlt:i<l.length:=by (try simp only [bne_iff_ne,ne_eq,decide_eq_true_eq,decide_eq_false_iff_not,Kw] at h);omega
        have hlt2:i<l'.length:=by omega
        have eW:=ar (k:=i) (by omega)
        have eG:=getD_map bL l i [] hlt
        have eH:=getD_map bL l' i [] hlt2
        have C:=ih l[i] (KA hlt) l'[i] (hz _ (by rw [ak,bJ];exact JW _ (List.mem_flatMap.2 ⟨_,KA hlt,by rcases hq:l[i] with ⟨a,b,c⟩;rw [ak];exact List.mem_cons_self⟩))) (fun z hz'=>hz z (by rw [ak,bJ];exact JW _ (List.mem_flatMap.2 ⟨_,KA hlt,hz'⟩)))
        simp only [aY] at C eG eH
        repeat (first|(with_reducible first|refine ah.up ?_|refine fun (K:AK) hK=> ?_|refine wD ?_|(refine hK _ ?_;clear hK K))|simp only [go_sem,eG,eH]|with_reducible refine wA ?_|clear hK K)
        refine aw.one C ?_
        repeat (first|(with_reducible first|refine ah.up ?_|refine fun (K:AK) hK=> ?_|refine wD ?_|(refine hK _ ?_;clear hK K))|simp only [go_sem,eG,eH]|with_reducible refine wA ?_|clear hK K)
        refine aO.part (fun h5=> ?_) (fun h5=> ?_)
        ·repeat (first|(with_reducible first|refine ah.up ?_|refine fun (K:AK) hK=> ?_|refine wD ?_|(refine hK _ ?_;clear hK K))|simp only [go_sem,eW]|with_reducible refine wA ?_|clear hK K)
         exact aC.mk (i+1) ⟨by omega,fun j hj hj2 h3=>(by
          rcases I2 j i with r|r
          ·exact hP j hj hj2 r
          ·have e:j=i:=by omega
           subst e
           exact h5)⟩ (by omega) (by (refine au ?_ ?_ ?_<;>simp only [aD,Ks,Kt,Kn,Ko,bu,bt,AV.v.injEq,Value.int.injEq,Value.bool.injEq,Value.string.injEq,AV.vec.injEq,AV.ptr.injEq,true_or,or_true,false_or,or_false,ab.mk.injEq,forall_eq_apply_imp_iff,forall_eq,forall_eq',go_sem]))
        ·repeat (first|(with_reducible first|refine ah.up ?_|refine fun (K:AK) hK=> ?_|refine wD ?_|(refine hK _ ?_;clear hK K))|simp only [go_sem,h5]|with_reducible refine wA ?_|clear hK K)
         rw [dq hlt hlt2 h5];simp
       ·have he:i=l.length:=by (try simp only [bne_iff_ne,ne_eq,decide_eq_true_eq,decide_eq_false_iff_not,Kw] at h);omega
        repeat (first|(with_reducible first|refine ah.up ?_|refine fun (K:AK) hK=> ?_|refine wD ?_|(refine hK _ ?_;clear hK K))|simp only [go_sem]|with_reducible refine wA ?_|clear hK K)
        rw [cN.2 ⟨el,fun j hj hj2=>hP j hj hj2 (by omega)⟩,h1,h2];rfl
   ·repeat (first|(with_reducible first|refine ah.up ?_|refine fun (K:AK) hK=> ?_|refine wD ?_|(refine hK _ ?_;clear hK K))|simp only [go_sem,n1,h2,Go.undef]|with_reducible refine wA ?_|clear hK K)
end Go.Proofs.YtldnlbcibmmbbaaGreat
