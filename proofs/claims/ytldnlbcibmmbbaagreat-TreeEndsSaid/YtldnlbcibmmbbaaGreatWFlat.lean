/- The document's queries (ref11): Same, Size: the walks. -/
import Derived.Test.YtldnlbcibmmbbaaGreatWRef11
import Derived.Test.YtldnlbcibmmbbaaGreatWLent
import Derived.Test.YtldnlbcibmmbbaaGreatProg
import Derived.Test.YtldnlbcibmmbbaaGreatWBase
set_option linter.unusedSimpArgs false
set_option linter.unusedVariables false
open Bool renaming and_assoc → KU, and_self → Km, and_true → Kh, true_and → Kj, not_eq_eq_eq_not → Ku, and_false → Ky
open Int renaming natCast_inj → Kv, ofNat_lt → Kw
open List renaming replicate_succ → Kn, replicate_zero → Ko, foldl_cons → Ks, foldl_nil → Kt, take_length → KT
namespace Go.Proofs.YtldnlbcibmmbbaaGreat
open Go.RowKit
theorem eO {α β:Type} (f:α→β→Bool): ∀(xs:List α) (ys:List β) (i:Nat) (h:i<xs.length) (h':i<ys.length),bT f (xs.take (i+1)) (ys.take (i+1))=(bT f (xs.take i) (ys.take i)&&f xs[i] ys[i])
 | x :: xs,y :: ys,0,_,_=>by simp [bT]
 | x :: xs,y :: ys,i+1,h,h'=>by
  have:=eO f xs ys i (by simpa using h) (by simpa using h')
  simp only [List.take_succ_cons,bT,List.getElem_cons_succ] at this ⊢
  rw [this,KU]
 | [],_,_,h,_=>absurd h (by simp)
 | _ :: _,[],_,_,h=>absurd h (by simp)
theorem CX {x:Ex} {n:Nat} (h:x.lens n):x.kids.length≤n:=h x (by obtain ⟨k,s,l⟩:=x;rw [ak];exact List.mem_cons_self)
theorem pO {α:Type} (f:α→Nat) (l:List α) (i:Nat) (h:i<l.length):((l.take (i+1)).map f).sum=((l.take i).map f).sum+f l[i]:=by
 rw [List.take_succ_eq_append_getElem h,List.map_append,List.sum_append];simp
theorem sK {α:Type} (f:α→Nat) (l:List α) (i:Nat):((l.take i).map f).sum≤(l.map f).sum:=by
 conv=>rhs;rw [←List.take_append_drop i l,List.map_append,List.sum_append]
 omega
set_option maxRecDepth 100000 in
set_option maxHeartbeats 8000000 in
theorem yU (q:dF) (hl:q.lens 1000000) (hp:(q.ao.map (fun p=>(ak p.expr).length)).sum≤1000000):ai Tryz.prog 23 [.agg (bI q)] (.v (.int .i64 (j3 q:Nat))):=by
 obtain ⟨l1,l2,l3,_⟩:=hl
 obtain ⟨ps,cs,rs,ra,sl⟩:=q
 simp only at l1 l2 l3 hp
 have w1:IntKind.i64.wrap ((ps.length:Int)+cs.length)=((ps.length+cs.length:Nat):Int):=by rw [cL (by omega) (by omega)];omega
 have w2:IntKind.i64.wrap (((ps.length+cs.length:Nat):Int)+rs.length)=((ps.length+cs.length+rs.length:Nat):Int):=by rw [cL (by omega) (by omega)];omega
 simp only [bI]
 (refine ai.enter Tryz.func23 rfl (by kernel_rfl) (by kernel_rfl) rfl (by first|rfl|(simp only [go_sem,Km,Kh,Kj])) (by first|rfl|(simp only [go_sem,Km,Kh,Kj])) ?_;simp only [Tryz.ntmps23,Tryz.results23,List.length_cons,List.length_nil,Nat.reduceAdd,Nat.reduceSub,Kn,Ko,List.cons_append,List.nil_append])
 repeat (first|(with_reducible first|refine ah.up ?_|refine fun (K:AK) hK=> ?_|(refine hK _ ?_;clear hK K))|simp only [go_sem,w1,w2]|with_reducible refine wA ?_|clear hK K)
 refine bE (ι:=Nat) 5 (fun i=>[(3, .v (.int .i64 ((ps.length+cs.length+rs.length+((ps.take i).map aE).sum:Nat):Int))),(4, .v (.int .i64 i))]) (fun i=>ps.length - i) (fun i=>i≤ps.length) 0 (by omega) ?_ ?_
 ·(refine au ?_ ?_ ?_<;>simp only [aD,Ks,Kt,Kn,Ko,bu,bt,AV.v.injEq,Value.int.injEq,Value.bool.injEq,Value.string.injEq,AV.vec.injEq,AV.ptr.injEq,true_or,or_true,false_or,or_false,ab.mk.injEq,forall_eq_apply_imp_iff,forall_eq,forall_eq',go_sem])
  exact ⟨by simp,rfl⟩
 ·rintro i hi K hK
  repeat (first|(with_reducible first|refine ah.up ?_|refine fun (K:AK) hK=> ?_|(refine hK _ ?_;clear hK K))|simp only [go_sem]|with_reducible refine wA ?_|clear hK K)
  refine aO.part (fun h=> ?_) (fun h=> ?_)
  ·have hlt:i<ps.length:=by (try simp only [bne_iff_ne,ne_eq,bne_eq_false_iff_eq,beq_iff_eq,beq_eq_false_iff_ne,decide_eq_true_eq,decide_eq_false_iff_not,Ku,Kv,Kw,Int.ofNat_le] at h);omega
   have eW:=ar (k:=i) (by omega)
   have eG:=getD_map bo ps i [] hlt
   have hm:=List.getElem_mem hlt
   have hle:(ak ps[i].expr).length≤1000000:=by
    have:=kI (List.mem_map.2 ⟨ps[i],hm,rfl⟩:(ak ps[i].expr).length∈ps.map (fun p=>(ak p.expr).length))
    omega
   have C:=uv ps[i].expr hle
   have eS:=pO aE ps i hlt
   have eB:((ps.take i).map aE).sum≤1000000:=by
    refine Nat.le_trans ?_ (Nat.le_trans (sK (fun p=>(ak p.expr).length) ps i) hp)
    generalize ps.take i=l
    induction l with
    | nil=>simp
    | cons x l ih=>
     simp only [List.map_cons,List.sum_cons]
     have:aE x≤(ak x.expr).length:=by unfold aE;split<;>omega
     omega
   simp only [bo,aY] at C eG
   cases hpa:ps[i].path with
   | true=>
    have eP:aE ps[i]=(ak ps[i].expr).length:=by rw [aE,hpa];rfl
    have eN:IntKind.i64.wrap (((ps.length+cs.length+rs.length+((ps.take i).map aE).sum:Nat):Int)+(((ak ps[i].expr).length:Nat):Int))=((ps.length+cs.length+rs.length+((ps.take (i+1)).map aE).sum:Nat):Int):=by
     rw [cL (by omega) (by omega),eS,eP];omega
    repeat' (first|(with_reducible first|refine ah.up ?_|refine fun (K:AK) hK=> ?_|(refine hK _ ?_;clear hK K))|simp only [go_sem,eG,eW,eN,hpa]|with_reducible refine wA ?_|clear hK K|(with_reducible refine aj.one (by assumption) ?_)|(with_reducible refine aw.one (by assumption) ?_)|(refine aO.part (fun hb=> ?_) (fun hb=> ?_)<;>simp only [hb,go_sem,eG,eW,eN,hpa])|(refine aO.part (fun hb=> ?_) (fun hb=> ?_))|(with_reducible refine bH.mk ?_ ?_))
    exact aC.mk (i+1) (by omega) (by omega) (by (refine au ?_ ?_ ?_<;>simp only [aD,Ks,Kt,Kn,Ko,bu,bt,AV.v.injEq,Value.int.injEq,Value.bool.injEq,Value.string.injEq,AV.vec.injEq,AV.ptr.injEq,true_or,or_true,false_or,or_false,ab.mk.injEq,forall_eq_apply_imp_iff,forall_eq,forall_eq',go_sem]))
   | false=>
    have eP:aE ps[i]=0:=by rw [aE,hpa];rfl
    repeat' (first|(with_reducible first|refine ah.up ?_|refine fun (K:AK) hK=> ?_|(refine hK _ ?_;clear hK K))|simp only [go_sem,eG,eW,hpa]|with_reducible refine wA ?_|clear hK K|(with_reducible refine aj.one (by assumption) ?_)|(with_reducible refine aw.one (by assumption) ?_)|(refine aO.part (fun hb=> ?_) (fun hb=> ?_)<;>simp only [hb,go_sem,eG,eW,hpa])|(refine aO.part (fun hb=> ?_) (fun hb=> ?_))|(with_reducible refine bH.mk ?_ ?_))
    exact aC.mk (i+1) (by omega) (by omega) (by (refine au ?_ ?_ ?_<;>simp only [aD,Ks,Kt,Kn,Ko,bu,bt,AV.v.injEq,Value.int.injEq,Value.bool.injEq,Value.string.injEq,AV.vec.injEq,AV.ptr.injEq,true_or,or_true,false_or,or_false,ab.mk.injEq,forall_eq_apply_imp_iff,forall_eq,forall_eq',go_sem]);rw [eS,eP,Nat.add_zero])
  ·have e:ps.take i=ps:=by rw [show i=ps.length by (try simp only [bne_iff_ne,ne_eq,bne_eq_false_iff_eq,beq_iff_eq,beq_eq_false_iff_ne,decide_eq_true_eq,decide_eq_false_iff_not,Ku,Kv,Kw,Int.ofNat_le] at h);omega,KT]
   repeat (first|(with_reducible first|refine ah.up ?_|refine fun (K:AK) hK=> ?_|(refine hK _ ?_;clear hK K))|simp only [go_sem,e]|with_reducible refine wA ?_|clear hK K)
   rfl
set_option maxRecDepth 100000 in
set_option maxHeartbeats 8000000 in
theorem pG (x y:dF) (hx:x.lens 1000000):ai Tryz.prog 19 [.agg (bI x), .agg (bI y)] (.v (.bool (bh x y))):=by
 obtain ⟨l1,l2,l3,l4⟩:=hx
 obtain ⟨ps,cs,rs,ra,sl⟩:=x
 obtain ⟨ps',cs',rs',ra',sl'⟩:=y
 simp only at l1 l2 l3 l4
 simp only [bI]
 (refine ai.enter Tryz.func19 rfl (by kernel_rfl) (by kernel_rfl) rfl (by first|rfl|(simp only [go_sem,Km,Kh,Kj])) (by first|rfl|(simp only [go_sem,Km,Kh,Kj])) ?_;simp only [Tryz.ntmps19,Tryz.results19,List.length_cons,List.length_nil,Nat.reduceAdd,Nat.reduceSub,Kn,Ko,List.cons_append,List.nil_append])
 repeat' (first|(with_reducible first|refine ah.up ?_|refine fun (K:AK) hK=> ?_|refine wD ?_|refine bD (by kernel_rfl) (by kernel_rfl) (by kernel_rfl) ?_|refine bm (by decide) ?_|refine cF ?_|refine cC ?_|(refine hK _ ?_;clear hK K))|simp only [go_sem,Go.undef]|with_reducible refine wA ?_|clear hK K|(with_reducible refine aj.one (by assumption) ?_)|(with_reducible refine aw.one (by assumption) ?_)|(refine aO.part (fun hb=> ?_) (fun hb=> ?_)<;>simp only [hb,go_sem,Go.undef])|(refine aO.part (fun hb=> ?_) (fun hb=> ?_))|(with_reducible refine bH.mk ?_ ?_))
 any_goals (refine congrArg Value.bool ?_;simp only [bne_iff_ne,ne_eq,bne_eq_false_iff_eq,Kv] at *; (first|rw [bh,cB (f:=aG) (by assumption)]|rw [bh,cB (f:=ew.dm) (by assumption)]|rw [bh,cB (f:=cg.dm) (by assumption)]|skip);simp_all [bh];done)
 rename_i n1 n2 n3 n4
 have n5:=hb
 have m1:ps.length=ps'.length:=by simp only [bne_eq_false_iff_eq,Kv] at n1;exact n1
 have m2:cs.length=cs'.length:=by simp only [bne_eq_false_iff_eq,Kv] at n2;exact n2
 have m3:rs.length=rs'.length:=by simp only [bne_eq_false_iff_eq,Kv] at n3;exact n3
 have m4:(ra==ra')=true:=by simpa using n4
 have m5:(sl==sl')=true:=by simpa using n5
 clear n1 n2 n3 n4 n5 hb
 refine bE (ι:=Nat) 10 (fun i=>[(5, .v (.int .i64 i)),(6, .undef),(7, .undef)]) (fun i=>ps.length - i) (fun i=>i≤ps.length∧bT aG (ps.take i) (ps'.take i)=true) 0 ⟨by omega,rfl⟩ ?_ ?_
 ·(refine au ?_ ?_ ?_<;>simp only [aD,Ks,Kt,Kn,Ko,bu,bt,AV.v.injEq,Value.int.injEq,Value.bool.injEq,Value.string.injEq,AV.vec.injEq,AV.ptr.injEq,true_or,or_true,false_or,or_false,ab.mk.injEq,forall_eq_apply_imp_iff,forall_eq,forall_eq',go_sem])
  rfl
 ·rintro i ⟨hi,hP⟩ K hK
  repeat (first|(with_reducible first|refine ah.up ?_|refine fun (K:AK) hK=> ?_|refine wD ?_|refine bD (by kernel_rfl) (by kernel_rfl) (by kernel_rfl) ?_|refine bm (by decide) ?_|refine cF ?_|refine cC ?_|(refine hK _ ?_;clear hK K))|simp only [go_sem]|with_reducible refine wA ?_|clear hK K)
  refine aO.part (fun h=> ?_) (fun h=> ?_)
  ·have hlt:i<ps.length:=by (try simp only [bne_iff_ne,ne_eq,bne_eq_false_iff_eq,beq_iff_eq,beq_eq_false_iff_ne,decide_eq_true_eq,decide_eq_false_iff_not,Kv,Kw] at h);omega
   have hlt':i<ps'.length:=by omega
   have eW:=ar (k:=i) (by omega)
   have eG:=getD_map bo ps i [] hlt
   have eH:=getD_map bo ps' i [] hlt'
   have hm:=List.getElem_mem hlt
   have C:=uw ps[i].expr ps'[i].expr (CX (l4 _ hm)) (l4 _ hm)
   have eS:=eO aG ps ps' i hlt hlt'
   simp only [bo,aY] at C eG eH
   repeat' (first|(with_reducible first|refine ah.up ?_|refine fun (K:AK) hK=> ?_|refine wD ?_|refine bD (by kernel_rfl) (by kernel_rfl) (by kernel_rfl) ?_|refine bm (by decide) ?_|refine cF ?_|refine cC ?_|(refine hK _ ?_;clear hK K))|simp only [go_sem,eG,eH,eW,Go.undef]|with_reducible refine wA ?_|clear hK K|(with_reducible refine aj.one (by assumption) ?_)|(with_reducible refine aw.one (by assumption) ?_)|(refine aO.part (fun hb=> ?_) (fun hb=> ?_)<;>simp only [hb,go_sem,eG,eH,eW,Go.undef])|(refine aO.part (fun hb=> ?_) (fun hb=> ?_))|(with_reducible refine bH.mk ?_ ?_))
   all_goals first
    | exact aC.mk (i+1) ⟨by omega,by rw [eS,hP];simp_all [aG]⟩ (by omega) (by (refine au ?_ ?_ ?_<;>simp only [aD,Ks,Kt,Kn,Ko,bu,bt,AV.v.injEq,Value.int.injEq,Value.bool.injEq,Value.string.injEq,AV.vec.injEq,AV.ptr.injEq,true_or,or_true,false_or,or_false,ab.mk.injEq,forall_eq_apply_imp_iff,forall_eq,forall_eq',go_sem]))
    | (refine congrArg Value.bool ?_;have e2:aG ps[i] ps'[i]=false:=(by simp_all [aG]);rw [bh,dq hlt hlt' e2];simp;done)
  ·have e1:bT aG ps ps'=true:=by rw [←hP,show i=ps.length by (try simp only [bne_iff_ne,ne_eq,bne_eq_false_iff_eq,beq_iff_eq,beq_eq_false_iff_ne,decide_eq_true_eq,decide_eq_false_iff_not,Kv,Kw] at h);omega,KT,m1,KT]
   repeat (first|(with_reducible first|refine ah.up ?_|refine fun (K:AK) hK=> ?_|refine wD ?_|refine bD (by kernel_rfl) (by kernel_rfl) (by kernel_rfl) ?_|refine bm (by decide) ?_|refine cF ?_|refine cC ?_|(refine hK _ ?_;clear hK K))|simp only [go_sem]|with_reducible refine wA ?_|clear hK K)
   clear hP h hi
   refine bE (ι:=Nat) 10 (fun i=>[(8, .v (.int .i64 i)),(6, .undef),(7, .undef)]) (fun i=>cs.length - i) (fun i=>i≤cs.length∧bT ew.dm (cs.take i) (cs'.take i)=true) 0 ⟨by omega,rfl⟩ ?_ ?_
   ·(refine au ?_ ?_ ?_<;>simp only [aD,Ks,Kt,Kn,Ko,bu,bt,AV.v.injEq,Value.int.injEq,Value.bool.injEq,Value.string.injEq,AV.vec.injEq,AV.ptr.injEq,true_or,or_true,false_or,or_false,ab.mk.injEq,forall_eq_apply_imp_iff,forall_eq,forall_eq',go_sem])
    rfl
   ·rintro i ⟨hi,hP⟩ K hK
    repeat (first|(with_reducible first|refine ah.up ?_|refine fun (K:AK) hK=> ?_|refine wD ?_|refine bD (by kernel_rfl) (by kernel_rfl) (by kernel_rfl) ?_|refine bm (by decide) ?_|refine cF ?_|refine cC ?_|(refine hK _ ?_;clear hK K))|simp only [go_sem]|with_reducible refine wA ?_|clear hK K)
    refine aO.part (fun h=> ?_) (fun h=> ?_)
    ·have hlt:i<cs.length:=by (try simp only [bne_iff_ne,ne_eq,bne_eq_false_iff_eq,beq_iff_eq,beq_eq_false_iff_ne,decide_eq_true_eq,decide_eq_false_iff_not,Kv,Kw] at h);omega
     have hlt':i<cs'.length:=by omega
     have eW:=ar (k:=i) (by omega)
     have eG:=getD_map bg cs i [] hlt
     have eH:=getD_map bg cs' i [] hlt'
     have eS:=eO ew.dm cs cs' i hlt hlt'
     simp only [bg] at eG eH
     repeat' (first|(with_reducible first|refine ah.up ?_|refine fun (K:AK) hK=> ?_|refine wD ?_|refine bD (by kernel_rfl) (by kernel_rfl) (by kernel_rfl) ?_|refine bm (by decide) ?_|refine cF ?_|refine cC ?_|(refine hK _ ?_;clear hK K))|simp only [go_sem,eG,eH,eW,Go.undef]|with_reducible refine wA ?_|clear hK K|(with_reducible refine aj.one (by assumption) ?_)|(with_reducible refine aw.one (by assumption) ?_)|(refine aO.part (fun hb=> ?_) (fun hb=> ?_)<;>simp only [hb,go_sem,eG,eH,eW,Go.undef])|(refine aO.part (fun hb=> ?_) (fun hb=> ?_))|(with_reducible refine bH.mk ?_ ?_))
     ·exact aC.mk (i+1) ⟨by omega,by rw [eS,hP];simpa [ew.dm,cg.dm,iI.dm,and_assoc] using hb⟩ (by omega) (by (refine au ?_ ?_ ?_<;>simp only [aD,Ks,Kt,Kn,Ko,bu,bt,AV.v.injEq,Value.int.injEq,Value.bool.injEq,Value.string.injEq,AV.vec.injEq,AV.ptr.injEq,true_or,or_true,false_or,or_false,ab.mk.injEq,forall_eq_apply_imp_iff,forall_eq,forall_eq',go_sem]))
     ·refine congrArg Value.bool ?_
      have e2:cs[i].dm cs'[i]=false:=by rw [←hb];simp only [ew.dm,cg.dm,iI.dm,KU]
      rw [bh,dq hlt hlt' e2];simp
    ·have e2:bT ew.dm cs cs'=true:=by rw [←hP,show i=cs.length by (try simp only [bne_iff_ne,ne_eq,bne_eq_false_iff_eq,beq_iff_eq,beq_eq_false_iff_ne,decide_eq_true_eq,decide_eq_false_iff_not,Kv,Kw] at h);omega,KT,m2,KT]
     repeat (first|(with_reducible first|refine ah.up ?_|refine fun (K:AK) hK=> ?_|refine wD ?_|refine bD (by kernel_rfl) (by kernel_rfl) (by kernel_rfl) ?_|refine bm (by decide) ?_|refine cF ?_|refine cC ?_|(refine hK _ ?_;clear hK K))|simp only [go_sem]|with_reducible refine wA ?_|clear hK K)
     clear hP h hi
     refine bE (ι:=Nat) 10 (fun i=>[(9, .v (.int .i64 i)),(6, .undef),(7, .undef)]) (fun i=>rs.length - i) (fun i=>i≤rs.length∧bT cg.dm (rs.take i) (rs'.take i)=true) 0 ⟨by omega,rfl⟩ ?_ ?_
     ·(refine au ?_ ?_ ?_<;>simp only [aD,Ks,Kt,Kn,Ko,bu,bt,AV.v.injEq,Value.int.injEq,Value.bool.injEq,Value.string.injEq,AV.vec.injEq,AV.ptr.injEq,true_or,or_true,false_or,or_false,ab.mk.injEq,forall_eq_apply_imp_iff,forall_eq,forall_eq',go_sem])
      rfl
     ·rintro i ⟨hi,hP⟩ K hK
      repeat (first|(with_reducible first|refine ah.up ?_|refine fun (K:AK) hK=> ?_|refine wD ?_|refine bD (by kernel_rfl) (by kernel_rfl) (by kernel_rfl) ?_|refine bm (by decide) ?_|refine cF ?_|refine cC ?_|(refine hK _ ?_;clear hK K))|simp only [go_sem]|with_reducible refine wA ?_|clear hK K)
      refine aO.part (fun h=> ?_) (fun h=> ?_)
      ·have hlt:i<rs.length:=by (try simp only [bne_iff_ne,ne_eq,bne_eq_false_iff_eq,beq_iff_eq,beq_eq_false_iff_ne,decide_eq_true_eq,decide_eq_false_iff_not,Kv,Kw] at h);omega
       have hlt':i<rs'.length:=by omega
       have eW:=ar (k:=i) (by omega)
       have eG:=getD_map aN rs i [] hlt
       have eH:=getD_map aN rs' i [] hlt'
       have eS:=eO cg.dm rs rs' i hlt hlt'
       simp only [aN] at eG eH
       repeat' (first|(with_reducible first|refine ah.up ?_|refine fun (K:AK) hK=> ?_|refine wD ?_|refine bD (by kernel_rfl) (by kernel_rfl) (by kernel_rfl) ?_|refine bm (by decide) ?_|refine cF ?_|refine cC ?_|(refine hK _ ?_;clear hK K))|simp only [go_sem,eG,eH,eW,Go.undef]|with_reducible refine wA ?_|clear hK K|(with_reducible refine aj.one (by assumption) ?_)|(with_reducible refine aw.one (by assumption) ?_)|(refine aO.part (fun hb=> ?_) (fun hb=> ?_)<;>simp only [hb,go_sem,eG,eH,eW,Go.undef])|(refine aO.part (fun hb=> ?_) (fun hb=> ?_))|(with_reducible refine bH.mk ?_ ?_))
       ·exact aC.mk (i+1) ⟨by omega,by rw [eS,hP];simpa [cg.dm,iI.dm,and_assoc] using hb⟩ (by omega) (by (refine au ?_ ?_ ?_<;>simp only [aD,Ks,Kt,Kn,Ko,bu,bt,AV.v.injEq,Value.int.injEq,Value.bool.injEq,Value.string.injEq,AV.vec.injEq,AV.ptr.injEq,true_or,or_true,false_or,or_false,ab.mk.injEq,forall_eq_apply_imp_iff,forall_eq,forall_eq',go_sem]))
       ·refine congrArg Value.bool ?_
        have e2:rs[i].dm rs'[i]=false:=by rw [←hb];simp only [cg.dm,iI.dm,KU]
        rw [bh,dq hlt hlt' e2];simp
      ·have e3:bT cg.dm rs rs'=true:=by rw [←hP,show i=rs.length by (try simp only [bne_iff_ne,ne_eq,bne_eq_false_iff_eq,beq_iff_eq,beq_eq_false_iff_ne,decide_eq_true_eq,decide_eq_false_iff_not,Kv,Kw] at h);omega,KT,m3,KT]
       repeat (first|(with_reducible first|refine ah.up ?_|refine fun (K:AK) hK=> ?_|refine wD ?_|refine bD (by kernel_rfl) (by kernel_rfl) (by kernel_rfl) ?_|refine bm (by decide) ?_|refine cF ?_|refine cC ?_|(refine hK _ ?_;clear hK K))|simp only [go_sem]|with_reducible refine wA ?_|clear hK K)
       refine congrArg Value.bool ?_
       rw [bh,e1,e2,e3,m4,m5];rfl
set_option maxRecDepth 100000 in
set_option maxHeartbeats 1000000 in
theorem tP (x y:iI) (w:World) (d:Nat):(Op.equalIn (d+2) 32 (.agg #[.int .i64 x.kind, .int .i64 x.num, .string x.text]) (.agg #[.int .i64 y.kind, .int .i64 y.num, .string y.text])).run Tryz.prog w = .ok (x.dm y) w:=by
 unfold iI.dm
 cases h1:x.kind==y.kind<;>cases h2:x.num==y.num<;>cases h3:x.text.toList==y.text.toList<;>simp only [Kh,Ky]<;>go_simp
set_option maxRecDepth 100000 in
set_option maxHeartbeats 1000000 in
theorem gN (x y:cg) (w:World) (d:Nat):(Op.equalIn (d+3) 34
  (.agg #[.int .i64 x.kind, .string x.name, .string x.key, .int .i64 x.val.kind, .int .i64 x.val.num, .string x.val.text])
  (.agg #[.int .i64 y.kind, .string y.name, .string y.key, .int .i64 y.val.kind, .int .i64 y.val.num, .string y.val.text])).run Tryz.prog w = .ok (x.dm y) w:=by
 have hv:=fun w=>tP x.val y.val w d
 unfold cg.dm
 cases h1:x.kind==y.kind<;>cases h2:x.name.toList==y.name.toList<;>cases h3:x.key.toList==y.key.toList<;>cases h4:x.val.dm y.val<;>rw [h4] at hv<;>simp only [Kh,Ky]<;>go_simp
set_option maxRecDepth 100000 in
set_option maxHeartbeats 1000000 in
theorem tI (x y:ew) (w:World) (d:Nat):(Op.equalIn (d+4) 37 (.agg #[.int .i64 x.op, .int .i64 x.left.kind, .string x.left.name, .string x.left.key, .int .i64 x.left.val.kind, .int .i64 x.left.val.num, .string x.left.val.text,
      .int .i64 x.right.kind, .string x.right.name, .string x.right.key, .int .i64 x.right.val.kind, .int .i64 x.right.val.num, .string x.right.val.text])
  (.agg #[.int .i64 y.op, .int .i64 y.left.kind, .string y.left.name, .string y.left.key, .int .i64 y.left.val.kind, .int .i64 y.left.val.num, .string y.left.val.text,
   .int .i64 y.right.kind, .string y.right.name, .string y.right.key, .int .i64 y.right.val.kind, .int .i64 y.right.val.num, .string y.right.val.text])).run Tryz.prog w = .ok (x.dm y) w:=by
 have h2:=fun w=>gN x.left y.left w d
 have h3:=fun w=>gN x.right y.right w d
 unfold ew.dm
 cases h1:x.op==y.op<;>cases h4:x.left.dm y.left<;>cases h5:x.right.dm y.right<;>rw [h4] at h2<;>rw [h5] at h3<;>simp only [Kh,Ky]<;>go_simp
theorem yf (x y:ew) (w:World):(binOp .neq 37 (.agg #[.int .i64 x.op, .int .i64 x.left.kind, .string x.left.name, .string x.left.key, .int .i64 x.left.val.kind, .int .i64 x.left.val.num, .string x.left.val.text,
      .int .i64 x.right.kind, .string x.right.name, .string x.right.key, .int .i64 x.right.val.kind, .int .i64 x.right.val.num, .string x.right.val.text])
  (.agg #[.int .i64 y.op, .int .i64 y.left.kind, .string y.left.name, .string y.left.key, .int .i64 y.left.val.kind, .int .i64 y.left.val.num, .string y.left.val.text,
   .int .i64 y.right.kind, .string y.right.name, .string y.right.key, .int .i64 y.right.val.kind, .int .i64 y.right.val.num, .string y.right.val.text])).run Tryz.prog w = .ok (.bool (!(x.dm y))) w:=by
 rw [run_neq_struct,tI x y w 9996];rfl
theorem xA (x y:cg) (w:World):(binOp .neq 34
  (.agg #[.int .i64 x.kind, .string x.name, .string x.key, .int .i64 x.val.kind, .int .i64 x.val.num, .string x.val.text])
  (.agg #[.int .i64 y.kind, .string y.name, .string y.key, .int .i64 y.val.kind, .int .i64 y.val.num, .string y.val.text])).run Tryz.prog w = .ok (.bool (!(x.dm y))) w:=by
 rw [run_neq_struct,gN x y w 9997];rfl
theorem sV (x y:cg) (w:World):(binOp .eql 34
  (.agg #[.int .i64 x.kind, .string x.name, .string x.key, .int .i64 x.val.kind, .int .i64 x.val.num, .string x.val.text])
  (.agg #[.int .i64 y.kind, .string y.name, .string y.key, .int .i64 y.val.kind, .int .i64 y.val.num, .string y.val.text])).run Tryz.prog w = .ok (.bool (x.dm y)) w:=by
 rw [run_eql_struct,gN x y w 9997];rfl
end Go.Proofs.YtldnlbcibmmbbaaGreat
