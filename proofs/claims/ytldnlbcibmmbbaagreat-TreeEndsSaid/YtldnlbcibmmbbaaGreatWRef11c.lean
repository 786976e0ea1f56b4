/- The document's queries (ref11): with, Vertices, Edges: the walks. -/
import Derived.Test.YtldnlbcibmmbbaaGreatWAbsZ
import Derived.Test.YtldnlbcibmmbbaaGreatWTy
import Derived.Test.YtldnlbcibmmbbaaGreatWEnc
import Derived.Test.YtldnlbcibmmbbaaGreatWVerts
import Derived.Test.YtldnlbcibmmbbaaGreatWLent
import Derived.Test.YtldnlbcibmmbbaaGreatWRef07
import Derived.Test.YtldnlbcibmmbbaaGreatWRef11
set_option linter.unusedSimpArgs false
set_option linter.unusedVariables false
open Bool renaming not_eq_eq_eq_not → Ku, and_self → Km, and_true → Kh, true_and → Kj
open Int renaming natCast_inj → Kv, ofNat_lt → Kw, ofNat_le → Kx
open List renaming length_cons → I5, length_nil → IZ, replicate_succ → Kn, replicate_zero → Ko, cons_append → Kq, nil_append → Kr, foldl_cons → Ks, foldl_nil → Kt, getElem_mem → KA, take_length → KT
namespace Go.Proofs.YtldnlbcibmmbbaaGreat
open Go.RowKit
theorem ud (s t:ByteArray):dr s t=dr t s:=by unfold dr;exact BEq.comm
theorem qC {α:Type} (f:α→Bool) (l:List α) (i:Nat) (h:i<l.length):(l.take (i+1)).any f=((l.take i).any f||f l[i]):=by
 rw [List.take_succ_eq_append_getElem h,List.any_append];simp
set_option maxRecDepth 100000 in
set_option maxHeartbeats 4000000 in
theorem Aq (xs:List ByteArray) (s:ByteArray) (hx:xs.length≤1000000) :
  dz Tryz.prog 61 [.vec 0 xs.length, .v (.string s)] [some ⟨9,1,true,xs.map aT⟩] (.vec 0 (aJ xs s).length) [some ⟨9,1,true,(aJ xs s).map aT⟩]:=by
 (refine dz.enter Tryz.func61 rfl (by kernel_rfl) (by kernel_rfl) rfl ?_;simp only [Tryz.ntmps61,Tryz.results61,I5,IZ,Nat.reduceAdd,Nat.reduceSub,Kn,Ko,Kq,Kr])
 repeat (first|(with_reducible first|refine ah.up ?_|refine fun (K:AK) hK=> ?_|(refine hK _ ?_;clear hK K))|simp only [go_sem]|with_reducible refine wA ?_|clear hK K)
 refine bE (ι:=Nat) 6 (fun i=>[(5, .v (.int .i64 i))]) (fun i=>xs.length - i) (fun i=>i≤xs.length∧hasB (xs.take i) s=false) 0 ⟨by omega,rfl⟩ ?_ ?_
 ·(refine au ?_ ?_ ?_<;>simp only [aD,Ks,Kt,Kn,Ko,bu,bt,AV.v.injEq,Value.int.injEq,Value.bool.injEq,Value.string.injEq,AV.vec.injEq,AV.ptr.injEq,true_or,or_true,false_or,or_false,ab.mk.injEq,forall_eq_apply_imp_iff,forall_eq,forall_eq',go_sem])
  rfl
 ·rintro i ⟨hi,hP⟩ K hK
  repeat (first|(with_reducible first|refine ah.up ?_|refine fun (K:AK) hK=> ?_|(refine hK _ ?_;clear hK K))|simp only [go_sem]|with_reducible refine wA ?_|clear hK K)
  refine aO.part (fun h=> ?_) (fun h=> ?_)
  ·have hlt:i<xs.length:=by (try simp only [bne_iff_ne,ne_eq,bne_eq_false_iff_eq,beq_iff_eq,beq_eq_false_iff_ne,decide_eq_true_eq,decide_eq_false_iff_not,Ku,Kv,Kw,Kx] at h);omega
   have eW:=ar (k:=i) (by omega)
   have eG:=getD_map aT xs i [] hlt
   simp only [aT] at eG
   repeat' (first|(with_reducible first|refine ah.up ?_|refine fun (K:AK) hK=> ?_|(refine hK _ ?_;clear hK K))|simp only [go_sem,eG,eW]|with_reducible refine wA ?_|clear hK K|(with_reducible refine aj.one (by assumption) ?_)|(with_reducible refine aw.one (by assumption) ?_)|(refine aO.part (fun hb=> ?_) (fun hb=> ?_)<;>simp only [hb,go_sem,eG,eW])|(refine aO.part (fun hb=> ?_) (fun hb=> ?_))|(with_reducible refine bH.mk ?_ ?_))
   ·have e:hasB xs s=true:=List.any_eq_true.2 ⟨_,KA hlt,by rw [ud];exact hb⟩
    simp only [aJ,e,if_true]
    (refine ⟨?_, ?_, ?_⟩<;>simp only [bu,bt,AV.v.injEq,Value.int.injEq,Value.bool.injEq,Value.string.injEq,AV.vec.injEq,AV.ptr.injEq,true_or,or_true,false_or,or_false,ab.mk.injEq,forall_eq_apply_imp_iff,forall_eq,forall_eq',go_sem])
   ·exact aC.mk (i+1) ⟨by omega,by rw [hasB,qC _ _ _ hlt, ← hasB,hP,ud,dr,hb];rfl⟩ (by omega) (by (refine au ?_ ?_ ?_<;>simp only [aD,Ks,Kt,Kn,Ko,bu,bt,AV.v.injEq,Value.int.injEq,Value.bool.injEq,Value.string.injEq,AV.vec.injEq,AV.ptr.injEq,true_or,or_true,false_or,or_false,ab.mk.injEq,forall_eq_apply_imp_iff,forall_eq,forall_eq',go_sem]))
  ·have e:hasB xs s=false:=by rw [←hP,show i=xs.length by (try simp only [bne_iff_ne,ne_eq,bne_eq_false_iff_eq,beq_iff_eq,beq_eq_false_iff_ne,decide_eq_true_eq,decide_eq_false_iff_not,Ku,Kv,Kw,Kx] at h);omega,KT]
   repeat (first|(with_reducible first|refine ah.up ?_|refine fun (K:AK) hK=> ?_|(refine hK _ ?_;clear hK K))|simp only [go_sem]|with_reducible refine wA ?_|clear hK K)
   simp only [aJ,e,if_false,Bool.false_eq_true,List.length_append,I5,IZ,List.map_append,List.map_cons,List.map_nil,aT]
   (refine ⟨?_, ?_, ?_⟩<;>simp only [bu,bt,AV.v.injEq,Value.int.injEq,Value.bool.injEq,Value.string.injEq,AV.vec.injEq,AV.ptr.injEq,true_or,or_true,false_or,or_false,ab.mk.injEq,forall_eq_apply_imp_iff,forall_eq,forall_eq',go_sem])
theorem mf (xs:List ByteArray) (s:ByteArray) (hx:xs.length≤1000000) (id:Nat) {o:List (Option ab)} {K:AV→List (Option ab)→Prop} (ho:o[id]? = some (some ⟨9,1,true,xs.map aT⟩))
  (k:K (.vec id (aJ xs s).length) (o.set id (some ⟨9,1,true,(aJ xs s).map aT⟩))):aj Tryz.prog 61 [.vec id xs.length, .v (.string s)] o K:=by
 refine aj.fr [id] (Aq xs s hx) (by simp) ?_ ?_ ?_ ?_ ?_
 ·repeat (first|(with_reducible first|refine ah.up ?_|refine fun (K:AK) hK=> ?_|(refine hK _ ?_;clear hK K))|simp only [go_sem,ho]|clear hK K)
 ·repeat (first|(with_reducible first|refine ah.up ?_|refine fun (K:AK) hK=> ?_|(refine hK _ ?_;clear hK K))|simp only [go_sem]|clear hK K)
 ·rfl
 ·intro k ob hk
  match k,hk with
  | 0,hk=>cases hk;exact cu _ _
  | k+1,hk=>simp at hk
 ·repeat (first|(with_reducible first|refine ah.up ?_|refine fun (K:AK) hK=> ?_|(refine hK _ ?_;clear hK K))|simp only [go_sem]|clear hK K)
  exact k
theorem rW (xs:List ByteArray) (s:ByteArray):(aJ xs s).length≤xs.length+1:=by
 unfold aJ;split<;>simp
theorem lU (xs:List ByteArray) (s:ByteArray):aA (xs++[s])=aJ (aA xs) s:=by simp [aA]
set_option maxRecDepth 100000 in
set_option maxHeartbeats 4000000 in
theorem sP (q:dF) (hl:q.ao.length≤400000):ai Tryz.prog 26 [.agg (bI q)] (aB (aA (ba q.ao))):=by
 obtain ⟨ps,cs,rs,ra,sl⟩:=q
 simp only at hl ⊢
 simp only [bI]
 (refine ai.enter Tryz.func26 rfl (by kernel_rfl) (by kernel_rfl) rfl (by first|rfl|(simp only [go_sem,Km,Kh,Kj])) (by first|rfl|(simp only [go_sem,Km,Kh,Kj])) ?_;simp only [Tryz.ntmps26,Tryz.results26,I5,IZ,Nat.reduceAdd,Nat.reduceSub,Kn,Ko,Kq,Kr])
 repeat (first|(with_reducible first|refine ah.up ?_|refine fun (K:AK) hK=> ?_|(refine hK _ ?_;clear hK K))|simp only [go_sem]|with_reducible refine wA ?_|clear hK K)
 refine il (ι:=Nat) 3 9 1 rfl (by omega) 5 (fun i=>[(3, .vec 1 (aA (ba (ps.take i))).length),(4, .v (.int .i64 i))]) (fun i=>[some ⟨26,5,false,[bI ⟨ps,cs,rs,ra,sl⟩]⟩,some ⟨9,1,true,(aA (ba (ps.take i))).map aT⟩]) (fun i=>ps.length - i) (fun i=>i≤ps.length) 0 (by omega) ?_ ?_
 ·(refine au ?_ ?_ ?_<;>simp only [aD,Ks,Kt,Kn,Ko,bu,bt,AV.v.injEq,Value.int.injEq,Value.bool.injEq,Value.string.injEq,AV.vec.injEq,AV.ptr.injEq,true_or,or_true,false_or,or_false,ab.mk.injEq,forall_eq_apply_imp_iff,forall_eq,forall_eq',go_sem])
  ·exact ⟨rfl,rfl⟩
  ·rfl
 ·rintro i hi K hK
  repeat (first|(with_reducible first|refine ah.up ?_|refine fun (K:AK) hK=> ?_|(refine hK _ ?_;clear hK K))|simp only [go_sem]|with_reducible refine wA ?_|clear hK K)
  refine aO.part (fun h=> ?_) (fun h=> ?_)
  ·have hlt:i<ps.length:=by (try simp only [decide_eq_true_eq,decide_eq_false_iff_not,Kw] at h);omega
   have eW:=ar (k:=i) (by omega)
   have eG:=getD_map bo ps i [] hlt
   have eL:=kg (ba (ps.take i))
   have eM:=pg (ps.take i)
   have eT:(ps.take i).length≤ps.length:=by rw [List.length_take];omega
   have eV:aA (ba (ps.take (i+1)))=aJ (aJ (aA (ba (ps.take i))) ps[i].aD) ps[i].to:=by
    rw [fI hlt,show ∀(a b:ByteArray),[a,b]=[a]++[b] from fun _ _=>rfl, ← List.append_assoc,lU,lU]
   have eN:=rW (aA (ba (ps.take i))) ps[i].aD
   simp only [bo] at eG
   repeat (first|(with_reducible first|refine ah.up ?_|refine fun (K:AK) hK=> ?_|(refine hK _ ?_;clear hK K))|simp only [go_sem,eG,eW]|with_reducible refine wA ?_|clear hK K)
   refine mf _ _ (by omega) 1 rfl ?_
   repeat (first|(with_reducible first|refine ah.up ?_|refine fun (K:AK) hK=> ?_|(refine hK _ ?_;clear hK K))|simp only [go_sem,eG,eW]|with_reducible refine wA ?_|clear hK K)
   refine mf _ _ (by omega) 1 rfl ?_
   repeat (first|(with_reducible first|refine ah.up ?_|refine fun (K:AK) hK=> ?_|(refine hK _ ?_;clear hK K))|simp only [go_sem,eG,eW]|with_reducible refine wA ?_|clear hK K)
   exact aC.mk (i+1) (by omega) (by omega) (by rw [eV];(refine au ?_ ?_ ?_<;>simp only [aD,Ks,Kt,Kn,Ko,bu,bt,AV.v.injEq,Value.int.injEq,Value.bool.injEq,Value.string.injEq,AV.vec.injEq,AV.ptr.injEq,true_or,or_true,false_or,or_false,ab.mk.injEq,forall_eq_apply_imp_iff,forall_eq,forall_eq',go_sem]))
  ·have e:ps.take i=ps:=by rw [show i=ps.length by (try simp only [decide_eq_true_eq,decide_eq_false_iff_not,Kw] at h);omega,KT]
   repeat (first|(with_reducible first|refine ah.up ?_|refine fun (K:AK) hK=> ?_|(refine hK _ ?_;clear hK K))|simp only [go_sem,e]|with_reducible refine wA ?_|clear hK K)
   (refine ju.of 40 rfl ?_;simp only [go_sem])
set_option maxRecDepth 100000 in
set_option maxHeartbeats 4000000 in
theorem yk (q:dF) (hl:q.ao.length≤400000):ai Tryz.prog 28 [.agg (bI q)] (aB (aA (bl q.ao))):=by
 obtain ⟨ps,cs,rs,ra,sl⟩:=q
 simp only at hl ⊢
 simp only [bI]
 (refine ai.enter Tryz.func28 rfl (by kernel_rfl) (by kernel_rfl) rfl (by first|rfl|(simp only [go_sem,Km,Kh,Kj])) (by first|rfl|(simp only [go_sem,Km,Kh,Kj])) ?_;simp only [Tryz.ntmps28,Tryz.results28,I5,IZ,Nat.reduceAdd,Nat.reduceSub,Kn,Ko,Kq,Kr])
 repeat (first|(with_reducible first|refine ah.up ?_|refine fun (K:AK) hK=> ?_|(refine hK _ ?_;clear hK K))|simp only [go_sem]|with_reducible refine wA ?_|clear hK K)
 refine il (ι:=Nat) 3 9 1 rfl (by omega) 5 (fun i=>[(3, .vec 1 (aA (bl (ps.take i))).length),(4, .v (.int .i64 i))]) (fun i=>[some ⟨26,5,false,[bI ⟨ps,cs,rs,ra,sl⟩]⟩,some ⟨9,1,true,(aA (bl (ps.take i))).map aT⟩]) (fun i=>ps.length - i) (fun i=>i≤ps.length) 0 (by omega) ?_ ?_
 ·(refine au ?_ ?_ ?_<;>simp only [aD,Ks,Kt,Kn,Ko,bu,bt,AV.v.injEq,Value.int.injEq,Value.bool.injEq,Value.string.injEq,AV.vec.injEq,AV.ptr.injEq,true_or,or_true,false_or,or_false,ab.mk.injEq,forall_eq_apply_imp_iff,forall_eq,forall_eq',go_sem])
  ·exact ⟨rfl,rfl⟩
  ·rfl
 ·rintro i hi K hK
  repeat (first|(with_reducible first|refine ah.up ?_|refine fun (K:AK) hK=> ?_|(refine hK _ ?_;clear hK K))|simp only [go_sem]|with_reducible refine wA ?_|clear hK K)
  refine aO.part (fun h=> ?_) (fun h=> ?_)
  ·have hlt:i<ps.length:=by (try simp only [decide_eq_true_eq,decide_eq_false_iff_not,Kw] at h);omega
   have eW:=ar (k:=i) (by omega)
   have eG:=getD_map bo ps i [] hlt
   have eL:=kg (bl (ps.take i))
   have eM:=o7 (ps.take i)
   have eT:(ps.take i).length≤ps.length:=by rw [List.length_take];omega
   simp only [bo] at eG
   repeat (first|(with_reducible first|refine ah.up ?_|refine fun (K:AK) hK=> ?_|(refine hK _ ?_;clear hK K))|simp only [go_sem,eG,eW,fu]|with_reducible refine wA ?_|clear hK K)
   cases hn:eh ps[i].name with
   | true=>
    have eV:aA (bl (ps.take (i+1)))=aA (bl (ps.take i)):=by rw [fP hlt,hn];simp
    have hn':(ps[i].name.toList !=ByteArray.toList ⟨#[]⟩)=false:=by simp only [bne,fu,hn];rfl
    repeat (first|(with_reducible first|refine ah.up ?_|refine fun (K:AK) hK=> ?_|(refine hK _ ?_;clear hK K))|simp only [go_sem,hn',eG,eW]|with_reducible refine wA ?_|clear hK K)
    exact aC.mk (i+1) (by omega) (by omega) (by rw [eV];(refine au ?_ ?_ ?_<;>simp only [aD,Ks,Kt,Kn,Ko,bu,bt,AV.v.injEq,Value.int.injEq,Value.bool.injEq,Value.string.injEq,AV.vec.injEq,AV.ptr.injEq,true_or,or_true,false_or,or_false,ab.mk.injEq,forall_eq_apply_imp_iff,forall_eq,forall_eq',go_sem]))
   | false=>
    have eV:aA (bl (ps.take (i+1)))=aJ (aA (bl (ps.take i))) ps[i].name:=by rw [fP hlt,hn];simp [lU]
    have hn':(ps[i].name.toList !=ByteArray.toList ⟨#[]⟩)=true:=by simp only [bne,fu,hn];rfl
    repeat (first|(with_reducible first|refine ah.up ?_|refine fun (K:AK) hK=> ?_|(refine hK _ ?_;clear hK K))|simp only [go_sem,hn',eG,eW]|with_reducible refine wA ?_|clear hK K)
    refine mf _ _ (by omega) 1 rfl ?_
    repeat (first|(with_reducible first|refine ah.up ?_|refine fun (K:AK) hK=> ?_|(refine hK _ ?_;clear hK K))|simp only [go_sem,eG,eW]|with_reducible refine wA ?_|clear hK K)
    exact aC.mk (i+1) (by omega) (by omega) (by rw [eV];(refine au ?_ ?_ ?_<;>simp only [aD,Ks,Kt,Kn,Ko,bu,bt,AV.v.injEq,Value.int.injEq,Value.bool.injEq,Value.string.injEq,AV.vec.injEq,AV.ptr.injEq,true_or,or_true,false_or,or_false,ab.mk.injEq,forall_eq_apply_imp_iff,forall_eq,forall_eq',go_sem]))
  ·have e:ps.take i=ps:=by rw [show i=ps.length by (try simp only [decide_eq_true_eq,decide_eq_false_iff_not,Kw] at h);omega,KT]
   repeat (first|(with_reducible first|refine ah.up ?_|refine fun (K:AK) hK=> ?_|(refine hK _ ?_;clear hK K))|simp only [go_sem,e]|with_reducible refine wA ?_|clear hK K)
   (refine ju.of 40 rfl ?_;simp only [go_sem])
set_option maxRecDepth 100000 in
set_option maxHeartbeats 8000000 in
theorem zF (q:dF) (hok:q.ok) (hl:q.lens 1000000) (hp: ∀p,p∈q.ao→(ak p.expr).length≤1000000∧ ∀z,z∈ak p.expr→z.kids.length≤1000000∧z.label.size≤1000000000000000) :
  ai Tryz.prog 17 [.agg (bI q)] (.v (.bool (aQ q))):=by
 obtain ⟨l1,l2,l3,_⟩:=hl
 obtain ⟨ps,cs,rs,ra,sl⟩:=q
 simp only at l1 l2 l3 hp
 simp only [bI]
 (refine ai.enter Tryz.func17 rfl (by kernel_rfl) (by kernel_rfl) rfl (by first|rfl|(simp only [go_sem,Km,Kh,Kj])) (by first|rfl|(simp only [go_sem,Km,Kh,Kj])) ?_;simp only [Tryz.ntmps17,Tryz.results17,I5,IZ,Nat.reduceAdd,Nat.reduceSub,Kn,Ko,Kq,Kr])
 repeat' (first|(with_reducible first|refine ah.up ?_|refine fun (K:AK) hK=> ?_|(refine hK _ ?_;clear hK K))|simp only [go_sem,Go.undef]|with_reducible refine wA ?_|clear hK K|(with_reducible refine aj.one (by assumption) ?_)|(with_reducible refine aw.one (by assumption) ?_)|(refine aO.part (fun hb=> ?_) (fun hb=> ?_)<;>simp only [hb,go_sem,Go.undef])|(refine aO.part (fun hb=> ?_) (fun hb=> ?_))|(with_reducible refine bH.mk ?_ ?_))
 any_goals (refine congrArg Value.bool ?_;simp only [aQ,kr] at *; simp_all;omega)
 refine bE (ι:=Nat) 7 (fun i=>[(3, .v (.int .i64 i))]) (fun i=>ps.length - i) (fun i=>i≤ps.length∧(ps.take i).all aR=true) 0 ⟨by omega,rfl⟩ ?_ ?_
 ·(refine au ?_ ?_ ?_<;>simp only [aD,Ks,Kt,Kn,Ko,bu,bt,AV.v.injEq,Value.int.injEq,Value.bool.injEq,Value.string.injEq,AV.vec.injEq,AV.ptr.injEq,true_or,or_true,false_or,or_false,ab.mk.injEq,forall_eq_apply_imp_iff,forall_eq,forall_eq',go_sem])
  rfl
 ·rintro i ⟨hi,hP⟩ K hK
  repeat (first|(with_reducible first|refine ah.up ?_|refine fun (K:AK) hK=> ?_|(refine hK _ ?_;clear hK K))|simp only [go_sem]|with_reducible refine wA ?_|clear hK K)
  refine aO.part (fun h=> ?_) (fun h=> ?_)
  ·have hlt:i<ps.length:=by (try simp only [bne_iff_ne,ne_eq,bne_eq_false_iff_eq,beq_iff_eq,beq_eq_false_iff_ne,decide_eq_true_eq,decide_eq_false_iff_not,Ku,Kv,Kw,Kx] at h);omega
   have eW:=ar (k:=i) (by omega)
   have eG:=getD_map bo ps i [] hlt
   have hm:=KA hlt
   have C:=tv ps[i] (hok.1 _ hm) (hp _ hm).1 (hp _ hm).2
   have eS:=ig aR ps i hlt
   simp only [bo] at C eG
   repeat' (first|(with_reducible first|refine ah.up ?_|refine fun (K:AK) hK=> ?_|(refine hK _ ?_;clear hK K))|simp only [go_sem,eG,eW]|with_reducible refine wA ?_|clear hK K|(with_reducible refine aj.one (by assumption) ?_)|(with_reducible refine aw.one (by assumption) ?_)|(refine aO.part (fun hb=> ?_) (fun hb=> ?_)<;>simp only [hb,go_sem,eG,eW])|(refine aO.part (fun hb=> ?_) (fun hb=> ?_))|(with_reducible refine bH.mk ?_ ?_))
   ·rename_i hb
    exact aC.mk (i+1) ⟨by omega,by rw [eS,hP,hb];rfl⟩ (by omega) (by (refine au ?_ ?_ ?_<;>simp only [aD,Ks,Kt,Kn,Ko,bu,bt,AV.v.injEq,Value.int.injEq,Value.bool.injEq,Value.string.injEq,AV.vec.injEq,AV.ptr.injEq,true_or,or_true,false_or,or_false,ab.mk.injEq,forall_eq_apply_imp_iff,forall_eq,forall_eq',go_sem]))
   ·rename_i hb
    rw [aQ,vH hlt hb];simp
  ·have e1:ps.all aR=true:=by rw [←hP,show i=ps.length by (try simp only [bne_iff_ne,ne_eq,bne_eq_false_iff_eq,beq_iff_eq,beq_eq_false_iff_ne,decide_eq_true_eq,decide_eq_false_iff_not,Ku,Kv,Kw,Kx] at h);omega,KT]
   repeat (first|(with_reducible first|refine ah.up ?_|refine fun (K:AK) hK=> ?_|(refine hK _ ?_;clear hK K))|simp only [go_sem]|with_reducible refine wA ?_|clear hK K)
   clear hP h hi
   refine bE (ι:=Nat) 7 (fun i=>[(4, .v (.int .i64 i)),(5, .undef)]) (fun i=>cs.length - i) (fun i=>i≤cs.length∧(cs.take i).all bU=true) 0 ⟨by omega,rfl⟩ ?_ ?_
   ·(refine au ?_ ?_ ?_<;>simp only [aD,Ks,Kt,Kn,Ko,bu,bt,AV.v.injEq,Value.int.injEq,Value.bool.injEq,Value.string.injEq,AV.vec.injEq,AV.ptr.injEq,true_or,or_true,false_or,or_false,ab.mk.injEq,forall_eq_apply_imp_iff,forall_eq,forall_eq',go_sem])
    rfl
   ·rintro i ⟨hi,hP⟩ K hK
    repeat (first|(with_reducible first|refine ah.up ?_|refine fun (K:AK) hK=> ?_|(refine hK _ ?_;clear hK K))|simp only [go_sem]|with_reducible refine wA ?_|clear hK K)
    refine aO.part (fun h=> ?_) (fun h=> ?_)
    ·have hlt:i<cs.length:=by (try simp only [bne_iff_ne,ne_eq,bne_eq_false_iff_eq,beq_iff_eq,beq_eq_false_iff_ne,decide_eq_true_eq,decide_eq_false_iff_not,Ku,Kv,Kw,Kx] at h);omega
     have eW:=ar (k:=i) (by omega)
     have eG:=getD_map bg cs i [] hlt
     have hm:=KA hlt
     have C1:=gW cs[i].left (hok.2.1 _ hm).1
     have C2:=gW cs[i].right (hok.2.1 _ hm).2
     have eS:=ig bU cs i hlt
     simp only [bg,aN] at C1 C2 eG
     repeat' (first|(with_reducible first|refine ah.up ?_|refine fun (K:AK) hK=> ?_|(refine hK _ ?_;clear hK K))|simp only [go_sem,eG,eW]|with_reducible refine wA ?_|clear hK K|(with_reducible refine aj.one (by assumption) ?_)|(with_reducible refine aw.one (by assumption) ?_)|(refine aO.part (fun hb=> ?_) (fun hb=> ?_)<;>simp only [hb,go_sem,eG,eW])|(refine aO.part (fun hb=> ?_) (fun hb=> ?_))|(with_reducible refine bH.mk ?_ ?_))
     all_goals first
      | ((refine congrArg Value.bool ?_);(have e2:bU cs[i]=false:=by (rw [←Bool.not_eq_true];intro hc;simp only [bU,kr,Bool.and_eq_true,decide_eq_true_eq] at hc;simp_all<;>omega));(rw [aQ,vH hlt e2];simp;done))
      | exact aC.mk (i+1) ⟨by omega,by rw [eS,hP];simp only [bU,kr] at *; simp_all<;>omega⟩ (by omega) (by (refine au ?_ ?_ ?_<;>simp only [aD,Ks,Kt,Kn,Ko,bu,bt,AV.v.injEq,Value.int.injEq,Value.bool.injEq,Value.string.injEq,AV.vec.injEq,AV.ptr.injEq,true_or,or_true,false_or,or_false,ab.mk.injEq,forall_eq_apply_imp_iff,forall_eq,forall_eq',go_sem]))
    ·have e2:cs.all bU=true:=by rw [←hP,show i=cs.length by (try simp only [bne_iff_ne,ne_eq,bne_eq_false_iff_eq,beq_iff_eq,beq_eq_false_iff_ne,decide_eq_true_eq,decide_eq_false_iff_not,Ku,Kv,Kw,Kx] at h);omega,KT]
     repeat (first|(with_reducible first|refine ah.up ?_|refine fun (K:AK) hK=> ?_|(refine hK _ ?_;clear hK K))|simp only [go_sem]|with_reducible refine wA ?_|clear hK K)
     clear hP h hi
     refine bE (ι:=Nat) 7 (fun i=>[(6, .v (.int .i64 i)),(5, .undef)]) (fun i=>rs.length - i) (fun i=>i≤rs.length∧(rs.take i).all cq=true) 0 ⟨by omega,rfl⟩ ?_ ?_
     ·(refine au ?_ ?_ ?_<;>simp only [aD,Ks,Kt,Kn,Ko,bu,bt,AV.v.injEq,Value.int.injEq,Value.bool.injEq,Value.string.injEq,AV.vec.injEq,AV.ptr.injEq,true_or,or_true,false_or,or_false,ab.mk.injEq,forall_eq_apply_imp_iff,forall_eq,forall_eq',go_sem])
      rfl
     ·rintro i ⟨hi,hP⟩ K hK
      repeat (first|(with_reducible first|refine ah.up ?_|refine fun (K:AK) hK=> ?_|(refine hK _ ?_;clear hK K))|simp only [go_sem]|with_reducible refine wA ?_|clear hK K)
      refine aO.part (fun h=> ?_) (fun h=> ?_)
      ·have hlt:i<rs.length:=by (try simp only [bne_iff_ne,ne_eq,bne_eq_false_iff_eq,beq_iff_eq,beq_eq_false_iff_ne,decide_eq_true_eq,decide_eq_false_iff_not,Ku,Kv,Kw,Kx] at h);omega
       have eW:=ar (k:=i) (by omega)
       have eG:=getD_map aN rs i [] hlt
       have hm:=KA hlt
       have C1:=gW rs[i] (hok.2.2 _ hm)
       have eS:=ig cq rs i hlt
       simp only [aN] at C1 eG
       repeat' (first|(with_reducible first|refine ah.up ?_|refine fun (K:AK) hK=> ?_|(refine hK _ ?_;clear hK K))|simp only [go_sem,eG,eW]|with_reducible refine wA ?_|clear hK K|(with_reducible refine aj.one (by assumption) ?_)|(with_reducible refine aw.one (by assumption) ?_)|(refine aO.part (fun hb=> ?_) (fun hb=> ?_)<;>simp only [hb,go_sem,eG,eW])|(refine aO.part (fun hb=> ?_) (fun hb=> ?_))|(with_reducible refine bH.mk ?_ ?_))
       all_goals first
        | ((refine congrArg Value.bool ?_);(have e2:cq rs[i]=false:=by (simp_all [cq]));(rw [aQ,vH hlt e2];simp;done))
        | exact aC.mk (i+1) ⟨by omega,by rw [eS,hP];simp_all [cq]⟩ (by omega) (by (refine au ?_ ?_ ?_<;>simp only [aD,Ks,Kt,Kn,Ko,bu,bt,AV.v.injEq,Value.int.injEq,Value.bool.injEq,Value.string.injEq,AV.vec.injEq,AV.ptr.injEq,true_or,or_true,false_or,or_false,ab.mk.injEq,forall_eq_apply_imp_iff,forall_eq,forall_eq',go_sem]))
      ·have e3:rs.all cq=true:=by rw [←hP,show i=rs.length by (try simp only [bne_iff_ne,ne_eq,bne_eq_false_iff_eq,beq_iff_eq,beq_eq_false_iff_ne,decide_eq_true_eq,decide_eq_false_iff_not,Ku,Kv,Kw,Kx] at h);omega,KT]
       repeat (first|(with_reducible first|refine ah.up ?_|refine fun (K:AK) hK=> ?_|(refine hK _ ?_;clear hK K))|simp only [go_sem]|with_reducible refine wA ?_|clear hK K)
       refine congrArg Value.bool ?_
       rw [aQ,e1,e2,e3]
       simp only [kr]
       simp_all
       omega
end Go.Proofs.YtldnlbcibmmbbaaGreat
