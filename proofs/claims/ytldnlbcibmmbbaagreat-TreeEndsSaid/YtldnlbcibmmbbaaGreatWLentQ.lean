/- The statements' kit: what is lent, a query: the walks. Printed by gen_lent.py. -/
import Derived.Test.YtldnlbcibmmbbaaGreatWLent
set_option linter.unusedSimpArgs false
set_option linter.unusedVariables false
open Bool renaming and_true → Kh, and_self → Km, true_and → Kj, not_eq_eq_eq_not → Ku
open Int renaming natCast_inj → Kv, ofNat_lt → Kw, ofNat_le → Kx
open List renaming length_cons → I5, length_nil → IZ, replicate_succ → Kn, replicate_zero → Ko, cons_append → Kq, nil_append → Kr, foldl_cons → Ks, foldl_nil → Kt, take_of_length_le → KQ
namespace Go.Proofs.YtldnlbcibmmbbaaGreat
open Go.RowKit
def cT (i:Nat):List AV:=[.v (.string ⟨#[]⟩), .v (.string ⟨#[]⟩), .v (.bool false), .v (.string ⟨#[109]⟩), .v (.string ⟨#[]⟩),pN i, .v (.string ⟨#[]⟩), .v (.slice none 0 0)]
def dA (i:Nat):List AV:=[pN i, .v (.int .i64 0), .v (.string ⟨#[]⟩), .v (.string ⟨#[]⟩), .v (.int .i64 0), .v (.int .i64 0), .v (.string ⟨#[]⟩), .v (.int .i64 0), .v (.string ⟨#[]⟩), .v (.string ⟨#[]⟩), .v (.int .i64 0), .v (.int .i64 0), .v (.string ⟨#[]⟩)]
def dy (i:Nat):List AV:=[.v (.int .i64 0), .v (.string ⟨#[]⟩), .v (.string ⟨#[]⟩), .v (.int .i64 0),pN i, .v (.string ⟨#[]⟩)]
def b9 (p:cQ):List AV:=[.v (.string p.aD), .v (.string p.to), .v (.bool p.path), .v (.string p.label), .v (.string p.name), .v (.int .i64 p.expr.kind), .v (.string p.expr.label), .an 3 (p.expr.kids.map cd++marksOf dc) p.expr.kids.length]
def fK (q:dF):List AV:=[.an 8 (q.ao.map b9++marksOf cT) q.ao.length, .an 13 (q.conds.map bg++marksOf dA) q.conds.length, .an 6 (q.ret.map aN++marksOf dy) q.ret.length, .v (.int .i64 q.range), .v (.int .i64 q.cU)]
theorem qZ (n:Nat) (p:cQ):bB n (b9 p)=true:=by simp only [b9,bB,AV.wf,cD,n9,qN,Kh,Km]
@[go_sem] theorem lD (n:Nat) (l:List cQ):ct n (l.map b9)=true:=cV _ (qZ n) l
@[go_sem] theorem FY (n k:Nat):ct n (dX cT k)=true:=du n _ (fun _=>rfl) k
@[go_sem] theorem kj (n:Nat):ct n (marksOf cT)=true:=du n _ (fun _=>rfl) 12
@[go_sem] theorem Gl (n k:Nat):ct n (dX dA k)=true:=du n _ (fun _=>rfl) k
@[go_sem] theorem j9 (n:Nat):ct n (marksOf dA)=true:=du n _ (fun _=>rfl) 12
@[go_sem] theorem FV (n k:Nat):ct n (dX dy k)=true:=du n _ (fun _=>rfl) k
@[go_sem] theorem j1 (n:Nat):ct n (marksOf dy)=true:=du n _ (fun _=>rfl) 12
set_option maxRecDepth 100000 in
theorem xD (i:Nat) (hi:i<1000):ai Tryz.prog 80 [.v (.int .i64 1), .v (.int .i64 i)] (.agg (cT i)):=by
 have M:=rM i hi
 simp only [pN] at M
 simp only [cT,pN]
 (refine ai.enter Tryz.func80 rfl (by kernel_rfl) (by kernel_rfl) rfl (by first|rfl|(simp only [go_sem,Km,Kh,Kj])) (by first|rfl|(simp only [go_sem,Km,Kh,Kj])) ?_;simp only [Tryz.ntmps80,Tryz.results80,I5,IZ,Nat.reduceAdd,Nat.reduceSub,Kn,Ko,Kq,Kr])
 repeat (first|(with_reducible first|refine ah.up ?_|refine fun (K:AK) hK=> ?_|(refine hK _ ?_;clear hK K))|simp only [go_sem]|clear hK K)
 refine aj.one M ?_
 repeat (first|(with_reducible first|refine ah.up ?_|refine fun (K:AK) hK=> ?_|(refine hK _ ?_;clear hK K))|simp only [go_sem]|clear hK K)
 (refine ju.of 40 rfl ?_;simp only [go_sem])
set_option maxRecDepth 100000 in
theorem xK (i:Nat) (hi:i<1000):ai Tryz.prog 81 [.v (.int .i64 1), .v (.int .i64 i)] (.agg (dA i)):=by
 have M:=rM i hi
 simp only [pN] at M
 simp only [dA,pN]
 (refine ai.enter Tryz.func81 rfl (by kernel_rfl) (by kernel_rfl) rfl (by first|rfl|(simp only [go_sem,Km,Kh,Kj])) (by first|rfl|(simp only [go_sem,Km,Kh,Kj])) ?_;simp only [Tryz.ntmps81,Tryz.results81,I5,IZ,Nat.reduceAdd,Nat.reduceSub,Kn,Ko,Kq,Kr])
 repeat (first|(with_reducible first|refine ah.up ?_|refine fun (K:AK) hK=> ?_|(refine hK _ ?_;clear hK K))|simp only [go_sem]|clear hK K)
 refine aj.one M ?_
 repeat (first|(with_reducible first|refine ah.up ?_|refine fun (K:AK) hK=> ?_|(refine hK _ ?_;clear hK K))|simp only [go_sem]|clear hK K)
 (refine ju.of 40 rfl ?_;simp only [go_sem])
set_option maxRecDepth 100000 in
theorem xk (i:Nat) (hi:i<1000):ai Tryz.prog 82 [.v (.int .i64 1), .v (.int .i64 i)] (.agg (dy i)):=by
 have M:=rM i hi
 simp only [pN] at M
 simp only [dy,pN]
 (refine ai.enter Tryz.func82 rfl (by kernel_rfl) (by kernel_rfl) rfl (by first|rfl|(simp only [go_sem,Km,Kh,Kj])) (by first|rfl|(simp only [go_sem,Km,Kh,Kj])) ?_;simp only [Tryz.ntmps82,Tryz.results82,I5,IZ,Nat.reduceAdd,Nat.reduceSub,Kn,Ko,Kq,Kr])
 repeat (first|(with_reducible first|refine ah.up ?_|refine fun (K:AK) hK=> ?_|(refine hK _ ?_;clear hK K))|simp only [go_sem]|clear hK K)
 refine aj.one M ?_
 repeat (first|(with_reducible first|refine ah.up ?_|refine fun (K:AK) hK=> ?_|(refine hK _ ?_;clear hK K))|simp only [go_sem]|clear hK K)
 (refine ju.of 40 rfl ?_;simp only [go_sem])
set_option maxRecDepth 100000 in
theorem qo (p:cQ) (hx:p.expr.lens 1000000):ai Tryz.prog 79 [.agg (bo p)] (.agg (b9 p)):=by
 have C:=wV p.expr hx
 simp only [aY,eC] at C
 simp only [bo,b9]
 (refine ai.enter Tryz.func79 rfl (by kernel_rfl) (by kernel_rfl) rfl (by first|rfl|(simp only [go_sem,Km,Kh,Kj])) (by first|rfl|(simp only [go_sem,Km,Kh,Kj])) ?_;simp only [Tryz.ntmps79,Tryz.results79,I5,IZ,Nat.reduceAdd,Nat.reduceSub,Kn,Ko,Kq,Kr])
 repeat (first|(with_reducible first|refine ah.up ?_|refine fun (K:AK) hK=> ?_|(refine hK _ ?_;clear hK K))|simp only [go_sem]|clear hK K)
 refine aj.one C ?_
 repeat (first|(with_reducible first|refine ah.up ?_|refine fun (K:AK) hK=> ?_|(refine hK _ ?_;clear hK K))|simp only [go_sem]|clear hK K)
 (refine ju.of 40 rfl ?_;simp only [go_sem])
theorem kK {n:Nat} (h:n≤1000000):IntKind.i64.wrap ((n:Int)+12)=((n+12:Nat):Int):=by rw [cL (by omega) (by omega)];omega
set_option maxRecDepth 100000 in
set_option maxHeartbeats 2000000 in
theorem oB (l:List cQ) (hl:l.length≤1000000) (hx: ∀p,p∈l→p.expr.lens 1000000) :
  ai Tryz.prog 37 [.an 8 (l.map bo) l.length] (.an 8 (l.map b9++marksOf cT) l.length):=by
 have e1:IntKind.i64.wrap ((l.length:Int)+12)=((l.length+12:Nat):Int):=kK hl
 (refine ai.enter Tryz.func37 rfl (by kernel_rfl) (by kernel_rfl) rfl (by first|rfl|(simp only [go_sem,Km,Kh,Kj])) (by first|rfl|(simp only [go_sem,Km,Kh,Kj])) ?_;simp only [Tryz.ntmps37,Tryz.results37,I5,IZ,Nat.reduceAdd,Nat.reduceSub,Kn,Ko,Kq,Kr])
 repeat (first|(with_reducible first|refine ah.up ?_|refine fun (K:AK) hK=> ?_|(refine hK _ ?_;clear hK K))|simp only [go_sem,e1]|with_reducible refine wA ?_|clear hK K)
 refine aZ (ι:=Nat) (fun k=>[(0, .an 8 (l.map bo) l.length),(2, .v (.slice none 0 0)),(3, .vec 0 k),(4, .v (.int .i64 k))]) (fun k=>[some ⟨45,8,true,(l.take k).map b9⟩]) (fun k=>l.length - k) (fun k=>k≤l.length) 0 (by omega) ?_ ?_
 ·(refine au ?_ ?_ ?_<;>simp only [aD,Ks,Kt,Kn,Ko,bu,bt,AV.v.injEq,Value.int.injEq,Value.bool.injEq,Value.string.injEq,AV.vec.injEq,AV.ptr.injEq,true_or,or_true,false_or,or_false,ab.mk.injEq,forall_eq_apply_imp_iff,forall_eq,forall_eq',go_sem])
  rfl
 ·intro k hk K hK
  simp only [aD,Ks,Kt,Kn,Ko,go_sem]
  repeat (first|(with_reducible first|refine ah.up ?_|refine fun (K:AK) hK=> ?_|(refine hK _ ?_;clear hK K))|simp only [go_sem]|with_reducible refine wA ?_|clear hK K)
  refine aO.part (fun h=> ?_) (fun h=> ?_)
  ·have hlt:k<l.length:=by (try simp only [bne_iff_ne,ne_eq,bne_eq_false_iff_eq,beq_iff_eq,beq_eq_false_iff_ne,decide_eq_true_eq,decide_eq_false_iff_not,Ku,Kv,Kw,Kx] at h);omega
   have eG:=getD_map bo l k [] hlt
   have eW:=ar (k:=k) (by omega)
   have HX:=qo l[k] (hx _ (List.getElem_mem hlt))
   have eT:(l.take (k+1)).map b9=(l.take k).map b9++[b9 l[k]]:=da b9 l k hlt
   simp only [bo,b9] at HX eG eT
   repeat (first|(with_reducible first|refine ah.up ?_|refine fun (K:AK) hK=> ?_|(refine hK _ ?_;clear hK K))|simp only [go_sem,eG,eW,bo]|with_reducible refine wA ?_|clear hK K)
   refine aj.one HX ?_
   have eL:(l.take k).length=k:=by rw [List.length_take];omega
   repeat (first|(with_reducible first|refine ah.up ?_|refine fun (K:AK) hK=> ?_|(refine hK _ ?_;clear hK K))|simp only [go_sem,eW,eL]|with_reducible refine wA ?_|clear hK K)
   exact aC.mk (k+1) (by omega) (by omega) (by (refine au ?_ ?_ ?_<;>simp only [aD,Ks,Kt,Kn,Ko,bu,bt,AV.v.injEq,Value.int.injEq,Value.bool.injEq,Value.string.injEq,AV.vec.injEq,AV.ptr.injEq,true_or,or_true,false_or,or_false,ab.mk.injEq,forall_eq_apply_imp_iff,forall_eq,forall_eq',go_sem]);exact eT.symm)
  ·have hkl:k=l.length:=by (try simp only [bne_iff_ne,ne_eq,bne_eq_false_iff_eq,beq_iff_eq,beq_eq_false_iff_ne,decide_eq_true_eq,decide_eq_false_iff_not,Ku,Kv,Kw,Kx] at h);omega
   have eA:List.map b9 (List.take k l)=l.map b9:=by rw [hkl,List.take_length]
   repeat (first|(with_reducible first|refine ah.up ?_|refine fun (K:AK) hK=> ?_|(refine hK _ ?_;clear hK K))|simp only [go_sem,eA]|with_reducible refine wA ?_|clear hK K)
   refine aZ (ι:=Nat) (fun i=>[(0, .an 8 (l.map bo) l.length),(2, .v (.slice none 0 0)),(3, .vec 0 (l.length+i)),(6, .v (.int .i64 i))]) (fun i=>[some ⟨45,8,true,l.map b9++dX cT i⟩]) (fun i=>12 - i) (fun i=>i≤12) 0 (by omega) ?_ ?_
   ·(refine au ?_ ?_ ?_<;>simp only [aD,Ks,Kt,Kn,Ko,bu,bt,AV.v.injEq,Value.int.injEq,Value.bool.injEq,Value.string.injEq,AV.vec.injEq,AV.ptr.injEq,true_or,or_true,false_or,or_false,ab.mk.injEq,forall_eq_apply_imp_iff,forall_eq,forall_eq',go_sem])
    ·exact ⟨hkl,rfl⟩
    ·simp [dX]
   ·intro i hi K hK
    simp only [aD,Ks,Kt,Kn,Ko,go_sem]
    repeat (first|(with_reducible first|refine ah.up ?_|refine fun (K:AK) hK=> ?_|(refine hK _ ?_;clear hK K))|simp only [go_sem]|with_reducible refine wA ?_|clear hK K)
    refine aO.part (fun h2=> ?_) (fun h2=> ?_)
    ·have hlt:i<12:=by (try simp only [bne_iff_ne,ne_eq,bne_eq_false_iff_eq,beq_iff_eq,beq_eq_false_iff_ne,decide_eq_true_eq,decide_eq_false_iff_not,Ku,Kv,Kw,Kx] at h2);omega
     have eW:=ar (k:=i) (by omega)
     have M:=xD i (by omega)
     simp only [cT,pN] at M
     repeat (first|(with_reducible first|refine ah.up ?_|refine fun (K:AK) hK=> ?_|(refine hK _ ?_;clear hK K))|simp only [go_sem,eW]|with_reducible refine wA ?_|clear hK K)
     refine aj.one M ?_
     repeat (first|(with_reducible first|refine ah.up ?_|refine fun (K:AK) hK=> ?_|(refine hK _ ?_;clear hK K))|simp only [go_sem,eW]|with_reducible refine wA ?_|clear hK K)
     exact aC.mk (i+1) (by omega) (by omega) (by (refine au ?_ ?_ ?_<;>simp only [aD,Ks,Kt,Kn,Ko,bu,bt,AV.v.injEq,Value.int.injEq,Value.bool.injEq,Value.string.injEq,AV.vec.injEq,AV.ptr.injEq,true_or,or_true,false_or,or_false,ab.mk.injEq,forall_eq_apply_imp_iff,forall_eq,forall_eq',go_sem])<;>rfl)
    ·have h12:i=12:=by (try simp only [bne_iff_ne,ne_eq,bne_eq_false_iff_eq,beq_iff_eq,beq_eq_false_iff_ne,decide_eq_true_eq,decide_eq_false_iff_not,Ku,Kv,Kw,Kx] at h2);omega
     have eM:dX cT i=marksOf cT:=by rw [h12];rfl
     repeat (first|(with_reducible first|refine ah.up ?_|refine fun (K:AK) hK=> ?_|(refine hK _ ?_;clear hK K))|simp only [go_sem,eM]|with_reducible refine wA ?_|clear hK K)
     exact ju.an (by simp only [cD,lD,kj,Km])
set_option maxRecDepth 100000 in
set_option maxHeartbeats 2000000 in
theorem CZ (l:List ew) (hl:l.length≤1000000) :
  ai Tryz.prog 38 [.an 13 (l.map bg) l.length] (.an 13 (l.map bg++marksOf dA) l.length):=by
 have e1:IntKind.i64.wrap ((l.length:Int)+12)=((l.length+12:Nat):Int):=kK hl
 have eT:List.take l.length (l.map bg)=l.map bg:=by rw [KQ (by simp)]
 (refine ai.enter Tryz.func38 rfl (by kernel_rfl) (by kernel_rfl) rfl (by first|rfl|(simp only [go_sem,Km,Kh,Kj])) (by first|rfl|(simp only [go_sem,Km,Kh,Kj])) ?_;simp only [Tryz.ntmps38,Tryz.results38,I5,IZ,Nat.reduceAdd,Nat.reduceSub,Kn,Ko,Kq,Kr])
 repeat (first|(with_reducible first|refine ah.up ?_|refine fun (K:AK) hK=> ?_|(refine hK _ ?_;clear hK K))|simp only [go_sem,e1,eT]|with_reducible refine wA ?_|clear hK K)
 refine aZ (ι:=Nat) (fun i=>[(0, .an 13 (l.map bg) l.length),(2, .v (.slice none 0 0)),(3, .vec 0 (l.length+i)),(4, .v (.int .i64 i))]) (fun i=>[some ⟨37,13,true,l.map bg++dX dA i⟩]) (fun i=>12 - i) (fun i=>i≤12) 0 (by omega) ?_ ?_
 ·(refine au ?_ ?_ ?_<;>simp only [aD,Ks,Kt,Kn,Ko,bu,bt,AV.v.injEq,Value.int.injEq,Value.bool.injEq,Value.string.injEq,AV.vec.injEq,AV.ptr.injEq,true_or,or_true,false_or,or_false,ab.mk.injEq,forall_eq_apply_imp_iff,forall_eq,forall_eq',go_sem])
  ·exact ⟨rfl,rfl⟩
  ·simp [dX]
 ·intro i hi K hK
  simp only [aD,Ks,Kt,Kn,Ko,go_sem]
  repeat (first|(with_reducible first|refine ah.up ?_|refine fun (K:AK) hK=> ?_|(refine hK _ ?_;clear hK K))|simp only [go_sem]|with_reducible refine wA ?_|clear hK K)
  refine aO.part (fun h2=> ?_) (fun h2=> ?_)
  ·have hlt:i<12:=by (try simp only [decide_eq_true_eq,decide_eq_false_iff_not] at h2);omega
   have eW:=ar (k:=i) (by omega)
   have M:=xK i (by omega)
   simp only [dA,pN] at M
   repeat (first|(with_reducible first|refine ah.up ?_|refine fun (K:AK) hK=> ?_|(refine hK _ ?_;clear hK K))|simp only [go_sem,eW]|with_reducible refine wA ?_|clear hK K)
   refine aj.one M ?_
   repeat (first|(with_reducible first|refine ah.up ?_|refine fun (K:AK) hK=> ?_|(refine hK _ ?_;clear hK K))|simp only [go_sem,eW]|with_reducible refine wA ?_|clear hK K)
   exact aC.mk (i+1) (by omega) (by omega) (by (refine au ?_ ?_ ?_<;>simp only [aD,Ks,Kt,Kn,Ko,bu,bt,AV.v.injEq,Value.int.injEq,Value.bool.injEq,Value.string.injEq,AV.vec.injEq,AV.ptr.injEq,true_or,or_true,false_or,or_false,ab.mk.injEq,forall_eq_apply_imp_iff,forall_eq,forall_eq',go_sem])<;>rfl)
  ·have h12:i=12:=by (try simp only [decide_eq_true_eq,decide_eq_false_iff_not] at h2);omega
   have eM:dX dA i=marksOf dA:=by rw [h12];rfl
   repeat (first|(with_reducible first|refine ah.up ?_|refine fun (K:AK) hK=> ?_|(refine hK _ ?_;clear hK K))|simp only [go_sem,eM]|with_reducible refine wA ?_|clear hK K)
   exact ju.an (by simp only [cD,de,j9,Km])
set_option maxRecDepth 100000 in
set_option maxHeartbeats 2000000 in
theorem Da (l:List cg) (hl:l.length≤1000000) :
  ai Tryz.prog 39 [.an 6 (l.map aN) l.length] (.an 6 (l.map aN++marksOf dy) l.length):=by
 have e1:IntKind.i64.wrap ((l.length:Int)+12)=((l.length+12:Nat):Int):=kK hl
 have eT:List.take l.length (l.map aN)=l.map aN:=by rw [KQ (by simp)]
 (refine ai.enter Tryz.func39 rfl (by kernel_rfl) (by kernel_rfl) rfl (by first|rfl|(simp only [go_sem,Km,Kh,Kj])) (by first|rfl|(simp only [go_sem,Km,Kh,Kj])) ?_;simp only [Tryz.ntmps39,Tryz.results39,I5,IZ,Nat.reduceAdd,Nat.reduceSub,Kn,Ko,Kq,Kr])
 repeat (first|(with_reducible first|refine ah.up ?_|refine fun (K:AK) hK=> ?_|(refine hK _ ?_;clear hK K))|simp only [go_sem,e1,eT]|with_reducible refine wA ?_|clear hK K)
 refine aZ (ι:=Nat) (fun i=>[(0, .an 6 (l.map aN) l.length),(2, .v (.slice none 0 0)),(3, .vec 0 (l.length+i)),(4, .v (.int .i64 i))]) (fun i=>[some ⟨34,6,true,l.map aN++dX dy i⟩]) (fun i=>12 - i) (fun i=>i≤12) 0 (by omega) ?_ ?_
 ·(refine au ?_ ?_ ?_<;>simp only [aD,Ks,Kt,Kn,Ko,bu,bt,AV.v.injEq,Value.int.injEq,Value.bool.injEq,Value.string.injEq,AV.vec.injEq,AV.ptr.injEq,true_or,or_true,false_or,or_false,ab.mk.injEq,forall_eq_apply_imp_iff,forall_eq,forall_eq',go_sem])
  ·exact ⟨rfl,rfl⟩
  ·simp [dX]
 ·intro i hi K hK
  simp only [aD,Ks,Kt,Kn,Ko,go_sem]
  repeat (first|(with_reducible first|refine ah.up ?_|refine fun (K:AK) hK=> ?_|(refine hK _ ?_;clear hK K))|simp only [go_sem]|with_reducible refine wA ?_|clear hK K)
  refine aO.part (fun h2=> ?_) (fun h2=> ?_)
  ·have hlt:i<12:=by (try simp only [decide_eq_true_eq,decide_eq_false_iff_not] at h2);omega
   have eW:=ar (k:=i) (by omega)
   have M:=xk i (by omega)
   simp only [dy,pN] at M
   repeat (first|(with_reducible first|refine ah.up ?_|refine fun (K:AK) hK=> ?_|(refine hK _ ?_;clear hK K))|simp only [go_sem,eW]|with_reducible refine wA ?_|clear hK K)
   refine aj.one M ?_
   repeat (first|(with_reducible first|refine ah.up ?_|refine fun (K:AK) hK=> ?_|(refine hK _ ?_;clear hK K))|simp only [go_sem,eW]|with_reducible refine wA ?_|clear hK K)
   exact aC.mk (i+1) (by omega) (by omega) (by (refine au ?_ ?_ ?_<;>simp only [aD,Ks,Kt,Kn,Ko,bu,bt,AV.v.injEq,Value.int.injEq,Value.bool.injEq,Value.string.injEq,AV.vec.injEq,AV.ptr.injEq,true_or,or_true,false_or,or_false,ab.mk.injEq,forall_eq_apply_imp_iff,forall_eq,forall_eq',go_sem])<;>rfl)
  ·have h12:i=12:=by (try simp only [decide_eq_true_eq,decide_eq_false_iff_not] at h2);omega
   have eM:dX dy i=marksOf dy:=by rw [h12];rfl
   repeat (first|(with_reducible first|refine ah.up ?_|refine fun (K:AK) hK=> ?_|(refine hK _ ?_;clear hK K))|simp only [go_sem,eM]|with_reducible refine wA ?_|clear hK K)
   exact ju.an (by simp only [cD,dP,j1,Km])
def dF.lens (n:Nat) (q:dF):Prop:=q.ao.length≤n∧q.conds.length≤n∧q.ret.length≤n∧ ∀p,p∈q.ao→p.expr.lens n
set_option maxRecDepth 100000 in
theorem jV (q:dF) (h:q.lens 1000000):ai Tryz.prog 15 [.agg (bI q)] (.agg (fK q)):=by
 have C1:=oB q.ao h.1 h.2.2.2
 have C2:=CZ q.conds h.2.1
 have C3:=Da q.ret h.2.2.1
 simp only [bI,fK]
 (refine ai.enter Tryz.func15 rfl (by kernel_rfl) (by kernel_rfl) rfl (by first|rfl|(simp only [go_sem,Km,Kh,Kj])) (by first|rfl|(simp only [go_sem,Km,Kh,Kj])) ?_;simp only [Tryz.ntmps15,Tryz.results15,I5,IZ,Nat.reduceAdd,Nat.reduceSub,Kn,Ko,Kq,Kr])
 repeat (first|(with_reducible first|refine ah.up ?_|refine fun (K:AK) hK=> ?_|(refine hK _ ?_;clear hK K))|simp only [go_sem]|clear hK K)
 refine aj.one C1 ?_
 repeat (first|(with_reducible first|refine ah.up ?_|refine fun (K:AK) hK=> ?_|(refine hK _ ?_;clear hK K))|simp only [go_sem]|clear hK K)
 refine aj.one C2 ?_
 repeat (first|(with_reducible first|refine ah.up ?_|refine fun (K:AK) hK=> ?_|(refine hK _ ?_;clear hK K))|simp only [go_sem]|clear hK K)
 refine aj.one C3 ?_
 repeat (first|(with_reducible first|refine ah.up ?_|refine fun (K:AK) hK=> ?_|(refine hK _ ?_;clear hK K))|simp only [go_sem]|clear hK K)
 (refine ju.of 40 rfl ?_;simp only [go_sem])
end Go.Proofs.YtldnlbcibmmbbaaGreat
