/- The statements' kit: what is lent, expressions: the walks. -/
import Derived.Test.YtldnlbcibmmbbaaGreatWTy
import Derived.Test.YtldnlbcibmmbbaaGreatWEnc
set_option linter.unusedSimpArgs false
set_option linter.unusedVariables false
open Bool renaming and_true → Kh, true_and → Kj, and_self → Km, not_eq_eq_eq_not → Ku
open Int renaming natCast_inj → Kv, ofNat_lt → Kw, ofNat_le → Kx
open List renaming length_cons → I5, length_nil → IZ, replicate_succ → Kn, replicate_zero → Ko, cons_append → Kq, nil_append → Kr, foldl_cons → Ks, foldl_nil → Kt
namespace Go.Proofs.YtldnlbcibmmbbaaGreat
open Go.RowKit
attribute [go_sem] Value.oneCell'
def pN (i:Nat):AV:= .v (.int .i64 ((8000024+i:Nat):Int))
def dc (i:Nat):List AV:=[pN i, .v (.string ⟨#[]⟩), .v (.slice none 0 0)]
def dX (f:Nat→List AV):Nat→List (List AV)
 | 0=>[]
 | n+1=>dX f n++[f n]
@[go_sem] theorem fM (f:Nat→List AV): ∀n,(dX f n).length=n
 | 0=>rfl
 | n+1=>by rw [dX,List.length_append,fM f n];rfl
def marksOf (f:Nat→List AV):List (List AV):=dX f 12
mutual
def cd:Ex→List AV
 | .mk k s l=>[.v (.int .i64 k), .v (.string s), .an 3 (sb l++marksOf dc) l.length]
def sb:List Ex→List (List AV)
 | []=>[]
 | x :: xs=>cd x :: sb xs
end
theorem mq: ∀l:List Ex,sb l=l.map cd
 | []=>rfl
 | x :: xs=>by rw [sb,mq xs,List.map_cons]
theorem eC (x:Ex):cd x=[.v (.int .i64 x.kind), .v (.string x.label), .an 3 (x.kids.map cd++marksOf dc) x.kids.length]:=by
 obtain ⟨k,s,l⟩:=x;rw [cd,mq];rfl
theorem cD (n:Nat) (a b:List (List AV)):ct n (a++b)=(ct n a&&ct n b):=by
 induction a with
 | nil=>simp [ct]
 | cons x a ih=>simp [ct,ih,Bool.and_assoc]
theorem du (n:Nat) (f:Nat→List AV) (h: ∀i,bB n (f i)=true): ∀k,ct n (dX f k)=true
 | 0=>rfl
 | k+1=>by simp [dX,cD,du n f h k,ct,h]
theorem uN (n:Nat) (f:Nat→List AV) (h: ∀i,bB n (f i)=true):ct n (marksOf f)=true:=du n f h 12
@[go_sem] theorem Em (f:Nat→List AV):(marksOf f).length=12:=fM f 12
theorem oT (n:Nat) (i:Nat):bB n (dc i)=true:=rfl
theorem mc (n:Nat) (x:Ex):bB n (cd x)=true:=by
 induction x using Ex.ind with
 | h k s l ih=>
  rw [cd,mq]
  simp only [bB,AV.wf,Kh,Kj,cD,uN n _ (oT n)]
  exact mH (fun r hr=>by obtain ⟨x,hx,rfl⟩:=List.mem_map.1 hr;exact ih x hx)
theorem n9 (n:Nat) (l:List Ex):ct n (l.map cd)=true:=cV _ (mc n) l
attribute [go_sem] mc n9 cD
@[go_sem] theorem Ga (n k:Nat):ct n (dX dc k)=true:=du n _ (oT n) k
@[go_sem] theorem qN (n:Nat):ct n (marksOf dc)=true:=uN n _ (oT n)
set_option maxRecDepth 100000 in
theorem rM (i:Nat) (hi:i<1000):ai Tryz.prog 109 [.v (.int .i64 1), .v (.int .i64 i)] (pN i):=by
 unfold pN
 (refine ai.enter Tryz.func109 rfl (by kernel_rfl) (by kernel_rfl) rfl (by first|rfl|(simp only [go_sem,Km,Kh,Kj])) (by first|rfl|(simp only [go_sem,Km,Kh,Kj])) ?_;simp only [Tryz.ntmps109,Tryz.results109,I5,IZ,Nat.reduceAdd,Nat.reduceSub,Kn,Ko,Kq,Kr])
 repeat (first|(with_reducible first|refine ah.up ?_|refine fun (K:AK) hK=> ?_|(refine hK _ ?_;clear hK K))|simp only [go_sem]|clear hK K)
 rw [cL (n:=(1:Int)+7) (by decide) (by decide)]
 rw [cL (n:=(1000003:Int) * (1+7)) (by decide) (by decide)]
 rw [cL (by omega) (by omega)]
 congr 2
set_option maxRecDepth 100000 in
theorem pV (i:Nat) (hi:i<1000):ai Tryz.prog 126 [.v (.int .i64 1), .v (.int .i64 i)] (.agg (dc i)):=by
 have M:=rM i hi
 simp only [pN] at M
 simp only [dc,pN]
 (refine ai.enter Tryz.func126 rfl (by kernel_rfl) (by kernel_rfl) rfl (by first|rfl|(simp only [go_sem,Km,Kh,Kj])) (by first|rfl|(simp only [go_sem,Km,Kh,Kj])) ?_;simp only [Tryz.ntmps126,Tryz.results126,I5,IZ,Nat.reduceAdd,Nat.reduceSub,Kn,Ko,Kq,Kr])
 repeat (first|(with_reducible first|refine ah.up ?_|refine fun (K:AK) hK=> ?_|(refine hK _ ?_;clear hK K))|simp only [go_sem]|clear hK K)
 refine aj.one M ?_
 repeat (first|(with_reducible first|refine ah.up ?_|refine fun (K:AK) hK=> ?_|(refine hK _ ?_;clear hK K))|simp only [go_sem]|clear hK K)
 (refine ju.of 40 rfl ?_;simp only [go_sem])
theorem da {α β:Type} (f:α→β) (l:List α) (k:Nat) (h:k<l.length):(l.take (k+1)).map f=(l.take k).map f++[f l[k]]:=by
 rw [List.take_add_one,List.map_append];simp [h]
theorem sr (l:List Ex) (hl:l.length≤1000000) (H: ∀x,x∈l→ai Tryz.prog 108 [.agg (bL x)] (.agg (cd x))) :
  ai Tryz.prog 122 [.an 3 (l.map bL) l.length] (.an 3 (l.map cd++marksOf dc) l.length):=by
 have e1:IntKind.i64.wrap ((l.length:Int)+12)=((l.length+12:Nat):Int):=by rw [cL (by omega) (by omega)];omega
 (refine ai.enter Tryz.func122 rfl (by kernel_rfl) (by kernel_rfl) rfl (by first|rfl|(simp only [go_sem,Km,Kh,Kj])) (by first|rfl|(simp only [go_sem,Km,Kh,Kj])) ?_;simp only [Tryz.ntmps122,Tryz.results122,I5,IZ,Nat.reduceAdd,Nat.reduceSub,Kn,Ko,Kq,Kr])
 repeat (first|(with_reducible first|refine ah.up ?_|refine fun (K:AK) hK=> ?_|(refine hK _ ?_;clear hK K))|simp only [go_sem,e1]|with_reducible refine wA ?_|clear hK K)
 refine aZ (ι:=Nat) (fun k=>[(0, .an 3 (l.map bL) l.length),(2, .v (.slice none 0 0)),(3, .vec 0 k),(4, .v (.int .i64 k))]) (fun k=>[some ⟨43,3,true,(l.take k).map cd⟩]) (fun k=>l.length - k) (fun k=>k≤l.length) 0 (by omega) ?_ ?_
 ·(refine au ?_ ?_ ?_<;>simp only [aD,Ks,Kt,Kn,Ko,bu,bt,AV.v.injEq,Value.int.injEq,Value.bool.injEq,Value.string.injEq,AV.vec.injEq,AV.ptr.injEq,true_or,or_true,false_or,or_false,ab.mk.injEq,forall_eq_apply_imp_iff,forall_eq,forall_eq',go_sem])
  rfl
 ·intro k hk K hK
  simp only [aD,Ks,Kt,Kn,Ko,go_sem]
  repeat (first|(with_reducible first|refine ah.up ?_|refine fun (K:AK) hK=> ?_|(refine hK _ ?_;clear hK K))|simp only [go_sem]|with_reducible refine wA ?_|clear hK K)
  refine aO.part (fun h=> ?_) (fun h=> ?_)
  ·have hlt:k<l.length:=by (try simp only [bne_iff_ne,ne_eq,bne_eq_false_iff_eq,beq_iff_eq,beq_eq_false_iff_ne,decide_eq_true_eq,decide_eq_false_iff_not,Ku,Kv,Kw,Kx] at h);omega
   have eG:=getD_map bL l k [] hlt
   have eW:=ar (k:=k) (by omega)
   have HX:=H l[k] (List.getElem_mem hlt)
   have eT:(l.take (k+1)).map cd=(l.take k).map cd++[cd l[k]]:=da cd l k hlt
   simp only [aY,eC] at HX eG eT
   repeat (first|(with_reducible first|refine ah.up ?_|refine fun (K:AK) hK=> ?_|(refine hK _ ?_;clear hK K))|simp only [go_sem,eG,eW,aY]|with_reducible refine wA ?_|clear hK K)
   refine aj.one HX ?_
   have eL:(l.take k).length=k:=by rw [List.length_take];omega
   repeat (first|(with_reducible first|refine ah.up ?_|refine fun (K:AK) hK=> ?_|(refine hK _ ?_;clear hK K))|simp only [go_sem,eW,eL]|with_reducible refine wA ?_|clear hK K)
   exact aC.mk (k+1) (by omega) (by omega) (by (refine au ?_ ?_ ?_<;>simp only [aD,Ks,Kt,Kn,Ko,bu,bt,AV.v.injEq,Value.int.injEq,Value.bool.injEq,Value.string.injEq,AV.vec.injEq,AV.ptr.injEq,true_or,or_true,false_or,or_false,ab.mk.injEq,forall_eq_apply_imp_iff,forall_eq,forall_eq',go_sem]);exact eT.symm)
  ·have hkl:k=l.length:=by (try simp only [bne_iff_ne,ne_eq,bne_eq_false_iff_eq,beq_iff_eq,beq_eq_false_iff_ne,decide_eq_true_eq,decide_eq_false_iff_not,Ku,Kv,Kw,Kx] at h);omega
   have eA:List.map cd (List.take k l)=l.map cd:=by rw [hkl,List.take_length]
   repeat (first|(with_reducible first|refine ah.up ?_|refine fun (K:AK) hK=> ?_|(refine hK _ ?_;clear hK K))|simp only [go_sem,eA]|with_reducible refine wA ?_|clear hK K)
   refine aZ (ι:=Nat) (fun i=>[(0, .an 3 (l.map bL) l.length),(2, .v (.slice none 0 0)),(3, .vec 0 (l.length+i)),(6, .v (.int .i64 i))]) (fun i=>[some ⟨43,3,true,l.map cd++dX dc i⟩]) (fun i=>12 - i) (fun i=>i≤12) 0 (by omega) ?_ ?_
   ·(refine au ?_ ?_ ?_<;>simp only [aD,Ks,Kt,Kn,Ko,bu,bt,AV.v.injEq,Value.int.injEq,Value.bool.injEq,Value.string.injEq,AV.vec.injEq,AV.ptr.injEq,true_or,or_true,false_or,or_false,ab.mk.injEq,forall_eq_apply_imp_iff,forall_eq,forall_eq',go_sem])
    ·exact ⟨hkl,rfl⟩
    ·simp [dX]
   ·intro i hi K hK
    simp only [aD,Ks,Kt,Kn,Ko,go_sem]
    repeat (first|(with_reducible first|refine ah.up ?_|refine fun (K:AK) hK=> ?_|(refine hK _ ?_;clear hK K))|simp only [go_sem]|with_reducible refine wA ?_|clear hK K)
    refine aO.part (fun h2=> ?_) (fun h2=> ?_)
    ·have hlt:i<12:=by (try simp only [bne_iff_ne,ne_eq,bne_eq_false_iff_eq,beq_iff_eq,beq_eq_false_iff_ne,decide_eq_true_eq,decide_eq_false_iff_not,Ku,Kv,Kw,Kx] at h2);omega
     have eW:=ar (k:=i) (by omega)
     have M:=pV i (by omega)
     simp only [dc,pN] at M
     repeat (first|(with_reducible first|refine ah.up ?_|refine fun (K:AK) hK=> ?_|(refine hK _ ?_;clear hK K))|simp only [go_sem,eW]|with_reducible refine wA ?_|clear hK K)
     refine aj.one M ?_
     repeat (first|(with_reducible first|refine ah.up ?_|refine fun (K:AK) hK=> ?_|(refine hK _ ?_;clear hK K))|simp only [go_sem,eW]|with_reducible refine wA ?_|clear hK K)
     exact aC.mk (i+1) (by omega) (by omega) (by (refine au ?_ ?_ ?_<;>simp only [aD,Ks,Kt,Kn,Ko,bu,bt,AV.v.injEq,Value.int.injEq,Value.bool.injEq,Value.string.injEq,AV.vec.injEq,AV.ptr.injEq,true_or,or_true,false_or,or_false,ab.mk.injEq,forall_eq_apply_imp_iff,forall_eq,forall_eq',go_sem])<;>rfl)
    ·have h12:i=12:=by (try simp only [bne_iff_ne,ne_eq,bne_eq_false_iff_eq,beq_iff_eq,beq_eq_false_iff_ne,decide_eq_true_eq,decide_eq_false_iff_not,Ku,Kv,Kw,Kx] at h2);omega
     have eM:dX dc i=marksOf dc:=by rw [h12];rfl
     repeat (first|(with_reducible first|refine ah.up ?_|refine fun (K:AK) hK=> ?_|(refine hK _ ?_;clear hK K))|simp only [go_sem,eM]|with_reducible refine wA ?_|clear hK K)
     exact ju.an (by simp only [cD,n9,qN,Km])
def Ex.lens (n:Nat) (x:Ex):Prop:= ∀y,y∈ak x→y.kids.length≤n
set_option maxRecDepth 100000 in
theorem wV (x:Ex) (hx:x.lens 1000000):ai Tryz.prog 108 [.agg (bL x)] (.agg (cd x)):=by
 induction x using Ex.ind with
 | h k s l ih=>
  have hk: ∀y,y∈l→y.lens 1000000:=fun y hy z hz=>hx z (by rw [ak,bJ];exact List.mem_cons_of_mem _ (List.mem_flatMap.2 ⟨y,hy,hz⟩))
  have C:=sr l (hx (.mk k s l) (by rw [ak];exact List.mem_cons_self)) (fun y hy=>ih y hy (hk y hy))
  rw [aY,eC]
  simp only [Ex.kind,Ex.label,Ex.kids]
  (refine ai.enter Tryz.func108 rfl (by kernel_rfl) (by kernel_rfl) rfl (by first|rfl|(simp only [go_sem,Km,Kh,Kj])) (by first|rfl|(simp only [go_sem,Km,Kh,Kj])) ?_;simp only [Tryz.ntmps108,Tryz.results108,I5,IZ,Nat.reduceAdd,Nat.reduceSub,Kn,Ko,Kq,Kr])
  repeat (first|(with_reducible first|refine ah.up ?_|refine fun (K:AK) hK=> ?_|(refine hK _ ?_;clear hK K))|simp only [go_sem]|with_reducible refine wA ?_|clear hK K)
  refine aj.one C ?_
  repeat (first|(with_reducible first|refine ah.up ?_|refine fun (K:AK) hK=> ?_|(refine hK _ ?_;clear hK K))|simp only [go_sem]|with_reducible refine wA ?_|clear hK K)
  (refine ju.of 40 rfl ?_;simp only [go_sem])
end Go.Proofs.YtldnlbcibmmbbaaGreat
